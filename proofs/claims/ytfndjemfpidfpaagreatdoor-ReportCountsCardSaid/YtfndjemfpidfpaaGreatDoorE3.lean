/- Parts of the proof that the last text states. -/
import Derived.RowKit3
import Derived.Test.YtfndjemfpidfpaaGreatDoorE2
namespace Go.Own
open Go
set_option linter.unusedSectionVars false
variable [cw]
structure hn (g1 g2:aH):Prop where
 sub:∀ t x,g2 t=some x->g1 t=some x
 bR:∀ t x,g2 t=some x->eo g2 x
 e8:∀ t z q n m new,g2 t≠some (.bD z q n m new)
structure cQ where
 size:Nat
 pins:List Nat
def cQ.ok (N:cQ) (d:Nat):Bool:=Nat.blt d N.size&&!N.pins.elem d
def hW (N:cQ) (T T':Array Value):Prop:=T'.size=T.size/\∀ t∈N.pins,T'[t]?=T[t]?
theorem hW.refl {N:cQ}{T:Array Value}:hW N T T:=⟨rfl,λ_ _=>rfl⟩
theorem hW.trans {N:cQ}{T LR LS:Array Value}(h:hW N T LR) (h1:hW N LR LS):hW N T LS:=⟨h1.1.trans h.1,λt au=>(h1.2 t au).trans (h.2 t au)⟩
theorem cQ.lt {N:cQ}{d:Nat}(h:N.ok d=true):d<N.size:=by
 simp_all [cQ.ok]
theorem hW.put {N:cQ}{d:Nat}(h:N.ok d=true) (T:Array Value) (v:Value):hW N T (T.setIfInBounds d v):=by
 refine ⟨by simp,λt au=>?_⟩
 grind [cQ.ok]
def jo (N:cQ) (a:Act) (w:World) (I:a7) (Fs:Nat->a7) (g':aH) (cb:Act) (w':World):Prop :=
 cb.defers=a.defers/\hW N a.tmps cb.tmps/\∃ I' b5,cG w' I' cb.tmps g' b5/\kM w I (λc=>∃ t,Fs t c) w' I' (λc=>∃ t,b5 t c)
theorem ui {b5:Nat->a7}{d:Nat}{F:a7}{c:Nat}(h:∃ t,uh b5 d F t c):(∃ t,b5 t c)\/F c:=by
 obtain ⟨t,h⟩:=h;unfold uh at h
 grind
structure yk (P:Program) (g:aH) (f:FuncId) (all xs0 xs1 args:List ab) (tk:Nat->Bool) (vw:Bool) (g1 g2:aH) (outs:List (Option ab)) (res:ab) (l:List (Place × ab)) (ks:Nat->Nat) (g4:aH):Prop where
 aV:gU P f=true
 Cg:xs0.length=all.length
 xu:args.length=all.length
 aI:∀ (k:Nat) (x:ab),all[k]?=some x->xs0[k]?=some x\/xs0[k]?=some .dead
 au:Take g xs0 xs1 g1
 hk:hn g1 g2
 aQ:∀ (k:Nat) (x y:ab),all[k]?=some x->args[k]?=some y->if tk k then xs1[k]?=some y else vw=true/\View g2 x y
 gH:bO P f args outs res
 ak:if vw then jL res else cK res
 w6:∀ (k:Nat) (x:ab),outs[k]?=some (some x)->if vw then jL x else cK x
 ah:∀ (j:Nat) (p:Place) (x:ab),l[j]?=some (p,x)->Rt g g2 all outs (ks j) p x
 nd:(l.map (·.1)).Nodup
 inj:∀ i j,i<l.length->j<l.length->ks i=ks j->i=j
 X8:hn (p8 g2 l) g4
section
variable {P:Program}{w:World}{I:a7}{T:Array Value}{g:aH}{Fs:Nat->a7}
theorem jb.keep (h:jb w I T g Fs) {g2:aH}(hk:hn g g2):cG w I T g2 (λt c=>g2 t≠none/\Fs t c) :=
 h.aat hk.sub hk.bR λ_ _ _ _ _ _ _ _ _ _ _ h1=>absurd h1 (hk.e8 _ _ _ _ _ _)
structure uu (g:aH) (d:Nat) (g4 g5:aH):Prop where
 sub:∀ t x,g4 t=some x->g5 t=some x
 new:∀ t x,g5 t=some x->g4 t=some x\/(g4 t=none/\t≠d/\g t=some x/\∃ r k cs,x=.ptr ⟨r,[]⟩ k/\r≠d/\g4 r=some (.obj cs)/\k<cs.length)
theorem uu.refl {d:Nat}{g4:aH}:uu g d g4 g4:=⟨λ_ _ h=>h,λ_ _ h=>.inl h⟩
theorem cG.back (h:cG w I T g Fs) {w':World}{I':a7}{d:Nat}{v:Value}{g4 g5:aH}{Ly:Nat->a7}(bk:cG w' I' (T.setIfInBounds d v) g4 Ly) (ao:uu g d g4 g5):cG w' I' (T.setIfInBounds d v) g5 Ly:=by
 refine ⟨λt x J=>?_,λt au c aa=>?_,bk.ep,bk.bf,bk.lt,λt t' z p n m new bM ck bn cO h1 af=>?_,bk.g_⟩
 ·rcases ao.new t x J with aR | ⟨h1,af,aF,r,k,cs,rfl,b2,du,jh⟩
  ·obtain ⟨u,hu,aU⟩:=bk.rel t x aR;exact ⟨u,hu,bk.wG (λ_ _=>rfl) (λ_ _ _=>rfl) (λ_ _=>rfl) (λ_ h=>h) ao.sub aU λ_ _=>rfl⟩
  ·obtain ⟨u,hu,aU⟩:=h.rel t _ aF;obtain ⟨⟨vM,ad,ax,a2,rfl⟩,_⟩:=(aU.fW (by simp)).mz;have c0:∀ s,s≠d->(T.setIfInBounds d v)[s]?=T[s]?:=λs av=>by rw [Array.getElem?_setIfInBounds_ne (Ne.symm av)]
   refine ⟨_,by rw [c0 t af]; exact hu,.tree (.ref rfl ⟨⟨vM,ad,?_,a2,rfl⟩,?_⟩ (bk.kA t h1))⟩
   ·have:dL w T ⟨r,[]⟩=T[r]?:=by
     unfold dL; simp only; cases T[r]? <;> rfl
    rw [this] at ax;unfold dL;simp only [c0 r b2,ax,walk]
   ·exact ⟨.obj cs,by simp [bB,ao.sub r _ du,ab.at],0,0,cs,.inr rfl,jh⟩
 ·cases aR:g4 t with
  | none=>exact bk.kA t aR c aa
  | some y=>rw [ao.sub t y aR] at au; cases au
 ·have:∀ {t z p n m new},g5 t=some (.bD z p n m new)->g4 t=some (.bD z p n m new):=by
   intro t z p n m new J;rcases ao.new t _ J with aR | ⟨_,_,_,r,k,cs,e,_⟩
   ·exact aR
   ·cases e
  exact bk.qV t t' z p n m new bM ck bn cO (this h1) (this af)
def fy (P:Program) (N:cQ) (g:aH) (o:Oper) (d:Nat) (g5:aH):Prop :=
 ∀ (w:World) (I:a7) (T:Array Value) (Fs:Nat->a7),cG w I T g Fs->∀ (a:Act),a.tmps=T->a.tmps.size=N.size->∀ (K:Act->World->Prop) (Q:Exit->Act->World->Prop),
  (∀ (cb:Act) (w':World) (v:Value) (I':a7) (b5:Nat->a7),cb.defers=a.defers->cb.tmps=T.setIfInBounds d v->cG w' I' (T.setIfInBounds d v) g5 b5->kM w I (λc=>∃ t,Fs t c) w' I' (λc=>∃ t,b5 t c)->K cb w')->o.wp P a w K Q
theorem yk.ok {N:cQ}{o:Oper}{c:Operand}{xs:Array Operand}{fT:Array TypeId}{d:Nat}{f:FuncId}{first caps ys xs0 xs1 args:List ab}{tk:Nat->Bool}{vw:Bool}{g1 g2 g4 g5:aH}{outs:List (Option ab)}{res:ab}{l:List (Place × ab)}{ks:Nat->Nat}
  (aM:o.op=.call { callee:=.value c,args:=xs,argTypes:=fT }) (aP:o.dst=some d) (aa:bp g c=some (.dc (.func f) first caps)) (J:hz g xs.toList=some ys)
  (he:yk P g f (first++ys++caps) xs0 xs1 args tk vw g1 g2 outs res l ks g4) (aL:g4 d=none) (jW:N.ok d=true) (im:uu g d (cR g4 d res) g5):fy P N g o d g5:=by
 intro w I T Fs h a aQ bc K Q dk;obtain ⟨v1,v2,so,ah,mo⟩:=D9 h aQ aa J;have h2:(execOp a.eval o).run P w=.ok (.enter f (v1++xs.map a.eval++v2)) w:=by
  simp [execOp,aM,resolve,Deferred.ofValue,so,invoke,AX he.aV]
 generalize vc:(v1++xs.map a.eval++v2).toList=vs at *;generalize Io:first++ys++caps=all at *
 -- what is taken
 have uR:Hand w I (fO w T) Fs xs0 vs (λ_=>cd):=by
  refine ⟨by rw [he.Cg,ah],λk x u J hu=>?_,λ_ _ _ _ _ h=>h.elim,λ_ _ _ _ h=>h.elim,λ_ _ _ h=>h.elim⟩;have hk:k<all.length:=by rw [<- he.Cg]; exact (List.getElem?_eq_some_iff.1 J).1
  have Be:=List.getElem?_eq_getElem hk;rcases he.aI k _ Be with aI | aI
  ·rw [aI] at J; cases J;exact (mo k _ u Be hu).frame (λ_ _=>rfl) (λ_ h=>h) (λ_ _ h=>h.1) λ_ _=>rfl
  ·rw [aI] at J; cases J;exact .dead λ_ h=>h
 obtain ⟨fN,H1,iP,js,fv⟩:=he.au.sound h.mG uR;have NJ:∀ c,lv fN xs1.length H1 c->∃ t,Fs t c:=by
  intro c aa;rcases fv c aa with aR | ⟨_,_,aR⟩
  ·exact aR
  ·exact aR.elim
 have hI:=iP.keep he.hk;generalize UY:(λt c=>g2 t≠none/\fN t c)=j4 at hI;have Ns:∀ t c,j4 t c->fN t c:=by intro t c aa; rw [<- UY] at aa; exact aa.2
 have IY:xs1.length=all.length:=by rw [he.au.length,he.Cg]
 -- what the callee sees
 let DI:a7:=λc=>I c\/(vw=true/\∃ t,j4 t c)
 let ym:Nat->a7:=λt c=>t<all.length/\tk t=true/\H1 t c;have tp:∀ t c,ym t c->(∀ s,¬ j4 s c)/\¬ I c/\∃ t,Fs t c:=by
  rintro t c ⟨h1,af,aF⟩;exact ⟨λs av=>js.off t s c (by omega) aF (Ns s c av),js.bf t c (by omega) aF,NJ c (.inr ⟨t,by omega,aF⟩)⟩
 have Oc:∀ (ρ':ab->Value->Prop) (k:Nat) (y:ab) (u:Value),args[k]?=some y->vs[k]?=some u->R w DI ρ' y u (ym k):=by
  intro ρ' k y u ai hu;have hk:k<all.length:=by rw [<- he.xu]; exact (List.getElem?_eq_some_iff.1 ai).1
  have Be:=List.getElem?_eq_getElem hk;have:=he.aQ k _ y Be ai
  split at this
  ·rename_i au;have mr:cK y:=he.au.Ct y (List.mem_of_getElem? this);exact (((js.rel k y u this hu).bh mr).nj λc aa=>.inl aa).tg λc=>⟨λaa=>⟨hk,au,aa⟩,λaa=>aa.2.2⟩
  ·rename_i au;obtain ⟨hv,Xf⟩:=this;have fc:R w I (fO w T) all[k] u cd:=(mo k _ u Be hu).frame (λ_ _=>rfl) (λ_ h=>h) (λ_ _ h=>h.1) λ_ _=>rfl;have:=View.Qy hI.mG Xf fc (λ_ h=>h.elim) ρ';refine (this.nj (I':=DI) λc aa=>?_).tg λc=>⟨λh=>h.elim,λaa=>absurd aa.2.1 au⟩;rcases aa with aR | aR
   ·exact .inl aR
   ·exact .inr ⟨hv,aR⟩
 have Vq:cG w DI vs.toArray (re args) ym:=by
  refine ⟨λt x J=>?_,λt au c aa=>?_,λt t' c aa dW=>js.ep t t' c (by have:=aa.1; omega) (by have:=dW.1; omega) aa.2.2 dW.2.2,λt c aa hi=>?_,λc aa=>?_,λt t' z p n m new bM ck bn cO h1 af=>?_,cw.keep h.g_ (λ_ _=>rfl) λ_ h=>.inl h⟩
  ·have au:t<args.length:=(List.getElem?_eq_some_iff.1 J).1;have hu:vs[t]?=some (vs[t]'(by rw [<- ah,<- he.xu]; exact au)):=List.getElem?_eq_getElem _;exact ⟨_,by rw [List.getElem?_toArray]; exact hu,.tree (Oc _ t x _ J hu)⟩
  ·have hle:args.length<=t:=by simpa [re] using au
   have:=aa.1; have:=he.xu; omega
  ·obtain ⟨h1,af,_⟩:=tp t c aa;rcases hi with aR | ⟨_,s,aR⟩
   ·exact af aR
   ·exact h1 s aR
  ·rcases aa with aR | ⟨_,s,aR⟩
   ·exact h.lt c aR
   ·exact hI.jC s c aR
  ·have au:t<args.length:=(List.getElem?_eq_some_iff.1 h1).1;have hu:vs[t]?=some (vs[t]'(by rw [<- ah,<- he.xu]; exact au)):=List.getElem?_eq_getElem _;exact (Oc (λ_ _=>False) t _ _ h1 hu).kX.elim
 have n9:=he.gH.2 w DI vs ym (by rw [<- ah,he.xu]) Vq;unfold Oper.wp Oper.upon;simp only [h2];rw [<- vc,Array.toArray_toList] at n9;refine Calls.mono n9 ?_;rintro e w' ⟨v,I',b5,rfl,eL,bQ⟩;rw [vc] at eL;have lF:outs.length=all.length:=by rw [he.gH.1,he.xu]
 have m':vs.length=all.length:=ah.symm
 -- the blocks behind the call
 have P9:∀ t c,j4 t c->w'.heap[c]?=w.heap[c]?:=λt c aa=>bQ.eh.block c (hI.jC t c aa) λ⟨s,av⟩=>(tp s c av).1 t aa;have sS:∀ c,I c->w'.heap[c]?=w.heap[c]?:=λc aa=>bQ.eh.block c (h.lt c aa) λ⟨s,av⟩=>(tp s c av).2.1 aa
 let If:a7:=λc=>if vw then I c else I' c
 have Ku:∀ t c,b5 t c->(∃ s,ym s c)\/w.heap.size<=c:=λt c aa=>bQ.own c ⟨t,aa⟩;have Pu:∀ t c,b5 t c->∀ s,¬ j4 s c:=by
  intro t c aa s av;rcases Ku t c aa with ⟨cY,aR⟩ | aR
  ·exact (tp cY c aR).1 s av
  ·have:=hI.jC s c av; omega
 have Pw:∀ t c,b5 t c->¬ If c:=by
  intro t c aa hi;cases vw with
  | true =>
   simp only [If,if_true] at hi;rcases Ku t c aa with ⟨cY,aR⟩ | aR
   ·exact (tp cY c aR).2.1 hi
   ·have:=h.lt c hi; omega
  | false =>
   simp only [If,Bool.false_eq_true,if_false] at hi;exact eL.bf t c aa hi
 have Nx:∀ c,If c->I c\/(∃ s,ym s c)\/w.heap.size<=c:=by
  intro c aa;cases vw with
  | true=>simp only [If,if_true] at aa; exact .inl aa
  | false =>
   simp only [If,Bool.false_eq_true,if_false] at aa;rcases bQ.new c aa with aR | aR | aR
   ·rcases aR with aR | ⟨aR,_⟩
    ·exact .inl aR
    ·cases aR
   ·exact .inr (.inl aR)
   ·exact .inr (.inr aR)
 have H9:∀ c,I c->If c:=by
  intro c aa;cases vw with
  | true=>simp only [If,if_true]; exact aa
  | false=>simp only [If,Bool.false_eq_true,if_false]; exact bQ.more c (.inl aa)
 have Ik:cG w' If T g2 j4:=by
  have:=hI.world (w':=w') P9 sS bQ.eh.size;refine ⟨λt x J=>?_,this.kA,this.ep,λt c aa hi=>?_,λc aa=>?_,this.qV,cw.keep h.g_ sS H9⟩
  ·obtain ⟨v,hv,aU⟩:=this.rel t x J;exact ⟨v,hv,aU.frame (λ_ _=>rfl) H9 (λ_ _ h=>h) (λ_ _ _ _ _ _ _=>rfl) λ_ _=>rfl⟩
  ·rcases Nx c hi with aR | ⟨s,aR⟩ | aR
   ·exact hI.bf t c aa aR
   ·exact (tp s c aR).1 t aa
   ·have:=hI.jC t c aa; omega
  ·cases vw with
   | true=>simp only [If,if_true] at aa; exact Nat.lt_of_lt_of_le (h.lt c aa) bQ.eh.size
   | false=>simp only [If,Bool.false_eq_true,if_false] at aa; exact eL.lt c aa
 -- what comes back in the arguments, and the result
 have Ml:∀ {x:ab}{u:Value}{F:a7}{ρ ρ':ab->Value->Prop},R w' I' ρ x u F->(if vw then jL x else cK x)->R w' If ρ' x u F:=by
  intro x u F ρ ρ' aU J;cases vw with
  | true=>simp only [if_true] at J; exact aU.kY J
  | false =>
   simp only [Bool.false_eq_true,if_false] at J;refine (aU.bh J).nj λc aa=>?_;simpa [If] using aa
 have Cr:∀ {x:ab},(if vw then jL x else cK x)->∀ z p n m new,x≠.bD z p n m new:=by
  rintro x J z p n m new rfl;cases vw with
  | true=>simp only [if_true] at J; cases J
  | false=>simp only [Bool.false_eq_true,if_false] at J; cases J
 have YP:∀ (k:Nat) (x:ab) (u:Value),outs[k]?=some (some x)->vs[k]?=some u->R w' If (fO w' T) x u (b5 k):=by
  intro k x u J hu;have hk:k<outs.length:=(List.getElem?_eq_some_iff.1 J).1;obtain ⟨x7,ht,aU⟩:=eL.rel k x (by simp only [h4,if_neg (Nat.ne_of_lt hk),J]; rfl);have:x7=u:=by
   rw [List.getElem?_toArray,List.getElem?_append_left (by rw [m',<- lF]; exact hk),hu] at ht;exact (Option.some.inj ht).symm
  subst this;exact Ml (aU.fW (Cr (he.w6 k x J))) (he.w6 k x J)
 obtain ⟨K_,w_,mn⟩:=eL.rel outs.length res (by simp [h4]);have W':K_=v:=by
  have e:outs.length=vs.length:=by omega
  rw [e] at w_;simpa using w_.symm
 subst W'
 -- back into the places
 obtain ⟨we,yV,yT⟩:=jb.p8 (w:=w') (I:=If) (T:=T) l (λj=>b5 (ks j)) (λj=>vs.getD (ks j) undef) Ik.mG he.nd (λj p x ag=>by
   have L:=he.ah j p x ag;have hk:ks j<outs.length:=(List.getElem?_eq_some_iff.1 L.out).1;have hu:vs[ks j]?=some (vs[ks j]'(by rw [m',<- lF]; exact hk)):=List.getElem?_eq_getElem _;have rv:vs.getD (ks j) undef=vs[ks j]'(by rw [m',<- lF]; exact hk):=by simp [List.getD,hu]
   refine ⟨L.Md,?_,?_,λi e=>?_⟩
   ·rw [rv,hI.x9 (w':=w') (λ_ _=>rfl) P9 L.Md];rcases L.arg with ⟨z,n,cs,h1,af⟩ | ⟨cs,h1,af⟩
    ·exact R1 h (mo _ _ _ h1 hu) af
    ·exact R0 h (mo _ _ _ h1 hu) af
   ·rw [rv]; exact YP _ x _ L.out hu
   ·exact L.l7 i e)
  (λj t c ag aa=>Pu _ c aa t) (λj c ag aa=>Pw _ c aa) (λi j c hi ag h1 af=>he.inj i j hi ag (eL.ep _ _ c h1 af))
 have Il:=yV.keep he.X8;have YH:∀ t c,b5 outs.length c->¬ (g4 t≠none/\we t c):=by
  rintro t c aa ⟨_,bk⟩;rcases yT t c bk with aR | ⟨j,ag,aR⟩
  ·exact Pu _ c aa t aR
  ·have hk:ks j<outs.length:=by
    have tG:=List.getElem?_eq_getElem ag;exact (List.getElem?_eq_some_iff.1 (he.ah j _ _ tG).out).1
   have:=eL.ep _ _ c aa aR;omega
 have nN:=Il.sP (d:=d) (x:=res) (v:=K_) (F:=b5 outs.length) aL (by rw [<- aQ,bc]; exact cQ.lt jW) (.tree (Ml (mn.fW (Cr he.ak)) he.ak)) YH (λc aa=>Pw _ c aa) (λz p n m new e=>absurd e (Cr he.ak z p n m new));refine dk _ _ K_ If _ (by rw [aP]; rfl) (by rw [aP]; simp [Act.put,aQ]) (h.back nN im) ⟨?_,H9,λc aa=>?_,λc aa=>?_⟩
 ·exact bQ.eh.mono λb _ ⟨s,av⟩=>(tp s b av).2.2
 ·rcases Nx c aa with aR | ⟨s,aR⟩ | aR
  ·exact .inl aR
  ·exact .inr (.inl (tp s c aR).2.2)
  ·exact .inr (.inr aR)
 ·have fin:∀ t,b5 t c->(∃ s,Fs s c)\/w.heap.size<=c:=by
   intro t au;rcases Ku t c au with ⟨s,aR⟩ | aR
   ·exact .inl (tp s c aR).2.2
   ·exact .inr aR
  rcases ui aa with ⟨t,_,aR⟩ | aR
  ·rcases yT t c aR with gh | ⟨j,_,gh⟩
   ·exact .inl (NJ c (.inl ⟨t,Ns t c gh⟩))
   ·exact fin _ gh
  ·exact fin _ aR
structure Q9 (g:aH) (d r k0:Nat) (g4 g5:aH):Prop where
 sub:∀ t x,g4 t=some x->g5 t=some x
 new:∀ t x,g5 t=some x->g4 t=some x\/(g4 t=none/\t≠d/\g t=some x/\∃ m z n cs,x=.ptr ⟨r,[k0]⟩ m/\bB g4 ⟨r,[k0]⟩=some (.own z n cs)/\m<cs.length)
theorem fy.Ui {N:cQ}{o:Oper}{r k0 d:Nat}{y:ab}{cs:List ab}{g5:aH}(ak:g r=some (.obj cs)) (ai:cs[k0]?=some y) (E3:cK y) (lH:∀ i,y≠.self i)
  (zd:∀ v:Value,v.oneCell'=true->∃ g1 g4 uM,hn (cp g ⟨r,[k0]⟩ (.lit v)) g1/\fy P N g1 o d g4/\bB g4 ⟨r,[k0]⟩=some (.lit v)/\hn (cp g4 ⟨r,[k0]⟩ y) uM/\bB uM ⟨r,[k0]⟩=some y/\Q9 g d r k0 uM g5):fy P N g o d g5:=by
 intro w I T Fs h a aQ bc K Q dk;have lG:∀ z q n m new,y≠.bD z q n m new:=by rintro z q n m new rfl; cases E3
 have fR:bB g ⟨r,[k0]⟩=some y:=by simp [bB,ak,ab.at,ab.kids,ai]
 obtain ⟨v,cD,hv,dv,dq,put⟩:=h.mG.part fR lG;have oc:v.oneCell'=true:=by
  obtain ⟨u,hu,nG⟩:=h.rel r _ ak;obtain ⟨b,x7,h1,af,aF,bk,_⟩:=R.node (z:=0) (n:=0) (nG.fW (by simp)) (.inr rfl) ai;have:dL w T ⟨r,[k0]⟩=child w u k0:=by
   unfold dL;simp only [hu,walk];cases child w u k0 <;> rfl
  rw [this,aF] at hv;cases hv;exact bk
 obtain ⟨fN,iP,Et,H3⟩:=put (.lit v) cd (.lit oc λ_ h=>h) (λ_ h=>h.elim) (λ_ h=>h.elim) (λ_ _ _ h=>h.elim) (λ_ h=>by cases h);obtain ⟨g1,g4,uM,eX,dD,Vy,Wu,adE,ao⟩:=zd v oc;have Dl:∀ t c,fN t c->Fs t c/\¬ cD c:=by
  intro t c aa;by_cases au:t=r
  ·subst au;rcases (Et c).1 aa with aR | aR
   ·exact aR
   ·exact aR.elim
  ·rw [H3 t au] at aa;exact ⟨aa,λaV=>au (h.ep t r c aa (dq c aV))⟩
 have Vm:=iP.keep eX;refine dD w I T _ Vm a aQ bc K Q λcb w' dB I' b5 TW A5 eL bQ=>?_;obtain ⟨v2,iF,sC,mX,adu,Ze⟩:=eL.mG.part Vy (by simp);have Xb:v2=v:=mX.gW.1;subst Xb;have U0:∀ c,cD c->¬ I c:=λc aa=>h.bf r c (dq c aa);have H7:∀ c,cD c->c<w.heap.size:=λc aa=>h.jC r c (dq c aa);have Kq:∀ c,cD c->¬ ∃ t,(g1 t≠none/\fN t c):=λc aa ⟨t,_,aR⟩=>(Dl t c aR).2 aa;have Pv:∀ t c,b5 t c->¬ cD c:=by
  intro t c aa aV;rcases bQ.own c ⟨t,aa⟩ with aR | aR
  ·exact Kq c aV aR
  ·have:=H7 c aV; omega
 have YI:∀ c,cD c->¬ I' c:=by
  intro c aa hi;rcases bQ.new c hi with aR | aR | aR
  ·exact U0 c aa aR
  ·exact Kq c aa aR
  ·have:=H7 c aa; omega
 have ZE:∀ c,cD c->w'.heap[c]?=w.heap[c]?:=λc aa=>bQ.eh.block c (H7 c aa) (Kq c aa);have sS:∀ c,I c->w'.heap[c]?=w.heap[c]?:=λc aa=>bQ.eh.block c (h.lt c aa) λ⟨t,_,aR⟩=>h.bf t c (Dl t c aR).1 aa;have Ij:R w' I' (fO w' (T.setIfInBounds d dB)) y v2 cD :=
  ((dv.bh E3).frame sS bQ.more (λ_ _ h=>h) ZE)
 obtain ⟨Ro,Vn,UU,UW⟩:=Ze y cD Ij (λc aa aV=>(Pv _ c aV aa).elim) (λc aa=>YI c aa) (λt c _ aa aV=>Pv t c aV aa) (λi e=>absurd e (lH i));have uS:=Vn.keep Wu;have Xd:dL w' (T.setIfInBounds d dB) ⟨r,[k0]⟩=some v2:=sC;have Vo:cG w' I' (T.setIfInBounds d dB) g5 (λt c=>uM t≠none/\Ro t c):=by
  refine ⟨λt x J=>?_,λt au c aa=>?_,uS.ep,uS.bf,uS.lt,λt t' z p n m new bM ck bn cO h1 af=>?_,uS.g_⟩
  ·rcases ao.new t x J with aR | ⟨h1,af,aF,m,z,n,cs2,rfl,b2,du⟩
   ·obtain ⟨u,hu,aU⟩:=uS.rel t x aR;exact ⟨u,hu,uS.wG (λ_ _=>rfl) (λ_ _ _=>rfl) (λ_ _=>rfl) (λ_ h=>h) ao.sub aU λ_ _=>rfl⟩
   ·obtain ⟨u,hu,aU⟩:=h.rel t _ aF;obtain ⟨⟨vM,ad,ax,a2,rfl⟩,_⟩:=(aU.fW (by simp)).mz;rw [hv] at ax;cases ax;refine ⟨_,by rw [Array.getElem?_setIfInBounds_ne (Ne.symm af)]; exact hu,.tree (.ref rfl ⟨⟨v2,ad,Xd,a2,rfl⟩,?_⟩ (uS.kA t h1))⟩;refine ⟨.own z n cs2,?_,z,n,cs2,.inl rfl,du⟩;unfold Own.bB at b2 ⊢;cases fD:uM r with
    | none=>simp only [fD] at b2; cases b2
    | some x'=>simp only [fD] at b2; simp only [ao.sub r x' fD]; exact b2
  ·cases aR:uM t with
   | none=>exact aa.1 aR
   | some y=>rw [ao.sub t y aR] at au; cases au
  ·have:∀ {t z p n m new},g5 t=some (.bD z p n m new)->uM t=some (.bD z p n m new):=by
    intro t z p n m new J;rcases ao.new t _ J with aR | ⟨_,_,_,m,z,n,cs2,e,_⟩
    ·exact aR
    ·cases e
   exact uS.qV t t' z p n m new bM ck bn cO (this h1) (this af)
 refine dk cb w' dB I' _ TW A5 Vo ⟨?_,bQ.more,λc aa=>?_,λc aa=>?_⟩
 ·exact bQ.eh.mono λb _ ⟨t,_,aR⟩=>⟨t,(Dl t b aR).1⟩
 ·rcases bQ.new c aa with aR | ⟨t,_,aR⟩ | aR
  ·exact .inl aR
  ·exact .inr (.inl ⟨t,(Dl t c aR).1⟩)
  ·exact .inr (.inr aR)
 ·obtain ⟨t,_,aa⟩:=aa;have:(∃ t,b5 t c)\/cD c:=by
   by_cases au:t=r
   ·subst au;rcases (UU c).1 aa with ⟨aR,_⟩ | aR
    ·exact .inl ⟨_,aR⟩
    ·exact .inr aR
   ·rw [UW t au] at aa; exact .inl ⟨t,aa⟩
  rcases this with aR | aR
  ·rcases bQ.own c aR with ⟨t,_,gh⟩ | gh
   ·exact .inl ⟨t,(Dl t c gh).1⟩
   ·exact .inr gh
  ·exact .inl ⟨r,dq c aR⟩
end
end Go.Own
namespace Go.Own
open Go
set_option linter.unusedSectionVars false
variable [cw]
def n3:ab->Option (List ab)
 | .agg cs=>some cs
 | .lit v=>some [.lit v]
 | .bb=>some [.bb]
 | .bf z n cs=>some [.bf z n cs]
 | .own z n cs=>some [.own z n cs]
 | .obj cs=>some [.obj cs]
 | .cL cs=>some [.cL cs]
 | .dc f a b=>some [.dc f a b]
 | _=>none
def hB (P:Program) (t:TypeId) (m:Nat):Bool :=
 match P.info? t with
 | some i=>i.size == m
 | none=>false
def pe (P:Program) (N:cQ) (g:aH) (o:Oper) (g':aH):Prop :=
 ∀ (w:World) (I:a7) (T:Array Value) (Fs:Nat->a7),cG w I T g Fs->∀ (a:Act),a.tmps=T->a.tmps.size=N.size->∀ (K:Act->World->Prop) (Q:Exit->Act->World->Prop),
  (∀ (cb:Act) (w':World),jo N a w I Fs g' cb w'->(∀ t,o.dst≠some t->cb.tmps[t]?=a.tmps[t]?)->K cb w')->o.wp P a w K Q
inductive bx (P:Program) (N:cQ) (g:aH):Oper->aH->Prop
 | assign {o:Oper}{d:Nat}{x:Operand}{y bV y':ab}{g1 g2:aH}(aM:o.op=.assign x) (aP:o.dst=some d) (J:bp g x=some y) (au:Take g [y] [bV] g1) (aT:gE bV y') (hk:hn g1 g2) (aL:g2 d=none) (bc:N.ok d=true):bx P N g o (cR g2 d y')
 | R6 {o:Oper}{d:Nat}{x:Operand}{y:ab}{g2:aH}(aM:o.op=.assign x) (aP:o.dst=some d) (J:bp g x=some y) (hk:hn g g2) (ai:eo g2 y) (aL:g2 d=none) (bc:N.ok d=true):bx P N g o (cR g2 d y)
 | store {o:Oper}{t:TypeId}{ad val:Operand}{p:Place}{k z n:Nat}{y bV y' nd:ab}{cs cs':List ab}{g1 g2:aH}(aM:o.op=.store t ad val) (aP:o.dst=none) (ft:bp g ad=some (.ptr p k)) (od:bp g val=some y) (au:Take g [y] [bV] g1) (nL:gE bV y')
   (aa:n3 y'=some cs') (av:hB P t cs'.length=true) (aw:bB g1 p=some nd) (e7:nd=.own z n cs\/nd=.obj cs) (hk:k+cs'.length<=cs.length) (aI:0<cs'.length)
   (BA:∀ t x,g2 t=some x->cp g1 p (nd.ew k cs') t=some x) (BR:∀ t x,g2 t=some x->∀ y,g1 t=some y->j7 (λr=>gF g1 r/\Clear p k cs'.length r/\gF g2 r) y) (lG:∀ t z q n m new,g2 t≠some (.bD z q n m new)) (mv:g2 p.root≠none):bx P N g o g2
 | call {o:Oper}{d:Nat}{g5:aH}(aP:o.dst=some d) (bc:N.ok d=true) (h:fy P N g o d g5):bx P N g o g5
 | Qg {o:Oper}{g2:aH}(h:pe P N g o g2):bx P N g o g2
theorem SP {y:ab}{cs:List ab}(h:r8 y) (aa:n3 y=some cs):uz cs:=by
 have one:∀ {x:ab},(∀ j,x≠.self j)->uz [x]:=λJ k j e=>by
  cases k with
  | zero=>simp only [List.getElem?_cons_zero,Option.some.injEq] at e; exact J j e
  | succ k=>simp at e
 cases y <;> simp only [Go.Own.n3,Option.some.injEq,reduceCtorEq] at aa <;> subst aa
 all_goals first | exact h _ rfl | exact one (by simp)
theorem View.Cv {g:aH}{x y:ab}(h:View g x y) (J:r8 x):r8 y:=by
 intro cs e k j hk;cases h with
 | self=>exact J _ e k j hk
 | agg ah h=>cases e; exact J _ rfl k j (Fx ah h (λ_ _ _=>View.l7) k j hk)
 | _=>cases e
theorem gE.Cv {x y:ab}(h:gE x y) (J:r8 x):r8 y:=by
 intro cs e k j hk;cases h with
 | refl=>exact J _ e k j hk
 | oi _ h=>exact h.Cv J _ e k j hk
 | agg ah h=>cases e; exact J _ rfl k j (Fx ah h (λ_ _ _=>gE.l7) k j hk)
 | _=>cases e
section
variable {P:Program}{w:World}{I:a7}{T:Array Value}{g:aH}{Fs:Nat->a7}
theorem Hand.one {y:ab}{v:Value}(aU:R w I (dG w T g) y v cd):Hand w I (fO w T) Fs [y] [v] (λ_=>cd) :=
 ⟨rfl,λk x u J hu=>by
  cases k with
  | zero=>simp at J hu; subst J hu; exact aU.frame (λ_ _=>rfl) (λ_ h=>h) (λ_ _ h=>h.1) λ_ _=>rfl
  | succ k=>simp at J,λ_ _ _ _ _ h=>h.elim,λ_ _ _ _ h=>h.elim,λ_ _ _ h=>h.elim⟩
theorem Hand.KG {ρ:ab->Value->Prop}{y:ab}{v:Value}{dm:Nat->a7}(h:Hand w I ρ Fs [y] [v] dm):R w I ρ y v (dm 0):=h.rel 0 y v rfl rfl
theorem Hand.cells {y:ab}{v:Value}{dm:Nat->a7}(h:Hand w I (fO w T) Fs [y] [v] dm) (aA:cK y) {cs:List ab}(aa:n3 y=some cs) :
  ∃ yn,Hand w I (fO w T) Fs cs v.cells.toList yn/\(∀ x∈cs,cK x)/\(∀ (j:Nat) (u:Value),v.cells.toList[j]?=some u->u.oneCell'=true)/\∀ j c,j<cs.length->yn j c->dm 0 c:=by
 have aU:=h.KG;have single:∀ {x:ab},y=x->v.oneCell'=true->∃ yn,Hand w I (fO w T) Fs [x] v.cells.toList yn/\(∀ z∈[x],cK z)/\(∀ (j:Nat) (u:Value),v.cells.toList[j]?=some u->u.oneCell'=true)/\∀ j c,j<[x].length->yn j c->dm 0 c:=by
  rintro x rfl h1;have ED:v.cells=#[v]:=by cases v <;> first | rfl | (simp [Value.oneCell'] at h1)
  grind
 cases y <;> simp only [n3,Option.some.injEq,reduceCtorEq] at aa
 case agg l =>
  subst aa;cases aU with
  | ref J=>simp [ab.isRef] at J
  | @agg _ vs bH _ ah h1 ak aP aE =>
   have eD:∀ k c,k<l.length->bH k c->dm 0 c:=λk c hk aa=>(aE c).2 ⟨k,hk,aa⟩;refine ⟨bH,⟨by simp [Value.cells,ah],λk x u J hu=>ak k x u J (by simpa [Value.cells] using hu),aP,λk t c hk aa=>h.off 0 t c (by simp) (eD k c hk aa),λk c hk aa=>h.bf 0 c (by simp) (eD k c hk aa)⟩,?_,λj u hu=>h1 j u (by simpa [Value.cells] using hu),eD⟩;cases aA with | agg h=>exact h
 case lit a=>subst aa; exact single rfl (by obtain ⟨rfl,h1⟩:=aU.gW; exact h1)
 case bb=>subst aa; exact single rfl (by rw [aU.p1]; rfl)
 case bf z n l=>subst aa; exact single rfl (by obtain ⟨a,cap,rfl,_⟩:=aU.zm; rfl)
 case own z n l=>subst aa; exact single rfl (by obtain ⟨a,cap,rfl,_⟩:=aU.mC; rfl)
 case cL l=>subst aa; exact single rfl (by obtain ⟨ad,us,rfl,_⟩:=aU.xm; rfl)
 case obj l =>
  subst aa;refine single rfl ?_;cases aU with
  | ref J=>simp [ab.isRef] at J
  | obj=>rfl
 case dc f a b =>
  subst aa;refine single rfl ?_;cases aU with
  | ref J=>simp [ab.isRef] at J
  | dc=>rfl
theorem ja.nj {I':a7}{ρ:ab->Value->Prop}{x:ab}{v:Value}{F:a7}(h:ja w I ρ x v F) (a':∀ c,I c->I' c):ja w I' ρ x v F:=by
 cases h with
 | tree h=>exact .tree (h.nj a')
 | bD h=>exact .bD ⟨h.ka,h.iq,h.nb,h.ah,h.h1,λk x u J hu=>(h.ak k x u J hu).nj a',h.aE⟩
theorem Nf {g1:aH}{fN:Nat->a7}{H1:Nat->a7}{bV y':ab}{v:Value}(a_:jb w I T g1 fN) (hH:Hand w I (fO w T) fN [bV] [v] H1) (aA:cK bV) (aT:gE bV y') :
  ∃ (I':a7) (s4:a7),(∀ c,I c->I' c)/\(∀ c,I' c->I c\/H1 0 c)/\jb w I' T g1 fN/\Hand w I' (fO w T) fN [y'] [v] (λ_=>s4)/\∀ c,s4 c->H1 0 c:=by
 have aU:=hH.KG;obtain ⟨s4,gi,h_⟩:=R.fJ aT aU aA (λc aa=>hH.bf 0 c (by simp) aa) a_.lt a_.g_;refine ⟨λc=>I c\/(H1 0 c/\¬ s4 c),s4,λc aa=>.inl aa,λc aa=>aa.elim .inl λh=>.inr h.1,⟨λt x J=>?_,a_.kA,a_.ep,λt c aa hi=>?_,λc aa=>?_,cw.keep a_.g_ (λ_ _=>rfl) λ_ h=>.inl h⟩,⟨rfl,λk x u J hu=>?_,λj k c ag hk _ _=>by simp at ag hk; omega,λk t c hk aa aV=>hH.off 0 t c (by simp) (gi c aa) aV,λk c hk aa hi=>?_⟩,gi⟩
 ·obtain ⟨u,hu,nG⟩:=a_.rel t x J;exact ⟨u,hu,nG.nj λc aa=>.inl aa⟩
 ·rcases hi with h | ⟨h,_⟩
  ·exact a_.bf t c aa h
  ·exact hH.off 0 t c (by simp) h aa
 ·rcases aa with h | ⟨h,_⟩
  ·exact a_.lt c h
  ·exact aU.lt c h
 ·cases k with
  | zero=>simp at J hu; subst J hu; exact h_
  | succ k=>simp at J
 ·rcases hi with h | ⟨_,h⟩
  ·exact hH.bf 0 c (by simp) (gi c aa) h
  ·exact h aa
theorem bx.oL {N:cQ}{o:Oper}{g':aH}(he:bx P N g o g'):pe P N g o g':=by
 intro w I T Fs h a aQ bc K Q dk;cases he with
 | Qg he=>exact he w I T Fs h a aQ bc K Q dk
 | @call d _ aP jW aa =>
  refine aa w I T Fs h a aQ bc K Q λcb w' v I' b5 h1 af aF bk=>dk cb w' ⟨h1,by rw [af,<- aQ]; exact hW.put jW _ _,I',b5,by rw [af]; exact aF,bk⟩ λt au=>?_;rw [af,aQ,Array.getElem?_setIfInBounds_ne];rintro rfl;exact au aP
 | @assign d x y bV y' g1 g2 aM aP J au aT hk aL jW =>
  have aU:=kZ h J aQ;obtain ⟨fN,H1,sk,uR,fv⟩:=au.sound h.mG (Hand.one aU);have BK:cK bV:=au.Ct bV (by simp);obtain ⟨I',s4,nF,H8,iP,js,gi⟩:=Nf sk uR BK aT;have mr:cK y':=aT.bh BK;have hI:=iP.keep hk;have nN:=hI.sP (d:=d) (x:=y') (v:=a.eval x) (F:=s4) aL (by rw [<- aQ,bc]; exact cQ.lt jW) (.tree (js.KG.bh mr)) (λt c aa aV=>js.off 0 t c (by simp) aa aV.2) (λc aa=>js.bf 0 c (by simp) aa) (by rintro z p n m new rfl; cases mr);have h2:(execOp a.eval o).run P w=.ok (.value (a.eval x)) w:=by simp [execOp,aM]
  unfold Oper.wp Oper.upon;simp only [h2];have gq:∀ c,H1 0 c->∃ t,Fs t c:=λc aa=>by
   rcases fv c (.inr ⟨0,by simp,aa⟩) with gh | ⟨_,_,gh⟩
   ·exact gh
   ·exact gh.elim
  refine dk _ _ ⟨by rw [aP]; rfl,by rw [aP]; exact hW.put jW _ _,I',_,by rw [aP]; simpa [Act.put,aQ] using nN,⟨Fr.refl _ _,nF,λc aa=>(H8 c aa).elim .inl λh=>.inr (.inl (gq c h)),λc aa=>?_⟩⟩ λt au=>by rw [aP]; simp only [Act.put]; rw [Array.getElem?_setIfInBounds_ne]; rintro rfl; exact au aP
  rcases ui aa with ⟨t,_,aR⟩ | aR
  ·rcases fv c (.inl ⟨t,aR⟩) with gh | ⟨_,_,gh⟩
   ·exact .inl gh
   ·exact gh.elim
  ·exact .inl (gq c (gi c aR))
 | @R6 d x y g2 aM aP J hk ai aL jW =>
  have aU:=kZ h J aQ;have hI:=h.mG.keep hk;have h_:R w I (dG w T g2) y (a.eval x) cd:=(aU.frame (ρ':=fO w T) (λ_ _=>rfl) (λ_ h=>h) (λ_ _ h=>h.1) λ_ _=>rfl).bR ai;have nN:=hI.sP (d:=d) (x:=y) (v:=a.eval x) (F:=cd) aL (by rw [<- aQ,bc]; exact cQ.lt jW) (.tree h_) (λ_ _ h=>h.elim) (λ_ h=>h.elim) (by rintro z p n m new rfl; exact h_.kX.elim);have h2:(execOp a.eval o).run P w=.ok (.value (a.eval x)) w:=by simp [execOp,aM]
  unfold Oper.wp Oper.upon;simp only [h2];refine dk _ _ ⟨by rw [aP]; rfl,by rw [aP]; exact hW.put jW _ _,I,_,by rw [aP]; simpa [Act.put,aQ] using nN,⟨Fr.refl _ _,λ_ h=>h,λ_ h=>.inl h,λc aa=>?_⟩⟩ λt au=>by rw [aP]; simp only [Act.put]; rw [Array.getElem?_setIfInBounds_ne]; rintro rfl; exact au aP
  rcases ui aa with ⟨t,_,aR⟩ | aR
  ·exact .inl ⟨t,aR⟩
  ·exact aR.elim
 | @store t ad val p k z n y bV y' nd cs cs' g1 _ aM aP ft od au nL aa av aw e7 hk aI BA BR lG mv =>
  have mn:=kZ h od aQ;obtain ⟨⟨u,abj,hu,uT,tE⟩,_⟩:=(kZ h ft aQ).mz;obtain ⟨fN,H0,sk,uR,Io⟩:=au.sound h.mG (Hand.one mn);have BK:cK bV:=au.Ct bV (by simp);obtain ⟨I',s4,nF,H8,iP,js,W3⟩:=Nf sk uR BK nL;have mr:cK y':=nL.bh BK;have gq:∀ c,H0 0 c->∃ t,Fs t c:=λc aa=>by
   rcases Io c (.inr ⟨0,by simp,aa⟩) with gh | ⟨_,_,gh⟩
   ·exact gh
   ·exact gh.elim
  have fv:∀ c,lv fN 1 (λ_=>s4) c->lv Fs [y].length (λ_=>cd) c:=by
   rintro c (⟨t,aa⟩ | ⟨_,_,aa⟩)
   ·exact Io c (.inl ⟨t,aa⟩)
   ·exact .inl (gq c (W3 c aa))
  obtain ⟨yn,Nw,IE,fw,U6⟩:=js.cells mr aa;have kX:∀ z q n m new,nd≠.bD z q n m new:=by rcases e7 with rfl | rfl <;> simp
  obtain ⟨v,cD,hv,dv,dq,_⟩:=iP.part aw kX;rw [hu] at hv;cases hv;obtain ⟨b,gj,ao,_⟩:=dv.node e7 (List.getElem?_eq_getElem (show k<cs.length by omega));rw [uT] at ao;cases ao;have ku:∃ e arr,w.heap[b]?=some (.cells arr e (0,0))/\cs.length<=arr.size:=by
   rcases e7 with rfl | rfl
   ·cases dv with
    | ref J=>simp [ab.isRef] at J
    | own jw ah =>
     obtain ⟨iu,br⟩:=jw;rcases br with ⟨rfl,_⟩ | ⟨ig,cap,cur,rfl,_,iW,qW,o6,z7,xT⟩
     ·simp [addrOf] at uT
     ·simp only [addrOf,Option.some.injEq,Addr.mk.injEq,and_true] at uT;subst uT;refine ⟨_,cur,iW,?_⟩;rw [ah,<- xT,List.length_take]; simp; omega
   ·cases dv with
    | ref J=>simp [ab.isRef] at J
    | obj jw ah =>
     simp only [addrOf,Option.some.injEq,Addr.mk.injEq,and_true] at uT;subst uT;exact ⟨_,_,jw,by omega⟩
  obtain ⟨e,arr,ku,hle⟩:=ku;obtain ⟨j4,hI,gi⟩:=iP.store aw e7 hk Nw IE (λ_=>SP (nL.Cv (au.Cv (by simpa using Ks od) bV (by simp))) aa) fw BA BR lG mv hu uT ku;have hZ:(a.eval val).cells.toList.length=cs'.length:=Nw.len.symm;have bQ:=run_storeCells_at P b k e (a.eval val).cells.toList 0 arr w ku (by omega) (λu hu=>by
   obtain ⟨j,ag,rfl⟩:=List.mem_iff_getElem.1 hu;exact fw j _ (List.getElem?_eq_getElem ag))
  simp only [Nat.add_zero] at bQ;have dO:(sizeOf t).run P w=.ok cs'.length w:=by
   unfold hB at av;cases hi:P.info? t with
   | none=>simp [hi] at av
   | some i=>simp [hi] at av; simp [sizeOf,typeInfo,hi,av]
  have h2:(execOp a.eval o).run P w=.ok .skip (w.setRow b (ew arr.toList k (a.eval val).cells.toList).toArray):=by
   have gB:(a.eval val).cells.size=cs'.length:=by rw [<- Array.length_toList]; exact hZ
   simp only [Nat.zero_add] at tE;simp [execOp,aM,tE,Instr.storeAt,Instr.sureAddr,storeVar,dO,gB,bQ,ew]
  unfold Oper.wp Oper.upon;simp only [h2];have tB:∃ t,Fs t b:=by
   rcases fv b (.inl ⟨_,dq b (dv.Fv e7 (ad:=⟨b,0,none⟩) uT)⟩) with aR | ⟨_,_,aR⟩
   ·exact aR
   ·exact aR.elim
  refine dk _ _ ⟨by rw [aP]; rfl,by rw [aP]; exact hW.refl,I',j4,by rw [aP]; simpa [Act.put,aQ] using hI,⟨⟨rfl,rfl,rfl,by simp,λc _ aa=>setRow_other w b c _ (λe=>aa (e ▸ tB)),λa _ _=>Eo w b _ a,Nat.le_refl _⟩,nF,λc aa=>(H8 c aa).elim .inl λh=>.inr (.inl (gq c h)),λc ⟨t,aa⟩=>?_⟩⟩ λt _=>by rw [aP]; rfl
  rcases gi t c aa with aR | ⟨j,ag,aR⟩
  ·rcases fv c (.inl ⟨t,aR⟩) with gh | ⟨_,_,gh⟩
   ·exact .inl gh
   ·exact gh.elim
  ·rcases fv c (.inr ⟨0,by simp,U6 j c ag aR⟩) with gh | ⟨_,_,gh⟩
   ·exact .inl gh
   ·exact gh.elim
theorem bx.sound (h:cG w I T g Fs) {a:Act}(aQ:a.tmps=T) {N:cQ}(bc:a.tmps.size=N.size) {o:Oper}{g':aH}(he:bx P N g o g') {K:Act->World->Prop}{Q:Exit->Act->World->Prop}
  (dk:∀ cb w',jo N a w I Fs g' cb w'->K cb w'):o.wp P a w K Q:=he.oL w I T Fs h a aQ bc K Q λcb w' h _=>dk cb w' h
end
end Go.Own
namespace Go.Own
open Go
set_option linter.unusedSectionVars false
variable [cw]
def nX (g g':aH):Prop:=∀ t x,g t=some x->g' t=some x
section
variable {P:Program}{g g':aH}
theorem eA (h:nX g g') {x:Operand}{y:ab}(ai:bp g x=some y):bp g' x=some y:=by
 cases x <;> simp only [bp] at ai ⊢
 case tmp t =>
  cases J:g t with
  | none=>rw [J] at ai; cases ai
  | some z=>rw [J] at ai; rw [h t z J]; exact ai
 case const v=>exact ai
 case global n=>exact ai
 case func f=>exact ai
theorem zx (h:nX g g'):∀ {xs:List Operand}{ys:List ab},hz g xs=some ys->hz g' xs=some ys
 | [],_,ai=>ai
 | x::xs,ys,ai=>by
  simp only [hz] at ai ⊢;cases J:bp g x with
  | none=>simp [J] at ai
  | some y =>
   cases rO:hz g xs with
   | none=>simp [J,rO] at ai
   | some Dz=>simp only [J,rO] at ai; simp only [eA h J,zx h rO]; exact ai
theorem PI (h:nX g g'):∀ {l:List (Nat × Operand)}{ps:List (Nat × List ab)},qR g l=some ps->qR g' l=some ps
 | [],_,ai=>ai
 | (i,x)::l,ps,ai=>by
  simp only [qR] at ai ⊢;cases J:bp g x with
  | none=>simp [J] at ai
  | some y =>
   cases rO:qR g l with
   | none=>simp [J,rO] at ai
   | some Dz=>simp only [J,rO] at ai; simp only [eA h J,PI h rO]; exact ai
theorem pd.mono (h:nX g g') {d:Nat}{x:Option Operand}{j:Nat}(ao:pd g d x j):pd g' d x j:=by
 cases x with
 | none=>exact ao
 | some o=>obtain ⟨k,hk⟩:=ao; exact ⟨k,eA h hk⟩
theorem c9.mono (h:nX g g') {op:Op}{ty:TypeId}{x:ab}(aw:c9 P g op ty x):c9 P g' op ty x:=by
 cases aw with
 | move J=>exact .move (eA h J)
 | assign J=>exact .assign (eA h J)
 | pick aa ak=>exact .pick (eA h aa) (eA h ak)
 | Fu J=>exact .Fu (eA h J)
 | p3 J=>exact .p3 (eA h J)
 | A9 J aV dD=>exact .A9 (eA h J) aV (dD.mono h)
 | El J aV=>exact .El (eA h J) aV
 | HJ J aV au ai=>exact .HJ (eA h J) aV au ai
 | HK J aV au hk=>exact .HK (eA h J) aV au hk
 | E6 J hi au ag=>exact .E6 (eA h J) (eA h hi) au ag
 | E5 J hi au ag dD=>exact .E5 (eA h J) (eA h hi) au ag (dD.mono h)
 | JJ J hi au ag dD=>exact .JJ (eA h J) (eA h hi) au ag (dD.mono h)
 | JI J hi au ag dD=>exact .JI (eA h J) (eA h hi) au ag (dD.mono h)
 | JH J hi au ag=>exact .JH (eA h J) (eA h hi) au ag
 | Fh J au=>exact .Fh (eA h J) au
 | Fi J au hk=>exact .Fi (eA h J) au hk
 | Cj J au ai=>exact .Cj (eA h J) au (kq h ai)
 | zt J au ai aa hm=>exact .zt (eA h J) au (kq h ai) aa hm
 | E7 J hi au ao=>exact .E7 (eA h J) (eA h hi) au ao
 | bin J ai hv ak=>exact .bin (eA h J) (eA h ai) hv ak
 | AO J ai hv ak=>exact .AO (eA h J) (eA h ai) hv ak
 | un J hv ak=>exact .un (eA h J) hv ak
 | conv J hv ak=>exact .conv (eA h J) hv ak
 | Hw J aw aA gB au=>exact .Hw (eA h J) (kq h aw) aA gB au
 | D' J au=>exact .D' (eA h J) au
 | @Eh xs fT _ f vs v J hv ak =>
  refine .Eh (vs:=vs) ?_ hv ak;apply List.ext_getElem?;intro k;have:=congrArg (·[k]?) J;simp only [List.getElem?_map] at this ⊢;rw [<- this];cases hk:xs.toList[k]? with
  | none=>rfl
  | some o =>
   rw [hk] at this;cases hv:vs[k]? with
   | none=>rw [hv] at this; cases this
   | some v =>
    rw [hv] at this;simp only [Option.map_some,Option.some.injEq] at this ⊢;rw [this,eA h this]
 | Ei J ai=>exact .Ei (eA h J) ai
 | De J ah br au h1 af=>exact .De (eA h J) (ah.mono h) (br.mono h) au h1 af
 | F4 J ah br au aA dD=>exact .F4 (eA h J) (ah.mono h) (br.mono h) au aA (dD.mono h)
 | F3 J ah br au h1 af dD=>exact .F3 (eA h J) (ah.mono h) (br.mono h) au h1 af (dD.mono h)
 | Df J ah br au h1 af=>exact .Df (eA h J) (ah.mono h) (br.mono h) au h1 af
 | Ff J au=>exact .Ff (eA h J) au
 | Fe J au=>exact .Fe (eA h J) au
 | J' J au=>exact .J' (eA h J) au
 | J_ J au=>exact .J_ (eA h J) au
 | Ke J aw ai dk aU ak=>exact .Ke (eA h J) (kq h aw) (eA h ai) dk aU ak
 | Kd J ai dk aU ak=>exact .Kd (eA h J) (eA h ai) dk aU ak
 | @lits b xs fT _ vs v J hv ak =>
  refine .lits (vs:=vs) ?_ hv ak;clear ak;generalize xs.toList=l at J
  induction l generalizing vs with
  | nil=>exact J
  | cons x l aJ =>
   cases vs with
   | nil=>simp at J
   | cons v vs =>
    simp only [List.map_cons,List.cons.injEq] at J ⊢;exact ⟨eA h J.1,aJ J.2⟩
theorem ny.mono (h:nX g g') {op:Op}{ty:TypeId}{x:ab}(aw:ny P g op ty x):ny P g' op ty x:=by
 cases aw with
 | box J aa=>exact .box (eA h J) aa
 | alloc aT h1=>exact .alloc aT h1
 | GP aT aa=>exact .GP aT aa
 | DV aT aa=>exact .DV aT aa
 | D4 J aa aI h1=>exact .D4 (eA h J) aa aI h1
 | makeMap ba=>exact .makeMap ba
 | buildSlice au aw J aT aa ao aA hzero=>exact .buildSlice au aw (zx h J) aT aa ao aA hzero
 | makeSlice au J ai hzero h1 oh ao aA rA sJ E4=>exact .makeSlice au (eA h J) (eA h ai) hzero h1 oh ao aA rA sJ E4
theorem uA.mono (h:nX g g') {op:Op}{ty:TypeId}{x:ab}(aw:uA P g op ty x):uA P g' op ty x:=by
 cases aw with
 | build au aT h1 aw aa=>exact .build au aT h1 (PI h aw) aa
 | makeFunc aQ ao=>exact .makeFunc (zx h aQ) (zx h ao)
theorem Src.mono (h:nX g g') {y:ab}{z m:Nat}{cells:List ab}(av:Src g y z m cells):Src g' y z m cells:=by
 cases av with
 | bf=>exact .bf
 | bb=>exact .bb
 | bo ba hm=>exact .bo (kq h ba) hm
 | sub ba hm=>exact .sub (kq h ba) hm
theorem ch.mono (h:nX g g') {op:Op}{ty:TypeId}{x:ab}(aw:ch P g op ty x) (eR:∀ z p n m new,x=.bD z p n m new->∀ t bM ck bn cO,g' t≠some (.bD bM p ck bn cO)):ch P g' op ty x:=by
 cases aw with
 | eG aw=>exact .eG (aw.mono h)
 | qQ aw=>exact .qQ (aw.mono h)
 | FE aw=>exact .FE (aw.mono h)
 | lM aw =>
  cases aw with
  | grow av dD _ J rF au mU ao=>exact .lM (.grow (eA h av) (dD.mono h) (eR _ _ _ _ _ rfl) (eA h J) (rF.mono h) au mU ao)
  | nil av J rF au mU ao=>exact .lM (.nil (eA h av) (eA h J) (rF.mono h) au mU ao)
theorem View.mono (h:nX g g') {x y:ab}(hv:View g x y):View g' x y:=by
 induction hv with
 | p3=>exact .p3
 | self h1 af aF bk b2 du=>exact .self h1 af aF bk b2 du
 | mp=>exact .mp
 | gY aw=>exact .gY (kq h aw)
 | agg ah _ aJ=>exact .agg ah aJ
 | own ah _ aJ=>exact .own ah aJ
 | obj ah _ aJ=>exact .obj ah aJ
 | dc ah _ aJ=>exact .dc ah aJ
 | bo aw aA ah _ aJ=>exact .bo (kq h aw) aA ah aJ
 | sub aw aA ah _ aJ=>exact .sub (kq h aw) aA ah aJ
 | ptr aw ai hk ah _ aJ=>exact .ptr (kq h aw) ai hk ah aJ
 | rows aw ah _ aJ=>exact .rows (aw.mono (λaw=>kq h aw) h) ah aJ
theorem cF.mono (h:nX g g') {op:Op}{x:ab}(aw:cF P g op x):cF P g' op x:=by
 cases aw with
 | plain aa J aV aA gH ak=>exact .plain (eA h aa) (zx h J) aV aA gH ak
 | Fg aa J aV ah hv gH ak=>exact .Fg (eA h aa) (zx h J) aV ah (λk x y J ai=>(hv k x y J ai).mono h) gH ak
def jd (g:aH) (ops:Array Oper) (o:Oper) (b:Bool):Prop :=
 match o.guard with
 | none=>b=true
 | some (j,want)=>∃ t,(ops[j]?).bind (·.dst)=some t/\((∃ c,g t=some (.lit (.bool c))/\b=(c == want))\/(g t=some (.bI [])/\b=false))
theorem jd.mono (h:nX g g') {ops:Array Oper}{o:Oper}{b:Bool}(hw:jd g ops o b):jd g' ops o b:=by
 unfold jd at *;split
 ·rename_i aL; rw [aL] at hw; exact hw
 ·rename_i j want aL;rw [aL] at hw;obtain ⟨t,h1,⟨c,af,aF⟩ | ⟨af,aF⟩⟩:=hw
  ·exact ⟨t,h1,.inl ⟨c,h t _ af,aF⟩⟩
  ·exact ⟨t,h1,.inr ⟨h t _ af,aF⟩⟩
theorem jd.sound {w:World}{I:a7}{T:Array Value}{Fs:Nat->a7}(a_:cG w I T g Fs) {ops:Array Oper}{o:Oper}{b:Bool}(hw:jd g ops o b):Region.wanted o (yielded ops T)=b:=by
 unfold jd at hw;unfold Region.wanted
 split at hw
 ·rename_i aL; rw [aL]; exact hw.symm
 ·rename_i j want aL;rw [aL];obtain ⟨t,h1,⟨c,af,aF⟩ | ⟨af,aF⟩⟩:=hw
  ·obtain ⟨v,hv,aU⟩:=a_.rel _ _ af;have:=(aU.fW (by simp)).gW.1;subst this;subst aF;simp only [yielded,h1,Option.bind_some,hv];cases c <;> cases want <;> rfl
  ·obtain ⟨v,hv,aU⟩:=a_.rel _ _ af;have:∃ vs,v=.tuple vs:=by
    cases aU.fW (by simp) with
    | bI=>exact ⟨_,rfl⟩
    | ref J=>simp [ab.isRef] at J
   obtain ⟨vs,rfl⟩:=this;subst aF;simp only [yielded,h1,Option.bind_some,hv];cases want <;> rfl
def pq (P:Program) (g:aH) (ops:Array Oper) (o:Oper):Option ab->Prop
 | none=>jd g ops o false
 | some x=>(jd g ops o true/\(ch P g o.op o.type x\/cF P g o.op x))\/(jd g ops o false/\x=.bI [])\/(jd g ops o true/\∃ y,(ch P g o.op o.type y\/cF P g o.op y)/\cK y/\View (λ_=>none) y x)
theorem pq.mono (h:nX g g') {ops:Array Oper}{o:Oper}{r:Option ab}(av:pq P g ops o r) (eR:∀ z p n m new,r=some (.bD z p n m new)->∀ t bM ck bn cO,g' t≠some (.bD bM p ck bn cO)):pq P g' ops o r:=by
 cases r with
 | none=>exact jd.mono h av
 | some x =>
  rcases av with av | ⟨av,J⟩ | ⟨av,y,aw,aA,hv⟩
  ·refine .inl ⟨av.1.mono h,?_⟩;rcases av.2 with aw | aw
   ·exact .inl (aw.mono h λz p n m new e=>eR z p n m new (by rw [e]))
   ·exact .inr (aw.mono h)
  ·exact .inr (.inl ⟨av.mono h,J⟩)
  ·refine .inr (.inr ⟨av.mono h,y,?_,aA,hv⟩);rcases aw with aw | aw
   ·exact .inl (aw.mono h λz p n m new e=>by subst e; cases aA)
   ·exact .inr (aw.mono h)
def leaf:ab->Bool
 | .own .. | .obj .. | .agg .. | .bI .. | .bD .. | .mp .. | .dt ..=>false
 | _=>true
def del (g:aH) (d:Nat):aH:=λt=>if t=d then none else g t
theorem Yf {x y:ab}(h:leaf x=true):∀ {q:List Nat},x.at q=some y->y=x
 | [],ai=>by simpa [ab.at] using ai.symm
 | k::q,ai=>by
  have:x.kids=[]:=by cases x <;> first | rfl | simp [leaf] at h
  simp [ab.at,this] at ai
theorem yE {d:Nat}{x:ab}(aP:g d=some x) (ah:leaf x=true) {p:Place}{y:ab}(aw:bB g p=some y) (ai:leaf y=false):bB (del g d) p=some y:=by
 have ak:p.root≠d:=by
  intro e;unfold bB at aw;rw [e,aP] at aw;rw [Yf ah aw,ah] at ai;cases ai
 simp only [bB,del,if_neg ak] at aw ⊢;exact aw
theorem gF.del {d:Nat}{x:ab}(aP:g d=some x) (ah:leaf x=true) {r:ab}(h:gF g r):gF (del g d) r:=by
 have root:∀ {t:Nat}{y:ab},g t=some y->leaf y=false->Own.del g d t=some y:=by
  intro t y au ai;have:t≠d:=by
   rintro rfl;rw [aP] at au;cases au;rw [ah] at ai; cases ai
  simp only [Own.del,if_neg this,au]
 cases r <;> simp only [gF] at h ⊢
 case ptr p k =>
  obtain ⟨y,ai,z,n,cs,ei,hk⟩:=h;exact ⟨y,yE aP ah ai (by rcases ei with rfl | rfl <;> rfl),z,n,cs,ei,hk⟩
 case bo z p n =>
  rcases h with ⟨N,cs,ai,aA⟩ | ⟨h1,q,gv,m,new,af,aF⟩
  ·exact .inl ⟨N,cs,yE aP ah ai rfl,aA⟩
  ·exact .inr ⟨h1,q,gv,m,new,root af rfl,aF⟩
 case sub z p lo n =>
  obtain ⟨N,cs,ai,aA⟩:=h;exact ⟨N,cs,yE aP ah ai rfl,aA⟩
 case gY p=>obtain ⟨q,h⟩:=h; exact ⟨q,yE aP ah h rfl⟩
 case bD z p n m new =>
  rcases h with ⟨cs,ai⟩ | ⟨h1,q,gv,m,new,cs,af,aF,bk⟩
  ·exact .inl ⟨cs,yE aP ah ai rfl⟩
  ·exact .inr ⟨h1,q,gv,m,new,cs,root af rfl,aF,yE aP ah bk rfl⟩
theorem R.Ye {w:World}{I:a7}{ρ:ab->Value->Prop}{x:ab}{v:Value}{F:a7}(h:R w I ρ x v F) (ah:leaf x=true):∀ c,¬ F c:=by
 cases h with
 | own | obj | agg | bI | mp | dt=>simp [leaf] at ah
 | lit _ aE | bb aE | dead aE | j0 aE | ref _ _ aE | hd aE | bf aE | cL aE | dc aE | imp aE=>exact aE
theorem cG.drop {w:World}{I:a7}{T:Array Value}{Fs:Nat->a7}(h:cG w I T g Fs) {d:Nat}{x:ab}(aP:g d=some x) (ah:leaf x=true):cG w I T (del g d) Fs:=by
 refine ⟨λt y ai=>?_,λt au c aa=>?_,h.ep,h.bf,h.lt,λt t' z p n m new bM ck bn cO h1 af=>?_,h.g_⟩
 ·have oZ:g t=some y:=by
   unfold del at ai
   split at ai
   ·cases ai
   ·exact ai
  obtain ⟨v,hv,aU⟩:=h.rel t y oZ;exact ⟨v,hv,aU.frame (λ_ _=>rfl) (λ_ h=>h) (λ_ _ ak=>⟨ak.1,ak.2.del aP ah⟩) (λ_ _ _ _ _ _ _=>rfl) λ_ _=>rfl⟩
 ·unfold del at au
  split at au
  ·rename_i e;subst e;obtain ⟨v,hv,aU⟩:=h.rel t x aP;exact (aU.fW (by rintro z p n m new rfl; simp [leaf] at ah)).Ye ah c aa
  ·exact h.kA t au c aa
 ·have key:∀ {t:Nat}{y:ab},del g d t=some y->g t=some y:=by
   intro t y ai;unfold del at ai
   split at ai
   ·cases ai
   ·exact ai
  exact h.qV _ _ _ _ _ _ _ _ _ _ _ (key h1) (key af)
end
end Go.Own
namespace Go.Own
open Go
set_option linter.unusedSectionVars false
variable [cw]
def xS (g:aH) (d:Nat):Option ab->aH
 | some x=>cR g d x
 | none=>g
section
variable {P:Program}{w:World}{I:a7}{T:Array Value}{g:aH}{Fs:Nat->a7}{N:cQ}{ops:Array Oper}
theorem kM.refl (w:World) (I U:a7):kM w I U w I U:=⟨Fr.refl _ _,λ_ h=>h,λ_ h=>.inl h,λ_ h=>.inl h⟩
theorem kM.trans {w fj e9:World}{I AA ux U yB LU:a7}(h:kM w I U fj AA yB) (h1:kM fj AA yB e9 ux LU):kM w I U e9 ux LU:=by
 have iy:∀ c,c<w.heap.size->yB c->U c:=λc aa hu=>by
  rcases h.own c hu with aR | aR
  ·exact aR
  ·omega
 refine ⟨h.eh.trans h1.eh iy,λc aa=>h1.more c (h.more c aa),λc aa=>?_,λc aa=>?_⟩
 ·rcases h1.new c aa with aR | aR | aR
  ·exact h.new c aR
  ·rcases h.own c aR with gh | gh
   ·exact .inr (.inl gh)
   ·exact .inr (.inr gh)
  ·exact .inr (.inr (Nat.le_trans h.eh.size aR))
 ·rcases h1.own c aa with aR | aR
  ·exact h.own c aR
  ·exact .inr (Nat.le_trans h.eh.size aR)
theorem jo.trans {N:cQ}{a ax a2:Act}{fj e9:World}{AA:a7}{fN:Nat->a7}{g2:aH}(h1:ax.defers=a.defers) (af:hW N a.tmps ax.tmps) (bQ:kM w I (λc=>∃ t,Fs t c) fj AA (λc=>∃ t,fN t c)) (h:jo N ax fj AA fN g2 a2 e9):jo N a w I Fs g2 a2 e9:=by
 obtain ⟨bP,cu,ux,j4,a_,ob⟩:=h;exact ⟨bP.trans h1,af.trans cu,ux,j4,a_,bQ.trans ob⟩
theorem cG.Zf (h:cG w I T g Fs) {d:Nat}(aP:g d=none) (v:Value):cG w I (T.setIfInBounds d v) g Fs:=by
 have c0:∀ t,g t≠none->(T.setIfInBounds d v)[t]?=T[t]?:=by
  intro t au;rw [Array.getElem?_setIfInBounds_ne];rintro rfl; exact au aP
 refine ⟨λt x J=>?_,h.kA,h.ep,h.bf,h.lt,h.qV,h.g_⟩;obtain ⟨u,hu,aU⟩:=h.rel t x J;exact ⟨u,by rw [c0 t (by rw [J]; simp)]; exact hu,h.wG c0 (λ_ _ _=>rfl) (λ_ _=>rfl) (λ_ h=>h) (λ_ _ h=>h) aU λ_ _=>rfl⟩
structure GD (fJ:Nat->Bool) (g g2:aH):Prop where
 iy:∀ t x,g2 t=some x->fJ t=false->g t=some x/\eo g2 x
 oi:∀ t x,g2 t=some x->fJ t=true->∃ y,g t=some y/\cK y/\gE y x
 e8:∀ t z q n m new,g2 t≠some (.bD z q n m new)
theorem cG.yR (h:cG w I T g Fs) {fJ:Nat->Bool}{g2:aH}(aT:GD fJ g g2):∃ I' b5,cG w I' T g2 b5/\kM w I (λc=>∃ t,Fs t c) w I' (λc=>∃ t,b5 t c):=by
 have qB:=h.mG;have Cr:∀ t x,g2 t=some x->∀ z p n m new,x≠.bD z p n m new:=by
  rintro t x J z p n m new rfl;exact aT.e8 _ _ _ _ _ _ J
 -- of each slot what it owns from now on
 have:∀ t,∃ cW:a7,(∀ c,cW c->Fs t c/\g2 t≠none)/\∀ x,g2 t=some x->(fJ t=false->∀ c,Fs t c->cW c)/\∃ v,T[t]?=some v/\R w (λc=>I c\/(Fs t c/\¬ cW c)) (dG w T g2) x v cW:=by
  intro t;cases J:g2 t with
  | none=>exact ⟨cd,λ_ h=>h.elim,λx h=>by cases h⟩
  | some x =>
   cases au:fJ t with
   | false =>
    obtain ⟨h1,af⟩:=aT.iy t x J au;obtain ⟨v,hv,aU⟩:=qB.rel t x h1;refine ⟨Fs t,λc aa=>⟨aa,by simp⟩,λy ai=>?_⟩;cases ai;exact ⟨λ_ _ h=>h,v,hv,((aU.fW (Cr t x J)).bR af).nj λc aa=>.inl aa⟩
   | true =>
    obtain ⟨y,h1,af,aF⟩:=aT.oi t x J au;obtain ⟨v,hv,aU⟩:=qB.rel t y h1;have h_:=aU.fW (by rintro z p n m new rfl; cases af);obtain ⟨cW,av,Vl⟩:=R.fJ aF h_ af (λc aa=>qB.bf t c aa) qB.lt qB.g_;refine ⟨cW,λc aa=>⟨av c aa,by simp⟩,λz aT=>?_⟩;cases aT;exact ⟨λh=>absurd h (by simp),v,hv,Vl.bh (aF.bh af)⟩
 obtain ⟨b5,iO⟩:=Classical.axiomOfChoice this;refine ⟨λc=>I c\/∃ t,Fs t c/\g2 t≠none/\¬ b5 t c,b5,⟨λt x J=>?_,λt au c aa=>((iO t).1 c aa).2 au,λt t' c aa dW=>h.ep t t' c ((iO t).1 c aa).1 ((iO t').1 c dW).1,λt c aa hi=>?_,λc aa=>?_,λt t' z p n m new bM ck bn cO h1 _=>absurd h1 (aT.e8 _ _ _ _ _ _),cw.keep h.g_ (λ_ _=>rfl) λ_ h=>.inl h⟩,Fr.refl _ _,λ_ h=>.inl h,λc aa=>?_,λc ⟨t,aa⟩=>.inl ⟨t,((iO t).1 c aa).1⟩⟩
 ·obtain ⟨_,v,hv,aU⟩:=(iO t).2 x J;exact ⟨v,hv,.tree (aU.nj λc aa=>aa.elim .inl λaa=>.inr ⟨t,aa.1,by rw [J]; simp,aa.2⟩)⟩
 ·rcases hi with aR | ⟨s,h1,_,af⟩
  ·exact h.bf t c ((iO t).1 c aa).1 aR
  ·have:=h.ep t s c ((iO t).1 c aa).1 h1;subst this;exact af aa
 ·rcases aa with aR | ⟨s,aR,_⟩
  ·exact h.lt c aR
  ·exact h.jC s c aR
 ·rcases aa with aR | ⟨s,aR,_⟩
  ·exact .inl aR
  ·exact .inr (.inl ⟨s,aR⟩)
theorem pq.sound (h:cG w I T g Fs) {a:Act}(aQ:a.tmps=T) (bc:a.tmps.size=N.size) {o:Oper}{r:Option ab}{d:Nat}(av:pq P g ops o r) (aP:o.dst=some d) (aL:g d=none) (jW:N.ok d=true) {K:Act->World->Prop}{Q:Exit->Act->World->Prop}
  (dk:∀ cb w',jo N a w I Fs (xS g d r) cb w'->K cb w') :
  if Region.wanted o (yielded ops a.tmps) then o.wp P a w K Q\/(o.asks P a w/\LetsOut Q) else K (a.put o.dst undef) w:=by
 subst aQ;cases r with
 | none =>
  rw [jd.sound h av];simp only [Bool.false_eq_true,if_false];refine dk _ _ ⟨by rw [aP]; rfl,by rw [aP]; exact hW.put jW _ _,I,Fs,by rw [aP]; exact h.Zf aL _,kM.refl _ _ _⟩
 | some x =>
  have fin:∀ x v w',uv w I a.tmps g Fs x v w'->(∀ cb w',jo N a w I Fs (cR g d x) cb w'->K cb w')->K (a.put o.dst v) w':=by
   rintro x v w' ⟨F,I',a_,aU,h1,af,aF,bk,b2,du⟩ dk;refine dk _ _ ⟨by rw [aP]; rfl,by rw [aP]; exact hW.put jW _ _,I',_,by rw [aP]; exact a_.sP aL (by rw [bc]; exact cQ.lt jW) aU (λt c aa aV=>h1 t c aa aV) (λc aa=>(af c aa).2) du,⟨b2,aF,λc aa=>?_,λc aa=>?_⟩⟩
   ·rcases bk c aa with aR | aR
    ·exact .inl aR
    ·exact .inr (.inr aR)
   ·rcases ui aa with aR | aR
    ·exact .inl aR
    ·exact .inr (af c aR).1
  have oi:∀ y v w',cK y->View (λ_=>none) y x->uv w I a.tmps g Fs y v w'->uv w I a.tmps g Fs x v w':=by
   rintro y v w' aA hv ⟨F,I',a_,aU,h1,af,aF,bk,b2,du⟩;have dv:=aU.fW (by rintro z p n m new rfl; cases aA);refine ⟨cd,λc=>I' c\/F c,⟨λt z aT=>?_,a_.kA,a_.ep,λt c aa hi=>?_,λc aa=>?_,a_.qV,cw.keep a_.g_ (λ_ _=>rfl) λ_ h=>.inl h⟩,.tree (dv.oi aA hv (λc aa=>(af c aa).2) a_.lt a_.g_),λ_ _ h=>h.elim,λ_ h=>h.elim,λc aa=>.inl (aF c aa),λc aa=>?_,b2,?_⟩
   ·obtain ⟨u,hu,nG⟩:=a_.rel t z aT;exact ⟨u,hu,nG.nj λc aa=>.inl aa⟩
   ·rcases hi with h | h
    ·exact a_.bf t c aa h
    ·exact h1 t c h aa
   ·rcases aa with h | h
    ·exact a_.lt c h
    ·exact dv.lt c h
   ·rcases aa with h | h
    ·exact bk c h
    ·exact .inr (af c h).1
   ·rintro z p n m new rfl;cases hv with
    | self h=>cases h
  rcases av with av | ⟨av,rfl⟩ | ⟨av,y,aw,aA,hv⟩
  rotate_left
  rotate_left
  ·rw [jd.sound h av];simp only [if_true];refine .inl ?_;have Na:∀ v w',uv w I a.tmps g Fs y v w'->K (a.put o.dst v) w':=λv w' c'=>fin x v w' (oi y v w' aA hv c') dk;rcases aw with aw | aw
   ·obtain ⟨v,w',h2,c'⟩:=aw.sound h rfl;unfold Oper.wp Oper.upon;simp only [h2];exact Na v w' c'
   ·exact aw.sound h rfl Na
  rotate_left
  ·rw [jd.sound h av];simp only [Bool.false_eq_true,if_false];refine dk _ _ ⟨by rw [aP]; rfl,by rw [aP]; exact hW.put jW _ _,I,_,by rw [aP]; exact h.sP aL (by rw [bc]; exact cQ.lt jW) (.tree (.bI (Fs:=λ_=>cd) (F:=cd) rfl (λk x u J _=>by simp at J) (λ_ _ _ _ _ h=>h.elim) (λc=>⟨λh=>h.elim,λ⟨_,_,h⟩=>h⟩))) (λ_ _ h=>h.elim) (λ_ h=>h.elim) (λ_ _ _ _ _ e=>by cases e),⟨Fr.refl _ _,λ_ h=>h,λ_ h=>.inl h,λc aa=>?_⟩⟩;rcases ui aa with aR | aR
   ·exact .inl aR
   ·exact aR.elim
  rw [jd.sound h av.1];simp only [if_true];refine .inl ?_;have fin:∀ v w',uv w I a.tmps g Fs x v w'->K (a.put o.dst v) w':=by
   rintro v w' ⟨F,I',a_,aU,h1,af,aF,bk,b2,du⟩;refine dk _ _ ⟨by rw [aP]; rfl,by rw [aP]; exact hW.put jW _ _,I',_,by rw [aP]; exact a_.sP aL (by rw [bc]; exact cQ.lt jW) aU (λt c aa aV=>h1 t c aa aV) (λc aa=>(af c aa).2) du,⟨b2,aF,λc aa=>?_,λc aa=>?_⟩⟩
   ·rcases bk c aa with aR | aR
    ·exact .inl aR
    ·exact .inr (.inr aR)
   ·rcases ui aa with aR | aR
    ·exact .inl aR
    ·exact .inr (af c aR).1
  rcases av.2 with aw | aw
  ·obtain ⟨v,w',h2,c'⟩:=aw.sound h rfl;unfold Oper.wp Oper.upon;simp only [h2];exact fin v w' c'
  ·exact aw.sound h rfl fin
inductive nZ (P:Program) (N:cQ) (ops:Array Oper):List Nat->aH->aH->Prop
 | nil {g:aH}:nZ P N ops [] g g
 | step {i:Nat}{rest:List Nat}{g g':aH}{o:Oper}{d:Nat}{r:Option ab}(aM:ops[i]?=some o) (aP:o.dst=some d) (aL:g d=none) (jW:N.ok d=true) (av:pq P g ops o r)
   (ak:nZ P N ops rest (xS g d r) g'):nZ P N ops (i::rest) g g'
 | oL {i:Nat}{rest:List Nat}{g g1 g':aH}{o:Oper}(aM:ops[i]?=some o) (hw:jd g ops o true) (he:bx P N g o g1) (ak:nZ P N ops rest g1 g'):nZ P N ops (i::rest) g g'
 | drop {is:List Nat}{g g':aH}{d:Nat}{x:ab}(aP:g d=some x) (ah:leaf x=true) (ak:nZ P N ops is (del g d) g'):nZ P N ops is g g'
 | forget {is:List Nat}{g g1 g':aH}(hk:hn g g1) (ak:nZ P N ops is g1 g'):nZ P N ops is g g'
 | yR {is:List Nat}{g g1 g':aH}{fJ:Nat->Bool}(hk:GD fJ g g1) (ak:nZ P N ops is g1 g'):nZ P N ops is g g'
theorem nZ.sound {is:List Nat}{g':aH}(ak:nZ P N ops is g g'):∀ {a:Act}{w:World}{I:a7}{Fs:Nat->a7}{Q:Exit->Act->World->Prop},cG w I a.tmps g Fs->a.tmps.size=N.size ->
  (∀ cb w',jo N a w I Fs g' cb w'->Q .normal cb w')->wpOps P ops Q is a w:=by
 induction ak with
 | nil=>exact λa_ bc eu=>eu _ _ ⟨rfl,hW.refl,_,_,a_,kM.refl _ _ _⟩
 | @step i rest g g' o d r aM aP aL jW av _ aJ =>
  intro a w I Fs Q a_ bc eu;simp only [wpOps,aM];refine av.sound a_ rfl bc aP aL jW λcb w' aA=>?_;obtain ⟨bP,cu,I',b5,eL,bQ⟩:=aA;exact aJ eL (cu.1.trans bc) λa2 e9 af=>eu _ _ (jo.trans bP cu bQ af)
 | @oL i rest g g1 g' o aM hw he _ aJ =>
  intro a w I Fs Q a_ bc eu;simp only [wpOps,aM,hw.sound a_,if_true];refine .inl (he.sound a_ rfl bc λcb w' aA=>?_);obtain ⟨bP,cu,I',b5,eL,bQ⟩:=aA;exact aJ eL (cu.1.trans bc) λa2 e9 af=>eu _ _ (jo.trans bP cu bQ af)
 | @drop is g g' d x aP ah _ aJ=>exact λa_ bc eu=>aJ (a_.drop aP ah) bc eu
 | @yR is g g1 g' fJ hk _ aJ =>
  intro a w I Fs Q a_ bc eu;obtain ⟨I',b5,eL,bQ⟩:=a_.yR hk;exact aJ eL bc λa2 e9 af=>eu _ _ (jo.trans rfl hW.refl bQ af)
 | @forget is g g1 g' hk _ aJ =>
  intro a w I Fs Q a_ bc eu;have eL:=a_.mG.keep hk;refine aJ eL bc λa2 e9 af=>eu _ _ (jo.trans rfl hW.refl ⟨Fr.refl _ _,λ_ h=>h,λ_ h=>.inl h,λc aa=>?_⟩ af);obtain ⟨t,_,aa⟩:=aa;exact .inl ⟨t,aa⟩
end
end Go.Own
namespace Go.Own
open Go
set_option linter.unusedSectionVars false
variable [cw]
def ub (rs:List Nat):Place->Prop:=λp=>p.root∈rs
def qm (P:Program) (N:cQ) (rs:Place->Prop) (g:aH) (o:Oper) (g':aH):Prop :=
 ∀ (w:World) (I:a7) (T:Array Value) (Fs:Nat->a7),cG w I T g Fs->∀ (a:Act),a.tmps=T->a.tmps.size=N.size->∀ (K:Act->World->Prop) (Q:Exit->Act->World->Prop),
  (∀ (cb:Act) (w':World),jo N a w I Fs g' cb w'->(∀ t,o.dst≠some t->cb.tmps[t]?=a.tmps[t]?)->(∀ r path,rs ⟨r,path⟩->∀ y,bB g ⟨r,path⟩=some y->(∀ z q n m new,y≠.bD z q n m new)->dL w' cb.tmps ⟨r,path⟩=dL w T ⟨r,path⟩)->K cb w')->o.wp P a w K Q
theorem pe.v {P:Program}{N:cQ}{g g':aH}{o:Oper}(h:pe P N g o g'):qm P N (ub []) g o g' :=
 λw I T Fs a_ a aQ bc K Q dk=>h w I T Fs a_ a aQ bc K Q λcb w' h1 af=>dk cb w' h1 af λ_ _ h=>by simp [ub] at h
inductive pj:ab->Prop
 | lit {v:Value}:pj (.lit v)
 | bb:pj .bb
 | bf {z n:Nat}{cs:List ab}(h:∀ x∈cs,cK x):pj (.bf z n cs)
 | agg {cs:List ab}(h:∀ x∈cs,pj x):pj (.agg cs)
theorem pj.bh {x:ab}(h:pj x):cK x:=by
 induction h with
 | lit=>exact .lit
 | bb=>exact .bb
 | bf h=>exact .bf h
 | agg _ aJ=>exact .agg aJ
theorem pj.kA {w:World}{I:a7}{ρ:ab->Value->Prop}{x:ab}(h:pj x):∀ {v:Value}{F:a7},R w I ρ x v F->∀ c,¬ F c:=by
 induction h with
 | lit =>
  intro v F aU;cases aU with
  | lit _ aE=>exact aE
  | ref J=>simp [ab.isRef] at J
 | bb =>
  intro v F aU;cases aU with
  | bb aE=>exact aE
  | ref J=>simp [ab.isRef] at J
 | bf =>
  intro v F aU;cases aU with
  | ref J=>simp [ab.isRef] at J
  | hd aE=>exact aE
  | bf aE=>exact aE
 | @agg cs _ aJ =>
  intro v F aU c aa;cases aU with
  | ref J=>simp [ab.isRef] at J
  | @agg _ vs bH _ ah h1 ak aP lC =>
   obtain ⟨k,hk,af⟩:=(lC c).1 aa;have hu:vs[k]?=some (vs[k]'(by omega)):=Array.getElem?_eq_getElem (by omega);exact aJ _ (List.getElem_mem hk) (ak k _ _ (List.getElem?_eq_getElem hk) hu) c af
structure GA (g:aH):Prop where
 bR:∀ t x,g t=some x->eo g x
 e8:∀ t z q n m new,g t≠some (.bD z q n m new)
def AJ (rs:Place->Prop) (g g1:aH) (o:Oper) (x:ab):Prop:=(∃ r path z n N cs,x=.bo z ⟨r,path⟩ n/\rs ⟨r,path⟩/\bB g ⟨r,path⟩=some (.own z N cs)/\bB g1 ⟨r,path⟩=some (.own z N cs)/\n<=N)\/(∃ v,x=.lit v)\/(∃ s p k,x=.ptr p k/\g s=some x/\g1 s=some x/\o.dst≠some s)\/(∃ r k cs,x=.ptr ⟨r,[]⟩ k/\g1 r=some (.obj cs)/\k<cs.length/\o.dst≠some r/\∃ cs',g r=some (.obj cs')/\k<cs'.length)\/(∃ z n cs,x=.bf z n cs/\cK x)\/(∃ cs,x=.agg cs/\pj x/\GA g)
section
variable {P:Program}{N:cQ}{g g1:aH}{o:Oper}
theorem Qm {T:Array Value}{t:Nat}{v:Value}(h:T[t]?=some v):T.setIfInBounds t v=T:=by
 apply Array.ext (by simp);intro i h1 af;rw [Array.getElem_setIfInBounds];split
 ·rename_i e;subst e;have:=(Array.getElem?_eq_some_iff.1 h);exact this.2.symm
 ·rfl
theorem cG.TI {w:World}{I:a7}{T:Array Value}{Fs:Nat->a7}{t:Nat}{x:ab}(h:cG w I T (cR g t x) Fs) (aL:g t=none) (aa:GA g) (kS:∀ c,¬ Fs t c):cG w I T g Fs:=by
 have gi:∀ s y,g s=some y->cR g t x s=some y:=λs y av=>by
  unfold cR;rw [if_neg (λe=>by rw [e,aL] at av; cases av)]; exact av
 have af:=h.mG.keep (g2:=g) ⟨gi,aa.bR,aa.e8⟩;have e:(λs c=>g s≠none/\Fs s c)=Fs:=by
  funext s c;apply propext;refine ⟨λh=>h.2,λaV=>⟨λaA=>?_,aV⟩⟩;by_cases av:s=t
  ·subst av; exact kS c aV
  ·exact h.kA s (by unfold cR; rw [if_neg av]; exact aA) c aV
 rw [e] at af;exact af
theorem qm.extra {rs:Place->Prop}(h:qm P N rs g o g1) {t:Nat}{x:ab}(mw:∀ p,rs p->g p.root≠none) (aL:g t=none) (Wj:g1 t=none) (au:o.dst≠some t) (J:AJ rs g g1 o x):qm P N rs (cR g t x) o (cR g1 t x):=by
 intro w I T Fs a_ a aQ bc K Q dk;have Jk:cR g t x t=some x:=by simp [cR]
 have lG:∀ z q n m new,x≠.bD z q n m new:=by
  rcases J with ⟨r,path,z,n,N,cs,rfl,_⟩ | ⟨v,rfl⟩ | ⟨s,p,k,rfl,_⟩ | ⟨r,k,cs,rfl,_⟩ | ⟨z,n,cs,rfl,_⟩ | ⟨cs,rfl,_⟩ <;> simp
 have sk:cG w I T g Fs:=by
  have AQ:leaf x=true->cG w I T g Fs:=λu1=>by
   have:=a_.drop Jk u1;have e:del (cR g t x) t=g:=by
    funext s;unfold del cR;by_cases av:s=t
    ·subst av; simp [aL]
    ·simp [av]
   rwa [e] at this
  rcases J with ⟨r,path,z,n,N,cs,rfl,_⟩ | ⟨v,rfl⟩ | ⟨s,p,k,rfl,_⟩ | ⟨r,k,cs,rfl,_⟩ | ⟨z,n,cs,rfl,_⟩ | ⟨cs,rfl,w4,hZ⟩
  ·exact AQ rfl
  ·exact AQ rfl
  ·exact AQ rfl
  ·exact AQ rfl
  ·exact AQ rfl
  ·obtain ⟨v,_,mn⟩:=a_.rel t _ Jk;exact a_.TI aL hZ (w4.kA (mn.fW (by simp)))
 obtain ⟨v,hv,mn⟩:=a_.rel t x Jk;refine h w I T Fs sk a aQ bc K Q λcb w' aA oX Ov=>dk cb w' ?_ oX λr path ak y ai lG=>?_
 rotate_left
 ·by_cases Oe:r=t
  ·subst Oe;exact absurd aL (mw _ ak)
  ·exact Ov r path ak y (by simpa [bB,cR,Oe] using ai) lG
 obtain ⟨bP,cu,I',b5,eL,bQ⟩:=aA;have iv:cb.tmps[t]?=some v:=by rw [oX t au,aQ]; exact hv
 have h_:ja w' I' (dG w' cb.tmps g1) x v cd:=by
  rcases J with ⟨r,path,z,n,uy,cs,rfl,ak,zf,iR,WG⟩ | ⟨u,rfl⟩ | ⟨s,p,k,rfl,av,w7,WY⟩ | ⟨r,k,cs,rfl,iR,hk,rD,_⟩ | ⟨z,n,cs,rfl,mr⟩ | ⟨cs,rfl,w4,hZ⟩
  ·obtain ⟨⟨ax,j5,cap,fF,rfl,je⟩,_⟩:=(mn.fW (by simp)).my;exact .tree (.ref rfl ⟨⟨ax,j5,cap,by rw [Ov r path ak _ zf (by simp)]; exact fF,rfl,je⟩,.inl ⟨uy,cs,iR,WG⟩⟩ λ_ h=>h)
  ·obtain ⟨rfl,aa⟩:=(mn.fW (by simp)).gW;exact .tree (.lit aa λ_ h=>h)
  ·obtain ⟨⟨vM,ad,ax,a2,rfl⟩,_⟩:=(mn.fW (by simp)).mz;have bQ:s≠t:=by rintro rfl; rw [aL] at av; cases av
   obtain ⟨u,hu,nG⟩:=sk.rel s _ av;obtain ⟨⟨Ak,abi,fF,fQ,rfl⟩,_⟩:=(nG.fW (by simp)).mz;rw [ax] at fF;cases fF;rw [a2] at fQ;cases fQ;obtain ⟨x7,ht,Ii⟩:=eL.rel s _ w7;have:cb.tmps[s]?=T[s]?:=by rw [oX s WY,aQ]
   rw [this,hu] at ht;cases ht;exact .tree (.ref rfl (Ii.fW (by simp)).mz λ_ h=>h)
  ·obtain ⟨⟨vM,ad,ax,a2,rfl⟩,_⟩:=(mn.fW (by simp)).mz;have c0:cb.tmps[r]?=T[r]?:=by rw [oX r rD,aQ]
   have od:∀ (w:World) (T:Array Value),dL w T ⟨r,[]⟩=T[r]?:=λw T=>by
    unfold dL; simp only; cases T[r]? <;> rfl
   exact .tree (.ref rfl ⟨⟨vM,ad,by rw [od,c0,<- od w T]; exact ax,a2,rfl⟩,⟨.obj cs,by simp [bB,iR,ab.at],0,0,cs,.inr rfl,hk⟩⟩ λ_ h=>h)
  ·have sS:∀ c,I c->w'.heap[c]?=w.heap[c]?:=λc aa=>bQ.eh.block c (a_.lt c aa) λ⟨t',aR⟩=>sk.bf t' c aR aa;have Ie:=(mn.fW (by simp)).bh mr (ρ':=dG w' cb.tmps g1);have kS:∀ c,¬ Fs t c:=by
    cases mn.fW (by simp) with
    | ref J=>simp [ab.isRef] at J
    | hd aE=>exact aE
    | bf aE=>exact aE
   exact .tree ((Ie.frame sS bQ.more (λ_ _ h=>h) λc aa=>absurd aa (kS c)).empty kS)
  ·have sS:∀ c,I c->w'.heap[c]?=w.heap[c]?:=λc aa=>bQ.eh.block c (a_.lt c aa) λ⟨t',aR⟩=>sk.bf t' c aR aa;have kS:=w4.kA (mn.fW (by simp));have Ie:=(mn.fW (by simp)).bh w4.bh (ρ':=dG w' cb.tmps g1);exact .tree ((Ie.frame sS bQ.more (λ_ _ h=>h) λc aa=>absurd aa (kS c)).empty kS)
 have nN:=eL.sP (d:=t) (x:=x) (v:=v) (F:=cd) Wj (Array.getElem?_eq_some_iff.1 iv).1 h_ (λ_ _ h=>h.elim) (λ_ h=>h.elim) (λz p n m new e=>absurd e (lG _ _ _ _ _));rw [Qm iv] at nN;refine ⟨bP,cu,I',_,nN,⟨bQ.eh,bQ.more,bQ.new,λc aa=>?_⟩⟩;rcases ui aa with aR | aR
 ·exact bQ.own c aR
 ·exact aR.elim
theorem pe.frame {g0 HP:aH}{r:Nat}{x:ab}(h:pe P N g0 o HP) (ak:g r=some x) (J:cK x) (hk:hn g g0) (aI:g0 r=none) (h1:HP r=none) (aP:o.dst≠some r):qm P N (ub [r]) g o (cR HP r x):=by
 intro w I T Fs a_ a aQ bc K Q dk;have sk:=a_.mG.keep hk;refine h w I T _ sk a aQ bc K Q λcb w' aA oX=>?_;obtain ⟨bP,cu,I',b5,eL,bQ⟩:=aA;obtain ⟨u,hu,aU⟩:=a_.rel r x ak;have ht:cb.tmps[r]?=some u:=by rw [oX r aP,aQ]; exact hu
 have lG:∀ z q n m new,x≠.bD z q n m new:=by rintro z q n m new rfl; cases J
 have off:∀ c,Fs r c->¬ ∃ t,(g0 t≠none/\Fs t c):=by
  rintro c aa ⟨t,gO,af⟩;have:=a_.ep t r c af aa;subst this;exact gO aI
 have same:∀ c,Fs r c->w'.heap[c]?=w.heap[c]?:=λc aa=>bQ.eh.block c (a_.jC r c aa) (off c aa);have sS:∀ c,I c->w'.heap[c]?=w.heap[c]?:=λc aa=>bQ.eh.block c (a_.lt c aa) λ⟨t,_,aR⟩=>a_.bf t c aR aa;have nN:=eL.sP (d:=r) (x:=x) (v:=u) (F:=Fs r) h1 (Array.getElem?_eq_some_iff.1 ht).1 (.tree (((aU.fW lG).bh J).frame sS bQ.more (λ_ _ h=>h) same)) (λt c aa aV=>by
   rcases bQ.own c ⟨t,aV⟩ with aR | aR
   ·exact off c aa aR
   ·have:=a_.jC r c aa; omega) (λc aa hi=>by
   rcases bQ.new c hi with aR | aR | aR
   ·exact a_.bf r c aa aR
   ·exact off c aa aR
   ·have:=a_.jC r c aa; omega) (λz p n m new e=>absurd e (lG _ _ _ _ _))
 rw [Qm ht] at nN;refine dk cb w' ⟨bP,cu,I',_,nN,⟨bQ.eh.mono λb _ ⟨t,_,aR⟩=>⟨t,aR⟩,bQ.more,λc aa=>?_,λc aa=>?_⟩⟩ oX λdr path ec y ai hyp=>?_
 ·rcases bQ.new c aa with aR | ⟨t,_,aR⟩ | aR
  ·exact .inl aR
  ·exact .inr (.inl ⟨t,aR⟩)
  ·exact .inr (.inr aR)
 ·rcases ui aa with aR | aR
  ·rcases bQ.own c aR with ⟨t,_,gh⟩ | gh
   ·exact .inl ⟨t,gh⟩
   ·exact .inr gh
  ·exact .inl ⟨r,aR⟩
 ·have ec:dr∈[r]:=ec;simp only [List.mem_singleton] at ec;subst ec;have eX:hn g (λt=>if t=dr then some x else none):=by
   refine ⟨λt y e0=>?_,λt y e0=>?_,λt z q n m new e0=>?_⟩
   all_goals
    by_cases e:t=dr
    case neg=>simp [e] at e0
   ·subst e; simp at e0; subst e0; exact ak
   ·subst e; simp at e0; subst e0; exact .bh J
   ·subst e; simp at e0; exact lG _ _ _ _ _ e0
  refine (a_.mG.keep eX).x9 (T':=cb.tmps) (λt au=>?_) (λt c aa=>?_) (p:=⟨dr,path⟩) (y:=y) ?_
  ·by_cases e:t=dr
   ·subst e; rw [oX t aP,aQ]
   ·simp [e] at au
  ·by_cases e:t=dr
   ·subst e; exact same c aa.2
   ·simp [e] at aa
  ·simp only [bB,if_true];simpa [bB,ak] using ai
end
end Go.Own
namespace Go.Own
open Go
set_option linter.unusedSectionVars false
variable [cw]
abbrev Acc:=List (Nat × Nat × Option ab)
def dz (g0:aH) (A:Nat->Bool):Acc->aH
 | [],t=>g0 t
 | (k,d,r)::acc,t=>if d=t then (if A k then r else none) else dz g0 A acc t
def lN:Nat × Nat × Option ab->Option Place
 | (_,_,some (.bD _ p _ _ _))=>some p
 | _=>none
def pt (ops:Array Oper) (bl:List (List Nat)):Bool :=
 (List.range ops.size).all λk =>
  match ops[k]? with
  | none=>true
  | some o=>(o.after.all λe=>!Region.binds .any e||decide (e.on<k))&&(bl.getD k []).all λm=>decide (m<k)&&o.after.any λe=>Region.binds .any e&&(e.on == m||(bl.getD e.on []).contains m)
inductive h9 (P:Program) (N:cQ) (ops:Array Oper) (bl:List (List Nat)) (g0:aH) (i:Nat) (dI:Acc):Nat->Acc->Prop
 | nil:h9 P N ops bl g0 i dI i dI
 | step {j:Nat}{acc:Acc}{o:Oper}{d:Nat}{r:Option ab}(h:h9 P N ops bl g0 i dI j acc) (aM:ops[j]?=some o) (aP:o.dst=some d) (aL:g0 d=none) (aA:∀ e∈acc,e.2.1≠d) (jW:N.ok d=true)
   (av:pq P (dz g0 (λm=>(bl.getD j []).contains m) acc) ops o r):h9 P N ops bl g0 i dI (j+1) ((j,d,r)::acc)
structure mM (P:Program) (N:cQ) (ops:Array Oper) (bl:List (List Nat)) (g0:aH) (i:Nat) (dI:Acc):Prop where
 lt:∀ e∈dI,e.1<i
 free:∀ e∈dI,g0 e.2.1=none
 nd:(dI.map (·.2.1)).Nodup
 QL:∀ e∈dI,∀ b0∈dI,(e.1=b0.1\/e.2.1=b0.2.1)->e=b0
 st:∀ e∈dI,∃ hy,ops[e.1]?=some hy/\hy.dst=some e.2.1/\N.ok e.2.1=true/\pq P (dz g0 (λm=>(bl.getD e.1 []).contains m) dI) ops hy e.2.2
theorem mM.nil {P:Program}{N:cQ}{ops:Array Oper}{bl:List (List Nat)}{g0:aH}{i:Nat}:mM P N ops bl g0 i []:=⟨by simp,by simp,by simp,by simp,by simp⟩
inductive r6 (P:Program) (N:cQ) (ops:Array Oper) (bl:List (List Nat)):Nat->Acc->aH->aH->Prop
 | fin {i:Nat}{dI:Acc}{g:aH}{acc:Acc}(av:h9 P N ops bl g i dI ops.size acc) (hq:(acc.filterMap lN).Nodup) (gJ:∀ t z q n m new,g t≠some (.bD z q n m new)):r6 P N ops bl i dI g (dz g (λ_=>true) acc)
 | GY {i j:Nat}{g g1 g':aH}{dI acc U:Acc}{o:Oper}{rs:Place->Prop}(av:h9 P N ops bl g i dI j acc) (hq:(acc.filterMap lN).Nodup) (gJ:∀ t z q n m new,g t≠some (.bD z q n m new)) (aM:ops[j]?=some o) (hw:jd (dz g (λm=>(bl.getD j []).contains m) acc) ops o true)
   (he:qm P N rs (dz g (λm=>(bl.getD j []).contains m) acc) o g1) (mw:∀ p,rs p->g p.root≠none) (gq:U=acc.filter λe=>!(bl.getD j []).contains e.1) (J:∀ e∈U,∃ x,e.2.2=some x/\AJ rs (dz g (λm=>(bl.getD j []).contains m) acc) g1 o x) (h1:∀ e∈U,g1 e.2.1=none/\o.dst≠some e.2.1)
   (af:∀ e∈U,∃ hy,ops[e.1]?=some hy/\hy.dst=some e.2.1/\N.ok e.2.1=true/\pq P (dz g1 (λm=>(bl.getD e.1 []).contains m) U) ops hy e.2.2)
   (ao:(List.range ops.size).all (λk=>decide (k<=j)||(bl.getD k []).contains j)=true) (ak:r6 P N ops bl (j+1) U g1 g'):r6 P N ops bl i dI g g'
theorem l9 {g0:aH}{A:Nat->Bool}{acc:Acc}{t:Nat}(h:∀ e∈acc,e.2.1≠t):dz g0 A acc t=g0 t:=by
 induction acc with
 | nil=>rfl
 | cons e acc aJ =>
  grind [dz]
theorem uj {g0:aH}{A:Nat->Bool}{acc:Acc}{t:Nat}{x:ab}(h:dz g0 A acc t=some x):(∃ e∈acc,e.2.1=t/\A e.1=true/\e.2.2=some x)\/((∀ e∈acc,e.2.1≠t)/\g0 t=some x):=by
 induction acc with
 | nil=>exact .inr ⟨by simp,h⟩
 | cons e acc aJ =>
  grind [dz]
theorem K' {g:aH}{A:Nat->Bool}{acc:Acc}(hu:∀ e∈acc,∀ b0∈acc,e.2.1=b0.2.1->e=b0) {e:Nat × Nat × Option ab}(he:e∈acc):dz g A acc e.2.1=if A e.1 then e.2.2 else none:=by
 induction acc with
 | nil=>cases he
 | cons a acc aJ =>
  grind [dz]
section
variable {P:Program}{N:cQ}{ops:Array Oper}{bl:List (List Nat)}{g0:aH}{i:Nat}
variable {dI:Acc}
theorem h9.le {j:Nat}{acc:Acc}(h:h9 P N ops bl g0 i dI j acc) (gq:mM P N ops bl g0 i dI):i<=j/\∀ e∈acc,e.1<j:=by
 induction h with
 | nil=>exact ⟨Nat.le_refl _,gq.lt⟩
 | step _ _ _ _ _ _ _ aJ =>
  grind
theorem h9.ge {j:Nat}{acc:Acc}(h:h9 P N ops bl g0 i dI j acc) (gq:mM P N ops bl g0 i dI):∀ e∈acc,e∈dI\/i<=e.1:=by
 induction h with
 | nil=>exact λe he=>.inl he
 | step av _ _ _ _ _ _ aJ =>
  intro e he;rcases List.mem_cons.1 he with rfl | he
  ·exact .inr (av.le gq).1
  grind
theorem h9.K0 {j:Nat}{acc:Acc}(h:h9 P N ops bl g0 i dI j acc):∀ e∈dI,e∈acc:=by
 induction h with
 | nil=>exact λe he=>he
 | step _ _ _ _ _ _ _ aJ=>exact λe he=>by simp [aJ e he]
theorem h9.fresh {j:Nat}{acc:Acc}(h:h9 P N ops bl g0 i dI j acc) (gq:mM P N ops bl g0 i dI):∀ e∈acc,g0 e.2.1=none:=by
 induction h with
 | nil=>exact gq.free
 | step _ _ _ aL _ _ _ aJ =>
  grind
theorem h9.nodup {j:Nat}{acc:Acc}(h:h9 P N ops bl g0 i dI j acc) (gq:mM P N ops bl g0 i dI):(acc.map (·.2.1)).Nodup:=by
 induction h with
 | nil=>exact gq.nd
 | step _ _ _ _ aA _ _ aJ =>
  grind
theorem h9.uniq {j:Nat}{acc:Acc}(h:h9 P N ops bl g0 i dI j acc) (gq:mM P N ops bl g0 i dI):∀ {e b0:Nat × Nat × Option ab},e∈acc->b0∈acc->(e.1=b0.1\/e.2.1=b0.2.1)->e=b0:=by
 induction h with
 | nil=>exact λ{e b0} he h0 br=>gq.QL e he b0 h0 br
 | @step j acc o d r av _ _ _ aA _ _ aJ =>
  intro e b0 he h0 br;rcases List.mem_cons.1 he with rfl | he <;> rcases List.mem_cons.1 h0 with rfl | h0
  ·rfl
  ·rcases br with br | br
   ·have:=(av.le gq).2 b0 h0
    grind
   grind
  ·rcases br with br | br
   ·have:=(av.le gq).2 e he
    grind
   grind
  grind
theorem h9.at_mem {j:Nat}{acc:Acc}(h:h9 P N ops bl g0 i dI j acc) (gq:mM P N ops bl g0 i dI) {A:Nat->Bool}{e:Nat × Nat × Option ab}(he:e∈acc):dz g0 A acc e.2.1=if A e.1 then e.2.2 else none :=
 K' (λ_ J _ ai aR=>h.uniq gq J ai (.inr aR)) he
theorem h9.get {j:Nat}{acc:Acc}(h:h9 P N ops bl g0 i dI j acc) (gq:mM P N ops bl g0 i dI):∀ e∈acc,∃ o DT,ops[e.1]?=some o/\o.dst=some e.2.1/\N.ok e.2.1=true/\pq P (dz g0 (λm=>(bl.getD e.1 []).contains m) DT) ops o e.2.2/\∀ e∈DT,e∈acc:=by
 induction h with
 | nil =>
  intro e he;obtain ⟨hy,h1,af,aF,bk⟩:=gq.st e he
  grind
 | @step j acc o d r av aM aP aL aA jW bQ aJ =>
  intro e he;rcases List.mem_cons.1 he with rfl | he
  ·grind
  grind
theorem h9.has {j:Nat}{acc:Acc}(h:h9 P N ops bl g0 i dI j acc):∀ k,i<=k->k<j->∃ e∈acc,e.1=k:=by
 induction h with
 | nil=>intro k h1 af; omega
 | @step j acc o d r av aM aP aL aA jW bQ aJ =>
  grind [List.mem_cons_self]
theorem Y3 {acc:Acc}(hq:(acc.filterMap lN).Nodup) {e b0:Nat × Nat × Option ab}{p:Place}(he:e∈acc) (h0:b0∈acc) (h:lN e=some p) (aR:lN b0=some p):e=b0:=by
 induction acc with
 | nil=>simp at he
 | cons a acc aJ =>
  grind
def ey (listed:Array Bool) (k:Nat):Bool:=listed.getD k false
def gG (ops:Array Oper) (listed:Array Bool):Nat:=((List.range ops.size).filter λk=>!ey listed k).length
theorem uI {listed:Array Bool}{k:Nat}(hk:k<ops.size) (ah:ey listed k=false) (dO:listed.size=ops.size):gG ops (listed.setIfInBounds k true)+1<=gG ops listed:=by
 unfold gG;have key:∀ l:List Nat,l.Nodup->((l.filter λj=>!ey (listed.setIfInBounds k true) j).length+if k∈l then 1 else 0)=(l.filter λj=>!ey listed j).length:=by
  intro l
  induction l with
  | nil=>intro _; simp
  | cons j l aJ =>
   intro e7;have WI:=List.nodup_cons.1 e7;have aef:=aJ WI.2;by_cases fV:j=k
   ·simp_all [ey]
   ·have h1:ey (listed.setIfInBounds k true) j=ey listed j:=by simp [ey,Array.getElem?_setIfInBounds_ne (Ne.symm fV)]
    grind
 grind
end
end Go.Own
namespace Go.Own
open Go
set_option linter.unusedSectionVars false
variable [cw]
section
variable {P:Program}{N:cQ}{ops:Array Oper}{bl:List (List Nat)}
def Down (bl:List (List Nat)) (listed:Array Bool):Prop:=∀ k,ey listed k=true->∀ m∈bl.getD k [],ey listed m=true
theorem L2 (h:pt ops bl=true) {k:Nat}{o:Oper}(aM:ops[k]?=some o) :
  (∀ e∈o.after,Region.binds .any e=true->e.on<k)/\∀ m∈bl.getD k [],m<k/\∃ e∈o.after,Region.binds .any e=true/\(e.on=m\/m∈bl.getD e.on []):=by
 grind [pt,Array.all_eq_true_iff_forall_mem]
theorem xU {listed:Array Bool}{k:Nat}(h:k∈Region.ready .any ops listed):ey listed k=false/\∃ o,ops[k]?=some o/\∀ e∈o.after,Region.binds .any e=true->ey listed e.on=true:=by
 grind [mem_ready,ey]
theorem KF (dh:pt ops bl=true) {listed:Array Bool}(aP:Down bl listed) {k:Nat}(h:k∈Region.ready .any ops listed):∀ m∈bl.getD k [],ey listed m=true:=by
 obtain ⟨_,o,aM,af⟩:=xU h;intro m hm;obtain ⟨_,e,he,ao,aF⟩:=(L2 dh aM).2 m hm;rcases aF with rfl | aF
 ·grind
 ·exact aP e.on (af e he ao) m aF
theorem PT (dh:pt ops bl=true) {listed:Array Bool}(dO:listed.size=ops.size):∀ k,k<ops.size->ey listed k=false->Region.ready .any ops listed≠[]:=by
 intro k
 induction k using Nat.strongRecOn with
 | _ k aJ =>
  intro hk ah;by_cases hex:∃ j,j<k/\ey listed j=false
  ·grind
  ·have pR:k∈Region.ready .any ops listed:=by
    refine mem_ready.2 ⟨?_,ops[k],Array.getElem?_eq_getElem hk,λe he ao=>?_⟩
    ·grind [ey]
    ·have aK:=(L2 dh (Array.getElem?_eq_getElem hk)).1 e he ao
     grind [ey]
   grind
theorem Du {g0:aH}{A B:Nat->Bool}{acc:Acc}{t:Nat}(h:∀ e∈acc,e.2.1=t->A e.1=B e.1):dz g0 A acc t=dz g0 B acc t:=by
 induction acc with
 | nil=>rfl
 | cons e acc aJ =>
  grind [dz]
theorem DL {listed:Array Bool}{k j:Nat}(hk:k<listed.size):ey (listed.setIfInBounds k true) j=if j=k then true else ey listed j:=by
 by_cases fV:j=k
 all_goals simp_all [ey,Ne.symm]
theorem aaC {g0:aH}{i j:Nat}{acc U dI:Acc}(av:h9 P N ops bl g0 i dI j acc) (cX:mM P N ops bl g0 i dI) {A S:Nat->Bool}(gq:U=acc.filter λe=>!A e.1) (UN:∀ e∈acc,A e.1=true->S e.1=true):dz g0 S acc=dz (dz g0 A acc) S U:=by
 subst gq;funext t;by_cases hex:∃ e∈acc,e.2.1=t
 ·obtain ⟨e,he,rfl⟩:=hex;rw [av.at_mem cX he];by_cases dh:A e.1=true
  ·rw [l9,av.at_mem cX he,if_pos dh,if_pos (UN e he dh)];intro b0 h0 h;obtain ⟨h1,af⟩:=List.mem_filter.1 h0;have:=av.uniq cX h1 he (.inr h)
   grind
  ·rw [K' (λx J y ai h=>av.uniq cX (List.mem_filter.1 J).1 (List.mem_filter.1 ai).1 (.inr h)) (List.mem_filter.2 ⟨he,by simpa using dh⟩)]
 grind [l9]
theorem eo.mono {g g':aH}(aL:∀ t x,g t=some x->g' t=some x) {x:ab}(h:eo g x):eo g' x:=by
 induction h with
 | bh h=>exact .bh h
 | ref J h=>exact .ref J (h.mono aL)
 | own _ aJ=>exact .own aJ
 | obj _ aJ=>exact .obj aJ
 | agg _ aJ=>exact .agg aJ
 | bI _ aJ=>exact .bI aJ
 | dc _ _ f' fL=>exact .dc f' fL
 | bD aw _ aJ=>exact .bD (aw.mono aL) aJ
theorem MW {mm g1:aH}{o:Oper}{S:Nat->Bool}{rs:Place->Prop}(h:qm P N rs mm o g1) (mw:∀ p,rs p->mm p.root≠none):∀ (U:Acc),(∀ e∈U,∃ x,e.2.2=some x/\AJ rs mm g1 o x)->(∀ e∈U,mm e.2.1=none/\g1 e.2.1=none/\o.dst≠some e.2.1)->(U.map (·.2.1)).Nodup->qm P N rs (dz mm S U) o (dz g1 S U)
 | [],_,_,_=>h
 | (k,d,r)::U,J,h1,e7=>by
  simp only [List.map_cons,List.nodup_cons] at e7;have aJ:=MW (S:=S) h mw U (λe he=>J e (by simp [he])) (λe he=>h1 e (by simp [he])) e7.2;obtain ⟨x,e,bQ⟩:=J (k,d,r) (by simp);simp only at e;subst e;obtain ⟨ax,a2,a3⟩:=h1 (k,d,some x) (by simp);simp only at ax a2 a3;have na:∀ e∈U,e.2.1≠d:=λe he aR=>e7.1 (List.mem_map.2 ⟨e,he,aR⟩);cases a_:S k with
  | true =>
   have e:∀ g:aH,dz g S ((k,d,some x)::U)=cR (dz g S U) d x:=λg=>by
    funext t;simp only [dz,cR,a_,if_true];by_cases aP:d=t
    ·rw [if_pos aP,if_pos aP.symm]
    ·rw [if_neg aP,if_neg (Ne.symm aP)]
   rw [e,e];have FD:∀ r,mm r≠none->∀ e∈U,e.2.1≠r:=λr ak e he aR=>by
    have:=(h1 e (by simp [he])).1;rw [aR] at this;exact ak this
   have YQ:∀ r,g1 r≠none->∀ e∈U,e.2.1≠r:=λr ak e he aR=>by
    have:=(h1 e (by simp [he])).2.1;rw [aR] at this;exact ak this
   refine aJ.extra (λr ak=>by rw [l9 (FD r.root (mw r ak))]; exact mw r ak) (by rw [l9 na]; exact ax) (by rw [l9 na]; exact a2) a3 ?_;rcases bQ with ⟨r,path,z,n,uy,cs,rfl,fF,fQ,je,sb⟩ | ⟨v,rfl⟩ | ⟨s,p,m,rfl,fF,fQ,je⟩ | ⟨s,m,cs,rfl,fF,fQ,je,cs',sb,Si⟩ | ⟨z,n,cs,rfl,fF⟩ | ⟨cs,rfl,fF,fQ⟩
   ·refine .inl ⟨r,path,z,n,uy,cs,rfl,fF,?_,?_,sb⟩
    ·have:mm r≠none:=mw _ fF;simpa [bB,l9 (FD r this)] using fQ
    ·have:g1 r≠none:=λe=>by simp [bB,e] at je
     simpa [bB,l9 (YQ r this)] using je
   ·exact .inr (.inl ⟨v,rfl⟩)
   ·refine .inr (.inr (.inl ⟨s,p,m,rfl,?_,?_,je⟩))
    ·rw [l9]; exact fF;intro e he aR;have:=(h1 e (by simp [he])).1;rw [aR,fF] at this; cases this
    ·rw [l9]; exact fQ;intro e he aR;have:=(h1 e (by simp [he])).2.1;rw [aR,fQ] at this; cases this
   ·refine .inr (.inr (.inr (.inl ⟨s,m,cs,rfl,?_,fQ,je,cs',?_,Si⟩)))
    ·rw [l9]; exact fF;intro e he aR;have:=(h1 e (by simp [he])).2.1;rw [aR,fF] at this; cases this
    ·rw [l9 (FD s (by rw [sb]; simp))]; exact sb
   ·exact .inr (.inr (.inr (.inr (.inl ⟨z,n,cs,rfl,fF⟩))))
   ·refine .inr (.inr (.inr (.inr (.inr ⟨cs,rfl,fF,?_⟩))));have hle:∀ t y,mm t=some y->dz mm S U t=some y:=λt y ai=>by rw [l9 (FD t (by rw [ai]; simp))]; exact ai
    refine ⟨λt y ai=>?_,λt z q n m new ai=>?_⟩
    ·rcases uj ai with ⟨b0,h0,_,_,II⟩ | ⟨_,ai⟩
     ·obtain ⟨y',A6,BU⟩:=J b0 (by simp [h0]);rw [II] at A6; cases A6;rcases BU with ⟨r,path,z,n,uy,cs,rfl,c1,c2,kQ,c4⟩ | ⟨v,rfl⟩ | ⟨s,p,m,rfl,c1,_⟩ | ⟨s,m,cs,rfl,_,_,_,cs',c4,kr⟩ | ⟨z,n,cs,rfl,c1⟩ | ⟨cs,rfl,c1,_⟩
      ·exact .ref rfl (.inl ⟨uy,cs,kq hle c2,c4⟩)
      ·exact .bh .lit
      ·exact eo.mono hle (fQ.bR s _ c1)
      ·exact .ref rfl ⟨.obj cs',by simp [bB,hle s _ c4,ab.at],0,0,cs',.inr rfl,kr⟩
      ·exact .bh c1
      ·exact .bh c1.bh
     ·exact eo.mono hle (fQ.bR t y ai)
    ·rcases uj ai with ⟨b0,h0,_,_,II⟩ | ⟨_,ai⟩
     ·obtain ⟨y',A6,BU⟩:=J b0 (by simp [h0]);rw [II] at A6; cases A6;rcases BU with ⟨r,path,z,n,uy,cs,h,_⟩ | ⟨v,h⟩ | ⟨s,p,m,h,_⟩ | ⟨s,m,cs,h,_⟩ | ⟨z,n,cs,h,_⟩ | ⟨cs,h,_⟩ <;> cases h
     ·exact fQ.e8 _ _ _ _ _ _ ai
  | false =>
   have e:∀ g:aH,g d=none->dz g S ((k,d,some x)::U)=dz g S U:=λg aL=>by
    funext t;simp only [dz,a_];by_cases aP:d=t
    ·subst aP; rw [if_pos rfl,l9 na,aL]; rfl
    ·rw [if_neg aP]
   rw [e mm ax,e g1 a2];exact aJ
theorem PQ (dh:pt ops bl=true) {g0:aH}{i j:Nat}{acc dI:Acc}(av:h9 P N ops bl g0 i dI j acc) (cX:mM P N ops bl g0 i dI) (hq:(acc.filterMap lN).Nodup) (gJ:∀ t z q n m new,g0 t≠some (.bD z q n m new)) {listed:Array Bool}(dO:listed.size=ops.size) (aP:Down bl listed)
  {a:Act}{w:World}{I:a7}{Fs:Nat->a7}(a_:cG w I a.tmps (dz g0 (ey listed) acc) Fs) (bc:a.tmps.size=N.size) {e:Nat × Nat × Option ab}(he:e∈acc) (hk:e.1∈Region.ready .any ops listed) {K:Act->World->Prop}{Q:Exit->Act->World->Prop}
  (dk:∀ cb w' I' b5,cb.defers=a.defers->hW N a.tmps cb.tmps->cG w' I' cb.tmps (dz g0 (ey (listed.setIfInBounds e.1 true)) acc) b5->kM w I (λc=>∃ t,Fs t c) w' I' (λc=>∃ t,b5 t c)->K cb w'):wpOp P ops Q e.1 K a w:=by
 obtain ⟨di,kY,w3,_⟩:=xU hk;have y9:=(Array.getElem?_eq_some_iff.1 w3).1;have Bg:=KF dh aP hk;obtain ⟨o,DT,aM,ER,jW,bQ,gi⟩:=av.get cX e he;obtain ⟨k,d,r⟩:=e;simp only at *;have hle:nX (dz g0 (λm=>(bl.getD k []).contains m) DT) (dz g0 (ey listed) acc):=by
  intro t x J;rcases uj J with ⟨e,he,rfl,Es,hex⟩ | ⟨na,aL⟩
  ·rw [av.at_mem cX (gi e he),Bg e.1 (by simpa using Es)];exact hex
  ·rw [l9 λe he adJ=>?_]
   ·exact aL
   ·have:=av.fresh cX e he
    grind
 have eR:∀ z p n m new,r=some (.bD z p n m new)->∀ t bM ck bn cO,dz g0 (ey listed) acc t≠some (.bD bM p ck bn cO):=by
  intro z p n m new ak t bM ck bn cO au;rcases uj au with ⟨e,h0,_,Es,hex⟩ | ⟨_,aL⟩
  ·obtain ⟨ke,MM,dr⟩:=e;have:=Y3 hq (p:=p) he h0 (by rw [ak]; rfl) (by simp only at hex; rw [hex]; rfl)
   grind
  grind
 have BU:=bQ.mono hle eR;have rv:dz g0 (ey listed) acc d=none:=by
  have:=av.at_mem cX (A:=ey listed) he
  grind
 unfold wpOp;simp only [aM];refine BU.sound a_ rfl bc ER rv jW λcb w' aA=>?_;obtain ⟨bP,cu,I',b5,eL,ob⟩:=aA;have ji:∀ j,ey (listed.setIfInBounds k true) j=if j=k then true else ey listed j:=λj=>DL (by omega)
 have c':dz g0 (ey (listed.setIfInBounds k true)) acc=xS (dz g0 (ey listed) acc) d r:=by
  funext t;by_cases u':t=d
  ·subst u';have h1:=av.at_mem cX (A:=ey (listed.setIfInBounds k true)) he;simp only [ji k,if_true] at h1;rw [h1];cases r with
   | none=>simp only [xS]; exact rv.symm
   | some x=>simp [xS,cR]
  ·have h1:dz g0 (ey (listed.setIfInBounds k true)) acc t=dz g0 (ey listed) acc t:=Du λe h0 het=>by
    rw [ji e.1,if_neg];intro Wd;have:=av.uniq cX h0 he (.inl Wd)
    grind
   rw [h1];cases r with
   | none=>rfl
   | some x=>simp [xS,cR,u']
 grind
theorem Hz (dh:pt ops bl=true) {listed:Array Bool}(dO:listed.size=ops.size) (aP:Down bl listed) {k:Nat}(hk:k∈Region.ready .any ops listed):Down bl (listed.setIfInBounds k true):=by
 obtain ⟨di,kY,w3,_⟩:=xU hk;have y9:=(Array.getElem?_eq_some_iff.1 w3).1;have Bg:=KF dh aP hk;have ji:∀ q,ey (listed.setIfInBounds k true) q=if q=k then true else ey listed q:=λq=>DL (by omega)
 intro m hm q ba;rw [ji] at hm ⊢;split
 ·rfl
 ·split at hm
  ·grind
  ·exact aP m hm q ba
theorem h9.entry {g0:aH}{i j:Nat}{acc dI:Acc}(av:h9 P N ops bl g0 i dI j acc) {listed:Array Bool}(aK:∀ k,k<i->(∀ e∈dI,e.1≠k)->ey listed k=true) {k:Nat}(EJ:k<j) (di:ey listed k=false):∃ e∈acc,e.1=k:=by
 rcases Nat.lt_or_ge k i with h | h
 ·rcases Classical.em (∃ e∈dI,e.1=k) with ⟨e,he,aR⟩ | aR
  ·exact ⟨e,av.K0 e he,aR⟩
  grind
 ·exact av.has k h EJ
theorem r6.sound (dh:pt ops bl=true) {i:Nat}{dI:Acc}{g g':aH}(h:r6 P N ops bl i dI g g'):mM P N ops bl g i dI->∀ {Q:Exit->Act->World->Prop}(fuel:Nat) (listed:Array Bool) (a:Act) (w:World) (I:a7) (Fs:Nat->a7),gG ops listed<=fuel->listed.size=ops.size->(∀ k,k<i->(∀ e∈dI,e.1≠k)->ey listed k=true)->(∀ k,i<=k->ey listed k=false)->Down bl listed ->
  cG w I a.tmps (dz g (ey listed) dI) Fs->a.tmps.size=N.size->(∀ cb w',jo N a w I Fs g' cb w'->Q .normal cb w')->wpAny P .any ops Q fuel listed a w:=by
 have start:∀ {g:aH}{i j:Nat}{acc dI:Acc}{listed:Array Bool},h9 P N ops bl g i dI j acc->mM P N ops bl g i dI->(∀ k,i<=k->ey listed k=false)->dz g (ey listed) acc=dz g (ey listed) dI:=by
  intro g i j acc dI listed av cX dx;funext t;by_cases hex:∃ e∈acc,e.2.1=t
  ·obtain ⟨e,he,rfl⟩:=hex;rw [av.at_mem cX he];rcases av.ge cX e he with h | h
   ·rw [K' (λx J y ai aR=>cX.QL x J y ai (.inr aR)) h]
   ·rw [dx e.1 h];by_cases NW:∃ b0∈dI,b0.2.1=e.2.1
    ·obtain ⟨b0,h0,aR⟩:=NW;have:=av.uniq cX (av.K0 b0 h0) he (.inr aR);subst this;have:=cX.lt b0 h0;omega
    ·rw [l9 λb0 h0 aR=>NW ⟨b0,h0,aR⟩,av.fresh cX e he]; rfl
  ·rw [l9 λe he h=>hex ⟨e,he,h⟩,l9 λe he h=>hex ⟨e,av.K0 e he,h⟩]
 induction h with
 | @fin i dI g acc av hq gJ =>
  intro cX Q fuel listed a w I Fs aa dO aK dx aP a_ bc eu;rw [<- start av cX dx] at a_;clear dx;revert listed a w I Fs
  induction fuel with
  | zero =>
   intro listed a w I Fs aa dO aK aP a_ bc eu;have fv:∀ k,k<ops.size->ey listed k=true:=λk hk=>by
    cases ah:ey listed k with
    | true=>rfl
    | false=>have:=uI (ops:=ops) (listed:=listed) (k:=k) hk ah dO; omega
   refine wpAny_done ?_ (eu _ _ ⟨rfl,hW.refl,I,Fs,?_,kM.refl _ _ _⟩) 0
   ·cases ak:Region.ready .any ops listed with
    | nil=>rfl
    | cons k l =>
     have hk:k∈Region.ready .any ops listed:=by rw [ak]; simp
     obtain ⟨di,o,aM,_⟩:=xU hk
     grind
   ·have:dz g (ey listed) acc=dz g (λ_=>true) acc:=funext λt=>Du λe he _=>fv e.1 ((av.le cX).2 e he)
    grind
  | succ fuel aJ =>
   intro listed a w I Fs aa dO aK aP a_ bc eu;by_cases fv:∀ k,k<ops.size->ey listed k=true
   ·refine wpAny_done ?_ (eu _ _ ⟨rfl,hW.refl,I,Fs,?_,kM.refl _ _ _⟩) _
    ·cases ak:Region.ready .any ops listed with
     | nil=>rfl
     | cons k l =>
      have hk:k∈Region.ready .any ops listed:=by rw [ak]; simp
      obtain ⟨di,o,aM,_⟩:=xU hk
      grind
    ·have:dz g (ey listed) acc=dz g (λ_=>true) acc:=funext λt=>Du λe he _=>fv e.1 ((av.le cX).2 e he)
     grind
   ·obtain ⟨k0,ky⟩:=Classical.not_forall.1 fv;obtain ⟨Wr,Ws⟩:=Classical.not_imp.1 ky;refine ⟨λak=>absurd ak (PT dh dO k0 Wr (by simpa using Ws)),λk hk=>?_⟩;obtain ⟨di,kY,w3,_⟩:=xU hk;have y9:=(Array.getElem?_eq_some_iff.1 w3).1;obtain ⟨e,he,rfl⟩:=av.entry aK y9 di;have V3:=uI (ops:=ops) (listed:=listed) (k:=e.1) y9 di dO;refine PQ dh av cX hq gJ dO aP a_ bc he hk λcb w' I' b5 bP cu eL ob=>?_;refine aJ _ cb w' I' b5 (by omega) (by simpa using dO) (λm hm cN=>?_) (Hz dh dO aP hk) eL (cu.1.trans bc) λa2 e9 af=>eu _ _ (jo.trans bP cu ob af)
    grind [DL]
 | @GY i j g g1 g' dI acc U o rs av hq gJ aM hw he mw gq J h1 af ao _ XU =>
  intro cX Q fuel listed a w I Fs aa dO aK dx aP a_ bc eu;have y7:j<ops.size:=(Array.getElem?_eq_some_iff.1 aM).1;have Iy:∀ k,j<k->k<ops.size->j∈bl.getD k []:=λk hk y9=>by
   grind
  have BJ:∀ e∈U,e∈acc/\(bl.getD j []).contains e.1=false:=λe he=>by
   grind
  have e7:(U.map (·.2.1)).Nodup:=by
   rw [gq];exact (List.filter_sublist.map _).nodup (av.nodup cX)
  have Wk:∀ e∈U,dz g (λm=>(bl.getD j []).contains m) acc e.2.1=none:=λe he=>by
   rw [av.at_mem cX (BJ e he).1,(BJ e he).2];rfl
  have H':mM P N ops bl g1 (j+1) U:=⟨λe he=>by have:=(av.le cX).2 e (BJ e he).1; omega,λe he=>(h1 e he).1,e7,λe he b0 h0 h=>av.uniq cX (BJ e he).1 (BJ b0 h0).1 h,af⟩;have adO:∀ k,j<=k->ey listed k=false:=λk hk=>dx k (Nat.le_trans (av.le cX).1 hk);rw [<- start av cX dx] at a_;clear dx;revert listed a w I Fs
  induction fuel with
  | zero =>
   intro listed a w I Fs aa dO aK aP a_ bc eu dx;have:=uI (ops:=ops) (listed:=listed) (k:=j) y7 (dx j (Nat.le_refl _)) dO;omega
  | succ fuel XS =>
   intro listed a w I Fs aa dO aK aP a_ bc eu dx;have eV:=dx j (Nat.le_refl _);refine ⟨λak=>absurd ak (PT dh dO j y7 eV),λk hk=>?_⟩;obtain ⟨di,kY,w3,_⟩:=xU hk;have y9:=(Array.getElem?_eq_some_iff.1 w3).1;have Bg:=KF dh aP hk;have ji:∀ q,ey (listed.setIfInBounds k true) q=if q=k then true else ey listed q:=λq=>DL (by omega)
   have V3:=uI (ops:=ops) (listed:=listed) (k:=k) (by omega) di dO;rcases Nat.lt_trichotomy k j with EJ | rfl | EJ
   ·obtain ⟨e,NV,rfl⟩:=av.entry aK EJ di;refine PQ dh av cX hq gJ dO aP a_ bc NV hk λcb w' I' b5 bP cu eL ob=>?_;refine XS _ cb w' I' b5 (by omega) (by simpa using dO) (λm hm cN=>?_) (Hz dh dO aP hk) eL (cu.1.trans bc) (λa2 e9 af=>eu _ _ (jo.trans bP cu ob af)) λm hm=>?_
    ·grind
    grind
   ·have T1:=aaC (A:=λm=>(bl.getD k []).contains m) (S:=ey listed) av cX gq λe he dh=>Bg e.1 (by simpa using dh);have WV:∀ r:Place,rs r->dz g (λm=>(bl.getD k []).contains m) acc r.root≠none:=λr ak=>by
     rw [l9]
     ·grind
     ·intro e he aR;have:=av.fresh cX e he
      grind
    have Wc:=MW (S:=ey listed) he WV U J (λe he=>⟨Wk e he,h1 e he⟩) e7;have hle:nX (dz g (λm=>(bl.getD k []).contains m) acc) (dz g (ey listed) acc):=by
     intro t x J;rcases uj J with ⟨e,he,rfl,Es,hex⟩ | ⟨na,aL⟩
     ·rw [av.at_mem cX he,Bg e.1 (by simpa using Es)]; exact hex
     grind [l9]
    unfold wpOp;simp only [aM,(jd.mono hle hw).sound a_,if_true];refine .inl (Wc w I a.tmps Fs (by rw [<- T1]; exact a_) a rfl bc _ _ λcb w' aA _ _=>?_);obtain ⟨bP,cu,I',b5,eL,ob⟩:=aA;refine XU H' fuel (listed.setIfInBounds k true) cb w' I' b5 (by omega) (by simpa using dO) (λm hm cN=>?_) (λm hm=>?_) (Hz dh dO aP hk) ?_ (cu.1.trans bc) λa2 e9 af=>eu _ _ (jo.trans bP cu ob af)
    ·rw [ji];split
     ·rfl
     ·rename_i ad2;cases sw:ey listed m with
      | true=>rfl
      | false =>
       exfalso;obtain ⟨e,NV,rfl⟩:=av.entry aK (show m<k by omega) sw
       grind
    ·grind
    ·have:dz g1 (ey (listed.setIfInBounds k true)) U=dz g1 (ey listed) U:=funext λt=>Du λe he _=>by
      grind
     grind
   grind
end
end Go.Own
namespace Go.Own
open Go
set_option linter.unusedSectionVars false
variable [cw]
section
variable {P:Program}{N:cQ}
def k6 (P:Program) (N:cQ) (c:Code) (g:aH) (e:Exit) (g':aH):Prop :=
 ∀ ⦃Q:Exit->Act->World->Prop⦄ ⦃a:Act⦄ ⦃w:World⦄ ⦃I:a7⦄ ⦃Fs:Nat->a7⦄,cG w I a.tmps g Fs->a.tmps.size=N.size->(∀ cb w',jo N a w I Fs g' cb w'->Q e cb w')->c.wp P Q a w
theorem k6.skip {g:aH}:k6 P N .skip g .normal g:=λ_ _ _ _ _ a_ _ eu=>wp_skip (eu _ _ ⟨rfl,hW.refl,_,_,a_,kM.refl _ _ _⟩)
theorem k6.ret {g:aH}:k6 P N .ret g .ret g:=λ_ _ _ _ _ a_ _ eu=>wp_ret (eu _ _ ⟨rfl,hW.refl,_,_,a_,kM.refl _ _ _⟩)
theorem k6.exit {g:aH}{id:Nat}:k6 P N (.exit id) g (.exit id) g:=λ_ _ _ _ _ a_ _ eu=>wp_exit (eu _ _ ⟨rfl,hW.refl,_,_,a_,kM.refl _ _ _⟩)
def DK (P:Program) (c:Code) (Q:Exit->Act->World->Prop) (a:Act) (w:World):Prop :=
 ∀ (b:Frame) (k:List Item) (cs:List Frame),∃ e cb w',Q e cb w'/\Arrives P (lone (b.at a (.code c::.inLoop c::k)) cs w) b k cs e cb w'
def abb (P:Program) (N:cQ) (c:Code) (g:aH) (e:Exit) (g':aH):Prop :=
 ∀ ⦃Q:Exit->Act->World->Prop⦄ ⦃a:Act⦄ ⦃w:World⦄ ⦃I:a7⦄ ⦃Fs:Nat->a7⦄,cG w I a.tmps g Fs->a.tmps.size=N.size->(∀ cb w',jo N a w I Fs g' cb w'->Q e cb w')->DK P c Q a w
theorem Yg {c:Code}{Q:Exit->Act->World->Prop}{a:Act}{w:World}(h:c.wp P (Exit.then (DK P c Q) Q) a w):DK P c Q a w:=by
 intro b k cs;obtain ⟨e,AN,Dy,ba,ku⟩:=h b (.inLoop c::k) cs;cases e with
 | normal =>
  obtain ⟨T4,Sh,aaU,WT,Vx⟩:=ba b k cs;exact ⟨T4,Sh,aaU,WT,.of_steps (Steps.trans ku (.one step_inLoop)) Vx⟩
 | exit id=>exact ⟨_,AN,Dy,ba,.pass (x:=.inLoop c) rfl (λ_ _=>.inl (by simp)) ku⟩
 | goto l=>exact ⟨_,AN,Dy,ba,.pass (x:=.inLoop c) rfl (λ_ _=>.inl (by simp)) ku⟩
 | ret=>exact ⟨_,AN,Dy,ba,.pass (x:=.inLoop c) rfl (λ_ _=>.inl (by simp)) ku⟩
 | panic cI=>exact ⟨_,AN,Dy,ba,.pass (x:=.inLoop c) rfl (λ_ _=>.inl (by simp)) ku⟩
 | outgrown=>exact ⟨_,AN,Dy,ba,.pass (x:=.inLoop c) rfl (λ_ _=>.inl (by simp)) ku⟩
theorem k6.region {id:Nat}{ops:Array Oper}{g g':aH}(h:nZ P N ops (List.range ops.size) g g'):k6 P N (.region id ops false) g .normal g' :=
 λ_ _ _ _ _ a_ bc eu=>wp_region (h.sound a_ bc eu)
theorem k6.draw {id:Nat}{ops:Array Oper}{bl:List (List Nat)}{g g':aH}(hm:P.follows .mixedOrders=true) (dh:pt ops bl=true) (h:r6 P N ops bl 0 [] g g'):k6 P N (.region id ops true) g .normal g':=by
 intro Q a w I Fs a_ bc eu;refine wp_region_any hm ?_;have eL:cG w.drew I a.tmps g Fs:=a_.world (λ_ _ _=>rfl) (λ_ _=>rfl) (Nat.le_refl _);have fv:∀ k,ey (Array.replicate ops.size false) k=false:=by
  intro k;unfold ey;rcases Nat.lt_or_ge k ops.size with h | h
  ·simp [h]
  grind
 refine h.sound dh .nil ops.size (Array.replicate ops.size false) a w.drew I Fs ?_ (by simp) (λk hk=>by omega) (λk _=>fv k) (λk hk=>by rw [fv] at hk; cases hk) eL bc λcb w' aA=>eu _ _ ?_
 ·grind [gG]
 ·obtain ⟨bP,cu,I',b5,hI,bQ⟩:=aA;exact ⟨bP,cu,I',b5,hI,⟨⟨bQ.eh.os,bQ.eh.tape,bQ.eh.output,bQ.eh.size,bQ.eh.block,bQ.eh.fJ,Nat.le_trans (Nat.le_succ _) bQ.eh.uK⟩,bQ.more,bQ.new,bQ.own⟩⟩
inductive mP:ab->ab->Prop
 | refl {x:ab}:mP x x
 | dead {x:ab}(h:jL x\/cK x):mP x .dead
 | ov {z:Nat}:mP .bb (.own z 0 [])
 | o3 {z:Nat}:mP .bb (.bf z 0 [])
 | obj {cs cs':List ab}(ah:cs'.length=cs.length) (h:∀ (k:Nat) (x y:ab),cs[k]?=some x->cs'[k]?=some y->mP x y):mP (.obj cs) (.obj cs')
 | own {z n:Nat}{cs cs':List ab}(ah:cs'.length=cs.length) (h:∀ (k:Nat) (x y:ab),cs[k]?=some x->cs'[k]?=some y->mP x y):mP (.own z n cs) (.own z n cs')
theorem mP.l7 {x y:ab}{j:Nat × Nat}(h:mP x y) (e:y=.self j):x=.self j:=by
 cases h <;> first | exact e | cases e
theorem R.eS {w:World}{I:a7}{ρ:ab->Value->Prop}{x x':ab}(h:mP x x'):∀ {v:Value}{F:a7},R w I ρ x v F->∃ cW,R w I ρ x' v cW/\∀ c,cW c->F c:=by
 induction h with
 | refl=>exact λaU=>⟨_,aU,λ_ h=>h⟩
 | dead=>exact λaU=>⟨cd,.dead λ_ h=>h,λ_ h=>h.elim⟩
 | ov =>
  intro v F aU;rw [aU.p1];exact ⟨cd,.own (e:=0) (us:=[]) (Fs:=λ_=>cd) ⟨by simp,.inl ⟨rfl,rfl⟩⟩ rfl (by simp) (by simp) (λ_ _ _ _ _ h=>h.elim) (λ_ _ _ h=>h.elim) λc=>⟨λh=>h.elim,λh=>h.elim (λh=>by simp [Value.ownBlock] at h) λ⟨_,_,h⟩=>h⟩,λ_ h=>h.elim⟩
 | o3=>intro v F aU; rw [aU.p1]; exact ⟨cd,.hd λ_ h=>h,λ_ h=>h.elim⟩
 | @obj cs cs' ah tM aJ =>
  intro v F aU;cases aU with
  | ref J=>simp [ab.isRef] at J
  | @obj _ b e arr bH _ aM hp h1 ak aP ao aE av =>
   have:∀ k,∃ s3:a7,k<cs.length->(∀ (x:ab) (u:Value),cs'[k]?=some x->arr[k]?=some u->R w I ρ x u s3)/\∀ c,s3 c->bH k c:=by
    intro k;by_cases hk:k<cs.length
    ·have J:=List.getElem?_eq_getElem hk;have ai:cs'[k]?=some (cs'[k]'(by omega)):=List.getElem?_eq_getElem (by omega);have hu:arr[k]?=some (arr[k]'(by omega)):=Array.getElem?_eq_getElem (by omega);obtain ⟨cW,h1,af⟩:=aJ k _ _ J ai (ak k _ _ J hu);refine ⟨cW,λ_=>⟨λx u fD ht=>?_,af⟩⟩;rw [ai] at fD; rw [hu] at ht;cases fD; cases ht;exact h1
    ·exact ⟨cd,λh=>absurd h hk⟩
   obtain ⟨s3,rp⟩:=Classical.axiomOfChoice this;refine ⟨_,.obj (Fs:=s3) aM (by omega) h1 (λk x u J hu=>(rp k (by rw [<- ah]; exact (List.getElem?_eq_some_iff.1 J).1)).1 x u J hu) (λj k c ag hk h aR=>aP j k c (by omega) (by omega) ((rp j (by omega)).2 c h) ((rp k (by omega)).2 c aR)) (λk hk h=>ao k (by omega) ((rp k (by omega)).2 b h)) (λc=>Iff.rfl) (λk j u hk=>av k j u (Fx ah tM (λ_ _ _=>mP.l7) k j hk)),λc aa=>?_⟩;rcases aa with rfl | ⟨k,hk,h⟩
   ·exact (aE _).2 (.inl rfl)
   ·exact (aE c).2 (.inr ⟨k,by omega,(rp k (by omega)).2 c h⟩)
 | @own z n cs cs' ah _ aJ =>
  intro v F aU;cases aU with
  | ref J=>simp [ab.isRef] at J
  | @own _ _ _ _ e us bH _ aM hp h1 ak aP ao aE =>
   have:∀ k,∃ s3:a7,k<cs.length->(∀ (x:ab) (u:Value),cs'[k]?=some x->us[k]?=some u->R w I ρ x u s3)/\∀ c,s3 c->bH k c:=by
    intro k;by_cases hk:k<cs.length
    ·have J:=List.getElem?_eq_getElem hk;have ai:cs'[k]?=some (cs'[k]'(by omega)):=List.getElem?_eq_getElem (by omega);have hu:us[k]?=some (us[k]'(by omega)):=List.getElem?_eq_getElem (by omega);obtain ⟨cW,h1,af⟩:=aJ k _ _ J ai (ak k _ _ J hu);refine ⟨cW,λ_=>⟨λx u fD ht=>?_,af⟩⟩;rw [ai] at fD; rw [hu] at ht;cases fD; cases ht;exact h1
    ·exact ⟨cd,λh=>absurd h hk⟩
   obtain ⟨s3,rp⟩:=Classical.axiomOfChoice this;refine ⟨_,.own (Fs:=s3) aM (by omega) h1 (λk x u J hu=>(rp k (by rw [<- ah]; exact (List.getElem?_eq_some_iff.1 J).1)).1 x u J hu) (λj k c ag hk h aR=>aP j k c (by omega) (by omega) ((rp j (by omega)).2 c h) ((rp k (by omega)).2 c aR)) (λk c hk h=>ao k c (by omega) ((rp k (by omega)).2 c h)) (λc=>Iff.rfl),λc aa=>?_⟩;rcases aa with aa | ⟨k,hk,h⟩
   ·exact (aE _).2 (.inl aa)
   ·exact (aE c).2 (.inr ⟨k,by omega,(rp k (by omega)).2 c h⟩)
structure lX (g1 g2:aH):Prop where
 sub:∀ t x,g2 t=some x->∃ y,g1 t=some y/\mP y x
 bR:∀ t x,g2 t=some x->eo g2 x
 e8:∀ t z q n m new,g2 t≠some (.bD z q n m new)
theorem cG.eS {w:World}{I:a7}{T:Array Value}{g1 g2:aH}{Fs:Nat->a7}(h:cG w I T g1 Fs) (hk:lX g1 g2):∃ b5,cG w I T g2 b5/\∀ t c,b5 t c->Fs t c:=by
 have:∀ t,∃ cW:a7,(∀ x,g2 t=some x->∃ v,T[t]?=some v/\R w I (dG w T g2) x v cW)/\(∀ c,cW c->Fs t c)/\(g2 t=none->∀ c,¬ cW c):=by
  intro t;cases J:g2 t with
  | none=>exact ⟨cd,by simp,λ_ h=>h.elim,λ_ _ h=>h⟩
  | some x =>
   obtain ⟨y,ai,hw⟩:=hk.sub t x J;obtain ⟨v,hv,aU⟩:=h.mG.rel t y ai;have lG:∀ z q n m new,y≠.bD z q n m new:=by
    rintro z q n m new rfl;cases hw with
    | refl=>exact hk.e8 _ _ _ _ _ _ J
    | dead br=>rcases br with br | br <;> cases br
   obtain ⟨cW,h_,oQ⟩:=R.eS hw (aU.fW lG);exact ⟨cW,λx' fD=>by cases fD; exact ⟨v,hv,h_.bR (hk.bR t x J)⟩,oQ,by simp⟩
 obtain ⟨b5,tq⟩:=Classical.axiomOfChoice this;refine ⟨b5,⟨λt x J=>?_,λt au=>(tq t).2.2 au,λt t' c h1 af=>h.ep _ _ _ ((tq t).2.1 c h1) ((tq t').2.1 c af),λt c aa=>h.bf _ _ ((tq t).2.1 c aa),h.lt,λt t' z p n m new _ _ _ _ h1=>absurd h1 (hk.e8 _ _ _ _ _ _),h.g_⟩,λt=>(tq t).2.1⟩;obtain ⟨v,hv,aU⟩:=(tq t).1 x J;exact ⟨v,hv,.tree aU⟩
end
end Go.Own
namespace Go.Own
open Go
set_option linter.unusedSectionVars false
variable [cw]
inductive AG (P:Program) (g:aH):ResultVar->ab->Prop
 | tmp {t:Nat}{y:ab}(h:bp g (.tmp t)=some y):AG P g (.tmp t) y
 | cell {a:Nat}{t ty:TypeId}{y:ab}(h:c9 P g (.load t (.tmp a)) ty y):AG P g (.cell a t) y
inductive s6 (P:Program) (g:aH):List ResultVar->List ab->Prop
 | nil:s6 P g [] []
 | cons {r:ResultVar}{rs:List ResultVar}{y:ab}{ys:List ab}(h:AG P g r y) (au:s6 P g rs ys):s6 P g (r::rs) (y::ys)
def o8:List ab->ab
 | [x]=>x
 | l=>.bI l
def xV:List Value->Value
 | [x]=>x
 | l=>.tuple l.toArray
def vI (tmps:Array Value):ResultVar->Sem Value
 | .tmp t=>pure (tmps.getD t undef)
 | .cell a t=>do loadVar t (<- asAddr (tmps.getD a undef))
section
variable {P:Program}{w:World}{I:a7}{g:aH}{Fs:Nat->a7}
theorem AG.run {a:Act}(h:cG w I a.tmps g Fs) {r:ResultVar}{y:ab}(ak:AG P g r y):∃ v,(vI a.tmps r).run P w=.ok v w/\R w I (dG w a.tmps g) y v cd:=by
 cases ak with
 | @tmp t y h1=>exact ⟨_,rfl,kZ h h1 rfl⟩
 | @cell a0 t ty y h1 =>
  obtain ⟨v, hv, aU⟩ := c9.sound h rfl (o := { dst := none, op := .load t (.tmp a0), type := ty, pos := "", after := #[], guard := none }) h1;refine ⟨v,?_,aU⟩;have he:a.eval (.tmp a0)=a.tmps.getD a0 undef:=rfl;simp only [execOp,he] at hv;cases aa:a.tmps.getD a0 undef with
  | pointer ad =>
   cases ad with
   | some ad =>
    rw [aa] at hv;simp only [Instr.loadAt,Instr.sureAddr] at hv;simp only [vI,aa,asAddr];have aw:(pure ad >>= λx=>loadVar t x:Sem Value)=loadVar t ad:=by simp
    rw [aw];revert hv;generalize ba:loadVar t ad=q;intro hv;simp [ba] at hv;cases EU:q.run P w with
    | ok x e9=>rw [EU] at hv; simp at hv; rw [hv.1,hv.2]
    | halt e e9=>rw [EU] at hv; simp at hv
   | none=>rw [aa] at hv; simp [Instr.loadAt,Instr.sureAddr] at hv
  | _=>rw [aa] at hv; simp [Instr.loadAt,Instr.sureAddr] at hv
theorem P5 {f:ResultVar->Sem Value}:∀ (l:List ResultVar) (vs:List Value),l.length=vs.length->(∀ (k:Nat) (r:ResultVar) (v:Value),l[k]?=some r->vs[k]?=some v->(f r).run P w=.ok v w)->(l.mapM f).run P w=.ok vs w
 | [],[],_,_=>rfl
 | r::l,v::vs,ah,h=>by
  have aI:=h 0 r v rfl rfl;have h1:=P5 l vs (by simpa using ah) λk r v ak hv=>h (k+1) r v (by simpa using ak) (by simpa using hv);simp [List.mapM_cons,aI,h1]
 | [],_::_,ah,_=>by simp at ah
 | _::_,[],ah,_=>by simp at ah
theorem ZB {fn:Func}{tmps:Array Value}{vs:List Value}(ah:fn.results.toList.length=vs.length) (h:∀ (k:Nat) (r:ResultVar) (v:Value),fn.results.toList[k]?=some r->vs[k]?=some v->(vI tmps r).run P w=.ok v w):(results fn tmps).run P w=.ok (xV vs) w:=by
 have h1:=P5 fn.results.toList vs ah h;have af:fn.results.mapM (vI tmps)=List.toArray <$> fn.results.toList.mapM (vI tmps):=Array.mapM_eq_mapM_toList;have aF:(fn.results.mapM (vI tmps)).run P w=.ok vs.toArray w:=by rw [af]; simp [h1]
 have bk:results fn tmps=(do let vs <- fn.results.mapM (vI tmps); pure (if h:vs.size=1 then vs[0] else .tuple vs)):=by
  unfold results;congr 1
 rw [bk];simp only [Sem.run_bind,aF]
 match vs with
 | []=>rfl
 | [x]=>rfl
 | x::y::l=>simp [xV]
theorem s6.length {g:aH}{rs:List ResultVar}{ys:List ab}(h:s6 P g rs ys):rs.length=ys.length:=by
 induction h with
 | nil=>rfl
 | cons _ _ aJ=>simp [aJ]
theorem s6.run {a:Act}(h:cG w I a.tmps g Fs) {rs:List ResultVar}{ys:List ab}(ak:s6 P g rs ys):∃ vs:List Value,rs.length=vs.length/\(∀ (k:Nat) (r:ResultVar) (v:Value),rs[k]?=some r->vs[k]?=some v->(vI a.tmps r).run P w=.ok v w) /\
  ∀ (k:Nat) (y:ab) (v:Value),ys[k]?=some y->vs[k]?=some v->R w I (dG w a.tmps g) y v cd:=by
 induction ak with
 | nil=>exact ⟨[],rfl,by simp,by simp⟩
 | cons h1 _ aJ =>
  obtain ⟨v,hv,aU⟩:=h1.run h;obtain ⟨vs,ah,af,aF⟩:=aJ;refine ⟨v::vs,by simp [ah],λk r u ak hu=>?_,λk y u ai hu=>?_⟩
  ·cases k with
   | zero=>simp at ak hu; subst ak hu; exact hv
   | succ k=>exact af k r u (by simpa using ak) (by simpa using hu)
  ·cases k with
   | zero=>simp at ai hu; subst ai hu; exact aU
   | succ k=>exact aF k y u (by simpa using ai) (by simpa using hu)
theorem Hand.o8 {ρ:ab->Value->Prop}{Fs:Nat->a7}{xs:List ab}{vs:List Value}{dm:Nat->a7}(h:Hand w I ρ Fs xs vs dm) (aA:∀ x∈xs,cK x) (ρ':ab->Value->Prop):R w I ρ' (o8 xs) (xV vs) (λc=>∃ k,k<xs.length/\dm k c)/\cK (o8 xs):=by
 have bI:R w I ρ' (.bI xs) (.tuple vs.toArray) (λc=>∃ k,k<xs.length/\dm k c) :=
  .bI (by simpa using h.len) (λk x u J hu=>(h.rel k x u J (by simpa using hu)).bh (aA x (List.mem_of_getElem? J))) h.ep λc=>Iff.rfl
 match xs,vs,h,aA,bI with
 | [],[],_,_,bI=>exact ⟨bI,.bI (by simp)⟩
 | [x],[v],h,aA,_ =>
  refine ⟨((h.rel 0 x v rfl rfl).bh (aA x (by simp))).tg λc=>⟨λaa=>⟨0,by simp,aa⟩,λ⟨k,hk,aa⟩=>?_⟩,aA x (by simp)⟩;have:k=0:=by simpa using hk
  subst this; exact aa
 | x::y::l,v::u::m,_,aA,bI=>exact ⟨bI,.bI aA⟩
 | [],_::_,h,_,_=>have:=h.len; simp at this
 | _::_,[],h,_,_=>have:=h.len; simp at this
 | [_],_::_::_,h,_,_=>have:=h.len; simp at this
 | _::_::_,[_],h,_,_=>have:=h.len; simp at this
structure Leaves (P:Program) (N:cQ) (rs:List ResultVar) (g':aH) (n:Nat) (outs:List (Option ab)) (res:ab):Prop where
 ex:∃ ys xs g1,s6 P g' rs ys/\Take g' ys xs g1/\res=o8 xs/\∀ (k:Nat) (x:ab),outs[k]?=some (some x)->g1 k=some x/\cK x/\k∈N.pins
 len:outs.length=n
theorem cG.more {T:Array Value}(h:cG w I T g Fs) {T':Array Value}(c0:∀ t,g t≠none->T'[t]?=T[t]?):cG w I T' g Fs:=by
 refine ⟨λt x J=>?_,h.kA,h.ep,h.bf,h.lt,h.qV,h.g_⟩;obtain ⟨u,hu,aU⟩:=h.rel t x J;exact ⟨u,by rw [c0 t (by rw [J]; simp)]; exact hu,h.wG c0 (λ_ _ _=>rfl) (λ_ _=>rfl) (λ_ h=>h) (λ_ _ h=>h) aU λ_ _=>rfl⟩
end
end Go.Own
namespace Go.Own
open Go
set_option linter.unusedSectionVars false
variable [cw]
section
variable {P:Program}{N:cQ}
def W (P:Program) (N:cQ) (c:Code) (g:aH) (Φ:Exit->aH->Prop):Prop :=
 ∀ ⦃Q:Exit->Act->World->Prop⦄ ⦃a:Act⦄ ⦃w:World⦄ ⦃I:a7⦄ ⦃Fs:Nat->a7⦄,cG w I a.tmps g Fs->a.tmps.size=N.size->(∀ e g' cb w',Φ e g'->jo N a w I Fs g' cb w'->Q e cb w')->c.wp P Q a w
def oz (dS:aH->Prop) (Φ:Exit->aH->Prop):Exit->aH->Prop
 | .normal,g=>dS g
 | e,g=>Φ e g
def lJ (id:Nat) (Φ:Exit->aH->Prop):Exit->aH->Prop
 | .exit k,g=>if k=id then Φ .normal g else Φ (.exit k) g
 | e,g=>Φ e g
theorem k6.w {c:Code}{g g':aH}{e:Exit}{Φ:Exit->aH->Prop}(h:k6 P N c g e g') (p0:Φ e g'):W P N c g Φ :=
 λ_ _ _ _ _ a_ bc eu=>h a_ bc λcb w' aA=>eu _ _ cb w' p0 aA
theorem W.mono {c:Code}{g:aH}{Φ qj:Exit->aH->Prop}(h:W P N c g Φ) (p0:∀ e g',Φ e g'->qj e g'):W P N c g qj :=
 λ_ _ _ _ _ a_ bc eu=>h a_ bc λ_ _ cb w' h1 aA=>eu _ _ cb w' (p0 _ _ h1) aA
theorem W.skip {g:aH}{Φ:Exit->aH->Prop}(h:Φ .normal g):W P N .skip g Φ:=k6.skip.w h
theorem W.ret {g:aH}{Φ:Exit->aH->Prop}(h:Φ .ret g):W P N .ret g Φ:=k6.ret.w h
theorem W.exit {g:aH}{id:Nat}{Φ:Exit->aH->Prop}(h:Φ (.exit id) g):W P N (.exit id) g Φ:=k6.exit.w h
theorem W.seq {x y:Code}{g:aH}{Φ:Exit->aH->Prop}(h:W P N x g (oz (λg1=>W P N y g1 Φ) Φ)):W P N (.seq x y) g Φ:=by
 intro Q a w I Fs a_ bc eu;refine wp_seq (h a_ bc λe g1 ax fj h1 aA=>?_);cases e with
 | normal =>
  obtain ⟨bP,cu,I',b5,eL,bQ⟩:=aA;exact h1 eL (cu.1.trans bc) λth g2 a2 e9 af rA=>eu _ _ _ _ af (jo.trans bP cu bQ rA)
 | _=>exact eu _ _ _ _ h1 aA
theorem W.cond {c:Operand}{x y:Code}{g:aH}{Φ:Exit->aH->Prop}{b:Bool}(aa:bp g c=some (.lit (.bool b))) (h:W P N (if b then x else y) g Φ):W P N (.cond c x y) g Φ :=
 λ_ _ _ _ _ a_ bc eu=>wp_cond (t:=b) (kZ a_ aa rfl).gW.1 (h a_ bc eu)
theorem W.Tu {c:Operand}{x y:Code}{g:aH}{Φ:Exit->aH->Prop}(aa:bp g c=some (.lit (.bool true))) (h:W P N x g Φ):W P N (.cond c x y) g Φ:=W.cond aa h
theorem W.MG {c:Operand}{x y:Code}{g:aH}{Φ:Exit->aH->Prop}(aa:bp g c=some (.lit (.bool false))) (h:W P N y g Φ):W P N (.cond c x y) g Φ:=W.cond aa h
theorem W.block {id:Nat}{c:Code}{g:aH}{Φ:Exit->aH->Prop}(h:W P N c g (lJ id Φ)):W P N (.block id c) g Φ:=by
 intro Q a w I Fs a_ bc eu;refine wp_block (h a_ bc λe g1 ax fj h1 aA=>?_);cases e with
 | exit k =>
  have af:if k=id then Φ .normal g1 else Φ (.exit k) g1:=h1
  grind [Exit.inBlock]
 | _=>exact eu _ _ _ _ h1 aA
def oG (P:Program) (N:cQ) (c:Code) (g:aH) (Φ:Exit->aH->Prop):Prop :=
 ∀ ⦃Q:Exit->Act->World->Prop⦄ ⦃a:Act⦄ ⦃w:World⦄ ⦃I:a7⦄ ⦃Fs:Nat->a7⦄,cG w I a.tmps g Fs->a.tmps.size=N.size->(∀ e g' cb w',Φ e g'->jo N a w I Fs g' cb w'->Q e cb w')->DK P c Q a w
theorem W.loop {c:Code}{g:aH}{Φ:Exit->aH->Prop}(h:oG P N c g Φ):W P N (.loop c) g Φ:=by
 intro Q a w I Fs a_ bc eu b k cs;obtain ⟨e,cb,w',ba,ku⟩:=h a_ bc eu b k cs;exact ⟨e,cb,w',ba,.of_steps (.one step_loop) ku⟩
theorem oG.step {c:Code}{g:aH}{Φ:Exit->aH->Prop}(h:W P N c g (oz (λg1=>oG P N c g1 Φ) Φ)):oG P N c g Φ:=by
 intro Q a w I Fs a_ bc eu;refine Yg (h a_ bc λe g1 ax fj h1 aA=>?_);cases e with
 | normal =>
  obtain ⟨bP,cu,I',b5,eL,bQ⟩:=aA;exact h1 eL (cu.1.trans bc) λth g2 a2 e9 af rA=>eu _ _ _ _ af (jo.trans bP cu bQ rA)
 | _=>exact eu _ _ _ _ h1 aA
theorem W.weaken {c:Code}{g g1:aH}{Φ:Exit->aH->Prop}(hk:lX g g1) (h:W P N c g1 Φ):W P N c g Φ:=by
 intro Q a w I Fs a_ bc eu;obtain ⟨b5,eL,gi⟩:=a_.eS hk;exact h eL bc λe g' cb w' h1 aA=>eu _ _ _ _ h1 (jo.trans rfl hW.refl ⟨Fr.refl _ _,λ_ h=>h,λ_ h=>.inl h,λc ⟨t,aa⟩=>.inl ⟨t,gi t c aa⟩⟩ aA)
theorem oG.weaken {c:Code}{g g1:aH}{Φ:Exit->aH->Prop}(hk:lX g g1) (h:oG P N c g1 Φ):oG P N c g Φ:=by
 intro Q a w I Fs a_ bc eu;obtain ⟨b5,eL,gi⟩:=a_.eS hk;exact h eL bc λe g' cb w' h1 aA=>eu _ _ _ _ h1 (jo.trans rfl hW.refl ⟨Fr.refl _ _,λ_ h=>h,λ_ h=>.inl h,λc ⟨t,aa⟩=>.inl ⟨t,gi t c aa⟩⟩ aA)
def LO (P:Program) (N:cQ) (ops:Array Oper) (is:List Nat) (g:aH) (K:aH->Prop):Prop:=∃ g',nZ P N ops is g g'/\K g'
theorem W.region {id:Nat}{ops:Array Oper}{g:aH}{Φ:Exit->aH->Prop}(h:LO P N ops (List.range ops.size) g (Φ .normal)):W P N (.region id ops false) g Φ:=by
 obtain ⟨g',ak,p0⟩:=h;exact (k6.region ak).w p0
theorem bO.YF {f:FuncId}{fn:Func}{c:Code}{args:List ab}{outs:List (Option ab)}{res:ab}{N:cQ}(aV:P.funcs[f]?=some fn) (ao:fn.body=some c) (bc:fn.ntmps=N.size) (aQ:args.length<=N.size)
  (hlen:outs.length=args.length) (hw:W P N c (re args) λe g'=>(e=.normal\/e=.ret)/\Leaves P N fn.results.toList g' args.length outs res):bO P f args outs res:=by
 refine ⟨hlen,λw I vs Fs tK a_=>calls_of_wp aV ao ?_⟩;have dO:({ tmps:=vs.toArray++Array.replicate (fn.ntmps - vs.toArray.size) undef,defers:=[] }:Act).tmps.size=N.size:=by
  simp; omega
 have lE:∀ t,t<vs.length->(vs.toArray++Array.replicate (fn.ntmps - vs.toArray.size) undef)[t]?=vs.toArray[t]?:=by
  intro t au;rw [Array.getElem?_append_left (by simpa using au)]
 refine hw (a_.more (T':=vs.toArray++Array.replicate (fn.ntmps - vs.toArray.size) undef) λt au=>lE t ?_) dO λe g' cb w' ⟨he,aM⟩ aA=>?_
 ·unfold re at au;rw [tK];rcases Nat.lt_or_ge t args.length with h | h
  ·exact h
  ·exact absurd (List.getElem?_eq_none h) au
 obtain ⟨aP,hold,I',b5,eL,bQ⟩:=aA;obtain ⟨ys,xs,g1,Of,au,rfl,na⟩:=aM.ex;obtain ⟨us,sB,h2,nG⟩:=Of.run eL;have OC:ys.length=us.length:=by rw [<- Of.length,sB]
 obtain ⟨fN,dm,iP,js,fv⟩:=au.sound eL.mG (⟨OC,λk x u J hu=>(nG k x u J hu).frame (λ_ _=>rfl) (λ_ h=>h) (λ_ _ h=>h.1) λ_ _=>rfl,λ_ _ _ _ _ h=>h.elim,λ_ _ _ _ h=>h.elim,λ_ _ _ h=>h.elim⟩:Hand w' I' (fO w' cb.tmps) b5 ys us λ_=>cd);have gi:∀ c,lv fN xs.length dm c->∃ t,b5 t c:=by
  intro c aa;rcases fv c aa with h | ⟨_,_,h⟩
  ·exact h
  ·exact h.elim
 have IK:∃ j4,cG w' I' (vs++[xV us]).toArray (h4 outs (o8 xs)) j4/\∀ t c,j4 t c->∃ t,b5 t c:=by
  classical
  refine ⟨λt=>if t=outs.length then (λc=>∃ k,k<xs.length/\dm k c) else if ∃ x,outs[t]?=some (some x) then fN t else cd,⟨λt x J=>?_,λt sy c aa=>?_,λt t' c h1 af=>?_,λt c aa=>?_,eL.lt,λt t' z p n m new bM ck bn cO h1 af=>?_,eL.g_⟩,λt c aa=>?_⟩
  ·unfold h4 at J;by_cases aI:t=outs.length
   ·rw [if_pos aI] at J;cases J;subst aI;refine ⟨xV us,?_,.tree ?_⟩
    ·rw [aM.len,<- tK]; simp
    ·simpa using (js.o8 au.Ct _).1
   ·rw [if_neg aI] at J;have fD:outs[t]?=some (some x):=by
     cases br:outs[t]? with
     | none=>rw [br] at J; cases J
     | some y=>rw [br] at J; simpa using J
    obtain ⟨h1,af,aF⟩:=na t x fD;have Jh:t<vs.length:=by
     have:=(List.getElem?_eq_some_iff.1 fD).1;rw [tK,<- aM.len]; exact this
    obtain ⟨v,hv,aU⟩:=iP.rel t x h1;refine ⟨v,?_,?_⟩
    ·rw [hold.2 t aF] at hv;simp only at hv;rw [lE t Jh] at hv;simp only [List.getElem?_toArray] at hv ⊢;rw [List.getElem?_append_left Jh]; exact hv
    ·simp only [aI,if_false];rw [if_pos ⟨x,fD⟩];exact .tree ((aU.fW (by rintro z p n m new rfl; cases af)).bh af)
  ·unfold h4 at sy;by_cases aI:t=outs.length
   ·rw [if_pos aI] at sy; cases sy
   ·rw [if_neg aI] at sy;simp only [aI,if_false] at aa;rw [if_neg] at aa
    ·exact aa
    ·rintro ⟨x,J⟩;rw [J] at sy; cases sy
  ·by_cases aI:t=outs.length <;> by_cases Ep:t'=outs.length <;> simp only [aI,Ep,if_true,if_false] at h1 af
   ·rw [aI,Ep]
   ·split at af
    ·obtain ⟨k,hk,aa⟩:=h1;exact absurd af (js.off k t' c hk aa)
    ·exact af.elim
   ·split at h1
    ·obtain ⟨k,hk,aa⟩:=af;exact absurd h1 (js.off k t c hk aa)
    ·exact h1.elim
   ·split at h1
    ·split at af
     ·exact iP.ep _ _ _ h1 af
     ·exact af.elim
    ·exact h1.elim
  ·by_cases aI:t=outs.length <;> simp only [aI,if_true,if_false] at aa
   ·obtain ⟨k,hk,aa⟩:=aa;exact js.bf k c hk aa
   ·split at aa
    ·exact iP.bf _ _ aa
    ·exact aa.elim
  ·have key:∀ t x,h4 outs (o8 xs) t=some x->cK x:=by
    intro t x J;unfold h4 at J
    split at J
    ·cases J; exact (js.o8 au.Ct (λ_ _=>False)).2
    ·cases br:outs[t]? with
     | none=>rw [br] at J; cases J
     | some y=>rw [br] at J; exact (na t x (by rw [br]; simpa using J)).2.1
   have:=key t _ h1;cases this
  ·by_cases aI:t=outs.length <;> simp only [aI,if_true,if_false] at aa
   ·obtain ⟨k,hk,aa⟩:=aa;exact gi c (.inr ⟨k,hk,aa⟩)
   ·split at aa
    ·exact gi c (.inl ⟨t,aa⟩)
    ·exact aa.elim
 obtain ⟨j4,hI,W2⟩:=IK;have WS:cb.defers=[]/\∃ v,(results fn cb.tmps).run P w'=.ok v w'/\∃ dB I' b5,Ending.returned v=.returned dB/\cG w' I' (vs++[dB]).toArray (h4 outs (o8 xs)) b5/\kM w I (λc=>∃ t,Fs t c) w' I' (λc=>∃ t,b5 t c) :=
  ⟨aP,xV us,ZB sB h2,xV us,I',j4,rfl,hI,bQ.trans ⟨Fr.refl _ _,λ_ h=>h,λ_ h=>.inl h,λc ⟨t,aa⟩=>.inl (W2 t c aa)⟩⟩
 rcases he with rfl | rfl <;> exact WS
end
end Go.Own
namespace Go.Own
open Go
set_option linter.unusedSectionVars false
variable [cw]
def get:List (Nat × ab)->aH
 | [],_=>none
 | (s,x)::l,t=>if t=s then some x else get l t
inductive Rd (g:aH):Operand->ab->Prop
 | lit {t:Nat}{v:Value}(h:g t=some (.lit v)):Rd g (.tmp t) (.lit v)
 | k {v:Value}(h:ofConst v=.lit v):Rd g (.const v) (.lit v)
 | xr:Rd g (.const (.slice none 0 0)) .bb
 | J3 {v:Value}{cs:List ab}(h:ofConst v=.agg cs):Rd g (.const v) (.agg cs)
 | bb {t:Nat}(h:g t=some .bb):Rd g (.tmp t) .bb
 | bf {t z n:Nat}{cs:List ab}(h:g t=some (.bf z n cs)):Rd g (.tmp t) (.bf z n cs)
 | own {t z n:Nat}{cs:List ab}(h:g t=some (.own z n cs)):Rd g (.tmp t) (.bo z ⟨t,[]⟩ n)
 | obj {t:Nat}{c:ab}{cs:List ab}(h:g t=some (.obj (c::cs))):Rd g (.tmp t) (.ptr ⟨t,[]⟩ 0)
 | cL {t:Nat}{cs:List ab}(h:g t=some (.cL cs)):Rd g (.tmp t) (.cL cs)
 | ptr {t k:Nat}{p:Place}(h:g t=some (.ptr p k)):Rd g (.tmp t) (.ptr p k)
 | bo {t z n:Nat}{p:Place}(h:g t=some (.bo z p n)):Rd g (.tmp t) (.bo z p n)
 | sub {t z lo n:Nat}{p:Place}(h:g t=some (.sub z p lo n)):Rd g (.tmp t) (.sub z p lo n)
 | bD {t z n m:Nat}{p:Place}{new:List ab}(h:g t=some (.bD z p n m new)):Rd g (.tmp t) (.bo z ⟨t,[]⟩ (n+m))
 | agg {t:Nat}{cs cs':List ab}(h:g t=some (.agg cs)) (aa:(cs.mapIdx λi x=>fY 1 (Place.push ⟨t,[]⟩ i) x)=cs'):Rd g (.tmp t) (.agg cs')
 | bI {t:Nat}{cs cs':List ab}(h:g t=some (.bI cs)) (aa:(cs.mapIdx λi x=>fY 1 (Place.push ⟨t,[]⟩ i) x)=cs'):Rd g (.tmp t) (.bI cs')
 | func {f:FuncId}:Rd g (.func f) (.dc (.func f) [] [])
 | dc {t:Nat}{fn:Fn}{cs:List ab}(h:g t=some (.dc fn [] cs)):Rd g (.tmp t) (.dc fn [] cs)
 | mp {t:Nat}{q:Array MapEntry->Nat->Prop}(h:g t=some (.mp q)):Rd g (.tmp t) (.gY ⟨t,[]⟩)
 | gY {t:Nat}{p:Place}(h:g t=some (.gY p)):Rd g (.tmp t) (.gY p)
 | imp {t:Nat}{q:Array MapEntry->Nat->Prop}(h:g t=some (.imp q)):Rd g (.tmp t) (.imp q)
theorem Rd.bp {g:aH}{x:Operand}{y:ab}(h:Rd g x y):bp g x=some y:=by
 cases h with
 | agg h aa=>subst aa; simp [Own.bp,h,p9,fY]
 | bI h aa=>subst aa; simp [Own.bp,h,p9,fY]
 | k h=>simp [Own.bp,h]
 | xr=>rfl
 | J3 h=>simp [Own.bp,h]
 | func=>rfl
 | _ h=>simp [Own.bp,h,p9,fY]
section
variable {P:Program}{N:cQ}{ops:Array Oper}{g:aH}{K:aH->Prop}{l:List Oper}
def aD (P:Program) (N:cQ) (ops:Array Oper) (l:List Oper) (g:aH) (K:aH->Prop):Prop:=∀ i,ops.toList.drop i=l->LO P N ops (List.range' i l.length) g K
theorem W.C4 {id:Nat}{l:List Oper}{g:aH}{Φ:Exit->aH->Prop}(h:aD P N l.toArray l g (Φ .normal)):W P N (.region id l.toArray false) g Φ:=by
 refine W.region ?_;have:=h 0 (by simp)
 grind [List.range_eq_range']
theorem aD.nil (h:K g):aD P N ops [] g K:=λ_ _=>⟨g,.nil,h⟩
theorem drop_cons {i:Nat}{o:Oper}(h:ops.toList.drop i=o::l):ops[i]?=some o/\ops.toList.drop (i+1)=l:=by
 have h1:(ops.toList.drop i)[0]?=some o:=by rw [h]; rfl
 rw [List.getElem?_drop] at h1;refine ⟨by simpa using h1,?_⟩;rw [<- List.drop_drop,h];rfl
variable {d:Nat}{op:Op}{ty:TypeId}{pos:String}{after:Array Edge}{x:ab}
theorem aD.Dj {r:Option ab}{o:Oper}(aP:o.dst=some d) (bc:N.ok d=true) (aV:g d=none) (av:pq P g ops o r) (hk:aD P N ops l (xS g d r) K):aD P N ops (o::l) g K:=by
 intro i hi;obtain ⟨h1,af⟩:=drop_cons hi;obtain ⟨g',ak,dk⟩:=hk (i+1) af;exact ⟨g',.step h1 aP aV bc av ak,dk⟩
inductive Lx (g:aH) (d:Nat):aH->Prop
 | new (h:g d=none):Lx g d g
 | iy {y:ab}(h:g d=some y) (ah:leaf y=true):Lx g d (del g d)
inductive gm (g:aH) (ops:Array Oper):Option (Nat × Bool)->Prop
 | none:gm g ops none
 | yes {j t:Nat}{b:Bool}(h:(ops[j]?).bind (·.dst)=some t) (aL:g t=some (.lit (.bool b))):gm g ops (some (j,b))
variable {gd:Option (Nat × Bool)}{g1:aH}
theorem gm.wanted (h:gm g ops gd):jd g ops ⟨some d,op,ty,pos,after,gd⟩ true:=by
 cases h with
 | none=>rfl
 | @yes j t b h aL=>exact ⟨t,h,.inl ⟨b,aL,by simp⟩⟩
theorem aD.QN (aw:ch P g op ty x) (bc:N.ok d=true) (aV:g d=none) (hw:jd g ops ⟨some d,op,ty,pos,after,gd⟩ true) (hk:aD P N ops l (cR g d x) K):aD P N ops (⟨some d,op,ty,pos,after,gd⟩::l) g K :=
 .Dj rfl bc aV (r:=some x) (.inl ⟨hw,.inl aw⟩) hk
theorem aax:cR (del g d) d x=cR g d x:=by
 grind [cR,del]
theorem aD.over {y:ab}(aw:c9 P (del g d) op ty x) (bc:N.ok d=true) (aV:g d=some y) (ah:leaf y=true) (hk:aD P N ops l (cR g d x) K):aD P N ops (⟨some d,op,ty,pos,after,none⟩::l) g K:=by
 intro i hi;obtain ⟨g',ak,dk⟩:=aD.QN (pos:=pos) (after:=after) (gd:=Option.none) (.eG aw) bc (by simp [del]) (gm.wanted .none) (by rw [aax]; exact hk) i hi;exact ⟨g',.drop aV ah ak,dk⟩
theorem aD.aaB (aw:ch P g op ty x) (bc:N.ok d=true) (aV:g d=none) (aL:gm g ops gd) (hk:aD P N ops l (cR g d x) K):aD P N ops (⟨some d,op,ty,pos,after,gd⟩::l) g K :=
 .QN aw bc aV aL.wanted hk
theorem aD.call (aw:cF P g op x) (bc:N.ok d=true) (aV:g d=none) (aL:gm g ops gd) (hk:aD P N ops l (cR g d x) K):aD P N ops (⟨some d,op,ty,pos,after,gd⟩::l) g K :=
 .Dj rfl bc aV (r:=some x) (.inl ⟨aL.wanted,.inr aw⟩) hk
variable {jg:Option Nat}
theorem aD.forget {g1:aH}(hk:hn g g1) (h:aD P N ops l g1 K):aD P N ops l g K:=by
 intro i hi;obtain ⟨g',ak,dk⟩:=h i hi;exact ⟨g',.forget hk ak,dk⟩
variable {a b:Operand}{t t2:TypeId}{k:IntKind}{m n:Int}
theorem c9.add (J:Rd g a (.lit (.int k m))) (ai:Rd g b (.lit (.int k n))):c9 P g (.binOp .add t a b t2) ty (.lit (.int k (k.wrap (m+n)))) :=
 .bin J.bp ai.bp rfl λw=>by simp [eqGuard,binOp,Op.intArith]
theorem c9.Z7 (J:Rd g a (.lit (.int k m))) (ai:Rd g b (.lit (.int k n))):c9 P g (.binOp .sub t a b t2) ty (.lit (.int k (k.wrap (m - n)))) :=
 .bin J.bp ai.bp rfl λw=>by simp [eqGuard,binOp,Op.intArith]
theorem c9.mul (J:Rd g a (.lit (.int k m))) (ai:Rd g b (.lit (.int k n))):c9 P g (.binOp .mul t a b t2) ty (.lit (.int k (k.wrap (m * n)))) :=
 .bin J.bp ai.bp rfl λw=>by simp [eqGuard,binOp,Op.intArith]
theorem c9.quo (J:Rd g a (.lit (.int k m))) (ai:Rd g b (.lit (.int k n))) (h:n≠0):c9 P g (.binOp .quo t a b t2) ty (.lit (.int k (k.wrap (m.tdiv n)))) :=
 .bin J.bp ai.bp rfl λw=>by simp [eqGuard,binOp,Op.intDiv,h]
theorem c9.rem (J:Rd g a (.lit (.int k m))) (ai:Rd g b (.lit (.int k n))) (h:n≠0):c9 P g (.binOp .rem t a b t2) ty (.lit (.int k (m.tmod n))) :=
 .bin J.bp ai.bp rfl λw=>by simp [eqGuard,binOp,Op.intDiv,h]
theorem c9.cat {s u:ByteArray}(J:Rd g a (.lit (.string s))) (ai:Rd g b (.lit (.string u))) (h:s.size+u.size<=9223372036854775807):c9 P g (.binOp .add t a b t2) ty (.lit (.string (s++u))) :=
 .bin J.bp ai.bp rfl λw=>by
  have:¬ ((s.size+u.size:Nat):Int) > IntKind.i64.max:=by
   have:IntKind.i64.max=9223372036854775807:=by decide
   omega
  simp only [eqGuard,binOp,Op.stringOp,if_neg this];simp
theorem Mu {s u:ByteArray}(h:s.toList=u.toList):s=u:=by
 have h1:s.data.toList=u.data.toList:=by
  grind [ByteArray.toList_eq]
 cases s
 simp_all
theorem c9.oM {s u:ByteArray}(J:Rd g a (.lit (.string s))) (ai:Rd g b (.lit (.string u))) {c:Bool}(aa:c=true↔s=u):c9 P g (.binOp .eql t a b t2) ty (.lit (.bool c)) :=
 .bin J.bp ai.bp rfl λw=>by
  have:(s.toList == u.toList)=c:=by
   rw [Bool.eq_iff_iff,aa];simp only [beq_iff_eq];exact ⟨Mu,λh=>by rw [h]⟩
  simp [eqGuard,binOp,Op.stringOp,this]
theorem c9.nk {s u:ByteArray}(J:Rd g a (.lit (.string s))) (ai:Rd g b (.lit (.string u))) {c:Bool}(aa:c=true↔s≠u):c9 P g (.binOp .neq t a b t2) ty (.lit (.bool c)) :=
 .bin J.bp ai.bp rfl λw=>by
  have:(s.toList == u.toList)=!c:=by
   rw [Bool.eq_iff_iff];simp only [beq_iff_eq,Bool.not_eq_true'];cases c with
   | true=>simp only [true_iff] at aa; simp only [Bool.true_eq_false,iff_false]; exact λh=>aa (Mu h)
   | false =>
    simp only [Bool.false_eq_true,false_iff,Decidable.not_not] at aa;simp [aa]
  simp [eqGuard,binOp,Op.stringOp,this]
theorem c9.lss (J:Rd g a (.lit (.int k m))) (ai:Rd g b (.lit (.int k n))) {c:Bool}(aa:c=true↔m<n):c9 P g (.binOp .lss t a b t2) ty (.lit (.bool c)) :=
 .bin J.bp ai.bp rfl λw=>by
  have:decide (m<n)=c:=by rw [Bool.eq_iff_iff,aa]; simp
  simp [eqGuard,binOp,Op.intCmp,this]
theorem c9.leq (J:Rd g a (.lit (.int k m))) (ai:Rd g b (.lit (.int k n))) {c:Bool}(aa:c=true↔m<=n):c9 P g (.binOp .leq t a b t2) ty (.lit (.bool c)) :=
 .bin J.bp ai.bp rfl λw=>by
  have:decide (m<=n)=c:=by rw [Bool.eq_iff_iff,aa]; simp
  simp [eqGuard,binOp,Op.intCmp,this]
theorem c9.gtr (J:Rd g a (.lit (.int k m))) (ai:Rd g b (.lit (.int k n))) {c:Bool}(aa:c=true↔n<m):c9 P g (.binOp .gtr t a b t2) ty (.lit (.bool c)) :=
 .bin J.bp ai.bp rfl λw=>by
  have:decide (n<m)=c:=by rw [Bool.eq_iff_iff,aa]; simp
  simp [eqGuard,binOp,Op.intCmp,this]
theorem c9.geq (J:Rd g a (.lit (.int k m))) (ai:Rd g b (.lit (.int k n))) {c:Bool}(aa:c=true↔n<=m):c9 P g (.binOp .geq t a b t2) ty (.lit (.bool c)) :=
 .bin J.bp ai.bp rfl λw=>by
  have:decide (n<=m)=c:=by rw [Bool.eq_iff_iff,aa]; simp
  simp [eqGuard,binOp,Op.intCmp,this]
theorem c9.eql (J:Rd g a (.lit (.int k m))) (ai:Rd g b (.lit (.int k n))) {c:Bool}(aa:c=true↔m=n):c9 P g (.binOp .eql t a b t2) ty (.lit (.bool c)) :=
 .bin J.bp ai.bp rfl λw=>by
  have:(m == n)=c:=by rw [Bool.eq_iff_iff,aa]; simp
  simp [eqGuard,binOp,Op.intCmp,this]
theorem c9.neq (J:Rd g a (.lit (.int k m))) (ai:Rd g b (.lit (.int k n))) {c:Bool}(aa:c=true↔m≠n):c9 P g (.binOp .neq t a b t2) ty (.lit (.bool c)) :=
 .bin J.bp ai.bp rfl λw=>by
  have:(m != n)=c:=by rw [Bool.eq_iff_iff,aa]; simp
  simp [eqGuard,binOp,Op.intCmp,this]
theorem c9.not {c:Bool}(J:Rd g a (.lit (.bool c))):c9 P g (.unOp .not t a) ty (.lit (.bool (!c))) :=
 .un J.bp rfl λw=>by simp [Op.unary]
theorem c9.Y' {c a b:Operand}{y:ab}(aa:Rd g c (.lit (.bool true))) (ak:Rd g a y):c9 P g (.pick c a b) ty y:=.pick aa.bp ak.bp
theorem c9.Y_ {c a b:Operand}{y:ab}(aa:Rd g c (.lit (.bool false))) (ak:Rd g b y):c9 P g (.pick c a b) ty y:=.pick aa.bp ak.bp
theorem c9.ot {s:ByteArray}(J:Rd g a (.lit (.string s))) (au:o' P t=true):c9 P g (.call { callee:=.builtin .len,args:=#[a],argTypes:=#[t] }) ty (.lit (.int .i64 s.size)) :=
 .lits (vs:=[.string s]) (by simp [J.bp]) rfl λw cs=>by
  simp [builtin,Builtin.len_,run_underlying (KZ au),goInt]
section
variable {dS:aH->Prop}{Φ:Exit->aH->Prop}{id k:Nat}
theorem aam (h:dS g):oz dS Φ .normal g:=h
theorem aan (h:Φ .ret g):oz dS Φ .ret g:=h
theorem aal (h:Φ (.exit k) g):oz dS Φ (.exit k) g:=h
theorem XX (h:Φ .normal g):lJ id Φ .normal g:=h
theorem XY (h:Φ .ret g):lJ id Φ .ret g:=h
theorem XV (h:Φ .normal g):lJ id Φ (.exit id) g:=by
 show if id=id then Φ .normal g else Φ (.exit id) g
 grind
theorem XW (hk:Nat.beq k id=false) (h:Φ (.exit k) g):lJ id Φ (.exit k) g:=by
 show if k=id then Φ .normal g else Φ (.exit k) g
 grind [Nat.ne_of_beq_eq_false]
end
def Fin (P:Program) (N:cQ) (rs:List ResultVar) (n:Nat) (outs:List (Option ab)) (res:ab) (e:Exit) (g':aH):Prop:=(e=.normal\/e=.ret)/\Leaves P N rs g' n outs res
theorem bO.fin {f:FuncId}{fn:Func}{c:Code}{args:List ab}{outs:List (Option ab)}{res:ab}{N:cQ}(aV:P.funcs[f]?=some fn) (ao:fn.body=some c) (bc:fn.ntmps=N.size) (aQ:Nat.ble args.length N.size=true) (hlen:outs.length=args.length)
  (hw:W P N c (re args) (Fin P N fn.results.toList args.length outs res)):bO P f args outs res:=.YF aV ao bc (Nat.le_of_ble_eq_true aQ) hlen hw
def vt (outs:List (Option ab)):Bool:=outs.all λx=>x.isNone
theorem Pm {outs:List (Option ab)}(h:vt outs=true) (k:Nat) (x:ab):outs[k]?≠some (some x):=by
 intro e;have:=List.all_eq_true.1 h _ (List.mem_of_getElem? e)
 grind
inductive GG (g:aH):List ResultVar->List ab->Prop
 | nil:GG g [] []
 | cons {t:Nat}{y:ab}{rs:List ResultVar}{ys:List ab}(h:Rd g (.tmp t) y) (aA:cK y) (au:GG g rs ys):GG g (.tmp t::rs) (y::ys)
inductive q' (g:aH):List Operand->List ab->Prop
 | nil:q' g [] []
 | cons {x:Operand}{y:ab}{xs:List Operand}{ys:List ab}(h:Rd g x y) (aA:cK y) (au:q' g xs ys):q' g (x::xs) (y::ys)
theorem q'.spec {xs:List Operand}{ys:List ab}(h:q' g xs ys):hz g xs=some ys/\∀ y∈ys,cK y:=by
 induction h with
 | nil=>exact ⟨rfl,by simp⟩
 | cons h aA _ aJ=>exact ⟨by simp only [hz,h.bp,aJ.1],rS aA aJ.2⟩
theorem cF.TU {xs:List Operand}{fT:Array TypeId}{f:FuncId}{ys:List ab}{outs:List (Option ab)}{res:ab}(gH:bO P f ys outs res) (aV:gU P f=true) (J:q' g xs ys) (aM:vt outs=true) (ak:cK res) :
  cF P g (.call { callee:=.value (.func f),args:=xs.toArray,argTypes:=fT }) res:=by
 have na:outs=ys.map λ_=>Option.none:=by
  apply List.ext_getElem?;intro k;rw [List.getElem?_map];cases ai:ys[k]? with
  | none=>rw [List.getElem?_eq_none (by rw [gH.1]; exact List.getElem?_eq_none_iff.1 ai)]; rfl
  | some y =>
   have hk:k<outs.length:=by rw [gH.1]; exact (List.getElem?_eq_some_iff.1 ai).1
   have h1:=List.getElem?_eq_getElem hk;rw [h1];cases af:outs[k] with
   | none=>rfl
   | some x=>rw [af] at h1; exact absurd h1 (Pm aM k x)
 exact .plain (first:=[]) (caps:=[]) (ys:=ys) rfl (by simpa using J.spec.1) aV (by simpa using J.spec.2) (by simpa [<- na] using gH) ak
end
end Go.Own
namespace Go.Own
open Go
set_option linter.unusedSectionVars false
variable [cw]
def ih (s:ByteArray) (m:Int):Int:=((s[m.toNat]?.getD 0).toNat:Nat)
def qx (s:ByteArray) (m n:Int):ByteArray:=s.extract m.toNat n.toNat
section
variable {P:Program}{N:cQ}{ops:Array Oper}{g:aH}{K:aH->Prop}{l:List Oper}
variable {d:Nat}{op:Op}{ty:TypeId}{pos:String}{after:Array Edge}{x:ab}{a b:Operand}{t t2:TypeId}{k:IntKind}{m n:Int}{gd:Option (Nat × Bool)}
theorem c9.Se {s:ByteArray}{i:Operand}(J:Rd g a (.lit (.string s))) (hi:Rd g i (.lit (.int k m))) (au:o' P t=true) (h:0<=m/\m<s.size):c9 P g (.index t a i) ty (.lit (.int .u8 (ih s m))):=by
 obtain ⟨j,rfl⟩:=Int.eq_ofNat_of_zero_le h.1;have ag:j<s.size:=by omega
 have ao:s[j]?=some s[j]:=getElem?_pos s j ag;have:ih s (j:Int)=(s[j].toNat:Nat):=by simp [ih,ao]
 rw [this];exact .E7 J.bp hi.bp au ao
theorem c9.KX {s:ByteArray}{lo hi:Operand}{fX:IntKind}(J:Rd g a (.lit (.string s))) (ah:Rd g lo (.lit (.int k m))) (br:Rd g hi (.lit (.int fX n))) (au:o' P t=true) (h:0<=m/\m<=n/\n<=s.size) :
  c9 P g (.slice t a (some lo) (some hi) none) ty (.lit (.string (qx s m n))):=by
 obtain ⟨i,rfl⟩:=Int.eq_ofNat_of_zero_le h.1;obtain ⟨j,rfl⟩:=Int.eq_ofNat_of_zero_le (show 0<=n by omega);exact .Df J.bp ⟨_,ah.bp⟩ ⟨_,br.bp⟩ au (by omega) (by omega)
theorem c9.ZR {s:ByteArray}{hi:Operand}{fX:IntKind}(J:Rd g a (.lit (.string s))) (br:Rd g hi (.lit (.int fX n))) (au:o' P t=true) (h:0<=n/\n<=s.size) :
  c9 P g (.slice t a none (some hi) none) ty (.lit (.string (qx s 0 n))):=by
 obtain ⟨j,rfl⟩:=Int.eq_ofNat_of_zero_le h.1;exact .Df (l:=0) J.bp rfl ⟨_,br.bp⟩ au (by omega) (by omega)
theorem TA {s:ByteArray}{m n:Int}(h:0<=m/\m<=n/\n<=s.size):((qx s m n).size:Int)=n - m:=by
 grind [qx,ByteArray.size_extract]
def jI (P:Program) (e:TypeId) (z:Nat):Bool :=
 match (P.info? e).bind (·.zero) with
 | some v=>v.cells.size == z
 | none=>false
theorem Q1 {e:TypeId}{z:Nat}(h:jI P e z=true):∃ v,(P.info? e).bind (·.zero)=some v/\v.cells.size=z:=by
 grind [jI]
inductive yt (g:aH):List Operand->List Value->Prop
 | nil:yt g [] []
 | cons {x:Operand}{v:Value}{xs:List Operand}{vs:List Value}(h:Rd g x (.lit v)) (au:yt g xs vs):yt g (x::xs) (v::vs)
theorem yt.map {xs:List Operand}{vs:List Value}(h:yt g xs vs):xs.map (bp g)=vs.map λv=>some (.lit v):=by
 induction h with
 | nil=>rfl
 | cons h _ aJ=>simp only [List.map_cons,h.bp,aJ]
theorem c9.T3 {xs:List Operand}{fT:Array TypeId}{f:FuncId}{vs:List Value}{v:Value}(ak:∀ w,(callFunc f vs.toArray).run P w=.ok (.value v) w) (hv:v.oneCell'=true) (J:yt g xs vs) :
  c9 P g (.call { callee:=.value (.func f),args:=xs.toArray,argTypes:=fT }) ty (.lit v) :=
 .Eh (vs:=vs) (by simpa using J.map) hv ak
inductive AE (g:aH):List Nat->List (Nat × ab)->Prop
 | nil:AE g [] []
 | some {s:Nat}{x:ab}{Dh:List Nat}{l:List (Nat × ab)}(h:g s=some x) (aA:cK x) (au:AE g Dh l):AE g (s::Dh) ((s,x)::l)
 | none {s:Nat}{Dh:List Nat}{l:List (Nat × ab)}(au:AE g Dh l):AE g (s::Dh) l
end
end Go.Own
namespace Go.Own
open Go
set_option linter.unusedSectionVars false
variable [cw]
def abf (s:ByteArray) (n:Nat):Prop:=s.size<=n
section
variable {P:Program}{g:aH}{ty:TypeId}{a b:Operand}{t t2:TypeId}{N:cQ}{ops:Array Oper}{K:aH->Prop}{l:List Oper}{d:Nat}{pos:String}{after:Array Edge}{gd:Option (Nat × Bool)}
theorem W.Tt {c:Operand}{x y:Code}{Φ:Exit->aH->Prop}{b:Bool}(aa:Rd g c (.lit (.bool b))) (c0:b=true->W P N x g Φ) (aE:b=false->W P N y g Φ):W P N (.cond c x y) g Φ:=by
 cases b with
 | true=>exact .Tu aa.bp (c0 rfl)
 | false=>exact .MG aa.bp (aE rfl)
theorem Zz {c e:Bool}(au:P.underlying t=some .bool) (w:World):(do eqGuard .eql t a b (.bool c) (.bool e); binOp .eql t (.bool c) (.bool e):Sem Value).run P w=.ok (.bool (c == e)) w:=by
 have h:=run_equal_bool w t c e au;simp [eqGuard,binOp,h]
def G7 (P:Program) (t:TypeId):Bool :=
 match P.underlying t with
 | some .bool=>true
 | _=>false
theorem Sv (h:G7 P t=true):P.underlying t=some .bool:=by
 unfold G7 at h
 split at h
 ·assumption
 ·cases h
def tP (P:Program) (t:TypeId) (k:IntKind):Bool :=
 match P.underlying t with
 | some (.int ke)=>ke == k
 | _=>false
theorem OK {k:IntKind}(h:tP P t k=true):P.underlying t=some (.int k):=by
 unfold tP at h
 split at h
 ·rename_i ke hk; rw [hk]; have:ke=k:=by simpa using h
  rw [this]
 ·cases h
theorem c9.Tv {k ke:IntKind}{m:Int}(J:Rd g a (.lit (.int k m))) (av:tP P t k=true) (aP:tP P t2 ke=true):c9 P g (.convert t t2 a) ty (.lit (.int ke (ke.wrap m))) :=
 .conv J.bp rfl λw=>by simp [convert,run_underlying (OK av),run_underlying (OK aP),Conv.intToInt]
inductive Bytes (g:aH):List Operand->List Int->Prop
 | nil:Bytes g [] []
 | cons {x:Operand}{v:Int}{xs:List Operand}{vs:List Int}(h:Rd g x (.lit (.int .u8 v))) (au:Bytes g xs vs):Bytes g (x::xs) (v::vs)
end
end Go.Own
namespace Go.Own
open Go Go.RowKit
set_option linter.unusedSectionVars false
variable [cw]
end Go.Own
namespace Go.Own
open Go
set_option linter.unusedSectionVars false
variable [cw]
section
variable {P:Program}{g:aH}{ty:TypeId}{a b:Operand}{t t2:TypeId}{N:cQ}{ops:Array Oper}{K:aH->Prop}{l:List Oper}{d:Nat}{pos:String}{after:Array Edge}{gd:Option (Nat × Bool)}
end
end Go.Own
namespace Go.Own
open Go
set_option linter.unusedSectionVars false
variable [cw]
end Go.Own
namespace Go.Own
open Go
set_option linter.unusedSectionVars false
variable [cw]
structure bK (α:Type) where
 z:Nat
 cells:α->List ab
 len:∀ a,(cells a).length=z
 bh:∀ a,∀ x∈cells a,cK x
variable {α β S R:Type}
def bu (e:bK α) (l:List α):List ab:=l.flatMap e.cells
abbrev ar (e:bK α) (l:List α):ab:=.own e.z l.length (bu e l)
abbrev ay (e:bK α) (l:List α):ab:=.bf e.z l.length (bu e l)
abbrev ae (n:Int):ab:=.lit (.int .i64 n)
abbrev mi (n:Int):ab:=.lit (.int .u8 n)
abbrev bd (b:Bool):ab:=.lit (.bool b)
abbrev aq (s:ByteArray):ab:=.lit (.string s)
abbrev aS (n:Int):Int:=IntKind.i64.wrap n
abbrev uk (n:Int):Int:=IntKind.u8.wrap n
theorem np (e:bK α) (l:List α):(bu e l).length=l.length * e.z:=by
 induction l with
 | nil=>simp [bu]
 | cons a l aJ =>
  have:bu e (a::l)=e.cells a++bu e l:=by simp [bu]
  rw [this,List.length_append,e.len,aJ,List.length_cons,Nat.add_mul]; omega
theorem o9 (e:bK α) (l:List α):∀ x∈bu e l,cK x:=by
 intro x J;obtain ⟨a,_,h⟩:=List.mem_flatMap.1 J;exact e.bh a x h
theorem FU (e:bK α) (l m:List α):bu e (l++m)=bu e l++bu e m:=by simp [bu]
theorem C7 (e:bK α):∀ (l:List α) (i:Nat),(bu e l).drop (i * e.z)=bu e (l.drop i)
 | l,0=>by simp
 | [],i+1=>by simp [bu]
 | a::l,i+1=>by
  have h:bu e (a::l)=e.cells a++bu e l:=by simp [bu]
  rw [h,List.drop_append,e.len,List.drop_eq_nil_of_le (by rw [e.len,Nat.add_mul]; omega)];have:(i+1) * e.z - e.z=i * e.z:=by rw [Nat.add_mul]; omega
  rw [this,List.nil_append,C7 e l i]; rfl
theorem z' (e:bK α):∀ (l:List α) (i:Nat),(bu e l).take (i * e.z)=bu e (l.take i)
 | l,0=>by simp [bu]
 | [],i+1=>by simp [bu]
 | a::l,i+1=>by
  have h:bu e (a::l)=e.cells a++bu e l:=by simp [bu]
  rw [h,List.take_append,e.len,List.take_of_length_le (by rw [e.len,Nat.add_mul]; omega)];have:(i+1) * e.z - e.z=i * e.z:=by rw [Nat.add_mul]; omega
  rw [this,z' e l i]; simp [bu]
def idx (l:List α) (i:Int):Option α:=if 0<=i then l[i.toNat]? else none
theorem qO {l:List α}{i:Int}{y:α}(h:idx l i=some y):0<=i/\i<l.length/\l[i.toNat]?=some y:=by
 grind [idx]
theorem KL (e:bK α) {l:List α}{i:Int}{y:α}(h:idx l i=some y):(bu e l).drop (i.toNat * e.z)=e.cells y++bu e (l.drop (i.toNat+1)):=by
 obtain ⟨aI,h1,af⟩:=qO h
 grind [C7,List.drop_eq_getElem_cons,bu]
theorem PY (e:bK α) {l:List α}{i:Int}{y:α}(h:idx l i=some y) {k:Nat}{x:ab}(hk:(e.cells y)[k]?=some x):(bu e l)[i.toNat * e.z+k]?=some x:=by
 have aK:=(List.getElem?_eq_some_iff.1 hk).1;rw [<- List.getElem?_drop,KL e h,List.getElem?_append_left aK]; exact hk
abbrev lim:Nat:=1099511627776
def fuel:Nat:=1000000000000000000
def iter (f:S->Option (S ⊕ R)):Nat->S->Option R
 | 0,_=>none
 | n+1,s=>match f s with
  | none=>none
  | some (.inl cY)=>iter f n cY
  | some (.inr r)=>some r
def cc (f:S->Option (S ⊕ R)) (s:S):Option R:=iter f fuel s
theorem rh {o:Option α}{f:α->Option β}{r:β}(h:o.bind f=some r):∃ y,o=some y/\f y=some r:=Option.bind_eq_some_iff.1 h
theorem S0 {b:Bool}{x y o:α}(ao:b=true) (h:cond b x y=o):x=o:=by
 grind
theorem SZ {b:Bool}{x y o:α}(ao:b=false) (h:cond b x y=o):y=o:=by
 grind
theorem gQ {b:Bool}{x y o:α}(h:cond b x y=o):(b=true/\x=o)\/(b=false/\y=o):=by
 grind
theorem sm {a b:α}(h:some a=some b):a=b:=by grind
class b6 (x:ab):Prop where bh:cK x
class dp (cs:List ab):Prop where bh:∀ x∈cs,cK x
instance {v:Value}:b6 (.lit v):=⟨.lit⟩
instance:b6 .bb:=⟨.bb⟩
instance:b6 .dead:=⟨.dead⟩
instance {k:Nat × Nat}:b6 (.self k):=⟨.self⟩
instance {t:Nat}{us:List Value}:b6 (.dt t us):=⟨.dt⟩
instance {z n:Nat}{cs:List ab} [h:dp cs]:b6 (.bf z n cs):=⟨.bf h.bh⟩
instance {z n:Nat}{cs:List ab} [h:dp cs]:b6 (.own z n cs):=⟨.own h.bh⟩
instance {cs:List ab} [h:dp cs]:b6 (.obj cs):=⟨.obj h.bh⟩
instance {cs:List ab} [h:dp cs]:b6 (.agg cs):=⟨.agg h.bh⟩
instance {cs:List ab} [h:dp cs]:b6 (.bI cs):=⟨.bI h.bh⟩
instance {cs:List ab} [h:dp cs]:b6 (.cL cs):=⟨.cL h.bh⟩
instance {f:Fn}{a b:List ab} [h:dp a] [aR:dp b]:b6 (.dc f a b):=⟨.dc h.bh aR.bh⟩
instance:dp []:=⟨by simp⟩
instance {x:ab}{cs:List ab} [h:b6 x] [aR:dp cs]:dp (x::cs):=⟨rS h.bh aR.bh⟩
instance {e:bK α}{l:List α}:dp (bu e l):=⟨o9 e l⟩
instance {e:bK α}{a:α}:dp (e.cells a):=⟨e.bh a⟩
instance {a b:List ab} [h:dp a] [aR:dp b]:dp (a++b):=⟨λx J=>(List.mem_append.1 J).elim (h.bh x) (aR.bh x)⟩
instance {a:List ab}{n:Nat} [h:dp a]:dp (a.drop n):=⟨λx J=>h.bh x (List.mem_of_mem_drop J)⟩
instance {a:List ab}{n:Nat} [h:dp a]:dp (a.take n):=⟨λx J=>h.bh x (List.mem_of_mem_take J)⟩
instance {v:Value}{n:Nat}:dp (List.replicate n (.lit v)):=⟨λx J=>by rw [(List.mem_replicate.1 J).2]; exact .lit⟩
abbrev bK.one (f:α->ab) (h:∀ a,cK (f a)):bK α:=⟨1,λa=>[f a],λ_=>rfl,λa x J=>by rw [List.mem_singleton.1 J]; exact h a⟩
def aZ:bK Int:=.one (λn=>ae n) λ_=>.lit
def pE:bK Int:=.one (λn=>mi n) λ_=>.lit
def cr:bK Bool:=.one (λb=>bd b) λ_=>.lit
def cH:bK ByteArray:=.one (λs=>aq s) λ_=>.lit
def fu (e:bK α):bK (List α):=.one (λl=>ar e l) λl=>.own (o9 e l)
def b4 (e:bK α):bK (List α):=.one (λl=>ay e l) λl=>.bf (o9 e l)
inductive Trim (b:Bool) (g g2:aH):List (Nat × ab)->Prop
 | nil:Trim b g g2 []
 | n {s:Nat}{x:ab}{l:List (Nat × ab)}(h:g s=some x) [aA:b6 x] (t:Trim b g g2 l):Trim b g g2 ((s,x)::l)
 | r {s:Nat}{x:ab}{l:List (Nat × ab)}(h:g s=some x) (aA:eo g2 x) (aw:∀ z p n m new,x≠.bD z p n m new) (t:Trim b g g2 l):Trim b g g2 ((s,x)::l)
 | e {s:Nat}{x y:ab}{l:List (Nat × ab)}(h:g s=some y) (he:y=x) [aA:b6 x] (t:Trim b g g2 l):Trim b g g2 ((s,x)::l)
 | w {s:Nat}{x y:ab}{l:List (Nat × ab)}(ao:b=true) (h:g s=some y) (hw:mP y x) [aA:b6 x] (t:Trim b g g2 l):Trim b g g2 ((s,x)::l)
theorem Trim.spec {b:Bool}{g g2:aH}{l:List (Nat × ab)}(h:Trim b g g2 l):∀ t x,get l t=some x->(∃ y,g t=some y/\mP y x/\(b=false->y=x))/\eo g2 x/\∀ z p n m new,x≠.bD z p n m new:=by
 have e8:∀ {x:ab},cK x->∀ z p n m new,x≠.bD z p n m new:=by rintro x h z p n m new rfl; cases h
 induction h with
 | nil=>intro t x J; cases J
 | @n _ _ _ h aA _ aJ =>
  intro t x J; simp only [get] at J
  split at J
  ·rename_i e; subst e; cases J; exact ⟨⟨_,h,.refl,λ_=>rfl⟩,.bh aA.bh,e8 aA.bh⟩
  ·exact aJ t x J
 | r h aA aw _ aJ =>
  intro t x J; simp only [get] at J
  split at J
  ·rename_i e; subst e; cases J; exact ⟨⟨_,h,.refl,λ_=>rfl⟩,aA,aw⟩
  ·exact aJ t x J
 | @e _ _ _ _ h he aA _ aJ =>
  intro t x J; simp only [get] at J
  split at J
  ·rename_i e; subst e he; cases J; exact ⟨⟨_,h,.refl,λ_=>rfl⟩,.bh aA.bh,e8 aA.bh⟩
  ·exact aJ t x J
 | @w _ _ _ _ ao h hw aA _ aJ =>
  intro t x J; simp only [get] at J
  split at J
  ·rename_i e; subst e; cases J; exact ⟨⟨_,h,hw,λh=>by rw [ao] at h; cases h⟩,.bh aA.bh,e8 aA.bh⟩
  ·exact aJ t x J
theorem Trim.eS {b:Bool}{g:aH}{l:List (Nat × ab)}(h:Trim b g (get l) l):lX g (get l) :=
 ⟨λt x J=>by obtain ⟨⟨y,h1,af,_⟩,_⟩:=h.spec t x J; exact ⟨y,h1,af⟩,λt x J=>(h.spec t x J).2.1,λt z q n m new J=>(h.spec t _ J).2.2 _ _ _ _ _ rfl⟩
theorem Trim.keep {g:aH}{l:List (Nat × ab)}(h:Trim false g (get l) l):hn g (get l) :=
 ⟨λt x J=>by obtain ⟨⟨y,h1,_,aF⟩,_⟩:=h.spec t x J; rw [<- aF rfl]; exact h1,λt x J=>(h.spec t x J).2.1,λt z q n m new J=>(h.spec t _ J).2.2 _ _ _ _ _ rfl⟩
section
variable {P:Program}{N:cQ}{ops:Array Oper}{g:aH}{K:aH->Prop}{l:List Oper}{d:Nat}{op:Op}{ty:TypeId}{pos:String}{after:Array Edge}{x:ab}{gd:Option (Nat × Bool)}
def nA (P:Program) (N:cQ) (c:Code) (G G1:List (Nat × ab)):Prop:=W P N c (get G) λe g'=>e=.normal/\lX g' (get G1)
theorem W.bS {A B:Code}{G:List (Nat × ab)}{Φ:Exit->aH->Prop}(h:W P N A (get G) (oz (λg1=>W P N B g1 Φ) Φ)):W P N (.seq A B) (get G) Φ:=W.seq h
theorem aD.fin {G1:List (Nat × ab)}(h:Trim true g (get G1) G1):aD P N ops [] g λg'=>lX g' (get G1):=.nil h.eS
theorem aD.FP {G1:List (Nat × ab)}(h:Trim false g (get G1) G1) (hk:aD P N ops l (get G1) K):aD P N ops l g K:=.forget h.keep hk
theorem aD.v (aw:ch P g op ty x) (bc:N.ok d=true) (aV:g d=none) (aL:gm g ops gd) (hk:aD P N ops l (cR g d x) K):aD P N ops (⟨some d,op,ty,pos,after,gd⟩::l) g K:=.aaB aw bc aV aL hk
theorem aD.c (aw:cF P g op x) (bc:N.ok d=true) (aV:g d=none) (aL:gm g ops gd) (hk:aD P N ops l (cR g d x) K):aD P N ops (⟨some d,op,ty,pos,after,gd⟩::l) g K:=.call aw bc aV aL hk
theorem gm.oB {j t:Nat}{b c:Bool}(h:(ops[j]?).bind (·.dst)=some t) (aL:g t=some (.lit (.bool c))) (ao:c=b):gm g ops (some (j,b)):=by subst ao; exact .yes h aL
theorem aD.ps {j t':Nat}{b c:Bool}(h:(ops[j]?).bind (·.dst)=some t') (aL:g t'=some (.lit (.bool c))) (ao:c=!b) (bc:N.ok d=true) (aV:g d=none) (hk:aD P N ops l (cR g d (.bI [])) K):aD P N ops (⟨some d,op,ty,pos,after,some (j,b)⟩::l) g K:=by
 subst ao; exact .Dj rfl bc aV (r:=some (.bI [])) (.inr (.inl ⟨⟨t',h,.inl ⟨_,aL,by cases b <;> rfl⟩⟩,rfl⟩)) hk
theorem aD.pu {j t':Nat}{b:Bool}(h:(ops[j]?).bind (·.dst)=some t') (aL:g t'=some (.bI [])) (bc:N.ok d=true) (aV:g d=none) (hk:aD P N ops l (cR g d (.bI [])) K):aD P N ops (⟨some d,op,ty,pos,after,some (j,b)⟩::l) g K :=
 .Dj rfl bc aV (r:=some (.bI [])) (.inr (.inl ⟨⟨t',h,.inr ⟨aL,rfl⟩⟩,rfl⟩)) hk
theorem W.gQ {t:Nat}{A B:Code}{b:Bool}{G:List (Nat × ab)}{Φ:Exit->aH->Prop}(aa:get G t=some (bd b)) (c0:b=true->W P N A (get G) Φ) (aE:b=false->W P N B (get G) Φ):W P N (.cond (.tmp t) A B) (get G) Φ:=W.Tt (.lit aa) c0 aE
end
end Go.Own
