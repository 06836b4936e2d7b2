/- Parts of the proof that the last text states. -/
import Derived.RowKit3
import Derived.Test.YtaddiiogopnkpaaGreatE2
set_option linter.unusedSectionVars false
namespace Go.Own
open Go
variable [cE]
structure il (g1 g2:aL):Prop where
 sub:∀ t x,g2 t=some x->g1 t=some x
 bY:∀ t x,g2 t=some x->cS g2 x
 fE:∀ t z q n m new,g2 t≠some (.bL z q n m new)
structure cN where
 size:Nat
 pins:List Nat
def cN.ok (N:cN) (d:Nat):Bool:=Nat.blt d N.size&&!N.pins.elem d
def ib (N:cN) (T T':Array Value):Prop:=T'.size=T.size/\∀ t∈N.pins,T'[t]?=T[t]?
theorem ib.refl {N:cN}{T:Array Value}:ib N T T:=⟨rfl,λ_ _=>rfl⟩
theorem ib.trans {N:cN}{T Mo Mp:Array Value}(h:ib N T Mo) (h1:ib N Mo Mp):ib N T Mp:=⟨h1.1.trans h.1,λt ar=>(h1.2 t ar).trans (h.2 t ar)⟩
theorem cN.lt {N:cN}{d:Nat}(h:N.ok d=true):d<N.size:=by
 simp_all [cN.ok]
theorem ib.put {N:cN}{d:Nat}(h:N.ok d=true) (T:Array Value) (v:Value):ib N T (T.setIfInBounds d v):=by
 refine ⟨by simp,λt ar=>?_⟩
 grind [cN.ok]
def ka (N:cN) (a:Act) (w:World) (I:a') (Fs:Nat->a') (g':aL) (b':Act) (w':World):Prop :=
 b'.defers=a.defers/\ib N a.tmps b'.tmps/\∃ I' bV,cA w' I' b'.tmps g' bV/\kS w I (λc=>∃ t,Fs t c) w' I' (λc=>∃ t,bV t c)
theorem uU {bV:Nat->a'}{d:Nat}{F:a'}{c:Nat}(h:∃ t,wv bV d F t c):(∃ t,bV t c)\/F c:=by
 obtain ⟨t,h⟩:=h;unfold wv at h
 grind
structure Ba (P:Program) (g:aL) (f:FuncId) (all xs0 xs1 args:List ab) (tk:Nat->Bool) (vw:Bool) (g1 g2:aL) (outs:List (Option ab)) (res:ab) (l:List (Place × ab)) (ks:Nat->Nat) (g4:aL):Prop where
 aT:hx P f=true
 C6:xs0.length=all.length
 xQ:args.length=all.length
 aK:∀ (k:Nat) (x:ab),all[k]?=some x->xs0[k]?=some x\/xs0[k]?=some .dead
 ar:Take g xs0 xs1 g1
 hk:il g1 g2
 aI:∀ (k:Nat) (x y:ab),all[k]?=some x->args[k]?=some y->if tk k then xs1[k]?=some y else vw=true/\View g2 x y
 ha:bO P f args outs res
 hr:if vw then jV res else cC res
 lQ:∀ (k:Nat) (x:ab),outs[k]?=some (some x)->if vw then jV x else cC x
 ah:∀ (j:Nat) (p:Place) (x:ab),l[j]?=some (p,x)->Si g g2 all outs (ks j) p x
 nd:(l.map (·.1)).Nodup
 inj:∀ i j,i<l.length->j<l.length->ks i=ks j->i=j
 KE:il (qI g2 l) g4
section
variable {P:Program}{w:World}{I:a'}{T:Array Value}{g:aL}{Fs:Nat->a'}
theorem jC.keep (h:jC w I T g Fs) {g2:aL}(hk:il g g2):cA w I T g2 (λt c=>g2 t≠none/\Fs t c) :=
 h.abk hk.sub hk.bY λ_ _ _ _ _ _ _ _ _ _ _ h1=>absurd h1 (hk.fE _ _ _ _ _ _)
structure yJ (g:aL) (d:Nat) (g4 g5:aL):Prop where
 sub:∀ t x,g4 t=some x->g5 t=some x
 new:∀ t x,g5 t=some x->g4 t=some x\/(g4 t=none/\t≠d/\g t=some x/\∃ r k cs,x=.ptr ⟨r,[]⟩ k/\r≠d/\g4 r=some (.obj cs)/\k<cs.length)
theorem yJ.refl {d:Nat}{g4:aL}:yJ g d g4 g4:=⟨λ_ _ h=>h,λ_ _ h=>.inl h⟩
theorem cA.back (h:cA w I T g Fs) {w':World}{I':a'}{d:Nat}{v:Value}{g4 g5:aL}{Ma:Nat->a'}(bm:cA w' I' (T.setIfInBounds d v) g4 Ma) (au:yJ g d g4 g5):cA w' I' (T.setIfInBounds d v) g5 Ma:=by
 refine ⟨λt x J=>?_,λt ar c aa=>?_,bm.d_,bm.bd,bm.lt,λt t' z p n m new bR cr m' cL h1 af=>?_,bm.hP⟩
 ·rcases au.new t x J with aJ | ⟨h1,af,aD,r,k,cs,rfl,b7,dp,kC⟩
  ·obtain ⟨u,hu,aY⟩:=bm.rel t x aJ;exact ⟨u,hu,bm.w2 (λ_ _=>rfl) (λ_ _ _=>rfl) (λ_ _=>rfl) (λ_ h=>h) au.sub aY λ_ _=>rfl⟩
  ·obtain ⟨u,hu,aY⟩:=h.rel t _ aD;obtain ⟨⟨sL,ad,av,a2,rfl⟩,_⟩:=(aY.gp (by simp)).n3;have cU:∀ s,s≠d->(T.setIfInBounds d v)[s]?=T[s]?:=λs aw=>by rw [Array.getElem?_setIfInBounds_ne (Ne.symm aw)]
   refine ⟨_,by rw [cU t af]; exact hu,.tree (.ref rfl ⟨⟨sL,ad,?_,a2,rfl⟩,?_⟩ (bm.k6 t h1))⟩
   ·have:dx w T ⟨r,[]⟩=T[r]?:=by
     unfold dx; simp only; cases T[r]? <;> rfl
    rw [this] at av;unfold dx;simp only [cU r b7,av,walk]
   ·exact ⟨.obj cs,by simp [bG,au.sub r _ dp,ab.at],0,0,cs,.inr rfl,kC⟩
 ·cases aJ:g4 t with
  | none=>exact bm.k6 t aJ c aa
  | some y=>rw [au.sub t y aJ] at ar; cases ar
 ·have:∀ {t z p n m new},g5 t=some (.bL z p n m new)->g4 t=some (.bL z p n m new):=by
   intro t z p n m new J;rcases au.new t _ J with aJ | ⟨_,_,_,r,k,cs,e,_⟩
   ·exact aJ
   ·cases e
  exact bm.rF t t' z p n m new bR cr m' cL (this h1) (this af)
def kQ (P:Program) (N:cN) (g:aL) (o:Oper) (d:Nat) (g5:aL):Prop :=
 ∀ (w:World) (I:a') (T:Array Value) (Fs:Nat->a'),cA w I T g Fs->∀ (a:Act),a.tmps=T->a.tmps.size=N.size->∀ (K:Act->World->Prop) (Q:Exit->Act->World->Prop),
  (∀ (b':Act) (w':World) (v:Value) (I':a') (bV:Nat->a'),b'.defers=a.defers->b'.tmps=T.setIfInBounds d v->cA w' I' (T.setIfInBounds d v) g5 bV->kS w I (λc=>∃ t,Fs t c) w' I' (λc=>∃ t,bV t c)->K b' w')->o.wp P a w K Q
theorem Ba.ok {N:cN}{o:Oper}{c:Operand}{xs:Array Operand}{fM:Array TypeId}{d:Nat}{f:FuncId}{first caps ys xs0 xs1 args:List ab}{tk:Nat->Bool}{vw:Bool}{g1 g2 g4 g5:aL}{outs:List (Option ab)}{res:ab}{l:List (Place × ab)}{ks:Nat->Nat}
  (aW:o.op=.call { callee:=.value c,args:=xs,argTypes:=fM }) (aO:o.dst=some d) (aa:bs g c=some (.cD (.func f) first caps)) (J:hc g xs.toList=some ys)
  (he:Ba P g f (first++ys++caps) xs0 xs1 args tk vw g1 g2 outs res l ks g4) (aP:g4 d=none) (km:N.ok d=true) (W1:yJ g d (cR g4 d res) g5):kQ P N g o d g5:=by
 intro w I T Fs h a aI bp K Q cZ;obtain ⟨v1,v2,vr,ah,qm⟩:=H8 h aI aa J;have hj:(execOp a.eval o).run P w=.ok (.enter f (v1++xs.map a.eval++v2)) w:=by
  simp [execOp,aW,resolve,Deferred.ofValue,vr,invoke,zp he.aT]
 generalize xz:(v1++xs.map a.eval++v2).toList=vs at *;generalize Jb:first++ys++caps=all at *
 -- what is taken
 have re:Hand w I (fh w T) Fs xs0 vs (λ_=>cj):=by
  refine ⟨by rw [he.C6,ah],λk x u J hu=>?_,λ_ _ _ _ _ h=>h.elim,λ_ _ _ _ h=>h.elim,λ_ _ _ h=>h.elim⟩;have hk:k<all.length:=by rw [<- he.C6]; exact (List.getElem?_eq_some_iff.1 J).1
  have B_:=List.getElem?_eq_getElem hk;rcases he.aK k _ B_ with aK | aK
  ·rw [aK] at J; cases J;exact (qm k _ u B_ hu).frame (λ_ _=>rfl) (λ_ h=>h) (λ_ _ h=>h.1) λ_ _=>rfl
  ·rw [aK] at J; cases J;exact .dead λ_ h=>h
 obtain ⟨fo,H1,iS,iw,hg⟩:=he.ar.sound h.mX re;have Oa:∀ c,lA fo xs1.length H1 c->∃ t,Fs t c:=by
  intro c aa;rcases hg c aa with aJ | ⟨_,_,aJ⟩
  ·exact aJ
  ·exact aJ.elim
 have h7:=iS.keep he.hk;generalize V7:(λt c=>g2 t≠none/\fo t c)=jc at h7;have NY:∀ t c,jc t c->fo t c:=by intro t c aa; rw [<- V7] at aa; exact aa.2
 have zI:xs1.length=all.length:=by rw [he.ar.length,he.C6]
 -- what the callee sees
 let ED:a':=λc=>I c\/(vw=true/\∃ t,jc t c)
 let yR:Nat->a':=λt c=>t<all.length/\tk t=true/\H1 t c;have tW:∀ t c,yR t c->(∀ s,¬ jc s c)/\¬ I c/\∃ t,Fs t c:=by
  rintro t c ⟨h1,af,aD⟩;exact ⟨λs aw=>iw.off t s c (by omega) aD (NY s c aw),iw.bd t c (by omega) aD,Oa c (.inr ⟨t,by omega,aD⟩)⟩
 have OS:∀ (ρ':ab->Value->Prop) (k:Nat) (y:ab) (u:Value),args[k]?=some y->vs[k]?=some u->R w ED ρ' y u (yR k):=by
  intro ρ' k y u ao hu;have hk:k<all.length:=by rw [<- he.xQ]; exact (List.getElem?_eq_some_iff.1 ao).1
  have B_:=List.getElem?_eq_getElem hk;have:=he.aI k _ y B_ ao
  split at this
  ·rename_i ar;have oG:cC y:=he.ar.Ad y (List.mem_of_getElem? this);exact (((iw.rel k y u this hu).bk oG).n9 λc aa=>.inl aa).zr λc=>⟨λaa=>⟨hk,ar,aa⟩,λaa=>aa.2.2⟩
  ·rename_i ar;obtain ⟨hv,X_⟩:=this;have gn:R w I (fh w T) all[k] u cj:=(qm k _ u B_ hu).frame (λ_ _=>rfl) (λ_ h=>h) (λ_ _ h=>h.1) λ_ _=>rfl;have:=View.Rf h7.mX X_ gn (λ_ h=>h.elim) ρ';refine (this.n9 (I':=ED) λc aa=>?_).zr λc=>⟨λh=>h.elim,λaa=>absurd aa.2.1 ar⟩;rcases aa with aJ | aJ
   ·exact .inl aJ
   ·exact .inr ⟨hv,aJ⟩
 have Wu:cA w ED vs.toArray (sT args) yR:=by
  refine ⟨λt x J=>?_,λt ar c aa=>?_,λt t' c aa ep=>iw.d_ t t' c (by have:=aa.1; omega) (by have:=ep.1; omega) aa.2.2 ep.2.2,λt c aa hi=>?_,λc aa=>?_,λt t' z p n m new bR cr m' cL h1 af=>?_,cE.keep h.hP (λ_ _=>rfl) λ_ h=>.inl h⟩
  ·have ar:t<args.length:=(List.getElem?_eq_some_iff.1 J).1;have hu:vs[t]?=some (vs[t]'(by rw [<- ah,<- he.xQ]; exact ar)):=List.getElem?_eq_getElem _;exact ⟨_,by rw [List.getElem?_toArray]; exact hu,.tree (OS _ t x _ J hu)⟩
  ·have hle:args.length<=t:=by simpa [sT] using ar
   have:=aa.1; have:=he.xQ; omega
  ·obtain ⟨h1,af,_⟩:=tW t c aa;rcases hi with aJ | ⟨_,s,aJ⟩
   ·exact af aJ
   ·exact h1 s aJ
  ·rcases aa with aJ | ⟨_,s,aJ⟩
   ·exact h.lt c aJ
   ·exact h7.iX s c aJ
  ·have ar:t<args.length:=(List.getElem?_eq_some_iff.1 h1).1;have hu:vs[t]?=some (vs[t]'(by rw [<- ah,<- he.xQ]; exact ar)):=List.getElem?_eq_getElem _;exact (OS (λ_ _=>False) t _ _ h1 hu).lv.elim
 have pI:=he.ha.2 w ED vs yR (by rw [<- ah,he.xQ]) Wu;unfold Oper.wp Oper.upon;simp only [hj];rw [<- xz,Array.toArray_toList] at pI;refine Calls.mono pI ?_;rintro e w' ⟨v,I',bV,rfl,dM,bU⟩;rw [xz] at dM;have me:outs.length=all.length:=by rw [he.ha.1,he.xQ]
 have pN:vs.length=all.length:=ah.symm
 -- the blocks behind the call
 have QT:∀ t c,jc t c->w'.heap[c]?=w.heap[c]?:=λt c aa=>bU.dK.block c (h7.iX t c aa) λ⟨s,aw⟩=>(tW s c aw).1 t aa;have rK:∀ c,I c->w'.heap[c]?=w.heap[c]?:=λc aa=>bU.dK.block c (h.lt c aa) λ⟨s,aw⟩=>(tW s c aw).2.1 aa
 let If:a':=λc=>if vw then I c else I' c
 have K5:∀ t c,bV t c->(∃ s,yR s c)\/w.heap.size<=c:=λt c aa=>bU.own c ⟨t,aa⟩;have P5:∀ t c,bV t c->∀ s,¬ jc s c:=by
  intro t c aa s aw;rcases K5 t c aa with ⟨cy,aJ⟩ | aJ
  ·exact (tW cy c aJ).1 s aw
  ·have:=h7.iX s c aw; omega
 have P6:∀ t c,bV t c->¬ If c:=by
  intro t c aa hi;cases vw with
  | true =>
   simp only [If,if_true] at hi;rcases K5 t c aa with ⟨cy,aJ⟩ | aJ
   ·exact (tW cy c aJ).2.1 hi
   ·have:=h.lt c hi; omega
  | false =>
   simp only [If,Bool.false_eq_true,if_false] at hi;exact dM.bd t c aa hi
 have N3:∀ c,If c->I c\/(∃ s,yR s c)\/w.heap.size<=c:=by
  intro c aa;cases vw with
  | true=>simp only [If,if_true] at aa; exact .inl aa
  | false =>
   simp only [If,Bool.false_eq_true,if_false] at aa;rcases bU.new c aa with aJ | aJ | aJ
   ·rcases aJ with aJ | ⟨aJ,_⟩
    ·exact .inl aJ
    ·cases aJ
   ·exact .inr (.inl aJ)
   ·exact .inr (.inr aJ)
 have IZ:∀ c,I c->If c:=by
  intro c aa;cases vw with
  | true=>simp only [If,if_true]; exact aa
  | false=>simp only [If,Bool.false_eq_true,if_false]; exact bU.more c (.inl aa)
 have Wq:cA w' If T g2 jc:=by
  have:=h7.world (w':=w') QT rK bU.dK.size;refine ⟨λt x J=>?_,this.k6,this.d_,λt c aa hi=>?_,λc aa=>?_,this.rF,cE.keep h.hP rK IZ⟩
  ·obtain ⟨v,hv,aY⟩:=this.rel t x J;exact ⟨v,hv,aY.frame (λ_ _=>rfl) IZ (λ_ _ h=>h) (λ_ _ _ _ _ _ _=>rfl) λ_ _=>rfl⟩
  ·rcases N3 c hi with aJ | ⟨s,aJ⟩ | aJ
   ·exact h7.bd t c aa aJ
   ·exact (tW s c aJ).1 t aa
   ·have:=h7.iX t c aa; omega
  ·cases vw with
   | true=>simp only [If,if_true] at aa; exact Nat.lt_of_lt_of_le (h.lt c aa) bU.dK.size
   | false=>simp only [If,Bool.false_eq_true,if_false] at aa; exact dM.lt c aa
 -- what comes back in the arguments, and the result
 have MO:∀ {x:ab}{u:Value}{F:a'}{ρ ρ':ab->Value->Prop},R w' I' ρ x u F->(if vw then jV x else cC x)->R w' If ρ' x u F:=by
  intro x u F ρ ρ' aY J;cases vw with
  | true=>simp only [if_true] at J; exact aY.lW J
  | false =>
   simp only [Bool.false_eq_true,if_false] at J;refine (aY.bk J).n9 λc aa=>?_;simpa [If] using aa
 have Dg:∀ {x:ab},(if vw then jV x else cC x)->∀ z p n m new,x≠.bL z p n m new:=by
  rintro x J z p n m new rfl;cases vw with
  | true=>simp only [if_true] at J; cases J
  | false=>simp only [Bool.false_eq_true,if_false] at J; cases J
 have Zq:∀ (k:Nat) (x:ab) (u:Value),outs[k]?=some (some x)->vs[k]?=some u->R w' If (fh w' T) x u (bV k):=by
  intro k x u J hu;have hk:k<outs.length:=(List.getElem?_eq_some_iff.1 J).1;obtain ⟨sK,hU,aY⟩:=dM.rel k x (by simp only [kH,if_neg (Nat.ne_of_lt hk),J]; rfl);have:sK=u:=by
   rw [List.getElem?_toArray,List.getElem?_append_left (by rw [pN,<- me]; exact hk),hu] at hU;exact (Option.some.inj hU).symm
  subst this;exact MO (aY.gp (Dg (he.lQ k x J))) (he.lQ k x J)
 obtain ⟨LM,FE,nu⟩:=dM.rel outs.length res (by simp [kH]);have X6:LM=v:=by
  have e:outs.length=vs.length:=by omega
  rw [e] at FE;simpa using FE.symm
 subst X6
 -- back into the places
 obtain ⟨yS,B6,Fi⟩:=jC.qI (w:=w') (I:=If) (T:=T) l (λj=>bV (ks j)) (λj=>vs.getD (ks j) undef) Wq.mX he.nd (λj p x ag=>by
   have L:=he.ah j p x ag;have hk:ks j<outs.length:=(List.getElem?_eq_some_iff.1 L.out).1;have hu:vs[ks j]?=some (vs[ks j]'(by rw [pN,<- me]; exact hk)):=List.getElem?_eq_getElem _;have pK:vs.getD (ks j) undef=vs[ks j]'(by rw [pN,<- me]; exact hk):=by simp [List.getD,hu]
   refine ⟨L.MI,?_,?_,λi e=>?_⟩
   ·rw [pK,h7.yC (w':=w') (λ_ _=>rfl) QT L.MI];rcases L.arg with ⟨z,n,cs,h1,af⟩ | ⟨cs,h1,af⟩
    ·exact S4 h (qm _ _ _ h1 hu) af
    ·exact S3 h (qm _ _ _ h1 hu) af
   ·rw [pK]; exact Zq _ x _ L.out hu
   ·exact L.js i e)
  (λj t c ag aa=>P5 _ c aa t) (λj c ag aa=>P6 _ c aa) (λi j c hi ag h1 af=>he.inj i j hi ag (dM.d_ _ _ c h1 af))
 have Wr:=B6.keep he.KE;have Zj:∀ t c,bV outs.length c->¬ (g4 t≠none/\yS t c):=by
  rintro t c aa ⟨_,bm⟩;rcases Fi t c bm with aJ | ⟨j,ag,aJ⟩
  ·exact P5 _ c aa t aJ
  ·have hk:ks j<outs.length:=by
    have xm:=List.getElem?_eq_getElem ag;exact (List.getElem?_eq_some_iff.1 (he.ah j _ _ xm).out).1
   have:=dM.d_ _ _ c aa aJ;omega
 have oH:=Wr.uH (d:=d) (x:=res) (v:=LM) (F:=bV outs.length) aP (by rw [<- aI,bp]; exact cN.lt km) (.tree (MO (nu.gp (Dg he.hr)) he.hr)) Zj (λc aa=>P6 _ c aa) (λz p n m new e=>absurd e (Dg he.hr z p n m new));refine cZ _ _ LM If _ (by rw [aO]; rfl) (by rw [aO]; simp [Act.put,aI]) (h.back oH W1) ⟨?_,IZ,λc aa=>?_,λc aa=>?_⟩
 ·exact bU.dK.mono λb _ ⟨s,aw⟩=>(tW s b aw).2.2
 ·rcases N3 c aa with aJ | ⟨s,aJ⟩ | aJ
  ·exact .inl aJ
  ·exact .inr (.inl (tW s c aJ).2.2)
  ·exact .inr (.inr aJ)
 ·have fin:∀ t,bV t c->(∃ s,Fs s c)\/w.heap.size<=c:=by
   intro t ar;rcases K5 t c ar with ⟨s,aJ⟩ | aJ
   ·exact .inl (tW s c aJ).2.2
   ·exact .inr aJ
  rcases uU aa with ⟨t,_,aJ⟩ | aJ
  ·rcases Fi t c aJ with gV | ⟨j,_,gV⟩
   ·exact .inl (Oa c (.inl ⟨t,NY t c gV⟩))
   ·exact fin _ gV
  ·exact fin _ aJ
structure R0 (g:aL) (d r k0:Nat) (g4 g5:aL):Prop where
 sub:∀ t x,g4 t=some x->g5 t=some x
 new:∀ t x,g5 t=some x->g4 t=some x\/(g4 t=none/\t≠d/\g t=some x/\∃ m z n cs,x=.ptr ⟨r,[k0]⟩ m/\bG g4 ⟨r,[k0]⟩=some (.own z n cs)/\m<cs.length)
theorem kQ.Vu {N:cN}{o:Oper}{r k0 d:Nat}{y:ab}{cs:List ab}{g5:aL}(hr:g r=some (.obj cs)) (ao:cs[k0]?=some y) (xF:cC y) (ln:∀ i,y≠.self i)
  (vB:∀ v:Value,v.oneCell'=true->∃ g1 g4 vh,il (cn g ⟨r,[k0]⟩ (.lit v)) g1/\kQ P N g1 o d g4/\bG g4 ⟨r,[k0]⟩=some (.lit v)/\il (cn g4 ⟨r,[k0]⟩ y) vh/\bG vh ⟨r,[k0]⟩=some y/\R0 g d r k0 vh g5):kQ P N g o d g5:=by
 intro w I T Fs h a aI bp K Q cZ;have ll:∀ z q n m new,y≠.bL z q n m new:=by rintro z q n m new rfl; cases xF
 have fD:bG g ⟨r,[k0]⟩=some y:=by simp [bG,hr,ab.at,ab.kids,ao]
 obtain ⟨v,cu,hv,ds,c_,put⟩:=h.mX.part fD ll;have qv:v.oneCell'=true:=by
  obtain ⟨u,hu,nt⟩:=h.rel r _ hr;obtain ⟨b,sK,h1,af,aD,bm,_⟩:=R.node (z:=0) (n:=0) (nt.gp (by simp)) (.inr rfl) ao;have:dx w T ⟨r,[k0]⟩=child w u k0:=by
   unfold dx;simp only [hu,walk];cases child w u k0 <;> rfl
  rw [this,aD] at hv;cases hv;exact bm
 obtain ⟨fo,iS,w6,BX⟩:=put (.lit v) cj (.lit qv λ_ h=>h) (λ_ h=>h.elim) (λ_ h=>h.elim) (λ_ _ _ h=>h.elim) (λ_ h=>by cases h);obtain ⟨g1,g4,vh,gv,c7,Jc,JD,aeO,au⟩:=vB v qv;have sJ:∀ t c,fo t c->Fs t c/\¬ cu c:=by
  intro t c aa;by_cases ar:t=r
  ·subst ar;rcases (w6 c).1 aa with aJ | aJ
   ·exact aJ
   ·exact aJ.elim
  ·rw [BX t ar] at aa;exact ⟨aa,λaT=>ar (h.d_ t r c aa (c_ c aT))⟩
 have I6:=iS.keep gv;refine c7 w I T _ I6 a aI bp K Q λb' w' dH I' bV It w1 dM bU=>?_;obtain ⟨v2,pw,s9,mI,V6,Le⟩:=dM.mX.part Jc (by simp);have J7:v2=v:=mI.hB.1;subst J7;have IX:∀ c,cu c->¬ I c:=λc aa=>h.bd r c (c_ c aa);have w8:∀ c,cu c->c<w.heap.size:=λc aa=>h.iX r c (c_ c aa);have xZ:∀ c,cu c->¬ ∃ t,(g1 t≠none/\fo t c):=λc aa ⟨t,_,aJ⟩=>(sJ t c aJ).2 aa;have Di:∀ t c,bV t c->¬ cu c:=by
  intro t c aa aT;rcases bU.own c ⟨t,aa⟩ with aJ | aJ
  ·exact xZ c aT aJ
  ·have:=w8 c aT; omega
 have K1:∀ c,cu c->¬ I' c:=by
  intro c aa hi;rcases bU.new c hi with aJ | aJ | aJ
  ·exact IX c aa aJ
  ·exact xZ c aa aJ
  ·have:=w8 c aa; omega
 have Lq:∀ c,cu c->w'.heap[c]?=w.heap[c]?:=λc aa=>bU.dK.block c (w8 c aa) (xZ c aa);have rK:∀ c,I c->w'.heap[c]?=w.heap[c]?:=λc aa=>bU.dK.block c (h.lt c aa) λ⟨t,_,aJ⟩=>h.bd t c (sJ t c aJ).1 aa;have B5:R w' I' (fh w' (T.setIfInBounds d dH)) y v2 cu :=
  ((ds.bk xF).frame rK bU.more (λ_ _ h=>h) Lq)
 obtain ⟨Mb,I7,IS,IT⟩:=Le y cu B5 (λc aa aT=>(Di _ c aT aa).elim) (λc aa=>K1 c aa) (λt c _ aa aT=>Di t c aT aa) (λi e=>absurd e (ln i));have s3:=I7.keep JD;have X8:dx w' (T.setIfInBounds d dH) ⟨r,[k0]⟩=some v2:=s9;have Ws:cA w' I' (T.setIfInBounds d dH) g5 (λt c=>vh t≠none/\Mb t c):=by
  refine ⟨λt x J=>?_,λt ar c aa=>?_,s3.d_,s3.bd,s3.lt,λt t' z p n m new bR cr m' cL h1 af=>?_,s3.hP⟩
  ·rcases au.new t x J with aJ | ⟨h1,af,aD,m,z,n,cs2,rfl,b7,dp⟩
   ·obtain ⟨u,hu,aY⟩:=s3.rel t x aJ;exact ⟨u,hu,s3.w2 (λ_ _=>rfl) (λ_ _ _=>rfl) (λ_ _=>rfl) (λ_ h=>h) au.sub aY λ_ _=>rfl⟩
   ·obtain ⟨u,hu,aY⟩:=h.rel t _ aD;obtain ⟨⟨sL,ad,av,a2,rfl⟩,_⟩:=(aY.gp (by simp)).n3;rw [hv] at av;cases av;refine ⟨_,by rw [Array.getElem?_setIfInBounds_ne (Ne.symm af)]; exact hu,.tree (.ref rfl ⟨⟨v2,ad,X8,a2,rfl⟩,?_⟩ (s3.k6 t h1))⟩;refine ⟨.own z n cs2,?_,z,n,cs2,.inl rfl,dp⟩;unfold Own.bG at b7 ⊢;cases e8:vh r with
    | none=>simp only [e8] at b7; cases b7
    | some x'=>simp only [e8] at b7; simp only [au.sub r x' e8]; exact b7
  ·cases aJ:vh t with
   | none=>exact aa.1 aJ
   | some y=>rw [au.sub t y aJ] at ar; cases ar
  ·have:∀ {t z p n m new},g5 t=some (.bL z p n m new)->vh t=some (.bL z p n m new):=by
    intro t z p n m new J;rcases au.new t _ J with aJ | ⟨_,_,_,m,z,n,cs2,e,_⟩
    ·exact aJ
    ·cases e
   exact s3.rF t t' z p n m new bR cr m' cL (this h1) (this af)
 refine cZ b' w' dH I' _ It w1 Ws ⟨?_,bU.more,λc aa=>?_,λc aa=>?_⟩
 ·exact bU.dK.mono λb _ ⟨t,_,aJ⟩=>⟨t,(sJ t b aJ).1⟩
 ·rcases bU.new c aa with aJ | ⟨t,_,aJ⟩ | aJ
  ·exact .inl aJ
  ·exact .inr (.inl ⟨t,(sJ t c aJ).1⟩)
  ·exact .inr (.inr aJ)
 ·obtain ⟨t,_,aa⟩:=aa;have:(∃ t,bV t c)\/cu c:=by
   by_cases ar:t=r
   ·subst ar;rcases (IS c).1 aa with ⟨aJ,_⟩ | aJ
    ·exact .inl ⟨_,aJ⟩
    ·exact .inr aJ
   ·rw [IT t ar] at aa; exact .inl ⟨t,aa⟩
  rcases this with aJ | aJ
  ·rcases bU.own c aJ with ⟨t,_,gV⟩ | gV
   ·exact .inl ⟨t,(sJ t c gV).1⟩
   ·exact .inr gV
  ·exact .inl ⟨r,c_ c aJ⟩
end
def o1:ab->Option (List ab)
 | .agg cs=>some cs
 | .lit v=>some [.lit v]
 | .aQ=>some [.aQ]
 | .bd z n cs=>some [.bd z n cs]
 | .own z n cs=>some [.own z n cs]
 | .obj cs=>some [.obj cs]
 | .cw cs=>some [.cw cs]
 | .cD f a b=>some [.cD f a b]
 | _=>none
def hq (P:Program) (t:TypeId) (m:Nat):Bool :=
 match P.info? t with
 | some i=>i.size == m
 | none=>false
def ht (P:Program) (N:cN) (g:aL) (o:Oper) (g':aL):Prop :=
 ∀ (w:World) (I:a') (T:Array Value) (Fs:Nat->a'),cA w I T g Fs->∀ (a:Act),a.tmps=T->a.tmps.size=N.size->∀ (K:Act->World->Prop) (Q:Exit->Act->World->Prop),
  (∀ (b':Act) (w':World),ka N a w I Fs g' b' w'->(∀ t,o.dst≠some t->b'.tmps[t]?=a.tmps[t]?)->K b' w')->o.wp P a w K Q
inductive bc (P:Program) (N:cN) (g:aL):Oper->aL->Prop
 | assign {o:Oper}{d:Nat}{x:Operand}{y bB y':ab}{g1 g2:aL}(aW:o.op=.assign x) (aO:o.dst=some d) (J:bs g x=some y) (ar:Take g [y] [bB] g1) (aX:gQ bB y') (hk:il g1 g2) (aP:g2 d=none) (bp:N.ok d=true):bc P N g o (cR g2 d y')
 | S_ {o:Oper}{d:Nat}{x:Operand}{y:ab}{g2:aL}(aW:o.op=.assign x) (aO:o.dst=some d) (J:bs g x=some y) (hk:il g g2) (ao:cS g2 y) (aP:g2 d=none) (bp:N.ok d=true):bc P N g o (cR g2 d y)
 | store {o:Oper}{t:TypeId}{ad val:Operand}{p:Place}{k z n:Nat}{y bB y' nd:ab}{cs cs':List ab}{g1 g2:aL}(aW:o.op=.store t ad val) (aO:o.dst=none) (fx:bs g ad=some (.ptr p k)) (nz:bs g val=some y) (ar:Take g [y] [bB] g1) (o6:gQ bB y')
   (aa:o1 y'=some cs') (aw:hq P t cs'.length=true) (aq:bG g1 p=some nd) (eA:nd=.own z n cs\/nd=.obj cs) (hk:k+cs'.length<=cs.length) (aK:0<cs'.length)
   (zE:∀ t x,g2 t=some x->cn g1 p (nd.eX k cs') t=some x) (si:∀ t x,g2 t=some x->∀ y,g1 t=some y->jA (λr=>gA g1 r/\Clear p k cs'.length r/\gA g2 r) y) (ll:∀ t z q n m new,g2 t≠some (.bL z q n m new)) (j3:g2 p.root≠none):bc P N g o g2
 | call {o:Oper}{d:Nat}{g5:aL}(aO:o.dst=some d) (bp:N.ok d=true) (h:kQ P N g o d g5):bc P N g o g5
 | GO {o:Oper}{g2:aL}(h:ht P N g o g2):bc P N g o g2
theorem TY {y:ab}{cs:List ab}(h:sR y) (aa:o1 y=some cs):tB cs:=by
 have one:∀ {x:ab},(∀ j,x≠.self j)->tB [x]:=λJ k j e=>by
  cases k with
  | zero=>simp only [List.getElem?_cons_zero,Option.some.injEq] at e; exact J j e
  | succ k=>simp at e
 cases y <;> simp only [Go.Own.o1,Option.some.injEq,reduceCtorEq] at aa <;> subst aa
 all_goals first | exact h _ rfl | exact one (by simp)
theorem View.Dj {g:aL}{x y:ab}(h:View g x y) (J:sR x):sR y:=by
 intro cs e k j hk;cases h with
 | self=>exact J _ e k j hk
 | agg ah h=>cases e; exact J _ rfl k j (Gc ah h (λ_ _ _=>View.js) k j hk)
 | _=>cases e
theorem gQ.Dj {x y:ab}(h:gQ x y) (J:sR x):sR y:=by
 intro cs e k j hk;cases h with
 | refl=>exact J _ e k j hk
 | o_ _ h=>exact h.Dj J _ e k j hk
 | agg ah h=>cases e; exact J _ rfl k j (Gc ah h (λ_ _ _=>gQ.js) k j hk)
 | _=>cases e
section
variable {P:Program}{w:World}{I:a'}{T:Array Value}{g:aL}{Fs:Nat->a'}
theorem Hand.one {y:ab}{v:Value}(aY:R w I (dy w T g) y v cj):Hand w I (fh w T) Fs [y] [v] (λ_=>cj) :=
 ⟨rfl,λk x u J hu=>by
  cases k with
  | zero=>simp at J hu; subst J hu; exact aY.frame (λ_ _=>rfl) (λ_ h=>h) (λ_ _ h=>h.1) λ_ _=>rfl
  | succ k=>simp at J,λ_ _ _ _ _ h=>h.elim,λ_ _ _ _ h=>h.elim,λ_ _ _ h=>h.elim⟩
theorem Hand.GG {ρ:ab->Value->Prop}{y:ab}{v:Value}{di:Nat->a'}(h:Hand w I ρ Fs [y] [v] di):R w I ρ y v (di 0):=h.rel 0 y v rfl rfl
theorem Hand.cells {y:ab}{v:Value}{di:Nat->a'}(h:Hand w I (fh w T) Fs [y] [v] di) (aB:cC y) {cs:List ab}(aa:o1 y=some cs) :
  ∃ yT,Hand w I (fh w T) Fs cs v.cells.toList yT/\(∀ x∈cs,cC x)/\(∀ (j:Nat) (u:Value),v.cells.toList[j]?=some u->u.oneCell'=true)/\∀ j c,j<cs.length->yT j c->di 0 c:=by
 have aY:=h.GG;have single:∀ {x:ab},y=x->v.oneCell'=true->∃ yT,Hand w I (fh w T) Fs [x] v.cells.toList yT/\(∀ z∈[x],cC z)/\(∀ (j:Nat) (u:Value),v.cells.toList[j]?=some u->u.oneCell'=true)/\∀ j c,j<[x].length->yT j c->di 0 c:=by
  rintro x rfl h1;have Fm:v.cells=#[v]:=by cases v <;> first | rfl | (simp [Value.oneCell'] at h1)
  grind
 cases y <;> simp only [o1,Option.some.injEq,reduceCtorEq] at aa
 case agg l =>
  subst aa;cases aY with
  | ref J=>simp [ab.isRef] at J
  | @agg _ vs bH _ ah h1 hr aO aH =>
   have ey:∀ k c,k<l.length->bH k c->di 0 c:=λk c hk aa=>(aH c).2 ⟨k,hk,aa⟩;refine ⟨bH,⟨by simp [Value.cells,ah],λk x u J hu=>hr k x u J (by simpa [Value.cells] using hu),aO,λk t c hk aa=>h.off 0 t c (by simp) (ey k c hk aa),λk c hk aa=>h.bd 0 c (by simp) (ey k c hk aa)⟩,?_,λj u hu=>h1 j u (by simpa [Value.cells] using hu),ey⟩;cases aB with | agg h=>exact h
 case lit a=>subst aa; exact single rfl (by obtain ⟨rfl,h1⟩:=aY.hB; exact h1)
 case aQ=>subst aa; exact single rfl (by rw [aY.ru]; rfl)
 case bd z n l=>subst aa; exact single rfl (by obtain ⟨a,cap,rfl,_⟩:=aY.zV; rfl)
 case own z n l=>subst aa; exact single rfl (by obtain ⟨a,cap,rfl,_⟩:=aY.oa; rfl)
 case cw l=>subst aa; exact single rfl (by obtain ⟨ad,us,rfl,_⟩:=aY.xI; rfl)
 case obj l =>
  subst aa;refine single rfl ?_;cases aY with
  | ref J=>simp [ab.isRef] at J
  | obj=>rfl
 case cD f a b =>
  subst aa;refine single rfl ?_;cases aY with
  | ref J=>simp [ab.isRef] at J
  | cD=>rfl
theorem jB.n9 {I':a'}{ρ:ab->Value->Prop}{x:ab}{v:Value}{F:a'}(h:jB w I ρ x v F) (bf:∀ c,I c->I' c):jB w I' ρ x v F:=by
 cases h with
 | tree h=>exact .tree (h.n9 bf)
 | bL h=>exact .bL ⟨h.jo,h.kE,h.mN,h.ah,h.h1,λk x u J hu=>(h.hr k x u J hu).n9 bf,h.aH⟩
theorem NL {g1:aL}{fo:Nat->a'}{H1:Nat->a'}{bB y':ab}{v:Value}(bh:jC w I T g1 fo) (hH:Hand w I (fh w T) fo [bB] [v] H1) (aB:cC bB) (aX:gQ bB y') :
  ∃ (I':a') (tA:a'),(∀ c,I c->I' c)/\(∀ c,I' c->I c\/H1 0 c)/\jC w I' T g1 fo/\Hand w I' (fh w T) fo [y'] [v] (λ_=>tA)/\∀ c,tA c->H1 0 c:=by
 have aY:=hH.GG;obtain ⟨tA,hA,h6⟩:=R.dL aX aY aB (λc aa=>hH.bd 0 c (by simp) aa) bh.lt bh.hP;refine ⟨λc=>I c\/(H1 0 c/\¬ tA c),tA,λc aa=>.inl aa,λc aa=>aa.elim .inl λh=>.inr h.1,⟨λt x J=>?_,bh.k6,bh.d_,λt c aa hi=>?_,λc aa=>?_,cE.keep bh.hP (λ_ _=>rfl) λ_ h=>.inl h⟩,⟨rfl,λk x u J hu=>?_,λj k c ag hk _ _=>by simp at ag hk; omega,λk t c hk aa aT=>hH.off 0 t c (by simp) (hA c aa) aT,λk c hk aa hi=>?_⟩,hA⟩
 ·obtain ⟨u,hu,nt⟩:=bh.rel t x J;exact ⟨u,hu,nt.n9 λc aa=>.inl aa⟩
 ·rcases hi with h | ⟨h,_⟩
  ·exact bh.bd t c aa h
  ·exact hH.off 0 t c (by simp) h aa
 ·rcases aa with h | ⟨h,_⟩
  ·exact bh.lt c h
  ·exact aY.lt c h
 ·cases k with
  | zero=>simp at J hu; subst J hu; exact h6
  | succ k=>simp at J
 ·rcases hi with h | ⟨_,h⟩
  ·exact hH.bd 0 c (by simp) (hA c aa) h
  ·exact h aa
theorem bc.iv {N:cN}{o:Oper}{g':aL}(he:bc P N g o g'):ht P N g o g':=by
 intro w I T Fs h a aI bp K Q cZ;cases he with
 | GO he=>exact he w I T Fs h a aI bp K Q cZ
 | @call d _ aO km aa =>
  refine aa w I T Fs h a aI bp K Q λb' w' v I' bV h1 af aD bm=>cZ b' w' ⟨h1,by rw [af,<- aI]; exact ib.put km _ _,I',bV,by rw [af]; exact aD,bm⟩ λt ar=>?_;rw [af,aI,Array.getElem?_setIfInBounds_ne];rintro rfl;exact ar aO
 | @assign d x y bB y' g1 g2 aW aO J ar aX hk aP km =>
  have aY:=j9 h J aI;obtain ⟨fo,H1,rf,re,hg⟩:=ar.sound h.mX (Hand.one aY);have xr:cC bB:=ar.Ad bB (by simp);obtain ⟨I',tA,oE,IY,iS,iw,hA⟩:=NL rf re xr aX;have oG:cC y':=aX.bk xr;have h7:=iS.keep hk;have oH:=h7.uH (d:=d) (x:=y') (v:=a.eval x) (F:=tA) aP (by rw [<- aI,bp]; exact cN.lt km) (.tree (iw.GG.bk oG)) (λt c aa aT=>iw.off 0 t c (by simp) aa aT.2) (λc aa=>iw.bd 0 c (by simp) aa) (by rintro z p n m new rfl; cases oG);have hj:(execOp a.eval o).run P w=.ok (.value (a.eval x)) w:=by simp [execOp,aW]
  unfold Oper.wp Oper.upon;simp only [hj];have fi:∀ c,H1 0 c->∃ t,Fs t c:=λc aa=>by
   rcases hg c (.inr ⟨0,by simp,aa⟩) with gV | ⟨_,_,gV⟩
   ·exact gV
   ·exact gV.elim
  refine cZ _ _ ⟨by rw [aO]; rfl,by rw [aO]; exact ib.put km _ _,I',_,by rw [aO]; simpa [Act.put,aI] using oH,⟨Fr.refl _ _,oE,λc aa=>(IY c aa).elim .inl λh=>.inr (.inl (fi c h)),λc aa=>?_⟩⟩ λt ar=>by rw [aO]; simp only [Act.put]; rw [Array.getElem?_setIfInBounds_ne]; rintro rfl; exact ar aO
  rcases uU aa with ⟨t,_,aJ⟩ | aJ
  ·rcases hg c (.inl ⟨t,aJ⟩) with gV | ⟨_,_,gV⟩
   ·exact .inl gV
   ·exact gV.elim
  ·exact .inl (fi c (hA c aJ))
 | @S_ d x y g2 aW aO J hk ao aP km =>
  have aY:=j9 h J aI;have h7:=h.mX.keep hk;have h6:R w I (dy w T g2) y (a.eval x) cj:=(aY.frame (ρ':=fh w T) (λ_ _=>rfl) (λ_ h=>h) (λ_ _ h=>h.1) λ_ _=>rfl).bY ao;have oH:=h7.uH (d:=d) (x:=y) (v:=a.eval x) (F:=cj) aP (by rw [<- aI,bp]; exact cN.lt km) (.tree h6) (λ_ _ h=>h.elim) (λ_ h=>h.elim) (by rintro z p n m new rfl; exact h6.lv.elim);have hj:(execOp a.eval o).run P w=.ok (.value (a.eval x)) w:=by simp [execOp,aW]
  unfold Oper.wp Oper.upon;simp only [hj];refine cZ _ _ ⟨by rw [aO]; rfl,by rw [aO]; exact ib.put km _ _,I,_,by rw [aO]; simpa [Act.put,aI] using oH,⟨Fr.refl _ _,λ_ h=>h,λ_ h=>.inl h,λc aa=>?_⟩⟩ λt ar=>by rw [aO]; simp only [Act.put]; rw [Array.getElem?_setIfInBounds_ne]; rintro rfl; exact ar aO
  rcases uU aa with ⟨t,_,aJ⟩ | aJ
  ·exact .inl ⟨t,aJ⟩
  ·exact aJ.elim
 | @store t ad val p k z n y bB y' nd cs cs' g1 _ aW aO fx nz ar o6 aa aw aq eA hk aK zE si ll j3 =>
  have nu:=j9 h nz aI;obtain ⟨⟨u,acp,hu,vn,sb⟩,_⟩:=(j9 h fx aI).n3;obtain ⟨fo,H0,rf,re,Jb⟩:=ar.sound h.mX (Hand.one nu);have xr:cC bB:=ar.Ad bB (by simp);obtain ⟨I',tA,oE,IY,iS,iw,X2⟩:=NL rf re xr o6;have oG:cC y':=o6.bk xr;have fi:∀ c,H0 0 c->∃ t,Fs t c:=λc aa=>by
   rcases Jb c (.inr ⟨0,by simp,aa⟩) with gV | ⟨_,_,gV⟩
   ·exact gV
   ·exact gV.elim
  have hg:∀ c,lA fo 1 (λ_=>tA) c->lA Fs [y].length (λ_=>cj) c:=by
   rintro c (⟨t,aa⟩ | ⟨_,_,aa⟩)
   ·exact Jb c (.inl ⟨t,aa⟩)
   ·exact .inl (fi c (X2 c aa))
  obtain ⟨yT,N2,Jp,hh,Wb⟩:=iw.cells oG aa;have lv:∀ z q n m new,nd≠.bL z q n m new:=by rcases eA with rfl | rfl <;> simp
  obtain ⟨v,cu,hv,ds,c_,_⟩:=iS.part aq lv;rw [hu] at hv;cases hv;obtain ⟨b,gq,au,_⟩:=ds.node eA (List.getElem?_eq_getElem (show k<cs.length by omega));rw [vn] at au;cases au;have kZ:∃ e arr,w.heap[b]?=some (.cells arr e (0,0))/\cs.length<=arr.size:=by
   rcases eA with rfl | rfl
   ·cases ds with
    | ref J=>simp [ab.isRef] at J
    | own rl ah =>
     obtain ⟨ny,bP⟩:=rl;rcases bP with ⟨rfl,_⟩ | ⟨dR,cap,cur,rfl,_,hE,wg,ym,Gx,DY⟩
     ·simp [addrOf] at vn
     ·simp only [addrOf,Option.some.injEq,Addr.mk.injEq,and_true] at vn;subst vn;refine ⟨_,cur,hE,?_⟩;rw [ah,<- DY,List.length_take]; simp; omega
   ·cases ds with
    | ref J=>simp [ab.isRef] at J
    | obj rl ah =>
     simp only [addrOf,Option.some.injEq,Addr.mk.injEq,and_true] at vn;subst vn;exact ⟨_,_,rl,by omega⟩
  obtain ⟨e,arr,kZ,hle⟩:=kZ;obtain ⟨jc,h7,hA⟩:=iS.store aq eA hk N2 Jp (λ_=>TY (o6.Dj (ar.Dj (by simpa using K3 nz) bB (by simp))) aa) hh zE si ll j3 hu vn kZ;have hK:(a.eval val).cells.toList.length=cs'.length:=N2.len.symm;have bU:=run_storeCells_at P b k e (a.eval val).cells.toList 0 arr w kZ (by omega) (λu hu=>by
   obtain ⟨j,ag,rfl⟩:=List.mem_iff_getElem.1 hu;exact hh j _ (List.getElem?_eq_getElem ag))
  simp only [Nat.add_zero] at bU;have fz:(sizeOf t).run P w=.ok cs'.length w:=by
   unfold hq at aw;cases hi:P.info? t with
   | none=>simp [hi] at aw
   | some i=>simp [hi] at aw; simp [sizeOf,typeInfo,hi,aw]
  have hj:(execOp a.eval o).run P w=.ok .skip (w.setRow b (eX arr.toList k (a.eval val).cells.toList).toArray):=by
   have eS:(a.eval val).cells.size=cs'.length:=by rw [<- Array.length_toList]; exact hK
   simp only [Nat.zero_add] at sb;simp [execOp,aW,sb,Instr.storeAt,Instr.sureAddr,storeVar,fz,eS,bU,eX]
  unfold Oper.wp Oper.upon;simp only [hj];have uc:∃ t,Fs t b:=by
   rcases hg b (.inl ⟨_,c_ b (ds.Gb eA (ad:=⟨b,0,none⟩) vn)⟩) with aJ | ⟨_,_,aJ⟩
   ·exact aJ
   ·exact aJ.elim
  refine cZ _ _ ⟨by rw [aO]; rfl,by rw [aO]; exact ib.refl,I',jc,by rw [aO]; simpa [Act.put,aI] using h7,⟨⟨rfl,rfl,rfl,by simp,λc _ aa=>setRow_other w b c _ (λe=>aa (e ▸ uc)),λa _ _=>NM w b _ a,Nat.le_refl _⟩,oE,λc aa=>(IY c aa).elim .inl λh=>.inr (.inl (fi c h)),λc ⟨t,aa⟩=>?_⟩⟩ λt _=>by rw [aO]; rfl
  rcases hA t c aa with aJ | ⟨j,ag,aJ⟩
  ·rcases hg c (.inl ⟨t,aJ⟩) with gV | ⟨_,_,gV⟩
   ·exact .inl gV
   ·exact gV.elim
  ·rcases hg c (.inr ⟨0,by simp,Wb j c ag aJ⟩) with gV | ⟨_,_,gV⟩
   ·exact .inl gV
   ·exact gV.elim
theorem bc.sound (h:cA w I T g Fs) {a:Act}(aI:a.tmps=T) {N:cN}(bp:a.tmps.size=N.size) {o:Oper}{g':aL}(he:bc P N g o g') {K:Act->World->Prop}{Q:Exit->Act->World->Prop}
  (cZ:∀ b' w',ka N a w I Fs g' b' w'->K b' w'):o.wp P a w K Q:=he.iv w I T Fs h a aI bp K Q λb' w' h _=>cZ b' w' h
end
def oV (g g':aL):Prop:=∀ t x,g t=some x->g' t=some x
section
variable {P:Program}{g g':aL}
theorem eh (h:oV g g') {x:Operand}{y:ab}(ao:bs g x=some y):bs g' x=some y:=by
 cases x <;> simp only [bs] at ao ⊢
 case tmp t =>
  cases J:g t with
  | none=>rw [J] at ao; cases ao
  | some z=>rw [J] at ao; rw [h t z J]; exact ao
 case const v=>exact ao
 case global n=>exact ao
 case func f=>exact ao
theorem Ag (h:oV g g'):∀ {xs:List Operand}{ys:List ab},hc g xs=some ys->hc g' xs=some ys
 | [],_,ao=>ao
 | x::xs,ys,ao=>by
  simp only [hc] at ao ⊢;cases J:bs g x with
  | none=>simp [J] at ao
  | some y =>
   cases sq:hc g xs with
   | none=>simp [J,sq] at ao
   | some Eo=>simp only [J,sq] at ao; simp only [eh h J,Ag h sq]; exact ao
theorem Ql (h:oV g g'):∀ {l:List (Nat × Operand)}{ps:List (Nat × List ab)},rC g l=some ps->rC g' l=some ps
 | [],_,ao=>ao
 | (i,x)::l,ps,ao=>by
  simp only [rC] at ao ⊢;cases J:bs g x with
  | none=>simp [J] at ao
  | some y =>
   cases sq:rC g l with
   | none=>simp [J,sq] at ao
   | some Eo=>simp only [J,sq] at ao; simp only [eh h J,Ql h sq]; exact ao
theorem p2.mono (h:oV g g') {d:Nat}{x:Option Operand}{j:Nat}(au:p2 g d x j):p2 g' d x j:=by
 cases x with
 | none=>exact au
 | some o=>obtain ⟨k,hk⟩:=au; exact ⟨k,eh h hk⟩
theorem df.mono (h:oV g g') {op:Op}{ty:TypeId}{x:ab}(aq:df P g op ty x):df P g' op ty x:=by
 cases aq with
 | move J=>exact .move (eh h J)
 | assign J=>exact .assign (eh h J)
 | pick aa hr=>exact .pick (eh h aa) (eh h hr)
 | Ga J=>exact .Ga (eh h J)
 | qE J=>exact .qE (eh h J)
 | BQ J aT c7=>exact .BQ (eh h J) aT (c7.mono h)
 | E_ J aT=>exact .E_ (eh h J) aT
 | IC J aT ar ao=>exact .IC (eh h J) aT ar ao
 | ID J aT ar hk=>exact .ID (eh h J) aT ar hk
 | FL J hi ar ag=>exact .FL (eh h J) (eh h hi) ar ag
 | FK J hi ar ag c7=>exact .FK (eh h J) (eh h hi) ar ag (c7.mono h)
 | Ko J hi ar ag c7=>exact .Ko (eh h J) (eh h hi) ar ag (c7.mono h)
 | FJ J hi ar ag c7=>exact .FJ (eh h J) (eh h hi) ar ag (c7.mono h)
 | Kn J hi ar ag=>exact .Kn (eh h J) (eh h hi) ar ag
 | F1 J ar=>exact .F1 (eh h J) ar
 | F2 J ar hk=>exact .F2 (eh h J) ar hk
 | C9 J ar ao=>exact .C9 (eh h J) ar (kV h ao)
 | z6 J ar ao aa hm=>exact .z6 (eh h J) ar (kV h ao) aa hm
 | FM J hi ar au=>exact .FM (eh h J) (eh h hi) ar au
 | bin J ao hv hr=>exact .bin (eh h J) (eh h ao) hv hr
 | Bt J ao hv hr=>exact .Bt (eh h J) (eh h ao) hv hr
 | un J hv hr=>exact .un (eh h J) hv hr
 | conv J hv hr=>exact .conv (eh h J) hv hr
 | Ib J aq aB eS ar=>exact .Ib (eh h J) (kV h aq) aB eS ar
 | E6 J ar=>exact .E6 (eh h J) ar
 | @Iz xs fM _ f vs v J hv hr =>
  refine .Iz (vs:=vs) ?_ hv hr;apply List.ext_getElem?;intro k;have:=congrArg (·[k]?) J;simp only [List.getElem?_map] at this ⊢;rw [<- this];cases hk:xs.toList[k]? with
  | none=>rfl
  | some o =>
   rw [hk] at this;cases hv:vs[k]? with
   | none=>rw [hv] at this; cases this
   | some v =>
    rw [hv] at this;simp only [Option.map_some,Option.some.injEq] at this ⊢;rw [this,eh h this]
 | E8 J ao=>exact .E8 (eh h J) ao
 | Ea J ah bP ar h1 af=>exact .Ea (eh h J) (ah.mono h) (bP.mono h) ar h1 af
 | GX J ah bP ar aB c7=>exact .GX (eh h J) (ah.mono h) (bP.mono h) ar aB (c7.mono h)
 | GW J ah bP ar h1 af c7=>exact .GW (eh h J) (ah.mono h) (bP.mono h) ar h1 af (c7.mono h)
 | GY J ah bP ar h1 af=>exact .GY (eh h J) (ah.mono h) (bP.mono h) ar h1 af
 | FY J ar=>exact .FY (eh h J) ar
 | FX J ar=>exact .FX (eh h J) ar
 | KK J ar=>exact .KK (eh h J) ar
 | KJ J ar=>exact .KJ (eh h J) ar
 | F0 J aq ao cZ aY hr=>exact .F0 (eh h J) (kV h aq) (eh h ao) cZ aY hr
 | KM J ao cZ aY hr=>exact .KM (eh h J) (eh h ao) cZ aY hr
 | @lits b xs fM _ vs v J hv hr =>
  refine .lits (vs:=vs) ?_ hv hr;clear hr;generalize xs.toList=l at J
  induction l generalizing vs with
  | nil=>exact J
  | cons x l aM =>
   cases vs with
   | nil=>simp at J
   | cons v vs =>
    simp only [List.map_cons,List.cons.injEq] at J ⊢;exact ⟨eh h J.1,aM J.2⟩
theorem oq.mono (h:oV g g') {op:Op}{ty:TypeId}{x:ab}(aq:oq P g op ty x):oq P g' op ty x:=by
 cases aq with
 | box J aa=>exact .box (eh h J) aa
 | alloc aX h1=>exact .alloc aX h1
 | HC aX aa=>exact .HC aX aa
 | HD aX aa=>exact .HD aX aa
 | HO J aa aK h1=>exact .HO (eh h J) aa aK h1
 | makeMap a8=>exact .makeMap a8
 | buildSlice ar aq J aX aa au aB hzero=>exact .buildSlice ar aq (Ag h J) aX aa au aB hzero
 | makeSlice ar J ao hzero h1 lT au aB rh uq FI=>exact .makeSlice ar (eh h J) (eh h ao) hzero h1 lT au aB rh uq FI
theorem u2.mono (h:oV g g') {op:Op}{ty:TypeId}{x:ab}(aq:u2 P g op ty x):u2 P g' op ty x:=by
 cases aq with
 | build ar aX h1 aq aa=>exact .build ar aX h1 (Ql h aq) aa
 | makeFunc aI au=>exact .makeFunc (Ag h aI) (Ag h au)
theorem Src.mono (h:oV g g') {y:ab}{z m:Nat}{cells:List ab}(aw:Src g y z m cells):Src g' y z m cells:=by
 cases aw with
 | bd=>exact .bd
 | aQ=>exact .aQ
 | a6 a8 hm=>exact .a6 (kV h a8) hm
 | sub a8 hm=>exact .sub (kV h a8) hm
theorem bT.mono (h:oV g g') {op:Op}{ty:TypeId}{x:ab}(aq:bT P g op ty x) (eH:∀ z p n m new,x=.bL z p n m new->∀ t bR cr m' cL,g' t≠some (.bL bR p cr m' cL)):bT P g' op ty x:=by
 cases aq with
 | ew aq=>exact .ew (aq.mono h)
 | rB aq=>exact .rB (aq.mono h)
 | Ak aq=>exact .Ak (aq.mono h)
 | lX aq =>
  cases aq with
  | grow aw c7 _ J oJ ar o3 au=>exact .lX (.grow (eh h aw) (c7.mono h) (eH _ _ _ _ _ rfl) (eh h J) (oJ.mono h) ar o3 au)
  | nil aw J oJ ar o3 au=>exact .lX (.nil (eh h aw) (eh h J) (oJ.mono h) ar o3 au)
theorem View.mono (h:oV g g') {x y:ab}(hv:View g x y):View g' x y:=by
 induction hv with
 | qE=>exact .qE
 | self h1 af aD bm b7 dp=>exact .self h1 af aD bm b7 dp
 | mp=>exact .mp
 | gj aq=>exact .gj (kV h aq)
 | agg ah _ aM=>exact .agg ah aM
 | own ah _ aM=>exact .own ah aM
 | obj ah _ aM=>exact .obj ah aM
 | cD ah _ aM=>exact .cD ah aM
 | a6 aq aB ah _ aM=>exact .a6 (kV h aq) aB ah aM
 | sub aq aB ah _ aM=>exact .sub (kV h aq) aB ah aM
 | ptr aq ao hk ah _ aM=>exact .ptr (kV h aq) ao hk ah aM
 | rows aq ah _ aM=>exact .rows (aq.mono (λaq=>kV h aq) h) ah aM
theorem cd.mono (h:oV g g') {op:Op}{x:ab}(aq:cd P g op x):cd P g' op x:=by
 cases aq with
 | plain aa J aT aB ha hr=>exact .plain (eh h aa) (Ag h J) aT aB ha hr
 | cl J oJ aX aT mK xe aa aB=>exact .cl (eh h J) (oJ.mono h) aX aT mK xe aa aB
 | FZ aa J aT ah hv ha hr=>exact .FZ (eh h aa) (Ag h J) aT ah (λk x y J ao=>(hv k x y J ao).mono h) ha hr
def iE (g:aL) (ops:Array Oper) (o:Oper) (b:Bool):Prop :=
 match o.guard with
 | none=>b=true
 | some (j,want)=>∃ t,(ops[j]?).bind (·.dst)=some t/\((∃ c,g t=some (.lit (.bool c))/\b=(c == want))\/(g t=some (.bS [])/\b=false))
theorem iE.mono (h:oV g g') {ops:Array Oper}{o:Oper}{b:Bool}(hw:iE g ops o b):iE g' ops o b:=by
 unfold iE at *;split
 ·rename_i aP; rw [aP] at hw; exact hw
 ·rename_i j want aP;rw [aP] at hw;obtain ⟨t,h1,⟨c,af,aD⟩ | ⟨af,aD⟩⟩:=hw
  ·exact ⟨t,h1,.inl ⟨c,h t _ af,aD⟩⟩
  ·exact ⟨t,h1,.inr ⟨h t _ af,aD⟩⟩
theorem iE.sound {w:World}{I:a'}{T:Array Value}{Fs:Nat->a'}(bh:cA w I T g Fs) {ops:Array Oper}{o:Oper}{b:Bool}(hw:iE g ops o b):Region.wanted o (yielded ops T)=b:=by
 unfold iE at hw;unfold Region.wanted
 split at hw
 ·rename_i aP; rw [aP]; exact hw.symm
 ·rename_i j want aP;rw [aP];obtain ⟨t,h1,⟨c,af,aD⟩ | ⟨af,aD⟩⟩:=hw
  ·obtain ⟨v,hv,aY⟩:=bh.rel _ _ af;have:=(aY.gp (by simp)).hB.1;subst this;subst aD;simp only [yielded,h1,Option.bind_some,hv];cases c <;> cases want <;> rfl
  ·obtain ⟨v,hv,aY⟩:=bh.rel _ _ af;have:∃ vs,v=.tuple vs:=by
    cases aY.gp (by simp) with
    | bS=>exact ⟨_,rfl⟩
    | ref J=>simp [ab.isRef] at J
   obtain ⟨vs,rfl⟩:=this;subst aD;simp only [yielded,h1,Option.bind_some,hv];cases want <;> rfl
def qa (P:Program) (g:aL) (ops:Array Oper) (o:Oper):Option ab->Prop
 | none=>iE g ops o false
 | some x=>(iE g ops o true/\(bT P g o.op o.type x\/cd P g o.op x))\/(iE g ops o false/\x=.bS [])\/(iE g ops o true/\∃ y,(bT P g o.op o.type y\/cd P g o.op y)/\cC y/\View (λ_=>none) y x)
theorem qa.mono (h:oV g g') {ops:Array Oper}{o:Oper}{r:Option ab}(aw:qa P g ops o r) (eH:∀ z p n m new,r=some (.bL z p n m new)->∀ t bR cr m' cL,g' t≠some (.bL bR p cr m' cL)):qa P g' ops o r:=by
 cases r with
 | none=>exact iE.mono h aw
 | some x =>
  rcases aw with aw | ⟨aw,J⟩ | ⟨aw,y,aq,aB,hv⟩
  ·refine .inl ⟨aw.1.mono h,?_⟩;rcases aw.2 with aq | aq
   ·exact .inl (aq.mono h λz p n m new e=>eH z p n m new (by rw [e]))
   ·exact .inr (aq.mono h)
  ·exact .inr (.inl ⟨aw.mono h,J⟩)
  ·refine .inr (.inr ⟨aw.mono h,y,?_,aB,hv⟩);rcases aq with aq | aq
   ·exact .inl (aq.mono h λz p n m new e=>by subst e; cases aB)
   ·exact .inr (aq.mono h)
def leaf:ab->Bool
 | .own .. | .obj .. | .agg .. | .bS .. | .bL .. | .mp .. | .hS ..=>false
 | _=>true
def del (g:aL) (d:Nat):aL:=λt=>if t=d then none else g t
theorem YY {x y:ab}(h:leaf x=true):∀ {q:List Nat},x.at q=some y->y=x
 | [],ao=>by simpa [ab.at] using ao.symm
 | k::q,ao=>by
  have:x.kids=[]:=by cases x <;> first | rfl | simp [leaf] at h
  simp [ab.at,this] at ao
theorem zf {d:Nat}{x:ab}(aO:g d=some x) (ah:leaf x=true) {p:Place}{y:ab}(aq:bG g p=some y) (ao:leaf y=false):bG (del g d) p=some y:=by
 have hr:p.root≠d:=by
  intro e;unfold bG at aq;rw [e,aO] at aq;rw [YY ah aq,ah] at ao;cases ao
 simp only [bG,del,if_neg hr] at aq ⊢;exact aq
theorem gA.del {d:Nat}{x:ab}(aO:g d=some x) (ah:leaf x=true) {r:ab}(h:gA g r):gA (del g d) r:=by
 have root:∀ {t:Nat}{y:ab},g t=some y->leaf y=false->Own.del g d t=some y:=by
  intro t y ar ao;have:t≠d:=by
   rintro rfl;rw [aO] at ar;cases ar;rw [ah] at ao; cases ao
  simp only [Own.del,if_neg this,ar]
 cases r <;> simp only [gA] at h ⊢
 case ptr p k =>
  obtain ⟨y,ao,z,n,cs,ec,hk⟩:=h;exact ⟨y,zf aO ah ao (by rcases ec with rfl | rfl <;> rfl),z,n,cs,ec,hk⟩
 case a6 z p n =>
  rcases h with ⟨N,cs,ao,aB⟩ | ⟨h1,q,gJ,m,new,af,aD⟩
  ·exact .inl ⟨N,cs,zf aO ah ao rfl,aB⟩
  ·exact .inr ⟨h1,q,gJ,m,new,root af rfl,aD⟩
 case sub z p lo n =>
  obtain ⟨N,cs,ao,aB⟩:=h;exact ⟨N,cs,zf aO ah ao rfl,aB⟩
 case gj p=>obtain ⟨q,h⟩:=h; exact ⟨q,zf aO ah h rfl⟩
 case bL z p n m new =>
  rcases h with ⟨cs,ao⟩ | ⟨h1,q,gJ,m,new,cs,af,aD,bm⟩
  ·exact .inl ⟨cs,zf aO ah ao rfl⟩
  ·exact .inr ⟨h1,q,gJ,m,new,cs,root af rfl,aD,zf aO ah bm rfl⟩
theorem R.YX {w:World}{I:a'}{ρ:ab->Value->Prop}{x:ab}{v:Value}{F:a'}(h:R w I ρ x v F) (ah:leaf x=true):∀ c,¬ F c:=by
 cases h with
 | own | obj | agg | bS | mp | hS=>simp [leaf] at ah
 | lit _ aH | aQ aH | dead aH | mq aH | ref _ _ aH | gG aH | bd aH | cw aH | cD aH | imp aH=>exact aH
theorem cA.drop {w:World}{I:a'}{T:Array Value}{Fs:Nat->a'}(h:cA w I T g Fs) {d:Nat}{x:ab}(aO:g d=some x) (ah:leaf x=true):cA w I T (del g d) Fs:=by
 refine ⟨λt y ao=>?_,λt ar c aa=>?_,h.d_,h.bd,h.lt,λt t' z p n m new bR cr m' cL h1 af=>?_,h.hP⟩
 ·have o9:g t=some y:=by
   unfold del at ao
   split at ao
   ·cases ao
   ·exact ao
  obtain ⟨v,hv,aY⟩:=h.rel t y o9;exact ⟨v,hv,aY.frame (λ_ _=>rfl) (λ_ h=>h) (λ_ _ hr=>⟨hr.1,hr.2.del aO ah⟩) (λ_ _ _ _ _ _ _=>rfl) λ_ _=>rfl⟩
 ·unfold del at ar
  split at ar
  ·rename_i e;subst e;obtain ⟨v,hv,aY⟩:=h.rel t x aO;exact (aY.gp (by rintro z p n m new rfl; simp [leaf] at ah)).YX ah c aa
  ·exact h.k6 t ar c aa
 ·have key:∀ {t:Nat}{y:ab},del g d t=some y->g t=some y:=by
   intro t y ao;unfold del at ao
   split at ao
   ·cases ao
   ·exact ao
  exact h.rF _ _ _ _ _ _ _ _ _ _ _ (key h1) (key af)
end
def yl (g:aL) (d:Nat):Option ab->aL
 | some x=>cR g d x
 | none=>g
section
variable {P:Program}{w:World}{I:a'}{T:Array Value}{g:aL}{Fs:Nat->a'}{N:cN}{ops:Array Oper}
theorem kS.refl (w:World) (I U:a'):kS w I U w I U:=⟨Fr.refl _ _,λ_ h=>h,λ_ h=>.inl h,λ_ h=>.inl h⟩
theorem kS.trans {w ik hs:World}{I Be yV U zb Mr:a'}(h:kS w I U ik Be zb) (h1:kS ik Be zb hs yV Mr):kS w I U hs yV Mr:=by
 have mU:∀ c,c<w.heap.size->zb c->U c:=λc aa hu=>by
  rcases h.own c hu with aJ | aJ
  ·exact aJ
  ·omega
 refine ⟨h.dK.trans h1.dK mU,λc aa=>h1.more c (h.more c aa),λc aa=>?_,λc aa=>?_⟩
 ·rcases h1.new c aa with aJ | aJ | aJ
  ·exact h.new c aJ
  ·rcases h.own c aJ with gV | gV
   ·exact .inr (.inl gV)
   ·exact .inr (.inr gV)
  ·exact .inr (.inr (Nat.le_trans h.dK.size aJ))
 ·rcases h1.own c aa with aJ | aJ
  ·exact h.own c aJ
  ·exact .inr (Nat.le_trans h.dK.size aJ)
theorem ka.trans {N:cN}{a av a2:Act}{ik hs:World}{Be:a'}{fo:Nat->a'}{g2:aL}(h1:av.defers=a.defers) (af:ib N a.tmps av.tmps) (bU:kS w I (λc=>∃ t,Fs t c) ik Be (λc=>∃ t,fo t c)) (h:ka N av ik Be fo g2 a2 hs):ka N a w I Fs g2 a2 hs:=by
 obtain ⟨b9,b3,yV,jc,bh,n1⟩:=h;exact ⟨b9.trans h1,af.trans b3,yV,jc,bh,bU.trans n1⟩
theorem cA.ZX (h:cA w I T g Fs) {d:Nat}(aO:g d=none) (v:Value):cA w I (T.setIfInBounds d v) g Fs:=by
 have cU:∀ t,g t≠none->(T.setIfInBounds d v)[t]?=T[t]?:=by
  intro t ar;rw [Array.getElem?_setIfInBounds_ne];rintro rfl; exact ar aO
 refine ⟨λt x J=>?_,h.k6,h.d_,h.bd,h.lt,h.rF,h.hP⟩;obtain ⟨u,hu,aY⟩:=h.rel t x J;exact ⟨u,by rw [cU t (by rw [J]; simp)]; exact hu,h.w2 cU (λ_ _ _=>rfl) (λ_ _=>rfl) (λ_ h=>h) (λ_ _ h=>h) aY λ_ _=>rfl⟩
structure Hp (dL:Nat->Bool) (g g2:aL):Prop where
 mU:∀ t x,g2 t=some x->dL t=false->g t=some x/\cS g2 x
 o_:∀ t x,g2 t=some x->dL t=true->∃ y,g t=some y/\cC y/\gQ y x
 fE:∀ t z q n m new,g2 t≠some (.bL z q n m new)
theorem cA.vg (h:cA w I T g Fs) {dL:Nat->Bool}{g2:aL}(aX:Hp dL g g2):∃ I' bV,cA w I' T g2 bV/\kS w I (λc=>∃ t,Fs t c) w I' (λc=>∃ t,bV t c):=by
 have rb:=h.mX;have Dg:∀ t x,g2 t=some x->∀ z p n m new,x≠.bL z p n m new:=by
  rintro t x J z p n m new rfl;exact aX.fE _ _ _ _ _ _ J
 -- of each slot what it owns from now on
 have:∀ t,∃ cQ:a',(∀ c,cQ c->Fs t c/\g2 t≠none)/\∀ x,g2 t=some x->(dL t=false->∀ c,Fs t c->cQ c)/\∃ v,T[t]?=some v/\R w (λc=>I c\/(Fs t c/\¬ cQ c)) (dy w T g2) x v cQ:=by
  intro t;cases J:g2 t with
  | none=>exact ⟨cj,λ_ h=>h.elim,λx h=>by cases h⟩
  | some x =>
   cases ar:dL t with
   | false =>
    obtain ⟨h1,af⟩:=aX.mU t x J ar;obtain ⟨v,hv,aY⟩:=rb.rel t x h1;refine ⟨Fs t,λc aa=>⟨aa,by simp⟩,λy ao=>?_⟩;cases ao;exact ⟨λ_ _ h=>h,v,hv,((aY.gp (Dg t x J)).bY af).n9 λc aa=>.inl aa⟩
   | true =>
    obtain ⟨y,h1,af,aD⟩:=aX.o_ t x J ar;obtain ⟨v,hv,aY⟩:=rb.rel t y h1;have h6:=aY.gp (by rintro z p n m new rfl; cases af);obtain ⟨cQ,aw,Wp⟩:=R.dL aD h6 af (λc aa=>rb.bd t c aa) rb.lt rb.hP;refine ⟨cQ,λc aa=>⟨aw c aa,by simp⟩,λz aX=>?_⟩;cases aX;exact ⟨λh=>absurd h (by simp),v,hv,Wp.bk (aD.bk af)⟩
 obtain ⟨bV,jn⟩:=Classical.axiomOfChoice this;refine ⟨λc=>I c\/∃ t,Fs t c/\g2 t≠none/\¬ bV t c,bV,⟨λt x J=>?_,λt ar c aa=>((jn t).1 c aa).2 ar,λt t' c aa ep=>h.d_ t t' c ((jn t).1 c aa).1 ((jn t').1 c ep).1,λt c aa hi=>?_,λc aa=>?_,λt t' z p n m new bR cr m' cL h1 _=>absurd h1 (aX.fE _ _ _ _ _ _),cE.keep h.hP (λ_ _=>rfl) λ_ h=>.inl h⟩,Fr.refl _ _,λ_ h=>.inl h,λc aa=>?_,λc ⟨t,aa⟩=>.inl ⟨t,((jn t).1 c aa).1⟩⟩
 ·obtain ⟨_,v,hv,aY⟩:=(jn t).2 x J;exact ⟨v,hv,.tree (aY.n9 λc aa=>aa.elim .inl λaa=>.inr ⟨t,aa.1,by rw [J]; simp,aa.2⟩)⟩
 ·rcases hi with aJ | ⟨s,h1,_,af⟩
  ·exact h.bd t c ((jn t).1 c aa).1 aJ
  ·have:=h.d_ t s c ((jn t).1 c aa).1 h1;subst this;exact af aa
 ·rcases aa with aJ | ⟨s,aJ,_⟩
  ·exact h.lt c aJ
  ·exact h.iX s c aJ
 ·rcases aa with aJ | ⟨s,aJ,_⟩
  ·exact .inl aJ
  ·exact .inr (.inl ⟨s,aJ⟩)
theorem qa.sound (h:cA w I T g Fs) {a:Act}(aI:a.tmps=T) (bp:a.tmps.size=N.size) {o:Oper}{r:Option ab}{d:Nat}(aw:qa P g ops o r) (aO:o.dst=some d) (aP:g d=none) (km:N.ok d=true) {K:Act->World->Prop}{Q:Exit->Act->World->Prop}
  (cZ:∀ b' w',ka N a w I Fs (yl g d r) b' w'->K b' w') :
  if Region.wanted o (yielded ops a.tmps) then o.wp P a w K Q\/(o.asks P a w/\LetsOut Q) else K (a.put o.dst undef) w:=by
 subst aI;cases r with
 | none =>
  rw [iE.sound h aw];simp only [Bool.false_eq_true,if_false];refine cZ _ _ ⟨by rw [aO]; rfl,by rw [aO]; exact ib.put km _ _,I,Fs,by rw [aO]; exact h.ZX aP _,kS.refl _ _ _⟩
 | some x =>
  have fin:∀ x v w',tz w I a.tmps g Fs x v w'->(∀ b' w',ka N a w I Fs (cR g d x) b' w'->K b' w')->K (a.put o.dst v) w':=by
   rintro x v w' ⟨F,I',bh,aY,h1,af,aD,bm,b7,dp⟩ cZ;refine cZ _ _ ⟨by rw [aO]; rfl,by rw [aO]; exact ib.put km _ _,I',_,by rw [aO]; exact bh.uH aP (by rw [bp]; exact cN.lt km) aY (λt c aa aT=>h1 t c aa aT) (λc aa=>(af c aa).2) dp,⟨b7,aD,λc aa=>?_,λc aa=>?_⟩⟩
   ·rcases bm c aa with aJ | aJ
    ·exact .inl aJ
    ·exact .inr (.inr aJ)
   ·rcases uU aa with aJ | aJ
    ·exact .inl aJ
    ·exact .inr (af c aJ).1
  have o_:∀ y v w',cC y->View (λ_=>none) y x->tz w I a.tmps g Fs y v w'->tz w I a.tmps g Fs x v w':=by
   rintro y v w' aB hv ⟨F,I',bh,aY,h1,af,aD,bm,b7,dp⟩;have ds:=aY.gp (by rintro z p n m new rfl; cases aB);refine ⟨cj,λc=>I' c\/F c,⟨λt z aX=>?_,bh.k6,bh.d_,λt c aa hi=>?_,λc aa=>?_,bh.rF,cE.keep bh.hP (λ_ _=>rfl) λ_ h=>.inl h⟩,.tree (ds.o_ aB hv (λc aa=>(af c aa).2) bh.lt bh.hP),λ_ _ h=>h.elim,λ_ h=>h.elim,λc aa=>.inl (aD c aa),λc aa=>?_,b7,?_⟩
   ·obtain ⟨u,hu,nt⟩:=bh.rel t z aX;exact ⟨u,hu,nt.n9 λc aa=>.inl aa⟩
   ·rcases hi with h | h
    ·exact bh.bd t c aa h
    ·exact h1 t c h aa
   ·rcases aa with h | h
    ·exact bh.lt c h
    ·exact ds.lt c h
   ·rcases aa with h | h
    ·exact bm c h
    ·exact .inr (af c h).1
   ·rintro z p n m new rfl;cases hv with
    | self h=>cases h
  rcases aw with aw | ⟨aw,rfl⟩ | ⟨aw,y,aq,aB,hv⟩
  rotate_left
  rotate_left
  ·rw [iE.sound h aw];simp only [if_true];refine .inl ?_;have NF:∀ v w',tz w I a.tmps g Fs y v w'->K (a.put o.dst v) w':=λv w' cY=>fin x v w' (o_ y v w' aB hv cY) cZ;rcases aq with aq | aq
   ·obtain ⟨v,w',hj,cY⟩:=aq.sound h rfl;unfold Oper.wp Oper.upon;simp only [hj];exact NF v w' cY
   ·exact aq.sound h rfl NF
  rotate_left
  ·rw [iE.sound h aw];simp only [Bool.false_eq_true,if_false];refine cZ _ _ ⟨by rw [aO]; rfl,by rw [aO]; exact ib.put km _ _,I,_,by rw [aO]; exact h.uH aP (by rw [bp]; exact cN.lt km) (.tree (.bS (Fs:=λ_=>cj) (F:=cj) rfl (λk x u J _=>by simp at J) (λ_ _ _ _ _ h=>h.elim) (λc=>⟨λh=>h.elim,λ⟨_,_,h⟩=>h⟩))) (λ_ _ h=>h.elim) (λ_ h=>h.elim) (λ_ _ _ _ _ e=>by cases e),⟨Fr.refl _ _,λ_ h=>h,λ_ h=>.inl h,λc aa=>?_⟩⟩;rcases uU aa with aJ | aJ
   ·exact .inl aJ
   ·exact aJ.elim
  rw [iE.sound h aw.1];simp only [if_true];refine .inl ?_;have fin:∀ v w',tz w I a.tmps g Fs x v w'->K (a.put o.dst v) w':=by
   rintro v w' ⟨F,I',bh,aY,h1,af,aD,bm,b7,dp⟩;refine cZ _ _ ⟨by rw [aO]; rfl,by rw [aO]; exact ib.put km _ _,I',_,by rw [aO]; exact bh.uH aP (by rw [bp]; exact cN.lt km) aY (λt c aa aT=>h1 t c aa aT) (λc aa=>(af c aa).2) dp,⟨b7,aD,λc aa=>?_,λc aa=>?_⟩⟩
   ·rcases bm c aa with aJ | aJ
    ·exact .inl aJ
    ·exact .inr (.inr aJ)
   ·rcases uU aa with aJ | aJ
    ·exact .inl aJ
    ·exact .inr (af c aJ).1
  rcases aw.2 with aq | aq
  ·obtain ⟨v,w',hj,cY⟩:=aq.sound h rfl;unfold Oper.wp Oper.upon;simp only [hj];exact fin v w' cY
  ·exact aq.sound h rfl fin
inductive oY (P:Program) (N:cN) (ops:Array Oper):List Nat->aL->aL->Prop
 | nil {g:aL}:oY P N ops [] g g
 | step {i:Nat}{rest:List Nat}{g g':aL}{o:Oper}{d:Nat}{r:Option ab}(aW:ops[i]?=some o) (aO:o.dst=some d) (aP:g d=none) (km:N.ok d=true) (aw:qa P g ops o r)
   (hr:oY P N ops rest (yl g d r) g'):oY P N ops (i::rest) g g'
 | iv {i:Nat}{rest:List Nat}{g g1 g':aL}{o:Oper}(aW:ops[i]?=some o) (hw:iE g ops o true) (he:bc P N g o g1) (hr:oY P N ops rest g1 g'):oY P N ops (i::rest) g g'
 | drop {is:List Nat}{g g':aL}{d:Nat}{x:ab}(aO:g d=some x) (ah:leaf x=true) (hr:oY P N ops is (del g d) g'):oY P N ops is g g'
 | forget {is:List Nat}{g g1 g':aL}(hk:il g g1) (hr:oY P N ops is g1 g'):oY P N ops is g g'
 | vg {is:List Nat}{g g1 g':aL}{dL:Nat->Bool}(hk:Hp dL g g1) (hr:oY P N ops is g1 g'):oY P N ops is g g'
theorem oY.sound {is:List Nat}{g':aL}(hr:oY P N ops is g g'):∀ {a:Act}{w:World}{I:a'}{Fs:Nat->a'}{Q:Exit->Act->World->Prop},cA w I a.tmps g Fs->a.tmps.size=N.size ->
  (∀ b' w',ka N a w I Fs g' b' w'->Q .normal b' w')->wpOps P ops Q is a w:=by
 induction hr with
 | nil=>exact λbh bp eu=>eu _ _ ⟨rfl,ib.refl,_,_,bh,kS.refl _ _ _⟩
 | @step i rest g g' o d r aW aO aP km aw _ aM =>
  intro a w I Fs Q bh bp eu;simp only [wpOps,aW];refine aw.sound bh rfl bp aO aP km λb' w' aB=>?_;obtain ⟨b9,b3,I',bV,dM,bU⟩:=aB;exact aM dM (b3.1.trans bp) λa2 hs af=>eu _ _ (ka.trans b9 b3 bU af)
 | @iv i rest g g1 g' o aW hw he _ aM =>
  intro a w I Fs Q bh bp eu;simp only [wpOps,aW,hw.sound bh,if_true];refine .inl (he.sound bh rfl bp λb' w' aB=>?_);obtain ⟨b9,b3,I',bV,dM,bU⟩:=aB;exact aM dM (b3.1.trans bp) λa2 hs af=>eu _ _ (ka.trans b9 b3 bU af)
 | @drop is g g' d x aO ah _ aM=>exact λbh bp eu=>aM (bh.drop aO ah) bp eu
 | @vg is g g1 g' dL hk _ aM =>
  intro a w I Fs Q bh bp eu;obtain ⟨I',bV,dM,bU⟩:=bh.vg hk;exact aM dM bp λa2 hs af=>eu _ _ (ka.trans rfl ib.refl bU af)
 | @forget is g g1 g' hk _ aM =>
  intro a w I Fs Q bh bp eu;have dM:=bh.mX.keep hk;refine aM dM bp λa2 hs af=>eu _ _ (ka.trans rfl ib.refl ⟨Fr.refl _ _,λ_ h=>h,λ_ h=>.inl h,λc aa=>?_⟩ af);obtain ⟨t,_,aa⟩:=aa;exact .inl ⟨t,aa⟩
end
def sC (rs:List Nat):Place->Prop:=λp=>p.root∈rs
def nf (P:Program) (N:cN) (rs:Place->Prop) (g:aL) (o:Oper) (g':aL):Prop :=
 ∀ (w:World) (I:a') (T:Array Value) (Fs:Nat->a'),cA w I T g Fs->∀ (a:Act),a.tmps=T->a.tmps.size=N.size->∀ (K:Act->World->Prop) (Q:Exit->Act->World->Prop),
  (∀ (b':Act) (w':World),ka N a w I Fs g' b' w'->(∀ t,o.dst≠some t->b'.tmps[t]?=a.tmps[t]?)->(∀ r path,rs ⟨r,path⟩->∀ y,bG g ⟨r,path⟩=some y->(∀ z q n m new,y≠.bL z q n m new)->dx w' b'.tmps ⟨r,path⟩=dx w T ⟨r,path⟩)->K b' w')->o.wp P a w K Q
theorem ht.v {P:Program}{N:cN}{g g':aL}{o:Oper}(h:ht P N g o g'):nf P N (sC []) g o g' :=
 λw I T Fs bh a aI bp K Q cZ=>h w I T Fs bh a aI bp K Q λb' w' h1 af=>cZ b' w' h1 af λ_ _ h=>by simp [sC] at h
inductive p9:ab->Prop
 | lit {v:Value}:p9 (.lit v)
 | aQ:p9 .aQ
 | bd {z n:Nat}{cs:List ab}(h:∀ x∈cs,cC x):p9 (.bd z n cs)
 | agg {cs:List ab}(h:∀ x∈cs,p9 x):p9 (.agg cs)
theorem p9.bk {x:ab}(h:p9 x):cC x:=by
 induction h with
 | lit=>exact .lit
 | aQ=>exact .aQ
 | bd h=>exact .bd h
 | agg _ aM=>exact .agg aM
theorem p9.k6 {w:World}{I:a'}{ρ:ab->Value->Prop}{x:ab}(h:p9 x):∀ {v:Value}{F:a'},R w I ρ x v F->∀ c,¬ F c:=by
 induction h with
 | lit =>
  intro v F aY;cases aY with
  | lit _ aH=>exact aH
  | ref J=>simp [ab.isRef] at J
 | aQ =>
  intro v F aY;cases aY with
  | aQ aH=>exact aH
  | ref J=>simp [ab.isRef] at J
 | bd =>
  intro v F aY;cases aY with
  | ref J=>simp [ab.isRef] at J
  | gG aH=>exact aH
  | bd aH=>exact aH
 | @agg cs _ aM =>
  intro v F aY c aa;cases aY with
  | ref J=>simp [ab.isRef] at J
  | @agg _ vs bH _ ah h1 hr aO ma =>
   obtain ⟨k,hk,af⟩:=(ma c).1 aa;have hu:vs[k]?=some (vs[k]'(by omega)):=Array.getElem?_eq_getElem (by omega);exact aM _ (List.getElem_mem hk) (hr k _ _ (List.getElem?_eq_getElem hk) hu) c af
structure Hk (g:aL):Prop where
 bY:∀ t x,g t=some x->cS g x
 fE:∀ t z q n m new,g t≠some (.bL z q n m new)
def wG (rs:Place->Prop) (g g1:aL) (o:Oper) (x:ab):Prop:=(∃ r path z n N cs,x=.a6 z ⟨r,path⟩ n/\rs ⟨r,path⟩/\bG g ⟨r,path⟩=some (.own z N cs)/\bG g1 ⟨r,path⟩=some (.own z N cs)/\n<=N)\/(∃ v,x=.lit v)\/(∃ s p k,x=.ptr p k/\g s=some x/\g1 s=some x/\o.dst≠some s)\/(∃ r k cs,x=.ptr ⟨r,[]⟩ k/\g1 r=some (.obj cs)/\k<cs.length/\o.dst≠some r/\∃ cs',g r=some (.obj cs')/\k<cs'.length)\/(∃ z n cs,x=.bd z n cs/\cC x)\/(∃ cs,x=.agg cs/\p9 x/\Hk g)
section
variable {P:Program}{N:cN}{g g1:aL}{o:Oper}
theorem Q5 {T:Array Value}{t:Nat}{v:Value}(h:T[t]?=some v):T.setIfInBounds t v=T:=by
 apply Array.ext (by simp);intro i h1 af;rw [Array.getElem_setIfInBounds];split
 ·rename_i e;subst e;have:=(Array.getElem?_eq_some_iff.1 h);exact this.2.symm
 ·rfl
theorem cA.UW {w:World}{I:a'}{T:Array Value}{Fs:Nat->a'}{t:Nat}{x:ab}(h:cA w I T (cR g t x) Fs) (aP:g t=none) (aa:Hk g) (lk:∀ c,¬ Fs t c):cA w I T g Fs:=by
 have hA:∀ s y,g s=some y->cR g t x s=some y:=λs y aw=>by
  unfold cR;rw [if_neg (λe=>by rw [e,aP] at aw; cases aw)]; exact aw
 have af:=h.mX.keep (g2:=g) ⟨hA,aa.bY,aa.fE⟩;have e:(λs c=>g s≠none/\Fs s c)=Fs:=by
  funext s c;apply propext;refine ⟨λh=>h.2,λaT=>⟨λaB=>?_,aT⟩⟩;by_cases aw:s=t
  ·subst aw; exact lk c aT
  ·exact h.k6 s (by unfold cR; rw [if_neg aw]; exact aB) c aT
 rw [e] at af;exact af
theorem nf.extra {rs:Place->Prop}(h:nf P N rs g o g1) {t:Nat}{x:ab}(lp:∀ p,rs p->g p.root≠none) (aP:g t=none) (Jv:g1 t=none) (ar:o.dst≠some t) (J:wG rs g g1 o x):nf P N rs (cR g t x) o (cR g1 t x):=by
 intro w I T Fs bh a aI bp K Q cZ;have J6:cR g t x t=some x:=by simp [cR]
 have ll:∀ z q n m new,x≠.bL z q n m new:=by
  rcases J with ⟨r,path,z,n,N,cs,rfl,_⟩ | ⟨v,rfl⟩ | ⟨s,p,k,rfl,_⟩ | ⟨r,k,cs,rfl,_⟩ | ⟨z,n,cs,rfl,_⟩ | ⟨cs,rfl,_⟩ <;> simp
 have rf:cA w I T g Fs:=by
  have Bx:leaf x=true->cA w I T g Fs:=λzJ=>by
   have:=bh.drop J6 zJ;have e:del (cR g t x) t=g:=by
    funext s;unfold del cR;by_cases aw:s=t
    ·subst aw; simp [aP]
    ·simp [aw]
   rwa [e] at this
  rcases J with ⟨r,path,z,n,N,cs,rfl,_⟩ | ⟨v,rfl⟩ | ⟨s,p,k,rfl,_⟩ | ⟨r,k,cs,rfl,_⟩ | ⟨z,n,cs,rfl,_⟩ | ⟨cs,rfl,zM,hK⟩
  ·exact Bx rfl
  ·exact Bx rfl
  ·exact Bx rfl
  ·exact Bx rfl
  ·exact Bx rfl
  ·obtain ⟨v,_,nu⟩:=bh.rel t _ J6;exact bh.UW aP hK (zM.k6 (nu.gp (by simp)))
 obtain ⟨v,hv,nu⟩:=bh.rel t x J6;refine h w I T Fs rf a aI bp K Q λb' w' aB s8 O5=>cZ b' w' ?_ s8 λr path hr y ao ll=>?_
 rotate_left
 ·by_cases OU:r=t
  ·subst OU;exact absurd aP (lp _ hr)
  ·exact O5 r path hr y (by simpa [bG,cR,OU] using ao) ll
 obtain ⟨b9,b3,I',bV,dM,bU⟩:=aB;have ih:b'.tmps[t]?=some v:=by rw [s8 t ar,aI]; exact hv
 have h6:jB w' I' (dy w' b'.tmps g1) x v cj:=by
  rcases J with ⟨r,path,z,n,y4,cs,rfl,hr,zO,iU,XD⟩ | ⟨u,rfl⟩ | ⟨s,p,k,rfl,aw,xv,XW⟩ | ⟨r,k,cs,rfl,iU,hk,ui,_⟩ | ⟨z,n,cs,rfl,oG⟩ | ⟨cs,rfl,zM,hK⟩
  ·obtain ⟨⟨av,kx,cap,gR,rfl,lG⟩,_⟩:=(nu.gp (by simp)).n2;exact .tree (.ref rfl ⟨⟨av,kx,cap,by rw [O5 r path hr _ zO (by simp)]; exact gR,rfl,lG⟩,.inl ⟨y4,cs,iU,XD⟩⟩ λ_ h=>h)
  ·obtain ⟨rfl,aa⟩:=(nu.gp (by simp)).hB;exact .tree (.lit aa λ_ h=>h)
  ·obtain ⟨⟨sL,ad,av,a2,rfl⟩,_⟩:=(nu.gp (by simp)).n3;have bU:s≠t:=by rintro rfl; rw [aP] at aw; cases aw
   obtain ⟨u,hu,nt⟩:=rf.rel s _ aw;obtain ⟨⟨afE,aco,gR,iu,rfl⟩,_⟩:=(nt.gp (by simp)).n3;rw [av] at gR;cases gR;rw [a2] at iu;cases iu;obtain ⟨sK,hU,I5⟩:=dM.rel s _ xv;have:b'.tmps[s]?=T[s]?:=by rw [s8 s XW,aI]
   rw [this,hu] at hU;cases hU;exact .tree (.ref rfl (I5.gp (by simp)).n3 λ_ h=>h)
  ·obtain ⟨⟨sL,ad,av,a2,rfl⟩,_⟩:=(nu.gp (by simp)).n3;have cU:b'.tmps[r]?=T[r]?:=by rw [s8 r ui,aI]
   have nz:∀ (w:World) (T:Array Value),dx w T ⟨r,[]⟩=T[r]?:=λw T=>by
    unfold dx; simp only; cases T[r]? <;> rfl
   exact .tree (.ref rfl ⟨⟨sL,ad,by rw [nz,cU,<- nz w T]; exact av,a2,rfl⟩,⟨.obj cs,by simp [bG,iU,ab.at],0,0,cs,.inr rfl,hk⟩⟩ λ_ h=>h)
  ·have rK:∀ c,I c->w'.heap[c]?=w.heap[c]?:=λc aa=>bU.dK.block c (bh.lt c aa) λ⟨t',aJ⟩=>rf.bd t' c aJ aa;have I2:=(nu.gp (by simp)).bk oG (ρ':=dy w' b'.tmps g1);have lk:∀ c,¬ Fs t c:=by
    cases nu.gp (by simp) with
    | ref J=>simp [ab.isRef] at J
    | gG aH=>exact aH
    | bd aH=>exact aH
   exact .tree ((I2.frame rK bU.more (λ_ _ h=>h) λc aa=>absurd aa (lk c)).empty lk)
  ·have rK:∀ c,I c->w'.heap[c]?=w.heap[c]?:=λc aa=>bU.dK.block c (bh.lt c aa) λ⟨t',aJ⟩=>rf.bd t' c aJ aa;have lk:=zM.k6 (nu.gp (by simp));have I2:=(nu.gp (by simp)).bk zM.bk (ρ':=dy w' b'.tmps g1);exact .tree ((I2.frame rK bU.more (λ_ _ h=>h) λc aa=>absurd aa (lk c)).empty lk)
 have oH:=dM.uH (d:=t) (x:=x) (v:=v) (F:=cj) Jv (Array.getElem?_eq_some_iff.1 ih).1 h6 (λ_ _ h=>h.elim) (λ_ h=>h.elim) (λz p n m new e=>absurd e (ll _ _ _ _ _));rw [Q5 ih] at oH;refine ⟨b9,b3,I',_,oH,⟨bU.dK,bU.more,bU.new,λc aa=>?_⟩⟩;rcases uU aa with aJ | aJ
 ·exact bU.own c aJ
 ·exact aJ.elim
theorem ht.frame {g0 II:aL}{r:Nat}{x:ab}(h:ht P N g0 o II) (hr:g r=some x) (J:cC x) (hk:il g g0) (aK:g0 r=none) (h1:II r=none) (aO:o.dst≠some r):nf P N (sC [r]) g o (cR II r x):=by
 intro w I T Fs bh a aI bp K Q cZ;have rf:=bh.mX.keep hk;refine h w I T _ rf a aI bp K Q λb' w' aB s8=>?_;obtain ⟨b9,b3,I',bV,dM,bU⟩:=aB;obtain ⟨u,hu,aY⟩:=bh.rel r x hr;have hU:b'.tmps[r]?=some u:=by rw [s8 r aO,aI]; exact hu
 have ll:∀ z q n m new,x≠.bL z q n m new:=by rintro z q n m new rfl; cases J
 have off:∀ c,Fs r c->¬ ∃ t,(g0 t≠none/\Fs t c):=by
  rintro c aa ⟨t,mm,af⟩;have:=bh.d_ t r c af aa;subst this;exact mm aK
 have same:∀ c,Fs r c->w'.heap[c]?=w.heap[c]?:=λc aa=>bU.dK.block c (bh.iX r c aa) (off c aa);have rK:∀ c,I c->w'.heap[c]?=w.heap[c]?:=λc aa=>bU.dK.block c (bh.lt c aa) λ⟨t,_,aJ⟩=>bh.bd t c aJ aa;have oH:=dM.uH (d:=r) (x:=x) (v:=u) (F:=Fs r) h1 (Array.getElem?_eq_some_iff.1 hU).1 (.tree (((aY.gp ll).bk J).frame rK bU.more (λ_ _ h=>h) same)) (λt c aa aT=>by
   rcases bU.own c ⟨t,aT⟩ with aJ | aJ
   ·exact off c aa aJ
   ·have:=bh.iX r c aa; omega) (λc aa hi=>by
   rcases bU.new c hi with aJ | aJ | aJ
   ·exact bh.bd r c aa aJ
   ·exact off c aa aJ
   ·have:=bh.iX r c aa; omega) (λz p n m new e=>absurd e (ll _ _ _ _ _))
 rw [Q5 hU] at oH;refine cZ b' w' ⟨b9,b3,I',_,oH,⟨bU.dK.mono λb _ ⟨t,_,aJ⟩=>⟨t,aJ⟩,bU.more,λc aa=>?_,λc aa=>?_⟩⟩ s8 λc' path dG y ao hyp=>?_
 ·rcases bU.new c aa with aJ | ⟨t,_,aJ⟩ | aJ
  ·exact .inl aJ
  ·exact .inr (.inl ⟨t,aJ⟩)
  ·exact .inr (.inr aJ)
 ·rcases uU aa with aJ | aJ
  ·rcases bU.own c aJ with ⟨t,_,gV⟩ | gV
   ·exact .inl ⟨t,gV⟩
   ·exact .inr gV
  ·exact .inl ⟨r,aJ⟩
 ·have dG:c'∈[r]:=dG;simp only [List.mem_singleton] at dG;subst dG;have gv:il g (λt=>if t=c' then some x else none):=by
   refine ⟨λt y ft=>?_,λt y ft=>?_,λt z q n m new ft=>?_⟩
   all_goals
    by_cases e:t=c'
    case neg=>simp [e] at ft
   ·subst e; simp at ft; subst ft; exact hr
   ·subst e; simp at ft; subst ft; exact .bk J
   ·subst e; simp at ft; exact ll _ _ _ _ _ ft
  refine (bh.mX.keep gv).yC (T':=b'.tmps) (λt ar=>?_) (λt c aa=>?_) (p:=⟨c',path⟩) (y:=y) ?_
  ·by_cases e:t=c'
   ·subst e; rw [s8 t aO,aI]
   ·simp [e] at ar
  ·by_cases e:t=c'
   ·subst e; exact same c aa.2
   ·simp [e] at aa
  ·simp only [bG,if_true];simpa [bG,hr] using ao
end
abbrev Acc:=List (Nat × Nat × Option ab)
def dr (g0:aL) (A:Nat->Bool):Acc->aL
 | [],t=>g0 t
 | (k,d,r)::acc,t=>if d=t then (if A k then r else none) else dr g0 A acc t
def k7:Nat × Nat × Option ab->Option Place
 | (_,_,some (.bL _ p _ _ _))=>some p
 | _=>none
def qd (ops:Array Oper) (bj:List (List Nat)):Bool :=
 (List.range ops.size).all λk =>
  match ops[k]? with
  | none=>true
  | some o=>(o.after.all λe=>!Region.binds .any e||decide (e.on<k))&&(bj.getD k []).all λm=>decide (m<k)&&o.after.any λe=>Region.binds .any e&&(e.on == m||(bj.getD e.on []).contains m)
inductive iD (P:Program) (N:cN) (ops:Array Oper) (bj:List (List Nat)) (g0:aL) (i:Nat) (dA:Acc):Nat->Acc->Prop
 | nil:iD P N ops bj g0 i dA i dA
 | step {j:Nat}{acc:Acc}{o:Oper}{d:Nat}{r:Option ab}(h:iD P N ops bj g0 i dA j acc) (aW:ops[j]?=some o) (aO:o.dst=some d) (aP:g0 d=none) (aB:∀ e∈acc,e.2.1≠d) (km:N.ok d=true)
   (aw:qa P (dr g0 (λm=>(bj.getD j []).contains m) acc) ops o r):iD P N ops bj g0 i dA (j+1) ((j,d,r)::acc)
structure ni (P:Program) (N:cN) (ops:Array Oper) (bj:List (List Nat)) (g0:aL) (i:Nat) (dA:Acc):Prop where
 lt:∀ e∈dA,e.1<i
 free:∀ e∈dA,g0 e.2.1=none
 nd:(dA.map (·.2.1)).Nodup
 RA:∀ e∈dA,∀ b1∈dA,(e.1=b1.1\/e.2.1=b1.2.1)->e=b1
 st:∀ e∈dA,∃ fR,ops[e.1]?=some fR/\fR.dst=some e.2.1/\N.ok e.2.1=true/\qa P (dr g0 (λm=>(bj.getD e.1 []).contains m) dA) ops fR e.2.2
theorem ni.nil {P:Program}{N:cN}{ops:Array Oper}{bj:List (List Nat)}{g0:aL}{i:Nat}:ni P N ops bj g0 i []:=⟨by simp,by simp,by simp,by simp,by simp⟩
inductive sP (P:Program) (N:cN) (ops:Array Oper) (bj:List (List Nat)):Nat->Acc->aL->aL->Prop
 | fin {i:Nat}{dA:Acc}{g:aL}{acc:Acc}(aw:iD P N ops bj g i dA ops.size acc) (gN:(acc.filterMap k7).Nodup) (fL:∀ t z q n m new,g t≠some (.bL z q n m new)):sP P N ops bj i dA g (dr g (λ_=>true) acc)
 | Bs {i j:Nat}{g g1 g':aL}{dA acc U:Acc}{o:Oper}{rs:Place->Prop}(aw:iD P N ops bj g i dA j acc) (gN:(acc.filterMap k7).Nodup) (fL:∀ t z q n m new,g t≠some (.bL z q n m new)) (aW:ops[j]?=some o) (hw:iE (dr g (λm=>(bj.getD j []).contains m) acc) ops o true)
   (he:nf P N rs (dr g (λm=>(bj.getD j []).contains m) acc) o g1) (lp:∀ p,rs p->g p.root≠none) (fi:U=acc.filter λe=>!(bj.getD j []).contains e.1) (J:∀ e∈U,∃ x,e.2.2=some x/\wG rs (dr g (λm=>(bj.getD j []).contains m) acc) g1 o x) (h1:∀ e∈U,g1 e.2.1=none/\o.dst≠some e.2.1)
   (af:∀ e∈U,∃ fR,ops[e.1]?=some fR/\fR.dst=some e.2.1/\N.ok e.2.1=true/\qa P (dr g1 (λm=>(bj.getD e.1 []).contains m) U) ops fR e.2.2)
   (au:(List.range ops.size).all (λk=>decide (k<=j)||(bj.getD k []).contains j)=true) (hr:sP P N ops bj (j+1) U g1 g'):sP P N ops bj i dA g g'
theorem mY {g0:aL}{A:Nat->Bool}{acc:Acc}{t:Nat}(h:∀ e∈acc,e.2.1≠t):dr g0 A acc t=g0 t:=by
 induction acc with
 | nil=>rfl
 | cons e acc aM =>
  grind [dr]
theorem uV {g0:aL}{A:Nat->Bool}{acc:Acc}{t:Nat}{x:ab}(h:dr g0 A acc t=some x):(∃ e∈acc,e.2.1=t/\A e.1=true/\e.2.2=some x)\/((∀ e∈acc,e.2.1≠t)/\g0 t=some x):=by
 induction acc with
 | nil=>exact .inr ⟨by simp,h⟩
 | cons e acc aM =>
  grind [dr]
theorem LO {g:aL}{A:Nat->Bool}{acc:Acc}(hu:∀ e∈acc,∀ b1∈acc,e.2.1=b1.2.1->e=b1) {e:Nat × Nat × Option ab}(he:e∈acc):dr g A acc e.2.1=if A e.1 then e.2.2 else none:=by
 induction acc with
 | nil=>cases he
 | cons a acc aM =>
  grind [dr]
section
variable {P:Program}{N:cN}{ops:Array Oper}{bj:List (List Nat)}{g0:aL}{i:Nat}
variable {dA:Acc}
theorem iD.le {j:Nat}{acc:Acc}(h:iD P N ops bj g0 i dA j acc) (fi:ni P N ops bj g0 i dA):i<=j/\∀ e∈acc,e.1<j:=by
 induction h with
 | nil=>exact ⟨Nat.le_refl _,fi.lt⟩
 | step _ _ _ _ _ _ _ aM =>
  grind
theorem iD.ge {j:Nat}{acc:Acc}(h:iD P N ops bj g0 i dA j acc) (fi:ni P N ops bj g0 i dA):∀ e∈acc,e∈dA\/i<=e.1:=by
 induction h with
 | nil=>exact λe he=>.inl he
 | step aw _ _ _ _ _ _ aM =>
  intro e he;rcases List.mem_cons.1 he with rfl | he
  ·exact .inr (aw.le fi).1
  grind
theorem iD.LF {j:Nat}{acc:Acc}(h:iD P N ops bj g0 i dA j acc):∀ e∈dA,e∈acc:=by
 induction h with
 | nil=>exact λe he=>he
 | step _ _ _ _ _ _ _ aM=>exact λe he=>by simp [aM e he]
theorem iD.fresh {j:Nat}{acc:Acc}(h:iD P N ops bj g0 i dA j acc) (fi:ni P N ops bj g0 i dA):∀ e∈acc,g0 e.2.1=none:=by
 induction h with
 | nil=>exact fi.free
 | step _ _ _ aP _ _ _ aM =>
  grind
theorem iD.nodup {j:Nat}{acc:Acc}(h:iD P N ops bj g0 i dA j acc) (fi:ni P N ops bj g0 i dA):(acc.map (·.2.1)).Nodup:=by
 induction h with
 | nil=>exact fi.nd
 | step _ _ _ _ aB _ _ aM =>
  grind
theorem iD.uniq {j:Nat}{acc:Acc}(h:iD P N ops bj g0 i dA j acc) (fi:ni P N ops bj g0 i dA):∀ {e b1:Nat × Nat × Option ab},e∈acc->b1∈acc->(e.1=b1.1\/e.2.1=b1.2.1)->e=b1:=by
 induction h with
 | nil=>exact λ{e b1} he h8 bP=>fi.RA e he b1 h8 bP
 | @step j acc o d r aw _ _ _ aB _ _ aM =>
  intro e b1 he h8 bP;rcases List.mem_cons.1 he with rfl | he <;> rcases List.mem_cons.1 h8 with rfl | h8
  ·rfl
  ·rcases bP with bP | bP
   ·have:=(aw.le fi).2 b1 h8
    grind
   grind
  ·rcases bP with bP | bP
   ·have:=(aw.le fi).2 e he
    grind
   grind
  grind
theorem iD.at_mem {j:Nat}{acc:Acc}(h:iD P N ops bj g0 i dA j acc) (fi:ni P N ops bj g0 i dA) {A:Nat->Bool}{e:Nat × Nat × Option ab}(he:e∈acc):dr g0 A acc e.2.1=if A e.1 then e.2.2 else none :=
 LO (λ_ J _ ao aJ=>h.uniq fi J ao (.inr aJ)) he
theorem iD.get {j:Nat}{acc:Acc}(h:iD P N ops bj g0 i dA j acc) (fi:ni P N ops bj g0 i dA):∀ e∈acc,∃ o EP,ops[e.1]?=some o/\o.dst=some e.2.1/\N.ok e.2.1=true/\qa P (dr g0 (λm=>(bj.getD e.1 []).contains m) EP) ops o e.2.2/\∀ e∈EP,e∈acc:=by
 induction h with
 | nil =>
  intro e he;obtain ⟨fR,h1,af,aD,bm⟩:=fi.st e he
  grind
 | @step j acc o d r aw aW aO aP aB km bU aM =>
  intro e he;rcases List.mem_cons.1 he with rfl | he
  ·grind
  grind
theorem iD.has {j:Nat}{acc:Acc}(h:iD P N ops bj g0 i dA j acc):∀ k,i<=k->k<j->∃ e∈acc,e.1=k:=by
 induction h with
 | nil=>intro k h1 af; omega
 | @step j acc o d r aw aW aO aP aB km bU aM =>
  grind [List.mem_cons_self]
theorem ZI {acc:Acc}(gN:(acc.filterMap k7).Nodup) {e b1:Nat × Nat × Option ab}{p:Place}(he:e∈acc) (h8:b1∈acc) (h:k7 e=some p) (aJ:k7 b1=some p):e=b1:=by
 induction acc with
 | nil=>simp at he
 | cons a acc aM =>
  grind
def ek (listed:Array Bool) (k:Nat):Bool:=listed.getD k false
def vc (ops:Array Oper) (listed:Array Bool):Nat:=((List.range ops.size).filter λk=>!ek listed k).length
theorem E5 {listed:Array Bool}{k:Nat}(hk:k<ops.size) (ah:ek listed k=false) (fz:listed.size=ops.size):vc ops (listed.setIfInBounds k true)+1<=vc ops listed:=by
 unfold vc;have key:∀ l:List Nat,l.Nodup->((l.filter λj=>!ek (listed.setIfInBounds k true) j).length+if k∈l then 1 else 0)=(l.filter λj=>!ek listed j).length:=by
  intro l
  induction l with
  | nil=>intro _; simp
  | cons j l aM =>
   intro eA;have XE:=List.nodup_cons.1 eA;have afn:=aM XE.2;by_cases gC:j=k
   ·simp_all [ek]
   ·have h1:ek (listed.setIfInBounds k true) j=ek listed j:=by simp [ek,Array.getElem?_setIfInBounds_ne (Ne.symm gC)]
    grind
 grind
end
section
variable {P:Program}{N:cN}{ops:Array Oper}{bj:List (List Nat)}
def Down (bj:List (List Nat)) (listed:Array Bool):Prop:=∀ k,ek listed k=true->∀ m∈bj.getD k [],ek listed m=true
theorem My (h:qd ops bj=true) {k:Nat}{o:Oper}(aW:ops[k]?=some o) :
  (∀ e∈o.after,Region.binds .any e=true->e.on<k)/\∀ m∈bj.getD k [],m<k/\∃ e∈o.after,Region.binds .any e=true/\(e.on=m\/m∈bj.getD e.on []):=by
 grind [qd,Array.all_eq_true_iff_forall_mem]
theorem yn {listed:Array Bool}{k:Nat}(h:k∈Region.ready .any ops listed):ek listed k=false/\∃ o,ops[k]?=some o/\∀ e∈o.after,Region.binds .any e=true->ek listed e.on=true:=by
 grind [mem_ready,ek]
theorem Li (dI:qd ops bj=true) {listed:Array Bool}(aO:Down bj listed) {k:Nat}(h:k∈Region.ready .any ops listed):∀ m∈bj.getD k [],ek listed m=true:=by
 obtain ⟨_,o,aW,af⟩:=yn h;intro m hm;obtain ⟨_,e,he,au,aD⟩:=(My dI aW).2 m hm;rcases aD with rfl | aD
 ·grind
 ·exact aO e.on (af e he au) m aD
theorem QA (dI:qd ops bj=true) {listed:Array Bool}(fz:listed.size=ops.size):∀ k,k<ops.size->ek listed k=false->Region.ready .any ops listed≠[]:=by
 intro k
 induction k using Nat.strongRecOn with
 | _ k aM =>
  intro hk ah;by_cases hex:∃ j,j<k/\ek listed j=false
  ·grind
  ·have mM:k∈Region.ready .any ops listed:=by
    refine mem_ready.2 ⟨?_,ops[k],Array.getElem?_eq_getElem hk,λe he au=>?_⟩
    ·grind [ek]
    ·have aN:=(My dI (Array.getElem?_eq_getElem hk)).1 e he au
     grind [ek]
   grind
theorem Eh {g0:aL}{A B:Nat->Bool}{acc:Acc}{t:Nat}(h:∀ e∈acc,e.2.1=t->A e.1=B e.1):dr g0 A acc t=dr g0 B acc t:=by
 induction acc with
 | nil=>rfl
 | cons e acc aM =>
  grind [dr]
theorem EE {listed:Array Bool}{k j:Nat}(hk:k<listed.size):ek (listed.setIfInBounds k true) j=if j=k then true else ek listed j:=by
 by_cases gC:j=k
 all_goals simp_all [ek,Ne.symm]
theorem abw {g0:aL}{i j:Nat}{acc U dA:Acc}(aw:iD P N ops bj g0 i dA j acc) (bQ:ni P N ops bj g0 i dA) {A S:Nat->Bool}(fi:U=acc.filter λe=>!A e.1) (VX:∀ e∈acc,A e.1=true->S e.1=true):dr g0 S acc=dr (dr g0 A acc) S U:=by
 subst fi;funext t;by_cases hex:∃ e∈acc,e.2.1=t
 ·obtain ⟨e,he,rfl⟩:=hex;rw [aw.at_mem bQ he];by_cases dI:A e.1=true
  ·rw [mY,aw.at_mem bQ he,if_pos dI,if_pos (VX e he dI)];intro b1 h8 h;obtain ⟨h1,af⟩:=List.mem_filter.1 h8;have:=aw.uniq bQ h1 he (.inr h)
   grind
  ·rw [LO (λx J y ao h=>aw.uniq bQ (List.mem_filter.1 J).1 (List.mem_filter.1 ao).1 (.inr h)) (List.mem_filter.2 ⟨he,by simpa using dI⟩)]
 grind [mY]
theorem cS.mono {g g':aL}(aP:∀ t x,g t=some x->g' t=some x) {x:ab}(h:cS g x):cS g' x:=by
 induction h with
 | bk h=>exact .bk h
 | ref J h=>exact .ref J (h.mono aP)
 | own _ aM=>exact .own aM
 | obj _ aM=>exact .obj aM
 | agg _ aM=>exact .agg aM
 | bS _ aM=>exact .bS aM
 | cD _ _ gh fQ=>exact .cD gh fQ
 | bL aq _ aM=>exact .bL (aq.mono aP) aM
theorem Np {lL g1:aL}{o:Oper}{S:Nat->Bool}{rs:Place->Prop}(h:nf P N rs lL o g1) (lp:∀ p,rs p->lL p.root≠none):∀ (U:Acc),(∀ e∈U,∃ x,e.2.2=some x/\wG rs lL g1 o x)->(∀ e∈U,lL e.2.1=none/\g1 e.2.1=none/\o.dst≠some e.2.1)->(U.map (·.2.1)).Nodup->nf P N rs (dr lL S U) o (dr g1 S U)
 | [],_,_,_=>h
 | (k,d,r)::U,J,h1,eA=>by
  simp only [List.map_cons,List.nodup_cons] at eA;have aM:=Np (S:=S) h lp U (λe he=>J e (by simp [he])) (λe he=>h1 e (by simp [he])) eA.2;obtain ⟨x,e,bU⟩:=J (k,d,r) (by simp);simp only at e;subst e;obtain ⟨av,a2,a3⟩:=h1 (k,d,some x) (by simp);simp only at av a2 a3;have rj:∀ e∈U,e.2.1≠d:=λe he aJ=>eA.1 (List.mem_map.2 ⟨e,he,aJ⟩);cases bh:S k with
  | true =>
   have e:∀ g:aL,dr g S ((k,d,some x)::U)=cR (dr g S U) d x:=λg=>by
    funext t;simp only [dr,cR,bh,if_true];by_cases aO:d=t
    ·rw [if_pos aO,if_pos aO.symm]
    ·rw [if_neg aO,if_neg (Ne.symm aO)]
   rw [e,e];have Gi:∀ r,lL r≠none->∀ e∈U,e.2.1≠r:=λr hr e he aJ=>by
    have:=(h1 e (by simp [he])).1;rw [aJ] at this;exact hr this
   have Zr:∀ r,g1 r≠none->∀ e∈U,e.2.1≠r:=λr hr e he aJ=>by
    have:=(h1 e (by simp [he])).2.1;rw [aJ] at this;exact hr this
   refine aM.extra (λr hr=>by rw [mY (Gi r.root (lp r hr))]; exact lp r hr) (by rw [mY rj]; exact av) (by rw [mY rj]; exact a2) a3 ?_;rcases bU with ⟨r,path,z,n,y4,cs,rfl,gR,iu,lG,EY⟩ | ⟨v,rfl⟩ | ⟨s,p,m,rfl,gR,iu,lG⟩ | ⟨s,m,cs,rfl,gR,iu,lG,cs',EY,Tj⟩ | ⟨z,n,cs,rfl,gR⟩ | ⟨cs,rfl,gR,iu⟩
   ·refine .inl ⟨r,path,z,n,y4,cs,rfl,gR,?_,?_,EY⟩
    ·have:lL r≠none:=lp _ gR;simpa [bG,mY (Gi r this)] using iu
    ·have:g1 r≠none:=λe=>by simp [bG,e] at lG
     simpa [bG,mY (Zr r this)] using lG
   ·exact .inr (.inl ⟨v,rfl⟩)
   ·refine .inr (.inr (.inl ⟨s,p,m,rfl,?_,?_,lG⟩))
    ·rw [mY]; exact gR;intro e he aJ;have:=(h1 e (by simp [he])).1;rw [aJ,gR] at this; cases this
    ·rw [mY]; exact iu;intro e he aJ;have:=(h1 e (by simp [he])).2.1;rw [aJ,iu] at this; cases this
   ·refine .inr (.inr (.inr (.inl ⟨s,m,cs,rfl,?_,iu,lG,cs',?_,Tj⟩)))
    ·rw [mY]; exact gR;intro e he aJ;have:=(h1 e (by simp [he])).2.1;rw [aJ,gR] at this; cases this
    ·rw [mY (Gi s (by rw [EY]; simp))]; exact EY
   ·exact .inr (.inr (.inr (.inr (.inl ⟨z,n,cs,rfl,gR⟩))))
   ·refine .inr (.inr (.inr (.inr (.inr ⟨cs,rfl,gR,?_⟩))));have hle:∀ t y,lL t=some y->dr lL S U t=some y:=λt y ao=>by rw [mY (Gi t (by rw [ao]; simp))]; exact ao
    refine ⟨λt y ao=>?_,λt z q n m new ao=>?_⟩
    ·rcases uV ao with ⟨b1,h8,_,_,Js⟩ | ⟨_,ao⟩
     ·obtain ⟨y',BN,CH⟩:=J b1 (by simp [h8]);rw [Js] at BN; cases BN;rcases CH with ⟨r,path,z,n,y4,cs,rfl,c1,c2,kz,c4⟩ | ⟨v,rfl⟩ | ⟨s,p,m,rfl,c1,_⟩ | ⟨s,m,cs,rfl,_,_,_,cs',c4,jD⟩ | ⟨z,n,cs,rfl,c1⟩ | ⟨cs,rfl,c1,_⟩
      ·exact .ref rfl (.inl ⟨y4,cs,kV hle c2,c4⟩)
      ·exact .bk .lit
      ·exact cS.mono hle (iu.bY s _ c1)
      ·exact .ref rfl ⟨.obj cs',by simp [bG,hle s _ c4,ab.at],0,0,cs',.inr rfl,jD⟩
      ·exact .bk c1
      ·exact .bk c1.bk
     ·exact cS.mono hle (iu.bY t y ao)
    ·rcases uV ao with ⟨b1,h8,_,_,Js⟩ | ⟨_,ao⟩
     ·obtain ⟨y',BN,CH⟩:=J b1 (by simp [h8]);rw [Js] at BN; cases BN;rcases CH with ⟨r,path,z,n,y4,cs,h,_⟩ | ⟨v,h⟩ | ⟨s,p,m,h,_⟩ | ⟨s,m,cs,h,_⟩ | ⟨z,n,cs,h,_⟩ | ⟨cs,h,_⟩ <;> cases h
     ·exact iu.fE _ _ _ _ _ _ ao
  | false =>
   have e:∀ g:aL,g d=none->dr g S ((k,d,some x)::U)=dr g S U:=λg aP=>by
    funext t;simp only [dr,bh];by_cases aO:d=t
    ·subst aO; rw [if_pos rfl,mY rj,aP]; rfl
    ·rw [if_neg aO]
   rw [e lL av,e g1 a2];exact aM
theorem Qw (dI:qd ops bj=true) {g0:aL}{i j:Nat}{acc dA:Acc}(aw:iD P N ops bj g0 i dA j acc) (bQ:ni P N ops bj g0 i dA) (gN:(acc.filterMap k7).Nodup) (fL:∀ t z q n m new,g0 t≠some (.bL z q n m new)) {listed:Array Bool}(fz:listed.size=ops.size) (aO:Down bj listed)
  {a:Act}{w:World}{I:a'}{Fs:Nat->a'}(bh:cA w I a.tmps (dr g0 (ek listed) acc) Fs) (bp:a.tmps.size=N.size) {e:Nat × Nat × Option ab}(he:e∈acc) (hk:e.1∈Region.ready .any ops listed) {K:Act->World->Prop}{Q:Exit->Act->World->Prop}
  (cZ:∀ b' w' I' bV,b'.defers=a.defers->ib N a.tmps b'.tmps->cA w' I' b'.tmps (dr g0 (ek (listed.setIfInBounds e.1 true)) acc) bV->kS w I (λc=>∃ t,Fs t c) w' I' (λc=>∃ t,bV t c)->K b' w'):wpOp P ops Q e.1 K a w:=by
 obtain ⟨dq,lW,xu,_⟩:=yn hk;have zH:=(Array.getElem?_eq_some_iff.1 xu).1;have Ca:=Li dI aO hk;obtain ⟨o,EP,aW,xt,km,bU,hA⟩:=aw.get bQ e he;obtain ⟨k,d,r⟩:=e;simp only at *;have hle:oV (dr g0 (λm=>(bj.getD k []).contains m) EP) (dr g0 (ek listed) acc):=by
  intro t x J;rcases uV J with ⟨e,he,rfl,Fg,hex⟩ | ⟨rj,aP⟩
  ·rw [aw.at_mem bQ (hA e he),Ca e.1 (by simpa using Fg)];exact hex
  ·rw [mY λe he aeU=>?_]
   ·exact aP
   ·have:=aw.fresh bQ e he
    grind
 have eH:∀ z p n m new,r=some (.bL z p n m new)->∀ t bR cr m' cL,dr g0 (ek listed) acc t≠some (.bL bR p cr m' cL):=by
  intro z p n m new hr t bR cr m' cL ar;rcases uV ar with ⟨e,h8,_,Fg,hex⟩ | ⟨_,aP⟩
  ·obtain ⟨j8,Nd,c'⟩:=e;have:=ZI gN (p:=p) he h8 (by rw [hr]; rfl) (by simp only at hex; rw [hex]; rfl)
   grind
  grind
 have CH:=bU.mono hle eH;have pK:dr g0 (ek listed) acc d=none:=by
  have:=aw.at_mem bQ (A:=ek listed) he
  grind
 unfold wpOp;simp only [aW];refine CH.sound bh rfl bp xt pK km λb' w' aB=>?_;obtain ⟨b9,b3,I',bV,dM,n1⟩:=aB;have fK:∀ j,ek (listed.setIfInBounds k true) j=if j=k then true else ek listed j:=λj=>EE (by omega)
 have cY:dr g0 (ek (listed.setIfInBounds k true)) acc=yl (dr g0 (ek listed) acc) d r:=by
  funext t;by_cases vF:t=d
  ·subst vF;have h1:=aw.at_mem bQ (A:=ek (listed.setIfInBounds k true)) he;simp only [fK k,if_true] at h1;rw [h1];cases r with
   | none=>simp only [yl]; exact pK.symm
   | some x=>simp [yl,cR]
  ·have h1:dr g0 (ek (listed.setIfInBounds k true)) acc t=dr g0 (ek listed) acc t:=Eh λe h8 het=>by
    rw [fK e.1,if_neg];intro Xf;have:=aw.uniq bQ h8 he (.inl Xf)
    grind
   rw [h1];cases r with
   | none=>rfl
   | some x=>simp [yl,cR,vF]
 grind
theorem Ik (dI:qd ops bj=true) {listed:Array Bool}(fz:listed.size=ops.size) (aO:Down bj listed) {k:Nat}(hk:k∈Region.ready .any ops listed):Down bj (listed.setIfInBounds k true):=by
 obtain ⟨dq,lW,xu,_⟩:=yn hk;have zH:=(Array.getElem?_eq_some_iff.1 xu).1;have Ca:=Li dI aO hk;have fK:∀ q,ek (listed.setIfInBounds k true) q=if q=k then true else ek listed q:=λq=>EE (by omega)
 intro m hm q a8;rw [fK] at hm ⊢;split
 ·rfl
 ·split at hm
  ·grind
  ·exact aO m hm q a8
theorem iD.entry {g0:aL}{i j:Nat}{acc dA:Acc}(aw:iD P N ops bj g0 i dA j acc) {listed:Array Bool}(aN:∀ k,k<i->(∀ e∈dA,e.1≠k)->ek listed k=true) {k:Nat}(Ft:k<j) (dq:ek listed k=false):∃ e∈acc,e.1=k:=by
 rcases Nat.lt_or_ge k i with h | h
 ·rcases Classical.em (∃ e∈dA,e.1=k) with ⟨e,he,aJ⟩ | aJ
  ·exact ⟨e,aw.LF e he,aJ⟩
  grind
 ·exact aw.has k h Ft
theorem sP.sound (dI:qd ops bj=true) {i:Nat}{dA:Acc}{g g':aL}(h:sP P N ops bj i dA g g'):ni P N ops bj g i dA->∀ {Q:Exit->Act->World->Prop}(fuel:Nat) (listed:Array Bool) (a:Act) (w:World) (I:a') (Fs:Nat->a'),vc ops listed<=fuel->listed.size=ops.size->(∀ k,k<i->(∀ e∈dA,e.1≠k)->ek listed k=true)->(∀ k,i<=k->ek listed k=false)->Down bj listed ->
  cA w I a.tmps (dr g (ek listed) dA) Fs->a.tmps.size=N.size->(∀ b' w',ka N a w I Fs g' b' w'->Q .normal b' w')->wpAny P .any ops Q fuel listed a w:=by
 have start:∀ {g:aL}{i j:Nat}{acc dA:Acc}{listed:Array Bool},iD P N ops bj g i dA j acc->ni P N ops bj g i dA->(∀ k,i<=k->ek listed k=false)->dr g (ek listed) acc=dr g (ek listed) dA:=by
  intro g i j acc dA listed aw bQ dF;funext t;by_cases hex:∃ e∈acc,e.2.1=t
  ·obtain ⟨e,he,rfl⟩:=hex;rw [aw.at_mem bQ he];rcases aw.ge bQ e he with h | h
   ·rw [LO (λx J y ao aJ=>bQ.RA x J y ao (.inr aJ)) h]
   ·rw [dF e.1 h];by_cases Ou:∃ b1∈dA,b1.2.1=e.2.1
    ·obtain ⟨b1,h8,aJ⟩:=Ou;have:=aw.uniq bQ (aw.LF b1 h8) he (.inr aJ);subst this;have:=bQ.lt b1 h8;omega
    ·rw [mY λb1 h8 aJ=>Ou ⟨b1,h8,aJ⟩,aw.fresh bQ e he]; rfl
  ·rw [mY λe he h=>hex ⟨e,he,h⟩,mY λe he h=>hex ⟨e,aw.LF e he,h⟩]
 induction h with
 | @fin i dA g acc aw gN fL =>
  intro bQ Q fuel listed a w I Fs aa fz aN dF aO bh bp eu;rw [<- start aw bQ dF] at bh;clear dF;revert listed a w I Fs
  induction fuel with
  | zero =>
   intro listed a w I Fs aa fz aN aO bh bp eu;have hg:∀ k,k<ops.size->ek listed k=true:=λk hk=>by
    cases ah:ek listed k with
    | true=>rfl
    | false=>have:=E5 (ops:=ops) (listed:=listed) (k:=k) hk ah fz; omega
   refine wpAny_done ?_ (eu _ _ ⟨rfl,ib.refl,I,Fs,?_,kS.refl _ _ _⟩) 0
   ·cases hr:Region.ready .any ops listed with
    | nil=>rfl
    | cons k l =>
     have hk:k∈Region.ready .any ops listed:=by rw [hr]; simp
     obtain ⟨dq,o,aW,_⟩:=yn hk
     grind
   ·have:dr g (ek listed) acc=dr g (λ_=>true) acc:=funext λt=>Eh λe he _=>hg e.1 ((aw.le bQ).2 e he)
    grind
  | succ fuel aM =>
   intro listed a w I Fs aa fz aN aO bh bp eu;by_cases hg:∀ k,k<ops.size->ek listed k=true
   ·refine wpAny_done ?_ (eu _ _ ⟨rfl,ib.refl,I,Fs,?_,kS.refl _ _ _⟩) _
    ·cases hr:Region.ready .any ops listed with
     | nil=>rfl
     | cons k l =>
      have hk:k∈Region.ready .any ops listed:=by rw [hr]; simp
      obtain ⟨dq,o,aW,_⟩:=yn hk
      grind
    ·have:dr g (ek listed) acc=dr g (λ_=>true) acc:=funext λt=>Eh λe he _=>hg e.1 ((aw.le bQ).2 e he)
     grind
   ·obtain ⟨k0,nx⟩:=Classical.not_forall.1 hg;obtain ⟨Xr,Xs⟩:=Classical.not_imp.1 nx;refine ⟨λhr=>absurd hr (QA dI fz k0 Xr (by simpa using Xs)),λk hk=>?_⟩;obtain ⟨dq,lW,xu,_⟩:=yn hk;have zH:=(Array.getElem?_eq_some_iff.1 xu).1;obtain ⟨e,he,rfl⟩:=aw.entry aN zH dq;have W5:=E5 (ops:=ops) (listed:=listed) (k:=e.1) zH dq fz;refine Qw dI aw bQ gN fL fz aO bh bp he hk λb' w' I' bV b9 b3 dM n1=>?_;refine aM _ b' w' I' bV (by omega) (by simpa using fz) (λm hm cO=>?_) (Ik dI fz aO hk) dM (b3.1.trans bp) λa2 hs af=>eu _ _ (ka.trans b9 b3 n1 af)
    grind [EE]
 | @Bs i j g g1 g' dA acc U o rs aw gN fL aW hw he lp fi J h1 af au _ YJ =>
  intro bQ Q fuel listed a w I Fs aa fz aN dF aO bh bp eu;have Fq:j<ops.size:=(Array.getElem?_eq_some_iff.1 aW).1;have xf:∀ k,j<k->k<ops.size->j∈bj.getD k []:=λk hk zH=>by
   grind
  have Cq:∀ e∈U,e∈acc/\(bj.getD j []).contains e.1=false:=λe he=>by
   grind
  have eA:(U.map (·.2.1)).Nodup:=by
   rw [fi];exact (List.filter_sublist.map _).nodup (aw.nodup bQ)
  have Xi:∀ e∈U,dr g (λm=>(bj.getD j []).contains m) acc e.2.1=none:=λe he=>by
   rw [aw.at_mem bQ (Cq e he).1,(Cq e he).2];rfl
  have B1:ni P N ops bj g1 (j+1) U:=⟨λe he=>by have:=(aw.le bQ).2 e (Cq e he).1; omega,λe he=>(h1 e he).1,eA,λe he b1 h8 h=>aw.uniq bQ (Cq e he).1 (Cq b1 h8).1 h,af⟩;have aeY:∀ k,j<=k->ek listed k=false:=λk hk=>dF k (Nat.le_trans (aw.le bQ).1 hk);rw [<- start aw bQ dF] at bh;clear dF;revert listed a w I Fs
  induction fuel with
  | zero =>
   intro listed a w I Fs aa fz aN aO bh bp eu dF;have:=E5 (ops:=ops) (listed:=listed) (k:=j) Fq (dF j (Nat.le_refl _)) fz;omega
  | succ fuel YI =>
   intro listed a w I Fs aa fz aN aO bh bp eu dF;have ez:=dF j (Nat.le_refl _);refine ⟨λhr=>absurd hr (QA dI fz j Fq ez),λk hk=>?_⟩;obtain ⟨dq,lW,xu,_⟩:=yn hk;have zH:=(Array.getElem?_eq_some_iff.1 xu).1;have Ca:=Li dI aO hk;have fK:∀ q,ek (listed.setIfInBounds k true) q=if q=k then true else ek listed q:=λq=>EE (by omega)
   have W5:=E5 (ops:=ops) (listed:=listed) (k:=k) (by omega) dq fz;rcases Nat.lt_trichotomy k j with Ft | rfl | Ft
   ·obtain ⟨e,Ot,rfl⟩:=aw.entry aN Ft dq;refine Qw dI aw bQ gN fL fz aO bh bp Ot hk λb' w' I' bV b9 b3 dM n1=>?_;refine YI _ b' w' I' bV (by omega) (by simpa using fz) (λm hm cO=>?_) (Ik dI fz aO hk) dM (b3.1.trans bp) (λa2 hs af=>eu _ _ (ka.trans b9 b3 n1 af)) λm hm=>?_
    ·grind
    grind
   ·have Vf:=abw (A:=λm=>(bj.getD k []).contains m) (S:=ek listed) aw bQ fi λe he dI=>Ca e.1 (by simpa using dI);have XP:∀ r:Place,rs r->dr g (λm=>(bj.getD k []).contains m) acc r.root≠none:=λr hr=>by
     rw [mY]
     ·grind
     ·intro e he aJ;have:=aw.fresh bQ e he
      grind
    have Xe:=Np (S:=ek listed) he XP U J (λe he=>⟨Xi e he,h1 e he⟩) eA;have hle:oV (dr g (λm=>(bj.getD k []).contains m) acc) (dr g (ek listed) acc):=by
     intro t x J;rcases uV J with ⟨e,he,rfl,Fg,hex⟩ | ⟨rj,aP⟩
     ·rw [aw.at_mem bQ he,Ca e.1 (by simpa using Fg)]; exact hex
     grind [mY]
    unfold wpOp;simp only [aW,(iE.mono hle hw).sound bh,if_true];refine .inl (Xe w I a.tmps Fs (by rw [<- Vf]; exact bh) a rfl bp _ _ λb' w' aB _ _=>?_);obtain ⟨b9,b3,I',bV,dM,n1⟩:=aB;refine YJ B1 fuel (listed.setIfInBounds k true) b' w' I' bV (by omega) (by simpa using fz) (λm hm cO=>?_) (λm hm=>?_) (Ik dI fz aO hk) ?_ (b3.1.trans bp) λa2 hs af=>eu _ _ (ka.trans b9 b3 n1 af)
    ·rw [fK];split
     ·rfl
     ·rename_i afa;cases vA:ek listed m with
      | true=>rfl
      | false =>
       exfalso;obtain ⟨e,Ot,rfl⟩:=aw.entry aN (show m<k by omega) vA
       grind
    ·grind
    ·have:dr g1 (ek (listed.setIfInBounds k true)) U=dr g1 (ek listed) U:=funext λt=>Eh λe he _=>by
      grind
     grind
   grind
end
section
variable {P:Program}{N:cN}
def lB (P:Program) (N:cN) (c:Code) (g:aL) (e:Exit) (g':aL):Prop :=
 ∀ ⦃Q:Exit->Act->World->Prop⦄ ⦃a:Act⦄ ⦃w:World⦄ ⦃I:a'⦄ ⦃Fs:Nat->a'⦄,cA w I a.tmps g Fs->a.tmps.size=N.size->(∀ b' w',ka N a w I Fs g' b' w'->Q e b' w')->c.wp P Q a w
theorem lB.skip {g:aL}:lB P N .skip g .normal g:=λ_ _ _ _ _ bh _ eu=>wp_skip (eu _ _ ⟨rfl,ib.refl,_,_,bh,kS.refl _ _ _⟩)
theorem lB.ret {g:aL}:lB P N .ret g .ret g:=λ_ _ _ _ _ bh _ eu=>wp_ret (eu _ _ ⟨rfl,ib.refl,_,_,bh,kS.refl _ _ _⟩)
theorem lB.exit {g:aL}{id:Nat}:lB P N (.exit id) g (.exit id) g:=λ_ _ _ _ _ bh _ eu=>wp_exit (eu _ _ ⟨rfl,ib.refl,_,_,bh,kS.refl _ _ _⟩)
def Hs (P:Program) (c:Code) (Q:Exit->Act->World->Prop) (a:Act) (w:World):Prop :=
 ∀ (b:Frame) (k:List Item) (cs:List Frame),∃ e b' w',Q e b' w'/\Arrives P (lone (b.at a (.code c::.inLoop c::k)) cs w) b k cs e b' w'
theorem Y0 {c:Code}{Q:Exit->Act->World->Prop}{a:Act}{w:World}(h:c.wp P (Exit.then (Hs P c Q) Q) a w):Hs P c Q a w:=by
 intro b k cs;obtain ⟨e,Br,Em,a8,kZ⟩:=h b (.inLoop c::k) cs;cases e with
 | normal =>
  obtain ⟨Vg,Ti,abW,XM,Wz⟩:=a8 b k cs;exact ⟨Vg,Ti,abW,XM,.of_steps (Steps.trans kZ (.one step_inLoop)) Wz⟩
 | exit id=>exact ⟨_,Br,Em,a8,.pass (x:=.inLoop c) rfl (λ_ _=>.inl (by simp)) kZ⟩
 | goto l=>exact ⟨_,Br,Em,a8,.pass (x:=.inLoop c) rfl (λ_ _=>.inl (by simp)) kZ⟩
 | ret=>exact ⟨_,Br,Em,a8,.pass (x:=.inLoop c) rfl (λ_ _=>.inl (by simp)) kZ⟩
 | panic bZ=>exact ⟨_,Br,Em,a8,.pass (x:=.inLoop c) rfl (λ_ _=>.inl (by simp)) kZ⟩
 | outgrown=>exact ⟨_,Br,Em,a8,.pass (x:=.inLoop c) rfl (λ_ _=>.inl (by simp)) kZ⟩
theorem lB.region {id:Nat}{ops:Array Oper}{g g':aL}(h:oY P N ops (List.range ops.size) g g'):lB P N (.region id ops false) g .normal g' :=
 λ_ _ _ _ _ bh bp eu=>wp_region (h.sound bh bp eu)
theorem lB.draw {id:Nat}{ops:Array Oper}{bj:List (List Nat)}{g g':aL}(hm:P.follows .mixedOrders=true) (dI:qd ops bj=true) (h:sP P N ops bj 0 [] g g'):lB P N (.region id ops true) g .normal g':=by
 intro Q a w I Fs bh bp eu;refine wp_region_any hm ?_;have dM:cA w.drew I a.tmps g Fs:=bh.world (λ_ _ _=>rfl) (λ_ _=>rfl) (Nat.le_refl _);have hg:∀ k,ek (Array.replicate ops.size false) k=false:=by
  intro k;unfold ek;rcases Nat.lt_or_ge k ops.size with h | h
  ·simp [h]
  grind
 refine h.sound dI .nil ops.size (Array.replicate ops.size false) a w.drew I Fs ?_ (by simp) (λk hk=>by omega) (λk _=>hg k) (λk hk=>by rw [hg] at hk; cases hk) dM bp λb' w' aB=>eu _ _ ?_
 ·grind [vc]
 ·obtain ⟨b9,b3,I',bV,h7,bU⟩:=aB;exact ⟨b9,b3,I',bV,h7,⟨⟨bU.dK.os,bU.dK.tape,bU.dK.output,bU.dK.size,bU.dK.block,bU.dK.dL,Nat.le_trans (Nat.le_succ _) bU.dK.zu⟩,bU.more,bU.new,bU.own⟩⟩
inductive nN:ab->ab->Prop
 | refl {x:ab}:nN x x
 | dead {x:ab}(h:jV x\/cC x):nN x .dead
 | pV {z:Nat}:nN .aQ (.own z 0 [])
 | pU {z:Nat}:nN .aQ (.bd z 0 [])
 | obj {cs cs':List ab}(ah:cs'.length=cs.length) (h:∀ (k:Nat) (x y:ab),cs[k]?=some x->cs'[k]?=some y->nN x y):nN (.obj cs) (.obj cs')
 | own {z n:Nat}{cs cs':List ab}(ah:cs'.length=cs.length) (h:∀ (k:Nat) (x y:ab),cs[k]?=some x->cs'[k]?=some y->nN x y):nN (.own z n cs) (.own z n cs')
theorem nN.js {x y:ab}{j:Nat × Nat}(h:nN x y) (e:y=.self j):x=.self j:=by
 cases h <;> first | exact e | cases e
theorem R.e5 {w:World}{I:a'}{ρ:ab->Value->Prop}{x x':ab}(h:nN x x'):∀ {v:Value}{F:a'},R w I ρ x v F->∃ cQ,R w I ρ x' v cQ/\∀ c,cQ c->F c:=by
 induction h with
 | refl=>exact λaY=>⟨_,aY,λ_ h=>h⟩
 | dead=>exact λaY=>⟨cj,.dead λ_ h=>h,λ_ h=>h.elim⟩
 | pV =>
  intro v F aY;rw [aY.ru];exact ⟨cj,.own (e:=0) (us:=[]) (Fs:=λ_=>cj) ⟨by simp,.inl ⟨rfl,rfl⟩⟩ rfl (by simp) (by simp) (λ_ _ _ _ _ h=>h.elim) (λ_ _ _ h=>h.elim) λc=>⟨λh=>h.elim,λh=>h.elim (λh=>by simp [Value.ownBlock] at h) λ⟨_,_,h⟩=>h⟩,λ_ h=>h.elim⟩
 | pU=>intro v F aY; rw [aY.ru]; exact ⟨cj,.gG λ_ h=>h,λ_ h=>h.elim⟩
 | @obj cs cs' ah sm aM =>
  intro v F aY;cases aY with
  | ref J=>simp [ab.isRef] at J
  | @obj _ b e arr bH _ aW hL h1 hr aO au aH aw =>
   have:∀ k,∃ tx:a',k<cs.length->(∀ (x:ab) (u:Value),cs'[k]?=some x->arr[k]?=some u->R w I ρ x u tx)/\∀ c,tx c->bH k c:=by
    intro k;by_cases hk:k<cs.length
    ·have J:=List.getElem?_eq_getElem hk;have ao:cs'[k]?=some (cs'[k]'(by omega)):=List.getElem?_eq_getElem (by omega);have hu:arr[k]?=some (arr[k]'(by omega)):=Array.getElem?_eq_getElem (by omega);obtain ⟨cQ,h1,af⟩:=aM k _ _ J ao (hr k _ _ J hu);refine ⟨cQ,λ_=>⟨λx u e8 hU=>?_,af⟩⟩;rw [ao] at e8; rw [hu] at hU;cases e8; cases hU;exact h1
    ·exact ⟨cj,λh=>absurd h hk⟩
   obtain ⟨tx,r_⟩:=Classical.axiomOfChoice this;refine ⟨_,.obj (Fs:=tx) aW (by omega) h1 (λk x u J hu=>(r_ k (by rw [<- ah]; exact (List.getElem?_eq_some_iff.1 J).1)).1 x u J hu) (λj k c ag hk h aJ=>aO j k c (by omega) (by omega) ((r_ j (by omega)).2 c h) ((r_ k (by omega)).2 c aJ)) (λk hk h=>au k (by omega) ((r_ k (by omega)).2 b h)) (λc=>Iff.rfl) (λk j u hk=>aw k j u (Gc ah sm (λ_ _ _=>nN.js) k j hk)),λc aa=>?_⟩;rcases aa with rfl | ⟨k,hk,h⟩
   ·exact (aH _).2 (.inl rfl)
   ·exact (aH c).2 (.inr ⟨k,by omega,(r_ k (by omega)).2 c h⟩)
 | @own z n cs cs' ah _ aM =>
  intro v F aY;cases aY with
  | ref J=>simp [ab.isRef] at J
  | @own _ _ _ _ e us bH _ aW hL h1 hr aO au aH =>
   have:∀ k,∃ tx:a',k<cs.length->(∀ (x:ab) (u:Value),cs'[k]?=some x->us[k]?=some u->R w I ρ x u tx)/\∀ c,tx c->bH k c:=by
    intro k;by_cases hk:k<cs.length
    ·have J:=List.getElem?_eq_getElem hk;have ao:cs'[k]?=some (cs'[k]'(by omega)):=List.getElem?_eq_getElem (by omega);have hu:us[k]?=some (us[k]'(by omega)):=List.getElem?_eq_getElem (by omega);obtain ⟨cQ,h1,af⟩:=aM k _ _ J ao (hr k _ _ J hu);refine ⟨cQ,λ_=>⟨λx u e8 hU=>?_,af⟩⟩;rw [ao] at e8; rw [hu] at hU;cases e8; cases hU;exact h1
    ·exact ⟨cj,λh=>absurd h hk⟩
   obtain ⟨tx,r_⟩:=Classical.axiomOfChoice this;refine ⟨_,.own (Fs:=tx) aW (by omega) h1 (λk x u J hu=>(r_ k (by rw [<- ah]; exact (List.getElem?_eq_some_iff.1 J).1)).1 x u J hu) (λj k c ag hk h aJ=>aO j k c (by omega) (by omega) ((r_ j (by omega)).2 c h) ((r_ k (by omega)).2 c aJ)) (λk c hk h=>au k c (by omega) ((r_ k (by omega)).2 c h)) (λc=>Iff.rfl),λc aa=>?_⟩;rcases aa with aa | ⟨k,hk,h⟩
   ·exact (aH _).2 (.inl aa)
   ·exact (aH c).2 (.inr ⟨k,by omega,(r_ k (by omega)).2 c h⟩)
structure np (g1 g2:aL):Prop where
 sub:∀ t x,g2 t=some x->∃ y,g1 t=some y/\nN y x
 bY:∀ t x,g2 t=some x->cS g2 x
 fE:∀ t z q n m new,g2 t≠some (.bL z q n m new)
theorem cA.e5 {w:World}{I:a'}{T:Array Value}{g1 g2:aL}{Fs:Nat->a'}(h:cA w I T g1 Fs) (hk:np g1 g2):∃ bV,cA w I T g2 bV/\∀ t c,bV t c->Fs t c:=by
 have:∀ t,∃ cQ:a',(∀ x,g2 t=some x->∃ v,T[t]?=some v/\R w I (dy w T g2) x v cQ)/\(∀ c,cQ c->Fs t c)/\(g2 t=none->∀ c,¬ cQ c):=by
  intro t;cases J:g2 t with
  | none=>exact ⟨cj,by simp,λ_ h=>h.elim,λ_ _ h=>h⟩
  | some x =>
   obtain ⟨y,ao,hw⟩:=hk.sub t x J;obtain ⟨v,hv,aY⟩:=h.mX.rel t y ao;have ll:∀ z q n m new,y≠.bL z q n m new:=by
    rintro z q n m new rfl;cases hw with
    | refl=>exact hk.fE _ _ _ _ _ _ J
    | dead bP=>rcases bP with bP | bP <;> cases bP
   obtain ⟨cQ,h6,oD⟩:=R.e5 hw (aY.gp ll);exact ⟨cQ,λx' e8=>by cases e8; exact ⟨v,hv,h6.bY (hk.bY t x J)⟩,oD,by simp⟩
 obtain ⟨bV,pF⟩:=Classical.axiomOfChoice this;refine ⟨bV,⟨λt x J=>?_,λt ar=>(pF t).2.2 ar,λt t' c h1 af=>h.d_ _ _ _ ((pF t).2.1 c h1) ((pF t').2.1 c af),λt c aa=>h.bd _ _ ((pF t).2.1 c aa),h.lt,λt t' z p n m new _ _ _ _ h1=>absurd h1 (hk.fE _ _ _ _ _ _),h.hP⟩,λt=>(pF t).2.1⟩;obtain ⟨v,hv,aY⟩:=(pF t).1 x J;exact ⟨v,hv,.tree aY⟩
end
inductive Bl (P:Program) (g:aL):ResultVar->ab->Prop
 | tmp {t:Nat}{y:ab}(h:bs g (.tmp t)=some y):Bl P g (.tmp t) y
 | cell {a:Nat}{t ty:TypeId}{y:ab}(h:df P g (.load t (.tmp a)) ty y):Bl P g (.cell a t) y
inductive tF (P:Program) (g:aL):List ResultVar->List ab->Prop
 | nil:tF P g [] []
 | cons {r:ResultVar}{rs:List ResultVar}{y:ab}{ys:List ab}(h:Bl P g r y) (ar:tF P g rs ys):tF P g (r::rs) (y::ys)
def pX:List ab->ab
 | [x]=>x
 | l=>.bS l
def yo:List Value->Value
 | [x]=>x
 | l=>.tuple l.toArray
def wh (tmps:Array Value):ResultVar->Sem Value
 | .tmp t=>pure (tmps.getD t undef)
 | .cell a t=>do loadVar t (<- asAddr (tmps.getD a undef))
section
variable {P:Program}{w:World}{I:a'}{g:aL}{Fs:Nat->a'}
theorem Bl.run {a:Act}(h:cA w I a.tmps g Fs) {r:ResultVar}{y:ab}(hr:Bl P g r y):∃ v,(wh a.tmps r).run P w=.ok v w/\R w I (dy w a.tmps g) y v cj:=by
 cases hr with
 | @tmp t y h1=>exact ⟨_,rfl,j9 h h1 rfl⟩
 | @cell a0 t ty y h1 =>
  obtain ⟨v, hv, aY⟩ := df.sound h rfl (o := { dst := none, op := .load t (.tmp a0), type := ty, pos := "", after := #[], guard := none }) h1;refine ⟨v,?_,aY⟩;have he:a.eval (.tmp a0)=a.tmps.getD a0 undef:=rfl;simp only [execOp,he] at hv;cases aa:a.tmps.getD a0 undef with
  | pointer ad =>
   cases ad with
   | some ad =>
    rw [aa] at hv;simp only [Instr.loadAt,Instr.sureAddr] at hv;simp only [wh,aa,asAddr];have aq:(pure ad >>= λx=>loadVar t x:Sem Value)=loadVar t ad:=by simp
    rw [aq];revert hv;generalize a8:loadVar t ad=q;intro hv;simp [a8] at hv;cases FB:q.run P w with
    | ok x hs=>rw [FB] at hv; simp at hv; rw [hv.1,hv.2]
    | halt e hs=>rw [FB] at hv; simp at hv
   | none=>rw [aa] at hv; simp [Instr.loadAt,Instr.sureAddr] at hv
  | _=>rw [aa] at hv; simp [Instr.loadAt,Instr.sureAddr] at hv
theorem QQ {f:ResultVar->Sem Value}:∀ (l:List ResultVar) (vs:List Value),l.length=vs.length->(∀ (k:Nat) (r:ResultVar) (v:Value),l[k]?=some r->vs[k]?=some v->(f r).run P w=.ok v w)->(l.mapM f).run P w=.ok vs w
 | [],[],_,_=>rfl
 | r::l,v::vs,ah,h=>by
  have aK:=h 0 r v rfl rfl;have h1:=QQ l vs (by simpa using ah) λk r v hr hv=>h (k+1) r v (by simpa using hr) (by simpa using hv);simp [List.mapM_cons,aK,h1]
 | [],_::_,ah,_=>by simp at ah
 | _::_,[],ah,_=>by simp at ah
theorem aaq {fn:Func}{tmps:Array Value}{vs:List Value}(ah:fn.results.toList.length=vs.length) (h:∀ (k:Nat) (r:ResultVar) (v:Value),fn.results.toList[k]?=some r->vs[k]?=some v->(wh tmps r).run P w=.ok v w):(results fn tmps).run P w=.ok (yo vs) w:=by
 have h1:=QQ fn.results.toList vs ah h;have af:fn.results.mapM (wh tmps)=List.toArray <$> fn.results.toList.mapM (wh tmps):=Array.mapM_eq_mapM_toList;have aD:(fn.results.mapM (wh tmps)).run P w=.ok vs.toArray w:=by rw [af]; simp [h1]
 have bm:results fn tmps=(do let vs <- fn.results.mapM (wh tmps); pure (if h:vs.size=1 then vs[0] else .tuple vs)):=by
  unfold results;congr 1
 rw [bm];simp only [Sem.run_bind,aD]
 match vs with
 | []=>rfl
 | [x]=>rfl
 | x::y::l=>simp [yo]
theorem tF.length {g:aL}{rs:List ResultVar}{ys:List ab}(h:tF P g rs ys):rs.length=ys.length:=by
 induction h with
 | nil=>rfl
 | cons _ _ aM=>simp [aM]
theorem tF.run {a:Act}(h:cA w I a.tmps g Fs) {rs:List ResultVar}{ys:List ab}(hr:tF P g rs ys):∃ vs:List Value,rs.length=vs.length/\(∀ (k:Nat) (r:ResultVar) (v:Value),rs[k]?=some r->vs[k]?=some v->(wh a.tmps r).run P w=.ok v w) /\
  ∀ (k:Nat) (y:ab) (v:Value),ys[k]?=some y->vs[k]?=some v->R w I (dy w a.tmps g) y v cj:=by
 induction hr with
 | nil=>exact ⟨[],rfl,by simp,by simp⟩
 | cons h1 _ aM =>
  obtain ⟨v,hv,aY⟩:=h1.run h;obtain ⟨vs,ah,af,aD⟩:=aM;refine ⟨v::vs,by simp [ah],λk r u hr hu=>?_,λk y u ao hu=>?_⟩
  ·cases k with
   | zero=>simp at hr hu; subst hr hu; exact hv
   | succ k=>exact af k r u (by simpa using hr) (by simpa using hu)
  ·cases k with
   | zero=>simp at ao hu; subst ao hu; exact aY
   | succ k=>exact aD k y u (by simpa using ao) (by simpa using hu)
theorem Hand.pX {ρ:ab->Value->Prop}{Fs:Nat->a'}{xs:List ab}{vs:List Value}{di:Nat->a'}(h:Hand w I ρ Fs xs vs di) (aB:∀ x∈xs,cC x) (ρ':ab->Value->Prop):R w I ρ' (pX xs) (yo vs) (λc=>∃ k,k<xs.length/\di k c)/\cC (pX xs):=by
 have bS:R w I ρ' (.bS xs) (.tuple vs.toArray) (λc=>∃ k,k<xs.length/\di k c) :=
  .bS (by simpa using h.len) (λk x u J hu=>(h.rel k x u J (by simpa using hu)).bk (aB x (List.mem_of_getElem? J))) h.d_ λc=>Iff.rfl
 match xs,vs,h,aB,bS with
 | [],[],_,_,bS=>exact ⟨bS,.bS (by simp)⟩
 | [x],[v],h,aB,_ =>
  refine ⟨((h.rel 0 x v rfl rfl).bk (aB x (by simp))).zr λc=>⟨λaa=>⟨0,by simp,aa⟩,λ⟨k,hk,aa⟩=>?_⟩,aB x (by simp)⟩;have:k=0:=by simpa using hk
  subst this; exact aa
 | x::y::l,v::u::m,_,aB,bS=>exact ⟨bS,.bS aB⟩
 | [],_::_,h,_,_=>have:=h.len; simp at this
 | _::_,[],h,_,_=>have:=h.len; simp at this
 | [_],_::_::_,h,_,_=>have:=h.len; simp at this
 | _::_::_,[_],h,_,_=>have:=h.len; simp at this
structure Leaves (P:Program) (N:cN) (rs:List ResultVar) (g':aL) (n:Nat) (outs:List (Option ab)) (res:ab):Prop where
 ex:∃ ys xs g1,tF P g' rs ys/\Take g' ys xs g1/\res=pX xs/\∀ (k:Nat) (x:ab),outs[k]?=some (some x)->g1 k=some x/\cC x/\k∈N.pins
 len:outs.length=n
theorem cA.more {T:Array Value}(h:cA w I T g Fs) {T':Array Value}(cU:∀ t,g t≠none->T'[t]?=T[t]?):cA w I T' g Fs:=by
 refine ⟨λt x J=>?_,h.k6,h.d_,h.bd,h.lt,h.rF,h.hP⟩;obtain ⟨u,hu,aY⟩:=h.rel t x J;exact ⟨u,by rw [cU t (by rw [J]; simp)]; exact hu,h.w2 cU (λ_ _ _=>rfl) (λ_ _=>rfl) (λ_ h=>h) (λ_ _ h=>h) aY λ_ _=>rfl⟩
end
section
variable {P:Program}{N:cN}
def W (P:Program) (N:cN) (c:Code) (g:aL) (Φ:Exit->aL->Prop):Prop :=
 ∀ ⦃Q:Exit->Act->World->Prop⦄ ⦃a:Act⦄ ⦃w:World⦄ ⦃I:a'⦄ ⦃Fs:Nat->a'⦄,cA w I a.tmps g Fs->a.tmps.size=N.size->(∀ e g' b' w',Φ e g'->ka N a w I Fs g' b' w'->Q e b' w')->c.wp P Q a w
def pk (Ψ:aL->Prop) (Φ:Exit->aL->Prop):Exit->aL->Prop
 | .normal,g=>Ψ g
 | e,g=>Φ e g
def mj (id:Nat) (Φ:Exit->aL->Prop):Exit->aL->Prop
 | .exit k,g=>if k=id then Φ .normal g else Φ (.exit k) g
 | e,g=>Φ e g
theorem lB.w {c:Code}{g g':aL}{e:Exit}{Φ:Exit->aL->Prop}(h:lB P N c g e g') (qB:Φ e g'):W P N c g Φ :=
 λ_ _ _ _ _ bh bp eu=>h bh bp λb' w' aB=>eu _ _ b' w' qB aB
theorem W.mono {c:Code}{g:aL}{Φ qT:Exit->aL->Prop}(h:W P N c g Φ) (qB:∀ e g',Φ e g'->qT e g'):W P N c g qT :=
 λ_ _ _ _ _ bh bp eu=>h bh bp λ_ _ b' w' h1 aB=>eu _ _ b' w' (qB _ _ h1) aB
theorem W.skip {g:aL}{Φ:Exit->aL->Prop}(h:Φ .normal g):W P N .skip g Φ:=lB.skip.w h
theorem W.ret {g:aL}{Φ:Exit->aL->Prop}(h:Φ .ret g):W P N .ret g Φ:=lB.ret.w h
theorem W.exit {g:aL}{id:Nat}{Φ:Exit->aL->Prop}(h:Φ (.exit id) g):W P N (.exit id) g Φ:=lB.exit.w h
theorem W.seq {x y:Code}{g:aL}{Φ:Exit->aL->Prop}(h:W P N x g (pk (λg1=>W P N y g1 Φ) Φ)):W P N (.seq x y) g Φ:=by
 intro Q a w I Fs bh bp eu;refine wp_seq (h bh bp λe g1 av ik h1 aB=>?_);cases e with
 | normal =>
  obtain ⟨b9,b3,I',bV,dM,bU⟩:=aB;exact h1 dM (b3.1.trans bp) λtQ g2 a2 hs af rh=>eu _ _ _ _ af (ka.trans b9 b3 bU rh)
 | _=>exact eu _ _ _ _ h1 aB
theorem W.cond {c:Operand}{x y:Code}{g:aL}{Φ:Exit->aL->Prop}{b:Bool}(aa:bs g c=some (.lit (.bool b))) (h:W P N (if b then x else y) g Φ):W P N (.cond c x y) g Φ :=
 λ_ _ _ _ _ bh bp eu=>wp_cond (t:=b) (j9 bh aa rfl).hB.1 (h bh bp eu)
theorem W.UI {c:Operand}{x y:Code}{g:aL}{Φ:Exit->aL->Prop}(aa:bs g c=some (.lit (.bool true))) (h:W P N x g Φ):W P N (.cond c x y) g Φ:=W.cond aa h
theorem W.UG {c:Operand}{x y:Code}{g:aL}{Φ:Exit->aL->Prop}(aa:bs g c=some (.lit (.bool false))) (h:W P N y g Φ):W P N (.cond c x y) g Φ:=W.cond aa h
theorem W.block {id:Nat}{c:Code}{g:aL}{Φ:Exit->aL->Prop}(h:W P N c g (mj id Φ)):W P N (.block id c) g Φ:=by
 intro Q a w I Fs bh bp eu;refine wp_block (h bh bp λe g1 av ik h1 aB=>?_);cases e with
 | exit k =>
  have af:if k=id then Φ .normal g1 else Φ (.exit k) g1:=h1
  grind [Exit.inBlock]
 | _=>exact eu _ _ _ _ h1 aB
def pz (P:Program) (N:cN) (c:Code) (g:aL) (Φ:Exit->aL->Prop):Prop :=
 ∀ ⦃Q:Exit->Act->World->Prop⦄ ⦃a:Act⦄ ⦃w:World⦄ ⦃I:a'⦄ ⦃Fs:Nat->a'⦄,cA w I a.tmps g Fs->a.tmps.size=N.size->(∀ e g' b' w',Φ e g'->ka N a w I Fs g' b' w'->Q e b' w')->Hs P c Q a w
theorem W.loop {c:Code}{g:aL}{Φ:Exit->aL->Prop}(h:pz P N c g Φ):W P N (.loop c) g Φ:=by
 intro Q a w I Fs bh bp eu b k cs;obtain ⟨e,b',w',a8,kZ⟩:=h bh bp eu b k cs;exact ⟨e,b',w',a8,.of_steps (.one step_loop) kZ⟩
theorem pz.step {c:Code}{g:aL}{Φ:Exit->aL->Prop}(h:W P N c g (pk (λg1=>pz P N c g1 Φ) Φ)):pz P N c g Φ:=by
 intro Q a w I Fs bh bp eu;refine Y0 (h bh bp λe g1 av ik h1 aB=>?_);cases e with
 | normal =>
  obtain ⟨b9,b3,I',bV,dM,bU⟩:=aB;exact h1 dM (b3.1.trans bp) λtQ g2 a2 hs af rh=>eu _ _ _ _ af (ka.trans b9 b3 bU rh)
 | _=>exact eu _ _ _ _ h1 aB
theorem W.weaken {c:Code}{g g1:aL}{Φ:Exit->aL->Prop}(hk:np g g1) (h:W P N c g1 Φ):W P N c g Φ:=by
 intro Q a w I Fs bh bp eu;obtain ⟨bV,dM,hA⟩:=bh.e5 hk;exact h dM bp λe g' b' w' h1 aB=>eu _ _ _ _ h1 (ka.trans rfl ib.refl ⟨Fr.refl _ _,λ_ h=>h,λ_ h=>.inl h,λc ⟨t,aa⟩=>.inl ⟨t,hA t c aa⟩⟩ aB)
theorem pz.weaken {c:Code}{g g1:aL}{Φ:Exit->aL->Prop}(hk:np g g1) (h:pz P N c g1 Φ):pz P N c g Φ:=by
 intro Q a w I Fs bh bp eu;obtain ⟨bV,dM,hA⟩:=bh.e5 hk;exact h dM bp λe g' b' w' h1 aB=>eu _ _ _ _ h1 (ka.trans rfl ib.refl ⟨Fr.refl _ _,λ_ h=>h,λ_ h=>.inl h,λc ⟨t,aa⟩=>.inl ⟨t,hA t c aa⟩⟩ aB)
def Ml (P:Program) (N:cN) (ops:Array Oper) (is:List Nat) (g:aL) (K:aL->Prop):Prop:=∃ g',oY P N ops is g g'/\K g'
theorem W.region {id:Nat}{ops:Array Oper}{g:aL}{Φ:Exit->aL->Prop}(h:Ml P N ops (List.range ops.size) g (Φ .normal)):W P N (.region id ops false) g Φ:=by
 obtain ⟨g',hr,qB⟩:=h;exact (lB.region hr).w qB
theorem bO.Zh {f:FuncId}{fn:Func}{c:Code}{args:List ab}{outs:List (Option ab)}{res:ab}{N:cN}(aT:P.funcs[f]?=some fn) (au:fn.body=some c) (bp:fn.ntmps=N.size) (aI:args.length<=N.size)
  (hlen:outs.length=args.length) (hw:W P N c (sT args) λe g'=>(e=.normal\/e=.ret)/\Leaves P N fn.results.toList g' args.length outs res):bO P f args outs res:=by
 refine ⟨hlen,λw I vs Fs J9 bh=>calls_of_wp aT au ?_⟩;have fz:({ tmps:=vs.toArray++Array.replicate (fn.ntmps - vs.toArray.size) undef,defers:=[] }:Act).tmps.size=N.size:=by
  simp; omega
 have mL:∀ t,t<vs.length->(vs.toArray++Array.replicate (fn.ntmps - vs.toArray.size) undef)[t]?=vs.toArray[t]?:=by
  intro t ar;rw [Array.getElem?_append_left (by simpa using ar)]
 refine hw (bh.more (T':=vs.toArray++Array.replicate (fn.ntmps - vs.toArray.size) undef) λt ar=>mL t ?_) fz λe g' b' w' ⟨he,aW⟩ aB=>?_
 ·unfold sT at ar;rw [J9];rcases Nat.lt_or_ge t args.length with h | h
  ·exact h
  ·exact absurd (List.getElem?_eq_none h) ar
 obtain ⟨aO,hold,I',bV,dM,bU⟩:=aB;obtain ⟨ys,xs,g1,OV,ar,rfl,rj⟩:=aW.ex;obtain ⟨us,oK,hj,nt⟩:=OV.run dM;have FH:ys.length=us.length:=by rw [<- OV.length,oK]
 obtain ⟨fo,di,iS,iw,hg⟩:=ar.sound dM.mX (⟨FH,λk x u J hu=>(nt k x u J hu).frame (λ_ _=>rfl) (λ_ h=>h) (λ_ _ h=>h.1) λ_ _=>rfl,λ_ _ _ _ _ h=>h.elim,λ_ _ _ _ h=>h.elim,λ_ _ _ h=>h.elim⟩:Hand w' I' (fh w' b'.tmps) bV ys us λ_=>cj);have hA:∀ c,lA fo xs.length di c->∃ t,bV t c:=by
  intro c aa;rcases hg c aa with h | ⟨_,_,h⟩
  ·exact h
  ·exact h.elim
 have Xh:∃ jc,cA w' I' (vs++[yo us]).toArray (kH outs (pX xs)) jc/\∀ t c,jc t c->∃ t,bV t c:=by
  classical
  refine ⟨λt=>if t=outs.length then (λc=>∃ k,k<xs.length/\di k c) else if ∃ x,outs[t]?=some (some x) then fo t else cj,⟨λt x J=>?_,λt rn c aa=>?_,λt t' c h1 af=>?_,λt c aa=>?_,dM.lt,λt t' z p n m new bR cr m' cL h1 af=>?_,dM.hP⟩,λt c aa=>?_⟩
  ·unfold kH at J;by_cases aK:t=outs.length
   ·rw [if_pos aK] at J;cases J;subst aK;refine ⟨yo us,?_,.tree ?_⟩
    ·rw [aW.len,<- J9]; simp
    ·simpa using (iw.pX ar.Ad _).1
   ·rw [if_neg aK] at J;have e8:outs[t]?=some (some x):=by
     cases bP:outs[t]? with
     | none=>rw [bP] at J; cases J
     | some y=>rw [bP] at J; simpa using J
    obtain ⟨h1,af,aD⟩:=rj t x e8;have J5:t<vs.length:=by
     have:=(List.getElem?_eq_some_iff.1 e8).1;rw [J9,<- aW.len]; exact this
    obtain ⟨v,hv,aY⟩:=iS.rel t x h1;refine ⟨v,?_,?_⟩
    ·rw [hold.2 t aD] at hv;simp only at hv;rw [mL t J5] at hv;simp only [List.getElem?_toArray] at hv ⊢;rw [List.getElem?_append_left J5]; exact hv
    ·simp only [aK,if_false];rw [if_pos ⟨x,e8⟩];exact .tree ((aY.gp (by rintro z p n m new rfl; cases af)).bk af)
  ·unfold kH at rn;by_cases aK:t=outs.length
   ·rw [if_pos aK] at rn; cases rn
   ·rw [if_neg aK] at rn;simp only [aK,if_false] at aa;rw [if_neg] at aa
    ·exact aa
    ·rintro ⟨x,J⟩;rw [J] at rn; cases rn
  ·by_cases aK:t=outs.length <;> by_cases Fc:t'=outs.length <;> simp only [aK,Fc,if_true,if_false] at h1 af
   ·rw [aK,Fc]
   ·split at af
    ·obtain ⟨k,hk,aa⟩:=h1;exact absurd af (iw.off k t' c hk aa)
    ·exact af.elim
   ·split at h1
    ·obtain ⟨k,hk,aa⟩:=af;exact absurd h1 (iw.off k t c hk aa)
    ·exact h1.elim
   ·split at h1
    ·split at af
     ·exact iS.d_ _ _ _ h1 af
     ·exact af.elim
    ·exact h1.elim
  ·by_cases aK:t=outs.length <;> simp only [aK,if_true,if_false] at aa
   ·obtain ⟨k,hk,aa⟩:=aa;exact iw.bd k c hk aa
   ·split at aa
    ·exact iS.bd _ _ aa
    ·exact aa.elim
  ·have key:∀ t x,kH outs (pX xs) t=some x->cC x:=by
    intro t x J;unfold kH at J
    split at J
    ·cases J; exact (iw.pX ar.Ad (λ_ _=>False)).2
    ·cases bP:outs[t]? with
     | none=>rw [bP] at J; cases J
     | some y=>rw [bP] at J; exact (rj t x (by rw [bP]; simpa using J)).2.1
   have:=key t _ h1;cases this
  ·by_cases aK:t=outs.length <;> simp only [aK,if_true,if_false] at aa
   ·obtain ⟨k,hk,aa⟩:=aa;exact hA c (.inr ⟨k,hk,aa⟩)
   ·split at aa
    ·exact hA c (.inl ⟨t,aa⟩)
    ·exact aa.elim
 obtain ⟨jc,h7,X1⟩:=Xh;have XL:b'.defers=[]/\∃ v,(results fn b'.tmps).run P w'=.ok v w'/\∃ dH I' bV,Ending.returned v=.returned dH/\cA w' I' (vs++[dH]).toArray (kH outs (pX xs)) bV/\kS w I (λc=>∃ t,Fs t c) w' I' (λc=>∃ t,bV t c) :=
  ⟨aO,yo us,aaq oK hj,yo us,I',jc,rfl,h7,bU.trans ⟨Fr.refl _ _,λ_ h=>h,λ_ h=>.inl h,λc ⟨t,aa⟩=>.inl (X1 t c aa)⟩⟩
 rcases he with rfl | rfl <;> exact XL
end
def get:List (Nat × ab)->aL
 | [],_=>none
 | (s,x)::l,t=>if t=s then some x else get l t
inductive Rd (g:aL):Operand->ab->Prop
 | lit {t:Nat}{v:Value}(h:g t=some (.lit v)):Rd g (.tmp t) (.lit v)
 | k {v:Value}(h:ofConst v=.lit v):Rd g (.const v) (.lit v)
 | xP:Rd g (.const (.slice none 0 0)) .aQ
 | KG {v:Value}{cs:List ab}(h:ofConst v=.agg cs):Rd g (.const v) (.agg cs)
 | aQ {t:Nat}(h:g t=some .aQ):Rd g (.tmp t) .aQ
 | bd {t z n:Nat}{cs:List ab}(h:g t=some (.bd z n cs)):Rd g (.tmp t) (.bd z n cs)
 | own {t z n:Nat}{cs:List ab}(h:g t=some (.own z n cs)):Rd g (.tmp t) (.a6 z ⟨t,[]⟩ n)
 | obj {t:Nat}{c:ab}{cs:List ab}(h:g t=some (.obj (c::cs))):Rd g (.tmp t) (.ptr ⟨t,[]⟩ 0)
 | cw {t:Nat}{cs:List ab}(h:g t=some (.cw cs)):Rd g (.tmp t) (.cw cs)
 | ptr {t k:Nat}{p:Place}(h:g t=some (.ptr p k)):Rd g (.tmp t) (.ptr p k)
 | a6 {t z n:Nat}{p:Place}(h:g t=some (.a6 z p n)):Rd g (.tmp t) (.a6 z p n)
 | sub {t z lo n:Nat}{p:Place}(h:g t=some (.sub z p lo n)):Rd g (.tmp t) (.sub z p lo n)
 | bL {t z n m:Nat}{p:Place}{new:List ab}(h:g t=some (.bL z p n m new)):Rd g (.tmp t) (.a6 z ⟨t,[]⟩ (n+m))
 | agg {t:Nat}{cs cs':List ab}(h:g t=some (.agg cs)) (aa:(cs.mapIdx λi x=>fW 1 (Place.push ⟨t,[]⟩ i) x)=cs'):Rd g (.tmp t) (.agg cs')
 | bS {t:Nat}{cs cs':List ab}(h:g t=some (.bS cs)) (aa:(cs.mapIdx λi x=>fW 1 (Place.push ⟨t,[]⟩ i) x)=cs'):Rd g (.tmp t) (.bS cs')
 | func {f:FuncId}:Rd g (.func f) (.cD (.func f) [] [])
 | cD {t:Nat}{fn:Fn}{cs:List ab}(h:g t=some (.cD fn [] cs)):Rd g (.tmp t) (.cD fn [] cs)
 | mp {t:Nat}{q:Array MapEntry->Nat->Prop}(h:g t=some (.mp q)):Rd g (.tmp t) (.gj ⟨t,[]⟩)
 | gj {t:Nat}{p:Place}(h:g t=some (.gj p)):Rd g (.tmp t) (.gj p)
 | imp {t:Nat}{q:Array MapEntry->Nat->Prop}(h:g t=some (.imp q)):Rd g (.tmp t) (.imp q)
theorem Rd.bs {g:aL}{x:Operand}{y:ab}(h:Rd g x y):bs g x=some y:=by
 cases h with
 | agg h aa=>subst aa; simp [Own.bs,h,pg,fW]
 | bS h aa=>subst aa; simp [Own.bs,h,pg,fW]
 | k h=>simp [Own.bs,h]
 | xP=>rfl
 | KG h=>simp [Own.bs,h]
 | func=>rfl
 | _ h=>simp [Own.bs,h,pg,fW]
section
variable {P:Program}{N:cN}{ops:Array Oper}{g:aL}{K:aL->Prop}{l:List Oper}
def aE (P:Program) (N:cN) (ops:Array Oper) (l:List Oper) (g:aL) (K:aL->Prop):Prop:=∀ i,ops.toList.drop i=l->Ml P N ops (List.range' i l.length) g K
theorem W.D1 {id:Nat}{l:List Oper}{g:aL}{Φ:Exit->aL->Prop}(h:aE P N l.toArray l g (Φ .normal)):W P N (.region id l.toArray false) g Φ:=by
 refine W.region ?_;have:=h 0 (by simp)
 grind [List.range_eq_range']
theorem aE.nil (h:K g):aE P N ops [] g K:=λ_ _=>⟨g,.nil,h⟩
theorem drop_cons {i:Nat}{o:Oper}(h:ops.toList.drop i=o::l):ops[i]?=some o/\ops.toList.drop (i+1)=l:=by
 have h1:(ops.toList.drop i)[0]?=some o:=by rw [h]; rfl
 rw [List.getElem?_drop] at h1;refine ⟨by simpa using h1,?_⟩;rw [<- List.drop_drop,h];rfl
variable {d:Nat}{op:Op}{ty:TypeId}{pos:String}{after:Array Edge}{x:ab}
theorem aE.Ed {r:Option ab}{o:Oper}(aO:o.dst=some d) (bp:N.ok d=true) (aT:g d=none) (aw:qa P g ops o r) (hk:aE P N ops l (yl g d r) K):aE P N ops (o::l) g K:=by
 intro i hi;obtain ⟨h1,af⟩:=drop_cons hi;obtain ⟨g',hr,cZ⟩:=hk (i+1) af;exact ⟨g',.step h1 aO aT bp aw hr,cZ⟩
inductive dV (g:aL) (ops:Array Oper):Option (Nat × Bool)->Prop
 | none:dV g ops none
 | yes {j t:Nat}{b:Bool}(h:(ops[j]?).bind (·.dst)=some t) (aP:g t=some (.lit (.bool b))):dV g ops (some (j,b))
variable {gd:Option (Nat × Bool)}{g1:aL}
theorem dV.wanted (h:dV g ops gd):iE g ops ⟨some d,op,ty,pos,after,gd⟩ true:=by
 cases h with
 | none=>rfl
 | @yes j t b h aP=>exact ⟨t,h,.inl ⟨b,aP,by simp⟩⟩
theorem aE.RB (aq:bT P g op ty x) (bp:N.ok d=true) (aT:g d=none) (hw:iE g ops ⟨some d,op,ty,pos,after,gd⟩ true) (hk:aE P N ops l (cR g d x) K):aE P N ops (⟨some d,op,ty,pos,after,gd⟩::l) g K :=
 .Ed rfl bp aT (r:=some x) (.inl ⟨hw,.inl aq⟩) hk
theorem abo:cR (del g d) d x=cR g d x:=by
 grind [cR,del]
theorem aE.over {y:ab}(aq:df P (del g d) op ty x) (bp:N.ok d=true) (aT:g d=some y) (ah:leaf y=true) (hk:aE P N ops l (cR g d x) K):aE P N ops (⟨some d,op,ty,pos,after,none⟩::l) g K:=by
 intro i hi;obtain ⟨g',hr,cZ⟩:=aE.RB (pos:=pos) (after:=after) (gd:=Option.none) (.ew aq) bp (by simp [del]) (dV.wanted .none) (by rw [abo]; exact hk) i hi;exact ⟨g',.drop aT ah hr,cZ⟩
theorem aE.abu (aq:bT P g op ty x) (bp:N.ok d=true) (aT:g d=none) (aP:dV g ops gd) (hk:aE P N ops l (cR g d x) K):aE P N ops (⟨some d,op,ty,pos,after,gd⟩::l) g K :=
 .RB aq bp aT aP.wanted hk
theorem aE.call (aq:cd P g op x) (bp:N.ok d=true) (aT:g d=none) (aP:dV g ops gd) (hk:aE P N ops l (cR g d x) K):aE P N ops (⟨some d,op,ty,pos,after,gd⟩::l) g K :=
 .Ed rfl bp aT (r:=some x) (.inl ⟨aP.wanted,.inr aq⟩) hk
variable {jE:Option Nat}
theorem aE.forget {g1:aL}(hk:il g g1) (h:aE P N ops l g1 K):aE P N ops l g K:=by
 intro i hi;obtain ⟨g',hr,cZ⟩:=h i hi;exact ⟨g',.forget hk hr,cZ⟩
variable {a b:Operand}{t t2:TypeId}{k:IntKind}{m n:Int}
theorem df.add (J:Rd g a (.lit (.int k m))) (ao:Rd g b (.lit (.int k n))):df P g (.binOp .add t a b t2) ty (.lit (.int k (k.wrap (m+n)))) :=
 .bin J.bs ao.bs rfl λw=>by simp [eqGuard,binOp,Op.intArith]
theorem df.aa2 (J:Rd g a (.lit (.int k m))) (ao:Rd g b (.lit (.int k n))):df P g (.binOp .sub t a b t2) ty (.lit (.int k (k.wrap (m - n)))) :=
 .bin J.bs ao.bs rfl λw=>by simp [eqGuard,binOp,Op.intArith]
theorem df.quo (J:Rd g a (.lit (.int k m))) (ao:Rd g b (.lit (.int k n))) (h:n≠0):df P g (.binOp .quo t a b t2) ty (.lit (.int k (k.wrap (m.tdiv n)))) :=
 .bin J.bs ao.bs rfl λw=>by simp [eqGuard,binOp,Op.intDiv,h]
theorem df.rem (J:Rd g a (.lit (.int k m))) (ao:Rd g b (.lit (.int k n))) (h:n≠0):df P g (.binOp .rem t a b t2) ty (.lit (.int k (m.tmod n))) :=
 .bin J.bs ao.bs rfl λw=>by simp [eqGuard,binOp,Op.intDiv,h]
theorem df.cat {s u:ByteArray}(J:Rd g a (.lit (.string s))) (ao:Rd g b (.lit (.string u))) (h:s.size+u.size<=9223372036854775807):df P g (.binOp .add t a b t2) ty (.lit (.string (s++u))) :=
 .bin J.bs ao.bs rfl λw=>by
  have:¬ ((s.size+u.size:Nat):Int) > IntKind.i64.max:=by
   have:IntKind.i64.max=9223372036854775807:=by decide
   omega
  simp only [eqGuard,binOp,Op.stringOp,if_neg this];simp
theorem MV {s u:ByteArray}(h:s.toList=u.toList):s=u:=by
 have h1:s.data.toList=u.data.toList:=by
  grind [ByteArray.toList_eq]
 cases s
 simp_all
theorem df.sX {s u:ByteArray}(J:Rd g a (.lit (.string s))) (ao:Rd g b (.lit (.string u))) {c:Bool}(aa:c=true↔s=u):df P g (.binOp .eql t a b t2) ty (.lit (.bool c)) :=
 .bin J.bs ao.bs rfl λw=>by
  have:(s.toList == u.toList)=c:=by
   rw [Bool.eq_iff_iff,aa];simp only [beq_iff_eq];exact ⟨MV,λh=>by rw [h]⟩
  simp [eqGuard,binOp,Op.stringOp,this]
theorem df.qD {s u:ByteArray}(J:Rd g a (.lit (.string s))) (ao:Rd g b (.lit (.string u))) {c:Bool}(aa:c=true↔s≠u):df P g (.binOp .neq t a b t2) ty (.lit (.bool c)) :=
 .bin J.bs ao.bs rfl λw=>by
  have:(s.toList == u.toList)=!c:=by
   rw [Bool.eq_iff_iff];simp only [beq_iff_eq,Bool.not_eq_true'];cases c with
   | true=>simp only [true_iff] at aa; simp only [Bool.true_eq_false,iff_false]; exact λh=>aa (MV h)
   | false =>
    simp only [Bool.false_eq_true,false_iff,Decidable.not_not] at aa;simp [aa]
  simp [eqGuard,binOp,Op.stringOp,this]
theorem df.lss (J:Rd g a (.lit (.int k m))) (ao:Rd g b (.lit (.int k n))) {c:Bool}(aa:c=true↔m<n):df P g (.binOp .lss t a b t2) ty (.lit (.bool c)) :=
 .bin J.bs ao.bs rfl λw=>by
  have:decide (m<n)=c:=by rw [Bool.eq_iff_iff,aa]; simp
  simp [eqGuard,binOp,Op.intCmp,this]
theorem df.leq (J:Rd g a (.lit (.int k m))) (ao:Rd g b (.lit (.int k n))) {c:Bool}(aa:c=true↔m<=n):df P g (.binOp .leq t a b t2) ty (.lit (.bool c)) :=
 .bin J.bs ao.bs rfl λw=>by
  have:decide (m<=n)=c:=by rw [Bool.eq_iff_iff,aa]; simp
  simp [eqGuard,binOp,Op.intCmp,this]
theorem df.gtr (J:Rd g a (.lit (.int k m))) (ao:Rd g b (.lit (.int k n))) {c:Bool}(aa:c=true↔n<m):df P g (.binOp .gtr t a b t2) ty (.lit (.bool c)) :=
 .bin J.bs ao.bs rfl λw=>by
  have:decide (n<m)=c:=by rw [Bool.eq_iff_iff,aa]; simp
  simp [eqGuard,binOp,Op.intCmp,this]
theorem df.geq (J:Rd g a (.lit (.int k m))) (ao:Rd g b (.lit (.int k n))) {c:Bool}(aa:c=true↔n<=m):df P g (.binOp .geq t a b t2) ty (.lit (.bool c)) :=
 .bin J.bs ao.bs rfl λw=>by
  have:decide (n<=m)=c:=by rw [Bool.eq_iff_iff,aa]; simp
  simp [eqGuard,binOp,Op.intCmp,this]
theorem df.eql (J:Rd g a (.lit (.int k m))) (ao:Rd g b (.lit (.int k n))) {c:Bool}(aa:c=true↔m=n):df P g (.binOp .eql t a b t2) ty (.lit (.bool c)) :=
 .bin J.bs ao.bs rfl λw=>by
  have:(m == n)=c:=by rw [Bool.eq_iff_iff,aa]; simp
  simp [eqGuard,binOp,Op.intCmp,this]
theorem df.neq (J:Rd g a (.lit (.int k m))) (ao:Rd g b (.lit (.int k n))) {c:Bool}(aa:c=true↔m≠n):df P g (.binOp .neq t a b t2) ty (.lit (.bool c)) :=
 .bin J.bs ao.bs rfl λw=>by
  have:(m != n)=c:=by rw [Bool.eq_iff_iff,aa]; simp
  simp [eqGuard,binOp,Op.intCmp,this]
theorem df.not {c:Bool}(J:Rd g a (.lit (.bool c))):df P g (.unOp .not t a) ty (.lit (.bool (!c))) :=
 .un J.bs rfl λw=>by simp [Op.unary]
theorem df.ZO {c a b:Operand}{y:ab}(aa:Rd g c (.lit (.bool true))) (hr:Rd g a y):df P g (.pick c a b) ty y:=.pick aa.bs hr.bs
theorem df.ZN {c a b:Operand}{y:ab}(aa:Rd g c (.lit (.bool false))) (hr:Rd g b y):df P g (.pick c a b) ty y:=.pick aa.bs hr.bs
theorem df.z1 {s:ByteArray}(J:Rd g a (.lit (.string s))) (ar:sI P t=true):df P g (.call { callee:=.builtin .len,args:=#[a],argTypes:=#[t] }) ty (.lit (.int .i64 s.size)) :=
 .lits (vs:=[.string s]) (by simp [J.bs]) rfl λw cs=>by
  simp [builtin,Builtin.len_,run_underlying (LD ar),goInt]
section
variable {Ψ:aL->Prop}{Φ:Exit->aL->Prop}{id k:Nat}
theorem abe (h:Ψ g):pk Ψ Φ .normal g:=h
theorem abf (h:Φ .ret g):pk Ψ Φ .ret g:=h
theorem abd (h:Φ (.exit k) g):pk Ψ Φ (.exit k) g:=h
theorem YM (h:Φ .normal g):mj id Φ .normal g:=h
theorem YN (h:Φ .ret g):mj id Φ .ret g:=h
theorem YK (h:Φ .normal g):mj id Φ (.exit id) g:=by
 show if id=id then Φ .normal g else Φ (.exit id) g
 grind
theorem YL (hk:Nat.beq k id=false) (h:Φ (.exit k) g):mj id Φ (.exit k) g:=by
 show if k=id then Φ .normal g else Φ (.exit k) g
 grind [Nat.ne_of_beq_eq_false]
end
def Fin (P:Program) (N:cN) (rs:List ResultVar) (n:Nat) (outs:List (Option ab)) (res:ab) (e:Exit) (g':aL):Prop:=(e=.normal\/e=.ret)/\Leaves P N rs g' n outs res
theorem bO.fin {f:FuncId}{fn:Func}{c:Code}{args:List ab}{outs:List (Option ab)}{res:ab}{N:cN}(aT:P.funcs[f]?=some fn) (au:fn.body=some c) (bp:fn.ntmps=N.size) (aI:Nat.ble args.length N.size=true) (hlen:outs.length=args.length)
  (hw:W P N c (sT args) (Fin P N fn.results.toList args.length outs res)):bO P f args outs res:=.Zh aT au bp (Nat.le_of_ble_eq_true aI) hlen hw
def uz (outs:List (Option ab)):Bool:=outs.all λx=>x.isNone
theorem PY {outs:List (Option ab)}(h:uz outs=true) (k:Nat) (x:ab):outs[k]?≠some (some x):=by
 intro e;have:=List.all_eq_true.1 h _ (List.mem_of_getElem? e)
 grind
inductive q3 (g:aL):List Operand->List ab->Prop
 | nil:q3 g [] []
 | cons {x:Operand}{y:ab}{xs:List Operand}{ys:List ab}(h:Rd g x y) (aB:cC y) (ar:q3 g xs ys):q3 g (x::xs) (y::ys)
theorem q3.spec {xs:List Operand}{ys:List ab}(h:q3 g xs ys):hc g xs=some ys/\∀ y∈ys,cC y:=by
 induction h with
 | nil=>exact ⟨rfl,by simp⟩
 | cons h aB _ aM=>exact ⟨by simp only [hc,h.bs,aM.1],sz aB aM.2⟩
theorem cd.U' {xs:List Operand}{fM:Array TypeId}{f:FuncId}{ys:List ab}{outs:List (Option ab)}{res:ab}(ha:bO P f ys outs res) (aT:hx P f=true) (J:q3 g xs ys) (aW:uz outs=true) (hr:cC res) :
  cd P g (.call { callee:=.value (.func f),args:=xs.toArray,argTypes:=fM }) res:=by
 have rj:outs=ys.map λ_=>Option.none:=by
  apply List.ext_getElem?;intro k;rw [List.getElem?_map];cases ao:ys[k]? with
  | none=>rw [List.getElem?_eq_none (by rw [ha.1]; exact List.getElem?_eq_none_iff.1 ao)]; rfl
  | some y =>
   have hk:k<outs.length:=by rw [ha.1]; exact (List.getElem?_eq_some_iff.1 ao).1
   have h1:=List.getElem?_eq_getElem hk;rw [h1];cases af:outs[k] with
   | none=>rfl
   | some x=>rw [af] at h1; exact absurd h1 (PY aW k x)
 exact .plain (first:=[]) (caps:=[]) (ys:=ys) rfl (by simpa using J.spec.1) aT (by simpa using J.spec.2) (by simpa [<- rj] using ha) hr
end
def lI (s:ByteArray) (m:Int):Int:=((s[m.toNat]?.getD 0).toNat:Nat)
def BG (s:ByteArray) (m n:Int):ByteArray:=s.extract m.toNat n.toNat
section
variable {P:Program}{N:cN}{ops:Array Oper}{g:aL}{K:aL->Prop}{l:List Oper}
variable {d:Nat}{op:Op}{ty:TypeId}{pos:String}{after:Array Edge}{x:ab}{a b:Operand}{t t2:TypeId}{k:IntKind}{m n:Int}{gd:Option (Nat × Bool)}
theorem df.Th {s:ByteArray}{i:Operand}(J:Rd g a (.lit (.string s))) (hi:Rd g i (.lit (.int k m))) (ar:sI P t=true) (h:0<=m/\m<s.size):df P g (.index t a i) ty (.lit (.int .u8 (lI s m))):=by
 obtain ⟨j,rfl⟩:=Int.eq_ofNat_of_zero_le h.1;have ag:j<s.size:=by omega
 have au:s[j]?=some s[j]:=getElem?_pos s j ag;have:lI s (j:Int)=(s[j].toNat:Nat):=by simp [lI,au]
 rw [this];exact .FM J.bs hi.bs ar au
theorem df.Lz {s:ByteArray}{lo hi:Operand}{td:IntKind}(J:Rd g a (.lit (.string s))) (ah:Rd g lo (.lit (.int k m))) (bP:Rd g hi (.lit (.int td n))) (ar:sI P t=true) (h:0<=m/\m<=n/\n<=s.size) :
  df P g (.slice t a (some lo) (some hi) none) ty (.lit (.string (BG s m n))):=by
 obtain ⟨i,rfl⟩:=Int.eq_ofNat_of_zero_le h.1;obtain ⟨j,rfl⟩:=Int.eq_ofNat_of_zero_le (show 0<=n by omega);exact .GY J.bs ⟨_,ah.bs⟩ ⟨_,bP.bs⟩ ar (by omega) (by omega)
theorem UM {s:ByteArray}{m n:Int}(h:0<=m/\m<=n/\n<=s.size):((BG s m n).size:Int)=n - m:=by
 grind [BG,ByteArray.size_extract]
def i_ (P:Program) (e:TypeId) (z:Nat):Bool :=
 match (P.info? e).bind (·.zero) with
 | some v=>v.cells.size == z
 | none=>false
theorem RS {e:TypeId}{z:Nat}(h:i_ P e z=true):∃ v,(P.info? e).bind (·.zero)=some v/\v.cells.size=z:=by
 grind [i_]
end
section
variable {P:Program}{g:aL}{ty:TypeId}{a b:Operand}{t t2:TypeId}{N:cN}{ops:Array Oper}{K:aL->Prop}{l:List Oper}{d:Nat}{pos:String}{after:Array Edge}{gd:Option (Nat × Bool)}
theorem W.UH {c:Operand}{x y:Code}{Φ:Exit->aL->Prop}{b:Bool}(aa:Rd g c (.lit (.bool b))) (cU:b=true->W P N x g Φ) (aH:b=false->W P N y g Φ):W P N (.cond c x y) g Φ:=by
 cases b with
 | true=>exact .UI aa.bs (cU rfl)
 | false=>exact .UG aa.bs (aH rfl)
theorem aao {c e:Bool}(ar:P.underlying t=some .bool) (w:World):(do eqGuard .eql t a b (.bool c) (.bool e); binOp .eql t (.bool c) (.bool e):Sem Value).run P w=.ok (.bool (c == e)) w:=by
 have h:=run_equal_bool w t c e ar;simp [eqGuard,binOp,h]
def HN (P:Program) (t:TypeId):Bool :=
 match P.underlying t with
 | some .bool=>true
 | _=>false
theorem To (h:HN P t=true):P.underlying t=some .bool:=by
 unfold HN at h
 split at h
 ·assumption
 ·cases h
def ur (P:Program) (t:TypeId) (k:IntKind):Bool :=
 match P.underlying t with
 | some (.int j8)=>j8 == k
 | _=>false
theorem Pj {k:IntKind}(h:ur P t k=true):P.underlying t=some (.int k):=by
 unfold ur at h
 split at h
 ·rename_i j8 hk; rw [hk]; have:j8=k:=by simpa using h
  rw [this]
 ·cases h
theorem df.UJ {k j8:IntKind}{m:Int}(J:Rd g a (.lit (.int k m))) (aw:ur P t k=true) (aO:ur P t2 j8=true):df P g (.convert t t2 a) ty (.lit (.int j8 (j8.wrap m))) :=
 .conv J.bs rfl λw=>by simp [convert,run_underlying (Pj aw),run_underlying (Pj aO),Conv.intToInt]
end
end Go.Own
namespace Go.Own
open Go Go.RowKit
variable [cE]
end Go.Own
namespace Go.Own
open Go
variable [cE]
section
variable {P:Program}{g:aL}{ty:TypeId}{a b:Operand}{t t2:TypeId}{N:cN}{ops:Array Oper}{K:aL->Prop}{l:List Oper}{d:Nat}{pos:String}{after:Array Edge}{gd:Option (Nat × Bool)}
end
structure bN (α:Type) where
 z:Nat
 cells:α->List ab
 len:∀ a,(cells a).length=z
 bk:∀ a,∀ x∈cells a,cC x
variable {α β S R:Type}
def bA (e:bN α) (l:List α):List ab:=l.flatMap e.cells
abbrev aC (e:bN α) (l:List α):ab:=.own e.z l.length (bA e l)
abbrev aj (e:bN α) (l:List α):ab:=.bd e.z l.length (bA e l)
abbrev ae (n:Int):ab:=.lit (.int .i64 n)
abbrev rZ (n:Int):ab:=.lit (.int .u8 n)
abbrev bg (b:Bool):ab:=.lit (.bool b)
abbrev aZ (s:ByteArray):ab:=.lit (.string s)
abbrev aG (n:Int):Int:=IntKind.i64.wrap n
abbrev G9 (n:Int):Int:=IntKind.u8.wrap n
theorem oR (e:bN α) (l:List α):(bA e l).length=l.length * e.z:=by
 induction l with
 | nil=>simp [bA]
 | cons a l aM =>
  have:bA e (a::l)=e.cells a++bA e l:=by simp [bA]
  rw [this,List.length_append,e.len,aM,List.length_cons,Nat.add_mul]; omega
theorem oc (e:bN α) (l:List α):∀ x∈bA e l,cC x:=by
 intro x J;obtain ⟨a,_,h⟩:=List.mem_flatMap.1 J;exact e.bk a x h
theorem QJ (e:bN α) (l m:List α):bA e (l++m)=bA e l++bA e m:=by simp [bA]
theorem D3 (e:bN α):∀ (l:List α) (i:Nat),(bA e l).drop (i * e.z)=bA e (l.drop i)
 | l,0=>by simp
 | [],i+1=>by simp [bA]
 | a::l,i+1=>by
  have h:bA e (a::l)=e.cells a++bA e l:=by simp [bA]
  rw [h,List.drop_append,e.len,List.drop_eq_nil_of_le (by rw [e.len,Nat.add_mul]; omega)];have:(i+1) * e.z - e.z=i * e.z:=by rw [Nat.add_mul]; omega
  rw [this,List.nil_append,D3 e l i]; rfl
theorem D4 (e:bN α):∀ (l:List α) (i:Nat),(bA e l).take (i * e.z)=bA e (l.take i)
 | l,0=>by simp [bA]
 | [],i+1=>by simp [bA]
 | a::l,i+1=>by
  have h:bA e (a::l)=e.cells a++bA e l:=by simp [bA]
  rw [h,List.take_append,e.len,List.take_of_length_le (by rw [e.len,Nat.add_mul]; omega)];have:(i+1) * e.z - e.z=i * e.z:=by rw [Nat.add_mul]; omega
  rw [this,D4 e l i]; simp [bA]
def idx (l:List α) (i:Int):Option α:=if 0<=i then l[i.toNat]? else none
theorem mi {l:List α}{i:Int}{y:α}(h:idx l i=some y):0<=i/\i<l.length/\l[i.toNat]?=some y:=by
 grind [idx]
theorem Lm (e:bN α) {l:List α}{i:Int}{y:α}(h:idx l i=some y):(bA e l).drop (i.toNat * e.z)=e.cells y++bA e (l.drop (i.toNat+1)):=by
 obtain ⟨aK,h1,af⟩:=mi h
 grind [D3,List.drop_eq_getElem_cons,bA]
theorem Ll (e:bN α) {l:List α}{i:Int}{y:α}(h:idx l i=some y) {k:Nat}{x:ab}(hk:(e.cells y)[k]?=some x):(bA e l)[i.toNat * e.z+k]?=some x:=by
 have aN:=(List.getElem?_eq_some_iff.1 hk).1;rw [<- List.getElem?_drop,Lm e h,List.getElem?_append_left aN]; exact hk
abbrev lim:Nat:=1099511627776
def fuel:Nat:=1000000000000000000
def iter (f:S->Option (S ⊕ R)):Nat->S->Option R
 | 0,_=>none
 | n+1,s=>match f s with
  | none=>none
  | some (.inl cy)=>iter f n cy
  | some (.inr r)=>some r
def cf (f:S->Option (S ⊕ R)) (s:S):Option R:=iter f fuel s
theorem u' {o:Option α}{f:α->Option β}{r:β}(h:o.bind f=some r):∃ y,o=some y/\f y=some r:=Option.bind_eq_some_iff.1 h
theorem T4 {b:Bool}{x y o:α}(au:b=true) (h:cond b x y=o):x=o:=by
 grind
theorem T3 {b:Bool}{x y o:α}(au:b=false) (h:cond b x y=o):y=o:=by
 grind
theorem eU {b:Bool}{x y o:α}(h:cond b x y=o):(b=true/\x=o)\/(b=false/\y=o):=by
 grind
theorem aV {a b:α}(h:some a=some b):a=b:=by grind
class b6 (x:ab):Prop where bk:cC x
class dk (cs:List ab):Prop where bk:∀ x∈cs,cC x
instance {v:Value}:b6 (.lit v):=⟨.lit⟩
instance:b6 .aQ:=⟨.aQ⟩
instance:b6 .dead:=⟨.dead⟩
instance {z n:Nat}{cs:List ab} [h:dk cs]:b6 (.bd z n cs):=⟨.bd h.bk⟩
instance {z n:Nat}{cs:List ab} [h:dk cs]:b6 (.own z n cs):=⟨.own h.bk⟩
instance {cs:List ab} [h:dk cs]:b6 (.obj cs):=⟨.obj h.bk⟩
instance {cs:List ab} [h:dk cs]:b6 (.agg cs):=⟨.agg h.bk⟩
instance {cs:List ab} [h:dk cs]:b6 (.bS cs):=⟨.bS h.bk⟩
instance {cs:List ab} [h:dk cs]:b6 (.cw cs):=⟨.cw h.bk⟩
instance:dk []:=⟨by simp⟩
instance {x:ab}{cs:List ab} [h:b6 x] [aJ:dk cs]:dk (x::cs):=⟨sz h.bk aJ.bk⟩
instance {e:bN α}{l:List α}:dk (bA e l):=⟨oc e l⟩
instance {e:bN α}{a:α}:dk (e.cells a):=⟨e.bk a⟩
instance {a b:List ab} [h:dk a] [aJ:dk b]:dk (a++b):=⟨λx J=>(List.mem_append.1 J).elim (h.bk x) (aJ.bk x)⟩
instance {a:List ab}{n:Nat} [h:dk a]:dk (a.drop n):=⟨λx J=>h.bk x (List.mem_of_mem_drop J)⟩
abbrev bN.one (f:α->ab) (h:∀ a,cC (f a)):bN α:=⟨1,λa=>[f a],λ_=>rfl,λa x J=>by rw [List.mem_singleton.1 J]; exact h a⟩
def ai:bN Int:=.one (λn=>ae n) λ_=>.lit
def r5:bN Int:=.one (λn=>rZ n) λ_=>.lit
def e1:bN Bool:=.one (λb=>bg b) λ_=>.lit
def nU:bN ByteArray:=.one (λs=>aZ s) λ_=>.lit
def bF (e:bN α):bN (List α):=.one (λl=>aj e l) λl=>.bd (oc e l)
inductive Trim (b:Bool) (g g2:aL):List (Nat × ab)->Prop
 | nil:Trim b g g2 []
 | n {s:Nat}{x:ab}{l:List (Nat × ab)}(h:g s=some x) [aB:b6 x] (t:Trim b g g2 l):Trim b g g2 ((s,x)::l)
 | r {s:Nat}{x:ab}{l:List (Nat × ab)}(h:g s=some x) (aB:cS g2 x) (aq:∀ z p n m new,x≠.bL z p n m new) (t:Trim b g g2 l):Trim b g g2 ((s,x)::l)
 | e {s:Nat}{x y:ab}{l:List (Nat × ab)}(h:g s=some y) (he:y=x) [aB:b6 x] (t:Trim b g g2 l):Trim b g g2 ((s,x)::l)
 | w {s:Nat}{x y:ab}{l:List (Nat × ab)}(au:b=true) (h:g s=some y) (hw:nN y x) [aB:b6 x] (t:Trim b g g2 l):Trim b g g2 ((s,x)::l)
theorem Trim.spec {b:Bool}{g g2:aL}{l:List (Nat × ab)}(h:Trim b g g2 l):∀ t x,get l t=some x->(∃ y,g t=some y/\nN y x/\(b=false->y=x))/\cS g2 x/\∀ z p n m new,x≠.bL z p n m new:=by
 have fE:∀ {x:ab},cC x->∀ z p n m new,x≠.bL z p n m new:=by rintro x h z p n m new rfl; cases h
 induction h with
 | nil=>intro t x J; cases J
 | @n _ _ _ h aB _ aM =>
  intro t x J; simp only [get] at J
  split at J
  ·rename_i e; subst e; cases J; exact ⟨⟨_,h,.refl,λ_=>rfl⟩,.bk aB.bk,fE aB.bk⟩
  ·exact aM t x J
 | r h aB aq _ aM =>
  intro t x J; simp only [get] at J
  split at J
  ·rename_i e; subst e; cases J; exact ⟨⟨_,h,.refl,λ_=>rfl⟩,aB,aq⟩
  ·exact aM t x J
 | @e _ _ _ _ h he aB _ aM =>
  intro t x J; simp only [get] at J
  split at J
  ·rename_i e; subst e he; cases J; exact ⟨⟨_,h,.refl,λ_=>rfl⟩,.bk aB.bk,fE aB.bk⟩
  ·exact aM t x J
 | @w _ _ _ _ au h hw aB _ aM =>
  intro t x J; simp only [get] at J
  split at J
  ·rename_i e; subst e; cases J; exact ⟨⟨_,h,hw,λh=>by rw [au] at h; cases h⟩,.bk aB.bk,fE aB.bk⟩
  ·exact aM t x J
theorem Trim.e5 {b:Bool}{g:aL}{l:List (Nat × ab)}(h:Trim b g (get l) l):np g (get l) :=
 ⟨λt x J=>by obtain ⟨⟨y,h1,af,_⟩,_⟩:=h.spec t x J; exact ⟨y,h1,af⟩,λt x J=>(h.spec t x J).2.1,λt z q n m new J=>(h.spec t _ J).2.2 _ _ _ _ _ rfl⟩
theorem Trim.keep {g:aL}{l:List (Nat × ab)}(h:Trim false g (get l) l):il g (get l) :=
 ⟨λt x J=>by obtain ⟨⟨y,h1,_,aD⟩,_⟩:=h.spec t x J; rw [<- aD rfl]; exact h1,λt x J=>(h.spec t x J).2.1,λt z q n m new J=>(h.spec t _ J).2.2 _ _ _ _ _ rfl⟩
section
variable {P:Program}{N:cN}{ops:Array Oper}{g:aL}{K:aL->Prop}{l:List Oper}{d:Nat}{op:Op}{ty:TypeId}{pos:String}{after:Array Edge}{x:ab}{gd:Option (Nat × Bool)}
theorem W.bJ {A B:Code}{G:List (Nat × ab)}{Φ:Exit->aL->Prop}(h:W P N A (get G) (pk (λg1=>W P N B g1 Φ) Φ)):W P N (.seq A B) (get G) Φ:=W.seq h
theorem aE.fin {G1:List (Nat × ab)}(h:Trim true g (get G1) G1):aE P N ops [] g λg'=>np g' (get G1):=.nil h.e5
theorem aE.GC {G1:List (Nat × ab)}(h:Trim false g (get G1) G1) (hk:aE P N ops l (get G1) K):aE P N ops l g K:=.forget h.keep hk
theorem aE.v (aq:bT P g op ty x) (bp:N.ok d=true) (aT:g d=none) (aP:dV g ops gd) (hk:aE P N ops l (cR g d x) K):aE P N ops (⟨some d,op,ty,pos,after,gd⟩::l) g K:=.abu aq bp aT aP hk
theorem aE.c (aq:cd P g op x) (bp:N.ok d=true) (aT:g d=none) (aP:dV g ops gd) (hk:aE P N ops l (cR g d x) K):aE P N ops (⟨some d,op,ty,pos,after,gd⟩::l) g K:=.call aq bp aT aP hk
theorem dV.na {j t:Nat}{b c:Bool}(h:(ops[j]?).bind (·.dst)=some t) (aP:g t=some (.lit (.bool c))) (au:c=b):dV g ops (some (j,b)):=by subst au; exact .yes h aP
theorem aE.ps {j t':Nat}{b c:Bool}(h:(ops[j]?).bind (·.dst)=some t') (aP:g t'=some (.lit (.bool c))) (au:c=!b) (bp:N.ok d=true) (aT:g d=none) (hk:aE P N ops l (cR g d (.bS [])) K):aE P N ops (⟨some d,op,ty,pos,after,some (j,b)⟩::l) g K:=by
 subst au; exact .Ed rfl bp aT (r:=some (.bS [])) (.inr (.inl ⟨⟨t',h,.inl ⟨_,aP,by cases b <;> rfl⟩⟩,rfl⟩)) hk
theorem aE.pu {j t':Nat}{b:Bool}(h:(ops[j]?).bind (·.dst)=some t') (aP:g t'=some (.bS [])) (bp:N.ok d=true) (aT:g d=none) (hk:aE P N ops l (cR g d (.bS [])) K):aE P N ops (⟨some d,op,ty,pos,after,some (j,b)⟩::l) g K :=
 .Ed rfl bp aT (r:=some (.bS [])) (.inr (.inl ⟨⟨t',h,.inr ⟨aP,rfl⟩⟩,rfl⟩)) hk
theorem W.eU {t:Nat}{A B:Code}{b:Bool}{G:List (Nat × ab)}{Φ:Exit->aL->Prop}(aa:get G t=some (bg b)) (cU:b=true->W P N A (get G) Φ) (aH:b=false->W P N B (get G) Φ):W P N (.cond (.tmp t) A B) (get G) Φ:=W.UH (.lit aa) cU aH
end
end Go.Own
