/- Parts of the proof that the last text states. -/
import Derived.RowKit3
import Derived.Test.YtaddiiogopnkpaaGreatE2
set_option linter.unusedSectionVars false
namespace Go.Own
open Go
variable [cF]
structure iE (g1 g2:aM):Prop where
 sub:∀ t x,g2 t=some x->g1 t=some x
 b0:∀ t x,g2 t=some x->cW g2 x
 fJ:∀ t z q n m new,g2 t≠some (.bI z q n m new)
structure cP where
 size:Nat
 pins:List Nat
def cP.ok (N:cP) (d:Nat):Bool:=Nat.blt d N.size&&!N.pins.elem d
def ic (N:cP) (T T':Array Value):Prop:=T'.size=T.size/\∀ t∈N.pins,T'[t]?=T[t]?
theorem ic.refl {N:cP}{T:Array Value}:ic N T T:=⟨rfl,λ_ _=>rfl⟩
theorem ic.trans {N:cP}{T Mv Mw:Array Value}(h:ic N T Mv) (h1:ic N Mv Mw):ic N T Mw:=⟨h1.1.trans h.1,λt au=>(h1.2 t au).trans (h.2 t au)⟩
theorem cP.lt {N:cP}{d:Nat}(h:N.ok d=true):d<N.size:=by
 simp_all [cP.ok]
theorem ic.put {N:cP}{d:Nat}(h:N.ok d=true) (T:Array Value) (v:Value):ic N T (T.setIfInBounds d v):=by
 refine ⟨by simp,λt au=>?_⟩
 grind [cP.ok]
def kh (N:cP) (a:Act) (w:World) (I:a') (Fs:Nat->a') (g':aM) (ca:Act) (w':World):Prop :=
 ca.defers=a.defers/\ic N a.tmps ca.tmps/\∃ I' bW,cB w' I' ca.tmps g' bW/\k3 w I (λc=>∃ t,Fs t c) w' I' (λc=>∃ t,bW t c)
theorem u0 {bW:Nat->a'}{d:Nat}{F:a'}{c:Nat}(h:∃ t,wy bW d F t c):(∃ t,bW t c)\/F c:=by
 obtain ⟨t,h⟩:=h;unfold wy at h
 grind
structure Bf (P:Program) (g:aM) (f:FuncId) (all xs0 xs1 args:List ab) (tk:Nat->Bool) (vw:Bool) (g1 g2:aM) (outs:List (Option ab)) (res:ab) (l:List (Place × ab)) (ks:Nat->Nat) (g4:aM):Prop where
 aU:hG P f=true
 C8:xs0.length=all.length
 xU:args.length=all.length
 aK:∀ (k:Nat) (x:ab),all[k]?=some x->xs0[k]?=some x\/xs0[k]?=some .dead
 au:Take g xs0 xs1 g1
 hk:iE g1 g2
 aJ:∀ (k:Nat) (x y:ab),all[k]?=some x->args[k]?=some y->if tk k then xs1[k]?=some y else vw=true/\View g2 x y
 hj:bS P f args outs res
 hr:if vw then j1 res else cG res
 lY:∀ (k:Nat) (x:ab),outs[k]?=some (some x)->if vw then j1 x else cG x
 ah:∀ (j:Nat) (p:Place) (x:ab),l[j]?=some (p,x)->Si g g2 all outs (ks j) p x
 nd:(l.map (·.1)).Nodup
 inj:∀ i j,i<l.length->j<l.length->ks i=ks j->i=j
 KO:iE (qJ g2 l) g4
section
variable {P:Program}{w:World}{I:a'}{T:Array Value}{g:aM}{Fs:Nat->a'}
theorem jG.keep (h:jG w I T g Fs) {g2:aM}(hk:iE g g2):cB w I T g2 (λt c=>g2 t≠none/\Fs t c) :=
 h.aa_ hk.sub hk.b0 λ_ _ _ _ _ _ _ _ _ _ _ h1=>absurd h1 (hk.fJ _ _ _ _ _ _)
structure yQ (g:aM) (d:Nat) (g4 g5:aM):Prop where
 sub:∀ t x,g4 t=some x->g5 t=some x
 new:∀ t x,g5 t=some x->g4 t=some x\/(g4 t=none/\t≠d/\g t=some x/\∃ r k cs,x=.ptr ⟨r,[]⟩ k/\r≠d/\g4 r=some (.obj cs)/\k<cs.length)
theorem yQ.refl {d:Nat}{g4:aM}:yQ g d g4 g4:=⟨λ_ _ h=>h,λ_ _ h=>.inl h⟩
theorem cB.back (h:cB w I T g Fs) {w':World}{I':a'}{d:Nat}{v:Value}{g4 g5:aM}{Mi:Nat->a'}(bm:cB w' I' (T.setIfInBounds d v) g4 Mi) (ar:yQ g d g4 g5):cB w' I' (T.setIfInBounds d v) g5 Mi:=by
 refine ⟨λt x J=>?_,λt au c aa=>?_,bm.ec,bm.bl,bm.lt,λt t' z p n m new bQ cm m' cO h1 af=>?_,bm.hW⟩
 ·rcases ar.new t x J with aI | ⟨h1,af,aE,r,k,cs,rfl,b7,dr,kN⟩
  ·obtain ⟨u,hu,aY⟩:=bm.rel t x aI;exact ⟨u,hu,bm.w8 (λ_ _=>rfl) (λ_ _ _=>rfl) (λ_ _=>rfl) (λ_ h=>h) ar.sub aY λ_ _=>rfl⟩
  ·obtain ⟨u,hu,aY⟩:=h.rel t _ aE;obtain ⟨⟨sN,ad,aw,a2,rfl⟩,_⟩:=(aY.gw (by simp)).n4;have cX:∀ s,s≠d->(T.setIfInBounds d v)[s]?=T[s]?:=λs av=>by rw [Array.getElem?_setIfInBounds_ne (Ne.symm av)]
   refine ⟨_,by rw [cX t af]; exact hu,.tree (.ref rfl ⟨⟨sN,ad,?_,a2,rfl⟩,?_⟩ (bm.lh t h1))⟩
   ·have:dy w T ⟨r,[]⟩=T[r]?:=by
     unfold dy; simp only; cases T[r]? <;> rfl
    rw [this] at aw;unfold dy;simp only [cX r b7,aw,walk]
   ·exact ⟨.obj cs,by simp [bE,ar.sub r _ dr,ab.at],0,0,cs,.inr rfl,kN⟩
 ·cases aI:g4 t with
  | none=>exact bm.lh t aI c aa
  | some y=>rw [ar.sub t y aI] at au; cases au
 ·have:∀ {t z p n m new},g5 t=some (.bI z p n m new)->g4 t=some (.bI z p n m new):=by
   intro t z p n m new J;rcases ar.new t _ J with aI | ⟨_,_,_,r,k,cs,e,_⟩
   ·exact aI
   ·cases e
  exact bm.rF t t' z p n m new bQ cm m' cO (this h1) (this af)
def k1 (P:Program) (N:cP) (g:aM) (o:Oper) (d:Nat) (g5:aM):Prop :=
 ∀ (w:World) (I:a') (T:Array Value) (Fs:Nat->a'),cB w I T g Fs->∀ (a:Act),a.tmps=T->a.tmps.size=N.size->∀ (K:Act->World->Prop) (Q:Exit->Act->World->Prop),
  (∀ (ca:Act) (w':World) (v:Value) (I':a') (bW:Nat->a'),ca.defers=a.defers->ca.tmps=T.setIfInBounds d v->cB w' I' (T.setIfInBounds d v) g5 bW->k3 w I (λc=>∃ t,Fs t c) w' I' (λc=>∃ t,bW t c)->K ca w')->o.wp P a w K Q
theorem Bf.ok {N:cP}{o:Oper}{c:Operand}{xs:Array Operand}{fR:Array TypeId}{d:Nat}{f:FuncId}{first caps ys xs0 xs1 args:List ab}{tk:Nat->Bool}{vw:Bool}{g1 g2 g4 g5:aM}{outs:List (Option ab)}{res:ab}{l:List (Place × ab)}{ks:Nat->Nat}
  (aX:o.op=.call { callee:=.value c,args:=xs,argTypes:=fR }) (aQ:o.dst=some d) (aa:bs g c=some (.cD (.func f) first caps)) (J:hn g xs.toList=some ys)
  (he:Bf P g f (first++ys++caps) xs0 xs1 args tk vw g1 g2 outs res l ks g4) (aN:g4 d=none) (kv:N.ok d=true) (WO:yQ g d (cV g4 d res) g5):k1 P N g o d g5:=by
 intro w I T Fs h a aJ bp K Q c5;obtain ⟨v1,v2,vv,ah,qt⟩:=Ip h aJ aa J;have hA:(execOp a.eval o).run P w=.ok (.enter f (v1++xs.map a.eval++v2)) w:=by
  simp [execOp,aX,resolve,Deferred.ofValue,vv,invoke,zs he.aU]
 generalize xD:(v1++xs.map a.eval++v2).toList=vs at *;generalize Jr:first++ys++caps=all at *
 -- what is taken
 have rb:Hand w I (fp w T) Fs xs0 vs (λ_=>cg):=by
  refine ⟨by rw [he.C8,ah],λk x u J hu=>?_,λ_ _ _ _ _ h=>h.elim,λ_ _ _ _ h=>h.elim,λ_ _ _ h=>h.elim⟩;have hk:k<all.length:=by rw [<- he.C8]; exact (List.getElem?_eq_some_iff.1 J).1
  have Cc:=List.getElem?_eq_getElem hk;rcases he.aK k _ Cc with aK | aK
  ·rw [aK] at J; cases J;exact (qt k _ u Cc hu).frame (λ_ _=>rfl) (λ_ h=>h) (λ_ _ h=>h.1) λ_ _=>rfl
  ·rw [aK] at J; cases J;exact .dead λ_ h=>h
 obtain ⟨fx,H1,iZ,iv,hq⟩:=he.au.sound h.mZ rb;have Og:∀ c,lI fx xs1.length H1 c->∃ t,Fs t c:=by
  intro c aa;rcases hq c aa with aI | ⟨_,_,aI⟩
  ·exact aI
  ·exact aI.elim
 have iw:=iZ.keep he.hk;generalize VW:(λt c=>g2 t≠none/\fx t c)=jY at iw;have N3:∀ t c,jY t c->fx t c:=by intro t c aa; rw [<- VW] at aa; exact aa.2
 have zN:xs1.length=all.length:=by rw [he.au.length,he.C8]
 -- what the callee sees
 let EI:a':=λc=>I c\/(vw=true/\∃ t,jY t c)
 let yX:Nat->a':=λt c=>t<all.length/\tk t=true/\H1 t c;have t_:∀ t c,yX t c->(∀ s,¬ jY s c)/\¬ I c/\∃ t,Fs t c:=by
  rintro t c ⟨h1,af,aE⟩;exact ⟨λs av=>iv.off t s c (by omega) aE (N3 s c av),iv.bl t c (by omega) aE,Og c (.inr ⟨t,by omega,aE⟩)⟩
 have OY:∀ (ρ':ab->Value->Prop) (k:Nat) (y:ab) (u:Value),args[k]?=some y->vs[k]?=some u->R w EI ρ' y u (yX k):=by
  intro ρ' k y u ao hu;have hk:k<all.length:=by rw [<- he.xU]; exact (List.getElem?_eq_some_iff.1 ao).1
  have Cc:=List.getElem?_eq_getElem hk;have:=he.aJ k _ y Cc ao
  split at this
  ·rename_i au;have oF:cG y:=he.au.Ah y (List.mem_of_getElem? this);exact (((iv.rel k y u this hu).bn oF).oa λc aa=>.inl aa).zu λc=>⟨λaa=>⟨hk,au,aa⟩,λaa=>aa.2.2⟩
  ·rename_i au;obtain ⟨hv,XY⟩:=this;have gu:R w I (fp w T) all[k] u cg:=(qt k _ u Cc hu).frame (λ_ _=>rfl) (λ_ h=>h) (λ_ _ h=>h.1) λ_ _=>rfl;have:=View.Rg iw.mZ XY gu (λ_ h=>h.elim) ρ';refine (this.oa (I':=EI) λc aa=>?_).zu λc=>⟨λh=>h.elim,λaa=>absurd aa.2.1 au⟩;rcases aa with aI | aI
   ·exact .inl aI
   ·exact .inr ⟨hv,aI⟩
 have Wj:cB w EI vs.toArray (sV args) yX:=by
  refine ⟨λt x J=>?_,λt au c aa=>?_,λt t' c aa et=>iv.ec t t' c (by have:=aa.1; omega) (by have:=et.1; omega) aa.2.2 et.2.2,λt c aa hi=>?_,λc aa=>?_,λt t' z p n m new bQ cm m' cO h1 af=>?_,cF.keep h.hW (λ_ _=>rfl) λ_ h=>.inl h⟩
  ·have au:t<args.length:=(List.getElem?_eq_some_iff.1 J).1;have hu:vs[t]?=some (vs[t]'(by rw [<- ah,<- he.xU]; exact au)):=List.getElem?_eq_getElem _;exact ⟨_,by rw [List.getElem?_toArray]; exact hu,.tree (OY _ t x _ J hu)⟩
  ·have hle:args.length<=t:=by simpa [sV] using au
   have:=aa.1; have:=he.xU; omega
  ·obtain ⟨h1,af,_⟩:=t_ t c aa;rcases hi with aI | ⟨_,s,aI⟩
   ·exact af aI
   ·exact h1 s aI
  ·rcases aa with aI | ⟨_,s,aI⟩
   ·exact h.lt c aI
   ·exact iw.jc s c aI
  ·have au:t<args.length:=(List.getElem?_eq_some_iff.1 h1).1;have hu:vs[t]?=some (vs[t]'(by rw [<- ah,<- he.xU]; exact au)):=List.getElem?_eq_getElem _;exact (OY (λ_ _=>False) t _ _ h1 hu).lD.elim
 have pK:=he.hj.2 w EI vs yX (by rw [<- ah,he.xU]) Wj;unfold Oper.wp Oper.upon;simp only [hA];rw [<- xD,Array.toArray_toList] at pK;refine Calls.mono pK ?_;rintro e w' ⟨v,I',bW,rfl,d',bU⟩;rw [xD] at d';have mi:outs.length=all.length:=by rw [he.hj.1,he.xU]
 have pO:vs.length=all.length:=ah.symm
 -- the blocks behind the call
 have QU:∀ t c,jY t c->w'.heap[c]?=w.heap[c]?:=λt c aa=>bU.dM.block c (iw.jc t c aa) λ⟨s,av⟩=>(t_ s c av).1 t aa;have rM:∀ c,I c->w'.heap[c]?=w.heap[c]?:=λc aa=>bU.dM.block c (h.lt c aa) λ⟨s,av⟩=>(t_ s c av).2.1 aa
 let If:a':=λc=>if vw then I c else I' c
 have Lc:∀ t c,bW t c->(∃ s,yX s c)\/w.heap.size<=c:=λt c aa=>bU.own c ⟨t,aa⟩;have P9:∀ t c,bW t c->∀ s,¬ jY s c:=by
  intro t c aa s av;rcases Lc t c aa with ⟨cz,aI⟩ | aI
  ·exact (t_ cz c aI).1 s av
  ·have:=iw.jc s c av; omega
 have P_:∀ t c,bW t c->¬ If c:=by
  intro t c aa hi;cases vw with
  | true =>
   simp only [If,if_true] at hi;rcases Lc t c aa with ⟨cz,aI⟩ | aI
   ·exact (t_ cz c aI).2.1 hi
   ·have:=h.lt c hi; omega
  | false =>
   simp only [If,Bool.false_eq_true,if_false] at hi;exact d'.bl t c aa hi
 have N8:∀ c,If c->I c\/(∃ s,yX s c)\/w.heap.size<=c:=by
  intro c aa;cases vw with
  | true=>simp only [If,if_true] at aa; exact .inl aa
  | false =>
   simp only [If,Bool.false_eq_true,if_false] at aa;rcases bU.new c aa with aI | aI | aI
   ·rcases aI with aI | ⟨aI,_⟩
    ·exact .inl aI
    ·cases aI
   ·exact .inr (.inl aI)
   ·exact .inr (.inr aI)
 have Je:∀ c,I c->If c:=by
  intro c aa;cases vw with
  | true=>simp only [If,if_true]; exact aa
  | false=>simp only [If,Bool.false_eq_true,if_false]; exact bU.more c (.inl aa)
 have Wf:cB w' If T g2 jY:=by
  have:=iw.world (w':=w') QU rM bU.dM.size;refine ⟨λt x J=>?_,this.lh,this.ec,λt c aa hi=>?_,λc aa=>?_,this.rF,cF.keep h.hW rM Je⟩
  ·obtain ⟨v,hv,aY⟩:=this.rel t x J;exact ⟨v,hv,aY.frame (λ_ _=>rfl) Je (λ_ _ h=>h) (λ_ _ _ _ _ _ _=>rfl) λ_ _=>rfl⟩
  ·rcases N8 c hi with aI | ⟨s,aI⟩ | aI
   ·exact iw.bl t c aa aI
   ·exact (t_ s c aI).1 t aa
   ·have:=iw.jc t c aa; omega
  ·cases vw with
   | true=>simp only [If,if_true] at aa; exact Nat.lt_of_lt_of_le (h.lt c aa) bU.dM.size
   | false=>simp only [If,Bool.false_eq_true,if_false] at aa; exact d'.lt c aa
 -- what comes back in the arguments, and the result
 have MW:∀ {x:ab}{u:Value}{F:a'}{ρ ρ':ab->Value->Prop},R w' I' ρ x u F->(if vw then j1 x else cG x)->R w' If ρ' x u F:=by
  intro x u F ρ ρ' aY J;cases vw with
  | true=>simp only [if_true] at J; exact aY.l3 J
  | false =>
   simp only [Bool.false_eq_true,if_false] at J;refine (aY.bn J).oa λc aa=>?_;simpa [If] using aa
 have Dj:∀ {x:ab},(if vw then j1 x else cG x)->∀ z p n m new,x≠.bI z p n m new:=by
  rintro x J z p n m new rfl;cases vw with
  | true=>simp only [if_true] at J; cases J
  | false=>simp only [Bool.false_eq_true,if_false] at J; cases J
 have Ze:∀ (k:Nat) (x:ab) (u:Value),outs[k]?=some (some x)->vs[k]?=some u->R w' If (fp w' T) x u (bW k):=by
  intro k x u J hu;have hk:k<outs.length:=(List.getElem?_eq_some_iff.1 J).1;obtain ⟨sM,h0,aY⟩:=d'.rel k x (by simp only [kS,if_neg (Nat.ne_of_lt hk),J]; rfl);have:sM=u:=by
   rw [List.getElem?_toArray,List.getElem?_append_left (by rw [pO,<- mi]; exact hk),hu] at h0;exact (Option.some.inj h0).symm
  subst this;exact MW (aY.gw (Dj (he.lY k x J))) (he.lY k x J)
 obtain ⟨LU,FL,nv⟩:=d'.rel outs.length res (by simp [kS]);have XU:LU=v:=by
  have e:outs.length=vs.length:=by omega
  rw [e] at FL;simpa using FL.symm
 subst XU
 -- back into the places
 obtain ⟨yY,B_,Ft⟩:=jG.qJ (w:=w') (I:=If) (T:=T) l (λj=>bW (ks j)) (λj=>vs.getD (ks j) undef) Wf.mZ he.nd (λj p x ag=>by
   have L:=he.ah j p x ag;have hk:ks j<outs.length:=(List.getElem?_eq_some_iff.1 L.out).1;have hu:vs[ks j]?=some (vs[ks j]'(by rw [pO,<- mi]; exact hk)):=List.getElem?_eq_getElem _;have s6:vs.getD (ks j) undef=vs[ks j]'(by rw [pO,<- mi]; exact hk):=by simp [List.getD,hu]
   refine ⟨L.MP,?_,?_,λi e=>?_⟩
   ·rw [s6,iw.yJ (w':=w') (λ_ _=>rfl) QU L.MP];rcases L.arg with ⟨z,n,cs,h1,af⟩ | ⟨cs,h1,af⟩
    ·exact S2 h (qt _ _ _ h1 hu) af
    ·exact S1 h (qt _ _ _ h1 hu) af
   ·rw [s6]; exact Ze _ x _ L.out hu
   ·exact L.jx i e)
  (λj t c ag aa=>P9 _ c aa t) (λj c ag aa=>P_ _ c aa) (λi j c hi ag h1 af=>he.inj i j hi ag (d'.ec _ _ c h1 af))
 have Wg:=B_.keep he.KO;have Y9:∀ t c,bW outs.length c->¬ (g4 t≠none/\yY t c):=by
  rintro t c aa ⟨_,bm⟩;rcases Ft t c bm with aI | ⟨j,ag,aI⟩
  ·exact P9 _ c aa t aI
  ·have hk:ks j<outs.length:=by
    have xr:=List.getElem?_eq_getElem ag;exact (List.getElem?_eq_some_iff.1 (he.ah j _ _ xr).out).1
   have:=d'.ec _ _ c aa aI;omega
 have oG:=Wg.uN (d:=d) (x:=res) (v:=LU) (F:=bW outs.length) aN (by rw [<- aJ,bp]; exact cP.lt kv) (.tree (MW (nv.gw (Dj he.hr)) he.hr)) Y9 (λc aa=>P_ _ c aa) (λz p n m new e=>absurd e (Dj he.hr z p n m new));refine c5 _ _ LU If _ (by rw [aQ]; rfl) (by rw [aQ]; simp [Act.put,aJ]) (h.back oG WO) ⟨?_,Je,λc aa=>?_,λc aa=>?_⟩
 ·exact bU.dM.mono λb _ ⟨s,av⟩=>(t_ s b av).2.2
 ·rcases N8 c aa with aI | ⟨s,aI⟩ | aI
  ·exact .inl aI
  ·exact .inr (.inl (t_ s c aI).2.2)
  ·exact .inr (.inr aI)
 ·have fin:∀ t,bW t c->(∃ s,Fs s c)\/w.heap.size<=c:=by
   intro t au;rcases Lc t c au with ⟨s,aI⟩ | aI
   ·exact .inl (t_ s c aI).2.2
   ·exact .inr aI
  rcases u0 aa with ⟨t,_,aI⟩ | aI
  ·rcases Ft t c aI with hb | ⟨j,_,hb⟩
   ·exact .inl (Og c (.inl ⟨t,N3 t c hb⟩))
   ·exact fin _ hb
  ·exact fin _ aI
structure R0 (g:aM) (d r k0:Nat) (g4 g5:aM):Prop where
 sub:∀ t x,g4 t=some x->g5 t=some x
 new:∀ t x,g5 t=some x->g4 t=some x\/(g4 t=none/\t≠d/\g t=some x/\∃ m z n cs,x=.ptr ⟨r,[k0]⟩ m/\bE g4 ⟨r,[k0]⟩=some (.own z n cs)/\m<cs.length)
theorem k1.Vj {N:cP}{o:Oper}{r k0 d:Nat}{y:ab}{cs:List ab}{g5:aM}(hr:g r=some (.obj cs)) (ao:cs[k0]?=some y) (xI:cG y) (ly:∀ i,y≠.self i)
  (vF:∀ v:Value,v.oneCell'=true->∃ g1 g4 vl,iE (ct g ⟨r,[k0]⟩ (.lit v)) g1/\k1 P N g1 o d g4/\bE g4 ⟨r,[k0]⟩=some (.lit v)/\iE (ct g4 ⟨r,[k0]⟩ y) vl/\bE vl ⟨r,[k0]⟩=some y/\R0 g d r k0 vl g5):k1 P N g o d g5:=by
 intro w I T Fs h a aJ bp K Q c5;have lx:∀ z q n m new,y≠.bI z q n m new:=by rintro z q n m new rfl; cases xI
 have fI:bE g ⟨r,[k0]⟩=some y:=by simp [bE,hr,ab.at,ab.kids,ao]
 obtain ⟨v,cq,hv,dt,c_,put⟩:=h.mZ.part fI lx;have qA:v.oneCell'=true:=by
  obtain ⟨u,hu,nu⟩:=h.rel r _ hr;obtain ⟨b,sM,h1,af,aE,bm,_⟩:=R.node (z:=0) (n:=0) (nu.gw (by simp)) (.inr rfl) ao;have:dy w T ⟨r,[k0]⟩=child w u k0:=by
   unfold dy;simp only [hu,walk];cases child w u k0 <;> rfl
  rw [this,aE] at hv;cases hv;exact bm
 obtain ⟨fx,iZ,xa,B1⟩:=put (.lit v) cg (.lit qA λ_ h=>h) (λ_ h=>h.elim) (λ_ h=>h.elim) (λ_ _ _ h=>h.elim) (λ_ h=>by cases h);obtain ⟨g1,g4,vl,gz,c6,Js,JP,aed,ar⟩:=vF v qA;have sK:∀ t c,fx t c->Fs t c/\¬ cq c:=by
  intro t c aa;by_cases au:t=r
  ·subst au;rcases (xa c).1 aa with aI | aI
   ·exact aI
   ·exact aI.elim
  ·rw [B1 t au] at aa;exact ⟨aa,λaU=>au (h.ec t r c aa (c_ c aU))⟩
 have Jl:=iZ.keep gz;refine c6 w I T _ Jl a aJ bp K Q λca w' dK I' bW II w7 d' bU=>?_;obtain ⟨v2,iT,tb,mO,VV,Ln⟩:=d'.mZ.part Js (by simp);have Kg:v2=v:=mO.hM.1;subst Kg;have Jc:∀ c,cq c->¬ I c:=λc aa=>h.bl r c (c_ c aa);have xc:∀ c,cq c->c<w.heap.size:=λc aa=>h.jc r c (c_ c aa);have x4:∀ c,cq c->¬ ∃ t,(g1 t≠none/\fx t c):=λc aa ⟨t,_,aI⟩=>(sK t c aI).2 aa;have Dl:∀ t c,bW t c->¬ cq c:=by
  intro t c aa aU;rcases bU.own c ⟨t,aa⟩ with aI | aI
  ·exact x4 c aU aI
  ·have:=xc c aU; omega
 have K_:∀ c,cq c->¬ I' c:=by
  intro c aa hi;rcases bU.new c hi with aI | aI | aI
  ·exact Jc c aa aI
  ·exact x4 c aa aI
  ·have:=xc c aa; omega
 have Lx:∀ c,cq c->w'.heap[c]?=w.heap[c]?:=λc aa=>bU.dM.block c (xc c aa) (x4 c aa);have rM:∀ c,I c->w'.heap[c]?=w.heap[c]?:=λc aa=>bU.dM.block c (h.lt c aa) λ⟨t,_,aI⟩=>h.bl t c (sK t c aI).1 aa;have B9:R w' I' (fp w' (T.setIfInBounds d dK)) y v2 cq :=
  ((dt.bn xI).frame rM bU.more (λ_ _ h=>h) Lx)
 obtain ⟨Mj,Jm,I8,I9⟩:=Ln y cq B9 (λc aa aU=>(Dl _ c aU aa).elim) (λc aa=>K_ c aa) (λt c _ aa aU=>Dl t c aU aa) (λi e=>absurd e (ly i));have s4:=Jm.keep JP;have XW:dy w' (T.setIfInBounds d dK) ⟨r,[k0]⟩=some v2:=tb;have Wh:cB w' I' (T.setIfInBounds d dK) g5 (λt c=>vl t≠none/\Mj t c):=by
  refine ⟨λt x J=>?_,λt au c aa=>?_,s4.ec,s4.bl,s4.lt,λt t' z p n m new bQ cm m' cO h1 af=>?_,s4.hW⟩
  ·rcases ar.new t x J with aI | ⟨h1,af,aE,m,z,n,cs2,rfl,b7,dr⟩
   ·obtain ⟨u,hu,aY⟩:=s4.rel t x aI;exact ⟨u,hu,s4.w8 (λ_ _=>rfl) (λ_ _ _=>rfl) (λ_ _=>rfl) (λ_ h=>h) ar.sub aY λ_ _=>rfl⟩
   ·obtain ⟨u,hu,aY⟩:=h.rel t _ aE;obtain ⟨⟨sN,ad,aw,a2,rfl⟩,_⟩:=(aY.gw (by simp)).n4;rw [hv] at aw;cases aw;refine ⟨_,by rw [Array.getElem?_setIfInBounds_ne (Ne.symm af)]; exact hu,.tree (.ref rfl ⟨⟨v2,ad,XW,a2,rfl⟩,?_⟩ (s4.lh t h1))⟩;refine ⟨.own z n cs2,?_,z,n,cs2,.inl rfl,dr⟩;unfold Own.bE at b7 ⊢;cases fc:vl r with
    | none=>simp only [fc] at b7; cases b7
    | some x'=>simp only [fc] at b7; simp only [ar.sub r x' fc]; exact b7
  ·cases aI:vl t with
   | none=>exact aa.1 aI
   | some y=>rw [ar.sub t y aI] at au; cases au
  ·have:∀ {t z p n m new},g5 t=some (.bI z p n m new)->vl t=some (.bI z p n m new):=by
    intro t z p n m new J;rcases ar.new t _ J with aI | ⟨_,_,_,m,z,n,cs2,e,_⟩
    ·exact aI
    ·cases e
   exact s4.rF t t' z p n m new bQ cm m' cO (this h1) (this af)
 refine c5 ca w' dK I' _ II w7 Wh ⟨?_,bU.more,λc aa=>?_,λc aa=>?_⟩
 ·exact bU.dM.mono λb _ ⟨t,_,aI⟩=>⟨t,(sK t b aI).1⟩
 ·rcases bU.new c aa with aI | ⟨t,_,aI⟩ | aI
  ·exact .inl aI
  ·exact .inr (.inl ⟨t,(sK t c aI).1⟩)
  ·exact .inr (.inr aI)
 ·obtain ⟨t,_,aa⟩:=aa;have:(∃ t,bW t c)\/cq c:=by
   by_cases au:t=r
   ·subst au;rcases (I8 c).1 aa with ⟨aI,_⟩ | aI
    ·exact .inl ⟨_,aI⟩
    ·exact .inr aI
   ·rw [I9 t au] at aa; exact .inl ⟨t,aa⟩
  rcases this with aI | aI
  ·rcases bU.own c aI with ⟨t,_,hb⟩ | hb
   ·exact .inl ⟨t,(sK t c hb).1⟩
   ·exact .inr hb
  ·exact .inl ⟨r,c_ c aI⟩
end
def o4:ab->Option (List ab)
 | .agg cs=>some cs
 | .lit v=>some [.lit v]
 | .aS=>some [.aS]
 | .bl z n cs=>some [.bl z n cs]
 | .own z n cs=>some [.own z n cs]
 | .obj cs=>some [.obj cs]
 | .cx cs=>some [.cx cs]
 | .cD f a b=>some [.cD f a b]
 | _=>none
def hF (P:Program) (t:TypeId) (m:Nat):Bool :=
 match P.info? t with
 | some i=>i.size == m
 | none=>false
def h7 (P:Program) (N:cP) (g:aM) (o:Oper) (g':aM):Prop :=
 ∀ (w:World) (I:a') (T:Array Value) (Fs:Nat->a'),cB w I T g Fs->∀ (a:Act),a.tmps=T->a.tmps.size=N.size->∀ (K:Act->World->Prop) (Q:Exit->Act->World->Prop),
  (∀ (ca:Act) (w':World),kh N a w I Fs g' ca w'->(∀ t,o.dst≠some t->ca.tmps[t]?=a.tmps[t]?)->K ca w')->o.wp P a w K Q
inductive bj (P:Program) (N:cP) (g:aM):Oper->aM->Prop
 | assign {o:Oper}{d:Nat}{x:Operand}{y bF y':ab}{g1 g2:aM}(aX:o.op=.assign x) (aQ:o.dst=some d) (J:bs g x=some y) (au:Take g [y] [bF] g1) (aW:gX bF y') (hk:iE g1 g2) (aN:g2 d=none) (bp:N.ok d=true):bj P N g o (cV g2 d y')
 | S8 {o:Oper}{d:Nat}{x:Operand}{y:ab}{g2:aM}(aX:o.op=.assign x) (aQ:o.dst=some d) (J:bs g x=some y) (hk:iE g g2) (ao:cW g2 y) (aN:g2 d=none) (bp:N.ok d=true):bj P N g o (cV g2 d y)
 | store {o:Oper}{t:TypeId}{ad val:Operand}{p:Place}{k z n:Nat}{y bF y' nd:ab}{cs cs':List ab}{g1 g2:aM}(aX:o.op=.store t ad val) (aQ:o.dst=none) (fE:bs g ad=some (.ptr p k)) (oK:bs g val=some y) (au:Take g [y] [bF] g1) (o':gX bF y')
   (aa:o4 y'=some cs') (av:hF P t cs'.length=true) (aq:bE g1 p=some nd) (eG:nd=.own z n cs\/nd=.obj cs) (hk:k+cs'.length<=cs.length) (aK:0<cs'.length)
   (zJ:∀ t x,g2 t=some x->ct g1 p (nd.e4 k cs') t=some x) (sg:∀ t x,g2 t=some x->∀ y,g1 t=some y->jE (λr=>gE g1 r/\Clear p k cs'.length r/\gE g2 r) y) (lx:∀ t z q n m new,g2 t≠some (.bI z q n m new)) (j9:g2 p.root≠none):bj P N g o g2
 | call {o:Oper}{d:Nat}{g5:aM}(aQ:o.dst=some d) (bp:N.ok d=true) (h:k1 P N g o d g5):bj P N g o g5
 | LD {o:Oper}{g2:aM}(h:h7 P N g o g2):bj P N g o g2
theorem TZ {y:ab}{cs:List ab}(h:sT y) (aa:o4 y=some cs):tE cs:=by
 have one:∀ {x:ab},(∀ j,x≠.self j)->tE [x]:=λJ k j e=>by
  cases k with
  | zero=>simp only [List.getElem?_cons_zero,Option.some.injEq] at e; exact J j e
  | succ k=>simp at e
 cases y <;> simp only [Go.Own.o4,Option.some.injEq,reduceCtorEq] at aa <;> subst aa
 all_goals first | exact h _ rfl | exact one (by simp)
theorem View.Dm {g:aM}{x y:ab}(h:View g x y) (J:sT x):sT y:=by
 intro cs e k j hk;cases h with
 | self=>exact J _ e k j hk
 | agg ah h=>cases e; exact J _ rfl k j (Gk ah h (λ_ _ _=>View.jx) k j hk)
 | _=>cases e
theorem gX.Dm {x y:ab}(h:gX x y) (J:sT x):sT y:=by
 intro cs e k j hk;cases h with
 | refl=>exact J _ e k j hk
 | pe _ h=>exact h.Dm J _ e k j hk
 | agg ah h=>cases e; exact J _ rfl k j (Gk ah h (λ_ _ _=>gX.jx) k j hk)
 | _=>cases e
section
variable {P:Program}{w:World}{I:a'}{T:Array Value}{g:aM}{Fs:Nat->a'}
theorem Hand.one {y:ab}{v:Value}(aY:R w I (dz w T g) y v cg):Hand w I (fp w T) Fs [y] [v] (λ_=>cg) :=
 ⟨rfl,λk x u J hu=>by
  cases k with
  | zero=>simp at J hu; subst J hu; exact aY.frame (λ_ _=>rfl) (λ_ h=>h) (λ_ _ h=>h.1) λ_ _=>rfl
  | succ k=>simp at J,λ_ _ _ _ _ h=>h.elim,λ_ _ _ _ h=>h.elim,λ_ _ _ h=>h.elim⟩
theorem Hand.GN {ρ:ab->Value->Prop}{y:ab}{v:Value}{dm:Nat->a'}(h:Hand w I ρ Fs [y] [v] dm):R w I ρ y v (dm 0):=h.rel 0 y v rfl rfl
theorem Hand.cells {y:ab}{v:Value}{dm:Nat->a'}(h:Hand w I (fp w T) Fs [y] [v] dm) (aC:cG y) {cs:List ab}(aa:o4 y=some cs) :
  ∃ yZ,Hand w I (fp w T) Fs cs v.cells.toList yZ/\(∀ x∈cs,cG x)/\(∀ (j:Nat) (u:Value),v.cells.toList[j]?=some u->u.oneCell'=true)/\∀ j c,j<cs.length->yZ j c->dm 0 c:=by
 have aY:=h.GN;have single:∀ {x:ab},y=x->v.oneCell'=true->∃ yZ,Hand w I (fp w T) Fs [x] v.cells.toList yZ/\(∀ z∈[x],cG z)/\(∀ (j:Nat) (u:Value),v.cells.toList[j]?=some u->u.oneCell'=true)/\∀ j c,j<[x].length->yZ j c->dm 0 c:=by
  rintro x rfl h1;have Fx:v.cells=#[v]:=by cases v <;> first | rfl | (simp [Value.oneCell'] at h1)
  grind
 cases y <;> simp only [o4,Option.some.injEq,reduceCtorEq] at aa
 case agg l =>
  subst aa;cases aY with
  | ref J=>simp [ab.isRef] at J
  | @agg _ vs bD _ ah h1 hr aQ aH =>
   have eE:∀ k c,k<l.length->bD k c->dm 0 c:=λk c hk aa=>(aH c).2 ⟨k,hk,aa⟩;refine ⟨bD,⟨by simp [Value.cells,ah],λk x u J hu=>hr k x u J (by simpa [Value.cells] using hu),aQ,λk t c hk aa=>h.off 0 t c (by simp) (eE k c hk aa),λk c hk aa=>h.bl 0 c (by simp) (eE k c hk aa)⟩,?_,λj u hu=>h1 j u (by simpa [Value.cells] using hu),eE⟩;cases aC with | agg h=>exact h
 case lit a=>subst aa; exact single rfl (by obtain ⟨rfl,h1⟩:=aY.hM; exact h1)
 case aS=>subst aa; exact single rfl (by rw [aY.rv]; rfl)
 case bl z n l=>subst aa; exact single rfl (by obtain ⟨a,cap,rfl,_⟩:=aY.z1; rfl)
 case own z n l=>subst aa; exact single rfl (by obtain ⟨a,cap,rfl,_⟩:=aY.od; rfl)
 case cx l=>subst aa; exact single rfl (by obtain ⟨ad,us,rfl,_⟩:=aY.xM; rfl)
 case obj l =>
  subst aa;refine single rfl ?_;cases aY with
  | ref J=>simp [ab.isRef] at J
  | obj=>rfl
 case cD f a b =>
  subst aa;refine single rfl ?_;cases aY with
  | ref J=>simp [ab.isRef] at J
  | cD=>rfl
theorem jF.oa {I':a'}{ρ:ab->Value->Prop}{x:ab}{v:Value}{F:a'}(h:jF w I ρ x v F) (bc:∀ c,I c->I' c):jF w I' ρ x v F:=by
 cases h with
 | tree h=>exact .tree (h.oa bc)
 | bI h=>exact .bI ⟨h.ju,h.kP,h.mT,h.ah,h.h1,λk x u J hu=>(h.hr k x u J hu).oa bc,h.aH⟩
theorem NP {g1:aM}{fx:Nat->a'}{H1:Nat->a'}{bF y':ab}{v:Value}(bf:jG w I T g1 fx) (hH:Hand w I (fp w T) fx [bF] [v] H1) (aC:cG bF) (aW:gX bF y') :
  ∃ (I':a') (tD:a'),(∀ c,I c->I' c)/\(∀ c,I' c->I c\/H1 0 c)/\jG w I' T g1 fx/\Hand w I' (fp w T) fx [y'] [v] (λ_=>tD)/\∀ c,tD c->H1 0 c:=by
 have aY:=hH.GN;obtain ⟨tD,hL,iL⟩:=R.dN aW aY aC (λc aa=>hH.bl 0 c (by simp) aa) bf.lt bf.hW;refine ⟨λc=>I c\/(H1 0 c/\¬ tD c),tD,λc aa=>.inl aa,λc aa=>aa.elim .inl λh=>.inr h.1,⟨λt x J=>?_,bf.lh,bf.ec,λt c aa hi=>?_,λc aa=>?_,cF.keep bf.hW (λ_ _=>rfl) λ_ h=>.inl h⟩,⟨rfl,λk x u J hu=>?_,λj k c ag hk _ _=>by simp at ag hk; omega,λk t c hk aa aU=>hH.off 0 t c (by simp) (hL c aa) aU,λk c hk aa hi=>?_⟩,hL⟩
 ·obtain ⟨u,hu,nu⟩:=bf.rel t x J;exact ⟨u,hu,nu.oa λc aa=>.inl aa⟩
 ·rcases hi with h | ⟨h,_⟩
  ·exact bf.bl t c aa h
  ·exact hH.off 0 t c (by simp) h aa
 ·rcases aa with h | ⟨h,_⟩
  ·exact bf.lt c h
  ·exact aY.lt c h
 ·cases k with
  | zero=>simp at J hu; subst J hu; exact iL
  | succ k=>simp at J
 ·rcases hi with h | ⟨_,h⟩
  ·exact hH.bl 0 c (by simp) (hL c aa) h
  ·exact h aa
theorem bj.jJ {N:cP}{o:Oper}{g':aM}(he:bj P N g o g'):h7 P N g o g':=by
 intro w I T Fs h a aJ bp K Q c5;cases he with
 | LD he=>exact he w I T Fs h a aJ bp K Q c5
 | @call d _ aQ kv aa =>
  refine aa w I T Fs h a aJ bp K Q λca w' v I' bW h1 af aE bm=>c5 ca w' ⟨h1,by rw [af,<- aJ]; exact ic.put kv _ _,I',bW,by rw [af]; exact aE,bm⟩ λt au=>?_;rw [af,aJ,Array.getElem?_setIfInBounds_ne];rintro rfl;exact au aQ
 | @assign d x y bF y' g1 g2 aX aQ J au aW hk aN kv =>
  have aY:=kd h J aJ;obtain ⟨fx,H1,re,rb,hq⟩:=au.sound h.mZ (Hand.one aY);have xw:cG bF:=au.Ah bF (by simp);obtain ⟨I',tD,oD,Jd,iZ,iv,hL⟩:=NP re rb xw aW;have oF:cG y':=aW.bn xw;have iw:=iZ.keep hk;have oG:=iw.uN (d:=d) (x:=y') (v:=a.eval x) (F:=tD) aN (by rw [<- aJ,bp]; exact cP.lt kv) (.tree (iv.GN.bn oF)) (λt c aa aU=>iv.off 0 t c (by simp) aa aU.2) (λc aa=>iv.bl 0 c (by simp) aa) (by rintro z p n m new rfl; cases oF);have hA:(execOp a.eval o).run P w=.ok (.value (a.eval x)) w:=by simp [execOp,aX]
  unfold Oper.wp Oper.upon;simp only [hA];have fq:∀ c,H1 0 c->∃ t,Fs t c:=λc aa=>by
   rcases hq c (.inr ⟨0,by simp,aa⟩) with hb | ⟨_,_,hb⟩
   ·exact hb
   ·exact hb.elim
  refine c5 _ _ ⟨by rw [aQ]; rfl,by rw [aQ]; exact ic.put kv _ _,I',_,by rw [aQ]; simpa [Act.put,aJ] using oG,⟨Fr.refl _ _,oD,λc aa=>(Jd c aa).elim .inl λh=>.inr (.inl (fq c h)),λc aa=>?_⟩⟩ λt au=>by rw [aQ]; simp only [Act.put]; rw [Array.getElem?_setIfInBounds_ne]; rintro rfl; exact au aQ
  rcases u0 aa with ⟨t,_,aI⟩ | aI
  ·rcases hq c (.inl ⟨t,aI⟩) with hb | ⟨_,_,hb⟩
   ·exact .inl hb
   ·exact hb.elim
  ·exact .inl (fq c (hL c aI))
 | @S8 d x y g2 aX aQ J hk ao aN kv =>
  have aY:=kd h J aJ;have iw:=h.mZ.keep hk;have iL:R w I (dz w T g2) y (a.eval x) cg:=(aY.frame (ρ':=fp w T) (λ_ _=>rfl) (λ_ h=>h) (λ_ _ h=>h.1) λ_ _=>rfl).b0 ao;have oG:=iw.uN (d:=d) (x:=y) (v:=a.eval x) (F:=cg) aN (by rw [<- aJ,bp]; exact cP.lt kv) (.tree iL) (λ_ _ h=>h.elim) (λ_ h=>h.elim) (by rintro z p n m new rfl; exact iL.lD.elim);have hA:(execOp a.eval o).run P w=.ok (.value (a.eval x)) w:=by simp [execOp,aX]
  unfold Oper.wp Oper.upon;simp only [hA];refine c5 _ _ ⟨by rw [aQ]; rfl,by rw [aQ]; exact ic.put kv _ _,I,_,by rw [aQ]; simpa [Act.put,aJ] using oG,⟨Fr.refl _ _,λ_ h=>h,λ_ h=>.inl h,λc aa=>?_⟩⟩ λt au=>by rw [aQ]; simp only [Act.put]; rw [Array.getElem?_setIfInBounds_ne]; rintro rfl; exact au aQ
  rcases u0 aa with ⟨t,_,aI⟩ | aI
  ·exact .inl ⟨t,aI⟩
  ·exact aI.elim
 | @store t ad val p k z n y bF y' nd cs cs' g1 _ aX aQ fE oK au o' aa av aq eG hk aK zJ sg lx j9 =>
  have nv:=kd h oK aJ;obtain ⟨⟨u,abW,hu,vq,sa⟩,_⟩:=(kd h fE aJ).n4;obtain ⟨fx,H0,re,rb,Jr⟩:=au.sound h.mZ (Hand.one nv);have xw:cG bF:=au.Ah bF (by simp);obtain ⟨I',tD,oD,Jd,iZ,iv,XQ⟩:=NP re rb xw o';have oF:cG y':=o'.bn xw;have fq:∀ c,H0 0 c->∃ t,Fs t c:=λc aa=>by
   rcases Jr c (.inr ⟨0,by simp,aa⟩) with hb | ⟨_,_,hb⟩
   ·exact hb
   ·exact hb.elim
  have hq:∀ c,lI fx 1 (λ_=>tD) c->lI Fs [y].length (λ_=>cg) c:=by
   rintro c (⟨t,aa⟩ | ⟨_,_,aa⟩)
   ·exact Jr c (.inl ⟨t,aa⟩)
   ·exact .inl (fq c (XQ c aa))
  obtain ⟨yZ,N7,JB,hz,V2⟩:=iv.cells oF aa;have lD:∀ z q n m new,nd≠.bI z q n m new:=by rcases eG with rfl | rfl <;> simp
  obtain ⟨v,cq,hv,dt,c_,_⟩:=iZ.part aq lD;rw [hu] at hv;cases hv;obtain ⟨b,gy,ar,_⟩:=dt.node eG (List.getElem?_eq_getElem (show k<cs.length by omega));rw [vq] at ar;cases ar;have k_:∃ e arr,w.heap[b]?=some (.cells arr e (0,0))/\cs.length<=arr.size:=by
   rcases eG with rfl | rfl
   ·cases dt with
    | ref J=>simp [ab.isRef] at J
    | own rm ah =>
     obtain ⟨nz,bO⟩:=rm;rcases bO with ⟨rfl,_⟩ | ⟨dR,cap,cur,rfl,_,jy,AX,yr,GF,D1⟩
     ·simp [addrOf] at vq
     ·simp only [addrOf,Option.some.injEq,Addr.mk.injEq,and_true] at vq;subst vq;refine ⟨_,cur,jy,?_⟩;rw [ah,<- D1,List.length_take]; simp; omega
   ·cases dt with
    | ref J=>simp [ab.isRef] at J
    | obj rm ah =>
     simp only [addrOf,Option.some.injEq,Addr.mk.injEq,and_true] at vq;subst vq;exact ⟨_,_,rm,by omega⟩
  obtain ⟨e,arr,k_,hle⟩:=k_;obtain ⟨jY,iw,hL⟩:=iZ.store aq eG hk N7 JB (λ_=>TZ (o'.Dm (au.Dm (by simpa using La oK) bF (by simp))) aa) hz zJ sg lx j9 hu vq k_;have hT:(a.eval val).cells.toList.length=cs'.length:=N7.len.symm;have bU:=run_storeCells_at P b k e (a.eval val).cells.toList 0 arr w k_ (by omega) (λu hu=>by
   obtain ⟨j,ag,rfl⟩:=List.mem_iff_getElem.1 hu;exact hz j _ (List.getElem?_eq_getElem ag))
  simp only [Nat.add_zero] at bU;have fr:(sizeOf t).run P w=.ok cs'.length w:=by
   unfold hF at av;cases hi:P.info? t with
   | none=>simp [hi] at av
   | some i=>simp [hi] at av; simp [sizeOf,typeInfo,hi,av]
  have hA:(execOp a.eval o).run P w=.ok .skip (w.setRow b (e4 arr.toList k (a.eval val).cells.toList).toArray):=by
   have eY:(a.eval val).cells.size=cs'.length:=by rw [<- Array.length_toList]; exact hT
   simp only [Nat.zero_add] at sa;simp [execOp,aX,sa,Instr.storeAt,Instr.sureAddr,storeVar,fr,eY,bU,e4]
  unfold Oper.wp Oper.upon;simp only [hA];have ue:∃ t,Fs t b:=by
   rcases hq b (.inl ⟨_,c_ b (dt.Gj eG (ad:=⟨b,0,none⟩) vq)⟩) with aI | ⟨_,_,aI⟩
   ·exact aI
   ·exact aI.elim
  refine c5 _ _ ⟨by rw [aQ]; rfl,by rw [aQ]; exact ic.refl,I',jY,by rw [aQ]; simpa [Act.put,aJ] using iw,⟨⟨rfl,rfl,rfl,by simp,λc _ aa=>setRow_other w b c _ (λe=>aa (e ▸ ue)),λa _ _=>NQ w b _ a,Nat.le_refl _⟩,oD,λc aa=>(Jd c aa).elim .inl λh=>.inr (.inl (fq c h)),λc ⟨t,aa⟩=>?_⟩⟩ λt _=>by rw [aQ]; rfl
  rcases hL t c aa with aI | ⟨j,ag,aI⟩
  ·rcases hq c (.inl ⟨t,aI⟩) with hb | ⟨_,_,hb⟩
   ·exact .inl hb
   ·exact hb.elim
  ·rcases hq c (.inr ⟨0,by simp,V2 j c ag aI⟩) with hb | ⟨_,_,hb⟩
   ·exact .inl hb
   ·exact hb.elim
theorem bj.sound (h:cB w I T g Fs) {a:Act}(aJ:a.tmps=T) {N:cP}(bp:a.tmps.size=N.size) {o:Oper}{g':aM}(he:bj P N g o g') {K:Act->World->Prop}{Q:Exit->Act->World->Prop}
  (c5:∀ ca w',kh N a w I Fs g' ca w'->K ca w'):o.wp P a w K Q:=he.jJ w I T Fs h a aJ bp K Q λca w' h _=>c5 ca w' h
end
def oW (g g':aM):Prop:=∀ t x,g t=some x->g' t=some x
section
variable {P:Program}{g g':aM}
theorem ei (h:oW g g') {x:Operand}{y:ab}(ao:bs g x=some y):bs g' x=some y:=by
 cases x <;> simp only [bs] at ao ⊢
 case tmp t =>
  cases J:g t with
  | none=>rw [J] at ao; cases ao
  | some z=>rw [J] at ao; rw [h t z J]; exact ao
 case const v=>exact ao
 case global n=>exact ao
 case func f=>exact ao
theorem Ak (h:oW g g'):∀ {xs:List Operand}{ys:List ab},hn g xs=some ys->hn g' xs=some ys
 | [],_,ao=>ao
 | x::xs,ys,ao=>by
  simp only [hn] at ao ⊢;cases J:bs g x with
  | none=>simp [J] at ao
  | some y =>
   cases sr:hn g xs with
   | none=>simp [J,sr] at ao
   | some Es=>simp only [J,sr] at ao; simp only [ei h J,Ak h sr]; exact ao
theorem Qo (h:oW g g'):∀ {l:List (Nat × Operand)}{ps:List (Nat × List ab)},rC g l=some ps->rC g' l=some ps
 | [],_,ao=>ao
 | (i,x)::l,ps,ao=>by
  simp only [rC] at ao ⊢;cases J:bs g x with
  | none=>simp [J] at ao
  | some y =>
   cases sr:rC g l with
   | none=>simp [J,sr] at ao
   | some Es=>simp only [J,sr] at ao; simp only [ei h J,Qo h sr]; exact ao
theorem p7.mono (h:oW g g') {d:Nat}{x:Option Operand}{j:Nat}(ar:p7 g d x j):p7 g' d x j:=by
 cases x with
 | none=>exact ar
 | some o=>obtain ⟨k,hk⟩:=ar; exact ⟨k,ei h hk⟩
theorem dj.mono (h:oW g g') {op:Op}{ty:TypeId}{x:ab}(aq:dj P g op ty x):dj P g' op ty x:=by
 cases aq with
 | move J=>exact .move (ei h J)
 | assign J=>exact .assign (ei h J)
 | pick aa hr=>exact .pick (ei h aa) (ei h hr)
 | Gi J=>exact .Gi (ei h J)
 | qF J=>exact .qF (ei h J)
 | BT J aU c6=>exact .BT (ei h J) aU (c6.mono h)
 | Fi J aU=>exact .Fi (ei h J) aU
 | IS J aU au ao=>exact .IS (ei h J) aU au ao
 | IT J aU au hk=>exact .IT (ei h J) aU au hk
 | FU J hi au ag=>exact .FU (ei h J) (ei h hi) au ag
 | FT J hi au ag c6=>exact .FT (ei h J) (ei h hi) au ag (c6.mono h)
 | Ky J hi au ag c6=>exact .Ky (ei h J) (ei h hi) au ag (c6.mono h)
 | FR J hi au ag c6=>exact .FR (ei h J) (ei h hi) au ag (c6.mono h)
 | Kx J hi au ag=>exact .Kx (ei h J) (ei h hi) au ag
 | F9 J au=>exact .F9 (ei h J) au
 | F_ J au hk=>exact .F_ (ei h J) au hk
 | C' J au ao=>exact .C' (ei h J) au (k6 h ao)
 | z' J au ao aa hm=>exact .z' (ei h J) au (k6 h ao) aa hm
 | FV J hi au ar=>exact .FV (ei h J) (ei h hi) au ar
 | bin J ao hv hr=>exact .bin (ei h J) (ei h ao) hv hr
 | Bx J ao hv hr=>exact .Bx (ei h J) (ei h ao) hv hr
 | un J hv hr=>exact .un (ei h J) hv hr
 | conv J hv hr=>exact .conv (ei h J) hv hr
 | Iv J aq aC eY au=>exact .Iv (ei h J) (k6 h aq) aC eY au
 | Fb J au=>exact .Fb (ei h J) au
 | @IN xs fR _ f vs v J hv hr =>
  refine .IN (vs:=vs) ?_ hv hr;apply List.ext_getElem?;intro k;have:=congrArg (·[k]?) J;simp only [List.getElem?_map] at this ⊢;rw [<- this];cases hk:xs.toList[k]? with
  | none=>rfl
  | some o =>
   rw [hk] at this;cases hv:vs[k]? with
   | none=>rw [hv] at this; cases this
   | some v =>
    rw [hv] at this;simp only [Option.map_some,Option.some.injEq] at this ⊢;rw [this,ei h this]
 | Fg J ao=>exact .Fg (ei h J) ao
 | Ec J ah bO au h1 af=>exact .Ec (ei h J) (ah.mono h) (bO.mono h) au h1 af
 | G7 J ah bO au aC c6=>exact .G7 (ei h J) (ah.mono h) (bO.mono h) au aC (c6.mono h)
 | G6 J ah bO au h1 af c6=>exact .G6 (ei h J) (ah.mono h) (bO.mono h) au h1 af (c6.mono h)
 | G8 J ah bO au h1 af=>exact .G8 (ei h J) (ah.mono h) (bO.mono h) au h1 af
 | F6 J au=>exact .F6 (ei h J) au
 | F5 J au=>exact .F5 (ei h J) au
 | KU J au=>exact .KU (ei h J) au
 | KT J au=>exact .KT (ei h J) au
 | F8 J aq ao c5 aY hr=>exact .F8 (ei h J) (k6 h aq) (ei h ao) c5 aY hr
 | KW J ao c5 aY hr=>exact .KW (ei h J) (ei h ao) c5 aY hr
 | @lits b xs fR _ vs v J hv hr =>
  refine .lits (vs:=vs) ?_ hv hr;clear hr;generalize xs.toList=l at J
  induction l generalizing vs with
  | nil=>exact J
  | cons x l aO =>
   cases vs with
   | nil=>simp at J
   | cons v vs =>
    simp only [List.map_cons,List.cons.injEq] at J ⊢;exact ⟨ei h J.1,aO J.2⟩
theorem ov.mono (h:oW g g') {op:Op}{ty:TypeId}{x:ab}(aq:ov P g op ty x):ov P g' op ty x:=by
 cases aq with
 | box J aa=>exact .box (ei h J) aa
 | alloc aW h1=>exact .alloc aW h1
 | HS aW aa=>exact .HS aW aa
 | HT aW aa=>exact .HT aW aa
 | H5 J aa aK h1=>exact .H5 (ei h J) aa aK h1
 | makeMap a_=>exact .makeMap a_
 | buildSlice au aq J aW aa ar aC hzero=>exact .buildSlice au aq (Ak h J) aW aa ar aC hzero
 | makeSlice au J ao hzero h1 l0 ar aC rh uv FQ=>exact .makeSlice au (ei h J) (ei h ao) hzero h1 l0 ar aC rh uv FQ
theorem u_.mono (h:oW g g') {op:Op}{ty:TypeId}{x:ab}(aq:u_ P g op ty x):u_ P g' op ty x:=by
 cases aq with
 | build au aW h1 aq aa=>exact .build au aW h1 (Qo h aq) aa
 | makeFunc aJ ar=>exact .makeFunc (Ak h aJ) (Ak h ar)
theorem Src.mono (h:oW g g') {y:ab}{z m:Nat}{cells:List ab}(av:Src g y z m cells):Src g' y z m cells:=by
 cases av with
 | bl=>exact .bl
 | aS=>exact .aS
 | a6 a_ hm=>exact .a6 (k6 h a_) hm
 | sub a_ hm=>exact .sub (k6 h a_) hm
theorem cf.mono (h:oW g g') {op:Op}{ty:TypeId}{x:ab}(aq:cf P g op ty x) (eN:∀ z p n m new,x=.bI z p n m new->∀ t bQ cm m' cO,g' t≠some (.bI bQ p cm m' cO)):cf P g' op ty x:=by
 cases aq with
 | eD aq=>exact .eD (aq.mono h)
 | sC aq=>exact .sC (aq.mono h)
 | Dp aq=>exact .Dp (aq.mono h)
 | l4 aq =>
  cases aq with
  | grow av c6 _ J oI au o7 ar=>exact .l4 (.grow (ei h av) (c6.mono h) (eN _ _ _ _ _ rfl) (ei h J) (oI.mono h) au o7 ar)
  | nil av J oI au o7 ar=>exact .l4 (.nil (ei h av) (ei h J) (oI.mono h) au o7 ar)
theorem View.mono (h:oW g g') {x y:ab}(hv:View g x y):View g' x y:=by
 induction hv with
 | qF=>exact .qF
 | self h1 af aE bm b7 dr=>exact .self h1 af aE bm b7 dr
 | mp=>exact .mp
 | gm aq=>exact .gm (k6 h aq)
 | agg ah _ aO=>exact .agg ah aO
 | own ah _ aO=>exact .own ah aO
 | obj ah _ aO=>exact .obj ah aO
 | cD ah _ aO=>exact .cD ah aO
 | a6 aq aC ah _ aO=>exact .a6 (k6 h aq) aC ah aO
 | sub aq aC ah _ aO=>exact .sub (k6 h aq) aC ah aO
 | ptr aq ao hk ah _ aO=>exact .ptr (k6 h aq) ao hk ah aO
 | rows aq ah _ aO=>exact .rows (aq.mono (λaq=>k6 h aq) h) ah aO
theorem cp.mono (h:oW g g') {op:Op}{x:ab}(aq:cp P g op x):cp P g' op x:=by
 cases aq with
 | plain aa J aU aC hj hr=>exact .plain (ei h aa) (Ak h J) aU aC hj hr
 | cl J oI aW aU mQ xj aa aC=>exact .cl (ei h J) (oI.mono h) aW aU mQ xj aa aC
 | F7 aa J aU ah hv hj hr=>exact .F7 (ei h aa) (Ak h J) aU ah (λk x y J ao=>(hv k x y J ao).mono h) hj hr
def iH (g:aM) (ops:Array Oper) (o:Oper) (b:Bool):Prop :=
 match o.guard with
 | none=>b=true
 | some (j,want)=>∃ t,(ops[j]?).bind (·.dst)=some t/\((∃ c,g t=some (.lit (.bool c))/\b=(c == want))\/(g t=some (.bR [])/\b=false))
theorem iH.mono (h:oW g g') {ops:Array Oper}{o:Oper}{b:Bool}(hw:iH g ops o b):iH g' ops o b:=by
 unfold iH at *;split
 ·rename_i aN; rw [aN] at hw; exact hw
 ·rename_i j want aN;rw [aN] at hw;obtain ⟨t,h1,⟨c,af,aE⟩ | ⟨af,aE⟩⟩:=hw
  ·exact ⟨t,h1,.inl ⟨c,h t _ af,aE⟩⟩
  ·exact ⟨t,h1,.inr ⟨h t _ af,aE⟩⟩
theorem iH.sound {w:World}{I:a'}{T:Array Value}{Fs:Nat->a'}(bf:cB w I T g Fs) {ops:Array Oper}{o:Oper}{b:Bool}(hw:iH g ops o b):Region.wanted o (yielded ops T)=b:=by
 unfold iH at hw;unfold Region.wanted
 split at hw
 ·rename_i aN; rw [aN]; exact hw.symm
 ·rename_i j want aN;rw [aN];obtain ⟨t,h1,⟨c,af,aE⟩ | ⟨af,aE⟩⟩:=hw
  ·obtain ⟨v,hv,aY⟩:=bf.rel _ _ af;have:=(aY.gw (by simp)).hM.1;subst this;subst aE;simp only [yielded,h1,Option.bind_some,hv];cases c <;> cases want <;> rfl
  ·obtain ⟨v,hv,aY⟩:=bf.rel _ _ af;have:∃ vs,v=.tuple vs:=by
    cases aY.gw (by simp) with
    | bR=>exact ⟨_,rfl⟩
    | ref J=>simp [ab.isRef] at J
   obtain ⟨vs,rfl⟩:=this;subst aE;simp only [yielded,h1,Option.bind_some,hv];cases want <;> rfl
def qe (P:Program) (g:aM) (ops:Array Oper) (o:Oper):Option ab->Prop
 | none=>iH g ops o false
 | some x=>(iH g ops o true/\(cf P g o.op o.type x\/cp P g o.op x))\/(iH g ops o false/\x=.bR [])\/(iH g ops o true/\∃ y,(cf P g o.op o.type y\/cp P g o.op y)/\cG y/\View (λ_=>none) y x)
theorem qe.mono (h:oW g g') {ops:Array Oper}{o:Oper}{r:Option ab}(av:qe P g ops o r) (eN:∀ z p n m new,r=some (.bI z p n m new)->∀ t bQ cm m' cO,g' t≠some (.bI bQ p cm m' cO)):qe P g' ops o r:=by
 cases r with
 | none=>exact iH.mono h av
 | some x =>
  rcases av with av | ⟨av,J⟩ | ⟨av,y,aq,aC,hv⟩
  ·refine .inl ⟨av.1.mono h,?_⟩;rcases av.2 with aq | aq
   ·exact .inl (aq.mono h λz p n m new e=>eN z p n m new (by rw [e]))
   ·exact .inr (aq.mono h)
  ·exact .inr (.inl ⟨av.mono h,J⟩)
  ·refine .inr (.inr ⟨av.mono h,y,?_,aC,hv⟩);rcases aq with aq | aq
   ·exact .inl (aq.mono h λz p n m new e=>by subst e; cases aC)
   ·exact .inr (aq.mono h)
def leaf:ab->Bool
 | .own .. | .obj .. | .agg .. | .bR .. | .bI .. | .mp .. | .hY ..=>false
 | _=>true
def del (g:aM) (d:Nat):aM:=λt=>if t=d then none else g t
theorem YN {x y:ab}(h:leaf x=true):∀ {q:List Nat},x.at q=some y->y=x
 | [],ao=>by simpa [ab.at] using ao.symm
 | k::q,ao=>by
  have:x.kids=[]:=by cases x <;> first | rfl | simp [leaf] at h
  simp [ab.at,this] at ao
theorem zj {d:Nat}{x:ab}(aQ:g d=some x) (ah:leaf x=true) {p:Place}{y:ab}(aq:bE g p=some y) (ao:leaf y=false):bE (del g d) p=some y:=by
 have hr:p.root≠d:=by
  intro e;unfold bE at aq;rw [e,aQ] at aq;rw [YN ah aq,ah] at ao;cases ao
 simp only [bE,del,if_neg hr] at aq ⊢;exact aq
theorem gE.del {d:Nat}{x:ab}(aQ:g d=some x) (ah:leaf x=true) {r:ab}(h:gE g r):gE (del g d) r:=by
 have root:∀ {t:Nat}{y:ab},g t=some y->leaf y=false->Own.del g d t=some y:=by
  intro t y au ao;have:t≠d:=by
   rintro rfl;rw [aQ] at au;cases au;rw [ah] at ao; cases ao
  simp only [Own.del,if_neg this,au]
 cases r <;> simp only [gE] at h ⊢
 case ptr p k =>
  obtain ⟨y,ao,z,n,cs,ef,hk⟩:=h;exact ⟨y,zj aQ ah ao (by rcases ef with rfl | rfl <;> rfl),z,n,cs,ef,hk⟩
 case a6 z p n =>
  rcases h with ⟨N,cs,ao,aC⟩ | ⟨h1,q,gN,m,new,af,aE⟩
  ·exact .inl ⟨N,cs,zj aQ ah ao rfl,aC⟩
  ·exact .inr ⟨h1,q,gN,m,new,root af rfl,aE⟩
 case sub z p lo n =>
  obtain ⟨N,cs,ao,aC⟩:=h;exact ⟨N,cs,zj aQ ah ao rfl,aC⟩
 case gm p=>obtain ⟨q,h⟩:=h; exact ⟨q,zj aQ ah h rfl⟩
 case bI z p n m new =>
  rcases h with ⟨cs,ao⟩ | ⟨h1,q,gN,m,new,cs,af,aE,bm⟩
  ·exact .inl ⟨cs,zj aQ ah ao rfl⟩
  ·exact .inr ⟨h1,q,gN,m,new,cs,root af rfl,aE,zj aQ ah bm rfl⟩
theorem R.YM {w:World}{I:a'}{ρ:ab->Value->Prop}{x:ab}{v:Value}{F:a'}(h:R w I ρ x v F) (ah:leaf x=true):∀ c,¬ F c:=by
 cases h with
 | own | obj | agg | bR | mp | hY=>simp [leaf] at ah
 | lit _ aH | aS aH | dead aH | mv aH | ref _ _ aH | gK aH | bl aH | cx aH | cD aH | imp aH=>exact aH
theorem cB.drop {w:World}{I:a'}{T:Array Value}{Fs:Nat->a'}(h:cB w I T g Fs) {d:Nat}{x:ab}(aQ:g d=some x) (ah:leaf x=true):cB w I T (del g d) Fs:=by
 refine ⟨λt y ao=>?_,λt au c aa=>?_,h.ec,h.bl,h.lt,λt t' z p n m new bQ cm m' cO h1 af=>?_,h.hW⟩
 ·have pd:g t=some y:=by
   unfold del at ao
   split at ao
   ·cases ao
   ·exact ao
  obtain ⟨v,hv,aY⟩:=h.rel t y pd;exact ⟨v,hv,aY.frame (λ_ _=>rfl) (λ_ h=>h) (λ_ _ hr=>⟨hr.1,hr.2.del aQ ah⟩) (λ_ _ _ _ _ _ _=>rfl) λ_ _=>rfl⟩
 ·unfold del at au
  split at au
  ·rename_i e;subst e;obtain ⟨v,hv,aY⟩:=h.rel t x aQ;exact (aY.gw (by rintro z p n m new rfl; simp [leaf] at ah)).YM ah c aa
  ·exact h.lh t au c aa
 ·have key:∀ {t:Nat}{y:ab},del g d t=some y->g t=some y:=by
   intro t y ao;unfold del at ao
   split at ao
   ·cases ao
   ·exact ao
  exact h.rF _ _ _ _ _ _ _ _ _ _ _ (key h1) (key af)
end
def yp (g:aM) (d:Nat):Option ab->aM
 | some x=>cV g d x
 | none=>g
section
variable {P:Program}{w:World}{I:a'}{T:Array Value}{g:aM}{Fs:Nat->a'}{N:cP}{ops:Array Oper}
theorem k3.refl (w:World) (I U:a'):k3 w I U w I U:=⟨Fr.refl _ _,λ_ h=>h,λ_ h=>.inl h,λ_ h=>.inl h⟩
theorem k3.trans {w hX gU:World}{I Bj EH U zg My:a'}(h:k3 w I U hX Bj zg) (h1:k3 hX Bj zg gU EH My):k3 w I U gU EH My:=by
 have mX:∀ c,c<w.heap.size->zg c->U c:=λc aa hu=>by
  rcases h.own c hu with aI | aI
  ·exact aI
  ·omega
 refine ⟨h.dM.trans h1.dM mX,λc aa=>h1.more c (h.more c aa),λc aa=>?_,λc aa=>?_⟩
 ·rcases h1.new c aa with aI | aI | aI
  ·exact h.new c aI
  ·rcases h.own c aI with hb | hb
   ·exact .inr (.inl hb)
   ·exact .inr (.inr hb)
  ·exact .inr (.inr (Nat.le_trans h.dM.size aI))
 ·rcases h1.own c aa with aI | aI
  ·exact h.own c aI
  ·exact .inr (Nat.le_trans h.dM.size aI)
theorem kh.trans {N:cP}{a aw a2:Act}{hX gU:World}{Bj:a'}{fx:Nat->a'}{g2:aM}(h1:aw.defers=a.defers) (af:ic N a.tmps aw.tmps) (bU:k3 w I (λc=>∃ t,Fs t c) hX Bj (λc=>∃ t,fx t c)) (h:kh N aw hX Bj fx g2 a2 gU):kh N a w I Fs g2 a2 gU:=by
 obtain ⟨b9,b3,EH,jY,bf,pc⟩:=h;exact ⟨b9.trans h1,af.trans b3,EH,jY,bf,bU.trans pc⟩
theorem cB.ZL (h:cB w I T g Fs) {d:Nat}(aQ:g d=none) (v:Value):cB w I (T.setIfInBounds d v) g Fs:=by
 have cX:∀ t,g t≠none->(T.setIfInBounds d v)[t]?=T[t]?:=by
  intro t au;rw [Array.getElem?_setIfInBounds_ne];rintro rfl; exact au aQ
 refine ⟨λt x J=>?_,h.lh,h.ec,h.bl,h.lt,h.rF,h.hW⟩;obtain ⟨u,hu,aY⟩:=h.rel t x J;exact ⟨u,by rw [cX t (by rw [J]; simp)]; exact hu,h.w8 cX (λ_ _ _=>rfl) (λ_ _=>rfl) (λ_ h=>h) (λ_ _ h=>h) aY λ_ _=>rfl⟩
structure HJ (dN:Nat->Bool) (g g2:aM):Prop where
 mX:∀ t x,g2 t=some x->dN t=false->g t=some x/\cW g2 x
 pe:∀ t x,g2 t=some x->dN t=true->∃ y,g t=some y/\cG y/\gX y x
 fJ:∀ t z q n m new,g2 t≠some (.bI z q n m new)
theorem cB.zz (h:cB w I T g Fs) {dN:Nat->Bool}{g2:aM}(aW:HJ dN g g2):∃ I' bW,cB w I' T g2 bW/\k3 w I (λc=>∃ t,Fs t c) w I' (λc=>∃ t,bW t c):=by
 have ra:=h.mZ;have Dj:∀ t x,g2 t=some x->∀ z p n m new,x≠.bI z p n m new:=by
  rintro t x J z p n m new rfl;exact aW.fJ _ _ _ _ _ _ J
 -- of each slot what it owns from now on
 have:∀ t,∃ cU:a',(∀ c,cU c->Fs t c/\g2 t≠none)/\∀ x,g2 t=some x->(dN t=false->∀ c,Fs t c->cU c)/\∃ v,T[t]?=some v/\R w (λc=>I c\/(Fs t c/\¬ cU c)) (dz w T g2) x v cU:=by
  intro t;cases J:g2 t with
  | none=>exact ⟨cg,λ_ h=>h.elim,λx h=>by cases h⟩
  | some x =>
   cases au:dN t with
   | false =>
    obtain ⟨h1,af⟩:=aW.mX t x J au;obtain ⟨v,hv,aY⟩:=ra.rel t x h1;refine ⟨Fs t,λc aa=>⟨aa,by simp⟩,λy ao=>?_⟩;cases ao;exact ⟨λ_ _ h=>h,v,hv,((aY.gw (Dj t x J)).b0 af).oa λc aa=>.inl aa⟩
   | true =>
    obtain ⟨y,h1,af,aE⟩:=aW.pe t x J au;obtain ⟨v,hv,aY⟩:=ra.rel t y h1;have iL:=aY.gw (by rintro z p n m new rfl; cases af);obtain ⟨cU,av,We⟩:=R.dN aE iL af (λc aa=>ra.bl t c aa) ra.lt ra.hW;refine ⟨cU,λc aa=>⟨av c aa,by simp⟩,λz aW=>?_⟩;cases aW;exact ⟨λh=>absurd h (by simp),v,hv,We.bn (aE.bn af)⟩
 obtain ⟨bW,jt⟩:=Classical.axiomOfChoice this;refine ⟨λc=>I c\/∃ t,Fs t c/\g2 t≠none/\¬ bW t c,bW,⟨λt x J=>?_,λt au c aa=>((jt t).1 c aa).2 au,λt t' c aa et=>h.ec t t' c ((jt t).1 c aa).1 ((jt t').1 c et).1,λt c aa hi=>?_,λc aa=>?_,λt t' z p n m new bQ cm m' cO h1 _=>absurd h1 (aW.fJ _ _ _ _ _ _),cF.keep h.hW (λ_ _=>rfl) λ_ h=>.inl h⟩,Fr.refl _ _,λ_ h=>.inl h,λc aa=>?_,λc ⟨t,aa⟩=>.inl ⟨t,((jt t).1 c aa).1⟩⟩
 ·obtain ⟨_,v,hv,aY⟩:=(jt t).2 x J;exact ⟨v,hv,.tree (aY.oa λc aa=>aa.elim .inl λaa=>.inr ⟨t,aa.1,by rw [J]; simp,aa.2⟩)⟩
 ·rcases hi with aI | ⟨s,h1,_,af⟩
  ·exact h.bl t c ((jt t).1 c aa).1 aI
  ·have:=h.ec t s c ((jt t).1 c aa).1 h1;subst this;exact af aa
 ·rcases aa with aI | ⟨s,aI,_⟩
  ·exact h.lt c aI
  ·exact h.jc s c aI
 ·rcases aa with aI | ⟨s,aI,_⟩
  ·exact .inl aI
  ·exact .inr (.inl ⟨s,aI⟩)
theorem qe.sound (h:cB w I T g Fs) {a:Act}(aJ:a.tmps=T) (bp:a.tmps.size=N.size) {o:Oper}{r:Option ab}{d:Nat}(av:qe P g ops o r) (aQ:o.dst=some d) (aN:g d=none) (kv:N.ok d=true) {K:Act->World->Prop}{Q:Exit->Act->World->Prop}
  (c5:∀ ca w',kh N a w I Fs (yp g d r) ca w'->K ca w') :
  if Region.wanted o (yielded ops a.tmps) then o.wp P a w K Q\/(o.asks P a w/\LetsOut Q) else K (a.put o.dst undef) w:=by
 subst aJ;cases r with
 | none =>
  rw [iH.sound h av];simp only [Bool.false_eq_true,if_false];refine c5 _ _ ⟨by rw [aQ]; rfl,by rw [aQ]; exact ic.put kv _ _,I,Fs,by rw [aQ]; exact h.ZL aN _,k3.refl _ _ _⟩
 | some x =>
  have fin:∀ x v w',tC w I a.tmps g Fs x v w'->(∀ ca w',kh N a w I Fs (cV g d x) ca w'->K ca w')->K (a.put o.dst v) w':=by
   rintro x v w' ⟨F,I',bf,aY,h1,af,aE,bm,b7,dr⟩ c5;refine c5 _ _ ⟨by rw [aQ]; rfl,by rw [aQ]; exact ic.put kv _ _,I',_,by rw [aQ]; exact bf.uN aN (by rw [bp]; exact cP.lt kv) aY (λt c aa aU=>h1 t c aa aU) (λc aa=>(af c aa).2) dr,⟨b7,aE,λc aa=>?_,λc aa=>?_⟩⟩
   ·rcases bm c aa with aI | aI
    ·exact .inl aI
    ·exact .inr (.inr aI)
   ·rcases u0 aa with aI | aI
    ·exact .inl aI
    ·exact .inr (af c aI).1
  have pe:∀ y v w',cG y->View (λ_=>none) y x->tC w I a.tmps g Fs y v w'->tC w I a.tmps g Fs x v w':=by
   rintro y v w' aC hv ⟨F,I',bf,aY,h1,af,aE,bm,b7,dr⟩;have dt:=aY.gw (by rintro z p n m new rfl; cases aC);refine ⟨cg,λc=>I' c\/F c,⟨λt z aW=>?_,bf.lh,bf.ec,λt c aa hi=>?_,λc aa=>?_,bf.rF,cF.keep bf.hW (λ_ _=>rfl) λ_ h=>.inl h⟩,.tree (dt.pe aC hv (λc aa=>(af c aa).2) bf.lt bf.hW),λ_ _ h=>h.elim,λ_ h=>h.elim,λc aa=>.inl (aE c aa),λc aa=>?_,b7,?_⟩
   ·obtain ⟨u,hu,nu⟩:=bf.rel t z aW;exact ⟨u,hu,nu.oa λc aa=>.inl aa⟩
   ·rcases hi with h | h
    ·exact bf.bl t c aa h
    ·exact h1 t c h aa
   ·rcases aa with h | h
    ·exact bf.lt c h
    ·exact dt.lt c h
   ·rcases aa with h | h
    ·exact bm c h
    ·exact .inr (af c h).1
   ·rintro z p n m new rfl;cases hv with
    | self h=>cases h
  rcases av with av | ⟨av,rfl⟩ | ⟨av,y,aq,aC,hv⟩
  rotate_left
  rotate_left
  ·rw [iH.sound h av];simp only [if_true];refine .inl ?_;have NJ:∀ v w',tC w I a.tmps g Fs y v w'->K (a.put o.dst v) w':=λv w' dh=>fin x v w' (pe y v w' aC hv dh) c5;rcases aq with aq | aq
   ·obtain ⟨v,w',hA,dh⟩:=aq.sound h rfl;unfold Oper.wp Oper.upon;simp only [hA];exact NJ v w' dh
   ·exact aq.sound h rfl NJ
  rotate_left
  ·rw [iH.sound h av];simp only [Bool.false_eq_true,if_false];refine c5 _ _ ⟨by rw [aQ]; rfl,by rw [aQ]; exact ic.put kv _ _,I,_,by rw [aQ]; exact h.uN aN (by rw [bp]; exact cP.lt kv) (.tree (.bR (Fs:=λ_=>cg) (F:=cg) rfl (λk x u J _=>by simp at J) (λ_ _ _ _ _ h=>h.elim) (λc=>⟨λh=>h.elim,λ⟨_,_,h⟩=>h⟩))) (λ_ _ h=>h.elim) (λ_ h=>h.elim) (λ_ _ _ _ _ e=>by cases e),⟨Fr.refl _ _,λ_ h=>h,λ_ h=>.inl h,λc aa=>?_⟩⟩;rcases u0 aa with aI | aI
   ·exact .inl aI
   ·exact aI.elim
  rw [iH.sound h av.1];simp only [if_true];refine .inl ?_;have fin:∀ v w',tC w I a.tmps g Fs x v w'->K (a.put o.dst v) w':=by
   rintro v w' ⟨F,I',bf,aY,h1,af,aE,bm,b7,dr⟩;refine c5 _ _ ⟨by rw [aQ]; rfl,by rw [aQ]; exact ic.put kv _ _,I',_,by rw [aQ]; exact bf.uN aN (by rw [bp]; exact cP.lt kv) aY (λt c aa aU=>h1 t c aa aU) (λc aa=>(af c aa).2) dr,⟨b7,aE,λc aa=>?_,λc aa=>?_⟩⟩
   ·rcases bm c aa with aI | aI
    ·exact .inl aI
    ·exact .inr (.inr aI)
   ·rcases u0 aa with aI | aI
    ·exact .inl aI
    ·exact .inr (af c aI).1
  rcases av.2 with aq | aq
  ·obtain ⟨v,w',hA,dh⟩:=aq.sound h rfl;unfold Oper.wp Oper.upon;simp only [hA];exact fin v w' dh
  ·exact aq.sound h rfl fin
inductive oZ (P:Program) (N:cP) (ops:Array Oper):List Nat->aM->aM->Prop
 | nil {g:aM}:oZ P N ops [] g g
 | step {i:Nat}{rest:List Nat}{g g':aM}{o:Oper}{d:Nat}{r:Option ab}(aX:ops[i]?=some o) (aQ:o.dst=some d) (aN:g d=none) (kv:N.ok d=true) (av:qe P g ops o r)
   (hr:oZ P N ops rest (yp g d r) g'):oZ P N ops (i::rest) g g'
 | jJ {i:Nat}{rest:List Nat}{g g1 g':aM}{o:Oper}(aX:ops[i]?=some o) (hw:iH g ops o true) (he:bj P N g o g1) (hr:oZ P N ops rest g1 g'):oZ P N ops (i::rest) g g'
 | drop {is:List Nat}{g g':aM}{d:Nat}{x:ab}(aQ:g d=some x) (ah:leaf x=true) (hr:oZ P N ops is (del g d) g'):oZ P N ops is g g'
 | forget {is:List Nat}{g g1 g':aM}(hk:iE g g1) (hr:oZ P N ops is g1 g'):oZ P N ops is g g'
 | zz {is:List Nat}{g g1 g':aM}{dN:Nat->Bool}(hk:HJ dN g g1) (hr:oZ P N ops is g1 g'):oZ P N ops is g g'
theorem oZ.sound {is:List Nat}{g':aM}(hr:oZ P N ops is g g'):∀ {a:Act}{w:World}{I:a'}{Fs:Nat->a'}{Q:Exit->Act->World->Prop},cB w I a.tmps g Fs->a.tmps.size=N.size ->
  (∀ ca w',kh N a w I Fs g' ca w'->Q .normal ca w')->wpOps P ops Q is a w:=by
 induction hr with
 | nil=>exact λbf bp ew=>ew _ _ ⟨rfl,ic.refl,_,_,bf,k3.refl _ _ _⟩
 | @step i rest g g' o d r aX aQ aN kv av _ aO =>
  intro a w I Fs Q bf bp ew;simp only [wpOps,aX];refine av.sound bf rfl bp aQ aN kv λca w' aC=>?_;obtain ⟨b9,b3,I',bW,d',bU⟩:=aC;exact aO d' (b3.1.trans bp) λa2 gU af=>ew _ _ (kh.trans b9 b3 bU af)
 | @jJ i rest g g1 g' o aX hw he _ aO =>
  intro a w I Fs Q bf bp ew;simp only [wpOps,aX,hw.sound bf,if_true];refine .inl (he.sound bf rfl bp λca w' aC=>?_);obtain ⟨b9,b3,I',bW,d',bU⟩:=aC;exact aO d' (b3.1.trans bp) λa2 gU af=>ew _ _ (kh.trans b9 b3 bU af)
 | @drop is g g' d x aQ ah _ aO=>exact λbf bp ew=>aO (bf.drop aQ ah) bp ew
 | @zz is g g1 g' dN hk _ aO =>
  intro a w I Fs Q bf bp ew;obtain ⟨I',bW,d',bU⟩:=bf.zz hk;exact aO d' bp λa2 gU af=>ew _ _ (kh.trans rfl ic.refl bU af)
 | @forget is g g1 g' hk _ aO =>
  intro a w I Fs Q bf bp ew;have d':=bf.mZ.keep hk;refine aO d' bp λa2 gU af=>ew _ _ (kh.trans rfl ic.refl ⟨Fr.refl _ _,λ_ h=>h,λ_ h=>.inl h,λc aa=>?_⟩ af);obtain ⟨t,_,aa⟩:=aa;exact .inl ⟨t,aa⟩
end
def sE (rs:List Nat):Place->Prop:=λp=>p.root∈rs
def ng (P:Program) (N:cP) (rs:Place->Prop) (g:aM) (o:Oper) (g':aM):Prop :=
 ∀ (w:World) (I:a') (T:Array Value) (Fs:Nat->a'),cB w I T g Fs->∀ (a:Act),a.tmps=T->a.tmps.size=N.size->∀ (K:Act->World->Prop) (Q:Exit->Act->World->Prop),
  (∀ (ca:Act) (w':World),kh N a w I Fs g' ca w'->(∀ t,o.dst≠some t->ca.tmps[t]?=a.tmps[t]?)->(∀ r path,rs ⟨r,path⟩->∀ y,bE g ⟨r,path⟩=some y->(∀ z q n m new,y≠.bI z q n m new)->dy w' ca.tmps ⟨r,path⟩=dy w T ⟨r,path⟩)->K ca w')->o.wp P a w K Q
theorem h7.v {P:Program}{N:cP}{g g':aM}{o:Oper}(h:h7 P N g o g'):ng P N (sE []) g o g' :=
 λw I T Fs bf a aJ bp K Q c5=>h w I T Fs bf a aJ bp K Q λca w' h1 af=>c5 ca w' h1 af λ_ _ h=>by simp [sE] at h
inductive qb:ab->Prop
 | lit {v:Value}:qb (.lit v)
 | aS:qb .aS
 | bl {z n:Nat}{cs:List ab}(h:∀ x∈cs,cG x):qb (.bl z n cs)
 | agg {cs:List ab}(h:∀ x∈cs,qb x):qb (.agg cs)
theorem qb.bn {x:ab}(h:qb x):cG x:=by
 induction h with
 | lit=>exact .lit
 | aS=>exact .aS
 | bl h=>exact .bl h
 | agg _ aO=>exact .agg aO
theorem qb.lh {w:World}{I:a'}{ρ:ab->Value->Prop}{x:ab}(h:qb x):∀ {v:Value}{F:a'},R w I ρ x v F->∀ c,¬ F c:=by
 induction h with
 | lit =>
  intro v F aY;cases aY with
  | lit _ aH=>exact aH
  | ref J=>simp [ab.isRef] at J
 | aS =>
  intro v F aY;cases aY with
  | aS aH=>exact aH
  | ref J=>simp [ab.isRef] at J
 | bl =>
  intro v F aY;cases aY with
  | ref J=>simp [ab.isRef] at J
  | gK aH=>exact aH
  | bl aH=>exact aH
 | @agg cs _ aO =>
  intro v F aY c aa;cases aY with
  | ref J=>simp [ab.isRef] at J
  | @agg _ vs bD _ ah h1 hr aQ me =>
   obtain ⟨k,hk,af⟩:=(me c).1 aa;have hu:vs[k]?=some (vs[k]'(by omega)):=Array.getElem?_eq_getElem (by omega);exact aO _ (List.getElem_mem hk) (hr k _ _ (List.getElem?_eq_getElem hk) hu) c af
structure HG (g:aM):Prop where
 b0:∀ t x,g t=some x->cW g x
 fJ:∀ t z q n m new,g t≠some (.bI z q n m new)
def wK (rs:Place->Prop) (g g1:aM) (o:Oper) (x:ab):Prop:=(∃ r path z n N cs,x=.a6 z ⟨r,path⟩ n/\rs ⟨r,path⟩/\bE g ⟨r,path⟩=some (.own z N cs)/\bE g1 ⟨r,path⟩=some (.own z N cs)/\n<=N)\/(∃ v,x=.lit v)\/(∃ s p k,x=.ptr p k/\g s=some x/\g1 s=some x/\o.dst≠some s)\/(∃ r k cs,x=.ptr ⟨r,[]⟩ k/\g1 r=some (.obj cs)/\k<cs.length/\o.dst≠some r/\∃ cs',g r=some (.obj cs')/\k<cs'.length)\/(∃ z n cs,x=.bl z n cs/\cG x)\/(∃ cs,x=.agg cs/\qb x/\HG g)
section
variable {P:Program}{N:cP}{g g1:aM}{o:Oper}
theorem Q6 {T:Array Value}{t:Nat}{v:Value}(h:T[t]?=some v):T.setIfInBounds t v=T:=by
 apply Array.ext (by simp);intro i h1 af;rw [Array.getElem_setIfInBounds];split
 ·rename_i e;subst e;have:=(Array.getElem?_eq_some_iff.1 h);exact this.2.symm
 ·rfl
theorem cB.UQ {w:World}{I:a'}{T:Array Value}{Fs:Nat->a'}{t:Nat}{x:ab}(h:cB w I T (cV g t x) Fs) (aN:g t=none) (aa:HG g) (lv:∀ c,¬ Fs t c):cB w I T g Fs:=by
 have hL:∀ s y,g s=some y->cV g t x s=some y:=λs y av=>by
  unfold cV;rw [if_neg (λe=>by rw [e,aN] at av; cases av)]; exact av
 have af:=h.mZ.keep (g2:=g) ⟨hL,aa.b0,aa.fJ⟩;have e:(λs c=>g s≠none/\Fs s c)=Fs:=by
  funext s c;apply propext;refine ⟨λh=>h.2,λaU=>⟨λaC=>?_,aU⟩⟩;by_cases av:s=t
  ·subst av; exact lv c aU
  ·exact h.lh s (by unfold cV; rw [if_neg av]; exact aC) c aU
 rw [e] at af;exact af
theorem ng.extra {rs:Place->Prop}(h:ng P N rs g o g1) {t:Nat}{x:ab}(lz:∀ p,rs p->g p.root≠none) (aN:g t=none) (JH:g1 t=none) (au:o.dst≠some t) (J:wK rs g g1 o x):ng P N rs (cV g t x) o (cV g1 t x):=by
 intro w I T Fs bf a aJ bp K Q c5;have Kf:cV g t x t=some x:=by simp [cV]
 have lx:∀ z q n m new,x≠.bI z q n m new:=by
  rcases J with ⟨r,path,z,n,N,cs,rfl,_⟩ | ⟨v,rfl⟩ | ⟨s,p,k,rfl,_⟩ | ⟨r,k,cs,rfl,_⟩ | ⟨z,n,cs,rfl,_⟩ | ⟨cs,rfl,_⟩ <;> simp
 have re:cB w I T g Fs:=by
  have BB:leaf x=true->cB w I T g Fs:=λvB=>by
   have:=bf.drop Kf vB;have e:del (cV g t x) t=g:=by
    funext s;unfold del cV;by_cases av:s=t
    ·subst av; simp [aN]
    ·simp [av]
   rwa [e] at this
  rcases J with ⟨r,path,z,n,N,cs,rfl,_⟩ | ⟨v,rfl⟩ | ⟨s,p,k,rfl,_⟩ | ⟨r,k,cs,rfl,_⟩ | ⟨z,n,cs,rfl,_⟩ | ⟨cs,rfl,zR,hT⟩
  ·exact BB rfl
  ·exact BB rfl
  ·exact BB rfl
  ·exact BB rfl
  ·exact BB rfl
  ·obtain ⟨v,_,nv⟩:=bf.rel t _ Kf;exact bf.UQ aN hT (zR.lh (nv.gw (by simp)))
 obtain ⟨v,hv,nv⟩:=bf.rel t x Kf;refine h w I T Fs re a aJ bp K Q λca w' aC ta O'=>c5 ca w' ?_ ta λr path hr y ao lx=>?_
 rotate_left
 ·by_cases O0:r=t
  ·subst O0;exact absurd aN (lz _ hr)
  ·exact O' r path hr y (by simpa [bE,cV,O0] using ao) lx
 obtain ⟨b9,b3,I',bW,d',bU⟩:=aC;have ij:ca.tmps[t]?=some v:=by rw [ta t au,aJ]; exact hv
 have iL:jF w' I' (dz w' ca.tmps g1) x v cg:=by
  rcases J with ⟨r,path,z,n,y9,cs,rfl,hr,zT,i',Xs⟩ | ⟨u,rfl⟩ | ⟨s,p,k,rfl,av,xz,XK⟩ | ⟨r,k,cs,rfl,i',hk,uk,_⟩ | ⟨z,n,cs,rfl,oF⟩ | ⟨cs,rfl,zR,hT⟩
  ·obtain ⟨⟨aw,kI,cap,gY,rfl,lO⟩,_⟩:=(nv.gw (by simp)).n3;exact .tree (.ref rfl ⟨⟨aw,kI,cap,by rw [O' r path hr _ zT (by simp)]; exact gY,rfl,lO⟩,.inl ⟨y9,cs,i',Xs⟩⟩ λ_ h=>h)
  ·obtain ⟨rfl,aa⟩:=(nv.gw (by simp)).hM;exact .tree (.lit aa λ_ h=>h)
  ·obtain ⟨⟨sN,ad,aw,a2,rfl⟩,_⟩:=(nv.gw (by simp)).n4;have bU:s≠t:=by rintro rfl; rw [aN] at av; cases av
   obtain ⟨u,hu,nu⟩:=re.rel s _ av;obtain ⟨⟨ae2,abV,gY,iu,rfl⟩,_⟩:=(nu.gw (by simp)).n4;rw [aw] at gY;cases gY;rw [a2] at iu;cases iu;obtain ⟨sM,h0,Jk⟩:=d'.rel s _ xz;have:ca.tmps[s]?=T[s]?:=by rw [ta s XK,aJ]
   rw [this,hu] at h0;cases h0;exact .tree (.ref rfl (Jk.gw (by simp)).n4 λ_ h=>h)
  ·obtain ⟨⟨sN,ad,aw,a2,rfl⟩,_⟩:=(nv.gw (by simp)).n4;have cX:ca.tmps[r]?=T[r]?:=by rw [ta r uk,aJ]
   have oK:∀ (w:World) (T:Array Value),dy w T ⟨r,[]⟩=T[r]?:=λw T=>by
    unfold dy; simp only; cases T[r]? <;> rfl
   exact .tree (.ref rfl ⟨⟨sN,ad,by rw [oK,cX,<- oK w T]; exact aw,a2,rfl⟩,⟨.obj cs,by simp [bE,i',ab.at],0,0,cs,.inr rfl,hk⟩⟩ λ_ h=>h)
  ·have rM:∀ c,I c->w'.heap[c]?=w.heap[c]?:=λc aa=>bU.dM.block c (bf.lt c aa) λ⟨t',aI⟩=>re.bl t' c aI aa;have Jh:=(nv.gw (by simp)).bn oF (ρ':=dz w' ca.tmps g1);have lv:∀ c,¬ Fs t c:=by
    cases nv.gw (by simp) with
    | ref J=>simp [ab.isRef] at J
    | gK aH=>exact aH
    | bl aH=>exact aH
   exact .tree ((Jh.frame rM bU.more (λ_ _ h=>h) λc aa=>absurd aa (lv c)).empty lv)
  ·have rM:∀ c,I c->w'.heap[c]?=w.heap[c]?:=λc aa=>bU.dM.block c (bf.lt c aa) λ⟨t',aI⟩=>re.bl t' c aI aa;have lv:=zR.lh (nv.gw (by simp));have Jh:=(nv.gw (by simp)).bn zR.bn (ρ':=dz w' ca.tmps g1);exact .tree ((Jh.frame rM bU.more (λ_ _ h=>h) λc aa=>absurd aa (lv c)).empty lv)
 have oG:=d'.uN (d:=t) (x:=x) (v:=v) (F:=cg) JH (Array.getElem?_eq_some_iff.1 ij).1 iL (λ_ _ h=>h.elim) (λ_ h=>h.elim) (λz p n m new e=>absurd e (lx _ _ _ _ _));rw [Q6 ij] at oG;refine ⟨b9,b3,I',_,oG,⟨bU.dM,bU.more,bU.new,λc aa=>?_⟩⟩;rcases u0 aa with aI | aI
 ·exact bU.own c aI
 ·exact aI.elim
theorem h7.frame {g0 IY:aM}{r:Nat}{x:ab}(h:h7 P N g0 o IY) (hr:g r=some x) (J:cG x) (hk:iE g g0) (aK:g0 r=none) (h1:IY r=none) (aQ:o.dst≠some r):ng P N (sE [r]) g o (cV IY r x):=by
 intro w I T Fs bf a aJ bp K Q c5;have re:=bf.mZ.keep hk;refine h w I T _ re a aJ bp K Q λca w' aC ta=>?_;obtain ⟨b9,b3,I',bW,d',bU⟩:=aC;obtain ⟨u,hu,aY⟩:=bf.rel r x hr;have h0:ca.tmps[r]?=some u:=by rw [ta r aQ,aJ]; exact hu
 have lx:∀ z q n m new,x≠.bI z q n m new:=by rintro z q n m new rfl; cases J
 have off:∀ c,Fs r c->¬ ∃ t,(g0 t≠none/\Fs t c):=by
  rintro c aa ⟨t,mq,af⟩;have:=bf.ec t r c af aa;subst this;exact mq aK
 have same:∀ c,Fs r c->w'.heap[c]?=w.heap[c]?:=λc aa=>bU.dM.block c (bf.jc r c aa) (off c aa);have rM:∀ c,I c->w'.heap[c]?=w.heap[c]?:=λc aa=>bU.dM.block c (bf.lt c aa) λ⟨t,_,aI⟩=>bf.bl t c aI aa;have oG:=d'.uN (d:=r) (x:=x) (v:=u) (F:=Fs r) h1 (Array.getElem?_eq_some_iff.1 h0).1 (.tree (((aY.gw lx).bn J).frame rM bU.more (λ_ _ h=>h) same)) (λt c aa aU=>by
   rcases bU.own c ⟨t,aU⟩ with aI | aI
   ·exact off c aa aI
   ·have:=bf.jc r c aa; omega) (λc aa hi=>by
   rcases bU.new c hi with aI | aI | aI
   ·exact bf.bl r c aa aI
   ·exact off c aa aI
   ·have:=bf.jc r c aa; omega) (λz p n m new e=>absurd e (lx _ _ _ _ _))
 rw [Q6 h0] at oG;refine c5 ca w' ⟨b9,b3,I',_,oG,⟨bU.dM.mono λb _ ⟨t,_,aI⟩=>⟨t,aI⟩,bU.more,λc aa=>?_,λc aa=>?_⟩⟩ ta λc' path dH y ao hyp=>?_
 ·rcases bU.new c aa with aI | ⟨t,_,aI⟩ | aI
  ·exact .inl aI
  ·exact .inr (.inl ⟨t,aI⟩)
  ·exact .inr (.inr aI)
 ·rcases u0 aa with aI | aI
  ·rcases bU.own c aI with ⟨t,_,hb⟩ | hb
   ·exact .inl ⟨t,hb⟩
   ·exact .inr hb
  ·exact .inl ⟨r,aI⟩
 ·have dH:c'∈[r]:=dH;simp only [List.mem_singleton] at dH;subst dH;have gz:iE g (λt=>if t=c' then some x else none):=by
   refine ⟨λt y fU=>?_,λt y fU=>?_,λt z q n m new fU=>?_⟩
   all_goals
    by_cases e:t=c'
    case neg=>simp [e] at fU
   ·subst e; simp at fU; subst fU; exact hr
   ·subst e; simp at fU; subst fU; exact .bn J
   ·subst e; simp at fU; exact lx _ _ _ _ _ fU
  refine (bf.mZ.keep gz).yJ (T':=ca.tmps) (λt au=>?_) (λt c aa=>?_) (p:=⟨c',path⟩) (y:=y) ?_
  ·by_cases e:t=c'
   ·subst e; rw [ta t aQ,aJ]
   ·simp [e] at au
  ·by_cases e:t=c'
   ·subst e; exact same c aa.2
   ·simp [e] at aa
  ·simp only [bE,if_true];simpa [bE,hr] using ao
end
abbrev Acc:=List (Nat × Nat × Option ab)
def ds (g0:aM) (A:Nat->Bool):Acc->aM
 | [],t=>g0 t
 | (k,d,r)::acc,t=>if d=t then (if A k then r else none) else ds g0 A acc t
def lj:Nat × Nat × Option ab->Option Place
 | (_,_,some (.bI _ p _ _ _))=>some p
 | _=>none
def qg (ops:Array Oper) (bd:List (List Nat)):Bool :=
 (List.range ops.size).all λk =>
  match ops[k]? with
  | none=>true
  | some o=>(o.after.all λe=>!Region.binds .any e||decide (e.on<k))&&(bd.getD k []).all λm=>decide (m<k)&&o.after.any λe=>Region.binds .any e&&(e.on == m||(bd.getD e.on []).contains m)
inductive iG (P:Program) (N:cP) (ops:Array Oper) (bd:List (List Nat)) (g0:aM) (i:Nat) (dE:Acc):Nat->Acc->Prop
 | nil:iG P N ops bd g0 i dE i dE
 | step {j:Nat}{acc:Acc}{o:Oper}{d:Nat}{r:Option ab}(h:iG P N ops bd g0 i dE j acc) (aX:ops[j]?=some o) (aQ:o.dst=some d) (aN:g0 d=none) (aC:∀ e∈acc,e.2.1≠d) (kv:N.ok d=true)
   (av:qe P (ds g0 (λm=>(bd.getD j []).contains m) acc) ops o r):iG P N ops bd g0 i dE (j+1) ((j,d,r)::acc)
structure nj (P:Program) (N:cP) (ops:Array Oper) (bd:List (List Nat)) (g0:aM) (i:Nat) (dE:Acc):Prop where
 lt:∀ e∈dE,e.1<i
 free:∀ e∈dE,g0 e.2.1=none
 nd:(dE.map (·.2.1)).Nodup
 RA:∀ e∈dE,∀ b5∈dE,(e.1=b5.1\/e.2.1=b5.2.1)->e=b5
 st:∀ e∈dE,∃ fW,ops[e.1]?=some fW/\fW.dst=some e.2.1/\N.ok e.2.1=true/\qe P (ds g0 (λm=>(bd.getD e.1 []).contains m) dE) ops fW e.2.2
theorem nj.nil {P:Program}{N:cP}{ops:Array Oper}{bd:List (List Nat)}{g0:aM}{i:Nat}:nj P N ops bd g0 i []:=⟨by simp,by simp,by simp,by simp,by simp⟩
inductive sR (P:Program) (N:cP) (ops:Array Oper) (bd:List (List Nat)):Nat->Acc->aM->aM->Prop
 | fin {i:Nat}{dE:Acc}{g:aM}{acc:Acc}(av:iG P N ops bd g i dE ops.size acc) (gS:(acc.filterMap lj).Nodup) (fO:∀ t z q n m new,g t≠some (.bI z q n m new)):sR P N ops bd i dE g (ds g (λ_=>true) acc)
 | Bw {i j:Nat}{g g1 g':aM}{dE acc U:Acc}{o:Oper}{rs:Place->Prop}(av:iG P N ops bd g i dE j acc) (gS:(acc.filterMap lj).Nodup) (fO:∀ t z q n m new,g t≠some (.bI z q n m new)) (aX:ops[j]?=some o) (hw:iH (ds g (λm=>(bd.getD j []).contains m) acc) ops o true)
   (he:ng P N rs (ds g (λm=>(bd.getD j []).contains m) acc) o g1) (lz:∀ p,rs p->g p.root≠none) (fq:U=acc.filter λe=>!(bd.getD j []).contains e.1) (J:∀ e∈U,∃ x,e.2.2=some x/\wK rs (ds g (λm=>(bd.getD j []).contains m) acc) g1 o x) (h1:∀ e∈U,g1 e.2.1=none/\o.dst≠some e.2.1)
   (af:∀ e∈U,∃ fW,ops[e.1]?=some fW/\fW.dst=some e.2.1/\N.ok e.2.1=true/\qe P (ds g1 (λm=>(bd.getD e.1 []).contains m) U) ops fW e.2.2)
   (ar:(List.range ops.size).all (λk=>decide (k<=j)||(bd.getD k []).contains j)=true) (hr:sR P N ops bd (j+1) U g1 g'):sR P N ops bd i dE g g'
theorem m_ {g0:aM}{A:Nat->Bool}{acc:Acc}{t:Nat}(h:∀ e∈acc,e.2.1≠t):ds g0 A acc t=g0 t:=by
 induction acc with
 | nil=>rfl
 | cons e acc aO =>
  grind [ds]
theorem u1 {g0:aM}{A:Nat->Bool}{acc:Acc}{t:Nat}{x:ab}(h:ds g0 A acc t=some x):(∃ e∈acc,e.2.1=t/\A e.1=true/\e.2.2=some x)\/((∀ e∈acc,e.2.1≠t)/\g0 t=some x):=by
 induction acc with
 | nil=>exact .inr ⟨by simp,h⟩
 | cons e acc aO =>
  grind [ds]
theorem LW {g:aM}{A:Nat->Bool}{acc:Acc}(hu:∀ e∈acc,∀ b5∈acc,e.2.1=b5.2.1->e=b5) {e:Nat × Nat × Option ab}(he:e∈acc):ds g A acc e.2.1=if A e.1 then e.2.2 else none:=by
 induction acc with
 | nil=>cases he
 | cons a acc aO =>
  grind [ds]
section
variable {P:Program}{N:cP}{ops:Array Oper}{bd:List (List Nat)}{g0:aM}{i:Nat}
variable {dE:Acc}
theorem iG.le {j:Nat}{acc:Acc}(h:iG P N ops bd g0 i dE j acc) (fq:nj P N ops bd g0 i dE):i<=j/\∀ e∈acc,e.1<j:=by
 induction h with
 | nil=>exact ⟨Nat.le_refl _,fq.lt⟩
 | step _ _ _ _ _ _ _ aO =>
  grind
theorem iG.ge {j:Nat}{acc:Acc}(h:iG P N ops bd g0 i dE j acc) (fq:nj P N ops bd g0 i dE):∀ e∈acc,e∈dE\/i<=e.1:=by
 induction h with
 | nil=>exact λe he=>.inl he
 | step av _ _ _ _ _ _ aO =>
  intro e he;rcases List.mem_cons.1 he with rfl | he
  ·exact .inr (av.le fq).1
  grind
theorem iG.LO {j:Nat}{acc:Acc}(h:iG P N ops bd g0 i dE j acc):∀ e∈dE,e∈acc:=by
 induction h with
 | nil=>exact λe he=>he
 | step _ _ _ _ _ _ _ aO=>exact λe he=>by simp [aO e he]
theorem iG.fresh {j:Nat}{acc:Acc}(h:iG P N ops bd g0 i dE j acc) (fq:nj P N ops bd g0 i dE):∀ e∈acc,g0 e.2.1=none:=by
 induction h with
 | nil=>exact fq.free
 | step _ _ _ aN _ _ _ aO =>
  grind
theorem iG.nodup {j:Nat}{acc:Acc}(h:iG P N ops bd g0 i dE j acc) (fq:nj P N ops bd g0 i dE):(acc.map (·.2.1)).Nodup:=by
 induction h with
 | nil=>exact fq.nd
 | step _ _ _ _ aC _ _ aO =>
  grind
theorem iG.uniq {j:Nat}{acc:Acc}(h:iG P N ops bd g0 i dE j acc) (fq:nj P N ops bd g0 i dE):∀ {e b5:Nat × Nat × Option ab},e∈acc->b5∈acc->(e.1=b5.1\/e.2.1=b5.2.1)->e=b5:=by
 induction h with
 | nil=>exact λ{e b5} he h_ bO=>fq.RA e he b5 h_ bO
 | @step j acc o d r av _ _ _ aC _ _ aO =>
  intro e b5 he h_ bO;rcases List.mem_cons.1 he with rfl | he <;> rcases List.mem_cons.1 h_ with rfl | h_
  ·rfl
  ·rcases bO with bO | bO
   ·have:=(av.le fq).2 b5 h_
    grind
   grind
  ·rcases bO with bO | bO
   ·have:=(av.le fq).2 e he
    grind
   grind
  grind
theorem iG.at_mem {j:Nat}{acc:Acc}(h:iG P N ops bd g0 i dE j acc) (fq:nj P N ops bd g0 i dE) {A:Nat->Bool}{e:Nat × Nat × Option ab}(he:e∈acc):ds g0 A acc e.2.1=if A e.1 then e.2.2 else none :=
 LW (λ_ J _ ao aI=>h.uniq fq J ao (.inr aI)) he
theorem iG.get {j:Nat}{acc:Acc}(h:iG P N ops bd g0 i dE j acc) (fq:nj P N ops bd g0 i dE):∀ e∈acc,∃ o EW,ops[e.1]?=some o/\o.dst=some e.2.1/\N.ok e.2.1=true/\qe P (ds g0 (λm=>(bd.getD e.1 []).contains m) EW) ops o e.2.2/\∀ e∈EW,e∈acc:=by
 induction h with
 | nil =>
  intro e he;obtain ⟨fW,h1,af,aE,bm⟩:=fq.st e he
  grind
 | @step j acc o d r av aX aQ aN aC kv bU aO =>
  intro e he;rcases List.mem_cons.1 he with rfl | he
  ·grind
  grind
theorem iG.has {j:Nat}{acc:Acc}(h:iG P N ops bd g0 i dE j acc):∀ k,i<=k->k<j->∃ e∈acc,e.1=k:=by
 induction h with
 | nil=>intro k h1 af; omega
 | @step j acc o d r av aX aQ aN aC kv bU aO =>
  grind [List.mem_cons_self]
theorem Zw {acc:Acc}(gS:(acc.filterMap lj).Nodup) {e b5:Nat × Nat × Option ab}{p:Place}(he:e∈acc) (h_:b5∈acc) (h:lj e=some p) (aI:lj b5=some p):e=b5:=by
 induction acc with
 | nil=>simp at he
 | cons a acc aO =>
  grind
def ep (listed:Array Bool) (k:Nat):Bool:=listed.getD k false
def vh (ops:Array Oper) (listed:Array Bool):Nat:=((List.range ops.size).filter λk=>!ep listed k).length
theorem Fa {listed:Array Bool}{k:Nat}(hk:k<ops.size) (ah:ep listed k=false) (fr:listed.size=ops.size):vh ops (listed.setIfInBounds k true)+1<=vh ops listed:=by
 unfold vh;have key:∀ l:List Nat,l.Nodup->((l.filter λj=>!ep (listed.setIfInBounds k true) j).length+if k∈l then 1 else 0)=(l.filter λj=>!ep listed j).length:=by
  intro l
  induction l with
  | nil=>intro _; simp
  | cons j l aO =>
   intro eG;have Xt:=List.nodup_cons.1 eG;have aeO:=aO Xt.2;by_cases gH:j=k
   ·simp_all [ep]
   ·have h1:ep (listed.setIfInBounds k true) j=ep listed j:=by simp [ep,Array.getElem?_setIfInBounds_ne (Ne.symm gH)]
    grind
 grind
end
section
variable {P:Program}{N:cP}{ops:Array Oper}{bd:List (List Nat)}
def Down (bd:List (List Nat)) (listed:Array Bool):Prop:=∀ k,ep listed k=true->∀ m∈bd.getD k [],ep listed m=true
theorem MG (h:qg ops bd=true) {k:Nat}{o:Oper}(aX:ops[k]?=some o) :
  (∀ e∈o.after,Region.binds .any e=true->e.on<k)/\∀ m∈bd.getD k [],m<k/\∃ e∈o.after,Region.binds .any e=true/\(e.on=m\/m∈bd.getD e.on []):=by
 grind [qg,Array.all_eq_true_iff_forall_mem]
theorem yt {listed:Array Bool}{k:Nat}(h:k∈Region.ready .any ops listed):ep listed k=false/\∃ o,ops[k]?=some o/\∀ e∈o.after,Region.binds .any e=true->ep listed e.on=true:=by
 grind [mem_ready,ep]
theorem Lp (dL:qg ops bd=true) {listed:Array Bool}(aQ:Down bd listed) {k:Nat}(h:k∈Region.ready .any ops listed):∀ m∈bd.getD k [],ep listed m=true:=by
 obtain ⟨_,o,aX,af⟩:=yt h;intro m hm;obtain ⟨_,e,he,ar,aE⟩:=(MG dL aX).2 m hm;rcases aE with rfl | aE
 ·grind
 ·exact aQ e.on (af e he ar) m aE
theorem QB (dL:qg ops bd=true) {listed:Array Bool}(fr:listed.size=ops.size):∀ k,k<ops.size->ep listed k=false->Region.ready .any ops listed≠[]:=by
 intro k
 induction k using Nat.strongRecOn with
 | _ k aO =>
  intro hk ah;by_cases hex:∃ j,j<k/\ep listed j=false
  ·grind
  ·have mS:k∈Region.ready .any ops listed:=by
    refine mem_ready.2 ⟨?_,ops[k],Array.getElem?_eq_getElem hk,λe he ar=>?_⟩
    ·grind [ep]
    ·have aP:=(MG dL (Array.getElem?_eq_getElem hk)).1 e he ar
     grind [ep]
   grind
theorem Ek {g0:aM}{A B:Nat->Bool}{acc:Acc}{t:Nat}(h:∀ e∈acc,e.2.1=t->A e.1=B e.1):ds g0 A acc t=ds g0 B acc t:=by
 induction acc with
 | nil=>rfl
 | cons e acc aO =>
  grind [ds]
theorem EJ {listed:Array Bool}{k j:Nat}(hk:k<listed.size):ep (listed.setIfInBounds k true) j=if j=k then true else ep listed j:=by
 by_cases gH:j=k
 all_goals simp_all [ep,Ne.symm]
theorem abk {g0:aM}{i j:Nat}{acc U dE:Acc}(av:iG P N ops bd g0 i dE j acc) (bT:nj P N ops bd g0 i dE) {A S:Nat->Bool}(fq:U=acc.filter λe=>!A e.1) (VM:∀ e∈acc,A e.1=true->S e.1=true):ds g0 S acc=ds (ds g0 A acc) S U:=by
 subst fq;funext t;by_cases hex:∃ e∈acc,e.2.1=t
 ·obtain ⟨e,he,rfl⟩:=hex;rw [av.at_mem bT he];by_cases dL:A e.1=true
  ·rw [m_,av.at_mem bT he,if_pos dL,if_pos (VM e he dL)];intro b5 h_ h;obtain ⟨h1,af⟩:=List.mem_filter.1 h_;have:=av.uniq bT h1 he (.inr h)
   grind
  ·rw [LW (λx J y ao h=>av.uniq bT (List.mem_filter.1 J).1 (List.mem_filter.1 ao).1 (.inr h)) (List.mem_filter.2 ⟨he,by simpa using dL⟩)]
 grind [m_]
theorem cW.mono {g g':aM}(aN:∀ t x,g t=some x->g' t=some x) {x:ab}(h:cW g x):cW g' x:=by
 induction h with
 | bn h=>exact .bn h
 | ref J h=>exact .ref J (h.mono aN)
 | own _ aO=>exact .own aO
 | obj _ aO=>exact .obj aO
 | agg _ aO=>exact .agg aO
 | bR _ aO=>exact .bR aO
 | cD _ _ gj fV=>exact .cD gj fV
 | bI aq _ aO=>exact .bI (aq.mono aN) aO
theorem Nt {lT g1:aM}{o:Oper}{S:Nat->Bool}{rs:Place->Prop}(h:ng P N rs lT o g1) (lz:∀ p,rs p->lT p.root≠none):∀ (U:Acc),(∀ e∈U,∃ x,e.2.2=some x/\wK rs lT g1 o x)->(∀ e∈U,lT e.2.1=none/\g1 e.2.1=none/\o.dst≠some e.2.1)->(U.map (·.2.1)).Nodup->ng P N rs (ds lT S U) o (ds g1 S U)
 | [],_,_,_=>h
 | (k,d,r)::U,J,h1,eG=>by
  simp only [List.map_cons,List.nodup_cons] at eG;have aO:=Nt (S:=S) h lz U (λe he=>J e (by simp [he])) (λe he=>h1 e (by simp [he])) eG.2;obtain ⟨x,e,bU⟩:=J (k,d,r) (by simp);simp only at e;subst e;obtain ⟨aw,a2,a3⟩:=h1 (k,d,some x) (by simp);simp only at aw a2 a3;have rj:∀ e∈U,e.2.1≠d:=λe he aI=>eG.1 (List.mem_map.2 ⟨e,he,aI⟩);cases bf:S k with
  | true =>
   have e:∀ g:aM,ds g S ((k,d,some x)::U)=cV (ds g S U) d x:=λg=>by
    funext t;simp only [ds,cV,bf,if_true];by_cases aQ:d=t
    ·rw [if_pos aQ,if_pos aQ.symm]
    ·rw [if_neg aQ,if_neg (Ne.symm aQ)]
   rw [e,e];have Gr:∀ r,lT r≠none->∀ e∈U,e.2.1≠r:=λr hr e he aI=>by
    have:=(h1 e (by simp [he])).1;rw [aI] at this;exact hr this
   have Zf:∀ r,g1 r≠none->∀ e∈U,e.2.1≠r:=λr hr e he aI=>by
    have:=(h1 e (by simp [he])).2.1;rw [aI] at this;exact hr this
   refine aO.extra (λr hr=>by rw [m_ (Gr r.root (lz r hr))]; exact lz r hr) (by rw [m_ rj]; exact aw) (by rw [m_ rj]; exact a2) a3 ?_;rcases bU with ⟨r,path,z,n,y9,cs,rfl,gY,iu,lO,E5⟩ | ⟨v,rfl⟩ | ⟨s,p,m,rfl,gY,iu,lO⟩ | ⟨s,m,cs,rfl,gY,iu,lO,cs',E5,Th⟩ | ⟨z,n,cs,rfl,gY⟩ | ⟨cs,rfl,gY,iu⟩
   ·refine .inl ⟨r,path,z,n,y9,cs,rfl,gY,?_,?_,E5⟩
    ·have:lT r≠none:=lz _ gY;simpa [bE,m_ (Gr r this)] using iu
    ·have:g1 r≠none:=λe=>by simp [bE,e] at lO
     simpa [bE,m_ (Zf r this)] using lO
   ·exact .inr (.inl ⟨v,rfl⟩)
   ·refine .inr (.inr (.inl ⟨s,p,m,rfl,?_,?_,lO⟩))
    ·rw [m_]; exact gY;intro e he aI;have:=(h1 e (by simp [he])).1;rw [aI,gY] at this; cases this
    ·rw [m_]; exact iu;intro e he aI;have:=(h1 e (by simp [he])).2.1;rw [aI,iu] at this; cases this
   ·refine .inr (.inr (.inr (.inl ⟨s,m,cs,rfl,?_,iu,lO,cs',?_,Th⟩)))
    ·rw [m_]; exact gY;intro e he aI;have:=(h1 e (by simp [he])).2.1;rw [aI,gY] at this; cases this
    ·rw [m_ (Gr s (by rw [E5]; simp))]; exact E5
   ·exact .inr (.inr (.inr (.inr (.inl ⟨z,n,cs,rfl,gY⟩))))
   ·refine .inr (.inr (.inr (.inr (.inr ⟨cs,rfl,gY,?_⟩))));have hle:∀ t y,lT t=some y->ds lT S U t=some y:=λt y ao=>by rw [m_ (Gr t (by rw [ao]; simp))]; exact ao
    refine ⟨λt y ao=>?_,λt z q n m new ao=>?_⟩
    ·rcases u1 ao with ⟨b5,h_,_,_,JE⟩ | ⟨_,ao⟩
     ·obtain ⟨y',BQ,CL⟩:=J b5 (by simp [h_]);rw [JE] at BQ; cases BQ;rcases CL with ⟨r,path,z,n,y9,cs,rfl,c1,c2,kK,c4⟩ | ⟨v,rfl⟩ | ⟨s,p,m,rfl,c1,_⟩ | ⟨s,m,cs,rfl,_,_,_,cs',c4,jH⟩ | ⟨z,n,cs,rfl,c1⟩ | ⟨cs,rfl,c1,_⟩
      ·exact .ref rfl (.inl ⟨y9,cs,k6 hle c2,c4⟩)
      ·exact .bn .lit
      ·exact cW.mono hle (iu.b0 s _ c1)
      ·exact .ref rfl ⟨.obj cs',by simp [bE,hle s _ c4,ab.at],0,0,cs',.inr rfl,jH⟩
      ·exact .bn c1
      ·exact .bn c1.bn
     ·exact cW.mono hle (iu.b0 t y ao)
    ·rcases u1 ao with ⟨b5,h_,_,_,JE⟩ | ⟨_,ao⟩
     ·obtain ⟨y',BQ,CL⟩:=J b5 (by simp [h_]);rw [JE] at BQ; cases BQ;rcases CL with ⟨r,path,z,n,y9,cs,h,_⟩ | ⟨v,h⟩ | ⟨s,p,m,h,_⟩ | ⟨s,m,cs,h,_⟩ | ⟨z,n,cs,h,_⟩ | ⟨cs,h,_⟩ <;> cases h
     ·exact iu.fJ _ _ _ _ _ _ ao
  | false =>
   have e:∀ g:aM,g d=none->ds g S ((k,d,some x)::U)=ds g S U:=λg aN=>by
    funext t;simp only [ds,bf];by_cases aQ:d=t
    ·subst aQ; rw [if_pos rfl,m_ rj,aN]; rfl
    ·rw [if_neg aQ]
   rw [e lT aw,e g1 a2];exact aO
theorem Qy (dL:qg ops bd=true) {g0:aM}{i j:Nat}{acc dE:Acc}(av:iG P N ops bd g0 i dE j acc) (bT:nj P N ops bd g0 i dE) (gS:(acc.filterMap lj).Nodup) (fO:∀ t z q n m new,g0 t≠some (.bI z q n m new)) {listed:Array Bool}(fr:listed.size=ops.size) (aQ:Down bd listed)
  {a:Act}{w:World}{I:a'}{Fs:Nat->a'}(bf:cB w I a.tmps (ds g0 (ep listed) acc) Fs) (bp:a.tmps.size=N.size) {e:Nat × Nat × Option ab}(he:e∈acc) (hk:e.1∈Region.ready .any ops listed) {K:Act->World->Prop}{Q:Exit->Act->World->Prop}
  (c5:∀ ca w' I' bW,ca.defers=a.defers->ic N a.tmps ca.tmps->cB w' I' ca.tmps (ds g0 (ep (listed.setIfInBounds e.1 true)) acc) bW->k3 w I (λc=>∃ t,Fs t c) w' I' (λc=>∃ t,bW t c)->K ca w'):wpOp P ops Q e.1 K a w:=by
 obtain ⟨dv,l3,xy,_⟩:=yt hk;have zM:=(Array.getElem?_eq_some_iff.1 xy).1;have Ce:=Lp dL aQ hk;obtain ⟨o,EW,aX,xx,kv,bU,hL⟩:=av.get bT e he;obtain ⟨k,d,r⟩:=e;simp only at *;have hle:oW (ds g0 (λm=>(bd.getD k []).contains m) EW) (ds g0 (ep listed) acc):=by
  intro t x J;rcases u1 J with ⟨e,he,rfl,Fp,hex⟩ | ⟨rj,aN⟩
  ·rw [av.at_mem bT (hL e he),Ce e.1 (by simpa using Fp)];exact hex
  ·rw [m_ λe he aej=>?_]
   ·exact aN
   ·have:=av.fresh bT e he
    grind
 have eN:∀ z p n m new,r=some (.bI z p n m new)->∀ t bQ cm m' cO,ds g0 (ep listed) acc t≠some (.bI bQ p cm m' cO):=by
  intro z p n m new hr t bQ cm m' cO au;rcases u1 au with ⟨e,h_,_,Fp,hex⟩ | ⟨_,aN⟩
  ·obtain ⟨kc,Nj,c'⟩:=e;have:=Zw gS (p:=p) he h_ (by rw [hr]; rfl) (by simp only at hex; rw [hex]; rfl)
   grind
  grind
 have CL:=bU.mono hle eN;have s6:ds g0 (ep listed) acc d=none:=by
  have:=av.at_mem bT (A:=ep listed) he
  grind
 unfold wpOp;simp only [aX];refine CL.sound bf rfl bp xx s6 kv λca w' aC=>?_;obtain ⟨b9,b3,I',bW,d',pc⟩:=aC;have fN:∀ j,ep (listed.setIfInBounds k true) j=if j=k then true else ep listed j:=λj=>EJ (by omega)
 have dh:ds g0 (ep (listed.setIfInBounds k true)) acc=yp (ds g0 (ep listed) acc) d r:=by
  funext t;by_cases vJ:t=d
  ·subst vJ;have h1:=av.at_mem bT (A:=ep (listed.setIfInBounds k true)) he;simp only [fN k,if_true] at h1;rw [h1];cases r with
   | none=>simp only [yp]; exact s6.symm
   | some x=>simp [yp,cV]
  ·have h1:ds g0 (ep (listed.setIfInBounds k true)) acc t=ds g0 (ep listed) acc t:=Ek λe h_ het=>by
    rw [fN e.1,if_neg];intro W5;have:=av.uniq bT h_ he (.inl W5)
    grind
   rw [h1];cases r with
   | none=>rfl
   | some x=>simp [yp,cV,vJ]
 grind
theorem IC (dL:qg ops bd=true) {listed:Array Bool}(fr:listed.size=ops.size) (aQ:Down bd listed) {k:Nat}(hk:k∈Region.ready .any ops listed):Down bd (listed.setIfInBounds k true):=by
 obtain ⟨dv,l3,xy,_⟩:=yt hk;have zM:=(Array.getElem?_eq_some_iff.1 xy).1;have Ce:=Lp dL aQ hk;have fN:∀ q,ep (listed.setIfInBounds k true) q=if q=k then true else ep listed q:=λq=>EJ (by omega)
 intro m hm q a_;rw [fN] at hm ⊢;split
 ·rfl
 ·split at hm
  ·grind
  ·exact aQ m hm q a_
theorem iG.entry {g0:aM}{i j:Nat}{acc dE:Acc}(av:iG P N ops bd g0 i dE j acc) {listed:Array Bool}(aP:∀ k,k<i->(∀ e∈dE,e.1≠k)->ep listed k=true) {k:Nat}(FB:k<j) (dv:ep listed k=false):∃ e∈acc,e.1=k:=by
 rcases Nat.lt_or_ge k i with h | h
 ·rcases Classical.em (∃ e∈dE,e.1=k) with ⟨e,he,aI⟩ | aI
  ·exact ⟨e,av.LO e he,aI⟩
  grind
 ·exact av.has k h FB
theorem sR.sound (dL:qg ops bd=true) {i:Nat}{dE:Acc}{g g':aM}(h:sR P N ops bd i dE g g'):nj P N ops bd g i dE->∀ {Q:Exit->Act->World->Prop}(fuel:Nat) (listed:Array Bool) (a:Act) (w:World) (I:a') (Fs:Nat->a'),vh ops listed<=fuel->listed.size=ops.size->(∀ k,k<i->(∀ e∈dE,e.1≠k)->ep listed k=true)->(∀ k,i<=k->ep listed k=false)->Down bd listed ->
  cB w I a.tmps (ds g (ep listed) dE) Fs->a.tmps.size=N.size->(∀ ca w',kh N a w I Fs g' ca w'->Q .normal ca w')->wpAny P .any ops Q fuel listed a w:=by
 have start:∀ {g:aM}{i j:Nat}{acc dE:Acc}{listed:Array Bool},iG P N ops bd g i dE j acc->nj P N ops bd g i dE->(∀ k,i<=k->ep listed k=false)->ds g (ep listed) acc=ds g (ep listed) dE:=by
  intro g i j acc dE listed av bT dF;funext t;by_cases hex:∃ e∈acc,e.2.1=t
  ·obtain ⟨e,he,rfl⟩:=hex;rw [av.at_mem bT he];rcases av.ge bT e he with h | h
   ·rw [LW (λx J y ao aI=>bT.RA x J y ao (.inr aI)) h]
   ·rw [dF e.1 h];by_cases OA:∃ b5∈dE,b5.2.1=e.2.1
    ·obtain ⟨b5,h_,aI⟩:=OA;have:=av.uniq bT (av.LO b5 h_) he (.inr aI);subst this;have:=bT.lt b5 h_;omega
    ·rw [m_ λb5 h_ aI=>OA ⟨b5,h_,aI⟩,av.fresh bT e he]; rfl
  ·rw [m_ λe he h=>hex ⟨e,he,h⟩,m_ λe he h=>hex ⟨e,av.LO e he,h⟩]
 induction h with
 | @fin i dE g acc av gS fO =>
  intro bT Q fuel listed a w I Fs aa fr aP dF aQ bf bp ew;rw [<- start av bT dF] at bf;clear dF;revert listed a w I Fs
  induction fuel with
  | zero =>
   intro listed a w I Fs aa fr aP aQ bf bp ew;have hq:∀ k,k<ops.size->ep listed k=true:=λk hk=>by
    cases ah:ep listed k with
    | true=>rfl
    | false=>have:=Fa (ops:=ops) (listed:=listed) (k:=k) hk ah fr; omega
   refine wpAny_done ?_ (ew _ _ ⟨rfl,ic.refl,I,Fs,?_,k3.refl _ _ _⟩) 0
   ·cases hr:Region.ready .any ops listed with
    | nil=>rfl
    | cons k l =>
     have hk:k∈Region.ready .any ops listed:=by rw [hr]; simp
     obtain ⟨dv,o,aX,_⟩:=yt hk
     grind
   ·have:ds g (ep listed) acc=ds g (λ_=>true) acc:=funext λt=>Ek λe he _=>hq e.1 ((av.le bT).2 e he)
    grind
  | succ fuel aO =>
   intro listed a w I Fs aa fr aP aQ bf bp ew;by_cases hq:∀ k,k<ops.size->ep listed k=true
   ·refine wpAny_done ?_ (ew _ _ ⟨rfl,ic.refl,I,Fs,?_,k3.refl _ _ _⟩) _
    ·cases hr:Region.ready .any ops listed with
     | nil=>rfl
     | cons k l =>
      have hk:k∈Region.ready .any ops listed:=by rw [hr]; simp
      obtain ⟨dv,o,aX,_⟩:=yt hk
      grind
    ·have:ds g (ep listed) acc=ds g (λ_=>true) acc:=funext λt=>Ek λe he _=>hq e.1 ((av.le bT).2 e he)
     grind
   ·obtain ⟨k0,ny⟩:=Classical.not_forall.1 hq;obtain ⟨Xf,Xg⟩:=Classical.not_imp.1 ny;refine ⟨λhr=>absurd hr (QB dL fr k0 Xf (by simpa using Xg)),λk hk=>?_⟩;obtain ⟨dv,l3,xy,_⟩:=yt hk;have zM:=(Array.getElem?_eq_some_iff.1 xy).1;obtain ⟨e,he,rfl⟩:=av.entry aP zM dv;have WT:=Fa (ops:=ops) (listed:=listed) (k:=e.1) zM dv fr;refine Qy dL av bT gS fO fr aQ bf bp he hk λca w' I' bW b9 b3 d' pc=>?_;refine aO _ ca w' I' bW (by omega) (by simpa using fr) (λm hm cS=>?_) (IC dL fr aQ hk) d' (b3.1.trans bp) λa2 gU af=>ew _ _ (kh.trans b9 b3 pc af)
    grind [EJ]
 | @Bw i j g g1 g' dE acc U o rs av gS fO aX hw he lz fq J h1 af ar _ Yx =>
  intro bT Q fuel listed a w I Fs aa fr aP dF aQ bf bp ew;have FA:j<ops.size:=(Array.getElem?_eq_some_iff.1 aX).1;have xk:∀ k,j<k->k<ops.size->j∈bd.getD k []:=λk hk zM=>by
   grind
  have Cu:∀ e∈U,e∈acc/\(bd.getD j []).contains e.1=false:=λe he=>by
   grind
  have eG:(U.map (·.2.1)).Nodup:=by
   rw [fq];exact (List.filter_sublist.map _).nodup (av.nodup bT)
  have W8:∀ e∈U,ds g (λm=>(bd.getD j []).contains m) acc e.2.1=none:=λe he=>by
   rw [av.at_mem bT (Cu e he).1,(Cu e he).2];rfl
  have B5:nj P N ops bd g1 (j+1) U:=⟨λe he=>by have:=(av.le bT).2 e (Cu e he).1; omega,λe he=>(h1 e he).1,eG,λe he b5 h_ h=>av.uniq bT (Cu e he).1 (Cu b5 h_).1 h,af⟩;have aen:∀ k,j<=k->ep listed k=false:=λk hk=>dF k (Nat.le_trans (av.le bT).1 hk);rw [<- start av bT dF] at bf;clear dF;revert listed a w I Fs
  induction fuel with
  | zero =>
   intro listed a w I Fs aa fr aP aQ bf bp ew dF;have:=Fa (ops:=ops) (listed:=listed) (k:=j) FA (dF j (Nat.le_refl _)) fr;omega
  | succ fuel Yw =>
   intro listed a w I Fs aa fr aP aQ bf bp ew dF;have eF:=dF j (Nat.le_refl _);refine ⟨λhr=>absurd hr (QB dL fr j FA eF),λk hk=>?_⟩;obtain ⟨dv,l3,xy,_⟩:=yt hk;have zM:=(Array.getElem?_eq_some_iff.1 xy).1;have Ce:=Lp dL aQ hk;have fN:∀ q,ep (listed.setIfInBounds k true) q=if q=k then true else ep listed q:=λq=>EJ (by omega)
   have WT:=Fa (ops:=ops) (listed:=listed) (k:=k) (by omega) dv fr;rcases Nat.lt_trichotomy k j with FB | rfl | FB
   ·obtain ⟨e,Oz,rfl⟩:=av.entry aP FB dv;refine Qy dL av bT gS fO fr aQ bf bp Oz hk λca w' I' bW b9 b3 d' pc=>?_;refine Yw _ ca w' I' bW (by omega) (by simpa using fr) (λm hm cS=>?_) (IC dL fr aQ hk) d' (b3.1.trans bp) (λa2 gU af=>ew _ _ (kh.trans b9 b3 pc af)) λm hm=>?_
    ·grind
    grind
   ·have U7:=abk (A:=λm=>(bd.getD k []).contains m) (S:=ep listed) av bT fq λe he dL=>Ce e.1 (by simpa using dL);have XD:∀ r:Place,rs r->ds g (λm=>(bd.getD k []).contains m) acc r.root≠none:=λr hr=>by
     rw [m_]
     ·grind
     ·intro e he aI;have:=av.fresh bT e he
      grind
    have W4:=Nt (S:=ep listed) he XD U J (λe he=>⟨W8 e he,h1 e he⟩) eG;have hle:oW (ds g (λm=>(bd.getD k []).contains m) acc) (ds g (ep listed) acc):=by
     intro t x J;rcases u1 J with ⟨e,he,rfl,Fp,hex⟩ | ⟨rj,aN⟩
     ·rw [av.at_mem bT he,Ce e.1 (by simpa using Fp)]; exact hex
     grind [m_]
    unfold wpOp;simp only [aX,(iH.mono hle hw).sound bf,if_true];refine .inl (W4 w I a.tmps Fs (by rw [<- U7]; exact bf) a rfl bp _ _ λca w' aC _ _=>?_);obtain ⟨b9,b3,I',bW,d',pc⟩:=aC;refine Yx B5 fuel (listed.setIfInBounds k true) ca w' I' bW (by omega) (by simpa using fr) (λm hm cS=>?_) (λm hm=>?_) (IC dL fr aQ hk) ?_ (b3.1.trans bp) λa2 gU af=>ew _ _ (kh.trans b9 b3 pc af)
    ·rw [fN];split
     ·rfl
     ·rename_i aeB;cases vE:ep listed m with
      | true=>rfl
      | false =>
       exfalso;obtain ⟨e,Oz,rfl⟩:=av.entry aP (show m<k by omega) vE
       grind
    ·grind
    ·have:ds g1 (ep (listed.setIfInBounds k true)) U=ds g1 (ep listed) U:=funext λt=>Ek λe he _=>by
      grind
     grind
   grind
end
section
variable {P:Program}{N:cP}
def lK (P:Program) (N:cP) (c:Code) (g:aM) (e:Exit) (g':aM):Prop :=
 ∀ ⦃Q:Exit->Act->World->Prop⦄ ⦃a:Act⦄ ⦃w:World⦄ ⦃I:a'⦄ ⦃Fs:Nat->a'⦄,cB w I a.tmps g Fs->a.tmps.size=N.size->(∀ ca w',kh N a w I Fs g' ca w'->Q e ca w')->c.wp P Q a w
theorem lK.skip {g:aM}:lK P N .skip g .normal g:=λ_ _ _ _ _ bf _ ew=>wp_skip (ew _ _ ⟨rfl,ic.refl,_,_,bf,k3.refl _ _ _⟩)
theorem lK.ret {g:aM}:lK P N .ret g .ret g:=λ_ _ _ _ _ bf _ ew=>wp_ret (ew _ _ ⟨rfl,ic.refl,_,_,bf,k3.refl _ _ _⟩)
theorem lK.exit {g:aM}{id:Nat}:lK P N (.exit id) g (.exit id) g:=λ_ _ _ _ _ bf _ ew=>wp_exit (ew _ _ ⟨rfl,ic.refl,_,_,bf,k3.refl _ _ _⟩)
def HL (P:Program) (c:Code) (Q:Exit->Act->World->Prop) (a:Act) (w:World):Prop :=
 ∀ (b:Frame) (k:List Item) (cs:List Frame),∃ e ca w',Q e ca w'/\Arrives P (lone (b.at a (.code c::.inLoop c::k)) cs w) b k cs e ca w'
theorem YP {c:Code}{Q:Exit->Act->World->Prop}{a:Act}{w:World}(h:c.wp P (Exit.then (HL P c Q) Q) a w):HL P c Q a w:=by
 intro b k cs;obtain ⟨e,Bv,Ep,a_,k_⟩:=h b (.inLoop c::k) cs;cases e with
 | normal =>
  obtain ⟨U8,Tg,abt,XA,Wn⟩:=a_ b k cs;exact ⟨U8,Tg,abt,XA,.of_steps (Steps.trans k_ (.one step_inLoop)) Wn⟩
 | exit id=>exact ⟨_,Bv,Ep,a_,.pass (x:=.inLoop c) rfl (λ_ _=>.inl (by simp)) k_⟩
 | goto l=>exact ⟨_,Bv,Ep,a_,.pass (x:=.inLoop c) rfl (λ_ _=>.inl (by simp)) k_⟩
 | ret=>exact ⟨_,Bv,Ep,a_,.pass (x:=.inLoop c) rfl (λ_ _=>.inl (by simp)) k_⟩
 | panic bY=>exact ⟨_,Bv,Ep,a_,.pass (x:=.inLoop c) rfl (λ_ _=>.inl (by simp)) k_⟩
 | outgrown=>exact ⟨_,Bv,Ep,a_,.pass (x:=.inLoop c) rfl (λ_ _=>.inl (by simp)) k_⟩
theorem lK.region {id:Nat}{ops:Array Oper}{g g':aM}(h:oZ P N ops (List.range ops.size) g g'):lK P N (.region id ops false) g .normal g' :=
 λ_ _ _ _ _ bf bp ew=>wp_region (h.sound bf bp ew)
theorem lK.draw {id:Nat}{ops:Array Oper}{bd:List (List Nat)}{g g':aM}(hm:P.follows .mixedOrders=true) (dL:qg ops bd=true) (h:sR P N ops bd 0 [] g g'):lK P N (.region id ops true) g .normal g':=by
 intro Q a w I Fs bf bp ew;refine wp_region_any hm ?_;have d':cB w.drew I a.tmps g Fs:=bf.world (λ_ _ _=>rfl) (λ_ _=>rfl) (Nat.le_refl _);have hq:∀ k,ep (Array.replicate ops.size false) k=false:=by
  intro k;unfold ep;rcases Nat.lt_or_ge k ops.size with h | h
  ·simp [h]
  grind
 refine h.sound dL .nil ops.size (Array.replicate ops.size false) a w.drew I Fs ?_ (by simp) (λk hk=>by omega) (λk _=>hq k) (λk hk=>by rw [hq] at hk; cases hk) d' bp λca w' aC=>ew _ _ ?_
 ·grind [vh]
 ·obtain ⟨b9,b3,I',bW,iw,bU⟩:=aC;exact ⟨b9,b3,I',bW,iw,⟨⟨bU.dM.os,bU.dM.tape,bU.dM.output,bU.dM.size,bU.dM.block,bU.dM.dN,Nat.le_trans (Nat.le_succ _) bU.dM.zx⟩,bU.more,bU.new,bU.own⟩⟩
inductive nN:ab->ab->Prop
 | refl {x:ab}:nN x x
 | dead {x:ab}(h:j1 x\/cG x):nN x .dead
 | pY {z:Nat}:nN .aS (.own z 0 [])
 | pX {z:Nat}:nN .aS (.bl z 0 [])
 | obj {cs cs':List ab}(ah:cs'.length=cs.length) (h:∀ (k:Nat) (x y:ab),cs[k]?=some x->cs'[k]?=some y->nN x y):nN (.obj cs) (.obj cs')
 | own {z n:Nat}{cs cs':List ab}(ah:cs'.length=cs.length) (h:∀ (k:Nat) (x y:ab),cs[k]?=some x->cs'[k]?=some y->nN x y):nN (.own z n cs) (.own z n cs')
theorem nN.jx {x y:ab}{j:Nat × Nat}(h:nN x y) (e:y=.self j):x=.self j:=by
 cases h <;> first | exact e | cases e
theorem R.eP {w:World}{I:a'}{ρ:ab->Value->Prop}{x x':ab}(h:nN x x'):∀ {v:Value}{F:a'},R w I ρ x v F->∃ cU,R w I ρ x' v cU/\∀ c,cU c->F c:=by
 induction h with
 | refl=>exact λaY=>⟨_,aY,λ_ h=>h⟩
 | dead=>exact λaY=>⟨cg,.dead λ_ h=>h,λ_ h=>h.elim⟩
 | pY =>
  intro v F aY;rw [aY.rv];exact ⟨cg,.own (e:=0) (us:=[]) (Fs:=λ_=>cg) ⟨by simp,.inl ⟨rfl,rfl⟩⟩ rfl (by simp) (by simp) (λ_ _ _ _ _ h=>h.elim) (λ_ _ _ h=>h.elim) λc=>⟨λh=>h.elim,λh=>h.elim (λh=>by simp [Value.ownBlock] at h) λ⟨_,_,h⟩=>h⟩,λ_ h=>h.elim⟩
 | pX=>intro v F aY; rw [aY.rv]; exact ⟨cg,.gK λ_ h=>h,λ_ h=>h.elim⟩
 | @obj cs cs' ah sk aO =>
  intro v F aY;cases aY with
  | ref J=>simp [ab.isRef] at J
  | @obj _ b e arr bD _ aX hU h1 hr aQ ar aH av =>
   have:∀ k,∃ tB:a',k<cs.length->(∀ (x:ab) (u:Value),cs'[k]?=some x->arr[k]?=some u->R w I ρ x u tB)/\∀ c,tB c->bD k c:=by
    intro k;by_cases hk:k<cs.length
    ·have J:=List.getElem?_eq_getElem hk;have ao:cs'[k]?=some (cs'[k]'(by omega)):=List.getElem?_eq_getElem (by omega);have hu:arr[k]?=some (arr[k]'(by omega)):=Array.getElem?_eq_getElem (by omega);obtain ⟨cU,h1,af⟩:=aO k _ _ J ao (hr k _ _ J hu);refine ⟨cU,λ_=>⟨λx u fc h0=>?_,af⟩⟩;rw [ao] at fc; rw [hu] at h0;cases fc; cases h0;exact h1
    ·exact ⟨cg,λh=>absurd h hk⟩
   obtain ⟨tB,r8⟩:=Classical.axiomOfChoice this;refine ⟨_,.obj (Fs:=tB) aX (by omega) h1 (λk x u J hu=>(r8 k (by rw [<- ah]; exact (List.getElem?_eq_some_iff.1 J).1)).1 x u J hu) (λj k c ag hk h aI=>aQ j k c (by omega) (by omega) ((r8 j (by omega)).2 c h) ((r8 k (by omega)).2 c aI)) (λk hk h=>ar k (by omega) ((r8 k (by omega)).2 b h)) (λc=>Iff.rfl) (λk j u hk=>av k j u (Gk ah sk (λ_ _ _=>nN.jx) k j hk)),λc aa=>?_⟩;rcases aa with rfl | ⟨k,hk,h⟩
   ·exact (aH _).2 (.inl rfl)
   ·exact (aH c).2 (.inr ⟨k,by omega,(r8 k (by omega)).2 c h⟩)
 | @own z n cs cs' ah _ aO =>
  intro v F aY;cases aY with
  | ref J=>simp [ab.isRef] at J
  | @own _ _ _ _ e us bD _ aX hU h1 hr aQ ar aH =>
   have:∀ k,∃ tB:a',k<cs.length->(∀ (x:ab) (u:Value),cs'[k]?=some x->us[k]?=some u->R w I ρ x u tB)/\∀ c,tB c->bD k c:=by
    intro k;by_cases hk:k<cs.length
    ·have J:=List.getElem?_eq_getElem hk;have ao:cs'[k]?=some (cs'[k]'(by omega)):=List.getElem?_eq_getElem (by omega);have hu:us[k]?=some (us[k]'(by omega)):=List.getElem?_eq_getElem (by omega);obtain ⟨cU,h1,af⟩:=aO k _ _ J ao (hr k _ _ J hu);refine ⟨cU,λ_=>⟨λx u fc h0=>?_,af⟩⟩;rw [ao] at fc; rw [hu] at h0;cases fc; cases h0;exact h1
    ·exact ⟨cg,λh=>absurd h hk⟩
   obtain ⟨tB,r8⟩:=Classical.axiomOfChoice this;refine ⟨_,.own (Fs:=tB) aX (by omega) h1 (λk x u J hu=>(r8 k (by rw [<- ah]; exact (List.getElem?_eq_some_iff.1 J).1)).1 x u J hu) (λj k c ag hk h aI=>aQ j k c (by omega) (by omega) ((r8 j (by omega)).2 c h) ((r8 k (by omega)).2 c aI)) (λk c hk h=>ar k c (by omega) ((r8 k (by omega)).2 c h)) (λc=>Iff.rfl),λc aa=>?_⟩;rcases aa with aa | ⟨k,hk,h⟩
   ·exact (aH _).2 (.inl aa)
   ·exact (aH c).2 (.inr ⟨k,by omega,(r8 k (by omega)).2 c h⟩)
structure np (g1 g2:aM):Prop where
 sub:∀ t x,g2 t=some x->∃ y,g1 t=some y/\nN y x
 b0:∀ t x,g2 t=some x->cW g2 x
 fJ:∀ t z q n m new,g2 t≠some (.bI z q n m new)
theorem cB.eP {w:World}{I:a'}{T:Array Value}{g1 g2:aM}{Fs:Nat->a'}(h:cB w I T g1 Fs) (hk:np g1 g2):∃ bW,cB w I T g2 bW/\∀ t c,bW t c->Fs t c:=by
 have:∀ t,∃ cU:a',(∀ x,g2 t=some x->∃ v,T[t]?=some v/\R w I (dz w T g2) x v cU)/\(∀ c,cU c->Fs t c)/\(g2 t=none->∀ c,¬ cU c):=by
  intro t;cases J:g2 t with
  | none=>exact ⟨cg,by simp,λ_ h=>h.elim,λ_ _ h=>h⟩
  | some x =>
   obtain ⟨y,ao,hw⟩:=hk.sub t x J;obtain ⟨v,hv,aY⟩:=h.mZ.rel t y ao;have lx:∀ z q n m new,y≠.bI z q n m new:=by
    rintro z q n m new rfl;cases hw with
    | refl=>exact hk.fJ _ _ _ _ _ _ J
    | dead bO=>rcases bO with bO | bO <;> cases bO
   obtain ⟨cU,iL,oC⟩:=R.eP hw (aY.gw lx);exact ⟨cU,λx' fc=>by cases fc; exact ⟨v,hv,iL.b0 (hk.b0 t x J)⟩,oC,by simp⟩
 obtain ⟨bW,pH⟩:=Classical.axiomOfChoice this;refine ⟨bW,⟨λt x J=>?_,λt au=>(pH t).2.2 au,λt t' c h1 af=>h.ec _ _ _ ((pH t).2.1 c h1) ((pH t').2.1 c af),λt c aa=>h.bl _ _ ((pH t).2.1 c aa),h.lt,λt t' z p n m new _ _ _ _ h1=>absurd h1 (hk.fJ _ _ _ _ _ _),h.hW⟩,λt=>(pH t).2.1⟩;obtain ⟨v,hv,aY⟩:=(pH t).1 x J;exact ⟨v,hv,.tree aY⟩
end
inductive Bq (P:Program) (g:aM):ResultVar->ab->Prop
 | tmp {t:Nat}{y:ab}(h:bs g (.tmp t)=some y):Bq P g (.tmp t) y
 | cell {a:Nat}{t ty:TypeId}{y:ab}(h:dj P g (.load t (.tmp a)) ty y):Bq P g (.cell a t) y
inductive tI (P:Program) (g:aM):List ResultVar->List ab->Prop
 | nil:tI P g [] []
 | cons {r:ResultVar}{rs:List ResultVar}{y:ab}{ys:List ab}(h:Bq P g r y) (au:tI P g rs ys):tI P g (r::rs) (y::ys)
def p2:List ab->ab
 | [x]=>x
 | l=>.bR l
def yu:List Value->Value
 | [x]=>x
 | l=>.tuple l.toArray
def wk (tmps:Array Value):ResultVar->Sem Value
 | .tmp t=>pure (tmps.getD t undef)
 | .cell a t=>do loadVar t (<- asAddr (tmps.getD a undef))
section
variable {P:Program}{w:World}{I:a'}{g:aM}{Fs:Nat->a'}
theorem Bq.run {a:Act}(h:cB w I a.tmps g Fs) {r:ResultVar}{y:ab}(hr:Bq P g r y):∃ v,(wk a.tmps r).run P w=.ok v w/\R w I (dz w a.tmps g) y v cg:=by
 cases hr with
 | @tmp t y h1=>exact ⟨_,rfl,kd h h1 rfl⟩
 | @cell a0 t ty y h1 =>
  obtain ⟨v, hv, aY⟩ := dj.sound h rfl (o := { dst := none, op := .load t (.tmp a0), type := ty, pos := "", after := #[], guard := none }) h1;refine ⟨v,?_,aY⟩;have he:a.eval (.tmp a0)=a.tmps.getD a0 undef:=rfl;simp only [execOp,he] at hv;cases aa:a.tmps.getD a0 undef with
  | pointer ad =>
   cases ad with
   | some ad =>
    rw [aa] at hv;simp only [Instr.loadAt,Instr.sureAddr] at hv;simp only [wk,aa,asAddr];have aq:(pure ad >>= λx=>loadVar t x:Sem Value)=loadVar t ad:=by simp
    rw [aq];revert hv;generalize a_:loadVar t ad=q;intro hv;simp [a_] at hv;cases FI:q.run P w with
    | ok x gU=>rw [FI] at hv; simp at hv; rw [hv.1,hv.2]
    | halt e gU=>rw [FI] at hv; simp at hv
   | none=>rw [aa] at hv; simp [Instr.loadAt,Instr.sureAddr] at hv
  | _=>rw [aa] at hv; simp [Instr.loadAt,Instr.sureAddr] at hv
theorem QR {f:ResultVar->Sem Value}:∀ (l:List ResultVar) (vs:List Value),l.length=vs.length->(∀ (k:Nat) (r:ResultVar) (v:Value),l[k]?=some r->vs[k]?=some v->(f r).run P w=.ok v w)->(l.mapM f).run P w=.ok vs w
 | [],[],_,_=>rfl
 | r::l,v::vs,ah,h=>by
  have aK:=h 0 r v rfl rfl;have h1:=QR l vs (by simpa using ah) λk r v hr hv=>h (k+1) r v (by simpa using hr) (by simpa using hv);simp [List.mapM_cons,aK,h1]
 | [],_::_,ah,_=>by simp at ah
 | _::_,[],ah,_=>by simp at ah
theorem aag {fn:Func}{tmps:Array Value}{vs:List Value}(ah:fn.results.toList.length=vs.length) (h:∀ (k:Nat) (r:ResultVar) (v:Value),fn.results.toList[k]?=some r->vs[k]?=some v->(wk tmps r).run P w=.ok v w):(results fn tmps).run P w=.ok (yu vs) w:=by
 have h1:=QR fn.results.toList vs ah h;have af:fn.results.mapM (wk tmps)=List.toArray <$> fn.results.toList.mapM (wk tmps):=Array.mapM_eq_mapM_toList;have aE:(fn.results.mapM (wk tmps)).run P w=.ok vs.toArray w:=by rw [af]; simp [h1]
 have bm:results fn tmps=(do let vs <- fn.results.mapM (wk tmps); pure (if h:vs.size=1 then vs[0] else .tuple vs)):=by
  unfold results;congr 1
 rw [bm];simp only [Sem.run_bind,aE]
 match vs with
 | []=>rfl
 | [x]=>rfl
 | x::y::l=>simp [yu]
theorem tI.length {g:aM}{rs:List ResultVar}{ys:List ab}(h:tI P g rs ys):rs.length=ys.length:=by
 induction h with
 | nil=>rfl
 | cons _ _ aO=>simp [aO]
theorem tI.run {a:Act}(h:cB w I a.tmps g Fs) {rs:List ResultVar}{ys:List ab}(hr:tI P g rs ys):∃ vs:List Value,rs.length=vs.length/\(∀ (k:Nat) (r:ResultVar) (v:Value),rs[k]?=some r->vs[k]?=some v->(wk a.tmps r).run P w=.ok v w) /\
  ∀ (k:Nat) (y:ab) (v:Value),ys[k]?=some y->vs[k]?=some v->R w I (dz w a.tmps g) y v cg:=by
 induction hr with
 | nil=>exact ⟨[],rfl,by simp,by simp⟩
 | cons h1 _ aO =>
  obtain ⟨v,hv,aY⟩:=h1.run h;obtain ⟨vs,ah,af,aE⟩:=aO;refine ⟨v::vs,by simp [ah],λk r u hr hu=>?_,λk y u ao hu=>?_⟩
  ·cases k with
   | zero=>simp at hr hu; subst hr hu; exact hv
   | succ k=>exact af k r u (by simpa using hr) (by simpa using hu)
  ·cases k with
   | zero=>simp at ao hu; subst ao hu; exact aY
   | succ k=>exact aE k y u (by simpa using ao) (by simpa using hu)
theorem Hand.p2 {ρ:ab->Value->Prop}{Fs:Nat->a'}{xs:List ab}{vs:List Value}{dm:Nat->a'}(h:Hand w I ρ Fs xs vs dm) (aC:∀ x∈xs,cG x) (ρ':ab->Value->Prop):R w I ρ' (p2 xs) (yu vs) (λc=>∃ k,k<xs.length/\dm k c)/\cG (p2 xs):=by
 have bR:R w I ρ' (.bR xs) (.tuple vs.toArray) (λc=>∃ k,k<xs.length/\dm k c) :=
  .bR (by simpa using h.len) (λk x u J hu=>(h.rel k x u J (by simpa using hu)).bn (aC x (List.mem_of_getElem? J))) h.ec λc=>Iff.rfl
 match xs,vs,h,aC,bR with
 | [],[],_,_,bR=>exact ⟨bR,.bR (by simp)⟩
 | [x],[v],h,aC,_ =>
  refine ⟨((h.rel 0 x v rfl rfl).bn (aC x (by simp))).zu λc=>⟨λaa=>⟨0,by simp,aa⟩,λ⟨k,hk,aa⟩=>?_⟩,aC x (by simp)⟩;have:k=0:=by simpa using hk
  subst this; exact aa
 | x::y::l,v::u::m,_,aC,bR=>exact ⟨bR,.bR aC⟩
 | [],_::_,h,_,_=>have:=h.len; simp at this
 | _::_,[],h,_,_=>have:=h.len; simp at this
 | [_],_::_::_,h,_,_=>have:=h.len; simp at this
 | _::_::_,[_],h,_,_=>have:=h.len; simp at this
structure Leaves (P:Program) (N:cP) (rs:List ResultVar) (g':aM) (n:Nat) (outs:List (Option ab)) (res:ab):Prop where
 ex:∃ ys xs g1,tI P g' rs ys/\Take g' ys xs g1/\res=p2 xs/\∀ (k:Nat) (x:ab),outs[k]?=some (some x)->g1 k=some x/\cG x/\k∈N.pins
 len:outs.length=n
theorem cB.more {T:Array Value}(h:cB w I T g Fs) {T':Array Value}(cX:∀ t,g t≠none->T'[t]?=T[t]?):cB w I T' g Fs:=by
 refine ⟨λt x J=>?_,h.lh,h.ec,h.bl,h.lt,h.rF,h.hW⟩;obtain ⟨u,hu,aY⟩:=h.rel t x J;exact ⟨u,by rw [cX t (by rw [J]; simp)]; exact hu,h.w8 cX (λ_ _ _=>rfl) (λ_ _=>rfl) (λ_ h=>h) (λ_ _ h=>h) aY λ_ _=>rfl⟩
end
section
variable {P:Program}{N:cP}
def W (P:Program) (N:cP) (c:Code) (g:aM) (Φ:Exit->aM->Prop):Prop :=
 ∀ ⦃Q:Exit->Act->World->Prop⦄ ⦃a:Act⦄ ⦃w:World⦄ ⦃I:a'⦄ ⦃Fs:Nat->a'⦄,cB w I a.tmps g Fs->a.tmps.size=N.size->(∀ e g' ca w',Φ e g'->kh N a w I Fs g' ca w'->Q e ca w')->c.wp P Q a w
def pr (Ψ:aM->Prop) (Φ:Exit->aM->Prop):Exit->aM->Prop
 | .normal,g=>Ψ g
 | e,g=>Φ e g
def mo (id:Nat) (Φ:Exit->aM->Prop):Exit->aM->Prop
 | .exit k,g=>if k=id then Φ .normal g else Φ (.exit k) g
 | e,g=>Φ e g
theorem lK.w {c:Code}{g g':aM}{e:Exit}{Φ:Exit->aM->Prop}(h:lK P N c g e g') (qD:Φ e g'):W P N c g Φ :=
 λ_ _ _ _ _ bf bp ew=>h bf bp λca w' aC=>ew _ _ ca w' qD aC
theorem W.mono {c:Code}{g:aM}{Φ qT:Exit->aM->Prop}(h:W P N c g Φ) (qD:∀ e g',Φ e g'->qT e g'):W P N c g qT :=
 λ_ _ _ _ _ bf bp ew=>h bf bp λ_ _ ca w' h1 aC=>ew _ _ ca w' (qD _ _ h1) aC
theorem W.skip {g:aM}{Φ:Exit->aM->Prop}(h:Φ .normal g):W P N .skip g Φ:=lK.skip.w h
theorem W.ret {g:aM}{Φ:Exit->aM->Prop}(h:Φ .ret g):W P N .ret g Φ:=lK.ret.w h
theorem W.exit {g:aM}{id:Nat}{Φ:Exit->aM->Prop}(h:Φ (.exit id) g):W P N (.exit id) g Φ:=lK.exit.w h
theorem W.seq {x y:Code}{g:aM}{Φ:Exit->aM->Prop}(h:W P N x g (pr (λg1=>W P N y g1 Φ) Φ)):W P N (.seq x y) g Φ:=by
 intro Q a w I Fs bf bp ew;refine wp_seq (h bf bp λe g1 aw hX h1 aC=>?_);cases e with
 | normal =>
  obtain ⟨b9,b3,I',bW,d',bU⟩:=aC;exact h1 d' (b3.1.trans bp) λtT g2 a2 gU af rh=>ew _ _ _ _ af (kh.trans b9 b3 bU rh)
 | _=>exact ew _ _ _ _ h1 aC
theorem W.cond {c:Operand}{x y:Code}{g:aM}{Φ:Exit->aM->Prop}{b:Bool}(aa:bs g c=some (.lit (.bool b))) (h:W P N (if b then x else y) g Φ):W P N (.cond c x y) g Φ :=
 λ_ _ _ _ _ bf bp ew=>wp_cond (t:=b) (kd bf aa rfl).hM.1 (h bf bp ew)
theorem W.UG {c:Operand}{x y:Code}{g:aM}{Φ:Exit->aM->Prop}(aa:bs g c=some (.lit (.bool true))) (h:W P N x g Φ):W P N (.cond c x y) g Φ:=W.cond aa h
theorem W.UE {c:Operand}{x y:Code}{g:aM}{Φ:Exit->aM->Prop}(aa:bs g c=some (.lit (.bool false))) (h:W P N y g Φ):W P N (.cond c x y) g Φ:=W.cond aa h
theorem W.block {id:Nat}{c:Code}{g:aM}{Φ:Exit->aM->Prop}(h:W P N c g (mo id Φ)):W P N (.block id c) g Φ:=by
 intro Q a w I Fs bf bp ew;refine wp_block (h bf bp λe g1 aw hX h1 aC=>?_);cases e with
 | exit k =>
  have af:if k=id then Φ .normal g1 else Φ (.exit k) g1:=h1
  grind [Exit.inBlock]
 | _=>exact ew _ _ _ _ h1 aC
def pC (P:Program) (N:cP) (c:Code) (g:aM) (Φ:Exit->aM->Prop):Prop :=
 ∀ ⦃Q:Exit->Act->World->Prop⦄ ⦃a:Act⦄ ⦃w:World⦄ ⦃I:a'⦄ ⦃Fs:Nat->a'⦄,cB w I a.tmps g Fs->a.tmps.size=N.size->(∀ e g' ca w',Φ e g'->kh N a w I Fs g' ca w'->Q e ca w')->HL P c Q a w
theorem W.loop {c:Code}{g:aM}{Φ:Exit->aM->Prop}(h:pC P N c g Φ):W P N (.loop c) g Φ:=by
 intro Q a w I Fs bf bp ew b k cs;obtain ⟨e,ca,w',a_,k_⟩:=h bf bp ew b k cs;exact ⟨e,ca,w',a_,.of_steps (.one step_loop) k_⟩
theorem pC.step {c:Code}{g:aM}{Φ:Exit->aM->Prop}(h:W P N c g (pr (λg1=>pC P N c g1 Φ) Φ)):pC P N c g Φ:=by
 intro Q a w I Fs bf bp ew;refine YP (h bf bp λe g1 aw hX h1 aC=>?_);cases e with
 | normal =>
  obtain ⟨b9,b3,I',bW,d',bU⟩:=aC;exact h1 d' (b3.1.trans bp) λtT g2 a2 gU af rh=>ew _ _ _ _ af (kh.trans b9 b3 bU rh)
 | _=>exact ew _ _ _ _ h1 aC
theorem W.weaken {c:Code}{g g1:aM}{Φ:Exit->aM->Prop}(hk:np g g1) (h:W P N c g1 Φ):W P N c g Φ:=by
 intro Q a w I Fs bf bp ew;obtain ⟨bW,d',hL⟩:=bf.eP hk;exact h d' bp λe g' ca w' h1 aC=>ew _ _ _ _ h1 (kh.trans rfl ic.refl ⟨Fr.refl _ _,λ_ h=>h,λ_ h=>.inl h,λc ⟨t,aa⟩=>.inl ⟨t,hL t c aa⟩⟩ aC)
theorem pC.weaken {c:Code}{g g1:aM}{Φ:Exit->aM->Prop}(hk:np g g1) (h:pC P N c g1 Φ):pC P N c g Φ:=by
 intro Q a w I Fs bf bp ew;obtain ⟨bW,d',hL⟩:=bf.eP hk;exact h d' bp λe g' ca w' h1 aC=>ew _ _ _ _ h1 (kh.trans rfl ic.refl ⟨Fr.refl _ _,λ_ h=>h,λ_ h=>.inl h,λc ⟨t,aa⟩=>.inl ⟨t,hL t c aa⟩⟩ aC)
def Ms (P:Program) (N:cP) (ops:Array Oper) (is:List Nat) (g:aM) (K:aM->Prop):Prop:=∃ g',oZ P N ops is g g'/\K g'
theorem W.region {id:Nat}{ops:Array Oper}{g:aM}{Φ:Exit->aM->Prop}(h:Ms P N ops (List.range ops.size) g (Φ .normal)):W P N (.region id ops false) g Φ:=by
 obtain ⟨g',hr,qD⟩:=h;exact (lK.region hr).w qD
theorem bS.Y7 {f:FuncId}{fn:Func}{c:Code}{args:List ab}{outs:List (Option ab)}{res:ab}{N:cP}(aU:P.funcs[f]?=some fn) (ar:fn.body=some c) (bp:fn.ntmps=N.size) (aJ:args.length<=N.size)
  (hlen:outs.length=args.length) (hw:W P N c (sV args) λe g'=>(e=.normal\/e=.ret)/\Leaves P N fn.results.toList g' args.length outs res):bS P f args outs res:=by
 refine ⟨hlen,λw I vs Fs Ki bf=>calls_of_wp aU ar ?_⟩;have fr:({ tmps:=vs.toArray++Array.replicate (fn.ntmps - vs.toArray.size) undef,defers:=[] }:Act).tmps.size=N.size:=by
  simp; omega
 have mR:∀ t,t<vs.length->(vs.toArray++Array.replicate (fn.ntmps - vs.toArray.size) undef)[t]?=vs.toArray[t]?:=by
  intro t au;rw [Array.getElem?_append_left (by simpa using au)]
 refine hw (bf.more (T':=vs.toArray++Array.replicate (fn.ntmps - vs.toArray.size) undef) λt au=>mR t ?_) fr λe g' ca w' ⟨he,aX⟩ aC=>?_
 ·unfold sV at au;rw [Ki];rcases Nat.lt_or_ge t args.length with h | h
  ·exact h
  ·exact absurd (List.getElem?_eq_none h) au
 obtain ⟨aQ,hold,I',bW,d',bU⟩:=aC;obtain ⟨ys,xs,g1,O1,au,rfl,rj⟩:=aX.ex;obtain ⟨us,oJ,hA,nu⟩:=O1.run d';have FO:ys.length=us.length:=by rw [<- O1.length,oJ]
 obtain ⟨fx,dm,iZ,iv,hq⟩:=au.sound d'.mZ (⟨FO,λk x u J hu=>(nu k x u J hu).frame (λ_ _=>rfl) (λ_ h=>h) (λ_ _ h=>h.1) λ_ _=>rfl,λ_ _ _ _ _ h=>h.elim,λ_ _ _ _ h=>h.elim,λ_ _ _ h=>h.elim⟩:Hand w' I' (fp w' ca.tmps) bW ys us λ_=>cg);have hL:∀ c,lI fx xs.length dm c->∃ t,bW t c:=by
  intro c aa;rcases hq c aa with h | ⟨_,_,h⟩
  ·exact h
  ·exact h.elim
 have W7:∃ jY,cB w' I' (vs++[yu us]).toArray (kS outs (p2 xs)) jY/\∀ t c,jY t c->∃ t,bW t c:=by
  classical
  refine ⟨λt=>if t=outs.length then (λc=>∃ k,k<xs.length/\dm k c) else if ∃ x,outs[t]?=some (some x) then fx t else cg,⟨λt x J=>?_,λt rp c aa=>?_,λt t' c h1 af=>?_,λt c aa=>?_,d'.lt,λt t' z p n m new bQ cm m' cO h1 af=>?_,d'.hW⟩,λt c aa=>?_⟩
  ·unfold kS at J;by_cases aK:t=outs.length
   ·rw [if_pos aK] at J;cases J;subst aK;refine ⟨yu us,?_,.tree ?_⟩
    ·rw [aX.len,<- Ki]; simp
    ·simpa using (iv.p2 au.Ah _).1
   ·rw [if_neg aK] at J;have fc:outs[t]?=some (some x):=by
     cases bO:outs[t]? with
     | none=>rw [bO] at J; cases J
     | some y=>rw [bO] at J; simpa using J
    obtain ⟨h1,af,aE⟩:=rj t x fc;have Ke:t<vs.length:=by
     have:=(List.getElem?_eq_some_iff.1 fc).1;rw [Ki,<- aX.len]; exact this
    obtain ⟨v,hv,aY⟩:=iZ.rel t x h1;refine ⟨v,?_,?_⟩
    ·rw [hold.2 t aE] at hv;simp only at hv;rw [mR t Ke] at hv;simp only [List.getElem?_toArray] at hv ⊢;rw [List.getElem?_append_left Ke]; exact hv
    ·simp only [aK,if_false];rw [if_pos ⟨x,fc⟩];exact .tree ((aY.gw (by rintro z p n m new rfl; cases af)).bn af)
  ·unfold kS at rp;by_cases aK:t=outs.length
   ·rw [if_pos aK] at rp; cases rp
   ·rw [if_neg aK] at rp;simp only [aK,if_false] at aa;rw [if_neg] at aa
    ·exact aa
    ·rintro ⟨x,J⟩;rw [J] at rp; cases rp
  ·by_cases aK:t=outs.length <;> by_cases Fm:t'=outs.length <;> simp only [aK,Fm,if_true,if_false] at h1 af
   ·rw [aK,Fm]
   ·split at af
    ·obtain ⟨k,hk,aa⟩:=h1;exact absurd af (iv.off k t' c hk aa)
    ·exact af.elim
   ·split at h1
    ·obtain ⟨k,hk,aa⟩:=af;exact absurd h1 (iv.off k t c hk aa)
    ·exact h1.elim
   ·split at h1
    ·split at af
     ·exact iZ.ec _ _ _ h1 af
     ·exact af.elim
    ·exact h1.elim
  ·by_cases aK:t=outs.length <;> simp only [aK,if_true,if_false] at aa
   ·obtain ⟨k,hk,aa⟩:=aa;exact iv.bl k c hk aa
   ·split at aa
    ·exact iZ.bl _ _ aa
    ·exact aa.elim
  ·have key:∀ t x,kS outs (p2 xs) t=some x->cG x:=by
    intro t x J;unfold kS at J
    split at J
    ·cases J; exact (iv.p2 au.Ah (λ_ _=>False)).2
    ·cases bO:outs[t]? with
     | none=>rw [bO] at J; cases J
     | some y=>rw [bO] at J; exact (rj t x (by rw [bO]; simpa using J)).2.1
   have:=key t _ h1;cases this
  ·by_cases aK:t=outs.length <;> simp only [aK,if_true,if_false] at aa
   ·obtain ⟨k,hk,aa⟩:=aa;exact hL c (.inr ⟨k,hk,aa⟩)
   ·split at aa
    ·exact hL c (.inl ⟨t,aa⟩)
    ·exact aa.elim
 obtain ⟨jY,iw,XP⟩:=W7;have Xz:ca.defers=[]/\∃ v,(results fn ca.tmps).run P w'=.ok v w'/\∃ dK I' bW,Ending.returned v=.returned dK/\cB w' I' (vs++[dK]).toArray (kS outs (p2 xs)) bW/\k3 w I (λc=>∃ t,Fs t c) w' I' (λc=>∃ t,bW t c) :=
  ⟨aQ,yu us,aag oJ hA,yu us,I',jY,rfl,iw,bU.trans ⟨Fr.refl _ _,λ_ h=>h,λ_ h=>.inl h,λc ⟨t,aa⟩=>.inl (XP t c aa)⟩⟩
 rcases he with rfl | rfl <;> exact Xz
end
def get:List (Nat × ab)->aM
 | [],_=>none
 | (s,x)::l,t=>if t=s then some x else get l t
inductive Rd (g:aM):Operand->ab->Prop
 | lit {t:Nat}{v:Value}(h:g t=some (.lit v)):Rd g (.tmp t) (.lit v)
 | k {v:Value}(h:ofConst v=.lit v):Rd g (.const v) (.lit v)
 | xT:Rd g (.const (.slice none 0 0)) .aS
 | KQ {v:Value}{cs:List ab}(h:ofConst v=.agg cs):Rd g (.const v) (.agg cs)
 | aS {t:Nat}(h:g t=some .aS):Rd g (.tmp t) .aS
 | bl {t z n:Nat}{cs:List ab}(h:g t=some (.bl z n cs)):Rd g (.tmp t) (.bl z n cs)
 | own {t z n:Nat}{cs:List ab}(h:g t=some (.own z n cs)):Rd g (.tmp t) (.a6 z ⟨t,[]⟩ n)
 | obj {t:Nat}{c:ab}{cs:List ab}(h:g t=some (.obj (c::cs))):Rd g (.tmp t) (.ptr ⟨t,[]⟩ 0)
 | cx {t:Nat}{cs:List ab}(h:g t=some (.cx cs)):Rd g (.tmp t) (.cx cs)
 | ptr {t k:Nat}{p:Place}(h:g t=some (.ptr p k)):Rd g (.tmp t) (.ptr p k)
 | a6 {t z n:Nat}{p:Place}(h:g t=some (.a6 z p n)):Rd g (.tmp t) (.a6 z p n)
 | sub {t z lo n:Nat}{p:Place}(h:g t=some (.sub z p lo n)):Rd g (.tmp t) (.sub z p lo n)
 | bI {t z n m:Nat}{p:Place}{new:List ab}(h:g t=some (.bI z p n m new)):Rd g (.tmp t) (.a6 z ⟨t,[]⟩ (n+m))
 | agg {t:Nat}{cs cs':List ab}(h:g t=some (.agg cs)) (aa:(cs.mapIdx λi x=>fZ 1 (Place.push ⟨t,[]⟩ i) x)=cs'):Rd g (.tmp t) (.agg cs')
 | bR {t:Nat}{cs cs':List ab}(h:g t=some (.bR cs)) (aa:(cs.mapIdx λi x=>fZ 1 (Place.push ⟨t,[]⟩ i) x)=cs'):Rd g (.tmp t) (.bR cs')
 | func {f:FuncId}:Rd g (.func f) (.cD (.func f) [] [])
 | cD {t:Nat}{fn:Fn}{cs:List ab}(h:g t=some (.cD fn [] cs)):Rd g (.tmp t) (.cD fn [] cs)
 | mp {t:Nat}{q:Array MapEntry->Nat->Prop}(h:g t=some (.mp q)):Rd g (.tmp t) (.gm ⟨t,[]⟩)
 | gm {t:Nat}{p:Place}(h:g t=some (.gm p)):Rd g (.tmp t) (.gm p)
 | imp {t:Nat}{q:Array MapEntry->Nat->Prop}(h:g t=some (.imp q)):Rd g (.tmp t) (.imp q)
theorem Rd.bs {g:aM}{x:Operand}{y:ab}(h:Rd g x y):bs g x=some y:=by
 cases h with
 | agg h aa=>subst aa; simp [Own.bs,h,pn,fZ]
 | bR h aa=>subst aa; simp [Own.bs,h,pn,fZ]
 | k h=>simp [Own.bs,h]
 | xT=>rfl
 | KQ h=>simp [Own.bs,h]
 | func=>rfl
 | _ h=>simp [Own.bs,h,pn,fZ]
section
variable {P:Program}{N:cP}{ops:Array Oper}{g:aM}{K:aM->Prop}{l:List Oper}
def aA (P:Program) (N:cP) (ops:Array Oper) (l:List Oper) (g:aM) (K:aM->Prop):Prop:=∀ i,ops.toList.drop i=l->Ms P N ops (List.range' i l.length) g K
theorem W.D4 {id:Nat}{l:List Oper}{g:aM}{Φ:Exit->aM->Prop}(h:aA P N l.toArray l g (Φ .normal)):W P N (.region id l.toArray false) g Φ:=by
 refine W.region ?_;have:=h 0 (by simp)
 grind [List.range_eq_range']
theorem aA.nil (h:K g):aA P N ops [] g K:=λ_ _=>⟨g,.nil,h⟩
theorem drop_cons {i:Nat}{o:Oper}(h:ops.toList.drop i=o::l):ops[i]?=some o/\ops.toList.drop (i+1)=l:=by
 have h1:(ops.toList.drop i)[0]?=some o:=by rw [h]; rfl
 rw [List.getElem?_drop] at h1;refine ⟨by simpa using h1,?_⟩;rw [<- List.drop_drop,h];rfl
variable {d:Nat}{op:Op}{ty:TypeId}{pos:String}{after:Array Edge}{x:ab}
theorem aA.Ef {r:Option ab}{o:Oper}(aQ:o.dst=some d) (bp:N.ok d=true) (aU:g d=none) (av:qe P g ops o r) (hk:aA P N ops l (yp g d r) K):aA P N ops (o::l) g K:=by
 intro i hi;obtain ⟨h1,af⟩:=drop_cons hi;obtain ⟨g',hr,c5⟩:=hk (i+1) af;exact ⟨g',.step h1 aQ aU bp av hr,c5⟩
inductive eI (g:aM) (ops:Array Oper):Option (Nat × Bool)->Prop
 | none:eI g ops none
 | yes {j t:Nat}{b:Bool}(h:(ops[j]?).bind (·.dst)=some t) (aN:g t=some (.lit (.bool b))):eI g ops (some (j,b))
variable {gd:Option (Nat × Bool)}{g1:aM}
theorem eI.wanted (h:eI g ops gd):iH g ops ⟨some d,op,ty,pos,after,gd⟩ true:=by
 cases h with
 | none=>rfl
 | @yes j t b h aN=>exact ⟨t,h,.inl ⟨b,aN,by simp⟩⟩
theorem aA.RB (aq:cf P g op ty x) (bp:N.ok d=true) (aU:g d=none) (hw:iH g ops ⟨some d,op,ty,pos,after,gd⟩ true) (hk:aA P N ops l (cV g d x) K):aA P N ops (⟨some d,op,ty,pos,after,gd⟩::l) g K :=
 .Ef rfl bp aU (r:=some x) (.inl ⟨hw,.inl aq⟩) hk
theorem abd:cV (del g d) d x=cV g d x:=by
 grind [cV,del]
theorem aA.over {y:ab}(aq:dj P (del g d) op ty x) (bp:N.ok d=true) (aU:g d=some y) (ah:leaf y=true) (hk:aA P N ops l (cV g d x) K):aA P N ops (⟨some d,op,ty,pos,after,none⟩::l) g K:=by
 intro i hi;obtain ⟨g',hr,c5⟩:=aA.RB (pos:=pos) (after:=after) (gd:=Option.none) (.eD aq) bp (by simp [del]) (eI.wanted .none) (by rw [abd]; exact hk) i hi;exact ⟨g',.drop aU ah hr,c5⟩
theorem aA.abi (aq:cf P g op ty x) (bp:N.ok d=true) (aU:g d=none) (aN:eI g ops gd) (hk:aA P N ops l (cV g d x) K):aA P N ops (⟨some d,op,ty,pos,after,gd⟩::l) g K :=
 .RB aq bp aU aN.wanted hk
theorem aA.call (aq:cp P g op x) (bp:N.ok d=true) (aU:g d=none) (aN:eI g ops gd) (hk:aA P N ops l (cV g d x) K):aA P N ops (⟨some d,op,ty,pos,after,gd⟩::l) g K :=
 .Ef rfl bp aU (r:=some x) (.inl ⟨aN.wanted,.inr aq⟩) hk
variable {jI:Option Nat}
theorem aA.forget {g1:aM}(hk:iE g g1) (h:aA P N ops l g1 K):aA P N ops l g K:=by
 intro i hi;obtain ⟨g',hr,c5⟩:=h i hi;exact ⟨g',.forget hk hr,c5⟩
variable {a b:Operand}{t t2:TypeId}{k:IntKind}{m n:Int}
theorem dj.add (J:Rd g a (.lit (.int k m))) (ao:Rd g b (.lit (.int k n))):dj P g (.binOp .add t a b t2) ty (.lit (.int k (k.wrap (m+n)))) :=
 .bin J.bs ao.bs rfl λw=>by simp [eqGuard,binOp,Op.intArith]
theorem dj.aaR (J:Rd g a (.lit (.int k m))) (ao:Rd g b (.lit (.int k n))):dj P g (.binOp .sub t a b t2) ty (.lit (.int k (k.wrap (m - n)))) :=
 .bin J.bs ao.bs rfl λw=>by simp [eqGuard,binOp,Op.intArith]
theorem dj.quo (J:Rd g a (.lit (.int k m))) (ao:Rd g b (.lit (.int k n))) (h:n≠0):dj P g (.binOp .quo t a b t2) ty (.lit (.int k (k.wrap (m.tdiv n)))) :=
 .bin J.bs ao.bs rfl λw=>by simp [eqGuard,binOp,Op.intDiv,h]
theorem dj.rem (J:Rd g a (.lit (.int k m))) (ao:Rd g b (.lit (.int k n))) (h:n≠0):dj P g (.binOp .rem t a b t2) ty (.lit (.int k (m.tmod n))) :=
 .bin J.bs ao.bs rfl λw=>by simp [eqGuard,binOp,Op.intDiv,h]
theorem dj.cat {s u:ByteArray}(J:Rd g a (.lit (.string s))) (ao:Rd g b (.lit (.string u))) (h:s.size+u.size<=9223372036854775807):dj P g (.binOp .add t a b t2) ty (.lit (.string (s++u))) :=
 .bin J.bs ao.bs rfl λw=>by
  have:¬ ((s.size+u.size:Nat):Int) > IntKind.i64.max:=by
   have:IntKind.i64.max=9223372036854775807:=by decide
   omega
  simp only [eqGuard,binOp,Op.stringOp,if_neg this];simp
theorem M4 {s u:ByteArray}(h:s.toList=u.toList):s=u:=by
 have h1:s.data.toList=u.data.toList:=by
  grind [ByteArray.toList_eq]
 cases s
 simp_all
theorem dj.qn {s u:ByteArray}(J:Rd g a (.lit (.string s))) (ao:Rd g b (.lit (.string u))) {c:Bool}(aa:c=true↔s=u):dj P g (.binOp .eql t a b t2) ty (.lit (.bool c)) :=
 .bin J.bs ao.bs rfl λw=>by
  have:(s.toList == u.toList)=c:=by
   rw [Bool.eq_iff_iff,aa];simp only [beq_iff_eq];exact ⟨M4,λh=>by rw [h]⟩
  simp [eqGuard,binOp,Op.stringOp,this]
theorem dj.oP {s u:ByteArray}(J:Rd g a (.lit (.string s))) (ao:Rd g b (.lit (.string u))) {c:Bool}(aa:c=true↔s≠u):dj P g (.binOp .neq t a b t2) ty (.lit (.bool c)) :=
 .bin J.bs ao.bs rfl λw=>by
  have:(s.toList == u.toList)=!c:=by
   rw [Bool.eq_iff_iff];simp only [beq_iff_eq,Bool.not_eq_true'];cases c with
   | true=>simp only [true_iff] at aa; simp only [Bool.true_eq_false,iff_false]; exact λh=>aa (M4 h)
   | false =>
    simp only [Bool.false_eq_true,false_iff,Decidable.not_not] at aa;simp [aa]
  simp [eqGuard,binOp,Op.stringOp,this]
theorem dj.lss (J:Rd g a (.lit (.int k m))) (ao:Rd g b (.lit (.int k n))) {c:Bool}(aa:c=true↔m<n):dj P g (.binOp .lss t a b t2) ty (.lit (.bool c)) :=
 .bin J.bs ao.bs rfl λw=>by
  have:decide (m<n)=c:=by rw [Bool.eq_iff_iff,aa]; simp
  simp [eqGuard,binOp,Op.intCmp,this]
theorem dj.leq (J:Rd g a (.lit (.int k m))) (ao:Rd g b (.lit (.int k n))) {c:Bool}(aa:c=true↔m<=n):dj P g (.binOp .leq t a b t2) ty (.lit (.bool c)) :=
 .bin J.bs ao.bs rfl λw=>by
  have:decide (m<=n)=c:=by rw [Bool.eq_iff_iff,aa]; simp
  simp [eqGuard,binOp,Op.intCmp,this]
theorem dj.gtr (J:Rd g a (.lit (.int k m))) (ao:Rd g b (.lit (.int k n))) {c:Bool}(aa:c=true↔n<m):dj P g (.binOp .gtr t a b t2) ty (.lit (.bool c)) :=
 .bin J.bs ao.bs rfl λw=>by
  have:decide (n<m)=c:=by rw [Bool.eq_iff_iff,aa]; simp
  simp [eqGuard,binOp,Op.intCmp,this]
theorem dj.geq (J:Rd g a (.lit (.int k m))) (ao:Rd g b (.lit (.int k n))) {c:Bool}(aa:c=true↔n<=m):dj P g (.binOp .geq t a b t2) ty (.lit (.bool c)) :=
 .bin J.bs ao.bs rfl λw=>by
  have:decide (n<=m)=c:=by rw [Bool.eq_iff_iff,aa]; simp
  simp [eqGuard,binOp,Op.intCmp,this]
theorem dj.eql (J:Rd g a (.lit (.int k m))) (ao:Rd g b (.lit (.int k n))) {c:Bool}(aa:c=true↔m=n):dj P g (.binOp .eql t a b t2) ty (.lit (.bool c)) :=
 .bin J.bs ao.bs rfl λw=>by
  have:(m == n)=c:=by rw [Bool.eq_iff_iff,aa]; simp
  simp [eqGuard,binOp,Op.intCmp,this]
theorem dj.neq (J:Rd g a (.lit (.int k m))) (ao:Rd g b (.lit (.int k n))) {c:Bool}(aa:c=true↔m≠n):dj P g (.binOp .neq t a b t2) ty (.lit (.bool c)) :=
 .bin J.bs ao.bs rfl λw=>by
  have:(m != n)=c:=by rw [Bool.eq_iff_iff,aa]; simp
  simp [eqGuard,binOp,Op.intCmp,this]
theorem dj.not {c:Bool}(J:Rd g a (.lit (.bool c))):dj P g (.unOp .not t a) ty (.lit (.bool (!c))) :=
 .un J.bs rfl λw=>by simp [Op.unary]
theorem dj.ZC {c a b:Operand}{y:ab}(aa:Rd g c (.lit (.bool true))) (hr:Rd g a y):dj P g (.pick c a b) ty y:=.pick aa.bs hr.bs
theorem dj.ZB {c a b:Operand}{y:ab}(aa:Rd g c (.lit (.bool false))) (hr:Rd g b y):dj P g (.pick c a b) ty y:=.pick aa.bs hr.bs
theorem dj.uB {s:ByteArray}(J:Rd g a (.lit (.string s))) (au:sJ P t=true):dj P g (.call { callee:=.builtin .len,args:=#[a],argTypes:=#[t] }) ty (.lit (.int .i64 s.size)) :=
 .lits (vs:=[.string s]) (by simp [J.bs]) rfl λw cs=>by
  simp [builtin,Builtin.len_,run_underlying (LN au),goInt]
section
variable {Ψ:aM->Prop}{Φ:Exit->aM->Prop}{id k:Nat}
theorem aa4 (h:Ψ g):pr Ψ Φ .normal g:=h
theorem aa5 (h:Φ .ret g):pr Ψ Φ .ret g:=h
theorem aa3 (h:Φ (.exit k) g):pr Ψ Φ (.exit k) g:=h
theorem YA (h:Φ .normal g):mo id Φ .normal g:=h
theorem YB (h:Φ .ret g):mo id Φ .ret g:=h
theorem Yy (h:Φ .normal g):mo id Φ (.exit id) g:=by
 show if id=id then Φ .normal g else Φ (.exit id) g
 grind
theorem Yz (hk:Nat.beq k id=false) (h:Φ (.exit k) g):mo id Φ (.exit k) g:=by
 show if k=id then Φ .normal g else Φ (.exit k) g
 grind [Nat.ne_of_beq_eq_false]
end
def Fin (P:Program) (N:cP) (rs:List ResultVar) (n:Nat) (outs:List (Option ab)) (res:ab) (e:Exit) (g':aM):Prop:=(e=.normal\/e=.ret)/\Leaves P N rs g' n outs res
theorem bS.fin {f:FuncId}{fn:Func}{c:Code}{args:List ab}{outs:List (Option ab)}{res:ab}{N:cP}(aU:P.funcs[f]?=some fn) (ar:fn.body=some c) (bp:fn.ntmps=N.size) (aJ:Nat.ble args.length N.size=true) (hlen:outs.length=args.length)
  (hw:W P N c (sV args) (Fin P N fn.results.toList args.length outs res)):bS P f args outs res:=.Y7 aU ar bp (Nat.le_of_ble_eq_true aJ) hlen hw
def uE (outs:List (Option ab)):Bool:=outs.all λx=>x.isNone
theorem P2 {outs:List (Option ab)}(h:uE outs=true) (k:Nat) (x:ab):outs[k]?≠some (some x):=by
 intro e;have:=List.all_eq_true.1 h _ (List.mem_of_getElem? e)
 grind
inductive q1 (g:aM):List Operand->List ab->Prop
 | nil:q1 g [] []
 | cons {x:Operand}{y:ab}{xs:List Operand}{ys:List ab}(h:Rd g x y) (aC:cG y) (au:q1 g xs ys):q1 g (x::xs) (y::ys)
theorem q1.spec {xs:List Operand}{ys:List ab}(h:q1 g xs ys):hn g xs=some ys/\∀ y∈ys,cG y:=by
 induction h with
 | nil=>exact ⟨rfl,by simp⟩
 | cons h aC _ aO=>exact ⟨by simp only [hn,h.bs,aO.1],sA aC aO.2⟩
theorem cp.U2 {xs:List Operand}{fR:Array TypeId}{f:FuncId}{ys:List ab}{outs:List (Option ab)}{res:ab}(hj:bS P f ys outs res) (aU:hG P f=true) (J:q1 g xs ys) (aX:uE outs=true) (hr:cG res) :
  cp P g (.call { callee:=.value (.func f),args:=xs.toArray,argTypes:=fR }) res:=by
 have rj:outs=ys.map λ_=>Option.none:=by
  apply List.ext_getElem?;intro k;rw [List.getElem?_map];cases ao:ys[k]? with
  | none=>rw [List.getElem?_eq_none (by rw [hj.1]; exact List.getElem?_eq_none_iff.1 ao)]; rfl
  | some y =>
   have hk:k<outs.length:=by rw [hj.1]; exact (List.getElem?_eq_some_iff.1 ao).1
   have h1:=List.getElem?_eq_getElem hk;rw [h1];cases af:outs[k] with
   | none=>rfl
   | some x=>rw [af] at h1; exact absurd h1 (P2 aX k x)
 exact .plain (first:=[]) (caps:=[]) (ys:=ys) rfl (by simpa using J.spec.1) aU (by simpa using J.spec.2) (by simpa [<- rj] using hj) hr
end
def lQ (s:ByteArray) (m:Int):Int:=((s[m.toNat]?.getD 0).toNat:Nat)
def BK (s:ByteArray) (m n:Int):ByteArray:=s.extract m.toNat n.toNat
section
variable {P:Program}{N:cP}{ops:Array Oper}{g:aM}{K:aM->Prop}{l:List Oper}
variable {d:Nat}{op:Op}{ty:TypeId}{pos:String}{after:Array Edge}{x:ab}{a b:Operand}{t t2:TypeId}{k:IntKind}{m n:Int}{gd:Option (Nat × Bool)}
theorem dj.Tf {s:ByteArray}{i:Operand}(J:Rd g a (.lit (.string s))) (hi:Rd g i (.lit (.int k m))) (au:sJ P t=true) (h:0<=m/\m<s.size):dj P g (.index t a i) ty (.lit (.int .u8 (lQ s m))):=by
 obtain ⟨j,rfl⟩:=Int.eq_ofNat_of_zero_le h.1;have ag:j<s.size:=by omega
 have ar:s[j]?=some s[j]:=getElem?_pos s j ag;have:lQ s (j:Int)=(s[j].toNat:Nat):=by simp [lQ,ar]
 rw [this];exact .FV J.bs hi.bs au ar
theorem dj.LJ {s:ByteArray}{lo hi:Operand}{uz:IntKind}(J:Rd g a (.lit (.string s))) (ah:Rd g lo (.lit (.int k m))) (bO:Rd g hi (.lit (.int uz n))) (au:sJ P t=true) (h:0<=m/\m<=n/\n<=s.size) :
  dj P g (.slice t a (some lo) (some hi) none) ty (.lit (.string (BK s m n))):=by
 obtain ⟨i,rfl⟩:=Int.eq_ofNat_of_zero_le h.1;obtain ⟨j,rfl⟩:=Int.eq_ofNat_of_zero_le (show 0<=n by omega);exact .G8 J.bs ⟨_,ah.bs⟩ ⟨_,bO.bs⟩ au (by omega) (by omega)
theorem UK {s:ByteArray}{m n:Int}(h:0<=m/\m<=n/\n<=s.size):((BK s m n).size:Int)=n - m:=by
 grind [BK,ByteArray.size_extract]
def jf (P:Program) (e:TypeId) (z:Nat):Bool :=
 match (P.info? e).bind (·.zero) with
 | some v=>v.cells.size == z
 | none=>false
theorem RS {e:TypeId}{z:Nat}(h:jf P e z=true):∃ v,(P.info? e).bind (·.zero)=some v/\v.cells.size=z:=by
 grind [jf]
end
section
variable {P:Program}{g:aM}{ty:TypeId}{a b:Operand}{t t2:TypeId}{N:cP}{ops:Array Oper}{K:aM->Prop}{l:List Oper}{d:Nat}{pos:String}{after:Array Edge}{gd:Option (Nat × Bool)}
theorem W.UF {c:Operand}{x y:Code}{Φ:Exit->aM->Prop}{b:Bool}(aa:Rd g c (.lit (.bool b))) (cX:b=true->W P N x g Φ) (aH:b=false->W P N y g Φ):W P N (.cond c x y) g Φ:=by
 cases b with
 | true=>exact .UG aa.bs (cX rfl)
 | false=>exact .UE aa.bs (aH rfl)
theorem aae {c e:Bool}(au:P.underlying t=some .bool) (w:World):(do eqGuard .eql t a b (.bool c) (.bool e); binOp .eql t (.bool c) (.bool e):Sem Value).run P w=.ok (.bool (c == e)) w:=by
 have h:=run_equal_bool w t c e au;simp [eqGuard,binOp,h]
def H4 (P:Program) (t:TypeId):Bool :=
 match P.underlying t with
 | some .bool=>true
 | _=>false
theorem Tm (h:H4 P t=true):P.underlying t=some .bool:=by
 unfold H4 at h
 split at h
 ·assumption
 ·cases h
def uw (P:Program) (t:TypeId) (k:IntKind):Bool :=
 match P.underlying t with
 | some (.int kc)=>kc == k
 | _=>false
theorem Pp {k:IntKind}(h:uw P t k=true):P.underlying t=some (.int k):=by
 unfold uw at h
 split at h
 ·rename_i kc hk; rw [hk]; have:kc=k:=by simpa using h
  rw [this]
 ·cases h
theorem dj.UH {k kc:IntKind}{m:Int}(J:Rd g a (.lit (.int k m))) (av:uw P t k=true) (aQ:uw P t2 kc=true):dj P g (.convert t t2 a) ty (.lit (.int kc (kc.wrap m))) :=
 .conv J.bs rfl λw=>by simp [convert,run_underlying (Pp av),run_underlying (Pp aQ),Conv.intToInt]
end
end Go.Own
namespace Go.Own
open Go Go.RowKit
variable [cF]
end Go.Own
namespace Go.Own
open Go
variable [cF]
section
variable {P:Program}{g:aM}{ty:TypeId}{a b:Operand}{t t2:TypeId}{N:cP}{ops:Array Oper}{K:aM->Prop}{l:List Oper}{d:Nat}{pos:String}{after:Array Edge}{gd:Option (Nat × Bool)}
end
structure bN (α:Type) where
 z:Nat
 cells:α->List ab
 len:∀ a,(cells a).length=z
 bn:∀ a,∀ x∈cells a,cG x
variable {α β S R:Type}
def bB (e:bN α) (l:List α):List ab:=l.flatMap e.cells
abbrev aD (e:bN α) (l:List α):ab:=.own e.z l.length (bB e l)
abbrev ak (e:bN α) (l:List α):ab:=.bl e.z l.length (bB e l)
abbrev ae (n:Int):ab:=.lit (.int .i64 n)
abbrev rX (n:Int):ab:=.lit (.int .u8 n)
abbrev bh (b:Bool):ab:=.lit (.bool b)
abbrev a1 (s:ByteArray):ab:=.lit (.string s)
abbrev aG (n:Int):Int:=IntKind.i64.wrap n
abbrev yK (n:Int):Int:=IntKind.u8.wrap n
theorem oR (e:bN α) (l:List α):(bB e l).length=l.length * e.z:=by
 induction l with
 | nil=>simp [bB]
 | cons a l aO =>
  have:bB e (a::l)=e.cells a++bB e l:=by simp [bB]
  rw [this,List.length_append,e.len,aO,List.length_cons,Nat.add_mul]; omega
theorem po (e:bN α) (l:List α):∀ x∈bB e l,cG x:=by
 intro x J;obtain ⟨a,_,h⟩:=List.mem_flatMap.1 J;exact e.bn a x h
theorem QK (e:bN α) (l m:List α):bB e (l++m)=bB e l++bB e m:=by simp [bB]
theorem D6 (e:bN α):∀ (l:List α) (i:Nat),(bB e l).drop (i * e.z)=bB e (l.drop i)
 | l,0=>by simp
 | [],i+1=>by simp [bB]
 | a::l,i+1=>by
  have h:bB e (a::l)=e.cells a++bB e l:=by simp [bB]
  rw [h,List.drop_append,e.len,List.drop_eq_nil_of_le (by rw [e.len,Nat.add_mul]; omega)];have:(i+1) * e.z - e.z=i * e.z:=by rw [Nat.add_mul]; omega
  rw [this,List.nil_append,D6 e l i]; rfl
theorem GR (e:bN α):∀ (l:List α) (i:Nat),(bB e l).take (i * e.z)=bB e (l.take i)
 | l,0=>by simp [bB]
 | [],i+1=>by simp [bB]
 | a::l,i+1=>by
  have h:bB e (a::l)=e.cells a++bB e l:=by simp [bB]
  rw [h,List.take_append,e.len,List.take_of_length_le (by rw [e.len,Nat.add_mul]; omega)];have:(i+1) * e.z - e.z=i * e.z:=by rw [Nat.add_mul]; omega
  rw [this,GR e l i]; simp [bB]
def idx (l:List α) (i:Int):Option α:=if 0<=i then l[i.toNat]? else none
theorem mn {l:List α}{i:Int}{y:α}(h:idx l i=some y):0<=i/\i<l.length/\l[i.toNat]?=some y:=by
 grind [idx]
theorem Lt (e:bN α) {l:List α}{i:Int}{y:α}(h:idx l i=some y):(bB e l).drop (i.toNat * e.z)=e.cells y++bB e (l.drop (i.toNat+1)):=by
 obtain ⟨aK,h1,af⟩:=mn h
 grind [D6,List.drop_eq_getElem_cons,bB]
theorem Ls (e:bN α) {l:List α}{i:Int}{y:α}(h:idx l i=some y) {k:Nat}{x:ab}(hk:(e.cells y)[k]?=some x):(bB e l)[i.toNat * e.z+k]?=some x:=by
 have aP:=(List.getElem?_eq_some_iff.1 hk).1;rw [<- List.getElem?_drop,Lt e h,List.getElem?_append_left aP]; exact hk
abbrev lim:Nat:=1099511627776
def fuel:Nat:=1000000000000000000
def iter (f:S->Option (S ⊕ R)):Nat->S->Option R
 | 0,_=>none
 | n+1,s=>match f s with
  | none=>none
  | some (.inl cz)=>iter f n cz
  | some (.inr r)=>some r
def cd (f:S->Option (S ⊕ R)) (s:S):Option R:=iter f fuel s
theorem ve {o:Option α}{f:α->Option β}{r:β}(h:o.bind f=some r):∃ y,o=some y/\f y=some r:=Option.bind_eq_some_iff.1 h
theorem T5 {b:Bool}{x y o:α}(ar:b=true) (h:cond b x y=o):x=o:=by
 grind
theorem T4 {b:Bool}{x y o:α}(ar:b=false) (h:cond b x y=o):y=o:=by
 grind
theorem eU {b:Bool}{x y o:α}(h:cond b x y=o):(b=true/\x=o)\/(b=false/\y=o):=by
 grind
theorem aV {a b:α}(h:some a=some b):a=b:=by grind
class b6 (x:ab):Prop where bn:cG x
class dp (cs:List ab):Prop where bn:∀ x∈cs,cG x
instance {v:Value}:b6 (.lit v):=⟨.lit⟩
instance:b6 .aS:=⟨.aS⟩
instance:b6 .dead:=⟨.dead⟩
instance {z n:Nat}{cs:List ab} [h:dp cs]:b6 (.bl z n cs):=⟨.bl h.bn⟩
instance {z n:Nat}{cs:List ab} [h:dp cs]:b6 (.own z n cs):=⟨.own h.bn⟩
instance {cs:List ab} [h:dp cs]:b6 (.obj cs):=⟨.obj h.bn⟩
instance {cs:List ab} [h:dp cs]:b6 (.agg cs):=⟨.agg h.bn⟩
instance {cs:List ab} [h:dp cs]:b6 (.bR cs):=⟨.bR h.bn⟩
instance {cs:List ab} [h:dp cs]:b6 (.cx cs):=⟨.cx h.bn⟩
instance:dp []:=⟨by simp⟩
instance {x:ab}{cs:List ab} [h:b6 x] [aI:dp cs]:dp (x::cs):=⟨sA h.bn aI.bn⟩
instance {e:bN α}{l:List α}:dp (bB e l):=⟨po e l⟩
instance {e:bN α}{a:α}:dp (e.cells a):=⟨e.bn a⟩
instance {a b:List ab} [h:dp a] [aI:dp b]:dp (a++b):=⟨λx J=>(List.mem_append.1 J).elim (h.bn x) (aI.bn x)⟩
instance {a:List ab}{n:Nat} [h:dp a]:dp (a.drop n):=⟨λx J=>h.bn x (List.mem_of_mem_drop J)⟩
abbrev bN.one (f:α->ab) (h:∀ a,cG (f a)):bN α:=⟨1,λa=>[f a],λ_=>rfl,λa x J=>by rw [List.mem_singleton.1 J]; exact h a⟩
def ai:bN Int:=.one (λn=>ae n) λ_=>.lit
def r4:bN Int:=.one (λn=>rX n) λ_=>.lit
def e8:bN Bool:=.one (λb=>bh b) λ_=>.lit
def nU:bN ByteArray:=.one (λs=>a1 s) λ_=>.lit
def bC (e:bN α):bN (List α):=.one (λl=>ak e l) λl=>.bl (po e l)
inductive Trim (b:Bool) (g g2:aM):List (Nat × ab)->Prop
 | nil:Trim b g g2 []
 | n {s:Nat}{x:ab}{l:List (Nat × ab)}(h:g s=some x) [aC:b6 x] (t:Trim b g g2 l):Trim b g g2 ((s,x)::l)
 | r {s:Nat}{x:ab}{l:List (Nat × ab)}(h:g s=some x) (aC:cW g2 x) (aq:∀ z p n m new,x≠.bI z p n m new) (t:Trim b g g2 l):Trim b g g2 ((s,x)::l)
 | e {s:Nat}{x y:ab}{l:List (Nat × ab)}(h:g s=some y) (he:y=x) [aC:b6 x] (t:Trim b g g2 l):Trim b g g2 ((s,x)::l)
 | w {s:Nat}{x y:ab}{l:List (Nat × ab)}(ar:b=true) (h:g s=some y) (hw:nN y x) [aC:b6 x] (t:Trim b g g2 l):Trim b g g2 ((s,x)::l)
theorem Trim.spec {b:Bool}{g g2:aM}{l:List (Nat × ab)}(h:Trim b g g2 l):∀ t x,get l t=some x->(∃ y,g t=some y/\nN y x/\(b=false->y=x))/\cW g2 x/\∀ z p n m new,x≠.bI z p n m new:=by
 have fJ:∀ {x:ab},cG x->∀ z p n m new,x≠.bI z p n m new:=by rintro x h z p n m new rfl; cases h
 induction h with
 | nil=>intro t x J; cases J
 | @n _ _ _ h aC _ aO =>
  intro t x J; simp only [get] at J
  split at J
  ·rename_i e; subst e; cases J; exact ⟨⟨_,h,.refl,λ_=>rfl⟩,.bn aC.bn,fJ aC.bn⟩
  ·exact aO t x J
 | r h aC aq _ aO =>
  intro t x J; simp only [get] at J
  split at J
  ·rename_i e; subst e; cases J; exact ⟨⟨_,h,.refl,λ_=>rfl⟩,aC,aq⟩
  ·exact aO t x J
 | @e _ _ _ _ h he aC _ aO =>
  intro t x J; simp only [get] at J
  split at J
  ·rename_i e; subst e he; cases J; exact ⟨⟨_,h,.refl,λ_=>rfl⟩,.bn aC.bn,fJ aC.bn⟩
  ·exact aO t x J
 | @w _ _ _ _ ar h hw aC _ aO =>
  intro t x J; simp only [get] at J
  split at J
  ·rename_i e; subst e; cases J; exact ⟨⟨_,h,hw,λh=>by rw [ar] at h; cases h⟩,.bn aC.bn,fJ aC.bn⟩
  ·exact aO t x J
theorem Trim.eP {b:Bool}{g:aM}{l:List (Nat × ab)}(h:Trim b g (get l) l):np g (get l) :=
 ⟨λt x J=>by obtain ⟨⟨y,h1,af,_⟩,_⟩:=h.spec t x J; exact ⟨y,h1,af⟩,λt x J=>(h.spec t x J).2.1,λt z q n m new J=>(h.spec t _ J).2.2 _ _ _ _ _ rfl⟩
theorem Trim.keep {g:aM}{l:List (Nat × ab)}(h:Trim false g (get l) l):iE g (get l) :=
 ⟨λt x J=>by obtain ⟨⟨y,h1,_,aE⟩,_⟩:=h.spec t x J; rw [<- aE rfl]; exact h1,λt x J=>(h.spec t x J).2.1,λt z q n m new J=>(h.spec t _ J).2.2 _ _ _ _ _ rfl⟩
section
variable {P:Program}{N:cP}{ops:Array Oper}{g:aM}{K:aM->Prop}{l:List Oper}{d:Nat}{op:Op}{ty:TypeId}{pos:String}{after:Array Edge}{x:ab}{gd:Option (Nat × Bool)}
theorem W.bK {A B:Code}{G:List (Nat × ab)}{Φ:Exit->aM->Prop}(h:W P N A (get G) (pr (λg1=>W P N B g1 Φ) Φ)):W P N (.seq A B) (get G) Φ:=W.seq h
theorem aA.fin {G1:List (Nat × ab)}(h:Trim true g (get G1) G1):aA P N ops [] g λg'=>np g' (get G1):=.nil h.eP
theorem aA.GK {G1:List (Nat × ab)}(h:Trim false g (get G1) G1) (hk:aA P N ops l (get G1) K):aA P N ops l g K:=.forget h.keep hk
theorem aA.v (aq:cf P g op ty x) (bp:N.ok d=true) (aU:g d=none) (aN:eI g ops gd) (hk:aA P N ops l (cV g d x) K):aA P N ops (⟨some d,op,ty,pos,after,gd⟩::l) g K:=.abi aq bp aU aN hk
theorem aA.c (aq:cp P g op x) (bp:N.ok d=true) (aU:g d=none) (aN:eI g ops gd) (hk:aA P N ops l (cV g d x) K):aA P N ops (⟨some d,op,ty,pos,after,gd⟩::l) g K:=.call aq bp aU aN hk
theorem eI.py {j t:Nat}{b c:Bool}(h:(ops[j]?).bind (·.dst)=some t) (aN:g t=some (.lit (.bool c))) (ar:c=b):eI g ops (some (j,b)):=by subst ar; exact .yes h aN
theorem aA.ps {j t':Nat}{b c:Bool}(h:(ops[j]?).bind (·.dst)=some t') (aN:g t'=some (.lit (.bool c))) (ar:c=!b) (bp:N.ok d=true) (aU:g d=none) (hk:aA P N ops l (cV g d (.bR [])) K):aA P N ops (⟨some d,op,ty,pos,after,some (j,b)⟩::l) g K:=by
 subst ar; exact .Ef rfl bp aU (r:=some (.bR [])) (.inr (.inl ⟨⟨t',h,.inl ⟨_,aN,by cases b <;> rfl⟩⟩,rfl⟩)) hk
theorem aA.pu {j t':Nat}{b:Bool}(h:(ops[j]?).bind (·.dst)=some t') (aN:g t'=some (.bR [])) (bp:N.ok d=true) (aU:g d=none) (hk:aA P N ops l (cV g d (.bR [])) K):aA P N ops (⟨some d,op,ty,pos,after,some (j,b)⟩::l) g K :=
 .Ef rfl bp aU (r:=some (.bR [])) (.inr (.inl ⟨⟨t',h,.inr ⟨aN,rfl⟩⟩,rfl⟩)) hk
theorem W.eU {t:Nat}{A B:Code}{b:Bool}{G:List (Nat × ab)}{Φ:Exit->aM->Prop}(aa:get G t=some (bh b)) (cX:b=true->W P N A (get G) Φ) (aH:b=false->W P N B (get G) Φ):W P N (.cond (.tmp t) A B) (get G) Φ:=W.UF (.lit aa) cX aH
end
end Go.Own
