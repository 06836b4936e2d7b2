/-
  Parts of the proof that the last text states. No condition of their own.
-/
import Derived.RowKit3
import Derived.Test.YtdhblbniiokpmaaGreatE1
namespace Go.Own
open Go
structure hC (g1 g2:aM):Prop where
 sub:∀ t x,g2 t=some x->g1 t=some x
 bS:∀ t x,g2 t=some x->di g2 x
 fA:∀ t z q n m new,g2 t≠some (.bM z q n m new)
structure c6 where
 size:Nat
 pins:List Nat
def c6.ok (N:c6) (d:Nat):Bool:=Nat.blt d N.size&&!N.pins.elem d
def hB (N:c6) (T T':Array Value):Prop:=T'.size=T.size/\∀ t∈N.pins,T'[t]?=T[t]?
theorem hB.refl {N:c6}{T:Array Value}:hB N T T:=⟨rfl,λ_ _=>rfl⟩
theorem hB.trans {N:c6}{T Lm Ln:Array Value}(h:hB N T Lm) (h1:hB N Lm Ln):hB N T Ln:=⟨h1.1.trans h.1,λt aw=>(h1.2 t aw).trans (h.2 t aw)⟩
theorem c6.lt {N:c6}{d:Nat}(h:N.ok d=true):d<N.size:=by
 simp_all [c6.ok]
theorem hB.put {N:c6}{d:Nat}(h:N.ok d=true) (T:Array Value) (v:Value):hB N T (T.setIfInBounds d v):=by
 refine ⟨by simp,λt aw=>?_⟩
 grind [c6.ok]
def h5 (N:c6) (a:Act) (w:World) (I:bb) (Fs:Nat->bb) (g':aM) (b':Act) (w':World):Prop :=
 b'.defers=a.defers/\hB N a.tmps b'.tmps/\∃ I' b7,cG w' I' b'.tmps g' b7/\ko w I (λc=>∃ t,Fs t c) w' I' (λc=>∃ t,b7 t c)
theorem wc {b7:Nat->bb}{d:Nat}{F:bb}{c:Nat}(h:∃ t,uL b7 d F t c):(∃ t,b7 t c)\/F c:=by
 obtain ⟨t,h⟩:=h;unfold uL at h
 grind
structure yD (P:Program) (g:aM) (f:FuncId) (all xs0 xs1 args:List ab) (tk:Nat->Bool) (vw:Bool) (g1 g2:aM) (outs:List (Option ab)) (res:ab) (l:List (Place × ab)) (ks:Nat->Nat) (g4:aM):Prop where
 aW:gN P f=true
 Cq:xs0.length=all.length
 xE:args.length=all.length
 aR:∀ (k:Nat) (x:ab),all[k]?=some x->xs0[k]?=some x\/xs0[k]?=some .dead
 aw:Take g xs0 xs1 g1
 hk:hC g1 g2
 aP:∀ (k:Nat) (x y:ab),all[k]?=some x->args[k]?=some y->if tk k then xs1[k]?=some y else vw=true/\View g2 x y
 gQ:bV P f args outs res
 ao:if vw then kF res else cU res
 lM:∀ (k:Nat) (x:ab),outs[k]?=some (some x)->if vw then kF x else cU x
 ak:∀ (j:Nat) (p:Place) (x:ab),l[j]?=some (p,x)->Q3 g g2 all outs (ks j) p x
 nd:(l.map (·.1)).Nodup
 inj:∀ i j,i<l.length->j<l.length->ks i=ks j->i=j
 W0:hC (qI g2 l) g4
section
variable {P:Program}{w:World}{I:bb}{T:Array Value}{g:aM}{Fs:Nat->bb}
theorem jE.keep (h:jE w I T g Fs) {g2:aM}(hk:hC g g2):cG w I T g2 (λt c=>g2 t≠none/\Fs t c) :=
 h.Y7 hk.sub hk.bS λ_ _ _ _ _ _ _ _ _ _ _ h1=>absurd h1 (hk.fA _ _ _ _ _ _)
structure wm (g:aM) (d:Nat) (g4 g5:aM):Prop where
 sub:∀ t x,g4 t=some x->g5 t=some x
 new:∀ t x,g5 t=some x->g4 t=some x\/(g4 t=none/\t≠d/\g t=some x/\∃ r k cs,x=.ptr ⟨r,[]⟩ k/\r≠d/\g4 r=some (.obj cs)/\k<cs.length)
theorem wm.refl {d:Nat}{g4:aM}:wm g d g4 g4:=⟨λ_ _ h=>h,λ_ _ h=>.inl h⟩
theorem cG.back (h:cG w I T g Fs) {w':World}{I':bb}{d:Nat}{v:Value}{g4 g5:aM}{K_:Nat->bb}(bK:cG w' I' (T.setIfInBounds d v) g4 K_) (av:wm g d g4 g5):cG w' I' (T.setIfInBounds d v) g5 K_:=by
 refine ⟨λt x J=>?_,λt aw c aa=>?_,bK.eJ,bK.bm,bK.lt,λt t' z p n m new bE cF m' c5 h1 af=>?_⟩
 ·rcases av.new t x J with aQ | ⟨h1,af,aI,r,k,cs,rfl,cH,ei,mT⟩
  ·obtain ⟨u,hu,aZ⟩:=bK.rel t x aQ;exact ⟨u,hu,bK.wV (λ_ _=>rfl) (λ_ _ _=>rfl) (λ_ _=>rfl) (λ_ h=>h) av.sub aZ λ_ _=>rfl⟩
  ·obtain ⟨u,hu,aZ⟩:=h.rel t _ aI;obtain ⟨⟨Du,ad,aE,a2,rfl⟩,_⟩:=(aZ.gJ (by simp)).nQ;have dL:∀ s,s≠d->(T.setIfInBounds d v)[s]?=T[s]?:=λs aC=>by rw [Array.getElem?_setIfInBounds_ne (Ne.symm aC)]
   refine ⟨_,by rw [dL t af]; exact hu,.tree (.ref rfl ⟨⟨Du,ad,?_,a2,rfl⟩,?_⟩ (bK.kU t h1))⟩
   ·grind [dW,walk]
   ·exact ⟨.obj cs,by simp [bD,av.sub r _ ei,ab.at],0,0,cs,.inr rfl,mT⟩
 ·cases aQ:g4 t with
  | none=>exact bK.kU t aQ c aa
  | some y=>rw [av.sub t y aQ] at aw; cases aw
 ·have:∀ {t z p n m new},g5 t=some (.bM z p n m new)->g4 t=some (.bM z p n m new):=by
   intro t z p n m new J;rcases av.new t _ J with aQ | ⟨_,_,_,r,k,cs,e,_⟩
   all_goals grind
  exact bK.ru t t' z p n m new bE cF m' c5 (this h1) (this af)
def hJ (P:Program) (N:c6) (g:aM) (o:Oper) (d:Nat) (g5:aM):Prop :=
 ∀ (w:World) (I:bb) (T:Array Value) (Fs:Nat->bb),cG w I T g Fs->∀ (a:Act),a.tmps=T->a.tmps.size=N.size->∀ (K:Act->World->Prop) (Q:Exit->Act->World->Prop),
  (∀ (b':Act) (w':World) (v:Value) (I':bb) (b7:Nat->bb),b'.defers=a.defers->b'.tmps=T.setIfInBounds d v->cG w' I' (T.setIfInBounds d v) g5 b7->ko w I (λc=>∃ t,Fs t c) w' I' (λc=>∃ t,b7 t c)->K b' w')->o.wp P a w K Q
theorem hJ.sound {N:c6}{o:Oper}{d:Nat}{g5:aM}(aa:hJ P N g o d g5) (jO:N.ok d=true) (h:cG w I T g Fs) {a:Act}(aP:a.tmps=T) (bc:a.tmps.size=N.size) {K:Act->World->Prop}{Q:Exit->Act->World->Prop}
  (dj:∀ b' w',h5 N a w I Fs g5 b' w'->K b' w'):o.wp P a w K Q :=
 aa w I T Fs h a aP bc K Q λb' w' v I' b7 h1 af aI bK=>dj b' w' ⟨h1,by rw [af,<- aP]; exact hB.put jO _ _,I',b7,by rw [af]; exact aI,bK⟩
theorem yD.ok {N:c6}{o:Oper}{c:Operand}{xs:Array Operand}{gq:Array TypeId}{d:Nat}{f:FuncId}{first caps ys xs0 xs1 args:List ab}{tk:Nat->Bool}{vw:Bool}{g1 g2 g4 g5:aM}{outs:List (Option ab)}{res:ab}{l:List (Place × ab)}{ks:Nat->Nat}
  (a1:o.op=.call { callee:=.value c,args:=xs,argTypes:=gq }) (aS:o.dst=some d) (aa:bt g c=some (.cW (.func f) first caps)) (J:gn g xs.toList=some ys)
  (he:yD P g f (first++ys++caps) xs0 xs1 args tk vw g1 g2 outs res l ks g4) (aO:g4 d=none) (jO:N.ok d=true) (U0:wm g d (cV g4 d res) g5):hJ P N g o d g5:=by
 intro w I T Fs h a aP bc K Q dj;obtain ⟨v1,v2,ve,ak,qo⟩:=Hh h aP aa J;have hP:(execOp a.eval o).run P w=.ok (.enter f (v1++xs.map a.eval++v2)) w:=by
  simp [execOp,a1,resolve,Deferred.ofValue,ve,invoke,Bc he.aW]
 generalize xi:(v1++xs.map a.eval++v2).toList=vs at *;generalize H5:first++ys++caps=all at *
 -- what is taken
 have u9:Hand w I (fD w T) Fs xs0 vs (λ_=>cy):=by
  refine ⟨by rw [he.Cq,ak],λk x u J hu=>?_,λ_ _ _ _ _ h=>h.elim,λ_ _ _ _ h=>h.elim,λ_ _ _ h=>h.elim⟩;have hk:k<all.length:=by rw [<- he.Cq]; exact (List.getElem?_eq_some_iff.1 J).1
  have BC:=List.getElem?_eq_getElem hk;rcases he.aR k _ BC with aR | aR
  ·rw [aR] at J; cases J;exact (qo k _ u BC hu).frame (λ_ _=>rfl) (λ_ h=>h) (λ_ _ h=>h.1) λ_ _=>rfl
  ·rw [aR] at J; cases J;exact .dead λ_ h=>h
 obtain ⟨f_,H1,jc,iN,hN⟩:=he.aw.sound h.mE u9;have Ni:∀ c,lu f_ xs1.length H1 c->∃ t,Fs t c:=by
  intro c aa;rcases hN c aa with aQ | ⟨_,_,aQ⟩
  ·exact aQ
  ·exact aQ.elim
 have h7:=jc.keep he.hk;generalize T9:(λt c=>g2 t≠none/\f_ t c)=iY at h7;have MZ:∀ t c,iY t c->f_ t c:=by intro t c aa; rw [<- T9] at aa; exact aa.2
 have IC:xs1.length=all.length:=by rw [he.aw.length,he.Cq]
 -- what the callee sees
 let DO:bb:=λc=>I c\/(vw=true/\∃ t,iY t c)
 let yF:Nat->bb:=λt c=>t<all.length/\tk t=true/\H1 t c;have tL:∀ t c,yF t c->(∀ s,¬ iY s c)/\¬ I c/\∃ t,Fs t c:=by
  rintro t c ⟨h1,af,aI⟩;exact ⟨λs aC=>iN.off t s c (by omega) aI (MZ s c aC),iN.bm t c (by omega) aI,Ni c (.inr ⟨t,by omega,aI⟩)⟩
 have N2:∀ (ρ':ab->Value->Prop) (k:Nat) (y:ab) (u:Value),args[k]?=some y->vs[k]?=some u->R w DO ρ' y u (yF k):=by
  intro ρ' k y u ax hu;have hk:k<all.length:=by rw [<- he.xE]; exact (List.getElem?_eq_some_iff.1 ax).1
  have BC:=List.getElem?_eq_getElem hk;have:=he.aP k _ y BC ax
  split at this
  ·rename_i aw;have mY:cU y:=he.aw.Fo y (List.mem_of_getElem? this);exact (((iN.rel k y u this hu).bn mY).ou λc aa=>.inl aa).y9 λc=>⟨λaa=>⟨hk,aw,aa⟩,λaa=>aa.2.2⟩
  ·rename_i aw;obtain ⟨hv,V'⟩:=this;have gG:R w I (fD w T) all[k] u cy:=(qo k _ u BC hu).frame (λ_ _=>rfl) (λ_ h=>h) (λ_ _ h=>h.1) λ_ _=>rfl;have:=View.Qa h7.mE V' gG (λ_ h=>h.elim) ρ';refine (this.ou (I':=DO) λc aa=>?_).y9 λc=>⟨λh=>h.elim,λaa=>absurd aa.2.1 aw⟩;rcases aa with aQ | aQ
   ·exact .inl aQ
   ·exact .inr ⟨hv,aQ⟩
 have Uv:cG w DO vs.toArray (qc args) yF:=by
  refine ⟨λt x J=>?_,λt aw c aa=>?_,λt t' c aa fr=>iN.eJ t t' c (by have:=aa.1; omega) (by have:=fr.1; omega) aa.2.2 fr.2.2,λt c aa hi=>?_,λc aa=>?_,λt t' z p n m new bE cF m' c5 h1 af=>?_⟩
  ·have aw:t<args.length:=(List.getElem?_eq_some_iff.1 J).1;have hu:vs[t]?=some (vs[t]'(by rw [<- ak,<- he.xE]; exact aw)):=List.getElem?_eq_getElem _;exact ⟨_,by rw [List.getElem?_toArray]; exact hu,.tree (N2 _ t x _ J hu)⟩
  ·have hle:args.length<=t:=by simpa [qc] using aw
   have:=aa.1; have:=he.xE; omega
  ·obtain ⟨h1,af,_⟩:=tL t c aa;rcases hi with aQ | ⟨_,s,aQ⟩
   ·exact af aQ
   ·exact h1 s aQ
  ·rcases aa with aQ | ⟨_,s,aQ⟩
   ·exact h.lt c aQ
   ·exact h7.jZ s c aQ
  ·have aw:t<args.length:=(List.getElem?_eq_some_iff.1 h1).1;have hu:vs[t]?=some (vs[t]'(by rw [<- ak,<- he.xE]; exact aw)):=List.getElem?_eq_getElem _;exact (N2 (λ_ _=>False) t _ _ h1 hu).lj.elim
 have pA:=he.gQ.2 w DO vs yF (by rw [<- ak,he.xE]) Uv;unfold Oper.wp Oper.upon;simp only [hP];rw [<- xi,Array.toArray_toList] at pA;refine Calls.mono pA ?_;rintro e w' ⟨v,I',b7,rfl,dY,b1⟩;rw [xi] at dY;have l7:outs.length=all.length:=by rw [he.gQ.1,he.xE]
 have pB:vs.length=all.length:=ak.symm
 -- the blocks behind the call
 have PN:∀ t c,iY t c->w'.heap[c]?=w.heap[c]?:=λt c aa=>b1.eS.block c (h7.jZ t c aa) λ⟨s,aC⟩=>(tL s c aC).1 t aa;have sr:∀ c,I c->w'.heap[c]?=w.heap[c]?:=λc aa=>b1.eS.block c (h.lt c aa) λ⟨s,aC⟩=>(tL s c aC).2.1 aa
 let If:bb:=λc=>if vw then I c else I' c
 have JX:∀ t c,b7 t c->(∃ s,yF s c)\/w.heap.size<=c:=λt c aa=>b1.own c ⟨t,aa⟩;have O4:∀ t c,b7 t c->∀ s,¬ iY s c:=by
  intro t c aa s aC;rcases JX t c aa with ⟨cT,aQ⟩ | aQ
  ·exact (tL cT c aQ).1 s aC
  ·have:=h7.jZ s c aC; omega
 have O5:∀ t c,b7 t c->¬ If c:=by
  intro t c aa hi;cases vw with
  | true =>
   simp only [If,if_true] at hi;rcases JX t c aa with ⟨cT,aQ⟩ | aQ
   ·exact (tL cT c aQ).2.1 hi
   ·have:=h.lt c hi; omega
  | false =>
   simp only [If,Bool.false_eq_true,if_false] at hi;exact dY.bm t c aa hi
 have M8:∀ c,If c->I c\/(∃ s,yF s c)\/w.heap.size<=c:=by
  intro c aa;cases vw with
  | true=>simp only [If,if_true] at aa; exact .inl aa
  | false =>
   simp only [If,Bool.false_eq_true,if_false] at aa;rcases b1.new c aa with aQ | aQ | aQ
   ·rcases aQ with aQ | ⟨aQ,_⟩
    ·exact .inl aQ
    ·cases aQ
   ·exact .inr (.inl aQ)
   ·exact .inr (.inr aQ)
 have M7:∀ c,I c->If c:=by
  intro c aa;cases vw with
  | true=>simp only [If,if_true]; exact aa
  | false=>simp only [If,Bool.false_eq_true,if_false]; exact b1.more c (.inl aa)
 have Ur:cG w' If T g2 iY:=by
  have:=h7.world (w':=w') PN sr b1.eS.size;refine ⟨λt x J=>?_,this.kU,this.eJ,λt c aa hi=>?_,λc aa=>?_,this.ru⟩
  ·obtain ⟨v,hv,aZ⟩:=this.rel t x J;exact ⟨v,hv,aZ.frame (λ_ _=>rfl) M7 (λ_ _ h=>h) (λ_ _ _ _ _ _ _=>rfl) λ_ _=>rfl⟩
  ·rcases M8 c hi with aQ | ⟨s,aQ⟩ | aQ
   ·exact h7.bm t c aa aQ
   ·exact (tL s c aQ).1 t aa
   ·have:=h7.jZ t c aa; omega
  ·cases vw with
   | true=>simp only [If,if_true] at aa; exact Nat.lt_of_lt_of_le (h.lt c aa) b1.eS.size
   | false=>simp only [If,Bool.false_eq_true,if_false] at aa; exact dY.lt c aa
 -- what comes back in the arguments, and the result
 have LP:∀ {x:ab}{u:Value}{F:bb}{ρ ρ':ab->Value->Prop},R w' I' ρ x u F->(if vw then kF x else cU x)->R w' If ρ' x u F:=by
  intro x u F ρ ρ' aZ J;cases vw with
  | true=>simp only [if_true] at J; exact aZ.lk J
  | false =>
   simp only [Bool.false_eq_true,if_false] at J;refine (aZ.bn J).ou λc aa=>?_;simpa [If] using aa
 have CE:∀ {x:ab},(if vw then kF x else cU x)->∀ z p n m new,x≠.bM z p n m new:=by
  rintro x J z p n m new rfl;cases vw with
  | true=>simp only [if_true] at J; cases J
  | false=>simp only [Bool.false_eq_true,if_false] at J; cases J
 have Xp:∀ (k:Nat) (x:ab) (u:Value),outs[k]?=some (some x)->vs[k]?=some u->R w' If (fD w' T) x u (b7 k):=by
  intro k x u J hu;have hk:k<outs.length:=(List.getElem?_eq_some_iff.1 J).1;obtain ⟨wb,jP,aZ⟩:=dY.rel k x (by simp only [kV,if_neg (Nat.ne_of_lt hk),J]; rfl);have:wb=u:=by
   rw [List.getElem?_toArray,List.getElem?_append_left (by rw [pB,<- l7]; exact hk),hu] at jP;exact (Option.some.inj jP).symm
  subst this;exact LP (aZ.gJ (CE (he.lM k x J))) (he.lM k x J)
 obtain ⟨KI,EP,mV⟩:=dY.rel outs.length res (by simp [kV]);have V7:KI=v:=by
  have e:outs.length=vs.length:=by omega
  rw [e] at EP;simpa using EP.symm
 subst V7
 -- back into the places
 obtain ⟨yG,HX,Et⟩:=jE.qI (w:=w') (I:=If) (T:=T) l (λj=>b7 (ks j)) (λj=>vs.getD (ks j) undef) Ur.mE he.nd (λj p x ah=>by
   have L:=he.ak j p x ah;have hk:ks j<outs.length:=(List.getElem?_eq_some_iff.1 L.out).1;have hu:vs[ks j]?=some (vs[ks j]'(by rw [pB,<- l7]; exact hk)):=List.getElem?_eq_getElem _;have vh:vs.getD (ks j) undef=vs[ks j]'(by rw [pB,<- l7]; exact hk):=by simp [List.getD,hu]
   refine ⟨L.LK,?_,?_⟩
   ·rw [vh,h7.yp (w':=w') (λ_ _=>rfl) PN L.LK];rcases L.arg with ⟨z,n,cs,h1,af⟩ | ⟨cs,h1,af⟩
    ·exact Ry h (qo _ _ _ h1 hu) af
    ·exact Rx h (qo _ _ _ h1 hu) af
   ·rw [vh]; exact Xp _ x _ L.out hu)
  (λj t c ah aa=>O4 _ c aa t) (λj c ah aa=>O5 _ c aa) (λi j c hi ah h1 af=>he.inj i j hi ah (dY.eJ _ _ c h1 af))
 have Us:=HX.keep he.W0;have Xl:∀ t c,b7 outs.length c->¬ (g4 t≠none/\yG t c):=by
  rintro t c aa ⟨_,bK⟩;rcases Et t c bK with aQ | ⟨j,ah,aQ⟩
  ·exact O4 _ c aa t aQ
  ·have hk:ks j<outs.length:=by
    have w_:=List.getElem?_eq_getElem ah;exact (List.getElem?_eq_some_iff.1 (he.ak j _ _ w_).out).1
   have:=dY.eJ _ _ c aa aQ;omega
 have nL:=Us.uC (d:=d) (x:=res) (v:=KI) (F:=b7 outs.length) aO (by rw [<- aP,bc]; exact c6.lt jO) (.tree (LP (mV.gJ (CE he.ao)) he.ao)) Xl (λc aa=>O5 _ c aa) (λz p n m new e=>absurd e (CE he.ao z p n m new));refine dj _ _ KI If _ (by rw [aS]; rfl) (by rw [aS]; simp [Act.put,aP]) (h.back nL U0) ⟨?_,M7,λc aa=>?_,λc aa=>?_⟩
 ·exact b1.eS.mono λb _ ⟨s,aC⟩=>(tL s b aC).2.2
 ·rcases M8 c aa with aQ | ⟨s,aQ⟩ | aQ
  ·exact .inl aQ
  ·exact .inr (.inl (tL s c aQ).2.2)
  ·exact .inr (.inr aQ)
 ·have fin:∀ t,b7 t c->(∃ s,Fs s c)\/w.heap.size<=c:=by
   intro t aw;rcases JX t c aw with ⟨s,aQ⟩ | aQ
   ·exact .inl (tL s c aQ).2.2
   ·exact .inr aQ
  rcases wc aa with ⟨t,_,aQ⟩ | aQ
  ·rcases Et t c aQ with jb | ⟨j,_,jb⟩
   ·exact .inl (Ni c (.inl ⟨t,MZ t c jb⟩))
   ·exact fin _ jb
  ·exact fin _ aQ
structure QJ (g:aM) (d r k0:Nat) (g4 g5:aM):Prop where
 sub:∀ t x,g4 t=some x->g5 t=some x
 new:∀ t x,g5 t=some x->g4 t=some x\/(g4 t=none/\t≠d/\g t=some x/\∃ m z n cs,x=.ptr ⟨r,[k0]⟩ m/\bD g4 ⟨r,[k0]⟩=some (.own z n cs)/\m<cs.length)
theorem hC.bD {g1 g2:aM}(h:hC g1 g2) {p:Place}{y:ab}(au:bD g2 p=some y):bD g1 p=some y:=by
 unfold Own.bD at *;cases J:g2 p.root with
 | none=>rw [J] at au; cases au
 | some x=>rw [J] at au; rw [h.sub _ _ J]; exact au
theorem hJ.Tw {N:c6}{o:Oper}{r k0 d:Nat}{y:ab}{cs:List ab}{g5:aM}(ao:g r=some (.obj cs)) (ax:cs[k0]?=some y) (xp:cU y)
  (vm:∀ v:Value,v.oneCell'=true->∃ g1 g4 u6,hC (cv g ⟨r,[k0]⟩ (.lit v)) g1/\hJ P N g1 o d g4/\bD g4 ⟨r,[k0]⟩=some (.lit v)/\hC (cv g4 ⟨r,[k0]⟩ y) u6/\bD u6 ⟨r,[k0]⟩=some y/\QJ g d r k0 u6 g5):hJ P N g o d g5:=by
 intro w I T Fs h a aP bc K Q dj;have la:∀ z q n m new,y≠.bM z q n m new:=by rintro z q n m new rfl; cases xp
 have gu:bD g ⟨r,[k0]⟩=some y:=by simp [bD,ao,ab.at,ab.kids,ax]
 obtain ⟨v,cA,hv,dI,dy,put⟩:=h.mE.part gu la;have uh:v.oneCell'=true:=by
  obtain ⟨u,hu,mU⟩:=h.rel r _ ao;obtain ⟨b,wb,h1,af,aI,bK,_⟩:=R.node (z:=0) (n:=0) (mU.gJ (by simp)) (.inr rfl) ax
  grind [dW,walk]
 obtain ⟨f_,jc,zf,Bs⟩:=put (.lit v) cy (.lit uh λ_ h=>h) (λ_ h=>h.elim) (λ_ h=>h.elim) (λ_ _ _ h=>h.elim);obtain ⟨g1,g4,u6,hb,dd,H6,Iw,ab3,av⟩:=vm v uh;have uJ:∀ t c,f_ t c->Fs t c/\¬ cA c:=by
  intro t c aa;by_cases aw:t=r
  ·grind
  ·rw [Bs t aw] at aa;exact ⟨aa,λaW=>aw (h.eJ t r c aa (dy c aW))⟩
 have HW:=jc.keep hb;refine dd w I T _ HW a aP bc K Q λb' w' gz I' b7 Hq Bk dY b1=>?_;obtain ⟨v2,iX,B',mr,T8,Ka⟩:=dY.mE.part H6 (by simp);have IY:v2=v:=mr.hA.1;subst IY;have M4:∀ c,cA c->¬ I c:=λc aa=>h.bm r c (dy c aa);have Bu:∀ c,cA c->c<w.heap.size:=λc aa=>h.jZ r c (dy c aa);have CI:∀ c,cA c->¬ ∃ t,(g1 t≠none/\f_ t c):=λc aa ⟨t,_,aQ⟩=>(uJ t c aQ).2 aa;have CH:∀ t c,b7 t c->¬ cA c:=by
  intro t c aa aW;rcases b1.own c ⟨t,aa⟩ with aQ | aQ
  ·grind
  grind
 have JV:∀ c,cA c->¬ I' c:=by
  intro c aa hi;rcases b1.new c hi with aQ | aQ | aQ
  all_goals grind
 have Ko:∀ c,cA c->w'.heap[c]?=w.heap[c]?:=λc aa=>b1.eS.block c (Bu c aa) (CI c aa);have sr:∀ c,I c->w'.heap[c]?=w.heap[c]?:=λc aa=>b1.eS.block c (h.lt c aa) λ⟨t,_,aQ⟩=>h.bm t c (uJ t c aQ).1 aa;have BA:R w' I' (fD w' (T.setIfInBounds d gz)) y v2 cA :=
  ((dI.bn xp).frame sr b1.more (λ_ _ h=>h) Ko)
 obtain ⟨K',HY,M0,HO⟩:=Ka y cA BA (λc aa aW=>(CH _ c aW aa).elim) (λc aa=>JV c aa) (λt c _ aa aW=>CH t c aW aa);have tO:=HY.keep Iw;have V9:dW w' (T.setIfInBounds d gz) ⟨r,[k0]⟩=some v2:=B';have Ut:cG w' I' (T.setIfInBounds d gz) g5 (λt c=>u6 t≠none/\K' t c):=by
  refine ⟨λt x J=>?_,λt aw c aa=>?_,tO.eJ,tO.bm,tO.lt,λt t' z p n m new bE cF m' c5 h1 af=>?_⟩
  ·rcases av.new t x J with aQ | ⟨h1,af,aI,m,z,n,cs2,rfl,cH,ei⟩
   ·obtain ⟨u,hu,aZ⟩:=tO.rel t x aQ;exact ⟨u,hu,tO.wV (λ_ _=>rfl) (λ_ _ _=>rfl) (λ_ _=>rfl) (λ_ h=>h) av.sub aZ λ_ _=>rfl⟩
   ·obtain ⟨u,hu,aZ⟩:=h.rel t _ aI;obtain ⟨⟨Du,ad,aE,a2,rfl⟩,_⟩:=(aZ.gJ (by simp)).nQ;rw [hv] at aE;cases aE;refine ⟨_,by rw [Array.getElem?_setIfInBounds_ne (Ne.symm af)]; exact hu,.tree (.ref rfl ⟨⟨v2,ad,V9,a2,rfl⟩,?_⟩ (tO.kU t h1))⟩;refine ⟨.own z n cs2,?_,z,n,cs2,.inl rfl,ei⟩;unfold Own.bD at cH ⊢;cases gh:u6 r with
    | none=>simp only [gh] at cH; cases cH
    | some x'=>simp only [gh] at cH; simp only [av.sub r x' gh]; exact cH
  ·cases aQ:u6 t with
   | none=>exact aa.1 aQ
   | some y=>rw [av.sub t y aQ] at aw; cases aw
  ·have:∀ {t z p n m new},g5 t=some (.bM z p n m new)->u6 t=some (.bM z p n m new):=by
    intro t z p n m new J;rcases av.new t _ J with aQ | ⟨_,_,_,m,z,n,cs2,e,_⟩
    all_goals grind
   exact tO.ru t t' z p n m new bE cF m' c5 (this h1) (this af)
 refine dj b' w' gz I' _ Hq Bk Ut ⟨?_,b1.more,λc aa=>?_,λc aa=>?_⟩
 ·exact b1.eS.mono λb _ ⟨t,_,aQ⟩=>⟨t,(uJ t b aQ).1⟩
 ·rcases b1.new c aa with aQ | ⟨t,_,aQ⟩ | aQ
  all_goals grind
 ·obtain ⟨t,_,aa⟩:=aa;have:(∃ t,b7 t c)\/cA c:=by
   by_cases aw:t=r
   ·grind
   ·rw [HO t aw] at aa
    grind
  rcases this with aQ | aQ
  ·rcases b1.own c aQ with ⟨t,_,jb⟩ | jb
   ·grind
   grind
  grind
end
end Go.Own
namespace Go.Own
open Go
def oL:ab->Option (List ab)
 | .agg cs=>some cs
 | .lit v=>some [.lit v]
 | .aK=>some [.aK]
 | .bm z n cs=>some [.bm z n cs]
 | .own z n cs=>some [.own z n cs]
 | .obj cs=>some [.obj cs]
 | .cI cs=>some [.cI cs]
 | .cW f a b=>some [.cW f a b]
 | _=>none
def hl (P:Program) (t:TypeId) (m:Nat):Bool :=
 match P.info? t with
 | some i=>i.size == m
 | none=>false
def iz (P:Program) (N:c6) (g:aM) (o:Oper) (g':aM):Prop :=
 ∀ (w:World) (I:bb) (T:Array Value) (Fs:Nat->bb),cG w I T g Fs->∀ (a:Act),a.tmps=T->a.tmps.size=N.size->∀ (K:Act->World->Prop) (Q:Exit->Act->World->Prop),
  (∀ (b':Act) (w':World),h5 N a w I Fs g' b' w'->(∀ t,o.dst≠some t->b'.tmps[t]?=a.tmps[t]?)->K b' w')->o.wp P a w K Q
inductive bk (P:Program) (N:c6) (g:aM):Oper->aM->Prop
 | assign {o:Oper}{d:Nat}{x:Operand}{y bx y':ab}{g1 g2:aM}(a1:o.op=.assign x) (aS:o.dst=some d) (J:bt g x=some y) (aw:Take g [y] [bx] g1) (aY:h3 bx y') (hk:hC g1 g2) (aO:g2 d=none) (bc:N.ok d=true):bk P N g o (cV g2 d y')
 | RE {o:Oper}{d:Nat}{x:Operand}{y:ab}{g2:aM}(a1:o.op=.assign x) (aS:o.dst=some d) (J:bt g x=some y) (hk:hC g g2) (ax:di g2 y) (aO:g2 d=none) (bc:N.ok d=true):bk P N g o (cV g2 d y)
 | store {o:Oper}{t:TypeId}{ad val:Operand}{p:Place}{k z n:Nat}{y bx y' nd:ab}{cs cs':List ab}{g1 g2:aM}(a1:o.op=.store t ad val) (aS:o.dst=none) (fP:bt g ad=some (.ptr p k)) (oh:bt g val=some y) (aw:Take g [y] [bx] g1) (re:h3 bx y')
   (aa:oL y'=some cs') (aC:hl P t cs'.length=true) (au:bD g1 p=some nd) (ft:nd=.own z n cs\/nd=.obj cs) (hk:k+cs'.length<=cs.length) (aR:0<cs'.length)
   (zn:∀ t x,g2 t=some x->cv g1 p (nd.e5 k cs') t=some x) (r_:∀ t x,g2 t=some x->∀ y,g1 t=some y->jm (λr=>gE g1 r/\Clear p k cs'.length r/\gE g2 r) y) (la:∀ t z q n m new,g2 t≠some (.bM z q n m new)) (ke:g2 p.root≠none):bk P N g o g2
 | call {o:Oper}{d:Nat}{g5:aM}(aS:o.dst=some d) (bc:N.ok d=true) (h:hJ P N g o d g5):bk P N g o g5
 | Kv {o:Oper}{g2:aM}(h:iz P N g o g2):bk P N g o g2
section
variable {P:Program}{w:World}{I:bb}{T:Array Value}{g:aM}{Fs:Nat->bb}
theorem Hand.one {y:ab}{v:Value}(aZ:R w I (dT w T g) y v cy):Hand w I (fD w T) Fs [y] [v] (λ_=>cy) :=
 ⟨rfl,λk x u J hu=>by
  cases k with
  | zero=>simp at J hu; subst J hu; exact aZ.frame (λ_ _=>rfl) (λ_ h=>h) (λ_ _ h=>h.1) λ_ _=>rfl
  | succ k=>simp at J,λ_ _ _ _ _ h=>h.elim,λ_ _ _ _ h=>h.elim,λ_ _ _ h=>h.elim⟩
theorem Hand.Ke {ρ:ab->Value->Prop}{y:ab}{v:Value}{dD:Nat->bb}(h:Hand w I ρ Fs [y] [v] dD):R w I ρ y v (dD 0):=h.rel 0 y v rfl rfl
theorem Hand.cells {y:ab}{v:Value}{dD:Nat->bb}(h:Hand w I (fD w T) Fs [y] [v] dD) (aF:cU y) {cs:List ab}(aa:oL y=some cs) :
  ∃ yI,Hand w I (fD w T) Fs cs v.cells.toList yI/\(∀ x∈cs,cU x)/\(∀ (j:Nat) (u:Value),v.cells.toList[j]?=some u->u.oneCell'=true)/\∀ j c,j<cs.length->yI j c->dD 0 c:=by
 have aZ:=h.Ke;have single:∀ {x:ab},y=x->v.oneCell'=true->∃ yI,Hand w I (fD w T) Fs [x] v.cells.toList yI/\(∀ z∈[x],cU z)/\(∀ (j:Nat) (u:Value),v.cells.toList[j]?=some u->u.oneCell'=true)/\∀ j c,j<[x].length->yI j c->dD 0 c:=by
  rintro x rfl h1;have Ey:v.cells=#[v]:=by cases v <;> first | rfl | (simp [Value.oneCell'] at h1)
  grind
 cases y <;> simp only [oL,Option.some.injEq,reduceCtorEq] at aa
 case agg l =>
  subst aa;cases aZ with
  | ref J=>simp [ab.isRef] at J
  | @agg _ vs bL _ ak h1 ao aS aN =>
   have fV:∀ k c,k<l.length->bL k c->dD 0 c:=λk c hk aa=>(aN c).2 ⟨k,hk,aa⟩;refine ⟨bL,⟨by simp [Value.cells,ak],λk x u J hu=>ao k x u J (by simpa [Value.cells] using hu),aS,λk t c hk aa=>h.off 0 t c (by simp) (fV k c hk aa),λk c hk aa=>h.bm 0 c (by simp) (fV k c hk aa)⟩,?_,λj u hu=>h1 j u (by simpa [Value.cells] using hu),fV⟩;cases aF with | agg h=>exact h
 case lit a=>subst aa; exact single rfl (by obtain ⟨rfl,h1⟩:=aZ.hA; exact h1)
 case aK=>subst aa; exact single rfl (by rw [aZ.sg]; rfl)
 case bm z n l=>subst aa; exact single rfl (by obtain ⟨a,cap,rfl,_⟩:=aZ.zG; rfl)
 case own z n l=>subst aa; exact single rfl (by obtain ⟨a,cap,rfl,_⟩:=aZ.nk; rfl)
 case cI l=>subst aa; exact single rfl (by obtain ⟨ad,us,rfl,_⟩:=aZ.xu; rfl)
 case obj l =>
  subst aa;refine single rfl ?_;cases aZ with
  | ref J=>simp [ab.isRef] at J
  | obj=>rfl
 case cW f a b =>
  subst aa;refine single rfl ?_;cases aZ with
  | ref J=>simp [ab.isRef] at J
  | cW=>rfl
theorem jD.ou {I':bb}{ρ:ab->Value->Prop}{x:ab}{v:Value}{F:bb}(h:jD w I ρ x v F) (bf:∀ c,I c->I' c):jD w I' ρ x v F:=by
 cases h with
 | tree h=>exact .tree (h.ou bf)
 | bM h=>exact .bM ⟨h.jV,h.lb,h.nK,h.ak,h.h1,λk x u J hu=>(h.ao k x u J hu).ou bf,h.aN⟩
theorem MP {g1:aM}{f_:Nat->bb}{H1:Nat->bb}{bx y':ab}{v:Value}(bl:jE w I T g1 f_) (hH:Hand w I (fD w T) f_ [bx] [v] H1) (aF:cU bx) (aY:h3 bx y') :
  ∃ (I':bb) (tl:bb),(∀ c,I c->I' c)/\(∀ c,I' c->I c\/H1 0 c)/\jE w I' T g1 f_/\Hand w I' (fD w T) f_ [y'] [v] (λ_=>tl)/\∀ c,tl c->H1 0 c:=by
 have aZ:=hH.Ke;obtain ⟨tl,gI,jM⟩:=R.dN aY aZ aF (λc aa=>hH.bm 0 c (by simp) aa) bl.lt;refine ⟨λc=>I c\/(H1 0 c/\¬ tl c),tl,λc aa=>.inl aa,λc aa=>aa.elim .inl λh=>.inr h.1,⟨λt x J=>?_,bl.kU,bl.eJ,λt c aa hi=>?_,λc aa=>?_⟩,⟨rfl,λk x u J hu=>?_,λj k c ah hk _ _=>by simp at ah hk; omega,λk t c hk aa aW=>hH.off 0 t c (by simp) (gI c aa) aW,λk c hk aa hi=>?_⟩,gI⟩
 ·obtain ⟨u,hu,mU⟩:=bl.rel t x J;exact ⟨u,hu,mU.ou λc aa=>.inl aa⟩
 ·rcases hi with h | ⟨h,_⟩
  ·exact bl.bm t c aa h
  ·exact hH.off 0 t c (by simp) h aa
 ·rcases aa with h | ⟨h,_⟩
  ·exact bl.lt c h
  ·exact aZ.lt c h
 ·grind
 ·rcases hi with h | ⟨_,h⟩
  ·exact hH.bm 0 c (by simp) (gI c aa) h
  grind
theorem bk.j' {N:c6}{o:Oper}{g':aM}(he:bk P N g o g'):iz P N g o g':=by
 intro w I T Fs h a aP bc K Q dj;cases he with
 | Kv he=>exact he w I T Fs h a aP bc K Q dj
 | @call d _ aS jO aa =>
  refine aa w I T Fs h a aP bc K Q λb' w' v I' b7 h1 af aI bK=>dj b' w' ⟨h1,by rw [af,<- aP]; exact hB.put jO _ _,I',b7,by rw [af]; exact aI,bK⟩ λt aw=>?_
  grind
 | @assign d x y bx y' g1 g2 a1 aS J aw aY hk aO jO =>
  have aZ:=kf h J aP;obtain ⟨f_,H1,sJ,u9,hN⟩:=aw.sound h.mE (Hand.one aZ);have BU:cU bx:=aw.Fo bx (by simp);obtain ⟨I',tl,pw,HR,jc,iN,gI⟩:=MP sJ u9 BU aY;have mY:cU y':=aY.bn BU;have h7:=jc.keep hk;have nL:=h7.uC (d:=d) (x:=y') (v:=a.eval x) (F:=tl) aO (by rw [<- aP,bc]; exact c6.lt jO) (.tree (iN.Ke.bn mY)) (λt c aa aW=>iN.off 0 t c (by simp) aa aW.2) (λc aa=>iN.bm 0 c (by simp) aa) (by rintro z p n m new rfl; cases mY);have hP:(execOp a.eval o).run P w=.ok (.value (a.eval x)) w:=by simp [execOp,a1]
  unfold Oper.wp Oper.upon;simp only [hP];have ga:∀ c,H1 0 c->∃ t,Fs t c:=λc aa=>by
   rcases hN c (.inr ⟨0,by simp,aa⟩) with jb | ⟨_,_,jb⟩
   all_goals grind
  refine dj _ _ ⟨by rw [aS]; rfl,by rw [aS]; exact hB.put jO _ _,I',_,by rw [aS]; simpa [Act.put,aP] using nL,⟨Fr.refl _ _,pw,λc aa=>(HR c aa).elim .inl λh=>.inr (.inl (ga c h)),λc aa=>?_⟩⟩ λt aw=>by rw [aS]; simp only [Act.put]; rw [Array.getElem?_setIfInBounds_ne]; rintro rfl; exact aw aS
  rcases wc aa with ⟨t,_,aQ⟩ | aQ
  ·rcases hN c (.inl ⟨t,aQ⟩) with jb | ⟨_,_,jb⟩
   ·grind
   grind
  grind
 | @RE d x y g2 a1 aS J hk ax aO jO =>
  have aZ:=kf h J aP;have h7:=h.mE.keep hk;have jM:R w I (dT w T g2) y (a.eval x) cy:=(aZ.frame (ρ':=fD w T) (λ_ _=>rfl) (λ_ h=>h) (λ_ _ h=>h.1) λ_ _=>rfl).bS ax;have nL:=h7.uC (d:=d) (x:=y) (v:=a.eval x) (F:=cy) aO (by rw [<- aP,bc]; exact c6.lt jO) (.tree jM) (λ_ _ h=>h.elim) (λ_ h=>h.elim) (by rintro z p n m new rfl; exact jM.lj.elim);have hP:(execOp a.eval o).run P w=.ok (.value (a.eval x)) w:=by simp [execOp,a1]
  unfold Oper.wp Oper.upon;simp only [hP];refine dj _ _ ⟨by rw [aS]; rfl,by rw [aS]; exact hB.put jO _ _,I,_,by rw [aS]; simpa [Act.put,aP] using nL,⟨Fr.refl _ _,λ_ h=>h,λ_ h=>.inl h,λc aa=>?_⟩⟩ λt aw=>by rw [aS]; simp only [Act.put]; rw [Array.getElem?_setIfInBounds_ne]; rintro rfl; exact aw aS
  rcases wc aa with ⟨t,_,aQ⟩ | aQ
  ·grind
  grind
 | @store t ad val p k z n y bx y' nd cs cs' g1 _ a1 aS fP oh aw re aa aC au ft hk aR zn r_ la ke =>
  have mV:=kf h oh aP;obtain ⟨⟨u,ZE,hu,H4,tY⟩,_⟩:=(kf h fP aP).nQ;obtain ⟨f_,H0,sJ,u9,H5⟩:=aw.sound h.mE (Hand.one mV);have BU:cU bx:=aw.Fo bx (by simp);obtain ⟨I',tl,pw,HR,jc,iN,V2⟩:=MP sJ u9 BU re;have mY:cU y':=re.bn BU;have ga:∀ c,H0 0 c->∃ t,Fs t c:=λc aa=>by
   rcases H5 c (.inr ⟨0,by simp,aa⟩) with jb | ⟨_,_,jb⟩
   all_goals grind
  have hN:∀ c,lu f_ 1 (λ_=>tl) c->lu Fs [y].length (λ_=>cy) c:=by
   rintro c (⟨t,aa⟩ | ⟨_,_,aa⟩)
   ·exact H5 c (.inl ⟨t,aa⟩)
   ·exact .inl (ga c (V2 c aa))
  obtain ⟨yI,M6,Ii,hp,abY⟩:=iN.cells mY aa;have lj:∀ z q n m new,nd≠.bM z q n m new:=by rcases ft with rfl | rfl <;> simp
  obtain ⟨v,cA,hv,dI,dy,_⟩:=jc.part au lj;rw [hu] at hv;cases hv;obtain ⟨b,gZ,av,_⟩:=dI.node ft (List.getElem?_eq_getElem (show k<cs.length by omega));rw [H4] at av;cases av;have kb:∃ e arr,w.heap[b]?=some (.cells arr e (0,0))/\cs.length<=arr.size:=by
   rcases ft with rfl | rfl
   ·cases dI with
    | ref J=>simp [ab.isRef] at J
    | own qu ak =>
     obtain ⟨l_,bY⟩:=qu
     grind [addrOf]
   ·cases dI with
    | ref J=>simp [ab.isRef] at J
    | obj qu ak =>
     grind [addrOf]
  obtain ⟨e,arr,kb,hle⟩:=kb;obtain ⟨iY,h7,gI⟩:=jc.store au ft hk M6 Ii hp zn r_ la ke hu H4 kb;have ha:(a.eval val).cells.toList.length=cs'.length:=M6.len.symm;have b1:=run_storeCells_at P b k e (a.eval val).cells.toList 0 arr w kb (by omega) (λu hu=>by
   obtain ⟨j,ah,rfl⟩:=List.mem_iff_getElem.1 hu;exact hp j _ (List.getElem?_eq_getElem ah))
  simp only [Nat.add_zero] at b1;have fX:(sizeOf t).run P w=.ok cs'.length w:=by
   unfold hl at aC;cases hi:P.info? t with
   | none=>simp [hi] at aC
   | some i=>simp [hi] at aC; simp [sizeOf,typeInfo,hi,aC]
  have hP:(execOp a.eval o).run P w=.ok .skip (w.setRow b (e5 arr.toList k (a.eval val).cells.toList).toArray):=by
   simp_all [execOp,Instr.storeAt,Instr.sureAddr,storeVar,e5]
  unfold Oper.wp Oper.upon;simp only [hP];have tW:∃ t,Fs t b:=by
   rcases hN b (.inl ⟨_,dy b (dI.Fl ft (ad:=⟨b,0,none⟩) H4)⟩) with aQ | ⟨_,_,aQ⟩
   all_goals grind
  refine dj _ _ ⟨by rw [aS]; rfl,by rw [aS]; exact hB.refl,I',iY,by rw [aS]; simpa [Act.put,aP] using h7,⟨⟨rfl,rfl,rfl,by simp,λc _ aa=>setRow_other w b c _ (λe=>aa (e ▸ tW)),λa _=>HC w b _ a,Nat.le_refl _⟩,pw,λc aa=>(HR c aa).elim .inl λh=>.inr (.inl (ga c h)),λc ⟨t,aa⟩=>?_⟩⟩ λt _=>by rw [aS]; rfl
  rcases gI t c aa with aQ | ⟨j,ah,aQ⟩
  ·rcases hN c (.inl ⟨t,aQ⟩) with jb | ⟨_,_,jb⟩
   ·grind
   grind
  grind
theorem bk.sound (h:cG w I T g Fs) {a:Act}(aP:a.tmps=T) {N:c6}(bc:a.tmps.size=N.size) {o:Oper}{g':aM}(he:bk P N g o g') {K:Act->World->Prop}{Q:Exit->Act->World->Prop}
  (dj:∀ b' w',h5 N a w I Fs g' b' w'->K b' w'):o.wp P a w K Q:=he.j' w I T Fs h a aP bc K Q λb' w' h _=>dj b' w' h
end
end Go.Own
namespace Go.Own
open Go
def oC (g g':aM):Prop:=∀ t x,g t=some x->g' t=some x
section
variable {P:Program}{g g':aM}
theorem e4 (h:oC g g') {x:Operand}{y:ab}(ax:bt g x=some y):bt g' x=some y:=by
 cases x <;> simp only [bt] at ax ⊢
 case tmp t =>
  cases J:g t with
  | none=>rw [J] at ax; cases ax
  | some z=>rw [J] at ax; rw [h t z J]; exact ax
 case const v=>exact ax
 case global n=>exact ax
 case func f=>exact ax
theorem zS (h:oC g g'):∀ {xs:List Operand}{ys:List ab},gn g xs=some ys->gn g' xs=some ys
 | [],_,ax=>ax
 | x::xs,ys,ax=>by
  simp only [gn] at ax ⊢;cases J:bt g x with
  | none=>simp [J] at ax
  | some y =>
   cases se:gn g xs with
   | none=>simp [J,se] at ax
   | some DF=>simp only [J,se] at ax; simp only [e4 h J,zS h se]; exact ax
theorem Ph (h:oC g g'):∀ {l:List (Nat × Operand)}{ps:List (Nat × List ab)},rp g l=some ps->rp g' l=some ps
 | [],_,ax=>ax
 | (i,x)::l,ps,ax=>by
  simp only [rp] at ax ⊢;cases J:bt g x with
  | none=>simp [J] at ax
  | some y =>
   cases se:rp g l with
   | none=>simp [J,se] at ax
   | some DF=>simp only [J,se] at ax; simp only [e4 h J,Ph h se]; exact ax
theorem p5.mono (h:oC g g') {d:Nat}{x:Option Operand}{j:Nat}(av:p5 g d x j):p5 g' d x j:=by
 cases x with
 | none=>exact av
 | some o=>obtain ⟨k,hk⟩:=av; exact ⟨k,e4 h hk⟩
theorem c8.mono (h:oC g g') {op:Op}{ty:TypeId}{x:ab}(au:c8 P g op ty x):c8 P g' op ty x:=by
 cases au with
 | move J=>exact .move (e4 h J)
 | assign J=>exact .assign (e4 h J)
 | pick aa ao=>exact .pick (e4 h aa) (e4 h ao)
 | Fk J=>exact .Fk (e4 h J)
 | qE J=>exact .qE (e4 h J)
 | Bo J aW dd=>exact .Bo (e4 h J) aW (dd.mono h)
 | El J aW=>exact .El (e4 h J) aW
 | Ek J aW aw ax=>exact .Ek (e4 h J) aW aw ax
 | Hx J aW aw hk=>exact .Hx (e4 h J) aW aw hk
 | EZ J hi aw ah=>exact .EZ (e4 h J) (e4 h hi) aw ah
 | EY J hi aw ah dd=>exact .EY (e4 h J) (e4 h hi) aw ah (dd.mono h)
 | Jk J hi aw ah dd=>exact .Jk (e4 h J) (e4 h hi) aw ah (dd.mono h)
 | EX J hi aw ah dd=>exact .EX (e4 h J) (e4 h hi) aw ah (dd.mono h)
 | Jj J hi aw ah=>exact .Jj (e4 h J) (e4 h hi) aw ah
 | Fb J aw=>exact .Fb (e4 h J) aw
 | Fc J aw hk=>exact .Fc (e4 h J) aw hk
 | Cw J aw ax=>exact .Cw (e4 h J) aw (kH h ax)
 | xG J aw ax aa hm=>exact .xG (e4 h J) aw (kH h ax) aa hm
 | E0 J hi aw av=>exact .E0 (e4 h J) (e4 h hi) aw av
 | bin J ax hv ao=>exact .bin (e4 h J) (e4 h ax) hv ao
 | A8 J ax hv ao=>exact .A8 (e4 h J) (e4 h ax) hv ao
 | un J hv ao=>exact .un (e4 h J) hv ao
 | conv J hv ao=>exact .conv (e4 h J) hv ao
 | Eb J au aF hE aw=>exact .Eb (e4 h J) (kH h au) aF hE aw
 | Ec J aw=>exact .Ec (e4 h J) aw
 | @Hu xs gq _ f vs v J hv ao =>
  refine .Hu (vs:=vs) ?_ hv ao;apply List.ext_getElem?;intro k;have:=congrArg (·[k]?) J;simp only [List.getElem?_map] at this ⊢;rw [<- this];cases hk:xs.toList[k]? with
  | none=>rfl
  | some o =>
   rw [hk] at this;cases hv:vs[k]? with
   | none=>rw [hv] at this; cases this
   | some v =>
    rw [hv] at this;simp only [Option.map_some,Option.some.injEq] at this ⊢;rw [this,e4 h this]
 | Eh J ax=>exact .Eh (e4 h J) ax
 | AA J ak bY aw h1 af=>exact .AA (e4 h J) (ak.mono h) (bY.mono h) aw h1 af
 | Ky J ak bY aw aF dd=>exact .Ky (e4 h J) (ak.mono h) (bY.mono h) aw aF (dd.mono h)
 | F4 J ak bY aw h1 af dd=>exact .F4 (e4 h J) (ak.mono h) (bY.mono h) aw h1 af (dd.mono h)
 | AB J ak bY aw h1 af=>exact .AB (e4 h J) (ak.mono h) (bY.mono h) aw h1 af
 | Ct J aw=>exact .Ct (e4 h J) aw
 | Cs J aw=>exact .Cs (e4 h J) aw
 | JF J aw=>exact .JF (e4 h J) aw
 | JE J aw=>exact .JE (e4 h J) aw
 | Fa J au ax dj aZ ao=>exact .Fa (e4 h J) (kH h au) (e4 h ax) dj aZ ao
 | Cv J ax dj aZ ao=>exact .Cv (e4 h J) (e4 h ax) dj aZ ao
 | @lits b xs gq _ vs v J hv ao =>
  refine .lits (vs:=vs) ?_ hv ao;clear ao;generalize xs.toList=l at J
  induction l generalizing vs with
  | nil=>exact J
  | cons x l aU =>
   cases vs with
   | nil=>simp at J
   | cons v vs =>
    simp only [List.map_cons,List.cons.injEq] at J ⊢;exact ⟨e4 h J.1,aU J.2⟩
theorem p9.mono (h:oC g g') {op:Op}{ty:TypeId}{x:ab}(au:p9 P g op ty x):p9 P g' op ty x:=by
 cases au with
 | box J aa=>exact .box (e4 h J) aa
 | alloc aY h1=>exact .alloc aY h1
 | makeMap bg=>exact .makeMap bg
 | buildSlice aw au J aY aa av aF hzero=>exact .buildSlice aw au (zS h J) aY aa av aF hzero
 | makeSlice aw J ax hzero h1 pJ av aF oe vy EW=>exact .makeSlice aw (e4 h J) (e4 h ax) hzero h1 pJ av aF oe vy EW
theorem uV.mono (h:oC g g') {op:Op}{ty:TypeId}{x:ab}(au:uV P g op ty x):uV P g' op ty x:=by
 cases au with
 | build aw aY h1 au aa=>exact .build aw aY h1 (Ph h au) aa
 | makeFunc aP av=>exact .makeFunc (zS h aP) (zS h av)
theorem Src.mono (h:oC g g') {y:ab}{z m:Nat}{cells:List ab}(aC:Src g y z m cells):Src g' y z m cells:=by
 cases aC with
 | bm=>exact .bm
 | aK=>exact .aK
 | a6 bg hm=>exact .a6 (kH h bg) hm
 | sub bg hm=>exact .sub (kH h bg) hm
theorem ch.mono (h:oC g g') {op:Op}{ty:TypeId}{x:ab}(au:ch P g op ty x) (e9:∀ z p n m new,x=.bM z p n m new->∀ t bE cF m' c5,g' t≠some (.bM bE p cF m' c5)):ch P g' op ty x:=by
 cases au with
 | eU au=>exact .eU (au.mono h)
 | qG au=>exact .qG (au.mono h)
 | CJ au=>exact .CJ (au.mono h)
 | lS au =>
  cases au with
  | grow aC dd _ J r' aw ra av=>exact .lS (.grow (e4 h aC) (dd.mono h) (e9 _ _ _ _ _ rfl) (e4 h J) (r'.mono h) aw ra av)
  | nil aC J r' aw ra av=>exact .lS (.nil (e4 h aC) (e4 h J) (r'.mono h) aw ra av)
theorem View.mono (h:oC g g') {x y:ab}(hv:View g x y):View g' x y:=by
 induction hv with
 | qE=>exact .qE
 | self h1 af aI bK cH ei=>exact .self h1 af aI bK cH ei
 | mp=>exact .mp
 | gB au=>exact .gB (kH h au)
 | agg ak _ aU=>exact .agg ak aU
 | own ak _ aU=>exact .own ak aU
 | obj ak _ aU=>exact .obj ak aU
 | cW ak _ aU=>exact .cW ak aU
 | a6 au aF ak _ aU=>exact .a6 (kH h au) aF ak aU
 | sub au aF ak _ aU=>exact .sub (kH h au) aF ak aU
 | ptr au ax hk ak _ aU=>exact .ptr (kH h au) ax hk ak aU
 | rows au ak _ aU=>exact .rows (au.mono (λau=>kH h au) h) ak aU
theorem cB.mono (h:oC g g') {op:Op}{x:ab}(au:cB P g op x):cB P g' op x:=by
 cases au with
 | plain aa J aW aF gQ ao=>exact .plain (e4 h aa) (zS h J) aW aF gQ ao
 | E_ aa J aW ak hv gQ ao=>exact .E_ (e4 h aa) (zS h J) aW ak (λk x y J ax=>(hv k x y J ax).mono h) gQ ao
def iB (g:aM) (ops:Array Oper) (o:Oper) (b:Bool):Prop :=
 match o.guard with
 | none=>b=true
 | some (j,want)=>∃ t,(ops[j]?).bind (·.dst)=some t/\((∃ c,g t=some (.lit (.bool c))/\b=(c == want))\/(g t=some (.bW [])/\b=false))
theorem iB.mono (h:oC g g') {ops:Array Oper}{o:Oper}{b:Bool}(hw:iB g ops o b):iB g' ops o b:=by
 unfold iB at *;split
 ·rename_i aO; rw [aO] at hw; exact hw
 ·rename_i j want aO;rw [aO] at hw;obtain ⟨t,h1,⟨c,af,aI⟩ | ⟨af,aI⟩⟩:=hw
  ·exact ⟨t,h1,.inl ⟨c,h t _ af,aI⟩⟩
  ·exact ⟨t,h1,.inr ⟨h t _ af,aI⟩⟩
theorem iB.sound {w:World}{I:bb}{T:Array Value}{Fs:Nat->bb}(bl:cG w I T g Fs) {ops:Array Oper}{o:Oper}{b:Bool}(hw:iB g ops o b):Region.wanted o (yielded ops T)=b:=by
 unfold iB at hw;unfold Region.wanted
 split at hw
 ·rename_i aO; rw [aO]; exact hw.symm
 ·rename_i j want aO;rw [aO];obtain ⟨t,h1,⟨c,af,aI⟩ | ⟨af,aI⟩⟩:=hw
  ·obtain ⟨v,hv,aZ⟩:=bl.rel _ _ af;have:=(aZ.gJ (by simp)).hA.1;subst this;subst aI;simp only [yielded,h1,Option.bind_some,hv];cases c <;> cases want <;> rfl
  ·obtain ⟨v,hv,aZ⟩:=bl.rel _ _ af;have:∃ vs,v=.tuple vs:=by
    cases aZ.gJ (by simp) with
    | bW=>exact ⟨_,rfl⟩
    | ref J=>simp [ab.isRef] at J
   obtain ⟨vs,rfl⟩:=this;subst aI;simp only [yielded,h1,Option.bind_some,hv];cases want <;> rfl
def qb (P:Program) (g:aM) (ops:Array Oper) (o:Oper):Option ab->Prop
 | none=>iB g ops o false
 | some x=>(iB g ops o true/\(ch P g o.op o.type x\/cB P g o.op x))\/(iB g ops o false/\x=.bW [])\/(iB g ops o true/\∃ y,(ch P g o.op o.type y\/cB P g o.op y)/\cU y/\View (λ_=>none) y x)
theorem qb.mono (h:oC g g') {ops:Array Oper}{o:Oper}{r:Option ab}(aC:qb P g ops o r) (e9:∀ z p n m new,r=some (.bM z p n m new)->∀ t bE cF m' c5,g' t≠some (.bM bE p cF m' c5)):qb P g' ops o r:=by
 cases r with
 | none=>exact iB.mono h aC
 | some x =>
  rcases aC with aC | ⟨aC,J⟩ | ⟨aC,y,au,aF,hv⟩
  ·refine .inl ⟨aC.1.mono h,?_⟩;rcases aC.2 with au | au
   ·exact .inl (au.mono h λz p n m new e=>e9 z p n m new (by rw [e]))
   ·exact .inr (au.mono h)
  ·exact .inr (.inl ⟨aC.mono h,J⟩)
  ·refine .inr (.inr ⟨aC.mono h,y,?_,aF,hv⟩);rcases au with au | au
   ·exact .inl (au.mono h λz p n m new e=>by subst e; cases aF)
   ·exact .inr (au.mono h)
def leaf:ab->Bool
 | .own .. | .obj .. | .agg .. | .bW .. | .bM .. | .mp ..=>false
 | _=>true
def del (g:aM) (d:Nat):aM:=λt=>if t=d then none else g t
theorem W5 {x y:ab}(h:leaf x=true):∀ {q:List Nat},x.at q=some y->y=x
 | [],ax=>by simpa [ab.at] using ax.symm
 | k::q,ax=>by
  have:x.kids=[]:=by cases x <;> first | rfl | simp [leaf] at h
  simp [ab.at,this] at ax
theorem y1 {d:Nat}{x:ab}(aS:g d=some x) (ak:leaf x=true) {p:Place}{y:ab}(au:bD g p=some y) (ax:leaf y=false):bD (del g d) p=some y:=by
 have ao:p.root≠d:=by
  intro e;unfold bD at au;rw [e,aS] at au;rw [W5 ak au,ak] at ax;cases ax
 simp only [bD,del,if_neg ao] at au ⊢;exact au
theorem gE.del {d:Nat}{x:ab}(aS:g d=some x) (ak:leaf x=true) {r:ab}(h:gE g r):gE (del g d) r:=by
 have root:∀ {t:Nat}{y:ab},g t=some y->leaf y=false->Own.del g d t=some y:=by
  intro t y aw ax;have:t≠d:=by
   rintro rfl;rw [aS] at aw;cases aw;rw [ak] at ax; cases ax
  simp only [Own.del,if_neg this,aw]
 cases r <;> simp only [gE] at h ⊢
 case ptr p k =>
  obtain ⟨y,ax,z,n,cs,eN,hk⟩:=h;exact ⟨y,y1 aS ak ax (by rcases eN with rfl | rfl <;> rfl),z,n,cs,eN,hk⟩
 case a6 z p n =>
  rcases h with ⟨N,cs,ax,aF⟩ | ⟨h1,q,gY,m,new,af,aI⟩
  ·exact .inl ⟨N,cs,y1 aS ak ax rfl,aF⟩
  ·exact .inr ⟨h1,q,gY,m,new,root af rfl,aI⟩
 case sub z p lo n =>
  obtain ⟨N,cs,ax,aF⟩:=h;exact ⟨N,cs,y1 aS ak ax rfl,aF⟩
 case gB p=>obtain ⟨q,h⟩:=h; exact ⟨q,y1 aS ak h rfl⟩
 case bM z p n m new =>
  rcases h with ⟨cs,ax⟩ | ⟨h1,q,gY,m,new,cs,af,aI,bK⟩
  ·exact .inl ⟨cs,y1 aS ak ax rfl⟩
  ·exact .inr ⟨h1,q,gY,m,new,cs,root af rfl,aI,y1 aS ak bK rfl⟩
theorem R.W4 {w:World}{I:bb}{ρ:ab->Value->Prop}{x:ab}{v:Value}{F:bb}(h:R w I ρ x v F) (ak:leaf x=true):∀ c,¬ F c:=by
 cases h with
 | own | obj | agg | bW | mp=>simp [leaf] at ak
 | lit _ aN | aK aN | dead aN | ref _ _ aN | hF aN | bm aN | cI aN | cW aN | imp aN=>exact aN
theorem cG.drop {w:World}{I:bb}{T:Array Value}{Fs:Nat->bb}(h:cG w I T g Fs) {d:Nat}{x:ab}(aS:g d=some x) (ak:leaf x=true):cG w I T (del g d) Fs:=by
 refine ⟨λt y ax=>?_,λt aw c aa=>?_,h.eJ,h.bm,h.lt,λt t' z p n m new bE cF m' c5 h1 af=>?_⟩
 ·have oU:g t=some y:=by
   unfold del at ax
   split at ax
   ·cases ax
   ·exact ax
  obtain ⟨v,hv,aZ⟩:=h.rel t y oU;exact ⟨v,hv,aZ.frame (λ_ _=>rfl) (λ_ h=>h) (λ_ _ ao=>⟨ao.1,ao.2.del aS ak⟩) (λ_ _ _ _ _ _ _=>rfl) λ_ _=>rfl⟩
 ·unfold del at aw
  split at aw
  ·rename_i e;subst e;obtain ⟨v,hv,aZ⟩:=h.rel t x aS;exact (aZ.gJ (by rintro z p n m new rfl; simp [leaf] at ak)).W4 ak c aa
  ·exact h.kU t aw c aa
 ·have key:∀ {t:Nat}{y:ab},del g d t=some y->g t=some y:=by
   intro t y ax;unfold del at ax
   split at ax
   ·cases ax
   ·exact ax
  exact h.ru _ _ _ _ _ _ _ _ _ _ _ (key h1) (key af)
end
end Go.Own
namespace Go.Own
open Go
def x8 (g:aM) (d:Nat):Option ab->aM
 | some x=>cV g d x
 | none=>g
section
variable {P:Program}{w:World}{I:bb}{T:Array Value}{g:aM}{Fs:Nat->bb}{N:c6}{ops:Array Oper}
theorem ko.refl (w:World) (I U:bb):ko w I U w I U:=⟨Fr.refl _ _,λ_ h=>h,λ_ h=>.inl h,λ_ h=>.inl h⟩
theorem ko.trans {w ib hr:World}{I AV DN U yV Lo:bb}(h:ko w I U ib AV yV) (h1:ko ib AV yV hr DN Lo):ko w I U hr DN Lo:=by
 have nj:∀ c,c<w.heap.size->yV c->U c:=λc aa hu=>by
  rcases h.own c hu with aQ | aQ
  ·exact aQ
  ·omega
 refine ⟨h.eS.trans h1.eS nj,λc aa=>h1.more c (h.more c aa),λc aa=>?_,λc aa=>?_⟩
 ·rcases h1.new c aa with aQ | aQ | aQ
  ·exact h.new c aQ
  ·rcases h.own c aQ with jb | jb
   ·exact .inr (.inl jb)
   ·exact .inr (.inr jb)
  ·exact .inr (.inr (Nat.le_trans h.eS.size aQ))
 ·rcases h1.own c aa with aQ | aQ
  ·exact h.own c aQ
  ·exact .inr (Nat.le_trans h.eS.size aQ)
theorem h5.trans {N:c6}{a aE a2:Act}{ib hr:World}{AV:bb}{f_:Nat->bb}{g2:aM}(h1:aE.defers=a.defers) (af:hB N a.tmps aE.tmps) (b1:ko w I (λc=>∃ t,Fs t c) ib AV (λc=>∃ t,f_ t c)) (h:h5 N aE ib AV f_ g2 a2 hr):h5 N a w I Fs g2 a2 hr:=by
 obtain ⟨cz,cf,DN,iY,bl,qv⟩:=h;exact ⟨cz.trans h1,af.trans cf,DN,iY,bl,b1.trans qv⟩
theorem cG.XU (h:cG w I T g Fs) {d:Nat}(aS:g d=none) (v:Value):cG w I (T.setIfInBounds d v) g Fs:=by
 have dL:∀ t,g t≠none->(T.setIfInBounds d v)[t]?=T[t]?:=by
  intro t aw;rw [Array.getElem?_setIfInBounds_ne];rintro rfl; exact aw aS
 refine ⟨λt x J=>?_,h.kU,h.eJ,h.bm,h.lt,h.ru⟩;obtain ⟨u,hu,aZ⟩:=h.rel t x J;exact ⟨u,by rw [dL t (by rw [J]; simp)]; exact hu,h.wV dL (λ_ _ _=>rfl) (λ_ _=>rfl) (λ_ h=>h) (λ_ _ h=>h) aZ λ_ _=>rfl⟩
structure GH (dN:Nat->Bool) (g g2:aM):Prop where
 nj:∀ t x,g2 t=some x->dN t=false->g t=some x/\di g2 x
 pK:∀ t x,g2 t=some x->dN t=true->∃ y,g t=some y/\cU y/\h3 y x
 fA:∀ t z q n m new,g2 t≠some (.bM z q n m new)
theorem cG.u5 (h:cG w I T g Fs) {dN:Nat->Bool}{g2:aM}(aY:GH dN g g2):∃ I' b7,cG w I' T g2 b7/\ko w I (λc=>∃ t,Fs t c) w I' (λc=>∃ t,b7 t c):=by
 have rZ:=h.mE;have CE:∀ t x,g2 t=some x->∀ z p n m new,x≠.bM z p n m new:=by
  rintro t x J z p n m new rfl;exact aY.fA _ _ _ _ _ _ J
 -- of each slot what it owns from now on
 have:∀ t,∃ c9:bb,(∀ c,c9 c->Fs t c/\g2 t≠none)/\∀ x,g2 t=some x->(dN t=false->∀ c,Fs t c->c9 c)/\∃ v,T[t]?=some v/\R w (λc=>I c\/(Fs t c/\¬ c9 c)) (dT w T g2) x v c9:=by
  intro t;cases J:g2 t with
  | none=>exact ⟨cy,λ_ h=>h.elim,λx h=>by cases h⟩
  | some x =>
   cases aw:dN t with
   | false =>
    obtain ⟨h1,af⟩:=aY.nj t x J aw;obtain ⟨v,hv,aZ⟩:=rZ.rel t x h1;refine ⟨Fs t,λc aa=>⟨aa,by simp⟩,λy ax=>?_⟩;cases ax;exact ⟨λ_ _ h=>h,v,hv,((aZ.gJ (CE t x J)).bS af).ou λc aa=>.inl aa⟩
   | true =>
    obtain ⟨y,h1,af,aI⟩:=aY.pK t x J aw;obtain ⟨v,hv,aZ⟩:=rZ.rel t y h1;have jM:=aZ.gJ (by rintro z p n m new rfl; cases af);obtain ⟨c9,aC,Uq⟩:=R.dN aI jM af (λc aa=>rZ.bm t c aa) rZ.lt;refine ⟨c9,λc aa=>⟨aC c aa,by simp⟩,λz aY=>?_⟩;cases aY;exact ⟨λh=>absurd h (by simp),v,hv,Uq.bn (aI.bn af)⟩
 obtain ⟨b7,jL⟩:=Classical.axiomOfChoice this;refine ⟨λc=>I c\/∃ t,Fs t c/\g2 t≠none/\¬ b7 t c,b7,⟨λt x J=>?_,λt aw c aa=>((jL t).1 c aa).2 aw,λt t' c aa fr=>h.eJ t t' c ((jL t).1 c aa).1 ((jL t').1 c fr).1,λt c aa hi=>?_,λc aa=>?_,λt t' z p n m new bE cF m' c5 h1 _=>absurd h1 (aY.fA _ _ _ _ _ _)⟩,Fr.refl _ _,λ_ h=>.inl h,λc aa=>?_,λc ⟨t,aa⟩=>.inl ⟨t,((jL t).1 c aa).1⟩⟩
 ·obtain ⟨_,v,hv,aZ⟩:=(jL t).2 x J;exact ⟨v,hv,.tree (aZ.ou λc aa=>aa.elim .inl λaa=>.inr ⟨t,aa.1,by rw [J]; simp,aa.2⟩)⟩
 ·rcases hi with aQ | ⟨s,h1,_,af⟩
  ·exact h.bm t c ((jL t).1 c aa).1 aQ
  ·have:=h.eJ t s c ((jL t).1 c aa).1 h1;subst this;exact af aa
 ·rcases aa with aQ | ⟨s,aQ,_⟩
  ·exact h.lt c aQ
  ·exact h.jZ s c aQ
 ·rcases aa with aQ | ⟨s,aQ,_⟩
  ·exact .inl aQ
  ·exact .inr (.inl ⟨s,aQ⟩)
theorem qb.sound (h:cG w I T g Fs) {a:Act}(aP:a.tmps=T) (bc:a.tmps.size=N.size) {o:Oper}{r:Option ab}{d:Nat}(aC:qb P g ops o r) (aS:o.dst=some d) (aO:g d=none) (jO:N.ok d=true) {K:Act->World->Prop}{Q:Exit->Act->World->Prop}
  (dj:∀ b' w',h5 N a w I Fs (x8 g d r) b' w'->K b' w') :
  if Region.wanted o (yielded ops a.tmps) then o.wp P a w K Q\/(o.asks P a w/\LetsOut Q) else K (a.put o.dst undef) w:=by
 subst aP;cases r with
 | none =>
  rw [iB.sound h aC];simp only [Bool.false_eq_true,if_false];refine dj _ _ ⟨by rw [aS]; rfl,by rw [aS]; exact hB.put jO _ _,I,Fs,by rw [aS]; exact h.XU aO _,ko.refl _ _ _⟩
 | some x =>
  have fin:∀ x v w',uT w I a.tmps g Fs x v w'->(∀ b' w',h5 N a w I Fs (cV g d x) b' w'->K b' w')->K (a.put o.dst v) w':=by
   rintro x v w' ⟨F,I',bl,aZ,h1,af,aI,bK,cH,ei⟩ dj;refine dj _ _ ⟨by rw [aS]; rfl,by rw [aS]; exact hB.put jO _ _,I',_,by rw [aS]; exact bl.uC aO (by rw [bc]; exact c6.lt jO) aZ (λt c aa aW=>h1 t c aa aW) (λc aa=>(af c aa).2) ei,⟨cH,aI,λc aa=>?_,λc aa=>?_⟩⟩
   ·rcases bK c aa with aQ | aQ
    ·exact .inl aQ
    ·exact .inr (.inr aQ)
   ·rcases wc aa with aQ | aQ
    ·exact .inl aQ
    ·exact .inr (af c aQ).1
  have pK:∀ y v w',cU y->View (λ_=>none) y x->uT w I a.tmps g Fs y v w'->uT w I a.tmps g Fs x v w':=by
   rintro y v w' aF hv ⟨F,I',bl,aZ,h1,af,aI,bK,cH,ei⟩;have dI:=aZ.gJ (by rintro z p n m new rfl; cases aF);refine ⟨cy,λc=>I' c\/F c,⟨λt z aY=>?_,bl.kU,bl.eJ,λt c aa hi=>?_,λc aa=>?_,bl.ru⟩,.tree (dI.pK aF hv (λc aa=>(af c aa).2) bl.lt),λ_ _ h=>h.elim,λ_ h=>h.elim,λc aa=>.inl (aI c aa),λc aa=>?_,cH,?_⟩
   ·obtain ⟨u,hu,mU⟩:=bl.rel t z aY;exact ⟨u,hu,mU.ou λc aa=>.inl aa⟩
   ·rcases hi with h | h
    ·exact bl.bm t c aa h
    ·exact h1 t c h aa
   ·rcases aa with h | h
    ·exact bl.lt c h
    ·exact dI.lt c h
   ·rcases aa with h | h
    ·exact bK c h
    ·exact .inr (af c h).1
   ·rintro z p n m new rfl;cases hv with
    | self h=>cases h
  rcases aC with aC | ⟨aC,rfl⟩ | ⟨aC,y,au,aF,hv⟩
  rotate_left
  rotate_left
  ·rw [iB.sound h aC];simp only [if_true];refine .inl ?_;have MJ:∀ v w',uT w I a.tmps g Fs y v w'->K (a.put o.dst v) w':=λv w' c_=>fin x v w' (pK y v w' aF hv c_) dj;rcases au with au | au
   ·obtain ⟨v,w',hP,c_⟩:=au.sound h rfl;unfold Oper.wp Oper.upon;simp only [hP];exact MJ v w' c_
   ·exact au.sound h rfl MJ
  rotate_left
  ·rw [iB.sound h aC];simp only [Bool.false_eq_true,if_false];refine dj _ _ ⟨by rw [aS]; rfl,by rw [aS]; exact hB.put jO _ _,I,_,by rw [aS]; exact h.uC aO (by rw [bc]; exact c6.lt jO) (.tree (.bW (Fs:=λ_=>cy) (F:=cy) rfl (λk x u J _=>by simp at J) (λ_ _ _ _ _ h=>h.elim) (λc=>⟨λh=>h.elim,λ⟨_,_,h⟩=>h⟩))) (λ_ _ h=>h.elim) (λ_ h=>h.elim) (λ_ _ _ _ _ e=>by cases e),⟨Fr.refl _ _,λ_ h=>h,λ_ h=>.inl h,λc aa=>?_⟩⟩;rcases wc aa with aQ | aQ
   ·exact .inl aQ
   ·exact aQ.elim
  rw [iB.sound h aC.1];simp only [if_true];refine .inl ?_;have fin:∀ v w',uT w I a.tmps g Fs x v w'->K (a.put o.dst v) w':=by
   rintro v w' ⟨F,I',bl,aZ,h1,af,aI,bK,cH,ei⟩;refine dj _ _ ⟨by rw [aS]; rfl,by rw [aS]; exact hB.put jO _ _,I',_,by rw [aS]; exact bl.uC aO (by rw [bc]; exact c6.lt jO) aZ (λt c aa aW=>h1 t c aa aW) (λc aa=>(af c aa).2) ei,⟨cH,aI,λc aa=>?_,λc aa=>?_⟩⟩
   ·rcases bK c aa with aQ | aQ
    ·exact .inl aQ
    ·exact .inr (.inr aQ)
   ·rcases wc aa with aQ | aQ
    ·exact .inl aQ
    ·exact .inr (af c aQ).1
  rcases aC.2 with au | au
  ·obtain ⟨v,w',hP,c_⟩:=au.sound h rfl;unfold Oper.wp Oper.upon;simp only [hP];exact fin v w' c_
  ·exact au.sound h rfl fin
inductive oE (P:Program) (N:c6) (ops:Array Oper):List Nat->aM->aM->Prop
 | nil {g:aM}:oE P N ops [] g g
 | step {i:Nat}{rest:List Nat}{g g':aM}{o:Oper}{d:Nat}{r:Option ab}(a1:ops[i]?=some o) (aS:o.dst=some d) (aO:g d=none) (jO:N.ok d=true) (aC:qb P g ops o r)
   (ao:oE P N ops rest (x8 g d r) g'):oE P N ops (i::rest) g g'
 | j' {i:Nat}{rest:List Nat}{g g1 g':aM}{o:Oper}(a1:ops[i]?=some o) (hw:iB g ops o true) (he:bk P N g o g1) (ao:oE P N ops rest g1 g'):oE P N ops (i::rest) g g'
 | drop {is:List Nat}{g g':aM}{d:Nat}{x:ab}(aS:g d=some x) (ak:leaf x=true) (ao:oE P N ops is (del g d) g'):oE P N ops is g g'
 | forget {is:List Nat}{g g1 g':aM}(hk:hC g g1) (ao:oE P N ops is g1 g'):oE P N ops is g g'
 | u5 {is:List Nat}{g g1 g':aM}{dN:Nat->Bool}(hk:GH dN g g1) (ao:oE P N ops is g1 g'):oE P N ops is g g'
theorem oE.sound {is:List Nat}{g':aM}(ao:oE P N ops is g g'):∀ {a:Act}{w:World}{I:bb}{Fs:Nat->bb}{Q:Exit->Act->World->Prop},cG w I a.tmps g Fs->a.tmps.size=N.size ->
  (∀ b' w',h5 N a w I Fs g' b' w'->Q .normal b' w')->wpOps P ops Q is a w:=by
 induction ao with
 | nil=>exact λbl bc dO=>dO _ _ ⟨rfl,hB.refl,_,_,bl,ko.refl _ _ _⟩
 | @step i rest g g' o d r a1 aS aO jO aC _ aU =>
  intro a w I Fs Q bl bc dO;simp only [wpOps,a1];refine aC.sound bl rfl bc aS aO jO λb' w' aF=>?_;obtain ⟨cz,cf,I',b7,dY,b1⟩:=aF;exact aU dY (cf.1.trans bc) λa2 hr af=>dO _ _ (h5.trans cz cf b1 af)
 | @j' i rest g g1 g' o a1 hw he _ aU =>
  intro a w I Fs Q bl bc dO;simp only [wpOps,a1,hw.sound bl,if_true];refine .inl (he.sound bl rfl bc λb' w' aF=>?_);obtain ⟨cz,cf,I',b7,dY,b1⟩:=aF;exact aU dY (cf.1.trans bc) λa2 hr af=>dO _ _ (h5.trans cz cf b1 af)
 | @drop is g g' d x aS ak _ aU=>exact λbl bc dO=>aU (bl.drop aS ak) bc dO
 | @u5 is g g1 g' dN hk _ aU =>
  intro a w I Fs Q bl bc dO;obtain ⟨I',b7,dY,b1⟩:=bl.u5 hk;exact aU dY bc λa2 hr af=>dO _ _ (h5.trans rfl hB.refl b1 af)
 | @forget is g g1 g' hk _ aU =>
  intro a w I Fs Q bl bc dO;have dY:=bl.mE.keep hk;refine aU dY bc λa2 hr af=>dO _ _ (h5.trans rfl hB.refl ⟨Fr.refl _ _,λ_ h=>h,λ_ h=>.inl h,λc aa=>?_⟩ af);obtain ⟨t,_,aa⟩:=aa;exact .inl ⟨t,aa⟩
end
end Go.Own
namespace Go.Own
open Go
def so (rs:List Nat):Place->Prop:=λp=>p.root∈rs
def o_ (P:Program) (N:c6) (rs:Place->Prop) (g:aM) (o:Oper) (g':aM):Prop :=
 ∀ (w:World) (I:bb) (T:Array Value) (Fs:Nat->bb),cG w I T g Fs->∀ (a:Act),a.tmps=T->a.tmps.size=N.size->∀ (K:Act->World->Prop) (Q:Exit->Act->World->Prop),
  (∀ (b':Act) (w':World),h5 N a w I Fs g' b' w'->(∀ t,o.dst≠some t->b'.tmps[t]?=a.tmps[t]?)->(∀ r path,rs ⟨r,path⟩->∀ y,bD g ⟨r,path⟩=some y->(∀ z q n m new,y≠.bM z q n m new)->dW w' b'.tmps ⟨r,path⟩=dW w T ⟨r,path⟩)->K b' w')->o.wp P a w K Q
theorem iz.v {P:Program}{N:c6}{g g':aM}{o:Oper}(h:iz P N g o g'):o_ P N (so []) g o g' :=
 λw I T Fs bl a aP bc K Q dj=>h w I T Fs bl a aP bc K Q λb' w' h1 af=>dj b' w' h1 af λ_ _ h=>by simp [so] at h
inductive p_:ab->Prop
 | lit {v:Value}:p_ (.lit v)
 | aK:p_ .aK
 | bm {z n:Nat}{cs:List ab}(h:∀ x∈cs,cU x):p_ (.bm z n cs)
 | agg {cs:List ab}(h:∀ x∈cs,p_ x):p_ (.agg cs)
theorem p_.bn {x:ab}(h:p_ x):cU x:=by
 induction h with
 | lit=>exact .lit
 | aK=>exact .aK
 | bm h=>exact .bm h
 | agg _ aU=>exact .agg aU
theorem p_.kU {w:World}{I:bb}{ρ:ab->Value->Prop}{x:ab}(h:p_ x):∀ {v:Value}{F:bb},R w I ρ x v F->∀ c,¬ F c:=by
 induction h with
 | lit =>
  intro v F aZ;cases aZ with
  | lit _ aN=>exact aN
  | ref J=>simp [ab.isRef] at J
 | aK =>
  intro v F aZ;cases aZ with
  | aK aN=>exact aN
  | ref J=>simp [ab.isRef] at J
 | bm =>
  intro v F aZ;cases aZ with
  | ref J=>simp [ab.isRef] at J
  | hF aN=>exact aN
  | bm aN=>exact aN
 | @agg cs _ aU =>
  intro v F aZ c aa;cases aZ with
  | ref J=>simp [ab.isRef] at J
  | @agg _ vs bL _ ak h1 ao aS mq =>
   obtain ⟨k,hk,af⟩:=(mq c).1 aa;have hu:vs[k]?=some (vs[k]'(by omega)):=Array.getElem?_eq_getElem (by omega);exact aU _ (List.getElem_mem hk) (ao k _ _ (List.getElem?_eq_getElem hk) hu) c af
structure GC (g:aM):Prop where
 bS:∀ t x,g t=some x->di g x
 fA:∀ t z q n m new,g t≠some (.bM z q n m new)
def A5 (rs:Place->Prop) (g g1:aM) (o:Oper) (x:ab):Prop:=(∃ r path z n N cs,x=.a6 z ⟨r,path⟩ n/\rs ⟨r,path⟩/\bD g ⟨r,path⟩=some (.own z N cs)/\bD g1 ⟨r,path⟩=some (.own z N cs)/\n<=N)\/(∃ v,x=.lit v)\/(∃ s p k,x=.ptr p k/\g s=some x/\g1 s=some x/\o.dst≠some s)\/(∃ r k cs,x=.ptr ⟨r,[]⟩ k/\g1 r=some (.obj cs)/\k<cs.length/\o.dst≠some r/\∃ cs',g r=some (.obj cs')/\k<cs'.length)\/(∃ z n cs,x=.bm z n cs/\cU x)\/(∃ cs,x=.agg cs/\p_ x/\GC g)
section
variable {P:Program}{N:c6}{g g1:aM}{o:Oper}
theorem PY {T:Array Value}{t:Nat}{v:Value}(h:T[t]?=some v):T.setIfInBounds t v=T:=by
 apply Array.ext (by simp);intro i h1 af;rw [Array.getElem_setIfInBounds];split
 ·rename_i e;subst e;have:=(Array.getElem?_eq_some_iff.1 h);exact this.2.symm
 ·rfl
theorem cG.S6 {w:World}{I:bb}{T:Array Value}{Fs:Nat->bb}{t:Nat}{x:ab}(h:cG w I T (cV g t x) Fs) (aO:g t=none) (aa:GC g) (k8:∀ c,¬ Fs t c):cG w I T g Fs:=by
 have gI:∀ s y,g s=some y->cV g t x s=some y:=λs y aC=>by
  unfold cV;rw [if_neg (λe=>by rw [e,aO] at aC; cases aC)]; exact aC
 have af:=h.mE.keep (g2:=g) ⟨gI,aa.bS,aa.fA⟩;have e:(λs c=>g s≠none/\Fs s c)=Fs:=by
  funext s c;apply propext;refine ⟨λh=>h.2,λaW=>⟨λaF=>?_,aW⟩⟩;by_cases aC:s=t
  ·subst aC; exact k8 c aW
  ·exact h.kU s (by unfold cV; rw [if_neg aC]; exact aF) c aW
 rw [e] at af;exact af
theorem o_.extra {rs:Place->Prop}(h:o_ P N rs g o g1) {t:Nat}{x:ab}(l9:∀ p,rs p->g p.root≠none) (aO:g t=none) (Vd:g1 t=none) (aw:o.dst≠some t) (J:A5 rs g g1 o x):o_ P N rs (cV g t x) o (cV g1 t x):=by
 intro w I T Fs bl a aP bc K Q dj;have IX:cV g t x t=some x:=by simp [cV]
 have la:∀ z q n m new,x≠.bM z q n m new:=by
  rcases J with ⟨r,path,z,n,N,cs,rfl,_⟩ | ⟨v,rfl⟩ | ⟨s,p,k,rfl,_⟩ | ⟨r,k,cs,rfl,_⟩ | ⟨z,n,cs,rfl,_⟩ | ⟨cs,rfl,_⟩ <;> simp
 have sJ:cG w I T g Fs:=by
  have A9:leaf x=true->cG w I T g Fs:=λvk=>by
   have:=bl.drop IX vk;have e:del (cV g t x) t=g:=by
    funext s;unfold del cV;by_cases aC:s=t
    ·subst aC; simp [aO]
    ·simp [aC]
   rwa [e] at this
  rcases J with ⟨r,path,z,n,N,cs,rfl,_⟩ | ⟨v,rfl⟩ | ⟨s,p,k,rfl,_⟩ | ⟨r,k,cs,rfl,_⟩ | ⟨z,n,cs,rfl,_⟩ | ⟨cs,rfl,ud,ha⟩
  ·exact A9 rfl
  ·exact A9 rfl
  ·exact A9 rfl
  ·exact A9 rfl
  ·exact A9 rfl
  ·obtain ⟨v,_,mV⟩:=bl.rel t _ IX;exact bl.S6 aO ha (ud.kU (mV.gJ (by simp)))
 obtain ⟨v,hv,mV⟩:=bl.rel t x IX;refine h w I T Fs sJ a aP bc K Q λb' w' aF sT Oe=>dj b' w' ?_ sT λr path ao y ax la=>?_
 rotate_left
 ·by_cases N4:r=t
  ·subst N4;exact absurd aO (l9 _ ao)
  ·exact Oe r path ao y (by simpa [bD,cV,N4] using ax) la
 obtain ⟨cz,cf,I',b7,dY,b1⟩:=aF;have ir:b'.tmps[t]?=some v:=by rw [sT t aw,aP]; exact hv
 have jM:jD w' I' (dT w' b'.tmps g1) x v cy:=by
  rcases J with ⟨r,path,z,n,uU,cs,rfl,ao,zu,ku,VB⟩ | ⟨u,rfl⟩ | ⟨s,p,k,rfl,aC,xg,VU⟩ | ⟨r,k,cs,rfl,ku,hk,r9,_⟩ | ⟨z,n,cs,rfl,mY⟩ | ⟨cs,rfl,ud,ha⟩
  ·obtain ⟨⟨aE,iZ,cap,hg,rfl,lC⟩,_⟩:=(mV.gJ (by simp)).nc;exact .tree (.ref rfl ⟨⟨aE,iZ,cap,by rw [Oe r path ao _ zu (by simp)]; exact hg,rfl,lC⟩,.inl ⟨uU,cs,ku,VB⟩⟩ λ_ h=>h)
  ·obtain ⟨rfl,aa⟩:=(mV.gJ (by simp)).hA;exact .tree (.lit aa λ_ h=>h)
  ·obtain ⟨⟨Du,ad,aE,a2,rfl⟩,_⟩:=(mV.gJ (by simp)).nQ;have b1:s≠t:=by rintro rfl; rw [aO] at aC; cases aC
   obtain ⟨u,hu,mU⟩:=sJ.rel s _ aC;obtain ⟨⟨ac0,ZD,hg,iD,rfl⟩,_⟩:=(mU.gJ (by simp)).nQ;rw [aE] at hg;cases hg;rw [a2] at iD;cases iD;obtain ⟨wb,jP,HV⟩:=dY.rel s _ xg;have:b'.tmps[s]?=T[s]?:=by rw [sT s VU,aP]
   rw [this,hu] at jP;cases jP;exact .tree (.ref rfl (HV.gJ (by simp)).nQ λ_ h=>h)
  ·obtain ⟨⟨Du,ad,aE,a2,rfl⟩,_⟩:=(mV.gJ (by simp)).nQ;have dL:b'.tmps[r]?=T[r]?:=by rw [sT r r9,aP]
   have oh:∀ (w:World) (T:Array Value),dW w T ⟨r,[]⟩=T[r]?:=λw T=>by
    unfold dW; simp only; cases T[r]? <;> rfl
   exact .tree (.ref rfl ⟨⟨Du,ad,by rw [oh,dL,<- oh w T]; exact aE,a2,rfl⟩,⟨.obj cs,by simp [bD,ku,ab.at],0,0,cs,.inr rfl,hk⟩⟩ λ_ h=>h)
  ·have sr:∀ c,I c->w'.heap[c]?=w.heap[c]?:=λc aa=>b1.eS.block c (bl.lt c aa) λ⟨t',aQ⟩=>sJ.bm t' c aQ aa;have HS:=(mV.gJ (by simp)).bn mY (ρ':=dT w' b'.tmps g1);have k8:∀ c,¬ Fs t c:=by
    cases mV.gJ (by simp) with
    | ref J=>simp [ab.isRef] at J
    | hF aN=>exact aN
    | bm aN=>exact aN
   exact .tree ((HS.frame sr b1.more (λ_ _ h=>h) λc aa=>absurd aa (k8 c)).empty k8)
  ·have sr:∀ c,I c->w'.heap[c]?=w.heap[c]?:=λc aa=>b1.eS.block c (bl.lt c aa) λ⟨t',aQ⟩=>sJ.bm t' c aQ aa;have k8:=ud.kU (mV.gJ (by simp));have HS:=(mV.gJ (by simp)).bn ud.bn (ρ':=dT w' b'.tmps g1);exact .tree ((HS.frame sr b1.more (λ_ _ h=>h) λc aa=>absurd aa (k8 c)).empty k8)
 have nL:=dY.uC (d:=t) (x:=x) (v:=v) (F:=cy) Vd (Array.getElem?_eq_some_iff.1 ir).1 jM (λ_ _ h=>h.elim) (λ_ h=>h.elim) (λz p n m new e=>absurd e (la _ _ _ _ _));rw [PY ir] at nL;refine ⟨cz,cf,I',_,nL,⟨b1.eS,b1.more,b1.new,λc aa=>?_⟩⟩;rcases wc aa with aQ | aQ
 ·exact b1.own c aQ
 ·exact aQ.elim
theorem iz.frame {g0 HD:aM}{r:Nat}{x:ab}(h:iz P N g0 o HD) (ao:g r=some x) (J:cU x) (hk:hC g g0) (aR:g0 r=none) (h1:HD r=none) (aS:o.dst≠some r):o_ P N (so [r]) g o (cV HD r x):=by
 intro w I T Fs bl a aP bc K Q dj;have sJ:=bl.mE.keep hk;refine h w I T _ sJ a aP bc K Q λb' w' aF sT=>?_;obtain ⟨cz,cf,I',b7,dY,b1⟩:=aF;obtain ⟨u,hu,aZ⟩:=bl.rel r x ao;have jP:b'.tmps[r]?=some u:=by rw [sT r aS,aP]; exact hu
 have la:∀ z q n m new,x≠.bM z q n m new:=by rintro z q n m new rfl; cases J
 have off:∀ c,Fs r c->¬ ∃ t,(g0 t≠none/\Fs t c):=by
  rintro c aa ⟨t,ln,af⟩;have:=bl.eJ t r c af aa;subst this;exact ln aR
 have same:∀ c,Fs r c->w'.heap[c]?=w.heap[c]?:=λc aa=>b1.eS.block c (bl.jZ r c aa) (off c aa);have sr:∀ c,I c->w'.heap[c]?=w.heap[c]?:=λc aa=>b1.eS.block c (bl.lt c aa) λ⟨t,_,aQ⟩=>bl.bm t c aQ aa;have nL:=dY.uC (d:=r) (x:=x) (v:=u) (F:=Fs r) h1 (Array.getElem?_eq_some_iff.1 jP).1 (.tree (((aZ.gJ la).bn J).frame sr b1.more (λ_ _ h=>h) same)) (λt c aa aW=>by
   rcases b1.own c ⟨t,aW⟩ with aQ | aQ
   ·exact off c aa aQ
   ·have:=bl.jZ r c aa; omega) (λc aa hi=>by
   rcases b1.new c hi with aQ | aQ | aQ
   ·exact bl.bm r c aa aQ
   ·exact off c aa aQ
   ·have:=bl.jZ r c aa; omega) (λz p n m new e=>absurd e (la _ _ _ _ _))
 rw [PY jP] at nL;refine dj b' w' ⟨cz,cf,I',_,nL,⟨b1.eS.mono λb _ ⟨t,_,aQ⟩=>⟨t,aQ⟩,b1.more,λc aa=>?_,λc aa=>?_⟩⟩ sT λdm path ec y ax hyp=>?_
 ·rcases b1.new c aa with aQ | ⟨t,_,aQ⟩ | aQ
  ·exact .inl aQ
  ·exact .inr (.inl ⟨t,aQ⟩)
  ·exact .inr (.inr aQ)
 ·rcases wc aa with aQ | aQ
  ·rcases b1.own c aQ with ⟨t,_,jb⟩ | jb
   ·exact .inl ⟨t,jb⟩
   ·exact .inr jb
  ·exact .inl ⟨r,aQ⟩
 ·have ec:dm∈[r]:=ec;simp only [List.mem_singleton] at ec;subst ec;have hb:hC g (λt=>if t=dm then some x else none):=by
   refine ⟨λt y hy=>?_,λt y hy=>?_,λt z q n m new hy=>?_⟩
   all_goals
    by_cases e:t=dm
    case neg=>simp [e] at hy
   ·subst e; simp at hy; subst hy; exact ao
   ·subst e; simp at hy; subst hy; exact .bn J
   ·subst e; simp at hy; exact la _ _ _ _ _ hy
  refine (bl.mE.keep hb).yp (T':=b'.tmps) (λt aw=>?_) (λt c aa=>?_) (p:=⟨dm,path⟩) (y:=y) ?_
  ·by_cases e:t=dm
   ·subst e; rw [sT t aS,aP]
   ·simp [e] at aw
  ·by_cases e:t=dm
   ·subst e; exact same c aa.2
   ·simp [e] at aa
  ·simp only [bD,if_true];simpa [bD,ao] using ax
end
end Go.Own
namespace Go.Own
open Go
abbrev Acc:=List (Nat × Nat × Option ab)
def dh (g0:aM) (A:Nat->Bool):Acc->aM
 | [],t=>g0 t
 | (k,d,r)::acc,t=>if d=t then (if A k then r else none) else dh g0 A acc t
def j0:Nat × Nat × Option ab->Option Place
 | (_,_,some (.bM _ p _ _ _))=>some p
 | _=>none
def pf (ops:Array Oper) (bd:List (List Nat)):Bool :=
 (List.range ops.size).all λk =>
  match ops[k]? with
  | none=>true
  | some o=>(o.after.all λe=>!Region.binds .any e||decide (e.on<k))&&(bd.getD k []).all λm=>decide (m<k)&&o.after.any λe=>Region.binds .any e&&(e.on == m||(bd.getD e.on []).contains m)
inductive iM (P:Program) (N:c6) (ops:Array Oper) (bd:List (List Nat)) (g0:aM) (i:Nat) (dV:Acc):Nat->Acc->Prop
 | nil:iM P N ops bd g0 i dV i dV
 | step {j:Nat}{acc:Acc}{o:Oper}{d:Nat}{r:Option ab}(h:iM P N ops bd g0 i dV j acc) (a1:ops[j]?=some o) (aS:o.dst=some d) (aO:g0 d=none) (aF:∀ e∈acc,e.2.1≠d) (jO:N.ok d=true)
   (aC:qb P (dh g0 (λm=>(bd.getD j []).contains m) acc) ops o r):iM P N ops bd g0 i dV (j+1) ((j,d,r)::acc)
structure mL (P:Program) (N:c6) (ops:Array Oper) (bd:List (List Nat)) (g0:aM) (i:Nat) (dV:Acc):Prop where
 lt:∀ e∈dV,e.1<i
 free:∀ e∈dV,g0 e.2.1=none
 nd:(dV.map (·.2.1)).Nodup
 Qp:∀ e∈dV,∀ cj∈dV,(e.1=cj.1\/e.2.1=cj.2.1)->e=cj
 st:∀ e∈dV,∃ gj,ops[e.1]?=some gj/\gj.dst=some e.2.1/\N.ok e.2.1=true/\qb P (dh g0 (λm=>(bd.getD e.1 []).contains m) dV) ops gj e.2.2
theorem mL.nil {P:Program}{N:c6}{ops:Array Oper}{bd:List (List Nat)}{g0:aM}{i:Nat}:mL P N ops bd g0 i []:=⟨by simp,by simp,by simp,by simp,by simp⟩
inductive sy (P:Program) (N:c6) (ops:Array Oper) (bd:List (List Nat)):Nat->Acc->aM->aM->Prop
 | fin {i:Nat}{dV:Acc}{g:aM}{acc:Acc}(aC:iM P N ops bd g i dV ops.size acc) (gR:(acc.filterMap j0).Nodup) (fH:∀ t z q n m new,g t≠some (.bM z q n m new)):sy P N ops bd i dV g (dh g (λ_=>true) acc)
 | wD {i j:Nat}{g g1 g':aM}{dV acc U:Acc}{o:Oper}{rs:Place->Prop}(aC:iM P N ops bd g i dV j acc) (gR:(acc.filterMap j0).Nodup) (fH:∀ t z q n m new,g t≠some (.bM z q n m new)) (a1:ops[j]?=some o) (hw:iB (dh g (λm=>(bd.getD j []).contains m) acc) ops o true)
   (he:o_ P N rs (dh g (λm=>(bd.getD j []).contains m) acc) o g1) (l9:∀ p,rs p->g p.root≠none) (ga:U=acc.filter λe=>!(bd.getD j []).contains e.1) (J:∀ e∈U,∃ x,e.2.2=some x/\A5 rs (dh g (λm=>(bd.getD j []).contains m) acc) g1 o x) (h1:∀ e∈U,g1 e.2.1=none/\o.dst≠some e.2.1)
   (af:∀ e∈U,∃ gj,ops[e.1]?=some gj/\gj.dst=some e.2.1/\N.ok e.2.1=true/\qb P (dh g1 (λm=>(bd.getD e.1 []).contains m) U) ops gj e.2.2)
   (av:(List.range ops.size).all (λk=>decide (k<=j)||(bd.getD k []).contains j)=true) (ao:sy P N ops bd (j+1) U g1 g'):sy P N ops bd i dV g g'
theorem mF {g0:aM}{A:Nat->Bool}{acc:Acc}{t:Nat}(h:∀ e∈acc,e.2.1≠t):dh g0 A acc t=g0 t:=by
 induction acc with
 | nil=>rfl
 | cons e acc aU =>
  grind [dh]
theorem uM {g0:aM}{A:Nat->Bool}{acc:Acc}{t:Nat}{x:ab}(h:dh g0 A acc t=some x):(∃ e∈acc,e.2.1=t/\A e.1=true/\e.2.2=some x)\/((∀ e∈acc,e.2.1≠t)/\g0 t=some x):=by
 induction acc with
 | nil=>exact .inr ⟨by simp,h⟩
 | cons e acc aU =>
  grind [dh]
theorem KL {g:aM}{A:Nat->Bool}{acc:Acc}(hu:∀ e∈acc,∀ cj∈acc,e.2.1=cj.2.1->e=cj) {e:Nat × Nat × Option ab}(he:e∈acc):dh g A acc e.2.1=if A e.1 then e.2.2 else none:=by
 induction acc with
 | nil=>cases he
 | cons a acc aU =>
  grind [dh]
section
variable {P:Program}{N:c6}{ops:Array Oper}{bd:List (List Nat)}{g0:aM}{i:Nat}
variable {dV:Acc}
theorem iM.le {j:Nat}{acc:Acc}(h:iM P N ops bd g0 i dV j acc) (ga:mL P N ops bd g0 i dV):i<=j/\∀ e∈acc,e.1<j:=by
 induction h with
 | nil=>exact ⟨Nat.le_refl _,ga.lt⟩
 | step _ _ _ _ _ _ _ aU =>
  grind
theorem iM.ge {j:Nat}{acc:Acc}(h:iM P N ops bd g0 i dV j acc) (ga:mL P N ops bd g0 i dV):∀ e∈acc,e∈dV\/i<=e.1:=by
 induction h with
 | nil=>exact λe he=>.inl he
 | step aC _ _ _ _ _ _ aU =>
  intro e he;rcases List.mem_cons.1 he with rfl | he
  ·exact .inr (aC.le ga).1
  grind
theorem iM.KC {j:Nat}{acc:Acc}(h:iM P N ops bd g0 i dV j acc):∀ e∈dV,e∈acc:=by
 induction h with
 | nil=>exact λe he=>he
 | step _ _ _ _ _ _ _ aU=>exact λe he=>by simp [aU e he]
theorem iM.fresh {j:Nat}{acc:Acc}(h:iM P N ops bd g0 i dV j acc) (ga:mL P N ops bd g0 i dV):∀ e∈acc,g0 e.2.1=none:=by
 induction h with
 | nil=>exact ga.free
 | step _ _ _ aO _ _ _ aU =>
  grind
theorem iM.nodup {j:Nat}{acc:Acc}(h:iM P N ops bd g0 i dV j acc) (ga:mL P N ops bd g0 i dV):(acc.map (·.2.1)).Nodup:=by
 induction h with
 | nil=>exact ga.nd
 | step _ _ _ _ aF _ _ aU =>
  grind
theorem iM.uniq {j:Nat}{acc:Acc}(h:iM P N ops bd g0 i dV j acc) (ga:mL P N ops bd g0 i dV):∀ {e cj:Nat × Nat × Option ab},e∈acc->cj∈acc->(e.1=cj.1\/e.2.1=cj.2.1)->e=cj:=by
 induction h with
 | nil=>exact λ{e cj} he h8 bY=>ga.Qp e he cj h8 bY
 | @step j acc o d r aC _ _ _ aF _ _ aU =>
  intro e cj he h8 bY;rcases List.mem_cons.1 he with rfl | he <;> rcases List.mem_cons.1 h8 with rfl | h8
  ·rfl
  ·rcases bY with bY | bY
   ·have:=(aC.le ga).2 cj h8
    grind
   grind
  ·rcases bY with bY | bY
   ·have:=(aC.le ga).2 e he
    grind
   grind
  grind
theorem iM.at_mem {j:Nat}{acc:Acc}(h:iM P N ops bd g0 i dV j acc) (ga:mL P N ops bd g0 i dV) {A:Nat->Bool}{e:Nat × Nat × Option ab}(he:e∈acc):dh g0 A acc e.2.1=if A e.1 then e.2.2 else none :=
 KL (λ_ J _ ax aQ=>h.uniq ga J ax (.inr aQ)) he
theorem iM.get {j:Nat}{acc:Acc}(h:iM P N ops bd g0 i dV j acc) (ga:mL P N ops bd g0 i dV):∀ e∈acc,∃ o D1,ops[e.1]?=some o/\o.dst=some e.2.1/\N.ok e.2.1=true/\qb P (dh g0 (λm=>(bd.getD e.1 []).contains m) D1) ops o e.2.2/\∀ e∈D1,e∈acc:=by
 induction h with
 | nil =>
  intro e he;obtain ⟨gj,h1,af,aI,bK⟩:=ga.st e he
  grind
 | @step j acc o d r aC a1 aS aO aF jO b1 aU =>
  intro e he;rcases List.mem_cons.1 he with rfl | he
  ·grind
  grind
theorem iM.has {j:Nat}{acc:Acc}(h:iM P N ops bd g0 i dV j acc):∀ k,i<=k->k<j->∃ e∈acc,e.1=k:=by
 induction h with
 | nil=>intro k h1 af; omega
 | @step j acc o d r aC a1 aS aO aF jO b1 aU =>
  grind [List.mem_cons_self]
theorem XH {acc:Acc}(gR:(acc.filterMap j0).Nodup) {e cj:Nat × Nat × Option ab}{p:Place}(he:e∈acc) (h8:cj∈acc) (h:j0 e=some p) (aQ:j0 cj=some p):e=cj:=by
 induction acc with
 | nil=>simp at he
 | cons a acc aU =>
  grind
def dQ (listed:Array Bool) (k:Nat):Bool:=listed.getD k false
def hn (ops:Array Oper) (listed:Array Bool):Nat:=((List.range ops.size).filter λk=>!dQ listed k).length
theorem wO {listed:Array Bool}{k:Nat}(hk:k<ops.size) (ak:dQ listed k=false) (fX:listed.size=ops.size):hn ops (listed.setIfInBounds k true)+1<=hn ops listed:=by
 unfold hn;have key:∀ l:List Nat,l.Nodup->((l.filter λj=>!dQ (listed.setIfInBounds k true) j).length+if k∈l then 1 else 0)=(l.filter λj=>!dQ listed j).length:=by
  intro l
  induction l with
  | nil=>intro _; simp
  | cons j l aU =>
   intro ft;have VC:=List.nodup_cons.1 ft;have acL:=aU VC.2;by_cases gV:j=k
   ·simp_all [dQ]
   ·have h1:dQ (listed.setIfInBounds k true) j=dQ listed j:=by simp [dQ,Array.getElem?_setIfInBounds_ne (Ne.symm gV)]
    grind
 grind
end
end Go.Own
namespace Go.Own
open Go
section
variable {P:Program}{N:c6}{ops:Array Oper}{bd:List (List Nat)}
def Down (bd:List (List Nat)) (listed:Array Bool):Prop:=∀ k,dQ listed k=true->∀ m∈bd.getD k [],dQ listed m=true
theorem Lx (h:pf ops bd=true) {k:Nat}{o:Oper}(a1:ops[k]?=some o) :
  (∀ e∈o.after,Region.binds .any e=true->e.on<k)/\∀ m∈bd.getD k [],m<k/\∃ e∈o.after,Region.binds .any e=true/\(e.on=m\/m∈bd.getD e.on []):=by
 grind [pf,Array.all_eq_true_iff_forall_mem]
theorem x_ {listed:Array Bool}{k:Nat}(h:k∈Region.ready .any ops listed):dQ listed k=false/\∃ o,ops[k]?=some o/\∀ e∈o.after,Region.binds .any e=true->dQ listed e.on=true:=by
 grind [mem_ready,dQ]
theorem Kc (et:pf ops bd=true) {listed:Array Bool}(aS:Down bd listed) {k:Nat}(h:k∈Region.ready .any ops listed):∀ m∈bd.getD k [],dQ listed m=true:=by
 obtain ⟨_,o,a1,af⟩:=x_ h;intro m hm;obtain ⟨_,e,he,av,aI⟩:=(Lx et a1).2 m hm;rcases aI with rfl | aI
 ·grind
 ·exact aS e.on (af e he av) m aI
theorem Pv (et:pf ops bd=true) {listed:Array Bool}(fX:listed.size=ops.size):∀ k,k<ops.size->dQ listed k=false->Region.ready .any ops listed≠[]:=by
 intro k
 induction k using Nat.strongRecOn with
 | _ k aU =>
  intro hk ak;by_cases hex:∃ j,j<k/\dQ listed j=false
  ·grind
  ·have nI:k∈Region.ready .any ops listed:=by
    refine mem_ready.2 ⟨?_,ops[k],Array.getElem?_eq_getElem hk,λe he av=>?_⟩
    ·grind [dQ]
    ·have aT:=(Lx et (Array.getElem?_eq_getElem hk)).1 e he av
     grind [dQ]
   grind
theorem Dv {g0:aM}{A B:Nat->Bool}{acc:Acc}{t:Nat}(h:∀ e∈acc,e.2.1=t->A e.1=B e.1):dh g0 A acc t=dh g0 B acc t:=by
 induction acc with
 | nil=>rfl
 | cons e acc aU =>
  grind [dh]
theorem DR {listed:Array Bool}{k j:Nat}(hk:k<listed.size):dQ (listed.setIfInBounds k true) j=if j=k then true else dQ listed j:=by
 by_cases gV:j=k
 all_goals simp_all [dQ,Ne.symm]
theorem Zh {g0:aM}{i j:Nat}{acc U dV:Acc}(aC:iM P N ops bd g0 i dV j acc) (cx:mL P N ops bd g0 i dV) {A S:Nat->Bool}(ga:U=acc.filter λe=>!A e.1) (TZ:∀ e∈acc,A e.1=true->S e.1=true):dh g0 S acc=dh (dh g0 A acc) S U:=by
 subst ga;funext t;by_cases hex:∃ e∈acc,e.2.1=t
 ·obtain ⟨e,he,rfl⟩:=hex;rw [aC.at_mem cx he];by_cases et:A e.1=true
  ·rw [mF,aC.at_mem cx he,if_pos et,if_pos (TZ e he et)];intro cj h8 h;obtain ⟨h1,af⟩:=List.mem_filter.1 h8;have:=aC.uniq cx h1 he (.inr h)
   grind
  ·rw [KL (λx J y ax h=>aC.uniq cx (List.mem_filter.1 J).1 (List.mem_filter.1 ax).1 (.inr h)) (List.mem_filter.2 ⟨he,by simpa using et⟩)]
 grind [mF]
theorem di.mono {g g':aM}(aO:∀ t x,g t=some x->g' t=some x) {x:ab}(h:di g x):di g' x:=by
 induction h with
 | bn h=>exact .bn h
 | ref J h=>exact .ref J (h.mono aO)
 | own _ aU=>exact .own aU
 | obj _ aU=>exact .obj aU
 | agg _ aU=>exact .agg aU
 | bW _ aU=>exact .bW aU
 | cW _ _ gA gi=>exact .cW gA gi
 | bM au _ aU=>exact .bM (au.mono aO) aU
theorem Mt {mS g1:aM}{o:Oper}{S:Nat->Bool}{rs:Place->Prop}(h:o_ P N rs mS o g1) (l9:∀ p,rs p->mS p.root≠none):∀ (U:Acc),(∀ e∈U,∃ x,e.2.2=some x/\A5 rs mS g1 o x)->(∀ e∈U,mS e.2.1=none/\g1 e.2.1=none/\o.dst≠some e.2.1)->(U.map (·.2.1)).Nodup->o_ P N rs (dh mS S U) o (dh g1 S U)
 | [],_,_,_=>h
 | (k,d,r)::U,J,h1,ft=>by
  simp only [List.map_cons,List.nodup_cons] at ft;have aU:=Mt (S:=S) h l9 U (λe he=>J e (by simp [he])) (λe he=>h1 e (by simp [he])) ft.2;obtain ⟨x,e,b1⟩:=J (k,d,r) (by simp);simp only at e;subst e;obtain ⟨aE,a2,a3⟩:=h1 (k,d,some x) (by simp);simp only at aE a2 a3;have r8:∀ e∈U,e.2.1≠d:=λe he aQ=>ft.1 (List.mem_map.2 ⟨e,he,aQ⟩);cases bl:S k with
  | true =>
   have e:∀ g:aM,dh g S ((k,d,some x)::U)=cV (dh g S U) d x:=λg=>by
    funext t;simp only [dh,cV,bl,if_true];by_cases aS:d=t
    ·rw [if_pos aS,if_pos aS.symm]
    ·rw [if_neg aS,if_neg (Ne.symm aS)]
   rw [e,e];have Fw:∀ r,mS r≠none->∀ e∈U,e.2.1≠r:=λr ao e he aQ=>by
    have:=(h1 e (by simp [he])).1;rw [aQ] at this;exact ao this
   have Xq:∀ r,g1 r≠none->∀ e∈U,e.2.1≠r:=λr ao e he aQ=>by
    have:=(h1 e (by simp [he])).2.1;rw [aQ] at this;exact ao this
   refine aU.extra (λr ao=>by rw [mF (Fw r.root (l9 r ao))]; exact l9 r ao) (by rw [mF r8]; exact aE) (by rw [mF r8]; exact a2) a3 ?_;rcases b1 with ⟨r,path,z,n,uU,cs,rfl,hg,iD,lC,D6⟩ | ⟨v,rfl⟩ | ⟨s,p,m,rfl,hg,iD,lC⟩ | ⟨s,m,cs,rfl,hg,iD,lC,cs',D6,RO⟩ | ⟨z,n,cs,rfl,hg⟩ | ⟨cs,rfl,hg,iD⟩
   ·refine .inl ⟨r,path,z,n,uU,cs,rfl,hg,?_,?_,D6⟩
    ·have:mS r≠none:=l9 _ hg;simpa [bD,mF (Fw r this)] using iD
    ·have:g1 r≠none:=λe=>by simp [bD,e] at lC
     simpa [bD,mF (Xq r this)] using lC
   ·exact .inr (.inl ⟨v,rfl⟩)
   ·refine .inr (.inr (.inl ⟨s,p,m,rfl,?_,?_,lC⟩))
    ·rw [mF]; exact hg;intro e he aQ;have:=(h1 e (by simp [he])).1;rw [aQ,hg] at this; cases this
    ·rw [mF]; exact iD;intro e he aQ;have:=(h1 e (by simp [he])).2.1;rw [aQ,iD] at this; cases this
   ·refine .inr (.inr (.inr (.inl ⟨s,m,cs,rfl,?_,iD,lC,cs',?_,RO⟩)))
    ·rw [mF]; exact hg;intro e he aQ;have:=(h1 e (by simp [he])).2.1;rw [aQ,hg] at this; cases this
    ·rw [mF (Fw s (by rw [D6]; simp))]; exact D6
   ·exact .inr (.inr (.inr (.inr (.inl ⟨z,n,cs,rfl,hg⟩))))
   ·refine .inr (.inr (.inr (.inr (.inr ⟨cs,rfl,hg,?_⟩))));have hle:∀ t y,mS t=some y->dh mS S U t=some y:=λt y ax=>by rw [mF (Fw t (by rw [ax]; simp))]; exact ax
    refine ⟨λt y ax=>?_,λt z q n m new ax=>?_⟩
    ·rcases uM ax with ⟨cj,h8,_,_,Im⟩ | ⟨_,ax⟩
     ·obtain ⟨y',Bl,B8⟩:=J cj (by simp [h8]);rw [Im] at Bl; cases Bl;rcases B8 with ⟨r,path,z,n,uU,cs,rfl,c1,c2,jU,c4⟩ | ⟨v,rfl⟩ | ⟨s,p,m,rfl,c1,_⟩ | ⟨s,m,cs,rfl,_,_,_,cs',c4,kI⟩ | ⟨z,n,cs,rfl,c1⟩ | ⟨cs,rfl,c1,_⟩
      ·exact .ref rfl (.inl ⟨uU,cs,kH hle c2,c4⟩)
      ·exact .bn .lit
      ·exact di.mono hle (iD.bS s _ c1)
      ·exact .ref rfl ⟨.obj cs',by simp [bD,hle s _ c4,ab.at],0,0,cs',.inr rfl,kI⟩
      ·exact .bn c1
      ·exact .bn c1.bn
     ·exact di.mono hle (iD.bS t y ax)
    ·rcases uM ax with ⟨cj,h8,_,_,Im⟩ | ⟨_,ax⟩
     ·obtain ⟨y',Bl,B8⟩:=J cj (by simp [h8]);rw [Im] at Bl; cases Bl;rcases B8 with ⟨r,path,z,n,uU,cs,h,_⟩ | ⟨v,h⟩ | ⟨s,p,m,h,_⟩ | ⟨s,m,cs,h,_⟩ | ⟨z,n,cs,h,_⟩ | ⟨cs,h,_⟩ <;> cases h
     ·exact iD.fA _ _ _ _ _ _ ax
  | false =>
   have e:∀ g:aM,g d=none->dh g S ((k,d,some x)::U)=dh g S U:=λg aO=>by
    funext t;simp only [dh,bl];by_cases aS:d=t
    ·subst aS; rw [if_pos rfl,mF r8,aO]; rfl
    ·rw [if_neg aS]
   rw [e mS aE,e g1 a2];exact aU
theorem Pt (et:pf ops bd=true) {g0:aM}{i j:Nat}{acc dV:Acc}(aC:iM P N ops bd g0 i dV j acc) (cx:mL P N ops bd g0 i dV) (gR:(acc.filterMap j0).Nodup) (fH:∀ t z q n m new,g0 t≠some (.bM z q n m new)) {listed:Array Bool}(fX:listed.size=ops.size) (aS:Down bd listed)
  {a:Act}{w:World}{I:bb}{Fs:Nat->bb}(bl:cG w I a.tmps (dh g0 (dQ listed) acc) Fs) (bc:a.tmps.size=N.size) {e:Nat × Nat × Option ab}(he:e∈acc) (hk:e.1∈Region.ready .any ops listed) {K:Act->World->Prop}{Q:Exit->Act->World->Prop}
  (dj:∀ b' w' I' b7,b'.defers=a.defers->hB N a.tmps b'.tmps->cG w' I' b'.tmps (dh g0 (dQ (listed.setIfInBounds e.1 true)) acc) b7->ko w I (λc=>∃ t,Fs t c) w' I' (λc=>∃ t,b7 t c)->K b' w'):wpOp P ops Q e.1 K a w:=by
 obtain ⟨fy,lk,xf,_⟩:=x_ hk;have zo:=(Array.getElem?_eq_some_iff.1 xf).1;have BE:=Kc et aS hk;obtain ⟨o,D1,a1,EG,jO,b1,gI⟩:=aC.get cx e he;obtain ⟨k,d,r⟩:=e;simp only at *;have hle:oC (dh g0 (λm=>(bd.getD k []).contains m) D1) (dh g0 (dQ listed) acc):=by
  intro t x J;rcases uM J with ⟨e,he,rfl,Ep,hex⟩ | ⟨r8,aO⟩
  ·rw [aC.at_mem cx (gI e he),BE e.1 (by simpa using Ep)];exact hex
  ·rw [mF λe he ab8=>?_]
   ·exact aO
   ·have:=aC.fresh cx e he
    grind
 have e9:∀ z p n m new,r=some (.bM z p n m new)->∀ t bE cF m' c5,dh g0 (dQ listed) acc t≠some (.bM bE p cF m' c5):=by
  intro z p n m new ao t bE cF m' c5 aw;rcases uM aw with ⟨e,h8,_,Ep,hex⟩ | ⟨_,aO⟩
  ·obtain ⟨kT,Mi,dm⟩:=e;have:=XH gR (p:=p) he h8 (by rw [ao]; rfl) (by simp only at hex; rw [hex]; rfl)
   grind
  grind
 have B8:=b1.mono hle e9;have vh:dh g0 (dQ listed) acc d=none:=by
  have:=aC.at_mem cx (A:=dQ listed) he
  grind
 unfold wpOp;simp only [a1];refine B8.sound bl rfl bc EG vh jO λb' w' aF=>?_;obtain ⟨cz,cf,I',b7,dY,qv⟩:=aF;have h6:∀ j,dQ (listed.setIfInBounds k true) j=if j=k then true else dQ listed j:=λj=>DR (by omega)
 have c_:dh g0 (dQ (listed.setIfInBounds k true)) acc=x8 (dh g0 (dQ listed) acc) d r:=by
  funext t;by_cases vp:t=d
  ·subst vp;have h1:=aC.at_mem cx (A:=dQ (listed.setIfInBounds k true)) he;simp only [h6 k,if_true] at h1;rw [h1];cases r with
   | none=>simp only [x8]; exact vh.symm
   | some x=>simp [x8,cV]
  ·have h1:dh g0 (dQ (listed.setIfInBounds k true)) acc t=dh g0 (dQ listed) acc t:=Dv λe h8 het=>by
    rw [h6 e.1,if_neg];intro Vb;have:=aC.uniq cx h8 he (.inl Vb)
    grind
   rw [h1];cases r with
   | none=>rfl
   | some x=>simp [x8,cV,vp]
 grind
theorem Ho (et:pf ops bd=true) {listed:Array Bool}(fX:listed.size=ops.size) (aS:Down bd listed) {k:Nat}(hk:k∈Region.ready .any ops listed):Down bd (listed.setIfInBounds k true):=by
 obtain ⟨fy,lk,xf,_⟩:=x_ hk;have zo:=(Array.getElem?_eq_some_iff.1 xf).1;have BE:=Kc et aS hk;have h6:∀ q,dQ (listed.setIfInBounds k true) q=if q=k then true else dQ listed q:=λq=>DR (by omega)
 intro m hm q bg;rw [h6] at hm ⊢;split
 ·rfl
 ·split at hm
  ·grind
  ·exact aS m hm q bg
theorem iM.entry {g0:aM}{i j:Nat}{acc dV:Acc}(aC:iM P N ops bd g0 i dV j acc) {listed:Array Bool}(aT:∀ k,k<i->(∀ e∈dV,e.1≠k)->dQ listed k=true) {k:Nat}(ED:k<j) (fy:dQ listed k=false):∃ e∈acc,e.1=k:=by
 rcases Nat.lt_or_ge k i with h | h
 ·rcases Classical.em (∃ e∈dV,e.1=k) with ⟨e,he,aQ⟩ | aQ
  ·exact ⟨e,aC.KC e he,aQ⟩
  grind
 ·exact aC.has k h ED
theorem sy.sound (et:pf ops bd=true) {i:Nat}{dV:Acc}{g g':aM}(h:sy P N ops bd i dV g g'):mL P N ops bd g i dV->∀ {Q:Exit->Act->World->Prop}(fuel:Nat) (listed:Array Bool) (a:Act) (w:World) (I:bb) (Fs:Nat->bb),hn ops listed<=fuel->listed.size=ops.size->(∀ k,k<i->(∀ e∈dV,e.1≠k)->dQ listed k=true)->(∀ k,i<=k->dQ listed k=false)->Down bd listed ->
  cG w I a.tmps (dh g (dQ listed) dV) Fs->a.tmps.size=N.size->(∀ b' w',h5 N a w I Fs g' b' w'->Q .normal b' w')->wpAny P .any ops Q fuel listed a w:=by
 have start:∀ {g:aM}{i j:Nat}{acc dV:Acc}{listed:Array Bool},iM P N ops bd g i dV j acc->mL P N ops bd g i dV->(∀ k,i<=k->dQ listed k=false)->dh g (dQ listed) acc=dh g (dQ listed) dV:=by
  intro g i j acc dV listed aC cx dU;funext t;by_cases hex:∃ e∈acc,e.2.1=t
  ·obtain ⟨e,he,rfl⟩:=hex;rw [aC.at_mem cx he];rcases aC.ge cx e he with h | h
   ·rw [KL (λx J y ax aQ=>cx.Qp x J y ax (.inr aQ)) h]
   ·rw [dU e.1 h];by_cases NC:∃ cj∈dV,cj.2.1=e.2.1
    ·obtain ⟨cj,h8,aQ⟩:=NC;have:=aC.uniq cx (aC.KC cj h8) he (.inr aQ);subst this;have:=cx.lt cj h8;omega
    ·rw [mF λcj h8 aQ=>NC ⟨cj,h8,aQ⟩,aC.fresh cx e he]; rfl
  ·rw [mF λe he h=>hex ⟨e,he,h⟩,mF λe he h=>hex ⟨e,aC.KC e he,h⟩]
 induction h with
 | @fin i dV g acc aC gR fH =>
  intro cx Q fuel listed a w I Fs aa fX aT dU aS bl bc dO;rw [<- start aC cx dU] at bl;clear dU;revert listed a w I Fs
  induction fuel with
  | zero =>
   intro listed a w I Fs aa fX aT aS bl bc dO;have hN:∀ k,k<ops.size->dQ listed k=true:=λk hk=>by
    cases ak:dQ listed k with
    | true=>rfl
    | false=>have:=wO (ops:=ops) (listed:=listed) (k:=k) hk ak fX; omega
   refine wpAny_done ?_ (dO _ _ ⟨rfl,hB.refl,I,Fs,?_,ko.refl _ _ _⟩) 0
   ·cases ao:Region.ready .any ops listed with
    | nil=>rfl
    | cons k l =>
     have hk:k∈Region.ready .any ops listed:=by rw [ao]; simp
     obtain ⟨fy,o,a1,_⟩:=x_ hk
     grind
   ·have:dh g (dQ listed) acc=dh g (λ_=>true) acc:=funext λt=>Dv λe he _=>hN e.1 ((aC.le cx).2 e he)
    grind
  | succ fuel aU =>
   intro listed a w I Fs aa fX aT aS bl bc dO;by_cases hN:∀ k,k<ops.size->dQ listed k=true
   ·refine wpAny_done ?_ (dO _ _ ⟨rfl,hB.refl,I,Fs,?_,ko.refl _ _ _⟩) _
    ·cases ao:Region.ready .any ops listed with
     | nil=>rfl
     | cons k l =>
      have hk:k∈Region.ready .any ops listed:=by rw [ao]; simp
      obtain ⟨fy,o,a1,_⟩:=x_ hk
      grind
    ·have:dh g (dQ listed) acc=dh g (λ_=>true) acc:=funext λt=>Dv λe he _=>hN e.1 ((aC.le cx).2 e he)
     grind
   ·obtain ⟨k0,lL⟩:=Classical.not_forall.1 hN;obtain ⟨Vn,Vo⟩:=Classical.not_imp.1 lL;refine ⟨λao=>absurd ao (Pv et fX k0 Vn (by simpa using Vo)),λk hk=>?_⟩;obtain ⟨fy,lk,xf,_⟩:=x_ hk;have zo:=(Array.getElem?_eq_some_iff.1 xf).1;obtain ⟨e,he,rfl⟩:=aC.entry aT zo fy;have U5:=wO (ops:=ops) (listed:=listed) (k:=e.1) zo fy fX;refine Pt et aC cx gR fH fX aS bl bc he hk λb' w' I' b7 cz cf dY qv=>?_;refine aU _ b' w' I' b7 (by omega) (by simpa using fX) (λm hm dq=>?_) (Ho et fX aS hk) dY (cf.1.trans bc) λa2 hr af=>dO _ _ (h5.trans cz cf qv af)
    grind [DR]
 | @wD i j g g1 g' dV acc U o rs aC gR fH a1 hw he l9 ga J h1 af av _ WQ =>
  intro cx Q fuel listed a w I Fs aa fX aT dU aS bl bc dO;have EC:j<ops.size:=(Array.getElem?_eq_some_iff.1 a1).1;have w4:∀ k,j<k->k<ops.size->j∈bd.getD k []:=λk hk zo=>by
   grind
  have BR:∀ e∈U,e∈acc/\(bd.getD j []).contains e.1=false:=λe he=>by
   grind
  have ft:(U.map (·.2.1)).Nodup:=by
   rw [ga];exact (List.filter_sublist.map _).nodup (aC.nodup cx)
  have Ve:∀ e∈U,dh g (λm=>(bd.getD j []).contains m) acc e.2.1=none:=λe he=>by
   rw [aC.at_mem cx (BR e he).1,(BR e he).2];rfl
  have By:mL P N ops bd g1 (j+1) U:=⟨λe he=>by have:=(aC.le cx).2 e (BR e he).1; omega,λe he=>(h1 e he).1,ft,λe he cj h8 h=>aC.uniq cx (BR e he).1 (BR cj h8).1 h,af⟩;have aca:∀ k,j<=k->dQ listed k=false:=λk hk=>dU k (Nat.le_trans (aC.le cx).1 hk);rw [<- start aC cx dU] at bl;clear dU;revert listed a w I Fs
  induction fuel with
  | zero =>
   intro listed a w I Fs aa fX aT aS bl bc dO dU;have:=wO (ops:=ops) (listed:=listed) (k:=j) EC (dU j (Nat.le_refl _)) fX;omega
  | succ fuel WO =>
   intro listed a w I Fs aa fX aT aS bl bc dO dU;have eZ:=dU j (Nat.le_refl _);refine ⟨λao=>absurd ao (Pv et fX j EC eZ),λk hk=>?_⟩;obtain ⟨fy,lk,xf,_⟩:=x_ hk;have zo:=(Array.getElem?_eq_some_iff.1 xf).1;have BE:=Kc et aS hk;have h6:∀ q,dQ (listed.setIfInBounds k true) q=if q=k then true else dQ listed q:=λq=>DR (by omega)
   have U5:=wO (ops:=ops) (listed:=listed) (k:=k) (by omega) fy fX;rcases Nat.lt_trichotomy k j with ED | rfl | ED
   ·obtain ⟨e,NB,rfl⟩:=aC.entry aT ED fy;refine Pt et aC cx gR fH fX aS bl bc NB hk λb' w' I' b7 cz cf dY qv=>?_;refine WO _ b' w' I' b7 (by omega) (by simpa using fX) (λm hm dq=>?_) (Ho et fX aS hk) dY (cf.1.trans bc) (λa2 hr af=>dO _ _ (h5.trans cz cf qv af)) λm hm=>?_
    ·grind
    grind
   ·have Tf:=Zh (A:=λm=>(bd.getD k []).contains m) (S:=dQ listed) aC cx ga λe he et=>BE e.1 (by simpa using et);have VQ:∀ r:Place,rs r->dh g (λm=>(bd.getD k []).contains m) acc r.root≠none:=λr ao=>by
     rw [mF]
     ·grind
     ·intro e he aQ;have:=aC.fresh cx e he
      grind
    have Va:=Mt (S:=dQ listed) he VQ U J (λe he=>⟨Ve e he,h1 e he⟩) ft;have hle:oC (dh g (λm=>(bd.getD k []).contains m) acc) (dh g (dQ listed) acc):=by
     intro t x J;rcases uM J with ⟨e,he,rfl,Ep,hex⟩ | ⟨r8,aO⟩
     ·rw [aC.at_mem cx he,BE e.1 (by simpa using Ep)]; exact hex
     grind [mF]
    unfold wpOp;simp only [a1,(iB.mono hle hw).sound bl,if_true];refine .inl (Va w I a.tmps Fs (by rw [<- Tf]; exact bl) a rfl bc _ _ λb' w' aF _ _=>?_);obtain ⟨cz,cf,I',b7,dY,qv⟩:=aF;refine WQ By fuel (listed.setIfInBounds k true) b' w' I' b7 (by omega) (by simpa using fX) (λm hm dq=>?_) (λm hm=>?_) (Ho et fX aS hk) ?_ (cf.1.trans bc) λa2 hr af=>dO _ _ (h5.trans cz cf qv af)
    ·rw [h6];split
     ·rfl
     ·rename_i acw;cases vl:dQ listed m with
      | true=>rfl
      | false =>
       exfalso;obtain ⟨e,NB,rfl⟩:=aC.entry aT (show m<k by omega) vl
       grind
    ·grind
    ·have:dh g1 (dQ (listed.setIfInBounds k true)) U=dh g1 (dQ listed) U:=funext λt=>Dv λe he _=>by
      grind
     grind
   grind
end
end Go.Own
namespace Go.Own
open Go
section
variable {P:Program}{N:c6}
def gf (P:Program) (N:c6) (c:Code) (g:aM) (e:Exit) (g':aM):Prop :=
 ∀ ⦃Q:Exit->Act->World->Prop⦄ ⦃a:Act⦄ ⦃w:World⦄ ⦃I:bb⦄ ⦃Fs:Nat->bb⦄,cG w I a.tmps g Fs->a.tmps.size=N.size->(∀ b' w',h5 N a w I Fs g' b' w'->Q e b' w')->c.wp P Q a w
theorem gf.skip {g:aM}:gf P N .skip g .normal g:=λ_ _ _ _ _ bl _ dO=>wp_skip (dO _ _ ⟨rfl,hB.refl,_,_,bl,ko.refl _ _ _⟩)
theorem gf.ret {g:aM}:gf P N .ret g .ret g:=λ_ _ _ _ _ bl _ dO=>wp_ret (dO _ _ ⟨rfl,hB.refl,_,_,bl,ko.refl _ _ _⟩)
theorem gf.exit {g:aM}{id:Nat}:gf P N (.exit id) g (.exit id) g:=λ_ _ _ _ _ bl _ dO=>wp_exit (dO _ _ ⟨rfl,hB.refl,_,_,bl,ko.refl _ _ _⟩)
theorem gf.seq {x y:Code}{g g1 g':aM}{e:Exit}(h1:gf P N x g .normal g1) (af:gf P N y g1 e g'):gf P N (.seq x y) g e g':=by
 intro Q a w I Fs bl bc dO;refine wp_seq (h1 bl bc λaE ib aF=>?_);obtain ⟨cz,cf,I',b7,dY,b1⟩:=aF;exact af dY (cf.1.trans bc) λa2 hr oe=>dO _ _ (h5.trans cz cf b1 oe)
theorem gf.cond {c:Operand}{x y:Code}{g g':aM}{e:Exit}{b:Bool}(aa:bt g c=some (.lit (.bool b))) (h:gf P N (if b then x else y) g e g'):gf P N (.cond c x y) g e g':=by
 intro Q a w I Fs bl bc dO;exact wp_cond (t:=b) (kf bl aa rfl).hA.1 (h bl bc dO)
theorem gf.Md {c:Operand}{x y:Code}{g g':aM}{e:Exit}(aa:bt g c=some (.lit (.bool true))) (h:gf P N x g e g'):gf P N (.cond c x y) g e g':=gf.cond aa h
theorem gf.Mb {c:Operand}{x y:Code}{g g':aM}{e:Exit}(aa:bt g c=some (.lit (.bool false))) (h:gf P N y g e g'):gf P N (.cond c x y) g e g':=gf.cond aa h
theorem gf.block {id:Nat}{c:Code}{g g':aM}(h:gf P N c g .normal g'):gf P N (.block id c) g .normal g' :=
 λ_ _ _ _ _ bl bc dO=>wp_block (h bl bc λaE ib aF=>dO aE ib aF)
def DQ (P:Program) (c:Code) (Q:Exit->Act->World->Prop) (a:Act) (w:World):Prop :=
 ∀ (b:Frame) (k:List Item) (cs:List Frame),∃ e b' w',Q e b' w'/\Arrives P (lone (b.at a (.code c::.inLoop c::k)) cs w) b k cs e b' w'
def ti (P:Program) (N:c6) (c:Code) (g:aM) (e:Exit) (g':aM):Prop :=
 ∀ ⦃Q:Exit->Act->World->Prop⦄ ⦃a:Act⦄ ⦃w:World⦄ ⦃I:bb⦄ ⦃Fs:Nat->bb⦄,cG w I a.tmps g Fs->a.tmps.size=N.size->(∀ b' w',h5 N a w I Fs g' b' w'->Q e b' w')->DQ P c Q a w
theorem JG {c:Code}{Q:Exit->Act->World->Prop}{a:Act}{w:World}(h:c.wp P (Exit.then (DQ P c Q) Q) a w):DQ P c Q a w:=by
 intro b k cs;obtain ⟨e,A7,DA,bg,kb⟩:=h b (.inLoop c::k) cs;cases e with
 | normal =>
  obtain ⟨Tg,RN,Zm,VL,Uz⟩:=bg b k cs;exact ⟨Tg,RN,Zm,VL,.of_steps (Steps.trans kb (.one step_inLoop)) Uz⟩
 | exit id=>exact ⟨_,A7,DA,bg,.pass (x:=.inLoop c) rfl (λ_ _=>.inl (by simp)) kb⟩
 | goto l=>exact ⟨_,A7,DA,bg,.pass (x:=.inLoop c) rfl (λ_ _=>.inl (by simp)) kb⟩
 | ret=>exact ⟨_,A7,DA,bg,.pass (x:=.inLoop c) rfl (λ_ _=>.inl (by simp)) kb⟩
 | panic b8=>exact ⟨_,A7,DA,bg,.pass (x:=.inLoop c) rfl (λ_ _=>.inl (by simp)) kb⟩
 | outgrown=>exact ⟨_,A7,DA,bg,.pass (x:=.inLoop c) rfl (λ_ _=>.inl (by simp)) kb⟩
theorem gf.loop {c:Code}{g g':aM}{e:Exit}(h:ti P N c g e g'):gf P N (.loop c) g e g':=by
 intro Q a w I Fs bl bc dO b k cs;obtain ⟨e,b',w',bg,kb⟩:=h bl bc dO b k cs;exact ⟨e,b',w',bg,.of_steps (.one step_loop) kb⟩
theorem ti.step {c:Code}{g g1 g':aM}{e:Exit}(h1:gf P N c g .normal g1) (af:ti P N c g1 e g'):ti P N c g e g':=by
 intro Q a w I Fs bl bc dO;refine JG (h1 bl bc λaE ib aF=>?_);obtain ⟨cz,cf,I',b7,dY,b1⟩:=aF;exact af dY (cf.1.trans bc) λa2 hr oe=>dO _ _ (h5.trans cz cf b1 oe)
theorem ti.out {c:Code}{g g':aM}{e:Exit}(h:gf P N c g e g') (he:e≠.normal):ti P N c g e g':=by
 intro Q a w I Fs bl bc dO;refine JG (h bl bc λaE ib aF=>?_);cases e with
 | normal=>exact absurd rfl he
 | _=>exact dO _ _ aF
theorem gf.region {id:Nat}{ops:Array Oper}{g g':aM}(h:oE P N ops (List.range ops.size) g g'):gf P N (.region id ops false) g .normal g' :=
 λ_ _ _ _ _ bl bc dO=>wp_region (h.sound bl bc dO)
theorem gf.draw {id:Nat}{ops:Array Oper}{bd:List (List Nat)}{g g':aM}(hm:P.follows .mixedOrders=true) (et:pf ops bd=true) (h:sy P N ops bd 0 [] g g'):gf P N (.region id ops true) g .normal g':=by
 intro Q a w I Fs bl bc dO;refine wp_region_any hm ?_;have dY:cG w.drew I a.tmps g Fs:=bl.world (λ_ _ _=>rfl) (λ_ _=>rfl) (Nat.le_refl _);have hN:∀ k,dQ (Array.replicate ops.size false) k=false:=by
  intro k;unfold dQ;rcases Nat.lt_or_ge k ops.size with h | h
  ·simp [h]
  grind
 refine h.sound et .nil ops.size (Array.replicate ops.size false) a w.drew I Fs ?_ (by simp) (λk hk=>by omega) (λk _=>hN k) (λk hk=>by rw [hN] at hk; cases hk) dY bc λb' w' aF=>dO _ _ ?_
 ·grind [hn]
 ·obtain ⟨cz,cf,I',b7,h7,b1⟩:=aF;exact ⟨cz,cf,I',b7,h7,⟨⟨b1.eS.os,b1.eS.tape,b1.eS.output,b1.eS.size,b1.eS.block,b1.eS.dN,Nat.le_trans (Nat.le_succ _) b1.eS.wT⟩,b1.more,b1.new,b1.own⟩⟩
inductive pe:ab->ab->Prop
 | refl {x:ab}:pe x x
 | dead {x:ab}(h:kF x\/cU x):pe x .dead
 | pP {z:Nat}:pe .aK (.own z 0 [])
 | pO {z:Nat}:pe .aK (.bm z 0 [])
 | obj {cs cs':List ab}(ak:cs'.length=cs.length) (h:∀ (k:Nat) (x y:ab),cs[k]?=some x->cs'[k]?=some y->pe x y):pe (.obj cs) (.obj cs')
 | own {z n:Nat}{cs cs':List ab}(ak:cs'.length=cs.length) (h:∀ (k:Nat) (x y:ab),cs[k]?=some x->cs'[k]?=some y->pe x y):pe (.own z n cs) (.own z n cs')
theorem R.eW {w:World}{I:bb}{ρ:ab->Value->Prop}{x x':ab}(h:pe x x'):∀ {v:Value}{F:bb},R w I ρ x v F->∃ c9,R w I ρ x' v c9/\∀ c,c9 c->F c:=by
 induction h with
 | refl=>exact λaZ=>⟨_,aZ,λ_ h=>h⟩
 | dead=>exact λaZ=>⟨cy,.dead λ_ h=>h,λ_ h=>h.elim⟩
 | pP =>
  intro v F aZ;rw [aZ.sg];exact ⟨cy,.own (e:=0) (us:=[]) (Fs:=λ_=>cy) ⟨by simp,.inl ⟨rfl,rfl⟩⟩ rfl (by simp) (by simp) (λ_ _ _ _ _ h=>h.elim) (λ_ _ _ h=>h.elim) λc=>⟨λh=>h.elim,λh=>h.elim (λh=>by simp [Value.ownBlock] at h) λ⟨_,_,h⟩=>h⟩,λ_ h=>h.elim⟩
 | pO=>intro v F aZ; rw [aZ.sg]; exact ⟨cy,.hF λ_ h=>h,λ_ h=>h.elim⟩
 | @obj cs cs' ak _ aU =>
  intro v F aZ;cases aZ with
  | ref J=>simp [ab.isRef] at J
  | @obj _ b e arr bL _ a1 hU h1 ao aS av aN =>
   have:∀ k,∃ tj:bb,k<cs.length->(∀ (x:ab) (u:Value),cs'[k]?=some x->arr[k]?=some u->R w I ρ x u tj)/\∀ c,tj c->bL k c:=by
    intro k;by_cases hk:k<cs.length
    ·have J:=List.getElem?_eq_getElem hk;have ax:cs'[k]?=some (cs'[k]'(by omega)):=List.getElem?_eq_getElem (by omega);have hu:arr[k]?=some (arr[k]'(by omega)):=Array.getElem?_eq_getElem (by omega);obtain ⟨c9,h1,af⟩:=aU k _ _ J ax (ao k _ _ J hu);refine ⟨c9,λ_=>⟨λx u gh jP=>?_,af⟩⟩
     grind
    ·exact ⟨cy,λh=>absurd h hk⟩
   obtain ⟨tj,tM⟩:=Classical.axiomOfChoice this;refine ⟨_,.obj (Fs:=tj) a1 (by omega) h1 (λk x u J hu=>(tM k (by rw [<- ak]; exact (List.getElem?_eq_some_iff.1 J).1)).1 x u J hu) (λj k c ah hk h aQ=>aS j k c (by omega) (by omega) ((tM j (by omega)).2 c h) ((tM k (by omega)).2 c aQ)) (λk hk h=>av k (by omega) ((tM k (by omega)).2 b h)) (λc=>Iff.rfl),λc aa=>?_⟩
   grind
 | @own z n cs cs' ak _ aU =>
  intro v F aZ;cases aZ with
  | ref J=>simp [ab.isRef] at J
  | @own _ _ _ _ e us bL _ a1 hU h1 ao aS av aN =>
   have:∀ k,∃ tj:bb,k<cs.length->(∀ (x:ab) (u:Value),cs'[k]?=some x->us[k]?=some u->R w I ρ x u tj)/\∀ c,tj c->bL k c:=by
    intro k;by_cases hk:k<cs.length
    ·have J:=List.getElem?_eq_getElem hk;have ax:cs'[k]?=some (cs'[k]'(by omega)):=List.getElem?_eq_getElem (by omega);have hu:us[k]?=some (us[k]'(by omega)):=List.getElem?_eq_getElem (by omega);obtain ⟨c9,h1,af⟩:=aU k _ _ J ax (ao k _ _ J hu);refine ⟨c9,λ_=>⟨λx u gh jP=>?_,af⟩⟩
     grind
    ·exact ⟨cy,λh=>absurd h hk⟩
   obtain ⟨tj,tM⟩:=Classical.axiomOfChoice this;refine ⟨_,.own (Fs:=tj) a1 (by omega) h1 (λk x u J hu=>(tM k (by rw [<- ak]; exact (List.getElem?_eq_some_iff.1 J).1)).1 x u J hu) (λj k c ah hk h aQ=>aS j k c (by omega) (by omega) ((tM j (by omega)).2 c h) ((tM k (by omega)).2 c aQ)) (λk c hk h=>av k c (by omega) ((tM k (by omega)).2 c h)) (λc=>Iff.rfl),λc aa=>?_⟩
   grind
structure kp (g1 g2:aM):Prop where
 sub:∀ t x,g2 t=some x->∃ y,g1 t=some y/\pe y x
 bS:∀ t x,g2 t=some x->di g2 x
 fA:∀ t z q n m new,g2 t≠some (.bM z q n m new)
theorem cG.eW {w:World}{I:bb}{T:Array Value}{g1 g2:aM}{Fs:Nat->bb}(h:cG w I T g1 Fs) (hk:kp g1 g2):∃ b7,cG w I T g2 b7/\∀ t c,b7 t c->Fs t c:=by
 have:∀ t,∃ c9:bb,(∀ x,g2 t=some x->∃ v,T[t]?=some v/\R w I (dT w T g2) x v c9)/\(∀ c,c9 c->Fs t c)/\(g2 t=none->∀ c,¬ c9 c):=by
  intro t;cases J:g2 t with
  | none=>exact ⟨cy,by simp,λ_ h=>h.elim,λ_ _ h=>h⟩
  | some x =>
   obtain ⟨y,ax,hw⟩:=hk.sub t x J;obtain ⟨v,hv,aZ⟩:=h.mE.rel t y ax;have la:∀ z q n m new,y≠.bM z q n m new:=by
    rintro z q n m new rfl;cases hw with
    | refl=>exact hk.fA _ _ _ _ _ _ J
    | dead bY=>rcases bY with bY | bY <;> cases bY
   obtain ⟨c9,jM,pq⟩:=R.eW hw (aZ.gJ la);exact ⟨c9,λx' gh=>by cases gh; exact ⟨v,hv,jM.bS (hk.bS t x J)⟩,pq,by simp⟩
 obtain ⟨b7,pr⟩:=Classical.axiomOfChoice this;refine ⟨b7,⟨λt x J=>?_,λt aw=>(pr t).2.2 aw,λt t' c h1 af=>h.eJ _ _ _ ((pr t).2.1 c h1) ((pr t').2.1 c af),λt c aa=>h.bm _ _ ((pr t).2.1 c aa),h.lt,λt t' z p n m new _ _ _ _ h1=>absurd h1 (hk.fA _ _ _ _ _ _)⟩,λt=>(pr t).2.1⟩;obtain ⟨v,hv,aZ⟩:=(pr t).1 x J;exact ⟨v,hv,.tree aZ⟩
theorem gf.weaken {c:Code}{g g1 g':aM}{e:Exit}(hk:kp g g1) (h:gf P N c g1 e g'):gf P N c g e g':=by
 intro Q a w I Fs bl bc dO;obtain ⟨b7,dY,gI⟩:=bl.eW hk;exact h dY bc λb' w' aF=>dO _ _ (h5.trans rfl hB.refl ⟨Fr.refl _ _,λ_ h=>h,λ_ h=>.inl h,λc ⟨t,aa⟩=>.inl ⟨t,gI t c aa⟩⟩ aF)
theorem ti.weaken {c:Code}{g g1 g':aM}{e:Exit}(hk:kp g g1) (h:ti P N c g1 e g'):ti P N c g e g':=by
 intro Q a w I Fs bl bc dO;obtain ⟨b7,dY,gI⟩:=bl.eW hk;exact h dY bc λb' w' aF=>dO _ _ (h5.trans rfl hB.refl ⟨Fr.refl _ _,λ_ h=>h,λ_ h=>.inl h,λc ⟨t,aa⟩=>.inl ⟨t,gI t c aa⟩⟩ aF)
end
end Go.Own
namespace Go.Own
open Go
inductive A3 (P:Program) (g:aM):ResultVar->ab->Prop
 | tmp {t:Nat}{y:ab}(h:bt g (.tmp t)=some y):A3 P g (.tmp t) y
 | cell {a:Nat}{t ty:TypeId}{y:ab}(h:c8 P g (.load t (.tmp a)) ty y):A3 P g (.cell a t) y
inductive rM (P:Program) (g:aM):List ResultVar->List ab->Prop
 | nil:rM P g [] []
 | cons {r:ResultVar}{rs:List ResultVar}{y:ab}{ys:List ab}(h:A3 P g r y) (aw:rM P g rs ys):rM P g (r::rs) (y::ys)
def qJ:List ab->ab
 | [x]=>x
 | l=>.bW l
def ya:List Value->Value
 | [x]=>x
 | l=>.tuple l.toArray
def v7 (tmps:Array Value):ResultVar->Sem Value
 | .tmp t=>pure (tmps.getD t undef)
 | .cell a t=>do loadVar t (<- asAddr (tmps.getD a undef))
section
variable {P:Program}{w:World}{I:bb}{g:aM}{Fs:Nat->bb}
theorem A3.run {a:Act}(h:cG w I a.tmps g Fs) {r:ResultVar}{y:ab}(ao:A3 P g r y):∃ v,(v7 a.tmps r).run P w=.ok v w/\R w I (dT w a.tmps g) y v cy:=by
 cases ao with
 | @tmp t y h1=>exact ⟨_,rfl,kf h h1 rfl⟩
 | @cell a0 t ty y h1 =>
  obtain ⟨v, hv, aZ⟩ := c8.sound h rfl (o := { dst := none, op := .load t (.tmp a0), type := ty, pos := "", after := #[], guard := none }) h1;refine ⟨v,?_,aZ⟩;have he:a.eval (.tmp a0)=a.tmps.getD a0 undef:=rfl;simp only [execOp,he] at hv;cases aa:a.tmps.getD a0 undef with
  | pointer ad =>
   cases ad with
   | some ad =>
    rw [aa] at hv;simp only [Instr.loadAt,Instr.sureAddr] at hv;simp only [v7,aa,asAddr];have au:(pure ad >>= λx=>loadVar t x:Sem Value)=loadVar t ad:=by simp
    rw [au];revert hv;generalize bg:loadVar t ad=q;intro hv;simp [bg] at hv;cases EL:q.run P w with
    | ok x hr=>rw [EL] at hv; simp at hv; rw [hv.1,hv.2]
    | halt e hr=>rw [EL] at hv; simp at hv
   | none=>rw [aa] at hv; simp [Instr.loadAt,Instr.sureAddr] at hv
  | _=>rw [aa] at hv; simp [Instr.loadAt,Instr.sureAddr] at hv
theorem PJ {f:ResultVar->Sem Value}:∀ (l:List ResultVar) (vs:List Value),l.length=vs.length->(∀ (k:Nat) (r:ResultVar) (v:Value),l[k]?=some r->vs[k]?=some v->(f r).run P w=.ok v w)->(l.mapM f).run P w=.ok vs w
 | [],[],_,_=>rfl
 | r::l,v::vs,ak,h=>by
  have aR:=h 0 r v rfl rfl;have h1:=PJ l vs (by simpa using ak) λk r v ao hv=>h (k+1) r v (by simpa using ao) (by simpa using hv);simp [List.mapM_cons,aR,h1]
 | [],_::_,ak,_=>by simp at ak
 | _::_,[],ak,_=>by simp at ak
theorem Yf {fn:Func}{tmps:Array Value}{vs:List Value}(ak:fn.results.toList.length=vs.length) (h:∀ (k:Nat) (r:ResultVar) (v:Value),fn.results.toList[k]?=some r->vs[k]?=some v->(v7 tmps r).run P w=.ok v w):(results fn tmps).run P w=.ok (ya vs) w:=by
 have h1:=PJ fn.results.toList vs ak h;have af:fn.results.mapM (v7 tmps)=List.toArray <$> fn.results.toList.mapM (v7 tmps):=Array.mapM_eq_mapM_toList;have aI:(fn.results.mapM (v7 tmps)).run P w=.ok vs.toArray w:=by rw [af]; simp [h1]
 have bK:results fn tmps=(do let vs <- fn.results.mapM (v7 tmps); pure (if h:vs.size=1 then vs[0] else .tuple vs)):=by
  unfold results;congr 1
 rw [bK];simp only [Sem.run_bind,aI]
 match vs with
 | []=>rfl
 | [x]=>rfl
 | x::y::l=>simp [ya]
theorem rM.length {g:aM}{rs:List ResultVar}{ys:List ab}(h:rM P g rs ys):rs.length=ys.length:=by
 induction h with
 | nil=>rfl
 | cons _ _ aU=>simp [aU]
theorem rM.run {a:Act}(h:cG w I a.tmps g Fs) {rs:List ResultVar}{ys:List ab}(ao:rM P g rs ys):∃ vs:List Value,rs.length=vs.length/\(∀ (k:Nat) (r:ResultVar) (v:Value),rs[k]?=some r->vs[k]?=some v->(v7 a.tmps r).run P w=.ok v w) /\
  ∀ (k:Nat) (y:ab) (v:Value),ys[k]?=some y->vs[k]?=some v->R w I (dT w a.tmps g) y v cy:=by
 induction ao with
 | nil=>exact ⟨[],rfl,by simp,by simp⟩
 | cons h1 _ aU =>
  obtain ⟨v,hv,aZ⟩:=h1.run h;obtain ⟨vs,ak,af,aI⟩:=aU;refine ⟨v::vs,by simp [ak],λk r u ao hu=>?_,λk y u ax hu=>?_⟩
  ·cases k with
   | zero=>simp at ao hu; subst ao hu; exact hv
   | succ k=>exact af k r u (by simpa using ao) (by simpa using hu)
  ·cases k with
   | zero=>simp at ax hu; subst ax hu; exact aZ
   | succ k=>exact aI k y u (by simpa using ax) (by simpa using hu)
theorem Hand.qJ {ρ:ab->Value->Prop}{Fs:Nat->bb}{xs:List ab}{vs:List Value}{dD:Nat->bb}(h:Hand w I ρ Fs xs vs dD) (aF:∀ x∈xs,cU x) (ρ':ab->Value->Prop):R w I ρ' (qJ xs) (ya vs) (λc=>∃ k,k<xs.length/\dD k c)/\cU (qJ xs):=by
 have bW:R w I ρ' (.bW xs) (.tuple vs.toArray) (λc=>∃ k,k<xs.length/\dD k c) :=
  .bW (by simpa using h.len) (λk x u J hu=>(h.rel k x u J (by simpa using hu)).bn (aF x (List.mem_of_getElem? J))) h.eJ λc=>Iff.rfl
 match xs,vs,h,aF,bW with
 | [],[],_,_,bW=>exact ⟨bW,.bW (by simp)⟩
 | [x],[v],h,aF,_ =>
  refine ⟨((h.rel 0 x v rfl rfl).bn (aF x (by simp))).y9 λc=>⟨λaa=>⟨0,by simp,aa⟩,λ⟨k,hk,aa⟩=>?_⟩,aF x (by simp)⟩;have:k=0:=by simpa using hk
  subst this; exact aa
 | x::y::l,v::u::m,_,aF,bW=>exact ⟨bW,.bW aF⟩
 | [],_::_,h,_,_=>have:=h.len; simp at this
 | _::_,[],h,_,_=>have:=h.len; simp at this
 | [_],_::_::_,h,_,_=>have:=h.len; simp at this
 | _::_::_,[_],h,_,_=>have:=h.len; simp at this
structure Leaves (P:Program) (N:c6) (rs:List ResultVar) (g':aM) (n:Nat) (outs:List (Option ab)) (res:ab):Prop where
 ex:∃ ys xs g1,rM P g' rs ys/\Take g' ys xs g1/\res=qJ xs/\∀ (k:Nat) (x:ab),outs[k]?=some (some x)->g1 k=some x/\cU x/\k∈N.pins
 len:outs.length=n
theorem cG.more {T:Array Value}(h:cG w I T g Fs) {T':Array Value}(dL:∀ t,g t≠none->T'[t]?=T[t]?):cG w I T' g Fs:=by
 refine ⟨λt x J=>?_,h.kU,h.eJ,h.bm,h.lt,h.ru⟩;obtain ⟨u,hu,aZ⟩:=h.rel t x J;exact ⟨u,by rw [dL t (by rw [J]; simp)]; exact hu,h.wV dL (λ_ _ _=>rfl) (λ_ _=>rfl) (λ_ h=>h) (λ_ _ h=>h) aZ λ_ _=>rfl⟩
end
end Go.Own
namespace Go.Own
open Go
section
variable {P:Program}{N:c6}
def W (P:Program) (N:c6) (c:Code) (g:aM) (Φ:Exit->aM->Prop):Prop :=
 ∀ ⦃Q:Exit->Act->World->Prop⦄ ⦃a:Act⦄ ⦃w:World⦄ ⦃I:bb⦄ ⦃Fs:Nat->bb⦄,cG w I a.tmps g Fs->a.tmps.size=N.size->(∀ e g' b' w',Φ e g'->h5 N a w I Fs g' b' w'->Q e b' w')->c.wp P Q a w
def o3 (Ψ:aM->Prop) (Φ:Exit->aM->Prop):Exit->aM->Prop
 | .normal,g=>Ψ g
 | e,g=>Φ e g
def ma (id:Nat) (Φ:Exit->aM->Prop):Exit->aM->Prop
 | .exit k,g=>if k=id then Φ .normal g else Φ (.exit k) g
 | e,g=>Φ e g
theorem h5.refl {a:Act}{w:World}{I:bb}{g:aM}{Fs:Nat->bb}(h:cG w I a.tmps g Fs):h5 N a w I Fs g a w:=⟨rfl,hB.refl,_,_,h,ko.refl _ _ _⟩
theorem gf.w {c:Code}{g g':aM}{e:Exit}{Φ:Exit->aM->Prop}(h:gf P N c g e g') (nP:Φ e g'):W P N c g Φ :=
 λ_ _ _ _ _ bl bc dO=>h bl bc λb' w' aF=>dO _ _ b' w' nP aF
theorem W.mono {c:Code}{g:aM}{Φ oA:Exit->aM->Prop}(h:W P N c g Φ) (nP:∀ e g',Φ e g'->oA e g'):W P N c g oA :=
 λ_ _ _ _ _ bl bc dO=>h bl bc λ_ _ b' w' h1 aF=>dO _ _ b' w' (nP _ _ h1) aF
theorem W.skip {g:aM}{Φ:Exit->aM->Prop}(h:Φ .normal g):W P N .skip g Φ:=gf.skip.w h
theorem W.ret {g:aM}{Φ:Exit->aM->Prop}(h:Φ .ret g):W P N .ret g Φ:=gf.ret.w h
theorem W.exit {g:aM}{id:Nat}{Φ:Exit->aM->Prop}(h:Φ (.exit id) g):W P N (.exit id) g Φ:=gf.exit.w h
theorem W.seq {x y:Code}{g:aM}{Φ:Exit->aM->Prop}(h:W P N x g (o3 (λg1=>W P N y g1 Φ) Φ)):W P N (.seq x y) g Φ:=by
 intro Q a w I Fs bl bc dO;refine wp_seq (h bl bc λe g1 aE ib h1 aF=>?_);cases e with
 | normal =>
  obtain ⟨cz,cf,I',b7,dY,b1⟩:=aF;exact h1 dY (cf.1.trans bc) λtG g2 a2 hr af oe=>dO _ _ _ _ af (h5.trans cz cf b1 oe)
 | _=>exact dO _ _ _ _ h1 aF
theorem W.cond {c:Operand}{x y:Code}{g:aM}{Φ:Exit->aM->Prop}{b:Bool}(aa:bt g c=some (.lit (.bool b))) (h:W P N (if b then x else y) g Φ):W P N (.cond c x y) g Φ :=
 λ_ _ _ _ _ bl bc dO=>wp_cond (t:=b) (kf bl aa rfl).hA.1 (h bl bc dO)
theorem W.Md {c:Operand}{x y:Code}{g:aM}{Φ:Exit->aM->Prop}(aa:bt g c=some (.lit (.bool true))) (h:W P N x g Φ):W P N (.cond c x y) g Φ:=W.cond aa h
theorem W.Mb {c:Operand}{x y:Code}{g:aM}{Φ:Exit->aM->Prop}(aa:bt g c=some (.lit (.bool false))) (h:W P N y g Φ):W P N (.cond c x y) g Φ:=W.cond aa h
theorem W.block {id:Nat}{c:Code}{g:aM}{Φ:Exit->aM->Prop}(h:W P N c g (ma id Φ)):W P N (.block id c) g Φ:=by
 intro Q a w I Fs bl bc dO;refine wp_block (h bl bc λe g1 aE ib h1 aF=>?_);cases e with
 | exit k =>
  have af:if k=id then Φ .normal g1 else Φ (.exit k) g1:=h1
  grind [Exit.inBlock]
 | _=>exact dO _ _ _ _ h1 aF
def pd (P:Program) (N:c6) (c:Code) (g:aM) (Φ:Exit->aM->Prop):Prop :=
 ∀ ⦃Q:Exit->Act->World->Prop⦄ ⦃a:Act⦄ ⦃w:World⦄ ⦃I:bb⦄ ⦃Fs:Nat->bb⦄,cG w I a.tmps g Fs->a.tmps.size=N.size->(∀ e g' b' w',Φ e g'->h5 N a w I Fs g' b' w'->Q e b' w')->DQ P c Q a w
theorem W.loop {c:Code}{g:aM}{Φ:Exit->aM->Prop}(h:pd P N c g Φ):W P N (.loop c) g Φ:=by
 intro Q a w I Fs bl bc dO b k cs;obtain ⟨e,b',w',bg,kb⟩:=h bl bc dO b k cs;exact ⟨e,b',w',bg,.of_steps (.one step_loop) kb⟩
theorem pd.step {c:Code}{g:aM}{Φ:Exit->aM->Prop}(h:W P N c g (o3 (λg1=>pd P N c g1 Φ) Φ)):pd P N c g Φ:=by
 intro Q a w I Fs bl bc dO;refine JG (h bl bc λe g1 aE ib h1 aF=>?_);cases e with
 | normal =>
  obtain ⟨cz,cf,I',b7,dY,b1⟩:=aF;exact h1 dY (cf.1.trans bc) λtG g2 a2 hr af oe=>dO _ _ _ _ af (h5.trans cz cf b1 oe)
 | _=>exact dO _ _ _ _ h1 aF
theorem W.weaken {c:Code}{g g1:aM}{Φ:Exit->aM->Prop}(hk:kp g g1) (h:W P N c g1 Φ):W P N c g Φ:=by
 intro Q a w I Fs bl bc dO;obtain ⟨b7,dY,gI⟩:=bl.eW hk;exact h dY bc λe g' b' w' h1 aF=>dO _ _ _ _ h1 (h5.trans rfl hB.refl ⟨Fr.refl _ _,λ_ h=>h,λ_ h=>.inl h,λc ⟨t,aa⟩=>.inl ⟨t,gI t c aa⟩⟩ aF)
theorem pd.weaken {c:Code}{g g1:aM}{Φ:Exit->aM->Prop}(hk:kp g g1) (h:pd P N c g1 Φ):pd P N c g Φ:=by
 intro Q a w I Fs bl bc dO;obtain ⟨b7,dY,gI⟩:=bl.eW hk;exact h dY bc λe g' b' w' h1 aF=>dO _ _ _ _ h1 (h5.trans rfl hB.refl ⟨Fr.refl _ _,λ_ h=>h,λ_ h=>.inl h,λc ⟨t,aa⟩=>.inl ⟨t,gI t c aa⟩⟩ aF)
theorem W.out {c:Code}{g:aM}{Φ oA:Exit->aM->Prop}(h:W P N c g Φ) (nP:∀ e g',Φ e g'->∃ g2,kp g' g2/\oA e g2):W P N c g oA:=by
 intro Q a w I Fs bl bc dO;refine h bl bc λe g' b' w' h1 aF=>?_;obtain ⟨g2,hk,af⟩:=nP e g' h1;obtain ⟨cz,cf,I',b7,dY,b1⟩:=aF;obtain ⟨iY,h7,gI⟩:=dY.eW hk;exact dO _ _ _ _ af ⟨cz,cf,I',iY,h7,b1.trans ⟨Fr.refl _ _,λ_ h=>h,λ_ h=>.inl h,λc ⟨t,aa⟩=>.inl ⟨t,gI t c aa⟩⟩⟩
def Lj (P:Program) (N:c6) (ops:Array Oper) (is:List Nat) (g:aM) (K:aM->Prop):Prop:=∃ g',oE P N ops is g g'/\K g'
theorem W.region {id:Nat}{ops:Array Oper}{g:aM}{Φ:Exit->aM->Prop}(h:Lj P N ops (List.range ops.size) g (Φ .normal)):W P N (.region id ops false) g Φ:=by
 obtain ⟨g',ao,nP⟩:=h;exact (gf.region ao).w nP
theorem bV.Xj {f:FuncId}{fn:Func}{c:Code}{args:List ab}{outs:List (Option ab)}{res:ab}{N:c6}(aW:P.funcs[f]?=some fn) (av:fn.body=some c) (bc:fn.ntmps=N.size) (aP:args.length<=N.size)
  (hlen:outs.length=args.length) (hw:W P N c (qc args) λe g'=>(e=.normal\/e=.ret)/\Leaves P N fn.results.toList g' args.length outs res):bV P f args outs res:=by
 refine ⟨hlen,λw I vs Fs acJ bl=>calls_of_wp aW av ?_⟩;have fX:({ tmps:=vs.toArray++Array.replicate (fn.ntmps - vs.toArray.size) undef,defers:=[] }:Act).tmps.size=N.size:=by
  grind
 have oc:∀ t,t<vs.length->(vs.toArray++Array.replicate (fn.ntmps - vs.toArray.size) undef)[t]?=vs.toArray[t]?:=by
  grind
 refine hw (bl.more (T':=vs.toArray++Array.replicate (fn.ntmps - vs.toArray.size) undef) λt aw=>oc t ?_) fX λe g' b' w' ⟨he,a1⟩ aF=>?_
 ·grind [qc]
 obtain ⟨aS,hold,I',b7,dY,b1⟩:=aF;obtain ⟨ys,xs,g1,N5,aw,rfl,r8⟩:=a1.ex;obtain ⟨us,og,hP,mU⟩:=N5.run dY;have EU:ys.length=us.length:=by rw [<- N5.length,og]
 obtain ⟨f_,dD,jc,iN,hN⟩:=aw.sound dY.mE (⟨EU,λk x u J hu=>(mU k x u J hu).frame (λ_ _=>rfl) (λ_ h=>h) (λ_ _ h=>h.1) λ_ _=>rfl,λ_ _ _ _ _ h=>h.elim,λ_ _ _ _ h=>h.elim,λ_ _ _ h=>h.elim⟩:Hand w' I' (fD w' b'.tmps) b7 ys us λ_=>cy);have gI:∀ c,lu f_ xs.length dD c->∃ t,b7 t c:=by
  intro c aa;rcases hN c aa with h | ⟨_,_,h⟩
  all_goals grind
 have Vc:∃ iY,cG w' I' (vs++[ya us]).toArray (kV outs (qJ xs)) iY/\∀ t c,iY t c->∃ t,b7 t c:=by
  classical
  refine ⟨λt=>if t=outs.length then (λc=>∃ k,k<xs.length/\dD k c) else if ∃ x,outs[t]?=some (some x) then f_ t else cy,⟨λt x J=>?_,λt EN c aa=>?_,λt t' c h1 af=>?_,λt c aa=>?_,dY.lt,λt t' z p n m new bE cF m' c5 h1 af=>?_⟩,λt c aa=>?_⟩
  ·unfold kV at J;by_cases aR:t=outs.length
   ·rw [if_pos aR] at J;cases J;subst aR;refine ⟨ya us,?_,.tree ?_⟩
    ·grind
    ·simpa using (iN.qJ aw.Fo _).1
   ·rw [if_neg aR] at J;have gh:outs[t]?=some (some x):=by
     grind
    obtain ⟨h1,af,aI⟩:=r8 t x gh;have V3:t<vs.length:=by
     grind
    obtain ⟨v,hv,aZ⟩:=jc.rel t x h1;refine ⟨v,?_,?_⟩
    ·rw [hold.2 t aI] at hv
     grind
    ·simp only [aR,if_false];rw [if_pos ⟨x,gh⟩];exact .tree ((aZ.gJ (by rintro z p n m new rfl; cases af)).bn af)
  ·grind [kV]
  ·by_cases aR:t=outs.length <;> by_cases HF:t'=outs.length <;> simp only [aR,HF,if_true,if_false] at h1 af
   ·grind
   ·split at af
    ·obtain ⟨k,hk,aa⟩:=h1;exact absurd af (iN.off k t' c hk aa)
    grind
   ·split at h1
    ·obtain ⟨k,hk,aa⟩:=af;exact absurd h1 (iN.off k t c hk aa)
    grind
   ·split at h1
    ·split at af
     ·exact jc.eJ _ _ _ h1 af
     grind
    grind
  ·by_cases aR:t=outs.length <;> simp only [aR,if_true,if_false] at aa
   ·obtain ⟨k,hk,aa⟩:=aa;exact iN.bm k c hk aa
   ·split at aa
    ·exact jc.bm _ _ aa
    grind
  ·grind [kV,cU]
  ·by_cases aR:t=outs.length <;> simp only [aR,if_true,if_false] at aa
   ·obtain ⟨k,hk,aa⟩:=aa;exact gI c (.inr ⟨k,hk,aa⟩)
   ·split at aa
    ·exact gI c (.inl ⟨t,aa⟩)
    grind
 obtain ⟨iY,h7,V1⟩:=Vc;have VJ:b'.defers=[]/\∃ v,(results fn b'.tmps).run P w'=.ok v w'/\∃ gz I' b7,Ending.returned v=.returned gz/\cG w' I' (vs++[gz]).toArray (kV outs (qJ xs)) b7/\ko w I (λc=>∃ t,Fs t c) w' I' (λc=>∃ t,b7 t c) :=
  ⟨aS,ya us,Yf og hP,ya us,I',iY,rfl,h7,b1.trans ⟨Fr.refl _ _,λ_ h=>h,λ_ h=>.inl h,λc ⟨t,aa⟩=>.inl (V1 t c aa)⟩⟩
 rcases he with rfl | rfl <;> exact VJ
end
end Go.Own
namespace Go.Own
open Go
def get:List (Nat × ab)->aM
 | [],_=>none
 | (s,x)::l,t=>if t=s then some x else get l t
inductive Rd (g:aM):Operand->ab->Prop
 | lit {t:Nat}{v:Value}(h:g t=some (.lit v)):Rd g (.tmp t) (.lit v)
 | k {v:Value}(h:ofConst v=.lit v):Rd g (.const v) (.lit v)
 | xD:Rd g (.const (.slice none 0 0)) .aK
 | JB {v:Value}{cs:List ab}(h:ofConst v=.agg cs):Rd g (.const v) (.agg cs)
 | aK {t:Nat}(h:g t=some .aK):Rd g (.tmp t) .aK
 | bm {t z n:Nat}{cs:List ab}(h:g t=some (.bm z n cs)):Rd g (.tmp t) (.bm z n cs)
 | own {t z n:Nat}{cs:List ab}(h:g t=some (.own z n cs)):Rd g (.tmp t) (.a6 z ⟨t,[]⟩ n)
 | obj {t:Nat}{c:ab}{cs:List ab}(h:g t=some (.obj (c::cs))):Rd g (.tmp t) (.ptr ⟨t,[]⟩ 0)
 | cI {t:Nat}{cs:List ab}(h:g t=some (.cI cs)):Rd g (.tmp t) (.cI cs)
 | ptr {t k:Nat}{p:Place}(h:g t=some (.ptr p k)):Rd g (.tmp t) (.ptr p k)
 | a6 {t z n:Nat}{p:Place}(h:g t=some (.a6 z p n)):Rd g (.tmp t) (.a6 z p n)
 | sub {t z lo n:Nat}{p:Place}(h:g t=some (.sub z p lo n)):Rd g (.tmp t) (.sub z p lo n)
 | bM {t z n m:Nat}{p:Place}{new:List ab}(h:g t=some (.bM z p n m new)):Rd g (.tmp t) (.a6 z ⟨t,[]⟩ (n+m))
 | agg {t:Nat}{cs cs':List ab}(h:g t=some (.agg cs)) (aa:(cs.mapIdx λi x=>gx 1 (Place.push ⟨t,[]⟩ i) x)=cs'):Rd g (.tmp t) (.agg cs')
 | bW {t:Nat}{cs cs':List ab}(h:g t=some (.bW cs)) (aa:(cs.mapIdx λi x=>gx 1 (Place.push ⟨t,[]⟩ i) x)=cs'):Rd g (.tmp t) (.bW cs')
 | func {f:FuncId}:Rd g (.func f) (.cW (.func f) [] [])
 | cW {t:Nat}{fn:Fn}{cs:List ab}(h:g t=some (.cW fn [] cs)):Rd g (.tmp t) (.cW fn [] cs)
 | mp {t:Nat}{q:Array MapEntry->Nat->Prop}(h:g t=some (.mp q)):Rd g (.tmp t) (.gB ⟨t,[]⟩)
 | gB {t:Nat}{p:Place}(h:g t=some (.gB p)):Rd g (.tmp t) (.gB p)
 | imp {t:Nat}{q:Array MapEntry->Nat->Prop}(h:g t=some (.imp q)):Rd g (.tmp t) (.imp q)
theorem Rd.bt {g:aM}{x:Operand}{y:ab}(h:Rd g x y):bt g x=some y:=by
 cases h with
 | agg h aa=>subst aa; simp [Own.bt,h,ry,gx]
 | bW h aa=>subst aa; simp [Own.bt,h,ry,gx]
 | k h=>simp [Own.bt,h]
 | xD=>rfl
 | JB h=>simp [Own.bt,h]
 | func=>rfl
 | _ h=>simp [Own.bt,h,ry,gx]
section
variable {P:Program}{N:c6}{ops:Array Oper}{g:aM}{K:aM->Prop}{l:List Oper}
def ar (P:Program) (N:c6) (ops:Array Oper) (l:List Oper) (g:aM) (K:aM->Prop):Prop:=∀ i,ops.toList.drop i=l->Lj P N ops (List.range' i l.length) g K
theorem W.Ax {id:Nat}{l:List Oper}{g:aM}{Φ:Exit->aM->Prop}(h:ar P N l.toArray l g (Φ .normal)):W P N (.region id l.toArray false) g Φ:=by
 refine W.region ?_;have:=h 0 (by simp)
 grind [List.range_eq_range']
theorem ar.nil (h:K g):ar P N ops [] g K:=λ_ _=>⟨g,.nil,h⟩
theorem drop_cons {i:Nat}{o:Oper}(h:ops.toList.drop i=o::l):ops[i]?=some o/\ops.toList.drop (i+1)=l:=by
 have h1:(ops.toList.drop i)[0]?=some o:=by rw [h]; rfl
 rw [List.getElem?_drop] at h1;refine ⟨by simpa using h1,?_⟩;rw [<- List.drop_drop,h];rfl
variable {d:Nat}{op:Op}{ty:TypeId}{pos:String}{after:Array Edge}{x:ab}
theorem ar.AD {r:Option ab}{o:Oper}(aS:o.dst=some d) (bc:N.ok d=true) (aW:g d=none) (aC:qb P g ops o r) (hk:ar P N ops l (x8 g d r) K):ar P N ops (o::l) g K:=by
 intro i hi;obtain ⟨h1,af⟩:=drop_cons hi;obtain ⟨g',ao,dj⟩:=hk (i+1) af;exact ⟨g',.step h1 aS aW bc aC ao,dj⟩
inductive K9 (g:aM) (d:Nat):aM->Prop
 | new (h:g d=none):K9 g d g
 | nj {y:ab}(h:g d=some y) (ak:leaf y=true):K9 g d (del g d)
inductive fw (g:aM) (ops:Array Oper):Option (Nat × Bool)->Prop
 | none:fw g ops none
 | yes {j t:Nat}{b:Bool}(h:(ops[j]?).bind (·.dst)=some t) (aO:g t=some (.lit (.bool b))):fw g ops (some (j,b))
variable {gd:Option (Nat × Bool)}{g1:aM}
theorem fw.del {y:ab}(h:fw g ops gd) (aS:g d=some y) (av:∀ b,y≠.lit (.bool b)):iB (del g d) ops ⟨some d,op,ty,pos,after,gd⟩ true:=by
 cases h with
 | none=>rfl
 | @yes j t b h aO =>
  have:t≠d:=by
   grind
  exact ⟨t,h,.inl ⟨b,by simp only [Own.del,if_neg this,aO],by simp⟩⟩
theorem fw.wanted (h:fw g ops gd):iB g ops ⟨some d,op,ty,pos,after,gd⟩ true:=by
 cases h with
 | none=>rfl
 | @yes j t b h aO=>exact ⟨t,h,.inl ⟨b,aO,by simp⟩⟩
theorem ar.KJ (au:ch P g op ty x) (bc:N.ok d=true) (aW:g d=none) (hw:iB g ops ⟨some d,op,ty,pos,after,gd⟩ true) (hk:ar P N ops l (cV g d x) K):ar P N ops (⟨some d,op,ty,pos,after,gd⟩::l) g K :=
 .AD rfl bc aW (r:=some x) (.inl ⟨hw,.inl au⟩) hk
theorem Zb:cV (del g d) d x=cV g d x:=by
 grind [cV,del]
theorem ar.val (au:c8 P g op ty x) (bc:N.ok d=true) (aW:g d=none) (aO:fw g ops gd) (hk:ar P N ops l (cV g d x) K):ar P N ops (⟨some d,op,ty,pos,after,gd⟩::l) g K :=
 .KJ (.eU au) bc aW aO.wanted hk
theorem ar.over {y:ab}(au:c8 P (del g d) op ty x) (bc:N.ok d=true) (aW:g d=some y) (ak:leaf y=true) (hk:ar P N ops l (cV g d x) K):ar P N ops (⟨some d,op,ty,pos,after,none⟩::l) g K:=by
 intro i hi;obtain ⟨g',ao,dj⟩:=ar.KJ (pos:=pos) (after:=after) (gd:=Option.none) (.eU au) bc (by simp [del]) (fw.wanted .none) (by rw [Zb]; exact hk) i hi;exact ⟨g',.drop aW ak ao,dj⟩
theorem ar.Zf (au:ch P g op ty x) (bc:N.ok d=true) (aW:g d=none) (aO:fw g ops gd) (hk:ar P N ops l (cV g d x) K):ar P N ops (⟨some d,op,ty,pos,after,gd⟩::l) g K :=
 .KJ au bc aW aO.wanted hk
theorem ar.call (au:cB P g op x) (bc:N.ok d=true) (aW:g d=none) (aO:fw g ops gd) (hk:ar P N ops l (cV g d x) K):ar P N ops (⟨some d,op,ty,pos,after,gd⟩::l) g K :=
 .AD rfl bc aW (r:=some x) (.inl ⟨aO.wanted,.inr au⟩) hk
theorem ar.pass {j t':Nat}{b:Bool}(h:(ops[j]?).bind (·.dst)=some t') (aO:g t'=some (.lit (.bool (!b)))) (bc:N.ok d=true) (aW:g d=none) (hk:ar P N ops l g K):ar P N ops (⟨some d,op,ty,pos,after,some (j,b)⟩::l) g K :=
 .AD rfl bc aW (r:=Option.none) ⟨t',h,.inl ⟨!b,aO,by cases b <;> rfl⟩⟩ hk
variable {jI:Option Nat}
theorem ar.forget {g1:aM}(hk:hC g g1) (h:ar P N ops l g1 K):ar P N ops l g K:=by
 intro i hi;obtain ⟨g',ao,dj⟩:=h i hi;exact ⟨g',.forget hk ao,dj⟩
variable {a b:Operand}{t t2:TypeId}{k:IntKind}{m n:Int}
theorem c8.add (J:Rd g a (.lit (.int k m))) (ax:Rd g b (.lit (.int k n))):c8 P g (.binOp .add t a b t2) ty (.lit (.int k (k.wrap (m+n)))) :=
 .bin J.bt ax.bt rfl λw=>by simp [eqGuard,binOp,Op.intArith]
theorem c8.YO (J:Rd g a (.lit (.int k m))) (ax:Rd g b (.lit (.int k n))):c8 P g (.binOp .sub t a b t2) ty (.lit (.int k (k.wrap (m - n)))) :=
 .bin J.bt ax.bt rfl λw=>by simp [eqGuard,binOp,Op.intArith]
theorem c8.mul (J:Rd g a (.lit (.int k m))) (ax:Rd g b (.lit (.int k n))):c8 P g (.binOp .mul t a b t2) ty (.lit (.int k (k.wrap (m * n)))) :=
 .bin J.bt ax.bt rfl λw=>by simp [eqGuard,binOp,Op.intArith]
theorem c8.quo (J:Rd g a (.lit (.int k m))) (ax:Rd g b (.lit (.int k n))) (h:n≠0):c8 P g (.binOp .quo t a b t2) ty (.lit (.int k (k.wrap (m.tdiv n)))) :=
 .bin J.bt ax.bt rfl λw=>by simp [eqGuard,binOp,Op.intDiv,h]
theorem c8.rem (J:Rd g a (.lit (.int k m))) (ax:Rd g b (.lit (.int k n))) (h:n≠0):c8 P g (.binOp .rem t a b t2) ty (.lit (.int k (m.tmod n))) :=
 .bin J.bt ax.bt rfl λw=>by simp [eqGuard,binOp,Op.intDiv,h]
theorem c8.cat {s u:ByteArray}(J:Rd g a (.lit (.string s))) (ax:Rd g b (.lit (.string u))) (h:s.size+u.size<=9223372036854775807):c8 P g (.binOp .add t a b t2) ty (.lit (.string (s++u))) :=
 .bin J.bt ax.bt rfl λw=>by
  have:¬ ((s.size+u.size:Nat):Int) > IntKind.i64.max:=by
   have:IntKind.i64.max=9223372036854775807:=by decide
   omega
  simp only [eqGuard,binOp,Op.stringOp,if_neg this];simp
theorem LW {s u:ByteArray}(h:s.toList=u.toList):s=u:=by
 have h1:s.data.toList=u.data.toList:=by
  grind [ByteArray.toList_eq]
 cases s
 simp_all
theorem c8.qj {s u:ByteArray}(J:Rd g a (.lit (.string s))) (ax:Rd g b (.lit (.string u))) {c:Bool}(aa:c=true↔s=u):c8 P g (.binOp .eql t a b t2) ty (.lit (.bool c)) :=
 .bin J.bt ax.bt rfl λw=>by
  have:(s.toList == u.toList)=c:=by
   rw [Bool.eq_iff_iff,aa];simp only [beq_iff_eq];exact ⟨LW,λh=>by rw [h]⟩
  simp [eqGuard,binOp,Op.stringOp,this]
theorem c8.ov {s u:ByteArray}(J:Rd g a (.lit (.string s))) (ax:Rd g b (.lit (.string u))) {c:Bool}(aa:c=true↔s≠u):c8 P g (.binOp .neq t a b t2) ty (.lit (.bool c)) :=
 .bin J.bt ax.bt rfl λw=>by
  have:(s.toList == u.toList)=!c:=by
   rw [Bool.eq_iff_iff];simp only [beq_iff_eq,Bool.not_eq_true'];cases c with
   | true=>simp only [true_iff] at aa; simp only [Bool.true_eq_false,iff_false]; exact λh=>aa (LW h)
   | false =>
    simp only [Bool.false_eq_true,false_iff,Decidable.not_not] at aa;simp [aa]
  simp [eqGuard,binOp,Op.stringOp,this]
theorem c8.lss (J:Rd g a (.lit (.int k m))) (ax:Rd g b (.lit (.int k n))) {c:Bool}(aa:c=true↔m<n):c8 P g (.binOp .lss t a b t2) ty (.lit (.bool c)) :=
 .bin J.bt ax.bt rfl λw=>by
  have:decide (m<n)=c:=by rw [Bool.eq_iff_iff,aa]; simp
  simp [eqGuard,binOp,Op.intCmp,this]
theorem c8.leq (J:Rd g a (.lit (.int k m))) (ax:Rd g b (.lit (.int k n))) {c:Bool}(aa:c=true↔m<=n):c8 P g (.binOp .leq t a b t2) ty (.lit (.bool c)) :=
 .bin J.bt ax.bt rfl λw=>by
  have:decide (m<=n)=c:=by rw [Bool.eq_iff_iff,aa]; simp
  simp [eqGuard,binOp,Op.intCmp,this]
theorem c8.gtr (J:Rd g a (.lit (.int k m))) (ax:Rd g b (.lit (.int k n))) {c:Bool}(aa:c=true↔n<m):c8 P g (.binOp .gtr t a b t2) ty (.lit (.bool c)) :=
 .bin J.bt ax.bt rfl λw=>by
  have:decide (n<m)=c:=by rw [Bool.eq_iff_iff,aa]; simp
  simp [eqGuard,binOp,Op.intCmp,this]
theorem c8.geq (J:Rd g a (.lit (.int k m))) (ax:Rd g b (.lit (.int k n))) {c:Bool}(aa:c=true↔n<=m):c8 P g (.binOp .geq t a b t2) ty (.lit (.bool c)) :=
 .bin J.bt ax.bt rfl λw=>by
  have:decide (n<=m)=c:=by rw [Bool.eq_iff_iff,aa]; simp
  simp [eqGuard,binOp,Op.intCmp,this]
theorem c8.eql (J:Rd g a (.lit (.int k m))) (ax:Rd g b (.lit (.int k n))) {c:Bool}(aa:c=true↔m=n):c8 P g (.binOp .eql t a b t2) ty (.lit (.bool c)) :=
 .bin J.bt ax.bt rfl λw=>by
  have:(m == n)=c:=by rw [Bool.eq_iff_iff,aa]; simp
  simp [eqGuard,binOp,Op.intCmp,this]
theorem c8.neq (J:Rd g a (.lit (.int k m))) (ax:Rd g b (.lit (.int k n))) {c:Bool}(aa:c=true↔m≠n):c8 P g (.binOp .neq t a b t2) ty (.lit (.bool c)) :=
 .bin J.bt ax.bt rfl λw=>by
  have:(m != n)=c:=by rw [Bool.eq_iff_iff,aa]; simp
  simp [eqGuard,binOp,Op.intCmp,this]
theorem c8.not {c:Bool}(J:Rd g a (.lit (.bool c))):c8 P g (.unOp .not t a) ty (.lit (.bool (!c))) :=
 .un J.bt rfl λw=>by simp [Op.unary]
theorem c8.XO {c a b:Operand}{y:ab}(aa:Rd g c (.lit (.bool true))) (ao:Rd g a y):c8 P g (.pick c a b) ty y:=.pick aa.bt ao.bt
theorem c8.XN {c a b:Operand}{y:ab}(aa:Rd g c (.lit (.bool false))) (ao:Rd g b y):c8 P g (.pick c a b) ty y:=.pick aa.bt ao.bt
theorem c8.ur {s:ByteArray}(J:Rd g a (.lit (.string s))) (aw:o1 P t=true):c8 P g (.call { callee:=.builtin .len,args:=#[a],argTypes:=#[t] }) ty (.lit (.int .i64 s.size)) :=
 .lits (vs:=[.string s]) (by simp [J.bt]) rfl λw cs=>by
  simp [builtin,Builtin.len_,run_underlying (KB aw),goInt]
section
variable {Ψ:aM->Prop}{Φ:Exit->aM->Prop}{id k:Nat}
theorem Y2 (h:Ψ g):o3 Ψ Φ .normal g:=h
theorem Y3 (h:Φ .ret g):o3 Ψ Φ .ret g:=h
theorem Y1 (h:Φ (.exit k) g):o3 Ψ Φ (.exit k) g:=h
theorem WT (h:Φ .normal g):ma id Φ .normal g:=h
theorem WU (h:Φ .ret g):ma id Φ .ret g:=h
theorem WR (h:Φ .normal g):ma id Φ (.exit id) g:=by
 show if id=id then Φ .normal g else Φ (.exit id) g
 grind
theorem WS (hk:Nat.beq k id=false) (h:Φ (.exit k) g):ma id Φ (.exit k) g:=by
 show if k=id then Φ .normal g else Φ (.exit k) g
 grind [Nat.ne_of_beq_eq_false]
end
def Fin (P:Program) (N:c6) (rs:List ResultVar) (n:Nat) (outs:List (Option ab)) (res:ab) (e:Exit) (g':aM):Prop:=(e=.normal\/e=.ret)/\Leaves P N rs g' n outs res
theorem bV.fin {f:FuncId}{fn:Func}{c:Code}{args:List ab}{outs:List (Option ab)}{res:ab}{N:c6}(aW:P.funcs[f]?=some fn) (av:fn.body=some c) (bc:fn.ntmps=N.size) (aP:Nat.ble args.length N.size=true) (hlen:outs.length=args.length)
  (hw:W P N c (qc args) (Fin P N fn.results.toList args.length outs res)):bV P f args outs res:=.Xj aW av bc (Nat.le_of_ble_eq_true aP) hlen hw
def sm (outs:List (Option ab)):Bool:=outs.all λx=>x.isNone
theorem Fm {outs:List (Option ab)}(h:sm outs=true) (k:Nat) (x:ab):outs[k]?≠some (some x):=by
 intro e;have:=List.all_eq_true.1 h _ (List.mem_of_getElem? e)
 grind
theorem Fin.one {t:Nat}{y res:ab}{outs:List (Option ab)}{n:Nat}(ax:Rd g (.tmp t) y) (aF:cU y) (a1:sm outs=true) (ak:outs.length=n) (he:y=res):Fin P N [.tmp t] n outs res .ret g :=
 ⟨.inr rfl,⟨[y],[y],g,.cons (.tmp ax.bt) .nil,.bn (by simpa using aF),he.symm,λk x hk=>absurd hk (Fm a1 k x)⟩,ak⟩
inductive A2 (g:aM):List ResultVar->List ab->Prop
 | nil:A2 g [] []
 | cons {t:Nat}{y:ab}{rs:List ResultVar}{ys:List ab}(h:Rd g (.tmp t) y) (aF:cU y) (aw:A2 g rs ys):A2 g (.tmp t::rs) (y::ys)
theorem A2.spec {rs:List ResultVar}{ys:List ab}(h:A2 g rs ys):rM P g rs ys/\∀ y∈ys,cU y:=by
 induction h with
 | nil=>exact ⟨.nil,by simp⟩
 | cons h aF _ aU=>exact ⟨.cons (.tmp h.bt) aU.1,pQ aF aU.2⟩
inductive qZ (g:aM):List Operand->List ab->Prop
 | nil:qZ g [] []
 | cons {x:Operand}{y:ab}{xs:List Operand}{ys:List ab}(h:Rd g x y) (aF:cU y) (aw:qZ g xs ys):qZ g (x::xs) (y::ys)
theorem qZ.spec {xs:List Operand}{ys:List ab}(h:qZ g xs ys):gn g xs=some ys/\∀ y∈ys,cU y:=by
 induction h with
 | nil=>exact ⟨rfl,by simp⟩
 | cons h aF _ aU=>exact ⟨by simp only [gn,h.bt,aU.1],pQ aF aU.2⟩
theorem cB.Tc {xs:List Operand}{gq:Array TypeId}{f:FuncId}{ys:List ab}{outs:List (Option ab)}{res:ab}(gQ:bV P f ys outs res) (aW:gN P f=true) (J:qZ g xs ys) (a1:sm outs=true) (ao:cU res) :
  cB P g (.call { callee:=.value (.func f),args:=xs.toArray,argTypes:=gq }) res:=by
 have r8:outs=ys.map λ_=>Option.none:=by
  apply List.ext_getElem?;intro k;rw [List.getElem?_map];cases ax:ys[k]? with
  | none=>rw [List.getElem?_eq_none (by rw [gQ.1]; exact List.getElem?_eq_none_iff.1 ax)]; rfl
  | some y =>
   have hk:k<outs.length:=by rw [gQ.1]; exact (List.getElem?_eq_some_iff.1 ax).1
   have h1:=List.getElem?_eq_getElem hk;rw [h1];cases af:outs[k] with
   | none=>rfl
   | some x=>rw [af] at h1; exact absurd h1 (Fm a1 k x)
 exact .plain (first:=[]) (caps:=[]) (ys:=ys) rfl (by simpa using J.spec.1) aW (by simpa using J.spec.2) (by simpa [<- r8] using gQ) ao
end
end Go.Own
namespace Go.Own
open Go
def lD (s:ByteArray) (m:Int):Int:=((s[m.toNat]?.getD 0).toNat:Nat)
def rS (s:ByteArray) (m n:Int):ByteArray:=s.extract m.toNat n.toNat
section
variable {P:Program}{N:c6}{ops:Array Oper}{g:aM}{K:aM->Prop}{l:List Oper}
variable {d:Nat}{op:Op}{ty:TypeId}{pos:String}{after:Array Edge}{x:ab}{a b:Operand}{t t2:TypeId}{k:IntKind}{m n:Int}{gd:Option (Nat × Bool)}
theorem c8.RM {s:ByteArray}{i:Operand}(J:Rd g a (.lit (.string s))) (hi:Rd g i (.lit (.int k m))) (aw:o1 P t=true) (h:0<=m/\m<s.size):c8 P g (.index t a i) ty (.lit (.int .u8 (lD s m))):=by
 obtain ⟨j,rfl⟩:=Int.eq_ofNat_of_zero_le h.1;have ah:j<s.size:=by omega
 have av:s[j]?=some s[j]:=getElem?_pos s j ah;have:lD s (j:Int)=(s[j].toNat:Nat):=by simp [lD,av]
 rw [this];exact .E0 J.bt hi.bt aw av
theorem c8.P6 {s:ByteArray}{lo hi:Operand}{pN:IntKind}(J:Rd g a (.lit (.string s))) (ak:Rd g lo (.lit (.int k m))) (bY:Rd g hi (.lit (.int pN n))) (aw:o1 P t=true) (h:0<=m/\m<=n/\n<=s.size) :
  c8 P g (.slice t a (some lo) (some hi) none) ty (.lit (.string (rS s m n))):=by
 obtain ⟨i,rfl⟩:=Int.eq_ofNat_of_zero_le h.1;obtain ⟨j,rfl⟩:=Int.eq_ofNat_of_zero_le (show 0<=n by omega);exact .AB J.bt ⟨_,ak.bt⟩ ⟨_,bY.bt⟩ aw (by omega) (by omega)
theorem c8.Yy {s:ByteArray}{hi:Operand}{pN:IntKind}(J:Rd g a (.lit (.string s))) (bY:Rd g hi (.lit (.int pN n))) (aw:o1 P t=true) (h:0<=n/\n<=s.size) :
  c8 P g (.slice t a none (some hi) none) ty (.lit (.string (rS s 0 n))):=by
 obtain ⟨j,rfl⟩:=Int.eq_ofNat_of_zero_le h.1;exact .AB (l:=0) J.bt rfl ⟨_,bY.bt⟩ aw (by omega) (by omega)
theorem c8.Yz {s:ByteArray}{lo:Operand}(J:Rd g a (.lit (.string s))) (ak:Rd g lo (.lit (.int k m))) (aw:o1 P t=true) (h:0<=m/\m<=s.size) :
  c8 P g (.slice t a (some lo) none none) ty (.lit (.string (rS s m s.size))):=by
 obtain ⟨j,rfl⟩:=Int.eq_ofNat_of_zero_le h.1;exact .AB (h:=s.size) J.bt ⟨_,ak.bt⟩ rfl aw (by omega) (by omega)
theorem SZ {s:ByteArray}{m n:Int}(h:0<=m/\m<=n/\n<=s.size):((rS s m n).size:Int)=n - m:=by
 grind [rS,ByteArray.size_extract]
theorem c8.bytes {z p iZ:Nat}{cs:List ab}{xs:List Int}(J:g p=some (.own 1 iZ cs)) (hE:cs=xs.map λb=>.lit (.int .u8 b)) (ak:cs.length=iZ) (aw:wI P t t2=true) (_hz:z=0):c8 P g (.convert t t2 (.tmp p)) ty (.lit (.string (strOfNums xs))) :=
 .Eb (p:=⟨p,[]⟩) (n:=iZ) (N:=iZ) (cs:=cs) (by simp [bt,J,ry,gx]) (by simp [bD,J,ab.at]) (Nat.le_refl _) (by rw [List.take_of_length_le (by omega)]; exact hE) aw
def ic (P:Program) (e:TypeId) (z:Nat):Bool :=
 match (P.info? e).bind (·.zero) with
 | some v=>v.cells.size == z
 | none=>false
theorem KZ {e:TypeId}{z:Nat}(h:ic P e z=true):∃ v,(P.info? e).bind (·.zero)=some v/\v.cells.size=z:=by
 grind [ic]
inductive tm (g:aM):List Operand->List Value->Prop
 | nil:tm g [] []
 | cons {x:Operand}{v:Value}{xs:List Operand}{vs:List Value}(h:Rd g x (.lit v)) (aw:tm g xs vs):tm g (x::xs) (v::vs)
theorem tm.gn {xs:List Operand}{vs:List Value}(h:tm g xs vs):gn g xs=some (vs.map .lit):=by
 induction h with
 | nil=>rfl
 | cons h _ aU=>simp only [Own.gn,h.bt,aU]; rfl
theorem tm.map {xs:List Operand}{vs:List Value}(h:tm g xs vs):xs.map (bt g)=vs.map λv=>some (.lit v):=by
 induction h with
 | nil=>rfl
 | cons h _ aU=>simp only [List.map_cons,h.bt,aU]
theorem ch.row {e:TypeId}{xs:List Operand}{vs:List Value}{parts:Array (Nat × Operand)}{dz:Nat}(J:tm g xs vs) (au:parts.toList=xs.mapIdx (λi x=>(i,x))) (aF:xs.length=dz) (aw:fu P t e 1=true) (aY:ic P e 1=true) (av:Nat.ble dz 1000=true) :
  ch P g (.buildSlice t dz parts) ty (.own 1 dz (vs.map .lit)):=by
 subst aF;have l4:=Nat.le_of_ble_eq_true av;refine .qG (.buildSlice aw au J.gn (λy ax=>?_) ?_ (by omega) (by omega) (.inr (KZ aY)))
 ·obtain ⟨v,_,rfl⟩:=List.mem_map.1 ax;exact ⟨[.lit v],rfl,rfl⟩
 ·generalize vs=l
  induction l with
  | nil=>rfl
  | cons v l aU=>simp only [List.map_cons,mm,jS,aU]; rfl
inductive tn (g:aM):List Nat->List (Nat × ab)->Prop
 | nil:tn g [] []
 | some {s:Nat}{x:ab}{tc:List Nat}{l:List (Nat × ab)}(h:g s=some x) (aF:cU x) (aw:tn g tc l):tn g (s::tc) ((s,x)::l)
 | none {s:Nat}{tc:List Nat}{l:List (Nat × ab)}(aw:tn g tc l):tn g (s::tc) l
theorem tn.spec {g:aM}{tc:List Nat}{l:List (Nat × ab)}(h:tn g tc l):∀ t x,get l t=Option.some x->g t=Option.some x/\cU x:=by
 induction h with
 | nil=>intro t x J; cases J
 | @some s y tc l h aF _ aU =>
  grind [get]
 | none _ aU=>exact aU
theorem tn.eW {g:aM}{tc:List Nat}{l:List (Nat × ab)}(h:tn g tc l):kp g (get l) :=
 ⟨λt x J=>⟨x,(h.spec t x J).1,.refl⟩,λt x J=>.bn (h.spec t x J).2,λt z q n m new J=>by have:=(h.spec t _ J).2; cases this⟩
end
end Go.Own
namespace Go.Own
open Go
def oF (s:ByteArray) (n:Nat):Prop:=s.size<=n
theorem oF.app {s u:ByteArray}{a b:Nat}(h:oF s a) (aQ:oF u b):oF (s++u) (a+b):=by
 unfold oF at *;rw [ByteArray.size_append]; omega
theorem oF.cut {s:ByteArray}{a:Nat}{m n:Int}(h:oF s a):oF (rS s m n) a:=by
 unfold oF rS at *;rw [ByteArray.size_extract]; omega
theorem oF.const {xs:Array UInt8}:oF ⟨xs⟩ xs.size:=Nat.le_refl _
theorem oF.of {s:ByteArray}{n:Nat}(h:s.size<=n):oF s n:=h
theorem oF.self {s:ByteArray}:oF s s.size:=Nat.le_refl _
section
variable {P:Program}{g:aM}{ty:TypeId}{a b:Operand}{t t2:TypeId}{N:c6}{ops:Array Oper}{K:aM->Prop}{l:List Oper}{d:Nat}{pos:String}{after:Array Edge}{gd:Option (Nat × Bool)}
theorem W.Mc {c:Operand}{x y:Code}{Φ:Exit->aM->Prop}{b:Bool}(aa:Rd g c (.lit (.bool b))) (dL:b=true->W P N x g Φ) (aN:b=false->W P N y g Φ):W P N (.cond c x y) g Φ:=by
 cases b with
 | true=>exact .Md aa.bt (dL rfl)
 | false=>exact .Mb aa.bt (aN rfl)
theorem Yd {c e:Bool}(aw:P.underlying t=some .bool) (w:World):(do eqGuard .eql t a b (.bool c) (.bool e); binOp .eql t (.bool c) (.bool e):Sem Value).run P w=.ok (.bool (c == e)) w:=by
 have h:=run_equal_bool w t c e aw;simp [eqGuard,binOp,h]
def G6 (P:Program) (t:TypeId):Bool :=
 match P.underlying t with
 | some .bool=>true
 | _=>false
theorem RS (h:G6 P t=true):P.underlying t=some .bool:=by
 unfold G6 at h
 split at h
 ·assumption
 ·cases h
def xt (P:Program) (t:TypeId) (k:IntKind):Bool :=
 match P.underlying t with
 | some (.int kT)=>kT == k
 | _=>false
theorem Ov {k:IntKind}(h:xt P t k=true):P.underlying t=some (.int k):=by
 unfold xt at h
 split at h
 ·rename_i kT hk; rw [hk]; have:kT=k:=by simpa using h
  rw [this]
 ·cases h
theorem c8.SS {k kT:IntKind}{m:Int}(J:Rd g a (.lit (.int k m))) (aC:xt P t k=true) (aS:xt P t2 kT=true):c8 P g (.convert t t2 a) ty (.lit (.int kT (kT.wrap m))) :=
 .conv J.bt rfl λw=>by simp [convert,run_underlying (Ov aC),run_underlying (Ov aS),Conv.intToInt]
inductive Bytes (g:aM):List Operand->List Int->Prop
 | nil:Bytes g [] []
 | cons {x:Operand}{v:Int}{xs:List Operand}{vs:List Int}(h:Rd g x (.lit (.int .u8 v))) (aw:Bytes g xs vs):Bytes g (x::xs) (v::vs)
theorem Bytes.lits {xs:List Operand}{vs:List Int}(h:Bytes g xs vs):tm g xs (vs.map λb=>.int .u8 b):=by
 induction h with
 | nil=>exact .nil
 | cons h _ aU=>exact .cons h aU
end
end Go.Own
namespace Go.Own
open Go Go.RowKit
theorem cG.lits {w:World}(vs:List Value) (h:∀ v∈vs,v.oneCell'=true):cG w (λ_=>False) vs.toArray (qc (vs.map .lit)) (λ_=>cy):=by
 refine ⟨λt x J=>?_,λ_ _ _ h=>h,λ_ _ _ h=>h.elim,λ_ _ h=>h.elim,λ_ h=>h.elim,λt t' z p n m new bE cF m' c5 h1 _=>?_⟩
 ·simp only [qc,List.getElem?_map] at J;cases hv:vs[t]? with
  | none=>rw [hv] at J; cases J
  | some v =>
   rw [hv] at J;simp only [Option.map_some,Option.some.injEq] at J;subst J;exact ⟨v,by simpa using hv,.tree (.lit (h v (List.mem_of_getElem? hv)) λ_ h=>h)⟩
 grind [qc]
end Go.Own
namespace Go.Own
open Go
section
variable {P:Program}{g:aM}{ty:TypeId}{a b:Operand}{t t2:TypeId}{N:c6}{ops:Array Oper}{K:aM->Prop}{l:List Oper}{d:Nat}{pos:String}{after:Array Edge}{gd:Option (Nat × Bool)}
theorem c8.mB {z n bE:Nat}{p:Place}{e:TypeId}(J:Rd g a (.a6 z p n)) (aw:fu P t e bE=true):c8 P g (.call { callee:=.builtin .len,args:=#[a],argTypes:=#[t] }) ty (.lit (.int .i64 n)):=.Cs J.bt aw
theorem c8.kv {z n bE:Nat}{cs:List ab}{e:TypeId}(J:Rd g a (.bm z n cs)) (aw:fu P t e bE=true):c8 P g (.call { callee:=.builtin .len,args:=#[a],argTypes:=#[t] }) ty (.lit (.int .i64 n)):=.Ct J.bt aw
end
end Go.Own
namespace Go.Own
open Go
end Go.Own
namespace Go.Own
open Go
structure bJ (α:Type) where
 z:Nat
 cells:α->List ab
 len:∀ a,(cells a).length=z
 bn:∀ a,∀ x∈cells a,cU x
variable {α β S R:Type}
def bo (e:bJ α) (l:List α):List ab:=l.flatMap e.cells
abbrev aj (e:bJ α) (l:List α):ab:=.own e.z l.length (bo e l)
abbrev ag (e:bJ α) (l:List α):ab:=.bm e.z l.length (bo e l)
abbrev ae (n:Int):ab:=.lit (.int .i64 n)
abbrev q3 (n:Int):ab:=.lit (.int .u8 n)
abbrev a_ (b:Bool):ab:=.lit (.bool b)
abbrev ay (s:ByteArray):ab:=.lit (.string s)
abbrev aL (n:Int):Int:=IntKind.i64.wrap n
abbrev yq (n:Int):Int:=IntKind.u8.wrap n
theorem nm (e:bJ α) (l:List α):(bo e l).length=l.length * e.z:=by
 induction l with
 | nil=>simp [bo]
 | cons a l aU =>
  have:bo e (a::l)=e.cells a++bo e l:=by simp [bo]
  rw [this,List.length_append,e.len,aU,List.length_cons,Nat.add_mul]; omega
theorem pV (e:bJ α) (l:List α):∀ x∈bo e l,cU x:=by
 intro x J;obtain ⟨a,_,h⟩:=List.mem_flatMap.1 J;exact e.bn a x h
theorem FO (e:bJ α) (l m:List α):bo e (l++m)=bo e l++bo e m:=by simp [bo]
theorem Ay (e:bJ α):∀ (l:List α) (i:Nat),(bo e l).drop (i * e.z)=bo e (l.drop i)
 | l,0=>by simp
 | [],i+1=>by simp [bo]
 | a::l,i+1=>by
  have h:bo e (a::l)=e.cells a++bo e l:=by simp [bo]
  rw [h,List.drop_append,e.len,List.drop_eq_nil_of_le (by rw [e.len,Nat.add_mul]; omega)];have:(i+1) * e.z - e.z=i * e.z:=by rw [Nat.add_mul]; omega
  rw [this,List.nil_append,Ay e l i]; rfl
theorem yd (e:bJ α):∀ (l:List α) (i:Nat),(bo e l).take (i * e.z)=bo e (l.take i)
 | l,0=>by simp [bo]
 | [],i+1=>by simp [bo]
 | a::l,i+1=>by
  have h:bo e (a::l)=e.cells a++bo e l:=by simp [bo]
  rw [h,List.take_append,e.len,List.take_of_length_le (by rw [e.len,Nat.add_mul]; omega)];have:(i+1) * e.z - e.z=i * e.z:=by rw [Nat.add_mul]; omega
  rw [this,yd e l i]; simp [bo]
def idx (l:List α) (i:Int):Option α:=if 0<=i then l[i.toNat]? else none
theorem pL {l:List α}{i:Int}{y:α}(h:idx l i=some y):0<=i/\i<l.length/\l[i.toNat]?=some y:=by
 grind [idx]
theorem Kk (e:bJ α) {l:List α}{i:Int}{y:α}(h:idx l i=some y):(bo e l).drop (i.toNat * e.z)=e.cells y++bo e (l.drop (i.toNat+1)):=by
 obtain ⟨aR,h1,af⟩:=pL h
 grind [Ay,List.drop_eq_getElem_cons,bo]
theorem Kj (e:bJ α) {l:List α}{i:Int}{y:α}(h:idx l i=some y) {k:Nat}{x:ab}(hk:(e.cells y)[k]?=some x):(bo e l)[i.toNat * e.z+k]?=some x:=by
 have aT:=(List.getElem?_eq_some_iff.1 hk).1;rw [<- List.getElem?_drop,Kk e h,List.getElem?_append_left aT]; exact hk
abbrev lim:Nat:=1099511627776
def fuel:Nat:=1000000000000000000
def iter (f:S->Option (S ⊕ R)):Nat->S->Option R
 | 0,_=>none
 | n+1,s=>match f s with
  | none=>none
  | some (.inl cT)=>iter f n cT
  | some (.inr r)=>some r
def b4 (f:S->Option (S ⊕ R)) (s:S):Option R:=iter f fuel s
theorem k7 {o:Option α}{f:α->Option β}{r:β}(h:o.bind f=some r):∃ y,o=some y/\f y=some r:=Option.bind_eq_some_iff.1 h
theorem Sq {b:Bool}{x y o:α}(av:b=true) (h:cond b x y=o):x=o:=by
 grind
theorem Sp {b:Bool}{x y o:α}(av:b=false) (h:cond b x y=o):y=o:=by
 grind
theorem fq {b:Bool}{x y o:α}(h:cond b x y=o):(b=true/\x=o)\/(b=false/\y=o):=by
 grind
theorem aV {a b:α}(h:some a=some b):a=b:=by grind
class cg (x:ab):Prop where bn:cU x
class dp (cs:List ab):Prop where bn:∀ x∈cs,cU x
instance {v:Value}:cg (.lit v):=⟨.lit⟩
instance:cg .aK:=⟨.aK⟩
instance:cg .dead:=⟨.dead⟩
instance {z n:Nat}{cs:List ab} [h:dp cs]:cg (.bm z n cs):=⟨.bm h.bn⟩
instance {z n:Nat}{cs:List ab} [h:dp cs]:cg (.own z n cs):=⟨.own h.bn⟩
instance {cs:List ab} [h:dp cs]:cg (.obj cs):=⟨.obj h.bn⟩
instance {cs:List ab} [h:dp cs]:cg (.agg cs):=⟨.agg h.bn⟩
instance {cs:List ab} [h:dp cs]:cg (.bW cs):=⟨.bW h.bn⟩
instance {cs:List ab} [h:dp cs]:cg (.cI cs):=⟨.cI h.bn⟩
instance {f:Fn}{a b:List ab} [h:dp a] [aQ:dp b]:cg (.cW f a b):=⟨.cW h.bn aQ.bn⟩
instance:dp []:=⟨by simp⟩
instance {x:ab}{cs:List ab} [h:cg x] [aQ:dp cs]:dp (x::cs):=⟨pQ h.bn aQ.bn⟩
instance {e:bJ α}{l:List α}:dp (bo e l):=⟨pV e l⟩
instance {e:bJ α}{a:α}:dp (e.cells a):=⟨e.bn a⟩
instance {a b:List ab} [h:dp a] [aQ:dp b]:dp (a++b):=⟨λx J=>(List.mem_append.1 J).elim (h.bn x) (aQ.bn x)⟩
instance {a:List ab}{n:Nat} [h:dp a]:dp (a.drop n):=⟨λx J=>h.bn x (List.mem_of_mem_drop J)⟩
instance {a:List ab}{n:Nat} [h:dp a]:dp (a.take n):=⟨λx J=>h.bn x (List.mem_of_mem_take J)⟩
instance {v:Value}{n:Nat}:dp (List.replicate n (.lit v)):=⟨λx J=>by rw [(List.mem_replicate.1 J).2]; exact .lit⟩
abbrev bJ.one (f:α->ab) (h:∀ a,cU (f a)):bJ α:=⟨1,λa=>[f a],λ_=>rfl,λa x J=>by rw [List.mem_singleton.1 J]; exact h a⟩
def ai:bJ Int:=.one (λn=>ae n) λ_=>.lit
def qi:bJ Int:=.one (λn=>q3 n) λ_=>.lit
def cr:bJ Bool:=.one (λb=>a_ b) λ_=>.lit
def dx:bJ ByteArray:=.one (λs=>ay s) λ_=>.lit
def Mr (e:bJ α):bJ (List α):=.one (λl=>aj e l) λl=>.own (pV e l)
def bp (e:bJ α):bJ (List α):=.one (λl=>ag e l) λl=>.bm (pV e l)
inductive Trim (b:Bool) (g g2:aM):List (Nat × ab)->Prop
 | nil:Trim b g g2 []
 | n {s:Nat}{x:ab}{l:List (Nat × ab)}(h:g s=some x) [aF:cg x] (t:Trim b g g2 l):Trim b g g2 ((s,x)::l)
 | r {s:Nat}{x:ab}{l:List (Nat × ab)}(h:g s=some x) (aF:di g2 x) (au:∀ z p n m new,x≠.bM z p n m new) (t:Trim b g g2 l):Trim b g g2 ((s,x)::l)
 | e {s:Nat}{x y:ab}{l:List (Nat × ab)}(h:g s=some y) (he:y=x) [aF:cg x] (t:Trim b g g2 l):Trim b g g2 ((s,x)::l)
 | w {s:Nat}{x y:ab}{l:List (Nat × ab)}(av:b=true) (h:g s=some y) (hw:pe y x) [aF:cg x] (t:Trim b g g2 l):Trim b g g2 ((s,x)::l)
theorem Trim.spec {b:Bool}{g g2:aM}{l:List (Nat × ab)}(h:Trim b g g2 l):∀ t x,get l t=some x->(∃ y,g t=some y/\pe y x/\(b=false->y=x))/\di g2 x/\∀ z p n m new,x≠.bM z p n m new:=by
 have fA:∀ {x:ab},cU x->∀ z p n m new,x≠.bM z p n m new:=by rintro x h z p n m new rfl; cases h
 induction h with
 | nil=>intro t x J; cases J
 | @n _ _ _ h aF _ aU =>
  intro t x J;simp only [get] at J
  split at J
  ·rename_i e;subst e;cases J;exact ⟨⟨_,h,.refl,λ_=>rfl⟩,.bn aF.bn,fA aF.bn⟩
  grind
 | r h aF au _ aU =>
  intro t x J;simp only [get] at J
  split at J
  ·rename_i e;subst e;cases J;exact ⟨⟨_,h,.refl,λ_=>rfl⟩,aF,au⟩
  grind
 | @e _ _ _ _ h he aF _ aU =>
  intro t x J;simp only [get] at J
  split at J
  ·rename_i e;subst e he;cases J;exact ⟨⟨_,h,.refl,λ_=>rfl⟩,.bn aF.bn,fA aF.bn⟩
  grind
 | @w _ _ _ _ av h hw aF _ aU =>
  intro t x J;simp only [get] at J
  split at J
  ·rename_i e;subst e;cases J;exact ⟨⟨_,h,hw,λh=>by rw [av] at h; cases h⟩,.bn aF.bn,fA aF.bn⟩
  grind
theorem Trim.eW {b:Bool}{g:aM}{l:List (Nat × ab)}(h:Trim b g (get l) l):kp g (get l) :=
 ⟨λt x J=>by obtain ⟨⟨y,h1,af,_⟩,_⟩:=h.spec t x J; exact ⟨y,h1,af⟩,λt x J=>(h.spec t x J).2.1,λt z q n m new J=>(h.spec t _ J).2.2 _ _ _ _ _ rfl⟩
theorem Trim.keep {g:aM}{l:List (Nat × ab)}(h:Trim false g (get l) l):hC g (get l) :=
 ⟨λt x J=>by obtain ⟨⟨y,h1,_,aI⟩,_⟩:=h.spec t x J; rw [<- aI rfl]; exact h1,λt x J=>(h.spec t x J).2.1,λt z q n m new J=>(h.spec t _ J).2.2 _ _ _ _ _ rfl⟩
section
variable {P:Program}{N:c6}{ops:Array Oper}{g:aM}{K:aM->Prop}{l:List Oper}{d:Nat}{op:Op}{ty:TypeId}{pos:String}{after:Array Edge}{x:ab}{gd:Option (Nat × Bool)}
def jF (P:Program) (N:c6) (c:Code) (G G1:List (Nat × ab)):Prop:=W P N c (get G) λe g'=>e=.normal/\kp g' (get G1)
theorem W.bw {A B:Code}{G G1:List (Nat × ab)}{Φ:Exit->aM->Prop}(h1:jF P N A G G1) (af:W P N B (get G1) Φ):W P N (.seq A B) (get G) Φ:=by
 refine W.seq (W.out h1 λe g' h=>⟨get G1,h.2,?_⟩);obtain ⟨rfl,_⟩:=h;exact af
theorem W.bB {A B:Code}{G:List (Nat × ab)}{Φ:Exit->aM->Prop}(h:W P N A (get G) (o3 (λg1=>W P N B g1 Φ) Φ)):W P N (.seq A B) (get G) Φ:=W.seq h
theorem jF.rg {id:Nat}{l:List Oper}{G G1:List (Nat × ab)}(h:ar P N l.toArray l (get G) λg'=>kp g' (get G1)):jF P N (.region id l.toArray false) G G1 :=
 W.Ax (λi hi=>by obtain ⟨g',h1,af⟩:=h i hi; exact ⟨g',h1,rfl,af⟩)
theorem ar.fin {G1:List (Nat × ab)}(h:Trim true g (get G1) G1):ar P N ops [] g λg'=>kp g' (get G1):=.nil h.eW
theorem ar.Dk {G1:List (Nat × ab)}(h:Trim false g (get G1) G1) (hk:ar P N ops l (get G1) K):ar P N ops l g K:=.forget h.keep hk
theorem ar.v (au:ch P g op ty x) (bc:N.ok d=true) (aW:g d=none) (aO:fw g ops gd) (hk:ar P N ops l (cV g d x) K):ar P N ops (⟨some d,op,ty,pos,after,gd⟩::l) g K:=.Zf au bc aW aO hk
theorem ar.c (au:cB P g op x) (bc:N.ok d=true) (aW:g d=none) (aO:fw g ops gd) (hk:ar P N ops l (cV g d x) K):ar P N ops (⟨some d,op,ty,pos,after,gd⟩::l) g K:=.call au bc aW aO hk
theorem fw.fi {j t:Nat}{b c:Bool}(h:(ops[j]?).bind (·.dst)=some t) (aO:g t=some (.lit (.bool c))) (av:c=b):fw g ops (some (j,b)):=by subst av; exact .yes h aO
theorem ar.ps {j t':Nat}{b c:Bool}(h:(ops[j]?).bind (·.dst)=some t') (aO:g t'=some (.lit (.bool c))) (av:c=!b) (bc:N.ok d=true) (aW:g d=none) (hk:ar P N ops l (cV g d (.bW [])) K):ar P N ops (⟨some d,op,ty,pos,after,some (j,b)⟩::l) g K:=by
 subst av; exact .AD rfl bc aW (r:=some (.bW [])) (.inr (.inl ⟨⟨t',h,.inl ⟨_,aO,by cases b <;> rfl⟩⟩,rfl⟩)) hk
theorem ar.pu {j t':Nat}{b:Bool}(h:(ops[j]?).bind (·.dst)=some t') (aO:g t'=some (.bW [])) (bc:N.ok d=true) (aW:g d=none) (hk:ar P N ops l (cV g d (.bW [])) K):ar P N ops (⟨some d,op,ty,pos,after,some (j,b)⟩::l) g K :=
 .AD rfl bc aW (r:=some (.bW [])) (.inr (.inl ⟨⟨t',h,.inr ⟨aO,rfl⟩⟩,rfl⟩)) hk
theorem jF.skip {G G1:List (Nat × ab)}(h:Trim true (get G) (get G1) G1):jF P N .skip G G1:=W.skip ⟨rfl,h.eW⟩
theorem jF.fq {t:Nat}{A B:Code}{b:Bool}{G G1:List (Nat × ab)}(aa:get G t=some (a_ b)) (dL:b=true->jF P N A G G1) (aN:b=false->jF P N B G G1):jF P N (.cond (.tmp t) A B) G G1:=W.Mc (.lit aa) dL aN
theorem W.fq {t:Nat}{A B:Code}{b:Bool}{G:List (Nat × ab)}{Φ:Exit->aM->Prop}(aa:get G t=some (a_ b)) (dL:b=true->W P N A (get G) Φ) (aN:b=false->W P N B (get G) Φ):W P N (.cond (.tmp t) A B) (get G) Φ:=W.Mc (.lit aa) dL aN
theorem jF.bw {A B:Code}{G G1 G2:List (Nat × ab)}(h1:jF P N A G G1) (af:jF P N B G1 G2):jF P N (.seq A B) G G2:=W.bw h1 af
theorem jF.D8 {id:Nat}{c:Code}{G G1:List (Nat × ab)}(h:W P N c (get G) λe g'=>(e=.normal\/e=.exit id)/\kp g' (get G1)):jF P N (.block id c) G G1:=by
 refine W.block (h.mono ?_);rintro e g' ⟨rfl | rfl,h⟩
 ·exact ⟨rfl,h⟩
 ·show if id=id then _ else _
  grind
end
end Go.Own
namespace Go.Own
open Go
variable {α β:Type}
def kq (s:ByteArray) (m:Int):Option Int:=if 0<=m/\m<s.size then some (lD s m) else none
def q8 (s:ByteArray) (m n:Int):Option ByteArray:=if 0<=m/\m<=n/\n<=s.size then some (rS s m n) else none
def tF (s u:ByteArray):Option ByteArray:=if s.size+u.size<=4611686018427387904 then some (s++u) else none
def FG (m n:Int):Option Int:=if n=0 then none else some (aL (m.tdiv n))
def rz (m n:Int):Option Int:=if n=0 then none else some (m.tmod n)
def nW (l:List α) (m n:Int):Option (List α):=if 0<=m/\m<=n/\n<=l.length then some ((l.drop m.toNat).take (n - m).toNat) else none
def l3:ab->Bool
 | .lit _ | .aK | .bm .. | .cI _ | .cW .. | .ptr .. | .a6 .. | .sub .. | .gB .. | .imp ..=>true
 | _=>false
theorem Tu {d:Nat}{p:Place}{x:ab}(h:l3 x=true):gx d p x=x:=by
 cases x <;> simp [l3] at h <;> cases d <;> rfl
theorem Tv {t:Nat}{x:ab}(h:l3 x=true):ry t x=x:=by
 cases x <;> simp [l3] at h <;> rfl
theorem Bq {d:Nat}{q:Nat->Place}{cs:List ab}(h:cs.all l3=true):(cs.mapIdx λi x=>gx d (q i) x)=cs:=by
 apply List.ext_getElem?;intro k;rw [List.getElem?_mapIdx];cases hk:cs[k]? with
 | none=>rfl
 | some x=>simp only [Option.map_some,Tu (List.all_eq_true.1 h x (List.mem_of_getElem? hk))]
section
variable {P:Program}{N:c6}{ops:Array Oper}{g:aM}{K:aM->Prop}{l:List Oper}{d:Nat}{ty t t2:TypeId}{a b c:Operand}{k kT:IntKind}{m n:Int}{s u:ByteArray}{p q e:Bool}
theorem Rd.f {t:Nat}{x:ab}(h:g t=some x) (aW:l3 x=true):Own.bt g (.tmp t)=some x:=by simp only [Own.bt,h,Option.map_some,Tv aW]
theorem Rd.ds {t:Nat}{cs:List ab}(h:g t=some (.agg cs)) (aW:cs.all l3=true):Rd g (.tmp t) (.agg cs):=.agg h (Bq aW)
theorem Rd.KG {t:Nat}{cs:List ab}(h:g t=some (.bW cs)) (aW:cs.all l3=true):Rd g (.tmp t) (.bW cs):=.bW h (Bq aW)
namespace O
theorem aX {y:ab}(h:Rd g a y):ch P g (.move a) ty y:=.eU (.move h.bt)
theorem az {y:ab}(h:Rd g a y):ch P g (.assign a) ty y:=.eU (.assign h.bt)
theorem hG {y:ab}(aa:Rd g c (a_ p)) (av:p=true) (h:Rd g a y):ch P g (.pick c a b) ty y:=by subst av; exact .eU (.XO aa h)
theorem dA {y:ab}(aa:Rd g c (a_ p)) (av:p=false) (h:Rd g b y):ch P g (.pick c a b) ty y:=by subst av; exact .eU (.XN aa h)
theorem add (J:Rd g a (.lit (.int k m))) (ax:Rd g b (.lit (.int k n))):ch P g (.binOp .add t a b t2) ty (.lit (.int k (k.wrap (m+n)))):=.eU (.add J ax)
theorem sub (J:Rd g a (.lit (.int k m))) (ax:Rd g b (.lit (.int k n))):ch P g (.binOp .sub t a b t2) ty (.lit (.int k (k.wrap (m - n)))):=.eU (.YO J ax)
theorem mul (J:Rd g a (.lit (.int k m))) (ax:Rd g b (.lit (.int k n))):ch P g (.binOp .mul t a b t2) ty (.lit (.int k (k.wrap (m * n)))):=.eU (.mul J ax)
theorem quo {r:Int}(J:Rd g a (ae m)) (ax:Rd g b (ae n)) (h:FG m n=some r):ch P g (.binOp .quo t a b t2) ty (ae r):=by
 unfold FG at h
 split at h
 ·cases h
 ·cases h; exact .eU (.quo J ax (by assumption))
theorem rem {r:Int}(J:Rd g a (ae m)) (ax:Rd g b (ae n)) (h:rz m n=some r):ch P g (.binOp .rem t a b t2) ty (ae r):=by
 unfold rz at h
 split at h
 ·cases h
 ·cases h; exact .eU (.rem J ax (by assumption))
theorem lss (J:Rd g a (.lit (.int k m))) (ax:Rd g b (.lit (.int k n))):ch P g (.binOp .lss t a b t2) ty (a_ (decide (m<n))):=.eU (.lss J ax (by simp))
theorem leq (J:Rd g a (.lit (.int k m))) (ax:Rd g b (.lit (.int k n))):ch P g (.binOp .leq t a b t2) ty (a_ (decide (m<=n))):=.eU (.leq J ax (by simp))
theorem gtr (J:Rd g a (.lit (.int k m))) (ax:Rd g b (.lit (.int k n))):ch P g (.binOp .gtr t a b t2) ty (a_ (decide (n<m))):=.eU (.gtr J ax (by simp))
theorem geq (J:Rd g a (.lit (.int k m))) (ax:Rd g b (.lit (.int k n))):ch P g (.binOp .geq t a b t2) ty (a_ (decide (n<=m))):=.eU (.geq J ax (by simp))
theorem eql (J:Rd g a (.lit (.int k m))) (ax:Rd g b (.lit (.int k n))):ch P g (.binOp .eql t a b t2) ty (a_ (decide (m=n))):=.eU (.eql J ax (by simp))
theorem neq (J:Rd g a (.lit (.int k m))) (ax:Rd g b (.lit (.int k n))):ch P g (.binOp .neq t a b t2) ty (a_ (!decide (m=n))):=.eU (.neq J ax (by simp))
theorem qj (J:Rd g a (ay s)) (ax:Rd g b (ay u)):ch P g (.binOp .eql t a b t2) ty (a_ (decide (s=u))):=.eU (.qj J ax (by simp))
theorem ov (J:Rd g a (ay s)) (ax:Rd g b (ay u)):ch P g (.binOp .neq t a b t2) ty (a_ (!decide (s=u))):=.eU (.ov J ax (by simp))
theorem Eg (J:Rd g a (a_ p)) (ax:Rd g b (a_ q)) (aw:G6 P t=true):ch P g (.binOp .eql t a b t2) ty (a_ (p == q)):=.eU (.bin J.bt ax.bt rfl λw=>Yd (RS aw) w)
theorem neg (J:Rd g a (.lit (.int k m))):ch P g (.unOp .neg t a) ty (.lit (.int k (k.wrap (-m)))):=.eU (.un J.bt rfl λw=>by simp [Op.unary,Op.intArith])
theorem not (J:Rd g a (a_ p)):ch P g (.unOp .not t a) ty (a_ (!p)):=.eU (.not J)
theorem S1 (J:Rd g a (.lit (.int k m))) (aC:xt P t k=true) (aS:xt P t2 kT=true):ch P g (.convert t t2 a) ty (.lit (.int kT (kT.wrap m))):=.eU (.SS J aC aS)
theorem cat {r:ByteArray}(J:Rd g a (ay s)) (ax:Rd g b (ay u)) (h:tF s u=some r):ch P g (.binOp .add t a b t2) ty (ay r):=by
 unfold tF at h
 split at h
 ·cases h; exact .eU (.cat J ax (by omega))
 ·cases h
theorem ur (J:Rd g a (ay s)) (aw:o1 P t=true):ch P g (.call { callee:=.builtin .len,args:=#[a],argTypes:=#[t] }) ty (ae s.size):=.eU (.ur J aw)
theorem ml {r:Int}(J:Rd g a (ay s)) (ax:Rd g b (.lit (.int k m))) (aw:o1 P t=true) (h:kq s m=some r):ch P g (.index t a b) ty (q3 r):=by
 unfold kq at h
 split at h
 ·cases h; exact .eU (.RM J ax aw (by assumption))
 ·cases h
theorem yi {r:ByteArray}{pN:IntKind}(J:Rd g a (ay s)) (ak:Rd g b (.lit (.int k m))) (bY:Rd g c (.lit (.int pN n))) (aw:o1 P t=true) (h:q8 s m n=some r):ch P g (.slice t a (some b) (some c) none) ty (ay r):=by
 unfold q8 at h
 split at h
 ·cases h; exact .eU (.P6 J ak bY aw (by assumption))
 ·cases h
theorem FY {r:ByteArray}(J:Rd g a (ay s)) (bY:Rd g c (.lit (.int k n))) (aw:o1 P t=true) (h:q8 s 0 n=some r):ch P g (.slice t a none (some c) none) ty (ay r):=by
 unfold q8 at h
 split at h
 ·rename_i aa; cases h; exact .eU (.Yy J bY aw ⟨aa.2.1,aa.2.2⟩)
 ·cases h
theorem FZ {r:ByteArray}(J:Rd g a (ay s)) (ak:Rd g b (.lit (.int k m))) (aw:o1 P t=true) (h:q8 s m s.size=some r):ch P g (.slice t a (some b) none none) ty (ay r):=by
 unfold q8 at h
 split at h
 ·rename_i aa; cases h; exact .eU (.Yz J ak aw ⟨aa.1,aa.2.1⟩)
 ·cases h
theorem kv {z bE n:Nat}{cs:List ab}{e:TypeId}(J:Rd g a (.bm z n cs)) (aw:fu P t e bE=true):ch P g (.call { callee:=.builtin .len,args:=#[a],argTypes:=#[t] }) ty (ae n):=.eU (.Ct J.bt aw)
theorem rl {en:bJ α}{L:List α}{y:α}{e:TypeId}(J:Rd g a (.bm en.z L.length (bo en L))) (ax:Rd g b (.lit (.int k m))) (aw:fu P t e en.z=true) (h:idx L m=some y):ch P g (.indexAddr t a b) ty (.cI (en.cells y++bo en (L.drop (m.toNat+1)))):=by
 rw [<- Kk en h];obtain ⟨aR,h1,_⟩:=pL h;obtain ⟨j,rfl⟩:=Int.eq_ofNat_of_zero_le aR;exact .eU (.EZ J.bt ax.bt aw (by omega))
theorem Yv {en:bJ α}{L r:List α}{e:TypeId}{pN:IntKind}(J:Rd g a (.bm en.z L.length (bo en L))) (ak:Rd g b (.lit (.int k m))) (bY:Rd g c (.lit (.int pN n))) (aw:fu P t e en.z=true) (h:nW L m n=some r):ch P g (.slice t a (some b) (some c) none) ty (ag en r):=by
 unfold nW at h
 split at h
 ·rename_i aa;obtain ⟨aR,h1,af⟩:=aa;cases h;obtain ⟨i,rfl⟩:=Int.eq_ofNat_of_zero_le aR;obtain ⟨j,rfl⟩:=Int.eq_ofNat_of_zero_le (show 0<=n by omega);have:=c8.AA (P:=P) (ty:=ty) (t:=t) (l:=i) (h:=j) (lo:=some b) (hi:=some c) J.bt ⟨_,ak.bt⟩ ⟨_,bY.bt⟩ aw (by omega) (by omega);rw [Ay,yd] at this;have cz:(((L.drop i).take (j - i)).length)=j - i:=by rw [List.length_take,List.length_drop]; omega
  have cf:((j:Int) - (i:Int)).toNat=j - i:=by omega
  rw [Int.toNat_natCast,cf];unfold ag;rw [cz];exact .eU this
 ·cases h
theorem Yw {en:bJ α}{L r:List α}{e:TypeId}(J:Rd g a (.bm en.z L.length (bo en L))) (bY:Rd g c (.lit (.int k n))) (aw:fu P t e en.z=true) (h:nW L 0 n=some r):ch P g (.slice t a none (some c) none) ty (ag en r):=by
 unfold nW at h
 split at h
 ·rename_i aa;obtain ⟨_,h1,af⟩:=aa;cases h;obtain ⟨j,rfl⟩:=Int.eq_ofNat_of_zero_le h1;have:=c8.AA (P:=P) (ty:=ty) (t:=t) (l:=0) (h:=j) (lo:=none) (hi:=some c) J.bt rfl ⟨_,bY.bt⟩ aw (by omega) (by omega);rw [Ay,yd] at this;have cz:(((L.drop 0).take (j - 0)).length)=j - 0:=by rw [List.length_take,List.length_drop]; omega
  have cf:((j:Int) - 0).toNat=j - 0:=by omega
  rw [cf];unfold ag;have fO:(0:Int).toNat=0:=rfl;rw [fO,cz];exact .eU this
 ·cases h
theorem Yx {en:bJ α}{L r:List α}{e:TypeId}(J:Rd g a (.bm en.z L.length (bo en L))) (ak:Rd g b (.lit (.int k m))) (aw:fu P t e en.z=true) (h:nW L m L.length=some r):ch P g (.slice t a (some b) none none) ty (ag en r):=by
 unfold nW at h
 split at h
 ·rename_i aa;obtain ⟨aR,h1,af⟩:=aa;cases h;obtain ⟨i,rfl⟩:=Int.eq_ofNat_of_zero_le aR;have:=c8.AA (P:=P) (ty:=ty) (t:=t) (l:=i) (h:=L.length) (lo:=some b) (hi:=none) J.bt ⟨_,ak.bt⟩ rfl aw (by omega) (by omega);rw [Ay,yd] at this;have cz:(((L.drop i).take (L.length - i)).length)=L.length - i:=by rw [List.length_take,List.length_drop]; omega
  have cf:((L.length:Int) - (i:Int)).toNat=L.length - i:=by omega
  rw [Int.toNat_natCast,cf];unfold ag;rw [cz];exact .eU this
 ·cases h
theorem Bm {cT f off:Nat}{cs:List ab}(J:Rd g a (.cI cs)) (aW:hM P cT f off t=true):ch P g (.fieldAddr cT a f) ty (.cI (cs.drop off)):=.eU (.El J.bt aW)
theorem Cr {x:ab}{cs:List ab}(J:Rd g a (.cI cs)) (aw:jq P t=true) (aa:cs.head?=some x):ch P g (.load t a) ty x:=by
 cases cs with
 | nil=>cases aa
 | cons y cs=>cases aa; exact .eU (.Fb J.bt aw)
theorem ng {z:Nat}{cs cs':List ab}(J:Rd g a (.cI cs)) (aw:ij P t z=true) (aa:cs.take z=cs') (aY:cs'.length=z):ch P g (.load t a) ty (.agg cs'):=by
 subst aa;exact .eU (.Fc J.bt aw (by rw [List.length_take] at aY; omega))
theorem xJ {cs:List ab}(J:Rd g a (.cI cs)):ch P g (.nilCheck a) ty (.cI cs):=.eU (.qE J.bt)
theorem eT {p:Place}{k:Nat}(J:Rd g a (.ptr p k)):ch P g (.nilCheck a) ty (.ptr p k):=.eU (.Fk J.bt)
theorem fd {cT f off:Nat}{cs:List ab}{x:ab}(J:Rd g a (.agg cs)) (aW:hM P cT f off t=true) (aw:jq P t=true) (ax:cs[off]?=some x):ch P g (.field cT a f) ty x:=.eU (.Ek J.bt aW aw ax)
theorem ex {p i:Nat}{cs:List ab}{x y:ab}(J:g p=some (.bW cs)) (ax:cs[i]?=some x) (ao:gx 1 (Place.push ⟨p,[]⟩ i) x=y):ch P g (.extract (.tmp p) i) ty y :=
 .eU (.Eh (cs:=cs.mapIdx λi x=>gx 1 (Place.push ⟨p,[]⟩ i) x) (by simp [bt,J,ry,gx]) (by simp [ax,ao]))
theorem box {e:TypeId}{y:ab}{cs:List ab}(J:Rd g a y) (aa:jS y=some cs):ch P g (.box e a) ty (.obj cs):=.qG (.box J.bt aa)
theorem kt {cT f off k r:Nat}{cs:List ab}(aC:g r=some (.obj cs)) (J:Rd g a (.ptr ⟨r,[]⟩ k)) (aW:hM P cT f off t=true) (aT:Nat.blt (k+off) cs.length=true):ch P g (.fieldAddr cT a f) ty (.ptr ⟨r,[]⟩ (k+off)) :=
 .eU (.Bo J.bt aW ⟨.obj cs,by simp [bD,aC,ab.at],0,0,cs,.inr rfl,by simpa using aT⟩)
theorem mA {k r:Nat}{cs:List ab}{x y:ab}(aC:g r=some (.obj cs)) (J:Rd g a (.ptr ⟨r,[]⟩ k)) (aw:jq P t=true) (aa:cs[k]?=some x) (ax:gx 0 ⟨r,[k]⟩ x=y):ch P g (.load t a) ty y:=by
 subst ax;exact .eU (.Cw (p:=⟨r,[]⟩) J.bt aw (by simp [bD,aC,ab.at,Place.push,ab.kids,aa]))
theorem ek {k r z:Nat}{cs cs':List ab}(aC:g r=some (.obj cs)) (J:Rd g a (.ptr ⟨r,[]⟩ k)) (aw:ij P t z=true) (hk:Nat.ble (k+z) cs.length=true) (aa:(((cs.drop k).take z).mapIdx λi x=>gx 0 ⟨r,[k+i]⟩ x)=cs'):ch P g (.load t a) ty (.agg cs'):=by
 subst aa;exact .eU (.xG (p:=⟨r,[]⟩) (n:=0) (z:=0) J.bt aw (by simp [bD,aC,ab.at]) (.inr rfl) (Nat.le_of_ble_eq_true hk))
end O
theorem qZ.cm {x:Operand}{y:ab}{xs:List Operand}{ys:List ab}(h:Rd g x y) [aF:cg y] (aw:qZ g xs ys):qZ g (x::xs) (y::ys):=.cons h aF.bn aw
theorem cB.go {xs:List Operand}{gq:Array TypeId}{f:FuncId}{ys:List ab}{outs:List (Option ab)}{res:ab}(J:qZ g xs ys) (gQ:bV P f ys outs res) (aW:gN P f=true) (a1:sm outs=true) [ao:cg res] :
  cB P g (.call { callee:=.value (.func f),args:=xs.toArray,argTypes:=gq }) res:=.Tc gQ aW J a1 ao.bn
inductive uX (P:Program) (g:aM):List ResultVar->List ab->Prop
 | nil:uX P g [] []
 | f {t:Nat}{x:ab}{rs:List ResultVar}{xs:List ab}(h:g t=some x) (aW:l3 x=true) [aF:cg x] (aw:uX P g rs xs):uX P g (.tmp t::rs) (x::xs)
 | c {a:Nat}{t:TypeId}{z:Nat}{cs:List ab}{rs:List ResultVar}{xs:List ab}(h:g a=some (.obj cs)) (aw:ij P t z=true) (aY:cs.length=z) (aW:(0<z&&cs.all l3)=true) [aF:dp cs] (ao:uX P g rs xs):uX P g (.cell a t::rs) (.agg cs::xs)
theorem uX.spec {rs:List ResultVar}{xs:List ab}(h:uX P g rs xs):rM P g rs xs/\∀ x∈xs,cU x:=by
 induction h with
 | nil=>exact ⟨.nil,by simp⟩
 | @f t x rs xs h aW aF _ aU=>exact ⟨.cons (.tmp (Rd.f h aW)) aU.1,pQ aF.bn aU.2⟩
 | @c a t z cs rs xs h aw aY aW aF _ aU =>
  simp only [Bool.and_eq_true,decide_eq_true_eq] at aW;refine ⟨.cons ?_ aU.1,pQ (.agg aF.bn) aU.2⟩;have J:Own.bt g (.tmp a)=some (.ptr ⟨a,[]⟩ 0):=by
   cases cs with
   | nil=>simp at aY; omega
   | cons c cs=>simp [Own.bt,h,ry,gx]
  have:=c8.xG (P:=P) (ty:=t) (p:=⟨a,[]⟩) (n:=0) (z:=0) J aw (by simp only [bD,h,ab.at]) (.inr rfl) (show 0+z<=cs.length by omega);have hN:((cs.drop 0).take z).mapIdx (λi x=>gx 0 (Place.push ⟨a,[]⟩ (0+i)) x)=cs:=by
   rw [List.drop_zero,List.take_of_length_le (by omega)];exact Bq aW.2
  rw [hN] at this;exact .cell this
theorem Fin.rt {rs:List ResultVar}{xs:List ab}{res:ab}{outs:List (Option ab)}{n:Nat}(h:uX P g rs xs) (he:qJ xs=res) (a1:sm outs=true) (ak:outs.length=n):Fin P N rs n outs res .ret g :=
 ⟨.inr rfl,⟨xs,xs,g,h.spec.1,.bn h.spec.2,he.symm,λk x hk=>absurd hk (Fm a1 k x)⟩,ak⟩
end
def xM:Nat->List ab->List (Nat × ab)
 | _,[]=>[]
 | i,x::l=>(i,x)::xM (i+1) l
theorem MS:∀ (l:List ab) (i t:Nat),get (xM i l) t=if i<=t then l[t - i]? else none
 | [],i,t=>by simp [xM,get]
 | x::l,i,t=>by
  simp only [xM,get];by_cases h:t=i
  ·subst h; simp
  ·rw [if_neg h,MS l (i+1) t];by_cases h1:i+1<=t
   ·rw [if_pos h1,if_pos (by omega)];have:t - i=(t - (i+1))+1:=by omega
    rw [this,List.getElem?_cons_succ]
   ·rw [if_neg h1,if_neg (by omega)]
theorem Rz (args:List ab):qc args=get (xM 0 args):=funext λt=>by rw [MS]; simp [qc]
theorem bV.go {P:Program}{f:FuncId}{fn:Func}{c:Code}{args:List ab}{outs:List (Option ab)}{res:ab}{N:c6}(aW:P.funcs[f]?=some fn) (av:fn.body=some c) (bc:fn.ntmps=N.size) (aP:Nat.ble args.length N.size=true) (hlen:outs.length=args.length)
  (hw:W P N c (get (xM 0 args)) (Fin P N fn.results.toList args.length outs res)):bV P f args outs res :=
 .fin aW av bc aP hlen (by rw [Rz]; exact hw)
end Go.Own
namespace Go.Own
open Go
section
variable {P:Program}{N:c6}{Φ oA:Exit->aM->Prop}{Ψ:aM->Prop}{G G1:List (Nat × ab)}{A B c:Code}{id k:Nat}{e:Exit}{S R:Type}
theorem jF.cZ (h:Trim true (get G) (get G1) G1):jF P N .skip G G1:=.skip h
inductive ie:aM->List (Nat × ab)->Prop
 | hX {G:List (Nat × ab)}:ie (get G) G
 | eW {g g1:aM}{G:List (Nat × ab)}(h:kp g g1) (av:ie g1 G):ie g G
theorem ie.trans {g:aM}{G G1:List (Nat × ab)}(h:ie g G) (h1:ie (get G) G1):ie g G1:=by
 induction h with
 | hX=>exact h1
 | eW h _ aU=>exact .eW h (aU h1)
inductive AR (P:Program) (N:c6):aM->Exit->(Exit->aM->Prop)->Prop
 | hX {g:aM}{e:Exit}{Φ:Exit->aM->Prop}(h:Φ e g):AR P N g e Φ
 | eW {g g1:aM}{e:Exit}{Φ:Exit->aM->Prop}(hw:kp g g1) (h:AR P N g1 e Φ):AR P N g e Φ
theorem W.outs {g:aM}(h:W P N c g Φ) (nP:∀ e g',Φ e g'->AR P N g' e oA):W P N c g oA:=by
 intro a w I Fs Q bl bc dO;refine h bl bc λe g' b' w' au aF=>?_;have tY:=nP e g' au;clear au nP;revert aF
 induction tY with
 | hX h=>exact λaF=>dO _ _ _ _ h aF
 | eW hw _ aU =>
  intro aF;refine aU dO ?_;obtain ⟨h1,af,I',b7,dY,b1⟩:=aF;obtain ⟨iY,h7,gI⟩:=dY.eW hw;exact ⟨h1,af,I',iY,h7,b1.eS,b1.more,b1.new,λc ⟨t,aa⟩=>b1.own c ⟨t,gI t c aa⟩⟩
def aA (e:Exit) (Φ:Exit->aM->Prop) (G:List (Nat × ab)):Prop:=∀ g,ie g G->Φ e g
theorem W.be {g:aM}(h:W P N c (get G) Φ) (av:ie g G):W P N c g Φ:=by
 induction av with
 | hX=>exact h
 | eW hw _ aU=>exact (aU h).weaken hw
theorem pd.be {g:aM}(h:pd P N c (get G) Φ) (av:ie g G):pd P N c g Φ:=by
 induction av with
 | hX=>exact h
 | eW hw _ aU=>exact (aU h).weaken hw
theorem aA.bw (h:W P N B (get G) Φ):aA .normal (o3 (λg1=>W P N B g1 Φ) oA) G:=λ_ av=>Y2 (h.be av)
theorem aA.e' (h:aA (.exit k) oA G):aA (.exit k) (o3 Ψ oA) G:=λg av=>Y1 (h g av)
theorem aA.hZ (h:aA .ret oA G):aA .ret (o3 Ψ oA) G:=λg av=>Y3 (h g av)
theorem aA.b2 (h:aA .normal Φ G):aA .normal (ma id Φ) G:=λg av=>WT (h g av)
theorem aA.e8 (h:aA .normal Φ G):aA (.exit id) (ma id Φ) G:=λg av=>WR (h g av)
theorem aA.G3 (hk:Nat.beq k id=false) (h:aA (.exit k) Φ G):aA (.exit k) (ma id Φ) G:=λg av=>WS hk (h g av)
theorem aA.k6 (h:aA .ret Φ G):aA .ret (ma id Φ) G:=λg av=>WU (h g av)
theorem W.fb (h:aA (.exit k) Φ G):W P N (.exit k) (get G) Φ:=W.exit (h _ .hX)
theorem W.cZ (h:aA .normal Φ G):W P N .skip (get G) Φ:=W.skip (h _ .hX)
theorem W.rt (h:aA .ret Φ G):W P N .ret (get G) Φ:=W.ret (h _ .hX)
theorem W.rx {id:Nat}{l:List Oper}(G1:List (Nat × ab)) (h:ar P N l.toArray l (get G) λg'=>kp g' (get G1)) (hk:aA .normal Φ G1):W P N (.region id l.toArray false) (get G) Φ :=
 W.Ax (λi hi=>by obtain ⟨g',h1,af⟩:=h i hi; exact ⟨g',h1,hk g' (.eW af .hX)⟩)
theorem W.dC {G1:List (Nat × ab)}(h:Trim true (get G) (get G1) G1) (hw:W P N c (get G1) Φ):W P N c (get G) Φ:=hw.weaken h.eW
theorem W.st {G:List (Nat × ab)}(G1:List (Nat × ab)) (h:W P N c (get G1) Φ) (e:G1=G:=by rfl):W P N c (get G) Φ:=by subst e; exact h
theorem W.b2 (h:W P N c (get G) (ma id Φ)):W P N (.block id c) (get G) Φ:=W.block h
theorem W.dF (G1:List (Nat × ab)) (h:W P N c (get G) λe g=>e=.normal/\ie g G1) (hk:aA .normal Φ G1):W P N c (get G) Φ :=
 h.mono λe g ⟨he,av⟩=>by subst he; exact hk g av
theorem aA.dF (h:Trim true (get G) (get G1) G1):aA .normal (λe g=>e=.normal/\ie g G1) G:=λ_ av=>⟨rfl,av.trans (.eW h.eW .hX)⟩
def k4 (G:S->List (Nat × ab)) (Ψ:R->Exit->aM->Prop):S ⊕ R->Exit->aM->Prop
 | .inl s,e,g=>e=.normal/\ie g (G s)
 | .inr r,e,g=>e≠.normal/\Ψ r e g
theorem pd.it {f:S->Option (S ⊕ R)}{G:S->List (Nat × ab)}{Ψ:R->Exit->aM->Prop}(av:∀ s o,f s=some o->W P N c (get (G s)) (k4 G Ψ o)) :
  ∀ (n:Nat) (s:S) (r:R),Own.iter f n s=some r->pd P N c (get (G s)) (Ψ r)
 | 0,_,_,h=>by simp [Own.iter] at h
 | n+1,s,r,h=>by
  simp only [Own.iter] at h;cases aW:f s with
  | none=>rw [aW] at h; cases h
  | some o =>
   rw [aW] at h;refine .step ((av s o aW).mono λe g' ao=>?_);cases o with
   | inl cT =>
    obtain ⟨rfl,hw⟩:=ao;exact (pd.it av n cT r h).be hw
   | inr dm =>
    cases h;obtain ⟨aF,hw⟩:=ao;cases e with
    | normal=>exact absurd rfl aF
    | _=>exact hw
theorem W.eP {f:S->Option (S ⊕ R)}{s:S}{r:R}(G:S->List (Nat × ab)) (Ψ:R->Exit->aM->Prop) (h:b4 f s=some r) (av:∀ s o,f s=some o->W P N c (get (G s)) (k4 G Ψ o)) (hk:∀ e g,Ψ r e g->Φ e g):W P N (.loop c) (get (G s)) Φ :=
 (W.loop (pd.it av fuel s r h)).mono hk
theorem W.zK {f:S->Option (S ⊕ R)}{s:S}{r:R}(G:S->List (Nat × ab)) (id:Nat) (mg:R->List (Nat × ab)) (h:b4 f s=some r) (av:∀ s o,f s=some o->W P N c (get (G s)) (k4 G (λr e g=>e=.exit id/\ie g (mg r)) o)) (hk:aA (.exit id) Φ (mg r)):W P N (.loop c) (get (G s)) Φ :=
 .eP G _ h av λe g ⟨he,aO⟩=>by subst he; exact hk g aO
theorem W.OJ {gL:Type}{f:S->Option (S ⊕ (R ⊕ gL))}{s:S}{r:R ⊕ gL}(G:S->List (Nat × ab)) (id:Nat) (mg:R->List (Nat × ab)) (h4:gL->List (Nat × ab)) (h:b4 f s=some r)
  (av:∀ s o,f s=some o->W P N c (get (G s)) (k4 G (λ(r:R ⊕ gL) e g=>match r with | .inl r=>e=.exit id/\ie g (mg r) | .inr r=>e=.ret/\ie g (h4 r)) o))
  (J:∀ x,r=.inl x->aA (.exit id) Φ (mg x)) (ao:∀ x,r=.inr x->aA .ret Φ (h4 x)):W P N (.loop c) (get (G s)) Φ:=by
 refine .eP G _ h av λe g h=>?_;cases r with
 | inl r=>obtain ⟨rfl,aO⟩:=h; exact J r rfl g aO
 | inr r=>obtain ⟨rfl,aO⟩:=h; exact ao r rfl g aO
theorem aA.go {s:S}{F:S->List (Nat × ab)}{Ψ:R->Exit->aM->Prop}(h:Trim true (get G) (get (F s)) (F s)):aA .normal (k4 F Ψ (.inl s)) G:=λ_ av=>⟨rfl,av.trans (.eW h.eW .hX)⟩
theorem aA.a8 {r:R}{F:S->List (Nat × ab)}{mg:R->List (Nat × ab)}(h:Trim true (get G) (get (mg r)) (mg r)):aA (.exit id) (k4 F (λr e g=>e=.exit id/\ie g (mg r)) (.inr r)) G:=λ_ av=>⟨by simp,rfl,av.trans (.eW h.eW .hX)⟩
theorem aA.x2 {gL:Type}{r:R}{F:S->List (Nat × ab)}{mg:R->List (Nat × ab)}{h4:gL->List (Nat × ab)}(h:Trim true (get G) (get (mg r)) (mg r)) :
  aA (.exit id) (k4 F (λ(r:R ⊕ gL) e g=>match r with | .inl r=>e=.exit id/\ie g (mg r) | .inr r=>e=.ret/\ie g (h4 r)) (.inr (.inl r))) G:=λ_ av=>⟨by simp,rfl,av.trans (.eW h.eW .hX)⟩
theorem aA.j1 {gL:Type}{r:gL}{F:S->List (Nat × ab)}{mg:R->List (Nat × ab)}{h4:gL->List (Nat × ab)}(h:Trim true (get G) (get (h4 r)) (h4 r)) :
  aA .ret (k4 F (λ(r:R ⊕ gL) e g=>match r with | .inl r=>e=.exit id/\ie g (mg r) | .inr r=>e=.ret/\ie g (h4 r)) (.inr (.inr r))) G:=λ_ av=>⟨by simp,rfl,av.trans (.eW h.eW .hX)⟩
def p6 (P:Program) (N:c6) (rs:List ResultVar) (n:Nat) (outs:List (Option ab)) (res:ab) (e:Exit) (g:aM):Prop:=∃ G,ie g G/\Fin P N rs n outs res e (get G)
theorem W.fin {rs:List ResultVar}{n:Nat}{outs:List (Option ab)}{res:ab}{g:aM}(h:W P N c g (p6 P N rs n outs res)):W P N c g (Fin P N rs n outs res):=by
 have key:∀ e g,p6 P N rs n outs res e g->AR P N g e (Fin P N rs n outs res):=by
  rintro e g ⟨G,av,aW⟩
  induction av with
  | hX=>exact .hX aW
  | eW hw _ aU=>exact .eW hw (aU aW)
 exact W.outs h key
theorem aA.fin {rs:List ResultVar}{n:Nat}{outs:List (Option ab)}{res:ab}(h:Fin P N rs n outs res e (get G)):aA e (p6 P N rs n outs res) G:=λ_ av=>⟨G,av,h⟩
end
end Go.Own
namespace Go.Own
open Go
section
variable {P:Program}{N:c6}{ops:Array Oper}{bd:List (List Nat)}{g0:aM}{K:aM->Prop}{l:List Oper}{acc:Acc}{d i:Nat}{op:Op}{ty:TypeId}{pos:String}{after:Array Edge}{x:ab}{gd:Option (Nat × Bool)}
abbrev jA (bd:List (List Nat)) (g0:aM) (j:Nat) (acc:Acc):aM:=dh g0 (λm=>(bd.getD j []).contains m) acc
def bz (P:Program) (N:c6) (ops:Array Oper) (bd:List (List Nat)) (g0:aM) (i:Nat) (acc:Acc) (l:List Oper) (K:aM->Prop):Prop:=∀ dV j,mL P N ops bd g0 i dV->iM P N ops bd g0 i dV j acc->ops.toList.drop j=l->∃ g',sy P N ops bd i dV g0 g'/\K g'
theorem zb {j bG:Nat}{o:Oper}(h:ops.toList.drop j=o::l) (ah:Nat.beq ops.size (bG+l.length+1)=true):j=bG:=by
 grind [List.length_cons,Nat.eq_of_beq_eq_true]
theorem Ri (aF:acc.all (λe=>!Nat.beq e.2.1 d)=true):∀ e∈acc,e.2.1≠d:=by
 intro e he h;have:=List.all_eq_true.1 aF e he
 simp_all
theorem bz.st (bG:Nat) {r:Option ab}{o:Oper}(aS:o.dst=some d) (aC:qb P (jA bd g0 bG acc) ops o r) (ah:Nat.beq ops.size (bG+l.length+1)=true) (aW:g0 d=none) (aF:acc.all (λe=>!Nat.beq e.2.1 d)=true) (bc:N.ok d=true)
  (hk:bz P N ops bd g0 i ((bG,d,r)::acc) l K):bz P N ops bd g0 i acc (o::l) K:=by
 intro dV j cx kP k_;have:=zb k_ ah;subst this;obtain ⟨h1,af⟩:=drop_cons k_;exact hk dV (j+1) cx (.step kP h1 aS aW (Ri aF) bc aC) af
theorem bz.v (bG:Nat) (au:ch P (jA bd g0 bG acc) op ty x) (ah:Nat.beq ops.size (bG+l.length+1)=true) (aW:g0 d=none) (aF:acc.all (λe=>!Nat.beq e.2.1 d)=true) (bc:N.ok d=true) (aO:fw (jA bd g0 bG acc) ops gd)
  (hk:bz P N ops bd g0 i ((bG,d,some x)::acc) l K):bz P N ops bd g0 i acc (⟨some d,op,ty,pos,after,gd⟩::l) K :=
 .st bG (r:=some x) rfl (.inl ⟨aO.wanted,.inl au⟩) ah aW aF bc hk
theorem bz.c (bG:Nat) (au:cB P (jA bd g0 bG acc) op x) (ah:Nat.beq ops.size (bG+l.length+1)=true) (aW:g0 d=none) (aF:acc.all (λe=>!Nat.beq e.2.1 d)=true) (bc:N.ok d=true) (aO:fw (jA bd g0 bG acc) ops gd)
  (hk:bz P N ops bd g0 i ((bG,d,some x)::acc) l K):bz P N ops bd g0 i acc (⟨some d,op,ty,pos,after,gd⟩::l) K :=
 .st bG (r:=some x) rfl (.inl ⟨aO.wanted,.inr au⟩) ah aW aF bc hk
theorem bz.ps (bG:Nat) {vB t':Nat}{b c:Bool}(h:(ops[vB]?).bind (·.dst)=some t') (aO:jA bd g0 bG acc t'=some (a_ c)) (av:c=!b) (ah:Nat.beq ops.size (bG+l.length+1)=true) (aW:g0 d=none) (aF:acc.all (λe=>!Nat.beq e.2.1 d)=true) (bc:N.ok d=true)
  (hk:bz P N ops bd g0 i ((bG,d,some (.bW []))::acc) l K):bz P N ops bd g0 i acc (⟨some d,op,ty,pos,after,some (vB,b)⟩::l) K :=
 .st bG (r:=some (.bW [])) rfl (.inr (.inl ⟨⟨t',h,.inl ⟨c,aO,by subst av; cases b <;> rfl⟩⟩,rfl⟩)) ah aW aF bc hk
theorem bz.pu (bG:Nat) {vB t':Nat}{b:Bool}(h:(ops[vB]?).bind (·.dst)=some t') (aO:jA bd g0 bG acc t'=some (.bW [])) (ah:Nat.beq ops.size (bG+l.length+1)=true) (aW:g0 d=none) (aF:acc.all (λe=>!Nat.beq e.2.1 d)=true) (bc:N.ok d=true)
  (hk:bz P N ops bd g0 i ((bG,d,some (.bW []))::acc) l K):bz P N ops bd g0 i acc (⟨some d,op,ty,pos,after,some (vB,b)⟩::l) K :=
 .st bG (r:=some (.bW [])) rfl (.inr (.inl ⟨⟨t',h,.inr ⟨aO,rfl⟩⟩,rfl⟩)) ah aW aF bc hk
def mb (G:List (Nat × ab)):Bool:=G.all λp=>match p.2 with | .bM ..=>false | _=>true
theorem vH {G:List (Nat × ab)}(h:mb G=true):∀ t z q n m new,get G t≠some (.bM z q n m new):=by
 induction G with
 | nil=>intro t z q n m new J; cases J
 | cons p G aU =>
  grind [mb,get]
theorem bz.fin {G G1:List (Nat × ab)}(aY:acc.filterMap j0=[]) (fH:mb G=true) (hi:Nat.ble i ops.size=true) (h:Trim true (dh (get G) (λ_=>true) acc) (get G1) G1):bz P N ops bd (get G) i acc [] λg'=>kp g' (get G1):=by
 intro dV j cx kP k_;have ah:j=ops.size:=by
  have h1:ops.size<=j:=by
   simp_all
  have aI:j<=ops.size:=by
   cases kP with
   | nil=>exact Nat.le_of_ble_eq_true hi
   | step _ a1=>have:=(Array.getElem?_eq_some_iff.1 a1).1; omega
  omega
 subst ah;exact ⟨_,.fin kP (by rw [aY]; exact List.nodup_nil) (vH fH),h.eW⟩
theorem sy.LQ {g g1 g':aM}{i j:Nat}{dV:Acc}{o:Oper}(cx:mL P N ops bd g i dV) (aC:iM P N ops bd g i dV j acc) (gR:(acc.filterMap j0).Nodup) (fH:∀ t z q n m new,g t≠some (.bM z q n m new)) (a1:ops[j]?=some o) (hw:iB (dh g (λ_=>true) acc) ops o true)
  (he:bk P N (dh g (λ_=>true) acc) o g1) (aP:(List.range j).all (λk=>(bd.getD j []).contains k)=true) (av:(List.range ops.size).all (λk=>decide (k<=j)||(bd.getD k []).contains j)=true) (ao:sy P N ops bd (j+1) [] g1 g'):sy P N ops bd i dV g g':=by
 have et:∀ e∈acc,(bd.getD j []).contains e.1=true:=λe h=>List.all_eq_true.1 aP e.1 (List.mem_range.2 ((aC.le cx).2 e h));have e:dh g (λm=>(bd.getD j []).contains m) acc=dh g (λ_=>true) acc:=funext λt=>Dv λe h _=>et e h;have ga:[]=acc.filter λe=>!(bd.getD j []).contains e.1:=by
  grind [List.filter_eq_nil_iff]
 exact .wD (rs:=so []) aC gR fH a1 (by rw [e]; exact hw) (by rw [e]; exact he.j'.v) (λp au=>by simp [so] at au) ga (by simp) (by simp) (by simp) av ao
theorem W.rd {id:Nat}{l:List Oper}{G:List (Nat × ab)}{Φ:Exit->aM->Prop}(bd:List (List Nat)) (G1:List (Nat × ab)) (hm:P.follows .mixedOrders=true) (et:pf l.toArray bd=true)
  (h:bz P N l.toArray bd (get G) 0 [] l λg'=>kp g' (get G1)) (hk:aA .normal Φ G1):W P N (.region id l.toArray true) (get G) Φ:=by
 obtain ⟨g',h1,af⟩:=h [] 0 .nil .nil (by simp);exact (gf.draw hm et h1).w (hk g' (.eW af .hX))
end
end Go.Own
namespace Go.Own
open Go
variable {α:Type}
section
variable {P:Program}{N:c6}{ops:Array Oper}{g g2:aM}{K:aM->Prop}{l:List Oper}{d r:Nat}{ty t t2:TypeId}{pos:String}{after:Array Edge}{a b c:Operand}{k kT:IntKind}{m n:Int}{s u:ByteArray}
namespace O
theorem fp {e:TypeId}{z:Value}{cs:List ab}(aY:(P.info? e).bind (·.zero)=some z) (h1:z.cells.toList.all Value.oneCell'=true) (aa:z.cells.toList.map lR=cs):ch P g (.alloc e) ty (.obj cs):=by
 subst aa; exact .qG (.alloc aY (by rw [<- Array.all_toList]; exact h1))
theorem ej {t:TypeId}{parts:Array (Nat × Operand)}{pl:List (Nat × Nat)}{dJ:Value}{ps:List (Nat × List ab)}{cs:List ab}(aw:kA P t pl=true) (aY:(P.info? t).bind (·.zero)=some dJ) (h1:dJ.cells.toList.all Value.oneCell'=true)
  (au:rp g parts.toList=some ps) (aa:u4 (λi=>pl[i]?) (dJ.cells.toList.map lR) ps=some cs):ch P g (.build t parts) ty (.agg cs):=.CJ (.build aw aY (by rw [<- Array.all_toList]; exact h1) au aa)
end O
inductive qa (g g2:aM):ab->Prop
 | n {x:ab}(h:cU x):qa g g2 x
 | p {r k:Nat}{cs cs2:List ab}(h:g r=some (.obj cs)) (hk:k<cs.length) (af:g2 r=some (.obj cs2)) (fW:k<cs2.length):qa g g2 (.ptr ⟨r,[]⟩ k)
 | r {z n N Lg q:Nat}{cs cs2:List ab}(h:g q=some (.own z N cs)) (aF:n<=N) (af:g2 q=some (.own z Lg cs2)) (oe:n<=Lg):qa g g2 (.a6 z ⟨q,[]⟩ n)
theorem uD {r k:Nat}{cs:List ab}(h:g r=some (.obj cs)) (hk:k<cs.length):gE g (.ptr ⟨r,[]⟩ k):=⟨.obj cs,by simp [bD,h,ab.at],0,0,cs,.inr rfl,hk⟩
theorem Av {z n N q:Nat}{cs:List ab}(h:g q=some (.own z N cs)) (aF:n<=N):gE g (.a6 z ⟨q,[]⟩ n):=.inl ⟨N,cs,by simp [bD,h,ab.at],aF⟩
theorem qa.bS {x:ab}(h:qa g g2 x):di g2 x:=by
 cases h with
 | n h=>exact .bn h
 | p _ _ af fW=>exact .ref rfl (uD af fW)
 | r _ _ af oe=>exact .ref rfl (Av af oe)
theorem qa.yc {x:ab}{As k0 m0:Nat}(h:qa g g2 x):jm (λr=>gE g r/\Clear ⟨As,[]⟩ k0 m0 r/\gE g2 r) x:=by
 cases h with
 | n h=>exact .bn h
 | p h hk af fW =>
  refine .ref rfl ⟨uD h hk,?_,uD af fW⟩;intro q bg _ j dm e
  grind [Aw]
 | r h hk af fW =>
  refine .ref rfl ⟨Av h hk,?_,Av af fW⟩;intro q bg _ j dm e
  grind [Aw]
theorem qa.fA {x:ab}(h:qa g g2 x):∀ z p n m new,x≠.bM z p n m new:=by
 rintro z p n m new rfl;cases h with
 | n h=>cases h
inductive k5 (g g2:aM) (r:Nat) (cs2:List ab):List (Nat × ab)->Prop
 | nil:k5 g g2 r cs2 []
 | n {s:Nat}{x:ab}{l:List (Nat × ab)}(dq:Nat.beq s r=false) (h:g s=some x) [aF:cg x] (t:k5 g g2 r cs2 l):k5 g g2 r cs2 ((s,x)::l)
 | p {s q k:Nat}{l:List (Nat × ab)}{cs kr:List ab}(dq:Nat.beq s r=false) (h:g s=some (.ptr ⟨q,[]⟩ k)) (h1:g q=some (.obj cs)) (hk:Nat.blt k cs.length=true) (af:g2 q=some (.obj kr)) (fW:Nat.blt k kr.length=true) (t:k5 g g2 r cs2 l):k5 g g2 r cs2 ((s,.ptr ⟨q,[]⟩ k)::l)
 | w {α:Type}{s q:Nat}{en:bJ α}{L:List α}{l:List (Nat × ab)}(dq:Nat.beq s r=false) (h:g s=some (.a6 en.z ⟨q,[]⟩ L.length)) (h1:g q=some (aj en L)) (af:g2 q=some (aj en L)) (t:k5 g g2 r cs2 l):k5 g g2 r cs2 ((s,.a6 en.z ⟨q,[]⟩ L.length)::l)
 | b {l:List (Nat × ab)}{x:ab}(e:x=.obj cs2) [aF:dp cs2] (t:k5 g g2 r cs2 l):k5 g g2 r cs2 ((r,x)::l)
theorem k5.spec {cs2:List ab}{l:List (Nat × ab)}(h:k5 g g2 r cs2 l):∀ t x,get l t=some x->(t≠r/\g t=some x/\qa g g2 x)\/(t=r/\x=.obj cs2/\cU x):=by
 induction h with
 | nil=>intro t x J; cases J
 | @n s x l dq h aF _ aU =>
  intro t y ax;simp only [get] at ax
  split at ax
  ·rename_i e;subst e;cases ax;exact .inl ⟨Nat.ne_of_beq_eq_false dq,h,.n aF.bn⟩
  grind
 | @p s q k l cs kr dq h h1 hk af fW _ aU =>
  intro t y ax;simp only [get] at ax
  split at ax
  ·rename_i e;subst e;cases ax;exact .inl ⟨Nat.ne_of_beq_eq_false dq,h,.p h1 (by simpa using hk) af (by simpa using fW)⟩
  grind
 | @w α s q en L l dq h h1 af _ aU =>
  intro t y ax;simp only [get] at ax
  split at ax
  ·rename_i e;subst e;cases ax;exact .inl ⟨Nat.ne_of_beq_eq_false dq,h,.r h1 (Nat.le_refl _) af (Nat.le_refl _)⟩
  grind
 | @b l x e aF _ aU =>
  intro t y ax;simp only [get] at ax
  split at ax
  ·rename_i cj;subst cj;cases ax;subst e;exact .inr ⟨rfl,rfl,.obj aF.bn⟩
  grind
theorem bk.box {o:Oper}{k0:Nat}{cs cs' cs2:List ab}{y:ab}{G2:List (Nat × ab)}(a1:o.op=.store t a b) (aS:o.dst=none) (aC:g r=some (.obj cs)) (aP:Rd g a (.ptr ⟨r,[]⟩ k0)) (av:Rd g b y) (aF:cU y) (aa:oL y=some cs') (aY:hl P t cs'.length=true)
  (hk:k0+cs'.length<=cs.length) (aR:0<cs'.length) (he:e5 cs k0 cs'=cs2) [e9:dp cs] (ao:get G2 r≠none) (c_:k5 g (get G2) r cs2 G2):bk P N g o (get G2):=by
 subst he;have ke:g r≠none:=by rw [aC]; simp
 refine .store a1 aS aP.bt av.bt (.bn (by simpa using aF)) .refl aa aY (p:=⟨r,[]⟩) (nd:=.obj cs) (z:=0) (n:=0) (by simp [bD,aC,ab.at]) (.inr rfl) hk aR (λt x J=>?_) (λt x J y ax=>?_) (λt z q n m new J=>?_) ao
 ·rcases c_.spec t x J with ⟨h1,af,_⟩ | ⟨h1,af,_⟩
  all_goals grind [cv,ab.setAt,ab.e5]
 ·rcases c_.spec t x J with ⟨h1,af,aI⟩ | ⟨h1,af,aI⟩
  ·rw [af] at ax;cases ax;exact aI.yc
  ·subst h1;rw [aC] at ax;cases ax;exact .bn (.obj e9.bn)
 ·rcases c_.spec t _ J with ⟨_,_,aI⟩ | ⟨_,af,_⟩
  ·exact aI.fA _ _ _ _ _ rfl
  grind
theorem Trim.q {GX:Bool}{yi q k0:Nat}{cs:List ab}{OG:List (Nat × ab)}(h:g yi=some (.ptr ⟨q,[]⟩ k0)) (af:g2 q=some (.obj cs)) (hk:Nat.blt k0 cs.length=true) (hc:Trim GX g g2 OG):Trim GX g g2 ((yi,.ptr ⟨q,[]⟩ k0)::OG) :=
 .r h (.ref rfl (uD af (by simpa using hk))) (by simp) hc
theorem ar.kL {o:Oper}{G2:List (Nat × ab)}(aO:o.guard=none) (he:bk P N g o (get G2)) (hk:ar P N ops l (get G2) K):ar P N ops (o::l) g K:=by
 intro i hi;obtain ⟨h1,af⟩:=drop_cons hi;obtain ⟨g',ao,dj⟩:=hk (i+1) af;refine ⟨g',.j' h1 ?_ he ao,dj⟩
 grind [iB]
theorem ar.jh {k0:Nat}{cs cs' cs2:List ab}{y:ab}{G2:List (Nat × ab)}(aC:g r=some (.obj cs)) (aP:Rd g a (.ptr ⟨r,[]⟩ k0)) (av:Rd g b y) [aF:cg y] (aa:oL y=some cs') (aY:hl P t cs'.length=true)
  (hk:Nat.ble (k0+cs'.length) cs.length=true) (aR:Nat.blt 0 cs'.length=true) (he:e5 cs k0 cs'=cs2) [e9:dp cs] (ao:(get G2 r).isSome=true) (c_:k5 g (get G2) r cs2 G2) (xa:ar P N ops l (get G2) K):ar P N ops (⟨none,.store t a b,ty,pos,after,none⟩::l) g K :=
 .kL rfl (.box rfl rfl aC aP av aF.bn aa aY (Nat.le_of_ble_eq_true hk) (by simpa using aR) he (by intro e; rw [e] at ao; cases ao) c_) xa
variable {bd:List (List Nat)}{acc:Acc}{i:Nat}
theorem bz.wD (bG:Nat) {G G2:List (Nat × ab)}{o:Oper}(he:bk P N (dh (get G) (λ_=>true) acc) o (get G2)) (aO:o.guard=none) (aY:acc.filterMap j0=[]) (fH:mb G=true) (ah:Nat.beq ops.size (bG+l.length+1)=true)
  (aP:(List.range bG).all (λk=>(bd.getD bG []).contains k)=true) (av:(List.range ops.size).all (λk=>Nat.ble k bG||(bd.getD k []).contains bG)=true) (hk:bz P N ops bd (get G2) (bG+1) [] l K):bz P N ops bd (get G) i acc (o::l) K:=by
 intro dV j cx kP k_;have:=zb k_ ah;subst this;obtain ⟨h1,af⟩:=drop_cons k_;obtain ⟨g',ao,dj⟩:=hk [] (j+1) .nil .nil af;refine ⟨g',.LQ cx kP (by rw [aY]; exact List.nodup_nil) (vH fH) h1 ?_ he aP ?_ ao,dj⟩
 ·grind [iB]
 simp_all
theorem bz.jh (bG:Nat) {G:List (Nat × ab)}{k0:Nat}{cs cs' cs2:List ab}{y:ab}{G2:List (Nat × ab)}(ah:Nat.beq ops.size (bG+l.length+1)=true) (w0:(List.range bG).all (λk=>(bd.getD bG []).contains k)=true) (Ew:(List.range ops.size).all (λk=>Nat.ble k bG||(bd.getD k []).contains bG)=true) (Jf:acc.filterMap j0=[]) (fH:mb G=true)
  (aC:dh (get G) (λ_=>true) acc r=some (.obj cs)) (aP:Rd (dh (get G) (λ_=>true) acc) a (.ptr ⟨r,[]⟩ k0)) (av:Rd (dh (get G) (λ_=>true) acc) b y) [aF:cg y] (aa:oL y=some cs') (aY:hl P t cs'.length=true)
  (hk:Nat.ble (k0+cs'.length) cs.length=true) (aR:Nat.blt 0 cs'.length=true) (he:e5 cs k0 cs'=cs2) [e9:dp cs] (ao:(get G2 r).isSome=true) (c_:k5 (dh (get G) (λ_=>true) acc) (get G2) r cs2 G2) (xa:bz P N ops bd (get G2) (bG+1) [] l K):bz P N ops bd (get G) i acc (⟨none,.store t a b,ty,pos,after,none⟩::l) K :=
 .wD bG (.box rfl rfl aC aP av aF.bn aa aY (Nat.le_of_ble_eq_true hk) (by simpa using aR) he (by intro e; rw [e] at ao; cases ao) c_) rfl Jf fH ah w0 Ew xa
end
end Go.Own
namespace Go.Own
open Go
variable {α β:Type}
def ni (m:Int) (z:α):Option (List α):=if 0<=m/\m<=lim then some (List.replicate m.toNat z) else none
def da (l m:List α):Option (List α):=if l.length+m.length<=lim then some (l++m) else none
class Flat (e:bJ α):Prop where sE:∀ a,(e.cells a).all l3=true
instance:Flat ai:=⟨λ_=>rfl⟩
instance:Flat qi:=⟨λ_=>rfl⟩
instance:Flat cr:=⟨λ_=>rfl⟩
instance:Flat dx:=⟨λ_=>rfl⟩
instance {e:bJ α}:Flat (bp e):=⟨λ_=>rfl⟩
theorem X_ (e:bJ α) [h:Flat e] (l:List α):(bo e l).all l3=true:=by
 refine List.all_eq_true.2 λx J=>?_;obtain ⟨a,_,aP⟩:=List.mem_flatMap.1 J;exact List.all_eq_true.1 (h.sE a) x aP
theorem mC (e:bJ α) (l m:List α):(.own e.z (l.length+m.length) (bo e l++bo e m):ab)=aj e (l++m):=by
 grind [FO]
theorem ye (e:bJ α) (l:List α):(bo e l).take (l.length * e.z)=bo e l:=by grind [nm]
theorem PD:∀ L:List Int,bo qi L=L.map λb=>.lit (.int .u8 b)
 | []=>rfl
 | x::L=>by
  have:bo qi (x::L)=q3 x::bo qi L:=rfl;rw [this,List.map_cons,PD L]
section
variable {P:Program}{N:c6}{ops:Array Oper}{g g1 g2:aM}{K:aM->Prop}{l:List Oper}{d r:Nat}{ty t t2:TypeId}{pos:String}{after:Array Edge}{gd:Option (Nat × Bool)}{a b c:Operand}{k kT:IntKind}{m n:Int}{s u:ByteArray}{p q:Place}
namespace O
theorem dc {e dz:Nat}{parts:Array (Nat × Operand)}{ys:List ab}(en:bJ α) (L:List α) (aw:fu P t e en.z=true) (J:gn g (parts.toList.map (·.2))=some ys) (aa:mm ys=some (bo en L)) (aY:ys.all (λy=>match jS y with | some c=>Nat.beq c.length en.z | none=>false)=true)
  (au:parts.toList=(parts.toList.map (·.2)).mapIdx (λi x=>(i,x))) (aF:(parts.toList.map (·.2)).length=dz) (ak:L.length=dz) (hzero:ic P e en.z=true) (av:Nat.ble (dz * en.z) 16777216=true) (gH:Nat.ble dz 16777216=true):ch P g (.buildSlice t dz parts) ty (aj en L):=by
 subst aF;have:=p9.buildSlice (P:=P) (ty:=ty) aw au J (λy ax=>by
  grind [Nat.eq_of_beq_eq_true]) aa (Nat.le_of_ble_eq_true av) (Nat.le_of_ble_eq_true gH) (.inr (KZ hzero))
 unfold aj;rw [ak];exact .qG this
theorem mB {z bE n:Nat}{e:TypeId}(J:Rd g a (.a6 z p n)) (aw:fu P t e bE=true):ch P g (.call { callee:=.builtin .len,args:=#[a],argTypes:=#[t] }) ty (ae n):=.eU (.Cs J.bt aw)
theorem fY {en:bJ α}{L:List α}{y:α}{e:TypeId}(au:bD g p=some (aj en L)) (J:Rd g a (.a6 en.z p L.length)) (hi:Rd g b (.lit (.int k m))) (aw:fu P t e en.z=true) (h:idx L m=some y) (aY:Nat.blt 0 en.z=true):ch P g (.indexAddr t a b) ty (.ptr p (m.toNat * en.z+0)):=by
 obtain ⟨aR,h1,_⟩:=pL h;obtain ⟨j,rfl⟩:=Int.eq_ofNat_of_zero_le aR;have On:0<en.z:=by simpa using aY
 have ah:j<L.length:=by omega
 refine .eU (.EY J.bt hi.bt aw ah ⟨_,au,_,_,_,.inl rfl,?_⟩)
 simp_all [nm]
theorem X5 {en:bJ α}{L:List α}{y:α}{o:Nat}(h:idx L m=some y) (a1:o<en.z):m.toNat * en.z+o<(bo en L).length:=by
 obtain ⟨aR,h1,_⟩:=pL h;rw [nm];have af:m.toNat+1<=L.length:=by omega
 calc m.toNat * en.z+o<m.toNat * en.z+en.z:=by omega
  _=(m.toNat+1) * en.z:=by rw [Nat.add_mul]; omega
  _<=L.length * en.z:=Nat.mul_le_mul_right _ af
theorem ka {en:bJ α}{L:List α}{y:α}{cT f off o gj:Nat}(au:bD g p=some (aj en L)) (J:Rd g a (.ptr p (m.toNat * en.z+o))) (aW:hM P cT f off t=true) (h:idx L m=some y) (a1:o+off=gj) (aT:Nat.blt gj en.z=true):ch P g (.fieldAddr cT a f) ty (.ptr p (m.toNat * en.z+gj)):=by
 subst a1;rw [<- Nat.add_assoc];refine .eU (.Bo J.bt aW ⟨_,au,_,_,_,.inl rfl,?_⟩)
 simp_all [Nat.add_assoc,X5]
theorem u0 {en:bJ α}{L:List α}{y:α}{o:Nat}{x:ab}(au:bD g p=some (aj en L)) (h:idx L m=some y) (aa:(en.cells y)[o]?=some x):bD g (p.push (m.toNat * en.z+o))=some x:=by
 rw [tA,au];exact Kj en h aa
theorem iw {en:bJ α}{L:List α}{y:α}{o:Nat}{x x':ab}(au:bD g p=some (aj en L)) (J:Rd g a (.ptr p (m.toNat * en.z+o))) (aw:jq P t=true) (h:idx L m=some y) (aa:(en.cells y)[o]?=some x) (ao:gx 0 (p.push (m.toNat * en.z+o)) x=x'):ch P g (.load t a) ty x':=by
 subst ao;exact .eU (.Cw J.bt aw (u0 au h aa))
theorem W3 {en:bJ α}{L:List α}{y:α}{o z:Nat}{cs':List ab}(au:bD g p=some (aj en L)) (J:Rd g a (.ptr p (m.toNat * en.z+o))) (aw:ij P t z=true) (h:idx L m=some y) (aY:Nat.ble (o+z) en.z=true)
  (aa:(((en.cells y).drop o).take z).mapIdx (λi x=>gx 0 (p.push (m.toNat * en.z+o+i)) x)=cs'):ch P g (.load t a) ty (.agg cs'):=by
 have On:=Nat.le_of_ble_eq_true aY;have k_:((bo en L).drop (m.toNat * en.z+o)).take z=((en.cells y).drop o).take z:=by
  rw [<- List.drop_drop,Kk en h,List.drop_append_of_le_length (by rw [en.len]; omega),List.take_append_of_le_length (by rw [List.length_drop,en.len]; omega)]
 subst aa;rw [<- k_];refine .eU (.xG J.bt aw au (.inl rfl) ?_);obtain ⟨aR,h1,_⟩:=pL h;rw [nm];have af:m.toNat+1<=L.length:=by omega
 calc m.toNat * en.z+o+z<=m.toNat * en.z+en.z:=by omega
  _=(m.toNat+1) * en.z:=by rw [Nat.add_mul]; omega
  _<=L.length * en.z:=Nat.mul_le_mul_right _ af
end O
class qY (g:aM):Prop where fA:∀ t z q n m new,g t≠some (.bM z q n m new)
class nt (x:ab):Prop where fA:∀ z q n m new,x≠.bM z q n m new
instance {x:ab} [h:cg x]:nt x:=⟨by rintro z q n m new rfl; cases h.bn⟩
instance {p:Place}{k:Nat}:nt (.ptr p k):=⟨by simp⟩
instance {p:Place}{z n:Nat}:nt (.a6 z p n):=⟨by simp⟩
instance {p:Place}{z lo n:Nat}:nt (.sub z p lo n):=⟨by simp⟩
instance {cs:List ab}:nt (.agg cs):=⟨by simp⟩
instance {cs:List ab}:nt (.bW cs):=⟨by simp⟩
instance {cs:List ab}:nt (.obj cs):=⟨by simp⟩
instance {g:aM}{d:Nat}{x:ab} [h:qY g] [J:nt x]:qY (cV g d x):=⟨λt z q n m new e=>by
 unfold cV at e
 split at e
 ·cases e; exact J.fA _ _ _ _ _ rfl
 ·exact h.fA _ _ _ _ _ _ e⟩
instance:qY (get []):=⟨λ_ _ _ _ _ _ e=>by cases e⟩
instance {t:Nat}{x:ab}{G:List (Nat × ab)} [J:nt x] [h:qY (get G)]:qY (get ((t,x)::G)):=⟨λs z q n m new e=>by
 simp only [get] at e
 split at e
 ·cases e; exact J.fA _ _ _ _ _ rfl
 ·exact h.fA _ _ _ _ _ _ e⟩
class DS (acc:Acc):Prop where fA:∀ e∈acc,∀ z q n m new,e.2.2≠some (.bM z q n m new)
instance:DS []:=⟨by simp⟩
instance {j d:Nat}{x:ab}{acc:Acc} [J:nt x] [h:DS acc]:DS ((j,d,some x)::acc):=⟨λe he z q n m new bY=>by
 rcases List.mem_cons.1 he with rfl | he
 ·exact J.fA z q n m new (Option.some.inj bY)
 ·exact h.fA e he z q n m new bY⟩
instance {G:List (Nat × ab)}{A:Nat->Bool}{acc:Acc} [aO:qY (get G)] [h:DS acc]:qY (dh (get G) A acc):=⟨λt z q n m new e=>by
 rcases uM e with ⟨cj,he,_,_,af⟩ | ⟨_,af⟩
 ·exact h.fA cj he _ _ _ _ _ af
 ·exact aO.fA _ _ _ _ _ _ af⟩
theorem yX {L M:List α}{r:List α}{b:Nat}(h:da L M=some r) (av:Nat.ble b 128=true):L.length+M.length<=4611686018427387904/\(L.length+M.length) * b<=140737488355328/\r=L++M:=by
 unfold da at h
 split at h
 ·rename_i ak;have l4:=Nat.le_of_ble_eq_true av;have sP:lim=1099511627776:=rfl;refine ⟨by omega,?_,(Option.some.inj h).symm⟩
  calc (L.length+M.length) * b<=1099511627776 * 128:=Nat.mul_le_mul ak l4
   _=140737488355328:=by decide
 ·cases h
inductive n4 (g:aM) (en:bJ α):ab->List α->Prop
 | i {M:List α}:n4 g en (.bm en.z M.length (bo en M)) M
 | n:n4 g en .aK []
 | o {q:Place}{M:List α}(bg:bD g q=some (aj en M)) (aW:(bo en M).all l3=true):n4 g en (.a6 en.z q M.length) M
theorem n4.src {en:bJ α}{y:ab}{M:List α}(h:n4 g en y M):Src g y en.z M.length (bo en M):=by
 cases h with
 | i=>exact .bm
 | n=>exact .aK
 | o bg aW =>
  have:=Src.a6 (g:=g) (m:=M.length) bg (Nat.le_refl _)
  simp_all [ye,Bq]
theorem n4.flat (en:bJ α) [Flat en] {q:Place}{M:List α}(bg:bD g q=some (aj en M)):n4 g en (.a6 en.z q M.length) M:=.o bg (X_ en M)
namespace O
theorem ap {en:bJ α}{L M r:List α}{y:ab}{e gM:Nat}(aC:Rd g a (.a6 en.z p L.length)) (au:bD g p=some (aj en L)) (J:Rd g b y) (hm:n4 g en y M) (aw:jG P t e en.z gM=true) (av:Nat.ble gM 128=true) (h:da L M=some r) [e9:qY g] :
  ch P g (.call { callee:=.builtin .append,args:=#[a,b],argTypes:=#[t,t] }) ty (.bM en.z p L.length M.length (bo en M)):=by
 obtain ⟨h1,af,_⟩:=yX h av;exact .lS (.grow aC.bt (.inl ⟨_,au⟩) (λt bE cF m' c5 e=>e9.fA _ _ _ _ _ _ e) J.bt hm.src aw h1 af)
theorem Rw {en:bJ α}{M r:List α}{y:ab}{e gM:Nat}(aC:Rd g a .aK) (J:Rd g b y) (hm:n4 g en y M) (aw:jG P t e en.z gM=true) (av:Nat.ble gM 128=true) (h:da [] M=some r) :
  ch P g (.call { callee:=.builtin .append,args:=#[a,b],argTypes:=#[t,t] }) ty (aj en M):=by
 obtain ⟨h1,af,_⟩:=yX h av;simp only [List.length_nil,Nat.zero_add] at h1 af;exact .lS (.nil aC.bt J.bt hm.src aw h1 af)
end O
inductive mN (ex:List Nat) (g g2:aM):List (Nat × ab)->Prop
 | nil:mN ex g g2 []
 | n {s:Nat}{x:ab}{l:List (Nat × ab)}(dq:ex.elem s=false) (h:g s=some x) [aF:cg x] (t:mN ex g g2 l):mN ex g g2 ((s,x)::l)
 | p {s q k:Nat}{l:List (Nat × ab)}{kr:List ab}(dq:ex.elem s=false) (h:g s=some (.ptr ⟨q,[]⟩ k)) (af:g2 q=some (.obj kr)) (fW:Nat.blt k kr.length=true) (t:mN ex g g2 l):mN ex g g2 ((s,.ptr ⟨q,[]⟩ k)::l)
 | w {α:Type}{s q:Nat}{en:bJ α}{L:List α}{l:List (Nat × ab)}(dq:ex.elem s=false) (h:g s=some (.a6 en.z ⟨q,[]⟩ L.length)) (af:g2 q=some (aj en L)) (t:mN ex g g2 l):mN ex g g2 ((s,.a6 en.z ⟨q,[]⟩ L.length)::l)
theorem mN.spec {ex:List Nat}{l:List (Nat × ab)}(h:mN ex g g2 l):∀ t x,get l t=some x->ex.elem t=false/\g t=some x/\di g2 x/\∀ z p n m new,x≠.bM z p n m new:=by
 induction h with
 | nil=>intro t x J; cases J
 | @n s x l dq h aF _ aU =>
  intro t y ax;simp only [get] at ax
  split at ax
  ·rename_i e;subst e;cases ax;exact ⟨dq,h,.bn aF.bn,by rintro z p n m new rfl; cases aF.bn⟩
  grind
 | @p s q k l kr dq h af fW _ aU =>
  intro t y ax;simp only [get] at ax
  split at ax
  ·rename_i e;subst e;cases ax;exact ⟨dq,h,.ref rfl (uD af (by simpa using fW)),by simp⟩
  grind
 | @w α s q en L l dq h af _ aU =>
  intro t y ax;simp only [get] at ax
  split at ax
  ·rename_i e;subst e;cases ax;exact ⟨dq,h,.ref rfl (.inl ⟨_,_,(by simp [bD,af,ab.at]:bD g2 ⟨q,[]⟩=some (aj en L)),Nat.le_refl _⟩),by simp⟩
  grind
theorem mN.keep {ex:List Nat}{G2:List (Nat × ab)}(h:mN ex g (get G2) G2) (aO:∀ t,ex.elem t=false->g1 t=g t):hC g1 (get G2) :=
 ⟨λt x J=>by obtain ⟨h1,af,_⟩:=h.spec t x J; rw [aO t h1]; exact af,λt x J=>(h.spec t x J).2.2.1,λt z q n m new J=>(h.spec t _ J).2.2.2 _ _ _ _ _ rfl⟩
theorem Take.row {en:bJ α}{L:List α}(au:bD g p=some (aj en L)):Take g [.a6 en.z p L.length] [aj en L] (cv g p .dead):=by
 have h1:Take (cv g p .dead) ((bo en L).take (L.length * en.z)) (bo en L) (cv g p .dead):=by
  rw [ye]; exact .bn (pV en L)
 exact .a6 au (Nat.le_refl _) h1 (.bn (by simp))
theorem Take.X7 {en:bJ α}{L M:List α}{s:Nat}(aC:g s=some (.bM en.z q L.length M.length (bo en M))) (au:bD g q=some (aj en L)) (bg:q.root≠s):Take g [.a6 en.z ⟨s,[]⟩ (L.length+M.length)] [aj en (L++M)] (cv (cv g ⟨s,[]⟩ .dead) q .dead):=by
 rw [<- mC];exact .bM aC au bg (.bn λx J=>(List.mem_append.1 J).elim (pV en L x) (pV en M x)) (.bn (by simp))
theorem Take.X8 {en:bJ α}{L M M2:List α}{s s2:Nat}(aC:g s=some (.bM en.z ⟨s2,[]⟩ (L.length+M2.length) M.length (bo en M))) (lf:g s2=some (.bM en.z q L.length M2.length (bo en M2))) (au:bD g q=some (aj en L)) (bg:q.root≠s) (uf:q.root≠s2) (B7:s≠s2) :
  Take g [.a6 en.z ⟨s,[]⟩ (L.length+M2.length+M.length)] [aj en (L++M2++M)] (cv (cv (cv g ⟨s,[]⟩ .dead) ⟨s2,[]⟩ .dead) q .dead):=by
 have:=Take.Fx (g:=g) (xs:=[]) (xs':=[]) aC lf rfl au bg uf B7 (.bn (xs:=bo en L++bo en M2++bo en M) λx J=>by
  grind [pV]) (.bn (by simp))
 grind [FO]
theorem wa {t:Nat}{y:ab}(h:t≠p.root):cv g p y t=g t:=by
 grind [cv]
theorem zc {ex:List Nat}{t s:Nat}(h:ex.elem t=false) (aC:ex.elem s=true):t≠s:=by
 grind
theorem bk.yW {o:Oper}{en:bJ α}{L:List α}{x:Operand}{G2:List (Nat × ab)}(a1:o.op=.assign x) (aS:o.dst=some d) (J:Rd g x (.a6 en.z p L.length)) (au:bD g p=some (aj en L)) (c_:mN [p.root] g (get G2) G2) (aO:get G2 d=none) (bc:N.ok d=true):bk P N g o (cV (get G2) d (aj en L)) :=
 .assign a1 aS J.bt (.row au) .refl (c_.keep λt aw=>wa (zc aw (by simp))) aO bc
theorem bk.Ls {o:Oper}{en:bJ α}{L M:List α}{s:Nat}{x:Operand}{G2:List (Nat × ab)}(a1:o.op=.assign x) (aS:o.dst=some d) (J:Rd g x (.a6 en.z ⟨s,[]⟩ (L.length+M.length))) (aC:g s=some (.bM en.z q L.length M.length (bo en M))) (au:bD g q=some (aj en L)) (bg:Nat.beq q.root s=false)
  (c_:mN [s,q.root] g (get G2) G2) (aO:get G2 d=none) (bc:N.ok d=true):bk P N g o (cV (get G2) d (aj en (L++M))) :=
 .assign a1 aS J.bt (.X7 aC au (Nat.ne_of_beq_eq_false bg)) .refl (c_.keep λt aw=>by rw [wa (zc aw (by simp)),wa (zc aw (by simp))]) aO bc
theorem bk.Rh {o:Oper}{en:bJ α}{L M M2:List α}{s s2:Nat}{x:Operand}{G2:List (Nat × ab)}(a1:o.op=.assign x) (aS:o.dst=some d) (J:Rd g x (.a6 en.z ⟨s,[]⟩ (L.length+M2.length+M.length))) (aC:g s=some (.bM en.z ⟨s2,[]⟩ (L.length+M2.length) M.length (bo en M)))
  (lf:g s2=some (.bM en.z q L.length M2.length (bo en M2))) (au:bD g q=some (aj en L)) (bg:Nat.beq q.root s=false) (uf:Nat.beq q.root s2=false) (B7:Nat.beq s s2=false)
  (c_:mN [s,s2,q.root] g (get G2) G2) (aO:get G2 d=none) (bc:N.ok d=true):bk P N g o (cV (get G2) d (aj en (L++M2++M))) :=
 .assign a1 aS J.bt (.X8 aC lf au (Nat.ne_of_beq_eq_false bg) (Nat.ne_of_beq_eq_false uf) (Nat.ne_of_beq_eq_false B7)) .refl (c_.keep λt aw=>by rw [wa (zc aw (by simp)),wa (zc aw (by simp)),wa (zc aw (by simp))]) aO bc
theorem ar.q9 {o:Oper}{x:ab}{G2:List (Nat × ab)}(aO:o.guard=none) (he:bk P N g o (cV (get G2) d x)) (hk:ar P N ops l (cV (get G2) d x) K):ar P N ops (o::l) g K:=by
 intro i hi;obtain ⟨h1,af⟩:=drop_cons hi;obtain ⟨g',ao,dj⟩:=hk (i+1) af;refine ⟨g',.j' h1 ?_ he ao,dj⟩
 grind [iB]
theorem sF {x:ab}{G:List (Nat × ab)}:cV (get G) d x=get ((d,x)::G):=by
 grind [cV,get]
variable {bd:List (List Nat)}{acc:Acc}{i:Nat}
inductive A4 (P:Program):aM->List ResultVar->List ab->List ab->aM->Prop
 | nil {g:aM}:A4 P g [] [] [] g
 | f {g g':aM}{t:Nat}{x:ab}{rs:List ResultVar}{ys xs:List ab}(h:g t=some x) (aW:l3 x=true) [aF:cg x] (aw:A4 P g rs ys xs g'):A4 P g (.tmp t::rs) (x::ys) (x::xs) g'
 | o {g g':aM}{t:Nat}{en:bJ α}{L:List α}{rs:List ResultVar}{ys xs:List ab}(h:g t=some (aj en L)) (aw:A4 P (cv g ⟨t,[]⟩ .dead) rs ys xs g'):A4 P g (.tmp t::rs) (.a6 en.z ⟨t,[]⟩ L.length::ys) (aj en L::xs) g'
end
end Go.Own
namespace Go.Own
open Go
variable {α β:Type}
section
variable {P:Program}{N:c6}{ops:Array Oper}{g g' g1 g2:aM}{K:aM->Prop}{l:List Oper}{d r:Nat}{ty t t2:TypeId}{pos:String}{after:Array Edge}{a b c:Operand}{p q:Place}{e:Exit}
inductive nv (s:Nat):aM->Nat->List ab->List ab->aM->Prop
 | nil {g:aM}{i:Nat}:nv s g i [] [] g
 | f {g g':aM}{i:Nat}{x:ab}{ys xs:List ab}(aW:l3 x=true) [aF:cg x] (aw:nv s g (i+1) ys xs g'):nv s g i (x::ys) (x::xs) g'
 | o {α:Type}{g g':aM}{i:Nat}{en:bJ α}{L:List α}{ys xs:List ab}(au:bD g ⟨s,[i]⟩=some (aj en L)) (aw:nv s (cv g ⟨s,[i]⟩ .dead) (i+1) ys xs g'):nv s g i (.a6 en.z ⟨s,[i]⟩ L.length::ys) (aj en L::xs) g'
theorem nv.take {s i:Nat}{ys xs:List ab}(h:nv s g i ys xs g'):Take g ys xs g':=by
 induction h with
 | nil=>exact .bn (by simp)
 | @f g g' i x ys xs aW aF _ aU=>exact .cons aF.bn aU
 | @o α g g' i en L ys xs au _ aU =>
  refine .a6 au (Nat.le_refl _) ?_ aU;rw [ye]; exact .bn (pV en L)
inductive j5 (P:Program):aM->List ResultVar->List ab->List ab->aM->Prop
 | nil {g:aM}:j5 P g [] [] [] g
 | f {g g':aM}{t:Nat}{x:ab}{rs:List ResultVar}{ys xs:List ab}(h:g t=some x) (aW:l3 x=true) [aF:cg x] (aw:j5 P g rs ys xs g'):j5 P g (.tmp t::rs) (x::ys) (x::xs) g'
 | o {α:Type}{g g':aM}{t:Nat}{en:bJ α}{L:List α}{rs:List ResultVar}{ys xs:List ab}(h:g t=some (aj en L)) (aw:j5 P (cv g ⟨t,[]⟩ .dead) rs ys xs g'):j5 P g (.tmp t::rs) (.a6 en.z ⟨t,[]⟩ L.length::ys) (aj en L::xs) g'
 | c {g g' wW:aM}{t z:Nat}{ty:TypeId}{cs ys0:List ab}{rs:List ResultVar}{ys xs:List ab}(h:g t=some (.obj cs)) (aw:ij P ty z=true) (aY:cs.length=z) (aR:Nat.blt 0 z=true) (ax:(cs.mapIdx λi x=>gx 0 ⟨t,[i]⟩ x)=ys0) (hk:nv t g 0 ys0 cs wW) (ao:j5 P wW rs ys xs g'):j5 P g (.cell t ty::rs) (.agg ys0::ys) (.agg cs::xs) g'
def yC (g0 g:aM):Prop:=∀ t x,g t=some x->(l3 x=true\/(∃ z n cs,x=.own z n cs))->g0 t=some x
theorem yC.set {g0:aM}{t:Nat}{pp:List Nat}(h:yC g0 g) (a1:pp=[]\/∃ cs,g t=some (.obj cs)):yC g0 (cv g ⟨t,pp⟩ .dead):=by
 intro s x J aW;unfold cv at J
 split at J
 ·rename_i aC;simp only at aC J;subst aC;exfalso;cases aO:g s with
  | none=>rw [aO] at J; cases J
  | some y =>
   rw [aO] at J;simp only [Option.map_some,Option.some.injEq] at J;rcases a1 with rfl | ⟨cs,aa⟩
   ·simp only [ab.setAt] at J;subst J;rcases aW with aW | ⟨_,_,_,aW⟩ <;> cases aW
   ·rw [aO] at aa;cases aa;have:∃ cs',x=.obj cs':=by
     subst J;cases pp with
     | nil=>simp only [ab.setAt] at aW; rcases aW with aW | ⟨_,_,_,aW⟩ <;> cases aW
     | cons k pp =>
      simp only [ab.setAt,ab.kids];split
      ·exact ⟨_,rfl⟩
      ·exact ⟨_,rfl⟩
    obtain ⟨cs',rfl⟩:=this;rcases aW with aW | ⟨_,_,_,aW⟩ <;> cases aW
 ·exact h s x J aW
theorem nv.S5 {g0:aM}{s i:Nat}{ys xs:List ab}(h:nv s g i ys xs g'):(∃ cs,g s=some (.obj cs))->yC g0 g->yC g0 g':=by
 induction h with
 | nil=>exact λ_ h=>h
 | f _ _ aU=>exact aU
 | @o α g g' i en L ys xs au _ aU =>
  intro a1 aS;refine aU ?_ (aS.set (.inr a1));obtain ⟨cs,aa⟩:=a1;unfold cv;simp only [if_pos,aa,Option.map_some,ab.setAt,ab.kids];split
  ·exact ⟨_,rfl⟩
  ·exact ⟨_,rfl⟩
theorem nv.out {s i:Nat}{ys xs:List ab}(h:nv s g i ys xs g'):∀ t,t≠s->g' t=g t:=by
 induction h with
 | nil=>exact λ_ _=>rfl
 | f _ _ aU=>exact aU
 | o _ _ aU=>exact λt aw=>by rw [aU t aw,wa aw]
theorem j5.take {rs:List ResultVar}{ys xs:List ab}(h:j5 P g rs ys xs g'):Take g ys xs g':=by
 induction h with
 | nil=>exact .bn (by simp)
 | @f g g' t x rs ys xs h aW aF _ aU=>exact .cons aF.bn aU
 | @o α g g' t en L rs ys xs h _ aU =>
  have au:bD g ⟨t,[]⟩=some (aj en L):=by simp [bD,h,ab.at]
  refine .a6 au (Nat.le_refl _) ?_ aU;rw [ye]; exact .bn (pV en L)
 | @c g g' wW t z ty cs ys0 rs ys xs h aw aY aR ax hk _ aU=>exact .agg hk.take aU
theorem j5.vs {rs:List ResultVar}{ys xs:List ab}(h:j5 P g rs ys xs g'):∀ g0:aM,yC g0 g->(∀ t ty,ResultVar.cell t ty∈rs->∀ cs,g t=some (.obj cs)->g0 t=some (.obj cs))->(rs.filterMap fun | .cell t _=>some t | _=>none).Nodup->rM P g0 rs ys:=by
 induction h with
 | nil=>exact λ_ _ _ _=>.nil
 | @f g g' t x rs ys xs h aW aF _ aU =>
  intro g0 aS av ft;exact .cons (.tmp (Rd.f (aS t x h (.inl aW)) aW)) (aU g0 aS (λt ty hm=>av t ty (List.mem_cons_of_mem _ hm)) (by simpa using ft))
 | @o α g g' t en L rs ys xs h _ aU =>
  intro g0 aS av ft;refine .cons (.tmp ?_) (aU g0 (aS.set (.inl rfl)) (λs ty hm cs aa=>?_) (by simpa using ft))
  ·have:=aS t _ h (.inr ⟨_,_,_,rfl⟩);simp [Own.bt,this,ry,gx]
  ·by_cases aC:s=t
   ·subst aC; simp [cv,h,ab.setAt] at aa
   ·rw [wa aC] at aa; exact av s ty (List.mem_cons_of_mem _ hm) cs aa
 | @c g g' wW t z ty cs ys0 rs ys xs h aw aY aR ax hk _ aU =>
  intro g0 aS av ft;have h1:=av t ty (by simp) cs h;simp only [List.filterMap_cons,List.nodup_cons] at ft;refine .cons ?_ (aU g0 (hk.S5 ⟨cs,h⟩ aS) (λs yn hm cs' aa=>?_) ft.2)
  ·have On:0<z:=by simpa using aR
   have J:Own.bt g0 (.tmp t)=some (.ptr ⟨t,[]⟩ 0):=by
    cases cs with
    | nil=>simp at aY; omega
    | cons c cs=>simp [Own.bt,h1,ry,gx]
   have:=c8.xG (P:=P) (ty:=ty) (p:=⟨t,[]⟩) (n:=0) (z:=0) J aw (by simp only [bD,h1,ab.at]) (.inr rfl) (show 0+z<=cs.length by omega);have hN:((cs.drop 0).take z).mapIdx (λi x=>gx 0 (Place.push ⟨t,[]⟩ (0+i)) x)=ys0:=by
    rw [List.drop_zero,List.take_of_length_le (by omega),<- ax];congr 1;funext i x;simp [Place.push]
   rw [hN] at this;exact .cell this
  ·have b1:s≠t:=by
    rintro rfl;exact ft.1 (List.mem_filterMap.2 ⟨.cell s yn,hm,rfl⟩)
   have:=hk.out s b1;rw [this] at aa;exact av s yn (List.mem_cons_of_mem _ hm) cs' aa
inductive q0 (g:aM) (pins:List Nat):Nat->List (Option ab)->Prop
 | nil {i:Nat}:q0 g pins i []
 | no {i:Nat}{os:List (Option ab)}(t:q0 g pins (i+1) os):q0 g pins i (none::os)
 | aq {i:Nat}{x:ab}{os:List (Option ab)}(h:g i=some x) [aF:cg x] (au:pins.elem i=true) (t:q0 g pins (i+1) os):q0 g pins i (some x::os)
theorem q0.spec {pins:List Nat}{i:Nat}{os:List (Option ab)}(h:q0 g pins i os):∀ k x,os[k]?=some (some x)->g (i+k)=some x/\cU x/\i+k∈pins:=by
 induction h with
 | nil=>intro k x hk; simp at hk
 | no _ aU =>
  intro k x hk;cases k with
  | zero=>simp at hk
  | succ k=>have:=aU k x (by simpa using hk); rw [Nat.add_assoc,Nat.add_comm 1 k] at this; exact this
 | @aq i y os h aF au _ aU =>
  intro k x hk;cases k with
  | zero=>simp at hk; subst hk; exact ⟨h,aF.bn,by simpa using au⟩
  | succ k=>have:=aU k x (by simpa using hk); rw [Nat.add_assoc,Nat.add_comm 1 k] at this; exact this
theorem Fin.ro {rs:List ResultVar}{ys xs:List ab}{res:ab}{outs:List (Option ab)}{n:Nat}(h:j5 P g rs ys xs g') (he:qJ xs=res) (ft:(rs.filterMap fun | .cell t _=>some t | _=>none).Nodup) (a1:q0 g' N.pins 0 outs) (ak:outs.length=n) (J:e=.normal\/e=.ret):Fin P N rs n outs res e g :=
 ⟨J,⟨ys,xs,g',h.vs g (λ_ _ h _=>h) (λ_ _ _ _ h=>h) ft,h.take,he.symm,λk x hk=>by have:=a1.spec k x hk; rw [Nat.zero_add] at this; exact this⟩,ak⟩
class i' (x y:ab):Prop where v:∀ g,View g x y
class dr (xs ys:List ab):Prop where
 l:ys.length=xs.length
 v:∀ (g:aM) (k:Nat) (x y:ab),xs[k]?=some x->ys[k]?=some y->View g x y
class gU (e cj:bJ α):Prop where
 z:e.z=cj.z
 v:∀ a,dr (e.cells a) (cj.cells a)
instance {v:Value}:i' (.lit v) (.lit v):=⟨λ_=>.self .lit (by simp) (by simp) (by simp) (by simp) (by simp)⟩
instance:i' .aK .aK:=⟨λ_=>.self .aK (by simp) (by simp) (by simp) (by simp) (by simp)⟩
instance {z n:Nat}{cs:List ab} [h:dp cs]:i' (.bm z n cs) (.bm z n cs):=⟨λ_=>.self (.bm h.bn) (by simp) (by simp) (by simp) (by simp) (by simp)⟩
instance {cs:List ab} [h:dp cs]:i' (.cI cs) (.cI cs):=⟨λ_=>.self (.cI h.bn) (by simp) (by simp) (by simp) (by simp) (by simp)⟩
instance {e:bJ α}:i' .aK (ag e []):=⟨λ_=>.qE⟩
instance:dr [] []:=⟨rfl,by simp⟩
instance {x y:ab}{xs ys:List ab} [h:i' x y] [aQ:dr xs ys]:dr (x::xs) (y::ys):=⟨by simp [aQ.l],λg k a b aP av=>by
 cases k with
 | zero=>simp at aP av; subst aP av; exact h.v g
 | succ k=>exact aQ.v g k a b (by simpa using aP) (by simpa using av)⟩
theorem Dx (e cj:bJ α) [h:gU e cj]:∀ L:List α,(bo cj L).length=(bo e L).length/\∀ (g:aM) (k:Nat) (x y:ab),(bo e L)[k]?=some x->(bo cj L)[k]?=some y->View g x y
 | []=>⟨rfl,by simp [bo]⟩
 | a::L=>by
  obtain ⟨h1,af⟩:=Dx e cj L;have Td:∀ e:bJ α,bo e (a::L)=e.cells a++bo e L:=λe=>by simp [bo]
  refine ⟨by rw [nm,nm,h.z],λg k x y J ax=>?_⟩;rw [Td] at J ax;by_cases hk:k<e.z
  ·rw [List.getElem?_append_left (by rw [e.len]; exact hk)] at J;rw [List.getElem?_append_left (by rw [cj.len,<- h.z]; exact hk)] at ax;exact (h.v a).v g k x y J ax
  ·rw [List.getElem?_append_right (by rw [e.len]; omega),e.len] at J;rw [List.getElem?_append_right (by rw [cj.len,<- h.z]; omega),cj.len,<- h.z] at ax;exact af g _ x y J ax
instance {e cj:bJ α}{L:List α} [h:gU e cj]:i' (aj e L) (ag cj L):=⟨λg=>by
 have:=Dx e cj L;show View g (.own e.z L.length (bo e L)) (.bm cj.z L.length (bo cj L));rw [<- h.z];exact .own this.1 (this.2 g)⟩
instance:gU ai ai:=⟨rfl,λa=>(inferInstance:dr [ae a] [ae a])⟩
instance:gU qi qi:=⟨rfl,λa=>(inferInstance:dr [q3 a] [q3 a])⟩
instance:gU cr cr:=⟨rfl,λa=>(inferInstance:dr [a_ a] [a_ a])⟩
instance:gU dx dx:=⟨rfl,λa=>(inferInstance:dr [ay a] [ay a])⟩
instance {e cj:bJ α} [h:gU e cj]:gU (Mr e) (bp cj):=⟨rfl,λa=>(inferInstance:dr [aj e a] [ag cj a])⟩
instance {e:bJ α}:gU (bp e) (bp e):=⟨rfl,λa=>(inferInstance:dr [ag e a] [ag e a])⟩
theorem View.row {e cj:bJ α}{L:List α} [h:gU e cj] (au:bD g p=some (aj e L)):View g (.a6 e.z p L.length) (ag cj L):=by
 have:=Dx e cj L;show View g _ (.bm cj.z L.length (bo cj L));rw [<- h.z];refine .a6 au (Nat.le_refl _) (by rw [ye]; exact this.1) (λk x y J ax=>?_);rw [ye] at J;exact this.2 g k x y J ax
inductive oG (g:aM):List ab->List ab->Prop
 | nil:oG g [] []
 | s {x y:ab}{xs ys:List ab} [h:i' x y] (t:oG g xs ys):oG g (x::xs) (y::ys)
 | c {x y:ab}{xs ys:List ab}(h:View g x y) (t:oG g xs ys):oG g (x::xs) (y::ys)
theorem oG.len {xs ys:List ab}(h:oG g xs ys):ys.length=xs.length:=by
 induction h with
 | nil=>rfl
 | s _ aU=>simp [aU]
 | c _ _ aU=>simp [aU]
theorem oG.get {xs ys:List ab}(h:oG g xs ys):∀ (k:Nat) (x y:ab),xs[k]?=some x->ys[k]?=some y->View g x y:=by
 induction h with
 | nil=>intro k x y J; simp at J
 | @s x y xs ys h _ aU =>
  intro k a b aP av;cases k with
  | zero=>simp at aP av; subst aP av; exact h.v g
  | succ k=>exact aU k a b (by simpa using aP) (by simpa using av)
 | @c x y xs ys h _ aU =>
  intro k a b aP av;cases k with
  | zero=>simp at aP av; subst aP av; exact h
  | succ k=>exact aU k a b (by simpa using aP) (by simpa using av)
theorem View.mO {xs ys:List ab}(h:oG g xs ys):View g (.agg xs) (.agg ys):=.agg h.len h.get
class p7 (x:ab):Prop where lk:kF x
class jC (cs:List ab):Prop where lk:∀ x∈cs,kF x
class l1 (e:bJ α):Prop where lk:∀ a,jC (e.cells a)
instance {v:Value}:p7 (.lit v):=⟨.lit⟩
instance:p7 .aK:=⟨.aK⟩
instance:jC []:=⟨by simp⟩
instance {x:ab}{xs:List ab} [h:p7 x] [aQ:jC xs]:jC (x::xs):=⟨λy ax=>by
 rcases List.mem_cons.1 ax with rfl | ax
 ·exact h.lk
 ·exact aQ.lk y ax⟩
instance {e:bJ α}{L:List α} [h:l1 e]:jC (bo e L):=⟨λx J=>by
 obtain ⟨a,_,aP⟩:=List.mem_flatMap.1 J;exact (h.lk a).lk x aP⟩
instance {z n:Nat}{cs:List ab} [h:jC cs]:p7 (.own z n cs):=⟨.own h.lk⟩
instance {cs:List ab} [h:jC cs]:p7 (.obj cs):=⟨.obj h.lk⟩
instance {cs:List ab} [h:jC cs]:p7 (.agg cs):=⟨.agg h.lk⟩
instance {cs:List ab} [h:jC cs]:p7 (.bW cs):=⟨.bW h.lk⟩
instance {e:bJ α}{a:α} [h:l1 e]:jC (e.cells a):=h.lk a
instance:l1 ai:=⟨λa=>(inferInstance:jC [ae a])⟩
instance:l1 qi:=⟨λa=>(inferInstance:jC [q3 a])⟩
instance:l1 cr:=⟨λa=>(inferInstance:jC [a_ a])⟩
instance:l1 dx:=⟨λa=>(inferInstance:jC [ay a])⟩
instance {e:bJ α} [h:l1 e]:l1 (Mr e):=⟨λa=>(inferInstance:jC [aj e a])⟩
theorem OY {outs:List (Option ab)}{args:List ab}(a1:sm outs=true) (ak:outs.length=args.length):outs=args.map λ_=>none:=by
 apply List.ext_getElem?;intro k;rw [List.getElem?_map];cases ax:args[k]? with
 | none=>rw [List.getElem?_eq_none (by rw [ak]; exact List.getElem?_eq_none_iff.1 ax)]; rfl
 | some y =>
  have hk:k<outs.length:=by rw [ak]; exact (List.getElem?_eq_some_iff.1 ax).1
  have h1:=List.getElem?_eq_getElem hk;rw [h1];cases af:outs[k] with
  | none=>rfl
  | some x=>rw [af] at h1; exact absurd h1 (Fm a1 k x)
theorem cB.vw {xs:List Operand}{gq:Array TypeId}{f:FuncId}{ys args:List ab}{outs:List (Option ab)}{res:ab}(J:gn g xs=some ys) (hv:oG g ys args) (gQ:bV P f args outs res) (aW:gN P f=true) (a1:sm outs=true) [ao:p7 res] :
  cB P g (.call { callee:=.value (.func f),args:=xs.toArray,argTypes:=gq }) res:=by
 have e:=OY a1 gQ.1;refine .E_ (first:=[]) (caps:=[]) (ys:=ys) (args:=args) rfl (by simpa using J) aW (by simpa using hv.len) (λk x y J ax=>hv.get k x y (by simpa using J) ax) ?_ ao.lk;rw [<- e]; exact gQ
end
end Go.Own
namespace Go.Own
open Go
variable {α β:Type}
section
variable {P:Program}{N:c6}{ops:Array Oper}{g g' g1 g2:aM}{K:aM->Prop}{l:List Oper}{d r:Nat}{op:Op}{ty t t2:TypeId}{pos:String}{after:Array Edge}{gd:Option (Nat × Bool)}{a b c:Operand}{p q:Place}{x y:ab}
variable {bd:List (List Nat)}{g0:aM}{acc:Acc}{i:Nat}
instance {cs cs':List ab} [h:dr cs cs']:i' (.obj cs) (.cI cs'):=⟨λg=>.obj h.l (h.v g)⟩
instance {cs cs':List ab} [h:dr cs cs']:i' (.agg cs) (.agg cs'):=⟨λg=>.agg h.l (h.v g)⟩
instance {z n:Nat}{cs cs':List ab} [h:dr cs cs']:i' (.own z n cs) (.bm z n cs'):=⟨λg=>.own h.l (h.v g)⟩
theorem ar.fh (au:ch P g op ty y) [aF:cg y] [hv:i' y x] (bc:N.ok d=true) (aW:g d=none) (aO:fw g ops gd) (hk:ar P N ops l (cV g d x) K):ar P N ops (⟨some d,op,ty,pos,after,gd⟩::l) g K :=
 .AD rfl bc aW (r:=some x) (.inr (.inr ⟨aO.wanted,y,.inl au,aF.bn,hv.v _⟩)) hk
theorem bz.fh (bG:Nat) (au:ch P (jA bd g0 bG acc) op ty y) [aF:cg y] [hv:i' y x] (ah:Nat.beq ops.size (bG+l.length+1)=true) (aW:g0 d=none) (k':acc.all (λe=>!Nat.beq e.2.1 d)=true) (bc:N.ok d=true) (aO:fw (jA bd g0 bG acc) ops gd)
  (hk:bz P N ops bd g0 i ((bG,d,some x)::acc) l K):bz P N ops bd g0 i acc (⟨some d,op,ty,pos,after,gd⟩::l) K :=
 .st bG (r:=some x) rfl (.inr (.inr ⟨aO.wanted,y,.inl au,aF.bn,hv.v _⟩)) ah aW k' bc hk
inductive n9 (ex:List Nat) (g g2:aM):List (Nat × ab)->Prop
 | nil:n9 ex g g2 []
 | n {s:Nat}{x:ab}{l:List (Nat × ab)}(dq:ex.elem s=false) (h:g s=some x) [aF:cg x] (t:n9 ex g g2 l):n9 ex g g2 ((s,x)::l)
 | p {s q k:Nat}{l:List (Nat × ab)}{kr:List ab}(dq:ex.elem s=false) (h:g s=some (.ptr ⟨q,[]⟩ k)) (af:g2 q=some (.obj kr)) (fW:Nat.blt k kr.length=true) (t:n9 ex g g2 l):n9 ex g g2 ((s,.ptr ⟨q,[]⟩ k)::l)
 | z {s:Nat}{x y:ab}{l:List (Nat × ab)}(he:ex.elem s=true) (h:g s=some y) [aF:cg y] (hv:h3 y x) [J:nt x] (t:n9 ex g g2 l):n9 ex g g2 ((s,x)::l)
theorem n9.spec {ex:List Nat}{l:List (Nat × ab)}(h:n9 ex g g2 l):∀ t x,get l t=some x->((ex.elem t=false/\g t=some x/\di g2 x)\/(ex.elem t=true/\∃ y,g t=some y/\cU y/\h3 y x))/\∀ z p n m new,x≠.bM z p n m new:=by
 induction h with
 | nil=>intro t x J; cases J
 | @n s x l dq h aF _ aU =>
  intro t y ax;simp only [get] at ax
  split at ax
  ·rename_i e;subst e;cases ax;exact ⟨.inl ⟨dq,h,.bn aF.bn⟩,by rintro z p n m new rfl; cases aF.bn⟩
  grind
 | @p s q k l kr dq h af fW _ aU =>
  intro t y ax;simp only [get] at ax
  split at ax
  ·rename_i e;subst e;cases ax;exact ⟨.inl ⟨dq,h,.ref rfl (uD af (by simpa using fW))⟩,by simp⟩
  grind
 | @z s x y l he h aF hv J _ aU =>
  intro t y' ax;simp only [get] at ax
  split at ax
  ·rename_i e;subst e;cases ax;exact ⟨.inr ⟨he,y,h,aF.bn,hv⟩,J.fA⟩
  grind
theorem n9.u5 {ex:List Nat}{G2:List (Nat × ab)}(h:n9 ex g (get G2) G2):GH (λt=>ex.elem t) g (get G2):=by
 refine ⟨λt x J aw=>?_,λt x J aw=>?_,λt z q n m new J=>(h.spec t _ J).2 _ _ _ _ _ rfl⟩
 ·rcases (h.spec t x J).1 with ⟨_,h1,af⟩ | ⟨h1,_⟩
  ·grind
  grind
 ·rcases (h.spec t x J).1 with ⟨h1,_⟩ | ⟨_,af⟩
  ·grind
  grind
theorem W.dN {bF:Code}{G G1:List (Nat × ab)}{Φ:Exit->aM->Prop}(ex:List Nat) (h:n9 ex (get G) (get G1) G1) (hw:W P N bF (get G1) Φ):W P N bF (get G) Φ:=by
 intro Q a w I Fs bl bc dO;obtain ⟨I',b7,dY,b1⟩:=bl.u5 h.u5;exact hw dY bc λe g' b' w' he aF=>dO e g' b' w' he (h5.trans rfl hB.refl b1 aF)
theorem ar.dN {G1:List (Nat × ab)}(ex:List Nat) (h:n9 ex g (get G1) G1) (hk:ar P N ops l (get G1) K):ar P N ops l g K:=by
 intro i hi;obtain ⟨g',ao,dj⟩:=hk i hi;exact ⟨g',.u5 h.u5 ao,dj⟩
theorem Take.pre {xs xs':List ab}:∀ {ps:List ab},(∀ x∈ps,cU x)->Take g xs xs' g'->Take g (ps++xs) (ps++xs') g'
 | [],_,h=>h
 | x::ps,aF,h=>.cons (aF x (by simp)) (Take.pre (ps:=ps) (λy ax=>aF y (List.mem_cons_of_mem _ ax)) h)
inductive e6:aM->List ab->List ab->aM->Prop
 | nil {g:aM}:e6 g [] [] g
 | ky {g:aM}{xs:List ab} [aF:dp xs]:e6 g xs xs g
 | f {g g':aM}{x:ab}{xs xs':List ab} [aF:cg x] (t:e6 g xs xs' g'):e6 g (x::xs) (x::xs') g'
 | r {α:Type}{g g':aM}{p:Place}{en:bJ α}{L:List α}{xs xs':List ab}(au:bD g p=some (aj en L)) (t:e6 (cv g p .dead) xs xs' g'):e6 g (.a6 en.z p L.length::xs) (aj en L::xs') g'
 | l {g g1 g':aM}{p:Place}{z n:Nat}{cs cs' xs xs':List ab}(au:bD g p=some (.own z n cs)) (ak:cs.length=n * z) (h1:e6 (cv g p .dead) cs cs' g1) (t:e6 g1 xs xs' g'):e6 g (.a6 z p n::xs) (.own z n cs'::xs') g'
 | h' {α:Type}{g g1 g':aM}{q:Place}{s m:Nat}{en:bJ α}{L:List α}{new c5 xs xs':List ab}(aC:g s=some (.bM en.z q L.length m new)) (au:bD g q=some (aj en L)) (bg:Nat.beq q.root s=false) (h1:e6 (cv (cv g ⟨s,[]⟩ .dead) q .dead) new c5 g1) (t:e6 g1 xs xs' g') :
   e6 g (.a6 en.z ⟨s,[]⟩ (L.length+m)::xs) (.own en.z (L.length+m) (bo en L++c5)::xs') g'
 | mO {g g1 g':aM}{cs cs' xs xs':List ab}(h1:e6 g cs cs' g1) (t:e6 g1 xs xs' g'):e6 g (.agg cs::xs) (.agg cs'::xs') g'
 | m {g g':aM}{p:Place}{q:Array MapEntry->Nat->Prop}{xs xs':List ab}(au:bD g p=some (.mp q)) (t:e6 (cv g p .dead) xs xs' g'):e6 g (.gB p::xs) (.mp q::xs') g'
 | b {g g1 g':aM}{p:Place}{cs cs' xs xs':List ab}(au:bD g p=some (.obj cs)) (h1:e6 (cv g p .dead) cs cs' g1) (t:e6 g1 xs xs' g'):e6 g (.ptr p 0::xs) (.obj cs'::xs') g'
theorem e6.take {xs xs':List ab}(h:e6 g xs xs' g'):Take g xs xs' g':=by
 induction h with
 | m au _ aU=>exact .mp au (.bn (by simp)) aU
 | nil=>exact .bn (by simp)
 | @ky g xs aF=>exact .bn aF.bn
 | @f g g' x xs xs' aF _ aU=>exact .cons aF.bn aU
 | @r α g g' p en L xs xs' au _ aU =>
  refine .a6 au (Nat.le_refl _) ?_ aU;rw [ye];exact .bn (pV en L)
 | @l g g1 g' p z n cs cs' xs xs' au ak _ _ gA gi =>
  refine .a6 au (Nat.le_refl _) ?_ gi
  grind
 | @h' α g g1 g' q s m en L new c5 xs xs' aC au bg _ _ gA gi=>exact .bM aC au (Nat.ne_of_beq_eq_false bg) (.pre (pV en L) gA) gi
 | @mO g g1 g' cs cs' xs xs' _ _ gA gi=>exact .agg gA gi
 | @b g g1 g' p cs cs' xs xs' au _ _ gA gi=>exact .obj au gA gi
inductive fo:List ab->List ab->Prop
 | nil:fo [] []
 | hX {xs:List ab}:fo xs xs
 | f {x:ab}{xs ys:List ab}(t:fo xs ys):fo (x::xs) (x::ys)
 | o {z:Nat}{xs ys:List ab}(t:fo xs ys):fo (.aK::xs) (.own z 0 []::ys)
 | z {x y:ab}{xs ys:List ab} [aF:cg x] [hv:i' x y] (t:fo xs ys):fo (x::xs) (y::ys)
 | g {x y:ab}{xs ys:List ab}(h:h3 x y) (t:fo xs ys):fo (x::xs) (y::ys)
theorem fo.len {xs ys:List ab}(h:fo xs ys):ys.length=xs.length:=by
 induction h with
 | nil=>rfl
 | hX=>rfl
 | f _ aU=>simp [aU]
 | o _ aU=>simp [aU]
 | z _ aU=>simp [aU]
 | g _ _ aU=>simp [aU]
theorem fo.get {xs ys:List ab}(h:fo xs ys):∀ (k:Nat) (x y:ab),xs[k]?=some x->ys[k]?=some y->h3 x y:=by
 induction h with
 | nil=>intro k x y J; simp at J
 | hX=>intro k x y J ax; rw [J] at ax; cases ax; exact .refl
 | @f x xs ys _ aU =>
  intro k a b aP av;cases k with
  | zero=>simp at aP av; subst aP av; exact .refl
  | succ k=>exact aU k a b (by simpa using aP) (by simpa using av)
 | @o z xs ys _ aU =>
  intro k a b aP av;cases k with
  | zero=>simp at aP av; subst aP av; exact .CB
  | succ k=>exact aU k a b (by simpa using aP) (by simpa using av)
 | @z x y xs ys aF hv _ aU =>
  intro k a b aP av;cases k with
  | zero=>simp at aP av; subst aP av; exact .pK aF.bn (hv.v _)
  | succ k=>exact aU k a b (by simpa using aP) (by simpa using av)
 | @g x y xs ys h _ aU =>
  grind
theorem fo.pre {xs ys:List ab}(h:fo xs ys):∀ ps:List ab,fo (ps++xs) (ps++ys)
 | []=>h
 | _::ps=>.f (fo.pre h ps)
theorem fo.own {z n:Nat}{xs ys:List ab}(h:fo xs ys):h3 (.own z n xs) (.own z n ys):=.own h.len h.get
theorem fo.obj {xs ys:List ab}(h:fo xs ys):h3 (.obj xs) (.obj ys):=.obj h.len h.get
theorem fo.agg {xs ys:List ab}(h:fo xs ys):h3 (.agg xs) (.agg ys):=.agg h.len h.get
theorem h3.j4 [aF:cg x] [hv:i' x y]:h3 x y:=.pK aF.bn (hv.v _)
theorem bk.A6 {o:Oper}{x:Operand}{y bx y':ab}{G2:List (Nat × ab)}(a1:o.op=.assign x) (aS:o.dst=some d) (J:Rd g x y) (aw:e6 g [y] [bx] g1) (aY:h3 bx y') (c_:Trim false g1 (get G2) G2) (aO:get G2 d=none) (bc:N.ok d=true):bk P N g o (cV (get G2) d y') :=
 .assign a1 aS J.bt aw.take aY c_.keep aO bc
theorem bk.LF {o:Oper}{x:Operand}{en:bJ α}{L M R:List α}{s m:Nat}{new c5:List ab}{G2:List (Nat × ab)}(a1:o.op=.assign x) (aS:o.dst=some d) (J:Rd g x (.a6 en.z ⟨s,[]⟩ (L.length+m))) (aC:g s=some (.bM en.z q L.length m new)) (au:bD g q=some (aj en L)) (bg:Nat.beq q.root s=false)
  (h1:e6 (cv (cv g ⟨s,[]⟩ .dead) q .dead) new c5 g1) (aY:fo c5 (bo en M)) (hm:M.length=m) (ao:L++M=R) (c_:Trim false g1 (get G2) G2) (aO:get G2 d=none) (bc:N.ok d=true):bk P N g o (cV (get G2) d (aj en R)):=by
 subst hm ao;have aw:=e6.h' (xs:=[]) (xs':=[]) aC au bg h1 .nil;rw [<- mC];exact .assign a1 aS J.bt aw.take (aY.pre _).own c_.keep aO bc
theorem bk.pY {o:Oper}{k0:Nat}{jr cs' cs2:List ab}{y bx y':ab}{G2:List (Nat × ab)}(a1:o.op=.store t a b) (aS:o.dst=none) (aP:Rd g a (.ptr ⟨r,[]⟩ k0)) (av:Rd g b y) (aw:e6 g [y] [bx] g1) (re:h3 bx y') (aa:oL y'=some cs') (aY:hl P t cs'.length=true)
  (aC:g1 r=some (.obj jr)) (hk:Nat.ble (k0+cs'.length) jr.length=true) (aR:Nat.blt 0 cs'.length=true) (he:e5 jr k0 cs'=cs2) [e9:dp jr] (ao:(get G2 r).isSome=true) (c_:k5 g1 (get G2) r cs2 G2):bk P N g o (get G2):=by
 subst he;refine .store a1 aS aP.bt av.bt aw.take re aa aY (p:=⟨r,[]⟩) (nd:=.obj jr) (z:=0) (n:=0) (by simp [bD,aC,ab.at]) (.inr rfl) (Nat.le_of_ble_eq_true hk) (by simpa using aR) (λt x J=>?_) (λt x J y ax=>?_) (λt z q n m new J=>?_) (by intro e; rw [e] at ao; cases ao)
 ·rcases c_.spec t x J with ⟨h1,af,_⟩ | ⟨h1,af,_⟩
  all_goals grind [cv,ab.setAt,ab.e5]
 ·rcases c_.spec t x J with ⟨h1,af,aI⟩ | ⟨h1,af,aI⟩
  ·rw [af] at ax;cases ax;exact aI.yc
  ·subst h1;rw [aC] at ax;cases ax;exact .bn (.obj e9.bn)
 ·rcases c_.spec t _ J with ⟨_,_,aI⟩ | ⟨_,af,_⟩
  ·exact aI.fA _ _ _ _ _ rfl
  grind
theorem bk.F5 {o:Oper}{k0 s m:Nat}{en:bJ α}{L M R:List α}{new c5:List ab}{jr cs2:List ab}{G2:List (Nat × ab)}(a1:o.op=.store t a b) (aS:o.dst=none) (aP:Rd g a (.ptr ⟨r,[]⟩ k0)) (av:Rd g b (.a6 en.z ⟨s,[]⟩ (L.length+m))) (qt:g s=some (.bM en.z q L.length m new)) (au:bD g q=some (aj en L)) (bg:Nat.beq q.root s=false)
  (h1:e6 (cv (cv g ⟨s,[]⟩ .dead) q .dead) new c5 g1) (re:fo c5 (bo en M)) (hm:M.length=m) (aZ:L++M=R) (aY:hl P t 1=true)
  (aC:g1 r=some (.obj jr)) (hk:Nat.ble (k0+1) jr.length=true) (he:e5 jr k0 [aj en R]=cs2) [e9:dp jr] (ao:(get G2 r).isSome=true) (c_:k5 g1 (get G2) r cs2 G2):bk P N g o (get G2):=by
 subst hm aZ;have aw:=e6.h' (xs:=[]) (xs':=[]) qt au bg h1 .nil;refine .pY (y':=aj en (L++M)) a1 aS aP av aw ?_ rfl aY aC hk rfl he ao c_;rw [<- mC]; exact (re.pre _).own
inductive ns (r:Nat) (cs:List ab) (k0:Nat):Nat->List ab->List ab->Prop
 | nil {i:Nat}:ns r cs k0 i [] []
 | b {i:Nat}{xs ys:List ab}(hi:Nat.beq i k0=true) (t:ns r cs k0 (i+1) xs ys):ns r cs k0 i (.ptr ⟨r,[]⟩ 0::xs) (.obj cs::ys)
 | n {i:Nat}{x:ab}{xs ys:List ab}(hi:Nat.beq i k0=false) [aF:cg x] (t:ns r cs k0 (i+1) xs ys):ns r cs k0 i (x::xs) (x::ys)
theorem ns.len {cs:List ab}{k0 i:Nat}{xs ys:List ab}(h:ns r cs k0 i xs ys):ys.length=xs.length:=by
 induction h with
 | nil=>rfl
 | b _ _ aU=>simp [aU]
 | n _ _ aU=>simp [aU]
theorem ns.Xf {cs:List ab}{k0 i:Nat}{xs ys:List ab}(h:ns r cs k0 i xs ys) (hi:k0<i):xs=ys/\∀ x∈xs,cU x:=by
 induction h with
 | nil=>exact ⟨rfl,by simp⟩
 | @b i _ _ h _ _=>have:=Nat.eq_of_beq_eq_true h; omega
 | @n i x xs ys _ aF _ aU =>
  obtain ⟨h1,af⟩:=aU (by omega);exact ⟨by rw [h1],pQ aF.bn af⟩
theorem ns.take {cs:List ab}{k0 i:Nat}{xs ys:List ab}(h:ns r cs k0 i xs ys) (aC:g r=some (.obj cs)) (aF:∀ x∈cs,cU x):i<=k0->k0<i+xs.length->Take g xs ys (cv g ⟨r,[]⟩ .dead):=by
 induction h with
 | nil=>intro h1 af; simp at af; omega
 | @b i xs ys hi t _ =>
  intro h1 af;have:=Nat.eq_of_beq_eq_true hi;obtain ⟨e,mY⟩:=t.Xf (by omega);subst e;exact .obj (by simp [bD,aC,ab.at]) (.bn aF) (.bn mY)
 | @n i x xs ys hi J _ aU =>
  intro h1 af;have:=Nat.ne_of_beq_eq_false hi;simp only [List.length_cons] at af;exact .cons J.bn (aU (by omega) (by omega))
theorem ns.RF {cs:List ab}{k0 i:Nat}{xs ys:List ab}(h:ns r cs k0 i xs ys):i<=k0->k0<i+xs.length->xs[k0 - i]?=some (.ptr ⟨r,[]⟩ 0):=by
 induction h with
 | nil=>intro h1 af; simp at af; omega
 | @b i xs ys hi _ _=>intro _ _; have:=Nat.eq_of_beq_eq_true hi; subst this; simp
 | @n i x xs ys hi _ _ aU =>
  grind [Nat.ne_of_beq_eq_false]
def uu (n k0:Nat) (x:ab):List (Option ab):=(List.range n).map λi=>if i=k0 then some x else none
inductive yA (g:aM) (d r:Nat) (n:Nat) (G4:List (Nat × ab)):List (Nat × ab)->Prop
 | nil:yA g d r n G4 []
 | c {s k:Nat}{l:List (Nat × ab)}(h:g s=some (.ptr ⟨r,[]⟩ k)) (hk:Nat.blt k n=true) (aS:Nat.beq s d=false) (bK:get G4 s=none) (t:yA g d r n G4 l):yA g d r n G4 ((s,.ptr ⟨r,[]⟩ k)::l)
theorem Em {A B:List (Nat × ab)}{t:Nat}:get (A++B) t=match get A t with | some x=>some x | none=>get B t:=by
 induction A with
 | nil=>rfl
 | cons p A aU =>
  grind [get]
theorem yA.spec {n:Nat}{G4 A:List (Nat × ab)}(h:yA g d r n G4 A):∀ t x,get A t=some x->get G4 t=none/\t≠d/\g t=some x/\∃ k,x=.ptr ⟨r,[]⟩ k/\k<n:=by
 induction h with
 | nil=>intro t x J; cases J
 | @c s k l h hk aS bK _ aU =>
  intro t x J;simp only [get] at J
  split at J
  ·rename_i e;subst e;cases J
   simp_all [Nat.ne_of_beq_eq_false]
  grind
theorem hJ.nh {o:Oper}{xs:List Operand}{gq:Array TypeId}{f:FuncId}{ys args:List ab}{res:ab}{cs cs':List ab}{k0:Nat}{G2 A:List (Nat × ab)}(a1:o.op=.call { callee:=.value (.func f),args:=xs.toArray,argTypes:=gq }) (aS:o.dst=some d) (J:Own.gn g xs=some ys)
  (aC:g r=some (.obj cs)) [e9:dp cs] (aP:ns r cs k0 0 ys args) (lL:Nat.blt k0 ys.length=true) (gQ:bV P f args (uu args.length k0 (.obj cs')) res) (aW:gN P f=true) [ao:cg res] [BT:dp cs']
  (c_:Trim false (cv g ⟨r,[]⟩ .dead) (get ((r,.dead)::G2)) G2) (aO:get G2 d=none) (r9:Nat.beq r d=false) (Bw:Trim false (get ((r,.obj cs')::G2)) (get ((r,.obj cs')::G2)) G2) (et:yA g d r cs'.length ((r,.obj cs')::G2) A) (bc:N.ok d=true) :
  hJ P N g o d (get (A++(d,res)::(r,.obj cs')::G2)):=by
 have acj:k0<ys.length:=by simpa using lL
 have IS:r≠d:=Nat.ne_of_beq_eq_false r9;have tQ:args.length=ys.length:=aP.len;have r8:(uu args.length k0 (.obj cs'))[k0]?=some (some (.obj cs')):=by
  grind [uu]
 have VG:∀ (k:Nat) (x:ab),(uu args.length k0 (.obj cs'))[k]?=some (some x)->x=.obj cs':=by
  grind [uu]
 have Hn:get ((r,ab.dead)::G2) r=some .dead:=by simp [get]
 have xA:hC (cv g ⟨r,[]⟩ .dead) (get ((r,.dead)::G2)):=by
  refine ⟨λt x h=>?_,λt x h=>?_,λt z q n m new h=>?_⟩
  all_goals
   simp only [get] at h
   split at h
  ·grind [cv,ab.setAt]
  ·obtain ⟨⟨y,h1,_,aI⟩,_⟩:=c_.spec t x h
   grind
  ·cases h;exact .bn .dead
  ·exact (c_.spec t x h).2.1
  ·cases h
  ·exact (c_.spec t _ h).2.2 _ _ _ _ _ rfl
 have put:qI (get ((r,.dead)::G2)) [(⟨r,[]⟩,.obj cs')]=get ((r,.obj cs')::G2):=by
  funext t
  simp_all [qI,cv,get,ab.setAt]
 have xB:hC (get ((r,.obj cs')::G2)) (get ((r,.obj cs')::G2)):=by
  refine ⟨λt x h=>h,λt x h=>?_,λt z q n m new h=>?_⟩
  all_goals
   simp only [get] at h
   split at h
  ·cases h;exact .bn (.obj BT.bn)
  ·exact (Bw.spec t x h).2.1
  ·cases h
  ·exact (Bw.spec t _ h).2.2 _ _ _ _ _ rfl
 refine yD.ok (first:=[]) (caps:=[]) (ys:=ys) (tk:=λ_=>true) (vw:=false) (outs:=uu args.length k0 (.obj cs')) (g1:=cv g ⟨r,[]⟩ .dead) (g2:=get ((r,.dead)::G2)) (g4:=get ((r,.obj cs')::G2)) (l:=[(⟨r,[]⟩,.obj cs')]) (ks:=λ_=>k0) (xs0:=ys) (xs1:=args) (args:=args) (res:=res) a1 aS rfl (by simpa using J)
  ⟨aW,by simp,by simpa using tQ,λk x h=>.inl (by simpa using h),aP.take aC e9.bn (Nat.zero_le _) (by omega),xA,λk x y _ ax=>by simpa using ax,gQ,by simpa using ao.bn,λk x h=>by rw [VG k x h]; simpa using cU.obj BT.bn,λj p x ah=>?_,by simp,λi j hi ah _=>by simp at hi ah; omega,by rw [put]; exact xB⟩ ?_ bc ?_
 ·cases j with
  | succ j=>simp at ah
  | zero =>
   simp only [List.getElem?_cons_zero,Option.some.injEq,Prod.mk.injEq] at ah;obtain ⟨rfl,rfl⟩:=ah;refine ⟨r8,by simp [bD,Hn,ab.at],.inr ⟨cs,?_,by simp [bD,aC,ab.at]⟩⟩;have:=aP.RF (Nat.zero_le _) (by omega)
   grind
 ·grind [get]
 ·refine ⟨λt x h=>?_,λt x h=>?_⟩
  ·rw [sF] at h;rw [Em];cases rY:get A t with
   | none=>exact h
   | some y =>
    obtain ⟨h1,af,_⟩:=et.spec t y rY
    grind [get]
  ·rw [sF];rw [Em] at h;cases rY:get A t with
   | none=>rw [rY] at h; exact .inl h
   | some y =>
    rw [rY] at h;cases h;obtain ⟨h1,af,aI,k,rfl,hk⟩:=et.spec t x rY;refine .inr ⟨?_,af,aI,r,k,cs',rfl,IS,?_,hk⟩
    all_goals grind [get]
end
end Go.Own
namespace Go.Own
open Go
variable {α β:Type}
def Ed (k:IntKind):bJ Int:=.one (λn=>.lit (.int k n)) λ_=>.lit
instance {k:IntKind}:Flat (Ed k):=⟨λ_=>rfl⟩
instance {k:IntKind}:gU (Ed k) (Ed k):=⟨rfl,λa=>(inferInstance:dr [.lit (.int k a)] [.lit (.int k a)])⟩
instance {k:IntKind}:l1 (Ed k):=⟨λa=>(inferInstance:jC [.lit (.int k a)])⟩
instance {cs:List ab}{n:Nat}{x:ab} [h:dp cs] [J:cg x]:dp (cs.set n x):=⟨λy ax=>by
 rcases List.mem_or_eq_of_mem_set ax with aQ | aQ
 ·exact h.bn y aQ
 ·rw [aQ]; exact J.bn⟩
instance {x y:ab} [h:cg y]:cg (x.setAt [] y):=⟨by simpa [ab.setAt] using h.bn⟩
def rv (m n:Int):Option Int:=if n=0 then none else some (IntKind.u64.wrap (m.tdiv n))
def rA (m n:Int):Option Int:=if n=0 then none else some (m.tmod n)
inductive j9:List ab->List ab->Prop
 | nil:j9 [] []
 | f {x:ab}{xs ys:List ab}(t:j9 xs ys):j9 (x::xs) (x::ys)
 | o {z:Nat}{xs ys:List ab}(t:j9 xs ys):j9 (.aK::xs) (.own z 0 []::ys)
 | i {z:Nat}{xs ys:List ab}(t:j9 xs ys):j9 (.aK::xs) (.bm z 0 []::ys)
theorem j9.len {xs ys:List ab}(h:j9 xs ys):ys.length=xs.length:=by
 induction h with
 | nil=>rfl
 | f _ aU=>simp [aU]
 | o _ aU=>simp [aU]
 | i _ aU=>simp [aU]
theorem j9.get {xs ys:List ab}(h:j9 xs ys):∀ (k:Nat) (x y:ab),xs[k]?=some x->ys[k]?=some y->pe x y:=by
 induction h with
 | nil=>intro k x y J; simp at J
 | f _ aU =>
  intro k a b aP av;cases k with
  | zero=>simp at aP av; subst aP av; exact .refl
  | succ k=>exact aU k a b (by simpa using aP) (by simpa using av)
 | o _ aU =>
  intro k a b aP av;cases k with
  | zero=>simp at aP av; subst aP av; exact .pP
  | succ k=>exact aU k a b (by simpa using aP) (by simpa using av)
 | i _ aU =>
  intro k a b aP av;cases k with
  | zero=>simp at aP av; subst aP av; exact .pO
  | succ k=>exact aU k a b (by simpa using aP) (by simpa using av)
theorem j9.obj {xs ys:List ab}(h:j9 xs ys):pe (.obj xs) (.obj ys):=.obj h.len h.get
section
variable {P:Program}{N:c6}{ops:Array Oper}{g g' g1 g2:aM}{K:aM->Prop}{l:List Oper}{d r:Nat}{op:Op}{ty t t2:TypeId}{pos:String}{after:Array Edge}{gd:Option (Nat × Bool)}{a b c:Operand}{p q:Place}{x y:ab}{k:IntKind}{m n:Int}
variable {bd:List (List Nat)}{g0:aM}{acc:Acc}{i:Nat}
def rn:List Nat->Bool
 | []=>true
 | x::l=>l.all (λy=>!Nat.beq x y)&&rn l
theorem Fe:∀ {l:List Place},rn (l.map Place.root)=true->l.Nodup
 | [],_=>List.nodup_nil
 | p::l,h=>by
  simp only [List.map_cons,rn,Bool.and_eq_true,List.all_eq_true] at h;refine List.nodup_cons.2 ⟨λhm=>?_,Fe h.2⟩;have:=h.1 p.root (List.mem_map.2 ⟨p,hm,rfl⟩);simp at this
theorem bz.wF (bG:Nat) {G G2:List (Nat × ab)}{o:Oper}(he:bk P N (dh (get G) (λ_=>true) acc) o (get G2)) (aO:o.guard=none) (gR:rn ((acc.filterMap j0).map Place.root)=true) (fH:mb G=true) (ah:Nat.beq ops.size (bG+l.length+1)=true)
  (aP:(List.range bG).all (λk=>(bd.getD bG []).contains k)=true) (av:(List.range ops.size).all (λk=>Nat.ble k bG||(bd.getD k []).contains bG)=true) (hk:bz P N ops bd (get G2) (bG+1) [] l K):bz P N ops bd (get G) i acc (o::l) K:=by
 intro dV j cx kP k_;have:=zb k_ ah;subst this;obtain ⟨h1,af⟩:=drop_cons k_;obtain ⟨g',ao,dj⟩:=hk [] (j+1) .nil .nil af;refine ⟨g',.LQ cx kP (Fe gR) (vH fH) h1 ?_ he aP ?_ ao,dj⟩
 ·grind [iB]
 simp_all
theorem bz.bv (bG:Nat) {G G2:List (Nat × ab)}{o:Oper}{x:ab}(he:bk P N (dh (get G) (λ_=>true) acc) o (cV (get G2) d x)) (aO:o.guard=none) (gR:rn ((acc.filterMap j0).map Place.root)=true) (fH:mb G=true) (ah:Nat.beq ops.size (bG+l.length+1)=true)
  (aP:(List.range bG).all (λk=>(bd.getD bG []).contains k)=true) (av:(List.range ops.size).all (λk=>Nat.ble k bG||(bd.getD k []).contains bG)=true) (hk:bz P N ops bd (get ((d,x)::G2)) (bG+1) [] l K):bz P N ops bd (get G) i acc (o::l) K :=
 .wF bG (sF ▸ he) aO gR fH ah aP av hk
class pa (s:Nat) (g:aM):Prop where fA:∀ t,t≠s->∀ z q n m new,g t≠some (.bM z q n m new)
instance (priority:=low) {s:Nat}{g:aM} [h:qY g]:pa s g:=⟨λt _=>h.fA t⟩
instance {s:Nat}{g:aM}{x:ab} [h:pa s g]:pa s (cV g s x):=⟨λt aw z q n m new e=>by
 unfold cV at e;rw [if_neg aw] at e;exact h.fA t aw _ _ _ _ _ e⟩
instance {s d:Nat}{g:aM}{x:ab} [h:pa s g] [J:nt x]:pa s (cV g d x):=⟨λt aw z q n m new e=>by
 unfold cV at e
 split at e
 ·cases e; exact J.fA _ _ _ _ _ rfl
 ·exact h.fA t aw _ _ _ _ _ e⟩
class yP (s:Nat) (acc:Acc):Prop where fA:∀ e∈acc,e.2.1≠s->∀ z q n m new,e.2.2≠some (.bM z q n m new)
instance {s:Nat}:yP s []:=⟨by simp⟩
instance {s j d:Nat}{x:ab}{acc:Acc} [J:nt x] [h:yP s acc]:yP s ((j,d,some x)::acc):=⟨λe he aC z q n m new bY=>by
 rcases List.mem_cons.1 he with rfl | he
 ·exact J.fA z q n m new (Option.some.inj bY)
 ·exact h.fA e he aC z q n m new bY⟩
instance {s j:Nat}{x:Option ab}{acc:Acc} [h:yP s acc]:yP s ((j,s,x)::acc):=⟨λe he aC z q n m new bY=>by
 rcases List.mem_cons.1 he with rfl | he
 ·exact absurd rfl aC
 ·exact h.fA e he aC z q n m new bY⟩
instance {s:Nat}{G:List (Nat × ab)}{A:Nat->Bool}{acc:Acc} [aO:qY (get G)] [h:yP s acc]:pa s (dh (get G) A acc):=⟨λt aw z q n m new e=>by
 rcases uM e with ⟨cj,he,h1,_,af⟩ | ⟨_,af⟩
 ·exact h.fA cj he (by rw [h1]; exact aw) _ _ _ _ _ af
 ·exact aO.fA _ _ _ _ _ _ af⟩
namespace O
theorem rv {r:Int}(J:Rd g a (.lit (.int .u64 m))) (ax:Rd g b (.lit (.int .u64 n))) (h:Own.rv m n=some r):ch P g (.binOp .quo t a b t2) ty (.lit (.int .u64 r)):=by
 unfold Own.rv at h
 split at h
 ·cases h
 ·cases h; exact .eU (.quo J ax (by assumption))
theorem rA {r:Int}(J:Rd g a (.lit (.int .u64 m))) (ax:Rd g b (.lit (.int .u64 n))) (h:Own.rA m n=some r):ch P g (.binOp .rem t a b t2) ty (.lit (.int .u64 r)):=by
 unfold Own.rA at h
 split at h
 ·cases h
 ·cases h; exact .eU (.rem J ax (by assumption))
theorem S0 {L:List Int}(J:Rd g a (.bm qi.z L.length (bo qi L))) (aw:wI P t t2=true):ch P g (.convert t t2 a) ty (ay (strOfNums L)):=by
 have h:=J.bt;rw [PD] at h;exact .eU (.Ec h aw)
theorem wG {e dz:Nat}{parts:Array (Nat × Operand)}{ys cs:List ab}{z:Nat}(aw:fu P t e z=true) (J:gn g (parts.toList.map (·.2))=some ys) (aa:mm ys=some cs) (aY:ys.all (λy=>match jS y with | some c=>Nat.beq c.length z | none=>false)=true)
  (au:parts.toList=(parts.toList.map (·.2)).mapIdx (λi x=>(i,x))) (aF:(parts.toList.map (·.2)).length=dz) (hzero:ic P e z=true) (av:Nat.ble (dz * z) 16777216=true) (gH:Nat.ble dz 16777216=true):ch P g (.buildSlice t dz parts) ty (.own z dz cs):=by
 subst aF;exact .qG (.buildSlice aw au J (λy ax=>by
  grind [Nat.eq_of_beq_eq_true]) aa (Nat.le_of_ble_eq_true av) (Nat.le_of_ble_eq_true gH) (.inr (KZ hzero)))
theorem Qb {z m:Nat}{cs:List ab}(bg:bD g q=some (.own z m cs)) (ak:cs.length=m * z) (aW:cs.all l3=true):Src g (.a6 z q m) z m cs:=by
 have:=Src.a6 (g:=g) (m:=m) bg (Nat.le_refl _)
 simp_all [List.take_of_length_le,Bq]
theorem GR {en:bJ α}{L M r:List α}{e gM m:Nat}{cs:List ab}(aC:Rd g a (.a6 en.z p L.length)) (au:bD g p=some (aj en L)) (J:Rd g b (.a6 en.z q m)) (bg:bD g q=some (.own en.z m cs)) (ak:cs.length=m * en.z) (aW:cs.all l3=true) (hm:M.length=m) (aw:jG P t e en.z gM=true) (av:Nat.ble gM 128=true) (h:da L M=some r) [e9:qY g] :
  ch P g (.call { callee:=.builtin .append,args:=#[a,b],argTypes:=#[t,t] }) ty (.bM en.z p L.length m cs):=by
 subst hm;obtain ⟨h1,af,_⟩:=yX h av;exact .lS (.grow aC.bt (.inl ⟨_,au⟩) (λt bE cF m' c5 e=>e9.fA _ _ _ _ _ _ e) J.bt (Qb bg ak aW) aw h1 af)
theorem D3 {en:bJ α}{L M M2 r:List α}{y:ab}{e gM s:Nat}(aC:Rd g a (.a6 en.z ⟨s,[]⟩ (L.length+M.length))) (qt:g s=some (.bM en.z q L.length M.length (bo en M))) (au:bD g q=some (aj en L)) (J:Rd g b y) (hm:n4 g en y M2) (aw:jG P t e en.z gM=true) (av:Nat.ble gM 128=true) (h:da (L++M) M2=some r) [e9:pa s g] :
  ch P g (.call { callee:=.builtin .append,args:=#[a,b],argTypes:=#[t,t] }) ty (.bM en.z ⟨s,[]⟩ (L.length+M.length) M2.length (bo en M2)):=by
 obtain ⟨h1,af,_⟩:=yX h av;rw [List.length_append] at h1 af;refine .lS (.grow aC.bt (.inr ⟨rfl,q,L.length,M.length,bo en M,_,qt,rfl,au⟩) (λt bE cF m' c5 e=>?_) J.bt hm.src aw h1 af);by_cases V4:t=s
 ·grind [bD,ab.at]
 ·exact e9.fA t V4 _ _ _ _ _ e
theorem OO {en:bJ α}{z0:α}{r:List α}{e gM:Nat}{dJ:Value}(aw:fu P t e en.z=true) (J:Rd g a (.lit (.int k m))) (ax:Rd g b (.lit (.int .i64 m))) (hzero:(P.info? e).bind (·.zero)=some dJ) (h1:dJ.cells.toList.all Value.oneCell'=true) (ha:(en.cells z0).length=dJ.cells.size) (U6:∀ (k:Nat) (u:Value) (x:ab),dJ.cells[k]?=some u->(en.cells z0)[k]?=some x->x=lR u\/(lR u=.aK/\∃ bE,x=.bm bE 0 [])) (h:ni m z0=some r) (iO:(P.info? e).map (·.bytes)=some gM) (av:Nat.ble gM 128=true) :
  ch P g (.makeSlice t a b) ty (aj en r):=by
 unfold ni at h
 split at h
 ·rename_i hm;have sP:lim=1099511627776:=rfl;have l4:=Nat.le_of_ble_eq_true av;obtain ⟨j,rfl⟩:=Int.eq_ofNat_of_zero_le hm.1;cases h;have ah:j<=1099511627776:=by omega
  have fX:dJ.cells.size=en.z:=by rw [<- ha,en.len]
  have:=p9.makeSlice (P:=P) (ty:=ty) aw J.bt ax.bt hzero (by rw [<- Array.all_toList]; exact h1) fX iO (by
   calc j * gM<=1099511627776 * 128:=Nat.mul_le_mul ah l4
    _=140737488355328:=by decide) (by omega) ha U6
  have cz:(List.replicate j (en.cells z0)).flatten=bo en (List.replicate j z0):=by simp [bo,List.flatMap_def]
  unfold aj;rw [Int.toNat_natCast,List.length_replicate,<- cz];exact .qG this
 ·cases h
theorem mk {en:bJ α}{z0:α}{r:List α}{e gM:Nat}{dJ:Value}(aw:fu P t e en.z=true) (J:Rd g a (.lit (.int k m))) (ax:Rd g b (.lit (.int .i64 m))) (hzero:(P.info? e).bind (·.zero)=some dJ) (h1:dJ.cells.toList.all Value.oneCell'=true) (aa:dJ.cells.toList.map lR=en.cells z0) (h:ni m z0=some r) (iO:(P.info? e).map (·.bytes)=some gM) (av:Nat.ble gM 128=true) :
  ch P g (.makeSlice t a b) ty (aj en r):=by
 grind [OO]
theorem W_ {e:bJ β}{r:List (List β)}{m:Int}{k:IntKind}{a b:Operand}{t ty:TypeId}{Bk gM:Nat}{dJ:Value}(aw:fu P t Bk (bp e).z=true) (J:Rd g a (.lit (.int k m))) (ax:Rd g b (.lit (.int .i64 m))) (hzero:(P.info? Bk).bind (·.zero)=some dJ) (h1:dJ.cells.toList.all Value.oneCell'=true) (aa:dJ.cells.toList.map lR=[.aK]) (h:ni m ([]:List β)=some r) (iO:(P.info? Bk).map (·.bytes)=some gM) (av:Nat.ble gM 128=true) :
  ch P g (.makeSlice t a b) ty (aj (bp e) r):=by
 refine OO aw J ax hzero h1 ?_ (λk u x hu J=>.inr ?_) h iO av
 ·grind [List.length_map,bp]
 ·have ak:=congrArg List.length aa;rw [List.length_map] at ak;have hk:k=0:=by
   grind
  subst hk;have jP:dJ.cells.toList[0]?=some u:=by simpa using hu
  have af:=congrArg (λl=>l[0]?) aa;simp only [List.getElem?_map,jP,Option.map_some] at af;have af:=Option.some.inj af;refine ⟨af,e.z,?_⟩;have J:([ag e []]:List ab)[0]?=some x:=J;have:x=ag e []:=(Option.some.inj J).symm;rw [this];rfl
end O
theorem Ki (en:bJ α) {L:List α}{y y2:α}{o:Nat}{cs':List ab}(h:idx L m=some y) (he:e5 (en.cells y) o cs'=en.cells y2) (hlen:o+cs'.length<=en.z):e5 (bo en L) (m.toNat * en.z+o) cs'=bo en (L.set m.toNat y2):=by
 obtain ⟨aR,h1,af⟩:=pL h;have aT:m.toNat<L.length:=(List.getElem?_eq_some_iff.1 af).1;have ax:L[m.toNat]=y:=(List.getElem?_eq_some_iff.1 af).2;have cz:bo en L=bo en (L.take m.toNat)++(en.cells y++bo en (L.drop (m.toNat+1))):=by
  grind [bo,List.take_append_drop,List.drop_eq_getElem_cons]
 have cf:bo en (L.set m.toNat y2)=bo en (L.take m.toNat)++(en.cells y2++bo en (L.drop (m.toNat+1))):=by
  grind [List.set_eq_take_append_cons_drop,bo]
 have ak:(bo en (L.take m.toNat)).length=m.toNat * en.z:=by rw [nm,List.length_take]; congr 1; omega
 rw [cz,cf,<- he];unfold e5;generalize bo en (L.take m.toNat)=A at *;generalize bo en (L.drop (m.toNat+1))=B at *;rw [<- ak];have EU:=en.len y;rw [List.take_append,List.take_of_length_le (by omega),show A.length+o - A.length=o by omega,List.take_append_of_le_length (by omega)];rw [List.drop_append,List.drop_eq_nil_of_le (by omega),show A.length+o+cs'.length - A.length=o+cs'.length by omega,List.drop_append_of_le_length (by omega)];simp
theorem Ht {en:bJ α}{L:List α}{i:Int}{off:Nat}{y:α}(h:idx L i=some y) (a1:Nat.blt off en.z=true):i.toNat * en.z+off<(bo en L).length:=by
 obtain ⟨De,ln,_⟩:=pL h;have nJ:off<en.z:=by simpa using a1
 rw [nm];have af:i.toNat+1<=L.length:=by omega
 calc i.toNat * en.z+off<i.toNat * en.z+en.z:=by omega
  _=(i.toNat+1) * en.z:=by rw [Nat.add_mul]; omega
  _<=L.length * en.z:=Nat.mul_le_mul_right _ af
theorem om {L:List α}{i:Int}{y y2:α}(h:idx L i=some y):idx (L.set i.toNat y2) i=some y2:=by
 grind [idx]
inductive o' (g g2:aM):ab->Prop
 | mk {α:Type}{en:bJ α}{L Ld:List α}{r j off:Nat}{i:Int}{y y2:α}(h1:bD g ⟨r,[j]⟩=some (aj en L)) (hi:idx L i=some y) (af:bD g2 ⟨r,[j]⟩=some (aj en Ld)) (BN:idx Ld i=some y2) (a1:Nat.blt off en.z=true):o' g g2 (.ptr ⟨r,[j]⟩ (i.toNat * en.z+off))
theorem o'.O6 {x:ab}(h:o' g g2 x):gE g x:=by
 cases h with
 | mk h1 hi af BN a1=>exact ⟨_,h1,_,_,_,.inl rfl,Ht hi a1⟩
theorem o'.Ft {x:ab}(h:o' g g2 x):gE g2 x:=by
 cases h with
 | mk h1 hi af BN a1=>exact ⟨_,af,_,_,_,.inl rfl,Ht BN a1⟩
theorem o'.bS {x:ab}(h:o' g g2 x):di g2 x:=by
 have:=h.Ft;cases h with
 | mk=>exact .ref rfl this
theorem o'.fA {x:ab}(h:o' g g2 x):∀ z p n m new,x≠.bM z p n m new:=by
 cases h with
 | mk=>simp
theorem o'.clear {x:ab}{k0 m0:Nat}(h:o' g g2 x) (au:p.path≠[]):Clear p k0 m0 x:=by
 cases h with
 | mk =>
  intro q bg _ j dm e;simp only [Aw,Option.some.injEq] at bg;subst bg;cases EJ:p.path with
  | nil=>exact absurd EJ au
  | cons a b=>rw [EJ] at e; simp at e
inductive kG (g g2:aM) (r:Nat) (x2:ab):List (Nat × ab)->Prop
 | nil:kG g g2 r x2 []
 | n {s:Nat}{x:ab}{l:List (Nat × ab)}(dq:Nat.beq s r=false) (h:g s=some x) [aF:cg x] (t:kG g g2 r x2 l):kG g g2 r x2 ((s,x)::l)
 | p {s q k:Nat}{l:List (Nat × ab)}{cs kr:List ab}(dq:Nat.beq s r=false) (h:g s=some (.ptr ⟨q,[]⟩ k)) (h1:g q=some (.obj cs)) (hk:Nat.blt k cs.length=true) (af:g2 q=some (.obj kr)) (fW:Nat.blt k kr.length=true) (t:kG g g2 r x2 l):kG g g2 r x2 ((s,.ptr ⟨q,[]⟩ k)::l)
 | e {s:Nat}{x:ab}{c2:List ab}{l:List (Nat × ab)}(dq:Nat.beq s r=false) (h:g s=some x) (he:o' g g2 x) (iu:x2=.obj c2) (t:kG g g2 r x2 l):kG g g2 r x2 ((s,x)::l)
 | w {α:Type}{s q:Nat}{en:bJ α}{L:List α}{l:List (Nat × ab)}(dq:Nat.beq s r=false) (h:g s=some (.a6 en.z ⟨q,[]⟩ L.length)) (h1:g q=some (aj en L)) (af:g2 q=some (aj en L)) (t:kG g g2 r x2 l):kG g g2 r x2 ((s,.a6 en.z ⟨q,[]⟩ L.length)::l)
 | b {l:List (Nat × ab)}{x:ab}(e:x=x2) [aF:cg x2] (t:kG g g2 r x2 l):kG g g2 r x2 ((r,x)::l)
theorem kG.spec {x2:ab}{l:List (Nat × ab)}(h:kG g g2 r x2 l):∀ t x,get l t=some x->(t≠r/\g t=some x/\(qa g g2 x\/o' g g2 x/\∃ c2,x2=.obj c2))\/(t=r/\x=x2/\cU x):=by
 induction h with
 | nil=>intro t x J; cases J
 | @n s x l dq h aF _ aU =>
  intro t y ax;simp only [get] at ax
  split at ax
  ·rename_i e;subst e;cases ax;exact .inl ⟨Nat.ne_of_beq_eq_false dq,h,.inl (.n aF.bn)⟩
  grind
 | @p s q k l cs kr dq h h1 hk af fW _ aU =>
  intro t y ax;simp only [get] at ax
  split at ax
  ·rename_i e;subst e;cases ax;exact .inl ⟨Nat.ne_of_beq_eq_false dq,h,.inl (.p h1 (by simpa using hk) af (by simpa using fW))⟩
  grind
 | @e s x c2 l dq h he iu _ aU =>
  grind [get,Nat.ne_of_beq_eq_false]
 | @w α s q en L l dq h h1 af _ aU =>
  intro t y ax;simp only [get] at ax
  split at ax
  ·rename_i e;subst e;cases ax;exact .inl ⟨Nat.ne_of_beq_eq_false dq,h,.inl (.r h1 (Nat.le_refl _) af (Nat.le_refl _))⟩
  grind
 | @b l x e aF _ aU =>
  intro t y ax;simp only [get] at ax
  split at ax
  ·rename_i cj;subst cj;cases ax;subst e;exact .inr ⟨rfl,rfl,aF.bn⟩
  grind
theorem qa.Kg {x:ab}{k0 m0:Nat}(h:qa g g2 x):jm (λr=>gE g r/\Clear p k0 m0 r/\gE g2 r) x:=by
 cases h with
 | n h=>exact .bn h
 | p h hk af fW =>
  refine .ref rfl ⟨uD h hk,?_,uD af fW⟩;intro q bg _ j dm e;simp only [Aw,Option.some.injEq] at bg;subst bg;simp at e
 | r h hk af fW =>
  refine .ref rfl ⟨Av h hk,?_,Av af fW⟩;intro q bg _ j dm e;simp only [Aw,Option.some.injEq] at bg;subst bg;simp at e
theorem bk.td {gj:Oper}{en:bJ α}{L:List α}{jj y2:α}{o:Nat}{cs':List ab}{x2:ab}{G2:List (Nat × ab)}(a1:gj.op=.store t a b) (aS:gj.dst=none) (aP:Rd g a (.ptr p (m.toNat * en.z+o))) (av:Rd g b y) (au:bD g p=some (aj en L)) (h:idx L m=some jj) (aY:hl P t cs'.length=true)
  (aa:oL y=some cs') (he:e5 (en.cells jj) o cs'=en.cells y2) (hlen:Nat.ble (o+cs'.length) en.z=true) (aR:Nat.blt 0 cs'.length=true) (iu:cv g p (aj en (L.set m.toNat y2)) p.root=some x2) (ao:(get G2 p.root).isSome=true) [aF:cg y] {y0:ab}(rk:g p.root=some y0) [e9:cg y0] (c_:kG g (get G2) p.root x2 G2):bk P N g gj (get G2):=by
 have BP:=Nat.le_of_ble_eq_true hlen;have je:=Ki en h he BP;have NP:(L.set m.toNat y2).length=L.length:=List.length_set;refine .store a1 aS aP.bt av.bt (.bn (by simpa using aF.bn)) .refl aa aY (p:=p) (nd:=aj en L) (z:=en.z) (n:=L.length) (cs:=bo en L) au (.inl rfl) ?_ (by simpa using aR) (λt x J=>?_) (λt x J y ax=>?_) (λt z q n m new J=>?_) (by intro e; rw [e] at ao; cases ao)
 ·obtain ⟨De,ln,_⟩:=pL h;rw [nm];have af:m.toNat+1<=L.length:=by omega
  calc m.toNat * en.z+o+cs'.length<=m.toNat * en.z+en.z:=by omega
   _=(m.toNat+1) * en.z:=by rw [Nat.add_mul]; omega
   _<=L.length * en.z:=Nat.mul_le_mul_right _ af
 ·have ft:(aj en L).e5 (m.toNat * en.z+o) cs'=aj en (L.set m.toNat y2):=by
   show ab.own en.z L.length (e5 (bo en L) (m.toNat * en.z+o) cs')=_
   grind
  rw [ft];rcases c_.spec t x J with ⟨h1,af,_⟩ | ⟨h1,af,_⟩
  ·grind [uG]
  grind
 ·rcases c_.spec t x J with ⟨h1,af,aI⟩ | ⟨h1,af,aI⟩
  ·rw [af] at ax;cases ax;rcases aI with aI | ⟨aI,c2,rfl⟩
   ·exact aI.Kg
   ·refine jm.ref (by cases aI; rfl) ⟨aI.O6,aI.clear ?_,aI.Ft⟩
    grind [cv,ab.setAt]
  ·subst h1;rw [rk] at ax;cases ax;exact .bn e9.bn
 ·rcases c_.spec t _ J with ⟨_,_,aI | ⟨aI,_⟩⟩ | ⟨_,_,aI⟩
  ·exact aI.fA _ _ _ _ _ rfl
  ·exact aI.fA _ _ _ _ _ rfl
  ·cases aI
end
end Go.Own
namespace Go.Own
open Go
theorem RQ (a b:ByteArray):(a == b)=decide (a=b):=by
 obtain ⟨a⟩:=a;obtain ⟨b⟩:=b;have:(({ data:=a }:ByteArray) == { data:=b })=(a == b):=rfl;rw [this,Bool.eq_iff_iff];simp
inductive n3 where
 | b | s | i (k:IntKind)
 deriving DecidableEq
def me:Value->Option n3
 | .bool _=>some .b
 | .string _=>some .s
 | .int k _=>some (.i k)
 | _=>none
def Bi (P:Program) (rc:TypeId->List n3->Bool):List Field->Nat->List n3->Bool
 | [],_,eQ=>eQ.isEmpty
 | f :: fs, o, eQ => f.name != "_" && f.offset == o && (match P.info? f.type with
   | some i=>i.size<=eQ.length&&rc f.type (eQ.take i.size)&&Bi P rc fs (o+i.size) (eQ.drop i.size)
   | none=>false)
def tJ (P:Program):Nat->TypeId->List n3->Bool
 | 0,_,_=>false
 | d+1,t,eQ=>match P.underlying t with
  | some .bool=>eQ == [.b]&&jq P t
  | some (.int k)=>eQ == [.i k]&&jq P t
  | some .string=>eQ == [.s]&&jq P t
  | some (.struct fs)=>ij P t eQ.length&&!P.stoodInHeld t&&Bi P (tJ P d) fs.toList 0 eQ
  | _=>false
def Mw:Value->Value->Bool
 | .bool a,.bool b=>a == b
 | .int _ a,.int _ b=>decide (a=b)
 | .string a,.string b=>decide (a=b)
 | _,_=>false
def lG:List Value->List Value->Bool
 | a::az,b::dc=>Mw a b&&lG az dc
 | _,_=>true
theorem Mx:∀ (az dc cs jI:List Value),az.length=dc.length->lG (az++cs) (dc++jI)=(lG az dc&&lG cs jI)
 | [],[],cs,jI,_=>by simp [lG]
 | [],_::_,_,_,h=>by simp at h
 | _::_,[],_,_,h=>by simp at h
 | a::az,b::dc,cs,jI,h=>by
  simp only [List.cons_append,lG,Mx az dc cs jI (by simpa using h),Bool.and_assoc]
def pack (P:Program) (t:TypeId) (vs:List Value):Value :=
 match P.underlying t,vs with
 | some (.struct _),_=>.agg vs.toArray
 | _,v::_=>v
 | _,[]=>.agg #[]
theorem PK {P:Program}{w:World}{t:TypeId}{d:Nat}{eQ:List n3}(h:tJ P (d+1) t eQ=true) {cs:List Value}{o:Nat}{vs:List Value}(hv:(cs.drop o).take eQ.length=vs) (ak:vs.length=eQ.length) :
  (part t cs.toArray o).run P w=.ok (pack P t vs) w:=by
 unfold tJ at h
 split at h
 case h_4 fs hu =>
  simp only [Bool.and_eq_true] at h;obtain ⟨h1,af⟩:=D2 (w:=w) h.1.1;simp [part,h1,af,pack,hu,<- hv,List.take_drop]
 case h_5=>cases h
 all_goals
  rename_i hu;simp only [Bool.and_eq_true,beq_iff_eq] at h;obtain ⟨rfl,aa⟩:=h;obtain ⟨h1,af⟩:=Hj (w:=w) aa;obtain ⟨v,rfl⟩:∃ v,vs=[v]:=by
   rcases vs with _ | ⟨v,_ | _⟩ <;> simp at ak;exact ⟨v,rfl⟩
  have:cs[o]?=some v:=by
   have:=congrArg List.head? hv;simpa [List.head?_take] using this
  simp [part,h1,pack,hu,this]
theorem Km {P:Program}(w:World):∀ (d:Nat) (t:TypeId) (eQ:List n3),tJ P d t eQ=true->∀ (D:Nat),d<=D->∀ (az dc:List Value),az.map me=eQ.map some->dc.map me=eQ.map some ->
  (Op.equalIn D t (pack P t az) (pack P t dc)).run P w=.ok (lG az dc) w
 | 0,_,_,h,_,_,_,_,_,_=>by simp [tJ] at h
 | d+1,t,eQ,h,D,jK,az,dc,aP,av=>by
  obtain ⟨D,rfl⟩:∃ E,D=E+1:=⟨D - 1,by omega⟩;have aR:=h;unfold tJ at h
  split at h
  case h_5=>cases h
  case h_4 fs hu =>
   simp only [Bool.and_eq_true,Bool.not_eq_true'] at h;obtain ⟨⟨h1,af⟩,aI⟩:=h;have key:∀ (fs:List Field) (o:Nat) (eQ:List n3) (nx ny:List Value),Bi P (tJ P d) fs o eQ=true->az.drop o=nx->dc.drop o=ny->nx.map me=eQ.map some->ny.map me=eQ.map some ->
     (forIn (m:=Sem) (β:=Option Bool × Unit) fs (none,()) λf _ =>
      if f.name = "_" then pure (.yield (none, ()))
      else do
       let x <- part f.type az.toArray f.offset
       let y <- part f.type dc.toArray f.offset
       let c <- Op.equalIn D f.type x y
       if c=false then pure (.done (some false,())) else pure (.yield (none,()))).run P w=.ok (if lG nx ny then (none,()) else (some false,())) w:=by
    intro fs
    induction fs with
    | nil =>
     intro o eQ nx ny aO _ _ aP av;have aC:eQ=[]:=by simpa [Bi] using aO
     subst aC;have h1:nx=[]:=by simpa using aP
     have af:ny=[]:=by simpa using av
     subst h1 af;simp [lG]
    | cons f fs aU =>
     intro o eQ nx ny aO Nu Nv aP av;unfold Bi at aO;cases hi:P.info? f.type with
     | none=>simp [hi] at aO
     | some i =>
      simp only [hi,Bool.and_eq_true,bne_iff_ne,beq_iff_eq,decide_eq_true_eq] at aO;obtain ⟨⟨aF,rfl⟩,⟨hle,he⟩,Vg⟩:=aO;obtain ⟨e,rfl⟩:∃ e,d=e+1:=by
       cases d with
       | zero=>simp [tJ] at he
       | succ e=>exact ⟨e,rfl⟩
      have xE:nx.length=eQ.length:=by simpa using congrArg List.length aP
      have acM:ny.length=eQ.length:=by simpa using congrArg List.length av
      have YY:(nx.take i.size).map me=(eQ.take i.size).map some:=by rw [List.map_take,List.map_take,aP]
      have YZ:(ny.take i.size).map me=(eQ.take i.size).map some:=by rw [List.map_take,List.map_take,av]
      have S2:(nx.drop i.size).map me=(eQ.drop i.size).map some:=by rw [List.map_drop,List.map_drop,aP]
      have S3:(ny.drop i.size).map me=(eQ.drop i.size).map some:=by rw [List.map_drop,List.map_drop,av]
      have lt:(eQ.take i.size).length=i.size:=by simp; omega
      have lS:=PK (w:=w) he (cs:=az) (o:=f.offset) (vs:=nx.take i.size) (by rw [Nu,lt]) (by simp; omega);have Pk:=PK (w:=w) he (cs:=dc) (o:=f.offset) (vs:=ny.take i.size) (by rw [Nv,lt]) (by simp; omega);have Hr:=Km w (e+1) f.type _ he D (by omega) _ _ YY YZ;have aU:=aU (f.offset+i.size) (eQ.drop i.size) (nx.drop i.size) (ny.drop i.size) Vg (by rw [<- Nu,List.drop_drop]) (by rw [<- Nv,List.drop_drop]) S2 S3;have sp:lG nx ny=(lG (nx.take i.size) (ny.take i.size)&&lG (nx.drop i.size) (ny.drop i.size)):=by
       have:=Mx (nx.take i.size) (ny.take i.size) (nx.drop i.size) (ny.drop i.size) (by simp; omega)
       rwa [List.take_append_drop,List.take_append_drop] at this
      rw [List.forIn_cons];cases aa:lG (nx.take i.size) (ny.take i.size) with
      | false=>simp [aF,lS,Pk,Hr,aa,sp]
      | true =>
       simp only [aa] at Hr;simp [aF,lS,Pk,Hr,aa,sp];simpa using aU
   have hk:=key fs.toList 0 eQ az dc aI rfl rfl aP av;unfold Op.equalIn;simp [pack,hu,run_underlying hu,af];rw [<- Array.forIn_toList,hk];cases lG az dc <;> simp
  all_goals
   rename_i hu;simp only [Bool.and_eq_true,beq_iff_eq] at h;obtain ⟨rfl,aa⟩:=h;obtain ⟨a,rfl⟩:∃ v,az=[v]:=by
    rcases az with _ | ⟨v,_ | _⟩ <;> simp at aP;exact ⟨v,rfl⟩
   obtain ⟨b,rfl⟩:∃ v,dc=[v]:=by
    rcases dc with _ | ⟨v,_ | _⟩ <;> simp at av;exact ⟨v,rfl⟩
   cases a <;> simp [me] at aP <;> cases b <;> simp [me] at av;simp [Op.equalIn,pack,hu,run_underlying hu,lG,Mw,aP,av,RQ] <;> rfl
end Go.Own
namespace Go.Own
open Go
def tI (P:Program) (t:TypeId) (eQ:List n3):Bool :=
 tJ P 100 t eQ&&(match P.underlying t with | some (.struct _)=>true | _=>false)&&!P.eqGuardType P.depth t
section
variable {P:Program}{g:aM}{t t2:TypeId}{ty:TypeId}{a b:Operand}
theorem Yc {az dc:List Value}{eQ:List n3}(aP:az.map me=eQ.map some) (av:dc.map me=eQ.map some) (aw:tI P t eQ=true) (w:World) :
  (do eqGuard .eql t a b (.agg az.toArray) (.agg dc.toArray); binOp .eql t (.agg az.toArray) (.agg dc.toArray):Sem Value).run P w=.ok (.bool (lG az dc)) w:=by
 simp only [tI,Bool.and_eq_true,Bool.not_eq_true'] at aw;obtain ⟨⟨h1,af⟩,aI⟩:=aw;have h:=Km w 100 t eQ h1 Op.maxDepth (by decide) az dc aP av
 split at af
 ·rename_i fs hu;simp only [pack,hu] at h;simp [eqGuard,binOp,aI,Op.equal,h]
 ·cases af
theorem Ye {az dc:List Value}{eQ:List n3}(aP:az.map me=eQ.map some) (av:dc.map me=eQ.map some) (aw:tI P t eQ=true) (w:World) :
  (do eqGuard .neq t a b (.agg az.toArray) (.agg dc.toArray); binOp .neq t (.agg az.toArray) (.agg dc.toArray):Sem Value).run P w=.ok (.bool (!lG az dc)) w:=by
 simp only [tI,Bool.and_eq_true,Bool.not_eq_true'] at aw;obtain ⟨⟨h1,af⟩,aI⟩:=aw;have h:=Km w 100 t eQ h1 Op.maxDepth (by decide) az dc aP av
 split at af
 ·rename_i fs hu;simp only [pack,hu] at h;simp [eqGuard,binOp,aI,Op.equal,h]
 ·cases af
namespace O
theorem Bj {va vb:List Value}{eQ:List n3}(J:Rd g a (.agg (va.map .lit))) (ax:Rd g b (.agg (vb.map .lit))) (aP:va.map me=eQ.map some) (av:vb.map me=eQ.map some) (aw:tI P t eQ=true) :
  ch P g (.binOp .eql t a b t2) ty (a_ (lG va vb)):=.eU (.A8 J.bt ax.bt rfl λw=>Yc aP av aw w)
theorem Xd {va vb:List Value}{eQ:List n3}(J:Rd g a (.agg (va.map .lit))) (ax:Rd g b (.agg (vb.map .lit))) (aP:va.map me=eQ.map some) (av:vb.map me=eQ.map some) (aw:tI P t eQ=true) :
  ch P g (.binOp .neq t a b t2) ty (a_ (!lG va vb)):=.eU (.A8 J.bt ax.bt rfl λw=>Ye aP av aw w)
end O
end
end Go.Own
namespace Go.Own
open Go
section
variable {P:Program}{N:c6}{g g2:aM}{d r k0:Nat}{α:Type}
theorem View.nU {p:Place}{cs cs':List ab}(au:bD g p=some (.obj cs)) (hk:Nat.blt 0 cs.length=true) [h:dr cs cs']:View g (.ptr p 0) (.cI cs') :=
 .ptr au (z:=0) (n:=0) (.inr rfl) (by simpa using hk) (by simpa using h.l) λk x y J ax=>h.v g k x y (by simpa using J) ax
theorem di.el {en:bJ α}{L:List α}{j off:Nat}{i:Int}{y:α}(af:bD g2 ⟨r,[j]⟩=some (aj en L)) (hi:idx L i=some y) (a1:Nat.blt off en.z=true):di g2 (.ptr ⟨r,[j]⟩ (i.toNat * en.z+off)) :=
 (o'.mk (g:=g2) af hi af hi a1).bS
theorem jx {p:Place}{k:Nat}:∀ z q n m new,ab.ptr p k≠.bM z q n m new:=by simp
inductive yz (g:aM) (d r k0:Nat) (G4:List (Nat × ab)):List (Nat × ab)->Prop
 | nil:yz g d r k0 G4 []
 | c {α:Type}{en:bJ α}{L:List α}{s off:Nat}{i:Int}{y:α}{l:List (Nat × ab)}(h:g s=some (.ptr ⟨r,[k0]⟩ (i.toNat * en.z+off))) (au:bD (get G4) ⟨r,[k0]⟩=some (aj en L)) (hi:idx L i=some y) (a1:Nat.blt off en.z=true) (aS:Nat.beq s d=false) (bK:get G4 s=none) (t:yz g d r k0 G4 l):yz g d r k0 G4 ((s,.ptr ⟨r,[k0]⟩ (i.toNat * en.z+off))::l)
theorem yz.spec {G4 l:List (Nat × ab)}(h:yz g d r k0 G4 l):∀ t x,get l t=some x->get G4 t=none/\t≠d/\g t=some x/\∃ m z n cs,x=.ptr ⟨r,[k0]⟩ m/\bD (get G4) ⟨r,[k0]⟩=some (.own z n cs)/\m<cs.length:=by
 induction h with
 | nil=>intro t x J; cases J
 | @c α en L s off i y l h au hi a1 aS bK _ aU =>
  intro t x J;simp only [get] at J
  split at J
  ·rename_i e;subst e;cases J;exact ⟨bK,Nat.ne_of_beq_eq_false aS,h,_,_,_,_,rfl,au,Ht hi a1⟩
  grind
theorem kG.keep {g':aM}{x2:ab}{G2:List (Nat × ab)}(c_:kG g (get G2) r x2 G2) (h1:∀ t,t≠r->g' t=g t) (af:g' r=some x2):hC g' (get G2):=by
 refine ⟨λt x J=>?_,λt x J=>?_,λt z q n m new J=>?_⟩
 ·rcases c_.spec t x J with ⟨a,b,_⟩ | ⟨rfl,rfl,_⟩
  ·grind
  grind
 ·rcases c_.spec t x J with ⟨_,_,aI | ⟨aI,_⟩⟩ | ⟨_,_,aI⟩
  ·exact aI.bS
  ·exact aI.bS
  ·exact .bn aI
 ·rcases c_.spec t _ J with ⟨_,_,aI | ⟨aI,_⟩⟩ | ⟨_,_,aI⟩
  ·exact aI.fA _ _ _ _ _ rfl
  ·exact aI.fA _ _ _ _ _ rfl
  ·cases aI
theorem PV {cs:List ab}{y x:ab}(h:g r=some (.obj cs)) (hk:cs[k0]?=some x):cv g ⟨r,[k0]⟩ y r=some (.obj (cs.set k0 y)):=by
 grind [cv,ab.setAt,ab.kids,ab.v']
theorem bk.eS {o:Oper}{y:ab}{cs cs5:List ab}{G1 G4:Value->List (Nat × ab)}{c4:Value->List ab}{G5 A:List (Nat × ab)}(aS:o.dst=some d) (bc:N.ok d=true) (ao:g r=some (.obj cs)) (ax:cs[k0]?=some y) [xp:cg y]
  (h1:∀ v,kG g (get (G1 v)) r (.obj (cs.set k0 (.lit v))) (G1 v)) (aa:∀ v,hJ P N (get (G1 v)) o d (get (G4 v))) (abI:∀ v,get (G4 v) r=some (.obj (c4 v))) (abH:∀ v,(c4 v)[k0]?=some (.lit v)) (abJ:∀ v,(c4 v).set k0 y=cs5)
  (cH:∀ v,kG (get (G4 v)) (get G5) r (.obj cs5) G5) (TR:bD (get G5) ⟨r,[k0]⟩=some y) (et:yz g d r k0 G5 A):bk P N g o (get (A++G5)):=by
 refine .call aS bc (hJ.Tw ao ax xp.bn λv hv=>⟨get (G1 v),get (G4 v),get G5,?_,aa v,?_,?_,TR,?_⟩)
 ·exact (h1 v).keep (λt aw=>uG aw) (PV ao ax)
 ·grind [bD,ab.at,ab.kids]
 ·refine (cH v).keep (λt aw=>uG aw) ?_
  grind [PV]
 ·refine ⟨λt x h=>?_,λt x h=>?_⟩
  ·rw [Em];cases rY:get A t with
   | none=>exact h
   | some z =>
    obtain ⟨ln,_⟩:=et.spec t z rY
    grind
  ·rw [Em] at h;cases rY:get A t with
   | none=>rw [rY] at h; exact .inl h
   | some z =>
    rw [rY] at h;cases h;exact .inr (et.spec t x rY)
end
end Go.Own
namespace Go.Own
open Go
section
variable {P:Program}{N:c6}{ops:Array Oper}{g g1 mS:aM}{K:aM->Prop}{l:List Oper}{d r:Nat}{t:TypeId}{a b:Operand}{x y:ab}
variable {bd:List (List Nat)}{acc:Acc}{i:Nat}
theorem hW {a b:Nat}(h:Nat.blt a b=true):a<b:=by simpa using h
def Ff:Option Nat->Nat->Bool
 | none,_=>true
 | some a,d=>!Nat.beq a d
theorem OR {o:Option Nat}{d:Nat}(h:Ff o d=true):o≠some d:=by
 rintro rfl;simp [Ff] at h
inductive wv (P:Program) (N:c6) (ops:Array Oper) (bd:List (List Nat)) (rs:Place->Prop) (mS g1:aM) (o:Oper) (U:Acc):Acc->Prop
 | nil:wv P N ops bd rs mS g1 o U []
 | c {k d:Nat}{x:ab}{gj:Oper}{V:Acc}(b1:A5 rs mS g1 o x) (h1:g1 d=none) (dq:Ff o.dst d=true) (a1:ops[k]?=some gj) (EG:gj.dst=some d) (bc:N.ok d=true) (hw:iB (dh g1 (λm=>(bd.getD k []).contains m) U) ops gj true)
   (aC:ch P (dh g1 (λm=>(bd.getD k []).contains m) U) gj.op gj.type x) (t:wv P N ops bd rs mS g1 o U V):wv P N ops bd rs mS g1 o U ((k,d,some x)::V)
theorem wv.spec {o:Oper}{U V:Acc}{rs:Place->Prop}(h:wv P N ops bd rs mS g1 o U V):∀ e∈V,(∃ x,e.2.2=some x/\A5 rs mS g1 o x)/\(g1 e.2.1=none/\o.dst≠some e.2.1)/\∃ gj,ops[e.1]?=some gj/\gj.dst=some e.2.1/\N.ok e.2.1=true/\qb P (dh g1 (λm=>(bd.getD e.1 []).contains m) U) ops gj e.2.2:=by
 induction h with
 | nil=>intro e he; cases he
 | c b1 h1 dq a1 EG bc hw aC _ aU =>
  intro e he;rcases List.mem_cons.1 he with rfl | he
  ·exact ⟨⟨_,rfl,b1⟩,⟨h1,OR dq⟩,_,a1,EG,bc,.inl ⟨hw,.inl aC⟩⟩
  ·exact aU e he
theorem bz.ej (bG:Nat) {G G2:List (Nat × ab)}{U:Acc}{o:Oper}{rs:List Nat}(he:o_ P N (so rs) (dh (get G) (λm=>(bd.getD bG []).contains m) acc) o (get G2)) (l9:rs.all (λr=>(get G r).isSome)=true) (aO:o.guard=none) (gR:rn ((acc.filterMap j0).map Place.root)=true) (fH:mb G=true) (ah:Nat.beq ops.size (bG+l.length+1)=true)
  (ga:acc.filter (λe=>!(bd.getD bG []).contains e.1)=U) (og:wv P N ops bd (so rs) (dh (get G) (λm=>(bd.getD bG []).contains m) acc) (get G2) o U U)
  (av:(List.range ops.size).all (λk=>Nat.ble k bG||(bd.getD k []).contains bG)=true) (hk:bz P N ops bd (get G2) (bG+1) U l K):bz P N ops bd (get G) i acc (o::l) K:=by
 intro dV j cx kP k_;have:=zb k_ ah;subst this;obtain ⟨h1,af⟩:=drop_cons k_;have nI:∀ e∈U,e∈acc:=λe he=>by rw [<- ga] at he; exact (List.mem_filter.1 he).1
 have By:mL P N ops bd (get G2) (j+1) U:=⟨λe he=>by have:=(kP.le cx).2 e (nI e he); omega,λe he=>(og.spec e he).2.1.1,by rw [<- ga]; exact (List.filter_sublist.map _).nodup (kP.nodup cx),λe he cj h8 h=>kP.uniq cx (nI e he) (nI cj h8) h,λe he=>(og.spec e he).2.2⟩;obtain ⟨g',ao,dj⟩:=hk U (j+1) By .nil af;refine ⟨g',.wD kP (Fe gR) (vH fH) h1 ?_ he (λr ao e=>by have:=List.all_eq_true.1 l9 r.root ao; rw [e] at this; cases this) ga.symm (λe h=>(og.spec e h).1) (λe h=>(og.spec e h).2.1) (λe h=>(og.spec e h).2.2) ?_ ao,dj⟩
 ·unfold iB; rw [aO]
 ·refine List.all_eq_true.2 λk hk=>?_;have:=List.all_eq_true.1 av k hk;simp only [Bool.or_eq_true,decide_eq_true_eq,Nat.ble_eq] at this ⊢;exact this
theorem bz.LX (bG:Nat) {G G2:List (Nat × ab)}{U:Acc}{o:Oper}{ps:List Place}(he:o_ P N (λp=>p∈ps) (dh (get G) (λm=>(bd.getD bG []).contains m) acc) o (get G2)) (l9:ps.all (λr=>(get G r.root).isSome)=true) (aO:o.guard=none) (gR:rn ((acc.filterMap j0).map Place.root)=true) (fH:mb G=true) (ah:Nat.beq ops.size (bG+l.length+1)=true)
  (ga:acc.filter (λe=>!(bd.getD bG []).contains e.1)=U) (og:wv P N ops bd (λp=>p∈ps) (dh (get G) (λm=>(bd.getD bG []).contains m) acc) (get G2) o U U)
  (av:(List.range ops.size).all (λk=>Nat.ble k bG||(bd.getD k []).contains bG)=true) (hk:bz P N ops bd (get G2) (bG+1) U l K):bz P N ops bd (get G) i acc (o::l) K:=by
 intro dV j cx kP k_;have:=zb k_ ah;subst this;obtain ⟨h1,af⟩:=drop_cons k_;have nI:∀ e∈U,e∈acc:=λe he=>by rw [<- ga] at he; exact (List.mem_filter.1 he).1
 have By:mL P N ops bd (get G2) (j+1) U:=⟨λe he=>by have:=(kP.le cx).2 e (nI e he); omega,λe he=>(og.spec e he).2.1.1,by rw [<- ga]; exact (List.filter_sublist.map _).nodup (kP.nodup cx),λe he cj h8 h=>kP.uniq cx (nI e he) (nI cj h8) h,λe he=>(og.spec e he).2.2⟩;obtain ⟨g',ao,dj⟩:=hk U (j+1) By .nil af;refine ⟨g',.wD kP (Fe gR) (vH fH) h1 ?_ he (λr ao e=>by have:=List.all_eq_true.1 l9 r ao; rw [e] at this; cases this) ga.symm (λe h=>(og.spec e h).1) (λe h=>(og.spec e h).2.1) (λe h=>(og.spec e h).2.2) ?_ ao,dj⟩
 ·unfold iB; rw [aO]
 ·refine List.all_eq_true.2 λk hk=>?_;have:=List.all_eq_true.1 av k hk;simp only [Bool.or_eq_true,decide_eq_true_eq,Nat.ble_eq] at this ⊢;exact this
theorem o_.box {o:Oper}{r:Nat}{x:ab}{G1 G2:List (Nat × ab)}(he:bk P N (get G1) o (get G2)) (ao:g r=some x) [J:cg x] (hk:Trim false g (get G1) G1) (aR:get G1 r=none) (h1:get G2 r=none) (aS:Ff o.dst r=true):o_ P N (so [r]) g o (get ((r,x)::G2)):=by
 rw [<- sF];exact he.j'.frame ao J.bn hk.keep aR h1 (OR aS)
theorem bk.jh {o:Oper}{k0:Nat}{cs cs' cs2:List ab}{G2:List (Nat × ab)}(a1:o.op=.store t a b) (aS:o.dst=none) (aC:g r=some (.obj cs)) (aP:Rd g a (.ptr ⟨r,[]⟩ k0)) (av:Rd g b y) [aF:cg y] (aa:oL y=some cs') (aY:hl P t cs'.length=true)
  (hk:Nat.ble (k0+cs'.length) cs.length=true) (aR:Nat.blt 0 cs'.length=true) (he:e5 cs k0 cs'=cs2) [e9:dp cs] (ao:(get G2 r).isSome=true) (c_:k5 g (get G2) r cs2 G2):bk P N g o (get G2) :=
 .box a1 aS aC aP av aF.bn aa aY (Nat.le_of_ble_eq_true hk) (by simpa using aR) he (by intro e; rw [e] at ao; cases ao) c_
end
end Go.Own
namespace Go.Own
open Go
section
variable {α:Type}
theorem dr.app {xs ys xs' DF:List ab}(h:dr xs ys) (aQ:dr xs' DF):dr (xs++xs') (ys++DF):=⟨by simp [h.l,aQ.l],λg k a b aP av=>by
 by_cases hk:k<xs.length
 ·rw [List.getElem?_append_left hk] at aP;rw [List.getElem?_append_left (by rw [h.l]; exact hk)] at av;exact h.v g k a b aP av
 ·rw [List.getElem?_append_right (by omega)] at aP;rw [List.getElem?_append_right (by rw [h.l]; omega),h.l] at av;exact aQ.v g _ a b aP av⟩
instance {e cj:bJ α}{L:List α} [h:gU e cj]:dr (bo e L) (bo cj L):=⟨(Dx e cj L).1,(Dx e cj L).2⟩
theorem i'.Kh {en:bJ α}{L:List α}{n:Nat}{cs cs':List ab}(h:bo en L=cs') (ak:L.length=n) [hv:dr cs cs']:i' (.own en.z n cs) (ag en L):=⟨λg=>by
 subst h ak;exact .own hv.l (hv.v g)⟩
theorem i'.h' {en tH:bJ α}{L M:List α}{m:Nat}{new c5:List ab} [h:gU en tH] (aF:bo tH M=c5) (hm:M.length=m) [aQ:dr new c5]:i' (.own en.z (L.length+m) (bo en L++new)) (ag tH (L++M)):=⟨λg=>by
 subst aF hm;have hv:=dr.app (inferInstance:dr (bo en L) (bo tH L)) aQ;show View g (.own en.z (L.length+M.length) (bo en L++new)) (.bm tH.z (L++M).length (bo tH (L++M)));have e:bo tH (L++M)=bo tH L++bo tH M:=by simp [bo]
 rw [e,List.length_append,<- h.z];exact .own hv.l (hv.v g)⟩
end
end Go.Own
namespace Go.Own
open Go
section
variable {α:Type}{g g2:aM}{p q:Place}{P:Program}{a b:Operand}{t:TypeId}{ty:TypeId}
theorem di.a6 {en:bJ α}{L:List α}(h:bD g2 p=some (aj en L)):di g2 (.a6 en.z p L.length):=.ref rfl (.inl ⟨_,_,h,Nat.le_refl _⟩)
theorem iT {z n:Nat}:∀ bE q cF m new,ab.a6 z p n≠.bM bE q cF m new:=by simp
namespace O
theorem Rv {en:bJ α}{L M r:List α}{e gM m:Nat}{cs:List ab}(aC:Rd g a (.a6 en.z p L.length)) (au:bD g p=some (aj en L)) (J:Rd g b (.a6 en.z q m)) (bg:bD g q=some (.own en.z m cs)) (ak:cs.length=m * en.z) (aW:cs.all l3=true) (hm:M.length=m) (aw:jG P t e en.z gM=true) (av:Nat.ble gM 128=true) (h:da L M=some r)
  (e9:∀ t z n m new,g t≠some (.bM z p n m new)):ch P g (.call { callee:=.builtin .append,args:=#[a,b],argTypes:=#[t,t] }) ty (.bM en.z p L.length m cs):=by
 subst hm;obtain ⟨h1,af,_⟩:=yX h av;exact .lS (.grow aC.bt (.inl ⟨_,au⟩) (λt bE cF m' c5 e=>e9 _ _ _ _ _ e) J.bt (Qb bg ak aW) aw h1 af)
end O
end
end Go.Own
