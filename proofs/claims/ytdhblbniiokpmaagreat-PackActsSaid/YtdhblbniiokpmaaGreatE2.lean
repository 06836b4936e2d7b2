/-
  Parts of the proof that the last text states. No condition of their own.
-/
import Derived.RowKit3
import Derived.Test.YtdhblbniiokpmaaGreatE1
namespace Go.Own
open Go
structure hD (g1 g2:aM):Prop where
 sub:∀ t x,g2 t=some x->g1 t=some x
 bV:∀ t x,g2 t=some x->di g2 x
 fy:∀ t z q n m new,g2 t≠some (.bL z q n m new)
structure c6 where
 size:Nat
 pins:List Nat
def c6.ok (N:c6) (d:Nat):Bool:=Nat.blt d N.size&&!N.pins.elem d
def hC (N:c6) (T T':Array Value):Prop:=T'.size=T.size/\∀ t∈N.pins,T'[t]?=T[t]?
theorem hC.refl {N:c6}{T:Array Value}:hC N T T:=⟨rfl,λ_ _=>rfl⟩
theorem hC.trans {N:c6}{T Lj Lk:Array Value}(h:hC N T Lj) (h1:hC N Lj Lk):hC N T Lk:=⟨h1.1.trans h.1,λt aw=>(h1.2 t aw).trans (h.2 t aw)⟩
theorem c6.lt {N:c6}{d:Nat}(h:N.ok d=true):d<N.size:=by
 simp_all [c6.ok]
theorem hC.put {N:c6}{d:Nat}(h:N.ok d=true) (T:Array Value) (v:Value):hC N T (T.setIfInBounds d v):=by
 refine ⟨by simp,λt aw=>?_⟩
 grind [c6.ok]
def h6 (N:c6) (a:Act) (w:World) (I:bb) (Fs:Nat->bb) (g':aM) (b':Act) (w':World):Prop :=
 b'.defers=a.defers/\hC N a.tmps b'.tmps/\∃ I' b7,cF w' I' b'.tmps g' b7/\kn w I (λc=>∃ t,Fs t c) w' I' (λc=>∃ t,b7 t c)
theorem wa {b7:Nat->bb}{d:Nat}{F:bb}{c:Nat}(h:∃ t,uI b7 d F t c):(∃ t,b7 t c)\/F c:=by
 obtain ⟨t,h⟩:=h;unfold uI at h
 grind
structure yE (P:Program) (g:aM) (f:FuncId) (all xs0 xs1 args:List ab) (tk:Nat->Bool) (vw:Bool) (g1 g2:aM) (outs:List (Option ab)) (res:ab) (l:List (Place × ab)) (ks:Nat->Nat) (g4:aM):Prop where
 aW:gM P f=true
 Cn:xs0.length=all.length
 xF:args.length=all.length
 aR:∀ (k:Nat) (x:ab),all[k]?=some x->xs0[k]?=some x\/xs0[k]?=some .dead
 aw:Take g xs0 xs1 g1
 hk:hD g1 g2
 aP:∀ (k:Nat) (x y:ab),all[k]?=some x->args[k]?=some y->if tk k then xs1[k]?=some y else vw=true/\View g2 x y
 gP:bT P f args outs res
 ao:if vw then kE res else cU res
 lL:∀ (k:Nat) (x:ab),outs[k]?=some (some x)->if vw then kE x else cU x
 ak:∀ (j:Nat) (p:Place) (x:ab),l[j]?=some (p,x)->Q0 g g2 all outs (ks j) p x
 nd:(l.map (·.1)).Nodup
 inj:∀ i j,i<l.length->j<l.length->ks i=ks j->i=j
 WZ:hD (qH g2 l) g4
section
variable {P:Program}{w:World}{I:bb}{T:Array Value}{g:aM}{Fs:Nat->bb}
theorem jE.keep (h:jE w I T g Fs) {g2:aM}(hk:hD g g2):cF w I T g2 (λt c=>g2 t≠none/\Fs t c) :=
 h.Y6 hk.sub hk.bV λ_ _ _ _ _ _ _ _ _ _ _ h1=>absurd h1 (hk.fy _ _ _ _ _ _)
structure wj (g:aM) (d:Nat) (g4 g5:aM):Prop where
 sub:∀ t x,g4 t=some x->g5 t=some x
 new:∀ t x,g5 t=some x->g4 t=some x\/(g4 t=none/\t≠d/\g t=some x/\∃ r k cs,x=.ptr ⟨r,[]⟩ k/\r≠d/\g4 r=some (.obj cs)/\k<cs.length)
theorem wj.refl {d:Nat}{g4:aM}:wj g d g4 g4:=⟨λ_ _ h=>h,λ_ _ h=>.inl h⟩
theorem cF.back (h:cF w I T g Fs) {w':World}{I':bb}{d:Nat}{v:Value}{g4 g5:aM}{K7:Nat->bb}(bK:cF w' I' (T.setIfInBounds d v) g4 K7) (av:wj g d g4 g5):cF w' I' (T.setIfInBounds d v) g5 K7:=by
 refine ⟨λt x J=>?_,λt aw c aa=>?_,bK.eJ,bK.bj,bK.lt,λt t' z p n m new bE cE m' c3 h1 af=>?_⟩
 ·rcases av.new t x J with aQ | ⟨h1,af,aI,r,k,cs,rfl,cG,eh,mT⟩
  ·obtain ⟨u,hu,aZ⟩:=bK.rel t x aQ;exact ⟨u,hu,bK.wV (λ_ _=>rfl) (λ_ _ _=>rfl) (λ_ _=>rfl) (λ_ h=>h) av.sub aZ λ_ _=>rfl⟩
  ·obtain ⟨u,hu,aZ⟩:=h.rel t _ aI;obtain ⟨⟨Dr,ad,aE,a2,rfl⟩,_⟩:=(aZ.gI (by simp)).nP;have dL:∀ s,s≠d->(T.setIfInBounds d v)[s]?=T[s]?:=λs aC=>by rw [Array.getElem?_setIfInBounds_ne (Ne.symm aC)]
   refine ⟨_,by rw [dL t af]; exact hu,.tree (.ref rfl ⟨⟨Dr,ad,?_,a2,rfl⟩,?_⟩ (bK.kU t h1))⟩
   ·grind [dW,walk]
   ·exact ⟨.obj cs,by simp [bD,av.sub r _ eh,ab.at],0,0,cs,.inr rfl,mT⟩
 ·cases aQ:g4 t with
  | none=>exact bK.kU t aQ c aa
  | some y=>rw [av.sub t y aQ] at aw; cases aw
 ·have:∀ {t z p n m new},g5 t=some (.bL z p n m new)->g4 t=some (.bL z p n m new):=by
   intro t z p n m new J;rcases av.new t _ J with aQ | ⟨_,_,_,r,k,cs,e,_⟩
   all_goals grind
  exact bK.rq t t' z p n m new bE cE m' c3 (this h1) (this af)
def hJ (P:Program) (N:c6) (g:aM) (o:Oper) (d:Nat) (g5:aM):Prop :=
 ∀ (w:World) (I:bb) (T:Array Value) (Fs:Nat->bb),cF w I T g Fs->∀ (a:Act),a.tmps=T->a.tmps.size=N.size->∀ (K:Act->World->Prop) (Q:Exit->Act->World->Prop),
  (∀ (b':Act) (w':World) (v:Value) (I':bb) (b7:Nat->bb),b'.defers=a.defers->b'.tmps=T.setIfInBounds d v->cF w' I' (T.setIfInBounds d v) g5 b7->kn w I (λc=>∃ t,Fs t c) w' I' (λc=>∃ t,b7 t c)->K b' w')->o.wp P a w K Q
theorem hJ.sound {N:c6}{o:Oper}{d:Nat}{g5:aM}(aa:hJ P N g o d g5) (jN:N.ok d=true) (h:cF w I T g Fs) {a:Act}(aP:a.tmps=T) (bc:a.tmps.size=N.size) {K:Act->World->Prop}{Q:Exit->Act->World->Prop}
  (dj:∀ b' w',h6 N a w I Fs g5 b' w'->K b' w'):o.wp P a w K Q :=
 aa w I T Fs h a aP bc K Q λb' w' v I' b7 h1 af aI bK=>dj b' w' ⟨h1,by rw [af,<- aP]; exact hC.put jN _ _,I',b7,by rw [af]; exact aI,bK⟩
theorem yE.ok {N:c6}{o:Oper}{c:Operand}{xs:Array Operand}{gm:Array TypeId}{d:Nat}{f:FuncId}{first caps ys xs0 xs1 args:List ab}{tk:Nat->Bool}{vw:Bool}{g1 g2 g4 g5:aM}{outs:List (Option ab)}{res:ab}{l:List (Place × ab)}{ks:Nat->Nat}
  (a1:o.op=.call { callee:=.value c,args:=xs,argTypes:=gm }) (aS:o.dst=some d) (aa:bs g c=some (.cW (.func f) first caps)) (J:gk g xs.toList=some ys)
  (he:yE P g f (first++ys++caps) xs0 xs1 args tk vw g1 g2 outs res l ks g4) (aO:g4 d=none) (jN:N.ok d=true) (UZ:wj g d (cV g4 d res) g5):hJ P N g o d g5:=by
 intro w I T Fs h a aP bc K Q dj;obtain ⟨v1,v2,u',ak,qm⟩:=Hd h aP aa J;have hP:(execOp a.eval o).run P w=.ok (.enter f (v1++xs.map a.eval++v2)) w:=by
  simp [execOp,a1,resolve,Deferred.ofValue,u',invoke,Bc he.aW]
 generalize xi:(v1++xs.map a.eval++v2).toList=vs at *;generalize HZ:first++ys++caps=all at *
 -- what is taken
 have u4:Hand w I (fC w T) Fs xs0 vs (λ_=>cy):=by
  refine ⟨by rw [he.Cn,ak],λk x u J hu=>?_,λ_ _ _ _ _ h=>h.elim,λ_ _ _ _ h=>h.elim,λ_ _ _ h=>h.elim⟩;have hk:k<all.length:=by rw [<- he.Cn]; exact (List.getElem?_eq_some_iff.1 J).1
  have BB:=List.getElem?_eq_getElem hk;rcases he.aR k _ BB with aR | aR
  ·rw [aR] at J; cases J;exact (qm k _ u BB hu).frame (λ_ _=>rfl) (λ_ h=>h) (λ_ _ h=>h.1) λ_ _=>rfl
  ·rw [aR] at J; cases J;exact .dead λ_ h=>h
 obtain ⟨f_,H1,jc,iL,hN⟩:=he.aw.sound h.mE u4;have Nf:∀ c,lq f_ xs1.length H1 c->∃ t,Fs t c:=by
  intro c aa;rcases hN c aa with aQ | ⟨_,_,aQ⟩
  ·exact aQ
  ·exact aQ.elim
 have h8:=jc.keep he.hk;generalize T7:(λt c=>g2 t≠none/\f_ t c)=iY at h8;have MW:∀ t c,iY t c->f_ t c:=by intro t c aa; rw [<- T7] at aa; exact aa.2
 have Iz:xs1.length=all.length:=by rw [he.aw.length,he.Cn]
 -- what the callee sees
 let DL:bb:=λc=>I c\/(vw=true/\∃ t,iY t c)
 let yG:Nat->bb:=λt c=>t<all.length/\tk t=true/\H1 t c;have tG:∀ t c,yG t c->(∀ s,¬ iY s c)/\¬ I c/\∃ t,Fs t c:=by
  rintro t c ⟨h1,af,aI⟩;exact ⟨λs aC=>iL.off t s c (by omega) aI (MW s c aC),iL.bj t c (by omega) aI,Nf c (.inr ⟨t,by omega,aI⟩)⟩
 have NZ:∀ (ρ':ab->Value->Prop) (k:Nat) (y:ab) (u:Value),args[k]?=some y->vs[k]?=some u->R w DL ρ' y u (yG k):=by
  intro ρ' k y u ax hu;have hk:k<all.length:=by rw [<- he.xF]; exact (List.getElem?_eq_some_iff.1 ax).1
  have BB:=List.getElem?_eq_getElem hk;have:=he.aP k _ y BB ax
  split at this
  ·rename_i aw;have mY:cU y:=he.aw.Fj y (List.mem_of_getElem? this);exact (((iL.rel k y u this hu).bm mY).oo λc aa=>.inl aa).y_ λc=>⟨λaa=>⟨hk,aw,aa⟩,λaa=>aa.2.2⟩
  ·rename_i aw;obtain ⟨hv,V_⟩:=this;have gF:R w I (fC w T) all[k] u cy:=(qm k _ u BB hu).frame (λ_ _=>rfl) (λ_ h=>h) (λ_ _ h=>h.1) λ_ _=>rfl;have:=View.P9 h8.mE V_ gF (λ_ h=>h.elim) ρ';refine (this.oo (I':=DL) λc aa=>?_).y_ λc=>⟨λh=>h.elim,λaa=>absurd aa.2.1 aw⟩;rcases aa with aQ | aQ
   ·exact .inl aQ
   ·exact .inr ⟨hv,aQ⟩
 have Ut:cF w DL vs.toArray (qa args) yG:=by
  refine ⟨λt x J=>?_,λt aw c aa=>?_,λt t' c aa fo=>iL.eJ t t' c (by have:=aa.1; omega) (by have:=fo.1; omega) aa.2.2 fo.2.2,λt c aa hi=>?_,λc aa=>?_,λt t' z p n m new bE cE m' c3 h1 af=>?_⟩
  ·have aw:t<args.length:=(List.getElem?_eq_some_iff.1 J).1;have hu:vs[t]?=some (vs[t]'(by rw [<- ak,<- he.xF]; exact aw)):=List.getElem?_eq_getElem _;exact ⟨_,by rw [List.getElem?_toArray]; exact hu,.tree (NZ _ t x _ J hu)⟩
  ·have hle:args.length<=t:=by simpa [qa] using aw
   have:=aa.1; have:=he.xF; omega
  ·obtain ⟨h1,af,_⟩:=tG t c aa;rcases hi with aQ | ⟨_,s,aQ⟩
   ·exact af aQ
   ·exact h1 s aQ
  ·rcases aa with aQ | ⟨_,s,aQ⟩
   ·exact h.lt c aQ
   ·exact h8.j0 s c aQ
  ·have aw:t<args.length:=(List.getElem?_eq_some_iff.1 h1).1;have hu:vs[t]?=some (vs[t]'(by rw [<- ak,<- he.xF]; exact aw)):=List.getElem?_eq_getElem _;exact (NZ (λ_ _=>False) t _ _ h1 hu).lh.elim
 have py:=he.gP.2 w DL vs yG (by rw [<- ak,he.xF]) Ut;unfold Oper.wp Oper.upon;simp only [hP];rw [<- xi,Array.toArray_toList] at py;refine Calls.mono py ?_;rintro e w' ⟨v,I',b7,rfl,dX,b0⟩;rw [xi] at dX;have l6:outs.length=all.length:=by rw [he.gP.1,he.xF]
 have pz:vs.length=all.length:=ak.symm
 -- the blocks behind the call
 have PK:∀ t c,iY t c->w'.heap[c]?=w.heap[c]?:=λt c aa=>b0.eT.block c (h8.j0 t c aa) λ⟨s,aC⟩=>(tG s c aC).1 t aa;have sm:∀ c,I c->w'.heap[c]?=w.heap[c]?:=λc aa=>b0.eT.block c (h.lt c aa) λ⟨s,aC⟩=>(tG s c aC).2.1 aa
 let If:bb:=λc=>if vw then I c else I' c
 have JW:∀ t c,b7 t c->(∃ s,yG s c)\/w.heap.size<=c:=λt c aa=>b0.own c ⟨t,aa⟩;have O1:∀ t c,b7 t c->∀ s,¬ iY s c:=by
  intro t c aa s aC;rcases JW t c aa with ⟨cT,aQ⟩ | aQ
  ·exact (tG cT c aQ).1 s aC
  ·have:=h8.j0 s c aC; omega
 have O2:∀ t c,b7 t c->¬ If c:=by
  intro t c aa hi;cases vw with
  | true =>
   simp only [If,if_true] at hi;rcases JW t c aa with ⟨cT,aQ⟩ | aQ
   ·exact (tG cT c aQ).2.1 hi
   ·have:=h.lt c hi; omega
  | false =>
   simp only [If,Bool.false_eq_true,if_false] at hi;exact dX.bj t c aa hi
 have M5:∀ c,If c->I c\/(∃ s,yG s c)\/w.heap.size<=c:=by
  intro c aa;cases vw with
  | true=>simp only [If,if_true] at aa; exact .inl aa
  | false =>
   simp only [If,Bool.false_eq_true,if_false] at aa;rcases b0.new c aa with aQ | aQ | aQ
   ·rcases aQ with aQ | ⟨aQ,_⟩
    ·exact .inl aQ
    ·cases aQ
   ·exact .inr (.inl aQ)
   ·exact .inr (.inr aQ)
 have M4:∀ c,I c->If c:=by
  intro c aa;cases vw with
  | true=>simp only [If,if_true]; exact aa
  | false=>simp only [If,Bool.false_eq_true,if_false]; exact b0.more c (.inl aa)
 have Up:cF w' If T g2 iY:=by
  have:=h8.world (w':=w') PK sm b0.eT.size;refine ⟨λt x J=>?_,this.kU,this.eJ,λt c aa hi=>?_,λc aa=>?_,this.rq⟩
  ·obtain ⟨v,hv,aZ⟩:=this.rel t x J;exact ⟨v,hv,aZ.frame (λ_ _=>rfl) M4 (λ_ _ h=>h) (λ_ _ _ _ _ _ _=>rfl) λ_ _=>rfl⟩
  ·rcases M5 c hi with aQ | ⟨s,aQ⟩ | aQ
   ·exact h8.bj t c aa aQ
   ·exact (tG s c aQ).1 t aa
   ·have:=h8.j0 t c aa; omega
  ·cases vw with
   | true=>simp only [If,if_true] at aa; exact Nat.lt_of_lt_of_le (h.lt c aa) b0.eT.size
   | false=>simp only [If,Bool.false_eq_true,if_false] at aa; exact dX.lt c aa
 -- what comes back in the arguments, and the result
 have LM:∀ {x:ab}{u:Value}{F:bb}{ρ ρ':ab->Value->Prop},R w' I' ρ x u F->(if vw then kE x else cU x)->R w' If ρ' x u F:=by
  intro x u F ρ ρ' aZ J;cases vw with
  | true=>simp only [if_true] at J; exact aZ.lj J
  | false =>
   simp only [Bool.false_eq_true,if_false] at J;refine (aZ.bm J).oo λc aa=>?_;simpa [If] using aa
 have CB:∀ {x:ab},(if vw then kE x else cU x)->∀ z p n m new,x≠.bL z p n m new:=by
  rintro x J z p n m new rfl;cases vw with
  | true=>simp only [if_true] at J; cases J
  | false=>simp only [Bool.false_eq_true,if_false] at J; cases J
 have Xn:∀ (k:Nat) (x:ab) (u:Value),outs[k]?=some (some x)->vs[k]?=some u->R w' If (fC w' T) x u (b7 k):=by
  intro k x u J hu;have hk:k<outs.length:=(List.getElem?_eq_some_iff.1 J).1;obtain ⟨v',jO,aZ⟩:=dX.rel k x (by simp only [kV,if_neg (Nat.ne_of_lt hk),J]; rfl);have:v'=u:=by
   rw [List.getElem?_toArray,List.getElem?_append_left (by rw [pz,<- l6]; exact hk),hu] at jO;exact (Option.some.inj jO).symm
  subst this;exact LM (aZ.gI (CB (he.lL k x J))) (he.lL k x J)
 obtain ⟨KF,EL,mV⟩:=dX.rel outs.length res (by simp [kV]);have V6:KF=v:=by
  have e:outs.length=vs.length:=by omega
  rw [e] at EL;simpa using EL.symm
 subst V6
 -- back into the places
 obtain ⟨yH,HT,Eo⟩:=jE.qH (w:=w') (I:=If) (T:=T) l (λj=>b7 (ks j)) (λj=>vs.getD (ks j) undef) Up.mE he.nd (λj p x ah=>by
   have L:=he.ak j p x ah;have hk:ks j<outs.length:=(List.getElem?_eq_some_iff.1 L.out).1;have hu:vs[ks j]?=some (vs[ks j]'(by rw [pz,<- l6]; exact hk)):=List.getElem?_eq_getElem _;have ve:vs.getD (ks j) undef=vs[ks j]'(by rw [pz,<- l6]; exact hk):=by simp [List.getD,hu]
   refine ⟨L.LH,?_,?_⟩
   ·rw [ve,h8.yq (w':=w') (λ_ _=>rfl) PK L.LH];rcases L.arg with ⟨z,n,cs,h1,af⟩ | ⟨cs,h1,af⟩
    ·exact Rv h (qm _ _ _ h1 hu) af
    ·exact Ru h (qm _ _ _ h1 hu) af
   ·rw [ve]; exact Xn _ x _ L.out hu)
  (λj t c ah aa=>O1 _ c aa t) (λj c ah aa=>O2 _ c aa) (λi j c hi ah h1 af=>he.inj i j hi ah (dX.eJ _ _ c h1 af))
 have Uq:=HT.keep he.WZ;have Xj:∀ t c,b7 outs.length c->¬ (g4 t≠none/\yH t c):=by
  rintro t c aa ⟨_,bK⟩;rcases Eo t c bK with aQ | ⟨j,ah,aQ⟩
  ·exact O1 _ c aa t aQ
  ·have hk:ks j<outs.length:=by
    have w_:=List.getElem?_eq_getElem ah;exact (List.getElem?_eq_some_iff.1 (he.ak j _ _ w_).out).1
   have:=dX.eJ _ _ c aa aQ;omega
 have nK:=Uq.uz (d:=d) (x:=res) (v:=KF) (F:=b7 outs.length) aO (by rw [<- aP,bc]; exact c6.lt jN) (.tree (LM (mV.gI (CB he.ao)) he.ao)) Xj (λc aa=>O2 _ c aa) (λz p n m new e=>absurd e (CB he.ao z p n m new));refine dj _ _ KF If _ (by rw [aS]; rfl) (by rw [aS]; simp [Act.put,aP]) (h.back nK UZ) ⟨?_,M4,λc aa=>?_,λc aa=>?_⟩
 ·exact b0.eT.mono λb _ ⟨s,aC⟩=>(tG s b aC).2.2
 ·rcases M5 c aa with aQ | ⟨s,aQ⟩ | aQ
  ·exact .inl aQ
  ·exact .inr (.inl (tG s c aQ).2.2)
  ·exact .inr (.inr aQ)
 ·have fin:∀ t,b7 t c->(∃ s,Fs s c)\/w.heap.size<=c:=by
   intro t aw;rcases JW t c aw with ⟨s,aQ⟩ | aQ
   ·exact .inl (tG s c aQ).2.2
   ·exact .inr aQ
  rcases wa aa with ⟨t,_,aQ⟩ | aQ
  ·rcases Eo t c aQ with jb | ⟨j,_,jb⟩
   ·exact .inl (Nf c (.inl ⟨t,MW t c jb⟩))
   ·exact fin _ jb
  ·exact fin _ aQ
structure QG (g:aM) (d r k0:Nat) (g4 g5:aM):Prop where
 sub:∀ t x,g4 t=some x->g5 t=some x
 new:∀ t x,g5 t=some x->g4 t=some x\/(g4 t=none/\t≠d/\g t=some x/\∃ m z n cs,x=.ptr ⟨r,[k0]⟩ m/\bD g4 ⟨r,[k0]⟩=some (.own z n cs)/\m<cs.length)
theorem hD.bD {g1 g2:aM}(h:hD g1 g2) {p:Place}{y:ab}(au:bD g2 p=some y):bD g1 p=some y:=by
 unfold Own.bD at *;cases J:g2 p.root with
 | none=>rw [J] at au; cases au
 | some x=>rw [J] at au; rw [h.sub _ _ J]; exact au
theorem hJ.Tu {N:c6}{o:Oper}{r k0 d:Nat}{y:ab}{cs:List ab}{g5:aM}(ao:g r=some (.obj cs)) (ax:cs[k0]?=some y) (xq:cU y)
  (vj:∀ v:Value,v.oneCell'=true->∃ g1 g4 u2,hD (cv g ⟨r,[k0]⟩ (.lit v)) g1/\hJ P N g1 o d g4/\bD g4 ⟨r,[k0]⟩=some (.lit v)/\hD (cv g4 ⟨r,[k0]⟩ y) u2/\bD u2 ⟨r,[k0]⟩=some y/\QG g d r k0 u2 g5):hJ P N g o d g5:=by
 intro w I T Fs h a aP bc K Q dj;have la:∀ z q n m new,y≠.bL z q n m new:=by rintro z q n m new rfl; cases xq
 have gq:bD g ⟨r,[k0]⟩=some y:=by simp [bD,ao,ab.at,ab.kids,ax]
 obtain ⟨v,cB,hv,dI,dy,put⟩:=h.mE.part gq la;have uc:v.oneCell'=true:=by
  obtain ⟨u,hu,mU⟩:=h.rel r _ ao;obtain ⟨b,v',h1,af,aI,bK,_⟩:=R.node (z:=0) (n:=0) (mU.gI (by simp)) (.inr rfl) ax
  grind [dW,walk]
 obtain ⟨f_,jc,zh,Br⟩:=put (.lit v) cy (.lit uc λ_ h=>h) (λ_ h=>h.elim) (λ_ h=>h.elim) (λ_ _ _ h=>h.elim);obtain ⟨g1,g4,u2,hb,dd,H2,It,ab2,av⟩:=vj v uc;have uG:∀ t c,f_ t c->Fs t c/\¬ cB c:=by
  intro t c aa;by_cases aw:t=r
  ·grind
  ·rw [Br t aw] at aa;exact ⟨aa,λaW=>aw (h.eJ t r c aa (dy c aW))⟩
 have HS:=jc.keep hb;refine dd w I T _ HS a aP bc K Q λb' w' gx I' b7 Hm Bj dX b0=>?_;obtain ⟨v2,iX,B8,mv,T6,J'⟩:=dX.mE.part H2 (by simp);have IV:v2=v:=mv.hB.1;subst IV;have M0:∀ c,cB c->¬ I c:=λc aa=>h.bj r c (dy c aa);have Bt:∀ c,cB c->c<w.heap.size:=λc aa=>h.j0 r c (dy c aa);have CF:∀ c,cB c->¬ ∃ t,(g1 t≠none/\f_ t c):=λc aa ⟨t,_,aQ⟩=>(uG t c aQ).2 aa;have CE:∀ t c,b7 t c->¬ cB c:=by
  intro t c aa aW;rcases b0.own c ⟨t,aa⟩ with aQ | aQ
  ·grind
  grind
 have JU:∀ c,cB c->¬ I' c:=by
  intro c aa hi;rcases b0.new c hi with aQ | aQ | aQ
  all_goals grind
 have Kn:∀ c,cB c->w'.heap[c]?=w.heap[c]?:=λc aa=>b0.eT.block c (Bt c aa) (CF c aa);have sm:∀ c,I c->w'.heap[c]?=w.heap[c]?:=λc aa=>b0.eT.block c (h.lt c aa) λ⟨t,_,aQ⟩=>h.bj t c (uG t c aQ).1 aa;have Bz:R w' I' (fC w' (T.setIfInBounds d gx)) y v2 cB :=
  ((dI.bm xq).frame sm b0.more (λ_ _ h=>h) Kn)
 obtain ⟨K8,HU,MX,HK⟩:=J' y cB Bz (λc aa aW=>(CE _ c aW aa).elim) (λc aa=>JU c aa) (λt c _ aa aW=>CE t c aW aa);have tJ:=HU.keep It;have V8:dW w' (T.setIfInBounds d gx) ⟨r,[k0]⟩=some v2:=B8;have Ur:cF w' I' (T.setIfInBounds d gx) g5 (λt c=>u2 t≠none/\K8 t c):=by
  refine ⟨λt x J=>?_,λt aw c aa=>?_,tJ.eJ,tJ.bj,tJ.lt,λt t' z p n m new bE cE m' c3 h1 af=>?_⟩
  ·rcases av.new t x J with aQ | ⟨h1,af,aI,m,z,n,cs2,rfl,cG,eh⟩
   ·obtain ⟨u,hu,aZ⟩:=tJ.rel t x aQ;exact ⟨u,hu,tJ.wV (λ_ _=>rfl) (λ_ _ _=>rfl) (λ_ _=>rfl) (λ_ h=>h) av.sub aZ λ_ _=>rfl⟩
   ·obtain ⟨u,hu,aZ⟩:=h.rel t _ aI;obtain ⟨⟨Dr,ad,aE,a2,rfl⟩,_⟩:=(aZ.gI (by simp)).nP;rw [hv] at aE;cases aE;refine ⟨_,by rw [Array.getElem?_setIfInBounds_ne (Ne.symm af)]; exact hu,.tree (.ref rfl ⟨⟨v2,ad,V8,a2,rfl⟩,?_⟩ (tJ.kU t h1))⟩;refine ⟨.own z n cs2,?_,z,n,cs2,.inl rfl,eh⟩;unfold Own.bD at cG ⊢;cases gf:u2 r with
    | none=>simp only [gf] at cG; cases cG
    | some x'=>simp only [gf] at cG; simp only [av.sub r x' gf]; exact cG
  ·cases aQ:u2 t with
   | none=>exact aa.1 aQ
   | some y=>rw [av.sub t y aQ] at aw; cases aw
  ·have:∀ {t z p n m new},g5 t=some (.bL z p n m new)->u2 t=some (.bL z p n m new):=by
    intro t z p n m new J;rcases av.new t _ J with aQ | ⟨_,_,_,m,z,n,cs2,e,_⟩
    all_goals grind
   exact tJ.rq t t' z p n m new bE cE m' c3 (this h1) (this af)
 refine dj b' w' gx I' _ Hm Bj Ur ⟨?_,b0.more,λc aa=>?_,λc aa=>?_⟩
 ·exact b0.eT.mono λb _ ⟨t,_,aQ⟩=>⟨t,(uG t b aQ).1⟩
 ·rcases b0.new c aa with aQ | ⟨t,_,aQ⟩ | aQ
  all_goals grind
 ·obtain ⟨t,_,aa⟩:=aa;have:(∃ t,b7 t c)\/cB c:=by
   by_cases aw:t=r
   ·grind
   ·rw [HK t aw] at aa
    grind
  rcases this with aQ | aQ
  ·rcases b0.own c aQ with ⟨t,_,jb⟩ | jb
   ·grind
   grind
  grind
end
end Go.Own
namespace Go.Own
open Go
def oH:ab->Option (List ab)
 | .agg cs=>some cs
 | .lit v=>some [.lit v]
 | .aJ=>some [.aJ]
 | .bj z n cs=>some [.bj z n cs]
 | .own z n cs=>some [.own z n cs]
 | .obj cs=>some [.obj cs]
 | .cH cs=>some [.cH cs]
 | .cW f a b=>some [.cW f a b]
 | _=>none
def hl (P:Program) (t:TypeId) (m:Nat):Bool :=
 match P.info? t with
 | some i=>i.size == m
 | none=>false
def iy (P:Program) (N:c6) (g:aM) (o:Oper) (g':aM):Prop :=
 ∀ (w:World) (I:bb) (T:Array Value) (Fs:Nat->bb),cF w I T g Fs->∀ (a:Act),a.tmps=T->a.tmps.size=N.size->∀ (K:Act->World->Prop) (Q:Exit->Act->World->Prop),
  (∀ (b':Act) (w':World),h6 N a w I Fs g' b' w'->(∀ t,o.dst≠some t->b'.tmps[t]?=a.tmps[t]?)->K b' w')->o.wp P a w K Q
inductive bl (P:Program) (N:c6) (g:aM):Oper->aM->Prop
 | assign {o:Oper}{d:Nat}{x:Operand}{y bx y':ab}{g1 g2:aM}(a1:o.op=.assign x) (aS:o.dst=some d) (J:bs g x=some y) (aw:Take g [y] [bx] g1) (aY:h4 bx y') (hk:hD g1 g2) (aO:g2 d=none) (bc:N.ok d=true):bl P N g o (cV g2 d y')
 | RB {o:Oper}{d:Nat}{x:Operand}{y:ab}{g2:aM}(a1:o.op=.assign x) (aS:o.dst=some d) (J:bs g x=some y) (hk:hD g g2) (ax:di g2 y) (aO:g2 d=none) (bc:N.ok d=true):bl P N g o (cV g2 d y)
 | store {o:Oper}{t:TypeId}{ad val:Operand}{p:Place}{k z n:Nat}{y bx y' nd:ab}{cs cs':List ab}{g1 g2:aM}(a1:o.op=.store t ad val) (aS:o.dst=none) (fQ:bs g ad=some (.ptr p k)) (og:bs g val=some y) (aw:Take g [y] [bx] g1) (rb:h4 bx y')
   (aa:oH y'=some cs') (aC:hl P t cs'.length=true) (au:bD g1 p=some nd) (fp:nd=.own z n cs\/nd=.obj cs) (hk:k+cs'.length<=cs.length) (aR:0<cs'.length)
   (zp:∀ t x,g2 t=some x->cv g1 p (nd.e5 k cs') t=some x) (r9:∀ t x,g2 t=some x->∀ y,g1 t=some y->jm (λr=>gD g1 r/\Clear p k cs'.length r/\gD g2 r) y) (la:∀ t z q n m new,g2 t≠some (.bL z q n m new)) (kd:g2 p.root≠none):bl P N g o g2
 | call {o:Oper}{d:Nat}{g5:aM}(aS:o.dst=some d) (bc:N.ok d=true) (h:hJ P N g o d g5):bl P N g o g5
 | Ku {o:Oper}{g2:aM}(h:iy P N g o g2):bl P N g o g2
section
variable {P:Program}{w:World}{I:bb}{T:Array Value}{g:aM}{Fs:Nat->bb}
theorem Hand.one {y:ab}{v:Value}(aZ:R w I (dT w T g) y v cy):Hand w I (fC w T) Fs [y] [v] (λ_=>cy) :=
 ⟨rfl,λk x u J hu=>by
  cases k with
  | zero=>simp at J hu; subst J hu; exact aZ.frame (λ_ _=>rfl) (λ_ h=>h) (λ_ _ h=>h.1) λ_ _=>rfl
  | succ k=>simp at J,λ_ _ _ _ _ h=>h.elim,λ_ _ _ _ h=>h.elim,λ_ _ _ h=>h.elim⟩
theorem Hand.Kd {ρ:ab->Value->Prop}{y:ab}{v:Value}{dD:Nat->bb}(h:Hand w I ρ Fs [y] [v] dD):R w I ρ y v (dD 0):=h.rel 0 y v rfl rfl
theorem Hand.cells {y:ab}{v:Value}{dD:Nat->bb}(h:Hand w I (fC w T) Fs [y] [v] dD) (aF:cU y) {cs:List ab}(aa:oH y=some cs) :
  ∃ yJ,Hand w I (fC w T) Fs cs v.cells.toList yJ/\(∀ x∈cs,cU x)/\(∀ (j:Nat) (u:Value),v.cells.toList[j]?=some u->u.oneCell'=true)/\∀ j c,j<cs.length->yJ j c->dD 0 c:=by
 have aZ:=h.Kd;have single:∀ {x:ab},y=x->v.oneCell'=true->∃ yJ,Hand w I (fC w T) Fs [x] v.cells.toList yJ/\(∀ z∈[x],cU z)/\(∀ (j:Nat) (u:Value),v.cells.toList[j]?=some u->u.oneCell'=true)/\∀ j c,j<[x].length->yJ j c->dD 0 c:=by
  rintro x rfl h1;have Eu:v.cells=#[v]:=by cases v <;> first | rfl | (simp [Value.oneCell'] at h1)
  grind
 cases y <;> simp only [oH,Option.some.injEq,reduceCtorEq] at aa
 case agg l =>
  subst aa;cases aZ with
  | ref J=>simp [ab.isRef] at J
  | @agg _ vs bM _ ak h1 ao aS aN =>
   have fW:∀ k c,k<l.length->bM k c->dD 0 c:=λk c hk aa=>(aN c).2 ⟨k,hk,aa⟩;refine ⟨bM,⟨by simp [Value.cells,ak],λk x u J hu=>ao k x u J (by simpa [Value.cells] using hu),aS,λk t c hk aa=>h.off 0 t c (by simp) (fW k c hk aa),λk c hk aa=>h.bj 0 c (by simp) (fW k c hk aa)⟩,?_,λj u hu=>h1 j u (by simpa [Value.cells] using hu),fW⟩;cases aF with | agg h=>exact h
 case lit a=>subst aa; exact single rfl (by obtain ⟨rfl,h1⟩:=aZ.hB; exact h1)
 case aJ=>subst aa; exact single rfl (by rw [aZ.se]; rfl)
 case bj z n l=>subst aa; exact single rfl (by obtain ⟨a,cap,rfl,_⟩:=aZ.zG; rfl)
 case own z n l=>subst aa; exact single rfl (by obtain ⟨a,cap,rfl,_⟩:=aZ.nk; rfl)
 case cH l=>subst aa; exact single rfl (by obtain ⟨ad,us,rfl,_⟩:=aZ.xv; rfl)
 case obj l =>
  subst aa;refine single rfl ?_;cases aZ with
  | ref J=>simp [ab.isRef] at J
  | obj=>rfl
 case cW f a b =>
  subst aa;refine single rfl ?_;cases aZ with
  | ref J=>simp [ab.isRef] at J
  | cW=>rfl
theorem jD.oo {I':bb}{ρ:ab->Value->Prop}{x:ab}{v:Value}{F:bb}(h:jD w I ρ x v F) (bf:∀ c,I c->I' c):jD w I' ρ x v F:=by
 cases h with
 | tree h=>exact .tree (h.oo bf)
 | bL h=>exact .bL ⟨h.jW,h.lb,h.nJ,h.ak,h.h1,λk x u J hu=>(h.ao k x u J hu).oo bf,h.aN⟩
theorem MM {g1:aM}{f_:Nat->bb}{H1:Nat->bb}{bx y':ab}{v:Value}(bk:jE w I T g1 f_) (hH:Hand w I (fC w T) f_ [bx] [v] H1) (aF:cU bx) (aY:h4 bx y') :
  ∃ (I':bb) (tf:bb),(∀ c,I c->I' c)/\(∀ c,I' c->I c\/H1 0 c)/\jE w I' T g1 f_/\Hand w I' (fC w T) f_ [y'] [v] (λ_=>tf)/\∀ c,tf c->H1 0 c:=by
 have aZ:=hH.Kd;obtain ⟨tf,gH,jL⟩:=R.dN aY aZ aF (λc aa=>hH.bj 0 c (by simp) aa) bk.lt;refine ⟨λc=>I c\/(H1 0 c/\¬ tf c),tf,λc aa=>.inl aa,λc aa=>aa.elim .inl λh=>.inr h.1,⟨λt x J=>?_,bk.kU,bk.eJ,λt c aa hi=>?_,λc aa=>?_⟩,⟨rfl,λk x u J hu=>?_,λj k c ah hk _ _=>by simp at ah hk; omega,λk t c hk aa aW=>hH.off 0 t c (by simp) (gH c aa) aW,λk c hk aa hi=>?_⟩,gH⟩
 ·obtain ⟨u,hu,mU⟩:=bk.rel t x J;exact ⟨u,hu,mU.oo λc aa=>.inl aa⟩
 ·rcases hi with h | ⟨h,_⟩
  ·exact bk.bj t c aa h
  ·exact hH.off 0 t c (by simp) h aa
 ·rcases aa with h | ⟨h,_⟩
  ·exact bk.lt c h
  ·exact aZ.lt c h
 ·grind
 ·rcases hi with h | ⟨_,h⟩
  ·exact hH.bj 0 c (by simp) (gH c aa) h
  grind
theorem bl.j_ {N:c6}{o:Oper}{g':aM}(he:bl P N g o g'):iy P N g o g':=by
 intro w I T Fs h a aP bc K Q dj;cases he with
 | Ku he=>exact he w I T Fs h a aP bc K Q dj
 | @call d _ aS jN aa =>
  refine aa w I T Fs h a aP bc K Q λb' w' v I' b7 h1 af aI bK=>dj b' w' ⟨h1,by rw [af,<- aP]; exact hC.put jN _ _,I',b7,by rw [af]; exact aI,bK⟩ λt aw=>?_
  grind
 | @assign d x y bx y' g1 g2 a1 aS J aw aY hk aO jN =>
  have aZ:=ke h J aP;obtain ⟨f_,H1,sE,u4,hN⟩:=aw.sound h.mE (Hand.one aZ);have BR:cU bx:=aw.Fj bx (by simp);obtain ⟨I',tf,pt,HN,jc,iL,gH⟩:=MM sE u4 BR aY;have mY:cU y':=aY.bm BR;have h8:=jc.keep hk;have nK:=h8.uz (d:=d) (x:=y') (v:=a.eval x) (F:=tf) aO (by rw [<- aP,bc]; exact c6.lt jN) (.tree (iL.Kd.bm mY)) (λt c aa aW=>iL.off 0 t c (by simp) aa aW.2) (λc aa=>iL.bj 0 c (by simp) aa) (by rintro z p n m new rfl; cases mY);have hP:(execOp a.eval o).run P w=.ok (.value (a.eval x)) w:=by simp [execOp,a1]
  unfold Oper.wp Oper.upon;simp only [hP];have ga:∀ c,H1 0 c->∃ t,Fs t c:=λc aa=>by
   rcases hN c (.inr ⟨0,by simp,aa⟩) with jb | ⟨_,_,jb⟩
   all_goals grind
  refine dj _ _ ⟨by rw [aS]; rfl,by rw [aS]; exact hC.put jN _ _,I',_,by rw [aS]; simpa [Act.put,aP] using nK,⟨Fr.refl _ _,pt,λc aa=>(HN c aa).elim .inl λh=>.inr (.inl (ga c h)),λc aa=>?_⟩⟩ λt aw=>by rw [aS]; simp only [Act.put]; rw [Array.getElem?_setIfInBounds_ne]; rintro rfl; exact aw aS
  rcases wa aa with ⟨t,_,aQ⟩ | aQ
  ·rcases hN c (.inl ⟨t,aQ⟩) with jb | ⟨_,_,jb⟩
   ·grind
   grind
  grind
 | @RB d x y g2 a1 aS J hk ax aO jN =>
  have aZ:=ke h J aP;have h8:=h.mE.keep hk;have jL:R w I (dT w T g2) y (a.eval x) cy:=(aZ.frame (ρ':=fC w T) (λ_ _=>rfl) (λ_ h=>h) (λ_ _ h=>h.1) λ_ _=>rfl).bV ax;have nK:=h8.uz (d:=d) (x:=y) (v:=a.eval x) (F:=cy) aO (by rw [<- aP,bc]; exact c6.lt jN) (.tree jL) (λ_ _ h=>h.elim) (λ_ h=>h.elim) (by rintro z p n m new rfl; exact jL.lh.elim);have hP:(execOp a.eval o).run P w=.ok (.value (a.eval x)) w:=by simp [execOp,a1]
  unfold Oper.wp Oper.upon;simp only [hP];refine dj _ _ ⟨by rw [aS]; rfl,by rw [aS]; exact hC.put jN _ _,I,_,by rw [aS]; simpa [Act.put,aP] using nK,⟨Fr.refl _ _,λ_ h=>h,λ_ h=>.inl h,λc aa=>?_⟩⟩ λt aw=>by rw [aS]; simp only [Act.put]; rw [Array.getElem?_setIfInBounds_ne]; rintro rfl; exact aw aS
  rcases wa aa with ⟨t,_,aQ⟩ | aQ
  ·grind
  grind
 | @store t ad val p k z n y bx y' nd cs cs' g1 _ a1 aS fQ og aw rb aa aC au fp hk aR zp r9 la kd =>
  have mV:=ke h og aP;obtain ⟨⟨u,ZD,hu,HY,tT⟩,_⟩:=(ke h fQ aP).nP;obtain ⟨f_,H0,sE,u4,HZ⟩:=aw.sound h.mE (Hand.one mV);have BR:cU bx:=aw.Fj bx (by simp);obtain ⟨I',tf,pt,HN,jc,iL,V1⟩:=MM sE u4 BR rb;have mY:cU y':=rb.bm BR;have ga:∀ c,H0 0 c->∃ t,Fs t c:=λc aa=>by
   rcases HZ c (.inr ⟨0,by simp,aa⟩) with jb | ⟨_,_,jb⟩
   all_goals grind
  have hN:∀ c,lq f_ 1 (λ_=>tf) c->lq Fs [y].length (λ_=>cy) c:=by
   rintro c (⟨t,aa⟩ | ⟨_,_,aa⟩)
   ·exact HZ c (.inl ⟨t,aa⟩)
   ·exact .inl (ga c (V1 c aa))
  obtain ⟨yJ,M3,Ie,hp,abX⟩:=iL.cells mY aa;have lh:∀ z q n m new,nd≠.bL z q n m new:=by rcases fp with rfl | rfl <;> simp
  obtain ⟨v,cB,hv,dI,dy,_⟩:=jc.part au lh;rw [hu] at hv;cases hv;obtain ⟨b,gZ,av,_⟩:=dI.node fp (List.getElem?_eq_getElem (show k<cs.length by omega));rw [HY] at av;cases av;have ka:∃ e arr,w.heap[b]?=some (.cells arr e (0,0))/\cs.length<=arr.size:=by
   rcases fp with rfl | rfl
   ·cases dI with
    | ref J=>simp [ab.isRef] at J
    | own qp ak =>
     obtain ⟨l9,bY⟩:=qp
     grind [addrOf]
   ·cases dI with
    | ref J=>simp [ab.isRef] at J
    | obj qp ak =>
     grind [addrOf]
  obtain ⟨e,arr,ka,hle⟩:=ka;obtain ⟨iY,h8,gH⟩:=jc.store au fp hk M3 Ie hp zp r9 la kd hu HY ka;have ha:(a.eval val).cells.toList.length=cs'.length:=M3.len.symm;have b0:=run_storeCells_at P b k e (a.eval val).cells.toList 0 arr w ka (by omega) (λu hu=>by
   obtain ⟨j,ah,rfl⟩:=List.mem_iff_getElem.1 hu;exact hp j _ (List.getElem?_eq_getElem ah))
  simp only [Nat.add_zero] at b0;have fY:(sizeOf t).run P w=.ok cs'.length w:=by
   unfold hl at aC;cases hi:P.info? t with
   | none=>simp [hi] at aC
   | some i=>simp [hi] at aC; simp [sizeOf,typeInfo,hi,aC]
  have hP:(execOp a.eval o).run P w=.ok .skip (w.setRow b (e5 arr.toList k (a.eval val).cells.toList).toArray):=by
   simp_all [execOp,Instr.storeAt,Instr.sureAddr,storeVar,e5]
  unfold Oper.wp Oper.upon;simp only [hP];have tR:∃ t,Fs t b:=by
   rcases hN b (.inl ⟨_,dy b (dI.Fh fp (ad:=⟨b,0,none⟩) HY)⟩) with aQ | ⟨_,_,aQ⟩
   all_goals grind
  refine dj _ _ ⟨by rw [aS]; rfl,by rw [aS]; exact hC.refl,I',iY,by rw [aS]; simpa [Act.put,aP] using h8,⟨⟨rfl,rfl,rfl,by simp,λc _ aa=>setRow_other w b c _ (λe=>aa (e ▸ tR)),λa _=>Hy w b _ a,Nat.le_refl _⟩,pt,λc aa=>(HN c aa).elim .inl λh=>.inr (.inl (ga c h)),λc ⟨t,aa⟩=>?_⟩⟩ λt _=>by rw [aS]; rfl
  rcases gH t c aa with aQ | ⟨j,ah,aQ⟩
  ·rcases hN c (.inl ⟨t,aQ⟩) with jb | ⟨_,_,jb⟩
   ·grind
   grind
  grind
theorem bl.sound (h:cF w I T g Fs) {a:Act}(aP:a.tmps=T) {N:c6}(bc:a.tmps.size=N.size) {o:Oper}{g':aM}(he:bl P N g o g') {K:Act->World->Prop}{Q:Exit->Act->World->Prop}
  (dj:∀ b' w',h6 N a w I Fs g' b' w'->K b' w'):o.wp P a w K Q:=he.j_ w I T Fs h a aP bc K Q λb' w' h _=>dj b' w' h
end
end Go.Own
namespace Go.Own
open Go
def oy (g g':aM):Prop:=∀ t x,g t=some x->g' t=some x
section
variable {P:Program}{g g':aM}
theorem e4 (h:oy g g') {x:Operand}{y:ab}(ax:bs g x=some y):bs g' x=some y:=by
 cases x <;> simp only [bs] at ax ⊢
 case tmp t =>
  cases J:g t with
  | none=>rw [J] at ax; cases ax
  | some z=>rw [J] at ax; rw [h t z J]; exact ax
 case const v=>exact ax
 case global n=>exact ax
 case func f=>exact ax
theorem zS (h:oy g g'):∀ {xs:List Operand}{ys:List ab},gk g xs=some ys->gk g' xs=some ys
 | [],_,ax=>ax
 | x::xs,ys,ax=>by
  simp only [gk] at ax ⊢;cases J:bs g x with
  | none=>simp [J] at ax
  | some y =>
   cases sc:gk g xs with
   | none=>simp [J,sc] at ax
   | some DC=>simp only [J,sc] at ax; simp only [e4 h J,zS h sc]; exact ax
theorem Pe (h:oy g g'):∀ {l:List (Nat × Operand)}{ps:List (Nat × List ab)},rm g l=some ps->rm g' l=some ps
 | [],_,ax=>ax
 | (i,x)::l,ps,ax=>by
  simp only [rm] at ax ⊢;cases J:bs g x with
  | none=>simp [J] at ax
  | some y =>
   cases sc:rm g l with
   | none=>simp [J,sc] at ax
   | some DC=>simp only [J,sc] at ax; simp only [e4 h J,Pe h sc]; exact ax
theorem p3.mono (h:oy g g') {d:Nat}{x:Option Operand}{j:Nat}(av:p3 g d x j):p3 g' d x j:=by
 cases x with
 | none=>exact av
 | some o=>obtain ⟨k,hk⟩:=av; exact ⟨k,e4 h hk⟩
theorem c7.mono (h:oy g g') {op:Op}{ty:TypeId}{x:ab}(au:c7 P g op ty x):c7 P g' op ty x:=by
 cases au with
 | move J=>exact .move (e4 h J)
 | assign J=>exact .assign (e4 h J)
 | pick aa ao=>exact .pick (e4 h aa) (e4 h ao)
 | Fg J=>exact .Fg (e4 h J)
 | qD J=>exact .qD (e4 h J)
 | Bn J aW dd=>exact .Bn (e4 h J) aW (dd.mono h)
 | Eh J aW=>exact .Eh (e4 h J) aW
 | Eg J aW aw ax=>exact .Eg (e4 h J) aW aw ax
 | Ht J aW aw hk=>exact .Ht (e4 h J) aW aw hk
 | EV J hi aw ah=>exact .EV (e4 h J) (e4 h hi) aw ah
 | EU J hi aw ah dd=>exact .EU (e4 h J) (e4 h hi) aw ah (dd.mono h)
 | Ji J hi aw ah dd=>exact .Ji (e4 h J) (e4 h hi) aw ah (dd.mono h)
 | ET J hi aw ah dd=>exact .ET (e4 h J) (e4 h hi) aw ah (dd.mono h)
 | Jh J hi aw ah=>exact .Jh (e4 h J) (e4 h hi) aw ah
 | E9 J aw=>exact .E9 (e4 h J) aw
 | E_ J aw hk=>exact .E_ (e4 h J) aw hk
 | Ct J aw ax=>exact .Ct (e4 h J) aw (kG h ax)
 | xH J aw ax aa hm=>exact .xH (e4 h J) aw (kG h ax) aa hm
 | EW J hi aw av=>exact .EW (e4 h J) (e4 h hi) aw av
 | bin J ax hv ao=>exact .bin (e4 h J) (e4 h ax) hv ao
 | A8 J ax hv ao=>exact .A8 (e4 h J) (e4 h ax) hv ao
 | un J hv ao=>exact .un (e4 h J) hv ao
 | conv J hv ao=>exact .conv (e4 h J) hv ao
 | D_ J au aF hF aw=>exact .D_ (e4 h J) (kG h au) aF hF aw
 | D' J aw=>exact .D' (e4 h J) aw
 | @Hq xs gm _ f vs v J hv ao =>
  refine .Hq (vs:=vs) ?_ hv ao;apply List.ext_getElem?;intro k;have:=congrArg (·[k]?) J;simp only [List.getElem?_map] at this ⊢;rw [<- this];cases hk:xs.toList[k]? with
  | none=>rfl
  | some o =>
   rw [hk] at this;cases hv:vs[k]? with
   | none=>rw [hv] at this; cases this
   | some v =>
    rw [hv] at this;simp only [Option.map_some,Option.some.injEq] at this ⊢;rw [this,e4 h this]
 | Ed J ax=>exact .Ed (e4 h J) ax
 | AA J ak bY aw h1 af=>exact .AA (e4 h J) (ak.mono h) (bY.mono h) aw h1 af
 | Kx J ak bY aw aF dd=>exact .Kx (e4 h J) (ak.mono h) (bY.mono h) aw aF (dd.mono h)
 | F0 J ak bY aw h1 af dd=>exact .F0 (e4 h J) (ak.mono h) (bY.mono h) aw h1 af (dd.mono h)
 | AB J ak bY aw h1 af=>exact .AB (e4 h J) (ak.mono h) (bY.mono h) aw h1 af
 | Cq J aw=>exact .Cq (e4 h J) aw
 | Cp J aw=>exact .Cp (e4 h J) aw
 | JD J aw=>exact .JD (e4 h J) aw
 | JC J aw=>exact .JC (e4 h J) aw
 | E8 J au ax dj aZ ao=>exact .E8 (e4 h J) (kG h au) (e4 h ax) dj aZ ao
 | Cs J ax dj aZ ao=>exact .Cs (e4 h J) (e4 h ax) dj aZ ao
 | @lits b xs gm _ vs v J hv ao =>
  refine .lits (vs:=vs) ?_ hv ao;clear ao;generalize xs.toList=l at J
  induction l generalizing vs with
  | nil=>exact J
  | cons x l aU =>
   cases vs with
   | nil=>simp at J
   | cons v vs =>
    simp only [List.map_cons,List.cons.injEq] at J ⊢;exact ⟨e4 h J.1,aU J.2⟩
theorem p7.mono (h:oy g g') {op:Op}{ty:TypeId}{x:ab}(au:p7 P g op ty x):p7 P g' op ty x:=by
 cases au with
 | box J aa=>exact .box (e4 h J) aa
 | alloc aY h1=>exact .alloc aY h1
 | makeMap bg=>exact .makeMap bg
 | buildSlice aw au J aY aa av aF hzero=>exact .buildSlice aw au (zS h J) aY aa av aF hzero
 | makeSlice aw J ax hzero h1 pH av aF od vv ES=>exact .makeSlice aw (e4 h J) (e4 h ax) hzero h1 pH av aF od vv ES
theorem uS.mono (h:oy g g') {op:Op}{ty:TypeId}{x:ab}(au:uS P g op ty x):uS P g' op ty x:=by
 cases au with
 | build aw aY h1 au aa=>exact .build aw aY h1 (Pe h au) aa
 | makeFunc aP av=>exact .makeFunc (zS h aP) (zS h av)
theorem Src.mono (h:oy g g') {y:ab}{z m:Nat}{cells:List ab}(aC:Src g y z m cells):Src g' y z m cells:=by
 cases aC with
 | bj=>exact .bj
 | aJ=>exact .aJ
 | a6 bg hm=>exact .a6 (kG h bg) hm
 | sub bg hm=>exact .sub (kG h bg) hm
theorem ch.mono (h:oy g g') {op:Op}{ty:TypeId}{x:ab}(au:ch P g op ty x) (e8:∀ z p n m new,x=.bL z p n m new->∀ t bE cE m' c3,g' t≠some (.bL bE p cE m' c3)):ch P g' op ty x:=by
 cases au with
 | eW au=>exact .eW (au.mono h)
 | qF au=>exact .qF (au.mono h)
 | CG au=>exact .CG (au.mono h)
 | lR au =>
  cases au with
  | grow aC dd _ J r_ aw q' av=>exact .lR (.grow (e4 h aC) (dd.mono h) (e8 _ _ _ _ _ rfl) (e4 h J) (r_.mono h) aw q' av)
  | nil aC J r_ aw q' av=>exact .lR (.nil (e4 h aC) (e4 h J) (r_.mono h) aw q' av)
theorem View.mono (h:oy g g') {x y:ab}(hv:View g x y):View g' x y:=by
 induction hv with
 | qD=>exact .qD
 | self h1 af aI bK cG eh=>exact .self h1 af aI bK cG eh
 | mp=>exact .mp
 | gz au=>exact .gz (kG h au)
 | agg ak _ aU=>exact .agg ak aU
 | own ak _ aU=>exact .own ak aU
 | obj ak _ aU=>exact .obj ak aU
 | cW ak _ aU=>exact .cW ak aU
 | a6 au aF ak _ aU=>exact .a6 (kG h au) aF ak aU
 | sub au aF ak _ aU=>exact .sub (kG h au) aF ak aU
 | ptr au ax hk ak _ aU=>exact .ptr (kG h au) ax hk ak aU
 | rows au ak _ aU=>exact .rows (au.mono (λau=>kG h au) h) ak aU
theorem cz.mono (h:oy g g') {op:Op}{x:ab}(au:cz P g op x):cz P g' op x:=by
 cases au with
 | plain aa J aW aF gP ao=>exact .plain (e4 h aa) (zS h J) aW aF gP ao
 | E6 aa J aW ak hv gP ao=>exact .E6 (e4 h aa) (zS h J) aW ak (λk x y J ax=>(hv k x y J ax).mono h) gP ao
def iA (g:aM) (ops:Array Oper) (o:Oper) (b:Bool):Prop :=
 match o.guard with
 | none=>b=true
 | some (j,want)=>∃ t,(ops[j]?).bind (·.dst)=some t/\((∃ c,g t=some (.lit (.bool c))/\b=(c == want))\/(g t=some (.bW [])/\b=false))
theorem iA.mono (h:oy g g') {ops:Array Oper}{o:Oper}{b:Bool}(hw:iA g ops o b):iA g' ops o b:=by
 unfold iA at *;split
 ·rename_i aO; rw [aO] at hw; exact hw
 ·rename_i j want aO;rw [aO] at hw;obtain ⟨t,h1,⟨c,af,aI⟩ | ⟨af,aI⟩⟩:=hw
  ·exact ⟨t,h1,.inl ⟨c,h t _ af,aI⟩⟩
  ·exact ⟨t,h1,.inr ⟨h t _ af,aI⟩⟩
theorem iA.sound {w:World}{I:bb}{T:Array Value}{Fs:Nat->bb}(bk:cF w I T g Fs) {ops:Array Oper}{o:Oper}{b:Bool}(hw:iA g ops o b):Region.wanted o (yielded ops T)=b:=by
 unfold iA at hw;unfold Region.wanted
 split at hw
 ·rename_i aO; rw [aO]; exact hw.symm
 ·rename_i j want aO;rw [aO];obtain ⟨t,h1,⟨c,af,aI⟩ | ⟨af,aI⟩⟩:=hw
  ·obtain ⟨v,hv,aZ⟩:=bk.rel _ _ af;have:=(aZ.gI (by simp)).hB.1;subst this;subst aI;simp only [yielded,h1,Option.bind_some,hv];cases c <;> cases want <;> rfl
  ·obtain ⟨v,hv,aZ⟩:=bk.rel _ _ af;have:∃ vs,v=.tuple vs:=by
    cases aZ.gI (by simp) with
    | bW=>exact ⟨_,rfl⟩
    | ref J=>simp [ab.isRef] at J
   obtain ⟨vs,rfl⟩:=this;subst aI;simp only [yielded,h1,Option.bind_some,hv];cases want <;> rfl
def p' (P:Program) (g:aM) (ops:Array Oper) (o:Oper):Option ab->Prop
 | none=>iA g ops o false
 | some x=>(iA g ops o true/\(ch P g o.op o.type x\/cz P g o.op x))\/(iA g ops o false/\x=.bW [])\/(iA g ops o true/\∃ y,(ch P g o.op o.type y\/cz P g o.op y)/\cU y/\View (λ_=>none) y x)
theorem p'.mono (h:oy g g') {ops:Array Oper}{o:Oper}{r:Option ab}(aC:p' P g ops o r) (e8:∀ z p n m new,r=some (.bL z p n m new)->∀ t bE cE m' c3,g' t≠some (.bL bE p cE m' c3)):p' P g' ops o r:=by
 cases r with
 | none=>exact iA.mono h aC
 | some x =>
  rcases aC with aC | ⟨aC,J⟩ | ⟨aC,y,au,aF,hv⟩
  ·refine .inl ⟨aC.1.mono h,?_⟩;rcases aC.2 with au | au
   ·exact .inl (au.mono h λz p n m new e=>e8 z p n m new (by rw [e]))
   ·exact .inr (au.mono h)
  ·exact .inr (.inl ⟨aC.mono h,J⟩)
  ·refine .inr (.inr ⟨aC.mono h,y,?_,aF,hv⟩);rcases au with au | au
   ·exact .inl (au.mono h λz p n m new e=>by subst e; cases aF)
   ·exact .inr (au.mono h)
def leaf:ab->Bool
 | .own .. | .obj .. | .agg .. | .bW .. | .bL .. | .mp ..=>false
 | _=>true
def del (g:aM) (d:Nat):aM:=λt=>if t=d then none else g t
theorem W4 {x y:ab}(h:leaf x=true):∀ {q:List Nat},x.at q=some y->y=x
 | [],ax=>by simpa [ab.at] using ax.symm
 | k::q,ax=>by
  have:x.kids=[]:=by cases x <;> first | rfl | simp [leaf] at h
  simp [ab.at,this] at ax
theorem y3 {d:Nat}{x:ab}(aS:g d=some x) (ak:leaf x=true) {p:Place}{y:ab}(au:bD g p=some y) (ax:leaf y=false):bD (del g d) p=some y:=by
 have ao:p.root≠d:=by
  intro e;unfold bD at au;rw [e,aS] at au;rw [W4 ak au,ak] at ax;cases ax
 simp only [bD,del,if_neg ao] at au ⊢;exact au
theorem gD.del {d:Nat}{x:ab}(aS:g d=some x) (ak:leaf x=true) {r:ab}(h:gD g r):gD (del g d) r:=by
 have root:∀ {t:Nat}{y:ab},g t=some y->leaf y=false->Own.del g d t=some y:=by
  intro t y aw ax;have:t≠d:=by
   rintro rfl;rw [aS] at aw;cases aw;rw [ak] at ax; cases ax
  simp only [Own.del,if_neg this,aw]
 cases r <;> simp only [gD] at h ⊢
 case ptr p k =>
  obtain ⟨y,ax,z,n,cs,eM,hk⟩:=h;exact ⟨y,y3 aS ak ax (by rcases eM with rfl | rfl <;> rfl),z,n,cs,eM,hk⟩
 case a6 z p n =>
  rcases h with ⟨N,cs,ax,aF⟩ | ⟨h1,q,gY,m,new,af,aI⟩
  ·exact .inl ⟨N,cs,y3 aS ak ax rfl,aF⟩
  ·exact .inr ⟨h1,q,gY,m,new,root af rfl,aI⟩
 case sub z p lo n =>
  obtain ⟨N,cs,ax,aF⟩:=h;exact ⟨N,cs,y3 aS ak ax rfl,aF⟩
 case gz p=>obtain ⟨q,h⟩:=h; exact ⟨q,y3 aS ak h rfl⟩
 case bL z p n m new =>
  rcases h with ⟨cs,ax⟩ | ⟨h1,q,gY,m,new,cs,af,aI,bK⟩
  ·exact .inl ⟨cs,y3 aS ak ax rfl⟩
  ·exact .inr ⟨h1,q,gY,m,new,cs,root af rfl,aI,y3 aS ak bK rfl⟩
theorem R.W3 {w:World}{I:bb}{ρ:ab->Value->Prop}{x:ab}{v:Value}{F:bb}(h:R w I ρ x v F) (ak:leaf x=true):∀ c,¬ F c:=by
 cases h with
 | own | obj | agg | bW | mp=>simp [leaf] at ak
 | lit _ aN | aJ aN | dead aN | ref _ _ aN | hG aN | bj aN | cH aN | cW aN | imp aN=>exact aN
theorem cF.drop {w:World}{I:bb}{T:Array Value}{Fs:Nat->bb}(h:cF w I T g Fs) {d:Nat}{x:ab}(aS:g d=some x) (ak:leaf x=true):cF w I T (del g d) Fs:=by
 refine ⟨λt y ax=>?_,λt aw c aa=>?_,h.eJ,h.bj,h.lt,λt t' z p n m new bE cE m' c3 h1 af=>?_⟩
 ·have oR:g t=some y:=by
   unfold del at ax
   split at ax
   ·cases ax
   ·exact ax
  obtain ⟨v,hv,aZ⟩:=h.rel t y oR;exact ⟨v,hv,aZ.frame (λ_ _=>rfl) (λ_ h=>h) (λ_ _ ao=>⟨ao.1,ao.2.del aS ak⟩) (λ_ _ _ _ _ _ _=>rfl) λ_ _=>rfl⟩
 ·unfold del at aw
  split at aw
  ·rename_i e;subst e;obtain ⟨v,hv,aZ⟩:=h.rel t x aS;exact (aZ.gI (by rintro z p n m new rfl; simp [leaf] at ak)).W3 ak c aa
  ·exact h.kU t aw c aa
 ·have key:∀ {t:Nat}{y:ab},del g d t=some y->g t=some y:=by
   intro t y ax;unfold del at ax
   split at ax
   ·cases ax
   ·exact ax
  exact h.rq _ _ _ _ _ _ _ _ _ _ _ (key h1) (key af)
end
end Go.Own
namespace Go.Own
open Go
def x9 (g:aM) (d:Nat):Option ab->aM
 | some x=>cV g d x
 | none=>g
section
variable {P:Program}{w:World}{I:bb}{T:Array Value}{g:aM}{Fs:Nat->bb}{N:c6}{ops:Array Oper}
theorem kn.refl (w:World) (I U:bb):kn w I U w I U:=⟨Fr.refl _ _,λ_ h=>h,λ_ h=>.inl h,λ_ h=>.inl h⟩
theorem kn.trans {w ic hr:World}{I AV DK U yW Ll:bb}(h:kn w I U ic AV yW) (h1:kn ic AV yW hr DK Ll):kn w I U hr DK Ll:=by
 have nj:∀ c,c<w.heap.size->yW c->U c:=λc aa hu=>by
  rcases h.own c hu with aQ | aQ
  ·exact aQ
  ·omega
 refine ⟨h.eT.trans h1.eT nj,λc aa=>h1.more c (h.more c aa),λc aa=>?_,λc aa=>?_⟩
 ·rcases h1.new c aa with aQ | aQ | aQ
  ·exact h.new c aQ
  ·rcases h.own c aQ with jb | jb
   ·exact .inr (.inl jb)
   ·exact .inr (.inr jb)
  ·exact .inr (.inr (Nat.le_trans h.eT.size aQ))
 ·rcases h1.own c aa with aQ | aQ
  ·exact h.own c aQ
  ·exact .inr (Nat.le_trans h.eT.size aQ)
theorem h6.trans {N:c6}{a aE a2:Act}{ic hr:World}{AV:bb}{f_:Nat->bb}{g2:aM}(h1:aE.defers=a.defers) (af:hC N a.tmps aE.tmps) (b0:kn w I (λc=>∃ t,Fs t c) ic AV (λc=>∃ t,f_ t c)) (h:h6 N aE ic AV f_ g2 a2 hr):h6 N a w I Fs g2 a2 hr:=by
 obtain ⟨cA,cf,DK,iY,bk,qq⟩:=h;exact ⟨cA.trans h1,af.trans cf,DK,iY,bk,b0.trans qq⟩
theorem cF.XS (h:cF w I T g Fs) {d:Nat}(aS:g d=none) (v:Value):cF w I (T.setIfInBounds d v) g Fs:=by
 have dL:∀ t,g t≠none->(T.setIfInBounds d v)[t]?=T[t]?:=by
  intro t aw;rw [Array.getElem?_setIfInBounds_ne];rintro rfl; exact aw aS
 refine ⟨λt x J=>?_,h.kU,h.eJ,h.bj,h.lt,h.rq⟩;obtain ⟨u,hu,aZ⟩:=h.rel t x J;exact ⟨u,by rw [dL t (by rw [J]; simp)]; exact hu,h.wV dL (λ_ _ _=>rfl) (λ_ _=>rfl) (λ_ h=>h) (λ_ _ h=>h) aZ λ_ _=>rfl⟩
structure GD (dN:Nat->Bool) (g g2:aM):Prop where
 nj:∀ t x,g2 t=some x->dN t=false->g t=some x/\di g2 x
 pI:∀ t x,g2 t=some x->dN t=true->∃ y,g t=some y/\cU y/\h4 y x
 fy:∀ t z q n m new,g2 t≠some (.bL z q n m new)
theorem cF.u1 (h:cF w I T g Fs) {dN:Nat->Bool}{g2:aM}(aY:GD dN g g2):∃ I' b7,cF w I' T g2 b7/\kn w I (λc=>∃ t,Fs t c) w I' (λc=>∃ t,b7 t c):=by
 have rY:=h.mE;have CB:∀ t x,g2 t=some x->∀ z p n m new,x≠.bL z p n m new:=by
  rintro t x J z p n m new rfl;exact aY.fy _ _ _ _ _ _ J
 -- of each slot what it owns from now on
 have:∀ t,∃ c9:bb,(∀ c,c9 c->Fs t c/\g2 t≠none)/\∀ x,g2 t=some x->(dN t=false->∀ c,Fs t c->c9 c)/\∃ v,T[t]?=some v/\R w (λc=>I c\/(Fs t c/\¬ c9 c)) (dT w T g2) x v c9:=by
  intro t;cases J:g2 t with
  | none=>exact ⟨cy,λ_ h=>h.elim,λx h=>by cases h⟩
  | some x =>
   cases aw:dN t with
   | false =>
    obtain ⟨h1,af⟩:=aY.nj t x J aw;obtain ⟨v,hv,aZ⟩:=rY.rel t x h1;refine ⟨Fs t,λc aa=>⟨aa,by simp⟩,λy ax=>?_⟩;cases ax;exact ⟨λ_ _ h=>h,v,hv,((aZ.gI (CB t x J)).bV af).oo λc aa=>.inl aa⟩
   | true =>
    obtain ⟨y,h1,af,aI⟩:=aY.pI t x J aw;obtain ⟨v,hv,aZ⟩:=rY.rel t y h1;have jL:=aZ.gI (by rintro z p n m new rfl; cases af);obtain ⟨c9,aC,Uo⟩:=R.dN aI jL af (λc aa=>rY.bj t c aa) rY.lt;refine ⟨c9,λc aa=>⟨aC c aa,by simp⟩,λz aY=>?_⟩;cases aY;exact ⟨λh=>absurd h (by simp),v,hv,Uo.bm (aI.bm af)⟩
 obtain ⟨b7,jK⟩:=Classical.axiomOfChoice this;refine ⟨λc=>I c\/∃ t,Fs t c/\g2 t≠none/\¬ b7 t c,b7,⟨λt x J=>?_,λt aw c aa=>((jK t).1 c aa).2 aw,λt t' c aa fo=>h.eJ t t' c ((jK t).1 c aa).1 ((jK t').1 c fo).1,λt c aa hi=>?_,λc aa=>?_,λt t' z p n m new bE cE m' c3 h1 _=>absurd h1 (aY.fy _ _ _ _ _ _)⟩,Fr.refl _ _,λ_ h=>.inl h,λc aa=>?_,λc ⟨t,aa⟩=>.inl ⟨t,((jK t).1 c aa).1⟩⟩
 ·obtain ⟨_,v,hv,aZ⟩:=(jK t).2 x J;exact ⟨v,hv,.tree (aZ.oo λc aa=>aa.elim .inl λaa=>.inr ⟨t,aa.1,by rw [J]; simp,aa.2⟩)⟩
 ·rcases hi with aQ | ⟨s,h1,_,af⟩
  ·exact h.bj t c ((jK t).1 c aa).1 aQ
  ·have:=h.eJ t s c ((jK t).1 c aa).1 h1;subst this;exact af aa
 ·rcases aa with aQ | ⟨s,aQ,_⟩
  ·exact h.lt c aQ
  ·exact h.j0 s c aQ
 ·rcases aa with aQ | ⟨s,aQ,_⟩
  ·exact .inl aQ
  ·exact .inr (.inl ⟨s,aQ⟩)
theorem p'.sound (h:cF w I T g Fs) {a:Act}(aP:a.tmps=T) (bc:a.tmps.size=N.size) {o:Oper}{r:Option ab}{d:Nat}(aC:p' P g ops o r) (aS:o.dst=some d) (aO:g d=none) (jN:N.ok d=true) {K:Act->World->Prop}{Q:Exit->Act->World->Prop}
  (dj:∀ b' w',h6 N a w I Fs (x9 g d r) b' w'->K b' w') :
  if Region.wanted o (yielded ops a.tmps) then o.wp P a w K Q\/(o.asks P a w/\LetsOut Q) else K (a.put o.dst undef) w:=by
 subst aP;cases r with
 | none =>
  rw [iA.sound h aC];simp only [Bool.false_eq_true,if_false];refine dj _ _ ⟨by rw [aS]; rfl,by rw [aS]; exact hC.put jN _ _,I,Fs,by rw [aS]; exact h.XS aO _,kn.refl _ _ _⟩
 | some x =>
  have fin:∀ x v w',uQ w I a.tmps g Fs x v w'->(∀ b' w',h6 N a w I Fs (cV g d x) b' w'->K b' w')->K (a.put o.dst v) w':=by
   rintro x v w' ⟨F,I',bk,aZ,h1,af,aI,bK,cG,eh⟩ dj;refine dj _ _ ⟨by rw [aS]; rfl,by rw [aS]; exact hC.put jN _ _,I',_,by rw [aS]; exact bk.uz aO (by rw [bc]; exact c6.lt jN) aZ (λt c aa aW=>h1 t c aa aW) (λc aa=>(af c aa).2) eh,⟨cG,aI,λc aa=>?_,λc aa=>?_⟩⟩
   ·rcases bK c aa with aQ | aQ
    ·exact .inl aQ
    ·exact .inr (.inr aQ)
   ·rcases wa aa with aQ | aQ
    ·exact .inl aQ
    ·exact .inr (af c aQ).1
  have pI:∀ y v w',cU y->View (λ_=>none) y x->uQ w I a.tmps g Fs y v w'->uQ w I a.tmps g Fs x v w':=by
   rintro y v w' aF hv ⟨F,I',bk,aZ,h1,af,aI,bK,cG,eh⟩;have dI:=aZ.gI (by rintro z p n m new rfl; cases aF);refine ⟨cy,λc=>I' c\/F c,⟨λt z aY=>?_,bk.kU,bk.eJ,λt c aa hi=>?_,λc aa=>?_,bk.rq⟩,.tree (dI.pI aF hv (λc aa=>(af c aa).2) bk.lt),λ_ _ h=>h.elim,λ_ h=>h.elim,λc aa=>.inl (aI c aa),λc aa=>?_,cG,?_⟩
   ·obtain ⟨u,hu,mU⟩:=bk.rel t z aY;exact ⟨u,hu,mU.oo λc aa=>.inl aa⟩
   ·rcases hi with h | h
    ·exact bk.bj t c aa h
    ·exact h1 t c h aa
   ·rcases aa with h | h
    ·exact bk.lt c h
    ·exact dI.lt c h
   ·rcases aa with h | h
    ·exact bK c h
    ·exact .inr (af c h).1
   ·rintro z p n m new rfl;cases hv with
    | self h=>cases h
  rcases aC with aC | ⟨aC,rfl⟩ | ⟨aC,y,au,aF,hv⟩
  rotate_left
  rotate_left
  ·rw [iA.sound h aC];simp only [if_true];refine .inl ?_;have MG:∀ v w',uQ w I a.tmps g Fs y v w'->K (a.put o.dst v) w':=λv w' c_=>fin x v w' (pI y v w' aF hv c_) dj;rcases au with au | au
   ·obtain ⟨v,w',hP,c_⟩:=au.sound h rfl;unfold Oper.wp Oper.upon;simp only [hP];exact MG v w' c_
   ·exact au.sound h rfl MG
  rotate_left
  ·rw [iA.sound h aC];simp only [Bool.false_eq_true,if_false];refine dj _ _ ⟨by rw [aS]; rfl,by rw [aS]; exact hC.put jN _ _,I,_,by rw [aS]; exact h.uz aO (by rw [bc]; exact c6.lt jN) (.tree (.bW (Fs:=λ_=>cy) (F:=cy) rfl (λk x u J _=>by simp at J) (λ_ _ _ _ _ h=>h.elim) (λc=>⟨λh=>h.elim,λ⟨_,_,h⟩=>h⟩))) (λ_ _ h=>h.elim) (λ_ h=>h.elim) (λ_ _ _ _ _ e=>by cases e),⟨Fr.refl _ _,λ_ h=>h,λ_ h=>.inl h,λc aa=>?_⟩⟩;rcases wa aa with aQ | aQ
   ·exact .inl aQ
   ·exact aQ.elim
  rw [iA.sound h aC.1];simp only [if_true];refine .inl ?_;have fin:∀ v w',uQ w I a.tmps g Fs x v w'->K (a.put o.dst v) w':=by
   rintro v w' ⟨F,I',bk,aZ,h1,af,aI,bK,cG,eh⟩;refine dj _ _ ⟨by rw [aS]; rfl,by rw [aS]; exact hC.put jN _ _,I',_,by rw [aS]; exact bk.uz aO (by rw [bc]; exact c6.lt jN) aZ (λt c aa aW=>h1 t c aa aW) (λc aa=>(af c aa).2) eh,⟨cG,aI,λc aa=>?_,λc aa=>?_⟩⟩
   ·rcases bK c aa with aQ | aQ
    ·exact .inl aQ
    ·exact .inr (.inr aQ)
   ·rcases wa aa with aQ | aQ
    ·exact .inl aQ
    ·exact .inr (af c aQ).1
  rcases aC.2 with au | au
  ·obtain ⟨v,w',hP,c_⟩:=au.sound h rfl;unfold Oper.wp Oper.upon;simp only [hP];exact fin v w' c_
  ·exact au.sound h rfl fin
inductive oA (P:Program) (N:c6) (ops:Array Oper):List Nat->aM->aM->Prop
 | nil {g:aM}:oA P N ops [] g g
 | step {i:Nat}{rest:List Nat}{g g':aM}{o:Oper}{d:Nat}{r:Option ab}(a1:ops[i]?=some o) (aS:o.dst=some d) (aO:g d=none) (jN:N.ok d=true) (aC:p' P g ops o r)
   (ao:oA P N ops rest (x9 g d r) g'):oA P N ops (i::rest) g g'
 | j_ {i:Nat}{rest:List Nat}{g g1 g':aM}{o:Oper}(a1:ops[i]?=some o) (hw:iA g ops o true) (he:bl P N g o g1) (ao:oA P N ops rest g1 g'):oA P N ops (i::rest) g g'
 | drop {is:List Nat}{g g':aM}{d:Nat}{x:ab}(aS:g d=some x) (ak:leaf x=true) (ao:oA P N ops is (del g d) g'):oA P N ops is g g'
 | forget {is:List Nat}{g g1 g':aM}(hk:hD g g1) (ao:oA P N ops is g1 g'):oA P N ops is g g'
 | u1 {is:List Nat}{g g1 g':aM}{dN:Nat->Bool}(hk:GD dN g g1) (ao:oA P N ops is g1 g'):oA P N ops is g g'
theorem oA.sound {is:List Nat}{g':aM}(ao:oA P N ops is g g'):∀ {a:Act}{w:World}{I:bb}{Fs:Nat->bb}{Q:Exit->Act->World->Prop},cF w I a.tmps g Fs->a.tmps.size=N.size ->
  (∀ b' w',h6 N a w I Fs g' b' w'->Q .normal b' w')->wpOps P ops Q is a w:=by
 induction ao with
 | nil=>exact λbk bc dO=>dO _ _ ⟨rfl,hC.refl,_,_,bk,kn.refl _ _ _⟩
 | @step i rest g g' o d r a1 aS aO jN aC _ aU =>
  intro a w I Fs Q bk bc dO;simp only [wpOps,a1];refine aC.sound bk rfl bc aS aO jN λb' w' aF=>?_;obtain ⟨cA,cf,I',b7,dX,b0⟩:=aF;exact aU dX (cf.1.trans bc) λa2 hr af=>dO _ _ (h6.trans cA cf b0 af)
 | @j_ i rest g g1 g' o a1 hw he _ aU =>
  intro a w I Fs Q bk bc dO;simp only [wpOps,a1,hw.sound bk,if_true];refine .inl (he.sound bk rfl bc λb' w' aF=>?_);obtain ⟨cA,cf,I',b7,dX,b0⟩:=aF;exact aU dX (cf.1.trans bc) λa2 hr af=>dO _ _ (h6.trans cA cf b0 af)
 | @drop is g g' d x aS ak _ aU=>exact λbk bc dO=>aU (bk.drop aS ak) bc dO
 | @u1 is g g1 g' dN hk _ aU =>
  intro a w I Fs Q bk bc dO;obtain ⟨I',b7,dX,b0⟩:=bk.u1 hk;exact aU dX bc λa2 hr af=>dO _ _ (h6.trans rfl hC.refl b0 af)
 | @forget is g g1 g' hk _ aU =>
  intro a w I Fs Q bk bc dO;have dX:=bk.mE.keep hk;refine aU dX bc λa2 hr af=>dO _ _ (h6.trans rfl hC.refl ⟨Fr.refl _ _,λ_ h=>h,λ_ h=>.inl h,λc aa=>?_⟩ af);obtain ⟨t,_,aa⟩:=aa;exact .inl ⟨t,aa⟩
end
end Go.Own
namespace Go.Own
open Go
def sk (rs:List Nat):Place->Prop:=λp=>p.root∈rs
def o9 (P:Program) (N:c6) (rs:Place->Prop) (g:aM) (o:Oper) (g':aM):Prop :=
 ∀ (w:World) (I:bb) (T:Array Value) (Fs:Nat->bb),cF w I T g Fs->∀ (a:Act),a.tmps=T->a.tmps.size=N.size->∀ (K:Act->World->Prop) (Q:Exit->Act->World->Prop),
  (∀ (b':Act) (w':World),h6 N a w I Fs g' b' w'->(∀ t,o.dst≠some t->b'.tmps[t]?=a.tmps[t]?)->(∀ r path,rs ⟨r,path⟩->∀ y,bD g ⟨r,path⟩=some y->(∀ z q n m new,y≠.bL z q n m new)->dW w' b'.tmps ⟨r,path⟩=dW w T ⟨r,path⟩)->K b' w')->o.wp P a w K Q
theorem iy.v {P:Program}{N:c6}{g g':aM}{o:Oper}(h:iy P N g o g'):o9 P N (sk []) g o g' :=
 λw I T Fs bk a aP bc K Q dj=>h w I T Fs bk a aP bc K Q λb' w' h1 af=>dj b' w' h1 af λ_ _ h=>by simp [sk] at h
inductive p8:ab->Prop
 | lit {v:Value}:p8 (.lit v)
 | aJ:p8 .aJ
 | bj {z n:Nat}{cs:List ab}(h:∀ x∈cs,cU x):p8 (.bj z n cs)
 | agg {cs:List ab}(h:∀ x∈cs,p8 x):p8 (.agg cs)
theorem p8.bm {x:ab}(h:p8 x):cU x:=by
 induction h with
 | lit=>exact .lit
 | aJ=>exact .aJ
 | bj h=>exact .bj h
 | agg _ aU=>exact .agg aU
theorem p8.kU {w:World}{I:bb}{ρ:ab->Value->Prop}{x:ab}(h:p8 x):∀ {v:Value}{F:bb},R w I ρ x v F->∀ c,¬ F c:=by
 induction h with
 | lit =>
  intro v F aZ;cases aZ with
  | lit _ aN=>exact aN
  | ref J=>simp [ab.isRef] at J
 | aJ =>
  intro v F aZ;cases aZ with
  | aJ aN=>exact aN
  | ref J=>simp [ab.isRef] at J
 | bj =>
  intro v F aZ;cases aZ with
  | ref J=>simp [ab.isRef] at J
  | hG aN=>exact aN
  | bj aN=>exact aN
 | @agg cs _ aU =>
  intro v F aZ c aa;cases aZ with
  | ref J=>simp [ab.isRef] at J
  | @agg _ vs bM _ ak h1 ao aS mu =>
   obtain ⟨k,hk,af⟩:=(mu c).1 aa;have hu:vs[k]?=some (vs[k]'(by omega)):=Array.getElem?_eq_getElem (by omega);exact aU _ (List.getElem_mem hk) (ao k _ _ (List.getElem?_eq_getElem hk) hu) c af
structure Gz (g:aM):Prop where
 bV:∀ t x,g t=some x->di g x
 fy:∀ t z q n m new,g t≠some (.bL z q n m new)
def A5 (rs:Place->Prop) (g g1:aM) (o:Oper) (x:ab):Prop:=(∃ r path z n N cs,x=.a6 z ⟨r,path⟩ n/\rs ⟨r,path⟩/\bD g ⟨r,path⟩=some (.own z N cs)/\bD g1 ⟨r,path⟩=some (.own z N cs)/\n<=N)\/(∃ v,x=.lit v)\/(∃ s p k,x=.ptr p k/\g s=some x/\g1 s=some x/\o.dst≠some s)\/(∃ r k cs,x=.ptr ⟨r,[]⟩ k/\g1 r=some (.obj cs)/\k<cs.length/\o.dst≠some r/\∃ cs',g r=some (.obj cs')/\k<cs'.length)\/(∃ z n cs,x=.bj z n cs/\cU x)\/(∃ cs,x=.agg cs/\p8 x/\Gz g)
section
variable {P:Program}{N:c6}{g g1:aM}{o:Oper}
theorem PV {T:Array Value}{t:Nat}{v:Value}(h:T[t]?=some v):T.setIfInBounds t v=T:=by
 apply Array.ext (by simp);intro i h1 af;rw [Array.getElem_setIfInBounds];split
 ·rename_i e;subst e;have:=(Array.getElem?_eq_some_iff.1 h);exact this.2.symm
 ·rfl
theorem cF.S4 {w:World}{I:bb}{T:Array Value}{Fs:Nat->bb}{t:Nat}{x:ab}(h:cF w I T (cV g t x) Fs) (aO:g t=none) (aa:Gz g) (k8:∀ c,¬ Fs t c):cF w I T g Fs:=by
 have gH:∀ s y,g s=some y->cV g t x s=some y:=λs y aC=>by
  unfold cV;rw [if_neg (λe=>by rw [e,aO] at aC; cases aC)]; exact aC
 have af:=h.mE.keep (g2:=g) ⟨gH,aa.bV,aa.fy⟩;have e:(λs c=>g s≠none/\Fs s c)=Fs:=by
  funext s c;apply propext;refine ⟨λh=>h.2,λaW=>⟨λaF=>?_,aW⟩⟩;by_cases aC:s=t
  ·subst aC; exact k8 c aW
  ·exact h.kU s (by unfold cV; rw [if_neg aC]; exact aF) c aW
 rw [e] at af;exact af
theorem o9.extra {rs:Place->Prop}(h:o9 P N rs g o g1) {t:Nat}{x:ab}(l8:∀ p,rs p->g p.root≠none) (aO:g t=none) (Vc:g1 t=none) (aw:o.dst≠some t) (J:A5 rs g g1 o x):o9 P N rs (cV g t x) o (cV g1 t x):=by
 intro w I T Fs bk a aP bc K Q dj;have IU:cV g t x t=some x:=by simp [cV]
 have la:∀ z q n m new,x≠.bL z q n m new:=by
  rcases J with ⟨r,path,z,n,N,cs,rfl,_⟩ | ⟨v,rfl⟩ | ⟨s,p,k,rfl,_⟩ | ⟨r,k,cs,rfl,_⟩ | ⟨z,n,cs,rfl,_⟩ | ⟨cs,rfl,_⟩ <;> simp
 have sE:cF w I T g Fs:=by
  have A9:leaf x=true->cF w I T g Fs:=λvh=>by
   have:=bk.drop IU vh;have e:del (cV g t x) t=g:=by
    funext s;unfold del cV;by_cases aC:s=t
    ·subst aC; simp [aO]
    ·simp [aC]
   rwa [e] at this
  rcases J with ⟨r,path,z,n,N,cs,rfl,_⟩ | ⟨v,rfl⟩ | ⟨s,p,k,rfl,_⟩ | ⟨r,k,cs,rfl,_⟩ | ⟨z,n,cs,rfl,_⟩ | ⟨cs,rfl,tZ,ha⟩
  ·exact A9 rfl
  ·exact A9 rfl
  ·exact A9 rfl
  ·exact A9 rfl
  ·exact A9 rfl
  ·obtain ⟨v,_,mV⟩:=bk.rel t _ IU;exact bk.S4 aO ha (tZ.kU (mV.gI (by simp)))
 obtain ⟨v,hv,mV⟩:=bk.rel t x IU;refine h w I T Fs sE a aP bc K Q λb' w' aF sO Ob=>dj b' w' ?_ sO λr path ao y ax la=>?_
 rotate_left
 ·by_cases N1:r=t
  ·subst N1;exact absurd aO (l8 _ ao)
  ·exact Ob r path ao y (by simpa [bD,cV,N1] using ax) la
 obtain ⟨cA,cf,I',b7,dX,b0⟩:=aF;have iu:b'.tmps[t]?=some v:=by rw [sO t aw,aP]; exact hv
 have jL:jD w' I' (dT w' b'.tmps g1) x v cy:=by
  rcases J with ⟨r,path,z,n,uR,cs,rfl,ao,zw,kt,VA⟩ | ⟨u,rfl⟩ | ⟨s,p,k,rfl,aC,xg,VT⟩ | ⟨r,k,cs,rfl,kt,hk,r8,_⟩ | ⟨z,n,cs,rfl,mY⟩ | ⟨cs,rfl,tZ,ha⟩
  ·obtain ⟨⟨aE,iZ,cap,hg,rfl,lA⟩,_⟩:=(mV.gI (by simp)).nc;exact .tree (.ref rfl ⟨⟨aE,iZ,cap,by rw [Ob r path ao _ zw (by simp)]; exact hg,rfl,lA⟩,.inl ⟨uR,cs,kt,VA⟩⟩ λ_ h=>h)
  ·obtain ⟨rfl,aa⟩:=(mV.gI (by simp)).hB;exact .tree (.lit aa λ_ h=>h)
  ·obtain ⟨⟨Dr,ad,aE,a2,rfl⟩,_⟩:=(mV.gI (by simp)).nP;have b0:s≠t:=by rintro rfl; rw [aO] at aC; cases aC
   obtain ⟨u,hu,mU⟩:=sE.rel s _ aC;obtain ⟨⟨acZ,ZC,hg,iC,rfl⟩,_⟩:=(mU.gI (by simp)).nP;rw [aE] at hg;cases hg;rw [a2] at iC;cases iC;obtain ⟨v',jO,HR⟩:=dX.rel s _ xg;have:b'.tmps[s]?=T[s]?:=by rw [sO s VT,aP]
   rw [this,hu] at jO;cases jO;exact .tree (.ref rfl (HR.gI (by simp)).nP λ_ h=>h)
  ·obtain ⟨⟨Dr,ad,aE,a2,rfl⟩,_⟩:=(mV.gI (by simp)).nP;have dL:b'.tmps[r]?=T[r]?:=by rw [sO r r8,aP]
   have og:∀ (w:World) (T:Array Value),dW w T ⟨r,[]⟩=T[r]?:=λw T=>by
    unfold dW; simp only; cases T[r]? <;> rfl
   exact .tree (.ref rfl ⟨⟨Dr,ad,by rw [og,dL,<- og w T]; exact aE,a2,rfl⟩,⟨.obj cs,by simp [bD,kt,ab.at],0,0,cs,.inr rfl,hk⟩⟩ λ_ h=>h)
  ·have sm:∀ c,I c->w'.heap[c]?=w.heap[c]?:=λc aa=>b0.eT.block c (bk.lt c aa) λ⟨t',aQ⟩=>sE.bj t' c aQ aa;have HO:=(mV.gI (by simp)).bm mY (ρ':=dT w' b'.tmps g1);have k8:∀ c,¬ Fs t c:=by
    cases mV.gI (by simp) with
    | ref J=>simp [ab.isRef] at J
    | hG aN=>exact aN
    | bj aN=>exact aN
   exact .tree ((HO.frame sm b0.more (λ_ _ h=>h) λc aa=>absurd aa (k8 c)).empty k8)
  ·have sm:∀ c,I c->w'.heap[c]?=w.heap[c]?:=λc aa=>b0.eT.block c (bk.lt c aa) λ⟨t',aQ⟩=>sE.bj t' c aQ aa;have k8:=tZ.kU (mV.gI (by simp));have HO:=(mV.gI (by simp)).bm tZ.bm (ρ':=dT w' b'.tmps g1);exact .tree ((HO.frame sm b0.more (λ_ _ h=>h) λc aa=>absurd aa (k8 c)).empty k8)
 have nK:=dX.uz (d:=t) (x:=x) (v:=v) (F:=cy) Vc (Array.getElem?_eq_some_iff.1 iu).1 jL (λ_ _ h=>h.elim) (λ_ h=>h.elim) (λz p n m new e=>absurd e (la _ _ _ _ _));rw [PV iu] at nK;refine ⟨cA,cf,I',_,nK,⟨b0.eT,b0.more,b0.new,λc aa=>?_⟩⟩;rcases wa aa with aQ | aQ
 ·exact b0.own c aQ
 ·exact aQ.elim
theorem iy.frame {g0 Hz:aM}{r:Nat}{x:ab}(h:iy P N g0 o Hz) (ao:g r=some x) (J:cU x) (hk:hD g g0) (aR:g0 r=none) (h1:Hz r=none) (aS:o.dst≠some r):o9 P N (sk [r]) g o (cV Hz r x):=by
 intro w I T Fs bk a aP bc K Q dj;have sE:=bk.mE.keep hk;refine h w I T _ sE a aP bc K Q λb' w' aF sO=>?_;obtain ⟨cA,cf,I',b7,dX,b0⟩:=aF;obtain ⟨u,hu,aZ⟩:=bk.rel r x ao;have jO:b'.tmps[r]?=some u:=by rw [sO r aS,aP]; exact hu
 have la:∀ z q n m new,x≠.bL z q n m new:=by rintro z q n m new rfl; cases J
 have off:∀ c,Fs r c->¬ ∃ t,(g0 t≠none/\Fs t c):=by
  rintro c aa ⟨t,ll,af⟩;have:=bk.eJ t r c af aa;subst this;exact ll aR
 have same:∀ c,Fs r c->w'.heap[c]?=w.heap[c]?:=λc aa=>b0.eT.block c (bk.j0 r c aa) (off c aa);have sm:∀ c,I c->w'.heap[c]?=w.heap[c]?:=λc aa=>b0.eT.block c (bk.lt c aa) λ⟨t,_,aQ⟩=>bk.bj t c aQ aa;have nK:=dX.uz (d:=r) (x:=x) (v:=u) (F:=Fs r) h1 (Array.getElem?_eq_some_iff.1 jO).1 (.tree (((aZ.gI la).bm J).frame sm b0.more (λ_ _ h=>h) same)) (λt c aa aW=>by
   rcases b0.own c ⟨t,aW⟩ with aQ | aQ
   ·exact off c aa aQ
   ·have:=bk.j0 r c aa; omega) (λc aa hi=>by
   rcases b0.new c hi with aQ | aQ | aQ
   ·exact bk.bj r c aa aQ
   ·exact off c aa aQ
   ·have:=bk.j0 r c aa; omega) (λz p n m new e=>absurd e (la _ _ _ _ _))
 rw [PV jO] at nK;refine dj b' w' ⟨cA,cf,I',_,nK,⟨b0.eT.mono λb _ ⟨t,_,aQ⟩=>⟨t,aQ⟩,b0.more,λc aa=>?_,λc aa=>?_⟩⟩ sO λdn path ec y ax hyp=>?_
 ·rcases b0.new c aa with aQ | ⟨t,_,aQ⟩ | aQ
  ·exact .inl aQ
  ·exact .inr (.inl ⟨t,aQ⟩)
  ·exact .inr (.inr aQ)
 ·rcases wa aa with aQ | aQ
  ·rcases b0.own c aQ with ⟨t,_,jb⟩ | jb
   ·exact .inl ⟨t,jb⟩
   ·exact .inr jb
  ·exact .inl ⟨r,aQ⟩
 ·have ec:dn∈[r]:=ec;simp only [List.mem_singleton] at ec;subst ec;have hb:hD g (λt=>if t=dn then some x else none):=by
   refine ⟨λt y hz=>?_,λt y hz=>?_,λt z q n m new hz=>?_⟩
   all_goals
    by_cases e:t=dn
    case neg=>simp [e] at hz
   ·subst e; simp at hz; subst hz; exact ao
   ·subst e; simp at hz; subst hz; exact .bm J
   ·subst e; simp at hz; exact la _ _ _ _ _ hz
  refine (bk.mE.keep hb).yq (T':=b'.tmps) (λt aw=>?_) (λt c aa=>?_) (p:=⟨dn,path⟩) (y:=y) ?_
  ·by_cases e:t=dn
   ·subst e; rw [sO t aS,aP]
   ·simp [e] at aw
  ·by_cases e:t=dn
   ·subst e; exact same c aa.2
   ·simp [e] at aa
  ·simp only [bD,if_true];simpa [bD,ao] using ax
end
end Go.Own
namespace Go.Own
open Go
abbrev Acc:=List (Nat × Nat × Option ab)
def dh (g0:aM) (A:Nat->Bool):Acc->aM
 | [],t=>g0 t
 | (k,d,r)::acc,t=>if d=t then (if A k then r else none) else dh g0 A acc t
def j1:Nat × Nat × Option ab->Option Place
 | (_,_,some (.bL _ p _ _ _))=>some p
 | _=>none
def pe (ops:Array Oper) (bd:List (List Nat)):Bool :=
 (List.range ops.size).all λk =>
  match ops[k]? with
  | none=>true
  | some o=>(o.after.all λe=>!Region.binds .any e||decide (e.on<k))&&(bd.getD k []).all λm=>decide (m<k)&&o.after.any λe=>Region.binds .any e&&(e.on == m||(bd.getD e.on []).contains m)
inductive iK (P:Program) (N:c6) (ops:Array Oper) (bd:List (List Nat)) (g0:aM) (i:Nat) (dV:Acc):Nat->Acc->Prop
 | nil:iK P N ops bd g0 i dV i dV
 | step {j:Nat}{acc:Acc}{o:Oper}{d:Nat}{r:Option ab}(h:iK P N ops bd g0 i dV j acc) (a1:ops[j]?=some o) (aS:o.dst=some d) (aO:g0 d=none) (aF:∀ e∈acc,e.2.1≠d) (jN:N.ok d=true)
   (aC:p' P (dh g0 (λm=>(bd.getD j []).contains m) acc) ops o r):iK P N ops bd g0 i dV (j+1) ((j,d,r)::acc)
structure mL (P:Program) (N:c6) (ops:Array Oper) (bd:List (List Nat)) (g0:aM) (i:Nat) (dV:Acc):Prop where
 lt:∀ e∈dV,e.1<i
 free:∀ e∈dV,g0 e.2.1=none
 nd:(dV.map (·.2.1)).Nodup
 Qm:∀ e∈dV,∀ cj∈dV,(e.1=cj.1\/e.2.1=cj.2.1)->e=cj
 st:∀ e∈dV,∃ gi,ops[e.1]?=some gi/\gi.dst=some e.2.1/\N.ok e.2.1=true/\p' P (dh g0 (λm=>(bd.getD e.1 []).contains m) dV) ops gi e.2.2
theorem mL.nil {P:Program}{N:c6}{ops:Array Oper}{bd:List (List Nat)}{g0:aM}{i:Nat}:mL P N ops bd g0 i []:=⟨by simp,by simp,by simp,by simp,by simp⟩
inductive ss (P:Program) (N:c6) (ops:Array Oper) (bd:List (List Nat)):Nat->Acc->aM->aM->Prop
 | fin {i:Nat}{dV:Acc}{g:aM}{acc:Acc}(aC:iK P N ops bd g i dV ops.size acc) (gQ:(acc.filterMap j1).Nodup) (fH:∀ t z q n m new,g t≠some (.bL z q n m new)):ss P N ops bd i dV g (dh g (λ_=>true) acc)
 | wC {i j:Nat}{g g1 g':aM}{dV acc U:Acc}{o:Oper}{rs:Place->Prop}(aC:iK P N ops bd g i dV j acc) (gQ:(acc.filterMap j1).Nodup) (fH:∀ t z q n m new,g t≠some (.bL z q n m new)) (a1:ops[j]?=some o) (hw:iA (dh g (λm=>(bd.getD j []).contains m) acc) ops o true)
   (he:o9 P N rs (dh g (λm=>(bd.getD j []).contains m) acc) o g1) (l8:∀ p,rs p->g p.root≠none) (ga:U=acc.filter λe=>!(bd.getD j []).contains e.1) (J:∀ e∈U,∃ x,e.2.2=some x/\A5 rs (dh g (λm=>(bd.getD j []).contains m) acc) g1 o x) (h1:∀ e∈U,g1 e.2.1=none/\o.dst≠some e.2.1)
   (af:∀ e∈U,∃ gi,ops[e.1]?=some gi/\gi.dst=some e.2.1/\N.ok e.2.1=true/\p' P (dh g1 (λm=>(bd.getD e.1 []).contains m) U) ops gi e.2.2)
   (av:(List.range ops.size).all (λk=>decide (k<=j)||(bd.getD k []).contains j)=true) (ao:ss P N ops bd (j+1) U g1 g'):ss P N ops bd i dV g g'
theorem mF {g0:aM}{A:Nat->Bool}{acc:Acc}{t:Nat}(h:∀ e∈acc,e.2.1≠t):dh g0 A acc t=g0 t:=by
 induction acc with
 | nil=>rfl
 | cons e acc aU =>
  grind [dh]
theorem uJ {g0:aM}{A:Nat->Bool}{acc:Acc}{t:Nat}{x:ab}(h:dh g0 A acc t=some x):(∃ e∈acc,e.2.1=t/\A e.1=true/\e.2.2=some x)\/((∀ e∈acc,e.2.1≠t)/\g0 t=some x):=by
 induction acc with
 | nil=>exact .inr ⟨by simp,h⟩
 | cons e acc aU =>
  grind [dh]
theorem KI {g:aM}{A:Nat->Bool}{acc:Acc}(hu:∀ e∈acc,∀ cj∈acc,e.2.1=cj.2.1->e=cj) {e:Nat × Nat × Option ab}(he:e∈acc):dh g A acc e.2.1=if A e.1 then e.2.2 else none:=by
 induction acc with
 | nil=>cases he
 | cons a acc aU =>
  grind [dh]
section
variable {P:Program}{N:c6}{ops:Array Oper}{bd:List (List Nat)}{g0:aM}{i:Nat}
variable {dV:Acc}
theorem iK.le {j:Nat}{acc:Acc}(h:iK P N ops bd g0 i dV j acc) (ga:mL P N ops bd g0 i dV):i<=j/\∀ e∈acc,e.1<j:=by
 induction h with
 | nil=>exact ⟨Nat.le_refl _,ga.lt⟩
 | step _ _ _ _ _ _ _ aU =>
  grind
theorem iK.ge {j:Nat}{acc:Acc}(h:iK P N ops bd g0 i dV j acc) (ga:mL P N ops bd g0 i dV):∀ e∈acc,e∈dV\/i<=e.1:=by
 induction h with
 | nil=>exact λe he=>.inl he
 | step aC _ _ _ _ _ _ aU =>
  intro e he;rcases List.mem_cons.1 he with rfl | he
  ·exact .inr (aC.le ga).1
  grind
theorem iK.KB {j:Nat}{acc:Acc}(h:iK P N ops bd g0 i dV j acc):∀ e∈dV,e∈acc:=by
 induction h with
 | nil=>exact λe he=>he
 | step _ _ _ _ _ _ _ aU=>exact λe he=>by simp [aU e he]
theorem iK.fresh {j:Nat}{acc:Acc}(h:iK P N ops bd g0 i dV j acc) (ga:mL P N ops bd g0 i dV):∀ e∈acc,g0 e.2.1=none:=by
 induction h with
 | nil=>exact ga.free
 | step _ _ _ aO _ _ _ aU =>
  grind
theorem iK.nodup {j:Nat}{acc:Acc}(h:iK P N ops bd g0 i dV j acc) (ga:mL P N ops bd g0 i dV):(acc.map (·.2.1)).Nodup:=by
 induction h with
 | nil=>exact ga.nd
 | step _ _ _ _ aF _ _ aU =>
  grind
theorem iK.uniq {j:Nat}{acc:Acc}(h:iK P N ops bd g0 i dV j acc) (ga:mL P N ops bd g0 i dV):∀ {e cj:Nat × Nat × Option ab},e∈acc->cj∈acc->(e.1=cj.1\/e.2.1=cj.2.1)->e=cj:=by
 induction h with
 | nil=>exact λ{e cj} he h9 bY=>ga.Qm e he cj h9 bY
 | @step j acc o d r aC _ _ _ aF _ _ aU =>
  intro e cj he h9 bY;rcases List.mem_cons.1 he with rfl | he <;> rcases List.mem_cons.1 h9 with rfl | h9
  ·rfl
  ·rcases bY with bY | bY
   ·have:=(aC.le ga).2 cj h9
    grind
   grind
  ·rcases bY with bY | bY
   ·have:=(aC.le ga).2 e he
    grind
   grind
  grind
theorem iK.at_mem {j:Nat}{acc:Acc}(h:iK P N ops bd g0 i dV j acc) (ga:mL P N ops bd g0 i dV) {A:Nat->Bool}{e:Nat × Nat × Option ab}(he:e∈acc):dh g0 A acc e.2.1=if A e.1 then e.2.2 else none :=
 KI (λ_ J _ ax aQ=>h.uniq ga J ax (.inr aQ)) he
theorem iK.get {j:Nat}{acc:Acc}(h:iK P N ops bd g0 i dV j acc) (ga:mL P N ops bd g0 i dV):∀ e∈acc,∃ o DY,ops[e.1]?=some o/\o.dst=some e.2.1/\N.ok e.2.1=true/\p' P (dh g0 (λm=>(bd.getD e.1 []).contains m) DY) ops o e.2.2/\∀ e∈DY,e∈acc:=by
 induction h with
 | nil =>
  intro e he;obtain ⟨gi,h1,af,aI,bK⟩:=ga.st e he
  grind
 | @step j acc o d r aC a1 aS aO aF jN b0 aU =>
  intro e he;rcases List.mem_cons.1 he with rfl | he
  ·grind
  grind
theorem iK.has {j:Nat}{acc:Acc}(h:iK P N ops bd g0 i dV j acc):∀ k,i<=k->k<j->∃ e∈acc,e.1=k:=by
 induction h with
 | nil=>intro k h1 af; omega
 | @step j acc o d r aC a1 aS aO aF jN b0 aU =>
  grind [List.mem_cons_self]
theorem XF {acc:Acc}(gQ:(acc.filterMap j1).Nodup) {e cj:Nat × Nat × Option ab}{p:Place}(he:e∈acc) (h9:cj∈acc) (h:j1 e=some p) (aQ:j1 cj=some p):e=cj:=by
 induction acc with
 | nil=>simp at he
 | cons a acc aU =>
  grind
def dQ (listed:Array Bool) (k:Nat):Bool:=listed.getD k false
def hn (ops:Array Oper) (listed:Array Bool):Nat:=((List.range ops.size).filter λk=>!dQ listed k).length
theorem wN {listed:Array Bool}{k:Nat}(hk:k<ops.size) (ak:dQ listed k=false) (fY:listed.size=ops.size):hn ops (listed.setIfInBounds k true)+1<=hn ops listed:=by
 unfold hn;have key:∀ l:List Nat,l.Nodup->((l.filter λj=>!dQ (listed.setIfInBounds k true) j).length+if k∈l then 1 else 0)=(l.filter λj=>!dQ listed j).length:=by
  intro l
  induction l with
  | nil=>intro _; simp
  | cons j l aU =>
   intro fp;have VB:=List.nodup_cons.1 fp;have acK:=aU VB.2;by_cases gV:j=k
   ·simp_all [dQ]
   ·have h1:dQ (listed.setIfInBounds k true) j=dQ listed j:=by simp [dQ,Array.getElem?_setIfInBounds_ne (Ne.symm gV)]
    grind
 grind
end
end Go.Own
namespace Go.Own
open Go
section
variable {P:Program}{N:c6}{ops:Array Oper}{bd:List (List Nat)}
def Down (bd:List (List Nat)) (listed:Array Bool):Prop:=∀ k,dQ listed k=true->∀ m∈bd.getD k [],dQ listed m=true
theorem Lu (h:pe ops bd=true) {k:Nat}{o:Oper}(a1:ops[k]?=some o) :
  (∀ e∈o.after,Region.binds .any e=true->e.on<k)/\∀ m∈bd.getD k [],m<k/\∃ e∈o.after,Region.binds .any e=true/\(e.on=m\/m∈bd.getD e.on []):=by
 grind [pe,Array.all_eq_true_iff_forall_mem]
theorem ya {listed:Array Bool}{k:Nat}(h:k∈Region.ready .any ops listed):dQ listed k=false/\∃ o,ops[k]?=some o/\∀ e∈o.after,Region.binds .any e=true->dQ listed e.on=true:=by
 grind [mem_ready,dQ]
theorem Kb (et:pe ops bd=true) {listed:Array Bool}(aS:Down bd listed) {k:Nat}(h:k∈Region.ready .any ops listed):∀ m∈bd.getD k [],dQ listed m=true:=by
 obtain ⟨_,o,a1,af⟩:=ya h;intro m hm;obtain ⟨_,e,he,av,aI⟩:=(Lu et a1).2 m hm;rcases aI with rfl | aI
 ·grind
 ·exact aS e.on (af e he av) m aI
theorem Ps (et:pe ops bd=true) {listed:Array Bool}(fY:listed.size=ops.size):∀ k,k<ops.size->dQ listed k=false->Region.ready .any ops listed≠[]:=by
 intro k
 induction k using Nat.strongRecOn with
 | _ k aU =>
  intro hk ak;by_cases hex:∃ j,j<k/\dQ listed j=false
  ·grind
  ·have nH:k∈Region.ready .any ops listed:=by
    refine mem_ready.2 ⟨?_,ops[k],Array.getElem?_eq_getElem hk,λe he av=>?_⟩
    ·grind [dQ]
    ·have aT:=(Lu et (Array.getElem?_eq_getElem hk)).1 e he av
     grind [dQ]
   grind
theorem Ds {g0:aM}{A B:Nat->Bool}{acc:Acc}{t:Nat}(h:∀ e∈acc,e.2.1=t->A e.1=B e.1):dh g0 A acc t=dh g0 B acc t:=by
 induction acc with
 | nil=>rfl
 | cons e acc aU =>
  grind [dh]
theorem DO {listed:Array Bool}{k j:Nat}(hk:k<listed.size):dQ (listed.setIfInBounds k true) j=if j=k then true else dQ listed j:=by
 by_cases gV:j=k
 all_goals simp_all [dQ,Ne.symm]
theorem Zg {g0:aM}{i j:Nat}{acc U dV:Acc}(aC:iK P N ops bd g0 i dV j acc) (cx:mL P N ops bd g0 i dV) {A S:Nat->Bool}(ga:U=acc.filter λe=>!A e.1) (TX:∀ e∈acc,A e.1=true->S e.1=true):dh g0 S acc=dh (dh g0 A acc) S U:=by
 subst ga;funext t;by_cases hex:∃ e∈acc,e.2.1=t
 ·obtain ⟨e,he,rfl⟩:=hex;rw [aC.at_mem cx he];by_cases et:A e.1=true
  ·rw [mF,aC.at_mem cx he,if_pos et,if_pos (TX e he et)];intro cj h9 h;obtain ⟨h1,af⟩:=List.mem_filter.1 h9;have:=aC.uniq cx h1 he (.inr h)
   grind
  ·rw [KI (λx J y ax h=>aC.uniq cx (List.mem_filter.1 J).1 (List.mem_filter.1 ax).1 (.inr h)) (List.mem_filter.2 ⟨he,by simpa using et⟩)]
 grind [mF]
theorem di.mono {g g':aM}(aO:∀ t x,g t=some x->g' t=some x) {x:ab}(h:di g x):di g' x:=by
 induction h with
 | bm h=>exact .bm h
 | ref J h=>exact .ref J (h.mono aO)
 | own _ aU=>exact .own aU
 | obj _ aU=>exact .obj aU
 | agg _ aU=>exact .agg aU
 | bW _ aU=>exact .bW aU
 | cW _ _ gy gg=>exact .cW gy gg
 | bL au _ aU=>exact .bL (au.mono aO) aU
theorem Mq {mS g1:aM}{o:Oper}{S:Nat->Bool}{rs:Place->Prop}(h:o9 P N rs mS o g1) (l8:∀ p,rs p->mS p.root≠none):∀ (U:Acc),(∀ e∈U,∃ x,e.2.2=some x/\A5 rs mS g1 o x)->(∀ e∈U,mS e.2.1=none/\g1 e.2.1=none/\o.dst≠some e.2.1)->(U.map (·.2.1)).Nodup->o9 P N rs (dh mS S U) o (dh g1 S U)
 | [],_,_,_=>h
 | (k,d,r)::U,J,h1,fp=>by
  simp only [List.map_cons,List.nodup_cons] at fp;have aU:=Mq (S:=S) h l8 U (λe he=>J e (by simp [he])) (λe he=>h1 e (by simp [he])) fp.2;obtain ⟨x,e,b0⟩:=J (k,d,r) (by simp);simp only at e;subst e;obtain ⟨aE,a2,a3⟩:=h1 (k,d,some x) (by simp);simp only at aE a2 a3;have r7:∀ e∈U,e.2.1≠d:=λe he aQ=>fp.1 (List.mem_map.2 ⟨e,he,aQ⟩);cases bk:S k with
  | true =>
   have e:∀ g:aM,dh g S ((k,d,some x)::U)=cV (dh g S U) d x:=λg=>by
    funext t;simp only [dh,cV,bk,if_true];by_cases aS:d=t
    ·rw [if_pos aS,if_pos aS.symm]
    ·rw [if_neg aS,if_neg (Ne.symm aS)]
   rw [e,e];have Fq:∀ r,mS r≠none->∀ e∈U,e.2.1≠r:=λr ao e he aQ=>by
    have:=(h1 e (by simp [he])).1;rw [aQ] at this;exact ao this
   have Xo:∀ r,g1 r≠none->∀ e∈U,e.2.1≠r:=λr ao e he aQ=>by
    have:=(h1 e (by simp [he])).2.1;rw [aQ] at this;exact ao this
   refine aU.extra (λr ao=>by rw [mF (Fq r.root (l8 r ao))]; exact l8 r ao) (by rw [mF r7]; exact aE) (by rw [mF r7]; exact a2) a3 ?_;rcases b0 with ⟨r,path,z,n,uR,cs,rfl,hg,iC,lA,D3⟩ | ⟨v,rfl⟩ | ⟨s,p,m,rfl,hg,iC,lA⟩ | ⟨s,m,cs,rfl,hg,iC,lA,cs',D3,RL⟩ | ⟨z,n,cs,rfl,hg⟩ | ⟨cs,rfl,hg,iC⟩
   ·refine .inl ⟨r,path,z,n,uR,cs,rfl,hg,?_,?_,D3⟩
    ·have:mS r≠none:=l8 _ hg;simpa [bD,mF (Fq r this)] using iC
    ·have:g1 r≠none:=λe=>by simp [bD,e] at lA
     simpa [bD,mF (Xo r this)] using lA
   ·exact .inr (.inl ⟨v,rfl⟩)
   ·refine .inr (.inr (.inl ⟨s,p,m,rfl,?_,?_,lA⟩))
    ·rw [mF]; exact hg;intro e he aQ;have:=(h1 e (by simp [he])).1;rw [aQ,hg] at this; cases this
    ·rw [mF]; exact iC;intro e he aQ;have:=(h1 e (by simp [he])).2.1;rw [aQ,iC] at this; cases this
   ·refine .inr (.inr (.inr (.inl ⟨s,m,cs,rfl,?_,iC,lA,cs',?_,RL⟩)))
    ·rw [mF]; exact hg;intro e he aQ;have:=(h1 e (by simp [he])).2.1;rw [aQ,hg] at this; cases this
    ·rw [mF (Fq s (by rw [D3]; simp))]; exact D3
   ·exact .inr (.inr (.inr (.inr (.inl ⟨z,n,cs,rfl,hg⟩))))
   ·refine .inr (.inr (.inr (.inr (.inr ⟨cs,rfl,hg,?_⟩))));have hle:∀ t y,mS t=some y->dh mS S U t=some y:=λt y ax=>by rw [mF (Fq t (by rw [ax]; simp))]; exact ax
    refine ⟨λt y ax=>?_,λt z q n m new ax=>?_⟩
    ·rcases uJ ax with ⟨cj,h9,_,_,Ij⟩ | ⟨_,ax⟩
     ·obtain ⟨y',Bk,B5⟩:=J cj (by simp [h9]);rw [Ij] at Bk; cases Bk;rcases B5 with ⟨r,path,z,n,uR,cs,rfl,c1,c2,jV,c4⟩ | ⟨v,rfl⟩ | ⟨s,p,m,rfl,c1,_⟩ | ⟨s,m,cs,rfl,_,_,_,cs',c4,kI⟩ | ⟨z,n,cs,rfl,c1⟩ | ⟨cs,rfl,c1,_⟩
      ·exact .ref rfl (.inl ⟨uR,cs,kG hle c2,c4⟩)
      ·exact .bm .lit
      ·exact di.mono hle (iC.bV s _ c1)
      ·exact .ref rfl ⟨.obj cs',by simp [bD,hle s _ c4,ab.at],0,0,cs',.inr rfl,kI⟩
      ·exact .bm c1
      ·exact .bm c1.bm
     ·exact di.mono hle (iC.bV t y ax)
    ·rcases uJ ax with ⟨cj,h9,_,_,Ij⟩ | ⟨_,ax⟩
     ·obtain ⟨y',Bk,B5⟩:=J cj (by simp [h9]);rw [Ij] at Bk; cases Bk;rcases B5 with ⟨r,path,z,n,uR,cs,h,_⟩ | ⟨v,h⟩ | ⟨s,p,m,h,_⟩ | ⟨s,m,cs,h,_⟩ | ⟨z,n,cs,h,_⟩ | ⟨cs,h,_⟩ <;> cases h
     ·exact iC.fy _ _ _ _ _ _ ax
  | false =>
   have e:∀ g:aM,g d=none->dh g S ((k,d,some x)::U)=dh g S U:=λg aO=>by
    funext t;simp only [dh,bk];by_cases aS:d=t
    ·subst aS; rw [if_pos rfl,mF r7,aO]; rfl
    ·rw [if_neg aS]
   rw [e mS aE,e g1 a2];exact aU
theorem Pq (et:pe ops bd=true) {g0:aM}{i j:Nat}{acc dV:Acc}(aC:iK P N ops bd g0 i dV j acc) (cx:mL P N ops bd g0 i dV) (gQ:(acc.filterMap j1).Nodup) (fH:∀ t z q n m new,g0 t≠some (.bL z q n m new)) {listed:Array Bool}(fY:listed.size=ops.size) (aS:Down bd listed)
  {a:Act}{w:World}{I:bb}{Fs:Nat->bb}(bk:cF w I a.tmps (dh g0 (dQ listed) acc) Fs) (bc:a.tmps.size=N.size) {e:Nat × Nat × Option ab}(he:e∈acc) (hk:e.1∈Region.ready .any ops listed) {K:Act->World->Prop}{Q:Exit->Act->World->Prop}
  (dj:∀ b' w' I' b7,b'.defers=a.defers->hC N a.tmps b'.tmps->cF w' I' b'.tmps (dh g0 (dQ (listed.setIfInBounds e.1 true)) acc) b7->kn w I (λc=>∃ t,Fs t c) w' I' (λc=>∃ t,b7 t c)->K b' w'):wpOp P ops Q e.1 K a w:=by
 obtain ⟨fw,lj,xf,_⟩:=ya hk;have zq:=(Array.getElem?_eq_some_iff.1 xf).1;have BD:=Kb et aS hk;obtain ⟨o,DY,a1,EC,jN,b0,gH⟩:=aC.get cx e he;obtain ⟨k,d,r⟩:=e;simp only at *;have hle:oy (dh g0 (λm=>(bd.getD k []).contains m) DY) (dh g0 (dQ listed) acc):=by
  intro t x J;rcases uJ J with ⟨e,he,rfl,El,hex⟩ | ⟨r7,aO⟩
  ·rw [aC.at_mem cx (gH e he),BD e.1 (by simpa using El)];exact hex
  ·rw [mF λe he ab7=>?_]
   ·exact aO
   ·have:=aC.fresh cx e he
    grind
 have e8:∀ z p n m new,r=some (.bL z p n m new)->∀ t bE cE m' c3,dh g0 (dQ listed) acc t≠some (.bL bE p cE m' c3):=by
  intro z p n m new ao t bE cE m' c3 aw;rcases uJ aw with ⟨e,h9,_,El,hex⟩ | ⟨_,aO⟩
  ·obtain ⟨kT,Mf,dn⟩:=e;have:=XF gQ (p:=p) he h9 (by rw [ao]; rfl) (by simp only at hex; rw [hex]; rfl)
   grind
  grind
 have B5:=b0.mono hle e8;have ve:dh g0 (dQ listed) acc d=none:=by
  have:=aC.at_mem cx (A:=dQ listed) he
  grind
 unfold wpOp;simp only [a1];refine B5.sound bk rfl bc EC ve jN λb' w' aF=>?_;obtain ⟨cA,cf,I',b7,dX,qq⟩:=aF;have h7:∀ j,dQ (listed.setIfInBounds k true) j=if j=k then true else dQ listed j:=λj=>DO (by omega)
 have c_:dh g0 (dQ (listed.setIfInBounds k true)) acc=x9 (dh g0 (dQ listed) acc) d r:=by
  funext t;by_cases vm:t=d
  ·subst vm;have h1:=aC.at_mem cx (A:=dQ (listed.setIfInBounds k true)) he;simp only [h7 k,if_true] at h1;rw [h1];cases r with
   | none=>simp only [x9]; exact ve.symm
   | some x=>simp [x9,cV]
  ·have h1:dh g0 (dQ (listed.setIfInBounds k true)) acc t=dh g0 (dQ listed) acc t:=Ds λe h9 het=>by
    rw [h7 e.1,if_neg];intro Va;have:=aC.uniq cx h9 he (.inl Va)
    grind
   rw [h1];cases r with
   | none=>rfl
   | some x=>simp [x9,cV,vm]
 grind
theorem Hk (et:pe ops bd=true) {listed:Array Bool}(fY:listed.size=ops.size) (aS:Down bd listed) {k:Nat}(hk:k∈Region.ready .any ops listed):Down bd (listed.setIfInBounds k true):=by
 obtain ⟨fw,lj,xf,_⟩:=ya hk;have zq:=(Array.getElem?_eq_some_iff.1 xf).1;have BD:=Kb et aS hk;have h7:∀ q,dQ (listed.setIfInBounds k true) q=if q=k then true else dQ listed q:=λq=>DO (by omega)
 intro m hm q bg;rw [h7] at hm ⊢;split
 ·rfl
 ·split at hm
  ·grind
  ·exact aS m hm q bg
theorem iK.entry {g0:aM}{i j:Nat}{acc dV:Acc}(aC:iK P N ops bd g0 i dV j acc) {listed:Array Bool}(aT:∀ k,k<i->(∀ e∈dV,e.1≠k)->dQ listed k=true) {k:Nat}(Ez:k<j) (fw:dQ listed k=false):∃ e∈acc,e.1=k:=by
 rcases Nat.lt_or_ge k i with h | h
 ·rcases Classical.em (∃ e∈dV,e.1=k) with ⟨e,he,aQ⟩ | aQ
  ·exact ⟨e,aC.KB e he,aQ⟩
  grind
 ·exact aC.has k h Ez
theorem ss.sound (et:pe ops bd=true) {i:Nat}{dV:Acc}{g g':aM}(h:ss P N ops bd i dV g g'):mL P N ops bd g i dV->∀ {Q:Exit->Act->World->Prop}(fuel:Nat) (listed:Array Bool) (a:Act) (w:World) (I:bb) (Fs:Nat->bb),hn ops listed<=fuel->listed.size=ops.size->(∀ k,k<i->(∀ e∈dV,e.1≠k)->dQ listed k=true)->(∀ k,i<=k->dQ listed k=false)->Down bd listed ->
  cF w I a.tmps (dh g (dQ listed) dV) Fs->a.tmps.size=N.size->(∀ b' w',h6 N a w I Fs g' b' w'->Q .normal b' w')->wpAny P .any ops Q fuel listed a w:=by
 have start:∀ {g:aM}{i j:Nat}{acc dV:Acc}{listed:Array Bool},iK P N ops bd g i dV j acc->mL P N ops bd g i dV->(∀ k,i<=k->dQ listed k=false)->dh g (dQ listed) acc=dh g (dQ listed) dV:=by
  intro g i j acc dV listed aC cx dU;funext t;by_cases hex:∃ e∈acc,e.2.1=t
  ·obtain ⟨e,he,rfl⟩:=hex;rw [aC.at_mem cx he];rcases aC.ge cx e he with h | h
   ·rw [KI (λx J y ax aQ=>cx.Qm x J y ax (.inr aQ)) h]
   ·rw [dU e.1 h];by_cases Nz:∃ cj∈dV,cj.2.1=e.2.1
    ·obtain ⟨cj,h9,aQ⟩:=Nz;have:=aC.uniq cx (aC.KB cj h9) he (.inr aQ);subst this;have:=cx.lt cj h9;omega
    ·rw [mF λcj h9 aQ=>Nz ⟨cj,h9,aQ⟩,aC.fresh cx e he]; rfl
  ·rw [mF λe he h=>hex ⟨e,he,h⟩,mF λe he h=>hex ⟨e,aC.KB e he,h⟩]
 induction h with
 | @fin i dV g acc aC gQ fH =>
  intro cx Q fuel listed a w I Fs aa fY aT dU aS bk bc dO;rw [<- start aC cx dU] at bk;clear dU;revert listed a w I Fs
  induction fuel with
  | zero =>
   intro listed a w I Fs aa fY aT aS bk bc dO;have hN:∀ k,k<ops.size->dQ listed k=true:=λk hk=>by
    cases ak:dQ listed k with
    | true=>rfl
    | false=>have:=wN (ops:=ops) (listed:=listed) (k:=k) hk ak fY; omega
   refine wpAny_done ?_ (dO _ _ ⟨rfl,hC.refl,I,Fs,?_,kn.refl _ _ _⟩) 0
   ·cases ao:Region.ready .any ops listed with
    | nil=>rfl
    | cons k l =>
     have hk:k∈Region.ready .any ops listed:=by rw [ao]; simp
     obtain ⟨fw,o,a1,_⟩:=ya hk
     grind
   ·have:dh g (dQ listed) acc=dh g (λ_=>true) acc:=funext λt=>Ds λe he _=>hN e.1 ((aC.le cx).2 e he)
    grind
  | succ fuel aU =>
   intro listed a w I Fs aa fY aT aS bk bc dO;by_cases hN:∀ k,k<ops.size->dQ listed k=true
   ·refine wpAny_done ?_ (dO _ _ ⟨rfl,hC.refl,I,Fs,?_,kn.refl _ _ _⟩) _
    ·cases ao:Region.ready .any ops listed with
     | nil=>rfl
     | cons k l =>
      have hk:k∈Region.ready .any ops listed:=by rw [ao]; simp
      obtain ⟨fw,o,a1,_⟩:=ya hk
      grind
    ·have:dh g (dQ listed) acc=dh g (λ_=>true) acc:=funext λt=>Ds λe he _=>hN e.1 ((aC.le cx).2 e he)
     grind
   ·obtain ⟨k0,lK⟩:=Classical.not_forall.1 hN;obtain ⟨Vm,Vn⟩:=Classical.not_imp.1 lK;refine ⟨λao=>absurd ao (Ps et fY k0 Vm (by simpa using Vn)),λk hk=>?_⟩;obtain ⟨fw,lj,xf,_⟩:=ya hk;have zq:=(Array.getElem?_eq_some_iff.1 xf).1;obtain ⟨e,he,rfl⟩:=aC.entry aT zq fw;have U4:=wN (ops:=ops) (listed:=listed) (k:=e.1) zq fw fY;refine Pq et aC cx gQ fH fY aS bk bc he hk λb' w' I' b7 cA cf dX qq=>?_;refine aU _ b' w' I' b7 (by omega) (by simpa using fY) (λm hm dr=>?_) (Hk et fY aS hk) dX (cf.1.trans bc) λa2 hr af=>dO _ _ (h6.trans cA cf qq af)
    grind [DO]
 | @wC i j g g1 g' dV acc U o rs aC gQ fH a1 hw he l8 ga J h1 af av _ WO =>
  intro cx Q fuel listed a w I Fs aa fY aT dU aS bk bc dO;have Ey:j<ops.size:=(Array.getElem?_eq_some_iff.1 a1).1;have w4:∀ k,j<k->k<ops.size->j∈bd.getD k []:=λk hk zq=>by
   grind
  have BO:∀ e∈U,e∈acc/\(bd.getD j []).contains e.1=false:=λe he=>by
   grind
  have fp:(U.map (·.2.1)).Nodup:=by
   rw [ga];exact (List.filter_sublist.map _).nodup (aC.nodup cx)
  have Vd:∀ e∈U,dh g (λm=>(bd.getD j []).contains m) acc e.2.1=none:=λe he=>by
   rw [aC.at_mem cx (BO e he).1,(BO e he).2];rfl
  have Bx:mL P N ops bd g1 (j+1) U:=⟨λe he=>by have:=(aC.le cx).2 e (BO e he).1; omega,λe he=>(h1 e he).1,fp,λe he cj h9 h=>aC.uniq cx (BO e he).1 (BO cj h9).1 h,af⟩;have ab':∀ k,j<=k->dQ listed k=false:=λk hk=>dU k (Nat.le_trans (aC.le cx).1 hk);rw [<- start aC cx dU] at bk;clear dU;revert listed a w I Fs
  induction fuel with
  | zero =>
   intro listed a w I Fs aa fY aT aS bk bc dO dU;have:=wN (ops:=ops) (listed:=listed) (k:=j) Ey (dU j (Nat.le_refl _)) fY;omega
  | succ fuel WN =>
   intro listed a w I Fs aa fY aT aS bk bc dO dU;have eZ:=dU j (Nat.le_refl _);refine ⟨λao=>absurd ao (Ps et fY j Ey eZ),λk hk=>?_⟩;obtain ⟨fw,lj,xf,_⟩:=ya hk;have zq:=(Array.getElem?_eq_some_iff.1 xf).1;have BD:=Kb et aS hk;have h7:∀ q,dQ (listed.setIfInBounds k true) q=if q=k then true else dQ listed q:=λq=>DO (by omega)
   have U4:=wN (ops:=ops) (listed:=listed) (k:=k) (by omega) fw fY;rcases Nat.lt_trichotomy k j with Ez | rfl | Ez
   ·obtain ⟨e,Ny,rfl⟩:=aC.entry aT Ez fw;refine Pq et aC cx gQ fH fY aS bk bc Ny hk λb' w' I' b7 cA cf dX qq=>?_;refine WN _ b' w' I' b7 (by omega) (by simpa using fY) (λm hm dr=>?_) (Hk et fY aS hk) dX (cf.1.trans bc) (λa2 hr af=>dO _ _ (h6.trans cA cf qq af)) λm hm=>?_
    ·grind
    grind
   ·have Td:=Zg (A:=λm=>(bd.getD k []).contains m) (S:=dQ listed) aC cx ga λe he et=>BD e.1 (by simpa using et);have VP:∀ r:Place,rs r->dh g (λm=>(bd.getD k []).contains m) acc r.root≠none:=λr ao=>by
     rw [mF]
     ·grind
     ·intro e he aQ;have:=aC.fresh cx e he
      grind
    have U':=Mq (S:=dQ listed) he VP U J (λe he=>⟨Vd e he,h1 e he⟩) fp;have hle:oy (dh g (λm=>(bd.getD k []).contains m) acc) (dh g (dQ listed) acc):=by
     intro t x J;rcases uJ J with ⟨e,he,rfl,El,hex⟩ | ⟨r7,aO⟩
     ·rw [aC.at_mem cx he,BD e.1 (by simpa using El)]; exact hex
     grind [mF]
    unfold wpOp;simp only [a1,(iA.mono hle hw).sound bk,if_true];refine .inl (U' w I a.tmps Fs (by rw [<- Td]; exact bk) a rfl bc _ _ λb' w' aF _ _=>?_);obtain ⟨cA,cf,I',b7,dX,qq⟩:=aF;refine WO Bx fuel (listed.setIfInBounds k true) b' w' I' b7 (by omega) (by simpa using fY) (λm hm dr=>?_) (λm hm=>?_) (Hk et fY aS hk) ?_ (cf.1.trans bc) λa2 hr af=>dO _ _ (h6.trans cA cf qq af)
    ·rw [h7];split
     ·rfl
     ·rename_i acv;cases vi:dQ listed m with
      | true=>rfl
      | false =>
       exfalso;obtain ⟨e,Ny,rfl⟩:=aC.entry aT (show m<k by omega) vi
       grind
    ·grind
    ·have:dh g1 (dQ (listed.setIfInBounds k true)) U=dh g1 (dQ listed) U:=funext λt=>Ds λe he _=>by
      grind
     grind
   grind
end
end Go.Own
namespace Go.Own
open Go
section
variable {P:Program}{N:c6}
def gb (P:Program) (N:c6) (c:Code) (g:aM) (e:Exit) (g':aM):Prop :=
 ∀ ⦃Q:Exit->Act->World->Prop⦄ ⦃a:Act⦄ ⦃w:World⦄ ⦃I:bb⦄ ⦃Fs:Nat->bb⦄,cF w I a.tmps g Fs->a.tmps.size=N.size->(∀ b' w',h6 N a w I Fs g' b' w'->Q e b' w')->c.wp P Q a w
theorem gb.skip {g:aM}:gb P N .skip g .normal g:=λ_ _ _ _ _ bk _ dO=>wp_skip (dO _ _ ⟨rfl,hC.refl,_,_,bk,kn.refl _ _ _⟩)
theorem gb.ret {g:aM}:gb P N .ret g .ret g:=λ_ _ _ _ _ bk _ dO=>wp_ret (dO _ _ ⟨rfl,hC.refl,_,_,bk,kn.refl _ _ _⟩)
theorem gb.exit {g:aM}{id:Nat}:gb P N (.exit id) g (.exit id) g:=λ_ _ _ _ _ bk _ dO=>wp_exit (dO _ _ ⟨rfl,hC.refl,_,_,bk,kn.refl _ _ _⟩)
theorem gb.seq {x y:Code}{g g1 g':aM}{e:Exit}(h1:gb P N x g .normal g1) (af:gb P N y g1 e g'):gb P N (.seq x y) g e g':=by
 intro Q a w I Fs bk bc dO;refine wp_seq (h1 bk bc λaE ic aF=>?_);obtain ⟨cA,cf,I',b7,dX,b0⟩:=aF;exact af dX (cf.1.trans bc) λa2 hr od=>dO _ _ (h6.trans cA cf b0 od)
theorem gb.cond {c:Operand}{x y:Code}{g g':aM}{e:Exit}{b:Bool}(aa:bs g c=some (.lit (.bool b))) (h:gb P N (if b then x else y) g e g'):gb P N (.cond c x y) g e g':=by
 intro Q a w I Fs bk bc dO;exact wp_cond (t:=b) (ke bk aa rfl).hB.1 (h bk bc dO)
theorem gb.Ma {c:Operand}{x y:Code}{g g':aM}{e:Exit}(aa:bs g c=some (.lit (.bool true))) (h:gb P N x g e g'):gb P N (.cond c x y) g e g':=gb.cond aa h
theorem gb.L9 {c:Operand}{x y:Code}{g g':aM}{e:Exit}(aa:bs g c=some (.lit (.bool false))) (h:gb P N y g e g'):gb P N (.cond c x y) g e g':=gb.cond aa h
theorem gb.block {id:Nat}{c:Code}{g g':aM}(h:gb P N c g .normal g'):gb P N (.block id c) g .normal g' :=
 λ_ _ _ _ _ bk bc dO=>wp_block (h bk bc λaE ic aF=>dO aE ic aF)
def DN (P:Program) (c:Code) (Q:Exit->Act->World->Prop) (a:Act) (w:World):Prop :=
 ∀ (b:Frame) (k:List Item) (cs:List Frame),∃ e b' w',Q e b' w'/\Arrives P (lone (b.at a (.code c::.inLoop c::k)) cs w) b k cs e b' w'
def td (P:Program) (N:c6) (c:Code) (g:aM) (e:Exit) (g':aM):Prop :=
 ∀ ⦃Q:Exit->Act->World->Prop⦄ ⦃a:Act⦄ ⦃w:World⦄ ⦃I:bb⦄ ⦃Fs:Nat->bb⦄,cF w I a.tmps g Fs->a.tmps.size=N.size->(∀ b' w',h6 N a w I Fs g' b' w'->Q e b' w')->DN P c Q a w
theorem JE {c:Code}{Q:Exit->Act->World->Prop}{a:Act}{w:World}(h:c.wp P (Exit.then (DN P c Q) Q) a w):DN P c Q a w:=by
 intro b k cs;obtain ⟨e,A7,Dx,bg,ka⟩:=h b (.inLoop c::k) cs;cases e with
 | normal =>
  obtain ⟨Te,RK,Zl,VK,Ux⟩:=bg b k cs;exact ⟨Te,RK,Zl,VK,.of_steps (Steps.trans ka (.one step_inLoop)) Ux⟩
 | exit id=>exact ⟨_,A7,Dx,bg,.pass (x:=.inLoop c) rfl (λ_ _=>.inl (by simp)) ka⟩
 | goto l=>exact ⟨_,A7,Dx,bg,.pass (x:=.inLoop c) rfl (λ_ _=>.inl (by simp)) ka⟩
 | ret=>exact ⟨_,A7,Dx,bg,.pass (x:=.inLoop c) rfl (λ_ _=>.inl (by simp)) ka⟩
 | panic b9=>exact ⟨_,A7,Dx,bg,.pass (x:=.inLoop c) rfl (λ_ _=>.inl (by simp)) ka⟩
 | outgrown=>exact ⟨_,A7,Dx,bg,.pass (x:=.inLoop c) rfl (λ_ _=>.inl (by simp)) ka⟩
theorem gb.loop {c:Code}{g g':aM}{e:Exit}(h:td P N c g e g'):gb P N (.loop c) g e g':=by
 intro Q a w I Fs bk bc dO b k cs;obtain ⟨e,b',w',bg,ka⟩:=h bk bc dO b k cs;exact ⟨e,b',w',bg,.of_steps (.one step_loop) ka⟩
theorem td.step {c:Code}{g g1 g':aM}{e:Exit}(h1:gb P N c g .normal g1) (af:td P N c g1 e g'):td P N c g e g':=by
 intro Q a w I Fs bk bc dO;refine JE (h1 bk bc λaE ic aF=>?_);obtain ⟨cA,cf,I',b7,dX,b0⟩:=aF;exact af dX (cf.1.trans bc) λa2 hr od=>dO _ _ (h6.trans cA cf b0 od)
theorem td.out {c:Code}{g g':aM}{e:Exit}(h:gb P N c g e g') (he:e≠.normal):td P N c g e g':=by
 intro Q a w I Fs bk bc dO;refine JE (h bk bc λaE ic aF=>?_);cases e with
 | normal=>exact absurd rfl he
 | _=>exact dO _ _ aF
theorem gb.region {id:Nat}{ops:Array Oper}{g g':aM}(h:oA P N ops (List.range ops.size) g g'):gb P N (.region id ops false) g .normal g' :=
 λ_ _ _ _ _ bk bc dO=>wp_region (h.sound bk bc dO)
theorem gb.draw {id:Nat}{ops:Array Oper}{bd:List (List Nat)}{g g':aM}(hm:P.follows .mixedOrders=true) (et:pe ops bd=true) (h:ss P N ops bd 0 [] g g'):gb P N (.region id ops true) g .normal g':=by
 intro Q a w I Fs bk bc dO;refine wp_region_any hm ?_;have dX:cF w.drew I a.tmps g Fs:=bk.world (λ_ _ _=>rfl) (λ_ _=>rfl) (Nat.le_refl _);have hN:∀ k,dQ (Array.replicate ops.size false) k=false:=by
  intro k;unfold dQ;rcases Nat.lt_or_ge k ops.size with h | h
  ·simp [h]
  grind
 refine h.sound et .nil ops.size (Array.replicate ops.size false) a w.drew I Fs ?_ (by simp) (λk hk=>by omega) (λk _=>hN k) (λk hk=>by rw [hN] at hk; cases hk) dX bc λb' w' aF=>dO _ _ ?_
 ·grind [hn]
 ·obtain ⟨cA,cf,I',b7,h8,b0⟩:=aF;exact ⟨cA,cf,I',b7,h8,⟨⟨b0.eT.os,b0.eT.tape,b0.eT.output,b0.eT.size,b0.eT.block,b0.eT.dN,Nat.le_trans (Nat.le_succ _) b0.eT.wS⟩,b0.more,b0.new,b0.own⟩⟩
inductive pd:ab->ab->Prop
 | refl {x:ab}:pd x x
 | dead {x:ab}(h:kE x\/cU x):pd x .dead
 | pN {z:Nat}:pd .aJ (.own z 0 [])
 | pM {z:Nat}:pd .aJ (.bj z 0 [])
 | obj {cs cs':List ab}(ak:cs'.length=cs.length) (h:∀ (k:Nat) (x y:ab),cs[k]?=some x->cs'[k]?=some y->pd x y):pd (.obj cs) (.obj cs')
 | own {z n:Nat}{cs cs':List ab}(ak:cs'.length=cs.length) (h:∀ (k:Nat) (x y:ab),cs[k]?=some x->cs'[k]?=some y->pd x y):pd (.own z n cs) (.own z n cs')
theorem R.eY {w:World}{I:bb}{ρ:ab->Value->Prop}{x x':ab}(h:pd x x'):∀ {v:Value}{F:bb},R w I ρ x v F->∃ c9,R w I ρ x' v c9/\∀ c,c9 c->F c:=by
 induction h with
 | refl=>exact λaZ=>⟨_,aZ,λ_ h=>h⟩
 | dead=>exact λaZ=>⟨cy,.dead λ_ h=>h,λ_ h=>h.elim⟩
 | pN =>
  intro v F aZ;rw [aZ.se];exact ⟨cy,.own (e:=0) (us:=[]) (Fs:=λ_=>cy) ⟨by simp,.inl ⟨rfl,rfl⟩⟩ rfl (by simp) (by simp) (λ_ _ _ _ _ h=>h.elim) (λ_ _ _ h=>h.elim) λc=>⟨λh=>h.elim,λh=>h.elim (λh=>by simp [Value.ownBlock] at h) λ⟨_,_,h⟩=>h⟩,λ_ h=>h.elim⟩
 | pM=>intro v F aZ; rw [aZ.se]; exact ⟨cy,.hG λ_ h=>h,λ_ h=>h.elim⟩
 | @obj cs cs' ak _ aU =>
  intro v F aZ;cases aZ with
  | ref J=>simp [ab.isRef] at J
  | @obj _ b e arr bM _ a1 hV h1 ao aS av aN =>
   have:∀ k,∃ te:bb,k<cs.length->(∀ (x:ab) (u:Value),cs'[k]?=some x->arr[k]?=some u->R w I ρ x u te)/\∀ c,te c->bM k c:=by
    intro k;by_cases hk:k<cs.length
    ·have J:=List.getElem?_eq_getElem hk;have ax:cs'[k]?=some (cs'[k]'(by omega)):=List.getElem?_eq_getElem (by omega);have hu:arr[k]?=some (arr[k]'(by omega)):=Array.getElem?_eq_getElem (by omega);obtain ⟨c9,h1,af⟩:=aU k _ _ J ax (ao k _ _ J hu);refine ⟨c9,λ_=>⟨λx u gf jO=>?_,af⟩⟩
     grind
    ·exact ⟨cy,λh=>absurd h hk⟩
   obtain ⟨te,tH⟩:=Classical.axiomOfChoice this;refine ⟨_,.obj (Fs:=te) a1 (by omega) h1 (λk x u J hu=>(tH k (by rw [<- ak]; exact (List.getElem?_eq_some_iff.1 J).1)).1 x u J hu) (λj k c ah hk h aQ=>aS j k c (by omega) (by omega) ((tH j (by omega)).2 c h) ((tH k (by omega)).2 c aQ)) (λk hk h=>av k (by omega) ((tH k (by omega)).2 b h)) (λc=>Iff.rfl),λc aa=>?_⟩
   grind
 | @own z n cs cs' ak _ aU =>
  intro v F aZ;cases aZ with
  | ref J=>simp [ab.isRef] at J
  | @own _ _ _ _ e us bM _ a1 hV h1 ao aS av aN =>
   have:∀ k,∃ te:bb,k<cs.length->(∀ (x:ab) (u:Value),cs'[k]?=some x->us[k]?=some u->R w I ρ x u te)/\∀ c,te c->bM k c:=by
    intro k;by_cases hk:k<cs.length
    ·have J:=List.getElem?_eq_getElem hk;have ax:cs'[k]?=some (cs'[k]'(by omega)):=List.getElem?_eq_getElem (by omega);have hu:us[k]?=some (us[k]'(by omega)):=List.getElem?_eq_getElem (by omega);obtain ⟨c9,h1,af⟩:=aU k _ _ J ax (ao k _ _ J hu);refine ⟨c9,λ_=>⟨λx u gf jO=>?_,af⟩⟩
     grind
    ·exact ⟨cy,λh=>absurd h hk⟩
   obtain ⟨te,tH⟩:=Classical.axiomOfChoice this;refine ⟨_,.own (Fs:=te) a1 (by omega) h1 (λk x u J hu=>(tH k (by rw [<- ak]; exact (List.getElem?_eq_some_iff.1 J).1)).1 x u J hu) (λj k c ah hk h aQ=>aS j k c (by omega) (by omega) ((tH j (by omega)).2 c h) ((tH k (by omega)).2 c aQ)) (λk c hk h=>av k c (by omega) ((tH k (by omega)).2 c h)) (λc=>Iff.rfl),λc aa=>?_⟩
   grind
structure ko (g1 g2:aM):Prop where
 sub:∀ t x,g2 t=some x->∃ y,g1 t=some y/\pd y x
 bV:∀ t x,g2 t=some x->di g2 x
 fy:∀ t z q n m new,g2 t≠some (.bL z q n m new)
theorem cF.eY {w:World}{I:bb}{T:Array Value}{g1 g2:aM}{Fs:Nat->bb}(h:cF w I T g1 Fs) (hk:ko g1 g2):∃ b7,cF w I T g2 b7/\∀ t c,b7 t c->Fs t c:=by
 have:∀ t,∃ c9:bb,(∀ x,g2 t=some x->∃ v,T[t]?=some v/\R w I (dT w T g2) x v c9)/\(∀ c,c9 c->Fs t c)/\(g2 t=none->∀ c,¬ c9 c):=by
  intro t;cases J:g2 t with
  | none=>exact ⟨cy,by simp,λ_ h=>h.elim,λ_ _ h=>h⟩
  | some x =>
   obtain ⟨y,ax,hw⟩:=hk.sub t x J;obtain ⟨v,hv,aZ⟩:=h.mE.rel t y ax;have la:∀ z q n m new,y≠.bL z q n m new:=by
    rintro z q n m new rfl;cases hw with
    | refl=>exact hk.fy _ _ _ _ _ _ J
    | dead bY=>rcases bY with bY | bY <;> cases bY
   obtain ⟨c9,jL,po⟩:=R.eY hw (aZ.gI la);exact ⟨c9,λx' gf=>by cases gf; exact ⟨v,hv,jL.bV (hk.bV t x J)⟩,po,by simp⟩
 obtain ⟨b7,pq⟩:=Classical.axiomOfChoice this;refine ⟨b7,⟨λt x J=>?_,λt aw=>(pq t).2.2 aw,λt t' c h1 af=>h.eJ _ _ _ ((pq t).2.1 c h1) ((pq t').2.1 c af),λt c aa=>h.bj _ _ ((pq t).2.1 c aa),h.lt,λt t' z p n m new _ _ _ _ h1=>absurd h1 (hk.fy _ _ _ _ _ _)⟩,λt=>(pq t).2.1⟩;obtain ⟨v,hv,aZ⟩:=(pq t).1 x J;exact ⟨v,hv,.tree aZ⟩
theorem gb.weaken {c:Code}{g g1 g':aM}{e:Exit}(hk:ko g g1) (h:gb P N c g1 e g'):gb P N c g e g':=by
 intro Q a w I Fs bk bc dO;obtain ⟨b7,dX,gH⟩:=bk.eY hk;exact h dX bc λb' w' aF=>dO _ _ (h6.trans rfl hC.refl ⟨Fr.refl _ _,λ_ h=>h,λ_ h=>.inl h,λc ⟨t,aa⟩=>.inl ⟨t,gH t c aa⟩⟩ aF)
theorem td.weaken {c:Code}{g g1 g':aM}{e:Exit}(hk:ko g g1) (h:td P N c g1 e g'):td P N c g e g':=by
 intro Q a w I Fs bk bc dO;obtain ⟨b7,dX,gH⟩:=bk.eY hk;exact h dX bc λb' w' aF=>dO _ _ (h6.trans rfl hC.refl ⟨Fr.refl _ _,λ_ h=>h,λ_ h=>.inl h,λc ⟨t,aa⟩=>.inl ⟨t,gH t c aa⟩⟩ aF)
end
end Go.Own
namespace Go.Own
open Go
inductive A3 (P:Program) (g:aM):ResultVar->ab->Prop
 | tmp {t:Nat}{y:ab}(h:bs g (.tmp t)=some y):A3 P g (.tmp t) y
 | cell {a:Nat}{t ty:TypeId}{y:ab}(h:c7 P g (.load t (.tmp a)) ty y):A3 P g (.cell a t) y
inductive rL (P:Program) (g:aM):List ResultVar->List ab->Prop
 | nil:rL P g [] []
 | cons {r:ResultVar}{rs:List ResultVar}{y:ab}{ys:List ab}(h:A3 P g r y) (aw:rL P g rs ys):rL P g (r::rs) (y::ys)
def qI:List ab->ab
 | [x]=>x
 | l=>.bW l
def yb:List Value->Value
 | [x]=>x
 | l=>.tuple l.toArray
def vY (tmps:Array Value):ResultVar->Sem Value
 | .tmp t=>pure (tmps.getD t undef)
 | .cell a t=>do loadVar t (<- asAddr (tmps.getD a undef))
section
variable {P:Program}{w:World}{I:bb}{g:aM}{Fs:Nat->bb}
theorem A3.run {a:Act}(h:cF w I a.tmps g Fs) {r:ResultVar}{y:ab}(ao:A3 P g r y):∃ v,(vY a.tmps r).run P w=.ok v w/\R w I (dT w a.tmps g) y v cy:=by
 cases ao with
 | @tmp t y h1=>exact ⟨_,rfl,ke h h1 rfl⟩
 | @cell a0 t ty y h1 =>
  obtain ⟨v, hv, aZ⟩ := c7.sound h rfl (o := { dst := none, op := .load t (.tmp a0), type := ty, pos := "", after := #[], guard := none }) h1;refine ⟨v,?_,aZ⟩;have he:a.eval (.tmp a0)=a.tmps.getD a0 undef:=rfl;simp only [execOp,he] at hv;cases aa:a.tmps.getD a0 undef with
  | pointer ad =>
   cases ad with
   | some ad =>
    rw [aa] at hv;simp only [Instr.loadAt,Instr.sureAddr] at hv;simp only [vY,aa,asAddr];have au:(pure ad >>= λx=>loadVar t x:Sem Value)=loadVar t ad:=by simp
    rw [au];revert hv;generalize bg:loadVar t ad=q;intro hv;simp [bg] at hv;cases EH:q.run P w with
    | ok x hr=>rw [EH] at hv; simp at hv; rw [hv.1,hv.2]
    | halt e hr=>rw [EH] at hv; simp at hv
   | none=>rw [aa] at hv; simp [Instr.loadAt,Instr.sureAddr] at hv
  | _=>rw [aa] at hv; simp [Instr.loadAt,Instr.sureAddr] at hv
theorem PG {f:ResultVar->Sem Value}:∀ (l:List ResultVar) (vs:List Value),l.length=vs.length->(∀ (k:Nat) (r:ResultVar) (v:Value),l[k]?=some r->vs[k]?=some v->(f r).run P w=.ok v w)->(l.mapM f).run P w=.ok vs w
 | [],[],_,_=>rfl
 | r::l,v::vs,ak,h=>by
  have aR:=h 0 r v rfl rfl;have h1:=PG l vs (by simpa using ak) λk r v ao hv=>h (k+1) r v (by simpa using ao) (by simpa using hv);simp [List.mapM_cons,aR,h1]
 | [],_::_,ak,_=>by simp at ak
 | _::_,[],ak,_=>by simp at ak
theorem Yd {fn:Func}{tmps:Array Value}{vs:List Value}(ak:fn.results.toList.length=vs.length) (h:∀ (k:Nat) (r:ResultVar) (v:Value),fn.results.toList[k]?=some r->vs[k]?=some v->(vY tmps r).run P w=.ok v w):(results fn tmps).run P w=.ok (yb vs) w:=by
 have h1:=PG fn.results.toList vs ak h;have af:fn.results.mapM (vY tmps)=List.toArray <$> fn.results.toList.mapM (vY tmps):=Array.mapM_eq_mapM_toList;have aI:(fn.results.mapM (vY tmps)).run P w=.ok vs.toArray w:=by rw [af]; simp [h1]
 have bK:results fn tmps=(do let vs <- fn.results.mapM (vY tmps); pure (if h:vs.size=1 then vs[0] else .tuple vs)):=by
  unfold results;congr 1
 rw [bK];simp only [Sem.run_bind,aI]
 match vs with
 | []=>rfl
 | [x]=>rfl
 | x::y::l=>simp [yb]
theorem rL.length {g:aM}{rs:List ResultVar}{ys:List ab}(h:rL P g rs ys):rs.length=ys.length:=by
 induction h with
 | nil=>rfl
 | cons _ _ aU=>simp [aU]
theorem rL.run {a:Act}(h:cF w I a.tmps g Fs) {rs:List ResultVar}{ys:List ab}(ao:rL P g rs ys):∃ vs:List Value,rs.length=vs.length/\(∀ (k:Nat) (r:ResultVar) (v:Value),rs[k]?=some r->vs[k]?=some v->(vY a.tmps r).run P w=.ok v w) /\
  ∀ (k:Nat) (y:ab) (v:Value),ys[k]?=some y->vs[k]?=some v->R w I (dT w a.tmps g) y v cy:=by
 induction ao with
 | nil=>exact ⟨[],rfl,by simp,by simp⟩
 | cons h1 _ aU =>
  obtain ⟨v,hv,aZ⟩:=h1.run h;obtain ⟨vs,ak,af,aI⟩:=aU;refine ⟨v::vs,by simp [ak],λk r u ao hu=>?_,λk y u ax hu=>?_⟩
  ·cases k with
   | zero=>simp at ao hu; subst ao hu; exact hv
   | succ k=>exact af k r u (by simpa using ao) (by simpa using hu)
  ·cases k with
   | zero=>simp at ax hu; subst ax hu; exact aZ
   | succ k=>exact aI k y u (by simpa using ax) (by simpa using hu)
theorem Hand.qI {ρ:ab->Value->Prop}{Fs:Nat->bb}{xs:List ab}{vs:List Value}{dD:Nat->bb}(h:Hand w I ρ Fs xs vs dD) (aF:∀ x∈xs,cU x) (ρ':ab->Value->Prop):R w I ρ' (qI xs) (yb vs) (λc=>∃ k,k<xs.length/\dD k c)/\cU (qI xs):=by
 have bW:R w I ρ' (.bW xs) (.tuple vs.toArray) (λc=>∃ k,k<xs.length/\dD k c) :=
  .bW (by simpa using h.len) (λk x u J hu=>(h.rel k x u J (by simpa using hu)).bm (aF x (List.mem_of_getElem? J))) h.eJ λc=>Iff.rfl
 match xs,vs,h,aF,bW with
 | [],[],_,_,bW=>exact ⟨bW,.bW (by simp)⟩
 | [x],[v],h,aF,_ =>
  refine ⟨((h.rel 0 x v rfl rfl).bm (aF x (by simp))).y_ λc=>⟨λaa=>⟨0,by simp,aa⟩,λ⟨k,hk,aa⟩=>?_⟩,aF x (by simp)⟩;have:k=0:=by simpa using hk
  subst this; exact aa
 | x::y::l,v::u::m,_,aF,bW=>exact ⟨bW,.bW aF⟩
 | [],_::_,h,_,_=>have:=h.len; simp at this
 | _::_,[],h,_,_=>have:=h.len; simp at this
 | [_],_::_::_,h,_,_=>have:=h.len; simp at this
 | _::_::_,[_],h,_,_=>have:=h.len; simp at this
structure Leaves (P:Program) (N:c6) (rs:List ResultVar) (g':aM) (n:Nat) (outs:List (Option ab)) (res:ab):Prop where
 ex:∃ ys xs g1,rL P g' rs ys/\Take g' ys xs g1/\res=qI xs/\∀ (k:Nat) (x:ab),outs[k]?=some (some x)->g1 k=some x/\cU x/\k∈N.pins
 len:outs.length=n
theorem cF.more {T:Array Value}(h:cF w I T g Fs) {T':Array Value}(dL:∀ t,g t≠none->T'[t]?=T[t]?):cF w I T' g Fs:=by
 refine ⟨λt x J=>?_,h.kU,h.eJ,h.bj,h.lt,h.rq⟩;obtain ⟨u,hu,aZ⟩:=h.rel t x J;exact ⟨u,by rw [dL t (by rw [J]; simp)]; exact hu,h.wV dL (λ_ _ _=>rfl) (λ_ _=>rfl) (λ_ h=>h) (λ_ _ h=>h) aZ λ_ _=>rfl⟩
end
end Go.Own
namespace Go.Own
open Go
section
variable {P:Program}{N:c6}
def W (P:Program) (N:c6) (c:Code) (g:aM) (Φ:Exit->aM->Prop):Prop :=
 ∀ ⦃Q:Exit->Act->World->Prop⦄ ⦃a:Act⦄ ⦃w:World⦄ ⦃I:bb⦄ ⦃Fs:Nat->bb⦄,cF w I a.tmps g Fs->a.tmps.size=N.size->(∀ e g' b' w',Φ e g'->h6 N a w I Fs g' b' w'->Q e b' w')->c.wp P Q a w
def o1 (Ψ:aM->Prop) (Φ:Exit->aM->Prop):Exit->aM->Prop
 | .normal,g=>Ψ g
 | e,g=>Φ e g
def mb (id:Nat) (Φ:Exit->aM->Prop):Exit->aM->Prop
 | .exit k,g=>if k=id then Φ .normal g else Φ (.exit k) g
 | e,g=>Φ e g
theorem h6.refl {a:Act}{w:World}{I:bb}{g:aM}{Fs:Nat->bb}(h:cF w I a.tmps g Fs):h6 N a w I Fs g a w:=⟨rfl,hC.refl,_,_,h,kn.refl _ _ _⟩
theorem gb.w {c:Code}{g g':aM}{e:Exit}{Φ:Exit->aM->Prop}(h:gb P N c g e g') (nO:Φ e g'):W P N c g Φ :=
 λ_ _ _ _ _ bk bc dO=>h bk bc λb' w' aF=>dO _ _ b' w' nO aF
theorem W.mono {c:Code}{g:aM}{Φ ow:Exit->aM->Prop}(h:W P N c g Φ) (nO:∀ e g',Φ e g'->ow e g'):W P N c g ow :=
 λ_ _ _ _ _ bk bc dO=>h bk bc λ_ _ b' w' h1 aF=>dO _ _ b' w' (nO _ _ h1) aF
theorem W.skip {g:aM}{Φ:Exit->aM->Prop}(h:Φ .normal g):W P N .skip g Φ:=gb.skip.w h
theorem W.ret {g:aM}{Φ:Exit->aM->Prop}(h:Φ .ret g):W P N .ret g Φ:=gb.ret.w h
theorem W.exit {g:aM}{id:Nat}{Φ:Exit->aM->Prop}(h:Φ (.exit id) g):W P N (.exit id) g Φ:=gb.exit.w h
theorem W.seq {x y:Code}{g:aM}{Φ:Exit->aM->Prop}(h:W P N x g (o1 (λg1=>W P N y g1 Φ) Φ)):W P N (.seq x y) g Φ:=by
 intro Q a w I Fs bk bc dO;refine wp_seq (h bk bc λe g1 aE ic h1 aF=>?_);cases e with
 | normal =>
  obtain ⟨cA,cf,I',b7,dX,b0⟩:=aF;exact h1 dX (cf.1.trans bc) λtB g2 a2 hr af od=>dO _ _ _ _ af (h6.trans cA cf b0 od)
 | _=>exact dO _ _ _ _ h1 aF
theorem W.cond {c:Operand}{x y:Code}{g:aM}{Φ:Exit->aM->Prop}{b:Bool}(aa:bs g c=some (.lit (.bool b))) (h:W P N (if b then x else y) g Φ):W P N (.cond c x y) g Φ :=
 λ_ _ _ _ _ bk bc dO=>wp_cond (t:=b) (ke bk aa rfl).hB.1 (h bk bc dO)
theorem W.Ma {c:Operand}{x y:Code}{g:aM}{Φ:Exit->aM->Prop}(aa:bs g c=some (.lit (.bool true))) (h:W P N x g Φ):W P N (.cond c x y) g Φ:=W.cond aa h
theorem W.L9 {c:Operand}{x y:Code}{g:aM}{Φ:Exit->aM->Prop}(aa:bs g c=some (.lit (.bool false))) (h:W P N y g Φ):W P N (.cond c x y) g Φ:=W.cond aa h
theorem W.block {id:Nat}{c:Code}{g:aM}{Φ:Exit->aM->Prop}(h:W P N c g (mb id Φ)):W P N (.block id c) g Φ:=by
 intro Q a w I Fs bk bc dO;refine wp_block (h bk bc λe g1 aE ic h1 aF=>?_);cases e with
 | exit k =>
  have af:if k=id then Φ .normal g1 else Φ (.exit k) g1:=h1
  grind [Exit.inBlock]
 | _=>exact dO _ _ _ _ h1 aF
def pc (P:Program) (N:c6) (c:Code) (g:aM) (Φ:Exit->aM->Prop):Prop :=
 ∀ ⦃Q:Exit->Act->World->Prop⦄ ⦃a:Act⦄ ⦃w:World⦄ ⦃I:bb⦄ ⦃Fs:Nat->bb⦄,cF w I a.tmps g Fs->a.tmps.size=N.size->(∀ e g' b' w',Φ e g'->h6 N a w I Fs g' b' w'->Q e b' w')->DN P c Q a w
theorem W.loop {c:Code}{g:aM}{Φ:Exit->aM->Prop}(h:pc P N c g Φ):W P N (.loop c) g Φ:=by
 intro Q a w I Fs bk bc dO b k cs;obtain ⟨e,b',w',bg,ka⟩:=h bk bc dO b k cs;exact ⟨e,b',w',bg,.of_steps (.one step_loop) ka⟩
theorem pc.step {c:Code}{g:aM}{Φ:Exit->aM->Prop}(h:W P N c g (o1 (λg1=>pc P N c g1 Φ) Φ)):pc P N c g Φ:=by
 intro Q a w I Fs bk bc dO;refine JE (h bk bc λe g1 aE ic h1 aF=>?_);cases e with
 | normal =>
  obtain ⟨cA,cf,I',b7,dX,b0⟩:=aF;exact h1 dX (cf.1.trans bc) λtB g2 a2 hr af od=>dO _ _ _ _ af (h6.trans cA cf b0 od)
 | _=>exact dO _ _ _ _ h1 aF
theorem W.weaken {c:Code}{g g1:aM}{Φ:Exit->aM->Prop}(hk:ko g g1) (h:W P N c g1 Φ):W P N c g Φ:=by
 intro Q a w I Fs bk bc dO;obtain ⟨b7,dX,gH⟩:=bk.eY hk;exact h dX bc λe g' b' w' h1 aF=>dO _ _ _ _ h1 (h6.trans rfl hC.refl ⟨Fr.refl _ _,λ_ h=>h,λ_ h=>.inl h,λc ⟨t,aa⟩=>.inl ⟨t,gH t c aa⟩⟩ aF)
theorem pc.weaken {c:Code}{g g1:aM}{Φ:Exit->aM->Prop}(hk:ko g g1) (h:pc P N c g1 Φ):pc P N c g Φ:=by
 intro Q a w I Fs bk bc dO;obtain ⟨b7,dX,gH⟩:=bk.eY hk;exact h dX bc λe g' b' w' h1 aF=>dO _ _ _ _ h1 (h6.trans rfl hC.refl ⟨Fr.refl _ _,λ_ h=>h,λ_ h=>.inl h,λc ⟨t,aa⟩=>.inl ⟨t,gH t c aa⟩⟩ aF)
theorem W.out {c:Code}{g:aM}{Φ ow:Exit->aM->Prop}(h:W P N c g Φ) (nO:∀ e g',Φ e g'->∃ g2,ko g' g2/\ow e g2):W P N c g ow:=by
 intro Q a w I Fs bk bc dO;refine h bk bc λe g' b' w' h1 aF=>?_;obtain ⟨g2,hk,af⟩:=nO e g' h1;obtain ⟨cA,cf,I',b7,dX,b0⟩:=aF;obtain ⟨iY,h8,gH⟩:=dX.eY hk;exact dO _ _ _ _ af ⟨cA,cf,I',iY,h8,b0.trans ⟨Fr.refl _ _,λ_ h=>h,λ_ h=>.inl h,λc ⟨t,aa⟩=>.inl ⟨t,gH t c aa⟩⟩⟩
def Lg (P:Program) (N:c6) (ops:Array Oper) (is:List Nat) (g:aM) (K:aM->Prop):Prop:=∃ g',oA P N ops is g g'/\K g'
theorem W.region {id:Nat}{ops:Array Oper}{g:aM}{Φ:Exit->aM->Prop}(h:Lg P N ops (List.range ops.size) g (Φ .normal)):W P N (.region id ops false) g Φ:=by
 obtain ⟨g',ao,nO⟩:=h;exact (gb.region ao).w nO
theorem bT.Xh {f:FuncId}{fn:Func}{c:Code}{args:List ab}{outs:List (Option ab)}{res:ab}{N:c6}(aW:P.funcs[f]?=some fn) (av:fn.body=some c) (bc:fn.ntmps=N.size) (aP:args.length<=N.size)
  (hlen:outs.length=args.length) (hw:W P N c (qa args) λe g'=>(e=.normal\/e=.ret)/\Leaves P N fn.results.toList g' args.length outs res):bT P f args outs res:=by
 refine ⟨hlen,λw I vs Fs acI bk=>calls_of_wp aW av ?_⟩;have fY:({ tmps:=vs.toArray++Array.replicate (fn.ntmps - vs.toArray.size) undef,defers:=[] }:Act).tmps.size=N.size:=by
  grind
 have ob:∀ t,t<vs.length->(vs.toArray++Array.replicate (fn.ntmps - vs.toArray.size) undef)[t]?=vs.toArray[t]?:=by
  grind
 refine hw (bk.more (T':=vs.toArray++Array.replicate (fn.ntmps - vs.toArray.size) undef) λt aw=>ob t ?_) fY λe g' b' w' ⟨he,a1⟩ aF=>?_
 ·grind [qa]
 obtain ⟨aS,hold,I',b7,dX,b0⟩:=aF;obtain ⟨ys,xs,g1,N2,aw,rfl,r7⟩:=a1.ex;obtain ⟨us,oe,hP,mU⟩:=N2.run dX;have EP:ys.length=us.length:=by rw [<- N2.length,oe]
 obtain ⟨f_,dD,jc,iL,hN⟩:=aw.sound dX.mE (⟨EP,λk x u J hu=>(mU k x u J hu).frame (λ_ _=>rfl) (λ_ h=>h) (λ_ _ h=>h.1) λ_ _=>rfl,λ_ _ _ _ _ h=>h.elim,λ_ _ _ _ h=>h.elim,λ_ _ _ h=>h.elim⟩:Hand w' I' (fC w' b'.tmps) b7 ys us λ_=>cy);have gH:∀ c,lq f_ xs.length dD c->∃ t,b7 t c:=by
  intro c aa;rcases hN c aa with h | ⟨_,_,h⟩
  all_goals grind
 have Vb:∃ iY,cF w' I' (vs++[yb us]).toArray (kV outs (qI xs)) iY/\∀ t c,iY t c->∃ t,b7 t c:=by
  classical
  refine ⟨λt=>if t=outs.length then (λc=>∃ k,k<xs.length/\dD k c) else if ∃ x,outs[t]?=some (some x) then f_ t else cy,⟨λt x J=>?_,λt EJ c aa=>?_,λt t' c h1 af=>?_,λt c aa=>?_,dX.lt,λt t' z p n m new bE cE m' c3 h1 af=>?_⟩,λt c aa=>?_⟩
  ·unfold kV at J;by_cases aR:t=outs.length
   ·rw [if_pos aR] at J;cases J;subst aR;refine ⟨yb us,?_,.tree ?_⟩
    ·grind
    ·simpa using (iL.qI aw.Fj _).1
   ·rw [if_neg aR] at J;have gf:outs[t]?=some (some x):=by
     grind
    obtain ⟨h1,af,aI⟩:=r7 t x gf;have V2:t<vs.length:=by
     grind
    obtain ⟨v,hv,aZ⟩:=jc.rel t x h1;refine ⟨v,?_,?_⟩
    ·rw [hold.2 t aI] at hv
     grind
    ·simp only [aR,if_false];rw [if_pos ⟨x,gf⟩];exact .tree ((aZ.gI (by rintro z p n m new rfl; cases af)).bm af)
  ·grind [kV]
  ·by_cases aR:t=outs.length <;> by_cases HB:t'=outs.length <;> simp only [aR,HB,if_true,if_false] at h1 af
   ·grind
   ·split at af
    ·obtain ⟨k,hk,aa⟩:=h1;exact absurd af (iL.off k t' c hk aa)
    grind
   ·split at h1
    ·obtain ⟨k,hk,aa⟩:=af;exact absurd h1 (iL.off k t c hk aa)
    grind
   ·split at h1
    ·split at af
     ·exact jc.eJ _ _ _ h1 af
     grind
    grind
  ·by_cases aR:t=outs.length <;> simp only [aR,if_true,if_false] at aa
   ·obtain ⟨k,hk,aa⟩:=aa;exact iL.bj k c hk aa
   ·split at aa
    ·exact jc.bj _ _ aa
    grind
  ·grind [kV,cU]
  ·by_cases aR:t=outs.length <;> simp only [aR,if_true,if_false] at aa
   ·obtain ⟨k,hk,aa⟩:=aa;exact gH c (.inr ⟨k,hk,aa⟩)
   ·split at aa
    ·exact gH c (.inl ⟨t,aa⟩)
    grind
 obtain ⟨iY,h8,V0⟩:=Vb;have VI:b'.defers=[]/\∃ v,(results fn b'.tmps).run P w'=.ok v w'/\∃ gx I' b7,Ending.returned v=.returned gx/\cF w' I' (vs++[gx]).toArray (kV outs (qI xs)) b7/\kn w I (λc=>∃ t,Fs t c) w' I' (λc=>∃ t,b7 t c) :=
  ⟨aS,yb us,Yd oe hP,yb us,I',iY,rfl,h8,b0.trans ⟨Fr.refl _ _,λ_ h=>h,λ_ h=>.inl h,λc ⟨t,aa⟩=>.inl (V0 t c aa)⟩⟩
 rcases he with rfl | rfl <;> exact VI
end
end Go.Own
namespace Go.Own
open Go
def get:List (Nat × ab)->aM
 | [],_=>none
 | (s,x)::l,t=>if t=s then some x else get l t
inductive Rd (g:aM):Operand->ab->Prop
 | lit {t:Nat}{v:Value}(h:g t=some (.lit v)):Rd g (.tmp t) (.lit v)
 | k {v:Value}(h:ofConst v=.lit v):Rd g (.const v) (.lit v)
 | xE:Rd g (.const (.slice none 0 0)) .aJ
 | Jz {v:Value}{cs:List ab}(h:ofConst v=.agg cs):Rd g (.const v) (.agg cs)
 | aJ {t:Nat}(h:g t=some .aJ):Rd g (.tmp t) .aJ
 | bj {t z n:Nat}{cs:List ab}(h:g t=some (.bj z n cs)):Rd g (.tmp t) (.bj z n cs)
 | own {t z n:Nat}{cs:List ab}(h:g t=some (.own z n cs)):Rd g (.tmp t) (.a6 z ⟨t,[]⟩ n)
 | obj {t:Nat}{c:ab}{cs:List ab}(h:g t=some (.obj (c::cs))):Rd g (.tmp t) (.ptr ⟨t,[]⟩ 0)
 | cH {t:Nat}{cs:List ab}(h:g t=some (.cH cs)):Rd g (.tmp t) (.cH cs)
 | ptr {t k:Nat}{p:Place}(h:g t=some (.ptr p k)):Rd g (.tmp t) (.ptr p k)
 | a6 {t z n:Nat}{p:Place}(h:g t=some (.a6 z p n)):Rd g (.tmp t) (.a6 z p n)
 | sub {t z lo n:Nat}{p:Place}(h:g t=some (.sub z p lo n)):Rd g (.tmp t) (.sub z p lo n)
 | bL {t z n m:Nat}{p:Place}{new:List ab}(h:g t=some (.bL z p n m new)):Rd g (.tmp t) (.a6 z ⟨t,[]⟩ (n+m))
 | agg {t:Nat}{cs cs':List ab}(h:g t=some (.agg cs)) (aa:(cs.mapIdx λi x=>gv 1 (Place.push ⟨t,[]⟩ i) x)=cs'):Rd g (.tmp t) (.agg cs')
 | bW {t:Nat}{cs cs':List ab}(h:g t=some (.bW cs)) (aa:(cs.mapIdx λi x=>gv 1 (Place.push ⟨t,[]⟩ i) x)=cs'):Rd g (.tmp t) (.bW cs')
 | func {f:FuncId}:Rd g (.func f) (.cW (.func f) [] [])
 | cW {t:Nat}{fn:Fn}{cs:List ab}(h:g t=some (.cW fn [] cs)):Rd g (.tmp t) (.cW fn [] cs)
 | mp {t:Nat}{q:Array MapEntry->Nat->Prop}(h:g t=some (.mp q)):Rd g (.tmp t) (.gz ⟨t,[]⟩)
 | gz {t:Nat}{p:Place}(h:g t=some (.gz p)):Rd g (.tmp t) (.gz p)
 | imp {t:Nat}{q:Array MapEntry->Nat->Prop}(h:g t=some (.imp q)):Rd g (.tmp t) (.imp q)
theorem Rd.bs {g:aM}{x:Operand}{y:ab}(h:Rd g x y):bs g x=some y:=by
 cases h with
 | agg h aa=>subst aa; simp [Own.bs,h,ru,gv]
 | bW h aa=>subst aa; simp [Own.bs,h,ru,gv]
 | k h=>simp [Own.bs,h]
 | xE=>rfl
 | Jz h=>simp [Own.bs,h]
 | func=>rfl
 | _ h=>simp [Own.bs,h,ru,gv]
section
variable {P:Program}{N:c6}{ops:Array Oper}{g:aM}{K:aM->Prop}{l:List Oper}
def ar (P:Program) (N:c6) (ops:Array Oper) (l:List Oper) (g:aM) (K:aM->Prop):Prop:=∀ i,ops.toList.drop i=l->Lg P N ops (List.range' i l.length) g K
theorem W.Ax {id:Nat}{l:List Oper}{g:aM}{Φ:Exit->aM->Prop}(h:ar P N l.toArray l g (Φ .normal)):W P N (.region id l.toArray false) g Φ:=by
 refine W.region ?_;have:=h 0 (by simp)
 grind [List.range_eq_range']
theorem ar.nil (h:K g):ar P N ops [] g K:=λ_ _=>⟨g,.nil,h⟩
theorem drop_cons {i:Nat}{o:Oper}(h:ops.toList.drop i=o::l):ops[i]?=some o/\ops.toList.drop (i+1)=l:=by
 have h1:(ops.toList.drop i)[0]?=some o:=by rw [h]; rfl
 rw [List.getElem?_drop] at h1;refine ⟨by simpa using h1,?_⟩;rw [<- List.drop_drop,h];rfl
variable {d:Nat}{op:Op}{ty:TypeId}{pos:String}{after:Array Edge}{x:ab}
theorem ar.AD {r:Option ab}{o:Oper}(aS:o.dst=some d) (bc:N.ok d=true) (aW:g d=none) (aC:p' P g ops o r) (hk:ar P N ops l (x9 g d r) K):ar P N ops (o::l) g K:=by
 intro i hi;obtain ⟨h1,af⟩:=drop_cons hi;obtain ⟨g',ao,dj⟩:=hk (i+1) af;exact ⟨g',.step h1 aS aW bc aC ao,dj⟩
inductive K6 (g:aM) (d:Nat):aM->Prop
 | new (h:g d=none):K6 g d g
 | nj {y:ab}(h:g d=some y) (ak:leaf y=true):K6 g d (del g d)
inductive fv (g:aM) (ops:Array Oper):Option (Nat × Bool)->Prop
 | none:fv g ops none
 | yes {j t:Nat}{b:Bool}(h:(ops[j]?).bind (·.dst)=some t) (aO:g t=some (.lit (.bool b))):fv g ops (some (j,b))
variable {gd:Option (Nat × Bool)}{g1:aM}
theorem fv.del {y:ab}(h:fv g ops gd) (aS:g d=some y) (av:∀ b,y≠.lit (.bool b)):iA (del g d) ops ⟨some d,op,ty,pos,after,gd⟩ true:=by
 cases h with
 | none=>rfl
 | @yes j t b h aO =>
  have:t≠d:=by
   grind
  exact ⟨t,h,.inl ⟨b,by simp only [Own.del,if_neg this,aO],by simp⟩⟩
theorem fv.wanted (h:fv g ops gd):iA g ops ⟨some d,op,ty,pos,after,gd⟩ true:=by
 cases h with
 | none=>rfl
 | @yes j t b h aO=>exact ⟨t,h,.inl ⟨b,aO,by simp⟩⟩
theorem ar.KG (au:ch P g op ty x) (bc:N.ok d=true) (aW:g d=none) (hw:iA g ops ⟨some d,op,ty,pos,after,gd⟩ true) (hk:ar P N ops l (cV g d x) K):ar P N ops (⟨some d,op,ty,pos,after,gd⟩::l) g K :=
 .AD rfl bc aW (r:=some x) (.inl ⟨hw,.inl au⟩) hk
theorem Za:cV (del g d) d x=cV g d x:=by
 grind [cV,del]
theorem ar.val (au:c7 P g op ty x) (bc:N.ok d=true) (aW:g d=none) (aO:fv g ops gd) (hk:ar P N ops l (cV g d x) K):ar P N ops (⟨some d,op,ty,pos,after,gd⟩::l) g K :=
 .KG (.eW au) bc aW aO.wanted hk
theorem ar.over {y:ab}(au:c7 P (del g d) op ty x) (bc:N.ok d=true) (aW:g d=some y) (ak:leaf y=true) (hk:ar P N ops l (cV g d x) K):ar P N ops (⟨some d,op,ty,pos,after,none⟩::l) g K:=by
 intro i hi;obtain ⟨g',ao,dj⟩:=ar.KG (pos:=pos) (after:=after) (gd:=Option.none) (.eW au) bc (by simp [del]) (fv.wanted .none) (by rw [Za]; exact hk) i hi;exact ⟨g',.drop aW ak ao,dj⟩
theorem ar.Ze (au:ch P g op ty x) (bc:N.ok d=true) (aW:g d=none) (aO:fv g ops gd) (hk:ar P N ops l (cV g d x) K):ar P N ops (⟨some d,op,ty,pos,after,gd⟩::l) g K :=
 .KG au bc aW aO.wanted hk
theorem ar.call (au:cz P g op x) (bc:N.ok d=true) (aW:g d=none) (aO:fv g ops gd) (hk:ar P N ops l (cV g d x) K):ar P N ops (⟨some d,op,ty,pos,after,gd⟩::l) g K :=
 .AD rfl bc aW (r:=some x) (.inl ⟨aO.wanted,.inr au⟩) hk
theorem ar.pass {j t':Nat}{b:Bool}(h:(ops[j]?).bind (·.dst)=some t') (aO:g t'=some (.lit (.bool (!b)))) (bc:N.ok d=true) (aW:g d=none) (hk:ar P N ops l g K):ar P N ops (⟨some d,op,ty,pos,after,some (j,b)⟩::l) g K :=
 .AD rfl bc aW (r:=Option.none) ⟨t',h,.inl ⟨!b,aO,by cases b <;> rfl⟩⟩ hk
variable {jH:Option Nat}
theorem ar.forget {g1:aM}(hk:hD g g1) (h:ar P N ops l g1 K):ar P N ops l g K:=by
 intro i hi;obtain ⟨g',ao,dj⟩:=h i hi;exact ⟨g',.forget hk ao,dj⟩
variable {a b:Operand}{t t2:TypeId}{k:IntKind}{m n:Int}
theorem c7.add (J:Rd g a (.lit (.int k m))) (ax:Rd g b (.lit (.int k n))):c7 P g (.binOp .add t a b t2) ty (.lit (.int k (k.wrap (m+n)))) :=
 .bin J.bs ax.bs rfl λw=>by simp [eqGuard,binOp,Op.intArith]
theorem c7.YM (J:Rd g a (.lit (.int k m))) (ax:Rd g b (.lit (.int k n))):c7 P g (.binOp .sub t a b t2) ty (.lit (.int k (k.wrap (m - n)))) :=
 .bin J.bs ax.bs rfl λw=>by simp [eqGuard,binOp,Op.intArith]
theorem c7.mul (J:Rd g a (.lit (.int k m))) (ax:Rd g b (.lit (.int k n))):c7 P g (.binOp .mul t a b t2) ty (.lit (.int k (k.wrap (m * n)))) :=
 .bin J.bs ax.bs rfl λw=>by simp [eqGuard,binOp,Op.intArith]
theorem c7.quo (J:Rd g a (.lit (.int k m))) (ax:Rd g b (.lit (.int k n))) (h:n≠0):c7 P g (.binOp .quo t a b t2) ty (.lit (.int k (k.wrap (m.tdiv n)))) :=
 .bin J.bs ax.bs rfl λw=>by simp [eqGuard,binOp,Op.intDiv,h]
theorem c7.rem (J:Rd g a (.lit (.int k m))) (ax:Rd g b (.lit (.int k n))) (h:n≠0):c7 P g (.binOp .rem t a b t2) ty (.lit (.int k (m.tmod n))) :=
 .bin J.bs ax.bs rfl λw=>by simp [eqGuard,binOp,Op.intDiv,h]
theorem c7.cat {s u:ByteArray}(J:Rd g a (.lit (.string s))) (ax:Rd g b (.lit (.string u))) (h:s.size+u.size<=9223372036854775807):c7 P g (.binOp .add t a b t2) ty (.lit (.string (s++u))) :=
 .bin J.bs ax.bs rfl λw=>by
  have:¬ ((s.size+u.size:Nat):Int) > IntKind.i64.max:=by
   have:IntKind.i64.max=9223372036854775807:=by decide
   omega
  simp only [eqGuard,binOp,Op.stringOp,if_neg this];simp
theorem LS {s u:ByteArray}(h:s.toList=u.toList):s=u:=by
 have h1:s.data.toList=u.data.toList:=by
  grind [ByteArray.toList_eq]
 cases s
 simp_all
theorem c7.qh {s u:ByteArray}(J:Rd g a (.lit (.string s))) (ax:Rd g b (.lit (.string u))) {c:Bool}(aa:c=true↔s=u):c7 P g (.binOp .eql t a b t2) ty (.lit (.bool c)) :=
 .bin J.bs ax.bs rfl λw=>by
  have:(s.toList == u.toList)=c:=by
   rw [Bool.eq_iff_iff,aa];simp only [beq_iff_eq];exact ⟨LS,λh=>by rw [h]⟩
  simp [eqGuard,binOp,Op.stringOp,this]
theorem c7.oq {s u:ByteArray}(J:Rd g a (.lit (.string s))) (ax:Rd g b (.lit (.string u))) {c:Bool}(aa:c=true↔s≠u):c7 P g (.binOp .neq t a b t2) ty (.lit (.bool c)) :=
 .bin J.bs ax.bs rfl λw=>by
  have:(s.toList == u.toList)=!c:=by
   rw [Bool.eq_iff_iff];simp only [beq_iff_eq,Bool.not_eq_true'];cases c with
   | true=>simp only [true_iff] at aa; simp only [Bool.true_eq_false,iff_false]; exact λh=>aa (LS h)
   | false =>
    simp only [Bool.false_eq_true,false_iff,Decidable.not_not] at aa;simp [aa]
  simp [eqGuard,binOp,Op.stringOp,this]
theorem c7.lss (J:Rd g a (.lit (.int k m))) (ax:Rd g b (.lit (.int k n))) {c:Bool}(aa:c=true↔m<n):c7 P g (.binOp .lss t a b t2) ty (.lit (.bool c)) :=
 .bin J.bs ax.bs rfl λw=>by
  have:decide (m<n)=c:=by rw [Bool.eq_iff_iff,aa]; simp
  simp [eqGuard,binOp,Op.intCmp,this]
theorem c7.leq (J:Rd g a (.lit (.int k m))) (ax:Rd g b (.lit (.int k n))) {c:Bool}(aa:c=true↔m<=n):c7 P g (.binOp .leq t a b t2) ty (.lit (.bool c)) :=
 .bin J.bs ax.bs rfl λw=>by
  have:decide (m<=n)=c:=by rw [Bool.eq_iff_iff,aa]; simp
  simp [eqGuard,binOp,Op.intCmp,this]
theorem c7.gtr (J:Rd g a (.lit (.int k m))) (ax:Rd g b (.lit (.int k n))) {c:Bool}(aa:c=true↔n<m):c7 P g (.binOp .gtr t a b t2) ty (.lit (.bool c)) :=
 .bin J.bs ax.bs rfl λw=>by
  have:decide (n<m)=c:=by rw [Bool.eq_iff_iff,aa]; simp
  simp [eqGuard,binOp,Op.intCmp,this]
theorem c7.geq (J:Rd g a (.lit (.int k m))) (ax:Rd g b (.lit (.int k n))) {c:Bool}(aa:c=true↔n<=m):c7 P g (.binOp .geq t a b t2) ty (.lit (.bool c)) :=
 .bin J.bs ax.bs rfl λw=>by
  have:decide (n<=m)=c:=by rw [Bool.eq_iff_iff,aa]; simp
  simp [eqGuard,binOp,Op.intCmp,this]
theorem c7.eql (J:Rd g a (.lit (.int k m))) (ax:Rd g b (.lit (.int k n))) {c:Bool}(aa:c=true↔m=n):c7 P g (.binOp .eql t a b t2) ty (.lit (.bool c)) :=
 .bin J.bs ax.bs rfl λw=>by
  have:(m == n)=c:=by rw [Bool.eq_iff_iff,aa]; simp
  simp [eqGuard,binOp,Op.intCmp,this]
theorem c7.neq (J:Rd g a (.lit (.int k m))) (ax:Rd g b (.lit (.int k n))) {c:Bool}(aa:c=true↔m≠n):c7 P g (.binOp .neq t a b t2) ty (.lit (.bool c)) :=
 .bin J.bs ax.bs rfl λw=>by
  have:(m != n)=c:=by rw [Bool.eq_iff_iff,aa]; simp
  simp [eqGuard,binOp,Op.intCmp,this]
theorem c7.not {c:Bool}(J:Rd g a (.lit (.bool c))):c7 P g (.unOp .not t a) ty (.lit (.bool (!c))) :=
 .un J.bs rfl λw=>by simp [Op.unary]
theorem c7.XM {c a b:Operand}{y:ab}(aa:Rd g c (.lit (.bool true))) (ao:Rd g a y):c7 P g (.pick c a b) ty y:=.pick aa.bs ao.bs
theorem c7.XL {c a b:Operand}{y:ab}(aa:Rd g c (.lit (.bool false))) (ao:Rd g b y):c7 P g (.pick c a b) ty y:=.pick aa.bs ao.bs
theorem c7.um {s:ByteArray}(J:Rd g a (.lit (.string s))) (aw:oZ P t=true):c7 P g (.call { callee:=.builtin .len,args:=#[a],argTypes:=#[t] }) ty (.lit (.int .i64 s.size)) :=
 .lits (vs:=[.string s]) (by simp [J.bs]) rfl λw cs=>by
  simp [builtin,Builtin.len_,run_underlying (KA aw),goInt]
section
variable {Ψ:aM->Prop}{Φ:Exit->aM->Prop}{id k:Nat}
theorem Y0 (h:Ψ g):o1 Ψ Φ .normal g:=h
theorem Y1 (h:Φ .ret g):o1 Ψ Φ .ret g:=h
theorem YZ (h:Φ (.exit k) g):o1 Ψ Φ (.exit k) g:=h
theorem WS (h:Φ .normal g):mb id Φ .normal g:=h
theorem WT (h:Φ .ret g):mb id Φ .ret g:=h
theorem WQ (h:Φ .normal g):mb id Φ (.exit id) g:=by
 show if id=id then Φ .normal g else Φ (.exit id) g
 grind
theorem WR (hk:Nat.beq k id=false) (h:Φ (.exit k) g):mb id Φ (.exit k) g:=by
 show if k=id then Φ .normal g else Φ (.exit k) g
 grind [Nat.ne_of_beq_eq_false]
end
def Fin (P:Program) (N:c6) (rs:List ResultVar) (n:Nat) (outs:List (Option ab)) (res:ab) (e:Exit) (g':aM):Prop:=(e=.normal\/e=.ret)/\Leaves P N rs g' n outs res
theorem bT.fin {f:FuncId}{fn:Func}{c:Code}{args:List ab}{outs:List (Option ab)}{res:ab}{N:c6}(aW:P.funcs[f]?=some fn) (av:fn.body=some c) (bc:fn.ntmps=N.size) (aP:Nat.ble args.length N.size=true) (hlen:outs.length=args.length)
  (hw:W P N c (qa args) (Fin P N fn.results.toList args.length outs res)):bT P f args outs res:=.Xh aW av bc (Nat.le_of_ble_eq_true aP) hlen hw
def si (outs:List (Option ab)):Bool:=outs.all λx=>x.isNone
theorem Fi {outs:List (Option ab)}(h:si outs=true) (k:Nat) (x:ab):outs[k]?≠some (some x):=by
 intro e;have:=List.all_eq_true.1 h _ (List.mem_of_getElem? e)
 grind
theorem Fin.one {t:Nat}{y res:ab}{outs:List (Option ab)}{n:Nat}(ax:Rd g (.tmp t) y) (aF:cU y) (a1:si outs=true) (ak:outs.length=n) (he:y=res):Fin P N [.tmp t] n outs res .ret g :=
 ⟨.inr rfl,⟨[y],[y],g,.cons (.tmp ax.bs) .nil,.bm (by simpa using aF),he.symm,λk x hk=>absurd hk (Fi a1 k x)⟩,ak⟩
inductive A2 (g:aM):List ResultVar->List ab->Prop
 | nil:A2 g [] []
 | cons {t:Nat}{y:ab}{rs:List ResultVar}{ys:List ab}(h:Rd g (.tmp t) y) (aF:cU y) (aw:A2 g rs ys):A2 g (.tmp t::rs) (y::ys)
theorem A2.spec {rs:List ResultVar}{ys:List ab}(h:A2 g rs ys):rL P g rs ys/\∀ y∈ys,cU y:=by
 induction h with
 | nil=>exact ⟨.nil,by simp⟩
 | cons h aF _ aU=>exact ⟨.cons (.tmp h.bs) aU.1,pO aF aU.2⟩
inductive qY (g:aM):List Operand->List ab->Prop
 | nil:qY g [] []
 | cons {x:Operand}{y:ab}{xs:List Operand}{ys:List ab}(h:Rd g x y) (aF:cU y) (aw:qY g xs ys):qY g (x::xs) (y::ys)
theorem qY.spec {xs:List Operand}{ys:List ab}(h:qY g xs ys):gk g xs=some ys/\∀ y∈ys,cU y:=by
 induction h with
 | nil=>exact ⟨rfl,by simp⟩
 | cons h aF _ aU=>exact ⟨by simp only [gk,h.bs,aU.1],pO aF aU.2⟩
theorem cz.Ta {xs:List Operand}{gm:Array TypeId}{f:FuncId}{ys:List ab}{outs:List (Option ab)}{res:ab}(gP:bT P f ys outs res) (aW:gM P f=true) (J:qY g xs ys) (a1:si outs=true) (ao:cU res) :
  cz P g (.call { callee:=.value (.func f),args:=xs.toArray,argTypes:=gm }) res:=by
 have r7:outs=ys.map λ_=>Option.none:=by
  apply List.ext_getElem?;intro k;rw [List.getElem?_map];cases ax:ys[k]? with
  | none=>rw [List.getElem?_eq_none (by rw [gP.1]; exact List.getElem?_eq_none_iff.1 ax)]; rfl
  | some y =>
   have hk:k<outs.length:=by rw [gP.1]; exact (List.getElem?_eq_some_iff.1 ax).1
   have h1:=List.getElem?_eq_getElem hk;rw [h1];cases af:outs[k] with
   | none=>rfl
   | some x=>rw [af] at h1; exact absurd h1 (Fi a1 k x)
 exact .plain (first:=[]) (caps:=[]) (ys:=ys) rfl (by simpa using J.spec.1) aW (by simpa using J.spec.2) (by simpa [<- r7] using gP) ao
end
end Go.Own
namespace Go.Own
open Go
def lB (s:ByteArray) (m:Int):Int:=((s[m.toNat]?.getD 0).toNat:Nat)
def rR (s:ByteArray) (m n:Int):ByteArray:=s.extract m.toNat n.toNat
section
variable {P:Program}{N:c6}{ops:Array Oper}{g:aM}{K:aM->Prop}{l:List Oper}
variable {d:Nat}{op:Op}{ty:TypeId}{pos:String}{after:Array Edge}{x:ab}{a b:Operand}{t t2:TypeId}{k:IntKind}{m n:Int}{gd:Option (Nat × Bool)}
theorem c7.RJ {s:ByteArray}{i:Operand}(J:Rd g a (.lit (.string s))) (hi:Rd g i (.lit (.int k m))) (aw:oZ P t=true) (h:0<=m/\m<s.size):c7 P g (.index t a i) ty (.lit (.int .u8 (lB s m))):=by
 obtain ⟨j,rfl⟩:=Int.eq_ofNat_of_zero_le h.1;have ah:j<s.size:=by omega
 have av:s[j]?=some s[j]:=getElem?_pos s j ah;have:lB s (j:Int)=(s[j].toNat:Nat):=by simp [lB,av]
 rw [this];exact .EW J.bs hi.bs aw av
theorem c7.P3 {s:ByteArray}{lo hi:Operand}{pL:IntKind}(J:Rd g a (.lit (.string s))) (ak:Rd g lo (.lit (.int k m))) (bY:Rd g hi (.lit (.int pL n))) (aw:oZ P t=true) (h:0<=m/\m<=n/\n<=s.size) :
  c7 P g (.slice t a (some lo) (some hi) none) ty (.lit (.string (rR s m n))):=by
 obtain ⟨i,rfl⟩:=Int.eq_ofNat_of_zero_le h.1;obtain ⟨j,rfl⟩:=Int.eq_ofNat_of_zero_le (show 0<=n by omega);exact .AB J.bs ⟨_,ak.bs⟩ ⟨_,bY.bs⟩ aw (by omega) (by omega)
theorem c7.Yw {s:ByteArray}{hi:Operand}{pL:IntKind}(J:Rd g a (.lit (.string s))) (bY:Rd g hi (.lit (.int pL n))) (aw:oZ P t=true) (h:0<=n/\n<=s.size) :
  c7 P g (.slice t a none (some hi) none) ty (.lit (.string (rR s 0 n))):=by
 obtain ⟨j,rfl⟩:=Int.eq_ofNat_of_zero_le h.1;exact .AB (l:=0) J.bs rfl ⟨_,bY.bs⟩ aw (by omega) (by omega)
theorem c7.Yx {s:ByteArray}{lo:Operand}(J:Rd g a (.lit (.string s))) (ak:Rd g lo (.lit (.int k m))) (aw:oZ P t=true) (h:0<=m/\m<=s.size) :
  c7 P g (.slice t a (some lo) none none) ty (.lit (.string (rR s m s.size))):=by
 obtain ⟨j,rfl⟩:=Int.eq_ofNat_of_zero_le h.1;exact .AB (h:=s.size) J.bs ⟨_,ak.bs⟩ rfl aw (by omega) (by omega)
theorem SX {s:ByteArray}{m n:Int}(h:0<=m/\m<=n/\n<=s.size):((rR s m n).size:Int)=n - m:=by
 grind [rR,ByteArray.size_extract]
theorem c7.bytes {z p iZ:Nat}{cs:List ab}{xs:List Int}(J:g p=some (.own 1 iZ cs)) (hF:cs=xs.map λb=>.lit (.int .u8 b)) (ak:cs.length=iZ) (aw:wH P t t2=true) (_hz:z=0):c7 P g (.convert t t2 (.tmp p)) ty (.lit (.string (strOfNums xs))) :=
 .D_ (p:=⟨p,[]⟩) (n:=iZ) (N:=iZ) (cs:=cs) (by simp [bs,J,ru,gv]) (by simp [bD,J,ab.at]) (Nat.le_refl _) (by rw [List.take_of_length_le (by omega)]; exact hF) aw
def ie (P:Program) (e:TypeId) (z:Nat):Bool :=
 match (P.info? e).bind (·.zero) with
 | some v=>v.cells.size == z
 | none=>false
theorem KW {e:TypeId}{z:Nat}(h:ie P e z=true):∃ v,(P.info? e).bind (·.zero)=some v/\v.cells.size=z:=by
 grind [ie]
inductive tg (g:aM):List Operand->List Value->Prop
 | nil:tg g [] []
 | cons {x:Operand}{v:Value}{xs:List Operand}{vs:List Value}(h:Rd g x (.lit v)) (aw:tg g xs vs):tg g (x::xs) (v::vs)
theorem tg.gk {xs:List Operand}{vs:List Value}(h:tg g xs vs):gk g xs=some (vs.map .lit):=by
 induction h with
 | nil=>rfl
 | cons h _ aU=>simp only [Own.gk,h.bs,aU]; rfl
theorem tg.map {xs:List Operand}{vs:List Value}(h:tg g xs vs):xs.map (bs g)=vs.map λv=>some (.lit v):=by
 induction h with
 | nil=>rfl
 | cons h _ aU=>simp only [List.map_cons,h.bs,aU]
theorem ch.row {e:TypeId}{xs:List Operand}{vs:List Value}{parts:Array (Nat × Operand)}{dz:Nat}(J:tg g xs vs) (au:parts.toList=xs.mapIdx (λi x=>(i,x))) (aF:xs.length=dz) (aw:fr P t e 1=true) (aY:ie P e 1=true) (av:Nat.ble dz 1000=true) :
  ch P g (.buildSlice t dz parts) ty (.own 1 dz (vs.map .lit)):=by
 subst aF;have l3:=Nat.le_of_ble_eq_true av;refine .qF (.buildSlice aw au J.gk (λy ax=>?_) ?_ (by omega) (by omega) (.inr (KW aY)))
 ·obtain ⟨v,_,rfl⟩:=List.mem_map.1 ax;exact ⟨[.lit v],rfl,rfl⟩
 ·generalize vs=l
  induction l with
  | nil=>rfl
  | cons v l aU=>simp only [List.map_cons,mo,jT,aU]; rfl
inductive th (g:aM):List Nat->List (Nat × ab)->Prop
 | nil:th g [] []
 | some {s:Nat}{x:ab}{s9:List Nat}{l:List (Nat × ab)}(h:g s=some x) (aF:cU x) (aw:th g s9 l):th g (s::s9) ((s,x)::l)
 | none {s:Nat}{s9:List Nat}{l:List (Nat × ab)}(aw:th g s9 l):th g (s::s9) l
theorem th.spec {g:aM}{s9:List Nat}{l:List (Nat × ab)}(h:th g s9 l):∀ t x,get l t=Option.some x->g t=Option.some x/\cU x:=by
 induction h with
 | nil=>intro t x J; cases J
 | @some s y s9 l h aF _ aU =>
  grind [get]
 | none _ aU=>exact aU
theorem th.eY {g:aM}{s9:List Nat}{l:List (Nat × ab)}(h:th g s9 l):ko g (get l) :=
 ⟨λt x J=>⟨x,(h.spec t x J).1,.refl⟩,λt x J=>.bm (h.spec t x J).2,λt z q n m new J=>by have:=(h.spec t _ J).2; cases this⟩
end
end Go.Own
namespace Go.Own
open Go
def oB (s:ByteArray) (n:Nat):Prop:=s.size<=n
theorem oB.app {s u:ByteArray}{a b:Nat}(h:oB s a) (aQ:oB u b):oB (s++u) (a+b):=by
 unfold oB at *;rw [ByteArray.size_append]; omega
theorem oB.cut {s:ByteArray}{a:Nat}{m n:Int}(h:oB s a):oB (rR s m n) a:=by
 unfold oB rR at *;rw [ByteArray.size_extract]; omega
theorem oB.const {xs:Array UInt8}:oB ⟨xs⟩ xs.size:=Nat.le_refl _
theorem oB.of {s:ByteArray}{n:Nat}(h:s.size<=n):oB s n:=h
theorem oB.self {s:ByteArray}:oB s s.size:=Nat.le_refl _
section
variable {P:Program}{g:aM}{ty:TypeId}{a b:Operand}{t t2:TypeId}{N:c6}{ops:Array Oper}{K:aM->Prop}{l:List Oper}{d:Nat}{pos:String}{after:Array Edge}{gd:Option (Nat × Bool)}
theorem W.L_ {c:Operand}{x y:Code}{Φ:Exit->aM->Prop}{b:Bool}(aa:Rd g c (.lit (.bool b))) (dL:b=true->W P N x g Φ) (aN:b=false->W P N y g Φ):W P N (.cond c x y) g Φ:=by
 cases b with
 | true=>exact .Ma aa.bs (dL rfl)
 | false=>exact .L9 aa.bs (aN rfl)
theorem Yb {c e:Bool}(aw:P.underlying t=some .bool) (w:World):(do eqGuard .eql t a b (.bool c) (.bool e); binOp .eql t (.bool c) (.bool e):Sem Value).run P w=.ok (.bool (c == e)) w:=by
 have h:=run_equal_bool w t c e aw;simp [eqGuard,binOp,h]
def GZ (P:Program) (t:TypeId):Bool :=
 match P.underlying t with
 | some .bool=>true
 | _=>false
theorem RP (h:GZ P t=true):P.underlying t=some .bool:=by
 unfold GZ at h
 split at h
 ·assumption
 ·cases h
def xu (P:Program) (t:TypeId) (k:IntKind):Bool :=
 match P.underlying t with
 | some (.int kT)=>kT == k
 | _=>false
theorem Oq {k:IntKind}(h:xu P t k=true):P.underlying t=some (.int k):=by
 unfold xu at h
 split at h
 ·rename_i kT hk; rw [hk]; have:kT=k:=by simpa using h
  rw [this]
 ·cases h
theorem c7.SQ {k kT:IntKind}{m:Int}(J:Rd g a (.lit (.int k m))) (aC:xu P t k=true) (aS:xu P t2 kT=true):c7 P g (.convert t t2 a) ty (.lit (.int kT (kT.wrap m))) :=
 .conv J.bs rfl λw=>by simp [convert,run_underlying (Oq aC),run_underlying (Oq aS),Conv.intToInt]
inductive Bytes (g:aM):List Operand->List Int->Prop
 | nil:Bytes g [] []
 | cons {x:Operand}{v:Int}{xs:List Operand}{vs:List Int}(h:Rd g x (.lit (.int .u8 v))) (aw:Bytes g xs vs):Bytes g (x::xs) (v::vs)
theorem Bytes.lits {xs:List Operand}{vs:List Int}(h:Bytes g xs vs):tg g xs (vs.map λb=>.int .u8 b):=by
 induction h with
 | nil=>exact .nil
 | cons h _ aU=>exact .cons h aU
end
end Go.Own
namespace Go.Own
open Go Go.RowKit
theorem cF.lits {w:World}(vs:List Value) (h:∀ v∈vs,v.oneCell'=true):cF w (λ_=>False) vs.toArray (qa (vs.map .lit)) (λ_=>cy):=by
 refine ⟨λt x J=>?_,λ_ _ _ h=>h,λ_ _ _ h=>h.elim,λ_ _ h=>h.elim,λ_ h=>h.elim,λt t' z p n m new bE cE m' c3 h1 _=>?_⟩
 ·simp only [qa,List.getElem?_map] at J;cases hv:vs[t]? with
  | none=>rw [hv] at J; cases J
  | some v =>
   rw [hv] at J;simp only [Option.map_some,Option.some.injEq] at J;subst J;exact ⟨v,by simpa using hv,.tree (.lit (h v (List.mem_of_getElem? hv)) λ_ h=>h)⟩
 grind [qa]
end Go.Own
namespace Go.Own
open Go
section
variable {P:Program}{g:aM}{ty:TypeId}{a b:Operand}{t t2:TypeId}{N:c6}{ops:Array Oper}{K:aM->Prop}{l:List Oper}{d:Nat}{pos:String}{after:Array Edge}{gd:Option (Nat × Bool)}
theorem c7.mB {z n bE:Nat}{p:Place}{e:TypeId}(J:Rd g a (.a6 z p n)) (aw:fr P t e bE=true):c7 P g (.call { callee:=.builtin .len,args:=#[a],argTypes:=#[t] }) ty (.lit (.int .i64 n)):=.Cp J.bs aw
theorem c7.ku {z n bE:Nat}{cs:List ab}{e:TypeId}(J:Rd g a (.bj z n cs)) (aw:fr P t e bE=true):c7 P g (.call { callee:=.builtin .len,args:=#[a],argTypes:=#[t] }) ty (.lit (.int .i64 n)):=.Cq J.bs aw
end
end Go.Own
namespace Go.Own
open Go
end Go.Own
namespace Go.Own
open Go
structure bJ (α:Type) where
 z:Nat
 cells:α->List ab
 len:∀ a,(cells a).length=z
 bm:∀ a,∀ x∈cells a,cU x
variable {α β S R:Type}
def bp (e:bJ α) (l:List α):List ab:=l.flatMap e.cells
abbrev aj (e:bJ α) (l:List α):ab:=.own e.z l.length (bp e l)
abbrev ag (e:bJ α) (l:List α):ab:=.bj e.z l.length (bp e l)
abbrev ae (n:Int):ab:=.lit (.int .i64 n)
abbrev q2 (n:Int):ab:=.lit (.int .u8 n)
abbrev a_ (b:Bool):ab:=.lit (.bool b)
abbrev ay (s:ByteArray):ab:=.lit (.string s)
abbrev aK (n:Int):Int:=IntKind.i64.wrap n
abbrev yr (n:Int):Int:=IntKind.u8.wrap n
theorem nm (e:bJ α) (l:List α):(bp e l).length=l.length * e.z:=by
 induction l with
 | nil=>simp [bp]
 | cons a l aU =>
  have:bp e (a::l)=e.cells a++bp e l:=by simp [bp]
  rw [this,List.length_append,e.len,aU,List.length_cons,Nat.add_mul]; omega
theorem pT (e:bJ α) (l:List α):∀ x∈bp e l,cU x:=by
 intro x J;obtain ⟨a,_,h⟩:=List.mem_flatMap.1 J;exact e.bm a x h
theorem FK (e:bJ α) (l m:List α):bp e (l++m)=bp e l++bp e m:=by simp [bp]
theorem Ay (e:bJ α):∀ (l:List α) (i:Nat),(bp e l).drop (i * e.z)=bp e (l.drop i)
 | l,0=>by simp
 | [],i+1=>by simp [bp]
 | a::l,i+1=>by
  have h:bp e (a::l)=e.cells a++bp e l:=by simp [bp]
  rw [h,List.drop_append,e.len,List.drop_eq_nil_of_le (by rw [e.len,Nat.add_mul]; omega)];have:(i+1) * e.z - e.z=i * e.z:=by rw [Nat.add_mul]; omega
  rw [this,List.nil_append,Ay e l i]; rfl
theorem ye (e:bJ α):∀ (l:List α) (i:Nat),(bp e l).take (i * e.z)=bp e (l.take i)
 | l,0=>by simp [bp]
 | [],i+1=>by simp [bp]
 | a::l,i+1=>by
  have h:bp e (a::l)=e.cells a++bp e l:=by simp [bp]
  rw [h,List.take_append,e.len,List.take_of_length_le (by rw [e.len,Nat.add_mul]; omega)];have:(i+1) * e.z - e.z=i * e.z:=by rw [Nat.add_mul]; omega
  rw [this,ye e l i]; simp [bp]
def idx (l:List α) (i:Int):Option α:=if 0<=i then l[i.toNat]? else none
theorem pJ {l:List α}{i:Int}{y:α}(h:idx l i=some y):0<=i/\i<l.length/\l[i.toNat]?=some y:=by
 grind [idx]
theorem Kj (e:bJ α) {l:List α}{i:Int}{y:α}(h:idx l i=some y):(bp e l).drop (i.toNat * e.z)=e.cells y++bp e (l.drop (i.toNat+1)):=by
 obtain ⟨aR,h1,af⟩:=pJ h
 grind [Ay,List.drop_eq_getElem_cons,bp]
theorem Ki (e:bJ α) {l:List α}{i:Int}{y:α}(h:idx l i=some y) {k:Nat}{x:ab}(hk:(e.cells y)[k]?=some x):(bp e l)[i.toNat * e.z+k]?=some x:=by
 have aT:=(List.getElem?_eq_some_iff.1 hk).1;rw [<- List.getElem?_drop,Kj e h,List.getElem?_append_left aT]; exact hk
abbrev lim:Nat:=1099511627776
def fuel:Nat:=1000000000000000000
def iter (f:S->Option (S ⊕ R)):Nat->S->Option R
 | 0,_=>none
 | n+1,s=>match f s with
  | none=>none
  | some (.inl cT)=>iter f n cT
  | some (.inr r)=>some r
def b4 (f:S->Option (S ⊕ R)) (s:S):Option R:=iter f fuel s
theorem k7 {o:Option α}{f:α->Option β}{r:β}(h:o.bind f=some r):∃ y,o=some y/\f y=some r:=Option.bind_eq_some_iff.1 h
theorem Sn {b:Bool}{x y o:α}(av:b=true) (h:cond b x y=o):x=o:=by
 grind
theorem Sm {b:Bool}{x y o:α}(av:b=false) (h:cond b x y=o):y=o:=by
 grind
theorem fG {b:Bool}{x y o:α}(h:cond b x y=o):(b=true/\x=o)\/(b=false/\y=o):=by
 grind
theorem aV {a b:α}(h:some a=some b):a=b:=by grind
class cg (x:ab):Prop where bm:cU x
class dq (cs:List ab):Prop where bm:∀ x∈cs,cU x
instance {v:Value}:cg (.lit v):=⟨.lit⟩
instance:cg .aJ:=⟨.aJ⟩
instance:cg .dead:=⟨.dead⟩
instance {z n:Nat}{cs:List ab} [h:dq cs]:cg (.bj z n cs):=⟨.bj h.bm⟩
instance {z n:Nat}{cs:List ab} [h:dq cs]:cg (.own z n cs):=⟨.own h.bm⟩
instance {cs:List ab} [h:dq cs]:cg (.obj cs):=⟨.obj h.bm⟩
instance {cs:List ab} [h:dq cs]:cg (.agg cs):=⟨.agg h.bm⟩
instance {cs:List ab} [h:dq cs]:cg (.bW cs):=⟨.bW h.bm⟩
instance {cs:List ab} [h:dq cs]:cg (.cH cs):=⟨.cH h.bm⟩
instance {f:Fn}{a b:List ab} [h:dq a] [aQ:dq b]:cg (.cW f a b):=⟨.cW h.bm aQ.bm⟩
instance:dq []:=⟨by simp⟩
instance {x:ab}{cs:List ab} [h:cg x] [aQ:dq cs]:dq (x::cs):=⟨pO h.bm aQ.bm⟩
instance {e:bJ α}{l:List α}:dq (bp e l):=⟨pT e l⟩
instance {e:bJ α}{a:α}:dq (e.cells a):=⟨e.bm a⟩
instance {a b:List ab} [h:dq a] [aQ:dq b]:dq (a++b):=⟨λx J=>(List.mem_append.1 J).elim (h.bm x) (aQ.bm x)⟩
instance {a:List ab}{n:Nat} [h:dq a]:dq (a.drop n):=⟨λx J=>h.bm x (List.mem_of_mem_drop J)⟩
instance {a:List ab}{n:Nat} [h:dq a]:dq (a.take n):=⟨λx J=>h.bm x (List.mem_of_mem_take J)⟩
instance {v:Value}{n:Nat}:dq (List.replicate n (.lit v)):=⟨λx J=>by rw [(List.mem_replicate.1 J).2]; exact .lit⟩
abbrev bJ.one (f:α->ab) (h:∀ a,cU (f a)):bJ α:=⟨1,λa=>[f a],λ_=>rfl,λa x J=>by rw [List.mem_singleton.1 J]; exact h a⟩
def ai:bJ Int:=.one (λn=>ae n) λ_=>.lit
def qg:bJ Int:=.one (λn=>q2 n) λ_=>.lit
def cq:bJ Bool:=.one (λb=>a_ b) λ_=>.lit
def dx:bJ ByteArray:=.one (λs=>ay s) λ_=>.lit
def Mo (e:bJ α):bJ (List α):=.one (λl=>aj e l) λl=>.own (pT e l)
def bo (e:bJ α):bJ (List α):=.one (λl=>ag e l) λl=>.bj (pT e l)
inductive Trim (b:Bool) (g g2:aM):List (Nat × ab)->Prop
 | nil:Trim b g g2 []
 | n {s:Nat}{x:ab}{l:List (Nat × ab)}(h:g s=some x) [aF:cg x] (t:Trim b g g2 l):Trim b g g2 ((s,x)::l)
 | r {s:Nat}{x:ab}{l:List (Nat × ab)}(h:g s=some x) (aF:di g2 x) (au:∀ z p n m new,x≠.bL z p n m new) (t:Trim b g g2 l):Trim b g g2 ((s,x)::l)
 | e {s:Nat}{x y:ab}{l:List (Nat × ab)}(h:g s=some y) (he:y=x) [aF:cg x] (t:Trim b g g2 l):Trim b g g2 ((s,x)::l)
 | w {s:Nat}{x y:ab}{l:List (Nat × ab)}(av:b=true) (h:g s=some y) (hw:pd y x) [aF:cg x] (t:Trim b g g2 l):Trim b g g2 ((s,x)::l)
theorem Trim.spec {b:Bool}{g g2:aM}{l:List (Nat × ab)}(h:Trim b g g2 l):∀ t x,get l t=some x->(∃ y,g t=some y/\pd y x/\(b=false->y=x))/\di g2 x/\∀ z p n m new,x≠.bL z p n m new:=by
 have fy:∀ {x:ab},cU x->∀ z p n m new,x≠.bL z p n m new:=by rintro x h z p n m new rfl; cases h
 induction h with
 | nil=>intro t x J; cases J
 | @n _ _ _ h aF _ aU =>
  intro t x J;simp only [get] at J
  split at J
  ·rename_i e;subst e;cases J;exact ⟨⟨_,h,.refl,λ_=>rfl⟩,.bm aF.bm,fy aF.bm⟩
  grind
 | r h aF au _ aU =>
  intro t x J;simp only [get] at J
  split at J
  ·rename_i e;subst e;cases J;exact ⟨⟨_,h,.refl,λ_=>rfl⟩,aF,au⟩
  grind
 | @e _ _ _ _ h he aF _ aU =>
  intro t x J;simp only [get] at J
  split at J
  ·rename_i e;subst e he;cases J;exact ⟨⟨_,h,.refl,λ_=>rfl⟩,.bm aF.bm,fy aF.bm⟩
  grind
 | @w _ _ _ _ av h hw aF _ aU =>
  intro t x J;simp only [get] at J
  split at J
  ·rename_i e;subst e;cases J;exact ⟨⟨_,h,hw,λh=>by rw [av] at h; cases h⟩,.bm aF.bm,fy aF.bm⟩
  grind
theorem Trim.eY {b:Bool}{g:aM}{l:List (Nat × ab)}(h:Trim b g (get l) l):ko g (get l) :=
 ⟨λt x J=>by obtain ⟨⟨y,h1,af,_⟩,_⟩:=h.spec t x J; exact ⟨y,h1,af⟩,λt x J=>(h.spec t x J).2.1,λt z q n m new J=>(h.spec t _ J).2.2 _ _ _ _ _ rfl⟩
theorem Trim.keep {g:aM}{l:List (Nat × ab)}(h:Trim false g (get l) l):hD g (get l) :=
 ⟨λt x J=>by obtain ⟨⟨y,h1,_,aI⟩,_⟩:=h.spec t x J; rw [<- aI rfl]; exact h1,λt x J=>(h.spec t x J).2.1,λt z q n m new J=>(h.spec t _ J).2.2 _ _ _ _ _ rfl⟩
section
variable {P:Program}{N:c6}{ops:Array Oper}{g:aM}{K:aM->Prop}{l:List Oper}{d:Nat}{op:Op}{ty:TypeId}{pos:String}{after:Array Edge}{x:ab}{gd:Option (Nat × Bool)}
def jF (P:Program) (N:c6) (c:Code) (G G1:List (Nat × ab)):Prop:=W P N c (get G) λe g'=>e=.normal/\ko g' (get G1)
theorem W.bw {A B:Code}{G G1:List (Nat × ab)}{Φ:Exit->aM->Prop}(h1:jF P N A G G1) (af:W P N B (get G1) Φ):W P N (.seq A B) (get G) Φ:=by
 refine W.seq (W.out h1 λe g' h=>⟨get G1,h.2,?_⟩);obtain ⟨rfl,_⟩:=h;exact af
theorem W.bC {A B:Code}{G:List (Nat × ab)}{Φ:Exit->aM->Prop}(h:W P N A (get G) (o1 (λg1=>W P N B g1 Φ) Φ)):W P N (.seq A B) (get G) Φ:=W.seq h
theorem jF.rg {id:Nat}{l:List Oper}{G G1:List (Nat × ab)}(h:ar P N l.toArray l (get G) λg'=>ko g' (get G1)):jF P N (.region id l.toArray false) G G1 :=
 W.Ax (λi hi=>by obtain ⟨g',h1,af⟩:=h i hi; exact ⟨g',h1,rfl,af⟩)
theorem ar.fin {G1:List (Nat × ab)}(h:Trim true g (get G1) G1):ar P N ops [] g λg'=>ko g' (get G1):=.nil h.eY
theorem ar.Dh {G1:List (Nat × ab)}(h:Trim false g (get G1) G1) (hk:ar P N ops l (get G1) K):ar P N ops l g K:=.forget h.keep hk
theorem ar.v (au:ch P g op ty x) (bc:N.ok d=true) (aW:g d=none) (aO:fv g ops gd) (hk:ar P N ops l (cV g d x) K):ar P N ops (⟨some d,op,ty,pos,after,gd⟩::l) g K:=.Ze au bc aW aO hk
theorem ar.c (au:cz P g op x) (bc:N.ok d=true) (aW:g d=none) (aO:fv g ops gd) (hk:ar P N ops l (cV g d x) K):ar P N ops (⟨some d,op,ty,pos,after,gd⟩::l) g K:=.call au bc aW aO hk
theorem fv.ft {j t:Nat}{b c:Bool}(h:(ops[j]?).bind (·.dst)=some t) (aO:g t=some (.lit (.bool c))) (av:c=b):fv g ops (some (j,b)):=by subst av; exact .yes h aO
theorem ar.ps {j t':Nat}{b c:Bool}(h:(ops[j]?).bind (·.dst)=some t') (aO:g t'=some (.lit (.bool c))) (av:c=!b) (bc:N.ok d=true) (aW:g d=none) (hk:ar P N ops l (cV g d (.bW [])) K):ar P N ops (⟨some d,op,ty,pos,after,some (j,b)⟩::l) g K:=by
 subst av; exact .AD rfl bc aW (r:=some (.bW [])) (.inr (.inl ⟨⟨t',h,.inl ⟨_,aO,by cases b <;> rfl⟩⟩,rfl⟩)) hk
theorem ar.pu {j t':Nat}{b:Bool}(h:(ops[j]?).bind (·.dst)=some t') (aO:g t'=some (.bW [])) (bc:N.ok d=true) (aW:g d=none) (hk:ar P N ops l (cV g d (.bW [])) K):ar P N ops (⟨some d,op,ty,pos,after,some (j,b)⟩::l) g K :=
 .AD rfl bc aW (r:=some (.bW [])) (.inr (.inl ⟨⟨t',h,.inr ⟨aO,rfl⟩⟩,rfl⟩)) hk
theorem jF.skip {G G1:List (Nat × ab)}(h:Trim true (get G) (get G1) G1):jF P N .skip G G1:=W.skip ⟨rfl,h.eY⟩
theorem jF.fG {t:Nat}{A B:Code}{b:Bool}{G G1:List (Nat × ab)}(aa:get G t=some (a_ b)) (dL:b=true->jF P N A G G1) (aN:b=false->jF P N B G G1):jF P N (.cond (.tmp t) A B) G G1:=W.L_ (.lit aa) dL aN
theorem W.fG {t:Nat}{A B:Code}{b:Bool}{G:List (Nat × ab)}{Φ:Exit->aM->Prop}(aa:get G t=some (a_ b)) (dL:b=true->W P N A (get G) Φ) (aN:b=false->W P N B (get G) Φ):W P N (.cond (.tmp t) A B) (get G) Φ:=W.L_ (.lit aa) dL aN
theorem jF.bw {A B:Code}{G G1 G2:List (Nat × ab)}(h1:jF P N A G G1) (af:jF P N B G1 G2):jF P N (.seq A B) G G2:=W.bw h1 af
theorem jF.D5 {id:Nat}{c:Code}{G G1:List (Nat × ab)}(h:W P N c (get G) λe g'=>(e=.normal\/e=.exit id)/\ko g' (get G1)):jF P N (.block id c) G G1:=by
 refine W.block (h.mono ?_);rintro e g' ⟨rfl | rfl,h⟩
 ·exact ⟨rfl,h⟩
 ·show if id=id then _ else _
  grind
end
end Go.Own
namespace Go.Own
open Go
variable {α β:Type}
def kp (s:ByteArray) (m:Int):Option Int:=if 0<=m/\m<s.size then some (lB s m) else none
def q7 (s:ByteArray) (m n:Int):Option ByteArray:=if 0<=m/\m<=n/\n<=s.size then some (rR s m n) else none
def tA (s u:ByteArray):Option ByteArray:=if s.size+u.size<=4611686018427387904 then some (s++u) else none
def FC (m n:Int):Option Int:=if n=0 then none else some (aK (m.tdiv n))
def rv (m n:Int):Option Int:=if n=0 then none else some (m.tmod n)
def nV (l:List α) (m n:Int):Option (List α):=if 0<=m/\m<=n/\n<=l.length then some ((l.drop m.toNat).take (n - m).toNat) else none
def l2:ab->Bool
 | .lit _ | .aJ | .bj .. | .cH _ | .cW .. | .ptr .. | .a6 .. | .sub .. | .gz .. | .imp ..=>true
 | _=>false
theorem Ts {d:Nat}{p:Place}{x:ab}(h:l2 x=true):gv d p x=x:=by
 cases x <;> simp [l2] at h <;> cases d <;> rfl
theorem Tt {t:Nat}{x:ab}(h:l2 x=true):ru t x=x:=by
 cases x <;> simp [l2] at h <;> rfl
theorem Bp {d:Nat}{q:Nat->Place}{cs:List ab}(h:cs.all l2=true):(cs.mapIdx λi x=>gv d (q i) x)=cs:=by
 apply List.ext_getElem?;intro k;rw [List.getElem?_mapIdx];cases hk:cs[k]? with
 | none=>rfl
 | some x=>simp only [Option.map_some,Ts (List.all_eq_true.1 h x (List.mem_of_getElem? hk))]
section
variable {P:Program}{N:c6}{ops:Array Oper}{g:aM}{K:aM->Prop}{l:List Oper}{d:Nat}{ty t t2:TypeId}{a b c:Operand}{k kT:IntKind}{m n:Int}{s u:ByteArray}{p q e:Bool}
theorem Rd.f {t:Nat}{x:ab}(h:g t=some x) (aW:l2 x=true):Own.bs g (.tmp t)=some x:=by simp only [Own.bs,h,Option.map_some,Tt aW]
theorem Rd.da {t:Nat}{cs:List ab}(h:g t=some (.agg cs)) (aW:cs.all l2=true):Rd g (.tmp t) (.agg cs):=.agg h (Bp aW)
theorem Rd.Qk {t:Nat}{cs:List ab}(h:g t=some (.bW cs)) (aW:cs.all l2=true):Rd g (.tmp t) (.bW cs):=.bW h (Bp aW)
namespace O
theorem aX {y:ab}(h:Rd g a y):ch P g (.move a) ty y:=.eW (.move h.bs)
theorem az {y:ab}(h:Rd g a y):ch P g (.assign a) ty y:=.eW (.assign h.bs)
theorem hS {y:ab}(aa:Rd g c (a_ p)) (av:p=true) (h:Rd g a y):ch P g (.pick c a b) ty y:=by subst av; exact .eW (.XM aa h)
theorem dB {y:ab}(aa:Rd g c (a_ p)) (av:p=false) (h:Rd g b y):ch P g (.pick c a b) ty y:=by subst av; exact .eW (.XL aa h)
theorem add (J:Rd g a (.lit (.int k m))) (ax:Rd g b (.lit (.int k n))):ch P g (.binOp .add t a b t2) ty (.lit (.int k (k.wrap (m+n)))):=.eW (.add J ax)
theorem sub (J:Rd g a (.lit (.int k m))) (ax:Rd g b (.lit (.int k n))):ch P g (.binOp .sub t a b t2) ty (.lit (.int k (k.wrap (m - n)))):=.eW (.YM J ax)
theorem mul (J:Rd g a (.lit (.int k m))) (ax:Rd g b (.lit (.int k n))):ch P g (.binOp .mul t a b t2) ty (.lit (.int k (k.wrap (m * n)))):=.eW (.mul J ax)
theorem quo {r:Int}(J:Rd g a (ae m)) (ax:Rd g b (ae n)) (h:FC m n=some r):ch P g (.binOp .quo t a b t2) ty (ae r):=by
 unfold FC at h
 split at h
 ·cases h
 ·cases h; exact .eW (.quo J ax (by assumption))
theorem rem {r:Int}(J:Rd g a (ae m)) (ax:Rd g b (ae n)) (h:rv m n=some r):ch P g (.binOp .rem t a b t2) ty (ae r):=by
 unfold rv at h
 split at h
 ·cases h
 ·cases h; exact .eW (.rem J ax (by assumption))
theorem lss (J:Rd g a (.lit (.int k m))) (ax:Rd g b (.lit (.int k n))):ch P g (.binOp .lss t a b t2) ty (a_ (decide (m<n))):=.eW (.lss J ax (by simp))
theorem leq (J:Rd g a (.lit (.int k m))) (ax:Rd g b (.lit (.int k n))):ch P g (.binOp .leq t a b t2) ty (a_ (decide (m<=n))):=.eW (.leq J ax (by simp))
theorem gtr (J:Rd g a (.lit (.int k m))) (ax:Rd g b (.lit (.int k n))):ch P g (.binOp .gtr t a b t2) ty (a_ (decide (n<m))):=.eW (.gtr J ax (by simp))
theorem geq (J:Rd g a (.lit (.int k m))) (ax:Rd g b (.lit (.int k n))):ch P g (.binOp .geq t a b t2) ty (a_ (decide (n<=m))):=.eW (.geq J ax (by simp))
theorem eql (J:Rd g a (.lit (.int k m))) (ax:Rd g b (.lit (.int k n))):ch P g (.binOp .eql t a b t2) ty (a_ (decide (m=n))):=.eW (.eql J ax (by simp))
theorem neq (J:Rd g a (.lit (.int k m))) (ax:Rd g b (.lit (.int k n))):ch P g (.binOp .neq t a b t2) ty (a_ (!decide (m=n))):=.eW (.neq J ax (by simp))
theorem qh (J:Rd g a (ay s)) (ax:Rd g b (ay u)):ch P g (.binOp .eql t a b t2) ty (a_ (decide (s=u))):=.eW (.qh J ax (by simp))
theorem oq (J:Rd g a (ay s)) (ax:Rd g b (ay u)):ch P g (.binOp .neq t a b t2) ty (a_ (!decide (s=u))):=.eW (.oq J ax (by simp))
theorem Ec (J:Rd g a (a_ p)) (ax:Rd g b (a_ q)) (aw:GZ P t=true):ch P g (.binOp .eql t a b t2) ty (a_ (p == q)):=.eW (.bin J.bs ax.bs rfl λw=>Yb (RP aw) w)
theorem neg (J:Rd g a (.lit (.int k m))):ch P g (.unOp .neg t a) ty (.lit (.int k (k.wrap (-m)))):=.eW (.un J.bs rfl λw=>by simp [Op.unary,Op.intArith])
theorem not (J:Rd g a (a_ p)):ch P g (.unOp .not t a) ty (a_ (!p)):=.eW (.not J)
theorem SZ (J:Rd g a (.lit (.int k m))) (aC:xu P t k=true) (aS:xu P t2 kT=true):ch P g (.convert t t2 a) ty (.lit (.int kT (kT.wrap m))):=.eW (.SQ J aC aS)
theorem cat {r:ByteArray}(J:Rd g a (ay s)) (ax:Rd g b (ay u)) (h:tA s u=some r):ch P g (.binOp .add t a b t2) ty (ay r):=by
 unfold tA at h
 split at h
 ·cases h; exact .eW (.cat J ax (by omega))
 ·cases h
theorem um (J:Rd g a (ay s)) (aw:oZ P t=true):ch P g (.call { callee:=.builtin .len,args:=#[a],argTypes:=#[t] }) ty (ae s.size):=.eW (.um J aw)
theorem mn {r:Int}(J:Rd g a (ay s)) (ax:Rd g b (.lit (.int k m))) (aw:oZ P t=true) (h:kp s m=some r):ch P g (.index t a b) ty (q2 r):=by
 unfold kp at h
 split at h
 ·cases h; exact .eW (.RJ J ax aw (by assumption))
 ·cases h
theorem yj {r:ByteArray}{pL:IntKind}(J:Rd g a (ay s)) (ak:Rd g b (.lit (.int k m))) (bY:Rd g c (.lit (.int pL n))) (aw:oZ P t=true) (h:q7 s m n=some r):ch P g (.slice t a (some b) (some c) none) ty (ay r):=by
 unfold q7 at h
 split at h
 ·cases h; exact .eW (.P3 J ak bY aw (by assumption))
 ·cases h
theorem FU {r:ByteArray}(J:Rd g a (ay s)) (bY:Rd g c (.lit (.int k n))) (aw:oZ P t=true) (h:q7 s 0 n=some r):ch P g (.slice t a none (some c) none) ty (ay r):=by
 unfold q7 at h
 split at h
 ·rename_i aa; cases h; exact .eW (.Yw J bY aw ⟨aa.2.1,aa.2.2⟩)
 ·cases h
theorem FV {r:ByteArray}(J:Rd g a (ay s)) (ak:Rd g b (.lit (.int k m))) (aw:oZ P t=true) (h:q7 s m s.size=some r):ch P g (.slice t a (some b) none none) ty (ay r):=by
 unfold q7 at h
 split at h
 ·rename_i aa; cases h; exact .eW (.Yx J ak aw ⟨aa.1,aa.2.1⟩)
 ·cases h
theorem ku {z bE n:Nat}{cs:List ab}{e:TypeId}(J:Rd g a (.bj z n cs)) (aw:fr P t e bE=true):ch P g (.call { callee:=.builtin .len,args:=#[a],argTypes:=#[t] }) ty (ae n):=.eW (.Cq J.bs aw)
theorem rj {en:bJ α}{L:List α}{y:α}{e:TypeId}(J:Rd g a (.bj en.z L.length (bp en L))) (ax:Rd g b (.lit (.int k m))) (aw:fr P t e en.z=true) (h:idx L m=some y):ch P g (.indexAddr t a b) ty (.cH (en.cells y++bp en (L.drop (m.toNat+1)))):=by
 rw [<- Kj en h];obtain ⟨aR,h1,_⟩:=pJ h;obtain ⟨j,rfl⟩:=Int.eq_ofNat_of_zero_le aR;exact .eW (.EV J.bs ax.bs aw (by omega))
theorem Yt {en:bJ α}{L r:List α}{e:TypeId}{pL:IntKind}(J:Rd g a (.bj en.z L.length (bp en L))) (ak:Rd g b (.lit (.int k m))) (bY:Rd g c (.lit (.int pL n))) (aw:fr P t e en.z=true) (h:nV L m n=some r):ch P g (.slice t a (some b) (some c) none) ty (ag en r):=by
 unfold nV at h
 split at h
 ·rename_i aa;obtain ⟨aR,h1,af⟩:=aa;cases h;obtain ⟨i,rfl⟩:=Int.eq_ofNat_of_zero_le aR;obtain ⟨j,rfl⟩:=Int.eq_ofNat_of_zero_le (show 0<=n by omega);have:=c7.AA (P:=P) (ty:=ty) (t:=t) (l:=i) (h:=j) (lo:=some b) (hi:=some c) J.bs ⟨_,ak.bs⟩ ⟨_,bY.bs⟩ aw (by omega) (by omega);rw [Ay,ye] at this;have cA:(((L.drop i).take (j - i)).length)=j - i:=by rw [List.length_take,List.length_drop]; omega
  have cf:((j:Int) - (i:Int)).toNat=j - i:=by omega
  rw [Int.toNat_natCast,cf];unfold ag;rw [cA];exact .eW this
 ·cases h
theorem Yu {en:bJ α}{L r:List α}{e:TypeId}(J:Rd g a (.bj en.z L.length (bp en L))) (bY:Rd g c (.lit (.int k n))) (aw:fr P t e en.z=true) (h:nV L 0 n=some r):ch P g (.slice t a none (some c) none) ty (ag en r):=by
 unfold nV at h
 split at h
 ·rename_i aa;obtain ⟨_,h1,af⟩:=aa;cases h;obtain ⟨j,rfl⟩:=Int.eq_ofNat_of_zero_le h1;have:=c7.AA (P:=P) (ty:=ty) (t:=t) (l:=0) (h:=j) (lo:=none) (hi:=some c) J.bs rfl ⟨_,bY.bs⟩ aw (by omega) (by omega);rw [Ay,ye] at this;have cA:(((L.drop 0).take (j - 0)).length)=j - 0:=by rw [List.length_take,List.length_drop]; omega
  have cf:((j:Int) - 0).toNat=j - 0:=by omega
  rw [cf];unfold ag;have fP:(0:Int).toNat=0:=rfl;rw [fP,cA];exact .eW this
 ·cases h
theorem Yv {en:bJ α}{L r:List α}{e:TypeId}(J:Rd g a (.bj en.z L.length (bp en L))) (ak:Rd g b (.lit (.int k m))) (aw:fr P t e en.z=true) (h:nV L m L.length=some r):ch P g (.slice t a (some b) none none) ty (ag en r):=by
 unfold nV at h
 split at h
 ·rename_i aa;obtain ⟨aR,h1,af⟩:=aa;cases h;obtain ⟨i,rfl⟩:=Int.eq_ofNat_of_zero_le aR;have:=c7.AA (P:=P) (ty:=ty) (t:=t) (l:=i) (h:=L.length) (lo:=some b) (hi:=none) J.bs ⟨_,ak.bs⟩ rfl aw (by omega) (by omega);rw [Ay,ye] at this;have cA:(((L.drop i).take (L.length - i)).length)=L.length - i:=by rw [List.length_take,List.length_drop]; omega
  have cf:((L.length:Int) - (i:Int)).toNat=L.length - i:=by omega
  rw [Int.toNat_natCast,cf];unfold ag;rw [cA];exact .eW this
 ·cases h
theorem Bl {cT f off:Nat}{cs:List ab}(J:Rd g a (.cH cs)) (aW:hM P cT f off t=true):ch P g (.fieldAddr cT a f) ty (.cH (cs.drop off)):=.eW (.Eh J.bs aW)
theorem Co {x:ab}{cs:List ab}(J:Rd g a (.cH cs)) (aw:jq P t=true) (aa:cs.head?=some x):ch P g (.load t a) ty x:=by
 cases cs with
 | nil=>cases aa
 | cons y cs=>cases aa; exact .eW (.E9 J.bs aw)
theorem ng {z:Nat}{cs cs':List ab}(J:Rd g a (.cH cs)) (aw:ik P t z=true) (aa:cs.take z=cs') (aY:cs'.length=z):ch P g (.load t a) ty (.agg cs'):=by
 subst aa;exact .eW (.E_ J.bs aw (by rw [List.length_take] at aY; omega))
theorem xK {cs:List ab}(J:Rd g a (.cH cs)):ch P g (.nilCheck a) ty (.cH cs):=.eW (.qD J.bs)
theorem eV {p:Place}{k:Nat}(J:Rd g a (.ptr p k)):ch P g (.nilCheck a) ty (.ptr p k):=.eW (.Fg J.bs)
theorem fd {cT f off:Nat}{cs:List ab}{x:ab}(J:Rd g a (.agg cs)) (aW:hM P cT f off t=true) (aw:jq P t=true) (ax:cs[off]?=some x):ch P g (.field cT a f) ty x:=.eW (.Eg J.bs aW aw ax)
theorem ex {p i:Nat}{cs:List ab}{x y:ab}(J:g p=some (.bW cs)) (ax:cs[i]?=some x) (ao:gv 1 (Place.push ⟨p,[]⟩ i) x=y):ch P g (.extract (.tmp p) i) ty y :=
 .eW (.Ed (cs:=cs.mapIdx λi x=>gv 1 (Place.push ⟨p,[]⟩ i) x) (by simp [bs,J,ru,gv]) (by simp [ax,ao]))
theorem box {e:TypeId}{y:ab}{cs:List ab}(J:Rd g a y) (aa:jT y=some cs):ch P g (.box e a) ty (.obj cs):=.qF (.box J.bs aa)
theorem kr {cT f off k r:Nat}{cs:List ab}(aC:g r=some (.obj cs)) (J:Rd g a (.ptr ⟨r,[]⟩ k)) (aW:hM P cT f off t=true) (aT:Nat.blt (k+off) cs.length=true):ch P g (.fieldAddr cT a f) ty (.ptr ⟨r,[]⟩ (k+off)) :=
 .eW (.Bn J.bs aW ⟨.obj cs,by simp [bD,aC,ab.at],0,0,cs,.inr rfl,by simpa using aT⟩)
theorem mA {k r:Nat}{cs:List ab}{x y:ab}(aC:g r=some (.obj cs)) (J:Rd g a (.ptr ⟨r,[]⟩ k)) (aw:jq P t=true) (aa:cs[k]?=some x) (ax:gv 0 ⟨r,[k]⟩ x=y):ch P g (.load t a) ty y:=by
 subst ax;exact .eW (.Ct (p:=⟨r,[]⟩) J.bs aw (by simp [bD,aC,ab.at,Place.push,ab.kids,aa]))
theorem ed {k r z:Nat}{cs cs':List ab}(aC:g r=some (.obj cs)) (J:Rd g a (.ptr ⟨r,[]⟩ k)) (aw:ik P t z=true) (hk:Nat.ble (k+z) cs.length=true) (aa:(((cs.drop k).take z).mapIdx λi x=>gv 0 ⟨r,[k+i]⟩ x)=cs'):ch P g (.load t a) ty (.agg cs'):=by
 subst aa;exact .eW (.xH (p:=⟨r,[]⟩) (n:=0) (z:=0) J.bs aw (by simp [bD,aC,ab.at]) (.inr rfl) (Nat.le_of_ble_eq_true hk))
end O
theorem qY.cd {x:Operand}{y:ab}{xs:List Operand}{ys:List ab}(h:Rd g x y) [aF:cg y] (aw:qY g xs ys):qY g (x::xs) (y::ys):=.cons h aF.bm aw
theorem cz.go {xs:List Operand}{gm:Array TypeId}{f:FuncId}{ys:List ab}{outs:List (Option ab)}{res:ab}(J:qY g xs ys) (gP:bT P f ys outs res) (aW:gM P f=true) (a1:si outs=true) [ao:cg res] :
  cz P g (.call { callee:=.value (.func f),args:=xs.toArray,argTypes:=gm }) res:=.Ta gP aW J a1 ao.bm
inductive uU (P:Program) (g:aM):List ResultVar->List ab->Prop
 | nil:uU P g [] []
 | f {t:Nat}{x:ab}{rs:List ResultVar}{xs:List ab}(h:g t=some x) (aW:l2 x=true) [aF:cg x] (aw:uU P g rs xs):uU P g (.tmp t::rs) (x::xs)
 | c {a:Nat}{t:TypeId}{z:Nat}{cs:List ab}{rs:List ResultVar}{xs:List ab}(h:g a=some (.obj cs)) (aw:ik P t z=true) (aY:cs.length=z) (aW:(0<z&&cs.all l2)=true) [aF:dq cs] (ao:uU P g rs xs):uU P g (.cell a t::rs) (.agg cs::xs)
theorem uU.spec {rs:List ResultVar}{xs:List ab}(h:uU P g rs xs):rL P g rs xs/\∀ x∈xs,cU x:=by
 induction h with
 | nil=>exact ⟨.nil,by simp⟩
 | @f t x rs xs h aW aF _ aU=>exact ⟨.cons (.tmp (Rd.f h aW)) aU.1,pO aF.bm aU.2⟩
 | @c a t z cs rs xs h aw aY aW aF _ aU =>
  simp only [Bool.and_eq_true,decide_eq_true_eq] at aW;refine ⟨.cons ?_ aU.1,pO (.agg aF.bm) aU.2⟩;have J:Own.bs g (.tmp a)=some (.ptr ⟨a,[]⟩ 0):=by
   cases cs with
   | nil=>simp at aY; omega
   | cons c cs=>simp [Own.bs,h,ru,gv]
  have:=c7.xH (P:=P) (ty:=t) (p:=⟨a,[]⟩) (n:=0) (z:=0) J aw (by simp only [bD,h,ab.at]) (.inr rfl) (show 0+z<=cs.length by omega);have hN:((cs.drop 0).take z).mapIdx (λi x=>gv 0 (Place.push ⟨a,[]⟩ (0+i)) x)=cs:=by
   rw [List.drop_zero,List.take_of_length_le (by omega)];exact Bp aW.2
  rw [hN] at this;exact .cell this
theorem Fin.rt {rs:List ResultVar}{xs:List ab}{res:ab}{outs:List (Option ab)}{n:Nat}(h:uU P g rs xs) (he:qI xs=res) (a1:si outs=true) (ak:outs.length=n):Fin P N rs n outs res .ret g :=
 ⟨.inr rfl,⟨xs,xs,g,h.spec.1,.bm h.spec.2,he.symm,λk x hk=>absurd hk (Fi a1 k x)⟩,ak⟩
end
def xN:Nat->List ab->List (Nat × ab)
 | _,[]=>[]
 | i,x::l=>(i,x)::xN (i+1) l
theorem MP:∀ (l:List ab) (i t:Nat),get (xN i l) t=if i<=t then l[t - i]? else none
 | [],i,t=>by simp [xN,get]
 | x::l,i,t=>by
  simp only [xN,get];by_cases h:t=i
  ·subst h; simp
  ·rw [if_neg h,MP l (i+1) t];by_cases h1:i+1<=t
   ·rw [if_pos h1,if_pos (by omega)];have:t - i=(t - (i+1))+1:=by omega
    rw [this,List.getElem?_cons_succ]
   ·rw [if_neg h1,if_neg (by omega)]
theorem Rw (args:List ab):qa args=get (xN 0 args):=funext λt=>by rw [MP]; simp [qa]
theorem bT.go {P:Program}{f:FuncId}{fn:Func}{c:Code}{args:List ab}{outs:List (Option ab)}{res:ab}{N:c6}(aW:P.funcs[f]?=some fn) (av:fn.body=some c) (bc:fn.ntmps=N.size) (aP:Nat.ble args.length N.size=true) (hlen:outs.length=args.length)
  (hw:W P N c (get (xN 0 args)) (Fin P N fn.results.toList args.length outs res)):bT P f args outs res :=
 .fin aW av bc aP hlen (by rw [Rw]; exact hw)
end Go.Own
namespace Go.Own
open Go
section
variable {P:Program}{N:c6}{Φ ow:Exit->aM->Prop}{Ψ:aM->Prop}{G G1:List (Nat × ab)}{A B c:Code}{id k:Nat}{e:Exit}{S R:Type}
theorem jF.c5 (h:Trim true (get G) (get G1) G1):jF P N .skip G G1:=.skip h
inductive ig:aM->List (Nat × ab)->Prop
 | hY {G:List (Nat × ab)}:ig (get G) G
 | eY {g g1:aM}{G:List (Nat × ab)}(h:ko g g1) (av:ig g1 G):ig g G
theorem ig.trans {g:aM}{G G1:List (Nat × ab)}(h:ig g G) (h1:ig (get G) G1):ig g G1:=by
 induction h with
 | hY=>exact h1
 | eY h _ aU=>exact .eY h (aU h1)
inductive AR (P:Program) (N:c6):aM->Exit->(Exit->aM->Prop)->Prop
 | hY {g:aM}{e:Exit}{Φ:Exit->aM->Prop}(h:Φ e g):AR P N g e Φ
 | eY {g g1:aM}{e:Exit}{Φ:Exit->aM->Prop}(hw:ko g g1) (h:AR P N g1 e Φ):AR P N g e Φ
theorem W.outs {g:aM}(h:W P N c g Φ) (nO:∀ e g',Φ e g'->AR P N g' e ow):W P N c g ow:=by
 intro a w I Fs Q bk bc dO;refine h bk bc λe g' b' w' au aF=>?_;have tT:=nO e g' au;clear au nO;revert aF
 induction tT with
 | hY h=>exact λaF=>dO _ _ _ _ h aF
 | eY hw _ aU =>
  intro aF;refine aU dO ?_;obtain ⟨h1,af,I',b7,dX,b0⟩:=aF;obtain ⟨iY,h8,gH⟩:=dX.eY hw;exact ⟨h1,af,I',iY,h8,b0.eT,b0.more,b0.new,λc ⟨t,aa⟩=>b0.own c ⟨t,gH t c aa⟩⟩
def aA (e:Exit) (Φ:Exit->aM->Prop) (G:List (Nat × ab)):Prop:=∀ g,ig g G->Φ e g
theorem W.be {g:aM}(h:W P N c (get G) Φ) (av:ig g G):W P N c g Φ:=by
 induction av with
 | hY=>exact h
 | eY hw _ aU=>exact (aU h).weaken hw
theorem pc.be {g:aM}(h:pc P N c (get G) Φ) (av:ig g G):pc P N c g Φ:=by
 induction av with
 | hY=>exact h
 | eY hw _ aU=>exact (aU h).weaken hw
theorem aA.bw (h:W P N B (get G) Φ):aA .normal (o1 (λg1=>W P N B g1 Φ) ow) G:=λ_ av=>Y0 (h.be av)
theorem aA.fa (h:aA (.exit k) ow G):aA (.exit k) (o1 Ψ ow) G:=λg av=>YZ (h g av)
theorem aA.hI (h:aA .ret ow G):aA .ret (o1 Ψ ow) G:=λg av=>Y1 (h g av)
theorem aA.b3 (h:aA .normal Φ G):aA .normal (mb id Φ) G:=λg av=>WS (h g av)
theorem aA.e9 (h:aA .normal Φ G):aA (.exit id) (mb id Φ) G:=λg av=>WQ (h g av)
theorem aA.GY (hk:Nat.beq k id=false) (h:aA (.exit k) Φ G):aA (.exit k) (mb id Φ) G:=λg av=>WR hk (h g av)
theorem aA.kH (h:aA .ret Φ G):aA .ret (mb id Φ) G:=λg av=>WT (h g av)
theorem W.fb (h:aA (.exit k) Φ G):W P N (.exit k) (get G) Φ:=W.exit (h _ .hY)
theorem W.c5 (h:aA .normal Φ G):W P N .skip (get G) Φ:=W.skip (h _ .hY)
theorem W.rt (h:aA .ret Φ G):W P N .ret (get G) Φ:=W.ret (h _ .hY)
theorem W.rx {id:Nat}{l:List Oper}(G1:List (Nat × ab)) (h:ar P N l.toArray l (get G) λg'=>ko g' (get G1)) (hk:aA .normal Φ G1):W P N (.region id l.toArray false) (get G) Φ :=
 W.Ax (λi hi=>by obtain ⟨g',h1,af⟩:=h i hi; exact ⟨g',h1,hk g' (.eY af .hY)⟩)
theorem W.dC {G1:List (Nat × ab)}(h:Trim true (get G) (get G1) G1) (hw:W P N c (get G1) Φ):W P N c (get G) Φ:=hw.weaken h.eY
theorem W.st {G:List (Nat × ab)}(G1:List (Nat × ab)) (h:W P N c (get G1) Φ) (e:G1=G:=by rfl):W P N c (get G) Φ:=by subst e; exact h
theorem W.b3 (h:W P N c (get G) (mb id Φ)):W P N (.block id c) (get G) Φ:=W.block h
theorem W.dF (G1:List (Nat × ab)) (h:W P N c (get G) λe g=>e=.normal/\ig g G1) (hk:aA .normal Φ G1):W P N c (get G) Φ :=
 h.mono λe g ⟨he,av⟩=>by subst he; exact hk g av
theorem aA.dF (h:Trim true (get G) (get G1) G1):aA .normal (λe g=>e=.normal/\ig g G1) G:=λ_ av=>⟨rfl,av.trans (.eY h.eY .hY)⟩
def k5 (G:S->List (Nat × ab)) (Ψ:R->Exit->aM->Prop):S ⊕ R->Exit->aM->Prop
 | .inl s,e,g=>e=.normal/\ig g (G s)
 | .inr r,e,g=>e≠.normal/\Ψ r e g
theorem pc.it {f:S->Option (S ⊕ R)}{G:S->List (Nat × ab)}{Ψ:R->Exit->aM->Prop}(av:∀ s o,f s=some o->W P N c (get (G s)) (k5 G Ψ o)) :
  ∀ (n:Nat) (s:S) (r:R),Own.iter f n s=some r->pc P N c (get (G s)) (Ψ r)
 | 0,_,_,h=>by simp [Own.iter] at h
 | n+1,s,r,h=>by
  simp only [Own.iter] at h;cases aW:f s with
  | none=>rw [aW] at h; cases h
  | some o =>
   rw [aW] at h;refine .step ((av s o aW).mono λe g' ao=>?_);cases o with
   | inl cT =>
    obtain ⟨rfl,hw⟩:=ao;exact (pc.it av n cT r h).be hw
   | inr dn =>
    cases h;obtain ⟨aF,hw⟩:=ao;cases e with
    | normal=>exact absurd rfl aF
    | _=>exact hw
theorem W.eO {f:S->Option (S ⊕ R)}{s:S}{r:R}(G:S->List (Nat × ab)) (Ψ:R->Exit->aM->Prop) (h:b4 f s=some r) (av:∀ s o,f s=some o->W P N c (get (G s)) (k5 G Ψ o)) (hk:∀ e g,Ψ r e g->Φ e g):W P N (.loop c) (get (G s)) Φ :=
 (W.loop (pc.it av fuel s r h)).mono hk
theorem W.zK {f:S->Option (S ⊕ R)}{s:S}{r:R}(G:S->List (Nat × ab)) (id:Nat) (mi:R->List (Nat × ab)) (h:b4 f s=some r) (av:∀ s o,f s=some o->W P N c (get (G s)) (k5 G (λr e g=>e=.exit id/\ig g (mi r)) o)) (hk:aA (.exit id) Φ (mi r)):W P N (.loop c) (get (G s)) Φ :=
 .eO G _ h av λe g ⟨he,aO⟩=>by subst he; exact hk g aO
theorem W.OG {gK:Type}{f:S->Option (S ⊕ (R ⊕ gK))}{s:S}{r:R ⊕ gK}(G:S->List (Nat × ab)) (id:Nat) (mi:R->List (Nat × ab)) (h5:gK->List (Nat × ab)) (h:b4 f s=some r)
  (av:∀ s o,f s=some o->W P N c (get (G s)) (k5 G (λ(r:R ⊕ gK) e g=>match r with | .inl r=>e=.exit id/\ig g (mi r) | .inr r=>e=.ret/\ig g (h5 r)) o))
  (J:∀ x,r=.inl x->aA (.exit id) Φ (mi x)) (ao:∀ x,r=.inr x->aA .ret Φ (h5 x)):W P N (.loop c) (get (G s)) Φ:=by
 refine .eO G _ h av λe g h=>?_;cases r with
 | inl r=>obtain ⟨rfl,aO⟩:=h; exact J r rfl g aO
 | inr r=>obtain ⟨rfl,aO⟩:=h; exact ao r rfl g aO
theorem aA.go {s:S}{F:S->List (Nat × ab)}{Ψ:R->Exit->aM->Prop}(h:Trim true (get G) (get (F s)) (F s)):aA .normal (k5 F Ψ (.inl s)) G:=λ_ av=>⟨rfl,av.trans (.eY h.eY .hY)⟩
theorem aA.a8 {r:R}{F:S->List (Nat × ab)}{mi:R->List (Nat × ab)}(h:Trim true (get G) (get (mi r)) (mi r)):aA (.exit id) (k5 F (λr e g=>e=.exit id/\ig g (mi r)) (.inr r)) G:=λ_ av=>⟨by simp,rfl,av.trans (.eY h.eY .hY)⟩
theorem aA.x2 {gK:Type}{r:R}{F:S->List (Nat × ab)}{mi:R->List (Nat × ab)}{h5:gK->List (Nat × ab)}(h:Trim true (get G) (get (mi r)) (mi r)) :
  aA (.exit id) (k5 F (λ(r:R ⊕ gK) e g=>match r with | .inl r=>e=.exit id/\ig g (mi r) | .inr r=>e=.ret/\ig g (h5 r)) (.inr (.inl r))) G:=λ_ av=>⟨by simp,rfl,av.trans (.eY h.eY .hY)⟩
theorem aA.jQ {gK:Type}{r:gK}{F:S->List (Nat × ab)}{mi:R->List (Nat × ab)}{h5:gK->List (Nat × ab)}(h:Trim true (get G) (get (h5 r)) (h5 r)) :
  aA .ret (k5 F (λ(r:R ⊕ gK) e g=>match r with | .inl r=>e=.exit id/\ig g (mi r) | .inr r=>e=.ret/\ig g (h5 r)) (.inr (.inr r))) G:=λ_ av=>⟨by simp,rfl,av.trans (.eY h.eY .hY)⟩
def p4 (P:Program) (N:c6) (rs:List ResultVar) (n:Nat) (outs:List (Option ab)) (res:ab) (e:Exit) (g:aM):Prop:=∃ G,ig g G/\Fin P N rs n outs res e (get G)
theorem W.fin {rs:List ResultVar}{n:Nat}{outs:List (Option ab)}{res:ab}{g:aM}(h:W P N c g (p4 P N rs n outs res)):W P N c g (Fin P N rs n outs res):=by
 have key:∀ e g,p4 P N rs n outs res e g->AR P N g e (Fin P N rs n outs res):=by
  rintro e g ⟨G,av,aW⟩
  induction av with
  | hY=>exact .hY aW
  | eY hw _ aU=>exact .eY hw (aU aW)
 exact W.outs h key
theorem aA.fin {rs:List ResultVar}{n:Nat}{outs:List (Option ab)}{res:ab}(h:Fin P N rs n outs res e (get G)):aA e (p4 P N rs n outs res) G:=λ_ av=>⟨G,av,h⟩
end
end Go.Own
namespace Go.Own
open Go
section
variable {P:Program}{N:c6}{ops:Array Oper}{bd:List (List Nat)}{g0:aM}{K:aM->Prop}{l:List Oper}{acc:Acc}{d i:Nat}{op:Op}{ty:TypeId}{pos:String}{after:Array Edge}{x:ab}{gd:Option (Nat × Bool)}
abbrev jA (bd:List (List Nat)) (g0:aM) (j:Nat) (acc:Acc):aM:=dh g0 (λm=>(bd.getD j []).contains m) acc
def bA (P:Program) (N:c6) (ops:Array Oper) (bd:List (List Nat)) (g0:aM) (i:Nat) (acc:Acc) (l:List Oper) (K:aM->Prop):Prop:=∀ dV j,mL P N ops bd g0 i dV->iK P N ops bd g0 i dV j acc->ops.toList.drop j=l->∃ g',ss P N ops bd i dV g0 g'/\K g'
theorem zc {j bG:Nat}{o:Oper}(h:ops.toList.drop j=o::l) (ah:Nat.beq ops.size (bG+l.length+1)=true):j=bG:=by
 grind [List.length_cons,Nat.eq_of_beq_eq_true]
theorem Rf (aF:acc.all (λe=>!Nat.beq e.2.1 d)=true):∀ e∈acc,e.2.1≠d:=by
 intro e he h;have:=List.all_eq_true.1 aF e he
 simp_all
theorem bA.st (bG:Nat) {r:Option ab}{o:Oper}(aS:o.dst=some d) (aC:p' P (jA bd g0 bG acc) ops o r) (ah:Nat.beq ops.size (bG+l.length+1)=true) (aW:g0 d=none) (aF:acc.all (λe=>!Nat.beq e.2.1 d)=true) (bc:N.ok d=true)
  (hk:bA P N ops bd g0 i ((bG,d,r)::acc) l K):bA P N ops bd g0 i acc (o::l) K:=by
 intro dV j cx kP k_;have:=zc k_ ah;subst this;obtain ⟨h1,af⟩:=drop_cons k_;exact hk dV (j+1) cx (.step kP h1 aS aW (Rf aF) bc aC) af
theorem bA.v (bG:Nat) (au:ch P (jA bd g0 bG acc) op ty x) (ah:Nat.beq ops.size (bG+l.length+1)=true) (aW:g0 d=none) (aF:acc.all (λe=>!Nat.beq e.2.1 d)=true) (bc:N.ok d=true) (aO:fv (jA bd g0 bG acc) ops gd)
  (hk:bA P N ops bd g0 i ((bG,d,some x)::acc) l K):bA P N ops bd g0 i acc (⟨some d,op,ty,pos,after,gd⟩::l) K :=
 .st bG (r:=some x) rfl (.inl ⟨aO.wanted,.inl au⟩) ah aW aF bc hk
theorem bA.c (bG:Nat) (au:cz P (jA bd g0 bG acc) op x) (ah:Nat.beq ops.size (bG+l.length+1)=true) (aW:g0 d=none) (aF:acc.all (λe=>!Nat.beq e.2.1 d)=true) (bc:N.ok d=true) (aO:fv (jA bd g0 bG acc) ops gd)
  (hk:bA P N ops bd g0 i ((bG,d,some x)::acc) l K):bA P N ops bd g0 i acc (⟨some d,op,ty,pos,after,gd⟩::l) K :=
 .st bG (r:=some x) rfl (.inl ⟨aO.wanted,.inr au⟩) ah aW aF bc hk
theorem bA.ps (bG:Nat) {vz t':Nat}{b c:Bool}(h:(ops[vz]?).bind (·.dst)=some t') (aO:jA bd g0 bG acc t'=some (a_ c)) (av:c=!b) (ah:Nat.beq ops.size (bG+l.length+1)=true) (aW:g0 d=none) (aF:acc.all (λe=>!Nat.beq e.2.1 d)=true) (bc:N.ok d=true)
  (hk:bA P N ops bd g0 i ((bG,d,some (.bW []))::acc) l K):bA P N ops bd g0 i acc (⟨some d,op,ty,pos,after,some (vz,b)⟩::l) K :=
 .st bG (r:=some (.bW [])) rfl (.inr (.inl ⟨⟨t',h,.inl ⟨c,aO,by subst av; cases b <;> rfl⟩⟩,rfl⟩)) ah aW aF bc hk
theorem bA.pu (bG:Nat) {vz t':Nat}{b:Bool}(h:(ops[vz]?).bind (·.dst)=some t') (aO:jA bd g0 bG acc t'=some (.bW [])) (ah:Nat.beq ops.size (bG+l.length+1)=true) (aW:g0 d=none) (aF:acc.all (λe=>!Nat.beq e.2.1 d)=true) (bc:N.ok d=true)
  (hk:bA P N ops bd g0 i ((bG,d,some (.bW []))::acc) l K):bA P N ops bd g0 i acc (⟨some d,op,ty,pos,after,some (vz,b)⟩::l) K :=
 .st bG (r:=some (.bW [])) rfl (.inr (.inl ⟨⟨t',h,.inr ⟨aO,rfl⟩⟩,rfl⟩)) ah aW aF bc hk
def mc (G:List (Nat × ab)):Bool:=G.all λp=>match p.2 with | .bL ..=>false | _=>true
theorem vF {G:List (Nat × ab)}(h:mc G=true):∀ t z q n m new,get G t≠some (.bL z q n m new):=by
 induction G with
 | nil=>intro t z q n m new J; cases J
 | cons p G aU =>
  grind [mc,get]
theorem bA.fin {G G1:List (Nat × ab)}(aY:acc.filterMap j1=[]) (fH:mc G=true) (hi:Nat.ble i ops.size=true) (h:Trim true (dh (get G) (λ_=>true) acc) (get G1) G1):bA P N ops bd (get G) i acc [] λg'=>ko g' (get G1):=by
 intro dV j cx kP k_;have ah:j=ops.size:=by
  have h1:ops.size<=j:=by
   simp_all
  have aI:j<=ops.size:=by
   cases kP with
   | nil=>exact Nat.le_of_ble_eq_true hi
   | step _ a1=>have:=(Array.getElem?_eq_some_iff.1 a1).1; omega
  omega
 subst ah;exact ⟨_,.fin kP (by rw [aY]; exact List.nodup_nil) (vF fH),h.eY⟩
theorem ss.LN {g g1 g':aM}{i j:Nat}{dV:Acc}{o:Oper}(cx:mL P N ops bd g i dV) (aC:iK P N ops bd g i dV j acc) (gQ:(acc.filterMap j1).Nodup) (fH:∀ t z q n m new,g t≠some (.bL z q n m new)) (a1:ops[j]?=some o) (hw:iA (dh g (λ_=>true) acc) ops o true)
  (he:bl P N (dh g (λ_=>true) acc) o g1) (aP:(List.range j).all (λk=>(bd.getD j []).contains k)=true) (av:(List.range ops.size).all (λk=>decide (k<=j)||(bd.getD k []).contains j)=true) (ao:ss P N ops bd (j+1) [] g1 g'):ss P N ops bd i dV g g':=by
 have et:∀ e∈acc,(bd.getD j []).contains e.1=true:=λe h=>List.all_eq_true.1 aP e.1 (List.mem_range.2 ((aC.le cx).2 e h));have e:dh g (λm=>(bd.getD j []).contains m) acc=dh g (λ_=>true) acc:=funext λt=>Ds λe h _=>et e h;have ga:[]=acc.filter λe=>!(bd.getD j []).contains e.1:=by
  grind [List.filter_eq_nil_iff]
 exact .wC (rs:=sk []) aC gQ fH a1 (by rw [e]; exact hw) (by rw [e]; exact he.j_.v) (λp au=>by simp [sk] at au) ga (by simp) (by simp) (by simp) av ao
theorem W.rd {id:Nat}{l:List Oper}{G:List (Nat × ab)}{Φ:Exit->aM->Prop}(bd:List (List Nat)) (G1:List (Nat × ab)) (hm:P.follows .mixedOrders=true) (et:pe l.toArray bd=true)
  (h:bA P N l.toArray bd (get G) 0 [] l λg'=>ko g' (get G1)) (hk:aA .normal Φ G1):W P N (.region id l.toArray true) (get G) Φ:=by
 obtain ⟨g',h1,af⟩:=h [] 0 .nil .nil (by simp);exact (gb.draw hm et h1).w (hk g' (.eY af .hY))
end
end Go.Own
namespace Go.Own
open Go
variable {α:Type}
section
variable {P:Program}{N:c6}{ops:Array Oper}{g g2:aM}{K:aM->Prop}{l:List Oper}{d r:Nat}{ty t t2:TypeId}{pos:String}{after:Array Edge}{a b c:Operand}{k kT:IntKind}{m n:Int}{s u:ByteArray}
namespace O
theorem fm {e:TypeId}{z:Value}{cs:List ab}(aY:(P.info? e).bind (·.zero)=some z) (h1:z.cells.toList.all Value.oneCell'=true) (aa:z.cells.toList.map lQ=cs):ch P g (.alloc e) ty (.obj cs):=by
 subst aa; exact .qF (.alloc aY (by rw [<- Array.all_toList]; exact h1))
theorem ej {t:TypeId}{parts:Array (Nat × Operand)}{pl:List (Nat × Nat)}{dJ:Value}{ps:List (Nat × List ab)}{cs:List ab}(aw:kz P t pl=true) (aY:(P.info? t).bind (·.zero)=some dJ) (h1:dJ.cells.toList.all Value.oneCell'=true)
  (au:rm g parts.toList=some ps) (aa:u0 (λi=>pl[i]?) (dJ.cells.toList.map lQ) ps=some cs):ch P g (.build t parts) ty (.agg cs):=.CG (.build aw aY (by rw [<- Array.all_toList]; exact h1) au aa)
end O
inductive p_ (g g2:aM):ab->Prop
 | n {x:ab}(h:cU x):p_ g g2 x
 | p {r k:Nat}{cs cs2:List ab}(h:g r=some (.obj cs)) (hk:k<cs.length) (af:g2 r=some (.obj cs2)) (fX:k<cs2.length):p_ g g2 (.ptr ⟨r,[]⟩ k)
 | r {z n N Ld q:Nat}{cs cs2:List ab}(h:g q=some (.own z N cs)) (aF:n<=N) (af:g2 q=some (.own z Ld cs2)) (od:n<=Ld):p_ g g2 (.a6 z ⟨q,[]⟩ n)
theorem uA {r k:Nat}{cs:List ab}(h:g r=some (.obj cs)) (hk:k<cs.length):gD g (.ptr ⟨r,[]⟩ k):=⟨.obj cs,by simp [bD,h,ab.at],0,0,cs,.inr rfl,hk⟩
theorem Av {z n N q:Nat}{cs:List ab}(h:g q=some (.own z N cs)) (aF:n<=N):gD g (.a6 z ⟨q,[]⟩ n):=.inl ⟨N,cs,by simp [bD,h,ab.at],aF⟩
theorem p_.bV {x:ab}(h:p_ g g2 x):di g2 x:=by
 cases h with
 | n h=>exact .bm h
 | p _ _ af fX=>exact .ref rfl (uA af fX)
 | r _ _ af od=>exact .ref rfl (Av af od)
theorem p_.yd {x:ab}{As k0 m0:Nat}(h:p_ g g2 x):jm (λr=>gD g r/\Clear ⟨As,[]⟩ k0 m0 r/\gD g2 r) x:=by
 cases h with
 | n h=>exact .bm h
 | p h hk af fX =>
  refine .ref rfl ⟨uA h hk,?_,uA af fX⟩;intro q bg _ j dn e
  grind [Aw]
 | r h hk af fX =>
  refine .ref rfl ⟨Av h hk,?_,Av af fX⟩;intro q bg _ j dn e
  grind [Aw]
theorem p_.fy {x:ab}(h:p_ g g2 x):∀ z p n m new,x≠.bL z p n m new:=by
 rintro z p n m new rfl;cases h with
 | n h=>cases h
inductive k6 (g g2:aM) (r:Nat) (cs2:List ab):List (Nat × ab)->Prop
 | nil:k6 g g2 r cs2 []
 | n {s:Nat}{x:ab}{l:List (Nat × ab)}(dr:Nat.beq s r=false) (h:g s=some x) [aF:cg x] (t:k6 g g2 r cs2 l):k6 g g2 r cs2 ((s,x)::l)
 | p {s q k:Nat}{l:List (Nat × ab)}{cs kq:List ab}(dr:Nat.beq s r=false) (h:g s=some (.ptr ⟨q,[]⟩ k)) (h1:g q=some (.obj cs)) (hk:Nat.blt k cs.length=true) (af:g2 q=some (.obj kq)) (fX:Nat.blt k kq.length=true) (t:k6 g g2 r cs2 l):k6 g g2 r cs2 ((s,.ptr ⟨q,[]⟩ k)::l)
 | w {α:Type}{s q:Nat}{en:bJ α}{L:List α}{l:List (Nat × ab)}(dr:Nat.beq s r=false) (h:g s=some (.a6 en.z ⟨q,[]⟩ L.length)) (h1:g q=some (aj en L)) (af:g2 q=some (aj en L)) (t:k6 g g2 r cs2 l):k6 g g2 r cs2 ((s,.a6 en.z ⟨q,[]⟩ L.length)::l)
 | b {l:List (Nat × ab)}{x:ab}(e:x=.obj cs2) [aF:dq cs2] (t:k6 g g2 r cs2 l):k6 g g2 r cs2 ((r,x)::l)
theorem k6.spec {cs2:List ab}{l:List (Nat × ab)}(h:k6 g g2 r cs2 l):∀ t x,get l t=some x->(t≠r/\g t=some x/\p_ g g2 x)\/(t=r/\x=.obj cs2/\cU x):=by
 induction h with
 | nil=>intro t x J; cases J
 | @n s x l dr h aF _ aU =>
  intro t y ax;simp only [get] at ax
  split at ax
  ·rename_i e;subst e;cases ax;exact .inl ⟨Nat.ne_of_beq_eq_false dr,h,.n aF.bm⟩
  grind
 | @p s q k l cs kq dr h h1 hk af fX _ aU =>
  intro t y ax;simp only [get] at ax
  split at ax
  ·rename_i e;subst e;cases ax;exact .inl ⟨Nat.ne_of_beq_eq_false dr,h,.p h1 (by simpa using hk) af (by simpa using fX)⟩
  grind
 | @w α s q en L l dr h h1 af _ aU =>
  intro t y ax;simp only [get] at ax
  split at ax
  ·rename_i e;subst e;cases ax;exact .inl ⟨Nat.ne_of_beq_eq_false dr,h,.r h1 (Nat.le_refl _) af (Nat.le_refl _)⟩
  grind
 | @b l x e aF _ aU =>
  intro t y ax;simp only [get] at ax
  split at ax
  ·rename_i cj;subst cj;cases ax;subst e;exact .inr ⟨rfl,rfl,.obj aF.bm⟩
  grind
theorem bl.box {o:Oper}{k0:Nat}{cs cs' cs2:List ab}{y:ab}{G2:List (Nat × ab)}(a1:o.op=.store t a b) (aS:o.dst=none) (aC:g r=some (.obj cs)) (aP:Rd g a (.ptr ⟨r,[]⟩ k0)) (av:Rd g b y) (aF:cU y) (aa:oH y=some cs') (aY:hl P t cs'.length=true)
  (hk:k0+cs'.length<=cs.length) (aR:0<cs'.length) (he:e5 cs k0 cs'=cs2) [e8:dq cs] (ao:get G2 r≠none) (c_:k6 g (get G2) r cs2 G2):bl P N g o (get G2):=by
 subst he;have kd:g r≠none:=by rw [aC]; simp
 refine .store a1 aS aP.bs av.bs (.bm (by simpa using aF)) .refl aa aY (p:=⟨r,[]⟩) (nd:=.obj cs) (z:=0) (n:=0) (by simp [bD,aC,ab.at]) (.inr rfl) hk aR (λt x J=>?_) (λt x J y ax=>?_) (λt z q n m new J=>?_) ao
 ·rcases c_.spec t x J with ⟨h1,af,_⟩ | ⟨h1,af,_⟩
  all_goals grind [cv,ab.setAt,ab.e5]
 ·rcases c_.spec t x J with ⟨h1,af,aI⟩ | ⟨h1,af,aI⟩
  ·rw [af] at ax;cases ax;exact aI.yd
  ·subst h1;rw [aC] at ax;cases ax;exact .bm (.obj e8.bm)
 ·rcases c_.spec t _ J with ⟨_,_,aI⟩ | ⟨_,af,_⟩
  ·exact aI.fy _ _ _ _ _ rfl
  grind
theorem Trim.q {GU:Bool}{yj q k0:Nat}{cs:List ab}{OD:List (Nat × ab)}(h:g yj=some (.ptr ⟨q,[]⟩ k0)) (af:g2 q=some (.obj cs)) (hk:Nat.blt k0 cs.length=true) (hc:Trim GU g g2 OD):Trim GU g g2 ((yj,.ptr ⟨q,[]⟩ k0)::OD) :=
 .r h (.ref rfl (uA af (by simpa using hk))) (by simp) hc
theorem ar.kL {o:Oper}{G2:List (Nat × ab)}(aO:o.guard=none) (he:bl P N g o (get G2)) (hk:ar P N ops l (get G2) K):ar P N ops (o::l) g K:=by
 intro i hi;obtain ⟨h1,af⟩:=drop_cons hi;obtain ⟨g',ao,dj⟩:=hk (i+1) af;refine ⟨g',.j_ h1 ?_ he ao,dj⟩
 grind [iA]
theorem ar.jh {k0:Nat}{cs cs' cs2:List ab}{y:ab}{G2:List (Nat × ab)}(aC:g r=some (.obj cs)) (aP:Rd g a (.ptr ⟨r,[]⟩ k0)) (av:Rd g b y) [aF:cg y] (aa:oH y=some cs') (aY:hl P t cs'.length=true)
  (hk:Nat.ble (k0+cs'.length) cs.length=true) (aR:Nat.blt 0 cs'.length=true) (he:e5 cs k0 cs'=cs2) [e8:dq cs] (ao:(get G2 r).isSome=true) (c_:k6 g (get G2) r cs2 G2) (xa:ar P N ops l (get G2) K):ar P N ops (⟨none,.store t a b,ty,pos,after,none⟩::l) g K :=
 .kL rfl (.box rfl rfl aC aP av aF.bm aa aY (Nat.le_of_ble_eq_true hk) (by simpa using aR) he (by intro e; rw [e] at ao; cases ao) c_) xa
variable {bd:List (List Nat)}{acc:Acc}{i:Nat}
theorem bA.wC (bG:Nat) {G G2:List (Nat × ab)}{o:Oper}(he:bl P N (dh (get G) (λ_=>true) acc) o (get G2)) (aO:o.guard=none) (aY:acc.filterMap j1=[]) (fH:mc G=true) (ah:Nat.beq ops.size (bG+l.length+1)=true)
  (aP:(List.range bG).all (λk=>(bd.getD bG []).contains k)=true) (av:(List.range ops.size).all (λk=>Nat.ble k bG||(bd.getD k []).contains bG)=true) (hk:bA P N ops bd (get G2) (bG+1) [] l K):bA P N ops bd (get G) i acc (o::l) K:=by
 intro dV j cx kP k_;have:=zc k_ ah;subst this;obtain ⟨h1,af⟩:=drop_cons k_;obtain ⟨g',ao,dj⟩:=hk [] (j+1) .nil .nil af;refine ⟨g',.LN cx kP (by rw [aY]; exact List.nodup_nil) (vF fH) h1 ?_ he aP ?_ ao,dj⟩
 ·grind [iA]
 simp_all
theorem bA.jh (bG:Nat) {G:List (Nat × ab)}{k0:Nat}{cs cs' cs2:List ab}{y:ab}{G2:List (Nat × ab)}(ah:Nat.beq ops.size (bG+l.length+1)=true) (w0:(List.range bG).all (λk=>(bd.getD bG []).contains k)=true) (Es:(List.range ops.size).all (λk=>Nat.ble k bG||(bd.getD k []).contains bG)=true) (Jd:acc.filterMap j1=[]) (fH:mc G=true)
  (aC:dh (get G) (λ_=>true) acc r=some (.obj cs)) (aP:Rd (dh (get G) (λ_=>true) acc) a (.ptr ⟨r,[]⟩ k0)) (av:Rd (dh (get G) (λ_=>true) acc) b y) [aF:cg y] (aa:oH y=some cs') (aY:hl P t cs'.length=true)
  (hk:Nat.ble (k0+cs'.length) cs.length=true) (aR:Nat.blt 0 cs'.length=true) (he:e5 cs k0 cs'=cs2) [e8:dq cs] (ao:(get G2 r).isSome=true) (c_:k6 (dh (get G) (λ_=>true) acc) (get G2) r cs2 G2) (xa:bA P N ops bd (get G2) (bG+1) [] l K):bA P N ops bd (get G) i acc (⟨none,.store t a b,ty,pos,after,none⟩::l) K :=
 .wC bG (.box rfl rfl aC aP av aF.bm aa aY (Nat.le_of_ble_eq_true hk) (by simpa using aR) he (by intro e; rw [e] at ao; cases ao) c_) rfl Jd fH ah w0 Es xa
end
end Go.Own
namespace Go.Own
open Go
variable {α β:Type}
def ni (m:Int) (z:α):Option (List α):=if 0<=m/\m<=lim then some (List.replicate m.toNat z) else none
def db (l m:List α):Option (List α):=if l.length+m.length<=lim then some (l++m) else none
class Flat (e:bJ α):Prop where sz:∀ a,(e.cells a).all l2=true
instance:Flat ai:=⟨λ_=>rfl⟩
instance:Flat qg:=⟨λ_=>rfl⟩
instance:Flat cq:=⟨λ_=>rfl⟩
instance:Flat dx:=⟨λ_=>rfl⟩
instance {e:bJ α}:Flat (bo e):=⟨λ_=>rfl⟩
theorem X8 (e:bJ α) [h:Flat e] (l:List α):(bp e l).all l2=true:=by
 refine List.all_eq_true.2 λx J=>?_;obtain ⟨a,_,aP⟩:=List.mem_flatMap.1 J;exact List.all_eq_true.1 (h.sz a) x aP
theorem mC (e:bJ α) (l m:List α):(.own e.z (l.length+m.length) (bp e l++bp e m):ab)=aj e (l++m):=by
 grind [FK]
theorem yf (e:bJ α) (l:List α):(bp e l).take (l.length * e.z)=bp e l:=by grind [nm]
theorem PA:∀ L:List Int,bp qg L=L.map λb=>.lit (.int .u8 b)
 | []=>rfl
 | x::L=>by
  have:bp qg (x::L)=q2 x::bp qg L:=rfl;rw [this,List.map_cons,PA L]
section
variable {P:Program}{N:c6}{ops:Array Oper}{g g1 g2:aM}{K:aM->Prop}{l:List Oper}{d r:Nat}{ty t t2:TypeId}{pos:String}{after:Array Edge}{gd:Option (Nat × Bool)}{a b c:Operand}{k kT:IntKind}{m n:Int}{s u:ByteArray}{p q:Place}
namespace O
theorem dg {e dz:Nat}{parts:Array (Nat × Operand)}{ys:List ab}(en:bJ α) (L:List α) (aw:fr P t e en.z=true) (J:gk g (parts.toList.map (·.2))=some ys) (aa:mo ys=some (bp en L)) (aY:ys.all (λy=>match jT y with | some c=>Nat.beq c.length en.z | none=>false)=true)
  (au:parts.toList=(parts.toList.map (·.2)).mapIdx (λi x=>(i,x))) (aF:(parts.toList.map (·.2)).length=dz) (ak:L.length=dz) (hzero:ie P e en.z=true) (av:Nat.ble (dz * en.z) 16777216=true) (gG:Nat.ble dz 16777216=true):ch P g (.buildSlice t dz parts) ty (aj en L):=by
 subst aF;have:=p7.buildSlice (P:=P) (ty:=ty) aw au J (λy ax=>by
  grind [Nat.eq_of_beq_eq_true]) aa (Nat.le_of_ble_eq_true av) (Nat.le_of_ble_eq_true gG) (.inr (KW hzero))
 unfold aj;rw [ak];exact .qF this
theorem mB {z bE n:Nat}{e:TypeId}(J:Rd g a (.a6 z p n)) (aw:fr P t e bE=true):ch P g (.call { callee:=.builtin .len,args:=#[a],argTypes:=#[t] }) ty (ae n):=.eW (.Cp J.bs aw)
theorem gh {en:bJ α}{L:List α}{y:α}{e:TypeId}(au:bD g p=some (aj en L)) (J:Rd g a (.a6 en.z p L.length)) (hi:Rd g b (.lit (.int k m))) (aw:fr P t e en.z=true) (h:idx L m=some y) (aY:Nat.blt 0 en.z=true):ch P g (.indexAddr t a b) ty (.ptr p (m.toNat * en.z+0)):=by
 obtain ⟨aR,h1,_⟩:=pJ h;obtain ⟨j,rfl⟩:=Int.eq_ofNat_of_zero_le aR;have Oj:0<en.z:=by simpa using aY
 have ah:j<L.length:=by omega
 refine .eW (.EU J.bs hi.bs aw ah ⟨_,au,_,_,_,.inl rfl,?_⟩)
 simp_all [nm]
theorem X3 {en:bJ α}{L:List α}{y:α}{o:Nat}(h:idx L m=some y) (a1:o<en.z):m.toNat * en.z+o<(bp en L).length:=by
 obtain ⟨aR,h1,_⟩:=pJ h;rw [nm];have af:m.toNat+1<=L.length:=by omega
 calc m.toNat * en.z+o<m.toNat * en.z+en.z:=by omega
  _=(m.toNat+1) * en.z:=by rw [Nat.add_mul]; omega
  _<=L.length * en.z:=Nat.mul_le_mul_right _ af
theorem j' {en:bJ α}{L:List α}{y:α}{cT f off o gi:Nat}(au:bD g p=some (aj en L)) (J:Rd g a (.ptr p (m.toNat * en.z+o))) (aW:hM P cT f off t=true) (h:idx L m=some y) (a1:o+off=gi) (aT:Nat.blt gi en.z=true):ch P g (.fieldAddr cT a f) ty (.ptr p (m.toNat * en.z+gi)):=by
 subst a1;rw [<- Nat.add_assoc];refine .eW (.Bn J.bs aW ⟨_,au,_,_,_,.inl rfl,?_⟩)
 simp_all [Nat.add_assoc,X3]
theorem uW {en:bJ α}{L:List α}{y:α}{o:Nat}{x:ab}(au:bD g p=some (aj en L)) (h:idx L m=some y) (aa:(en.cells y)[o]?=some x):bD g (p.push (m.toNat * en.z+o))=some x:=by
 rw [tu,au];exact Ki en h aa
theorem iQ {en:bJ α}{L:List α}{y:α}{o:Nat}{x x':ab}(au:bD g p=some (aj en L)) (J:Rd g a (.ptr p (m.toNat * en.z+o))) (aw:jq P t=true) (h:idx L m=some y) (aa:(en.cells y)[o]?=some x) (ao:gv 0 (p.push (m.toNat * en.z+o)) x=x'):ch P g (.load t a) ty x':=by
 subst ao;exact .eW (.Ct J.bs aw (uW au h aa))
theorem W2 {en:bJ α}{L:List α}{y:α}{o z:Nat}{cs':List ab}(au:bD g p=some (aj en L)) (J:Rd g a (.ptr p (m.toNat * en.z+o))) (aw:ik P t z=true) (h:idx L m=some y) (aY:Nat.ble (o+z) en.z=true)
  (aa:(((en.cells y).drop o).take z).mapIdx (λi x=>gv 0 (p.push (m.toNat * en.z+o+i)) x)=cs'):ch P g (.load t a) ty (.agg cs'):=by
 have Oj:=Nat.le_of_ble_eq_true aY;have k_:((bp en L).drop (m.toNat * en.z+o)).take z=((en.cells y).drop o).take z:=by
  rw [<- List.drop_drop,Kj en h,List.drop_append_of_le_length (by rw [en.len]; omega),List.take_append_of_le_length (by rw [List.length_drop,en.len]; omega)]
 subst aa;rw [<- k_];refine .eW (.xH J.bs aw au (.inl rfl) ?_);obtain ⟨aR,h1,_⟩:=pJ h;rw [nm];have af:m.toNat+1<=L.length:=by omega
 calc m.toNat * en.z+o+z<=m.toNat * en.z+en.z:=by omega
  _=(m.toNat+1) * en.z:=by rw [Nat.add_mul]; omega
  _<=L.length * en.z:=Nat.mul_le_mul_right _ af
end O
class qX (g:aM):Prop where fy:∀ t z q n m new,g t≠some (.bL z q n m new)
class ns (x:ab):Prop where fy:∀ z q n m new,x≠.bL z q n m new
instance {x:ab} [h:cg x]:ns x:=⟨by rintro z q n m new rfl; cases h.bm⟩
instance {p:Place}{k:Nat}:ns (.ptr p k):=⟨by simp⟩
instance {p:Place}{z n:Nat}:ns (.a6 z p n):=⟨by simp⟩
instance {p:Place}{z lo n:Nat}:ns (.sub z p lo n):=⟨by simp⟩
instance {cs:List ab}:ns (.agg cs):=⟨by simp⟩
instance {cs:List ab}:ns (.bW cs):=⟨by simp⟩
instance {cs:List ab}:ns (.obj cs):=⟨by simp⟩
instance {g:aM}{d:Nat}{x:ab} [h:qX g] [J:ns x]:qX (cV g d x):=⟨λt z q n m new e=>by
 unfold cV at e
 split at e
 ·cases e; exact J.fy _ _ _ _ _ rfl
 ·exact h.fy _ _ _ _ _ _ e⟩
instance:qX (get []):=⟨λ_ _ _ _ _ _ e=>by cases e⟩
instance {t:Nat}{x:ab}{G:List (Nat × ab)} [J:ns x] [h:qX (get G)]:qX (get ((t,x)::G)):=⟨λs z q n m new e=>by
 simp only [get] at e
 split at e
 ·cases e; exact J.fy _ _ _ _ _ rfl
 ·exact h.fy _ _ _ _ _ _ e⟩
class DP (acc:Acc):Prop where fy:∀ e∈acc,∀ z q n m new,e.2.2≠some (.bL z q n m new)
instance:DP []:=⟨by simp⟩
instance {j d:Nat}{x:ab}{acc:Acc} [J:ns x] [h:DP acc]:DP ((j,d,some x)::acc):=⟨λe he z q n m new bY=>by
 rcases List.mem_cons.1 he with rfl | he
 ·exact J.fy z q n m new (Option.some.inj bY)
 ·exact h.fy e he z q n m new bY⟩
instance {G:List (Nat × ab)}{A:Nat->Bool}{acc:Acc} [aO:qX (get G)] [h:DP acc]:qX (dh (get G) A acc):=⟨λt z q n m new e=>by
 rcases uJ e with ⟨cj,he,_,_,af⟩ | ⟨_,af⟩
 ·exact h.fy cj he _ _ _ _ _ af
 ·exact aO.fy _ _ _ _ _ _ af⟩
theorem yY {L M:List α}{r:List α}{b:Nat}(h:db L M=some r) (av:Nat.ble b 128=true):L.length+M.length<=4611686018427387904/\(L.length+M.length) * b<=140737488355328/\r=L++M:=by
 unfold db at h
 split at h
 ·rename_i ak;have l3:=Nat.le_of_ble_eq_true av;have sK:lim=1099511627776:=rfl;refine ⟨by omega,?_,(Option.some.inj h).symm⟩
  calc (L.length+M.length) * b<=1099511627776 * 128:=Nat.mul_le_mul ak l3
   _=140737488355328:=by decide
 ·cases h
inductive n3 (g:aM) (en:bJ α):ab->List α->Prop
 | i {M:List α}:n3 g en (.bj en.z M.length (bp en M)) M
 | n:n3 g en .aJ []
 | o {q:Place}{M:List α}(bg:bD g q=some (aj en M)) (aW:(bp en M).all l2=true):n3 g en (.a6 en.z q M.length) M
theorem n3.src {en:bJ α}{y:ab}{M:List α}(h:n3 g en y M):Src g y en.z M.length (bp en M):=by
 cases h with
 | i=>exact .bj
 | n=>exact .aJ
 | o bg aW =>
  have:=Src.a6 (g:=g) (m:=M.length) bg (Nat.le_refl _)
  simp_all [yf,Bp]
theorem n3.flat (en:bJ α) [Flat en] {q:Place}{M:List α}(bg:bD g q=some (aj en M)):n3 g en (.a6 en.z q M.length) M:=.o bg (X8 en M)
namespace O
theorem ap {en:bJ α}{L M r:List α}{y:ab}{e gL:Nat}(aC:Rd g a (.a6 en.z p L.length)) (au:bD g p=some (aj en L)) (J:Rd g b y) (hm:n3 g en y M) (aw:jG P t e en.z gL=true) (av:Nat.ble gL 128=true) (h:db L M=some r) [e8:qX g] :
  ch P g (.call { callee:=.builtin .append,args:=#[a,b],argTypes:=#[t,t] }) ty (.bL en.z p L.length M.length (bp en M)):=by
 obtain ⟨h1,af,_⟩:=yY h av;exact .lR (.grow aC.bs (.inl ⟨_,au⟩) (λt bE cE m' c3 e=>e8.fy _ _ _ _ _ _ e) J.bs hm.src aw h1 af)
theorem Rt {en:bJ α}{M r:List α}{y:ab}{e gL:Nat}(aC:Rd g a .aJ) (J:Rd g b y) (hm:n3 g en y M) (aw:jG P t e en.z gL=true) (av:Nat.ble gL 128=true) (h:db [] M=some r) :
  ch P g (.call { callee:=.builtin .append,args:=#[a,b],argTypes:=#[t,t] }) ty (aj en M):=by
 obtain ⟨h1,af,_⟩:=yY h av;simp only [List.length_nil,Nat.zero_add] at h1 af;exact .lR (.nil aC.bs J.bs hm.src aw h1 af)
end O
inductive mN (ex:List Nat) (g g2:aM):List (Nat × ab)->Prop
 | nil:mN ex g g2 []
 | n {s:Nat}{x:ab}{l:List (Nat × ab)}(dr:ex.elem s=false) (h:g s=some x) [aF:cg x] (t:mN ex g g2 l):mN ex g g2 ((s,x)::l)
 | p {s q k:Nat}{l:List (Nat × ab)}{kq:List ab}(dr:ex.elem s=false) (h:g s=some (.ptr ⟨q,[]⟩ k)) (af:g2 q=some (.obj kq)) (fX:Nat.blt k kq.length=true) (t:mN ex g g2 l):mN ex g g2 ((s,.ptr ⟨q,[]⟩ k)::l)
 | w {α:Type}{s q:Nat}{en:bJ α}{L:List α}{l:List (Nat × ab)}(dr:ex.elem s=false) (h:g s=some (.a6 en.z ⟨q,[]⟩ L.length)) (af:g2 q=some (aj en L)) (t:mN ex g g2 l):mN ex g g2 ((s,.a6 en.z ⟨q,[]⟩ L.length)::l)
theorem mN.spec {ex:List Nat}{l:List (Nat × ab)}(h:mN ex g g2 l):∀ t x,get l t=some x->ex.elem t=false/\g t=some x/\di g2 x/\∀ z p n m new,x≠.bL z p n m new:=by
 induction h with
 | nil=>intro t x J; cases J
 | @n s x l dr h aF _ aU =>
  intro t y ax;simp only [get] at ax
  split at ax
  ·rename_i e;subst e;cases ax;exact ⟨dr,h,.bm aF.bm,by rintro z p n m new rfl; cases aF.bm⟩
  grind
 | @p s q k l kq dr h af fX _ aU =>
  intro t y ax;simp only [get] at ax
  split at ax
  ·rename_i e;subst e;cases ax;exact ⟨dr,h,.ref rfl (uA af (by simpa using fX)),by simp⟩
  grind
 | @w α s q en L l dr h af _ aU =>
  intro t y ax;simp only [get] at ax
  split at ax
  ·rename_i e;subst e;cases ax;exact ⟨dr,h,.ref rfl (.inl ⟨_,_,(by simp [bD,af,ab.at]:bD g2 ⟨q,[]⟩=some (aj en L)),Nat.le_refl _⟩),by simp⟩
  grind
theorem mN.keep {ex:List Nat}{G2:List (Nat × ab)}(h:mN ex g (get G2) G2) (aO:∀ t,ex.elem t=false->g1 t=g t):hD g1 (get G2) :=
 ⟨λt x J=>by obtain ⟨h1,af,_⟩:=h.spec t x J; rw [aO t h1]; exact af,λt x J=>(h.spec t x J).2.2.1,λt z q n m new J=>(h.spec t _ J).2.2.2 _ _ _ _ _ rfl⟩
theorem Take.row {en:bJ α}{L:List α}(au:bD g p=some (aj en L)):Take g [.a6 en.z p L.length] [aj en L] (cv g p .dead):=by
 have h1:Take (cv g p .dead) ((bp en L).take (L.length * en.z)) (bp en L) (cv g p .dead):=by
  rw [yf]; exact .bm (pT en L)
 exact .a6 au (Nat.le_refl _) h1 (.bm (by simp))
theorem Take.X5 {en:bJ α}{L M:List α}{s:Nat}(aC:g s=some (.bL en.z q L.length M.length (bp en M))) (au:bD g q=some (aj en L)) (bg:q.root≠s):Take g [.a6 en.z ⟨s,[]⟩ (L.length+M.length)] [aj en (L++M)] (cv (cv g ⟨s,[]⟩ .dead) q .dead):=by
 rw [<- mC];exact .bL aC au bg (.bm λx J=>(List.mem_append.1 J).elim (pT en L x) (pT en M x)) (.bm (by simp))
theorem Take.X6 {en:bJ α}{L M M2:List α}{s s2:Nat}(aC:g s=some (.bL en.z ⟨s2,[]⟩ (L.length+M2.length) M.length (bp en M))) (lf:g s2=some (.bL en.z q L.length M2.length (bp en M2))) (au:bD g q=some (aj en L)) (bg:q.root≠s) (ua:q.root≠s2) (B4:s≠s2) :
  Take g [.a6 en.z ⟨s,[]⟩ (L.length+M2.length+M.length)] [aj en (L++M2++M)] (cv (cv (cv g ⟨s,[]⟩ .dead) ⟨s2,[]⟩ .dead) q .dead):=by
 have:=Take.Ft (g:=g) (xs:=[]) (xs':=[]) aC lf rfl au bg ua B4 (.bm (xs:=bp en L++bp en M2++bp en M) λx J=>by
  grind [pT]) (.bm (by simp))
 grind [FK]
theorem v_ {t:Nat}{y:ab}(h:t≠p.root):cv g p y t=g t:=by
 grind [cv]
theorem zd {ex:List Nat}{t s:Nat}(h:ex.elem t=false) (aC:ex.elem s=true):t≠s:=by
 grind
theorem bl.yX {o:Oper}{en:bJ α}{L:List α}{x:Operand}{G2:List (Nat × ab)}(a1:o.op=.assign x) (aS:o.dst=some d) (J:Rd g x (.a6 en.z p L.length)) (au:bD g p=some (aj en L)) (c_:mN [p.root] g (get G2) G2) (aO:get G2 d=none) (bc:N.ok d=true):bl P N g o (cV (get G2) d (aj en L)) :=
 .assign a1 aS J.bs (.row au) .refl (c_.keep λt aw=>v_ (zd aw (by simp))) aO bc
theorem bl.Lp {o:Oper}{en:bJ α}{L M:List α}{s:Nat}{x:Operand}{G2:List (Nat × ab)}(a1:o.op=.assign x) (aS:o.dst=some d) (J:Rd g x (.a6 en.z ⟨s,[]⟩ (L.length+M.length))) (aC:g s=some (.bL en.z q L.length M.length (bp en M))) (au:bD g q=some (aj en L)) (bg:Nat.beq q.root s=false)
  (c_:mN [s,q.root] g (get G2) G2) (aO:get G2 d=none) (bc:N.ok d=true):bl P N g o (cV (get G2) d (aj en (L++M))) :=
 .assign a1 aS J.bs (.X5 aC au (Nat.ne_of_beq_eq_false bg)) .refl (c_.keep λt aw=>by rw [v_ (zd aw (by simp)),v_ (zd aw (by simp))]) aO bc
theorem bl.Re {o:Oper}{en:bJ α}{L M M2:List α}{s s2:Nat}{x:Operand}{G2:List (Nat × ab)}(a1:o.op=.assign x) (aS:o.dst=some d) (J:Rd g x (.a6 en.z ⟨s,[]⟩ (L.length+M2.length+M.length))) (aC:g s=some (.bL en.z ⟨s2,[]⟩ (L.length+M2.length) M.length (bp en M)))
  (lf:g s2=some (.bL en.z q L.length M2.length (bp en M2))) (au:bD g q=some (aj en L)) (bg:Nat.beq q.root s=false) (ua:Nat.beq q.root s2=false) (B4:Nat.beq s s2=false)
  (c_:mN [s,s2,q.root] g (get G2) G2) (aO:get G2 d=none) (bc:N.ok d=true):bl P N g o (cV (get G2) d (aj en (L++M2++M))) :=
 .assign a1 aS J.bs (.X6 aC lf au (Nat.ne_of_beq_eq_false bg) (Nat.ne_of_beq_eq_false ua) (Nat.ne_of_beq_eq_false B4)) .refl (c_.keep λt aw=>by rw [v_ (zd aw (by simp)),v_ (zd aw (by simp)),v_ (zd aw (by simp))]) aO bc
theorem ar.q8 {o:Oper}{x:ab}{G2:List (Nat × ab)}(aO:o.guard=none) (he:bl P N g o (cV (get G2) d x)) (hk:ar P N ops l (cV (get G2) d x) K):ar P N ops (o::l) g K:=by
 intro i hi;obtain ⟨h1,af⟩:=drop_cons hi;obtain ⟨g',ao,dj⟩:=hk (i+1) af;refine ⟨g',.j_ h1 ?_ he ao,dj⟩
 grind [iA]
theorem sA {x:ab}{G:List (Nat × ab)}:cV (get G) d x=get ((d,x)::G):=by
 grind [cV,get]
variable {bd:List (List Nat)}{acc:Acc}{i:Nat}
inductive A4 (P:Program):aM->List ResultVar->List ab->List ab->aM->Prop
 | nil {g:aM}:A4 P g [] [] [] g
 | f {g g':aM}{t:Nat}{x:ab}{rs:List ResultVar}{ys xs:List ab}(h:g t=some x) (aW:l2 x=true) [aF:cg x] (aw:A4 P g rs ys xs g'):A4 P g (.tmp t::rs) (x::ys) (x::xs) g'
 | o {g g':aM}{t:Nat}{en:bJ α}{L:List α}{rs:List ResultVar}{ys xs:List ab}(h:g t=some (aj en L)) (aw:A4 P (cv g ⟨t,[]⟩ .dead) rs ys xs g'):A4 P g (.tmp t::rs) (.a6 en.z ⟨t,[]⟩ L.length::ys) (aj en L::xs) g'
end
end Go.Own
namespace Go.Own
open Go
variable {α β:Type}
section
variable {P:Program}{N:c6}{ops:Array Oper}{g g' g1 g2:aM}{K:aM->Prop}{l:List Oper}{d r:Nat}{ty t t2:TypeId}{pos:String}{after:Array Edge}{a b c:Operand}{p q:Place}{e:Exit}
inductive nu (s:Nat):aM->Nat->List ab->List ab->aM->Prop
 | nil {g:aM}{i:Nat}:nu s g i [] [] g
 | f {g g':aM}{i:Nat}{x:ab}{ys xs:List ab}(aW:l2 x=true) [aF:cg x] (aw:nu s g (i+1) ys xs g'):nu s g i (x::ys) (x::xs) g'
 | o {α:Type}{g g':aM}{i:Nat}{en:bJ α}{L:List α}{ys xs:List ab}(au:bD g ⟨s,[i]⟩=some (aj en L)) (aw:nu s (cv g ⟨s,[i]⟩ .dead) (i+1) ys xs g'):nu s g i (.a6 en.z ⟨s,[i]⟩ L.length::ys) (aj en L::xs) g'
theorem nu.take {s i:Nat}{ys xs:List ab}(h:nu s g i ys xs g'):Take g ys xs g':=by
 induction h with
 | nil=>exact .bm (by simp)
 | @f g g' i x ys xs aW aF _ aU=>exact .cons aF.bm aU
 | @o α g g' i en L ys xs au _ aU =>
  refine .a6 au (Nat.le_refl _) ?_ aU;rw [yf]; exact .bm (pT en L)
inductive j4 (P:Program):aM->List ResultVar->List ab->List ab->aM->Prop
 | nil {g:aM}:j4 P g [] [] [] g
 | f {g g':aM}{t:Nat}{x:ab}{rs:List ResultVar}{ys xs:List ab}(h:g t=some x) (aW:l2 x=true) [aF:cg x] (aw:j4 P g rs ys xs g'):j4 P g (.tmp t::rs) (x::ys) (x::xs) g'
 | o {α:Type}{g g':aM}{t:Nat}{en:bJ α}{L:List α}{rs:List ResultVar}{ys xs:List ab}(h:g t=some (aj en L)) (aw:j4 P (cv g ⟨t,[]⟩ .dead) rs ys xs g'):j4 P g (.tmp t::rs) (.a6 en.z ⟨t,[]⟩ L.length::ys) (aj en L::xs) g'
 | c {g g' wW:aM}{t z:Nat}{ty:TypeId}{cs ys0:List ab}{rs:List ResultVar}{ys xs:List ab}(h:g t=some (.obj cs)) (aw:ik P ty z=true) (aY:cs.length=z) (aR:Nat.blt 0 z=true) (ax:(cs.mapIdx λi x=>gv 0 ⟨t,[i]⟩ x)=ys0) (hk:nu t g 0 ys0 cs wW) (ao:j4 P wW rs ys xs g'):j4 P g (.cell t ty::rs) (.agg ys0::ys) (.agg cs::xs) g'
def yD (g0 g:aM):Prop:=∀ t x,g t=some x->(l2 x=true\/(∃ z n cs,x=.own z n cs))->g0 t=some x
theorem yD.set {g0:aM}{t:Nat}{pp:List Nat}(h:yD g0 g) (a1:pp=[]\/∃ cs,g t=some (.obj cs)):yD g0 (cv g ⟨t,pp⟩ .dead):=by
 intro s x J aW;unfold cv at J
 split at J
 ·rename_i aC;simp only at aC J;subst aC;exfalso;cases aO:g s with
  | none=>rw [aO] at J; cases J
  | some y =>
   rw [aO] at J;simp only [Option.map_some,Option.some.injEq] at J;rcases a1 with rfl | ⟨cs,aa⟩
   ·simp only [ab.setAt] at J;subst J;rcases aW with aW | ⟨_,_,_,aW⟩ <;> cases aW
   ·rw [aO] at aa;cases aa;have:∃ cs',x=.obj cs':=by
     subst J;cases pp with
     | nil=>simp only [ab.setAt] at aW; rcases aW with aW | ⟨_,_,_,aW⟩ <;> cases aW
     | cons k pp =>
      simp only [ab.setAt,ab.kids];split
      ·exact ⟨_,rfl⟩
      ·exact ⟨_,rfl⟩
    obtain ⟨cs',rfl⟩:=this;rcases aW with aW | ⟨_,_,_,aW⟩ <;> cases aW
 ·exact h s x J aW
theorem nu.S3 {g0:aM}{s i:Nat}{ys xs:List ab}(h:nu s g i ys xs g'):(∃ cs,g s=some (.obj cs))->yD g0 g->yD g0 g':=by
 induction h with
 | nil=>exact λ_ h=>h
 | f _ _ aU=>exact aU
 | @o α g g' i en L ys xs au _ aU =>
  intro a1 aS;refine aU ?_ (aS.set (.inr a1));obtain ⟨cs,aa⟩:=a1;unfold cv;simp only [if_pos,aa,Option.map_some,ab.setAt,ab.kids];split
  ·exact ⟨_,rfl⟩
  ·exact ⟨_,rfl⟩
theorem nu.out {s i:Nat}{ys xs:List ab}(h:nu s g i ys xs g'):∀ t,t≠s->g' t=g t:=by
 induction h with
 | nil=>exact λ_ _=>rfl
 | f _ _ aU=>exact aU
 | o _ _ aU=>exact λt aw=>by rw [aU t aw,v_ aw]
theorem j4.take {rs:List ResultVar}{ys xs:List ab}(h:j4 P g rs ys xs g'):Take g ys xs g':=by
 induction h with
 | nil=>exact .bm (by simp)
 | @f g g' t x rs ys xs h aW aF _ aU=>exact .cons aF.bm aU
 | @o α g g' t en L rs ys xs h _ aU =>
  have au:bD g ⟨t,[]⟩=some (aj en L):=by simp [bD,h,ab.at]
  refine .a6 au (Nat.le_refl _) ?_ aU;rw [yf]; exact .bm (pT en L)
 | @c g g' wW t z ty cs ys0 rs ys xs h aw aY aR ax hk _ aU=>exact .agg hk.take aU
theorem j4.vs {rs:List ResultVar}{ys xs:List ab}(h:j4 P g rs ys xs g'):∀ g0:aM,yD g0 g->(∀ t ty,ResultVar.cell t ty∈rs->∀ cs,g t=some (.obj cs)->g0 t=some (.obj cs))->(rs.filterMap fun | .cell t _=>some t | _=>none).Nodup->rL P g0 rs ys:=by
 induction h with
 | nil=>exact λ_ _ _ _=>.nil
 | @f g g' t x rs ys xs h aW aF _ aU =>
  intro g0 aS av fp;exact .cons (.tmp (Rd.f (aS t x h (.inl aW)) aW)) (aU g0 aS (λt ty hm=>av t ty (List.mem_cons_of_mem _ hm)) (by simpa using fp))
 | @o α g g' t en L rs ys xs h _ aU =>
  intro g0 aS av fp;refine .cons (.tmp ?_) (aU g0 (aS.set (.inl rfl)) (λs ty hm cs aa=>?_) (by simpa using fp))
  ·have:=aS t _ h (.inr ⟨_,_,_,rfl⟩);simp [Own.bs,this,ru,gv]
  ·by_cases aC:s=t
   ·subst aC; simp [cv,h,ab.setAt] at aa
   ·rw [v_ aC] at aa; exact av s ty (List.mem_cons_of_mem _ hm) cs aa
 | @c g g' wW t z ty cs ys0 rs ys xs h aw aY aR ax hk _ aU =>
  intro g0 aS av fp;have h1:=av t ty (by simp) cs h;simp only [List.filterMap_cons,List.nodup_cons] at fp;refine .cons ?_ (aU g0 (hk.S3 ⟨cs,h⟩ aS) (λs yo hm cs' aa=>?_) fp.2)
  ·have Oj:0<z:=by simpa using aR
   have J:Own.bs g0 (.tmp t)=some (.ptr ⟨t,[]⟩ 0):=by
    cases cs with
    | nil=>simp at aY; omega
    | cons c cs=>simp [Own.bs,h1,ru,gv]
   have:=c7.xH (P:=P) (ty:=ty) (p:=⟨t,[]⟩) (n:=0) (z:=0) J aw (by simp only [bD,h1,ab.at]) (.inr rfl) (show 0+z<=cs.length by omega);have hN:((cs.drop 0).take z).mapIdx (λi x=>gv 0 (Place.push ⟨t,[]⟩ (0+i)) x)=ys0:=by
    rw [List.drop_zero,List.take_of_length_le (by omega),<- ax];congr 1;funext i x;simp [Place.push]
   rw [hN] at this;exact .cell this
  ·have b0:s≠t:=by
    rintro rfl;exact fp.1 (List.mem_filterMap.2 ⟨.cell s yo,hm,rfl⟩)
   have:=hk.out s b0;rw [this] at aa;exact av s yo (List.mem_cons_of_mem _ hm) cs' aa
inductive qZ (g:aM) (pins:List Nat):Nat->List (Option ab)->Prop
 | nil {i:Nat}:qZ g pins i []
 | no {i:Nat}{os:List (Option ab)}(t:qZ g pins (i+1) os):qZ g pins i (none::os)
 | aq {i:Nat}{x:ab}{os:List (Option ab)}(h:g i=some x) [aF:cg x] (au:pins.elem i=true) (t:qZ g pins (i+1) os):qZ g pins i (some x::os)
theorem qZ.spec {pins:List Nat}{i:Nat}{os:List (Option ab)}(h:qZ g pins i os):∀ k x,os[k]?=some (some x)->g (i+k)=some x/\cU x/\i+k∈pins:=by
 induction h with
 | nil=>intro k x hk; simp at hk
 | no _ aU =>
  intro k x hk;cases k with
  | zero=>simp at hk
  | succ k=>have:=aU k x (by simpa using hk); rw [Nat.add_assoc,Nat.add_comm 1 k] at this; exact this
 | @aq i y os h aF au _ aU =>
  intro k x hk;cases k with
  | zero=>simp at hk; subst hk; exact ⟨h,aF.bm,by simpa using au⟩
  | succ k=>have:=aU k x (by simpa using hk); rw [Nat.add_assoc,Nat.add_comm 1 k] at this; exact this
theorem Fin.ro {rs:List ResultVar}{ys xs:List ab}{res:ab}{outs:List (Option ab)}{n:Nat}(h:j4 P g rs ys xs g') (he:qI xs=res) (fp:(rs.filterMap fun | .cell t _=>some t | _=>none).Nodup) (a1:qZ g' N.pins 0 outs) (ak:outs.length=n) (J:e=.normal\/e=.ret):Fin P N rs n outs res e g :=
 ⟨J,⟨ys,xs,g',h.vs g (λ_ _ h _=>h) (λ_ _ _ _ h=>h) fp,h.take,he.symm,λk x hk=>by have:=a1.spec k x hk; rw [Nat.zero_add] at this; exact this⟩,ak⟩
class i' (x y:ab):Prop where v:∀ g,View g x y
class ds (xs ys:List ab):Prop where
 l:ys.length=xs.length
 v:∀ (g:aM) (k:Nat) (x y:ab),xs[k]?=some x->ys[k]?=some y->View g x y
class gU (e cj:bJ α):Prop where
 z:e.z=cj.z
 v:∀ a,ds (e.cells a) (cj.cells a)
instance {v:Value}:i' (.lit v) (.lit v):=⟨λ_=>.self .lit (by simp) (by simp) (by simp) (by simp) (by simp)⟩
instance:i' .aJ .aJ:=⟨λ_=>.self .aJ (by simp) (by simp) (by simp) (by simp) (by simp)⟩
instance {z n:Nat}{cs:List ab} [h:dq cs]:i' (.bj z n cs) (.bj z n cs):=⟨λ_=>.self (.bj h.bm) (by simp) (by simp) (by simp) (by simp) (by simp)⟩
instance {cs:List ab} [h:dq cs]:i' (.cH cs) (.cH cs):=⟨λ_=>.self (.cH h.bm) (by simp) (by simp) (by simp) (by simp) (by simp)⟩
instance {e:bJ α}:i' .aJ (ag e []):=⟨λ_=>.qD⟩
instance:ds [] []:=⟨rfl,by simp⟩
instance {x y:ab}{xs ys:List ab} [h:i' x y] [aQ:ds xs ys]:ds (x::xs) (y::ys):=⟨by simp [aQ.l],λg k a b aP av=>by
 cases k with
 | zero=>simp at aP av; subst aP av; exact h.v g
 | succ k=>exact aQ.v g k a b (by simpa using aP) (by simpa using av)⟩
theorem Du (e cj:bJ α) [h:gU e cj]:∀ L:List α,(bp cj L).length=(bp e L).length/\∀ (g:aM) (k:Nat) (x y:ab),(bp e L)[k]?=some x->(bp cj L)[k]?=some y->View g x y
 | []=>⟨rfl,by simp [bp]⟩
 | a::L=>by
  obtain ⟨h1,af⟩:=Du e cj L;have Tb:∀ e:bJ α,bp e (a::L)=e.cells a++bp e L:=λe=>by simp [bp]
  refine ⟨by rw [nm,nm,h.z],λg k x y J ax=>?_⟩;rw [Tb] at J ax;by_cases hk:k<e.z
  ·rw [List.getElem?_append_left (by rw [e.len]; exact hk)] at J;rw [List.getElem?_append_left (by rw [cj.len,<- h.z]; exact hk)] at ax;exact (h.v a).v g k x y J ax
  ·rw [List.getElem?_append_right (by rw [e.len]; omega),e.len] at J;rw [List.getElem?_append_right (by rw [cj.len,<- h.z]; omega),cj.len,<- h.z] at ax;exact af g _ x y J ax
instance {e cj:bJ α}{L:List α} [h:gU e cj]:i' (aj e L) (ag cj L):=⟨λg=>by
 have:=Du e cj L;show View g (.own e.z L.length (bp e L)) (.bj cj.z L.length (bp cj L));rw [<- h.z];exact .own this.1 (this.2 g)⟩
instance:gU ai ai:=⟨rfl,λa=>(inferInstance:ds [ae a] [ae a])⟩
instance:gU qg qg:=⟨rfl,λa=>(inferInstance:ds [q2 a] [q2 a])⟩
instance:gU cq cq:=⟨rfl,λa=>(inferInstance:ds [a_ a] [a_ a])⟩
instance:gU dx dx:=⟨rfl,λa=>(inferInstance:ds [ay a] [ay a])⟩
instance {e cj:bJ α} [h:gU e cj]:gU (Mo e) (bo cj):=⟨rfl,λa=>(inferInstance:ds [aj e a] [ag cj a])⟩
instance {e:bJ α}:gU (bo e) (bo e):=⟨rfl,λa=>(inferInstance:ds [ag e a] [ag e a])⟩
theorem View.row {e cj:bJ α}{L:List α} [h:gU e cj] (au:bD g p=some (aj e L)):View g (.a6 e.z p L.length) (ag cj L):=by
 have:=Du e cj L;show View g _ (.bj cj.z L.length (bp cj L));rw [<- h.z];refine .a6 au (Nat.le_refl _) (by rw [yf]; exact this.1) (λk x y J ax=>?_);rw [yf] at J;exact this.2 g k x y J ax
inductive oC (g:aM):List ab->List ab->Prop
 | nil:oC g [] []
 | s {x y:ab}{xs ys:List ab} [h:i' x y] (t:oC g xs ys):oC g (x::xs) (y::ys)
 | c {x y:ab}{xs ys:List ab}(h:View g x y) (t:oC g xs ys):oC g (x::xs) (y::ys)
theorem oC.len {xs ys:List ab}(h:oC g xs ys):ys.length=xs.length:=by
 induction h with
 | nil=>rfl
 | s _ aU=>simp [aU]
 | c _ _ aU=>simp [aU]
theorem oC.get {xs ys:List ab}(h:oC g xs ys):∀ (k:Nat) (x y:ab),xs[k]?=some x->ys[k]?=some y->View g x y:=by
 induction h with
 | nil=>intro k x y J; simp at J
 | @s x y xs ys h _ aU =>
  intro k a b aP av;cases k with
  | zero=>simp at aP av; subst aP av; exact h.v g
  | succ k=>exact aU k a b (by simpa using aP) (by simpa using av)
 | @c x y xs ys h _ aU =>
  intro k a b aP av;cases k with
  | zero=>simp at aP av; subst aP av; exact h
  | succ k=>exact aU k a b (by simpa using aP) (by simpa using av)
theorem View.mO {xs ys:List ab}(h:oC g xs ys):View g (.agg xs) (.agg ys):=.agg h.len h.get
class p5 (x:ab):Prop where lj:kE x
class jC (cs:List ab):Prop where lj:∀ x∈cs,kE x
class l0 (e:bJ α):Prop where lj:∀ a,jC (e.cells a)
instance {v:Value}:p5 (.lit v):=⟨.lit⟩
instance:p5 .aJ:=⟨.aJ⟩
instance:jC []:=⟨by simp⟩
instance {x:ab}{xs:List ab} [h:p5 x] [aQ:jC xs]:jC (x::xs):=⟨λy ax=>by
 rcases List.mem_cons.1 ax with rfl | ax
 ·exact h.lj
 ·exact aQ.lj y ax⟩
instance {e:bJ α}{L:List α} [h:l0 e]:jC (bp e L):=⟨λx J=>by
 obtain ⟨a,_,aP⟩:=List.mem_flatMap.1 J;exact (h.lj a).lj x aP⟩
instance {z n:Nat}{cs:List ab} [h:jC cs]:p5 (.own z n cs):=⟨.own h.lj⟩
instance {cs:List ab} [h:jC cs]:p5 (.obj cs):=⟨.obj h.lj⟩
instance {cs:List ab} [h:jC cs]:p5 (.agg cs):=⟨.agg h.lj⟩
instance {cs:List ab} [h:jC cs]:p5 (.bW cs):=⟨.bW h.lj⟩
instance {e:bJ α}{a:α} [h:l0 e]:jC (e.cells a):=h.lj a
instance:l0 ai:=⟨λa=>(inferInstance:jC [ae a])⟩
instance:l0 qg:=⟨λa=>(inferInstance:jC [q2 a])⟩
instance:l0 cq:=⟨λa=>(inferInstance:jC [a_ a])⟩
instance:l0 dx:=⟨λa=>(inferInstance:jC [ay a])⟩
instance {e:bJ α} [h:l0 e]:l0 (Mo e):=⟨λa=>(inferInstance:jC [aj e a])⟩
theorem OV {outs:List (Option ab)}{args:List ab}(a1:si outs=true) (ak:outs.length=args.length):outs=args.map λ_=>none:=by
 apply List.ext_getElem?;intro k;rw [List.getElem?_map];cases ax:args[k]? with
 | none=>rw [List.getElem?_eq_none (by rw [ak]; exact List.getElem?_eq_none_iff.1 ax)]; rfl
 | some y =>
  have hk:k<outs.length:=by rw [ak]; exact (List.getElem?_eq_some_iff.1 ax).1
  have h1:=List.getElem?_eq_getElem hk;rw [h1];cases af:outs[k] with
  | none=>rfl
  | some x=>rw [af] at h1; exact absurd h1 (Fi a1 k x)
theorem cz.vw {xs:List Operand}{gm:Array TypeId}{f:FuncId}{ys args:List ab}{outs:List (Option ab)}{res:ab}(J:gk g xs=some ys) (hv:oC g ys args) (gP:bT P f args outs res) (aW:gM P f=true) (a1:si outs=true) [ao:p5 res] :
  cz P g (.call { callee:=.value (.func f),args:=xs.toArray,argTypes:=gm }) res:=by
 have e:=OV a1 gP.1;refine .E6 (first:=[]) (caps:=[]) (ys:=ys) (args:=args) rfl (by simpa using J) aW (by simpa using hv.len) (λk x y J ax=>hv.get k x y (by simpa using J) ax) ?_ ao.lj;rw [<- e]; exact gP
end
end Go.Own
namespace Go.Own
open Go
variable {α β:Type}
section
variable {P:Program}{N:c6}{ops:Array Oper}{g g' g1 g2:aM}{K:aM->Prop}{l:List Oper}{d r:Nat}{op:Op}{ty t t2:TypeId}{pos:String}{after:Array Edge}{gd:Option (Nat × Bool)}{a b c:Operand}{p q:Place}{x y:ab}
variable {bd:List (List Nat)}{g0:aM}{acc:Acc}{i:Nat}
instance {cs cs':List ab} [h:ds cs cs']:i' (.obj cs) (.cH cs'):=⟨λg=>.obj h.l (h.v g)⟩
instance {cs cs':List ab} [h:ds cs cs']:i' (.agg cs) (.agg cs'):=⟨λg=>.agg h.l (h.v g)⟩
instance {z n:Nat}{cs cs':List ab} [h:ds cs cs']:i' (.own z n cs) (.bj z n cs'):=⟨λg=>.own h.l (h.v g)⟩
theorem ar.fk (au:ch P g op ty y) [aF:cg y] [hv:i' y x] (bc:N.ok d=true) (aW:g d=none) (aO:fv g ops gd) (hk:ar P N ops l (cV g d x) K):ar P N ops (⟨some d,op,ty,pos,after,gd⟩::l) g K :=
 .AD rfl bc aW (r:=some x) (.inr (.inr ⟨aO.wanted,y,.inl au,aF.bm,hv.v _⟩)) hk
theorem bA.fk (bG:Nat) (au:ch P (jA bd g0 bG acc) op ty y) [aF:cg y] [hv:i' y x] (ah:Nat.beq ops.size (bG+l.length+1)=true) (aW:g0 d=none) (k':acc.all (λe=>!Nat.beq e.2.1 d)=true) (bc:N.ok d=true) (aO:fv (jA bd g0 bG acc) ops gd)
  (hk:bA P N ops bd g0 i ((bG,d,some x)::acc) l K):bA P N ops bd g0 i acc (⟨some d,op,ty,pos,after,gd⟩::l) K :=
 .st bG (r:=some x) rfl (.inr (.inr ⟨aO.wanted,y,.inl au,aF.bm,hv.v _⟩)) ah aW k' bc hk
inductive n5 (ex:List Nat) (g g2:aM):List (Nat × ab)->Prop
 | nil:n5 ex g g2 []
 | n {s:Nat}{x:ab}{l:List (Nat × ab)}(dr:ex.elem s=false) (h:g s=some x) [aF:cg x] (t:n5 ex g g2 l):n5 ex g g2 ((s,x)::l)
 | p {s q k:Nat}{l:List (Nat × ab)}{kq:List ab}(dr:ex.elem s=false) (h:g s=some (.ptr ⟨q,[]⟩ k)) (af:g2 q=some (.obj kq)) (fX:Nat.blt k kq.length=true) (t:n5 ex g g2 l):n5 ex g g2 ((s,.ptr ⟨q,[]⟩ k)::l)
 | z {s:Nat}{x y:ab}{l:List (Nat × ab)}(he:ex.elem s=true) (h:g s=some y) [aF:cg y] (hv:h4 y x) [J:ns x] (t:n5 ex g g2 l):n5 ex g g2 ((s,x)::l)
theorem n5.spec {ex:List Nat}{l:List (Nat × ab)}(h:n5 ex g g2 l):∀ t x,get l t=some x->((ex.elem t=false/\g t=some x/\di g2 x)\/(ex.elem t=true/\∃ y,g t=some y/\cU y/\h4 y x))/\∀ z p n m new,x≠.bL z p n m new:=by
 induction h with
 | nil=>intro t x J; cases J
 | @n s x l dr h aF _ aU =>
  intro t y ax;simp only [get] at ax
  split at ax
  ·rename_i e;subst e;cases ax;exact ⟨.inl ⟨dr,h,.bm aF.bm⟩,by rintro z p n m new rfl; cases aF.bm⟩
  grind
 | @p s q k l kq dr h af fX _ aU =>
  intro t y ax;simp only [get] at ax
  split at ax
  ·rename_i e;subst e;cases ax;exact ⟨.inl ⟨dr,h,.ref rfl (uA af (by simpa using fX))⟩,by simp⟩
  grind
 | @z s x y l he h aF hv J _ aU =>
  intro t y' ax;simp only [get] at ax
  split at ax
  ·rename_i e;subst e;cases ax;exact ⟨.inr ⟨he,y,h,aF.bm,hv⟩,J.fy⟩
  grind
theorem n5.u1 {ex:List Nat}{G2:List (Nat × ab)}(h:n5 ex g (get G2) G2):GD (λt=>ex.elem t) g (get G2):=by
 refine ⟨λt x J aw=>?_,λt x J aw=>?_,λt z q n m new J=>(h.spec t _ J).2 _ _ _ _ _ rfl⟩
 ·rcases (h.spec t x J).1 with ⟨_,h1,af⟩ | ⟨h1,_⟩
  ·grind
  grind
 ·rcases (h.spec t x J).1 with ⟨h1,_⟩ | ⟨_,af⟩
  ·grind
  grind
theorem W.dN {bF:Code}{G G1:List (Nat × ab)}{Φ:Exit->aM->Prop}(ex:List Nat) (h:n5 ex (get G) (get G1) G1) (hw:W P N bF (get G1) Φ):W P N bF (get G) Φ:=by
 intro Q a w I Fs bk bc dO;obtain ⟨I',b7,dX,b0⟩:=bk.u1 h.u1;exact hw dX bc λe g' b' w' he aF=>dO e g' b' w' he (h6.trans rfl hC.refl b0 aF)
theorem ar.dN {G1:List (Nat × ab)}(ex:List Nat) (h:n5 ex g (get G1) G1) (hk:ar P N ops l (get G1) K):ar P N ops l g K:=by
 intro i hi;obtain ⟨g',ao,dj⟩:=hk i hi;exact ⟨g',.u1 h.u1 ao,dj⟩
theorem Take.pre {xs xs':List ab}:∀ {ps:List ab},(∀ x∈ps,cU x)->Take g xs xs' g'->Take g (ps++xs) (ps++xs') g'
 | [],_,h=>h
 | x::ps,aF,h=>.cons (aF x (by simp)) (Take.pre (ps:=ps) (λy ax=>aF y (List.mem_cons_of_mem _ ax)) h)
inductive e6:aM->List ab->List ab->aM->Prop
 | nil {g:aM}:e6 g [] [] g
 | kx {g:aM}{xs:List ab} [aF:dq xs]:e6 g xs xs g
 | f {g g':aM}{x:ab}{xs xs':List ab} [aF:cg x] (t:e6 g xs xs' g'):e6 g (x::xs) (x::xs') g'
 | r {α:Type}{g g':aM}{p:Place}{en:bJ α}{L:List α}{xs xs':List ab}(au:bD g p=some (aj en L)) (t:e6 (cv g p .dead) xs xs' g'):e6 g (.a6 en.z p L.length::xs) (aj en L::xs') g'
 | l {g g1 g':aM}{p:Place}{z n:Nat}{cs cs' xs xs':List ab}(au:bD g p=some (.own z n cs)) (ak:cs.length=n * z) (h1:e6 (cv g p .dead) cs cs' g1) (t:e6 g1 xs xs' g'):e6 g (.a6 z p n::xs) (.own z n cs'::xs') g'
 | ia {α:Type}{g g1 g':aM}{q:Place}{s m:Nat}{en:bJ α}{L:List α}{new c3 xs xs':List ab}(aC:g s=some (.bL en.z q L.length m new)) (au:bD g q=some (aj en L)) (bg:Nat.beq q.root s=false) (h1:e6 (cv (cv g ⟨s,[]⟩ .dead) q .dead) new c3 g1) (t:e6 g1 xs xs' g') :
   e6 g (.a6 en.z ⟨s,[]⟩ (L.length+m)::xs) (.own en.z (L.length+m) (bp en L++c3)::xs') g'
 | mO {g g1 g':aM}{cs cs' xs xs':List ab}(h1:e6 g cs cs' g1) (t:e6 g1 xs xs' g'):e6 g (.agg cs::xs) (.agg cs'::xs') g'
 | m {g g':aM}{p:Place}{q:Array MapEntry->Nat->Prop}{xs xs':List ab}(au:bD g p=some (.mp q)) (t:e6 (cv g p .dead) xs xs' g'):e6 g (.gz p::xs) (.mp q::xs') g'
 | b {g g1 g':aM}{p:Place}{cs cs' xs xs':List ab}(au:bD g p=some (.obj cs)) (h1:e6 (cv g p .dead) cs cs' g1) (t:e6 g1 xs xs' g'):e6 g (.ptr p 0::xs) (.obj cs'::xs') g'
theorem e6.take {xs xs':List ab}(h:e6 g xs xs' g'):Take g xs xs' g':=by
 induction h with
 | m au _ aU=>exact .mp au (.bm (by simp)) aU
 | nil=>exact .bm (by simp)
 | @kx g xs aF=>exact .bm aF.bm
 | @f g g' x xs xs' aF _ aU=>exact .cons aF.bm aU
 | @r α g g' p en L xs xs' au _ aU =>
  refine .a6 au (Nat.le_refl _) ?_ aU;rw [yf];exact .bm (pT en L)
 | @l g g1 g' p z n cs cs' xs xs' au ak _ _ gy gg =>
  refine .a6 au (Nat.le_refl _) ?_ gg
  grind
 | @ia α g g1 g' q s m en L new c3 xs xs' aC au bg _ _ gy gg=>exact .bL aC au (Nat.ne_of_beq_eq_false bg) (.pre (pT en L) gy) gg
 | @mO g g1 g' cs cs' xs xs' _ _ gy gg=>exact .agg gy gg
 | @b g g1 g' p cs cs' xs xs' au _ _ gy gg=>exact .obj au gy gg
inductive fl:List ab->List ab->Prop
 | nil:fl [] []
 | hY {xs:List ab}:fl xs xs
 | f {x:ab}{xs ys:List ab}(t:fl xs ys):fl (x::xs) (x::ys)
 | o {z:Nat}{xs ys:List ab}(t:fl xs ys):fl (.aJ::xs) (.own z 0 []::ys)
 | z {x y:ab}{xs ys:List ab} [aF:cg x] [hv:i' x y] (t:fl xs ys):fl (x::xs) (y::ys)
 | g {x y:ab}{xs ys:List ab}(h:h4 x y) (t:fl xs ys):fl (x::xs) (y::ys)
theorem fl.len {xs ys:List ab}(h:fl xs ys):ys.length=xs.length:=by
 induction h with
 | nil=>rfl
 | hY=>rfl
 | f _ aU=>simp [aU]
 | o _ aU=>simp [aU]
 | z _ aU=>simp [aU]
 | g _ _ aU=>simp [aU]
theorem fl.get {xs ys:List ab}(h:fl xs ys):∀ (k:Nat) (x y:ab),xs[k]?=some x->ys[k]?=some y->h4 x y:=by
 induction h with
 | nil=>intro k x y J; simp at J
 | hY=>intro k x y J ax; rw [J] at ax; cases ax; exact .refl
 | @f x xs ys _ aU =>
  intro k a b aP av;cases k with
  | zero=>simp at aP av; subst aP av; exact .refl
  | succ k=>exact aU k a b (by simpa using aP) (by simpa using av)
 | @o z xs ys _ aU =>
  intro k a b aP av;cases k with
  | zero=>simp at aP av; subst aP av; exact .Cy
  | succ k=>exact aU k a b (by simpa using aP) (by simpa using av)
 | @z x y xs ys aF hv _ aU =>
  intro k a b aP av;cases k with
  | zero=>simp at aP av; subst aP av; exact .pI aF.bm (hv.v _)
  | succ k=>exact aU k a b (by simpa using aP) (by simpa using av)
 | @g x y xs ys h _ aU =>
  grind
theorem fl.pre {xs ys:List ab}(h:fl xs ys):∀ ps:List ab,fl (ps++xs) (ps++ys)
 | []=>h
 | _::ps=>.f (fl.pre h ps)
theorem fl.own {z n:Nat}{xs ys:List ab}(h:fl xs ys):h4 (.own z n xs) (.own z n ys):=.own h.len h.get
theorem fl.obj {xs ys:List ab}(h:fl xs ys):h4 (.obj xs) (.obj ys):=.obj h.len h.get
theorem fl.agg {xs ys:List ab}(h:fl xs ys):h4 (.agg xs) (.agg ys):=.agg h.len h.get
theorem h4.j3 [aF:cg x] [hv:i' x y]:h4 x y:=.pI aF.bm (hv.v _)
theorem bl.A6 {o:Oper}{x:Operand}{y bx y':ab}{G2:List (Nat × ab)}(a1:o.op=.assign x) (aS:o.dst=some d) (J:Rd g x y) (aw:e6 g [y] [bx] g1) (aY:h4 bx y') (c_:Trim false g1 (get G2) G2) (aO:get G2 d=none) (bc:N.ok d=true):bl P N g o (cV (get G2) d y') :=
 .assign a1 aS J.bs aw.take aY c_.keep aO bc
theorem bl.LB {o:Oper}{x:Operand}{en:bJ α}{L M R:List α}{s m:Nat}{new c3:List ab}{G2:List (Nat × ab)}(a1:o.op=.assign x) (aS:o.dst=some d) (J:Rd g x (.a6 en.z ⟨s,[]⟩ (L.length+m))) (aC:g s=some (.bL en.z q L.length m new)) (au:bD g q=some (aj en L)) (bg:Nat.beq q.root s=false)
  (h1:e6 (cv (cv g ⟨s,[]⟩ .dead) q .dead) new c3 g1) (aY:fl c3 (bp en M)) (hm:M.length=m) (ao:L++M=R) (c_:Trim false g1 (get G2) G2) (aO:get G2 d=none) (bc:N.ok d=true):bl P N g o (cV (get G2) d (aj en R)):=by
 subst hm ao;have aw:=e6.ia (xs:=[]) (xs':=[]) aC au bg h1 .nil;rw [<- mC];exact .assign a1 aS J.bs aw.take (aY.pre _).own c_.keep aO bc
theorem bl.pW {o:Oper}{k0:Nat}{jr cs' cs2:List ab}{y bx y':ab}{G2:List (Nat × ab)}(a1:o.op=.store t a b) (aS:o.dst=none) (aP:Rd g a (.ptr ⟨r,[]⟩ k0)) (av:Rd g b y) (aw:e6 g [y] [bx] g1) (rb:h4 bx y') (aa:oH y'=some cs') (aY:hl P t cs'.length=true)
  (aC:g1 r=some (.obj jr)) (hk:Nat.ble (k0+cs'.length) jr.length=true) (aR:Nat.blt 0 cs'.length=true) (he:e5 jr k0 cs'=cs2) [e8:dq jr] (ao:(get G2 r).isSome=true) (c_:k6 g1 (get G2) r cs2 G2):bl P N g o (get G2):=by
 subst he;refine .store a1 aS aP.bs av.bs aw.take rb aa aY (p:=⟨r,[]⟩) (nd:=.obj jr) (z:=0) (n:=0) (by simp [bD,aC,ab.at]) (.inr rfl) (Nat.le_of_ble_eq_true hk) (by simpa using aR) (λt x J=>?_) (λt x J y ax=>?_) (λt z q n m new J=>?_) (by intro e; rw [e] at ao; cases ao)
 ·rcases c_.spec t x J with ⟨h1,af,_⟩ | ⟨h1,af,_⟩
  all_goals grind [cv,ab.setAt,ab.e5]
 ·rcases c_.spec t x J with ⟨h1,af,aI⟩ | ⟨h1,af,aI⟩
  ·rw [af] at ax;cases ax;exact aI.yd
  ·subst h1;rw [aC] at ax;cases ax;exact .bm (.obj e8.bm)
 ·rcases c_.spec t _ J with ⟨_,_,aI⟩ | ⟨_,af,_⟩
  ·exact aI.fy _ _ _ _ _ rfl
  grind
theorem bl.F1 {o:Oper}{k0 s m:Nat}{en:bJ α}{L M R:List α}{new c3:List ab}{jr cs2:List ab}{G2:List (Nat × ab)}(a1:o.op=.store t a b) (aS:o.dst=none) (aP:Rd g a (.ptr ⟨r,[]⟩ k0)) (av:Rd g b (.a6 en.z ⟨s,[]⟩ (L.length+m))) (qo:g s=some (.bL en.z q L.length m new)) (au:bD g q=some (aj en L)) (bg:Nat.beq q.root s=false)
  (h1:e6 (cv (cv g ⟨s,[]⟩ .dead) q .dead) new c3 g1) (rb:fl c3 (bp en M)) (hm:M.length=m) (aZ:L++M=R) (aY:hl P t 1=true)
  (aC:g1 r=some (.obj jr)) (hk:Nat.ble (k0+1) jr.length=true) (he:e5 jr k0 [aj en R]=cs2) [e8:dq jr] (ao:(get G2 r).isSome=true) (c_:k6 g1 (get G2) r cs2 G2):bl P N g o (get G2):=by
 subst hm aZ;have aw:=e6.ia (xs:=[]) (xs':=[]) qo au bg h1 .nil;refine .pW (y':=aj en (L++M)) a1 aS aP av aw ?_ rfl aY aC hk rfl he ao c_;rw [<- mC]; exact (rb.pre _).own
inductive nr (r:Nat) (cs:List ab) (k0:Nat):Nat->List ab->List ab->Prop
 | nil {i:Nat}:nr r cs k0 i [] []
 | b {i:Nat}{xs ys:List ab}(hi:Nat.beq i k0=true) (t:nr r cs k0 (i+1) xs ys):nr r cs k0 i (.ptr ⟨r,[]⟩ 0::xs) (.obj cs::ys)
 | n {i:Nat}{x:ab}{xs ys:List ab}(hi:Nat.beq i k0=false) [aF:cg x] (t:nr r cs k0 (i+1) xs ys):nr r cs k0 i (x::xs) (x::ys)
theorem nr.len {cs:List ab}{k0 i:Nat}{xs ys:List ab}(h:nr r cs k0 i xs ys):ys.length=xs.length:=by
 induction h with
 | nil=>rfl
 | b _ _ aU=>simp [aU]
 | n _ _ aU=>simp [aU]
theorem nr.Xd {cs:List ab}{k0 i:Nat}{xs ys:List ab}(h:nr r cs k0 i xs ys) (hi:k0<i):xs=ys/\∀ x∈xs,cU x:=by
 induction h with
 | nil=>exact ⟨rfl,by simp⟩
 | @b i _ _ h _ _=>have:=Nat.eq_of_beq_eq_true h; omega
 | @n i x xs ys _ aF _ aU =>
  obtain ⟨h1,af⟩:=aU (by omega);exact ⟨by rw [h1],pO aF.bm af⟩
theorem nr.take {cs:List ab}{k0 i:Nat}{xs ys:List ab}(h:nr r cs k0 i xs ys) (aC:g r=some (.obj cs)) (aF:∀ x∈cs,cU x):i<=k0->k0<i+xs.length->Take g xs ys (cv g ⟨r,[]⟩ .dead):=by
 induction h with
 | nil=>intro h1 af; simp at af; omega
 | @b i xs ys hi t _ =>
  intro h1 af;have:=Nat.eq_of_beq_eq_true hi;obtain ⟨e,mY⟩:=t.Xd (by omega);subst e;exact .obj (by simp [bD,aC,ab.at]) (.bm aF) (.bm mY)
 | @n i x xs ys hi J _ aU =>
  intro h1 af;have:=Nat.ne_of_beq_eq_false hi;simp only [List.length_cons] at af;exact .cons J.bm (aU (by omega) (by omega))
theorem nr.RC {cs:List ab}{k0 i:Nat}{xs ys:List ab}(h:nr r cs k0 i xs ys):i<=k0->k0<i+xs.length->xs[k0 - i]?=some (.ptr ⟨r,[]⟩ 0):=by
 induction h with
 | nil=>intro h1 af; simp at af; omega
 | @b i xs ys hi _ _=>intro _ _; have:=Nat.eq_of_beq_eq_true hi; subst this; simp
 | @n i x xs ys hi _ _ aU =>
  grind [Nat.ne_of_beq_eq_false]
def uo (n k0:Nat) (x:ab):List (Option ab):=(List.range n).map λi=>if i=k0 then some x else none
inductive yB (g:aM) (d r:Nat) (n:Nat) (G4:List (Nat × ab)):List (Nat × ab)->Prop
 | nil:yB g d r n G4 []
 | c {s k:Nat}{l:List (Nat × ab)}(h:g s=some (.ptr ⟨r,[]⟩ k)) (hk:Nat.blt k n=true) (aS:Nat.beq s d=false) (bK:get G4 s=none) (t:yB g d r n G4 l):yB g d r n G4 ((s,.ptr ⟨r,[]⟩ k)::l)
theorem Ei {A B:List (Nat × ab)}{t:Nat}:get (A++B) t=match get A t with | some x=>some x | none=>get B t:=by
 induction A with
 | nil=>rfl
 | cons p A aU =>
  grind [get]
theorem yB.spec {n:Nat}{G4 A:List (Nat × ab)}(h:yB g d r n G4 A):∀ t x,get A t=some x->get G4 t=none/\t≠d/\g t=some x/\∃ k,x=.ptr ⟨r,[]⟩ k/\k<n:=by
 induction h with
 | nil=>intro t x J; cases J
 | @c s k l h hk aS bK _ aU =>
  intro t x J;simp only [get] at J
  split at J
  ·rename_i e;subst e;cases J
   simp_all [Nat.ne_of_beq_eq_false]
  grind
theorem hJ.nh {o:Oper}{xs:List Operand}{gm:Array TypeId}{f:FuncId}{ys args:List ab}{res:ab}{cs cs':List ab}{k0:Nat}{G2 A:List (Nat × ab)}(a1:o.op=.call { callee:=.value (.func f),args:=xs.toArray,argTypes:=gm }) (aS:o.dst=some d) (J:Own.gk g xs=some ys)
  (aC:g r=some (.obj cs)) [e8:dq cs] (aP:nr r cs k0 0 ys args) (lK:Nat.blt k0 ys.length=true) (gP:bT P f args (uo args.length k0 (.obj cs')) res) (aW:gM P f=true) [ao:cg res] [BQ:dq cs']
  (c_:Trim false (cv g ⟨r,[]⟩ .dead) (get ((r,.dead)::G2)) G2) (aO:get G2 d=none) (r8:Nat.beq r d=false) (Bv:Trim false (get ((r,.obj cs')::G2)) (get ((r,.obj cs')::G2)) G2) (et:yB g d r cs'.length ((r,.obj cs')::G2) A) (bc:N.ok d=true) :
  hJ P N g o d (get (A++(d,res)::(r,.obj cs')::G2)):=by
 have aci:k0<ys.length:=by simpa using lK
 have IN:r≠d:=Nat.ne_of_beq_eq_false r8;have tL:args.length=ys.length:=aP.len;have r7:(uo args.length k0 (.obj cs'))[k0]?=some (some (.obj cs')):=by
  grind [uo]
 have VF:∀ (k:Nat) (x:ab),(uo args.length k0 (.obj cs'))[k]?=some (some x)->x=.obj cs':=by
  grind [uo]
 have Hj:get ((r,ab.dead)::G2) r=some .dead:=by simp [get]
 have xB:hD (cv g ⟨r,[]⟩ .dead) (get ((r,.dead)::G2)):=by
  refine ⟨λt x h=>?_,λt x h=>?_,λt z q n m new h=>?_⟩
  all_goals
   simp only [get] at h
   split at h
  ·grind [cv,ab.setAt]
  ·obtain ⟨⟨y,h1,_,aI⟩,_⟩:=c_.spec t x h
   grind
  ·cases h;exact .bm .dead
  ·exact (c_.spec t x h).2.1
  ·cases h
  ·exact (c_.spec t _ h).2.2 _ _ _ _ _ rfl
 have put:qH (get ((r,.dead)::G2)) [(⟨r,[]⟩,.obj cs')]=get ((r,.obj cs')::G2):=by
  funext t
  simp_all [qH,cv,get,ab.setAt]
 have xC:hD (get ((r,.obj cs')::G2)) (get ((r,.obj cs')::G2)):=by
  refine ⟨λt x h=>h,λt x h=>?_,λt z q n m new h=>?_⟩
  all_goals
   simp only [get] at h
   split at h
  ·cases h;exact .bm (.obj BQ.bm)
  ·exact (Bv.spec t x h).2.1
  ·cases h
  ·exact (Bv.spec t _ h).2.2 _ _ _ _ _ rfl
 refine yE.ok (first:=[]) (caps:=[]) (ys:=ys) (tk:=λ_=>true) (vw:=false) (outs:=uo args.length k0 (.obj cs')) (g1:=cv g ⟨r,[]⟩ .dead) (g2:=get ((r,.dead)::G2)) (g4:=get ((r,.obj cs')::G2)) (l:=[(⟨r,[]⟩,.obj cs')]) (ks:=λ_=>k0) (xs0:=ys) (xs1:=args) (args:=args) (res:=res) a1 aS rfl (by simpa using J)
  ⟨aW,by simp,by simpa using tL,λk x h=>.inl (by simpa using h),aP.take aC e8.bm (Nat.zero_le _) (by omega),xB,λk x y _ ax=>by simpa using ax,gP,by simpa using ao.bm,λk x h=>by rw [VF k x h]; simpa using cU.obj BQ.bm,λj p x ah=>?_,by simp,λi j hi ah _=>by simp at hi ah; omega,by rw [put]; exact xC⟩ ?_ bc ?_
 ·cases j with
  | succ j=>simp at ah
  | zero =>
   simp only [List.getElem?_cons_zero,Option.some.injEq,Prod.mk.injEq] at ah;obtain ⟨rfl,rfl⟩:=ah;refine ⟨r7,by simp [bD,Hj,ab.at],.inr ⟨cs,?_,by simp [bD,aC,ab.at]⟩⟩;have:=aP.RC (Nat.zero_le _) (by omega)
   grind
 ·grind [get]
 ·refine ⟨λt x h=>?_,λt x h=>?_⟩
  ·rw [sA] at h;rw [Ei];cases rX:get A t with
   | none=>exact h
   | some y =>
    obtain ⟨h1,af,_⟩:=et.spec t y rX
    grind [get]
  ·rw [sA];rw [Ei] at h;cases rX:get A t with
   | none=>rw [rX] at h; exact .inl h
   | some y =>
    rw [rX] at h;cases h;obtain ⟨h1,af,aI,k,rfl,hk⟩:=et.spec t x rX;refine .inr ⟨?_,af,aI,r,k,cs',rfl,IN,?_,hk⟩
    all_goals grind [get]
end
end Go.Own
namespace Go.Own
open Go
variable {α β:Type}
def Ea (k:IntKind):bJ Int:=.one (λn=>.lit (.int k n)) λ_=>.lit
instance {k:IntKind}:Flat (Ea k):=⟨λ_=>rfl⟩
instance {k:IntKind}:gU (Ea k) (Ea k):=⟨rfl,λa=>(inferInstance:ds [.lit (.int k a)] [.lit (.int k a)])⟩
instance {k:IntKind}:l0 (Ea k):=⟨λa=>(inferInstance:jC [.lit (.int k a)])⟩
instance {cs:List ab}{n:Nat}{x:ab} [h:dq cs] [J:cg x]:dq (cs.set n x):=⟨λy ax=>by
 rcases List.mem_or_eq_of_mem_set ax with aQ | aQ
 ·exact h.bm y aQ
 ·rw [aQ]; exact J.bm⟩
instance {x y:ab} [h:cg y]:cg (x.setAt [] y):=⟨by simpa [ab.setAt] using h.bm⟩
def rr (m n:Int):Option Int:=if n=0 then none else some (IntKind.u64.wrap (m.tdiv n))
def ry (m n:Int):Option Int:=if n=0 then none else some (m.tmod n)
inductive j8:List ab->List ab->Prop
 | nil:j8 [] []
 | f {x:ab}{xs ys:List ab}(t:j8 xs ys):j8 (x::xs) (x::ys)
 | o {z:Nat}{xs ys:List ab}(t:j8 xs ys):j8 (.aJ::xs) (.own z 0 []::ys)
 | i {z:Nat}{xs ys:List ab}(t:j8 xs ys):j8 (.aJ::xs) (.bj z 0 []::ys)
theorem j8.len {xs ys:List ab}(h:j8 xs ys):ys.length=xs.length:=by
 induction h with
 | nil=>rfl
 | f _ aU=>simp [aU]
 | o _ aU=>simp [aU]
 | i _ aU=>simp [aU]
theorem j8.get {xs ys:List ab}(h:j8 xs ys):∀ (k:Nat) (x y:ab),xs[k]?=some x->ys[k]?=some y->pd x y:=by
 induction h with
 | nil=>intro k x y J; simp at J
 | f _ aU =>
  intro k a b aP av;cases k with
  | zero=>simp at aP av; subst aP av; exact .refl
  | succ k=>exact aU k a b (by simpa using aP) (by simpa using av)
 | o _ aU =>
  intro k a b aP av;cases k with
  | zero=>simp at aP av; subst aP av; exact .pN
  | succ k=>exact aU k a b (by simpa using aP) (by simpa using av)
 | i _ aU =>
  intro k a b aP av;cases k with
  | zero=>simp at aP av; subst aP av; exact .pM
  | succ k=>exact aU k a b (by simpa using aP) (by simpa using av)
theorem j8.obj {xs ys:List ab}(h:j8 xs ys):pd (.obj xs) (.obj ys):=.obj h.len h.get
section
variable {P:Program}{N:c6}{ops:Array Oper}{g g' g1 g2:aM}{K:aM->Prop}{l:List Oper}{d r:Nat}{op:Op}{ty t t2:TypeId}{pos:String}{after:Array Edge}{gd:Option (Nat × Bool)}{a b c:Operand}{p q:Place}{x y:ab}{k:IntKind}{m n:Int}
variable {bd:List (List Nat)}{g0:aM}{acc:Acc}{i:Nat}
def rl:List Nat->Bool
 | []=>true
 | x::l=>l.all (λy=>!Nat.beq x y)&&rl l
theorem E':∀ {l:List Place},rl (l.map Place.root)=true->l.Nodup
 | [],_=>List.nodup_nil
 | p::l,h=>by
  simp only [List.map_cons,rl,Bool.and_eq_true,List.all_eq_true] at h;refine List.nodup_cons.2 ⟨λhm=>?_,E' h.2⟩;have:=h.1 p.root (List.mem_map.2 ⟨p,hm,rfl⟩);simp at this
theorem bA.wE (bG:Nat) {G G2:List (Nat × ab)}{o:Oper}(he:bl P N (dh (get G) (λ_=>true) acc) o (get G2)) (aO:o.guard=none) (gQ:rl ((acc.filterMap j1).map Place.root)=true) (fH:mc G=true) (ah:Nat.beq ops.size (bG+l.length+1)=true)
  (aP:(List.range bG).all (λk=>(bd.getD bG []).contains k)=true) (av:(List.range ops.size).all (λk=>Nat.ble k bG||(bd.getD k []).contains bG)=true) (hk:bA P N ops bd (get G2) (bG+1) [] l K):bA P N ops bd (get G) i acc (o::l) K:=by
 intro dV j cx kP k_;have:=zc k_ ah;subst this;obtain ⟨h1,af⟩:=drop_cons k_;obtain ⟨g',ao,dj⟩:=hk [] (j+1) .nil .nil af;refine ⟨g',.LN cx kP (E' gQ) (vF fH) h1 ?_ he aP ?_ ao,dj⟩
 ·grind [iA]
 simp_all
theorem bA.bv (bG:Nat) {G G2:List (Nat × ab)}{o:Oper}{x:ab}(he:bl P N (dh (get G) (λ_=>true) acc) o (cV (get G2) d x)) (aO:o.guard=none) (gQ:rl ((acc.filterMap j1).map Place.root)=true) (fH:mc G=true) (ah:Nat.beq ops.size (bG+l.length+1)=true)
  (aP:(List.range bG).all (λk=>(bd.getD bG []).contains k)=true) (av:(List.range ops.size).all (λk=>Nat.ble k bG||(bd.getD k []).contains bG)=true) (hk:bA P N ops bd (get ((d,x)::G2)) (bG+1) [] l K):bA P N ops bd (get G) i acc (o::l) K :=
 .wE bG (sA ▸ he) aO gQ fH ah aP av hk
class o' (s:Nat) (g:aM):Prop where fy:∀ t,t≠s->∀ z q n m new,g t≠some (.bL z q n m new)
instance (priority:=low) {s:Nat}{g:aM} [h:qX g]:o' s g:=⟨λt _=>h.fy t⟩
instance {s:Nat}{g:aM}{x:ab} [h:o' s g]:o' s (cV g s x):=⟨λt aw z q n m new e=>by
 unfold cV at e;rw [if_neg aw] at e;exact h.fy t aw _ _ _ _ _ e⟩
instance {s d:Nat}{g:aM}{x:ab} [h:o' s g] [J:ns x]:o' s (cV g d x):=⟨λt aw z q n m new e=>by
 unfold cV at e
 split at e
 ·cases e; exact J.fy _ _ _ _ _ rfl
 ·exact h.fy t aw _ _ _ _ _ e⟩
class yQ (s:Nat) (acc:Acc):Prop where fy:∀ e∈acc,e.2.1≠s->∀ z q n m new,e.2.2≠some (.bL z q n m new)
instance {s:Nat}:yQ s []:=⟨by simp⟩
instance {s j d:Nat}{x:ab}{acc:Acc} [J:ns x] [h:yQ s acc]:yQ s ((j,d,some x)::acc):=⟨λe he aC z q n m new bY=>by
 rcases List.mem_cons.1 he with rfl | he
 ·exact J.fy z q n m new (Option.some.inj bY)
 ·exact h.fy e he aC z q n m new bY⟩
instance {s j:Nat}{x:Option ab}{acc:Acc} [h:yQ s acc]:yQ s ((j,s,x)::acc):=⟨λe he aC z q n m new bY=>by
 rcases List.mem_cons.1 he with rfl | he
 ·exact absurd rfl aC
 ·exact h.fy e he aC z q n m new bY⟩
instance {s:Nat}{G:List (Nat × ab)}{A:Nat->Bool}{acc:Acc} [aO:qX (get G)] [h:yQ s acc]:o' s (dh (get G) A acc):=⟨λt aw z q n m new e=>by
 rcases uJ e with ⟨cj,he,h1,_,af⟩ | ⟨_,af⟩
 ·exact h.fy cj he (by rw [h1]; exact aw) _ _ _ _ _ af
 ·exact aO.fy _ _ _ _ _ _ af⟩
namespace O
theorem rr {r:Int}(J:Rd g a (.lit (.int .u64 m))) (ax:Rd g b (.lit (.int .u64 n))) (h:Own.rr m n=some r):ch P g (.binOp .quo t a b t2) ty (.lit (.int .u64 r)):=by
 unfold Own.rr at h
 split at h
 ·cases h
 ·cases h; exact .eW (.quo J ax (by assumption))
theorem ry {r:Int}(J:Rd g a (.lit (.int .u64 m))) (ax:Rd g b (.lit (.int .u64 n))) (h:Own.ry m n=some r):ch P g (.binOp .rem t a b t2) ty (.lit (.int .u64 r)):=by
 unfold Own.ry at h
 split at h
 ·cases h
 ·cases h; exact .eW (.rem J ax (by assumption))
theorem SY {L:List Int}(J:Rd g a (.bj qg.z L.length (bp qg L))) (aw:wH P t t2=true):ch P g (.convert t t2 a) ty (ay (strOfNums L)):=by
 have h:=J.bs;rw [PA] at h;exact .eW (.D' h aw)
theorem wF {e dz:Nat}{parts:Array (Nat × Operand)}{ys cs:List ab}{z:Nat}(aw:fr P t e z=true) (J:gk g (parts.toList.map (·.2))=some ys) (aa:mo ys=some cs) (aY:ys.all (λy=>match jT y with | some c=>Nat.beq c.length z | none=>false)=true)
  (au:parts.toList=(parts.toList.map (·.2)).mapIdx (λi x=>(i,x))) (aF:(parts.toList.map (·.2)).length=dz) (hzero:ie P e z=true) (av:Nat.ble (dz * z) 16777216=true) (gG:Nat.ble dz 16777216=true):ch P g (.buildSlice t dz parts) ty (.own z dz cs):=by
 subst aF;exact .qF (.buildSlice aw au J (λy ax=>by
  grind [Nat.eq_of_beq_eq_true]) aa (Nat.le_of_ble_eq_true av) (Nat.le_of_ble_eq_true gG) (.inr (KW hzero)))
theorem P_ {z m:Nat}{cs:List ab}(bg:bD g q=some (.own z m cs)) (ak:cs.length=m * z) (aW:cs.all l2=true):Src g (.a6 z q m) z m cs:=by
 have:=Src.a6 (g:=g) (m:=m) bg (Nat.le_refl _)
 simp_all [List.take_of_length_le,Bp]
theorem GO {en:bJ α}{L M r:List α}{e gL m:Nat}{cs:List ab}(aC:Rd g a (.a6 en.z p L.length)) (au:bD g p=some (aj en L)) (J:Rd g b (.a6 en.z q m)) (bg:bD g q=some (.own en.z m cs)) (ak:cs.length=m * en.z) (aW:cs.all l2=true) (hm:M.length=m) (aw:jG P t e en.z gL=true) (av:Nat.ble gL 128=true) (h:db L M=some r) [e8:qX g] :
  ch P g (.call { callee:=.builtin .append,args:=#[a,b],argTypes:=#[t,t] }) ty (.bL en.z p L.length m cs):=by
 subst hm;obtain ⟨h1,af,_⟩:=yY h av;exact .lR (.grow aC.bs (.inl ⟨_,au⟩) (λt bE cE m' c3 e=>e8.fy _ _ _ _ _ _ e) J.bs (P_ bg ak aW) aw h1 af)
theorem D0 {en:bJ α}{L M M2 r:List α}{y:ab}{e gL s:Nat}(aC:Rd g a (.a6 en.z ⟨s,[]⟩ (L.length+M.length))) (qo:g s=some (.bL en.z q L.length M.length (bp en M))) (au:bD g q=some (aj en L)) (J:Rd g b y) (hm:n3 g en y M2) (aw:jG P t e en.z gL=true) (av:Nat.ble gL 128=true) (h:db (L++M) M2=some r) [e8:o' s g] :
  ch P g (.call { callee:=.builtin .append,args:=#[a,b],argTypes:=#[t,t] }) ty (.bL en.z ⟨s,[]⟩ (L.length+M.length) M2.length (bp en M2)):=by
 obtain ⟨h1,af,_⟩:=yY h av;rw [List.length_append] at h1 af;refine .lR (.grow aC.bs (.inr ⟨rfl,q,L.length,M.length,bp en M,_,qo,rfl,au⟩) (λt bE cE m' c3 e=>?_) J.bs hm.src aw h1 af);by_cases V3:t=s
 ·grind [bD,ab.at]
 ·exact e8.fy t V3 _ _ _ _ _ e
theorem OL {en:bJ α}{z0:α}{r:List α}{e gL:Nat}{dJ:Value}(aw:fr P t e en.z=true) (J:Rd g a (.lit (.int k m))) (ax:Rd g b (.lit (.int .i64 m))) (hzero:(P.info? e).bind (·.zero)=some dJ) (h1:dJ.cells.toList.all Value.oneCell'=true) (ha:(en.cells z0).length=dJ.cells.size) (U5:∀ (k:Nat) (u:Value) (x:ab),dJ.cells[k]?=some u->(en.cells z0)[k]?=some x->x=lQ u\/(lQ u=.aJ/\∃ bE,x=.bj bE 0 [])) (h:ni m z0=some r) (iM:(P.info? e).map (·.bytes)=some gL) (av:Nat.ble gL 128=true) :
  ch P g (.makeSlice t a b) ty (aj en r):=by
 unfold ni at h
 split at h
 ·rename_i hm;have sK:lim=1099511627776:=rfl;have l3:=Nat.le_of_ble_eq_true av;obtain ⟨j,rfl⟩:=Int.eq_ofNat_of_zero_le hm.1;cases h;have ah:j<=1099511627776:=by omega
  have fY:dJ.cells.size=en.z:=by rw [<- ha,en.len]
  have:=p7.makeSlice (P:=P) (ty:=ty) aw J.bs ax.bs hzero (by rw [<- Array.all_toList]; exact h1) fY iM (by
   calc j * gL<=1099511627776 * 128:=Nat.mul_le_mul ah l3
    _=140737488355328:=by decide) (by omega) ha U5
  have cA:(List.replicate j (en.cells z0)).flatten=bp en (List.replicate j z0):=by simp [bp,List.flatMap_def]
  unfold aj;rw [Int.toNat_natCast,List.length_replicate,<- cA];exact .qF this
 ·cases h
theorem mk {en:bJ α}{z0:α}{r:List α}{e gL:Nat}{dJ:Value}(aw:fr P t e en.z=true) (J:Rd g a (.lit (.int k m))) (ax:Rd g b (.lit (.int .i64 m))) (hzero:(P.info? e).bind (·.zero)=some dJ) (h1:dJ.cells.toList.all Value.oneCell'=true) (aa:dJ.cells.toList.map lQ=en.cells z0) (h:ni m z0=some r) (iM:(P.info? e).map (·.bytes)=some gL) (av:Nat.ble gL 128=true) :
  ch P g (.makeSlice t a b) ty (aj en r):=by
 grind [OL]
theorem W9 {e:bJ β}{r:List (List β)}{m:Int}{k:IntKind}{a b:Operand}{t ty:TypeId}{Bj gL:Nat}{dJ:Value}(aw:fr P t Bj (bo e).z=true) (J:Rd g a (.lit (.int k m))) (ax:Rd g b (.lit (.int .i64 m))) (hzero:(P.info? Bj).bind (·.zero)=some dJ) (h1:dJ.cells.toList.all Value.oneCell'=true) (aa:dJ.cells.toList.map lQ=[.aJ]) (h:ni m ([]:List β)=some r) (iM:(P.info? Bj).map (·.bytes)=some gL) (av:Nat.ble gL 128=true) :
  ch P g (.makeSlice t a b) ty (aj (bo e) r):=by
 refine OL aw J ax hzero h1 ?_ (λk u x hu J=>.inr ?_) h iM av
 ·grind [List.length_map,bo]
 ·have ak:=congrArg List.length aa;rw [List.length_map] at ak;have hk:k=0:=by
   grind
  subst hk;have jO:dJ.cells.toList[0]?=some u:=by simpa using hu
  have af:=congrArg (λl=>l[0]?) aa;simp only [List.getElem?_map,jO,Option.map_some] at af;have af:=Option.some.inj af;refine ⟨af,e.z,?_⟩;have J:([ag e []]:List ab)[0]?=some x:=J;have:x=ag e []:=(Option.some.inj J).symm;rw [this];rfl
end O
theorem Kh (en:bJ α) {L:List α}{y y2:α}{o:Nat}{cs':List ab}(h:idx L m=some y) (he:e5 (en.cells y) o cs'=en.cells y2) (hlen:o+cs'.length<=en.z):e5 (bp en L) (m.toNat * en.z+o) cs'=bp en (L.set m.toNat y2):=by
 obtain ⟨aR,h1,af⟩:=pJ h;have aT:m.toNat<L.length:=(List.getElem?_eq_some_iff.1 af).1;have ax:L[m.toNat]=y:=(List.getElem?_eq_some_iff.1 af).2;have cA:bp en L=bp en (L.take m.toNat)++(en.cells y++bp en (L.drop (m.toNat+1))):=by
  grind [bp,List.take_append_drop,List.drop_eq_getElem_cons]
 have cf:bp en (L.set m.toNat y2)=bp en (L.take m.toNat)++(en.cells y2++bp en (L.drop (m.toNat+1))):=by
  grind [List.set_eq_take_append_cons_drop,bp]
 have ak:(bp en (L.take m.toNat)).length=m.toNat * en.z:=by rw [nm,List.length_take]; congr 1; omega
 rw [cA,cf,<- he];unfold e5;generalize bp en (L.take m.toNat)=A at *;generalize bp en (L.drop (m.toNat+1))=B at *;rw [<- ak];have EP:=en.len y;rw [List.take_append,List.take_of_length_le (by omega),show A.length+o - A.length=o by omega,List.take_append_of_le_length (by omega)];rw [List.drop_append,List.drop_eq_nil_of_le (by omega),show A.length+o+cs'.length - A.length=o+cs'.length by omega,List.drop_append_of_le_length (by omega)];simp
theorem Hp {en:bJ α}{L:List α}{i:Int}{off:Nat}{y:α}(h:idx L i=some y) (a1:Nat.blt off en.z=true):i.toNat * en.z+off<(bp en L).length:=by
 obtain ⟨Db,ll,_⟩:=pJ h;have nI:off<en.z:=by simpa using a1
 rw [nm];have af:i.toNat+1<=L.length:=by omega
 calc i.toNat * en.z+off<i.toNat * en.z+en.z:=by omega
  _=(i.toNat+1) * en.z:=by rw [Nat.add_mul]; omega
  _<=L.length * en.z:=Nat.mul_le_mul_right _ af
theorem oh {L:List α}{i:Int}{y y2:α}(h:idx L i=some y):idx (L.set i.toNat y2) i=some y2:=by
 grind [idx]
inductive o_ (g g2:aM):ab->Prop
 | mk {α:Type}{en:bJ α}{L La:List α}{r j off:Nat}{i:Int}{y y2:α}(h1:bD g ⟨r,[j]⟩=some (aj en L)) (hi:idx L i=some y) (af:bD g2 ⟨r,[j]⟩=some (aj en La)) (BK:idx La i=some y2) (a1:Nat.blt off en.z=true):o_ g g2 (.ptr ⟨r,[j]⟩ (i.toNat * en.z+off))
theorem o_.O3 {x:ab}(h:o_ g g2 x):gD g x:=by
 cases h with
 | mk h1 hi af BK a1=>exact ⟨_,h1,_,_,_,.inl rfl,Hp hi a1⟩
theorem o_.Fm {x:ab}(h:o_ g g2 x):gD g2 x:=by
 cases h with
 | mk h1 hi af BK a1=>exact ⟨_,af,_,_,_,.inl rfl,Hp BK a1⟩
theorem o_.bV {x:ab}(h:o_ g g2 x):di g2 x:=by
 have:=h.Fm;cases h with
 | mk=>exact .ref rfl this
theorem o_.fy {x:ab}(h:o_ g g2 x):∀ z p n m new,x≠.bL z p n m new:=by
 cases h with
 | mk=>simp
theorem o_.clear {x:ab}{k0 m0:Nat}(h:o_ g g2 x) (au:p.path≠[]):Clear p k0 m0 x:=by
 cases h with
 | mk =>
  intro q bg _ j dn e;simp only [Aw,Option.some.injEq] at bg;subst bg;cases EF:p.path with
  | nil=>exact absurd EF au
  | cons a b=>rw [EF] at e; simp at e
inductive kF (g g2:aM) (r:Nat) (x2:ab):List (Nat × ab)->Prop
 | nil:kF g g2 r x2 []
 | n {s:Nat}{x:ab}{l:List (Nat × ab)}(dr:Nat.beq s r=false) (h:g s=some x) [aF:cg x] (t:kF g g2 r x2 l):kF g g2 r x2 ((s,x)::l)
 | p {s q k:Nat}{l:List (Nat × ab)}{cs kq:List ab}(dr:Nat.beq s r=false) (h:g s=some (.ptr ⟨q,[]⟩ k)) (h1:g q=some (.obj cs)) (hk:Nat.blt k cs.length=true) (af:g2 q=some (.obj kq)) (fX:Nat.blt k kq.length=true) (t:kF g g2 r x2 l):kF g g2 r x2 ((s,.ptr ⟨q,[]⟩ k)::l)
 | e {s:Nat}{x:ab}{c2:List ab}{l:List (Nat × ab)}(dr:Nat.beq s r=false) (h:g s=some x) (he:o_ g g2 x) (iv:x2=.obj c2) (t:kF g g2 r x2 l):kF g g2 r x2 ((s,x)::l)
 | w {α:Type}{s q:Nat}{en:bJ α}{L:List α}{l:List (Nat × ab)}(dr:Nat.beq s r=false) (h:g s=some (.a6 en.z ⟨q,[]⟩ L.length)) (h1:g q=some (aj en L)) (af:g2 q=some (aj en L)) (t:kF g g2 r x2 l):kF g g2 r x2 ((s,.a6 en.z ⟨q,[]⟩ L.length)::l)
 | b {l:List (Nat × ab)}{x:ab}(e:x=x2) [aF:cg x2] (t:kF g g2 r x2 l):kF g g2 r x2 ((r,x)::l)
theorem kF.spec {x2:ab}{l:List (Nat × ab)}(h:kF g g2 r x2 l):∀ t x,get l t=some x->(t≠r/\g t=some x/\(p_ g g2 x\/o_ g g2 x/\∃ c2,x2=.obj c2))\/(t=r/\x=x2/\cU x):=by
 induction h with
 | nil=>intro t x J; cases J
 | @n s x l dr h aF _ aU =>
  intro t y ax;simp only [get] at ax
  split at ax
  ·rename_i e;subst e;cases ax;exact .inl ⟨Nat.ne_of_beq_eq_false dr,h,.inl (.n aF.bm)⟩
  grind
 | @p s q k l cs kq dr h h1 hk af fX _ aU =>
  intro t y ax;simp only [get] at ax
  split at ax
  ·rename_i e;subst e;cases ax;exact .inl ⟨Nat.ne_of_beq_eq_false dr,h,.inl (.p h1 (by simpa using hk) af (by simpa using fX))⟩
  grind
 | @e s x c2 l dr h he iv _ aU =>
  grind [get,Nat.ne_of_beq_eq_false]
 | @w α s q en L l dr h h1 af _ aU =>
  intro t y ax;simp only [get] at ax
  split at ax
  ·rename_i e;subst e;cases ax;exact .inl ⟨Nat.ne_of_beq_eq_false dr,h,.inl (.r h1 (Nat.le_refl _) af (Nat.le_refl _))⟩
  grind
 | @b l x e aF _ aU =>
  intro t y ax;simp only [get] at ax
  split at ax
  ·rename_i cj;subst cj;cases ax;subst e;exact .inr ⟨rfl,rfl,aF.bm⟩
  grind
theorem p_.Kf {x:ab}{k0 m0:Nat}(h:p_ g g2 x):jm (λr=>gD g r/\Clear p k0 m0 r/\gD g2 r) x:=by
 cases h with
 | n h=>exact .bm h
 | p h hk af fX =>
  refine .ref rfl ⟨uA h hk,?_,uA af fX⟩;intro q bg _ j dn e;simp only [Aw,Option.some.injEq] at bg;subst bg;simp at e
 | r h hk af fX =>
  refine .ref rfl ⟨Av h hk,?_,Av af fX⟩;intro q bg _ j dn e;simp only [Aw,Option.some.injEq] at bg;subst bg;simp at e
theorem bl.s_ {gi:Oper}{en:bJ α}{L:List α}{jj y2:α}{o:Nat}{cs':List ab}{x2:ab}{G2:List (Nat × ab)}(a1:gi.op=.store t a b) (aS:gi.dst=none) (aP:Rd g a (.ptr p (m.toNat * en.z+o))) (av:Rd g b y) (au:bD g p=some (aj en L)) (h:idx L m=some jj) (aY:hl P t cs'.length=true)
  (aa:oH y=some cs') (he:e5 (en.cells jj) o cs'=en.cells y2) (hlen:Nat.ble (o+cs'.length) en.z=true) (aR:Nat.blt 0 cs'.length=true) (iv:cv g p (aj en (L.set m.toNat y2)) p.root=some x2) (ao:(get G2 p.root).isSome=true) [aF:cg y] {y0:ab}(ri:g p.root=some y0) [e8:cg y0] (c_:kF g (get G2) p.root x2 G2):bl P N g gi (get G2):=by
 have BM:=Nat.le_of_ble_eq_true hlen;have je:=Kh en h he BM;have NM:(L.set m.toNat y2).length=L.length:=List.length_set;refine .store a1 aS aP.bs av.bs (.bm (by simpa using aF.bm)) .refl aa aY (p:=p) (nd:=aj en L) (z:=en.z) (n:=L.length) (cs:=bp en L) au (.inl rfl) ?_ (by simpa using aR) (λt x J=>?_) (λt x J y ax=>?_) (λt z q n m new J=>?_) (by intro e; rw [e] at ao; cases ao)
 ·obtain ⟨Db,ll,_⟩:=pJ h;rw [nm];have af:m.toNat+1<=L.length:=by omega
  calc m.toNat * en.z+o+cs'.length<=m.toNat * en.z+en.z:=by omega
   _=(m.toNat+1) * en.z:=by rw [Nat.add_mul]; omega
   _<=L.length * en.z:=Nat.mul_le_mul_right _ af
 ·have fp:(aj en L).e5 (m.toNat * en.z+o) cs'=aj en (L.set m.toNat y2):=by
   show ab.own en.z L.length (e5 (bp en L) (m.toNat * en.z+o) cs')=_
   grind
  rw [fp];rcases c_.spec t x J with ⟨h1,af,_⟩ | ⟨h1,af,_⟩
  ·grind [uD]
  grind
 ·rcases c_.spec t x J with ⟨h1,af,aI⟩ | ⟨h1,af,aI⟩
  ·rw [af] at ax;cases ax;rcases aI with aI | ⟨aI,c2,rfl⟩
   ·exact aI.Kf
   ·refine jm.ref (by cases aI; rfl) ⟨aI.O3,aI.clear ?_,aI.Fm⟩
    grind [cv,ab.setAt]
  ·subst h1;rw [ri] at ax;cases ax;exact .bm e8.bm
 ·rcases c_.spec t _ J with ⟨_,_,aI | ⟨aI,_⟩⟩ | ⟨_,_,aI⟩
  ·exact aI.fy _ _ _ _ _ rfl
  ·exact aI.fy _ _ _ _ _ rfl
  ·cases aI
end
end Go.Own
namespace Go.Own
open Go
theorem RN (a b:ByteArray):(a == b)=decide (a=b):=by
 obtain ⟨a⟩:=a;obtain ⟨b⟩:=b;have:(({ data:=a }:ByteArray) == { data:=b })=(a == b):=rfl;rw [this,Bool.eq_iff_iff];simp
inductive n2 where
 | b | s | i (k:IntKind)
 deriving DecidableEq
def mf:Value->Option n2
 | .bool _=>some .b
 | .string _=>some .s
 | .int k _=>some (.i k)
 | _=>none
def Bi (P:Program) (rc:TypeId->List n2->Bool):List Field->Nat->List n2->Bool
 | [],_,eP=>eP.isEmpty
 | f :: fs, o, eP => f.name != "_" && f.offset == o && (match P.info? f.type with
   | some i=>i.size<=eP.length&&rc f.type (eP.take i.size)&&Bi P rc fs (o+i.size) (eP.drop i.size)
   | none=>false)
def tE (P:Program):Nat->TypeId->List n2->Bool
 | 0,_,_=>false
 | d+1,t,eP=>match P.underlying t with
  | some .bool=>eP == [.b]&&jq P t
  | some (.int k)=>eP == [.i k]&&jq P t
  | some .string=>eP == [.s]&&jq P t
  | some (.struct fs)=>ik P t eP.length&&!P.stoodInHeld t&&Bi P (tE P d) fs.toList 0 eP
  | _=>false
def Mt:Value->Value->Bool
 | .bool a,.bool b=>a == b
 | .int _ a,.int _ b=>decide (a=b)
 | .string a,.string b=>decide (a=b)
 | _,_=>false
def lE:List Value->List Value->Bool
 | a::az,b::dg=>Mt a b&&lE az dg
 | _,_=>true
theorem Mu:∀ (az dg cs jH:List Value),az.length=dg.length->lE (az++cs) (dg++jH)=(lE az dg&&lE cs jH)
 | [],[],cs,jH,_=>by simp [lE]
 | [],_::_,_,_,h=>by simp at h
 | _::_,[],_,_,h=>by simp at h
 | a::az,b::dg,cs,jH,h=>by
  simp only [List.cons_append,lE,Mu az dg cs jH (by simpa using h),Bool.and_assoc]
def pack (P:Program) (t:TypeId) (vs:List Value):Value :=
 match P.underlying t,vs with
 | some (.struct _),_=>.agg vs.toArray
 | _,v::_=>v
 | _,[]=>.agg #[]
theorem PH {P:Program}{w:World}{t:TypeId}{d:Nat}{eP:List n2}(h:tE P (d+1) t eP=true) {cs:List Value}{o:Nat}{vs:List Value}(hv:(cs.drop o).take eP.length=vs) (ak:vs.length=eP.length) :
  (part t cs.toArray o).run P w=.ok (pack P t vs) w:=by
 unfold tE at h
 split at h
 case h_4 fs hu =>
  simp only [Bool.and_eq_true] at h;obtain ⟨h1,af⟩:=DZ (w:=w) h.1.1;simp [part,h1,af,pack,hu,<- hv,List.take_drop]
 case h_5=>cases h
 all_goals
  rename_i hu;simp only [Bool.and_eq_true,beq_iff_eq] at h;obtain ⟨rfl,aa⟩:=h;obtain ⟨h1,af⟩:=Hf (w:=w) aa;obtain ⟨v,rfl⟩:∃ v,vs=[v]:=by
   rcases vs with _ | ⟨v,_ | _⟩ <;> simp at ak;exact ⟨v,rfl⟩
  have:cs[o]?=some v:=by
   have:=congrArg List.head? hv;simpa [List.head?_take] using this
  simp [part,h1,pack,hu,this]
theorem Kl {P:Program}(w:World):∀ (d:Nat) (t:TypeId) (eP:List n2),tE P d t eP=true->∀ (D:Nat),d<=D->∀ (az dg:List Value),az.map mf=eP.map some->dg.map mf=eP.map some ->
  (Op.equalIn D t (pack P t az) (pack P t dg)).run P w=.ok (lE az dg) w
 | 0,_,_,h,_,_,_,_,_,_=>by simp [tE] at h
 | d+1,t,eP,h,D,jJ,az,dg,aP,av=>by
  obtain ⟨D,rfl⟩:∃ E,D=E+1:=⟨D - 1,by omega⟩;have aR:=h;unfold tE at h
  split at h
  case h_5=>cases h
  case h_4 fs hu =>
   simp only [Bool.and_eq_true,Bool.not_eq_true'] at h;obtain ⟨⟨h1,af⟩,aI⟩:=h;have key:∀ (fs:List Field) (o:Nat) (eP:List n2) (nw nx:List Value),Bi P (tE P d) fs o eP=true->az.drop o=nw->dg.drop o=nx->nw.map mf=eP.map some->nx.map mf=eP.map some ->
     (forIn (m:=Sem) (β:=Option Bool × Unit) fs (none,()) λf _ =>
      if f.name = "_" then pure (.yield (none, ()))
      else do
       let x <- part f.type az.toArray f.offset
       let y <- part f.type dg.toArray f.offset
       let c <- Op.equalIn D f.type x y
       if c=false then pure (.done (some false,())) else pure (.yield (none,()))).run P w=.ok (if lE nw nx then (none,()) else (some false,())) w:=by
    intro fs
    induction fs with
    | nil =>
     intro o eP nw nx aO _ _ aP av;have aC:eP=[]:=by simpa [Bi] using aO
     subst aC;have h1:nw=[]:=by simpa using aP
     have af:nx=[]:=by simpa using av
     subst h1 af;simp [lE]
    | cons f fs aU =>
     intro o eP nw nx aO Nr Ns aP av;unfold Bi at aO;cases hi:P.info? f.type with
     | none=>simp [hi] at aO
     | some i =>
      simp only [hi,Bool.and_eq_true,bne_iff_ne,beq_iff_eq,decide_eq_true_eq] at aO;obtain ⟨⟨aF,rfl⟩,⟨hle,he⟩,Vf⟩:=aO;obtain ⟨e,rfl⟩:∃ e,d=e+1:=by
       cases d with
       | zero=>simp [tE] at he
       | succ e=>exact ⟨e,rfl⟩
      have xF:nw.length=eP.length:=by simpa using congrArg List.length aP
      have acL:nx.length=eP.length:=by simpa using congrArg List.length av
      have YW:(nw.take i.size).map mf=(eP.take i.size).map some:=by rw [List.map_take,List.map_take,aP]
      have YX:(nx.take i.size).map mf=(eP.take i.size).map some:=by rw [List.map_take,List.map_take,av]
      have S0:(nw.drop i.size).map mf=(eP.drop i.size).map some:=by rw [List.map_drop,List.map_drop,aP]
      have S1:(nx.drop i.size).map mf=(eP.drop i.size).map some:=by rw [List.map_drop,List.map_drop,av]
      have lt:(eP.take i.size).length=i.size:=by simp; omega
      have lR:=PH (w:=w) he (cs:=az) (o:=f.offset) (vs:=nw.take i.size) (by rw [Nr,lt]) (by simp; omega);have Pg:=PH (w:=w) he (cs:=dg) (o:=f.offset) (vs:=nx.take i.size) (by rw [Ns,lt]) (by simp; omega);have Hn:=Kl w (e+1) f.type _ he D (by omega) _ _ YW YX;have aU:=aU (f.offset+i.size) (eP.drop i.size) (nw.drop i.size) (nx.drop i.size) Vf (by rw [<- Nr,List.drop_drop]) (by rw [<- Ns,List.drop_drop]) S0 S1;have sp:lE nw nx=(lE (nw.take i.size) (nx.take i.size)&&lE (nw.drop i.size) (nx.drop i.size)):=by
       have:=Mu (nw.take i.size) (nx.take i.size) (nw.drop i.size) (nx.drop i.size) (by simp; omega)
       rwa [List.take_append_drop,List.take_append_drop] at this
      rw [List.forIn_cons];cases aa:lE (nw.take i.size) (nx.take i.size) with
      | false=>simp [aF,lR,Pg,Hn,aa,sp]
      | true =>
       simp only [aa] at Hn;simp [aF,lR,Pg,Hn,aa,sp];simpa using aU
   have hk:=key fs.toList 0 eP az dg aI rfl rfl aP av;unfold Op.equalIn;simp [pack,hu,run_underlying hu,af];rw [<- Array.forIn_toList,hk];cases lE az dg <;> simp
  all_goals
   rename_i hu;simp only [Bool.and_eq_true,beq_iff_eq] at h;obtain ⟨rfl,aa⟩:=h;obtain ⟨a,rfl⟩:∃ v,az=[v]:=by
    rcases az with _ | ⟨v,_ | _⟩ <;> simp at aP;exact ⟨v,rfl⟩
   obtain ⟨b,rfl⟩:∃ v,dg=[v]:=by
    rcases dg with _ | ⟨v,_ | _⟩ <;> simp at av;exact ⟨v,rfl⟩
   cases a <;> simp [mf] at aP <;> cases b <;> simp [mf] at av;simp [Op.equalIn,pack,hu,run_underlying hu,lE,Mt,aP,av,RN] <;> rfl
end Go.Own
namespace Go.Own
open Go
def tD (P:Program) (t:TypeId) (eP:List n2):Bool :=
 tE P 100 t eP&&(match P.underlying t with | some (.struct _)=>true | _=>false)&&!P.eqGuardType P.depth t
section
variable {P:Program}{g:aM}{t t2:TypeId}{ty:TypeId}{a b:Operand}
theorem Ya {az dg:List Value}{eP:List n2}(aP:az.map mf=eP.map some) (av:dg.map mf=eP.map some) (aw:tD P t eP=true) (w:World) :
  (do eqGuard .eql t a b (.agg az.toArray) (.agg dg.toArray); binOp .eql t (.agg az.toArray) (.agg dg.toArray):Sem Value).run P w=.ok (.bool (lE az dg)) w:=by
 simp only [tD,Bool.and_eq_true,Bool.not_eq_true'] at aw;obtain ⟨⟨h1,af⟩,aI⟩:=aw;have h:=Kl w 100 t eP h1 Op.maxDepth (by decide) az dg aP av
 split at af
 ·rename_i fs hu;simp only [pack,hu] at h;simp [eqGuard,binOp,aI,Op.equal,h]
 ·cases af
theorem Yc {az dg:List Value}{eP:List n2}(aP:az.map mf=eP.map some) (av:dg.map mf=eP.map some) (aw:tD P t eP=true) (w:World) :
  (do eqGuard .neq t a b (.agg az.toArray) (.agg dg.toArray); binOp .neq t (.agg az.toArray) (.agg dg.toArray):Sem Value).run P w=.ok (.bool (!lE az dg)) w:=by
 simp only [tD,Bool.and_eq_true,Bool.not_eq_true'] at aw;obtain ⟨⟨h1,af⟩,aI⟩:=aw;have h:=Kl w 100 t eP h1 Op.maxDepth (by decide) az dg aP av
 split at af
 ·rename_i fs hu;simp only [pack,hu] at h;simp [eqGuard,binOp,aI,Op.equal,h]
 ·cases af
namespace O
theorem ze {va vb:List Value}{eP:List n2}(J:Rd g a (.agg (va.map .lit))) (ax:Rd g b (.agg (vb.map .lit))) (aP:va.map mf=eP.map some) (av:vb.map mf=eP.map some) (aw:tD P t eP=true) :
  ch P g (.binOp .eql t a b t2) ty (a_ (lE va vb)):=.eW (.A8 J.bs ax.bs rfl λw=>Ya aP av aw w)
theorem JP {va vb:List Value}{eP:List n2}(J:Rd g a (.agg (va.map .lit))) (ax:Rd g b (.agg (vb.map .lit))) (aP:va.map mf=eP.map some) (av:vb.map mf=eP.map some) (aw:tD P t eP=true) :
  ch P g (.binOp .neq t a b t2) ty (a_ (!lE va vb)):=.eW (.A8 J.bs ax.bs rfl λw=>Yc aP av aw w)
end O
end
end Go.Own
namespace Go.Own
open Go
section
variable {P:Program}{N:c6}{g g2:aM}{d r k0:Nat}{α:Type}
theorem View.nT {p:Place}{cs cs':List ab}(au:bD g p=some (.obj cs)) (hk:Nat.blt 0 cs.length=true) [h:ds cs cs']:View g (.ptr p 0) (.cH cs') :=
 .ptr au (z:=0) (n:=0) (.inr rfl) (by simpa using hk) (by simpa using h.l) λk x y J ax=>h.v g k x y (by simpa using J) ax
theorem di.el {en:bJ α}{L:List α}{j off:Nat}{i:Int}{y:α}(af:bD g2 ⟨r,[j]⟩=some (aj en L)) (hi:idx L i=some y) (a1:Nat.blt off en.z=true):di g2 (.ptr ⟨r,[j]⟩ (i.toNat * en.z+off)) :=
 (o_.mk (g:=g2) af hi af hi a1).bV
theorem jx {p:Place}{k:Nat}:∀ z q n m new,ab.ptr p k≠.bL z q n m new:=by simp
inductive yA (g:aM) (d r k0:Nat) (G4:List (Nat × ab)):List (Nat × ab)->Prop
 | nil:yA g d r k0 G4 []
 | c {α:Type}{en:bJ α}{L:List α}{s off:Nat}{i:Int}{y:α}{l:List (Nat × ab)}(h:g s=some (.ptr ⟨r,[k0]⟩ (i.toNat * en.z+off))) (au:bD (get G4) ⟨r,[k0]⟩=some (aj en L)) (hi:idx L i=some y) (a1:Nat.blt off en.z=true) (aS:Nat.beq s d=false) (bK:get G4 s=none) (t:yA g d r k0 G4 l):yA g d r k0 G4 ((s,.ptr ⟨r,[k0]⟩ (i.toNat * en.z+off))::l)
theorem yA.spec {G4 l:List (Nat × ab)}(h:yA g d r k0 G4 l):∀ t x,get l t=some x->get G4 t=none/\t≠d/\g t=some x/\∃ m z n cs,x=.ptr ⟨r,[k0]⟩ m/\bD (get G4) ⟨r,[k0]⟩=some (.own z n cs)/\m<cs.length:=by
 induction h with
 | nil=>intro t x J; cases J
 | @c α en L s off i y l h au hi a1 aS bK _ aU =>
  intro t x J;simp only [get] at J
  split at J
  ·rename_i e;subst e;cases J;exact ⟨bK,Nat.ne_of_beq_eq_false aS,h,_,_,_,_,rfl,au,Hp hi a1⟩
  grind
theorem kF.keep {g':aM}{x2:ab}{G2:List (Nat × ab)}(c_:kF g (get G2) r x2 G2) (h1:∀ t,t≠r->g' t=g t) (af:g' r=some x2):hD g' (get G2):=by
 refine ⟨λt x J=>?_,λt x J=>?_,λt z q n m new J=>?_⟩
 ·rcases c_.spec t x J with ⟨a,b,_⟩ | ⟨rfl,rfl,_⟩
  ·grind
  grind
 ·rcases c_.spec t x J with ⟨_,_,aI | ⟨aI,_⟩⟩ | ⟨_,_,aI⟩
  ·exact aI.bV
  ·exact aI.bV
  ·exact .bm aI
 ·rcases c_.spec t _ J with ⟨_,_,aI | ⟨aI,_⟩⟩ | ⟨_,_,aI⟩
  ·exact aI.fy _ _ _ _ _ rfl
  ·exact aI.fy _ _ _ _ _ rfl
  ·cases aI
theorem PS {cs:List ab}{y x:ab}(h:g r=some (.obj cs)) (hk:cs[k0]?=some x):cv g ⟨r,[k0]⟩ y r=some (.obj (cs.set k0 y)):=by
 grind [cv,ab.setAt,ab.kids,ab.v8]
theorem bl.eT {o:Oper}{y:ab}{cs cs5:List ab}{G1 G4:Value->List (Nat × ab)}{c4:Value->List ab}{G5 A:List (Nat × ab)}(aS:o.dst=some d) (bc:N.ok d=true) (ao:g r=some (.obj cs)) (ax:cs[k0]?=some y) [xq:cg y]
  (h1:∀ v,kF g (get (G1 v)) r (.obj (cs.set k0 (.lit v))) (G1 v)) (aa:∀ v,hJ P N (get (G1 v)) o d (get (G4 v))) (abH:∀ v,get (G4 v) r=some (.obj (c4 v))) (abG:∀ v,(c4 v)[k0]?=some (.lit v)) (abI:∀ v,(c4 v).set k0 y=cs5)
  (cG:∀ v,kF (get (G4 v)) (get G5) r (.obj cs5) G5) (TP:bD (get G5) ⟨r,[k0]⟩=some y) (et:yA g d r k0 G5 A):bl P N g o (get (A++G5)):=by
 refine .call aS bc (hJ.Tu ao ax xq.bm λv hv=>⟨get (G1 v),get (G4 v),get G5,?_,aa v,?_,?_,TP,?_⟩)
 ·exact (h1 v).keep (λt aw=>uD aw) (PS ao ax)
 ·grind [bD,ab.at,ab.kids]
 ·refine (cG v).keep (λt aw=>uD aw) ?_
  grind [PS]
 ·refine ⟨λt x h=>?_,λt x h=>?_⟩
  ·rw [Ei];cases rX:get A t with
   | none=>exact h
   | some z =>
    obtain ⟨ll,_⟩:=et.spec t z rX
    grind
  ·rw [Ei] at h;cases rX:get A t with
   | none=>rw [rX] at h; exact .inl h
   | some z =>
    rw [rX] at h;cases h;exact .inr (et.spec t x rX)
end
end Go.Own
namespace Go.Own
open Go
section
variable {P:Program}{N:c6}{ops:Array Oper}{g g1 mS:aM}{K:aM->Prop}{l:List Oper}{d r:Nat}{t:TypeId}{a b:Operand}{x y:ab}
variable {bd:List (List Nat)}{acc:Acc}{i:Nat}
theorem hX {a b:Nat}(h:Nat.blt a b=true):a<b:=by simpa using h
def Fa:Option Nat->Nat->Bool
 | none,_=>true
 | some a,d=>!Nat.beq a d
theorem OO {o:Option Nat}{d:Nat}(h:Fa o d=true):o≠some d:=by
 rintro rfl;simp [Fa] at h
inductive wq (P:Program) (N:c6) (ops:Array Oper) (bd:List (List Nat)) (rs:Place->Prop) (mS g1:aM) (o:Oper) (U:Acc):Acc->Prop
 | nil:wq P N ops bd rs mS g1 o U []
 | c {k d:Nat}{x:ab}{gi:Oper}{V:Acc}(b0:A5 rs mS g1 o x) (h1:g1 d=none) (dr:Fa o.dst d=true) (a1:ops[k]?=some gi) (EC:gi.dst=some d) (bc:N.ok d=true) (hw:iA (dh g1 (λm=>(bd.getD k []).contains m) U) ops gi true)
   (aC:ch P (dh g1 (λm=>(bd.getD k []).contains m) U) gi.op gi.type x) (t:wq P N ops bd rs mS g1 o U V):wq P N ops bd rs mS g1 o U ((k,d,some x)::V)
theorem wq.spec {o:Oper}{U V:Acc}{rs:Place->Prop}(h:wq P N ops bd rs mS g1 o U V):∀ e∈V,(∃ x,e.2.2=some x/\A5 rs mS g1 o x)/\(g1 e.2.1=none/\o.dst≠some e.2.1)/\∃ gi,ops[e.1]?=some gi/\gi.dst=some e.2.1/\N.ok e.2.1=true/\p' P (dh g1 (λm=>(bd.getD e.1 []).contains m) U) ops gi e.2.2:=by
 induction h with
 | nil=>intro e he; cases he
 | c b0 h1 dr a1 EC bc hw aC _ aU =>
  intro e he;rcases List.mem_cons.1 he with rfl | he
  ·exact ⟨⟨_,rfl,b0⟩,⟨h1,OO dr⟩,_,a1,EC,bc,.inl ⟨hw,.inl aC⟩⟩
  ·exact aU e he
theorem bA.ej (bG:Nat) {G G2:List (Nat × ab)}{U:Acc}{o:Oper}{rs:List Nat}(he:o9 P N (sk rs) (dh (get G) (λm=>(bd.getD bG []).contains m) acc) o (get G2)) (l8:rs.all (λr=>(get G r).isSome)=true) (aO:o.guard=none) (gQ:rl ((acc.filterMap j1).map Place.root)=true) (fH:mc G=true) (ah:Nat.beq ops.size (bG+l.length+1)=true)
  (ga:acc.filter (λe=>!(bd.getD bG []).contains e.1)=U) (oe:wq P N ops bd (sk rs) (dh (get G) (λm=>(bd.getD bG []).contains m) acc) (get G2) o U U)
  (av:(List.range ops.size).all (λk=>Nat.ble k bG||(bd.getD k []).contains bG)=true) (hk:bA P N ops bd (get G2) (bG+1) U l K):bA P N ops bd (get G) i acc (o::l) K:=by
 intro dV j cx kP k_;have:=zc k_ ah;subst this;obtain ⟨h1,af⟩:=drop_cons k_;have nH:∀ e∈U,e∈acc:=λe he=>by rw [<- ga] at he; exact (List.mem_filter.1 he).1
 have Bx:mL P N ops bd (get G2) (j+1) U:=⟨λe he=>by have:=(kP.le cx).2 e (nH e he); omega,λe he=>(oe.spec e he).2.1.1,by rw [<- ga]; exact (List.filter_sublist.map _).nodup (kP.nodup cx),λe he cj h9 h=>kP.uniq cx (nH e he) (nH cj h9) h,λe he=>(oe.spec e he).2.2⟩;obtain ⟨g',ao,dj⟩:=hk U (j+1) Bx .nil af;refine ⟨g',.wC kP (E' gQ) (vF fH) h1 ?_ he (λr ao e=>by have:=List.all_eq_true.1 l8 r.root ao; rw [e] at this; cases this) ga.symm (λe h=>(oe.spec e h).1) (λe h=>(oe.spec e h).2.1) (λe h=>(oe.spec e h).2.2) ?_ ao,dj⟩
 ·unfold iA; rw [aO]
 ·refine List.all_eq_true.2 λk hk=>?_;have:=List.all_eq_true.1 av k hk;simp only [Bool.or_eq_true,decide_eq_true_eq,Nat.ble_eq] at this ⊢;exact this
theorem bA.LU (bG:Nat) {G G2:List (Nat × ab)}{U:Acc}{o:Oper}{ps:List Place}(he:o9 P N (λp=>p∈ps) (dh (get G) (λm=>(bd.getD bG []).contains m) acc) o (get G2)) (l8:ps.all (λr=>(get G r.root).isSome)=true) (aO:o.guard=none) (gQ:rl ((acc.filterMap j1).map Place.root)=true) (fH:mc G=true) (ah:Nat.beq ops.size (bG+l.length+1)=true)
  (ga:acc.filter (λe=>!(bd.getD bG []).contains e.1)=U) (oe:wq P N ops bd (λp=>p∈ps) (dh (get G) (λm=>(bd.getD bG []).contains m) acc) (get G2) o U U)
  (av:(List.range ops.size).all (λk=>Nat.ble k bG||(bd.getD k []).contains bG)=true) (hk:bA P N ops bd (get G2) (bG+1) U l K):bA P N ops bd (get G) i acc (o::l) K:=by
 intro dV j cx kP k_;have:=zc k_ ah;subst this;obtain ⟨h1,af⟩:=drop_cons k_;have nH:∀ e∈U,e∈acc:=λe he=>by rw [<- ga] at he; exact (List.mem_filter.1 he).1
 have Bx:mL P N ops bd (get G2) (j+1) U:=⟨λe he=>by have:=(kP.le cx).2 e (nH e he); omega,λe he=>(oe.spec e he).2.1.1,by rw [<- ga]; exact (List.filter_sublist.map _).nodup (kP.nodup cx),λe he cj h9 h=>kP.uniq cx (nH e he) (nH cj h9) h,λe he=>(oe.spec e he).2.2⟩;obtain ⟨g',ao,dj⟩:=hk U (j+1) Bx .nil af;refine ⟨g',.wC kP (E' gQ) (vF fH) h1 ?_ he (λr ao e=>by have:=List.all_eq_true.1 l8 r ao; rw [e] at this; cases this) ga.symm (λe h=>(oe.spec e h).1) (λe h=>(oe.spec e h).2.1) (λe h=>(oe.spec e h).2.2) ?_ ao,dj⟩
 ·unfold iA; rw [aO]
 ·refine List.all_eq_true.2 λk hk=>?_;have:=List.all_eq_true.1 av k hk;simp only [Bool.or_eq_true,decide_eq_true_eq,Nat.ble_eq] at this ⊢;exact this
theorem o9.box {o:Oper}{r:Nat}{x:ab}{G1 G2:List (Nat × ab)}(he:bl P N (get G1) o (get G2)) (ao:g r=some x) [J:cg x] (hk:Trim false g (get G1) G1) (aR:get G1 r=none) (h1:get G2 r=none) (aS:Fa o.dst r=true):o9 P N (sk [r]) g o (get ((r,x)::G2)):=by
 rw [<- sA];exact he.j_.frame ao J.bm hk.keep aR h1 (OO aS)
theorem bl.jh {o:Oper}{k0:Nat}{cs cs' cs2:List ab}{G2:List (Nat × ab)}(a1:o.op=.store t a b) (aS:o.dst=none) (aC:g r=some (.obj cs)) (aP:Rd g a (.ptr ⟨r,[]⟩ k0)) (av:Rd g b y) [aF:cg y] (aa:oH y=some cs') (aY:hl P t cs'.length=true)
  (hk:Nat.ble (k0+cs'.length) cs.length=true) (aR:Nat.blt 0 cs'.length=true) (he:e5 cs k0 cs'=cs2) [e8:dq cs] (ao:(get G2 r).isSome=true) (c_:k6 g (get G2) r cs2 G2):bl P N g o (get G2) :=
 .box a1 aS aC aP av aF.bm aa aY (Nat.le_of_ble_eq_true hk) (by simpa using aR) he (by intro e; rw [e] at ao; cases ao) c_
end
end Go.Own
namespace Go.Own
open Go
section
variable {α:Type}
theorem ds.app {xs ys xs' DC:List ab}(h:ds xs ys) (aQ:ds xs' DC):ds (xs++xs') (ys++DC):=⟨by simp [h.l,aQ.l],λg k a b aP av=>by
 by_cases hk:k<xs.length
 ·rw [List.getElem?_append_left hk] at aP;rw [List.getElem?_append_left (by rw [h.l]; exact hk)] at av;exact h.v g k a b aP av
 ·rw [List.getElem?_append_right (by omega)] at aP;rw [List.getElem?_append_right (by rw [h.l]; omega),h.l] at av;exact aQ.v g _ a b aP av⟩
instance {e cj:bJ α}{L:List α} [h:gU e cj]:ds (bp e L) (bp cj L):=⟨(Du e cj L).1,(Du e cj L).2⟩
theorem i'.Kg {en:bJ α}{L:List α}{n:Nat}{cs cs':List ab}(h:bp en L=cs') (ak:L.length=n) [hv:ds cs cs']:i' (.own en.z n cs) (ag en L):=⟨λg=>by
 subst h ak;exact .own hv.l (hv.v g)⟩
theorem i'.ia {en tC:bJ α}{L M:List α}{m:Nat}{new c3:List ab} [h:gU en tC] (aF:bp tC M=c3) (hm:M.length=m) [aQ:ds new c3]:i' (.own en.z (L.length+m) (bp en L++new)) (ag tC (L++M)):=⟨λg=>by
 subst aF hm;have hv:=ds.app (inferInstance:ds (bp en L) (bp tC L)) aQ;show View g (.own en.z (L.length+M.length) (bp en L++new)) (.bj tC.z (L++M).length (bp tC (L++M)));have e:bp tC (L++M)=bp tC L++bp tC M:=by simp [bp]
 rw [e,List.length_append,<- h.z];exact .own hv.l (hv.v g)⟩
end
end Go.Own
namespace Go.Own
open Go
section
variable {α:Type}{g g2:aM}{p q:Place}{P:Program}{a b:Operand}{t:TypeId}{ty:TypeId}
theorem di.a6 {en:bJ α}{L:List α}(h:bD g2 p=some (aj en L)):di g2 (.a6 en.z p L.length):=.ref rfl (.inl ⟨_,_,h,Nat.le_refl _⟩)
theorem iS {z n:Nat}:∀ bE q cE m new,ab.a6 z p n≠.bL bE q cE m new:=by simp
namespace O
theorem Rs {en:bJ α}{L M r:List α}{e gL m:Nat}{cs:List ab}(aC:Rd g a (.a6 en.z p L.length)) (au:bD g p=some (aj en L)) (J:Rd g b (.a6 en.z q m)) (bg:bD g q=some (.own en.z m cs)) (ak:cs.length=m * en.z) (aW:cs.all l2=true) (hm:M.length=m) (aw:jG P t e en.z gL=true) (av:Nat.ble gL 128=true) (h:db L M=some r)
  (e8:∀ t z n m new,g t≠some (.bL z p n m new)):ch P g (.call { callee:=.builtin .append,args:=#[a,b],argTypes:=#[t,t] }) ty (.bL en.z p L.length m cs):=by
 subst hm;obtain ⟨h1,af,_⟩:=yY h av;exact .lR (.grow aC.bs (.inl ⟨_,au⟩) (λt bE cE m' c3 e=>e8 _ _ _ _ _ e) J.bs (P_ bg ak aW) aw h1 af)
end O
end
end Go.Own
