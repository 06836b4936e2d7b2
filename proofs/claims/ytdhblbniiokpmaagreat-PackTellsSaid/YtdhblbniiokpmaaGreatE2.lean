/-
  Parts of the proof that the last text states. No condition of their own.
-/
import Derived.RowKit3
import Derived.Test.YtdhblbniiokpmaaGreatE1
namespace Go.Own
open Go
structure hz (g1 g2:aJ):Prop where
 sub:∀ t x,g2 t=some x->g1 t=some x
 bW:∀ t x,g2 t=some x->di g2 x
 fA:∀ t z q n m new,g2 t≠some (.bM z q n m new)
structure c6 where
 size:Nat
 pins:List Nat
def c6.ok (N:c6) (d:Nat):Bool:=Nat.blt d N.size&&!N.pins.elem d
def hy (N:c6) (T T':Array Value):Prop:=T'.size=T.size/\∀ t∈N.pins,T'[t]?=T[t]?
theorem hy.refl {N:c6}{T:Array Value}:hy N T T:=⟨rfl,λ_ _=>rfl⟩
theorem hy.trans {N:c6}{T LO LP:Array Value}(h:hy N T LO) (h1:hy N LO LP):hy N T LP:=⟨h1.1.trans h.1,λt aw=>(h1.2 t aw).trans (h.2 t aw)⟩
theorem c6.lt {N:c6}{d:Nat}(h:N.ok d=true):d<N.size:=by
 simp_all [c6.ok]
theorem hy.put {N:c6}{d:Nat}(h:N.ok d=true) (T:Array Value) (v:Value):hy N T (T.setIfInBounds d v):=by
 refine ⟨by simp,λt aw=>?_⟩
 grind [c6.ok]
def h2 (N:c6) (a:Act) (w:World) (I:bc) (Fs:Nat->bc) (g':aJ) (b':Act) (w':World):Prop :=
 b'.defers=a.defers/\hy N a.tmps b'.tmps/\∃ I' b5,cD w' I' b'.tmps g' b5/\ko w I (λc=>∃ t,Fs t c) w' I' (λc=>∃ t,b5 t c)
theorem wq {b5:Nat->bc}{d:Nat}{F:bc}{c:Nat}(h:∃ t,uT b5 d F t c):(∃ t,b5 t c)\/F c:=by
 obtain ⟨t,h⟩:=h;unfold uT at h
 grind
structure yF (P:Program) (g:aJ) (f:FuncId) (all xs0 xs1 args:List ab) (tk:Nat->Bool) (vw:Bool) (g1 g2:aJ) (outs:List (Option ab)) (res:ab) (l:List (Place × ab)) (ks:Nat->Nat) (g4:aJ):Prop where
 aW:hp P f=true
 Cv:xs0.length=all.length
 xN:args.length=all.length
 aT:∀ (k:Nat) (x:ab),all[k]?=some x->xs0[k]?=some x\/xs0[k]?=some .dead
 aw:Take g xs0 xs1 g1
 hk:hz g1 g2
 aR:∀ (k:Nat) (x y:ab),all[k]?=some x->args[k]?=some y->if tk k then xs1[k]?=some y else vw=true/\View g2 x y
 gM:bR P f args outs res
 aj:if vw then kH res else cS res
 kc:∀ (k:Nat) (x:ab),outs[k]?=some (some x)->if vw then kH x else cS x
 ai:∀ (j:Nat) (p:Place) (x:ab),l[j]?=some (p,x)->Rs g g2 all outs (ks j) p x
 nd:(l.map (·.1)).Nodup
 inj:∀ i j,i<l.length->j<l.length->ks i=ks j->i=j
 XC:hz (qy g2 l) g4
section
variable {P:Program}{w:World}{I:bc}{T:Array Value}{g:aJ}{Fs:Nat->bc}
theorem jx.keep (h:jx w I T g Fs) {g2:aJ}(hk:hz g g2):cD w I T g2 (λt c=>g2 t≠none/\Fs t c) :=
 h.ZI hk.sub hk.bW λ_ _ _ _ _ _ _ _ _ _ _ h1=>absurd h1 (hk.fA _ _ _ _ _ _)
structure wB (g:aJ) (d:Nat) (g4 g5:aJ):Prop where
 sub:∀ t x,g4 t=some x->g5 t=some x
 new:∀ t x,g5 t=some x->g4 t=some x\/(g4 t=none/\t≠d/\g t=some x/\∃ r k cs,x=.ptr ⟨r,[]⟩ k/\r≠d/\g4 r=some (.obj cs)/\k<cs.length)
theorem wB.refl {d:Nat}{g4:aJ}:wB g d g4 g4:=⟨λ_ _ h=>h,λ_ _ h=>.inl h⟩
theorem cD.back (h:cD w I T g Fs) {w':World}{I':bc}{d:Nat}{v:Value}{g4 g5:aJ}{Lz:Nat->bc}(bD:cD w' I' (T.setIfInBounds d v) g4 Lz) (au:wB g d g4 g5):cD w' I' (T.setIfInBounds d v) g5 Lz:=by
 refine ⟨λt x J=>?_,λt aw c aa=>?_,bD.eK,bD.bn,bD.lt,λt t' z p n m new bA cB m' c0 h1 af=>?_⟩
 ·rcases au.new t x J with aL | ⟨h1,af,aI,r,k,cs,rfl,cF,dS,mQ⟩
  ·obtain ⟨u,hu,a1⟩:=bD.rel t x aL;exact ⟨u,hu,bD.w5 (λ_ _=>rfl) (λ_ _ _=>rfl) (λ_ _=>rfl) (λ_ h=>h) au.sub a1 λ_ _=>rfl⟩
  ·obtain ⟨u,hu,a1⟩:=h.rel t _ aI;obtain ⟨⟨DA,ad,aF,a2,rfl⟩,_⟩:=(a1.gF (by simp)).nI;have dK:∀ s,s≠d->(T.setIfInBounds d v)[s]?=T[s]?:=λs aA=>by rw [Array.getElem?_setIfInBounds_ne (Ne.symm aA)]
   refine ⟨_,by rw [dK t af]; exact hu,.tree (.ref rfl ⟨⟨DA,ad,?_,a2,rfl⟩,?_⟩ (bD.kW t h1))⟩
   ·grind [dV,walk]
   ·exact ⟨.obj cs,by simp [bz,au.sub r _ dS,ab.at],0,0,cs,.inr rfl,mQ⟩
 ·cases aL:g4 t with
  | none=>exact bD.kW t aL c aa
  | some y=>rw [au.sub t y aL] at aw; cases aw
 ·have:∀ {t z p n m new},g5 t=some (.bM z p n m new)->g4 t=some (.bM z p n m new):=by
   intro t z p n m new J;rcases au.new t _ J with aL | ⟨_,_,_,r,k,cs,e,_⟩
   all_goals grind
  exact bD.rm t t' z p n m new bA cB m' c0 (this h1) (this af)
def hF (P:Program) (N:c6) (g:aJ) (o:Oper) (d:Nat) (g5:aJ):Prop :=
 ∀ (w:World) (I:bc) (T:Array Value) (Fs:Nat->bc),cD w I T g Fs->∀ (a:Act),a.tmps=T->a.tmps.size=N.size->∀ (K:Act->World->Prop) (Q:Exit->Act->World->Prop),
  (∀ (b':Act) (w':World) (v:Value) (I':bc) (b5:Nat->bc),b'.defers=a.defers->b'.tmps=T.setIfInBounds d v->cD w' I' (T.setIfInBounds d v) g5 b5->ko w I (λc=>∃ t,Fs t c) w' I' (λc=>∃ t,b5 t c)->K b' w')->o.wp P a w K Q
theorem hF.sound {N:c6}{o:Oper}{d:Nat}{g5:aJ}(aa:hF P N g o d g5) (jG:N.ok d=true) (h:cD w I T g Fs) {a:Act}(aR:a.tmps=T) (bd:a.tmps.size=N.size) {K:Act->World->Prop}{Q:Exit->Act->World->Prop}
  (dj:∀ b' w',h2 N a w I Fs g5 b' w'->K b' w'):o.wp P a w K Q :=
 aa w I T Fs h a aR bd K Q λb' w' v I' b5 h1 af aI bD=>dj b' w' ⟨h1,by rw [af,<- aR]; exact hy.put jG _ _,I',b5,by rw [af]; exact aI,bD⟩
theorem yF.ok {N:c6}{o:Oper}{c:Operand}{xs:Array Operand}{gl:Array TypeId}{d:Nat}{f:FuncId}{first caps ys xs0 xs1 args:List ab}{tk:Nat->Bool}{vw:Bool}{g1 g2 g4 g5:aJ}{outs:List (Option ab)}{res:ab}{l:List (Place × ab)}{ks:Nat->Nat}
  (aY:o.op=.call { callee:=.value c,args:=xs,argTypes:=gl }) (aS:o.dst=some d) (aa:bs g c=some (.cU (.func f) first caps)) (J:gk g xs.toList=some ys)
  (he:yF P g f (first++ys++caps) xs0 xs1 args tk vw g1 g2 outs res l ks g4) (aP:g4 d=none) (jG:N.ok d=true) (VB:wB g d (cT g4 d res) g5):hF P N g o d g5:=by
 intro w I T Fs h a aR bd K Q dj;obtain ⟨v1,v2,vn,ai,qf⟩:=HA h aR aa J;have hK:(execOp a.eval o).run P w=.ok (.enter f (v1++xs.map a.eval++v2)) w:=by
  simp [execOp,aY,resolve,Deferred.ofValue,vn,invoke,Bh he.aW]
 generalize xp:(v1++xs.map a.eval++v2).toList=vs at *;generalize Is:first++ys++caps=all at *
 -- what is taken
 have vh:Hand w I (fC w T) Fs xs0 vs (λ_=>cv):=by
  refine ⟨by rw [he.Cv,ai],λk x u J hu=>?_,λ_ _ _ _ _ h=>h.elim,λ_ _ _ _ h=>h.elim,λ_ _ _ h=>h.elim⟩;have hk:k<all.length:=by rw [<- he.Cv]; exact (List.getElem?_eq_some_iff.1 J).1
  have BF:=List.getElem?_eq_getElem hk;rcases he.aT k _ BF with aT | aT
  ·rw [aT] at J; cases J;exact (qf k _ u BF hu).frame (λ_ _=>rfl) (λ_ h=>h) (λ_ _ h=>h.1) λ_ _=>rfl
  ·rw [aT] at J; cases J;exact .dead λ_ h=>h
 obtain ⟨fY,H1,iZ,iK,hJ⟩:=he.aw.sound h.mC vh;have NN:∀ c,lx fY xs1.length H1 c->∃ t,Fs t c:=by
  intro c aa;rcases hJ c aa with aL | ⟨_,_,aL⟩
  ·exact aL
  ·exact aL.elim
 have h4:=iZ.keep he.hk;generalize UJ:(λt c=>g2 t≠none/\fY t c)=iV at h4;have Nv:∀ t c,iV t c->fY t c:=by intro t c aa; rw [<- UJ] at aa; exact aa.2
 have I3:xs1.length=all.length:=by rw [he.aw.length,he.Cv]
 -- what the callee sees
 let DX:bc:=λc=>I c\/(vw=true/\∃ t,iV t c)
 let yH:Nat->bc:=λt c=>t<all.length/\tk t=true/\H1 t c;have tN:∀ t c,yH t c->(∀ s,¬ iV s c)/\¬ I c/\∃ t,Fs t c:=by
  rintro t c ⟨h1,af,aI⟩;exact ⟨λs aA=>iK.off t s c (by omega) aI (Nv s c aA),iK.bn t c (by omega) aI,NN c (.inr ⟨t,by omega,aI⟩)⟩
 have Ov:∀ (ρ':ab->Value->Prop) (k:Nat) (y:ab) (u:Value),args[k]?=some y->vs[k]?=some u->R w DX ρ' y u (yH k):=by
  intro ρ' k y u av hu;have hk:k<all.length:=by rw [<- he.xN]; exact (List.getElem?_eq_some_iff.1 av).1
  have BF:=List.getElem?_eq_getElem hk;have:=he.aR k _ y BF av
  split at this
  ·rename_i aw;have mW:cS y:=he.aw.FD y (List.mem_of_getElem? this);exact (((iK.rel k y u this hu).bo mW).oe λc aa=>.inl aa).zc λc=>⟨λaa=>⟨hk,aw,aa⟩,λaa=>aa.2.2⟩
  ·rename_i aw;obtain ⟨hv,WQ⟩:=this;have gD:R w I (fC w T) all[k] u cv:=(qf k _ u BF hu).frame (λ_ _=>rfl) (λ_ h=>h) (λ_ _ h=>h.1) λ_ _=>rfl;have:=View.QC h4.mC WQ gD (λ_ h=>h.elim) ρ';refine (this.oe (I':=DX) λc aa=>?_).zc λc=>⟨λh=>h.elim,λaa=>absurd aa.2.1 aw⟩;rcases aa with aL | aL
   ·exact .inl aL
   ·exact .inr ⟨hv,aL⟩
 have U8:cD w DX vs.toArray (p7 args) yH:=by
  refine ⟨λt x J=>?_,λt aw c aa=>?_,λt t' c aa fp=>iK.eK t t' c (by have:=aa.1; omega) (by have:=fp.1; omega) aa.2.2 fp.2.2,λt c aa hi=>?_,λc aa=>?_,λt t' z p n m new bA cB m' c0 h1 af=>?_⟩
  ·have aw:t<args.length:=(List.getElem?_eq_some_iff.1 J).1;have hu:vs[t]?=some (vs[t]'(by rw [<- ai,<- he.xN]; exact aw)):=List.getElem?_eq_getElem _;exact ⟨_,by rw [List.getElem?_toArray]; exact hu,.tree (Ov _ t x _ J hu)⟩
  ·have hle:args.length<=t:=by simpa [p7] using aw
   have:=aa.1; have:=he.xN; omega
  ·obtain ⟨h1,af,_⟩:=tN t c aa;rcases hi with aL | ⟨_,s,aL⟩
   ·exact af aL
   ·exact h1 s aL
  ·rcases aa with aL | ⟨_,s,aL⟩
   ·exact h.lt c aL
   ·exact h4.jS s c aL
  ·have aw:t<args.length:=(List.getElem?_eq_some_iff.1 h1).1;have hu:vs[t]?=some (vs[t]'(by rw [<- ai,<- he.xN]; exact aw)):=List.getElem?_eq_getElem _;exact (Ov (λ_ _=>False) t _ _ h1 hu).lk.elim
 have po:=he.gM.2 w DX vs yH (by rw [<- ai,he.xN]) U8;unfold Oper.wp Oper.upon;simp only [hK];rw [<- xp,Array.toArray_toList] at po;refine Calls.mono po ?_;rintro e w' ⟨v,I',b5,rfl,dX,b0⟩;rw [xp] at dX;have lJ:outs.length=all.length:=by rw [he.gM.1,he.xN]
 have pq:vs.length=all.length:=ai.symm
 -- the blocks behind the call
 have Qe:∀ t c,iV t c->w'.heap[c]?=w.heap[c]?:=λt c aa=>b0.eR.block c (h4.jS t c aa) λ⟨s,aA⟩=>(tN s c aA).1 t aa;have so:∀ c,I c->w'.heap[c]?=w.heap[c]?:=λc aa=>b0.eR.block c (h.lt c aa) λ⟨s,aA⟩=>(tN s c aA).2.1 aa
 let If:bc:=λc=>if vw then I c else I' c
 have Kt:∀ t c,b5 t c->(∃ s,yH s c)\/w.heap.size<=c:=λt c aa=>b0.own c ⟨t,aa⟩;have Ps:∀ t c,b5 t c->∀ s,¬ iV s c:=by
  intro t c aa s aA;rcases Kt t c aa with ⟨cR,aL⟩ | aL
  ·exact (tN cR c aL).1 s aA
  ·have:=h4.jS s c aA; omega
 have Pt:∀ t c,b5 t c->¬ If c:=by
  intro t c aa hi;cases vw with
  | true =>
   simp only [If,if_true] at hi;rcases Kt t c aa with ⟨cR,aL⟩ | aL
   ·exact (tN cR c aL).2.1 hi
   ·have:=h.lt c hi; omega
  | false =>
   simp only [If,Bool.false_eq_true,if_false] at hi;exact dX.bn t c aa hi
 have ND:∀ c,If c->I c\/(∃ s,yH s c)\/w.heap.size<=c:=by
  intro c aa;cases vw with
  | true=>simp only [If,if_true] at aa; exact .inl aa
  | false =>
   simp only [If,Bool.false_eq_true,if_false] at aa;rcases b0.new c aa with aL | aL | aL
   ·rcases aL with aL | ⟨aL,_⟩
    ·exact .inl aL
    ·cases aL
   ·exact .inr (.inl aL)
   ·exact .inr (.inr aL)
 have NC:∀ c,I c->If c:=by
  intro c aa;cases vw with
  | true=>simp only [If,if_true]; exact aa
  | false=>simp only [If,Bool.false_eq_true,if_false]; exact b0.more c (.inl aa)
 have U4:cD w' If T g2 iV:=by
  have:=h4.world (w':=w') Qe so b0.eR.size;refine ⟨λt x J=>?_,this.kW,this.eK,λt c aa hi=>?_,λc aa=>?_,this.rm⟩
  ·obtain ⟨v,hv,a1⟩:=this.rel t x J;exact ⟨v,hv,a1.frame (λ_ _=>rfl) NC (λ_ _ h=>h) (λ_ _ _ _ _ _ _=>rfl) λ_ _=>rfl⟩
  ·rcases ND c hi with aL | ⟨s,aL⟩ | aL
   ·exact h4.bn t c aa aL
   ·exact (tN s c aL).1 t aa
   ·have:=h4.jS t c aa; omega
  ·cases vw with
   | true=>simp only [If,if_true] at aa; exact Nat.lt_of_lt_of_le (h.lt c aa) b0.eR.size
   | false=>simp only [If,Bool.false_eq_true,if_false] at aa; exact dX.lt c aa
 -- what comes back in the arguments, and the result
 have Mf:∀ {x:ab}{u:Value}{F:bc}{ρ ρ':ab->Value->Prop},R w' I' ρ x u F->(if vw then kH x else cS x)->R w' If ρ' x u F:=by
  intro x u F ρ ρ' a1 J;cases vw with
  | true=>simp only [if_true] at J; exact a1.ln J
  | false =>
   simp only [Bool.false_eq_true,if_false] at J;refine (a1.bo J).oe λc aa=>?_;simpa [If] using aa
 have CJ:∀ {x:ab},(if vw then kH x else cS x)->∀ z p n m new,x≠.bM z p n m new:=by
  rintro x J z p n m new rfl;cases vw with
  | true=>simp only [if_true] at J; cases J
  | false=>simp only [Bool.false_eq_true,if_false] at J; cases J
 have X5:∀ (k:Nat) (x:ab) (u:Value),outs[k]?=some (some x)->vs[k]?=some u->R w' If (fC w' T) x u (b5 k):=by
  intro k x u J hu;have hk:k<outs.length:=(List.getElem?_eq_some_iff.1 J).1;obtain ⟨wo,jH,a1⟩:=dX.rel k x (by simp only [kY,if_neg (Nat.ne_of_lt hk),J]; rfl);have:wo=u:=by
   rw [List.getElem?_toArray,List.getElem?_append_left (by rw [pq,<- lJ]; exact hk),hu] at jH;exact (Option.some.inj jH).symm
  subst this;exact Mf (a1.gF (CJ (he.kc k x J))) (he.kc k x J)
 obtain ⟨K_,E0,mS⟩:=dX.rel outs.length res (by simp [kY]);have WL:K_=v:=by
  have e:outs.length=vs.length:=by omega
  rw [e] at E0;simpa using E0.symm
 subst WL
 -- back into the places
 obtain ⟨yI,Il,EA⟩:=jx.qy (w:=w') (I:=If) (T:=T) l (λj=>b5 (ks j)) (λj=>vs.getD (ks j) undef) U4.mC he.nd (λj p x ag=>by
   have L:=he.ai j p x ag;have hk:ks j<outs.length:=(List.getElem?_eq_some_iff.1 L.out).1;have hu:vs[ks j]?=some (vs[ks j]'(by rw [pq,<- lJ]; exact hk)):=List.getElem?_eq_getElem _;have vq:vs.getD (ks j) undef=vs[ks j]'(by rw [pq,<- lJ]; exact hk):=by simp [List.getD,hu]
   refine ⟨L.Ma,?_,?_⟩
   ·rw [vq,h4.yt (w':=w') (λ_ _=>rfl) Qe L.Ma];rcases L.arg with ⟨z,n,cs,h1,af⟩ | ⟨cs,h1,af⟩
    ·exact Sc h (qf _ _ _ h1 hu) af
    ·exact Sb h (qf _ _ _ h1 hu) af
   ·rw [vq]; exact X5 _ x _ L.out hu)
  (λj t c ag aa=>Ps _ c aa t) (λj c ag aa=>Pt _ c aa) (λi j c hi ag h1 af=>he.inj i j hi ag (dX.eK _ _ c h1 af))
 have U5:=Il.keep he.XC;have X1:∀ t c,b5 outs.length c->¬ (g4 t≠none/\yI t c):=by
  rintro t c aa ⟨_,bD⟩;rcases EA t c bD with aL | ⟨j,ag,aL⟩
  ·exact Ps _ c aa t aL
  ·have hk:ks j<outs.length:=by
    have sO:=List.getElem?_eq_getElem ag;exact (List.getElem?_eq_some_iff.1 (he.ai j _ _ sO).out).1
   have:=dX.eK _ _ c aa aL;omega
 have nC:=U5.uK (d:=d) (x:=res) (v:=K_) (F:=b5 outs.length) aP (by rw [<- aR,bd]; exact c6.lt jG) (.tree (Mf (mS.gF (CJ he.aj)) he.aj)) X1 (λc aa=>Pt _ c aa) (λz p n m new e=>absurd e (CJ he.aj z p n m new));refine dj _ _ K_ If _ (by rw [aS]; rfl) (by rw [aS]; simp [Act.put,aR]) (h.back nC VB) ⟨?_,NC,λc aa=>?_,λc aa=>?_⟩
 ·exact b0.eR.mono λb _ ⟨s,aA⟩=>(tN s b aA).2.2
 ·rcases ND c aa with aL | ⟨s,aL⟩ | aL
  ·exact .inl aL
  ·exact .inr (.inl (tN s c aL).2.2)
  ·exact .inr (.inr aL)
 ·have fin:∀ t,b5 t c->(∃ s,Fs s c)\/w.heap.size<=c:=by
   intro t aw;rcases Kt t c aw with ⟨s,aL⟩ | aL
   ·exact .inl (tN s c aL).2.2
   ·exact .inr aL
  rcases wq aa with ⟨t,_,aL⟩ | aL
  ·rcases EA t c aL with ig | ⟨j,_,ig⟩
   ·exact .inl (NN c (.inl ⟨t,Nv t c ig⟩))
   ·exact fin _ ig
  ·exact fin _ aL
structure Q9 (g:aJ) (d r k0:Nat) (g4 g5:aJ):Prop where
 sub:∀ t x,g4 t=some x->g5 t=some x
 new:∀ t x,g5 t=some x->g4 t=some x\/(g4 t=none/\t≠d/\g t=some x/\∃ m z n cs,x=.ptr ⟨r,[k0]⟩ m/\bz g4 ⟨r,[k0]⟩=some (.own z n cs)/\m<cs.length)
theorem hz.bz {g1 g2:aJ}(h:hz g1 g2) {p:Place}{y:ab}(ar:bz g2 p=some y):bz g1 p=some y:=by
 unfold Own.bz at *;cases J:g2 p.root with
 | none=>rw [J] at ar; cases ar
 | some x=>rw [J] at ar; rw [h.sub _ _ J]; exact ar
theorem hF.T9 {N:c6}{o:Oper}{r k0 d:Nat}{y:ab}{cs:List ab}{g5:aJ}(aj:g r=some (.obj cs)) (av:cs[k0]?=some y) (xx:cS y)
  (vy:∀ v:Value,v.oneCell'=true->∃ g1 g4 ve,hz (ct g ⟨r,[k0]⟩ (.lit v)) g1/\hF P N g1 o d g4/\bz g4 ⟨r,[k0]⟩=some (.lit v)/\hz (ct g4 ⟨r,[k0]⟩ y) ve/\bz ve ⟨r,[k0]⟩=some y/\Q9 g d r k0 ve g5):hF P N g o d g5:=by
 intro w I T Fs h a aR bd K Q dj;have lf:∀ z q n m new,y≠.bM z q n m new:=by rintro z q n m new rfl; cases xx
 have gp:bz g ⟨r,[k0]⟩=some y:=by simp [bz,aj,ab.at,ab.kids,av]
 obtain ⟨v,cw,hv,dF,dy,put⟩:=h.mC.part gp lf;have um:v.oneCell'=true:=by
  obtain ⟨u,hu,mR⟩:=h.rel r _ aj;obtain ⟨b,wo,h1,af,aI,bD,_⟩:=R.node (z:=0) (n:=0) (mR.gF (by simp)) (.inr rfl) av
  grind [dV,walk]
 obtain ⟨fY,iZ,zk,Bv⟩:=put (.lit v) cv (.lit um λ_ h=>h) (λ_ h=>h.elim) (λ_ h=>h.elim) (λ_ _ _ h=>h.elim);obtain ⟨g1,g4,ve,gZ,cQ,It,IW,acH,au⟩:=vy v um;have uR:∀ t c,fY t c->Fs t c/\¬ cw c:=by
  intro t c aa;by_cases aw:t=r
  ·grind
  ·rw [Bv t aw] at aa;exact ⟨aa,λaW=>aw (h.eK t r c aa (dy c aW))⟩
 have Ik:=iZ.keep gZ;refine cQ w I T _ Ik a aR bd K Q λb' w' fM I' b5 HJ Bo dX b0=>?_;obtain ⟨v2,iU,Cd,mn,UI,KF⟩:=dX.mC.part It (by simp);have Jp:v2=v:=mn.ht.1;subst Jp;have Nz:∀ c,cw c->¬ I c:=λc aa=>h.bn r c (dy c aa);have Bx:∀ c,cw c->c<w.heap.size:=λc aa=>h.jS r c (dy c aa);have CN:∀ c,cw c->¬ ∃ t,(g1 t≠none/\fY t c):=λc aa ⟨t,_,aL⟩=>(uR t c aL).2 aa;have CM:∀ t c,b5 t c->¬ cw c:=by
  intro t c aa aW;rcases b0.own c ⟨t,aa⟩ with aL | aL
  ·grind
  grind
 have Km:∀ c,cw c->¬ I' c:=by
  intro c aa hi;rcases b0.new c hi with aL | aL | aL
  all_goals grind
 have KT:∀ c,cw c->w'.heap[c]?=w.heap[c]?:=λc aa=>b0.eR.block c (Bx c aa) (CN c aa);have so:∀ c,I c->w'.heap[c]?=w.heap[c]?:=λc aa=>b0.eR.block c (h.lt c aa) λ⟨t,_,aL⟩=>h.bn t c (uR t c aL).1 aa;have BD:R w' I' (fC w' (T.setIfInBounds d fM)) y v2 cw :=
  ((dF.bo xx).frame so b0.more (λ_ _ h=>h) KT)
 obtain ⟨LA,Im,Nw,Ia⟩:=KF y cw BD (λc aa aW=>(CM _ c aW aa).elim) (λc aa=>Km c aa) (λt c _ aa aW=>CM t c aW aa);have tQ:=Im.keep IW;have WN:dV w' (T.setIfInBounds d fM) ⟨r,[k0]⟩=some v2:=Cd;have U6:cD w' I' (T.setIfInBounds d fM) g5 (λt c=>ve t≠none/\LA t c):=by
  refine ⟨λt x J=>?_,λt aw c aa=>?_,tQ.eK,tQ.bn,tQ.lt,λt t' z p n m new bA cB m' c0 h1 af=>?_⟩
  ·rcases au.new t x J with aL | ⟨h1,af,aI,m,z,n,cs2,rfl,cF,dS⟩
   ·obtain ⟨u,hu,a1⟩:=tQ.rel t x aL;exact ⟨u,hu,tQ.w5 (λ_ _=>rfl) (λ_ _ _=>rfl) (λ_ _=>rfl) (λ_ h=>h) au.sub a1 λ_ _=>rfl⟩
   ·obtain ⟨u,hu,a1⟩:=h.rel t _ aI;obtain ⟨⟨DA,ad,aF,a2,rfl⟩,_⟩:=(a1.gF (by simp)).nI;rw [hv] at aF;cases aF;refine ⟨_,by rw [Array.getElem?_setIfInBounds_ne (Ne.symm af)]; exact hu,.tree (.ref rfl ⟨⟨v2,ad,WN,a2,rfl⟩,?_⟩ (tQ.kW t h1))⟩;refine ⟨.own z n cs2,?_,z,n,cs2,.inl rfl,dS⟩;unfold Own.bz at cF ⊢;cases gg:ve r with
    | none=>simp only [gg] at cF; cases cF
    | some x'=>simp only [gg] at cF; simp only [au.sub r x' gg]; exact cF
  ·cases aL:ve t with
   | none=>exact aa.1 aL
   | some y=>rw [au.sub t y aL] at aw; cases aw
  ·have:∀ {t z p n m new},g5 t=some (.bM z p n m new)->ve t=some (.bM z p n m new):=by
    intro t z p n m new J;rcases au.new t _ J with aL | ⟨_,_,_,m,z,n,cs2,e,_⟩
    all_goals grind
   exact tQ.rm t t' z p n m new bA cB m' c0 (this h1) (this af)
 refine dj b' w' fM I' _ HJ Bo U6 ⟨?_,b0.more,λc aa=>?_,λc aa=>?_⟩
 ·exact b0.eR.mono λb _ ⟨t,_,aL⟩=>⟨t,(uR t b aL).1⟩
 ·rcases b0.new c aa with aL | ⟨t,_,aL⟩ | aL
  all_goals grind
 ·obtain ⟨t,_,aa⟩:=aa;have:(∃ t,b5 t c)\/cw c:=by
   by_cases aw:t=r
   ·grind
   ·rw [Ia t aw] at aa
    grind
  rcases this with aL | aL
  ·rcases b0.own c aL with ⟨t,_,ig⟩ | ig
   ·grind
   grind
  grind
end
end Go.Own
namespace Go.Own
open Go
def oC:ab->Option (List ab)
 | .agg cs=>some cs
 | .lit v=>some [.lit v]
 | .aN=>some [.aN]
 | .bn z n cs=>some [.bn z n cs]
 | .own z n cs=>some [.own z n cs]
 | .obj cs=>some [.obj cs]
 | .cG cs=>some [.cG cs]
 | .cU f a b=>some [.cU f a b]
 | _=>none
def hx (P:Program) (t:TypeId) (m:Nat):Bool :=
 match P.info? t with
 | some i=>i.size == m
 | none=>false
def iw (P:Program) (N:c6) (g:aJ) (o:Oper) (g':aJ):Prop :=
 ∀ (w:World) (I:bc) (T:Array Value) (Fs:Nat->bc),cD w I T g Fs->∀ (a:Act),a.tmps=T->a.tmps.size=N.size->∀ (K:Act->World->Prop) (Q:Exit->Act->World->Prop),
  (∀ (b':Act) (w':World),h2 N a w I Fs g' b' w'->(∀ t,o.dst≠some t->b'.tmps[t]?=a.tmps[t]?)->K b' w')->o.wp P a w K Q
inductive bl (P:Program) (N:c6) (g:aJ):Oper->aJ->Prop
 | assign {o:Oper}{d:Nat}{x:Operand}{y bu y':ab}{g1 g2:aJ}(aY:o.op=.assign x) (aS:o.dst=some d) (J:bs g x=some y) (aw:Take g [y] [bu] g1) (aX:hZ bu y') (hk:hz g1 g2) (aP:g2 d=none) (bd:N.ok d=true):bl P N g o (cT g2 d y')
 | Si {o:Oper}{d:Nat}{x:Operand}{y:ab}{g2:aJ}(aY:o.op=.assign x) (aS:o.dst=some d) (J:bs g x=some y) (hk:hz g g2) (av:di g2 y) (aP:g2 d=none) (bd:N.ok d=true):bl P N g o (cT g2 d y)
 | store {o:Oper}{t:TypeId}{ad val:Operand}{p:Place}{k z n:Nat}{y bu y' nd:ab}{cs cs':List ab}{g1 g2:aJ}(aY:o.op=.store t ad val) (aS:o.dst=none) (fP:bs g ad=some (.ptr p k)) (oM:bs g val=some y) (aw:Take g [y] [bu] g1) (q8:hZ bu y')
   (aa:oC y'=some cs') (aA:hx P t cs'.length=true) (ar:bz g1 p=some nd) (fr:nd=.own z n cs\/nd=.obj cs) (hk:k+cs'.length<=cs.length) (aT:0<cs'.length)
   (zs:∀ t x,g2 t=some x->ct g1 p (nd.e8 k cs') t=some x) (n4:∀ t x,g2 t=some x->∀ y,g1 t=some y->ji (λr=>gB g1 r/\Clear p k cs'.length r/\gB g2 r) y) (lf:∀ t z q n m new,g2 t≠some (.bM z q n m new)) (kd:g2 p.root≠none):bl P N g o g2
 | call {o:Oper}{d:Nat}{g5:aJ}(aS:o.dst=some d) (bd:N.ok d=true) (h:hF P N g o d g5):bl P N g o g5
 | K0 {o:Oper}{g2:aJ}(h:iw P N g o g2):bl P N g o g2
section
variable {P:Program}{w:World}{I:bc}{T:Array Value}{g:aJ}{Fs:Nat->bc}
theorem Hand.one {y:ab}{v:Value}(a1:R w I (dR w T g) y v cv):Hand w I (fC w T) Fs [y] [v] (λ_=>cv) :=
 ⟨rfl,λk x u J hu=>by
  cases k with
  | zero=>simp at J hu; subst J hu; exact a1.frame (λ_ _=>rfl) (λ_ h=>h) (λ_ _ h=>h.1) λ_ _=>rfl
  | succ k=>simp at J,λ_ _ _ _ _ h=>h.elim,λ_ _ _ _ h=>h.elim,λ_ _ _ h=>h.elim⟩
theorem Hand.KI {ρ:ab->Value->Prop}{y:ab}{v:Value}{dC:Nat->bc}(h:Hand w I ρ Fs [y] [v] dC):R w I ρ y v (dC 0):=h.rel 0 y v rfl rfl
theorem Hand.cells {y:ab}{v:Value}{dC:Nat->bc}(h:Hand w I (fC w T) Fs [y] [v] dC) (aE:cS y) {cs:List ab}(aa:oC y=some cs) :
  ∃ yK,Hand w I (fC w T) Fs cs v.cells.toList yK/\(∀ x∈cs,cS x)/\(∀ (j:Nat) (u:Value),v.cells.toList[j]?=some u->u.oneCell'=true)/\∀ j c,j<cs.length->yK j c->dC 0 c:=by
 have a1:=h.KI;have single:∀ {x:ab},y=x->v.oneCell'=true->∃ yK,Hand w I (fC w T) Fs [x] v.cells.toList yK/\(∀ z∈[x],cS z)/\(∀ (j:Nat) (u:Value),v.cells.toList[j]?=some u->u.oneCell'=true)/\∀ j c,j<[x].length->yK j c->dC 0 c:=by
  rintro x rfl h1;have EG:v.cells=#[v]:=by cases v <;> first | rfl | (simp [Value.oneCell'] at h1)
  grind
 cases y <;> simp only [oC,Option.some.injEq,reduceCtorEq] at aa
 case agg l =>
  subst aa;cases a1 with
  | ref J=>simp [ab.isRef] at J
  | @agg _ vs bL _ ai h1 aj aS aO =>
   have fT:∀ k c,k<l.length->bL k c->dC 0 c:=λk c hk aa=>(aO c).2 ⟨k,hk,aa⟩;refine ⟨bL,⟨by simp [Value.cells,ai],λk x u J hu=>aj k x u J (by simpa [Value.cells] using hu),aS,λk t c hk aa=>h.off 0 t c (by simp) (fT k c hk aa),λk c hk aa=>h.bn 0 c (by simp) (fT k c hk aa)⟩,?_,λj u hu=>h1 j u (by simpa [Value.cells] using hu),fT⟩;cases aE with | agg h=>exact h
 case lit a=>subst aa; exact single rfl (by obtain ⟨rfl,h1⟩:=a1.ht; exact h1)
 case aN=>subst aa; exact single rfl (by rw [a1.sg]; rfl)
 case bn z n l=>subst aa; exact single rfl (by obtain ⟨a,cap,rfl,_⟩:=a1.zH; rfl)
 case own z n l=>subst aa; exact single rfl (by obtain ⟨a,cap,rfl,_⟩:=a1.ng; rfl)
 case cG l=>subst aa; exact single rfl (by obtain ⟨ad,us,rfl,_⟩:=a1.xB; rfl)
 case obj l =>
  subst aa;refine single rfl ?_;cases a1 with
  | ref J=>simp [ab.isRef] at J
  | obj=>rfl
 case cU f a b =>
  subst aa;refine single rfl ?_;cases a1 with
  | ref J=>simp [ab.isRef] at J
  | cU=>rfl
theorem jw.oe {I':bc}{ρ:ab->Value->Prop}{x:ab}{v:Value}{F:bc}(h:jw w I ρ x v F) (bb:∀ c,I c->I' c):jw w I' ρ x v F:=by
 cases h with
 | tree h=>exact .tree (h.oe bb)
 | bM h=>exact .bM ⟨h.jN,h.lg,h.nB,h.ai,h.h1,λk x u J hu=>(h.aj k x u J hu).oe bb,h.aO⟩
theorem Nj {g1:aJ}{fY:Nat->bc}{H1:Nat->bc}{bu y':ab}{v:Value}(bk:jx w I T g1 fY) (hH:Hand w I (fC w T) fY [bu] [v] H1) (aE:cS bu) (aX:hZ bu y') :
  ∃ (I':bc) (tm:bc),(∀ c,I c->I' c)/\(∀ c,I' c->I c\/H1 0 c)/\jx w I' T g1 fY/\Hand w I' (fC w T) fY [y'] [v] (λ_=>tm)/\∀ c,tm c->H1 0 c:=by
 have a1:=hH.KI;obtain ⟨tm,gE,jE⟩:=R.dL aX a1 aE (λc aa=>hH.bn 0 c (by simp) aa) bk.lt;refine ⟨λc=>I c\/(H1 0 c/\¬ tm c),tm,λc aa=>.inl aa,λc aa=>aa.elim .inl λh=>.inr h.1,⟨λt x J=>?_,bk.kW,bk.eK,λt c aa hi=>?_,λc aa=>?_⟩,⟨rfl,λk x u J hu=>?_,λj k c ag hk _ _=>by simp at ag hk; omega,λk t c hk aa aW=>hH.off 0 t c (by simp) (gE c aa) aW,λk c hk aa hi=>?_⟩,gE⟩
 ·obtain ⟨u,hu,mR⟩:=bk.rel t x J;exact ⟨u,hu,mR.oe λc aa=>.inl aa⟩
 ·rcases hi with h | ⟨h,_⟩
  ·exact bk.bn t c aa h
  ·exact hH.off 0 t c (by simp) h aa
 ·rcases aa with h | ⟨h,_⟩
  ·exact bk.lt c h
  ·exact a1.lt c h
 ·grind
 ·rcases hi with h | ⟨_,h⟩
  ·exact hH.bn 0 c (by simp) (gE c aa) h
  grind
theorem bl.j7 {N:c6}{o:Oper}{g':aJ}(he:bl P N g o g'):iw P N g o g':=by
 intro w I T Fs h a aR bd K Q dj;cases he with
 | K0 he=>exact he w I T Fs h a aR bd K Q dj
 | @call d _ aS jG aa =>
  refine aa w I T Fs h a aR bd K Q λb' w' v I' b5 h1 af aI bD=>dj b' w' ⟨h1,by rw [af,<- aR]; exact hy.put jG _ _,I',b5,by rw [af]; exact aI,bD⟩ λt aw=>?_
  grind
 | @assign d x y bu y' g1 g2 aY aS J aw aX hk aP jG =>
  have a1:=kf h J aR;obtain ⟨fY,H1,sH,vh,hJ⟩:=aw.sound h.mC (Hand.one a1);have BY:cS bu:=aw.FD bu (by simp);obtain ⟨I',tm,pj,Ie,iZ,iK,gE⟩:=Nj sH vh BY aX;have mW:cS y':=aX.bo BY;have h4:=iZ.keep hk;have nC:=h4.uK (d:=d) (x:=y') (v:=a.eval x) (F:=tm) aP (by rw [<- aR,bd]; exact c6.lt jG) (.tree (iK.KI.bo mW)) (λt c aa aW=>iK.off 0 t c (by simp) aa aW.2) (λc aa=>iK.bn 0 c (by simp) aa) (by rintro z p n m new rfl; cases mW);have hK:(execOp a.eval o).run P w=.ok (.value (a.eval x)) w:=by simp [execOp,aY]
  unfold Oper.wp Oper.upon;simp only [hK];have f_:∀ c,H1 0 c->∃ t,Fs t c:=λc aa=>by
   rcases hJ c (.inr ⟨0,by simp,aa⟩) with ig | ⟨_,_,ig⟩
   all_goals grind
  refine dj _ _ ⟨by rw [aS]; rfl,by rw [aS]; exact hy.put jG _ _,I',_,by rw [aS]; simpa [Act.put,aR] using nC,⟨Fr.refl _ _,pj,λc aa=>(Ie c aa).elim .inl λh=>.inr (.inl (f_ c h)),λc aa=>?_⟩⟩ λt aw=>by rw [aS]; simp only [Act.put]; rw [Array.getElem?_setIfInBounds_ne]; rintro rfl; exact aw aS
  rcases wq aa with ⟨t,_,aL⟩ | aL
  ·rcases hJ c (.inl ⟨t,aL⟩) with ig | ⟨_,_,ig⟩
   ·grind
   grind
  grind
 | @Si d x y g2 aY aS J hk av aP jG =>
  have a1:=kf h J aR;have h4:=h.mC.keep hk;have jE:R w I (dR w T g2) y (a.eval x) cv:=(a1.frame (ρ':=fC w T) (λ_ _=>rfl) (λ_ h=>h) (λ_ _ h=>h.1) λ_ _=>rfl).bW av;have nC:=h4.uK (d:=d) (x:=y) (v:=a.eval x) (F:=cv) aP (by rw [<- aR,bd]; exact c6.lt jG) (.tree jE) (λ_ _ h=>h.elim) (λ_ h=>h.elim) (by rintro z p n m new rfl; exact jE.lk.elim);have hK:(execOp a.eval o).run P w=.ok (.value (a.eval x)) w:=by simp [execOp,aY]
  unfold Oper.wp Oper.upon;simp only [hK];refine dj _ _ ⟨by rw [aS]; rfl,by rw [aS]; exact hy.put jG _ _,I,_,by rw [aS]; simpa [Act.put,aR] using nC,⟨Fr.refl _ _,λ_ h=>h,λ_ h=>.inl h,λc aa=>?_⟩⟩ λt aw=>by rw [aS]; simp only [Act.put]; rw [Array.getElem?_setIfInBounds_ne]; rintro rfl; exact aw aS
  rcases wq aa with ⟨t,_,aL⟩ | aL
  ·grind
  grind
 | @store t ad val p k z n y bu y' nd cs cs' g1 _ aY aS fP oM aw q8 aa aA ar fr hk aT zs n4 lf kd =>
  have mS:=kf h oM aR;obtain ⟨⟨u,aai,hu,Ir,uc⟩,_⟩:=(kf h fP aR).nI;obtain ⟨fY,H0,sH,vh,Is⟩:=aw.sound h.mC (Hand.one mS);have BY:cS bu:=aw.FD bu (by simp);obtain ⟨I',tm,pj,Ie,iZ,iK,WG⟩:=Nj sH vh BY q8;have mW:cS y':=q8.bo BY;have f_:∀ c,H0 0 c->∃ t,Fs t c:=λc aa=>by
   rcases Is c (.inr ⟨0,by simp,aa⟩) with ig | ⟨_,_,ig⟩
   all_goals grind
  have hJ:∀ c,lx fY 1 (λ_=>tm) c->lx Fs [y].length (λ_=>cv) c:=by
   rintro c (⟨t,aa⟩ | ⟨_,_,aa⟩)
   ·exact Is c (.inl ⟨t,aa⟩)
   ·exact .inl (f_ c (WG c aa))
  obtain ⟨yK,NB,IH,hj,acC⟩:=iK.cells mW aa;have lk:∀ z q n m new,nd≠.bM z q n m new:=by rcases fr with rfl | rfl <;> simp
  obtain ⟨v,cw,hv,dF,dy,_⟩:=iZ.part ar lk;rw [hu] at hv;cases hv;obtain ⟨b,gU,au,_⟩:=dF.node fr (List.getElem?_eq_getElem (show k<cs.length by omega));rw [Ir] at au;cases au;have j9:∃ e arr,w.heap[b]?=some (.cells arr e (0,0))/\cs.length<=arr.size:=by
   rcases fr with rfl | rfl
   ·cases dF with
    | ref J=>simp [ab.isRef] at J
    | own qi ai =>
     obtain ⟨l4,bY⟩:=qi
     grind [addrOf]
   ·cases dF with
    | ref J=>simp [ab.isRef] at J
    | obj qi ai =>
     grind [addrOf]
  obtain ⟨e,arr,j9,hle⟩:=j9;obtain ⟨iV,h4,gE⟩:=iZ.store ar fr hk NB IH hj zs n4 lf kd hu Ir j9;have gR:(a.eval val).cells.toList.length=cs'.length:=NB.len.symm;have b0:=run_storeCells_at P b k e (a.eval val).cells.toList 0 arr w j9 (by omega) (λu hu=>by
   obtain ⟨j,ag,rfl⟩:=List.mem_iff_getElem.1 hu;exact hj j _ (List.getElem?_eq_getElem ag))
  simp only [Nat.add_zero] at b0;have fV:(sizeOf t).run P w=.ok cs'.length w:=by
   unfold hx at aA;cases hi:P.info? t with
   | none=>simp [hi] at aA
   | some i=>simp [hi] at aA; simp [sizeOf,typeInfo,hi,aA]
  have hK:(execOp a.eval o).run P w=.ok .skip (w.setRow b (e8 arr.toList k (a.eval val).cells.toList).toArray):=by
   simp_all [execOp,Instr.storeAt,Instr.sureAddr,storeVar,e8]
  unfold Oper.wp Oper.upon;simp only [hK];have tZ:∃ t,Fs t b:=by
   rcases hJ b (.inl ⟨_,dy b (dF.FB fr (ad:=⟨b,0,none⟩) Ir)⟩) with aL | ⟨_,_,aL⟩
   all_goals grind
  refine dj _ _ ⟨by rw [aS]; rfl,by rw [aS]; exact hy.refl,I',iV,by rw [aS]; simpa [Act.put,aR] using h4,⟨⟨rfl,rfl,rfl,by simp,λc _ aa=>setRow_other w b c _ (λe=>aa (e ▸ tZ)),λa _=>HV w b _ a,Nat.le_refl _⟩,pj,λc aa=>(Ie c aa).elim .inl λh=>.inr (.inl (f_ c h)),λc ⟨t,aa⟩=>?_⟩⟩ λt _=>by rw [aS]; rfl
  rcases gE t c aa with aL | ⟨j,ag,aL⟩
  ·rcases hJ c (.inl ⟨t,aL⟩) with ig | ⟨_,_,ig⟩
   ·grind
   grind
  grind
theorem bl.sound (h:cD w I T g Fs) {a:Act}(aR:a.tmps=T) {N:c6}(bd:a.tmps.size=N.size) {o:Oper}{g':aJ}(he:bl P N g o g') {K:Act->World->Prop}{Q:Exit->Act->World->Prop}
  (dj:∀ b' w',h2 N a w I Fs g' b' w'->K b' w'):o.wp P a w K Q:=he.j7 w I T Fs h a aR bd K Q λb' w' h _=>dj b' w' h
end
end Go.Own
namespace Go.Own
open Go
def ou (g g':aJ):Prop:=∀ t x,g t=some x->g' t=some x
section
variable {P:Program}{g g':aJ}
theorem e7 (h:ou g g') {x:Operand}{y:ab}(av:bs g x=some y):bs g' x=some y:=by
 cases x <;> simp only [bs] at av ⊢
 case tmp t =>
  cases J:g t with
  | none=>rw [J] at av; cases av
  | some z=>rw [J] at av; rw [h t z J]; exact av
 case const v=>exact av
 case global n=>exact av
 case func f=>exact av
theorem zS (h:ou g g'):∀ {xs:List Operand}{ys:List ab},gk g xs=some ys->gk g' xs=some ys
 | [],_,av=>av
 | x::xs,ys,av=>by
  simp only [gk] at av ⊢;cases J:bs g x with
  | none=>simp [J] at av
  | some y =>
   cases sf:gk g xs with
   | none=>simp [J,sf] at av
   | some DM=>simp only [J,sf] at av; simp only [e7 h J,zS h sf]; exact av
theorem PG (h:ou g g'):∀ {l:List (Nat × Operand)}{ps:List (Nat × List ab)},rj g l=some ps->rj g' l=some ps
 | [],_,av=>av
 | (i,x)::l,ps,av=>by
  simp only [rj] at av ⊢;cases J:bs g x with
  | none=>simp [J] at av
  | some y =>
   cases sf:rj g l with
   | none=>simp [J,sf] at av
   | some DM=>simp only [J,sf] at av; simp only [e7 h J,PG h sf]; exact av
theorem pX.mono (h:ou g g') {d:Nat}{x:Option Operand}{j:Nat}(au:pX g d x j):pX g' d x j:=by
 cases x with
 | none=>exact au
 | some o=>obtain ⟨k,hk⟩:=au; exact ⟨k,e7 h hk⟩
theorem c8.mono (h:ou g g') {op:Op}{ty:TypeId}{x:ab}(ar:c8 P g op ty x):c8 P g' op ty x:=by
 cases ar with
 | move J=>exact .move (e7 h J)
 | assign J=>exact .assign (e7 h J)
 | pick aa aj=>exact .pick (e7 h aa) (e7 h aj)
 | FA J=>exact .FA (e7 h J)
 | qv J=>exact .qv (e7 h J)
 | Br J aW cQ=>exact .Br (e7 h J) aW (cQ.mono h)
 | Et J aW=>exact .Et (e7 h J) aW
 | Es J aW aw av=>exact .Es (e7 h J) aW aw av
 | HQ J aW aw hk=>exact .HQ (e7 h J) aW aw hk
 | E9 J hi aw ag=>exact .E9 (e7 h J) (e7 h hi) aw ag
 | E8 J hi aw ag cQ=>exact .E8 (e7 h J) (e7 h hi) aw ag (cQ.mono h)
 | JM J hi aw ag cQ=>exact .JM (e7 h J) (e7 h hi) aw ag (cQ.mono h)
 | E7 J hi aw ag cQ=>exact .E7 (e7 h J) (e7 h hi) aw ag (cQ.mono h)
 | JL J hi aw ag=>exact .JL (e7 h J) (e7 h hi) aw ag
 | Fp J aw=>exact .Fp (e7 h J) aw
 | Fq J aw hk=>exact .Fq (e7 h J) aw hk
 | CB J aw av=>exact .CB (e7 h J) aw (kK h av)
 | xP J aw av aa hm=>exact .xP (e7 h J) aw (kK h av) aa hm
 | E_ J hi aw au=>exact .E_ (e7 h J) (e7 h hi) aw au
 | bin J av hv aj=>exact .bin (e7 h J) (e7 h av) hv aj
 | Ba J av hv aj=>exact .Ba (e7 h J) (e7 h av) hv aj
 | un J hv aj=>exact .un (e7 h J) hv aj
 | conv J hv aj=>exact .conv (e7 h J) hv aj
 | Eg J ar aE hC aw=>exact .Eg (e7 h J) (kK h ar) aE hC aw
 | Eh J aw=>exact .Eh (e7 h J) aw
 | @HN xs gl _ f vs v J hv aj =>
  refine .HN (vs:=vs) ?_ hv aj;apply List.ext_getElem?;intro k;have:=congrArg (·[k]?) J;simp only [List.getElem?_map] at this ⊢;rw [<- this];cases hk:xs.toList[k]? with
  | none=>rfl
  | some o =>
   rw [hk] at this;cases hv:vs[k]? with
   | none=>rw [hv] at this; cases this
   | some v =>
    rw [hv] at this;simp only [Option.map_some,Option.some.injEq] at this ⊢;rw [this,e7 h this]
 | Eo J av=>exact .Eo (e7 h J) av
 | AF J ai bY aw h1 af=>exact .AF (e7 h J) (ai.mono h) (bY.mono h) aw h1 af
 | K3 J ai bY aw aE cQ=>exact .K3 (e7 h J) (ai.mono h) (bY.mono h) aw aE (cQ.mono h)
 | Gg J ai bY aw h1 af cQ=>exact .Gg (e7 h J) (ai.mono h) (bY.mono h) aw h1 af (cQ.mono h)
 | AG J ai bY aw h1 af=>exact .AG (e7 h J) (ai.mono h) (bY.mono h) aw h1 af
 | Cy J aw=>exact .Cy (e7 h J) aw
 | Cx J aw=>exact .Cx (e7 h J) aw
 | J8 J aw=>exact .J8 (e7 h J) aw
 | J7 J aw=>exact .J7 (e7 h J) aw
 | Fo J ar av dj a1 aj=>exact .Fo (e7 h J) (kK h ar) (e7 h av) dj a1 aj
 | CA J av dj a1 aj=>exact .CA (e7 h J) (e7 h av) dj a1 aj
 | @lits b xs gl _ vs v J hv aj =>
  refine .lits (vs:=vs) ?_ hv aj;clear aj;generalize xs.toList=l at J
  induction l generalizing vs with
  | nil=>exact J
  | cons x l aU =>
   cases vs with
   | nil=>simp at J
   | cons v vs =>
    simp only [List.map_cons,List.cons.injEq] at J ⊢;exact ⟨e7 h J.1,aU J.2⟩
theorem p3.mono (h:ou g g') {op:Op}{ty:TypeId}{x:ab}(ar:p3 P g op ty x):p3 P g' op ty x:=by
 cases ar with
 | box J aa=>exact .box (e7 h J) aa
 | alloc aX h1=>exact .alloc aX h1
 | makeMap bg=>exact .makeMap bg
 | buildSlice aw ar J aX aa au aE hzero=>exact .buildSlice aw ar (zS h J) aX aa au aE hzero
 | makeSlice aw J av hzero h1 pB au aE n3 vJ E6=>exact .makeSlice aw (e7 h J) (e7 h av) hzero h1 pB au aE n3 vJ E6
theorem u3.mono (h:ou g g') {op:Op}{ty:TypeId}{x:ab}(ar:u3 P g op ty x):u3 P g' op ty x:=by
 cases ar with
 | build aw aX h1 ar aa=>exact .build aw aX h1 (PG h ar) aa
 | makeFunc aR au=>exact .makeFunc (zS h aR) (zS h au)
theorem Src.mono (h:ou g g') {y:ab}{z m:Nat}{cells:List ab}(aA:Src g y z m cells):Src g' y z m cells:=by
 cases aA with
 | bn=>exact .bn
 | aN=>exact .aN
 | a6 bg hm=>exact .a6 (kK h bg) hm
 | sub bg hm=>exact .sub (kK h bg) hm
theorem ck.mono (h:ou g g') {op:Op}{ty:TypeId}{x:ab}(ar:ck P g op ty x) (e':∀ z p n m new,x=.bM z p n m new->∀ t bA cB m' c0,g' t≠some (.bM bA p cB m' c0)):ck P g' op ty x:=by
 cases ar with
 | eU ar=>exact .eU (ar.mono h)
 | ri ar=>exact .ri (ar.mono h)
 | CP ar=>exact .CP (ar.mono h)
 | lP ar =>
  cases ar with
  | grow aA cQ _ J r_ aw q4 au=>exact .lP (.grow (e7 h aA) (cQ.mono h) (e' _ _ _ _ _ rfl) (e7 h J) (r_.mono h) aw q4 au)
  | nil aA J r_ aw q4 au=>exact .lP (.nil (e7 h aA) (e7 h J) (r_.mono h) aw q4 au)
theorem View.mono (h:ou g g') {x y:ab}(hv:View g x y):View g' x y:=by
 induction hv with
 | qv=>exact .qv
 | self h1 af aI bD cF dS=>exact .self h1 af aI bD cF dS
 | mp=>exact .mp
 | gw ar=>exact .gw (kK h ar)
 | agg ai _ aU=>exact .agg ai aU
 | own ai _ aU=>exact .own ai aU
 | obj ai _ aU=>exact .obj ai aU
 | cU ai _ aU=>exact .cU ai aU
 | a6 ar aE ai _ aU=>exact .a6 (kK h ar) aE ai aU
 | sub ar aE ai _ aU=>exact .sub (kK h ar) aE ai aU
 | ptr ar av hk ai _ aU=>exact .ptr (kK h ar) av hk ai aU
 | rows ar ai _ aU=>exact .rows (ar.mono (λar=>kK h ar) h) ai aU
theorem cI.mono (h:ou g g') {op:Op}{x:ab}(ar:cI P g op x):cI P g' op x:=by
 cases ar with
 | plain aa J aW aE gM aj=>exact .plain (e7 h aa) (zS h J) aW aE gM aj
 | Fl aa J aW ai hv gM aj=>exact .Fl (e7 h aa) (zS h J) aW ai (λk x y J av=>(hv k x y J av).mono h) gM aj
def iz (g:aJ) (ops:Array Oper) (o:Oper) (b:Bool):Prop :=
 match o.guard with
 | none=>b=true
 | some (j,want)=>∃ t,(ops[j]?).bind (·.dst)=some t/\((∃ c,g t=some (.lit (.bool c))/\b=(c == want))\/(g t=some (.bX [])/\b=false))
theorem iz.mono (h:ou g g') {ops:Array Oper}{o:Oper}{b:Bool}(hw:iz g ops o b):iz g' ops o b:=by
 unfold iz at *;split
 ·rename_i aP; rw [aP] at hw; exact hw
 ·rename_i j want aP;rw [aP] at hw;obtain ⟨t,h1,⟨c,af,aI⟩ | ⟨af,aI⟩⟩:=hw
  ·exact ⟨t,h1,.inl ⟨c,h t _ af,aI⟩⟩
  ·exact ⟨t,h1,.inr ⟨h t _ af,aI⟩⟩
theorem iz.sound {w:World}{I:bc}{T:Array Value}{Fs:Nat->bc}(bk:cD w I T g Fs) {ops:Array Oper}{o:Oper}{b:Bool}(hw:iz g ops o b):Region.wanted o (yielded ops T)=b:=by
 unfold iz at hw;unfold Region.wanted
 split at hw
 ·rename_i aP; rw [aP]; exact hw.symm
 ·rename_i j want aP;rw [aP];obtain ⟨t,h1,⟨c,af,aI⟩ | ⟨af,aI⟩⟩:=hw
  ·obtain ⟨v,hv,a1⟩:=bk.rel _ _ af;have:=(a1.gF (by simp)).ht.1;subst this;subst aI;simp only [yielded,h1,Option.bind_some,hv];cases c <;> cases want <;> rfl
  ·obtain ⟨v,hv,a1⟩:=bk.rel _ _ af;have:∃ vs,v=.tuple vs:=by
    cases a1.gF (by simp) with
    | bX=>exact ⟨_,rfl⟩
    | ref J=>simp [ab.isRef] at J
   obtain ⟨vs,rfl⟩:=this;subst aI;simp only [yielded,h1,Option.bind_some,hv];cases want <;> rfl
def p6 (P:Program) (g:aJ) (ops:Array Oper) (o:Oper):Option ab->Prop
 | none=>iz g ops o false
 | some x=>(iz g ops o true/\(ck P g o.op o.type x\/cI P g o.op x))\/(iz g ops o false/\x=.bX [])\/(iz g ops o true/\∃ y,(ck P g o.op o.type y\/cI P g o.op y)/\cS y/\View (λ_=>none) y x)
theorem p6.mono (h:ou g g') {ops:Array Oper}{o:Oper}{r:Option ab}(aA:p6 P g ops o r) (e':∀ z p n m new,r=some (.bM z p n m new)->∀ t bA cB m' c0,g' t≠some (.bM bA p cB m' c0)):p6 P g' ops o r:=by
 cases r with
 | none=>exact iz.mono h aA
 | some x =>
  rcases aA with aA | ⟨aA,J⟩ | ⟨aA,y,ar,aE,hv⟩
  ·refine .inl ⟨aA.1.mono h,?_⟩;rcases aA.2 with ar | ar
   ·exact .inl (ar.mono h λz p n m new e=>e' z p n m new (by rw [e]))
   ·exact .inr (ar.mono h)
  ·exact .inr (.inl ⟨aA.mono h,J⟩)
  ·refine .inr (.inr ⟨aA.mono h,y,?_,aE,hv⟩);rcases ar with ar | ar
   ·exact .inl (ar.mono h λz p n m new e=>by subst e; cases aE)
   ·exact .inr (ar.mono h)
def leaf:ab->Bool
 | .own .. | .obj .. | .agg .. | .bX .. | .bM .. | .mp ..=>false
 | _=>true
def del (g:aJ) (d:Nat):aJ:=λt=>if t=d then none else g t
theorem XI {x y:ab}(h:leaf x=true):∀ {q:List Nat},x.at q=some y->y=x
 | [],av=>by simpa [ab.at] using av.symm
 | k::q,av=>by
  have:x.kids=[]:=by cases x <;> first | rfl | simp [leaf] at h
  simp [ab.at,this] at av
theorem y5 {d:Nat}{x:ab}(aS:g d=some x) (ai:leaf x=true) {p:Place}{y:ab}(ar:bz g p=some y) (av:leaf y=false):bz (del g d) p=some y:=by
 have aj:p.root≠d:=by
  intro e;unfold bz at ar;rw [e,aS] at ar;rw [XI ai ar,ai] at av;cases av
 simp only [bz,del,if_neg aj] at ar ⊢;exact ar
theorem gB.del {d:Nat}{x:ab}(aS:g d=some x) (ai:leaf x=true) {r:ab}(h:gB g r):gB (del g d) r:=by
 have root:∀ {t:Nat}{y:ab},g t=some y->leaf y=false->Own.del g d t=some y:=by
  intro t y aw av;have:t≠d:=by
   rintro rfl;rw [aS] at aw;cases aw;rw [ai] at av; cases av
  simp only [Own.del,if_neg this,aw]
 cases r <;> simp only [gB] at h ⊢
 case ptr p k =>
  obtain ⟨y,av,z,n,cs,eI,hk⟩:=h;exact ⟨y,y5 aS ai av (by rcases eI with rfl | rfl <;> rfl),z,n,cs,eI,hk⟩
 case a6 z p n =>
  rcases h with ⟨N,cs,av,aE⟩ | ⟨h1,q,gG,m,new,af,aI⟩
  ·exact .inl ⟨N,cs,y5 aS ai av rfl,aE⟩
  ·exact .inr ⟨h1,q,gG,m,new,root af rfl,aI⟩
 case sub z p lo n =>
  obtain ⟨N,cs,av,aE⟩:=h;exact ⟨N,cs,y5 aS ai av rfl,aE⟩
 case gw p=>obtain ⟨q,h⟩:=h; exact ⟨q,y5 aS ai h rfl⟩
 case bM z p n m new =>
  rcases h with ⟨cs,av⟩ | ⟨h1,q,gG,m,new,cs,af,aI,bD⟩
  ·exact .inl ⟨cs,y5 aS ai av rfl⟩
  ·exact .inr ⟨h1,q,gG,m,new,cs,root af rfl,aI,y5 aS ai bD rfl⟩
theorem R.XH {w:World}{I:bc}{ρ:ab->Value->Prop}{x:ab}{v:Value}{F:bc}(h:R w I ρ x v F) (ai:leaf x=true):∀ c,¬ F c:=by
 cases h with
 | own | obj | agg | bX | mp=>simp [leaf] at ai
 | lit _ aO | aN aO | dead aO | ref _ _ aO | hD aO | bn aO | cG aO | cU aO | imp aO=>exact aO
theorem cD.drop {w:World}{I:bc}{T:Array Value}{Fs:Nat->bc}(h:cD w I T g Fs) {d:Nat}{x:ab}(aS:g d=some x) (ai:leaf x=true):cD w I T (del g d) Fs:=by
 refine ⟨λt y av=>?_,λt aw c aa=>?_,h.eK,h.bn,h.lt,λt t' z p n m new bA cB m' c0 h1 af=>?_⟩
 ·have oO:g t=some y:=by
   unfold del at av
   split at av
   ·cases av
   ·exact av
  obtain ⟨v,hv,a1⟩:=h.rel t y oO;exact ⟨v,hv,a1.frame (λ_ _=>rfl) (λ_ h=>h) (λ_ _ aj=>⟨aj.1,aj.2.del aS ai⟩) (λ_ _ _ _ _ _ _=>rfl) λ_ _=>rfl⟩
 ·unfold del at aw
  split at aw
  ·rename_i e;subst e;obtain ⟨v,hv,a1⟩:=h.rel t x aS;exact (a1.gF (by rintro z p n m new rfl; simp [leaf] at ai)).XH ai c aa
  ·exact h.kW t aw c aa
 ·have key:∀ {t:Nat}{y:ab},del g d t=some y->g t=some y:=by
   intro t y av;unfold del at av
   split at av
   ·cases av
   ·exact av
  exact h.rm _ _ _ _ _ _ _ _ _ _ _ (key h1) (key af)
end
end Go.Own
namespace Go.Own
open Go
def ya (g:aJ) (d:Nat):Option ab->aJ
 | some x=>cT g d x
 | none=>g
section
variable {P:Program}{w:World}{I:bc}{T:Array Value}{g:aJ}{Fs:Nat->bc}{N:c6}{ops:Array Oper}
theorem ko.refl (w:World) (I U:bc):ko w I U w I U:=⟨Fr.refl _ _,λ_ h=>h,λ_ h=>.inl h,λ_ h=>.inl h⟩
theorem ko.trans {w h9 hn:World}{I AZ DW U yX LQ:bc}(h:ko w I U h9 AZ yX) (h1:ko h9 AZ yX hn DW LQ):ko w I U hn DW LQ:=by
 have nf:∀ c,c<w.heap.size->yX c->U c:=λc aa hu=>by
  rcases h.own c hu with aL | aL
  ·exact aL
  ·omega
 refine ⟨h.eR.trans h1.eR nf,λc aa=>h1.more c (h.more c aa),λc aa=>?_,λc aa=>?_⟩
 ·rcases h1.new c aa with aL | aL | aL
  ·exact h.new c aL
  ·rcases h.own c aL with ig | ig
   ·exact .inr (.inl ig)
   ·exact .inr (.inr ig)
  ·exact .inr (.inr (Nat.le_trans h.eR.size aL))
 ·rcases h1.own c aa with aL | aL
  ·exact h.own c aL
  ·exact .inr (Nat.le_trans h.eR.size aL)
theorem h2.trans {N:c6}{a aF a2:Act}{h9 hn:World}{AZ:bc}{fY:Nat->bc}{g2:aJ}(h1:aF.defers=a.defers) (af:hy N a.tmps aF.tmps) (b0:ko w I (λc=>∃ t,Fs t c) h9 AZ (λc=>∃ t,fY t c)) (h:h2 N aF h9 AZ fY g2 a2 hn):h2 N a w I Fs g2 a2 hn:=by
 obtain ⟨cu,cd,DW,iV,bk,qj⟩:=h;exact ⟨cu.trans h1,af.trans cd,DW,iV,bk,b0.trans qj⟩
theorem cD.Yy (h:cD w I T g Fs) {d:Nat}(aS:g d=none) (v:Value):cD w I (T.setIfInBounds d v) g Fs:=by
 have dK:∀ t,g t≠none->(T.setIfInBounds d v)[t]?=T[t]?:=by
  intro t aw;rw [Array.getElem?_setIfInBounds_ne];rintro rfl; exact aw aS
 refine ⟨λt x J=>?_,h.kW,h.eK,h.bn,h.lt,h.rm⟩;obtain ⟨u,hu,a1⟩:=h.rel t x J;exact ⟨u,by rw [dK t (by rw [J]; simp)]; exact hu,h.w5 dK (λ_ _ _=>rfl) (λ_ _=>rfl) (λ_ h=>h) (λ_ _ h=>h) a1 λ_ _=>rfl⟩
structure GW (dL:Nat->Bool) (g g2:aJ):Prop where
 nf:∀ t x,g2 t=some x->dL t=false->g t=some x/\di g2 x
 pC:∀ t x,g2 t=some x->dL t=true->∃ y,g t=some y/\cS y/\hZ y x
 fA:∀ t z q n m new,g2 t≠some (.bM z q n m new)
theorem cD.vd (h:cD w I T g Fs) {dL:Nat->Bool}{g2:aJ}(aX:GW dL g g2):∃ I' b5,cD w I' T g2 b5/\ko w I (λc=>∃ t,Fs t c) w I' (λc=>∃ t,b5 t c):=by
 have rY:=h.mC;have CJ:∀ t x,g2 t=some x->∀ z p n m new,x≠.bM z p n m new:=by
  rintro t x J z p n m new rfl;exact aX.fA _ _ _ _ _ _ J
 -- of each slot what it owns from now on
 have:∀ t,∃ c_:bc,(∀ c,c_ c->Fs t c/\g2 t≠none)/\∀ x,g2 t=some x->(dL t=false->∀ c,Fs t c->c_ c)/\∃ v,T[t]?=some v/\R w (λc=>I c\/(Fs t c/\¬ c_ c)) (dR w T g2) x v c_:=by
  intro t;cases J:g2 t with
  | none=>exact ⟨cv,λ_ h=>h.elim,λx h=>by cases h⟩
  | some x =>
   cases aw:dL t with
   | false =>
    obtain ⟨h1,af⟩:=aX.nf t x J aw;obtain ⟨v,hv,a1⟩:=rY.rel t x h1;refine ⟨Fs t,λc aa=>⟨aa,by simp⟩,λy av=>?_⟩;cases av;exact ⟨λ_ _ h=>h,v,hv,((a1.gF (CJ t x J)).bW af).oe λc aa=>.inl aa⟩
   | true =>
    obtain ⟨y,h1,af,aI⟩:=aX.pC t x J aw;obtain ⟨v,hv,a1⟩:=rY.rel t y h1;have jE:=a1.gF (by rintro z p n m new rfl; cases af);obtain ⟨c_,aA,U3⟩:=R.dL aI jE af (λc aa=>rY.bn t c aa) rY.lt;refine ⟨c_,λc aa=>⟨aA c aa,by simp⟩,λz aX=>?_⟩;cases aX;exact ⟨λh=>absurd h (by simp),v,hv,U3.bo (aI.bo af)⟩
 obtain ⟨b5,jD⟩:=Classical.axiomOfChoice this;refine ⟨λc=>I c\/∃ t,Fs t c/\g2 t≠none/\¬ b5 t c,b5,⟨λt x J=>?_,λt aw c aa=>((jD t).1 c aa).2 aw,λt t' c aa fp=>h.eK t t' c ((jD t).1 c aa).1 ((jD t').1 c fp).1,λt c aa hi=>?_,λc aa=>?_,λt t' z p n m new bA cB m' c0 h1 _=>absurd h1 (aX.fA _ _ _ _ _ _)⟩,Fr.refl _ _,λ_ h=>.inl h,λc aa=>?_,λc ⟨t,aa⟩=>.inl ⟨t,((jD t).1 c aa).1⟩⟩
 ·obtain ⟨_,v,hv,a1⟩:=(jD t).2 x J;exact ⟨v,hv,.tree (a1.oe λc aa=>aa.elim .inl λaa=>.inr ⟨t,aa.1,by rw [J]; simp,aa.2⟩)⟩
 ·rcases hi with aL | ⟨s,h1,_,af⟩
  ·exact h.bn t c ((jD t).1 c aa).1 aL
  ·have:=h.eK t s c ((jD t).1 c aa).1 h1;subst this;exact af aa
 ·rcases aa with aL | ⟨s,aL,_⟩
  ·exact h.lt c aL
  ·exact h.jS s c aL
 ·rcases aa with aL | ⟨s,aL,_⟩
  ·exact .inl aL
  ·exact .inr (.inl ⟨s,aL⟩)
theorem p6.sound (h:cD w I T g Fs) {a:Act}(aR:a.tmps=T) (bd:a.tmps.size=N.size) {o:Oper}{r:Option ab}{d:Nat}(aA:p6 P g ops o r) (aS:o.dst=some d) (aP:g d=none) (jG:N.ok d=true) {K:Act->World->Prop}{Q:Exit->Act->World->Prop}
  (dj:∀ b' w',h2 N a w I Fs (ya g d r) b' w'->K b' w') :
  if Region.wanted o (yielded ops a.tmps) then o.wp P a w K Q\/(o.asks P a w/\LetsOut Q) else K (a.put o.dst undef) w:=by
 subst aR;cases r with
 | none =>
  rw [iz.sound h aA];simp only [Bool.false_eq_true,if_false];refine dj _ _ ⟨by rw [aS]; rfl,by rw [aS]; exact hy.put jG _ _,I,Fs,by rw [aS]; exact h.Yy aP _,ko.refl _ _ _⟩
 | some x =>
  have fin:∀ x v w',u1 w I a.tmps g Fs x v w'->(∀ b' w',h2 N a w I Fs (cT g d x) b' w'->K b' w')->K (a.put o.dst v) w':=by
   rintro x v w' ⟨F,I',bk,a1,h1,af,aI,bD,cF,dS⟩ dj;refine dj _ _ ⟨by rw [aS]; rfl,by rw [aS]; exact hy.put jG _ _,I',_,by rw [aS]; exact bk.uK aP (by rw [bd]; exact c6.lt jG) a1 (λt c aa aW=>h1 t c aa aW) (λc aa=>(af c aa).2) dS,⟨cF,aI,λc aa=>?_,λc aa=>?_⟩⟩
   ·rcases bD c aa with aL | aL
    ·exact .inl aL
    ·exact .inr (.inr aL)
   ·rcases wq aa with aL | aL
    ·exact .inl aL
    ·exact .inr (af c aL).1
  have pC:∀ y v w',cS y->View (λ_=>none) y x->u1 w I a.tmps g Fs y v w'->u1 w I a.tmps g Fs x v w':=by
   rintro y v w' aE hv ⟨F,I',bk,a1,h1,af,aI,bD,cF,dS⟩;have dF:=a1.gF (by rintro z p n m new rfl; cases aE);refine ⟨cv,λc=>I' c\/F c,⟨λt z aX=>?_,bk.kW,bk.eK,λt c aa hi=>?_,λc aa=>?_,bk.rm⟩,.tree (dF.pC aE hv (λc aa=>(af c aa).2) bk.lt),λ_ _ h=>h.elim,λ_ h=>h.elim,λc aa=>.inl (aI c aa),λc aa=>?_,cF,?_⟩
   ·obtain ⟨u,hu,mR⟩:=bk.rel t z aX;exact ⟨u,hu,mR.oe λc aa=>.inl aa⟩
   ·rcases hi with h | h
    ·exact bk.bn t c aa h
    ·exact h1 t c h aa
   ·rcases aa with h | h
    ·exact bk.lt c h
    ·exact dF.lt c h
   ·rcases aa with h | h
    ·exact bD c h
    ·exact .inr (af c h).1
   ·rintro z p n m new rfl;cases hv with
    | self h=>cases h
  rcases aA with aA | ⟨aA,rfl⟩ | ⟨aA,y,ar,aE,hv⟩
  rotate_left
  rotate_left
  ·rw [iz.sound h aA];simp only [if_true];refine .inl ?_;have Nc:∀ v w',u1 w I a.tmps g Fs y v w'->K (a.put o.dst v) w':=λv w' c9=>fin x v w' (pC y v w' aE hv c9) dj;rcases ar with ar | ar
   ·obtain ⟨v,w',hK,c9⟩:=ar.sound h rfl;unfold Oper.wp Oper.upon;simp only [hK];exact Nc v w' c9
   ·exact ar.sound h rfl Nc
  rotate_left
  ·rw [iz.sound h aA];simp only [Bool.false_eq_true,if_false];refine dj _ _ ⟨by rw [aS]; rfl,by rw [aS]; exact hy.put jG _ _,I,_,by rw [aS]; exact h.uK aP (by rw [bd]; exact c6.lt jG) (.tree (.bX (Fs:=λ_=>cv) (F:=cv) rfl (λk x u J _=>by simp at J) (λ_ _ _ _ _ h=>h.elim) (λc=>⟨λh=>h.elim,λ⟨_,_,h⟩=>h⟩))) (λ_ _ h=>h.elim) (λ_ h=>h.elim) (λ_ _ _ _ _ e=>by cases e),⟨Fr.refl _ _,λ_ h=>h,λ_ h=>.inl h,λc aa=>?_⟩⟩;rcases wq aa with aL | aL
   ·exact .inl aL
   ·exact aL.elim
  rw [iz.sound h aA.1];simp only [if_true];refine .inl ?_;have fin:∀ v w',u1 w I a.tmps g Fs x v w'->K (a.put o.dst v) w':=by
   rintro v w' ⟨F,I',bk,a1,h1,af,aI,bD,cF,dS⟩;refine dj _ _ ⟨by rw [aS]; rfl,by rw [aS]; exact hy.put jG _ _,I',_,by rw [aS]; exact bk.uK aP (by rw [bd]; exact c6.lt jG) a1 (λt c aa aW=>h1 t c aa aW) (λc aa=>(af c aa).2) dS,⟨cF,aI,λc aa=>?_,λc aa=>?_⟩⟩
   ·rcases bD c aa with aL | aL
    ·exact .inl aL
    ·exact .inr (.inr aL)
   ·rcases wq aa with aL | aL
    ·exact .inl aL
    ·exact .inr (af c aL).1
  rcases aA.2 with ar | ar
  ·obtain ⟨v,w',hK,c9⟩:=ar.sound h rfl;unfold Oper.wp Oper.upon;simp only [hK];exact fin v w' c9
  ·exact ar.sound h rfl fin
inductive ow (P:Program) (N:c6) (ops:Array Oper):List Nat->aJ->aJ->Prop
 | nil {g:aJ}:ow P N ops [] g g
 | step {i:Nat}{rest:List Nat}{g g':aJ}{o:Oper}{d:Nat}{r:Option ab}(aY:ops[i]?=some o) (aS:o.dst=some d) (aP:g d=none) (jG:N.ok d=true) (aA:p6 P g ops o r)
   (aj:ow P N ops rest (ya g d r) g'):ow P N ops (i::rest) g g'
 | j7 {i:Nat}{rest:List Nat}{g g1 g':aJ}{o:Oper}(aY:ops[i]?=some o) (hw:iz g ops o true) (he:bl P N g o g1) (aj:ow P N ops rest g1 g'):ow P N ops (i::rest) g g'
 | drop {is:List Nat}{g g':aJ}{d:Nat}{x:ab}(aS:g d=some x) (ai:leaf x=true) (aj:ow P N ops is (del g d) g'):ow P N ops is g g'
 | forget {is:List Nat}{g g1 g':aJ}(hk:hz g g1) (aj:ow P N ops is g1 g'):ow P N ops is g g'
 | vd {is:List Nat}{g g1 g':aJ}{dL:Nat->Bool}(hk:GW dL g g1) (aj:ow P N ops is g1 g'):ow P N ops is g g'
theorem ow.sound {is:List Nat}{g':aJ}(aj:ow P N ops is g g'):∀ {a:Act}{w:World}{I:bc}{Fs:Nat->bc}{Q:Exit->Act->World->Prop},cD w I a.tmps g Fs->a.tmps.size=N.size ->
  (∀ b' w',h2 N a w I Fs g' b' w'->Q .normal b' w')->wpOps P ops Q is a w:=by
 induction aj with
 | nil=>exact λbk bd dM=>dM _ _ ⟨rfl,hy.refl,_,_,bk,ko.refl _ _ _⟩
 | @step i rest g g' o d r aY aS aP jG aA _ aU =>
  intro a w I Fs Q bk bd dM;simp only [wpOps,aY];refine aA.sound bk rfl bd aS aP jG λb' w' aE=>?_;obtain ⟨cu,cd,I',b5,dX,b0⟩:=aE;exact aU dX (cd.1.trans bd) λa2 hn af=>dM _ _ (h2.trans cu cd b0 af)
 | @j7 i rest g g1 g' o aY hw he _ aU =>
  intro a w I Fs Q bk bd dM;simp only [wpOps,aY,hw.sound bk,if_true];refine .inl (he.sound bk rfl bd λb' w' aE=>?_);obtain ⟨cu,cd,I',b5,dX,b0⟩:=aE;exact aU dX (cd.1.trans bd) λa2 hn af=>dM _ _ (h2.trans cu cd b0 af)
 | @drop is g g' d x aS ai _ aU=>exact λbk bd dM=>aU (bk.drop aS ai) bd dM
 | @vd is g g1 g' dL hk _ aU =>
  intro a w I Fs Q bk bd dM;obtain ⟨I',b5,dX,b0⟩:=bk.vd hk;exact aU dX bd λa2 hn af=>dM _ _ (h2.trans rfl hy.refl b0 af)
 | @forget is g g1 g' hk _ aU =>
  intro a w I Fs Q bk bd dM;have dX:=bk.mC.keep hk;refine aU dX bd λa2 hn af=>dM _ _ (h2.trans rfl hy.refl ⟨Fr.refl _ _,λ_ h=>h,λ_ h=>.inl h,λc aa=>?_⟩ af);obtain ⟨t,_,aa⟩:=aa;exact .inl ⟨t,aa⟩
end
end Go.Own
namespace Go.Own
open Go
def sm (rs:List Nat):Place->Prop:=λp=>p.root∈rs
def o3 (P:Program) (N:c6) (rs:Place->Prop) (g:aJ) (o:Oper) (g':aJ):Prop :=
 ∀ (w:World) (I:bc) (T:Array Value) (Fs:Nat->bc),cD w I T g Fs->∀ (a:Act),a.tmps=T->a.tmps.size=N.size->∀ (K:Act->World->Prop) (Q:Exit->Act->World->Prop),
  (∀ (b':Act) (w':World),h2 N a w I Fs g' b' w'->(∀ t,o.dst≠some t->b'.tmps[t]?=a.tmps[t]?)->(∀ r path,rs ⟨r,path⟩->∀ y,bz g ⟨r,path⟩=some y->(∀ z q n m new,y≠.bM z q n m new)->dV w' b'.tmps ⟨r,path⟩=dV w T ⟨r,path⟩)->K b' w')->o.wp P a w K Q
theorem iw.v {P:Program}{N:c6}{g g':aJ}{o:Oper}(h:iw P N g o g'):o3 P N (sm []) g o g' :=
 λw I T Fs bk a aR bd K Q dj=>h w I T Fs bk a aR bd K Q λb' w' h1 af=>dj b' w' h1 af λ_ _ h=>by simp [sm] at h
inductive p4:ab->Prop
 | lit {v:Value}:p4 (.lit v)
 | aN:p4 .aN
 | bn {z n:Nat}{cs:List ab}(h:∀ x∈cs,cS x):p4 (.bn z n cs)
 | agg {cs:List ab}(h:∀ x∈cs,p4 x):p4 (.agg cs)
theorem p4.bo {x:ab}(h:p4 x):cS x:=by
 induction h with
 | lit=>exact .lit
 | aN=>exact .aN
 | bn h=>exact .bn h
 | agg _ aU=>exact .agg aU
theorem p4.kW {w:World}{I:bc}{ρ:ab->Value->Prop}{x:ab}(h:p4 x):∀ {v:Value}{F:bc},R w I ρ x v F->∀ c,¬ F c:=by
 induction h with
 | lit =>
  intro v F a1;cases a1 with
  | lit _ aO=>exact aO
  | ref J=>simp [ab.isRef] at J
 | aN =>
  intro v F a1;cases a1 with
  | aN aO=>exact aO
  | ref J=>simp [ab.isRef] at J
 | bn =>
  intro v F a1;cases a1 with
  | ref J=>simp [ab.isRef] at J
  | hD aO=>exact aO
  | bn aO=>exact aO
 | @agg cs _ aU =>
  intro v F a1 c aa;cases a1 with
  | ref J=>simp [ab.isRef] at J
  | @agg _ vs bL _ ai h1 aj aS mm =>
   obtain ⟨k,hk,af⟩:=(mm c).1 aa;have hu:vs[k]?=some (vs[k]'(by omega)):=Array.getElem?_eq_getElem (by omega);exact aU _ (List.getElem_mem hk) (aj k _ _ (List.getElem?_eq_getElem hk) hu) c af
structure GR (g:aJ):Prop where
 bW:∀ t x,g t=some x->di g x
 fA:∀ t z q n m new,g t≠some (.bM z q n m new)
def A8 (rs:Place->Prop) (g g1:aJ) (o:Oper) (x:ab):Prop:=(∃ r path z n N cs,x=.a6 z ⟨r,path⟩ n/\rs ⟨r,path⟩/\bz g ⟨r,path⟩=some (.own z N cs)/\bz g1 ⟨r,path⟩=some (.own z N cs)/\n<=N)\/(∃ v,x=.lit v)\/(∃ s p k,x=.ptr p k/\g s=some x/\g1 s=some x/\o.dst≠some s)\/(∃ r k cs,x=.ptr ⟨r,[]⟩ k/\g1 r=some (.obj cs)/\k<cs.length/\o.dst≠some r/\∃ cs',g r=some (.obj cs')/\k<cs'.length)\/(∃ z n cs,x=.bn z n cs/\cS x)\/(∃ cs,x=.agg cs/\p4 x/\GR g)
section
variable {P:Program}{N:c6}{g g1:aJ}{o:Oper}
theorem Qp {T:Array Value}{t:Nat}{v:Value}(h:T[t]?=some v):T.setIfInBounds t v=T:=by
 apply Array.ext (by simp);intro i h1 af;rw [Array.getElem_setIfInBounds];split
 ·rename_i e;subst e;have:=(Array.getElem?_eq_some_iff.1 h);exact this.2.symm
 ·rfl
theorem cD.TJ {w:World}{I:bc}{T:Array Value}{Fs:Nat->bc}{t:Nat}{x:ab}(h:cD w I T (cT g t x) Fs) (aP:g t=none) (aa:GR g) (k':∀ c,¬ Fs t c):cD w I T g Fs:=by
 have gE:∀ s y,g s=some y->cT g t x s=some y:=λs y aA=>by
  unfold cT;rw [if_neg (λe=>by rw [e,aP] at aA; cases aA)]; exact aA
 have af:=h.mC.keep (g2:=g) ⟨gE,aa.bW,aa.fA⟩;have e:(λs c=>g s≠none/\Fs s c)=Fs:=by
  funext s c;apply propext;refine ⟨λh=>h.2,λaW=>⟨λaE=>?_,aW⟩⟩;by_cases aA:s=t
  ·subst aA; exact k' c aW
  ·exact h.kW s (by unfold cT; rw [if_neg aA]; exact aE) c aW
 rw [e] at af;exact af
theorem o3.extra {rs:Place->Prop}(h:o3 P N rs g o g1) {t:Nat}{x:ab}(l3:∀ p,rs p->g p.root≠none) (aP:g t=none) (VS:g1 t=none) (aw:o.dst≠some t) (J:A8 rs g g1 o x):o3 P N rs (cT g t x) o (cT g1 t x):=by
 intro w I T Fs bk a aR bd K Q dj;have Jo:cT g t x t=some x:=by simp [cT]
 have lf:∀ z q n m new,x≠.bM z q n m new:=by
  rcases J with ⟨r,path,z,n,N,cs,rfl,_⟩ | ⟨v,rfl⟩ | ⟨s,p,k,rfl,_⟩ | ⟨r,k,cs,rfl,_⟩ | ⟨z,n,cs,rfl,_⟩ | ⟨cs,rfl,_⟩ <;> simp
 have sH:cD w I T g Fs:=by
  have Bb:leaf x=true->cD w I T g Fs:=λvv=>by
   have:=bk.drop Jo vv;have e:del (cT g t x) t=g:=by
    funext s;unfold del cT;by_cases aA:s=t
    ·subst aA; simp [aP]
    ·simp [aA]
   rwa [e] at this
  rcases J with ⟨r,path,z,n,N,cs,rfl,_⟩ | ⟨v,rfl⟩ | ⟨s,p,k,rfl,_⟩ | ⟨r,k,cs,rfl,_⟩ | ⟨z,n,cs,rfl,_⟩ | ⟨cs,rfl,zw,gR⟩
  ·exact Bb rfl
  ·exact Bb rfl
  ·exact Bb rfl
  ·exact Bb rfl
  ·exact Bb rfl
  ·obtain ⟨v,_,mS⟩:=bk.rel t _ Jo;exact bk.TJ aP gR (zw.kW (mS.gF (by simp)))
 obtain ⟨v,hv,mS⟩:=bk.rel t x Jo;refine h w I T Fs sH a aR bd K Q λb' w' aE sU OJ=>dj b' w' ?_ sU λr path aj y av lf=>?_
 rotate_left
 ·by_cases Ox:r=t
  ·subst Ox;exact absurd aP (l3 _ aj)
  ·exact OJ r path aj y (by simpa [bz,cT,Ox] using av) lf
 obtain ⟨cu,cd,I',b5,dX,b0⟩:=aE;have ik:b'.tmps[t]?=some v:=by rw [sU t aw,aR]; exact hv
 have jE:jw w' I' (dR w' b'.tmps g1) x v cv:=by
  rcases J with ⟨r,path,z,n,u2,cs,rfl,aj,zy,ku,Wc⟩ | ⟨u,rfl⟩ | ⟨s,p,k,rfl,aA,xn,Wx⟩ | ⟨r,k,cs,rfl,ku,hk,r9,_⟩ | ⟨z,n,cs,rfl,mW⟩ | ⟨cs,rfl,zw,gR⟩
  ·obtain ⟨⟨aF,iW,cap,gP,rfl,kL⟩,_⟩:=(mS.gF (by simp)).m_;exact .tree (.ref rfl ⟨⟨aF,iW,cap,by rw [OJ r path aj _ zy (by simp)]; exact gP,rfl,kL⟩,.inl ⟨u2,cs,ku,Wc⟩⟩ λ_ h=>h)
  ·obtain ⟨rfl,aa⟩:=(mS.gF (by simp)).ht;exact .tree (.lit aa λ_ h=>h)
  ·obtain ⟨⟨DA,ad,aF,a2,rfl⟩,_⟩:=(mS.gF (by simp)).nI;have b0:s≠t:=by rintro rfl; rw [aP] at aA; cases aA
   obtain ⟨u,hu,mR⟩:=sH.rel s _ aA;obtain ⟨⟨adF,aah,gP,h3,rfl⟩,_⟩:=(mR.gF (by simp)).nI;rw [aF] at gP;cases gP;rw [a2] at h3;cases h3;obtain ⟨wo,jH,Ij⟩:=dX.rel s _ xn;have:b'.tmps[s]?=T[s]?:=by rw [sU s Wx,aR]
   rw [this,hu] at jH;cases jH;exact .tree (.ref rfl (Ij.gF (by simp)).nI λ_ h=>h)
  ·obtain ⟨⟨DA,ad,aF,a2,rfl⟩,_⟩:=(mS.gF (by simp)).nI;have dK:b'.tmps[r]?=T[r]?:=by rw [sU r r9,aR]
   have oM:∀ (w:World) (T:Array Value),dV w T ⟨r,[]⟩=T[r]?:=λw T=>by
    unfold dV; simp only; cases T[r]? <;> rfl
   exact .tree (.ref rfl ⟨⟨DA,ad,by rw [oM,dK,<- oM w T]; exact aF,a2,rfl⟩,⟨.obj cs,by simp [bz,ku,ab.at],0,0,cs,.inr rfl,hk⟩⟩ λ_ h=>h)
  ·have so:∀ c,I c->w'.heap[c]?=w.heap[c]?:=λc aa=>b0.eR.block c (bk.lt c aa) λ⟨t',aL⟩=>sH.bn t' c aL aa;have Ig:=(mS.gF (by simp)).bo mW (ρ':=dR w' b'.tmps g1);have k':∀ c,¬ Fs t c:=by
    cases mS.gF (by simp) with
    | ref J=>simp [ab.isRef] at J
    | hD aO=>exact aO
    | bn aO=>exact aO
   exact .tree ((Ig.frame so b0.more (λ_ _ h=>h) λc aa=>absurd aa (k' c)).empty k')
  ·have so:∀ c,I c->w'.heap[c]?=w.heap[c]?:=λc aa=>b0.eR.block c (bk.lt c aa) λ⟨t',aL⟩=>sH.bn t' c aL aa;have k':=zw.kW (mS.gF (by simp));have Ig:=(mS.gF (by simp)).bo zw.bo (ρ':=dR w' b'.tmps g1);exact .tree ((Ig.frame so b0.more (λ_ _ h=>h) λc aa=>absurd aa (k' c)).empty k')
 have nC:=dX.uK (d:=t) (x:=x) (v:=v) (F:=cv) VS (Array.getElem?_eq_some_iff.1 ik).1 jE (λ_ _ h=>h.elim) (λ_ h=>h.elim) (λz p n m new e=>absurd e (lf _ _ _ _ _));rw [Qp ik] at nC;refine ⟨cu,cd,I',_,nC,⟨b0.eR,b0.more,b0.new,λc aa=>?_⟩⟩;rcases wq aa with aL | aL
 ·exact b0.own c aL
 ·exact aL.elim
theorem iw.frame {g0 HW:aJ}{r:Nat}{x:ab}(h:iw P N g0 o HW) (aj:g r=some x) (J:cS x) (hk:hz g g0) (aT:g0 r=none) (h1:HW r=none) (aS:o.dst≠some r):o3 P N (sm [r]) g o (cT HW r x):=by
 intro w I T Fs bk a aR bd K Q dj;have sH:=bk.mC.keep hk;refine h w I T _ sH a aR bd K Q λb' w' aE sU=>?_;obtain ⟨cu,cd,I',b5,dX,b0⟩:=aE;obtain ⟨u,hu,a1⟩:=bk.rel r x aj;have jH:b'.tmps[r]?=some u:=by rw [sU r aS,aR]; exact hu
 have lf:∀ z q n m new,x≠.bM z q n m new:=by rintro z q n m new rfl; cases J
 have off:∀ c,Fs r c->¬ ∃ t,(g0 t≠none/\Fs t c):=by
  rintro c aa ⟨t,lq,af⟩;have:=bk.eK t r c af aa;subst this;exact lq aT
 have same:∀ c,Fs r c->w'.heap[c]?=w.heap[c]?:=λc aa=>b0.eR.block c (bk.jS r c aa) (off c aa);have so:∀ c,I c->w'.heap[c]?=w.heap[c]?:=λc aa=>b0.eR.block c (bk.lt c aa) λ⟨t,_,aL⟩=>bk.bn t c aL aa;have nC:=dX.uK (d:=r) (x:=x) (v:=u) (F:=Fs r) h1 (Array.getElem?_eq_some_iff.1 jH).1 (.tree (((a1.gF lf).bo J).frame so b0.more (λ_ _ h=>h) same)) (λt c aa aW=>by
   rcases b0.own c ⟨t,aW⟩ with aL | aL
   ·exact off c aa aL
   ·have:=bk.jS r c aa; omega) (λc aa hi=>by
   rcases b0.new c hi with aL | aL | aL
   ·exact bk.bn r c aa aL
   ·exact off c aa aL
   ·have:=bk.jS r c aa; omega) (λz p n m new e=>absurd e (lf _ _ _ _ _))
 rw [Qp jH] at nC;refine dj b' w' ⟨cu,cd,I',_,nC,⟨b0.eR.mono λb _ ⟨t,_,aL⟩=>⟨t,aL⟩,b0.more,λc aa=>?_,λc aa=>?_⟩⟩ sU λcW path dN y av hyp=>?_
 ·rcases b0.new c aa with aL | ⟨t,_,aL⟩ | aL
  ·exact .inl aL
  ·exact .inr (.inl ⟨t,aL⟩)
  ·exact .inr (.inr aL)
 ·rcases wq aa with aL | aL
  ·rcases b0.own c aL with ⟨t,_,ig⟩ | ig
   ·exact .inl ⟨t,ig⟩
   ·exact .inr ig
  ·exact .inl ⟨r,aL⟩
 ·have dN:cW∈[r]:=dN;simp only [List.mem_singleton] at dN;subst dN;have gZ:hz g (λt=>if t=cW then some x else none):=by
   refine ⟨λt y hq=>?_,λt y hq=>?_,λt z q n m new hq=>?_⟩
   all_goals
    by_cases e:t=cW
    case neg=>simp [e] at hq
   ·subst e; simp at hq; subst hq; exact aj
   ·subst e; simp at hq; subst hq; exact .bo J
   ·subst e; simp at hq; exact lf _ _ _ _ _ hq
  refine (bk.mC.keep gZ).yt (T':=b'.tmps) (λt aw=>?_) (λt c aa=>?_) (p:=⟨cW,path⟩) (y:=y) ?_
  ·by_cases e:t=cW
   ·subst e; rw [sU t aS,aR]
   ·simp [e] at aw
  ·by_cases e:t=cW
   ·subst e; exact same c aa.2
   ·simp [e] at aa
  ·simp only [bz,if_true];simpa [bz,aj] using av
end
end Go.Own
namespace Go.Own
open Go
abbrev Acc:=List (Nat × Nat × Option ab)
def dh (g0:aJ) (A:Nat->Bool):Acc->aJ
 | [],t=>g0 t
 | (k,d,r)::acc,t=>if d=t then (if A k then r else none) else dh g0 A acc t
def jT:Nat × Nat × Option ab->Option Place
 | (_,_,some (.bM _ p _ _ _))=>some p
 | _=>none
def o' (ops:Array Oper) (bf:List (List Nat)):Bool :=
 (List.range ops.size).all λk =>
  match ops[k]? with
  | none=>true
  | some o=>(o.after.all λe=>!Region.binds .any e||decide (e.on<k))&&(bf.getD k []).all λm=>decide (m<k)&&o.after.any λe=>Region.binds .any e&&(e.on == m||(bf.getD e.on []).contains m)
inductive iI (P:Program) (N:c6) (ops:Array Oper) (bf:List (List Nat)) (g0:aJ) (i:Nat) (dU:Acc):Nat->Acc->Prop
 | nil:iI P N ops bf g0 i dU i dU
 | step {j:Nat}{acc:Acc}{o:Oper}{d:Nat}{r:Option ab}(h:iI P N ops bf g0 i dU j acc) (aY:ops[j]?=some o) (aS:o.dst=some d) (aP:g0 d=none) (aE:∀ e∈acc,e.2.1≠d) (jG:N.ok d=true)
   (aA:p6 P (dh g0 (λm=>(bf.getD j []).contains m) acc) ops o r):iI P N ops bf g0 i dU (j+1) ((j,d,r)::acc)
structure mI (P:Program) (N:c6) (ops:Array Oper) (bf:List (List Nat)) (g0:aJ) (i:Nat) (dU:Acc):Prop where
 lt:∀ e∈dU,e.1<i
 free:∀ e∈dU,g0 e.2.1=none
 nd:(dU.map (·.2.1)).Nodup
 QQ:∀ e∈dU,∀ cf∈dU,(e.1=cf.1\/e.2.1=cf.2.1)->e=cf
 st:∀ e∈dU,∃ gb,ops[e.1]?=some gb/\gb.dst=some e.2.1/\N.ok e.2.1=true/\p6 P (dh g0 (λm=>(bf.getD e.1 []).contains m) dU) ops gb e.2.2
theorem mI.nil {P:Program}{N:c6}{ops:Array Oper}{bf:List (List Nat)}{g0:aJ}{i:Nat}:mI P N ops bf g0 i []:=⟨by simp,by simp,by simp,by simp,by simp⟩
inductive sv (P:Program) (N:c6) (ops:Array Oper) (bf:List (List Nat)):Nat->Acc->aJ->aJ->Prop
 | fin {i:Nat}{dU:Acc}{g:aJ}{acc:Acc}(aA:iI P N ops bf g i dU ops.size acc) (gN:(acc.filterMap jT).Nodup) (fH:∀ t z q n m new,g t≠some (.bM z q n m new)):sv P N ops bf i dU g (dh g (λ_=>true) acc)
 | wM {i j:Nat}{g g1 g':aJ}{dU acc U:Acc}{o:Oper}{rs:Place->Prop}(aA:iI P N ops bf g i dU j acc) (gN:(acc.filterMap jT).Nodup) (fH:∀ t z q n m new,g t≠some (.bM z q n m new)) (aY:ops[j]?=some o) (hw:iz (dh g (λm=>(bf.getD j []).contains m) acc) ops o true)
   (he:o3 P N rs (dh g (λm=>(bf.getD j []).contains m) acc) o g1) (l3:∀ p,rs p->g p.root≠none) (f_:U=acc.filter λe=>!(bf.getD j []).contains e.1) (J:∀ e∈U,∃ x,e.2.2=some x/\A8 rs (dh g (λm=>(bf.getD j []).contains m) acc) g1 o x) (h1:∀ e∈U,g1 e.2.1=none/\o.dst≠some e.2.1)
   (af:∀ e∈U,∃ gb,ops[e.1]?=some gb/\gb.dst=some e.2.1/\N.ok e.2.1=true/\p6 P (dh g1 (λm=>(bf.getD e.1 []).contains m) U) ops gb e.2.2)
   (au:(List.range ops.size).all (λk=>decide (k<=j)||(bf.getD k []).contains j)=true) (aj:sv P N ops bf (j+1) U g1 g'):sv P N ops bf i dU g g'
theorem mD {g0:aJ}{A:Nat->Bool}{acc:Acc}{t:Nat}(h:∀ e∈acc,e.2.1≠t):dh g0 A acc t=g0 t:=by
 induction acc with
 | nil=>rfl
 | cons e acc aU =>
  grind [dh]
theorem uU {g0:aJ}{A:Nat->Bool}{acc:Acc}{t:Nat}{x:ab}(h:dh g0 A acc t=some x):(∃ e∈acc,e.2.1=t/\A e.1=true/\e.2.2=some x)\/((∀ e∈acc,e.2.1≠t)/\g0 t=some x):=by
 induction acc with
 | nil=>exact .inr ⟨by simp,h⟩
 | cons e acc aU =>
  grind [dh]
theorem La {g:aJ}{A:Nat->Bool}{acc:Acc}(hu:∀ e∈acc,∀ cf∈acc,e.2.1=cf.2.1->e=cf) {e:Nat × Nat × Option ab}(he:e∈acc):dh g A acc e.2.1=if A e.1 then e.2.2 else none:=by
 induction acc with
 | nil=>cases he
 | cons a acc aU =>
  grind [dh]
section
variable {P:Program}{N:c6}{ops:Array Oper}{bf:List (List Nat)}{g0:aJ}{i:Nat}
variable {dU:Acc}
theorem iI.le {j:Nat}{acc:Acc}(h:iI P N ops bf g0 i dU j acc) (f_:mI P N ops bf g0 i dU):i<=j/\∀ e∈acc,e.1<j:=by
 induction h with
 | nil=>exact ⟨Nat.le_refl _,f_.lt⟩
 | step _ _ _ _ _ _ _ aU =>
  grind
theorem iI.ge {j:Nat}{acc:Acc}(h:iI P N ops bf g0 i dU j acc) (f_:mI P N ops bf g0 i dU):∀ e∈acc,e∈dU\/i<=e.1:=by
 induction h with
 | nil=>exact λe he=>.inl he
 | step aA _ _ _ _ _ _ aU =>
  intro e he;rcases List.mem_cons.1 he with rfl | he
  ·exact .inr (aA.le f_).1
  grind
theorem iI.K7 {j:Nat}{acc:Acc}(h:iI P N ops bf g0 i dU j acc):∀ e∈dU,e∈acc:=by
 induction h with
 | nil=>exact λe he=>he
 | step _ _ _ _ _ _ _ aU=>exact λe he=>by simp [aU e he]
theorem iI.fresh {j:Nat}{acc:Acc}(h:iI P N ops bf g0 i dU j acc) (f_:mI P N ops bf g0 i dU):∀ e∈acc,g0 e.2.1=none:=by
 induction h with
 | nil=>exact f_.free
 | step _ _ _ aP _ _ _ aU =>
  grind
theorem iI.nodup {j:Nat}{acc:Acc}(h:iI P N ops bf g0 i dU j acc) (f_:mI P N ops bf g0 i dU):(acc.map (·.2.1)).Nodup:=by
 induction h with
 | nil=>exact f_.nd
 | step _ _ _ _ aE _ _ aU =>
  grind
theorem iI.uniq {j:Nat}{acc:Acc}(h:iI P N ops bf g0 i dU j acc) (f_:mI P N ops bf g0 i dU):∀ {e cf:Nat × Nat × Option ab},e∈acc->cf∈acc->(e.1=cf.1\/e.2.1=cf.2.1)->e=cf:=by
 induction h with
 | nil=>exact λ{e cf} he h5 bY=>f_.QQ e he cf h5 bY
 | @step j acc o d r aA _ _ _ aE _ _ aU =>
  intro e cf he h5 bY;rcases List.mem_cons.1 he with rfl | he <;> rcases List.mem_cons.1 h5 with rfl | h5
  ·rfl
  ·rcases bY with bY | bY
   ·have:=(aA.le f_).2 cf h5
    grind
   grind
  ·rcases bY with bY | bY
   ·have:=(aA.le f_).2 e he
    grind
   grind
  grind
theorem iI.at_mem {j:Nat}{acc:Acc}(h:iI P N ops bf g0 i dU j acc) (f_:mI P N ops bf g0 i dU) {A:Nat->Bool}{e:Nat × Nat × Option ab}(he:e∈acc):dh g0 A acc e.2.1=if A e.1 then e.2.2 else none :=
 La (λ_ J _ av aL=>h.uniq f_ J av (.inr aL)) he
theorem iI.get {j:Nat}{acc:Acc}(h:iI P N ops bf g0 i dU j acc) (f_:mI P N ops bf g0 i dU):∀ e∈acc,∃ o D8,ops[e.1]?=some o/\o.dst=some e.2.1/\N.ok e.2.1=true/\p6 P (dh g0 (λm=>(bf.getD e.1 []).contains m) D8) ops o e.2.2/\∀ e∈D8,e∈acc:=by
 induction h with
 | nil =>
  intro e he;obtain ⟨gb,h1,af,aI,bD⟩:=f_.st e he
  grind
 | @step j acc o d r aA aY aS aP aE jG b0 aU =>
  intro e he;rcases List.mem_cons.1 he with rfl | he
  ·grind
  grind
theorem iI.has {j:Nat}{acc:Acc}(h:iI P N ops bf g0 i dU j acc):∀ k,i<=k->k<j->∃ e∈acc,e.1=k:=by
 induction h with
 | nil=>intro k h1 af; omega
 | @step j acc o d r aA aY aS aP aE jG b0 aU =>
  grind [List.mem_cons_self]
theorem Yl {acc:Acc}(gN:(acc.filterMap jT).Nodup) {e cf:Nat × Nat × Option ab}{p:Place}(he:e∈acc) (h5:cf∈acc) (h:jT e=some p) (aL:jT cf=some p):e=cf:=by
 induction acc with
 | nil=>simp at he
 | cons a acc aU =>
  grind
def dt (listed:Array Bool) (k:Nat):Bool:=listed.getD k false
def hg (ops:Array Oper) (listed:Array Bool):Nat:=((List.range ops.size).filter λk=>!dt listed k).length
theorem wX {listed:Array Bool}{k:Nat}(hk:k<ops.size) (ai:dt listed k=false) (fV:listed.size=ops.size):hg ops (listed.setIfInBounds k true)+1<=hg ops listed:=by
 unfold hg;have key:∀ l:List Nat,l.Nodup->((l.filter λj=>!dt (listed.setIfInBounds k true) j).length+if k∈l then 1 else 0)=(l.filter λj=>!dt listed j).length:=by
  intro l
  induction l with
  | nil=>intro _; simp
  | cons j l aU =>
   intro fr;have Wd:=List.nodup_cons.1 fr;have adl:=aU Wd.2;by_cases fU:j=k
   ·simp_all [dt]
   ·have h1:dt (listed.setIfInBounds k true) j=dt listed j:=by simp [dt,Array.getElem?_setIfInBounds_ne (Ne.symm fU)]
    grind
 grind
end
end Go.Own
namespace Go.Own
open Go
section
variable {P:Program}{N:c6}{ops:Array Oper}{bf:List (List Nat)}
def Down (bf:List (List Nat)) (listed:Array Bool):Prop:=∀ k,dt listed k=true->∀ m∈bf.getD k [],dt listed m=true
theorem L0 (h:o' ops bf=true) {k:Nat}{o:Oper}(aY:ops[k]?=some o) :
  (∀ e∈o.after,Region.binds .any e=true->e.on<k)/\∀ m∈bf.getD k [],m<k/\∃ e∈o.after,Region.binds .any e=true/\(e.on=m\/m∈bf.getD e.on []):=by
 grind [o',Array.all_eq_true_iff_forall_mem]
theorem yc {listed:Array Bool}{k:Nat}(h:k∈Region.ready .any ops listed):dt listed k=false/\∃ o,ops[k]?=some o/\∀ e∈o.after,Region.binds .any e=true->dt listed e.on=true:=by
 grind [mem_ready,dt]
theorem KG (ek:o' ops bf=true) {listed:Array Bool}(aS:Down bf listed) {k:Nat}(h:k∈Region.ready .any ops listed):∀ m∈bf.getD k [],dt listed m=true:=by
 obtain ⟨_,o,aY,af⟩:=yc h;intro m hm;obtain ⟨_,e,he,au,aI⟩:=(L0 ek aY).2 m hm;rcases aI with rfl | aI
 ·grind
 ·exact aS e.on (af e he au) m aI
theorem PU (ek:o' ops bf=true) {listed:Array Bool}(fV:listed.size=ops.size):∀ k,k<ops.size->dt listed k=false->Region.ready .any ops listed≠[]:=by
 intro k
 induction k using Nat.strongRecOn with
 | _ k aU =>
  intro hk ai;by_cases hex:∃ j,j<k/\dt listed j=false
  ·grind
  ·have nz:k∈Region.ready .any ops listed:=by
    refine mem_ready.2 ⟨?_,ops[k],Array.getElem?_eq_getElem hk,λe he au=>?_⟩
    ·grind [dt]
    ·have aQ:=(L0 ek (Array.getElem?_eq_getElem hk)).1 e he au
     grind [dt]
   grind
theorem DC {g0:aJ}{A B:Nat->Bool}{acc:Acc}{t:Nat}(h:∀ e∈acc,e.2.1=t->A e.1=B e.1):dh g0 A acc t=dh g0 B acc t:=by
 induction acc with
 | nil=>rfl
 | cons e acc aU =>
  grind [dh]
theorem D0 {listed:Array Bool}{k j:Nat}(hk:k<listed.size):dt (listed.setIfInBounds k true) j=if j=k then true else dt listed j:=by
 by_cases fU:j=k
 all_goals simp_all [dt,Ne.symm]
theorem ZW {g0:aJ}{i j:Nat}{acc U dU:Acc}(aA:iI P N ops bf g0 i dU j acc) (b_:mI P N ops bf g0 i dU) {A S:Nat->Bool}(f_:U=acc.filter λe=>!A e.1) (UA:∀ e∈acc,A e.1=true->S e.1=true):dh g0 S acc=dh (dh g0 A acc) S U:=by
 subst f_;funext t;by_cases hex:∃ e∈acc,e.2.1=t
 ·obtain ⟨e,he,rfl⟩:=hex;rw [aA.at_mem b_ he];by_cases ek:A e.1=true
  ·rw [mD,aA.at_mem b_ he,if_pos ek,if_pos (UA e he ek)];intro cf h5 h;obtain ⟨h1,af⟩:=List.mem_filter.1 h5;have:=aA.uniq b_ h1 he (.inr h)
   grind
  ·rw [La (λx J y av h=>aA.uniq b_ (List.mem_filter.1 J).1 (List.mem_filter.1 av).1 (.inr h)) (List.mem_filter.2 ⟨he,by simpa using ek⟩)]
 grind [mD]
theorem di.mono {g g':aJ}(aP:∀ t x,g t=some x->g' t=some x) {x:ab}(h:di g x):di g' x:=by
 induction h with
 | bo h=>exact .bo h
 | ref J h=>exact .ref J (h.mono aP)
 | own _ aU=>exact .own aU
 | obj _ aU=>exact .obj aU
 | agg _ aU=>exact .agg aU
 | bX _ aU=>exact .bX aU
 | cU _ _ gv gh=>exact .cU gv gh
 | bM ar _ aU=>exact .bM (ar.mono aP) aU
theorem MW {mP g1:aJ}{o:Oper}{S:Nat->Bool}{rs:Place->Prop}(h:o3 P N rs mP o g1) (l3:∀ p,rs p->mP p.root≠none):∀ (U:Acc),(∀ e∈U,∃ x,e.2.2=some x/\A8 rs mP g1 o x)->(∀ e∈U,mP e.2.1=none/\g1 e.2.1=none/\o.dst≠some e.2.1)->(U.map (·.2.1)).Nodup->o3 P N rs (dh mP S U) o (dh g1 S U)
 | [],_,_,_=>h
 | (k,d,r)::U,J,h1,fr=>by
  simp only [List.map_cons,List.nodup_cons] at fr;have aU:=MW (S:=S) h l3 U (λe he=>J e (by simp [he])) (λe he=>h1 e (by simp [he])) fr.2;obtain ⟨x,e,b0⟩:=J (k,d,r) (by simp);simp only at e;subst e;obtain ⟨aF,a2,a3⟩:=h1 (k,d,some x) (by simp);simp only at aF a2 a3;have r8:∀ e∈U,e.2.1≠d:=λe he aL=>fr.1 (List.mem_map.2 ⟨e,he,aL⟩);cases bk:S k with
  | true =>
   have e:∀ g:aJ,dh g S ((k,d,some x)::U)=cT (dh g S U) d x:=λg=>by
    funext t;simp only [dh,cT,bk,if_true];by_cases aS:d=t
    ·rw [if_pos aS,if_pos aS.symm]
    ·rw [if_neg aS,if_neg (Ne.symm aS)]
   rw [e,e];have FJ:∀ r,mP r≠none->∀ e∈U,e.2.1≠r:=λr aj e he aL=>by
    have:=(h1 e (by simp [he])).1;rw [aL] at this;exact aj this
   have X6:∀ r,g1 r≠none->∀ e∈U,e.2.1≠r:=λr aj e he aL=>by
    have:=(h1 e (by simp [he])).2.1;rw [aL] at this;exact aj this
   refine aU.extra (λr aj=>by rw [mD (FJ r.root (l3 r aj))]; exact l3 r aj) (by rw [mD r8]; exact aF) (by rw [mD r8]; exact a2) a3 ?_;rcases b0 with ⟨r,path,z,n,u2,cs,rfl,gP,h3,kL,y6⟩ | ⟨v,rfl⟩ | ⟨s,p,m,rfl,gP,h3,kL⟩ | ⟨s,m,cs,rfl,gP,h3,kL,cs',y6,Hh⟩ | ⟨z,n,cs,rfl,gP⟩ | ⟨cs,rfl,gP,h3⟩
   ·refine .inl ⟨r,path,z,n,u2,cs,rfl,gP,?_,?_,y6⟩
    ·have:mP r≠none:=l3 _ gP;simpa [bz,mD (FJ r this)] using h3
    ·have:g1 r≠none:=λe=>by simp [bz,e] at kL
     simpa [bz,mD (X6 r this)] using kL
   ·exact .inr (.inl ⟨v,rfl⟩)
   ·refine .inr (.inr (.inl ⟨s,p,m,rfl,?_,?_,kL⟩))
    ·rw [mD]; exact gP;intro e he aL;have:=(h1 e (by simp [he])).1;rw [aL,gP] at this; cases this
    ·rw [mD]; exact h3;intro e he aL;have:=(h1 e (by simp [he])).2.1;rw [aL,h3] at this; cases this
   ·refine .inr (.inr (.inr (.inl ⟨s,m,cs,rfl,?_,h3,kL,cs',?_,Hh⟩)))
    ·rw [mD]; exact gP;intro e he aL;have:=(h1 e (by simp [he])).2.1;rw [aL,gP] at this; cases this
    ·rw [mD (FJ s (by rw [y6]; simp))]; exact y6
   ·exact .inr (.inr (.inr (.inr (.inl ⟨z,n,cs,rfl,gP⟩))))
   ·refine .inr (.inr (.inr (.inr (.inr ⟨cs,rfl,gP,?_⟩))));have hle:∀ t y,mP t=some y->dh mP S U t=some y:=λt y av=>by rw [mD (FJ t (by rw [av]; simp))]; exact av
    refine ⟨λt y av=>?_,λt z q n m new av=>?_⟩
    ·rcases uU av with ⟨cf,h5,_,_,IL⟩ | ⟨_,av⟩
     ·obtain ⟨y',w4,Ca⟩:=J cf (by simp [h5]);rw [IL] at w4; cases w4;rcases Ca with ⟨r,path,z,n,u2,cs,rfl,c1,c2,jM,c4⟩ | ⟨v,rfl⟩ | ⟨s,p,m,rfl,c1,_⟩ | ⟨s,m,cs,rfl,_,_,_,cs',c4,kM⟩ | ⟨z,n,cs,rfl,c1⟩ | ⟨cs,rfl,c1,_⟩
      ·exact .ref rfl (.inl ⟨u2,cs,kK hle c2,c4⟩)
      ·exact .bo .lit
      ·exact di.mono hle (h3.bW s _ c1)
      ·exact .ref rfl ⟨.obj cs',by simp [bz,hle s _ c4,ab.at],0,0,cs',.inr rfl,kM⟩
      ·exact .bo c1
      ·exact .bo c1.bo
     ·exact di.mono hle (h3.bW t y av)
    ·rcases uU av with ⟨cf,h5,_,_,IL⟩ | ⟨_,av⟩
     ·obtain ⟨y',w4,Ca⟩:=J cf (by simp [h5]);rw [IL] at w4; cases w4;rcases Ca with ⟨r,path,z,n,u2,cs,h,_⟩ | ⟨v,h⟩ | ⟨s,p,m,h,_⟩ | ⟨s,m,cs,h,_⟩ | ⟨z,n,cs,h,_⟩ | ⟨cs,h,_⟩ <;> cases h
     ·exact h3.fA _ _ _ _ _ _ av
  | false =>
   have e:∀ g:aJ,g d=none->dh g S ((k,d,some x)::U)=dh g S U:=λg aP=>by
    funext t;simp only [dh,bk];by_cases aS:d=t
    ·subst aS; rw [if_pos rfl,mD r8,aP]; rfl
    ·rw [if_neg aS]
   rw [e mP aF,e g1 a2];exact aU
theorem PR (ek:o' ops bf=true) {g0:aJ}{i j:Nat}{acc dU:Acc}(aA:iI P N ops bf g0 i dU j acc) (b_:mI P N ops bf g0 i dU) (gN:(acc.filterMap jT).Nodup) (fH:∀ t z q n m new,g0 t≠some (.bM z q n m new)) {listed:Array Bool}(fV:listed.size=ops.size) (aS:Down bf listed)
  {a:Act}{w:World}{I:bc}{Fs:Nat->bc}(bk:cD w I a.tmps (dh g0 (dt listed) acc) Fs) (bd:a.tmps.size=N.size) {e:Nat × Nat × Option ab}(he:e∈acc) (hk:e.1∈Region.ready .any ops listed) {K:Act->World->Prop}{Q:Exit->Act->World->Prop}
  (dj:∀ b' w' I' b5,b'.defers=a.defers->hy N a.tmps b'.tmps->cD w' I' b'.tmps (dh g0 (dt (listed.setIfInBounds e.1 true)) acc) b5->ko w I (λc=>∃ t,Fs t c) w' I' (λc=>∃ t,b5 t c)->K b' w'):wpOp P ops Q e.1 K a w:=by
 obtain ⟨fq,ln,xm,_⟩:=yc hk;have zt:=(Array.getElem?_eq_some_iff.1 xm).1;have BH:=KG ek aS hk;obtain ⟨o,D8,aY,ER,jG,b0,gE⟩:=aA.get b_ e he;obtain ⟨k,d,r⟩:=e;simp only at *;have hle:ou (dh g0 (λm=>(bf.getD k []).contains m) D8) (dh g0 (dt listed) acc):=by
  intro t x J;rcases uU J with ⟨e,he,rfl,Ex,hex⟩ | ⟨r8,aP⟩
  ·rw [aA.at_mem b_ (gE e he),BH e.1 (by simpa using Ex)];exact hex
  ·rw [mD λe he acM=>?_]
   ·exact aP
   ·have:=aA.fresh b_ e he
    grind
 have e':∀ z p n m new,r=some (.bM z p n m new)->∀ t bA cB m' c0,dh g0 (dt listed) acc t≠some (.bM bA p cB m' c0):=by
  intro z p n m new aj t bA cB m' c0 aw;rcases uU aw with ⟨e,h5,_,Ex,hex⟩ | ⟨_,aP⟩
  ·obtain ⟨ke,MO,cW⟩:=e;have:=Yl gN (p:=p) he h5 (by rw [aj]; rfl) (by simp only at hex; rw [hex]; rfl)
   grind
  grind
 have Ca:=b0.mono hle e';have vq:dh g0 (dt listed) acc d=none:=by
  have:=aA.at_mem b_ (A:=dt listed) he
  grind
 unfold wpOp;simp only [aY];refine Ca.sound bk rfl bd ER vq jG λb' w' aE=>?_;obtain ⟨cu,cd,I',b5,dX,qj⟩:=aE;have hr:∀ j,dt (listed.setIfInBounds k true) j=if j=k then true else dt listed j:=λj=>D0 (by omega)
 have c9:dh g0 (dt (listed.setIfInBounds k true)) acc=ya (dh g0 (dt listed) acc) d r:=by
  funext t;by_cases vB:t=d
  ·subst vB;have h1:=aA.at_mem b_ (A:=dt (listed.setIfInBounds k true)) he;simp only [hr k,if_true] at h1;rw [h1];cases r with
   | none=>simp only [ya]; exact vq.symm
   | some x=>simp [ya,cT]
  ·have h1:dh g0 (dt (listed.setIfInBounds k true)) acc t=dh g0 (dt listed) acc t:=DC λe h5 het=>by
    rw [hr e.1,if_neg];intro VP;have:=aA.uniq b_ h5 he (.inl VP)
    grind
   rw [h1];cases r with
   | none=>rfl
   | some x=>simp [ya,cT,vB]
 grind
theorem HH (ek:o' ops bf=true) {listed:Array Bool}(fV:listed.size=ops.size) (aS:Down bf listed) {k:Nat}(hk:k∈Region.ready .any ops listed):Down bf (listed.setIfInBounds k true):=by
 obtain ⟨fq,ln,xm,_⟩:=yc hk;have zt:=(Array.getElem?_eq_some_iff.1 xm).1;have BH:=KG ek aS hk;have hr:∀ q,dt (listed.setIfInBounds k true) q=if q=k then true else dt listed q:=λq=>D0 (by omega)
 intro m hm q bg;rw [hr] at hm ⊢;split
 ·rfl
 ·split at hm
  ·grind
  ·exact aS m hm q bg
theorem iI.entry {g0:aJ}{i j:Nat}{acc dU:Acc}(aA:iI P N ops bf g0 i dU j acc) {listed:Array Bool}(aQ:∀ k,k<i->(∀ e∈dU,e.1≠k)->dt listed k=true) {k:Nat}(EN:k<j) (fq:dt listed k=false):∃ e∈acc,e.1=k:=by
 rcases Nat.lt_or_ge k i with h | h
 ·rcases Classical.em (∃ e∈dU,e.1=k) with ⟨e,he,aL⟩ | aL
  ·exact ⟨e,aA.K7 e he,aL⟩
  grind
 ·exact aA.has k h EN
theorem sv.sound (ek:o' ops bf=true) {i:Nat}{dU:Acc}{g g':aJ}(h:sv P N ops bf i dU g g'):mI P N ops bf g i dU->∀ {Q:Exit->Act->World->Prop}(fuel:Nat) (listed:Array Bool) (a:Act) (w:World) (I:bc) (Fs:Nat->bc),hg ops listed<=fuel->listed.size=ops.size->(∀ k,k<i->(∀ e∈dU,e.1≠k)->dt listed k=true)->(∀ k,i<=k->dt listed k=false)->Down bf listed ->
  cD w I a.tmps (dh g (dt listed) dU) Fs->a.tmps.size=N.size->(∀ b' w',h2 N a w I Fs g' b' w'->Q .normal b' w')->wpAny P .any ops Q fuel listed a w:=by
 have start:∀ {g:aJ}{i j:Nat}{acc dU:Acc}{listed:Array Bool},iI P N ops bf g i dU j acc->mI P N ops bf g i dU->(∀ k,i<=k->dt listed k=false)->dh g (dt listed) acc=dh g (dt listed) dU:=by
  intro g i j acc dU listed aA b_ dG;funext t;by_cases hex:∃ e∈acc,e.2.1=t
  ·obtain ⟨e,he,rfl⟩:=hex;rw [aA.at_mem b_ he];rcases aA.ge b_ e he with h | h
   ·rw [La (λx J y av aL=>b_.QQ x J y av (.inr aL)) h]
   ·rw [dG e.1 h];by_cases N3:∃ cf∈dU,cf.2.1=e.2.1
    ·obtain ⟨cf,h5,aL⟩:=N3;have:=aA.uniq b_ (aA.K7 cf h5) he (.inr aL);subst this;have:=b_.lt cf h5;omega
    ·rw [mD λcf h5 aL=>N3 ⟨cf,h5,aL⟩,aA.fresh b_ e he]; rfl
  ·rw [mD λe he h=>hex ⟨e,he,h⟩,mD λe he h=>hex ⟨e,aA.K7 e he,h⟩]
 induction h with
 | @fin i dU g acc aA gN fH =>
  intro b_ Q fuel listed a w I Fs aa fV aQ dG aS bk bd dM;rw [<- start aA b_ dG] at bk;clear dG;revert listed a w I Fs
  induction fuel with
  | zero =>
   intro listed a w I Fs aa fV aQ aS bk bd dM;have hJ:∀ k,k<ops.size->dt listed k=true:=λk hk=>by
    cases ai:dt listed k with
    | true=>rfl
    | false=>have:=wX (ops:=ops) (listed:=listed) (k:=k) hk ai fV; omega
   refine wpAny_done ?_ (dM _ _ ⟨rfl,hy.refl,I,Fs,?_,ko.refl _ _ _⟩) 0
   ·cases aj:Region.ready .any ops listed with
    | nil=>rfl
    | cons k l =>
     have hk:k∈Region.ready .any ops listed:=by rw [aj]; simp
     obtain ⟨fq,o,aY,_⟩:=yc hk
     grind
   ·have:dh g (dt listed) acc=dh g (λ_=>true) acc:=funext λt=>DC λe he _=>hJ e.1 ((aA.le b_).2 e he)
    grind
  | succ fuel aU =>
   intro listed a w I Fs aa fV aQ aS bk bd dM;by_cases hJ:∀ k,k<ops.size->dt listed k=true
   ·refine wpAny_done ?_ (dM _ _ ⟨rfl,hy.refl,I,Fs,?_,ko.refl _ _ _⟩) _
    ·cases aj:Region.ready .any ops listed with
     | nil=>rfl
     | cons k l =>
      have hk:k∈Region.ready .any ops listed:=by rw [aj]; simp
      obtain ⟨fq,o,aY,_⟩:=yc hk
      grind
    ·have:dh g (dt listed) acc=dh g (λ_=>true) acc:=funext λt=>DC λe he _=>hJ e.1 ((aA.le b_).2 e he)
     grind
   ·obtain ⟨k0,lI⟩:=Classical.not_forall.1 hJ;obtain ⟨V1,V2⟩:=Classical.not_imp.1 lI;refine ⟨λaj=>absurd aj (PU ek fV k0 V1 (by simpa using V2)),λk hk=>?_⟩;obtain ⟨fq,ln,xm,_⟩:=yc hk;have zt:=(Array.getElem?_eq_some_iff.1 xm).1;obtain ⟨e,he,rfl⟩:=aA.entry aQ zt fq;have VG:=wX (ops:=ops) (listed:=listed) (k:=e.1) zt fq fV;refine PR ek aA b_ gN fH fV aS bk bd he hk λb' w' I' b5 cu cd dX qj=>?_;refine aU _ b' w' I' b5 (by omega) (by simpa using fV) (λm hm da=>?_) (HH ek fV aS hk) dX (cd.1.trans bd) λa2 hn af=>dM _ _ (h2.trans cu cd qj af)
    grind [D0]
 | @wM i j g g1 g' dU acc U o rs aA gN fH aY hw he l3 f_ J h1 af au _ Xs =>
  intro b_ Q fuel listed a w I Fs aa fV aQ dG aS bk bd dM;have EM:j<ops.size:=(Array.getElem?_eq_some_iff.1 aY).1;have xc:∀ k,j<k->k<ops.size->j∈bf.getD k []:=λk hk zt=>by
   grind
  have BU:∀ e∈U,e∈acc/\(bf.getD j []).contains e.1=false:=λe he=>by
   grind
  have fr:(U.map (·.2.1)).Nodup:=by
   rw [f_];exact (List.filter_sublist.map _).nodup (aA.nodup b_)
  have VT:∀ e∈U,dh g (λm=>(bf.getD j []).contains m) acc e.2.1=none:=λe he=>by
   rw [aA.at_mem b_ (BU e he).1,(BU e he).2];rfl
  have BB:mI P N ops bf g1 (j+1) U:=⟨λe he=>by have:=(aA.le b_).2 e (BU e he).1; omega,λe he=>(h1 e he).1,fr,λe he cf h5 h=>aA.uniq b_ (BU e he).1 (BU cf h5).1 h,af⟩;have acQ:∀ k,j<=k->dt listed k=false:=λk hk=>dG k (Nat.le_trans (aA.le b_).1 hk);rw [<- start aA b_ dG] at bk;clear dG;revert listed a w I Fs
  induction fuel with
  | zero =>
   intro listed a w I Fs aa fV aQ aS bk bd dM dG;have:=wX (ops:=ops) (listed:=listed) (k:=j) EM (dG j (Nat.le_refl _)) fV;omega
  | succ fuel Xr =>
   intro listed a w I Fs aa fV aQ aS bk bd dM dG;have e0:=dG j (Nat.le_refl _);refine ⟨λaj=>absurd aj (PU ek fV j EM e0),λk hk=>?_⟩;obtain ⟨fq,ln,xm,_⟩:=yc hk;have zt:=(Array.getElem?_eq_some_iff.1 xm).1;have BH:=KG ek aS hk;have hr:∀ q,dt (listed.setIfInBounds k true) q=if q=k then true else dt listed q:=λq=>D0 (by omega)
   have VG:=wX (ops:=ops) (listed:=listed) (k:=k) (by omega) fq fV;rcases Nat.lt_trichotomy k j with EN | rfl | EN
   ·obtain ⟨e,N2,rfl⟩:=aA.entry aQ EN fq;refine PR ek aA b_ gN fH fV aS bk bd N2 hk λb' w' I' b5 cu cd dX qj=>?_;refine Xr _ b' w' I' b5 (by omega) (by simpa using fV) (λm hm da=>?_) (HH ek fV aS hk) dX (cd.1.trans bd) (λa2 hn af=>dM _ _ (h2.trans cu cd qj af)) λm hm=>?_
    ·grind
    grind
   ·have TU:=ZW (A:=λm=>(bf.getD k []).contains m) (S:=dt listed) aA b_ f_ λe he ek=>BH e.1 (by simpa using ek);have Ws:∀ r:Place,rs r->dh g (λm=>(bf.getD k []).contains m) acc r.root≠none:=λr aj=>by
     rw [mD]
     ·grind
     ·intro e he aL;have:=aA.fresh b_ e he
      grind
    have VO:=MW (S:=dt listed) he Ws U J (λe he=>⟨VT e he,h1 e he⟩) fr;have hle:ou (dh g (λm=>(bf.getD k []).contains m) acc) (dh g (dt listed) acc):=by
     intro t x J;rcases uU J with ⟨e,he,rfl,Ex,hex⟩ | ⟨r8,aP⟩
     ·rw [aA.at_mem b_ he,BH e.1 (by simpa using Ex)]; exact hex
     grind [mD]
    unfold wpOp;simp only [aY,(iz.mono hle hw).sound bk,if_true];refine .inl (VO w I a.tmps Fs (by rw [<- TU]; exact bk) a rfl bd _ _ λb' w' aE _ _=>?_);obtain ⟨cu,cd,I',b5,dX,qj⟩:=aE;refine Xs BB fuel (listed.setIfInBounds k true) b' w' I' b5 (by omega) (by simpa using fV) (λm hm da=>?_) (λm hm=>?_) (HH ek fV aS hk) ?_ (cd.1.trans bd) λa2 hn af=>dM _ _ (h2.trans cu cd qj af)
    ·rw [hr];split
     ·rfl
     ·rename_i ac7;cases vx:dt listed m with
      | true=>rfl
      | false =>
       exfalso;obtain ⟨e,N2,rfl⟩:=aA.entry aQ (show m<k by omega) vx
       grind
    ·grind
    ·have:dh g1 (dt (listed.setIfInBounds k true)) U=dh g1 (dt listed) U:=funext λt=>DC λe he _=>by
      grind
     grind
   grind
end
end Go.Own
namespace Go.Own
open Go
section
variable {P:Program}{N:c6}
def gf (P:Program) (N:c6) (c:Code) (g:aJ) (e:Exit) (g':aJ):Prop :=
 ∀ ⦃Q:Exit->Act->World->Prop⦄ ⦃a:Act⦄ ⦃w:World⦄ ⦃I:bc⦄ ⦃Fs:Nat->bc⦄,cD w I a.tmps g Fs->a.tmps.size=N.size->(∀ b' w',h2 N a w I Fs g' b' w'->Q e b' w')->c.wp P Q a w
theorem gf.skip {g:aJ}:gf P N .skip g .normal g:=λ_ _ _ _ _ bk _ dM=>wp_skip (dM _ _ ⟨rfl,hy.refl,_,_,bk,ko.refl _ _ _⟩)
theorem gf.ret {g:aJ}:gf P N .ret g .ret g:=λ_ _ _ _ _ bk _ dM=>wp_ret (dM _ _ ⟨rfl,hy.refl,_,_,bk,ko.refl _ _ _⟩)
theorem gf.exit {g:aJ}{id:Nat}:gf P N (.exit id) g (.exit id) g:=λ_ _ _ _ _ bk _ dM=>wp_exit (dM _ _ ⟨rfl,hy.refl,_,_,bk,ko.refl _ _ _⟩)
theorem gf.seq {x y:Code}{g g1 g':aJ}{e:Exit}(h1:gf P N x g .normal g1) (af:gf P N y g1 e g'):gf P N (.seq x y) g e g':=by
 intro Q a w I Fs bk bd dM;refine wp_seq (h1 bk bd λaF h9 aE=>?_);obtain ⟨cu,cd,I',b5,dX,b0⟩:=aE;exact af dX (cd.1.trans bd) λa2 hn n3=>dM _ _ (h2.trans cu cd b0 n3)
theorem gf.cond {c:Operand}{x y:Code}{g g':aJ}{e:Exit}{b:Bool}(aa:bs g c=some (.lit (.bool b))) (h:gf P N (if b then x else y) g e g'):gf P N (.cond c x y) g e g':=by
 intro Q a w I Fs bk bd dM;exact wp_cond (t:=b) (kf bk aa rfl).ht.1 (h bk bd dM)
theorem gf.MJ {c:Operand}{x y:Code}{g g':aJ}{e:Exit}(aa:bs g c=some (.lit (.bool true))) (h:gf P N x g e g'):gf P N (.cond c x y) g e g':=gf.cond aa h
theorem gf.MH {c:Operand}{x y:Code}{g g':aJ}{e:Exit}(aa:bs g c=some (.lit (.bool false))) (h:gf P N y g e g'):gf P N (.cond c x y) g e g':=gf.cond aa h
theorem gf.block {id:Nat}{c:Code}{g g':aJ}(h:gf P N c g .normal g'):gf P N (.block id c) g .normal g' :=
 λ_ _ _ _ _ bk bd dM=>wp_block (h bk bd λaF h9 aE=>dM aF h9 aE)
def DZ (P:Program) (c:Code) (Q:Exit->Act->World->Prop) (a:Act) (w:World):Prop :=
 ∀ (b:Frame) (k:List Item) (cs:List Frame),∃ e b' w',Q e b' w'/\Arrives P (lone (b.at a (.code c::.inLoop c::k)) cs w) b k cs e b' w'
def ti (P:Program) (N:c6) (c:Code) (g:aJ) (e:Exit) (g':aJ):Prop :=
 ∀ ⦃Q:Exit->Act->World->Prop⦄ ⦃a:Act⦄ ⦃w:World⦄ ⦃I:bc⦄ ⦃Fs:Nat->bc⦄,cD w I a.tmps g Fs->a.tmps.size=N.size->(∀ b' w',h2 N a w I Fs g' b' w'->Q e b' w')->DZ P c Q a w
theorem J9 {c:Code}{Q:Exit->Act->World->Prop}{a:Act}{w:World}(h:c.wp P (Exit.then (DZ P c Q) Q) a w):DZ P c Q a w:=by
 intro b k cs;obtain ⟨e,A',DH,bg,j9⟩:=h b (.inLoop c::k) cs;cases e with
 | normal =>
  obtain ⟨TY,Sr,Z2,Wn,Va⟩:=bg b k cs;exact ⟨TY,Sr,Z2,Wn,.of_steps (Steps.trans j9 (.one step_inLoop)) Va⟩
 | exit id=>exact ⟨_,A',DH,bg,.pass (x:=.inLoop c) rfl (λ_ _=>.inl (by simp)) j9⟩
 | goto l=>exact ⟨_,A',DH,bg,.pass (x:=.inLoop c) rfl (λ_ _=>.inl (by simp)) j9⟩
 | ret=>exact ⟨_,A',DH,bg,.pass (x:=.inLoop c) rfl (λ_ _=>.inl (by simp)) j9⟩
 | panic b4=>exact ⟨_,A',DH,bg,.pass (x:=.inLoop c) rfl (λ_ _=>.inl (by simp)) j9⟩
 | outgrown=>exact ⟨_,A',DH,bg,.pass (x:=.inLoop c) rfl (λ_ _=>.inl (by simp)) j9⟩
theorem gf.loop {c:Code}{g g':aJ}{e:Exit}(h:ti P N c g e g'):gf P N (.loop c) g e g':=by
 intro Q a w I Fs bk bd dM b k cs;obtain ⟨e,b',w',bg,j9⟩:=h bk bd dM b k cs;exact ⟨e,b',w',bg,.of_steps (.one step_loop) j9⟩
theorem ti.step {c:Code}{g g1 g':aJ}{e:Exit}(h1:gf P N c g .normal g1) (af:ti P N c g1 e g'):ti P N c g e g':=by
 intro Q a w I Fs bk bd dM;refine J9 (h1 bk bd λaF h9 aE=>?_);obtain ⟨cu,cd,I',b5,dX,b0⟩:=aE;exact af dX (cd.1.trans bd) λa2 hn n3=>dM _ _ (h2.trans cu cd b0 n3)
theorem ti.out {c:Code}{g g':aJ}{e:Exit}(h:gf P N c g e g') (he:e≠.normal):ti P N c g e g':=by
 intro Q a w I Fs bk bd dM;refine J9 (h bk bd λaF h9 aE=>?_);cases e with
 | normal=>exact absurd rfl he
 | _=>exact dM _ _ aE
theorem gf.region {id:Nat}{ops:Array Oper}{g g':aJ}(h:ow P N ops (List.range ops.size) g g'):gf P N (.region id ops false) g .normal g' :=
 λ_ _ _ _ _ bk bd dM=>wp_region (h.sound bk bd dM)
theorem gf.draw {id:Nat}{ops:Array Oper}{bf:List (List Nat)}{g g':aJ}(hm:P.follows .mixedOrders=true) (ek:o' ops bf=true) (h:sv P N ops bf 0 [] g g'):gf P N (.region id ops true) g .normal g':=by
 intro Q a w I Fs bk bd dM;refine wp_region_any hm ?_;have dX:cD w.drew I a.tmps g Fs:=bk.world (λ_ _ _=>rfl) (λ_ _=>rfl) (Nat.le_refl _);have hJ:∀ k,dt (Array.replicate ops.size false) k=false:=by
  intro k;unfold dt;rcases Nat.lt_or_ge k ops.size with h | h
  ·simp [h]
  grind
 refine h.sound ek .nil ops.size (Array.replicate ops.size false) a w.drew I Fs ?_ (by simp) (λk hk=>by omega) (λk _=>hJ k) (λk hk=>by rw [hJ] at hk; cases hk) dX bd λb' w' aE=>dM _ _ ?_
 ·grind [hg]
 ·obtain ⟨cu,cd,I',b5,h4,b0⟩:=aE;exact ⟨cu,cd,I',b5,h4,⟨⟨b0.eR.os,b0.eR.tape,b0.eR.output,b0.eR.size,b0.eR.block,b0.eR.dL,Nat.le_trans (Nat.le_succ _) b0.eR.w2⟩,b0.more,b0.new,b0.own⟩⟩
inductive o_:ab->ab->Prop
 | refl {x:ab}:o_ x x
 | dead {x:ab}(h:kH x\/cS x):o_ x .dead
 | pH {z:Nat}:o_ .aN (.own z 0 [])
 | pG {z:Nat}:o_ .aN (.bn z 0 [])
 | obj {cs cs':List ab}(ai:cs'.length=cs.length) (h:∀ (k:Nat) (x y:ab),cs[k]?=some x->cs'[k]?=some y->o_ x y):o_ (.obj cs) (.obj cs')
 | own {z n:Nat}{cs cs':List ab}(ai:cs'.length=cs.length) (h:∀ (k:Nat) (x y:ab),cs[k]?=some x->cs'[k]?=some y->o_ x y):o_ (.own z n cs) (.own z n cs')
theorem R.eY {w:World}{I:bc}{ρ:ab->Value->Prop}{x x':ab}(h:o_ x x'):∀ {v:Value}{F:bc},R w I ρ x v F->∃ c_,R w I ρ x' v c_/\∀ c,c_ c->F c:=by
 induction h with
 | refl=>exact λa1=>⟨_,a1,λ_ h=>h⟩
 | dead=>exact λa1=>⟨cv,.dead λ_ h=>h,λ_ h=>h.elim⟩
 | pH =>
  intro v F a1;rw [a1.sg];exact ⟨cv,.own (e:=0) (us:=[]) (Fs:=λ_=>cv) ⟨by simp,.inl ⟨rfl,rfl⟩⟩ rfl (by simp) (by simp) (λ_ _ _ _ _ h=>h.elim) (λ_ _ _ h=>h.elim) λc=>⟨λh=>h.elim,λh=>h.elim (λh=>by simp [Value.ownBlock] at h) λ⟨_,_,h⟩=>h⟩,λ_ h=>h.elim⟩
 | pG=>intro v F a1; rw [a1.sg]; exact ⟨cv,.hD λ_ h=>h,λ_ h=>h.elim⟩
 | @obj cs cs' ai _ aU =>
  intro v F a1;cases a1 with
  | ref J=>simp [ab.isRef] at J
  | @obj _ b e arr bL _ aY hQ h1 aj aS au aO =>
   have:∀ k,∃ tj:bc,k<cs.length->(∀ (x:ab) (u:Value),cs'[k]?=some x->arr[k]?=some u->R w I ρ x u tj)/\∀ c,tj c->bL k c:=by
    intro k;by_cases hk:k<cs.length
    ·have J:=List.getElem?_eq_getElem hk;have av:cs'[k]?=some (cs'[k]'(by omega)):=List.getElem?_eq_getElem (by omega);have hu:arr[k]?=some (arr[k]'(by omega)):=Array.getElem?_eq_getElem (by omega);obtain ⟨c_,h1,af⟩:=aU k _ _ J av (aj k _ _ J hu);refine ⟨c_,λ_=>⟨λx u gg jH=>?_,af⟩⟩
     grind
    ·exact ⟨cv,λh=>absurd h hk⟩
   obtain ⟨tj,tO⟩:=Classical.axiomOfChoice this;refine ⟨_,.obj (Fs:=tj) aY (by omega) h1 (λk x u J hu=>(tO k (by rw [<- ai]; exact (List.getElem?_eq_some_iff.1 J).1)).1 x u J hu) (λj k c ag hk h aL=>aS j k c (by omega) (by omega) ((tO j (by omega)).2 c h) ((tO k (by omega)).2 c aL)) (λk hk h=>au k (by omega) ((tO k (by omega)).2 b h)) (λc=>Iff.rfl),λc aa=>?_⟩
   grind
 | @own z n cs cs' ai _ aU =>
  intro v F a1;cases a1 with
  | ref J=>simp [ab.isRef] at J
  | @own _ _ _ _ e us bL _ aY hQ h1 aj aS au aO =>
   have:∀ k,∃ tj:bc,k<cs.length->(∀ (x:ab) (u:Value),cs'[k]?=some x->us[k]?=some u->R w I ρ x u tj)/\∀ c,tj c->bL k c:=by
    intro k;by_cases hk:k<cs.length
    ·have J:=List.getElem?_eq_getElem hk;have av:cs'[k]?=some (cs'[k]'(by omega)):=List.getElem?_eq_getElem (by omega);have hu:us[k]?=some (us[k]'(by omega)):=List.getElem?_eq_getElem (by omega);obtain ⟨c_,h1,af⟩:=aU k _ _ J av (aj k _ _ J hu);refine ⟨c_,λ_=>⟨λx u gg jH=>?_,af⟩⟩
     grind
    ·exact ⟨cv,λh=>absurd h hk⟩
   obtain ⟨tj,tO⟩:=Classical.axiomOfChoice this;refine ⟨_,.own (Fs:=tj) aY (by omega) h1 (λk x u J hu=>(tO k (by rw [<- ai]; exact (List.getElem?_eq_some_iff.1 J).1)).1 x u J hu) (λj k c ag hk h aL=>aS j k c (by omega) (by omega) ((tO j (by omega)).2 c h) ((tO k (by omega)).2 c aL)) (λk c hk h=>au k c (by omega) ((tO k (by omega)).2 c h)) (λc=>Iff.rfl),λc aa=>?_⟩
   grind
structure j4 (g1 g2:aJ):Prop where
 sub:∀ t x,g2 t=some x->∃ y,g1 t=some y/\o_ y x
 bW:∀ t x,g2 t=some x->di g2 x
 fA:∀ t z q n m new,g2 t≠some (.bM z q n m new)
theorem cD.eY {w:World}{I:bc}{T:Array Value}{g1 g2:aJ}{Fs:Nat->bc}(h:cD w I T g1 Fs) (hk:j4 g1 g2):∃ b5,cD w I T g2 b5/\∀ t c,b5 t c->Fs t c:=by
 have:∀ t,∃ c_:bc,(∀ x,g2 t=some x->∃ v,T[t]?=some v/\R w I (dR w T g2) x v c_)/\(∀ c,c_ c->Fs t c)/\(g2 t=none->∀ c,¬ c_ c):=by
  intro t;cases J:g2 t with
  | none=>exact ⟨cv,by simp,λ_ h=>h.elim,λ_ _ h=>h⟩
  | some x =>
   obtain ⟨y,av,hw⟩:=hk.sub t x J;obtain ⟨v,hv,a1⟩:=h.mC.rel t y av;have lf:∀ z q n m new,y≠.bM z q n m new:=by
    rintro z q n m new rfl;cases hw with
    | refl=>exact hk.fA _ _ _ _ _ _ J
    | dead bY=>rcases bY with bY | bY <;> cases bY
   obtain ⟨c_,jE,pf⟩:=R.eY hw (a1.gF lf);exact ⟨c_,λx' gg=>by cases gg; exact ⟨v,hv,jE.bW (hk.bW t x J)⟩,pf,by simp⟩
 obtain ⟨b5,pg⟩:=Classical.axiomOfChoice this;refine ⟨b5,⟨λt x J=>?_,λt aw=>(pg t).2.2 aw,λt t' c h1 af=>h.eK _ _ _ ((pg t).2.1 c h1) ((pg t').2.1 c af),λt c aa=>h.bn _ _ ((pg t).2.1 c aa),h.lt,λt t' z p n m new _ _ _ _ h1=>absurd h1 (hk.fA _ _ _ _ _ _)⟩,λt=>(pg t).2.1⟩;obtain ⟨v,hv,a1⟩:=(pg t).1 x J;exact ⟨v,hv,.tree a1⟩
theorem gf.weaken {c:Code}{g g1 g':aJ}{e:Exit}(hk:j4 g g1) (h:gf P N c g1 e g'):gf P N c g e g':=by
 intro Q a w I Fs bk bd dM;obtain ⟨b5,dX,gE⟩:=bk.eY hk;exact h dX bd λb' w' aE=>dM _ _ (h2.trans rfl hy.refl ⟨Fr.refl _ _,λ_ h=>h,λ_ h=>.inl h,λc ⟨t,aa⟩=>.inl ⟨t,gE t c aa⟩⟩ aE)
theorem ti.weaken {c:Code}{g g1 g':aJ}{e:Exit}(hk:j4 g g1) (h:ti P N c g1 e g'):ti P N c g e g':=by
 intro Q a w I Fs bk bd dM;obtain ⟨b5,dX,gE⟩:=bk.eY hk;exact h dX bd λb' w' aE=>dM _ _ (h2.trans rfl hy.refl ⟨Fr.refl _ _,λ_ h=>h,λ_ h=>.inl h,λc ⟨t,aa⟩=>.inl ⟨t,gE t c aa⟩⟩ aE)
end
end Go.Own
namespace Go.Own
open Go
inductive A6 (P:Program) (g:aJ):ResultVar->ab->Prop
 | tmp {t:Nat}{y:ab}(h:bs g (.tmp t)=some y):A6 P g (.tmp t) y
 | cell {a:Nat}{t ty:TypeId}{y:ab}(h:c8 P g (.load t (.tmp a)) ty y):A6 P g (.cell a t) y
inductive rJ (P:Program) (g:aJ):List ResultVar->List ab->Prop
 | nil:rJ P g [] []
 | cons {r:ResultVar}{rs:List ResultVar}{y:ab}{ys:List ab}(h:A6 P g r y) (aw:rJ P g rs ys):rJ P g (r::rs) (y::ys)
def qz:List ab->ab
 | [x]=>x
 | l=>.bX l
def yd:List Value->Value
 | [x]=>x
 | l=>.tuple l.toArray
def wh (tmps:Array Value):ResultVar->Sem Value
 | .tmp t=>pure (tmps.getD t undef)
 | .cell a t=>do loadVar t (<- asAddr (tmps.getD a undef))
section
variable {P:Program}{w:World}{I:bc}{g:aJ}{Fs:Nat->bc}
theorem A6.run {a:Act}(h:cD w I a.tmps g Fs) {r:ResultVar}{y:ab}(aj:A6 P g r y):∃ v,(wh a.tmps r).run P w=.ok v w/\R w I (dR w a.tmps g) y v cv:=by
 cases aj with
 | @tmp t y h1=>exact ⟨_,rfl,kf h h1 rfl⟩
 | @cell a0 t ty y h1 =>
  obtain ⟨v, hv, a1⟩ := c8.sound h rfl (o := { dst := none, op := .load t (.tmp a0), type := ty, pos := "", after := #[], guard := none }) h1;refine ⟨v,?_,a1⟩;have he:a.eval (.tmp a0)=a.tmps.getD a0 undef:=rfl;simp only [execOp,he] at hv;cases aa:a.tmps.getD a0 undef with
  | pointer ad =>
   cases ad with
   | some ad =>
    rw [aa] at hv;simp only [Instr.loadAt,Instr.sureAddr] at hv;simp only [wh,aa,asAddr];have ar:(pure ad >>= λx=>loadVar t x:Sem Value)=loadVar t ad:=by simp
    rw [ar];revert hv;generalize bg:loadVar t ad=q;intro hv;simp [bg] at hv;cases EW:q.run P w with
    | ok x hn=>rw [EW] at hv; simp at hv; rw [hv.1,hv.2]
    | halt e hn=>rw [EW] at hv; simp at hv
   | none=>rw [aa] at hv; simp [Instr.loadAt,Instr.sureAddr] at hv
  | _=>rw [aa] at hv; simp [Instr.loadAt,Instr.sureAddr] at hv
theorem P' {f:ResultVar->Sem Value}:∀ (l:List ResultVar) (vs:List Value),l.length=vs.length->(∀ (k:Nat) (r:ResultVar) (v:Value),l[k]?=some r->vs[k]?=some v->(f r).run P w=.ok v w)->(l.mapM f).run P w=.ok vs w
 | [],[],_,_=>rfl
 | r::l,v::vs,ai,h=>by
  have aT:=h 0 r v rfl rfl;have h1:=P' l vs (by simpa using ai) λk r v aj hv=>h (k+1) r v (by simpa using aj) (by simpa using hv);simp [List.mapM_cons,aT,h1]
 | [],_::_,ai,_=>by simp at ai
 | _::_,[],ai,_=>by simp at ai
theorem YS {fn:Func}{tmps:Array Value}{vs:List Value}(ai:fn.results.toList.length=vs.length) (h:∀ (k:Nat) (r:ResultVar) (v:Value),fn.results.toList[k]?=some r->vs[k]?=some v->(wh tmps r).run P w=.ok v w):(results fn tmps).run P w=.ok (yd vs) w:=by
 have h1:=P' fn.results.toList vs ai h;have af:fn.results.mapM (wh tmps)=List.toArray <$> fn.results.toList.mapM (wh tmps):=Array.mapM_eq_mapM_toList;have aI:(fn.results.mapM (wh tmps)).run P w=.ok vs.toArray w:=by rw [af]; simp [h1]
 have bD:results fn tmps=(do let vs <- fn.results.mapM (wh tmps); pure (if h:vs.size=1 then vs[0] else .tuple vs)):=by
  unfold results;congr 1
 rw [bD];simp only [Sem.run_bind,aI]
 match vs with
 | []=>rfl
 | [x]=>rfl
 | x::y::l=>simp [yd]
theorem rJ.length {g:aJ}{rs:List ResultVar}{ys:List ab}(h:rJ P g rs ys):rs.length=ys.length:=by
 induction h with
 | nil=>rfl
 | cons _ _ aU=>simp [aU]
theorem rJ.run {a:Act}(h:cD w I a.tmps g Fs) {rs:List ResultVar}{ys:List ab}(aj:rJ P g rs ys):∃ vs:List Value,rs.length=vs.length/\(∀ (k:Nat) (r:ResultVar) (v:Value),rs[k]?=some r->vs[k]?=some v->(wh a.tmps r).run P w=.ok v w) /\
  ∀ (k:Nat) (y:ab) (v:Value),ys[k]?=some y->vs[k]?=some v->R w I (dR w a.tmps g) y v cv:=by
 induction aj with
 | nil=>exact ⟨[],rfl,by simp,by simp⟩
 | cons h1 _ aU =>
  obtain ⟨v,hv,a1⟩:=h1.run h;obtain ⟨vs,ai,af,aI⟩:=aU;refine ⟨v::vs,by simp [ai],λk r u aj hu=>?_,λk y u av hu=>?_⟩
  ·cases k with
   | zero=>simp at aj hu; subst aj hu; exact hv
   | succ k=>exact af k r u (by simpa using aj) (by simpa using hu)
  ·cases k with
   | zero=>simp at av hu; subst av hu; exact a1
   | succ k=>exact aI k y u (by simpa using av) (by simpa using hu)
theorem Hand.qz {ρ:ab->Value->Prop}{Fs:Nat->bc}{xs:List ab}{vs:List Value}{dC:Nat->bc}(h:Hand w I ρ Fs xs vs dC) (aE:∀ x∈xs,cS x) (ρ':ab->Value->Prop):R w I ρ' (qz xs) (yd vs) (λc=>∃ k,k<xs.length/\dC k c)/\cS (qz xs):=by
 have bX:R w I ρ' (.bX xs) (.tuple vs.toArray) (λc=>∃ k,k<xs.length/\dC k c) :=
  .bX (by simpa using h.len) (λk x u J hu=>(h.rel k x u J (by simpa using hu)).bo (aE x (List.mem_of_getElem? J))) h.eK λc=>Iff.rfl
 match xs,vs,h,aE,bX with
 | [],[],_,_,bX=>exact ⟨bX,.bX (by simp)⟩
 | [x],[v],h,aE,_ =>
  refine ⟨((h.rel 0 x v rfl rfl).bo (aE x (by simp))).zc λc=>⟨λaa=>⟨0,by simp,aa⟩,λ⟨k,hk,aa⟩=>?_⟩,aE x (by simp)⟩;have:k=0:=by simpa using hk
  subst this; exact aa
 | x::y::l,v::u::m,_,aE,bX=>exact ⟨bX,.bX aE⟩
 | [],_::_,h,_,_=>have:=h.len; simp at this
 | _::_,[],h,_,_=>have:=h.len; simp at this
 | [_],_::_::_,h,_,_=>have:=h.len; simp at this
 | _::_::_,[_],h,_,_=>have:=h.len; simp at this
structure Leaves (P:Program) (N:c6) (rs:List ResultVar) (g':aJ) (n:Nat) (outs:List (Option ab)) (res:ab):Prop where
 ex:∃ ys xs g1,rJ P g' rs ys/\Take g' ys xs g1/\res=qz xs/\∀ (k:Nat) (x:ab),outs[k]?=some (some x)->g1 k=some x/\cS x/\k∈N.pins
 len:outs.length=n
theorem cD.more {T:Array Value}(h:cD w I T g Fs) {T':Array Value}(dK:∀ t,g t≠none->T'[t]?=T[t]?):cD w I T' g Fs:=by
 refine ⟨λt x J=>?_,h.kW,h.eK,h.bn,h.lt,h.rm⟩;obtain ⟨u,hu,a1⟩:=h.rel t x J;exact ⟨u,by rw [dK t (by rw [J]; simp)]; exact hu,h.w5 dK (λ_ _ _=>rfl) (λ_ _=>rfl) (λ_ h=>h) (λ_ _ h=>h) a1 λ_ _=>rfl⟩
end
end Go.Own
namespace Go.Own
open Go
section
variable {P:Program}{N:c6}
def W (P:Program) (N:c6) (c:Code) (g:aJ) (Φ:Exit->aJ->Prop):Prop :=
 ∀ ⦃Q:Exit->Act->World->Prop⦄ ⦃a:Act⦄ ⦃w:World⦄ ⦃I:bc⦄ ⦃Fs:Nat->bc⦄,cD w I a.tmps g Fs->a.tmps.size=N.size->(∀ e g' b' w',Φ e g'->h2 N a w I Fs g' b' w'->Q e b' w')->c.wp P Q a w
def oX (Ψ:aJ->Prop) (Φ:Exit->aJ->Prop):Exit->aJ->Prop
 | .normal,g=>Ψ g
 | e,g=>Φ e g
def l6 (id:Nat) (Φ:Exit->aJ->Prop):Exit->aJ->Prop
 | .exit k,g=>if k=id then Φ .normal g else Φ (.exit k) g
 | e,g=>Φ e g
theorem h2.refl {a:Act}{w:World}{I:bc}{g:aJ}{Fs:Nat->bc}(h:cD w I a.tmps g Fs):h2 N a w I Fs g a w:=⟨rfl,hy.refl,_,_,h,ko.refl _ _ _⟩
theorem gf.w {c:Code}{g g':aJ}{e:Exit}{Φ:Exit->aJ->Prop}(h:gf P N c g e g') (nG:Φ e g'):W P N c g Φ :=
 λ_ _ _ _ _ bk bd dM=>h bk bd λb' w' aE=>dM _ _ b' w' nG aE
theorem W.mono {c:Code}{g:aJ}{Φ oo:Exit->aJ->Prop}(h:W P N c g Φ) (nG:∀ e g',Φ e g'->oo e g'):W P N c g oo :=
 λ_ _ _ _ _ bk bd dM=>h bk bd λ_ _ b' w' h1 aE=>dM _ _ b' w' (nG _ _ h1) aE
theorem W.skip {g:aJ}{Φ:Exit->aJ->Prop}(h:Φ .normal g):W P N .skip g Φ:=gf.skip.w h
theorem W.ret {g:aJ}{Φ:Exit->aJ->Prop}(h:Φ .ret g):W P N .ret g Φ:=gf.ret.w h
theorem W.exit {g:aJ}{id:Nat}{Φ:Exit->aJ->Prop}(h:Φ (.exit id) g):W P N (.exit id) g Φ:=gf.exit.w h
theorem W.seq {x y:Code}{g:aJ}{Φ:Exit->aJ->Prop}(h:W P N x g (oX (λg1=>W P N y g1 Φ) Φ)):W P N (.seq x y) g Φ:=by
 intro Q a w I Fs bk bd dM;refine wp_seq (h bk bd λe g1 aF h9 h1 aE=>?_);cases e with
 | normal =>
  obtain ⟨cu,cd,I',b5,dX,b0⟩:=aE;exact h1 dX (cd.1.trans bd) λtI g2 a2 hn af n3=>dM _ _ _ _ af (h2.trans cu cd b0 n3)
 | _=>exact dM _ _ _ _ h1 aE
theorem W.cond {c:Operand}{x y:Code}{g:aJ}{Φ:Exit->aJ->Prop}{b:Bool}(aa:bs g c=some (.lit (.bool b))) (h:W P N (if b then x else y) g Φ):W P N (.cond c x y) g Φ :=
 λ_ _ _ _ _ bk bd dM=>wp_cond (t:=b) (kf bk aa rfl).ht.1 (h bk bd dM)
theorem W.MJ {c:Operand}{x y:Code}{g:aJ}{Φ:Exit->aJ->Prop}(aa:bs g c=some (.lit (.bool true))) (h:W P N x g Φ):W P N (.cond c x y) g Φ:=W.cond aa h
theorem W.MH {c:Operand}{x y:Code}{g:aJ}{Φ:Exit->aJ->Prop}(aa:bs g c=some (.lit (.bool false))) (h:W P N y g Φ):W P N (.cond c x y) g Φ:=W.cond aa h
theorem W.block {id:Nat}{c:Code}{g:aJ}{Φ:Exit->aJ->Prop}(h:W P N c g (l6 id Φ)):W P N (.block id c) g Φ:=by
 intro Q a w I Fs bk bd dM;refine wp_block (h bk bd λe g1 aF h9 h1 aE=>?_);cases e with
 | exit k =>
  have af:if k=id then Φ .normal g1 else Φ (.exit k) g1:=h1
  grind [Exit.inBlock]
 | _=>exact dM _ _ _ _ h1 aE
def o9 (P:Program) (N:c6) (c:Code) (g:aJ) (Φ:Exit->aJ->Prop):Prop :=
 ∀ ⦃Q:Exit->Act->World->Prop⦄ ⦃a:Act⦄ ⦃w:World⦄ ⦃I:bc⦄ ⦃Fs:Nat->bc⦄,cD w I a.tmps g Fs->a.tmps.size=N.size->(∀ e g' b' w',Φ e g'->h2 N a w I Fs g' b' w'->Q e b' w')->DZ P c Q a w
theorem W.loop {c:Code}{g:aJ}{Φ:Exit->aJ->Prop}(h:o9 P N c g Φ):W P N (.loop c) g Φ:=by
 intro Q a w I Fs bk bd dM b k cs;obtain ⟨e,b',w',bg,j9⟩:=h bk bd dM b k cs;exact ⟨e,b',w',bg,.of_steps (.one step_loop) j9⟩
theorem o9.step {c:Code}{g:aJ}{Φ:Exit->aJ->Prop}(h:W P N c g (oX (λg1=>o9 P N c g1 Φ) Φ)):o9 P N c g Φ:=by
 intro Q a w I Fs bk bd dM;refine J9 (h bk bd λe g1 aF h9 h1 aE=>?_);cases e with
 | normal =>
  obtain ⟨cu,cd,I',b5,dX,b0⟩:=aE;exact h1 dX (cd.1.trans bd) λtI g2 a2 hn af n3=>dM _ _ _ _ af (h2.trans cu cd b0 n3)
 | _=>exact dM _ _ _ _ h1 aE
theorem W.weaken {c:Code}{g g1:aJ}{Φ:Exit->aJ->Prop}(hk:j4 g g1) (h:W P N c g1 Φ):W P N c g Φ:=by
 intro Q a w I Fs bk bd dM;obtain ⟨b5,dX,gE⟩:=bk.eY hk;exact h dX bd λe g' b' w' h1 aE=>dM _ _ _ _ h1 (h2.trans rfl hy.refl ⟨Fr.refl _ _,λ_ h=>h,λ_ h=>.inl h,λc ⟨t,aa⟩=>.inl ⟨t,gE t c aa⟩⟩ aE)
theorem o9.weaken {c:Code}{g g1:aJ}{Φ:Exit->aJ->Prop}(hk:j4 g g1) (h:o9 P N c g1 Φ):o9 P N c g Φ:=by
 intro Q a w I Fs bk bd dM;obtain ⟨b5,dX,gE⟩:=bk.eY hk;exact h dX bd λe g' b' w' h1 aE=>dM _ _ _ _ h1 (h2.trans rfl hy.refl ⟨Fr.refl _ _,λ_ h=>h,λ_ h=>.inl h,λc ⟨t,aa⟩=>.inl ⟨t,gE t c aa⟩⟩ aE)
theorem W.out {c:Code}{g:aJ}{Φ oo:Exit->aJ->Prop}(h:W P N c g Φ) (nG:∀ e g',Φ e g'->∃ g2,j4 g' g2/\oo e g2):W P N c g oo:=by
 intro Q a w I Fs bk bd dM;refine h bk bd λe g' b' w' h1 aE=>?_;obtain ⟨g2,hk,af⟩:=nG e g' h1;obtain ⟨cu,cd,I',b5,dX,b0⟩:=aE;obtain ⟨iV,h4,gE⟩:=dX.eY hk;exact dM _ _ _ _ af ⟨cu,cd,I',iV,h4,b0.trans ⟨Fr.refl _ _,λ_ h=>h,λ_ h=>.inl h,λc ⟨t,aa⟩=>.inl ⟨t,gE t c aa⟩⟩⟩
def LL (P:Program) (N:c6) (ops:Array Oper) (is:List Nat) (g:aJ) (K:aJ->Prop):Prop:=∃ g',ow P N ops is g g'/\K g'
theorem W.region {id:Nat}{ops:Array Oper}{g:aJ}{Φ:Exit->aJ->Prop}(h:LL P N ops (List.range ops.size) g (Φ .normal)):W P N (.region id ops false) g Φ:=by
 obtain ⟨g',aj,nG⟩:=h;exact (gf.region aj).w nG
theorem bR.XZ {f:FuncId}{fn:Func}{c:Code}{args:List ab}{outs:List (Option ab)}{res:ab}{N:c6}(aW:P.funcs[f]?=some fn) (au:fn.body=some c) (bd:fn.ntmps=N.size) (aR:args.length<=N.size)
  (hlen:outs.length=args.length) (hw:W P N c (p7 args) λe g'=>(e=.normal\/e=.ret)/\Leaves P N fn.results.toList g' args.length outs res):bR P f args outs res:=by
 refine ⟨hlen,λw I vs Fs adj bk=>calls_of_wp aW au ?_⟩;have fV:({ tmps:=vs.toArray++Array.replicate (fn.ntmps - vs.toArray.size) undef,defers:=[] }:Act).tmps.size=N.size:=by
  grind
 have mv:∀ t,t<vs.length->(vs.toArray++Array.replicate (fn.ntmps - vs.toArray.size) undef)[t]?=vs.toArray[t]?:=by
  grind
 refine hw (bk.more (T':=vs.toArray++Array.replicate (fn.ntmps - vs.toArray.size) undef) λt aw=>mv t ?_) fV λe g' b' w' ⟨he,aY⟩ aE=>?_
 ·grind [p7]
 obtain ⟨aS,hold,I',b5,dX,b0⟩:=aE;obtain ⟨ys,xs,g1,Oy,aw,rfl,r8⟩:=aY.ex;obtain ⟨us,n5,hK,mR⟩:=Oy.run dX;have E4:ys.length=us.length:=by rw [<- Oy.length,n5]
 obtain ⟨fY,dC,iZ,iK,hJ⟩:=aw.sound dX.mC (⟨E4,λk x u J hu=>(mR k x u J hu).frame (λ_ _=>rfl) (λ_ h=>h) (λ_ _ h=>h.1) λ_ _=>rfl,λ_ _ _ _ _ h=>h.elim,λ_ _ _ _ h=>h.elim,λ_ _ _ h=>h.elim⟩:Hand w' I' (fC w' b'.tmps) b5 ys us λ_=>cv);have gE:∀ c,lx fY xs.length dC c->∃ t,b5 t c:=by
  intro c aa;rcases hJ c aa with h | ⟨_,_,h⟩
  all_goals grind
 have VR:∃ iV,cD w' I' (vs++[yd us]).toArray (kY outs (qz xs)) iV/\∀ t c,iV t c->∃ t,b5 t c:=by
  classical
  refine ⟨λt=>if t=outs.length then (λc=>∃ k,k<xs.length/\dC k c) else if ∃ x,outs[t]?=some (some x) then fY t else cv,⟨λt x J=>?_,λt EY c aa=>?_,λt t' c h1 af=>?_,λt c aa=>?_,dX.lt,λt t' z p n m new bA cB m' c0 h1 af=>?_⟩,λt c aa=>?_⟩
  ·unfold kY at J;by_cases aT:t=outs.length
   ·rw [if_pos aT] at J;cases J;subst aT;refine ⟨yd us,?_,.tree ?_⟩
    ·grind
    ·simpa using (iK.qz aw.FD _).1
   ·rw [if_neg aT] at J;have gg:outs[t]?=some (some x):=by
     grind
    obtain ⟨h1,af,aI⟩:=r8 t x gg;have WH:t<vs.length:=by
     grind
    obtain ⟨v,hv,a1⟩:=iZ.rel t x h1;refine ⟨v,?_,?_⟩
    ·rw [hold.2 t aI] at hv
     grind
    ·simp only [aT,if_false];rw [if_pos ⟨x,gg⟩];exact .tree ((a1.gF (by rintro z p n m new rfl; cases af)).bo af)
  ·grind [kY]
  ·by_cases aT:t=outs.length <;> by_cases HY:t'=outs.length <;> simp only [aT,HY,if_true,if_false] at h1 af
   ·grind
   ·split at af
    ·obtain ⟨k,hk,aa⟩:=h1;exact absurd af (iK.off k t' c hk aa)
    grind
   ·split at h1
    ·obtain ⟨k,hk,aa⟩:=af;exact absurd h1 (iK.off k t c hk aa)
    grind
   ·split at h1
    ·split at af
     ·exact iZ.eK _ _ _ h1 af
     grind
    grind
  ·by_cases aT:t=outs.length <;> simp only [aT,if_true,if_false] at aa
   ·obtain ⟨k,hk,aa⟩:=aa;exact iK.bn k c hk aa
   ·split at aa
    ·exact iZ.bn _ _ aa
    grind
  ·grind [kY,cS]
  ·by_cases aT:t=outs.length <;> simp only [aT,if_true,if_false] at aa
   ·obtain ⟨k,hk,aa⟩:=aa;exact gE c (.inr ⟨k,hk,aa⟩)
   ·split at aa
    ·exact gE c (.inl ⟨t,aa⟩)
    grind
 obtain ⟨iV,h4,WE⟩:=VR;have Wl:b'.defers=[]/\∃ v,(results fn b'.tmps).run P w'=.ok v w'/\∃ fM I' b5,Ending.returned v=.returned fM/\cD w' I' (vs++[fM]).toArray (kY outs (qz xs)) b5/\ko w I (λc=>∃ t,Fs t c) w' I' (λc=>∃ t,b5 t c) :=
  ⟨aS,yd us,YS n5 hK,yd us,I',iV,rfl,h4,b0.trans ⟨Fr.refl _ _,λ_ h=>h,λ_ h=>.inl h,λc ⟨t,aa⟩=>.inl (WE t c aa)⟩⟩
 rcases he with rfl | rfl <;> exact Wl
end
end Go.Own
namespace Go.Own
open Go
def get:List (Nat × ab)->aJ
 | [],_=>none
 | (s,x)::l,t=>if t=s then some x else get l t
inductive Rd (g:aJ):Operand->ab->Prop
 | lit {t:Nat}{v:Value}(h:g t=some (.lit v)):Rd g (.tmp t) (.lit v)
 | k {v:Value}(h:ofConst v=.lit v):Rd g (.const v) (.lit v)
 | xM:Rd g (.const (.slice none 0 0)) .aN
 | J4 {v:Value}{cs:List ab}(h:ofConst v=.agg cs):Rd g (.const v) (.agg cs)
 | aN {t:Nat}(h:g t=some .aN):Rd g (.tmp t) .aN
 | bn {t z n:Nat}{cs:List ab}(h:g t=some (.bn z n cs)):Rd g (.tmp t) (.bn z n cs)
 | own {t z n:Nat}{cs:List ab}(h:g t=some (.own z n cs)):Rd g (.tmp t) (.a6 z ⟨t,[]⟩ n)
 | obj {t:Nat}{c:ab}{cs:List ab}(h:g t=some (.obj (c::cs))):Rd g (.tmp t) (.ptr ⟨t,[]⟩ 0)
 | cG {t:Nat}{cs:List ab}(h:g t=some (.cG cs)):Rd g (.tmp t) (.cG cs)
 | ptr {t k:Nat}{p:Place}(h:g t=some (.ptr p k)):Rd g (.tmp t) (.ptr p k)
 | a6 {t z n:Nat}{p:Place}(h:g t=some (.a6 z p n)):Rd g (.tmp t) (.a6 z p n)
 | sub {t z lo n:Nat}{p:Place}(h:g t=some (.sub z p lo n)):Rd g (.tmp t) (.sub z p lo n)
 | bM {t z n m:Nat}{p:Place}{new:List ab}(h:g t=some (.bM z p n m new)):Rd g (.tmp t) (.a6 z ⟨t,[]⟩ (n+m))
 | agg {t:Nat}{cs cs':List ab}(h:g t=some (.agg cs)) (aa:(cs.mapIdx λi x=>gq 1 (Place.push ⟨t,[]⟩ i) x)=cs'):Rd g (.tmp t) (.agg cs')
 | bX {t:Nat}{cs cs':List ab}(h:g t=some (.bX cs)) (aa:(cs.mapIdx λi x=>gq 1 (Place.push ⟨t,[]⟩ i) x)=cs'):Rd g (.tmp t) (.bX cs')
 | func {f:FuncId}:Rd g (.func f) (.cU (.func f) [] [])
 | cU {t:Nat}{fn:Fn}{cs:List ab}(h:g t=some (.cU fn [] cs)):Rd g (.tmp t) (.cU fn [] cs)
 | mp {t:Nat}{q:Array MapEntry->Nat->Prop}(h:g t=some (.mp q)):Rd g (.tmp t) (.gw ⟨t,[]⟩)
 | gw {t:Nat}{p:Place}(h:g t=some (.gw p)):Rd g (.tmp t) (.gw p)
 | imp {t:Nat}{q:Array MapEntry->Nat->Prop}(h:g t=some (.imp q)):Rd g (.tmp t) (.imp q)
theorem Rd.bs {g:aJ}{x:Operand}{y:ab}(h:Rd g x y):bs g x=some y:=by
 cases h with
 | agg h aa=>subst aa; simp [Own.bs,h,rp,gq]
 | bX h aa=>subst aa; simp [Own.bs,h,rp,gq]
 | k h=>simp [Own.bs,h]
 | xM=>rfl
 | J4 h=>simp [Own.bs,h]
 | func=>rfl
 | _ h=>simp [Own.bs,h,rp,gq]
section
variable {P:Program}{N:c6}{ops:Array Oper}{g:aJ}{K:aJ->Prop}{l:List Oper}
def aC (P:Program) (N:c6) (ops:Array Oper) (l:List Oper) (g:aJ) (K:aJ->Prop):Prop:=∀ i,ops.toList.drop i=l->LL P N ops (List.range' i l.length) g K
theorem W.AB {id:Nat}{l:List Oper}{g:aJ}{Φ:Exit->aJ->Prop}(h:aC P N l.toArray l g (Φ .normal)):W P N (.region id l.toArray false) g Φ:=by
 refine W.region ?_;have:=h 0 (by simp)
 grind [List.range_eq_range']
theorem aC.nil (h:K g):aC P N ops [] g K:=λ_ _=>⟨g,.nil,h⟩
theorem drop_cons {i:Nat}{o:Oper}(h:ops.toList.drop i=o::l):ops[i]?=some o/\ops.toList.drop (i+1)=l:=by
 have h1:(ops.toList.drop i)[0]?=some o:=by rw [h]; rfl
 rw [List.getElem?_drop] at h1;refine ⟨by simpa using h1,?_⟩;rw [<- List.drop_drop,h];rfl
variable {d:Nat}{op:Op}{ty:TypeId}{pos:String}{after:Array Edge}{x:ab}
theorem aC.AH {r:Option ab}{o:Oper}(aS:o.dst=some d) (bd:N.ok d=true) (aW:g d=none) (aA:p6 P g ops o r) (hk:aC P N ops l (ya g d r) K):aC P N ops (o::l) g K:=by
 intro i hi;obtain ⟨h1,af⟩:=drop_cons hi;obtain ⟨g',aj,dj⟩:=hk (i+1) af;exact ⟨g',.step h1 aS aW bd aA aj,dj⟩
inductive Ly (g:aJ) (d:Nat):aJ->Prop
 | new (h:g d=none):Ly g d g
 | nf {y:ab}(h:g d=some y) (ai:leaf y=true):Ly g d (del g d)
inductive fw (g:aJ) (ops:Array Oper):Option (Nat × Bool)->Prop
 | none:fw g ops none
 | yes {j t:Nat}{b:Bool}(h:(ops[j]?).bind (·.dst)=some t) (aP:g t=some (.lit (.bool b))):fw g ops (some (j,b))
variable {gd:Option (Nat × Bool)}{g1:aJ}
theorem fw.del {y:ab}(h:fw g ops gd) (aS:g d=some y) (au:∀ b,y≠.lit (.bool b)):iz (del g d) ops ⟨some d,op,ty,pos,after,gd⟩ true:=by
 cases h with
 | none=>rfl
 | @yes j t b h aP =>
  have:t≠d:=by
   grind
  exact ⟨t,h,.inl ⟨b,by simp only [Own.del,if_neg this,aP],by simp⟩⟩
theorem fw.wanted (h:fw g ops gd):iz g ops ⟨some d,op,ty,pos,after,gd⟩ true:=by
 cases h with
 | none=>rfl
 | @yes j t b h aP=>exact ⟨t,h,.inl ⟨b,aP,by simp⟩⟩
theorem aC.K' (ar:ck P g op ty x) (bd:N.ok d=true) (aW:g d=none) (hw:iz g ops ⟨some d,op,ty,pos,after,gd⟩ true) (hk:aC P N ops l (cT g d x) K):aC P N ops (⟨some d,op,ty,pos,after,gd⟩::l) g K :=
 .AH rfl bd aW (r:=some x) (.inl ⟨hw,.inl ar⟩) hk
theorem ZQ:cT (del g d) d x=cT g d x:=by
 grind [cT,del]
theorem aC.val (ar:c8 P g op ty x) (bd:N.ok d=true) (aW:g d=none) (aP:fw g ops gd) (hk:aC P N ops l (cT g d x) K):aC P N ops (⟨some d,op,ty,pos,after,gd⟩::l) g K :=
 .K' (.eU ar) bd aW aP.wanted hk
theorem aC.over {y:ab}(ar:c8 P (del g d) op ty x) (bd:N.ok d=true) (aW:g d=some y) (ai:leaf y=true) (hk:aC P N ops l (cT g d x) K):aC P N ops (⟨some d,op,ty,pos,after,none⟩::l) g K:=by
 intro i hi;obtain ⟨g',aj,dj⟩:=aC.K' (pos:=pos) (after:=after) (gd:=Option.none) (.eU ar) bd (by simp [del]) (fw.wanted .none) (by rw [ZQ]; exact hk) i hi;exact ⟨g',.drop aW ai aj,dj⟩
theorem aC.ZU (ar:ck P g op ty x) (bd:N.ok d=true) (aW:g d=none) (aP:fw g ops gd) (hk:aC P N ops l (cT g d x) K):aC P N ops (⟨some d,op,ty,pos,after,gd⟩::l) g K :=
 .K' ar bd aW aP.wanted hk
theorem aC.call (ar:cI P g op x) (bd:N.ok d=true) (aW:g d=none) (aP:fw g ops gd) (hk:aC P N ops l (cT g d x) K):aC P N ops (⟨some d,op,ty,pos,after,gd⟩::l) g K :=
 .AH rfl bd aW (r:=some x) (.inl ⟨aP.wanted,.inr ar⟩) hk
theorem aC.pass {j t':Nat}{b:Bool}(h:(ops[j]?).bind (·.dst)=some t') (aP:g t'=some (.lit (.bool (!b)))) (bd:N.ok d=true) (aW:g d=none) (hk:aC P N ops l g K):aC P N ops (⟨some d,op,ty,pos,after,some (j,b)⟩::l) g K :=
 .AH rfl bd aW (r:=Option.none) ⟨t',h,.inl ⟨!b,aP,by cases b <;> rfl⟩⟩ hk
variable {jB:Option Nat}
theorem aC.forget {g1:aJ}(hk:hz g g1) (h:aC P N ops l g1 K):aC P N ops l g K:=by
 intro i hi;obtain ⟨g',aj,dj⟩:=h i hi;exact ⟨g',.forget hk aj,dj⟩
variable {a b:Operand}{t t2:TypeId}{k:IntKind}{m n:Int}
theorem c8.add (J:Rd g a (.lit (.int k m))) (av:Rd g b (.lit (.int k n))):c8 P g (.binOp .add t a b t2) ty (.lit (.int k (k.wrap (m+n)))) :=
 .bin J.bs av.bs rfl λw=>by simp [eqGuard,binOp,Op.intArith]
theorem c8.Zp (J:Rd g a (.lit (.int k m))) (av:Rd g b (.lit (.int k n))):c8 P g (.binOp .sub t a b t2) ty (.lit (.int k (k.wrap (m - n)))) :=
 .bin J.bs av.bs rfl λw=>by simp [eqGuard,binOp,Op.intArith]
theorem c8.mul (J:Rd g a (.lit (.int k m))) (av:Rd g b (.lit (.int k n))):c8 P g (.binOp .mul t a b t2) ty (.lit (.int k (k.wrap (m * n)))) :=
 .bin J.bs av.bs rfl λw=>by simp [eqGuard,binOp,Op.intArith]
theorem c8.quo (J:Rd g a (.lit (.int k m))) (av:Rd g b (.lit (.int k n))) (h:n≠0):c8 P g (.binOp .quo t a b t2) ty (.lit (.int k (k.wrap (m.tdiv n)))) :=
 .bin J.bs av.bs rfl λw=>by simp [eqGuard,binOp,Op.intDiv,h]
theorem c8.rem (J:Rd g a (.lit (.int k m))) (av:Rd g b (.lit (.int k n))) (h:n≠0):c8 P g (.binOp .rem t a b t2) ty (.lit (.int k (m.tmod n))) :=
 .bin J.bs av.bs rfl λw=>by simp [eqGuard,binOp,Op.intDiv,h]
theorem c8.cat {s u:ByteArray}(J:Rd g a (.lit (.string s))) (av:Rd g b (.lit (.string u))) (h:s.size+u.size<=9223372036854775807):c8 P g (.binOp .add t a b t2) ty (.lit (.string (s++u))) :=
 .bin J.bs av.bs rfl λw=>by
  have:¬ ((s.size+u.size:Nat):Int) > IntKind.i64.max:=by
   have:IntKind.i64.max=9223372036854775807:=by decide
   omega
  simp only [eqGuard,binOp,Op.stringOp,if_neg this];simp
theorem Mm {s u:ByteArray}(h:s.toList=u.toList):s=u:=by
 have h1:s.data.toList=u.data.toList:=by
  grind [ByteArray.toList_eq]
 cases s
 simp_all
theorem c8.qb {s u:ByteArray}(J:Rd g a (.lit (.string s))) (av:Rd g b (.lit (.string u))) {c:Bool}(aa:c=true↔s=u):c8 P g (.binOp .eql t a b t2) ty (.lit (.bool c)) :=
 .bin J.bs av.bs rfl λw=>by
  have:(s.toList == u.toList)=c:=by
   rw [Bool.eq_iff_iff,aa];simp only [beq_iff_eq];exact ⟨Mm,λh=>by rw [h]⟩
  simp [eqGuard,binOp,Op.stringOp,this]
theorem c8.og {s u:ByteArray}(J:Rd g a (.lit (.string s))) (av:Rd g b (.lit (.string u))) {c:Bool}(aa:c=true↔s≠u):c8 P g (.binOp .neq t a b t2) ty (.lit (.bool c)) :=
 .bin J.bs av.bs rfl λw=>by
  have:(s.toList == u.toList)=!c:=by
   rw [Bool.eq_iff_iff];simp only [beq_iff_eq,Bool.not_eq_true'];cases c with
   | true=>simp only [true_iff] at aa; simp only [Bool.true_eq_false,iff_false]; exact λh=>aa (Mm h)
   | false =>
    simp only [Bool.false_eq_true,false_iff,Decidable.not_not] at aa;simp [aa]
  simp [eqGuard,binOp,Op.stringOp,this]
theorem c8.lss (J:Rd g a (.lit (.int k m))) (av:Rd g b (.lit (.int k n))) {c:Bool}(aa:c=true↔m<n):c8 P g (.binOp .lss t a b t2) ty (.lit (.bool c)) :=
 .bin J.bs av.bs rfl λw=>by
  have:decide (m<n)=c:=by rw [Bool.eq_iff_iff,aa]; simp
  simp [eqGuard,binOp,Op.intCmp,this]
theorem c8.leq (J:Rd g a (.lit (.int k m))) (av:Rd g b (.lit (.int k n))) {c:Bool}(aa:c=true↔m<=n):c8 P g (.binOp .leq t a b t2) ty (.lit (.bool c)) :=
 .bin J.bs av.bs rfl λw=>by
  have:decide (m<=n)=c:=by rw [Bool.eq_iff_iff,aa]; simp
  simp [eqGuard,binOp,Op.intCmp,this]
theorem c8.gtr (J:Rd g a (.lit (.int k m))) (av:Rd g b (.lit (.int k n))) {c:Bool}(aa:c=true↔n<m):c8 P g (.binOp .gtr t a b t2) ty (.lit (.bool c)) :=
 .bin J.bs av.bs rfl λw=>by
  have:decide (n<m)=c:=by rw [Bool.eq_iff_iff,aa]; simp
  simp [eqGuard,binOp,Op.intCmp,this]
theorem c8.geq (J:Rd g a (.lit (.int k m))) (av:Rd g b (.lit (.int k n))) {c:Bool}(aa:c=true↔n<=m):c8 P g (.binOp .geq t a b t2) ty (.lit (.bool c)) :=
 .bin J.bs av.bs rfl λw=>by
  have:decide (n<=m)=c:=by rw [Bool.eq_iff_iff,aa]; simp
  simp [eqGuard,binOp,Op.intCmp,this]
theorem c8.eql (J:Rd g a (.lit (.int k m))) (av:Rd g b (.lit (.int k n))) {c:Bool}(aa:c=true↔m=n):c8 P g (.binOp .eql t a b t2) ty (.lit (.bool c)) :=
 .bin J.bs av.bs rfl λw=>by
  have:(m == n)=c:=by rw [Bool.eq_iff_iff,aa]; simp
  simp [eqGuard,binOp,Op.intCmp,this]
theorem c8.neq (J:Rd g a (.lit (.int k m))) (av:Rd g b (.lit (.int k n))) {c:Bool}(aa:c=true↔m≠n):c8 P g (.binOp .neq t a b t2) ty (.lit (.bool c)) :=
 .bin J.bs av.bs rfl λw=>by
  have:(m != n)=c:=by rw [Bool.eq_iff_iff,aa]; simp
  simp [eqGuard,binOp,Op.intCmp,this]
theorem c8.not {c:Bool}(J:Rd g a (.lit (.bool c))):c8 P g (.unOp .not t a) ty (.lit (.bool (!c))) :=
 .un J.bs rfl λw=>by simp [Op.unary]
theorem c8.Ys {c a b:Operand}{y:ab}(aa:Rd g c (.lit (.bool true))) (aj:Rd g a y):c8 P g (.pick c a b) ty y:=.pick aa.bs aj.bs
theorem c8.Yr {c a b:Operand}{y:ab}(aa:Rd g c (.lit (.bool false))) (aj:Rd g b y):c8 P g (.pick c a b) ty y:=.pick aa.bs aj.bs
theorem c8.ux {s:ByteArray}(J:Rd g a (.lit (.string s))) (aw:oV P t=true):c8 P g (.call { callee:=.builtin .len,args:=#[a],argTypes:=#[t] }) ty (.lit (.int .i64 s.size)) :=
 .lits (vs:=[.string s]) (by simp [J.bs]) rfl λw cs=>by
  simp [builtin,Builtin.len_,run_underlying (K6 aw),goInt]
section
variable {Ψ:aJ->Prop}{Φ:Exit->aJ->Prop}{id k:Nat}
theorem ZD (h:Ψ g):oX Ψ Φ .normal g:=h
theorem ZE (h:Φ .ret g):oX Ψ Φ .ret g:=h
theorem ZC (h:Φ (.exit k) g):oX Ψ Φ (.exit k) g:=h
theorem Xv (h:Φ .normal g):l6 id Φ .normal g:=h
theorem Xw (h:Φ .ret g):l6 id Φ .ret g:=h
theorem Xt (h:Φ .normal g):l6 id Φ (.exit id) g:=by
 show if id=id then Φ .normal g else Φ (.exit id) g
 grind
theorem Xu (hk:Nat.beq k id=false) (h:Φ (.exit k) g):l6 id Φ (.exit k) g:=by
 show if k=id then Φ .normal g else Φ (.exit k) g
 grind [Nat.ne_of_beq_eq_false]
end
def Fin (P:Program) (N:c6) (rs:List ResultVar) (n:Nat) (outs:List (Option ab)) (res:ab) (e:Exit) (g':aJ):Prop:=(e=.normal\/e=.ret)/\Leaves P N rs g' n outs res
theorem bR.fin {f:FuncId}{fn:Func}{c:Code}{args:List ab}{outs:List (Option ab)}{res:ab}{N:c6}(aW:P.funcs[f]?=some fn) (au:fn.body=some c) (bd:fn.ntmps=N.size) (aR:Nat.ble args.length N.size=true) (hlen:outs.length=args.length)
  (hw:W P N c (p7 args) (Fin P N fn.results.toList args.length outs res)):bR P f args outs res:=.XZ aW au bd (Nat.le_of_ble_eq_true aR) hlen hw
def sk (outs:List (Option ab)):Bool:=outs.all λx=>x.isNone
theorem FC {outs:List (Option ab)}(h:sk outs=true) (k:Nat) (x:ab):outs[k]?≠some (some x):=by
 intro e;have:=List.all_eq_true.1 h _ (List.mem_of_getElem? e)
 grind
theorem Fin.one {t:Nat}{y res:ab}{outs:List (Option ab)}{n:Nat}(av:Rd g (.tmp t) y) (aE:cS y) (aY:sk outs=true) (ai:outs.length=n) (he:y=res):Fin P N [.tmp t] n outs res .ret g :=
 ⟨.inr rfl,⟨[y],[y],g,.cons (.tmp av.bs) .nil,.bo (by simpa using aE),he.symm,λk x hk=>absurd hk (FC aY k x)⟩,ai⟩
inductive A5 (g:aJ):List ResultVar->List ab->Prop
 | nil:A5 g [] []
 | cons {t:Nat}{y:ab}{rs:List ResultVar}{ys:List ab}(h:Rd g (.tmp t) y) (aE:cS y) (aw:A5 g rs ys):A5 g (.tmp t::rs) (y::ys)
theorem A5.spec {rs:List ResultVar}{ys:List ab}(h:A5 g rs ys):rJ P g rs ys/\∀ y∈ys,cS y:=by
 induction h with
 | nil=>exact ⟨.nil,by simp⟩
 | cons h aE _ aU=>exact ⟨.cons (.tmp h.bs) aU.1,pI aE aU.2⟩
inductive qS (g:aJ):List Operand->List ab->Prop
 | nil:qS g [] []
 | cons {x:Operand}{y:ab}{xs:List Operand}{ys:List ab}(h:Rd g x y) (aE:cS y) (aw:qS g xs ys):qS g (x::xs) (y::ys)
theorem qS.spec {xs:List Operand}{ys:List ab}(h:qS g xs ys):gk g xs=some ys/\∀ y∈ys,cS y:=by
 induction h with
 | nil=>exact ⟨rfl,by simp⟩
 | cons h aE _ aU=>exact ⟨by simp only [gk,h.bs,aU.1],pI aE aU.2⟩
theorem cI.TR {xs:List Operand}{gl:Array TypeId}{f:FuncId}{ys:List ab}{outs:List (Option ab)}{res:ab}(gM:bR P f ys outs res) (aW:hp P f=true) (J:qS g xs ys) (aY:sk outs=true) (aj:cS res) :
  cI P g (.call { callee:=.value (.func f),args:=xs.toArray,argTypes:=gl }) res:=by
 have r8:outs=ys.map λ_=>Option.none:=by
  apply List.ext_getElem?;intro k;rw [List.getElem?_map];cases av:ys[k]? with
  | none=>rw [List.getElem?_eq_none (by rw [gM.1]; exact List.getElem?_eq_none_iff.1 av)]; rfl
  | some y =>
   have hk:k<outs.length:=by rw [gM.1]; exact (List.getElem?_eq_some_iff.1 av).1
   have h1:=List.getElem?_eq_getElem hk;rw [h1];cases af:outs[k] with
   | none=>rfl
   | some x=>rw [af] at h1; exact absurd h1 (FC aY k x)
 exact .plain (first:=[]) (caps:=[]) (ys:=ys) rfl (by simpa using J.spec.1) aW (by simpa using J.spec.2) (by simpa [<- r8] using gM) aj
end
end Go.Own
namespace Go.Own
open Go
def lC (s:ByteArray) (m:Int):Int:=((s[m.toNat]?.getD 0).toNat:Nat)
def rQ (s:ByteArray) (m n:Int):ByteArray:=s.extract m.toNat n.toNat
section
variable {P:Program}{N:c6}{ops:Array Oper}{g:aJ}{K:aJ->Prop}{l:List Oper}
variable {d:Nat}{op:Op}{ty:TypeId}{pos:String}{after:Array Edge}{x:ab}{a b:Operand}{t t2:TypeId}{k:IntKind}{m n:Int}{gd:Option (Nat × Bool)}
theorem c8.Sq {s:ByteArray}{i:Operand}(J:Rd g a (.lit (.string s))) (hi:Rd g i (.lit (.int k m))) (aw:oV P t=true) (h:0<=m/\m<s.size):c8 P g (.index t a i) ty (.lit (.int .u8 (lC s m))):=by
 obtain ⟨j,rfl⟩:=Int.eq_ofNat_of_zero_le h.1;have ag:j<s.size:=by omega
 have au:s[j]?=some s[j]:=getElem?_pos s j ag;have:lC s (j:Int)=(s[j].toNat:Nat):=by simp [lC,au]
 rw [this];exact .E_ J.bs hi.bs aw au
theorem c8.Qw {s:ByteArray}{lo hi:Operand}{qs:IntKind}(J:Rd g a (.lit (.string s))) (ai:Rd g lo (.lit (.int k m))) (bY:Rd g hi (.lit (.int qs n))) (aw:oV P t=true) (h:0<=m/\m<=n/\n<=s.size) :
  c8 P g (.slice t a (some lo) (some hi) none) ty (.lit (.string (rQ s m n))):=by
 obtain ⟨i,rfl⟩:=Int.eq_ofNat_of_zero_le h.1;obtain ⟨j,rfl⟩:=Int.eq_ofNat_of_zero_le (show 0<=n by omega);exact .AG J.bs ⟨_,ai.bs⟩ ⟨_,bY.bs⟩ aw (by omega) (by omega)
theorem c8.Y' {s:ByteArray}{hi:Operand}{qs:IntKind}(J:Rd g a (.lit (.string s))) (bY:Rd g hi (.lit (.int qs n))) (aw:oV P t=true) (h:0<=n/\n<=s.size) :
  c8 P g (.slice t a none (some hi) none) ty (.lit (.string (rQ s 0 n))):=by
 obtain ⟨j,rfl⟩:=Int.eq_ofNat_of_zero_le h.1;exact .AG (l:=0) J.bs rfl ⟨_,bY.bs⟩ aw (by omega) (by omega)
theorem c8.Za {s:ByteArray}{lo:Operand}(J:Rd g a (.lit (.string s))) (ai:Rd g lo (.lit (.int k m))) (aw:oV P t=true) (h:0<=m/\m<=s.size) :
  c8 P g (.slice t a (some lo) none none) ty (.lit (.string (rQ s m s.size))):=by
 obtain ⟨j,rfl⟩:=Int.eq_ofNat_of_zero_le h.1;exact .AG (h:=s.size) J.bs ⟨_,ai.bs⟩ rfl aw (by omega) (by omega)
theorem TC {s:ByteArray}{m n:Int}(h:0<=m/\m<=n/\n<=s.size):((rQ s m n).size:Int)=n - m:=by
 grind [rQ,ByteArray.size_extract]
theorem c8.bytes {z p iW:Nat}{cs:List ab}{xs:List Int}(J:g p=some (.own 1 iW cs)) (hC:cs=xs.map λb=>.lit (.int .u8 b)) (ai:cs.length=iW) (aw:wR P t t2=true) (_hz:z=0):c8 P g (.convert t t2 (.tmp p)) ty (.lit (.string (strOfNums xs))) :=
 .Eg (p:=⟨p,[]⟩) (n:=iW) (N:=iW) (cs:=cs) (by simp [bs,J,rp,gq]) (by simp [bz,J,ab.at]) (Nat.le_refl _) (by rw [List.take_of_length_le (by omega)]; exact hC) aw
def h' (P:Program) (e:TypeId) (z:Nat):Bool :=
 match (P.info? e).bind (·.zero) with
 | some v=>v.cells.size == z
 | none=>false
theorem Lo {e:TypeId}{z:Nat}(h:h' P e z=true):∃ v,(P.info? e).bind (·.zero)=some v/\v.cells.size=z:=by
 grind [h']
inductive tn (g:aJ):List Operand->List Value->Prop
 | nil:tn g [] []
 | cons {x:Operand}{v:Value}{xs:List Operand}{vs:List Value}(h:Rd g x (.lit v)) (aw:tn g xs vs):tn g (x::xs) (v::vs)
theorem tn.gk {xs:List Operand}{vs:List Value}(h:tn g xs vs):gk g xs=some (vs.map .lit):=by
 induction h with
 | nil=>rfl
 | cons h _ aU=>simp only [Own.gk,h.bs,aU]; rfl
theorem tn.map {xs:List Operand}{vs:List Value}(h:tn g xs vs):xs.map (bs g)=vs.map λv=>some (.lit v):=by
 induction h with
 | nil=>rfl
 | cons h _ aU=>simp only [List.map_cons,h.bs,aU]
theorem ck.row {e:TypeId}{xs:List Operand}{vs:List Value}{parts:Array (Nat × Operand)}{dx:Nat}(J:tn g xs vs) (ar:parts.toList=xs.mapIdx (λi x=>(i,x))) (aE:xs.length=dx) (aw:ft P t e 1=true) (aX:h' P e 1=true) (au:Nat.ble dx 1000=true) :
  ck P g (.buildSlice t dx parts) ty (.own 1 dx (vs.map .lit)):=by
 subst aE;have l1:=Nat.le_of_ble_eq_true au;refine .ri (.buildSlice aw ar J.gk (λy av=>?_) ?_ (by omega) (by omega) (.inr (Lo aX)))
 ·obtain ⟨v,_,rfl⟩:=List.mem_map.1 av;exact ⟨[.lit v],rfl,rfl⟩
 ·generalize vs=l
  induction l with
  | nil=>rfl
  | cons v l aU=>simp only [List.map_cons,mg,jL,aU]; rfl
inductive tp (g:aJ):List Nat->List (Nat × ab)->Prop
 | nil:tp g [] []
 | some {s:Nat}{x:ab}{td:List Nat}{l:List (Nat × ab)}(h:g s=some x) (aE:cS x) (aw:tp g td l):tp g (s::td) ((s,x)::l)
 | none {s:Nat}{td:List Nat}{l:List (Nat × ab)}(aw:tp g td l):tp g (s::td) l
theorem tp.spec {g:aJ}{td:List Nat}{l:List (Nat × ab)}(h:tp g td l):∀ t x,get l t=Option.some x->g t=Option.some x/\cS x:=by
 induction h with
 | nil=>intro t x J; cases J
 | @some s y td l h aE _ aU =>
  grind [get]
 | none _ aU=>exact aU
theorem tp.eY {g:aJ}{td:List Nat}{l:List (Nat × ab)}(h:tp g td l):j4 g (get l) :=
 ⟨λt x J=>⟨x,(h.spec t x J).1,.refl⟩,λt x J=>.bo (h.spec t x J).2,λt z q n m new J=>by have:=(h.spec t _ J).2; cases this⟩
end
end Go.Own
namespace Go.Own
open Go
def ox (s:ByteArray) (n:Nat):Prop:=s.size<=n
theorem ox.app {s u:ByteArray}{a b:Nat}(h:ox s a) (aL:ox u b):ox (s++u) (a+b):=by
 unfold ox at *;rw [ByteArray.size_append]; omega
theorem ox.cut {s:ByteArray}{a:Nat}{m n:Int}(h:ox s a):ox (rQ s m n) a:=by
 unfold ox rQ at *;rw [ByteArray.size_extract]; omega
theorem ox.const {xs:Array UInt8}:ox ⟨xs⟩ xs.size:=Nat.le_refl _
theorem ox.of {s:ByteArray}{n:Nat}(h:s.size<=n):ox s n:=h
theorem ox.self {s:ByteArray}:ox s s.size:=Nat.le_refl _
section
variable {P:Program}{g:aJ}{ty:TypeId}{a b:Operand}{t t2:TypeId}{N:c6}{ops:Array Oper}{K:aJ->Prop}{l:List Oper}{d:Nat}{pos:String}{after:Array Edge}{gd:Option (Nat × Bool)}
theorem W.MI {c:Operand}{x y:Code}{Φ:Exit->aJ->Prop}{b:Bool}(aa:Rd g c (.lit (.bool b))) (dK:b=true->W P N x g Φ) (aO:b=false->W P N y g Φ):W P N (.cond c x y) g Φ:=by
 cases b with
 | true=>exact .MJ aa.bs (dK rfl)
 | false=>exact .MH aa.bs (aO rfl)
theorem YQ {c e:Bool}(aw:P.underlying t=some .bool) (w:World):(do eqGuard .eql t a b (.bool c) (.bool e); binOp .eql t (.bool c) (.bool e):Sem Value).run P w=.ok (.bool (c == e)) w:=by
 have h:=run_equal_bool w t c e aw;simp [eqGuard,binOp,h]
def Hn (P:Program) (t:TypeId):Bool :=
 match P.underlying t with
 | some .bool=>true
 | _=>false
theorem Sx (h:Hn P t=true):P.underlying t=some .bool:=by
 unfold Hn at h
 split at h
 ·assumption
 ·cases h
def xA (P:Program) (t:TypeId) (k:IntKind):Bool :=
 match P.underlying t with
 | some (.int ke)=>ke == k
 | _=>false
theorem OU {k:IntKind}(h:xA P t k=true):P.underlying t=some (.int k):=by
 unfold xA at h
 split at h
 ·rename_i ke hk; rw [hk]; have:ke=k:=by simpa using h
  rw [this]
 ·cases h
theorem c8.Ty {k ke:IntKind}{m:Int}(J:Rd g a (.lit (.int k m))) (aA:xA P t k=true) (aS:xA P t2 ke=true):c8 P g (.convert t t2 a) ty (.lit (.int ke (ke.wrap m))) :=
 .conv J.bs rfl λw=>by simp [convert,run_underlying (OU aA),run_underlying (OU aS),Conv.intToInt]
inductive Bytes (g:aJ):List Operand->List Int->Prop
 | nil:Bytes g [] []
 | cons {x:Operand}{v:Int}{xs:List Operand}{vs:List Int}(h:Rd g x (.lit (.int .u8 v))) (aw:Bytes g xs vs):Bytes g (x::xs) (v::vs)
theorem Bytes.lits {xs:List Operand}{vs:List Int}(h:Bytes g xs vs):tn g xs (vs.map λb=>.int .u8 b):=by
 induction h with
 | nil=>exact .nil
 | cons h _ aU=>exact .cons h aU
end
end Go.Own
namespace Go.Own
open Go Go.RowKit
theorem cD.lits {w:World}(vs:List Value) (h:∀ v∈vs,v.oneCell'=true):cD w (λ_=>False) vs.toArray (p7 (vs.map .lit)) (λ_=>cv):=by
 refine ⟨λt x J=>?_,λ_ _ _ h=>h,λ_ _ _ h=>h.elim,λ_ _ h=>h.elim,λ_ h=>h.elim,λt t' z p n m new bA cB m' c0 h1 _=>?_⟩
 ·simp only [p7,List.getElem?_map] at J;cases hv:vs[t]? with
  | none=>rw [hv] at J; cases J
  | some v =>
   rw [hv] at J;simp only [Option.map_some,Option.some.injEq] at J;subst J;exact ⟨v,by simpa using hv,.tree (.lit (h v (List.mem_of_getElem? hv)) λ_ h=>h)⟩
 grind [p7]
end Go.Own
namespace Go.Own
open Go
section
variable {P:Program}{g:aJ}{ty:TypeId}{a b:Operand}{t t2:TypeId}{N:c6}{ops:Array Oper}{K:aJ->Prop}{l:List Oper}{d:Nat}{pos:String}{after:Array Edge}{gd:Option (Nat × Bool)}
theorem c8.mz {z n bA:Nat}{p:Place}{e:TypeId}(J:Rd g a (.a6 z p n)) (aw:ft P t e bA=true):c8 P g (.call { callee:=.builtin .len,args:=#[a],argTypes:=#[t] }) ty (.lit (.int .i64 n)):=.Cx J.bs aw
theorem c8.jb {z n bA:Nat}{cs:List ab}{e:TypeId}(J:Rd g a (.bn z n cs)) (aw:ft P t e bA=true):c8 P g (.call { callee:=.builtin .len,args:=#[a],argTypes:=#[t] }) ty (.lit (.int .i64 n)):=.Cy J.bs aw
end
end Go.Own
namespace Go.Own
open Go
end Go.Own
namespace Go.Own
open Go
structure bI (α:Type) where
 z:Nat
 cells:α->List ab
 len:∀ a,(cells a).length=z
 bo:∀ a,∀ x∈cells a,cS x
variable {α β S R:Type}
def bp (e:bI α) (l:List α):List ab:=l.flatMap e.cells
abbrev ak (e:bI α) (l:List α):ab:=.own e.z l.length (bp e l)
abbrev ah (e:bI α) (l:List α):ab:=.bn e.z l.length (bp e l)
abbrev ae (n:Int):ab:=.lit (.int .i64 n)
abbrev qX (n:Int):ab:=.lit (.int .u8 n)
abbrev a_ (b:Bool):ab:=.lit (.bool b)
abbrev ax (s:ByteArray):ab:=.lit (.string s)
abbrev aM (n:Int):Int:=IntKind.i64.wrap n
abbrev yu (n:Int):Int:=IntKind.u8.wrap n
theorem ni (e:bI α) (l:List α):(bp e l).length=l.length * e.z:=by
 induction l with
 | nil=>simp [bp]
 | cons a l aU =>
  have:bp e (a::l)=e.cells a++bp e l:=by simp [bp]
  rw [this,List.length_append,e.len,aU,List.length_cons,Nat.add_mul]; omega
theorem pN (e:bI α) (l:List α):∀ x∈bp e l,cS x:=by
 intro x J;obtain ⟨a,_,h⟩:=List.mem_flatMap.1 J;exact e.bo a x h
theorem F3 (e:bI α) (l m:List α):bp e (l++m)=bp e l++bp e m:=by simp [bp]
theorem AD (e:bI α):∀ (l:List α) (i:Nat),(bp e l).drop (i * e.z)=bp e (l.drop i)
 | l,0=>by simp
 | [],i+1=>by simp [bp]
 | a::l,i+1=>by
  have h:bp e (a::l)=e.cells a++bp e l:=by simp [bp]
  rw [h,List.drop_append,e.len,List.drop_eq_nil_of_le (by rw [e.len,Nat.add_mul]; omega)];have:(i+1) * e.z - e.z=i * e.z:=by rw [Nat.add_mul]; omega
  rw [this,List.nil_append,AD e l i]; rfl
theorem yg (e:bI α):∀ (l:List α) (i:Nat),(bp e l).take (i * e.z)=bp e (l.take i)
 | l,0=>by simp [bp]
 | [],i+1=>by simp [bp]
 | a::l,i+1=>by
  have h:bp e (a::l)=e.cells a++bp e l:=by simp [bp]
  rw [h,List.take_append,e.len,List.take_of_length_le (by rw [e.len,Nat.add_mul]; omega)];have:(i+1) * e.z - e.z=i * e.z:=by rw [Nat.add_mul]; omega
  rw [this,yg e l i]; simp [bp]
def idx (l:List α) (i:Int):Option α:=if 0<=i then l[i.toNat]? else none
theorem pD {l:List α}{i:Int}{y:α}(h:idx l i=some y):0<=i/\i<l.length/\l[i.toNat]?=some y:=by
 grind [idx]
theorem KO (e:bI α) {l:List α}{i:Int}{y:α}(h:idx l i=some y):(bp e l).drop (i.toNat * e.z)=e.cells y++bp e (l.drop (i.toNat+1)):=by
 obtain ⟨aT,h1,af⟩:=pD h
 grind [AD,List.drop_eq_getElem_cons,bp]
theorem KN (e:bI α) {l:List α}{i:Int}{y:α}(h:idx l i=some y) {k:Nat}{x:ab}(hk:(e.cells y)[k]?=some x):(bp e l)[i.toNat * e.z+k]?=some x:=by
 have aQ:=(List.getElem?_eq_some_iff.1 hk).1;rw [<- List.getElem?_drop,KO e h,List.getElem?_append_left aQ]; exact hk
abbrev lim:Nat:=1099511627776
def fuel:Nat:=1000000000000000000
def iter (f:S->Option (S ⊕ R)):Nat->S->Option R
 | 0,_=>none
 | n+1,s=>match f s with
  | none=>none
  | some (.inl cR)=>iter f n cR
  | some (.inr r)=>some r
def b6 (f:S->Option (S ⊕ R)) (s:S):Option R:=iter f fuel s
theorem tC {o:Option α}{f:α->Option β}{r:β}(h:o.bind f=some r):∃ y,o=some y/\f y=some r:=Option.bind_eq_some_iff.1 h
theorem S9 {b:Bool}{x y o:α}(au:b=true) (h:cond b x y=o):x=o:=by
 grind
theorem S8 {b:Bool}{x y o:α}(au:b=false) (h:cond b x y=o):y=o:=by
 grind
theorem fG {b:Bool}{x y o:α}(h:cond b x y=o):(b=true/\x=o)\/(b=false/\y=o):=by
 grind
theorem aV {a b:α}(h:some a=some b):a=b:=by grind
class ch (x:ab):Prop where bo:cS x
class dn (cs:List ab):Prop where bo:∀ x∈cs,cS x
instance {v:Value}:ch (.lit v):=⟨.lit⟩
instance:ch .aN:=⟨.aN⟩
instance:ch .dead:=⟨.dead⟩
instance {z n:Nat}{cs:List ab} [h:dn cs]:ch (.bn z n cs):=⟨.bn h.bo⟩
instance {z n:Nat}{cs:List ab} [h:dn cs]:ch (.own z n cs):=⟨.own h.bo⟩
instance {cs:List ab} [h:dn cs]:ch (.obj cs):=⟨.obj h.bo⟩
instance {cs:List ab} [h:dn cs]:ch (.agg cs):=⟨.agg h.bo⟩
instance {cs:List ab} [h:dn cs]:ch (.bX cs):=⟨.bX h.bo⟩
instance {cs:List ab} [h:dn cs]:ch (.cG cs):=⟨.cG h.bo⟩
instance {f:Fn}{a b:List ab} [h:dn a] [aL:dn b]:ch (.cU f a b):=⟨.cU h.bo aL.bo⟩
instance:dn []:=⟨by simp⟩
instance {x:ab}{cs:List ab} [h:ch x] [aL:dn cs]:dn (x::cs):=⟨pI h.bo aL.bo⟩
instance {e:bI α}{l:List α}:dn (bp e l):=⟨pN e l⟩
instance {e:bI α}{a:α}:dn (e.cells a):=⟨e.bo a⟩
instance {a b:List ab} [h:dn a] [aL:dn b]:dn (a++b):=⟨λx J=>(List.mem_append.1 J).elim (h.bo x) (aL.bo x)⟩
instance {a:List ab}{n:Nat} [h:dn a]:dn (a.drop n):=⟨λx J=>h.bo x (List.mem_of_mem_drop J)⟩
instance {a:List ab}{n:Nat} [h:dn a]:dn (a.take n):=⟨λx J=>h.bo x (List.mem_of_mem_take J)⟩
instance {v:Value}{n:Nat}:dn (List.replicate n (.lit v)):=⟨λx J=>by rw [(List.mem_replicate.1 J).2]; exact .lit⟩
abbrev bI.one (f:α->ab) (h:∀ a,cS (f a)):bI α:=⟨1,λa=>[f a],λ_=>rfl,λa x J=>by rw [List.mem_singleton.1 J]; exact h a⟩
def al:bI Int:=.one (λn=>ae n) λ_=>.lit
def qa:bI Int:=.one (λn=>qX n) λ_=>.lit
def cn:bI Bool:=.one (λb=>a_ b) λ_=>.lit
def dw:bI ByteArray:=.one (λs=>ax s) λ_=>.lit
def MU (e:bI α):bI (List α):=.one (λl=>ak e l) λl=>.own (pN e l)
def br (e:bI α):bI (List α):=.one (λl=>ah e l) λl=>.bn (pN e l)
inductive Trim (b:Bool) (g g2:aJ):List (Nat × ab)->Prop
 | nil:Trim b g g2 []
 | n {s:Nat}{x:ab}{l:List (Nat × ab)}(h:g s=some x) [aE:ch x] (t:Trim b g g2 l):Trim b g g2 ((s,x)::l)
 | r {s:Nat}{x:ab}{l:List (Nat × ab)}(h:g s=some x) (aE:di g2 x) (ar:∀ z p n m new,x≠.bM z p n m new) (t:Trim b g g2 l):Trim b g g2 ((s,x)::l)
 | e {s:Nat}{x y:ab}{l:List (Nat × ab)}(h:g s=some y) (he:y=x) [aE:ch x] (t:Trim b g g2 l):Trim b g g2 ((s,x)::l)
 | w {s:Nat}{x y:ab}{l:List (Nat × ab)}(au:b=true) (h:g s=some y) (hw:o_ y x) [aE:ch x] (t:Trim b g g2 l):Trim b g g2 ((s,x)::l)
theorem Trim.spec {b:Bool}{g g2:aJ}{l:List (Nat × ab)}(h:Trim b g g2 l):∀ t x,get l t=some x->(∃ y,g t=some y/\o_ y x/\(b=false->y=x))/\di g2 x/\∀ z p n m new,x≠.bM z p n m new:=by
 have fA:∀ {x:ab},cS x->∀ z p n m new,x≠.bM z p n m new:=by rintro x h z p n m new rfl; cases h
 induction h with
 | nil=>intro t x J; cases J
 | @n _ _ _ h aE _ aU =>
  intro t x J;simp only [get] at J
  split at J
  ·rename_i e;subst e;cases J;exact ⟨⟨_,h,.refl,λ_=>rfl⟩,.bo aE.bo,fA aE.bo⟩
  grind
 | r h aE ar _ aU =>
  intro t x J;simp only [get] at J
  split at J
  ·rename_i e;subst e;cases J;exact ⟨⟨_,h,.refl,λ_=>rfl⟩,aE,ar⟩
  grind
 | @e _ _ _ _ h he aE _ aU =>
  intro t x J;simp only [get] at J
  split at J
  ·rename_i e;subst e he;cases J;exact ⟨⟨_,h,.refl,λ_=>rfl⟩,.bo aE.bo,fA aE.bo⟩
  grind
 | @w _ _ _ _ au h hw aE _ aU =>
  intro t x J;simp only [get] at J
  split at J
  ·rename_i e;subst e;cases J;exact ⟨⟨_,h,hw,λh=>by rw [au] at h; cases h⟩,.bo aE.bo,fA aE.bo⟩
  grind
theorem Trim.eY {b:Bool}{g:aJ}{l:List (Nat × ab)}(h:Trim b g (get l) l):j4 g (get l) :=
 ⟨λt x J=>by obtain ⟨⟨y,h1,af,_⟩,_⟩:=h.spec t x J; exact ⟨y,h1,af⟩,λt x J=>(h.spec t x J).2.1,λt z q n m new J=>(h.spec t _ J).2.2 _ _ _ _ _ rfl⟩
theorem Trim.keep {g:aJ}{l:List (Nat × ab)}(h:Trim false g (get l) l):hz g (get l) :=
 ⟨λt x J=>by obtain ⟨⟨y,h1,_,aI⟩,_⟩:=h.spec t x J; rw [<- aI rfl]; exact h1,λt x J=>(h.spec t x J).2.1,λt z q n m new J=>(h.spec t _ J).2.2 _ _ _ _ _ rfl⟩
section
variable {P:Program}{N:c6}{ops:Array Oper}{g:aJ}{K:aJ->Prop}{l:List Oper}{d:Nat}{op:Op}{ty:TypeId}{pos:String}{after:Array Edge}{x:ab}{gd:Option (Nat × Bool)}
def jy (P:Program) (N:c6) (c:Code) (G G1:List (Nat × ab)):Prop:=W P N c (get G) λe g'=>e=.normal/\j4 g' (get G1)
theorem W.bE {A B:Code}{G G1:List (Nat × ab)}{Φ:Exit->aJ->Prop}(h1:jy P N A G G1) (af:W P N B (get G1) Φ):W P N (.seq A B) (get G) Φ:=by
 refine W.seq (W.out h1 λe g' h=>⟨get G1,h.2,?_⟩);obtain ⟨rfl,_⟩:=h;exact af
theorem W.bK {A B:Code}{G:List (Nat × ab)}{Φ:Exit->aJ->Prop}(h:W P N A (get G) (oX (λg1=>W P N B g1 Φ) Φ)):W P N (.seq A B) (get G) Φ:=W.seq h
theorem jy.rg {id:Nat}{l:List Oper}{G G1:List (Nat × ab)}(h:aC P N l.toArray l (get G) λg'=>j4 g' (get G1)):jy P N (.region id l.toArray false) G G1 :=
 W.AB (λi hi=>by obtain ⟨g',h1,af⟩:=h i hi; exact ⟨g',h1,rfl,af⟩)
theorem aC.fin {G1:List (Nat × ab)}(h:Trim true g (get G1) G1):aC P N ops [] g λg'=>j4 g' (get G1):=.nil h.eY
theorem aC.Ds {G1:List (Nat × ab)}(h:Trim false g (get G1) G1) (hk:aC P N ops l (get G1) K):aC P N ops l g K:=.forget h.keep hk
theorem aC.v (ar:ck P g op ty x) (bd:N.ok d=true) (aW:g d=none) (aP:fw g ops gd) (hk:aC P N ops l (cT g d x) K):aC P N ops (⟨some d,op,ty,pos,after,gd⟩::l) g K:=.ZU ar bd aW aP hk
theorem aC.c (ar:cI P g op x) (bd:N.ok d=true) (aW:g d=none) (aP:fw g ops gd) (hk:aC P N ops l (cT g d x) K):aC P N ops (⟨some d,op,ty,pos,after,gd⟩::l) g K:=.call ar bd aW aP hk
theorem fw.jJ {j t:Nat}{b c:Bool}(h:(ops[j]?).bind (·.dst)=some t) (aP:g t=some (.lit (.bool c))) (au:c=b):fw g ops (some (j,b)):=by subst au; exact .yes h aP
theorem aC.ps {j t':Nat}{b c:Bool}(h:(ops[j]?).bind (·.dst)=some t') (aP:g t'=some (.lit (.bool c))) (au:c=!b) (bd:N.ok d=true) (aW:g d=none) (hk:aC P N ops l (cT g d (.bX [])) K):aC P N ops (⟨some d,op,ty,pos,after,some (j,b)⟩::l) g K:=by
 subst au; exact .AH rfl bd aW (r:=some (.bX [])) (.inr (.inl ⟨⟨t',h,.inl ⟨_,aP,by cases b <;> rfl⟩⟩,rfl⟩)) hk
theorem aC.pu {j t':Nat}{b:Bool}(h:(ops[j]?).bind (·.dst)=some t') (aP:g t'=some (.bX [])) (bd:N.ok d=true) (aW:g d=none) (hk:aC P N ops l (cT g d (.bX [])) K):aC P N ops (⟨some d,op,ty,pos,after,some (j,b)⟩::l) g K :=
 .AH rfl bd aW (r:=some (.bX [])) (.inr (.inl ⟨⟨t',h,.inr ⟨aP,rfl⟩⟩,rfl⟩)) hk
theorem jy.skip {G G1:List (Nat × ab)}(h:Trim true (get G) (get G1) G1):jy P N .skip G G1:=W.skip ⟨rfl,h.eY⟩
theorem jy.fG {t:Nat}{A B:Code}{b:Bool}{G G1:List (Nat × ab)}(aa:get G t=some (a_ b)) (dK:b=true->jy P N A G G1) (aO:b=false->jy P N B G G1):jy P N (.cond (.tmp t) A B) G G1:=W.MI (.lit aa) dK aO
theorem W.fG {t:Nat}{A B:Code}{b:Bool}{G:List (Nat × ab)}{Φ:Exit->aJ->Prop}(aa:get G t=some (a_ b)) (dK:b=true->W P N A (get G) Φ) (aO:b=false->W P N B (get G) Φ):W P N (.cond (.tmp t) A B) (get G) Φ:=W.MI (.lit aa) dK aO
theorem jy.bE {A B:Code}{G G1 G2:List (Nat × ab)}(h1:jy P N A G G1) (af:jy P N B G1 G2):jy P N (.seq A B) G G2:=W.bE h1 af
theorem jy.Ec {id:Nat}{c:Code}{G G1:List (Nat × ab)}(h:W P N c (get G) λe g'=>(e=.normal\/e=.exit id)/\j4 g' (get G1)):jy P N (.block id c) G G1:=by
 refine W.block (h.mono ?_);rintro e g' ⟨rfl | rfl,h⟩
 ·exact ⟨rfl,h⟩
 ·show if id=id then _ else _
  grind
end
end Go.Own
namespace Go.Own
open Go
variable {α β:Type}
def kp (s:ByteArray) (m:Int):Option Int:=if 0<=m/\m<s.size then some (lC s m) else none
def q1 (s:ByteArray) (m n:Int):Option ByteArray:=if 0<=m/\m<=n/\n<=s.size then some (rQ s m n) else none
def tH (s u:ByteArray):Option ByteArray:=if s.size+u.size<=4611686018427387904 then some (s++u) else none
def FW (m n:Int):Option Int:=if n=0 then none else some (aM (m.tdiv n))
def rq (m n:Int):Option Int:=if n=0 then none else some (m.tmod n)
def nP (l:List α) (m n:Int):Option (List α):=if 0<=m/\m<=n/\n<=l.length then some ((l.drop m.toNat).take (n - m).toNat) else none
def l0:ab->Bool
 | .lit _ | .aN | .bn .. | .cG _ | .cU .. | .ptr .. | .a6 .. | .sub .. | .gw .. | .imp ..=>true
 | _=>false
theorem T7 {d:Nat}{p:Place}{x:ab}(h:l0 x=true):gq d p x=x:=by
 cases x <;> simp [l0] at h <;> cases d <;> rfl
theorem T8 {t:Nat}{x:ab}(h:l0 x=true):rp t x=x:=by
 cases x <;> simp [l0] at h <;> rfl
theorem Bt {d:Nat}{q:Nat->Place}{cs:List ab}(h:cs.all l0=true):(cs.mapIdx λi x=>gq d (q i) x)=cs:=by
 apply List.ext_getElem?;intro k;rw [List.getElem?_mapIdx];cases hk:cs[k]? with
 | none=>rfl
 | some x=>simp only [Option.map_some,T7 (List.all_eq_true.1 h x (List.mem_of_getElem? hk))]
section
variable {P:Program}{N:c6}{ops:Array Oper}{g:aJ}{K:aJ->Prop}{l:List Oper}{d:Nat}{ty t t2:TypeId}{a b c:Operand}{k ke:IntKind}{m n:Int}{s u:ByteArray}{p q e:Bool}
theorem Rd.f {t:Nat}{x:ab}(h:g t=some x) (aW:l0 x=true):Own.bs g (.tmp t)=some x:=by simp only [Own.bs,h,Option.map_some,T8 aW]
theorem Rd.dP {t:Nat}{cs:List ab}(h:g t=some (.agg cs)) (aW:cs.all l0=true):Rd g (.tmp t) (.agg cs):=.agg h (Bt aW)
theorem Rd.QO {t:Nat}{cs:List ab}(h:g t=some (.bX cs)) (aW:cs.all l0=true):Rd g (.tmp t) (.bX cs):=.bX h (Bt aW)
namespace O
theorem aZ {y:ab}(h:Rd g a y):ck P g (.move a) ty y:=.eU (.move h.bs)
theorem az {y:ab}(h:Rd g a y):ck P g (.assign a) ty y:=.eU (.assign h.bs)
theorem hT {y:ab}(aa:Rd g c (a_ p)) (au:p=true) (h:Rd g a y):ck P g (.pick c a b) ty y:=by subst au; exact .eU (.Ys aa h)
theorem kz {y:ab}(aa:Rd g c (a_ p)) (au:p=false) (h:Rd g b y):ck P g (.pick c a b) ty y:=by subst au; exact .eU (.Yr aa h)
theorem add (J:Rd g a (.lit (.int k m))) (av:Rd g b (.lit (.int k n))):ck P g (.binOp .add t a b t2) ty (.lit (.int k (k.wrap (m+n)))):=.eU (.add J av)
theorem sub (J:Rd g a (.lit (.int k m))) (av:Rd g b (.lit (.int k n))):ck P g (.binOp .sub t a b t2) ty (.lit (.int k (k.wrap (m - n)))):=.eU (.Zp J av)
theorem mul (J:Rd g a (.lit (.int k m))) (av:Rd g b (.lit (.int k n))):ck P g (.binOp .mul t a b t2) ty (.lit (.int k (k.wrap (m * n)))):=.eU (.mul J av)
theorem quo {r:Int}(J:Rd g a (ae m)) (av:Rd g b (ae n)) (h:FW m n=some r):ck P g (.binOp .quo t a b t2) ty (ae r):=by
 unfold FW at h
 split at h
 ·cases h
 ·cases h; exact .eU (.quo J av (by assumption))
theorem rem {r:Int}(J:Rd g a (ae m)) (av:Rd g b (ae n)) (h:rq m n=some r):ck P g (.binOp .rem t a b t2) ty (ae r):=by
 unfold rq at h
 split at h
 ·cases h
 ·cases h; exact .eU (.rem J av (by assumption))
theorem lss (J:Rd g a (.lit (.int k m))) (av:Rd g b (.lit (.int k n))):ck P g (.binOp .lss t a b t2) ty (a_ (decide (m<n))):=.eU (.lss J av (by simp))
theorem leq (J:Rd g a (.lit (.int k m))) (av:Rd g b (.lit (.int k n))):ck P g (.binOp .leq t a b t2) ty (a_ (decide (m<=n))):=.eU (.leq J av (by simp))
theorem gtr (J:Rd g a (.lit (.int k m))) (av:Rd g b (.lit (.int k n))):ck P g (.binOp .gtr t a b t2) ty (a_ (decide (n<m))):=.eU (.gtr J av (by simp))
theorem geq (J:Rd g a (.lit (.int k m))) (av:Rd g b (.lit (.int k n))):ck P g (.binOp .geq t a b t2) ty (a_ (decide (n<=m))):=.eU (.geq J av (by simp))
theorem eql (J:Rd g a (.lit (.int k m))) (av:Rd g b (.lit (.int k n))):ck P g (.binOp .eql t a b t2) ty (a_ (decide (m=n))):=.eU (.eql J av (by simp))
theorem neq (J:Rd g a (.lit (.int k m))) (av:Rd g b (.lit (.int k n))):ck P g (.binOp .neq t a b t2) ty (a_ (!decide (m=n))):=.eU (.neq J av (by simp))
theorem qb (J:Rd g a (ax s)) (av:Rd g b (ax u)):ck P g (.binOp .eql t a b t2) ty (a_ (decide (s=u))):=.eU (.qb J av (by simp))
theorem og (J:Rd g a (ax s)) (av:Rd g b (ax u)):ck P g (.binOp .neq t a b t2) ty (a_ (!decide (s=u))):=.eU (.og J av (by simp))
theorem En (J:Rd g a (a_ p)) (av:Rd g b (a_ q)) (aw:Hn P t=true):ck P g (.binOp .eql t a b t2) ty (a_ (p == q)):=.eU (.bin J.bs av.bs rfl λw=>YQ (Sx aw) w)
theorem neg (J:Rd g a (.lit (.int k m))):ck P g (.unOp .neg t a) ty (.lit (.int k (k.wrap (-m)))):=.eU (.un J.bs rfl λw=>by simp [Op.unary,Op.intArith])
theorem not (J:Rd g a (a_ p)):ck P g (.unOp .not t a) ty (a_ (!p)):=.eU (.not J)
theorem TE (J:Rd g a (.lit (.int k m))) (aA:xA P t k=true) (aS:xA P t2 ke=true):ck P g (.convert t t2 a) ty (.lit (.int ke (ke.wrap m))):=.eU (.Ty J aA aS)
theorem cat {r:ByteArray}(J:Rd g a (ax s)) (av:Rd g b (ax u)) (h:tH s u=some r):ck P g (.binOp .add t a b t2) ty (ax r):=by
 unfold tH at h
 split at h
 ·cases h; exact .eU (.cat J av (by omega))
 ·cases h
theorem ux (J:Rd g a (ax s)) (aw:oV P t=true):ck P g (.call { callee:=.builtin .len,args:=#[a],argTypes:=#[t] }) ty (ae s.size):=.eU (.ux J aw)
theorem lX {r:Int}(J:Rd g a (ax s)) (av:Rd g b (.lit (.int k m))) (aw:oV P t=true) (h:kp s m=some r):ck P g (.index t a b) ty (qX r):=by
 unfold kp at h
 split at h
 ·cases h; exact .eU (.Sq J av aw (by assumption))
 ·cases h
theorem yl {r:ByteArray}{qs:IntKind}(J:Rd g a (ax s)) (ai:Rd g b (.lit (.int k m))) (bY:Rd g c (.lit (.int qs n))) (aw:oV P t=true) (h:q1 s m n=some r):ck P g (.slice t a (some b) (some c) none) ty (ax r):=by
 unfold q1 at h
 split at h
 ·cases h; exact .eU (.Qw J ai bY aw (by assumption))
 ·cases h
theorem Ga {r:ByteArray}(J:Rd g a (ax s)) (bY:Rd g c (.lit (.int k n))) (aw:oV P t=true) (h:q1 s 0 n=some r):ck P g (.slice t a none (some c) none) ty (ax r):=by
 unfold q1 at h
 split at h
 ·rename_i aa; cases h; exact .eU (.Y' J bY aw ⟨aa.2.1,aa.2.2⟩)
 ·cases h
theorem Gb {r:ByteArray}(J:Rd g a (ax s)) (ai:Rd g b (.lit (.int k m))) (aw:oV P t=true) (h:q1 s m s.size=some r):ck P g (.slice t a (some b) none none) ty (ax r):=by
 unfold q1 at h
 split at h
 ·rename_i aa; cases h; exact .eU (.Za J ai aw ⟨aa.1,aa.2.1⟩)
 ·cases h
theorem jb {z bA n:Nat}{cs:List ab}{e:TypeId}(J:Rd g a (.bn z n cs)) (aw:ft P t e bA=true):ck P g (.call { callee:=.builtin .len,args:=#[a],argTypes:=#[t] }) ty (ae n):=.eU (.Cy J.bs aw)
theorem re {en:bI α}{L:List α}{y:α}{e:TypeId}(J:Rd g a (.bn en.z L.length (bp en L))) (av:Rd g b (.lit (.int k m))) (aw:ft P t e en.z=true) (h:idx L m=some y):ck P g (.indexAddr t a b) ty (.cG (en.cells y++bp en (L.drop (m.toNat+1)))):=by
 rw [<- KO en h];obtain ⟨aT,h1,_⟩:=pD h;obtain ⟨j,rfl⟩:=Int.eq_ofNat_of_zero_le aT;exact .eU (.E9 J.bs av.bs aw (by omega))
theorem Y8 {en:bI α}{L r:List α}{e:TypeId}{qs:IntKind}(J:Rd g a (.bn en.z L.length (bp en L))) (ai:Rd g b (.lit (.int k m))) (bY:Rd g c (.lit (.int qs n))) (aw:ft P t e en.z=true) (h:nP L m n=some r):ck P g (.slice t a (some b) (some c) none) ty (ah en r):=by
 unfold nP at h
 split at h
 ·rename_i aa;obtain ⟨aT,h1,af⟩:=aa;cases h;obtain ⟨i,rfl⟩:=Int.eq_ofNat_of_zero_le aT;obtain ⟨j,rfl⟩:=Int.eq_ofNat_of_zero_le (show 0<=n by omega);have:=c8.AF (P:=P) (ty:=ty) (t:=t) (l:=i) (h:=j) (lo:=some b) (hi:=some c) J.bs ⟨_,ai.bs⟩ ⟨_,bY.bs⟩ aw (by omega) (by omega);rw [AD,yg] at this;have cu:(((L.drop i).take (j - i)).length)=j - i:=by rw [List.length_take,List.length_drop]; omega
  have cd:((j:Int) - (i:Int)).toNat=j - i:=by omega
  rw [Int.toNat_natCast,cd];unfold ah;rw [cu];exact .eU this
 ·cases h
theorem Y9 {en:bI α}{L r:List α}{e:TypeId}(J:Rd g a (.bn en.z L.length (bp en L))) (bY:Rd g c (.lit (.int k n))) (aw:ft P t e en.z=true) (h:nP L 0 n=some r):ck P g (.slice t a none (some c) none) ty (ah en r):=by
 unfold nP at h
 split at h
 ·rename_i aa;obtain ⟨_,h1,af⟩:=aa;cases h;obtain ⟨j,rfl⟩:=Int.eq_ofNat_of_zero_le h1;have:=c8.AF (P:=P) (ty:=ty) (t:=t) (l:=0) (h:=j) (lo:=none) (hi:=some c) J.bs rfl ⟨_,bY.bs⟩ aw (by omega) (by omega);rw [AD,yg] at this;have cu:(((L.drop 0).take (j - 0)).length)=j - 0:=by rw [List.length_take,List.length_drop]; omega
  have cd:((j:Int) - 0).toNat=j - 0:=by omega
  rw [cd];unfold ah;have fx:(0:Int).toNat=0:=rfl;rw [fx,cu];exact .eU this
 ·cases h
theorem Y_ {en:bI α}{L r:List α}{e:TypeId}(J:Rd g a (.bn en.z L.length (bp en L))) (ai:Rd g b (.lit (.int k m))) (aw:ft P t e en.z=true) (h:nP L m L.length=some r):ck P g (.slice t a (some b) none none) ty (ah en r):=by
 unfold nP at h
 split at h
 ·rename_i aa;obtain ⟨aT,h1,af⟩:=aa;cases h;obtain ⟨i,rfl⟩:=Int.eq_ofNat_of_zero_le aT;have:=c8.AF (P:=P) (ty:=ty) (t:=t) (l:=i) (h:=L.length) (lo:=some b) (hi:=none) J.bs ⟨_,ai.bs⟩ rfl aw (by omega) (by omega);rw [AD,yg] at this;have cu:(((L.drop i).take (L.length - i)).length)=L.length - i:=by rw [List.length_take,List.length_drop]; omega
  have cd:((L.length:Int) - (i:Int)).toNat=L.length - i:=by omega
  rw [Int.toNat_natCast,cd];unfold ah;rw [cu];exact .eU this
 ·cases h
theorem Bp {cR f off:Nat}{cs:List ab}(J:Rd g a (.cG cs)) (aW:iJ P cR f off t=true):ck P g (.fieldAddr cR a f) ty (.cG (cs.drop off)):=.eU (.Et J.bs aW)
theorem Cw {x:ab}{cs:List ab}(J:Rd g a (.cG cs)) (aw:jA P t=true) (aa:cs.head?=some x):ck P g (.load t a) ty x:=by
 cases cs with
 | nil=>cases aa
 | cons y cs=>cases aa; exact .eU (.Fp J.bs aw)
theorem nb {z:Nat}{cs cs':List ab}(J:Rd g a (.cG cs)) (aw:iA P t z=true) (aa:cs.take z=cs') (aX:cs'.length=z):ck P g (.load t a) ty (.agg cs'):=by
 subst aa;exact .eU (.Fq J.bs aw (by rw [List.length_take] at aX; omega))
theorem xS {cs:List ab}(J:Rd g a (.cG cs)):ck P g (.nilCheck a) ty (.cG cs):=.eU (.qv J.bs)
theorem eT {p:Place}{k:Nat}(J:Rd g a (.ptr p k)):ck P g (.nilCheck a) ty (.ptr p k):=.eU (.FA J.bs)
theorem fd {cR f off:Nat}{cs:List ab}{x:ab}(J:Rd g a (.agg cs)) (aW:iJ P cR f off t=true) (aw:jA P t=true) (av:cs[off]?=some x):ck P g (.field cR a f) ty x:=.eU (.Es J.bs aW aw av)
theorem ex {p i:Nat}{cs:List ab}{x y:ab}(J:g p=some (.bX cs)) (av:cs[i]?=some x) (aj:gq 1 (Place.push ⟨p,[]⟩ i) x=y):ck P g (.extract (.tmp p) i) ty y :=
 .eU (.Eo (cs:=cs.mapIdx λi x=>gq 1 (Place.push ⟨p,[]⟩ i) x) (by simp [bs,J,rp,gq]) (by simp [av,aj]))
theorem box {e:TypeId}{y:ab}{cs:List ab}(J:Rd g a y) (aa:jL y=some cs):ck P g (.box e a) ty (.obj cs):=.ri (.box J.bs aa)
theorem mi {cR f off k r:Nat}{cs:List ab}(aA:g r=some (.obj cs)) (J:Rd g a (.ptr ⟨r,[]⟩ k)) (aW:iJ P cR f off t=true) (aQ:Nat.blt (k+off) cs.length=true):ck P g (.fieldAddr cR a f) ty (.ptr ⟨r,[]⟩ (k+off)) :=
 .eU (.Br J.bs aW ⟨.obj cs,by simp [bz,aA,ab.at],0,0,cs,.inr rfl,by simpa using aQ⟩)
theorem pF {k r:Nat}{cs:List ab}{x y:ab}(aA:g r=some (.obj cs)) (J:Rd g a (.ptr ⟨r,[]⟩ k)) (aw:jA P t=true) (aa:cs[k]?=some x) (av:gq 0 ⟨r,[k]⟩ x=y):ck P g (.load t a) ty y:=by
 subst av;exact .eU (.CB (p:=⟨r,[]⟩) J.bs aw (by simp [bz,aA,ab.at,Place.push,ab.kids,aa]))
theorem eS {k r z:Nat}{cs cs':List ab}(aA:g r=some (.obj cs)) (J:Rd g a (.ptr ⟨r,[]⟩ k)) (aw:iA P t z=true) (hk:Nat.ble (k+z) cs.length=true) (aa:(((cs.drop k).take z).mapIdx λi x=>gq 0 ⟨r,[k+i]⟩ x)=cs'):ck P g (.load t a) ty (.agg cs'):=by
 subst aa;exact .eU (.xP (p:=⟨r,[]⟩) (n:=0) (z:=0) J.bs aw (by simp [bz,aA,ab.at]) (.inr rfl) (Nat.le_of_ble_eq_true hk))
end O
theorem qS.cA {x:Operand}{y:ab}{xs:List Operand}{ys:List ab}(h:Rd g x y) [aE:ch y] (aw:qS g xs ys):qS g (x::xs) (y::ys):=.cons h aE.bo aw
theorem cI.go {xs:List Operand}{gl:Array TypeId}{f:FuncId}{ys:List ab}{outs:List (Option ab)}{res:ab}(J:qS g xs ys) (gM:bR P f ys outs res) (aW:hp P f=true) (aY:sk outs=true) [aj:ch res] :
  cI P g (.call { callee:=.value (.func f),args:=xs.toArray,argTypes:=gl }) res:=.TR gM aW J aY aj.bo
inductive u6 (P:Program) (g:aJ):List ResultVar->List ab->Prop
 | nil:u6 P g [] []
 | f {t:Nat}{x:ab}{rs:List ResultVar}{xs:List ab}(h:g t=some x) (aW:l0 x=true) [aE:ch x] (aw:u6 P g rs xs):u6 P g (.tmp t::rs) (x::xs)
 | c {a:Nat}{t:TypeId}{z:Nat}{cs:List ab}{rs:List ResultVar}{xs:List ab}(h:g a=some (.obj cs)) (aw:iA P t z=true) (aX:cs.length=z) (aW:(0<z&&cs.all l0)=true) [aE:dn cs] (aj:u6 P g rs xs):u6 P g (.cell a t::rs) (.agg cs::xs)
theorem u6.spec {rs:List ResultVar}{xs:List ab}(h:u6 P g rs xs):rJ P g rs xs/\∀ x∈xs,cS x:=by
 induction h with
 | nil=>exact ⟨.nil,by simp⟩
 | @f t x rs xs h aW aE _ aU=>exact ⟨.cons (.tmp (Rd.f h aW)) aU.1,pI aE.bo aU.2⟩
 | @c a t z cs rs xs h aw aX aW aE _ aU =>
  simp only [Bool.and_eq_true,decide_eq_true_eq] at aW;refine ⟨.cons ?_ aU.1,pI (.agg aE.bo) aU.2⟩;have J:Own.bs g (.tmp a)=some (.ptr ⟨a,[]⟩ 0):=by
   cases cs with
   | nil=>simp at aX; omega
   | cons c cs=>simp [Own.bs,h,rp,gq]
  have:=c8.xP (P:=P) (ty:=t) (p:=⟨a,[]⟩) (n:=0) (z:=0) J aw (by simp only [bz,h,ab.at]) (.inr rfl) (show 0+z<=cs.length by omega);have hJ:((cs.drop 0).take z).mapIdx (λi x=>gq 0 (Place.push ⟨a,[]⟩ (0+i)) x)=cs:=by
   rw [List.drop_zero,List.take_of_length_le (by omega)];exact Bt aW.2
  rw [hJ] at this;exact .cell this
theorem Fin.rt {rs:List ResultVar}{xs:List ab}{res:ab}{outs:List (Option ab)}{n:Nat}(h:u6 P g rs xs) (he:qz xs=res) (aY:sk outs=true) (ai:outs.length=n):Fin P N rs n outs res .ret g :=
 ⟨.inr rfl,⟨xs,xs,g,h.spec.1,.bo h.spec.2,he.symm,λk x hk=>absurd hk (FC aY k x)⟩,ai⟩
end
def xV:Nat->List ab->List (Nat × ab)
 | _,[]=>[]
 | i,x::l=>(i,x)::xV (i+1) l
theorem Nn:∀ (l:List ab) (i t:Nat),get (xV i l) t=if i<=t then l[t - i]? else none
 | [],i,t=>by simp [xV,get]
 | x::l,i,t=>by
  simp only [xV,get];by_cases h:t=i
  ·subst h; simp
  ·rw [if_neg h,Nn l (i+1) t];by_cases h1:i+1<=t
   ·rw [if_pos h1,if_pos (by omega)];have:t - i=(t - (i+1))+1:=by omega
    rw [this,List.getElem?_cons_succ]
   ·rw [if_neg h1,if_neg (by omega)]
theorem Sd (args:List ab):p7 args=get (xV 0 args):=funext λt=>by rw [Nn]; simp [p7]
theorem bR.go {P:Program}{f:FuncId}{fn:Func}{c:Code}{args:List ab}{outs:List (Option ab)}{res:ab}{N:c6}(aW:P.funcs[f]?=some fn) (au:fn.body=some c) (bd:fn.ntmps=N.size) (aR:Nat.ble args.length N.size=true) (hlen:outs.length=args.length)
  (hw:W P N c (get (xV 0 args)) (Fin P N fn.results.toList args.length outs res)):bR P f args outs res :=
 .fin aW au bd aR hlen (by rw [Sd]; exact hw)
end Go.Own
namespace Go.Own
open Go
section
variable {P:Program}{N:c6}{Φ oo:Exit->aJ->Prop}{Ψ:aJ->Prop}{G G1:List (Nat × ab)}{A B c:Code}{id k:Nat}{e:Exit}{S R:Type}
theorem jy.df (h:Trim true (get G) (get G1) G1):jy P N .skip G G1:=.skip h
inductive ia:aJ->List (Nat × ab)->Prop
 | hU {G:List (Nat × ab)}:ia (get G) G
 | eY {g g1:aJ}{G:List (Nat × ab)}(h:j4 g g1) (au:ia g1 G):ia g G
theorem ia.trans {g:aJ}{G G1:List (Nat × ab)}(h:ia g G) (h1:ia (get G) G1):ia g G1:=by
 induction h with
 | hU=>exact h1
 | eY h _ aU=>exact .eY h (aU h1)
inductive AV (P:Program) (N:c6):aJ->Exit->(Exit->aJ->Prop)->Prop
 | hU {g:aJ}{e:Exit}{Φ:Exit->aJ->Prop}(h:Φ e g):AV P N g e Φ
 | eY {g g1:aJ}{e:Exit}{Φ:Exit->aJ->Prop}(hw:j4 g g1) (h:AV P N g1 e Φ):AV P N g e Φ
theorem W.outs {g:aJ}(h:W P N c g Φ) (nG:∀ e g',Φ e g'->AV P N g' e oo):W P N c g oo:=by
 intro a w I Fs Q bk bd dM;refine h bk bd λe g' b' w' ar aE=>?_;have uc:=nG e g' ar;clear ar nG;revert aE
 induction uc with
 | hU h=>exact λaE=>dM _ _ _ _ h aE
 | eY hw _ aU =>
  intro aE;refine aU dM ?_;obtain ⟨h1,af,I',b5,dX,b0⟩:=aE;obtain ⟨iV,h4,gE⟩:=dX.eY hw;exact ⟨h1,af,I',iV,h4,b0.eR,b0.more,b0.new,λc ⟨t,aa⟩=>b0.own c ⟨t,gE t c aa⟩⟩
def aB (e:Exit) (Φ:Exit->aJ->Prop) (G:List (Nat × ab)):Prop:=∀ g,ia g G->Φ e g
theorem W.be {g:aJ}(h:W P N c (get G) Φ) (au:ia g G):W P N c g Φ:=by
 induction au with
 | hU=>exact h
 | eY hw _ aU=>exact (aU h).weaken hw
theorem o9.be {g:aJ}(h:o9 P N c (get G) Φ) (au:ia g G):o9 P N c g Φ:=by
 induction au with
 | hU=>exact h
 | eY hw _ aU=>exact (aU h).weaken hw
theorem aB.bE (h:W P N B (get G) Φ):aB .normal (oX (λg1=>W P N B g1 Φ) oo) G:=λ_ au=>ZD (h.be au)
theorem aB.fk (h:aB (.exit k) oo G):aB (.exit k) (oX Ψ oo) G:=λg au=>ZC (h g au)
theorem aB.jd (h:aB .ret oo G):aB .ret (oX Ψ oo) G:=λg au=>ZE (h g au)
theorem aB.b9 (h:aB .normal Φ G):aB .normal (l6 id Φ) G:=λg au=>Xv (h g au)
theorem aB.fi (h:aB .normal Φ G):aB (.exit id) (l6 id Φ) G:=λg au=>Xt (h g au)
theorem aB.Hm (hk:Nat.beq k id=false) (h:aB (.exit k) Φ G):aB (.exit k) (l6 id Φ) G:=λg au=>Xu hk (h g au)
theorem aB.mL (h:aB .ret Φ G):aB .ret (l6 id Φ) G:=λg au=>Xw (h g au)
theorem W.fm (h:aB (.exit k) Φ G):W P N (.exit k) (get G) Φ:=W.exit (h _ .hU)
theorem W.df (h:aB .normal Φ G):W P N .skip (get G) Φ:=W.skip (h _ .hU)
theorem W.rt (h:aB .ret Φ G):W P N .ret (get G) Φ:=W.ret (h _ .hU)
theorem W.rx {id:Nat}{l:List Oper}(G1:List (Nat × ab)) (h:aC P N l.toArray l (get G) λg'=>j4 g' (get G1)) (hk:aB .normal Φ G1):W P N (.region id l.toArray false) (get G) Φ :=
 W.AB (λi hi=>by obtain ⟨g',h1,af⟩:=h i hi; exact ⟨g',h1,hk g' (.eY af .hU)⟩)
theorem W.dB {G1:List (Nat × ab)}(h:Trim true (get G) (get G1) G1) (hw:W P N c (get G1) Φ):W P N c (get G) Φ:=hw.weaken h.eY
theorem W.st {G:List (Nat × ab)}(G1:List (Nat × ab)) (h:W P N c (get G1) Φ) (e:G1=G:=by rfl):W P N c (get G) Φ:=by subst e; exact h
theorem W.b9 (h:W P N c (get G) (l6 id Φ)):W P N (.block id c) (get G) Φ:=W.block h
theorem W.dE (G1:List (Nat × ab)) (h:W P N c (get G) λe g=>e=.normal/\ia g G1) (hk:aB .normal Φ G1):W P N c (get G) Φ :=
 h.mono λe g ⟨he,au⟩=>by subst he; exact hk g au
theorem aB.dE (h:Trim true (get G) (get G1) G1):aB .normal (λe g=>e=.normal/\ia g G1) G:=λ_ au=>⟨rfl,au.trans (.eY h.eY .hU)⟩
def k8 (G:S->List (Nat × ab)) (Ψ:R->Exit->aJ->Prop):S ⊕ R->Exit->aJ->Prop
 | .inl s,e,g=>e=.normal/\ia g (G s)
 | .inr r,e,g=>e≠.normal/\Ψ r e g
theorem o9.it {f:S->Option (S ⊕ R)}{G:S->List (Nat × ab)}{Ψ:R->Exit->aJ->Prop}(au:∀ s o,f s=some o->W P N c (get (G s)) (k8 G Ψ o)) :
  ∀ (n:Nat) (s:S) (r:R),Own.iter f n s=some r->o9 P N c (get (G s)) (Ψ r)
 | 0,_,_,h=>by simp [Own.iter] at h
 | n+1,s,r,h=>by
  simp only [Own.iter] at h;cases aW:f s with
  | none=>rw [aW] at h; cases h
  | some o =>
   rw [aW] at h;refine .step ((au s o aW).mono λe g' aj=>?_);cases o with
   | inl cR =>
    obtain ⟨rfl,hw⟩:=aj;exact (o9.it au n cR r h).be hw
   | inr cW =>
    cases h;obtain ⟨aE,hw⟩:=aj;cases e with
    | normal=>exact absurd rfl aE
    | _=>exact hw
theorem W.eO {f:S->Option (S ⊕ R)}{s:S}{r:R}(G:S->List (Nat × ab)) (Ψ:R->Exit->aJ->Prop) (h:b6 f s=some r) (au:∀ s o,f s=some o->W P N c (get (G s)) (k8 G Ψ o)) (hk:∀ e g,Ψ r e g->Φ e g):W P N (.loop c) (get (G s)) Φ :=
 (W.loop (o9.it au fuel s r h)).mono hk
theorem W.zL {f:S->Option (S ⊕ R)}{s:S}{r:R}(G:S->List (Nat × ab)) (id:Nat) (ma:R->List (Nat × ab)) (h:b6 f s=some r) (au:∀ s o,f s=some o->W P N c (get (G s)) (k8 G (λr e g=>e=.exit id/\ia g (ma r)) o)) (hk:aB (.exit id) Φ (ma r)):W P N (.loop c) (get (G s)) Φ :=
 .eO G _ h au λe g ⟨he,aP⟩=>by subst he; exact hk g aP
theorem W.O7 {gV:Type}{f:S->Option (S ⊕ (R ⊕ gV))}{s:S}{r:R ⊕ gV}(G:S->List (Nat × ab)) (id:Nat) (ma:R->List (Nat × ab)) (h0:gV->List (Nat × ab)) (h:b6 f s=some r)
  (au:∀ s o,f s=some o->W P N c (get (G s)) (k8 G (λ(r:R ⊕ gV) e g=>match r with | .inl r=>e=.exit id/\ia g (ma r) | .inr r=>e=.ret/\ia g (h0 r)) o))
  (J:∀ x,r=.inl x->aB (.exit id) Φ (ma x)) (aj:∀ x,r=.inr x->aB .ret Φ (h0 x)):W P N (.loop c) (get (G s)) Φ:=by
 refine .eO G _ h au λe g h=>?_;cases r with
 | inl r=>obtain ⟨rfl,aP⟩:=h; exact J r rfl g aP
 | inr r=>obtain ⟨rfl,aP⟩:=h; exact aj r rfl g aP
theorem aB.go {s:S}{F:S->List (Nat × ab)}{Ψ:R->Exit->aJ->Prop}(h:Trim true (get G) (get (F s)) (F s)):aB .normal (k8 F Ψ (.inl s)) G:=λ_ au=>⟨rfl,au.trans (.eY h.eY .hU)⟩
theorem aB.a8 {r:R}{F:S->List (Nat × ab)}{ma:R->List (Nat × ab)}(h:Trim true (get G) (get (ma r)) (ma r)):aB (.exit id) (k8 F (λr e g=>e=.exit id/\ia g (ma r)) (.inr r)) G:=λ_ au=>⟨by simp,rfl,au.trans (.eY h.eY .hU)⟩
theorem aB.x2 {gV:Type}{r:R}{F:S->List (Nat × ab)}{ma:R->List (Nat × ab)}{h0:gV->List (Nat × ab)}(h:Trim true (get G) (get (ma r)) (ma r)) :
  aB (.exit id) (k8 F (λ(r:R ⊕ gV) e g=>match r with | .inl r=>e=.exit id/\ia g (ma r) | .inr r=>e=.ret/\ia g (h0 r)) (.inr (.inl r))) G:=λ_ au=>⟨by simp,rfl,au.trans (.eY h.eY .hU)⟩
theorem aB.lr {gV:Type}{r:gV}{F:S->List (Nat × ab)}{ma:R->List (Nat × ab)}{h0:gV->List (Nat × ab)}(h:Trim true (get G) (get (h0 r)) (h0 r)) :
  aB .ret (k8 F (λ(r:R ⊕ gV) e g=>match r with | .inl r=>e=.exit id/\ia g (ma r) | .inr r=>e=.ret/\ia g (h0 r)) (.inr (.inr r))) G:=λ_ au=>⟨by simp,rfl,au.trans (.eY h.eY .hU)⟩
def pZ (P:Program) (N:c6) (rs:List ResultVar) (n:Nat) (outs:List (Option ab)) (res:ab) (e:Exit) (g:aJ):Prop:=∃ G,ia g G/\Fin P N rs n outs res e (get G)
theorem W.fin {rs:List ResultVar}{n:Nat}{outs:List (Option ab)}{res:ab}{g:aJ}(h:W P N c g (pZ P N rs n outs res)):W P N c g (Fin P N rs n outs res):=by
 have key:∀ e g,pZ P N rs n outs res e g->AV P N g e (Fin P N rs n outs res):=by
  rintro e g ⟨G,au,aW⟩
  induction au with
  | hU=>exact .hU aW
  | eY hw _ aU=>exact .eY hw (aU aW)
 exact W.outs h key
theorem aB.fin {rs:List ResultVar}{n:Nat}{outs:List (Option ab)}{res:ab}(h:Fin P N rs n outs res e (get G)):aB e (pZ P N rs n outs res) G:=λ_ au=>⟨G,au,h⟩
end
end Go.Own
namespace Go.Own
open Go
section
variable {P:Program}{N:c6}{ops:Array Oper}{bf:List (List Nat)}{g0:aJ}{K:aJ->Prop}{l:List Oper}{acc:Acc}{d i:Nat}{op:Op}{ty:TypeId}{pos:String}{after:Array Edge}{x:ab}{gd:Option (Nat × Bool)}
abbrev jt (bf:List (List Nat)) (g0:aJ) (j:Nat) (acc:Acc):aJ:=dh g0 (λm=>(bf.getD j []).contains m) acc
def bw (P:Program) (N:c6) (ops:Array Oper) (bf:List (List Nat)) (g0:aJ) (i:Nat) (acc:Acc) (l:List Oper) (K:aJ->Prop):Prop:=∀ dU j,mI P N ops bf g0 i dU->iI P N ops bf g0 i dU j acc->ops.toList.drop j=l->∃ g',sv P N ops bf i dU g0 g'/\K g'
theorem zf {j bG:Nat}{o:Oper}(h:ops.toList.drop j=o::l) (ag:Nat.beq ops.size (bG+l.length+1)=true):j=bG:=by
 grind [List.length_cons,Nat.eq_of_beq_eq_true]
theorem RV (aE:acc.all (λe=>!Nat.beq e.2.1 d)=true):∀ e∈acc,e.2.1≠d:=by
 intro e he h;have:=List.all_eq_true.1 aE e he
 simp_all
theorem bw.st (bG:Nat) {r:Option ab}{o:Oper}(aS:o.dst=some d) (aA:p6 P (jt bf g0 bG acc) ops o r) (ag:Nat.beq ops.size (bG+l.length+1)=true) (aW:g0 d=none) (aE:acc.all (λe=>!Nat.beq e.2.1 d)=true) (bd:N.ok d=true)
  (hk:bw P N ops bf g0 i ((bG,d,r)::acc) l K):bw P N ops bf g0 i acc (o::l) K:=by
 intro dU j b_ kS lb;have:=zf lb ag;subst this;obtain ⟨h1,af⟩:=drop_cons lb;exact hk dU (j+1) b_ (.step kS h1 aS aW (RV aE) bd aA) af
theorem bw.v (bG:Nat) (ar:ck P (jt bf g0 bG acc) op ty x) (ag:Nat.beq ops.size (bG+l.length+1)=true) (aW:g0 d=none) (aE:acc.all (λe=>!Nat.beq e.2.1 d)=true) (bd:N.ok d=true) (aP:fw (jt bf g0 bG acc) ops gd)
  (hk:bw P N ops bf g0 i ((bG,d,some x)::acc) l K):bw P N ops bf g0 i acc (⟨some d,op,ty,pos,after,gd⟩::l) K :=
 .st bG (r:=some x) rfl (.inl ⟨aP.wanted,.inl ar⟩) ag aW aE bd hk
theorem bw.c (bG:Nat) (ar:cI P (jt bf g0 bG acc) op x) (ag:Nat.beq ops.size (bG+l.length+1)=true) (aW:g0 d=none) (aE:acc.all (λe=>!Nat.beq e.2.1 d)=true) (bd:N.ok d=true) (aP:fw (jt bf g0 bG acc) ops gd)
  (hk:bw P N ops bf g0 i ((bG,d,some x)::acc) l K):bw P N ops bf g0 i acc (⟨some d,op,ty,pos,after,gd⟩::l) K :=
 .st bG (r:=some x) rfl (.inl ⟨aP.wanted,.inr ar⟩) ag aW aE bd hk
theorem bw.ps (bG:Nat) {vM t':Nat}{b c:Bool}(h:(ops[vM]?).bind (·.dst)=some t') (aP:jt bf g0 bG acc t'=some (a_ c)) (au:c=!b) (ag:Nat.beq ops.size (bG+l.length+1)=true) (aW:g0 d=none) (aE:acc.all (λe=>!Nat.beq e.2.1 d)=true) (bd:N.ok d=true)
  (hk:bw P N ops bf g0 i ((bG,d,some (.bX []))::acc) l K):bw P N ops bf g0 i acc (⟨some d,op,ty,pos,after,some (vM,b)⟩::l) K :=
 .st bG (r:=some (.bX [])) rfl (.inr (.inl ⟨⟨t',h,.inl ⟨c,aP,by subst au; cases b <;> rfl⟩⟩,rfl⟩)) ag aW aE bd hk
theorem bw.pu (bG:Nat) {vM t':Nat}{b:Bool}(h:(ops[vM]?).bind (·.dst)=some t') (aP:jt bf g0 bG acc t'=some (.bX [])) (ag:Nat.beq ops.size (bG+l.length+1)=true) (aW:g0 d=none) (aE:acc.all (λe=>!Nat.beq e.2.1 d)=true) (bd:N.ok d=true)
  (hk:bw P N ops bf g0 i ((bG,d,some (.bX []))::acc) l K):bw P N ops bf g0 i acc (⟨some d,op,ty,pos,after,some (vM,b)⟩::l) K :=
 .st bG (r:=some (.bX [])) rfl (.inr (.inl ⟨⟨t',h,.inr ⟨aP,rfl⟩⟩,rfl⟩)) ag aW aE bd hk
def l7 (G:List (Nat × ab)):Bool:=G.all λp=>match p.2 with | .bM ..=>false | _=>true
theorem vR {G:List (Nat × ab)}(h:l7 G=true):∀ t z q n m new,get G t≠some (.bM z q n m new):=by
 induction G with
 | nil=>intro t z q n m new J; cases J
 | cons p G aU =>
  grind [l7,get]
theorem bw.fin {G G1:List (Nat × ab)}(aX:acc.filterMap jT=[]) (fH:l7 G=true) (hi:Nat.ble i ops.size=true) (h:Trim true (dh (get G) (λ_=>true) acc) (get G1) G1):bw P N ops bf (get G) i acc [] λg'=>j4 g' (get G1):=by
 intro dU j b_ kS lb;have ag:j=ops.size:=by
  have h1:ops.size<=j:=by
   simp_all
  have aI:j<=ops.size:=by
   cases kS with
   | nil=>exact Nat.le_of_ble_eq_true hi
   | step _ aY=>have:=(Array.getElem?_eq_some_iff.1 aY).1; omega
  omega
 subst ag;exact ⟨_,.fin kS (by rw [aX]; exact List.nodup_nil) (vR fH),h.eY⟩
theorem sv.Mg {g g1 g':aJ}{i j:Nat}{dU:Acc}{o:Oper}(b_:mI P N ops bf g i dU) (aA:iI P N ops bf g i dU j acc) (gN:(acc.filterMap jT).Nodup) (fH:∀ t z q n m new,g t≠some (.bM z q n m new)) (aY:ops[j]?=some o) (hw:iz (dh g (λ_=>true) acc) ops o true)
  (he:bl P N (dh g (λ_=>true) acc) o g1) (aR:(List.range j).all (λk=>(bf.getD j []).contains k)=true) (au:(List.range ops.size).all (λk=>decide (k<=j)||(bf.getD k []).contains j)=true) (aj:sv P N ops bf (j+1) [] g1 g'):sv P N ops bf i dU g g':=by
 have ek:∀ e∈acc,(bf.getD j []).contains e.1=true:=λe h=>List.all_eq_true.1 aR e.1 (List.mem_range.2 ((aA.le b_).2 e h));have e:dh g (λm=>(bf.getD j []).contains m) acc=dh g (λ_=>true) acc:=funext λt=>DC λe h _=>ek e h;have f_:[]=acc.filter λe=>!(bf.getD j []).contains e.1:=by
  grind [List.filter_eq_nil_iff]
 exact .wM (rs:=sm []) aA gN fH aY (by rw [e]; exact hw) (by rw [e]; exact he.j7.v) (λp ar=>by simp [sm] at ar) f_ (by simp) (by simp) (by simp) au aj
theorem W.rd {id:Nat}{l:List Oper}{G:List (Nat × ab)}{Φ:Exit->aJ->Prop}(bf:List (List Nat)) (G1:List (Nat × ab)) (hm:P.follows .mixedOrders=true) (ek:o' l.toArray bf=true)
  (h:bw P N l.toArray bf (get G) 0 [] l λg'=>j4 g' (get G1)) (hk:aB .normal Φ G1):W P N (.region id l.toArray true) (get G) Φ:=by
 obtain ⟨g',h1,af⟩:=h [] 0 .nil .nil (by simp);exact (gf.draw hm ek h1).w (hk g' (.eY af .hU))
end
end Go.Own
namespace Go.Own
open Go
variable {α:Type}
section
variable {P:Program}{N:c6}{ops:Array Oper}{g g2:aJ}{K:aJ->Prop}{l:List Oper}{d r:Nat}{ty t t2:TypeId}{pos:String}{after:Array Edge}{a b c:Operand}{k ke:IntKind}{m n:Int}{s u:ByteArray}
namespace O
theorem fF {e:TypeId}{z:Value}{cs:List ab}(aX:(P.info? e).bind (·.zero)=some z) (h1:z.cells.toList.all Value.oneCell'=true) (aa:z.cells.toList.map lO=cs):ck P g (.alloc e) ty (.obj cs):=by
 subst aa; exact .ri (.alloc aX (by rw [<- Array.all_toList]; exact h1))
theorem ej {t:TypeId}{parts:Array (Nat × Operand)}{pl:List (Nat × Nat)}{dH:Value}{ps:List (Nat × List ab)}{cs:List ab}(aw:kC P t pl=true) (aX:(P.info? t).bind (·.zero)=some dH) (h1:dH.cells.toList.all Value.oneCell'=true)
  (ar:rj g parts.toList=some ps) (aa:vc (λi=>pl[i]?) (dH.cells.toList.map lO) ps=some cs):ck P g (.build t parts) ty (.agg cs):=.CP (.build aw aX (by rw [<- Array.all_toList]; exact h1) ar aa)
end O
inductive p5 (g g2:aJ):ab->Prop
 | n {x:ab}(h:cS x):p5 g g2 x
 | p {r k:Nat}{cs cs2:List ab}(h:g r=some (.obj cs)) (hk:k<cs.length) (af:g2 r=some (.obj cs2)) (f':k<cs2.length):p5 g g2 (.ptr ⟨r,[]⟩ k)
 | r {z n N LI q:Nat}{cs cs2:List ab}(h:g q=some (.own z N cs)) (aE:n<=N) (af:g2 q=some (.own z LI cs2)) (n3:n<=LI):p5 g g2 (.a6 z ⟨q,[]⟩ n)
theorem uL {r k:Nat}{cs:List ab}(h:g r=some (.obj cs)) (hk:k<cs.length):gB g (.ptr ⟨r,[]⟩ k):=⟨.obj cs,by simp [bz,h,ab.at],0,0,cs,.inr rfl,hk⟩
theorem Az {z n N q:Nat}{cs:List ab}(h:g q=some (.own z N cs)) (aE:n<=N):gB g (.a6 z ⟨q,[]⟩ n):=.inl ⟨N,cs,by simp [bz,h,ab.at],aE⟩
theorem p5.bW {x:ab}(h:p5 g g2 x):di g2 x:=by
 cases h with
 | n h=>exact .bo h
 | p _ _ af f'=>exact .ref rfl (uL af f')
 | r _ _ af n3=>exact .ref rfl (Az af n3)
theorem p5.yf {x:ab}{Ax k0 m0:Nat}(h:p5 g g2 x):ji (λr=>gB g r/\Clear ⟨Ax,[]⟩ k0 m0 r/\gB g2 r) x:=by
 cases h with
 | n h=>exact .bo h
 | p h hk af f' =>
  refine .ref rfl ⟨uL h hk,?_,uL af f'⟩;intro q bg _ j cW e
  grind [AA]
 | r h hk af f' =>
  refine .ref rfl ⟨Az h hk,?_,Az af f'⟩;intro q bg _ j cW e
  grind [AA]
theorem p5.fA {x:ab}(h:p5 g g2 x):∀ z p n m new,x≠.bM z p n m new:=by
 rintro z p n m new rfl;cases h with
 | n h=>cases h
inductive k_ (g g2:aJ) (r:Nat) (cs2:List ab):List (Nat × ab)->Prop
 | nil:k_ g g2 r cs2 []
 | n {s:Nat}{x:ab}{l:List (Nat × ab)}(da:Nat.beq s r=false) (h:g s=some x) [aE:ch x] (t:k_ g g2 r cs2 l):k_ g g2 r cs2 ((s,x)::l)
 | p {s q k:Nat}{l:List (Nat × ab)}{cs kr:List ab}(da:Nat.beq s r=false) (h:g s=some (.ptr ⟨q,[]⟩ k)) (h1:g q=some (.obj cs)) (hk:Nat.blt k cs.length=true) (af:g2 q=some (.obj kr)) (f':Nat.blt k kr.length=true) (t:k_ g g2 r cs2 l):k_ g g2 r cs2 ((s,.ptr ⟨q,[]⟩ k)::l)
 | w {α:Type}{s q:Nat}{en:bI α}{L:List α}{l:List (Nat × ab)}(da:Nat.beq s r=false) (h:g s=some (.a6 en.z ⟨q,[]⟩ L.length)) (h1:g q=some (ak en L)) (af:g2 q=some (ak en L)) (t:k_ g g2 r cs2 l):k_ g g2 r cs2 ((s,.a6 en.z ⟨q,[]⟩ L.length)::l)
 | b {l:List (Nat × ab)}{x:ab}(e:x=.obj cs2) [aE:dn cs2] (t:k_ g g2 r cs2 l):k_ g g2 r cs2 ((r,x)::l)
theorem k_.spec {cs2:List ab}{l:List (Nat × ab)}(h:k_ g g2 r cs2 l):∀ t x,get l t=some x->(t≠r/\g t=some x/\p5 g g2 x)\/(t=r/\x=.obj cs2/\cS x):=by
 induction h with
 | nil=>intro t x J; cases J
 | @n s x l da h aE _ aU =>
  intro t y av;simp only [get] at av
  split at av
  ·rename_i e;subst e;cases av;exact .inl ⟨Nat.ne_of_beq_eq_false da,h,.n aE.bo⟩
  grind
 | @p s q k l cs kr da h h1 hk af f' _ aU =>
  intro t y av;simp only [get] at av
  split at av
  ·rename_i e;subst e;cases av;exact .inl ⟨Nat.ne_of_beq_eq_false da,h,.p h1 (by simpa using hk) af (by simpa using f')⟩
  grind
 | @w α s q en L l da h h1 af _ aU =>
  intro t y av;simp only [get] at av
  split at av
  ·rename_i e;subst e;cases av;exact .inl ⟨Nat.ne_of_beq_eq_false da,h,.r h1 (Nat.le_refl _) af (Nat.le_refl _)⟩
  grind
 | @b l x e aE _ aU =>
  intro t y av;simp only [get] at av
  split at av
  ·rename_i cf;subst cf;cases av;subst e;exact .inr ⟨rfl,rfl,.obj aE.bo⟩
  grind
theorem bl.box {o:Oper}{k0:Nat}{cs cs' cs2:List ab}{y:ab}{G2:List (Nat × ab)}(aY:o.op=.store t a b) (aS:o.dst=none) (aA:g r=some (.obj cs)) (aR:Rd g a (.ptr ⟨r,[]⟩ k0)) (au:Rd g b y) (aE:cS y) (aa:oC y=some cs') (aX:hx P t cs'.length=true)
  (hk:k0+cs'.length<=cs.length) (aT:0<cs'.length) (he:e8 cs k0 cs'=cs2) [e':dn cs] (aj:get G2 r≠none) (c9:k_ g (get G2) r cs2 G2):bl P N g o (get G2):=by
 subst he;have kd:g r≠none:=by rw [aA]; simp
 refine .store aY aS aR.bs au.bs (.bo (by simpa using aE)) .refl aa aX (p:=⟨r,[]⟩) (nd:=.obj cs) (z:=0) (n:=0) (by simp [bz,aA,ab.at]) (.inr rfl) hk aT (λt x J=>?_) (λt x J y av=>?_) (λt z q n m new J=>?_) aj
 ·rcases c9.spec t x J with ⟨h1,af,_⟩ | ⟨h1,af,_⟩
  all_goals grind [ct,ab.setAt,ab.e8]
 ·rcases c9.spec t x J with ⟨h1,af,aI⟩ | ⟨h1,af,aI⟩
  ·rw [af] at av;cases av;exact aI.yf
  ·subst h1;rw [aA] at av;cases av;exact .bo (.obj e'.bo)
 ·rcases c9.spec t _ J with ⟨_,_,aI⟩ | ⟨_,af,_⟩
  ·exact aI.fA _ _ _ _ _ rfl
  grind
theorem Trim.q {Hi:Bool}{yl q k0:Nat}{cs:List ab}{Fi:List (Nat × ab)}(h:g yl=some (.ptr ⟨q,[]⟩ k0)) (af:g2 q=some (.obj cs)) (hk:Nat.blt k0 cs.length=true) (g_:Trim Hi g g2 Fi):Trim Hi g g2 ((yl,.ptr ⟨q,[]⟩ k0)::Fi) :=
 .r h (.ref rfl (uL af (by simpa using hk))) (by simp) g_
theorem aC.kP {o:Oper}{G2:List (Nat × ab)}(aP:o.guard=none) (he:bl P N g o (get G2)) (hk:aC P N ops l (get G2) K):aC P N ops (o::l) g K:=by
 intro i hi;obtain ⟨h1,af⟩:=drop_cons hi;obtain ⟨g',aj,dj⟩:=hk (i+1) af;refine ⟨g',.j7 h1 ?_ he aj,dj⟩
 grind [iz]
theorem aC.kZ {k0:Nat}{cs cs' cs2:List ab}{y:ab}{G2:List (Nat × ab)}(aA:g r=some (.obj cs)) (aR:Rd g a (.ptr ⟨r,[]⟩ k0)) (au:Rd g b y) [aE:ch y] (aa:oC y=some cs') (aX:hx P t cs'.length=true)
  (hk:Nat.ble (k0+cs'.length) cs.length=true) (aT:Nat.blt 0 cs'.length=true) (he:e8 cs k0 cs'=cs2) [e':dn cs] (aj:(get G2 r).isSome=true) (c9:k_ g (get G2) r cs2 G2) (xh:aC P N ops l (get G2) K):aC P N ops (⟨none,.store t a b,ty,pos,after,none⟩::l) g K :=
 .kP rfl (.box rfl rfl aA aR au aE.bo aa aX (Nat.le_of_ble_eq_true hk) (by simpa using aT) he (by intro e; rw [e] at aj; cases aj) c9) xh
variable {bf:List (List Nat)}{acc:Acc}{i:Nat}
theorem bw.wM (bG:Nat) {G G2:List (Nat × ab)}{o:Oper}(he:bl P N (dh (get G) (λ_=>true) acc) o (get G2)) (aP:o.guard=none) (aX:acc.filterMap jT=[]) (fH:l7 G=true) (ag:Nat.beq ops.size (bG+l.length+1)=true)
  (aR:(List.range bG).all (λk=>(bf.getD bG []).contains k)=true) (au:(List.range ops.size).all (λk=>Nat.ble k bG||(bf.getD k []).contains bG)=true) (hk:bw P N ops bf (get G2) (bG+1) [] l K):bw P N ops bf (get G) i acc (o::l) K:=by
 intro dU j b_ kS lb;have:=zf lb ag;subst this;obtain ⟨h1,af⟩:=drop_cons lb;obtain ⟨g',aj,dj⟩:=hk [] (j+1) .nil .nil af;refine ⟨g',.Mg b_ kS (by rw [aX]; exact List.nodup_nil) (vR fH) h1 ?_ he aR ?_ aj,dj⟩
 ·grind [iz]
 simp_all
theorem bw.kZ (bG:Nat) {G:List (Nat × ab)}{k0:Nat}{cs cs' cs2:List ab}{y:ab}{G2:List (Nat × ab)}(ag:Nat.beq ops.size (bG+l.length+1)=true) (w_:(List.range bG).all (λk=>(bf.getD bG []).contains k)=true) (EE:(List.range ops.size).all (λk=>Nat.ble k bG||(bf.getD k []).contains bG)=true) (JH:acc.filterMap jT=[]) (fH:l7 G=true)
  (aA:dh (get G) (λ_=>true) acc r=some (.obj cs)) (aR:Rd (dh (get G) (λ_=>true) acc) a (.ptr ⟨r,[]⟩ k0)) (au:Rd (dh (get G) (λ_=>true) acc) b y) [aE:ch y] (aa:oC y=some cs') (aX:hx P t cs'.length=true)
  (hk:Nat.ble (k0+cs'.length) cs.length=true) (aT:Nat.blt 0 cs'.length=true) (he:e8 cs k0 cs'=cs2) [e':dn cs] (aj:(get G2 r).isSome=true) (c9:k_ (dh (get G) (λ_=>true) acc) (get G2) r cs2 G2) (xh:bw P N ops bf (get G2) (bG+1) [] l K):bw P N ops bf (get G) i acc (⟨none,.store t a b,ty,pos,after,none⟩::l) K :=
 .wM bG (.box rfl rfl aA aR au aE.bo aa aX (Nat.le_of_ble_eq_true hk) (by simpa using aT) he (by intro e; rw [e] at aj; cases aj) c9) rfl JH fH ag w_ EE xh
end
end Go.Own
namespace Go.Own
open Go
variable {α β:Type}
def nc (m:Int) (z:α):Option (List α):=if 0<=m/\m<=lim then some (List.replicate m.toNat z) else none
def dc (l m:List α):Option (List α):=if l.length+m.length<=lim then some (l++m) else none
class Flat (e:bI α):Prop where sD:∀ a,(e.cells a).all l0=true
instance:Flat al:=⟨λ_=>rfl⟩
instance:Flat qa:=⟨λ_=>rfl⟩
instance:Flat cn:=⟨λ_=>rfl⟩
instance:Flat dw:=⟨λ_=>rfl⟩
instance {e:bI α}:Flat (br e):=⟨λ_=>rfl⟩
theorem YM (e:bI α) [h:Flat e] (l:List α):(bp e l).all l0=true:=by
 refine List.all_eq_true.2 λx J=>?_;obtain ⟨a,_,aR⟩:=List.mem_flatMap.1 J;exact List.all_eq_true.1 (h.sD a) x aR
theorem mA (e:bI α) (l m:List α):(.own e.z (l.length+m.length) (bp e l++bp e m):ab)=ak e (l++m):=by
 grind [F3]
theorem yh (e:bI α) (l:List α):(bp e l).take (l.length * e.z)=bp e l:=by grind [ni]
theorem P2:∀ L:List Int,bp qa L=L.map λb=>.lit (.int .u8 b)
 | []=>rfl
 | x::L=>by
  have:bp qa (x::L)=qX x::bp qa L:=rfl;rw [this,List.map_cons,P2 L]
section
variable {P:Program}{N:c6}{ops:Array Oper}{g g1 g2:aJ}{K:aJ->Prop}{l:List Oper}{d r:Nat}{ty t t2:TypeId}{pos:String}{after:Array Edge}{gd:Option (Nat × Bool)}{a b c:Operand}{k ke:IntKind}{m n:Int}{s u:ByteArray}{p q:Place}
namespace O
theorem dg {e dx:Nat}{parts:Array (Nat × Operand)}{ys:List ab}(en:bI α) (L:List α) (aw:ft P t e en.z=true) (J:gk g (parts.toList.map (·.2))=some ys) (aa:mg ys=some (bp en L)) (aX:ys.all (λy=>match jL y with | some c=>Nat.beq c.length en.z | none=>false)=true)
  (ar:parts.toList=(parts.toList.map (·.2)).mapIdx (λi x=>(i,x))) (aE:(parts.toList.map (·.2)).length=dx) (ai:L.length=dx) (hzero:h' P e en.z=true) (au:Nat.ble (dx * en.z) 16777216=true) (gQ:Nat.ble dx 16777216=true):ck P g (.buildSlice t dx parts) ty (ak en L):=by
 subst aE;have:=p3.buildSlice (P:=P) (ty:=ty) aw ar J (λy av=>by
  grind [Nat.eq_of_beq_eq_true]) aa (Nat.le_of_ble_eq_true au) (Nat.le_of_ble_eq_true gQ) (.inr (Lo hzero))
 unfold ak;rw [ai];exact .ri this
theorem mz {z bA n:Nat}{e:TypeId}(J:Rd g a (.a6 z p n)) (aw:ft P t e bA=true):ck P g (.call { callee:=.builtin .len,args:=#[a],argTypes:=#[t] }) ty (ae n):=.eU (.Cx J.bs aw)
theorem gi {en:bI α}{L:List α}{y:α}{e:TypeId}(ar:bz g p=some (ak en L)) (J:Rd g a (.a6 en.z p L.length)) (hi:Rd g b (.lit (.int k m))) (aw:ft P t e en.z=true) (h:idx L m=some y) (aX:Nat.blt 0 en.z=true):ck P g (.indexAddr t a b) ty (.ptr p (m.toNat * en.z+0)):=by
 obtain ⟨aT,h1,_⟩:=pD h;obtain ⟨j,rfl⟩:=Int.eq_ofNat_of_zero_le aT;have OQ:0<en.z:=by simpa using aX
 have ag:j<L.length:=by omega
 refine .eU (.E8 J.bs hi.bs aw ag ⟨_,ar,_,_,_,.inl rfl,?_⟩)
 simp_all [ni]
theorem YH {en:bI α}{L:List α}{y:α}{o:Nat}(h:idx L m=some y) (aY:o<en.z):m.toNat * en.z+o<(bp en L).length:=by
 obtain ⟨aT,h1,_⟩:=pD h;rw [ni];have af:m.toNat+1<=L.length:=by omega
 calc m.toNat * en.z+o<m.toNat * en.z+en.z:=by omega
  _=(m.toNat+1) * en.z:=by rw [Nat.add_mul]; omega
  _<=L.length * en.z:=Nat.mul_le_mul_right _ af
theorem j8 {en:bI α}{L:List α}{y:α}{cR f off o gb:Nat}(ar:bz g p=some (ak en L)) (J:Rd g a (.ptr p (m.toNat * en.z+o))) (aW:iJ P cR f off t=true) (h:idx L m=some y) (aY:o+off=gb) (aQ:Nat.blt gb en.z=true):ck P g (.fieldAddr cR a f) ty (.ptr p (m.toNat * en.z+gb)):=by
 subst aY;rw [<- Nat.add_assoc];refine .eU (.Br J.bs aW ⟨_,ar,_,_,_,.inl rfl,?_⟩)
 simp_all [Nat.add_assoc,YH]
theorem u9 {en:bI α}{L:List α}{y:α}{o:Nat}{x:ab}(ar:bz g p=some (ak en L)) (h:idx L m=some y) (aa:(en.cells y)[o]?=some x):bz g (p.push (m.toNat * en.z+o))=some x:=by
 rw [tB,ar];exact KN en h aa
theorem iP {en:bI α}{L:List α}{y:α}{o:Nat}{x x':ab}(ar:bz g p=some (ak en L)) (J:Rd g a (.ptr p (m.toNat * en.z+o))) (aw:jA P t=true) (h:idx L m=some y) (aa:(en.cells y)[o]?=some x) (aj:gq 0 (p.push (m.toNat * en.z+o)) x=x'):ck P g (.load t a) ty x':=by
 subst aj;exact .eU (.CB J.bs aw (u9 ar h aa))
theorem XG {en:bI α}{L:List α}{y:α}{o z:Nat}{cs':List ab}(ar:bz g p=some (ak en L)) (J:Rd g a (.ptr p (m.toNat * en.z+o))) (aw:iA P t z=true) (h:idx L m=some y) (aX:Nat.ble (o+z) en.z=true)
  (aa:(((en.cells y).drop o).take z).mapIdx (λi x=>gq 0 (p.push (m.toNat * en.z+o+i)) x)=cs'):ck P g (.load t a) ty (.agg cs'):=by
 have OQ:=Nat.le_of_ble_eq_true aX;have lb:((bp en L).drop (m.toNat * en.z+o)).take z=((en.cells y).drop o).take z:=by
  rw [<- List.drop_drop,KO en h,List.drop_append_of_le_length (by rw [en.len]; omega),List.take_append_of_le_length (by rw [List.length_drop,en.len]; omega)]
 subst aa;rw [<- lb];refine .eU (.xP J.bs aw ar (.inl rfl) ?_);obtain ⟨aT,h1,_⟩:=pD h;rw [ni];have af:m.toNat+1<=L.length:=by omega
 calc m.toNat * en.z+o+z<=m.toNat * en.z+en.z:=by omega
  _=(m.toNat+1) * en.z:=by rw [Nat.add_mul]; omega
  _<=L.length * en.z:=Nat.mul_le_mul_right _ af
end O
class qR (g:aJ):Prop where fA:∀ t z q n m new,g t≠some (.bM z q n m new)
class np (x:ab):Prop where fA:∀ z q n m new,x≠.bM z q n m new
instance {x:ab} [h:ch x]:np x:=⟨by rintro z q n m new rfl; cases h.bo⟩
instance {p:Place}{k:Nat}:np (.ptr p k):=⟨by simp⟩
instance {p:Place}{z n:Nat}:np (.a6 z p n):=⟨by simp⟩
instance {p:Place}{z lo n:Nat}:np (.sub z p lo n):=⟨by simp⟩
instance {cs:List ab}:np (.agg cs):=⟨by simp⟩
instance {cs:List ab}:np (.bX cs):=⟨by simp⟩
instance {cs:List ab}:np (.obj cs):=⟨by simp⟩
instance {g:aJ}{d:Nat}{x:ab} [h:qR g] [J:np x]:qR (cT g d x):=⟨λt z q n m new e=>by
 unfold cT at e
 split at e
 ·cases e; exact J.fA _ _ _ _ _ rfl
 ·exact h.fA _ _ _ _ _ _ e⟩
instance:qR (get []):=⟨λ_ _ _ _ _ _ e=>by cases e⟩
instance {t:Nat}{x:ab}{G:List (Nat × ab)} [J:np x] [h:qR (get G)]:qR (get ((t,x)::G)):=⟨λs z q n m new e=>by
 simp only [get] at e
 split at e
 ·cases e; exact J.fA _ _ _ _ _ rfl
 ·exact h.fA _ _ _ _ _ _ e⟩
class D1 (acc:Acc):Prop where fA:∀ e∈acc,∀ z q n m new,e.2.2≠some (.bM z q n m new)
instance:D1 []:=⟨by simp⟩
instance {j d:Nat}{x:ab}{acc:Acc} [J:np x] [h:D1 acc]:D1 ((j,d,some x)::acc):=⟨λe he z q n m new bY=>by
 rcases List.mem_cons.1 he with rfl | he
 ·exact J.fA z q n m new (Option.some.inj bY)
 ·exact h.fA e he z q n m new bY⟩
instance {G:List (Nat × ab)}{A:Nat->Bool}{acc:Acc} [aP:qR (get G)] [h:D1 acc]:qR (dh (get G) A acc):=⟨λt z q n m new e=>by
 rcases uU e with ⟨cf,he,_,_,af⟩ | ⟨_,af⟩
 ·exact h.fA cf he _ _ _ _ _ af
 ·exact aP.fA _ _ _ _ _ _ af⟩
theorem y1 {L M:List α}{r:List α}{b:Nat}(h:dc L M=some r) (au:Nat.ble b 128=true):L.length+M.length<=4611686018427387904/\(L.length+M.length) * b<=140737488355328/\r=L++M:=by
 unfold dc at h
 split at h
 ·rename_i ai;have l1:=Nat.le_of_ble_eq_true au;have sQ:lim=1099511627776:=rfl;refine ⟨by omega,?_,(Option.some.inj h).symm⟩
  calc (L.length+M.length) * b<=1099511627776 * 128:=Nat.mul_le_mul ai l1
   _=140737488355328:=by decide
 ·cases h
inductive nW (g:aJ) (en:bI α):ab->List α->Prop
 | i {M:List α}:nW g en (.bn en.z M.length (bp en M)) M
 | n:nW g en .aN []
 | o {q:Place}{M:List α}(bg:bz g q=some (ak en M)) (aW:(bp en M).all l0=true):nW g en (.a6 en.z q M.length) M
theorem nW.src {en:bI α}{y:ab}{M:List α}(h:nW g en y M):Src g y en.z M.length (bp en M):=by
 cases h with
 | i=>exact .bn
 | n=>exact .aN
 | o bg aW =>
  have:=Src.a6 (g:=g) (m:=M.length) bg (Nat.le_refl _)
  simp_all [yh,Bt]
theorem nW.flat (en:bI α) [Flat en] {q:Place}{M:List α}(bg:bz g q=some (ak en M)):nW g en (.a6 en.z q M.length) M:=.o bg (YM en M)
namespace O
theorem ap {en:bI α}{L M r:List α}{y:ab}{e gJ:Nat}(aA:Rd g a (.a6 en.z p L.length)) (ar:bz g p=some (ak en L)) (J:Rd g b y) (hm:nW g en y M) (aw:jz P t e en.z gJ=true) (au:Nat.ble gJ 128=true) (h:dc L M=some r) [e':qR g] :
  ck P g (.call { callee:=.builtin .append,args:=#[a,b],argTypes:=#[t,t] }) ty (.bM en.z p L.length M.length (bp en M)):=by
 obtain ⟨h1,af,_⟩:=y1 h au;exact .lP (.grow aA.bs (.inl ⟨_,ar⟩) (λt bA cB m' c0 e=>e'.fA _ _ _ _ _ _ e) J.bs hm.src aw h1 af)
theorem R9 {en:bI α}{M r:List α}{y:ab}{e gJ:Nat}(aA:Rd g a .aN) (J:Rd g b y) (hm:nW g en y M) (aw:jz P t e en.z gJ=true) (au:Nat.ble gJ 128=true) (h:dc [] M=some r) :
  ck P g (.call { callee:=.builtin .append,args:=#[a,b],argTypes:=#[t,t] }) ty (ak en M):=by
 obtain ⟨h1,af,_⟩:=y1 h au;simp only [List.length_nil,Nat.zero_add] at h1 af;exact .lP (.nil aA.bs J.bs hm.src aw h1 af)
end O
inductive mJ (ex:List Nat) (g g2:aJ):List (Nat × ab)->Prop
 | nil:mJ ex g g2 []
 | n {s:Nat}{x:ab}{l:List (Nat × ab)}(da:ex.elem s=false) (h:g s=some x) [aE:ch x] (t:mJ ex g g2 l):mJ ex g g2 ((s,x)::l)
 | p {s q k:Nat}{l:List (Nat × ab)}{kr:List ab}(da:ex.elem s=false) (h:g s=some (.ptr ⟨q,[]⟩ k)) (af:g2 q=some (.obj kr)) (f':Nat.blt k kr.length=true) (t:mJ ex g g2 l):mJ ex g g2 ((s,.ptr ⟨q,[]⟩ k)::l)
 | w {α:Type}{s q:Nat}{en:bI α}{L:List α}{l:List (Nat × ab)}(da:ex.elem s=false) (h:g s=some (.a6 en.z ⟨q,[]⟩ L.length)) (af:g2 q=some (ak en L)) (t:mJ ex g g2 l):mJ ex g g2 ((s,.a6 en.z ⟨q,[]⟩ L.length)::l)
theorem mJ.spec {ex:List Nat}{l:List (Nat × ab)}(h:mJ ex g g2 l):∀ t x,get l t=some x->ex.elem t=false/\g t=some x/\di g2 x/\∀ z p n m new,x≠.bM z p n m new:=by
 induction h with
 | nil=>intro t x J; cases J
 | @n s x l da h aE _ aU =>
  intro t y av;simp only [get] at av
  split at av
  ·rename_i e;subst e;cases av;exact ⟨da,h,.bo aE.bo,by rintro z p n m new rfl; cases aE.bo⟩
  grind
 | @p s q k l kr da h af f' _ aU =>
  intro t y av;simp only [get] at av
  split at av
  ·rename_i e;subst e;cases av;exact ⟨da,h,.ref rfl (uL af (by simpa using f')),by simp⟩
  grind
 | @w α s q en L l da h af _ aU =>
  intro t y av;simp only [get] at av
  split at av
  ·rename_i e;subst e;cases av;exact ⟨da,h,.ref rfl (.inl ⟨_,_,(by simp [bz,af,ab.at]:bz g2 ⟨q,[]⟩=some (ak en L)),Nat.le_refl _⟩),by simp⟩
  grind
theorem mJ.keep {ex:List Nat}{G2:List (Nat × ab)}(h:mJ ex g (get G2) G2) (aP:∀ t,ex.elem t=false->g1 t=g t):hz g1 (get G2) :=
 ⟨λt x J=>by obtain ⟨h1,af,_⟩:=h.spec t x J; rw [aP t h1]; exact af,λt x J=>(h.spec t x J).2.2.1,λt z q n m new J=>(h.spec t _ J).2.2.2 _ _ _ _ _ rfl⟩
theorem Take.row {en:bI α}{L:List α}(ar:bz g p=some (ak en L)):Take g [.a6 en.z p L.length] [ak en L] (ct g p .dead):=by
 have h1:Take (ct g p .dead) ((bp en L).take (L.length * en.z)) (bp en L) (ct g p .dead):=by
  rw [yh]; exact .bo (pN en L)
 exact .a6 ar (Nat.le_refl _) h1 (.bo (by simp))
theorem Take.YJ {en:bI α}{L M:List α}{s:Nat}(aA:g s=some (.bM en.z q L.length M.length (bp en M))) (ar:bz g q=some (ak en L)) (bg:q.root≠s):Take g [.a6 en.z ⟨s,[]⟩ (L.length+M.length)] [ak en (L++M)] (ct (ct g ⟨s,[]⟩ .dead) q .dead):=by
 rw [<- mA];exact .bM aA ar bg (.bo λx J=>(List.mem_append.1 J).elim (pN en L x) (pN en M x)) (.bo (by simp))
theorem Take.YK {en:bI α}{L M M2:List α}{s s2:Nat}(aA:g s=some (.bM en.z ⟨s2,[]⟩ (L.length+M2.length) M.length (bp en M))) (kv:g s2=some (.bM en.z q L.length M2.length (bp en M2))) (ar:bz g q=some (ak en L)) (bg:q.root≠s) (ui:q.root≠s2) (B':s≠s2) :
  Take g [.a6 en.z ⟨s,[]⟩ (L.length+M2.length+M.length)] [ak en (L++M2++M)] (ct (ct (ct g ⟨s,[]⟩ .dead) ⟨s2,[]⟩ .dead) q .dead):=by
 have:=Take.FK (g:=g) (xs:=[]) (xs':=[]) aA kv rfl ar bg ui B' (.bo (xs:=bp en L++bp en M2++bp en M) λx J=>by
  grind [pN]) (.bo (by simp))
 grind [F3]
theorem wm {t:Nat}{y:ab}(h:t≠p.root):ct g p y t=g t:=by
 grind [ct]
theorem zg {ex:List Nat}{t s:Nat}(h:ex.elem t=false) (aA:ex.elem s=true):t≠s:=by
 grind
theorem bl.yY {o:Oper}{en:bI α}{L:List α}{x:Operand}{G2:List (Nat × ab)}(aY:o.op=.assign x) (aS:o.dst=some d) (J:Rd g x (.a6 en.z p L.length)) (ar:bz g p=some (ak en L)) (c9:mJ [p.root] g (get G2) G2) (aP:get G2 d=none) (bd:N.ok d=true):bl P N g o (cT (get G2) d (ak en L)) :=
 .assign aY aS J.bs (.row ar) .refl (c9.keep λt aw=>wm (zg aw (by simp))) aP bd
theorem bl.LV {o:Oper}{en:bI α}{L M:List α}{s:Nat}{x:Operand}{G2:List (Nat × ab)}(aY:o.op=.assign x) (aS:o.dst=some d) (J:Rd g x (.a6 en.z ⟨s,[]⟩ (L.length+M.length))) (aA:g s=some (.bM en.z q L.length M.length (bp en M))) (ar:bz g q=some (ak en L)) (bg:Nat.beq q.root s=false)
  (c9:mJ [s,q.root] g (get G2) G2) (aP:get G2 d=none) (bd:N.ok d=true):bl P N g o (cT (get G2) d (ak en (L++M))) :=
 .assign aY aS J.bs (.YJ aA ar (Nat.ne_of_beq_eq_false bg)) .refl (c9.keep λt aw=>by rw [wm (zg aw (by simp)),wm (zg aw (by simp))]) aP bd
theorem bl.RO {o:Oper}{en:bI α}{L M M2:List α}{s s2:Nat}{x:Operand}{G2:List (Nat × ab)}(aY:o.op=.assign x) (aS:o.dst=some d) (J:Rd g x (.a6 en.z ⟨s,[]⟩ (L.length+M2.length+M.length))) (aA:g s=some (.bM en.z ⟨s2,[]⟩ (L.length+M2.length) M.length (bp en M)))
  (kv:g s2=some (.bM en.z q L.length M2.length (bp en M2))) (ar:bz g q=some (ak en L)) (bg:Nat.beq q.root s=false) (ui:Nat.beq q.root s2=false) (B':Nat.beq s s2=false)
  (c9:mJ [s,s2,q.root] g (get G2) G2) (aP:get G2 d=none) (bd:N.ok d=true):bl P N g o (cT (get G2) d (ak en (L++M2++M))) :=
 .assign aY aS J.bs (.YK aA kv ar (Nat.ne_of_beq_eq_false bg) (Nat.ne_of_beq_eq_false ui) (Nat.ne_of_beq_eq_false B')) .refl (c9.keep λt aw=>by rw [wm (zg aw (by simp)),wm (zg aw (by simp)),wm (zg aw (by simp))]) aP bd
theorem aC.q3 {o:Oper}{x:ab}{G2:List (Nat × ab)}(aP:o.guard=none) (he:bl P N g o (cT (get G2) d x)) (hk:aC P N ops l (cT (get G2) d x) K):aC P N ops (o::l) g K:=by
 intro i hi;obtain ⟨h1,af⟩:=drop_cons hi;obtain ⟨g',aj,dj⟩:=hk (i+1) af;refine ⟨g',.j7 h1 ?_ he aj,dj⟩
 grind [iz]
theorem sE {x:ab}{G:List (Nat × ab)}:cT (get G) d x=get ((d,x)::G):=by
 grind [cT,get]
variable {bf:List (List Nat)}{acc:Acc}{i:Nat}
inductive A7 (P:Program):aJ->List ResultVar->List ab->List ab->aJ->Prop
 | nil {g:aJ}:A7 P g [] [] [] g
 | f {g g':aJ}{t:Nat}{x:ab}{rs:List ResultVar}{ys xs:List ab}(h:g t=some x) (aW:l0 x=true) [aE:ch x] (aw:A7 P g rs ys xs g'):A7 P g (.tmp t::rs) (x::ys) (x::xs) g'
 | o {g g':aJ}{t:Nat}{en:bI α}{L:List α}{rs:List ResultVar}{ys xs:List ab}(h:g t=some (ak en L)) (aw:A7 P (ct g ⟨t,[]⟩ .dead) rs ys xs g'):A7 P g (.tmp t::rs) (.a6 en.z ⟨t,[]⟩ L.length::ys) (ak en L::xs) g'
end
end Go.Own
namespace Go.Own
open Go
variable {α β:Type}
section
variable {P:Program}{N:c6}{ops:Array Oper}{g g' g1 g2:aJ}{K:aJ->Prop}{l:List Oper}{d r:Nat}{ty t t2:TypeId}{pos:String}{after:Array Edge}{a b c:Operand}{p q:Place}{e:Exit}
inductive nq (s:Nat):aJ->Nat->List ab->List ab->aJ->Prop
 | nil {g:aJ}{i:Nat}:nq s g i [] [] g
 | f {g g':aJ}{i:Nat}{x:ab}{ys xs:List ab}(aW:l0 x=true) [aE:ch x] (aw:nq s g (i+1) ys xs g'):nq s g i (x::ys) (x::xs) g'
 | o {α:Type}{g g':aJ}{i:Nat}{en:bI α}{L:List α}{ys xs:List ab}(ar:bz g ⟨s,[i]⟩=some (ak en L)) (aw:nq s (ct g ⟨s,[i]⟩ .dead) (i+1) ys xs g'):nq s g i (.a6 en.z ⟨s,[i]⟩ L.length::ys) (ak en L::xs) g'
theorem nq.take {s i:Nat}{ys xs:List ab}(h:nq s g i ys xs g'):Take g ys xs g':=by
 induction h with
 | nil=>exact .bo (by simp)
 | @f g g' i x ys xs aW aE _ aU=>exact .cons aE.bo aU
 | @o α g g' i en L ys xs ar _ aU =>
  refine .a6 ar (Nat.le_refl _) ?_ aU;rw [yh]; exact .bo (pN en L)
inductive j0 (P:Program):aJ->List ResultVar->List ab->List ab->aJ->Prop
 | nil {g:aJ}:j0 P g [] [] [] g
 | f {g g':aJ}{t:Nat}{x:ab}{rs:List ResultVar}{ys xs:List ab}(h:g t=some x) (aW:l0 x=true) [aE:ch x] (aw:j0 P g rs ys xs g'):j0 P g (.tmp t::rs) (x::ys) (x::xs) g'
 | o {α:Type}{g g':aJ}{t:Nat}{en:bI α}{L:List α}{rs:List ResultVar}{ys xs:List ab}(h:g t=some (ak en L)) (aw:j0 P (ct g ⟨t,[]⟩ .dead) rs ys xs g'):j0 P g (.tmp t::rs) (.a6 en.z ⟨t,[]⟩ L.length::ys) (ak en L::xs) g'
 | c {g g' w6:aJ}{t z:Nat}{ty:TypeId}{cs ys0:List ab}{rs:List ResultVar}{ys xs:List ab}(h:g t=some (.obj cs)) (aw:iA P ty z=true) (aX:cs.length=z) (aT:Nat.blt 0 z=true) (av:(cs.mapIdx λi x=>gq 0 ⟨t,[i]⟩ x)=ys0) (hk:nq t g 0 ys0 cs w6) (aj:j0 P w6 rs ys xs g'):j0 P g (.cell t ty::rs) (.agg ys0::ys) (.agg cs::xs) g'
def yE (g0 g:aJ):Prop:=∀ t x,g t=some x->(l0 x=true\/(∃ z n cs,x=.own z n cs))->g0 t=some x
theorem yE.set {g0:aJ}{t:Nat}{pp:List Nat}(h:yE g0 g) (aY:pp=[]\/∃ cs,g t=some (.obj cs)):yE g0 (ct g ⟨t,pp⟩ .dead):=by
 intro s x J aW;unfold ct at J
 split at J
 ·rename_i aA;simp only at aA J;subst aA;exfalso;cases aP:g s with
  | none=>rw [aP] at J; cases J
  | some y =>
   rw [aP] at J;simp only [Option.map_some,Option.some.injEq] at J;rcases aY with rfl | ⟨cs,aa⟩
   ·simp only [ab.setAt] at J;subst J;rcases aW with aW | ⟨_,_,_,aW⟩ <;> cases aW
   ·rw [aP] at aa;cases aa;have:∃ cs',x=.obj cs':=by
     subst J;cases pp with
     | nil=>simp only [ab.setAt] at aW; rcases aW with aW | ⟨_,_,_,aW⟩ <;> cases aW
     | cons k pp =>
      simp only [ab.setAt,ab.kids];split
      ·exact ⟨_,rfl⟩
      ·exact ⟨_,rfl⟩
    obtain ⟨cs',rfl⟩:=this;rcases aW with aW | ⟨_,_,_,aW⟩ <;> cases aW
 ·exact h s x J aW
theorem nq.TI {g0:aJ}{s i:Nat}{ys xs:List ab}(h:nq s g i ys xs g'):(∃ cs,g s=some (.obj cs))->yE g0 g->yE g0 g':=by
 induction h with
 | nil=>exact λ_ h=>h
 | f _ _ aU=>exact aU
 | @o α g g' i en L ys xs ar _ aU =>
  intro aY aS;refine aU ?_ (aS.set (.inr aY));obtain ⟨cs,aa⟩:=aY;unfold ct;simp only [if_pos,aa,Option.map_some,ab.setAt,ab.kids];split
  ·exact ⟨_,rfl⟩
  ·exact ⟨_,rfl⟩
theorem nq.out {s i:Nat}{ys xs:List ab}(h:nq s g i ys xs g'):∀ t,t≠s->g' t=g t:=by
 induction h with
 | nil=>exact λ_ _=>rfl
 | f _ _ aU=>exact aU
 | o _ _ aU=>exact λt aw=>by rw [aU t aw,wm aw]
theorem j0.take {rs:List ResultVar}{ys xs:List ab}(h:j0 P g rs ys xs g'):Take g ys xs g':=by
 induction h with
 | nil=>exact .bo (by simp)
 | @f g g' t x rs ys xs h aW aE _ aU=>exact .cons aE.bo aU
 | @o α g g' t en L rs ys xs h _ aU =>
  have ar:bz g ⟨t,[]⟩=some (ak en L):=by simp [bz,h,ab.at]
  refine .a6 ar (Nat.le_refl _) ?_ aU;rw [yh]; exact .bo (pN en L)
 | @c g g' w6 t z ty cs ys0 rs ys xs h aw aX aT av hk _ aU=>exact .agg hk.take aU
theorem j0.vs {rs:List ResultVar}{ys xs:List ab}(h:j0 P g rs ys xs g'):∀ g0:aJ,yE g0 g->(∀ t ty,ResultVar.cell t ty∈rs->∀ cs,g t=some (.obj cs)->g0 t=some (.obj cs))->(rs.filterMap fun | .cell t _=>some t | _=>none).Nodup->rJ P g0 rs ys:=by
 induction h with
 | nil=>exact λ_ _ _ _=>.nil
 | @f g g' t x rs ys xs h aW aE _ aU =>
  intro g0 aS au fr;exact .cons (.tmp (Rd.f (aS t x h (.inl aW)) aW)) (aU g0 aS (λt ty hm=>au t ty (List.mem_cons_of_mem _ hm)) (by simpa using fr))
 | @o α g g' t en L rs ys xs h _ aU =>
  intro g0 aS au fr;refine .cons (.tmp ?_) (aU g0 (aS.set (.inl rfl)) (λs ty hm cs aa=>?_) (by simpa using fr))
  ·have:=aS t _ h (.inr ⟨_,_,_,rfl⟩);simp [Own.bs,this,rp,gq]
  ·by_cases aA:s=t
   ·subst aA; simp [ct,h,ab.setAt] at aa
   ·rw [wm aA] at aa; exact au s ty (List.mem_cons_of_mem _ hm) cs aa
 | @c g g' w6 t z ty cs ys0 rs ys xs h aw aX aT av hk _ aU =>
  intro g0 aS au fr;have h1:=au t ty (by simp) cs h;simp only [List.filterMap_cons,List.nodup_cons] at fr;refine .cons ?_ (aU g0 (hk.TI ⟨cs,h⟩ aS) (λs yq hm cs' aa=>?_) fr.2)
  ·have OQ:0<z:=by simpa using aT
   have J:Own.bs g0 (.tmp t)=some (.ptr ⟨t,[]⟩ 0):=by
    cases cs with
    | nil=>simp at aX; omega
    | cons c cs=>simp [Own.bs,h1,rp,gq]
   have:=c8.xP (P:=P) (ty:=ty) (p:=⟨t,[]⟩) (n:=0) (z:=0) J aw (by simp only [bz,h1,ab.at]) (.inr rfl) (show 0+z<=cs.length by omega);have hJ:((cs.drop 0).take z).mapIdx (λi x=>gq 0 (Place.push ⟨t,[]⟩ (0+i)) x)=ys0:=by
    rw [List.drop_zero,List.take_of_length_le (by omega),<- av];congr 1;funext i x;simp [Place.push]
   rw [hJ] at this;exact .cell this
  ·have b0:s≠t:=by
    rintro rfl;exact fr.1 (List.mem_filterMap.2 ⟨.cell s yq,hm,rfl⟩)
   have:=hk.out s b0;rw [this] at aa;exact au s yq (List.mem_cons_of_mem _ hm) cs' aa
inductive qT (g:aJ) (pins:List Nat):Nat->List (Option ab)->Prop
 | nil {i:Nat}:qT g pins i []
 | no {i:Nat}{os:List (Option ab)}(t:qT g pins (i+1) os):qT g pins i (none::os)
 | ao {i:Nat}{x:ab}{os:List (Option ab)}(h:g i=some x) [aE:ch x] (ar:pins.elem i=true) (t:qT g pins (i+1) os):qT g pins i (some x::os)
theorem qT.spec {pins:List Nat}{i:Nat}{os:List (Option ab)}(h:qT g pins i os):∀ k x,os[k]?=some (some x)->g (i+k)=some x/\cS x/\i+k∈pins:=by
 induction h with
 | nil=>intro k x hk; simp at hk
 | no _ aU =>
  intro k x hk;cases k with
  | zero=>simp at hk
  | succ k=>have:=aU k x (by simpa using hk); rw [Nat.add_assoc,Nat.add_comm 1 k] at this; exact this
 | @ao i y os h aE ar _ aU =>
  intro k x hk;cases k with
  | zero=>simp at hk; subst hk; exact ⟨h,aE.bo,by simpa using ar⟩
  | succ k=>have:=aU k x (by simpa using hk); rw [Nat.add_assoc,Nat.add_comm 1 k] at this; exact this
theorem Fin.ro {rs:List ResultVar}{ys xs:List ab}{res:ab}{outs:List (Option ab)}{n:Nat}(h:j0 P g rs ys xs g') (he:qz xs=res) (fr:(rs.filterMap fun | .cell t _=>some t | _=>none).Nodup) (aY:qT g' N.pins 0 outs) (ai:outs.length=n) (J:e=.normal\/e=.ret):Fin P N rs n outs res e g :=
 ⟨J,⟨ys,xs,g',h.vs g (λ_ _ h _=>h) (λ_ _ _ _ h=>h) fr,h.take,he.symm,λk x hk=>by have:=aY.spec k x hk; rw [Nat.zero_add] at this; exact this⟩,ai⟩
class iY (x y:ab):Prop where v:∀ g,View g x y
class dq (xs ys:List ab):Prop where
 l:ys.length=xs.length
 v:∀ (g:aJ) (k:Nat) (x y:ab),xs[k]?=some x->ys[k]?=some y->View g x y
class gO (e cf:bI α):Prop where
 z:e.z=cf.z
 v:∀ a,dq (e.cells a) (cf.cells a)
instance {v:Value}:iY (.lit v) (.lit v):=⟨λ_=>.self .lit (by simp) (by simp) (by simp) (by simp) (by simp)⟩
instance:iY .aN .aN:=⟨λ_=>.self .aN (by simp) (by simp) (by simp) (by simp) (by simp)⟩
instance {z n:Nat}{cs:List ab} [h:dn cs]:iY (.bn z n cs) (.bn z n cs):=⟨λ_=>.self (.bn h.bo) (by simp) (by simp) (by simp) (by simp) (by simp)⟩
instance {cs:List ab} [h:dn cs]:iY (.cG cs) (.cG cs):=⟨λ_=>.self (.cG h.bo) (by simp) (by simp) (by simp) (by simp) (by simp)⟩
instance {e:bI α}:iY .aN (ah e []):=⟨λ_=>.qv⟩
instance:dq [] []:=⟨rfl,by simp⟩
instance {x y:ab}{xs ys:List ab} [h:iY x y] [aL:dq xs ys]:dq (x::xs) (y::ys):=⟨by simp [aL.l],λg k a b aR au=>by
 cases k with
 | zero=>simp at aR au; subst aR au; exact h.v g
 | succ k=>exact aL.v g k a b (by simpa using aR) (by simpa using au)⟩
theorem DE (e cf:bI α) [h:gO e cf]:∀ L:List α,(bp cf L).length=(bp e L).length/\∀ (g:aJ) (k:Nat) (x y:ab),(bp e L)[k]?=some x->(bp cf L)[k]?=some y->View g x y
 | []=>⟨rfl,by simp [bp]⟩
 | a::L=>by
  obtain ⟨h1,af⟩:=DE e cf L;have TS:∀ e:bI α,bp e (a::L)=e.cells a++bp e L:=λe=>by simp [bp]
  refine ⟨by rw [ni,ni,h.z],λg k x y J av=>?_⟩;rw [TS] at J av;by_cases hk:k<e.z
  ·rw [List.getElem?_append_left (by rw [e.len]; exact hk)] at J;rw [List.getElem?_append_left (by rw [cf.len,<- h.z]; exact hk)] at av;exact (h.v a).v g k x y J av
  ·rw [List.getElem?_append_right (by rw [e.len]; omega),e.len] at J;rw [List.getElem?_append_right (by rw [cf.len,<- h.z]; omega),cf.len,<- h.z] at av;exact af g _ x y J av
instance {e cf:bI α}{L:List α} [h:gO e cf]:iY (ak e L) (ah cf L):=⟨λg=>by
 have:=DE e cf L;show View g (.own e.z L.length (bp e L)) (.bn cf.z L.length (bp cf L));rw [<- h.z];exact .own this.1 (this.2 g)⟩
instance:gO al al:=⟨rfl,λa=>(inferInstance:dq [ae a] [ae a])⟩
instance:gO qa qa:=⟨rfl,λa=>(inferInstance:dq [qX a] [qX a])⟩
instance:gO cn cn:=⟨rfl,λa=>(inferInstance:dq [a_ a] [a_ a])⟩
instance:gO dw dw:=⟨rfl,λa=>(inferInstance:dq [ax a] [ax a])⟩
instance {e cf:bI α} [h:gO e cf]:gO (MU e) (br cf):=⟨rfl,λa=>(inferInstance:dq [ak e a] [ah cf a])⟩
instance {e:bI α}:gO (br e) (br e):=⟨rfl,λa=>(inferInstance:dq [ah e a] [ah e a])⟩
theorem View.row {e cf:bI α}{L:List α} [h:gO e cf] (ar:bz g p=some (ak e L)):View g (.a6 e.z p L.length) (ah cf L):=by
 have:=DE e cf L;show View g _ (.bn cf.z L.length (bp cf L));rw [<- h.z];refine .a6 ar (Nat.le_refl _) (by rw [yh]; exact this.1) (λk x y J av=>?_);rw [yh] at J;exact this.2 g k x y J av
inductive oy (g:aJ):List ab->List ab->Prop
 | nil:oy g [] []
 | s {x y:ab}{xs ys:List ab} [h:iY x y] (t:oy g xs ys):oy g (x::xs) (y::ys)
 | c {x y:ab}{xs ys:List ab}(h:View g x y) (t:oy g xs ys):oy g (x::xs) (y::ys)
theorem oy.len {xs ys:List ab}(h:oy g xs ys):ys.length=xs.length:=by
 induction h with
 | nil=>rfl
 | s _ aU=>simp [aU]
 | c _ _ aU=>simp [aU]
theorem oy.get {xs ys:List ab}(h:oy g xs ys):∀ (k:Nat) (x y:ab),xs[k]?=some x->ys[k]?=some y->View g x y:=by
 induction h with
 | nil=>intro k x y J; simp at J
 | @s x y xs ys h _ aU =>
  intro k a b aR au;cases k with
  | zero=>simp at aR au; subst aR au; exact h.v g
  | succ k=>exact aU k a b (by simpa using aR) (by simpa using au)
 | @c x y xs ys h _ aU =>
  intro k a b aR au;cases k with
  | zero=>simp at aR au; subst aR au; exact h
  | succ k=>exact aU k a b (by simpa using aR) (by simpa using au)
theorem View.mK {xs ys:List ab}(h:oy g xs ys):View g (.agg xs) (.agg ys):=.agg h.len h.get
class p2 (x:ab):Prop where ln:kH x
class jv (cs:List ab):Prop where ln:∀ x∈cs,kH x
class lW (e:bI α):Prop where ln:∀ a,jv (e.cells a)
instance {v:Value}:p2 (.lit v):=⟨.lit⟩
instance:p2 .aN:=⟨.aN⟩
instance:jv []:=⟨by simp⟩
instance {x:ab}{xs:List ab} [h:p2 x] [aL:jv xs]:jv (x::xs):=⟨λy av=>by
 rcases List.mem_cons.1 av with rfl | av
 ·exact h.ln
 ·exact aL.ln y av⟩
instance {e:bI α}{L:List α} [h:lW e]:jv (bp e L):=⟨λx J=>by
 obtain ⟨a,_,aR⟩:=List.mem_flatMap.1 J;exact (h.ln a).ln x aR⟩
instance {z n:Nat}{cs:List ab} [h:jv cs]:p2 (.own z n cs):=⟨.own h.ln⟩
instance {cs:List ab} [h:jv cs]:p2 (.obj cs):=⟨.obj h.ln⟩
instance {cs:List ab} [h:jv cs]:p2 (.agg cs):=⟨.agg h.ln⟩
instance {cs:List ab} [h:jv cs]:p2 (.bX cs):=⟨.bX h.ln⟩
instance {e:bI α}{a:α} [h:lW e]:jv (e.cells a):=h.ln a
instance:lW al:=⟨λa=>(inferInstance:jv [ae a])⟩
instance:lW qa:=⟨λa=>(inferInstance:jv [qX a])⟩
instance:lW cn:=⟨λa=>(inferInstance:jv [a_ a])⟩
instance:lW dw:=⟨λa=>(inferInstance:jv [ax a])⟩
instance {e:bI α} [h:lW e]:lW (MU e):=⟨λa=>(inferInstance:jv [ak e a])⟩
theorem Pm {outs:List (Option ab)}{args:List ab}(aY:sk outs=true) (ai:outs.length=args.length):outs=args.map λ_=>none:=by
 apply List.ext_getElem?;intro k;rw [List.getElem?_map];cases av:args[k]? with
 | none=>rw [List.getElem?_eq_none (by rw [ai]; exact List.getElem?_eq_none_iff.1 av)]; rfl
 | some y =>
  have hk:k<outs.length:=by rw [ai]; exact (List.getElem?_eq_some_iff.1 av).1
  have h1:=List.getElem?_eq_getElem hk;rw [h1];cases af:outs[k] with
  | none=>rfl
  | some x=>rw [af] at h1; exact absurd h1 (FC aY k x)
theorem cI.vw {xs:List Operand}{gl:Array TypeId}{f:FuncId}{ys args:List ab}{outs:List (Option ab)}{res:ab}(J:gk g xs=some ys) (hv:oy g ys args) (gM:bR P f args outs res) (aW:hp P f=true) (aY:sk outs=true) [aj:p2 res] :
  cI P g (.call { callee:=.value (.func f),args:=xs.toArray,argTypes:=gl }) res:=by
 have e:=Pm aY gM.1;refine .Fl (first:=[]) (caps:=[]) (ys:=ys) (args:=args) rfl (by simpa using J) aW (by simpa using hv.len) (λk x y J av=>hv.get k x y (by simpa using J) av) ?_ aj.ln;rw [<- e]; exact gM
end
end Go.Own
namespace Go.Own
open Go
variable {α β:Type}
section
variable {P:Program}{N:c6}{ops:Array Oper}{g g' g1 g2:aJ}{K:aJ->Prop}{l:List Oper}{d r:Nat}{op:Op}{ty t t2:TypeId}{pos:String}{after:Array Edge}{gd:Option (Nat × Bool)}{a b c:Operand}{p q:Place}{x y:ab}
variable {bf:List (List Nat)}{g0:aJ}{acc:Acc}{i:Nat}
instance {cs cs':List ab} [h:dq cs cs']:iY (.obj cs) (.cG cs'):=⟨λg=>.obj h.l (h.v g)⟩
instance {cs cs':List ab} [h:dq cs cs']:iY (.agg cs) (.agg cs'):=⟨λg=>.agg h.l (h.v g)⟩
instance {z n:Nat}{cs cs':List ab} [h:dq cs cs']:iY (.own z n cs) (.bn z n cs'):=⟨λg=>.own h.l (h.v g)⟩
theorem aC.fl (ar:ck P g op ty y) [aE:ch y] [hv:iY y x] (bd:N.ok d=true) (aW:g d=none) (aP:fw g ops gd) (hk:aC P N ops l (cT g d x) K):aC P N ops (⟨some d,op,ty,pos,after,gd⟩::l) g K :=
 .AH rfl bd aW (r:=some x) (.inr (.inr ⟨aP.wanted,y,.inl ar,aE.bo,hv.v _⟩)) hk
theorem bw.fl (bG:Nat) (ar:ck P (jt bf g0 bG acc) op ty y) [aE:ch y] [hv:iY y x] (ag:Nat.beq ops.size (bG+l.length+1)=true) (aW:g0 d=none) (kt:acc.all (λe=>!Nat.beq e.2.1 d)=true) (bd:N.ok d=true) (aP:fw (jt bf g0 bG acc) ops gd)
  (hk:bw P N ops bf g0 i ((bG,d,some x)::acc) l K):bw P N ops bf g0 i acc (⟨some d,op,ty,pos,after,gd⟩::l) K :=
 .st bG (r:=some x) rfl (.inr (.inr ⟨aP.wanted,y,.inl ar,aE.bo,hv.v _⟩)) ag aW kt bd hk
inductive nY (ex:List Nat) (g g2:aJ):List (Nat × ab)->Prop
 | nil:nY ex g g2 []
 | n {s:Nat}{x:ab}{l:List (Nat × ab)}(da:ex.elem s=false) (h:g s=some x) [aE:ch x] (t:nY ex g g2 l):nY ex g g2 ((s,x)::l)
 | p {s q k:Nat}{l:List (Nat × ab)}{kr:List ab}(da:ex.elem s=false) (h:g s=some (.ptr ⟨q,[]⟩ k)) (af:g2 q=some (.obj kr)) (f':Nat.blt k kr.length=true) (t:nY ex g g2 l):nY ex g g2 ((s,.ptr ⟨q,[]⟩ k)::l)
 | z {s:Nat}{x y:ab}{l:List (Nat × ab)}(he:ex.elem s=true) (h:g s=some y) [aE:ch y] (hv:hZ y x) [J:np x] (t:nY ex g g2 l):nY ex g g2 ((s,x)::l)
theorem nY.spec {ex:List Nat}{l:List (Nat × ab)}(h:nY ex g g2 l):∀ t x,get l t=some x->((ex.elem t=false/\g t=some x/\di g2 x)\/(ex.elem t=true/\∃ y,g t=some y/\cS y/\hZ y x))/\∀ z p n m new,x≠.bM z p n m new:=by
 induction h with
 | nil=>intro t x J; cases J
 | @n s x l da h aE _ aU =>
  intro t y av;simp only [get] at av
  split at av
  ·rename_i e;subst e;cases av;exact ⟨.inl ⟨da,h,.bo aE.bo⟩,by rintro z p n m new rfl; cases aE.bo⟩
  grind
 | @p s q k l kr da h af f' _ aU =>
  intro t y av;simp only [get] at av
  split at av
  ·rename_i e;subst e;cases av;exact ⟨.inl ⟨da,h,.ref rfl (uL af (by simpa using f'))⟩,by simp⟩
  grind
 | @z s x y l he h aE hv J _ aU =>
  intro t y' av;simp only [get] at av
  split at av
  ·rename_i e;subst e;cases av;exact ⟨.inr ⟨he,y,h,aE.bo,hv⟩,J.fA⟩
  grind
theorem nY.vd {ex:List Nat}{G2:List (Nat × ab)}(h:nY ex g (get G2) G2):GW (λt=>ex.elem t) g (get G2):=by
 refine ⟨λt x J aw=>?_,λt x J aw=>?_,λt z q n m new J=>(h.spec t _ J).2 _ _ _ _ _ rfl⟩
 ·rcases (h.spec t x J).1 with ⟨_,h1,af⟩ | ⟨h1,_⟩
  ·grind
  grind
 ·rcases (h.spec t x J).1 with ⟨h1,_⟩ | ⟨_,af⟩
  ·grind
  grind
theorem W.dL {bB:Code}{G G1:List (Nat × ab)}{Φ:Exit->aJ->Prop}(ex:List Nat) (h:nY ex (get G) (get G1) G1) (hw:W P N bB (get G1) Φ):W P N bB (get G) Φ:=by
 intro Q a w I Fs bk bd dM;obtain ⟨I',b5,dX,b0⟩:=bk.vd h.vd;exact hw dX bd λe g' b' w' he aE=>dM e g' b' w' he (h2.trans rfl hy.refl b0 aE)
theorem aC.dL {G1:List (Nat × ab)}(ex:List Nat) (h:nY ex g (get G1) G1) (hk:aC P N ops l (get G1) K):aC P N ops l g K:=by
 intro i hi;obtain ⟨g',aj,dj⟩:=hk i hi;exact ⟨g',.vd h.vd aj,dj⟩
theorem Take.pre {xs xs':List ab}:∀ {ps:List ab},(∀ x∈ps,cS x)->Take g xs xs' g'->Take g (ps++xs) (ps++xs') g'
 | [],_,h=>h
 | x::ps,aE,h=>.cons (aE x (by simp)) (Take.pre (ps:=ps) (λy av=>aE y (List.mem_cons_of_mem _ av)) h)
inductive e_:aJ->List ab->List ab->aJ->Prop
 | nil {g:aJ}:e_ g [] [] g
 | ky {g:aJ}{xs:List ab} [aE:dn xs]:e_ g xs xs g
 | f {g g':aJ}{x:ab}{xs xs':List ab} [aE:ch x] (t:e_ g xs xs' g'):e_ g (x::xs) (x::xs') g'
 | r {α:Type}{g g':aJ}{p:Place}{en:bI α}{L:List α}{xs xs':List ab}(ar:bz g p=some (ak en L)) (t:e_ (ct g p .dead) xs xs' g'):e_ g (.a6 en.z p L.length::xs) (ak en L::xs') g'
 | l {g g1 g':aJ}{p:Place}{z n:Nat}{cs cs' xs xs':List ab}(ar:bz g p=some (.own z n cs)) (ai:cs.length=n * z) (h1:e_ (ct g p .dead) cs cs' g1) (t:e_ g1 xs xs' g'):e_ g (.a6 z p n::xs) (.own z n cs'::xs') g'
 | hE {α:Type}{g g1 g':aJ}{q:Place}{s m:Nat}{en:bI α}{L:List α}{new c0 xs xs':List ab}(aA:g s=some (.bM en.z q L.length m new)) (ar:bz g q=some (ak en L)) (bg:Nat.beq q.root s=false) (h1:e_ (ct (ct g ⟨s,[]⟩ .dead) q .dead) new c0 g1) (t:e_ g1 xs xs' g') :
   e_ g (.a6 en.z ⟨s,[]⟩ (L.length+m)::xs) (.own en.z (L.length+m) (bp en L++c0)::xs') g'
 | mK {g g1 g':aJ}{cs cs' xs xs':List ab}(h1:e_ g cs cs' g1) (t:e_ g1 xs xs' g'):e_ g (.agg cs::xs) (.agg cs'::xs') g'
 | m {g g':aJ}{p:Place}{q:Array MapEntry->Nat->Prop}{xs xs':List ab}(ar:bz g p=some (.mp q)) (t:e_ (ct g p .dead) xs xs' g'):e_ g (.gw p::xs) (.mp q::xs') g'
 | b {g g1 g':aJ}{p:Place}{cs cs' xs xs':List ab}(ar:bz g p=some (.obj cs)) (h1:e_ (ct g p .dead) cs cs' g1) (t:e_ g1 xs xs' g'):e_ g (.ptr p 0::xs) (.obj cs'::xs') g'
theorem e_.take {xs xs':List ab}(h:e_ g xs xs' g'):Take g xs xs' g':=by
 induction h with
 | m ar _ aU=>exact .mp ar (.bo (by simp)) aU
 | nil=>exact .bo (by simp)
 | @ky g xs aE=>exact .bo aE.bo
 | @f g g' x xs xs' aE _ aU=>exact .cons aE.bo aU
 | @r α g g' p en L xs xs' ar _ aU =>
  refine .a6 ar (Nat.le_refl _) ?_ aU;rw [yh];exact .bo (pN en L)
 | @l g g1 g' p z n cs cs' xs xs' ar ai _ _ gv gh =>
  refine .a6 ar (Nat.le_refl _) ?_ gh
  grind
 | @hE α g g1 g' q s m en L new c0 xs xs' aA ar bg _ _ gv gh=>exact .bM aA ar (Nat.ne_of_beq_eq_false bg) (.pre (pN en L) gv) gh
 | @mK g g1 g' cs cs' xs xs' _ _ gv gh=>exact .agg gv gh
 | @b g g1 g' p cs cs' xs xs' ar _ _ gv gh=>exact .obj ar gv gh
inductive fo:List ab->List ab->Prop
 | nil:fo [] []
 | hU {xs:List ab}:fo xs xs
 | f {x:ab}{xs ys:List ab}(t:fo xs ys):fo (x::xs) (x::ys)
 | o {z:Nat}{xs ys:List ab}(t:fo xs ys):fo (.aN::xs) (.own z 0 []::ys)
 | z {x y:ab}{xs ys:List ab} [aE:ch x] [hv:iY x y] (t:fo xs ys):fo (x::xs) (y::ys)
 | g {x y:ab}{xs ys:List ab}(h:hZ x y) (t:fo xs ys):fo (x::xs) (y::ys)
theorem fo.len {xs ys:List ab}(h:fo xs ys):ys.length=xs.length:=by
 induction h with
 | nil=>rfl
 | hU=>rfl
 | f _ aU=>simp [aU]
 | o _ aU=>simp [aU]
 | z _ aU=>simp [aU]
 | g _ _ aU=>simp [aU]
theorem fo.get {xs ys:List ab}(h:fo xs ys):∀ (k:Nat) (x y:ab),xs[k]?=some x->ys[k]?=some y->hZ x y:=by
 induction h with
 | nil=>intro k x y J; simp at J
 | hU=>intro k x y J av; rw [J] at av; cases av; exact .refl
 | @f x xs ys _ aU =>
  intro k a b aR au;cases k with
  | zero=>simp at aR au; subst aR au; exact .refl
  | succ k=>exact aU k a b (by simpa using aR) (by simpa using au)
 | @o z xs ys _ aU =>
  intro k a b aR au;cases k with
  | zero=>simp at aR au; subst aR au; exact .CH
  | succ k=>exact aU k a b (by simpa using aR) (by simpa using au)
 | @z x y xs ys aE hv _ aU =>
  intro k a b aR au;cases k with
  | zero=>simp at aR au; subst aR au; exact .pC aE.bo (hv.v _)
  | succ k=>exact aU k a b (by simpa using aR) (by simpa using au)
 | @g x y xs ys h _ aU =>
  grind
theorem fo.pre {xs ys:List ab}(h:fo xs ys):∀ ps:List ab,fo (ps++xs) (ps++ys)
 | []=>h
 | _::ps=>.f (fo.pre h ps)
theorem fo.own {z n:Nat}{xs ys:List ab}(h:fo xs ys):hZ (.own z n xs) (.own z n ys):=.own h.len h.get
theorem fo.obj {xs ys:List ab}(h:fo xs ys):hZ (.obj xs) (.obj ys):=.obj h.len h.get
theorem fo.agg {xs ys:List ab}(h:fo xs ys):hZ (.agg xs) (.agg ys):=.agg h.len h.get
theorem hZ.jW [aE:ch x] [hv:iY x y]:hZ x y:=.pC aE.bo (hv.v _)
theorem bl.A_ {o:Oper}{x:Operand}{y bu y':ab}{G2:List (Nat × ab)}(aY:o.op=.assign x) (aS:o.dst=some d) (J:Rd g x y) (aw:e_ g [y] [bu] g1) (aX:hZ bu y') (c9:Trim false g1 (get G2) G2) (aP:get G2 d=none) (bd:N.ok d=true):bl P N g o (cT (get G2) d y') :=
 .assign aY aS J.bs aw.take aX c9.keep aP bd
theorem bl.L7 {o:Oper}{x:Operand}{en:bI α}{L M R:List α}{s m:Nat}{new c0:List ab}{G2:List (Nat × ab)}(aY:o.op=.assign x) (aS:o.dst=some d) (J:Rd g x (.a6 en.z ⟨s,[]⟩ (L.length+m))) (aA:g s=some (.bM en.z q L.length m new)) (ar:bz g q=some (ak en L)) (bg:Nat.beq q.root s=false)
  (h1:e_ (ct (ct g ⟨s,[]⟩ .dead) q .dead) new c0 g1) (aX:fo c0 (bp en M)) (hm:M.length=m) (aj:L++M=R) (c9:Trim false g1 (get G2) G2) (aP:get G2 d=none) (bd:N.ok d=true):bl P N g o (cT (get G2) d (ak en R)):=by
 subst hm aj;have aw:=e_.hE (xs:=[]) (xs':=[]) aA ar bg h1 .nil;rw [<- mA];exact .assign aY aS J.bs aw.take (aX.pre _).own c9.keep aP bd
theorem bl.pQ {o:Oper}{k0:Nat}{jm cs' cs2:List ab}{y bu y':ab}{G2:List (Nat × ab)}(aY:o.op=.store t a b) (aS:o.dst=none) (aR:Rd g a (.ptr ⟨r,[]⟩ k0)) (au:Rd g b y) (aw:e_ g [y] [bu] g1) (q8:hZ bu y') (aa:oC y'=some cs') (aX:hx P t cs'.length=true)
  (aA:g1 r=some (.obj jm)) (hk:Nat.ble (k0+cs'.length) jm.length=true) (aT:Nat.blt 0 cs'.length=true) (he:e8 jm k0 cs'=cs2) [e':dn jm] (aj:(get G2 r).isSome=true) (c9:k_ g1 (get G2) r cs2 G2):bl P N g o (get G2):=by
 subst he;refine .store aY aS aR.bs au.bs aw.take q8 aa aX (p:=⟨r,[]⟩) (nd:=.obj jm) (z:=0) (n:=0) (by simp [bz,aA,ab.at]) (.inr rfl) (Nat.le_of_ble_eq_true hk) (by simpa using aT) (λt x J=>?_) (λt x J y av=>?_) (λt z q n m new J=>?_) (by intro e; rw [e] at aj; cases aj)
 ·rcases c9.spec t x J with ⟨h1,af,_⟩ | ⟨h1,af,_⟩
  all_goals grind [ct,ab.setAt,ab.e8]
 ·rcases c9.spec t x J with ⟨h1,af,aI⟩ | ⟨h1,af,aI⟩
  ·rw [af] at av;cases av;exact aI.yf
  ·subst h1;rw [aA] at av;cases av;exact .bo (.obj e'.bo)
 ·rcases c9.spec t _ J with ⟨_,_,aI⟩ | ⟨_,af,_⟩
  ·exact aI.fA _ _ _ _ _ rfl
  grind
theorem bl.Gh {o:Oper}{k0 s m:Nat}{en:bI α}{L M R:List α}{new c0:List ab}{jm cs2:List ab}{G2:List (Nat × ab)}(aY:o.op=.store t a b) (aS:o.dst=none) (aR:Rd g a (.ptr ⟨r,[]⟩ k0)) (au:Rd g b (.a6 en.z ⟨s,[]⟩ (L.length+m))) (qh:g s=some (.bM en.z q L.length m new)) (ar:bz g q=some (ak en L)) (bg:Nat.beq q.root s=false)
  (h1:e_ (ct (ct g ⟨s,[]⟩ .dead) q .dead) new c0 g1) (q8:fo c0 (bp en M)) (hm:M.length=m) (a1:L++M=R) (aX:hx P t 1=true)
  (aA:g1 r=some (.obj jm)) (hk:Nat.ble (k0+1) jm.length=true) (he:e8 jm k0 [ak en R]=cs2) [e':dn jm] (aj:(get G2 r).isSome=true) (c9:k_ g1 (get G2) r cs2 G2):bl P N g o (get G2):=by
 subst hm a1;have aw:=e_.hE (xs:=[]) (xs':=[]) qh ar bg h1 .nil;refine .pQ (y':=ak en (L++M)) aY aS aR au aw ?_ rfl aX aA hk rfl he aj c9;rw [<- mA]; exact (q8.pre _).own
inductive nn (r:Nat) (cs:List ab) (k0:Nat):Nat->List ab->List ab->Prop
 | nil {i:Nat}:nn r cs k0 i [] []
 | b {i:Nat}{xs ys:List ab}(hi:Nat.beq i k0=true) (t:nn r cs k0 (i+1) xs ys):nn r cs k0 i (.ptr ⟨r,[]⟩ 0::xs) (.obj cs::ys)
 | n {i:Nat}{x:ab}{xs ys:List ab}(hi:Nat.beq i k0=false) [aE:ch x] (t:nn r cs k0 (i+1) xs ys):nn r cs k0 i (x::xs) (x::ys)
theorem nn.len {cs:List ab}{k0 i:Nat}{xs ys:List ab}(h:nn r cs k0 i xs ys):ys.length=xs.length:=by
 induction h with
 | nil=>rfl
 | b _ _ aU=>simp [aU]
 | n _ _ aU=>simp [aU]
theorem nn.XV {cs:List ab}{k0 i:Nat}{xs ys:List ab}(h:nn r cs k0 i xs ys) (hi:k0<i):xs=ys/\∀ x∈xs,cS x:=by
 induction h with
 | nil=>exact ⟨rfl,by simp⟩
 | @b i _ _ h _ _=>have:=Nat.eq_of_beq_eq_true h; omega
 | @n i x xs ys _ aE _ aU =>
  obtain ⟨h1,af⟩:=aU (by omega);exact ⟨by rw [h1],pI aE.bo af⟩
theorem nn.take {cs:List ab}{k0 i:Nat}{xs ys:List ab}(h:nn r cs k0 i xs ys) (aA:g r=some (.obj cs)) (aE:∀ x∈cs,cS x):i<=k0->k0<i+xs.length->Take g xs ys (ct g ⟨r,[]⟩ .dead):=by
 induction h with
 | nil=>intro h1 af; simp at af; omega
 | @b i xs ys hi t _ =>
  intro h1 af;have:=Nat.eq_of_beq_eq_true hi;obtain ⟨e,mW⟩:=t.XV (by omega);subst e;exact .obj (by simp [bz,aA,ab.at]) (.bo aE) (.bo mW)
 | @n i x xs ys hi J _ aU =>
  intro h1 af;have:=Nat.ne_of_beq_eq_false hi;simp only [List.length_cons] at af;exact .cons J.bo (aU (by omega) (by omega))
theorem nn.Sj {cs:List ab}{k0 i:Nat}{xs ys:List ab}(h:nn r cs k0 i xs ys):i<=k0->k0<i+xs.length->xs[k0 - i]?=some (.ptr ⟨r,[]⟩ 0):=by
 induction h with
 | nil=>intro h1 af; simp at af; omega
 | @b i xs ys hi _ _=>intro _ _; have:=Nat.eq_of_beq_eq_true hi; subst this; simp
 | @n i x xs ys hi _ _ aU =>
  grind [Nat.ne_of_beq_eq_false]
def uz (n k0:Nat) (x:ab):List (Option ab):=(List.range n).map λi=>if i=k0 then some x else none
inductive yC (g:aJ) (d r:Nat) (n:Nat) (G4:List (Nat × ab)):List (Nat × ab)->Prop
 | nil:yC g d r n G4 []
 | c {s k:Nat}{l:List (Nat × ab)}(h:g s=some (.ptr ⟨r,[]⟩ k)) (hk:Nat.blt k n=true) (aS:Nat.beq s d=false) (bD:get G4 s=none) (t:yC g d r n G4 l):yC g d r n G4 ((s,.ptr ⟨r,[]⟩ k)::l)
theorem Eu {A B:List (Nat × ab)}{t:Nat}:get (A++B) t=match get A t with | some x=>some x | none=>get B t:=by
 induction A with
 | nil=>rfl
 | cons p A aU =>
  grind [get]
theorem yC.spec {n:Nat}{G4 A:List (Nat × ab)}(h:yC g d r n G4 A):∀ t x,get A t=some x->get G4 t=none/\t≠d/\g t=some x/\∃ k,x=.ptr ⟨r,[]⟩ k/\k<n:=by
 induction h with
 | nil=>intro t x J; cases J
 | @c s k l h hk aS bD _ aU =>
  intro t x J;simp only [get] at J
  split at J
  ·rename_i e;subst e;cases J
   simp_all [Nat.ne_of_beq_eq_false]
  grind
theorem hF.lh {o:Oper}{xs:List Operand}{gl:Array TypeId}{f:FuncId}{ys args:List ab}{res:ab}{cs cs':List ab}{k0:Nat}{G2 A:List (Nat × ab)}(aY:o.op=.call { callee:=.value (.func f),args:=xs.toArray,argTypes:=gl }) (aS:o.dst=some d) (J:Own.gk g xs=some ys)
  (aA:g r=some (.obj cs)) [e':dn cs] (aR:nn r cs k0 0 ys args) (lI:Nat.blt k0 ys.length=true) (gM:bR P f args (uz args.length k0 (.obj cs')) res) (aW:hp P f=true) [aj:ch res] [BW:dn cs']
  (c9:Trim false (ct g ⟨r,[]⟩ .dead) (get ((r,.dead)::G2)) G2) (aP:get G2 d=none) (r9:Nat.beq r d=false) (Bz:Trim false (get ((r,.obj cs')::G2)) (get ((r,.obj cs')::G2)) G2) (ek:yC g d r cs'.length ((r,.obj cs')::G2) A) (bd:N.ok d=true) :
  hF P N g o d (get (A++(d,res)::(r,.obj cs')::G2)):=by
 have acY:k0<ys.length:=by simpa using lI
 have Ji:r≠d:=Nat.ne_of_beq_eq_false r9;have sJ:args.length=ys.length:=aR.len;have r8:(uz args.length k0 (.obj cs'))[k0]?=some (some (.obj cs')):=by
  grind [uz]
 have Wi:∀ (k:Nat) (x:ab),(uz args.length k0 (.obj cs'))[k]?=some (some x)->x=.obj cs':=by
  grind [uz]
 have HG:get ((r,ab.dead)::G2) r=some .dead:=by simp [get]
 have xJ:hz (ct g ⟨r,[]⟩ .dead) (get ((r,.dead)::G2)):=by
  refine ⟨λt x h=>?_,λt x h=>?_,λt z q n m new h=>?_⟩
  all_goals
   simp only [get] at h
   split at h
  ·grind [ct,ab.setAt]
  ·obtain ⟨⟨y,h1,_,aI⟩,_⟩:=c9.spec t x h
   grind
  ·cases h;exact .bo .dead
  ·exact (c9.spec t x h).2.1
  ·cases h
  ·exact (c9.spec t _ h).2.2 _ _ _ _ _ rfl
 have put:qy (get ((r,.dead)::G2)) [(⟨r,[]⟩,.obj cs')]=get ((r,.obj cs')::G2):=by
  funext t
  simp_all [qy,ct,get,ab.setAt]
 have xK:hz (get ((r,.obj cs')::G2)) (get ((r,.obj cs')::G2)):=by
  refine ⟨λt x h=>h,λt x h=>?_,λt z q n m new h=>?_⟩
  all_goals
   simp only [get] at h
   split at h
  ·cases h;exact .bo (.obj BW.bo)
  ·exact (Bz.spec t x h).2.1
  ·cases h
  ·exact (Bz.spec t _ h).2.2 _ _ _ _ _ rfl
 refine yF.ok (first:=[]) (caps:=[]) (ys:=ys) (tk:=λ_=>true) (vw:=false) (outs:=uz args.length k0 (.obj cs')) (g1:=ct g ⟨r,[]⟩ .dead) (g2:=get ((r,.dead)::G2)) (g4:=get ((r,.obj cs')::G2)) (l:=[(⟨r,[]⟩,.obj cs')]) (ks:=λ_=>k0) (xs0:=ys) (xs1:=args) (args:=args) (res:=res) aY aS rfl (by simpa using J)
  ⟨aW,by simp,by simpa using sJ,λk x h=>.inl (by simpa using h),aR.take aA e'.bo (Nat.zero_le _) (by omega),xJ,λk x y _ av=>by simpa using av,gM,by simpa using aj.bo,λk x h=>by rw [Wi k x h]; simpa using cS.obj BW.bo,λj p x ag=>?_,by simp,λi j hi ag _=>by simp at hi ag; omega,by rw [put]; exact xK⟩ ?_ bd ?_
 ·cases j with
  | succ j=>simp at ag
  | zero =>
   simp only [List.getElem?_cons_zero,Option.some.injEq,Prod.mk.injEq] at ag;obtain ⟨rfl,rfl⟩:=ag;refine ⟨r8,by simp [bz,HG,ab.at],.inr ⟨cs,?_,by simp [bz,aA,ab.at]⟩⟩;have:=aR.Sj (Nat.zero_le _) (by omega)
   grind
 ·grind [get]
 ·refine ⟨λt x h=>?_,λt x h=>?_⟩
  ·rw [sE] at h;rw [Eu];cases rX:get A t with
   | none=>exact h
   | some y =>
    obtain ⟨h1,af,_⟩:=ek.spec t y rX
    grind [get]
  ·rw [sE];rw [Eu] at h;cases rX:get A t with
   | none=>rw [rX] at h; exact .inl h
   | some y =>
    rw [rX] at h;cases h;obtain ⟨h1,af,aI,k,rfl,hk⟩:=ek.spec t x rX;refine .inr ⟨?_,af,aI,r,k,cs',rfl,Ji,?_,hk⟩
    all_goals grind [get]
end
end Go.Own
namespace Go.Own
open Go
variable {α β:Type}
def Ek (k:IntKind):bI Int:=.one (λn=>.lit (.int k n)) λ_=>.lit
instance {k:IntKind}:Flat (Ek k):=⟨λ_=>rfl⟩
instance {k:IntKind}:gO (Ek k) (Ek k):=⟨rfl,λa=>(inferInstance:dq [.lit (.int k a)] [.lit (.int k a)])⟩
instance {k:IntKind}:lW (Ek k):=⟨λa=>(inferInstance:jv [.lit (.int k a)])⟩
instance {cs:List ab}{n:Nat}{x:ab} [h:dn cs] [J:ch x]:dn (cs.set n x):=⟨λy av=>by
 rcases List.mem_or_eq_of_mem_set av with aL | aL
 ·exact h.bo y aL
 ·rw [aL]; exact J.bo⟩
instance {x y:ab} [h:ch y]:ch (x.setAt [] y):=⟨by simpa [ab.setAt] using h.bo⟩
def rn (m n:Int):Option Int:=if n=0 then none else some (IntKind.u64.wrap (m.tdiv n))
def rr (m n:Int):Option Int:=if n=0 then none else some (m.tmod n)
inductive j5:List ab->List ab->Prop
 | nil:j5 [] []
 | f {x:ab}{xs ys:List ab}(t:j5 xs ys):j5 (x::xs) (x::ys)
 | o {z:Nat}{xs ys:List ab}(t:j5 xs ys):j5 (.aN::xs) (.own z 0 []::ys)
 | i {z:Nat}{xs ys:List ab}(t:j5 xs ys):j5 (.aN::xs) (.bn z 0 []::ys)
theorem j5.len {xs ys:List ab}(h:j5 xs ys):ys.length=xs.length:=by
 induction h with
 | nil=>rfl
 | f _ aU=>simp [aU]
 | o _ aU=>simp [aU]
 | i _ aU=>simp [aU]
theorem j5.get {xs ys:List ab}(h:j5 xs ys):∀ (k:Nat) (x y:ab),xs[k]?=some x->ys[k]?=some y->o_ x y:=by
 induction h with
 | nil=>intro k x y J; simp at J
 | f _ aU =>
  intro k a b aR au;cases k with
  | zero=>simp at aR au; subst aR au; exact .refl
  | succ k=>exact aU k a b (by simpa using aR) (by simpa using au)
 | o _ aU =>
  intro k a b aR au;cases k with
  | zero=>simp at aR au; subst aR au; exact .pH
  | succ k=>exact aU k a b (by simpa using aR) (by simpa using au)
 | i _ aU =>
  intro k a b aR au;cases k with
  | zero=>simp at aR au; subst aR au; exact .pG
  | succ k=>exact aU k a b (by simpa using aR) (by simpa using au)
theorem j5.obj {xs ys:List ab}(h:j5 xs ys):o_ (.obj xs) (.obj ys):=.obj h.len h.get
section
variable {P:Program}{N:c6}{ops:Array Oper}{g g' g1 g2:aJ}{K:aJ->Prop}{l:List Oper}{d r:Nat}{op:Op}{ty t t2:TypeId}{pos:String}{after:Array Edge}{gd:Option (Nat × Bool)}{a b c:Operand}{p q:Place}{x y:ab}{k:IntKind}{m n:Int}
variable {bf:List (List Nat)}{g0:aJ}{acc:Acc}{i:Nat}
def rh:List Nat->Bool
 | []=>true
 | x::l=>l.all (λy=>!Nat.beq x y)&&rh l
theorem Fu:∀ {l:List Place},rh (l.map Place.root)=true->l.Nodup
 | [],_=>List.nodup_nil
 | p::l,h=>by
  simp only [List.map_cons,rh,Bool.and_eq_true,List.all_eq_true] at h;refine List.nodup_cons.2 ⟨λhm=>?_,Fu h.2⟩;have:=h.1 p.root (List.mem_map.2 ⟨p,hm,rfl⟩);simp at this
theorem bw.wO (bG:Nat) {G G2:List (Nat × ab)}{o:Oper}(he:bl P N (dh (get G) (λ_=>true) acc) o (get G2)) (aP:o.guard=none) (gN:rh ((acc.filterMap jT).map Place.root)=true) (fH:l7 G=true) (ag:Nat.beq ops.size (bG+l.length+1)=true)
  (aR:(List.range bG).all (λk=>(bf.getD bG []).contains k)=true) (au:(List.range ops.size).all (λk=>Nat.ble k bG||(bf.getD k []).contains bG)=true) (hk:bw P N ops bf (get G2) (bG+1) [] l K):bw P N ops bf (get G) i acc (o::l) K:=by
 intro dU j b_ kS lb;have:=zf lb ag;subst this;obtain ⟨h1,af⟩:=drop_cons lb;obtain ⟨g',aj,dj⟩:=hk [] (j+1) .nil .nil af;refine ⟨g',.Mg b_ kS (Fu gN) (vR fH) h1 ?_ he aR ?_ aj,dj⟩
 ·grind [iz]
 simp_all
theorem bw.bv (bG:Nat) {G G2:List (Nat × ab)}{o:Oper}{x:ab}(he:bl P N (dh (get G) (λ_=>true) acc) o (cT (get G2) d x)) (aP:o.guard=none) (gN:rh ((acc.filterMap jT).map Place.root)=true) (fH:l7 G=true) (ag:Nat.beq ops.size (bG+l.length+1)=true)
  (aR:(List.range bG).all (λk=>(bf.getD bG []).contains k)=true) (au:(List.range ops.size).all (λk=>Nat.ble k bG||(bf.getD k []).contains bG)=true) (hk:bw P N ops bf (get ((d,x)::G2)) (bG+1) [] l K):bw P N ops bf (get G) i acc (o::l) K :=
 .wO bG (sE ▸ he) aP gN fH ag aR au hk
class o5 (s:Nat) (g:aJ):Prop where fA:∀ t,t≠s->∀ z q n m new,g t≠some (.bM z q n m new)
instance (priority:=low) {s:Nat}{g:aJ} [h:qR g]:o5 s g:=⟨λt _=>h.fA t⟩
instance {s:Nat}{g:aJ}{x:ab} [h:o5 s g]:o5 s (cT g s x):=⟨λt aw z q n m new e=>by
 unfold cT at e;rw [if_neg aw] at e;exact h.fA t aw _ _ _ _ _ e⟩
instance {s d:Nat}{g:aJ}{x:ab} [h:o5 s g] [J:np x]:o5 s (cT g d x):=⟨λt aw z q n m new e=>by
 unfold cT at e
 split at e
 ·cases e; exact J.fA _ _ _ _ _ rfl
 ·exact h.fA t aw _ _ _ _ _ e⟩
class yR (s:Nat) (acc:Acc):Prop where fA:∀ e∈acc,e.2.1≠s->∀ z q n m new,e.2.2≠some (.bM z q n m new)
instance {s:Nat}:yR s []:=⟨by simp⟩
instance {s j d:Nat}{x:ab}{acc:Acc} [J:np x] [h:yR s acc]:yR s ((j,d,some x)::acc):=⟨λe he aA z q n m new bY=>by
 rcases List.mem_cons.1 he with rfl | he
 ·exact J.fA z q n m new (Option.some.inj bY)
 ·exact h.fA e he aA z q n m new bY⟩
instance {s j:Nat}{x:Option ab}{acc:Acc} [h:yR s acc]:yR s ((j,s,x)::acc):=⟨λe he aA z q n m new bY=>by
 rcases List.mem_cons.1 he with rfl | he
 ·exact absurd rfl aA
 ·exact h.fA e he aA z q n m new bY⟩
instance {s:Nat}{G:List (Nat × ab)}{A:Nat->Bool}{acc:Acc} [aP:qR (get G)] [h:yR s acc]:o5 s (dh (get G) A acc):=⟨λt aw z q n m new e=>by
 rcases uU e with ⟨cf,he,h1,_,af⟩ | ⟨_,af⟩
 ·exact h.fA cf he (by rw [h1]; exact aw) _ _ _ _ _ af
 ·exact aP.fA _ _ _ _ _ _ af⟩
namespace O
theorem rn {r:Int}(J:Rd g a (.lit (.int .u64 m))) (av:Rd g b (.lit (.int .u64 n))) (h:Own.rn m n=some r):ck P g (.binOp .quo t a b t2) ty (.lit (.int .u64 r)):=by
 unfold Own.rn at h
 split at h
 ·cases h
 ·cases h; exact .eU (.quo J av (by assumption))
theorem rr {r:Int}(J:Rd g a (.lit (.int .u64 m))) (av:Rd g b (.lit (.int .u64 n))) (h:Own.rr m n=some r):ck P g (.binOp .rem t a b t2) ty (.lit (.int .u64 r)):=by
 unfold Own.rr at h
 split at h
 ·cases h
 ·cases h; exact .eU (.rem J av (by assumption))
theorem TD {L:List Int}(J:Rd g a (.bn qa.z L.length (bp qa L))) (aw:wR P t t2=true):ck P g (.convert t t2 a) ty (ax (strOfNums L)):=by
 have h:=J.bs;rw [P2] at h;exact .eU (.Eh h aw)
theorem wP {e dx:Nat}{parts:Array (Nat × Operand)}{ys cs:List ab}{z:Nat}(aw:ft P t e z=true) (J:gk g (parts.toList.map (·.2))=some ys) (aa:mg ys=some cs) (aX:ys.all (λy=>match jL y with | some c=>Nat.beq c.length z | none=>false)=true)
  (ar:parts.toList=(parts.toList.map (·.2)).mapIdx (λi x=>(i,x))) (aE:(parts.toList.map (·.2)).length=dx) (hzero:h' P e z=true) (au:Nat.ble (dx * z) 16777216=true) (gQ:Nat.ble dx 16777216=true):ck P g (.buildSlice t dx parts) ty (.own z dx cs):=by
 subst aE;exact .ri (.buildSlice aw ar J (λy av=>by
  grind [Nat.eq_of_beq_eq_true]) aa (Nat.le_of_ble_eq_true au) (Nat.le_of_ble_eq_true gQ) (.inr (Lo hzero)))
theorem QD {z m:Nat}{cs:List ab}(bg:bz g q=some (.own z m cs)) (ai:cs.length=m * z) (aW:cs.all l0=true):Src g (.a6 z q m) z m cs:=by
 have:=Src.a6 (g:=g) (m:=m) bg (Nat.le_refl _)
 simp_all [List.take_of_length_le,Bt]
theorem Hb {en:bI α}{L M r:List α}{e gJ m:Nat}{cs:List ab}(aA:Rd g a (.a6 en.z p L.length)) (ar:bz g p=some (ak en L)) (J:Rd g b (.a6 en.z q m)) (bg:bz g q=some (.own en.z m cs)) (ai:cs.length=m * en.z) (aW:cs.all l0=true) (hm:M.length=m) (aw:jz P t e en.z gJ=true) (au:Nat.ble gJ 128=true) (h:dc L M=some r) [e':qR g] :
  ck P g (.call { callee:=.builtin .append,args:=#[a,b],argTypes:=#[t,t] }) ty (.bM en.z p L.length m cs):=by
 subst hm;obtain ⟨h1,af,_⟩:=y1 h au;exact .lP (.grow aA.bs (.inl ⟨_,ar⟩) (λt bA cB m' c0 e=>e'.fA _ _ _ _ _ _ e) J.bs (QD bg ai aW) aw h1 af)
theorem D_ {en:bI α}{L M M2 r:List α}{y:ab}{e gJ s:Nat}(aA:Rd g a (.a6 en.z ⟨s,[]⟩ (L.length+M.length))) (qh:g s=some (.bM en.z q L.length M.length (bp en M))) (ar:bz g q=some (ak en L)) (J:Rd g b y) (hm:nW g en y M2) (aw:jz P t e en.z gJ=true) (au:Nat.ble gJ 128=true) (h:dc (L++M) M2=some r) [e':o5 s g] :
  ck P g (.call { callee:=.builtin .append,args:=#[a,b],argTypes:=#[t,t] }) ty (.bM en.z ⟨s,[]⟩ (L.length+M.length) M2.length (bp en M2)):=by
 obtain ⟨h1,af,_⟩:=y1 h au;rw [List.length_append] at h1 af;refine .lP (.grow aA.bs (.inr ⟨rfl,q,L.length,M.length,bp en M,_,qh,rfl,ar⟩) (λt bA cB m' c0 e=>?_) J.bs hm.src aw h1 af);by_cases WI:t=s
 ·grind [bz,ab.at]
 ·exact e'.fA t WI _ _ _ _ _ e
theorem Pb {en:bI α}{z0:α}{r:List α}{e gJ:Nat}{dH:Value}(aw:ft P t e en.z=true) (J:Rd g a (.lit (.int k m))) (av:Rd g b (.lit (.int .i64 m))) (hzero:(P.info? e).bind (·.zero)=some dH) (h1:dH.cells.toList.all Value.oneCell'=true) (gR:(en.cells z0).length=dH.cells.size) (VH:∀ (k:Nat) (u:Value) (x:ab),dH.cells[k]?=some u->(en.cells z0)[k]?=some x->x=lO u\/(lO u=.aN/\∃ bA,x=.bn bA 0 [])) (h:nc m z0=some r) (iL:(P.info? e).map (·.bytes)=some gJ) (au:Nat.ble gJ 128=true) :
  ck P g (.makeSlice t a b) ty (ak en r):=by
 unfold nc at h
 split at h
 ·rename_i hm;have sQ:lim=1099511627776:=rfl;have l1:=Nat.le_of_ble_eq_true au;obtain ⟨j,rfl⟩:=Int.eq_ofNat_of_zero_le hm.1;cases h;have ag:j<=1099511627776:=by omega
  have fV:dH.cells.size=en.z:=by rw [<- gR,en.len]
  have:=p3.makeSlice (P:=P) (ty:=ty) aw J.bs av.bs hzero (by rw [<- Array.all_toList]; exact h1) fV iL (by
   calc j * gJ<=1099511627776 * 128:=Nat.mul_le_mul ag l1
    _=140737488355328:=by decide) (by omega) gR VH
  have cu:(List.replicate j (en.cells z0)).flatten=bp en (List.replicate j z0):=by simp [bp,List.flatMap_def]
  unfold ak;rw [Int.toNat_natCast,List.length_replicate,<- cu];exact .ri this
 ·cases h
theorem mk {en:bI α}{z0:α}{r:List α}{e gJ:Nat}{dH:Value}(aw:ft P t e en.z=true) (J:Rd g a (.lit (.int k m))) (av:Rd g b (.lit (.int .i64 m))) (hzero:(P.info? e).bind (·.zero)=some dH) (h1:dH.cells.toList.all Value.oneCell'=true) (aa:dH.cells.toList.map lO=en.cells z0) (h:nc m z0=some r) (iL:(P.info? e).map (·.bytes)=some gJ) (au:Nat.ble gJ 128=true) :
  ck P g (.makeSlice t a b) ty (ak en r):=by
 grind [Pb]
theorem XO {e:bI β}{r:List (List β)}{m:Int}{k:IntKind}{a b:Operand}{t ty:TypeId}{Bo gJ:Nat}{dH:Value}(aw:ft P t Bo (br e).z=true) (J:Rd g a (.lit (.int k m))) (av:Rd g b (.lit (.int .i64 m))) (hzero:(P.info? Bo).bind (·.zero)=some dH) (h1:dH.cells.toList.all Value.oneCell'=true) (aa:dH.cells.toList.map lO=[.aN]) (h:nc m ([]:List β)=some r) (iL:(P.info? Bo).map (·.bytes)=some gJ) (au:Nat.ble gJ 128=true) :
  ck P g (.makeSlice t a b) ty (ak (br e) r):=by
 refine Pb aw J av hzero h1 ?_ (λk u x hu J=>.inr ?_) h iL au
 ·grind [List.length_map,br]
 ·have ai:=congrArg List.length aa;rw [List.length_map] at ai;have hk:k=0:=by
   grind
  subst hk;have jH:dH.cells.toList[0]?=some u:=by simpa using hu
  have af:=congrArg (λl=>l[0]?) aa;simp only [List.getElem?_map,jH,Option.map_some] at af;have af:=Option.some.inj af;refine ⟨af,e.z,?_⟩;have J:([ah e []]:List ab)[0]?=some x:=J;have:x=ah e []:=(Option.some.inj J).symm;rw [this];rfl
end O
theorem KM (en:bI α) {L:List α}{y y2:α}{o:Nat}{cs':List ab}(h:idx L m=some y) (he:e8 (en.cells y) o cs'=en.cells y2) (hlen:o+cs'.length<=en.z):e8 (bp en L) (m.toNat * en.z+o) cs'=bp en (L.set m.toNat y2):=by
 obtain ⟨aT,h1,af⟩:=pD h;have aQ:m.toNat<L.length:=(List.getElem?_eq_some_iff.1 af).1;have av:L[m.toNat]=y:=(List.getElem?_eq_some_iff.1 af).2;have cu:bp en L=bp en (L.take m.toNat)++(en.cells y++bp en (L.drop (m.toNat+1))):=by
  grind [bp,List.take_append_drop,List.drop_eq_getElem_cons]
 have cd:bp en (L.set m.toNat y2)=bp en (L.take m.toNat)++(en.cells y2++bp en (L.drop (m.toNat+1))):=by
  grind [List.set_eq_take_append_cons_drop,bp]
 have ai:(bp en (L.take m.toNat)).length=m.toNat * en.z:=by rw [ni,List.length_take]; congr 1; omega
 rw [cu,cd,<- he];unfold e8;generalize bp en (L.take m.toNat)=A at *;generalize bp en (L.drop (m.toNat+1))=B at *;rw [<- ai];have E4:=en.len y;rw [List.take_append,List.take_of_length_le (by omega),show A.length+o - A.length=o by omega,List.take_append_of_le_length (by omega)];rw [List.drop_append,List.drop_eq_nil_of_le (by omega),show A.length+o+cs'.length - A.length=o+cs'.length by omega,List.drop_append_of_le_length (by omega)];simp
theorem HM {en:bI α}{L:List α}{i:Int}{off:Nat}{y:α}(h:idx L i=some y) (aY:Nat.blt off en.z=true):i.toNat * en.z+off<(bp en L).length:=by
 obtain ⟨Dn,lq,_⟩:=pD h;have nA:off<en.z:=by simpa using aY
 rw [ni];have af:i.toNat+1<=L.length:=by omega
 calc i.toNat * en.z+off<i.toNat * en.z+en.z:=by omega
  _=(i.toNat+1) * en.z:=by rw [Nat.add_mul]; omega
  _<=L.length * en.z:=Nat.mul_le_mul_right _ af
theorem oa {L:List α}{i:Int}{y y2:α}(h:idx L i=some y):idx (L.set i.toNat y2) i=some y2:=by
 grind [idx]
inductive o4 (g g2:aJ):ab->Prop
 | mk {α:Type}{en:bI α}{L LF:List α}{r j off:Nat}{i:Int}{y y2:α}(h1:bz g ⟨r,[j]⟩=some (ak en L)) (hi:idx L i=some y) (af:bz g2 ⟨r,[j]⟩=some (ak en LF)) (BQ:idx LF i=some y2) (aY:Nat.blt off en.z=true):o4 g g2 (.ptr ⟨r,[j]⟩ (i.toNat * en.z+off))
theorem o4.Pu {x:ab}(h:o4 g g2 x):gB g x:=by
 cases h with
 | mk h1 hi af BQ aY=>exact ⟨_,h1,_,_,_,.inl rfl,HM hi aY⟩
theorem o4.FG {x:ab}(h:o4 g g2 x):gB g2 x:=by
 cases h with
 | mk h1 hi af BQ aY=>exact ⟨_,af,_,_,_,.inl rfl,HM BQ aY⟩
theorem o4.bW {x:ab}(h:o4 g g2 x):di g2 x:=by
 have:=h.FG;cases h with
 | mk=>exact .ref rfl this
theorem o4.fA {x:ab}(h:o4 g g2 x):∀ z p n m new,x≠.bM z p n m new:=by
 cases h with
 | mk=>simp
theorem o4.clear {x:ab}{k0 m0:Nat}(h:o4 g g2 x) (ar:p.path≠[]):Clear p k0 m0 x:=by
 cases h with
 | mk =>
  intro q bg _ j cW e;simp only [AA,Option.some.injEq] at bg;subst bg;cases EU:p.path with
  | nil=>exact absurd EU ar
  | cons a b=>rw [EU] at e; simp at e
inductive kJ (g g2:aJ) (r:Nat) (x2:ab):List (Nat × ab)->Prop
 | nil:kJ g g2 r x2 []
 | n {s:Nat}{x:ab}{l:List (Nat × ab)}(da:Nat.beq s r=false) (h:g s=some x) [aE:ch x] (t:kJ g g2 r x2 l):kJ g g2 r x2 ((s,x)::l)
 | p {s q k:Nat}{l:List (Nat × ab)}{cs kr:List ab}(da:Nat.beq s r=false) (h:g s=some (.ptr ⟨q,[]⟩ k)) (h1:g q=some (.obj cs)) (hk:Nat.blt k cs.length=true) (af:g2 q=some (.obj kr)) (f':Nat.blt k kr.length=true) (t:kJ g g2 r x2 l):kJ g g2 r x2 ((s,.ptr ⟨q,[]⟩ k)::l)
 | e {s:Nat}{x:ab}{c2:List ab}{l:List (Nat × ab)}(da:Nat.beq s r=false) (h:g s=some x) (he:o4 g g2 x) (iq:x2=.obj c2) (t:kJ g g2 r x2 l):kJ g g2 r x2 ((s,x)::l)
 | w {α:Type}{s q:Nat}{en:bI α}{L:List α}{l:List (Nat × ab)}(da:Nat.beq s r=false) (h:g s=some (.a6 en.z ⟨q,[]⟩ L.length)) (h1:g q=some (ak en L)) (af:g2 q=some (ak en L)) (t:kJ g g2 r x2 l):kJ g g2 r x2 ((s,.a6 en.z ⟨q,[]⟩ L.length)::l)
 | b {l:List (Nat × ab)}{x:ab}(e:x=x2) [aE:ch x2] (t:kJ g g2 r x2 l):kJ g g2 r x2 ((r,x)::l)
theorem kJ.spec {x2:ab}{l:List (Nat × ab)}(h:kJ g g2 r x2 l):∀ t x,get l t=some x->(t≠r/\g t=some x/\(p5 g g2 x\/o4 g g2 x/\∃ c2,x2=.obj c2))\/(t=r/\x=x2/\cS x):=by
 induction h with
 | nil=>intro t x J; cases J
 | @n s x l da h aE _ aU =>
  intro t y av;simp only [get] at av
  split at av
  ·rename_i e;subst e;cases av;exact .inl ⟨Nat.ne_of_beq_eq_false da,h,.inl (.n aE.bo)⟩
  grind
 | @p s q k l cs kr da h h1 hk af f' _ aU =>
  intro t y av;simp only [get] at av
  split at av
  ·rename_i e;subst e;cases av;exact .inl ⟨Nat.ne_of_beq_eq_false da,h,.inl (.p h1 (by simpa using hk) af (by simpa using f'))⟩
  grind
 | @e s x c2 l da h he iq _ aU =>
  grind [get,Nat.ne_of_beq_eq_false]
 | @w α s q en L l da h h1 af _ aU =>
  intro t y av;simp only [get] at av
  split at av
  ·rename_i e;subst e;cases av;exact .inl ⟨Nat.ne_of_beq_eq_false da,h,.inl (.r h1 (Nat.le_refl _) af (Nat.le_refl _))⟩
  grind
 | @b l x e aE _ aU =>
  intro t y av;simp only [get] at av
  split at av
  ·rename_i cf;subst cf;cases av;subst e;exact .inr ⟨rfl,rfl,aE.bo⟩
  grind
theorem p5.KK {x:ab}{k0 m0:Nat}(h:p5 g g2 x):ji (λr=>gB g r/\Clear p k0 m0 r/\gB g2 r) x:=by
 cases h with
 | n h=>exact .bo h
 | p h hk af f' =>
  refine .ref rfl ⟨uL h hk,?_,uL af f'⟩;intro q bg _ j cW e;simp only [AA,Option.some.injEq] at bg;subst bg;simp at e
 | r h hk af f' =>
  refine .ref rfl ⟨Az h hk,?_,Az af f'⟩;intro q bg _ j cW e;simp only [AA,Option.some.injEq] at bg;subst bg;simp at e
theorem bl.te {gb:Oper}{en:bI α}{L:List α}{jf y2:α}{o:Nat}{cs':List ab}{x2:ab}{G2:List (Nat × ab)}(aY:gb.op=.store t a b) (aS:gb.dst=none) (aR:Rd g a (.ptr p (m.toNat * en.z+o))) (au:Rd g b y) (ar:bz g p=some (ak en L)) (h:idx L m=some jf) (aX:hx P t cs'.length=true)
  (aa:oC y=some cs') (he:e8 (en.cells jf) o cs'=en.cells y2) (hlen:Nat.ble (o+cs'.length) en.z=true) (aT:Nat.blt 0 cs'.length=true) (iq:ct g p (ak en (L.set m.toNat y2)) p.root=some x2) (aj:(get G2 p.root).isSome=true) [aE:ch y] {y0:ab}(rb:g p.root=some y0) [e':ch y0] (c9:kJ g (get G2) p.root x2 G2):bl P N g gb (get G2):=by
 have BS:=Nat.le_of_ble_eq_true hlen;have i':=KM en h he BS;have Oe:(L.set m.toNat y2).length=L.length:=List.length_set;refine .store aY aS aR.bs au.bs (.bo (by simpa using aE.bo)) .refl aa aX (p:=p) (nd:=ak en L) (z:=en.z) (n:=L.length) (cs:=bp en L) ar (.inl rfl) ?_ (by simpa using aT) (λt x J=>?_) (λt x J y av=>?_) (λt z q n m new J=>?_) (by intro e; rw [e] at aj; cases aj)
 ·obtain ⟨Dn,lq,_⟩:=pD h;rw [ni];have af:m.toNat+1<=L.length:=by omega
  calc m.toNat * en.z+o+cs'.length<=m.toNat * en.z+en.z:=by omega
   _=(m.toNat+1) * en.z:=by rw [Nat.add_mul]; omega
   _<=L.length * en.z:=Nat.mul_le_mul_right _ af
 ·have fr:(ak en L).e8 (m.toNat * en.z+o) cs'=ak en (L.set m.toNat y2):=by
   show ab.own en.z L.length (e8 (bp en L) (m.toNat * en.z+o) cs')=_
   grind
  rw [fr];rcases c9.spec t x J with ⟨h1,af,_⟩ | ⟨h1,af,_⟩
  ·grind [uO]
  grind
 ·rcases c9.spec t x J with ⟨h1,af,aI⟩ | ⟨h1,af,aI⟩
  ·rw [af] at av;cases av;rcases aI with aI | ⟨aI,c2,rfl⟩
   ·exact aI.KK
   ·refine ji.ref (by cases aI; rfl) ⟨aI.Pu,aI.clear ?_,aI.FG⟩
    grind [ct,ab.setAt]
  ·subst h1;rw [rb] at av;cases av;exact .bo e'.bo
 ·rcases c9.spec t _ J with ⟨_,_,aI | ⟨aI,_⟩⟩ | ⟨_,_,aI⟩
  ·exact aI.fA _ _ _ _ _ rfl
  ·exact aI.fA _ _ _ _ _ rfl
  ·cases aI
end
end Go.Own
namespace Go.Own
open Go
theorem Sv (a b:ByteArray):(a == b)=decide (a=b):=by
 obtain ⟨a⟩:=a;obtain ⟨b⟩:=b;have:(({ data:=a }:ByteArray) == { data:=b })=(a == b):=rfl;rw [this,Bool.eq_iff_iff];simp
inductive nV where
 | b | s | i (k:IntKind)
 deriving DecidableEq
def l9:Value->Option nV
 | .bool _=>some .b
 | .string _=>some .s
 | .int k _=>some (.i k)
 | _=>none
def Bm (P:Program) (rc:TypeId->List nV->Bool):List Field->Nat->List nV->Bool
 | [],_,eP=>eP.isEmpty
 | f :: fs, o, eP => f.name != "_" && f.offset == o && (match P.info? f.type with
   | some i=>i.size<=eP.length&&rc f.type (eP.take i.size)&&Bm P rc fs (o+i.size) (eP.drop i.size)
   | none=>false)
def tL (P:Program):Nat->TypeId->List nV->Bool
 | 0,_,_=>false
 | d+1,t,eP=>match P.underlying t with
  | some .bool=>eP == [.b]&&jA P t
  | some (.int k)=>eP == [.i k]&&jA P t
  | some .string=>eP == [.s]&&jA P t
  | some (.struct fs)=>iA P t eP.length&&!P.stoodInHeld t&&Bm P (tL P d) fs.toList 0 eP
  | _=>false
def MZ:Value->Value->Bool
 | .bool a,.bool b=>a == b
 | .int _ a,.int _ b=>decide (a=b)
 | .string a,.string b=>decide (a=b)
 | _,_=>false
def lF:List Value->List Value->Bool
 | a::az,b::dg=>MZ a b&&lF az dg
 | _,_=>true
theorem M0:∀ (az dg cs jB:List Value),az.length=dg.length->lF (az++cs) (dg++jB)=(lF az dg&&lF cs jB)
 | [],[],cs,jB,_=>by simp [lF]
 | [],_::_,_,_,h=>by simp at h
 | _::_,[],_,_,h=>by simp at h
 | a::az,b::dg,cs,jB,h=>by
  simp only [List.cons_append,lF,M0 az dg cs jB (by simpa using h),Bool.and_assoc]
def pack (P:Program) (t:TypeId) (vs:List Value):Value :=
 match P.underlying t,vs with
 | some (.struct _),_=>.agg vs.toArray
 | _,v::_=>v
 | _,[]=>.agg #[]
theorem Qa {P:Program}{w:World}{t:TypeId}{d:Nat}{eP:List nV}(h:tL P (d+1) t eP=true) {cs:List Value}{o:Nat}{vs:List Value}(hv:(cs.drop o).take eP.length=vs) (ai:vs.length=eP.length) :
  (part t cs.toArray o).run P w=.ok (pack P t vs) w:=by
 unfold tL at h
 split at h
 case h_4 fs hu =>
  simp only [Bool.and_eq_true] at h;obtain ⟨h1,af⟩:=D9 (w:=w) h.1.1;simp [part,h1,af,pack,hu,<- hv,List.take_drop]
 case h_5=>cases h
 all_goals
  rename_i hu;simp only [Bool.and_eq_true,beq_iff_eq] at h;obtain ⟨rfl,aa⟩:=h;obtain ⟨h1,af⟩:=HC (w:=w) aa;obtain ⟨v,rfl⟩:∃ v,vs=[v]:=by
   rcases vs with _ | ⟨v,_ | _⟩ <;> simp at ai;exact ⟨v,rfl⟩
  have:cs[o]?=some v:=by
   have:=congrArg List.head? hv;simpa [List.head?_take] using this
  simp [part,h1,pack,hu,this]
theorem KR {P:Program}(w:World):∀ (d:Nat) (t:TypeId) (eP:List nV),tL P d t eP=true->∀ (D:Nat),d<=D->∀ (az dg:List Value),az.map l9=eP.map some->dg.map l9=eP.map some ->
  (Op.equalIn D t (pack P t az) (pack P t dg)).run P w=.ok (lF az dg) w
 | 0,_,_,h,_,_,_,_,_,_=>by simp [tL] at h
 | d+1,t,eP,h,D,oG,az,dg,aR,au=>by
  obtain ⟨D,rfl⟩:∃ E,D=E+1:=⟨D - 1,by omega⟩;have aT:=h;unfold tL at h
  split at h
  case h_5=>cases h
  case h_4 fs hu =>
   simp only [Bool.and_eq_true,Bool.not_eq_true'] at h;obtain ⟨⟨h1,af⟩,aI⟩:=h;have key:∀ (fs:List Field) (o:Nat) (eP:List nV) (nr ns:List Value),Bm P (tL P d) fs o eP=true->az.drop o=nr->dg.drop o=ns->nr.map l9=eP.map some->ns.map l9=eP.map some ->
     (forIn (m:=Sem) (β:=Option Bool × Unit) fs (none,()) λf _ =>
      if f.name = "_" then pure (.yield (none, ()))
      else do
       let x <- part f.type az.toArray f.offset
       let y <- part f.type dg.toArray f.offset
       let c <- Op.equalIn D f.type x y
       if c=false then pure (.done (some false,())) else pure (.yield (none,()))).run P w=.ok (if lF nr ns then (none,()) else (some false,())) w:=by
    intro fs
    induction fs with
    | nil =>
     intro o eP nr ns aP _ _ aR au;have aA:eP=[]:=by simpa [Bm] using aP
     subst aA;have h1:nr=[]:=by simpa using aR
     have af:ns=[]:=by simpa using au
     subst h1 af;simp [lF]
    | cons f fs aU =>
     intro o eP nr ns aP NW NX aR au;unfold Bm at aP;cases hi:P.info? f.type with
     | none=>simp [hi] at aP
     | some i =>
      simp only [hi,Bool.and_eq_true,bne_iff_ne,beq_iff_eq,decide_eq_true_eq] at aP;obtain ⟨⟨aE,rfl⟩,⟨hle,he⟩,VV⟩:=aP;obtain ⟨e,rfl⟩:∃ e,d=e+1:=by
       cases d with
       | zero=>simp [tL] at he
       | succ e=>exact ⟨e,rfl⟩
      have xN:nr.length=eP.length:=by simpa using congrArg List.length aR
      have adq:ns.length=eP.length:=by simpa using congrArg List.length au
      have Zz:(nr.take i.size).map l9=(eP.take i.size).map some:=by rw [List.map_take,List.map_take,aR]
      have ZA:(ns.take i.size).map l9=(eP.take i.size).map some:=by rw [List.map_take,List.map_take,au]
      have TF:(nr.drop i.size).map l9=(eP.drop i.size).map some:=by rw [List.map_drop,List.map_drop,aR]
      have TG:(ns.drop i.size).map l9=(eP.drop i.size).map some:=by rw [List.map_drop,List.map_drop,au]
      have lt:(eP.take i.size).length=i.size:=by simp; omega
      have lP:=Qa (w:=w) he (cs:=az) (o:=f.offset) (vs:=nr.take i.size) (by rw [NW,lt]) (by simp; omega);have PI:=Qa (w:=w) he (cs:=dg) (o:=f.offset) (vs:=ns.take i.size) (by rw [NX,lt]) (by simp; omega);have HK:=KR w (e+1) f.type _ he D (by omega) _ _ Zz ZA;have aU:=aU (f.offset+i.size) (eP.drop i.size) (nr.drop i.size) (ns.drop i.size) VV (by rw [<- NW,List.drop_drop]) (by rw [<- NX,List.drop_drop]) TF TG;have sp:lF nr ns=(lF (nr.take i.size) (ns.take i.size)&&lF (nr.drop i.size) (ns.drop i.size)):=by
       have:=M0 (nr.take i.size) (ns.take i.size) (nr.drop i.size) (ns.drop i.size) (by simp; omega)
       rwa [List.take_append_drop,List.take_append_drop] at this
      rw [List.forIn_cons];cases aa:lF (nr.take i.size) (ns.take i.size) with
      | false=>simp [aE,lP,PI,HK,aa,sp]
      | true =>
       simp only [aa] at HK;simp [aE,lP,PI,HK,aa,sp];simpa using aU
   have hk:=key fs.toList 0 eP az dg aI rfl rfl aR au;unfold Op.equalIn;simp [pack,hu,run_underlying hu,af];rw [<- Array.forIn_toList,hk];cases lF az dg <;> simp
  all_goals
   rename_i hu;simp only [Bool.and_eq_true,beq_iff_eq] at h;obtain ⟨rfl,aa⟩:=h;obtain ⟨a,rfl⟩:∃ v,az=[v]:=by
    rcases az with _ | ⟨v,_ | _⟩ <;> simp at aR;exact ⟨v,rfl⟩
   obtain ⟨b,rfl⟩:∃ v,dg=[v]:=by
    rcases dg with _ | ⟨v,_ | _⟩ <;> simp at au;exact ⟨v,rfl⟩
   cases a <;> simp [l9] at aR <;> cases b <;> simp [l9] at au;simp [Op.equalIn,pack,hu,run_underlying hu,lF,MZ,aR,au,Sv] <;> rfl
end Go.Own
namespace Go.Own
open Go
def tK (P:Program) (t:TypeId) (eP:List nV):Bool :=
 tL P 100 t eP&&(match P.underlying t with | some (.struct _)=>true | _=>false)&&!P.eqGuardType P.depth t
section
variable {P:Program}{g:aJ}{t t2:TypeId}{ty:TypeId}{a b:Operand}
theorem YP {az dg:List Value}{eP:List nV}(aR:az.map l9=eP.map some) (au:dg.map l9=eP.map some) (aw:tK P t eP=true) (w:World) :
  (do eqGuard .eql t a b (.agg az.toArray) (.agg dg.toArray); binOp .eql t (.agg az.toArray) (.agg dg.toArray):Sem Value).run P w=.ok (.bool (lF az dg)) w:=by
 simp only [tK,Bool.and_eq_true,Bool.not_eq_true'] at aw;obtain ⟨⟨h1,af⟩,aI⟩:=aw;have h:=KR w 100 t eP h1 Op.maxDepth (by decide) az dg aR au
 split at af
 ·rename_i fs hu;simp only [pack,hu] at h;simp [eqGuard,binOp,aI,Op.equal,h]
 ·cases af
theorem YR {az dg:List Value}{eP:List nV}(aR:az.map l9=eP.map some) (au:dg.map l9=eP.map some) (aw:tK P t eP=true) (w:World) :
  (do eqGuard .neq t a b (.agg az.toArray) (.agg dg.toArray); binOp .neq t (.agg az.toArray) (.agg dg.toArray):Sem Value).run P w=.ok (.bool (!lF az dg)) w:=by
 simp only [tK,Bool.and_eq_true,Bool.not_eq_true'] at aw;obtain ⟨⟨h1,af⟩,aI⟩:=aw;have h:=KR w 100 t eP h1 Op.maxDepth (by decide) az dg aR au
 split at af
 ·rename_i fs hu;simp only [pack,hu] at h;simp [eqGuard,binOp,aI,Op.equal,h]
 ·cases af
namespace O
theorem Bn {va vb:List Value}{eP:List nV}(J:Rd g a (.agg (va.map .lit))) (av:Rd g b (.agg (vb.map .lit))) (aR:va.map l9=eP.map some) (au:vb.map l9=eP.map some) (aw:tK P t eP=true) :
  ck P g (.binOp .eql t a b t2) ty (a_ (lF va vb)):=.eU (.Ba J.bs av.bs rfl λw=>YP aR au aw w)
theorem XT {va vb:List Value}{eP:List nV}(J:Rd g a (.agg (va.map .lit))) (av:Rd g b (.agg (vb.map .lit))) (aR:va.map l9=eP.map some) (au:vb.map l9=eP.map some) (aw:tK P t eP=true) :
  ck P g (.binOp .neq t a b t2) ty (a_ (!lF va vb)):=.eU (.Ba J.bs av.bs rfl λw=>YR aR au aw w)
end O
end
end Go.Own
namespace Go.Own
open Go
section
variable {P:Program}{N:c6}{g g2:aJ}{d r k0:Nat}{α:Type}
theorem View.nN {p:Place}{cs cs':List ab}(ar:bz g p=some (.obj cs)) (hk:Nat.blt 0 cs.length=true) [h:dq cs cs']:View g (.ptr p 0) (.cG cs') :=
 .ptr ar (z:=0) (n:=0) (.inr rfl) (by simpa using hk) (by simpa using h.l) λk x y J av=>h.v g k x y (by simpa using J) av
theorem di.el {en:bI α}{L:List α}{j off:Nat}{i:Int}{y:α}(af:bz g2 ⟨r,[j]⟩=some (ak en L)) (hi:idx L i=some y) (aY:Nat.blt off en.z=true):di g2 (.ptr ⟨r,[j]⟩ (i.toNat * en.z+off)) :=
 (o4.mk (g:=g2) af hi af hi aY).bW
theorem jr {p:Place}{k:Nat}:∀ z q n m new,ab.ptr p k≠.bM z q n m new:=by simp
inductive yB (g:aJ) (d r k0:Nat) (G4:List (Nat × ab)):List (Nat × ab)->Prop
 | nil:yB g d r k0 G4 []
 | c {α:Type}{en:bI α}{L:List α}{s off:Nat}{i:Int}{y:α}{l:List (Nat × ab)}(h:g s=some (.ptr ⟨r,[k0]⟩ (i.toNat * en.z+off))) (ar:bz (get G4) ⟨r,[k0]⟩=some (ak en L)) (hi:idx L i=some y) (aY:Nat.blt off en.z=true) (aS:Nat.beq s d=false) (bD:get G4 s=none) (t:yB g d r k0 G4 l):yB g d r k0 G4 ((s,.ptr ⟨r,[k0]⟩ (i.toNat * en.z+off))::l)
theorem yB.spec {G4 l:List (Nat × ab)}(h:yB g d r k0 G4 l):∀ t x,get l t=some x->get G4 t=none/\t≠d/\g t=some x/\∃ m z n cs,x=.ptr ⟨r,[k0]⟩ m/\bz (get G4) ⟨r,[k0]⟩=some (.own z n cs)/\m<cs.length:=by
 induction h with
 | nil=>intro t x J; cases J
 | @c α en L s off i y l h ar hi aY aS bD _ aU =>
  intro t x J;simp only [get] at J
  split at J
  ·rename_i e;subst e;cases J;exact ⟨bD,Nat.ne_of_beq_eq_false aS,h,_,_,_,_,rfl,ar,HM hi aY⟩
  grind
theorem kJ.keep {g':aJ}{x2:ab}{G2:List (Nat × ab)}(c9:kJ g (get G2) r x2 G2) (h1:∀ t,t≠r->g' t=g t) (af:g' r=some x2):hz g' (get G2):=by
 refine ⟨λt x J=>?_,λt x J=>?_,λt z q n m new J=>?_⟩
 ·rcases c9.spec t x J with ⟨a,b,_⟩ | ⟨rfl,rfl,_⟩
  ·grind
  grind
 ·rcases c9.spec t x J with ⟨_,_,aI | ⟨aI,_⟩⟩ | ⟨_,_,aI⟩
  ·exact aI.bW
  ·exact aI.bW
  ·exact .bo aI
 ·rcases c9.spec t _ J with ⟨_,_,aI | ⟨aI,_⟩⟩ | ⟨_,_,aI⟩
  ·exact aI.fA _ _ _ _ _ rfl
  ·exact aI.fA _ _ _ _ _ rfl
  ·cases aI
theorem Qm {cs:List ab}{y x:ab}(h:g r=some (.obj cs)) (hk:cs[k0]?=some x):ct g ⟨r,[k0]⟩ y r=some (.obj (cs.set k0 y)):=by
 grind [ct,ab.setAt,ab.kids,ab.wk]
theorem bl.eR {o:Oper}{y:ab}{cs cs5:List ab}{G1 G4:Value->List (Nat × ab)}{c4:Value->List ab}{G5 A:List (Nat × ab)}(aS:o.dst=some d) (bd:N.ok d=true) (aj:g r=some (.obj cs)) (av:cs[k0]?=some y) [xx:ch y]
  (h1:∀ v,kJ g (get (G1 v)) r (.obj (cs.set k0 (.lit v))) (G1 v)) (aa:∀ v,hF P N (get (G1 v)) o d (get (G4 v))) (acm:∀ v,get (G4 v) r=some (.obj (c4 v))) (ack:∀ v,(c4 v)[k0]?=some (.lit v)) (acn:∀ v,(c4 v).set k0 y=cs5)
  (cF:∀ v,kJ (get (G4 v)) (get G5) r (.obj cs5) G5) (Us:bz (get G5) ⟨r,[k0]⟩=some y) (ek:yB g d r k0 G5 A):bl P N g o (get (A++G5)):=by
 refine .call aS bd (hF.T9 aj av xx.bo λv hv=>⟨get (G1 v),get (G4 v),get G5,?_,aa v,?_,?_,Us,?_⟩)
 ·exact (h1 v).keep (λt aw=>uO aw) (Qm aj av)
 ·grind [bz,ab.at,ab.kids]
 ·refine (cF v).keep (λt aw=>uO aw) ?_
  grind [Qm]
 ·refine ⟨λt x h=>?_,λt x h=>?_⟩
  ·rw [Eu];cases rX:get A t with
   | none=>exact h
   | some z =>
    obtain ⟨lq,_⟩:=ek.spec t z rX
    grind
  ·rw [Eu] at h;cases rX:get A t with
   | none=>rw [rX] at h; exact .inl h
   | some z =>
    rw [rX] at h;cases h;exact .inr (ek.spec t x rX)
end
end Go.Own
namespace Go.Own
open Go
section
variable {P:Program}{N:c6}{ops:Array Oper}{g g1 mP:aJ}{K:aJ->Prop}{l:List Oper}{d r:Nat}{t:TypeId}{a b:Operand}{x y:ab}
variable {bf:List (List Nat)}{acc:Acc}{i:Nat}
theorem hS {a b:Nat}(h:Nat.blt a b=true):a<b:=by simpa using h
def Fv:Option Nat->Nat->Bool
 | none,_=>true
 | some a,d=>!Nat.beq a d
theorem Pe {o:Option Nat}{d:Nat}(h:Fv o d=true):o≠some d:=by
 rintro rfl;simp [Fv] at h
inductive wE (P:Program) (N:c6) (ops:Array Oper) (bf:List (List Nat)) (rs:Place->Prop) (mP g1:aJ) (o:Oper) (U:Acc):Acc->Prop
 | nil:wE P N ops bf rs mP g1 o U []
 | c {k d:Nat}{x:ab}{gb:Oper}{V:Acc}(b0:A8 rs mP g1 o x) (h1:g1 d=none) (da:Fv o.dst d=true) (aY:ops[k]?=some gb) (ER:gb.dst=some d) (bd:N.ok d=true) (hw:iz (dh g1 (λm=>(bf.getD k []).contains m) U) ops gb true)
   (aA:ck P (dh g1 (λm=>(bf.getD k []).contains m) U) gb.op gb.type x) (t:wE P N ops bf rs mP g1 o U V):wE P N ops bf rs mP g1 o U ((k,d,some x)::V)
theorem wE.spec {o:Oper}{U V:Acc}{rs:Place->Prop}(h:wE P N ops bf rs mP g1 o U V):∀ e∈V,(∃ x,e.2.2=some x/\A8 rs mP g1 o x)/\(g1 e.2.1=none/\o.dst≠some e.2.1)/\∃ gb,ops[e.1]?=some gb/\gb.dst=some e.2.1/\N.ok e.2.1=true/\p6 P (dh g1 (λm=>(bf.getD e.1 []).contains m) U) ops gb e.2.2:=by
 induction h with
 | nil=>intro e he; cases he
 | c b0 h1 da aY ER bd hw aA _ aU =>
  intro e he;rcases List.mem_cons.1 he with rfl | he
  ·exact ⟨⟨_,rfl,b0⟩,⟨h1,Pe da⟩,_,aY,ER,bd,.inl ⟨hw,.inl aA⟩⟩
  ·exact aU e he
theorem bw.ej (bG:Nat) {G G2:List (Nat × ab)}{U:Acc}{o:Oper}{rs:List Nat}(he:o3 P N (sm rs) (dh (get G) (λm=>(bf.getD bG []).contains m) acc) o (get G2)) (l3:rs.all (λr=>(get G r).isSome)=true) (aP:o.guard=none) (gN:rh ((acc.filterMap jT).map Place.root)=true) (fH:l7 G=true) (ag:Nat.beq ops.size (bG+l.length+1)=true)
  (f_:acc.filter (λe=>!(bf.getD bG []).contains e.1)=U) (n5:wE P N ops bf (sm rs) (dh (get G) (λm=>(bf.getD bG []).contains m) acc) (get G2) o U U)
  (au:(List.range ops.size).all (λk=>Nat.ble k bG||(bf.getD k []).contains bG)=true) (hk:bw P N ops bf (get G2) (bG+1) U l K):bw P N ops bf (get G) i acc (o::l) K:=by
 intro dU j b_ kS lb;have:=zf lb ag;subst this;obtain ⟨h1,af⟩:=drop_cons lb;have nz:∀ e∈U,e∈acc:=λe he=>by rw [<- f_] at he; exact (List.mem_filter.1 he).1
 have BB:mI P N ops bf (get G2) (j+1) U:=⟨λe he=>by have:=(kS.le b_).2 e (nz e he); omega,λe he=>(n5.spec e he).2.1.1,by rw [<- f_]; exact (List.filter_sublist.map _).nodup (kS.nodup b_),λe he cf h5 h=>kS.uniq b_ (nz e he) (nz cf h5) h,λe he=>(n5.spec e he).2.2⟩;obtain ⟨g',aj,dj⟩:=hk U (j+1) BB .nil af;refine ⟨g',.wM kS (Fu gN) (vR fH) h1 ?_ he (λr aj e=>by have:=List.all_eq_true.1 l3 r.root aj; rw [e] at this; cases this) f_.symm (λe h=>(n5.spec e h).1) (λe h=>(n5.spec e h).2.1) (λe h=>(n5.spec e h).2.2) ?_ aj,dj⟩
 ·unfold iz; rw [aP]
 ·refine List.all_eq_true.2 λk hk=>?_;have:=List.all_eq_true.1 au k hk;simp only [Bool.or_eq_true,decide_eq_true_eq,Nat.ble_eq] at this ⊢;exact this
theorem bw.Mn (bG:Nat) {G G2:List (Nat × ab)}{U:Acc}{o:Oper}{ps:List Place}(he:o3 P N (λp=>p∈ps) (dh (get G) (λm=>(bf.getD bG []).contains m) acc) o (get G2)) (l3:ps.all (λr=>(get G r.root).isSome)=true) (aP:o.guard=none) (gN:rh ((acc.filterMap jT).map Place.root)=true) (fH:l7 G=true) (ag:Nat.beq ops.size (bG+l.length+1)=true)
  (f_:acc.filter (λe=>!(bf.getD bG []).contains e.1)=U) (n5:wE P N ops bf (λp=>p∈ps) (dh (get G) (λm=>(bf.getD bG []).contains m) acc) (get G2) o U U)
  (au:(List.range ops.size).all (λk=>Nat.ble k bG||(bf.getD k []).contains bG)=true) (hk:bw P N ops bf (get G2) (bG+1) U l K):bw P N ops bf (get G) i acc (o::l) K:=by
 intro dU j b_ kS lb;have:=zf lb ag;subst this;obtain ⟨h1,af⟩:=drop_cons lb;have nz:∀ e∈U,e∈acc:=λe he=>by rw [<- f_] at he; exact (List.mem_filter.1 he).1
 have BB:mI P N ops bf (get G2) (j+1) U:=⟨λe he=>by have:=(kS.le b_).2 e (nz e he); omega,λe he=>(n5.spec e he).2.1.1,by rw [<- f_]; exact (List.filter_sublist.map _).nodup (kS.nodup b_),λe he cf h5 h=>kS.uniq b_ (nz e he) (nz cf h5) h,λe he=>(n5.spec e he).2.2⟩;obtain ⟨g',aj,dj⟩:=hk U (j+1) BB .nil af;refine ⟨g',.wM kS (Fu gN) (vR fH) h1 ?_ he (λr aj e=>by have:=List.all_eq_true.1 l3 r aj; rw [e] at this; cases this) f_.symm (λe h=>(n5.spec e h).1) (λe h=>(n5.spec e h).2.1) (λe h=>(n5.spec e h).2.2) ?_ aj,dj⟩
 ·unfold iz; rw [aP]
 ·refine List.all_eq_true.2 λk hk=>?_;have:=List.all_eq_true.1 au k hk;simp only [Bool.or_eq_true,decide_eq_true_eq,Nat.ble_eq] at this ⊢;exact this
theorem o3.box {o:Oper}{r:Nat}{x:ab}{G1 G2:List (Nat × ab)}(he:bl P N (get G1) o (get G2)) (aj:g r=some x) [J:ch x] (hk:Trim false g (get G1) G1) (aT:get G1 r=none) (h1:get G2 r=none) (aS:Fv o.dst r=true):o3 P N (sm [r]) g o (get ((r,x)::G2)):=by
 rw [<- sE];exact he.j7.frame aj J.bo hk.keep aT h1 (Pe aS)
theorem bl.kZ {o:Oper}{k0:Nat}{cs cs' cs2:List ab}{G2:List (Nat × ab)}(aY:o.op=.store t a b) (aS:o.dst=none) (aA:g r=some (.obj cs)) (aR:Rd g a (.ptr ⟨r,[]⟩ k0)) (au:Rd g b y) [aE:ch y] (aa:oC y=some cs') (aX:hx P t cs'.length=true)
  (hk:Nat.ble (k0+cs'.length) cs.length=true) (aT:Nat.blt 0 cs'.length=true) (he:e8 cs k0 cs'=cs2) [e':dn cs] (aj:(get G2 r).isSome=true) (c9:k_ g (get G2) r cs2 G2):bl P N g o (get G2) :=
 .box aY aS aA aR au aE.bo aa aX (Nat.le_of_ble_eq_true hk) (by simpa using aT) he (by intro e; rw [e] at aj; cases aj) c9
end
end Go.Own
namespace Go.Own
open Go
section
variable {α:Type}
theorem dq.app {xs ys xs' DM:List ab}(h:dq xs ys) (aL:dq xs' DM):dq (xs++xs') (ys++DM):=⟨by simp [h.l,aL.l],λg k a b aR au=>by
 by_cases hk:k<xs.length
 ·rw [List.getElem?_append_left hk] at aR;rw [List.getElem?_append_left (by rw [h.l]; exact hk)] at au;exact h.v g k a b aR au
 ·rw [List.getElem?_append_right (by omega)] at aR;rw [List.getElem?_append_right (by rw [h.l]; omega),h.l] at au;exact aL.v g _ a b aR au⟩
instance {e cf:bI α}{L:List α} [h:gO e cf]:dq (bp e L) (bp cf L):=⟨(DE e cf L).1,(DE e cf L).2⟩
theorem iY.KL {en:bI α}{L:List α}{n:Nat}{cs cs':List ab}(h:bp en L=cs') (ai:L.length=n) [hv:dq cs cs']:iY (.own en.z n cs) (ah en L):=⟨λg=>by
 subst h ai;exact .own hv.l (hv.v g)⟩
theorem iY.hE {en tJ:bI α}{L M:List α}{m:Nat}{new c0:List ab} [h:gO en tJ] (aE:bp tJ M=c0) (hm:M.length=m) [aL:dq new c0]:iY (.own en.z (L.length+m) (bp en L++new)) (ah tJ (L++M)):=⟨λg=>by
 subst aE hm;have hv:=dq.app (inferInstance:dq (bp en L) (bp tJ L)) aL;show View g (.own en.z (L.length+M.length) (bp en L++new)) (.bn tJ.z (L++M).length (bp tJ (L++M)));have e:bp tJ (L++M)=bp tJ L++bp tJ M:=by simp [bp]
 rw [e,List.length_append,<- h.z];exact .own hv.l (hv.v g)⟩
end
end Go.Own
namespace Go.Own
open Go
section
variable {α:Type}{g g2:aJ}{p q:Place}{P:Program}{a b:Operand}{t:TypeId}{ty:TypeId}
theorem di.a6 {en:bI α}{L:List α}(h:bz g2 p=some (ak en L)):di g2 (.a6 en.z p L.length):=.ref rfl (.inl ⟨_,_,h,Nat.le_refl _⟩)
theorem iQ {z n:Nat}:∀ bA q cB m new,ab.a6 z p n≠.bM bA q cB m new:=by simp
namespace O
theorem R8 {en:bI α}{L M r:List α}{e gJ m:Nat}{cs:List ab}(aA:Rd g a (.a6 en.z p L.length)) (ar:bz g p=some (ak en L)) (J:Rd g b (.a6 en.z q m)) (bg:bz g q=some (.own en.z m cs)) (ai:cs.length=m * en.z) (aW:cs.all l0=true) (hm:M.length=m) (aw:jz P t e en.z gJ=true) (au:Nat.ble gJ 128=true) (h:dc L M=some r)
  (e':∀ t z n m new,g t≠some (.bM z p n m new)):ck P g (.call { callee:=.builtin .append,args:=#[a,b],argTypes:=#[t,t] }) ty (.bM en.z p L.length m cs):=by
 subst hm;obtain ⟨h1,af,_⟩:=y1 h au;exact .lP (.grow aA.bs (.inl ⟨_,ar⟩) (λt bA cB m' c0 e=>e' _ _ _ _ _ e) J.bs (QD bg ai aW) aw h1 af)
end O
end
end Go.Own
