/-
  Parts of the proof that the last text states. No condition of their own.
-/
import Derived.RowKit3
import Derived.Test.YtdhblbniiokpmaaGreatE1
namespace Go.Own
open Go
structure hG (g1 g2:aK):Prop where
 sub:∀ t x,g2 t=some x->g1 t=some x
 bV:∀ t x,g2 t=some x->dh g2 x
 fx:∀ t z q n m new,g2 t≠some (.bL z q n m new)
structure c5 where
 size:Nat
 pins:List Nat
def c5.ok (N:c5) (d:Nat):Bool:=Nat.blt d N.size&&!N.pins.elem d
def hF (N:c5) (T T':Array Value):Prop:=T'.size=T.size/\∀ t∈N.pins,T'[t]?=T[t]?
theorem hF.refl {N:c5}{T:Array Value}:hF N T T:=⟨rfl,λ_ _=>rfl⟩
theorem hF.trans {N:c5}{T Lv Lw:Array Value}(h:hF N T Lv) (h1:hF N Lv Lw):hF N T Lw:=⟨h1.1.trans h.1,λt aw=>(h1.2 t aw).trans (h.2 t aw)⟩
theorem c5.lt {N:c5}{d:Nat}(h:N.ok d=true):d<N.size:=by
 simp_all [c5.ok]
theorem hF.put {N:c5}{d:Nat}(h:N.ok d=true) (T:Array Value) (v:Value):hF N T (T.setIfInBounds d v):=by
 refine ⟨by simp,λt aw=>?_⟩
 grind [c5.ok]
def h9 (N:c5) (a:Act) (w:World) (I:bb) (Fs:Nat->bb) (g':aK) (ca:Act) (w':World):Prop :=
 ca.defers=a.defers/\hF N a.tmps ca.tmps/\∃ I' b7,cH w' I' ca.tmps g' b7/\kp w I (λc=>∃ t,Fs t c) w' I' (λc=>∃ t,b7 t c)
theorem wm {b7:Nat->bb}{d:Nat}{F:bb}{c:Nat}(h:∃ t,uP b7 d F t c):(∃ t,b7 t c)\/F c:=by
 obtain ⟨t,h⟩:=h;unfold uP at h
 grind
structure yI (P:Program) (g:aK) (f:FuncId) (all xs0 xs1 args:List ab) (tk:Nat->Bool) (vw:Bool) (g1 g2:aK) (outs:List (Option ab)) (res:ab) (l:List (Place × ab)) (ks:Nat->Nat) (g4:aK):Prop where
 aW:gN P f=true
 Co:xs0.length=all.length
 xK:args.length=all.length
 aQ:∀ (k:Nat) (x:ab),all[k]?=some x->xs0[k]?=some x\/xs0[k]?=some .dead
 aw:Take g xs0 xs1 g1
 hk:hG g1 g2
 aP:∀ (k:Nat) (x y:ab),all[k]?=some x->args[k]?=some y->if tk k then xs1[k]?=some y else vw=true/\View g2 x y
 gQ:bU P f args outs res
 aq:if vw then kJ res else cU res
 lN:∀ (k:Nat) (x:ab),outs[k]?=some (some x)->if vw then kJ x else cU x
 ak:∀ (j:Nat) (p:Place) (x:ab),l[j]?=some (p,x)->Q' g g2 all outs (ks j) p x
 nd:(l.map (·.1)).Nodup
 inj:∀ i j,i<l.length->j<l.length->ks i=ks j->i=j
 JI:hG (qE g2 l) g4
section
variable {P:Program}{w:World}{I:bb}{T:Array Value}{g:aK}{Fs:Nat->bb}
theorem jE.keep (h:jE w I T g Fs) {g2:aK}(hk:hG g g2):cH w I T g2 (λt c=>g2 t≠none/\Fs t c) :=
 h.Zk hk.sub hk.bV λ_ _ _ _ _ _ _ _ _ _ _ h1=>absurd h1 (hk.fx _ _ _ _ _ _)
structure wy (g:aK) (d:Nat) (g4 g5:aK):Prop where
 sub:∀ t x,g4 t=some x->g5 t=some x
 new:∀ t x,g5 t=some x->g4 t=some x\/(g4 t=none/\t≠d/\g t=some x/\∃ r k cs,x=.ptr ⟨r,[]⟩ k/\r≠d/\g4 r=some (.obj cs)/\k<cs.length)
theorem wy.refl {d:Nat}{g4:aK}:wy g d g4 g4:=⟨λ_ _ h=>h,λ_ _ h=>.inl h⟩
theorem cH.back (h:cH w I T g Fs) {w':World}{I':bb}{d:Nat}{v:Value}{g4 g5:aK}{Lh:Nat->bb}(bF:cH w' I' (T.setIfInBounds d v) g4 Lh) (av:wy g d g4 g5):cH w' I' (T.setIfInBounds d v) g5 Lh:=by
 refine ⟨λt x J=>?_,λt aw c aa=>?_,bF.eI,bF.bk,bF.lt,λt t' z p n m new bC cG m' c3 h1 af=>?_⟩
 ·rcases av.new t x J with aR | ⟨h1,af,aI,r,k,cs,rfl,cF,ej,mW⟩
  ·obtain ⟨u,hu,aY⟩:=bF.rel t x aR;exact ⟨u,hu,bF.w2 (λ_ _=>rfl) (λ_ _ _=>rfl) (λ_ _=>rfl) (λ_ h=>h) av.sub aY λ_ _=>rfl⟩
  ·obtain ⟨u,hu,aY⟩:=h.rel t _ aI;obtain ⟨⟨Ds,ad,aD,a2,rfl⟩,_⟩:=(aY.gG (by simp)).nR;have dM:∀ s,s≠d->(T.setIfInBounds d v)[s]?=T[s]?:=λs aB=>by rw [Array.getElem?_setIfInBounds_ne (Ne.symm aB)]
   refine ⟨_,by rw [dM t af]; exact hu,.tree (.ref rfl ⟨⟨Ds,ad,?_,a2,rfl⟩,?_⟩ (bF.kY t h1))⟩
   ·grind [dW,walk]
   ·exact ⟨.obj cs,by simp [bB,av.sub r _ ej,ab.at],0,0,cs,.inr rfl,mW⟩
 ·cases aR:g4 t with
  | none=>exact bF.kY t aR c aa
  | some y=>rw [av.sub t y aR] at aw; cases aw
 ·have:∀ {t z p n m new},g5 t=some (.bL z p n m new)->g4 t=some (.bL z p n m new):=by
   intro t z p n m new J;rcases av.new t _ J with aR | ⟨_,_,_,r,k,cs,e,_⟩
   all_goals grind
  exact bF.rp t t' z p n m new bC cG m' c3 (this h1) (this af)
def hP (P:Program) (N:c5) (g:aK) (o:Oper) (d:Nat) (g5:aK):Prop :=
 ∀ (w:World) (I:bb) (T:Array Value) (Fs:Nat->bb),cH w I T g Fs->∀ (a:Act),a.tmps=T->a.tmps.size=N.size->∀ (K:Act->World->Prop) (Q:Exit->Act->World->Prop),
  (∀ (ca:Act) (w':World) (v:Value) (I':bb) (b7:Nat->bb),ca.defers=a.defers->ca.tmps=T.setIfInBounds d v->cH w' I' (T.setIfInBounds d v) g5 b7->kp w I (λc=>∃ t,Fs t c) w' I' (λc=>∃ t,b7 t c)->K ca w')->o.wp P a w K Q
theorem hP.sound {N:c5}{o:Oper}{d:Nat}{g5:aK}(aa:hP P N g o d g5) (jO:N.ok d=true) (h:cH w I T g Fs) {a:Act}(aP:a.tmps=T) (bd:a.tmps.size=N.size) {K:Act->World->Prop}{Q:Exit->Act->World->Prop}
  (di:∀ ca w',h9 N a w I Fs g5 ca w'->K ca w'):o.wp P a w K Q :=
 aa w I T Fs h a aP bd K Q λca w' v I' b7 h1 af aI bF=>di ca w' ⟨h1,by rw [af,<- aP]; exact hF.put jO _ _,I',b7,by rw [af]; exact aI,bF⟩
theorem yI.ok {N:c5}{o:Oper}{c:Operand}{xs:Array Operand}{gm:Array TypeId}{d:Nat}{f:FuncId}{first caps ys xs0 xs1 args:List ab}{tk:Nat->Bool}{vw:Bool}{g1 g2 g4 g5:aK}{outs:List (Option ab)}{res:ab}{l:List (Place × ab)}{ks:Nat->Nat}
  (a1:o.op=.call { callee:=.value c,args:=xs,argTypes:=gm }) (aS:o.dst=some d) (aa:bs g c=some (.cX (.func f) first caps)) (J:gl g xs.toList=some ys)
  (he:yI P g f (first++ys++caps) xs0 xs1 args tk vw g1 g2 outs res l ks g4) (aO:g4 d=none) (jO:N.ok d=true) (Vb:wy g d (cV g4 d res) g5):hP P N g o d g5:=by
 intro w I T Fs h a aP bd K Q di;obtain ⟨v1,v2,vj,ak,qk⟩:=Hk h aP aa J;have hT:(execOp a.eval o).run P w=.ok (.enter f (v1++xs.map a.eval++v2)) w:=by
  simp [execOp,a1,resolve,Deferred.ofValue,vj,invoke,Bb he.aW]
 generalize xn:(v1++xs.map a.eval++v2).toList=vs at *;generalize H_:first++ys++caps=all at *
 -- what is taken
 have vd:Hand w I (fz w T) Fs xs0 vs (λ_=>cx):=by
  refine ⟨by rw [he.Co,ak],λk x u J hu=>?_,λ_ _ _ _ _ h=>h.elim,λ_ _ _ _ h=>h.elim,λ_ _ _ h=>h.elim⟩;have hk:k<all.length:=by rw [<- he.Co]; exact (List.getElem?_eq_some_iff.1 J).1
  have tS:=List.getElem?_eq_getElem hk;rcases he.aQ k _ tS with aQ | aQ
  ·rw [aQ] at J; cases J;exact (qk k _ u tS hu).frame (λ_ _=>rfl) (λ_ h=>h) (λ_ _ h=>h.1) λ_ _=>rfl
  ·rw [aQ] at J; cases J;exact .dead λ_ h=>h
 obtain ⟨fZ,H1,jd,iM,hS⟩:=he.aw.sound h.mH vd;have Nr:∀ c,lz fZ xs1.length H1 c->∃ t,Fs t c:=by
  intro c aa;rcases hS c aa with aR | ⟨_,_,aR⟩
  ·exact aR
  ·exact aR.elim
 have h':=jd.keep he.hk;generalize Uj:(λt c=>g2 t≠none/\fZ t c)=i_ at h';have M7:∀ t c,i_ t c->fZ t c:=by intro t c aa; rw [<- Uj] at aa; exact aa.2
 have II:xs1.length=all.length:=by rw [he.aw.length,he.Co]
 -- what the callee sees
 let DP:bb:=λc=>I c\/(vw=true/\∃ t,i_ t c)
 let yK:Nat->bb:=λt c=>t<all.length/\tk t=true/\H1 t c;have tN:∀ t c,yK t c->(∀ s,¬ i_ s c)/\¬ I c/\∃ t,Fs t c:=by
  rintro t c ⟨h1,af,aI⟩;exact ⟨λs aB=>iM.off t s c (by omega) aI (M7 s c aB),iM.bk t c (by omega) aI,Nr c (.inr ⟨t,by omega,aI⟩)⟩
 have N9:∀ (ρ':ab->Value->Prop) (k:Nat) (y:ab) (u:Value),args[k]?=some y->vs[k]?=some u->R w DP ρ' y u (yK k):=by
  intro ρ' k y u ax hu;have hk:k<all.length:=by rw [<- he.xK]; exact (List.getElem?_eq_some_iff.1 ax).1
  have tS:=List.getElem?_eq_getElem hk;have:=he.aP k _ y tS ax
  split at this
  ·rename_i aw;have na:cU y:=he.aw.Fq y (List.mem_of_getElem? this);exact (((iM.rel k y u this hu).bl na).om λc aa=>.inl aa).zc λc=>⟨λaa=>⟨hk,aw,aa⟩,λaa=>aa.2.2⟩
  ·rename_i aw;obtain ⟨hv,Wl⟩:=this;have gE:R w I (fz w T) all[k] u cx:=(qk k _ u tS hu).frame (λ_ _=>rfl) (λ_ h=>h) (λ_ _ h=>h.1) λ_ _=>rfl;have:=View.Qi h'.mH Wl gE (λ_ h=>h.elim) ρ';refine (this.om (I':=DP) λc aa=>?_).zc λc=>⟨λh=>h.elim,λaa=>absurd aa.2.1 aw⟩;rcases aa with aR | aR
   ·exact .inl aR
   ·exact .inr ⟨hv,aR⟩
 have UG:cH w DP vs.toArray (qa args) yK:=by
  refine ⟨λt x J=>?_,λt aw c aa=>?_,λt t' c aa fl=>iM.eI t t' c (by have:=aa.1; omega) (by have:=fl.1; omega) aa.2.2 fl.2.2,λt c aa hi=>?_,λc aa=>?_,λt t' z p n m new bC cG m' c3 h1 af=>?_⟩
  ·have aw:t<args.length:=(List.getElem?_eq_some_iff.1 J).1;have hu:vs[t]?=some (vs[t]'(by rw [<- ak,<- he.xK]; exact aw)):=List.getElem?_eq_getElem _;exact ⟨_,by rw [List.getElem?_toArray]; exact hu,.tree (N9 _ t x _ J hu)⟩
  ·have hle:args.length<=t:=by simpa [qa] using aw
   have:=aa.1; have:=he.xK; omega
  ·obtain ⟨h1,af,_⟩:=tN t c aa;rcases hi with aR | ⟨_,s,aR⟩
   ·exact af aR
   ·exact h1 s aR
  ·rcases aa with aR | ⟨_,s,aR⟩
   ·exact h.lt c aR
   ·exact h'.jZ s c aR
  ·have aw:t<args.length:=(List.getElem?_eq_some_iff.1 h1).1;have hu:vs[t]?=some (vs[t]'(by rw [<- ak,<- he.xK]; exact aw)):=List.getElem?_eq_getElem _;exact (N9 (λ_ _=>False) t _ _ h1 hu).lp.elim
 have pA:=he.gQ.2 w DP vs yK (by rw [<- ak,he.xK]) UG;unfold Oper.wp Oper.upon;simp only [hT];rw [<- xn,Array.toArray_toList] at pA;refine Calls.mono pA ?_;rintro e w' ⟨v,I',b7,rfl,dX,b0⟩;rw [xn] at dX;have l5:outs.length=all.length:=by rw [he.gQ.1,he.xK]
 have pB:vs.length=all.length:=ak.symm
 -- the blocks behind the call
 have PW:∀ t c,i_ t c->w'.heap[c]?=w.heap[c]?:=λt c aa=>b0.eT.block c (h'.jZ t c aa) λ⟨s,aB⟩=>(tN s c aB).1 t aa;have sr:∀ c,I c->w'.heap[c]?=w.heap[c]?:=λc aa=>b0.eT.block c (h.lt c aa) λ⟨s,aB⟩=>(tN s c aB).2.1 aa
 let If:bb:=λc=>if vw then I c else I' c
 have J6:∀ t c,b7 t c->(∃ s,yK s c)\/w.heap.size<=c:=λt c aa=>b0.own c ⟨t,aa⟩;have Pc:∀ t c,b7 t c->∀ s,¬ i_ s c:=by
  intro t c aa s aB;rcases J6 t c aa with ⟨cT,aR⟩ | aR
  ·exact (tN cT c aR).1 s aB
  ·have:=h'.jZ s c aB; omega
 have Pd:∀ t c,b7 t c->¬ If c:=by
  intro t c aa hi;cases vw with
  | true =>
   simp only [If,if_true] at hi;rcases J6 t c aa with ⟨cT,aR⟩ | aR
   ·exact (tN cT c aR).2.1 hi
   ·have:=h.lt c hi; omega
  | false =>
   simp only [If,Bool.false_eq_true,if_false] at hi;exact dX.bk t c aa hi
 have Nd:∀ c,If c->I c\/(∃ s,yK s c)\/w.heap.size<=c:=by
  intro c aa;cases vw with
  | true=>simp only [If,if_true] at aa; exact .inl aa
  | false =>
   simp only [If,Bool.false_eq_true,if_false] at aa;rcases b0.new c aa with aR | aR | aR
   ·rcases aR with aR | ⟨aR,_⟩
    ·exact .inl aR
    ·cases aR
   ·exact .inr (.inl aR)
   ·exact .inr (.inr aR)
 have Nc:∀ c,I c->If c:=by
  intro c aa;cases vw with
  | true=>simp only [If,if_true]; exact aa
  | false=>simp only [If,Bool.false_eq_true,if_false]; exact b0.more c (.inl aa)
 have UC:cH w' If T g2 i_:=by
  have:=h'.world (w':=w') PW sr b0.eT.size;refine ⟨λt x J=>?_,this.kY,this.eI,λt c aa hi=>?_,λc aa=>?_,this.rp⟩
  ·obtain ⟨v,hv,aY⟩:=this.rel t x J;exact ⟨v,hv,aY.frame (λ_ _=>rfl) Nc (λ_ _ h=>h) (λ_ _ _ _ _ _ _=>rfl) λ_ _=>rfl⟩
  ·rcases Nd c hi with aR | ⟨s,aR⟩ | aR
   ·exact h'.bk t c aa aR
   ·exact (tN s c aR).1 t aa
   ·have:=h'.jZ t c aa; omega
  ·cases vw with
   | true=>simp only [If,if_true] at aa; exact Nat.lt_of_lt_of_le (h.lt c aa) b0.eT.size
   | false=>simp only [If,Bool.false_eq_true,if_false] at aa; exact dX.lt c aa
 -- what comes back in the arguments, and the result
 have L0:∀ {x:ab}{u:Value}{F:bb}{ρ ρ':ab->Value->Prop},R w' I' ρ x u F->(if vw then kJ x else cU x)->R w' If ρ' x u F:=by
  intro x u F ρ ρ' aY J;cases vw with
  | true=>simp only [if_true] at J; exact aY.lq J
  | false =>
   simp only [Bool.false_eq_true,if_false] at J;refine (aY.bl J).om λc aa=>?_;simpa [If] using aa
 have CC:∀ {x:ab},(if vw then kJ x else cU x)->∀ z p n m new,x≠.bL z p n m new:=by
  rintro x J z p n m new rfl;cases vw with
  | true=>simp only [if_true] at J; cases J
  | false=>simp only [Bool.false_eq_true,if_false] at J; cases J
 have XD:∀ (k:Nat) (x:ab) (u:Value),outs[k]?=some (some x)->vs[k]?=some u->R w' If (fz w' T) x u (b7 k):=by
  intro k x u J hu;have hk:k<outs.length:=(List.getElem?_eq_some_iff.1 J).1;obtain ⟨wk,jP,aY⟩:=dX.rel k x (by simp only [kZ,if_neg (Nat.ne_of_lt hk),J]; rfl);have:wk=u:=by
   rw [List.getElem?_toArray,List.getElem?_append_left (by rw [pB,<- l5]; exact hk),hu] at jP;exact (Option.some.inj jP).symm
  subst this;exact L0 (aY.gG (CC (he.lN k x J))) (he.lN k x J)
 obtain ⟨KS,ES,mY⟩:=dX.rel outs.length res (by simp [kZ]);have Wh:KS=v:=by
  have e:outs.length=vs.length:=by omega
  rw [e] at ES;simpa using ES.symm
 subst Wh
 -- back into the places
 obtain ⟨yL,H4,Eu⟩:=jE.qE (w:=w') (I:=If) (T:=T) l (λj=>b7 (ks j)) (λj=>vs.getD (ks j) undef) UC.mH he.nd (λj p x ah=>by
   have L:=he.ak j p x ah;have hk:ks j<outs.length:=(List.getElem?_eq_some_iff.1 L.out).1;have hu:vs[ks j]?=some (vs[ks j]'(by rw [pB,<- l5]; exact hk)):=List.getElem?_eq_getElem _;have vm:vs.getD (ks j) undef=vs[ks j]'(by rw [pB,<- l5]; exact hk):=by simp [List.getD,hu]
   refine ⟨L.LV,?_,?_⟩
   ·rw [vm,h'.yv (w':=w') (λ_ _=>rfl) PW L.LV];rcases L.arg with ⟨z,n,cs,h1,af⟩ | ⟨cs,h1,af⟩
    ·exact RG h (qk _ _ _ h1 hu) af
    ·exact RF h (qk _ _ _ h1 hu) af
   ·rw [vm]; exact XD _ x _ L.out hu)
  (λj t c ah aa=>Pc _ c aa t) (λj c ah aa=>Pd _ c aa) (λi j c hi ah h1 af=>he.inj i j hi ah (dX.eI _ _ c h1 af))
 have UD:=H4.keep he.JI;have Xx:∀ t c,b7 outs.length c->¬ (g4 t≠none/\yL t c):=by
  rintro t c aa ⟨_,bF⟩;rcases Eu t c bF with aR | ⟨j,ah,aR⟩
  ·exact Pc _ c aa t aR
  ·have hk:ks j<outs.length:=by
    have xg:=List.getElem?_eq_getElem ah;exact (List.getElem?_eq_some_iff.1 (he.ak j _ _ xg).out).1
   have:=dX.eI _ _ c aa aR;omega
 have nM:=UD.uG (d:=d) (x:=res) (v:=KS) (F:=b7 outs.length) aO (by rw [<- aP,bd]; exact c5.lt jO) (.tree (L0 (mY.gG (CC he.aq)) he.aq)) Xx (λc aa=>Pd _ c aa) (λz p n m new e=>absurd e (CC he.aq z p n m new));refine di _ _ KS If _ (by rw [aS]; rfl) (by rw [aS]; simp [Act.put,aP]) (h.back nM Vb) ⟨?_,Nc,λc aa=>?_,λc aa=>?_⟩
 ·exact b0.eT.mono λb _ ⟨s,aB⟩=>(tN s b aB).2.2
 ·rcases Nd c aa with aR | ⟨s,aR⟩ | aR
  ·exact .inl aR
  ·exact .inr (.inl (tN s c aR).2.2)
  ·exact .inr (.inr aR)
 ·have fin:∀ t,b7 t c->(∃ s,Fs s c)\/w.heap.size<=c:=by
   intro t aw;rcases J6 t c aw with ⟨s,aR⟩ | aR
   ·exact .inl (tN s c aR).2.2
   ·exact .inr aR
  rcases wm aa with ⟨t,_,aR⟩ | aR
  ·rcases Eu t c aR with jc | ⟨j,_,jc⟩
   ·exact .inl (Nr c (.inl ⟨t,M7 t c jc⟩))
   ·exact fin _ jc
  ·exact fin _ aR
structure QR (g:aK) (d r k0:Nat) (g4 g5:aK):Prop where
 sub:∀ t x,g4 t=some x->g5 t=some x
 new:∀ t x,g5 t=some x->g4 t=some x\/(g4 t=none/\t≠d/\g t=some x/\∃ m z n cs,x=.ptr ⟨r,[k0]⟩ m/\bB g4 ⟨r,[k0]⟩=some (.own z n cs)/\m<cs.length)
theorem hG.bB {g1 g2:aK}(h:hG g1 g2) {p:Place}{y:ab}(au:bB g2 p=some y):bB g1 p=some y:=by
 unfold Own.bB at *;cases J:g2 p.root with
 | none=>rw [J] at au; cases au
 | some x=>rw [J] at au; rw [h.sub _ _ J]; exact au
theorem hP.TF {N:c5}{o:Oper}{r k0 d:Nat}{y:ab}{cs:List ab}{g5:aK}(aq:g r=some (.obj cs)) (ax:cs[k0]?=some y) (xv:cU y)
  (vr:∀ v:Value,v.oneCell'=true->∃ g1 g4 u',hG (cu g ⟨r,[k0]⟩ (.lit v)) g1/\hP P N g1 o d g4/\bB g4 ⟨r,[k0]⟩=some (.lit v)/\hG (cu g4 ⟨r,[k0]⟩ y) u'/\bB u' ⟨r,[k0]⟩=some y/\QR g d r k0 u' g5):hP P N g o d g5:=by
 intro w I T Fs h a aP bd K Q di;have lj:∀ z q n m new,y≠.bL z q n m new:=by rintro z q n m new rfl; cases xv
 have gp:bB g ⟨r,[k0]⟩=some y:=by simp [bB,aq,ab.at,ab.kids,ax]
 obtain ⟨v,cy,hv,dH,dw,put⟩:=h.mH.part gp lj;have uj:v.oneCell'=true:=by
  obtain ⟨u,hu,mX⟩:=h.rel r _ aq;obtain ⟨b,wk,h1,af,aI,bF,_⟩:=R.node (z:=0) (n:=0) (mX.gG (by simp)) (.inr rfl) ax
  grind [dW,walk]
 obtain ⟨fZ,jd,zj,Br⟩:=put (.lit v) cx (.lit uj λ_ h=>h) (λ_ h=>h.elim) (λ_ h=>h.elim) (λ_ _ _ h=>h.elim);obtain ⟨g1,g4,u',hg,db,H',IC,acg,av⟩:=vr v uj;have uN:∀ t c,fZ t c->Fs t c/\¬ cy c:=by
  intro t c aa;by_cases aw:t=r
  ·grind
  ·rw [Br t aw] at aa;exact ⟨aa,λaW=>aw (h.eI t r c aa (dw c aW))⟩
 have H3:=jd.keep hg;refine db w I T _ H3 a aP bd K Q λca w' gv I' b7 Hv Bj dX b0=>?_;obtain ⟨v2,iZ,B8,mv,Ui,Kk⟩:=dX.mH.part H' (by simp);have I5:v2=v:=mv.hC.1;subst I5;have M':∀ c,cy c->¬ I c:=λc aa=>h.bk r c (dw c aa);have Bt:∀ c,cy c->c<w.heap.size:=λc aa=>h.jZ r c (dw c aa);have CG:∀ c,cy c->¬ ∃ t,(g1 t≠none/\fZ t c):=λc aa ⟨t,_,aR⟩=>(uN t c aR).2 aa;have CF:∀ t c,b7 t c->¬ cy c:=by
  intro t c aa aW;rcases b0.own c ⟨t,aa⟩ with aR | aR
  ·grind
  grind
 have J4:∀ c,cy c->¬ I' c:=by
  intro c aa hi;rcases b0.new c hi with aR | aR | aR
  all_goals grind
 have Kz:∀ c,cy c->w'.heap[c]?=w.heap[c]?:=λc aa=>b0.eT.block c (Bt c aa) (CG c aa);have sr:∀ c,I c->w'.heap[c]?=w.heap[c]?:=λc aa=>b0.eT.block c (h.lt c aa) λ⟨t,_,aR⟩=>h.bk t c (uN t c aR).1 aa;have Bz:R w' I' (fz w' (T.setIfInBounds d gv)) y v2 cy :=
  ((dH.bl xv).frame sr b0.more (λ_ _ h=>h) Kz)
 obtain ⟨Li,H5,M8,HT⟩:=Kk y cy Bz (λc aa aW=>(CF _ c aW aa).elim) (λc aa=>J4 c aa) (λt c _ aa aW=>CF t c aW aa);have tQ:=H5.keep IC;have Wj:dW w' (T.setIfInBounds d gv) ⟨r,[k0]⟩=some v2:=B8;have UE:cH w' I' (T.setIfInBounds d gv) g5 (λt c=>u' t≠none/\Li t c):=by
  refine ⟨λt x J=>?_,λt aw c aa=>?_,tQ.eI,tQ.bk,tQ.lt,λt t' z p n m new bC cG m' c3 h1 af=>?_⟩
  ·rcases av.new t x J with aR | ⟨h1,af,aI,m,z,n,cs2,rfl,cF,ej⟩
   ·obtain ⟨u,hu,aY⟩:=tQ.rel t x aR;exact ⟨u,hu,tQ.w2 (λ_ _=>rfl) (λ_ _ _=>rfl) (λ_ _=>rfl) (λ_ h=>h) av.sub aY λ_ _=>rfl⟩
   ·obtain ⟨u,hu,aY⟩:=h.rel t _ aI;obtain ⟨⟨Ds,ad,aD,a2,rfl⟩,_⟩:=(aY.gG (by simp)).nR;rw [hv] at aD;cases aD;refine ⟨_,by rw [Array.getElem?_setIfInBounds_ne (Ne.symm af)]; exact hu,.tree (.ref rfl ⟨⟨v2,ad,Wj,a2,rfl⟩,?_⟩ (tQ.kY t h1))⟩;refine ⟨.own z n cs2,?_,z,n,cs2,.inl rfl,ej⟩;unfold Own.bB at cF ⊢;cases gg:u' r with
    | none=>simp only [gg] at cF; cases cF
    | some x'=>simp only [gg] at cF; simp only [av.sub r x' gg]; exact cF
  ·cases aR:u' t with
   | none=>exact aa.1 aR
   | some y=>rw [av.sub t y aR] at aw; cases aw
  ·have:∀ {t z p n m new},g5 t=some (.bL z p n m new)->u' t=some (.bL z p n m new):=by
    intro t z p n m new J;rcases av.new t _ J with aR | ⟨_,_,_,m,z,n,cs2,e,_⟩
    all_goals grind
   exact tQ.rp t t' z p n m new bC cG m' c3 (this h1) (this af)
 refine di ca w' gv I' _ Hv Bj UE ⟨?_,b0.more,λc aa=>?_,λc aa=>?_⟩
 ·exact b0.eT.mono λb _ ⟨t,_,aR⟩=>⟨t,(uN t b aR).1⟩
 ·rcases b0.new c aa with aR | ⟨t,_,aR⟩ | aR
  all_goals grind
 ·obtain ⟨t,_,aa⟩:=aa;have:(∃ t,b7 t c)\/cy c:=by
   by_cases aw:t=r
   ·grind
   ·rw [HT t aw] at aa
    grind
  rcases this with aR | aR
  ·rcases b0.own c aR with ⟨t,_,jc⟩ | jc
   ·grind
   grind
  grind
end
end Go.Own
namespace Go.Own
open Go
def oK:ab->Option (List ab)
 | .agg cs=>some cs
 | .lit v=>some [.lit v]
 | .aL=>some [.aL]
 | .bk z n cs=>some [.bk z n cs]
 | .own z n cs=>some [.own z n cs]
 | .obj cs=>some [.obj cs]
 | .cI cs=>some [.cI cs]
 | .cX f a b=>some [.cX f a b]
 | _=>none
def hq (P:Program) (t:TypeId) (m:Nat):Bool :=
 match P.info? t with
 | some i=>i.size == m
 | none=>false
def iy (P:Program) (N:c5) (g:aK) (o:Oper) (g':aK):Prop :=
 ∀ (w:World) (I:bb) (T:Array Value) (Fs:Nat->bb),cH w I T g Fs->∀ (a:Act),a.tmps=T->a.tmps.size=N.size->∀ (K:Act->World->Prop) (Q:Exit->Act->World->Prop),
  (∀ (ca:Act) (w':World),h9 N a w I Fs g' ca w'->(∀ t,o.dst≠some t->ca.tmps[t]?=a.tmps[t]?)->K ca w')->o.wp P a w K Q
inductive bm (P:Program) (N:c5) (g:aK):Oper->aK->Prop
 | assign {o:Oper}{d:Nat}{x:Operand}{y bx y':ab}{g1 g2:aK}(a1:o.op=.assign x) (aS:o.dst=some d) (J:bs g x=some y) (aw:Take g [y] [bx] g1) (aX:h7 bx y') (hk:hG g1 g2) (aO:g2 d=none) (bd:N.ok d=true):bm P N g o (cV g2 d y')
 | RM {o:Oper}{d:Nat}{x:Operand}{y:ab}{g2:aK}(a1:o.op=.assign x) (aS:o.dst=some d) (J:bs g x=some y) (hk:hG g g2) (ax:dh g2 y) (aO:g2 d=none) (bd:N.ok d=true):bm P N g o (cV g2 d y)
 | store {o:Oper}{t:TypeId}{ad val:Operand}{p:Place}{k z n:Nat}{y bx y' nd:ab}{cs cs':List ab}{g1 g2:aK}(a1:o.op=.store t ad val) (aS:o.dst=none) (fP:bs g ad=some (.ptr p k)) (pF:bs g val=some y) (aw:Take g [y] [bx] g1) (q':h7 bx y')
   (aa:oK y'=some cs') (aB:hq P t cs'.length=true) (au:bB g1 p=some nd) (fm:nd=.own z n cs\/nd=.obj cs) (hk:k+cs'.length<=cs.length) (aQ:0<cs'.length)
   (zr:∀ t x,g2 t=some x->cu g1 p (nd.e5 k cs') t=some x) (r_:∀ t x,g2 t=some x->∀ y,g1 t=some y->jo (λr=>gC g1 r/\Clear p k cs'.length r/\gC g2 r) y) (lj:∀ t z q n m new,g2 t≠some (.bL z q n m new)) (kf:g2 p.root≠none):bm P N g o g2
 | call {o:Oper}{d:Nat}{g5:aK}(aS:o.dst=some d) (bd:N.ok d=true) (h:hP P N g o d g5):bm P N g o g5
 | KH {o:Oper}{g2:aK}(h:iy P N g o g2):bm P N g o g2
section
variable {P:Program}{w:World}{I:bb}{T:Array Value}{g:aK}{Fs:Nat->bb}
theorem Hand.one {y:ab}{v:Value}(aY:R w I (dT w T g) y v cx):Hand w I (fz w T) Fs [y] [v] (λ_=>cx) :=
 ⟨rfl,λk x u J hu=>by
  cases k with
  | zero=>simp at J hu; subst J hu; exact aY.frame (λ_ _=>rfl) (λ_ h=>h) (λ_ _ h=>h.1) λ_ _=>rfl
  | succ k=>simp at J,λ_ _ _ _ _ h=>h.elim,λ_ _ _ _ h=>h.elim,λ_ _ _ h=>h.elim⟩
theorem Hand.Kp {ρ:ab->Value->Prop}{y:ab}{v:Value}{dC:Nat->bb}(h:Hand w I ρ Fs [y] [v] dC):R w I ρ y v (dC 0):=h.rel 0 y v rfl rfl
theorem Hand.cells {y:ab}{v:Value}{dC:Nat->bb}(h:Hand w I (fz w T) Fs [y] [v] dC) (aF:cU y) {cs:List ab}(aa:oK y=some cs) :
  ∃ yN,Hand w I (fz w T) Fs cs v.cells.toList yN/\(∀ x∈cs,cU x)/\(∀ (j:Nat) (u:Value),v.cells.toList[j]?=some u->u.oneCell'=true)/\∀ j c,j<cs.length->yN j c->dC 0 c:=by
 have aY:=h.Kp;have single:∀ {x:ab},y=x->v.oneCell'=true->∃ yN,Hand w I (fz w T) Fs [x] v.cells.toList yN/\(∀ z∈[x],cU z)/\(∀ (j:Nat) (u:Value),v.cells.toList[j]?=some u->u.oneCell'=true)/\∀ j c,j<[x].length->yN j c->dC 0 c:=by
  rintro x rfl h1;have Ez:v.cells=#[v]:=by cases v <;> first | rfl | (simp [Value.oneCell'] at h1)
  grind
 cases y <;> simp only [oK,Option.some.injEq,reduceCtorEq] at aa
 case agg l =>
  subst aa;cases aY with
  | ref J=>simp [ab.isRef] at J
  | @agg _ vs bM _ ak h1 aq aS aN =>
   have fV:∀ k c,k<l.length->bM k c->dC 0 c:=λk c hk aa=>(aN c).2 ⟨k,hk,aa⟩;refine ⟨bM,⟨by simp [Value.cells,ak],λk x u J hu=>aq k x u J (by simpa [Value.cells] using hu),aS,λk t c hk aa=>h.off 0 t c (by simp) (fV k c hk aa),λk c hk aa=>h.bk 0 c (by simp) (fV k c hk aa)⟩,?_,λj u hu=>h1 j u (by simpa [Value.cells] using hu),fV⟩;cases aF with | agg h=>exact h
 case lit a=>subst aa; exact single rfl (by obtain ⟨rfl,h1⟩:=aY.hC; exact h1)
 case aL=>subst aa; exact single rfl (by rw [aY.sh]; rfl)
 case bk z n l=>subst aa; exact single rfl (by obtain ⟨a,cap,rfl,_⟩:=aY.zJ; rfl)
 case own z n l=>subst aa; exact single rfl (by obtain ⟨a,cap,rfl,_⟩:=aY.np; rfl)
 case cI l=>subst aa; exact single rfl (by obtain ⟨ad,us,rfl,_⟩:=aY.xz; rfl)
 case obj l =>
  subst aa;refine single rfl ?_;cases aY with
  | ref J=>simp [ab.isRef] at J
  | obj=>rfl
 case cX f a b =>
  subst aa;refine single rfl ?_;cases aY with
  | ref J=>simp [ab.isRef] at J
  | cX=>rfl
theorem jD.om {I':bb}{ρ:ab->Value->Prop}{x:ab}{v:Value}{F:bb}(h:jD w I ρ x v F) (bc:∀ c,I c->I' c):jD w I' ρ x v F:=by
 cases h with
 | tree h=>exact .tree (h.om bc)
 | bL h=>exact .bL ⟨h.jT,h.lk,h.nL,h.ak,h.h1,λk x u J hu=>(h.aq k x u J hu).om bc,h.aN⟩
theorem MW {g1:aK}{fZ:Nat->bb}{H1:Nat->bb}{bx y':ab}{v:Value}(bj:jE w I T g1 fZ) (hH:Hand w I (fz w T) fZ [bx] [v] H1) (aF:cU bx) (aX:h7 bx y') :
  ∃ (I':bb) (tn:bb),(∀ c,I c->I' c)/\(∀ c,I' c->I c\/H1 0 c)/\jE w I' T g1 fZ/\Hand w I' (fz w T) fZ [y'] [v] (λ_=>tn)/\∀ c,tn c->H1 0 c:=by
 have aY:=hH.Kp;obtain ⟨tn,gF,jM⟩:=R.dN aX aY aF (λc aa=>hH.bk 0 c (by simp) aa) bj.lt;refine ⟨λc=>I c\/(H1 0 c/\¬ tn c),tn,λc aa=>.inl aa,λc aa=>aa.elim .inl λh=>.inr h.1,⟨λt x J=>?_,bj.kY,bj.eI,λt c aa hi=>?_,λc aa=>?_⟩,⟨rfl,λk x u J hu=>?_,λj k c ah hk _ _=>by simp at ah hk; omega,λk t c hk aa aW=>hH.off 0 t c (by simp) (gF c aa) aW,λk c hk aa hi=>?_⟩,gF⟩
 ·obtain ⟨u,hu,mX⟩:=bj.rel t x J;exact ⟨u,hu,mX.om λc aa=>.inl aa⟩
 ·rcases hi with h | ⟨h,_⟩
  ·exact bj.bk t c aa h
  ·exact hH.off 0 t c (by simp) h aa
 ·rcases aa with h | ⟨h,_⟩
  ·exact bj.lt c h
  ·exact aY.lt c h
 ·grind
 ·rcases hi with h | ⟨_,h⟩
  ·exact hH.bk 0 c (by simp) (gF c aa) h
  grind
theorem bm.ka {N:c5}{o:Oper}{g':aK}(he:bm P N g o g'):iy P N g o g':=by
 intro w I T Fs h a aP bd K Q di;cases he with
 | KH he=>exact he w I T Fs h a aP bd K Q di
 | @call d _ aS jO aa =>
  refine aa w I T Fs h a aP bd K Q λca w' v I' b7 h1 af aI bF=>di ca w' ⟨h1,by rw [af,<- aP]; exact hF.put jO _ _,I',b7,by rw [af]; exact aI,bF⟩ λt aw=>?_
  grind
 | @assign d x y bx y' g1 g2 a1 aS J aw aX hk aO jO =>
  have aY:=kg h J aP;obtain ⟨fZ,H1,sJ,vd,hS⟩:=aw.sound h.mH (Hand.one aY);have BR:cU bx:=aw.Fq bx (by simp);obtain ⟨I',tn,px,HW,jd,iM,gF⟩:=MW sJ vd BR aX;have na:cU y':=aX.bl BR;have h':=jd.keep hk;have nM:=h'.uG (d:=d) (x:=y') (v:=a.eval x) (F:=tn) aO (by rw [<- aP,bd]; exact c5.lt jO) (.tree (iM.Kp.bl na)) (λt c aa aW=>iM.off 0 t c (by simp) aa aW.2) (λc aa=>iM.bk 0 c (by simp) aa) (by rintro z p n m new rfl; cases na);have hT:(execOp a.eval o).run P w=.ok (.value (a.eval x)) w:=by simp [execOp,a1]
  unfold Oper.wp Oper.upon;simp only [hT];have f':∀ c,H1 0 c->∃ t,Fs t c:=λc aa=>by
   rcases hS c (.inr ⟨0,by simp,aa⟩) with jc | ⟨_,_,jc⟩
   all_goals grind
  refine di _ _ ⟨by rw [aS]; rfl,by rw [aS]; exact hF.put jO _ _,I',_,by rw [aS]; simpa [Act.put,aP] using nM,⟨Fr.refl _ _,px,λc aa=>(HW c aa).elim .inl λh=>.inr (.inl (f' c h)),λc aa=>?_⟩⟩ λt aw=>by rw [aS]; simp only [Act.put]; rw [Array.getElem?_setIfInBounds_ne]; rintro rfl; exact aw aS
  rcases wm aa with ⟨t,_,aR⟩ | aR
  ·rcases hS c (.inl ⟨t,aR⟩) with jc | ⟨_,_,jc⟩
   ·grind
   grind
  grind
 | @RM d x y g2 a1 aS J hk ax aO jO =>
  have aY:=kg h J aP;have h':=h.mH.keep hk;have jM:R w I (dT w T g2) y (a.eval x) cx:=(aY.frame (ρ':=fz w T) (λ_ _=>rfl) (λ_ h=>h) (λ_ _ h=>h.1) λ_ _=>rfl).bV ax;have nM:=h'.uG (d:=d) (x:=y) (v:=a.eval x) (F:=cx) aO (by rw [<- aP,bd]; exact c5.lt jO) (.tree jM) (λ_ _ h=>h.elim) (λ_ h=>h.elim) (by rintro z p n m new rfl; exact jM.lp.elim);have hT:(execOp a.eval o).run P w=.ok (.value (a.eval x)) w:=by simp [execOp,a1]
  unfold Oper.wp Oper.upon;simp only [hT];refine di _ _ ⟨by rw [aS]; rfl,by rw [aS]; exact hF.put jO _ _,I,_,by rw [aS]; simpa [Act.put,aP] using nM,⟨Fr.refl _ _,λ_ h=>h,λ_ h=>.inl h,λc aa=>?_⟩⟩ λt aw=>by rw [aS]; simp only [Act.put]; rw [Array.getElem?_setIfInBounds_ne]; rintro rfl; exact aw aS
  rcases wm aa with ⟨t,_,aR⟩ | aR
  ·grind
  grind
 | @store t ad val p k z n y bx y' nd cs cs' g1 _ a1 aS fP pF aw q' aa aB au fm hk aQ zr r_ lj kf =>
  have mY:=kg h pF aP;obtain ⟨⟨u,ZT,hu,H9,t_⟩,_⟩:=(kg h fP aP).nR;obtain ⟨fZ,H0,sJ,vd,H_⟩:=aw.sound h.mH (Hand.one mY);have BR:cU bx:=aw.Fq bx (by simp);obtain ⟨I',tn,px,HW,jd,iM,Wd⟩:=MW sJ vd BR q';have na:cU y':=q'.bl BR;have f':∀ c,H0 0 c->∃ t,Fs t c:=λc aa=>by
   rcases H_ c (.inr ⟨0,by simp,aa⟩) with jc | ⟨_,_,jc⟩
   all_goals grind
  have hS:∀ c,lz fZ 1 (λ_=>tn) c->lz Fs [y].length (λ_=>cx) c:=by
   rintro c (⟨t,aa⟩ | ⟨_,_,aa⟩)
   ·exact H_ c (.inl ⟨t,aa⟩)
   ·exact .inl (f' c (Wd c aa))
  obtain ⟨yN,Nb,Ip,ht,ab'⟩:=iM.cells na aa;have lp:∀ z q n m new,nd≠.bL z q n m new:=by rcases fm with rfl | rfl <;> simp
  obtain ⟨v,cy,hv,dH,dw,_⟩:=jd.part au lp;rw [hu] at hv;cases hv;obtain ⟨b,ha,av,_⟩:=dH.node fm (List.getElem?_eq_getElem (show k<cs.length by omega));rw [H9] at av;cases av;have kc:∃ e arr,w.heap[b]?=some (.cells arr e (0,0))/\cs.length<=arr.size:=by
   rcases fm with rfl | rfl
   ·cases dH with
    | ref J=>simp [ab.isRef] at J
    | own qo ak =>
     obtain ⟨l8,bY⟩:=qo
     grind [addrOf]
   ·cases dH with
    | ref J=>simp [ab.isRef] at J
    | obj qo ak =>
     grind [addrOf]
  obtain ⟨e,arr,kc,hle⟩:=kc;obtain ⟨i_,h',gF⟩:=jd.store au fm hk Nb Ip ht zr r_ lj kf hu H9 kc;have hf:(a.eval val).cells.toList.length=cs'.length:=Nb.len.symm;have b0:=run_storeCells_at P b k e (a.eval val).cells.toList 0 arr w kc (by omega) (λu hu=>by
   obtain ⟨j,ah,rfl⟩:=List.mem_iff_getElem.1 hu;exact ht j _ (List.getElem?_eq_getElem ah))
  simp only [Nat.add_zero] at b0;have fX:(sizeOf t).run P w=.ok cs'.length w:=by
   unfold hq at aB;cases hi:P.info? t with
   | none=>simp [hi] at aB
   | some i=>simp [hi] at aB; simp [sizeOf,typeInfo,hi,aB]
  have hT:(execOp a.eval o).run P w=.ok .skip (w.setRow b (e5 arr.toList k (a.eval val).cells.toList).toArray):=by
   simp_all [execOp,Instr.storeAt,Instr.sureAddr,storeVar,e5]
  unfold Oper.wp Oper.upon;simp only [hT];have tY:∃ t,Fs t b:=by
   rcases hS b (.inl ⟨_,dw b (dH.Fo fm (ad:=⟨b,0,none⟩) H9)⟩) with aR | ⟨_,_,aR⟩
   all_goals grind
  refine di _ _ ⟨by rw [aS]; rfl,by rw [aS]; exact hF.refl,I',i_,by rw [aS]; simpa [Act.put,aP] using h',⟨⟨rfl,rfl,rfl,by simp,λc _ aa=>setRow_other w b c _ (λe=>aa (e ▸ tY)),λa _=>HH w b _ a,Nat.le_refl _⟩,px,λc aa=>(HW c aa).elim .inl λh=>.inr (.inl (f' c h)),λc ⟨t,aa⟩=>?_⟩⟩ λt _=>by rw [aS]; rfl
  rcases gF t c aa with aR | ⟨j,ah,aR⟩
  ·rcases hS c (.inl ⟨t,aR⟩) with jc | ⟨_,_,jc⟩
   ·grind
   grind
  grind
theorem bm.sound (h:cH w I T g Fs) {a:Act}(aP:a.tmps=T) {N:c5}(bd:a.tmps.size=N.size) {o:Oper}{g':aK}(he:bm P N g o g') {K:Act->World->Prop}{Q:Exit->Act->World->Prop}
  (di:∀ ca w',h9 N a w I Fs g' ca w'->K ca w'):o.wp P a w K Q:=he.ka w I T Fs h a aP bd K Q λca w' h _=>di ca w' h
end
end Go.Own
namespace Go.Own
open Go
def oC (g g':aK):Prop:=∀ t x,g t=some x->g' t=some x
section
variable {P:Program}{g g':aK}
theorem e4 (h:oC g g') {x:Operand}{y:ab}(ax:bs g x=some y):bs g' x=some y:=by
 cases x <;> simp only [bs] at ax ⊢
 case tmp t =>
  cases J:g t with
  | none=>rw [J] at ax; cases ax
  | some z=>rw [J] at ax; rw [h t z J]; exact ax
 case const v=>exact ax
 case global n=>exact ax
 case func f=>exact ax
theorem zU (h:oC g g'):∀ {xs:List Operand}{ys:List ab},gl g xs=some ys->gl g' xs=some ys
 | [],_,ax=>ax
 | x::xs,ys,ax=>by
  simp only [gl] at ax ⊢;cases J:bs g x with
  | none=>simp [J] at ax
  | some y =>
   cases sf:gl g xs with
   | none=>simp [J,sf] at ax
   | some DE=>simp only [J,sf] at ax; simp only [e4 h J,zU h sf]; exact ax
theorem Pr (h:oC g g'):∀ {l:List (Nat × Operand)}{ps:List (Nat × List ab)},rl g l=some ps->rl g' l=some ps
 | [],_,ax=>ax
 | (i,x)::l,ps,ax=>by
  simp only [rl] at ax ⊢;cases J:bs g x with
  | none=>simp [J] at ax
  | some y =>
   cases sf:rl g l with
   | none=>simp [J,sf] at ax
   | some DE=>simp only [J,sf] at ax; simp only [e4 h J,Pr h sf]; exact ax
theorem p3.mono (h:oC g g') {d:Nat}{x:Option Operand}{j:Nat}(av:p3 g d x j):p3 g' d x j:=by
 cases x with
 | none=>exact av
 | some o=>obtain ⟨k,hk⟩:=av; exact ⟨k,e4 h hk⟩
theorem c6.mono (h:oC g g') {op:Op}{ty:TypeId}{x:ab}(au:c6 P g op ty x):c6 P g' op ty x:=by
 cases au with
 | move J=>exact .move (e4 h J)
 | assign J=>exact .assign (e4 h J)
 | pick aa aq=>exact .pick (e4 h aa) (e4 h aq)
 | Fm J=>exact .Fm (e4 h J)
 | qB J=>exact .qB (e4 h J)
 | Bn J aW db=>exact .Bn (e4 h J) aW (db.mono h)
 | Em J aW=>exact .Em (e4 h J) aW
 | El J aW aw ax=>exact .El (e4 h J) aW aw ax
 | HC J aW aw hk=>exact .HC (e4 h J) aW aw hk
 | E1 J hi aw ah=>exact .E1 (e4 h J) (e4 h hi) aw ah
 | E0 J hi aw ah db=>exact .E0 (e4 h J) (e4 h hi) aw ah (db.mono h)
 | Js J hi aw ah db=>exact .Js (e4 h J) (e4 h hi) aw ah (db.mono h)
 | EZ J hi aw ah db=>exact .EZ (e4 h J) (e4 h hi) aw ah (db.mono h)
 | Jr J hi aw ah=>exact .Jr (e4 h J) (e4 h hi) aw ah
 | Fe J aw=>exact .Fe (e4 h J) aw
 | Ff J aw hk=>exact .Ff (e4 h J) aw hk
 | Cu J aw ax=>exact .Cu (e4 h J) aw (kL h ax)
 | xM J aw ax aa hm=>exact .xM (e4 h J) aw (kL h ax) aa hm
 | E2 J hi aw av=>exact .E2 (e4 h J) (e4 h hi) aw av
 | bin J ax hv aq=>exact .bin (e4 h J) (e4 h ax) hv aq
 | A6 J ax hv aq=>exact .A6 (e4 h J) (e4 h ax) hv aq
 | un J hv aq=>exact .un (e4 h J) hv aq
 | conv J hv aq=>exact .conv (e4 h J) hv aq
 | Eb J au aF hL aw=>exact .Eb (e4 h J) (kL h au) aF hL aw
 | Ec J aw=>exact .Ec (e4 h J) aw
 | @Hz xs gm _ f vs v J hv aq =>
  refine .Hz (vs:=vs) ?_ hv aq;apply List.ext_getElem?;intro k;have:=congrArg (·[k]?) J;simp only [List.getElem?_map] at this ⊢;rw [<- this];cases hk:xs.toList[k]? with
  | none=>rfl
  | some o =>
   rw [hk] at this;cases hv:vs[k]? with
   | none=>rw [hv] at this; cases this
   | some v =>
    rw [hv] at this;simp only [Option.map_some,Option.some.injEq] at this ⊢;rw [this,e4 h this]
 | Ei J ax=>exact .Ei (e4 h J) ax
 | Az J ak bY aw h1 af=>exact .Az (e4 h J) (ak.mono h) (bY.mono h) aw h1 af
 | KK J ak bY aw aF db=>exact .KK (e4 h J) (ak.mono h) (bY.mono h) aw aF (db.mono h)
 | F6 J ak bY aw h1 af db=>exact .F6 (e4 h J) (ak.mono h) (bY.mono h) aw h1 af (db.mono h)
 | AA J ak bY aw h1 af=>exact .AA (e4 h J) (ak.mono h) (bY.mono h) aw h1 af
 | Cr J aw=>exact .Cr (e4 h J) aw
 | Cq J aw=>exact .Cq (e4 h J) aw
 | JO J aw=>exact .JO (e4 h J) aw
 | JN J aw=>exact .JN (e4 h J) aw
 | Fc J au ax di aY aq=>exact .Fc (e4 h J) (kL h au) (e4 h ax) di aY aq
 | Ct J ax di aY aq=>exact .Ct (e4 h J) (e4 h ax) di aY aq
 | @lits b xs gm _ vs v J hv aq =>
  refine .lits (vs:=vs) ?_ hv aq;clear aq;generalize xs.toList=l at J
  induction l generalizing vs with
  | nil=>exact J
  | cons x l aU =>
   cases vs with
   | nil=>simp at J
   | cons v vs =>
    simp only [List.map_cons,List.cons.injEq] at J ⊢;exact ⟨e4 h J.1,aU J.2⟩
theorem p7.mono (h:oC g g') {op:Op}{ty:TypeId}{x:ab}(au:p7 P g op ty x):p7 P g' op ty x:=by
 cases au with
 | box J aa=>exact .box (e4 h J) aa
 | alloc aX h1=>exact .alloc aX h1
 | makeMap bg=>exact .makeMap bg
 | buildSlice aw au J aX aa av aF hzero=>exact .buildSlice aw au (zU h J) aX aa av aF hzero
 | makeSlice aw J ax hzero h1 pK av aF ob vD EY=>exact .makeSlice aw (e4 h J) (e4 h ax) hzero h1 pK av aF ob vD EY
theorem u0.mono (h:oC g g') {op:Op}{ty:TypeId}{x:ab}(au:u0 P g op ty x):u0 P g' op ty x:=by
 cases au with
 | build aw aX h1 au aa=>exact .build aw aX h1 (Pr h au) aa
 | makeFunc aP av=>exact .makeFunc (zU h aP) (zU h av)
theorem Src.mono (h:oC g g') {y:ab}{z m:Nat}{cells:List ab}(aB:Src g y z m cells):Src g' y z m cells:=by
 cases aB with
 | bk=>exact .bk
 | aL=>exact .aL
 | a6 bg hm=>exact .a6 (kL h bg) hm
 | sub bg hm=>exact .sub (kL h bg) hm
theorem cg.mono (h:oC g g') {op:Op}{ty:TypeId}{x:ab}(au:cg P g op ty x) (e9:∀ z p n m new,x=.bL z p n m new->∀ t bC cG m' c3,g' t≠some (.bL bC p cG m' c3)):cg P g' op ty x:=by
 cases au with
 | eX au=>exact .eX (au.mono h)
 | rk au=>exact .rk (au.mono h)
 | CI au=>exact .CI (au.mono h)
 | lS au =>
  cases au with
  | grow aB db _ J r' aw q9 av=>exact .lS (.grow (e4 h aB) (db.mono h) (e9 _ _ _ _ _ rfl) (e4 h J) (r'.mono h) aw q9 av)
  | nil aB J r' aw q9 av=>exact .lS (.nil (e4 h aB) (e4 h J) (r'.mono h) aw q9 av)
theorem View.mono (h:oC g g') {x y:ab}(hv:View g x y):View g' x y:=by
 induction hv with
 | qB=>exact .qB
 | self h1 af aI bF cF ej=>exact .self h1 af aI bF cF ej
 | mp=>exact .mp
 | gx au=>exact .gx (kL h au)
 | agg ak _ aU=>exact .agg ak aU
 | own ak _ aU=>exact .own ak aU
 | obj ak _ aU=>exact .obj ak aU
 | cX ak _ aU=>exact .cX ak aU
 | a6 au aF ak _ aU=>exact .a6 (kL h au) aF ak aU
 | sub au aF ak _ aU=>exact .sub (kL h au) aF ak aU
 | ptr au ax hk ak _ aU=>exact .ptr (kL h au) ax hk ak aU
 | rows au ak _ aU=>exact .rows (au.mono (λau=>kL h au) h) ak aU
theorem cJ.mono (h:oC g g') {op:Op}{x:ab}(au:cJ P g op x):cJ P g' op x:=by
 cases au with
 | plain aa J aW aF gQ aq=>exact .plain (e4 h aa) (zU h J) aW aF gQ aq
 | Fa aa J aW ak hv gQ aq=>exact .Fa (e4 h aa) (zU h J) aW ak (λk x y J ax=>(hv k x y J ax).mono h) gQ aq
def iA (g:aK) (ops:Array Oper) (o:Oper) (b:Bool):Prop :=
 match o.guard with
 | none=>b=true
 | some (j,want)=>∃ t,(ops[j]?).bind (·.dst)=some t/\((∃ c,g t=some (.lit (.bool c))/\b=(c == want))\/(g t=some (.bW [])/\b=false))
theorem iA.mono (h:oC g g') {ops:Array Oper}{o:Oper}{b:Bool}(hw:iA g ops o b):iA g' ops o b:=by
 unfold iA at *;split
 ·rename_i aO; rw [aO] at hw; exact hw
 ·rename_i j want aO;rw [aO] at hw;obtain ⟨t,h1,⟨c,af,aI⟩ | ⟨af,aI⟩⟩:=hw
  ·exact ⟨t,h1,.inl ⟨c,h t _ af,aI⟩⟩
  ·exact ⟨t,h1,.inr ⟨h t _ af,aI⟩⟩
theorem iA.sound {w:World}{I:bb}{T:Array Value}{Fs:Nat->bb}(bj:cH w I T g Fs) {ops:Array Oper}{o:Oper}{b:Bool}(hw:iA g ops o b):Region.wanted o (yielded ops T)=b:=by
 unfold iA at hw;unfold Region.wanted
 split at hw
 ·rename_i aO; rw [aO]; exact hw.symm
 ·rename_i j want aO;rw [aO];obtain ⟨t,h1,⟨c,af,aI⟩ | ⟨af,aI⟩⟩:=hw
  ·obtain ⟨v,hv,aY⟩:=bj.rel _ _ af;have:=(aY.gG (by simp)).hC.1;subst this;subst aI;simp only [yielded,h1,Option.bind_some,hv];cases c <;> cases want <;> rfl
  ·obtain ⟨v,hv,aY⟩:=bj.rel _ _ af;have:∃ vs,v=.tuple vs:=by
    cases aY.gG (by simp) with
    | bW=>exact ⟨_,rfl⟩
    | ref J=>simp [ab.isRef] at J
   obtain ⟨vs,rfl⟩:=this;subst aI;simp only [yielded,h1,Option.bind_some,hv];cases want <;> rfl
def p' (P:Program) (g:aK) (ops:Array Oper) (o:Oper):Option ab->Prop
 | none=>iA g ops o false
 | some x=>(iA g ops o true/\(cg P g o.op o.type x\/cJ P g o.op x))\/(iA g ops o false/\x=.bW [])\/(iA g ops o true/\∃ y,(cg P g o.op o.type y\/cJ P g o.op y)/\cU y/\View (λ_=>none) y x)
theorem p'.mono (h:oC g g') {ops:Array Oper}{o:Oper}{r:Option ab}(aB:p' P g ops o r) (e9:∀ z p n m new,r=some (.bL z p n m new)->∀ t bC cG m' c3,g' t≠some (.bL bC p cG m' c3)):p' P g' ops o r:=by
 cases r with
 | none=>exact iA.mono h aB
 | some x =>
  rcases aB with aB | ⟨aB,J⟩ | ⟨aB,y,au,aF,hv⟩
  ·refine .inl ⟨aB.1.mono h,?_⟩;rcases aB.2 with au | au
   ·exact .inl (au.mono h λz p n m new e=>e9 z p n m new (by rw [e]))
   ·exact .inr (au.mono h)
  ·exact .inr (.inl ⟨aB.mono h,J⟩)
  ·refine .inr (.inr ⟨aB.mono h,y,?_,aF,hv⟩);rcases au with au | au
   ·exact .inl (au.mono h λz p n m new e=>by subst e; cases aF)
   ·exact .inr (au.mono h)
def leaf:ab->Bool
 | .own .. | .obj .. | .agg .. | .bW .. | .bL .. | .mp ..=>false
 | _=>true
def del (g:aK) (d:Nat):aK:=λt=>if t=d then none else g t
theorem Xf {x y:ab}(h:leaf x=true):∀ {q:List Nat},x.at q=some y->y=x
 | [],ax=>by simpa [ab.at] using ax.symm
 | k::q,ax=>by
  have:x.kids=[]:=by cases x <;> first | rfl | simp [leaf] at h
  simp [ab.at,this] at ax
theorem y7 {d:Nat}{x:ab}(aS:g d=some x) (ak:leaf x=true) {p:Place}{y:ab}(au:bB g p=some y) (ax:leaf y=false):bB (del g d) p=some y:=by
 have aq:p.root≠d:=by
  intro e;unfold bB at au;rw [e,aS] at au;rw [Xf ak au,ak] at ax;cases ax
 simp only [bB,del,if_neg aq] at au ⊢;exact au
theorem gC.del {d:Nat}{x:ab}(aS:g d=some x) (ak:leaf x=true) {r:ab}(h:gC g r):gC (del g d) r:=by
 have root:∀ {t:Nat}{y:ab},g t=some y->leaf y=false->Own.del g d t=some y:=by
  intro t y aw ax;have:t≠d:=by
   rintro rfl;rw [aS] at aw;cases aw;rw [ak] at ax; cases ax
  simp only [Own.del,if_neg this,aw]
 cases r <;> simp only [gC] at h ⊢
 case ptr p k =>
  obtain ⟨y,ax,z,n,cs,eO,hk⟩:=h;exact ⟨y,y7 aS ak ax (by rcases eO with rfl | rfl <;> rfl),z,n,cs,eO,hk⟩
 case a6 z p n =>
  rcases h with ⟨N,cs,ax,aF⟩ | ⟨h1,q,gH,m,new,af,aI⟩
  ·exact .inl ⟨N,cs,y7 aS ak ax rfl,aF⟩
  ·exact .inr ⟨h1,q,gH,m,new,root af rfl,aI⟩
 case sub z p lo n =>
  obtain ⟨N,cs,ax,aF⟩:=h;exact ⟨N,cs,y7 aS ak ax rfl,aF⟩
 case gx p=>obtain ⟨q,h⟩:=h; exact ⟨q,y7 aS ak h rfl⟩
 case bL z p n m new =>
  rcases h with ⟨cs,ax⟩ | ⟨h1,q,gH,m,new,cs,af,aI,bF⟩
  ·exact .inl ⟨cs,y7 aS ak ax rfl⟩
  ·exact .inr ⟨h1,q,gH,m,new,cs,root af rfl,aI,y7 aS ak bF rfl⟩
theorem R.Xe {w:World}{I:bb}{ρ:ab->Value->Prop}{x:ab}{v:Value}{F:bb}(h:R w I ρ x v F) (ak:leaf x=true):∀ c,¬ F c:=by
 cases h with
 | own | obj | agg | bW | mp=>simp [leaf] at ak
 | lit _ aN | aL aN | dead aN | ref _ _ aN | hM aN | bk aN | cI aN | cX aN | imp aN=>exact aN
theorem cH.drop {w:World}{I:bb}{T:Array Value}{Fs:Nat->bb}(h:cH w I T g Fs) {d:Nat}{x:ab}(aS:g d=some x) (ak:leaf x=true):cH w I T (del g d) Fs:=by
 refine ⟨λt y ax=>?_,λt aw c aa=>?_,h.eI,h.bk,h.lt,λt t' z p n m new bC cG m' c3 h1 af=>?_⟩
 ·have oT:g t=some y:=by
   unfold del at ax
   split at ax
   ·cases ax
   ·exact ax
  obtain ⟨v,hv,aY⟩:=h.rel t y oT;exact ⟨v,hv,aY.frame (λ_ _=>rfl) (λ_ h=>h) (λ_ _ aq=>⟨aq.1,aq.2.del aS ak⟩) (λ_ _ _ _ _ _ _=>rfl) λ_ _=>rfl⟩
 ·unfold del at aw
  split at aw
  ·rename_i e;subst e;obtain ⟨v,hv,aY⟩:=h.rel t x aS;exact (aY.gG (by rintro z p n m new rfl; simp [leaf] at ak)).Xe ak c aa
  ·exact h.kY t aw c aa
 ·have key:∀ {t:Nat}{y:ab},del g d t=some y->g t=some y:=by
   intro t y ax;unfold del at ax
   split at ax
   ·cases ax
   ·exact ax
  exact h.rp _ _ _ _ _ _ _ _ _ _ _ (key h1) (key af)
end
end Go.Own
namespace Go.Own
open Go
def yc (g:aK) (d:Nat):Option ab->aK
 | some x=>cV g d x
 | none=>g
section
variable {P:Program}{w:World}{I:bb}{T:Array Value}{g:aK}{Fs:Nat->bb}{N:c5}{ops:Array Oper}
theorem kp.refl (w:World) (I U:bb):kp w I U w I U:=⟨Fr.refl _ _,λ_ h=>h,λ_ h=>.inl h,λ_ h=>.inl h⟩
theorem kp.trans {w ig hy:World}{I AT DO U y1 Lx:bb}(h:kp w I U ig AT y1) (h1:kp ig AT y1 hy DO Lx):kp w I U hy DO Lx:=by
 have nn:∀ c,c<w.heap.size->y1 c->U c:=λc aa hu=>by
  rcases h.own c hu with aR | aR
  ·exact aR
  ·omega
 refine ⟨h.eT.trans h1.eT nn,λc aa=>h1.more c (h.more c aa),λc aa=>?_,λc aa=>?_⟩
 ·rcases h1.new c aa with aR | aR | aR
  ·exact h.new c aR
  ·rcases h.own c aR with jc | jc
   ·exact .inr (.inl jc)
   ·exact .inr (.inr jc)
  ·exact .inr (.inr (Nat.le_trans h.eT.size aR))
 ·rcases h1.own c aa with aR | aR
  ·exact h.own c aR
  ·exact .inr (Nat.le_trans h.eT.size aR)
theorem h9.trans {N:c5}{a aD a2:Act}{ig hy:World}{AT:bb}{fZ:Nat->bb}{g2:aK}(h1:aD.defers=a.defers) (af:hF N a.tmps aD.tmps) (b0:kp w I (λc=>∃ t,Fs t c) ig AT (λc=>∃ t,fZ t c)) (h:h9 N aD ig AT fZ g2 a2 hy):h9 N a w I Fs g2 a2 hy:=by
 obtain ⟨cv,b9,DO,i_,bj,qp⟩:=h;exact ⟨cv.trans h1,af.trans b9,DO,i_,bj,b0.trans qp⟩
theorem cH.X8 (h:cH w I T g Fs) {d:Nat}(aS:g d=none) (v:Value):cH w I (T.setIfInBounds d v) g Fs:=by
 have dM:∀ t,g t≠none->(T.setIfInBounds d v)[t]?=T[t]?:=by
  intro t aw;rw [Array.getElem?_setIfInBounds_ne];rintro rfl; exact aw aS
 refine ⟨λt x J=>?_,h.kY,h.eI,h.bk,h.lt,h.rp⟩;obtain ⟨u,hu,aY⟩:=h.rel t x J;exact ⟨u,by rw [dM t (by rw [J]; simp)]; exact hu,h.w2 dM (λ_ _ _=>rfl) (λ_ _=>rfl) (λ_ h=>h) (λ_ _ h=>h) aY λ_ _=>rfl⟩
structure GJ (dN:Nat->Bool) (g g2:aK):Prop where
 nn:∀ t x,g2 t=some x->dN t=false->g t=some x/\dh g2 x
 pL:∀ t x,g2 t=some x->dN t=true->∃ y,g t=some y/\cU y/\h7 y x
 fx:∀ t z q n m new,g2 t≠some (.bL z q n m new)
theorem cH.u_ (h:cH w I T g Fs) {dN:Nat->Bool}{g2:aK}(aX:GJ dN g g2):∃ I' b7,cH w I' T g2 b7/\kp w I (λc=>∃ t,Fs t c) w I' (λc=>∃ t,b7 t c):=by
 have rZ:=h.mH;have CC:∀ t x,g2 t=some x->∀ z p n m new,x≠.bL z p n m new:=by
  rintro t x J z p n m new rfl;exact aX.fx _ _ _ _ _ _ J
 -- of each slot what it owns from now on
 have:∀ t,∃ c8:bb,(∀ c,c8 c->Fs t c/\g2 t≠none)/\∀ x,g2 t=some x->(dN t=false->∀ c,Fs t c->c8 c)/\∃ v,T[t]?=some v/\R w (λc=>I c\/(Fs t c/\¬ c8 c)) (dT w T g2) x v c8:=by
  intro t;cases J:g2 t with
  | none=>exact ⟨cx,λ_ h=>h.elim,λx h=>by cases h⟩
  | some x =>
   cases aw:dN t with
   | false =>
    obtain ⟨h1,af⟩:=aX.nn t x J aw;obtain ⟨v,hv,aY⟩:=rZ.rel t x h1;refine ⟨Fs t,λc aa=>⟨aa,by simp⟩,λy ax=>?_⟩;cases ax;exact ⟨λ_ _ h=>h,v,hv,((aY.gG (CC t x J)).bV af).om λc aa=>.inl aa⟩
   | true =>
    obtain ⟨y,h1,af,aI⟩:=aX.pL t x J aw;obtain ⟨v,hv,aY⟩:=rZ.rel t y h1;have jM:=aY.gG (by rintro z p n m new rfl; cases af);obtain ⟨c8,aB,UB⟩:=R.dN aI jM af (λc aa=>rZ.bk t c aa) rZ.lt;refine ⟨c8,λc aa=>⟨aB c aa,by simp⟩,λz aX=>?_⟩;cases aX;exact ⟨λh=>absurd h (by simp),v,hv,UB.bl (aI.bl af)⟩
 obtain ⟨b7,jL⟩:=Classical.axiomOfChoice this;refine ⟨λc=>I c\/∃ t,Fs t c/\g2 t≠none/\¬ b7 t c,b7,⟨λt x J=>?_,λt aw c aa=>((jL t).1 c aa).2 aw,λt t' c aa fl=>h.eI t t' c ((jL t).1 c aa).1 ((jL t').1 c fl).1,λt c aa hi=>?_,λc aa=>?_,λt t' z p n m new bC cG m' c3 h1 _=>absurd h1 (aX.fx _ _ _ _ _ _)⟩,Fr.refl _ _,λ_ h=>.inl h,λc aa=>?_,λc ⟨t,aa⟩=>.inl ⟨t,((jL t).1 c aa).1⟩⟩
 ·obtain ⟨_,v,hv,aY⟩:=(jL t).2 x J;exact ⟨v,hv,.tree (aY.om λc aa=>aa.elim .inl λaa=>.inr ⟨t,aa.1,by rw [J]; simp,aa.2⟩)⟩
 ·rcases hi with aR | ⟨s,h1,_,af⟩
  ·exact h.bk t c ((jL t).1 c aa).1 aR
  ·have:=h.eI t s c ((jL t).1 c aa).1 h1;subst this;exact af aa
 ·rcases aa with aR | ⟨s,aR,_⟩
  ·exact h.lt c aR
  ·exact h.jZ s c aR
 ·rcases aa with aR | ⟨s,aR,_⟩
  ·exact .inl aR
  ·exact .inr (.inl ⟨s,aR⟩)
theorem p'.sound (h:cH w I T g Fs) {a:Act}(aP:a.tmps=T) (bd:a.tmps.size=N.size) {o:Oper}{r:Option ab}{d:Nat}(aB:p' P g ops o r) (aS:o.dst=some d) (aO:g d=none) (jO:N.ok d=true) {K:Act->World->Prop}{Q:Exit->Act->World->Prop}
  (di:∀ ca w',h9 N a w I Fs (yc g d r) ca w'->K ca w') :
  if Region.wanted o (yielded ops a.tmps) then o.wp P a w K Q\/(o.asks P a w/\LetsOut Q) else K (a.put o.dst undef) w:=by
 subst aP;cases r with
 | none =>
  rw [iA.sound h aB];simp only [Bool.false_eq_true,if_false];refine di _ _ ⟨by rw [aS]; rfl,by rw [aS]; exact hF.put jO _ _,I,Fs,by rw [aS]; exact h.X8 aO _,kp.refl _ _ _⟩
 | some x =>
  have fin:∀ x v w',uY w I a.tmps g Fs x v w'->(∀ ca w',h9 N a w I Fs (cV g d x) ca w'->K ca w')->K (a.put o.dst v) w':=by
   rintro x v w' ⟨F,I',bj,aY,h1,af,aI,bF,cF,ej⟩ di;refine di _ _ ⟨by rw [aS]; rfl,by rw [aS]; exact hF.put jO _ _,I',_,by rw [aS]; exact bj.uG aO (by rw [bd]; exact c5.lt jO) aY (λt c aa aW=>h1 t c aa aW) (λc aa=>(af c aa).2) ej,⟨cF,aI,λc aa=>?_,λc aa=>?_⟩⟩
   ·rcases bF c aa with aR | aR
    ·exact .inl aR
    ·exact .inr (.inr aR)
   ·rcases wm aa with aR | aR
    ·exact .inl aR
    ·exact .inr (af c aR).1
  have pL:∀ y v w',cU y->View (λ_=>none) y x->uY w I a.tmps g Fs y v w'->uY w I a.tmps g Fs x v w':=by
   rintro y v w' aF hv ⟨F,I',bj,aY,h1,af,aI,bF,cF,ej⟩;have dH:=aY.gG (by rintro z p n m new rfl; cases aF);refine ⟨cx,λc=>I' c\/F c,⟨λt z aX=>?_,bj.kY,bj.eI,λt c aa hi=>?_,λc aa=>?_,bj.rp⟩,.tree (dH.pL aF hv (λc aa=>(af c aa).2) bj.lt),λ_ _ h=>h.elim,λ_ h=>h.elim,λc aa=>.inl (aI c aa),λc aa=>?_,cF,?_⟩
   ·obtain ⟨u,hu,mX⟩:=bj.rel t z aX;exact ⟨u,hu,mX.om λc aa=>.inl aa⟩
   ·rcases hi with h | h
    ·exact bj.bk t c aa h
    ·exact h1 t c h aa
   ·rcases aa with h | h
    ·exact bj.lt c h
    ·exact dH.lt c h
   ·rcases aa with h | h
    ·exact bF c h
    ·exact .inr (af c h).1
   ·rintro z p n m new rfl;cases hv with
    | self h=>cases h
  rcases aB with aB | ⟨aB,rfl⟩ | ⟨aB,y,au,aF,hv⟩
  rotate_left
  rotate_left
  ·rw [iA.sound h aB];simp only [if_true];refine .inl ?_;have MQ:∀ v w',uY w I a.tmps g Fs y v w'->K (a.put o.dst v) w':=λv w' c9=>fin x v w' (pL y v w' aF hv c9) di;rcases au with au | au
   ·obtain ⟨v,w',hT,c9⟩:=au.sound h rfl;unfold Oper.wp Oper.upon;simp only [hT];exact MQ v w' c9
   ·exact au.sound h rfl MQ
  rotate_left
  ·rw [iA.sound h aB];simp only [Bool.false_eq_true,if_false];refine di _ _ ⟨by rw [aS]; rfl,by rw [aS]; exact hF.put jO _ _,I,_,by rw [aS]; exact h.uG aO (by rw [bd]; exact c5.lt jO) (.tree (.bW (Fs:=λ_=>cx) (F:=cx) rfl (λk x u J _=>by simp at J) (λ_ _ _ _ _ h=>h.elim) (λc=>⟨λh=>h.elim,λ⟨_,_,h⟩=>h⟩))) (λ_ _ h=>h.elim) (λ_ h=>h.elim) (λ_ _ _ _ _ e=>by cases e),⟨Fr.refl _ _,λ_ h=>h,λ_ h=>.inl h,λc aa=>?_⟩⟩;rcases wm aa with aR | aR
   ·exact .inl aR
   ·exact aR.elim
  rw [iA.sound h aB.1];simp only [if_true];refine .inl ?_;have fin:∀ v w',uY w I a.tmps g Fs x v w'->K (a.put o.dst v) w':=by
   rintro v w' ⟨F,I',bj,aY,h1,af,aI,bF,cF,ej⟩;refine di _ _ ⟨by rw [aS]; rfl,by rw [aS]; exact hF.put jO _ _,I',_,by rw [aS]; exact bj.uG aO (by rw [bd]; exact c5.lt jO) aY (λt c aa aW=>h1 t c aa aW) (λc aa=>(af c aa).2) ej,⟨cF,aI,λc aa=>?_,λc aa=>?_⟩⟩
   ·rcases bF c aa with aR | aR
    ·exact .inl aR
    ·exact .inr (.inr aR)
   ·rcases wm aa with aR | aR
    ·exact .inl aR
    ·exact .inr (af c aR).1
  rcases aB.2 with au | au
  ·obtain ⟨v,w',hT,c9⟩:=au.sound h rfl;unfold Oper.wp Oper.upon;simp only [hT];exact fin v w' c9
  ·exact au.sound h rfl fin
inductive oE (P:Program) (N:c5) (ops:Array Oper):List Nat->aK->aK->Prop
 | nil {g:aK}:oE P N ops [] g g
 | step {i:Nat}{rest:List Nat}{g g':aK}{o:Oper}{d:Nat}{r:Option ab}(a1:ops[i]?=some o) (aS:o.dst=some d) (aO:g d=none) (jO:N.ok d=true) (aB:p' P g ops o r)
   (aq:oE P N ops rest (yc g d r) g'):oE P N ops (i::rest) g g'
 | ka {i:Nat}{rest:List Nat}{g g1 g':aK}{o:Oper}(a1:ops[i]?=some o) (hw:iA g ops o true) (he:bm P N g o g1) (aq:oE P N ops rest g1 g'):oE P N ops (i::rest) g g'
 | drop {is:List Nat}{g g':aK}{d:Nat}{x:ab}(aS:g d=some x) (ak:leaf x=true) (aq:oE P N ops is (del g d) g'):oE P N ops is g g'
 | forget {is:List Nat}{g g1 g':aK}(hk:hG g g1) (aq:oE P N ops is g1 g'):oE P N ops is g g'
 | u_ {is:List Nat}{g g1 g':aK}{dN:Nat->Bool}(hk:GJ dN g g1) (aq:oE P N ops is g1 g'):oE P N ops is g g'
theorem oE.sound {is:List Nat}{g':aK}(aq:oE P N ops is g g'):∀ {a:Act}{w:World}{I:bb}{Fs:Nat->bb}{Q:Exit->Act->World->Prop},cH w I a.tmps g Fs->a.tmps.size=N.size ->
  (∀ ca w',h9 N a w I Fs g' ca w'->Q .normal ca w')->wpOps P ops Q is a w:=by
 induction aq with
 | nil=>exact λbj bd dP=>dP _ _ ⟨rfl,hF.refl,_,_,bj,kp.refl _ _ _⟩
 | @step i rest g g' o d r a1 aS aO jO aB _ aU =>
  intro a w I Fs Q bj bd dP;simp only [wpOps,a1];refine aB.sound bj rfl bd aS aO jO λca w' aF=>?_;obtain ⟨cv,b9,I',b7,dX,b0⟩:=aF;exact aU dX (b9.1.trans bd) λa2 hy af=>dP _ _ (h9.trans cv b9 b0 af)
 | @ka i rest g g1 g' o a1 hw he _ aU =>
  intro a w I Fs Q bj bd dP;simp only [wpOps,a1,hw.sound bj,if_true];refine .inl (he.sound bj rfl bd λca w' aF=>?_);obtain ⟨cv,b9,I',b7,dX,b0⟩:=aF;exact aU dX (b9.1.trans bd) λa2 hy af=>dP _ _ (h9.trans cv b9 b0 af)
 | @drop is g g' d x aS ak _ aU=>exact λbj bd dP=>aU (bj.drop aS ak) bd dP
 | @u_ is g g1 g' dN hk _ aU =>
  intro a w I Fs Q bj bd dP;obtain ⟨I',b7,dX,b0⟩:=bj.u_ hk;exact aU dX bd λa2 hy af=>dP _ _ (h9.trans rfl hF.refl b0 af)
 | @forget is g g1 g' hk _ aU =>
  intro a w I Fs Q bj bd dP;have dX:=bj.mH.keep hk;refine aU dX bd λa2 hy af=>dP _ _ (h9.trans rfl hF.refl ⟨Fr.refl _ _,λ_ h=>h,λ_ h=>.inl h,λc aa=>?_⟩ af);obtain ⟨t,_,aa⟩:=aa;exact .inl ⟨t,aa⟩
end
end Go.Own
namespace Go.Own
open Go
def so (rs:List Nat):Place->Prop:=λp=>p.root∈rs
def pb (P:Program) (N:c5) (rs:Place->Prop) (g:aK) (o:Oper) (g':aK):Prop :=
 ∀ (w:World) (I:bb) (T:Array Value) (Fs:Nat->bb),cH w I T g Fs->∀ (a:Act),a.tmps=T->a.tmps.size=N.size->∀ (K:Act->World->Prop) (Q:Exit->Act->World->Prop),
  (∀ (ca:Act) (w':World),h9 N a w I Fs g' ca w'->(∀ t,o.dst≠some t->ca.tmps[t]?=a.tmps[t]?)->(∀ r path,rs ⟨r,path⟩->∀ y,bB g ⟨r,path⟩=some y->(∀ z q n m new,y≠.bL z q n m new)->dW w' ca.tmps ⟨r,path⟩=dW w T ⟨r,path⟩)->K ca w')->o.wp P a w K Q
theorem iy.v {P:Program}{N:c5}{g g':aK}{o:Oper}(h:iy P N g o g'):pb P N (so []) g o g' :=
 λw I T Fs bj a aP bd K Q di=>h w I T Fs bj a aP bd K Q λca w' h1 af=>di ca w' h1 af λ_ _ h=>by simp [so] at h
inductive p8:ab->Prop
 | lit {v:Value}:p8 (.lit v)
 | aL:p8 .aL
 | bk {z n:Nat}{cs:List ab}(h:∀ x∈cs,cU x):p8 (.bk z n cs)
 | agg {cs:List ab}(h:∀ x∈cs,p8 x):p8 (.agg cs)
theorem p8.bl {x:ab}(h:p8 x):cU x:=by
 induction h with
 | lit=>exact .lit
 | aL=>exact .aL
 | bk h=>exact .bk h
 | agg _ aU=>exact .agg aU
theorem p8.kY {w:World}{I:bb}{ρ:ab->Value->Prop}{x:ab}(h:p8 x):∀ {v:Value}{F:bb},R w I ρ x v F->∀ c,¬ F c:=by
 induction h with
 | lit =>
  intro v F aY;cases aY with
  | lit _ aN=>exact aN
  | ref J=>simp [ab.isRef] at J
 | aL =>
  intro v F aY;cases aY with
  | aL aN=>exact aN
  | ref J=>simp [ab.isRef] at J
 | bk =>
  intro v F aY;cases aY with
  | ref J=>simp [ab.isRef] at J
  | hM aN=>exact aN
  | bk aN=>exact aN
 | @agg cs _ aU =>
  intro v F aY c aa;cases aY with
  | ref J=>simp [ab.isRef] at J
  | @agg _ vs bM _ ak h1 aq aS mu =>
   obtain ⟨k,hk,af⟩:=(mu c).1 aa;have hu:vs[k]?=some (vs[k]'(by omega)):=Array.getElem?_eq_getElem (by omega);exact aU _ (List.getElem_mem hk) (aq k _ _ (List.getElem?_eq_getElem hk) hu) c af
structure GF (g:aK):Prop where
 bV:∀ t x,g t=some x->dh g x
 fx:∀ t z q n m new,g t≠some (.bL z q n m new)
def A3 (rs:Place->Prop) (g g1:aK) (o:Oper) (x:ab):Prop:=(∃ r path z n N cs,x=.a6 z ⟨r,path⟩ n/\rs ⟨r,path⟩/\bB g ⟨r,path⟩=some (.own z N cs)/\bB g1 ⟨r,path⟩=some (.own z N cs)/\n<=N)\/(∃ v,x=.lit v)\/(∃ s p k,x=.ptr p k/\g s=some x/\g1 s=some x/\o.dst≠some s)\/(∃ r k cs,x=.ptr ⟨r,[]⟩ k/\g1 r=some (.obj cs)/\k<cs.length/\o.dst≠some r/\∃ cs',g r=some (.obj cs')/\k<cs'.length)\/(∃ z n cs,x=.bk z n cs/\cU x)\/(∃ cs,x=.agg cs/\p8 x/\GF g)
section
variable {P:Program}{N:c5}{g g1:aK}{o:Oper}
theorem P6 {T:Array Value}{t:Nat}{v:Value}(h:T[t]?=some v):T.setIfInBounds t v=T:=by
 apply Array.ext (by simp);intro i h1 af;rw [Array.getElem_setIfInBounds];split
 ·rename_i e;subst e;have:=(Array.getElem?_eq_some_iff.1 h);exact this.2.symm
 ·rfl
theorem cH.Td {w:World}{I:bb}{T:Array Value}{Fs:Nat->bb}{t:Nat}{x:ab}(h:cH w I T (cV g t x) Fs) (aO:g t=none) (aa:GF g) (lf:∀ c,¬ Fs t c):cH w I T g Fs:=by
 have gF:∀ s y,g s=some y->cV g t x s=some y:=λs y aB=>by
  unfold cV;rw [if_neg (λe=>by rw [e,aO] at aB; cases aB)]; exact aB
 have af:=h.mH.keep (g2:=g) ⟨gF,aa.bV,aa.fx⟩;have e:(λs c=>g s≠none/\Fs s c)=Fs:=by
  funext s c;apply propext;refine ⟨λh=>h.2,λaW=>⟨λaF=>?_,aW⟩⟩;by_cases aB:s=t
  ·subst aB; exact lf c aW
  ·exact h.kY s (by unfold cV; rw [if_neg aB]; exact aF) c aW
 rw [e] at af;exact af
theorem pb.extra {rs:Place->Prop}(h:pb P N rs g o g1) {t:Nat}{x:ab}(l7:∀ p,rs p->g p.root≠none) (aO:g t=none) (Vq:g1 t=none) (aw:o.dst≠some t) (J:A3 rs g g1 o x):pb P N rs (cV g t x) o (cV g1 t x):=by
 intro w I T Fs bj a aP bd K Q di;have I4:cV g t x t=some x:=by simp [cV]
 have lj:∀ z q n m new,x≠.bL z q n m new:=by
  rcases J with ⟨r,path,z,n,N,cs,rfl,_⟩ | ⟨v,rfl⟩ | ⟨s,p,k,rfl,_⟩ | ⟨r,k,cs,rfl,_⟩ | ⟨z,n,cs,rfl,_⟩ | ⟨cs,rfl,_⟩ <;> simp
 have sJ:cH w I T g Fs:=by
  have A7:leaf x=true->cH w I T g Fs:=λvp=>by
   have:=bj.drop I4 vp;have e:del (cV g t x) t=g:=by
    funext s;unfold del cV;by_cases aB:s=t
    ·subst aB; simp [aO]
    ·simp [aB]
   rwa [e] at this
  rcases J with ⟨r,path,z,n,N,cs,rfl,_⟩ | ⟨v,rfl⟩ | ⟨s,p,k,rfl,_⟩ | ⟨r,k,cs,rfl,_⟩ | ⟨z,n,cs,rfl,_⟩ | ⟨cs,rfl,ug,hf⟩
  ·exact A7 rfl
  ·exact A7 rfl
  ·exact A7 rfl
  ·exact A7 rfl
  ·exact A7 rfl
  ·obtain ⟨v,_,mY⟩:=bj.rel t _ I4;exact bj.Td aO hf (ug.kY (mY.gG (by simp)))
 obtain ⟨v,hv,mY⟩:=bj.rel t x I4;refine h w I T Fs sJ a aP bd K Q λca w' aF sV Oo=>di ca w' ?_ sV λr path aq y ax lj=>?_
 rotate_left
 ·by_cases Oa:r=t
  ·subst Oa;exact absurd aO (l7 _ aq)
  ·exact Oo r path aq y (by simpa [bB,cV,Oa] using ax) lj
 obtain ⟨cv,b9,I',b7,dX,b0⟩:=aF;have iu:ca.tmps[t]?=some v:=by rw [sV t aw,aP]; exact hv
 have jM:jD w' I' (dT w' ca.tmps g1) x v cx:=by
  rcases J with ⟨r,path,z,n,uZ,cs,rfl,aq,zy,ky,VO⟩ | ⟨u,rfl⟩ | ⟨s,p,k,rfl,aB,xl,V7⟩ | ⟨r,k,cs,rfl,ky,hk,r9,_⟩ | ⟨z,n,cs,rfl,na⟩ | ⟨cs,rfl,ug,hf⟩
  ·obtain ⟨⟨aD,i',cap,hn,rfl,lF⟩,_⟩:=(mY.gG (by simp)).nh;exact .tree (.ref rfl ⟨⟨aD,i',cap,by rw [Oo r path aq _ zy (by simp)]; exact hn,rfl,lF⟩,.inl ⟨uZ,cs,ky,VO⟩⟩ λ_ h=>h)
  ·obtain ⟨rfl,aa⟩:=(mY.gG (by simp)).hC;exact .tree (.lit aa λ_ h=>h)
  ·obtain ⟨⟨Ds,ad,aD,a2,rfl⟩,_⟩:=(mY.gG (by simp)).nR;have b0:s≠t:=by rintro rfl; rw [aO] at aB; cases aB
   obtain ⟨u,hu,mX⟩:=sJ.rel s _ aB;obtain ⟨⟨ada,ZS,hn,iD,rfl⟩,_⟩:=(mX.gG (by simp)).nR;rw [aD] at hn;cases hn;rw [a2] at iD;cases iD;obtain ⟨wk,jP,H2⟩:=dX.rel s _ xl;have:ca.tmps[s]?=T[s]?:=by rw [sV s V7,aP]
   rw [this,hu] at jP;cases jP;exact .tree (.ref rfl (H2.gG (by simp)).nR λ_ h=>h)
  ·obtain ⟨⟨Ds,ad,aD,a2,rfl⟩,_⟩:=(mY.gG (by simp)).nR;have dM:ca.tmps[r]?=T[r]?:=by rw [sV r r9,aP]
   have pF:∀ (w:World) (T:Array Value),dW w T ⟨r,[]⟩=T[r]?:=λw T=>by
    unfold dW; simp only; cases T[r]? <;> rfl
   exact .tree (.ref rfl ⟨⟨Ds,ad,by rw [pF,dM,<- pF w T]; exact aD,a2,rfl⟩,⟨.obj cs,by simp [bB,ky,ab.at],0,0,cs,.inr rfl,hk⟩⟩ λ_ h=>h)
  ·have sr:∀ c,I c->w'.heap[c]?=w.heap[c]?:=λc aa=>b0.eT.block c (bj.lt c aa) λ⟨t',aR⟩=>sJ.bk t' c aR aa;have HX:=(mY.gG (by simp)).bl na (ρ':=dT w' ca.tmps g1);have lf:∀ c,¬ Fs t c:=by
    cases mY.gG (by simp) with
    | ref J=>simp [ab.isRef] at J
    | hM aN=>exact aN
    | bk aN=>exact aN
   exact .tree ((HX.frame sr b0.more (λ_ _ h=>h) λc aa=>absurd aa (lf c)).empty lf)
  ·have sr:∀ c,I c->w'.heap[c]?=w.heap[c]?:=λc aa=>b0.eT.block c (bj.lt c aa) λ⟨t',aR⟩=>sJ.bk t' c aR aa;have lf:=ug.kY (mY.gG (by simp));have HX:=(mY.gG (by simp)).bl ug.bl (ρ':=dT w' ca.tmps g1);exact .tree ((HX.frame sr b0.more (λ_ _ h=>h) λc aa=>absurd aa (lf c)).empty lf)
 have nM:=dX.uG (d:=t) (x:=x) (v:=v) (F:=cx) Vq (Array.getElem?_eq_some_iff.1 iu).1 jM (λ_ _ h=>h.elim) (λ_ h=>h.elim) (λz p n m new e=>absurd e (lj _ _ _ _ _));rw [P6 iu] at nM;refine ⟨cv,b9,I',_,nM,⟨b0.eT,b0.more,b0.new,λc aa=>?_⟩⟩;rcases wm aa with aR | aR
 ·exact b0.own c aR
 ·exact aR.elim
theorem iy.frame {g0 HI:aK}{r:Nat}{x:ab}(h:iy P N g0 o HI) (aq:g r=some x) (J:cU x) (hk:hG g g0) (aQ:g0 r=none) (h1:HI r=none) (aS:o.dst≠some r):pb P N (so [r]) g o (cV HI r x):=by
 intro w I T Fs bj a aP bd K Q di;have sJ:=bj.mH.keep hk;refine h w I T _ sJ a aP bd K Q λca w' aF sV=>?_;obtain ⟨cv,b9,I',b7,dX,b0⟩:=aF;obtain ⟨u,hu,aY⟩:=bj.rel r x aq;have jP:ca.tmps[r]?=some u:=by rw [sV r aS,aP]; exact hu
 have lj:∀ z q n m new,x≠.bL z q n m new:=by rintro z q n m new rfl; cases J
 have off:∀ c,Fs r c->¬ ∃ t,(g0 t≠none/\Fs t c):=by
  rintro c aa ⟨t,lT,af⟩;have:=bj.eI t r c af aa;subst this;exact lT aQ
 have same:∀ c,Fs r c->w'.heap[c]?=w.heap[c]?:=λc aa=>b0.eT.block c (bj.jZ r c aa) (off c aa);have sr:∀ c,I c->w'.heap[c]?=w.heap[c]?:=λc aa=>b0.eT.block c (bj.lt c aa) λ⟨t,_,aR⟩=>bj.bk t c aR aa;have nM:=dX.uG (d:=r) (x:=x) (v:=u) (F:=Fs r) h1 (Array.getElem?_eq_some_iff.1 jP).1 (.tree (((aY.gG lj).bl J).frame sr b0.more (λ_ _ h=>h) same)) (λt c aa aW=>by
   rcases b0.own c ⟨t,aW⟩ with aR | aR
   ·exact off c aa aR
   ·have:=bj.jZ r c aa; omega) (λc aa hi=>by
   rcases b0.new c hi with aR | aR | aR
   ·exact bj.bk r c aa aR
   ·exact off c aa aR
   ·have:=bj.jZ r c aa; omega) (λz p n m new e=>absurd e (lj _ _ _ _ _))
 rw [P6 jP] at nM;refine di ca w' ⟨cv,b9,I',_,nM,⟨b0.eT.mono λb _ ⟨t,_,aR⟩=>⟨t,aR⟩,b0.more,λc aa=>?_,λc aa=>?_⟩⟩ sV λdm path ec y ax hyp=>?_
 ·rcases b0.new c aa with aR | ⟨t,_,aR⟩ | aR
  ·exact .inl aR
  ·exact .inr (.inl ⟨t,aR⟩)
  ·exact .inr (.inr aR)
 ·rcases wm aa with aR | aR
  ·rcases b0.own c aR with ⟨t,_,jc⟩ | jc
   ·exact .inl ⟨t,jc⟩
   ·exact .inr jc
  ·exact .inl ⟨r,aR⟩
 ·have ec:dm∈[r]:=ec;simp only [List.mem_singleton] at ec;subst ec;have hg:hG g (λt=>if t=dm then some x else none):=by
   refine ⟨λt y hc=>?_,λt y hc=>?_,λt z q n m new hc=>?_⟩
   all_goals
    by_cases e:t=dm
    case neg=>simp [e] at hc
   ·subst e; simp at hc; subst hc; exact aq
   ·subst e; simp at hc; subst hc; exact .bl J
   ·subst e; simp at hc; exact lj _ _ _ _ _ hc
  refine (bj.mH.keep hg).yv (T':=ca.tmps) (λt aw=>?_) (λt c aa=>?_) (p:=⟨dm,path⟩) (y:=y) ?_
  ·by_cases e:t=dm
   ·subst e; rw [sV t aS,aP]
   ·simp [e] at aw
  ·by_cases e:t=dm
   ·subst e; exact same c aa.2
   ·simp [e] at aa
  ·simp only [bB,if_true];simpa [bB,aq] using ax
end
end Go.Own
namespace Go.Own
open Go
abbrev Acc:=List (Nat × Nat × Option ab)
def dg (g0:aK) (A:Nat->Bool):Acc->aK
 | [],t=>g0 t
 | (k,d,r)::acc,t=>if d=t then (if A k then r else none) else dg g0 A acc t
def j0:Nat × Nat × Option ab->Option Place
 | (_,_,some (.bL _ p _ _ _))=>some p
 | _=>none
def ph (ops:Array Oper) (bf:List (List Nat)):Bool :=
 (List.range ops.size).all λk =>
  match ops[k]? with
  | none=>true
  | some o=>(o.after.all λe=>!Region.binds .any e||decide (e.on<k))&&(bf.getD k []).all λm=>decide (m<k)&&o.after.any λe=>Region.binds .any e&&(e.on == m||(bf.getD e.on []).contains m)
inductive iL (P:Program) (N:c5) (ops:Array Oper) (bf:List (List Nat)) (g0:aK) (i:Nat) (dU:Acc):Nat->Acc->Prop
 | nil:iL P N ops bf g0 i dU i dU
 | step {j:Nat}{acc:Acc}{o:Oper}{d:Nat}{r:Option ab}(h:iL P N ops bf g0 i dU j acc) (a1:ops[j]?=some o) (aS:o.dst=some d) (aO:g0 d=none) (aF:∀ e∈acc,e.2.1≠d) (jO:N.ok d=true)
   (aB:p' P (dg g0 (λm=>(bf.getD j []).contains m) acc) ops o r):iL P N ops bf g0 i dU (j+1) ((j,d,r)::acc)
structure mO (P:Program) (N:c5) (ops:Array Oper) (bf:List (List Nat)) (g0:aK) (i:Nat) (dU:Acc):Prop where
 lt:∀ e∈dU,e.1<i
 free:∀ e∈dU,g0 e.2.1=none
 nd:(dU.map (·.2.1)).Nodup
 Qy:∀ e∈dU,∀ cj∈dU,(e.1=cj.1\/e.2.1=cj.2.1)->e=cj
 st:∀ e∈dU,∃ gj,ops[e.1]?=some gj/\gj.dst=some e.2.1/\N.ok e.2.1=true/\p' P (dg g0 (λm=>(bf.getD e.1 []).contains m) dU) ops gj e.2.2
theorem mO.nil {P:Program}{N:c5}{ops:Array Oper}{bf:List (List Nat)}{g0:aK}{i:Nat}:mO P N ops bf g0 i []:=⟨by simp,by simp,by simp,by simp,by simp⟩
inductive sx (P:Program) (N:c5) (ops:Array Oper) (bf:List (List Nat)):Nat->Acc->aK->aK->Prop
 | fin {i:Nat}{dU:Acc}{g:aK}{acc:Acc}(aB:iL P N ops bf g i dU ops.size acc) (gR:(acc.filterMap j0).Nodup) (fH:∀ t z q n m new,g t≠some (.bL z q n m new)):sx P N ops bf i dU g (dg g (λ_=>true) acc)
 | wK {i j:Nat}{g g1 g':aK}{dU acc U:Acc}{o:Oper}{rs:Place->Prop}(aB:iL P N ops bf g i dU j acc) (gR:(acc.filterMap j0).Nodup) (fH:∀ t z q n m new,g t≠some (.bL z q n m new)) (a1:ops[j]?=some o) (hw:iA (dg g (λm=>(bf.getD j []).contains m) acc) ops o true)
   (he:pb P N rs (dg g (λm=>(bf.getD j []).contains m) acc) o g1) (l7:∀ p,rs p->g p.root≠none) (f':U=acc.filter λe=>!(bf.getD j []).contains e.1) (J:∀ e∈U,∃ x,e.2.2=some x/\A3 rs (dg g (λm=>(bf.getD j []).contains m) acc) g1 o x) (h1:∀ e∈U,g1 e.2.1=none/\o.dst≠some e.2.1)
   (af:∀ e∈U,∃ gj,ops[e.1]?=some gj/\gj.dst=some e.2.1/\N.ok e.2.1=true/\p' P (dg g1 (λm=>(bf.getD e.1 []).contains m) U) ops gj e.2.2)
   (av:(List.range ops.size).all (λk=>decide (k<=j)||(bf.getD k []).contains j)=true) (aq:sx P N ops bf (j+1) U g1 g'):sx P N ops bf i dU g g'
theorem mI {g0:aK}{A:Nat->Bool}{acc:Acc}{t:Nat}(h:∀ e∈acc,e.2.1≠t):dg g0 A acc t=g0 t:=by
 induction acc with
 | nil=>rfl
 | cons e acc aU =>
  grind [dg]
theorem uQ {g0:aK}{A:Nat->Bool}{acc:Acc}{t:Nat}{x:ab}(h:dg g0 A acc t=some x):(∃ e∈acc,e.2.1=t/\A e.1=true/\e.2.2=some x)\/((∀ e∈acc,e.2.1≠t)/\g0 t=some x):=by
 induction acc with
 | nil=>exact .inr ⟨by simp,h⟩
 | cons e acc aU =>
  grind [dg]
theorem KV {g:aK}{A:Nat->Bool}{acc:Acc}(hu:∀ e∈acc,∀ cj∈acc,e.2.1=cj.2.1->e=cj) {e:Nat × Nat × Option ab}(he:e∈acc):dg g A acc e.2.1=if A e.1 then e.2.2 else none:=by
 induction acc with
 | nil=>cases he
 | cons a acc aU =>
  grind [dg]
section
variable {P:Program}{N:c5}{ops:Array Oper}{bf:List (List Nat)}{g0:aK}{i:Nat}
variable {dU:Acc}
theorem iL.le {j:Nat}{acc:Acc}(h:iL P N ops bf g0 i dU j acc) (f':mO P N ops bf g0 i dU):i<=j/\∀ e∈acc,e.1<j:=by
 induction h with
 | nil=>exact ⟨Nat.le_refl _,f'.lt⟩
 | step _ _ _ _ _ _ _ aU =>
  grind
theorem iL.ge {j:Nat}{acc:Acc}(h:iL P N ops bf g0 i dU j acc) (f':mO P N ops bf g0 i dU):∀ e∈acc,e∈dU\/i<=e.1:=by
 induction h with
 | nil=>exact λe he=>.inl he
 | step aB _ _ _ _ _ _ aU =>
  intro e he;rcases List.mem_cons.1 he with rfl | he
  ·exact .inr (aB.le f').1
  grind
theorem iL.KO {j:Nat}{acc:Acc}(h:iL P N ops bf g0 i dU j acc):∀ e∈dU,e∈acc:=by
 induction h with
 | nil=>exact λe he=>he
 | step _ _ _ _ _ _ _ aU=>exact λe he=>by simp [aU e he]
theorem iL.fresh {j:Nat}{acc:Acc}(h:iL P N ops bf g0 i dU j acc) (f':mO P N ops bf g0 i dU):∀ e∈acc,g0 e.2.1=none:=by
 induction h with
 | nil=>exact f'.free
 | step _ _ _ aO _ _ _ aU =>
  grind
theorem iL.nodup {j:Nat}{acc:Acc}(h:iL P N ops bf g0 i dU j acc) (f':mO P N ops bf g0 i dU):(acc.map (·.2.1)).Nodup:=by
 induction h with
 | nil=>exact f'.nd
 | step _ _ _ _ aF _ _ aU =>
  grind
theorem iL.uniq {j:Nat}{acc:Acc}(h:iL P N ops bf g0 i dU j acc) (f':mO P N ops bf g0 i dU):∀ {e cj:Nat × Nat × Option ab},e∈acc->cj∈acc->(e.1=cj.1\/e.2.1=cj.2.1)->e=cj:=by
 induction h with
 | nil=>exact λ{e cj} he ia bY=>f'.Qy e he cj ia bY
 | @step j acc o d r aB _ _ _ aF _ _ aU =>
  intro e cj he ia bY;rcases List.mem_cons.1 he with rfl | he <;> rcases List.mem_cons.1 ia with rfl | ia
  ·rfl
  ·rcases bY with bY | bY
   ·have:=(aB.le f').2 cj ia
    grind
   grind
  ·rcases bY with bY | bY
   ·have:=(aB.le f').2 e he
    grind
   grind
  grind
theorem iL.at_mem {j:Nat}{acc:Acc}(h:iL P N ops bf g0 i dU j acc) (f':mO P N ops bf g0 i dU) {A:Nat->Bool}{e:Nat × Nat × Option ab}(he:e∈acc):dg g0 A acc e.2.1=if A e.1 then e.2.2 else none :=
 KV (λ_ J _ ax aR=>h.uniq f' J ax (.inr aR)) he
theorem iL.get {j:Nat}{acc:Acc}(h:iL P N ops bf g0 i dU j acc) (f':mO P N ops bf g0 i dU):∀ e∈acc,∃ o D1,ops[e.1]?=some o/\o.dst=some e.2.1/\N.ok e.2.1=true/\p' P (dg g0 (λm=>(bf.getD e.1 []).contains m) D1) ops o e.2.2/\∀ e∈D1,e∈acc:=by
 induction h with
 | nil =>
  intro e he;obtain ⟨gj,h1,af,aI,bF⟩:=f'.st e he
  grind
 | @step j acc o d r aB a1 aS aO aF jO b0 aU =>
  intro e he;rcases List.mem_cons.1 he with rfl | he
  ·grind
  grind
theorem iL.has {j:Nat}{acc:Acc}(h:iL P N ops bf g0 i dU j acc):∀ k,i<=k->k<j->∃ e∈acc,e.1=k:=by
 induction h with
 | nil=>intro k h1 af; omega
 | @step j acc o d r aB a1 aS aO aF jO b0 aU =>
  grind [List.mem_cons_self]
theorem XV {acc:Acc}(gR:(acc.filterMap j0).Nodup) {e cj:Nat × Nat × Option ab}{p:Place}(he:e∈acc) (ia:cj∈acc) (h:j0 e=some p) (aR:j0 cj=some p):e=cj:=by
 induction acc with
 | nil=>simp at he
 | cons a acc aU =>
  grind
def dQ (listed:Array Bool) (k:Nat):Bool:=listed.getD k false
def hr (ops:Array Oper) (listed:Array Bool):Nat:=((List.range ops.size).filter λk=>!dQ listed k).length
theorem wV {listed:Array Bool}{k:Nat}(hk:k<ops.size) (ak:dQ listed k=false) (fX:listed.size=ops.size):hr ops (listed.setIfInBounds k true)+1<=hr ops listed:=by
 unfold hr;have key:∀ l:List Nat,l.Nodup->((l.filter λj=>!dQ (listed.setIfInBounds k true) j).length+if k∈l then 1 else 0)=(l.filter λj=>!dQ listed j).length:=by
  intro l
  induction l with
  | nil=>intro _; simp
  | cons j l aU =>
   intro fm;have VP:=List.nodup_cons.1 fm;have acX:=aU VP.2;by_cases gX:j=k
   ·simp_all [dQ]
   ·have h1:dQ (listed.setIfInBounds k true) j=dQ listed j:=by simp [dQ,Array.getElem?_setIfInBounds_ne (Ne.symm gX)]
    grind
 grind
end
end Go.Own
namespace Go.Own
open Go
section
variable {P:Program}{N:c5}{ops:Array Oper}{bf:List (List Nat)}
def Down (bf:List (List Nat)) (listed:Array Bool):Prop:=∀ k,dQ listed k=true->∀ m∈bf.getD k [],dQ listed m=true
theorem LI (h:ph ops bf=true) {k:Nat}{o:Oper}(a1:ops[k]?=some o) :
  (∀ e∈o.after,Region.binds .any e=true->e.on<k)/\∀ m∈bf.getD k [],m<k/\∃ e∈o.after,Region.binds .any e=true/\(e.on=m\/m∈bf.getD e.on []):=by
 grind [ph,Array.all_eq_true_iff_forall_mem]
theorem ye {listed:Array Bool}{k:Nat}(h:k∈Region.ready .any ops listed):dQ listed k=false/\∃ o,ops[k]?=some o/\∀ e∈o.after,Region.binds .any e=true->dQ listed e.on=true:=by
 grind [mem_ready,dQ]
theorem Km (ev:ph ops bf=true) {listed:Array Bool}(aS:Down bf listed) {k:Nat}(h:k∈Region.ready .any ops listed):∀ m∈bf.getD k [],dQ listed m=true:=by
 obtain ⟨_,o,a1,af⟩:=ye h;intro m hm;obtain ⟨_,e,he,av,aI⟩:=(LI ev a1).2 m hm;rcases aI with rfl | aI
 ·grind
 ·exact aS e.on (af e he av) m aI
theorem PE (ev:ph ops bf=true) {listed:Array Bool}(fX:listed.size=ops.size):∀ k,k<ops.size->dQ listed k=false->Region.ready .any ops listed≠[]:=by
 intro k
 induction k using Nat.strongRecOn with
 | _ k aU =>
  intro hk ak;by_cases hex:∃ j,j<k/\dQ listed j=false
  ·grind
  ·have nJ:k∈Region.ready .any ops listed:=by
    refine mem_ready.2 ⟨?_,ops[k],Array.getElem?_eq_getElem hk,λe he av=>?_⟩
    ·grind [dQ]
    ·have aT:=(LI ev (Array.getElem?_eq_getElem hk)).1 e he av
     grind [dQ]
   grind
theorem Dt {g0:aK}{A B:Nat->Bool}{acc:Acc}{t:Nat}(h:∀ e∈acc,e.2.1=t->A e.1=B e.1):dg g0 A acc t=dg g0 B acc t:=by
 induction acc with
 | nil=>rfl
 | cons e acc aU =>
  grind [dg]
theorem DS {listed:Array Bool}{k j:Nat}(hk:k<listed.size):dQ (listed.setIfInBounds k true) j=if j=k then true else dQ listed j:=by
 by_cases gX:j=k
 all_goals simp_all [dQ,Ne.symm]
theorem Zw {g0:aK}{i j:Nat}{acc U dU:Acc}(aB:iL P N ops bf g0 i dU j acc) (cn:mO P N ops bf g0 i dU) {A S:Nat->Bool}(f':U=acc.filter λe=>!A e.1) (T9:∀ e∈acc,A e.1=true->S e.1=true):dg g0 S acc=dg (dg g0 A acc) S U:=by
 subst f';funext t;by_cases hex:∃ e∈acc,e.2.1=t
 ·obtain ⟨e,he,rfl⟩:=hex;rw [aB.at_mem cn he];by_cases ev:A e.1=true
  ·rw [mI,aB.at_mem cn he,if_pos ev,if_pos (T9 e he ev)];intro cj ia h;obtain ⟨h1,af⟩:=List.mem_filter.1 ia;have:=aB.uniq cn h1 he (.inr h)
   grind
  ·rw [KV (λx J y ax h=>aB.uniq cn (List.mem_filter.1 J).1 (List.mem_filter.1 ax).1 (.inr h)) (List.mem_filter.2 ⟨he,by simpa using ev⟩)]
 grind [mI]
theorem dh.mono {g g':aK}(aO:∀ t x,g t=some x->g' t=some x) {x:ab}(h:dh g x):dh g' x:=by
 induction h with
 | bl h=>exact .bl h
 | ref J h=>exact .ref J (h.mono aO)
 | own _ aU=>exact .own aU
 | obj _ aU=>exact .obj aU
 | agg _ aU=>exact .agg aU
 | bW _ aU=>exact .bW aU
 | cX _ _ gw gh=>exact .cX gw gh
 | bL au _ aU=>exact .bL (au.mono aO) aU
theorem MA {mV g1:aK}{o:Oper}{S:Nat->Bool}{rs:Place->Prop}(h:pb P N rs mV o g1) (l7:∀ p,rs p->mV p.root≠none):∀ (U:Acc),(∀ e∈U,∃ x,e.2.2=some x/\A3 rs mV g1 o x)->(∀ e∈U,mV e.2.1=none/\g1 e.2.1=none/\o.dst≠some e.2.1)->(U.map (·.2.1)).Nodup->pb P N rs (dg mV S U) o (dg g1 S U)
 | [],_,_,_=>h
 | (k,d,r)::U,J,h1,fm=>by
  simp only [List.map_cons,List.nodup_cons] at fm;have aU:=MA (S:=S) h l7 U (λe he=>J e (by simp [he])) (λe he=>h1 e (by simp [he])) fm.2;obtain ⟨x,e,b0⟩:=J (k,d,r) (by simp);simp only at e;subst e;obtain ⟨aD,a2,a3⟩:=h1 (k,d,some x) (by simp);simp only at aD a2 a3;have r8:∀ e∈U,e.2.1≠d:=λe he aR=>fm.1 (List.mem_map.2 ⟨e,he,aR⟩);cases bj:S k with
  | true =>
   have e:∀ g:aK,dg g S ((k,d,some x)::U)=cV (dg g S U) d x:=λg=>by
    funext t;simp only [dg,cV,bj,if_true];by_cases aS:d=t
    ·rw [if_pos aS,if_pos aS.symm]
    ·rw [if_neg aS,if_neg (Ne.symm aS)]
   rw [e,e];have Fx:∀ r,mV r≠none->∀ e∈U,e.2.1≠r:=λr aq e he aR=>by
    have:=(h1 e (by simp [he])).1;rw [aR] at this;exact aq this
   have XE:∀ r,g1 r≠none->∀ e∈U,e.2.1≠r:=λr aq e he aR=>by
    have:=(h1 e (by simp [he])).2.1;rw [aR] at this;exact aq this
   refine aU.extra (λr aq=>by rw [mI (Fx r.root (l7 r aq))]; exact l7 r aq) (by rw [mI r8]; exact aD) (by rw [mI r8]; exact a2) a3 ?_;rcases b0 with ⟨r,path,z,n,uZ,cs,rfl,hn,iD,lF,D6⟩ | ⟨v,rfl⟩ | ⟨s,p,m,rfl,hn,iD,lF⟩ | ⟨s,m,cs,rfl,hn,iD,lF,cs',D6,RV⟩ | ⟨z,n,cs,rfl,hn⟩ | ⟨cs,rfl,hn,iD⟩
   ·refine .inl ⟨r,path,z,n,uZ,cs,rfl,hn,?_,?_,D6⟩
    ·have:mV r≠none:=l7 _ hn;simpa [bB,mI (Fx r this)] using iD
    ·have:g1 r≠none:=λe=>by simp [bB,e] at lF
     simpa [bB,mI (XE r this)] using lF
   ·exact .inr (.inl ⟨v,rfl⟩)
   ·refine .inr (.inr (.inl ⟨s,p,m,rfl,?_,?_,lF⟩))
    ·rw [mI]; exact hn;intro e he aR;have:=(h1 e (by simp [he])).1;rw [aR,hn] at this; cases this
    ·rw [mI]; exact iD;intro e he aR;have:=(h1 e (by simp [he])).2.1;rw [aR,iD] at this; cases this
   ·refine .inr (.inr (.inr (.inl ⟨s,m,cs,rfl,?_,iD,lF,cs',?_,RV⟩)))
    ·rw [mI]; exact hn;intro e he aR;have:=(h1 e (by simp [he])).2.1;rw [aR,hn] at this; cases this
    ·rw [mI (Fx s (by rw [D6]; simp))]; exact D6
   ·exact .inr (.inr (.inr (.inr (.inl ⟨z,n,cs,rfl,hn⟩))))
   ·refine .inr (.inr (.inr (.inr (.inr ⟨cs,rfl,hn,?_⟩))));have hle:∀ t y,mV t=some y->dg mV S U t=some y:=λt y ax=>by rw [mI (Fx t (by rw [ax]; simp))]; exact ax
    refine ⟨λt y ax=>?_,λt z q n m new ax=>?_⟩
    ·rcases uQ ax with ⟨cj,ia,_,_,It⟩ | ⟨_,ax⟩
     ·obtain ⟨y',Bk,B5⟩:=J cj (by simp [ia]);rw [It] at Bk; cases Bk;rcases B5 with ⟨r,path,z,n,uZ,cs,rfl,c1,c2,jS,c4⟩ | ⟨v,rfl⟩ | ⟨s,p,m,rfl,c1,_⟩ | ⟨s,m,cs,rfl,_,_,_,cs',c4,kM⟩ | ⟨z,n,cs,rfl,c1⟩ | ⟨cs,rfl,c1,_⟩
      ·exact .ref rfl (.inl ⟨uZ,cs,kL hle c2,c4⟩)
      ·exact .bl .lit
      ·exact dh.mono hle (iD.bV s _ c1)
      ·exact .ref rfl ⟨.obj cs',by simp [bB,hle s _ c4,ab.at],0,0,cs',.inr rfl,kM⟩
      ·exact .bl c1
      ·exact .bl c1.bl
     ·exact dh.mono hle (iD.bV t y ax)
    ·rcases uQ ax with ⟨cj,ia,_,_,It⟩ | ⟨_,ax⟩
     ·obtain ⟨y',Bk,B5⟩:=J cj (by simp [ia]);rw [It] at Bk; cases Bk;rcases B5 with ⟨r,path,z,n,uZ,cs,h,_⟩ | ⟨v,h⟩ | ⟨s,p,m,h,_⟩ | ⟨s,m,cs,h,_⟩ | ⟨z,n,cs,h,_⟩ | ⟨cs,h,_⟩ <;> cases h
     ·exact iD.fx _ _ _ _ _ _ ax
  | false =>
   have e:∀ g:aK,g d=none->dg g S ((k,d,some x)::U)=dg g S U:=λg aO=>by
    funext t;simp only [dg,bj];by_cases aS:d=t
    ·subst aS; rw [if_pos rfl,mI r8,aO]; rfl
    ·rw [if_neg aS]
   rw [e mV aD,e g1 a2];exact aU
theorem PC (ev:ph ops bf=true) {g0:aK}{i j:Nat}{acc dU:Acc}(aB:iL P N ops bf g0 i dU j acc) (cn:mO P N ops bf g0 i dU) (gR:(acc.filterMap j0).Nodup) (fH:∀ t z q n m new,g0 t≠some (.bL z q n m new)) {listed:Array Bool}(fX:listed.size=ops.size) (aS:Down bf listed)
  {a:Act}{w:World}{I:bb}{Fs:Nat->bb}(bj:cH w I a.tmps (dg g0 (dQ listed) acc) Fs) (bd:a.tmps.size=N.size) {e:Nat × Nat × Option ab}(he:e∈acc) (hk:e.1∈Region.ready .any ops listed) {K:Act->World->Prop}{Q:Exit->Act->World->Prop}
  (di:∀ ca w' I' b7,ca.defers=a.defers->hF N a.tmps ca.tmps->cH w' I' ca.tmps (dg g0 (dQ (listed.setIfInBounds e.1 true)) acc) b7->kp w I (λc=>∃ t,Fs t c) w' I' (λc=>∃ t,b7 t c)->K ca w'):wpOp P ops Q e.1 K a w:=by
 obtain ⟨fu,lq,xk,_⟩:=ye hk;have zs:=(Array.getElem?_eq_some_iff.1 xk).1;have BC:=Km ev aS hk;obtain ⟨o,D1,a1,EI,jO,b0,gF⟩:=aB.get cn e he;obtain ⟨k,d,r⟩:=e;simp only at *;have hle:oC (dg g0 (λm=>(bf.getD k []).contains m) D1) (dg g0 (dQ listed) acc):=by
  intro t x J;rcases uQ J with ⟨e,he,rfl,Er,hex⟩ | ⟨r8,aO⟩
  ·rw [aB.at_mem cn (gF e he),BC e.1 (by simpa using Er)];exact hex
  ·rw [mI λe he acm=>?_]
   ·exact aO
   ·have:=aB.fresh cn e he
    grind
 have e9:∀ z p n m new,r=some (.bL z p n m new)->∀ t bC cG m' c3,dg g0 (dQ listed) acc t≠some (.bL bC p cG m' c3):=by
  intro z p n m new aq t bC cG m' c3 aw;rcases uQ aw with ⟨e,ia,_,Er,hex⟩ | ⟨_,aO⟩
  ·obtain ⟨kX,Mr,dm⟩:=e;have:=XV gR (p:=p) he ia (by rw [aq]; rfl) (by simp only at hex; rw [hex]; rfl)
   grind
  grind
 have B5:=b0.mono hle e9;have vm:dg g0 (dQ listed) acc d=none:=by
  have:=aB.at_mem cn (A:=dQ listed) he
  grind
 unfold wpOp;simp only [a1];refine B5.sound bj rfl bd EI vm jO λca w' aF=>?_;obtain ⟨cv,b9,I',b7,dX,qp⟩:=aF;have h_:∀ j,dQ (listed.setIfInBounds k true) j=if j=k then true else dQ listed j:=λj=>DS (by omega)
 have c9:dg g0 (dQ (listed.setIfInBounds k true)) acc=yc (dg g0 (dQ listed) acc) d r:=by
  funext t;by_cases vv:t=d
  ·subst vv;have h1:=aB.at_mem cn (A:=dQ (listed.setIfInBounds k true)) he;simp only [h_ k,if_true] at h1;rw [h1];cases r with
   | none=>simp only [yc]; exact vm.symm
   | some x=>simp [yc,cV]
  ·have h1:dg g0 (dQ (listed.setIfInBounds k true)) acc t=dg g0 (dQ listed) acc t:=Dt λe ia het=>by
    rw [h_ e.1,if_neg];intro Vo;have:=aB.uniq cn ia he (.inl Vo)
    grind
   rw [h1];cases r with
   | none=>rfl
   | some x=>simp [yc,cV,vv]
 grind
theorem Hr (ev:ph ops bf=true) {listed:Array Bool}(fX:listed.size=ops.size) (aS:Down bf listed) {k:Nat}(hk:k∈Region.ready .any ops listed):Down bf (listed.setIfInBounds k true):=by
 obtain ⟨fu,lq,xk,_⟩:=ye hk;have zs:=(Array.getElem?_eq_some_iff.1 xk).1;have BC:=Km ev aS hk;have h_:∀ q,dQ (listed.setIfInBounds k true) q=if q=k then true else dQ listed q:=λq=>DS (by omega)
 intro m hm q bg;rw [h_] at hm ⊢;split
 ·rfl
 ·split at hm
  ·grind
  ·exact aS m hm q bg
theorem iL.entry {g0:aK}{i j:Nat}{acc dU:Acc}(aB:iL P N ops bf g0 i dU j acc) {listed:Array Bool}(aT:∀ k,k<i->(∀ e∈dU,e.1≠k)->dQ listed k=true) {k:Nat}(EF:k<j) (fu:dQ listed k=false):∃ e∈acc,e.1=k:=by
 rcases Nat.lt_or_ge k i with h | h
 ·rcases Classical.em (∃ e∈dU,e.1=k) with ⟨e,he,aR⟩ | aR
  ·exact ⟨e,aB.KO e he,aR⟩
  grind
 ·exact aB.has k h EF
theorem sx.sound (ev:ph ops bf=true) {i:Nat}{dU:Acc}{g g':aK}(h:sx P N ops bf i dU g g'):mO P N ops bf g i dU->∀ {Q:Exit->Act->World->Prop}(fuel:Nat) (listed:Array Bool) (a:Act) (w:World) (I:bb) (Fs:Nat->bb),hr ops listed<=fuel->listed.size=ops.size->(∀ k,k<i->(∀ e∈dU,e.1≠k)->dQ listed k=true)->(∀ k,i<=k->dQ listed k=false)->Down bf listed ->
  cH w I a.tmps (dg g (dQ listed) dU) Fs->a.tmps.size=N.size->(∀ ca w',h9 N a w I Fs g' ca w'->Q .normal ca w')->wpAny P .any ops Q fuel listed a w:=by
 have start:∀ {g:aK}{i j:Nat}{acc dU:Acc}{listed:Array Bool},iL P N ops bf g i dU j acc->mO P N ops bf g i dU->(∀ k,i<=k->dQ listed k=false)->dg g (dQ listed) acc=dg g (dQ listed) dU:=by
  intro g i j acc dU listed aB cn dS;funext t;by_cases hex:∃ e∈acc,e.2.1=t
  ·obtain ⟨e,he,rfl⟩:=hex;rw [aB.at_mem cn he];rcases aB.ge cn e he with h | h
   ·rw [KV (λx J y ax aR=>cn.Qy x J y ax (.inr aR)) h]
   ·rw [dS e.1 h];by_cases NJ:∃ cj∈dU,cj.2.1=e.2.1
    ·obtain ⟨cj,ia,aR⟩:=NJ;have:=aB.uniq cn (aB.KO cj ia) he (.inr aR);subst this;have:=cn.lt cj ia;omega
    ·rw [mI λcj ia aR=>NJ ⟨cj,ia,aR⟩,aB.fresh cn e he]; rfl
  ·rw [mI λe he h=>hex ⟨e,he,h⟩,mI λe he h=>hex ⟨e,aB.KO e he,h⟩]
 induction h with
 | @fin i dU g acc aB gR fH =>
  intro cn Q fuel listed a w I Fs aa fX aT dS aS bj bd dP;rw [<- start aB cn dS] at bj;clear dS;revert listed a w I Fs
  induction fuel with
  | zero =>
   intro listed a w I Fs aa fX aT aS bj bd dP;have hS:∀ k,k<ops.size->dQ listed k=true:=λk hk=>by
    cases ak:dQ listed k with
    | true=>rfl
    | false=>have:=wV (ops:=ops) (listed:=listed) (k:=k) hk ak fX; omega
   refine wpAny_done ?_ (dP _ _ ⟨rfl,hF.refl,I,Fs,?_,kp.refl _ _ _⟩) 0
   ·cases aq:Region.ready .any ops listed with
    | nil=>rfl
    | cons k l =>
     have hk:k∈Region.ready .any ops listed:=by rw [aq]; simp
     obtain ⟨fu,o,a1,_⟩:=ye hk
     grind
   ·have:dg g (dQ listed) acc=dg g (λ_=>true) acc:=funext λt=>Dt λe he _=>hS e.1 ((aB.le cn).2 e he)
    grind
  | succ fuel aU =>
   intro listed a w I Fs aa fX aT aS bj bd dP;by_cases hS:∀ k,k<ops.size->dQ listed k=true
   ·refine wpAny_done ?_ (dP _ _ ⟨rfl,hF.refl,I,Fs,?_,kp.refl _ _ _⟩) _
    ·cases aq:Region.ready .any ops listed with
     | nil=>rfl
     | cons k l =>
      have hk:k∈Region.ready .any ops listed:=by rw [aq]; simp
      obtain ⟨fu,o,a1,_⟩:=ye hk
      grind
    ·have:dg g (dQ listed) acc=dg g (λ_=>true) acc:=funext λt=>Dt λe he _=>hS e.1 ((aB.le cn).2 e he)
     grind
   ·obtain ⟨k0,lM⟩:=Classical.not_forall.1 hS;obtain ⟨VA,VB⟩:=Classical.not_imp.1 lM;refine ⟨λaq=>absurd aq (PE ev fX k0 VA (by simpa using VB)),λk hk=>?_⟩;obtain ⟨fu,lq,xk,_⟩:=ye hk;have zs:=(Array.getElem?_eq_some_iff.1 xk).1;obtain ⟨e,he,rfl⟩:=aB.entry aT zs fu;have Vg:=wV (ops:=ops) (listed:=listed) (k:=e.1) zs fu fX;refine PC ev aB cn gR fH fX aS bj bd he hk λca w' I' b7 cv b9 dX qp=>?_;refine aU _ ca w' I' b7 (by omega) (by simpa using fX) (λm hm dq=>?_) (Hr ev fX aS hk) dX (b9.1.trans bd) λa2 hy af=>dP _ _ (h9.trans cv b9 qp af)
    grind [DS]
 | @wK i j g g1 g' dU acc U o rs aB gR fH a1 hw he l7 f' J h1 af av _ W2 =>
  intro cn Q fuel listed a w I Fs aa fX aT dS aS bj bd dP;have EE:j<ops.size:=(Array.getElem?_eq_some_iff.1 a1).1;have xa:∀ k,j<k->k<ops.size->j∈bf.getD k []:=λk hk zs=>by
   grind
  have BN:∀ e∈U,e∈acc/\(bf.getD j []).contains e.1=false:=λe he=>by
   grind
  have fm:(U.map (·.2.1)).Nodup:=by
   rw [f'];exact (List.filter_sublist.map _).nodup (aB.nodup cn)
  have Vr:∀ e∈U,dg g (λm=>(bf.getD j []).contains m) acc e.2.1=none:=λe he=>by
   rw [aB.at_mem cn (BN e he).1,(BN e he).2];rfl
  have Bx:mO P N ops bf g1 (j+1) U:=⟨λe he=>by have:=(aB.le cn).2 e (BN e he).1; omega,λe he=>(h1 e he).1,fm,λe he cj ia h=>aB.uniq cn (BN e he).1 (BN cj ia).1 h,af⟩;have acq:∀ k,j<=k->dQ listed k=false:=λk hk=>dS k (Nat.le_trans (aB.le cn).1 hk);rw [<- start aB cn dS] at bj;clear dS;revert listed a w I Fs
  induction fuel with
  | zero =>
   intro listed a w I Fs aa fX aT aS bj bd dP dS;have:=wV (ops:=ops) (listed:=listed) (k:=j) EE (dS j (Nat.le_refl _)) fX;omega
  | succ fuel W1 =>
   intro listed a w I Fs aa fX aT aS bj bd dP dS;have eZ:=dS j (Nat.le_refl _);refine ⟨λaq=>absurd aq (PE ev fX j EE eZ),λk hk=>?_⟩;obtain ⟨fu,lq,xk,_⟩:=ye hk;have zs:=(Array.getElem?_eq_some_iff.1 xk).1;have BC:=Km ev aS hk;have h_:∀ q,dQ (listed.setIfInBounds k true) q=if q=k then true else dQ listed q:=λq=>DS (by omega)
   have Vg:=wV (ops:=ops) (listed:=listed) (k:=k) (by omega) fu fX;rcases Nat.lt_trichotomy k j with EF | rfl | EF
   ·obtain ⟨e,NI,rfl⟩:=aB.entry aT EF fu;refine PC ev aB cn gR fH fX aS bj bd NI hk λca w' I' b7 cv b9 dX qp=>?_;refine W1 _ ca w' I' b7 (by omega) (by simpa using fX) (λm hm dq=>?_) (Hr ev fX aS hk) dX (b9.1.trans bd) (λa2 hy af=>dP _ _ (h9.trans cv b9 qp af)) λm hm=>?_
    ·grind
    grind
   ·have To:=Zw (A:=λm=>(bf.getD k []).contains m) (S:=dQ listed) aB cn f' λe he ev=>BC e.1 (by simpa using ev);have V3:∀ r:Place,rs r->dg g (λm=>(bf.getD k []).contains m) acc r.root≠none:=λr aq=>by
     rw [mI]
     ·grind
     ·intro e he aR;have:=aB.fresh cn e he
      grind
    have Vn:=MA (S:=dQ listed) he V3 U J (λe he=>⟨Vr e he,h1 e he⟩) fm;have hle:oC (dg g (λm=>(bf.getD k []).contains m) acc) (dg g (dQ listed) acc):=by
     intro t x J;rcases uQ J with ⟨e,he,rfl,Er,hex⟩ | ⟨r8,aO⟩
     ·rw [aB.at_mem cn he,BC e.1 (by simpa using Er)]; exact hex
     grind [mI]
    unfold wpOp;simp only [a1,(iA.mono hle hw).sound bj,if_true];refine .inl (Vn w I a.tmps Fs (by rw [<- To]; exact bj) a rfl bd _ _ λca w' aF _ _=>?_);obtain ⟨cv,b9,I',b7,dX,qp⟩:=aF;refine W2 Bx fuel (listed.setIfInBounds k true) ca w' I' b7 (by omega) (by simpa using fX) (λm hm dq=>?_) (λm hm=>?_) (Hr ev fX aS hk) ?_ (b9.1.trans bd) λa2 hy af=>dP _ _ (h9.trans cv b9 qp af)
    ·rw [h_];split
     ·rfl
     ·rename_i acJ;cases vq:dQ listed m with
      | true=>rfl
      | false =>
       exfalso;obtain ⟨e,NI,rfl⟩:=aB.entry aT (show m<k by omega) vq
       grind
    ·grind
    ·have:dg g1 (dQ (listed.setIfInBounds k true)) U=dg g1 (dQ listed) U:=funext λt=>Dt λe he _=>by
      grind
     grind
   grind
end
end Go.Own
namespace Go.Own
open Go
section
variable {P:Program}{N:c5}
def gf (P:Program) (N:c5) (c:Code) (g:aK) (e:Exit) (g':aK):Prop :=
 ∀ ⦃Q:Exit->Act->World->Prop⦄ ⦃a:Act⦄ ⦃w:World⦄ ⦃I:bb⦄ ⦃Fs:Nat->bb⦄,cH w I a.tmps g Fs->a.tmps.size=N.size->(∀ ca w',h9 N a w I Fs g' ca w'->Q e ca w')->c.wp P Q a w
theorem gf.skip {g:aK}:gf P N .skip g .normal g:=λ_ _ _ _ _ bj _ dP=>wp_skip (dP _ _ ⟨rfl,hF.refl,_,_,bj,kp.refl _ _ _⟩)
theorem gf.ret {g:aK}:gf P N .ret g .ret g:=λ_ _ _ _ _ bj _ dP=>wp_ret (dP _ _ ⟨rfl,hF.refl,_,_,bj,kp.refl _ _ _⟩)
theorem gf.exit {g:aK}{id:Nat}:gf P N (.exit id) g (.exit id) g:=λ_ _ _ _ _ bj _ dP=>wp_exit (dP _ _ ⟨rfl,hF.refl,_,_,bj,kp.refl _ _ _⟩)
theorem gf.seq {x y:Code}{g g1 g':aK}{e:Exit}(h1:gf P N x g .normal g1) (af:gf P N y g1 e g'):gf P N (.seq x y) g e g':=by
 intro Q a w I Fs bj bd dP;refine wp_seq (h1 bj bd λaD ig aF=>?_);obtain ⟨cv,b9,I',b7,dX,b0⟩:=aF;exact af dX (b9.1.trans bd) λa2 hy ob=>dP _ _ (h9.trans cv b9 b0 ob)
theorem gf.cond {c:Operand}{x y:Code}{g g':aK}{e:Exit}{b:Bool}(aa:bs g c=some (.lit (.bool b))) (h:gf P N (if b then x else y) g e g'):gf P N (.cond c x y) g e g':=by
 intro Q a w I Fs bj bd dP;exact wp_cond (t:=b) (kg bj aa rfl).hC.1 (h bj bd dP)
theorem gf.Mm {c:Operand}{x y:Code}{g g':aK}{e:Exit}(aa:bs g c=some (.lit (.bool true))) (h:gf P N x g e g'):gf P N (.cond c x y) g e g':=gf.cond aa h
theorem gf.Mk {c:Operand}{x y:Code}{g g':aK}{e:Exit}(aa:bs g c=some (.lit (.bool false))) (h:gf P N y g e g'):gf P N (.cond c x y) g e g':=gf.cond aa h
theorem gf.block {id:Nat}{c:Code}{g g':aK}(h:gf P N c g .normal g'):gf P N (.block id c) g .normal g' :=
 λ_ _ _ _ _ bj bd dP=>wp_block (h bj bd λaD ig aF=>dP aD ig aF)
def DR (P:Program) (c:Code) (Q:Exit->Act->World->Prop) (a:Act) (w:World):Prop :=
 ∀ (b:Frame) (k:List Item) (cs:List Frame),∃ e ca w',Q e ca w'/\Arrives P (lone (b.at a (.code c::.inLoop c::k)) cs w) b k cs e ca w'
def tl (P:Program) (N:c5) (c:Code) (g:aK) (e:Exit) (g':aK):Prop :=
 ∀ ⦃Q:Exit->Act->World->Prop⦄ ⦃a:Act⦄ ⦃w:World⦄ ⦃I:bb⦄ ⦃Fs:Nat->bb⦄,cH w I a.tmps g Fs->a.tmps.size=N.size->(∀ ca w',h9 N a w I Fs g' ca w'->Q e ca w')->DR P c Q a w
theorem JP {c:Code}{Q:Exit->Act->World->Prop}{a:Act}{w:World}(h:c.wp P (Exit.then (DR P c Q) Q) a w):DR P c Q a w:=by
 intro b k cs;obtain ⟨e,A5,Dy,bg,kc⟩:=h b (.inLoop c::k) cs;cases e with
 | normal =>
  obtain ⟨Tp,RU,ZB,VY,UL⟩:=bg b k cs;exact ⟨Tp,RU,ZB,VY,.of_steps (Steps.trans kc (.one step_inLoop)) UL⟩
 | exit id=>exact ⟨_,A5,Dy,bg,.pass (x:=.inLoop c) rfl (λ_ _=>.inl (by simp)) kc⟩
 | goto l=>exact ⟨_,A5,Dy,bg,.pass (x:=.inLoop c) rfl (λ_ _=>.inl (by simp)) kc⟩
 | ret=>exact ⟨_,A5,Dy,bg,.pass (x:=.inLoop c) rfl (λ_ _=>.inl (by simp)) kc⟩
 | panic cd=>exact ⟨_,A5,Dy,bg,.pass (x:=.inLoop c) rfl (λ_ _=>.inl (by simp)) kc⟩
 | outgrown=>exact ⟨_,A5,Dy,bg,.pass (x:=.inLoop c) rfl (λ_ _=>.inl (by simp)) kc⟩
theorem gf.loop {c:Code}{g g':aK}{e:Exit}(h:tl P N c g e g'):gf P N (.loop c) g e g':=by
 intro Q a w I Fs bj bd dP b k cs;obtain ⟨e,ca,w',bg,kc⟩:=h bj bd dP b k cs;exact ⟨e,ca,w',bg,.of_steps (.one step_loop) kc⟩
theorem tl.step {c:Code}{g g1 g':aK}{e:Exit}(h1:gf P N c g .normal g1) (af:tl P N c g1 e g'):tl P N c g e g':=by
 intro Q a w I Fs bj bd dP;refine JP (h1 bj bd λaD ig aF=>?_);obtain ⟨cv,b9,I',b7,dX,b0⟩:=aF;exact af dX (b9.1.trans bd) λa2 hy ob=>dP _ _ (h9.trans cv b9 b0 ob)
theorem tl.out {c:Code}{g g':aK}{e:Exit}(h:gf P N c g e g') (he:e≠.normal):tl P N c g e g':=by
 intro Q a w I Fs bj bd dP;refine JP (h bj bd λaD ig aF=>?_);cases e with
 | normal=>exact absurd rfl he
 | _=>exact dP _ _ aF
theorem gf.region {id:Nat}{ops:Array Oper}{g g':aK}(h:oE P N ops (List.range ops.size) g g'):gf P N (.region id ops false) g .normal g' :=
 λ_ _ _ _ _ bj bd dP=>wp_region (h.sound bj bd dP)
theorem gf.draw {id:Nat}{ops:Array Oper}{bf:List (List Nat)}{g g':aK}(hm:P.follows .mixedOrders=true) (ev:ph ops bf=true) (h:sx P N ops bf 0 [] g g'):gf P N (.region id ops true) g .normal g':=by
 intro Q a w I Fs bj bd dP;refine wp_region_any hm ?_;have dX:cH w.drew I a.tmps g Fs:=bj.world (λ_ _ _=>rfl) (λ_ _=>rfl) (Nat.le_refl _);have hS:∀ k,dQ (Array.replicate ops.size false) k=false:=by
  intro k;unfold dQ;rcases Nat.lt_or_ge k ops.size with h | h
  ·simp [h]
  grind
 refine h.sound ev .nil ops.size (Array.replicate ops.size false) a w.drew I Fs ?_ (by simp) (λk hk=>by omega) (λk _=>hS k) (λk hk=>by rw [hS] at hk; cases hk) dX bd λca w' aF=>dP _ _ ?_
 ·grind [hr]
 ·obtain ⟨cv,b9,I',b7,h',b0⟩:=aF;exact ⟨cv,b9,I',b7,h',⟨⟨b0.eT.os,b0.eT.tape,b0.eT.output,b0.eT.size,b0.eT.block,b0.eT.dN,Nat.le_trans (Nat.le_succ _) b0.eT.w0⟩,b0.more,b0.new,b0.own⟩⟩
inductive pg:ab->ab->Prop
 | refl {x:ab}:pg x x
 | dead {x:ab}(h:kJ x\/cU x):pg x .dead
 | pP {z:Nat}:pg .aL (.own z 0 [])
 | pO {z:Nat}:pg .aL (.bk z 0 [])
 | obj {cs cs':List ab}(ak:cs'.length=cs.length) (h:∀ (k:Nat) (x y:ab),cs[k]?=some x->cs'[k]?=some y->pg x y):pg (.obj cs) (.obj cs')
 | own {z n:Nat}{cs cs':List ab}(ak:cs'.length=cs.length) (h:∀ (k:Nat) (x y:ab),cs[k]?=some x->cs'[k]?=some y->pg x y):pg (.own z n cs) (.own z n cs')
theorem R.eY {w:World}{I:bb}{ρ:ab->Value->Prop}{x x':ab}(h:pg x x'):∀ {v:Value}{F:bb},R w I ρ x v F->∃ c8,R w I ρ x' v c8/\∀ c,c8 c->F c:=by
 induction h with
 | refl=>exact λaY=>⟨_,aY,λ_ h=>h⟩
 | dead=>exact λaY=>⟨cx,.dead λ_ h=>h,λ_ h=>h.elim⟩
 | pP =>
  intro v F aY;rw [aY.sh];exact ⟨cx,.own (e:=0) (us:=[]) (Fs:=λ_=>cx) ⟨by simp,.inl ⟨rfl,rfl⟩⟩ rfl (by simp) (by simp) (λ_ _ _ _ _ h=>h.elim) (λ_ _ _ h=>h.elim) λc=>⟨λh=>h.elim,λh=>h.elim (λh=>by simp [Value.ownBlock] at h) λ⟨_,_,h⟩=>h⟩,λ_ h=>h.elim⟩
 | pO=>intro v F aY; rw [aY.sh]; exact ⟨cx,.hM λ_ h=>h,λ_ h=>h.elim⟩
 | @obj cs cs' ak _ aU =>
  intro v F aY;cases aY with
  | ref J=>simp [ab.isRef] at J
  | @obj _ b e arr bM _ a1 h0 h1 aq aS av aN =>
   have:∀ k,∃ tm:bb,k<cs.length->(∀ (x:ab) (u:Value),cs'[k]?=some x->arr[k]?=some u->R w I ρ x u tm)/\∀ c,tm c->bM k c:=by
    intro k;by_cases hk:k<cs.length
    ·have J:=List.getElem?_eq_getElem hk;have ax:cs'[k]?=some (cs'[k]'(by omega)):=List.getElem?_eq_getElem (by omega);have hu:arr[k]?=some (arr[k]'(by omega)):=Array.getElem?_eq_getElem (by omega);obtain ⟨c8,h1,af⟩:=aU k _ _ J ax (aq k _ _ J hu);refine ⟨c8,λ_=>⟨λx u gg jP=>?_,af⟩⟩
     grind
    ·exact ⟨cx,λh=>absurd h hk⟩
   obtain ⟨tm,tO⟩:=Classical.axiomOfChoice this;refine ⟨_,.obj (Fs:=tm) a1 (by omega) h1 (λk x u J hu=>(tO k (by rw [<- ak]; exact (List.getElem?_eq_some_iff.1 J).1)).1 x u J hu) (λj k c ah hk h aR=>aS j k c (by omega) (by omega) ((tO j (by omega)).2 c h) ((tO k (by omega)).2 c aR)) (λk hk h=>av k (by omega) ((tO k (by omega)).2 b h)) (λc=>Iff.rfl),λc aa=>?_⟩
   grind
 | @own z n cs cs' ak _ aU =>
  intro v F aY;cases aY with
  | ref J=>simp [ab.isRef] at J
  | @own _ _ _ _ e us bM _ a1 h0 h1 aq aS av aN =>
   have:∀ k,∃ tm:bb,k<cs.length->(∀ (x:ab) (u:Value),cs'[k]?=some x->us[k]?=some u->R w I ρ x u tm)/\∀ c,tm c->bM k c:=by
    intro k;by_cases hk:k<cs.length
    ·have J:=List.getElem?_eq_getElem hk;have ax:cs'[k]?=some (cs'[k]'(by omega)):=List.getElem?_eq_getElem (by omega);have hu:us[k]?=some (us[k]'(by omega)):=List.getElem?_eq_getElem (by omega);obtain ⟨c8,h1,af⟩:=aU k _ _ J ax (aq k _ _ J hu);refine ⟨c8,λ_=>⟨λx u gg jP=>?_,af⟩⟩
     grind
    ·exact ⟨cx,λh=>absurd h hk⟩
   obtain ⟨tm,tO⟩:=Classical.axiomOfChoice this;refine ⟨_,.own (Fs:=tm) a1 (by omega) h1 (λk x u J hu=>(tO k (by rw [<- ak]; exact (List.getElem?_eq_some_iff.1 J).1)).1 x u J hu) (λj k c ah hk h aR=>aS j k c (by omega) (by omega) ((tO j (by omega)).2 c h) ((tO k (by omega)).2 c aR)) (λk c hk h=>av k c (by omega) ((tO k (by omega)).2 c h)) (λc=>Iff.rfl),λc aa=>?_⟩
   grind
structure kq (g1 g2:aK):Prop where
 sub:∀ t x,g2 t=some x->∃ y,g1 t=some y/\pg y x
 bV:∀ t x,g2 t=some x->dh g2 x
 fx:∀ t z q n m new,g2 t≠some (.bL z q n m new)
theorem cH.eY {w:World}{I:bb}{T:Array Value}{g1 g2:aK}{Fs:Nat->bb}(h:cH w I T g1 Fs) (hk:kq g1 g2):∃ b7,cH w I T g2 b7/\∀ t c,b7 t c->Fs t c:=by
 have:∀ t,∃ c8:bb,(∀ x,g2 t=some x->∃ v,T[t]?=some v/\R w I (dT w T g2) x v c8)/\(∀ c,c8 c->Fs t c)/\(g2 t=none->∀ c,¬ c8 c):=by
  intro t;cases J:g2 t with
  | none=>exact ⟨cx,by simp,λ_ h=>h.elim,λ_ _ h=>h⟩
  | some x =>
   obtain ⟨y,ax,hw⟩:=hk.sub t x J;obtain ⟨v,hv,aY⟩:=h.mH.rel t y ax;have lj:∀ z q n m new,y≠.bL z q n m new:=by
    rintro z q n m new rfl;cases hw with
    | refl=>exact hk.fx _ _ _ _ _ _ J
    | dead bY=>rcases bY with bY | bY <;> cases bY
   obtain ⟨c8,jM,pr⟩:=R.eY hw (aY.gG lj);exact ⟨c8,λx' gg=>by cases gg; exact ⟨v,hv,jM.bV (hk.bV t x J)⟩,pr,by simp⟩
 obtain ⟨b7,pt⟩:=Classical.axiomOfChoice this;refine ⟨b7,⟨λt x J=>?_,λt aw=>(pt t).2.2 aw,λt t' c h1 af=>h.eI _ _ _ ((pt t).2.1 c h1) ((pt t').2.1 c af),λt c aa=>h.bk _ _ ((pt t).2.1 c aa),h.lt,λt t' z p n m new _ _ _ _ h1=>absurd h1 (hk.fx _ _ _ _ _ _)⟩,λt=>(pt t).2.1⟩;obtain ⟨v,hv,aY⟩:=(pt t).1 x J;exact ⟨v,hv,.tree aY⟩
theorem gf.weaken {c:Code}{g g1 g':aK}{e:Exit}(hk:kq g g1) (h:gf P N c g1 e g'):gf P N c g e g':=by
 intro Q a w I Fs bj bd dP;obtain ⟨b7,dX,gF⟩:=bj.eY hk;exact h dX bd λca w' aF=>dP _ _ (h9.trans rfl hF.refl ⟨Fr.refl _ _,λ_ h=>h,λ_ h=>.inl h,λc ⟨t,aa⟩=>.inl ⟨t,gF t c aa⟩⟩ aF)
theorem tl.weaken {c:Code}{g g1 g':aK}{e:Exit}(hk:kq g g1) (h:tl P N c g1 e g'):tl P N c g e g':=by
 intro Q a w I Fs bj bd dP;obtain ⟨b7,dX,gF⟩:=bj.eY hk;exact h dX bd λca w' aF=>dP _ _ (h9.trans rfl hF.refl ⟨Fr.refl _ _,λ_ h=>h,λ_ h=>.inl h,λc ⟨t,aa⟩=>.inl ⟨t,gF t c aa⟩⟩ aF)
end
end Go.Own
namespace Go.Own
open Go
inductive A1 (P:Program) (g:aK):ResultVar->ab->Prop
 | tmp {t:Nat}{y:ab}(h:bs g (.tmp t)=some y):A1 P g (.tmp t) y
 | cell {a:Nat}{t ty:TypeId}{y:ab}(h:c6 P g (.load t (.tmp a)) ty y):A1 P g (.cell a t) y
inductive rJ (P:Program) (g:aK):List ResultVar->List ab->Prop
 | nil:rJ P g [] []
 | cons {r:ResultVar}{rs:List ResultVar}{y:ab}{ys:List ab}(h:A1 P g r y) (aw:rJ P g rs ys):rJ P g (r::rs) (y::ys)
def qF:List ab->ab
 | [x]=>x
 | l=>.bW l
def yf:List Value->Value
 | [x]=>x
 | l=>.tuple l.toArray
def wc (tmps:Array Value):ResultVar->Sem Value
 | .tmp t=>pure (tmps.getD t undef)
 | .cell a t=>do loadVar t (<- asAddr (tmps.getD a undef))
section
variable {P:Program}{w:World}{I:bb}{g:aK}{Fs:Nat->bb}
theorem A1.run {a:Act}(h:cH w I a.tmps g Fs) {r:ResultVar}{y:ab}(aq:A1 P g r y):∃ v,(wc a.tmps r).run P w=.ok v w/\R w I (dT w a.tmps g) y v cx:=by
 cases aq with
 | @tmp t y h1=>exact ⟨_,rfl,kg h h1 rfl⟩
 | @cell a0 t ty y h1 =>
  obtain ⟨v, hv, aY⟩ := c6.sound h rfl (o := { dst := none, op := .load t (.tmp a0), type := ty, pos := "", after := #[], guard := none }) h1;refine ⟨v,?_,aY⟩;have he:a.eval (.tmp a0)=a.tmps.getD a0 undef:=rfl;simp only [execOp,he] at hv;cases aa:a.tmps.getD a0 undef with
  | pointer ad =>
   cases ad with
   | some ad =>
    rw [aa] at hv;simp only [Instr.loadAt,Instr.sureAddr] at hv;simp only [wc,aa,asAddr];have au:(pure ad >>= λx=>loadVar t x:Sem Value)=loadVar t ad:=by simp
    rw [au];revert hv;generalize bg:loadVar t ad=q;intro hv;simp [bg] at hv;cases EN:q.run P w with
    | ok x hy=>rw [EN] at hv; simp at hv; rw [hv.1,hv.2]
    | halt e hy=>rw [EN] at hv; simp at hv
   | none=>rw [aa] at hv; simp [Instr.loadAt,Instr.sureAddr] at hv
  | _=>rw [aa] at hv; simp [Instr.loadAt,Instr.sureAddr] at hv
theorem PS {f:ResultVar->Sem Value}:∀ (l:List ResultVar) (vs:List Value),l.length=vs.length->(∀ (k:Nat) (r:ResultVar) (v:Value),l[k]?=some r->vs[k]?=some v->(f r).run P w=.ok v w)->(l.mapM f).run P w=.ok vs w
 | [],[],_,_=>rfl
 | r::l,v::vs,ak,h=>by
  have aQ:=h 0 r v rfl rfl;have h1:=PS l vs (by simpa using ak) λk r v aq hv=>h (k+1) r v (by simpa using aq) (by simpa using hv);simp [List.mapM_cons,aQ,h1]
 | [],_::_,ak,_=>by simp at ak
 | _::_,[],ak,_=>by simp at ak
theorem Yu {fn:Func}{tmps:Array Value}{vs:List Value}(ak:fn.results.toList.length=vs.length) (h:∀ (k:Nat) (r:ResultVar) (v:Value),fn.results.toList[k]?=some r->vs[k]?=some v->(wc tmps r).run P w=.ok v w):(results fn tmps).run P w=.ok (yf vs) w:=by
 have h1:=PS fn.results.toList vs ak h;have af:fn.results.mapM (wc tmps)=List.toArray <$> fn.results.toList.mapM (wc tmps):=Array.mapM_eq_mapM_toList;have aI:(fn.results.mapM (wc tmps)).run P w=.ok vs.toArray w:=by rw [af]; simp [h1]
 have bF:results fn tmps=(do let vs <- fn.results.mapM (wc tmps); pure (if h:vs.size=1 then vs[0] else .tuple vs)):=by
  unfold results;congr 1
 rw [bF];simp only [Sem.run_bind,aI]
 match vs with
 | []=>rfl
 | [x]=>rfl
 | x::y::l=>simp [yf]
theorem rJ.length {g:aK}{rs:List ResultVar}{ys:List ab}(h:rJ P g rs ys):rs.length=ys.length:=by
 induction h with
 | nil=>rfl
 | cons _ _ aU=>simp [aU]
theorem rJ.run {a:Act}(h:cH w I a.tmps g Fs) {rs:List ResultVar}{ys:List ab}(aq:rJ P g rs ys):∃ vs:List Value,rs.length=vs.length/\(∀ (k:Nat) (r:ResultVar) (v:Value),rs[k]?=some r->vs[k]?=some v->(wc a.tmps r).run P w=.ok v w) /\
  ∀ (k:Nat) (y:ab) (v:Value),ys[k]?=some y->vs[k]?=some v->R w I (dT w a.tmps g) y v cx:=by
 induction aq with
 | nil=>exact ⟨[],rfl,by simp,by simp⟩
 | cons h1 _ aU =>
  obtain ⟨v,hv,aY⟩:=h1.run h;obtain ⟨vs,ak,af,aI⟩:=aU;refine ⟨v::vs,by simp [ak],λk r u aq hu=>?_,λk y u ax hu=>?_⟩
  ·cases k with
   | zero=>simp at aq hu; subst aq hu; exact hv
   | succ k=>exact af k r u (by simpa using aq) (by simpa using hu)
  ·cases k with
   | zero=>simp at ax hu; subst ax hu; exact aY
   | succ k=>exact aI k y u (by simpa using ax) (by simpa using hu)
theorem Hand.qF {ρ:ab->Value->Prop}{Fs:Nat->bb}{xs:List ab}{vs:List Value}{dC:Nat->bb}(h:Hand w I ρ Fs xs vs dC) (aF:∀ x∈xs,cU x) (ρ':ab->Value->Prop):R w I ρ' (qF xs) (yf vs) (λc=>∃ k,k<xs.length/\dC k c)/\cU (qF xs):=by
 have bW:R w I ρ' (.bW xs) (.tuple vs.toArray) (λc=>∃ k,k<xs.length/\dC k c) :=
  .bW (by simpa using h.len) (λk x u J hu=>(h.rel k x u J (by simpa using hu)).bl (aF x (List.mem_of_getElem? J))) h.eI λc=>Iff.rfl
 match xs,vs,h,aF,bW with
 | [],[],_,_,bW=>exact ⟨bW,.bW (by simp)⟩
 | [x],[v],h,aF,_ =>
  refine ⟨((h.rel 0 x v rfl rfl).bl (aF x (by simp))).zc λc=>⟨λaa=>⟨0,by simp,aa⟩,λ⟨k,hk,aa⟩=>?_⟩,aF x (by simp)⟩;have:k=0:=by simpa using hk
  subst this; exact aa
 | x::y::l,v::u::m,_,aF,bW=>exact ⟨bW,.bW aF⟩
 | [],_::_,h,_,_=>have:=h.len; simp at this
 | _::_,[],h,_,_=>have:=h.len; simp at this
 | [_],_::_::_,h,_,_=>have:=h.len; simp at this
 | _::_::_,[_],h,_,_=>have:=h.len; simp at this
structure Leaves (P:Program) (N:c5) (rs:List ResultVar) (g':aK) (n:Nat) (outs:List (Option ab)) (res:ab):Prop where
 ex:∃ ys xs g1,rJ P g' rs ys/\Take g' ys xs g1/\res=qF xs/\∀ (k:Nat) (x:ab),outs[k]?=some (some x)->g1 k=some x/\cU x/\k∈N.pins
 len:outs.length=n
theorem cH.more {T:Array Value}(h:cH w I T g Fs) {T':Array Value}(dM:∀ t,g t≠none->T'[t]?=T[t]?):cH w I T' g Fs:=by
 refine ⟨λt x J=>?_,h.kY,h.eI,h.bk,h.lt,h.rp⟩;obtain ⟨u,hu,aY⟩:=h.rel t x J;exact ⟨u,by rw [dM t (by rw [J]; simp)]; exact hu,h.w2 dM (λ_ _ _=>rfl) (λ_ _=>rfl) (λ_ h=>h) (λ_ _ h=>h) aY λ_ _=>rfl⟩
end
end Go.Own
namespace Go.Own
open Go
section
variable {P:Program}{N:c5}
def W (P:Program) (N:c5) (c:Code) (g:aK) (Φ:Exit->aK->Prop):Prop :=
 ∀ ⦃Q:Exit->Act->World->Prop⦄ ⦃a:Act⦄ ⦃w:World⦄ ⦃I:bb⦄ ⦃Fs:Nat->bb⦄,cH w I a.tmps g Fs->a.tmps.size=N.size->(∀ e g' ca w',Φ e g'->h9 N a w I Fs g' ca w'->Q e ca w')->c.wp P Q a w
def o5 (Ψ:aK->Prop) (Φ:Exit->aK->Prop):Exit->aK->Prop
 | .normal,g=>Ψ g
 | e,g=>Φ e g
def l_ (id:Nat) (Φ:Exit->aK->Prop):Exit->aK->Prop
 | .exit k,g=>if k=id then Φ .normal g else Φ (.exit k) g
 | e,g=>Φ e g
theorem h9.refl {a:Act}{w:World}{I:bb}{g:aK}{Fs:Nat->bb}(h:cH w I a.tmps g Fs):h9 N a w I Fs g a w:=⟨rfl,hF.refl,_,_,h,kp.refl _ _ _⟩
theorem gf.w {c:Code}{g g':aK}{e:Exit}{Φ:Exit->aK->Prop}(h:gf P N c g e g') (nQ:Φ e g'):W P N c g Φ :=
 λ_ _ _ _ _ bj bd dP=>h bj bd λca w' aF=>dP _ _ ca w' nQ aF
theorem W.mono {c:Code}{g:aK}{Φ oz:Exit->aK->Prop}(h:W P N c g Φ) (nQ:∀ e g',Φ e g'->oz e g'):W P N c g oz :=
 λ_ _ _ _ _ bj bd dP=>h bj bd λ_ _ ca w' h1 aF=>dP _ _ ca w' (nQ _ _ h1) aF
theorem W.skip {g:aK}{Φ:Exit->aK->Prop}(h:Φ .normal g):W P N .skip g Φ:=gf.skip.w h
theorem W.ret {g:aK}{Φ:Exit->aK->Prop}(h:Φ .ret g):W P N .ret g Φ:=gf.ret.w h
theorem W.exit {g:aK}{id:Nat}{Φ:Exit->aK->Prop}(h:Φ (.exit id) g):W P N (.exit id) g Φ:=gf.exit.w h
theorem W.seq {x y:Code}{g:aK}{Φ:Exit->aK->Prop}(h:W P N x g (o5 (λg1=>W P N y g1 Φ) Φ)):W P N (.seq x y) g Φ:=by
 intro Q a w I Fs bj bd dP;refine wp_seq (h bj bd λe g1 aD ig h1 aF=>?_);cases e with
 | normal =>
  obtain ⟨cv,b9,I',b7,dX,b0⟩:=aF;exact h1 dX (b9.1.trans bd) λtI g2 a2 hy af ob=>dP _ _ _ _ af (h9.trans cv b9 b0 ob)
 | _=>exact dP _ _ _ _ h1 aF
theorem W.cond {c:Operand}{x y:Code}{g:aK}{Φ:Exit->aK->Prop}{b:Bool}(aa:bs g c=some (.lit (.bool b))) (h:W P N (if b then x else y) g Φ):W P N (.cond c x y) g Φ :=
 λ_ _ _ _ _ bj bd dP=>wp_cond (t:=b) (kg bj aa rfl).hC.1 (h bj bd dP)
theorem W.Mm {c:Operand}{x y:Code}{g:aK}{Φ:Exit->aK->Prop}(aa:bs g c=some (.lit (.bool true))) (h:W P N x g Φ):W P N (.cond c x y) g Φ:=W.cond aa h
theorem W.Mk {c:Operand}{x y:Code}{g:aK}{Φ:Exit->aK->Prop}(aa:bs g c=some (.lit (.bool false))) (h:W P N y g Φ):W P N (.cond c x y) g Φ:=W.cond aa h
theorem W.block {id:Nat}{c:Code}{g:aK}{Φ:Exit->aK->Prop}(h:W P N c g (l_ id Φ)):W P N (.block id c) g Φ:=by
 intro Q a w I Fs bj bd dP;refine wp_block (h bj bd λe g1 aD ig h1 aF=>?_);cases e with
 | exit k =>
  have af:if k=id then Φ .normal g1 else Φ (.exit k) g1:=h1
  grind [Exit.inBlock]
 | _=>exact dP _ _ _ _ h1 aF
def pf (P:Program) (N:c5) (c:Code) (g:aK) (Φ:Exit->aK->Prop):Prop :=
 ∀ ⦃Q:Exit->Act->World->Prop⦄ ⦃a:Act⦄ ⦃w:World⦄ ⦃I:bb⦄ ⦃Fs:Nat->bb⦄,cH w I a.tmps g Fs->a.tmps.size=N.size->(∀ e g' ca w',Φ e g'->h9 N a w I Fs g' ca w'->Q e ca w')->DR P c Q a w
theorem W.loop {c:Code}{g:aK}{Φ:Exit->aK->Prop}(h:pf P N c g Φ):W P N (.loop c) g Φ:=by
 intro Q a w I Fs bj bd dP b k cs;obtain ⟨e,ca,w',bg,kc⟩:=h bj bd dP b k cs;exact ⟨e,ca,w',bg,.of_steps (.one step_loop) kc⟩
theorem pf.step {c:Code}{g:aK}{Φ:Exit->aK->Prop}(h:W P N c g (o5 (λg1=>pf P N c g1 Φ) Φ)):pf P N c g Φ:=by
 intro Q a w I Fs bj bd dP;refine JP (h bj bd λe g1 aD ig h1 aF=>?_);cases e with
 | normal =>
  obtain ⟨cv,b9,I',b7,dX,b0⟩:=aF;exact h1 dX (b9.1.trans bd) λtI g2 a2 hy af ob=>dP _ _ _ _ af (h9.trans cv b9 b0 ob)
 | _=>exact dP _ _ _ _ h1 aF
theorem W.weaken {c:Code}{g g1:aK}{Φ:Exit->aK->Prop}(hk:kq g g1) (h:W P N c g1 Φ):W P N c g Φ:=by
 intro Q a w I Fs bj bd dP;obtain ⟨b7,dX,gF⟩:=bj.eY hk;exact h dX bd λe g' ca w' h1 aF=>dP _ _ _ _ h1 (h9.trans rfl hF.refl ⟨Fr.refl _ _,λ_ h=>h,λ_ h=>.inl h,λc ⟨t,aa⟩=>.inl ⟨t,gF t c aa⟩⟩ aF)
theorem pf.weaken {c:Code}{g g1:aK}{Φ:Exit->aK->Prop}(hk:kq g g1) (h:pf P N c g1 Φ):pf P N c g Φ:=by
 intro Q a w I Fs bj bd dP;obtain ⟨b7,dX,gF⟩:=bj.eY hk;exact h dX bd λe g' ca w' h1 aF=>dP _ _ _ _ h1 (h9.trans rfl hF.refl ⟨Fr.refl _ _,λ_ h=>h,λ_ h=>.inl h,λc ⟨t,aa⟩=>.inl ⟨t,gF t c aa⟩⟩ aF)
theorem W.out {c:Code}{g:aK}{Φ oz:Exit->aK->Prop}(h:W P N c g Φ) (nQ:∀ e g',Φ e g'->∃ g2,kq g' g2/\oz e g2):W P N c g oz:=by
 intro Q a w I Fs bj bd dP;refine h bj bd λe g' ca w' h1 aF=>?_;obtain ⟨g2,hk,af⟩:=nQ e g' h1;obtain ⟨cv,b9,I',b7,dX,b0⟩:=aF;obtain ⟨i_,h',gF⟩:=dX.eY hk;exact dP _ _ _ _ af ⟨cv,b9,I',i_,h',b0.trans ⟨Fr.refl _ _,λ_ h=>h,λ_ h=>.inl h,λc ⟨t,aa⟩=>.inl ⟨t,gF t c aa⟩⟩⟩
def Ls (P:Program) (N:c5) (ops:Array Oper) (is:List Nat) (g:aK) (K:aK->Prop):Prop:=∃ g',oE P N ops is g g'/\K g'
theorem W.region {id:Nat}{ops:Array Oper}{g:aK}{Φ:Exit->aK->Prop}(h:Ls P N ops (List.range ops.size) g (Φ .normal)):W P N (.region id ops false) g Φ:=by
 obtain ⟨g',aq,nQ⟩:=h;exact (gf.region aq).w nQ
theorem bU.Xv {f:FuncId}{fn:Func}{c:Code}{args:List ab}{outs:List (Option ab)}{res:ab}{N:c5}(aW:P.funcs[f]?=some fn) (av:fn.body=some c) (bd:fn.ntmps=N.size) (aP:args.length<=N.size)
  (hlen:outs.length=args.length) (hw:W P N c (qa args) λe g'=>(e=.normal\/e=.ret)/\Leaves P N fn.results.toList g' args.length outs res):bU P f args outs res:=by
 refine ⟨hlen,λw I vs Fs acV bj=>calls_of_wp aW av ?_⟩;have fX:({ tmps:=vs.toArray++Array.replicate (fn.ntmps - vs.toArray.size) undef,defers:=[] }:Act).tmps.size=N.size:=by
  grind
 have n':∀ t,t<vs.length->(vs.toArray++Array.replicate (fn.ntmps - vs.toArray.size) undef)[t]?=vs.toArray[t]?:=by
  grind
 refine hw (bj.more (T':=vs.toArray++Array.replicate (fn.ntmps - vs.toArray.size) undef) λt aw=>n' t ?_) fX λe g' ca w' ⟨he,a1⟩ aF=>?_
 ·grind [qa]
 obtain ⟨aS,hold,I',b7,dX,b0⟩:=aF;obtain ⟨ys,xs,g1,Ob,aw,rfl,r8⟩:=a1.ex;obtain ⟨us,oc,hT,mX⟩:=Ob.run dX;have EW:ys.length=us.length:=by rw [<- Ob.length,oc]
 obtain ⟨fZ,dC,jd,iM,hS⟩:=aw.sound dX.mH (⟨EW,λk x u J hu=>(mX k x u J hu).frame (λ_ _=>rfl) (λ_ h=>h) (λ_ _ h=>h.1) λ_ _=>rfl,λ_ _ _ _ _ h=>h.elim,λ_ _ _ _ h=>h.elim,λ_ _ _ h=>h.elim⟩:Hand w' I' (fz w' ca.tmps) b7 ys us λ_=>cx);have gF:∀ c,lz fZ xs.length dC c->∃ t,b7 t c:=by
  intro c aa;rcases hS c aa with h | ⟨_,_,h⟩
  all_goals grind
 have Vp:∃ i_,cH w' I' (vs++[yf us]).toArray (kZ outs (qF xs)) i_/\∀ t c,i_ t c->∃ t,b7 t c:=by
  classical
  refine ⟨λt=>if t=outs.length then (λc=>∃ k,k<xs.length/\dC k c) else if ∃ x,outs[t]?=some (some x) then fZ t else cx,⟨λt x J=>?_,λt EP c aa=>?_,λt t' c h1 af=>?_,λt c aa=>?_,dX.lt,λt t' z p n m new bC cG m' c3 h1 af=>?_⟩,λt c aa=>?_⟩
  ·unfold kZ at J;by_cases aQ:t=outs.length
   ·rw [if_pos aQ] at J;cases J;subst aQ;refine ⟨yf us,?_,.tree ?_⟩
    ·grind
    ·simpa using (iM.qF aw.Fq _).1
   ·rw [if_neg aQ] at J;have gg:outs[t]?=some (some x):=by
     grind
    obtain ⟨h1,af,aI⟩:=r8 t x gg;have We:t<vs.length:=by
     grind
    obtain ⟨v,hv,aY⟩:=jd.rel t x h1;refine ⟨v,?_,?_⟩
    ·rw [hold.2 t aI] at hv
     grind
    ·simp only [aQ,if_false];rw [if_pos ⟨x,gg⟩];exact .tree ((aY.gG (by rintro z p n m new rfl; cases af)).bl af)
  ·grind [kZ]
  ·by_cases aQ:t=outs.length <;> by_cases HK:t'=outs.length <;> simp only [aQ,HK,if_true,if_false] at h1 af
   ·grind
   ·split at af
    ·obtain ⟨k,hk,aa⟩:=h1;exact absurd af (iM.off k t' c hk aa)
    grind
   ·split at h1
    ·obtain ⟨k,hk,aa⟩:=af;exact absurd h1 (iM.off k t c hk aa)
    grind
   ·split at h1
    ·split at af
     ·exact jd.eI _ _ _ h1 af
     grind
    grind
  ·by_cases aQ:t=outs.length <;> simp only [aQ,if_true,if_false] at aa
   ·obtain ⟨k,hk,aa⟩:=aa;exact iM.bk k c hk aa
   ·split at aa
    ·exact jd.bk _ _ aa
    grind
  ·grind [kZ,cU]
  ·by_cases aQ:t=outs.length <;> simp only [aQ,if_true,if_false] at aa
   ·obtain ⟨k,hk,aa⟩:=aa;exact gF c (.inr ⟨k,hk,aa⟩)
   ·split at aa
    ·exact gF c (.inl ⟨t,aa⟩)
    grind
 obtain ⟨i_,h',Wc⟩:=Vp;have VW:ca.defers=[]/\∃ v,(results fn ca.tmps).run P w'=.ok v w'/\∃ gv I' b7,Ending.returned v=.returned gv/\cH w' I' (vs++[gv]).toArray (kZ outs (qF xs)) b7/\kp w I (λc=>∃ t,Fs t c) w' I' (λc=>∃ t,b7 t c) :=
  ⟨aS,yf us,Yu oc hT,yf us,I',i_,rfl,h',b0.trans ⟨Fr.refl _ _,λ_ h=>h,λ_ h=>.inl h,λc ⟨t,aa⟩=>.inl (Wc t c aa)⟩⟩
 rcases he with rfl | rfl <;> exact VW
end
end Go.Own
namespace Go.Own
open Go
def get:List (Nat × ab)->aK
 | [],_=>none
 | (s,x)::l,t=>if t=s then some x else get l t
inductive Rd (g:aK):Operand->ab->Prop
 | lit {t:Nat}{v:Value}(h:g t=some (.lit v)):Rd g (.tmp t) (.lit v)
 | k {v:Value}(h:ofConst v=.lit v):Rd g (.const v) (.lit v)
 | xJ:Rd g (.const (.slice none 0 0)) .aL
 | JK {v:Value}{cs:List ab}(h:ofConst v=.agg cs):Rd g (.const v) (.agg cs)
 | aL {t:Nat}(h:g t=some .aL):Rd g (.tmp t) .aL
 | bk {t z n:Nat}{cs:List ab}(h:g t=some (.bk z n cs)):Rd g (.tmp t) (.bk z n cs)
 | own {t z n:Nat}{cs:List ab}(h:g t=some (.own z n cs)):Rd g (.tmp t) (.a6 z ⟨t,[]⟩ n)
 | obj {t:Nat}{c:ab}{cs:List ab}(h:g t=some (.obj (c::cs))):Rd g (.tmp t) (.ptr ⟨t,[]⟩ 0)
 | cI {t:Nat}{cs:List ab}(h:g t=some (.cI cs)):Rd g (.tmp t) (.cI cs)
 | ptr {t k:Nat}{p:Place}(h:g t=some (.ptr p k)):Rd g (.tmp t) (.ptr p k)
 | a6 {t z n:Nat}{p:Place}(h:g t=some (.a6 z p n)):Rd g (.tmp t) (.a6 z p n)
 | sub {t z lo n:Nat}{p:Place}(h:g t=some (.sub z p lo n)):Rd g (.tmp t) (.sub z p lo n)
 | bL {t z n m:Nat}{p:Place}{new:List ab}(h:g t=some (.bL z p n m new)):Rd g (.tmp t) (.a6 z ⟨t,[]⟩ (n+m))
 | agg {t:Nat}{cs cs':List ab}(h:g t=some (.agg cs)) (aa:(cs.mapIdx λi x=>gr 1 (Place.push ⟨t,[]⟩ i) x)=cs'):Rd g (.tmp t) (.agg cs')
 | bW {t:Nat}{cs cs':List ab}(h:g t=some (.bW cs)) (aa:(cs.mapIdx λi x=>gr 1 (Place.push ⟨t,[]⟩ i) x)=cs'):Rd g (.tmp t) (.bW cs')
 | func {f:FuncId}:Rd g (.func f) (.cX (.func f) [] [])
 | cX {t:Nat}{fn:Fn}{cs:List ab}(h:g t=some (.cX fn [] cs)):Rd g (.tmp t) (.cX fn [] cs)
 | mp {t:Nat}{q:Array MapEntry->Nat->Prop}(h:g t=some (.mp q)):Rd g (.tmp t) (.gx ⟨t,[]⟩)
 | gx {t:Nat}{p:Place}(h:g t=some (.gx p)):Rd g (.tmp t) (.gx p)
 | imp {t:Nat}{q:Array MapEntry->Nat->Prop}(h:g t=some (.imp q)):Rd g (.tmp t) (.imp q)
theorem Rd.bs {g:aK}{x:Operand}{y:ab}(h:Rd g x y):bs g x=some y:=by
 cases h with
 | agg h aa=>subst aa; simp [Own.bs,h,rr,gr]
 | bW h aa=>subst aa; simp [Own.bs,h,rr,gr]
 | k h=>simp [Own.bs,h]
 | xJ=>rfl
 | JK h=>simp [Own.bs,h]
 | func=>rfl
 | _ h=>simp [Own.bs,h,rr,gr]
section
variable {P:Program}{N:c5}{ops:Array Oper}{g:aK}{K:aK->Prop}{l:List Oper}
def ar (P:Program) (N:c5) (ops:Array Oper) (l:List Oper) (g:aK) (K:aK->Prop):Prop:=∀ i,ops.toList.drop i=l->Ls P N ops (List.range' i l.length) g K
theorem W.Aw {id:Nat}{l:List Oper}{g:aK}{Φ:Exit->aK->Prop}(h:ar P N l.toArray l g (Φ .normal)):W P N (.region id l.toArray false) g Φ:=by
 refine W.region ?_;have:=h 0 (by simp)
 grind [List.range_eq_range']
theorem ar.nil (h:K g):ar P N ops [] g K:=λ_ _=>⟨g,.nil,h⟩
theorem drop_cons {i:Nat}{o:Oper}(h:ops.toList.drop i=o::l):ops[i]?=some o/\ops.toList.drop (i+1)=l:=by
 have h1:(ops.toList.drop i)[0]?=some o:=by rw [h]; rfl
 rw [List.getElem?_drop] at h1;refine ⟨by simpa using h1,?_⟩;rw [<- List.drop_drop,h];rfl
variable {d:Nat}{op:Op}{ty:TypeId}{pos:String}{after:Array Edge}{x:ab}
theorem ar.AB {r:Option ab}{o:Oper}(aS:o.dst=some d) (bd:N.ok d=true) (aW:g d=none) (aB:p' P g ops o r) (hk:ar P N ops l (yc g d r) K):ar P N ops (o::l) g K:=by
 intro i hi;obtain ⟨h1,af⟩:=drop_cons hi;obtain ⟨g',aq,di⟩:=hk (i+1) af;exact ⟨g',.step h1 aS aW bd aB aq,di⟩
inductive Lg (g:aK) (d:Nat):aK->Prop
 | new (h:g d=none):Lg g d g
 | nn {y:ab}(h:g d=some y) (ak:leaf y=true):Lg g d (del g d)
inductive fr (g:aK) (ops:Array Oper):Option (Nat × Bool)->Prop
 | none:fr g ops none
 | yes {j t:Nat}{b:Bool}(h:(ops[j]?).bind (·.dst)=some t) (aO:g t=some (.lit (.bool b))):fr g ops (some (j,b))
variable {gd:Option (Nat × Bool)}{g1:aK}
theorem fr.del {y:ab}(h:fr g ops gd) (aS:g d=some y) (av:∀ b,y≠.lit (.bool b)):iA (del g d) ops ⟨some d,op,ty,pos,after,gd⟩ true:=by
 cases h with
 | none=>rfl
 | @yes j t b h aO =>
  have:t≠d:=by
   grind
  exact ⟨t,h,.inl ⟨b,by simp only [Own.del,if_neg this,aO],by simp⟩⟩
theorem fr.wanted (h:fr g ops gd):iA g ops ⟨some d,op,ty,pos,after,gd⟩ true:=by
 cases h with
 | none=>rfl
 | @yes j t b h aO=>exact ⟨t,h,.inl ⟨b,aO,by simp⟩⟩
theorem ar.KT (au:cg P g op ty x) (bd:N.ok d=true) (aW:g d=none) (hw:iA g ops ⟨some d,op,ty,pos,after,gd⟩ true) (hk:ar P N ops l (cV g d x) K):ar P N ops (⟨some d,op,ty,pos,after,gd⟩::l) g K :=
 .AB rfl bd aW (r:=some x) (.inl ⟨hw,.inl au⟩) hk
theorem Zq:cV (del g d) d x=cV g d x:=by
 grind [cV,del]
theorem ar.val (au:c6 P g op ty x) (bd:N.ok d=true) (aW:g d=none) (aO:fr g ops gd) (hk:ar P N ops l (cV g d x) K):ar P N ops (⟨some d,op,ty,pos,after,gd⟩::l) g K :=
 .KT (.eX au) bd aW aO.wanted hk
theorem ar.over {y:ab}(au:c6 P (del g d) op ty x) (bd:N.ok d=true) (aW:g d=some y) (ak:leaf y=true) (hk:ar P N ops l (cV g d x) K):ar P N ops (⟨some d,op,ty,pos,after,none⟩::l) g K:=by
 intro i hi;obtain ⟨g',aq,di⟩:=ar.KT (pos:=pos) (after:=after) (gd:=Option.none) (.eX au) bd (by simp [del]) (fr.wanted .none) (by rw [Zq]; exact hk) i hi;exact ⟨g',.drop aW ak aq,di⟩
theorem ar.Zu (au:cg P g op ty x) (bd:N.ok d=true) (aW:g d=none) (aO:fr g ops gd) (hk:ar P N ops l (cV g d x) K):ar P N ops (⟨some d,op,ty,pos,after,gd⟩::l) g K :=
 .KT au bd aW aO.wanted hk
theorem ar.call (au:cJ P g op x) (bd:N.ok d=true) (aW:g d=none) (aO:fr g ops gd) (hk:ar P N ops l (cV g d x) K):ar P N ops (⟨some d,op,ty,pos,after,gd⟩::l) g K :=
 .AB rfl bd aW (r:=some x) (.inl ⟨aO.wanted,.inr au⟩) hk
theorem ar.pass {j t':Nat}{b:Bool}(h:(ops[j]?).bind (·.dst)=some t') (aO:g t'=some (.lit (.bool (!b)))) (bd:N.ok d=true) (aW:g d=none) (hk:ar P N ops l g K):ar P N ops (⟨some d,op,ty,pos,after,some (j,b)⟩::l) g K :=
 .AB rfl bd aW (r:=Option.none) ⟨t',h,.inl ⟨!b,aO,by cases b <;> rfl⟩⟩ hk
variable {jJ:Option Nat}
theorem ar.forget {g1:aK}(hk:hG g g1) (h:ar P N ops l g1 K):ar P N ops l g K:=by
 intro i hi;obtain ⟨g',aq,di⟩:=h i hi;exact ⟨g',.forget hk aq,di⟩
variable {a b:Operand}{t t2:TypeId}{k:IntKind}{m n:Int}
theorem c6.add (J:Rd g a (.lit (.int k m))) (ax:Rd g b (.lit (.int k n))):c6 P g (.binOp .add t a b t2) ty (.lit (.int k (k.wrap (m+n)))) :=
 .bin J.bs ax.bs rfl λw=>by simp [eqGuard,binOp,Op.intArith]
theorem c6.Y3 (J:Rd g a (.lit (.int k m))) (ax:Rd g b (.lit (.int k n))):c6 P g (.binOp .sub t a b t2) ty (.lit (.int k (k.wrap (m - n)))) :=
 .bin J.bs ax.bs rfl λw=>by simp [eqGuard,binOp,Op.intArith]
theorem c6.mul (J:Rd g a (.lit (.int k m))) (ax:Rd g b (.lit (.int k n))):c6 P g (.binOp .mul t a b t2) ty (.lit (.int k (k.wrap (m * n)))) :=
 .bin J.bs ax.bs rfl λw=>by simp [eqGuard,binOp,Op.intArith]
theorem c6.quo (J:Rd g a (.lit (.int k m))) (ax:Rd g b (.lit (.int k n))) (h:n≠0):c6 P g (.binOp .quo t a b t2) ty (.lit (.int k (k.wrap (m.tdiv n)))) :=
 .bin J.bs ax.bs rfl λw=>by simp [eqGuard,binOp,Op.intDiv,h]
theorem c6.rem (J:Rd g a (.lit (.int k m))) (ax:Rd g b (.lit (.int k n))) (h:n≠0):c6 P g (.binOp .rem t a b t2) ty (.lit (.int k (m.tmod n))) :=
 .bin J.bs ax.bs rfl λw=>by simp [eqGuard,binOp,Op.intDiv,h]
theorem c6.cat {s u:ByteArray}(J:Rd g a (.lit (.string s))) (ax:Rd g b (.lit (.string u))) (h:s.size+u.size<=9223372036854775807):c6 P g (.binOp .add t a b t2) ty (.lit (.string (s++u))) :=
 .bin J.bs ax.bs rfl λw=>by
  have:¬ ((s.size+u.size:Nat):Int) > IntKind.i64.max:=by
   have:IntKind.i64.max=9223372036854775807:=by decide
   omega
  simp only [eqGuard,binOp,Op.stringOp,if_neg this];simp
theorem L6 {s u:ByteArray}(h:s.toList=u.toList):s=u:=by
 have h1:s.data.toList=u.data.toList:=by
  grind [ByteArray.toList_eq]
 cases s
 simp_all
theorem c6.qf {s u:ByteArray}(J:Rd g a (.lit (.string s))) (ax:Rd g b (.lit (.string u))) {c:Bool}(aa:c=true↔s=u):c6 P g (.binOp .eql t a b t2) ty (.lit (.bool c)) :=
 .bin J.bs ax.bs rfl λw=>by
  have:(s.toList == u.toList)=c:=by
   rw [Bool.eq_iff_iff,aa];simp only [beq_iff_eq];exact ⟨L6,λh=>by rw [h]⟩
  simp [eqGuard,binOp,Op.stringOp,this]
theorem c6.oo {s u:ByteArray}(J:Rd g a (.lit (.string s))) (ax:Rd g b (.lit (.string u))) {c:Bool}(aa:c=true↔s≠u):c6 P g (.binOp .neq t a b t2) ty (.lit (.bool c)) :=
 .bin J.bs ax.bs rfl λw=>by
  have:(s.toList == u.toList)=!c:=by
   rw [Bool.eq_iff_iff];simp only [beq_iff_eq,Bool.not_eq_true'];cases c with
   | true=>simp only [true_iff] at aa; simp only [Bool.true_eq_false,iff_false]; exact λh=>aa (L6 h)
   | false =>
    simp only [Bool.false_eq_true,false_iff,Decidable.not_not] at aa;simp [aa]
  simp [eqGuard,binOp,Op.stringOp,this]
theorem c6.lss (J:Rd g a (.lit (.int k m))) (ax:Rd g b (.lit (.int k n))) {c:Bool}(aa:c=true↔m<n):c6 P g (.binOp .lss t a b t2) ty (.lit (.bool c)) :=
 .bin J.bs ax.bs rfl λw=>by
  have:decide (m<n)=c:=by rw [Bool.eq_iff_iff,aa]; simp
  simp [eqGuard,binOp,Op.intCmp,this]
theorem c6.leq (J:Rd g a (.lit (.int k m))) (ax:Rd g b (.lit (.int k n))) {c:Bool}(aa:c=true↔m<=n):c6 P g (.binOp .leq t a b t2) ty (.lit (.bool c)) :=
 .bin J.bs ax.bs rfl λw=>by
  have:decide (m<=n)=c:=by rw [Bool.eq_iff_iff,aa]; simp
  simp [eqGuard,binOp,Op.intCmp,this]
theorem c6.gtr (J:Rd g a (.lit (.int k m))) (ax:Rd g b (.lit (.int k n))) {c:Bool}(aa:c=true↔n<m):c6 P g (.binOp .gtr t a b t2) ty (.lit (.bool c)) :=
 .bin J.bs ax.bs rfl λw=>by
  have:decide (n<m)=c:=by rw [Bool.eq_iff_iff,aa]; simp
  simp [eqGuard,binOp,Op.intCmp,this]
theorem c6.geq (J:Rd g a (.lit (.int k m))) (ax:Rd g b (.lit (.int k n))) {c:Bool}(aa:c=true↔n<=m):c6 P g (.binOp .geq t a b t2) ty (.lit (.bool c)) :=
 .bin J.bs ax.bs rfl λw=>by
  have:decide (n<=m)=c:=by rw [Bool.eq_iff_iff,aa]; simp
  simp [eqGuard,binOp,Op.intCmp,this]
theorem c6.eql (J:Rd g a (.lit (.int k m))) (ax:Rd g b (.lit (.int k n))) {c:Bool}(aa:c=true↔m=n):c6 P g (.binOp .eql t a b t2) ty (.lit (.bool c)) :=
 .bin J.bs ax.bs rfl λw=>by
  have:(m == n)=c:=by rw [Bool.eq_iff_iff,aa]; simp
  simp [eqGuard,binOp,Op.intCmp,this]
theorem c6.neq (J:Rd g a (.lit (.int k m))) (ax:Rd g b (.lit (.int k n))) {c:Bool}(aa:c=true↔m≠n):c6 P g (.binOp .neq t a b t2) ty (.lit (.bool c)) :=
 .bin J.bs ax.bs rfl λw=>by
  have:(m != n)=c:=by rw [Bool.eq_iff_iff,aa]; simp
  simp [eqGuard,binOp,Op.intCmp,this]
theorem c6.not {c:Bool}(J:Rd g a (.lit (.bool c))):c6 P g (.unOp .not t a) ty (.lit (.bool (!c))) :=
 .un J.bs rfl λw=>by simp [Op.unary]
theorem c6.X2 {c a b:Operand}{y:ab}(aa:Rd g c (.lit (.bool true))) (aq:Rd g a y):c6 P g (.pick c a b) ty y:=.pick aa.bs aq.bs
theorem c6.X1 {c a b:Operand}{y:ab}(aa:Rd g c (.lit (.bool false))) (aq:Rd g b y):c6 P g (.pick c a b) ty y:=.pick aa.bs aq.bs
theorem c6.ux {s:ByteArray}(J:Rd g a (.lit (.string s))) (aw:o3 P t=true):c6 P g (.call { callee:=.builtin .len,args:=#[a],argTypes:=#[t] }) ty (.lit (.int .i64 s.size)) :=
 .lits (vs:=[.string s]) (by simp [J.bs]) rfl λw cs=>by
  simp [builtin,Builtin.len_,run_underlying (KN aw),goInt]
section
variable {Ψ:aK->Prop}{Φ:Exit->aK->Prop}{id k:Nat}
theorem Zf (h:Ψ g):o5 Ψ Φ .normal g:=h
theorem Zg (h:Φ .ret g):o5 Ψ Φ .ret g:=h
theorem Ze (h:Φ (.exit k) g):o5 Ψ Φ (.exit k) g:=h
theorem W5 (h:Φ .normal g):l_ id Φ .normal g:=h
theorem W6 (h:Φ .ret g):l_ id Φ .ret g:=h
theorem W3 (h:Φ .normal g):l_ id Φ (.exit id) g:=by
 show if id=id then Φ .normal g else Φ (.exit id) g
 grind
theorem W4 (hk:Nat.beq k id=false) (h:Φ (.exit k) g):l_ id Φ (.exit k) g:=by
 show if k=id then Φ .normal g else Φ (.exit k) g
 grind [Nat.ne_of_beq_eq_false]
end
def Fin (P:Program) (N:c5) (rs:List ResultVar) (n:Nat) (outs:List (Option ab)) (res:ab) (e:Exit) (g':aK):Prop:=(e=.normal\/e=.ret)/\Leaves P N rs g' n outs res
theorem bU.fin {f:FuncId}{fn:Func}{c:Code}{args:List ab}{outs:List (Option ab)}{res:ab}{N:c5}(aW:P.funcs[f]?=some fn) (av:fn.body=some c) (bd:fn.ntmps=N.size) (aP:Nat.ble args.length N.size=true) (hlen:outs.length=args.length)
  (hw:W P N c (qa args) (Fin P N fn.results.toList args.length outs res)):bU P f args outs res:=.Xv aW av bd (Nat.le_of_ble_eq_true aP) hlen hw
def sl (outs:List (Option ab)):Bool:=outs.all λx=>x.isNone
theorem Fp {outs:List (Option ab)}(h:sl outs=true) (k:Nat) (x:ab):outs[k]?≠some (some x):=by
 intro e;have:=List.all_eq_true.1 h _ (List.mem_of_getElem? e)
 grind
theorem Fin.one {t:Nat}{y res:ab}{outs:List (Option ab)}{n:Nat}(ax:Rd g (.tmp t) y) (aF:cU y) (a1:sl outs=true) (ak:outs.length=n) (he:y=res):Fin P N [.tmp t] n outs res .ret g :=
 ⟨.inr rfl,⟨[y],[y],g,.cons (.tmp ax.bs) .nil,.bl (by simpa using aF),he.symm,λk x hk=>absurd hk (Fp a1 k x)⟩,ak⟩
inductive A0 (g:aK):List ResultVar->List ab->Prop
 | nil:A0 g [] []
 | cons {t:Nat}{y:ab}{rs:List ResultVar}{ys:List ab}(h:Rd g (.tmp t) y) (aF:cU y) (aw:A0 g rs ys):A0 g (.tmp t::rs) (y::ys)
theorem A0.spec {rs:List ResultVar}{ys:List ab}(h:A0 g rs ys):rJ P g rs ys/\∀ y∈ys,cU y:=by
 induction h with
 | nil=>exact ⟨.nil,by simp⟩
 | cons h aF _ aU=>exact ⟨.cons (.tmp h.bs) aU.1,pQ aF aU.2⟩
inductive qV (g:aK):List Operand->List ab->Prop
 | nil:qV g [] []
 | cons {x:Operand}{y:ab}{xs:List Operand}{ys:List ab}(h:Rd g x y) (aF:cU y) (aw:qV g xs ys):qV g (x::xs) (y::ys)
theorem qV.spec {xs:List Operand}{ys:List ab}(h:qV g xs ys):gl g xs=some ys/\∀ y∈ys,cU y:=by
 induction h with
 | nil=>exact ⟨rfl,by simp⟩
 | cons h aF _ aU=>exact ⟨by simp only [gl,h.bs,aU.1],pQ aF aU.2⟩
theorem cJ.Tl {xs:List Operand}{gm:Array TypeId}{f:FuncId}{ys:List ab}{outs:List (Option ab)}{res:ab}(gQ:bU P f ys outs res) (aW:gN P f=true) (J:qV g xs ys) (a1:sl outs=true) (aq:cU res) :
  cJ P g (.call { callee:=.value (.func f),args:=xs.toArray,argTypes:=gm }) res:=by
 have r8:outs=ys.map λ_=>Option.none:=by
  apply List.ext_getElem?;intro k;rw [List.getElem?_map];cases ax:ys[k]? with
  | none=>rw [List.getElem?_eq_none (by rw [gQ.1]; exact List.getElem?_eq_none_iff.1 ax)]; rfl
  | some y =>
   have hk:k<outs.length:=by rw [gQ.1]; exact (List.getElem?_eq_some_iff.1 ax).1
   have h1:=List.getElem?_eq_getElem hk;rw [h1];cases af:outs[k] with
   | none=>rfl
   | some x=>rw [af] at h1; exact absurd h1 (Fp a1 k x)
 exact .plain (first:=[]) (caps:=[]) (ys:=ys) rfl (by simpa using J.spec.1) aW (by simpa using J.spec.2) (by simpa [<- r8] using gQ) aq
end
end Go.Own
namespace Go.Own
open Go
def lG (s:ByteArray) (m:Int):Int:=((s[m.toNat]?.getD 0).toNat:Nat)
def rQ (s:ByteArray) (m n:Int):ByteArray:=s.extract m.toNat n.toNat
section
variable {P:Program}{N:c5}{ops:Array Oper}{g:aK}{K:aK->Prop}{l:List Oper}
variable {d:Nat}{op:Op}{ty:TypeId}{pos:String}{after:Array Edge}{x:ab}{a b:Operand}{t t2:TypeId}{k:IntKind}{m n:Int}{gd:Option (Nat × Bool)}
theorem c6.RT {s:ByteArray}{i:Operand}(J:Rd g a (.lit (.string s))) (hi:Rd g i (.lit (.int k m))) (aw:o3 P t=true) (h:0<=m/\m<s.size):c6 P g (.index t a i) ty (.lit (.int .u8 (lG s m))):=by
 obtain ⟨j,rfl⟩:=Int.eq_ofNat_of_zero_le h.1;have ah:j<s.size:=by omega
 have av:s[j]?=some s[j]:=getElem?_pos s j ah;have:lG s (j:Int)=(s[j].toNat:Nat):=by simp [lG,av]
 rw [this];exact .E2 J.bs hi.bs aw av
theorem c6.Qc {s:ByteArray}{lo hi:Operand}{oV:IntKind}(J:Rd g a (.lit (.string s))) (ak:Rd g lo (.lit (.int k m))) (bY:Rd g hi (.lit (.int oV n))) (aw:o3 P t=true) (h:0<=m/\m<=n/\n<=s.size) :
  c6 P g (.slice t a (some lo) (some hi) none) ty (.lit (.string (rQ s m n))):=by
 obtain ⟨i,rfl⟩:=Int.eq_ofNat_of_zero_le h.1;obtain ⟨j,rfl⟩:=Int.eq_ofNat_of_zero_le (show 0<=n by omega);exact .AA J.bs ⟨_,ak.bs⟩ ⟨_,bY.bs⟩ aw (by omega) (by omega)
theorem c6.YN {s:ByteArray}{hi:Operand}{oV:IntKind}(J:Rd g a (.lit (.string s))) (bY:Rd g hi (.lit (.int oV n))) (aw:o3 P t=true) (h:0<=n/\n<=s.size) :
  c6 P g (.slice t a none (some hi) none) ty (.lit (.string (rQ s 0 n))):=by
 obtain ⟨j,rfl⟩:=Int.eq_ofNat_of_zero_le h.1;exact .AA (l:=0) J.bs rfl ⟨_,bY.bs⟩ aw (by omega) (by omega)
theorem c6.YO {s:ByteArray}{lo:Operand}(J:Rd g a (.lit (.string s))) (ak:Rd g lo (.lit (.int k m))) (aw:o3 P t=true) (h:0<=m/\m<=s.size) :
  c6 P g (.slice t a (some lo) none none) ty (.lit (.string (rQ s m s.size))):=by
 obtain ⟨j,rfl⟩:=Int.eq_ofNat_of_zero_le h.1;exact .AA (h:=s.size) J.bs ⟨_,ak.bs⟩ rfl aw (by omega) (by omega)
theorem S8 {s:ByteArray}{m n:Int}(h:0<=m/\m<=n/\n<=s.size):((rQ s m n).size:Int)=n - m:=by
 grind [rQ,ByteArray.size_extract]
theorem c6.bytes {z p i':Nat}{cs:List ab}{xs:List Int}(J:g p=some (.own 1 i' cs)) (hL:cs=xs.map λb=>.lit (.int .u8 b)) (ak:cs.length=i') (aw:wP P t t2=true) (_hz:z=0):c6 P g (.convert t t2 (.tmp p)) ty (.lit (.string (strOfNums xs))) :=
 .Eb (p:=⟨p,[]⟩) (n:=i') (N:=i') (cs:=cs) (by simp [bs,J,rr,gr]) (by simp [bB,J,ab.at]) (Nat.le_refl _) (by rw [List.take_of_length_le (by omega)]; exact hL) aw
def ih (P:Program) (e:TypeId) (z:Nat):Bool :=
 match (P.info? e).bind (·.zero) with
 | some v=>v.cells.size == z
 | none=>false
theorem K8 {e:TypeId}{z:Nat}(h:ih P e z=true):∃ v,(P.info? e).bind (·.zero)=some v/\v.cells.size=z:=by
 grind [ih]
inductive tp (g:aK):List Operand->List Value->Prop
 | nil:tp g [] []
 | cons {x:Operand}{v:Value}{xs:List Operand}{vs:List Value}(h:Rd g x (.lit v)) (aw:tp g xs vs):tp g (x::xs) (v::vs)
theorem tp.gl {xs:List Operand}{vs:List Value}(h:tp g xs vs):gl g xs=some (vs.map .lit):=by
 induction h with
 | nil=>rfl
 | cons h _ aU=>simp only [Own.gl,h.bs,aU]; rfl
theorem tp.map {xs:List Operand}{vs:List Value}(h:tp g xs vs):xs.map (bs g)=vs.map λv=>some (.lit v):=by
 induction h with
 | nil=>rfl
 | cons h _ aU=>simp only [List.map_cons,h.bs,aU]
theorem cg.row {e:TypeId}{xs:List Operand}{vs:List Value}{parts:Array (Nat × Operand)}{dx:Nat}(J:tp g xs vs) (au:parts.toList=xs.mapIdx (λi x=>(i,x))) (aF:xs.length=dx) (aw:fo P t e 1=true) (aX:ih P e 1=true) (av:Nat.ble dx 1000=true) :
  cg P g (.buildSlice t dx parts) ty (.own 1 dx (vs.map .lit)):=by
 subst aF;have l2:=Nat.le_of_ble_eq_true av;refine .rk (.buildSlice aw au J.gl (λy ax=>?_) ?_ (by omega) (by omega) (.inr (K8 aX)))
 ·obtain ⟨v,_,rfl⟩:=List.mem_map.1 ax;exact ⟨[.lit v],rfl,rfl⟩
 ·generalize vs=l
  induction l with
  | nil=>rfl
  | cons v l aU=>simp only [List.map_cons,mn,jR,aU]; rfl
inductive tq (g:aK):List Nat->List (Nat × ab)->Prop
 | nil:tq g [] []
 | some {s:Nat}{x:ab}{tf:List Nat}{l:List (Nat × ab)}(h:g s=some x) (aF:cU x) (aw:tq g tf l):tq g (s::tf) ((s,x)::l)
 | none {s:Nat}{tf:List Nat}{l:List (Nat × ab)}(aw:tq g tf l):tq g (s::tf) l
theorem tq.spec {g:aK}{tf:List Nat}{l:List (Nat × ab)}(h:tq g tf l):∀ t x,get l t=Option.some x->g t=Option.some x/\cU x:=by
 induction h with
 | nil=>intro t x J; cases J
 | @some s y tf l h aF _ aU =>
  grind [get]
 | none _ aU=>exact aU
theorem tq.eY {g:aK}{tf:List Nat}{l:List (Nat × ab)}(h:tq g tf l):kq g (get l) :=
 ⟨λt x J=>⟨x,(h.spec t x J).1,.refl⟩,λt x J=>.bl (h.spec t x J).2,λt z q n m new J=>by have:=(h.spec t _ J).2; cases this⟩
end
end Go.Own
namespace Go.Own
open Go
def oF (s:ByteArray) (n:Nat):Prop:=s.size<=n
theorem oF.app {s u:ByteArray}{a b:Nat}(h:oF s a) (aR:oF u b):oF (s++u) (a+b):=by
 unfold oF at *;rw [ByteArray.size_append]; omega
theorem oF.cut {s:ByteArray}{a:Nat}{m n:Int}(h:oF s a):oF (rQ s m n) a:=by
 unfold oF rQ at *;rw [ByteArray.size_extract]; omega
theorem oF.const {xs:Array UInt8}:oF ⟨xs⟩ xs.size:=Nat.le_refl _
theorem oF.of {s:ByteArray}{n:Nat}(h:s.size<=n):oF s n:=h
theorem oF.self {s:ByteArray}:oF s s.size:=Nat.le_refl _
section
variable {P:Program}{g:aK}{ty:TypeId}{a b:Operand}{t t2:TypeId}{N:c5}{ops:Array Oper}{K:aK->Prop}{l:List Oper}{d:Nat}{pos:String}{after:Array Edge}{gd:Option (Nat × Bool)}
theorem W.Ml {c:Operand}{x y:Code}{Φ:Exit->aK->Prop}{b:Bool}(aa:Rd g c (.lit (.bool b))) (dM:b=true->W P N x g Φ) (aN:b=false->W P N y g Φ):W P N (.cond c x y) g Φ:=by
 cases b with
 | true=>exact .Mm aa.bs (dM rfl)
 | false=>exact .Mk aa.bs (aN rfl)
theorem Ys {c e:Bool}(aw:P.underlying t=some .bool) (w:World):(do eqGuard .eql t a b (.bool c) (.bool e); binOp .eql t (.bool c) (.bool e):Sem Value).run P w=.ok (.bool (c == e)) w:=by
 have h:=run_equal_bool w t c e aw;simp [eqGuard,binOp,h]
def G8 (P:Program) (t:TypeId):Bool :=
 match P.underlying t with
 | some .bool=>true
 | _=>false
theorem RZ (h:G8 P t=true):P.underlying t=some .bool:=by
 unfold G8 at h
 split at h
 ·assumption
 ·cases h
def xy (P:Program) (t:TypeId) (k:IntKind):Bool :=
 match P.underlying t with
 | some (.int kX)=>kX == k
 | _=>false
theorem OD {k:IntKind}(h:xy P t k=true):P.underlying t=some (.int k):=by
 unfold xy at h
 split at h
 ·rename_i kX hk; rw [hk]; have:kX=k:=by simpa using h
  rw [this]
 ·cases h
theorem c6.S3 {k kX:IntKind}{m:Int}(J:Rd g a (.lit (.int k m))) (aB:xy P t k=true) (aS:xy P t2 kX=true):c6 P g (.convert t t2 a) ty (.lit (.int kX (kX.wrap m))) :=
 .conv J.bs rfl λw=>by simp [convert,run_underlying (OD aB),run_underlying (OD aS),Conv.intToInt]
inductive Bytes (g:aK):List Operand->List Int->Prop
 | nil:Bytes g [] []
 | cons {x:Operand}{v:Int}{xs:List Operand}{vs:List Int}(h:Rd g x (.lit (.int .u8 v))) (aw:Bytes g xs vs):Bytes g (x::xs) (v::vs)
theorem Bytes.lits {xs:List Operand}{vs:List Int}(h:Bytes g xs vs):tp g xs (vs.map λb=>.int .u8 b):=by
 induction h with
 | nil=>exact .nil
 | cons h _ aU=>exact .cons h aU
end
end Go.Own
namespace Go.Own
open Go Go.RowKit
theorem cH.lits {w:World}(vs:List Value) (h:∀ v∈vs,v.oneCell'=true):cH w (λ_=>False) vs.toArray (qa (vs.map .lit)) (λ_=>cx):=by
 refine ⟨λt x J=>?_,λ_ _ _ h=>h,λ_ _ _ h=>h.elim,λ_ _ h=>h.elim,λ_ h=>h.elim,λt t' z p n m new bC cG m' c3 h1 _=>?_⟩
 ·simp only [qa,List.getElem?_map] at J;cases hv:vs[t]? with
  | none=>rw [hv] at J; cases J
  | some v =>
   rw [hv] at J;simp only [Option.map_some,Option.some.injEq] at J;subst J;exact ⟨v,by simpa using hv,.tree (.lit (h v (List.mem_of_getElem? hv)) λ_ h=>h)⟩
 grind [qa]
end Go.Own
namespace Go.Own
open Go
section
variable {P:Program}{g:aK}{ty:TypeId}{a b:Operand}{t t2:TypeId}{N:c5}{ops:Array Oper}{K:aK->Prop}{l:List Oper}{d:Nat}{pos:String}{after:Array Edge}{gd:Option (Nat × Bool)}
theorem c6.mD {z n bC:Nat}{p:Place}{e:TypeId}(J:Rd g a (.a6 z p n)) (aw:fo P t e bC=true):c6 P g (.call { callee:=.builtin .len,args:=#[a],argTypes:=#[t] }) ty (.lit (.int .i64 n)):=.Cq J.bs aw
theorem c6.kz {z n bC:Nat}{cs:List ab}{e:TypeId}(J:Rd g a (.bk z n cs)) (aw:fo P t e bC=true):c6 P g (.call { callee:=.builtin .len,args:=#[a],argTypes:=#[t] }) ty (.lit (.int .i64 n)):=.Cr J.bs aw
end
end Go.Own
namespace Go.Own
open Go
end Go.Own
namespace Go.Own
open Go
structure bK (α:Type) where
 z:Nat
 cells:α->List ab
 len:∀ a,(cells a).length=z
 bl:∀ a,∀ x∈cells a,cU x
variable {α β S R:Type}
def bo (e:bK α) (l:List α):List ab:=l.flatMap e.cells
abbrev aj (e:bK α) (l:List α):ab:=.own e.z l.length (bo e l)
abbrev ag (e:bK α) (l:List α):ab:=.bk e.z l.length (bo e l)
abbrev ae (n:Int):ab:=.lit (.int .i64 n)
abbrev qZ (n:Int):ab:=.lit (.int .u8 n)
abbrev a_ (b:Bool):ab:=.lit (.bool b)
abbrev ay (s:ByteArray):ab:=.lit (.string s)
abbrev aJ (n:Int):Int:=IntKind.i64.wrap n
abbrev yw (n:Int):Int:=IntKind.u8.wrap n
theorem nq (e:bK α) (l:List α):(bo e l).length=l.length * e.z:=by
 induction l with
 | nil=>simp [bo]
 | cons a l aU =>
  have:bo e (a::l)=e.cells a++bo e l:=by simp [bo]
  rw [this,List.length_append,e.len,aU,List.length_cons,Nat.add_mul]; omega
theorem pU (e:bK α) (l:List α):∀ x∈bo e l,cU x:=by
 intro x J;obtain ⟨a,_,h⟩:=List.mem_flatMap.1 J;exact e.bl a x h
theorem FQ (e:bK α) (l m:List α):bo e (l++m)=bo e l++bo e m:=by simp [bo]
theorem Ax (e:bK α):∀ (l:List α) (i:Nat),(bo e l).drop (i * e.z)=bo e (l.drop i)
 | l,0=>by simp
 | [],i+1=>by simp [bo]
 | a::l,i+1=>by
  have h:bo e (a::l)=e.cells a++bo e l:=by simp [bo]
  rw [h,List.drop_append,e.len,List.drop_eq_nil_of_le (by rw [e.len,Nat.add_mul]; omega)];have:(i+1) * e.z - e.z=i * e.z:=by rw [Nat.add_mul]; omega
  rw [this,List.nil_append,Ax e l i]; rfl
theorem yi (e:bK α):∀ (l:List α) (i:Nat),(bo e l).take (i * e.z)=bo e (l.take i)
 | l,0=>by simp [bo]
 | [],i+1=>by simp [bo]
 | a::l,i+1=>by
  have h:bo e (a::l)=e.cells a++bo e l:=by simp [bo]
  rw [h,List.take_append,e.len,List.take_of_length_le (by rw [e.len,Nat.add_mul]; omega)];have:(i+1) * e.z - e.z=i * e.z:=by rw [Nat.add_mul]; omega
  rw [this,yi e l i]; simp [bo]
def idx (l:List α) (i:Int):Option α:=if 0<=i then l[i.toNat]? else none
theorem pM {l:List α}{i:Int}{y:α}(h:idx l i=some y):0<=i/\i<l.length/\l[i.toNat]?=some y:=by
 grind [idx]
theorem Kv (e:bK α) {l:List α}{i:Int}{y:α}(h:idx l i=some y):(bo e l).drop (i.toNat * e.z)=e.cells y++bo e (l.drop (i.toNat+1)):=by
 obtain ⟨aQ,h1,af⟩:=pM h
 grind [Ax,List.drop_eq_getElem_cons,bo]
theorem Ku (e:bK α) {l:List α}{i:Int}{y:α}(h:idx l i=some y) {k:Nat}{x:ab}(hk:(e.cells y)[k]?=some x):(bo e l)[i.toNat * e.z+k]?=some x:=by
 have aT:=(List.getElem?_eq_some_iff.1 hk).1;rw [<- List.getElem?_drop,Kv e h,List.getElem?_append_left aT]; exact hk
abbrev lim:Nat:=1099511627776
def fuel:Nat:=1000000000000000000
def iter (f:S->Option (S ⊕ R)):Nat->S->Option R
 | 0,_=>none
 | n+1,s=>match f s with
  | none=>none
  | some (.inl cT)=>iter f n cT
  | some (.inr r)=>some r
def b1 (f:S->Option (S ⊕ R)) (s:S):Option R:=iter f fuel s
theorem la {o:Option α}{f:α->Option β}{r:β}(h:o.bind f=some r):∃ y,o=some y/\f y=some r:=Option.bind_eq_some_iff.1 h
theorem Sz {b:Bool}{x y o:α}(av:b=true) (h:cond b x y=o):x=o:=by
 grind
theorem Sy {b:Bool}{x y o:α}(av:b=false) (h:cond b x y=o):y=o:=by
 grind
theorem fF {b:Bool}{x y o:α}(h:cond b x y=o):(b=true/\x=o)\/(b=false/\y=o):=by
 grind
theorem aV {a b:α}(h:some a=some b):a=b:=by grind
class cf (x:ab):Prop where bl:cU x
class dp (cs:List ab):Prop where bl:∀ x∈cs,cU x
instance {v:Value}:cf (.lit v):=⟨.lit⟩
instance:cf .aL:=⟨.aL⟩
instance:cf .dead:=⟨.dead⟩
instance {z n:Nat}{cs:List ab} [h:dp cs]:cf (.bk z n cs):=⟨.bk h.bl⟩
instance {z n:Nat}{cs:List ab} [h:dp cs]:cf (.own z n cs):=⟨.own h.bl⟩
instance {cs:List ab} [h:dp cs]:cf (.obj cs):=⟨.obj h.bl⟩
instance {cs:List ab} [h:dp cs]:cf (.agg cs):=⟨.agg h.bl⟩
instance {cs:List ab} [h:dp cs]:cf (.bW cs):=⟨.bW h.bl⟩
instance {cs:List ab} [h:dp cs]:cf (.cI cs):=⟨.cI h.bl⟩
instance {f:Fn}{a b:List ab} [h:dp a] [aR:dp b]:cf (.cX f a b):=⟨.cX h.bl aR.bl⟩
instance:dp []:=⟨by simp⟩
instance {x:ab}{cs:List ab} [h:cf x] [aR:dp cs]:dp (x::cs):=⟨pQ h.bl aR.bl⟩
instance {e:bK α}{l:List α}:dp (bo e l):=⟨pU e l⟩
instance {e:bK α}{a:α}:dp (e.cells a):=⟨e.bl a⟩
instance {a b:List ab} [h:dp a] [aR:dp b]:dp (a++b):=⟨λx J=>(List.mem_append.1 J).elim (h.bl x) (aR.bl x)⟩
instance {a:List ab}{n:Nat} [h:dp a]:dp (a.drop n):=⟨λx J=>h.bl x (List.mem_of_mem_drop J)⟩
instance {a:List ab}{n:Nat} [h:dp a]:dp (a.take n):=⟨λx J=>h.bl x (List.mem_of_mem_take J)⟩
instance {v:Value}{n:Nat}:dp (List.replicate n (.lit v)):=⟨λx J=>by rw [(List.mem_replicate.1 J).2]; exact .lit⟩
abbrev bK.one (f:α->ab) (h:∀ a,cU (f a)):bK α:=⟨1,λa=>[f a],λ_=>rfl,λa x J=>by rw [List.mem_singleton.1 J]; exact h a⟩
def ai:bK Int:=.one (λn=>ae n) λ_=>.lit
def qe:bK Int:=.one (λn=>qZ n) λ_=>.lit
def cp:bK Bool:=.one (λb=>a_ b) λ_=>.lit
def dv:bK ByteArray:=.one (λs=>ay s) λ_=>.lit
def My (e:bK α):bK (List α):=.one (λl=>aj e l) λl=>.own (pU e l)
def br (e:bK α):bK (List α):=.one (λl=>ag e l) λl=>.bk (pU e l)
inductive Trim (b:Bool) (g g2:aK):List (Nat × ab)->Prop
 | nil:Trim b g g2 []
 | n {s:Nat}{x:ab}{l:List (Nat × ab)}(h:g s=some x) [aF:cf x] (t:Trim b g g2 l):Trim b g g2 ((s,x)::l)
 | r {s:Nat}{x:ab}{l:List (Nat × ab)}(h:g s=some x) (aF:dh g2 x) (au:∀ z p n m new,x≠.bL z p n m new) (t:Trim b g g2 l):Trim b g g2 ((s,x)::l)
 | e {s:Nat}{x y:ab}{l:List (Nat × ab)}(h:g s=some y) (he:y=x) [aF:cf x] (t:Trim b g g2 l):Trim b g g2 ((s,x)::l)
 | w {s:Nat}{x y:ab}{l:List (Nat × ab)}(av:b=true) (h:g s=some y) (hw:pg y x) [aF:cf x] (t:Trim b g g2 l):Trim b g g2 ((s,x)::l)
theorem Trim.spec {b:Bool}{g g2:aK}{l:List (Nat × ab)}(h:Trim b g g2 l):∀ t x,get l t=some x->(∃ y,g t=some y/\pg y x/\(b=false->y=x))/\dh g2 x/\∀ z p n m new,x≠.bL z p n m new:=by
 have fx:∀ {x:ab},cU x->∀ z p n m new,x≠.bL z p n m new:=by rintro x h z p n m new rfl; cases h
 induction h with
 | nil=>intro t x J; cases J
 | @n _ _ _ h aF _ aU =>
  intro t x J;simp only [get] at J
  split at J
  ·rename_i e;subst e;cases J;exact ⟨⟨_,h,.refl,λ_=>rfl⟩,.bl aF.bl,fx aF.bl⟩
  grind
 | r h aF au _ aU =>
  intro t x J;simp only [get] at J
  split at J
  ·rename_i e;subst e;cases J;exact ⟨⟨_,h,.refl,λ_=>rfl⟩,aF,au⟩
  grind
 | @e _ _ _ _ h he aF _ aU =>
  intro t x J;simp only [get] at J
  split at J
  ·rename_i e;subst e he;cases J;exact ⟨⟨_,h,.refl,λ_=>rfl⟩,.bl aF.bl,fx aF.bl⟩
  grind
 | @w _ _ _ _ av h hw aF _ aU =>
  intro t x J;simp only [get] at J
  split at J
  ·rename_i e;subst e;cases J;exact ⟨⟨_,h,hw,λh=>by rw [av] at h; cases h⟩,.bl aF.bl,fx aF.bl⟩
  grind
theorem Trim.eY {b:Bool}{g:aK}{l:List (Nat × ab)}(h:Trim b g (get l) l):kq g (get l) :=
 ⟨λt x J=>by obtain ⟨⟨y,h1,af,_⟩,_⟩:=h.spec t x J; exact ⟨y,h1,af⟩,λt x J=>(h.spec t x J).2.1,λt z q n m new J=>(h.spec t _ J).2.2 _ _ _ _ _ rfl⟩
theorem Trim.keep {g:aK}{l:List (Nat × ab)}(h:Trim false g (get l) l):hG g (get l) :=
 ⟨λt x J=>by obtain ⟨⟨y,h1,_,aI⟩,_⟩:=h.spec t x J; rw [<- aI rfl]; exact h1,λt x J=>(h.spec t x J).2.1,λt z q n m new J=>(h.spec t _ J).2.2 _ _ _ _ _ rfl⟩
section
variable {P:Program}{N:c5}{ops:Array Oper}{g:aK}{K:aK->Prop}{l:List Oper}{d:Nat}{op:Op}{ty:TypeId}{pos:String}{after:Array Edge}{x:ab}{gd:Option (Nat × Bool)}
def jF (P:Program) (N:c5) (c:Code) (G G1:List (Nat × ab)):Prop:=W P N c (get G) λe g'=>e=.normal/\kq g' (get G1)
theorem W.bA {A B:Code}{G G1:List (Nat × ab)}{Φ:Exit->aK->Prop}(h1:jF P N A G G1) (af:W P N B (get G1) Φ):W P N (.seq A B) (get G) Φ:=by
 refine W.seq (W.out h1 λe g' h=>⟨get G1,h.2,?_⟩);obtain ⟨rfl,_⟩:=h;exact af
theorem W.bI {A B:Code}{G:List (Nat × ab)}{Φ:Exit->aK->Prop}(h:W P N A (get G) (o5 (λg1=>W P N B g1 Φ) Φ)):W P N (.seq A B) (get G) Φ:=W.seq h
theorem jF.rg {id:Nat}{l:List Oper}{G G1:List (Nat × ab)}(h:ar P N l.toArray l (get G) λg'=>kq g' (get G1)):jF P N (.region id l.toArray false) G G1 :=
 W.Aw (λi hi=>by obtain ⟨g',h1,af⟩:=h i hi; exact ⟨g',h1,rfl,af⟩)
theorem ar.fin {G1:List (Nat × ab)}(h:Trim true g (get G1) G1):ar P N ops [] g λg'=>kq g' (get G1):=.nil h.eY
theorem ar.Di {G1:List (Nat × ab)}(h:Trim false g (get G1) G1) (hk:ar P N ops l (get G1) K):ar P N ops l g K:=.forget h.keep hk
theorem ar.v (au:cg P g op ty x) (bd:N.ok d=true) (aW:g d=none) (aO:fr g ops gd) (hk:ar P N ops l (cV g d x) K):ar P N ops (⟨some d,op,ty,pos,after,gd⟩::l) g K:=.Zu au bd aW aO hk
theorem ar.c (au:cJ P g op x) (bd:N.ok d=true) (aW:g d=none) (aO:fr g ops gd) (hk:ar P N ops l (cV g d x) K):ar P N ops (⟨some d,op,ty,pos,after,gd⟩::l) g K:=.call au bd aW aO hk
theorem fr.fp {j t:Nat}{b c:Bool}(h:(ops[j]?).bind (·.dst)=some t) (aO:g t=some (.lit (.bool c))) (av:c=b):fr g ops (some (j,b)):=by subst av; exact .yes h aO
theorem ar.ps {j t':Nat}{b c:Bool}(h:(ops[j]?).bind (·.dst)=some t') (aO:g t'=some (.lit (.bool c))) (av:c=!b) (bd:N.ok d=true) (aW:g d=none) (hk:ar P N ops l (cV g d (.bW [])) K):ar P N ops (⟨some d,op,ty,pos,after,some (j,b)⟩::l) g K:=by
 subst av; exact .AB rfl bd aW (r:=some (.bW [])) (.inr (.inl ⟨⟨t',h,.inl ⟨_,aO,by cases b <;> rfl⟩⟩,rfl⟩)) hk
theorem ar.pu {j t':Nat}{b:Bool}(h:(ops[j]?).bind (·.dst)=some t') (aO:g t'=some (.bW [])) (bd:N.ok d=true) (aW:g d=none) (hk:ar P N ops l (cV g d (.bW [])) K):ar P N ops (⟨some d,op,ty,pos,after,some (j,b)⟩::l) g K :=
 .AB rfl bd aW (r:=some (.bW [])) (.inr (.inl ⟨⟨t',h,.inr ⟨aO,rfl⟩⟩,rfl⟩)) hk
theorem jF.skip {G G1:List (Nat × ab)}(h:Trim true (get G) (get G1) G1):jF P N .skip G G1:=W.skip ⟨rfl,h.eY⟩
theorem jF.fF {t:Nat}{A B:Code}{b:Bool}{G G1:List (Nat × ab)}(aa:get G t=some (a_ b)) (dM:b=true->jF P N A G G1) (aN:b=false->jF P N B G G1):jF P N (.cond (.tmp t) A B) G G1:=W.Ml (.lit aa) dM aN
theorem W.fF {t:Nat}{A B:Code}{b:Bool}{G:List (Nat × ab)}{Φ:Exit->aK->Prop}(aa:get G t=some (a_ b)) (dM:b=true->W P N A (get G) Φ) (aN:b=false->W P N B (get G) Φ):W P N (.cond (.tmp t) A B) (get G) Φ:=W.Ml (.lit aa) dM aN
theorem jF.bA {A B:Code}{G G1 G2:List (Nat × ab)}(h1:jF P N A G G1) (af:jF P N B G1 G2):jF P N (.seq A B) G G2:=W.bA h1 af
theorem jF.D8 {id:Nat}{c:Code}{G G1:List (Nat × ab)}(h:W P N c (get G) λe g'=>(e=.normal\/e=.exit id)/\kq g' (get G1)):jF P N (.block id c) G G1:=by
 refine W.block (h.mono ?_);rintro e g' ⟨rfl | rfl,h⟩
 ·exact ⟨rfl,h⟩
 ·show if id=id then _ else _
  grind
end
end Go.Own
namespace Go.Own
open Go
variable {α β:Type}
def kr (s:ByteArray) (m:Int):Option Int:=if 0<=m/\m<s.size then some (lG s m) else none
def q4 (s:ByteArray) (m n:Int):Option ByteArray:=if 0<=m/\m<=n/\n<=s.size then some (rQ s m n) else none
def tH (s u:ByteArray):Option ByteArray:=if s.size+u.size<=4611686018427387904 then some (s++u) else none
def FI (m n:Int):Option Int:=if n=0 then none else some (aJ (m.tdiv n))
def ru (m n:Int):Option Int:=if n=0 then none else some (m.tmod n)
def nW (l:List α) (m n:Int):Option (List α):=if 0<=m/\m<=n/\n<=l.length then some ((l.drop m.toNat).take (n - m).toNat) else none
def l1:ab->Bool
 | .lit _ | .aL | .bk .. | .cI _ | .cX .. | .ptr .. | .a6 .. | .sub .. | .gx .. | .imp ..=>true
 | _=>false
theorem TD {d:Nat}{p:Place}{x:ab}(h:l1 x=true):gr d p x=x:=by
 cases x <;> simp [l1] at h <;> cases d <;> rfl
theorem TE {t:Nat}{x:ab}(h:l1 x=true):rr t x=x:=by
 cases x <;> simp [l1] at h <;> rfl
theorem Bp {d:Nat}{q:Nat->Place}{cs:List ab}(h:cs.all l1=true):(cs.mapIdx λi x=>gr d (q i) x)=cs:=by
 apply List.ext_getElem?;intro k;rw [List.getElem?_mapIdx];cases hk:cs[k]? with
 | none=>rfl
 | some x=>simp only [Option.map_some,TD (List.all_eq_true.1 h x (List.mem_of_getElem? hk))]
section
variable {P:Program}{N:c5}{ops:Array Oper}{g:aK}{K:aK->Prop}{l:List Oper}{d:Nat}{ty t t2:TypeId}{a b c:Operand}{k kX:IntKind}{m n:Int}{s u:ByteArray}{p q e:Bool}
theorem Rd.f {t:Nat}{x:ab}(h:g t=some x) (aW:l1 x=true):Own.bs g (.tmp t)=some x:=by simp only [Own.bs,h,Option.map_some,TE aW]
theorem Rd.dJ {t:Nat}{cs:List ab}(h:g t=some (.agg cs)) (aW:cs.all l1=true):Rd g (.tmp t) (.agg cs):=.agg h (Bp aW)
theorem Rd.Qv {t:Nat}{cs:List ab}(h:g t=some (.bW cs)) (aW:cs.all l1=true):Rd g (.tmp t) (.bW cs):=.bW h (Bp aW)
namespace O
theorem aZ {y:ab}(h:Rd g a y):cg P g (.move a) ty y:=.eX (.move h.bs)
theorem az {y:ab}(h:Rd g a y):cg P g (.assign a) ty y:=.eX (.assign h.bs)
theorem hW {y:ab}(aa:Rd g c (a_ p)) (av:p=true) (h:Rd g a y):cg P g (.pick c a b) ty y:=by subst av; exact .eX (.X2 aa h)
theorem dz {y:ab}(aa:Rd g c (a_ p)) (av:p=false) (h:Rd g b y):cg P g (.pick c a b) ty y:=by subst av; exact .eX (.X1 aa h)
theorem add (J:Rd g a (.lit (.int k m))) (ax:Rd g b (.lit (.int k n))):cg P g (.binOp .add t a b t2) ty (.lit (.int k (k.wrap (m+n)))):=.eX (.add J ax)
theorem sub (J:Rd g a (.lit (.int k m))) (ax:Rd g b (.lit (.int k n))):cg P g (.binOp .sub t a b t2) ty (.lit (.int k (k.wrap (m - n)))):=.eX (.Y3 J ax)
theorem mul (J:Rd g a (.lit (.int k m))) (ax:Rd g b (.lit (.int k n))):cg P g (.binOp .mul t a b t2) ty (.lit (.int k (k.wrap (m * n)))):=.eX (.mul J ax)
theorem quo {r:Int}(J:Rd g a (ae m)) (ax:Rd g b (ae n)) (h:FI m n=some r):cg P g (.binOp .quo t a b t2) ty (ae r):=by
 unfold FI at h
 split at h
 ·cases h
 ·cases h; exact .eX (.quo J ax (by assumption))
theorem rem {r:Int}(J:Rd g a (ae m)) (ax:Rd g b (ae n)) (h:ru m n=some r):cg P g (.binOp .rem t a b t2) ty (ae r):=by
 unfold ru at h
 split at h
 ·cases h
 ·cases h; exact .eX (.rem J ax (by assumption))
theorem lss (J:Rd g a (.lit (.int k m))) (ax:Rd g b (.lit (.int k n))):cg P g (.binOp .lss t a b t2) ty (a_ (decide (m<n))):=.eX (.lss J ax (by simp))
theorem leq (J:Rd g a (.lit (.int k m))) (ax:Rd g b (.lit (.int k n))):cg P g (.binOp .leq t a b t2) ty (a_ (decide (m<=n))):=.eX (.leq J ax (by simp))
theorem gtr (J:Rd g a (.lit (.int k m))) (ax:Rd g b (.lit (.int k n))):cg P g (.binOp .gtr t a b t2) ty (a_ (decide (n<m))):=.eX (.gtr J ax (by simp))
theorem geq (J:Rd g a (.lit (.int k m))) (ax:Rd g b (.lit (.int k n))):cg P g (.binOp .geq t a b t2) ty (a_ (decide (n<=m))):=.eX (.geq J ax (by simp))
theorem eql (J:Rd g a (.lit (.int k m))) (ax:Rd g b (.lit (.int k n))):cg P g (.binOp .eql t a b t2) ty (a_ (decide (m=n))):=.eX (.eql J ax (by simp))
theorem neq (J:Rd g a (.lit (.int k m))) (ax:Rd g b (.lit (.int k n))):cg P g (.binOp .neq t a b t2) ty (a_ (!decide (m=n))):=.eX (.neq J ax (by simp))
theorem qf (J:Rd g a (ay s)) (ax:Rd g b (ay u)):cg P g (.binOp .eql t a b t2) ty (a_ (decide (s=u))):=.eX (.qf J ax (by simp))
theorem oo (J:Rd g a (ay s)) (ax:Rd g b (ay u)):cg P g (.binOp .neq t a b t2) ty (a_ (!decide (s=u))):=.eX (.oo J ax (by simp))
theorem Eh (J:Rd g a (a_ p)) (ax:Rd g b (a_ q)) (aw:G8 P t=true):cg P g (.binOp .eql t a b t2) ty (a_ (p == q)):=.eX (.bin J.bs ax.bs rfl λw=>Ys (RZ aw) w)
theorem neg (J:Rd g a (.lit (.int k m))):cg P g (.unOp .neg t a) ty (.lit (.int k (k.wrap (-m)))):=.eX (.un J.bs rfl λw=>by simp [Op.unary,Op.intArith])
theorem not (J:Rd g a (a_ p)):cg P g (.unOp .not t a) ty (a_ (!p)):=.eX (.not J)
theorem S_ (J:Rd g a (.lit (.int k m))) (aB:xy P t k=true) (aS:xy P t2 kX=true):cg P g (.convert t t2 a) ty (.lit (.int kX (kX.wrap m))):=.eX (.S3 J aB aS)
theorem cat {r:ByteArray}(J:Rd g a (ay s)) (ax:Rd g b (ay u)) (h:tH s u=some r):cg P g (.binOp .add t a b t2) ty (ay r):=by
 unfold tH at h
 split at h
 ·cases h; exact .eX (.cat J ax (by omega))
 ·cases h
theorem ux (J:Rd g a (ay s)) (aw:o3 P t=true):cg P g (.call { callee:=.builtin .len,args:=#[a],argTypes:=#[t] }) ty (ae s.size):=.eX (.ux J aw)
theorem mm {r:Int}(J:Rd g a (ay s)) (ax:Rd g b (.lit (.int k m))) (aw:o3 P t=true) (h:kr s m=some r):cg P g (.index t a b) ty (qZ r):=by
 unfold kr at h
 split at h
 ·cases h; exact .eX (.RT J ax aw (by assumption))
 ·cases h
theorem yn {r:ByteArray}{oV:IntKind}(J:Rd g a (ay s)) (ak:Rd g b (.lit (.int k m))) (bY:Rd g c (.lit (.int oV n))) (aw:o3 P t=true) (h:q4 s m n=some r):cg P g (.slice t a (some b) (some c) none) ty (ay r):=by
 unfold q4 at h
 split at h
 ·cases h; exact .eX (.Qc J ak bY aw (by assumption))
 ·cases h
theorem F0 {r:ByteArray}(J:Rd g a (ay s)) (bY:Rd g c (.lit (.int k n))) (aw:o3 P t=true) (h:q4 s 0 n=some r):cg P g (.slice t a none (some c) none) ty (ay r):=by
 unfold q4 at h
 split at h
 ·rename_i aa; cases h; exact .eX (.YN J bY aw ⟨aa.2.1,aa.2.2⟩)
 ·cases h
theorem F1 {r:ByteArray}(J:Rd g a (ay s)) (ak:Rd g b (.lit (.int k m))) (aw:o3 P t=true) (h:q4 s m s.size=some r):cg P g (.slice t a (some b) none none) ty (ay r):=by
 unfold q4 at h
 split at h
 ·rename_i aa; cases h; exact .eX (.YO J ak aw ⟨aa.1,aa.2.1⟩)
 ·cases h
theorem kz {z bC n:Nat}{cs:List ab}{e:TypeId}(J:Rd g a (.bk z n cs)) (aw:fo P t e bC=true):cg P g (.call { callee:=.builtin .len,args:=#[a],argTypes:=#[t] }) ty (ae n):=.eX (.Cr J.bs aw)
theorem ri {en:bK α}{L:List α}{y:α}{e:TypeId}(J:Rd g a (.bk en.z L.length (bo en L))) (ax:Rd g b (.lit (.int k m))) (aw:fo P t e en.z=true) (h:idx L m=some y):cg P g (.indexAddr t a b) ty (.cI (en.cells y++bo en (L.drop (m.toNat+1)))):=by
 rw [<- Kv en h];obtain ⟨aQ,h1,_⟩:=pM h;obtain ⟨j,rfl⟩:=Int.eq_ofNat_of_zero_le aQ;exact .eX (.E1 J.bs ax.bs aw (by omega))
theorem YK {en:bK α}{L r:List α}{e:TypeId}{oV:IntKind}(J:Rd g a (.bk en.z L.length (bo en L))) (ak:Rd g b (.lit (.int k m))) (bY:Rd g c (.lit (.int oV n))) (aw:fo P t e en.z=true) (h:nW L m n=some r):cg P g (.slice t a (some b) (some c) none) ty (ag en r):=by
 unfold nW at h
 split at h
 ·rename_i aa;obtain ⟨aQ,h1,af⟩:=aa;cases h;obtain ⟨i,rfl⟩:=Int.eq_ofNat_of_zero_le aQ;obtain ⟨j,rfl⟩:=Int.eq_ofNat_of_zero_le (show 0<=n by omega);have:=c6.Az (P:=P) (ty:=ty) (t:=t) (l:=i) (h:=j) (lo:=some b) (hi:=some c) J.bs ⟨_,ak.bs⟩ ⟨_,bY.bs⟩ aw (by omega) (by omega);rw [Ax,yi] at this;have cv:(((L.drop i).take (j - i)).length)=j - i:=by rw [List.length_take,List.length_drop]; omega
  have b9:((j:Int) - (i:Int)).toNat=j - i:=by omega
  rw [Int.toNat_natCast,b9];unfold ag;rw [cv];exact .eX this
 ·cases h
theorem YL {en:bK α}{L r:List α}{e:TypeId}(J:Rd g a (.bk en.z L.length (bo en L))) (bY:Rd g c (.lit (.int k n))) (aw:fo P t e en.z=true) (h:nW L 0 n=some r):cg P g (.slice t a none (some c) none) ty (ag en r):=by
 unfold nW at h
 split at h
 ·rename_i aa;obtain ⟨_,h1,af⟩:=aa;cases h;obtain ⟨j,rfl⟩:=Int.eq_ofNat_of_zero_le h1;have:=c6.Az (P:=P) (ty:=ty) (t:=t) (l:=0) (h:=j) (lo:=none) (hi:=some c) J.bs rfl ⟨_,bY.bs⟩ aw (by omega) (by omega);rw [Ax,yi] at this;have cv:(((L.drop 0).take (j - 0)).length)=j - 0:=by rw [List.length_take,List.length_drop]; omega
  have b9:((j:Int) - 0).toNat=j - 0:=by omega
  rw [b9];unfold ag;have fG:(0:Int).toNat=0:=rfl;rw [fG,cv];exact .eX this
 ·cases h
theorem YM {en:bK α}{L r:List α}{e:TypeId}(J:Rd g a (.bk en.z L.length (bo en L))) (ak:Rd g b (.lit (.int k m))) (aw:fo P t e en.z=true) (h:nW L m L.length=some r):cg P g (.slice t a (some b) none none) ty (ag en r):=by
 unfold nW at h
 split at h
 ·rename_i aa;obtain ⟨aQ,h1,af⟩:=aa;cases h;obtain ⟨i,rfl⟩:=Int.eq_ofNat_of_zero_le aQ;have:=c6.Az (P:=P) (ty:=ty) (t:=t) (l:=i) (h:=L.length) (lo:=some b) (hi:=none) J.bs ⟨_,ak.bs⟩ rfl aw (by omega) (by omega);rw [Ax,yi] at this;have cv:(((L.drop i).take (L.length - i)).length)=L.length - i:=by rw [List.length_take,List.length_drop]; omega
  have b9:((L.length:Int) - (i:Int)).toNat=L.length - i:=by omega
  rw [Int.toNat_natCast,b9];unfold ag;rw [cv];exact .eX this
 ·cases h
theorem Bl {cT f off:Nat}{cs:List ab}(J:Rd g a (.cI cs)) (aW:hR P cT f off t=true):cg P g (.fieldAddr cT a f) ty (.cI (cs.drop off)):=.eX (.Em J.bs aW)
theorem Cp {x:ab}{cs:List ab}(J:Rd g a (.cI cs)) (aw:jt P t=true) (aa:cs.head?=some x):cg P g (.load t a) ty x:=by
 cases cs with
 | nil=>cases aa
 | cons y cs=>cases aa; exact .eX (.Fe J.bs aw)
theorem nj {z:Nat}{cs cs':List ab}(J:Rd g a (.cI cs)) (aw:iB P t z=true) (aa:cs.take z=cs') (aX:cs'.length=z):cg P g (.load t a) ty (.agg cs'):=by
 subst aa;exact .eX (.Ff J.bs aw (by rw [List.length_take] at aX; omega))
theorem xP {cs:List ab}(J:Rd g a (.cI cs)):cg P g (.nilCheck a) ty (.cI cs):=.eX (.qB J.bs)
theorem eV {p:Place}{k:Nat}(J:Rd g a (.ptr p k)):cg P g (.nilCheck a) ty (.ptr p k):=.eX (.Fm J.bs)
theorem fd {cT f off:Nat}{cs:List ab}{x:ab}(J:Rd g a (.agg cs)) (aW:hR P cT f off t=true) (aw:jt P t=true) (ax:cs[off]?=some x):cg P g (.field cT a f) ty x:=.eX (.El J.bs aW aw ax)
theorem ex {p i:Nat}{cs:List ab}{x y:ab}(J:g p=some (.bW cs)) (ax:cs[i]?=some x) (aq:gr 1 (Place.push ⟨p,[]⟩ i) x=y):cg P g (.extract (.tmp p) i) ty y :=
 .eX (.Ei (cs:=cs.mapIdx λi x=>gr 1 (Place.push ⟨p,[]⟩ i) x) (by simp [bs,J,rr,gr]) (by simp [ax,aq]))
theorem box {e:TypeId}{y:ab}{cs:List ab}(J:Rd g a y) (aa:jR y=some cs):cg P g (.box e a) ty (.obj cs):=.rk (.box J.bs aa)
theorem ku {cT f off k r:Nat}{cs:List ab}(aB:g r=some (.obj cs)) (J:Rd g a (.ptr ⟨r,[]⟩ k)) (aW:hR P cT f off t=true) (aT:Nat.blt (k+off) cs.length=true):cg P g (.fieldAddr cT a f) ty (.ptr ⟨r,[]⟩ (k+off)) :=
 .eX (.Bn J.bs aW ⟨.obj cs,by simp [bB,aB,ab.at],0,0,cs,.inr rfl,by simpa using aT⟩)
theorem mC {k r:Nat}{cs:List ab}{x y:ab}(aB:g r=some (.obj cs)) (J:Rd g a (.ptr ⟨r,[]⟩ k)) (aw:jt P t=true) (aa:cs[k]?=some x) (ax:gr 0 ⟨r,[k]⟩ x=y):cg P g (.load t a) ty y:=by
 subst ax;exact .eX (.Cu (p:=⟨r,[]⟩) J.bs aw (by simp [bB,aB,ab.at,Place.push,ab.kids,aa]))
theorem eU {k r z:Nat}{cs cs':List ab}(aB:g r=some (.obj cs)) (J:Rd g a (.ptr ⟨r,[]⟩ k)) (aw:iB P t z=true) (hk:Nat.ble (k+z) cs.length=true) (aa:(((cs.drop k).take z).mapIdx λi x=>gr 0 ⟨r,[k+i]⟩ x)=cs'):cg P g (.load t a) ty (.agg cs'):=by
 subst aa;exact .eX (.xM (p:=⟨r,[]⟩) (n:=0) (z:=0) J.bs aw (by simp [bB,aB,ab.at]) (.inr rfl) (Nat.le_of_ble_eq_true hk))
end O
theorem qV.cD {x:Operand}{y:ab}{xs:List Operand}{ys:List ab}(h:Rd g x y) [aF:cf y] (aw:qV g xs ys):qV g (x::xs) (y::ys):=.cons h aF.bl aw
theorem cJ.go {xs:List Operand}{gm:Array TypeId}{f:FuncId}{ys:List ab}{outs:List (Option ab)}{res:ab}(J:qV g xs ys) (gQ:bU P f ys outs res) (aW:gN P f=true) (a1:sl outs=true) [aq:cf res] :
  cJ P g (.call { callee:=.value (.func f),args:=xs.toArray,argTypes:=gm }) res:=.Tl gQ aW J a1 aq.bl
inductive u2 (P:Program) (g:aK):List ResultVar->List ab->Prop
 | nil:u2 P g [] []
 | f {t:Nat}{x:ab}{rs:List ResultVar}{xs:List ab}(h:g t=some x) (aW:l1 x=true) [aF:cf x] (aw:u2 P g rs xs):u2 P g (.tmp t::rs) (x::xs)
 | c {a:Nat}{t:TypeId}{z:Nat}{cs:List ab}{rs:List ResultVar}{xs:List ab}(h:g a=some (.obj cs)) (aw:iB P t z=true) (aX:cs.length=z) (aW:(0<z&&cs.all l1)=true) [aF:dp cs] (aq:u2 P g rs xs):u2 P g (.cell a t::rs) (.agg cs::xs)
theorem u2.spec {rs:List ResultVar}{xs:List ab}(h:u2 P g rs xs):rJ P g rs xs/\∀ x∈xs,cU x:=by
 induction h with
 | nil=>exact ⟨.nil,by simp⟩
 | @f t x rs xs h aW aF _ aU=>exact ⟨.cons (.tmp (Rd.f h aW)) aU.1,pQ aF.bl aU.2⟩
 | @c a t z cs rs xs h aw aX aW aF _ aU =>
  simp only [Bool.and_eq_true,decide_eq_true_eq] at aW;refine ⟨.cons ?_ aU.1,pQ (.agg aF.bl) aU.2⟩;have J:Own.bs g (.tmp a)=some (.ptr ⟨a,[]⟩ 0):=by
   cases cs with
   | nil=>simp at aX; omega
   | cons c cs=>simp [Own.bs,h,rr,gr]
  have:=c6.xM (P:=P) (ty:=t) (p:=⟨a,[]⟩) (n:=0) (z:=0) J aw (by simp only [bB,h,ab.at]) (.inr rfl) (show 0+z<=cs.length by omega);have hS:((cs.drop 0).take z).mapIdx (λi x=>gr 0 (Place.push ⟨a,[]⟩ (0+i)) x)=cs:=by
   rw [List.drop_zero,List.take_of_length_le (by omega)];exact Bp aW.2
  rw [hS] at this;exact .cell this
theorem Fin.rt {rs:List ResultVar}{xs:List ab}{res:ab}{outs:List (Option ab)}{n:Nat}(h:u2 P g rs xs) (he:qF xs=res) (a1:sl outs=true) (ak:outs.length=n):Fin P N rs n outs res .ret g :=
 ⟨.inr rfl,⟨xs,xs,g,h.spec.1,.bl h.spec.2,he.symm,λk x hk=>absurd hk (Fp a1 k x)⟩,ak⟩
end
def xS:Nat->List ab->List (Nat × ab)
 | _,[]=>[]
 | i,x::l=>(i,x)::xS (i+1) l
theorem MZ:∀ (l:List ab) (i t:Nat),get (xS i l) t=if i<=t then l[t - i]? else none
 | [],i,t=>by simp [xS,get]
 | x::l,i,t=>by
  simp only [xS,get];by_cases h:t=i
  ·subst h; simp
  ·rw [if_neg h,MZ l (i+1) t];by_cases h1:i+1<=t
   ·rw [if_pos h1,if_pos (by omega)];have:t - i=(t - (i+1))+1:=by omega
    rw [this,List.getElem?_cons_succ]
   ·rw [if_neg h1,if_neg (by omega)]
theorem RH (args:List ab):qa args=get (xS 0 args):=funext λt=>by rw [MZ]; simp [qa]
theorem bU.go {P:Program}{f:FuncId}{fn:Func}{c:Code}{args:List ab}{outs:List (Option ab)}{res:ab}{N:c5}(aW:P.funcs[f]?=some fn) (av:fn.body=some c) (bd:fn.ntmps=N.size) (aP:Nat.ble args.length N.size=true) (hlen:outs.length=args.length)
  (hw:W P N c (get (xS 0 args)) (Fin P N fn.results.toList args.length outs res)):bU P f args outs res :=
 .fin aW av bd aP hlen (by rw [RH]; exact hw)
end Go.Own
namespace Go.Own
open Go
section
variable {P:Program}{N:c5}{Φ oz:Exit->aK->Prop}{Ψ:aK->Prop}{G G1:List (Nat × ab)}{A B c:Code}{id k:Nat}{e:Exit}{S R:Type}
theorem jF.de (h:Trim true (get G) (get G1) G1):jF P N .skip G G1:=.skip h
inductive ij:aK->List (Nat × ab)->Prop
 | h3 {G:List (Nat × ab)}:ij (get G) G
 | eY {g g1:aK}{G:List (Nat × ab)}(h:kq g g1) (av:ij g1 G):ij g G
theorem ij.trans {g:aK}{G G1:List (Nat × ab)}(h:ij g G) (h1:ij (get G) G1):ij g G1:=by
 induction h with
 | h3=>exact h1
 | eY h _ aU=>exact .eY h (aU h1)
inductive AP (P:Program) (N:c5):aK->Exit->(Exit->aK->Prop)->Prop
 | h3 {g:aK}{e:Exit}{Φ:Exit->aK->Prop}(h:Φ e g):AP P N g e Φ
 | eY {g g1:aK}{e:Exit}{Φ:Exit->aK->Prop}(hw:kq g g1) (h:AP P N g1 e Φ):AP P N g e Φ
theorem W.outs {g:aK}(h:W P N c g Φ) (nQ:∀ e g',Φ e g'->AP P N g' e oz):W P N c g oz:=by
 intro a w I Fs Q bj bd dP;refine h bj bd λe g' ca w' au aF=>?_;have t_:=nQ e g' au;clear au nQ;revert aF
 induction t_ with
 | h3 h=>exact λaF=>dP _ _ _ _ h aF
 | eY hw _ aU =>
  intro aF;refine aU dP ?_;obtain ⟨h1,af,I',b7,dX,b0⟩:=aF;obtain ⟨i_,h',gF⟩:=dX.eY hw;exact ⟨h1,af,I',i_,h',b0.eT,b0.more,b0.new,λc ⟨t,aa⟩=>b0.own c ⟨t,gF t c aa⟩⟩
def aC (e:Exit) (Φ:Exit->aK->Prop) (G:List (Nat × ab)):Prop:=∀ g,ij g G->Φ e g
theorem W.be {g:aK}(h:W P N c (get G) Φ) (av:ij g G):W P N c g Φ:=by
 induction av with
 | h3=>exact h
 | eY hw _ aU=>exact (aU h).weaken hw
theorem pf.be {g:aK}(h:pf P N c (get G) Φ) (av:ij g G):pf P N c g Φ:=by
 induction av with
 | h3=>exact h
 | eY hw _ aU=>exact (aU h).weaken hw
theorem aC.bA (h:W P N B (get G) Φ):aC .normal (o5 (λg1=>W P N B g1 Φ) oz) G:=λ_ av=>Zf (h.be av)
theorem aC.fh (h:aC (.exit k) oz G):aC (.exit k) (o5 Ψ oz) G:=λg av=>Ze (h g av)
theorem aC.jj (h:aC .ret oz G):aC .ret (o5 Ψ oz) G:=λg av=>Zg (h g av)
theorem aC.b' (h:aC .normal Φ G):aC .normal (l_ id Φ) G:=λg av=>W5 (h g av)
theorem aC.ff (h:aC .normal Φ G):aC (.exit id) (l_ id Φ) G:=λg av=>W3 (h g av)
theorem aC.G7 (hk:Nat.beq k id=false) (h:aC (.exit k) Φ G):aC (.exit k) (l_ id Φ) G:=λg av=>W4 hk (h g av)
theorem aC.mS (h:aC .ret Φ G):aC .ret (l_ id Φ) G:=λg av=>W6 (h g av)
theorem W.fj (h:aC (.exit k) Φ G):W P N (.exit k) (get G) Φ:=W.exit (h _ .h3)
theorem W.de (h:aC .normal Φ G):W P N .skip (get G) Φ:=W.skip (h _ .h3)
theorem W.rt (h:aC .ret Φ G):W P N .ret (get G) Φ:=W.ret (h _ .h3)
theorem W.rx {id:Nat}{l:List Oper}(G1:List (Nat × ab)) (h:ar P N l.toArray l (get G) λg'=>kq g' (get G1)) (hk:aC .normal Φ G1):W P N (.region id l.toArray false) (get G) Φ :=
 W.Aw (λi hi=>by obtain ⟨g',h1,af⟩:=h i hi; exact ⟨g',h1,hk g' (.eY af .h3)⟩)
theorem W.dB {G1:List (Nat × ab)}(h:Trim true (get G) (get G1) G1) (hw:W P N c (get G1) Φ):W P N c (get G) Φ:=hw.weaken h.eY
theorem W.st {G:List (Nat × ab)}(G1:List (Nat × ab)) (h:W P N c (get G1) Φ) (e:G1=G:=by rfl):W P N c (get G) Φ:=by subst e; exact h
theorem W.b' (h:W P N c (get G) (l_ id Φ)):W P N (.block id c) (get G) Φ:=W.block h
theorem W.dF (G1:List (Nat × ab)) (h:W P N c (get G) λe g=>e=.normal/\ij g G1) (hk:aC .normal Φ G1):W P N c (get G) Φ :=
 h.mono λe g ⟨he,av⟩=>by subst he; exact hk g av
theorem aC.dF (h:Trim true (get G) (get G1) G1):aC .normal (λe g=>e=.normal/\ij g G1) G:=λ_ av=>⟨rfl,av.trans (.eY h.eY .h3)⟩
def k_ (G:S->List (Nat × ab)) (Ψ:R->Exit->aK->Prop):S ⊕ R->Exit->aK->Prop
 | .inl s,e,g=>e=.normal/\ij g (G s)
 | .inr r,e,g=>e≠.normal/\Ψ r e g
theorem pf.it {f:S->Option (S ⊕ R)}{G:S->List (Nat × ab)}{Ψ:R->Exit->aK->Prop}(av:∀ s o,f s=some o->W P N c (get (G s)) (k_ G Ψ o)) :
  ∀ (n:Nat) (s:S) (r:R),Own.iter f n s=some r->pf P N c (get (G s)) (Ψ r)
 | 0,_,_,h=>by simp [Own.iter] at h
 | n+1,s,r,h=>by
  simp only [Own.iter] at h;cases aW:f s with
  | none=>rw [aW] at h; cases h
  | some o =>
   rw [aW] at h;refine .step ((av s o aW).mono λe g' aq=>?_);cases o with
   | inl cT =>
    obtain ⟨rfl,hw⟩:=aq;exact (pf.it av n cT r h).be hw
   | inr dm =>
    cases h;obtain ⟨aF,hw⟩:=aq;cases e with
    | normal=>exact absurd rfl aF
    | _=>exact hw
theorem W.eQ {f:S->Option (S ⊕ R)}{s:S}{r:R}(G:S->List (Nat × ab)) (Ψ:R->Exit->aK->Prop) (h:b1 f s=some r) (av:∀ s o,f s=some o->W P N c (get (G s)) (k_ G Ψ o)) (hk:∀ e g,Ψ r e g->Φ e g):W P N (.loop c) (get (G s)) Φ :=
 (W.loop (pf.it av fuel s r h)).mono hk
theorem W.zM {f:S->Option (S ⊕ R)}{s:S}{r:R}(G:S->List (Nat × ab)) (id:Nat) (mh:R->List (Nat × ab)) (h:b1 f s=some r) (av:∀ s o,f s=some o->W P N c (get (G s)) (k_ G (λr e g=>e=.exit id/\ij g (mh r)) o)) (hk:aC (.exit id) Φ (mh r)):W P N (.loop c) (get (G s)) Φ :=
 .eQ G _ h av λe g ⟨he,aO⟩=>by subst he; exact hk g aO
theorem W.OR {hb:Type}{f:S->Option (S ⊕ (R ⊕ hb))}{s:S}{r:R ⊕ hb}(G:S->List (Nat × ab)) (id:Nat) (mh:R->List (Nat × ab)) (h8:hb->List (Nat × ab)) (h:b1 f s=some r)
  (av:∀ s o,f s=some o->W P N c (get (G s)) (k_ G (λ(r:R ⊕ hb) e g=>match r with | .inl r=>e=.exit id/\ij g (mh r) | .inr r=>e=.ret/\ij g (h8 r)) o))
  (J:∀ x,r=.inl x->aC (.exit id) Φ (mh x)) (aq:∀ x,r=.inr x->aC .ret Φ (h8 x)):W P N (.loop c) (get (G s)) Φ:=by
 refine .eQ G _ h av λe g h=>?_;cases r with
 | inl r=>obtain ⟨rfl,aO⟩:=h; exact J r rfl g aO
 | inr r=>obtain ⟨rfl,aO⟩:=h; exact aq r rfl g aO
theorem aC.go {s:S}{F:S->List (Nat × ab)}{Ψ:R->Exit->aK->Prop}(h:Trim true (get G) (get (F s)) (F s)):aC .normal (k_ F Ψ (.inl s)) G:=λ_ av=>⟨rfl,av.trans (.eY h.eY .h3)⟩
theorem aC.a8 {r:R}{F:S->List (Nat × ab)}{mh:R->List (Nat × ab)}(h:Trim true (get G) (get (mh r)) (mh r)):aC (.exit id) (k_ F (λr e g=>e=.exit id/\ij g (mh r)) (.inr r)) G:=λ_ av=>⟨by simp,rfl,av.trans (.eY h.eY .h3)⟩
theorem aC.x2 {hb:Type}{r:R}{F:S->List (Nat × ab)}{mh:R->List (Nat × ab)}{h8:hb->List (Nat × ab)}(h:Trim true (get G) (get (mh r)) (mh r)) :
  aC (.exit id) (k_ F (λ(r:R ⊕ hb) e g=>match r with | .inl r=>e=.exit id/\ij g (mh r) | .inr r=>e=.ret/\ij g (h8 r)) (.inr (.inl r))) G:=λ_ av=>⟨by simp,rfl,av.trans (.eY h.eY .h3)⟩
theorem aC.lu {hb:Type}{r:hb}{F:S->List (Nat × ab)}{mh:R->List (Nat × ab)}{h8:hb->List (Nat × ab)}(h:Trim true (get G) (get (h8 r)) (h8 r)) :
  aC .ret (k_ F (λ(r:R ⊕ hb) e g=>match r with | .inl r=>e=.exit id/\ij g (mh r) | .inr r=>e=.ret/\ij g (h8 r)) (.inr (.inr r))) G:=λ_ av=>⟨by simp,rfl,av.trans (.eY h.eY .h3)⟩
def p4 (P:Program) (N:c5) (rs:List ResultVar) (n:Nat) (outs:List (Option ab)) (res:ab) (e:Exit) (g:aK):Prop:=∃ G,ij g G/\Fin P N rs n outs res e (get G)
theorem W.fin {rs:List ResultVar}{n:Nat}{outs:List (Option ab)}{res:ab}{g:aK}(h:W P N c g (p4 P N rs n outs res)):W P N c g (Fin P N rs n outs res):=by
 have key:∀ e g,p4 P N rs n outs res e g->AP P N g e (Fin P N rs n outs res):=by
  rintro e g ⟨G,av,aW⟩
  induction av with
  | h3=>exact .h3 aW
  | eY hw _ aU=>exact .eY hw (aU aW)
 exact W.outs h key
theorem aC.fin {rs:List ResultVar}{n:Nat}{outs:List (Option ab)}{res:ab}(h:Fin P N rs n outs res e (get G)):aC e (p4 P N rs n outs res) G:=λ_ av=>⟨G,av,h⟩
end
end Go.Own
namespace Go.Own
open Go
section
variable {P:Program}{N:c5}{ops:Array Oper}{bf:List (List Nat)}{g0:aK}{K:aK->Prop}{l:List Oper}{acc:Acc}{d i:Nat}{op:Op}{ty:TypeId}{pos:String}{after:Array Edge}{x:ab}{gd:Option (Nat × Bool)}
abbrev jA (bf:List (List Nat)) (g0:aK) (j:Nat) (acc:Acc):aK:=dg g0 (λm=>(bf.getD j []).contains m) acc
def bz (P:Program) (N:c5) (ops:Array Oper) (bf:List (List Nat)) (g0:aK) (i:Nat) (acc:Acc) (l:List Oper) (K:aK->Prop):Prop:=∀ dU j,mO P N ops bf g0 i dU->iL P N ops bf g0 i dU j acc->ops.toList.drop j=l->∃ g',sx P N ops bf i dU g0 g'/\K g'
theorem zf {j bG:Nat}{o:Oper}(h:ops.toList.drop j=o::l) (ah:Nat.beq ops.size (bG+l.length+1)=true):j=bG:=by
 grind [List.length_cons,Nat.eq_of_beq_eq_true]
theorem Rp (aF:acc.all (λe=>!Nat.beq e.2.1 d)=true):∀ e∈acc,e.2.1≠d:=by
 intro e he h;have:=List.all_eq_true.1 aF e he
 simp_all
theorem bz.st (bG:Nat) {r:Option ab}{o:Oper}(aS:o.dst=some d) (aB:p' P (jA bf g0 bG acc) ops o r) (ah:Nat.beq ops.size (bG+l.length+1)=true) (aW:g0 d=none) (aF:acc.all (λe=>!Nat.beq e.2.1 d)=true) (bd:N.ok d=true)
  (hk:bz P N ops bf g0 i ((bG,d,r)::acc) l K):bz P N ops bf g0 i acc (o::l) K:=by
 intro dU j cn kT lh;have:=zf lh ah;subst this;obtain ⟨h1,af⟩:=drop_cons lh;exact hk dU (j+1) cn (.step kT h1 aS aW (Rp aF) bd aB) af
theorem bz.v (bG:Nat) (au:cg P (jA bf g0 bG acc) op ty x) (ah:Nat.beq ops.size (bG+l.length+1)=true) (aW:g0 d=none) (aF:acc.all (λe=>!Nat.beq e.2.1 d)=true) (bd:N.ok d=true) (aO:fr (jA bf g0 bG acc) ops gd)
  (hk:bz P N ops bf g0 i ((bG,d,some x)::acc) l K):bz P N ops bf g0 i acc (⟨some d,op,ty,pos,after,gd⟩::l) K :=
 .st bG (r:=some x) rfl (.inl ⟨aO.wanted,.inl au⟩) ah aW aF bd hk
theorem bz.c (bG:Nat) (au:cJ P (jA bf g0 bG acc) op x) (ah:Nat.beq ops.size (bG+l.length+1)=true) (aW:g0 d=none) (aF:acc.all (λe=>!Nat.beq e.2.1 d)=true) (bd:N.ok d=true) (aO:fr (jA bf g0 bG acc) ops gd)
  (hk:bz P N ops bf g0 i ((bG,d,some x)::acc) l K):bz P N ops bf g0 i acc (⟨some d,op,ty,pos,after,gd⟩::l) K :=
 .st bG (r:=some x) rfl (.inl ⟨aO.wanted,.inr au⟩) ah aW aF bd hk
theorem bz.ps (bG:Nat) {vG t':Nat}{b c:Bool}(h:(ops[vG]?).bind (·.dst)=some t') (aO:jA bf g0 bG acc t'=some (a_ c)) (av:c=!b) (ah:Nat.beq ops.size (bG+l.length+1)=true) (aW:g0 d=none) (aF:acc.all (λe=>!Nat.beq e.2.1 d)=true) (bd:N.ok d=true)
  (hk:bz P N ops bf g0 i ((bG,d,some (.bW []))::acc) l K):bz P N ops bf g0 i acc (⟨some d,op,ty,pos,after,some (vG,b)⟩::l) K :=
 .st bG (r:=some (.bW [])) rfl (.inr (.inl ⟨⟨t',h,.inl ⟨c,aO,by subst av; cases b <;> rfl⟩⟩,rfl⟩)) ah aW aF bd hk
theorem bz.pu (bG:Nat) {vG t':Nat}{b:Bool}(h:(ops[vG]?).bind (·.dst)=some t') (aO:jA bf g0 bG acc t'=some (.bW [])) (ah:Nat.beq ops.size (bG+l.length+1)=true) (aW:g0 d=none) (aF:acc.all (λe=>!Nat.beq e.2.1 d)=true) (bd:N.ok d=true)
  (hk:bz P N ops bf g0 i ((bG,d,some (.bW []))::acc) l K):bz P N ops bf g0 i acc (⟨some d,op,ty,pos,after,some (vG,b)⟩::l) K :=
 .st bG (r:=some (.bW [])) rfl (.inr (.inl ⟨⟨t',h,.inr ⟨aO,rfl⟩⟩,rfl⟩)) ah aW aF bd hk
def ma (G:List (Nat × ab)):Bool:=G.all λp=>match p.2 with | .bL ..=>false | _=>true
theorem vM {G:List (Nat × ab)}(h:ma G=true):∀ t z q n m new,get G t≠some (.bL z q n m new):=by
 induction G with
 | nil=>intro t z q n m new J; cases J
 | cons p G aU =>
  grind [ma,get]
theorem bz.fin {G G1:List (Nat × ab)}(aX:acc.filterMap j0=[]) (fH:ma G=true) (hi:Nat.ble i ops.size=true) (h:Trim true (dg (get G) (λ_=>true) acc) (get G1) G1):bz P N ops bf (get G) i acc [] λg'=>kq g' (get G1):=by
 intro dU j cn kT lh;have ah:j=ops.size:=by
  have h1:ops.size<=j:=by
   simp_all
  have aI:j<=ops.size:=by
   cases kT with
   | nil=>exact Nat.le_of_ble_eq_true hi
   | step _ a1=>have:=(Array.getElem?_eq_some_iff.1 a1).1; omega
  omega
 subst ah;exact ⟨_,.fin kT (by rw [aX]; exact List.nodup_nil) (vM fH),h.eY⟩
theorem sx.L1 {g g1 g':aK}{i j:Nat}{dU:Acc}{o:Oper}(cn:mO P N ops bf g i dU) (aB:iL P N ops bf g i dU j acc) (gR:(acc.filterMap j0).Nodup) (fH:∀ t z q n m new,g t≠some (.bL z q n m new)) (a1:ops[j]?=some o) (hw:iA (dg g (λ_=>true) acc) ops o true)
  (he:bm P N (dg g (λ_=>true) acc) o g1) (aP:(List.range j).all (λk=>(bf.getD j []).contains k)=true) (av:(List.range ops.size).all (λk=>decide (k<=j)||(bf.getD k []).contains j)=true) (aq:sx P N ops bf (j+1) [] g1 g'):sx P N ops bf i dU g g':=by
 have ev:∀ e∈acc,(bf.getD j []).contains e.1=true:=λe h=>List.all_eq_true.1 aP e.1 (List.mem_range.2 ((aB.le cn).2 e h));have e:dg g (λm=>(bf.getD j []).contains m) acc=dg g (λ_=>true) acc:=funext λt=>Dt λe h _=>ev e h;have f':[]=acc.filter λe=>!(bf.getD j []).contains e.1:=by
  grind [List.filter_eq_nil_iff]
 exact .wK (rs:=so []) aB gR fH a1 (by rw [e]; exact hw) (by rw [e]; exact he.ka.v) (λp au=>by simp [so] at au) f' (by simp) (by simp) (by simp) av aq
theorem W.rd {id:Nat}{l:List Oper}{G:List (Nat × ab)}{Φ:Exit->aK->Prop}(bf:List (List Nat)) (G1:List (Nat × ab)) (hm:P.follows .mixedOrders=true) (ev:ph l.toArray bf=true)
  (h:bz P N l.toArray bf (get G) 0 [] l λg'=>kq g' (get G1)) (hk:aC .normal Φ G1):W P N (.region id l.toArray true) (get G) Φ:=by
 obtain ⟨g',h1,af⟩:=h [] 0 .nil .nil (by simp);exact (gf.draw hm ev h1).w (hk g' (.eY af .h3))
end
end Go.Own
namespace Go.Own
open Go
variable {α:Type}
section
variable {P:Program}{N:c5}{ops:Array Oper}{g g2:aK}{K:aK->Prop}{l:List Oper}{d r:Nat}{ty t t2:TypeId}{pos:String}{after:Array Edge}{a b c:Operand}{k kX:IntKind}{m n:Int}{s u:ByteArray}
namespace O
theorem fE {e:TypeId}{z:Value}{cs:List ab}(aX:(P.info? e).bind (·.zero)=some z) (h1:z.cells.toList.all Value.oneCell'=true) (aa:z.cells.toList.map lR=cs):cg P g (.alloc e) ty (.obj cs):=by
 subst aa; exact .rk (.alloc aX (by rw [<- Array.all_toList]; exact h1))
theorem eo {t:TypeId}{parts:Array (Nat × Operand)}{pl:List (Nat × Nat)}{dI:Value}{ps:List (Nat × List ab)}{cs:List ab}(aw:kD P t pl=true) (aX:(P.info? t).bind (·.zero)=some dI) (h1:dI.cells.toList.all Value.oneCell'=true)
  (au:rl g parts.toList=some ps) (aa:u9 (λi=>pl[i]?) (dI.cells.toList.map lR) ps=some cs):cg P g (.build t parts) ty (.agg cs):=.CI (.build aw aX (by rw [<- Array.all_toList]; exact h1) au aa)
end O
inductive p_ (g g2:aK):ab->Prop
 | n {x:ab}(h:cU x):p_ g g2 x
 | p {r k:Nat}{cs cs2:List ab}(h:g r=some (.obj cs)) (hk:k<cs.length) (af:g2 r=some (.obj cs2)) (fW:k<cs2.length):p_ g g2 (.ptr ⟨r,[]⟩ k)
 | r {z n N Lp q:Nat}{cs cs2:List ab}(h:g q=some (.own z N cs)) (aF:n<=N) (af:g2 q=some (.own z Lp cs2)) (ob:n<=Lp):p_ g g2 (.a6 z ⟨q,[]⟩ n)
theorem uH {r k:Nat}{cs:List ab}(h:g r=some (.obj cs)) (hk:k<cs.length):gC g (.ptr ⟨r,[]⟩ k):=⟨.obj cs,by simp [bB,h,ab.at],0,0,cs,.inr rfl,hk⟩
theorem Au {z n N q:Nat}{cs:List ab}(h:g q=some (.own z N cs)) (aF:n<=N):gC g (.a6 z ⟨q,[]⟩ n):=.inl ⟨N,cs,by simp [bB,h,ab.at],aF⟩
theorem p_.bV {x:ab}(h:p_ g g2 x):dh g2 x:=by
 cases h with
 | n h=>exact .bl h
 | p _ _ af fW=>exact .ref rfl (uH af fW)
 | r _ _ af ob=>exact .ref rfl (Au af ob)
theorem p_.yh {x:ab}{Ar k0 m0:Nat}(h:p_ g g2 x):jo (λr=>gC g r/\Clear ⟨Ar,[]⟩ k0 m0 r/\gC g2 r) x:=by
 cases h with
 | n h=>exact .bl h
 | p h hk af fW =>
  refine .ref rfl ⟨uH h hk,?_,uH af fW⟩;intro q bg _ j dm e
  grind [Av]
 | r h hk af fW =>
  refine .ref rfl ⟨Au h hk,?_,Au af fW⟩;intro q bg _ j dm e
  grind [Av]
theorem p_.fx {x:ab}(h:p_ g g2 x):∀ z p n m new,x≠.bL z p n m new:=by
 rintro z p n m new rfl;cases h with
 | n h=>cases h
inductive k' (g g2:aK) (r:Nat) (cs2:List ab):List (Nat × ab)->Prop
 | nil:k' g g2 r cs2 []
 | n {s:Nat}{x:ab}{l:List (Nat × ab)}(dq:Nat.beq s r=false) (h:g s=some x) [aF:cf x] (t:k' g g2 r cs2 l):k' g g2 r cs2 ((s,x)::l)
 | p {s q k:Nat}{l:List (Nat × ab)}{cs kt:List ab}(dq:Nat.beq s r=false) (h:g s=some (.ptr ⟨q,[]⟩ k)) (h1:g q=some (.obj cs)) (hk:Nat.blt k cs.length=true) (af:g2 q=some (.obj kt)) (fW:Nat.blt k kt.length=true) (t:k' g g2 r cs2 l):k' g g2 r cs2 ((s,.ptr ⟨q,[]⟩ k)::l)
 | w {α:Type}{s q:Nat}{en:bK α}{L:List α}{l:List (Nat × ab)}(dq:Nat.beq s r=false) (h:g s=some (.a6 en.z ⟨q,[]⟩ L.length)) (h1:g q=some (aj en L)) (af:g2 q=some (aj en L)) (t:k' g g2 r cs2 l):k' g g2 r cs2 ((s,.a6 en.z ⟨q,[]⟩ L.length)::l)
 | b {l:List (Nat × ab)}{x:ab}(e:x=.obj cs2) [aF:dp cs2] (t:k' g g2 r cs2 l):k' g g2 r cs2 ((r,x)::l)
theorem k'.spec {cs2:List ab}{l:List (Nat × ab)}(h:k' g g2 r cs2 l):∀ t x,get l t=some x->(t≠r/\g t=some x/\p_ g g2 x)\/(t=r/\x=.obj cs2/\cU x):=by
 induction h with
 | nil=>intro t x J; cases J
 | @n s x l dq h aF _ aU =>
  intro t y ax;simp only [get] at ax
  split at ax
  ·rename_i e;subst e;cases ax;exact .inl ⟨Nat.ne_of_beq_eq_false dq,h,.n aF.bl⟩
  grind
 | @p s q k l cs kt dq h h1 hk af fW _ aU =>
  intro t y ax;simp only [get] at ax
  split at ax
  ·rename_i e;subst e;cases ax;exact .inl ⟨Nat.ne_of_beq_eq_false dq,h,.p h1 (by simpa using hk) af (by simpa using fW)⟩
  grind
 | @w α s q en L l dq h h1 af _ aU =>
  intro t y ax;simp only [get] at ax
  split at ax
  ·rename_i e;subst e;cases ax;exact .inl ⟨Nat.ne_of_beq_eq_false dq,h,.r h1 (Nat.le_refl _) af (Nat.le_refl _)⟩
  grind
 | @b l x e aF _ aU =>
  intro t y ax;simp only [get] at ax
  split at ax
  ·rename_i cj;subst cj;cases ax;subst e;exact .inr ⟨rfl,rfl,.obj aF.bl⟩
  grind
theorem bm.box {o:Oper}{k0:Nat}{cs cs' cs2:List ab}{y:ab}{G2:List (Nat × ab)}(a1:o.op=.store t a b) (aS:o.dst=none) (aB:g r=some (.obj cs)) (aP:Rd g a (.ptr ⟨r,[]⟩ k0)) (av:Rd g b y) (aF:cU y) (aa:oK y=some cs') (aX:hq P t cs'.length=true)
  (hk:k0+cs'.length<=cs.length) (aQ:0<cs'.length) (he:e5 cs k0 cs'=cs2) [e9:dp cs] (aq:get G2 r≠none) (c9:k' g (get G2) r cs2 G2):bm P N g o (get G2):=by
 subst he;have kf:g r≠none:=by rw [aB]; simp
 refine .store a1 aS aP.bs av.bs (.bl (by simpa using aF)) .refl aa aX (p:=⟨r,[]⟩) (nd:=.obj cs) (z:=0) (n:=0) (by simp [bB,aB,ab.at]) (.inr rfl) hk aQ (λt x J=>?_) (λt x J y ax=>?_) (λt z q n m new J=>?_) aq
 ·rcases c9.spec t x J with ⟨h1,af,_⟩ | ⟨h1,af,_⟩
  all_goals grind [cu,ab.setAt,ab.e5]
 ·rcases c9.spec t x J with ⟨h1,af,aI⟩ | ⟨h1,af,aI⟩
  ·rw [af] at ax;cases ax;exact aI.yh
  ·subst h1;rw [aB] at ax;cases ax;exact .bl (.obj e9.bl)
 ·rcases c9.spec t _ J with ⟨_,_,aI⟩ | ⟨_,af,_⟩
  ·exact aI.fx _ _ _ _ _ rfl
  grind
theorem Trim.q {GZ:Bool}{yn q k0:Nat}{cs:List ab}{OO:List (Nat × ab)}(h:g yn=some (.ptr ⟨q,[]⟩ k0)) (af:g2 q=some (.obj cs)) (hk:Nat.blt k0 cs.length=true) (hh:Trim GZ g g2 OO):Trim GZ g g2 ((yn,.ptr ⟨q,[]⟩ k0)::OO) :=
 .r h (.ref rfl (uH af (by simpa using hk))) (by simp) hh
theorem ar.kP {o:Oper}{G2:List (Nat × ab)}(aO:o.guard=none) (he:bm P N g o (get G2)) (hk:ar P N ops l (get G2) K):ar P N ops (o::l) g K:=by
 intro i hi;obtain ⟨h1,af⟩:=drop_cons hi;obtain ⟨g',aq,di⟩:=hk (i+1) af;refine ⟨g',.ka h1 ?_ he aq,di⟩
 grind [iA]
theorem ar.ji {k0:Nat}{cs cs' cs2:List ab}{y:ab}{G2:List (Nat × ab)}(aB:g r=some (.obj cs)) (aP:Rd g a (.ptr ⟨r,[]⟩ k0)) (av:Rd g b y) [aF:cf y] (aa:oK y=some cs') (aX:hq P t cs'.length=true)
  (hk:Nat.ble (k0+cs'.length) cs.length=true) (aQ:Nat.blt 0 cs'.length=true) (he:e5 cs k0 cs'=cs2) [e9:dp cs] (aq:(get G2 r).isSome=true) (c9:k' g (get G2) r cs2 G2) (ud:ar P N ops l (get G2) K):ar P N ops (⟨none,.store t a b,ty,pos,after,none⟩::l) g K :=
 .kP rfl (.box rfl rfl aB aP av aF.bl aa aX (Nat.le_of_ble_eq_true hk) (by simpa using aQ) he (by intro e; rw [e] at aq; cases aq) c9) ud
variable {bf:List (List Nat)}{acc:Acc}{i:Nat}
theorem bz.wK (bG:Nat) {G G2:List (Nat × ab)}{o:Oper}(he:bm P N (dg (get G) (λ_=>true) acc) o (get G2)) (aO:o.guard=none) (aX:acc.filterMap j0=[]) (fH:ma G=true) (ah:Nat.beq ops.size (bG+l.length+1)=true)
  (aP:(List.range bG).all (λk=>(bf.getD bG []).contains k)=true) (av:(List.range ops.size).all (λk=>Nat.ble k bG||(bf.getD k []).contains bG)=true) (hk:bz P N ops bf (get G2) (bG+1) [] l K):bz P N ops bf (get G) i acc (o::l) K:=by
 intro dU j cn kT lh;have:=zf lh ah;subst this;obtain ⟨h1,af⟩:=drop_cons lh;obtain ⟨g',aq,di⟩:=hk [] (j+1) .nil .nil af;refine ⟨g',.L1 cn kT (by rw [aX]; exact List.nodup_nil) (vM fH) h1 ?_ he aP ?_ aq,di⟩
 ·grind [iA]
 simp_all
theorem bz.ji (bG:Nat) {G:List (Nat × ab)}{k0:Nat}{cs cs' cs2:List ab}{y:ab}{G2:List (Nat × ab)}(ah:Nat.beq ops.size (bG+l.length+1)=true) (w7:(List.range bG).all (λk=>(bf.getD bG []).contains k)=true) (Ex:(List.range ops.size).all (λk=>Nat.ble k bG||(bf.getD k []).contains bG)=true) (Jn:acc.filterMap j0=[]) (fH:ma G=true)
  (aB:dg (get G) (λ_=>true) acc r=some (.obj cs)) (aP:Rd (dg (get G) (λ_=>true) acc) a (.ptr ⟨r,[]⟩ k0)) (av:Rd (dg (get G) (λ_=>true) acc) b y) [aF:cf y] (aa:oK y=some cs') (aX:hq P t cs'.length=true)
  (hk:Nat.ble (k0+cs'.length) cs.length=true) (aQ:Nat.blt 0 cs'.length=true) (he:e5 cs k0 cs'=cs2) [e9:dp cs] (aq:(get G2 r).isSome=true) (c9:k' (dg (get G) (λ_=>true) acc) (get G2) r cs2 G2) (ud:bz P N ops bf (get G2) (bG+1) [] l K):bz P N ops bf (get G) i acc (⟨none,.store t a b,ty,pos,after,none⟩::l) K :=
 .wK bG (.box rfl rfl aB aP av aF.bl aa aX (Nat.le_of_ble_eq_true hk) (by simpa using aQ) he (by intro e; rw [e] at aq; cases aq) c9) rfl Jn fH ah w7 Ex ud
end
end Go.Own
namespace Go.Own
open Go
variable {α β:Type}
def nk (m:Int) (z:α):Option (List α):=if 0<=m/\m<=lim then some (List.replicate m.toNat z) else none
def c' (l m:List α):Option (List α):=if l.length+m.length<=lim then some (l++m) else none
class Flat (e:bK α):Prop where sF:∀ a,(e.cells a).all l1=true
instance:Flat ai:=⟨λ_=>rfl⟩
instance:Flat qe:=⟨λ_=>rfl⟩
instance:Flat cp:=⟨λ_=>rfl⟩
instance:Flat dv:=⟨λ_=>rfl⟩
instance {e:bK α}:Flat (br e):=⟨λ_=>rfl⟩
theorem Yn (e:bK α) [h:Flat e] (l:List α):(bo e l).all l1=true:=by
 refine List.all_eq_true.2 λx J=>?_;obtain ⟨a,_,aP⟩:=List.mem_flatMap.1 J;exact List.all_eq_true.1 (h.sF a) x aP
theorem mE (e:bK α) (l m:List α):(.own e.z (l.length+m.length) (bo e l++bo e m):ab)=aj e (l++m):=by
 grind [FQ]
theorem yj (e:bK α) (l:List α):(bo e l).take (l.length * e.z)=bo e l:=by grind [nq]
theorem PL:∀ L:List Int,bo qe L=L.map λb=>.lit (.int .u8 b)
 | []=>rfl
 | x::L=>by
  have:bo qe (x::L)=qZ x::bo qe L:=rfl;rw [this,List.map_cons,PL L]
section
variable {P:Program}{N:c5}{ops:Array Oper}{g g1 g2:aK}{K:aK->Prop}{l:List Oper}{d r:Nat}{ty t t2:TypeId}{pos:String}{after:Array Edge}{gd:Option (Nat × Bool)}{a b c:Operand}{k kX:IntKind}{m n:Int}{s u:ByteArray}{p q:Place}
namespace O
theorem df {e dx:Nat}{parts:Array (Nat × Operand)}{ys:List ab}(en:bK α) (L:List α) (aw:fo P t e en.z=true) (J:gl g (parts.toList.map (·.2))=some ys) (aa:mn ys=some (bo en L)) (aX:ys.all (λy=>match jR y with | some c=>Nat.beq c.length en.z | none=>false)=true)
  (au:parts.toList=(parts.toList.map (·.2)).mapIdx (λi x=>(i,x))) (aF:(parts.toList.map (·.2)).length=dx) (ak:L.length=dx) (hzero:ih P e en.z=true) (av:Nat.ble (dx * en.z) 16777216=true) (gW:Nat.ble dx 16777216=true):cg P g (.buildSlice t dx parts) ty (aj en L):=by
 subst aF;have:=p7.buildSlice (P:=P) (ty:=ty) aw au J (λy ax=>by
  grind [Nat.eq_of_beq_eq_true]) aa (Nat.le_of_ble_eq_true av) (Nat.le_of_ble_eq_true gW) (.inr (K8 hzero))
 unfold aj;rw [ak];exact .rk this
theorem mD {z bC n:Nat}{e:TypeId}(J:Rd g a (.a6 z p n)) (aw:fo P t e bC=true):cg P g (.call { callee:=.builtin .len,args:=#[a],argTypes:=#[t] }) ty (ae n):=.eX (.Cq J.bs aw)
theorem gi {en:bK α}{L:List α}{y:α}{e:TypeId}(au:bB g p=some (aj en L)) (J:Rd g a (.a6 en.z p L.length)) (hi:Rd g b (.lit (.int k m))) (aw:fo P t e en.z=true) (h:idx L m=some y) (aX:Nat.blt 0 en.z=true):cg P g (.indexAddr t a b) ty (.ptr p (m.toNat * en.z+0)):=by
 obtain ⟨aQ,h1,_⟩:=pM h;obtain ⟨j,rfl⟩:=Int.eq_ofNat_of_zero_le aQ;have Oy:0<en.z:=by simpa using aX
 have ah:j<L.length:=by omega
 refine .eX (.E0 J.bs hi.bs aw ah ⟨_,au,_,_,_,.inl rfl,?_⟩)
 simp_all [nq]
theorem Yi {en:bK α}{L:List α}{y:α}{o:Nat}(h:idx L m=some y) (a1:o<en.z):m.toNat * en.z+o<(bo en L).length:=by
 obtain ⟨aQ,h1,_⟩:=pM h;rw [nq];have af:m.toNat+1<=L.length:=by omega
 calc m.toNat * en.z+o<m.toNat * en.z+en.z:=by omega
  _=(m.toNat+1) * en.z:=by rw [Nat.add_mul]; omega
  _<=L.length * en.z:=Nat.mul_le_mul_right _ af
theorem kb {en:bK α}{L:List α}{y:α}{cT f off o gj:Nat}(au:bB g p=some (aj en L)) (J:Rd g a (.ptr p (m.toNat * en.z+o))) (aW:hR P cT f off t=true) (h:idx L m=some y) (a1:o+off=gj) (aT:Nat.blt gj en.z=true):cg P g (.fieldAddr cT a f) ty (.ptr p (m.toNat * en.z+gj)):=by
 subst a1;rw [<- Nat.add_assoc];refine .eX (.Bn J.bs aW ⟨_,au,_,_,_,.inl rfl,?_⟩)
 simp_all [Nat.add_assoc,Yi]
theorem u4 {en:bK α}{L:List α}{y:α}{o:Nat}{x:ab}(au:bB g p=some (aj en L)) (h:idx L m=some y) (aa:(en.cells y)[o]?=some x):bB g (p.push (m.toNat * en.z+o))=some x:=by
 rw [tC,au];exact Ku en h aa
theorem iS {en:bK α}{L:List α}{y:α}{o:Nat}{x x':ab}(au:bB g p=some (aj en L)) (J:Rd g a (.ptr p (m.toNat * en.z+o))) (aw:jt P t=true) (h:idx L m=some y) (aa:(en.cells y)[o]?=some x) (aq:gr 0 (p.push (m.toNat * en.z+o)) x=x'):cg P g (.load t a) ty x':=by
 subst aq;exact .eX (.Cu J.bs aw (u4 au h aa))
theorem Xd {en:bK α}{L:List α}{y:α}{o z:Nat}{cs':List ab}(au:bB g p=some (aj en L)) (J:Rd g a (.ptr p (m.toNat * en.z+o))) (aw:iB P t z=true) (h:idx L m=some y) (aX:Nat.ble (o+z) en.z=true)
  (aa:(((en.cells y).drop o).take z).mapIdx (λi x=>gr 0 (p.push (m.toNat * en.z+o+i)) x)=cs'):cg P g (.load t a) ty (.agg cs'):=by
 have Oy:=Nat.le_of_ble_eq_true aX;have lh:((bo en L).drop (m.toNat * en.z+o)).take z=((en.cells y).drop o).take z:=by
  rw [<- List.drop_drop,Kv en h,List.drop_append_of_le_length (by rw [en.len]; omega),List.take_append_of_le_length (by rw [List.length_drop,en.len]; omega)]
 subst aa;rw [<- lh];refine .eX (.xM J.bs aw au (.inl rfl) ?_);obtain ⟨aQ,h1,_⟩:=pM h;rw [nq];have af:m.toNat+1<=L.length:=by omega
 calc m.toNat * en.z+o+z<=m.toNat * en.z+en.z:=by omega
  _=(m.toNat+1) * en.z:=by rw [Nat.add_mul]; omega
  _<=L.length * en.z:=Nat.mul_le_mul_right _ af
end O
class qU (g:aK):Prop where fx:∀ t z q n m new,g t≠some (.bL z q n m new)
class nv (x:ab):Prop where fx:∀ z q n m new,x≠.bL z q n m new
instance {x:ab} [h:cf x]:nv x:=⟨by rintro z q n m new rfl; cases h.bl⟩
instance {p:Place}{k:Nat}:nv (.ptr p k):=⟨by simp⟩
instance {p:Place}{z n:Nat}:nv (.a6 z p n):=⟨by simp⟩
instance {p:Place}{z lo n:Nat}:nv (.sub z p lo n):=⟨by simp⟩
instance {cs:List ab}:nv (.agg cs):=⟨by simp⟩
instance {cs:List ab}:nv (.bW cs):=⟨by simp⟩
instance {cs:List ab}:nv (.obj cs):=⟨by simp⟩
instance {g:aK}{d:Nat}{x:ab} [h:qU g] [J:nv x]:qU (cV g d x):=⟨λt z q n m new e=>by
 unfold cV at e
 split at e
 ·cases e; exact J.fx _ _ _ _ _ rfl
 ·exact h.fx _ _ _ _ _ _ e⟩
instance:qU (get []):=⟨λ_ _ _ _ _ _ e=>by cases e⟩
instance {t:Nat}{x:ab}{G:List (Nat × ab)} [J:nv x] [h:qU (get G)]:qU (get ((t,x)::G)):=⟨λs z q n m new e=>by
 simp only [get] at e
 split at e
 ·cases e; exact J.fx _ _ _ _ _ rfl
 ·exact h.fx _ _ _ _ _ _ e⟩
class DT (acc:Acc):Prop where fx:∀ e∈acc,∀ z q n m new,e.2.2≠some (.bL z q n m new)
instance:DT []:=⟨by simp⟩
instance {j d:Nat}{x:ab}{acc:Acc} [J:nv x] [h:DT acc]:DT ((j,d,some x)::acc):=⟨λe he z q n m new bY=>by
 rcases List.mem_cons.1 he with rfl | he
 ·exact J.fx z q n m new (Option.some.inj bY)
 ·exact h.fx e he z q n m new bY⟩
instance {G:List (Nat × ab)}{A:Nat->Bool}{acc:Acc} [aO:qU (get G)] [h:DT acc]:qU (dg (get G) A acc):=⟨λt z q n m new e=>by
 rcases uQ e with ⟨cj,he,_,_,af⟩ | ⟨_,af⟩
 ·exact h.fx cj he _ _ _ _ _ af
 ·exact aO.fx _ _ _ _ _ _ af⟩
theorem y4 {L M:List α}{r:List α}{b:Nat}(h:c' L M=some r) (av:Nat.ble b 128=true):L.length+M.length<=4611686018427387904/\(L.length+M.length) * b<=140737488355328/\r=L++M:=by
 unfold c' at h
 split at h
 ·rename_i ak;have l2:=Nat.le_of_ble_eq_true av;have sQ:lim=1099511627776:=rfl;refine ⟨by omega,?_,(Option.some.inj h).symm⟩
  calc (L.length+M.length) * b<=1099511627776 * 128:=Nat.mul_le_mul ak l2
   _=140737488355328:=by decide
 ·cases h
inductive n2 (g:aK) (en:bK α):ab->List α->Prop
 | i {M:List α}:n2 g en (.bk en.z M.length (bo en M)) M
 | n:n2 g en .aL []
 | o {q:Place}{M:List α}(bg:bB g q=some (aj en M)) (aW:(bo en M).all l1=true):n2 g en (.a6 en.z q M.length) M
theorem n2.src {en:bK α}{y:ab}{M:List α}(h:n2 g en y M):Src g y en.z M.length (bo en M):=by
 cases h with
 | i=>exact .bk
 | n=>exact .aL
 | o bg aW =>
  have:=Src.a6 (g:=g) (m:=M.length) bg (Nat.le_refl _)
  simp_all [yj,Bp]
theorem n2.flat (en:bK α) [Flat en] {q:Place}{M:List α}(bg:bB g q=some (aj en M)):n2 g en (.a6 en.z q M.length) M:=.o bg (Yn en M)
namespace O
theorem ap {en:bK α}{L M r:List α}{y:ab}{e gM:Nat}(aB:Rd g a (.a6 en.z p L.length)) (au:bB g p=some (aj en L)) (J:Rd g b y) (hm:n2 g en y M) (aw:jG P t e en.z gM=true) (av:Nat.ble gM 128=true) (h:c' L M=some r) [e9:qU g] :
  cg P g (.call { callee:=.builtin .append,args:=#[a,b],argTypes:=#[t,t] }) ty (.bL en.z p L.length M.length (bo en M)):=by
 obtain ⟨h1,af,_⟩:=y4 h av;exact .lS (.grow aB.bs (.inl ⟨_,au⟩) (λt bC cG m' c3 e=>e9.fx _ _ _ _ _ _ e) J.bs hm.src aw h1 af)
theorem RE {en:bK α}{M r:List α}{y:ab}{e gM:Nat}(aB:Rd g a .aL) (J:Rd g b y) (hm:n2 g en y M) (aw:jG P t e en.z gM=true) (av:Nat.ble gM 128=true) (h:c' [] M=some r) :
  cg P g (.call { callee:=.builtin .append,args:=#[a,b],argTypes:=#[t,t] }) ty (aj en M):=by
 obtain ⟨h1,af,_⟩:=y4 h av;simp only [List.length_nil,Nat.zero_add] at h1 af;exact .lS (.nil aB.bs J.bs hm.src aw h1 af)
end O
inductive mQ (ex:List Nat) (g g2:aK):List (Nat × ab)->Prop
 | nil:mQ ex g g2 []
 | n {s:Nat}{x:ab}{l:List (Nat × ab)}(dq:ex.elem s=false) (h:g s=some x) [aF:cf x] (t:mQ ex g g2 l):mQ ex g g2 ((s,x)::l)
 | p {s q k:Nat}{l:List (Nat × ab)}{kt:List ab}(dq:ex.elem s=false) (h:g s=some (.ptr ⟨q,[]⟩ k)) (af:g2 q=some (.obj kt)) (fW:Nat.blt k kt.length=true) (t:mQ ex g g2 l):mQ ex g g2 ((s,.ptr ⟨q,[]⟩ k)::l)
 | w {α:Type}{s q:Nat}{en:bK α}{L:List α}{l:List (Nat × ab)}(dq:ex.elem s=false) (h:g s=some (.a6 en.z ⟨q,[]⟩ L.length)) (af:g2 q=some (aj en L)) (t:mQ ex g g2 l):mQ ex g g2 ((s,.a6 en.z ⟨q,[]⟩ L.length)::l)
theorem mQ.spec {ex:List Nat}{l:List (Nat × ab)}(h:mQ ex g g2 l):∀ t x,get l t=some x->ex.elem t=false/\g t=some x/\dh g2 x/\∀ z p n m new,x≠.bL z p n m new:=by
 induction h with
 | nil=>intro t x J; cases J
 | @n s x l dq h aF _ aU =>
  intro t y ax;simp only [get] at ax
  split at ax
  ·rename_i e;subst e;cases ax;exact ⟨dq,h,.bl aF.bl,by rintro z p n m new rfl; cases aF.bl⟩
  grind
 | @p s q k l kt dq h af fW _ aU =>
  intro t y ax;simp only [get] at ax
  split at ax
  ·rename_i e;subst e;cases ax;exact ⟨dq,h,.ref rfl (uH af (by simpa using fW)),by simp⟩
  grind
 | @w α s q en L l dq h af _ aU =>
  intro t y ax;simp only [get] at ax
  split at ax
  ·rename_i e;subst e;cases ax;exact ⟨dq,h,.ref rfl (.inl ⟨_,_,(by simp [bB,af,ab.at]:bB g2 ⟨q,[]⟩=some (aj en L)),Nat.le_refl _⟩),by simp⟩
  grind
theorem mQ.keep {ex:List Nat}{G2:List (Nat × ab)}(h:mQ ex g (get G2) G2) (aO:∀ t,ex.elem t=false->g1 t=g t):hG g1 (get G2) :=
 ⟨λt x J=>by obtain ⟨h1,af,_⟩:=h.spec t x J; rw [aO t h1]; exact af,λt x J=>(h.spec t x J).2.2.1,λt z q n m new J=>(h.spec t _ J).2.2.2 _ _ _ _ _ rfl⟩
theorem Take.row {en:bK α}{L:List α}(au:bB g p=some (aj en L)):Take g [.a6 en.z p L.length] [aj en L] (cu g p .dead):=by
 have h1:Take (cu g p .dead) ((bo en L).take (L.length * en.z)) (bo en L) (cu g p .dead):=by
  rw [yj]; exact .bl (pU en L)
 exact .a6 au (Nat.le_refl _) h1 (.bl (by simp))
theorem Take.Yk {en:bK α}{L M:List α}{s:Nat}(aB:g s=some (.bL en.z q L.length M.length (bo en M))) (au:bB g q=some (aj en L)) (bg:q.root≠s):Take g [.a6 en.z ⟨s,[]⟩ (L.length+M.length)] [aj en (L++M)] (cu (cu g ⟨s,[]⟩ .dead) q .dead):=by
 rw [<- mE];exact .bL aB au bg (.bl λx J=>(List.mem_append.1 J).elim (pU en L x) (pU en M x)) (.bl (by simp))
theorem Take.Yl {en:bK α}{L M M2:List α}{s s2:Nat}(aB:g s=some (.bL en.z ⟨s2,[]⟩ (L.length+M2.length) M.length (bo en M))) (ll:g s2=some (.bL en.z q L.length M2.length (bo en M2))) (au:bB g q=some (aj en L)) (bg:q.root≠s) (uh:q.root≠s2) (B4:s≠s2) :
  Take g [.a6 en.z ⟨s,[]⟩ (L.length+M2.length+M.length)] [aj en (L++M2++M)] (cu (cu (cu g ⟨s,[]⟩ .dead) ⟨s2,[]⟩ .dead) q .dead):=by
 have:=Take.Fy (g:=g) (xs:=[]) (xs':=[]) aB ll rfl au bg uh B4 (.bl (xs:=bo en L++bo en M2++bo en M) λx J=>by
  grind [pU]) (.bl (by simp))
 grind [FQ]
theorem wj {t:Nat}{y:ab}(h:t≠p.root):cu g p y t=g t:=by
 grind [cu]
theorem zg {ex:List Nat}{t s:Nat}(h:ex.elem t=false) (aB:ex.elem s=true):t≠s:=by
 grind
theorem bm.y3 {o:Oper}{en:bK α}{L:List α}{x:Operand}{G2:List (Nat × ab)}(a1:o.op=.assign x) (aS:o.dst=some d) (J:Rd g x (.a6 en.z p L.length)) (au:bB g p=some (aj en L)) (c9:mQ [p.root] g (get G2) G2) (aO:get G2 d=none) (bd:N.ok d=true):bm P N g o (cV (get G2) d (aj en L)) :=
 .assign a1 aS J.bs (.row au) .refl (c9.keep λt aw=>wj (zg aw (by simp))) aO bd
theorem bm.LC {o:Oper}{en:bK α}{L M:List α}{s:Nat}{x:Operand}{G2:List (Nat × ab)}(a1:o.op=.assign x) (aS:o.dst=some d) (J:Rd g x (.a6 en.z ⟨s,[]⟩ (L.length+M.length))) (aB:g s=some (.bL en.z q L.length M.length (bo en M))) (au:bB g q=some (aj en L)) (bg:Nat.beq q.root s=false)
  (c9:mQ [s,q.root] g (get G2) G2) (aO:get G2 d=none) (bd:N.ok d=true):bm P N g o (cV (get G2) d (aj en (L++M))) :=
 .assign a1 aS J.bs (.Yk aB au (Nat.ne_of_beq_eq_false bg)) .refl (c9.keep λt aw=>by rw [wj (zg aw (by simp)),wj (zg aw (by simp))]) aO bd
theorem bm.Ro {o:Oper}{en:bK α}{L M M2:List α}{s s2:Nat}{x:Operand}{G2:List (Nat × ab)}(a1:o.op=.assign x) (aS:o.dst=some d) (J:Rd g x (.a6 en.z ⟨s,[]⟩ (L.length+M2.length+M.length))) (aB:g s=some (.bL en.z ⟨s2,[]⟩ (L.length+M2.length) M.length (bo en M)))
  (ll:g s2=some (.bL en.z q L.length M2.length (bo en M2))) (au:bB g q=some (aj en L)) (bg:Nat.beq q.root s=false) (uh:Nat.beq q.root s2=false) (B4:Nat.beq s s2=false)
  (c9:mQ [s,s2,q.root] g (get G2) G2) (aO:get G2 d=none) (bd:N.ok d=true):bm P N g o (cV (get G2) d (aj en (L++M2++M))) :=
 .assign a1 aS J.bs (.Yl aB ll au (Nat.ne_of_beq_eq_false bg) (Nat.ne_of_beq_eq_false uh) (Nat.ne_of_beq_eq_false B4)) .refl (c9.keep λt aw=>by rw [wj (zg aw (by simp)),wj (zg aw (by simp)),wj (zg aw (by simp))]) aO bd
theorem ar.q6 {o:Oper}{x:ab}{G2:List (Nat × ab)}(aO:o.guard=none) (he:bm P N g o (cV (get G2) d x)) (hk:ar P N ops l (cV (get G2) d x) K):ar P N ops (o::l) g K:=by
 intro i hi;obtain ⟨h1,af⟩:=drop_cons hi;obtain ⟨g',aq,di⟩:=hk (i+1) af;refine ⟨g',.ka h1 ?_ he aq,di⟩
 grind [iA]
theorem sG {x:ab}{G:List (Nat × ab)}:cV (get G) d x=get ((d,x)::G):=by
 grind [cV,get]
variable {bf:List (List Nat)}{acc:Acc}{i:Nat}
inductive A2 (P:Program):aK->List ResultVar->List ab->List ab->aK->Prop
 | nil {g:aK}:A2 P g [] [] [] g
 | f {g g':aK}{t:Nat}{x:ab}{rs:List ResultVar}{ys xs:List ab}(h:g t=some x) (aW:l1 x=true) [aF:cf x] (aw:A2 P g rs ys xs g'):A2 P g (.tmp t::rs) (x::ys) (x::xs) g'
 | o {g g':aK}{t:Nat}{en:bK α}{L:List α}{rs:List ResultVar}{ys xs:List ab}(h:g t=some (aj en L)) (aw:A2 P (cu g ⟨t,[]⟩ .dead) rs ys xs g'):A2 P g (.tmp t::rs) (.a6 en.z ⟨t,[]⟩ L.length::ys) (aj en L::xs) g'
end
end Go.Own
namespace Go.Own
open Go
variable {α β:Type}
section
variable {P:Program}{N:c5}{ops:Array Oper}{g g' g1 g2:aK}{K:aK->Prop}{l:List Oper}{d r:Nat}{ty t t2:TypeId}{pos:String}{after:Array Edge}{a b c:Operand}{p q:Place}{e:Exit}
inductive nx (s:Nat):aK->Nat->List ab->List ab->aK->Prop
 | nil {g:aK}{i:Nat}:nx s g i [] [] g
 | f {g g':aK}{i:Nat}{x:ab}{ys xs:List ab}(aW:l1 x=true) [aF:cf x] (aw:nx s g (i+1) ys xs g'):nx s g i (x::ys) (x::xs) g'
 | o {α:Type}{g g':aK}{i:Nat}{en:bK α}{L:List α}{ys xs:List ab}(au:bB g ⟨s,[i]⟩=some (aj en L)) (aw:nx s (cu g ⟨s,[i]⟩ .dead) (i+1) ys xs g'):nx s g i (.a6 en.z ⟨s,[i]⟩ L.length::ys) (aj en L::xs) g'
theorem nx.take {s i:Nat}{ys xs:List ab}(h:nx s g i ys xs g'):Take g ys xs g':=by
 induction h with
 | nil=>exact .bl (by simp)
 | @f g g' i x ys xs aW aF _ aU=>exact .cons aF.bl aU
 | @o α g g' i en L ys xs au _ aU =>
  refine .a6 au (Nat.le_refl _) ?_ aU;rw [yj]; exact .bl (pU en L)
inductive j6 (P:Program):aK->List ResultVar->List ab->List ab->aK->Prop
 | nil {g:aK}:j6 P g [] [] [] g
 | f {g g':aK}{t:Nat}{x:ab}{rs:List ResultVar}{ys xs:List ab}(h:g t=some x) (aW:l1 x=true) [aF:cf x] (aw:j6 P g rs ys xs g'):j6 P g (.tmp t::rs) (x::ys) (x::xs) g'
 | o {α:Type}{g g':aK}{t:Nat}{en:bK α}{L:List α}{rs:List ResultVar}{ys xs:List ab}(h:g t=some (aj en L)) (aw:j6 P (cu g ⟨t,[]⟩ .dead) rs ys xs g'):j6 P g (.tmp t::rs) (.a6 en.z ⟨t,[]⟩ L.length::ys) (aj en L::xs) g'
 | c {g g' w3:aK}{t z:Nat}{ty:TypeId}{cs ys0:List ab}{rs:List ResultVar}{ys xs:List ab}(h:g t=some (.obj cs)) (aw:iB P ty z=true) (aX:cs.length=z) (aQ:Nat.blt 0 z=true) (ax:(cs.mapIdx λi x=>gr 0 ⟨t,[i]⟩ x)=ys0) (hk:nx t g 0 ys0 cs w3) (aq:j6 P w3 rs ys xs g'):j6 P g (.cell t ty::rs) (.agg ys0::ys) (.agg cs::xs) g'
def yH (g0 g:aK):Prop:=∀ t x,g t=some x->(l1 x=true\/(∃ z n cs,x=.own z n cs))->g0 t=some x
theorem yH.set {g0:aK}{t:Nat}{pp:List Nat}(h:yH g0 g) (a1:pp=[]\/∃ cs,g t=some (.obj cs)):yH g0 (cu g ⟨t,pp⟩ .dead):=by
 intro s x J aW;unfold cu at J
 split at J
 ·rename_i aB;simp only at aB J;subst aB;exfalso;cases aO:g s with
  | none=>rw [aO] at J; cases J
  | some y =>
   rw [aO] at J;simp only [Option.map_some,Option.some.injEq] at J;rcases a1 with rfl | ⟨cs,aa⟩
   ·simp only [ab.setAt] at J;subst J;rcases aW with aW | ⟨_,_,_,aW⟩ <;> cases aW
   ·rw [aO] at aa;cases aa;have:∃ cs',x=.obj cs':=by
     subst J;cases pp with
     | nil=>simp only [ab.setAt] at aW; rcases aW with aW | ⟨_,_,_,aW⟩ <;> cases aW
     | cons k pp =>
      simp only [ab.setAt,ab.kids];split
      ·exact ⟨_,rfl⟩
      ·exact ⟨_,rfl⟩
    obtain ⟨cs',rfl⟩:=this;rcases aW with aW | ⟨_,_,_,aW⟩ <;> cases aW
 ·exact h s x J aW
theorem nx.Tc {g0:aK}{s i:Nat}{ys xs:List ab}(h:nx s g i ys xs g'):(∃ cs,g s=some (.obj cs))->yH g0 g->yH g0 g':=by
 induction h with
 | nil=>exact λ_ h=>h
 | f _ _ aU=>exact aU
 | @o α g g' i en L ys xs au _ aU =>
  intro a1 aS;refine aU ?_ (aS.set (.inr a1));obtain ⟨cs,aa⟩:=a1;unfold cu;simp only [if_pos,aa,Option.map_some,ab.setAt,ab.kids];split
  ·exact ⟨_,rfl⟩
  ·exact ⟨_,rfl⟩
theorem nx.out {s i:Nat}{ys xs:List ab}(h:nx s g i ys xs g'):∀ t,t≠s->g' t=g t:=by
 induction h with
 | nil=>exact λ_ _=>rfl
 | f _ _ aU=>exact aU
 | o _ _ aU=>exact λt aw=>by rw [aU t aw,wj aw]
theorem j6.take {rs:List ResultVar}{ys xs:List ab}(h:j6 P g rs ys xs g'):Take g ys xs g':=by
 induction h with
 | nil=>exact .bl (by simp)
 | @f g g' t x rs ys xs h aW aF _ aU=>exact .cons aF.bl aU
 | @o α g g' t en L rs ys xs h _ aU =>
  have au:bB g ⟨t,[]⟩=some (aj en L):=by simp [bB,h,ab.at]
  refine .a6 au (Nat.le_refl _) ?_ aU;rw [yj]; exact .bl (pU en L)
 | @c g g' w3 t z ty cs ys0 rs ys xs h aw aX aQ ax hk _ aU=>exact .agg hk.take aU
theorem j6.vs {rs:List ResultVar}{ys xs:List ab}(h:j6 P g rs ys xs g'):∀ g0:aK,yH g0 g->(∀ t ty,ResultVar.cell t ty∈rs->∀ cs,g t=some (.obj cs)->g0 t=some (.obj cs))->(rs.filterMap fun | .cell t _=>some t | _=>none).Nodup->rJ P g0 rs ys:=by
 induction h with
 | nil=>exact λ_ _ _ _=>.nil
 | @f g g' t x rs ys xs h aW aF _ aU =>
  intro g0 aS av fm;exact .cons (.tmp (Rd.f (aS t x h (.inl aW)) aW)) (aU g0 aS (λt ty hm=>av t ty (List.mem_cons_of_mem _ hm)) (by simpa using fm))
 | @o α g g' t en L rs ys xs h _ aU =>
  intro g0 aS av fm;refine .cons (.tmp ?_) (aU g0 (aS.set (.inl rfl)) (λs ty hm cs aa=>?_) (by simpa using fm))
  ·have:=aS t _ h (.inr ⟨_,_,_,rfl⟩);simp [Own.bs,this,rr,gr]
  ·by_cases aB:s=t
   ·subst aB; simp [cu,h,ab.setAt] at aa
   ·rw [wj aB] at aa; exact av s ty (List.mem_cons_of_mem _ hm) cs aa
 | @c g g' w3 t z ty cs ys0 rs ys xs h aw aX aQ ax hk _ aU =>
  intro g0 aS av fm;have h1:=av t ty (by simp) cs h;simp only [List.filterMap_cons,List.nodup_cons] at fm;refine .cons ?_ (aU g0 (hk.Tc ⟨cs,h⟩ aS) (λs yt hm cs' aa=>?_) fm.2)
  ·have Oy:0<z:=by simpa using aQ
   have J:Own.bs g0 (.tmp t)=some (.ptr ⟨t,[]⟩ 0):=by
    cases cs with
    | nil=>simp at aX; omega
    | cons c cs=>simp [Own.bs,h1,rr,gr]
   have:=c6.xM (P:=P) (ty:=ty) (p:=⟨t,[]⟩) (n:=0) (z:=0) J aw (by simp only [bB,h1,ab.at]) (.inr rfl) (show 0+z<=cs.length by omega);have hS:((cs.drop 0).take z).mapIdx (λi x=>gr 0 (Place.push ⟨t,[]⟩ (0+i)) x)=ys0:=by
    rw [List.drop_zero,List.take_of_length_le (by omega),<- ax];congr 1;funext i x;simp [Place.push]
   rw [hS] at this;exact .cell this
  ·have b0:s≠t:=by
    rintro rfl;exact fm.1 (List.mem_filterMap.2 ⟨.cell s yt,hm,rfl⟩)
   have:=hk.out s b0;rw [this] at aa;exact av s yt (List.mem_cons_of_mem _ hm) cs' aa
inductive qW (g:aK) (pins:List Nat):Nat->List (Option ab)->Prop
 | nil {i:Nat}:qW g pins i []
 | no {i:Nat}{os:List (Option ab)}(t:qW g pins (i+1) os):qW g pins i (none::os)
 | ao {i:Nat}{x:ab}{os:List (Option ab)}(h:g i=some x) [aF:cf x] (au:pins.elem i=true) (t:qW g pins (i+1) os):qW g pins i (some x::os)
theorem qW.spec {pins:List Nat}{i:Nat}{os:List (Option ab)}(h:qW g pins i os):∀ k x,os[k]?=some (some x)->g (i+k)=some x/\cU x/\i+k∈pins:=by
 induction h with
 | nil=>intro k x hk; simp at hk
 | no _ aU =>
  intro k x hk;cases k with
  | zero=>simp at hk
  | succ k=>have:=aU k x (by simpa using hk); rw [Nat.add_assoc,Nat.add_comm 1 k] at this; exact this
 | @ao i y os h aF au _ aU =>
  intro k x hk;cases k with
  | zero=>simp at hk; subst hk; exact ⟨h,aF.bl,by simpa using au⟩
  | succ k=>have:=aU k x (by simpa using hk); rw [Nat.add_assoc,Nat.add_comm 1 k] at this; exact this
theorem Fin.ro {rs:List ResultVar}{ys xs:List ab}{res:ab}{outs:List (Option ab)}{n:Nat}(h:j6 P g rs ys xs g') (he:qF xs=res) (fm:(rs.filterMap fun | .cell t _=>some t | _=>none).Nodup) (a1:qW g' N.pins 0 outs) (ak:outs.length=n) (J:e=.normal\/e=.ret):Fin P N rs n outs res e g :=
 ⟨J,⟨ys,xs,g',h.vs g (λ_ _ h _=>h) (λ_ _ _ _ h=>h) fm,h.take,he.symm,λk x hk=>by have:=a1.spec k x hk; rw [Nat.zero_add] at this; exact this⟩,ak⟩
class jb (x y:ab):Prop where v:∀ g,View g x y
class dr (xs ys:List ab):Prop where
 l:ys.length=xs.length
 v:∀ (g:aK) (k:Nat) (x y:ab),xs[k]?=some x->ys[k]?=some y->View g x y
class gV (e cj:bK α):Prop where
 z:e.z=cj.z
 v:∀ a,dr (e.cells a) (cj.cells a)
instance {v:Value}:jb (.lit v) (.lit v):=⟨λ_=>.self .lit (by simp) (by simp) (by simp) (by simp) (by simp)⟩
instance:jb .aL .aL:=⟨λ_=>.self .aL (by simp) (by simp) (by simp) (by simp) (by simp)⟩
instance {z n:Nat}{cs:List ab} [h:dp cs]:jb (.bk z n cs) (.bk z n cs):=⟨λ_=>.self (.bk h.bl) (by simp) (by simp) (by simp) (by simp) (by simp)⟩
instance {cs:List ab} [h:dp cs]:jb (.cI cs) (.cI cs):=⟨λ_=>.self (.cI h.bl) (by simp) (by simp) (by simp) (by simp) (by simp)⟩
instance {e:bK α}:jb .aL (ag e []):=⟨λ_=>.qB⟩
instance:dr [] []:=⟨rfl,by simp⟩
instance {x y:ab}{xs ys:List ab} [h:jb x y] [aR:dr xs ys]:dr (x::xs) (y::ys):=⟨by simp [aR.l],λg k a b aP av=>by
 cases k with
 | zero=>simp at aP av; subst aP av; exact h.v g
 | succ k=>exact aR.v g k a b (by simpa using aP) (by simpa using av)⟩
theorem Dv (e cj:bK α) [h:gV e cj]:∀ L:List α,(bo cj L).length=(bo e L).length/\∀ (g:aK) (k:Nat) (x y:ab),(bo e L)[k]?=some x->(bo cj L)[k]?=some y->View g x y
 | []=>⟨rfl,by simp [bo]⟩
 | a::L=>by
  obtain ⟨h1,af⟩:=Dv e cj L;have Tm:∀ e:bK α,bo e (a::L)=e.cells a++bo e L:=λe=>by simp [bo]
  refine ⟨by rw [nq,nq,h.z],λg k x y J ax=>?_⟩;rw [Tm] at J ax;by_cases hk:k<e.z
  ·rw [List.getElem?_append_left (by rw [e.len]; exact hk)] at J;rw [List.getElem?_append_left (by rw [cj.len,<- h.z]; exact hk)] at ax;exact (h.v a).v g k x y J ax
  ·rw [List.getElem?_append_right (by rw [e.len]; omega),e.len] at J;rw [List.getElem?_append_right (by rw [cj.len,<- h.z]; omega),cj.len,<- h.z] at ax;exact af g _ x y J ax
instance {e cj:bK α}{L:List α} [h:gV e cj]:jb (aj e L) (ag cj L):=⟨λg=>by
 have:=Dv e cj L;show View g (.own e.z L.length (bo e L)) (.bk cj.z L.length (bo cj L));rw [<- h.z];exact .own this.1 (this.2 g)⟩
instance:gV ai ai:=⟨rfl,λa=>(inferInstance:dr [ae a] [ae a])⟩
instance:gV qe qe:=⟨rfl,λa=>(inferInstance:dr [qZ a] [qZ a])⟩
instance:gV cp cp:=⟨rfl,λa=>(inferInstance:dr [a_ a] [a_ a])⟩
instance:gV dv dv:=⟨rfl,λa=>(inferInstance:dr [ay a] [ay a])⟩
instance {e cj:bK α} [h:gV e cj]:gV (My e) (br cj):=⟨rfl,λa=>(inferInstance:dr [aj e a] [ag cj a])⟩
instance {e:bK α}:gV (br e) (br e):=⟨rfl,λa=>(inferInstance:dr [ag e a] [ag e a])⟩
theorem View.row {e cj:bK α}{L:List α} [h:gV e cj] (au:bB g p=some (aj e L)):View g (.a6 e.z p L.length) (ag cj L):=by
 have:=Dv e cj L;show View g _ (.bk cj.z L.length (bo cj L));rw [<- h.z];refine .a6 au (Nat.le_refl _) (by rw [yj]; exact this.1) (λk x y J ax=>?_);rw [yj] at J;exact this.2 g k x y J ax
inductive oG (g:aK):List ab->List ab->Prop
 | nil:oG g [] []
 | s {x y:ab}{xs ys:List ab} [h:jb x y] (t:oG g xs ys):oG g (x::xs) (y::ys)
 | c {x y:ab}{xs ys:List ab}(h:View g x y) (t:oG g xs ys):oG g (x::xs) (y::ys)
theorem oG.len {xs ys:List ab}(h:oG g xs ys):ys.length=xs.length:=by
 induction h with
 | nil=>rfl
 | s _ aU=>simp [aU]
 | c _ _ aU=>simp [aU]
theorem oG.get {xs ys:List ab}(h:oG g xs ys):∀ (k:Nat) (x y:ab),xs[k]?=some x->ys[k]?=some y->View g x y:=by
 induction h with
 | nil=>intro k x y J; simp at J
 | @s x y xs ys h _ aU =>
  intro k a b aP av;cases k with
  | zero=>simp at aP av; subst aP av; exact h.v g
  | succ k=>exact aU k a b (by simpa using aP) (by simpa using av)
 | @c x y xs ys h _ aU =>
  intro k a b aP av;cases k with
  | zero=>simp at aP av; subst aP av; exact h
  | succ k=>exact aU k a b (by simpa using aP) (by simpa using av)
theorem View.mR {xs ys:List ab}(h:oG g xs ys):View g (.agg xs) (.agg ys):=.agg h.len h.get
class p5 (x:ab):Prop where lq:kJ x
class jC (cs:List ab):Prop where lq:∀ x∈cs,kJ x
class lZ (e:bK α):Prop where lq:∀ a,jC (e.cells a)
instance {v:Value}:p5 (.lit v):=⟨.lit⟩
instance:p5 .aL:=⟨.aL⟩
instance:jC []:=⟨by simp⟩
instance {x:ab}{xs:List ab} [h:p5 x] [aR:jC xs]:jC (x::xs):=⟨λy ax=>by
 rcases List.mem_cons.1 ax with rfl | ax
 ·exact h.lq
 ·exact aR.lq y ax⟩
instance {e:bK α}{L:List α} [h:lZ e]:jC (bo e L):=⟨λx J=>by
 obtain ⟨a,_,aP⟩:=List.mem_flatMap.1 J;exact (h.lq a).lq x aP⟩
instance {z n:Nat}{cs:List ab} [h:jC cs]:p5 (.own z n cs):=⟨.own h.lq⟩
instance {cs:List ab} [h:jC cs]:p5 (.obj cs):=⟨.obj h.lq⟩
instance {cs:List ab} [h:jC cs]:p5 (.agg cs):=⟨.agg h.lq⟩
instance {cs:List ab} [h:jC cs]:p5 (.bW cs):=⟨.bW h.lq⟩
instance {e:bK α}{a:α} [h:lZ e]:jC (e.cells a):=h.lq a
instance:lZ ai:=⟨λa=>(inferInstance:jC [ae a])⟩
instance:lZ qe:=⟨λa=>(inferInstance:jC [qZ a])⟩
instance:lZ cp:=⟨λa=>(inferInstance:jC [a_ a])⟩
instance:lZ dv:=⟨λa=>(inferInstance:jC [ay a])⟩
instance {e:bK α} [h:lZ e]:lZ (My e):=⟨λa=>(inferInstance:jC [aj e a])⟩
theorem O8 {outs:List (Option ab)}{args:List ab}(a1:sl outs=true) (ak:outs.length=args.length):outs=args.map λ_=>none:=by
 apply List.ext_getElem?;intro k;rw [List.getElem?_map];cases ax:args[k]? with
 | none=>rw [List.getElem?_eq_none (by rw [ak]; exact List.getElem?_eq_none_iff.1 ax)]; rfl
 | some y =>
  have hk:k<outs.length:=by rw [ak]; exact (List.getElem?_eq_some_iff.1 ax).1
  have h1:=List.getElem?_eq_getElem hk;rw [h1];cases af:outs[k] with
  | none=>rfl
  | some x=>rw [af] at h1; exact absurd h1 (Fp a1 k x)
theorem cJ.vw {xs:List Operand}{gm:Array TypeId}{f:FuncId}{ys args:List ab}{outs:List (Option ab)}{res:ab}(J:gl g xs=some ys) (hv:oG g ys args) (gQ:bU P f args outs res) (aW:gN P f=true) (a1:sl outs=true) [aq:p5 res] :
  cJ P g (.call { callee:=.value (.func f),args:=xs.toArray,argTypes:=gm }) res:=by
 have e:=O8 a1 gQ.1;refine .Fa (first:=[]) (caps:=[]) (ys:=ys) (args:=args) rfl (by simpa using J) aW (by simpa using hv.len) (λk x y J ax=>hv.get k x y (by simpa using J) ax) ?_ aq.lq;rw [<- e]; exact gQ
end
end Go.Own
namespace Go.Own
open Go
variable {α β:Type}
section
variable {P:Program}{N:c5}{ops:Array Oper}{g g' g1 g2:aK}{K:aK->Prop}{l:List Oper}{d r:Nat}{op:Op}{ty t t2:TypeId}{pos:String}{after:Array Edge}{gd:Option (Nat × Bool)}{a b c:Operand}{p q:Place}{x y:ab}
variable {bf:List (List Nat)}{g0:aK}{acc:Acc}{i:Nat}
instance {cs cs':List ab} [h:dr cs cs']:jb (.obj cs) (.cI cs'):=⟨λg=>.obj h.l (h.v g)⟩
instance {cs cs':List ab} [h:dr cs cs']:jb (.agg cs) (.agg cs'):=⟨λg=>.agg h.l (h.v g)⟩
instance {z n:Nat}{cs cs':List ab} [h:dr cs cs']:jb (.own z n cs) (.bk z n cs'):=⟨λg=>.own h.l (h.v g)⟩
theorem ar.fi (au:cg P g op ty y) [aF:cf y] [hv:jb y x] (bd:N.ok d=true) (aW:g d=none) (aO:fr g ops gd) (hk:ar P N ops l (cV g d x) K):ar P N ops (⟨some d,op,ty,pos,after,gd⟩::l) g K :=
 .AB rfl bd aW (r:=some x) (.inr (.inr ⟨aO.wanted,y,.inl au,aF.bl,hv.v _⟩)) hk
theorem bz.fi (bG:Nat) (au:cg P (jA bf g0 bG acc) op ty y) [aF:cf y] [hv:jb y x] (ah:Nat.beq ops.size (bG+l.length+1)=true) (aW:g0 d=none) (kv:acc.all (λe=>!Nat.beq e.2.1 d)=true) (bd:N.ok d=true) (aO:fr (jA bf g0 bG acc) ops gd)
  (hk:bz P N ops bf g0 i ((bG,d,some x)::acc) l K):bz P N ops bf g0 i acc (⟨some d,op,ty,pos,after,gd⟩::l) K :=
 .st bG (r:=some x) rfl (.inr (.inr ⟨aO.wanted,y,.inl au,aF.bl,hv.v _⟩)) ah aW kv bd hk
inductive n4 (ex:List Nat) (g g2:aK):List (Nat × ab)->Prop
 | nil:n4 ex g g2 []
 | n {s:Nat}{x:ab}{l:List (Nat × ab)}(dq:ex.elem s=false) (h:g s=some x) [aF:cf x] (t:n4 ex g g2 l):n4 ex g g2 ((s,x)::l)
 | p {s q k:Nat}{l:List (Nat × ab)}{kt:List ab}(dq:ex.elem s=false) (h:g s=some (.ptr ⟨q,[]⟩ k)) (af:g2 q=some (.obj kt)) (fW:Nat.blt k kt.length=true) (t:n4 ex g g2 l):n4 ex g g2 ((s,.ptr ⟨q,[]⟩ k)::l)
 | z {s:Nat}{x y:ab}{l:List (Nat × ab)}(he:ex.elem s=true) (h:g s=some y) [aF:cf y] (hv:h7 y x) [J:nv x] (t:n4 ex g g2 l):n4 ex g g2 ((s,x)::l)
theorem n4.spec {ex:List Nat}{l:List (Nat × ab)}(h:n4 ex g g2 l):∀ t x,get l t=some x->((ex.elem t=false/\g t=some x/\dh g2 x)\/(ex.elem t=true/\∃ y,g t=some y/\cU y/\h7 y x))/\∀ z p n m new,x≠.bL z p n m new:=by
 induction h with
 | nil=>intro t x J; cases J
 | @n s x l dq h aF _ aU =>
  intro t y ax;simp only [get] at ax
  split at ax
  ·rename_i e;subst e;cases ax;exact ⟨.inl ⟨dq,h,.bl aF.bl⟩,by rintro z p n m new rfl; cases aF.bl⟩
  grind
 | @p s q k l kt dq h af fW _ aU =>
  intro t y ax;simp only [get] at ax
  split at ax
  ·rename_i e;subst e;cases ax;exact ⟨.inl ⟨dq,h,.ref rfl (uH af (by simpa using fW))⟩,by simp⟩
  grind
 | @z s x y l he h aF hv J _ aU =>
  intro t y' ax;simp only [get] at ax
  split at ax
  ·rename_i e;subst e;cases ax;exact ⟨.inr ⟨he,y,h,aF.bl,hv⟩,J.fx⟩
  grind
theorem n4.u_ {ex:List Nat}{G2:List (Nat × ab)}(h:n4 ex g (get G2) G2):GJ (λt=>ex.elem t) g (get G2):=by
 refine ⟨λt x J aw=>?_,λt x J aw=>?_,λt z q n m new J=>(h.spec t _ J).2 _ _ _ _ _ rfl⟩
 ·rcases (h.spec t x J).1 with ⟨_,h1,af⟩ | ⟨h1,_⟩
  ·grind
  grind
 ·rcases (h.spec t x J).1 with ⟨h1,_⟩ | ⟨_,af⟩
  ·grind
  grind
theorem W.dN {bE:Code}{G G1:List (Nat × ab)}{Φ:Exit->aK->Prop}(ex:List Nat) (h:n4 ex (get G) (get G1) G1) (hw:W P N bE (get G1) Φ):W P N bE (get G) Φ:=by
 intro Q a w I Fs bj bd dP;obtain ⟨I',b7,dX,b0⟩:=bj.u_ h.u_;exact hw dX bd λe g' ca w' he aF=>dP e g' ca w' he (h9.trans rfl hF.refl b0 aF)
theorem ar.dN {G1:List (Nat × ab)}(ex:List Nat) (h:n4 ex g (get G1) G1) (hk:ar P N ops l (get G1) K):ar P N ops l g K:=by
 intro i hi;obtain ⟨g',aq,di⟩:=hk i hi;exact ⟨g',.u_ h.u_ aq,di⟩
theorem Take.pre {xs xs':List ab}:∀ {ps:List ab},(∀ x∈ps,cU x)->Take g xs xs' g'->Take g (ps++xs) (ps++xs') g'
 | [],_,h=>h
 | x::ps,aF,h=>.cons (aF x (by simp)) (Take.pre (ps:=ps) (λy ax=>aF y (List.mem_cons_of_mem _ ax)) h)
inductive e6:aK->List ab->List ab->aK->Prop
 | nil {g:aK}:e6 g [] [] g
 | kB {g:aK}{xs:List ab} [aF:dp xs]:e6 g xs xs g
 | f {g g':aK}{x:ab}{xs xs':List ab} [aF:cf x] (t:e6 g xs xs' g'):e6 g (x::xs) (x::xs') g'
 | r {α:Type}{g g':aK}{p:Place}{en:bK α}{L:List α}{xs xs':List ab}(au:bB g p=some (aj en L)) (t:e6 (cu g p .dead) xs xs' g'):e6 g (.a6 en.z p L.length::xs) (aj en L::xs') g'
 | l {g g1 g':aK}{p:Place}{z n:Nat}{cs cs' xs xs':List ab}(au:bB g p=some (.own z n cs)) (ak:cs.length=n * z) (h1:e6 (cu g p .dead) cs cs' g1) (t:e6 g1 xs xs' g'):e6 g (.a6 z p n::xs) (.own z n cs'::xs') g'
 | hX {α:Type}{g g1 g':aK}{q:Place}{s m:Nat}{en:bK α}{L:List α}{new c3 xs xs':List ab}(aB:g s=some (.bL en.z q L.length m new)) (au:bB g q=some (aj en L)) (bg:Nat.beq q.root s=false) (h1:e6 (cu (cu g ⟨s,[]⟩ .dead) q .dead) new c3 g1) (t:e6 g1 xs xs' g') :
   e6 g (.a6 en.z ⟨s,[]⟩ (L.length+m)::xs) (.own en.z (L.length+m) (bo en L++c3)::xs') g'
 | mR {g g1 g':aK}{cs cs' xs xs':List ab}(h1:e6 g cs cs' g1) (t:e6 g1 xs xs' g'):e6 g (.agg cs::xs) (.agg cs'::xs') g'
 | m {g g':aK}{p:Place}{q:Array MapEntry->Nat->Prop}{xs xs':List ab}(au:bB g p=some (.mp q)) (t:e6 (cu g p .dead) xs xs' g'):e6 g (.gx p::xs) (.mp q::xs') g'
 | b {g g1 g':aK}{p:Place}{cs cs' xs xs':List ab}(au:bB g p=some (.obj cs)) (h1:e6 (cu g p .dead) cs cs' g1) (t:e6 g1 xs xs' g'):e6 g (.ptr p 0::xs) (.obj cs'::xs') g'
theorem e6.take {xs xs':List ab}(h:e6 g xs xs' g'):Take g xs xs' g':=by
 induction h with
 | m au _ aU=>exact .mp au (.bl (by simp)) aU
 | nil=>exact .bl (by simp)
 | @kB g xs aF=>exact .bl aF.bl
 | @f g g' x xs xs' aF _ aU=>exact .cons aF.bl aU
 | @r α g g' p en L xs xs' au _ aU =>
  refine .a6 au (Nat.le_refl _) ?_ aU;rw [yj];exact .bl (pU en L)
 | @l g g1 g' p z n cs cs' xs xs' au ak _ _ gw gh =>
  refine .a6 au (Nat.le_refl _) ?_ gh
  grind
 | @hX α g g1 g' q s m en L new c3 xs xs' aB au bg _ _ gw gh=>exact .bL aB au (Nat.ne_of_beq_eq_false bg) (.pre (pU en L) gw) gh
 | @mR g g1 g' cs cs' xs xs' _ _ gw gh=>exact .agg gw gh
 | @b g g1 g' p cs cs' xs xs' au _ _ gw gh=>exact .obj au gw gh
inductive fk:List ab->List ab->Prop
 | nil:fk [] []
 | h3 {xs:List ab}:fk xs xs
 | f {x:ab}{xs ys:List ab}(t:fk xs ys):fk (x::xs) (x::ys)
 | o {z:Nat}{xs ys:List ab}(t:fk xs ys):fk (.aL::xs) (.own z 0 []::ys)
 | z {x y:ab}{xs ys:List ab} [aF:cf x] [hv:jb x y] (t:fk xs ys):fk (x::xs) (y::ys)
 | g {x y:ab}{xs ys:List ab}(h:h7 x y) (t:fk xs ys):fk (x::xs) (y::ys)
theorem fk.len {xs ys:List ab}(h:fk xs ys):ys.length=xs.length:=by
 induction h with
 | nil=>rfl
 | h3=>rfl
 | f _ aU=>simp [aU]
 | o _ aU=>simp [aU]
 | z _ aU=>simp [aU]
 | g _ _ aU=>simp [aU]
theorem fk.get {xs ys:List ab}(h:fk xs ys):∀ (k:Nat) (x y:ab),xs[k]?=some x->ys[k]?=some y->h7 x y:=by
 induction h with
 | nil=>intro k x y J; simp at J
 | h3=>intro k x y J ax; rw [J] at ax; cases ax; exact .refl
 | @f x xs ys _ aU =>
  intro k a b aP av;cases k with
  | zero=>simp at aP av; subst aP av; exact .refl
  | succ k=>exact aU k a b (by simpa using aP) (by simpa using av)
 | @o z xs ys _ aU =>
  intro k a b aP av;cases k with
  | zero=>simp at aP av; subst aP av; exact .Cz
  | succ k=>exact aU k a b (by simpa using aP) (by simpa using av)
 | @z x y xs ys aF hv _ aU =>
  intro k a b aP av;cases k with
  | zero=>simp at aP av; subst aP av; exact .pL aF.bl (hv.v _)
  | succ k=>exact aU k a b (by simpa using aP) (by simpa using av)
 | @g x y xs ys h _ aU =>
  grind
theorem fk.pre {xs ys:List ab}(h:fk xs ys):∀ ps:List ab,fk (ps++xs) (ps++ys)
 | []=>h
 | _::ps=>.f (fk.pre h ps)
theorem fk.own {z n:Nat}{xs ys:List ab}(h:fk xs ys):h7 (.own z n xs) (.own z n ys):=.own h.len h.get
theorem fk.obj {xs ys:List ab}(h:fk xs ys):h7 (.obj xs) (.obj ys):=.obj h.len h.get
theorem fk.agg {xs ys:List ab}(h:fk xs ys):h7 (.agg xs) (.agg ys):=.agg h.len h.get
theorem h7.j4 [aF:cf x] [hv:jb x y]:h7 x y:=.pL aF.bl (hv.v _)
theorem bm.A4 {o:Oper}{x:Operand}{y bx y':ab}{G2:List (Nat × ab)}(a1:o.op=.assign x) (aS:o.dst=some d) (J:Rd g x y) (aw:e6 g [y] [bx] g1) (aX:h7 bx y') (c9:Trim false g1 (get G2) G2) (aO:get G2 d=none) (bd:N.ok d=true):bm P N g o (cV (get G2) d y') :=
 .assign a1 aS J.bs aw.take aX c9.keep aO bd
theorem bm.LP {o:Oper}{x:Operand}{en:bK α}{L M R:List α}{s m:Nat}{new c3:List ab}{G2:List (Nat × ab)}(a1:o.op=.assign x) (aS:o.dst=some d) (J:Rd g x (.a6 en.z ⟨s,[]⟩ (L.length+m))) (aB:g s=some (.bL en.z q L.length m new)) (au:bB g q=some (aj en L)) (bg:Nat.beq q.root s=false)
  (h1:e6 (cu (cu g ⟨s,[]⟩ .dead) q .dead) new c3 g1) (aX:fk c3 (bo en M)) (hm:M.length=m) (aq:L++M=R) (c9:Trim false g1 (get G2) G2) (aO:get G2 d=none) (bd:N.ok d=true):bm P N g o (cV (get G2) d (aj en R)):=by
 subst hm aq;have aw:=e6.hX (xs:=[]) (xs':=[]) aB au bg h1 .nil;rw [<- mE];exact .assign a1 aS J.bs aw.take (aX.pre _).own c9.keep aO bd
theorem bm.pX {o:Oper}{k0:Nat}{ju cs' cs2:List ab}{y bx y':ab}{G2:List (Nat × ab)}(a1:o.op=.store t a b) (aS:o.dst=none) (aP:Rd g a (.ptr ⟨r,[]⟩ k0)) (av:Rd g b y) (aw:e6 g [y] [bx] g1) (q':h7 bx y') (aa:oK y'=some cs') (aX:hq P t cs'.length=true)
  (aB:g1 r=some (.obj ju)) (hk:Nat.ble (k0+cs'.length) ju.length=true) (aQ:Nat.blt 0 cs'.length=true) (he:e5 ju k0 cs'=cs2) [e9:dp ju] (aq:(get G2 r).isSome=true) (c9:k' g1 (get G2) r cs2 G2):bm P N g o (get G2):=by
 subst he;refine .store a1 aS aP.bs av.bs aw.take q' aa aX (p:=⟨r,[]⟩) (nd:=.obj ju) (z:=0) (n:=0) (by simp [bB,aB,ab.at]) (.inr rfl) (Nat.le_of_ble_eq_true hk) (by simpa using aQ) (λt x J=>?_) (λt x J y ax=>?_) (λt z q n m new J=>?_) (by intro e; rw [e] at aq; cases aq)
 ·rcases c9.spec t x J with ⟨h1,af,_⟩ | ⟨h1,af,_⟩
  all_goals grind [cu,ab.setAt,ab.e5]
 ·rcases c9.spec t x J with ⟨h1,af,aI⟩ | ⟨h1,af,aI⟩
  ·rw [af] at ax;cases ax;exact aI.yh
  ·subst h1;rw [aB] at ax;cases ax;exact .bl (.obj e9.bl)
 ·rcases c9.spec t _ J with ⟨_,_,aI⟩ | ⟨_,af,_⟩
  ·exact aI.fx _ _ _ _ _ rfl
  grind
theorem bm.F7 {o:Oper}{k0 s m:Nat}{en:bK α}{L M R:List α}{new c3:List ab}{ju cs2:List ab}{G2:List (Nat × ab)}(a1:o.op=.store t a b) (aS:o.dst=none) (aP:Rd g a (.ptr ⟨r,[]⟩ k0)) (av:Rd g b (.a6 en.z ⟨s,[]⟩ (L.length+m))) (qn:g s=some (.bL en.z q L.length m new)) (au:bB g q=some (aj en L)) (bg:Nat.beq q.root s=false)
  (h1:e6 (cu (cu g ⟨s,[]⟩ .dead) q .dead) new c3 g1) (q':fk c3 (bo en M)) (hm:M.length=m) (aY:L++M=R) (aX:hq P t 1=true)
  (aB:g1 r=some (.obj ju)) (hk:Nat.ble (k0+1) ju.length=true) (he:e5 ju k0 [aj en R]=cs2) [e9:dp ju] (aq:(get G2 r).isSome=true) (c9:k' g1 (get G2) r cs2 G2):bm P N g o (get G2):=by
 subst hm aY;have aw:=e6.hX (xs:=[]) (xs':=[]) qn au bg h1 .nil;refine .pX (y':=aj en (L++M)) a1 aS aP av aw ?_ rfl aX aB hk rfl he aq c9;rw [<- mE]; exact (q'.pre _).own
inductive nu (r:Nat) (cs:List ab) (k0:Nat):Nat->List ab->List ab->Prop
 | nil {i:Nat}:nu r cs k0 i [] []
 | b {i:Nat}{xs ys:List ab}(hi:Nat.beq i k0=true) (t:nu r cs k0 (i+1) xs ys):nu r cs k0 i (.ptr ⟨r,[]⟩ 0::xs) (.obj cs::ys)
 | n {i:Nat}{x:ab}{xs ys:List ab}(hi:Nat.beq i k0=false) [aF:cf x] (t:nu r cs k0 (i+1) xs ys):nu r cs k0 i (x::xs) (x::ys)
theorem nu.len {cs:List ab}{k0 i:Nat}{xs ys:List ab}(h:nu r cs k0 i xs ys):ys.length=xs.length:=by
 induction h with
 | nil=>rfl
 | b _ _ aU=>simp [aU]
 | n _ _ aU=>simp [aU]
theorem nu.Xr {cs:List ab}{k0 i:Nat}{xs ys:List ab}(h:nu r cs k0 i xs ys) (hi:k0<i):xs=ys/\∀ x∈xs,cU x:=by
 induction h with
 | nil=>exact ⟨rfl,by simp⟩
 | @b i _ _ h _ _=>have:=Nat.eq_of_beq_eq_true h; omega
 | @n i x xs ys _ aF _ aU =>
  obtain ⟨h1,af⟩:=aU (by omega);exact ⟨by rw [h1],pQ aF.bl af⟩
theorem nu.take {cs:List ab}{k0 i:Nat}{xs ys:List ab}(h:nu r cs k0 i xs ys) (aB:g r=some (.obj cs)) (aF:∀ x∈cs,cU x):i<=k0->k0<i+xs.length->Take g xs ys (cu g ⟨r,[]⟩ .dead):=by
 induction h with
 | nil=>intro h1 af; simp at af; omega
 | @b i xs ys hi t _ =>
  intro h1 af;have:=Nat.eq_of_beq_eq_true hi;obtain ⟨e,na⟩:=t.Xr (by omega);subst e;exact .obj (by simp [bB,aB,ab.at]) (.bl aF) (.bl na)
 | @n i x xs ys hi J _ aU =>
  intro h1 af;have:=Nat.ne_of_beq_eq_false hi;simp only [List.length_cons] at af;exact .cons J.bl (aU (by omega) (by omega))
theorem nu.RN {cs:List ab}{k0 i:Nat}{xs ys:List ab}(h:nu r cs k0 i xs ys):i<=k0->k0<i+xs.length->xs[k0 - i]?=some (.ptr ⟨r,[]⟩ 0):=by
 induction h with
 | nil=>intro h1 af; simp at af; omega
 | @b i xs ys hi _ _=>intro _ _; have:=Nat.eq_of_beq_eq_true hi; subst this; simp
 | @n i x xs ys hi _ _ aU =>
  grind [Nat.ne_of_beq_eq_false]
def uy (n k0:Nat) (x:ab):List (Option ab):=(List.range n).map λi=>if i=k0 then some x else none
inductive yF (g:aK) (d r:Nat) (n:Nat) (G4:List (Nat × ab)):List (Nat × ab)->Prop
 | nil:yF g d r n G4 []
 | c {s k:Nat}{l:List (Nat × ab)}(h:g s=some (.ptr ⟨r,[]⟩ k)) (hk:Nat.blt k n=true) (aS:Nat.beq s d=false) (bF:get G4 s=none) (t:yF g d r n G4 l):yF g d r n G4 ((s,.ptr ⟨r,[]⟩ k)::l)
theorem En {A B:List (Nat × ab)}{t:Nat}:get (A++B) t=match get A t with | some x=>some x | none=>get B t:=by
 induction A with
 | nil=>rfl
 | cons p A aU =>
  grind [get]
theorem yF.spec {n:Nat}{G4 A:List (Nat × ab)}(h:yF g d r n G4 A):∀ t x,get A t=some x->get G4 t=none/\t≠d/\g t=some x/\∃ k,x=.ptr ⟨r,[]⟩ k/\k<n:=by
 induction h with
 | nil=>intro t x J; cases J
 | @c s k l h hk aS bF _ aU =>
  intro t x J;simp only [get] at J
  split at J
  ·rename_i e;subst e;cases J
   simp_all [Nat.ne_of_beq_eq_false]
  grind
theorem hP.l' {o:Oper}{xs:List Operand}{gm:Array TypeId}{f:FuncId}{ys args:List ab}{res:ab}{cs cs':List ab}{k0:Nat}{G2 A:List (Nat × ab)}(a1:o.op=.call { callee:=.value (.func f),args:=xs.toArray,argTypes:=gm }) (aS:o.dst=some d) (J:Own.gl g xs=some ys)
  (aB:g r=some (.obj cs)) [e9:dp cs] (aP:nu r cs k0 0 ys args) (lM:Nat.blt k0 ys.length=true) (gQ:bU P f args (uy args.length k0 (.obj cs')) res) (aW:gN P f=true) [aq:cf res] [BQ:dp cs']
  (c9:Trim false (cu g ⟨r,[]⟩ .dead) (get ((r,.dead)::G2)) G2) (aO:get G2 d=none) (r9:Nat.beq r d=false) (Bv:Trim false (get ((r,.obj cs')::G2)) (get ((r,.obj cs')::G2)) G2) (ev:yF g d r cs'.length ((r,.obj cs')::G2) A) (bd:N.ok d=true) :
  hP P N g o d (get (A++(d,res)::(r,.obj cs')::G2)):=by
 have acz:k0<ys.length:=by simpa using lM
 have IY:r≠d:=Nat.ne_of_beq_eq_false r9;have sL:args.length=ys.length:=aP.len;have r8:(uy args.length k0 (.obj cs'))[k0]?=some (some (.obj cs')):=by
  grind [uy]
 have VT:∀ (k:Nat) (x:ab),(uy args.length k0 (.obj cs'))[k]?=some (some x)->x=.obj cs':=by
  grind [uy]
 have Hq:get ((r,ab.dead)::G2) r=some .dead:=by simp [get]
 have xG:hG (cu g ⟨r,[]⟩ .dead) (get ((r,.dead)::G2)):=by
  refine ⟨λt x h=>?_,λt x h=>?_,λt z q n m new h=>?_⟩
  all_goals
   simp only [get] at h
   split at h
  ·grind [cu,ab.setAt]
  ·obtain ⟨⟨y,h1,_,aI⟩,_⟩:=c9.spec t x h
   grind
  ·cases h;exact .bl .dead
  ·exact (c9.spec t x h).2.1
  ·cases h
  ·exact (c9.spec t _ h).2.2 _ _ _ _ _ rfl
 have put:qE (get ((r,.dead)::G2)) [(⟨r,[]⟩,.obj cs')]=get ((r,.obj cs')::G2):=by
  funext t
  simp_all [qE,cu,get,ab.setAt]
 have xH:hG (get ((r,.obj cs')::G2)) (get ((r,.obj cs')::G2)):=by
  refine ⟨λt x h=>h,λt x h=>?_,λt z q n m new h=>?_⟩
  all_goals
   simp only [get] at h
   split at h
  ·cases h;exact .bl (.obj BQ.bl)
  ·exact (Bv.spec t x h).2.1
  ·cases h
  ·exact (Bv.spec t _ h).2.2 _ _ _ _ _ rfl
 refine yI.ok (first:=[]) (caps:=[]) (ys:=ys) (tk:=λ_=>true) (vw:=false) (outs:=uy args.length k0 (.obj cs')) (g1:=cu g ⟨r,[]⟩ .dead) (g2:=get ((r,.dead)::G2)) (g4:=get ((r,.obj cs')::G2)) (l:=[(⟨r,[]⟩,.obj cs')]) (ks:=λ_=>k0) (xs0:=ys) (xs1:=args) (args:=args) (res:=res) a1 aS rfl (by simpa using J)
  ⟨aW,by simp,by simpa using sL,λk x h=>.inl (by simpa using h),aP.take aB e9.bl (Nat.zero_le _) (by omega),xG,λk x y _ ax=>by simpa using ax,gQ,by simpa using aq.bl,λk x h=>by rw [VT k x h]; simpa using cU.obj BQ.bl,λj p x ah=>?_,by simp,λi j hi ah _=>by simp at hi ah; omega,by rw [put]; exact xH⟩ ?_ bd ?_
 ·cases j with
  | succ j=>simp at ah
  | zero =>
   simp only [List.getElem?_cons_zero,Option.some.injEq,Prod.mk.injEq] at ah;obtain ⟨rfl,rfl⟩:=ah;refine ⟨r8,by simp [bB,Hq,ab.at],.inr ⟨cs,?_,by simp [bB,aB,ab.at]⟩⟩;have:=aP.RN (Nat.zero_le _) (by omega)
   grind
 ·grind [get]
 ·refine ⟨λt x h=>?_,λt x h=>?_⟩
  ·rw [sG] at h;rw [En];cases rY:get A t with
   | none=>exact h
   | some y =>
    obtain ⟨h1,af,_⟩:=ev.spec t y rY
    grind [get]
  ·rw [sG];rw [En] at h;cases rY:get A t with
   | none=>rw [rY] at h; exact .inl h
   | some y =>
    rw [rY] at h;cases h;obtain ⟨h1,af,aI,k,rfl,hk⟩:=ev.spec t x rY;refine .inr ⟨?_,af,aI,r,k,cs',rfl,IY,?_,hk⟩
    all_goals grind [get]
end
end Go.Own
namespace Go.Own
open Go
variable {α β:Type}
def Ee (k:IntKind):bK Int:=.one (λn=>.lit (.int k n)) λ_=>.lit
instance {k:IntKind}:Flat (Ee k):=⟨λ_=>rfl⟩
instance {k:IntKind}:gV (Ee k) (Ee k):=⟨rfl,λa=>(inferInstance:dr [.lit (.int k a)] [.lit (.int k a)])⟩
instance {k:IntKind}:lZ (Ee k):=⟨λa=>(inferInstance:jC [.lit (.int k a)])⟩
instance {cs:List ab}{n:Nat}{x:ab} [h:dp cs] [J:cf x]:dp (cs.set n x):=⟨λy ax=>by
 rcases List.mem_or_eq_of_mem_set ax with aR | aR
 ·exact h.bl y aR
 ·rw [aR]; exact J.bl⟩
instance {x y:ab} [h:cf y]:cf (x.setAt [] y):=⟨by simpa [ab.setAt] using h.bl⟩
def rq (m n:Int):Option Int:=if n=0 then none else some (IntKind.u64.wrap (m.tdiv n))
def rv (m n:Int):Option Int:=if n=0 then none else some (m.tmod n)
inductive j_:List ab->List ab->Prop
 | nil:j_ [] []
 | f {x:ab}{xs ys:List ab}(t:j_ xs ys):j_ (x::xs) (x::ys)
 | o {z:Nat}{xs ys:List ab}(t:j_ xs ys):j_ (.aL::xs) (.own z 0 []::ys)
 | i {z:Nat}{xs ys:List ab}(t:j_ xs ys):j_ (.aL::xs) (.bk z 0 []::ys)
theorem j_.len {xs ys:List ab}(h:j_ xs ys):ys.length=xs.length:=by
 induction h with
 | nil=>rfl
 | f _ aU=>simp [aU]
 | o _ aU=>simp [aU]
 | i _ aU=>simp [aU]
theorem j_.get {xs ys:List ab}(h:j_ xs ys):∀ (k:Nat) (x y:ab),xs[k]?=some x->ys[k]?=some y->pg x y:=by
 induction h with
 | nil=>intro k x y J; simp at J
 | f _ aU =>
  intro k a b aP av;cases k with
  | zero=>simp at aP av; subst aP av; exact .refl
  | succ k=>exact aU k a b (by simpa using aP) (by simpa using av)
 | o _ aU =>
  intro k a b aP av;cases k with
  | zero=>simp at aP av; subst aP av; exact .pP
  | succ k=>exact aU k a b (by simpa using aP) (by simpa using av)
 | i _ aU =>
  intro k a b aP av;cases k with
  | zero=>simp at aP av; subst aP av; exact .pO
  | succ k=>exact aU k a b (by simpa using aP) (by simpa using av)
theorem j_.obj {xs ys:List ab}(h:j_ xs ys):pg (.obj xs) (.obj ys):=.obj h.len h.get
section
variable {P:Program}{N:c5}{ops:Array Oper}{g g' g1 g2:aK}{K:aK->Prop}{l:List Oper}{d r:Nat}{op:Op}{ty t t2:TypeId}{pos:String}{after:Array Edge}{gd:Option (Nat × Bool)}{a b c:Operand}{p q:Place}{x y:ab}{k:IntKind}{m n:Int}
variable {bf:List (List Nat)}{g0:aK}{acc:Acc}{i:Nat}
def rj:List Nat->Bool
 | []=>true
 | x::l=>l.all (λy=>!Nat.beq x y)&&rj l
theorem Fg:∀ {l:List Place},rj (l.map Place.root)=true->l.Nodup
 | [],_=>List.nodup_nil
 | p::l,h=>by
  simp only [List.map_cons,rj,Bool.and_eq_true,List.all_eq_true] at h;refine List.nodup_cons.2 ⟨λhm=>?_,Fg h.2⟩;have:=h.1 p.root (List.mem_map.2 ⟨p,hm,rfl⟩);simp at this
theorem bz.wM (bG:Nat) {G G2:List (Nat × ab)}{o:Oper}(he:bm P N (dg (get G) (λ_=>true) acc) o (get G2)) (aO:o.guard=none) (gR:rj ((acc.filterMap j0).map Place.root)=true) (fH:ma G=true) (ah:Nat.beq ops.size (bG+l.length+1)=true)
  (aP:(List.range bG).all (λk=>(bf.getD bG []).contains k)=true) (av:(List.range ops.size).all (λk=>Nat.ble k bG||(bf.getD k []).contains bG)=true) (hk:bz P N ops bf (get G2) (bG+1) [] l K):bz P N ops bf (get G) i acc (o::l) K:=by
 intro dU j cn kT lh;have:=zf lh ah;subst this;obtain ⟨h1,af⟩:=drop_cons lh;obtain ⟨g',aq,di⟩:=hk [] (j+1) .nil .nil af;refine ⟨g',.L1 cn kT (Fg gR) (vM fH) h1 ?_ he aP ?_ aq,di⟩
 ·grind [iA]
 simp_all
theorem bz.bv (bG:Nat) {G G2:List (Nat × ab)}{o:Oper}{x:ab}(he:bm P N (dg (get G) (λ_=>true) acc) o (cV (get G2) d x)) (aO:o.guard=none) (gR:rj ((acc.filterMap j0).map Place.root)=true) (fH:ma G=true) (ah:Nat.beq ops.size (bG+l.length+1)=true)
  (aP:(List.range bG).all (λk=>(bf.getD bG []).contains k)=true) (av:(List.range ops.size).all (λk=>Nat.ble k bG||(bf.getD k []).contains bG)=true) (hk:bz P N ops bf (get ((d,x)::G2)) (bG+1) [] l K):bz P N ops bf (get G) i acc (o::l) K :=
 .wM bG (sG ▸ he) aO gR fH ah aP av hk
class pd (s:Nat) (g:aK):Prop where fx:∀ t,t≠s->∀ z q n m new,g t≠some (.bL z q n m new)
instance (priority:=low) {s:Nat}{g:aK} [h:qU g]:pd s g:=⟨λt _=>h.fx t⟩
instance {s:Nat}{g:aK}{x:ab} [h:pd s g]:pd s (cV g s x):=⟨λt aw z q n m new e=>by
 unfold cV at e;rw [if_neg aw] at e;exact h.fx t aw _ _ _ _ _ e⟩
instance {s d:Nat}{g:aK}{x:ab} [h:pd s g] [J:nv x]:pd s (cV g d x):=⟨λt aw z q n m new e=>by
 unfold cV at e
 split at e
 ·cases e; exact J.fx _ _ _ _ _ rfl
 ·exact h.fx t aw _ _ _ _ _ e⟩
class yU (s:Nat) (acc:Acc):Prop where fx:∀ e∈acc,e.2.1≠s->∀ z q n m new,e.2.2≠some (.bL z q n m new)
instance {s:Nat}:yU s []:=⟨by simp⟩
instance {s j d:Nat}{x:ab}{acc:Acc} [J:nv x] [h:yU s acc]:yU s ((j,d,some x)::acc):=⟨λe he aB z q n m new bY=>by
 rcases List.mem_cons.1 he with rfl | he
 ·exact J.fx z q n m new (Option.some.inj bY)
 ·exact h.fx e he aB z q n m new bY⟩
instance {s j:Nat}{x:Option ab}{acc:Acc} [h:yU s acc]:yU s ((j,s,x)::acc):=⟨λe he aB z q n m new bY=>by
 rcases List.mem_cons.1 he with rfl | he
 ·exact absurd rfl aB
 ·exact h.fx e he aB z q n m new bY⟩
instance {s:Nat}{G:List (Nat × ab)}{A:Nat->Bool}{acc:Acc} [aO:qU (get G)] [h:yU s acc]:pd s (dg (get G) A acc):=⟨λt aw z q n m new e=>by
 rcases uQ e with ⟨cj,he,h1,_,af⟩ | ⟨_,af⟩
 ·exact h.fx cj he (by rw [h1]; exact aw) _ _ _ _ _ af
 ·exact aO.fx _ _ _ _ _ _ af⟩
namespace O
theorem rq {r:Int}(J:Rd g a (.lit (.int .u64 m))) (ax:Rd g b (.lit (.int .u64 n))) (h:Own.rq m n=some r):cg P g (.binOp .quo t a b t2) ty (.lit (.int .u64 r)):=by
 unfold Own.rq at h
 split at h
 ·cases h
 ·cases h; exact .eX (.quo J ax (by assumption))
theorem rv {r:Int}(J:Rd g a (.lit (.int .u64 m))) (ax:Rd g b (.lit (.int .u64 n))) (h:Own.rv m n=some r):cg P g (.binOp .rem t a b t2) ty (.lit (.int .u64 r)):=by
 unfold Own.rv at h
 split at h
 ·cases h
 ·cases h; exact .eX (.rem J ax (by assumption))
theorem S9 {L:List Int}(J:Rd g a (.bk qe.z L.length (bo qe L))) (aw:wP P t t2=true):cg P g (.convert t t2 a) ty (ay (strOfNums L)):=by
 have h:=J.bs;rw [PL] at h;exact .eX (.Ec h aw)
theorem wN {e dx:Nat}{parts:Array (Nat × Operand)}{ys cs:List ab}{z:Nat}(aw:fo P t e z=true) (J:gl g (parts.toList.map (·.2))=some ys) (aa:mn ys=some cs) (aX:ys.all (λy=>match jR y with | some c=>Nat.beq c.length z | none=>false)=true)
  (au:parts.toList=(parts.toList.map (·.2)).mapIdx (λi x=>(i,x))) (aF:(parts.toList.map (·.2)).length=dx) (hzero:ih P e z=true) (av:Nat.ble (dx * z) 16777216=true) (gW:Nat.ble dx 16777216=true):cg P g (.buildSlice t dx parts) ty (.own z dx cs):=by
 subst aF;exact .rk (.buildSlice aw au J (λy ax=>by
  grind [Nat.eq_of_beq_eq_true]) aa (Nat.le_of_ble_eq_true av) (Nat.le_of_ble_eq_true gW) (.inr (K8 hzero)))
theorem Qj {z m:Nat}{cs:List ab}(bg:bB g q=some (.own z m cs)) (ak:cs.length=m * z) (aW:cs.all l1=true):Src g (.a6 z q m) z m cs:=by
 have:=Src.a6 (g:=g) (m:=m) bg (Nat.le_refl _)
 simp_all [List.take_of_length_le,Bp]
theorem GU {en:bK α}{L M r:List α}{e gM m:Nat}{cs:List ab}(aB:Rd g a (.a6 en.z p L.length)) (au:bB g p=some (aj en L)) (J:Rd g b (.a6 en.z q m)) (bg:bB g q=some (.own en.z m cs)) (ak:cs.length=m * en.z) (aW:cs.all l1=true) (hm:M.length=m) (aw:jG P t e en.z gM=true) (av:Nat.ble gM 128=true) (h:c' L M=some r) [e9:qU g] :
  cg P g (.call { callee:=.builtin .append,args:=#[a,b],argTypes:=#[t,t] }) ty (.bL en.z p L.length m cs):=by
 subst hm;obtain ⟨h1,af,_⟩:=y4 h av;exact .lS (.grow aB.bs (.inl ⟨_,au⟩) (λt bC cG m' c3 e=>e9.fx _ _ _ _ _ _ e) J.bs (Qj bg ak aW) aw h1 af)
theorem D3 {en:bK α}{L M M2 r:List α}{y:ab}{e gM s:Nat}(aB:Rd g a (.a6 en.z ⟨s,[]⟩ (L.length+M.length))) (qn:g s=some (.bL en.z q L.length M.length (bo en M))) (au:bB g q=some (aj en L)) (J:Rd g b y) (hm:n2 g en y M2) (aw:jG P t e en.z gM=true) (av:Nat.ble gM 128=true) (h:c' (L++M) M2=some r) [e9:pd s g] :
  cg P g (.call { callee:=.builtin .append,args:=#[a,b],argTypes:=#[t,t] }) ty (.bL en.z ⟨s,[]⟩ (L.length+M.length) M2.length (bo en M2)):=by
 obtain ⟨h1,af,_⟩:=y4 h av;rw [List.length_append] at h1 af;refine .lS (.grow aB.bs (.inr ⟨rfl,q,L.length,M.length,bo en M,_,qn,rfl,au⟩) (λt bC cG m' c3 e=>?_) J.bs hm.src aw h1 af);by_cases I3:t=s
 ·grind [bB,ab.at]
 ·exact e9.fx t I3 _ _ _ _ _ e
theorem OX {en:bK α}{z0:α}{r:List α}{e gM:Nat}{dI:Value}(aw:fo P t e en.z=true) (J:Rd g a (.lit (.int k m))) (ax:Rd g b (.lit (.int .i64 m))) (hzero:(P.info? e).bind (·.zero)=some dI) (h1:dI.cells.toList.all Value.oneCell'=true) (hf:(en.cells z0).length=dI.cells.size) (Vh:∀ (k:Nat) (u:Value) (x:ab),dI.cells[k]?=some u->(en.cells z0)[k]?=some x->x=lR u\/(lR u=.aL/\∃ bC,x=.bk bC 0 [])) (h:nk m z0=some r) (iO:(P.info? e).map (·.bytes)=some gM) (av:Nat.ble gM 128=true) :
  cg P g (.makeSlice t a b) ty (aj en r):=by
 unfold nk at h
 split at h
 ·rename_i hm;have sQ:lim=1099511627776:=rfl;have l2:=Nat.le_of_ble_eq_true av;obtain ⟨j,rfl⟩:=Int.eq_ofNat_of_zero_le hm.1;cases h;have ah:j<=1099511627776:=by omega
  have fX:dI.cells.size=en.z:=by rw [<- hf,en.len]
  have:=p7.makeSlice (P:=P) (ty:=ty) aw J.bs ax.bs hzero (by rw [<- Array.all_toList]; exact h1) fX iO (by
   calc j * gM<=1099511627776 * 128:=Nat.mul_le_mul ah l2
    _=140737488355328:=by decide) (by omega) hf Vh
  have cv:(List.replicate j (en.cells z0)).flatten=bo en (List.replicate j z0):=by simp [bo,List.flatMap_def]
  unfold aj;rw [Int.toNat_natCast,List.length_replicate,<- cv];exact .rk this
 ·cases h
theorem mk {en:bK α}{z0:α}{r:List α}{e gM:Nat}{dI:Value}(aw:fo P t e en.z=true) (J:Rd g a (.lit (.int k m))) (ax:Rd g b (.lit (.int .i64 m))) (hzero:(P.info? e).bind (·.zero)=some dI) (h1:dI.cells.toList.all Value.oneCell'=true) (aa:dI.cells.toList.map lR=en.cells z0) (h:nk m z0=some r) (iO:(P.info? e).map (·.bytes)=some gM) (av:Nat.ble gM 128=true) :
  cg P g (.makeSlice t a b) ty (aj en r):=by
 grind [OX]
theorem Xk {e:bK β}{r:List (List β)}{m:Int}{k:IntKind}{a b:Operand}{t ty:TypeId}{Bj gM:Nat}{dI:Value}(aw:fo P t Bj (br e).z=true) (J:Rd g a (.lit (.int k m))) (ax:Rd g b (.lit (.int .i64 m))) (hzero:(P.info? Bj).bind (·.zero)=some dI) (h1:dI.cells.toList.all Value.oneCell'=true) (aa:dI.cells.toList.map lR=[.aL]) (h:nk m ([]:List β)=some r) (iO:(P.info? Bj).map (·.bytes)=some gM) (av:Nat.ble gM 128=true) :
  cg P g (.makeSlice t a b) ty (aj (br e) r):=by
 refine OX aw J ax hzero h1 ?_ (λk u x hu J=>.inr ?_) h iO av
 ·grind [List.length_map,br]
 ·have ak:=congrArg List.length aa;rw [List.length_map] at ak;have hk:k=0:=by
   grind
  subst hk;have jP:dI.cells.toList[0]?=some u:=by simpa using hu
  have af:=congrArg (λl=>l[0]?) aa;simp only [List.getElem?_map,jP,Option.map_some] at af;have af:=Option.some.inj af;refine ⟨af,e.z,?_⟩;have J:([ag e []]:List ab)[0]?=some x:=J;have:x=ag e []:=(Option.some.inj J).symm;rw [this];rfl
end O
theorem Kt (en:bK α) {L:List α}{y y2:α}{o:Nat}{cs':List ab}(h:idx L m=some y) (he:e5 (en.cells y) o cs'=en.cells y2) (hlen:o+cs'.length<=en.z):e5 (bo en L) (m.toNat * en.z+o) cs'=bo en (L.set m.toNat y2):=by
 obtain ⟨aQ,h1,af⟩:=pM h;have aT:m.toNat<L.length:=(List.getElem?_eq_some_iff.1 af).1;have ax:L[m.toNat]=y:=(List.getElem?_eq_some_iff.1 af).2;have cv:bo en L=bo en (L.take m.toNat)++(en.cells y++bo en (L.drop (m.toNat+1))):=by
  grind [bo,List.take_append_drop,List.drop_eq_getElem_cons]
 have b9:bo en (L.set m.toNat y2)=bo en (L.take m.toNat)++(en.cells y2++bo en (L.drop (m.toNat+1))):=by
  grind [List.set_eq_take_append_cons_drop,bo]
 have ak:(bo en (L.take m.toNat)).length=m.toNat * en.z:=by rw [nq,List.length_take]; congr 1; omega
 rw [cv,b9,<- he];unfold e5;generalize bo en (L.take m.toNat)=A at *;generalize bo en (L.drop (m.toNat+1))=B at *;rw [<- ak];have EW:=en.len y;rw [List.take_append,List.take_of_length_le (by omega),show A.length+o - A.length=o by omega,List.take_append_of_le_length (by omega)];rw [List.drop_append,List.drop_eq_nil_of_le (by omega),show A.length+o+cs'.length - A.length=o+cs'.length by omega,List.drop_append_of_le_length (by omega)];simp
theorem Hy {en:bK α}{L:List α}{i:Int}{off:Nat}{y:α}(h:idx L i=some y) (a1:Nat.blt off en.z=true):i.toNat * en.z+off<(bo en L).length:=by
 obtain ⟨De,lT,_⟩:=pM h;have nK:off<en.z:=by simpa using a1
 rw [nq];have af:i.toNat+1<=L.length:=by omega
 calc i.toNat * en.z+off<i.toNat * en.z+en.z:=by omega
  _=(i.toNat+1) * en.z:=by rw [Nat.add_mul]; omega
  _<=L.length * en.z:=Nat.mul_le_mul_right _ af
theorem og {L:List α}{i:Int}{y y2:α}(h:idx L i=some y):idx (L.set i.toNat y2) i=some y2:=by
 grind [idx]
inductive pc (g g2:aK):ab->Prop
 | mk {α:Type}{en:bK α}{L Lm:List α}{r j off:Nat}{i:Int}{y y2:α}(h1:bB g ⟨r,[j]⟩=some (aj en L)) (hi:idx L i=some y) (af:bB g2 ⟨r,[j]⟩=some (aj en Lm)) (BJ:idx Lm i=some y2) (a1:Nat.blt off en.z=true):pc g g2 (.ptr ⟨r,[j]⟩ (i.toNat * en.z+off))
theorem pc.Pe {x:ab}(h:pc g g2 x):gC g x:=by
 cases h with
 | mk h1 hi af BJ a1=>exact ⟨_,h1,_,_,_,.inl rfl,Hy hi a1⟩
theorem pc.Fu {x:ab}(h:pc g g2 x):gC g2 x:=by
 cases h with
 | mk h1 hi af BJ a1=>exact ⟨_,af,_,_,_,.inl rfl,Hy BJ a1⟩
theorem pc.bV {x:ab}(h:pc g g2 x):dh g2 x:=by
 have:=h.Fu;cases h with
 | mk=>exact .ref rfl this
theorem pc.fx {x:ab}(h:pc g g2 x):∀ z p n m new,x≠.bL z p n m new:=by
 cases h with
 | mk=>simp
theorem pc.clear {x:ab}{k0 m0:Nat}(h:pc g g2 x) (au:p.path≠[]):Clear p k0 m0 x:=by
 cases h with
 | mk =>
  intro q bg _ j dm e;simp only [Av,Option.some.injEq] at bg;subst bg;cases EL:p.path with
  | nil=>exact absurd EL au
  | cons a b=>rw [EL] at e; simp at e
inductive kK (g g2:aK) (r:Nat) (x2:ab):List (Nat × ab)->Prop
 | nil:kK g g2 r x2 []
 | n {s:Nat}{x:ab}{l:List (Nat × ab)}(dq:Nat.beq s r=false) (h:g s=some x) [aF:cf x] (t:kK g g2 r x2 l):kK g g2 r x2 ((s,x)::l)
 | p {s q k:Nat}{l:List (Nat × ab)}{cs kt:List ab}(dq:Nat.beq s r=false) (h:g s=some (.ptr ⟨q,[]⟩ k)) (h1:g q=some (.obj cs)) (hk:Nat.blt k cs.length=true) (af:g2 q=some (.obj kt)) (fW:Nat.blt k kt.length=true) (t:kK g g2 r x2 l):kK g g2 r x2 ((s,.ptr ⟨q,[]⟩ k)::l)
 | e {s:Nat}{x:ab}{c2:List ab}{l:List (Nat × ab)}(dq:Nat.beq s r=false) (h:g s=some x) (he:pc g g2 x) (iw:x2=.obj c2) (t:kK g g2 r x2 l):kK g g2 r x2 ((s,x)::l)
 | w {α:Type}{s q:Nat}{en:bK α}{L:List α}{l:List (Nat × ab)}(dq:Nat.beq s r=false) (h:g s=some (.a6 en.z ⟨q,[]⟩ L.length)) (h1:g q=some (aj en L)) (af:g2 q=some (aj en L)) (t:kK g g2 r x2 l):kK g g2 r x2 ((s,.a6 en.z ⟨q,[]⟩ L.length)::l)
 | b {l:List (Nat × ab)}{x:ab}(e:x=x2) [aF:cf x2] (t:kK g g2 r x2 l):kK g g2 r x2 ((r,x)::l)
theorem kK.spec {x2:ab}{l:List (Nat × ab)}(h:kK g g2 r x2 l):∀ t x,get l t=some x->(t≠r/\g t=some x/\(p_ g g2 x\/pc g g2 x/\∃ c2,x2=.obj c2))\/(t=r/\x=x2/\cU x):=by
 induction h with
 | nil=>intro t x J; cases J
 | @n s x l dq h aF _ aU =>
  intro t y ax;simp only [get] at ax
  split at ax
  ·rename_i e;subst e;cases ax;exact .inl ⟨Nat.ne_of_beq_eq_false dq,h,.inl (.n aF.bl)⟩
  grind
 | @p s q k l cs kt dq h h1 hk af fW _ aU =>
  intro t y ax;simp only [get] at ax
  split at ax
  ·rename_i e;subst e;cases ax;exact .inl ⟨Nat.ne_of_beq_eq_false dq,h,.inl (.p h1 (by simpa using hk) af (by simpa using fW))⟩
  grind
 | @e s x c2 l dq h he iw _ aU =>
  grind [get,Nat.ne_of_beq_eq_false]
 | @w α s q en L l dq h h1 af _ aU =>
  intro t y ax;simp only [get] at ax
  split at ax
  ·rename_i e;subst e;cases ax;exact .inl ⟨Nat.ne_of_beq_eq_false dq,h,.inl (.r h1 (Nat.le_refl _) af (Nat.le_refl _))⟩
  grind
 | @b l x e aF _ aU =>
  intro t y ax;simp only [get] at ax
  split at ax
  ·rename_i cj;subst cj;cases ax;subst e;exact .inr ⟨rfl,rfl,aF.bl⟩
  grind
theorem p_.Kr {x:ab}{k0 m0:Nat}(h:p_ g g2 x):jo (λr=>gC g r/\Clear p k0 m0 r/\gC g2 r) x:=by
 cases h with
 | n h=>exact .bl h
 | p h hk af fW =>
  refine .ref rfl ⟨uH h hk,?_,uH af fW⟩;intro q bg _ j dm e;simp only [Av,Option.some.injEq] at bg;subst bg;simp at e
 | r h hk af fW =>
  refine .ref rfl ⟨Au h hk,?_,Au af fW⟩;intro q bg _ j dm e;simp only [Av,Option.some.injEq] at bg;subst bg;simp at e
theorem bm.tg {gj:Oper}{en:bK α}{L:List α}{jl y2:α}{o:Nat}{cs':List ab}{x2:ab}{G2:List (Nat × ab)}(a1:gj.op=.store t a b) (aS:gj.dst=none) (aP:Rd g a (.ptr p (m.toNat * en.z+o))) (av:Rd g b y) (au:bB g p=some (aj en L)) (h:idx L m=some jl) (aX:hq P t cs'.length=true)
  (aa:oK y=some cs') (he:e5 (en.cells jl) o cs'=en.cells y2) (hlen:Nat.ble (o+cs'.length) en.z=true) (aQ:Nat.blt 0 cs'.length=true) (iw:cu g p (aj en (L.set m.toNat y2)) p.root=some x2) (aq:(get G2 p.root).isSome=true) [aF:cf y] {y0:ab}(rh:g p.root=some y0) [e9:cf y0] (c9:kK g (get G2) p.root x2 G2):bm P N g gj (get G2):=by
 have BL:=Nat.le_of_ble_eq_true hlen;have jf:=Kt en h he BL;have NV:(L.set m.toNat y2).length=L.length:=List.length_set;refine .store a1 aS aP.bs av.bs (.bl (by simpa using aF.bl)) .refl aa aX (p:=p) (nd:=aj en L) (z:=en.z) (n:=L.length) (cs:=bo en L) au (.inl rfl) ?_ (by simpa using aQ) (λt x J=>?_) (λt x J y ax=>?_) (λt z q n m new J=>?_) (by intro e; rw [e] at aq; cases aq)
 ·obtain ⟨De,lT,_⟩:=pM h;rw [nq];have af:m.toNat+1<=L.length:=by omega
  calc m.toNat * en.z+o+cs'.length<=m.toNat * en.z+en.z:=by omega
   _=(m.toNat+1) * en.z:=by rw [Nat.add_mul]; omega
   _<=L.length * en.z:=Nat.mul_le_mul_right _ af
 ·have fm:(aj en L).e5 (m.toNat * en.z+o) cs'=aj en (L.set m.toNat y2):=by
   show ab.own en.z L.length (e5 (bo en L) (m.toNat * en.z+o) cs')=_
   grind
  rw [fm];rcases c9.spec t x J with ⟨h1,af,_⟩ | ⟨h1,af,_⟩
  ·grind [uK]
  grind
 ·rcases c9.spec t x J with ⟨h1,af,aI⟩ | ⟨h1,af,aI⟩
  ·rw [af] at ax;cases ax;rcases aI with aI | ⟨aI,c2,rfl⟩
   ·exact aI.Kr
   ·refine jo.ref (by cases aI; rfl) ⟨aI.Pe,aI.clear ?_,aI.Fu⟩
    grind [cu,ab.setAt]
  ·subst h1;rw [rh] at ax;cases ax;exact .bl e9.bl
 ·rcases c9.spec t _ J with ⟨_,_,aI | ⟨aI,_⟩⟩ | ⟨_,_,aI⟩
  ·exact aI.fx _ _ _ _ _ rfl
  ·exact aI.fx _ _ _ _ _ rfl
  ·cases aI
end
end Go.Own
namespace Go.Own
open Go
theorem RX (a b:ByteArray):(a == b)=decide (a=b):=by
 obtain ⟨a⟩:=a;obtain ⟨b⟩:=b;have:(({ data:=a }:ByteArray) == { data:=b })=(a == b):=rfl;rw [this,Bool.eq_iff_iff];simp
inductive n1 where
 | b | s | i (k:IntKind)
 deriving DecidableEq
def mc:Value->Option n1
 | .bool _=>some .b
 | .string _=>some .s
 | .int k _=>some (.i k)
 | _=>none
def Bh (P:Program) (rc:TypeId->List n1->Bool):List Field->Nat->List n1->Bool
 | [],_,eR=>eR.isEmpty
 | f :: fs, o, eR => f.name != "_" && f.offset == o && (match P.info? f.type with
   | some i=>i.size<=eR.length&&rc f.type (eR.take i.size)&&Bh P rc fs (o+i.size) (eR.drop i.size)
   | none=>false)
def tL (P:Program):Nat->TypeId->List n1->Bool
 | 0,_,_=>false
 | d+1,t,eR=>match P.underlying t with
  | some .bool=>eR == [.b]&&jt P t
  | some (.int k)=>eR == [.i k]&&jt P t
  | some .string=>eR == [.s]&&jt P t
  | some (.struct fs)=>iB P t eR.length&&!P.stoodInHeld t&&Bh P (tL P d) fs.toList 0 eR
  | _=>false
def MD:Value->Value->Bool
 | .bool a,.bool b=>a == b
 | .int _ a,.int _ b=>decide (a=b)
 | .string a,.string b=>decide (a=b)
 | _,_=>false
def lJ:List Value->List Value->Bool
 | a::az,b::df=>MD a b&&lJ az df
 | _,_=>true
theorem ME:∀ (az df cs jJ:List Value),az.length=df.length->lJ (az++cs) (df++jJ)=(lJ az df&&lJ cs jJ)
 | [],[],cs,jJ,_=>by simp [lJ]
 | [],_::_,_,_,h=>by simp at h
 | _::_,[],_,_,h=>by simp at h
 | a::az,b::df,cs,jJ,h=>by
  simp only [List.cons_append,lJ,ME az df cs jJ (by simpa using h),Bool.and_assoc]
def pack (P:Program) (t:TypeId) (vs:List Value):Value :=
 match P.underlying t,vs with
 | some (.struct _),_=>.agg vs.toArray
 | _,v::_=>v
 | _,[]=>.agg #[]
theorem PT {P:Program}{w:World}{t:TypeId}{d:Nat}{eR:List n1}(h:tL P (d+1) t eR=true) {cs:List Value}{o:Nat}{vs:List Value}(hv:(cs.drop o).take eR.length=vs) (ak:vs.length=eR.length) :
  (part t cs.toArray o).run P w=.ok (pack P t vs) w:=by
 unfold tL at h
 split at h
 case h_4 fs hu =>
  simp only [Bool.and_eq_true] at h;obtain ⟨h1,af⟩:=D2 (w:=w) h.1.1;simp [part,h1,af,pack,hu,<- hv,List.take_drop]
 case h_5=>cases h
 all_goals
  rename_i hu;simp only [Bool.and_eq_true,beq_iff_eq] at h;obtain ⟨rfl,aa⟩:=h;obtain ⟨h1,af⟩:=Hm (w:=w) aa;obtain ⟨v,rfl⟩:∃ v,vs=[v]:=by
   rcases vs with _ | ⟨v,_ | _⟩ <;> simp at ak;exact ⟨v,rfl⟩
  have:cs[o]?=some v:=by
   have:=congrArg List.head? hv;simpa [List.head?_take] using this
  simp [part,h1,pack,hu,this]
theorem Kx {P:Program}(w:World):∀ (d:Nat) (t:TypeId) (eR:List n1),tL P d t eR=true->∀ (D:Nat),d<=D->∀ (az df:List Value),az.map mc=eR.map some->df.map mc=eR.map some ->
  (Op.equalIn D t (pack P t az) (pack P t df)).run P w=.ok (lJ az df) w
 | 0,_,_,h,_,_,_,_,_,_=>by simp [tL] at h
 | d+1,t,eR,h,D,hJ,az,df,aP,av=>by
  obtain ⟨D,rfl⟩:∃ E,D=E+1:=⟨D - 1,by omega⟩;have aQ:=h;unfold tL at h
  split at h
  case h_5=>cases h
  case h_4 fs hu =>
   simp only [Bool.and_eq_true,Bool.not_eq_true'] at h;obtain ⟨⟨h1,af⟩,aI⟩:=h;have key:∀ (fs:List Field) (o:Nat) (eR:List n1) (nz nA:List Value),Bh P (tL P d) fs o eR=true->az.drop o=nz->df.drop o=nA->nz.map mc=eR.map some->nA.map mc=eR.map some ->
     (forIn (m:=Sem) (β:=Option Bool × Unit) fs (none,()) λf _ =>
      if f.name = "_" then pure (.yield (none, ()))
      else do
       let x <- part f.type az.toArray f.offset
       let y <- part f.type df.toArray f.offset
       let c <- Op.equalIn D f.type x y
       if c=false then pure (.done (some false,())) else pure (.yield (none,()))).run P w=.ok (if lJ nz nA then (none,()) else (some false,())) w:=by
    intro fs
    induction fs with
    | nil =>
     intro o eR nz nA aO _ _ aP av;have aB:eR=[]:=by simpa [Bh] using aO
     subst aB;have h1:nz=[]:=by simpa using aP
     have af:nA=[]:=by simpa using av
     subst h1 af;simp [lJ]
    | cons f fs aU =>
     intro o eR nz nA aO NB NC aP av;unfold Bh at aO;cases hi:P.info? f.type with
     | none=>simp [hi] at aO
     | some i =>
      simp only [hi,Bool.and_eq_true,bne_iff_ne,beq_iff_eq,decide_eq_true_eq] at aO;obtain ⟨⟨aF,rfl⟩,⟨hle,he⟩,Vt⟩:=aO;obtain ⟨e,rfl⟩:∃ e,d=e+1:=by
       cases d with
       | zero=>simp [tL] at he
       | succ e=>exact ⟨e,rfl⟩
      have xK:nz.length=eR.length:=by simpa using congrArg List.length aP
      have acY:nA.length=eR.length:=by simpa using congrArg List.length av
      have Zb:(nz.take i.size).map mc=(eR.take i.size).map some:=by rw [List.map_take,List.map_take,aP]
      have Zc:(nA.take i.size).map mc=(eR.take i.size).map some:=by rw [List.map_take,List.map_take,av]
      have S':(nz.drop i.size).map mc=(eR.drop i.size).map some:=by rw [List.map_drop,List.map_drop,aP]
      have Ta:(nA.drop i.size).map mc=(eR.drop i.size).map some:=by rw [List.map_drop,List.map_drop,av]
      have lt:(eR.take i.size).length=i.size:=by simp; omega
      have lS:=PT (w:=w) he (cs:=az) (o:=f.offset) (vs:=nz.take i.size) (by rw [NB,lt]) (by simp; omega);have Pt:=PT (w:=w) he (cs:=df) (o:=f.offset) (vs:=nA.take i.size) (by rw [NC,lt]) (by simp; omega);have Hw:=Kx w (e+1) f.type _ he D (by omega) _ _ Zb Zc;have aU:=aU (f.offset+i.size) (eR.drop i.size) (nz.drop i.size) (nA.drop i.size) Vt (by rw [<- NB,List.drop_drop]) (by rw [<- NC,List.drop_drop]) S' Ta;have sp:lJ nz nA=(lJ (nz.take i.size) (nA.take i.size)&&lJ (nz.drop i.size) (nA.drop i.size)):=by
       have:=ME (nz.take i.size) (nA.take i.size) (nz.drop i.size) (nA.drop i.size) (by simp; omega)
       rwa [List.take_append_drop,List.take_append_drop] at this
      rw [List.forIn_cons];cases aa:lJ (nz.take i.size) (nA.take i.size) with
      | false=>simp [aF,lS,Pt,Hw,aa,sp]
      | true =>
       simp only [aa] at Hw;simp [aF,lS,Pt,Hw,aa,sp];simpa using aU
   have hk:=key fs.toList 0 eR az df aI rfl rfl aP av;unfold Op.equalIn;simp [pack,hu,run_underlying hu,af];rw [<- Array.forIn_toList,hk];cases lJ az df <;> simp
  all_goals
   rename_i hu;simp only [Bool.and_eq_true,beq_iff_eq] at h;obtain ⟨rfl,aa⟩:=h;obtain ⟨a,rfl⟩:∃ v,az=[v]:=by
    rcases az with _ | ⟨v,_ | _⟩ <;> simp at aP;exact ⟨v,rfl⟩
   obtain ⟨b,rfl⟩:∃ v,df=[v]:=by
    rcases df with _ | ⟨v,_ | _⟩ <;> simp at av;exact ⟨v,rfl⟩
   cases a <;> simp [mc] at aP <;> cases b <;> simp [mc] at av;simp [Op.equalIn,pack,hu,run_underlying hu,lJ,MD,aP,av,RX] <;> rfl
end Go.Own
namespace Go.Own
open Go
def tK (P:Program) (t:TypeId) (eR:List n1):Bool :=
 tL P 100 t eR&&(match P.underlying t with | some (.struct _)=>true | _=>false)&&!P.eqGuardType P.depth t
section
variable {P:Program}{g:aK}{t t2:TypeId}{ty:TypeId}{a b:Operand}
theorem Yr {az df:List Value}{eR:List n1}(aP:az.map mc=eR.map some) (av:df.map mc=eR.map some) (aw:tK P t eR=true) (w:World) :
  (do eqGuard .eql t a b (.agg az.toArray) (.agg df.toArray); binOp .eql t (.agg az.toArray) (.agg df.toArray):Sem Value).run P w=.ok (.bool (lJ az df)) w:=by
 simp only [tK,Bool.and_eq_true,Bool.not_eq_true'] at aw;obtain ⟨⟨h1,af⟩,aI⟩:=aw;have h:=Kx w 100 t eR h1 Op.maxDepth (by decide) az df aP av
 split at af
 ·rename_i fs hu;simp only [pack,hu] at h;simp [eqGuard,binOp,aI,Op.equal,h]
 ·cases af
theorem Yt {az df:List Value}{eR:List n1}(aP:az.map mc=eR.map some) (av:df.map mc=eR.map some) (aw:tK P t eR=true) (w:World) :
  (do eqGuard .neq t a b (.agg az.toArray) (.agg df.toArray); binOp .neq t (.agg az.toArray) (.agg df.toArray):Sem Value).run P w=.ok (.bool (!lJ az df)) w:=by
 simp only [tK,Bool.and_eq_true,Bool.not_eq_true'] at aw;obtain ⟨⟨h1,af⟩,aI⟩:=aw;have h:=Kx w 100 t eR h1 Op.maxDepth (by decide) az df aP av
 split at af
 ·rename_i fs hu;simp only [pack,hu] at h;simp [eqGuard,binOp,aI,Op.equal,h]
 ·cases af
namespace O
theorem Bi {va vb:List Value}{eR:List n1}(J:Rd g a (.agg (va.map .lit))) (ax:Rd g b (.agg (vb.map .lit))) (aP:va.map mc=eR.map some) (av:vb.map mc=eR.map some) (aw:tK P t eR=true) :
  cg P g (.binOp .eql t a b t2) ty (a_ (lJ va vb)):=.eX (.A6 J.bs ax.bs rfl λw=>Yr aP av aw w)
theorem Xp {va vb:List Value}{eR:List n1}(J:Rd g a (.agg (va.map .lit))) (ax:Rd g b (.agg (vb.map .lit))) (aP:va.map mc=eR.map some) (av:vb.map mc=eR.map some) (aw:tK P t eR=true) :
  cg P g (.binOp .neq t a b t2) ty (a_ (!lJ va vb)):=.eX (.A6 J.bs ax.bs rfl λw=>Yt aP av aw w)
end O
end
end Go.Own
namespace Go.Own
open Go
section
variable {P:Program}{N:c5}{g g2:aK}{d r k0:Nat}{α:Type}
theorem View.nU {p:Place}{cs cs':List ab}(au:bB g p=some (.obj cs)) (hk:Nat.blt 0 cs.length=true) [h:dr cs cs']:View g (.ptr p 0) (.cI cs') :=
 .ptr au (z:=0) (n:=0) (.inr rfl) (by simpa using hk) (by simpa using h.l) λk x y J ax=>h.v g k x y (by simpa using J) ax
theorem dh.el {en:bK α}{L:List α}{j off:Nat}{i:Int}{y:α}(af:bB g2 ⟨r,[j]⟩=some (aj en L)) (hi:idx L i=some y) (a1:Nat.blt off en.z=true):dh g2 (.ptr ⟨r,[j]⟩ (i.toNat * en.z+off)) :=
 (pc.mk (g:=g2) af hi af hi a1).bV
theorem jz {p:Place}{k:Nat}:∀ z q n m new,ab.ptr p k≠.bL z q n m new:=by simp
inductive yE (g:aK) (d r k0:Nat) (G4:List (Nat × ab)):List (Nat × ab)->Prop
 | nil:yE g d r k0 G4 []
 | c {α:Type}{en:bK α}{L:List α}{s off:Nat}{i:Int}{y:α}{l:List (Nat × ab)}(h:g s=some (.ptr ⟨r,[k0]⟩ (i.toNat * en.z+off))) (au:bB (get G4) ⟨r,[k0]⟩=some (aj en L)) (hi:idx L i=some y) (a1:Nat.blt off en.z=true) (aS:Nat.beq s d=false) (bF:get G4 s=none) (t:yE g d r k0 G4 l):yE g d r k0 G4 ((s,.ptr ⟨r,[k0]⟩ (i.toNat * en.z+off))::l)
theorem yE.spec {G4 l:List (Nat × ab)}(h:yE g d r k0 G4 l):∀ t x,get l t=some x->get G4 t=none/\t≠d/\g t=some x/\∃ m z n cs,x=.ptr ⟨r,[k0]⟩ m/\bB (get G4) ⟨r,[k0]⟩=some (.own z n cs)/\m<cs.length:=by
 induction h with
 | nil=>intro t x J; cases J
 | @c α en L s off i y l h au hi a1 aS bF _ aU =>
  intro t x J;simp only [get] at J
  split at J
  ·rename_i e;subst e;cases J;exact ⟨bF,Nat.ne_of_beq_eq_false aS,h,_,_,_,_,rfl,au,Hy hi a1⟩
  grind
theorem kK.keep {g':aK}{x2:ab}{G2:List (Nat × ab)}(c9:kK g (get G2) r x2 G2) (h1:∀ t,t≠r->g' t=g t) (af:g' r=some x2):hG g' (get G2):=by
 refine ⟨λt x J=>?_,λt x J=>?_,λt z q n m new J=>?_⟩
 ·rcases c9.spec t x J with ⟨a,b,_⟩ | ⟨rfl,rfl,_⟩
  ·grind
  grind
 ·rcases c9.spec t x J with ⟨_,_,aI | ⟨aI,_⟩⟩ | ⟨_,_,aI⟩
  ·exact aI.bV
  ·exact aI.bV
  ·exact .bl aI
 ·rcases c9.spec t _ J with ⟨_,_,aI | ⟨aI,_⟩⟩ | ⟨_,_,aI⟩
  ·exact aI.fx _ _ _ _ _ rfl
  ·exact aI.fx _ _ _ _ _ rfl
  ·cases aI
theorem P3 {cs:List ab}{y x:ab}(h:g r=some (.obj cs)) (hk:cs[k0]?=some x):cu g ⟨r,[k0]⟩ y r=some (.obj (cs.set k0 y)):=by
 grind [cu,ab.setAt,ab.kids,ab.wi]
theorem bm.eT {o:Oper}{y:ab}{cs cs5:List ab}{G1 G4:Value->List (Nat × ab)}{c4:Value->List ab}{G5 A:List (Nat × ab)}(aS:o.dst=some d) (bd:N.ok d=true) (aq:g r=some (.obj cs)) (ax:cs[k0]?=some y) [xv:cf y]
  (h1:∀ v,kK g (get (G1 v)) r (.obj (cs.set k0 (.lit v))) (G1 v)) (aa:∀ v,hP P N (get (G1 v)) o d (get (G4 v))) (abV:∀ v,get (G4 v) r=some (.obj (c4 v))) (abU:∀ v,(c4 v)[k0]?=some (.lit v)) (abW:∀ v,(c4 v).set k0 y=cs5)
  (cF:∀ v,kK (get (G4 v)) (get G5) r (.obj cs5) G5) (T1:bB (get G5) ⟨r,[k0]⟩=some y) (ev:yE g d r k0 G5 A):bm P N g o (get (A++G5)):=by
 refine .call aS bd (hP.TF aq ax xv.bl λv hv=>⟨get (G1 v),get (G4 v),get G5,?_,aa v,?_,?_,T1,?_⟩)
 ·exact (h1 v).keep (λt aw=>uK aw) (P3 aq ax)
 ·grind [bB,ab.at,ab.kids]
 ·refine (cF v).keep (λt aw=>uK aw) ?_
  grind [P3]
 ·refine ⟨λt x h=>?_,λt x h=>?_⟩
  ·rw [En];cases rY:get A t with
   | none=>exact h
   | some z =>
    obtain ⟨lT,_⟩:=ev.spec t z rY
    grind
  ·rw [En] at h;cases rY:get A t with
   | none=>rw [rY] at h; exact .inl h
   | some z =>
    rw [rY] at h;cases h;exact .inr (ev.spec t x rY)
end
end Go.Own
namespace Go.Own
open Go
section
variable {P:Program}{N:c5}{ops:Array Oper}{g g1 mV:aK}{K:aK->Prop}{l:List Oper}{d r:Nat}{t:TypeId}{a b:Operand}{x y:ab}
variable {bf:List (List Nat)}{acc:Acc}{i:Nat}
theorem h2 {a b:Nat}(h:Nat.blt a b=true):a<b:=by simpa using h
def Fh:Option Nat->Nat->Bool
 | none,_=>true
 | some a,d=>!Nat.beq a d
theorem O1 {o:Option Nat}{d:Nat}(h:Fh o d=true):o≠some d:=by
 rintro rfl;simp [Fh] at h
inductive wC (P:Program) (N:c5) (ops:Array Oper) (bf:List (List Nat)) (rs:Place->Prop) (mV g1:aK) (o:Oper) (U:Acc):Acc->Prop
 | nil:wC P N ops bf rs mV g1 o U []
 | c {k d:Nat}{x:ab}{gj:Oper}{V:Acc}(b0:A3 rs mV g1 o x) (h1:g1 d=none) (dq:Fh o.dst d=true) (a1:ops[k]?=some gj) (EI:gj.dst=some d) (bd:N.ok d=true) (hw:iA (dg g1 (λm=>(bf.getD k []).contains m) U) ops gj true)
   (aB:cg P (dg g1 (λm=>(bf.getD k []).contains m) U) gj.op gj.type x) (t:wC P N ops bf rs mV g1 o U V):wC P N ops bf rs mV g1 o U ((k,d,some x)::V)
theorem wC.spec {o:Oper}{U V:Acc}{rs:Place->Prop}(h:wC P N ops bf rs mV g1 o U V):∀ e∈V,(∃ x,e.2.2=some x/\A3 rs mV g1 o x)/\(g1 e.2.1=none/\o.dst≠some e.2.1)/\∃ gj,ops[e.1]?=some gj/\gj.dst=some e.2.1/\N.ok e.2.1=true/\p' P (dg g1 (λm=>(bf.getD e.1 []).contains m) U) ops gj e.2.2:=by
 induction h with
 | nil=>intro e he; cases he
 | c b0 h1 dq a1 EI bd hw aB _ aU =>
  intro e he;rcases List.mem_cons.1 he with rfl | he
  ·exact ⟨⟨_,rfl,b0⟩,⟨h1,O1 dq⟩,_,a1,EI,bd,.inl ⟨hw,.inl aB⟩⟩
  ·exact aU e he
theorem bz.eo (bG:Nat) {G G2:List (Nat × ab)}{U:Acc}{o:Oper}{rs:List Nat}(he:pb P N (so rs) (dg (get G) (λm=>(bf.getD bG []).contains m) acc) o (get G2)) (l7:rs.all (λr=>(get G r).isSome)=true) (aO:o.guard=none) (gR:rj ((acc.filterMap j0).map Place.root)=true) (fH:ma G=true) (ah:Nat.beq ops.size (bG+l.length+1)=true)
  (f':acc.filter (λe=>!(bf.getD bG []).contains e.1)=U) (oc:wC P N ops bf (so rs) (dg (get G) (λm=>(bf.getD bG []).contains m) acc) (get G2) o U U)
  (av:(List.range ops.size).all (λk=>Nat.ble k bG||(bf.getD k []).contains bG)=true) (hk:bz P N ops bf (get G2) (bG+1) U l K):bz P N ops bf (get G) i acc (o::l) K:=by
 intro dU j cn kT lh;have:=zf lh ah;subst this;obtain ⟨h1,af⟩:=drop_cons lh;have nJ:∀ e∈U,e∈acc:=λe he=>by rw [<- f'] at he; exact (List.mem_filter.1 he).1
 have Bx:mO P N ops bf (get G2) (j+1) U:=⟨λe he=>by have:=(kT.le cn).2 e (nJ e he); omega,λe he=>(oc.spec e he).2.1.1,by rw [<- f']; exact (List.filter_sublist.map _).nodup (kT.nodup cn),λe he cj ia h=>kT.uniq cn (nJ e he) (nJ cj ia) h,λe he=>(oc.spec e he).2.2⟩;obtain ⟨g',aq,di⟩:=hk U (j+1) Bx .nil af;refine ⟨g',.wK kT (Fg gR) (vM fH) h1 ?_ he (λr aq e=>by have:=List.all_eq_true.1 l7 r.root aq; rw [e] at this; cases this) f'.symm (λe h=>(oc.spec e h).1) (λe h=>(oc.spec e h).2.1) (λe h=>(oc.spec e h).2.2) ?_ aq,di⟩
 ·unfold iA; rw [aO]
 ·refine List.all_eq_true.2 λk hk=>?_;have:=List.all_eq_true.1 av k hk;simp only [Bool.or_eq_true,decide_eq_true_eq,Nat.ble_eq] at this ⊢;exact this
theorem bz.L7 (bG:Nat) {G G2:List (Nat × ab)}{U:Acc}{o:Oper}{ps:List Place}(he:pb P N (λp=>p∈ps) (dg (get G) (λm=>(bf.getD bG []).contains m) acc) o (get G2)) (l7:ps.all (λr=>(get G r.root).isSome)=true) (aO:o.guard=none) (gR:rj ((acc.filterMap j0).map Place.root)=true) (fH:ma G=true) (ah:Nat.beq ops.size (bG+l.length+1)=true)
  (f':acc.filter (λe=>!(bf.getD bG []).contains e.1)=U) (oc:wC P N ops bf (λp=>p∈ps) (dg (get G) (λm=>(bf.getD bG []).contains m) acc) (get G2) o U U)
  (av:(List.range ops.size).all (λk=>Nat.ble k bG||(bf.getD k []).contains bG)=true) (hk:bz P N ops bf (get G2) (bG+1) U l K):bz P N ops bf (get G) i acc (o::l) K:=by
 intro dU j cn kT lh;have:=zf lh ah;subst this;obtain ⟨h1,af⟩:=drop_cons lh;have nJ:∀ e∈U,e∈acc:=λe he=>by rw [<- f'] at he; exact (List.mem_filter.1 he).1
 have Bx:mO P N ops bf (get G2) (j+1) U:=⟨λe he=>by have:=(kT.le cn).2 e (nJ e he); omega,λe he=>(oc.spec e he).2.1.1,by rw [<- f']; exact (List.filter_sublist.map _).nodup (kT.nodup cn),λe he cj ia h=>kT.uniq cn (nJ e he) (nJ cj ia) h,λe he=>(oc.spec e he).2.2⟩;obtain ⟨g',aq,di⟩:=hk U (j+1) Bx .nil af;refine ⟨g',.wK kT (Fg gR) (vM fH) h1 ?_ he (λr aq e=>by have:=List.all_eq_true.1 l7 r aq; rw [e] at this; cases this) f'.symm (λe h=>(oc.spec e h).1) (λe h=>(oc.spec e h).2.1) (λe h=>(oc.spec e h).2.2) ?_ aq,di⟩
 ·unfold iA; rw [aO]
 ·refine List.all_eq_true.2 λk hk=>?_;have:=List.all_eq_true.1 av k hk;simp only [Bool.or_eq_true,decide_eq_true_eq,Nat.ble_eq] at this ⊢;exact this
theorem pb.box {o:Oper}{r:Nat}{x:ab}{G1 G2:List (Nat × ab)}(he:bm P N (get G1) o (get G2)) (aq:g r=some x) [J:cf x] (hk:Trim false g (get G1) G1) (aQ:get G1 r=none) (h1:get G2 r=none) (aS:Fh o.dst r=true):pb P N (so [r]) g o (get ((r,x)::G2)):=by
 rw [<- sG];exact he.ka.frame aq J.bl hk.keep aQ h1 (O1 aS)
theorem bm.ji {o:Oper}{k0:Nat}{cs cs' cs2:List ab}{G2:List (Nat × ab)}(a1:o.op=.store t a b) (aS:o.dst=none) (aB:g r=some (.obj cs)) (aP:Rd g a (.ptr ⟨r,[]⟩ k0)) (av:Rd g b y) [aF:cf y] (aa:oK y=some cs') (aX:hq P t cs'.length=true)
  (hk:Nat.ble (k0+cs'.length) cs.length=true) (aQ:Nat.blt 0 cs'.length=true) (he:e5 cs k0 cs'=cs2) [e9:dp cs] (aq:(get G2 r).isSome=true) (c9:k' g (get G2) r cs2 G2):bm P N g o (get G2) :=
 .box a1 aS aB aP av aF.bl aa aX (Nat.le_of_ble_eq_true hk) (by simpa using aQ) he (by intro e; rw [e] at aq; cases aq) c9
end
end Go.Own
namespace Go.Own
open Go
section
variable {α:Type}
theorem dr.app {xs ys xs' DE:List ab}(h:dr xs ys) (aR:dr xs' DE):dr (xs++xs') (ys++DE):=⟨by simp [h.l,aR.l],λg k a b aP av=>by
 by_cases hk:k<xs.length
 ·rw [List.getElem?_append_left hk] at aP;rw [List.getElem?_append_left (by rw [h.l]; exact hk)] at av;exact h.v g k a b aP av
 ·rw [List.getElem?_append_right (by omega)] at aP;rw [List.getElem?_append_right (by rw [h.l]; omega),h.l] at av;exact aR.v g _ a b aP av⟩
instance {e cj:bK α}{L:List α} [h:gV e cj]:dr (bo e L) (bo cj L):=⟨(Dv e cj L).1,(Dv e cj L).2⟩
theorem jb.Ks {en:bK α}{L:List α}{n:Nat}{cs cs':List ab}(h:bo en L=cs') (ak:L.length=n) [hv:dr cs cs']:jb (.own en.z n cs) (ag en L):=⟨λg=>by
 subst h ak;exact .own hv.l (hv.v g)⟩
theorem jb.hX {en tJ:bK α}{L M:List α}{m:Nat}{new c3:List ab} [h:gV en tJ] (aF:bo tJ M=c3) (hm:M.length=m) [aR:dr new c3]:jb (.own en.z (L.length+m) (bo en L++new)) (ag tJ (L++M)):=⟨λg=>by
 subst aF hm;have hv:=dr.app (inferInstance:dr (bo en L) (bo tJ L)) aR;show View g (.own en.z (L.length+M.length) (bo en L++new)) (.bk tJ.z (L++M).length (bo tJ (L++M)));have e:bo tJ (L++M)=bo tJ L++bo tJ M:=by simp [bo]
 rw [e,List.length_append,<- h.z];exact .own hv.l (hv.v g)⟩
end
end Go.Own
namespace Go.Own
open Go
section
variable {α:Type}{g g2:aK}{p q:Place}{P:Program}{a b:Operand}{t:TypeId}{ty:TypeId}
theorem dh.a6 {en:bK α}{L:List α}(h:bB g2 p=some (aj en L)):dh g2 (.a6 en.z p L.length):=.ref rfl (.inl ⟨_,_,h,Nat.le_refl _⟩)
theorem iU {z n:Nat}:∀ bC q cG m new,ab.a6 z p n≠.bL bC q cG m new:=by simp
namespace O
theorem RD {en:bK α}{L M r:List α}{e gM m:Nat}{cs:List ab}(aB:Rd g a (.a6 en.z p L.length)) (au:bB g p=some (aj en L)) (J:Rd g b (.a6 en.z q m)) (bg:bB g q=some (.own en.z m cs)) (ak:cs.length=m * en.z) (aW:cs.all l1=true) (hm:M.length=m) (aw:jG P t e en.z gM=true) (av:Nat.ble gM 128=true) (h:c' L M=some r)
  (e9:∀ t z n m new,g t≠some (.bL z p n m new)):cg P g (.call { callee:=.builtin .append,args:=#[a,b],argTypes:=#[t,t] }) ty (.bL en.z p L.length m cs):=by
 subst hm;obtain ⟨h1,af,_⟩:=y4 h av;exact .lS (.grow aB.bs (.inl ⟨_,au⟩) (λt bC cG m' c3 e=>e9 _ _ _ _ _ e) J.bs (Qj bg ak aW) aw h1 af)
end O
end
end Go.Own
