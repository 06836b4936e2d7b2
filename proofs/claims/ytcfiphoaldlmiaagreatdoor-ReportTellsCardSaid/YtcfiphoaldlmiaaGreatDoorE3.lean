/- Parts of the proof that the last text states. -/
import Derived.RowKit3
import Derived.Test.YtcfiphoaldlmiaaGreatDoorE2
namespace Go.Own
open Go
set_option linter.unusedSectionVars false
variable [cw]
structure gF (g1 g2:aG):Prop where
 sub:∀ t x,g2 t=some x->g1 t=some x
 bW:∀ t x,g2 t=some x->eo g2 x
 fg:∀ t z q n m new,g2 t≠some (.bC z q n m new)
structure cN where
 size:Nat
 pins:List Nat
def cN.ok (N:cN) (d:Nat):Bool:=Nat.blt d N.size&&!N.pins.elem d
def hn (N:cN) (T T':Array Value):Prop:=T'.size=T.size/\∀ t∈N.pins,T'[t]?=T[t]?
theorem hn.refl {N:cN}{T:Array Value}:hn N T T:=⟨rfl,λ_ _=>rfl⟩
theorem hn.trans {N:cN}{T LG LH:Array Value}(h:hn N T LG) (h1:hn N LG LH):hn N T LH:=⟨h1.1.trans h.1,λt ak=>(h1.2 t ak).trans (h.2 t ak)⟩
theorem cN.lt {N:cN}{d:Nat}(h:N.ok d=true):d<N.size:=by
 simp_all [cN.ok]
theorem hn.put {N:cN}{d:Nat}(h:N.ok d=true) (T:Array Value) (v:Value):hn N T (T.setIfInBounds d v):=by
 refine ⟨by simp,λt ak=>?_⟩
 grind [cN.ok]
def hD (N:cN) (a:Act) (w:World) (I:a6) (Fs:Nat->a6) (g':aG) (b3:Act) (w':World):Prop :=
 b3.defers=a.defers/\hn N a.tmps b3.tmps/\∃ I' bY,cB w' I' b3.tmps g' bY/\kp w I (λc=>∃ t,Fs t c) w' I' (λc=>∃ t,bY t c)
theorem tX {bY:Nat->a6}{d:Nat}{F:a6}{c:Nat}(h:∃ t,tW bY d F t c):(∃ t,bY t c)\/F c:=by
 obtain ⟨t,h⟩:=h;unfold tW at h
 grind
structure x0 (P:Program) (g:aG) (f:FuncId) (all xs0 xs1 args:List ab) (tk:Nat->Bool) (vw:Bool) (g1 g2:aG) (outs:List (Option ab)) (res:ab) (l:List (Place × ab)) (ks:Nat->Nat) (g4:aG):Prop where
 aU:gR P f=true
 Cb:xs0.length=all.length
 w7:args.length=all.length
 aH:∀ (k:Nat) (x:ab),all[k]?=some x->xs0[k]?=some x\/xs0[k]?=some .dead
 ak:Take g xs0 xs1 g1
 hk:gF g1 g2
 aQ:∀ (k:Nat) (x y:ab),all[k]?=some x->args[k]?=some y->if tk k then xs1[k]?=some y else vw=true/\View g2 x y
 gp:bH P f args outs res
 aj:if vw then jN res else cE res
 wN:∀ (k:Nat) (x:ab),outs[k]?=some (some x)->if vw then jN x else cE x
 ah:∀ (aa:Nat) (p:Place) (x:ab),l[aa]?=some (p,x)->Q8 g g2 all outs (ks aa) p x
 nd:(l.map (·.1)).Nodup
 inj:∀ i aa,i<l.length->aa<l.length->ks i=ks aa->i=aa
 OM:gF (p0 g2 l) g4
section
variable {P:Program}{w:World}{I:a6}{T:Array Value}{g:aG}{Fs:Nat->a6}
theorem jc.keep (h:jc w I T g Fs) {g2:aG}(hk:gF g g2):cB w I T g2 (λt c=>g2 t≠none/\Fs t c) :=
 h.ZR hk.sub hk.bW λ_ _ _ _ _ _ _ _ _ _ _ h1=>absurd h1 (hk.fg _ _ _ _ _ _)
structure ug (g:aG) (d:Nat) (g4 g5:aG):Prop where
 sub:∀ t x,g4 t=some x->g5 t=some x
 new:∀ t x,g5 t=some x->g4 t=some x\/(g4 t=none/\t≠d/\g t=some x/\∃ r k cs,x=.ptr ⟨r,[]⟩ k/\r≠d/\g4 r=some (.obj cs)/\k<cs.length)
theorem ug.refl {d:Nat}{g4:aG}:ug g d g4 g4:=⟨λ_ _ h=>h,λ_ _ h=>.inl h⟩
theorem cB.back (h:cB w I T g Fs) {w':World}{I':a6}{d:Nat}{v:Value}{g4 g5:aG}{Lo:Nat->a6}(bo:cB w' I' (T.setIfInBounds d v) g4 Lo) (au:ug g d g4 g5):cB w' I' (T.setIfInBounds d v) g5 Lo:=by
 refine ⟨λt x j=>?_,λt ak c J=>?_,bo.et,bo.bc,bo.lt,λt t' z p n m new br ck bm cK h1 af=>?_,bo.hd⟩
 ·rcases au.new t x j with aL | ⟨h1,af,aJ,r,k,cs,rfl,cu,dC,jh⟩
  ·obtain ⟨u,hu,aV⟩:=bo.rel t x aL;exact ⟨u,hu,bo.wj (λ_ _=>rfl) (λ_ _ _=>rfl) (λ_ _=>rfl) (λ_ h=>h) au.sub aV λ_ _=>rfl⟩
  ·obtain ⟨u,hu,aV⟩:=h.rel t _ aJ;obtain ⟨⟨z6,ad,aw,a2,rfl⟩,_⟩:=(aV.fS (by simp)).mC;have dn:∀ s,s≠d->(T.setIfInBounds d v)[s]?=T[s]?:=λs ax=>by rw [Array.getElem?_setIfInBounds_ne (Ne.symm ax)]
   refine ⟨_,by rw [dn t af]; exact hu,.tree (.ref rfl ⟨⟨z6,ad,?_,a2,rfl⟩,?_⟩ (bo.kA t h1))⟩
   ·have:dN w T ⟨r,[]⟩=T[r]?:=by
     unfold dN; simp only; cases T[r]? <;> rfl
    rw [this] at aw;unfold dN;simp only [dn r cu,aw,walk]
   ·exact ⟨.obj cs,by simp [bu,au.sub r _ dC,ab.at],0,0,cs,.inr rfl,jh⟩
 ·cases aL:g4 t with
  | none=>exact bo.kA t aL c J
  | some y=>rw [au.sub t y aL] at ak; cases ak
 ·have:∀ {t z p n m new},g5 t=some (.bC z p n m new)->g4 t=some (.bC z p n m new):=by
   intro t z p n m new j;rcases au.new t _ j with aL | ⟨_,_,_,r,k,cs,e,_⟩
   ·exact aL
   ·cases e
  exact bo.qC t t' z p n m new br ck bm cK (this h1) (this af)
def fp (P:Program) (N:cN) (g:aG) (o:Oper) (d:Nat) (g5:aG):Prop :=
 ∀ (w:World) (I:a6) (T:Array Value) (Fs:Nat->a6),cB w I T g Fs->∀ (a:Act),a.tmps=T->a.tmps.size=N.size->∀ (K:Act->World->Prop) (Q:Exit->Act->World->Prop),
  (∀ (b3:Act) (w':World) (v:Value) (I':a6) (bY:Nat->a6),b3.defers=a.defers->b3.tmps=T.setIfInBounds d v->cB w' I' (T.setIfInBounds d v) g5 bY->kp w I (λc=>∃ t,Fs t c) w' I' (λc=>∃ t,bY t c)->K b3 w')->o.wp P a w K Q
theorem fp.sound {N:cN}{o:Oper}{d:Nat}{g5:aG}(J:fp P N g o d g5) (jk:N.ok d=true) (h:cB w I T g Fs) {a:Act}(aQ:a.tmps=T) (a8:a.tmps.size=N.size) {K:Act->World->Prop}{Q:Exit->Act->World->Prop}
  (dz:∀ b3 w',hD N a w I Fs g5 b3 w'->K b3 w'):o.wp P a w K Q :=
 J w I T Fs h a aQ a8 K Q λb3 w' v I' bY h1 af aJ bo=>dz b3 w' ⟨h1,by rw [af,<- aQ]; exact hn.put jk _ _,I',bY,by rw [af]; exact aJ,bo⟩
theorem x0.ok {N:cN}{o:Oper}{c:Operand}{xs:Array Operand}{fI:Array TypeId}{d:Nat}{f:FuncId}{first caps ys xs0 xs1 args:List ab}{tk:Nat->Bool}{vw:Bool}{g1 g2 g4 g5:aG}{outs:List (Option ab)}{res:ab}{l:List (Place × ab)}{ks:Nat->Nat}
  (aM:o.op=.call { callee:=.value c,args:=xs,argTypes:=fI }) (aO:o.dst=some d) (J:bj g c=some (.c7 (.func f) first caps)) (j:fZ g xs.toList=some ys)
  (he:x0 P g f (first++ys++caps) xs0 xs1 args tk vw g1 g2 outs res l ks g4) (aI:g4 d=none) (jk:N.ok d=true) (iA:ug g d (cH g4 d res) g5):fp P N g o d g5:=by
 intro w I T Fs h a aQ a8 K Q dz;obtain ⟨v1,v2,se,ah,mo⟩:=D8 h aQ J j;have gY:(execOp a.eval o).run P w=.ok (.enter f (v1++xs.map a.eval++v2)) w:=by
  simp [execOp,aM,resolve,Deferred.ofValue,se,invoke,AJ he.aU]
 generalize u4:(v1++xs.map a.eval++v2).toList=vs at *;generalize Ie:first++ys++caps=all at *
 -- what is taken
 have uI:Hand w I (fL w T) Fs xs0 vs (λ_=>cb):=by
  refine ⟨by rw [he.Cb,ah],λk x u j hu=>?_,λ_ _ _ _ _ h=>h.elim,λ_ _ _ _ h=>h.elim,λ_ _ _ h=>h.elim⟩;have hk:k<all.length:=by rw [<- he.Cb]; exact (List.getElem?_eq_some_iff.1 j).1
  have A3:=List.getElem?_eq_getElem hk;rcases he.aH k _ A3 with aH | aH
  ·rw [aH] at j; cases j;exact (mo k _ u A3 hu).frame (λ_ _=>rfl) (λ_ h=>h) (λ_ _ h=>h.1) λ_ _=>rfl
  ·rw [aH] at j; cases j;exact .dead λ_ h=>h
 obtain ⟨fu,H1,iU,jx,fN⟩:=he.ak.sound h.lO uI;have NA:∀ c,ly fu xs1.length H1 c->∃ t,Fs t c:=by
  intro c J;rcases fN c J with aL | ⟨_,_,aL⟩
  ·exact aL
  ·exact aL.elim
 have hJ:=iU.keep he.hk;generalize UE:(λt c=>g2 t≠none/\fu t c)=jr at hJ;have Nl:∀ t c,jr t c->fu t c:=by intro t c J; rw [<- UE] at J; exact J.2
 have IY:xs1.length=all.length:=by rw [he.ak.length,he.Cb]
 -- what the callee sees
 let DG:a6:=λc=>I c\/(vw=true/\∃ t,jr t c)
 let x3:Nat->a6:=λt c=>t<all.length/\tk t=true/\H1 t c;have tl:∀ t c,x3 t c->(∀ s,¬ jr s c)/\¬ I c/\∃ t,Fs t c:=by
  rintro t c ⟨h1,af,aJ⟩;exact ⟨λs ax=>jx.off t s c (by omega) aJ (Nl s c ax),jx.bc t c (by omega) aJ,NA c (.inr ⟨t,by omega,aJ⟩)⟩
 have N7:∀ (ρ':ab->Value->Prop) (k:Nat) (y:ab) (u:Value),args[k]?=some y->vs[k]?=some u->R w DG ρ' y u (x3 k):=by
  intro ρ' k y u ai hu;have hk:k<all.length:=by rw [<- he.w7]; exact (List.getElem?_eq_some_iff.1 ai).1
  have A3:=List.getElem?_eq_getElem hk;have:=he.aQ k _ y A3 ai
  split at this
  ·rename_i ak;have mu:cE y:=he.ak.Cp y (List.mem_of_getElem? this);exact (((jx.rel k y u this hu).bd mu).ng λc J=>.inl J).te λc=>⟨λJ=>⟨hk,ak,J⟩,λJ=>J.2.2⟩
  ·rename_i ak;obtain ⟨hv,WM⟩:=this;have fj:R w I (fL w T) all[k] u cb:=(mo k _ u A3 hu).frame (λ_ _=>rfl) (λ_ h=>h) (λ_ _ h=>h.1) λ_ _=>rfl;have:=View.Qm hJ.lO WM fj (λ_ h=>h.elim) ρ';refine (this.ng (I':=DG) λc J=>?_).te λc=>⟨λh=>h.elim,λJ=>absurd J.2.1 ak⟩;rcases J with aL | aL
   ·exact .inl aL
   ·exact .inr ⟨hv,aL⟩
 have U2:cB w DG vs.toArray (oK args) x3:=by
  refine ⟨λt x j=>?_,λt ak c J=>?_,λt t' c J dX=>jx.et t t' c (by have:=J.1; omega) (by have:=dX.1; omega) J.2.2 dX.2.2,λt c J hi=>?_,λc J=>?_,λt t' z p n m new br ck bm cK h1 af=>?_,cw.keep h.hd (λ_ _=>rfl) λ_ h=>.inl h⟩
  ·have ak:t<args.length:=(List.getElem?_eq_some_iff.1 j).1;have hu:vs[t]?=some (vs[t]'(by rw [<- ah,<- he.w7]; exact ak)):=List.getElem?_eq_getElem _;exact ⟨_,by rw [List.getElem?_toArray]; exact hu,.tree (N7 _ t x _ j hu)⟩
  ·have hle:args.length<=t:=by simpa [oK] using ak
   have:=J.1; have:=he.w7; omega
  ·obtain ⟨h1,af,_⟩:=tl t c J;rcases hi with aL | ⟨_,s,aL⟩
   ·exact af aL
   ·exact h1 s aL
  ·rcases J with aL | ⟨_,s,aL⟩
   ·exact h.lt c aL
   ·exact hJ.jm s c aL
  ·have ak:t<args.length:=(List.getElem?_eq_some_iff.1 h1).1;have hu:vs[t]?=some (vs[t]'(by rw [<- ah,<- he.w7]; exact ak)):=List.getElem?_eq_getElem _;exact (N7 (λ_ _=>False) t _ _ h1 hu).kU.elim
 have n9:=he.gp.2 w DG vs x3 (by rw [<- ah,he.w7]) U2;unfold Oper.wp Oper.upon;simp only [gY];rw [<- u4,Array.toArray_toList] at n9;refine Calls.mono n9 ?_;rintro e w' ⟨v,I',bY,rfl,dU,bM⟩;rw [u4] at dU;have lF:outs.length=all.length:=by rw [he.gp.1,he.w7]
 have mZ:vs.length=all.length:=ah.symm
 -- the blocks behind the call
 have PX:∀ t c,jr t c->w'.heap[c]?=w.heap[c]?:=λt c J=>bM.ei.block c (hJ.jm t c J) λ⟨s,ax⟩=>(tl s c ax).1 t J;have qG:∀ c,I c->w'.heap[c]?=w.heap[c]?:=λc J=>bM.ei.block c (h.lt c J) λ⟨s,ax⟩=>(tl s c ax).2.1 J
 let If:a6:=λc=>if vw then I c else I' c
 have Ki:∀ t c,bY t c->(∃ s,x3 s c)\/w.heap.size<=c:=λt c J=>bM.own c ⟨t,J⟩;have Pj:∀ t c,bY t c->∀ s,¬ jr s c:=by
  intro t c J s ax;rcases Ki t c J with ⟨cG,aL⟩ | aL
  ·exact (tl cG c aL).1 s ax
  ·have:=hJ.jm s c ax; omega
 have Pk:∀ t c,bY t c->¬ If c:=by
  intro t c J hi;cases vw with
  | true =>
   simp only [If,if_true] at hi;rcases Ki t c J with ⟨cG,aL⟩ | aL
   ·exact (tl cG c aL).2.1 hi
   ·have:=h.lt c hi; omega
  | false =>
   simp only [If,Bool.false_eq_true,if_false] at hi;exact dU.bc t c J hi
 have Nr:∀ c,If c->I c\/(∃ s,x3 s c)\/w.heap.size<=c:=by
  intro c J;cases vw with
  | true=>simp only [If,if_true] at J; exact .inl J
  | false =>
   simp only [If,Bool.false_eq_true,if_false] at J;rcases bM.new c J with aL | aL | aL
   ·rcases aL with aL | ⟨aL,_⟩
    ·exact .inl aL
    ·cases aL
   ·exact .inr (.inl aL)
   ·exact .inr (.inr aL)
 have HX:∀ c,I c->If c:=by
  intro c J;cases vw with
  | true=>simp only [If,if_true]; exact J
  | false=>simp only [If,Bool.false_eq_true,if_false]; exact bM.more c (.inl J)
 have H_:cB w' If T g2 jr:=by
  have:=hJ.world (w':=w') PX qG bM.ei.size;refine ⟨λt x j=>?_,this.kA,this.et,λt c J hi=>?_,λc J=>?_,this.qC,cw.keep h.hd qG HX⟩
  ·obtain ⟨v,hv,aV⟩:=this.rel t x j;exact ⟨v,hv,aV.frame (λ_ _=>rfl) HX (λ_ _ h=>h) (λ_ _ _ _ _ _ _=>rfl) λ_ _=>rfl⟩
  ·rcases Nr c hi with aL | ⟨s,aL⟩ | aL
   ·exact hJ.bc t c J aL
   ·exact (tl s c aL).1 t J
   ·have:=hJ.jm t c J; omega
  ·cases vw with
   | true=>simp only [If,if_true] at J; exact Nat.lt_of_lt_of_le (h.lt c J) bM.ei.size
   | false=>simp only [If,Bool.false_eq_true,if_false] at J; exact dU.lt c J
 -- what comes back in the arguments, and the result
 have Mc:∀ {x:ab}{u:Value}{F:a6}{ρ ρ':ab->Value->Prop},R w' I' ρ x u F->(if vw then jN x else cE x)->R w' If ρ' x u F:=by
  intro x u F ρ ρ' aV j;cases vw with
  | true=>simp only [if_true] at j; exact aV.kW j
  | false =>
   simp only [Bool.false_eq_true,if_false] at j;refine (aV.bd j).ng λc J=>?_;simpa [If] using J
 have Co:∀ {x:ab},(if vw then jN x else cE x)->∀ z p n m new,x≠.bC z p n m new:=by
  rintro x j z p n m new rfl;cases vw with
  | true=>simp only [if_true] at j; cases j
  | false=>simp only [Bool.false_eq_true,if_false] at j; cases j
 have Yf:∀ (k:Nat) (x:ab) (u:Value),outs[k]?=some (some x)->vs[k]?=some u->R w' If (fL w' T) x u (bY k):=by
  intro k x u j hu;have hk:k<outs.length:=(List.getElem?_eq_some_iff.1 j).1;obtain ⟨tV,hy,aV⟩:=dU.rel k x (by simp only [h5,if_neg (Nat.ne_of_lt hk),j]; rfl);have:tV=u:=by
   rw [List.getElem?_toArray,List.getElem?_append_left (by rw [mZ,<- lF]; exact hk),hu] at hy;exact (Option.some.inj hy).symm
  subst this;exact Mc (aV.fS (Co (he.wN k x j))) (he.wN k x j)
 obtain ⟨KZ,wQ,mn⟩:=dU.rel outs.length res (by simp [h5]);have WH:KZ=v:=by
  have e:outs.length=vs.length:=by omega
  rw [e] at wQ;simpa using wQ.symm
 subst WH
 -- back into the places
 obtain ⟨vQ,yE,yB⟩:=jc.p0 (w:=w') (I:=If) (T:=T) l (λaa=>bY (ks aa)) (λaa=>vs.getD (ks aa) undef) H_.lO he.nd (λaa p x ag=>by
   have L:=he.ah aa p x ag;have hk:ks aa<outs.length:=(List.getElem?_eq_some_iff.1 L.out).1;have hu:vs[ks aa]?=some (vs[ks aa]'(by rw [mZ,<- lF]; exact hk)):=List.getElem?_eq_getElem _;have re:vs.getD (ks aa) undef=vs[ks aa]'(by rw [mZ,<- lF]; exact hk):=by simp [List.getD,hu]
   refine ⟨L.L3,?_,?_,λi e=>?_⟩
   ·rw [re,hJ.xO (w':=w') (λ_ _=>rfl) PX L.L3];rcases L.arg with ⟨z,n,cs,h1,af⟩ | ⟨cs,h1,af⟩
    ·exact RM h (mo _ _ _ h1 hu) af
    ·exact RL h (mo _ _ _ h1 hu) af
   ·rw [re]; exact Yf _ x _ L.out hu
   ·exact L.l_ i e)
  (λaa t c ag J=>Pj _ c J t) (λaa c ag J=>Pk _ c J) (λi aa c hi ag h1 af=>he.inj i aa hi ag (dU.et _ _ c h1 af))
 have H':=yE.keep he.OM;have X':∀ t c,bY outs.length c->¬ (g4 t≠none/\vQ t c):=by
  rintro t c J ⟨_,bo⟩;rcases yB t c bo with aL | ⟨aa,ag,aL⟩
  ·exact Pj _ c J t aL
  ·have hk:ks aa<outs.length:=by
    have tx:=List.getElem?_eq_getElem ag;exact (List.getElem?_eq_some_iff.1 (he.ah aa _ _ tx).out).1
   have:=dU.et _ _ c J aL;omega
 have l8:=H'.sK (d:=d) (x:=res) (v:=KZ) (F:=bY outs.length) aI (by rw [<- aQ,a8]; exact cN.lt jk) (.tree (Mc (mn.fS (Co he.aj)) he.aj)) X' (λc J=>Pk _ c J) (λz p n m new e=>absurd e (Co he.aj z p n m new));refine dz _ _ KZ If _ (by rw [aO]; rfl) (by rw [aO]; simp [Act.put,aQ]) (h.back l8 iA) ⟨?_,HX,λc J=>?_,λc J=>?_⟩
 ·exact bM.ei.mono λb _ ⟨s,ax⟩=>(tl s b ax).2.2
 ·rcases Nr c J with aL | ⟨s,aL⟩ | aL
  ·exact .inl aL
  ·exact .inr (.inl (tl s c aL).2.2)
  ·exact .inr (.inr aL)
 ·have fin:∀ t,bY t c->(∃ s,Fs s c)\/w.heap.size<=c:=by
   intro t ak;rcases Ki t c ak with ⟨s,aL⟩ | aL
   ·exact .inl (tl s c aL).2.2
   ·exact .inr aL
  rcases tX J with ⟨t,_,aL⟩ | aL
  ·rcases yB t c aL with fM | ⟨aa,_,fM⟩
   ·exact .inl (NA c (.inl ⟨t,Nl t c fM⟩))
   ·exact fin _ fM
  ·exact fin _ aL
structure QN (g:aG) (d r k0:Nat) (g4 g5:aG):Prop where
 sub:∀ t x,g4 t=some x->g5 t=some x
 new:∀ t x,g5 t=some x->g4 t=some x\/(g4 t=none/\t≠d/\g t=some x/\∃ m z n cs,x=.ptr ⟨r,[k0]⟩ m/\bu g4 ⟨r,[k0]⟩=some (.own z n cs)/\m<cs.length)
theorem gF.bu {g1 g2:aG}(h:gF g1 g2) {p:Place}{y:ab}(av:bu g2 p=some y):bu g1 p=some y:=by
 unfold Own.bu at *;cases j:g2 p.root with
 | none=>rw [j] at av; cases av
 | some x=>rw [j] at av; rw [h.sub _ _ j]; exact av
theorem fp.TZ {N:cN}{o:Oper}{r k0 d:Nat}{y:ab}{cs:List ab}{g5:aG}(aj:g r=some (.obj cs)) (ai:cs[k0]?=some y) (wW:cE y) (kR:∀ i,y≠.self i)
  (uT:∀ v:Value,v.oneCell'=true->∃ g1 g4 uD,gF (cc g ⟨r,[k0]⟩ (.lit v)) g1/\fp P N g1 o d g4/\bu g4 ⟨r,[k0]⟩=some (.lit v)/\gF (cc g4 ⟨r,[k0]⟩ y) uD/\bu uD ⟨r,[k0]⟩=some y/\QN g d r k0 uD g5):fp P N g o d g5:=by
 intro w I T Fs h a aQ a8 K Q dz;have l7:∀ z q n m new,y≠.bC z q n m new:=by rintro z q n m new rfl; cases wW
 have e5:bu g ⟨r,[k0]⟩=some y:=by simp [bu,aj,ab.at,ab.kids,ai]
 obtain ⟨v,cp,hv,dA,di,put⟩:=h.lO.part e5 l7;have my:v.oneCell'=true:=by
  obtain ⟨u,hu,mm⟩:=h.rel r _ aj;obtain ⟨b,tV,h1,af,aJ,bo,_⟩:=R.node (z:=0) (n:=0) (mm.fS (by simp)) (.inr rfl) ai;have:dN w T ⟨r,[k0]⟩=child w u k0:=by
   unfold dN;simp only [hu,walk];cases child w u k0 <;> rfl
  rw [this,aJ] at hv;cases hv;exact bo
 obtain ⟨fu,iU,yA,AZ⟩:=put (.lit v) cb (.lit my λ_ h=>h) (λ_ h=>h.elim) (λ_ h=>h.elim) (λ_ _ _ h=>h.elim) (λ_ h=>by cases h);obtain ⟨g1,g4,uD,eM,dp,Ih,IS,acT,au⟩:=uT v my;have rP:∀ t c,fu t c->Fs t c/\¬ cp c:=by
  intro t c J;by_cases ak:t=r
  ·subst ak;rcases (yA c).1 J with aL | aL
   ·exact aL
   ·exact aL.elim
  ·rw [AZ t ak] at J;exact ⟨J,λaU=>ak (h.et t r c J (di c aU))⟩
 have H9:=iU.keep eM;refine dp w I T _ H9 a aQ a8 K Q λb3 w' dJ I' bY TC AP dU bM=>?_;obtain ⟨v2,iu,qq,l4,UC,Ku⟩:=dU.lO.part Ih (by simp);have Jj:v2=v:=l4.gK.1;subst Jj;have HV:∀ c,cp c->¬ I c:=λc J=>h.bc r c (di c J);have wq:∀ c,cp c->c<w.heap.size:=λc J=>h.jm r c (di c J);have xh:∀ c,cp c->¬ ∃ t,(g1 t≠none/\fu t c):=λc J ⟨t,_,aL⟩=>(rP t c aL).2 J;have Cr:∀ t c,bY t c->¬ cp c:=by
  intro t c J aU;rcases bM.own c ⟨t,J⟩ with aL | aL
  ·exact xh c aU aL
  ·have:=wq c aU; omega
 have Ka:∀ c,cp c->¬ I' c:=by
  intro c J hi;rcases bM.new c hi with aL | aL | aL
  ·exact HV c J aL
  ·exact xh c J aL
  ·have:=wq c J; omega
 have KE:∀ c,cp c->w'.heap[c]?=w.heap[c]?:=λc J=>bM.ei.block c (wq c J) (xh c J);have qG:∀ c,I c->w'.heap[c]?=w.heap[c]?:=λc J=>bM.ei.block c (h.lt c J) λ⟨t,_,aL⟩=>h.bc t c (rP t c aL).1 J;have A2:R w' I' (fL w' (T.setIfInBounds d dJ)) y v2 cp :=
  ((dA.bd wW).frame qG bM.more (λ_ _ h=>h) KE)
 obtain ⟨Lp,Ia,HQ,HR⟩:=Ku y cp A2 (λc J aU=>(Cr _ c aU J).elim) (λc J=>Ka c J) (λt c _ J aU=>Cr t c aU J) (λi e=>absurd e (kR i));have sc:=Ia.keep IS;have WK:dN w' (T.setIfInBounds d dJ) ⟨r,[k0]⟩=some v2:=qq;have U0:cB w' I' (T.setIfInBounds d dJ) g5 (λt c=>uD t≠none/\Lp t c):=by
  refine ⟨λt x j=>?_,λt ak c J=>?_,sc.et,sc.bc,sc.lt,λt t' z p n m new br ck bm cK h1 af=>?_,sc.hd⟩
  ·rcases au.new t x j with aL | ⟨h1,af,aJ,m,z,n,cs2,rfl,cu,dC⟩
   ·obtain ⟨u,hu,aV⟩:=sc.rel t x aL;exact ⟨u,hu,sc.wj (λ_ _=>rfl) (λ_ _ _=>rfl) (λ_ _=>rfl) (λ_ h=>h) au.sub aV λ_ _=>rfl⟩
   ·obtain ⟨u,hu,aV⟩:=h.rel t _ aJ;obtain ⟨⟨z6,ad,aw,a2,rfl⟩,_⟩:=(aV.fS (by simp)).mC;rw [hv] at aw;cases aw;refine ⟨_,by rw [Array.getElem?_setIfInBounds_ne (Ne.symm af)]; exact hu,.tree (.ref rfl ⟨⟨v2,ad,WK,a2,rfl⟩,?_⟩ (sc.kA t h1))⟩;refine ⟨.own z n cs2,?_,z,n,cs2,.inl rfl,dC⟩;unfold Own.bu at cu ⊢;cases fG:uD r with
    | none=>simp only [fG] at cu; cases cu
    | some x'=>simp only [fG] at cu; simp only [au.sub r x' fG]; exact cu
  ·cases aL:uD t with
   | none=>exact J.1 aL
   | some y=>rw [au.sub t y aL] at ak; cases ak
  ·have:∀ {t z p n m new},g5 t=some (.bC z p n m new)->uD t=some (.bC z p n m new):=by
    intro t z p n m new j;rcases au.new t _ j with aL | ⟨_,_,_,m,z,n,cs2,e,_⟩
    ·exact aL
    ·cases e
   exact sc.qC t t' z p n m new br ck bm cK (this h1) (this af)
 refine dz b3 w' dJ I' _ TC AP U0 ⟨?_,bM.more,λc J=>?_,λc J=>?_⟩
 ·exact bM.ei.mono λb _ ⟨t,_,aL⟩=>⟨t,(rP t b aL).1⟩
 ·rcases bM.new c J with aL | ⟨t,_,aL⟩ | aL
  ·exact .inl aL
  ·exact .inr (.inl ⟨t,(rP t c aL).1⟩)
  ·exact .inr (.inr aL)
 ·obtain ⟨t,_,J⟩:=J;have:(∃ t,bY t c)\/cp c:=by
   by_cases ak:t=r
   ·subst ak;rcases (HQ c).1 J with ⟨aL,_⟩ | aL
    ·exact .inl ⟨_,aL⟩
    ·exact .inr aL
   ·rw [HR t ak] at J; exact .inl ⟨t,J⟩
  rcases this with aL | aL
  ·rcases bM.own c aL with ⟨t,_,fM⟩ | fM
   ·exact .inl ⟨t,(rP t c fM).1⟩
   ·exact .inr fM
  ·exact .inl ⟨r,di c aL⟩
end
end Go.Own
namespace Go.Own
open Go
set_option linter.unusedSectionVars false
variable [cw]
def mQ:ab->Option (List ab)
 | .agg cs=>some cs
 | .lit v=>some [.lit v]
 | .bf=>some [.bf]
 | .bc z n cs=>some [.bc z n cs]
 | .own z n cs=>some [.own z n cs]
 | .obj cs=>some [.obj cs]
 | .cJ cs=>some [.cJ cs]
 | .c7 f a b=>some [.c7 f a b]
 | _=>none
def hc (P:Program) (t:TypeId) (m:Nat):Bool :=
 match P.info? t with
 | some i=>i.size == m
 | none=>false
def nv (P:Program) (N:cN) (g:aG) (o:Oper) (g':aG):Prop :=
 ∀ (w:World) (I:a6) (T:Array Value) (Fs:Nat->a6),cB w I T g Fs->∀ (a:Act),a.tmps=T->a.tmps.size=N.size->∀ (K:Act->World->Prop) (Q:Exit->Act->World->Prop),
  (∀ (b3:Act) (w':World),hD N a w I Fs g' b3 w'->(∀ t,o.dst≠some t->b3.tmps[t]?=a.tmps[t]?)->K b3 w')->o.wp P a w K Q
inductive bF (P:Program) (N:cN) (g:aG):Oper->aG->Prop
 | assign {o:Oper}{d:Nat}{x:Operand}{y bS y':ab}{g1 g2:aG}(aM:o.op=.assign x) (aO:o.dst=some d) (j:bj g x=some y) (ak:Take g [y] [bS] g1) (aS:gE bS y') (hk:gF g1 g2) (aI:g2 d=none) (a8:N.ok d=true):bF P N g o (cH g2 d y')
 | RR {o:Oper}{d:Nat}{x:Operand}{y:ab}{g2:aG}(aM:o.op=.assign x) (aO:o.dst=some d) (j:bj g x=some y) (hk:gF g g2) (ai:eo g2 y) (aI:g2 d=none) (a8:N.ok d=true):bF P N g o (cH g2 d y)
 | store {o:Oper}{t:TypeId}{ad val:Operand}{p:Place}{k z n:Nat}{y bS y' nd:ab}{cs cs':List ab}{g1 g2:aG}(aM:o.op=.store t ad val) (aO:o.dst=none) (fr:bj g ad=some (.ptr p k)) (nI:bj g val=some y) (ak:Take g [y] [bS] g1) (nF:gE bS y')
   (J:mQ y'=some cs') (ax:hc P t cs'.length=true) (av:bu g1 p=some nd) (ft:nd=.own z n cs\/nd=.obj cs) (hk:k+cs'.length<=cs.length) (aH:0<cs'.length)
   (Bp:∀ t x,g2 t=some x->cc g1 p (nd.ew k cs') t=some x) (BF:∀ t x,g2 t=some x->∀ y,g1 t=some y->j7 (λr=>gG g1 r/\Clear p k cs'.length r/\gG g2 r) y) (l7:∀ t z q n m new,g2 t≠some (.bC z q n m new)) (mw:g2 p.root≠none):bF P N g o g2
 | call {o:Oper}{d:Nat}{g5:aG}(aO:o.dst=some d) (a8:N.ok d=true) (h:fp P N g o d g5):bF P N g o g5
 | P6 {o:Oper}{g2:aG}(h:nv P N g o g2):bF P N g o g2
theorem Sy {y:ab}{cs:List ab}(h:r0 y) (J:mQ y=some cs):qS cs:=by
 have one:∀ {x:ab},(∀ aa,x≠.self aa)->qS [x]:=λj k aa e=>by
  cases k with
  | zero=>simp only [List.getElem?_cons_zero,Option.some.injEq] at e; exact j aa e
  | succ k=>simp at e
 cases y <;> simp only [Go.Own.mQ,Option.some.injEq,reduceCtorEq] at J <;> subst J
 all_goals first | exact h _ rfl | exact one (by simp)
theorem View.Cs {g:aG}{x y:ab}(h:View g x y) (j:r0 x):r0 y:=by
 intro cs e k aa hk;cases h with
 | self=>exact j _ e k aa hk
 | agg ah h=>cases e; exact j _ rfl k aa (Fp ah h (λ_ _ _=>View.l_) k aa hk)
 | _=>cases e
theorem gE.Cs {x y:ab}(h:gE x y) (j:r0 x):r0 y:=by
 intro cs e k aa hk;cases h with
 | refl=>exact j _ e k aa hk
 | oh _ h=>exact h.Cs j _ e k aa hk
 | agg ah h=>cases e; exact j _ rfl k aa (Fp ah h (λ_ _ _=>gE.l_) k aa hk)
 | _=>cases e
section
variable {P:Program}{w:World}{I:a6}{T:Array Value}{g:aG}{Fs:Nat->a6}
theorem Hand.one {y:ab}{v:Value}(aV:R w I (dO w T g) y v cb):Hand w I (fL w T) Fs [y] [v] (λ_=>cb) :=
 ⟨rfl,λk x u j hu=>by
  cases k with
  | zero=>simp at j hu; subst j hu; exact aV.frame (λ_ _=>rfl) (λ_ h=>h) (λ_ _ h=>h.1) λ_ _=>rfl
  | succ k=>simp at j,λ_ _ _ _ _ h=>h.elim,λ_ _ _ _ h=>h.elim,λ_ _ _ h=>h.elim⟩
theorem Hand.Kw {ρ:ab->Value->Prop}{y:ab}{v:Value}{dj:Nat->a6}(h:Hand w I ρ Fs [y] [v] dj):R w I ρ y v (dj 0):=h.rel 0 y v rfl rfl
theorem Hand.cells {y:ab}{v:Value}{dj:Nat->a6}(h:Hand w I (fL w T) Fs [y] [v] dj) (az:cE y) {cs:List ab}(J:mQ y=some cs) :
  ∃ x4,Hand w I (fL w T) Fs cs v.cells.toList x4/\(∀ x∈cs,cE x)/\(∀ (aa:Nat) (u:Value),v.cells.toList[aa]?=some u->u.oneCell'=true)/\∀ aa c,aa<cs.length->x4 aa c->dj 0 c:=by
 have aV:=h.Kw;have single:∀ {x:ab},y=x->v.oneCell'=true->∃ x4,Hand w I (fL w T) Fs [x] v.cells.toList x4/\(∀ z∈[x],cE z)/\(∀ (aa:Nat) (u:Value),v.cells.toList[aa]?=some u->u.oneCell'=true)/\∀ aa c,aa<[x].length->x4 aa c->dj 0 c:=by
  rintro x rfl h1;have EA:v.cells=#[v]:=by cases v <;> first | rfl | (simp [Value.oneCell'] at h1)
  grind
 cases y <;> simp only [mQ,Option.some.injEq,reduceCtorEq] at J
 case agg l =>
  subst J;cases aV with
  | ref j=>simp [ab.isRef] at j
  | @agg _ vs bK _ ah h1 aj aO aE =>
   have eG:∀ k c,k<l.length->bK k c->dj 0 c:=λk c hk J=>(aE c).2 ⟨k,hk,J⟩;refine ⟨bK,⟨by simp [Value.cells,ah],λk x u j hu=>aj k x u j (by simpa [Value.cells] using hu),aO,λk t c hk J=>h.off 0 t c (by simp) (eG k c hk J),λk c hk J=>h.bc 0 c (by simp) (eG k c hk J)⟩,?_,λaa u hu=>h1 aa u (by simpa [Value.cells] using hu),eG⟩;cases az with | agg h=>exact h
 case lit a=>subst J; exact single rfl (by obtain ⟨rfl,h1⟩:=aV.gK; exact h1)
 case bf=>subst J; exact single rfl (by rw [aV.pT]; rfl)
 case bc z n l=>subst J; exact single rfl (by obtain ⟨a,cap,rfl,_⟩:=aV.y4; rfl)
 case own z n l=>subst J; exact single rfl (by obtain ⟨a,cap,rfl,_⟩:=aV.mE; rfl)
 case cJ l=>subst J; exact single rfl (by obtain ⟨ad,us,rfl,_⟩:=aV.wY; rfl)
 case obj l =>
  subst J;refine single rfl ?_;cases aV with
  | ref j=>simp [ab.isRef] at j
  | obj=>rfl
 case c7 f a b =>
  subst J;refine single rfl ?_;cases aV with
  | ref j=>simp [ab.isRef] at j
  | c7=>rfl
theorem jb.ng {I':a6}{ρ:ab->Value->Prop}{x:ab}{v:Value}{F:a6}(h:jb w I ρ x v F) (bb:∀ c,I c->I' c):jb w I' ρ x v F:=by
 cases h with
 | tree h=>exact .tree (h.ng bb)
 | bC h=>exact .bC ⟨h.j_,h.iB,h.m',h.ah,h.h1,λk x u j hu=>(h.aj k x u j hu).ng bb,h.aE⟩
theorem M9 {g1:aG}{fu:Nat->a6}{H1:Nat->a6}{bS y':ab}{v:Value}(a_:jc w I T g1 fu) (hH:Hand w I (fL w T) fu [bS] [v] H1) (az:cE bS) (aS:gE bS y') :
  ∃ (I':a6) (sY:a6),(∀ c,I c->I' c)/\(∀ c,I' c->I c\/H1 0 c)/\jc w I' T g1 fu/\Hand w I' (fL w T) fu [y'] [v] (λ_=>sY)/\∀ c,sY c->H1 0 c:=by
 have aV:=hH.Kw;obtain ⟨sY,fz,ie⟩:=R.eF aS aV az (λc J=>hH.bc 0 c (by simp) J) a_.lt a_.hd;refine ⟨λc=>I c\/(H1 0 c/\¬ sY c),sY,λc J=>.inl J,λc J=>J.elim .inl λh=>.inr h.1,⟨λt x j=>?_,a_.kA,a_.et,λt c J hi=>?_,λc J=>?_,cw.keep a_.hd (λ_ _=>rfl) λ_ h=>.inl h⟩,⟨rfl,λk x u j hu=>?_,λaa k c ag hk _ _=>by simp at ag hk; omega,λk t c hk J aU=>hH.off 0 t c (by simp) (fz c J) aU,λk c hk J hi=>?_⟩,fz⟩
 ·obtain ⟨u,hu,mm⟩:=a_.rel t x j;exact ⟨u,hu,mm.ng λc J=>.inl J⟩
 ·rcases hi with h | ⟨h,_⟩
  ·exact a_.bc t c J h
  ·exact hH.off 0 t c (by simp) h J
 ·rcases J with h | ⟨h,_⟩
  ·exact a_.lt c h
  ·exact aV.lt c h
 ·cases k with
  | zero=>simp at j hu; subst j hu; exact ie
  | succ k=>simp at j
 ·rcases hi with h | ⟨_,h⟩
  ·exact hH.bc 0 c (by simp) (fz c J) h
  ·exact h J
theorem bF.oM {N:cN}{o:Oper}{g':aG}(he:bF P N g o g'):nv P N g o g':=by
 intro w I T Fs h a aQ a8 K Q dz;cases he with
 | P6 he=>exact he w I T Fs h a aQ a8 K Q dz
 | @call d _ aO jk J =>
  refine J w I T Fs h a aQ a8 K Q λb3 w' v I' bY h1 af aJ bo=>dz b3 w' ⟨h1,by rw [af,<- aQ]; exact hn.put jk _ _,I',bY,by rw [af]; exact aJ,bo⟩ λt ak=>?_;rw [af,aQ,Array.getElem?_setIfInBounds_ne];rintro rfl;exact ak aO
 | @assign d x y bS y' g1 g2 aM aO j ak aS hk aI jk =>
  have aV:=kB h j aQ;obtain ⟨fu,H1,sb,uI,fN⟩:=ak.sound h.lO (Hand.one aV);have By:cE bS:=ak.Cp bS (by simp);obtain ⟨I',sY,nC,HW,iU,jx,fz⟩:=M9 sb uI By aS;have mu:cE y':=aS.bd By;have hJ:=iU.keep hk;have l8:=hJ.sK (d:=d) (x:=y') (v:=a.eval x) (F:=sY) aI (by rw [<- aQ,a8]; exact cN.lt jk) (.tree (jx.Kw.bd mu)) (λt c J aU=>jx.off 0 t c (by simp) J aU.2) (λc J=>jx.bc 0 c (by simp) J) (by rintro z p n m new rfl; cases mu);have gY:(execOp a.eval o).run P w=.ok (.value (a.eval x)) w:=by simp [execOp,aM]
  unfold Oper.wp Oper.upon;simp only [gY];have gg:∀ c,H1 0 c->∃ t,Fs t c:=λc J=>by
   rcases fN c (.inr ⟨0,by simp,J⟩) with fM | ⟨_,_,fM⟩
   ·exact fM
   ·exact fM.elim
  refine dz _ _ ⟨by rw [aO]; rfl,by rw [aO]; exact hn.put jk _ _,I',_,by rw [aO]; simpa [Act.put,aQ] using l8,⟨Fr.refl _ _,nC,λc J=>(HW c J).elim .inl λh=>.inr (.inl (gg c h)),λc J=>?_⟩⟩ λt ak=>by rw [aO]; simp only [Act.put]; rw [Array.getElem?_setIfInBounds_ne]; rintro rfl; exact ak aO
  rcases tX J with ⟨t,_,aL⟩ | aL
  ·rcases fN c (.inl ⟨t,aL⟩) with fM | ⟨_,_,fM⟩
   ·exact .inl fM
   ·exact fM.elim
  ·exact .inl (gg c (fz c aL))
 | @RR d x y g2 aM aO j hk ai aI jk =>
  have aV:=kB h j aQ;have hJ:=h.lO.keep hk;have ie:R w I (dO w T g2) y (a.eval x) cb:=(aV.frame (ρ':=fL w T) (λ_ _=>rfl) (λ_ h=>h) (λ_ _ h=>h.1) λ_ _=>rfl).bW ai;have l8:=hJ.sK (d:=d) (x:=y) (v:=a.eval x) (F:=cb) aI (by rw [<- aQ,a8]; exact cN.lt jk) (.tree ie) (λ_ _ h=>h.elim) (λ_ h=>h.elim) (by rintro z p n m new rfl; exact ie.kU.elim);have gY:(execOp a.eval o).run P w=.ok (.value (a.eval x)) w:=by simp [execOp,aM]
  unfold Oper.wp Oper.upon;simp only [gY];refine dz _ _ ⟨by rw [aO]; rfl,by rw [aO]; exact hn.put jk _ _,I,_,by rw [aO]; simpa [Act.put,aQ] using l8,⟨Fr.refl _ _,λ_ h=>h,λ_ h=>.inl h,λc J=>?_⟩⟩ λt ak=>by rw [aO]; simp only [Act.put]; rw [Array.getElem?_setIfInBounds_ne]; rintro rfl; exact ak aO
  rcases tX J with ⟨t,_,aL⟩ | aL
  ·exact .inl ⟨t,aL⟩
  ·exact aL.elim
 | @store t ad val p k z n y bS y' nd cs cs' g1 _ aM aO fr nI ak nF J ax av ft hk aH Bp BF l7 mw =>
  have mn:=kB h nI aQ;obtain ⟨⟨u,aaz,hu,uK,tv⟩,_⟩:=(kB h fr aQ).mC;obtain ⟨fu,H0,sb,uI,Ie⟩:=ak.sound h.lO (Hand.one mn);have By:cE bS:=ak.Cp bS (by simp);obtain ⟨I',sY,nC,HW,iU,jx,Wy⟩:=M9 sb uI By nF;have mu:cE y':=nF.bd By;have gg:∀ c,H0 0 c->∃ t,Fs t c:=λc J=>by
   rcases Ie c (.inr ⟨0,by simp,J⟩) with fM | ⟨_,_,fM⟩
   ·exact fM
   ·exact fM.elim
  have fN:∀ c,ly fu 1 (λ_=>sY) c->ly Fs [y].length (λ_=>cb) c:=by
   rintro c (⟨t,J⟩ | ⟨_,_,J⟩)
   ·exact Ie c (.inl ⟨t,J⟩)
   ·exact .inl (gg c (Wy c J))
  obtain ⟨x4,Nq,IB,fy,UJ⟩:=jx.cells mu J;have kU:∀ z q n m new,nd≠.bC z q n m new:=by rcases ft with rfl | rfl <;> simp
  obtain ⟨v,cp,hv,dA,di,_⟩:=iU.part av kU;rw [hu] at hv;cases hv;obtain ⟨b,gi,au,_⟩:=dA.node ft (List.getElem?_eq_getElem (show k<cs.length by omega));rw [uK] at au;cases au;have jX:∃ e arr,w.heap[b]?=some (.cells arr e (0,0))/\cs.length<=arr.size:=by
   rcases ft with rfl | rfl
   ·cases dA with
    | ref j=>simp [ab.isRef] at j
    | own jB ah =>
     obtain ⟨ih,bE⟩:=jB;rcases bE with ⟨rfl,_⟩ | ⟨ix,cap,cur,rfl,_,jJ,rL,tR,zL,xy⟩
     ·simp [addrOf] at uK
     ·simp only [addrOf,Option.some.injEq,Addr.mk.injEq,and_true] at uK;subst uK;refine ⟨_,cur,jJ,?_⟩;rw [ah,<- xy,List.length_take]; simp; omega
   ·cases dA with
    | ref j=>simp [ab.isRef] at j
    | obj jB ah =>
     simp only [addrOf,Option.some.injEq,Addr.mk.injEq,and_true] at uK;subst uK;exact ⟨_,_,jB,by omega⟩
  obtain ⟨e,arr,jX,hle⟩:=jX;obtain ⟨jr,hJ,fz⟩:=iU.store av ft hk Nq IB (λ_=>Sy (nF.Cs (ak.Cs (by simpa using Kg nI) bS (by simp))) J) fy Bp BF l7 mw hu uK jX;have h3:(a.eval val).cells.toList.length=cs'.length:=Nq.len.symm;have bM:=run_storeCells_at P b k e (a.eval val).cells.toList 0 arr w jX (by omega) (λu hu=>by
   obtain ⟨aa,ag,rfl⟩:=List.mem_iff_getElem.1 hu;exact fy aa _ (List.getElem?_eq_getElem ag))
  simp only [Nat.add_zero] at bM;have dL:(sizeOf t).run P w=.ok cs'.length w:=by
   unfold hc at ax;cases hi:P.info? t with
   | none=>simp [hi] at ax
   | some i=>simp [hi] at ax; simp [sizeOf,typeInfo,hi,ax]
  have gY:(execOp a.eval o).run P w=.ok .skip (w.setRow b (ew arr.toList k (a.eval val).cells.toList).toArray):=by
   have gl:(a.eval val).cells.size=cs'.length:=by rw [<- Array.length_toList]; exact h3
   simp only [Nat.zero_add] at tv;simp [execOp,aM,tv,Instr.storeAt,Instr.sureAddr,storeVar,dL,gl,bM,ew]
  unfold Oper.wp Oper.upon;simp only [gY];have tu:∃ t,Fs t b:=by
   rcases fN b (.inl ⟨_,di b (dA.Fm ft (ad:=⟨b,0,none⟩) uK)⟩) with aL | ⟨_,_,aL⟩
   ·exact aL
   ·exact aL.elim
  refine dz _ _ ⟨by rw [aO]; rfl,by rw [aO]; exact hn.refl,I',jr,by rw [aO]; simpa [Act.put,aQ] using hJ,⟨⟨rfl,rfl,rfl,by simp,λc _ J=>setRow_other w b c _ (λe=>J (e ▸ tu)),λa _ _=>Em w b _ a,Nat.le_refl _⟩,nC,λc J=>(HW c J).elim .inl λh=>.inr (.inl (gg c h)),λc ⟨t,J⟩=>?_⟩⟩ λt _=>by rw [aO]; rfl
  rcases fz t c J with aL | ⟨aa,ag,aL⟩
  ·rcases fN c (.inl ⟨t,aL⟩) with fM | ⟨_,_,fM⟩
   ·exact .inl fM
   ·exact fM.elim
  ·rcases fN c (.inr ⟨0,by simp,UJ aa c ag aL⟩) with fM | ⟨_,_,fM⟩
   ·exact .inl fM
   ·exact fM.elim
theorem bF.sound (h:cB w I T g Fs) {a:Act}(aQ:a.tmps=T) {N:cN}(a8:a.tmps.size=N.size) {o:Oper}{g':aG}(he:bF P N g o g') {K:Act->World->Prop}{Q:Exit->Act->World->Prop}
  (dz:∀ b3 w',hD N a w I Fs g' b3 w'->K b3 w'):o.wp P a w K Q:=he.oM w I T Fs h a aQ a8 K Q λb3 w' h _=>dz b3 w' h
end
end Go.Own
namespace Go.Own
open Go
set_option linter.unusedSectionVars false
variable [cw]
def nX (g g':aG):Prop:=∀ t x,g t=some x->g' t=some x
section
variable {P:Program}{g g':aG}
theorem eC (h:nX g g') {x:Operand}{y:ab}(ai:bj g x=some y):bj g' x=some y:=by
 cases x <;> simp only [bj] at ai ⊢
 case tmp t =>
  cases j:g t with
  | none=>rw [j] at ai; cases ai
  | some z=>rw [j] at ai; rw [h t z j]; exact ai
 case const v=>exact ai
 case global n=>exact ai
 case func f=>exact ai
theorem zd (h:nX g g'):∀ {xs:List Operand}{ys:List ab},fZ g xs=some ys->fZ g' xs=some ys
 | [],_,ai=>ai
 | x::xs,ys,ai=>by
  simp only [fZ] at ai ⊢;cases j:bj g x with
  | none=>simp [j] at ai
  | some y =>
   cases rz:fZ g xs with
   | none=>simp [j,rz] at ai
   | some Dx=>simp only [j,rz] at ai; simp only [eC h j,zd h rz]; exact ai
theorem Px (h:nX g g'):∀ {l:List (Nat × Operand)}{ps:List (Nat × List ab)},qz g l=some ps->qz g' l=some ps
 | [],_,ai=>ai
 | (i,x)::l,ps,ai=>by
  simp only [qz] at ai ⊢;cases j:bj g x with
  | none=>simp [j] at ai
  | some y =>
   cases rz:qz g l with
   | none=>simp [j,rz] at ai
   | some Dx=>simp only [j,rz] at ai; simp only [eC h j,Px h rz]; exact ai
theorem pb.mono (h:nX g g') {d:Nat}{x:Option Operand}{aa:Nat}(au:pb g d x aa):pb g' d x aa:=by
 cases x with
 | none=>exact au
 | some o=>obtain ⟨k,hk⟩:=au; exact ⟨k,eC h hk⟩
theorem cS.mono (h:nX g g') {op:Op}{ty:TypeId}{x:ab}(av:cS P g op ty x):cS P g' op ty x:=by
 cases av with
 | move j=>exact .move (eC h j)
 | assign j=>exact .assign (eC h j)
 | pick J aj=>exact .pick (eC h J) (eC h aj)
 | Fl j=>exact .Fl (eC h j)
 | pW j=>exact .pW (eC h j)
 | AT j aU dp=>exact .AT (eC h j) aU (dp.mono h)
 | Ek j aU=>exact .Ek (eC h j) aU
 | Ej j aU ak ai=>exact .Ej (eC h j) aU ak ai
 | Hz j aU ak hk=>exact .Hz (eC h j) aU ak hk
 | EZ j hi ak ag=>exact .EZ (eC h j) (eC h hi) ak ag
 | EY j hi ak ag dp=>exact .EY (eC h j) (eC h hi) ak ag (dp.mono h)
 | Jy j hi ak ag dp=>exact .Jy (eC h j) (eC h hi) ak ag (dp.mono h)
 | Jx j hi ak ag dp=>exact .Jx (eC h j) (eC h hi) ak ag (dp.mono h)
 | Jw j hi ak ag=>exact .Jw (eC h j) (eC h hi) ak ag
 | E' j ak=>exact .E' (eC h j) ak
 | Fa j ak hk=>exact .Fa (eC h j) ak hk
 | Ch j ak ai=>exact .Ch (eC h j) ak (kq h ai)
 | w9 j ak ai J hm=>exact .w9 (eC h j) ak (kq h ai) J hm
 | E0 j hi ak au=>exact .E0 (eC h j) (eC h hi) ak au
 | bin j ai hv aj=>exact .bin (eC h j) (eC h ai) hv aj
 | Aw j ai hv aj=>exact .Aw (eC h j) (eC h ai) hv aj
 | un j hv aj=>exact .un (eC h j) hv aj
 | conv j hv aj=>exact .conv (eC h j) hv aj
 | D_ j av az gl ak=>exact .D_ (eC h j) (kq h av) az gl ak
 | D' j ak=>exact .D' (eC h j) ak
 | @Ef xs fI _ f vs v j hv aj =>
  refine .Ef (vs:=vs) ?_ hv aj;apply List.ext_getElem?;intro k;have:=congrArg (·[k]?) j;simp only [List.getElem?_map] at this ⊢;rw [<- this];cases hk:xs.toList[k]? with
  | none=>rfl
  | some o =>
   rw [hk] at this;cases hv:vs[k]? with
   | none=>rw [hv] at this; cases this
   | some v =>
    rw [hv] at this;simp only [Option.map_some,Option.some.injEq] at this ⊢;rw [this,eC h this]
 | Eg j ai=>exact .Eg (eC h j) ai
 | zT j ah bE ak h1 af=>exact .zT (eC h j) (ah.mono h) (bE.mono h) ak h1 af
 | FX j ah bE ak az dp=>exact .FX (eC h j) (ah.mono h) (bE.mono h) ak az (dp.mono h)
 | FW j ah bE ak h1 af dp=>exact .FW (eC h j) (ah.mono h) (bE.mono h) ak h1 af (dp.mono h)
 | zU j ah bE ak h1 af=>exact .zU (eC h j) (ah.mono h) (bE.mono h) ak h1 af
 | Ce j ak=>exact .Ce (eC h j) ak
 | Cd j ak=>exact .Cd (eC h j) ak
 | JY j ak=>exact .JY (eC h j) ak
 | JX j ak=>exact .JX (eC h j) ak
 | JZ j av ai dz aV aj=>exact .JZ (eC h j) (kq h av) (eC h ai) dz aV aj
 | Cg j ai dz aV aj=>exact .Cg (eC h j) (eC h ai) dz aV aj
 | @lits b xs fI _ vs v j hv aj =>
  refine .lits (vs:=vs) ?_ hv aj;clear aj;generalize xs.toList=l at j
  induction l generalizing vs with
  | nil=>exact j
  | cons x l aK =>
   cases vs with
   | nil=>simp at j
   | cons v vs =>
    simp only [List.map_cons,List.cons.injEq] at j ⊢;exact ⟨eC h j.1,aK j.2⟩
theorem nw.mono (h:nX g g') {op:Op}{ty:TypeId}{x:ab}(av:nw P g op ty x):nw P g' op ty x:=by
 cases av with
 | box j J=>exact .box (eC h j) J
 | alloc aS h1=>exact .alloc aS h1
 | DT aS J=>exact .DT aS J
 | DU aS J=>exact .DU aS J
 | D3 j J aH h1=>exact .D3 (eC h j) J aH h1
 | makeMap ba=>exact .makeMap ba
 | buildSlice ak av j aS J au az hzero=>exact .buildSlice ak av (zd h j) aS J au az hzero
 | makeSlice ak j ai hzero h1 og au az n' u_ EX=>exact .makeSlice ak (eC h j) (eC h ai) hzero h1 og au az n' u_ EX
theorem um.mono (h:nX g g') {op:Op}{ty:TypeId}{x:ab}(av:um P g op ty x):um P g' op ty x:=by
 cases av with
 | build ak aS h1 av J=>exact .build ak aS h1 (Px h av) J
 | makeFunc aQ au=>exact .makeFunc (zd h aQ) (zd h au)
theorem Src.mono (h:nX g g') {y:ab}{z m:Nat}{cells:List ab}(ax:Src g y z m cells):Src g' y z m cells:=by
 cases ax with
 | bc=>exact .bc
 | bf=>exact .bf
 | bn ba hm=>exact .bn (kq h ba) hm
 | sub ba hm=>exact .sub (kq h ba) hm
theorem b5.mono (h:nX g g') {op:Op}{ty:TypeId}{x:ab}(av:b5 P g op ty x) (eN:∀ z p n m new,x=.bC z p n m new->∀ t br ck bm cK,g' t≠some (.bC br p ck bm cK)):b5 P g' op ty x:=by
 cases av with
 | ek av=>exact .ek (av.mono h)
 | o0 av=>exact .o0 (av.mono h)
 | Cx av=>exact .Cx (av.mono h)
 | lj av =>
  cases av with
  | grow ax dp _ j rl ak mS au=>exact .lj (.grow (eC h ax) (dp.mono h) (eN _ _ _ _ _ rfl) (eC h j) (rl.mono h) ak mS au)
  | nil ax j rl ak mS au=>exact .lj (.nil (eC h ax) (eC h j) (rl.mono h) ak mS au)
theorem View.mono (h:nX g g') {x y:ab}(hv:View g x y):View g' x y:=by
 induction hv with
 | pW=>exact .pW
 | self h1 af aJ bo cu dC=>exact .self h1 af aJ bo cu dC
 | mp=>exact .mp
 | ha av=>exact .ha (kq h av)
 | agg ah _ aK=>exact .agg ah aK
 | own ah _ aK=>exact .own ah aK
 | obj ah _ aK=>exact .obj ah aK
 | c7 ah _ aK=>exact .c7 ah aK
 | bn av az ah _ aK=>exact .bn (kq h av) az ah aK
 | sub av az ah _ aK=>exact .sub (kq h av) az ah aK
 | ptr av ai hk ah _ aK=>exact .ptr (kq h av) ai hk ah aK
 | rows av ah _ aK=>exact .rows (av.mono (λav=>kq h av) h) ah aK
theorem c3.mono (h:nX g g') {op:Op}{x:ab}(av:c3 P g op x):c3 P g' op x:=by
 cases av with
 | plain J j aU az gp aj=>exact .plain (eC h J) (zd h j) aU az gp aj
 | E9 J j aU ah hv gp aj=>exact .E9 (eC h J) (zd h j) aU ah (λk x y j ai=>(hv k x y j ai).mono h) gp aj
def h' (g:aG) (ops:Array Oper) (o:Oper) (b:Bool):Prop :=
 match o.guard with
 | none=>b=true
 | some (aa,want)=>∃ t,(ops[aa]?).bind (·.dst)=some t/\((∃ c,g t=some (.lit (.bool c))/\b=(c == want))\/(g t=some (.bN [])/\b=false))
theorem h'.mono (h:nX g g') {ops:Array Oper}{o:Oper}{b:Bool}(hw:h' g ops o b):h' g' ops o b:=by
 unfold h' at *;split
 ·rename_i aI; rw [aI] at hw; exact hw
 ·rename_i aa want aI;rw [aI] at hw;obtain ⟨t,h1,⟨c,af,aJ⟩ | ⟨af,aJ⟩⟩:=hw
  ·exact ⟨t,h1,.inl ⟨c,h t _ af,aJ⟩⟩
  ·exact ⟨t,h1,.inr ⟨h t _ af,aJ⟩⟩
theorem h'.sound {w:World}{I:a6}{T:Array Value}{Fs:Nat->a6}(a_:cB w I T g Fs) {ops:Array Oper}{o:Oper}{b:Bool}(hw:h' g ops o b):Region.wanted o (yielded ops T)=b:=by
 unfold h' at hw;unfold Region.wanted
 split at hw
 ·rename_i aI; rw [aI]; exact hw.symm
 ·rename_i aa want aI;rw [aI];obtain ⟨t,h1,⟨c,af,aJ⟩ | ⟨af,aJ⟩⟩:=hw
  ·obtain ⟨v,hv,aV⟩:=a_.rel _ _ af;have:=(aV.fS (by simp)).gK.1;subst this;subst aJ;simp only [yielded,h1,Option.bind_some,hv];cases c <;> cases want <;> rfl
  ·obtain ⟨v,hv,aV⟩:=a_.rel _ _ af;have:∃ vs,v=.tuple vs:=by
    cases aV.fS (by simp) with
    | bN=>exact ⟨_,rfl⟩
    | ref j=>simp [ab.isRef] at j
   obtain ⟨vs,rfl⟩:=this;subst aJ;simp only [yielded,h1,Option.bind_some,hv];cases want <;> rfl
def pg (P:Program) (g:aG) (ops:Array Oper) (o:Oper):Option ab->Prop
 | none=>h' g ops o false
 | some x=>(h' g ops o true/\(b5 P g o.op o.type x\/c3 P g o.op x))\/(h' g ops o false/\x=.bN [])\/(h' g ops o true/\∃ y,(b5 P g o.op o.type y\/c3 P g o.op y)/\cE y/\View (λ_=>none) y x)
theorem pg.mono (h:nX g g') {ops:Array Oper}{o:Oper}{r:Option ab}(ax:pg P g ops o r) (eN:∀ z p n m new,r=some (.bC z p n m new)->∀ t br ck bm cK,g' t≠some (.bC br p ck bm cK)):pg P g' ops o r:=by
 cases r with
 | none=>exact h'.mono h ax
 | some x =>
  rcases ax with ax | ⟨ax,j⟩ | ⟨ax,y,av,az,hv⟩
  ·refine .inl ⟨ax.1.mono h,?_⟩;rcases ax.2 with av | av
   ·exact .inl (av.mono h λz p n m new e=>eN z p n m new (by rw [e]))
   ·exact .inr (av.mono h)
  ·exact .inr (.inl ⟨ax.mono h,j⟩)
  ·refine .inr (.inr ⟨ax.mono h,y,?_,az,hv⟩);rcases av with av | av
   ·exact .inl (av.mono h λz p n m new e=>by subst e; cases az)
   ·exact .inr (av.mono h)
def leaf:ab->Bool
 | .own .. | .obj .. | .agg .. | .bN .. | .bC .. | .mp .. | .dv ..=>false
 | _=>true
def del (g:aG) (d:Nat):aG:=λt=>if t=d then none else g t
theorem XM {x y:ab}(h:leaf x=true):∀ {q:List Nat},x.at q=some y->y=x
 | [],ai=>by simpa [ab.at] using ai.symm
 | k::q,ai=>by
  have:x.kids=[]:=by cases x <;> first | rfl | simp [leaf] at h
  simp [ab.at,this] at ai
theorem yn {d:Nat}{x:ab}(aO:g d=some x) (ah:leaf x=true) {p:Place}{y:ab}(av:bu g p=some y) (ai:leaf y=false):bu (del g d) p=some y:=by
 have aj:p.root≠d:=by
  intro e;unfold bu at av;rw [e,aO] at av;rw [XM ah av,ah] at ai;cases ai
 simp only [bu,del,if_neg aj] at av ⊢;exact av
theorem gG.del {d:Nat}{x:ab}(aO:g d=some x) (ah:leaf x=true) {r:ab}(h:gG g r):gG (del g d) r:=by
 have root:∀ {t:Nat}{y:ab},g t=some y->leaf y=false->Own.del g d t=some y:=by
  intro t y ak ai;have:t≠d:=by
   rintro rfl;rw [aO] at ak;cases ak;rw [ah] at ai; cases ai
  simp only [Own.del,if_neg this,ak]
 cases r <;> simp only [gG] at h ⊢
 case ptr p k =>
  obtain ⟨y,ai,z,n,cs,ej,hk⟩:=h;exact ⟨y,yn aO ah ai (by rcases ej with rfl | rfl <;> rfl),z,n,cs,ej,hk⟩
 case bn z p n =>
  rcases h with ⟨N,cs,ai,az⟩ | ⟨h1,q,gr,m,new,af,aJ⟩
  ·exact .inl ⟨N,cs,yn aO ah ai rfl,az⟩
  ·exact .inr ⟨h1,q,gr,m,new,root af rfl,aJ⟩
 case sub z p lo n =>
  obtain ⟨N,cs,ai,az⟩:=h;exact ⟨N,cs,yn aO ah ai rfl,az⟩
 case ha p=>obtain ⟨q,h⟩:=h; exact ⟨q,yn aO ah h rfl⟩
 case bC z p n m new =>
  rcases h with ⟨cs,ai⟩ | ⟨h1,q,gr,m,new,cs,af,aJ,bo⟩
  ·exact .inl ⟨cs,yn aO ah ai rfl⟩
  ·exact .inr ⟨h1,q,gr,m,new,cs,root af rfl,aJ,yn aO ah bo rfl⟩
theorem R.XL {w:World}{I:a6}{ρ:ab->Value->Prop}{x:ab}{v:Value}{F:a6}(h:R w I ρ x v F) (ah:leaf x=true):∀ c,¬ F c:=by
 cases h with
 | own | obj | agg | bN | mp | dv=>simp [leaf] at ah
 | lit _ aE | bf aE | dead aE | j1 aE | ref _ _ aE | hj aE | bc aE | cJ aE | c7 aE | imp aE=>exact aE
theorem cB.drop {w:World}{I:a6}{T:Array Value}{Fs:Nat->a6}(h:cB w I T g Fs) {d:Nat}{x:ab}(aO:g d=some x) (ah:leaf x=true):cB w I T (del g d) Fs:=by
 refine ⟨λt y ai=>?_,λt ak c J=>?_,h.et,h.bc,h.lt,λt t' z p n m new br ck bm cK h1 af=>?_,h.hd⟩
 ·have oe:g t=some y:=by
   unfold del at ai
   split at ai
   ·cases ai
   ·exact ai
  obtain ⟨v,hv,aV⟩:=h.rel t y oe;exact ⟨v,hv,aV.frame (λ_ _=>rfl) (λ_ h=>h) (λ_ _ aj=>⟨aj.1,aj.2.del aO ah⟩) (λ_ _ _ _ _ _ _=>rfl) λ_ _=>rfl⟩
 ·unfold del at ak
  split at ak
  ·rename_i e;subst e;obtain ⟨v,hv,aV⟩:=h.rel t x aO;exact (aV.fS (by rintro z p n m new rfl; simp [leaf] at ah)).XL ah c J
  ·exact h.kA t ak c J
 ·have key:∀ {t:Nat}{y:ab},del g d t=some y->g t=some y:=by
   intro t y ai;unfold del at ai
   split at ai
   ·cases ai
   ·exact ai
  exact h.qC _ _ _ _ _ _ _ _ _ _ _ (key h1) (key af)
end
end Go.Own
namespace Go.Own
open Go
set_option linter.unusedSectionVars false
variable [cw]
def xx (g:aG) (d:Nat):Option ab->aG
 | some x=>cH g d x
 | none=>g
section
variable {P:Program}{w:World}{I:a6}{T:Array Value}{g:aG}{Fs:Nat->a6}{N:cN}{ops:Array Oper}
theorem kp.refl (w:World) (I U:a6):kp w I U w I U:=⟨Fr.refl _ _,λ_ h=>h,λ_ h=>.inl h,λ_ h=>.inl h⟩
theorem kp.trans {w eR eY:World}{I Aj uj U yg LI:a6}(h:kp w I U eR Aj yg) (h1:kp eR Aj yg eY uj LI):kp w I U eY uj LI:=by
 have iF:∀ c,c<w.heap.size->yg c->U c:=λc J hu=>by
  rcases h.own c hu with aL | aL
  ·exact aL
  ·omega
 refine ⟨h.ei.trans h1.ei iF,λc J=>h1.more c (h.more c J),λc J=>?_,λc J=>?_⟩
 ·rcases h1.new c J with aL | aL | aL
  ·exact h.new c aL
  ·rcases h.own c aL with fM | fM
   ·exact .inr (.inl fM)
   ·exact .inr (.inr fM)
  ·exact .inr (.inr (Nat.le_trans h.ei.size aL))
 ·rcases h1.own c J with aL | aL
  ·exact h.own c aL
  ·exact .inr (Nat.le_trans h.ei.size aL)
theorem hD.trans {N:cN}{a aw a2:Act}{eR eY:World}{Aj:a6}{fu:Nat->a6}{g2:aG}(h1:aw.defers=a.defers) (af:hn N a.tmps aw.tmps) (bM:kp w I (λc=>∃ t,Fs t c) eR Aj (λc=>∃ t,fu t c)) (h:hD N aw eR Aj fu g2 a2 eY):hD N a w I Fs g2 a2 eY:=by
 obtain ⟨bO,b7,uj,jr,a_,ob⟩:=h;exact ⟨bO.trans h1,af.trans b7,uj,jr,a_,bM.trans ob⟩
theorem cB.YF (h:cB w I T g Fs) {d:Nat}(aO:g d=none) (v:Value):cB w I (T.setIfInBounds d v) g Fs:=by
 have dn:∀ t,g t≠none->(T.setIfInBounds d v)[t]?=T[t]?:=by
  intro t ak;rw [Array.getElem?_setIfInBounds_ne];rintro rfl; exact ak aO
 refine ⟨λt x j=>?_,h.kA,h.et,h.bc,h.lt,h.qC,h.hd⟩;obtain ⟨u,hu,aV⟩:=h.rel t x j;exact ⟨u,by rw [dn t (by rw [j]; simp)]; exact hu,h.wj dn (λ_ _ _=>rfl) (λ_ _=>rfl) (λ_ h=>h) (λ_ _ h=>h) aV λ_ _=>rfl⟩
structure GD (eF:Nat->Bool) (g g2:aG):Prop where
 iF:∀ t x,g2 t=some x->eF t=false->g t=some x/\eo g2 x
 oh:∀ t x,g2 t=some x->eF t=true->∃ y,g t=some y/\cE y/\gE y x
 fg:∀ t z q n m new,g2 t≠some (.bC z q n m new)
theorem cB.uC (h:cB w I T g Fs) {eF:Nat->Bool}{g2:aG}(aS:GD eF g g2):∃ I' bY,cB w I' T g2 bY/\kp w I (λc=>∃ t,Fs t c) w I' (λc=>∃ t,bY t c):=by
 have qj:=h.lO;have Co:∀ t x,g2 t=some x->∀ z p n m new,x≠.bC z p n m new:=by
  rintro t x j z p n m new rfl;exact aS.fg _ _ _ _ _ _ j
 -- of each slot what it owns from now on
 have:∀ t,∃ cM:a6,(∀ c,cM c->Fs t c/\g2 t≠none)/\∀ x,g2 t=some x->(eF t=false->∀ c,Fs t c->cM c)/\∃ v,T[t]?=some v/\R w (λc=>I c\/(Fs t c/\¬ cM c)) (dO w T g2) x v cM:=by
  intro t;cases j:g2 t with
  | none=>exact ⟨cb,λ_ h=>h.elim,λx h=>by cases h⟩
  | some x =>
   cases ak:eF t with
   | false =>
    obtain ⟨h1,af⟩:=aS.iF t x j ak;obtain ⟨v,hv,aV⟩:=qj.rel t x h1;refine ⟨Fs t,λc J=>⟨J,by simp⟩,λy ai=>?_⟩;cases ai;exact ⟨λ_ _ h=>h,v,hv,((aV.fS (Co t x j)).bW af).ng λc J=>.inl J⟩
   | true =>
    obtain ⟨y,h1,af,aJ⟩:=aS.oh t x j ak;obtain ⟨v,hv,aV⟩:=qj.rel t y h1;have ie:=aV.fS (by rintro z p n m new rfl; cases af);obtain ⟨cM,ax,UZ⟩:=R.eF aJ ie af (λc J=>qj.bc t c J) qj.lt qj.hd;refine ⟨cM,λc J=>⟨ax c J,by simp⟩,λz aS=>?_⟩;cases aS;exact ⟨λh=>absurd h (by simp),v,hv,UZ.bd (aJ.bd af)⟩
 obtain ⟨bY,iT⟩:=Classical.axiomOfChoice this;refine ⟨λc=>I c\/∃ t,Fs t c/\g2 t≠none/\¬ bY t c,bY,⟨λt x j=>?_,λt ak c J=>((iT t).1 c J).2 ak,λt t' c J dX=>h.et t t' c ((iT t).1 c J).1 ((iT t').1 c dX).1,λt c J hi=>?_,λc J=>?_,λt t' z p n m new br ck bm cK h1 _=>absurd h1 (aS.fg _ _ _ _ _ _),cw.keep h.hd (λ_ _=>rfl) λ_ h=>.inl h⟩,Fr.refl _ _,λ_ h=>.inl h,λc J=>?_,λc ⟨t,J⟩=>.inl ⟨t,((iT t).1 c J).1⟩⟩
 ·obtain ⟨_,v,hv,aV⟩:=(iT t).2 x j;exact ⟨v,hv,.tree (aV.ng λc J=>J.elim .inl λJ=>.inr ⟨t,J.1,by rw [j]; simp,J.2⟩)⟩
 ·rcases hi with aL | ⟨s,h1,_,af⟩
  ·exact h.bc t c ((iT t).1 c J).1 aL
  ·have:=h.et t s c ((iT t).1 c J).1 h1;subst this;exact af J
 ·rcases J with aL | ⟨s,aL,_⟩
  ·exact h.lt c aL
  ·exact h.jm s c aL
 ·rcases J with aL | ⟨s,aL,_⟩
  ·exact .inl aL
  ·exact .inr (.inl ⟨s,aL⟩)
theorem pg.sound (h:cB w I T g Fs) {a:Act}(aQ:a.tmps=T) (a8:a.tmps.size=N.size) {o:Oper}{r:Option ab}{d:Nat}(ax:pg P g ops o r) (aO:o.dst=some d) (aI:g d=none) (jk:N.ok d=true) {K:Act->World->Prop}{Q:Exit->Act->World->Prop}
  (dz:∀ b3 w',hD N a w I Fs (xx g d r) b3 w'->K b3 w') :
  if Region.wanted o (yielded ops a.tmps) then o.wp P a w K Q\/(o.asks P a w/\LetsOut Q) else K (a.put o.dst undef) w:=by
 subst aQ;cases r with
 | none =>
  rw [h'.sound h ax];simp only [Bool.false_eq_true,if_false];refine dz _ _ ⟨by rw [aO]; rfl,by rw [aO]; exact hn.put jk _ _,I,Fs,by rw [aO]; exact h.YF aI _,kp.refl _ _ _⟩
 | some x =>
  have fin:∀ x v w',uh w I a.tmps g Fs x v w'->(∀ b3 w',hD N a w I Fs (cH g d x) b3 w'->K b3 w')->K (a.put o.dst v) w':=by
   rintro x v w' ⟨F,I',a_,aV,h1,af,aJ,bo,cu,dC⟩ dz;refine dz _ _ ⟨by rw [aO]; rfl,by rw [aO]; exact hn.put jk _ _,I',_,by rw [aO]; exact a_.sK aI (by rw [a8]; exact cN.lt jk) aV (λt c J aU=>h1 t c J aU) (λc J=>(af c J).2) dC,⟨cu,aJ,λc J=>?_,λc J=>?_⟩⟩
   ·rcases bo c J with aL | aL
    ·exact .inl aL
    ·exact .inr (.inr aL)
   ·rcases tX J with aL | aL
    ·exact .inl aL
    ·exact .inr (af c aL).1
  have oh:∀ y v w',cE y->View (λ_=>none) y x->uh w I a.tmps g Fs y v w'->uh w I a.tmps g Fs x v w':=by
   rintro y v w' az hv ⟨F,I',a_,aV,h1,af,aJ,bo,cu,dC⟩;have dA:=aV.fS (by rintro z p n m new rfl; cases az);refine ⟨cb,λc=>I' c\/F c,⟨λt z aS=>?_,a_.kA,a_.et,λt c J hi=>?_,λc J=>?_,a_.qC,cw.keep a_.hd (λ_ _=>rfl) λ_ h=>.inl h⟩,.tree (dA.oh az hv (λc J=>(af c J).2) a_.lt a_.hd),λ_ _ h=>h.elim,λ_ h=>h.elim,λc J=>.inl (aJ c J),λc J=>?_,cu,?_⟩
   ·obtain ⟨u,hu,mm⟩:=a_.rel t z aS;exact ⟨u,hu,mm.ng λc J=>.inl J⟩
   ·rcases hi with h | h
    ·exact a_.bc t c J h
    ·exact h1 t c h J
   ·rcases J with h | h
    ·exact a_.lt c h
    ·exact dA.lt c h
   ·rcases J with h | h
    ·exact bo c h
    ·exact .inr (af c h).1
   ·rintro z p n m new rfl;cases hv with
    | self h=>cases h
  rcases ax with ax | ⟨ax,rfl⟩ | ⟨ax,y,av,az,hv⟩
  rotate_left
  rotate_left
  ·rw [h'.sound h ax];simp only [if_true];refine .inl ?_;have M5:∀ v w',uh w I a.tmps g Fs y v w'->K (a.put o.dst v) w':=λv w' cT=>fin x v w' (oh y v w' az hv cT) dz;rcases av with av | av
   ·obtain ⟨v,w',gY,cT⟩:=av.sound h rfl;unfold Oper.wp Oper.upon;simp only [gY];exact M5 v w' cT
   ·exact av.sound h rfl M5
  rotate_left
  ·rw [h'.sound h ax];simp only [Bool.false_eq_true,if_false];refine dz _ _ ⟨by rw [aO]; rfl,by rw [aO]; exact hn.put jk _ _,I,_,by rw [aO]; exact h.sK aI (by rw [a8]; exact cN.lt jk) (.tree (.bN (Fs:=λ_=>cb) (F:=cb) rfl (λk x u j _=>by simp at j) (λ_ _ _ _ _ h=>h.elim) (λc=>⟨λh=>h.elim,λ⟨_,_,h⟩=>h⟩))) (λ_ _ h=>h.elim) (λ_ h=>h.elim) (λ_ _ _ _ _ e=>by cases e),⟨Fr.refl _ _,λ_ h=>h,λ_ h=>.inl h,λc J=>?_⟩⟩;rcases tX J with aL | aL
   ·exact .inl aL
   ·exact aL.elim
  rw [h'.sound h ax.1];simp only [if_true];refine .inl ?_;have fin:∀ v w',uh w I a.tmps g Fs x v w'->K (a.put o.dst v) w':=by
   rintro v w' ⟨F,I',a_,aV,h1,af,aJ,bo,cu,dC⟩;refine dz _ _ ⟨by rw [aO]; rfl,by rw [aO]; exact hn.put jk _ _,I',_,by rw [aO]; exact a_.sK aI (by rw [a8]; exact cN.lt jk) aV (λt c J aU=>h1 t c J aU) (λc J=>(af c J).2) dC,⟨cu,aJ,λc J=>?_,λc J=>?_⟩⟩
   ·rcases bo c J with aL | aL
    ·exact .inl aL
    ·exact .inr (.inr aL)
   ·rcases tX J with aL | aL
    ·exact .inl aL
    ·exact .inr (af c aL).1
  rcases ax.2 with av | av
  ·obtain ⟨v,w',gY,cT⟩:=av.sound h rfl;unfold Oper.wp Oper.upon;simp only [gY];exact fin v w' cT
  ·exact av.sound h rfl fin
inductive nZ (P:Program) (N:cN) (ops:Array Oper):List Nat->aG->aG->Prop
 | nil {g:aG}:nZ P N ops [] g g
 | step {i:Nat}{rest:List Nat}{g g':aG}{o:Oper}{d:Nat}{r:Option ab}(aM:ops[i]?=some o) (aO:o.dst=some d) (aI:g d=none) (jk:N.ok d=true) (ax:pg P g ops o r)
   (aj:nZ P N ops rest (xx g d r) g'):nZ P N ops (i::rest) g g'
 | oM {i:Nat}{rest:List Nat}{g g1 g':aG}{o:Oper}(aM:ops[i]?=some o) (hw:h' g ops o true) (he:bF P N g o g1) (aj:nZ P N ops rest g1 g'):nZ P N ops (i::rest) g g'
 | drop {is:List Nat}{g g':aG}{d:Nat}{x:ab}(aO:g d=some x) (ah:leaf x=true) (aj:nZ P N ops is (del g d) g'):nZ P N ops is g g'
 | forget {is:List Nat}{g g1 g':aG}(hk:gF g g1) (aj:nZ P N ops is g1 g'):nZ P N ops is g g'
 | uC {is:List Nat}{g g1 g':aG}{eF:Nat->Bool}(hk:GD eF g g1) (aj:nZ P N ops is g1 g'):nZ P N ops is g g'
theorem nZ.sound {is:List Nat}{g':aG}(aj:nZ P N ops is g g'):∀ {a:Act}{w:World}{I:a6}{Fs:Nat->a6}{Q:Exit->Act->World->Prop},cB w I a.tmps g Fs->a.tmps.size=N.size ->
  (∀ b3 w',hD N a w I Fs g' b3 w'->Q .normal b3 w')->wpOps P ops Q is a w:=by
 induction aj with
 | nil=>exact λa_ a8 dD=>dD _ _ ⟨rfl,hn.refl,_,_,a_,kp.refl _ _ _⟩
 | @step i rest g g' o d r aM aO aI jk ax _ aK =>
  intro a w I Fs Q a_ a8 dD;simp only [wpOps,aM];refine ax.sound a_ rfl a8 aO aI jk λb3 w' az=>?_;obtain ⟨bO,b7,I',bY,dU,bM⟩:=az;exact aK dU (b7.1.trans a8) λa2 eY af=>dD _ _ (hD.trans bO b7 bM af)
 | @oM i rest g g1 g' o aM hw he _ aK =>
  intro a w I Fs Q a_ a8 dD;simp only [wpOps,aM,hw.sound a_,if_true];refine .inl (he.sound a_ rfl a8 λb3 w' az=>?_);obtain ⟨bO,b7,I',bY,dU,bM⟩:=az;exact aK dU (b7.1.trans a8) λa2 eY af=>dD _ _ (hD.trans bO b7 bM af)
 | @drop is g g' d x aO ah _ aK=>exact λa_ a8 dD=>aK (a_.drop aO ah) a8 dD
 | @uC is g g1 g' eF hk _ aK =>
  intro a w I Fs Q a_ a8 dD;obtain ⟨I',bY,dU,bM⟩:=a_.uC hk;exact aK dU a8 λa2 eY af=>dD _ _ (hD.trans rfl hn.refl bM af)
 | @forget is g g1 g' hk _ aK =>
  intro a w I Fs Q a_ a8 dD;have dU:=a_.lO.keep hk;refine aK dU a8 λa2 eY af=>dD _ _ (hD.trans rfl hn.refl ⟨Fr.refl _ _,λ_ h=>h,λ_ h=>.inl h,λc J=>?_⟩ af);obtain ⟨t,_,J⟩:=J;exact .inl ⟨t,J⟩
end
end Go.Own
namespace Go.Own
open Go
set_option linter.unusedSectionVars false
variable [cw]
def rM (rs:List Nat):Place->Prop:=λp=>p.root∈rs
def pc (P:Program) (N:cN) (rs:Place->Prop) (g:aG) (o:Oper) (g':aG):Prop :=
 ∀ (w:World) (I:a6) (T:Array Value) (Fs:Nat->a6),cB w I T g Fs->∀ (a:Act),a.tmps=T->a.tmps.size=N.size->∀ (K:Act->World->Prop) (Q:Exit->Act->World->Prop),
  (∀ (b3:Act) (w':World),hD N a w I Fs g' b3 w'->(∀ t,o.dst≠some t->b3.tmps[t]?=a.tmps[t]?)->(∀ r path,rs ⟨r,path⟩->∀ y,bu g ⟨r,path⟩=some y->(∀ z q n m new,y≠.bC z q n m new)->dN w' b3.tmps ⟨r,path⟩=dN w T ⟨r,path⟩)->K b3 w')->o.wp P a w K Q
theorem nv.v {P:Program}{N:cN}{g g':aG}{o:Oper}(h:nv P N g o g'):pc P N (rM []) g o g' :=
 λw I T Fs a_ a aQ a8 K Q dz=>h w I T Fs a_ a aQ a8 K Q λb3 w' h1 af=>dz b3 w' h1 af λ_ _ h=>by simp [rM] at h
inductive pe:ab->Prop
 | lit {v:Value}:pe (.lit v)
 | bf:pe .bf
 | bc {z n:Nat}{cs:List ab}(h:∀ x∈cs,cE x):pe (.bc z n cs)
 | agg {cs:List ab}(h:∀ x∈cs,pe x):pe (.agg cs)
theorem pe.bd {x:ab}(h:pe x):cE x:=by
 induction h with
 | lit=>exact .lit
 | bf=>exact .bf
 | bc h=>exact .bc h
 | agg _ aK=>exact .agg aK
theorem pe.kA {w:World}{I:a6}{ρ:ab->Value->Prop}{x:ab}(h:pe x):∀ {v:Value}{F:a6},R w I ρ x v F->∀ c,¬ F c:=by
 induction h with
 | lit =>
  intro v F aV;cases aV with
  | lit _ aE=>exact aE
  | ref j=>simp [ab.isRef] at j
 | bf =>
  intro v F aV;cases aV with
  | bf aE=>exact aE
  | ref j=>simp [ab.isRef] at j
 | bc =>
  intro v F aV;cases aV with
  | ref j=>simp [ab.isRef] at j
  | hj aE=>exact aE
  | bc aE=>exact aE
 | @agg cs _ aK =>
  intro v F aV c J;cases aV with
  | ref j=>simp [ab.isRef] at j
  | @agg _ vs bK _ ah h1 aj aO lD =>
   obtain ⟨k,hk,af⟩:=(lD c).1 J;have hu:vs[k]?=some (vs[k]'(by omega)):=Array.getElem?_eq_getElem (by omega);exact aK _ (List.getElem_mem hk) (aj k _ _ (List.getElem?_eq_getElem hk) hu) c af
structure Gw (g:aG):Prop where
 bW:∀ t x,g t=some x->eo g x
 fg:∀ t z q n m new,g t≠some (.bC z q n m new)
def Aq (rs:Place->Prop) (g g1:aG) (o:Oper) (x:ab):Prop:=(∃ r path z n N cs,x=.bn z ⟨r,path⟩ n/\rs ⟨r,path⟩/\bu g ⟨r,path⟩=some (.own z N cs)/\bu g1 ⟨r,path⟩=some (.own z N cs)/\n<=N)\/(∃ v,x=.lit v)\/(∃ s p k,x=.ptr p k/\g s=some x/\g1 s=some x/\o.dst≠some s)\/(∃ r k cs,x=.ptr ⟨r,[]⟩ k/\g1 r=some (.obj cs)/\k<cs.length/\o.dst≠some r/\∃ cs',g r=some (.obj cs')/\k<cs'.length)\/(∃ z n cs,x=.bc z n cs/\cE x)\/(∃ cs,x=.agg cs/\pe x/\Gw g)
section
variable {P:Program}{N:cN}{g g1:aG}{o:Oper}
theorem Qa {T:Array Value}{t:Nat}{v:Value}(h:T[t]?=some v):T.setIfInBounds t v=T:=by
 apply Array.ext (by simp);intro i h1 af;rw [Array.getElem_setIfInBounds];split
 ·rename_i e;subst e;have:=(Array.getElem?_eq_some_iff.1 h);exact this.2.symm
 ·rfl
theorem cB.To {w:World}{I:a6}{T:Array Value}{Fs:Nat->a6}{t:Nat}{x:ab}(h:cB w I T (cH g t x) Fs) (aI:g t=none) (J:Gw g) (kO:∀ c,¬ Fs t c):cB w I T g Fs:=by
 have fz:∀ s y,g s=some y->cH g t x s=some y:=λs y ax=>by
  unfold cH;rw [if_neg (λe=>by rw [e,aI] at ax; cases ax)]; exact ax
 have af:=h.lO.keep (g2:=g) ⟨fz,J.bW,J.fg⟩;have e:(λs c=>g s≠none/\Fs s c)=Fs:=by
  funext s c;apply propext;refine ⟨λh=>h.2,λaU=>⟨λaz=>?_,aU⟩⟩;by_cases ax:s=t
  ·subst ax; exact kO c aU
  ·exact h.kA s (by unfold cH; rw [if_neg ax]; exact az) c aU
 rw [e] at af;exact af
theorem pc.extra {rs:Place->Prop}(h:pc P N rs g o g1) {t:Nat}{x:ab}(lH:∀ p,rs p->g p.root≠none) (aI:g t=none) (VS:g1 t=none) (ak:o.dst≠some t) (j:Aq rs g g1 o x):pc P N rs (cH g t x) o (cH g1 t x):=by
 intro w I T Fs a_ a aQ a8 K Q dz;have Ji:cH g t x t=some x:=by simp [cH]
 have l7:∀ z q n m new,x≠.bC z q n m new:=by
  rcases j with ⟨r,path,z,n,N,cs,rfl,_⟩ | ⟨v,rfl⟩ | ⟨s,p,k,rfl,_⟩ | ⟨r,k,cs,rfl,_⟩ | ⟨z,n,cs,rfl,_⟩ | ⟨cs,rfl,_⟩ <;> simp
 have sb:cB w I T g Fs:=by
  have Az:leaf x=true->cB w I T g Fs:=λuP=>by
   have:=a_.drop Ji uP;have e:del (cH g t x) t=g:=by
    funext s;unfold del cH;by_cases ax:s=t
    ·subst ax; simp [aI]
    ·simp [ax]
   rwa [e] at this
  rcases j with ⟨r,path,z,n,N,cs,rfl,_⟩ | ⟨v,rfl⟩ | ⟨s,p,k,rfl,_⟩ | ⟨r,k,cs,rfl,_⟩ | ⟨z,n,cs,rfl,_⟩ | ⟨cs,rfl,wL,h3⟩
  ·exact Az rfl
  ·exact Az rfl
  ·exact Az rfl
  ·exact Az rfl
  ·exact Az rfl
  ·obtain ⟨v,_,mn⟩:=a_.rel t _ Ji;exact a_.To aI h3 (wL.kA (mn.fS (by simp)))
 obtain ⟨v,hv,mn⟩:=a_.rel t x Ji;refine h w I T Fs sb a aQ a8 K Q λb3 w' az nH Ol=>dz b3 w' ?_ nH λr path aj y ai l7=>?_
 rotate_left
 ·by_cases N9:r=t
  ·subst N9;exact absurd aI (lH _ aj)
  ·exact Ol r path aj y (by simpa [bu,cH,N9] using ai) l7
 obtain ⟨bO,b7,I',bY,dU,bM⟩:=az;have iD:b3.tmps[t]?=some v:=by rw [nH t ak,aQ]; exact hv
 have ie:jb w' I' (dO w' b3.tmps g1) x v cb:=by
  rcases j with ⟨r,path,z,n,uk,cs,rfl,aj,yX,iX,Wb⟩ | ⟨u,rfl⟩ | ⟨s,p,k,rfl,ax,uW,Wt⟩ | ⟨r,k,cs,rfl,iX,hk,pM,_⟩ | ⟨z,n,cs,rfl,mu⟩ | ⟨cs,rfl,wL,h3⟩
  ·obtain ⟨⟨aw,iv,cap,gH,rfl,k7⟩,_⟩:=(mn.fS (by simp)).mB;exact .tree (.ref rfl ⟨⟨aw,iv,cap,by rw [Ol r path aj _ yX (by simp)]; exact gH,rfl,k7⟩,.inl ⟨uk,cs,iX,Wb⟩⟩ λ_ h=>h)
  ·obtain ⟨rfl,J⟩:=(mn.fS (by simp)).gK;exact .tree (.lit J λ_ h=>h)
  ·obtain ⟨⟨z6,ad,aw,a2,rfl⟩,_⟩:=(mn.fS (by simp)).mC;have bM:s≠t:=by rintro rfl; rw [aI] at ax; cases ax
   obtain ⟨u,hu,mm⟩:=sb.rel s _ ax;obtain ⟨⟨F0,aay,gH,hs,rfl⟩,_⟩:=(mm.fS (by simp)).mC;rw [aw] at gH;cases gH;rw [a2] at hs;cases hs;obtain ⟨tV,hy,H8⟩:=dU.rel s _ uW;have:b3.tmps[s]?=T[s]?:=by rw [nH s Wt,aQ]
   rw [this,hu] at hy;cases hy;exact .tree (.ref rfl (H8.fS (by simp)).mC λ_ h=>h)
  ·obtain ⟨⟨z6,ad,aw,a2,rfl⟩,_⟩:=(mn.fS (by simp)).mC;have dn:b3.tmps[r]?=T[r]?:=by rw [nH r pM,aQ]
   have nI:∀ (w:World) (T:Array Value),dN w T ⟨r,[]⟩=T[r]?:=λw T=>by
    unfold dN; simp only; cases T[r]? <;> rfl
   exact .tree (.ref rfl ⟨⟨z6,ad,by rw [nI,dn,<- nI w T]; exact aw,a2,rfl⟩,⟨.obj cs,by simp [bu,iX,ab.at],0,0,cs,.inr rfl,hk⟩⟩ λ_ h=>h)
  ·have qG:∀ c,I c->w'.heap[c]?=w.heap[c]?:=λc J=>bM.ei.block c (a_.lt c J) λ⟨t',aL⟩=>sb.bc t' c aL J;have H5:=(mn.fS (by simp)).bd mu (ρ':=dO w' b3.tmps g1);have kO:∀ c,¬ Fs t c:=by
    cases mn.fS (by simp) with
    | ref j=>simp [ab.isRef] at j
    | hj aE=>exact aE
    | bc aE=>exact aE
   exact .tree ((H5.frame qG bM.more (λ_ _ h=>h) λc J=>absurd J (kO c)).empty kO)
  ·have qG:∀ c,I c->w'.heap[c]?=w.heap[c]?:=λc J=>bM.ei.block c (a_.lt c J) λ⟨t',aL⟩=>sb.bc t' c aL J;have kO:=wL.kA (mn.fS (by simp));have H5:=(mn.fS (by simp)).bd wL.bd (ρ':=dO w' b3.tmps g1);exact .tree ((H5.frame qG bM.more (λ_ _ h=>h) λc J=>absurd J (kO c)).empty kO)
 have l8:=dU.sK (d:=t) (x:=x) (v:=v) (F:=cb) VS (Array.getElem?_eq_some_iff.1 iD).1 ie (λ_ _ h=>h.elim) (λ_ h=>h.elim) (λz p n m new e=>absurd e (l7 _ _ _ _ _));rw [Qa iD] at l8;refine ⟨bO,b7,I',_,l8,⟨bM.ei,bM.more,bM.new,λc J=>?_⟩⟩;rcases tX J with aL | aL
 ·exact bM.own c aL
 ·exact aL.elim
theorem nv.frame {g0 HE:aG}{r:Nat}{x:ab}(h:nv P N g0 o HE) (aj:g r=some x) (j:cE x) (hk:gF g g0) (aH:g0 r=none) (h1:HE r=none) (aO:o.dst≠some r):pc P N (rM [r]) g o (cH HE r x):=by
 intro w I T Fs a_ a aQ a8 K Q dz;have sb:=a_.lO.keep hk;refine h w I T _ sb a aQ a8 K Q λb3 w' az nH=>?_;obtain ⟨bO,b7,I',bY,dU,bM⟩:=az;obtain ⟨u,hu,aV⟩:=a_.rel r x aj;have hy:b3.tmps[r]?=some u:=by rw [nH r aO,aQ]; exact hu
 have l7:∀ z q n m new,x≠.bC z q n m new:=by rintro z q n m new rfl; cases j
 have off:∀ c,Fs r c->¬ ∃ t,(g0 t≠none/\Fs t c):=by
  rintro c J ⟨t,kg,af⟩;have:=a_.et t r c af J;subst this;exact kg aH
 have same:∀ c,Fs r c->w'.heap[c]?=w.heap[c]?:=λc J=>bM.ei.block c (a_.jm r c J) (off c J);have qG:∀ c,I c->w'.heap[c]?=w.heap[c]?:=λc J=>bM.ei.block c (a_.lt c J) λ⟨t,_,aL⟩=>a_.bc t c aL J;have l8:=dU.sK (d:=r) (x:=x) (v:=u) (F:=Fs r) h1 (Array.getElem?_eq_some_iff.1 hy).1 (.tree (((aV.fS l7).bd j).frame qG bM.more (λ_ _ h=>h) same)) (λt c J aU=>by
   rcases bM.own c ⟨t,aU⟩ with aL | aL
   ·exact off c J aL
   ·have:=a_.jm r c J; omega) (λc J hi=>by
   rcases bM.new c hi with aL | aL | aL
   ·exact a_.bc r c J aL
   ·exact off c J aL
   ·have:=a_.jm r c J; omega) (λz p n m new e=>absurd e (l7 _ _ _ _ _))
 rw [Qa hy] at l8;refine dz b3 w' ⟨bO,b7,I',_,l8,⟨bM.ei.mono λb _ ⟨t,_,aL⟩=>⟨t,aL⟩,bM.more,λc J=>?_,λc J=>?_⟩⟩ nH λdk path ee y ai hyp=>?_
 ·rcases bM.new c J with aL | ⟨t,_,aL⟩ | aL
  ·exact .inl aL
  ·exact .inr (.inl ⟨t,aL⟩)
  ·exact .inr (.inr aL)
 ·rcases tX J with aL | aL
  ·rcases bM.own c aL with ⟨t,_,fM⟩ | fM
   ·exact .inl ⟨t,fM⟩
   ·exact .inr fM
  ·exact .inl ⟨r,aL⟩
 ·have ee:dk∈[r]:=ee;simp only [List.mem_singleton] at ee;subst ee;have eM:gF g (λt=>if t=dk then some x else none):=by
   refine ⟨λt y e0=>?_,λt y e0=>?_,λt z q n m new e0=>?_⟩
   all_goals
    by_cases e:t=dk
    case neg=>simp [e] at e0
   ·subst e; simp at e0; subst e0; exact aj
   ·subst e; simp at e0; subst e0; exact .bd j
   ·subst e; simp at e0; exact l7 _ _ _ _ _ e0
  refine (a_.lO.keep eM).xO (T':=b3.tmps) (λt ak=>?_) (λt c J=>?_) (p:=⟨dk,path⟩) (y:=y) ?_
  ·by_cases e:t=dk
   ·subst e; rw [nH t aO,aQ]
   ·simp [e] at ak
  ·by_cases e:t=dk
   ·subst e; exact same c J.2
   ·simp [e] at J
  ·simp only [bu,if_true];simpa [bu,aj] using ai
end
end Go.Own
namespace Go.Own
open Go
set_option linter.unusedSectionVars false
variable [cw]
abbrev Acc:=List (Nat × Nat × Option ab)
def c9 (g0:aG) (A:Nat->Bool):Acc->aG
 | [],t=>g0 t
 | (k,d,r)::acc,t=>if d=t then (if A k then r else none) else c9 g0 A acc t
def ke:Nat × Nat × Option ab->Option Place
 | (_,_,some (.bC _ p _ _ _))=>some p
 | _=>none
def oI (ops:Array Oper) (a':List (List Nat)):Bool :=
 (List.range ops.size).all λk =>
  match ops[k]? with
  | none=>true
  | some o=>(o.after.all λe=>!Region.binds .any e||decide (e.on<k))&&(a'.getD k []).all λm=>decide (m<k)&&o.after.any λe=>Region.binds .any e&&(e.on == m||(a'.getD e.on []).contains m)
inductive h_ (P:Program) (N:cN) (ops:Array Oper) (a':List (List Nat)) (g0:aG) (i:Nat) (dM:Acc):Nat->Acc->Prop
 | nil:h_ P N ops a' g0 i dM i dM
 | step {aa:Nat}{acc:Acc}{o:Oper}{d:Nat}{r:Option ab}(h:h_ P N ops a' g0 i dM aa acc) (aM:ops[aa]?=some o) (aO:o.dst=some d) (aI:g0 d=none) (az:∀ e∈acc,e.2.1≠d) (jk:N.ok d=true)
   (ax:pg P (c9 g0 (λm=>(a'.getD aa []).contains m) acc) ops o r):h_ P N ops a' g0 i dM (aa+1) ((aa,d,r)::acc)
structure mJ (P:Program) (N:cN) (ops:Array Oper) (a':List (List Nat)) (g0:aG) (i:Nat) (dM:Acc):Prop where
 lt:∀ e∈dM,e.1<i
 free:∀ e∈dM,g0 e.2.1=none
 nd:(dM.map (·.2.1)).Nodup
 Qz:∀ e∈dM,∀ bZ∈dM,(e.1=bZ.1\/e.2.1=bZ.2.1)->e=bZ
 st:∀ e∈dM,∃ gW,ops[e.1]?=some gW/\gW.dst=some e.2.1/\N.ok e.2.1=true/\pg P (c9 g0 (λm=>(a'.getD e.1 []).contains m) dM) ops gW e.2.2
theorem mJ.nil {P:Program}{N:cN}{ops:Array Oper}{a':List (List Nat)}{g0:aG}{i:Nat}:mJ P N ops a' g0 i []:=⟨by simp,by simp,by simp,by simp,by simp⟩
inductive rY (P:Program) (N:cN) (ops:Array Oper) (a':List (List Nat)):Nat->Acc->aG->aG->Prop
 | fin {i:Nat}{dM:Acc}{g:aG}{acc:Acc}(ax:h_ P N ops a' g i dM ops.size acc) (gS:(acc.filterMap ke).Nodup) (fO:∀ t z q n m new,g t≠some (.bC z q n m new)):rY P N ops a' i dM g (c9 g (λ_=>true) acc)
 | yp {i aa:Nat}{g g1 g':aG}{dM acc U:Acc}{o:Oper}{rs:Place->Prop}(ax:h_ P N ops a' g i dM aa acc) (gS:(acc.filterMap ke).Nodup) (fO:∀ t z q n m new,g t≠some (.bC z q n m new)) (aM:ops[aa]?=some o) (hw:h' (c9 g (λm=>(a'.getD aa []).contains m) acc) ops o true)
   (he:pc P N rs (c9 g (λm=>(a'.getD aa []).contains m) acc) o g1) (lH:∀ p,rs p->g p.root≠none) (gg:U=acc.filter λe=>!(a'.getD aa []).contains e.1) (j:∀ e∈U,∃ x,e.2.2=some x/\Aq rs (c9 g (λm=>(a'.getD aa []).contains m) acc) g1 o x) (h1:∀ e∈U,g1 e.2.1=none/\o.dst≠some e.2.1)
   (af:∀ e∈U,∃ gW,ops[e.1]?=some gW/\gW.dst=some e.2.1/\N.ok e.2.1=true/\pg P (c9 g1 (λm=>(a'.getD e.1 []).contains m) U) ops gW e.2.2)
   (au:(List.range ops.size).all (λk=>decide (k<=aa)||(a'.getD k []).contains aa)=true) (aj:rY P N ops a' (aa+1) U g1 g'):rY P N ops a' i dM g g'
theorem ma {g0:aG}{A:Nat->Bool}{acc:Acc}{t:Nat}(h:∀ e∈acc,e.2.1≠t):c9 g0 A acc t=g0 t:=by
 induction acc with
 | nil=>rfl
 | cons e acc aK =>
  grind [c9]
theorem tY {g0:aG}{A:Nat->Bool}{acc:Acc}{t:Nat}{x:ab}(h:c9 g0 A acc t=some x):(∃ e∈acc,e.2.1=t/\A e.1=true/\e.2.2=some x)\/((∀ e∈acc,e.2.1≠t)/\g0 t=some x):=by
 induction acc with
 | nil=>exact .inr ⟨by simp,h⟩
 | cons e acc aK =>
  grind [c9]
theorem K2 {g:aG}{A:Nat->Bool}{acc:Acc}(hu:∀ e∈acc,∀ bZ∈acc,e.2.1=bZ.2.1->e=bZ) {e:Nat × Nat × Option ab}(he:e∈acc):c9 g A acc e.2.1=if A e.1 then e.2.2 else none:=by
 induction acc with
 | nil=>cases he
 | cons a acc aK =>
  grind [c9]
section
variable {P:Program}{N:cN}{ops:Array Oper}{a':List (List Nat)}{g0:aG}{i:Nat}
variable {dM:Acc}
theorem h_.le {aa:Nat}{acc:Acc}(h:h_ P N ops a' g0 i dM aa acc) (gg:mJ P N ops a' g0 i dM):i<=aa/\∀ e∈acc,e.1<aa:=by
 induction h with
 | nil=>exact ⟨Nat.le_refl _,gg.lt⟩
 | step _ _ _ _ _ _ _ aK =>
  grind
theorem h_.ge {aa:Nat}{acc:Acc}(h:h_ P N ops a' g0 i dM aa acc) (gg:mJ P N ops a' g0 i dM):∀ e∈acc,e∈dM\/i<=e.1:=by
 induction h with
 | nil=>exact λe he=>.inl he
 | step ax _ _ _ _ _ _ aK =>
  intro e he;rcases List.mem_cons.1 he with rfl | he
  ·exact .inr (ax.le gg).1
  grind
theorem h_.KQ {aa:Nat}{acc:Acc}(h:h_ P N ops a' g0 i dM aa acc):∀ e∈dM,e∈acc:=by
 induction h with
 | nil=>exact λe he=>he
 | step _ _ _ _ _ _ _ aK=>exact λe he=>by simp [aK e he]
theorem h_.fresh {aa:Nat}{acc:Acc}(h:h_ P N ops a' g0 i dM aa acc) (gg:mJ P N ops a' g0 i dM):∀ e∈acc,g0 e.2.1=none:=by
 induction h with
 | nil=>exact gg.free
 | step _ _ _ aI _ _ _ aK =>
  grind
theorem h_.nodup {aa:Nat}{acc:Acc}(h:h_ P N ops a' g0 i dM aa acc) (gg:mJ P N ops a' g0 i dM):(acc.map (·.2.1)).Nodup:=by
 induction h with
 | nil=>exact gg.nd
 | step _ _ _ _ az _ _ aK =>
  grind
theorem h_.uniq {aa:Nat}{acc:Acc}(h:h_ P N ops a' g0 i dM aa acc) (gg:mJ P N ops a' g0 i dM):∀ {e bZ:Nat × Nat × Option ab},e∈acc->bZ∈acc->(e.1=bZ.1\/e.2.1=bZ.2.1)->e=bZ:=by
 induction h with
 | nil=>exact λ{e bZ} he h4 bE=>gg.Qz e he bZ h4 bE
 | @step aa acc o d r ax _ _ _ az _ _ aK =>
  intro e bZ he h4 bE;rcases List.mem_cons.1 he with rfl | he <;> rcases List.mem_cons.1 h4 with rfl | h4
  ·rfl
  ·rcases bE with bE | bE
   ·have:=(ax.le gg).2 bZ h4
    grind
   grind
  ·rcases bE with bE | bE
   ·have:=(ax.le gg).2 e he
    grind
   grind
  grind
theorem h_.at_mem {aa:Nat}{acc:Acc}(h:h_ P N ops a' g0 i dM aa acc) (gg:mJ P N ops a' g0 i dM) {A:Nat->Bool}{e:Nat × Nat × Option ab}(he:e∈acc):c9 g0 A acc e.2.1=if A e.1 then e.2.2 else none :=
 K2 (λ_ j _ ai aL=>h.uniq gg j ai (.inr aL)) he
theorem h_.get {aa:Nat}{acc:Acc}(h:h_ P N ops a' g0 i dM aa acc) (gg:mJ P N ops a' g0 i dM):∀ e∈acc,∃ o DR,ops[e.1]?=some o/\o.dst=some e.2.1/\N.ok e.2.1=true/\pg P (c9 g0 (λm=>(a'.getD e.1 []).contains m) DR) ops o e.2.2/\∀ e∈DR,e∈acc:=by
 induction h with
 | nil =>
  intro e he;obtain ⟨gW,h1,af,aJ,bo⟩:=gg.st e he
  grind
 | @step aa acc o d r ax aM aO aI az jk bM aK =>
  intro e he;rcases List.mem_cons.1 he with rfl | he
  ·grind
  grind
theorem h_.has {aa:Nat}{acc:Acc}(h:h_ P N ops a' g0 i dM aa acc):∀ k,i<=k->k<aa->∃ e∈acc,e.1=k:=by
 induction h with
 | nil=>intro k h1 af; omega
 | @step aa acc o d r ax aM aO aI az jk bM aK =>
  grind [List.mem_cons_self]
theorem Yt {acc:Acc}(gS:(acc.filterMap ke).Nodup) {e bZ:Nat × Nat × Option ab}{p:Place}(he:e∈acc) (h4:bZ∈acc) (h:ke e=some p) (aL:ke bZ=some p):e=bZ:=by
 induction acc with
 | nil=>simp at he
 | cons a acc aK =>
  grind
def eB (listed:Array Bool) (k:Nat):Bool:=listed.getD k false
def gI (ops:Array Oper) (listed:Array Bool):Nat:=((List.range ops.size).filter λk=>!eB listed k).length
theorem ux {listed:Array Bool}{k:Nat}(hk:k<ops.size) (ah:eB listed k=false) (dL:listed.size=ops.size):gI ops (listed.setIfInBounds k true)+1<=gI ops listed:=by
 unfold gI;have key:∀ l:List Nat,l.Nodup->((l.filter λaa=>!eB (listed.setIfInBounds k true) aa).length+if k∈l then 1 else 0)=(l.filter λaa=>!eB listed aa).length:=by
  intro l
  induction l with
  | nil=>intro _; simp
  | cons aa l aK =>
   intro ft;have Wd:=List.nodup_cons.1 ft;have adx:=aK Wd.2;by_cases fY:aa=k
   ·simp_all [eB]
   ·have h1:eB (listed.setIfInBounds k true) aa=eB listed aa:=by simp [eB,Array.getElem?_setIfInBounds_ne (Ne.symm fY)]
    grind
 grind
end
end Go.Own
namespace Go.Own
open Go
set_option linter.unusedSectionVars false
variable [cw]
section
variable {P:Program}{N:cN}{ops:Array Oper}{a':List (List Nat)}
def Down (a':List (List Nat)) (listed:Array Bool):Prop:=∀ k,eB listed k=true->∀ m∈a'.getD k [],eB listed m=true
theorem LQ (h:oI ops a'=true) {k:Nat}{o:Oper}(aM:ops[k]?=some o) :
  (∀ e∈o.after,Region.binds .any e=true->e.on<k)/\∀ m∈a'.getD k [],m<k/\∃ e∈o.after,Region.binds .any e=true/\(e.on=m\/m∈a'.getD e.on []):=by
 grind [oI,Array.all_eq_true_iff_forall_mem]
theorem xz {listed:Array Bool}{k:Nat}(h:k∈Region.ready .any ops listed):eB listed k=false/\∃ o,ops[k]?=some o/\∀ e∈o.after,Region.binds .any e=true->eB listed e.on=true:=by
 grind [mem_ready,eB]
theorem Kv (dm:oI ops a'=true) {listed:Array Bool}(aO:Down a' listed) {k:Nat}(h:k∈Region.ready .any ops listed):∀ m∈a'.getD k [],eB listed m=true:=by
 obtain ⟨_,o,aM,af⟩:=xz h;intro m hm;obtain ⟨_,e,he,au,aJ⟩:=(LQ dm aM).2 m hm;rcases aJ with rfl | aJ
 ·grind
 ·exact aO e.on (af e he au) m aJ
theorem PG (dm:oI ops a'=true) {listed:Array Bool}(dL:listed.size=ops.size):∀ k,k<ops.size->eB listed k=false->Region.ready .any ops listed≠[]:=by
 intro k
 induction k using Nat.strongRecOn with
 | _ k aK =>
  intro hk ah;by_cases hex:∃ aa,aa<k/\eB listed aa=false
  ·grind
  ·have pJ:k∈Region.ready .any ops listed:=by
    refine mem_ready.2 ⟨?_,ops[k],Array.getElem?_eq_getElem hk,λe he au=>?_⟩
    ·grind [eB]
    ·have aN:=(LQ dm (Array.getElem?_eq_getElem hk)).1 e he au
     grind [eB]
   grind
theorem Dl {g0:aG}{A B:Nat->Bool}{acc:Acc}{t:Nat}(h:∀ e∈acc,e.2.1=t->A e.1=B e.1):c9 g0 A acc t=c9 g0 B acc t:=by
 induction acc with
 | nil=>rfl
 | cons e acc aK =>
  grind [c9]
theorem DJ {listed:Array Bool}{k aa:Nat}(hk:k<listed.size):eB (listed.setIfInBounds k true) aa=if aa=k then true else eB listed aa:=by
 by_cases fY:aa=k
 all_goals simp_all [eB,Ne.symm]
theorem Z3 {g0:aG}{i aa:Nat}{acc U dM:Acc}(ax:h_ P N ops a' g0 i dM aa acc) (cV:mJ P N ops a' g0 i dM) {A S:Nat->Bool}(gg:U=acc.filter λe=>!A e.1) (Uv:∀ e∈acc,A e.1=true->S e.1=true):c9 g0 S acc=c9 (c9 g0 A acc) S U:=by
 subst gg;funext t;by_cases hex:∃ e∈acc,e.2.1=t
 ·obtain ⟨e,he,rfl⟩:=hex;rw [ax.at_mem cV he];by_cases dm:A e.1=true
  ·rw [ma,ax.at_mem cV he,if_pos dm,if_pos (Uv e he dm)];intro bZ h4 h;obtain ⟨h1,af⟩:=List.mem_filter.1 h4;have:=ax.uniq cV h1 he (.inr h)
   grind
  ·rw [K2 (λx j y ai h=>ax.uniq cV (List.mem_filter.1 j).1 (List.mem_filter.1 ai).1 (.inr h)) (List.mem_filter.2 ⟨he,by simpa using dm⟩)]
 grind [ma]
theorem eo.mono {g g':aG}(aI:∀ t x,g t=some x->g' t=some x) {x:ab}(h:eo g x):eo g' x:=by
 induction h with
 | bd h=>exact .bd h
 | ref j h=>exact .ref j (h.mono aI)
 | own _ aK=>exact .own aK
 | obj _ aK=>exact .obj aK
 | agg _ aK=>exact .agg aK
 | bN _ aK=>exact .bN aK
 | c7 _ _ ga fP=>exact .c7 ga fP
 | bC av _ aK=>exact .bC (av.mono aI) aK
theorem MP {ml g1:aG}{o:Oper}{S:Nat->Bool}{rs:Place->Prop}(h:pc P N rs ml o g1) (lH:∀ p,rs p->ml p.root≠none):∀ (U:Acc),(∀ e∈U,∃ x,e.2.2=some x/\Aq rs ml g1 o x)->(∀ e∈U,ml e.2.1=none/\g1 e.2.1=none/\o.dst≠some e.2.1)->(U.map (·.2.1)).Nodup->pc P N rs (c9 ml S U) o (c9 g1 S U)
 | [],_,_,_=>h
 | (k,d,r)::U,j,h1,ft=>by
  simp only [List.map_cons,List.nodup_cons] at ft;have aK:=MP (S:=S) h lH U (λe he=>j e (by simp [he])) (λe he=>h1 e (by simp [he])) ft.2;obtain ⟨x,e,bM⟩:=j (k,d,r) (by simp);simp only at e;subst e;obtain ⟨aw,a2,a3⟩:=h1 (k,d,some x) (by simp);simp only at aw a2 a3;have m_:∀ e∈U,e.2.1≠d:=λe he aL=>ft.1 (List.mem_map.2 ⟨e,he,aL⟩);cases a_:S k with
  | true =>
   have e:∀ g:aG,c9 g S ((k,d,some x)::U)=cH (c9 g S U) d x:=λg=>by
    funext t;simp only [c9,cH,a_,if_true];by_cases aO:d=t
    ·rw [if_pos aO,if_pos aO.symm]
    ·rw [if_neg aO,if_neg (Ne.symm aO)]
   rw [e,e];have Fw:∀ r,ml r≠none->∀ e∈U,e.2.1≠r:=λr aj e he aL=>by
    have:=(h1 e (by simp [he])).1;rw [aL] at this;exact aj this
   have Yg:∀ r,g1 r≠none->∀ e∈U,e.2.1≠r:=λr aj e he aL=>by
    have:=(h1 e (by simp [he])).2.1;rw [aL] at this;exact aj this
   refine aK.extra (λr aj=>by rw [ma (Fw r.root (lH r aj))]; exact lH r aj) (by rw [ma m_]; exact aw) (by rw [ma m_]; exact a2) a3 ?_;rcases bM with ⟨r,path,z,n,uk,cs,rfl,gH,hs,k7,D0⟩ | ⟨v,rfl⟩ | ⟨s,p,m,rfl,gH,hs,k7⟩ | ⟨s,m,cs,rfl,gH,hs,k7,cs',D0,R3⟩ | ⟨z,n,cs,rfl,gH⟩ | ⟨cs,rfl,gH,hs⟩
   ·refine .inl ⟨r,path,z,n,uk,cs,rfl,gH,?_,?_,D0⟩
    ·have:ml r≠none:=lH _ gH;simpa [bu,ma (Fw r this)] using hs
    ·have:g1 r≠none:=λe=>by simp [bu,e] at k7
     simpa [bu,ma (Yg r this)] using k7
   ·exact .inr (.inl ⟨v,rfl⟩)
   ·refine .inr (.inr (.inl ⟨s,p,m,rfl,?_,?_,k7⟩))
    ·rw [ma]; exact gH;intro e he aL;have:=(h1 e (by simp [he])).1;rw [aL,gH] at this; cases this
    ·rw [ma]; exact hs;intro e he aL;have:=(h1 e (by simp [he])).2.1;rw [aL,hs] at this; cases this
   ·refine .inr (.inr (.inr (.inl ⟨s,m,cs,rfl,?_,hs,k7,cs',?_,R3⟩)))
    ·rw [ma]; exact gH;intro e he aL;have:=(h1 e (by simp [he])).2.1;rw [aL,gH] at this; cases this
    ·rw [ma (Fw s (by rw [D0]; simp))]; exact D0
   ·exact .inr (.inr (.inr (.inr (.inl ⟨z,n,cs,rfl,gH⟩))))
   ·refine .inr (.inr (.inr (.inr (.inr ⟨cs,rfl,gH,?_⟩))));have hle:∀ t y,ml t=some y->c9 ml S U t=some y:=λt y ai=>by rw [ma (Fw t (by rw [ai]; simp))]; exact ai
    refine ⟨λt y ai=>?_,λt z q n m new ai=>?_⟩
    ·rcases tY ai with ⟨bZ,h4,_,_,IF⟩ | ⟨_,ai⟩
     ·obtain ⟨y',AQ,BJ⟩:=j bZ (by simp [h4]);rw [IF] at AQ; cases AQ;rcases BJ with ⟨r,path,z,n,uk,cs,rfl,c1,c2,j8,c4⟩ | ⟨v,rfl⟩ | ⟨s,p,m,rfl,c1,_⟩ | ⟨s,m,cs,rfl,_,_,_,cs',c4,jf⟩ | ⟨z,n,cs,rfl,c1⟩ | ⟨cs,rfl,c1,_⟩
      ·exact .ref rfl (.inl ⟨uk,cs,kq hle c2,c4⟩)
      ·exact .bd .lit
      ·exact eo.mono hle (hs.bW s _ c1)
      ·exact .ref rfl ⟨.obj cs',by simp [bu,hle s _ c4,ab.at],0,0,cs',.inr rfl,jf⟩
      ·exact .bd c1
      ·exact .bd c1.bd
     ·exact eo.mono hle (hs.bW t y ai)
    ·rcases tY ai with ⟨bZ,h4,_,_,IF⟩ | ⟨_,ai⟩
     ·obtain ⟨y',AQ,BJ⟩:=j bZ (by simp [h4]);rw [IF] at AQ; cases AQ;rcases BJ with ⟨r,path,z,n,uk,cs,h,_⟩ | ⟨v,h⟩ | ⟨s,p,m,h,_⟩ | ⟨s,m,cs,h,_⟩ | ⟨z,n,cs,h,_⟩ | ⟨cs,h,_⟩ <;> cases h
     ·exact hs.fg _ _ _ _ _ _ ai
  | false =>
   have e:∀ g:aG,g d=none->c9 g S ((k,d,some x)::U)=c9 g S U:=λg aI=>by
    funext t;simp only [c9,a_];by_cases aO:d=t
    ·subst aO; rw [if_pos rfl,ma m_,aI]; rfl
    ·rw [if_neg aO]
   rw [e ml aw,e g1 a2];exact aK
theorem PD (dm:oI ops a'=true) {g0:aG}{i aa:Nat}{acc dM:Acc}(ax:h_ P N ops a' g0 i dM aa acc) (cV:mJ P N ops a' g0 i dM) (gS:(acc.filterMap ke).Nodup) (fO:∀ t z q n m new,g0 t≠some (.bC z q n m new)) {listed:Array Bool}(dL:listed.size=ops.size) (aO:Down a' listed)
  {a:Act}{w:World}{I:a6}{Fs:Nat->a6}(a_:cB w I a.tmps (c9 g0 (eB listed) acc) Fs) (a8:a.tmps.size=N.size) {e:Nat × Nat × Option ab}(he:e∈acc) (hk:e.1∈Region.ready .any ops listed) {K:Act->World->Prop}{Q:Exit->Act->World->Prop}
  (dz:∀ b3 w' I' bY,b3.defers=a.defers->hn N a.tmps b3.tmps->cB w' I' b3.tmps (c9 g0 (eB (listed.setIfInBounds e.1 true)) acc) bY->kp w I (λc=>∃ t,Fs t c) w' I' (λc=>∃ t,bY t c)->K b3 w'):wpOp P ops Q e.1 K a w:=by
 obtain ⟨dc,kW,wK,_⟩:=xz hk;have yR:=(Array.getElem?_eq_some_iff.1 wK).1;have A5:=Kv dm aO hk;obtain ⟨o,DR,aM,EL,jk,bM,fz⟩:=ax.get cV e he;obtain ⟨k,d,r⟩:=e;simp only at *;have hle:nX (c9 g0 (λm=>(a'.getD k []).contains m) DR) (c9 g0 (eB listed) acc):=by
  intro t x j;rcases tY j with ⟨e,he,rfl,Es,hex⟩ | ⟨m_,aI⟩
  ·rw [ax.at_mem cV (fz e he),A5 e.1 (by simpa using Es)];exact hex
  ·rw [ma λe he acX=>?_]
   ·exact aI
   ·have:=ax.fresh cV e he
    grind
 have eN:∀ z p n m new,r=some (.bC z p n m new)->∀ t br ck bm cK,c9 g0 (eB listed) acc t≠some (.bC br p ck bm cK):=by
  intro z p n m new aj t br ck bm cK ak;rcases tY ak with ⟨e,h4,_,Es,hex⟩ | ⟨_,aI⟩
  ·obtain ⟨kc,MG,dk⟩:=e;have:=Yt gS (p:=p) he h4 (by rw [aj]; rfl) (by simp only at hex; rw [hex]; rfl)
   grind
  grind
 have BJ:=bM.mono hle eN;have re:c9 g0 (eB listed) acc d=none:=by
  have:=ax.at_mem cV (A:=eB listed) he
  grind
 unfold wpOp;simp only [aM];refine BJ.sound a_ rfl a8 EL re jk λb3 w' az=>?_;obtain ⟨bO,b7,I',bY,dU,ob⟩:=az;have ji:∀ aa,eB (listed.setIfInBounds k true) aa=if aa=k then true else eB listed aa:=λaa=>DJ (by omega)
 have cT:c9 g0 (eB (listed.setIfInBounds k true)) acc=xx (c9 g0 (eB listed) acc) d r:=by
  funext t;by_cases u1:t=d
  ·subst u1;have h1:=ax.at_mem cV (A:=eB (listed.setIfInBounds k true)) he;simp only [ji k,if_true] at h1;rw [h1];cases r with
   | none=>simp only [xx]; exact re.symm
   | some x=>simp [xx,cH]
  ·have h1:c9 g0 (eB (listed.setIfInBounds k true)) acc t=c9 g0 (eB listed) acc t:=Dl λe h4 het=>by
    rw [ji e.1,if_neg];intro VM;have:=ax.uniq cV h4 he (.inl VM)
    grind
   rw [h1];cases r with
   | none=>rfl
   | some x=>simp [xx,cH,u1]
 grind
theorem Hp (dm:oI ops a'=true) {listed:Array Bool}(dL:listed.size=ops.size) (aO:Down a' listed) {k:Nat}(hk:k∈Region.ready .any ops listed):Down a' (listed.setIfInBounds k true):=by
 obtain ⟨dc,kW,wK,_⟩:=xz hk;have yR:=(Array.getElem?_eq_some_iff.1 wK).1;have A5:=Kv dm aO hk;have ji:∀ q,eB (listed.setIfInBounds k true) q=if q=k then true else eB listed q:=λq=>DJ (by omega)
 intro m hm q ba;rw [ji] at hm ⊢;split
 ·rfl
 ·split at hm
  ·grind
  ·exact aO m hm q ba
theorem h_.entry {g0:aG}{i aa:Nat}{acc dM:Acc}(ax:h_ P N ops a' g0 i dM aa acc) {listed:Array Bool}(aN:∀ k,k<i->(∀ e∈dM,e.1≠k)->eB listed k=true) {k:Nat}(EE:k<aa) (dc:eB listed k=false):∃ e∈acc,e.1=k:=by
 rcases Nat.lt_or_ge k i with h | h
 ·rcases Classical.em (∃ e∈dM,e.1=k) with ⟨e,he,aL⟩ | aL
  ·exact ⟨e,ax.KQ e he,aL⟩
  grind
 ·exact ax.has k h EE
theorem rY.sound (dm:oI ops a'=true) {i:Nat}{dM:Acc}{g g':aG}(h:rY P N ops a' i dM g g'):mJ P N ops a' g i dM->∀ {Q:Exit->Act->World->Prop}(fuel:Nat) (listed:Array Bool) (a:Act) (w:World) (I:a6) (Fs:Nat->a6),gI ops listed<=fuel->listed.size=ops.size->(∀ k,k<i->(∀ e∈dM,e.1≠k)->eB listed k=true)->(∀ k,i<=k->eB listed k=false)->Down a' listed ->
  cB w I a.tmps (c9 g (eB listed) dM) Fs->a.tmps.size=N.size->(∀ b3 w',hD N a w I Fs g' b3 w'->Q .normal b3 w')->wpAny P .any ops Q fuel listed a w:=by
 have start:∀ {g:aG}{i aa:Nat}{acc dM:Acc}{listed:Array Bool},h_ P N ops a' g i dM aa acc->mJ P N ops a' g i dM->(∀ k,i<=k->eB listed k=false)->c9 g (eB listed) acc=c9 g (eB listed) dM:=by
  intro g i aa acc dM listed ax cV dY;funext t;by_cases hex:∃ e∈acc,e.2.1=t
  ·obtain ⟨e,he,rfl⟩:=hex;rw [ax.at_mem cV he];rcases ax.ge cV e he with h | h
   ·rw [K2 (λx j y ai aL=>cV.Qz x j y ai (.inr aL)) h]
   ·rw [dY e.1 h];by_cases NN:∃ bZ∈dM,bZ.2.1=e.2.1
    ·obtain ⟨bZ,h4,aL⟩:=NN;have:=ax.uniq cV (ax.KQ bZ h4) he (.inr aL);subst this;have:=cV.lt bZ h4;omega
    ·rw [ma λbZ h4 aL=>NN ⟨bZ,h4,aL⟩,ax.fresh cV e he]; rfl
  ·rw [ma λe he h=>hex ⟨e,he,h⟩,ma λe he h=>hex ⟨e,ax.KQ e he,h⟩]
 induction h with
 | @fin i dM g acc ax gS fO =>
  intro cV Q fuel listed a w I Fs J dL aN dY aO a_ a8 dD;rw [<- start ax cV dY] at a_;clear dY;revert listed a w I Fs
  induction fuel with
  | zero =>
   intro listed a w I Fs J dL aN aO a_ a8 dD;have fN:∀ k,k<ops.size->eB listed k=true:=λk hk=>by
    cases ah:eB listed k with
    | true=>rfl
    | false=>have:=ux (ops:=ops) (listed:=listed) (k:=k) hk ah dL; omega
   refine wpAny_done ?_ (dD _ _ ⟨rfl,hn.refl,I,Fs,?_,kp.refl _ _ _⟩) 0
   ·cases aj:Region.ready .any ops listed with
    | nil=>rfl
    | cons k l =>
     have hk:k∈Region.ready .any ops listed:=by rw [aj]; simp
     obtain ⟨dc,o,aM,_⟩:=xz hk
     grind
   ·have:c9 g (eB listed) acc=c9 g (λ_=>true) acc:=funext λt=>Dl λe he _=>fN e.1 ((ax.le cV).2 e he)
    grind
  | succ fuel aK =>
   intro listed a w I Fs J dL aN aO a_ a8 dD;by_cases fN:∀ k,k<ops.size->eB listed k=true
   ·refine wpAny_done ?_ (dD _ _ ⟨rfl,hn.refl,I,Fs,?_,kp.refl _ _ _⟩) _
    ·cases aj:Region.ready .any ops listed with
     | nil=>rfl
     | cons k l =>
      have hk:k∈Region.ready .any ops listed:=by rw [aj]; simp
      obtain ⟨dc,o,aM,_⟩:=xz hk
      grind
    ·have:c9 g (eB listed) acc=c9 g (λ_=>true) acc:=funext λt=>Dl λe he _=>fN e.1 ((ax.le cV).2 e he)
     grind
   ·obtain ⟨k0,jA⟩:=Classical.not_forall.1 fN;obtain ⟨VZ,V0⟩:=Classical.not_imp.1 jA;refine ⟨λaj=>absurd aj (PG dm dL k0 VZ (by simpa using V0)),λk hk=>?_⟩;obtain ⟨dc,kW,wK,_⟩:=xz hk;have yR:=(Array.getElem?_eq_some_iff.1 wK).1;obtain ⟨e,he,rfl⟩:=ax.entry aN yR dc;have VB:=ux (ops:=ops) (listed:=listed) (k:=e.1) yR dc dL;refine PD dm ax cV gS fO dL aO a_ a8 he hk λb3 w' I' bY bO b7 dU ob=>?_;refine aK _ b3 w' I' bY (by omega) (by simpa using dL) (λm hm cU=>?_) (Hp dm dL aO hk) dU (b7.1.trans a8) λa2 eY af=>dD _ _ (hD.trans bO b7 ob af)
    grind [DJ]
 | @yp i aa g g1 g' dM acc U o rs ax gS fO aM hw he lH gg j h1 af au _ Xo =>
  intro cV Q fuel listed a w I Fs J dL aN dY aO a_ a8 dD;have yQ:aa<ops.size:=(Array.getElem?_eq_some_iff.1 aM).1;have Iu:∀ k,aa<k->k<ops.size->aa∈a'.getD k []:=λk hk yR=>by
   grind
  have Bx:∀ e∈U,e∈acc/\(a'.getD aa []).contains e.1=false:=λe he=>by
   grind
  have ft:(U.map (·.2.1)).Nodup:=by
   rw [gg];exact (List.filter_sublist.map _).nodup (ax.nodup cV)
  have VT:∀ e∈U,c9 g (λm=>(a'.getD aa []).contains m) acc e.2.1=none:=λe he=>by
   rw [ax.at_mem cV (Bx e he).1,(Bx e he).2];rfl
  have HZ:mJ P N ops a' g1 (aa+1) U:=⟨λe he=>by have:=(ax.le cV).2 e (Bx e he).1; omega,λe he=>(h1 e he).1,ft,λe he bZ h4 h=>ax.uniq cV (Bx e he).1 (Bx bZ h4).1 h,af⟩;have ac2:∀ k,aa<=k->eB listed k=false:=λk hk=>dY k (Nat.le_trans (ax.le cV).1 hk);rw [<- start ax cV dY] at a_;clear dY;revert listed a w I Fs
  induction fuel with
  | zero =>
   intro listed a w I Fs J dL aN aO a_ a8 dD dY;have:=ux (ops:=ops) (listed:=listed) (k:=aa) yQ (dY aa (Nat.le_refl _)) dL;omega
  | succ fuel Xn =>
   intro listed a w I Fs J dL aN aO a_ a8 dD dY;have eW:=dY aa (Nat.le_refl _);refine ⟨λaj=>absurd aj (PG dm dL aa yQ eW),λk hk=>?_⟩;obtain ⟨dc,kW,wK,_⟩:=xz hk;have yR:=(Array.getElem?_eq_some_iff.1 wK).1;have A5:=Kv dm aO hk;have ji:∀ q,eB (listed.setIfInBounds k true) q=if q=k then true else eB listed q:=λq=>DJ (by omega)
   have VB:=ux (ops:=ops) (listed:=listed) (k:=k) (by omega) dc dL;rcases Nat.lt_trichotomy k aa with EE | rfl | EE
   ·obtain ⟨e,NM,rfl⟩:=ax.entry aN EE dc;refine PD dm ax cV gS fO dL aO a_ a8 NM hk λb3 w' I' bY bO b7 dU ob=>?_;refine Xn _ b3 w' I' bY (by omega) (by simpa using dL) (λm hm cU=>?_) (Hp dm dL aO hk) dU (b7.1.trans a8) (λa2 eY af=>dD _ _ (hD.trans bO b7 ob af)) λm hm=>?_
    ·grind
    grind
   ·have TH:=Z3 (A:=λm=>(a'.getD k []).contains m) (S:=eB listed) ax cV gg λe he dm=>A5 e.1 (by simpa using dm);have Wq:∀ r:Place,rs r->c9 g (λm=>(a'.getD k []).contains m) acc r.root≠none:=λr aj=>by
     rw [ma]
     ·grind
     ·intro e he aL;have:=ax.fresh cV e he
      grind
    have VL:=MP (S:=eB listed) he Wq U j (λe he=>⟨VT e he,h1 e he⟩) ft;have hle:nX (c9 g (λm=>(a'.getD k []).contains m) acc) (c9 g (eB listed) acc):=by
     intro t x j;rcases tY j with ⟨e,he,rfl,Es,hex⟩ | ⟨m_,aI⟩
     ·rw [ax.at_mem cV he,A5 e.1 (by simpa using Es)]; exact hex
     grind [ma]
    unfold wpOp;simp only [aM,(h'.mono hle hw).sound a_,if_true];refine .inl (VL w I a.tmps Fs (by rw [<- TH]; exact a_) a rfl a8 _ _ λb3 w' az _ _=>?_);obtain ⟨bO,b7,I',bY,dU,ob⟩:=az;refine Xo HZ fuel (listed.setIfInBounds k true) b3 w' I' bY (by omega) (by simpa using dL) (λm hm cU=>?_) (λm hm=>?_) (Hp dm dL aO hk) ?_ (b7.1.trans a8) λa2 eY af=>dD _ _ (hD.trans bO b7 ob af)
    ·rw [ji];split
     ·rfl
     ·rename_i adg;cases sl:eB listed m with
      | true=>rfl
      | false =>
       exfalso;obtain ⟨e,NM,rfl⟩:=ax.entry aN (show m<k by omega) sl
       grind
    ·grind
    ·have:c9 g1 (eB (listed.setIfInBounds k true)) U=c9 g1 (eB listed) U:=funext λt=>Dl λe he _=>by
      grind
     grind
   grind
end
end Go.Own
namespace Go.Own
open Go
set_option linter.unusedSectionVars false
variable [cw]
section
variable {P:Program}{N:cN}
def fK (P:Program) (N:cN) (c:Code) (g:aG) (e:Exit) (g':aG):Prop :=
 ∀ ⦃Q:Exit->Act->World->Prop⦄ ⦃a:Act⦄ ⦃w:World⦄ ⦃I:a6⦄ ⦃Fs:Nat->a6⦄,cB w I a.tmps g Fs->a.tmps.size=N.size->(∀ b3 w',hD N a w I Fs g' b3 w'->Q e b3 w')->c.wp P Q a w
theorem fK.skip {g:aG}:fK P N .skip g .normal g:=λ_ _ _ _ _ a_ _ dD=>wp_skip (dD _ _ ⟨rfl,hn.refl,_,_,a_,kp.refl _ _ _⟩)
theorem fK.ret {g:aG}:fK P N .ret g .ret g:=λ_ _ _ _ _ a_ _ dD=>wp_ret (dD _ _ ⟨rfl,hn.refl,_,_,a_,kp.refl _ _ _⟩)
theorem fK.exit {g:aG}{id:Nat}:fK P N (.exit id) g (.exit id) g:=λ_ _ _ _ _ a_ _ dD=>wp_exit (dD _ _ ⟨rfl,hn.refl,_,_,a_,kp.refl _ _ _⟩)
theorem fK.seq {x y:Code}{g g1 g':aG}{e:Exit}(h1:fK P N x g .normal g1) (af:fK P N y g1 e g'):fK P N (.seq x y) g e g':=by
 intro Q a w I Fs a_ a8 dD;refine wp_seq (h1 a_ a8 λaw eR az=>?_);obtain ⟨bO,b7,I',bY,dU,bM⟩:=az;exact af dU (b7.1.trans a8) λa2 eY n'=>dD _ _ (hD.trans bO b7 bM n')
theorem fK.cond {c:Operand}{x y:Code}{g g':aG}{e:Exit}{b:Bool}(J:bj g c=some (.lit (.bool b))) (h:fK P N (if b then x else y) g e g'):fK P N (.cond c x y) g e g':=by
 intro Q a w I Fs a_ a8 dD;exact wp_cond (t:=b) (kB a_ J rfl).gK.1 (h a_ a8 dD)
theorem fK.MA {c:Operand}{x y:Code}{g g':aG}{e:Exit}(J:bj g c=some (.lit (.bool true))) (h:fK P N x g e g'):fK P N (.cond c x y) g e g':=fK.cond J h
theorem fK.Hl {c:Operand}{x y:Code}{g g':aG}{e:Exit}(J:bj g c=some (.lit (.bool false))) (h:fK P N y g e g'):fK P N (.cond c x y) g e g':=fK.cond J h
theorem fK.block {id:Nat}{c:Code}{g g':aG}(h:fK P N c g .normal g'):fK P N (.block id c) g .normal g' :=
 λ_ _ _ _ _ a_ a8 dD=>wp_block (h a_ a8 λaw eR az=>dD aw eR az)
def DI (P:Program) (c:Code) (Q:Exit->Act->World->Prop) (a:Act) (w:World):Prop :=
 ∀ (b:Frame) (k:List Item) (cs:List Frame),∃ e b3 w',Q e b3 w'/\Arrives P (lone (b.at a (.code c::.inLoop c::k)) cs w) b k cs e b3 w'
def sW (P:Program) (N:cN) (c:Code) (g:aG) (e:Exit) (g':aG):Prop :=
 ∀ ⦃Q:Exit->Act->World->Prop⦄ ⦃a:Act⦄ ⦃w:World⦄ ⦃I:a6⦄ ⦃Fs:Nat->a6⦄,cB w I a.tmps g Fs->a.tmps.size=N.size->(∀ b3 w',hD N a w I Fs g' b3 w'->Q e b3 w')->DI P c Q a w
theorem J0 {c:Code}{Q:Exit->Act->World->Prop}{a:Act}{w:World}(h:c.wp P (Exit.then (DI P c Q) Q) a w):DI P c Q a w:=by
 intro b k cs;obtain ⟨e,Av,Dq,ba,jX⟩:=h b (.inLoop c::k) cs;cases e with
 | normal =>
  obtain ⟨TK,R2,Z_,Wo,U9⟩:=ba b k cs;exact ⟨TK,R2,Z_,Wo,.of_steps (Steps.trans jX (.one step_inLoop)) U9⟩
 | exit id=>exact ⟨_,Av,Dq,ba,.pass (x:=.inLoop c) rfl (λ_ _=>.inl (by simp)) jX⟩
 | goto l=>exact ⟨_,Av,Dq,ba,.pass (x:=.inLoop c) rfl (λ_ _=>.inl (by simp)) jX⟩
 | ret=>exact ⟨_,Av,Dq,ba,.pass (x:=.inLoop c) rfl (λ_ _=>.inl (by simp)) jX⟩
 | panic cX=>exact ⟨_,Av,Dq,ba,.pass (x:=.inLoop c) rfl (λ_ _=>.inl (by simp)) jX⟩
 | outgrown=>exact ⟨_,Av,Dq,ba,.pass (x:=.inLoop c) rfl (λ_ _=>.inl (by simp)) jX⟩
theorem fK.loop {c:Code}{g g':aG}{e:Exit}(h:sW P N c g e g'):fK P N (.loop c) g e g':=by
 intro Q a w I Fs a_ a8 dD b k cs;obtain ⟨e,b3,w',ba,jX⟩:=h a_ a8 dD b k cs;exact ⟨e,b3,w',ba,.of_steps (.one step_loop) jX⟩
theorem sW.step {c:Code}{g g1 g':aG}{e:Exit}(h1:fK P N c g .normal g1) (af:sW P N c g1 e g'):sW P N c g e g':=by
 intro Q a w I Fs a_ a8 dD;refine J0 (h1 a_ a8 λaw eR az=>?_);obtain ⟨bO,b7,I',bY,dU,bM⟩:=az;exact af dU (b7.1.trans a8) λa2 eY n'=>dD _ _ (hD.trans bO b7 bM n')
theorem sW.out {c:Code}{g g':aG}{e:Exit}(h:fK P N c g e g') (he:e≠.normal):sW P N c g e g':=by
 intro Q a w I Fs a_ a8 dD;refine J0 (h a_ a8 λaw eR az=>?_);cases e with
 | normal=>exact absurd rfl he
 | _=>exact dD _ _ az
theorem fK.region {id:Nat}{ops:Array Oper}{g g':aG}(h:nZ P N ops (List.range ops.size) g g'):fK P N (.region id ops false) g .normal g' :=
 λ_ _ _ _ _ a_ a8 dD=>wp_region (h.sound a_ a8 dD)
theorem fK.draw {id:Nat}{ops:Array Oper}{a':List (List Nat)}{g g':aG}(hm:P.follows .mixedOrders=true) (dm:oI ops a'=true) (h:rY P N ops a' 0 [] g g'):fK P N (.region id ops true) g .normal g':=by
 intro Q a w I Fs a_ a8 dD;refine wp_region_any hm ?_;have dU:cB w.drew I a.tmps g Fs:=a_.world (λ_ _ _=>rfl) (λ_ _=>rfl) (Nat.le_refl _);have fN:∀ k,eB (Array.replicate ops.size false) k=false:=by
  intro k;unfold eB;rcases Nat.lt_or_ge k ops.size with h | h
  ·simp [h]
  grind
 refine h.sound dm .nil ops.size (Array.replicate ops.size false) a w.drew I Fs ?_ (by simp) (λk hk=>by omega) (λk _=>fN k) (λk hk=>by rw [fN] at hk; cases hk) dU a8 λb3 w' az=>dD _ _ ?_
 ·grind [gI]
 ·obtain ⟨bO,b7,I',bY,hJ,bM⟩:=az;exact ⟨bO,b7,I',bY,hJ,⟨⟨bM.ei.os,bM.ei.tape,bM.ei.output,bM.ei.size,bM.ei.block,bM.ei.eF,Nat.le_trans (Nat.le_succ _) bM.ei.uA⟩,bM.more,bM.new,bM.own⟩⟩
inductive mL:ab->ab->Prop
 | refl {x:ab}:mL x x
 | dead {x:ab}(h:jN x\/cE x):mL x .dead
 | oq {z:Nat}:mL .bf (.own z 0 [])
 | oX {z:Nat}:mL .bf (.bc z 0 [])
 | obj {cs cs':List ab}(ah:cs'.length=cs.length) (h:∀ (k:Nat) (x y:ab),cs[k]?=some x->cs'[k]?=some y->mL x y):mL (.obj cs) (.obj cs')
 | own {z n:Nat}{cs cs':List ab}(ah:cs'.length=cs.length) (h:∀ (k:Nat) (x y:ab),cs[k]?=some x->cs'[k]?=some y->mL x y):mL (.own z n cs) (.own z n cs')
theorem mL.l_ {x y:ab}{aa:Nat × Nat}(h:mL x y) (e:y=.self aa):x=.self aa:=by
 cases h <;> first | exact e | cases e
theorem R.ey {w:World}{I:a6}{ρ:ab->Value->Prop}{x x':ab}(h:mL x x'):∀ {v:Value}{F:a6},R w I ρ x v F->∃ cM,R w I ρ x' v cM/\∀ c,cM c->F c:=by
 induction h with
 | refl=>exact λaV=>⟨_,aV,λ_ h=>h⟩
 | dead=>exact λaV=>⟨cb,.dead λ_ h=>h,λ_ h=>h.elim⟩
 | oq =>
  intro v F aV;rw [aV.pT];exact ⟨cb,.own (e:=0) (us:=[]) (Fs:=λ_=>cb) ⟨by simp,.inl ⟨rfl,rfl⟩⟩ rfl (by simp) (by simp) (λ_ _ _ _ _ h=>h.elim) (λ_ _ _ h=>h.elim) λc=>⟨λh=>h.elim,λh=>h.elim (λh=>by simp [Value.ownBlock] at h) λ⟨_,_,h⟩=>h⟩,λ_ h=>h.elim⟩
 | oX=>intro v F aV; rw [aV.pT]; exact ⟨cb,.hj λ_ h=>h,λ_ h=>h.elim⟩
 | @obj cs cs' ah rn aK =>
  intro v F aV;cases aV with
  | ref j=>simp [ab.isRef] at j
  | @obj _ b e arr bK _ aM ht h1 aj aO au aE ax =>
   have:∀ k,∃ sX:a6,k<cs.length->(∀ (x:ab) (u:Value),cs'[k]?=some x->arr[k]?=some u->R w I ρ x u sX)/\∀ c,sX c->bK k c:=by
    intro k;by_cases hk:k<cs.length
    ·have j:=List.getElem?_eq_getElem hk;have ai:cs'[k]?=some (cs'[k]'(by omega)):=List.getElem?_eq_getElem (by omega);have hu:arr[k]?=some (arr[k]'(by omega)):=Array.getElem?_eq_getElem (by omega);obtain ⟨cM,h1,af⟩:=aK k _ _ j ai (aj k _ _ j hu);refine ⟨cM,λ_=>⟨λx u fG hy=>?_,af⟩⟩;rw [ai] at fG; rw [hu] at hy;cases fG; cases hy;exact h1
    ·exact ⟨cb,λh=>absurd h hk⟩
   obtain ⟨sX,q9⟩:=Classical.axiomOfChoice this;refine ⟨_,.obj (Fs:=sX) aM (by omega) h1 (λk x u j hu=>(q9 k (by rw [<- ah]; exact (List.getElem?_eq_some_iff.1 j).1)).1 x u j hu) (λaa k c ag hk h aL=>aO aa k c (by omega) (by omega) ((q9 aa (by omega)).2 c h) ((q9 k (by omega)).2 c aL)) (λk hk h=>au k (by omega) ((q9 k (by omega)).2 b h)) (λc=>Iff.rfl) (λk aa u hk=>ax k aa u (Fp ah rn (λ_ _ _=>mL.l_) k aa hk)),λc J=>?_⟩;rcases J with rfl | ⟨k,hk,h⟩
   ·exact (aE _).2 (.inl rfl)
   ·exact (aE c).2 (.inr ⟨k,by omega,(q9 k (by omega)).2 c h⟩)
 | @own z n cs cs' ah _ aK =>
  intro v F aV;cases aV with
  | ref j=>simp [ab.isRef] at j
  | @own _ _ _ _ e us bK _ aM ht h1 aj aO au aE =>
   have:∀ k,∃ sX:a6,k<cs.length->(∀ (x:ab) (u:Value),cs'[k]?=some x->us[k]?=some u->R w I ρ x u sX)/\∀ c,sX c->bK k c:=by
    intro k;by_cases hk:k<cs.length
    ·have j:=List.getElem?_eq_getElem hk;have ai:cs'[k]?=some (cs'[k]'(by omega)):=List.getElem?_eq_getElem (by omega);have hu:us[k]?=some (us[k]'(by omega)):=List.getElem?_eq_getElem (by omega);obtain ⟨cM,h1,af⟩:=aK k _ _ j ai (aj k _ _ j hu);refine ⟨cM,λ_=>⟨λx u fG hy=>?_,af⟩⟩;rw [ai] at fG; rw [hu] at hy;cases fG; cases hy;exact h1
    ·exact ⟨cb,λh=>absurd h hk⟩
   obtain ⟨sX,q9⟩:=Classical.axiomOfChoice this;refine ⟨_,.own (Fs:=sX) aM (by omega) h1 (λk x u j hu=>(q9 k (by rw [<- ah]; exact (List.getElem?_eq_some_iff.1 j).1)).1 x u j hu) (λaa k c ag hk h aL=>aO aa k c (by omega) (by omega) ((q9 aa (by omega)).2 c h) ((q9 k (by omega)).2 c aL)) (λk c hk h=>au k c (by omega) ((q9 k (by omega)).2 c h)) (λc=>Iff.rfl),λc J=>?_⟩;rcases J with J | ⟨k,hk,h⟩
   ·exact (aE _).2 (.inl J)
   ·exact (aE c).2 (.inr ⟨k,by omega,(q9 k (by omega)).2 c h⟩)
structure jR (g1 g2:aG):Prop where
 sub:∀ t x,g2 t=some x->∃ y,g1 t=some y/\mL y x
 bW:∀ t x,g2 t=some x->eo g2 x
 fg:∀ t z q n m new,g2 t≠some (.bC z q n m new)
theorem cB.ey {w:World}{I:a6}{T:Array Value}{g1 g2:aG}{Fs:Nat->a6}(h:cB w I T g1 Fs) (hk:jR g1 g2):∃ bY,cB w I T g2 bY/\∀ t c,bY t c->Fs t c:=by
 have:∀ t,∃ cM:a6,(∀ x,g2 t=some x->∃ v,T[t]?=some v/\R w I (dO w T g2) x v cM)/\(∀ c,cM c->Fs t c)/\(g2 t=none->∀ c,¬ cM c):=by
  intro t;cases j:g2 t with
  | none=>exact ⟨cb,by simp,λ_ h=>h.elim,λ_ _ h=>h⟩
  | some x =>
   obtain ⟨y,ai,hw⟩:=hk.sub t x j;obtain ⟨v,hv,aV⟩:=h.lO.rel t y ai;have l7:∀ z q n m new,y≠.bC z q n m new:=by
    rintro z q n m new rfl;cases hw with
    | refl=>exact hk.fg _ _ _ _ _ _ j
    | dead bE=>rcases bE with bE | bE <;> cases bE
   obtain ⟨cM,ie,oP⟩:=R.ey hw (aV.fS l7);exact ⟨cM,λx' fG=>by cases fG; exact ⟨v,hv,ie.bW (hk.bW t x j)⟩,oP,by simp⟩
 obtain ⟨bY,tm⟩:=Classical.axiomOfChoice this;refine ⟨bY,⟨λt x j=>?_,λt ak=>(tm t).2.2 ak,λt t' c h1 af=>h.et _ _ _ ((tm t).2.1 c h1) ((tm t').2.1 c af),λt c J=>h.bc _ _ ((tm t).2.1 c J),h.lt,λt t' z p n m new _ _ _ _ h1=>absurd h1 (hk.fg _ _ _ _ _ _),h.hd⟩,λt=>(tm t).2.1⟩;obtain ⟨v,hv,aV⟩:=(tm t).1 x j;exact ⟨v,hv,.tree aV⟩
theorem fK.weaken {c:Code}{g g1 g':aG}{e:Exit}(hk:jR g g1) (h:fK P N c g1 e g'):fK P N c g e g':=by
 intro Q a w I Fs a_ a8 dD;obtain ⟨bY,dU,fz⟩:=a_.ey hk;exact h dU a8 λb3 w' az=>dD _ _ (hD.trans rfl hn.refl ⟨Fr.refl _ _,λ_ h=>h,λ_ h=>.inl h,λc ⟨t,J⟩=>.inl ⟨t,fz t c J⟩⟩ az)
theorem sW.weaken {c:Code}{g g1 g':aG}{e:Exit}(hk:jR g g1) (h:sW P N c g1 e g'):sW P N c g e g':=by
 intro Q a w I Fs a_ a8 dD;obtain ⟨bY,dU,fz⟩:=a_.ey hk;exact h dU a8 λb3 w' az=>dD _ _ (hD.trans rfl hn.refl ⟨Fr.refl _ _,λ_ h=>h,λ_ h=>.inl h,λc ⟨t,J⟩=>.inl ⟨t,fz t c J⟩⟩ az)
end
end Go.Own
namespace Go.Own
open Go
set_option linter.unusedSectionVars false
variable [cw]
inductive Ao (P:Program) (g:aG):ResultVar->ab->Prop
 | tmp {t:Nat}{y:ab}(h:bj g (.tmp t)=some y):Ao P g (.tmp t) y
 | cell {a:Nat}{t ty:TypeId}{y:ab}(h:cS P g (.load t (.tmp a)) ty y):Ao P g (.cell a t) y
inductive qU (P:Program) (g:aG):List ResultVar->List ab->Prop
 | nil:qU P g [] []
 | cons {r:ResultVar}{rs:List ResultVar}{y:ab}{ys:List ab}(h:Ao P g r y) (ak:qU P g rs ys):qU P g (r::rs) (y::ys)
def ov:List ab->ab
 | [x]=>x
 | l=>.bN l
def xA:List Value->Value
 | [x]=>x
 | l=>.tuple l.toArray
def vz (tmps:Array Value):ResultVar->Sem Value
 | .tmp t=>pure (tmps.getD t undef)
 | .cell a t=>do loadVar t (<- asAddr (tmps.getD a undef))
section
variable {P:Program}{w:World}{I:a6}{g:aG}{Fs:Nat->a6}
theorem Ao.run {a:Act}(h:cB w I a.tmps g Fs) {r:ResultVar}{y:ab}(aj:Ao P g r y):∃ v,(vz a.tmps r).run P w=.ok v w/\R w I (dO w a.tmps g) y v cb:=by
 cases aj with
 | @tmp t y h1=>exact ⟨_,rfl,kB h h1 rfl⟩
 | @cell a0 t ty y h1 =>
  obtain ⟨v, hv, aV⟩ := cS.sound h rfl (o := { dst := none, op := .load t (.tmp a0), type := ty, pos := "", after := #[], guard := none }) h1;refine ⟨v,?_,aV⟩;have he:a.eval (.tmp a0)=a.tmps.getD a0 undef:=rfl;simp only [execOp,he] at hv;cases J:a.tmps.getD a0 undef with
  | pointer ad =>
   cases ad with
   | some ad =>
    rw [J] at hv;simp only [Instr.loadAt,Instr.sureAddr] at hv;simp only [vz,J,asAddr];have av:(pure ad >>= λx=>loadVar t x:Sem Value)=loadVar t ad:=by simp
    rw [av];revert hv;generalize ba:loadVar t ad=q;intro hv;simp [ba] at hv;cases EO:q.run P w with
    | ok x eY=>rw [EO] at hv; simp at hv; rw [hv.1,hv.2]
    | halt e eY=>rw [EO] at hv; simp at hv
   | none=>rw [J] at hv; simp [Instr.loadAt,Instr.sureAddr] at hv
  | _=>rw [J] at hv; simp [Instr.loadAt,Instr.sureAddr] at hv
theorem PS {f:ResultVar->Sem Value}:∀ (l:List ResultVar) (vs:List Value),l.length=vs.length->(∀ (k:Nat) (r:ResultVar) (v:Value),l[k]?=some r->vs[k]?=some v->(f r).run P w=.ok v w)->(l.mapM f).run P w=.ok vs w
 | [],[],_,_=>rfl
 | r::l,v::vs,ah,h=>by
  have aH:=h 0 r v rfl rfl;have h1:=PS l vs (by simpa using ah) λk r v aj hv=>h (k+1) r v (by simpa using aj) (by simpa using hv);simp [List.mapM_cons,aH,h1]
 | [],_::_,ah,_=>by simp at ah
 | _::_,[],ah,_=>by simp at ah
theorem Y3 {fn:Func}{tmps:Array Value}{vs:List Value}(ah:fn.results.toList.length=vs.length) (h:∀ (k:Nat) (r:ResultVar) (v:Value),fn.results.toList[k]?=some r->vs[k]?=some v->(vz tmps r).run P w=.ok v w):(results fn tmps).run P w=.ok (xA vs) w:=by
 have h1:=PS fn.results.toList vs ah h;have af:fn.results.mapM (vz tmps)=List.toArray <$> fn.results.toList.mapM (vz tmps):=Array.mapM_eq_mapM_toList;have aJ:(fn.results.mapM (vz tmps)).run P w=.ok vs.toArray w:=by rw [af]; simp [h1]
 have bo:results fn tmps=(do let vs <- fn.results.mapM (vz tmps); pure (if h:vs.size=1 then vs[0] else .tuple vs)):=by
  unfold results;congr 1
 rw [bo];simp only [Sem.run_bind,aJ]
 match vs with
 | []=>rfl
 | [x]=>rfl
 | x::y::l=>simp [xA]
theorem qU.length {g:aG}{rs:List ResultVar}{ys:List ab}(h:qU P g rs ys):rs.length=ys.length:=by
 induction h with
 | nil=>rfl
 | cons _ _ aK=>simp [aK]
theorem qU.run {a:Act}(h:cB w I a.tmps g Fs) {rs:List ResultVar}{ys:List ab}(aj:qU P g rs ys):∃ vs:List Value,rs.length=vs.length/\(∀ (k:Nat) (r:ResultVar) (v:Value),rs[k]?=some r->vs[k]?=some v->(vz a.tmps r).run P w=.ok v w) /\
  ∀ (k:Nat) (y:ab) (v:Value),ys[k]?=some y->vs[k]?=some v->R w I (dO w a.tmps g) y v cb:=by
 induction aj with
 | nil=>exact ⟨[],rfl,by simp,by simp⟩
 | cons h1 _ aK =>
  obtain ⟨v,hv,aV⟩:=h1.run h;obtain ⟨vs,ah,af,aJ⟩:=aK;refine ⟨v::vs,by simp [ah],λk r u aj hu=>?_,λk y u ai hu=>?_⟩
  ·cases k with
   | zero=>simp at aj hu; subst aj hu; exact hv
   | succ k=>exact af k r u (by simpa using aj) (by simpa using hu)
  ·cases k with
   | zero=>simp at ai hu; subst ai hu; exact aV
   | succ k=>exact aJ k y u (by simpa using ai) (by simpa using hu)
theorem Hand.ov {ρ:ab->Value->Prop}{Fs:Nat->a6}{xs:List ab}{vs:List Value}{dj:Nat->a6}(h:Hand w I ρ Fs xs vs dj) (az:∀ x∈xs,cE x) (ρ':ab->Value->Prop):R w I ρ' (ov xs) (xA vs) (λc=>∃ k,k<xs.length/\dj k c)/\cE (ov xs):=by
 have bN:R w I ρ' (.bN xs) (.tuple vs.toArray) (λc=>∃ k,k<xs.length/\dj k c) :=
  .bN (by simpa using h.len) (λk x u j hu=>(h.rel k x u j (by simpa using hu)).bd (az x (List.mem_of_getElem? j))) h.et λc=>Iff.rfl
 match xs,vs,h,az,bN with
 | [],[],_,_,bN=>exact ⟨bN,.bN (by simp)⟩
 | [x],[v],h,az,_ =>
  refine ⟨((h.rel 0 x v rfl rfl).bd (az x (by simp))).te λc=>⟨λJ=>⟨0,by simp,J⟩,λ⟨k,hk,J⟩=>?_⟩,az x (by simp)⟩;have:k=0:=by simpa using hk
  subst this; exact J
 | x::y::l,v::u::m,_,az,bN=>exact ⟨bN,.bN az⟩
 | [],_::_,h,_,_=>have:=h.len; simp at this
 | _::_,[],h,_,_=>have:=h.len; simp at this
 | [_],_::_::_,h,_,_=>have:=h.len; simp at this
 | _::_::_,[_],h,_,_=>have:=h.len; simp at this
structure Leaves (P:Program) (N:cN) (rs:List ResultVar) (g':aG) (n:Nat) (outs:List (Option ab)) (res:ab):Prop where
 ex:∃ ys xs g1,qU P g' rs ys/\Take g' ys xs g1/\res=ov xs/\∀ (k:Nat) (x:ab),outs[k]?=some (some x)->g1 k=some x/\cE x/\k∈N.pins
 len:outs.length=n
theorem cB.more {T:Array Value}(h:cB w I T g Fs) {T':Array Value}(dn:∀ t,g t≠none->T'[t]?=T[t]?):cB w I T' g Fs:=by
 refine ⟨λt x j=>?_,h.kA,h.et,h.bc,h.lt,h.qC,h.hd⟩;obtain ⟨u,hu,aV⟩:=h.rel t x j;exact ⟨u,by rw [dn t (by rw [j]; simp)]; exact hu,h.wj dn (λ_ _ _=>rfl) (λ_ _=>rfl) (λ_ h=>h) (λ_ _ h=>h) aV λ_ _=>rfl⟩
end
end Go.Own
namespace Go.Own
open Go
set_option linter.unusedSectionVars false
variable [cw]
section
variable {P:Program}{N:cN}
def W (P:Program) (N:cN) (c:Code) (g:aG) (Φ:Exit->aG->Prop):Prop :=
 ∀ ⦃Q:Exit->Act->World->Prop⦄ ⦃a:Act⦄ ⦃w:World⦄ ⦃I:a6⦄ ⦃Fs:Nat->a6⦄,cB w I a.tmps g Fs->a.tmps.size=N.size->(∀ e g' b3 w',Φ e g'->hD N a w I Fs g' b3 w'->Q e b3 w')->c.wp P Q a w
def oz (dZ:aG->Prop) (Φ:Exit->aG->Prop):Exit->aG->Prop
 | .normal,g=>dZ g
 | e,g=>Φ e g
def lI (id:Nat) (Φ:Exit->aG->Prop):Exit->aG->Prop
 | .exit k,g=>if k=id then Φ .normal g else Φ (.exit k) g
 | e,g=>Φ e g
theorem hD.refl {a:Act}{w:World}{I:a6}{g:aG}{Fs:Nat->a6}(h:cB w I a.tmps g Fs):hD N a w I Fs g a w:=⟨rfl,hn.refl,_,_,h,kp.refl _ _ _⟩
theorem fK.w {c:Code}{g g':aG}{e:Exit}{Φ:Exit->aG->Prop}(h:fK P N c g e g') (nb:Φ e g'):W P N c g Φ :=
 λ_ _ _ _ _ a_ a8 dD=>h a_ a8 λb3 w' az=>dD _ _ b3 w' nb az
theorem W.mono {c:Code}{g:aG}{Φ nU:Exit->aG->Prop}(h:W P N c g Φ) (nb:∀ e g',Φ e g'->nU e g'):W P N c g nU :=
 λ_ _ _ _ _ a_ a8 dD=>h a_ a8 λ_ _ b3 w' h1 az=>dD _ _ b3 w' (nb _ _ h1) az
theorem W.skip {g:aG}{Φ:Exit->aG->Prop}(h:Φ .normal g):W P N .skip g Φ:=fK.skip.w h
theorem W.ret {g:aG}{Φ:Exit->aG->Prop}(h:Φ .ret g):W P N .ret g Φ:=fK.ret.w h
theorem W.exit {g:aG}{id:Nat}{Φ:Exit->aG->Prop}(h:Φ (.exit id) g):W P N (.exit id) g Φ:=fK.exit.w h
theorem W.seq {x y:Code}{g:aG}{Φ:Exit->aG->Prop}(h:W P N x g (oz (λg1=>W P N y g1 Φ) Φ)):W P N (.seq x y) g Φ:=by
 intro Q a w I Fs a_ a8 dD;refine wp_seq (h a_ a8 λe g1 aw eR h1 az=>?_);cases e with
 | normal =>
  obtain ⟨bO,b7,I',bY,dU,bM⟩:=az;exact h1 dU (b7.1.trans a8) λtf g2 a2 eY af n'=>dD _ _ _ _ af (hD.trans bO b7 bM n')
 | _=>exact dD _ _ _ _ h1 az
theorem W.cond {c:Operand}{x y:Code}{g:aG}{Φ:Exit->aG->Prop}{b:Bool}(J:bj g c=some (.lit (.bool b))) (h:W P N (if b then x else y) g Φ):W P N (.cond c x y) g Φ :=
 λ_ _ _ _ _ a_ a8 dD=>wp_cond (t:=b) (kB a_ J rfl).gK.1 (h a_ a8 dD)
theorem W.MA {c:Operand}{x y:Code}{g:aG}{Φ:Exit->aG->Prop}(J:bj g c=some (.lit (.bool true))) (h:W P N x g Φ):W P N (.cond c x y) g Φ:=W.cond J h
theorem W.Hl {c:Operand}{x y:Code}{g:aG}{Φ:Exit->aG->Prop}(J:bj g c=some (.lit (.bool false))) (h:W P N y g Φ):W P N (.cond c x y) g Φ:=W.cond J h
theorem W.block {id:Nat}{c:Code}{g:aG}{Φ:Exit->aG->Prop}(h:W P N c g (lI id Φ)):W P N (.block id c) g Φ:=by
 intro Q a w I Fs a_ a8 dD;refine wp_block (h a_ a8 λe g1 aw eR h1 az=>?_);cases e with
 | exit k =>
  have af:if k=id then Φ .normal g1 else Φ (.exit k) g1:=h1
  grind [Exit.inBlock]
 | _=>exact dD _ _ _ _ h1 az
def oH (P:Program) (N:cN) (c:Code) (g:aG) (Φ:Exit->aG->Prop):Prop :=
 ∀ ⦃Q:Exit->Act->World->Prop⦄ ⦃a:Act⦄ ⦃w:World⦄ ⦃I:a6⦄ ⦃Fs:Nat->a6⦄,cB w I a.tmps g Fs->a.tmps.size=N.size->(∀ e g' b3 w',Φ e g'->hD N a w I Fs g' b3 w'->Q e b3 w')->DI P c Q a w
theorem W.loop {c:Code}{g:aG}{Φ:Exit->aG->Prop}(h:oH P N c g Φ):W P N (.loop c) g Φ:=by
 intro Q a w I Fs a_ a8 dD b k cs;obtain ⟨e,b3,w',ba,jX⟩:=h a_ a8 dD b k cs;exact ⟨e,b3,w',ba,.of_steps (.one step_loop) jX⟩
theorem oH.step {c:Code}{g:aG}{Φ:Exit->aG->Prop}(h:W P N c g (oz (λg1=>oH P N c g1 Φ) Φ)):oH P N c g Φ:=by
 intro Q a w I Fs a_ a8 dD;refine J0 (h a_ a8 λe g1 aw eR h1 az=>?_);cases e with
 | normal =>
  obtain ⟨bO,b7,I',bY,dU,bM⟩:=az;exact h1 dU (b7.1.trans a8) λtf g2 a2 eY af n'=>dD _ _ _ _ af (hD.trans bO b7 bM n')
 | _=>exact dD _ _ _ _ h1 az
theorem W.weaken {c:Code}{g g1:aG}{Φ:Exit->aG->Prop}(hk:jR g g1) (h:W P N c g1 Φ):W P N c g Φ:=by
 intro Q a w I Fs a_ a8 dD;obtain ⟨bY,dU,fz⟩:=a_.ey hk;exact h dU a8 λe g' b3 w' h1 az=>dD _ _ _ _ h1 (hD.trans rfl hn.refl ⟨Fr.refl _ _,λ_ h=>h,λ_ h=>.inl h,λc ⟨t,J⟩=>.inl ⟨t,fz t c J⟩⟩ az)
theorem oH.weaken {c:Code}{g g1:aG}{Φ:Exit->aG->Prop}(hk:jR g g1) (h:oH P N c g1 Φ):oH P N c g Φ:=by
 intro Q a w I Fs a_ a8 dD;obtain ⟨bY,dU,fz⟩:=a_.ey hk;exact h dU a8 λe g' b3 w' h1 az=>dD _ _ _ _ h1 (hD.trans rfl hn.refl ⟨Fr.refl _ _,λ_ h=>h,λ_ h=>.inl h,λc ⟨t,J⟩=>.inl ⟨t,fz t c J⟩⟩ az)
theorem W.out {c:Code}{g:aG}{Φ nU:Exit->aG->Prop}(h:W P N c g Φ) (nb:∀ e g',Φ e g'->∃ g2,jR g' g2/\nU e g2):W P N c g nU:=by
 intro Q a w I Fs a_ a8 dD;refine h a_ a8 λe g' b3 w' h1 az=>?_;obtain ⟨g2,hk,af⟩:=nb e g' h1;obtain ⟨bO,b7,I',bY,dU,bM⟩:=az;obtain ⟨jr,hJ,fz⟩:=dU.ey hk;exact dD _ _ _ _ af ⟨bO,b7,I',jr,hJ,bM.trans ⟨Fr.refl _ _,λ_ h=>h,λ_ h=>.inl h,λc ⟨t,J⟩=>.inl ⟨t,fz t c J⟩⟩⟩
def LC (P:Program) (N:cN) (ops:Array Oper) (is:List Nat) (g:aG) (K:aG->Prop):Prop:=∃ g',nZ P N ops is g g'/\K g'
theorem W.region {id:Nat}{ops:Array Oper}{g:aG}{Φ:Exit->aG->Prop}(h:LC P N ops (List.range ops.size) g (Φ .normal)):W P N (.region id ops false) g Φ:=by
 obtain ⟨g',aj,nb⟩:=h;exact (fK.region aj).w nb
theorem bH.X9 {f:FuncId}{fn:Func}{c:Code}{args:List ab}{outs:List (Option ab)}{res:ab}{N:cN}(aU:P.funcs[f]?=some fn) (au:fn.body=some c) (a8:fn.ntmps=N.size) (aQ:args.length<=N.size)
  (hlen:outs.length=args.length) (hw:W P N c (oK args) λe g'=>(e=.normal\/e=.ret)/\Leaves P N fn.results.toList g' args.length outs res):bH P f args outs res:=by
 refine ⟨hlen,λw I vs Fs tC a_=>calls_of_wp aU au ?_⟩;have dL:({ tmps:=vs.toArray++Array.replicate (fn.ntmps - vs.toArray.size) undef,defers:=[] }:Act).tmps.size=N.size:=by
  simp; omega
 have pF:∀ t,t<vs.length->(vs.toArray++Array.replicate (fn.ntmps - vs.toArray.size) undef)[t]?=vs.toArray[t]?:=by
  intro t ak;rw [Array.getElem?_append_left (by simpa using ak)]
 refine hw (a_.more (T':=vs.toArray++Array.replicate (fn.ntmps - vs.toArray.size) undef) λt ak=>pF t ?_) dL λe g' b3 w' ⟨he,aM⟩ az=>?_
 ·unfold oK at ak;rw [tC];rcases Nat.lt_or_ge t args.length with h | h
  ·exact h
  ·exact absurd (List.getElem?_eq_none h) ak
 obtain ⟨aO,hold,I',bY,dU,bM⟩:=az;obtain ⟨ys,xs,g1,N_,ak,rfl,m_⟩:=aM.ex;obtain ⟨us,ss,gY,mm⟩:=N_.run dU;have Ov:ys.length=us.length:=by rw [<- N_.length,ss]
 obtain ⟨fu,dj,iU,jx,fN⟩:=ak.sound dU.lO (⟨Ov,λk x u j hu=>(mm k x u j hu).frame (λ_ _=>rfl) (λ_ h=>h) (λ_ _ h=>h.1) λ_ _=>rfl,λ_ _ _ _ _ h=>h.elim,λ_ _ _ _ h=>h.elim,λ_ _ _ h=>h.elim⟩:Hand w' I' (fL w' b3.tmps) bY ys us λ_=>cb);have fz:∀ c,ly fu xs.length dj c->∃ t,bY t c:=by
  intro c J;rcases fN c J with h | ⟨_,_,h⟩
  ·exact h
  ·exact h.elim
 have IH:∃ jr,cB w' I' (vs++[xA us]).toArray (h5 outs (ov xs)) jr/\∀ t c,jr t c->∃ t,bY t c:=by
  classical
  refine ⟨λt=>if t=outs.length then (λc=>∃ k,k<xs.length/\dj k c) else if ∃ x,outs[t]?=some (some x) then fu t else cb,⟨λt x j=>?_,λt so c J=>?_,λt t' c h1 af=>?_,λt c J=>?_,dU.lt,λt t' z p n m new br ck bm cK h1 af=>?_,dU.hd⟩,λt c J=>?_⟩
  ·unfold h5 at j;by_cases aH:t=outs.length
   ·rw [if_pos aH] at j;cases j;subst aH;refine ⟨xA us,?_,.tree ?_⟩
    ·rw [aM.len,<- tC]; simp
    ·simpa using (jx.ov ak.Cp _).1
   ·rw [if_neg aH] at j;have fG:outs[t]?=some (some x):=by
     cases bE:outs[t]? with
     | none=>rw [bE] at j; cases j
     | some y=>rw [bE] at j; simpa using j
    obtain ⟨h1,af,aJ⟩:=m_ t x fG;have Jg:t<vs.length:=by
     have:=(List.getElem?_eq_some_iff.1 fG).1;rw [tC,<- aM.len]; exact this
    obtain ⟨v,hv,aV⟩:=iU.rel t x h1;refine ⟨v,?_,?_⟩
    ·rw [hold.2 t aJ] at hv;simp only at hv;rw [pF t Jg] at hv;simp only [List.getElem?_toArray] at hv ⊢;rw [List.getElem?_append_left Jg]; exact hv
    ·simp only [aH,if_false];rw [if_pos ⟨x,fG⟩];exact .tree ((aV.fS (by rintro z p n m new rfl; cases af)).bd af)
  ·unfold h5 at so;by_cases aH:t=outs.length
   ·rw [if_pos aH] at so; cases so
   ·rw [if_neg aH] at so;simp only [aH,if_false] at J;rw [if_neg] at J
    ·exact J
    ·rintro ⟨x,j⟩;rw [j] at so; cases so
  ·by_cases aH:t=outs.length <;> by_cases Ep:t'=outs.length <;> simp only [aH,Ep,if_true,if_false] at h1 af
   ·rw [aH,Ep]
   ·split at af
    ·obtain ⟨k,hk,J⟩:=h1;exact absurd af (jx.off k t' c hk J)
    ·exact af.elim
   ·split at h1
    ·obtain ⟨k,hk,J⟩:=af;exact absurd h1 (jx.off k t c hk J)
    ·exact h1.elim
   ·split at h1
    ·split at af
     ·exact iU.et _ _ _ h1 af
     ·exact af.elim
    ·exact h1.elim
  ·by_cases aH:t=outs.length <;> simp only [aH,if_true,if_false] at J
   ·obtain ⟨k,hk,J⟩:=J;exact jx.bc k c hk J
   ·split at J
    ·exact iU.bc _ _ J
    ·exact J.elim
  ·have key:∀ t x,h5 outs (ov xs) t=some x->cE x:=by
    intro t x j;unfold h5 at j
    split at j
    ·cases j; exact (jx.ov ak.Cp (λ_ _=>False)).2
    ·cases bE:outs[t]? with
     | none=>rw [bE] at j; cases j
     | some y=>rw [bE] at j; exact (m_ t x (by rw [bE]; simpa using j)).2.1
   have:=key t _ h1;cases this
  ·by_cases aH:t=outs.length <;> simp only [aH,if_true,if_false] at J
   ·obtain ⟨k,hk,J⟩:=J;exact fz c (.inr ⟨k,hk,J⟩)
   ·split at J
    ·exact fz c (.inl ⟨t,J⟩)
    ·exact J.elim
 obtain ⟨jr,hJ,Wx⟩:=IH;have Wm:b3.defers=[]/\∃ v,(results fn b3.tmps).run P w'=.ok v w'/\∃ dJ I' bY,Ending.returned v=.returned dJ/\cB w' I' (vs++[dJ]).toArray (h5 outs (ov xs)) bY/\kp w I (λc=>∃ t,Fs t c) w' I' (λc=>∃ t,bY t c) :=
  ⟨aO,xA us,Y3 ss gY,xA us,I',jr,rfl,hJ,bM.trans ⟨Fr.refl _ _,λ_ h=>h,λ_ h=>.inl h,λc ⟨t,J⟩=>.inl (Wx t c J)⟩⟩
 rcases he with rfl | rfl <;> exact Wm
end
end Go.Own
namespace Go.Own
open Go
set_option linter.unusedSectionVars false
variable [cw]
def get:List (Nat × ab)->aG
 | [],_=>none
 | (s,x)::l,t=>if t=s then some x else get l t
inductive Rd (g:aG):Operand->ab->Prop
 | lit {t:Nat}{v:Value}(h:g t=some (.lit v)):Rd g (.tmp t) (.lit v)
 | k {v:Value}(h:ofConst v=.lit v):Rd g (.const v) (.lit v)
 | w6:Rd g (.const (.slice none 0 0)) .bf
 | JS {v:Value}{cs:List ab}(h:ofConst v=.agg cs):Rd g (.const v) (.agg cs)
 | bf {t:Nat}(h:g t=some .bf):Rd g (.tmp t) .bf
 | bc {t z n:Nat}{cs:List ab}(h:g t=some (.bc z n cs)):Rd g (.tmp t) (.bc z n cs)
 | own {t z n:Nat}{cs:List ab}(h:g t=some (.own z n cs)):Rd g (.tmp t) (.bn z ⟨t,[]⟩ n)
 | obj {t:Nat}{c:ab}{cs:List ab}(h:g t=some (.obj (c::cs))):Rd g (.tmp t) (.ptr ⟨t,[]⟩ 0)
 | cJ {t:Nat}{cs:List ab}(h:g t=some (.cJ cs)):Rd g (.tmp t) (.cJ cs)
 | ptr {t k:Nat}{p:Place}(h:g t=some (.ptr p k)):Rd g (.tmp t) (.ptr p k)
 | bn {t z n:Nat}{p:Place}(h:g t=some (.bn z p n)):Rd g (.tmp t) (.bn z p n)
 | sub {t z lo n:Nat}{p:Place}(h:g t=some (.sub z p lo n)):Rd g (.tmp t) (.sub z p lo n)
 | bC {t z n m:Nat}{p:Place}{new:List ab}(h:g t=some (.bC z p n m new)):Rd g (.tmp t) (.bn z ⟨t,[]⟩ (n+m))
 | agg {t:Nat}{cs cs':List ab}(h:g t=some (.agg cs)) (J:(cs.mapIdx λi x=>fA 1 (Place.push ⟨t,[]⟩ i) x)=cs'):Rd g (.tmp t) (.agg cs')
 | bN {t:Nat}{cs cs':List ab}(h:g t=some (.bN cs)) (J:(cs.mapIdx λi x=>fA 1 (Place.push ⟨t,[]⟩ i) x)=cs'):Rd g (.tmp t) (.bN cs')
 | func {f:FuncId}:Rd g (.func f) (.c7 (.func f) [] [])
 | c7 {t:Nat}{fn:Fn}{cs:List ab}(h:g t=some (.c7 fn [] cs)):Rd g (.tmp t) (.c7 fn [] cs)
 | mp {t:Nat}{q:Array MapEntry->Nat->Prop}(h:g t=some (.mp q)):Rd g (.tmp t) (.ha ⟨t,[]⟩)
 | ha {t:Nat}{p:Place}(h:g t=some (.ha p)):Rd g (.tmp t) (.ha p)
 | imp {t:Nat}{q:Array MapEntry->Nat->Prop}(h:g t=some (.imp q)):Rd g (.tmp t) (.imp q)
theorem Rd.bj {g:aG}{x:Operand}{y:ab}(h:Rd g x y):bj g x=some y:=by
 cases h with
 | agg h J=>subst J; simp [Own.bj,h,ou,fA]
 | bN h J=>subst J; simp [Own.bj,h,ou,fA]
 | k h=>simp [Own.bj,h]
 | w6=>rfl
 | JS h=>simp [Own.bj,h]
 | func=>rfl
 | _ h=>simp [Own.bj,h,ou,fA]
section
variable {P:Program}{N:cN}{ops:Array Oper}{g:aG}{K:aG->Prop}{l:List Oper}
def aC (P:Program) (N:cN) (ops:Array Oper) (l:List Oper) (g:aG) (K:aG->Prop):Prop:=∀ i,ops.toList.drop i=l->LC P N ops (List.range' i l.length) g K
theorem W.zN {id:Nat}{l:List Oper}{g:aG}{Φ:Exit->aG->Prop}(h:aC P N l.toArray l g (Φ .normal)):W P N (.region id l.toArray false) g Φ:=by
 refine W.region ?_;have:=h 0 (by simp)
 grind [List.range_eq_range']
theorem aC.nil (h:K g):aC P N ops [] g K:=λ_ _=>⟨g,.nil,h⟩
theorem drop_cons {i:Nat}{o:Oper}(h:ops.toList.drop i=o::l):ops[i]?=some o/\ops.toList.drop (i+1)=l:=by
 have h1:(ops.toList.drop i)[0]?=some o:=by rw [h]; rfl
 rw [List.getElem?_drop] at h1;refine ⟨by simpa using h1,?_⟩;rw [<- List.drop_drop,h];rfl
variable {d:Nat}{op:Op}{ty:TypeId}{pos:String}{after:Array Edge}{x:ab}
theorem aC.zW {r:Option ab}{o:Oper}(aO:o.dst=some d) (a8:N.ok d=true) (aU:g d=none) (ax:pg P g ops o r) (hk:aC P N ops l (xx g d r) K):aC P N ops (o::l) g K:=by
 intro i hi;obtain ⟨h1,af⟩:=drop_cons hi;obtain ⟨g',aj,dz⟩:=hk (i+1) af;exact ⟨g',.step h1 aO aU a8 ax aj,dz⟩
inductive Ln (g:aG) (d:Nat):aG->Prop
 | new (h:g d=none):Ln g d g
 | iF {y:ab}(h:g d=some y) (ah:leaf y=true):Ln g d (del g d)
inductive fW (g:aG) (ops:Array Oper):Option (Nat × Bool)->Prop
 | none:fW g ops none
 | yes {aa t:Nat}{b:Bool}(h:(ops[aa]?).bind (·.dst)=some t) (aI:g t=some (.lit (.bool b))):fW g ops (some (aa,b))
variable {gd:Option (Nat × Bool)}{g1:aG}
theorem fW.del {y:ab}(h:fW g ops gd) (aO:g d=some y) (au:∀ b,y≠.lit (.bool b)):h' (del g d) ops ⟨some d,op,ty,pos,after,gd⟩ true:=by
 cases h with
 | none=>rfl
 | @yes aa t b h aI =>
  have:t≠d:=by
   grind
  exact ⟨t,h,.inl ⟨b,by simp only [Own.del,if_neg this,aI],by simp⟩⟩
theorem fW.wanted (h:fW g ops gd):h' g ops ⟨some d,op,ty,pos,after,gd⟩ true:=by
 cases h with
 | none=>rfl
 | @yes aa t b h aI=>exact ⟨t,h,.inl ⟨b,aI,by simp⟩⟩
theorem aC.K1 (av:b5 P g op ty x) (a8:N.ok d=true) (aU:g d=none) (hw:h' g ops ⟨some d,op,ty,pos,after,gd⟩ true) (hk:aC P N ops l (cH g d x) K):aC P N ops (⟨some d,op,ty,pos,after,gd⟩::l) g K :=
 .zW rfl a8 aU (r:=some x) (.inl ⟨hw,.inl av⟩) hk
theorem ZY:cH (del g d) d x=cH g d x:=by
 grind [cH,del]
theorem aC.val (av:cS P g op ty x) (a8:N.ok d=true) (aU:g d=none) (aI:fW g ops gd) (hk:aC P N ops l (cH g d x) K):aC P N ops (⟨some d,op,ty,pos,after,gd⟩::l) g K :=
 .K1 (.ek av) a8 aU aI.wanted hk
theorem aC.over {y:ab}(av:cS P (del g d) op ty x) (a8:N.ok d=true) (aU:g d=some y) (ah:leaf y=true) (hk:aC P N ops l (cH g d x) K):aC P N ops (⟨some d,op,ty,pos,after,none⟩::l) g K:=by
 intro i hi;obtain ⟨g',aj,dz⟩:=aC.K1 (pos:=pos) (after:=after) (gd:=Option.none) (.ek av) a8 (by simp [del]) (fW.wanted .none) (by rw [ZY]; exact hk) i hi;exact ⟨g',.drop aU ah aj,dz⟩
theorem aC.Z2 (av:b5 P g op ty x) (a8:N.ok d=true) (aU:g d=none) (aI:fW g ops gd) (hk:aC P N ops l (cH g d x) K):aC P N ops (⟨some d,op,ty,pos,after,gd⟩::l) g K :=
 .K1 av a8 aU aI.wanted hk
theorem aC.call (av:c3 P g op x) (a8:N.ok d=true) (aU:g d=none) (aI:fW g ops gd) (hk:aC P N ops l (cH g d x) K):aC P N ops (⟨some d,op,ty,pos,after,gd⟩::l) g K :=
 .zW rfl a8 aU (r:=some x) (.inl ⟨aI.wanted,.inr av⟩) hk
theorem aC.pass {aa t':Nat}{b:Bool}(h:(ops[aa]?).bind (·.dst)=some t') (aI:g t'=some (.lit (.bool (!b)))) (a8:N.ok d=true) (aU:g d=none) (hk:aC P N ops l g K):aC P N ops (⟨some d,op,ty,pos,after,some (aa,b)⟩::l) g K :=
 .zW rfl a8 aU (r:=Option.none) ⟨t',h,.inl ⟨!b,aI,by cases b <;> rfl⟩⟩ hk
variable {jg:Option Nat}
theorem aC.forget {g1:aG}(hk:gF g g1) (h:aC P N ops l g1 K):aC P N ops l g K:=by
 intro i hi;obtain ⟨g',aj,dz⟩:=h i hi;exact ⟨g',.forget hk aj,dz⟩
variable {a b:Operand}{t t2:TypeId}{k:IntKind}{m n:Int}
theorem cS.add (j:Rd g a (.lit (.int k m))) (ai:Rd g b (.lit (.int k n))):cS P g (.binOp .add t a b t2) ty (.lit (.int k (k.wrap (m+n)))) :=
 .bin j.bj ai.bj rfl λw=>by simp [eqGuard,binOp,Op.intArith]
theorem cS.Zv (j:Rd g a (.lit (.int k m))) (ai:Rd g b (.lit (.int k n))):cS P g (.binOp .sub t a b t2) ty (.lit (.int k (k.wrap (m - n)))) :=
 .bin j.bj ai.bj rfl λw=>by simp [eqGuard,binOp,Op.intArith]
theorem cS.mul (j:Rd g a (.lit (.int k m))) (ai:Rd g b (.lit (.int k n))):cS P g (.binOp .mul t a b t2) ty (.lit (.int k (k.wrap (m * n)))) :=
 .bin j.bj ai.bj rfl λw=>by simp [eqGuard,binOp,Op.intArith]
theorem cS.quo (j:Rd g a (.lit (.int k m))) (ai:Rd g b (.lit (.int k n))) (h:n≠0):cS P g (.binOp .quo t a b t2) ty (.lit (.int k (k.wrap (m.tdiv n)))) :=
 .bin j.bj ai.bj rfl λw=>by simp [eqGuard,binOp,Op.intDiv,h]
theorem cS.rem (j:Rd g a (.lit (.int k m))) (ai:Rd g b (.lit (.int k n))) (h:n≠0):cS P g (.binOp .rem t a b t2) ty (.lit (.int k (m.tmod n))) :=
 .bin j.bj ai.bj rfl λw=>by simp [eqGuard,binOp,Op.intDiv,h]
theorem cS.cat {s u:ByteArray}(j:Rd g a (.lit (.string s))) (ai:Rd g b (.lit (.string u))) (h:s.size+u.size<=9223372036854775807):cS P g (.binOp .add t a b t2) ty (.lit (.string (s++u))) :=
 .bin j.bj ai.bj rfl λw=>by
  have:¬ ((s.size+u.size:Nat):Int) > IntKind.i64.max:=by
   have:IntKind.i64.max=9223372036854775807:=by decide
   omega
  simp only [eqGuard,binOp,Op.stringOp,if_neg this];simp
theorem Mm {s u:ByteArray}(h:s.toList=u.toList):s=u:=by
 have h1:s.data.toList=u.data.toList:=by
  grind [ByteArray.toList_eq]
 cases s
 simp_all
theorem cS.px {s u:ByteArray}(j:Rd g a (.lit (.string s))) (ai:Rd g b (.lit (.string u))) {c:Bool}(J:c=true↔s=u):cS P g (.binOp .eql t a b t2) ty (.lit (.bool c)) :=
 .bin j.bj ai.bj rfl λw=>by
  have:(s.toList == u.toList)=c:=by
   rw [Bool.eq_iff_iff,J];simp only [beq_iff_eq];exact ⟨Mm,λh=>by rw [h]⟩
  simp [eqGuard,binOp,Op.stringOp,this]
theorem cS.nN {s u:ByteArray}(j:Rd g a (.lit (.string s))) (ai:Rd g b (.lit (.string u))) {c:Bool}(J:c=true↔s≠u):cS P g (.binOp .neq t a b t2) ty (.lit (.bool c)) :=
 .bin j.bj ai.bj rfl λw=>by
  have:(s.toList == u.toList)=!c:=by
   rw [Bool.eq_iff_iff];simp only [beq_iff_eq,Bool.not_eq_true'];cases c with
   | true=>simp only [true_iff] at J; simp only [Bool.true_eq_false,iff_false]; exact λh=>J (Mm h)
   | false =>
    simp only [Bool.false_eq_true,false_iff,Decidable.not_not] at J;simp [J]
  simp [eqGuard,binOp,Op.stringOp,this]
theorem cS.lss (j:Rd g a (.lit (.int k m))) (ai:Rd g b (.lit (.int k n))) {c:Bool}(J:c=true↔m<n):cS P g (.binOp .lss t a b t2) ty (.lit (.bool c)) :=
 .bin j.bj ai.bj rfl λw=>by
  have:decide (m<n)=c:=by rw [Bool.eq_iff_iff,J]; simp
  simp [eqGuard,binOp,Op.intCmp,this]
theorem cS.leq (j:Rd g a (.lit (.int k m))) (ai:Rd g b (.lit (.int k n))) {c:Bool}(J:c=true↔m<=n):cS P g (.binOp .leq t a b t2) ty (.lit (.bool c)) :=
 .bin j.bj ai.bj rfl λw=>by
  have:decide (m<=n)=c:=by rw [Bool.eq_iff_iff,J]; simp
  simp [eqGuard,binOp,Op.intCmp,this]
theorem cS.gtr (j:Rd g a (.lit (.int k m))) (ai:Rd g b (.lit (.int k n))) {c:Bool}(J:c=true↔n<m):cS P g (.binOp .gtr t a b t2) ty (.lit (.bool c)) :=
 .bin j.bj ai.bj rfl λw=>by
  have:decide (n<m)=c:=by rw [Bool.eq_iff_iff,J]; simp
  simp [eqGuard,binOp,Op.intCmp,this]
theorem cS.geq (j:Rd g a (.lit (.int k m))) (ai:Rd g b (.lit (.int k n))) {c:Bool}(J:c=true↔n<=m):cS P g (.binOp .geq t a b t2) ty (.lit (.bool c)) :=
 .bin j.bj ai.bj rfl λw=>by
  have:decide (n<=m)=c:=by rw [Bool.eq_iff_iff,J]; simp
  simp [eqGuard,binOp,Op.intCmp,this]
theorem cS.eql (j:Rd g a (.lit (.int k m))) (ai:Rd g b (.lit (.int k n))) {c:Bool}(J:c=true↔m=n):cS P g (.binOp .eql t a b t2) ty (.lit (.bool c)) :=
 .bin j.bj ai.bj rfl λw=>by
  have:(m == n)=c:=by rw [Bool.eq_iff_iff,J]; simp
  simp [eqGuard,binOp,Op.intCmp,this]
theorem cS.neq (j:Rd g a (.lit (.int k m))) (ai:Rd g b (.lit (.int k n))) {c:Bool}(J:c=true↔m≠n):cS P g (.binOp .neq t a b t2) ty (.lit (.bool c)) :=
 .bin j.bj ai.bj rfl λw=>by
  have:(m != n)=c:=by rw [Bool.eq_iff_iff,J]; simp
  simp [eqGuard,binOp,Op.intCmp,this]
theorem cS.not {c:Bool}(j:Rd g a (.lit (.bool c))):cS P g (.unOp .not t a) ty (.lit (.bool (!c))) :=
 .un j.bj rfl λw=>by simp [Op.unary]
theorem cS.YA {c a b:Operand}{y:ab}(J:Rd g c (.lit (.bool true))) (aj:Rd g a y):cS P g (.pick c a b) ty y:=.pick J.bj aj.bj
theorem cS.Yz {c a b:Operand}{y:ab}(J:Rd g c (.lit (.bool false))) (aj:Rd g b y):cS P g (.pick c a b) ty y:=.pick J.bj aj.bj
theorem cS.qx {s:ByteArray}(j:Rd g a (.lit (.string s))) (ak:nQ P t=true):cS P g (.call { callee:=.builtin .len,args:=#[a],argTypes:=#[t] }) ty (.lit (.int .i64 s.size)) :=
 .lits (vs:=[.string s]) (by simp [j.bj]) rfl λw cs=>by
  simp [builtin,Builtin.len_,run_underlying (KP ak),goInt]
section
variable {dZ:aG->Prop}{Φ:Exit->aG->Prop}{id k:Nat}
theorem ZM (h:dZ g):oz dZ Φ .normal g:=h
theorem ZN (h:Φ .ret g):oz dZ Φ .ret g:=h
theorem ZL (h:Φ (.exit k) g):oz dZ Φ (.exit k) g:=h
theorem Xr (h:Φ .normal g):lI id Φ .normal g:=h
theorem Xs (h:Φ .ret g):lI id Φ .ret g:=h
theorem Xp (h:Φ .normal g):lI id Φ (.exit id) g:=by
 show if id=id then Φ .normal g else Φ (.exit id) g
 grind
theorem Xq (hk:Nat.beq k id=false) (h:Φ (.exit k) g):lI id Φ (.exit k) g:=by
 show if k=id then Φ .normal g else Φ (.exit k) g
 grind [Nat.ne_of_beq_eq_false]
end
def Fin (P:Program) (N:cN) (rs:List ResultVar) (n:Nat) (outs:List (Option ab)) (res:ab) (e:Exit) (g':aG):Prop:=(e=.normal\/e=.ret)/\Leaves P N rs g' n outs res
theorem bH.fin {f:FuncId}{fn:Func}{c:Code}{args:List ab}{outs:List (Option ab)}{res:ab}{N:cN}(aU:P.funcs[f]?=some fn) (au:fn.body=some c) (a8:fn.ntmps=N.size) (aQ:Nat.ble args.length N.size=true) (hlen:outs.length=args.length)
  (hw:W P N c (oK args) (Fin P N fn.results.toList args.length outs res)):bH P f args outs res:=.X9 aU au a8 (Nat.le_of_ble_eq_true aQ) hlen hw
def sD (outs:List (Option ab)):Bool:=outs.all λx=>x.isNone
theorem Fo {outs:List (Option ab)}(h:sD outs=true) (k:Nat) (x:ab):outs[k]?≠some (some x):=by
 intro e;have:=List.all_eq_true.1 h _ (List.mem_of_getElem? e)
 grind
theorem Fin.one {t:Nat}{y res:ab}{outs:List (Option ab)}{n:Nat}(ai:Rd g (.tmp t) y) (az:cE y) (aM:sD outs=true) (ah:outs.length=n) (he:y=res):Fin P N [.tmp t] n outs res .ret g :=
 ⟨.inr rfl,⟨[y],[y],g,.cons (.tmp ai.bj) .nil,.bd (by simpa using az),he.symm,λk x hk=>absurd hk (Fo aM k x)⟩,ah⟩
inductive An (g:aG):List ResultVar->List ab->Prop
 | nil:An g [] []
 | cons {t:Nat}{y:ab}{rs:List ResultVar}{ys:List ab}(h:Rd g (.tmp t) y) (az:cE y) (ak:An g rs ys):An g (.tmp t::rs) (y::ys)
theorem An.spec {rs:List ResultVar}{ys:List ab}(h:An g rs ys):qU P g rs ys/\∀ y∈ys,cE y:=by
 induction h with
 | nil=>exact ⟨.nil,by simp⟩
 | cons h az _ aK=>exact ⟨.cons (.tmp h.bj) aK.1,oY az aK.2⟩
inductive qT (g:aG):List Operand->List ab->Prop
 | nil:qT g [] []
 | cons {x:Operand}{y:ab}{xs:List Operand}{ys:List ab}(h:Rd g x y) (az:cE y) (ak:qT g xs ys):qT g (x::xs) (y::ys)
theorem qT.spec {xs:List Operand}{ys:List ab}(h:qT g xs ys):fZ g xs=some ys/\∀ y∈ys,cE y:=by
 induction h with
 | nil=>exact ⟨rfl,by simp⟩
 | cons h az _ aK=>exact ⟨by simp only [fZ,h.bj,aK.1],oY az aK.2⟩
theorem c3.TA {xs:List Operand}{fI:Array TypeId}{f:FuncId}{ys:List ab}{outs:List (Option ab)}{res:ab}(gp:bH P f ys outs res) (aU:gR P f=true) (j:qT g xs ys) (aM:sD outs=true) (aj:cE res) :
  c3 P g (.call { callee:=.value (.func f),args:=xs.toArray,argTypes:=fI }) res:=by
 have m_:outs=ys.map λ_=>Option.none:=by
  apply List.ext_getElem?;intro k;rw [List.getElem?_map];cases ai:ys[k]? with
  | none=>rw [List.getElem?_eq_none (by rw [gp.1]; exact List.getElem?_eq_none_iff.1 ai)]; rfl
  | some y =>
   have hk:k<outs.length:=by rw [gp.1]; exact (List.getElem?_eq_some_iff.1 ai).1
   have h1:=List.getElem?_eq_getElem hk;rw [h1];cases af:outs[k] with
   | none=>rfl
   | some x=>rw [af] at h1; exact absurd h1 (Fo aM k x)
 exact .plain (first:=[]) (caps:=[]) (ys:=ys) rfl (by simpa using j.spec.1) aU (by simpa using j.spec.2) (by simpa [<- m_] using gp) aj
end
end Go.Own
namespace Go.Own
open Go
set_option linter.unusedSectionVars false
variable [cw]
def jv (s:ByteArray) (m:Int):Int:=((s[m.toNat]?.getD 0).toNat:Nat)
theorem Sh (s:ByteArray) (m:Int):0<=jv s m/\jv s m<=255:=by
 unfold jv;have:=(s[m.toNat]?.getD 0).toNat_lt;omega
def q2 (s:ByteArray) (m n:Int):ByteArray:=s.extract m.toNat n.toNat
section
variable {P:Program}{N:cN}{ops:Array Oper}{g:aG}{K:aG->Prop}{l:List Oper}
variable {d:Nat}{op:Op}{ty:TypeId}{pos:String}{after:Array Edge}{x:ab}{a b:Operand}{t t2:TypeId}{k:IntKind}{m n:Int}{gd:Option (Nat × Bool)}
theorem cS.R0 {s:ByteArray}{i:Operand}(j:Rd g a (.lit (.string s))) (hi:Rd g i (.lit (.int k m))) (ak:nQ P t=true) (h:0<=m/\m<s.size):cS P g (.index t a i) ty (.lit (.int .u8 (jv s m))):=by
 obtain ⟨aa,rfl⟩:=Int.eq_ofNat_of_zero_le h.1;have ag:aa<s.size:=by omega
 have au:s[aa]?=some s[aa]:=getElem?_pos s aa ag;have:jv s (aa:Int)=(s[aa].toNat:Nat):=by simp [jv,au]
 rw [this];exact .E0 j.bj hi.bj ak au
theorem cS.KM {s:ByteArray}{lo hi:Operand}{gm:IntKind}(j:Rd g a (.lit (.string s))) (ah:Rd g lo (.lit (.int k m))) (bE:Rd g hi (.lit (.int gm n))) (ak:nQ P t=true) (h:0<=m/\m<=n/\n<=s.size) :
  cS P g (.slice t a (some lo) (some hi) none) ty (.lit (.string (q2 s m n))):=by
 obtain ⟨i,rfl⟩:=Int.eq_ofNat_of_zero_le h.1;obtain ⟨aa,rfl⟩:=Int.eq_ofNat_of_zero_le (show 0<=n by omega);exact .zU j.bj ⟨_,ah.bj⟩ ⟨_,bE.bj⟩ ak (by omega) (by omega)
theorem cS.Zg {s:ByteArray}{hi:Operand}{gm:IntKind}(j:Rd g a (.lit (.string s))) (bE:Rd g hi (.lit (.int gm n))) (ak:nQ P t=true) (h:0<=n/\n<=s.size) :
  cS P g (.slice t a none (some hi) none) ty (.lit (.string (q2 s 0 n))):=by
 obtain ⟨aa,rfl⟩:=Int.eq_ofNat_of_zero_le h.1;exact .zU (l:=0) j.bj rfl ⟨_,bE.bj⟩ ak (by omega) (by omega)
theorem cS.Zh {s:ByteArray}{lo:Operand}(j:Rd g a (.lit (.string s))) (ah:Rd g lo (.lit (.int k m))) (ak:nQ P t=true) (h:0<=m/\m<=s.size) :
  cS P g (.slice t a (some lo) none none) ty (.lit (.string (q2 s m s.size))):=by
 obtain ⟨aa,rfl⟩:=Int.eq_ofNat_of_zero_le h.1;exact .zU (h:=s.size) j.bj ⟨_,ah.bj⟩ rfl ak (by omega) (by omega)
theorem Tg {s:ByteArray}{m n:Int}(h:0<=m/\m<=n/\n<=s.size):((q2 s m n).size:Int)=n - m:=by
 grind [q2,ByteArray.size_extract]
theorem cS.bytes {z p iv:Nat}{cs:List ab}{xs:List Int}(j:g p=some (.own 1 iv cs)) (gl:cs=xs.map λb=>.lit (.int .u8 b)) (ah:cs.length=iv) (ak:v8 P t t2=true) (_hz:z=0):cS P g (.convert t t2 (.tmp p)) ty (.lit (.string (strOfNums xs))) :=
 .D_ (p:=⟨p,[]⟩) (n:=iv) (N:=iv) (cs:=cs) (by simp [bj,j,ou,fA]) (by simp [bu,j,ab.at]) (Nat.le_refl _) (by rw [List.take_of_length_le (by omega)]; exact gl) ak
def hY (P:Program) (e:TypeId) (z:Nat):Bool :=
 match (P.info? e).bind (·.zero) with
 | some v=>v.cells.size == z
 | none=>false
theorem Ld {e:TypeId}{z:Nat}(h:hY P e z=true):∃ v,(P.info? e).bind (·.zero)=some v/\v.cells.size=z:=by
 grind [hY]
inductive rZ (g:aG):List Operand->List Value->Prop
 | nil:rZ g [] []
 | cons {x:Operand}{v:Value}{xs:List Operand}{vs:List Value}(h:Rd g x (.lit v)) (ak:rZ g xs vs):rZ g (x::xs) (v::vs)
theorem rZ.fZ {xs:List Operand}{vs:List Value}(h:rZ g xs vs):fZ g xs=some (vs.map .lit):=by
 induction h with
 | nil=>rfl
 | cons h _ aK=>simp only [Own.fZ,h.bj,aK]; rfl
theorem rZ.map {xs:List Operand}{vs:List Value}(h:rZ g xs vs):xs.map (bj g)=vs.map λv=>some (.lit v):=by
 induction h with
 | nil=>rfl
 | cons h _ aK=>simp only [List.map_cons,h.bj,aK]
theorem b5.row {e:TypeId}{xs:List Operand}{vs:List Value}{parts:Array (Nat × Operand)}{c_:Nat}(j:rZ g xs vs) (av:parts.toList=xs.mapIdx (λi x=>(i,x))) (az:xs.length=c_) (ak:e2 P t e 1=true) (aS:hY P e 1=true) (au:Nat.ble c_ 1000=true) :
  b5 P g (.buildSlice t c_ parts) ty (.own 1 c_ (vs.map .lit)):=by
 subst az;have kt:=Nat.le_of_ble_eq_true au;refine .o0 (.buildSlice ak av j.fZ (λy ai=>?_) ?_ (by omega) (by omega) (.inr (Ld aS)))
 ·obtain ⟨v,_,rfl⟩:=List.mem_map.1 ai;exact ⟨[.lit v],rfl,rfl⟩
 ·generalize vs=l
  induction l with
  | nil=>rfl
  | cons v l aK=>simp only [List.map_cons,l0,h0,aK]; rfl
theorem cS.TJ {xs:List Operand}{fI:Array TypeId}{f:FuncId}{vs:List Value}{v:Value}(aj:∀ w,(callFunc f vs.toArray).run P w=.ok (.value v) w) (hv:v.oneCell'=true) (j:rZ g xs vs) :
  cS P g (.call { callee:=.value (.func f),args:=xs.toArray,argTypes:=fI }) ty (.lit v) :=
 .Ef (vs:=vs) (by simpa using j.map) hv aj
inductive s0 (g:aG):List Nat->List (Nat × ab)->Prop
 | nil:s0 g [] []
 | some {s:Nat}{x:ab}{sP:List Nat}{l:List (Nat × ab)}(h:g s=some x) (az:cE x) (ak:s0 g sP l):s0 g (s::sP) ((s,x)::l)
 | none {s:Nat}{sP:List Nat}{l:List (Nat × ab)}(ak:s0 g sP l):s0 g (s::sP) l
theorem s0.spec {g:aG}{sP:List Nat}{l:List (Nat × ab)}(h:s0 g sP l):∀ t x,get l t=Option.some x->g t=Option.some x/\cE x:=by
 induction h with
 | nil=>intro t x j; cases j
 | @some s y sP l h az _ aK =>
  grind [get]
 | none _ aK=>exact aK
theorem s0.ey {g:aG}{sP:List Nat}{l:List (Nat × ab)}(h:s0 g sP l):jR g (get l) :=
 ⟨λt x j=>⟨x,(h.spec t x j).1,.refl⟩,λt x j=>.bd (h.spec t x j).2,λt z q n m new j=>by have:=(h.spec t _ j).2; cases this⟩
end
end Go.Own
namespace Go.Own
open Go
set_option linter.unusedSectionVars false
variable [cw]
def n0 (s:ByteArray) (n:Nat):Prop:=s.size<=n
theorem n0.app {s u:ByteArray}{a b:Nat}(h:n0 s a) (aL:n0 u b):n0 (s++u) (a+b):=by
 unfold n0 at *;rw [ByteArray.size_append]; omega
theorem n0.cut {s:ByteArray}{a:Nat}{m n:Int}(h:n0 s a):n0 (q2 s m n) a:=by
 unfold n0 q2 at *;rw [ByteArray.size_extract]; omega
theorem n0.const {xs:Array UInt8}:n0 ⟨xs⟩ xs.size:=Nat.le_refl _
theorem n0.of {s:ByteArray}{n:Nat}(h:s.size<=n):n0 s n:=h
theorem n0.self {s:ByteArray}:n0 s s.size:=Nat.le_refl _
section
variable {P:Program}{g:aG}{ty:TypeId}{a b:Operand}{t t2:TypeId}{N:cN}{ops:Array Oper}{K:aG->Prop}{l:List Oper}{d:Nat}{pos:String}{after:Array Edge}{gd:Option (Nat × Bool)}
theorem W.Mz {c:Operand}{x y:Code}{Φ:Exit->aG->Prop}{b:Bool}(J:Rd g c (.lit (.bool b))) (dn:b=true->W P N x g Φ) (aE:b=false->W P N y g Φ):W P N (.cond c x y) g Φ:=by
 cases b with
 | true=>exact .MA J.bj (dn rfl)
 | false=>exact .Hl J.bj (aE rfl)
theorem Y1 {c e:Bool}(ak:P.underlying t=some .bool) (w:World):(do eqGuard .eql t a b (.bool c) (.bool e); binOp .eql t (.bool c) (.bool e):Sem Value).run P w=.ok (.bool (c == e)) w:=by
 have h:=run_equal_bool w t c e ak;simp [eqGuard,binOp,h]
def G0 (P:Program) (t:TypeId):Bool :=
 match P.underlying t with
 | some .bool=>true
 | _=>false
theorem Sc (h:G0 P t=true):P.underlying t=some .bool:=by
 unfold G0 at h
 split at h
 ·assumption
 ·cases h
def rA (P:Program) (t:TypeId) (k:IntKind):Bool :=
 match P.underlying t with
 | some (.int kc)=>kc == k
 | _=>false
theorem OC {k:IntKind}(h:rA P t k=true):P.underlying t=some (.int k):=by
 unfold rA at h
 split at h
 ·rename_i kc hk; rw [hk]; have:kc=k:=by simpa using h
  rw [this]
 ·cases h
theorem cS.Tc {k kc:IntKind}{m:Int}(j:Rd g a (.lit (.int k m))) (ax:rA P t k=true) (aO:rA P t2 kc=true):cS P g (.convert t t2 a) ty (.lit (.int kc (kc.wrap m))) :=
 .conv j.bj rfl λw=>by simp [convert,run_underlying (OC ax),run_underlying (OC aO),Conv.intToInt]
inductive Bytes (g:aG):List Operand->List Int->Prop
 | nil:Bytes g [] []
 | cons {x:Operand}{v:Int}{xs:List Operand}{vs:List Int}(h:Rd g x (.lit (.int .u8 v))) (ak:Bytes g xs vs):Bytes g (x::xs) (v::vs)
theorem Bytes.lits {xs:List Operand}{vs:List Int}(h:Bytes g xs vs):rZ g xs (vs.map λb=>.int .u8 b):=by
 induction h with
 | nil=>exact .nil
 | cons h _ aK=>exact .cons h aK
end
end Go.Own
namespace Go.Own
open Go Go.RowKit
set_option linter.unusedSectionVars false
variable [cw]
theorem cB.lits {w:World}(vs:List Value) (h:∀ v∈vs,v.oneCell'=true) (hV:cw.q w λ_=>False):cB w (λ_=>False) vs.toArray (oK (vs.map .lit)) (λ_=>cb):=by
 refine ⟨λt x j=>?_,λ_ _ _ h=>h,λ_ _ _ h=>h.elim,λ_ _ h=>h.elim,λ_ h=>h.elim,λt t' z p n m new br ck bm cK h1 _=>?_,hV⟩
 ·simp only [oK,List.getElem?_map] at j;cases hv:vs[t]? with
  | none=>rw [hv] at j; cases j
  | some v =>
   rw [hv] at j;simp only [Option.map_some,Option.some.injEq] at j;subst j;exact ⟨v,by simpa using hv,.tree (.lit (h v (List.mem_of_getElem? hv)) λ_ h=>h)⟩
 ·simp only [oK,List.getElem?_map] at h1;cases hv:vs[t]? with
  | none=>rw [hv] at h1; cases h1
  | some v=>rw [hv] at h1; cases h1
end Go.Own
namespace Go.Own
open Go
set_option linter.unusedSectionVars false
variable [cw]
section
variable {P:Program}{g:aG}{ty:TypeId}{a b:Operand}{t t2:TypeId}{N:cN}{ops:Array Oper}{K:aG->Prop}{l:List Oper}{d:Nat}{pos:String}{after:Array Edge}{gd:Option (Nat × Bool)}
theorem cS.l9 {z n br:Nat}{p:Place}{e:TypeId}(j:Rd g a (.bn z p n)) (ak:e2 P t e br=true):cS P g (.call { callee:=.builtin .len,args:=#[a],argTypes:=#[t] }) ty (.lit (.int .i64 n)):=.Cd j.bj ak
theorem cS.tK {z n br:Nat}{cs:List ab}{e:TypeId}(j:Rd g a (.bc z n cs)) (ak:e2 P t e br=true):cS P g (.call { callee:=.builtin .len,args:=#[a],argTypes:=#[t] }) ty (.lit (.int .i64 n)):=.Ce j.bj ak
end
end Go.Own
namespace Go.Own
open Go
set_option linter.unusedSectionVars false
variable [cw]
end Go.Own
