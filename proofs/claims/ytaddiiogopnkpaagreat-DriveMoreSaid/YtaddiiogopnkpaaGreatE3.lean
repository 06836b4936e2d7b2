/- Parts of the proof that the last text states. -/
import Derived.RowKit3
import Derived.Test.YtaddiiogopnkpaaGreatE1
import Derived.ChangeAt
import Derived.ChangeOld
import Derived.ChangeSame
import Derived.Deep.Slices
import Derived.ReadAgain
import Derived.WideShapes
set_option linter.unusedSectionVars false
namespace Go.Own
open Go
variable [cG]
structure iE (g1 g2:aL):Prop where
 sub:∀ t x,g2 t=some x->g1 t=some x
 b0:∀ t x,g2 t=some x->cU g2 x
 fE:∀ t z q n m new,g2 t≠some (.bM z q n m new)
structure cP where
 size:Nat
 pins:List Nat
def cP.ok (N:cP) (d:Nat):Bool:=Nat.blt d N.size&&!N.pins.elem d
def ib (N:cP) (T T':Array Value):Prop:=T'.size=T.size/\∀ t∈N.pins,T'[t]?=T[t]?
theorem ib.refl {N:cP}{T:Array Value}:ib N T T:=⟨rfl,λ_ _=>rfl⟩
theorem ib.trans {N:cP}{T Mz MA:Array Value}(h:ib N T Mz) (h1:ib N Mz MA):ib N T MA:=⟨h1.1.trans h.1,λt au=>(h1.2 t au).trans (h.2 t au)⟩
theorem cP.lt {N:cP}{d:Nat}(h:N.ok d=true):d<N.size:=by
 simp_all [cP.ok]
theorem ib.put {N:cP}{d:Nat}(h:N.ok d=true) (T:Array Value) (v:Value):ib N T (T.setIfInBounds d v):=by
 refine ⟨by simp,λt au=>?_⟩
 grind [cP.ok]
def kh (N:cP) (a:Act) (w:World) (I:a') (Fs:Nat->a') (g':aL) (cd:Act) (w':World):Prop :=
 cd.defers=a.defers/\ib N a.tmps cd.tmps/\∃ I' bW,cB w' I' cd.tmps g' bW/\k4 w I (λc=>∃ t,Fs t c) w' I' (λc=>∃ t,bW t c)
theorem u6 {bW:Nat->a'}{d:Nat}{F:a'}{c:Nat}(h:∃ t,wB bW d F t c):(∃ t,bW t c)\/F c:=by
 obtain ⟨t,h⟩:=h;unfold wB at h
 grind
structure Bg (P:Program) (g:aL) (f:FuncId) (all xs0 xs1 args:List ab) (tk:Nat->Bool) (vw:Bool) (g1 g2:aL) (outs:List (Option ab)) (res:ab) (l:List (Place × ab)) (ks:Nat->Nat) (g4:aL):Prop where
 aV:hA P f=true
 Dd:xs0.length=all.length
 xZ:args.length=all.length
 aK:∀ (k:Nat) (x:ab),all[k]?=some x->xs0[k]?=some x\/xs0[k]?=some .dead
 au:Take g xs0 xs1 g1
 hk:iE g1 g2
 aJ:∀ (k:Nat) (x y:ab),all[k]?=some x->args[k]?=some y->if tk k then xs1[k]?=some y else vw=true/\View g2 x y
 hf:bP P f args outs res
 hr:if vw then j5 res else cE res
 l0:∀ (k:Nat) (x:ab),outs[k]?=some (some x)->if vw then j5 x else cE x
 ah:∀ (j:Nat) (p:Place) (x:ab),l[j]?=some (p,x)->Sn g g2 all outs (ks j) p x
 nd:(l.map (·.1)).Nodup
 inj:∀ i j,i<l.length->j<l.length->ks i=ks j->i=j
 F4:iE (qO g2 l) g4
section
variable {P:Program}{w:World}{I:a'}{T:Array Value}{g:aL}{Fs:Nat->a'}
theorem jI.keep (h:jI w I T g Fs) {g2:aL}(hk:iE g g2):cB w I T g2 (λt c=>g2 t≠none/\Fs t c) :=
 h.abl hk.sub hk.b0 λ_ _ _ _ _ _ _ _ _ _ _ h1=>absurd h1 (hk.fE _ _ _ _ _ _)
structure yU (g:aL) (d:Nat) (g4 g5:aL):Prop where
 sub:∀ t x,g4 t=some x->g5 t=some x
 new:∀ t x,g5 t=some x->g4 t=some x\/(g4 t=none/\t≠d/\g t=some x/\∃ r k cs,x=.ptr ⟨r,[]⟩ k/\r≠d/\g4 r=some (.obj cs)/\k<cs.length)
theorem yU.refl {d:Nat}{g4:aL}:yU g d g4 g4:=⟨λ_ _ h=>h,λ_ _ h=>.inl h⟩
theorem cB.back (h:cB w I T g Fs) {w':World}{I':a'}{d:Nat}{v:Value}{g4 g5:aL}{Mk:Nat->a'}(bh:cB w' I' (T.setIfInBounds d v) g4 Mk) (ar:yU g d g4 g5):cB w' I' (T.setIfInBounds d v) g5 Mk:=by
 refine ⟨λt x J=>?_,λt au c aa=>?_,bh.ea,bh.bc,bh.lt,λt t' z p n m new bR cq m' cN h1 af=>?_,bh.hR⟩
 ·rcases ar.new t x J with aI | ⟨h1,af,aF,r,k,cs,rfl,b7,dp,kJ⟩
  ·obtain ⟨u,hu,a1⟩:=bh.rel t x aI;exact ⟨u,hu,bh.xa (λ_ _=>rfl) (λ_ _ _=>rfl) (λ_ _=>rfl) (λ_ h=>h) ar.sub a1 λ_ _=>rfl⟩
  ·obtain ⟨u,hu,a1⟩:=h.rel t _ aF;obtain ⟨⟨sV,ad,aw,a2,rfl⟩,_⟩:=(a1.gu (by simp)).n5;have cV:∀ s,s≠d->(T.setIfInBounds d v)[s]?=T[s]?:=λs ax=>by rw [Array.getElem?_setIfInBounds_ne (Ne.symm ax)]
   refine ⟨_,by rw [cV t af]; exact hu,.tree (.ref rfl ⟨⟨sV,ad,?_,a2,rfl⟩,?_⟩ (bh.ln t h1))⟩
   ·have:dx w T ⟨r,[]⟩=T[r]?:=by
     unfold dx; simp only; cases T[r]? <;> rfl
    rw [this] at aw;unfold dx;simp only [cV r b7,aw,walk]
   ·exact ⟨.obj cs,by simp [bH,ar.sub r _ dp,ab.at],0,0,cs,.inr rfl,kJ⟩
 ·cases aI:g4 t with
  | none=>exact bh.ln t aI c aa
  | some y=>rw [ar.sub t y aI] at au; cases au
 ·have:∀ {t z p n m new},g5 t=some (.bM z p n m new)->g4 t=some (.bM z p n m new):=by
   intro t z p n m new J;rcases ar.new t _ J with aI | ⟨_,_,_,r,k,cs,e,_⟩
   ·exact aI
   ·cases e
  exact bh.rR t t' z p n m new bR cq m' cN (this h1) (this af)
def k1 (P:Program) (N:cP) (g:aL) (o:Oper) (d:Nat) (g5:aL):Prop :=
 ∀ (w:World) (I:a') (T:Array Value) (Fs:Nat->a'),cB w I T g Fs->∀ (a:Act),a.tmps=T->a.tmps.size=N.size->∀ (K:Act->World->Prop) (Q:Exit->Act->World->Prop),
  (∀ (cd:Act) (w':World) (v:Value) (I':a') (bW:Nat->a'),cd.defers=a.defers->cd.tmps=T.setIfInBounds d v->cB w' I' (T.setIfInBounds d v) g5 bW->k4 w I (λc=>∃ t,Fs t c) w' I' (λc=>∃ t,bW t c)->K cd w')->o.wp P a w K Q
theorem Bg.ok {N:cP}{o:Oper}{c:Operand}{xs:Array Operand}{fP:Array TypeId}{d:Nat}{f:FuncId}{first caps ys xs0 xs1 args:List ab}{tk:Nat->Bool}{vw:Bool}{g1 g2 g4 g5:aL}{outs:List (Option ab)}{res:ab}{l:List (Place × ab)}{ks:Nat->Nat}
  (aW:o.op=.call { callee:=.value c,args:=xs,argTypes:=fP }) (aR:o.dst=some d) (aa:bw g c=some (.cF (.func f) first caps)) (J:hh g xs.toList=some ys)
  (he:Bg P g f (first++ys++caps) xs0 xs1 args tk vw g1 g2 outs res l ks g4) (aQ:g4 d=none) (ku:N.ok d=true) (W7:yU g d (cT g4 d res) g5):k1 P N g o d g5:=by
 intro w I T Fs h a aJ bt K Q c6;obtain ⟨v1,v2,vC,ah,qu⟩:=Im h aJ aa J;have hp:(execOp a.eval o).run P w=.ok (.enter f (v1++xs.map a.eval++v2)) w:=by
  simp [execOp,aW,resolve,Deferred.ofValue,vC,invoke,zw he.aV]
 generalize xI:(v1++xs.map a.eval++v2).toList=vs at *;generalize Jp:first++ys++caps=all at *
 -- what is taken
 have rl:Hand w I (fk w T) Fs xs0 vs (λ_=>ck):=by
  refine ⟨by rw [he.Dd,ah],λk x u J hu=>?_,λ_ _ _ _ _ h=>h.elim,λ_ _ _ _ h=>h.elim,λ_ _ _ h=>h.elim⟩;have hk:k<all.length:=by rw [<- he.Dd]; exact (List.getElem?_eq_some_iff.1 J).1
  have Cg:=List.getElem?_eq_getElem hk;rcases he.aK k _ Cg with aK | aK
  ·rw [aK] at J; cases J;exact (qu k _ u Cg hu).frame (λ_ _=>rfl) (λ_ h=>h) (λ_ _ h=>h.1) λ_ _=>rfl
  ·rw [aK] at J; cases J;exact .dead λ_ h=>h
 obtain ⟨fr,H1,iZ,iv,hn⟩:=he.au.sound h.nh rl;have Oj:∀ c,lJ fr xs1.length H1 c->∃ t,Fs t c:=by
  intro c aa;rcases hn c aa with aI | ⟨_,_,aI⟩
  ·exact aI
  ·exact aI.elim
 have iw:=iZ.keep he.hk;generalize Wc:(λt c=>g2 t≠none/\fr t c)=j2 at iw;have N7:∀ t c,j2 t c->fr t c:=by intro t c aa; rw [<- Wc] at aa; exact aa.2
 have zR:xs1.length=all.length:=by rw [he.au.length,he.Dd]
 -- what the callee sees
 let EL:a':=λc=>I c\/(vw=true/\∃ t,j2 t c)
 let y3:Nat->a':=λt c=>t<all.length/\tk t=true/\H1 t c;have ui:∀ t c,y3 t c->(∀ s,¬ j2 s c)/\¬ I c/\∃ t,Fs t c:=by
  rintro t c ⟨h1,af,aF⟩;exact ⟨λs ax=>iv.off t s c (by omega) aF (N7 s c ax),iv.bc t c (by omega) aF,Oj c (.inr ⟨t,by omega,aF⟩)⟩
 have O0:∀ (ρ':ab->Value->Prop) (k:Nat) (y:ab) (u:Value),args[k]?=some y->vs[k]?=some u->R w EL ρ' y u (y3 k):=by
  intro ρ' k y u ao hu;have hk:k<all.length:=by rw [<- he.xZ]; exact (List.getElem?_eq_some_iff.1 ao).1
  have Cg:=List.getElem?_eq_getElem hk;have:=he.aJ k _ y Cg ao
  split at this
  ·rename_i au;have oF:cE y:=he.au.Al y (List.mem_of_getElem? this);exact (((iv.rel k y u this hu).bq oF).n' λc aa=>.inl aa).zy λc=>⟨λaa=>⟨hk,au,aa⟩,λaa=>aa.2.2⟩
  ·rename_i au;obtain ⟨hv,Ye⟩:=this;have gr:R w I (fk w T) all[k] u ck:=(qu k _ u Cg hu).frame (λ_ _=>rfl) (λ_ h=>h) (λ_ _ h=>h.1) λ_ _=>rfl;have:=View.Rl iw.nh Ye gr (λ_ h=>h.elim) ρ';refine (this.n' (I':=EL) λc aa=>?_).zy λc=>⟨λh=>h.elim,λaa=>absurd aa.2.1 au⟩;rcases aa with aI | aI
   ·exact .inl aI
   ·exact .inr ⟨hv,aI⟩
 have WB:cB w EL vs.toArray (s6 args) y3:=by
  refine ⟨λt x J=>?_,λt au c aa=>?_,λt t' c aa dQ=>iv.ea t t' c (by have:=aa.1; omega) (by have:=dQ.1; omega) aa.2.2 dQ.2.2,λt c aa hi=>?_,λc aa=>?_,λt t' z p n m new bR cq m' cN h1 af=>?_,cG.keep h.hR (λ_ _=>rfl) λ_ h=>.inl h⟩
  ·have au:t<args.length:=(List.getElem?_eq_some_iff.1 J).1;have hu:vs[t]?=some (vs[t]'(by rw [<- ah,<- he.xZ]; exact au)):=List.getElem?_eq_getElem _;exact ⟨_,by rw [List.getElem?_toArray]; exact hu,.tree (O0 _ t x _ J hu)⟩
  ·have hle:args.length<=t:=by simpa [s6] using au
   have:=aa.1; have:=he.xZ; omega
  ·obtain ⟨h1,af,_⟩:=ui t c aa;rcases hi with aI | ⟨_,s,aI⟩
   ·exact af aI
   ·exact h1 s aI
  ·rcases aa with aI | ⟨_,s,aI⟩
   ·exact h.lt c aI
   ·exact iw.jd s c aI
  ·have au:t<args.length:=(List.getElem?_eq_some_iff.1 h1).1;have hu:vs[t]?=some (vs[t]'(by rw [<- ah,<- he.xZ]; exact au)):=List.getElem?_eq_getElem _;exact (O0 (λ_ _=>False) t _ _ h1 hu).lG.elim
 have pP:=he.hf.2 w EL vs y3 (by rw [<- ah,he.xZ]) WB;unfold Oper.wp Oper.upon;simp only [hp];rw [<- xI,Array.toArray_toList] at pP;refine Calls.mono pP ?_;rintro e w' ⟨v,I',bW,rfl,dZ,bU⟩;rw [xI] at dZ;have ml:outs.length=all.length:=by rw [he.hf.1,he.xZ]
 have pT:vs.length=all.length:=ah.symm
 -- the blocks behind the call
 have QY:∀ t c,j2 t c->w'.heap[c]?=w.heap[c]?:=λt c aa=>bU.dN.block c (iw.jd t c aa) λ⟨s,ax⟩=>(ui s c ax).1 t aa;have rW:∀ c,I c->w'.heap[c]?=w.heap[c]?:=λc aa=>bU.dN.block c (h.lt c aa) λ⟨s,ax⟩=>(ui s c ax).2.1 aa
 let If:a':=λc=>if vw then I c else I' c
 have Lf:∀ t c,bW t c->(∃ s,y3 s c)\/w.heap.size<=c:=λt c aa=>bU.own c ⟨t,aa⟩;have Qb:∀ t c,bW t c->∀ s,¬ j2 s c:=by
  intro t c aa s ax;rcases Lf t c aa with ⟨cz,aI⟩ | aI
  ·exact (ui cz c aI).1 s ax
  ·have:=iw.jd s c ax; omega
 have Qc:∀ t c,bW t c->¬ If c:=by
  intro t c aa hi;cases vw with
  | true =>
   simp only [If,if_true] at hi;rcases Lf t c aa with ⟨cz,aI⟩ | aI
   ·exact (ui cz c aI).2.1 hi
   ·have:=h.lt c hi; omega
  | false =>
   simp only [If,Bool.false_eq_true,if_false] at hi;exact dZ.bc t c aa hi
 have Oa:∀ c,If c->I c\/(∃ s,y3 s c)\/w.heap.size<=c:=by
  intro c aa;cases vw with
  | true=>simp only [If,if_true] at aa; exact .inl aa
  | false =>
   simp only [If,Bool.false_eq_true,if_false] at aa;rcases bU.new c aa with aI | aI | aI
   ·rcases aI with aI | ⟨aI,_⟩
    ·exact .inl aI
    ·cases aI
   ·exact .inr (.inl aI)
   ·exact .inr (.inr aI)
 have Jc:∀ c,I c->If c:=by
  intro c aa;cases vw with
  | true=>simp only [If,if_true]; exact aa
  | false=>simp only [If,Bool.false_eq_true,if_false]; exact bU.more c (.inl aa)
 have Wx:cB w' If T g2 j2:=by
  have:=iw.world (w':=w') QY rW bU.dN.size;refine ⟨λt x J=>?_,this.ln,this.ea,λt c aa hi=>?_,λc aa=>?_,this.rR,cG.keep h.hR rW Jc⟩
  ·obtain ⟨v,hv,a1⟩:=this.rel t x J;exact ⟨v,hv,a1.frame (λ_ _=>rfl) Jc (λ_ _ h=>h) (λ_ _ _ _ _ _ _=>rfl) λ_ _=>rfl⟩
  ·rcases Oa c hi with aI | ⟨s,aI⟩ | aI
   ·exact iw.bc t c aa aI
   ·exact (ui s c aI).1 t aa
   ·have:=iw.jd t c aa; omega
  ·cases vw with
   | true=>simp only [If,if_true] at aa; exact Nat.lt_of_lt_of_le (h.lt c aa) bU.dN.size
   | false=>simp only [If,Bool.false_eq_true,if_false] at aa; exact dZ.lt c aa
 -- what comes back in the arguments, and the result
 have MY:∀ {x:ab}{u:Value}{F:a'}{ρ ρ':ab->Value->Prop},R w' I' ρ x u F->(if vw then j5 x else cE x)->R w' If ρ' x u F:=by
  intro x u F ρ ρ' a1 J;cases vw with
  | true=>simp only [if_true] at J; exact a1.l5 J
  | false =>
   simp only [Bool.false_eq_true,if_false] at J;refine (a1.bq J).n' λc aa=>?_;simpa [If] using aa
 have Dq:∀ {x:ab},(if vw then j5 x else cE x)->∀ z p n m new,x≠.bM z p n m new:=by
  rintro x J z p n m new rfl;cases vw with
  | true=>simp only [if_true] at J; cases J
  | false=>simp only [Bool.false_eq_true,if_false] at J; cases J
 have Zt:∀ (k:Nat) (x:ab) (u:Value),outs[k]?=some (some x)->vs[k]?=some u->R w' If (fk w' T) x u (bW k):=by
  intro k x u J hu;have hk:k<outs.length:=(List.getElem?_eq_some_iff.1 J).1;obtain ⟨sU,hX,a1⟩:=dZ.rel k x (by simp only [kO,if_neg (Nat.ne_of_lt hk),J]; rfl);have:sU=u:=by
   rw [List.getElem?_toArray,List.getElem?_append_left (by rw [pT,<- ml]; exact hk),hu] at hX;exact (Option.some.inj hX).symm
  subst this;exact MY (a1.gu (Dq (he.l0 k x J))) (he.l0 k x J)
 obtain ⟨LX,FP,nz⟩:=dZ.rel outs.length res (by simp [kO]);have Ya:LX=v:=by
  have e:outs.length=vs.length:=by omega
  rw [e] at FP;simpa using FP.symm
 subst Ya
 -- back into the places
 obtain ⟨y4,Cc,Fw⟩:=jI.qO (w:=w') (I:=If) (T:=T) l (λj=>bW (ks j)) (λj=>vs.getD (ks j) undef) Wx.nh he.nd (λj p x ag=>by
   have L:=he.ah j p x ag;have hk:ks j<outs.length:=(List.getElem?_eq_some_iff.1 L.out).1;have hu:vs[ks j]?=some (vs[ks j]'(by rw [pT,<- ml]; exact hk)):=List.getElem?_eq_getElem _;have tg:vs.getD (ks j) undef=vs[ks j]'(by rw [pT,<- ml]; exact hk):=by simp [List.getD,hu]
   refine ⟨L.MS,?_,?_,λi e=>?_⟩
   ·rw [tg,iw.yN (w':=w') (λ_ _=>rfl) QY L.MS];rcases L.arg with ⟨z,n,cs,h1,af⟩ | ⟨cs,h1,af⟩
    ·exact S_ h (qu _ _ _ h1 hu) af
    ·exact S9 h (qu _ _ _ h1 hu) af
   ·rw [tg]; exact Zt _ x _ L.out hu
   ·exact L.jz i e)
  (λj t c ag aa=>Qb _ c aa t) (λj c ag aa=>Qc _ c aa) (λi j c hi ag h1 af=>he.inj i j hi ag (dZ.ea _ _ c h1 af))
 have Wy:=Cc.keep he.F4;have Zm:∀ t c,bW outs.length c->¬ (g4 t≠none/\y4 t c):=by
  rintro t c aa ⟨_,bh⟩;rcases Fw t c bh with aI | ⟨j,ag,aI⟩
  ·exact Qb _ c aa t aI
  ·have hk:ks j<outs.length:=by
    have xw:=List.getElem?_eq_getElem ag;exact (List.getElem?_eq_some_iff.1 (he.ah j _ _ xw).out).1
   have:=dZ.ea _ _ c aa aI;omega
 have oG:=Wy.uT (d:=d) (x:=res) (v:=LX) (F:=bW outs.length) aQ (by rw [<- aJ,bt]; exact cP.lt ku) (.tree (MY (nz.gu (Dq he.hr)) he.hr)) Zm (λc aa=>Qc _ c aa) (λz p n m new e=>absurd e (Dq he.hr z p n m new));refine c6 _ _ LX If _ (by rw [aR]; rfl) (by rw [aR]; simp [Act.put,aJ]) (h.back oG W7) ⟨?_,Jc,λc aa=>?_,λc aa=>?_⟩
 ·exact bU.dN.mono λb _ ⟨s,ax⟩=>(ui s b ax).2.2
 ·rcases Oa c aa with aI | ⟨s,aI⟩ | aI
  ·exact .inl aI
  ·exact .inr (.inl (ui s c aI).2.2)
  ·exact .inr (.inr aI)
 ·have fin:∀ t,bW t c->(∃ s,Fs s c)\/w.heap.size<=c:=by
   intro t au;rcases Lf t c au with ⟨s,aI⟩ | aI
   ·exact .inl (ui s c aI).2.2
   ·exact .inr aI
  rcases u6 aa with ⟨t,_,aI⟩ | aI
  ·rcases Fw t c aI with gZ | ⟨j,_,gZ⟩
   ·exact .inl (Oj c (.inl ⟨t,N7 t c gZ⟩))
   ·exact fin _ gZ
  ·exact fin _ aI
structure R5 (g:aL) (d r k0:Nat) (g4 g5:aL):Prop where
 sub:∀ t x,g4 t=some x->g5 t=some x
 new:∀ t x,g5 t=some x->g4 t=some x\/(g4 t=none/\t≠d/\g t=some x/\∃ m z n cs,x=.ptr ⟨r,[k0]⟩ m/\bH g4 ⟨r,[k0]⟩=some (.own z n cs)/\m<cs.length)
theorem k1.VA {N:cP}{o:Oper}{r k0 d:Nat}{y:ab}{cs:List ab}{g5:aL}(hr:g r=some (.obj cs)) (ao:cs[k0]?=some y) (xO:cE y) (lB:∀ i,y≠.self i)
  (vK:∀ v:Value,v.oneCell'=true->∃ g1 g4 vq,iE (ct g ⟨r,[k0]⟩ (.lit v)) g1/\k1 P N g1 o d g4/\bH g4 ⟨r,[k0]⟩=some (.lit v)/\iE (ct g4 ⟨r,[k0]⟩ y) vq/\bH vq ⟨r,[k0]⟩=some y/\R5 g d r k0 vq g5):k1 P N g o d g5:=by
 intro w I T Fs h a aJ bt K Q c6;have lA:∀ z q n m new,y≠.bM z q n m new:=by rintro z q n m new rfl; cases xO
 have fD:bH g ⟨r,[k0]⟩=some y:=by simp [bH,hr,ab.at,ab.kids,ao]
 obtain ⟨v,cr,hv,ds,c_,put⟩:=h.nh.part fD lA;have qC:v.oneCell'=true:=by
  obtain ⟨u,hu,ny⟩:=h.rel r _ hr;obtain ⟨b,sU,h1,af,aF,bh,_⟩:=R.node (z:=0) (n:=0) (ny.gu (by simp)) (.inr rfl) ao;have:dx w T ⟨r,[k0]⟩=child w u k0:=by
   unfold dx;simp only [hu,walk];cases child w u k0 <;> rfl
  rw [this,aF] at hv;cases hv;exact bh
 obtain ⟨fr,iZ,xe,B5⟩:=put (.lit v) ck (.lit qC λ_ h=>h) (λ_ h=>h.elim) (λ_ h=>h.elim) (λ_ _ _ h=>h.elim) (λ_ h=>by cases h);obtain ⟨g1,g4,vq,gy,c7,Jq,JO,aeP,ar⟩:=vK v qC;have sT:∀ t c,fr t c->Fs t c/\¬ cr c:=by
  intro t c aa;by_cases au:t=r
  ·subst au;rcases (xe c).1 aa with aI | aI
   ·exact aI
   ·exact aI.elim
  ·rw [B5 t au] at aa;exact ⟨aa,λaV=>au (h.ea t r c aa (c_ c aV))⟩
 have Jj:=iZ.keep gy;refine c7 w I T _ Jj a aJ bt K Q λcd w' dK I' bW IJ w_ dZ bU=>?_;obtain ⟨v2,pA,tm,mP,Wb,Lq⟩:=dZ.nh.part Jq (by simp);have Ke:v2=v:=mP.hE.1;subst Ke;have Ja:∀ c,cr c->¬ I c:=λc aa=>h.bc r c (c_ c aa);have xg:∀ c,cr c->c<w.heap.size:=λc aa=>h.jd r c (c_ c aa);have x9:∀ c,cr c->¬ ∃ t,(g1 t≠none/\fr t c):=λc aa ⟨t,_,aI⟩=>(sT t c aI).2 aa;have Ds:∀ t c,bW t c->¬ cr c:=by
  intro t c aa aV;rcases bU.own c ⟨t,aa⟩ with aI | aI
  ·exact x9 c aV aI
  ·have:=xg c aV; omega
 have La:∀ c,cr c->¬ I' c:=by
  intro c aa hi;rcases bU.new c hi with aI | aI | aI
  ·exact Ja c aa aI
  ·exact x9 c aa aI
  ·have:=xg c aa; omega
 have LC:∀ c,cr c->w'.heap[c]?=w.heap[c]?:=λc aa=>bU.dN.block c (xg c aa) (x9 c aa);have rW:∀ c,I c->w'.heap[c]?=w.heap[c]?:=λc aa=>bU.dN.block c (h.lt c aa) λ⟨t,_,aI⟩=>h.bc t c (sT t c aI).1 aa;have Cb:R w' I' (fk w' (T.setIfInBounds d dK)) y v2 cr :=
  ((ds.bq xO).frame rW bU.more (λ_ _ h=>h) LC)
 obtain ⟨Ml,Jk,I6,I7⟩:=Lq y cr Cb (λc aa aV=>(Ds _ c aV aa).elim) (λc aa=>La c aa) (λt c _ aa aV=>Ds t c aV aa) (λi e=>absurd e (lB i));have te:=Jk.keep JO;have Yc:dx w' (T.setIfInBounds d dK) ⟨r,[k0]⟩=some v2:=tm;have Wz:cB w' I' (T.setIfInBounds d dK) g5 (λt c=>vq t≠none/\Ml t c):=by
  refine ⟨λt x J=>?_,λt au c aa=>?_,te.ea,te.bc,te.lt,λt t' z p n m new bR cq m' cN h1 af=>?_,te.hR⟩
  ·rcases ar.new t x J with aI | ⟨h1,af,aF,m,z,n,cs2,rfl,b7,dp⟩
   ·obtain ⟨u,hu,a1⟩:=te.rel t x aI;exact ⟨u,hu,te.xa (λ_ _=>rfl) (λ_ _ _=>rfl) (λ_ _=>rfl) (λ_ h=>h) ar.sub a1 λ_ _=>rfl⟩
   ·obtain ⟨u,hu,a1⟩:=h.rel t _ aF;obtain ⟨⟨sV,ad,aw,a2,rfl⟩,_⟩:=(a1.gu (by simp)).n5;rw [hv] at aw;cases aw;refine ⟨_,by rw [Array.getElem?_setIfInBounds_ne (Ne.symm af)]; exact hu,.tree (.ref rfl ⟨⟨v2,ad,Yc,a2,rfl⟩,?_⟩ (te.ln t h1))⟩;refine ⟨.own z n cs2,?_,z,n,cs2,.inl rfl,dp⟩;unfold Own.bH at b7 ⊢;cases e':vq r with
    | none=>simp only [e'] at b7; cases b7
    | some x'=>simp only [e'] at b7; simp only [ar.sub r x' e']; exact b7
  ·cases aI:vq t with
   | none=>exact aa.1 aI
   | some y=>rw [ar.sub t y aI] at au; cases au
  ·have:∀ {t z p n m new},g5 t=some (.bM z p n m new)->vq t=some (.bM z p n m new):=by
    intro t z p n m new J;rcases ar.new t _ J with aI | ⟨_,_,_,m,z,n,cs2,e,_⟩
    ·exact aI
    ·cases e
   exact te.rR t t' z p n m new bR cq m' cN (this h1) (this af)
 refine c6 cd w' dK I' _ IJ w_ Wz ⟨?_,bU.more,λc aa=>?_,λc aa=>?_⟩
 ·exact bU.dN.mono λb _ ⟨t,_,aI⟩=>⟨t,(sT t b aI).1⟩
 ·rcases bU.new c aa with aI | ⟨t,_,aI⟩ | aI
  ·exact .inl aI
  ·exact .inr (.inl ⟨t,(sT t c aI).1⟩)
  ·exact .inr (.inr aI)
 ·obtain ⟨t,_,aa⟩:=aa;have:(∃ t,bW t c)\/cr c:=by
   by_cases au:t=r
   ·subst au;rcases (I6 c).1 aa with ⟨aI,_⟩ | aI
    ·exact .inl ⟨_,aI⟩
    ·exact .inr aI
   ·rw [I7 t au] at aa; exact .inl ⟨t,aa⟩
  rcases this with aI | aI
  ·rcases bU.own c aI with ⟨t,_,gZ⟩ | gZ
   ·exact .inl ⟨t,(sT t c gZ).1⟩
   ·exact .inr gZ
  ·exact .inl ⟨r,c_ c aI⟩
end
def o2:ab->Option (List ab)
 | .agg cs=>some cs
 | .lit v=>some [.lit v]
 | .aP=>some [.aP]
 | .bc z n cs=>some [.bc z n cs]
 | .own z n cs=>some [.own z n cs]
 | .obj cs=>some [.obj cs]
 | .cx cs=>some [.cx cs]
 | .cF f a b=>some [.cF f a b]
 | _=>none
def hy (P:Program) (t:TypeId) (m:Nat):Bool :=
 match P.info? t with
 | some i=>i.size == m
 | none=>false
def h3 (P:Program) (N:cP) (g:aL) (o:Oper) (g':aL):Prop :=
 ∀ (w:World) (I:a') (T:Array Value) (Fs:Nat->a'),cB w I T g Fs->∀ (a:Act),a.tmps=T->a.tmps.size=N.size->∀ (K:Act->World->Prop) (Q:Exit->Act->World->Prop),
  (∀ (cd:Act) (w':World),kh N a w I Fs g' cd w'->(∀ t,o.dst≠some t->cd.tmps[t]?=a.tmps[t]?)->K cd w')->o.wp P a w K Q
inductive bl (P:Program) (N:cP) (g:aL):Oper->aL->Prop
 | assign {o:Oper}{d:Nat}{x:Operand}{y bz y':ab}{g1 g2:aL}(aW:o.op=.assign x) (aR:o.dst=some d) (J:bw g x=some y) (au:Take g [y] [bz] g1) (aX:gV bz y') (hk:iE g1 g2) (aQ:g2 d=none) (bt:N.ok d=true):bl P N g o (cT g2 d y')
 | Te {o:Oper}{d:Nat}{x:Operand}{y:ab}{g2:aL}(aW:o.op=.assign x) (aR:o.dst=some d) (J:bw g x=some y) (hk:iE g g2) (ao:cU g2 y) (aQ:g2 d=none) (bt:N.ok d=true):bl P N g o (cT g2 d y)
 | store {o:Oper}{t:TypeId}{ad val:Operand}{p:Place}{k z n:Nat}{y bz y' nd:ab}{cs cs':List ab}{g1 g2:aL}(aW:o.op=.store t ad val) (aR:o.dst=none) (fy:bw g ad=some (.ptr p k)) (mV:bw g val=some y) (au:Take g [y] [bz] g1) (o8:gV bz y')
   (aa:o2 y'=some cs') (ax:hy P t cs'.length=true) (aq:bH g1 p=some nd) (eA:nd=.own z n cs\/nd=.obj cs) (hk:k+cs'.length<=cs.length) (aK:0<cs'.length)
   (zN:∀ t x,g2 t=some x->ct g1 p (nd.e0 k cs') t=some x) (ss:∀ t x,g2 t=some x->∀ y,g1 t=some y->jG (λr=>gE g1 r/\Clear p k cs'.length r/\gE g2 r) y) (lA:∀ t z q n m new,g2 t≠some (.bM z q n m new)) (j':g2 p.root≠none):bl P N g o g2
 | call {o:Oper}{d:Nat}{g5:aL}(aR:o.dst=some d) (bt:N.ok d=true) (h:k1 P N g o d g5):bl P N g o g5
 | LJ {o:Oper}{g2:aL}(h:h3 P N g o g2):bl P N g o g2
theorem T6 {y:ab}{cs:List ab}(h:s3 y) (aa:o2 y=some cs):tP cs:=by
 have one:∀ {x:ab},(∀ j,x≠.self j)->tP [x]:=λJ k j e=>by
  cases k with
  | zero=>simp only [List.getElem?_cons_zero,Option.some.injEq] at e; exact J j e
  | succ k=>simp at e
 cases y <;> simp only [Go.Own.o2,Option.some.injEq,reduceCtorEq] at aa <;> subst aa
 all_goals first | exact h _ rfl | exact one (by simp)
theorem View.Dt {g:aL}{x y:ab}(h:View g x y) (J:s3 x):s3 y:=by
 intro cs e k j hk;cases h with
 | self=>exact J _ e k j hk
 | agg ah h=>cases e; exact J _ rfl k j (Gn ah h (λ_ _ _=>View.jz) k j hk)
 | _=>cases e
theorem gV.Dt {x y:ab}(h:gV x y) (J:s3 x):s3 y:=by
 intro cs e k j hk;cases h with
 | refl=>exact J _ e k j hk
 | pb _ h=>exact h.Dt J _ e k j hk
 | agg ah h=>cases e; exact J _ rfl k j (Gn ah h (λ_ _ _=>gV.jz) k j hk)
 | _=>cases e
section
variable {P:Program}{w:World}{I:a'}{T:Array Value}{g:aL}{Fs:Nat->a'}
theorem Hand.one {y:ab}{v:Value}(a1:R w I (dy w T g) y v ck):Hand w I (fk w T) Fs [y] [v] (λ_=>ck) :=
 ⟨rfl,λk x u J hu=>by
  cases k with
  | zero=>simp at J hu; subst J hu; exact a1.frame (λ_ _=>rfl) (λ_ h=>h) (λ_ _ h=>h.1) λ_ _=>rfl
  | succ k=>simp at J,λ_ _ _ _ _ h=>h.elim,λ_ _ _ _ h=>h.elim,λ_ _ _ h=>h.elim⟩
theorem Hand.GP {ρ:ab->Value->Prop}{y:ab}{v:Value}{dj:Nat->a'}(h:Hand w I ρ Fs [y] [v] dj):R w I ρ y v (dj 0):=h.rel 0 y v rfl rfl
theorem Hand.cells {y:ab}{v:Value}{dj:Nat->a'}(h:Hand w I (fk w T) Fs [y] [v] dj) (aB:cE y) {cs:List ab}(aa:o2 y=some cs) :
  ∃ y5,Hand w I (fk w T) Fs cs v.cells.toList y5/\(∀ x∈cs,cE x)/\(∀ (j:Nat) (u:Value),v.cells.toList[j]?=some u->u.oneCell'=true)/\∀ j c,j<cs.length->y5 j c->dj 0 c:=by
 have a1:=h.GP;have single:∀ {x:ab},y=x->v.oneCell'=true->∃ y5,Hand w I (fk w T) Fs [x] v.cells.toList y5/\(∀ z∈[x],cE z)/\(∀ (j:Nat) (u:Value),v.cells.toList[j]?=some u->u.oneCell'=true)/\∀ j c,j<[x].length->y5 j c->dj 0 c:=by
  rintro x rfl h1;have FA:v.cells=#[v]:=by cases v <;> first | rfl | (simp [Value.oneCell'] at h1)
  grind
 cases y <;> simp only [o2,Option.some.injEq,reduceCtorEq] at aa
 case agg l =>
  subst aa;cases a1 with
  | ref J=>simp [ab.isRef] at J
  | @agg _ vs bG _ ah h1 hr aR aH =>
   have ey:∀ k c,k<l.length->bG k c->dj 0 c:=λk c hk aa=>(aH c).2 ⟨k,hk,aa⟩;refine ⟨bG,⟨by simp [Value.cells,ah],λk x u J hu=>hr k x u J (by simpa [Value.cells] using hu),aR,λk t c hk aa=>h.off 0 t c (by simp) (ey k c hk aa),λk c hk aa=>h.bc 0 c (by simp) (ey k c hk aa)⟩,?_,λj u hu=>h1 j u (by simpa [Value.cells] using hu),ey⟩;cases aB with | agg h=>exact h
 case lit a=>subst aa; exact single rfl (by obtain ⟨rfl,h1⟩:=a1.hE; exact h1)
 case aP=>subst aa; exact single rfl (by rw [a1.rD]; rfl)
 case bc z n l=>subst aa; exact single rfl (by obtain ⟨a,cap,rfl,_⟩:=a1.z_; rfl)
 case own z n l=>subst aa; exact single rfl (by obtain ⟨a,cap,rfl,_⟩:=a1.oc; rfl)
 case cx l=>subst aa; exact single rfl (by obtain ⟨ad,us,rfl,_⟩:=a1.xR; rfl)
 case obj l =>
  subst aa;refine single rfl ?_;cases a1 with
  | ref J=>simp [ab.isRef] at J
  | obj=>rfl
 case cF f a b =>
  subst aa;refine single rfl ?_;cases a1 with
  | ref J=>simp [ab.isRef] at J
  | cF=>rfl
theorem jH.n' {I':a'}{ρ:ab->Value->Prop}{x:ab}{v:Value}{F:a'}(h:jH w I ρ x v F) (bf:∀ c,I c->I' c):jH w I' ρ x v F:=by
 cases h with
 | tree h=>exact .tree (h.n' bf)
 | bM h=>exact .bM ⟨h.jw,h.kK,h.mU,h.ah,h.h1,λk x u J hu=>(h.hr k x u J hu).n' bf,h.aH⟩
theorem NU {g1:aL}{fr:Nat->a'}{H1:Nat->a'}{bz y':ab}{v:Value}(bg:jI w I T g1 fr) (hH:Hand w I (fk w T) fr [bz] [v] H1) (aB:cE bz) (aX:gV bz y') :
  ∃ (I':a') (tO:a'),(∀ c,I c->I' c)/\(∀ c,I' c->I c\/H1 0 c)/\jI w I' T g1 fr/\Hand w I' (fk w T) fr [y'] [v] (λ_=>tO)/\∀ c,tO c->H1 0 c:=by
 have a1:=hH.GP;obtain ⟨tO,hD,iJ⟩:=R.dP aX a1 aB (λc aa=>hH.bc 0 c (by simp) aa) bg.lt bg.hR;refine ⟨λc=>I c\/(H1 0 c/\¬ tO c),tO,λc aa=>.inl aa,λc aa=>aa.elim .inl λh=>.inr h.1,⟨λt x J=>?_,bg.ln,bg.ea,λt c aa hi=>?_,λc aa=>?_,cG.keep bg.hR (λ_ _=>rfl) λ_ h=>.inl h⟩,⟨rfl,λk x u J hu=>?_,λj k c ag hk _ _=>by simp at ag hk; omega,λk t c hk aa aV=>hH.off 0 t c (by simp) (hD c aa) aV,λk c hk aa hi=>?_⟩,hD⟩
 ·obtain ⟨u,hu,ny⟩:=bg.rel t x J;exact ⟨u,hu,ny.n' λc aa=>.inl aa⟩
 ·rcases hi with h | ⟨h,_⟩
  ·exact bg.bc t c aa h
  ·exact hH.off 0 t c (by simp) h aa
 ·rcases aa with h | ⟨h,_⟩
  ·exact bg.lt c h
  ·exact a1.lt c h
 ·cases k with
  | zero=>simp at J hu; subst J hu; exact iJ
  | succ k=>simp at J
 ·rcases hi with h | ⟨_,h⟩
  ·exact hH.bc 0 c (by simp) (hD c aa) h
  ·exact h aa
theorem bl.jM {N:cP}{o:Oper}{g':aL}(he:bl P N g o g'):h3 P N g o g':=by
 intro w I T Fs h a aJ bt K Q c6;cases he with
 | LJ he=>exact he w I T Fs h a aJ bt K Q c6
 | @call d _ aR ku aa =>
  refine aa w I T Fs h a aJ bt K Q λcd w' v I' bW h1 af aF bh=>c6 cd w' ⟨h1,by rw [af,<- aJ]; exact ib.put ku _ _,I',bW,by rw [af]; exact aF,bh⟩ λt au=>?_;rw [af,aJ,Array.getElem?_setIfInBounds_ne];rintro rfl;exact au aR
 | @assign d x y bz y' g1 g2 aW aR J au aX hk aQ ku =>
  have a1:=ke h J aJ;obtain ⟨fr,H1,rm,rl,hn⟩:=au.sound h.nh (Hand.one a1);have xB:cE bz:=au.Al bz (by simp);obtain ⟨I',tO,oD,Jb,iZ,iv,hD⟩:=NU rm rl xB aX;have oF:cE y':=aX.bq xB;have iw:=iZ.keep hk;have oG:=iw.uT (d:=d) (x:=y') (v:=a.eval x) (F:=tO) aQ (by rw [<- aJ,bt]; exact cP.lt ku) (.tree (iv.GP.bq oF)) (λt c aa aV=>iv.off 0 t c (by simp) aa aV.2) (λc aa=>iv.bc 0 c (by simp) aa) (by rintro z p n m new rfl; cases oF);have hp:(execOp a.eval o).run P w=.ok (.value (a.eval x)) w:=by simp [execOp,aW]
  unfold Oper.wp Oper.upon;simp only [hp];have fl:∀ c,H1 0 c->∃ t,Fs t c:=λc aa=>by
   rcases hn c (.inr ⟨0,by simp,aa⟩) with gZ | ⟨_,_,gZ⟩
   ·exact gZ
   ·exact gZ.elim
  refine c6 _ _ ⟨by rw [aR]; rfl,by rw [aR]; exact ib.put ku _ _,I',_,by rw [aR]; simpa [Act.put,aJ] using oG,⟨Fr.refl _ _,oD,λc aa=>(Jb c aa).elim .inl λh=>.inr (.inl (fl c h)),λc aa=>?_⟩⟩ λt au=>by rw [aR]; simp only [Act.put]; rw [Array.getElem?_setIfInBounds_ne]; rintro rfl; exact au aR
  rcases u6 aa with ⟨t,_,aI⟩ | aI
  ·rcases hn c (.inl ⟨t,aI⟩) with gZ | ⟨_,_,gZ⟩
   ·exact .inl gZ
   ·exact gZ.elim
  ·exact .inl (fl c (hD c aI))
 | @Te d x y g2 aW aR J hk ao aQ ku =>
  have a1:=ke h J aJ;have iw:=h.nh.keep hk;have iJ:R w I (dy w T g2) y (a.eval x) ck:=(a1.frame (ρ':=fk w T) (λ_ _=>rfl) (λ_ h=>h) (λ_ _ h=>h.1) λ_ _=>rfl).b0 ao;have oG:=iw.uT (d:=d) (x:=y) (v:=a.eval x) (F:=ck) aQ (by rw [<- aJ,bt]; exact cP.lt ku) (.tree iJ) (λ_ _ h=>h.elim) (λ_ h=>h.elim) (by rintro z p n m new rfl; exact iJ.lG.elim);have hp:(execOp a.eval o).run P w=.ok (.value (a.eval x)) w:=by simp [execOp,aW]
  unfold Oper.wp Oper.upon;simp only [hp];refine c6 _ _ ⟨by rw [aR]; rfl,by rw [aR]; exact ib.put ku _ _,I,_,by rw [aR]; simpa [Act.put,aJ] using oG,⟨Fr.refl _ _,λ_ h=>h,λ_ h=>.inl h,λc aa=>?_⟩⟩ λt au=>by rw [aR]; simp only [Act.put]; rw [Array.getElem?_setIfInBounds_ne]; rintro rfl; exact au aR
  rcases u6 aa with ⟨t,_,aI⟩ | aI
  ·exact .inl ⟨t,aI⟩
  ·exact aI.elim
 | @store t ad val p k z n y bz y' nd cs cs' g1 _ aW aR fy mV au o8 aa ax aq eA hk aK zN ss lA j' =>
  have nz:=ke h mV aJ;obtain ⟨⟨u,acq,hu,vy,sk⟩,_⟩:=(ke h fy aJ).n5;obtain ⟨fr,H0,rm,rl,Jp⟩:=au.sound h.nh (Hand.one nz);have xB:cE bz:=au.Al bz (by simp);obtain ⟨I',tO,oD,Jb,iZ,iv,X8⟩:=NU rm rl xB o8;have oF:cE y':=o8.bq xB;have fl:∀ c,H0 0 c->∃ t,Fs t c:=λc aa=>by
   rcases Jp c (.inr ⟨0,by simp,aa⟩) with gZ | ⟨_,_,gZ⟩
   ·exact gZ
   ·exact gZ.elim
  have hn:∀ c,lJ fr 1 (λ_=>tO) c->lJ Fs [y].length (λ_=>ck) c:=by
   rintro c (⟨t,aa⟩ | ⟨_,_,aa⟩)
   ·exact Jp c (.inl ⟨t,aa⟩)
   ·exact .inl (fl c (X8 c aa))
  obtain ⟨y5,N',JA,ho,Wi⟩:=iv.cells oF aa;have lG:∀ z q n m new,nd≠.bM z q n m new:=by rcases eA with rfl | rfl <;> simp
  obtain ⟨v,cr,hv,ds,c_,_⟩:=iZ.part aq lG;rw [hu] at hv;cases hv;obtain ⟨b,gv,ar,_⟩:=ds.node eA (List.getElem?_eq_getElem (show k<cs.length by omega));rw [vy] at ar;cases ar;have la:∃ e arr,w.heap[b]?=some (.cells arr e (0,0))/\cs.length<=arr.size:=by
   rcases eA with rfl | rfl
   ·cases ds with
    | ref J=>simp [ab.isRef] at J
    | own ru ah =>
     obtain ⟨nC,bQ⟩:=ru;rcases bQ with ⟨rfl,_⟩ | ⟨dU,cap,cur,rfl,_,iQ,wq,uW,GH,D7⟩
     ·simp [addrOf] at vy
     ·simp only [addrOf,Option.some.injEq,Addr.mk.injEq,and_true] at vy;subst vy;refine ⟨_,cur,iQ,?_⟩;rw [ah,<- D7,List.length_take]; simp; omega
   ·cases ds with
    | ref J=>simp [ab.isRef] at J
    | obj ru ah =>
     simp only [addrOf,Option.some.injEq,Addr.mk.injEq,and_true] at vy;subst vy;exact ⟨_,_,ru,by omega⟩
  obtain ⟨e,arr,la,hle⟩:=la;obtain ⟨j2,iw,hD⟩:=iZ.store aq eA hk N' JA (λ_=>T6 (o8.Dt (au.Dt (by simpa using Ld mV) bz (by simp))) aa) ho zN ss lA j' hu vy la;have hN:(a.eval val).cells.toList.length=cs'.length:=N'.len.symm;have bU:=run_storeCells_at P b k e (a.eval val).cells.toList 0 arr w la (by omega) (λu hu=>by
   obtain ⟨j,ag,rfl⟩:=List.mem_iff_getElem.1 hu;exact ho j _ (List.getElem?_eq_getElem ag))
  simp only [Nat.add_zero] at bU;have fA:(sizeOf t).run P w=.ok cs'.length w:=by
   unfold hy at ax;cases hi:P.info? t with
   | none=>simp [hi] at ax
   | some i=>simp [hi] at ax; simp [sizeOf,typeInfo,hi,ax]
  have hp:(execOp a.eval o).run P w=.ok .skip (w.setRow b (e0 arr.toList k (a.eval val).cells.toList).toArray):=by
   have eV:(a.eval val).cells.size=cs'.length:=by rw [<- Array.length_toList]; exact hN
   simp only [Nat.zero_add] at sk;simp [execOp,aW,sk,Instr.storeAt,Instr.sureAddr,storeVar,fA,eV,bU,e0]
  unfold Oper.wp Oper.upon;simp only [hp];have ur:∃ t,Fs t b:=by
   rcases hn b (.inl ⟨_,c_ b (ds.Gm eA (ad:=⟨b,0,none⟩) vy)⟩) with aI | ⟨_,_,aI⟩
   ·exact aI
   ·exact aI.elim
  refine c6 _ _ ⟨by rw [aR]; rfl,by rw [aR]; exact ib.refl,I',j2,by rw [aR]; simpa [Act.put,aJ] using iw,⟨⟨rfl,rfl,rfl,by simp,λc _ aa=>setRow_other w b c _ (λe=>aa (e ▸ ur)),λa _ _=>NV w b _ a,Nat.le_refl _⟩,oD,λc aa=>(Jb c aa).elim .inl λh=>.inr (.inl (fl c h)),λc ⟨t,aa⟩=>?_⟩⟩ λt _=>by rw [aR]; rfl
  rcases hD t c aa with aI | ⟨j,ag,aI⟩
  ·rcases hn c (.inl ⟨t,aI⟩) with gZ | ⟨_,_,gZ⟩
   ·exact .inl gZ
   ·exact gZ.elim
  ·rcases hn c (.inr ⟨0,by simp,Wi j c ag aI⟩) with gZ | ⟨_,_,gZ⟩
   ·exact .inl gZ
   ·exact gZ.elim
theorem bl.sound (h:cB w I T g Fs) {a:Act}(aJ:a.tmps=T) {N:cP}(bt:a.tmps.size=N.size) {o:Oper}{g':aL}(he:bl P N g o g') {K:Act->World->Prop}{Q:Exit->Act->World->Prop}
  (c6:∀ cd w',kh N a w I Fs g' cd w'->K cd w'):o.wp P a w K Q:=he.jM w I T Fs h a aJ bt K Q λcd w' h _=>c6 cd w' h
end
def oV (g g':aL):Prop:=∀ t x,g t=some x->g' t=some x
section
variable {P:Program}{g g':aL}
theorem eh (h:oV g g') {x:Operand}{y:ab}(ao:bw g x=some y):bw g' x=some y:=by
 cases x <;> simp only [bw] at ao ⊢
 case tmp t =>
  cases J:g t with
  | none=>rw [J] at ao; cases ao
  | some z=>rw [J] at ao; rw [h t z J]; exact ao
 case const v=>exact ao
 case global n=>exact ao
 case func f=>exact ao
theorem Ao (h:oV g g'):∀ {xs:List Operand}{ys:List ab},hh g xs=some ys->hh g' xs=some ys
 | [],_,ao=>ao
 | x::xs,ys,ao=>by
  simp only [hh] at ao ⊢;cases J:bw g x with
  | none=>simp [J] at ao
  | some y =>
   cases sB:hh g xs with
   | none=>simp [J,sB] at ao
   | some Ex=>simp only [J,sB] at ao; simp only [eh h J,Ao h sB]; exact ao
theorem Qs (h:oV g g'):∀ {l:List (Nat × Operand)}{ps:List (Nat × List ab)},rL g l=some ps->rL g' l=some ps
 | [],_,ao=>ao
 | (i,x)::l,ps,ao=>by
  simp only [rL] at ao ⊢;cases J:bw g x with
  | none=>simp [J] at ao
  | some y =>
   cases sB:rL g l with
   | none=>simp [J,sB] at ao
   | some Ex=>simp only [J,sB] at ao; simp only [eh h J,Qs h sB]; exact ao
theorem p_.mono (h:oV g g') {d:Nat}{x:Option Operand}{j:Nat}(ar:p_ g d x j):p_ g' d x j:=by
 cases x with
 | none=>exact ar
 | some o=>obtain ⟨k,hk⟩:=ar; exact ⟨k,eh h hk⟩
theorem dh.mono (h:oV g g') {op:Op}{ty:TypeId}{x:ab}(aq:dh P g op ty x):dh P g' op ty x:=by
 cases aq with
 | move J=>exact .move (eh h J)
 | assign J=>exact .assign (eh h J)
 | pick aa hr=>exact .pick (eh h aa) (eh h hr)
 | Gl J=>exact .Gl (eh h J)
 | qK J=>exact .qK (eh h J)
 | BY J aV c7=>exact .BY (eh h J) aV (c7.mono h)
 | Fk J aV=>exact .Fk (eh h J) aV
 | Fj J aV au ao=>exact .Fj (eh h J) aV au ao
 | IT J aV au hk=>exact .IT (eh h J) aV au hk
 | FX J hi au ag=>exact .FX (eh h J) (eh h hi) au ag
 | FW J hi au ag c7=>exact .FW (eh h J) (eh h hi) au ag (c7.mono h)
 | Kx J hi au ag c7=>exact .Kx (eh h J) (eh h hi) au ag (c7.mono h)
 | FV J hi au ag c7=>exact .FV (eh h J) (eh h hi) au ag (c7.mono h)
 | Kw J hi au ag=>exact .Kw (eh h J) (eh h hi) au ag
 | Ga J au=>exact .Ga (eh h J) au
 | Gb J au hk=>exact .Gb (eh h J) au hk
 | Dg J au ao=>exact .Dg (eh h J) au (k7 h ao)
 | Ae J au ao aa hm=>exact .Ae (eh h J) au (k7 h ao) aa hm
 | FY J hi au ar=>exact .FY (eh h J) (eh h hi) au ar
 | bin J ao hv hr=>exact .bin (eh h J) (eh h ao) hv hr
 | BA J ao hv hr=>exact .BA (eh h J) (eh h ao) hv hr
 | un J hv hr=>exact .un (eh h J) hv hr
 | conv J hv hr=>exact .conv (eh h J) hv hr
 | It J aq aB eV au=>exact .It (eh h J) (k7 h aq) aB eV au
 | Fe J au=>exact .Fe (eh h J) au
 | @IP xs fP _ f vs v J hv hr =>
  refine .IP (vs:=vs) ?_ hv hr;apply List.ext_getElem?;intro k;have:=congrArg (·[k]?) J;simp only [List.getElem?_map] at this ⊢;rw [<- this];cases hk:xs.toList[k]? with
  | none=>rfl
  | some o =>
   rw [hk] at this;cases hv:vs[k]? with
   | none=>rw [hv] at this; cases this
   | some v =>
    rw [hv] at this;simp only [Option.map_some,Option.some.injEq] at this ⊢;rw [this,eh h this]
 | Fh J ao=>exact .Fh (eh h J) ao
 | Ei J ah bQ au h1 af=>exact .Ei (eh h J) (ah.mono h) (bQ.mono h) au h1 af
 | G_ J ah bQ au aB c7=>exact .G_ (eh h J) (ah.mono h) (bQ.mono h) au aB (c7.mono h)
 | G9 J ah bQ au h1 af c7=>exact .G9 (eh h J) (ah.mono h) (bQ.mono h) au h1 af (c7.mono h)
 | G' J ah bQ au h1 af=>exact .G' (eh h J) (ah.mono h) (bQ.mono h) au h1 af
 | F9 J au=>exact .F9 (eh h J) au
 | F8 J au=>exact .F8 (eh h J) au
 | KT J au=>exact .KT (eh h J) au
 | KS J au=>exact .KS (eh h J) au
 | F' J aq ao c6 a1 hr=>exact .F' (eh h J) (k7 h aq) (eh h ao) c6 a1 hr
 | KV J ao c6 a1 hr=>exact .KV (eh h J) (eh h ao) c6 a1 hr
 | @lits b xs fP _ vs v J hv hr =>
  refine .lits (vs:=vs) ?_ hv hr;clear hr;generalize xs.toList=l at J
  induction l generalizing vs with
  | nil=>exact J
  | cons x l aM =>
   cases vs with
   | nil=>simp at J
   | cons v vs =>
    simp only [List.map_cons,List.cons.injEq] at J ⊢;exact ⟨eh h J.1,aM J.2⟩
theorem ot.mono (h:oV g g') {op:Op}{ty:TypeId}{x:ab}(aq:ot P g op ty x):ot P g' op ty x:=by
 cases aq with
 | box J aa=>exact .box (eh h J) aa
 | alloc aX h1=>exact .alloc aX h1
 | HR aX aa=>exact .HR aX aa
 | HS aX aa=>exact .HS aX aa
 | H4 J aa aK h1=>exact .H4 (eh h J) aa aK h1
 | makeMap a_=>exact .makeMap a_
 | buildSlice au aq J aX aa ar aB hzero=>exact .buildSlice au aq (Ao h J) aX aa ar aB hzero
 | makeSlice au J ao hzero h1 l2 ar aB rn uF FU=>exact .makeSlice au (eh h J) (eh h ao) hzero h1 l2 ar aB rn uF FU
theorem vd.mono (h:oV g g') {op:Op}{ty:TypeId}{x:ab}(aq:vd P g op ty x):vd P g' op ty x:=by
 cases aq with
 | build au aX h1 aq aa=>exact .build au aX h1 (Qs h aq) aa
 | makeFunc aJ ar=>exact .makeFunc (Ao h aJ) (Ao h ar)
theorem Src.mono (h:oV g g') {y:ab}{z m:Nat}{cells:List ab}(ax:Src g y z m cells):Src g' y z m cells:=by
 cases ax with
 | bc=>exact .bc
 | aP=>exact .aP
 | a7 a_ hm=>exact .a7 (k7 h a_) hm
 | sub a_ hm=>exact .sub (k7 h a_) hm
theorem bT.mono (h:oV g g') {op:Op}{ty:TypeId}{x:ab}(aq:bT P g op ty x) (eL:∀ z p n m new,x=.bM z p n m new->∀ t bR cq m' cN,g' t≠some (.bM bR p cq m' cN)):bT P g' op ty x:=by
 cases aq with
 | ew aq=>exact .ew (aq.mono h)
 | rK aq=>exact .rK (aq.mono h)
 | As aq=>exact .As (aq.mono h)
 | je aq =>
  cases aq with
  | grow ax c7 _ J oI au o5 ar=>exact .je (.grow (eh h ax) (c7.mono h) (eL _ _ _ _ _ rfl) (eh h J) (oI.mono h) au o5 ar)
  | nil ax J oI au o5 ar=>exact .je (.nil (eh h ax) (eh h J) (oI.mono h) au o5 ar)
theorem View.mono (h:oV g g') {x y:ab}(hv:View g x y):View g' x y:=by
 induction hv with
 | qK=>exact .qK
 | self h1 af aF bh b7 dp=>exact .self h1 af aF bh b7 dp
 | mp=>exact .mp
 | gl aq=>exact .gl (k7 h aq)
 | agg ah _ aM=>exact .agg ah aM
 | own ah _ aM=>exact .own ah aM
 | obj ah _ aM=>exact .obj ah aM
 | cF ah _ aM=>exact .cF ah aM
 | a7 aq aB ah _ aM=>exact .a7 (k7 h aq) aB ah aM
 | sub aq aB ah _ aM=>exact .sub (k7 h aq) aB ah aM
 | ptr aq ao hk ah _ aM=>exact .ptr (k7 h aq) ao hk ah aM
 | rows aq ah _ aM=>exact .rows (aq.mono (λaq=>k7 h aq) h) ah aM
theorem b_.mono (h:oV g g') {op:Op}{x:ab}(aq:b_ P g op x):b_ P g' op x:=by
 cases aq with
 | plain aa J aV aB hf hr=>exact .plain (eh h aa) (Ao h J) aV aB hf hr
 | cl J oI aX aV mR xn aa aB=>exact .cl (eh h J) (oI.mono h) aX aV mR xn aa aB
 | F_ aa J aV ah hv hf hr=>exact .F_ (eh h aa) (Ao h J) aV ah (λk x y J ao=>(hv k x y J ao).mono h) hf hr
def iH (g:aL) (ops:Array Oper) (o:Oper) (b:Bool):Prop :=
 match o.guard with
 | none=>b=true
 | some (j,want)=>∃ t,(ops[j]?).bind (·.dst)=some t/\((∃ c,g t=some (.lit (.bool c))/\b=(c == want))\/(g t=some (.bS [])/\b=false))
theorem iH.mono (h:oV g g') {ops:Array Oper}{o:Oper}{b:Bool}(hw:iH g ops o b):iH g' ops o b:=by
 unfold iH at *;split
 ·rename_i aQ; rw [aQ] at hw; exact hw
 ·rename_i j want aQ;rw [aQ] at hw;obtain ⟨t,h1,⟨c,af,aF⟩ | ⟨af,aF⟩⟩:=hw
  ·exact ⟨t,h1,.inl ⟨c,h t _ af,aF⟩⟩
  ·exact ⟨t,h1,.inr ⟨h t _ af,aF⟩⟩
theorem iH.sound {w:World}{I:a'}{T:Array Value}{Fs:Nat->a'}(bg:cB w I T g Fs) {ops:Array Oper}{o:Oper}{b:Bool}(hw:iH g ops o b):Region.wanted o (yielded ops T)=b:=by
 unfold iH at hw;unfold Region.wanted
 split at hw
 ·rename_i aQ; rw [aQ]; exact hw.symm
 ·rename_i j want aQ;rw [aQ];obtain ⟨t,h1,⟨c,af,aF⟩ | ⟨af,aF⟩⟩:=hw
  ·obtain ⟨v,hv,a1⟩:=bg.rel _ _ af;have:=(a1.gu (by simp)).hE.1;subst this;subst aF;simp only [yielded,h1,Option.bind_some,hv];cases c <;> cases want <;> rfl
  ·obtain ⟨v,hv,a1⟩:=bg.rel _ _ af;have:∃ vs,v=.tuple vs:=by
    cases a1.gu (by simp) with
    | bS=>exact ⟨_,rfl⟩
    | ref J=>simp [ab.isRef] at J
   obtain ⟨vs,rfl⟩:=this;subst aF;simp only [yielded,h1,Option.bind_some,hv];cases want <;> rfl
def qh (P:Program) (g:aL) (ops:Array Oper) (o:Oper):Option ab->Prop
 | none=>iH g ops o false
 | some x=>(iH g ops o true/\(bT P g o.op o.type x\/b_ P g o.op x))\/(iH g ops o false/\x=.bS [])\/(iH g ops o true/\∃ y,(bT P g o.op o.type y\/b_ P g o.op y)/\cE y/\View (λ_=>none) y x)
theorem qh.mono (h:oV g g') {ops:Array Oper}{o:Oper}{r:Option ab}(ax:qh P g ops o r) (eL:∀ z p n m new,r=some (.bM z p n m new)->∀ t bR cq m' cN,g' t≠some (.bM bR p cq m' cN)):qh P g' ops o r:=by
 cases r with
 | none=>exact iH.mono h ax
 | some x =>
  rcases ax with ax | ⟨ax,J⟩ | ⟨ax,y,aq,aB,hv⟩
  ·refine .inl ⟨ax.1.mono h,?_⟩;rcases ax.2 with aq | aq
   ·exact .inl (aq.mono h λz p n m new e=>eL z p n m new (by rw [e]))
   ·exact .inr (aq.mono h)
  ·exact .inr (.inl ⟨ax.mono h,J⟩)
  ·refine .inr (.inr ⟨ax.mono h,y,?_,aB,hv⟩);rcases aq with aq | aq
   ·exact .inl (aq.mono h λz p n m new e=>by subst e; cases aB)
   ·exact .inr (aq.mono h)
def leaf:ab->Bool
 | .own .. | .obj .. | .agg .. | .bS .. | .bM .. | .mp .. | .hV ..=>false
 | _=>true
def del (g:aL) (d:Nat):aL:=λt=>if t=d then none else g t
theorem Y4 {x y:ab}(h:leaf x=true):∀ {q:List Nat},x.at q=some y->y=x
 | [],ao=>by simpa [ab.at] using ao.symm
 | k::q,ao=>by
  have:x.kids=[]:=by cases x <;> first | rfl | simp [leaf] at h
  simp [ab.at,this] at ao
theorem zn {d:Nat}{x:ab}(aR:g d=some x) (ah:leaf x=true) {p:Place}{y:ab}(aq:bH g p=some y) (ao:leaf y=false):bH (del g d) p=some y:=by
 have hr:p.root≠d:=by
  intro e;unfold bH at aq;rw [e,aR] at aq;rw [Y4 ah aq,ah] at ao;cases ao
 simp only [bH,del,if_neg hr] at aq ⊢;exact aq
theorem gE.del {d:Nat}{x:ab}(aR:g d=some x) (ah:leaf x=true) {r:ab}(h:gE g r):gE (del g d) r:=by
 have root:∀ {t:Nat}{y:ab},g t=some y->leaf y=false->Own.del g d t=some y:=by
  intro t y au ao;have:t≠d:=by
   rintro rfl;rw [aR] at au;cases au;rw [ah] at ao; cases ao
  simp only [Own.del,if_neg this,au]
 cases r <;> simp only [gE] at h ⊢
 case ptr p k =>
  obtain ⟨y,ao,z,n,cs,ed,hk⟩:=h;exact ⟨y,zn aR ah ao (by rcases ed with rfl | rfl <;> rfl),z,n,cs,ed,hk⟩
 case a7 z p n =>
  rcases h with ⟨N,cs,ao,aB⟩ | ⟨h1,q,gP,m,new,af,aF⟩
  ·exact .inl ⟨N,cs,zn aR ah ao rfl,aB⟩
  ·exact .inr ⟨h1,q,gP,m,new,root af rfl,aF⟩
 case sub z p lo n =>
  obtain ⟨N,cs,ao,aB⟩:=h;exact ⟨N,cs,zn aR ah ao rfl,aB⟩
 case gl p=>obtain ⟨q,h⟩:=h; exact ⟨q,zn aR ah h rfl⟩
 case bM z p n m new =>
  rcases h with ⟨cs,ao⟩ | ⟨h1,q,gP,m,new,cs,af,aF,bh⟩
  ·exact .inl ⟨cs,zn aR ah ao rfl⟩
  ·exact .inr ⟨h1,q,gP,m,new,cs,root af rfl,aF,zn aR ah bh rfl⟩
theorem R.Y3 {w:World}{I:a'}{ρ:ab->Value->Prop}{x:ab}{v:Value}{F:a'}(h:R w I ρ x v F) (ah:leaf x=true):∀ c,¬ F c:=by
 cases h with
 | own | obj | agg | bS | mp | hV=>simp [leaf] at ah
 | lit _ aH | aP aH | dead aH | mx aH | ref _ _ aH | gM aH | bc aH | cx aH | cF aH | imp aH=>exact aH
theorem cB.drop {w:World}{I:a'}{T:Array Value}{Fs:Nat->a'}(h:cB w I T g Fs) {d:Nat}{x:ab}(aR:g d=some x) (ah:leaf x=true):cB w I T (del g d) Fs:=by
 refine ⟨λt y ao=>?_,λt au c aa=>?_,h.ea,h.bc,h.lt,λt t' z p n m new bR cq m' cN h1 af=>?_,h.hR⟩
 ·have pa:g t=some y:=by
   unfold del at ao
   split at ao
   ·cases ao
   ·exact ao
  obtain ⟨v,hv,a1⟩:=h.rel t y pa;exact ⟨v,hv,a1.frame (λ_ _=>rfl) (λ_ h=>h) (λ_ _ hr=>⟨hr.1,hr.2.del aR ah⟩) (λ_ _ _ _ _ _ _=>rfl) λ_ _=>rfl⟩
 ·unfold del at au
  split at au
  ·rename_i e;subst e;obtain ⟨v,hv,a1⟩:=h.rel t x aR;exact (a1.gu (by rintro z p n m new rfl; simp [leaf] at ah)).Y3 ah c aa
  ·exact h.ln t au c aa
 ·have key:∀ {t:Nat}{y:ab},del g d t=some y->g t=some y:=by
   intro t y ao;unfold del at ao
   split at ao
   ·cases ao
   ·exact ao
  exact h.rR _ _ _ _ _ _ _ _ _ _ _ (key h1) (key af)
end
def yw (g:aL) (d:Nat):Option ab->aL
 | some x=>cT g d x
 | none=>g
section
variable {P:Program}{w:World}{I:a'}{T:Array Value}{g:aL}{Fs:Nat->a'}{N:cP}{ops:Array Oper}
theorem k4.refl (w:World) (I U:a'):k4 w I U w I U:=⟨Fr.refl _ _,λ_ h=>h,λ_ h=>.inl h,λ_ h=>.inl h⟩
theorem k4.trans {w ij hz:World}{I Bk EK U zk MC:a'}(h:k4 w I U ij Bk zk) (h1:k4 ij Bk zk hz EK MC):k4 w I U hz EK MC:=by
 have nc:∀ c,c<w.heap.size->zk c->U c:=λc aa hu=>by
  rcases h.own c hu with aI | aI
  ·exact aI
  ·omega
 refine ⟨h.dN.trans h1.dN nc,λc aa=>h1.more c (h.more c aa),λc aa=>?_,λc aa=>?_⟩
 ·rcases h1.new c aa with aI | aI | aI
  ·exact h.new c aI
  ·rcases h.own c aI with gZ | gZ
   ·exact .inr (.inl gZ)
   ·exact .inr (.inr gZ)
  ·exact .inr (.inr (Nat.le_trans h.dN.size aI))
 ·rcases h1.own c aa with aI | aI
  ·exact h.own c aI
  ·exact .inr (Nat.le_trans h.dN.size aI)
theorem kh.trans {N:cP}{a aw a2:Act}{ij hz:World}{Bk:a'}{fr:Nat->a'}{g2:aL}(h1:aw.defers=a.defers) (af:ib N a.tmps aw.tmps) (bU:k4 w I (λc=>∃ t,Fs t c) ij Bk (λc=>∃ t,fr t c)) (h:kh N aw ij Bk fr g2 a2 hz):kh N a w I Fs g2 a2 hz:=by
 obtain ⟨ca,b6,EK,j2,bg,o'⟩:=h;exact ⟨ca.trans h1,af.trans b6,EK,j2,bg,bU.trans o'⟩
theorem cB.Z0 (h:cB w I T g Fs) {d:Nat}(aR:g d=none) (v:Value):cB w I (T.setIfInBounds d v) g Fs:=by
 have cV:∀ t,g t≠none->(T.setIfInBounds d v)[t]?=T[t]?:=by
  intro t au;rw [Array.getElem?_setIfInBounds_ne];rintro rfl; exact au aR
 refine ⟨λt x J=>?_,h.ln,h.ea,h.bc,h.lt,h.rR,h.hR⟩;obtain ⟨u,hu,a1⟩:=h.rel t x J;exact ⟨u,by rw [cV t (by rw [J]; simp)]; exact hu,h.xa cV (λ_ _ _=>rfl) (λ_ _=>rfl) (λ_ h=>h) (λ_ _ h=>h) a1 λ_ _=>rfl⟩
structure HE (dP:Nat->Bool) (g g2:aL):Prop where
 nc:∀ t x,g2 t=some x->dP t=false->g t=some x/\cU g2 x
 pb:∀ t x,g2 t=some x->dP t=true->∃ y,g t=some y/\cE y/\gV y x
 fE:∀ t z q n m new,g2 t≠some (.bM z q n m new)
theorem cB.zD (h:cB w I T g Fs) {dP:Nat->Bool}{g2:aL}(aX:HE dP g g2):∃ I' bW,cB w I' T g2 bW/\k4 w I (λc=>∃ t,Fs t c) w I' (λc=>∃ t,bW t c):=by
 have rk:=h.nh;have Dq:∀ t x,g2 t=some x->∀ z p n m new,x≠.bM z p n m new:=by
  rintro t x J z p n m new rfl;exact aX.fE _ _ _ _ _ _ J
 -- of each slot what it owns from now on
 have:∀ t,∃ cS:a',(∀ c,cS c->Fs t c/\g2 t≠none)/\∀ x,g2 t=some x->(dP t=false->∀ c,Fs t c->cS c)/\∃ v,T[t]?=some v/\R w (λc=>I c\/(Fs t c/\¬ cS c)) (dy w T g2) x v cS:=by
  intro t;cases J:g2 t with
  | none=>exact ⟨ck,λ_ h=>h.elim,λx h=>by cases h⟩
  | some x =>
   cases au:dP t with
   | false =>
    obtain ⟨h1,af⟩:=aX.nc t x J au;obtain ⟨v,hv,a1⟩:=rk.rel t x h1;refine ⟨Fs t,λc aa=>⟨aa,by simp⟩,λy ao=>?_⟩;cases ao;exact ⟨λ_ _ h=>h,v,hv,((a1.gu (Dq t x J)).b0 af).n' λc aa=>.inl aa⟩
   | true =>
    obtain ⟨y,h1,af,aF⟩:=aX.pb t x J au;obtain ⟨v,hv,a1⟩:=rk.rel t y h1;have iJ:=a1.gu (by rintro z p n m new rfl; cases af);obtain ⟨cS,ax,Ww⟩:=R.dP aF iJ af (λc aa=>rk.bc t c aa) rk.lt rk.hR;refine ⟨cS,λc aa=>⟨ax c aa,by simp⟩,λz aX=>?_⟩;cases aX;exact ⟨λh=>absurd h (by simp),v,hv,Ww.bq (aF.bq af)⟩
 obtain ⟨bW,ju⟩:=Classical.axiomOfChoice this;refine ⟨λc=>I c\/∃ t,Fs t c/\g2 t≠none/\¬ bW t c,bW,⟨λt x J=>?_,λt au c aa=>((ju t).1 c aa).2 au,λt t' c aa dQ=>h.ea t t' c ((ju t).1 c aa).1 ((ju t').1 c dQ).1,λt c aa hi=>?_,λc aa=>?_,λt t' z p n m new bR cq m' cN h1 _=>absurd h1 (aX.fE _ _ _ _ _ _),cG.keep h.hR (λ_ _=>rfl) λ_ h=>.inl h⟩,Fr.refl _ _,λ_ h=>.inl h,λc aa=>?_,λc ⟨t,aa⟩=>.inl ⟨t,((ju t).1 c aa).1⟩⟩
 ·obtain ⟨_,v,hv,a1⟩:=(ju t).2 x J;exact ⟨v,hv,.tree (a1.n' λc aa=>aa.elim .inl λaa=>.inr ⟨t,aa.1,by rw [J]; simp,aa.2⟩)⟩
 ·rcases hi with aI | ⟨s,h1,_,af⟩
  ·exact h.bc t c ((ju t).1 c aa).1 aI
  ·have:=h.ea t s c ((ju t).1 c aa).1 h1;subst this;exact af aa
 ·rcases aa with aI | ⟨s,aI,_⟩
  ·exact h.lt c aI
  ·exact h.jd s c aI
 ·rcases aa with aI | ⟨s,aI,_⟩
  ·exact .inl aI
  ·exact .inr (.inl ⟨s,aI⟩)
theorem qh.sound (h:cB w I T g Fs) {a:Act}(aJ:a.tmps=T) (bt:a.tmps.size=N.size) {o:Oper}{r:Option ab}{d:Nat}(ax:qh P g ops o r) (aR:o.dst=some d) (aQ:g d=none) (ku:N.ok d=true) {K:Act->World->Prop}{Q:Exit->Act->World->Prop}
  (c6:∀ cd w',kh N a w I Fs (yw g d r) cd w'->K cd w') :
  if Region.wanted o (yielded ops a.tmps) then o.wp P a w K Q\/(o.asks P a w/\LetsOut Q) else K (a.put o.dst undef) w:=by
 subst aJ;cases r with
 | none =>
  rw [iH.sound h ax];simp only [Bool.false_eq_true,if_false];refine c6 _ _ ⟨by rw [aR]; rfl,by rw [aR]; exact ib.put ku _ _,I,Fs,by rw [aR]; exact h.Z0 aQ _,k4.refl _ _ _⟩
 | some x =>
  have fin:∀ x v w',tN w I a.tmps g Fs x v w'->(∀ cd w',kh N a w I Fs (cT g d x) cd w'->K cd w')->K (a.put o.dst v) w':=by
   rintro x v w' ⟨F,I',bg,a1,h1,af,aF,bh,b7,dp⟩ c6;refine c6 _ _ ⟨by rw [aR]; rfl,by rw [aR]; exact ib.put ku _ _,I',_,by rw [aR]; exact bg.uT aQ (by rw [bt]; exact cP.lt ku) a1 (λt c aa aV=>h1 t c aa aV) (λc aa=>(af c aa).2) dp,⟨b7,aF,λc aa=>?_,λc aa=>?_⟩⟩
   ·rcases bh c aa with aI | aI
    ·exact .inl aI
    ·exact .inr (.inr aI)
   ·rcases u6 aa with aI | aI
    ·exact .inl aI
    ·exact .inr (af c aI).1
  have pb:∀ y v w',cE y->View (λ_=>none) y x->tN w I a.tmps g Fs y v w'->tN w I a.tmps g Fs x v w':=by
   rintro y v w' aB hv ⟨F,I',bg,a1,h1,af,aF,bh,b7,dp⟩;have ds:=a1.gu (by rintro z p n m new rfl; cases aB);refine ⟨ck,λc=>I' c\/F c,⟨λt z aX=>?_,bg.ln,bg.ea,λt c aa hi=>?_,λc aa=>?_,bg.rR,cG.keep bg.hR (λ_ _=>rfl) λ_ h=>.inl h⟩,.tree (ds.pb aB hv (λc aa=>(af c aa).2) bg.lt bg.hR),λ_ _ h=>h.elim,λ_ h=>h.elim,λc aa=>.inl (aF c aa),λc aa=>?_,b7,?_⟩
   ·obtain ⟨u,hu,ny⟩:=bg.rel t z aX;exact ⟨u,hu,ny.n' λc aa=>.inl aa⟩
   ·rcases hi with h | h
    ·exact bg.bc t c aa h
    ·exact h1 t c h aa
   ·rcases aa with h | h
    ·exact bg.lt c h
    ·exact ds.lt c h
   ·rcases aa with h | h
    ·exact bh c h
    ·exact .inr (af c h).1
   ·rintro z p n m new rfl;cases hv with
    | self h=>cases h
  rcases ax with ax | ⟨ax,rfl⟩ | ⟨ax,y,aq,aB,hv⟩
  rotate_left
  rotate_left
  ·rw [iH.sound h ax];simp only [if_true];refine .inl ?_;have NO:∀ v w',tN w I a.tmps g Fs y v w'->K (a.put o.dst v) w':=λv w' df=>fin x v w' (pb y v w' aB hv df) c6;rcases aq with aq | aq
   ·obtain ⟨v,w',hp,df⟩:=aq.sound h rfl;unfold Oper.wp Oper.upon;simp only [hp];exact NO v w' df
   ·exact aq.sound h rfl NO
  rotate_left
  ·rw [iH.sound h ax];simp only [Bool.false_eq_true,if_false];refine c6 _ _ ⟨by rw [aR]; rfl,by rw [aR]; exact ib.put ku _ _,I,_,by rw [aR]; exact h.uT aQ (by rw [bt]; exact cP.lt ku) (.tree (.bS (Fs:=λ_=>ck) (F:=ck) rfl (λk x u J _=>by simp at J) (λ_ _ _ _ _ h=>h.elim) (λc=>⟨λh=>h.elim,λ⟨_,_,h⟩=>h⟩))) (λ_ _ h=>h.elim) (λ_ h=>h.elim) (λ_ _ _ _ _ e=>by cases e),⟨Fr.refl _ _,λ_ h=>h,λ_ h=>.inl h,λc aa=>?_⟩⟩;rcases u6 aa with aI | aI
   ·exact .inl aI
   ·exact aI.elim
  rw [iH.sound h ax.1];simp only [if_true];refine .inl ?_;have fin:∀ v w',tN w I a.tmps g Fs x v w'->K (a.put o.dst v) w':=by
   rintro v w' ⟨F,I',bg,a1,h1,af,aF,bh,b7,dp⟩;refine c6 _ _ ⟨by rw [aR]; rfl,by rw [aR]; exact ib.put ku _ _,I',_,by rw [aR]; exact bg.uT aQ (by rw [bt]; exact cP.lt ku) a1 (λt c aa aV=>h1 t c aa aV) (λc aa=>(af c aa).2) dp,⟨b7,aF,λc aa=>?_,λc aa=>?_⟩⟩
   ·rcases bh c aa with aI | aI
    ·exact .inl aI
    ·exact .inr (.inr aI)
   ·rcases u6 aa with aI | aI
    ·exact .inl aI
    ·exact .inr (af c aI).1
  rcases ax.2 with aq | aq
  ·obtain ⟨v,w',hp,df⟩:=aq.sound h rfl;unfold Oper.wp Oper.upon;simp only [hp];exact fin v w' df
  ·exact aq.sound h rfl fin
inductive oY (P:Program) (N:cP) (ops:Array Oper):List Nat->aL->aL->Prop
 | nil {g:aL}:oY P N ops [] g g
 | step {i:Nat}{rest:List Nat}{g g':aL}{o:Oper}{d:Nat}{r:Option ab}(aW:ops[i]?=some o) (aR:o.dst=some d) (aQ:g d=none) (ku:N.ok d=true) (ax:qh P g ops o r)
   (hr:oY P N ops rest (yw g d r) g'):oY P N ops (i::rest) g g'
 | jM {i:Nat}{rest:List Nat}{g g1 g':aL}{o:Oper}(aW:ops[i]?=some o) (hw:iH g ops o true) (he:bl P N g o g1) (hr:oY P N ops rest g1 g'):oY P N ops (i::rest) g g'
 | drop {is:List Nat}{g g':aL}{d:Nat}{x:ab}(aR:g d=some x) (ah:leaf x=true) (hr:oY P N ops is (del g d) g'):oY P N ops is g g'
 | forget {is:List Nat}{g g1 g':aL}(hk:iE g g1) (hr:oY P N ops is g1 g'):oY P N ops is g g'
 | zD {is:List Nat}{g g1 g':aL}{dP:Nat->Bool}(hk:HE dP g g1) (hr:oY P N ops is g1 g'):oY P N ops is g g'
theorem oY.sound {is:List Nat}{g':aL}(hr:oY P N ops is g g'):∀ {a:Act}{w:World}{I:a'}{Fs:Nat->a'}{Q:Exit->Act->World->Prop},cB w I a.tmps g Fs->a.tmps.size=N.size ->
  (∀ cd w',kh N a w I Fs g' cd w'->Q .normal cd w')->wpOps P ops Q is a w:=by
 induction hr with
 | nil=>exact λbg bt eu=>eu _ _ ⟨rfl,ib.refl,_,_,bg,k4.refl _ _ _⟩
 | @step i rest g g' o d r aW aR aQ ku ax _ aM =>
  intro a w I Fs Q bg bt eu;simp only [wpOps,aW];refine ax.sound bg rfl bt aR aQ ku λcd w' aB=>?_;obtain ⟨ca,b6,I',bW,dZ,bU⟩:=aB;exact aM dZ (b6.1.trans bt) λa2 hz af=>eu _ _ (kh.trans ca b6 bU af)
 | @jM i rest g g1 g' o aW hw he _ aM =>
  intro a w I Fs Q bg bt eu;simp only [wpOps,aW,hw.sound bg,if_true];refine .inl (he.sound bg rfl bt λcd w' aB=>?_);obtain ⟨ca,b6,I',bW,dZ,bU⟩:=aB;exact aM dZ (b6.1.trans bt) λa2 hz af=>eu _ _ (kh.trans ca b6 bU af)
 | @drop is g g' d x aR ah _ aM=>exact λbg bt eu=>aM (bg.drop aR ah) bt eu
 | @zD is g g1 g' dP hk _ aM =>
  intro a w I Fs Q bg bt eu;obtain ⟨I',bW,dZ,bU⟩:=bg.zD hk;exact aM dZ bt λa2 hz af=>eu _ _ (kh.trans rfl ib.refl bU af)
 | @forget is g g1 g' hk _ aM =>
  intro a w I Fs Q bg bt eu;have dZ:=bg.nh.keep hk;refine aM dZ bt λa2 hz af=>eu _ _ (kh.trans rfl ib.refl ⟨Fr.refl _ _,λ_ h=>h,λ_ h=>.inl h,λc aa=>?_⟩ af);obtain ⟨t,_,aa⟩:=aa;exact .inl ⟨t,aa⟩
end
def sM (rs:List Nat):Place->Prop:=λp=>p.root∈rs
def np (P:Program) (N:cP) (rs:Place->Prop) (g:aL) (o:Oper) (g':aL):Prop :=
 ∀ (w:World) (I:a') (T:Array Value) (Fs:Nat->a'),cB w I T g Fs->∀ (a:Act),a.tmps=T->a.tmps.size=N.size->∀ (K:Act->World->Prop) (Q:Exit->Act->World->Prop),
  (∀ (cd:Act) (w':World),kh N a w I Fs g' cd w'->(∀ t,o.dst≠some t->cd.tmps[t]?=a.tmps[t]?)->(∀ r path,rs ⟨r,path⟩->∀ y,bH g ⟨r,path⟩=some y->(∀ z q n m new,y≠.bM z q n m new)->dx w' cd.tmps ⟨r,path⟩=dx w T ⟨r,path⟩)->K cd w')->o.wp P a w K Q
theorem h3.v {P:Program}{N:cP}{g g':aL}{o:Oper}(h:h3 P N g o g'):np P N (sM []) g o g' :=
 λw I T Fs bg a aJ bt K Q c6=>h w I T Fs bg a aJ bt K Q λcd w' h1 af=>c6 cd w' h1 af λ_ _ h=>by simp [sM] at h
inductive qe:ab->Prop
 | lit {v:Value}:qe (.lit v)
 | aP:qe .aP
 | bc {z n:Nat}{cs:List ab}(h:∀ x∈cs,cE x):qe (.bc z n cs)
 | agg {cs:List ab}(h:∀ x∈cs,qe x):qe (.agg cs)
theorem qe.bq {x:ab}(h:qe x):cE x:=by
 induction h with
 | lit=>exact .lit
 | aP=>exact .aP
 | bc h=>exact .bc h
 | agg _ aM=>exact .agg aM
theorem qe.ln {w:World}{I:a'}{ρ:ab->Value->Prop}{x:ab}(h:qe x):∀ {v:Value}{F:a'},R w I ρ x v F->∀ c,¬ F c:=by
 induction h with
 | lit =>
  intro v F a1;cases a1 with
  | lit _ aH=>exact aH
  | ref J=>simp [ab.isRef] at J
 | aP =>
  intro v F a1;cases a1 with
  | aP aH=>exact aH
  | ref J=>simp [ab.isRef] at J
 | bc =>
  intro v F a1;cases a1 with
  | ref J=>simp [ab.isRef] at J
  | gM aH=>exact aH
  | bc aH=>exact aH
 | @agg cs _ aM =>
  intro v F a1 c aa;cases a1 with
  | ref J=>simp [ab.isRef] at J
  | @agg _ vs bG _ ah h1 hr aR mh =>
   obtain ⟨k,hk,af⟩:=(mh c).1 aa;have hu:vs[k]?=some (vs[k]'(by omega)):=Array.getElem?_eq_getElem (by omega);exact aM _ (List.getElem_mem hk) (hr k _ _ (List.getElem?_eq_getElem hk) hu) c af
structure Hx (g:aL):Prop where
 b0:∀ t x,g t=some x->cU g x
 fE:∀ t z q n m new,g t≠some (.bM z q n m new)
def wM (rs:Place->Prop) (g g1:aL) (o:Oper) (x:ab):Prop:=(∃ r path z n N cs,x=.a7 z ⟨r,path⟩ n/\rs ⟨r,path⟩/\bH g ⟨r,path⟩=some (.own z N cs)/\bH g1 ⟨r,path⟩=some (.own z N cs)/\n<=N)\/(∃ v,x=.lit v)\/(∃ s p k,x=.ptr p k/\g s=some x/\g1 s=some x/\o.dst≠some s)\/(∃ r k cs,x=.ptr ⟨r,[]⟩ k/\g1 r=some (.obj cs)/\k<cs.length/\o.dst≠some r/\∃ cs',g r=some (.obj cs')/\k<cs'.length)\/(∃ z n cs,x=.bc z n cs/\cE x)\/(∃ cs,x=.agg cs/\qe x/\Hx g)
section
variable {P:Program}{N:cP}{g g1:aL}{o:Oper}
theorem Q_ {T:Array Value}{t:Nat}{v:Value}(h:T[t]?=some v):T.setIfInBounds t v=T:=by
 apply Array.ext (by simp);intro i h1 af;rw [Array.getElem_setIfInBounds];split
 ·rename_i e;subst e;have:=(Array.getElem?_eq_some_iff.1 h);exact this.2.symm
 ·rfl
theorem cB.U4 {w:World}{I:a'}{T:Array Value}{Fs:Nat->a'}{t:Nat}{x:ab}(h:cB w I T (cT g t x) Fs) (aQ:g t=none) (aa:Hx g) (lz:∀ c,¬ Fs t c):cB w I T g Fs:=by
 have hD:∀ s y,g s=some y->cT g t x s=some y:=λs y ax=>by
  unfold cT;rw [if_neg (λe=>by rw [e,aQ] at ax; cases ax)]; exact ax
 have af:=h.nh.keep (g2:=g) ⟨hD,aa.b0,aa.fE⟩;have e:(λs c=>g s≠none/\Fs s c)=Fs:=by
  funext s c;apply propext;refine ⟨λh=>h.2,λaV=>⟨λaB=>?_,aV⟩⟩;by_cases ax:s=t
  ·subst ax; exact lz c aV
  ·exact h.ln s (by unfold cT; rw [if_neg ax]; exact aB) c aV
 rw [e] at af;exact af
theorem np.extra {rs:Place->Prop}(h:np P N rs g o g1) {t:Nat}{x:ab}(lC:∀ p,rs p->g p.root≠none) (aQ:g t=none) (JG:g1 t=none) (au:o.dst≠some t) (J:wM rs g g1 o x):np P N rs (cT g t x) o (cT g1 t x):=by
 intro w I T Fs bg a aJ bt K Q c6;have Kd:cT g t x t=some x:=by simp [cT]
 have lA:∀ z q n m new,x≠.bM z q n m new:=by
  rcases J with ⟨r,path,z,n,N,cs,rfl,_⟩ | ⟨v,rfl⟩ | ⟨s,p,k,rfl,_⟩ | ⟨r,k,cs,rfl,_⟩ | ⟨z,n,cs,rfl,_⟩ | ⟨cs,rfl,_⟩ <;> simp
 have rm:cB w I T g Fs:=by
  have BE:leaf x=true->cB w I T g Fs:=λzS=>by
   have:=bg.drop Kd zS;have e:del (cT g t x) t=g:=by
    funext s;unfold del cT;by_cases ax:s=t
    ·subst ax; simp [aQ]
    ·simp [ax]
   rwa [e] at this
  rcases J with ⟨r,path,z,n,N,cs,rfl,_⟩ | ⟨v,rfl⟩ | ⟨s,p,k,rfl,_⟩ | ⟨r,k,cs,rfl,_⟩ | ⟨z,n,cs,rfl,_⟩ | ⟨cs,rfl,zV,hN⟩
  ·exact BE rfl
  ·exact BE rfl
  ·exact BE rfl
  ·exact BE rfl
  ·exact BE rfl
  ·obtain ⟨v,_,nz⟩:=bg.rel t _ Kd;exact bg.U4 aQ hN (zV.ln (nz.gu (by simp)))
 obtain ⟨v,hv,nz⟩:=bg.rel t x Kd;refine h w I T Fs rm a aJ bt K Q λcd w' aB tl Pb=>c6 cd w' ?_ tl λr path hr y ao lA=>?_
 rotate_left
 ·by_cases O2:r=t
  ·subst O2;exact absurd aQ (lC _ hr)
  ·exact Pb r path hr y (by simpa [bH,cT,O2] using ao) lA
 obtain ⟨ca,b6,I',bW,dZ,bU⟩:=aB;have ih:cd.tmps[t]?=some v:=by rw [tl t au,aJ]; exact hv
 have iJ:jH w' I' (dy w' cd.tmps g1) x v ck:=by
  rcases J with ⟨r,path,z,n,zc,cs,rfl,hr,zX,i',XK⟩ | ⟨u,rfl⟩ | ⟨s,p,k,rfl,ax,xE,X2⟩ | ⟨r,k,cs,rfl,i',hk,uz,_⟩ | ⟨z,n,cs,rfl,oF⟩ | ⟨cs,rfl,zV,hN⟩
  ·obtain ⟨⟨aw,kE,cap,gW,rfl,lO⟩,_⟩:=(nz.gu (by simp)).n4;exact .tree (.ref rfl ⟨⟨aw,kE,cap,by rw [Pb r path hr _ zX (by simp)]; exact gW,rfl,lO⟩,.inl ⟨zc,cs,i',XK⟩⟩ λ_ h=>h)
  ·obtain ⟨rfl,aa⟩:=(nz.gu (by simp)).hE;exact .tree (.lit aa λ_ h=>h)
  ·obtain ⟨⟨sV,ad,aw,a2,rfl⟩,_⟩:=(nz.gu (by simp)).n5;have bU:s≠t:=by rintro rfl; rw [aQ] at ax; cases ax
   obtain ⟨u,hu,ny⟩:=rm.rel s _ ax;obtain ⟨⟨afH,acp,gW,ir,rfl⟩,_⟩:=(ny.gu (by simp)).n5;rw [aw] at gW;cases gW;rw [a2] at ir;cases ir;obtain ⟨sU,hX,Ji⟩:=dZ.rel s _ xE;have:cd.tmps[s]?=T[s]?:=by rw [tl s X2,aJ]
   rw [this,hu] at hX;cases hX;exact .tree (.ref rfl (Ji.gu (by simp)).n5 λ_ h=>h)
  ·obtain ⟨⟨sV,ad,aw,a2,rfl⟩,_⟩:=(nz.gu (by simp)).n5;have cV:cd.tmps[r]?=T[r]?:=by rw [tl r uz,aJ]
   have mV:∀ (w:World) (T:Array Value),dx w T ⟨r,[]⟩=T[r]?:=λw T=>by
    unfold dx; simp only; cases T[r]? <;> rfl
   exact .tree (.ref rfl ⟨⟨sV,ad,by rw [mV,cV,<- mV w T]; exact aw,a2,rfl⟩,⟨.obj cs,by simp [bH,i',ab.at],0,0,cs,.inr rfl,hk⟩⟩ λ_ h=>h)
  ·have rW:∀ c,I c->w'.heap[c]?=w.heap[c]?:=λc aa=>bU.dN.block c (bg.lt c aa) λ⟨t',aI⟩=>rm.bc t' c aI aa;have Jf:=(nz.gu (by simp)).bq oF (ρ':=dy w' cd.tmps g1);have lz:∀ c,¬ Fs t c:=by
    cases nz.gu (by simp) with
    | ref J=>simp [ab.isRef] at J
    | gM aH=>exact aH
    | bc aH=>exact aH
   exact .tree ((Jf.frame rW bU.more (λ_ _ h=>h) λc aa=>absurd aa (lz c)).empty lz)
  ·have rW:∀ c,I c->w'.heap[c]?=w.heap[c]?:=λc aa=>bU.dN.block c (bg.lt c aa) λ⟨t',aI⟩=>rm.bc t' c aI aa;have lz:=zV.ln (nz.gu (by simp));have Jf:=(nz.gu (by simp)).bq zV.bq (ρ':=dy w' cd.tmps g1);exact .tree ((Jf.frame rW bU.more (λ_ _ h=>h) λc aa=>absurd aa (lz c)).empty lz)
 have oG:=dZ.uT (d:=t) (x:=x) (v:=v) (F:=ck) JG (Array.getElem?_eq_some_iff.1 ih).1 iJ (λ_ _ h=>h.elim) (λ_ h=>h.elim) (λz p n m new e=>absurd e (lA _ _ _ _ _));rw [Q_ ih] at oG;refine ⟨ca,b6,I',_,oG,⟨bU.dN,bU.more,bU.new,λc aa=>?_⟩⟩;rcases u6 aa with aI | aI
 ·exact bU.own c aI
 ·exact aI.elim
theorem h3.frame {g0 IY:aL}{r:Nat}{x:ab}(h:h3 P N g0 o IY) (hr:g r=some x) (J:cE x) (hk:iE g g0) (aK:g0 r=none) (h1:IY r=none) (aR:o.dst≠some r):np P N (sM [r]) g o (cT IY r x):=by
 intro w I T Fs bg a aJ bt K Q c6;have rm:=bg.nh.keep hk;refine h w I T _ rm a aJ bt K Q λcd w' aB tl=>?_;obtain ⟨ca,b6,I',bW,dZ,bU⟩:=aB;obtain ⟨u,hu,a1⟩:=bg.rel r x hr;have hX:cd.tmps[r]?=some u:=by rw [tl r aR,aJ]; exact hu
 have lA:∀ z q n m new,x≠.bM z q n m new:=by rintro z q n m new rfl; cases J
 have off:∀ c,Fs r c->¬ ∃ t,(g0 t≠none/\Fs t c):=by
  rintro c aa ⟨t,mu,af⟩;have:=bg.ea t r c af aa;subst this;exact mu aK
 have same:∀ c,Fs r c->w'.heap[c]?=w.heap[c]?:=λc aa=>bU.dN.block c (bg.jd r c aa) (off c aa);have rW:∀ c,I c->w'.heap[c]?=w.heap[c]?:=λc aa=>bU.dN.block c (bg.lt c aa) λ⟨t,_,aI⟩=>bg.bc t c aI aa;have oG:=dZ.uT (d:=r) (x:=x) (v:=u) (F:=Fs r) h1 (Array.getElem?_eq_some_iff.1 hX).1 (.tree (((a1.gu lA).bq J).frame rW bU.more (λ_ _ h=>h) same)) (λt c aa aV=>by
   rcases bU.own c ⟨t,aV⟩ with aI | aI
   ·exact off c aa aI
   ·have:=bg.jd r c aa; omega) (λc aa hi=>by
   rcases bU.new c hi with aI | aI | aI
   ·exact bg.bc r c aa aI
   ·exact off c aa aI
   ·have:=bg.jd r c aa; omega) (λz p n m new e=>absurd e (lA _ _ _ _ _))
 rw [Q_ hX] at oG;refine c6 cd w' ⟨ca,b6,I',_,oG,⟨bU.dN.mono λb _ ⟨t,_,aI⟩=>⟨t,aI⟩,bU.more,λc aa=>?_,λc aa=>?_⟩⟩ tl λc' path dI y ao hyp=>?_
 ·rcases bU.new c aa with aI | ⟨t,_,aI⟩ | aI
  ·exact .inl aI
  ·exact .inr (.inl ⟨t,aI⟩)
  ·exact .inr (.inr aI)
 ·rcases u6 aa with aI | aI
  ·rcases bU.own c aI with ⟨t,_,gZ⟩ | gZ
   ·exact .inl ⟨t,gZ⟩
   ·exact .inr gZ
  ·exact .inl ⟨r,aI⟩
 ·have dI:c'∈[r]:=dI;simp only [List.mem_singleton] at dI;subst dI;have gy:iE g (λt=>if t=c' then some x else none):=by
   refine ⟨λt y ga=>?_,λt y ga=>?_,λt z q n m new ga=>?_⟩
   all_goals
    by_cases e:t=c'
    case neg=>simp [e] at ga
   ·subst e; simp at ga; subst ga; exact hr
   ·subst e; simp at ga; subst ga; exact .bq J
   ·subst e; simp at ga; exact lA _ _ _ _ _ ga
  refine (bg.nh.keep gy).yN (T':=cd.tmps) (λt au=>?_) (λt c aa=>?_) (p:=⟨c',path⟩) (y:=y) ?_
  ·by_cases e:t=c'
   ·subst e; rw [tl t aR,aJ]
   ·simp [e] at au
  ·by_cases e:t=c'
   ·subst e; exact same c aa.2
   ·simp [e] at aa
  ·simp only [bH,if_true];simpa [bH,hr] using ao
end
abbrev Acc:=List (Nat × Nat × Option ab)
def dq (g0:aL) (A:Nat->Bool):Acc->aL
 | [],t=>g0 t
 | (k,d,r)::acc,t=>if d=t then (if A k then r else none) else dq g0 A acc t
def lp:Nat × Nat × Option ab->Option Place
 | (_,_,some (.bM _ p _ _ _))=>some p
 | _=>none
def qk (ops:Array Oper) (bj:List (List Nat)):Bool :=
 (List.range ops.size).all λk =>
  match ops[k]? with
  | none=>true
  | some o=>(o.after.all λe=>!Region.binds .any e||decide (e.on<k))&&(bj.getD k []).all λm=>decide (m<k)&&o.after.any λe=>Region.binds .any e&&(e.on == m||(bj.getD e.on []).contains m)
inductive iG (P:Program) (N:cP) (ops:Array Oper) (bj:List (List Nat)) (g0:aL) (i:Nat) (dB:Acc):Nat->Acc->Prop
 | nil:iG P N ops bj g0 i dB i dB
 | step {j:Nat}{acc:Acc}{o:Oper}{d:Nat}{r:Option ab}(h:iG P N ops bj g0 i dB j acc) (aW:ops[j]?=some o) (aR:o.dst=some d) (aQ:g0 d=none) (aB:∀ e∈acc,e.2.1≠d) (ku:N.ok d=true)
   (ax:qh P (dq g0 (λm=>(bj.getD j []).contains m) acc) ops o r):iG P N ops bj g0 i dB (j+1) ((j,d,r)::acc)
structure nr (P:Program) (N:cP) (ops:Array Oper) (bj:List (List Nat)) (g0:aL) (i:Nat) (dB:Acc):Prop where
 lt:∀ e∈dB,e.1<i
 free:∀ e∈dB,g0 e.2.1=none
 nd:(dB.map (·.2.1)).Nodup
 RF:∀ e∈dB,∀ b4∈dB,(e.1=b4.1\/e.2.1=b4.2.1)->e=b4
 st:∀ e∈dB,∃ fU,ops[e.1]?=some fU/\fU.dst=some e.2.1/\N.ok e.2.1=true/\qh P (dq g0 (λm=>(bj.getD e.1 []).contains m) dB) ops fU e.2.2
theorem nr.nil {P:Program}{N:cP}{ops:Array Oper}{bj:List (List Nat)}{g0:aL}{i:Nat}:nr P N ops bj g0 i []:=⟨by simp,by simp,by simp,by simp,by simp⟩
inductive sZ (P:Program) (N:cP) (ops:Array Oper) (bj:List (List Nat)):Nat->Acc->aL->aL->Prop
 | fin {i:Nat}{dB:Acc}{g:aL}{acc:Acc}(ax:iG P N ops bj g i dB ops.size acc) (gT:(acc.filterMap lp).Nodup) (fN:∀ t z q n m new,g t≠some (.bM z q n m new)):sZ P N ops bj i dB g (dq g (λ_=>true) acc)
 | Bz {i j:Nat}{g g1 g':aL}{dB acc U:Acc}{o:Oper}{rs:Place->Prop}(ax:iG P N ops bj g i dB j acc) (gT:(acc.filterMap lp).Nodup) (fN:∀ t z q n m new,g t≠some (.bM z q n m new)) (aW:ops[j]?=some o) (hw:iH (dq g (λm=>(bj.getD j []).contains m) acc) ops o true)
   (he:np P N rs (dq g (λm=>(bj.getD j []).contains m) acc) o g1) (lC:∀ p,rs p->g p.root≠none) (fl:U=acc.filter λe=>!(bj.getD j []).contains e.1) (J:∀ e∈U,∃ x,e.2.2=some x/\wM rs (dq g (λm=>(bj.getD j []).contains m) acc) g1 o x) (h1:∀ e∈U,g1 e.2.1=none/\o.dst≠some e.2.1)
   (af:∀ e∈U,∃ fU,ops[e.1]?=some fU/\fU.dst=some e.2.1/\N.ok e.2.1=true/\qh P (dq g1 (λm=>(bj.getD e.1 []).contains m) U) ops fU e.2.2)
   (ar:(List.range ops.size).all (λk=>decide (k<=j)||(bj.getD k []).contains j)=true) (hr:sZ P N ops bj (j+1) U g1 g'):sZ P N ops bj i dB g g'
theorem ni {g0:aL}{A:Nat->Bool}{acc:Acc}{t:Nat}(h:∀ e∈acc,e.2.1≠t):dq g0 A acc t=g0 t:=by
 induction acc with
 | nil=>rfl
 | cons e acc aM =>
  grind [dq]
theorem u7 {g0:aL}{A:Nat->Bool}{acc:Acc}{t:Nat}{x:ab}(h:dq g0 A acc t=some x):(∃ e∈acc,e.2.1=t/\A e.1=true/\e.2.2=some x)\/((∀ e∈acc,e.2.1≠t)/\g0 t=some x):=by
 induction acc with
 | nil=>exact .inr ⟨by simp,h⟩
 | cons e acc aM =>
  grind [dq]
theorem LZ {g:aL}{A:Nat->Bool}{acc:Acc}(hu:∀ e∈acc,∀ b4∈acc,e.2.1=b4.2.1->e=b4) {e:Nat × Nat × Option ab}(he:e∈acc):dq g A acc e.2.1=if A e.1 then e.2.2 else none:=by
 induction acc with
 | nil=>cases he
 | cons a acc aM =>
  grind [dq]
section
variable {P:Program}{N:cP}{ops:Array Oper}{bj:List (List Nat)}{g0:aL}{i:Nat}
variable {dB:Acc}
theorem iG.le {j:Nat}{acc:Acc}(h:iG P N ops bj g0 i dB j acc) (fl:nr P N ops bj g0 i dB):i<=j/\∀ e∈acc,e.1<j:=by
 induction h with
 | nil=>exact ⟨Nat.le_refl _,fl.lt⟩
 | step _ _ _ _ _ _ _ aM =>
  grind
theorem iG.ge {j:Nat}{acc:Acc}(h:iG P N ops bj g0 i dB j acc) (fl:nr P N ops bj g0 i dB):∀ e∈acc,e∈dB\/i<=e.1:=by
 induction h with
 | nil=>exact λe he=>.inl he
 | step ax _ _ _ _ _ _ aM =>
  intro e he;rcases List.mem_cons.1 he with rfl | he
  ·exact .inr (ax.le fl).1
  grind
theorem iG.LR {j:Nat}{acc:Acc}(h:iG P N ops bj g0 i dB j acc):∀ e∈dB,e∈acc:=by
 induction h with
 | nil=>exact λe he=>he
 | step _ _ _ _ _ _ _ aM=>exact λe he=>by simp [aM e he]
theorem iG.fresh {j:Nat}{acc:Acc}(h:iG P N ops bj g0 i dB j acc) (fl:nr P N ops bj g0 i dB):∀ e∈acc,g0 e.2.1=none:=by
 induction h with
 | nil=>exact fl.free
 | step _ _ _ aQ _ _ _ aM =>
  grind
theorem iG.nodup {j:Nat}{acc:Acc}(h:iG P N ops bj g0 i dB j acc) (fl:nr P N ops bj g0 i dB):(acc.map (·.2.1)).Nodup:=by
 induction h with
 | nil=>exact fl.nd
 | step _ _ _ _ aB _ _ aM =>
  grind
theorem iG.uniq {j:Nat}{acc:Acc}(h:iG P N ops bj g0 i dB j acc) (fl:nr P N ops bj g0 i dB):∀ {e b4:Nat × Nat × Option ab},e∈acc->b4∈acc->(e.1=b4.1\/e.2.1=b4.2.1)->e=b4:=by
 induction h with
 | nil=>exact λ{e b4} he h8 bQ=>fl.RF e he b4 h8 bQ
 | @step j acc o d r ax _ _ _ aB _ _ aM =>
  intro e b4 he h8 bQ;rcases List.mem_cons.1 he with rfl | he <;> rcases List.mem_cons.1 h8 with rfl | h8
  ·rfl
  ·rcases bQ with bQ | bQ
   ·have:=(ax.le fl).2 b4 h8
    grind
   grind
  ·rcases bQ with bQ | bQ
   ·have:=(ax.le fl).2 e he
    grind
   grind
  grind
theorem iG.at_mem {j:Nat}{acc:Acc}(h:iG P N ops bj g0 i dB j acc) (fl:nr P N ops bj g0 i dB) {A:Nat->Bool}{e:Nat × Nat × Option ab}(he:e∈acc):dq g0 A acc e.2.1=if A e.1 then e.2.2 else none :=
 LZ (λ_ J _ ao aI=>h.uniq fl J ao (.inr aI)) he
theorem iG.get {j:Nat}{acc:Acc}(h:iG P N ops bj g0 i dB j acc) (fl:nr P N ops bj g0 i dB):∀ e∈acc,∃ o EZ,ops[e.1]?=some o/\o.dst=some e.2.1/\N.ok e.2.1=true/\qh P (dq g0 (λm=>(bj.getD e.1 []).contains m) EZ) ops o e.2.2/\∀ e∈EZ,e∈acc:=by
 induction h with
 | nil =>
  intro e he;obtain ⟨fU,h1,af,aF,bh⟩:=fl.st e he
  grind
 | @step j acc o d r ax aW aR aQ aB ku bU aM =>
  intro e he;rcases List.mem_cons.1 he with rfl | he
  ·grind
  grind
theorem iG.has {j:Nat}{acc:Acc}(h:iG P N ops bj g0 i dB j acc):∀ k,i<=k->k<j->∃ e∈acc,e.1=k:=by
 induction h with
 | nil=>intro k h1 af; omega
 | @step j acc o d r ax aW aR aQ aB ku bU aM =>
  grind [List.mem_cons_self]
theorem ZL {acc:Acc}(gT:(acc.filterMap lp).Nodup) {e b4:Nat × Nat × Option ab}{p:Place}(he:e∈acc) (h8:b4∈acc) (h:lp e=some p) (aI:lp b4=some p):e=b4:=by
 induction acc with
 | nil=>simp at he
 | cons a acc aM =>
  grind
def ek (listed:Array Bool) (k:Nat):Bool:=listed.getD k false
def vm (ops:Array Oper) (listed:Array Bool):Nat:=((List.range ops.size).filter λk=>!ek listed k).length
theorem Fc {listed:Array Bool}{k:Nat}(hk:k<ops.size) (ah:ek listed k=false) (fA:listed.size=ops.size):vm ops (listed.setIfInBounds k true)+1<=vm ops listed:=by
 unfold vm;have key:∀ l:List Nat,l.Nodup->((l.filter λj=>!ek (listed.setIfInBounds k true) j).length+if k∈l then 1 else 0)=(l.filter λj=>!ek listed j).length:=by
  intro l
  induction l with
  | nil=>intro _; simp
  | cons j l aM =>
   intro eA;have XL:=List.nodup_cons.1 eA;have afp:=aM XL.2;by_cases gI:j=k
   ·simp_all [ek]
   ·have h1:ek (listed.setIfInBounds k true) j=ek listed j:=by simp [ek,Array.getElem?_setIfInBounds_ne (Ne.symm gI)]
    grind
 grind
end
section
variable {P:Program}{N:cP}{ops:Array Oper}{bj:List (List Nat)}
def Down (bj:List (List Nat)) (listed:Array Bool):Prop:=∀ k,ek listed k=true->∀ m∈bj.getD k [],ek listed m=true
theorem MJ (h:qk ops bj=true) {k:Nat}{o:Oper}(aW:ops[k]?=some o) :
  (∀ e∈o.after,Region.binds .any e=true->e.on<k)/\∀ m∈bj.getD k [],m<k/\∃ e∈o.after,Region.binds .any e=true/\(e.on=m\/m∈bj.getD e.on []):=by
 grind [qk,Array.all_eq_true_iff_forall_mem]
theorem yy {listed:Array Bool}{k:Nat}(h:k∈Region.ready .any ops listed):ek listed k=false/\∃ o,ops[k]?=some o/\∀ e∈o.after,Region.binds .any e=true->ek listed e.on=true:=by
 grind [mem_ready,ek]
theorem Lu (dC:qk ops bj=true) {listed:Array Bool}(aR:Down bj listed) {k:Nat}(h:k∈Region.ready .any ops listed):∀ m∈bj.getD k [],ek listed m=true:=by
 obtain ⟨_,o,aW,af⟩:=yy h;intro m hm;obtain ⟨_,e,he,ar,aF⟩:=(MJ dC aW).2 m hm;rcases aF with rfl | aF
 ·grind
 ·exact aR e.on (af e he ar) m aF
theorem QF (dC:qk ops bj=true) {listed:Array Bool}(fA:listed.size=ops.size):∀ k,k<ops.size->ek listed k=false->Region.ready .any ops listed≠[]:=by
 intro k
 induction k using Nat.strongRecOn with
 | _ k aM =>
  intro hk ah;by_cases hex:∃ j,j<k/\ek listed j=false
  ·grind
  ·have mT:k∈Region.ready .any ops listed:=by
    refine mem_ready.2 ⟨?_,ops[k],Array.getElem?_eq_getElem hk,λe he ar=>?_⟩
    ·grind [ek]
    ·have aN:=(MJ dC (Array.getElem?_eq_getElem hk)).1 e he ar
     grind [ek]
   grind
theorem Ep {g0:aL}{A B:Nat->Bool}{acc:Acc}{t:Nat}(h:∀ e∈acc,e.2.1=t->A e.1=B e.1):dq g0 A acc t=dq g0 B acc t:=by
 induction acc with
 | nil=>rfl
 | cons e acc aM =>
  grind [dq]
theorem EM {listed:Array Bool}{k j:Nat}(hk:k<listed.size):ek (listed.setIfInBounds k true) j=if j=k then true else ek listed j:=by
 by_cases gI:j=k
 all_goals simp_all [ek,Ne.symm]
theorem abx {g0:aL}{i j:Nat}{acc U dB:Acc}(ax:iG P N ops bj g0 i dB j acc) (bI:nr P N ops bj g0 i dB) {A S:Nat->Bool}(fl:U=acc.filter λe=>!A e.1) (V4:∀ e∈acc,A e.1=true->S e.1=true):dq g0 S acc=dq (dq g0 A acc) S U:=by
 subst fl;funext t;by_cases hex:∃ e∈acc,e.2.1=t
 ·obtain ⟨e,he,rfl⟩:=hex;rw [ax.at_mem bI he];by_cases dC:A e.1=true
  ·rw [ni,ax.at_mem bI he,if_pos dC,if_pos (V4 e he dC)];intro b4 h8 h;obtain ⟨h1,af⟩:=List.mem_filter.1 h8;have:=ax.uniq bI h1 he (.inr h)
   grind
  ·rw [LZ (λx J y ao h=>ax.uniq bI (List.mem_filter.1 J).1 (List.mem_filter.1 ao).1 (.inr h)) (List.mem_filter.2 ⟨he,by simpa using dC⟩)]
 grind [ni]
theorem cU.mono {g g':aL}(aQ:∀ t x,g t=some x->g' t=some x) {x:ab}(h:cU g x):cU g' x:=by
 induction h with
 | bq h=>exact .bq h
 | ref J h=>exact .ref J (h.mono aQ)
 | own _ aM=>exact .own aM
 | obj _ aM=>exact .obj aM
 | agg _ aM=>exact .agg aM
 | bS _ aM=>exact .bS aM
 | cF _ _ gj fT=>exact .cF gj fT
 | bM aq _ aM=>exact .bM (aq.mono aQ) aM
theorem Nx {lT g1:aL}{o:Oper}{S:Nat->Bool}{rs:Place->Prop}(h:np P N rs lT o g1) (lC:∀ p,rs p->lT p.root≠none):∀ (U:Acc),(∀ e∈U,∃ x,e.2.2=some x/\wM rs lT g1 o x)->(∀ e∈U,lT e.2.1=none/\g1 e.2.1=none/\o.dst≠some e.2.1)->(U.map (·.2.1)).Nodup->np P N rs (dq lT S U) o (dq g1 S U)
 | [],_,_,_=>h
 | (k,d,r)::U,J,h1,eA=>by
  simp only [List.map_cons,List.nodup_cons] at eA;have aM:=Nx (S:=S) h lC U (λe he=>J e (by simp [he])) (λe he=>h1 e (by simp [he])) eA.2;obtain ⟨x,e,bU⟩:=J (k,d,r) (by simp);simp only at e;subst e;obtain ⟨aw,a2,a3⟩:=h1 (k,d,some x) (by simp);simp only at aw a2 a3;have rq:∀ e∈U,e.2.1≠d:=λe he aI=>eA.1 (List.mem_map.2 ⟨e,he,aI⟩);cases bg:S k with
  | true =>
   have e:∀ g:aL,dq g S ((k,d,some x)::U)=cT (dq g S U) d x:=λg=>by
    funext t;simp only [dq,cT,bg,if_true];by_cases aR:d=t
    ·rw [if_pos aR,if_pos aR.symm]
    ·rw [if_neg aR,if_neg (Ne.symm aR)]
   rw [e,e];have Gt:∀ r,lT r≠none->∀ e∈U,e.2.1≠r:=λr hr e he aI=>by
    have:=(h1 e (by simp [he])).1;rw [aI] at this;exact hr this
   have Zu:∀ r,g1 r≠none->∀ e∈U,e.2.1≠r:=λr hr e he aI=>by
    have:=(h1 e (by simp [he])).2.1;rw [aI] at this;exact hr this
   refine aM.extra (λr hr=>by rw [ni (Gt r.root (lC r hr))]; exact lC r hr) (by rw [ni rq]; exact aw) (by rw [ni rq]; exact a2) a3 ?_;rcases bU with ⟨r,path,z,n,zc,cs,rfl,gW,ir,lO,E7⟩ | ⟨v,rfl⟩ | ⟨s,p,m,rfl,gW,ir,lO⟩ | ⟨s,m,cs,rfl,gW,ir,lO,cs',E7,Tp⟩ | ⟨z,n,cs,rfl,gW⟩ | ⟨cs,rfl,gW,ir⟩
   ·refine .inl ⟨r,path,z,n,zc,cs,rfl,gW,?_,?_,E7⟩
    ·have:lT r≠none:=lC _ gW;simpa [bH,ni (Gt r this)] using ir
    ·have:g1 r≠none:=λe=>by simp [bH,e] at lO
     simpa [bH,ni (Zu r this)] using lO
   ·exact .inr (.inl ⟨v,rfl⟩)
   ·refine .inr (.inr (.inl ⟨s,p,m,rfl,?_,?_,lO⟩))
    ·rw [ni]; exact gW;intro e he aI;have:=(h1 e (by simp [he])).1;rw [aI,gW] at this; cases this
    ·rw [ni]; exact ir;intro e he aI;have:=(h1 e (by simp [he])).2.1;rw [aI,ir] at this; cases this
   ·refine .inr (.inr (.inr (.inl ⟨s,m,cs,rfl,?_,ir,lO,cs',?_,Tp⟩)))
    ·rw [ni]; exact gW;intro e he aI;have:=(h1 e (by simp [he])).2.1;rw [aI,gW] at this; cases this
    ·rw [ni (Gt s (by rw [E7]; simp))]; exact E7
   ·exact .inr (.inr (.inr (.inr (.inl ⟨z,n,cs,rfl,gW⟩))))
   ·refine .inr (.inr (.inr (.inr (.inr ⟨cs,rfl,gW,?_⟩))));have hle:∀ t y,lT t=some y->dq lT S U t=some y:=λt y ao=>by rw [ni (Gt t (by rw [ao]; simp))]; exact ao
    refine ⟨λt y ao=>?_,λt z q n m new ao=>?_⟩
    ·rcases u7 ao with ⟨b4,h8,_,_,JD⟩ | ⟨_,ao⟩
     ·obtain ⟨y',BV,CQ⟩:=J b4 (by simp [h8]);rw [JD] at BV; cases BV;rcases CQ with ⟨r,path,z,n,zc,cs,rfl,c1,c2,kG,c4⟩ | ⟨v,rfl⟩ | ⟨s,p,m,rfl,c1,_⟩ | ⟨s,m,cs,rfl,_,_,_,cs',c4,jJ⟩ | ⟨z,n,cs,rfl,c1⟩ | ⟨cs,rfl,c1,_⟩
      ·exact .ref rfl (.inl ⟨zc,cs,k7 hle c2,c4⟩)
      ·exact .bq .lit
      ·exact cU.mono hle (ir.b0 s _ c1)
      ·exact .ref rfl ⟨.obj cs',by simp [bH,hle s _ c4,ab.at],0,0,cs',.inr rfl,jJ⟩
      ·exact .bq c1
      ·exact .bq c1.bq
     ·exact cU.mono hle (ir.b0 t y ao)
    ·rcases u7 ao with ⟨b4,h8,_,_,JD⟩ | ⟨_,ao⟩
     ·obtain ⟨y',BV,CQ⟩:=J b4 (by simp [h8]);rw [JD] at BV; cases BV;rcases CQ with ⟨r,path,z,n,zc,cs,h,_⟩ | ⟨v,h⟩ | ⟨s,p,m,h,_⟩ | ⟨s,m,cs,h,_⟩ | ⟨z,n,cs,h,_⟩ | ⟨cs,h,_⟩ <;> cases h
     ·exact ir.fE _ _ _ _ _ _ ao
  | false =>
   have e:∀ g:aL,g d=none->dq g S ((k,d,some x)::U)=dq g S U:=λg aQ=>by
    funext t;simp only [dq,bg];by_cases aR:d=t
    ·subst aR; rw [if_pos rfl,ni rq,aQ]; rfl
    ·rw [if_neg aR]
   rw [e lT aw,e g1 a2];exact aM
theorem QC (dC:qk ops bj=true) {g0:aL}{i j:Nat}{acc dB:Acc}(ax:iG P N ops bj g0 i dB j acc) (bI:nr P N ops bj g0 i dB) (gT:(acc.filterMap lp).Nodup) (fN:∀ t z q n m new,g0 t≠some (.bM z q n m new)) {listed:Array Bool}(fA:listed.size=ops.size) (aR:Down bj listed)
  {a:Act}{w:World}{I:a'}{Fs:Nat->a'}(bg:cB w I a.tmps (dq g0 (ek listed) acc) Fs) (bt:a.tmps.size=N.size) {e:Nat × Nat × Option ab}(he:e∈acc) (hk:e.1∈Region.ready .any ops listed) {K:Act->World->Prop}{Q:Exit->Act->World->Prop}
  (c6:∀ cd w' I' bW,cd.defers=a.defers->ib N a.tmps cd.tmps->cB w' I' cd.tmps (dq g0 (ek (listed.setIfInBounds e.1 true)) acc) bW->k4 w I (λc=>∃ t,Fs t c) w' I' (λc=>∃ t,bW t c)->K cd w'):wpOp P ops Q e.1 K a w:=by
 obtain ⟨du,l5,xD,_⟩:=yy hk;have zQ:=(Array.getElem?_eq_some_iff.1 xD).1;have Ci:=Lu dC aR hk;obtain ⟨o,EZ,aW,xC,ku,bU,hD⟩:=ax.get bI e he;obtain ⟨k,d,r⟩:=e;simp only at *;have hle:oV (dq g0 (λm=>(bj.getD k []).contains m) EZ) (dq g0 (ek listed) acc):=by
  intro t x J;rcases u7 J with ⟨e,he,rfl,Fu,hex⟩ | ⟨rq,aQ⟩
  ·rw [ax.at_mem bI (hD e he),Ci e.1 (by simpa using Fu)];exact hex
  ·rw [ni λe he aeV=>?_]
   ·exact aQ
   ·have:=ax.fresh bI e he
    grind
 have eL:∀ z p n m new,r=some (.bM z p n m new)->∀ t bR cq m' cN,dq g0 (ek listed) acc t≠some (.bM bR p cq m' cN):=by
  intro z p n m new hr t bR cq m' cN au;rcases u7 au with ⟨e,h8,_,Fu,hex⟩ | ⟨_,aQ⟩
  ·obtain ⟨kd,Nl,c'⟩:=e;have:=ZL gT (p:=p) he h8 (by rw [hr]; rfl) (by simp only at hex; rw [hex]; rfl)
   grind
  grind
 have CQ:=bU.mono hle eL;have tg:dq g0 (ek listed) acc d=none:=by
  have:=ax.at_mem bI (A:=ek listed) he
  grind
 unfold wpOp;simp only [aW];refine CQ.sound bg rfl bt xC tg ku λcd w' aB=>?_;obtain ⟨ca,b6,I',bW,dZ,o'⟩:=aB;have fM:∀ j,ek (listed.setIfInBounds k true) j=if j=k then true else ek listed j:=λj=>EM (by omega)
 have df:dq g0 (ek (listed.setIfInBounds k true)) acc=yw (dq g0 (ek listed) acc) d r:=by
  funext t;by_cases vO:t=d
  ·subst vO;have h1:=ax.at_mem bI (A:=ek (listed.setIfInBounds k true)) he;simp only [fM k,if_true] at h1;rw [h1];cases r with
   | none=>simp only [yw]; exact tg.symm
   | some x=>simp [yw,cT]
  ·have h1:dq g0 (ek (listed.setIfInBounds k true)) acc t=dq g0 (ek listed) acc t:=Ep λe h8 het=>by
    rw [fM e.1,if_neg];intro Xl;have:=ax.uniq bI h8 he (.inl Xl)
    grind
   rw [h1];cases r with
   | none=>rfl
   | some x=>simp [yw,cT,vO]
 grind
theorem IA (dC:qk ops bj=true) {listed:Array Bool}(fA:listed.size=ops.size) (aR:Down bj listed) {k:Nat}(hk:k∈Region.ready .any ops listed):Down bj (listed.setIfInBounds k true):=by
 obtain ⟨du,l5,xD,_⟩:=yy hk;have zQ:=(Array.getElem?_eq_some_iff.1 xD).1;have Ci:=Lu dC aR hk;have fM:∀ q,ek (listed.setIfInBounds k true) q=if q=k then true else ek listed q:=λq=>EM (by omega)
 intro m hm q a_;rw [fM] at hm ⊢;split
 ·rfl
 ·split at hm
  ·grind
  ·exact aR m hm q a_
theorem iG.entry {g0:aL}{i j:Nat}{acc dB:Acc}(ax:iG P N ops bj g0 i dB j acc) {listed:Array Bool}(aN:∀ k,k<i->(∀ e∈dB,e.1≠k)->ek listed k=true) {k:Nat}(FE:k<j) (du:ek listed k=false):∃ e∈acc,e.1=k:=by
 rcases Nat.lt_or_ge k i with h | h
 ·rcases Classical.em (∃ e∈dB,e.1=k) with ⟨e,he,aI⟩ | aI
  ·exact ⟨e,ax.LR e he,aI⟩
  grind
 ·exact ax.has k h FE
theorem sZ.sound (dC:qk ops bj=true) {i:Nat}{dB:Acc}{g g':aL}(h:sZ P N ops bj i dB g g'):nr P N ops bj g i dB->∀ {Q:Exit->Act->World->Prop}(fuel:Nat) (listed:Array Bool) (a:Act) (w:World) (I:a') (Fs:Nat->a'),vm ops listed<=fuel->listed.size=ops.size->(∀ k,k<i->(∀ e∈dB,e.1≠k)->ek listed k=true)->(∀ k,i<=k->ek listed k=false)->Down bj listed ->
  cB w I a.tmps (dq g (ek listed) dB) Fs->a.tmps.size=N.size->(∀ cd w',kh N a w I Fs g' cd w'->Q .normal cd w')->wpAny P .any ops Q fuel listed a w:=by
 have start:∀ {g:aL}{i j:Nat}{acc dB:Acc}{listed:Array Bool},iG P N ops bj g i dB j acc->nr P N ops bj g i dB->(∀ k,i<=k->ek listed k=false)->dq g (ek listed) acc=dq g (ek listed) dB:=by
  intro g i j acc dB listed ax bI dH;funext t;by_cases hex:∃ e∈acc,e.2.1=t
  ·obtain ⟨e,he,rfl⟩:=hex;rw [ax.at_mem bI he];rcases ax.ge bI e he with h | h
   ·rw [LZ (λx J y ao aI=>bI.RF x J y ao (.inr aI)) h]
   ·rw [dH e.1 h];by_cases OC:∃ b4∈dB,b4.2.1=e.2.1
    ·obtain ⟨b4,h8,aI⟩:=OC;have:=ax.uniq bI (ax.LR b4 h8) he (.inr aI);subst this;have:=bI.lt b4 h8;omega
    ·rw [ni λb4 h8 aI=>OC ⟨b4,h8,aI⟩,ax.fresh bI e he]; rfl
  ·rw [ni λe he h=>hex ⟨e,he,h⟩,ni λe he h=>hex ⟨e,ax.LR e he,h⟩]
 induction h with
 | @fin i dB g acc ax gT fN =>
  intro bI Q fuel listed a w I Fs aa fA aN dH aR bg bt eu;rw [<- start ax bI dH] at bg;clear dH;revert listed a w I Fs
  induction fuel with
  | zero =>
   intro listed a w I Fs aa fA aN aR bg bt eu;have hn:∀ k,k<ops.size->ek listed k=true:=λk hk=>by
    cases ah:ek listed k with
    | true=>rfl
    | false=>have:=Fc (ops:=ops) (listed:=listed) (k:=k) hk ah fA; omega
   refine wpAny_done ?_ (eu _ _ ⟨rfl,ib.refl,I,Fs,?_,k4.refl _ _ _⟩) 0
   ·cases hr:Region.ready .any ops listed with
    | nil=>rfl
    | cons k l =>
     have hk:k∈Region.ready .any ops listed:=by rw [hr]; simp
     obtain ⟨du,o,aW,_⟩:=yy hk
     grind
   ·have:dq g (ek listed) acc=dq g (λ_=>true) acc:=funext λt=>Ep λe he _=>hn e.1 ((ax.le bI).2 e he)
    grind
  | succ fuel aM =>
   intro listed a w I Fs aa fA aN aR bg bt eu;by_cases hn:∀ k,k<ops.size->ek listed k=true
   ·refine wpAny_done ?_ (eu _ _ ⟨rfl,ib.refl,I,Fs,?_,k4.refl _ _ _⟩) _
    ·cases hr:Region.ready .any ops listed with
     | nil=>rfl
     | cons k l =>
      have hk:k∈Region.ready .any ops listed:=by rw [hr]; simp
      obtain ⟨du,o,aW,_⟩:=yy hk
      grind
    ·have:dq g (ek listed) acc=dq g (λ_=>true) acc:=funext λt=>Ep λe he _=>hn e.1 ((ax.le bI).2 e he)
     grind
   ·obtain ⟨k0,nB⟩:=Classical.not_forall.1 hn;obtain ⟨Xx,Xy⟩:=Classical.not_imp.1 nB;refine ⟨λhr=>absurd hr (QF dC fA k0 Xx (by simpa using Xy)),λk hk=>?_⟩;obtain ⟨du,l5,xD,_⟩:=yy hk;have zQ:=(Array.getElem?_eq_some_iff.1 xD).1;obtain ⟨e,he,rfl⟩:=ax.entry aN zQ du;have W':=Fc (ops:=ops) (listed:=listed) (k:=e.1) zQ du fA;refine QC dC ax bI gT fN fA aR bg bt he hk λcd w' I' bW ca b6 dZ o'=>?_;refine aM _ cd w' I' bW (by omega) (by simpa using fA) (λm hm cQ=>?_) (IA dC fA aR hk) dZ (b6.1.trans bt) λa2 hz af=>eu _ _ (kh.trans ca b6 o' af)
    grind [EM]
 | @Bz i j g g1 g' dB acc U o rs ax gT fN aW hw he lC fl J h1 af ar _ YP =>
  intro bI Q fuel listed a w I Fs aa fA aN dH aR bg bt eu;have FD:j<ops.size:=(Array.getElem?_eq_some_iff.1 aW).1;have xo:∀ k,j<k->k<ops.size->j∈bj.getD k []:=λk hk zQ=>by
   grind
  have Cz:∀ e∈U,e∈acc/\(bj.getD j []).contains e.1=false:=λe he=>by
   grind
  have eA:(U.map (·.2.1)).Nodup:=by
   rw [fl];exact (List.filter_sublist.map _).nodup (ax.nodup bI)
  have Xo:∀ e∈U,dq g (λm=>(bj.getD j []).contains m) acc e.2.1=none:=λe he=>by
   rw [ax.at_mem bI (Cz e he).1,(Cz e he).2];rfl
  have B9:nr P N ops bj g1 (j+1) U:=⟨λe he=>by have:=(ax.le bI).2 e (Cz e he).1; omega,λe he=>(h1 e he).1,eA,λe he b4 h8 h=>ax.uniq bI (Cz e he).1 (Cz b4 h8).1 h,af⟩;have aeZ:∀ k,j<=k->ek listed k=false:=λk hk=>dH k (Nat.le_trans (ax.le bI).1 hk);rw [<- start ax bI dH] at bg;clear dH;revert listed a w I Fs
  induction fuel with
  | zero =>
   intro listed a w I Fs aa fA aN aR bg bt eu dH;have:=Fc (ops:=ops) (listed:=listed) (k:=j) FD (dH j (Nat.le_refl _)) fA;omega
  | succ fuel YO =>
   intro listed a w I Fs aa fA aN aR bg bt eu dH;have ez:=dH j (Nat.le_refl _);refine ⟨λhr=>absurd hr (QF dC fA j FD ez),λk hk=>?_⟩;obtain ⟨du,l5,xD,_⟩:=yy hk;have zQ:=(Array.getElem?_eq_some_iff.1 xD).1;have Ci:=Lu dC aR hk;have fM:∀ q,ek (listed.setIfInBounds k true) q=if q=k then true else ek listed q:=λq=>EM (by omega)
   have W':=Fc (ops:=ops) (listed:=listed) (k:=k) (by omega) du fA;rcases Nat.lt_trichotomy k j with FE | rfl | FE
   ·obtain ⟨e,OB,rfl⟩:=ax.entry aN FE du;refine QC dC ax bI gT fN fA aR bg bt OB hk λcd w' I' bW ca b6 dZ o'=>?_;refine YO _ cd w' I' bW (by omega) (by simpa using fA) (λm hm cQ=>?_) (IA dC fA aR hk) dZ (b6.1.trans bt) (λa2 hz af=>eu _ _ (kh.trans ca b6 o' af)) λm hm=>?_
    ·grind
    grind
   ·have Vm:=abx (A:=λm=>(bj.getD k []).contains m) (S:=ek listed) ax bI fl λe he dC=>Ci e.1 (by simpa using dC);have XV:∀ r:Place,rs r->dq g (λm=>(bj.getD k []).contains m) acc r.root≠none:=λr hr=>by
     rw [ni]
     ·grind
     ·intro e he aI;have:=ax.fresh bI e he
      grind
    have Xk:=Nx (S:=ek listed) he XV U J (λe he=>⟨Xo e he,h1 e he⟩) eA;have hle:oV (dq g (λm=>(bj.getD k []).contains m) acc) (dq g (ek listed) acc):=by
     intro t x J;rcases u7 J with ⟨e,he,rfl,Fu,hex⟩ | ⟨rq,aQ⟩
     ·rw [ax.at_mem bI he,Ci e.1 (by simpa using Fu)]; exact hex
     grind [ni]
    unfold wpOp;simp only [aW,(iH.mono hle hw).sound bg,if_true];refine .inl (Xk w I a.tmps Fs (by rw [<- Vm]; exact bg) a rfl bt _ _ λcd w' aB _ _=>?_);obtain ⟨ca,b6,I',bW,dZ,o'⟩:=aB;refine YP B9 fuel (listed.setIfInBounds k true) cd w' I' bW (by omega) (by simpa using fA) (λm hm cQ=>?_) (λm hm=>?_) (IA dC fA aR hk) ?_ (b6.1.trans bt) λa2 hz af=>eu _ _ (kh.trans ca b6 o' af)
    ·rw [fM];split
     ·rfl
     ·rename_i afb;cases vJ:ek listed m with
      | true=>rfl
      | false =>
       exfalso;obtain ⟨e,OB,rfl⟩:=ax.entry aN (show m<k by omega) vJ
       grind
    ·grind
    ·have:dq g1 (ek (listed.setIfInBounds k true)) U=dq g1 (ek listed) U:=funext λt=>Ep λe he _=>by
      grind
     grind
   grind
end
section
variable {P:Program}{N:cP}
def lK (P:Program) (N:cP) (c:Code) (g:aL) (e:Exit) (g':aL):Prop :=
 ∀ ⦃Q:Exit->Act->World->Prop⦄ ⦃a:Act⦄ ⦃w:World⦄ ⦃I:a'⦄ ⦃Fs:Nat->a'⦄,cB w I a.tmps g Fs->a.tmps.size=N.size->(∀ cd w',kh N a w I Fs g' cd w'->Q e cd w')->c.wp P Q a w
theorem lK.skip {g:aL}:lK P N .skip g .normal g:=λ_ _ _ _ _ bg _ eu=>wp_skip (eu _ _ ⟨rfl,ib.refl,_,_,bg,k4.refl _ _ _⟩)
theorem lK.ret {g:aL}:lK P N .ret g .ret g:=λ_ _ _ _ _ bg _ eu=>wp_ret (eu _ _ ⟨rfl,ib.refl,_,_,bg,k4.refl _ _ _⟩)
theorem lK.exit {g:aL}{id:Nat}:lK P N (.exit id) g (.exit id) g:=λ_ _ _ _ _ bg _ eu=>wp_exit (eu _ _ ⟨rfl,ib.refl,_,_,bg,k4.refl _ _ _⟩)
def HH (P:Program) (c:Code) (Q:Exit->Act->World->Prop) (a:Act) (w:World):Prop :=
 ∀ (b:Frame) (k:List Item) (cs:List Frame),∃ e cd w',Q e cd w'/\Arrives P (lone (b.at a (.code c::.inLoop c::k)) cs w) b k cs e cd w'
theorem Y6 {c:Code}{Q:Exit->Act->World->Prop}{a:Act}{w:World}(h:c.wp P (Exit.then (HH P c Q) Q) a w):HH P c Q a w:=by
 intro b k cs;obtain ⟨e,By,Ev,a_,la⟩:=h b (.inLoop c::k) cs;cases e with
 | normal =>
  obtain ⟨Vn,To,abX,XS,WH⟩:=a_ b k cs;exact ⟨Vn,To,abX,XS,.of_steps (Steps.trans la (.one step_inLoop)) WH⟩
 | exit id=>exact ⟨_,By,Ev,a_,.pass (x:=.inLoop c) rfl (λ_ _=>.inl (by simp)) la⟩
 | goto l=>exact ⟨_,By,Ev,a_,.pass (x:=.inLoop c) rfl (λ_ _=>.inl (by simp)) la⟩
 | ret=>exact ⟨_,By,Ev,a_,.pass (x:=.inLoop c) rfl (λ_ _=>.inl (by simp)) la⟩
 | panic bZ=>exact ⟨_,By,Ev,a_,.pass (x:=.inLoop c) rfl (λ_ _=>.inl (by simp)) la⟩
 | outgrown=>exact ⟨_,By,Ev,a_,.pass (x:=.inLoop c) rfl (λ_ _=>.inl (by simp)) la⟩
theorem lK.region {id:Nat}{ops:Array Oper}{g g':aL}(h:oY P N ops (List.range ops.size) g g'):lK P N (.region id ops false) g .normal g' :=
 λ_ _ _ _ _ bg bt eu=>wp_region (h.sound bg bt eu)
theorem lK.draw {id:Nat}{ops:Array Oper}{bj:List (List Nat)}{g g':aL}(hm:P.follows .mixedOrders=true) (dC:qk ops bj=true) (h:sZ P N ops bj 0 [] g g'):lK P N (.region id ops true) g .normal g':=by
 intro Q a w I Fs bg bt eu;refine wp_region_any hm ?_;have dZ:cB w.drew I a.tmps g Fs:=bg.world (λ_ _ _=>rfl) (λ_ _=>rfl) (Nat.le_refl _);have hn:∀ k,ek (Array.replicate ops.size false) k=false:=by
  intro k;unfold ek;rcases Nat.lt_or_ge k ops.size with h | h
  ·simp [h]
  grind
 refine h.sound dC .nil ops.size (Array.replicate ops.size false) a w.drew I Fs ?_ (by simp) (λk hk=>by omega) (λk _=>hn k) (λk hk=>by rw [hn] at hk; cases hk) dZ bt λcd w' aB=>eu _ _ ?_
 ·grind [vm]
 ·obtain ⟨ca,b6,I',bW,iw,bU⟩:=aB;exact ⟨ca,b6,I',bW,iw,⟨⟨bU.dN.os,bU.dN.tape,bU.dN.output,bU.dN.size,bU.dN.block,bU.dN.dP,Nat.le_trans (Nat.le_succ _) bU.dN.zB⟩,bU.more,bU.new,bU.own⟩⟩
inductive nS:ab->ab->Prop
 | refl {x:ab}:nS x x
 | dead {x:ab}(h:j5 x\/cE x):nS x .dead
 | p1 {z:Nat}:nS .aP (.own z 0 [])
 | p0 {z:Nat}:nS .aP (.bc z 0 [])
 | obj {cs cs':List ab}(ah:cs'.length=cs.length) (h:∀ (k:Nat) (x y:ab),cs[k]?=some x->cs'[k]?=some y->nS x y):nS (.obj cs) (.obj cs')
 | own {z n:Nat}{cs cs':List ab}(ah:cs'.length=cs.length) (h:∀ (k:Nat) (x y:ab),cs[k]?=some x->cs'[k]?=some y->nS x y):nS (.own z n cs) (.own z n cs')
theorem nS.jz {x y:ab}{j:Nat × Nat}(h:nS x y) (e:y=.self j):x=.self j:=by
 cases h <;> first | exact e | cases e
theorem R.e7 {w:World}{I:a'}{ρ:ab->Value->Prop}{x x':ab}(h:nS x x'):∀ {v:Value}{F:a'},R w I ρ x v F->∃ cS,R w I ρ x' v cS/\∀ c,cS c->F c:=by
 induction h with
 | refl=>exact λa1=>⟨_,a1,λ_ h=>h⟩
 | dead=>exact λa1=>⟨ck,.dead λ_ h=>h,λ_ h=>h.elim⟩
 | p1 =>
  intro v F a1;rw [a1.rD];exact ⟨ck,.own (e:=0) (us:=[]) (Fs:=λ_=>ck) ⟨by simp,.inl ⟨rfl,rfl⟩⟩ rfl (by simp) (by simp) (λ_ _ _ _ _ h=>h.elim) (λ_ _ _ h=>h.elim) λc=>⟨λh=>h.elim,λh=>h.elim (λh=>by simp [Value.ownBlock] at h) λ⟨_,_,h⟩=>h⟩,λ_ h=>h.elim⟩
 | p0=>intro v F a1; rw [a1.rD]; exact ⟨ck,.gM λ_ h=>h,λ_ h=>h.elim⟩
 | @obj cs cs' ah sx aM =>
  intro v F a1;cases a1 with
  | ref J=>simp [ab.isRef] at J
  | @obj _ b e arr bG _ aW hP h1 hr aR ar aH ax =>
   have:∀ k,∃ tM:a',k<cs.length->(∀ (x:ab) (u:Value),cs'[k]?=some x->arr[k]?=some u->R w I ρ x u tM)/\∀ c,tM c->bG k c:=by
    intro k;by_cases hk:k<cs.length
    ·have J:=List.getElem?_eq_getElem hk;have ao:cs'[k]?=some (cs'[k]'(by omega)):=List.getElem?_eq_getElem (by omega);have hu:arr[k]?=some (arr[k]'(by omega)):=Array.getElem?_eq_getElem (by omega);obtain ⟨cS,h1,af⟩:=aM k _ _ J ao (hr k _ _ J hu);refine ⟨cS,λ_=>⟨λx u e' hX=>?_,af⟩⟩;rw [ao] at e'; rw [hu] at hX;cases e'; cases hX;exact h1
    ·exact ⟨ck,λh=>absurd h hk⟩
   obtain ⟨tM,si⟩:=Classical.axiomOfChoice this;refine ⟨_,.obj (Fs:=tM) aW (by omega) h1 (λk x u J hu=>(si k (by rw [<- ah]; exact (List.getElem?_eq_some_iff.1 J).1)).1 x u J hu) (λj k c ag hk h aI=>aR j k c (by omega) (by omega) ((si j (by omega)).2 c h) ((si k (by omega)).2 c aI)) (λk hk h=>ar k (by omega) ((si k (by omega)).2 b h)) (λc=>Iff.rfl) (λk j u hk=>ax k j u (Gn ah sx (λ_ _ _=>nS.jz) k j hk)),λc aa=>?_⟩;rcases aa with rfl | ⟨k,hk,h⟩
   ·exact (aH _).2 (.inl rfl)
   ·exact (aH c).2 (.inr ⟨k,by omega,(si k (by omega)).2 c h⟩)
 | @own z n cs cs' ah _ aM =>
  intro v F a1;cases a1 with
  | ref J=>simp [ab.isRef] at J
  | @own _ _ _ _ e us bG _ aW hP h1 hr aR ar aH =>
   have:∀ k,∃ tM:a',k<cs.length->(∀ (x:ab) (u:Value),cs'[k]?=some x->us[k]?=some u->R w I ρ x u tM)/\∀ c,tM c->bG k c:=by
    intro k;by_cases hk:k<cs.length
    ·have J:=List.getElem?_eq_getElem hk;have ao:cs'[k]?=some (cs'[k]'(by omega)):=List.getElem?_eq_getElem (by omega);have hu:us[k]?=some (us[k]'(by omega)):=List.getElem?_eq_getElem (by omega);obtain ⟨cS,h1,af⟩:=aM k _ _ J ao (hr k _ _ J hu);refine ⟨cS,λ_=>⟨λx u e' hX=>?_,af⟩⟩;rw [ao] at e'; rw [hu] at hX;cases e'; cases hX;exact h1
    ·exact ⟨ck,λh=>absurd h hk⟩
   obtain ⟨tM,si⟩:=Classical.axiomOfChoice this;refine ⟨_,.own (Fs:=tM) aW (by omega) h1 (λk x u J hu=>(si k (by rw [<- ah]; exact (List.getElem?_eq_some_iff.1 J).1)).1 x u J hu) (λj k c ag hk h aI=>aR j k c (by omega) (by omega) ((si j (by omega)).2 c h) ((si k (by omega)).2 c aI)) (λk c hk h=>ar k c (by omega) ((si k (by omega)).2 c h)) (λc=>Iff.rfl),λc aa=>?_⟩;rcases aa with aa | ⟨k,hk,h⟩
   ·exact (aH _).2 (.inl aa)
   ·exact (aH c).2 (.inr ⟨k,by omega,(si k (by omega)).2 c h⟩)
structure nu (g1 g2:aL):Prop where
 sub:∀ t x,g2 t=some x->∃ y,g1 t=some y/\nS y x
 b0:∀ t x,g2 t=some x->cU g2 x
 fE:∀ t z q n m new,g2 t≠some (.bM z q n m new)
theorem cB.e7 {w:World}{I:a'}{T:Array Value}{g1 g2:aL}{Fs:Nat->a'}(h:cB w I T g1 Fs) (hk:nu g1 g2):∃ bW,cB w I T g2 bW/\∀ t c,bW t c->Fs t c:=by
 have:∀ t,∃ cS:a',(∀ x,g2 t=some x->∃ v,T[t]?=some v/\R w I (dy w T g2) x v cS)/\(∀ c,cS c->Fs t c)/\(g2 t=none->∀ c,¬ cS c):=by
  intro t;cases J:g2 t with
  | none=>exact ⟨ck,by simp,λ_ h=>h.elim,λ_ _ h=>h⟩
  | some x =>
   obtain ⟨y,ao,hw⟩:=hk.sub t x J;obtain ⟨v,hv,a1⟩:=h.nh.rel t y ao;have lA:∀ z q n m new,y≠.bM z q n m new:=by
    rintro z q n m new rfl;cases hw with
    | refl=>exact hk.fE _ _ _ _ _ _ J
    | dead bQ=>rcases bQ with bQ | bQ <;> cases bQ
   obtain ⟨cS,iJ,oC⟩:=R.e7 hw (a1.gu lA);exact ⟨cS,λx' e'=>by cases e'; exact ⟨v,hv,iJ.b0 (hk.b0 t x J)⟩,oC,by simp⟩
 obtain ⟨bW,pM⟩:=Classical.axiomOfChoice this;refine ⟨bW,⟨λt x J=>?_,λt au=>(pM t).2.2 au,λt t' c h1 af=>h.ea _ _ _ ((pM t).2.1 c h1) ((pM t').2.1 c af),λt c aa=>h.bc _ _ ((pM t).2.1 c aa),h.lt,λt t' z p n m new _ _ _ _ h1=>absurd h1 (hk.fE _ _ _ _ _ _),h.hR⟩,λt=>(pM t).2.1⟩;obtain ⟨v,hv,a1⟩:=(pM t).1 x J;exact ⟨v,hv,.tree a1⟩
end
inductive Br (P:Program) (g:aL):ResultVar->ab->Prop
 | tmp {t:Nat}{y:ab}(h:bw g (.tmp t)=some y):Br P g (.tmp t) y
 | cell {a:Nat}{t ty:TypeId}{y:ab}(h:dh P g (.load t (.tmp a)) ty y):Br P g (.cell a t) y
inductive tU (P:Program) (g:aL):List ResultVar->List ab->Prop
 | nil:tU P g [] []
 | cons {r:ResultVar}{rs:List ResultVar}{y:ab}{ys:List ab}(h:Br P g r y) (au:tU P g rs ys):tU P g (r::rs) (y::ys)
def p4:List ab->ab
 | [x]=>x
 | l=>.bS l
def yz:List Value->Value
 | [x]=>x
 | l=>.tuple l.toArray
def wu (tmps:Array Value):ResultVar->Sem Value
 | .tmp t=>pure (tmps.getD t undef)
 | .cell a t=>do loadVar t (<- asAddr (tmps.getD a undef))
section
variable {P:Program}{w:World}{I:a'}{g:aL}{Fs:Nat->a'}
theorem Br.run {a:Act}(h:cB w I a.tmps g Fs) {r:ResultVar}{y:ab}(hr:Br P g r y):∃ v,(wu a.tmps r).run P w=.ok v w/\R w I (dy w a.tmps g) y v ck:=by
 cases hr with
 | @tmp t y h1=>exact ⟨_,rfl,ke h h1 rfl⟩
 | @cell a0 t ty y h1 =>
  obtain ⟨v, hv, a1⟩ := dh.sound h rfl (o := { dst := none, op := .load t (.tmp a0), type := ty, pos := "", after := #[], guard := none }) h1;refine ⟨v,?_,a1⟩;have he:a.eval (.tmp a0)=a.tmps.getD a0 undef:=rfl;simp only [execOp,he] at hv;cases aa:a.tmps.getD a0 undef with
  | pointer ad =>
   cases ad with
   | some ad =>
    rw [aa] at hv;simp only [Instr.loadAt,Instr.sureAddr] at hv;simp only [wu,aa,asAddr];have aq:(pure ad >>= λx=>loadVar t x:Sem Value)=loadVar t ad:=by simp
    rw [aq];revert hv;generalize a_:loadVar t ad=q;intro hv;simp [a_] at hv;cases FM:q.run P w with
    | ok x hz=>rw [FM] at hv; simp at hv; rw [hv.1,hv.2]
    | halt e hz=>rw [FM] at hv; simp at hv
   | none=>rw [aa] at hv; simp [Instr.loadAt,Instr.sureAddr] at hv
  | _=>rw [aa] at hv; simp [Instr.loadAt,Instr.sureAddr] at hv
theorem QV {f:ResultVar->Sem Value}:∀ (l:List ResultVar) (vs:List Value),l.length=vs.length->(∀ (k:Nat) (r:ResultVar) (v:Value),l[k]?=some r->vs[k]?=some v->(f r).run P w=.ok v w)->(l.mapM f).run P w=.ok vs w
 | [],[],_,_=>rfl
 | r::l,v::vs,ah,h=>by
  have aK:=h 0 r v rfl rfl;have h1:=QV l vs (by simpa using ah) λk r v hr hv=>h (k+1) r v (by simpa using hr) (by simpa using hv);simp [List.mapM_cons,aK,h1]
 | [],_::_,ah,_=>by simp at ah
 | _::_,[],ah,_=>by simp at ah
theorem aau {fn:Func}{tmps:Array Value}{vs:List Value}(ah:fn.results.toList.length=vs.length) (h:∀ (k:Nat) (r:ResultVar) (v:Value),fn.results.toList[k]?=some r->vs[k]?=some v->(wu tmps r).run P w=.ok v w):(results fn tmps).run P w=.ok (yz vs) w:=by
 have h1:=QV fn.results.toList vs ah h;have af:fn.results.mapM (wu tmps)=List.toArray <$> fn.results.toList.mapM (wu tmps):=Array.mapM_eq_mapM_toList;have aF:(fn.results.mapM (wu tmps)).run P w=.ok vs.toArray w:=by rw [af]; simp [h1]
 have bh:results fn tmps=(do let vs <- fn.results.mapM (wu tmps); pure (if h:vs.size=1 then vs[0] else .tuple vs)):=by
  unfold results;congr 1
 rw [bh];simp only [Sem.run_bind,aF]
 match vs with
 | []=>rfl
 | [x]=>rfl
 | x::y::l=>simp [yz]
theorem tU.length {g:aL}{rs:List ResultVar}{ys:List ab}(h:tU P g rs ys):rs.length=ys.length:=by
 induction h with
 | nil=>rfl
 | cons _ _ aM=>simp [aM]
theorem tU.run {a:Act}(h:cB w I a.tmps g Fs) {rs:List ResultVar}{ys:List ab}(hr:tU P g rs ys):∃ vs:List Value,rs.length=vs.length/\(∀ (k:Nat) (r:ResultVar) (v:Value),rs[k]?=some r->vs[k]?=some v->(wu a.tmps r).run P w=.ok v w) /\
  ∀ (k:Nat) (y:ab) (v:Value),ys[k]?=some y->vs[k]?=some v->R w I (dy w a.tmps g) y v ck:=by
 induction hr with
 | nil=>exact ⟨[],rfl,by simp,by simp⟩
 | cons h1 _ aM =>
  obtain ⟨v,hv,a1⟩:=h1.run h;obtain ⟨vs,ah,af,aF⟩:=aM;refine ⟨v::vs,by simp [ah],λk r u hr hu=>?_,λk y u ao hu=>?_⟩
  ·cases k with
   | zero=>simp at hr hu; subst hr hu; exact hv
   | succ k=>exact af k r u (by simpa using hr) (by simpa using hu)
  ·cases k with
   | zero=>simp at ao hu; subst ao hu; exact a1
   | succ k=>exact aF k y u (by simpa using ao) (by simpa using hu)
theorem Hand.p4 {ρ:ab->Value->Prop}{Fs:Nat->a'}{xs:List ab}{vs:List Value}{dj:Nat->a'}(h:Hand w I ρ Fs xs vs dj) (aB:∀ x∈xs,cE x) (ρ':ab->Value->Prop):R w I ρ' (p4 xs) (yz vs) (λc=>∃ k,k<xs.length/\dj k c)/\cE (p4 xs):=by
 have bS:R w I ρ' (.bS xs) (.tuple vs.toArray) (λc=>∃ k,k<xs.length/\dj k c) :=
  .bS (by simpa using h.len) (λk x u J hu=>(h.rel k x u J (by simpa using hu)).bq (aB x (List.mem_of_getElem? J))) h.ea λc=>Iff.rfl
 match xs,vs,h,aB,bS with
 | [],[],_,_,bS=>exact ⟨bS,.bS (by simp)⟩
 | [x],[v],h,aB,_ =>
  refine ⟨((h.rel 0 x v rfl rfl).bq (aB x (by simp))).zy λc=>⟨λaa=>⟨0,by simp,aa⟩,λ⟨k,hk,aa⟩=>?_⟩,aB x (by simp)⟩;have:k=0:=by simpa using hk
  subst this; exact aa
 | x::y::l,v::u::m,_,aB,bS=>exact ⟨bS,.bS aB⟩
 | [],_::_,h,_,_=>have:=h.len; simp at this
 | _::_,[],h,_,_=>have:=h.len; simp at this
 | [_],_::_::_,h,_,_=>have:=h.len; simp at this
 | _::_::_,[_],h,_,_=>have:=h.len; simp at this
structure Leaves (P:Program) (N:cP) (rs:List ResultVar) (g':aL) (n:Nat) (outs:List (Option ab)) (res:ab):Prop where
 ex:∃ ys xs g1,tU P g' rs ys/\Take g' ys xs g1/\res=p4 xs/\∀ (k:Nat) (x:ab),outs[k]?=some (some x)->g1 k=some x/\cE x/\k∈N.pins
 len:outs.length=n
theorem cB.more {T:Array Value}(h:cB w I T g Fs) {T':Array Value}(cV:∀ t,g t≠none->T'[t]?=T[t]?):cB w I T' g Fs:=by
 refine ⟨λt x J=>?_,h.ln,h.ea,h.bc,h.lt,h.rR,h.hR⟩;obtain ⟨u,hu,a1⟩:=h.rel t x J;exact ⟨u,by rw [cV t (by rw [J]; simp)]; exact hu,h.xa cV (λ_ _ _=>rfl) (λ_ _=>rfl) (λ_ h=>h) (λ_ _ h=>h) a1 λ_ _=>rfl⟩
end
section
variable {P:Program}{N:cP}
def W (P:Program) (N:cP) (c:Code) (g:aL) (Φ:Exit->aL->Prop):Prop :=
 ∀ ⦃Q:Exit->Act->World->Prop⦄ ⦃a:Act⦄ ⦃w:World⦄ ⦃I:a'⦄ ⦃Fs:Nat->a'⦄,cB w I a.tmps g Fs->a.tmps.size=N.size->(∀ e g' cd w',Φ e g'->kh N a w I Fs g' cd w'->Q e cd w')->c.wp P Q a w
def pr (Ψ:aL->Prop) (Φ:Exit->aL->Prop):Exit->aL->Prop
 | .normal,g=>Ψ g
 | e,g=>Φ e g
def mr (id:Nat) (Φ:Exit->aL->Prop):Exit->aL->Prop
 | .exit k,g=>if k=id then Φ .normal g else Φ (.exit k) g
 | e,g=>Φ e g
theorem lK.w {c:Code}{g g':aL}{e:Exit}{Φ:Exit->aL->Prop}(h:lK P N c g e g') (qH:Φ e g'):W P N c g Φ :=
 λ_ _ _ _ _ bg bt eu=>h bg bt λcd w' aB=>eu _ _ cd w' qH aB
theorem W.mono {c:Code}{g:aL}{Φ q0:Exit->aL->Prop}(h:W P N c g Φ) (qH:∀ e g',Φ e g'->q0 e g'):W P N c g q0 :=
 λ_ _ _ _ _ bg bt eu=>h bg bt λ_ _ cd w' h1 aB=>eu _ _ cd w' (qH _ _ h1) aB
theorem W.skip {g:aL}{Φ:Exit->aL->Prop}(h:Φ .normal g):W P N .skip g Φ:=lK.skip.w h
theorem W.ret {g:aL}{Φ:Exit->aL->Prop}(h:Φ .ret g):W P N .ret g Φ:=lK.ret.w h
theorem W.exit {g:aL}{id:Nat}{Φ:Exit->aL->Prop}(h:Φ (.exit id) g):W P N (.exit id) g Φ:=lK.exit.w h
theorem W.seq {x y:Code}{g:aL}{Φ:Exit->aL->Prop}(h:W P N x g (pr (λg1=>W P N y g1 Φ) Φ)):W P N (.seq x y) g Φ:=by
 intro Q a w I Fs bg bt eu;refine wp_seq (h bg bt λe g1 aw ij h1 aB=>?_);cases e with
 | normal =>
  obtain ⟨ca,b6,I',bW,dZ,bU⟩:=aB;exact h1 dZ (b6.1.trans bt) λud g2 a2 hz af rn=>eu _ _ _ _ af (kh.trans ca b6 bU rn)
 | _=>exact eu _ _ _ _ h1 aB
theorem W.cond {c:Operand}{x y:Code}{g:aL}{Φ:Exit->aL->Prop}{b:Bool}(aa:bw g c=some (.lit (.bool b))) (h:W P N (if b then x else y) g Φ):W P N (.cond c x y) g Φ :=
 λ_ _ _ _ _ bg bt eu=>wp_cond (t:=b) (ke bg aa rfl).hE.1 (h bg bt eu)
theorem W.UQ {c:Operand}{x y:Code}{g:aL}{Φ:Exit->aL->Prop}(aa:bw g c=some (.lit (.bool true))) (h:W P N x g Φ):W P N (.cond c x y) g Φ:=W.cond aa h
theorem W.UO {c:Operand}{x y:Code}{g:aL}{Φ:Exit->aL->Prop}(aa:bw g c=some (.lit (.bool false))) (h:W P N y g Φ):W P N (.cond c x y) g Φ:=W.cond aa h
theorem W.block {id:Nat}{c:Code}{g:aL}{Φ:Exit->aL->Prop}(h:W P N c g (mr id Φ)):W P N (.block id c) g Φ:=by
 intro Q a w I Fs bg bt eu;refine wp_block (h bg bt λe g1 aw ij h1 aB=>?_);cases e with
 | exit k =>
  have af:if k=id then Φ .normal g1 else Φ (.exit k) g1:=h1
  grind [Exit.inBlock]
 | _=>exact eu _ _ _ _ h1 aB
def pE (P:Program) (N:cP) (c:Code) (g:aL) (Φ:Exit->aL->Prop):Prop :=
 ∀ ⦃Q:Exit->Act->World->Prop⦄ ⦃a:Act⦄ ⦃w:World⦄ ⦃I:a'⦄ ⦃Fs:Nat->a'⦄,cB w I a.tmps g Fs->a.tmps.size=N.size->(∀ e g' cd w',Φ e g'->kh N a w I Fs g' cd w'->Q e cd w')->HH P c Q a w
theorem W.loop {c:Code}{g:aL}{Φ:Exit->aL->Prop}(h:pE P N c g Φ):W P N (.loop c) g Φ:=by
 intro Q a w I Fs bg bt eu b k cs;obtain ⟨e,cd,w',a_,la⟩:=h bg bt eu b k cs;exact ⟨e,cd,w',a_,.of_steps (.one step_loop) la⟩
theorem pE.step {c:Code}{g:aL}{Φ:Exit->aL->Prop}(h:W P N c g (pr (λg1=>pE P N c g1 Φ) Φ)):pE P N c g Φ:=by
 intro Q a w I Fs bg bt eu;refine Y6 (h bg bt λe g1 aw ij h1 aB=>?_);cases e with
 | normal =>
  obtain ⟨ca,b6,I',bW,dZ,bU⟩:=aB;exact h1 dZ (b6.1.trans bt) λud g2 a2 hz af rn=>eu _ _ _ _ af (kh.trans ca b6 bU rn)
 | _=>exact eu _ _ _ _ h1 aB
theorem W.weaken {c:Code}{g g1:aL}{Φ:Exit->aL->Prop}(hk:nu g g1) (h:W P N c g1 Φ):W P N c g Φ:=by
 intro Q a w I Fs bg bt eu;obtain ⟨bW,dZ,hD⟩:=bg.e7 hk;exact h dZ bt λe g' cd w' h1 aB=>eu _ _ _ _ h1 (kh.trans rfl ib.refl ⟨Fr.refl _ _,λ_ h=>h,λ_ h=>.inl h,λc ⟨t,aa⟩=>.inl ⟨t,hD t c aa⟩⟩ aB)
theorem pE.weaken {c:Code}{g g1:aL}{Φ:Exit->aL->Prop}(hk:nu g g1) (h:pE P N c g1 Φ):pE P N c g Φ:=by
 intro Q a w I Fs bg bt eu;obtain ⟨bW,dZ,hD⟩:=bg.e7 hk;exact h dZ bt λe g' cd w' h1 aB=>eu _ _ _ _ h1 (kh.trans rfl ib.refl ⟨Fr.refl _ _,λ_ h=>h,λ_ h=>.inl h,λc ⟨t,aa⟩=>.inl ⟨t,hD t c aa⟩⟩ aB)
def Mw (P:Program) (N:cP) (ops:Array Oper) (is:List Nat) (g:aL) (K:aL->Prop):Prop:=∃ g',oY P N ops is g g'/\K g'
theorem W.region {id:Nat}{ops:Array Oper}{g:aL}{Φ:Exit->aL->Prop}(h:Mw P N ops (List.range ops.size) g (Φ .normal)):W P N (.region id ops false) g Φ:=by
 obtain ⟨g',hr,qH⟩:=h;exact (lK.region hr).w qH
theorem bP.Zk {f:FuncId}{fn:Func}{c:Code}{args:List ab}{outs:List (Option ab)}{res:ab}{N:cP}(aV:P.funcs[f]?=some fn) (ar:fn.body=some c) (bt:fn.ntmps=N.size) (aJ:args.length<=N.size)
  (hlen:outs.length=args.length) (hw:W P N c (s6 args) λe g'=>(e=.normal\/e=.ret)/\Leaves P N fn.results.toList g' args.length outs res):bP P f args outs res:=by
 refine ⟨hlen,λw I vs Fs Kg bg=>calls_of_wp aV ar ?_⟩;have fA:({ tmps:=vs.toArray++Array.replicate (fn.ntmps - vs.toArray.size) undef,defers:=[] }:Act).tmps.size=N.size:=by
  simp; omega
 have mS:∀ t,t<vs.length->(vs.toArray++Array.replicate (fn.ntmps - vs.toArray.size) undef)[t]?=vs.toArray[t]?:=by
  intro t au;rw [Array.getElem?_append_left (by simpa using au)]
 refine hw (bg.more (T':=vs.toArray++Array.replicate (fn.ntmps - vs.toArray.size) undef) λt au=>mS t ?_) fA λe g' cd w' ⟨he,aW⟩ aB=>?_
 ·unfold s6 at au;rw [Kg];rcases Nat.lt_or_ge t args.length with h | h
  ·exact h
  ·exact absurd (List.getElem?_eq_none h) au
 obtain ⟨aR,hold,I',bW,dZ,bU⟩:=aB;obtain ⟨ys,xs,g1,O3,au,rfl,rq⟩:=aW.ex;obtain ⟨us,oJ,hp,ny⟩:=O3.run dZ;have FT:ys.length=us.length:=by rw [<- O3.length,oJ]
 obtain ⟨fr,dj,iZ,iv,hn⟩:=au.sound dZ.nh (⟨FT,λk x u J hu=>(ny k x u J hu).frame (λ_ _=>rfl) (λ_ h=>h) (λ_ _ h=>h.1) λ_ _=>rfl,λ_ _ _ _ _ h=>h.elim,λ_ _ _ _ h=>h.elim,λ_ _ _ h=>h.elim⟩:Hand w' I' (fk w' cd.tmps) bW ys us λ_=>ck);have hD:∀ c,lJ fr xs.length dj c->∃ t,bW t c:=by
  intro c aa;rcases hn c aa with h | ⟨_,_,h⟩
  ·exact h
  ·exact h.elim
 have Xn:∃ j2,cB w' I' (vs++[yz us]).toArray (kO outs (p4 xs)) j2/\∀ t c,j2 t c->∃ t,bW t c:=by
  classical
  refine ⟨λt=>if t=outs.length then (λc=>∃ k,k<xs.length/\dj k c) else if ∃ x,outs[t]?=some (some x) then fr t else ck,⟨λt x J=>?_,λt ry c aa=>?_,λt t' c h1 af=>?_,λt c aa=>?_,dZ.lt,λt t' z p n m new bR cq m' cN h1 af=>?_,dZ.hR⟩,λt c aa=>?_⟩
  ·unfold kO at J;by_cases aK:t=outs.length
   ·rw [if_pos aK] at J;cases J;subst aK;refine ⟨yz us,?_,.tree ?_⟩
    ·rw [aW.len,<- Kg]; simp
    ·simpa using (iv.p4 au.Al _).1
   ·rw [if_neg aK] at J;have e':outs[t]?=some (some x):=by
     cases bQ:outs[t]? with
     | none=>rw [bQ] at J; cases J
     | some y=>rw [bQ] at J; simpa using J
    obtain ⟨h1,af,aF⟩:=rq t x e';have CR:t<vs.length:=by
     have:=(List.getElem?_eq_some_iff.1 e').1;rw [Kg,<- aW.len]; exact this
    obtain ⟨v,hv,a1⟩:=iZ.rel t x h1;refine ⟨v,?_,?_⟩
    ·rw [hold.2 t aF] at hv;simp only at hv;rw [mS t CR] at hv;simp only [List.getElem?_toArray] at hv ⊢;rw [List.getElem?_append_left CR]; exact hv
    ·simp only [aK,if_false];rw [if_pos ⟨x,e'⟩];exact .tree ((a1.gu (by rintro z p n m new rfl; cases af)).bq af)
  ·unfold kO at ry;by_cases aK:t=outs.length
   ·rw [if_pos aK] at ry; cases ry
   ·rw [if_neg aK] at ry;simp only [aK,if_false] at aa;rw [if_neg] at aa
    ·exact aa
    ·rintro ⟨x,J⟩;rw [J] at ry; cases ry
  ·by_cases aK:t=outs.length <;> by_cases Fp:t'=outs.length <;> simp only [aK,Fp,if_true,if_false] at h1 af
   ·rw [aK,Fp]
   ·split at af
    ·obtain ⟨k,hk,aa⟩:=h1;exact absurd af (iv.off k t' c hk aa)
    ·exact af.elim
   ·split at h1
    ·obtain ⟨k,hk,aa⟩:=af;exact absurd h1 (iv.off k t c hk aa)
    ·exact h1.elim
   ·split at h1
    ·split at af
     ·exact iZ.ea _ _ _ h1 af
     ·exact af.elim
    ·exact h1.elim
  ·by_cases aK:t=outs.length <;> simp only [aK,if_true,if_false] at aa
   ·obtain ⟨k,hk,aa⟩:=aa;exact iv.bc k c hk aa
   ·split at aa
    ·exact iZ.bc _ _ aa
    ·exact aa.elim
  ·have key:∀ t x,kO outs (p4 xs) t=some x->cE x:=by
    intro t x J;unfold kO at J
    split at J
    ·cases J; exact (iv.p4 au.Al (λ_ _=>False)).2
    ·cases bQ:outs[t]? with
     | none=>rw [bQ] at J; cases J
     | some y=>rw [bQ] at J; exact (rq t x (by rw [bQ]; simpa using J)).2.1
   have:=key t _ h1;cases this
  ·by_cases aK:t=outs.length <;> simp only [aK,if_true,if_false] at aa
   ·obtain ⟨k,hk,aa⟩:=aa;exact hD c (.inr ⟨k,hk,aa⟩)
   ·split at aa
    ·exact hD c (.inl ⟨t,aa⟩)
    ·exact aa.elim
 obtain ⟨j2,iw,X7⟩:=Xn;have XR:cd.defers=[]/\∃ v,(results fn cd.tmps).run P w'=.ok v w'/\∃ dK I' bW,Ending.returned v=.returned dK/\cB w' I' (vs++[dK]).toArray (kO outs (p4 xs)) bW/\k4 w I (λc=>∃ t,Fs t c) w' I' (λc=>∃ t,bW t c) :=
  ⟨aR,yz us,aau oJ hp,yz us,I',j2,rfl,iw,bU.trans ⟨Fr.refl _ _,λ_ h=>h,λ_ h=>.inl h,λc ⟨t,aa⟩=>.inl (X7 t c aa)⟩⟩
 rcases he with rfl | rfl <;> exact XR
end
def get:List (Nat × ab)->aL
 | [],_=>none
 | (s,x)::l,t=>if t=s then some x else get l t
inductive Rd (g:aL):Operand->ab->Prop
 | lit {t:Nat}{v:Value}(h:g t=some (.lit v)):Rd g (.tmp t) (.lit v)
 | k {v:Value}(h:ofConst v=.lit v):Rd g (.const v) (.lit v)
 | xY:Rd g (.const (.slice none 0 0)) .aP
 | KP {v:Value}{cs:List ab}(h:ofConst v=.agg cs):Rd g (.const v) (.agg cs)
 | aP {t:Nat}(h:g t=some .aP):Rd g (.tmp t) .aP
 | bc {t z n:Nat}{cs:List ab}(h:g t=some (.bc z n cs)):Rd g (.tmp t) (.bc z n cs)
 | own {t z n:Nat}{cs:List ab}(h:g t=some (.own z n cs)):Rd g (.tmp t) (.a7 z ⟨t,[]⟩ n)
 | obj {t:Nat}{c:ab}{cs:List ab}(h:g t=some (.obj (c::cs))):Rd g (.tmp t) (.ptr ⟨t,[]⟩ 0)
 | cx {t:Nat}{cs:List ab}(h:g t=some (.cx cs)):Rd g (.tmp t) (.cx cs)
 | ptr {t k:Nat}{p:Place}(h:g t=some (.ptr p k)):Rd g (.tmp t) (.ptr p k)
 | a7 {t z n:Nat}{p:Place}(h:g t=some (.a7 z p n)):Rd g (.tmp t) (.a7 z p n)
 | sub {t z lo n:Nat}{p:Place}(h:g t=some (.sub z p lo n)):Rd g (.tmp t) (.sub z p lo n)
 | bM {t z n m:Nat}{p:Place}{new:List ab}(h:g t=some (.bM z p n m new)):Rd g (.tmp t) (.a7 z ⟨t,[]⟩ (n+m))
 | agg {t:Nat}{cs cs':List ab}(h:g t=some (.agg cs)) (aa:(cs.mapIdx λi x=>fY 1 (Place.push ⟨t,[]⟩ i) x)=cs'):Rd g (.tmp t) (.agg cs')
 | bS {t:Nat}{cs cs':List ab}(h:g t=some (.bS cs)) (aa:(cs.mapIdx λi x=>fY 1 (Place.push ⟨t,[]⟩ i) x)=cs'):Rd g (.tmp t) (.bS cs')
 | func {f:FuncId}:Rd g (.func f) (.cF (.func f) [] [])
 | cF {t:Nat}{fn:Fn}{cs:List ab}(h:g t=some (.cF fn [] cs)):Rd g (.tmp t) (.cF fn [] cs)
 | mp {t:Nat}{q:Array MapEntry->Nat->Prop}(h:g t=some (.mp q)):Rd g (.tmp t) (.gl ⟨t,[]⟩)
 | gl {t:Nat}{p:Place}(h:g t=some (.gl p)):Rd g (.tmp t) (.gl p)
 | imp {t:Nat}{q:Array MapEntry->Nat->Prop}(h:g t=some (.imp q)):Rd g (.tmp t) (.imp q)
theorem Rd.bw {g:aL}{x:Operand}{y:ab}(h:Rd g x y):bw g x=some y:=by
 cases h with
 | agg h aa=>subst aa; simp [Own.bw,h,pn,fY]
 | bS h aa=>subst aa; simp [Own.bw,h,pn,fY]
 | k h=>simp [Own.bw,h]
 | xY=>rfl
 | KP h=>simp [Own.bw,h]
 | func=>rfl
 | _ h=>simp [Own.bw,h,pn,fY]
section
variable {P:Program}{N:cP}{ops:Array Oper}{g:aL}{K:aL->Prop}{l:List Oper}
def aE (P:Program) (N:cP) (ops:Array Oper) (l:List Oper) (g:aL) (K:aL->Prop):Prop:=∀ i,ops.toList.drop i=l->Mw P N ops (List.range' i l.length) g K
theorem W.D_ {id:Nat}{l:List Oper}{g:aL}{Φ:Exit->aL->Prop}(h:aE P N l.toArray l g (Φ .normal)):W P N (.region id l.toArray false) g Φ:=by
 refine W.region ?_;have:=h 0 (by simp)
 grind [List.range_eq_range']
theorem aE.nil (h:K g):aE P N ops [] g K:=λ_ _=>⟨g,.nil,h⟩
theorem drop_cons {i:Nat}{o:Oper}(h:ops.toList.drop i=o::l):ops[i]?=some o/\ops.toList.drop (i+1)=l:=by
 have h1:(ops.toList.drop i)[0]?=some o:=by rw [h]; rfl
 rw [List.getElem?_drop] at h1;refine ⟨by simpa using h1,?_⟩;rw [<- List.drop_drop,h];rfl
variable {d:Nat}{op:Op}{ty:TypeId}{pos:String}{after:Array Edge}{x:ab}
theorem aE.El {r:Option ab}{o:Oper}(aR:o.dst=some d) (bt:N.ok d=true) (aV:g d=none) (ax:qh P g ops o r) (hk:aE P N ops l (yw g d r) K):aE P N ops (o::l) g K:=by
 intro i hi;obtain ⟨h1,af⟩:=drop_cons hi;obtain ⟨g',hr,c6⟩:=hk (i+1) af;exact ⟨g',.step h1 aR aV bt ax hr,c6⟩
inductive eC (g:aL) (ops:Array Oper):Option (Nat × Bool)->Prop
 | none:eC g ops none
 | yes {j t:Nat}{b:Bool}(h:(ops[j]?).bind (·.dst)=some t) (aQ:g t=some (.lit (.bool b))):eC g ops (some (j,b))
variable {gd:Option (Nat × Bool)}{g1:aL}
theorem eC.wanted (h:eC g ops gd):iH g ops ⟨some d,op,ty,pos,after,gd⟩ true:=by
 cases h with
 | none=>rfl
 | @yes j t b h aQ=>exact ⟨t,h,.inl ⟨b,aQ,by simp⟩⟩
theorem aE.RG (aq:bT P g op ty x) (bt:N.ok d=true) (aV:g d=none) (hw:iH g ops ⟨some d,op,ty,pos,after,gd⟩ true) (hk:aE P N ops l (cT g d x) K):aE P N ops (⟨some d,op,ty,pos,after,gd⟩::l) g K :=
 .El rfl bt aV (r:=some x) (.inl ⟨hw,.inl aq⟩) hk
theorem abp:cT (del g d) d x=cT g d x:=by
 grind [cT,del]
theorem aE.over {y:ab}(aq:dh P (del g d) op ty x) (bt:N.ok d=true) (aV:g d=some y) (ah:leaf y=true) (hk:aE P N ops l (cT g d x) K):aE P N ops (⟨some d,op,ty,pos,after,none⟩::l) g K:=by
 intro i hi;obtain ⟨g',hr,c6⟩:=aE.RG (pos:=pos) (after:=after) (gd:=Option.none) (.ew aq) bt (by simp [del]) (eC.wanted .none) (by rw [abp]; exact hk) i hi;exact ⟨g',.drop aV ah hr,c6⟩
theorem aE.abv (aq:bT P g op ty x) (bt:N.ok d=true) (aV:g d=none) (aQ:eC g ops gd) (hk:aE P N ops l (cT g d x) K):aE P N ops (⟨some d,op,ty,pos,after,gd⟩::l) g K :=
 .RG aq bt aV aQ.wanted hk
theorem aE.call (aq:b_ P g op x) (bt:N.ok d=true) (aV:g d=none) (aQ:eC g ops gd) (hk:aE P N ops l (cT g d x) K):aE P N ops (⟨some d,op,ty,pos,after,gd⟩::l) g K :=
 .El rfl bt aV (r:=some x) (.inl ⟨aQ.wanted,.inr aq⟩) hk
variable {jL:Option Nat}
theorem aE.forget {g1:aL}(hk:iE g g1) (h:aE P N ops l g1 K):aE P N ops l g K:=by
 intro i hi;obtain ⟨g',hr,c6⟩:=h i hi;exact ⟨g',.forget hk hr,c6⟩
variable {a b:Operand}{t t2:TypeId}{k:IntKind}{m n:Int}
theorem dh.add (J:Rd g a (.lit (.int k m))) (ao:Rd g b (.lit (.int k n))):dh P g (.binOp .add t a b t2) ty (.lit (.int k (k.wrap (m+n)))) :=
 .bin J.bw ao.bw rfl λw=>by simp [eqGuard,binOp,Op.intArith]
theorem dh.aa4 (J:Rd g a (.lit (.int k m))) (ao:Rd g b (.lit (.int k n))):dh P g (.binOp .sub t a b t2) ty (.lit (.int k (k.wrap (m - n)))) :=
 .bin J.bw ao.bw rfl λw=>by simp [eqGuard,binOp,Op.intArith]
theorem dh.quo (J:Rd g a (.lit (.int k m))) (ao:Rd g b (.lit (.int k n))) (h:n≠0):dh P g (.binOp .quo t a b t2) ty (.lit (.int k (k.wrap (m.tdiv n)))) :=
 .bin J.bw ao.bw rfl λw=>by simp [eqGuard,binOp,Op.intDiv,h]
theorem dh.rem (J:Rd g a (.lit (.int k m))) (ao:Rd g b (.lit (.int k n))) (h:n≠0):dh P g (.binOp .rem t a b t2) ty (.lit (.int k (m.tmod n))) :=
 .bin J.bw ao.bw rfl λw=>by simp [eqGuard,binOp,Op.intDiv,h]
theorem dh.cat {s u:ByteArray}(J:Rd g a (.lit (.string s))) (ao:Rd g b (.lit (.string u))) (h:s.size+u.size<=9223372036854775807):dh P g (.binOp .add t a b t2) ty (.lit (.string (s++u))) :=
 .bin J.bw ao.bw rfl λw=>by
  have:¬ ((s.size+u.size:Nat):Int) > IntKind.i64.max:=by
   have:IntKind.i64.max=9223372036854775807:=by decide
   omega
  simp only [eqGuard,binOp,Op.stringOp,if_neg this];simp
theorem M6 {s u:ByteArray}(h:s.toList=u.toList):s=u:=by
 have h1:s.data.toList=u.data.toList:=by
  grind [ByteArray.toList_eq]
 cases s
 simp_all
theorem dh.s' {s u:ByteArray}(J:Rd g a (.lit (.string s))) (ao:Rd g b (.lit (.string u))) {c:Bool}(aa:c=true↔s=u):dh P g (.binOp .eql t a b t2) ty (.lit (.bool c)) :=
 .bin J.bw ao.bw rfl λw=>by
  have:(s.toList == u.toList)=c:=by
   rw [Bool.eq_iff_iff,aa];simp only [beq_iff_eq];exact ⟨M6,λh=>by rw [h]⟩
  simp [eqGuard,binOp,Op.stringOp,this]
theorem dh.qJ {s u:ByteArray}(J:Rd g a (.lit (.string s))) (ao:Rd g b (.lit (.string u))) {c:Bool}(aa:c=true↔s≠u):dh P g (.binOp .neq t a b t2) ty (.lit (.bool c)) :=
 .bin J.bw ao.bw rfl λw=>by
  have:(s.toList == u.toList)=!c:=by
   rw [Bool.eq_iff_iff];simp only [beq_iff_eq,Bool.not_eq_true'];cases c with
   | true=>simp only [true_iff] at aa; simp only [Bool.true_eq_false,iff_false]; exact λh=>aa (M6 h)
   | false =>
    simp only [Bool.false_eq_true,false_iff,Decidable.not_not] at aa;simp [aa]
  simp [eqGuard,binOp,Op.stringOp,this]
theorem dh.lss (J:Rd g a (.lit (.int k m))) (ao:Rd g b (.lit (.int k n))) {c:Bool}(aa:c=true↔m<n):dh P g (.binOp .lss t a b t2) ty (.lit (.bool c)) :=
 .bin J.bw ao.bw rfl λw=>by
  have:decide (m<n)=c:=by rw [Bool.eq_iff_iff,aa]; simp
  simp [eqGuard,binOp,Op.intCmp,this]
theorem dh.leq (J:Rd g a (.lit (.int k m))) (ao:Rd g b (.lit (.int k n))) {c:Bool}(aa:c=true↔m<=n):dh P g (.binOp .leq t a b t2) ty (.lit (.bool c)) :=
 .bin J.bw ao.bw rfl λw=>by
  have:decide (m<=n)=c:=by rw [Bool.eq_iff_iff,aa]; simp
  simp [eqGuard,binOp,Op.intCmp,this]
theorem dh.gtr (J:Rd g a (.lit (.int k m))) (ao:Rd g b (.lit (.int k n))) {c:Bool}(aa:c=true↔n<m):dh P g (.binOp .gtr t a b t2) ty (.lit (.bool c)) :=
 .bin J.bw ao.bw rfl λw=>by
  have:decide (n<m)=c:=by rw [Bool.eq_iff_iff,aa]; simp
  simp [eqGuard,binOp,Op.intCmp,this]
theorem dh.geq (J:Rd g a (.lit (.int k m))) (ao:Rd g b (.lit (.int k n))) {c:Bool}(aa:c=true↔n<=m):dh P g (.binOp .geq t a b t2) ty (.lit (.bool c)) :=
 .bin J.bw ao.bw rfl λw=>by
  have:decide (n<=m)=c:=by rw [Bool.eq_iff_iff,aa]; simp
  simp [eqGuard,binOp,Op.intCmp,this]
theorem dh.eql (J:Rd g a (.lit (.int k m))) (ao:Rd g b (.lit (.int k n))) {c:Bool}(aa:c=true↔m=n):dh P g (.binOp .eql t a b t2) ty (.lit (.bool c)) :=
 .bin J.bw ao.bw rfl λw=>by
  have:(m == n)=c:=by rw [Bool.eq_iff_iff,aa]; simp
  simp [eqGuard,binOp,Op.intCmp,this]
theorem dh.neq (J:Rd g a (.lit (.int k m))) (ao:Rd g b (.lit (.int k n))) {c:Bool}(aa:c=true↔m≠n):dh P g (.binOp .neq t a b t2) ty (.lit (.bool c)) :=
 .bin J.bw ao.bw rfl λw=>by
  have:(m != n)=c:=by rw [Bool.eq_iff_iff,aa]; simp
  simp [eqGuard,binOp,Op.intCmp,this]
theorem dh.not {c:Bool}(J:Rd g a (.lit (.bool c))):dh P g (.unOp .not t a) ty (.lit (.bool (!c))) :=
 .un J.bw rfl λw=>by simp [Op.unary]
theorem dh.ZR {c a b:Operand}{y:ab}(aa:Rd g c (.lit (.bool true))) (hr:Rd g a y):dh P g (.pick c a b) ty y:=.pick aa.bw hr.bw
theorem dh.ZQ {c a b:Operand}{y:ab}(aa:Rd g c (.lit (.bool false))) (hr:Rd g b y):dh P g (.pick c a b) ty y:=.pick aa.bw hr.bw
theorem dh.Ad {s:ByteArray}(J:Rd g a (.lit (.string s))) (au:sS P t=true):dh P g (.call { callee:=.builtin .len,args:=#[a],argTypes:=#[t] }) ty (.lit (.int .i64 s.size)) :=
 .lits (vs:=[.string s]) (by simp [J.bw]) rfl λw cs=>by
  simp [builtin,Builtin.len_,run_underlying (LQ au),goInt]
section
variable {Ψ:aL->Prop}{Φ:Exit->aL->Prop}{id k:Nat}
theorem abf (h:Ψ g):pr Ψ Φ .normal g:=h
theorem abg (h:Φ .ret g):pr Ψ Φ .ret g:=h
theorem abe (h:Φ (.exit k) g):pr Ψ Φ (.exit k) g:=h
theorem YS (h:Φ .normal g):mr id Φ .normal g:=h
theorem YT (h:Φ .ret g):mr id Φ .ret g:=h
theorem YQ (h:Φ .normal g):mr id Φ (.exit id) g:=by
 show if id=id then Φ .normal g else Φ (.exit id) g
 grind
theorem YR (hk:Nat.beq k id=false) (h:Φ (.exit k) g):mr id Φ (.exit k) g:=by
 show if k=id then Φ .normal g else Φ (.exit k) g
 grind [Nat.ne_of_beq_eq_false]
end
def Fin (P:Program) (N:cP) (rs:List ResultVar) (n:Nat) (outs:List (Option ab)) (res:ab) (e:Exit) (g':aL):Prop:=(e=.normal\/e=.ret)/\Leaves P N rs g' n outs res
theorem bP.fin {f:FuncId}{fn:Func}{c:Code}{args:List ab}{outs:List (Option ab)}{res:ab}{N:cP}(aV:P.funcs[f]?=some fn) (ar:fn.body=some c) (bt:fn.ntmps=N.size) (aJ:Nat.ble args.length N.size=true) (hlen:outs.length=args.length)
  (hw:W P N c (s6 args) (Fin P N fn.results.toList args.length outs res)):bP P f args outs res:=.Zk aV ar bt (Nat.le_of_ble_eq_true aJ) hlen hw
def uM (outs:List (Option ab)):Bool:=outs.all λx=>x.isNone
theorem P6 {outs:List (Option ab)}(h:uM outs=true) (k:Nat) (x:ab):outs[k]?≠some (some x):=by
 intro e;have:=List.all_eq_true.1 h _ (List.mem_of_getElem? e)
 grind
inductive q9 (g:aL):List Operand->List ab->Prop
 | nil:q9 g [] []
 | cons {x:Operand}{y:ab}{xs:List Operand}{ys:List ab}(h:Rd g x y) (aB:cE y) (au:q9 g xs ys):q9 g (x::xs) (y::ys)
theorem q9.spec {xs:List Operand}{ys:List ab}(h:q9 g xs ys):hh g xs=some ys/\∀ y∈ys,cE y:=by
 induction h with
 | nil=>exact ⟨rfl,by simp⟩
 | cons h aB _ aM=>exact ⟨by simp only [hh,h.bw,aM.1],sJ aB aM.2⟩
theorem b_.Vg {xs:List Operand}{fP:Array TypeId}{f:FuncId}{ys:List ab}{outs:List (Option ab)}{res:ab}(hf:bP P f ys outs res) (aV:hA P f=true) (J:q9 g xs ys) (aW:uM outs=true) (hr:cE res) :
  b_ P g (.call { callee:=.value (.func f),args:=xs.toArray,argTypes:=fP }) res:=by
 have rq:outs=ys.map λ_=>Option.none:=by
  apply List.ext_getElem?;intro k;rw [List.getElem?_map];cases ao:ys[k]? with
  | none=>rw [List.getElem?_eq_none (by rw [hf.1]; exact List.getElem?_eq_none_iff.1 ao)]; rfl
  | some y =>
   have hk:k<outs.length:=by rw [hf.1]; exact (List.getElem?_eq_some_iff.1 ao).1
   have h1:=List.getElem?_eq_getElem hk;rw [h1];cases af:outs[k] with
   | none=>rfl
   | some x=>rw [af] at h1; exact absurd h1 (P6 aW k x)
 exact .plain (first:=[]) (caps:=[]) (ys:=ys) rfl (by simpa using J.spec.1) aV (by simpa using J.spec.2) (by simpa [<- rq] using hf) hr
end
def lQ (s:ByteArray) (m:Int):Int:=((s[m.toNat]?.getD 0).toNat:Nat)
def BO (s:ByteArray) (m n:Int):ByteArray:=s.extract m.toNat n.toNat
section
variable {P:Program}{N:cP}{ops:Array Oper}{g:aL}{K:aL->Prop}{l:List Oper}
variable {d:Nat}{op:Op}{ty:TypeId}{pos:String}{after:Array Edge}{x:ab}{a b:Operand}{t t2:TypeId}{k:IntKind}{m n:Int}{gd:Option (Nat × Bool)}
theorem dh.Tn {s:ByteArray}{i:Operand}(J:Rd g a (.lit (.string s))) (hi:Rd g i (.lit (.int k m))) (au:sS P t=true) (h:0<=m/\m<s.size):dh P g (.index t a i) ty (.lit (.int .u8 (lQ s m))):=by
 obtain ⟨j,rfl⟩:=Int.eq_ofNat_of_zero_le h.1;have ag:j<s.size:=by omega
 have ar:s[j]?=some s[j]:=getElem?_pos s j ag;have:lQ s (j:Int)=(s[j].toNat:Nat):=by simp [lQ,ar]
 rw [this];exact .FY J.bw hi.bw au ar
theorem dh.LN {s:ByteArray}{lo hi:Operand}{rF:IntKind}(J:Rd g a (.lit (.string s))) (ah:Rd g lo (.lit (.int k m))) (bQ:Rd g hi (.lit (.int rF n))) (au:sS P t=true) (h:0<=m/\m<=n/\n<=s.size) :
  dh P g (.slice t a (some lo) (some hi) none) ty (.lit (.string (BO s m n))):=by
 obtain ⟨i,rfl⟩:=Int.eq_ofNat_of_zero_le h.1;obtain ⟨j,rfl⟩:=Int.eq_ofNat_of_zero_le (show 0<=n by omega);exact .G' J.bw ⟨_,ah.bw⟩ ⟨_,bQ.bw⟩ au (by omega) (by omega)
theorem UU {s:ByteArray}{m n:Int}(h:0<=m/\m<=n/\n<=s.size):((BO s m n).size:Int)=n - m:=by
 grind [BO,ByteArray.size_extract]
def jh (P:Program) (e:TypeId) (z:Nat):Bool :=
 match (P.info? e).bind (·.zero) with
 | some v=>v.cells.size == z
 | none=>false
theorem RX {e:TypeId}{z:Nat}(h:jh P e z=true):∃ v,(P.info? e).bind (·.zero)=some v/\v.cells.size=z:=by
 grind [jh]
end
section
variable {P:Program}{g:aL}{ty:TypeId}{a b:Operand}{t t2:TypeId}{N:cP}{ops:Array Oper}{K:aL->Prop}{l:List Oper}{d:Nat}{pos:String}{after:Array Edge}{gd:Option (Nat × Bool)}
theorem W.UP {c:Operand}{x y:Code}{Φ:Exit->aL->Prop}{b:Bool}(aa:Rd g c (.lit (.bool b))) (cV:b=true->W P N x g Φ) (aH:b=false->W P N y g Φ):W P N (.cond c x y) g Φ:=by
 cases b with
 | true=>exact .UQ aa.bw (cV rfl)
 | false=>exact .UO aa.bw (aH rfl)
theorem aas {c e:Bool}(au:P.underlying t=some .bool) (w:World):(do eqGuard .eql t a b (.bool c) (.bool e); binOp .eql t (.bool c) (.bool e):Sem Value).run P w=.ok (.bool (c == e)) w:=by
 have h:=run_equal_bool w t c e au;simp [eqGuard,binOp,h]
def H3 (P:Program) (t:TypeId):Bool :=
 match P.underlying t with
 | some .bool=>true
 | _=>false
theorem Tu (h:H3 P t=true):P.underlying t=some .bool:=by
 unfold H3 at h
 split at h
 ·assumption
 ·cases h
def uG (P:Program) (t:TypeId) (k:IntKind):Bool :=
 match P.underlying t with
 | some (.int kd)=>kd == k
 | _=>false
theorem Pr {k:IntKind}(h:uG P t k=true):P.underlying t=some (.int k):=by
 unfold uG at h
 split at h
 ·rename_i kd hk; rw [hk]; have:kd=k:=by simpa using h
  rw [this]
 ·cases h
theorem dh.UR {k kd:IntKind}{m:Int}(J:Rd g a (.lit (.int k m))) (ax:uG P t k=true) (aR:uG P t2 kd=true):dh P g (.convert t t2 a) ty (.lit (.int kd (kd.wrap m))) :=
 .conv J.bw rfl λw=>by simp [convert,run_underlying (Pr ax),run_underlying (Pr aR),Conv.intToInt]
end
end Go.Own
namespace Go.Own
open Go Go.RowKit
variable [cG]
end Go.Own
namespace Go.Own
open Go
variable [cG]
section
variable {P:Program}{g:aL}{ty:TypeId}{a b:Operand}{t t2:TypeId}{N:cP}{ops:Array Oper}{K:aL->Prop}{l:List Oper}{d:Nat}{pos:String}{after:Array Edge}{gd:Option (Nat × Bool)}
end
structure bO (α:Type) where
 z:Nat
 cells:α->List ab
 len:∀ a,(cells a).length=z
 bq:∀ a,∀ x∈cells a,cE x
variable {α β S R:Type}
def bC (e:bO α) (l:List α):List ab:=l.flatMap e.cells
abbrev aC (e:bO α) (l:List α):ab:=.own e.z l.length (bC e l)
abbrev ak (e:bO α) (l:List α):ab:=.bc e.z l.length (bC e l)
abbrev ae (n:Int):ab:=.lit (.int .i64 n)
abbrev r9 (n:Int):ab:=.lit (.int .u8 n)
abbrev bd (b:Bool):ab:=.lit (.bool b)
abbrev a6 (s:ByteArray):ab:=.lit (.string s)
abbrev aG (n:Int):Int:=IntKind.i64.wrap n
abbrev Hk (n:Int):Int:=IntKind.u8.wrap n
theorem oQ (e:bO α) (l:List α):(bC e l).length=l.length * e.z:=by
 induction l with
 | nil=>simp [bC]
 | cons a l aM =>
  have:bC e (a::l)=e.cells a++bC e l:=by simp [bC]
  rw [this,List.length_append,e.len,aM,List.length_cons,Nat.add_mul]; omega
theorem po (e:bO α) (l:List α):∀ x∈bC e l,cE x:=by
 intro x J;obtain ⟨a,_,h⟩:=List.mem_flatMap.1 J;exact e.bq a x h
theorem QO (e:bO α) (l m:List α):bC e (l++m)=bC e l++bC e m:=by simp [bC]
theorem Ea (e:bO α):∀ (l:List α) (i:Nat),(bC e l).drop (i * e.z)=bC e (l.drop i)
 | l,0=>by simp
 | [],i+1=>by simp [bC]
 | a::l,i+1=>by
  have h:bC e (a::l)=e.cells a++bC e l:=by simp [bC]
  rw [h,List.drop_append,e.len,List.drop_eq_nil_of_le (by rw [e.len,Nat.add_mul]; omega)];have:(i+1) * e.z - e.z=i * e.z:=by rw [Nat.add_mul]; omega
  rw [this,List.nil_append,Ea e l i]; rfl
theorem GU (e:bO α):∀ (l:List α) (i:Nat),(bC e l).take (i * e.z)=bC e (l.take i)
 | l,0=>by simp [bC]
 | [],i+1=>by simp [bC]
 | a::l,i+1=>by
  have h:bC e (a::l)=e.cells a++bC e l:=by simp [bC]
  rw [h,List.take_append,e.len,List.take_of_length_le (by rw [e.len,Nat.add_mul]; omega)];have:(i+1) * e.z - e.z=i * e.z:=by rw [Nat.add_mul]; omega
  rw [this,GU e l i]; simp [bC]
def idx (l:List α) (i:Int):Option α:=if 0<=i then l[i.toNat]? else none
theorem mq {l:List α}{i:Int}{y:α}(h:idx l i=some y):0<=i/\i<l.length/\l[i.toNat]?=some y:=by
 grind [idx]
theorem Ly (e:bO α) {l:List α}{i:Int}{y:α}(h:idx l i=some y):(bC e l).drop (i.toNat * e.z)=e.cells y++bC e (l.drop (i.toNat+1)):=by
 obtain ⟨aK,h1,af⟩:=mq h
 grind [Ea,List.drop_eq_getElem_cons,bC]
theorem Lx (e:bO α) {l:List α}{i:Int}{y:α}(h:idx l i=some y) {k:Nat}{x:ab}(hk:(e.cells y)[k]?=some x):(bC e l)[i.toNat * e.z+k]?=some x:=by
 have aN:=(List.getElem?_eq_some_iff.1 hk).1;rw [<- List.getElem?_drop,Ly e h,List.getElem?_append_left aN]; exact hk
abbrev lim:Nat:=1099511627776
def fuel:Nat:=1000000000000000000
def iter (f:S->Option (S ⊕ R)):Nat->S->Option R
 | 0,_=>none
 | n+1,s=>match f s with
  | none=>none
  | some (.inl cz)=>iter f n cz
  | some (.inr r)=>some r
def cg (f:S->Option (S ⊕ R)) (s:S):Option R:=iter f fuel s
theorem vj {o:Option α}{f:α->Option β}{r:β}(h:o.bind f=some r):∃ y,o=some y/\f y=some r:=Option.bind_eq_some_iff.1 h
theorem Ub {b:Bool}{x y o:α}(ar:b=true) (h:cond b x y=o):x=o:=by
 grind
theorem Ua {b:Bool}{x y o:α}(ar:b=false) (h:cond b x y=o):y=o:=by
 grind
theorem eg {b:Bool}{x y o:α}(h:cond b x y=o):(b=true/\x=o)\/(b=false/\y=o):=by
 grind
theorem aT {a b:α}(h:some a=some b):a=b:=by grind
class b9 (x:ab):Prop where bq:cE x
class dm (cs:List ab):Prop where bq:∀ x∈cs,cE x
instance {v:Value}:b9 (.lit v):=⟨.lit⟩
instance:b9 .aP:=⟨.aP⟩
instance:b9 .dead:=⟨.dead⟩
instance {z n:Nat}{cs:List ab} [h:dm cs]:b9 (.bc z n cs):=⟨.bc h.bq⟩
instance {z n:Nat}{cs:List ab} [h:dm cs]:b9 (.own z n cs):=⟨.own h.bq⟩
instance {cs:List ab} [h:dm cs]:b9 (.obj cs):=⟨.obj h.bq⟩
instance {cs:List ab} [h:dm cs]:b9 (.agg cs):=⟨.agg h.bq⟩
instance {cs:List ab} [h:dm cs]:b9 (.bS cs):=⟨.bS h.bq⟩
instance {cs:List ab} [h:dm cs]:b9 (.cx cs):=⟨.cx h.bq⟩
instance:dm []:=⟨by simp⟩
instance {x:ab}{cs:List ab} [h:b9 x] [aI:dm cs]:dm (x::cs):=⟨sJ h.bq aI.bq⟩
instance {e:bO α}{l:List α}:dm (bC e l):=⟨po e l⟩
instance {e:bO α}{a:α}:dm (e.cells a):=⟨e.bq a⟩
instance {a b:List ab} [h:dm a] [aI:dm b]:dm (a++b):=⟨λx J=>(List.mem_append.1 J).elim (h.bq x) (aI.bq x)⟩
instance {a:List ab}{n:Nat} [h:dm a]:dm (a.drop n):=⟨λx J=>h.bq x (List.mem_of_mem_drop J)⟩
abbrev bO.one (f:α->ab) (h:∀ a,cE (f a)):bO α:=⟨1,λa=>[f a],λ_=>rfl,λa x J=>by rw [List.mem_singleton.1 J]; exact h a⟩
def ai:bO Int:=.one (λn=>ae n) λ_=>.lit
def se:bO Int:=.one (λn=>r9 n) λ_=>.lit
def e3:bO Bool:=.one (λb=>bd b) λ_=>.lit
def nX:bO ByteArray:=.one (λs=>a6 s) λ_=>.lit
def bE (e:bO α):bO (List α):=.one (λl=>ak e l) λl=>.bc (po e l)
inductive Trim (b:Bool) (g g2:aL):List (Nat × ab)->Prop
 | nil:Trim b g g2 []
 | n {s:Nat}{x:ab}{l:List (Nat × ab)}(h:g s=some x) [aB:b9 x] (t:Trim b g g2 l):Trim b g g2 ((s,x)::l)
 | r {s:Nat}{x:ab}{l:List (Nat × ab)}(h:g s=some x) (aB:cU g2 x) (aq:∀ z p n m new,x≠.bM z p n m new) (t:Trim b g g2 l):Trim b g g2 ((s,x)::l)
 | e {s:Nat}{x y:ab}{l:List (Nat × ab)}(h:g s=some y) (he:y=x) [aB:b9 x] (t:Trim b g g2 l):Trim b g g2 ((s,x)::l)
 | w {s:Nat}{x y:ab}{l:List (Nat × ab)}(ar:b=true) (h:g s=some y) (hw:nS y x) [aB:b9 x] (t:Trim b g g2 l):Trim b g g2 ((s,x)::l)
theorem Trim.spec {b:Bool}{g g2:aL}{l:List (Nat × ab)}(h:Trim b g g2 l):∀ t x,get l t=some x->(∃ y,g t=some y/\nS y x/\(b=false->y=x))/\cU g2 x/\∀ z p n m new,x≠.bM z p n m new:=by
 have fE:∀ {x:ab},cE x->∀ z p n m new,x≠.bM z p n m new:=by rintro x h z p n m new rfl; cases h
 induction h with
 | nil=>intro t x J; cases J
 | @n _ _ _ h aB _ aM =>
  intro t x J; simp only [get] at J
  split at J
  ·rename_i e; subst e; cases J; exact ⟨⟨_,h,.refl,λ_=>rfl⟩,.bq aB.bq,fE aB.bq⟩
  ·exact aM t x J
 | r h aB aq _ aM =>
  intro t x J; simp only [get] at J
  split at J
  ·rename_i e; subst e; cases J; exact ⟨⟨_,h,.refl,λ_=>rfl⟩,aB,aq⟩
  ·exact aM t x J
 | @e _ _ _ _ h he aB _ aM =>
  intro t x J; simp only [get] at J
  split at J
  ·rename_i e; subst e he; cases J; exact ⟨⟨_,h,.refl,λ_=>rfl⟩,.bq aB.bq,fE aB.bq⟩
  ·exact aM t x J
 | @w _ _ _ _ ar h hw aB _ aM =>
  intro t x J; simp only [get] at J
  split at J
  ·rename_i e; subst e; cases J; exact ⟨⟨_,h,hw,λh=>by rw [ar] at h; cases h⟩,.bq aB.bq,fE aB.bq⟩
  ·exact aM t x J
theorem Trim.e7 {b:Bool}{g:aL}{l:List (Nat × ab)}(h:Trim b g (get l) l):nu g (get l) :=
 ⟨λt x J=>by obtain ⟨⟨y,h1,af,_⟩,_⟩:=h.spec t x J; exact ⟨y,h1,af⟩,λt x J=>(h.spec t x J).2.1,λt z q n m new J=>(h.spec t _ J).2.2 _ _ _ _ _ rfl⟩
theorem Trim.keep {g:aL}{l:List (Nat × ab)}(h:Trim false g (get l) l):iE g (get l) :=
 ⟨λt x J=>by obtain ⟨⟨y,h1,_,aF⟩,_⟩:=h.spec t x J; rw [<- aF rfl]; exact h1,λt x J=>(h.spec t x J).2.1,λt z q n m new J=>(h.spec t _ J).2.2 _ _ _ _ _ rfl⟩
section
variable {P:Program}{N:cP}{ops:Array Oper}{g:aL}{K:aL->Prop}{l:List Oper}{d:Nat}{op:Op}{ty:TypeId}{pos:String}{after:Array Edge}{x:ab}{gd:Option (Nat × Bool)}
theorem W.bJ {A B:Code}{G:List (Nat × ab)}{Φ:Exit->aL->Prop}(h:W P N A (get G) (pr (λg1=>W P N B g1 Φ) Φ)):W P N (.seq A B) (get G) Φ:=W.seq h
theorem aE.fin {G1:List (Nat × ab)}(h:Trim true g (get G1) G1):aE P N ops [] g λg'=>nu g' (get G1):=.nil h.e7
theorem aE.GM {G1:List (Nat × ab)}(h:Trim false g (get G1) G1) (hk:aE P N ops l (get G1) K):aE P N ops l g K:=.forget h.keep hk
theorem aE.v (aq:bT P g op ty x) (bt:N.ok d=true) (aV:g d=none) (aQ:eC g ops gd) (hk:aE P N ops l (cT g d x) K):aE P N ops (⟨some d,op,ty,pos,after,gd⟩::l) g K:=.abv aq bt aV aQ hk
theorem aE.c (aq:b_ P g op x) (bt:N.ok d=true) (aV:g d=none) (aQ:eC g ops gd) (hk:aE P N ops l (cT g d x) K):aE P N ops (⟨some d,op,ty,pos,after,gd⟩::l) g K:=.call aq bt aV aQ hk
theorem eC.kX {j t:Nat}{b c:Bool}(h:(ops[j]?).bind (·.dst)=some t) (aQ:g t=some (.lit (.bool c))) (ar:c=b):eC g ops (some (j,b)):=by subst ar; exact .yes h aQ
theorem aE.ps {j t':Nat}{b c:Bool}(h:(ops[j]?).bind (·.dst)=some t') (aQ:g t'=some (.lit (.bool c))) (ar:c=!b) (bt:N.ok d=true) (aV:g d=none) (hk:aE P N ops l (cT g d (.bS [])) K):aE P N ops (⟨some d,op,ty,pos,after,some (j,b)⟩::l) g K:=by
 subst ar; exact .El rfl bt aV (r:=some (.bS [])) (.inr (.inl ⟨⟨t',h,.inl ⟨_,aQ,by cases b <;> rfl⟩⟩,rfl⟩)) hk
theorem aE.pu {j t':Nat}{b:Bool}(h:(ops[j]?).bind (·.dst)=some t') (aQ:g t'=some (.bS [])) (bt:N.ok d=true) (aV:g d=none) (hk:aE P N ops l (cT g d (.bS [])) K):aE P N ops (⟨some d,op,ty,pos,after,some (j,b)⟩::l) g K :=
 .El rfl bt aV (r:=some (.bS [])) (.inr (.inl ⟨⟨t',h,.inr ⟨aQ,rfl⟩⟩,rfl⟩)) hk
theorem W.eg {t:Nat}{A B:Code}{b:Bool}{G:List (Nat × ab)}{Φ:Exit->aL->Prop}(aa:get G t=some (bd b)) (cV:b=true->W P N A (get G) Φ) (aH:b=false->W P N B (get G) Φ):W P N (.cond (.tmp t) A B) (get G) Φ:=W.UP (.lit aa) cV aH
end
end Go.Own
namespace Go.Own
open Go
variable [cG]
variable {α β:Type}
def kF (s:ByteArray) (m:Int):Option Int:=if 0<=m/\m<s.size then some (lQ s m) else none
def w8 (s:ByteArray) (m n:Int):Option ByteArray:=if 0<=m/\m<=n/\n<=s.size then some (BO s m n) else none
def w3 (s u:ByteArray):Option ByteArray:=if s.size+u.size<=4611686018427387904 then some (s++u) else none
def rS (m n:Int):Option Int:=if n=0 then none else some (m.tmod n)
def og (l:List α) (m n:Int):Option (List α):=if 0<=m/\m<=n/\n<=l.length then some ((l.drop m.toNat).take (n - m).toNat) else none
def mg:ab->Bool
 | .lit _ | .aP | .bc .. | .cx _ | .cF .. | .ptr .. | .a7 .. | .sub .. | .gl .. | .imp ..=>true
 | _=>false
theorem Vy {d:Nat}{p:Place}{x:ab}(h:mg x=true):fY d p x=x:=by
 cases x <;> simp [mg] at h <;> cases d <;> rfl
theorem Vz {t:Nat}{x:ab}(h:mg x=true):pn t x=x:=by
 cases x <;> simp [mg] at h <;> rfl
theorem B0 {d:Nat}{q:Nat->Place}{cs:List ab}(h:cs.all mg=true):(cs.mapIdx λi x=>fY d (q i) x)=cs:=by
 apply List.ext_getElem?;intro k;rw [List.getElem?_mapIdx];cases hk:cs[k]? with
 | none=>rfl
 | some x=>simp only [Option.map_some,Vy (List.all_eq_true.1 h x (List.mem_of_getElem? hk))]
section
variable {P:Program}{N:cP}{ops:Array Oper}{g:aL}{K:aL->Prop}{l:List Oper}{d:Nat}{ty t t2:TypeId}{a b c:Operand}{k kd:IntKind}{m n:Int}{s u:ByteArray}{p q e:Bool}
theorem Rd.f {t:Nat}{x:ab}(h:g t=some x) (aV:mg x=true):Own.bw g (.tmp t)=some x:=by simp only [Own.bw,h,Option.map_some,Vz aV]
theorem Rd.dd {t:Nat}{cs:List ab}(h:g t=some (.agg cs)) (aV:cs.all mg=true):Rd g (.tmp t) (.agg cs):=.agg h (B0 aV)
theorem Rd.abm {t:Nat}{cs:List ab}(h:g t=some (.bS cs)) (aV:cs.all mg=true):Rd g (.tmp t) (.bS cs):=.bS h (B0 aV)
namespace O
theorem aO {y:ab}(h:Rd g a y):bT P g (.move a) ty y:=.ew (.move h.bw)
theorem az {y:ab}(h:Rd g a y):bT P g (.assign a) ty y:=.ew (.assign h.bw)
theorem gB {y:ab}(aa:Rd g c (bd p)) (ar:p=true) (h:Rd g a y):bT P g (.pick c a b) ty y:=by subst ar; exact .ew (.ZR aa h)
theorem gA {y:ab}(aa:Rd g c (bd p)) (ar:p=false) (h:Rd g b y):bT P g (.pick c a b) ty y:=by subst ar; exact .ew (.ZQ aa h)
theorem add (J:Rd g a (.lit (.int k m))) (ao:Rd g b (.lit (.int k n))):bT P g (.binOp .add t a b t2) ty (.lit (.int k (k.wrap (m+n)))):=.ew (.add J ao)
theorem sub (J:Rd g a (.lit (.int k m))) (ao:Rd g b (.lit (.int k n))):bT P g (.binOp .sub t a b t2) ty (.lit (.int k (k.wrap (m - n)))):=.ew (.aa4 J ao)
theorem rem {r:Int}(J:Rd g a (ae m)) (ao:Rd g b (ae n)) (h:rS m n=some r):bT P g (.binOp .rem t a b t2) ty (ae r):=by
 unfold rS at h
 split at h
 ·cases h
 ·cases h; exact .ew (.rem J ao (by assumption))
theorem lss (J:Rd g a (.lit (.int k m))) (ao:Rd g b (.lit (.int k n))):bT P g (.binOp .lss t a b t2) ty (bd (decide (m<n))):=.ew (.lss J ao (by simp))
theorem leq (J:Rd g a (.lit (.int k m))) (ao:Rd g b (.lit (.int k n))):bT P g (.binOp .leq t a b t2) ty (bd (decide (m<=n))):=.ew (.leq J ao (by simp))
theorem gtr (J:Rd g a (.lit (.int k m))) (ao:Rd g b (.lit (.int k n))):bT P g (.binOp .gtr t a b t2) ty (bd (decide (n<m))):=.ew (.gtr J ao (by simp))
theorem geq (J:Rd g a (.lit (.int k m))) (ao:Rd g b (.lit (.int k n))):bT P g (.binOp .geq t a b t2) ty (bd (decide (n<=m))):=.ew (.geq J ao (by simp))
theorem eql (J:Rd g a (.lit (.int k m))) (ao:Rd g b (.lit (.int k n))):bT P g (.binOp .eql t a b t2) ty (bd (decide (m=n))):=.ew (.eql J ao (by simp))
theorem neq (J:Rd g a (.lit (.int k m))) (ao:Rd g b (.lit (.int k n))):bT P g (.binOp .neq t a b t2) ty (bd (!decide (m=n))):=.ew (.neq J ao (by simp))
theorem s' (J:Rd g a (a6 s)) (ao:Rd g b (a6 u)):bT P g (.binOp .eql t a b t2) ty (bd (decide (s=u))):=.ew (.s' J ao (by simp))
theorem qJ (J:Rd g a (a6 s)) (ao:Rd g b (a6 u)):bT P g (.binOp .neq t a b t2) ty (bd (!decide (s=u))):=.ew (.qJ J ao (by simp))
theorem Vj (J:Rd g a (bd p)) (ao:Rd g b (bd q)) (au:H3 P t=true):bT P g (.binOp .eql t a b t2) ty (bd (p == q)):=.ew (.bin J.bw ao.bw rfl λw=>aas (Tu au) w)
theorem neg (J:Rd g a (.lit (.int k m))):bT P g (.unOp .neg t a) ty (.lit (.int k (k.wrap (-m)))):=.ew (.un J.bw rfl λw=>by simp [Op.unary,Op.intArith])
theorem not (J:Rd g a (bd p)):bT P g (.unOp .not t a) ty (bd (!p)):=.ew (.not J)
theorem Iw (J:Rd g a (.lit (.int k m))) (ax:uG P t k=true) (aR:uG P t2 kd=true):bT P g (.convert t t2 a) ty (.lit (.int kd (kd.wrap m))):=.ew (.UR J ax aR)
theorem cat {r:ByteArray}(J:Rd g a (a6 s)) (ao:Rd g b (a6 u)) (h:w3 s u=some r):bT P g (.binOp .add t a b t2) ty (a6 r):=by
 unfold w3 at h
 split at h
 ·cases h; exact .ew (.cat J ao (by omega))
 ·cases h
theorem Ad (J:Rd g a (a6 s)) (au:sS P t=true):bT P g (.call { callee:=.builtin .len,args:=#[a],argTypes:=#[t] }) ty (ae s.size):=.ew (.Ad J au)
theorem oy {r:Int}(J:Rd g a (a6 s)) (ao:Rd g b (.lit (.int k m))) (au:sS P t=true) (h:kF s m=some r):bT P g (.index t a b) ty (r9 r):=by
 unfold kF at h
 split at h
 ·cases h; exact .ew (.Tn J ao au (by assumption))
 ·cases h
theorem G3 {r:ByteArray}{rF:IntKind}(J:Rd g a (a6 s)) (ah:Rd g b (.lit (.int k m))) (bQ:Rd g c (.lit (.int rF n))) (au:sS P t=true) (h:w8 s m n=some r):bT P g (.slice t a (some b) (some c) none) ty (a6 r):=by
 unfold w8 at h
 split at h
 ·cases h; exact .ew (.LN J ah bQ au (by assumption))
 ·cases h
theorem nb {z bR n:Nat}{cs:List ab}{e:TypeId}(J:Rd g a (.bc z n cs)) (au:fo P t e bR=true):bT P g (.call { callee:=.builtin .len,args:=#[a],argTypes:=#[t] }) ty (ae n):=.ew (.F9 J.bw au)
theorem pc {en:bO α}{L:List α}{y:α}{e:TypeId}(J:Rd g a (.bc en.z L.length (bC en L))) (ao:Rd g b (.lit (.int k m))) (au:fo P t e en.z=true) (h:idx L m=some y):bT P g (.indexAddr t a b) ty (.cx (en.cells y++bC en (L.drop (m.toNat+1)))):=by
 rw [<- Ly en h];obtain ⟨aK,h1,_⟩:=mq h;obtain ⟨j,rfl⟩:=Int.eq_ofNat_of_zero_le aK;exact .ew (.FX J.bw ao.bw au (by omega))
theorem Rf {en:bO α}{L r:List α}{e:TypeId}(J:Rd g a (.bc en.z L.length (bC en L))) (bQ:Rd g c (.lit (.int k n))) (au:fo P t e en.z=true) (h:og L 0 n=some r):bT P g (.slice t a none (some c) none) ty (ak en r):=by
 unfold og at h
 split at h
 ·rename_i aa;obtain ⟨_,h1,af⟩:=aa;cases h;obtain ⟨j,rfl⟩:=Int.eq_ofNat_of_zero_le h1;have:=dh.Ei (P:=P) (ty:=ty) (t:=t) (l:=0) (h:=j) (lo:=none) (hi:=some c) J.bw rfl ⟨_,bQ.bw⟩ au (by omega) (by omega);rw [Ea,GU] at this;have ca:(((L.drop 0).take (j - 0)).length)=j - 0:=by rw [List.length_take,List.length_drop]; omega
  have b6:((j:Int) - 0).toNat=j - 0:=by omega
  rw [b6];unfold ak;have eI:(0:Int).toNat=0:=rfl;rw [eI,ca];exact .ew this
 ·cases h
theorem aaQ {en:bO α}{L r:List α}{e:TypeId}(J:Rd g a (.bc en.z L.length (bC en L))) (ah:Rd g b (.lit (.int k m))) (au:fo P t e en.z=true) (h:og L m L.length=some r):bT P g (.slice t a (some b) none none) ty (ak en r):=by
 unfold og at h
 split at h
 ·rename_i aa;obtain ⟨aK,h1,af⟩:=aa;cases h;obtain ⟨i,rfl⟩:=Int.eq_ofNat_of_zero_le aK;have:=dh.Ei (P:=P) (ty:=ty) (t:=t) (l:=i) (h:=L.length) (lo:=some b) (hi:=none) J.bw ⟨_,ah.bw⟩ rfl au (by omega) (by omega);rw [Ea,GU] at this;have ca:(((L.drop i).take (L.length - i)).length)=L.length - i:=by rw [List.length_take,List.length_drop]; omega
  have b6:((L.length:Int) - (i:Int)).toNat=L.length - i:=by omega
  rw [Int.toNat_natCast,b6];unfold ak;rw [ca];exact .ew this
 ·cases h
theorem BW {cz f off:Nat}{cs:List ab}(J:Rd g a (.cx cs)) (aV:iu P cz f off t=true):bT P g (.fieldAddr cz a f) ty (.cx (cs.drop off)):=.ew (.Fk J.bw aV)
theorem De {x:ab}{cs:List ab}(J:Rd g a (.cx cs)) (au:jK P t=true) (aa:cs.head?=some x):bT P g (.load t a) ty x:=by
 cases cs with
 | nil=>cases aa
 | cons y cs=>cases aa; exact .ew (.Ga J.bw au)
theorem na {z:Nat}{cs cs':List ab}(J:Rd g a (.cx cs)) (au:h5 P t z=true) (aa:cs.take z=cs') (aX:cs'.length=z):bT P g (.load t a) ty (.agg cs'):=by
 subst aa;exact .ew (.Gb J.bw au (by rw [List.length_take] at aX; omega))
theorem Dm {cs:List ab}(J:Rd g a (.cx cs)):bT P g (.nilCheck a) ty (.cx cs):=.ew (.qK J.bw)
theorem cR {p:Place}{k:Nat}(J:Rd g a (.ptr p k)):bT P g (.nilCheck a) ty (.ptr p k):=.ew (.Gl J.bw)
theorem fd {cz f off:Nat}{cs:List ab}{x:ab}(J:Rd g a (.agg cs)) (aV:iu P cz f off t=true) (au:jK P t=true) (ao:cs[off]?=some x):bT P g (.field cz a f) ty x:=.ew (.Fj J.bw aV au ao)
theorem ex {p i:Nat}{cs:List ab}{x y:ab}(J:g p=some (.bS cs)) (ao:cs[i]?=some x) (hr:fY 1 (Place.push ⟨p,[]⟩ i) x=y):bT P g (.extract (.tmp p) i) ty y :=
 .ew (.Fh (cs:=cs.mapIdx λi x=>fY 1 (Place.push ⟨p,[]⟩ i) x) (by simp [bw,J,pn,fY]) (by simp [ao,hr]))
theorem box {e:TypeId}{y:ab}{cs:List ab}(J:Rd g a y) (aa:j9 y=some cs):bT P g (.box e a) ty (.obj cs):=.rK (.box J.bw aa)
theorem nx {cz f off k r:Nat}{cs:List ab}(ax:g r=some (.obj cs)) (J:Rd g a (.ptr ⟨r,[]⟩ k)) (aV:iu P cz f off t=true) (aN:Nat.blt (k+off) cs.length=true):bT P g (.fieldAddr cz a f) ty (.ptr ⟨r,[]⟩ (k+off)) :=
 .ew (.BY J.bw aV ⟨.obj cs,by simp [bH,ax,ab.at],0,0,cs,.inr rfl,by simpa using aN⟩)
theorem qI {k r:Nat}{cs:List ab}{x y:ab}(ax:g r=some (.obj cs)) (J:Rd g a (.ptr ⟨r,[]⟩ k)) (au:jK P t=true) (aa:cs[k]?=some x) (ao:fY 0 ⟨r,[k]⟩ x=y):bT P g (.load t a) ty y:=by
 subst ao;exact .ew (.Dg (p:=⟨r,[]⟩) J.bw au (by simp [bH,ax,ab.at,Place.push,ab.kids,aa]))
theorem dO {k r z:Nat}{cs cs':List ab}(ax:g r=some (.obj cs)) (J:Rd g a (.ptr ⟨r,[]⟩ k)) (au:h5 P t z=true) (hk:Nat.ble (k+z) cs.length=true) (aa:(((cs.drop k).take z).mapIdx λi x=>fY 0 ⟨r,[k+i]⟩ x)=cs'):bT P g (.load t a) ty (.agg cs'):=by
 subst aa;exact .ew (.Ae (p:=⟨r,[]⟩) (n:=0) (z:=0) J.bw au (by simp [bH,ax,ab.at]) (.inr rfl) (Nat.le_of_ble_eq_true hk))
end O
theorem q9.bY {x:Operand}{y:ab}{xs:List Operand}{ys:List ab}(h:Rd g x y) [aB:b9 y] (au:q9 g xs ys):q9 g (x::xs) (y::ys):=.cons h aB.bq au
theorem b_.go {xs:List Operand}{fP:Array TypeId}{f:FuncId}{ys:List ab}{outs:List (Option ab)}{res:ab}(J:q9 g xs ys) (hf:bP P f ys outs res) (aV:hA P f=true) (aW:uM outs=true) [hr:b9 res] :
  b_ P g (.call { callee:=.value (.func f),args:=xs.toArray,argTypes:=fP }) res:=.Vg hf aV J aW hr.bq
end
def x8:Nat->List ab->List (Nat × ab)
 | _,[]=>[]
 | i,x::l=>(i,x)::x8 (i+1) l
theorem NY:∀ (l:List ab) (i t:Nat),get (x8 i l) t=if i<=t then l[t - i]? else none
 | [],i,t=>by simp [x8,get]
 | x::l,i,t=>by
  simp only [x8,get];by_cases h:t=i
  ·subst h; simp
  ·rw [if_neg h,NY l (i+1) t];by_cases h1:i+1<=t
   ·rw [if_pos h1,if_pos (by omega)];have:t - i=(t - (i+1))+1:=by omega
    rw [this,List.getElem?_cons_succ]
   ·rw [if_neg h1,if_neg (by omega)]
theorem S' (args:List ab):s6 args=get (x8 0 args):=funext λt=>by rw [NY]; simp [s6]
theorem bP.go {P:Program}{f:FuncId}{fn:Func}{c:Code}{args:List ab}{outs:List (Option ab)}{res:ab}{N:cP}(aV:P.funcs[f]?=some fn) (ar:fn.body=some c) (bt:fn.ntmps=N.size) (aJ:Nat.ble args.length N.size=true) (hlen:outs.length=args.length)
  (hw:W P N c (get (x8 0 args)) (Fin P N fn.results.toList args.length outs res)):bP P f args outs res :=
 .fin aV ar bt aJ hlen (by rw [S']; exact hw)
end Go.Own
namespace Go.Own
open Go
variable [cG]
section
variable {P:Program}{N:cP}{Φ q0:Exit->aL->Prop}{Ψ:aL->Prop}{G G1:List (Nat × ab)}{A B c:Code}{id k:Nat}{e:Exit}{S R:Type}
inductive ia:aL->List (Nat × ab)->Prop
 | hZ {G:List (Nat × ab)}:ia (get G) G
 | e7 {g g1:aL}{G:List (Nat × ab)}(h:nu g g1) (ar:ia g1 G):ia g G
theorem ia.trans {g:aL}{G G1:List (Nat × ab)}(h:ia g G) (h1:ia (get G) G1):ia g G1:=by
 induction h with
 | hZ=>exact h1
 | e7 h _ aM=>exact .e7 h (aM h1)
inductive Bh (P:Program) (N:cP):aL->Exit->(Exit->aL->Prop)->Prop
 | hZ {g:aL}{e:Exit}{Φ:Exit->aL->Prop}(h:Φ e g):Bh P N g e Φ
 | e7 {g g1:aL}{e:Exit}{Φ:Exit->aL->Prop}(hw:nu g g1) (h:Bh P N g1 e Φ):Bh P N g e Φ
theorem W.outs {g:aL}(h:W P N c g Φ) (qH:∀ e g',Φ e g'->Bh P N g' e q0):W P N c g q0:=by
 intro a w I Fs Q bg bt eu;refine h bg bt λe g' cd w' aq aB=>?_;have sk:=qH e g' aq;clear aq qH;revert aB
 induction sk with
 | hZ h=>exact λaB=>eu _ _ _ _ h aB
 | e7 hw _ aM =>
  intro aB;refine aM eu ?_;obtain ⟨h1,af,I',bW,dZ,bU⟩:=aB;obtain ⟨j2,iw,hD⟩:=dZ.e7 hw;exact ⟨h1,af,I',j2,iw,bU.dN,bU.more,bU.new,λc ⟨t,aa⟩=>bU.own c ⟨t,hD t c aa⟩⟩
def ay (e:Exit) (Φ:Exit->aL->Prop) (G:List (Nat × ab)):Prop:=∀ g,ia g G->Φ e g
theorem W.be {g:aL}(h:W P N c (get G) Φ) (ar:ia g G):W P N c g Φ:=by
 induction ar with
 | hZ=>exact h
 | e7 hw _ aM=>exact (aM h).weaken hw
theorem pE.be {g:aL}(h:pE P N c (get G) Φ) (ar:ia g G):pE P N c g Φ:=by
 induction ar with
 | hZ=>exact h
 | e7 hw _ aM=>exact (aM h).weaken hw
theorem ay.bF (h:W P N B (get G) Φ):ay .normal (pr (λg1=>W P N B g1 Φ) q0) G:=λ_ ar=>abf (h.be ar)
theorem ay.fi (h:ay (.exit k) q0 G):ay (.exit k) (pr Ψ q0) G:=λg ar=>abe (h g ar)
theorem ay.gn (h:ay .ret q0 G):ay .ret (pr Ψ q0) G:=λg ar=>abg (h g ar)
theorem ay.cb (h:ay .normal Φ G):ay .normal (mr id Φ) G:=λg ar=>YS (h g ar)
theorem ay.fu (h:ay .normal Φ G):ay (.exit id) (mr id Φ) G:=λg ar=>YQ (h g ar)
theorem ay.E9 (hk:Nat.beq k id=false) (h:ay (.exit k) Φ G):ay (.exit k) (mr id Φ) G:=λg ar=>YR hk (h g ar)
theorem ay.lP (h:ay .ret Φ G):ay .ret (mr id Φ) G:=λg ar=>YT (h g ar)
theorem W.fq (h:ay (.exit k) Φ G):W P N (.exit k) (get G) Φ:=W.exit (h _ .hZ)
theorem W.cO (h:ay .normal Φ G):W P N .skip (get G) Φ:=W.skip (h _ .hZ)
theorem W.rt (h:ay .ret Φ G):W P N .ret (get G) Φ:=W.ret (h _ .hZ)
theorem W.rx {id:Nat}{l:List Oper}(G1:List (Nat × ab)) (h:aE P N l.toArray l (get G) λg'=>nu g' (get G1)) (hk:ay .normal Φ G1):W P N (.region id l.toArray false) (get G) Φ :=
 W.D_ (λi hi=>by obtain ⟨g',h1,af⟩:=h i hi; exact ⟨g',h1,hk g' (.e7 af .hZ)⟩)
theorem W.c3 {G1:List (Nat × ab)}(h:Trim true (get G) (get G1) G1) (hw:W P N c (get G1) Φ):W P N c (get G) Φ:=hw.weaken h.e7
theorem W.st {G:List (Nat × ab)}(G1:List (Nat × ab)) (h:W P N c (get G1) Φ) (e:G1=G:=by rfl):W P N c (get G) Φ:=by subst e; exact h
theorem W.cb (h:W P N c (get G) (mr id Φ)):W P N (.block id c) (get G) Φ:=W.block h
theorem W.dD (G1:List (Nat × ab)) (h:W P N c (get G) λe g=>e=.normal/\ia g G1) (hk:ay .normal Φ G1):W P N c (get G) Φ :=
 h.mono λe g ⟨he,ar⟩=>by subst he; exact hk g ar
theorem ay.dD (h:Trim true (get G) (get G1) G1):ay .normal (λe g=>e=.normal/\ia g G1) G:=λ_ ar=>⟨rfl,ar.trans (.e7 h.e7 .hZ)⟩
def lx (G:S->List (Nat × ab)) (Ψ:R->Exit->aL->Prop):S ⊕ R->Exit->aL->Prop
 | .inl s,e,g=>e=.normal/\ia g (G s)
 | .inr r,e,g=>e≠.normal/\Ψ r e g
theorem pE.it {f:S->Option (S ⊕ R)}{G:S->List (Nat × ab)}{Ψ:R->Exit->aL->Prop}(ar:∀ s o,f s=some o->W P N c (get (G s)) (lx G Ψ o)) :
  ∀ (n:Nat) (s:S) (r:R),Own.iter f n s=some r->pE P N c (get (G s)) (Ψ r)
 | 0,_,_,h=>by simp [Own.iter] at h
 | n+1,s,r,h=>by
  simp only [Own.iter] at h;cases aV:f s with
  | none=>rw [aV] at h; cases h
  | some o =>
   rw [aV] at h;refine .step ((ar s o aV).mono λe g' hr=>?_);cases o with
   | inl cz =>
    obtain ⟨rfl,hw⟩:=hr;exact (pE.it ar n cz r h).be hw
   | inr c' =>
    cases h;obtain ⟨aB,hw⟩:=hr;cases e with
    | normal=>exact absurd rfl aB
    | _=>exact hw
theorem W.e5 {f:S->Option (S ⊕ R)}{s:S}{r:R}(G:S->List (Nat × ab)) (Ψ:R->Exit->aL->Prop) (h:cg f s=some r) (ar:∀ s o,f s=some o->W P N c (get (G s)) (lx G Ψ o)) (hk:∀ e g,Ψ r e g->Φ e g):W P N (.loop c) (get (G s)) Φ :=
 (W.loop (pE.it ar fuel s r h)).mono hk
theorem W.Af {f:S->Option (S ⊕ R)}{s:S}{r:R}(G:S->List (Nat × ab)) (id:Nat) (mG:R->List (Nat × ab)) (h:cg f s=some r) (ar:∀ s o,f s=some o->W P N c (get (G s)) (lx G (λr e g=>e=.exit id/\ia g (mG r)) o)) (hk:ay (.exit id) Φ (mG r)):W P N (.loop c) (get (G s)) Φ :=
 .e5 G _ h ar λe g ⟨he,aQ⟩=>by subst he; exact hk g aQ
theorem W.PL {gx:Type}{f:S->Option (S ⊕ (R ⊕ gx))}{s:S}{r:R ⊕ gx}(G:S->List (Nat × ab)) (id:Nat) (mG:R->List (Nat × ab)) (jD:gx->List (Nat × ab)) (h:cg f s=some r)
  (ar:∀ s o,f s=some o->W P N c (get (G s)) (lx G (λ(r:R ⊕ gx) e g=>match r with | .inl r=>e=.exit id/\ia g (mG r) | .inr r=>e=.ret/\ia g (jD r)) o))
  (J:∀ x,r=.inl x->ay (.exit id) Φ (mG x)) (hr:∀ x,r=.inr x->ay .ret Φ (jD x)):W P N (.loop c) (get (G s)) Φ:=by
 refine .e5 G _ h ar λe g h=>?_;cases r with
 | inl r=>obtain ⟨rfl,aQ⟩:=h; exact J r rfl g aQ
 | inr r=>obtain ⟨rfl,aQ⟩:=h; exact hr r rfl g aQ
theorem ay.go {s:S}{F:S->List (Nat × ab)}{Ψ:R->Exit->aL->Prop}(h:Trim true (get G) (get (F s)) (F s)):ay .normal (lx F Ψ (.inl s)) G:=λ_ ar=>⟨rfl,ar.trans (.e7 h.e7 .hZ)⟩
theorem ay.aS {r:R}{F:S->List (Nat × ab)}{mG:R->List (Nat × ab)}(h:Trim true (get G) (get (mG r)) (mG r)):ay (.exit id) (lx F (λr e g=>e=.exit id/\ia g (mG r)) (.inr r)) G:=λ_ ar=>⟨by simp,rfl,ar.trans (.e7 h.e7 .hZ)⟩
theorem ay.x2 {gx:Type}{r:R}{F:S->List (Nat × ab)}{mG:R->List (Nat × ab)}{jD:gx->List (Nat × ab)}(h:Trim true (get G) (get (mG r)) (mG r)) :
  ay (.exit id) (lx F (λ(r:R ⊕ gx) e g=>match r with | .inl r=>e=.exit id/\ia g (mG r) | .inr r=>e=.ret/\ia g (jD r)) (.inr (.inl r))) G:=λ_ ar=>⟨by simp,rfl,ar.trans (.e7 h.e7 .hZ)⟩
theorem ay.iQ {gx:Type}{r:gx}{F:S->List (Nat × ab)}{mG:R->List (Nat × ab)}{jD:gx->List (Nat × ab)}(h:Trim true (get G) (get (jD r)) (jD r)) :
  ay .ret (lx F (λ(r:R ⊕ gx) e g=>match r with | .inl r=>e=.exit id/\ia g (mG r) | .inr r=>e=.ret/\ia g (jD r)) (.inr (.inr r))) G:=λ_ ar=>⟨by simp,rfl,ar.trans (.e7 h.e7 .hZ)⟩
def qa (P:Program) (N:cP) (rs:List ResultVar) (n:Nat) (outs:List (Option ab)) (res:ab) (e:Exit) (g:aL):Prop:=∃ G,ia g G/\Fin P N rs n outs res e (get G)
theorem W.fin {rs:List ResultVar}{n:Nat}{outs:List (Option ab)}{res:ab}{g:aL}(h:W P N c g (qa P N rs n outs res)):W P N c g (Fin P N rs n outs res):=by
 have key:∀ e g,qa P N rs n outs res e g->Bh P N g e (Fin P N rs n outs res):=by
  rintro e g ⟨G,ar,aV⟩
  induction ar with
  | hZ=>exact .hZ aV
  | e7 hw _ aM=>exact .e7 hw (aM aV)
 exact W.outs h key
theorem ay.fin {rs:List ResultVar}{n:Nat}{outs:List (Option ab)}{res:ab}(h:Fin P N rs n outs res e (get G)):ay e (qa P N rs n outs res) G:=λ_ ar=>⟨G,ar,h⟩
end
section
variable {P:Program}{N:cP}{ops:Array Oper}{bj:List (List Nat)}{g0:aL}{K:aL->Prop}{l:List Oper}{acc:Acc}{d i:Nat}{op:Op}{ty:TypeId}{pos:String}{after:Array Edge}{x:ab}{gd:Option (Nat × Bool)}
abbrev kS (bj:List (List Nat)) (g0:aL) (j:Nat) (acc:Acc):aL:=dq g0 (λm=>(bj.getD j []).contains m) acc
def bB (P:Program) (N:cP) (ops:Array Oper) (bj:List (List Nat)) (g0:aL) (i:Nat) (acc:Acc) (l:List Oper) (K:aL->Prop):Prop:=∀ dB j,nr P N ops bj g0 i dB->iG P N ops bj g0 i dB j acc->ops.toList.drop j=l->∃ g',sZ P N ops bj i dB g0 g'/\K g'
theorem BS {j bX:Nat}{o:Oper}(h:ops.toList.drop j=o::l) (ag:Nat.beq ops.size (bX+l.length+1)=true):j=bX:=by
 grind [List.length_cons,Nat.eq_of_beq_eq_true]
theorem SI (aB:acc.all (λe=>!Nat.beq e.2.1 d)=true):∀ e∈acc,e.2.1≠d:=by
 intro e he h;have:=List.all_eq_true.1 aB e he
 simp_all
theorem bB.st (bX:Nat) {r:Option ab}{o:Oper}(aR:o.dst=some d) (ax:qh P (kS bj g0 bX acc) ops o r) (ag:Nat.beq ops.size (bX+l.length+1)=true) (aV:g0 d=none) (aB:acc.all (λe=>!Nat.beq e.2.1 d)=true) (bt:N.ok d=true)
  (hk:bB P N ops bj g0 i ((bX,d,r)::acc) l K):bB P N ops bj g0 i acc (o::l) K:=by
 intro dB j bI l1 mj;have:=BS mj ag;subst this;obtain ⟨h1,af⟩:=drop_cons mj;exact hk dB (j+1) bI (.step l1 h1 aR aV (SI aB) bt ax) af
theorem bB.v (bX:Nat) (aq:bT P (kS bj g0 bX acc) op ty x) (ag:Nat.beq ops.size (bX+l.length+1)=true) (aV:g0 d=none) (aB:acc.all (λe=>!Nat.beq e.2.1 d)=true) (bt:N.ok d=true) (aQ:eC (kS bj g0 bX acc) ops gd)
  (hk:bB P N ops bj g0 i ((bX,d,some x)::acc) l K):bB P N ops bj g0 i acc (⟨some d,op,ty,pos,after,gd⟩::l) K :=
 .st bX (r:=some x) rfl (.inl ⟨aQ.wanted,.inl aq⟩) ag aV aB bt hk
theorem bB.c (bX:Nat) (aq:b_ P (kS bj g0 bX acc) op x) (ag:Nat.beq ops.size (bX+l.length+1)=true) (aV:g0 d=none) (aB:acc.all (λe=>!Nat.beq e.2.1 d)=true) (bt:N.ok d=true) (aQ:eC (kS bj g0 bX acc) ops gd)
  (hk:bB P N ops bj g0 i ((bX,d,some x)::acc) l K):bB P N ops bj g0 i acc (⟨some d,op,ty,pos,after,gd⟩::l) K :=
 .st bX (r:=some x) rfl (.inl ⟨aQ.wanted,.inr aq⟩) ag aV aB bt hk
theorem bB.ps (bX:Nat) {vW t':Nat}{b c:Bool}(h:(ops[vW]?).bind (·.dst)=some t') (aQ:kS bj g0 bX acc t'=some (bd c)) (ar:c=!b) (ag:Nat.beq ops.size (bX+l.length+1)=true) (aV:g0 d=none) (aB:acc.all (λe=>!Nat.beq e.2.1 d)=true) (bt:N.ok d=true)
  (hk:bB P N ops bj g0 i ((bX,d,some (.bS []))::acc) l K):bB P N ops bj g0 i acc (⟨some d,op,ty,pos,after,some (vW,b)⟩::l) K :=
 .st bX (r:=some (.bS [])) rfl (.inr (.inl ⟨⟨t',h,.inl ⟨c,aQ,by subst ar; cases b <;> rfl⟩⟩,rfl⟩)) ag aV aB bt hk
theorem bB.pu (bX:Nat) {vW t':Nat}{b:Bool}(h:(ops[vW]?).bind (·.dst)=some t') (aQ:kS bj g0 bX acc t'=some (.bS [])) (ag:Nat.beq ops.size (bX+l.length+1)=true) (aV:g0 d=none) (aB:acc.all (λe=>!Nat.beq e.2.1 d)=true) (bt:N.ok d=true)
  (hk:bB P N ops bj g0 i ((bX,d,some (.bS []))::acc) l K):bB P N ops bj g0 i acc (⟨some d,op,ty,pos,after,some (vW,b)⟩::l) K :=
 .st bX (r:=some (.bS [])) rfl (.inr (.inl ⟨⟨t',h,.inr ⟨aQ,rfl⟩⟩,rfl⟩)) ag aV aB bt hk
def ob (G:List (Nat × ab)):Bool:=G.all λp=>match p.2 with | .bM ..=>false | _=>true
theorem x6 {G:List (Nat × ab)}(h:ob G=true):∀ t z q n m new,get G t≠some (.bM z q n m new):=by
 induction G with
 | nil=>intro t z q n m new J; cases J
 | cons p G aM =>
  grind [ob,get]
def x4:List Place->Bool
 | []=>true
 | p::l=>l.all (λq=>!(Nat.beq p.root q.root&&decide (p.path=q.path)))&&x4 l
omit [cG] in
theorem K6:∀ {l:List Place},x4 l=true->l.Nodup
 | [],_=>List.nodup_nil
 | p::l,h=>by
  simp only [x4,Bool.and_eq_true,List.all_eq_true] at h;refine List.nodup_cons.2 ⟨λhm=>?_,K6 h.2⟩;have:=h.1 p hm;simp at this
theorem bB.fin {G G1:List (Nat × ab)}(aX:x4 (acc.filterMap lp)=true) (fN:ob G=true) (hi:Nat.ble i ops.size=true) (h:Trim true (dq (get G) (λ_=>true) acc) (get G1) G1):bB P N ops bj (get G) i acc [] λg'=>nu g' (get G1):=by
 intro dB j bI l1 mj;have ag:j=ops.size:=by
  have h1:ops.size<=j:=by
   have:=congrArg List.length mj;rw [List.length_drop,List.length_nil,Array.length_toList] at this;omega
  have aF:j<=ops.size:=by
   cases l1 with
   | nil=>exact Nat.le_of_ble_eq_true hi
   | step _ aW=>have:=(Array.getElem?_eq_some_iff.1 aW).1; omega
  omega
 subst ag;exact ⟨_,.fin l1 (K6 aX) (x6 fN),h.e7⟩
theorem sZ.Tq {g g1 g':aL}{i j:Nat}{dB:Acc}{o:Oper}(bI:nr P N ops bj g i dB) (ax:iG P N ops bj g i dB j acc) (gT:(acc.filterMap lp).Nodup) (fN:∀ t z q n m new,g t≠some (.bM z q n m new)) (aW:ops[j]?=some o) (hw:iH (dq g (λ_=>true) acc) ops o true)
  (he:bl P N (dq g (λ_=>true) acc) o g1) (aJ:(List.range j).all (λk=>(bj.getD j []).contains k)=true) (ar:(List.range ops.size).all (λk=>decide (k<=j)||(bj.getD k []).contains j)=true) (hr:sZ P N ops bj (j+1) [] g1 g'):sZ P N ops bj i dB g g':=by
 have dC:∀ e∈acc,(bj.getD j []).contains e.1=true:=λe h=>List.all_eq_true.1 aJ e.1 (List.mem_range.2 ((ax.le bI).2 e h));have e:dq g (λm=>(bj.getD j []).contains m) acc=dq g (λ_=>true) acc:=funext λt=>Ep λe h _=>dC e h;have fl:[]=acc.filter λe=>!(bj.getD j []).contains e.1:=by
  grind [List.filter_eq_nil_iff]
 exact .Bz (rs:=sM []) ax gT fN aW (by rw [e]; exact hw) (by rw [e]; exact he.jM.v) (λp aq=>by simp [sM] at aq) fl (by simp) (by simp) (by simp) ar hr
theorem W.rd {id:Nat}{l:List Oper}{G:List (Nat × ab)}{Φ:Exit->aL->Prop}(bj:List (List Nat)) (G1:List (Nat × ab)) (hm:P.follows .mixedOrders=true) (dC:qk l.toArray bj=true)
  (h:bB P N l.toArray bj (get G) 0 [] l λg'=>nu g' (get G1)) (hk:ay .normal Φ G1):W P N (.region id l.toArray true) (get G) Φ:=by
 obtain ⟨g',h1,af⟩:=h [] 0 .nil .nil (by simp);exact (lK.draw hm dC h1).w (hk g' (.e7 af .hZ))
end
end Go.Own
namespace Go.Own
open Go
variable [cG]
variable {α:Type}
section
variable {P:Program}{N:cP}{ops:Array Oper}{g g2:aL}{K:aL->Prop}{l:List Oper}{d r:Nat}{ty t t2:TypeId}{pos:String}{after:Array Edge}{a b c:Operand}{k kd:IntKind}{m n:Int}{s u:ByteArray}
namespace O
theorem dz {e:TypeId}{z:Value}{cs:List ab}(aX:(P.info? e).bind (·.zero)=some z) (h1:z.cells.toList.all Value.oneCell'=true) (aa:z.cells.toList.map ky=cs):bT P g (.alloc e) ty (.obj cs):=by
 subst aa; exact .rK (.alloc aX (by rw [<- Array.all_toList]; exact h1))
theorem d' {t:TypeId}{parts:Array (Nat × Operand)}{pl:List (Nat × Nat)}{cW:Value}{ps:List (Nat × List ab)}{cs:List ab}(au:j0 P t pl=true) (aX:(P.info? t).bind (·.zero)=some cW) (h1:cW.cells.toList.all Value.oneCell'=true)
  (aq:rL g parts.toList=some ps) (aa:vp (λi=>pl[i]?) (cW.cells.toList.map ky) ps=some cs):bT P g (.build t parts) ty (.agg cs):=.As (.build au aX (by rw [<- Array.all_toList]; exact h1) aq aa)
end O
inductive qg (g g2:aL):ab->Prop
 | n {x:ab}(h:cE x):qg g g2 x
 | p {r k:Nat}{cs cs2:List ab}(h:g r=some (.obj cs)) (hk:k<cs.length) (af:g2 r=some (.obj cs2)) (fz:k<cs2.length):qg g g2 (.ptr ⟨r,[]⟩ k)
 | r {z n N Ms q:Nat}{cs cs2:List ab}(h:g q=some (.own z N cs)) (aB:n<=N) (af:g2 q=some (.own z Ms cs2)) (rn:n<=Ms):qg g g2 (.a7 z ⟨q,[]⟩ n)
theorem uX {r k:Nat}{cs:List ab}(h:g r=some (.obj cs)) (hk:k<cs.length):gE g (.ptr ⟨r,[]⟩ k):=⟨.obj cs,by simp [bH,h,ab.at],0,0,cs,.inr rfl,hk⟩
theorem A2 {z n N q:Nat}{cs:List ab}(h:g q=some (.own z N cs)) (aB:n<=N):gE g (.a7 z ⟨q,[]⟩ n):=.inl ⟨N,cs,by simp [bH,h,ab.at],aB⟩
theorem qg.b0 {x:ab}(h:qg g g2 x):cU g2 x:=by
 cases h with
 | n h=>exact .bq h
 | p _ _ af fz=>exact .ref rfl (uX af fz)
 | r _ _ af rn=>exact .ref rfl (A2 af rn)
theorem qg.wv {x:ab}{A1 k0 m0:Nat}(h:qg g g2 x):jG (λr=>gE g r/\Clear ⟨A1,[]⟩ k0 m0 r/\gE g2 r) x:=by
 cases h with
 | n h=>exact .bq h
 | p h hk af fz =>
  refine .ref rfl ⟨uX h hk,?_,uX af fz⟩;intro q a_ _ j c' e
  grind [A3]
 | r h hk af fz =>
  refine .ref rfl ⟨A2 h hk,?_,A2 af fz⟩;intro q a_ _ j c' e
  grind [A3]
theorem qg.fE {x:ab}(h:qg g g2 x):∀ z p n m new,x≠.bM z p n m new:=by
 rintro z p n m new rfl;cases h with
 | n h=>cases h
inductive ly (g g2:aL) (r:Nat) (cs2:List ab):List (Nat × ab)->Prop
 | nil:ly g g2 r cs2 []
 | n {s:Nat}{x:ab}{l:List (Nat × ab)}(cQ:Nat.beq s r=false) (h:g s=some x) [aB:b9 x] (t:ly g g2 r cs2 l):ly g g2 r cs2 ((s,x)::l)
 | p {s q k:Nat}{l:List (Nat × ab)}{cs kH:List ab}(cQ:Nat.beq s r=false) (h:g s=some (.ptr ⟨q,[]⟩ k)) (h1:g q=some (.obj cs)) (hk:Nat.blt k cs.length=true) (af:g2 q=some (.obj kH)) (fz:Nat.blt k kH.length=true) (t:ly g g2 r cs2 l):ly g g2 r cs2 ((s,.ptr ⟨q,[]⟩ k)::l)
 | w {α:Type}{s q:Nat}{en:bO α}{L:List α}{l:List (Nat × ab)}(cQ:Nat.beq s r=false) (h:g s=some (.a7 en.z ⟨q,[]⟩ L.length)) (h1:g q=some (aC en L)) (af:g2 q=some (aC en L)) (t:ly g g2 r cs2 l):ly g g2 r cs2 ((s,.a7 en.z ⟨q,[]⟩ L.length)::l)
 | b {l:List (Nat × ab)}{x:ab}(e:x=.obj cs2) [aB:dm cs2] (t:ly g g2 r cs2 l):ly g g2 r cs2 ((r,x)::l)
theorem ly.spec {cs2:List ab}{l:List (Nat × ab)}(h:ly g g2 r cs2 l):∀ t x,get l t=some x->(t≠r/\g t=some x/\qg g g2 x)\/(t=r/\x=.obj cs2/\cE x):=by
 induction h with
 | nil=>intro t x J; cases J
 | @n s x l cQ h aB _ aM =>
  intro t y ao; simp only [get] at ao
  split at ao
  ·rename_i e; subst e; cases ao; exact .inl ⟨Nat.ne_of_beq_eq_false cQ,h,.n aB.bq⟩
  ·exact aM t y ao
 | @p s q k l cs kH cQ h h1 hk af fz _ aM =>
  intro t y ao; simp only [get] at ao
  split at ao
  ·rename_i e; subst e; cases ao; exact .inl ⟨Nat.ne_of_beq_eq_false cQ,h,.p h1 (by simpa using hk) af (by simpa using fz)⟩
  ·exact aM t y ao
 | @w α s q en L l cQ h h1 af _ aM =>
  intro t y ao; simp only [get] at ao
  split at ao
  ·rename_i e; subst e; cases ao; exact .inl ⟨Nat.ne_of_beq_eq_false cQ,h,.r h1 (Nat.le_refl _) af (Nat.le_refl _)⟩
  ·exact aM t y ao
 | @b l x e aB _ aM =>
  intro t y ao; simp only [get] at ao
  split at ao
  ·rename_i b4; subst b4; cases ao; subst e; exact .inr ⟨rfl,rfl,.obj aB.bq⟩
  ·exact aM t y ao
theorem bl.box {o:Oper}{k0:Nat}{cs cs' cs2:List ab}{y:ab}{G2:List (Nat × ab)}(aW:o.op=.store t a b) (aR:o.dst=none) (ax:g r=some (.obj cs)) (aJ:Rd g a (.ptr ⟨r,[]⟩ k0)) (ar:Rd g b y) (aB:cE y) (aa:o2 y=some cs') (aX:hy P t cs'.length=true)
  (hk:k0+cs'.length<=cs.length) (aK:0<cs'.length) (he:e0 cs k0 cs'=cs2) [eL:dm cs] (hr:get G2 r≠none) (df:ly g (get G2) r cs2 G2):bl P N g o (get G2):=by
 subst he;have j':g r≠none:=by rw [ax]; simp
 refine .store aW aR aJ.bw ar.bw (.bq (by simpa using aB)) .refl aa aX (p:=⟨r,[]⟩) (nd:=.obj cs) (z:=0) (n:=0) (by simp [bH,ax,ab.at]) (.inr rfl) hk aK (λt x J=>?_) (λt x J y ao=>?_) (λt z q n m new J=>?_) hr
 ·rcases df.spec t x J with ⟨h1,af,_⟩ | ⟨h1,af,_⟩
  all_goals grind [ct,ab.setAt,ab.e0]
 ·rcases df.spec t x J with ⟨h1,af,aF⟩ | ⟨h1,af,aF⟩
  ·rw [af] at ao;cases ao;exact aF.wv
  ·subst h1;rw [ax] at ao;cases ao;exact .bq (.obj eL.bq)
 ·rcases df.spec t _ J with ⟨_,_,aF⟩ | ⟨_,af,_⟩
  ·exact aF.fE _ _ _ _ _ rfl
  grind
theorem Trim.q {H2:Bool}{G3 q k0:Nat}{cs:List ab}{PI:List (Nat × ab)}(h:g G3=some (.ptr ⟨q,[]⟩ k0)) (af:g2 q=some (.obj cs)) (hk:Nat.blt k0 cs.length=true) (my:Trim H2 g g2 PI):Trim H2 g g2 ((G3,.ptr ⟨q,[]⟩ k0)::PI) :=
 .r h (.ref rfl (uX af (by simpa using hk))) (by simp) my
theorem aE.jq {o:Oper}{G2:List (Nat × ab)}(aQ:o.guard=none) (he:bl P N g o (get G2)) (hk:aE P N ops l (get G2) K):aE P N ops (o::l) g K:=by
 intro i hi;obtain ⟨h1,af⟩:=drop_cons hi;obtain ⟨g',hr,c6⟩:=hk (i+1) af;refine ⟨g',.jM h1 ?_ he hr,c6⟩
 grind [iH]
theorem aE.kf {k0:Nat}{cs cs' cs2:List ab}{y:ab}{G2:List (Nat × ab)}(ax:g r=some (.obj cs)) (aJ:Rd g a (.ptr ⟨r,[]⟩ k0)) (ar:Rd g b y) [aB:b9 y] (aa:o2 y=some cs') (aX:hy P t cs'.length=true)
  (hk:Nat.ble (k0+cs'.length) cs.length=true) (aK:Nat.blt 0 cs'.length=true) (he:e0 cs k0 cs'=cs2) [eL:dm cs] (hr:(get G2 r).isSome=true) (df:ly g (get G2) r cs2 G2) (JS:aE P N ops l (get G2) K):aE P N ops (⟨none,.store t a b,ty,pos,after,none⟩::l) g K :=
 .jq rfl (.box rfl rfl ax aJ ar aB.bq aa aX (Nat.le_of_ble_eq_true hk) (by simpa using aK) he (by intro e; rw [e] at hr; cases hr) df) JS
variable {bj:List (List Nat)}{acc:Acc}{i:Nat}
end
end Go.Own
namespace Go.Own
open Go
variable [cG]
variable {α β:Type}
def oO (m:Int) (z:α):Option (List α):=if 0<=m/\m<=lim then some (List.replicate m.toNat z) else none
def c8 (l m:List α):Option (List α):=if l.length+m.length<=lim then some (l++m) else none
class Flat (e:bO α):Prop where hM:∀ a,(e.cells a).all mg=true
instance:Flat ai:=⟨λ_=>rfl⟩
theorem aan (e:bO α) [h:Flat e] (l:List α):(bC e l).all mg=true:=by
 refine List.all_eq_true.2 λx J=>?_;obtain ⟨a,_,aJ⟩:=List.mem_flatMap.1 J;exact List.all_eq_true.1 (h.hM a) x aJ
theorem p2 (e:bO α) (l m:List α):(.own e.z (l.length+m.length) (bC e l++bC e m):ab)=aC e (l++m):=by
 grind [QO]
theorem wx (e:bO α) (l:List α):(bC e l).take (l.length * e.z)=bC e l:=by grind [oQ]
theorem QQ:∀ L:List Int,bC se L=L.map λb=>.lit (.int .u8 b)
 | []=>rfl
 | x::L=>by
  have:bC se (x::L)=r9 x::bC se L:=rfl;rw [this,List.map_cons,QQ L]
section
variable {P:Program}{N:cP}{ops:Array Oper}{g g1 g2:aL}{K:aL->Prop}{l:List Oper}{d r:Nat}{ty t t2:TypeId}{pos:String}{after:Array Edge}{gd:Option (Nat × Bool)}{a b c:Operand}{k kd:IntKind}{m n:Int}{s u:ByteArray}{p q:Place}
namespace O
theorem de {e eZ:Nat}{parts:Array (Nat × Operand)}{ys:List ab}(en:bO α) (L:List α) (au:fo P t e en.z=true) (J:hh g (parts.toList.map (·.2))=some ys) (aa:o1 ys=some (bC en L)) (aX:ys.all (λy=>match j9 y with | some c=>Nat.beq c.length en.z | none=>false)=true)
  (aq:parts.toList=(parts.toList.map (·.2)).mapIdx (λi x=>(i,x))) (aB:(parts.toList.map (·.2)).length=eZ) (ah:L.length=eZ) (hzero:jh P e en.z=true) (ar:Nat.ble (eZ * en.z) 16777216=true) (fm:Nat.ble eZ 16777216=true):bT P g (.buildSlice t eZ parts) ty (aC en L):=by
 subst aB;have:=ot.buildSlice (P:=P) (ty:=ty) au aq J (λy ao=>by
  grind [Nat.eq_of_beq_eq_true]) aa (Nat.le_of_ble_eq_true ar) (Nat.le_of_ble_eq_true fm) (.inr (RX hzero))
 unfold aC;rw [ah];exact .rK this
theorem lF {z bR n:Nat}{e:TypeId}(J:Rd g a (.a7 z p n)) (au:fo P t e bR=true):bT P g (.call { callee:=.builtin .len,args:=#[a],argTypes:=#[t] }) ty (ae n):=.ew (.F8 J.bw au)
theorem gN {en:bO α}{L:List α}{y:α}{e:TypeId}(aq:bH g p=some (aC en L)) (J:Rd g a (.a7 en.z p L.length)) (hi:Rd g b (.lit (.int k m))) (au:fo P t e en.z=true) (h:idx L m=some y) (aX:Nat.blt 0 en.z=true):bT P g (.indexAddr t a b) ty (.ptr p (m.toNat * en.z+0)):=by
 obtain ⟨aK,h1,_⟩:=mq h;obtain ⟨j,rfl⟩:=Int.eq_ofNat_of_zero_le aK;have Pj:0<en.z:=by simpa using aX
 have ag:j<L.length:=by omega
 refine .ew (.FW J.bw hi.bw au ag ⟨_,aq,_,_,_,.inl rfl,?_⟩)
 simp_all [oQ]
theorem aai {en:bO α}{L:List α}{y:α}{o:Nat}(h:idx L m=some y) (aW:o<en.z):m.toNat * en.z+o<(bC en L).length:=by
 obtain ⟨aK,h1,_⟩:=mq h;rw [oQ];have af:m.toNat+1<=L.length:=by omega
 calc m.toNat * en.z+o<m.toNat * en.z+en.z:=by omega
  _=(m.toNat+1) * en.z:=by rw [Nat.add_mul]; omega
  _<=L.length * en.z:=Nat.mul_le_mul_right _ af
theorem kI {en:bO α}{L:List α}{y:α}{cz f off o fU:Nat}(aq:bH g p=some (aC en L)) (J:Rd g a (.ptr p (m.toNat * en.z+o))) (aV:iu P cz f off t=true) (h:idx L m=some y) (aW:o+off=fU) (aN:Nat.blt fU en.z=true):bT P g (.fieldAddr cz a f) ty (.ptr p (m.toNat * en.z+fU)):=by
 subst aW;rw [<- Nat.add_assoc];refine .ew (.BY J.bw aV ⟨_,aq,_,_,_,.inl rfl,?_⟩)
 simp_all [Nat.add_assoc,aai]
theorem vh {en:bO α}{L:List α}{y:α}{o:Nat}{x:ab}(aq:bH g p=some (aC en L)) (h:idx L m=some y) (aa:(en.cells y)[o]?=some x):bH g (p.push (m.toNat * en.z+o))=some x:=by
 rw [t_,aq];exact Lx en h aa
theorem jV {en:bO α}{L:List α}{y:α}{o:Nat}{x x':ab}(aq:bH g p=some (aC en L)) (J:Rd g a (.ptr p (m.toNat * en.z+o))) (au:jK P t=true) (h:idx L m=some y) (aa:(en.cells y)[o]?=some x) (hr:fY 0 (p.push (m.toNat * en.z+o)) x=x'):bT P g (.load t a) ty x':=by
 subst hr;exact .ew (.Dg J.bw au (vh aq h aa))
theorem Y2 {en:bO α}{L:List α}{y:α}{o z:Nat}{cs':List ab}(aq:bH g p=some (aC en L)) (J:Rd g a (.ptr p (m.toNat * en.z+o))) (au:h5 P t z=true) (h:idx L m=some y) (aX:Nat.ble (o+z) en.z=true)
  (aa:(((en.cells y).drop o).take z).mapIdx (λi x=>fY 0 (p.push (m.toNat * en.z+o+i)) x)=cs'):bT P g (.load t a) ty (.agg cs'):=by
 have Pj:=Nat.le_of_ble_eq_true aX;have mj:((bC en L).drop (m.toNat * en.z+o)).take z=((en.cells y).drop o).take z:=by
  rw [<- List.drop_drop,Ly en h,List.drop_append_of_le_length (by rw [en.len]; omega),List.take_append_of_le_length (by rw [List.length_drop,en.len]; omega)]
 subst aa;rw [<- mj];refine .ew (.Ae J.bw au aq (.inl rfl) ?_);obtain ⟨aK,h1,_⟩:=mq h;rw [oQ];have af:m.toNat+1<=L.length:=by omega
 calc m.toNat * en.z+o+z<=m.toNat * en.z+en.z:=by omega
  _=(m.toNat+1) * en.z:=by rw [Nat.add_mul]; omega
  _<=L.length * en.z:=Nat.mul_le_mul_right _ af
end O
class r6 (g:aL):Prop where fE:∀ t z q n m new,g t≠some (.bM z q n m new)
class qb (x:ab):Prop where fE:∀ z q n m new,x≠.bM z q n m new
instance {x:ab} [h:b9 x]:qb x:=⟨by rintro z q n m new rfl; cases h.bq⟩
instance {p:Place}{k:Nat}:qb (.ptr p k):=⟨by simp⟩
instance {p:Place}{z n:Nat}:qb (.a7 z p n):=⟨by simp⟩
instance {cs:List ab}:qb (.agg cs):=⟨by simp⟩
instance {cs:List ab}:qb (.obj cs):=⟨by simp⟩
instance {g:aL}{d:Nat}{x:ab} [h:r6 g] [J:qb x]:r6 (cT g d x):=⟨λt z q n m new e=>by
 unfold cT at e
 split at e
 ·cases e; exact J.fE _ _ _ _ _ rfl
 ·exact h.fE _ _ _ _ _ _ e⟩
instance:r6 (get []):=⟨λ_ _ _ _ _ _ e=>by cases e⟩
instance {t:Nat}{x:ab}{G:List (Nat × ab)} [J:qb x] [h:r6 (get G)]:r6 (get ((t,x)::G)):=⟨λs z q n m new e=>by
 simp only [get] at e
 split at e
 ·cases e; exact J.fE _ _ _ _ _ rfl
 ·exact h.fE _ _ _ _ _ _ e⟩
class EN (acc:Acc):Prop where fE:∀ e∈acc,∀ z q n m new,e.2.2≠some (.bM z q n m new)
instance:EN []:=⟨by simp⟩
instance {j d:Nat}{x:ab}{acc:Acc} [J:qb x] [h:EN acc]:EN ((j,d,some x)::acc):=⟨λe he z q n m new bQ=>by
 rcases List.mem_cons.1 he with rfl | he
 ·exact J.fE z q n m new (Option.some.inj bQ)
 ·exact h.fE e he z q n m new bQ⟩
instance {G:List (Nat × ab)}{A:Nat->Bool}{acc:Acc} [aQ:r6 (get G)] [h:EN acc]:r6 (dq (get G) A acc):=⟨λt z q n m new e=>by
 rcases u7 e with ⟨b4,he,_,_,af⟩ | ⟨_,af⟩
 ·exact h.fE b4 he _ _ _ _ _ af
 ·exact aQ.fE _ _ _ _ _ _ af⟩
theorem wR {L M:List α}{r:List α}{b:Nat}(h:c8 L M=some r) (ar:Nat.ble b 128=true):L.length+M.length<=4611686018427387904/\(L.length+M.length) * b<=140737488355328/\r=L++M:=by
 unfold c8 at h
 split at h
 ·rename_i ah;have j_:=Nat.le_of_ble_eq_true ar;have Cx:lim=1099511627776:=rfl;refine ⟨by omega,?_,(Option.some.inj h).symm⟩
  calc (L.length+M.length) * b<=1099511627776 * 128:=Nat.mul_le_mul ah j_
   _=140737488355328:=by decide
 ·cases h
inductive ov (g:aL) (en:bO α):ab->List α->Prop
 | i {M:List α}:ov g en (.bc en.z M.length (bC en M)) M
 | n:ov g en .aP []
 | o {q:Place}{M:List α}(a_:bH g q=some (aC en M)) (aV:(bC en M).all mg=true):ov g en (.a7 en.z q M.length) M
 | of {y:ab}{M:List α}(h:Src g y en.z M.length (bC en M)):ov g en y M
theorem ov.src {en:bO α}{y:ab}{M:List α}(h:ov g en y M):Src g y en.z M.length (bC en M):=by
 cases h with
 | i=>exact .bc
 | n=>exact .aP
 | of h=>exact h
 | o a_ aV =>
  have:=Src.a7 (g:=g) (m:=M.length) a_ (Nat.le_refl _)
  simp_all [wx,B0]
theorem ov.flat (en:bO α) [Flat en] {q:Place}{M:List α}(a_:bH g q=some (aC en M)):ov g en (.a7 en.z q M.length) M:=.o a_ (aan en M)
namespace O
theorem ap {en:bO α}{L M r:List α}{y:ab}{e gF:Nat}(ax:Rd g a (.a7 en.z p L.length)) (aq:bH g p=some (aC en L)) (J:Rd g b y) (hm:ov g en y M) (au:il P t e en.z gF=true) (ar:Nat.ble gF 128=true) (h:c8 L M=some r) [eL:r6 g] :
  bT P g (.call { callee:=.builtin .append,args:=#[a,b],argTypes:=#[t,t] }) ty (.bM en.z p L.length M.length (bC en M)):=by
 obtain ⟨h1,af,_⟩:=wR h ar;exact .je (.grow ax.bw (.inl ⟨_,aq⟩) (λt bR cq m' cN e=>eL.fE _ _ _ _ _ _ e) J.bw hm.src au h1 af)
theorem S5 {en:bO α}{M r:List α}{y:ab}{e gF:Nat}(ax:Rd g a .aP) (J:Rd g b y) (hm:ov g en y M) (au:il P t e en.z gF=true) (ar:Nat.ble gF 128=true) (h:c8 [] M=some r) :
  bT P g (.call { callee:=.builtin .append,args:=#[a,b],argTypes:=#[t,t] }) ty (aC en M):=by
 obtain ⟨h1,af,_⟩:=wR h ar;simp only [List.length_nil,Nat.zero_add] at h1 af;exact .je (.nil ax.bw J.bw hm.src au h1 af)
end O
inductive nt (ex:List Nat) (g g2:aL):List (Nat × ab)->Prop
 | nil:nt ex g g2 []
 | n {s:Nat}{x:ab}{l:List (Nat × ab)}(cQ:ex.elem s=false) (h:g s=some x) [aB:b9 x] (t:nt ex g g2 l):nt ex g g2 ((s,x)::l)
 | p {s q k:Nat}{l:List (Nat × ab)}{kH:List ab}(cQ:ex.elem s=false) (h:g s=some (.ptr ⟨q,[]⟩ k)) (af:g2 q=some (.obj kH)) (fz:Nat.blt k kH.length=true) (t:nt ex g g2 l):nt ex g g2 ((s,.ptr ⟨q,[]⟩ k)::l)
 | w {α:Type}{s q:Nat}{en:bO α}{L:List α}{l:List (Nat × ab)}(cQ:ex.elem s=false) (h:g s=some (.a7 en.z ⟨q,[]⟩ L.length)) (af:g2 q=some (aC en L)) (t:nt ex g g2 l):nt ex g g2 ((s,.a7 en.z ⟨q,[]⟩ L.length)::l)
theorem nt.spec {ex:List Nat}{l:List (Nat × ab)}(h:nt ex g g2 l):∀ t x,get l t=some x->ex.elem t=false/\g t=some x/\cU g2 x/\∀ z p n m new,x≠.bM z p n m new:=by
 induction h with
 | nil=>intro t x J; cases J
 | @n s x l cQ h aB _ aM =>
  intro t y ao; simp only [get] at ao
  split at ao
  ·rename_i e; subst e; cases ao; exact ⟨cQ,h,.bq aB.bq,by rintro z p n m new rfl; cases aB.bq⟩
  ·exact aM t y ao
 | @p s q k l kH cQ h af fz _ aM =>
  intro t y ao; simp only [get] at ao
  split at ao
  ·rename_i e; subst e; cases ao; exact ⟨cQ,h,.ref rfl (uX af (by simpa using fz)),by simp⟩
  ·exact aM t y ao
 | @w α s q en L l cQ h af _ aM =>
  intro t y ao; simp only [get] at ao
  split at ao
  ·rename_i e; subst e; cases ao; exact ⟨cQ,h,.ref rfl (.inl ⟨_,_,(by simp [bH,af,ab.at]:bH g2 ⟨q,[]⟩=some (aC en L)),Nat.le_refl _⟩),by simp⟩
  ·exact aM t y ao
theorem nt.keep {ex:List Nat}{G2:List (Nat × ab)}(h:nt ex g (get G2) G2) (aQ:∀ t,ex.elem t=false->g1 t=g t):iE g1 (get G2) :=
 ⟨λt x J=>by obtain ⟨h1,af,_⟩:=h.spec t x J; rw [aQ t h1]; exact af,λt x J=>(h.spec t x J).2.2.1,λt z q n m new J=>(h.spec t _ J).2.2.2 _ _ _ _ _ rfl⟩
theorem Take.row {en:bO α}{L:List α}(aq:bH g p=some (aC en L)):Take g [.a7 en.z p L.length] [aC en L] (ct g p .dead):=by
 have h1:Take (ct g p .dead) ((bC en L).take (L.length * en.z)) (bC en L) (ct g p .dead):=by
  rw [wx]; exact .bq (po en L)
 exact .a7 aq (Nat.le_refl _) h1 (.bq (by simp))
theorem Take.aak {en:bO α}{L M:List α}{s:Nat}(ax:g s=some (.bM en.z q L.length M.length (bC en M))) (aq:bH g q=some (aC en L)) (a_:q.root≠s):Take g [.a7 en.z ⟨s,[]⟩ (L.length+M.length)] [aC en (L++M)] (ct (ct g ⟨s,[]⟩ .dead) q .dead):=by
 rw [<- p2];exact .bM ax aq a_ (.bq λx J=>(List.mem_append.1 J).elim (po en L x) (po en M x)) (.bq (by simp))
theorem Take.aal {en:bO α}{L M M2:List α}{s s2:Nat}(ax:g s=some (.bM en.z ⟨s2,[]⟩ (L.length+M2.length) M.length (bC en M))) (ka:g s2=some (.bM en.z q L.length M2.length (bC en M2))) (aq:bH g q=some (aC en L)) (a_:q.root≠s) (rr:q.root≠s2) (CP:s≠s2) :
  Take g [.a7 en.z ⟨s,[]⟩ (L.length+M2.length+M.length)] [aC en (L++M2++M)] (ct (ct (ct g ⟨s,[]⟩ .dead) ⟨s2,[]⟩ .dead) q .dead):=by
 have:=Take.Au (g:=g) (xs:=[]) (xs':=[]) ax ka rfl aq a_ rr CP (.bq (xs:=bC en L++bC en M2++bC en M) λx J=>by
  grind [po]) (.bq (by simp))
 grind [QO]
theorem u1 {t:Nat}{y:ab}(h:t≠p.root):ct g p y t=g t:=by
 grind [ct]
theorem zC {ex:List Nat}{t s:Nat}(h:ex.elem t=false) (ax:ex.elem s=true):t≠s:=by
 grind
theorem bl.EY {o:Oper}{en:bO α}{L:List α}{x:Operand}{G2:List (Nat × ab)}(aW:o.op=.assign x) (aR:o.dst=some d) (J:Rd g x (.a7 en.z p L.length)) (aq:bH g p=some (aC en L)) (df:nt [p.root] g (get G2) G2) (aQ:get G2 d=none) (bt:N.ok d=true):bl P N g o (cT (get G2) d (aC en L)) :=
 .assign aW aR J.bw (.row aq) .refl (df.keep λt au=>u1 (zC au (by simp))) aQ bt
theorem bl.MF {o:Oper}{en:bO α}{L M:List α}{s:Nat}{x:Operand}{G2:List (Nat × ab)}(aW:o.op=.assign x) (aR:o.dst=some d) (J:Rd g x (.a7 en.z ⟨s,[]⟩ (L.length+M.length))) (ax:g s=some (.bM en.z q L.length M.length (bC en M))) (aq:bH g q=some (aC en L)) (a_:Nat.beq q.root s=false)
  (df:nt [s,q.root] g (get G2) G2) (aQ:get G2 d=none) (bt:N.ok d=true):bl P N g o (cT (get G2) d (aC en (L++M))) :=
 .assign aW aR J.bw (.aak ax aq (Nat.ne_of_beq_eq_false a_)) .refl (df.keep λt au=>by rw [u1 (zC au (by simp)),u1 (zC au (by simp))]) aQ bt
theorem bl.SH {o:Oper}{en:bO α}{L M M2:List α}{s s2:Nat}{x:Operand}{G2:List (Nat × ab)}(aW:o.op=.assign x) (aR:o.dst=some d) (J:Rd g x (.a7 en.z ⟨s,[]⟩ (L.length+M2.length+M.length))) (ax:g s=some (.bM en.z ⟨s2,[]⟩ (L.length+M2.length) M.length (bC en M)))
  (ka:g s2=some (.bM en.z q L.length M2.length (bC en M2))) (aq:bH g q=some (aC en L)) (a_:Nat.beq q.root s=false) (rr:Nat.beq q.root s2=false) (CP:Nat.beq s s2=false)
  (df:nt [s,s2,q.root] g (get G2) G2) (aQ:get G2 d=none) (bt:N.ok d=true):bl P N g o (cT (get G2) d (aC en (L++M2++M))) :=
 .assign aW aR J.bw (.aal ax ka aq (Nat.ne_of_beq_eq_false a_) (Nat.ne_of_beq_eq_false rr) (Nat.ne_of_beq_eq_false CP)) .refl (df.keep λt au=>by rw [u1 (zC au (by simp)),u1 (zC au (by simp)),u1 (zC au (by simp))]) aQ bt
theorem aE.rh {o:Oper}{x:ab}{G2:List (Nat × ab)}(aQ:o.guard=none) (he:bl P N g o (cT (get G2) d x)) (hk:aE P N ops l (cT (get G2) d x) K):aE P N ops (o::l) g K:=by
 intro i hi;obtain ⟨h1,af⟩:=drop_cons hi;obtain ⟨g',hr,c6⟩:=hk (i+1) af;refine ⟨g',.jM h1 ?_ he hr,c6⟩
 grind [iH]
theorem tb {x:ab}{G:List (Nat × ab)}:cT (get G) d x=get ((d,x)::G):=by
 grind [cT,get]
variable {bj:List (List Nat)}{acc:Acc}{i:Nat}
end
section
variable {P:Program}{N:cP}{ops:Array Oper}{g g' g1 g2:aL}{K:aL->Prop}{l:List Oper}{d r:Nat}{ty t t2:TypeId}{pos:String}{after:Array Edge}{a b c:Operand}{p q:Place}{e:Exit}
inductive nR (s:Nat):aL->Nat->List ab->List ab->aL->Prop
 | nil {g:aL}{i:Nat}:nR s g i [] [] g
 | f {g g':aL}{i:Nat}{x:ab}{ys xs:List ab}(aV:mg x=true) [aB:b9 x] (au:nR s g (i+1) ys xs g'):nR s g i (x::ys) (x::xs) g'
 | o {α:Type}{g g':aL}{i:Nat}{en:bO α}{L:List α}{ys xs:List ab}(aq:bH g ⟨s,[i]⟩=some (aC en L)) (au:nR s (ct g ⟨s,[i]⟩ .dead) (i+1) ys xs g'):nR s g i (.a7 en.z ⟨s,[i]⟩ L.length::ys) (aC en L::xs) g'
theorem nR.take {s i:Nat}{ys xs:List ab}(h:nR s g i ys xs g'):Take g ys xs g':=by
 induction h with
 | nil=>exact .bq (by simp)
 | @f g g' i x ys xs aV aB _ aM=>exact .cons aB.bq aM
 | @o α g g' i en L ys xs aq _ aM =>
  refine .a7 aq (Nat.le_refl _) ?_ aM;rw [wx]; exact .bq (po en L)
inductive ki (P:Program):aL->List ResultVar->List ab->List ab->aL->Prop
 | nil {g:aL}:ki P g [] [] [] g
 | f {g g':aL}{t:Nat}{x:ab}{rs:List ResultVar}{ys xs:List ab}(h:g t=some x) (aV:mg x=true) [aB:b9 x] (au:ki P g rs ys xs g'):ki P g (.tmp t::rs) (x::ys) (x::xs) g'
 | o {α:Type}{g g':aL}{t:Nat}{en:bO α}{L:List α}{rs:List ResultVar}{ys xs:List ab}(h:g t=some (aC en L)) (au:ki P (ct g ⟨t,[]⟩ .dead) rs ys xs g'):ki P g (.tmp t::rs) (.a7 en.z ⟨t,[]⟩ L.length::ys) (aC en L::xs) g'
 | c {g g' xb:aL}{t z:Nat}{ty:TypeId}{cs ys0:List ab}{rs:List ResultVar}{ys xs:List ab}(h:g t=some (.obj cs)) (au:h5 P ty z=true) (aX:cs.length=z) (aK:Nat.blt 0 z=true) (ao:(cs.mapIdx λi x=>fY 0 ⟨t,[i]⟩ x)=ys0) (hk:nR t g 0 ys0 cs xb) (hr:ki P xb rs ys xs g'):ki P g (.cell t ty::rs) (.agg ys0::ys) (.agg cs::xs) g'
def y1 (g0 g:aL):Prop:=∀ t x,g t=some x->(mg x=true\/(∃ z n cs,x=.own z n cs))->g0 t=some x
theorem y1.set {g0:aL}{t:Nat}{pp:List Nat}(h:y1 g0 g) (aW:pp=[]\/∃ cs,g t=some (.obj cs)):y1 g0 (ct g ⟨t,pp⟩ .dead):=by
 intro s x J aV;unfold ct at J
 split at J
 ·rename_i ax;simp only at ax J;subst ax;exfalso;cases aQ:g s with
  | none=>rw [aQ] at J; cases J
  | some y =>
   rw [aQ] at J;simp only [Option.map_some,Option.some.injEq] at J;rcases aW with rfl | ⟨cs,aa⟩
   ·simp only [ab.setAt] at J;subst J;rcases aV with aV | ⟨_,_,_,aV⟩ <;> cases aV
   ·rw [aQ] at aa;cases aa;have:∃ cs',x=.obj cs':=by
     subst J;cases pp with
     | nil=>simp only [ab.setAt] at aV; rcases aV with aV | ⟨_,_,_,aV⟩ <;> cases aV
     | cons k pp =>
      simp only [ab.setAt,ab.kids];split
      ·exact ⟨_,rfl⟩
      ·exact ⟨_,rfl⟩
    obtain ⟨cs',rfl⟩:=this;rcases aV with aV | ⟨_,_,_,aV⟩ <;> cases aV
 ·exact h s x J aV
theorem nR.U3 {g0:aL}{s i:Nat}{ys xs:List ab}(h:nR s g i ys xs g'):(∃ cs,g s=some (.obj cs))->y1 g0 g->y1 g0 g':=by
 induction h with
 | nil=>exact λ_ h=>h
 | f _ _ aM=>exact aM
 | @o α g g' i en L ys xs aq _ aM =>
  intro aW aR;refine aM ?_ (aR.set (.inr aW));obtain ⟨cs,aa⟩:=aW;unfold ct;simp only [if_pos,aa,Option.map_some,ab.setAt,ab.kids];split
  ·exact ⟨_,rfl⟩
  ·exact ⟨_,rfl⟩
theorem nR.out {s i:Nat}{ys xs:List ab}(h:nR s g i ys xs g'):∀ t,t≠s->g' t=g t:=by
 induction h with
 | nil=>exact λ_ _=>rfl
 | f _ _ aM=>exact aM
 | o _ _ aM=>exact λt au=>by rw [aM t au,u1 au]
theorem ki.take {rs:List ResultVar}{ys xs:List ab}(h:ki P g rs ys xs g'):Take g ys xs g':=by
 induction h with
 | nil=>exact .bq (by simp)
 | @f g g' t x rs ys xs h aV aB _ aM=>exact .cons aB.bq aM
 | @o α g g' t en L rs ys xs h _ aM =>
  have aq:bH g ⟨t,[]⟩=some (aC en L):=by simp [bH,h,ab.at]
  refine .a7 aq (Nat.le_refl _) ?_ aM;rw [wx]; exact .bq (po en L)
 | @c g g' xb t z ty cs ys0 rs ys xs h au aX aK ao hk _ aM=>exact .agg hk.take aM
theorem ki.vs {rs:List ResultVar}{ys xs:List ab}(h:ki P g rs ys xs g'):∀ g0:aL,y1 g0 g->(∀ t ty,ResultVar.cell t ty∈rs->∀ cs,g t=some (.obj cs)->g0 t=some (.obj cs))->(rs.filterMap fun | .cell t _=>some t | _=>none).Nodup->tU P g0 rs ys:=by
 induction h with
 | nil=>exact λ_ _ _ _=>.nil
 | @f g g' t x rs ys xs h aV aB _ aM =>
  intro g0 aR ar eA;exact .cons (.tmp (Rd.f (aR t x h (.inl aV)) aV)) (aM g0 aR (λt ty hm=>ar t ty (List.mem_cons_of_mem _ hm)) (by simpa using eA))
 | @o α g g' t en L rs ys xs h _ aM =>
  intro g0 aR ar eA;refine .cons (.tmp ?_) (aM g0 (aR.set (.inl rfl)) (λs ty hm cs aa=>?_) (by simpa using eA))
  ·have:=aR t _ h (.inr ⟨_,_,_,rfl⟩);simp [Own.bw,this,pn,fY]
  ·by_cases ax:s=t
   ·subst ax; simp [ct,h,ab.setAt] at aa
   ·rw [u1 ax] at aa; exact ar s ty (List.mem_cons_of_mem _ hm) cs aa
 | @c g g' xb t z ty cs ys0 rs ys xs h au aX aK ao hk _ aM =>
  intro g0 aR ar eA;have h1:=ar t ty (by simp) cs h;simp only [List.filterMap_cons,List.nodup_cons] at eA;refine .cons ?_ (aM g0 (hk.U3 ⟨cs,h⟩ aR) (λs yK hm cs' aa=>?_) eA.2)
  ·have Pj:0<z:=by simpa using aK
   have J:Own.bw g0 (.tmp t)=some (.ptr ⟨t,[]⟩ 0):=by
    cases cs with
    | nil=>simp at aX; omega
    | cons c cs=>simp [Own.bw,h1,pn,fY]
   have:=dh.Ae (P:=P) (ty:=ty) (p:=⟨t,[]⟩) (n:=0) (z:=0) J au (by simp only [bH,h1,ab.at]) (.inr rfl) (show 0+z<=cs.length by omega);have hn:((cs.drop 0).take z).mapIdx (λi x=>fY 0 (Place.push ⟨t,[]⟩ (0+i)) x)=ys0:=by
    rw [List.drop_zero,List.take_of_length_le (by omega),<- ao];congr 1;funext i x;simp [Place.push]
   rw [hn] at this;exact .cell this
  ·have bU:s≠t:=by
    rintro rfl;exact eA.1 (List.mem_filterMap.2 ⟨.cell s yK,hm,rfl⟩)
   have:=hk.out s bU;rw [this] at aa;exact ar s yK (List.mem_cons_of_mem _ hm) cs' aa
inductive q_ (g:aL) (pins:List Nat):Nat->List (Option ab)->Prop
 | nil {i:Nat}:q_ g pins i []
 | no {i:Nat}{os:List (Option ab)}(t:q_ g pins (i+1) os):q_ g pins i (none::os)
 | al {i:Nat}{x:ab}{os:List (Option ab)}(h:g i=some x) [aB:b9 x] (aq:pins.elem i=true) (t:q_ g pins (i+1) os):q_ g pins i (some x::os)
theorem q_.spec {pins:List Nat}{i:Nat}{os:List (Option ab)}(h:q_ g pins i os):∀ k x,os[k]?=some (some x)->g (i+k)=some x/\cE x/\i+k∈pins:=by
 induction h with
 | nil=>intro k x hk; simp at hk
 | no _ aM =>
  intro k x hk;cases k with
  | zero=>simp at hk
  | succ k=>have:=aM k x (by simpa using hk); rw [Nat.add_assoc,Nat.add_comm 1 k] at this; exact this
 | @al i y os h aB aq _ aM =>
  intro k x hk;cases k with
  | zero=>simp at hk; subst hk; exact ⟨h,aB.bq,by simpa using aq⟩
  | succ k=>have:=aM k x (by simpa using hk); rw [Nat.add_assoc,Nat.add_comm 1 k] at this; exact this
theorem Fin.ro {rs:List ResultVar}{ys xs:List ab}{res:ab}{outs:List (Option ab)}{n:Nat}(h:ki P g rs ys xs g') (he:p4 xs=res) (eA:(rs.filterMap fun | .cell t _=>some t | _=>none).Nodup) (aW:q_ g' N.pins 0 outs) (ah:outs.length=n) (J:e=.normal\/e=.ret):Fin P N rs n outs res e g :=
 ⟨J,⟨ys,xs,g',h.vs g (λ_ _ h _=>h) (λ_ _ _ _ h=>h) eA,h.take,he.symm,λk x hk=>by have:=aW.spec k x hk; rw [Nat.zero_add] at this; exact this⟩,ah⟩
class j8 (x y:ab):Prop where v:∀ g,View g x y
class f_ (xs ys:List ab):Prop where
 l:ys.length=xs.length
 v:∀ (g:aL) (k:Nat) (x y:ab),xs[k]?=some x->ys[k]?=some y->View g x y
class ik (e b4:bO α):Prop where
 z:e.z=b4.z
 v:∀ a,f_ (e.cells a) (b4.cells a)
instance {v:Value}:j8 (.lit v) (.lit v):=⟨λ_=>.self .lit (by simp) (by simp) (by simp) (by simp) (by simp)⟩
instance {z n:Nat}{cs:List ab} [h:dm cs]:j8 (.bc z n cs) (.bc z n cs):=⟨λ_=>.self (.bc h.bq) (by simp) (by simp) (by simp) (by simp) (by simp)⟩
instance {e:bO α}:j8 .aP (ak e []):=⟨λ_=>.qK⟩
instance:f_ [] []:=⟨rfl,by simp⟩
instance {x y:ab}{xs ys:List ab} [h:j8 x y] [aI:f_ xs ys]:f_ (x::xs) (y::ys):=⟨by simp [aI.l],λg k a b aJ ar=>by
 cases k with
 | zero=>simp at aJ ar; subst aJ ar; exact h.v g
 | succ k=>exact aI.v g k a b (by simpa using aJ) (by simpa using ar)⟩
theorem Es (e b4:bO α) [h:ik e b4]:∀ L:List α,(bC b4 L).length=(bC e L).length/\∀ (g:aL) (k:Nat) (x y:ab),(bC e L)[k]?=some x->(bC b4 L)[k]?=some y->View g x y
 | []=>⟨rfl,by simp [bC]⟩
 | a::L=>by
  obtain ⟨h1,af⟩:=Es e b4 L;have Vh:∀ e:bO α,bC e (a::L)=e.cells a++bC e L:=λe=>by simp [bC]
  refine ⟨by rw [oQ,oQ,h.z],λg k x y J ao=>?_⟩;rw [Vh] at J ao;by_cases hk:k<e.z
  ·rw [List.getElem?_append_left (by rw [e.len]; exact hk)] at J;rw [List.getElem?_append_left (by rw [b4.len,<- h.z]; exact hk)] at ao;exact (h.v a).v g k x y J ao
  ·rw [List.getElem?_append_right (by rw [e.len]; omega),e.len] at J;rw [List.getElem?_append_right (by rw [b4.len,<- h.z]; omega),b4.len,<- h.z] at ao;exact af g _ x y J ao
instance {e b4:bO α}{L:List α} [h:ik e b4]:j8 (aC e L) (ak b4 L):=⟨λg=>by
 have:=Es e b4 L;show View g (.own e.z L.length (bC e L)) (.bc b4.z L.length (bC b4 L));rw [<- h.z];exact .own this.1 (this.2 g)⟩
instance:ik ai ai:=⟨rfl,λa=>(inferInstance:f_ [ae a] [ae a])⟩
instance:ik se se:=⟨rfl,λa=>(inferInstance:f_ [r9 a] [r9 a])⟩
instance:ik e3 e3:=⟨rfl,λa=>(inferInstance:f_ [bd a] [bd a])⟩
instance:ik nX nX:=⟨rfl,λa=>(inferInstance:f_ [a6 a] [a6 a])⟩
instance {e:bO α}:ik (bE e) (bE e):=⟨rfl,λa=>(inferInstance:f_ [ak e a] [ak e a])⟩
theorem View.row {e b4:bO α}{L:List α} [h:ik e b4] (aq:bH g p=some (aC e L)):View g (.a7 e.z p L.length) (ak b4 L):=by
 have:=Es e b4 L;show View g _ (.bc b4.z L.length (bC b4 L));rw [<- h.z];refine .a7 aq (Nat.le_refl _) (by rw [wx]; exact this.1) (λk x y J ao=>?_);rw [wx] at J;exact this.2 g k x y J ao
inductive o0 (g:aL):List ab->List ab->Prop
 | nil:o0 g [] []
 | s {x y:ab}{xs ys:List ab} [h:j8 x y] (t:o0 g xs ys):o0 g (x::xs) (y::ys)
 | c {x y:ab}{xs ys:List ab}(h:View g x y) (t:o0 g xs ys):o0 g (x::xs) (y::ys)
theorem o0.len {xs ys:List ab}(h:o0 g xs ys):ys.length=xs.length:=by
 induction h with
 | nil=>rfl
 | s _ aM=>simp [aM]
 | c _ _ aM=>simp [aM]
theorem o0.get {xs ys:List ab}(h:o0 g xs ys):∀ (k:Nat) (x y:ab),xs[k]?=some x->ys[k]?=some y->View g x y:=by
 induction h with
 | nil=>intro k x y J; simp at J
 | @s x y xs ys h _ aM =>
  intro k a b aJ ar;cases k with
  | zero=>simp at aJ ar; subst aJ ar; exact h.v g
  | succ k=>exact aM k a b (by simpa using aJ) (by simpa using ar)
 | @c x y xs ys h _ aM =>
  intro k a b aJ ar;cases k with
  | zero=>simp at aJ ar; subst aJ ar; exact h
  | succ k=>exact aM k a b (by simpa using aJ) (by simpa using ar)
theorem View.nT {xs ys:List ab}(h:o0 g xs ys):View g (.agg xs) (.agg ys):=.agg h.len h.get
class qc (x:ab):Prop where l5:j5 x
class q8 (cs:List ab):Prop where l5:∀ x∈cs,j5 x
class Bo (e:bO α):Prop where l5:∀ a,q8 (e.cells a)
instance {v:Value}:qc (.lit v):=⟨.lit⟩
instance:q8 []:=⟨by simp⟩
instance {x:ab}{xs:List ab} [h:qc x] [aI:q8 xs]:q8 (x::xs):=⟨λy ao=>by
 rcases List.mem_cons.1 ao with rfl | ao
 ·exact h.l5
 ·exact aI.l5 y ao⟩
instance {e:bO α}{L:List α} [h:Bo e]:q8 (bC e L):=⟨λx J=>by
 obtain ⟨a,_,aJ⟩:=List.mem_flatMap.1 J;exact (h.l5 a).l5 x aJ⟩
instance {z n:Nat}{cs:List ab} [h:q8 cs]:qc (.own z n cs):=⟨.own h.l5⟩
instance {cs:List ab} [h:q8 cs]:qc (.agg cs):=⟨.agg h.l5⟩
instance {cs:List ab} [h:q8 cs]:qc (.bS cs):=⟨.bS h.l5⟩
instance {e:bO α}{a:α} [h:Bo e]:q8 (e.cells a):=h.l5 a
instance:Bo ai:=⟨λa=>(inferInstance:q8 [ae a])⟩
theorem P5 {outs:List (Option ab)}{args:List ab}(aW:uM outs=true) (ah:outs.length=args.length):outs=args.map λ_=>none:=by
 apply List.ext_getElem?;intro k;rw [List.getElem?_map];cases ao:args[k]? with
 | none=>rw [List.getElem?_eq_none (by rw [ah]; exact List.getElem?_eq_none_iff.1 ao)]; rfl
 | some y =>
  have hk:k<outs.length:=by rw [ah]; exact (List.getElem?_eq_some_iff.1 ao).1
  have h1:=List.getElem?_eq_getElem hk;rw [h1];cases af:outs[k] with
  | none=>rfl
  | some x=>rw [af] at h1; exact absurd h1 (P6 aW k x)
theorem b_.vw {xs:List Operand}{fP:Array TypeId}{f:FuncId}{ys args:List ab}{outs:List (Option ab)}{res:ab}(J:hh g xs=some ys) (hv:o0 g ys args) (hf:bP P f args outs res) (aV:hA P f=true) (aW:uM outs=true) [hr:qc res] :
  b_ P g (.call { callee:=.value (.func f),args:=xs.toArray,argTypes:=fP }) res:=by
 have e:=P5 aW hf.1;refine .F_ (first:=[]) (caps:=[]) (ys:=ys) (args:=args) rfl (by simpa using J) aV (by simpa using hv.len) (λk x y J ao=>hv.get k x y (by simpa using J) ao) ?_ hr.l5;rw [<- e]; exact hf
end
section
variable {P:Program}{N:cP}{ops:Array Oper}{g g' g1 g2:aL}{K:aL->Prop}{l:List Oper}{d r:Nat}{op:Op}{ty t t2:TypeId}{pos:String}{after:Array Edge}{gd:Option (Nat × Bool)}{a b c:Operand}{p q:Place}{x y:ab}
variable {bj:List (List Nat)}{g0:aL}{acc:Acc}{i:Nat}
instance {cs cs':List ab} [h:f_ cs cs']:j8 (.agg cs) (.agg cs'):=⟨λg=>.agg h.l (h.v g)⟩
theorem aE.fb (aq:bT P g op ty y) [aB:b9 y] [hv:j8 y x] (bt:N.ok d=true) (aV:g d=none) (aQ:eC g ops gd) (hk:aE P N ops l (cT g d x) K):aE P N ops (⟨some d,op,ty,pos,after,gd⟩::l) g K :=
 .El rfl bt aV (r:=some x) (.inr (.inr ⟨aQ.wanted,y,.inl aq,aB.bq,hv.v _⟩)) hk
theorem bB.fb (bX:Nat) (aq:bT P (kS bj g0 bX acc) op ty y) [aB:b9 y] [hv:j8 y x] (ag:Nat.beq ops.size (bX+l.length+1)=true) (aV:g0 d=none) (mm:acc.all (λe=>!Nat.beq e.2.1 d)=true) (bt:N.ok d=true) (aQ:eC (kS bj g0 bX acc) ops gd)
  (hk:bB P N ops bj g0 i ((bX,d,some x)::acc) l K):bB P N ops bj g0 i acc (⟨some d,op,ty,pos,after,gd⟩::l) K :=
 .st bX (r:=some x) rfl (.inr (.inr ⟨aQ.wanted,y,.inl aq,aB.bq,hv.v _⟩)) ag aV mm bt hk
inductive oZ (ex:List Nat) (g g2:aL):List (Nat × ab)->Prop
 | nil:oZ ex g g2 []
 | n {s:Nat}{x:ab}{l:List (Nat × ab)}(cQ:ex.elem s=false) (h:g s=some x) [aB:b9 x] (t:oZ ex g g2 l):oZ ex g g2 ((s,x)::l)
 | p {s q k:Nat}{l:List (Nat × ab)}{kH:List ab}(cQ:ex.elem s=false) (h:g s=some (.ptr ⟨q,[]⟩ k)) (af:g2 q=some (.obj kH)) (fz:Nat.blt k kH.length=true) (t:oZ ex g g2 l):oZ ex g g2 ((s,.ptr ⟨q,[]⟩ k)::l)
 | z {s:Nat}{x y:ab}{l:List (Nat × ab)}(he:ex.elem s=true) (h:g s=some y) [aB:b9 y] (hv:gV y x) [J:qb x] (t:oZ ex g g2 l):oZ ex g g2 ((s,x)::l)
theorem oZ.spec {ex:List Nat}{l:List (Nat × ab)}(h:oZ ex g g2 l):∀ t x,get l t=some x->((ex.elem t=false/\g t=some x/\cU g2 x)\/(ex.elem t=true/\∃ y,g t=some y/\cE y/\gV y x))/\∀ z p n m new,x≠.bM z p n m new:=by
 induction h with
 | nil=>intro t x J; cases J
 | @n s x l cQ h aB _ aM =>
  intro t y ao; simp only [get] at ao
  split at ao
  ·rename_i e; subst e; cases ao; exact ⟨.inl ⟨cQ,h,.bq aB.bq⟩,by rintro z p n m new rfl; cases aB.bq⟩
  ·exact aM t y ao
 | @p s q k l kH cQ h af fz _ aM =>
  intro t y ao; simp only [get] at ao
  split at ao
  ·rename_i e; subst e; cases ao; exact ⟨.inl ⟨cQ,h,.ref rfl (uX af (by simpa using fz))⟩,by simp⟩
  ·exact aM t y ao
 | @z s x y l he h aB hv J _ aM =>
  intro t y' ao; simp only [get] at ao
  split at ao
  ·rename_i e; subst e; cases ao; exact ⟨.inr ⟨he,y,h,aB.bq,hv⟩,J.fE⟩
  ·exact aM t y' ao
theorem oZ.zD {ex:List Nat}{G2:List (Nat × ab)}(h:oZ ex g (get G2) G2):HE (λt=>ex.elem t) g (get G2):=by
 refine ⟨λt x J au=>?_,λt x J au=>?_,λt z q n m new J=>(h.spec t _ J).2 _ _ _ _ _ rfl⟩
 ·rcases (h.spec t x J).1 with ⟨_,h1,af⟩ | ⟨h1,_⟩
  ·grind
  grind
 ·rcases (h.spec t x J).1 with ⟨h1,_⟩ | ⟨_,af⟩
  ·grind
  grind
theorem W.dP {bN:Code}{G G1:List (Nat × ab)}{Φ:Exit->aL->Prop}(ex:List Nat) (h:oZ ex (get G) (get G1) G1) (hw:W P N bN (get G1) Φ):W P N bN (get G) Φ:=by
 intro Q a w I Fs bg bt eu;obtain ⟨I',bW,dZ,bU⟩:=bg.zD h.zD;exact hw dZ bt λe g' cd w' he aB=>eu e g' cd w' he (kh.trans rfl ib.refl bU aB)
theorem Take.pre {xs xs':List ab}:∀ {ps:List ab},(∀ x∈ps,cE x)->Take g xs xs' g'->Take g (ps++xs) (ps++xs') g'
 | [],_,h=>h
 | x::ps,aB,h=>.cons (aB x (by simp)) (Take.pre (ps:=ps) (λy ao=>aB y (List.mem_cons_of_mem _ ao)) h)
inductive eQ:aL->List ab->List ab->aL->Prop
 | nil {g:aL}:eQ g [] [] g
 | jz {g:aL}{xs:List ab} [aB:dm xs]:eQ g xs xs g
 | f {g g':aL}{x:ab}{xs xs':List ab} [aB:b9 x] (t:eQ g xs xs' g'):eQ g (x::xs) (x::xs') g'
 | r {α:Type}{g g':aL}{p:Place}{en:bO α}{L:List α}{xs xs':List ab}(aq:bH g p=some (aC en L)) (t:eQ (ct g p .dead) xs xs' g'):eQ g (.a7 en.z p L.length::xs) (aC en L::xs') g'
 | l {g g1 g':aL}{p:Place}{z n:Nat}{cs cs' xs xs':List ab}(aq:bH g p=some (.own z n cs)) (ah:cs.length=n * z) (h1:eQ (ct g p .dead) cs cs' g1) (t:eQ g1 xs xs' g'):eQ g (.a7 z p n::xs) (.own z n cs'::xs') g'
 | jA {α:Type}{g g1 g':aL}{q:Place}{s m:Nat}{en:bO α}{L:List α}{new cN xs xs':List ab}(ax:g s=some (.bM en.z q L.length m new)) (aq:bH g q=some (aC en L)) (a_:Nat.beq q.root s=false) (h1:eQ (ct (ct g ⟨s,[]⟩ .dead) q .dead) new cN g1) (t:eQ g1 xs xs' g') :
   eQ g (.a7 en.z ⟨s,[]⟩ (L.length+m)::xs) (.own en.z (L.length+m) (bC en L++cN)::xs') g'
 | nT {g g1 g':aL}{cs cs' xs xs':List ab}(h1:eQ g cs cs' g1) (t:eQ g1 xs xs' g'):eQ g (.agg cs::xs) (.agg cs'::xs') g'
 | m {g g':aL}{p:Place}{q:Array MapEntry->Nat->Prop}{xs xs':List ab}(aq:bH g p=some (.mp q)) (t:eQ (ct g p .dead) xs xs' g'):eQ g (.gl p::xs) (.mp q::xs') g'
 | b {g g1 g':aL}{p:Place}{cs cs' xs xs':List ab}(aq:bH g p=some (.obj cs)) (h1:eQ (ct g p .dead) cs cs' g1) (t:eQ g1 xs xs' g'):eQ g (.ptr p 0::xs) (.obj cs'::xs') g'
 | of {g g':aL}{x x':ab}(h:Take g [x] [x'] g'):eQ g [x] [x'] g'
theorem eQ.take {xs xs':List ab}(h:eQ g xs xs' g'):Take g xs xs' g':=by
 induction h with
 | m aq _ aM=>exact .mp aq (.bq (by simp)) aM
 | of h=>exact h
 | nil=>exact .bq (by simp)
 | @jz g xs aB=>exact .bq aB.bq
 | @f g g' x xs xs' aB _ aM=>exact .cons aB.bq aM
 | @r α g g' p en L xs xs' aq _ aM =>
  refine .a7 aq (Nat.le_refl _) ?_ aM;rw [wx];exact .bq (po en L)
 | @l g g1 g' p z n cs cs' xs xs' aq ah _ _ gj fT =>
  refine .a7 aq (Nat.le_refl _) ?_ fT
  grind
 | @jA α g g1 g' q s m en L new cN xs xs' ax aq a_ _ _ gj fT=>exact .bM ax aq (Nat.ne_of_beq_eq_false a_) (.pre (po en L) gj) fT
 | @nT g g1 g' cs cs' xs xs' _ _ gj fT=>exact .agg gj fT
 | @b g g1 g' p cs cs' xs xs' aq _ _ gj fT=>exact .obj aq gj fT
inductive fI:List ab->List ab->Prop
 | nil:fI [] []
 | hZ {xs:List ab}:fI xs xs
 | f {x:ab}{xs ys:List ab}(t:fI xs ys):fI (x::xs) (x::ys)
 | o {z:Nat}{xs ys:List ab}(t:fI xs ys):fI (.aP::xs) (.own z 0 []::ys)
 | z {x y:ab}{xs ys:List ab} [aB:b9 x] [hv:j8 x y] (t:fI xs ys):fI (x::xs) (y::ys)
 | g {x y:ab}{xs ys:List ab}(h:gV x y) (t:fI xs ys):fI (x::xs) (y::ys)
theorem fI.len {xs ys:List ab}(h:fI xs ys):ys.length=xs.length:=by
 induction h with
 | nil=>rfl
 | hZ=>rfl
 | f _ aM=>simp [aM]
 | o _ aM=>simp [aM]
 | z _ aM=>simp [aM]
 | g _ _ aM=>simp [aM]
theorem fI.get {xs ys:List ab}(h:fI xs ys):∀ (k:Nat) (x y:ab),xs[k]?=some x->ys[k]?=some y->gV x y:=by
 induction h with
 | nil=>intro k x y J; simp at J
 | hZ=>intro k x y J ao; rw [J] at ao; cases ao; exact .refl
 | @f x xs ys _ aM =>
  intro k a b aJ ar;cases k with
  | zero=>simp at aJ ar; subst aJ ar; exact .refl
  | succ k=>exact aM k a b (by simpa using aJ) (by simpa using ar)
 | @o z xs ys _ aM =>
  intro k a b aJ ar;cases k with
  | zero=>simp at aJ ar; subst aJ ar; exact .Dl
  | succ k=>exact aM k a b (by simpa using aJ) (by simpa using ar)
 | @z x y xs ys aB hv _ aM =>
  intro k a b aJ ar;cases k with
  | zero=>simp at aJ ar; subst aJ ar; exact .pb aB.bq (hv.v _)
  | succ k=>exact aM k a b (by simpa using aJ) (by simpa using ar)
 | @g x y xs ys h _ aM =>
  grind
theorem fI.pre {xs ys:List ab}(h:fI xs ys):∀ ps:List ab,fI (ps++xs) (ps++ys)
 | []=>h
 | _::ps=>.f (fI.pre h ps)
theorem fI.own {z n:Nat}{xs ys:List ab}(h:fI xs ys):gV (.own z n xs) (.own z n ys):=.own h.len h.get
theorem fI.obj {xs ys:List ab}(h:fI xs ys):gV (.obj xs) (.obj ys):=.obj h.len h.get
theorem fI.agg {xs ys:List ab}(h:fI xs ys):gV (.agg xs) (.agg ys):=.agg h.len h.get
theorem gV.kY [aB:b9 x] [hv:j8 x y]:gV x y:=.pb aB.bq (hv.v _)
theorem bl.Bs {o:Oper}{x:Operand}{y bz y':ab}{G2:List (Nat × ab)}(aW:o.op=.assign x) (aR:o.dst=some d) (J:Rd g x y) (au:eQ g [y] [bz] g1) (aX:gV bz y') (df:Trim false g1 (get G2) G2) (aQ:get G2 d=none) (bt:N.ok d=true):bl P N g o (cT (get G2) d y') :=
 .assign aW aR J.bw au.take aX df.keep aQ bt
theorem bl.MO {o:Oper}{x:Operand}{en:bO α}{L M R:List α}{s m:Nat}{new cN:List ab}{G2:List (Nat × ab)}(aW:o.op=.assign x) (aR:o.dst=some d) (J:Rd g x (.a7 en.z ⟨s,[]⟩ (L.length+m))) (ax:g s=some (.bM en.z q L.length m new)) (aq:bH g q=some (aC en L)) (a_:Nat.beq q.root s=false)
  (h1:eQ (ct (ct g ⟨s,[]⟩ .dead) q .dead) new cN g1) (aX:fI cN (bC en M)) (hm:M.length=m) (hr:L++M=R) (df:Trim false g1 (get G2) G2) (aQ:get G2 d=none) (bt:N.ok d=true):bl P N g o (cT (get G2) d (aC en R)):=by
 subst hm hr;have au:=eQ.jA (xs:=[]) (xs':=[]) ax aq a_ h1 .nil;rw [<- p2];exact .assign aW aR J.bw au.take (aX.pre _).own df.keep aQ bt
theorem bl.tG {o:Oper}{k0:Nat}{cs1 cs' cs2:List ab}{y bz y':ab}{G2:List (Nat × ab)}(aW:o.op=.store t a b) (aR:o.dst=none) (aJ:Rd g a (.ptr ⟨r,[]⟩ k0)) (ar:Rd g b y) (au:eQ g [y] [bz] g1) (o8:gV bz y') (aa:o2 y'=some cs') (aX:hy P t cs'.length=true)
  (ax:g1 r=some (.obj cs1)) (hk:Nat.ble (k0+cs'.length) cs1.length=true) (aK:Nat.blt 0 cs'.length=true) (he:e0 cs1 k0 cs'=cs2) [eL:dm cs1] (hr:(get G2 r).isSome=true) (df:ly g1 (get G2) r cs2 G2):bl P N g o (get G2):=by
 subst he;refine .store aW aR aJ.bw ar.bw au.take o8 aa aX (p:=⟨r,[]⟩) (nd:=.obj cs1) (z:=0) (n:=0) (by simp [bH,ax,ab.at]) (.inr rfl) (Nat.le_of_ble_eq_true hk) (by simpa using aK) (λt x J=>?_) (λt x J y ao=>?_) (λt z q n m new J=>?_) (by intro e; rw [e] at hr; cases hr)
 ·rcases df.spec t x J with ⟨h1,af,_⟩ | ⟨h1,af,_⟩
  all_goals grind [ct,ab.setAt,ab.e0]
 ·rcases df.spec t x J with ⟨h1,af,aF⟩ | ⟨h1,af,aF⟩
  ·rw [af] at ao;cases ao;exact aF.wv
  ·subst h1;rw [ax] at ao;cases ao;exact .bq (.obj eL.bq)
 ·rcases df.spec t _ J with ⟨_,_,aF⟩ | ⟨_,af,_⟩
  ·exact aF.fE _ _ _ _ _ rfl
  grind
theorem bl.Hb {o:Oper}{k0 s m:Nat}{en:bO α}{L M R:List α}{new cN:List ab}{cs1 cs2:List ab}{G2:List (Nat × ab)}(aW:o.op=.store t a b) (aR:o.dst=none) (aJ:Rd g a (.ptr ⟨r,[]⟩ k0)) (ar:Rd g b (.a7 en.z ⟨s,[]⟩ (L.length+m))) (qA:g s=some (.bM en.z q L.length m new)) (aq:bH g q=some (aC en L)) (a_:Nat.beq q.root s=false)
  (h1:eQ (ct (ct g ⟨s,[]⟩ .dead) q .dead) new cN g1) (o8:fI cN (bC en M)) (hm:M.length=m) (a1:L++M=R) (aX:hy P t 1=true)
  (ax:g1 r=some (.obj cs1)) (hk:Nat.ble (k0+1) cs1.length=true) (he:e0 cs1 k0 [aC en R]=cs2) [eL:dm cs1] (hr:(get G2 r).isSome=true) (df:ly g1 (get G2) r cs2 G2):bl P N g o (get G2):=by
 subst hm a1;have au:=eQ.jA (xs:=[]) (xs':=[]) qA aq a_ h1 .nil;refine .tG (y':=aC en (L++M)) aW aR aJ ar au ?_ rfl aX ax hk rfl he hr df;rw [<- p2]; exact (o8.pre _).own
inductive om (r:Nat) (cs:List ab) (k0:Nat):Nat->List ab->List ab->Prop
 | nil {i:Nat}:om r cs k0 i [] []
 | b {i:Nat}{xs ys:List ab}(hi:Nat.beq i k0=true) (t:om r cs k0 (i+1) xs ys):om r cs k0 i (.ptr ⟨r,[]⟩ 0::xs) (.obj cs::ys)
 | n {i:Nat}{x:ab}{xs ys:List ab}(hi:Nat.beq i k0=false) [aB:b9 x] (t:om r cs k0 (i+1) xs ys):om r cs k0 i (x::xs) (x::ys)
theorem om.len {cs:List ab}{k0 i:Nat}{xs ys:List ab}(h:om r cs k0 i xs ys):ys.length=xs.length:=by
 induction h with
 | nil=>rfl
 | b _ _ aM=>simp [aM]
 | n _ _ aM=>simp [aM]
theorem om.Zf {cs:List ab}{k0 i:Nat}{xs ys:List ab}(h:om r cs k0 i xs ys) (hi:k0<i):xs=ys/\∀ x∈xs,cE x:=by
 induction h with
 | nil=>exact ⟨rfl,by simp⟩
 | @b i _ _ h _ _=>have:=Nat.eq_of_beq_eq_true h; omega
 | @n i x xs ys _ aB _ aM =>
  obtain ⟨h1,af⟩:=aM (by omega);exact ⟨by rw [h1],sJ aB.bq af⟩
theorem om.take {cs:List ab}{k0 i:Nat}{xs ys:List ab}(h:om r cs k0 i xs ys) (ax:g r=some (.obj cs)) (aB:∀ x∈cs,cE x):i<=k0->k0<i+xs.length->Take g xs ys (ct g ⟨r,[]⟩ .dead):=by
 induction h with
 | nil=>intro h1 af; simp at af; omega
 | @b i xs ys hi t _ =>
  intro h1 af;have:=Nat.eq_of_beq_eq_true hi;obtain ⟨e,oF⟩:=t.Zf (by omega);subst e;exact .obj (by simp [bH,ax,ab.at]) (.bq aB) (.bq oF)
 | @n i x xs ys hi J _ aM =>
  intro h1 af;have:=Nat.ne_of_beq_eq_false hi;simp only [List.length_cons] at af;exact .cons J.bq (aM (by omega) (by omega))
theorem om.Tf {cs:List ab}{k0 i:Nat}{xs ys:List ab}(h:om r cs k0 i xs ys):i<=k0->k0<i+xs.length->xs[k0 - i]?=some (.ptr ⟨r,[]⟩ 0):=by
 induction h with
 | nil=>intro h1 af; simp at af; omega
 | @b i xs ys hi _ _=>intro _ _; have:=Nat.eq_of_beq_eq_true hi; subst this; simp
 | @n i x xs ys hi _ _ aM =>
  grind [Nat.ne_of_beq_eq_false]
def v7 (n k0:Nat) (x:ab):List (Option ab):=(List.range n).map λi=>if i=k0 then some x else none
inductive yW (g:aL) (d r:Nat) (n:Nat) (G4:List (Nat × ab)):List (Nat × ab)->Prop
 | nil:yW g d r n G4 []
 | c {s k:Nat}{l:List (Nat × ab)}(h:g s=some (.ptr ⟨r,[]⟩ k)) (hk:Nat.blt k n=true) (aR:Nat.beq s d=false) (bh:get G4 s=none) (t:yW g d r n G4 l):yW g d r n G4 ((s,.ptr ⟨r,[]⟩ k)::l)
theorem Fo {A B:List (Nat × ab)}{t:Nat}:get (A++B) t=match get A t with | some x=>some x | none=>get B t:=by
 induction A with
 | nil=>rfl
 | cons p A aM =>
  grind [get]
theorem yW.spec {n:Nat}{G4 A:List (Nat × ab)}(h:yW g d r n G4 A):∀ t x,get A t=some x->get G4 t=none/\t≠d/\g t=some x/\∃ k,x=.ptr ⟨r,[]⟩ k/\k<n:=by
 induction h with
 | nil=>intro t x J; cases J
 | @c s k l h hk aR bh _ aM =>
  intro t x J;simp only [get] at J
  split at J
  ·rename_i e;subst e;cases J
   simp_all [Nat.ne_of_beq_eq_false]
  grind
theorem k1.jW {o:Oper}{xs:List Operand}{fP:Array TypeId}{f:FuncId}{ys args:List ab}{res:ab}{cs cs':List ab}{k0:Nat}{G2 A:List (Nat × ab)}(aW:o.op=.call { callee:=.value (.func f),args:=xs.toArray,argTypes:=fP }) (aR:o.dst=some d) (J:Own.hh g xs=some ys)
  (ax:g r=some (.obj cs)) [eL:dm cs] (aJ:om r cs k0 0 ys args) (nB:Nat.blt k0 ys.length=true) (hf:bP P f args (v7 args.length k0 (.obj cs')) res) (aV:hA P f=true) [hr:b9 res] [FH:dm cs']
  (df:Trim false (ct g ⟨r,[]⟩ .dead) (get ((r,.dead)::G2)) G2) (aQ:get G2 d=none) (uz:Nat.beq r d=false) (B7:Trim false (get ((r,.obj cs')::G2)) (get ((r,.obj cs')::G2)) G2) (dC:yW g d r cs'.length ((r,.obj cs')::G2) A) (bt:N.ok d=true) :
  k1 P N g o d (get (A++(d,res)::(r,.obj cs')::G2)):=by
 have ae7:k0<ys.length:=by simpa using nB
 have CK:r≠d:=Nat.ne_of_beq_eq_false uz;have vz:args.length=ys.length:=aJ.len;have rq:(v7 args.length k0 (.obj cs'))[k0]?=some (some (.obj cs')):=by
  unfold v7;rw [List.getElem?_map,List.getElem?_range (by omega)];simp
 have XP:∀ (k:Nat) (x:ab),(v7 args.length k0 (.obj cs'))[k]?=some (some x)->x=.obj cs':=by
  intro k x h;unfold v7 at h;rw [List.getElem?_map] at h;cases hk:(List.range args.length)[k]? with
  | none=>rw [hk] at h; cases h
  | some j =>
   rw [hk] at h;simp only [Option.map_some,Option.some.injEq] at h
   split at h
   ·exact (Option.some.inj h).symm
   ·cases h
 have Iy:get ((r,ab.dead)::G2) r=some .dead:=by simp [get]
 have C':iE (ct g ⟨r,[]⟩ .dead) (get ((r,.dead)::G2)):=by
  refine ⟨λt x h=>?_,λt x h=>?_,λt z q n m new h=>?_⟩
  all_goals
   simp only [get] at h
   split at h
  ·rename_i e; subst e; cases h; simp [ct,ax,ab.setAt]
  ·obtain ⟨⟨y,h1,_,aF⟩,_⟩:=df.spec t x h; rw [<- aF rfl]; exact h1
  ·cases h; exact .bq .dead
  ·exact (df.spec t x h).2.1
  ·cases h
  ·exact (df.spec t _ h).2.2 _ _ _ _ _ rfl
 have put:qO (get ((r,.dead)::G2)) [(⟨r,[]⟩,.obj cs')]=get ((r,.obj cs')::G2):=by
  funext t;simp only [qO,ct,get];by_cases h:t=r
  ·simp [h,ab.setAt]
  ·simp [h]
 have Da:iE (get ((r,.obj cs')::G2)) (get ((r,.obj cs')::G2)):=by
  refine ⟨λt x h=>h,λt x h=>?_,λt z q n m new h=>?_⟩
  all_goals
   simp only [get] at h
   split at h
  ·cases h; exact .bq (.obj FH.bq)
  ·exact (B7.spec t x h).2.1
  ·cases h
  ·exact (B7.spec t _ h).2.2 _ _ _ _ _ rfl
 refine Bg.ok (first:=[]) (caps:=[]) (ys:=ys) (tk:=λ_=>true) (vw:=false) (outs:=v7 args.length k0 (.obj cs')) (g1:=ct g ⟨r,[]⟩ .dead) (g2:=get ((r,.dead)::G2)) (g4:=get ((r,.obj cs')::G2)) (l:=[(⟨r,[]⟩,.obj cs')]) (ks:=λ_=>k0) (xs0:=ys) (xs1:=args) (args:=args) (res:=res) aW aR rfl (by simpa using J)
  ⟨aV,by simp,by simpa using vz,λk x h=>.inl (by simpa using h),aJ.take ax eL.bq (Nat.zero_le _) (by omega),C',λk x y _ ao=>by simpa using ao,hf,by simpa using hr.bq,λk x h=>by rw [XP k x h]; simpa using cE.obj FH.bq,λj p x ag=>?_,by simp,λi j hi ag _=>by simp at hi ag; omega,by rw [put]; exact Da⟩ ?_ bt ?_
 ·cases j with
  | succ j=>simp at ag
  | zero =>
   simp only [List.getElem?_cons_zero,Option.some.injEq,Prod.mk.injEq] at ag;obtain ⟨rfl,rfl⟩:=ag;refine ⟨rq,by simp [bH,Iy,ab.at],.inr ⟨cs,?_,by simp [bH,ax,ab.at]⟩,λ_ h=>by cases h⟩;have:=aJ.Tf (Nat.zero_le _) (by omega);simpa using this
 ·simp only [get,if_neg (Ne.symm CK)]; exact aQ
 ·refine ⟨λt x h=>?_,λt x h=>?_⟩
  ·rw [tb] at h;rw [Fo];cases sg:get A t with
   | none=>exact h
   | some y =>
    obtain ⟨h1,af,_⟩:=dC.spec t y sg;simp only [get,if_neg af] at h;simp only [get] at h1;rw [h1] at h; cases h
  ·rw [tb];rw [Fo] at h;cases sg:get A t with
   | none=>rw [sg] at h; exact .inl h
   | some y =>
    rw [sg] at h;cases h;obtain ⟨h1,af,aF,k,rfl,hk⟩:=dC.spec t x sg;refine .inr ⟨?_,af,aF,r,k,cs',rfl,CK,?_,hk⟩
    ·simp only [get,if_neg af]; exact h1
    ·simp only [get,if_neg CK,if_true]
end
instance {cs:List ab}{n:Nat}{x:ab} [h:dm cs] [J:b9 x]:dm (cs.set n x):=⟨λy ao=>by
 rcases List.mem_or_eq_of_mem_set ao with aI | aI
 ·exact h.bq y aI
 ·rw [aI]; exact J.bq⟩
instance {x y:ab} [h:b9 y]:b9 (x.setAt [] y):=⟨by simpa [ab.setAt] using h.bq⟩
def uU (m n:Int):Option Int:=if n=0 then none else some (IntKind.u64.wrap (m.tdiv n))
def uY (m n:Int):Option Int:=if n=0 then none else some (m.tmod n)
inductive kl:List ab->List ab->Prop
 | nil:kl [] []
 | f {x:ab}{xs ys:List ab}(t:kl xs ys):kl (x::xs) (x::ys)
 | o {z:Nat}{xs ys:List ab}(t:kl xs ys):kl (.aP::xs) (.own z 0 []::ys)
 | i {z:Nat}{xs ys:List ab}(t:kl xs ys):kl (.aP::xs) (.bc z 0 []::ys)
theorem kl.len {xs ys:List ab}(h:kl xs ys):ys.length=xs.length:=by
 induction h with
 | nil=>rfl
 | f _ aM=>simp [aM]
 | o _ aM=>simp [aM]
 | i _ aM=>simp [aM]
theorem kl.get {xs ys:List ab}(h:kl xs ys):∀ (k:Nat) (x y:ab),xs[k]?=some x->ys[k]?=some y->nS x y:=by
 induction h with
 | nil=>intro k x y J; simp at J
 | f _ aM =>
  intro k a b aJ ar;cases k with
  | zero=>simp at aJ ar; subst aJ ar; exact .refl
  | succ k=>exact aM k a b (by simpa using aJ) (by simpa using ar)
 | o _ aM =>
  intro k a b aJ ar;cases k with
  | zero=>simp at aJ ar; subst aJ ar; exact .p1
  | succ k=>exact aM k a b (by simpa using aJ) (by simpa using ar)
 | i _ aM =>
  intro k a b aJ ar;cases k with
  | zero=>simp at aJ ar; subst aJ ar; exact .p0
  | succ k=>exact aM k a b (by simpa using aJ) (by simpa using ar)
theorem kl.obj {xs ys:List ab}(h:kl xs ys):nS (.obj xs) (.obj ys):=.obj h.len h.get
section
variable {P:Program}{N:cP}{ops:Array Oper}{g g' g1 g2:aL}{K:aL->Prop}{l:List Oper}{d r:Nat}{op:Op}{ty t t2:TypeId}{pos:String}{after:Array Edge}{gd:Option (Nat × Bool)}{a b c:Operand}{p q:Place}{x y:ab}{k:IntKind}{m n:Int}
variable {bj:List (List Nat)}{g0:aL}{acc:Acc}{i:Nat}
def sI:List Nat->Bool
 | []=>true
 | x::l=>l.all (λy=>!Nat.beq x y)&&sI l
theorem Gg:∀ {l:List Place},sI (l.map Place.root)=true->l.Nodup
 | [],_=>List.nodup_nil
 | p::l,h=>by
  simp only [List.map_cons,sI,Bool.and_eq_true,List.all_eq_true] at h;refine List.nodup_cons.2 ⟨λhm=>?_,Gg h.2⟩;have:=h.1 p.root (List.mem_map.2 ⟨p,hm,rfl⟩);simp at this
theorem bB.zq (bX:Nat) {G G2:List (Nat × ab)}{o:Oper}(he:bl P N (dq (get G) (λ_=>true) acc) o (get G2)) (aQ:o.guard=none) (gT:sI ((acc.filterMap lp).map Place.root)=true) (fN:ob G=true) (ag:Nat.beq ops.size (bX+l.length+1)=true)
  (aJ:(List.range bX).all (λk=>(bj.getD bX []).contains k)=true) (ar:(List.range ops.size).all (λk=>Nat.ble k bX||(bj.getD k []).contains bX)=true) (hk:bB P N ops bj (get G2) (bX+1) [] l K):bB P N ops bj (get G) i acc (o::l) K:=by
 intro dB j bI l1 mj;have:=BS mj ag;subst this;obtain ⟨h1,af⟩:=drop_cons mj;obtain ⟨g',hr,c6⟩:=hk [] (j+1) .nil .nil af;refine ⟨g',.Tq bI l1 (Gg gT) (x6 fN) h1 ?_ he aJ ?_ hr,c6⟩
 ·grind [iH]
 simp_all
theorem bB.bv (bX:Nat) {G G2:List (Nat × ab)}{o:Oper}{x:ab}(he:bl P N (dq (get G) (λ_=>true) acc) o (cT (get G2) d x)) (aQ:o.guard=none) (gT:sI ((acc.filterMap lp).map Place.root)=true) (fN:ob G=true) (ag:Nat.beq ops.size (bX+l.length+1)=true)
  (aJ:(List.range bX).all (λk=>(bj.getD bX []).contains k)=true) (ar:(List.range ops.size).all (λk=>Nat.ble k bX||(bj.getD k []).contains bX)=true) (hk:bB P N ops bj (get ((d,x)::G2)) (bX+1) [] l K):bB P N ops bj (get G) i acc (o::l) K :=
 .zq bX (tb ▸ he) aQ gT fN ag aJ ar hk
class HI (s:Nat) (g:aL):Prop where fE:∀ t,t≠s->∀ z q n m new,g t≠some (.bM z q n m new)
class zd (s:Nat) (acc:Acc):Prop where fE:∀ e∈acc,e.2.1≠s->∀ z q n m new,e.2.2≠some (.bM z q n m new)
instance {s:Nat}:zd s []:=⟨by simp⟩
instance {s j d:Nat}{x:ab}{acc:Acc} [J:qb x] [h:zd s acc]:zd s ((j,d,some x)::acc):=⟨λe he ax z q n m new bQ=>by
 rcases List.mem_cons.1 he with rfl | he
 ·exact J.fE z q n m new (Option.some.inj bQ)
 ·exact h.fE e he ax z q n m new bQ⟩
instance {s j:Nat}{x:Option ab}{acc:Acc} [h:zd s acc]:zd s ((j,s,x)::acc):=⟨λe he ax z q n m new bQ=>by
 rcases List.mem_cons.1 he with rfl | he
 ·exact absurd rfl ax
 ·exact h.fE e he ax z q n m new bQ⟩
instance {s:Nat}{G:List (Nat × ab)}{A:Nat->Bool}{acc:Acc} [aQ:r6 (get G)] [h:zd s acc]:HI s (dq (get G) A acc):=⟨λt au z q n m new e=>by
 rcases u7 e with ⟨b4,he,h1,_,af⟩ | ⟨_,af⟩
 ·exact h.fE b4 he (by rw [h1]; exact au) _ _ _ _ _ af
 ·exact aQ.fE _ _ _ _ _ _ af⟩
namespace O
theorem uU {r:Int}(J:Rd g a (.lit (.int .u64 m))) (ao:Rd g b (.lit (.int .u64 n))) (h:Own.uU m n=some r):bT P g (.binOp .quo t a b t2) ty (.lit (.int .u64 r)):=by
 unfold Own.uU at h
 split at h
 ·cases h
 ·cases h; exact .ew (.quo J ao (by assumption))
theorem uY {r:Int}(J:Rd g a (.lit (.int .u64 m))) (ao:Rd g b (.lit (.int .u64 n))) (h:Own.uY m n=some r):bT P g (.binOp .rem t a b t2) ty (.lit (.int .u64 r)):=by
 unfold Own.uY at h
 split at h
 ·cases h
 ·cases h; exact .ew (.rem J ao (by assumption))
theorem UW {L:List Int}(J:Rd g a (.bc se.z L.length (bC se L))) (au:zu P t t2=true):bT P g (.convert t t2 a) ty (a6 (strOfNums L)):=by
 have h:=J.bw;rw [QQ] at h;exact .ew (.Fe h au)
theorem vk {e eZ:Nat}{parts:Array (Nat × Operand)}{ys cs:List ab}{z:Nat}(au:fo P t e z=true) (J:hh g (parts.toList.map (·.2))=some ys) (aa:o1 ys=some cs) (aX:ys.all (λy=>match j9 y with | some c=>Nat.beq c.length z | none=>false)=true)
  (aq:parts.toList=(parts.toList.map (·.2)).mapIdx (λi x=>(i,x))) (aB:(parts.toList.map (·.2)).length=eZ) (hzero:jh P e z=true) (ar:Nat.ble (eZ * z) 16777216=true) (fm:Nat.ble eZ 16777216=true):bT P g (.buildSlice t eZ parts) ty (.own z eZ cs):=by
 subst aB;exact .rK (.buildSlice au aq J (λy ao=>by
  grind [Nat.eq_of_beq_eq_true]) aa (Nat.le_of_ble_eq_true ar) (Nat.le_of_ble_eq_true fm) (.inr (RX hzero)))
theorem Rm {z m:Nat}{cs:List ab}(a_:bH g q=some (.own z m cs)) (ah:cs.length=m * z) (aV:cs.all mg=true):Src g (.a7 z q m) z m cs:=by
 have:=Src.a7 (g:=g) (m:=m) a_ (Nat.le_refl _)
 simp_all [List.take_of_length_le,B0]
theorem HW {en:bO α}{L M r:List α}{e gF m:Nat}{cs:List ab}(ax:Rd g a (.a7 en.z p L.length)) (aq:bH g p=some (aC en L)) (J:Rd g b (.a7 en.z q m)) (a_:bH g q=some (.own en.z m cs)) (ah:cs.length=m * en.z) (aV:cs.all mg=true) (hm:M.length=m) (au:il P t e en.z gF=true) (ar:Nat.ble gF 128=true) (h:c8 L M=some r) [eL:r6 g] :
  bT P g (.call { callee:=.builtin .append,args:=#[a,b],argTypes:=#[t,t] }) ty (.bM en.z p L.length m cs):=by
 subst hm;obtain ⟨h1,af,_⟩:=wR h ar;exact .je (.grow ax.bw (.inl ⟨_,aq⟩) (λt bR cq m' cN e=>eL.fE _ _ _ _ _ _ e) J.bw (Rm a_ ah aV) au h1 af)
theorem E3 {en:bO α}{L M M2 r:List α}{y:ab}{e gF s:Nat}(ax:Rd g a (.a7 en.z ⟨s,[]⟩ (L.length+M.length))) (qA:g s=some (.bM en.z q L.length M.length (bC en M))) (aq:bH g q=some (aC en L)) (J:Rd g b y) (hm:ov g en y M2) (au:il P t e en.z gF=true) (ar:Nat.ble gF 128=true) (h:c8 (L++M) M2=some r) [eL:HI s g] :
  bT P g (.call { callee:=.builtin .append,args:=#[a,b],argTypes:=#[t,t] }) ty (.bM en.z ⟨s,[]⟩ (L.length+M.length) M2.length (bC en M2)):=by
 obtain ⟨h1,af,_⟩:=wR h ar;rw [List.length_append] at h1 af;refine .je (.grow ax.bw (.inr ⟨rfl,q,L.length,M.length,bC en M,_,qA,rfl,aq⟩) (λt bR cq m' cN e=>?_) J.bw hm.src au h1 af);by_cases X9:t=s
 ·grind [bH,ab.at]
 ·exact eL.fE t X9 _ _ _ _ _ e
theorem PW {en:bO α}{z0:α}{r:List α}{e gF:Nat}{cW:Value}(au:fo P t e en.z=true) (J:Rd g a (.lit (.int k m))) (ao:Rd g b (.lit (.int .i64 m))) (hzero:(P.info? e).bind (·.zero)=some cW) (h1:cW.cells.toList.all Value.oneCell'=true) (hN:(en.cells z0).length=cW.cells.size) (Xa:∀ (k:Nat) (u:Value) (x:ab),cW.cells[k]?=some u->(en.cells z0)[k]?=some x->x=ky u\/(ky u=.aP/\∃ bR,x=.bc bR 0 [])) (h:oO m z0=some r) (i_:(P.info? e).map (·.bytes)=some gF) (ar:Nat.ble gF 128=true) :
  bT P g (.makeSlice t a b) ty (aC en r):=by
 unfold oO at h
 split at h
 ·rename_i hm;have Cx:lim=1099511627776:=rfl;have j_:=Nat.le_of_ble_eq_true ar;obtain ⟨j,rfl⟩:=Int.eq_ofNat_of_zero_le hm.1;cases h;have ag:j<=1099511627776:=by omega
  have fA:cW.cells.size=en.z:=by rw [<- hN,en.len]
  have:=ot.makeSlice (P:=P) (ty:=ty) au J.bw ao.bw hzero (by rw [<- Array.all_toList]; exact h1) fA i_ (by
   calc j * gF<=1099511627776 * 128:=Nat.mul_le_mul ag j_
    _=140737488355328:=by decide) (by omega) hN Xa
  have ca:(List.replicate j (en.cells z0)).flatten=bC en (List.replicate j z0):=by simp [bC,List.flatMap_def]
  unfold aC;rw [Int.toNat_natCast,List.length_replicate,<- ca];exact .rK this
 ·cases h
theorem mk {en:bO α}{z0:α}{r:List α}{e gF:Nat}{cW:Value}(au:fo P t e en.z=true) (J:Rd g a (.lit (.int k m))) (ao:Rd g b (.lit (.int .i64 m))) (hzero:(P.info? e).bind (·.zero)=some cW) (h1:cW.cells.toList.all Value.oneCell'=true) (aa:cW.cells.toList.map ky=en.cells z0) (h:oO m z0=some r) (i_:(P.info? e).map (·.bytes)=some gF) (ar:Nat.ble gF 128=true) :
  bT P g (.makeSlice t a b) ty (aC en r):=by
 grind [PW]
theorem Y_ {e:bO β}{r:List (List β)}{m:Int}{k:IntKind}{a b:Operand}{t ty:TypeId}{w_ gF:Nat}{cW:Value}(au:fo P t w_ (bE e).z=true) (J:Rd g a (.lit (.int k m))) (ao:Rd g b (.lit (.int .i64 m))) (hzero:(P.info? w_).bind (·.zero)=some cW) (h1:cW.cells.toList.all Value.oneCell'=true) (aa:cW.cells.toList.map ky=[.aP]) (h:oO m ([]:List β)=some r) (i_:(P.info? w_).map (·.bytes)=some gF) (ar:Nat.ble gF 128=true) :
  bT P g (.makeSlice t a b) ty (aC (bE e) r):=by
 refine PW au J ao hzero h1 ?_ (λk u x hu J=>.inr ?_) h i_ ar
 ·grind [List.length_map,bE]
 ·have ah:=congrArg List.length aa;rw [List.length_map] at ah;have hk:k=0:=by
   grind
  subst hk;have hX:cW.cells.toList[0]?=some u:=by simpa using hu
  have af:=congrArg (λl=>l[0]?) aa;simp only [List.getElem?_map,hX,Option.map_some] at af;have af:=Option.some.inj af;refine ⟨af,e.z,?_⟩;have J:([ak e []]:List ab)[0]?=some x:=J;have:x=ak e []:=(Option.some.inj J).symm;rw [this];rfl
theorem PV (J:Rd g a (ae m)) (ao:Rd g b (ae n)):bT P g (.call { callee:=.builtin .min,args:=#[a,b],argTypes:=#[t,t2] }) ty (ae (min m n)):=.ew (.lits (vs:=[.int .i64 m,.int .i64 n]) (by simp [J.bw,ao.bw]) rfl λw cs=>by
 have:(if n<m then n else m)=min m n:=by omega
 simp [builtin,Builtin.min_,Builtin.min2,this])
theorem Gd (J:Rd g a (ae m)) (ao:Rd g b (ae n)):bT P g (.call { callee:=.builtin .max,args:=#[a,b],argTypes:=#[t,t2] }) ty (ae (max m n)):=.ew (.lits (vs:=[.int .i64 m,.int .i64 n]) (by simp [J.bw,ao.bw]) rfl λw cs=>by
 have:(if m<n then n else m)=max m n:=by omega
 simp [builtin,Builtin.max_,Builtin.max2,this])
end O
theorem Lw (en:bO α) {L:List α}{y y2:α}{o:Nat}{cs':List ab}(h:idx L m=some y) (he:e0 (en.cells y) o cs'=en.cells y2) (hlen:o+cs'.length<=en.z):e0 (bC en L) (m.toNat * en.z+o) cs'=bC en (L.set m.toNat y2):=by
 obtain ⟨aK,h1,af⟩:=mq h;have aN:m.toNat<L.length:=(List.getElem?_eq_some_iff.1 af).1;have ao:L[m.toNat]=y:=(List.getElem?_eq_some_iff.1 af).2;have ca:bC en L=bC en (L.take m.toNat)++(en.cells y++bC en (L.drop (m.toNat+1))):=by
  grind [bC,List.take_append_drop,List.drop_eq_getElem_cons]
 have b6:bC en (L.set m.toNat y2)=bC en (L.take m.toNat)++(en.cells y2++bC en (L.drop (m.toNat+1))):=by
  grind [List.set_eq_take_append_cons_drop,bC]
 have ah:(bC en (L.take m.toNat)).length=m.toNat * en.z:=by rw [oQ,List.length_take]; congr 1; omega
 rw [ca,b6,<- he];unfold e0;generalize bC en (L.take m.toNat)=A at *;generalize bC en (L.drop (m.toNat+1))=B at *;rw [<- ah];have FT:=en.len y;rw [List.take_append,List.take_of_length_le (by omega),show A.length+o - A.length=o by omega,List.take_append_of_le_length (by omega)];rw [List.drop_append,List.drop_eq_nil_of_le (by omega),show A.length+o+cs'.length - A.length=o+cs'.length by omega,List.drop_append_of_le_length (by omega)];simp
theorem IN {en:bO α}{L:List α}{i:Int}{off:Nat}{y:α}(h:idx L i=some y) (aW:Nat.blt off en.z=true):i.toNat * en.z+off<(bC en L).length:=by
 obtain ⟨D6,mu,_⟩:=mq h;have mn:off<en.z:=by simpa using aW
 rw [oQ];have af:i.toNat+1<=L.length:=by omega
 calc i.toNat * en.z+off<i.toNat * en.z+en.z:=by omega
  _=(i.toNat+1) * en.z:=by rw [Nat.add_mul]; omega
  _<=L.length * en.z:=Nat.mul_le_mul_right _ af
theorem oL {L:List α}{i:Int}{y y2:α}(h:idx L i=some y):idx (L.set i.toNat y2) i=some y2:=by
 grind [idx]
inductive pz (g g2:aL):ab->Prop
 | mk {α:Type}{en:bO α}{L Mp:List α}{r j off:Nat}{i:Int}{y y2:α}(h1:bH g ⟨r,[j]⟩=some (aC en L)) (hi:idx L i=some y) (af:bH g2 ⟨r,[j]⟩=some (aC en Mp)) (Ct:idx Mp i=some y2) (aW:Nat.blt off en.z=true):pz g g2 (.ptr ⟨r,[j]⟩ (i.toNat * en.z+off))
theorem pz.Qe {x:ab}(h:pz g g2 x):gE g x:=by
 cases h with
 | mk h1 hi af Ct aW=>exact ⟨_,h1,_,_,_,.inl rfl,IN hi aW⟩
theorem pz.Gq {x:ab}(h:pz g g2 x):gE g2 x:=by
 cases h with
 | mk h1 hi af Ct aW=>exact ⟨_,af,_,_,_,.inl rfl,IN Ct aW⟩
theorem pz.b0 {x:ab}(h:pz g g2 x):cU g2 x:=by
 have:=h.Gq;cases h with
 | mk=>exact .ref rfl this
theorem pz.fE {x:ab}(h:pz g g2 x):∀ z p n m new,x≠.bM z p n m new:=by
 cases h with
 | mk=>simp
theorem pz.clear {x:ab}{k0 m0:Nat}(h:pz g g2 x) (aq:p.path≠[]):Clear p k0 m0 x:=by
 cases h with
 | mk =>
  intro q a_ _ j c' e;simp only [A3,Option.some.injEq] at a_;subst a_;cases FK:p.path with
  | nil=>exact absurd FK aq
  | cons a b=>rw [FK] at e; simp at e
inductive k5 (g g2:aL) (r:Nat) (x2:ab):List (Nat × ab)->Prop
 | nil:k5 g g2 r x2 []
 | n {s:Nat}{x:ab}{l:List (Nat × ab)}(cQ:Nat.beq s r=false) (h:g s=some x) [aB:b9 x] (t:k5 g g2 r x2 l):k5 g g2 r x2 ((s,x)::l)
 | p {s q k:Nat}{l:List (Nat × ab)}{cs kH:List ab}(cQ:Nat.beq s r=false) (h:g s=some (.ptr ⟨q,[]⟩ k)) (h1:g q=some (.obj cs)) (hk:Nat.blt k cs.length=true) (af:g2 q=some (.obj kH)) (fz:Nat.blt k kH.length=true) (t:k5 g g2 r x2 l):k5 g g2 r x2 ((s,.ptr ⟨q,[]⟩ k)::l)
 | e {s:Nat}{x:ab}{c2:List ab}{l:List (Nat × ab)}(cQ:Nat.beq s r=false) (h:g s=some x) (he:pz g g2 x) (gL:x2=.obj c2) (t:k5 g g2 r x2 l):k5 g g2 r x2 ((s,x)::l)
 | w {α:Type}{s q:Nat}{en:bO α}{L:List α}{l:List (Nat × ab)}(cQ:Nat.beq s r=false) (h:g s=some (.a7 en.z ⟨q,[]⟩ L.length)) (h1:g q=some (aC en L)) (af:g2 q=some (aC en L)) (t:k5 g g2 r x2 l):k5 g g2 r x2 ((s,.a7 en.z ⟨q,[]⟩ L.length)::l)
 | b {l:List (Nat × ab)}{x:ab}(e:x=x2) [aB:b9 x2] (t:k5 g g2 r x2 l):k5 g g2 r x2 ((r,x)::l)
theorem k5.spec {x2:ab}{l:List (Nat × ab)}(h:k5 g g2 r x2 l):∀ t x,get l t=some x->(t≠r/\g t=some x/\(qg g g2 x\/pz g g2 x/\∃ c2,x2=.obj c2))\/(t=r/\x=x2/\cE x):=by
 induction h with
 | nil=>intro t x J; cases J
 | @n s x l cQ h aB _ aM =>
  intro t y ao;simp only [get] at ao
  split at ao
  ·rename_i e;subst e;cases ao;exact .inl ⟨Nat.ne_of_beq_eq_false cQ,h,.inl (.n aB.bq)⟩
  grind
 | @p s q k l cs kH cQ h h1 hk af fz _ aM =>
  intro t y ao;simp only [get] at ao
  split at ao
  ·rename_i e;subst e;cases ao;exact .inl ⟨Nat.ne_of_beq_eq_false cQ,h,.inl (.p h1 (by simpa using hk) af (by simpa using fz))⟩
  grind
 | @e s x c2 l cQ h he gL _ aM =>
  grind [get,Nat.ne_of_beq_eq_false]
 | @w α s q en L l cQ h h1 af _ aM =>
  intro t y ao;simp only [get] at ao
  split at ao
  ·rename_i e;subst e;cases ao;exact .inl ⟨Nat.ne_of_beq_eq_false cQ,h,.inl (.r h1 (Nat.le_refl _) af (Nat.le_refl _))⟩
  grind
 | @b l x e aB _ aM =>
  intro t y ao;simp only [get] at ao
  split at ao
  ·rename_i b4;subst b4;cases ao;subst e;exact .inr ⟨rfl,rfl,aB.bq⟩
  grind
theorem qg.QK {x:ab}{k0 m0:Nat}(h:qg g g2 x):jG (λr=>gE g r/\Clear p k0 m0 r/\gE g2 r) x:=by
 cases h with
 | n h=>exact .bq h
 | p h hk af fz =>
  refine .ref rfl ⟨uX h hk,?_,uX af fz⟩;intro q a_ _ j c' e;simp only [A3,Option.some.injEq] at a_;subst a_;simp at e
 | r h hk af fz =>
  refine .ref rfl ⟨A2 h hk,?_,A2 af fz⟩;intro q a_ _ j c' e;simp only [A3,Option.some.injEq] at a_;subst a_;simp at e
theorem bl.u4 {fU:Oper}{en:bO α}{L:List α}{iT y2:α}{o:Nat}{cs':List ab}{x2:ab}{G2:List (Nat × ab)}(aW:fU.op=.store t a b) (aR:fU.dst=none) (aJ:Rd g a (.ptr p (m.toNat * en.z+o))) (ar:Rd g b y) (aq:bH g p=some (aC en L)) (h:idx L m=some iT) (aX:hy P t cs'.length=true)
  (aa:o2 y=some cs') (he:e0 (en.cells iT) o cs'=en.cells y2) (hlen:Nat.ble (o+cs'.length) en.z=true) (aK:Nat.blt 0 cs'.length=true) (gL:ct g p (aC en (L.set m.toNat y2)) p.root=some x2) (hr:(get G2 p.root).isSome=true) [aB:b9 y] {y0:ab}(rC:g p.root=some y0) [eL:b9 y0] (df:k5 g (get G2) p.root x2 G2):bl P N g fU (get G2):=by
 have Cw:=Nat.le_of_ble_eq_true hlen;have ja:=Lw en h he Cw;have OK:(L.set m.toNat y2).length=L.length:=List.length_set;refine .store aW aR aJ.bw ar.bw (.bq (by simpa using aB.bq)) .refl aa aX (p:=p) (nd:=aC en L) (z:=en.z) (n:=L.length) (cs:=bC en L) aq (.inl rfl) ?_ (by simpa using aK) (λt x J=>?_) (λt x J y ao=>?_) (λt z q n m new J=>?_) (by intro e; rw [e] at hr; cases hr)
 ·obtain ⟨D6,mu,_⟩:=mq h;rw [oQ];have af:m.toNat+1<=L.length:=by omega
  calc m.toNat * en.z+o+cs'.length<=m.toNat * en.z+en.z:=by omega
   _=(m.toNat+1) * en.z:=by rw [Nat.add_mul]; omega
   _<=L.length * en.z:=Nat.mul_le_mul_right _ af
 ·have eA:(aC en L).e0 (m.toNat * en.z+o) cs'=aC en (L.set m.toNat y2):=by
   show ab.own en.z L.length (e0 (bC en L) (m.toNat * en.z+o) cs')=_
   grind
  rw [eA];rcases df.spec t x J with ⟨h1,af,_⟩ | ⟨h1,af,_⟩
  ·grind [wz]
  grind
 ·rcases df.spec t x J with ⟨h1,af,aF⟩ | ⟨h1,af,aF⟩
  ·rw [af] at ao;cases ao;rcases aF with aF | ⟨aF,c2,rfl⟩
   ·exact aF.QK
   ·refine jG.ref (by cases aF; rfl) ⟨aF.Qe,aF.clear ?_,aF.Gq⟩
    grind [ct,ab.setAt]
  ·subst h1;rw [rC] at ao;cases ao;exact .bq eL.bq
 ·rcases df.spec t _ J with ⟨_,_,aF | ⟨aF,_⟩⟩ | ⟨_,_,aF⟩
  ·exact aF.fE _ _ _ _ _ rfl
  ·exact aF.fE _ _ _ _ _ rfl
  ·cases aF
end
end Go.Own
namespace Go.Own
open Go
variable [cG]
theorem Ts (a b:ByteArray):(a == b)=decide (a=b):=by
 obtain ⟨a⟩:=a;obtain ⟨b⟩:=b;have:(({ data:=a }:ByteArray) == { data:=b })=(a == b):=rfl;rw [this,Bool.eq_iff_iff];simp
inductive ou where
 | b | s | i (k:IntKind)
 deriving DecidableEq
def mw:Value->Option ou
 | .bool _=>some .b
 | .string _=>some .s
 | .int k _=>some (.i k)
 | _=>none
def BU (P:Program) (rc:TypeId->List ou->Bool):List Field->Nat->List ou->Bool
 | [],_,dS=>dS.isEmpty
 | f :: fs, o, dS => f.name != "_" && f.offset == o && (match P.info? f.type with
   | some i=>i.size<=dS.length&&rc f.type (dS.take i.size)&&BU P rc fs (o+i.size) (dS.drop i.size)
   | none=>false)
def uh (P:Program):Nat->TypeId->List ou->Bool
 | 0,_,_=>false
 | d+1,t,dS=>match P.underlying t with
  | some .bool=>dS == [.b]&&jK P t
  | some (.int k)=>dS == [.i k]&&jK P t
  | some .string=>dS == [.s]&&jK P t
  | some (.struct fs)=>h5 P t dS.length&&!P.stoodInHeld t&&BU P (uh P d) fs.toList 0 dS
  | _=>false
def NA:Value->Value->Bool
 | .bool a,.bool b=>a == b
 | .int _ a,.int _ b=>decide (a=b)
 | .string a,.string b=>decide (a=b)
 | _,_=>false
def lS:List Value->List Value->Bool
 | a::az,b::de=>NA a b&&lS az de
 | _,_=>true
theorem NB:∀ (az de cs jL:List Value),az.length=de.length->lS (az++cs) (de++jL)=(lS az de&&lS cs jL)
 | [],[],cs,jL,_=>by simp [lS]
 | [],_::_,_,_,h=>by simp at h
 | _::_,[],_,_,h=>by simp at h
 | a::az,b::de,cs,jL,h=>by
  simp only [List.cons_append,lS,NB az de cs jL (by simpa using h),Bool.and_assoc]
def pack (P:Program) (t:TypeId) (vs:List Value):Value :=
 match P.underlying t,vs with
 | some (.struct _),_=>.agg vs.toArray
 | _,v::_=>v
 | _,[]=>.agg #[]
theorem QW {P:Program}{w:World}{t:TypeId}{d:Nat}{dS:List ou}(h:uh P (d+1) t dS=true) {cs:List Value}{o:Nat}{vs:List Value}(hv:(cs.drop o).take dS.length=vs) (ah:vs.length=dS.length) :
  (part t cs.toArray o).run P w=.ok (pack P t vs) w:=by
 unfold uh at h
 split at h
 case h_4 fs hu =>
  simp only [Bool.and_eq_true] at h;obtain ⟨h1,af⟩:=E0 (w:=w) h.1.1;simp [part,h1,af,pack,hu,<- hv,List.take_drop]
 case h_5=>cases h
 all_goals
  rename_i hu;simp only [Bool.and_eq_true,beq_iff_eq] at h;obtain ⟨rfl,aa⟩:=h;obtain ⟨h1,af⟩:=Ip (w:=w) aa;obtain ⟨v,rfl⟩:∃ v,vs=[v]:=by
   rcases vs with _ | ⟨v,_ | _⟩ <;> simp at ah;exact ⟨v,rfl⟩
  have:cs[o]?=some v:=by
   have:=congrArg List.head? hv;simpa [List.head?_take] using this
  simp [part,h1,pack,hu,this]
theorem LA {P:Program}(w:World):∀ (d:Nat) (t:TypeId) (dS:List ou),uh P d t dS=true->∀ (D:Nat),d<=D->∀ (az de:List Value),az.map mw=dS.map some->de.map mw=dS.map some ->
  (Op.equalIn D t (pack P t az) (pack P t de)).run P w=.ok (lS az de) w
 | 0,_,_,h,_,_,_,_,_,_=>by simp [uh] at h
 | d+1,t,dS,h,D,h7,az,de,aJ,ar=>by
  obtain ⟨D,rfl⟩:∃ E,D=E+1:=⟨D - 1,by omega⟩;have aK:=h;unfold uh at h
  split at h
  case h_5=>cases h
  case h_4 fs hu =>
   simp only [Bool.and_eq_true,Bool.not_eq_true'] at h;obtain ⟨⟨h1,af⟩,aF⟩:=h;have key:∀ (fs:List Field) (o:Nat) (dS:List ou) (nU nV:List Value),BU P (uh P d) fs o dS=true->az.drop o=nU->de.drop o=nV->nU.map mw=dS.map some->nV.map mw=dS.map some ->
     (forIn (m:=Sem) (β:=Option Bool × Unit) fs (none,()) λf _ =>
      if f.name = "_" then pure (.yield (none, ()))
      else do
       let x <- part f.type az.toArray f.offset
       let y <- part f.type de.toArray f.offset
       let c <- Op.equalIn D f.type x y
       if c=false then pure (.done (some false,())) else pure (.yield (none,()))).run P w=.ok (if lS nU nV then (none,()) else (some false,())) w:=by
    intro fs
    induction fs with
    | nil =>
     intro o dS nU nV aQ _ _ aJ ar;have ax:dS=[]:=by simpa [BU] using aQ
     subst ax;have h1:nU=[]:=by simpa using aJ
     have af:nV=[]:=by simpa using ar
     subst h1 af;simp [lS]
    | cons f fs aM =>
     intro o dS nU nV aQ Ou Ov aJ ar;unfold BU at aQ;cases hi:P.info? f.type with
     | none=>simp [hi] at aQ
     | some i =>
      simp only [hi,Bool.and_eq_true,bne_iff_ne,beq_iff_eq,decide_eq_true_eq] at aQ;obtain ⟨⟨aB,rfl⟩,⟨hle,he⟩,Cs⟩:=aQ;obtain ⟨e,rfl⟩:∃ e,d=e+1:=by
       cases d with
       | zero=>simp [uh] at he
       | succ e=>exact ⟨e,rfl⟩
      have xZ:nU.length=dS.length:=by simpa using congrArg List.length aJ
      have afq:nV.length=dS.length:=by simpa using congrArg List.length ar
      have abc:(nU.take i.size).map mw=(dS.take i.size).map some:=by rw [List.map_take,List.map_take,aJ]
      have hR:(nV.take i.size).map mw=(dS.take i.size).map some:=by rw [List.map_take,List.map_take,ar]
      have UY:(nU.drop i.size).map mw=(dS.drop i.size).map some:=by rw [List.map_drop,List.map_drop,aJ]
      have UZ:(nV.drop i.size).map mw=(dS.drop i.size).map some:=by rw [List.map_drop,List.map_drop,ar]
      have lt:(dS.take i.size).length=i.size:=by simp; omega
      have je:=QW (w:=w) he (cs:=az) (o:=f.offset) (vs:=nU.take i.size) (by rw [Ou,lt]) (by simp; omega);have v8:=QW (w:=w) he (cs:=de) (o:=f.offset) (vs:=nV.take i.size) (by rw [Ov,lt]) (by simp; omega);have IK:=LA w (e+1) f.type _ he D (by omega) _ _ abc hR;have aM:=aM (f.offset+i.size) (dS.drop i.size) (nU.drop i.size) (nV.drop i.size) Cs (by rw [<- Ou,List.drop_drop]) (by rw [<- Ov,List.drop_drop]) UY UZ;have sp:lS nU nV=(lS (nU.take i.size) (nV.take i.size)&&lS (nU.drop i.size) (nV.drop i.size)):=by
       have:=NB (nU.take i.size) (nV.take i.size) (nU.drop i.size) (nV.drop i.size) (by simp; omega)
       rwa [List.take_append_drop,List.take_append_drop] at this
      rw [List.forIn_cons];cases aa:lS (nU.take i.size) (nV.take i.size) with
      | false=>simp [aB,je,v8,IK,aa,sp]
      | true =>
       simp only [aa] at IK;simp [aB,je,v8,IK,aa,sp];simpa using aM
   have hk:=key fs.toList 0 dS az de aF rfl rfl aJ ar;unfold Op.equalIn;simp [pack,hu,run_underlying hu,af];rw [<- Array.forIn_toList,hk];cases lS az de <;> simp
  all_goals
   rename_i hu;simp only [Bool.and_eq_true,beq_iff_eq] at h;obtain ⟨rfl,aa⟩:=h;obtain ⟨a,rfl⟩:∃ v,az=[v]:=by
    rcases az with _ | ⟨v,_ | _⟩ <;> simp at aJ;exact ⟨v,rfl⟩
   obtain ⟨b,rfl⟩:∃ v,de=[v]:=by
    rcases de with _ | ⟨v,_ | _⟩ <;> simp at ar;exact ⟨v,rfl⟩
   cases a <;> simp [mw] at aJ <;> cases b <;> simp [mw] at ar;simp [Op.equalIn,pack,hu,run_underlying hu,lS,NA,aJ,ar,Ts] <;> rfl
def vo (P:Program) (t:TypeId) (dS:List ou):Bool :=
 uh P 100 t dS&&(match P.underlying t with | some (.struct _)=>true | _=>false)&&!P.eqGuardType P.depth t
section
variable {P:Program}{g:aL}{t t2:TypeId}{ty:TypeId}{a b:Operand}
theorem aar {az de:List Value}{dS:List ou}(aJ:az.map mw=dS.map some) (ar:de.map mw=dS.map some) (au:vo P t dS=true) (w:World) :
  (do eqGuard .eql t a b (.agg az.toArray) (.agg de.toArray); binOp .eql t (.agg az.toArray) (.agg de.toArray):Sem Value).run P w=.ok (.bool (lS az de)) w:=by
 simp only [vo,Bool.and_eq_true,Bool.not_eq_true'] at au;obtain ⟨⟨h1,af⟩,aF⟩:=au;have h:=LA w 100 t dS h1 Op.maxDepth (by decide) az de aJ ar
 split at af
 ·rename_i fs hu;simp only [pack,hu] at h;simp [eqGuard,binOp,aF,Op.equal,h]
 ·cases af
theorem aat {az de:List Value}{dS:List ou}(aJ:az.map mw=dS.map some) (ar:de.map mw=dS.map some) (au:vo P t dS=true) (w:World) :
  (do eqGuard .neq t a b (.agg az.toArray) (.agg de.toArray); binOp .neq t (.agg az.toArray) (.agg de.toArray):Sem Value).run P w=.ok (.bool (!lS az de)) w:=by
 simp only [vo,Bool.and_eq_true,Bool.not_eq_true'] at au;obtain ⟨⟨h1,af⟩,aF⟩:=au;have h:=LA w 100 t dS h1 Op.maxDepth (by decide) az de aJ ar
 split at af
 ·rename_i fs hu;simp only [pack,hu] at h;simp [eqGuard,binOp,aF,Op.equal,h]
 ·cases af
namespace O
theorem Vl {nM pt:List Value}{dS:List ou}(J:Rd g a (.agg (nM.map .lit))) (ao:Rd g b (.agg (pt.map .lit))) (aJ:nM.map mw=dS.map some) (ar:pt.map mw=dS.map some) (au:vo P t dS=true) :
  bT P g (.binOp .eql t a b t2) ty (bd (lS nM pt)):=.ew (.BA J.bw ao.bw rfl λw=>aar aJ ar au w)
theorem Zd {nM pt:List Value}{dS:List ou}(J:Rd g a (.agg (nM.map .lit))) (ao:Rd g b (.agg (pt.map .lit))) (aJ:nM.map mw=dS.map some) (ar:pt.map mw=dS.map some) (au:vo P t dS=true) :
  bT P g (.binOp .neq t a b t2) ty (bd (!lS nM pt)):=.ew (.BA J.bw ao.bw rfl λw=>aat aJ ar au w)
end O
end
section
variable {P:Program}{N:cP}{g g2:aL}{d r k0:Nat}{α:Type}
theorem View.kP {p:Place}{cs cs':List ab}(aq:bH g p=some (.obj cs)) (hk:Nat.blt 0 cs.length=true) [h:f_ cs cs']:View g (.ptr p 0) (.cx cs') :=
 .ptr aq (z:=0) (n:=0) (.inr rfl) (by simpa using hk) (by simpa using h.l) λk x y J ao=>h.v g k x y (by simpa using J) ao
theorem cU.el {en:bO α}{L:List α}{j off:Nat}{i:Int}{y:α}(af:bH g2 ⟨r,[j]⟩=some (aC en L)) (hi:idx L i=some y) (aW:Nat.blt off en.z=true):cU g2 (.ptr ⟨r,[j]⟩ (i.toNat * en.z+off)) :=
 (pz.mk (g:=g2) af hi af hi aW).b0
theorem jY {p:Place}{k:Nat}:∀ z q n m new,ab.ptr p k≠.bM z q n m new:=by simp
inductive yV (g:aL) (d r k0:Nat) (G4:List (Nat × ab)):List (Nat × ab)->Prop
 | nil:yV g d r k0 G4 []
 | c {α:Type}{en:bO α}{L:List α}{s off:Nat}{i:Int}{y:α}{l:List (Nat × ab)}(h:g s=some (.ptr ⟨r,[k0]⟩ (i.toNat * en.z+off))) (aq:bH (get G4) ⟨r,[k0]⟩=some (aC en L)) (hi:idx L i=some y) (aW:Nat.blt off en.z=true) (aR:Nat.beq s d=false) (bh:get G4 s=none) (t:yV g d r k0 G4 l):yV g d r k0 G4 ((s,.ptr ⟨r,[k0]⟩ (i.toNat * en.z+off))::l)
theorem yV.spec {G4 l:List (Nat × ab)}(h:yV g d r k0 G4 l):∀ t x,get l t=some x->get G4 t=none/\t≠d/\g t=some x/\∃ m z n cs,x=.ptr ⟨r,[k0]⟩ m/\bH (get G4) ⟨r,[k0]⟩=some (.own z n cs)/\m<cs.length:=by
 induction h with
 | nil=>intro t x J; cases J
 | @c α en L s off i y l h aq hi aW aR bh _ aM =>
  intro t x J; simp only [get] at J
  split at J
  ·rename_i e; subst e; cases J; exact ⟨bh,Nat.ne_of_beq_eq_false aR,h,_,_,_,_,rfl,aq,IN hi aW⟩
  ·exact aM t x J
theorem k5.keep {g':aL}{x2:ab}{G2:List (Nat × ab)}(df:k5 g (get G2) r x2 G2) (h1:∀ t,t≠r->g' t=g t) (af:g' r=some x2):iE g' (get G2):=by
 refine ⟨λt x J=>?_,λt x J=>?_,λt z q n m new J=>?_⟩
 ·rcases df.spec t x J with ⟨a,b,_⟩ | ⟨rfl,rfl,_⟩
  ·grind
  grind
 ·rcases df.spec t x J with ⟨_,_,aF | ⟨aF,_⟩⟩ | ⟨_,_,aF⟩
  ·exact aF.b0
  ·exact aF.b0
  ·exact .bq aF
 ·rcases df.spec t _ J with ⟨_,_,aF | ⟨aF,_⟩⟩ | ⟨_,_,aF⟩
  ·exact aF.fE _ _ _ _ _ rfl
  ·exact aF.fE _ _ _ _ _ rfl
  ·cases aF
theorem Q7 {cs:List ab}{y x:ab}(h:g r=some (.obj cs)) (hk:cs[k0]?=some x):ct g ⟨r,[k0]⟩ y r=some (.obj (cs.set k0 y)):=by
 grind [ct,ab.setAt,ab.kids,ab.sQ]
theorem bl.dN {o:Oper}{y:ab}{cs cs5:List ab}{G1 G4:Value->List (Nat × ab)}{c4:Value->List ab}{G5 A:List (Nat × ab)}(aR:o.dst=some d) (bt:N.ok d=true) (hr:g r=some (.obj cs)) (ao:cs[k0]?=some y) [xO:b9 y]
  (h1:∀ v,k5 g (get (G1 v)) r (.obj (cs.set k0 (.lit v))) (G1 v)) (aa:∀ v,k1 P N (get (G1 v)) o d (get (G4 v))) (N4:∀ v,get (G4 v) r=some (.obj (c4 v))) (N3:∀ v,(c4 v)[k0]?=some (.lit v)) (VR:∀ v,(c4 v).set k0 y=cs5)
  (b7:∀ v,k5 (get (G4 v)) (get G5) r (.obj cs5) G5) (VW:bH (get G5) ⟨r,[k0]⟩=some y) (dC:yV g d r k0 G5 A) (lB:∀ i,y≠.self i:=by exact λ_ h=>by cases h):bl P N g o (get (A++G5)):=by
 refine .call aR bt (k1.VA hr ao xO.bq lB λv hv=>⟨get (G1 v),get (G4 v),get G5,?_,aa v,?_,?_,VW,?_⟩)
 ·exact (h1 v).keep (λt au=>wz au) (Q7 hr ao)
 ·have:=N4 v;simp only [bH,this,ab.at,ab.kids,N3 v]
 ·refine (b7 v).keep (λt au=>wz au) ?_;rw [Q7 (N4 v) (N3 v),VR v]
 ·refine ⟨λt x h=>?_,λt x h=>?_⟩
  ·rw [Fo];cases sg:get A t with
   | none=>exact h
   | some z =>
    obtain ⟨mu,_⟩:=dC.spec t z sg;rw [mu] at h; cases h
  ·rw [Fo] at h;cases sg:get A t with
   | none=>rw [sg] at h; exact .inl h
   | some z =>
    rw [sg] at h;cases h;exact .inr (dC.spec t x sg)
end
section
variable {P:Program}{N:cP}{ops:Array Oper}{g g1 lT:aL}{K:aL->Prop}{l:List Oper}{d r:Nat}{t:TypeId}{a b:Operand}{x y:ab}
variable {bj:List (List Nat)}{acc:Acc}{i:Nat}
theorem gU {a b:Nat}(h:Nat.blt a b=true):a<b:=by simpa using h
def Dk:Option Nat->Nat->Bool
 | none,_=>true
 | some a,d=>!Nat.beq a d
theorem K7 {o:Option Nat}{d:Nat}(h:Dk o d=true):o≠some d:=by
 rintro rfl;simp [Dk] at h
inductive tW (P:Program) (N:cP) (ops:Array Oper) (bj:List (List Nat)) (rs:Place->Prop) (lT g1:aL) (o:Oper) (U:Acc):Acc->Prop
 | nil:tW P N ops bj rs lT g1 o U []
 | c {k d:Nat}{x:ab}{fU:Oper}{V:Acc}(bU:wM rs lT g1 o x) (h1:g1 d=none) (cQ:Dk o.dst d=true) (aW:ops[k]?=some fU) (xC:fU.dst=some d) (bt:N.ok d=true) (hw:iH (dq g1 (λm=>(bj.getD k []).contains m) U) ops fU true)
   (ax:bT P (dq g1 (λm=>(bj.getD k []).contains m) U) fU.op fU.type x) (t:tW P N ops bj rs lT g1 o U V):tW P N ops bj rs lT g1 o U ((k,d,some x)::V)
 | ci {k d:Nat}{x y:ab}{fU:Oper}{V:Acc}(bU:wM rs lT g1 o x) (h1:g1 d=none) (cQ:Dk o.dst d=true) (aW:ops[k]?=some fU) (xC:fU.dst=some d) (bt:N.ok d=true) (hw:iH (dq g1 (λm=>(bj.getD k []).contains m) U) ops fU true)
   (ax:bT P (dq g1 (λm=>(bj.getD k []).contains m) U) fU.op fU.type y) [aB:b9 y] [hv:j8 y x] (t:tW P N ops bj rs lT g1 o U V):tW P N ops bj rs lT g1 o U ((k,d,some x)::V)
theorem tW.spec {o:Oper}{U V:Acc}{rs:Place->Prop}(h:tW P N ops bj rs lT g1 o U V):∀ e∈V,(∃ x,e.2.2=some x/\wM rs lT g1 o x)/\(g1 e.2.1=none/\o.dst≠some e.2.1)/\∃ fU,ops[e.1]?=some fU/\fU.dst=some e.2.1/\N.ok e.2.1=true/\qh P (dq g1 (λm=>(bj.getD e.1 []).contains m) U) ops fU e.2.2:=by
 induction h with
 | nil=>intro e he; cases he
 | c bU h1 cQ aW xC bt hw ax _ aM =>
  intro e he;rcases List.mem_cons.1 he with rfl | he
  ·exact ⟨⟨_,rfl,bU⟩,⟨h1,K7 cQ⟩,_,aW,xC,bt,.inl ⟨hw,.inl ax⟩⟩
  ·exact aM e he
 | @ci k d x y fU V bU h1 cQ aW xC bt hw ax aB hv _ aM =>
  intro e he;rcases List.mem_cons.1 he with rfl | he
  ·exact ⟨⟨_,rfl,bU⟩,⟨h1,K7 cQ⟩,_,aW,xC,bt,.inr (.inr ⟨hw,y,.inl ax,aB.bq,hv.v _⟩)⟩
  ·exact aM e he
theorem bB.d' (bX:Nat) {G G2:List (Nat × ab)}{U:Acc}{o:Oper}{rs:List Nat}(he:np P N (sM rs) (dq (get G) (λm=>(bj.getD bX []).contains m) acc) o (get G2)) (lC:rs.all (λr=>(get G r).isSome)=true) (aQ:o.guard=none) (gT:sI ((acc.filterMap lp).map Place.root)=true) (fN:ob G=true) (ag:Nat.beq ops.size (bX+l.length+1)=true)
  (fl:acc.filter (λe=>!(bj.getD bX []).contains e.1)=U) (oJ:tW P N ops bj (sM rs) (dq (get G) (λm=>(bj.getD bX []).contains m) acc) (get G2) o U U)
  (ar:(List.range ops.size).all (λk=>Nat.ble k bX||(bj.getD k []).contains bX)=true) (hk:bB P N ops bj (get G2) (bX+1) U l K):bB P N ops bj (get G) i acc (o::l) K:=by
 intro dB j bI l1 mj;have:=BS mj ag;subst this;obtain ⟨h1,af⟩:=drop_cons mj;have mT:∀ e∈U,e∈acc:=λe he=>by rw [<- fl] at he; exact (List.mem_filter.1 he).1
 have B9:nr P N ops bj (get G2) (j+1) U:=⟨λe he=>by have:=(l1.le bI).2 e (mT e he); omega,λe he=>(oJ.spec e he).2.1.1,by rw [<- fl]; exact (List.filter_sublist.map _).nodup (l1.nodup bI),λe he b4 h8 h=>l1.uniq bI (mT e he) (mT b4 h8) h,λe he=>(oJ.spec e he).2.2⟩;obtain ⟨g',hr,c6⟩:=hk U (j+1) B9 .nil af;refine ⟨g',.Bz l1 (Gg gT) (x6 fN) h1 ?_ he (λr hr e=>by have:=List.all_eq_true.1 lC r.root hr; rw [e] at this; cases this) fl.symm (λe h=>(oJ.spec e h).1) (λe h=>(oJ.spec e h).2.1) (λe h=>(oJ.spec e h).2.2) ?_ hr,c6⟩
 ·unfold iH; rw [aQ]
 ·refine List.all_eq_true.2 λk hk=>?_;have:=List.all_eq_true.1 ar k hk;simp only [Bool.or_eq_true,decide_eq_true_eq,Nat.ble_eq] at this ⊢;exact this
theorem bB.M7 (bX:Nat) {G G2:List (Nat × ab)}{U:Acc}{o:Oper}{ps:List Place}(he:np P N (λp=>p∈ps) (dq (get G) (λm=>(bj.getD bX []).contains m) acc) o (get G2)) (lC:ps.all (λr=>(get G r.root).isSome)=true) (aQ:o.guard=none) (gT:sI ((acc.filterMap lp).map Place.root)=true) (fN:ob G=true) (ag:Nat.beq ops.size (bX+l.length+1)=true)
  (fl:acc.filter (λe=>!(bj.getD bX []).contains e.1)=U) (oJ:tW P N ops bj (λp=>p∈ps) (dq (get G) (λm=>(bj.getD bX []).contains m) acc) (get G2) o U U)
  (ar:(List.range ops.size).all (λk=>Nat.ble k bX||(bj.getD k []).contains bX)=true) (hk:bB P N ops bj (get G2) (bX+1) U l K):bB P N ops bj (get G) i acc (o::l) K:=by
 intro dB j bI l1 mj;have:=BS mj ag;subst this;obtain ⟨h1,af⟩:=drop_cons mj;have mT:∀ e∈U,e∈acc:=λe he=>by rw [<- fl] at he; exact (List.mem_filter.1 he).1
 have B9:nr P N ops bj (get G2) (j+1) U:=⟨λe he=>by have:=(l1.le bI).2 e (mT e he); omega,λe he=>(oJ.spec e he).2.1.1,by rw [<- fl]; exact (List.filter_sublist.map _).nodup (l1.nodup bI),λe he b4 h8 h=>l1.uniq bI (mT e he) (mT b4 h8) h,λe he=>(oJ.spec e he).2.2⟩;obtain ⟨g',hr,c6⟩:=hk U (j+1) B9 .nil af;refine ⟨g',.Bz l1 (Gg gT) (x6 fN) h1 ?_ he (λr hr e=>by have:=List.all_eq_true.1 lC r hr; rw [e] at this; cases this) fl.symm (λe h=>(oJ.spec e h).1) (λe h=>(oJ.spec e h).2.1) (λe h=>(oJ.spec e h).2.2) ?_ hr,c6⟩
 ·unfold iH; rw [aQ]
 ·refine List.all_eq_true.2 λk hk=>?_;have:=List.all_eq_true.1 ar k hk;simp only [Bool.or_eq_true,decide_eq_true_eq,Nat.ble_eq] at this ⊢;exact this
theorem np.box {o:Oper}{r:Nat}{x:ab}{G1 G2:List (Nat × ab)}(he:bl P N (get G1) o (get G2)) (hr:g r=some x) [J:b9 x] (hk:Trim false g (get G1) G1) (aK:get G1 r=none) (h1:get G2 r=none) (aR:Dk o.dst r=true):np P N (sM [r]) g o (get ((r,x)::G2)):=by
 rw [<- tb];exact he.jM.frame hr J.bq hk.keep aK h1 (K7 aR)
theorem bl.kf {o:Oper}{k0:Nat}{cs cs' cs2:List ab}{G2:List (Nat × ab)}(aW:o.op=.store t a b) (aR:o.dst=none) (ax:g r=some (.obj cs)) (aJ:Rd g a (.ptr ⟨r,[]⟩ k0)) (ar:Rd g b y) [aB:b9 y] (aa:o2 y=some cs') (aX:hy P t cs'.length=true)
  (hk:Nat.ble (k0+cs'.length) cs.length=true) (aK:Nat.blt 0 cs'.length=true) (he:e0 cs k0 cs'=cs2) [eL:dm cs] (hr:(get G2 r).isSome=true) (df:ly g (get G2) r cs2 G2):bl P N g o (get G2) :=
 .box aW aR ax aJ ar aB.bq aa aX (Nat.le_of_ble_eq_true hk) (by simpa using aK) he (by intro e; rw [e] at hr; cases hr) df
end
section
variable {α:Type}
theorem f_.app {xs ys xs' Ex:List ab}(h:f_ xs ys) (aI:f_ xs' Ex):f_ (xs++xs') (ys++Ex):=⟨by simp [h.l,aI.l],λg k a b aJ ar=>by
 by_cases hk:k<xs.length
 ·rw [List.getElem?_append_left hk] at aJ;rw [List.getElem?_append_left (by rw [h.l]; exact hk)] at ar;exact h.v g k a b aJ ar
 ·rw [List.getElem?_append_right (by omega)] at aJ;rw [List.getElem?_append_right (by rw [h.l]; omega),h.l] at ar;exact aI.v g _ a b aJ ar⟩
instance {e b4:bO α}{L:List α} [h:ik e b4]:f_ (bC e L) (bC b4 L):=⟨(Es e b4 L).1,(Es e b4 L).2⟩
theorem j8.p5 {en:bO α}{L:List α}{n:Nat}{cs cs':List ab}(h:bC en L=cs') (ah:L.length=n) [hv:f_ cs cs']:j8 (.own en.z n cs) (ak en L):=⟨λg=>by
 subst h ah;exact .own hv.l (hv.v g)⟩
theorem j8.jA {en ug:bO α}{L M:List α}{m:Nat}{new cN:List ab} [h:ik en ug] (aB:bC ug M=cN) (hm:M.length=m) [aI:f_ new cN]:j8 (.own en.z (L.length+m) (bC en L++new)) (ak ug (L++M)):=⟨λg=>by
 subst aB hm;have hv:=f_.app (inferInstance:f_ (bC en L) (bC ug L)) aI;show View g (.own en.z (L.length+M.length) (bC en L++new)) (.bc ug.z (L++M).length (bC ug (L++M)));have e:bC ug (L++M)=bC ug L++bC ug M:=by simp [bC]
 rw [e,List.length_append,<- h.z];exact .own hv.l (hv.v g)⟩
end
section
variable {α:Type}{g g2:aL}{p q:Place}{P:Program}{a b:Operand}{t:TypeId}{ty:TypeId}
theorem cU.a7 {en:bO α}{L:List α}(h:bH g2 p=some (aC en L)):cU g2 (.a7 en.z p L.length):=.ref rfl (.inl ⟨_,_,h,Nat.le_refl _⟩)
theorem iz {z n:Nat}:∀ bR q cq m new,ab.a7 z p n≠.bM bR q cq m new:=by simp
namespace O
theorem S4 {en:bO α}{L M r:List α}{e gF m:Nat}{cs:List ab}(ax:Rd g a (.a7 en.z p L.length)) (aq:bH g p=some (aC en L)) (J:Rd g b (.a7 en.z q m)) (a_:bH g q=some (.own en.z m cs)) (ah:cs.length=m * en.z) (aV:cs.all mg=true) (hm:M.length=m) (au:il P t e en.z gF=true) (ar:Nat.ble gF 128=true) (h:c8 L M=some r)
  (eL:∀ t z n m new,g t≠some (.bM z p n m new)):bT P g (.call { callee:=.builtin .append,args:=#[a,b],argTypes:=#[t,t] }) ty (.bM en.z p L.length m cs):=by
 subst hm;obtain ⟨h1,af,_⟩:=wR h ar;exact .je (.grow ax.bw (.inl ⟨_,aq⟩) (λt bR cq m' cN e=>eL _ _ _ _ _ e) J.bw (Rm a_ ah aV) au h1 af)
end O
end
end Go.Own
namespace Go.Own
open Go Go.RowKit Go.ChangeShapes Go.WideShapes Go.Deep
variable [cG]
variable {α β Mf:Type}{P:Program}
abbrev tT (w:World) (y:ab) (u:Value):Prop:=R w (λb=>b<w.heap.size) (λ_ _=>False) y u (λ_=>False)
def ns (w:World) (ys:List ab) (cs:List Value):Prop :=
 ys.length=cs.length/\∀ (k:Nat) (y:ab) (u:Value),ys[k]?=some y->cs[k]?=some u->u.oneCell'=true/\tT w y u
theorem ns.nil {w:World}:ns w [] []:=⟨rfl,λ_ _ _ h=>by simp at h⟩
theorem ns.one {w:World}{y:ab}{u:Value}(h1:u.oneCell'=true) (h:tT w y u):ns w [y] [u] :=
 ⟨rfl,λk y' sU ao hu=>by
  cases k with
  | zero=>simp at ao hu; subst ao hu; exact ⟨h1,h⟩
  | succ k=>simp at ao⟩
theorem ns.app {w:World}{ys yP:List ab}{cs jL:List Value}(h:ns w ys cs) (af:ns w yP jL):ns w (ys++yP) (cs++jL):=by
 refine ⟨by simp [h.1,af.1],λk y u ao hu=>?_⟩;by_cases hk:k<ys.length
 ·rw [List.getElem?_append_left hk] at ao;rw [List.getElem?_append_left (h.1 ▸ hk)] at hu;exact h.2 k y u ao hu
 ·rw [List.getElem?_append_right (by omega)] at ao;rw [List.getElem?_append_right (by have:=h.1; omega),<- h.1] at hu;exact af.2 _ y u ao hu
structure kZ (P:Program) (e:bO α) (t:TypeId) (ok:α->Prop):Prop where
 z:P.cellsOf t=e.z
 go:∀ {H:Type}{enc:TypeId × Value->H}{w:World}{n:Nat}{cs:List Value}{x:DataW H × List MemPlace},
  DataW.trod enc P w 0 (λ_=>true) true n t cs=some x->∃ a,ok a/\ns w (e.cells a) cs
theorem kZ.int {e:bO Int}{t:TypeId}{k:IntKind}(au:P.underlying t=some (.int k)) (aX:P.cellsOf t=e.z) (he:∀ n,e.cells n=[.lit (.int k n)]) :
  kZ P e t (λn=>(Lit.int k n).wf=true):=by
 refine ⟨aX,λh=>?_⟩;obtain ⟨n,rfl,_,hw⟩:=DataW.trod_int au h;exact ⟨n,hw,he n ▸ ns.one rfl (.lit rfl λ_ h=>h)⟩
theorem kZ.bool {e:bO Bool}{t:TypeId}(au:P.underlying t=some .bool) (aX:P.cellsOf t=e.z) (he:∀ n,e.cells n=[.lit (.bool n)]) :
  kZ P e t (λ_=>True):=by
 refine ⟨aX,λh=>?_⟩;obtain ⟨n,rfl,_⟩:=DataW.trod_bool au h;exact ⟨n,trivial,he n ▸ ns.one rfl (.lit rfl λ_ h=>h)⟩
theorem QR (e:bO α) (aX:0<e.z):∀ (l:List α) (k:Nat) (y:ab),(bC e l)[k]?=some y->∃ a,l[k / e.z]?=some a/\(e.cells a)[k % e.z]?=some y
 | [],k,y,h=>by simp [bC] at h
 | a::l,k,y,h=>by
  have he:bC e (a::l)=e.cells a++bC e l:=by simp [bC]
  rw [he] at h;by_cases hk:k<e.z
  ·rw [List.getElem?_append_left (by rw [e.len]; exact hk)] at h;exact ⟨a,by simp [Nat.div_eq_of_lt hk],by rw [Nat.mod_eq_of_lt hk]; exact h⟩
  ·rw [List.getElem?_append_right (by rw [e.len]; omega),e.len] at h;obtain ⟨b,h1,af⟩:=QR e aX l (k - e.z) y h;have aR:k / e.z=(k - e.z) / e.z+1:=by rw [Nat.div_eq_sub_div aX (by omega)]
   refine ⟨b,by rw [aR]; simpa using h1,?_⟩;rw [Nat.mod_eq_sub_mod (by omega)]; exact af
theorem kZ.slice {e:bO α}{t A7:TypeId}{ok:α->Prop}(h:kZ P e A7 ok) (au:P.underlying t=some (.slice A7)) (aX:P.cellsOf t=1) (pU:0<e.z) :
  kZ P (bE e) t (λl=>l.length<=maxLen/\∀ x∈l,ok x):=by
 classical
 refine ⟨aX,λ{H enc w n cs x} hr=>?_⟩;rcases open_slice au hr with ⟨rfl,rfl⟩ | ⟨a,len,cap,m,cq,D,qe,rfl,ar,ah,hm,J0,rfl,J⟩
 ·exact ⟨[],⟨by simp,by simp⟩,ns.one rfl (.gM λ_ h=>h)⟩
 ·have vI:m=cap:=by simpa using J0
  subst vI;have hex:∀ i,i<len->∃ q:α × List Value,ok q.1/\ns w (e.cells q.1) q.2/\w.cells? 0 (a.add (i * P.cellsOf A7)) (P.cellsOf A7)=some q.2:=λi hi=>by
   obtain ⟨cs',h1,af⟩:=J i (by omega);obtain ⟨b,gS,fm⟩:=h.go af;exact ⟨(b,cs'),gS,fm,h1⟩
  by_cases aK:len=0
  ·subst aK;exact ⟨[],⟨by simp,by simp⟩,ns.one rfl (.gM λ_ h=>h)⟩
  ·obtain ⟨D6,_⟩:=hex 0 (by omega)
   haveI:Inhabited (α × List Value):=⟨D6⟩
   obtain ⟨f,aV⟩:=choose_lt hex;have hlen:((List.range len).map λi=>(f i).1).length=len:=by simp
   have mS:∀ (i:Nat) (b:α),((List.range len).map λi=>(f i).1)[i]?=some b->i<len/\b=(f i).1:=λi b hi=>by
    have aN:=(List.getElem?_eq_some_iff.1 hi).1;simp at aN;simp [aN] at hi;exact ⟨aN,hi.symm⟩
   have ja:a.spot=none/\a.block<w.heap.size:=by
    obtain ⟨_,_,aF⟩:=aV 0 (by omega);obtain ⟨_,JU,b7⟩:=World.cells?_some aF;have dp:=b7 0 (by rw [h.z]; exact pU);simp only [Nat.zero_mul,Addr.add,if_true] at dp;have:0<(f 0).2.length:=by rw [JU,h.z]; exact pU
    rw [List.getElem?_eq_getElem this] at dp;unfold World.cell? at dp
    split at dp
    ·rename_i bQ;refine ⟨?_,(Array.getElem?_eq_some_iff.1 bQ).1⟩;cases ax:a.spot with
     | none=>rfl
     | some s=>simp [ax] at dp
    ·cases dp
   have key:∀ (k:Nat) (y:ab),(bC e ((List.range len).map λi=>(f i).1))[k]?=some y->∃ u,w.cell? ⟨a.block,a.off+k,none⟩=some u/\u.oneCell'=true/\tT w y u:=λk y hk=>by
    obtain ⟨b,gS,fm⟩:=QR e pU _ k y hk;obtain ⟨hi,rfl⟩:=mS _ _ gS;obtain ⟨_,af,aF⟩:=aV _ hi;obtain ⟨_,JU,b7⟩:=World.cells?_some aF;have OP:k % e.z<e.z:=Nat.mod_lt _ pU;have dp:=b7 (k % e.z) (by rw [h.z]; exact OP);rw [Deep.add_add,h.z] at dp;have fz:k / e.z * e.z+k % e.z=k:=by rw [Nat.mul_comm]; exact Nat.div_add_mod k e.z
    rw [fz] at dp;have aN:k % e.z<(f (k / e.z)).2.length:=by rw [JU,h.z]; exact OP
    rw [List.getElem?_eq_getElem aN] at dp;have aJ:a.add k=⟨a.block,a.off+k,none⟩:=by
     unfold Addr.add;split
     ·rename_i VJ; subst VJ; cases a; simp at ja ⊢; exact ja.1
     ·rfl
    rw [aJ] at dp;exact ⟨_,dp,af.2 _ _ _ fm (List.getElem?_eq_getElem aN)⟩
   refine ⟨(List.range len).map λi=>(f i).1,⟨by rw [hlen]; omega,λy ao=>?_⟩,ns.one rfl ?_⟩
   ·obtain ⟨i,hi,rfl⟩:=List.mem_map.1 ao;exact (aV i (List.mem_range.1 hi)).1
   ·show tT w (.bc e.z _ _) _;rw [hlen];refine .bc (us:=λk=>(w.cell? ⟨a.block,a.off+k,none⟩).getD .nilFunc) (λ_ h=>h) ah ja.2 ja.1 (by rw [oQ,hlen]) (λk y hk=>?_) (λk y hk=>?_) (λk y hk=>?_)
    ·obtain ⟨u,h1,af,aF⟩:=key k y hk;simp only [h1,Option.getD_some]; exact af
    ·obtain ⟨u,h1,af,aF⟩:=key k y hk;simp only [h1,Option.getD_some]
    ·obtain ⟨u,h1,af,aF⟩:=key k y hk;simp only [h1,Option.getD_some]; exact aF
def BZ (P:Program):Nat->List Field->List TypeId->Bool
 | _,[],[]=>true
 | off,f::fs,t::ts=>decide (f.type=t)&&decide (f.offset=off)&&BZ P (off+P.cellsOf t) fs ts
 | _,_,_=>false
def Em (P:Program) (t:TypeId) (ts:List TypeId):Bool :=
 match P.underlying t with
 | some (.struct fs)=>BZ P 0 fs.toList ts&&decide (P.cellsOf t=(ts.map P.cellsOf).sum)
 | _=>false
structure yS (P:Program) (cells:β->List ab) (ts:List TypeId) (ok:β->Prop):Prop where
 go:∀ {H:Type}{enc:TypeId × Value->H}{w:World}{n:Nat}{cs:List Value}{fs:List Field}{off:Nat},BZ P off fs ts=true->cs.length=off+(ts.map P.cellsOf).sum ->
  (∀ (i:Nat) (f:Field),fs[i]?=some f->∃ x,DataW.trod enc P w 0 (λ_=>true) true n f.type ((cs.drop f.offset).take (P.cellsOf f.type))=some x) ->
  ∃ b,ok b/\ns w (cells b) (cs.drop off)
theorem yS.nil:yS P (λ_:Unit=>[]) [] (λ_=>True) :=
 ⟨λ{H enc w n cs fs off} _ ah _=>⟨(),trivial,by rw [List.drop_eq_nil_of_le (by simp at ah; omega)]; exact ns.nil⟩⟩
theorem yS.cons {e:bO α}{t:TypeId}{ts:List TypeId}{ok:α->Prop}{cells:β->List ab}{Qg:β->Prop}(h:kZ P e t ok) (ah:yS P cells ts Qg) :
  yS P (λp:α × β=>e.cells p.1++cells p.2) (t::ts) (λp=>ok p.1/\Qg p.2):=by
 refine ⟨λ{H enc w n cs fs off} eY hlen hr=>?_⟩;cases fs with
 | nil=>simp [BZ] at eY
 | cons f fs =>
  simp only [BZ,Bool.and_eq_true,decide_eq_true_eq] at eY;obtain ⟨⟨rfl,rfl⟩,eY⟩:=eY;obtain ⟨x,J⟩:=hr 0 f rfl;obtain ⟨a,aJ,a1⟩:=h.go J;obtain ⟨b,ar,Ws⟩:=ah.go (off:=f.offset+P.cellsOf f.type) (cs:=cs) eY (by rw [hlen]; simp [Nat.add_assoc]) (λi dJ vE=>hr (i+1) dJ (by simpa using vE));refine ⟨(a,b),⟨aJ,ar⟩,?_⟩;have:cs.drop f.offset=(cs.drop f.offset).take (P.cellsOf f.type)++cs.drop (f.offset+P.cellsOf f.type):=by
   rw [<- List.drop_drop]; exact (List.take_append_drop _ _).symm
  rw [this];exact a1.app Ws
theorem kZ.struct {e:bO Mf}{t:TypeId}{ts:List TypeId}{cells:β->List ab}{ok:β->Prop}(h:yS P cells ts ok) (mk:β->Mf) (un:Mf->β) (O7:∀ b,un (mk b)=b) (aa:∀ b,e.cells (mk b)=cells b) (au:Em P t ts=true) (aX:P.cellsOf t=e.z) :
  kZ P e t (λs=>ok (un s)):=by
 refine ⟨aX,λ{H enc w n cs x} hr=>?_⟩;unfold Em at au
 split at au
 ·rename_i fs hu;simp only [Bool.and_eq_true,decide_eq_true_eq] at au;obtain ⟨xs,cq,rfl,rfl,ah,C2,J⟩:=DataW.trod_struct hu hr;obtain ⟨b,ar,a1⟩:=h.go (w:=w) (off:=0) (cs:=cs) (fs:=fs.toList) (n:=cq) (enc:=enc) au.1 (by rw [ah,au.2]; simp) (λi f aV=>by
   have vE:fs[i]?=some f:=by simpa using aV
   have hi:i<xs.length:=by rw [C2]; exact (Array.getElem?_eq_some_iff.1 vE).1
   exact ⟨xs[i],by rw [J i f vE,List.getElem?_eq_getElem hi]⟩)
  exact ⟨mk b,by rw [O7]; exact ar,by rw [aa]; simpa using a1⟩
 ·cases au
inductive yT (w:World):ab->Value->Prop
 | mk {y:ab}{v:Value}(h:tT w y v):yT w y v
theorem kZ.one {e:bO α}{t:TypeId}{ok:α->Prop}{g:α->ab}(h:kZ P e t ok) (he:∀ a,e.cells a=[g a]) {H:Type}{enc:TypeId × Value->H}{w:World}{v:Value}{d:DataW H}{p:List MemPlace}(hv:v.cells.toList=[v])
  (au:DataW.Trod enc P w 0 (λ_=>true) true t v d p):∃ a,ok a/\yT w (g a) v:=by
 obtain ⟨n,aB⟩:=au;obtain ⟨a,aJ,a1⟩:=h.go aB;refine ⟨a,aJ,.mk ?_⟩;rw [hv,he] at a1;exact (a1.2 0 _ _ rfl rfl).2
theorem kZ.Zq {e:bO α}{t A7:TypeId}{ok:List α->Prop}(h:kZ P (bE e) t ok) (hu:P.underlying t=some (.slice A7)) {H:Type}{enc:TypeId × Value->H}{w:World}{v:Value}{d:DataW H}{p:List MemPlace}{base:Nat}(hv:Value.okWide P w .any base t v)
  (au:DataW.Trod enc P w 0 (λ_=>true) true t v d p):∃ a,ok a/\yT w (ak e a) v:=by
 obtain ⟨a,l,c,rfl⟩:=okWide_slice hu hv;exact h.one (λ_=>rfl) rfl au
theorem kZ.Lc {e:bO Int}{t:TypeId}{k:IntKind}{ok:Int->Prop}{g:Int->ab}(h:kZ P e t ok) (he:∀ a,e.cells a=[g a]) (hu:P.underlying t=some (.int k)) {H:Type}{enc:TypeId × Value->H}{w:World}{v:Value}{d:DataW H}{p:List MemPlace}{base:Nat}(hv:Value.okWide P w .any base t v)
  (au:DataW.Trod enc P w 0 (λ_=>true) true t v d p):∃ a,ok a/\yT w (g a) v:=by
 obtain ⟨n,rfl⟩:=okWide_int hu hv;exact h.one he rfl au
theorem kZ.Zp {e:bO α}{t:TypeId}{ok:α->Prop}{ts:List TypeId}(h:kZ P e t ok) (eY:Em P t ts=true) {H:Type}{enc:TypeId × Value->H}{w:World}{v:Value}{d:DataW H}{p:List MemPlace}{base:Nat}(hv:Value.okWide P w .any base t v)
  (au:DataW.Trod enc P w 0 (λ_=>true) true t v d p):∃ a,ok a/\yT w (.agg (e.cells a)) v:=by
 have hu:∃ fs,P.underlying t=some (.struct fs):=by
  unfold Em at eY
  split at eY
  ·exact ⟨_,by assumption⟩
  ·cases eY
 obtain ⟨fs,hu⟩:=hu;obtain ⟨cs,rfl,eV⟩:=okWide_struct hu hv;obtain ⟨n,aB⟩:=au;obtain ⟨a,aJ,a1⟩:=h.go aB;refine ⟨a,aJ,.mk ?_⟩;have iJ:ns w (e.cells a) cs.toList:=a1;refine .agg (Fs:=λ_ _=>False) (by simpa using iJ.1) (λk u hu=>?_) (λk x u J hu=>(iJ.2 k x u J (by simpa using hu)).2) (λ_ _ _ _ _ h=>h.elim) (λc=>⟨λh=>h.elim,λ⟨_,_,h⟩=>h⟩);have hk:k<(e.cells a).length:=by rw [iJ.1]; simpa using (Array.getElem?_eq_some_iff.1 hu).1
 exact (iJ.2 k _ u (List.getElem?_eq_getElem hk) (by simpa using hu)).1
inductive u' (w:World):List ab->List Value->Prop
 | nil:u' w [] []
 | cons {y:ab}{v:Value}{ys:List ab}{vs:List Value}(h:yT w y v) (ax:u' w ys vs):u' w (y::ys) (v::vs)
theorem u'.get {w:World}{ys:List ab}{vs:List Value}(h:u' w ys vs):ys.length=vs.length/\∀ (k:Nat) (y:ab),ys[k]?=some y->∃ v,vs[k]?=some v/\tT w y v:=by
 induction h with
 | nil=>exact ⟨rfl,λk y h=>by simp at h⟩
 | cons h _ aM =>
  refine ⟨by simp [aM.1],λk y ao=>?_⟩;cases k with
  | zero =>
   simp at ao; subst ao;obtain ⟨h⟩:=h;exact ⟨_,rfl,h⟩
  | succ k=>simpa using aM.2 k y (by simpa using ao)
theorem u'.aa2 {w:World}{ys:List ab}{vs:List Value}(h:u' w ys vs) (aq:ys.all (λy=>match y with | .bM ..=>false | _=>true)=true) (jx:cG.q w λb=>b<w.heap.size) :
  cB w (λb=>b<w.heap.size) vs.toArray (s6 ys) (λ_=>ck):=by
 refine ⟨λt x J=>?_,λ_ _ _ h=>h,λ_ _ _ h=>h.elim,λ_ _ h=>h.elim,λ_ h=>h,λt t' z p n m new bR cq m' cN h1 _=>?_,jx⟩
 ·obtain ⟨v,hv,a1⟩:=h.get.2 t x J;exact ⟨v,by simpa using hv,.tree (a1.frame (λ_ _=>rfl) (λ_ h=>h) (λ_ _ h=>h.elim) (λ_ _=>rfl))⟩
 ·have:=List.all_eq_true.1 aq _ (List.mem_of_getElem? h1);cases this
structure Mo (w w':World):Prop where
 kept:∀ may:MemPlace->Prop,w.keptBut w' may
 dP:∀ a,a.block<w.heap.size->w'.frozen? a=w.frozen? a
theorem bP.abG {f:FuncId}{ys:List ab}{vs:List Value}{outs:List (Option ab)}{r:Value}(aa:bP P f ys outs (.lit r)) (w:World) (h:u' w ys vs) (aq:ys.all (λy=>match y with | .bM ..=>false | _=>true)=true) (jx:cG.q w λb=>b<w.heap.size) :
  Calls P f vs.toArray w λe w'=>e=.returned r/\Mo w w'/\∀ i:Nat,i<w.heap.size->w'.heap[i]?=w.heap[i]?:=by
 have:=aa.2 w _ vs _ h.get.1.symm (h.aa2 aq jx);refine this.mono ?_;rintro e w' ⟨v,I',bW,rfl,bg,bU⟩;obtain ⟨u,hu,a1⟩:=bg.rel outs.length (.lit r) (by simp [kO]);have ah:outs.length=vs.length:=by rw [aa.1]; exact h.get.1
 have FP:u=v:=by
  rw [ah] at hu;simpa using hu.symm
 subst FP;have hv:=(a1.gu (by simp)).hE.1;subst hv;have ar:∀ i:Nat,i<w.heap.size->w'.heap[i]?=w.heap[i]?:=λi hi=>bU.dN.block i hi λ⟨_,h⟩=>h;have hk:World.keptBut w w' (λ_=>False):=⟨bU.dN.os,bU.dN.output,λi hi=>by
  rw [ar i hi];exact (World.keptBut_refl w (λ_=>False)).2.2 i hi⟩
 exact ⟨rfl,⟨λmay=>World.keptBut_mono (λ_ f=>f.elim) hk,λa aJ=>bU.dN.dP a aJ λ⟨_,h⟩=>h⟩,ar⟩
theorem RA {H:Type}{enc:TypeId × Value->H}{w w':World}{base:Nat}{sp:Nat->Bool}{held:Bool}(ar:∀ i:Nat,i<w.heap.size->w'.heap[i]?=w.heap[i]?) :
  ∀ {ts:List TypeId}{vs:List Value}{jL:List (DataW H)}{ps:List MemPlace},DataW.TrodAll enc P w base sp held ts vs jL ps->DataW.TrodAll enc P w' base sp held ts vs jL ps
 | [],[],[],_,h=>h
 | _::_,_::_,_::_,_,⟨p,q,⟨n,aB⟩,af,e⟩=>by
  refine ⟨p,q,⟨n,DataW.trod_carry n _ _ _ aB λx J=>?_⟩,RA ar af,e⟩;have aN:=DataW.trod_lt n _ _ _ aB x J;cases x with
  | cell b off =>
   show w'.cell? _=w.cell? _;exact World.cell?_of_block (ar b aN)
  | map b=>exact ar b aN
theorem Ta {H:Type}{enc:TypeId × Value->H}{w w':World}(ah:laidOutB P=true) (hm:mapsRowed P=true)
  (aX:((List.range P.types.size).all λt=>match P.underlying t with | some (.slice e)=>decide (0<P.cellsOf e) | _=>true)=true)
  (ar:∀ i:Nat,i<w.heap.size->w'.heap[i]?=w.heap[i]?) {ts:List TypeId}{vs:List Value}{jL:List (DataW H)}{ps:List MemPlace}(au:ts.all (λt=>decide (t<P.types.size))=true)
  (h:DataW.TrodAll enc P w 0 (λ_=>true) true ts vs jL ps) {sp:Nat->Bool}(ja:∀ p∈ps,sp p.block=true):DataW.TrodAll enc P w' 0 sp true ts vs jL ps :=
 (RA ar h).respare (kids_rows ah hm) (slices_full_of P aX) (λt h=>of_decide_eq_true (List.all_eq_true.1 au t h)) ja
end Go.Own
namespace Go.Own
open Go
variable [cG]
section
variable {α β:Type}{P:Program}{N:cP}{g g1:aL}{p:Place}{m:Int}{a b:Operand}{t:TypeId}
theorem ab.MW:∀ (l:List Nat) {x nd:ab}{k:Nat}{c:ab},x.at l=some nd->nd.kids[k]?=some c->x.at (l++[k])=some c
 | [],x,nd,k,c,h,hk=>by
  simp only [ab.at,Option.some.injEq] at h;subst h;simp [ab.at,hk]
 | j::l,x,nd,k,c,h,hk=>by
  simp only [ab.at] at h;cases ag:x.kids[j]? with
  | none=>rw [ag] at h; cases h
  | some y =>
   rw [ag] at h;simp only [List.cons_append,ab.at,ag];exact ab.MW l h hk
theorem ab.Q5:∀ (l:List Nat) {x nd:ab}{k:Nat}{c:ab}(y:ab),x.at l=some nd->nd.kids[k]?=some c->x.setAt (l++[k]) y=x.setAt l (nd.sQ k y)
 | [],x,nd,k,c,y,h,hk=>by
  simp only [ab.at,Option.some.injEq] at h;subst h;simp [ab.setAt,hk]
 | j::l,x,nd,k,c,y,h,hk=>by
  simp only [ab.at] at h;cases ag:x.kids[j]? with
  | none=>rw [ag] at h; cases h
  | some z =>
   rw [ag] at h;simp only [List.cons_append,ab.setAt,ag];rw [ab.Q5 l y h hk]
theorem Ny {en:bO α}{L:List α}{iT:α}{o:Nat}{c:ab}(h:idx L m=some iT) (aa:(en.cells iT)[o]?=some c):(aC en L).kids[m.toNat * en.z+o]?=some c:=Lx en h aa
theorem vh {en:bO α}{L:List α}{iT:α}{r o:Nat}{path:List Nat}{c:ab}(aq:bH g ⟨r,path⟩=some (aC en L)) (h:idx L m=some iT) (aa:(en.cells iT)[o]?=some c):bH g ⟨r,path++[m.toNat * en.z+o]⟩=some c:=by
 unfold bH at aq ⊢;simp only at aq ⊢;cases J:g r with
 | none=>rw [J] at aq; cases aq
 | some x =>
  rw [J] at aq;exact ab.MW path aq (Ny h aa)
theorem aaJ {en:bO α}{L:List α}{iT:α}{r o:Nat}{path:List Nat}{c:ab}(y:ab) (aq:bH g ⟨r,path⟩=some (aC en L)) (h:idx L m=some iT) (aa:(en.cells iT)[o]?=some c) :
  ct g ⟨r,path++[m.toNat * en.z+o]⟩ y=ct g ⟨r,path⟩ (.own en.z L.length ((bC en L).set (m.toNat * en.z+o) y)):=by
 funext s;unfold ct;simp only;split
 ·rename_i e;subst e;unfold bH at aq;simp only at aq;cases J:g s with
  | none=>rfl
  | some x =>
   rw [J] at aq;simp only [Option.map_some,Option.some.injEq];rw [ab.Q5 path y aq (Ny h aa)];rfl
 ·rfl
theorem aa0 (l:List ab) (k:Nat) (x c:ab):e0 (l.set k x) k [c]=e0 l k [c]:=by
 unfold e0;simp only [List.length_singleton];rw [List.take_set,List.drop_set];rw [List.set_eq_of_length_le (by simp; omega)];simp
theorem bl.Ek {fU:Oper}{en:bO α}{en2:bO β}{L:List α}{iT y2:α}{q7 M R:List β}{o s K4:Nat}{new cN:List ab}{x2 y0:ab}{G2:List (Nat × ab)}
  (aW:fU.op=.store t a b) (aR:fU.dst=none) (aJ:Rd g a (.ptr p (m.toNat * en.z+o))) (ar:Rd g b (.a7 en2.z ⟨s,[]⟩ (q7.length+K4)))
  (qA:g s=some (.bM en2.z ⟨p.root,p.path++[m.toNat * en.z+o]⟩ q7.length K4 new)) (aq:bH g p=some (aC en L)) (h:idx L m=some iT) (mQ:(en.cells iT)[o]?=some (aC en2 q7)) (a_:Nat.beq p.root s=false)
  (h1:eQ (ct (ct g ⟨s,[]⟩ .dead) p (.own en.z L.length ((bC en L).set (m.toNat * en.z+o) .dead))) new cN g1)
  (o8:fI cN (bC en2 M)) (hm:M.length=K4) (a1:q7++M=R) (aX:hy P t 1=true)
  (vL:bH g1 p=some (.own en.z L.length ((bC en L).set (m.toNat * en.z+o) .dead)))
  (he:e0 (en.cells iT) o [aC en2 R]=en.cells y2) (hlen:Nat.ble (o+1) en.z=true)
  (gL:ct g1 p (aC en (L.set m.toNat y2)) p.root=some x2) (hr:(get G2 p.root).isSome=true) (rC:g1 p.root=some y0) [eL:b9 y0] (df:k5 g1 (get G2) p.root x2 G2):bl P N g fU (get G2):=by
 subst hm a1;have Cw:=Nat.le_of_ble_eq_true hlen;have ja:=Lw en (cs':=[aC en2 (q7++M)]) h he (by simpa using Cw);have OK:(L.set m.toNat y2).length=L.length:=List.length_set;have FM:=Nat.ne_of_beq_eq_false a_;have Cj:bH g ⟨p.root,p.path++[m.toNat * en.z+o]⟩=some (aC en2 q7):=vh (g:=g) (r:=p.root) (path:=p.path) aq h mQ;have XQ:bH (ct g ⟨s,[]⟩ .dead) p=some (aC en L):=by
  unfold bH at aq ⊢;rw [wz (p:=⟨s,[]⟩) (λe=>FM e)]; exact aq
 have au:eQ g [.a7 en2.z ⟨s,[]⟩ (q7.length+M.length)] [.own en2.z (q7.length+M.length) (bC en2 q7++cN)] g1:=by
  refine .jA qA Cj a_ ?_ .nil;rw [aaJ .dead (r:=p.root) (path:=p.path) XQ h mQ];exact h1
 have hk:m.toNat * en.z+o+1<=L.length * en.z:=by
  obtain ⟨D6,mu,_⟩:=mq h;have af:m.toNat+1<=L.length:=by omega
  calc m.toNat * en.z+o+1<=m.toNat * en.z+en.z:=by omega
   _=(m.toNat+1) * en.z:=by rw [Nat.add_mul]; omega
   _<=L.length * en.z:=Nat.mul_le_mul_right _ af
 refine .store aW aR aJ.bw ar.bw au.take (y':=aC en2 (q7++M)) ?_ rfl aX (p:=p) (nd:=.own en.z L.length ((bC en L).set (m.toNat * en.z+o) .dead)) (z:=en.z) (n:=L.length) (cs:=(bC en L).set (m.toNat * en.z+o) .dead) vL (.inl rfl) ?_ (by simp) (λt x J=>?_) (λt x J y ao=>?_) (λt z q n m new J=>?_) (by intro e; rw [e] at hr; cases hr)
 ·rw [<- p2]; exact (o8.pre _).own
 ·simp only [List.length_singleton,List.length_set,oQ]; exact hk
 ·have eA:(ab.own en.z L.length ((bC en L).set (m.toNat * en.z+o) .dead)).e0 (m.toNat * en.z+o) [aC en2 (q7++M)]=aC en (L.set m.toNat y2):=by
   show ab.own en.z L.length (e0 ((bC en L).set (m.toNat * en.z+o) .dead) (m.toNat * en.z+o) [aC en2 (q7++M)])=_;unfold aC at ja ⊢;rw [aa0,ja,OK]
  rw [eA];rcases df.spec t x J with ⟨h1,af,_⟩ | ⟨h1,af,_⟩
  ·rw [wz h1]; exact af
  ·subst h1 af; exact gL
 ·rcases df.spec t x J with ⟨h1,af,aF⟩ | ⟨h1,af,aF⟩
  ·rw [af] at ao; cases ao;rcases aF with aF | ⟨aF,c2,rfl⟩
   ·exact aF.QK
   ·refine jG.ref (by cases aF; rfl) ⟨aF.Qe,aF.clear ?_,aF.Gq⟩;intro e;obtain ⟨gC,pp⟩:=p;simp only at e;subst e;simp only [ct,if_true,rC,Option.map_some,ab.setAt,Option.some.injEq] at gL;cases gL
  ·subst h1; rw [rC] at ao; cases ao; exact .bq eL.bq
 ·rcases df.spec t _ J with ⟨_,_,aF | ⟨aF,_⟩⟩ | ⟨_,_,aF⟩
  ·exact aF.fE _ _ _ _ _ rfl
  ·exact aF.fE _ _ _ _ _ rfl
  ·cases aF
end
end Go.Own
/- Short forms for printed walks. -/
namespace Go.Own
open Go
variable [cG]
section
variable {P:Program}{N:cP}{ops:Array Oper}{bj:List (List Nat)}{g g0:aL}{K:aL->Prop}{l:List Oper}{acc:Acc}{d i:Nat}{op:Op}{ty:TypeId}{pos:String}{after:Array Edge}{x:ab}
theorem aj (aq:bT P g op ty x) (hk:aE P N ops l (cT g d x) K) (bt:N.ok d=true:=by rfl) (aV:g d=none:=by rfl):aE P N ops (⟨some d,op,ty,pos,after,none⟩::l) g K:=.v aq bt aV .none hk
theorem eO (aq:b_ P g op x) (hk:aE P N ops l (cT g d x) K) (bt:N.ok d=true:=by rfl) (aV:g d=none:=by rfl):aE P N ops (⟨some d,op,ty,pos,after,none⟩::l) g K:=.c aq bt aV .none hk
theorem av (bX:Nat) (aq:bT P (kS bj g0 bX acc) op ty x) (hk:bB P N ops bj g0 i ((bX,d,some x)::acc) l K) (ag:Nat.beq ops.size (bX+l.length+1)=true:=by rfl) (aV:g0 d=none:=by rfl) (aB:acc.all (λe=>!Nat.beq e.2.1 d)=true:=by rfl) (bt:N.ok d=true:=by rfl) :
  bB P N ops bj g0 i acc (⟨some d,op,ty,pos,after,none⟩::l) K:=.v bX aq ag aV aB bt .none hk
theorem jj (bX:Nat) (aq:b_ P (kS bj g0 bX acc) op x) (hk:bB P N ops bj g0 i ((bX,d,some x)::acc) l K) (ag:Nat.beq ops.size (bX+l.length+1)=true:=by rfl) (aV:g0 d=none:=by rfl) (aB:acc.all (λe=>!Nat.beq e.2.1 d)=true:=by rfl) (bt:N.ok d=true:=by rfl) :
  bB P N ops bj g0 i acc (⟨some d,op,ty,pos,after,none⟩::l) K:=.c bX aq ag aV aB bt .none hk
end
instance {z n:Nat}{cs:List ab}:qb (.own z n cs):=⟨by simp⟩
def aD (a n:Nat) (l:List Nat):List Nat:=List.range' a n++l
section
variable {α:Type}{P:Program}{N:cP}{g:aL}{d r:Nat}{ty:TypeId}
instance {fn:Fn}{cs:List ab} [h:dm cs]:b9 (.cF fn [] cs):=⟨.cF (by simp) h.bq⟩
theorem O.K2 {fn:Fn}{caps:List Operand}{b:List ab}(ar:Own.hh g caps=some b):bT P g (.makeFunc fn #[] caps.toArray) ty (.cF fn [] b):=.As (.makeFunc rfl (by simpa using ar))
theorem View.cl {fn:Fn}{cs cs':List ab}(h:o0 g cs cs'):View g (.cF fn [] cs) (.cF fn [] cs'):=.cF h.len h.get
theorem b_.gc {c:Operand}{xs:List Operand}{fP:Array TypeId}{f:FuncId}{ys caps:List ab}{outs:List (Option ab)}{res:ab}(aa:Rd g c (.cF (.func f) [] caps)) (J:q9 g xs ys) (hf:bP P f (ys++caps) outs res) (aV:hA P f=true) (aW:uM outs=true) [pQ:dm caps] [hr:b9 res] :
  b_ P g (.call { callee:=.value c,args:=xs.toArray,argTypes:=fP }) res:=by
 have e:=P5 aW hf.1;refine .plain (first:=[]) (caps:=caps) (ys:=ys) aa.bw (by simpa using J.spec.1) aV (λy ao=>?_) ?_ hr.bq
 ·rw [List.nil_append] at ao;rcases List.mem_append.1 ao with h | h
  ·exact J.spec.2 y h
  ·exact pQ.bq y h
 ·rw [List.nil_append,<- e]; exact hf
theorem k1.jy {o:Oper}{xs:List Operand}{fP:Array TypeId}{f:FuncId}{ys args:List ab}{res:ab}{en:bO α}{L L':List α}{G2:List (Nat × ab)}(aW:o.op=.call { callee:=.value (.func f),args:=xs.toArray,argTypes:=fP }) (aR:o.dst=some d) (J:Own.hh g xs=some (.a7 en.z ⟨r,[]⟩ L.length::ys))
  (ax:g r=some (aC en L)) (hv:o0 (get ((r,.dead)::G2)) ys args) (hf:bP P f (aC en L::args) (some (aC en L')::args.map λ_=>none) res) (aV:hA P f=true) [hr:qc res] [l0:qc (aC en L')]
  (df:Trim false (ct g ⟨r,[]⟩ .dead) (get ((r,.dead)::G2)) G2) (aQ:get G2 d=none) (uz:Nat.beq r d=false) (B7:Trim false (get ((r,aC en L')::G2)) (get ((r,aC en L')::G2)) G2) (bt:N.ok d=true) :
  k1 P N g o d (get ((d,res)::(r,aC en L')::G2)):=by
 have CK:r≠d:=Nat.ne_of_beq_eq_false uz;have Iy:get ((r,ab.dead)::G2) r=some .dead:=by simp [get]
 have oF:∀ x∈bC en L,cE x:=by
  intro x J;obtain ⟨a,_,aJ⟩:=List.mem_flatMap.1 J;exact en.bq a x aJ
 have fO:(bC en L).take (L.length * en.z)=bC en L:=List.take_of_length_le (by rw [oQ]; exact Nat.le_refl _);have C':iE (ct g ⟨r,[]⟩ .dead) (get ((r,.dead)::G2)):=by
  refine ⟨λt x h=>?_,λt x h=>?_,λt z q n m new h=>?_⟩
  all_goals
   simp only [get] at h
   split at h
  ·rename_i e; subst e; cases h; simp [ct,ax,ab.setAt]
  ·obtain ⟨⟨y,h1,_,aF⟩,_⟩:=df.spec t x h; rw [<- aF rfl]; exact h1
  ·cases h; exact .bq .dead
  ·exact (df.spec t x h).2.1
  ·cases h
  ·exact (df.spec t _ h).2.2 _ _ _ _ _ rfl
 have put:qO (get ((r,.dead)::G2)) [(⟨r,[]⟩,aC en L')]=get ((r,aC en L')::G2):=by
  funext t;simp only [qO,ct,get];by_cases h:t=r
  ·simp [h,ab.setAt]
  ·simp [h]
 have Da:iE (get ((r,aC en L')::G2)) (get ((r,aC en L')::G2)):=by
  refine ⟨λt x h=>h,λt x h=>?_,λt z q n m new h=>?_⟩
  all_goals
   simp only [get] at h
   split at h
  ·cases h; exact .bq l0.l5.bq
  ·exact (B7.spec t x h).2.1
  ·cases h
  ·exact (B7.spec t _ h).2.2 _ _ _ _ _ rfl
 have ah:=hv.len;have s_:get ((d,res)::(r,aC en L')::G2)=cT (get ((r,aC en L')::G2)) d res:=by
  funext t;rw [tb]
 rw [s_];refine Bg.ok (first:=[]) (caps:=[]) (ys:=.a7 en.z ⟨r,[]⟩ L.length::ys) (tk:=λk=>k == 0) (vw:=true) (outs:=some (aC en L')::args.map λ_=>none) (g1:=ct g ⟨r,[]⟩ .dead) (g2:=get ((r,.dead)::G2)) (g4:=get ((r,aC en L')::G2)) (l:=[(⟨r,[]⟩,aC en L')]) (ks:=λ_=>0) (xs0:=.a7 en.z ⟨r,[]⟩ L.length::ys.map λ_=>.dead) (xs1:=aC en L::ys.map λ_=>.dead) (args:=aC en L::args) (res:=res) aW aR rfl (by simpa using J)
  ⟨aV,by simp,by simpa using ah,λk x h=>?_,?_,C',λk x y J ao=>?_,hf,by simpa using hr.l5,λk x h=>?_,λj p x ag=>?_,by simp,λi j hi ag _=>by simp at hi ag; omega,by rw [put]; exact Da⟩ ?_ bt yU.refl
 ·simp only [List.nil_append,List.append_nil] at h;cases k with
  | zero=>exact .inl h
  | succ k =>
   refine .inr ?_;simp only [List.getElem?_cons_succ] at h ⊢;rw [List.getElem?_map,h]; rfl
 ·have h1:Take (ct g ⟨r,[]⟩ .dead) ((bC en L).take (L.length * en.z)) (bC en L) (ct g ⟨r,[]⟩ .dead):=by rw [fO]; exact .bq oF
  refine .a7 (N:=L.length) (by simp [bH,ax,ab.at]) (Nat.le_refl _) h1 (.bq λx J=>?_);obtain ⟨_,_,rfl⟩:=List.mem_map.1 J;exact .dead
 ·simp only [List.nil_append,List.append_nil] at J;cases k with
  | zero=>simpa using ao
  | succ k =>
   simp only [List.getElem?_cons_succ] at J ao;exact ⟨rfl,hv.get k x y J ao⟩
 ·cases k with
  | zero=>simp only [List.getElem?_cons_zero,Option.some.injEq] at h; subst h; exact l0.l5
  | succ k =>
   simp only [List.getElem?_cons_succ,List.getElem?_map] at h;cases aJ:args[k]? <;> rw [aJ] at h <;> cases h
 ·cases j with
  | succ j=>simp at ag
  | zero =>
   simp only [List.getElem?_cons_zero,Option.some.injEq,Prod.mk.injEq] at ag;obtain ⟨rfl,rfl⟩:=ag;exact ⟨rfl,by simp [bH,Iy,ab.at],.inl ⟨en.z,L.length,bC en L,rfl,by simp [bH,ax,ab.at]⟩,λ_ h=>by cases h⟩
 ·simp only [get,if_neg (Ne.symm CK)]; exact aQ
end
end Go.Own
