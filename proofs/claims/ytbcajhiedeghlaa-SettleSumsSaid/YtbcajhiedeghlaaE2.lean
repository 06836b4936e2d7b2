/-
  What is proved here: parts of the proof that the last text states: rules for walks through code, and of this program's functions what they answer. No condition of their own.
-/
import Derived.RowKit3
import Derived.Test.YtbcajhiedeghlaaE1
namespace Go.Own
open Go
structure fu (g1 g2:aW):Prop where
 sub:∀ t x,g2 t=some x->g1 t=some x
 bq:∀ t x,g2 t=some x->e3 g2 x
 fT:∀ t z q n m new,g2 t≠some (.b8 z q n m new)
structure dK where
 size:Nat
 pins:List Nat
def dK.ok (N:dK) (d:Nat):Bool:=Nat.blt d N.size&&!N.pins.elem d
def hW (N:dK) (T T':Array Value):Prop:=T'.size=T.size/\∀ t∈N.pins,T'[t]?=T[t]?
theorem hW.refl {N:dK}{T:Array Value}:hW N T T:=⟨rfl,λ_ _=>rfl⟩
theorem hW.trans {N:dK}{T Jd Je:Array Value}(h:hW N T Jd) (h1:hW N Jd Je):hW N T Je:=⟨h1.1.trans h.1,λt aJ=>(h1.2 t aJ).trans (h.2 t aJ)⟩
theorem dK.lt {N:dK}{d:Nat}(h:N.ok d=true):d<N.size:=by
 simp [dK.ok] at h; exact h.1
theorem hW.put {N:dK}{d:Nat}(h:N.ok d=true) (T:Array Value) (v:Value):hW N T (T.setIfInBounds d v):=by
 refine ⟨by simp,λt aJ=>?_⟩;rw [Array.getElem?_setIfInBounds_ne];rintro rfl;simp [dK.ok,aJ] at h
def ig (N:dK) (a:Act) (w:World) (I:bz) (Fs:Nat->bz) (g':aW) (cF:Act) (w':World):Prop :=
 cF.defers=a.defers/\hW N a.tmps cF.tmps/\∃ I' cz,c7 w' I' cF.tmps g' cz/\kR w I (λc=>∃ t,Fs t c) w' I' (λc=>∃ t,cz t c)
theorem u5 {cz:Nat->bz}{d:Nat}{F:bz}{c:Nat}(h:∃ t,tv cz d F t c):(∃ t,cz t c)\/F c:=by
 obtain ⟨t,h⟩:=h;unfold tv at h
 split at h
 ·exact .inr h
 ·exact .inl ⟨t,h⟩
structure xj (P:Program) (g:aW) (f:FuncId) (all xs0 xs1 args:List ag) (tk:Nat->Bool) (vw:Bool) (g1 g2:aW) (outs:List (Option ag)) (res:ag) (l:List (Place × ag)) (ks:Nat->Nat) (g4:aW):Prop where
 bn:dB P f=true
 AJ:xs0.length=all.length
 wo:args.length=all.length
 bd:∀ (k:Nat) (x:ag),all[k]?=some x->xs0[k]?=some x\/xs0[k]?=some .dead
 aJ:Take g xs0 xs1 g1
 hk:fu g1 g2
 bf:∀ (k:Nat) (x y:ag),all[k]?=some x->args[k]?=some y->if tk k then xs1[k]?=some y else vw=true/\View g2 x y
 jb:cc P f args outs res
 aw:if vw then kx res else dc res
 vS:∀ (k:Nat) (x:ag),outs[k]?=some (some x)->if vw then kx x else dc x
 ao:∀ (ae:Nat) (p:Place) (x:ag),l[ae]?=some (p,x)->Om g g2 all outs (ks ae) p x
 nd:(l.map (·.1)).Nodup
 inj:∀ i ae,i<l.length->ae<l.length->ks i=ks ae->i=ae
 Hu:fu (pM g2 l) g4
section
variable {P:Program}{w:World}{I:bz}{T:Array Value}{g:aW}{Fs:Nat->bz}
theorem jL.keep (h:jL w I T g Fs) {g2:aW}(hk:fu g g2):c7 w I T g2 (λt c=>g2 t≠none/\Fs t c) :=
 h.VO hk.sub hk.bq λ_ _ _ _ _ _ _ _ _ _ _ h1=>absurd h1 (hk.fT _ _ _ _ _ _)
structure u9 (g:aW) (d:Nat) (g4 g5:aW):Prop where
 sub:∀ t x,g4 t=some x->g5 t=some x
 new:∀ t x,g5 t=some x->g4 t=some x\/(g4 t=none/\t≠d/\g t=some x/\∃ r k cs,x=.ptr ⟨r,[]⟩ k/\r≠d/\g4 r=some (.obj cs)/\k<cs.length)
theorem u9.refl {d:Nat}{g4:aW}:u9 g d g4 g4:=⟨λ_ _ h=>h,λ_ _ h=>.inl h⟩
theorem c7.back (h:c7 w I T g Fs) {w':World}{I':bz}{d:Nat}{v:Value}{g4 g5:aW}{I6:Nat->bz}(bW:c7 w' I' (T.setIfInBounds d v) g4 I6) (aK:u9 g d g4 g5):c7 w' I' (T.setIfInBounds d v) g5 I6:=by
 refine ⟨λt x J=>?_,λt aJ c ab=>?_,bW.e_,bW.aF,bW.lt,λt t' z p n m new cK cY bS di h1 al=>?_⟩
 ·rcases aK.new t x J with aR | ⟨h1,al,aQ,r,k,cs,rfl,da,eb,kC⟩
  ·obtain ⟨u,hu,bl⟩:=bW.rel t x aR;exact ⟨u,hu,bW.vG (λ_ _=>rfl) (λ_ _ _=>rfl) (λ_ _=>rfl) (λ_ h=>h) aK.sub bl λ_ _=>rfl⟩
  ·obtain ⟨u,hu,bl⟩:=h.rel t _ aQ;obtain ⟨⟨BD,ad,ay,a2,rfl⟩,_⟩:=(bl.h0 (by simp)).ni;have fG:∀ s,s≠d->(T.setIfInBounds d v)[s]?=T[s]?:=λs aL=>by rw [Array.getElem?_setIfInBounds_ne (Ne.symm aL)]
   refine ⟨_,by rw [fG t al]; exact hu,.tree (.ref rfl ⟨⟨BD,ad,?_,a2,rfl⟩,?_⟩ (bW.kH t h1))⟩
   ·have:eB w T ⟨r,[]⟩=T[r]?:=by
     unfold eB; simp only; cases T[r]? <;> rfl
    rw [this] at ay;unfold eB;simp only [fG r da,ay,walk]
   ·exact ⟨.obj cs,by simp [b',aK.sub r _ eb,ag.at],0,0,cs,.inr rfl,kC⟩
 ·cases aR:g4 t with
  | none=>exact bW.kH t aR c ab
  | some y=>rw [aK.sub t y aR] at aJ; cases aJ
 ·have:∀ {t z p n m new},g5 t=some (.b8 z p n m new)->g4 t=some (.b8 z p n m new):=by
   intro t z p n m new J;rcases aK.new t _ J with aR | ⟨_,_,_,r,k,cs,e,_⟩
   ·exact aR
   ·cases e
  exact bW.qt t t' z p n m new cK cY bS di (this h1) (this al)
def hV (P:Program) (N:dK) (g:aW) (o:Oper) (d:Nat) (g5:aW):Prop :=
 ∀ (w:World) (I:bz) (T:Array Value) (Fs:Nat->bz),c7 w I T g Fs->∀ (a:Act),a.tmps=T->a.tmps.size=N.size->∀ (K:Act->World->Prop) (Q:Exit->Act->World->Prop),
  (∀ (cF:Act) (w':World) (v:Value) (I':bz) (cz:Nat->bz),cF.defers=a.defers->cF.tmps=T.setIfInBounds d v->c7 w' I' (T.setIfInBounds d v) g5 cz->kR w I (λc=>∃ t,Fs t c) w' I' (λc=>∃ t,cz t c)->K cF w')->o.wp P a w K Q
theorem hV.sound {N:dK}{o:Oper}{d:Nat}{g5:aW}(ab:hV P N g o d g5) (js:N.ok d=true) (h:c7 w I T g Fs) {a:Act}(bf:a.tmps=T) (b5:a.tmps.size=N.size) {K:Act->World->Prop}{Q:Exit->Act->World->Prop}
  (eK:∀ cF w',ig N a w I Fs g5 cF w'->K cF w'):o.wp P a w K Q :=
 ab w I T Fs h a bf b5 K Q λcF w' v I' cz h1 al aQ bW=>eK cF w' ⟨h1,by rw [al,<- bf]; exact hW.put js _ _,I',cz,by rw [al]; exact aQ,bW⟩
theorem xj.ok {N:dK}{o:Oper}{c:Operand}{xs:Array Operand}{iC:Array TypeId}{d:Nat}{f:FuncId}{first caps ys xs0 xs1 args:List ag}{tk:Nat->Bool}{vw:Bool}{g1 g2 g4 g5:aW}{outs:List (Option ag)}{res:ag}{l:List (Place × ag)}{ks:Nat->Nat}
  (bh:o.op=.call { callee:=.value c,args:=xs,argTypes:=iC }) (aU:o.dst=some d) (ab:bT g c=some (.et (.func f) first caps)) (J:iH g xs.toList=some ys)
  (he:xj P g f (first++ys++caps) xs0 xs1 args tk vw g1 g2 outs res l ks g4) (ba:g4 d=none) (js:N.ok d=true) (Sg:u9 g d (e5 g4 d res) g5):hV P N g o d g5:=by
 intro w I T Fs h a bf b5 K Q eK;obtain ⟨v1,v2,uh,ao,nW⟩:=EZ h bf ab J;have ij:(execOp a.eval o).run P w=.ok (.enter f (v1++xs.map a.eval++v2)) w:=by
  simp [execOp,bh,resolve,Deferred.ofValue,uh,invoke,E0 he.bn]
 generalize yb:(v1++xs.map a.eval++v2).toList=vs at *;generalize F5:first++ys++caps=all at *
 -- what is taken
 have uc:Hand w I (gl w T) Fs xs0 vs (λ_=>cW):=by
  refine ⟨by rw [he.AJ,ao],λk x u J hu=>?_,λ_ _ _ _ _ h=>h.elim,λ_ _ _ _ h=>h.elim,λ_ _ _ h=>h.elim⟩;have hk:k<all.length:=by rw [<- he.AJ]; exact (List.getElem?_eq_some_iff.1 J).1
  have z7:=List.getElem?_eq_getElem hk;rcases he.bd k _ z7 with bd | bd
  ·rw [bd] at J; cases J;exact (nW k _ u z7 hu).frame (λ_ _=>rfl) (λ_ h=>h) (λ_ _ h=>h.1) λ_ _=>rfl
  ·rw [bd] at J; cases J;exact .dead λ_ h=>h
 obtain ⟨gj,H1,i_,iE,gV⟩:=he.aJ.sound h.mn uc;have Lk:∀ c,lb gj xs1.length H1 c->∃ t,Fs t c:=by
  intro c ab;rcases gV c ab with aR | ⟨_,_,aR⟩
  ·exact aR
  ·exact aR.elim
 have ih:=i_.keep he.hk;generalize Ru:(λt c=>g2 t≠none/\gj t c)=iV at ih;have K6:∀ t c,iV t c->gj t c:=by intro t c ab; rw [<- Ru] at ab; exact ab.2
 have Gw:xs1.length=all.length:=by rw [he.aJ.length,he.AJ]
 -- what the callee sees
 let BU:bz:=λc=>I c\/(vw=true/\∃ t,iV t c)
 let xk:Nat->bz:=λt c=>t<all.length/\tk t=true/\H1 t c;have sO:∀ t c,xk t c->(∀ s,¬ iV s c)/\¬ I c/\∃ t,Fs t c:=by
  rintro t c ⟨h1,al,aQ⟩;exact ⟨λs aL=>iE.off t s c (by omega) aQ (K6 s c aL),iE.aF t c (by omega) aQ,Lk c (.inr ⟨t,by omega,aQ⟩)⟩
 have LZ:∀ (ρ':ag->Value->Prop) (k:Nat) (y:ag) (u:Value),args[k]?=some y->vs[k]?=some u->R w BU ρ' y u (xk k):=by
  intro ρ' k y u az hu;have hk:k<all.length:=by rw [<- he.wo]; exact (List.getElem?_eq_some_iff.1 az).1
  have z7:=List.getElem?_eq_getElem hk;have:=he.bf k _ y z7 az
  split at this
  ·rename_i aJ;have mE:dc y:=he.aJ.AW y (List.mem_of_getElem? this);exact (((iE.rel k y u this hu).bL mE).nm λc ab=>.inl ab).xK λc=>⟨λab=>⟨hk,aJ,ab⟩,λab=>ab.2.2⟩
  ·rename_i aJ;obtain ⟨hv,Tj⟩:=this;have gK:R w I (gl w T) all[k] u cW:=(nW k _ u z7 hu).frame (λ_ _=>rfl) (λ_ h=>h) (λ_ _ h=>h.1) λ_ _=>rfl;have:=View.NI ih.mn Tj gK (λ_ h=>h.elim) ρ';refine (this.nm (I':=BU) λc ab=>?_).xK λc=>⟨λh=>h.elim,λab=>absurd ab.2.1 aJ⟩;rcases ab with aR | aR
   ·exact .inl aR
   ·exact .inr ⟨hv,aR⟩
 have RQ:c7 w BU vs.toArray (o9 args) xk:=by
  refine ⟨λt x J=>?_,λt aJ c ab=>?_,λt t' c ab fy=>iE.e_ t t' c (by have:=ab.1; omega) (by have:=fy.1; omega) ab.2.2 fy.2.2,λt c ab hi=>?_,λc ab=>?_,λt t' z p n m new cK cY bS di h1 al=>?_⟩
  ·have aJ:t<args.length:=(List.getElem?_eq_some_iff.1 J).1;have hu:vs[t]?=some (vs[t]'(by rw [<- ao,<- he.wo]; exact aJ)):=List.getElem?_eq_getElem _;exact ⟨_,by rw [List.getElem?_toArray]; exact hu,.tree (LZ _ t x _ J hu)⟩
  ·have hle:args.length<=t:=by simpa [o9] using aJ
   have:=ab.1; have:=he.wo; omega
  ·obtain ⟨h1,al,_⟩:=sO t c ab;rcases hi with aR | ⟨_,s,aR⟩
   ·exact al aR
   ·exact h1 s aR
  ·rcases ab with aR | ⟨_,s,aR⟩
   ·exact h.lt c aR
   ·exact ih.j2 s c aR
  ·have aJ:t<args.length:=(List.getElem?_eq_some_iff.1 h1).1;have hu:vs[t]?=some (vs[t]'(by rw [<- ao,<- he.wo]; exact aJ)):=List.getElem?_eq_getElem _;exact (LZ (λ_ _=>False) t _ _ h1 hu).k7.elim
 have ug:=he.jb.2 w BU vs xk (by rw [<- ao,he.wo]) RQ;unfold Oper.wp Oper.upon;simp only [ij];rw [<- yb,Array.toArray_toList] at ug;refine Calls.mono ug ?_;rintro e w' ⟨v,I',cz,rfl,eL,cf⟩;rw [yb] at eL;have mC:outs.length=all.length:=by rw [he.jb.1,he.wo]
 have q2:vs.length=all.length:=ao.symm
 -- the blocks behind the call
 have Nt:∀ t c,iV t c->w'.heap[c]?=w.heap[c]?:=λt c ab=>cf.fF.block c (ih.j2 t c ab) λ⟨s,aL⟩=>(sO s c aL).1 t ab;have rp:∀ c,I c->w'.heap[c]?=w.heap[c]?:=λc ab=>cf.fF.block c (h.lt c ab) λ⟨s,aL⟩=>(sO s c aL).2.1 ab
 let If:bz:=λc=>if vw then I c else I' c
 have HP:∀ t c,cz t c->(∃ s,xk s c)\/w.heap.size<=c:=λt c ab=>cf.own c ⟨t,ab⟩;have MD:∀ t c,cz t c->∀ s,¬ iV s c:=by
  intro t c ab s aL;rcases HP t c ab with ⟨eV,aR⟩ | aR
  ·exact (sO eV c aR).1 s aL
  ·have:=ih.j2 s c aL; omega
 have ME:∀ t c,cz t c->¬ If c:=by
  intro t c ab hi;cases vw with
  | true =>
   simp only [If,if_true] at hi;rcases HP t c ab with ⟨eV,aR⟩ | aR
   ·exact (sO eV c aR).2.1 hi
   ·have:=h.lt c hi; omega
  | false =>
   simp only [If,Bool.false_eq_true,if_false] at hi;exact eL.aF t c ab hi
 have La:∀ c,If c->I c\/(∃ s,xk s c)\/w.heap.size<=c:=by
  intro c ab;cases vw with
  | true=>simp only [If,if_true] at ab; exact .inl ab
  | false =>
   simp only [If,Bool.false_eq_true,if_false] at ab;rcases cf.new c ab with aR | aR | aR
   ·rcases aR with aR | ⟨aR,_⟩
    ·exact .inl aR
    ·cases aR
   ·exact .inr (.inl aR)
   ·exact .inr (.inr aR)
 have K':∀ c,I c->If c:=by
  intro c ab;cases vw with
  | true=>simp only [If,if_true]; exact ab
  | false=>simp only [If,Bool.false_eq_true,if_false]; exact cf.more c (.inl ab)
 have RM:c7 w' If T g2 iV:=by
  have:=ih.world (w':=w') Nt rp cf.fF.size;refine ⟨λt x J=>?_,this.kH,this.e_,λt c ab hi=>?_,λc ab=>?_,this.qt⟩
  ·obtain ⟨v,hv,bl⟩:=this.rel t x J;exact ⟨v,hv,bl.frame (λ_ _=>rfl) K' (λ_ _ h=>h) (λ_ _ _ _ _ _ _=>rfl) λ_ _=>rfl⟩
  ·rcases La c hi with aR | ⟨s,aR⟩ | aR
   ·exact ih.aF t c ab aR
   ·exact (sO s c aR).1 t ab
   ·have:=ih.j2 t c ab; omega
  ·cases vw with
   | true=>simp only [If,if_true] at ab; exact Nat.lt_of_lt_of_le (h.lt c ab) cf.fF.size
   | false=>simp only [If,Bool.false_eq_true,if_false] at ab; exact eL.lt c ab
 -- what comes back in the arguments, and the result
 have JG:∀ {x:ag}{u:Value}{F:bz}{ρ ρ':ag->Value->Prop},R w' I' ρ x u F->(if vw then kx x else dc x)->R w' If ρ' x u F:=by
  intro x u F ρ ρ' bl J;cases vw with
  | true=>simp only [if_true] at J; exact bl.k8 J
  | false =>
   simp only [Bool.false_eq_true,if_false] at J;refine (bl.bL J).nm λc ab=>?_;simpa [If] using ab
 have AU:∀ {x:ag},(if vw then kx x else dc x)->∀ z p n m new,x≠.b8 z p n m new:=by
  rintro x J z p n m new rfl;cases vw with
  | true=>simp only [if_true] at J; cases J
  | false=>simp only [Bool.false_eq_true,if_false] at J; cases J
 have Uy:∀ (k:Nat) (x:ag) (u:Value),outs[k]?=some (some x)->vs[k]?=some u->R w' If (gl w' T) x u (cz k):=by
  intro k x u J hu;have hk:k<outs.length:=(List.getElem?_eq_some_iff.1 J).1;obtain ⟨tu,fN,bl⟩:=eL.rel k x (by simp only [oR,if_neg (Nat.ne_of_lt hk),J]; rfl);have:tu=u:=by
   rw [List.getElem?_toArray,List.getElem?_append_left (by rw [q2,<- mC]; exact hk),hu] at fN;exact (Option.some.inj fN).symm
  subst this;exact JG (bl.h0 (AU (he.vS k x J))) (he.vS k x J)
 obtain ⟨IC,Dg,oE⟩:=eL.rel outs.length res (by simp [oR]);have Td:IC=v:=by
  have e:outs.length=vs.length:=by omega
  rw [e] at Dg;simpa using Dg.symm
 subst Td
 -- back into the places
 obtain ⟨xl,FY,CR⟩:=jL.pM (w:=w') (I:=If) (T:=T) l (λae=>cz (ks ae)) (λae=>vs.getD (ks ae) undef) RM.mn he.nd (λae p x aa=>by
   have L:=he.ao ae p x aa;have hk:ks ae<outs.length:=(List.getElem?_eq_some_iff.1 L.out).1;have hu:vs[ks ae]?=some (vs[ks ae]'(by rw [q2,<- mC]; exact hk)):=List.getElem?_eq_getElem _;have um:vs.getD (ks ae) undef=vs[ks ae]'(by rw [q2,<- mC]; exact hk):=by simp [List.getD,hu]
   refine ⟨L.JB,?_,?_⟩
   ·rw [um,ih.w8 (w':=w') (λ_ _=>rfl) Nt L.JB];rcases L.arg with ⟨z,n,cs,h1,al⟩ | ⟨cs,h1,al⟩
    ·exact OQ h (nW _ _ _ h1 hu) al
    ·exact OP h (nW _ _ _ h1 hu) al
   ·rw [um]; exact Uy _ x _ L.out hu)
  (λae t c aa ab=>MD _ c ab t) (λae c aa ab=>ME _ c ab) (λi ae c hi aa h1 al=>he.inj i ae hi aa (eL.e_ _ _ c h1 al))
 have RN:=FY.keep he.Hu;have Uw:∀ t c,cz outs.length c->¬ (g4 t≠none/\xl t c):=by
  rintro t c ab ⟨_,bW⟩;rcases CR t c bW with aR | ⟨ae,aa,aR⟩
  ·exact MD _ c ab t aR
  ·have hk:ks ae<outs.length:=by
    have ur:=List.getElem?_eq_getElem aa;exact (List.getElem?_eq_some_iff.1 (he.ao ae _ _ ur).out).1
   have:=eL.e_ _ _ c ab aR;omega
 have nf:=RN.td (d:=d) (x:=res) (v:=IC) (F:=cz outs.length) ba (by rw [<- bf,b5]; exact dK.lt js) (.tree (JG (oE.h0 (AU he.aw)) he.aw)) Uw (λc ab=>ME _ c ab) (λz p n m new e=>absurd e (AU he.aw z p n m new));refine eK _ _ IC If _ (by rw [aU]; rfl) (by rw [aU]; simp [Act.put,bf]) (h.back nf Sg) ⟨?_,K',λc ab=>?_,λc ab=>?_⟩
 ·exact cf.fF.mono λb _ ⟨s,aL⟩=>(sO s b aL).2.2
 ·rcases La c ab with aR | ⟨s,aR⟩ | aR
  ·exact .inl aR
  ·exact .inr (.inl (sO s c aR).2.2)
  ·exact .inr (.inr aR)
 ·have fin:∀ t,cz t c->(∃ s,Fs s c)\/w.heap.size<=c:=by
   intro t aJ;rcases HP t c aJ with ⟨s,aR⟩ | aR
   ·exact .inl (sO s c aR).2.2
   ·exact .inr aR
  rcases u5 ab with ⟨t,_,aR⟩ | aR
  ·rcases CR t c aR with gJ | ⟨ae,_,gJ⟩
   ·exact .inl (Lk c (.inl ⟨t,K6 t c gJ⟩))
   ·exact fin _ gJ
  ·exact fin _ aR
structure Og (g:aW) (d r k0:Nat) (g4 g5:aW):Prop where
 sub:∀ t x,g4 t=some x->g5 t=some x
 new:∀ t x,g5 t=some x->g4 t=some x\/(g4 t=none/\t≠d/\g t=some x/\∃ m z n cs,x=.ptr ⟨r,[k0]⟩ m/\b' g4 ⟨r,[k0]⟩=some (.own z n cs)/\m<cs.length)
theorem fu.b' {g1 g2:aW}(h:fu g1 g2) {p:Place}{y:ag}(aG:b' g2 p=some y):b' g1 p=some y:=by
 unfold Own.b' at *;cases J:g2 p.root with
 | none=>rw [J] at aG; cases aG
 | some x=>rw [J] at aG; rw [h.sub _ _ J]; exact aG
theorem hV.Q0 {N:dK}{o:Oper}{r k0 d:Nat}{y:ag}{cs:List ag}{g5:aW}(aw:g r=some (.obj cs)) (az:cs[k0]?=some y) (v_:dc y)
  (uy:∀ v:Value,v.oneCell'=true->∃ g1 g4 tZ,fu (db g ⟨r,[k0]⟩ (.lit v)) g1/\hV P N g1 o d g4/\b' g4 ⟨r,[k0]⟩=some (.lit v)/\fu (db g4 ⟨r,[k0]⟩ y) tZ/\b' tZ ⟨r,[k0]⟩=some y/\Og g d r k0 tZ g5):hV P N g o d g5:=by
 intro w I T Fs h a bf b5 K Q eK;have l8:∀ z q n m new,y≠.b8 z q n m new:=by rintro z q n m new rfl; cases v_
 have fW:b' g ⟨r,[k0]⟩=some y:=by simp [b',aw,ag.at,ag.kids,az]
 obtain ⟨v,cN,hv,dZ,dE,put⟩:=h.mn.part fW l8;have oK:v.oneCell'=true:=by
  obtain ⟨u,hu,mA⟩:=h.rel r _ aw;obtain ⟨b,tu,h1,al,aQ,bW,_⟩:=R.node (z:=0) (n:=0) (mA.h0 (by simp)) (.inr rfl) az;have:eB w T ⟨r,[k0]⟩=child w u k0:=by
   unfold eB;simp only [hu,walk];cases child w u k0 <;> rfl
  rw [this,aQ] at hv;cases hv;exact bW
 obtain ⟨gj,i_,zV,zW⟩:=put (.lit v) cW (.lit oK λ_ h=>h) (λ_ h=>h.elim) (λ_ h=>h.elim) (λ_ _ _ h=>h.elim);obtain ⟨g1,g4,tZ,hd,eo,F7,Gr,WO,aK⟩:=uy v oK;have ry:∀ t c,gj t c->Fs t c/\¬ cN c:=by
  intro t c ab;by_cases aJ:t=r
  ·subst aJ;rcases (zV c).1 ab with aR | aR
   ·exact aR
   ·exact aR.elim
  ·rw [zW t aJ] at ab;exact ⟨ab,λbn=>aJ (h.e_ t r c ab (dE c bn))⟩
 have FX:=i_.keep hd;refine eo w I T _ FX a bf b5 K Q λcF w' hT I' cz Fh zw eL cf=>?_;obtain ⟨v2,so,qh,l0,Rt,H7⟩:=eL.mn.part F7 (by simp);have GU:v2=v:=l0.il.1;subst GU;have FK:∀ c,cN c->¬ I c:=λc ab=>h.aF r c (dE c ab);have vI:∀ c,cN c->c<w.heap.size:=λc ab=>h.j2 r c (dE c ab);have wy:∀ c,cN c->¬ ∃ t,(g1 t≠none/\gj t c):=λc ab ⟨t,_,aR⟩=>(ry t c aR).2 ab;have AY:∀ t c,cz t c->¬ cN c:=by
  intro t c ab bn;rcases cf.own c ⟨t,ab⟩ with aR | aR
  ·exact wy c bn aR
  ·have:=vI c bn; omega
 have HN:∀ c,cN c->¬ I' c:=by
  intro c ab hi;rcases cf.new c hi with aR | aR | aR
  ·exact FK c ab aR
  ·exact wy c ab aR
  ·have:=vI c ab; omega
 have Ih:∀ c,cN c->w'.heap[c]?=w.heap[c]?:=λc ab=>cf.fF.block c (vI c ab) (wy c ab);have rp:∀ c,I c->w'.heap[c]?=w.heap[c]?:=λc ab=>cf.fF.block c (h.lt c ab) λ⟨t,_,aR⟩=>h.aF t c (ry t c aR).1 ab;have z6:R w' I' (gl w' (T.setIfInBounds d hT)) y v2 cN :=
  ((dZ.bL v_).frame rp cf.more (λ_ _ h=>h) Ih)
 obtain ⟨I7,FZ,FF,FG⟩:=H7 y cN z6 (λc ab bn=>(AY _ c bn ab).elim) (λc ab=>HN c ab) (λt c _ ab bn=>AY t c bn ab);have sR:=FZ.keep Gr;have Tg:eB w' (T.setIfInBounds d hT) ⟨r,[k0]⟩=some v2:=qh;have RO:c7 w' I' (T.setIfInBounds d hT) g5 (λt c=>tZ t≠none/\I7 t c):=by
  refine ⟨λt x J=>?_,λt aJ c ab=>?_,sR.e_,sR.aF,sR.lt,λt t' z p n m new cK cY bS di h1 al=>?_⟩
  ·rcases aK.new t x J with aR | ⟨h1,al,aQ,m,z,n,cs2,rfl,da,eb⟩
   ·obtain ⟨u,hu,bl⟩:=sR.rel t x aR;exact ⟨u,hu,sR.vG (λ_ _=>rfl) (λ_ _ _=>rfl) (λ_ _=>rfl) (λ_ h=>h) aK.sub bl λ_ _=>rfl⟩
   ·obtain ⟨u,hu,bl⟩:=h.rel t _ aQ;obtain ⟨⟨BD,ad,ay,a2,rfl⟩,_⟩:=(bl.h0 (by simp)).ni;rw [hv] at ay;cases ay;refine ⟨_,by rw [Array.getElem?_setIfInBounds_ne (Ne.symm al)]; exact hu,.tree (.ref rfl ⟨⟨v2,ad,Tg,a2,rfl⟩,?_⟩ (sR.kH t h1))⟩;refine ⟨.own z n cs2,?_,z,n,cs2,.inl rfl,eb⟩;unfold Own.b' at da ⊢;cases gw:tZ r with
    | none=>simp only [gw] at da; cases da
    | some x'=>simp only [gw] at da; simp only [aK.sub r x' gw]; exact da
  ·cases aR:tZ t with
   | none=>exact ab.1 aR
   | some y=>rw [aK.sub t y aR] at aJ; cases aJ
  ·have:∀ {t z p n m new},g5 t=some (.b8 z p n m new)->tZ t=some (.b8 z p n m new):=by
    intro t z p n m new J;rcases aK.new t _ J with aR | ⟨_,_,_,m,z,n,cs2,e,_⟩
    ·exact aR
    ·cases e
   exact sR.qt t t' z p n m new cK cY bS di (this h1) (this al)
 refine eK cF w' hT I' _ Fh zw RO ⟨?_,cf.more,λc ab=>?_,λc ab=>?_⟩
 ·exact cf.fF.mono λb _ ⟨t,_,aR⟩=>⟨t,(ry t b aR).1⟩
 ·rcases cf.new c ab with aR | ⟨t,_,aR⟩ | aR
  ·exact .inl aR
  ·exact .inr (.inl ⟨t,(ry t c aR).1⟩)
  ·exact .inr (.inr aR)
 ·obtain ⟨t,_,ab⟩:=ab;have:(∃ t,cz t c)\/cN c:=by
   by_cases aJ:t=r
   ·subst aJ;rcases (FF c).1 ab with ⟨aR,_⟩ | aR
    ·exact .inl ⟨_,aR⟩
    ·exact .inr aR
   ·rw [FG t aJ] at ab; exact .inl ⟨t,ab⟩
  rcases this with aR | aR
  ·rcases cf.own c aR with ⟨t,_,gJ⟩ | gJ
   ·exact .inl ⟨t,(ry t c gJ).1⟩
   ·exact .inr gJ
  ·exact .inl ⟨r,dE c aR⟩
end
end Go.Own
namespace Go.Own
open Go
def rP:ag->Option (List ag)
 | .agg cs=>some cs
 | .lit v=>some [.lit v]
 | .aN=>some [.aN]
 | .aF z n cs=>some [.aF z n cs]
 | .own z n cs=>some [.own z n cs]
 | .obj cs=>some [.obj cs]
 | .bk cs=>some [.bk cs]
 | .et f a b=>some [.et f a b]
 | _=>none
def gA (P:Program) (t:TypeId) (m:Nat):Bool :=
 match P.info? t with
 | some i=>i.size == m
 | none=>false
def mu (P:Program) (N:dK) (g:aW) (o:Oper) (g':aW):Prop :=
 ∀ (w:World) (I:bz) (T:Array Value) (Fs:Nat->bz),c7 w I T g Fs->∀ (a:Act),a.tmps=T->a.tmps.size=N.size->∀ (K:Act->World->Prop) (Q:Exit->Act->World->Prop),
  (∀ (cF:Act) (w':World),ig N a w I Fs g' cF w'->(∀ t,o.dst≠some t->cF.tmps[t]?=a.tmps[t]?)->K cF w')->o.wp P a w K Q
inductive cq (P:Program) (N:dK) (g:aW):Oper->aW->Prop
 | assign {o:Oper}{d:Nat}{x:Operand}{y kh y':ag}{g1 g2:aW}(bh:o.op=.assign x) (aU:o.dst=some d) (J:bT g x=some y) (aJ:Take g [y] [kh] g1) (bA:jH kh y') (hk:fu g1 g2) (ba:g2 d=none) (b5:N.ok d=true):cq P N g o (e5 g2 d y')
 | OU {o:Oper}{d:Nat}{x:Operand}{y:ag}{g2:aW}(bh:o.op=.assign x) (aU:o.dst=some d) (J:bT g x=some y) (hk:fu g g2) (az:e3 g2 y) (ba:g2 d=none) (b5:N.ok d=true):cq P N g o (e5 g2 d y)
 | store {o:Oper}{t:TypeId}{ad val:Operand}{p:Place}{k z n:Nat}{y kh y' nd:ag}{cs cs':List ag}{g1 g2:aW}(bh:o.op=.store t ad val) (aU:o.dst=none) (fV:bT g ad=some (.ptr p k)) (q8:bT g val=some y) (aJ:Take g [y] [kh] g1) (po:jH kh y')
   (ab:rP y'=some cs') (aL:gA P t cs'.length=true) (aG:b' g1 p=some nd) (gg:nd=.own z n cs\/nd=.obj cs) (hk:k+cs'.length<=cs.length) (bd:0<cs'.length)
   (C1:∀ t x,g2 t=some x->db g1 p (nd.fL k cs') t=some x) (Ap:∀ t x,g2 t=some x->∀ y,g1 t=some y->ki (λr=>hn g1 r/\Clear p k cs'.length r/\hn g2 r) y) (l8:∀ t z q n m new,g2 t≠some (.b8 z q n m new)) (mI:g2 p.root≠none):cq P N g o g2
 | call {o:Oper}{d:Nat}{g5:aW}(aU:o.dst=some d) (b5:N.ok d=true) (h:hV P N g o d g5):cq P N g o g5
 | Nz {o:Oper}{g2:aW}(h:mu P N g o g2):cq P N g o g2
section
variable {P:Program}{w:World}{I:bz}{T:Array Value}{g:aW}{Fs:Nat->bz}
theorem Hand.one {y:ag}{v:Value}(bl:R w I (ew w T g) y v cW):Hand w I (gl w T) Fs [y] [v] (λ_=>cW) :=
 ⟨rfl,λk x u J hu=>by
  cases k with
  | zero=>simp at J hu; subst J hu; exact bl.frame (λ_ _=>rfl) (λ_ h=>h) (λ_ _ h=>h.1) λ_ _=>rfl
  | succ k=>simp at J,λ_ _ _ _ _ h=>h.elim,λ_ _ _ _ h=>h.elim,λ_ _ _ h=>h.elim⟩
theorem Hand.H_ {ρ:ag->Value->Prop}{y:ag}{v:Value}{dI:Nat->bz}(h:Hand w I ρ Fs [y] [v] dI):R w I ρ y v (dI 0):=h.rel 0 y v rfl rfl
theorem Hand.cells {y:ag}{v:Value}{dI:Nat->bz}(h:Hand w I (gl w T) Fs [y] [v] dI) (aP:dc y) {cs:List ag}(ab:rP y=some cs) :
  ∃ xn,Hand w I (gl w T) Fs cs v.cells.toList xn/\(∀ x∈cs,dc x)/\(∀ (ae:Nat) (u:Value),v.cells.toList[ae]?=some u->u.oneCell'=true)/\∀ ae c,ae<cs.length->xn ae c->dI 0 c:=by
 have bl:=h.H_;have single:∀ {x:ag},y=x->v.oneCell'=true->∃ xn,Hand w I (gl w T) Fs [x] v.cells.toList xn/\(∀ z∈[x],dc z)/\(∀ (ae:Nat) (u:Value),v.cells.toList[ae]?=some u->u.oneCell'=true)/\∀ ae c,ae<[x].length->xn ae c->dI 0 c:=by
  rintro x rfl h1;have xX:v.cells=#[v]:=by cases v <;> first | rfl | (simp [Value.oneCell'] at h1)
  refine ⟨dI,by rw [xX]; exact h,by simpa using aP,λae u hu=>?_,λae c aa ab=>?_⟩
  ·rw [xX] at hu;cases ae with
   | zero=>simp at hu; subst hu; exact h1
   | succ ae=>simp at hu
  ·have:ae=0:=by simpa using aa
   subst this; exact ab
 cases y <;> simp only [rP,Option.some.injEq,reduceCtorEq] at ab
 case agg l =>
  subst ab;cases bl with
  | ref J=>simp [ag.isRef] at J
  | @agg _ vs b3 _ ao h1 aw aU aT =>
   have e':∀ k c,k<l.length->b3 k c->dI 0 c:=λk c hk ab=>(aT c).2 ⟨k,hk,ab⟩;refine ⟨b3,⟨by simp [Value.cells,ao],λk x u J hu=>aw k x u J (by simpa [Value.cells] using hu),aU,λk t c hk ab=>h.off 0 t c (by simp) (e' k c hk ab),λk c hk ab=>h.aF 0 c (by simp) (e' k c hk ab)⟩,?_,λae u hu=>h1 ae u (by simpa [Value.cells] using hu),e'⟩;cases aP with | agg h=>exact h
 case lit a=>subst ab; exact single rfl (by obtain ⟨rfl,h1⟩:=bl.il; exact h1)
 case aN=>subst ab; exact single rfl (by rw [bl.rf]; rfl)
 case aF z n l=>subst ab; exact single rfl (by obtain ⟨a,cap,rfl,_⟩:=bl.yf; rfl)
 case own z n l=>subst ab; exact single rfl (by obtain ⟨a,cap,rfl,_⟩:=bl.mS; rfl)
 case bk l=>subst ab; exact single rfl (by obtain ⟨ad,us,rfl,_⟩:=bl.wa; rfl)
 case obj l =>
  subst ab;refine single rfl ?_;cases bl with
  | ref J=>simp [ag.isRef] at J
  | obj=>rfl
 case et f a b =>
  subst ab;refine single rfl ?_;cases bl with
  | ref J=>simp [ag.isRef] at J
  | et=>rfl
theorem jK.nm {I':bz}{ρ:ag->Value->Prop}{x:ag}{v:Value}{F:bz}(h:jK w I ρ x v F) (bw:∀ c,I c->I' c):jK w I' ρ x v F:=by
 cases h with
 | tree h=>exact .tree (h.nm bw)
 | b8 h=>exact .b8 ⟨h.km,h.k3,h.mG,h.ao,h.h1,λk x u J hu=>(h.aw k x u J hu).nm bw,h.aT⟩
theorem KX {g1:aW}{gj:Nat->bz}{H1:Nat->bz}{kh y':ag}{v:Value}(b6:jL w I T g1 gj) (hH:Hand w I (gl w T) gj [kh] [v] H1) (aP:dc kh) (bA:jH kh y') :
  ∃ (I':bz) (sr:bz),(∀ c,I c->I' c)/\(∀ c,I' c->I c\/H1 0 c)/\jL w I' T g1 gj/\Hand w I' (gl w T) gj [y'] [v] (λ_=>sr)/\∀ c,sr c->H1 0 c:=by
 have bl:=hH.H_;obtain ⟨sr,gO,jr⟩:=R.fM bA bl aP (λc ab=>hH.aF 0 c (by simp) ab) b6.lt;refine ⟨λc=>I c\/(H1 0 c/\¬ sr c),sr,λc ab=>.inl ab,λc ab=>ab.elim .inl λh=>.inr h.1,⟨λt x J=>?_,b6.kH,b6.e_,λt c ab hi=>?_,λc ab=>?_⟩,⟨rfl,λk x u J hu=>?_,λae k c aa hk _ _=>by simp at aa hk; omega,λk t c hk ab bn=>hH.off 0 t c (by simp) (gO c ab) bn,λk c hk ab hi=>?_⟩,gO⟩
 ·obtain ⟨u,hu,mA⟩:=b6.rel t x J;exact ⟨u,hu,mA.nm λc ab=>.inl ab⟩
 ·rcases hi with h | ⟨h,_⟩
  ·exact b6.aF t c ab h
  ·exact hH.off 0 t c (by simp) h ab
 ·rcases ab with h | ⟨h,_⟩
  ·exact b6.lt c h
  ·exact bl.lt c h
 ·cases k with
  | zero=>simp at J hu; subst J hu; exact jr
  | succ k=>simp at J
 ·rcases hi with h | ⟨_,h⟩
  ·exact hH.aF 0 c (by simp) (gO c ab) h
  ·exact h ab
theorem cq.ox {N:dK}{o:Oper}{g':aW}(he:cq P N g o g'):mu P N g o g':=by
 intro w I T Fs h a bf b5 K Q eK;cases he with
 | Nz he=>exact he w I T Fs h a bf b5 K Q eK
 | @call d _ aU js ab =>
  refine ab w I T Fs h a bf b5 K Q λcF w' v I' cz h1 al aQ bW=>eK cF w' ⟨h1,by rw [al,<- bf]; exact hW.put js _ _,I',cz,by rw [al]; exact aQ,bW⟩ λt aJ=>?_;rw [al,bf,Array.getElem?_setIfInBounds_ne];rintro rfl;exact aJ aU
 | @assign d x y kh y' g1 g2 bh aU J aJ bA hk ba js =>
  have bl:=k9 h J bf;obtain ⟨gj,H1,r2,uc,gV⟩:=aJ.sound h.mn (Hand.one bl);have Af:dc kh:=aJ.AW kh (by simp);obtain ⟨I',sr,oD,FM,i_,iE,gO⟩:=KX r2 uc Af bA;have mE:dc y':=bA.bL Af;have ih:=i_.keep hk;have nf:=ih.td (d:=d) (x:=y') (v:=a.eval x) (F:=sr) ba (by rw [<- bf,b5]; exact dK.lt js) (.tree (iE.H_.bL mE)) (λt c ab bn=>iE.off 0 t c (by simp) ab bn.2) (λc ab=>iE.aF 0 c (by simp) ab) (by rintro z p n m new rfl; cases mE);have ij:(execOp a.eval o).run P w=.ok (.value (a.eval x)) w:=by simp [execOp,bh]
  unfold Oper.wp Oper.upon;simp only [ij];have gU:∀ c,H1 0 c->∃ t,Fs t c:=λc ab=>by
   rcases gV c (.inr ⟨0,by simp,ab⟩) with gJ | ⟨_,_,gJ⟩
   ·exact gJ
   ·exact gJ.elim
  refine eK _ _ ⟨by rw [aU]; rfl,by rw [aU]; exact hW.put js _ _,I',_,by rw [aU]; simpa [Act.put,bf] using nf,⟨Fr.refl _ _,oD,λc ab=>(FM c ab).elim .inl λh=>.inr (.inl (gU c h)),λc ab=>?_⟩⟩ λt aJ=>by rw [aU]; simp only [Act.put]; rw [Array.getElem?_setIfInBounds_ne]; rintro rfl; exact aJ aU
  rcases u5 ab with ⟨t,_,aR⟩ | aR
  ·rcases gV c (.inl ⟨t,aR⟩) with gJ | ⟨_,_,gJ⟩
   ·exact .inl gJ
   ·exact gJ.elim
  ·exact .inl (gU c (gO c aR))
 | @OU d x y g2 bh aU J hk az ba js =>
  have bl:=k9 h J bf;have ih:=h.mn.keep hk;have jr:R w I (ew w T g2) y (a.eval x) cW:=(bl.frame (ρ':=gl w T) (λ_ _=>rfl) (λ_ h=>h) (λ_ _ h=>h.1) λ_ _=>rfl).bq az;have nf:=ih.td (d:=d) (x:=y) (v:=a.eval x) (F:=cW) ba (by rw [<- bf,b5]; exact dK.lt js) (.tree jr) (λ_ _ h=>h.elim) (λ_ h=>h.elim) (by rintro z p n m new rfl; exact jr.k7.elim);have ij:(execOp a.eval o).run P w=.ok (.value (a.eval x)) w:=by simp [execOp,bh]
  unfold Oper.wp Oper.upon;simp only [ij];refine eK _ _ ⟨by rw [aU]; rfl,by rw [aU]; exact hW.put js _ _,I,_,by rw [aU]; simpa [Act.put,bf] using nf,⟨Fr.refl _ _,λ_ h=>h,λ_ h=>.inl h,λc ab=>?_⟩⟩ λt aJ=>by rw [aU]; simp only [Act.put]; rw [Array.getElem?_setIfInBounds_ne]; rintro rfl; exact aJ aU
  rcases u5 ab with ⟨t,_,aR⟩ | aR
  ·exact .inl ⟨t,aR⟩
  ·exact aR.elim
 | @store t ad val p k z n y kh y' nd cs cs' g1 _ bh aU fV q8 aJ po ab aL aG gg hk bd C1 Ap l8 mI =>
  have oE:=k9 h q8 bf;obtain ⟨⟨u,Wl,hu,ud,qc⟩,_⟩:=(k9 h fV bf).ni;obtain ⟨gj,H0,r2,uc,F5⟩:=aJ.sound h.mn (Hand.one oE);have Af:dc kh:=aJ.AW kh (by simp);obtain ⟨I',sr,oD,FM,i_,iE,Tb⟩:=KX r2 uc Af po;have mE:dc y':=po.bL Af;have gU:∀ c,H0 0 c->∃ t,Fs t c:=λc ab=>by
   rcases F5 c (.inr ⟨0,by simp,ab⟩) with gJ | ⟨_,_,gJ⟩
   ·exact gJ
   ·exact gJ.elim
  have gV:∀ c,lb gj 1 (λ_=>sr) c->lb Fs [y].length (λ_=>cW) c:=by
   rintro c (⟨t,ab⟩ | ⟨_,_,ab⟩)
   ·exact F5 c (.inl ⟨t,ab⟩)
   ·exact .inl (gU c (Tb c ab))
  obtain ⟨xn,K_,xY,gY,Rz⟩:=iE.cells mE ab;have k7:∀ z q n m new,nd≠.b8 z q n m new:=by rcases gg with rfl | rfl <;> simp
  obtain ⟨v,cN,hv,dZ,dE,_⟩:=i_.part aG k7;rw [hu] at hv;cases hv;obtain ⟨b,gG,aK,_⟩:=dZ.node gg (List.getElem?_eq_getElem (show k<cs.length by omega));rw [ud] at aK;cases aK;have ln:∃ e arr,w.heap[b]?=some (.cells arr e (0,0))/\cs.length<=arr.size:=by
   rcases gg with rfl | rfl
   ·cases dZ with
    | ref J=>simp [ag.isRef] at J
    | own oG ao =>
     obtain ⟨mJ,ca⟩:=oG;rcases ca with ⟨rfl,_⟩ | ⟨iQ,cap,cur,rfl,_,fY,uS,sf,uT,th⟩
     ·simp [addrOf] at ud
     ·simp only [addrOf,Option.some.injEq,Addr.mk.injEq,and_true] at ud;subst ud;refine ⟨_,cur,fY,?_⟩;rw [ao,<- th,List.length_take]; simp; omega
   ·cases dZ with
    | ref J=>simp [ag.isRef] at J
    | obj oG ao =>
     simp only [addrOf,Option.some.injEq,Addr.mk.injEq,and_true] at ud;subst ud;exact ⟨_,_,oG,by omega⟩
  obtain ⟨e,arr,ln,hle⟩:=ln;obtain ⟨iV,ih,gO⟩:=i_.store aG gg hk K_ xY gY C1 Ap l8 mI hu ud ln;have hr:(a.eval val).cells.toList.length=cs'.length:=K_.len.symm;have cf:=run_storeCells_at P b k e (a.eval val).cells.toList 0 arr w ln (by omega) (λu hu=>by
   obtain ⟨ae,aa,rfl⟩:=List.mem_iff_getElem.1 hu;exact gY ae _ (List.getElem?_eq_getElem aa))
  simp only [Nat.add_zero] at cf;have gr:(sizeOf t).run P w=.ok cs'.length w:=by
   unfold gA at aL;cases hi:P.info? t with
   | none=>simp [hi] at aL
   | some i=>simp [hi] at aL; simp [sizeOf,typeInfo,hi,aL]
  have ij:(execOp a.eval o).run P w=.ok .skip (w.setRow b (fL arr.toList k (a.eval val).cells.toList).toArray):=by
   have hs:(a.eval val).cells.size=cs'.length:=by rw [<- Array.length_toList]; exact hr
   simp only [Nat.zero_add] at qc;simp [execOp,bh,qc,Instr.storeAt,Instr.sureAddr,storeVar,gr,hs,cf,fL]
  unfold Oper.wp Oper.upon;simp only [ij];have Ga:∃ t,Fs t b:=by
   rcases gV b (.inl ⟨_,dE b (dZ.DF gg (ad:=⟨b,0,none⟩) ud)⟩) with aR | ⟨_,_,aR⟩
   ·exact aR
   ·exact aR.elim
  refine eK _ _ ⟨by rw [aU]; rfl,by rw [aU]; exact hW.refl,I',iV,by rw [aU]; simpa [Act.put,bf] using ih,⟨⟨rfl,rfl,rfl,by simp,λc _ ab=>setRow_other w b c _ (λe=>ab (e ▸ Ga)),λa _=>Fy w b _ a,Nat.le_refl _⟩,oD,λc ab=>(FM c ab).elim .inl λh=>.inr (.inl (gU c h)),λc ⟨t,ab⟩=>?_⟩⟩ λt _=>by rw [aU]; rfl
  rcases gO t c ab with aR | ⟨ae,aa,aR⟩
  ·rcases gV c (.inl ⟨t,aR⟩) with gJ | ⟨_,_,gJ⟩
   ·exact .inl gJ
   ·exact gJ.elim
  ·rcases gV c (.inr ⟨0,by simp,Rz ae c aa aR⟩) with gJ | ⟨_,_,gJ⟩
   ·exact .inl gJ
   ·exact gJ.elim
theorem cq.sound (h:c7 w I T g Fs) {a:Act}(bf:a.tmps=T) {N:dK}(b5:a.tmps.size=N.size) {o:Oper}{g':aW}(he:cq P N g o g') {K:Act->World->Prop}{Q:Exit->Act->World->Prop}
  (eK:∀ cF w',ig N a w I Fs g' cF w'->K cF w'):o.wp P a w K Q:=he.ox w I T Fs h a bf b5 K Q λcF w' h _=>eK cF w' h
end
end Go.Own
namespace Go.Own
open Go
def nM (g g':aW):Prop:=∀ t x,g t=some x->g' t=some x
section
variable {P:Program}{g g':aW}
theorem fl (h:nM g g') {x:Operand}{y:ag}(az:bT g x=some y):bT g' x=some y:=by
 cases x <;> simp only [bT] at az ⊢
 case tmp t =>
  cases J:g t with
  | none=>rw [J] at az; cases az
  | some z=>rw [J] at az; rw [h t z J]; exact az
 case const v=>exact az
 case global n=>exact az
 case func f=>exact az
theorem yp (h:nM g g'):∀ {xs:List Operand}{ys:List ag},iH g xs=some ys->iH g' xs=some ys
 | [],_,az=>az
 | x::xs,ys,az=>by
  simp only [iH] at az ⊢;cases J:bT g x with
  | none=>simp [J] at az
  | some y =>
   cases rb:iH g xs with
   | none=>simp [J,rb] at az
   | some BK=>simp only [J,rb] at az; simp only [fl h J,yp h rb]; exact az
theorem MS (h:nM g g'):∀ {l:List (Nat × Operand)}{ps:List (Nat × List ag)},rl g l=some ps->rl g' l=some ps
 | [],_,az=>az
 | (i,x)::l,ps,az=>by
  simp only [rl] at az ⊢;cases J:bT g x with
  | none=>simp [J] at az
  | some y =>
   cases rb:rl g l with
   | none=>simp [J,rb] at az
   | some BK=>simp only [J,rb] at az; simp only [fl h J,MS h rb]; exact az
theorem oY.mono (h:nM g g') {d:Nat}{x:Option Operand}{ae:Nat}(aK:oY g d x ae):oY g' d x ae:=by
 cases x with
 | none=>exact aK
 | some o=>obtain ⟨k,hk⟩:=aK; exact ⟨k,fl h hk⟩
theorem dp.mono (h:nM g g') {op:Op}{ty:TypeId}{x:ag}(aG:dp P g op ty x):dp P g' op ty x:=by
 cases aG with
 | move J=>exact .move (fl h J)
 | assign J=>exact .assign (fl h J)
 | pick ab aw=>exact .pick (fl h ab) (fl h aw)
 | DE J=>exact .DE (fl h J)
 | pI J=>exact .pI (fl h J)
 | zO J bn eo=>exact .zO (fl h J) bn (eo.mono h)
 | CL J bn=>exact .CL (fl h J) bn
 | CK J bn aJ az=>exact .CK (fl h J) bn aJ az
 | Fu J bn aJ hk=>exact .Fu (fl h J) bn aJ hk
 | Dp J hi aJ aa=>exact .Dp (fl h J) (fl h hi) aJ aa
 | Dn J hi aJ aa eo=>exact .Dn (fl h J) (fl h hi) aJ aa (eo.mono h)
 | Hh J hi aJ aa eo=>exact .Hh (fl h J) (fl h hi) aJ aa (eo.mono h)
 | Hg J hi aJ aa eo=>exact .Hg (fl h J) (fl h hi) aJ aa (eo.mono h)
 | Hf J hi aJ aa=>exact .Hf (fl h J) (fl h hi) aJ aa
 | DA J aJ=>exact .DA (fl h J) aJ
 | DB J aJ hk=>exact .DB (fl h J) aJ hk
 | AN J aJ az=>exact .AN (fl h J) aJ (kz h az)
 | yj J aJ az ab hm=>exact .yj (fl h J) aJ (kz h az) ab hm
 | Dq J hi aJ aK=>exact .Dq (fl h J) (fl h hi) aJ aK
 | bin J az hv aw=>exact .bin (fl h J) (fl h az) hv aw
 | zg J az hv aw=>exact .zg (fl h J) (fl h az) hv aw
 | un J hv aw=>exact .un (fl h J) hv aw
 | conv J hv aw=>exact .conv (fl h J) hv aw
 | Ct J aG aP hs aJ=>exact .Ct (fl h J) (kz h aG) aP hs aJ
 | Cu J aJ=>exact .Cu (fl h J) aJ
 | @Fk xs iC _ f vs v J hv aw =>
  refine .Fk (vs:=vs) ?_ hv aw;apply List.ext_getElem?;intro k;have:=congrArg (·[k]?) J;simp only [List.getElem?_map] at this ⊢;rw [<- this];cases hk:xs.toList[k]? with
  | none=>rfl
  | some o =>
   rw [hk] at this;cases hv:vs[k]? with
   | none=>rw [hv] at this; cases this
   | some v =>
    rw [hv] at this;simp only [Option.map_some,Option.some.injEq] at this ⊢;rw [this,fl h this]
 | CA J az=>exact .CA (fl h J) az
 | Bz J ao ca aJ h1 al=>exact .Bz (fl h J) (ao.mono h) (ca.mono h) aJ h1 al
 | D7 J ao ca aJ aP eo=>exact .D7 (fl h J) (ao.mono h) (ca.mono h) aJ aP (eo.mono h)
 | D6 J ao ca aJ h1 al eo=>exact .D6 (fl h J) (ao.mono h) (ca.mono h) aJ h1 al (eo.mono h)
 | D8 J ao ca aJ h1 al=>exact .D8 (fl h J) (ao.mono h) (ca.mono h) aJ h1 al
 | AL J aJ=>exact .AL (fl h J) aJ
 | AK J aJ=>exact .AK (fl h J) aJ
 | HA J aJ=>exact .HA (fl h J) aJ
 | Hz J aJ=>exact .Hz (fl h J) aJ
 | HB J aG az eK bl aw=>exact .HB (fl h J) (kz h aG) (fl h az) eK bl aw
 | AM J az eK bl aw=>exact .AM (fl h J) (fl h az) eK bl aw
 | @lits b xs iC _ vs v J hv aw =>
  refine .lits (vs:=vs) ?_ hv aw;clear aw;generalize xs.toList=l at J
  induction l generalizing vs with
  | nil=>exact J
  | cons x l aS =>
   cases vs with
   | nil=>simp at J
   | cons v vs =>
    simp only [List.map_cons,List.cons.injEq] at J ⊢;exact ⟨fl h J.1,aS J.2⟩
theorem o1.mono (h:nM g g') {op:Op}{ty:TypeId}{x:ag}(aG:o1 P g op ty x):o1 P g' op ty x:=by
 cases aG with
 | box J ab=>exact .box (fl h J) ab
 | alloc bA h1=>exact .alloc bA h1
 | makeMap bR=>exact .makeMap bR
 | buildSlice aJ aG J bA ab aK aP hzero=>exact .buildSlice aJ aG (yp h J) bA ab aK aP hzero
 | makeSlice aJ J az hzero h1 n5 aK aP oF s7 Dm=>exact .makeSlice aJ (fl h J) (fl h az) hzero h1 n5 aK aP oF s7 Dm
theorem tH.mono (h:nM g g') {op:Op}{ty:TypeId}{x:ag}(aG:tH P g op ty x):tH P g' op ty x:=by
 cases aG with
 | build aJ bA h1 aG ab=>exact .build aJ bA h1 (MS h aG) ab
 | makeFunc bf aK=>exact .makeFunc (yp h bf) (yp h aK)
theorem Src.mono (h:nM g g') {y:ag}{z m:Nat}{cells:List ag}(aL:Src g y z m cells):Src g' y z m cells:=by
 cases aL with
 | aF=>exact .aF
 | aN=>exact .aN
 | bo bR hm=>exact .bo (kz h bR) hm
 | sub bR hm=>exact .sub (kz h bR) hm
theorem dv.mono (h:nM g g') {op:Op}{ty:TypeId}{x:ag}(aG:dv P g op ty x) (ht:∀ z p n m new,x=.b8 z p n m new->∀ t cK cY bS di,g' t≠some (.b8 cK p cY bS di)):dv P g' op ty x:=by
 cases aG with
 | fq aG=>exact .fq (aG.mono h)
 | rk aG=>exact .rk (aG.mono h)
 | DL aG=>exact .DL (aG.mono h)
 | lM aG =>
  cases aG with
  | grow aL eo _ J q5 aJ pf aK=>exact .lM (.grow (fl h aL) (eo.mono h) (ht _ _ _ _ _ rfl) (fl h J) (q5.mono h) aJ pf aK)
  | nil aL J q5 aJ pf aK=>exact .lM (.nil (fl h aL) (fl h J) (q5.mono h) aJ pf aK)
theorem View.mono (h:nM g g') {x y:ag}(hv:View g x y):View g' x y:=by
 induction hv with
 | pI=>exact .pI
 | self h1 al aQ bW da eb=>exact .self h1 al aQ bW da eb
 | mp=>exact .mp
 | iR aG=>exact .iR (kz h aG)
 | agg ao _ aS=>exact .agg ao aS
 | own ao _ aS=>exact .own ao aS
 | obj ao _ aS=>exact .obj ao aS
 | et ao _ aS=>exact .et ao aS
 | bo aG aP ao _ aS=>exact .bo (kz h aG) aP ao aS
 | sub aG aP ao _ aS=>exact .sub (kz h aG) aP ao aS
 | ptr aG az hk ao _ aS=>exact .ptr (kz h aG) az hk ao aS
 | rows aG ao _ aS=>exact .rows (aG.mono (λaG=>kz h aG) h) ao aS
theorem cu.mono (h:nM g g') {op:Op}{x:ag}(aG:cu P g op x):cu P g' op x:=by
 cases aG with
 | plain ab J bn aP jb aw=>exact .plain (fl h ab) (yp h J) bn aP jb aw
 | Dz ab J bn ao hv jb aw=>exact .Dz (fl h ab) (yp h J) bn ao (λk x y J az=>(hv k x y J az).mono h) jb aw
def iX (g:aW) (ops:Array Oper) (o:Oper) (b:Bool):Prop :=
 match o.guard with
 | none=>b=true
 | some (ae,want)=>∃ t,(ops[ae]?).bind (·.dst)=some t/\((∃ c,g t=some (.lit (.bool c))/\b=(c == want))\/(g t=some (.cC [])/\b=false))
theorem iX.mono (h:nM g g') {ops:Array Oper}{o:Oper}{b:Bool}(hw:iX g ops o b):iX g' ops o b:=by
 unfold iX at *;split
 ·rename_i ba; rw [ba] at hw; exact hw
 ·rename_i ae want ba;rw [ba] at hw;obtain ⟨t,h1,⟨c,al,aQ⟩ | ⟨al,aQ⟩⟩:=hw
  ·exact ⟨t,h1,.inl ⟨c,h t _ al,aQ⟩⟩
  ·exact ⟨t,h1,.inr ⟨h t _ al,aQ⟩⟩
theorem iX.sound {w:World}{I:bz}{T:Array Value}{Fs:Nat->bz}(b6:c7 w I T g Fs) {ops:Array Oper}{o:Oper}{b:Bool}(hw:iX g ops o b):Region.wanted o (yielded ops T)=b:=by
 unfold iX at hw;unfold Region.wanted
 split at hw
 ·rename_i ba; rw [ba]; exact hw.symm
 ·rename_i ae want ba;rw [ba];obtain ⟨t,h1,⟨c,al,aQ⟩ | ⟨al,aQ⟩⟩:=hw
  ·obtain ⟨v,hv,bl⟩:=b6.rel _ _ al;have:=(bl.h0 (by simp)).il.1;subst this;subst aQ;simp only [yielded,h1,Option.bind_some,hv];cases c <;> cases want <;> rfl
  ·obtain ⟨v,hv,bl⟩:=b6.rel _ _ al;have:∃ vs,v=.tuple vs:=by
    cases bl.h0 (by simp) with
    | cC=>exact ⟨_,rfl⟩
    | ref J=>simp [ag.isRef] at J
   obtain ⟨vs,rfl⟩:=this;subst aQ;simp only [yielded,h1,Option.bind_some,hv];cases want <;> rfl
def o5 (P:Program) (g:aW) (ops:Array Oper) (o:Oper):Option ag->Prop
 | none=>iX g ops o false
 | some x=>(iX g ops o true/\(dv P g o.op o.type x\/cu P g o.op x))\/(iX g ops o false/\x=.cC [])\/(iX g ops o true/\∃ y,(dv P g o.op o.type y\/cu P g o.op y)/\dc y/\View (λ_=>none) y x)
theorem o5.mono (h:nM g g') {ops:Array Oper}{o:Oper}{r:Option ag}(aL:o5 P g ops o r) (ht:∀ z p n m new,r=some (.b8 z p n m new)->∀ t cK cY bS di,g' t≠some (.b8 cK p cY bS di)):o5 P g' ops o r:=by
 cases r with
 | none=>exact iX.mono h aL
 | some x =>
  rcases aL with aL | ⟨aL,J⟩ | ⟨aL,y,aG,aP,hv⟩
  ·refine .inl ⟨aL.1.mono h,?_⟩;rcases aL.2 with aG | aG
   ·exact .inl (aG.mono h λz p n m new e=>ht z p n m new (by rw [e]))
   ·exact .inr (aG.mono h)
  ·exact .inr (.inl ⟨aL.mono h,J⟩)
  ·refine .inr (.inr ⟨aL.mono h,y,?_,aP,hv⟩);rcases aG with aG | aG
   ·exact .inl (aG.mono h λz p n m new e=>by subst e; cases aP)
   ·exact .inr (aG.mono h)
def leaf:ag->Bool
 | .own .. | .obj .. | .agg .. | .cC .. | .b8 .. | .mp ..=>false
 | _=>true
def del (g:aW) (d:Nat):aW:=λt=>if t=d then none else g t
theorem Uc {x y:ag}(h:leaf x=true):∀ {q:List Nat},x.at q=some y->y=x
 | [],az=>by simpa [ag.at] using az.symm
 | k::q,az=>by
  have:x.kids=[]:=by cases x <;> first | rfl | simp [leaf] at h
  simp [ag.at,this] at az
theorem xC {d:Nat}{x:ag}(aU:g d=some x) (ao:leaf x=true) {p:Place}{y:ag}(aG:b' g p=some y) (az:leaf y=false):b' (del g d) p=some y:=by
 have aw:p.root≠d:=by
  intro e;unfold b' at aG;rw [e,aU] at aG;rw [Uc ao aG,ao] at az;cases az
 simp only [b',del,if_neg aw] at aG ⊢;exact aG
theorem hn.del {d:Nat}{x:ag}(aU:g d=some x) (ao:leaf x=true) {r:ag}(h:hn g r):hn (del g d) r:=by
 have root:∀ {t:Nat}{y:ag},g t=some y->leaf y=false->Own.del g d t=some y:=by
  intro t y aJ az;have:t≠d:=by
   rintro rfl;rw [aU] at aJ;cases aJ;rw [ao] at az; cases az
  simp only [Own.del,if_neg this,aJ]
 cases r <;> simp only [hn] at h ⊢
 case ptr p k =>
  obtain ⟨y,az,z,n,cs,eO,hk⟩:=h;exact ⟨y,xC aU ao az (by rcases eO with rfl | rfl <;> rfl),z,n,cs,eO,hk⟩
 case bo z p n =>
  rcases h with ⟨N,cs,az,aP⟩ | ⟨h1,q,hG,m,new,al,aQ⟩
  ·exact .inl ⟨N,cs,xC aU ao az rfl,aP⟩
  ·exact .inr ⟨h1,q,hG,m,new,root al rfl,aQ⟩
 case sub z p lo n =>
  obtain ⟨N,cs,az,aP⟩:=h;exact ⟨N,cs,xC aU ao az rfl,aP⟩
 case iR p=>obtain ⟨q,h⟩:=h; exact ⟨q,xC aU ao h rfl⟩
 case b8 z p n m new =>
  rcases h with ⟨cs,az⟩ | ⟨h1,q,hG,m,new,cs,al,aQ,bW⟩
  ·exact .inl ⟨cs,xC aU ao az rfl⟩
  ·exact .inr ⟨h1,q,hG,m,new,cs,root al rfl,aQ,xC aU ao bW rfl⟩
theorem R.Ub {w:World}{I:bz}{ρ:ag->Value->Prop}{x:ag}{v:Value}{F:bz}(h:R w I ρ x v F) (ao:leaf x=true):∀ c,¬ F c:=by
 cases h with
 | own | obj | agg | cC | mp=>simp [leaf] at ao
 | lit _ aT | aN aT | dead aT | ref _ _ aT | hS aT | aF aT | bk aT | et aT | imp aT=>exact aT
theorem c7.drop {w:World}{I:bz}{T:Array Value}{Fs:Nat->bz}(h:c7 w I T g Fs) {d:Nat}{x:ag}(aU:g d=some x) (ao:leaf x=true):c7 w I T (del g d) Fs:=by
 refine ⟨λt y az=>?_,λt aJ c ab=>?_,h.e_,h.aF,h.lt,λt t' z p n m new cK cY bS di h1 al=>?_⟩
 ·have mM:g t=some y:=by
   unfold del at az
   split at az
   ·cases az
   ·exact az
  obtain ⟨v,hv,bl⟩:=h.rel t y mM;exact ⟨v,hv,bl.frame (λ_ _=>rfl) (λ_ h=>h) (λ_ _ aw=>⟨aw.1,aw.2.del aU ao⟩) (λ_ _ _ _ _ _ _=>rfl) λ_ _=>rfl⟩
 ·unfold del at aJ
  split at aJ
  ·rename_i e;subst e;obtain ⟨v,hv,bl⟩:=h.rel t x aU;exact (bl.h0 (by rintro z p n m new rfl; simp [leaf] at ao)).Ub ao c ab
  ·exact h.kH t aJ c ab
 ·have key:∀ {t:Nat}{y:ag},del g d t=some y->g t=some y:=by
   intro t y az;unfold del at az
   split at az
   ·cases az
   ·exact az
  exact h.qt _ _ _ _ _ _ _ _ _ _ _ (key h1) (key al)
end
end Go.Own
namespace Go.Own
open Go
def wS (g:aW) (d:Nat):Option ag->aW
 | some x=>e5 g d x
 | none=>g
section
variable {P:Program}{w:World}{I:bz}{T:Array Value}{g:aW}{Fs:Nat->bz}{N:dK}{ops:Array Oper}
theorem kR.refl (w:World) (I U:bz):kR w I U w I U:=⟨Fr.refl _ _,λ_ h=>h,λ_ h=>.inl h,λ_ h=>.inl h⟩
theorem kR.trans {w jD ir:World}{I y5 BT U xx Jf:bz}(h:kR w I U jD y5 xx) (h1:kR jD y5 xx ir BT Jf):kR w I U ir BT Jf:=by
 have lL:∀ c,c<w.heap.size->xx c->U c:=λc ab hu=>by
  rcases h.own c hu with aR | aR
  ·exact aR
  ·omega
 refine ⟨h.fF.trans h1.fF lL,λc ab=>h1.more c (h.more c ab),λc ab=>?_,λc ab=>?_⟩
 ·rcases h1.new c ab with aR | aR | aR
  ·exact h.new c aR
  ·rcases h.own c aR with gJ | gJ
   ·exact .inr (.inl gJ)
   ·exact .inr (.inr gJ)
  ·exact .inr (.inr (Nat.le_trans h.fF.size aR))
 ·rcases h1.own c ab with aR | aR
  ·exact h.own c aR
  ·exact .inr (Nat.le_trans h.fF.size aR)
theorem ig.trans {N:dK}{a ay a2:Act}{jD ir:World}{y5:bz}{gj:Nat->bz}{g2:aW}(h1:ay.defers=a.defers) (al:hW N a.tmps ay.tmps) (cf:kR w I (λc=>∃ t,Fs t c) jD y5 (λc=>∃ t,gj t c)) (h:ig N ay jD y5 gj g2 a2 ir):ig N a w I Fs g2 a2 ir:=by
 obtain ⟨dg,c5,BT,iV,b6,ny⟩:=h;exact ⟨dg.trans h1,al.trans c5,BT,iV,b6,cf.trans ny⟩
theorem c7.UY (h:c7 w I T g Fs) {d:Nat}(aU:g d=none) (v:Value):c7 w I (T.setIfInBounds d v) g Fs:=by
 have fG:∀ t,g t≠none->(T.setIfInBounds d v)[t]?=T[t]?:=by
  intro t aJ;rw [Array.getElem?_setIfInBounds_ne];rintro rfl; exact aJ aU
 refine ⟨λt x J=>?_,h.kH,h.e_,h.aF,h.lt,h.qt⟩;obtain ⟨u,hu,bl⟩:=h.rel t x J;exact ⟨u,by rw [fG t (by rw [J]; simp)]; exact hu,h.vG fG (λ_ _ _=>rfl) (λ_ _=>rfl) (λ_ h=>h) (λ_ _ h=>h) bl λ_ _=>rfl⟩
structure Eo (fM:Nat->Bool) (g g2:aW):Prop where
 lL:∀ t x,g2 t=some x->fM t=false->g t=some x/\e3 g2 x
 re:∀ t x,g2 t=some x->fM t=true->∃ y,g t=some y/\dc y/\jH y x
 fT:∀ t z q n m new,g2 t≠some (.b8 z q n m new)
theorem c7.tY (h:c7 w I T g Fs) {fM:Nat->Bool}{g2:aW}(bA:Eo fM g g2):∃ I' cz,c7 w I' T g2 cz/\kR w I (λc=>∃ t,Fs t c) w I' (λc=>∃ t,cz t c):=by
 have vH:=h.mn;have AU:∀ t x,g2 t=some x->∀ z p n m new,x≠.b8 z p n m new:=by
  rintro t x J z p n m new rfl;exact bA.fT _ _ _ _ _ _ J
 -- of each slot what it owns from now on
 have:∀ t,∃ f':bz,(∀ c,f' c->Fs t c/\g2 t≠none)/\∀ x,g2 t=some x->(fM t=false->∀ c,Fs t c->f' c)/\∃ v,T[t]?=some v/\R w (λc=>I c\/(Fs t c/\¬ f' c)) (ew w T g2) x v f':=by
  intro t;cases J:g2 t with
  | none=>exact ⟨cW,λ_ h=>h.elim,λx h=>by cases h⟩
  | some x =>
   cases aJ:fM t with
   | false =>
    obtain ⟨h1,al⟩:=bA.lL t x J aJ;obtain ⟨v,hv,bl⟩:=vH.rel t x h1;refine ⟨Fs t,λc ab=>⟨ab,by simp⟩,λy az=>?_⟩;cases az;exact ⟨λ_ _ h=>h,v,hv,((bl.h0 (AU t x J)).bq al).nm λc ab=>.inl ab⟩
   | true =>
    obtain ⟨y,h1,al,aQ⟩:=bA.re t x J aJ;obtain ⟨v,hv,bl⟩:=vH.rel t y h1;have jr:=bl.h0 (by rintro z p n m new rfl; cases al);obtain ⟨f',aL,RL⟩:=R.fM aQ jr al (λc ab=>vH.aF t c ab) vH.lt;refine ⟨f',λc ab=>⟨aL c ab,by simp⟩,λz bA=>?_⟩;cases bA;exact ⟨λh=>absurd h (by simp),v,hv,RL.bL (aQ.bL al)⟩
 obtain ⟨cz,jq⟩:=Classical.axiomOfChoice this;refine ⟨λc=>I c\/∃ t,Fs t c/\g2 t≠none/\¬ cz t c,cz,⟨λt x J=>?_,λt aJ c ab=>((jq t).1 c ab).2 aJ,λt t' c ab fy=>h.e_ t t' c ((jq t).1 c ab).1 ((jq t').1 c fy).1,λt c ab hi=>?_,λc ab=>?_,λt t' z p n m new cK cY bS di h1 _=>absurd h1 (bA.fT _ _ _ _ _ _)⟩,Fr.refl _ _,λ_ h=>.inl h,λc ab=>?_,λc ⟨t,ab⟩=>.inl ⟨t,((jq t).1 c ab).1⟩⟩
 ·obtain ⟨_,v,hv,bl⟩:=(jq t).2 x J;exact ⟨v,hv,.tree (bl.nm λc ab=>ab.elim .inl λab=>.inr ⟨t,ab.1,by rw [J]; simp,ab.2⟩)⟩
 ·rcases hi with aR | ⟨s,h1,_,al⟩
  ·exact h.aF t c ((jq t).1 c ab).1 aR
  ·have:=h.e_ t s c ((jq t).1 c ab).1 h1;subst this;exact al ab
 ·rcases ab with aR | ⟨s,aR,_⟩
  ·exact h.lt c aR
  ·exact h.j2 s c aR
 ·rcases ab with aR | ⟨s,aR,_⟩
  ·exact .inl aR
  ·exact .inr (.inl ⟨s,aR⟩)
theorem o5.sound (h:c7 w I T g Fs) {a:Act}(bf:a.tmps=T) (b5:a.tmps.size=N.size) {o:Oper}{r:Option ag}{d:Nat}(aL:o5 P g ops o r) (aU:o.dst=some d) (ba:g d=none) (js:N.ok d=true) {K:Act->World->Prop}{Q:Exit->Act->World->Prop}
  (eK:∀ cF w',ig N a w I Fs (wS g d r) cF w'->K cF w') :
  if Region.wanted o (yielded ops a.tmps) then o.wp P a w K Q\/(o.asks P a w/\LetsOut Q) else K (a.put o.dst undef) w:=by
 subst bf;cases r with
 | none =>
  rw [iX.sound h aL];simp only [Bool.false_eq_true,if_false];refine eK _ _ ⟨by rw [aU]; rfl,by rw [aU]; exact hW.put js _ _,I,Fs,by rw [aU]; exact h.UY ba _,kR.refl _ _ _⟩
 | some x =>
  have fin:∀ x v w',tE w I a.tmps g Fs x v w'->(∀ cF w',ig N a w I Fs (e5 g d x) cF w'->K cF w')->K (a.put o.dst v) w':=by
   rintro x v w' ⟨F,I',b6,bl,h1,al,aQ,bW,da,eb⟩ eK;refine eK _ _ ⟨by rw [aU]; rfl,by rw [aU]; exact hW.put js _ _,I',_,by rw [aU]; exact b6.td ba (by rw [b5]; exact dK.lt js) bl (λt c ab bn=>h1 t c ab bn) (λc ab=>(al c ab).2) eb,⟨da,aQ,λc ab=>?_,λc ab=>?_⟩⟩
   ·rcases bW c ab with aR | aR
    ·exact .inl aR
    ·exact .inr (.inr aR)
   ·rcases u5 ab with aR | aR
    ·exact .inl aR
    ·exact .inr (al c aR).1
  have re:∀ y v w',dc y->View (λ_=>none) y x->tE w I a.tmps g Fs y v w'->tE w I a.tmps g Fs x v w':=by
   rintro y v w' aP hv ⟨F,I',b6,bl,h1,al,aQ,bW,da,eb⟩;have dZ:=bl.h0 (by rintro z p n m new rfl; cases aP);refine ⟨cW,λc=>I' c\/F c,⟨λt z bA=>?_,b6.kH,b6.e_,λt c ab hi=>?_,λc ab=>?_,b6.qt⟩,.tree (dZ.re aP hv (λc ab=>(al c ab).2) b6.lt),λ_ _ h=>h.elim,λ_ h=>h.elim,λc ab=>.inl (aQ c ab),λc ab=>?_,da,?_⟩
   ·obtain ⟨u,hu,mA⟩:=b6.rel t z bA;exact ⟨u,hu,mA.nm λc ab=>.inl ab⟩
   ·rcases hi with h | h
    ·exact b6.aF t c ab h
    ·exact h1 t c h ab
   ·rcases ab with h | h
    ·exact b6.lt c h
    ·exact dZ.lt c h
   ·rcases ab with h | h
    ·exact bW c h
    ·exact .inr (al c h).1
   ·rintro z p n m new rfl;cases hv with
    | self h=>cases h
  rcases aL with aL | ⟨aL,rfl⟩ | ⟨aL,y,aG,aP,hv⟩
  rotate_left
  rotate_left
  ·rw [iX.sound h aL];simp only [if_true];refine .inl ?_;have KT:∀ v w',tE w I a.tmps g Fs y v w'->K (a.put o.dst v) w':=λv w' eu=>fin x v w' (re y v w' aP hv eu) eK;rcases aG with aG | aG
   ·obtain ⟨v,w',ij,eu⟩:=aG.sound h rfl;unfold Oper.wp Oper.upon;simp only [ij];exact KT v w' eu
   ·exact aG.sound h rfl KT
  rotate_left
  ·rw [iX.sound h aL];simp only [Bool.false_eq_true,if_false];refine eK _ _ ⟨by rw [aU]; rfl,by rw [aU]; exact hW.put js _ _,I,_,by rw [aU]; exact h.td ba (by rw [b5]; exact dK.lt js) (.tree (.cC (Fs:=λ_=>cW) (F:=cW) rfl (λk x u J _=>by simp at J) (λ_ _ _ _ _ h=>h.elim) (λc=>⟨λh=>h.elim,λ⟨_,_,h⟩=>h⟩))) (λ_ _ h=>h.elim) (λ_ h=>h.elim) (λ_ _ _ _ _ e=>by cases e),⟨Fr.refl _ _,λ_ h=>h,λ_ h=>.inl h,λc ab=>?_⟩⟩;rcases u5 ab with aR | aR
   ·exact .inl aR
   ·exact aR.elim
  rw [iX.sound h aL.1];simp only [if_true];refine .inl ?_;have fin:∀ v w',tE w I a.tmps g Fs x v w'->K (a.put o.dst v) w':=by
   rintro v w' ⟨F,I',b6,bl,h1,al,aQ,bW,da,eb⟩;refine eK _ _ ⟨by rw [aU]; rfl,by rw [aU]; exact hW.put js _ _,I',_,by rw [aU]; exact b6.td ba (by rw [b5]; exact dK.lt js) bl (λt c ab bn=>h1 t c ab bn) (λc ab=>(al c ab).2) eb,⟨da,aQ,λc ab=>?_,λc ab=>?_⟩⟩
   ·rcases bW c ab with aR | aR
    ·exact .inl aR
    ·exact .inr (.inr aR)
   ·rcases u5 ab with aR | aR
    ·exact .inl aR
    ·exact .inr (al c aR).1
  rcases aL.2 with aG | aG
  ·obtain ⟨v,w',ij,eu⟩:=aG.sound h rfl;unfold Oper.wp Oper.upon;simp only [ij];exact fin v w' eu
  ·exact aG.sound h rfl fin
inductive nO (P:Program) (N:dK) (ops:Array Oper):List Nat->aW->aW->Prop
 | nil {g:aW}:nO P N ops [] g g
 | step {i:Nat}{rest:List Nat}{g g':aW}{o:Oper}{d:Nat}{r:Option ag}(bh:ops[i]?=some o) (aU:o.dst=some d) (ba:g d=none) (js:N.ok d=true) (aL:o5 P g ops o r)
   (aw:nO P N ops rest (wS g d r) g'):nO P N ops (i::rest) g g'
 | ox {i:Nat}{rest:List Nat}{g g1 g':aW}{o:Oper}(bh:ops[i]?=some o) (hw:iX g ops o true) (he:cq P N g o g1) (aw:nO P N ops rest g1 g'):nO P N ops (i::rest) g g'
 | drop {is:List Nat}{g g':aW}{d:Nat}{x:ag}(aU:g d=some x) (ao:leaf x=true) (aw:nO P N ops is (del g d) g'):nO P N ops is g g'
 | forget {is:List Nat}{g g1 g':aW}(hk:fu g g1) (aw:nO P N ops is g1 g'):nO P N ops is g g'
 | tY {is:List Nat}{g g1 g':aW}{fM:Nat->Bool}(hk:Eo fM g g1) (aw:nO P N ops is g1 g'):nO P N ops is g g'
theorem nO.sound {is:List Nat}{g':aW}(aw:nO P N ops is g g'):∀ {a:Act}{w:World}{I:bz}{Fs:Nat->bz}{Q:Exit->Act->World->Prop},c7 w I a.tmps g Fs->a.tmps.size=N.size ->
  (∀ cF w',ig N a w I Fs g' cF w'->Q .normal cF w')->wpOps P ops Q is a w:=by
 induction aw with
 | nil=>exact λb6 b5 dY=>dY _ _ ⟨rfl,hW.refl,_,_,b6,kR.refl _ _ _⟩
 | @step i rest g g' o d r bh aU ba js aL _ aS =>
  intro a w I Fs Q b6 b5 dY;simp only [wpOps,bh];refine aL.sound b6 rfl b5 aU ba js λcF w' aP=>?_;obtain ⟨dg,c5,I',cz,eL,cf⟩:=aP;exact aS eL (c5.1.trans b5) λa2 ir al=>dY _ _ (ig.trans dg c5 cf al)
 | @ox i rest g g1 g' o bh hw he _ aS =>
  intro a w I Fs Q b6 b5 dY;simp only [wpOps,bh,hw.sound b6,if_true];refine .inl (he.sound b6 rfl b5 λcF w' aP=>?_);obtain ⟨dg,c5,I',cz,eL,cf⟩:=aP;exact aS eL (c5.1.trans b5) λa2 ir al=>dY _ _ (ig.trans dg c5 cf al)
 | @drop is g g' d x aU ao _ aS=>exact λb6 b5 dY=>aS (b6.drop aU ao) b5 dY
 | @tY is g g1 g' fM hk _ aS =>
  intro a w I Fs Q b6 b5 dY;obtain ⟨I',cz,eL,cf⟩:=b6.tY hk;exact aS eL b5 λa2 ir al=>dY _ _ (ig.trans rfl hW.refl cf al)
 | @forget is g g1 g' hk _ aS =>
  intro a w I Fs Q b6 b5 dY;have eL:=b6.mn.keep hk;refine aS eL b5 λa2 ir al=>dY _ _ (ig.trans rfl hW.refl ⟨Fr.refl _ _,λ_ h=>h,λ_ h=>.inl h,λc ab=>?_⟩ al);obtain ⟨t,_,ab⟩:=ab;exact .inl ⟨t,ab⟩
end
end Go.Own
namespace Go.Own
open Go
def tj (rs:List Nat):Place->Prop:=λp=>p.root∈rs
def oZ (P:Program) (N:dK) (rs:Place->Prop) (g:aW) (o:Oper) (g':aW):Prop :=
 ∀ (w:World) (I:bz) (T:Array Value) (Fs:Nat->bz),c7 w I T g Fs->∀ (a:Act),a.tmps=T->a.tmps.size=N.size->∀ (K:Act->World->Prop) (Q:Exit->Act->World->Prop),
  (∀ (cF:Act) (w':World),ig N a w I Fs g' cF w'->(∀ t,o.dst≠some t->cF.tmps[t]?=a.tmps[t]?)->(∀ r path,rs ⟨r,path⟩->∀ y,b' g ⟨r,path⟩=some y->(∀ z q n m new,y≠.b8 z q n m new)->eB w' cF.tmps ⟨r,path⟩=eB w T ⟨r,path⟩)->K cF w')->o.wp P a w K Q
theorem mu.v {P:Program}{N:dK}{g g':aW}{o:Oper}(h:mu P N g o g'):oZ P N (tj []) g o g' :=
 λw I T Fs b6 a bf b5 K Q eK=>h w I T Fs b6 a bf b5 K Q λcF w' h1 al=>eK cF w' h1 al λ_ _ h=>by simp [tj] at h
inductive o2:ag->Prop
 | lit {v:Value}:o2 (.lit v)
 | aN:o2 .aN
 | aF {z n:Nat}{cs:List ag}(h:∀ x∈cs,dc x):o2 (.aF z n cs)
 | agg {cs:List ag}(h:∀ x∈cs,o2 x):o2 (.agg cs)
theorem o2.bL {x:ag}(h:o2 x):dc x:=by
 induction h with
 | lit=>exact .lit
 | aN=>exact .aN
 | aF h=>exact .aF h
 | agg _ aS=>exact .agg aS
theorem o2.kH {w:World}{I:bz}{ρ:ag->Value->Prop}{x:ag}(h:o2 x):∀ {v:Value}{F:bz},R w I ρ x v F->∀ c,¬ F c:=by
 induction h with
 | lit =>
  intro v F bl;cases bl with
  | lit _ aT=>exact aT
  | ref J=>simp [ag.isRef] at J
 | aN =>
  intro v F bl;cases bl with
  | aN aT=>exact aT
  | ref J=>simp [ag.isRef] at J
 | aF =>
  intro v F bl;cases bl with
  | ref J=>simp [ag.isRef] at J
  | hS aT=>exact aT
  | aF aT=>exact aT
 | @agg cs _ aS =>
  intro v F bl c ab;cases bl with
  | ref J=>simp [ag.isRef] at J
  | @agg _ vs b3 _ ao h1 aw aU kZ =>
   obtain ⟨k,hk,al⟩:=(kZ c).1 ab;have hu:vs[k]?=some (vs[k]'(by omega)):=Array.getElem?_eq_getElem (by omega);exact aS _ (List.getElem_mem hk) (aw k _ _ (List.getElem?_eq_getElem hk) hu) c al
structure Em (g:aW):Prop where
 bq:∀ t x,g t=some x->e3 g x
 fT:∀ t z q n m new,g t≠some (.b8 z q n m new)
def zb (rs:Place->Prop) (g g1:aW) (o:Oper) (x:ag):Prop:=(∃ r path z n N cs,x=.bo z ⟨r,path⟩ n/\rs ⟨r,path⟩/\b' g ⟨r,path⟩=some (.own z N cs)/\b' g1 ⟨r,path⟩=some (.own z N cs)/\n<=N)\/(∃ v,x=.lit v)\/(∃ s p k,x=.ptr p k/\g s=some x/\g1 s=some x/\o.dst≠some s)\/(∃ r k cs,x=.ptr ⟨r,[]⟩ k/\g1 r=some (.obj cs)/\k<cs.length/\o.dst≠some r/\∃ cs',g r=some (.obj cs')/\k<cs'.length)\/(∃ z n cs,x=.aF z n cs/\dc x)\/(∃ cs,x=.agg cs/\o2 x/\Em g)
section
variable {P:Program}{N:dK}{g g1:aW}{o:Oper}
theorem NF {T:Array Value}{t:Nat}{v:Value}(h:T[t]?=some v):T.setIfInBounds t v=T:=by
 apply Array.ext (by simp);intro i h1 al;rw [Array.getElem_setIfInBounds];split
 ·rename_i e;subst e;have:=(Array.getElem?_eq_some_iff.1 h);exact this.2.symm
 ·rfl
theorem c7.Qx {w:World}{I:bz}{T:Array Value}{Fs:Nat->bz}{t:Nat}{x:ag}(h:c7 w I T (e5 g t x) Fs) (ba:g t=none) (ab:Em g) (kY:∀ c,¬ Fs t c):c7 w I T g Fs:=by
 have gO:∀ s y,g s=some y->e5 g t x s=some y:=λs y aL=>by
  unfold e5;rw [if_neg (λe=>by rw [e,ba] at aL; cases aL)]; exact aL
 have al:=h.mn.keep (g2:=g) ⟨gO,ab.bq,ab.fT⟩;have e:(λs c=>g s≠none/\Fs s c)=Fs:=by
  funext s c;apply propext;refine ⟨λh=>h.2,λbn=>⟨λaP=>?_,bn⟩⟩;by_cases aL:s=t
  ·subst aL; exact kY c bn
  ·exact h.kH s (by unfold e5; rw [if_neg aL]; exact aP) c bn
 rw [e] at al;exact al
theorem oZ.extra {rs:Place->Prop}(h:oZ P N rs g o g1) {t:Nat}{x:ag}(lH:∀ p,rs p->g p.root≠none) (ba:g t=none) (Sz:g1 t=none) (aJ:o.dst≠some t) (J:zb rs g g1 o x):oZ P N rs (e5 g t x) o (e5 g1 t x):=by
 intro w I T Fs b6 a bf b5 K Q eK;have GS:e5 g t x t=some x:=by simp [e5]
 have l8:∀ z q n m new,x≠.b8 z q n m new:=by
  rcases J with ⟨r,path,z,n,N,cs,rfl,_⟩ | ⟨v,rfl⟩ | ⟨s,p,k,rfl,_⟩ | ⟨r,k,cs,rfl,_⟩ | ⟨z,n,cs,rfl,_⟩ | ⟨cs,rfl,_⟩ <;> simp
 have r2:c7 w I T g Fs:=by
  have zh:leaf x=true->c7 w I T g Fs:=λuv=>by
   have:=b6.drop GS uv;have e:del (e5 g t x) t=g:=by
    funext s;unfold del e5;by_cases aL:s=t
    ·subst aL; simp [ba]
    ·simp [aL]
   rwa [e] at this
  rcases J with ⟨r,path,z,n,N,cs,rfl,_⟩ | ⟨v,rfl⟩ | ⟨s,p,k,rfl,_⟩ | ⟨r,k,cs,rfl,_⟩ | ⟨z,n,cs,rfl,_⟩ | ⟨cs,rfl,vR,hr⟩
  ·exact zh rfl
  ·exact zh rfl
  ·exact zh rfl
  ·exact zh rfl
  ·exact zh rfl
  ·obtain ⟨v,_,oE⟩:=b6.rel t _ GS;exact b6.Qx ba hr (vR.kH (oE.h0 (by simp)))
 obtain ⟨v,hv,oE⟩:=b6.rel t x GS;refine h w I T Fs r2 a bf b5 K Q λcF w' aP qf Mb=>eK cF w' ?_ qf λr path aw y az l8=>?_
 rotate_left
 ·by_cases L1:r=t
  ·subst L1;exact absurd ba (lH _ aw)
  ·exact Mb r path aw y (by simpa [b',e5,L1] using az) l8
 obtain ⟨dg,c5,I',cz,eL,cf⟩:=aP;have jc:cF.tmps[t]?=some v:=by rw [qf t aJ,bf]; exact hv
 have jr:jK w' I' (ew w' cF.tmps g1) x v cW:=by
  rcases J with ⟨r,path,z,n,tG,cs,rfl,aw,x8,j0,SR⟩ | ⟨u,rfl⟩ | ⟨s,p,k,rfl,aL,GM,S8⟩ | ⟨r,k,cs,rfl,j0,hk,An,_⟩ | ⟨z,n,cs,rfl,mE⟩ | ⟨cs,rfl,vR,hr⟩
  ·obtain ⟨⟨ay,iW,cap,hN,rfl,lk⟩,_⟩:=(oE.h0 (by simp)).mN;exact .tree (.ref rfl ⟨⟨ay,iW,cap,by rw [Mb r path aw _ x8 (by simp)]; exact hN,rfl,lk⟩,.inl ⟨tG,cs,j0,SR⟩⟩ λ_ h=>h)
  ·obtain ⟨rfl,ab⟩:=(oE.h0 (by simp)).il;exact .tree (.lit ab λ_ h=>h)
  ·obtain ⟨⟨BD,ad,ay,a2,rfl⟩,_⟩:=(oE.h0 (by simp)).ni;have cf:s≠t:=by rintro rfl; rw [ba] at aL; cases aL
   obtain ⟨u,hu,mA⟩:=r2.rel s _ aL;obtain ⟨⟨Xx,Wk,hN,iu,rfl⟩,_⟩:=(mA.h0 (by simp)).ni;rw [ay] at hN;cases hN;rw [a2] at iu;cases iu;obtain ⟨tu,fN,FW⟩:=eL.rel s _ GM;have:cF.tmps[s]?=T[s]?:=by rw [qf s S8,bf]
   rw [this,hu] at fN;cases fN;exact .tree (.ref rfl (FW.h0 (by simp)).ni λ_ h=>h)
  ·obtain ⟨⟨BD,ad,ay,a2,rfl⟩,_⟩:=(oE.h0 (by simp)).ni;have fG:cF.tmps[r]?=T[r]?:=by rw [qf r An,bf]
   have q8:∀ (w:World) (T:Array Value),eB w T ⟨r,[]⟩=T[r]?:=λw T=>by
    unfold eB; simp only; cases T[r]? <;> rfl
   exact .tree (.ref rfl ⟨⟨BD,ad,by rw [q8,fG,<- q8 w T]; exact ay,a2,rfl⟩,⟨.obj cs,by simp [b',j0,ag.at],0,0,cs,.inr rfl,hk⟩⟩ λ_ h=>h)
  ·have rp:∀ c,I c->w'.heap[c]?=w.heap[c]?:=λc ab=>cf.fF.block c (b6.lt c ab) λ⟨t',aR⟩=>r2.aF t' c aR ab;have FT:=(oE.h0 (by simp)).bL mE (ρ':=ew w' cF.tmps g1);have kY:∀ c,¬ Fs t c:=by
    cases oE.h0 (by simp) with
    | ref J=>simp [ag.isRef] at J
    | hS aT=>exact aT
    | aF aT=>exact aT
   exact .tree ((FT.frame rp cf.more (λ_ _ h=>h) λc ab=>absurd ab (kY c)).empty kY)
  ·have rp:∀ c,I c->w'.heap[c]?=w.heap[c]?:=λc ab=>cf.fF.block c (b6.lt c ab) λ⟨t',aR⟩=>r2.aF t' c aR ab;have kY:=vR.kH (oE.h0 (by simp));have FT:=(oE.h0 (by simp)).bL vR.bL (ρ':=ew w' cF.tmps g1);exact .tree ((FT.frame rp cf.more (λ_ _ h=>h) λc ab=>absurd ab (kY c)).empty kY)
 have nf:=eL.td (d:=t) (x:=x) (v:=v) (F:=cW) Sz (Array.getElem?_eq_some_iff.1 jc).1 jr (λ_ _ h=>h.elim) (λ_ h=>h.elim) (λz p n m new e=>absurd e (l8 _ _ _ _ _));rw [NF jc] at nf;refine ⟨dg,c5,I',_,nf,⟨cf.fF,cf.more,cf.new,λc ab=>?_⟩⟩;rcases u5 ab with aR | aR
 ·exact cf.own c aR
 ·exact aR.elim
theorem mu.frame {g0 Fz:aW}{r:Nat}{x:ag}(h:mu P N g0 o Fz) (aw:g r=some x) (J:dc x) (hk:fu g g0) (bd:g0 r=none) (h1:Fz r=none) (aU:o.dst≠some r):oZ P N (tj [r]) g o (e5 Fz r x):=by
 intro w I T Fs b6 a bf b5 K Q eK;have r2:=b6.mn.keep hk;refine h w I T _ r2 a bf b5 K Q λcF w' aP qf=>?_;obtain ⟨dg,c5,I',cz,eL,cf⟩:=aP;obtain ⟨u,hu,bl⟩:=b6.rel r x aw;have fN:cF.tmps[r]?=some u:=by rw [qf r aU,bf]; exact hu
 have l8:∀ z q n m new,x≠.b8 z q n m new:=by rintro z q n m new rfl; cases J
 have off:∀ c,Fs r c->¬ ∃ t,(g0 t≠none/\Fs t c):=by
  rintro c ab ⟨t,j4,al⟩;have:=b6.e_ t r c al ab;subst this;exact j4 bd
 have same:∀ c,Fs r c->w'.heap[c]?=w.heap[c]?:=λc ab=>cf.fF.block c (b6.j2 r c ab) (off c ab);have rp:∀ c,I c->w'.heap[c]?=w.heap[c]?:=λc ab=>cf.fF.block c (b6.lt c ab) λ⟨t,_,aR⟩=>b6.aF t c aR ab;have nf:=eL.td (d:=r) (x:=x) (v:=u) (F:=Fs r) h1 (Array.getElem?_eq_some_iff.1 fN).1 (.tree (((bl.h0 l8).bL J).frame rp cf.more (λ_ _ h=>h) same)) (λt c ab bn=>by
   rcases cf.own c ⟨t,bn⟩ with aR | aR
   ·exact off c ab aR
   ·have:=b6.j2 r c ab; omega) (λc ab hi=>by
   rcases cf.new c hi with aR | aR | aR
   ·exact b6.aF r c ab aR
   ·exact off c ab aR
   ·have:=b6.j2 r c ab; omega) (λz p n m new e=>absurd e (l8 _ _ _ _ _))
 rw [NF fN] at nf;refine eK cF w' ⟨dg,c5,I',_,nf,⟨cf.fF.mono λb _ ⟨t,_,aR⟩=>⟨t,aR⟩,cf.more,λc ab=>?_,λc ab=>?_⟩⟩ qf λe8 path eT y az hyp=>?_
 ·rcases cf.new c ab with aR | ⟨t,_,aR⟩ | aR
  ·exact .inl aR
  ·exact .inr (.inl ⟨t,aR⟩)
  ·exact .inr (.inr aR)
 ·rcases u5 ab with aR | aR
  ·rcases cf.own c aR with ⟨t,_,gJ⟩ | gJ
   ·exact .inl ⟨t,gJ⟩
   ·exact .inr gJ
  ·exact .inl ⟨r,aR⟩
 ·have eT:e8∈[r]:=eT;simp only [List.mem_singleton] at eT;subst eT;have hd:fu g (λt=>if t=e8 then some x else none):=by
   refine ⟨λt y jN=>?_,λt y jN=>?_,λt z q n m new jN=>?_⟩
   all_goals
    by_cases e:t=e8
    case neg=>simp [e] at jN
   ·subst e; simp at jN; subst jN; exact aw
   ·subst e; simp at jN; subst jN; exact .bL J
   ·subst e; simp at jN; exact l8 _ _ _ _ _ jN
  refine (b6.mn.keep hd).w8 (T':=cF.tmps) (λt aJ=>?_) (λt c ab=>?_) (p:=⟨e8,path⟩) (y:=y) ?_
  ·by_cases e:t=e8
   ·subst e; rw [qf t aU,bf]
   ·simp [e] at aJ
  ·by_cases e:t=e8
   ·subst e; exact same c ab.2
   ·simp [e] at ab
  ·simp only [b',if_true];simpa [b',aw] using az
end
end Go.Own
namespace Go.Own
open Go
abbrev Acc:=List (Nat × Nat × Option ag)
def ep (g0:aW) (A:Nat->Bool):Acc->aW
 | [],t=>g0 t
 | (k,d,r)::acc,t=>if d=t then (if A k then r else none) else ep g0 A acc t
def mT:Nat × Nat × Option ag->Option Place
 | (_,_,some (.b8 _ p _ _ _))=>some p
 | _=>none
def rJ (ops:Array Oper) (ch:List (List Nat)):Bool :=
 (List.range ops.size).all λk =>
  match ops[k]? with
  | none=>true
  | some o=>(o.after.all λe=>!Region.binds .any e||decide (e.on<k))&&(ch.getD k []).all λm=>decide (m<k)&&o.after.any λe=>Region.binds .any e&&(e.on == m||(ch.getD e.on []).contains m)
inductive iN (P:Program) (N:dK) (ops:Array Oper) (ch:List (List Nat)) (g0:aW) (i:Nat) (ey:Acc):Nat->Acc->Prop
 | nil:iN P N ops ch g0 i ey i ey
 | step {ae:Nat}{acc:Acc}{o:Oper}{d:Nat}{r:Option ag}(h:iN P N ops ch g0 i ey ae acc) (bh:ops[ae]?=some o) (aU:o.dst=some d) (ba:g0 d=none) (aP:∀ e∈acc,e.2.1≠d) (js:N.ok d=true)
   (aL:o5 P (ep g0 (λm=>(ch.getD ae []).contains m) acc) ops o r):iN P N ops ch g0 i ey (ae+1) ((ae,d,r)::acc)
structure mX (P:Program) (N:dK) (ops:Array Oper) (ch:List (List Nat)) (g0:aW) (i:Nat) (ey:Acc):Prop where
 lt:∀ e∈ey,e.1<i
 free:∀ e∈ey,g0 e.2.1=none
 nd:(ey.map (·.2.1)).Nodup
 N0:∀ e∈ey,∀ cU∈ey,(e.1=cU.1\/e.2.1=cU.2.1)->e=cU
 st:∀ e∈ey,∃ hL,ops[e.1]?=some hL/\hL.dst=some e.2.1/\N.ok e.2.1=true/\o5 P (ep g0 (λm=>(ch.getD e.1 []).contains m) ey) ops hL e.2.2
theorem mX.nil {P:Program}{N:dK}{ops:Array Oper}{ch:List (List Nat)}{g0:aW}{i:Nat}:mX P N ops ch g0 i []:=⟨by simp,by simp,by simp,by simp,by simp⟩
inductive rE (P:Program) (N:dK) (ops:Array Oper) (ch:List (List Nat)):Nat->Acc->aW->aW->Prop
 | fin {i:Nat}{ey:Acc}{g:aW}{acc:Acc}(aL:iN P N ops ch g i ey ops.size acc) (hZ:(acc.filterMap mT).Nodup) (jt:∀ t z q n m new,g t≠some (.b8 z q n m new)):rE P N ops ch i ey g (ep g (λ_=>true) acc)
 | zf {i ae:Nat}{g g1 g':aW}{ey acc U:Acc}{o:Oper}{rs:Place->Prop}(aL:iN P N ops ch g i ey ae acc) (hZ:(acc.filterMap mT).Nodup) (jt:∀ t z q n m new,g t≠some (.b8 z q n m new)) (bh:ops[ae]?=some o) (hw:iX (ep g (λm=>(ch.getD ae []).contains m) acc) ops o true)
   (he:oZ P N rs (ep g (λm=>(ch.getD ae []).contains m) acc) o g1) (lH:∀ p,rs p->g p.root≠none) (gU:U=acc.filter λe=>!(ch.getD ae []).contains e.1) (J:∀ e∈U,∃ x,e.2.2=some x/\zb rs (ep g (λm=>(ch.getD ae []).contains m) acc) g1 o x) (h1:∀ e∈U,g1 e.2.1=none/\o.dst≠some e.2.1)
   (al:∀ e∈U,∃ hL,ops[e.1]?=some hL/\hL.dst=some e.2.1/\N.ok e.2.1=true/\o5 P (ep g1 (λm=>(ch.getD e.1 []).contains m) U) ops hL e.2.2)
   (aK:(List.range ops.size).all (λk=>decide (k<=ae)||(ch.getD k []).contains ae)=true) (aw:rE P N ops ch (ae+1) U g1 g'):rE P N ops ch i ey g g'
theorem lz {g0:aW}{A:Nat->Bool}{acc:Acc}{t:Nat}(h:∀ e∈acc,e.2.1≠t):ep g0 A acc t=g0 t:=by
 induction acc with
 | nil=>rfl
 | cons e acc aS =>
  obtain ⟨k,d,r⟩:=e;simp only [ep];rw [if_neg (h (k,d,r) (by simp)),aS λe he=>h e (by simp [he])]
theorem tw {g0:aW}{A:Nat->Bool}{acc:Acc}{t:Nat}{x:ag}(h:ep g0 A acc t=some x):(∃ e∈acc,e.2.1=t/\A e.1=true/\e.2.2=some x)\/((∀ e∈acc,e.2.1≠t)/\g0 t=some x):=by
 induction acc with
 | nil=>exact .inr ⟨by simp,h⟩
 | cons e acc aS =>
  obtain ⟨k,d,r⟩:=e;simp only [ep] at h;by_cases aU:d=t
  ·rw [if_pos aU] at h;by_cases dA:A k=true
   ·rw [if_pos dA] at h; exact .inl ⟨(k,d,r),by simp,aU,dA,h⟩
   ·rw [if_neg dA] at h; cases h
  ·rw [if_neg aU] at h;rcases aS h with ⟨e,he,r⟩ | ⟨h1,al⟩
   ·exact .inl ⟨e,by simp [he],r⟩
   ·refine .inr ⟨λe he=>?_,al⟩;rcases List.mem_cons.1 he with rfl | he
    ·exact aU
    ·exact h1 e he
theorem ID {g:aW}{A:Nat->Bool}{acc:Acc}(hu:∀ e∈acc,∀ cU∈acc,e.2.1=cU.2.1->e=cU) {e:Nat × Nat × Option ag}(he:e∈acc):ep g A acc e.2.1=if A e.1 then e.2.2 else none:=by
 induction acc with
 | nil=>cases he
 | cons a acc aS =>
  obtain ⟨k,d,r⟩:=a;simp only [ep];by_cases aU:d=e.2.1
  ·have:=hu (k,d,r) (by simp) e he aU;subst this;simp
  ·rw [if_neg aU];rcases List.mem_cons.1 he with rfl | he
   ·exact absurd rfl aU
   ·exact aS (λx J y az=>hu x (by simp [J]) y (by simp [az])) he
section
variable {P:Program}{N:dK}{ops:Array Oper}{ch:List (List Nat)}{g0:aW}{i:Nat}
variable {ey:Acc}
theorem iN.le {ae:Nat}{acc:Acc}(h:iN P N ops ch g0 i ey ae acc) (gU:mX P N ops ch g0 i ey):i<=ae/\∀ e∈acc,e.1<ae:=by
 induction h with
 | nil=>exact ⟨Nat.le_refl _,gU.lt⟩
 | step _ _ _ _ _ _ _ aS =>
  refine ⟨by omega,λe he=>?_⟩;rcases List.mem_cons.1 he with rfl | he
  ·simp
  ·have:=aS.2 e he; omega
theorem iN.ge {ae:Nat}{acc:Acc}(h:iN P N ops ch g0 i ey ae acc) (gU:mX P N ops ch g0 i ey):∀ e∈acc,e∈ey\/i<=e.1:=by
 induction h with
 | nil=>exact λe he=>.inl he
 | step aL _ _ _ _ _ _ aS =>
  intro e he;rcases List.mem_cons.1 he with rfl | he
  ·exact .inr (aL.le gU).1
  ·exact aS e he
theorem iN.Iv {ae:Nat}{acc:Acc}(h:iN P N ops ch g0 i ey ae acc):∀ e∈ey,e∈acc:=by
 induction h with
 | nil=>exact λe he=>he
 | step _ _ _ _ _ _ _ aS=>exact λe he=>by simp [aS e he]
theorem iN.fresh {ae:Nat}{acc:Acc}(h:iN P N ops ch g0 i ey ae acc) (gU:mX P N ops ch g0 i ey):∀ e∈acc,g0 e.2.1=none:=by
 induction h with
 | nil=>exact gU.free
 | step _ _ _ ba _ _ _ aS =>
  intro e he;rcases List.mem_cons.1 he with rfl | he
  ·exact ba
  ·exact aS e he
theorem iN.nodup {ae:Nat}{acc:Acc}(h:iN P N ops ch g0 i ey ae acc) (gU:mX P N ops ch g0 i ey):(acc.map (·.2.1)).Nodup:=by
 induction h with
 | nil=>exact gU.nd
 | step _ _ _ _ aP _ _ aS =>
  refine List.nodup_cons.2 ⟨λhm=>?_,aS⟩;obtain ⟨e,he,h⟩:=List.mem_map.1 hm;exact aP e he h
theorem iN.uniq {ae:Nat}{acc:Acc}(h:iN P N ops ch g0 i ey ae acc) (gU:mX P N ops ch g0 i ey):∀ {e cU:Nat × Nat × Option ag},e∈acc->cU∈acc->(e.1=cU.1\/e.2.1=cU.2.1)->e=cU:=by
 induction h with
 | nil=>exact λ{e cU} he h9 ca=>gU.N0 e he cU h9 ca
 | @step ae acc o d r aL _ _ _ aP _ _ aS =>
  intro e cU he h9 ca;rcases List.mem_cons.1 he with rfl | he <;> rcases List.mem_cons.1 h9 with rfl | h9
  ·rfl
  ·rcases ca with ca | ca
   ·have:=(aL.le gU).2 cU h9; simp at ca; omega
   ·exact absurd ca.symm (aP cU h9)
  ·rcases ca with ca | ca
   ·have:=(aL.le gU).2 e he; simp at ca; omega
   ·exact absurd ca (aP e he)
  ·exact aS he h9 ca
theorem iN.at_mem {ae:Nat}{acc:Acc}(h:iN P N ops ch g0 i ey ae acc) (gU:mX P N ops ch g0 i ey) {A:Nat->Bool}{e:Nat × Nat × Option ag}(he:e∈acc):ep g0 A acc e.2.1=if A e.1 then e.2.2 else none :=
 ID (λ_ J _ az aR=>h.uniq gU J az (.inr aR)) he
theorem iN.get {ae:Nat}{acc:Acc}(h:iN P N ops ch g0 i ey ae acc) (gU:mX P N ops ch g0 i ey):∀ e∈acc,∃ o xA,ops[e.1]?=some o/\o.dst=some e.2.1/\N.ok e.2.1=true/\o5 P (ep g0 (λm=>(ch.getD e.1 []).contains m) xA) ops o e.2.2/\∀ e∈xA,e∈acc:=by
 induction h with
 | nil =>
  intro e he;obtain ⟨hL,h1,al,aQ,bW⟩:=gU.st e he;exact ⟨hL,ey,h1,al,aQ,bW,λ_ h=>h⟩
 | @step ae acc o d r aL bh aU ba aP js cf aS =>
  intro e he;rcases List.mem_cons.1 he with rfl | he
  ·exact ⟨o,acc,bh,aU,js,cf,λe he=>by simp [he]⟩
  ·obtain ⟨hL,xA,ay,a2,a3,a4,a5⟩:=aS e he;exact ⟨hL,xA,ay,a2,a3,a4,λe he=>by simp [a5 e he]⟩
theorem iN.has {ae:Nat}{acc:Acc}(h:iN P N ops ch g0 i ey ae acc):∀ k,i<=k->k<ae->∃ e∈acc,e.1=k:=by
 induction h with
 | nil=>intro k h1 al; omega
 | @step ae acc o d r aL bh aU ba aP js cf aS =>
  intro k h1 al;by_cases hk:k=ae
  ·exact ⟨_,List.mem_cons_self,hk.symm⟩
  ·obtain ⟨e,he,h⟩:=aS k h1 (by omega);exact ⟨e,by simp [he],h⟩
theorem UP {acc:Acc}(hZ:(acc.filterMap mT).Nodup) {e cU:Nat × Nat × Option ag}{p:Place}(he:e∈acc) (h9:cU∈acc) (h:mT e=some p) (aR:mT cU=some p):e=cU:=by
 induction acc with
 | nil=>simp at he
 | cons a acc aS =>
  have mem:∀ {x:Nat × Nat × Option ag},x∈acc->mT x=some p->p∈acc.filterMap mT:=λJ aG=>List.mem_filterMap.2 ⟨_,J,aG⟩;rcases List.mem_cons.1 he with rfl | Lv <;> rcases List.mem_cons.1 h9 with rfl | Lw
  ·rfl
  ·rw [List.filterMap_cons,h] at hZ;exact absurd (mem Lw aR) (List.nodup_cons.1 hZ).1
  ·rw [List.filterMap_cons,aR] at hZ;exact absurd (mem Lv h) (List.nodup_cons.1 hZ).1
  ·refine aS ?_ Lv Lw;rw [List.filterMap_cons] at hZ;cases aG:mT a with
   | none=>rw [aG] at hZ; exact hZ
   | some q=>rw [aG] at hZ; exact (List.nodup_cons.1 hZ).2
def e6 (listed:Array Bool) (k:Nat):Bool:=listed.getD k false
def hP (ops:Array Oper) (listed:Array Bool):Nat:=((List.range ops.size).filter λk=>!e6 listed k).length
theorem vo {listed:Array Bool}{k:Nat}(hk:k<ops.size) (ao:e6 listed k=false) (gr:listed.size=ops.size):hP ops (listed.setIfInBounds k true)+1<=hP ops listed:=by
 unfold hP;have key:∀ l:List Nat,l.Nodup->((l.filter λae=>!e6 (listed.setIfInBounds k true) ae).length+if k∈l then 1 else 0)=(l.filter λae=>!e6 listed ae).length:=by
  intro l
  induction l with
  | nil=>intro _; simp
  | cons ae l aS =>
   intro gg;have LR:=List.nodup_cons.1 gg;have Mh:=aS LR.2;by_cases eQ:ae=k
   ·subst eQ;have h1:e6 (listed.setIfInBounds ae true) ae=true:=by simp [e6,gr,hk]
    rw [List.filter_cons,List.filter_cons];simp only [h1,ao,Bool.not_true,Bool.not_false,if_true,if_false,Bool.false_eq_true,List.length_cons,List.mem_cons,true_or];rw [if_neg LR.1] at Mh;omega
   ·have h1:e6 (listed.setIfInBounds k true) ae=e6 listed ae:=by simp [e6,Array.getElem?_setIfInBounds_ne (Ne.symm eQ)]
    rw [List.filter_cons,List.filter_cons,h1];have lG:(k∈ae::l)↔k∈l:=by simp [Ne.symm eQ]
    by_cases aK:(!e6 listed ae)=true
    ·simp only [aK,if_true,List.length_cons,lG]; omega
    ·simp only [aK,lG]; simpa using Mh
 have:=key (List.range ops.size) List.nodup_range;rw [if_pos (List.mem_range.2 hk)] at this;omega
end
end Go.Own
namespace Go.Own
open Go
section
variable {P:Program}{N:dK}{ops:Array Oper}{ch:List (List Nat)}
def Down (ch:List (List Nat)) (listed:Array Bool):Prop:=∀ k,e6 listed k=true->∀ m∈ch.getD k [],e6 listed m=true
theorem Jn (h:rJ ops ch=true) {k:Nat}{o:Oper}(bh:ops[k]?=some o) :
  (∀ e∈o.after,Region.binds .any e=true->e.on<k)/\∀ m∈ch.getD k [],m<k/\∃ e∈o.after,Region.binds .any e=true/\(e.on=m\/m∈ch.getD e.on []):=by
 have hk:k<ops.size:=(Array.getElem?_eq_some_iff.1 bh).1;unfold rJ at h;have:=List.all_eq_true.1 h k (List.mem_range.2 hk);simp only [bh,Bool.and_eq_true] at this;obtain ⟨h1,al⟩:=this;constructor
 ·intro e he aK;have:=Array.all_eq_true_iff_forall_mem.1 h1 e he;simpa [aK] using this
 ·intro m hm;have:=List.all_eq_true.1 al m hm;simp only [Bool.and_eq_true,decide_eq_true_eq] at this;refine ⟨this.1,?_⟩;obtain ⟨ae,aa,aK⟩:=Array.any_eq_true.1 this.2;have he:=Array.getElem_mem aa;generalize o.after[ae]=e at aK he;simp only [Bool.and_eq_true,Bool.or_eq_true,beq_iff_eq,List.contains_iff_mem] at aK;exact ⟨e,he,aK.1,aK.2⟩
theorem wT {listed:Array Bool}{k:Nat}(h:k∈Region.ready .any ops listed):e6 listed k=false/\∃ o,ops[k]?=some o/\∀ e∈o.after,Region.binds .any e=true->e6 listed e.on=true:=by
 obtain ⟨h1,o,bh,al⟩:=mem_ready.1 h;refine ⟨?_,o,bh,al⟩;unfold e6;rcases Nat.lt_or_ge k listed.size with hk | hk
 ·simp [hk] at h1 ⊢; exact h1
 ·simp [Array.getElem?_eq_none hk] at h1
theorem H8 (dA:rJ ops ch=true) {listed:Array Bool}(aU:Down ch listed) {k:Nat}(h:k∈Region.ready .any ops listed):∀ m∈ch.getD k [],e6 listed m=true:=by
 obtain ⟨_,o,bh,al⟩:=wT h;intro m hm;obtain ⟨_,e,he,aK,aQ⟩:=(Jn dA bh).2 m hm;rcases aQ with rfl | aQ
 ·exact al e he aK
 ·exact aU e.on (al e he aK) m aQ
theorem Na (dA:rJ ops ch=true) {listed:Array Bool}(gr:listed.size=ops.size):∀ k,k<ops.size->e6 listed k=false->Region.ready .any ops listed≠[]:=by
 intro k
 induction k using Nat.strongRecOn with
 | _ k aS =>
  intro hk ao;by_cases hex:∃ ae,ae<k/\e6 listed ae=false
  ·obtain ⟨ae,aa,SM⟩:=hex;exact aS ae aa (by omega) SM
  ·have lG:k∈Region.ready .any ops listed:=by
    refine mem_ready.2 ⟨?_,ops[k],Array.getElem?_eq_getElem hk,λe he aK=>?_⟩
    ·unfold e6 at ao;simp [gr,hk] at ao ⊢; exact ao
    ·have a_:=(Jn dA (Array.getElem?_eq_getElem hk)).1 e he aK;cases hle:e6 listed e.on with
     | true=>exact hle
     | false=>exact absurd ⟨e.on,a_,hle⟩ hex
   intro e;rw [e] at lG;cases lG
theorem BE {g0:aW}{A B:Nat->Bool}{acc:Acc}{t:Nat}(h:∀ e∈acc,e.2.1=t->A e.1=B e.1):ep g0 A acc t=ep g0 B acc t:=by
 induction acc with
 | nil=>rfl
 | cons e acc aS =>
  obtain ⟨k,d,r⟩:=e;simp only [ep];by_cases aU:d=t
  ·rw [if_pos aU,if_pos aU,h (k,d,r) (by simp) aU]
  ·rw [if_neg aU,if_neg aU,aS λe he=>h e (by simp [he])]
theorem BX {listed:Array Bool}{k ae:Nat}(hk:k<listed.size):e6 (listed.setIfInBounds k true) ae=if ae=k then true else e6 listed ae:=by
 by_cases eQ:ae=k
 ·subst eQ; simp [e6,hk]
 ·rw [if_neg eQ]; simp [e6,Array.getElem?_setIfInBounds_ne (Ne.symm eQ)]
theorem VY {g0:aW}{i ae:Nat}{acc U ey:Acc}(aL:iN P N ops ch g0 i ey ae acc) (cT:mX P N ops ch g0 i ey) {A S:Nat->Bool}(gU:U=acc.filter λe=>!A e.1) (Rm:∀ e∈acc,A e.1=true->S e.1=true):ep g0 S acc=ep (ep g0 A acc) S U:=by
 subst gU;funext t;by_cases hex:∃ e∈acc,e.2.1=t
 ·obtain ⟨e,he,rfl⟩:=hex;rw [aL.at_mem cT he];by_cases dA:A e.1=true
  ·rw [lz,aL.at_mem cT he,if_pos dA,if_pos (Rm e he dA)];intro cU h9 h;obtain ⟨h1,al⟩:=List.mem_filter.1 h9;have:=aL.uniq cT h1 he (.inr h);subst this;simp [dA] at al
  ·rw [ID (λx J y az h=>aL.uniq cT (List.mem_filter.1 J).1 (List.mem_filter.1 az).1 (.inr h)) (List.mem_filter.2 ⟨he,by simpa using dA⟩)]
 ·rw [lz λe he h=>hex ⟨e,he,h⟩,lz λe he h=>hex ⟨e,(List.mem_filter.1 he).1,h⟩,lz λe he h=>hex ⟨e,he,h⟩]
theorem e3.mono {g g':aW}(ba:∀ t x,g t=some x->g' t=some x) {x:ag}(h:e3 g x):e3 g' x:=by
 induction h with
 | bL h=>exact .bL h
 | ref J h=>exact .ref J (h.mono ba)
 | own _ aS=>exact .own aS
 | obj _ aS=>exact .obj aS
 | agg _ aS=>exact .agg aS
 | cC _ aS=>exact .cC aS
 | et _ _ gx gq=>exact .et gx gq
 | b8 aG _ aS=>exact .b8 (aG.mono ba) aS
theorem Ku {mz g1:aW}{o:Oper}{S:Nat->Bool}{rs:Place->Prop}(h:oZ P N rs mz o g1) (lH:∀ p,rs p->mz p.root≠none):∀ (U:Acc),(∀ e∈U,∃ x,e.2.2=some x/\zb rs mz g1 o x)->(∀ e∈U,mz e.2.1=none/\g1 e.2.1=none/\o.dst≠some e.2.1)->(U.map (·.2.1)).Nodup->oZ P N rs (ep mz S U) o (ep g1 S U)
 | [],_,_,_=>h
 | (k,d,r)::U,J,h1,gg=>by
  simp only [List.map_cons,List.nodup_cons] at gg;have aS:=Ku (S:=S) h lH U (λe he=>J e (by simp [he])) (λe he=>h1 e (by simp [he])) gg.2;obtain ⟨x,e,cf⟩:=J (k,d,r) (by simp);simp only at e;subst e;obtain ⟨ay,a2,a3⟩:=h1 (k,d,some x) (by simp);simp only at ay a2 a3;have pw:∀ e∈U,e.2.1≠d:=λe he aR=>gg.1 (List.mem_map.2 ⟨e,he,aR⟩);cases b6:S k with
  | true =>
   have e:∀ g:aW,ep g S ((k,d,some x)::U)=e5 (ep g S U) d x:=λg=>by
    funext t;simp only [ep,e5,b6,if_true];by_cases aU:d=t
    ·rw [if_pos aU,if_pos aU.symm]
    ·rw [if_neg aU,if_neg (Ne.symm aU)]
   rw [e,e];have DK:∀ r,mz r≠none->∀ e∈U,e.2.1≠r:=λr aw e he aR=>by
    have:=(h1 e (by simp [he])).1;rw [aR] at this;exact aw this
   have Uz:∀ r,g1 r≠none->∀ e∈U,e.2.1≠r:=λr aw e he aR=>by
    have:=(h1 e (by simp [he])).2.1;rw [aR] at this;exact aw this
   refine aS.extra (λr aw=>by rw [lz (DK r.root (lH r aw))]; exact lH r aw) (by rw [lz pw]; exact ay) (by rw [lz pw]; exact a2) a3 ?_;rcases cf with ⟨r,path,z,n,tG,cs,rfl,hN,iu,lk,Cd⟩ | ⟨v,rfl⟩ | ⟨s,p,m,rfl,hN,iu,lk⟩ | ⟨s,m,cs,rfl,hN,iu,lk,cs',Cd,O4⟩ | ⟨z,n,cs,rfl,hN⟩ | ⟨cs,rfl,hN,iu⟩
   ·refine .inl ⟨r,path,z,n,tG,cs,rfl,hN,?_,?_,Cd⟩
    ·have:mz r≠none:=lH _ hN;simpa [b',lz (DK r this)] using iu
    ·have:g1 r≠none:=λe=>by simp [b',e] at lk
     simpa [b',lz (Uz r this)] using lk
   ·exact .inr (.inl ⟨v,rfl⟩)
   ·refine .inr (.inr (.inl ⟨s,p,m,rfl,?_,?_,lk⟩))
    ·rw [lz]; exact hN;intro e he aR;have:=(h1 e (by simp [he])).1;rw [aR,hN] at this; cases this
    ·rw [lz]; exact iu;intro e he aR;have:=(h1 e (by simp [he])).2.1;rw [aR,iu] at this; cases this
   ·refine .inr (.inr (.inr (.inl ⟨s,m,cs,rfl,?_,iu,lk,cs',?_,O4⟩)))
    ·rw [lz]; exact hN;intro e he aR;have:=(h1 e (by simp [he])).2.1;rw [aR,hN] at this; cases this
    ·rw [lz (DK s (by rw [Cd]; simp))]; exact Cd
   ·exact .inr (.inr (.inr (.inr (.inl ⟨z,n,cs,rfl,hN⟩))))
   ·refine .inr (.inr (.inr (.inr (.inr ⟨cs,rfl,hN,?_⟩))));have hle:∀ t y,mz t=some y->ep mz S U t=some y:=λt y az=>by rw [lz (DK t (by rw [az]; simp))]; exact az
    refine ⟨λt y az=>?_,λt z q n m new az=>?_⟩
    ·rcases tw az with ⟨cU,h9,_,_,Gh⟩ | ⟨_,az⟩
     ·obtain ⟨y',zx,Av⟩:=J cU (by simp [h9]);rw [Gh] at zx; cases zx;rcases Av with ⟨r,path,z,n,tG,cs,rfl,c1,c2,mw,c4⟩ | ⟨v,rfl⟩ | ⟨s,p,m,rfl,c1,_⟩ | ⟨s,m,cs,rfl,_,_,_,cs',c4,kA⟩ | ⟨z,n,cs,rfl,c1⟩ | ⟨cs,rfl,c1,_⟩
      ·exact .ref rfl (.inl ⟨tG,cs,kz hle c2,c4⟩)
      ·exact .bL .lit
      ·exact e3.mono hle (iu.bq s _ c1)
      ·exact .ref rfl ⟨.obj cs',by simp [b',hle s _ c4,ag.at],0,0,cs',.inr rfl,kA⟩
      ·exact .bL c1
      ·exact .bL c1.bL
     ·exact e3.mono hle (iu.bq t y az)
    ·rcases tw az with ⟨cU,h9,_,_,Gh⟩ | ⟨_,az⟩
     ·obtain ⟨y',zx,Av⟩:=J cU (by simp [h9]);rw [Gh] at zx; cases zx;rcases Av with ⟨r,path,z,n,tG,cs,h,_⟩ | ⟨v,h⟩ | ⟨s,p,m,h,_⟩ | ⟨s,m,cs,h,_⟩ | ⟨z,n,cs,h,_⟩ | ⟨cs,h,_⟩ <;> cases h
     ·exact iu.fT _ _ _ _ _ _ az
  | false =>
   have e:∀ g:aW,g d=none->ep g S ((k,d,some x)::U)=ep g S U:=λg ba=>by
    funext t;simp only [ep,b6];by_cases aU:d=t
    ·subst aU; rw [if_pos rfl,lz pw,ba]; rfl
    ·rw [if_neg aU]
   rw [e mz ay,e g1 a2];exact aS
theorem M_ (dA:rJ ops ch=true) {g0:aW}{i ae:Nat}{acc ey:Acc}(aL:iN P N ops ch g0 i ey ae acc) (cT:mX P N ops ch g0 i ey) (hZ:(acc.filterMap mT).Nodup) (jt:∀ t z q n m new,g0 t≠some (.b8 z q n m new)) {listed:Array Bool}(gr:listed.size=ops.size) (aU:Down ch listed)
  {a:Act}{w:World}{I:bz}{Fs:Nat->bz}(b6:c7 w I a.tmps (ep g0 (e6 listed) acc) Fs) (b5:a.tmps.size=N.size) {e:Nat × Nat × Option ag}(he:e∈acc) (hk:e.1∈Region.ready .any ops listed) {K:Act->World->Prop}{Q:Exit->Act->World->Prop}
  (eK:∀ cF w' I' cz,cF.defers=a.defers->hW N a.tmps cF.tmps->c7 w' I' cF.tmps (ep g0 (e6 (listed.setIfInBounds e.1 true)) acc) cz->kR w I (λc=>∃ t,Fs t c) w' I' (λc=>∃ t,cz t c)->K cF w'):wpOp P ops Q e.1 K a w:=by
 obtain ⟨dW,k8,vQ,_⟩:=wT hk;have uu:=(Array.getElem?_eq_some_iff.1 vQ).1;have ue:=H8 dA aU hk;obtain ⟨o,xA,bh,x7,js,cf,gO⟩:=aL.get cT e he;obtain ⟨k,d,r⟩:=e;simp only at *;have hle:nM (ep g0 (λm=>(ch.getD k []).contains m) xA) (ep g0 (e6 listed) acc):=by
  intro t x J;rcases tw J with ⟨e,he,rfl,xU,hex⟩ | ⟨pw,ba⟩
  ·rw [aL.at_mem cT (gO e he),ue e.1 (by simpa using xU)];exact hex
  ·rw [lz λe he Sv=>?_]
   ·exact ba
   ·have:=aL.fresh cT e he;rw [Sv,ba] at this; cases this
 have ht:∀ z p n m new,r=some (.b8 z p n m new)->∀ t cK cY bS di,ep g0 (e6 listed) acc t≠some (.b8 cK p cY bS di):=by
  intro z p n m new aw t cK cY bS di aJ;rcases tw aJ with ⟨e,h9,_,xU,hex⟩ | ⟨_,ba⟩
  ·obtain ⟨lv,Cw,e8⟩:=e;have:=UP hZ (p:=p) he h9 (by rw [aw]; rfl) (by simp only at hex; rw [hex]; rfl);cases this;rw [dW] at xU; cases xU
  ·exact jt _ _ _ _ _ _ ba
 have Av:=cf.mono hle ht;have um:ep g0 (e6 listed) acc d=none:=by
  have:=aL.at_mem cT (A:=e6 listed) he;simpa [dW] using this
 unfold wpOp;simp only [bh];refine Av.sound b6 rfl b5 x7 um js λcF w' aP=>?_;obtain ⟨dg,c5,I',cz,eL,ny⟩:=aP;have jO:∀ ae,e6 (listed.setIfInBounds k true) ae=if ae=k then true else e6 listed ae:=λae=>BX (by omega)
 have eu:ep g0 (e6 (listed.setIfInBounds k true)) acc=wS (ep g0 (e6 listed) acc) d r:=by
  funext t;by_cases s4:t=d
  ·subst s4;have h1:=aL.at_mem cT (A:=e6 (listed.setIfInBounds k true)) he;simp only [jO k,if_true] at h1;rw [h1];cases r with
   | none=>simp only [wS]; exact um.symm
   | some x=>simp [wS,e5]
  ·have h1:ep g0 (e6 (listed.setIfInBounds k true)) acc t=ep g0 (e6 listed) acc t:=BE λe h9 het=>by
    rw [jO e.1,if_neg];intro Gg;have:=aL.uniq cT h9 he (.inl Gg);rw [this] at het;exact s4 het.symm
   rw [h1];cases r with
   | none=>rfl
   | some x=>simp [wS,e5,s4]
 exact eK cF w' I' cz dg c5 (by rw [eu]; exact eL) ny
theorem Fe (dA:rJ ops ch=true) {listed:Array Bool}(gr:listed.size=ops.size) (aU:Down ch listed) {k:Nat}(hk:k∈Region.ready .any ops listed):Down ch (listed.setIfInBounds k true):=by
 obtain ⟨dW,k8,vQ,_⟩:=wT hk;have uu:=(Array.getElem?_eq_some_iff.1 vQ).1;have ue:=H8 dA aU hk;have jO:∀ q,e6 (listed.setIfInBounds k true) q=if q=k then true else e6 listed q:=λq=>BX (by omega)
 intro m hm q bR;rw [jO] at hm ⊢;split
 ·rfl
 ·split at hm
  ·rename_i LP; subst LP; exact ue q bR
  ·exact aU m hm q bR
theorem iN.entry {g0:aW}{i ae:Nat}{acc ey:Acc}(aL:iN P N ops ch g0 i ey ae acc) {listed:Array Bool}(a_:∀ k,k<i->(∀ e∈ey,e.1≠k)->e6 listed k=true) {k:Nat}(Ad:k<ae) (dW:e6 listed k=false):∃ e∈acc,e.1=k:=by
 rcases Nat.lt_or_ge k i with h | h
 ·rcases Classical.em (∃ e∈ey,e.1=k) with ⟨e,he,aR⟩ | aR
  ·exact ⟨e,aL.Iv e he,aR⟩
  ·have:=a_ k h λe he Gg=>aR ⟨e,he,Gg⟩;rw [dW] at this; cases this
 ·exact aL.has k h Ad
theorem rE.sound (dA:rJ ops ch=true) {i:Nat}{ey:Acc}{g g':aW}(h:rE P N ops ch i ey g g'):mX P N ops ch g i ey->∀ {Q:Exit->Act->World->Prop}(fuel:Nat) (listed:Array Bool) (a:Act) (w:World) (I:bz) (Fs:Nat->bz),hP ops listed<=fuel->listed.size=ops.size->(∀ k,k<i->(∀ e∈ey,e.1≠k)->e6 listed k=true)->(∀ k,i<=k->e6 listed k=false)->Down ch listed ->
  c7 w I a.tmps (ep g (e6 listed) ey) Fs->a.tmps.size=N.size->(∀ cF w',ig N a w I Fs g' cF w'->Q .normal cF w')->wpAny P .any ops Q fuel listed a w:=by
 have start:∀ {g:aW}{i ae:Nat}{acc ey:Acc}{listed:Array Bool},iN P N ops ch g i ey ae acc->mX P N ops ch g i ey->(∀ k,i<=k->e6 listed k=false)->ep g (e6 listed) acc=ep g (e6 listed) ey:=by
  intro g i ae acc ey listed aL cT ec;funext t;by_cases hex:∃ e∈acc,e.2.1=t
  ·obtain ⟨e,he,rfl⟩:=hex;rw [aL.at_mem cT he];rcases aL.ge cT e he with h | h
   ·rw [ID (λx J y az aR=>cT.N0 x J y az (.inr aR)) h]
   ·rw [ec e.1 h];by_cases Lx:∃ cU∈ey,cU.2.1=e.2.1
    ·obtain ⟨cU,h9,aR⟩:=Lx;have:=aL.uniq cT (aL.Iv cU h9) he (.inr aR);subst this;have:=cT.lt cU h9; omega
    ·rw [lz λcU h9 aR=>Lx ⟨cU,h9,aR⟩,aL.fresh cT e he]; rfl
  ·rw [lz λe he h=>hex ⟨e,he,h⟩,lz λe he h=>hex ⟨e,aL.Iv e he,h⟩]
 induction h with
 | @fin i ey g acc aL hZ jt =>
  intro cT Q fuel listed a w I Fs ab gr a_ ec aU b6 b5 dY;rw [<- start aL cT ec] at b6;clear ec;revert listed a w I Fs
  induction fuel with
  | zero =>
   intro listed a w I Fs ab gr a_ aU b6 b5 dY;have gV:∀ k,k<ops.size->e6 listed k=true:=λk hk=>by
    cases ao:e6 listed k with
    | true=>rfl
    | false=>have:=vo (ops:=ops) (listed:=listed) (k:=k) hk ao gr; omega
   refine wpAny_done ?_ (dY _ _ ⟨rfl,hW.refl,I,Fs,?_,kR.refl _ _ _⟩) 0
   ·cases aw:Region.ready .any ops listed with
    | nil=>rfl
    | cons k l =>
     have hk:k∈Region.ready .any ops listed:=by rw [aw]; simp
     obtain ⟨dW,o,bh,_⟩:=wT hk;rw [gV k (Array.getElem?_eq_some_iff.1 bh).1] at dW; cases dW
   ·have:ep g (e6 listed) acc=ep g (λ_=>true) acc:=funext λt=>BE λe he _=>gV e.1 ((aL.le cT).2 e he);rw [<- this]; exact b6
  | succ fuel aS =>
   intro listed a w I Fs ab gr a_ aU b6 b5 dY;by_cases gV:∀ k,k<ops.size->e6 listed k=true
   ·refine wpAny_done ?_ (dY _ _ ⟨rfl,hW.refl,I,Fs,?_,kR.refl _ _ _⟩) _
    ·cases aw:Region.ready .any ops listed with
     | nil=>rfl
     | cons k l =>
      have hk:k∈Region.ready .any ops listed:=by rw [aw]; simp
      obtain ⟨dW,o,bh,_⟩:=wT hk;rw [gV k (Array.getElem?_eq_some_iff.1 bh).1] at dW; cases dW
    ·have:ep g (e6 listed) acc=ep g (λ_=>true) acc:=funext λt=>BE λe he _=>gV e.1 ((aL.le cT).2 e he);rw [<- this]; exact b6
   ·obtain ⟨k0,x1⟩:=Classical.not_forall.1 gV;obtain ⟨SG,SH⟩:=Classical.not_imp.1 x1;refine ⟨λaw=>absurd aw (Na dA gr k0 SG (by simpa using SH)),λk hk=>?_⟩;obtain ⟨dW,k8,vQ,_⟩:=wT hk;have uu:=(Array.getElem?_eq_some_iff.1 vQ).1;obtain ⟨e,he,rfl⟩:=aL.entry a_ uu dW;have Sm:=vo (ops:=ops) (listed:=listed) (k:=e.1) uu dW gr;refine M_ dA aL cT hZ jt gr aU b6 b5 he hk λcF w' I' cz dg c5 eL ny=>?_;refine aS _ cF w' I' cz (by omega) (by simpa using gr) (λm hm ek=>?_) (Fe dA gr aU hk) eL (c5.1.trans b5) λa2 ir al=>dY _ _ (ig.trans dg c5 ny al);rw [BX (by omega)]; split
    ·rfl
    ·exact a_ m hm ek
 | @zf i ae g g1 g' ey acc U o rs aL hZ jt bh hw he lH gU J h1 al aK _ TV =>
  intro cT Q fuel listed a w I Fs ab gr a_ ec aU b6 b5 dY;have x0:ae<ops.size:=(Array.getElem?_eq_some_iff.1 bh).1;have CW:∀ k,ae<k->k<ops.size->ae∈ch.getD k []:=λk hk uu=>by
   have:=List.all_eq_true.1 aK k (List.mem_range.2 uu);simp only [Bool.or_eq_true,decide_eq_true_eq,List.contains_iff_mem] at this;exact this.resolve_left (by omega)
  have x5:∀ e∈U,e∈acc/\(ch.getD ae []).contains e.1=false:=λe he=>by
   rw [gU] at he;obtain ⟨j4,DT⟩:=List.mem_filter.1 he;exact ⟨j4,by simpa using DT⟩
  have gg:(U.map (·.2.1)).Nodup:=by
   rw [gU]; exact (List.filter_sublist.map _).nodup (aL.nodup cT)
  have SA:∀ e∈U,ep g (λm=>(ch.getD ae []).contains m) acc e.2.1=none:=λe he=>by
   rw [aL.at_mem cT (x5 e he).1,(x5 e he).2]; rfl
  have FN:mX P N ops ch g1 (ae+1) U:=⟨λe he=>by have:=(aL.le cT).2 e (x5 e he).1; omega,λe he=>(h1 e he).1,gg,λe he cU h9 h=>aL.uniq cT (x5 e he).1 (x5 cU h9).1 h,al⟩;have WV:∀ k,ae<=k->e6 listed k=false:=λk hk=>ec k (Nat.le_trans (aL.le cT).1 hk);rw [<- start aL cT ec] at b6;clear ec;revert listed a w I Fs
  induction fuel with
  | zero =>
   intro listed a w I Fs ab gr a_ aU b6 b5 dY ec;have:=vo (ops:=ops) (listed:=listed) (k:=ae) x0 (ec ae (Nat.le_refl _)) gr;omega
  | succ fuel TU =>
   intro listed a w I Fs ab gr a_ aU b6 b5 dY ec;have fj:=ec ae (Nat.le_refl _);refine ⟨λaw=>absurd aw (Na dA gr ae x0 fj),λk hk=>?_⟩;obtain ⟨dW,k8,vQ,_⟩:=wT hk;have uu:=(Array.getElem?_eq_some_iff.1 vQ).1;have ue:=H8 dA aU hk;have jO:∀ q,e6 (listed.setIfInBounds k true) q=if q=k then true else e6 listed q:=λq=>BX (by omega)
   have Sm:=vo (ops:=ops) (listed:=listed) (k:=k) (by omega) dW gr;rcases Nat.lt_trichotomy k ae with Ad | rfl | Ad
   ·obtain ⟨e,Gf,rfl⟩:=aL.entry a_ Ad dW;refine M_ dA aL cT hZ jt gr aU b6 b5 Gf hk λcF w' I' cz dg c5 eL ny=>?_;refine TU _ cF w' I' cz (by omega) (by simpa using gr) (λm hm ek=>?_) (Fe dA gr aU hk) eL (c5.1.trans b5) (λa2 ir al=>dY _ _ (ig.trans dg c5 ny al)) λm hm=>?_
    ·rw [jO]; split
     ·rfl
     ·exact a_ m hm ek
    ·rw [jO,if_neg (by omega)]; exact ec m hm
   ·have QP:=VY (A:=λm=>(ch.getD k []).contains m) (S:=e6 listed) aL cT gU λe he dA=>ue e.1 (by simpa using dA);have S5:∀ r:Place,rs r->ep g (λm=>(ch.getD k []).contains m) acc r.root≠none:=λr aw=>by
     rw [lz]
     ·exact lH r aw
     ·intro e he aR;have:=aL.fresh cT e he;rw [aR] at this;exact lH r aw this
    have Sw:=Ku (S:=e6 listed) he S5 U J (λe he=>⟨SA e he,h1 e he⟩) gg;have hle:nM (ep g (λm=>(ch.getD k []).contains m) acc) (ep g (e6 listed) acc):=by
     intro t x J;rcases tw J with ⟨e,he,rfl,xU,hex⟩ | ⟨pw,ba⟩
     ·rw [aL.at_mem cT he,ue e.1 (by simpa using xU)]; exact hex
     ·rw [lz pw]; exact ba
    unfold wpOp;simp only [bh,(iX.mono hle hw).sound b6,if_true];refine .inl (Sw w I a.tmps Fs (by rw [<- QP]; exact b6) a rfl b5 _ _ λcF w' aP _ _=>?_);obtain ⟨dg,c5,I',cz,eL,ny⟩:=aP;refine TV FN fuel (listed.setIfInBounds k true) cF w' I' cz (by omega) (by simpa using gr) (λm hm ek=>?_) (λm hm=>?_) (Fe dA gr aU hk) ?_ (c5.1.trans b5) λa2 ir al=>dY _ _ (ig.trans dg c5 ny al)
    ·rw [jO];split
     ·rfl
     ·rename_i LP;cases ux:e6 listed m with
      | true=>rfl
      | false =>
       exfalso;obtain ⟨e,Gf,rfl⟩:=aL.entry a_ (show m<k by omega) ux;by_cases LO:e.1∈ch.getD k []
       ·rw [ue e.1 LO] at ux; cases ux
       ·exact ek e (by rw [gU]; exact List.mem_filter.2 ⟨Gf,by simpa using LO⟩) rfl
    ·rw [jO,if_neg (by omega)]; exact ec m (by omega)
    ·have:ep g1 (e6 (listed.setIfInBounds k true)) U=ep g1 (e6 listed) U:=funext λt=>BE λe he _=>by
      rw [jO e.1,if_neg];have:=(aL.le cT).2 e (x5 e he).1;omega
     rw [this]; exact eL
   ·have:=ue ae (CW k Ad uu); rw [fj] at this; cases this
end
end Go.Own
namespace Go.Own
open Go
section
variable {P:Program}{N:dK}
def gI (P:Program) (N:dK) (c:Code) (g:aW) (e:Exit) (g':aW):Prop :=
 ∀ ⦃Q:Exit->Act->World->Prop⦄ ⦃a:Act⦄ ⦃w:World⦄ ⦃I:bz⦄ ⦃Fs:Nat->bz⦄,c7 w I a.tmps g Fs->a.tmps.size=N.size->(∀ cF w',ig N a w I Fs g' cF w'->Q e cF w')->c.wp P Q a w
theorem gI.skip {g:aW}:gI P N .skip g .normal g:=λ_ _ _ _ _ b6 _ dY=>wp_skip (dY _ _ ⟨rfl,hW.refl,_,_,b6,kR.refl _ _ _⟩)
theorem gI.ret {g:aW}:gI P N .ret g .ret g:=λ_ _ _ _ _ b6 _ dY=>wp_ret (dY _ _ ⟨rfl,hW.refl,_,_,b6,kR.refl _ _ _⟩)
theorem gI.exit {g:aW}{id:Nat}:gI P N (.exit id) g (.exit id) g:=λ_ _ _ _ _ b6 _ dY=>wp_exit (dY _ _ ⟨rfl,hW.refl,_,_,b6,kR.refl _ _ _⟩)
theorem gI.seq {x y:Code}{g g1 g':aW}{e:Exit}(h1:gI P N x g .normal g1) (al:gI P N y g1 e g'):gI P N (.seq x y) g e g':=by
 intro Q a w I Fs b6 b5 dY;refine wp_seq (h1 b6 b5 λay jD aP=>?_);obtain ⟨dg,c5,I',cz,eL,cf⟩:=aP;exact al eL (c5.1.trans b5) λa2 ir oF=>dY _ _ (ig.trans dg c5 cf oF)
theorem gI.cond {c:Operand}{x y:Code}{g g':aW}{e:Exit}{b:Bool}(ab:bT g c=some (.lit (.bool b))) (h:gI P N (if b then x else y) g e g'):gI P N (.cond c x y) g e g':=by
 intro Q a w I Fs b6 b5 dY;exact wp_cond (t:=b) (k9 b6 ab rfl).il.1 (h b6 b5 dY)
theorem gI.Kl {c:Operand}{x y:Code}{g g':aW}{e:Exit}(ab:bT g c=some (.lit (.bool true))) (h:gI P N x g e g'):gI P N (.cond c x y) g e g':=gI.cond ab h
theorem gI.E' {c:Operand}{x y:Code}{g g':aW}{e:Exit}(ab:bT g c=some (.lit (.bool false))) (h:gI P N y g e g'):gI P N (.cond c x y) g e g':=gI.cond ab h
theorem gI.block {id:Nat}{c:Code}{g g':aW}(h:gI P N c g .normal g'):gI P N (.block id c) g .normal g' :=
 λ_ _ _ _ _ b6 b5 dY=>wp_block (h b6 b5 λay jD aP=>dY ay jD aP)
def BW (P:Program) (c:Code) (Q:Exit->Act->World->Prop) (a:Act) (w:World):Prop :=
 ∀ (b:Frame) (k:List Item) (cs:List Frame),∃ e cF w',Q e cF w'/\Arrives P (lone (b.at a (.code c::.inLoop c::k)) cs w) b k cs e cF w'
def sn (P:Program) (N:dK) (c:Code) (g:aW) (e:Exit) (g':aW):Prop :=
 ∀ ⦃Q:Exit->Act->World->Prop⦄ ⦃a:Act⦄ ⦃w:World⦄ ⦃I:bz⦄ ⦃Fs:Nat->bz⦄,c7 w I a.tmps g Fs->a.tmps.size=N.size->(∀ cF w',ig N a w I Fs g' cF w'->Q e cF w')->BW P c Q a w
theorem HC {c:Code}{Q:Exit->Act->World->Prop}{a:Act}{w:World}(h:c.wp P (Exit.then (BW P c Q) Q) a w):BW P c Q a w:=by
 intro b k cs;obtain ⟨e,ze,BI,bR,ln⟩:=h b (.inLoop c::k) cs;cases e with
 | normal =>
  obtain ⟨QQ,O3,V5,S1,RV⟩:=bR b k cs;exact ⟨QQ,O3,V5,S1,.of_steps (Steps.trans ln (.one step_inLoop)) RV⟩
 | exit id=>exact ⟨_,ze,BI,bR,.pass (x:=.inLoop c) rfl (λ_ _=>.inl (by simp)) ln⟩
 | goto l=>exact ⟨_,ze,BI,bR,.pass (x:=.inLoop c) rfl (λ_ _=>.inl (by simp)) ln⟩
 | ret=>exact ⟨_,ze,BI,bR,.pass (x:=.inLoop c) rfl (λ_ _=>.inl (by simp)) ln⟩
 | panic bF=>exact ⟨_,ze,BI,bR,.pass (x:=.inLoop c) rfl (λ_ _=>.inl (by simp)) ln⟩
 | outgrown=>exact ⟨_,ze,BI,bR,.pass (x:=.inLoop c) rfl (λ_ _=>.inl (by simp)) ln⟩
theorem gI.loop {c:Code}{g g':aW}{e:Exit}(h:sn P N c g e g'):gI P N (.loop c) g e g':=by
 intro Q a w I Fs b6 b5 dY b k cs;obtain ⟨e,cF,w',bR,ln⟩:=h b6 b5 dY b k cs;exact ⟨e,cF,w',bR,.of_steps (.one step_loop) ln⟩
theorem sn.step {c:Code}{g g1 g':aW}{e:Exit}(h1:gI P N c g .normal g1) (al:sn P N c g1 e g'):sn P N c g e g':=by
 intro Q a w I Fs b6 b5 dY;refine HC (h1 b6 b5 λay jD aP=>?_);obtain ⟨dg,c5,I',cz,eL,cf⟩:=aP;exact al eL (c5.1.trans b5) λa2 ir oF=>dY _ _ (ig.trans dg c5 cf oF)
theorem sn.out {c:Code}{g g':aW}{e:Exit}(h:gI P N c g e g') (he:e≠.normal):sn P N c g e g':=by
 intro Q a w I Fs b6 b5 dY;refine HC (h b6 b5 λay jD aP=>?_);cases e with
 | normal=>exact absurd rfl he
 | _=>exact dY _ _ aP
theorem gI.region {id:Nat}{ops:Array Oper}{g g':aW}(h:nO P N ops (List.range ops.size) g g'):gI P N (.region id ops false) g .normal g' :=
 λ_ _ _ _ _ b6 b5 dY=>wp_region (h.sound b6 b5 dY)
theorem gI.draw {id:Nat}{ops:Array Oper}{ch:List (List Nat)}{g g':aW}(hm:P.follows .mixedOrders=true) (dA:rJ ops ch=true) (h:rE P N ops ch 0 [] g g'):gI P N (.region id ops true) g .normal g':=by
 intro Q a w I Fs b6 b5 dY;refine wp_region_any hm ?_;have eL:c7 w.drew I a.tmps g Fs:=b6.world (λ_ _ _=>rfl) (λ_ _=>rfl) (Nat.le_refl _);have gV:∀ k,e6 (Array.replicate ops.size false) k=false:=by
  intro k;unfold e6;rcases Nat.lt_or_ge k ops.size with h | h
  ·simp [h]
  ·simp [Array.getElem?_eq_none (show (Array.replicate ops.size false).size<=k by simpa using h)]
 refine h.sound dA .nil ops.size (Array.replicate ops.size false) a w.drew I Fs ?_ (by simp) (λk hk=>by omega) (λk _=>gV k) (λk hk=>by rw [gV] at hk; cases hk) eL b5 λcF w' aP=>dY _ _ ?_
 ·unfold hP;exact Nat.le_trans (List.length_filter_le _ _) (by simp)
 ·obtain ⟨dg,c5,I',cz,ih,cf⟩:=aP;exact ⟨dg,c5,I',cz,ih,⟨⟨cf.fF.os,cf.fF.tape,cf.fF.output,cf.fF.size,cf.fF.block,cf.fF.fM,Nat.le_trans (Nat.le_succ _) cf.fF.xN⟩,cf.more,cf.new,cf.own⟩⟩
inductive ow:ag->ag->Prop
 | refl {x:ag}:ow x x
 | dead {x:ag}(h:kx x\/dc x):ow x .dead
 | pJ {z:Nat}:ow .aN (.own z 0 [])
 | yn {z:Nat}:ow .aN (.aF z 0 [])
 | obj {cs cs':List ag}(ao:cs'.length=cs.length) (h:∀ (k:Nat) (x y:ag),cs[k]?=some x->cs'[k]?=some y->ow x y):ow (.obj cs) (.obj cs')
 | own {z n:Nat}{cs cs':List ag}(ao:cs'.length=cs.length) (h:∀ (k:Nat) (x y:ag),cs[k]?=some x->cs'[k]?=some y->ow x y):ow (.own z n cs) (.own z n cs')
theorem R.gd {w:World}{I:bz}{ρ:ag->Value->Prop}{x x':ag}(h:ow x x'):∀ {v:Value}{F:bz},R w I ρ x v F->∃ f',R w I ρ x' v f'/\∀ c,f' c->F c:=by
 induction h with
 | refl=>exact λbl=>⟨_,bl,λ_ h=>h⟩
 | dead=>exact λbl=>⟨cW,.dead λ_ h=>h,λ_ h=>h.elim⟩
 | pJ =>
  intro v F bl;rw [bl.rf];exact ⟨cW,.own (e:=0) (us:=[]) (Fs:=λ_=>cW) ⟨by simp,.inl ⟨rfl,rfl⟩⟩ rfl (by simp) (by simp) (λ_ _ _ _ _ h=>h.elim) (λ_ _ _ h=>h.elim) λc=>⟨λh=>h.elim,λh=>h.elim (λh=>by simp [Value.ownBlock] at h) λ⟨_,_,h⟩=>h⟩,λ_ h=>h.elim⟩
 | yn=>intro v F bl; rw [bl.rf]; exact ⟨cW,.hS λ_ h=>h,λ_ h=>h.elim⟩
 | @obj cs cs' ao _ aS =>
  intro v F bl;cases bl with
  | ref J=>simp [ag.isRef] at J
  | @obj _ b e arr b3 _ bh h_ h1 aw aU aK aT =>
   have:∀ k,∃ sq:bz,k<cs.length->(∀ (x:ag) (u:Value),cs'[k]?=some x->arr[k]?=some u->R w I ρ x u sq)/\∀ c,sq c->b3 k c:=by
    intro k;by_cases hk:k<cs.length
    ·have J:=List.getElem?_eq_getElem hk;have az:cs'[k]?=some (cs'[k]'(by omega)):=List.getElem?_eq_getElem (by omega);have hu:arr[k]?=some (arr[k]'(by omega)):=Array.getElem?_eq_getElem (by omega);obtain ⟨f',h1,al⟩:=aS k _ _ J az (aw k _ _ J hu);refine ⟨f',λ_=>⟨λx u gw fN=>?_,al⟩⟩;rw [az] at gw; rw [hu] at fN;cases gw; cases fN;exact h1
    ·exact ⟨cW,λh=>absurd h hk⟩
   obtain ⟨sq,qV⟩:=Classical.axiomOfChoice this;refine ⟨_,.obj (Fs:=sq) bh (by omega) h1 (λk x u J hu=>(qV k (by rw [<- ao]; exact (List.getElem?_eq_some_iff.1 J).1)).1 x u J hu) (λae k c aa hk h aR=>aU ae k c (by omega) (by omega) ((qV ae (by omega)).2 c h) ((qV k (by omega)).2 c aR)) (λk hk h=>aK k (by omega) ((qV k (by omega)).2 b h)) (λc=>Iff.rfl),λc ab=>?_⟩;rcases ab with rfl | ⟨k,hk,h⟩
   ·exact (aT _).2 (.inl rfl)
   ·exact (aT c).2 (.inr ⟨k,by omega,(qV k (by omega)).2 c h⟩)
 | @own z n cs cs' ao _ aS =>
  intro v F bl;cases bl with
  | ref J=>simp [ag.isRef] at J
  | @own _ _ _ _ e us b3 _ bh h_ h1 aw aU aK aT =>
   have:∀ k,∃ sq:bz,k<cs.length->(∀ (x:ag) (u:Value),cs'[k]?=some x->us[k]?=some u->R w I ρ x u sq)/\∀ c,sq c->b3 k c:=by
    intro k;by_cases hk:k<cs.length
    ·have J:=List.getElem?_eq_getElem hk;have az:cs'[k]?=some (cs'[k]'(by omega)):=List.getElem?_eq_getElem (by omega);have hu:us[k]?=some (us[k]'(by omega)):=List.getElem?_eq_getElem (by omega);obtain ⟨f',h1,al⟩:=aS k _ _ J az (aw k _ _ J hu);refine ⟨f',λ_=>⟨λx u gw fN=>?_,al⟩⟩;rw [az] at gw; rw [hu] at fN;cases gw; cases fN;exact h1
    ·exact ⟨cW,λh=>absurd h hk⟩
   obtain ⟨sq,qV⟩:=Classical.axiomOfChoice this;refine ⟨_,.own (Fs:=sq) bh (by omega) h1 (λk x u J hu=>(qV k (by rw [<- ao]; exact (List.getElem?_eq_some_iff.1 J).1)).1 x u J hu) (λae k c aa hk h aR=>aU ae k c (by omega) (by omega) ((qV ae (by omega)).2 c h) ((qV k (by omega)).2 c aR)) (λk c hk h=>aK k c (by omega) ((qV k (by omega)).2 c h)) (λc=>Iff.rfl),λc ab=>?_⟩;rcases ab with ab | ⟨k,hk,h⟩
   ·exact (aT _).2 (.inl ab)
   ·exact (aT c).2 (.inr ⟨k,by omega,(qV k (by omega)).2 c h⟩)
structure kS (g1 g2:aW):Prop where
 sub:∀ t x,g2 t=some x->∃ y,g1 t=some y/\ow y x
 bq:∀ t x,g2 t=some x->e3 g2 x
 fT:∀ t z q n m new,g2 t≠some (.b8 z q n m new)
theorem c7.gd {w:World}{I:bz}{T:Array Value}{g1 g2:aW}{Fs:Nat->bz}(h:c7 w I T g1 Fs) (hk:kS g1 g2):∃ cz,c7 w I T g2 cz/\∀ t c,cz t c->Fs t c:=by
 have:∀ t,∃ f':bz,(∀ x,g2 t=some x->∃ v,T[t]?=some v/\R w I (ew w T g2) x v f')/\(∀ c,f' c->Fs t c)/\(g2 t=none->∀ c,¬ f' c):=by
  intro t;cases J:g2 t with
  | none=>exact ⟨cW,by simp,λ_ h=>h.elim,λ_ _ h=>h⟩
  | some x =>
   obtain ⟨y,az,hw⟩:=hk.sub t x J;obtain ⟨v,hv,bl⟩:=h.mn.rel t y az;have l8:∀ z q n m new,y≠.b8 z q n m new:=by
    rintro z q n m new rfl;cases hw with
    | refl=>exact hk.fT _ _ _ _ _ _ J
    | dead ca=>rcases ca with ca | ca <;> cases ca
   obtain ⟨f',jr,oC⟩:=R.gd hw (bl.h0 l8);exact ⟨f',λx' gw=>by cases gw; exact ⟨v,hv,jr.bq (hk.bq t x J)⟩,oC,by simp⟩
 obtain ⟨cz,sP⟩:=Classical.axiomOfChoice this;refine ⟨cz,⟨λt x J=>?_,λt aJ=>(sP t).2.2 aJ,λt t' c h1 al=>h.e_ _ _ _ ((sP t).2.1 c h1) ((sP t').2.1 c al),λt c ab=>h.aF _ _ ((sP t).2.1 c ab),h.lt,λt t' z p n m new _ _ _ _ h1=>absurd h1 (hk.fT _ _ _ _ _ _)⟩,λt=>(sP t).2.1⟩;obtain ⟨v,hv,bl⟩:=(sP t).1 x J;exact ⟨v,hv,.tree bl⟩
theorem gI.weaken {c:Code}{g g1 g':aW}{e:Exit}(hk:kS g g1) (h:gI P N c g1 e g'):gI P N c g e g':=by
 intro Q a w I Fs b6 b5 dY;obtain ⟨cz,eL,gO⟩:=b6.gd hk;exact h eL b5 λcF w' aP=>dY _ _ (ig.trans rfl hW.refl ⟨Fr.refl _ _,λ_ h=>h,λ_ h=>.inl h,λc ⟨t,ab⟩=>.inl ⟨t,gO t c ab⟩⟩ aP)
theorem sn.weaken {c:Code}{g g1 g':aW}{e:Exit}(hk:kS g g1) (h:sn P N c g1 e g'):sn P N c g e g':=by
 intro Q a w I Fs b6 b5 dY;obtain ⟨cz,eL,gO⟩:=b6.gd hk;exact h eL b5 λcF w' aP=>dY _ _ (ig.trans rfl hW.refl ⟨Fr.refl _ _,λ_ h=>h,λ_ h=>.inl h,λc ⟨t,ab⟩=>.inl ⟨t,gO t c ab⟩⟩ aP)
end
end Go.Own
namespace Go.Own
open Go
inductive y_ (P:Program) (g:aW):ResultVar->ag->Prop
 | tmp {t:Nat}{y:ag}(h:bT g (.tmp t)=some y):y_ P g (.tmp t) y
 | cell {a:Nat}{t ty:TypeId}{y:ag}(h:dp P g (.load t (.tmp a)) ty y):y_ P g (.cell a t) y
inductive qI (P:Program) (g:aW):List ResultVar->List ag->Prop
 | nil:qI P g [] []
 | cons {r:ResultVar}{rs:List ResultVar}{y:ag}{ys:List ag}(h:y_ P g r y) (aJ:qI P g rs ys):qI P g (r::rs) (y::ys)
def qv:List ag->ag
 | [x]=>x
 | l=>.cC l
def wU:List Value->Value
 | [x]=>x
 | l=>.tuple l.toArray
def uV (tmps:Array Value):ResultVar->Sem Value
 | .tmp t=>pure (tmps.getD t undef)
 | .cell a t=>do loadVar t (<- asAddr (tmps.getD a undef))
section
variable {P:Program}{w:World}{I:bz}{g:aW}{Fs:Nat->bz}
theorem y_.run {a:Act}(h:c7 w I a.tmps g Fs) {r:ResultVar}{y:ag}(aw:y_ P g r y):∃ v,(uV a.tmps r).run P w=.ok v w/\R w I (ew w a.tmps g) y v cW:=by
 cases aw with
 | @tmp t y h1=>exact ⟨_,rfl,k9 h h1 rfl⟩
 | @cell a0 t ty y h1 =>
  obtain ⟨v, hv, bl⟩ := dp.sound h rfl (o := { dst := none, op := .load t (.tmp a0), type := ty, pos := "", after := #[], guard := none }) h1;refine ⟨v,?_,bl⟩;have he:a.eval (.tmp a0)=a.tmps.getD a0 undef:=rfl;simp only [execOp,he] at hv;cases ab:a.tmps.getD a0 undef with
  | pointer ad =>
   cases ad with
   | some ad =>
    rw [ab] at hv;simp only [Instr.loadAt,Instr.sureAddr] at hv;simp only [uV,ab,asAddr];have aG:(pure ad >>= λx=>loadVar t x:Sem Value)=loadVar t ad:=by simp
    rw [aG];revert hv;generalize bR:loadVar t ad=q;intro hv;simp [bR] at hv;cases Db:q.run P w with
    | ok x ir=>rw [Db] at hv; simp at hv; rw [hv.1,hv.2]
    | halt e ir=>rw [Db] at hv; simp at hv
   | none=>rw [ab] at hv; simp [Instr.loadAt,Instr.sureAddr] at hv
  | _=>rw [ab] at hv; simp [Instr.loadAt,Instr.sureAddr] at hv
theorem Nq {f:ResultVar->Sem Value}:∀ (l:List ResultVar) (vs:List Value),l.length=vs.length->(∀ (k:Nat) (r:ResultVar) (v:Value),l[k]?=some r->vs[k]?=some v->(f r).run P w=.ok v w)->(l.mapM f).run P w=.ok vs w
 | [],[],_,_=>rfl
 | r::l,v::vs,ao,h=>by
  have bd:=h 0 r v rfl rfl;have h1:=Nq l vs (by simpa using ao) λk r v aw hv=>h (k+1) r v (by simpa using aw) (by simpa using hv);simp [List.mapM_cons,bd,h1]
 | [],_::_,ao,_=>by simp at ao
 | _::_,[],ao,_=>by simp at ao
theorem U' {fn:Func}{tmps:Array Value}{vs:List Value}(ao:fn.results.toList.length=vs.length) (h:∀ (k:Nat) (r:ResultVar) (v:Value),fn.results.toList[k]?=some r->vs[k]?=some v->(uV tmps r).run P w=.ok v w):(results fn tmps).run P w=.ok (wU vs) w:=by
 have h1:=Nq fn.results.toList vs ao h;have al:fn.results.mapM (uV tmps)=List.toArray <$> fn.results.toList.mapM (uV tmps):=Array.mapM_eq_mapM_toList;have aQ:(fn.results.mapM (uV tmps)).run P w=.ok vs.toArray w:=by rw [al]; simp [h1]
 have bW:results fn tmps=(do let vs <- fn.results.mapM (uV tmps); pure (if h:vs.size=1 then vs[0] else .tuple vs)):=by
  unfold results;congr 1
 rw [bW];simp only [Sem.run_bind,aQ]
 match vs with
 | []=>rfl
 | [x]=>rfl
 | x::y::l=>simp [wU]
theorem qI.length {g:aW}{rs:List ResultVar}{ys:List ag}(h:qI P g rs ys):rs.length=ys.length:=by
 induction h with
 | nil=>rfl
 | cons _ _ aS=>simp [aS]
theorem qI.run {a:Act}(h:c7 w I a.tmps g Fs) {rs:List ResultVar}{ys:List ag}(aw:qI P g rs ys):∃ vs:List Value,rs.length=vs.length/\(∀ (k:Nat) (r:ResultVar) (v:Value),rs[k]?=some r->vs[k]?=some v->(uV a.tmps r).run P w=.ok v w) /\
  ∀ (k:Nat) (y:ag) (v:Value),ys[k]?=some y->vs[k]?=some v->R w I (ew w a.tmps g) y v cW:=by
 induction aw with
 | nil=>exact ⟨[],rfl,by simp,by simp⟩
 | cons h1 _ aS =>
  obtain ⟨v,hv,bl⟩:=h1.run h;obtain ⟨vs,ao,al,aQ⟩:=aS;refine ⟨v::vs,by simp [ao],λk r u aw hu=>?_,λk y u az hu=>?_⟩
  ·cases k with
   | zero=>simp at aw hu; subst aw hu; exact hv
   | succ k=>exact al k r u (by simpa using aw) (by simpa using hu)
  ·cases k with
   | zero=>simp at az hu; subst az hu; exact bl
   | succ k=>exact aQ k y u (by simpa using az) (by simpa using hu)
theorem Hand.qv {ρ:ag->Value->Prop}{Fs:Nat->bz}{xs:List ag}{vs:List Value}{dI:Nat->bz}(h:Hand w I ρ Fs xs vs dI) (aP:∀ x∈xs,dc x) (ρ':ag->Value->Prop):R w I ρ' (qv xs) (wU vs) (λc=>∃ k,k<xs.length/\dI k c)/\dc (qv xs):=by
 have cC:R w I ρ' (.cC xs) (.tuple vs.toArray) (λc=>∃ k,k<xs.length/\dI k c) :=
  .cC (by simpa using h.len) (λk x u J hu=>(h.rel k x u J (by simpa using hu)).bL (aP x (List.mem_of_getElem? J))) h.e_ λc=>Iff.rfl
 match xs,vs,h,aP,cC with
 | [],[],_,_,cC=>exact ⟨cC,.cC (by simp)⟩
 | [x],[v],h,aP,_ =>
  refine ⟨((h.rel 0 x v rfl rfl).bL (aP x (by simp))).xK λc=>⟨λab=>⟨0,by simp,ab⟩,λ⟨k,hk,ab⟩=>?_⟩,aP x (by simp)⟩;have:k=0:=by simpa using hk
  subst this; exact ab
 | x::y::l,v::u::m,_,aP,cC=>exact ⟨cC,.cC aP⟩
 | [],_::_,h,_,_=>have:=h.len; simp at this
 | _::_,[],h,_,_=>have:=h.len; simp at this
 | [_],_::_::_,h,_,_=>have:=h.len; simp at this
 | _::_::_,[_],h,_,_=>have:=h.len; simp at this
structure Leaves (P:Program) (N:dK) (rs:List ResultVar) (g':aW) (n:Nat) (outs:List (Option ag)) (res:ag):Prop where
 ex:∃ ys xs g1,qI P g' rs ys/\Take g' ys xs g1/\res=qv xs/\∀ (k:Nat) (x:ag),outs[k]?=some (some x)->g1 k=some x/\dc x/\k∈N.pins
 len:outs.length=n
theorem c7.more {T:Array Value}(h:c7 w I T g Fs) {T':Array Value}(fG:∀ t,g t≠none->T'[t]?=T[t]?):c7 w I T' g Fs:=by
 refine ⟨λt x J=>?_,h.kH,h.e_,h.aF,h.lt,h.qt⟩;obtain ⟨u,hu,bl⟩:=h.rel t x J;exact ⟨u,by rw [fG t (by rw [J]; simp)]; exact hu,h.vG fG (λ_ _ _=>rfl) (λ_ _=>rfl) (λ_ h=>h) (λ_ _ h=>h) bl λ_ _=>rfl⟩
end
end Go.Own
namespace Go.Own
open Go
section
variable {P:Program}{N:dK}
def W (P:Program) (N:dK) (c:Code) (g:aW) (Φ:Exit->aW->Prop):Prop :=
 ∀ ⦃Q:Exit->Act->World->Prop⦄ ⦃a:Act⦄ ⦃w:World⦄ ⦃I:bz⦄ ⦃Fs:Nat->bz⦄,c7 w I a.tmps g Fs->a.tmps.size=N.size->(∀ e g' cF w',Φ e g'->ig N a w I Fs g' cF w'->Q e cF w')->c.wp P Q a w
def tt (Ψ:aW->Prop) (Φ:Exit->aW->Prop):Exit->aW->Prop
 | .normal,g=>Ψ g
 | e,g=>Φ e g
def r' (id:Nat) (Φ:Exit->aW->Prop):Exit->aW->Prop
 | .exit k,g=>if k=id then Φ .normal g else Φ (.exit k) g
 | e,g=>Φ e g
theorem ig.refl {a:Act}{w:World}{I:bz}{g:aW}{Fs:Nat->bz}(h:c7 w I a.tmps g Fs):ig N a w I Fs g a w:=⟨rfl,hW.refl,_,_,h,kR.refl _ _ _⟩
theorem gI.w {c:Code}{g g':aW}{e:Exit}{Φ:Exit->aW->Prop}(h:gI P N c g e g') (nz:Φ e g'):W P N c g Φ :=
 λ_ _ _ _ _ b6 b5 dY=>h b6 b5 λcF w' aP=>dY _ _ cF w' nz aP
theorem W.mono {c:Code}{g:aW}{Φ pU:Exit->aW->Prop}(h:W P N c g Φ) (nz:∀ e g',Φ e g'->pU e g'):W P N c g pU :=
 λ_ _ _ _ _ b6 b5 dY=>h b6 b5 λ_ _ cF w' h1 aP=>dY _ _ cF w' (nz _ _ h1) aP
theorem W.skip {g:aW}{Φ:Exit->aW->Prop}(h:Φ .normal g):W P N .skip g Φ:=gI.skip.w h
theorem W.ret {g:aW}{Φ:Exit->aW->Prop}(h:Φ .ret g):W P N .ret g Φ:=gI.ret.w h
theorem W.exit {g:aW}{id:Nat}{Φ:Exit->aW->Prop}(h:Φ (.exit id) g):W P N (.exit id) g Φ:=gI.exit.w h
theorem W.seq {x y:Code}{g:aW}{Φ:Exit->aW->Prop}(h:W P N x g (tt (λg1=>W P N y g1 Φ) Φ)):W P N (.seq x y) g Φ:=by
 intro Q a w I Fs b6 b5 dY;refine wp_seq (h b6 b5 λe g1 ay jD h1 aP=>?_);cases e with
 | normal =>
  obtain ⟨dg,c5,I',cz,eL,cf⟩:=aP;exact h1 eL (c5.1.trans b5) λsH g2 a2 ir al oF=>dY _ _ _ _ al (ig.trans dg c5 cf oF)
 | _=>exact dY _ _ _ _ h1 aP
theorem W.cond {c:Operand}{x y:Code}{g:aW}{Φ:Exit->aW->Prop}{b:Bool}(ab:bT g c=some (.lit (.bool b))) (h:W P N (if b then x else y) g Φ):W P N (.cond c x y) g Φ :=
 λ_ _ _ _ _ b6 b5 dY=>wp_cond (t:=b) (k9 b6 ab rfl).il.1 (h b6 b5 dY)
theorem W.Kl {c:Operand}{x y:Code}{g:aW}{Φ:Exit->aW->Prop}(ab:bT g c=some (.lit (.bool true))) (h:W P N x g Φ):W P N (.cond c x y) g Φ:=W.cond ab h
theorem W.E' {c:Operand}{x y:Code}{g:aW}{Φ:Exit->aW->Prop}(ab:bT g c=some (.lit (.bool false))) (h:W P N y g Φ):W P N (.cond c x y) g Φ:=W.cond ab h
theorem W.block {id:Nat}{c:Code}{g:aW}{Φ:Exit->aW->Prop}(h:W P N c g (r' id Φ)):W P N (.block id c) g Φ:=by
 intro Q a w I Fs b6 b5 dY;refine wp_block (h b6 b5 λe g1 ay jD h1 aP=>?_);cases e with
 | exit k =>
  have al:if k=id then Φ .normal g1 else Φ (.exit k) g1:=h1
  simp only [Exit.inBlock];by_cases hk:k=id
  ·rw [if_pos hk] at al ⊢;exact dY _ _ _ _ al aP
  ·rw [if_neg hk] at al ⊢;exact dY _ _ _ _ al aP
 | _=>exact dY _ _ _ _ h1 aP
def ov (P:Program) (N:dK) (c:Code) (g:aW) (Φ:Exit->aW->Prop):Prop :=
 ∀ ⦃Q:Exit->Act->World->Prop⦄ ⦃a:Act⦄ ⦃w:World⦄ ⦃I:bz⦄ ⦃Fs:Nat->bz⦄,c7 w I a.tmps g Fs->a.tmps.size=N.size->(∀ e g' cF w',Φ e g'->ig N a w I Fs g' cF w'->Q e cF w')->BW P c Q a w
theorem W.loop {c:Code}{g:aW}{Φ:Exit->aW->Prop}(h:ov P N c g Φ):W P N (.loop c) g Φ:=by
 intro Q a w I Fs b6 b5 dY b k cs;obtain ⟨e,cF,w',bR,ln⟩:=h b6 b5 dY b k cs;exact ⟨e,cF,w',bR,.of_steps (.one step_loop) ln⟩
theorem ov.step {c:Code}{g:aW}{Φ:Exit->aW->Prop}(h:W P N c g (tt (λg1=>ov P N c g1 Φ) Φ)):ov P N c g Φ:=by
 intro Q a w I Fs b6 b5 dY;refine HC (h b6 b5 λe g1 ay jD h1 aP=>?_);cases e with
 | normal =>
  obtain ⟨dg,c5,I',cz,eL,cf⟩:=aP;exact h1 eL (c5.1.trans b5) λsH g2 a2 ir al oF=>dY _ _ _ _ al (ig.trans dg c5 cf oF)
 | _=>exact dY _ _ _ _ h1 aP
theorem W.weaken {c:Code}{g g1:aW}{Φ:Exit->aW->Prop}(hk:kS g g1) (h:W P N c g1 Φ):W P N c g Φ:=by
 intro Q a w I Fs b6 b5 dY;obtain ⟨cz,eL,gO⟩:=b6.gd hk;exact h eL b5 λe g' cF w' h1 aP=>dY _ _ _ _ h1 (ig.trans rfl hW.refl ⟨Fr.refl _ _,λ_ h=>h,λ_ h=>.inl h,λc ⟨t,ab⟩=>.inl ⟨t,gO t c ab⟩⟩ aP)
theorem ov.weaken {c:Code}{g g1:aW}{Φ:Exit->aW->Prop}(hk:kS g g1) (h:ov P N c g1 Φ):ov P N c g Φ:=by
 intro Q a w I Fs b6 b5 dY;obtain ⟨cz,eL,gO⟩:=b6.gd hk;exact h eL b5 λe g' cF w' h1 aP=>dY _ _ _ _ h1 (ig.trans rfl hW.refl ⟨Fr.refl _ _,λ_ h=>h,λ_ h=>.inl h,λc ⟨t,ab⟩=>.inl ⟨t,gO t c ab⟩⟩ aP)
theorem W.out {c:Code}{g:aW}{Φ pU:Exit->aW->Prop}(h:W P N c g Φ) (nz:∀ e g',Φ e g'->∃ g2,kS g' g2/\pU e g2):W P N c g pU:=by
 intro Q a w I Fs b6 b5 dY;refine h b6 b5 λe g' cF w' h1 aP=>?_;obtain ⟨g2,hk,al⟩:=nz e g' h1;obtain ⟨dg,c5,I',cz,eL,cf⟩:=aP;obtain ⟨iV,ih,gO⟩:=eL.gd hk;exact dY _ _ _ _ al ⟨dg,c5,I',iV,ih,cf.trans ⟨Fr.refl _ _,λ_ h=>h,λ_ h=>.inl h,λc ⟨t,ab⟩=>.inl ⟨t,gO t c ab⟩⟩⟩
def Jb (P:Program) (N:dK) (ops:Array Oper) (is:List Nat) (g:aW) (K:aW->Prop):Prop:=∃ g',nO P N ops is g g'/\K g'
theorem W.region {id:Nat}{ops:Array Oper}{g:aW}{Φ:Exit->aW->Prop}(h:Jb P N ops (List.range ops.size) g (Φ .normal)):W P N (.region id ops false) g Φ:=by
 obtain ⟨g',aw,nz⟩:=h;exact (gI.region aw).w nz
theorem cc.Uu {f:FuncId}{fn:Func}{c:Code}{args:List ag}{outs:List (Option ag)}{res:ag}{N:dK}(bn:P.funcs[f]?=some fn) (aK:fn.body=some c) (b5:fn.ntmps=N.size) (bf:args.length<=N.size)
  (hlen:outs.length=args.length) (hw:W P N c (o9 args) λe g'=>(e=.normal\/e=.ret)/\Leaves P N fn.results.toList g' args.length outs res):cc P f args outs res:=by
 refine ⟨hlen,λw I vs Fs GW b6=>calls_of_wp bn aK ?_⟩;have gr:({ tmps:=vs.toArray++Array.replicate (fn.ntmps - vs.toArray.size) undef,defers:=[] }:Act).tmps.size=N.size:=by
  simp; omega
 have pq:∀ t,t<vs.length->(vs.toArray++Array.replicate (fn.ntmps - vs.toArray.size) undef)[t]?=vs.toArray[t]?:=by
  intro t aJ;rw [Array.getElem?_append_left (by simpa using aJ)]
 refine hw (b6.more (T':=vs.toArray++Array.replicate (fn.ntmps - vs.toArray.size) undef) λt aJ=>pq t ?_) gr λe g' cF w' ⟨he,bh⟩ aP=>?_
 ·unfold o9 at aJ;rw [GW];rcases Nat.lt_or_ge t args.length with h | h
  ·exact h
  ·exact absurd (List.getElem?_eq_none h) aJ
 obtain ⟨aU,hold,I',cz,eL,cf⟩:=aP;obtain ⟨ys,xs,g1,L2,aJ,rfl,pw⟩:=bh.ex;obtain ⟨us,q6,ij,mA⟩:=L2.run eL;have Dk:ys.length=us.length:=by rw [<- L2.length,q6]
 obtain ⟨gj,dI,i_,iE,gV⟩:=aJ.sound eL.mn (⟨Dk,λk x u J hu=>(mA k x u J hu).frame (λ_ _=>rfl) (λ_ h=>h) (λ_ _ h=>h.1) λ_ _=>rfl,λ_ _ _ _ _ h=>h.elim,λ_ _ _ _ h=>h.elim,λ_ _ _ h=>h.elim⟩:Hand w' I' (gl w' cF.tmps) cz ys us λ_=>cW);have gO:∀ c,lb gj xs.length dI c->∃ t,cz t c:=by
  intro c ab;rcases gV c ab with h | ⟨_,_,h⟩
  ·exact h
  ·exact h.elim
 have Sx:∃ iV,c7 w' I' (vs++[wU us]).toArray (oR outs (qv xs)) iV/\∀ t c,iV t c->∃ t,cz t c:=by
  classical
  refine ⟨λt=>if t=outs.length then (λc=>∃ k,k<xs.length/\dI k c) else if ∃ x,outs[t]?=some (some x) then gj t else cW,⟨λt x J=>?_,λt qe c ab=>?_,λt t' c h1 al=>?_,λt c ab=>?_,eL.lt,λt t' z p n m new cK cY bS di h1 al=>?_⟩,λt c ab=>?_⟩
  ·unfold oR at J;by_cases bd:t=outs.length
   ·rw [if_pos bd] at J;cases J;subst bd;refine ⟨wU us,?_,.tree ?_⟩
    ·rw [bh.len,<- GW]; simp
    ·simpa using (iE.qv aJ.AW _).1
   ·rw [if_neg bd] at J;have gw:outs[t]?=some (some x):=by
     cases ca:outs[t]? with
     | none=>rw [ca] at J; cases J
     | some y=>rw [ca] at J; simpa using J
    obtain ⟨h1,al,aQ⟩:=pw t x gw;have GQ:t<vs.length:=by
     have:=(List.getElem?_eq_some_iff.1 gw).1;rw [GW,<- bh.len]; exact this
    obtain ⟨v,hv,bl⟩:=i_.rel t x h1;refine ⟨v,?_,?_⟩
    ·rw [hold.2 t aQ] at hv;simp only at hv;rw [pq t GQ] at hv;simp only [List.getElem?_toArray] at hv ⊢;rw [List.getElem?_append_left GQ]; exact hv
    ·simp only [bd,if_false];rw [if_pos ⟨x,gw⟩];exact .tree ((bl.h0 (by rintro z p n m new rfl; cases al)).bL al)
  ·unfold oR at qe;by_cases bd:t=outs.length
   ·rw [if_pos bd] at qe; cases qe
   ·rw [if_neg bd] at qe;simp only [bd,if_false] at ab;rw [if_neg] at ab
    ·exact ab
    ·rintro ⟨x,J⟩;rw [J] at qe; cases qe
  ·by_cases bd:t=outs.length <;> by_cases CO:t'=outs.length <;> simp only [bd,CO,if_true,if_false] at h1 al
   ·rw [bd,CO]
   ·split at al
    ·obtain ⟨k,hk,ab⟩:=h1;exact absurd al (iE.off k t' c hk ab)
    ·exact al.elim
   ·split at h1
    ·obtain ⟨k,hk,ab⟩:=al;exact absurd h1 (iE.off k t c hk ab)
    ·exact h1.elim
   ·split at h1
    ·split at al
     ·exact i_.e_ _ _ _ h1 al
     ·exact al.elim
    ·exact h1.elim
  ·by_cases bd:t=outs.length <;> simp only [bd,if_true,if_false] at ab
   ·obtain ⟨k,hk,ab⟩:=ab;exact iE.aF k c hk ab
   ·split at ab
    ·exact i_.aF _ _ ab
    ·exact ab.elim
  ·have key:∀ t x,oR outs (qv xs) t=some x->dc x:=by
    intro t x J;unfold oR at J
    split at J
    ·cases J; exact (iE.qv aJ.AW (λ_ _=>False)).2
    ·cases ca:outs[t]? with
     | none=>rw [ca] at J; cases J
     | some y=>rw [ca] at J; exact (pw t x (by rw [ca]; simpa using J)).2.1
   have:=key t _ h1;cases this
  ·by_cases bd:t=outs.length <;> simp only [bd,if_true,if_false] at ab
   ·obtain ⟨k,hk,ab⟩:=ab;exact gO c (.inr ⟨k,hk,ab⟩)
   ·split at ab
    ·exact gO c (.inl ⟨t,ab⟩)
    ·exact ab.elim
 obtain ⟨iV,ih,Ta⟩:=Sx;have SZ:cF.defers=[]/\∃ v,(results fn cF.tmps).run P w'=.ok v w'/\∃ hT I' cz,Ending.returned v=.returned hT/\c7 w' I' (vs++[hT]).toArray (oR outs (qv xs)) cz/\kR w I (λc=>∃ t,Fs t c) w' I' (λc=>∃ t,cz t c) :=
  ⟨aU,wU us,U' q6 ij,wU us,I',iV,rfl,ih,cf.trans ⟨Fr.refl _ _,λ_ h=>h,λ_ h=>.inl h,λc ⟨t,ab⟩=>.inl (Ta t c ab)⟩⟩
 rcases he with rfl | rfl <;> exact SZ
end
end Go.Own
namespace Go.Own
open Go
def get:List (Nat × ag)->aW
 | [],_=>none
 | (s,x)::l,t=>if t=s then some x else get l t
inductive Rd (g:aW):Operand->ag->Prop
 | lit {t:Nat}{v:Value}(h:g t=some (.lit v)):Rd g (.tmp t) (.lit v)
 | k {v:Value}(h:ofConst v=.lit v):Rd g (.const v) (.lit v)
 | Dy:Rd g (.const (.slice none 0 0)) .aN
 | T9 {v:Value}{cs:List ag}(h:ofConst v=.agg cs):Rd g (.const v) (.agg cs)
 | aN {t:Nat}(h:g t=some .aN):Rd g (.tmp t) .aN
 | aF {t z n:Nat}{cs:List ag}(h:g t=some (.aF z n cs)):Rd g (.tmp t) (.aF z n cs)
 | own {t z n:Nat}{cs:List ag}(h:g t=some (.own z n cs)):Rd g (.tmp t) (.bo z ⟨t,[]⟩ n)
 | obj {t:Nat}{c:ag}{cs:List ag}(h:g t=some (.obj (c::cs))):Rd g (.tmp t) (.ptr ⟨t,[]⟩ 0)
 | bk {t:Nat}{cs:List ag}(h:g t=some (.bk cs)):Rd g (.tmp t) (.bk cs)
 | ptr {t k:Nat}{p:Place}(h:g t=some (.ptr p k)):Rd g (.tmp t) (.ptr p k)
 | bo {t z n:Nat}{p:Place}(h:g t=some (.bo z p n)):Rd g (.tmp t) (.bo z p n)
 | sub {t z lo n:Nat}{p:Place}(h:g t=some (.sub z p lo n)):Rd g (.tmp t) (.sub z p lo n)
 | b8 {t z n m:Nat}{p:Place}{new:List ag}(h:g t=some (.b8 z p n m new)):Rd g (.tmp t) (.bo z ⟨t,[]⟩ (n+m))
 | agg {t:Nat}{cs cs':List ag}(h:g t=some (.agg cs)) (ab:(cs.mapIdx λi x=>im 1 (Place.push ⟨t,[]⟩ i) x)=cs'):Rd g (.tmp t) (.agg cs')
 | cC {t:Nat}{cs cs':List ag}(h:g t=some (.cC cs)) (ab:(cs.mapIdx λi x=>im 1 (Place.push ⟨t,[]⟩ i) x)=cs'):Rd g (.tmp t) (.cC cs')
 | func {f:FuncId}:Rd g (.func f) (.et (.func f) [] [])
 | et {t:Nat}{fn:Fn}{cs:List ag}(h:g t=some (.et fn [] cs)):Rd g (.tmp t) (.et fn [] cs)
 | mp {t:Nat}{q:Array MapEntry->Nat->Prop}(h:g t=some (.mp q)):Rd g (.tmp t) (.iR ⟨t,[]⟩)
 | iR {t:Nat}{p:Place}(h:g t=some (.iR p)):Rd g (.tmp t) (.iR p)
 | imp {t:Nat}{q:Array MapEntry->Nat->Prop}(h:g t=some (.imp q)):Rd g (.tmp t) (.imp q)
theorem Rd.bT {g:aW}{x:Operand}{y:ag}(h:Rd g x y):bT g x=some y:=by
 cases h with
 | agg h ab=>subst ab; simp [Own.bT,h,rn,im]
 | cC h ab=>subst ab; simp [Own.bT,h,rn,im]
 | k h=>simp [Own.bT,h]
 | Dy=>rfl
 | T9 h=>simp [Own.bT,h]
 | func=>rfl
 | _ h=>simp [Own.bT,h,rn,im]
section
variable {P:Program}{N:dK}{ops:Array Oper}{g:aW}{K:aW->Prop}{l:List Oper}
def av (P:Program) (N:dK) (ops:Array Oper) (l:List Oper) (g:aW) (K:aW->Prop):Prop:=∀ i,ops.toList.drop i=l->Jb P N ops (List.range' i l.length) g K
theorem W.U1 {id:Nat}{l:List Oper}{g:aW}{Φ:Exit->aW->Prop}(h:av P N l.toArray l g (Φ .normal)):W P N (.region id l.toArray false) g Φ:=by
 refine W.region ?_;have:=h 0 (by simp);rw [List.range_eq_range'];simpa using this
theorem av.nil (h:K g):av P N ops [] g K:=λ_ _=>⟨g,.nil,h⟩
theorem drop_cons {i:Nat}{o:Oper}(h:ops.toList.drop i=o::l):ops[i]?=some o/\ops.toList.drop (i+1)=l:=by
 have h1:(ops.toList.drop i)[0]?=some o:=by rw [h]; rfl
 rw [List.getElem?_drop] at h1;refine ⟨by simpa using h1,?_⟩;rw [<- List.drop_drop,h];rfl
variable {d:Nat}{op:Op}{ty:TypeId}{pos:String}{after:Array Edge}{x:ag}
theorem av.yQ {r:Option ag}{o:Oper}(aU:o.dst=some d) (b5:N.ok d=true) (bn:g d=none) (aL:o5 P g ops o r) (hk:av P N ops l (wS g d r) K):av P N ops (o::l) g K:=by
 intro i hi;obtain ⟨h1,al⟩:=drop_cons hi;obtain ⟨g',aw,eK⟩:=hk (i+1) al;exact ⟨g',.step h1 aU bn b5 aL aw,eK⟩
inductive I5 (g:aW) (d:Nat):aW->Prop
 | new (h:g d=none):I5 g d g
 | lL {y:ag}(h:g d=some y) (ao:leaf y=true):I5 g d (del g d)
inductive gD (g:aW) (ops:Array Oper):Option (Nat × Bool)->Prop
 | none:gD g ops none
 | yes {ae t:Nat}{b:Bool}(h:(ops[ae]?).bind (·.dst)=some t) (ba:g t=some (.lit (.bool b))):gD g ops (some (ae,b))
variable {iw:Option (Nat × Bool)}{g1:aW}
theorem gD.del {y:ag}(h:gD g ops iw) (aU:g d=some y) (aK:∀ b,y≠.lit (.bool b)):iX (del g d) ops ⟨some d,op,ty,pos,after,iw⟩ true:=by
 cases h with
 | none=>rfl
 | @yes ae t b h ba =>
  have:t≠d:=by
   rintro rfl;rw [aU] at ba; cases ba; exact aK _ rfl
  exact ⟨t,h,.inl ⟨b,by simp only [Own.del,if_neg this,ba],by simp⟩⟩
theorem gD.wanted (h:gD g ops iw):iX g ops ⟨some d,op,ty,pos,after,iw⟩ true:=by
 cases h with
 | none=>rfl
 | @yes ae t b h ba=>exact ⟨t,h,.inl ⟨b,ba,by simp⟩⟩
theorem av.N1 (aG:dv P g op ty x) (b5:N.ok d=true) (bn:g d=none) (hw:iX g ops ⟨some d,op,ty,pos,after,iw⟩ true) (hk:av P N ops l (e5 g d x) K):av P N ops (⟨some d,op,ty,pos,after,iw⟩::l) g K :=
 .yQ rfl b5 bn (r:=some x) (.inl ⟨hw,.inl aG⟩) hk
theorem av.val (aG:dp P g op ty x) (b5:N.ok d=true) (bn:g d=none) (ba:gD g ops iw) (hk:av P N ops l (e5 g d x) K):av P N ops (⟨some d,op,ty,pos,after,iw⟩::l) g K :=
 .N1 (.fq aG) b5 bn ba.wanted hk
theorem av.VX (aG:dv P g op ty x) (b5:N.ok d=true) (bn:g d=none) (ba:gD g ops iw) (hk:av P N ops l (e5 g d x) K):av P N ops (⟨some d,op,ty,pos,after,iw⟩::l) g K :=
 .N1 aG b5 bn ba.wanted hk
theorem av.call (aG:cu P g op x) (b5:N.ok d=true) (bn:g d=none) (ba:gD g ops iw) (hk:av P N ops l (e5 g d x) K):av P N ops (⟨some d,op,ty,pos,after,iw⟩::l) g K :=
 .yQ rfl b5 bn (r:=some x) (.inl ⟨ba.wanted,.inr aG⟩) hk
theorem av.pass {ae t':Nat}{b:Bool}(h:(ops[ae]?).bind (·.dst)=some t') (ba:g t'=some (.lit (.bool (!b)))) (b5:N.ok d=true) (bn:g d=none) (hk:av P N ops l g K):av P N ops (⟨some d,op,ty,pos,after,some (ae,b)⟩::l) g K :=
 .yQ rfl b5 bn (r:=Option.none) ⟨t',h,.inl ⟨!b,ba,by cases b <;> rfl⟩⟩ hk
variable {iZ:Option Nat}
theorem av.forget {g1:aW}(hk:fu g g1) (h:av P N ops l g1 K):av P N ops l g K:=by
 intro i hi;obtain ⟨g',aw,eK⟩:=h i hi;exact ⟨g',.forget hk aw,eK⟩
variable {a b:Operand}{t t2:TypeId}{k:IntKind}{m n:Int}
theorem dp.add (J:Rd g a (.lit (.int k m))) (az:Rd g b (.lit (.int k n))):dp P g (.binOp .add t a b t2) ty (.lit (.int k (k.wrap (m+n)))) :=
 .bin J.bT az.bT rfl λw=>by simp [eqGuard,binOp,Op.intArith]
theorem dp.Vs (J:Rd g a (.lit (.int k m))) (az:Rd g b (.lit (.int k n))):dp P g (.binOp .sub t a b t2) ty (.lit (.int k (k.wrap (m - n)))) :=
 .bin J.bT az.bT rfl λw=>by simp [eqGuard,binOp,Op.intArith]
theorem dp.mul (J:Rd g a (.lit (.int k m))) (az:Rd g b (.lit (.int k n))):dp P g (.binOp .mul t a b t2) ty (.lit (.int k (k.wrap (m * n)))) :=
 .bin J.bT az.bT rfl λw=>by simp [eqGuard,binOp,Op.intArith]
theorem dp.quo (J:Rd g a (.lit (.int k m))) (az:Rd g b (.lit (.int k n))) (h:n≠0):dp P g (.binOp .quo t a b t2) ty (.lit (.int k (k.wrap (m.tdiv n)))) :=
 .bin J.bT az.bT rfl λw=>by simp [eqGuard,binOp,Op.intDiv,h]
theorem dp.rem (J:Rd g a (.lit (.int k m))) (az:Rd g b (.lit (.int k n))) (h:n≠0):dp P g (.binOp .rem t a b t2) ty (.lit (.int k (m.tmod n))) :=
 .bin J.bT az.bT rfl λw=>by simp [eqGuard,binOp,Op.intDiv,h]
theorem dp.cat {s u:ByteArray}(J:Rd g a (.lit (.string s))) (az:Rd g b (.lit (.string u))) (h:s.size+u.size<=9223372036854775807):dp P g (.binOp .add t a b t2) ty (.lit (.string (s++u))) :=
 .bin J.bT az.bT rfl λw=>by
  have:¬ ((s.size+u.size:Nat):Int) > IntKind.i64.max:=by
   have:IntKind.i64.max=9223372036854775807:=by decide
   omega
  simp only [eqGuard,binOp,Op.stringOp,if_neg this];simp
theorem JM {s u:ByteArray}(h:s.toList=u.toList):s=u:=by
 have h1:s.data.toList=u.data.toList:=by
  rw [<- ByteArray.toList_eq,<- ByteArray.toList_eq,h]
 cases s; cases u;congr 1;exact Array.toList_inj.1 h1
theorem dp.oy {s u:ByteArray}(J:Rd g a (.lit (.string s))) (az:Rd g b (.lit (.string u))) {c:Bool}(ab:c=true↔s=u):dp P g (.binOp .eql t a b t2) ty (.lit (.bool c)) :=
 .bin J.bT az.bT rfl λw=>by
  have:(s.toList == u.toList)=c:=by
   rw [Bool.eq_iff_iff,ab];simp only [beq_iff_eq];exact ⟨JM,λh=>by rw [h]⟩
  simp [eqGuard,binOp,Op.stringOp,this]
theorem dp.mc {s u:ByteArray}(J:Rd g a (.lit (.string s))) (az:Rd g b (.lit (.string u))) {c:Bool}(ab:c=true↔s≠u):dp P g (.binOp .neq t a b t2) ty (.lit (.bool c)) :=
 .bin J.bT az.bT rfl λw=>by
  have:(s.toList == u.toList)=!c:=by
   rw [Bool.eq_iff_iff];simp only [beq_iff_eq,Bool.not_eq_true'];cases c with
   | true=>simp only [true_iff] at ab; simp only [Bool.true_eq_false,iff_false]; exact λh=>ab (JM h)
   | false =>
    simp only [Bool.false_eq_true,false_iff,Decidable.not_not] at ab;simp [ab]
  simp [eqGuard,binOp,Op.stringOp,this]
theorem dp.lss (J:Rd g a (.lit (.int k m))) (az:Rd g b (.lit (.int k n))) {c:Bool}(ab:c=true↔m<n):dp P g (.binOp .lss t a b t2) ty (.lit (.bool c)) :=
 .bin J.bT az.bT rfl λw=>by
  have:decide (m<n)=c:=by rw [Bool.eq_iff_iff,ab]; simp
  simp [eqGuard,binOp,Op.intCmp,this]
theorem dp.leq (J:Rd g a (.lit (.int k m))) (az:Rd g b (.lit (.int k n))) {c:Bool}(ab:c=true↔m<=n):dp P g (.binOp .leq t a b t2) ty (.lit (.bool c)) :=
 .bin J.bT az.bT rfl λw=>by
  have:decide (m<=n)=c:=by rw [Bool.eq_iff_iff,ab]; simp
  simp [eqGuard,binOp,Op.intCmp,this]
theorem dp.gtr (J:Rd g a (.lit (.int k m))) (az:Rd g b (.lit (.int k n))) {c:Bool}(ab:c=true↔n<m):dp P g (.binOp .gtr t a b t2) ty (.lit (.bool c)) :=
 .bin J.bT az.bT rfl λw=>by
  have:decide (n<m)=c:=by rw [Bool.eq_iff_iff,ab]; simp
  simp [eqGuard,binOp,Op.intCmp,this]
theorem dp.geq (J:Rd g a (.lit (.int k m))) (az:Rd g b (.lit (.int k n))) {c:Bool}(ab:c=true↔n<=m):dp P g (.binOp .geq t a b t2) ty (.lit (.bool c)) :=
 .bin J.bT az.bT rfl λw=>by
  have:decide (n<=m)=c:=by rw [Bool.eq_iff_iff,ab]; simp
  simp [eqGuard,binOp,Op.intCmp,this]
theorem dp.eql (J:Rd g a (.lit (.int k m))) (az:Rd g b (.lit (.int k n))) {c:Bool}(ab:c=true↔m=n):dp P g (.binOp .eql t a b t2) ty (.lit (.bool c)) :=
 .bin J.bT az.bT rfl λw=>by
  have:(m == n)=c:=by rw [Bool.eq_iff_iff,ab]; simp
  simp [eqGuard,binOp,Op.intCmp,this]
theorem dp.neq (J:Rd g a (.lit (.int k m))) (az:Rd g b (.lit (.int k n))) {c:Bool}(ab:c=true↔m≠n):dp P g (.binOp .neq t a b t2) ty (.lit (.bool c)) :=
 .bin J.bT az.bT rfl λw=>by
  have:(m != n)=c:=by rw [Bool.eq_iff_iff,ab]; simp
  simp [eqGuard,binOp,Op.intCmp,this]
theorem dp.not {c:Bool}(J:Rd g a (.lit (.bool c))):dp P g (.unOp .not t a) ty (.lit (.bool (!c))) :=
 .un J.bT rfl λw=>by simp [Op.unary]
theorem dp.UU {c a b:Operand}{y:ag}(ab:Rd g c (.lit (.bool true))) (aw:Rd g a y):dp P g (.pick c a b) ty y:=.pick ab.bT aw.bT
theorem dp.UT {c a b:Operand}{y:ag}(ab:Rd g c (.lit (.bool false))) (aw:Rd g b y):dp P g (.pick c a b) ty y:=.pick ab.bT aw.bT
theorem dp.mR {s:ByteArray}(J:Rd g a (.lit (.string s))) (aJ:qz P t=true):dp P g (.call { callee:=.builtin .len,args:=#[a],argTypes:=#[t] }) ty (.lit (.int .i64 s.size)) :=
 .lits (vs:=[.string s]) (by simp [J.bT]) rfl λw cs=>by
  simp [builtin,Builtin.len_,run_underlying (Iu aJ),goInt]
section
variable {Ψ:aW->Prop}{Φ:Exit->aW->Prop}{id k:Nat}
theorem VM (h:Ψ g):tt Ψ Φ .normal g:=h
theorem VN (h:Φ .ret g):tt Ψ Φ .ret g:=h
theorem VL (h:Φ (.exit k) g):tt Ψ Φ (.exit k) g:=h
theorem TY (h:Φ .normal g):r' id Φ .normal g:=h
theorem TZ (h:Φ .ret g):r' id Φ .ret g:=h
theorem TW (h:Φ .normal g):r' id Φ (.exit id) g:=by
 show if id=id then Φ .normal g else Φ (.exit id) g
 rw [if_pos rfl]; exact h
theorem TX (hk:Nat.beq k id=false) (h:Φ (.exit k) g):r' id Φ (.exit k) g:=by
 show if k=id then Φ .normal g else Φ (.exit k) g
 rw [if_neg (Nat.ne_of_beq_eq_false hk)]; exact h
end
def Fin (P:Program) (N:dK) (rs:List ResultVar) (n:Nat) (outs:List (Option ag)) (res:ag) (e:Exit) (g':aW):Prop:=(e=.normal\/e=.ret)/\Leaves P N rs g' n outs res
theorem cc.fin {f:FuncId}{fn:Func}{c:Code}{args:List ag}{outs:List (Option ag)}{res:ag}{N:dK}(bn:P.funcs[f]?=some fn) (aK:fn.body=some c) (b5:fn.ntmps=N.size) (bf:Nat.ble args.length N.size=true) (hlen:outs.length=args.length)
  (hw:W P N c (o9 args) (Fin P N fn.results.toList args.length outs res)):cc P f args outs res:=.Uu bn aK b5 (Nat.le_of_ble_eq_true bf) hlen hw
def wu (outs:List (Option ag)):Bool:=outs.all λx=>x.isNone
theorem DG {outs:List (Option ag)}(h:wu outs=true) (k:Nat) (x:ag):outs[k]?≠some (some x):=by
 intro e;have:=List.all_eq_true.1 h _ (List.mem_of_getElem? e);simp at this
theorem Fin.one {t:Nat}{y res:ag}{outs:List (Option ag)}{n:Nat}(az:Rd g (.tmp t) y) (aP:dc y) (bh:wu outs=true) (ao:outs.length=n) (he:y=res):Fin P N [.tmp t] n outs res .ret g :=
 ⟨.inr rfl,⟨[y],[y],g,.cons (.tmp az.bT) .nil,.bL (by simpa using aP),he.symm,λk x hk=>absurd hk (DG bh k x)⟩,ao⟩
inductive y9 (g:aW):List ResultVar->List ag->Prop
 | nil:y9 g [] []
 | cons {t:Nat}{y:ag}{rs:List ResultVar}{ys:List ag}(h:Rd g (.tmp t) y) (aP:dc y) (aJ:y9 g rs ys):y9 g (.tmp t::rs) (y::ys)
theorem y9.spec {rs:List ResultVar}{ys:List ag}(h:y9 g rs ys):qI P g rs ys/\∀ y∈ys,dc y:=by
 induction h with
 | nil=>exact ⟨.nil,by simp⟩
 | cons h aP _ aS=>exact ⟨.cons (.tmp h.bT) aS.1,oP aP aS.2⟩
inductive rG (g:aW):List Operand->List ag->Prop
 | nil:rG g [] []
 | cons {x:Operand}{y:ag}{xs:List Operand}{ys:List ag}(h:Rd g x y) (aP:dc y) (aJ:rG g xs ys):rG g (x::xs) (y::ys)
theorem rG.spec {xs:List Operand}{ys:List ag}(h:rG g xs ys):iH g xs=some ys/\∀ y∈ys,dc y:=by
 induction h with
 | nil=>exact ⟨rfl,by simp⟩
 | cons h aP _ aS=>exact ⟨by simp only [iH,h.bT,aS.1],oP aP aS.2⟩
theorem cu.QJ {xs:List Operand}{iC:Array TypeId}{f:FuncId}{ys:List ag}{outs:List (Option ag)}{res:ag}(jb:cc P f ys outs res) (bn:dB P f=true) (J:rG g xs ys) (bh:wu outs=true) (aw:dc res) :
  cu P g (.call { callee:=.value (.func f),args:=xs.toArray,argTypes:=iC }) res:=by
 have pw:outs=ys.map λ_=>Option.none:=by
  apply List.ext_getElem?;intro k;rw [List.getElem?_map];cases az:ys[k]? with
  | none=>rw [List.getElem?_eq_none (by rw [jb.1]; exact List.getElem?_eq_none_iff.1 az)]; rfl
  | some y =>
   have hk:k<outs.length:=by rw [jb.1]; exact (List.getElem?_eq_some_iff.1 az).1
   have h1:=List.getElem?_eq_getElem hk;rw [h1];cases al:outs[k] with
   | none=>rfl
   | some x=>rw [al] at h1; exact absurd h1 (DG bh k x)
 exact .plain (first:=[]) (caps:=[]) (ys:=ys) rfl (by simpa using J.spec.1) bn (by simpa using J.spec.2) (by simpa [<- pw] using jb) aw
end
end Go.Own
namespace Go.Own
open Go
def zi (s:ByteArray) (m:Int):Int:=((s[m.toNat]?.getD 0).toNat:Nat)
def vx (s:ByteArray) (m n:Int):ByteArray:=s.extract m.toNat n.toNat
section
variable {P:Program}{N:dK}{ops:Array Oper}{g:aW}{K:aW->Prop}{l:List Oper}
variable {d:Nat}{op:Op}{ty:TypeId}{pos:String}{after:Array Edge}{x:ag}{a b:Operand}{t t2:TypeId}{k:IntKind}{m n:Int}{iw:Option (Nat × Bool)}
theorem dp.O1 {s:ByteArray}{i:Operand}(J:Rd g a (.lit (.string s))) (hi:Rd g i (.lit (.int k m))) (aJ:qz P t=true) (h:0<=m/\m<s.size):dp P g (.index t a i) ty (.lit (.int .u8 (zi s m))):=by
 obtain ⟨ae,rfl⟩:=Int.eq_ofNat_of_zero_le h.1;have aa:ae<s.size:=by omega
 have aK:s[ae]?=some s[ae]:=getElem?_pos s ae aa;have:zi s (ae:Int)=(s[ae].toNat:Nat):=by simp [zi,aK]
 rw [this];exact .Dq J.bT hi.bT aJ aK
theorem dp.Is {s:ByteArray}{lo hi:Operand}{pE:IntKind}(J:Rd g a (.lit (.string s))) (ao:Rd g lo (.lit (.int k m))) (ca:Rd g hi (.lit (.int pE n))) (aJ:qz P t=true) (h:0<=m/\m<=n/\n<=s.size) :
  dp P g (.slice t a (some lo) (some hi) none) ty (.lit (.string (vx s m n))):=by
 obtain ⟨i,rfl⟩:=Int.eq_ofNat_of_zero_le h.1;obtain ⟨ae,rfl⟩:=Int.eq_ofNat_of_zero_le (show 0<=n by omega);exact .D8 J.bT ⟨_,ao.bT⟩ ⟨_,ca.bT⟩ aJ (by omega) (by omega)
theorem Qr {s:ByteArray}{m n:Int}(h:0<=m/\m<=n/\n<=s.size):((vx s m n).size:Int)=n - m:=by
 unfold vx;rw [ByteArray.size_extract];omega
theorem dp.bytes {z p iW:Nat}{cs:List ag}{xs:List Int}(J:g p=some (.own 1 iW cs)) (hs:cs=xs.map λb=>.lit (.int .u8 b)) (ao:cs.length=iW) (aJ:vj P t t2=true) (_hz:z=0):dp P g (.convert t t2 (.tmp p)) ty (.lit (.string (strOfNums xs))) :=
 .Ct (p:=⟨p,[]⟩) (n:=iW) (N:=iW) (cs:=cs) (by simp [bT,J,rn,im]) (by simp [b',J,ag.at]) (Nat.le_refl _) (by rw [List.take_of_length_le (by omega)]; exact hs) aJ
def j7 (P:Program) (e:TypeId) (z:Nat):Bool :=
 match (P.info? e).bind (·.zero) with
 | some v=>v.cells.size == z
 | none=>false
theorem IW {e:TypeId}{z:Nat}(h:j7 P e z=true):∃ v,(P.info? e).bind (·.zero)=some v/\v.cells.size=z:=by
 unfold j7 at h
 split at h
 ·rename_i v hv; exact ⟨v,hv,by simpa using h⟩
 ·cases h
inductive ss (g:aW):List Operand->List Value->Prop
 | nil:ss g [] []
 | cons {x:Operand}{v:Value}{xs:List Operand}{vs:List Value}(h:Rd g x (.lit v)) (aJ:ss g xs vs):ss g (x::xs) (v::vs)
theorem ss.iH {xs:List Operand}{vs:List Value}(h:ss g xs vs):iH g xs=some (vs.map .lit):=by
 induction h with
 | nil=>rfl
 | cons h _ aS=>simp only [Own.iH,h.bT,aS]; rfl
theorem ss.map {xs:List Operand}{vs:List Value}(h:ss g xs vs):xs.map (bT g)=vs.map λv=>some (.lit v):=by
 induction h with
 | nil=>rfl
 | cons h _ aS=>simp only [List.map_cons,h.bT,aS]
theorem dv.row {e:TypeId}{xs:List Operand}{vs:List Value}{parts:Array (Nat × Operand)}{h2:Nat}(J:ss g xs vs) (aG:parts.toList=xs.mapIdx (λi x=>(i,x))) (aP:xs.length=h2) (aJ:ft P t e 1=true) (bA:j7 P e 1=true) (aK:Nat.ble h2 1000=true) :
  dv P g (.buildSlice t h2 parts) ty (.own 1 h2 (vs.map .lit)):=by
 subst aP;have kD:=Nat.le_of_ble_eq_true aK;refine .rk (.buildSlice aJ aG J.iH (λy az=>?_) ?_ (by omega) (by omega) (.inr (IW bA)))
 ·obtain ⟨v,_,rfl⟩:=List.mem_map.1 az;exact ⟨[.lit v],rfl,rfl⟩
 ·generalize vs=l
  induction l with
  | nil=>rfl
  | cons v l aS=>simp only [List.map_cons,o_,lU,aS]; rfl
inductive sw (g:aW):List Nat->List (Nat × ag)->Prop
 | nil:sw g [] []
 | some {s:Nat}{x:ag}{si:List Nat}{l:List (Nat × ag)}(h:g s=some x) (aP:dc x) (aJ:sw g si l):sw g (s::si) ((s,x)::l)
 | none {s:Nat}{si:List Nat}{l:List (Nat × ag)}(aJ:sw g si l):sw g (s::si) l
theorem sw.spec {g:aW}{si:List Nat}{l:List (Nat × ag)}(h:sw g si l):∀ t x,get l t=Option.some x->g t=Option.some x/\dc x:=by
 induction h with
 | nil=>intro t x J; cases J
 | @some s y si l h aP _ aS =>
  intro t x J;simp only [get] at J
  split at J
  ·rename_i e; subst e; cases J; exact ⟨h,aP⟩
  ·exact aS t x J
 | none _ aS=>exact aS
theorem sw.gd {g:aW}{si:List Nat}{l:List (Nat × ag)}(h:sw g si l):kS g (get l) :=
 ⟨λt x J=>⟨x,(h.spec t x J).1,.refl⟩,λt x J=>.bL (h.spec t x J).2,λt z q n m new J=>by have:=(h.spec t _ J).2; cases this⟩
end
end Go.Own
namespace Go.Own
open Go
def nP (s:ByteArray) (n:Nat):Prop:=s.size<=n
theorem nP.app {s u:ByteArray}{a b:Nat}(h:nP s a) (aR:nP u b):nP (s++u) (a+b):=by
 unfold nP at *;rw [ByteArray.size_append]; omega
theorem nP.cut {s:ByteArray}{a:Nat}{m n:Int}(h:nP s a):nP (vx s m n) a:=by
 unfold nP vx at *;rw [ByteArray.size_extract]; omega
theorem nP.const {xs:Array UInt8}:nP ⟨xs⟩ xs.size:=Nat.le_refl _
theorem nP.of {s:ByteArray}{n:Nat}(h:s.size<=n):nP s n:=h
theorem nP.self {s:ByteArray}:nP s s.size:=Nat.le_refl _
section
variable {P:Program}{g:aW}{ty:TypeId}{a b:Operand}{t t2:TypeId}{N:dK}{ops:Array Oper}{K:aW->Prop}{l:List Oper}{d:Nat}{pos:String}{after:Array Edge}{iw:Option (Nat × Bool)}
theorem W.Kk {c:Operand}{x y:Code}{Φ:Exit->aW->Prop}{b:Bool}(ab:Rd g c (.lit (.bool b))) (fG:b=true->W P N x g Φ) (aT:b=false->W P N y g Φ):W P N (.cond c x y) g Φ:=by
 cases b with
 | true=>exact .Kl ab.bT (fG rfl)
 | false=>exact .E' ab.bT (aT rfl)
theorem U9 {c e:Bool}(aJ:P.underlying t=some .bool) (w:World):(do eqGuard .eql t a b (.bool c) (.bool e); binOp .eql t (.bool c) (.bool e):Sem Value).run P w=.ok (.bool (c == e)) w:=by
 have h:=run_equal_bool w t c e aJ;simp [eqGuard,binOp,h]
def Cg (P:Program) (t:TypeId):Bool :=
 match P.underlying t with
 | some .bool=>true
 | _=>false
theorem O_ (h:Cg P t=true):P.underlying t=some .bool:=by
 unfold Cg at h
 split at h
 ·assumption
 ·cases h
def sa (P:Program) (t:TypeId) (k:IntKind):Bool :=
 match P.underlying t with
 | some (.int lv)=>lv == k
 | _=>false
theorem Mi {k:IntKind}(h:sa P t k=true):P.underlying t=some (.int k):=by
 unfold sa at h
 split at h
 ·rename_i lv hk; rw [hk]; have:lv=k:=by simpa using h
  rw [this]
 ·cases h
theorem dp.Qn {k lv:IntKind}{m:Int}(J:Rd g a (.lit (.int k m))) (aL:sa P t k=true) (aU:sa P t2 lv=true):dp P g (.convert t t2 a) ty (.lit (.int lv (lv.wrap m))) :=
 .conv J.bT rfl λw=>by simp [convert,run_underlying (Mi aL),run_underlying (Mi aU),Conv.intToInt]
inductive Bytes (g:aW):List Operand->List Int->Prop
 | nil:Bytes g [] []
 | cons {x:Operand}{v:Int}{xs:List Operand}{vs:List Int}(h:Rd g x (.lit (.int .u8 v))) (aJ:Bytes g xs vs):Bytes g (x::xs) (v::vs)
theorem Bytes.lits {xs:List Operand}{vs:List Int}(h:Bytes g xs vs):ss g xs (vs.map λb=>.int .u8 b):=by
 induction h with
 | nil=>exact .nil
 | cons h _ aS=>exact .cons h aS
end
end Go.Own
namespace Go.Own
open Go Go.RowKit
theorem c7.lits {w:World}(vs:List Value) (h:∀ v∈vs,v.oneCell'=true):c7 w (λ_=>False) vs.toArray (o9 (vs.map .lit)) (λ_=>cW):=by
 refine ⟨λt x J=>?_,λ_ _ _ h=>h,λ_ _ _ h=>h.elim,λ_ _ h=>h.elim,λ_ h=>h.elim,λt t' z p n m new cK cY bS di h1 _=>?_⟩
 ·simp only [o9,List.getElem?_map] at J;cases hv:vs[t]? with
  | none=>rw [hv] at J; cases J
  | some v =>
   rw [hv] at J;simp only [Option.map_some,Option.some.injEq] at J;subst J;exact ⟨v,by simpa using hv,.tree (.lit (h v (List.mem_of_getElem? hv)) λ_ h=>h)⟩
 ·simp only [o9,List.getElem?_map] at h1;cases hv:vs[t]? with
  | none=>rw [hv] at h1; cases h1
  | some v=>rw [hv] at h1; cases h1
end Go.Own
namespace Go.Own
open Go
section
variable {P:Program}{g:aW}{ty:TypeId}{a b:Operand}{t t2:TypeId}{N:dK}{ops:Array Oper}{K:aW->Prop}{l:List Oper}{d:Nat}{pos:String}{after:Array Edge}{iw:Option (Nat × Bool)}
theorem dp.pH {z n cK:Nat}{p:Place}{e:TypeId}(J:Rd g a (.bo z p n)) (aJ:ft P t e cK=true):dp P g (.call { callee:=.builtin .len,args:=#[a],argTypes:=#[t] }) ty (.lit (.int .i64 n)):=.AK J.bT aJ
theorem dp.gh {z n cK:Nat}{cs:List ag}{e:TypeId}(J:Rd g a (.aF z n cs)) (aJ:ft P t e cK=true):dp P g (.call { callee:=.builtin .len,args:=#[a],argTypes:=#[t] }) ty (.lit (.int .i64 n)):=.AL J.bT aJ
end
end Go.Own
namespace Go.Own
open Go
end Go.Own
namespace Go.Own
open Go
structure cD (α:Type) where
 z:Nat
 cells:α->List ag
 len:∀ a,(cells a).length=z
 bL:∀ a,∀ x∈cells a,dc x
variable {α β S R:Type}
def cj (e:cD α) (l:List α):List ag:=l.flatMap e.cells
abbrev ak (e:cD α) (l:List α):ag:=.own e.z l.length (cj e l)
abbrev aj (e:cD α) (l:List α):ag:=.aF e.z l.length (cj e l)
abbrev j (n:Int):ag:=.lit (.int .i64 n)
abbrev lT (n:Int):ag:=.lit (.int .u8 n)
abbrev a' (b:Bool):ag:=.lit (.bool b)
abbrev af (s:ByteArray):ag:=.lit (.string s)
abbrev aO (n:Int):Int:=IntKind.i64.wrap n
abbrev hh (n:Int):Int:=IntKind.u8.wrap n
theorem od (e:cD α) (l:List α):(cj e l).length=l.length * e.z:=by
 induction l with
 | nil=>simp [cj]
 | cons a l aS =>
  have:cj e (a::l)=e.cells a++cj e l:=by simp [cj]
  rw [this,List.length_append,e.len,aS,List.length_cons,Nat.add_mul]; omega
theorem oe (e:cD α) (l:List α):∀ x∈cj e l,dc x:=by
 intro x J;obtain ⟨a,_,h⟩:=List.mem_flatMap.1 J;exact e.bL a x h
theorem wV (e:cD α) (l m:List α):cj e (l++m)=cj e l++cj e m:=by simp [cj]
theorem Bu (e:cD α):∀ (l:List α) (i:Nat),(cj e l).drop (i * e.z)=cj e (l.drop i)
 | l,0=>by simp
 | [],i+1=>by simp [cj]
 | a::l,i+1=>by
  have h:cj e (a::l)=e.cells a++cj e l:=by simp [cj]
  rw [h,List.drop_append,e.len,List.drop_eq_nil_of_le (by rw [e.len,Nat.add_mul]; omega)];have:(i+1) * e.z - e.z=i * e.z:=by rw [Nat.add_mul]; omega
  rw [this,List.nil_append,Bu e l i]; rfl
theorem yM (e:cD α):∀ (l:List α) (i:Nat),(cj e l).take (i * e.z)=cj e (l.take i)
 | l,0=>by simp [cj]
 | [],i+1=>by simp [cj]
 | a::l,i+1=>by
  have h:cj e (a::l)=e.cells a++cj e l:=by simp [cj]
  rw [h,List.take_append,e.len,List.take_of_length_le (by rw [e.len,Nat.add_mul]; omega)];have:(i+1) * e.z - e.z=i * e.z:=by rw [Nat.add_mul]; omega
  rw [this,yM e l i]; simp [cj]
def idx (l:List α) (i:Int):Option α:=if 0<=i then l[i.toNat]? else none
theorem qk {l:List α}{i:Int}{y:α}(h:idx l i=some y):0<=i/\i<l.length/\l[i.toNat]?=some y:=by
 unfold idx at h
 split at h
 ·have:=(List.getElem?_eq_some_iff.1 h).1;exact ⟨by assumption,by omega,h⟩
 ·cases h
theorem Nh (e:cD α) {l:List α}{i:Int}{y:α}(h:idx l i=some y):(cj e l).drop (i.toNat * e.z)=e.cells y++cj e (l.drop (i.toNat+1)):=by
 obtain ⟨bd,h1,al⟩:=qk h;rw [Bu];obtain ⟨a_,he⟩:=List.getElem?_eq_some_iff.1 al;rw [List.drop_eq_getElem_cons a_,he]; simp [cj]
theorem Ng (e:cD α) {l:List α}{i:Int}{y:α}(h:idx l i=some y) {k:Nat}{x:ag}(hk:(e.cells y)[k]?=some x):(cj e l)[i.toNat * e.z+k]?=some x:=by
 have a_:=(List.getElem?_eq_some_iff.1 hk).1;rw [<- List.getElem?_drop,Nh e h,List.getElem?_append_left a_]; exact hk
abbrev lim:Nat:=1099511627776
def fuel:Nat:=1000000000000000000
def iter (f:S->Option (S ⊕ R)):Nat->S->Option R
 | 0,_=>none
 | n+1,s=>match f s with
  | none=>none
  | some (.inl eV)=>iter f n eV
  | some (.inr r)=>some r
def cJ (f:S->Option (S ⊕ R)) (s:S):Option R:=iter f fuel s
theorem aB {o:Option α}{f:α->Option β}{r:β}(h:o.bind f=some r):∃ y,o=some y/\f y=some r:=Option.bind_eq_some_iff.1 h
theorem PD {b:Bool}{x y o:α}(aK:b=true) (h:cond b x y=o):x=o:=by subst aK; exact h
theorem PC {b:Bool}{x y o:α}(aK:b=false) (h:cond b x y=o):y=o:=by subst aK; exact h
theorem cB {b:Bool}{x y o:α}(h:cond b x y=o):(b=true/\x=o)\/(b=false/\y=o):=by cases b <;> simp_all
theorem ax {a b:α}(h:some a=some b):a=b:=Option.some.inj h
class cS (x:ag):Prop where bL:dc x
class eU (cs:List ag):Prop where bL:∀ x∈cs,dc x
instance {v:Value}:cS (.lit v):=⟨.lit⟩
instance:cS .aN:=⟨.aN⟩
instance:cS .dead:=⟨.dead⟩
instance {z n:Nat}{cs:List ag} [h:eU cs]:cS (.aF z n cs):=⟨.aF h.bL⟩
instance {z n:Nat}{cs:List ag} [h:eU cs]:cS (.own z n cs):=⟨.own h.bL⟩
instance {cs:List ag} [h:eU cs]:cS (.obj cs):=⟨.obj h.bL⟩
instance {cs:List ag} [h:eU cs]:cS (.agg cs):=⟨.agg h.bL⟩
instance {cs:List ag} [h:eU cs]:cS (.cC cs):=⟨.cC h.bL⟩
instance {cs:List ag} [h:eU cs]:cS (.bk cs):=⟨.bk h.bL⟩
instance {f:Fn}{a b:List ag} [h:eU a] [aR:eU b]:cS (.et f a b):=⟨.et h.bL aR.bL⟩
instance:eU []:=⟨by simp⟩
instance {x:ag}{cs:List ag} [h:cS x] [aR:eU cs]:eU (x::cs):=⟨oP h.bL aR.bL⟩
instance {e:cD α}{l:List α}:eU (cj e l):=⟨oe e l⟩
instance {e:cD α}{a:α}:eU (e.cells a):=⟨e.bL a⟩
instance {a b:List ag} [h:eU a] [aR:eU b]:eU (a++b):=⟨λx J=>(List.mem_append.1 J).elim (h.bL x) (aR.bL x)⟩
instance {a:List ag}{n:Nat} [h:eU a]:eU (a.drop n):=⟨λx J=>h.bL x (List.mem_of_mem_drop J)⟩
instance {a:List ag}{n:Nat} [h:eU a]:eU (a.take n):=⟨λx J=>h.bL x (List.mem_of_mem_take J)⟩
instance {v:Value}{n:Nat}:eU (List.replicate n (.lit v)):=⟨λx J=>by rw [(List.mem_replicate.1 J).2]; exact .lit⟩
abbrev cD.one (f:α->ag) (h:∀ a,dc (f a)):cD α:=⟨1,λa=>[f a],λ_=>rfl,λa x J=>by rw [List.mem_singleton.1 J]; exact h a⟩
def aM:cD Int:=.one (λn=>j n) λ_=>.lit
def nT:cD Int:=.one (λn=>lT n) λ_=>.lit
def bJ:cD Bool:=.one (λb=>a' b) λ_=>.lit
def cA:cD ByteArray:=.one (λs=>af s) λ_=>.lit
def fb (e:cD α):cD (List α):=.one (λl=>ak e l) λl=>.own (oe e l)
def bU (e:cD α):cD (List α):=.one (λl=>aj e l) λl=>.aF (oe e l)
inductive Trim (b:Bool) (g g2:aW):List (Nat × ag)->Prop
 | nil:Trim b g g2 []
 | n {s:Nat}{x:ag}{l:List (Nat × ag)}(h:g s=some x) [aP:cS x] (t:Trim b g g2 l):Trim b g g2 ((s,x)::l)
 | r {s:Nat}{x:ag}{l:List (Nat × ag)}(h:g s=some x) (aP:e3 g2 x) (aG:∀ z p n m new,x≠.b8 z p n m new) (t:Trim b g g2 l):Trim b g g2 ((s,x)::l)
 | e {s:Nat}{x y:ag}{l:List (Nat × ag)}(h:g s=some y) (he:y=x) [aP:cS x] (t:Trim b g g2 l):Trim b g g2 ((s,x)::l)
 | w {s:Nat}{x y:ag}{l:List (Nat × ag)}(aK:b=true) (h:g s=some y) (hw:ow y x) [aP:cS x] (t:Trim b g g2 l):Trim b g g2 ((s,x)::l)
theorem Trim.spec {b:Bool}{g g2:aW}{l:List (Nat × ag)}(h:Trim b g g2 l):∀ t x,get l t=some x->(∃ y,g t=some y/\ow y x/\(b=false->y=x))/\e3 g2 x/\∀ z p n m new,x≠.b8 z p n m new:=by
 have fT:∀ {x:ag},dc x->∀ z p n m new,x≠.b8 z p n m new:=by rintro x h z p n m new rfl; cases h
 induction h with
 | nil=>intro t x J; cases J
 | @n _ _ _ h aP _ aS =>
  intro t x J; simp only [get] at J
  split at J
  ·rename_i e; subst e; cases J; exact ⟨⟨_,h,.refl,λ_=>rfl⟩,.bL aP.bL,fT aP.bL⟩
  ·exact aS t x J
 | r h aP aG _ aS =>
  intro t x J; simp only [get] at J
  split at J
  ·rename_i e; subst e; cases J; exact ⟨⟨_,h,.refl,λ_=>rfl⟩,aP,aG⟩
  ·exact aS t x J
 | @e _ _ _ _ h he aP _ aS =>
  intro t x J; simp only [get] at J
  split at J
  ·rename_i e; subst e he; cases J; exact ⟨⟨_,h,.refl,λ_=>rfl⟩,.bL aP.bL,fT aP.bL⟩
  ·exact aS t x J
 | @w _ _ _ _ aK h hw aP _ aS =>
  intro t x J; simp only [get] at J
  split at J
  ·rename_i e; subst e; cases J; exact ⟨⟨_,h,hw,λh=>by rw [aK] at h; cases h⟩,.bL aP.bL,fT aP.bL⟩
  ·exact aS t x J
theorem Trim.gd {b:Bool}{g:aW}{l:List (Nat × ag)}(h:Trim b g (get l) l):kS g (get l) :=
 ⟨λt x J=>by obtain ⟨⟨y,h1,al,_⟩,_⟩:=h.spec t x J; exact ⟨y,h1,al⟩,λt x J=>(h.spec t x J).2.1,λt z q n m new J=>(h.spec t _ J).2.2 _ _ _ _ _ rfl⟩
theorem Trim.keep {g:aW}{l:List (Nat × ag)}(h:Trim false g (get l) l):fu g (get l) :=
 ⟨λt x J=>by obtain ⟨⟨y,h1,_,aQ⟩,_⟩:=h.spec t x J; rw [<- aQ rfl]; exact h1,λt x J=>(h.spec t x J).2.1,λt z q n m new J=>(h.spec t _ J).2.2 _ _ _ _ _ rfl⟩
section
variable {P:Program}{N:dK}{ops:Array Oper}{g:aW}{K:aW->Prop}{l:List Oper}{d:Nat}{op:Op}{ty:TypeId}{pos:String}{after:Array Edge}{x:ag}{iw:Option (Nat × Bool)}
def hA (P:Program) (N:dK) (c:Code) (G G1:List (Nat × ag)):Prop:=W P N c (get G) λe g'=>e=.normal/\kS g' (get G1)
theorem W.a1 {A B:Code}{G G1:List (Nat × ag)}{Φ:Exit->aW->Prop}(h1:hA P N A G G1) (al:W P N B (get G1) Φ):W P N (.seq A B) (get G) Φ:=by
 refine W.seq (W.out h1 λe g' h=>⟨get G1,h.2,?_⟩);obtain ⟨rfl,_⟩:=h;exact al
theorem W.a8 {A B:Code}{G:List (Nat × ag)}{Φ:Exit->aW->Prop}(h:W P N A (get G) (tt (λg1=>W P N B g1 Φ) Φ)):W P N (.seq A B) (get G) Φ:=W.seq h
theorem av.fin {G1:List (Nat × ag)}(h:Trim true g (get G1) G1):av P N ops [] g λg'=>kS g' (get G1):=.nil h.gd
theorem av.U0 {G1:List (Nat × ag)}(h:Trim false g (get G1) G1) (hk:av P N ops l (get G1) K):av P N ops l g K:=.forget h.keep hk
theorem av.v (aG:dv P g op ty x) (b5:N.ok d=true) (bn:g d=none) (ba:gD g ops iw) (hk:av P N ops l (e5 g d x) K):av P N ops (⟨some d,op,ty,pos,after,iw⟩::l) g K:=.VX aG b5 bn ba hk
theorem av.c (aG:cu P g op x) (b5:N.ok d=true) (bn:g d=none) (ba:gD g ops iw) (hk:av P N ops l (e5 g d x) K):av P N ops (⟨some d,op,ty,pos,after,iw⟩::l) g K:=.call aG b5 bn ba hk
theorem gD.jT {ae t:Nat}{b c:Bool}(h:(ops[ae]?).bind (·.dst)=some t) (ba:g t=some (.lit (.bool c))) (aK:c=b):gD g ops (some (ae,b)):=by subst aK; exact .yes h ba
theorem av.ps {ae t':Nat}{b c:Bool}(h:(ops[ae]?).bind (·.dst)=some t') (ba:g t'=some (.lit (.bool c))) (aK:c=!b) (b5:N.ok d=true) (bn:g d=none) (hk:av P N ops l (e5 g d (.cC [])) K):av P N ops (⟨some d,op,ty,pos,after,some (ae,b)⟩::l) g K:=by
 subst aK; exact .yQ rfl b5 bn (r:=some (.cC [])) (.inr (.inl ⟨⟨t',h,.inl ⟨_,ba,by cases b <;> rfl⟩⟩,rfl⟩)) hk
theorem av.pu {ae t':Nat}{b:Bool}(h:(ops[ae]?).bind (·.dst)=some t') (ba:g t'=some (.cC [])) (b5:N.ok d=true) (bn:g d=none) (hk:av P N ops l (e5 g d (.cC [])) K):av P N ops (⟨some d,op,ty,pos,after,some (ae,b)⟩::l) g K :=
 .yQ rfl b5 bn (r:=some (.cC [])) (.inr (.inl ⟨⟨t',h,.inr ⟨ba,rfl⟩⟩,rfl⟩)) hk
theorem hA.skip {G G1:List (Nat × ag)}(h:Trim true (get G) (get G1) G1):hA P N .skip G G1:=W.skip ⟨rfl,h.gd⟩
theorem hA.cB {t:Nat}{A B:Code}{b:Bool}{G G1:List (Nat × ag)}(ab:get G t=some (a' b)) (fG:b=true->hA P N A G G1) (aT:b=false->hA P N B G G1):hA P N (.cond (.tmp t) A B) G G1:=W.Kk (.lit ab) fG aT
theorem W.cB {t:Nat}{A B:Code}{b:Bool}{G:List (Nat × ag)}{Φ:Exit->aW->Prop}(ab:get G t=some (a' b)) (fG:b=true->W P N A (get G) Φ) (aT:b=false->W P N B (get G) Φ):W P N (.cond (.tmp t) A B) (get G) Φ:=W.Kk (.lit ab) fG aT
theorem hA.a1 {A B:Code}{G G1 G2:List (Nat × ag)}(h1:hA P N A G G1) (al:hA P N B G1 G2):hA P N (.seq A B) G G2:=W.a1 h1 al
theorem hA.Cf {id:Nat}{c:Code}{G G1:List (Nat × ag)}(h:W P N c (get G) λe g'=>(e=.normal\/e=.exit id)/\kS g' (get G1)):hA P N (.block id c) G G1:=by
 refine W.block (h.mono ?_);rintro e g' ⟨rfl | rfl,h⟩
 ·exact ⟨rfl,h⟩
 ·show if id=id then _ else _
  rw [if_pos rfl]; exact ⟨rfl,h⟩
end
end Go.Own
namespace Go.Own
open Go
variable {α β:Type}
def kV (s:ByteArray) (m:Int):Option Int:=if 0<=m/\m<s.size then some (zi s m) else none
def vv (s:ByteArray) (m n:Int):Option ByteArray:=if 0<=m/\m<=n/\n<=s.size then some (vx s m n) else none
def sE (s u:ByteArray):Option ByteArray:=if s.size+u.size<=4611686018427387904 then some (s++u) else none
def DU (m n:Int):Option Int:=if n=0 then none else some (aO (m.tdiv n))
def qu (m n:Int):Option Int:=if n=0 then none else some (m.tmod n)
def oT (l:List α) (m n:Int):Option (List α):=if 0<=m/\m<=n/\n<=l.length then some ((l.drop m.toNat).take (n - m).toNat) else none
def lE:ag->Bool
 | .lit _ | .aN | .aF .. | .bk _ | .et .. | .ptr .. | .bo .. | .sub .. | .iR .. | .imp ..=>true
 | _=>false
theorem QY {d:Nat}{p:Place}{x:ag}(h:lE x=true):im d p x=x:=by
 cases x <;> simp [lE] at h <;> cases d <;> rfl
theorem QZ {t:Nat}{x:ag}(h:lE x=true):rn t x=x:=by
 cases x <;> simp [lE] at h <;> rfl
theorem zQ {d:Nat}{q:Nat->Place}{cs:List ag}(h:cs.all lE=true):(cs.mapIdx λi x=>im d (q i) x)=cs:=by
 apply List.ext_getElem?;intro k;rw [List.getElem?_mapIdx];cases hk:cs[k]? with
 | none=>rfl
 | some x=>simp only [Option.map_some,QY (List.all_eq_true.1 h x (List.mem_of_getElem? hk))]
section
variable {P:Program}{N:dK}{ops:Array Oper}{g:aW}{K:aW->Prop}{l:List Oper}{d:Nat}{ty t t2:TypeId}{a b c:Operand}{k lv:IntKind}{m n:Int}{s u:ByteArray}{p q e:Bool}
theorem Rd.f {t:Nat}{x:ag}(h:g t=some x) (bn:lE x=true):Own.bT g (.tmp t)=some x:=by simp only [Own.bT,h,Option.map_some,QZ bn]
theorem Rd.cm {t:Nat}{cs:List ag}(h:g t=some (.agg cs)) (bn:cs.all lE=true):Rd g (.tmp t) (.agg cs):=.agg h (zQ bn)
theorem Rd.u4 {t:Nat}{cs:List ag}(h:g t=some (.cC cs)) (bn:cs.all lE=true):Rd g (.tmp t) (.cC cs):=.cC h (zQ bn)
namespace O
theorem aA {y:ag}(h:Rd g a y):dv P g (.move a) ty y:=.fq (.move h.bT)
theorem dz {y:ag}(h:Rd g a y):dv P g (.assign a) ty y:=.fq (.assign h.bT)
theorem dx {y:ag}(ab:Rd g c (a' p)) (aK:p=true) (h:Rd g a y):dv P g (.pick c a b) ty y:=by subst aK; exact .fq (.UU ab h)
theorem cy {y:ag}(ab:Rd g c (a' p)) (aK:p=false) (h:Rd g b y):dv P g (.pick c a b) ty y:=by subst aK; exact .fq (.UT ab h)
theorem add (J:Rd g a (.lit (.int k m))) (az:Rd g b (.lit (.int k n))):dv P g (.binOp .add t a b t2) ty (.lit (.int k (k.wrap (m+n)))):=.fq (.add J az)
theorem sub (J:Rd g a (.lit (.int k m))) (az:Rd g b (.lit (.int k n))):dv P g (.binOp .sub t a b t2) ty (.lit (.int k (k.wrap (m - n)))):=.fq (.Vs J az)
theorem mul (J:Rd g a (.lit (.int k m))) (az:Rd g b (.lit (.int k n))):dv P g (.binOp .mul t a b t2) ty (.lit (.int k (k.wrap (m * n)))):=.fq (.mul J az)
theorem quo {r:Int}(J:Rd g a (j m)) (az:Rd g b (j n)) (h:DU m n=some r):dv P g (.binOp .quo t a b t2) ty (j r):=by
 unfold DU at h
 split at h
 ·cases h
 ·cases h; exact .fq (.quo J az (by assumption))
theorem rem {r:Int}(J:Rd g a (j m)) (az:Rd g b (j n)) (h:qu m n=some r):dv P g (.binOp .rem t a b t2) ty (j r):=by
 unfold qu at h
 split at h
 ·cases h
 ·cases h; exact .fq (.rem J az (by assumption))
theorem lss (J:Rd g a (.lit (.int k m))) (az:Rd g b (.lit (.int k n))):dv P g (.binOp .lss t a b t2) ty (a' (decide (m<n))):=.fq (.lss J az (by simp))
theorem leq (J:Rd g a (.lit (.int k m))) (az:Rd g b (.lit (.int k n))):dv P g (.binOp .leq t a b t2) ty (a' (decide (m<=n))):=.fq (.leq J az (by simp))
theorem gtr (J:Rd g a (.lit (.int k m))) (az:Rd g b (.lit (.int k n))):dv P g (.binOp .gtr t a b t2) ty (a' (decide (n<m))):=.fq (.gtr J az (by simp))
theorem geq (J:Rd g a (.lit (.int k m))) (az:Rd g b (.lit (.int k n))):dv P g (.binOp .geq t a b t2) ty (a' (decide (n<=m))):=.fq (.geq J az (by simp))
theorem eql (J:Rd g a (.lit (.int k m))) (az:Rd g b (.lit (.int k n))):dv P g (.binOp .eql t a b t2) ty (a' (decide (m=n))):=.fq (.eql J az (by simp))
theorem neq (J:Rd g a (.lit (.int k m))) (az:Rd g b (.lit (.int k n))):dv P g (.binOp .neq t a b t2) ty (a' (!decide (m=n))):=.fq (.neq J az (by simp))
theorem oy (J:Rd g a (af s)) (az:Rd g b (af u)):dv P g (.binOp .eql t a b t2) ty (a' (decide (s=u))):=.fq (.oy J az (by simp))
theorem mc (J:Rd g a (af s)) (az:Rd g b (af u)):dv P g (.binOp .neq t a b t2) ty (a' (!decide (s=u))):=.fq (.mc J az (by simp))
theorem QL (J:Rd g a (a' p)) (az:Rd g b (a' q)) (aJ:Cg P t=true):dv P g (.binOp .eql t a b t2) ty (a' (p == q)):=.fq (.bin J.bT az.bT rfl λw=>U9 (O_ aJ) w)
theorem neg (J:Rd g a (.lit (.int k m))):dv P g (.unOp .neg t a) ty (.lit (.int k (k.wrap (-m)))):=.fq (.un J.bT rfl λw=>by simp [Op.unary,Op.intArith])
theorem not (J:Rd g a (a' p)):dv P g (.unOp .not t a) ty (a' (!p)):=.fq (.not J)
theorem tS (J:Rd g a (.lit (.int k m))) (aL:sa P t k=true) (aU:sa P t2 lv=true):dv P g (.convert t t2 a) ty (.lit (.int lv (lv.wrap m))):=.fq (.Qn J aL aU)
theorem cat {r:ByteArray}(J:Rd g a (af s)) (az:Rd g b (af u)) (h:sE s u=some r):dv P g (.binOp .add t a b t2) ty (af r):=by
 unfold sE at h
 split at h
 ·cases h; exact .fq (.cat J az (by omega))
 ·cases h
theorem mR (J:Rd g a (af s)) (aJ:qz P t=true):dv P g (.call { callee:=.builtin .len,args:=#[a],argTypes:=#[t] }) ty (j s.size):=.fq (.mR J aJ)
theorem qL {r:Int}(J:Rd g a (af s)) (az:Rd g b (.lit (.int k m))) (aJ:qz P t=true) (h:kV s m=some r):dv P g (.index t a b) ty (lT r):=by
 unfold kV at h
 split at h
 ·cases h; exact .fq (.O1 J az aJ (by assumption))
 ·cases h
theorem yP {r:ByteArray}{pE:IntKind}(J:Rd g a (af s)) (ao:Rd g b (.lit (.int k m))) (ca:Rd g c (.lit (.int pE n))) (aJ:qz P t=true) (h:vv s m n=some r):dv P g (.slice t a (some b) (some c) none) ty (af r):=by
 unfold vv at h
 split at h
 ·cases h; exact .fq (.Is J ao ca aJ (by assumption))
 ·cases h
theorem gh {z cK n:Nat}{cs:List ag}{e:TypeId}(J:Rd g a (.aF z n cs)) (aJ:ft P t e cK=true):dv P g (.call { callee:=.builtin .len,args:=#[a],argTypes:=#[t] }) ty (j n):=.fq (.AL J.bT aJ)
theorem cx {en:cD α}{L:List α}{y:α}{e:TypeId}(J:Rd g a (.aF en.z L.length (cj en L))) (az:Rd g b (.lit (.int k m))) (aJ:ft P t e en.z=true) (h:idx L m=some y):dv P g (.indexAddr t a b) ty (.bk (en.cells y++cj en (L.drop (m.toNat+1)))):=by
 rw [<- Nh en h];obtain ⟨bd,h1,_⟩:=qk h;obtain ⟨ae,rfl⟩:=Int.eq_ofNat_of_zero_le bd;exact .fq (.Dp J.bT az.bT aJ (by omega))
theorem Iq {en:cD α}{L r:List α}{e:TypeId}(J:Rd g a (.aF en.z L.length (cj en L))) (ca:Rd g c (.lit (.int k n))) (aJ:ft P t e en.z=true) (h:oT L 0 n=some r):dv P g (.slice t a none (some c) none) ty (aj en r):=by
 unfold oT at h
 split at h
 ·rename_i ab;obtain ⟨_,h1,al⟩:=ab;cases h;obtain ⟨ae,rfl⟩:=Int.eq_ofNat_of_zero_le h1;have:=dp.Bz (P:=P) (ty:=ty) (t:=t) (l:=0) (h:=ae) (lo:=none) (hi:=some c) J.bT rfl ⟨_,ca.bT⟩ aJ (by omega) (by omega);rw [Bu,yM] at this;have dg:(((L.drop 0).take (ae - 0)).length)=ae - 0:=by rw [List.length_take,List.length_drop]; omega
  have c5:((ae:Int) - 0).toNat=ae - 0:=by omega
  rw [c5];unfold aj;have jo:(0:Int).toNat=0:=rfl;rw [jo,dg];exact .fq this
 ·cases h
theorem Ir {en:cD α}{L r:List α}{e:TypeId}(J:Rd g a (.aF en.z L.length (cj en L))) (ao:Rd g b (.lit (.int k m))) (aJ:ft P t e en.z=true) (h:oT L m L.length=some r):dv P g (.slice t a (some b) none none) ty (aj en r):=by
 unfold oT at h
 split at h
 ·rename_i ab;obtain ⟨bd,h1,al⟩:=ab;cases h;obtain ⟨i,rfl⟩:=Int.eq_ofNat_of_zero_le bd;have:=dp.Bz (P:=P) (ty:=ty) (t:=t) (l:=i) (h:=L.length) (lo:=some b) (hi:=none) J.bT ⟨_,ao.bT⟩ rfl aJ (by omega) (by omega);rw [Bu,yM] at this;have dg:(((L.drop i).take (L.length - i)).length)=L.length - i:=by rw [List.length_take,List.length_drop]; omega
  have c5:((L.length:Int) - (i:Int)).toNat=L.length - i:=by omega
  rw [Int.toNat_natCast,c5];unfold aj;rw [dg];exact .fq this
 ·cases h
theorem dP {eV f off:Nat}{cs:List ag}(J:Rd g a (.bk cs)) (bn:dy P eV f off t=true):dv P g (.fieldAddr eV a f) ty (.bk (cs.drop off)):=.fq (.CL J.bT bn)
theorem cQ {x:ag}{cs:List ag}(J:Rd g a (.bk cs)) (aJ:hI P t=true) (ab:cs.head?=some x):dv P g (.load t a) ty x:=by
 cases cs with
 | nil=>cases ab
 | cons y cs=>cases ab; exact .fq (.DA J.bT aJ)
theorem jy {z:Nat}{cs cs':List ag}(J:Rd g a (.bk cs)) (aJ:iP P t z=true) (ab:cs.take z=cs') (bA:cs'.length=z):dv P g (.load t a) ty (.agg cs'):=by
 subst ab;exact .fq (.DB J.bT aJ (by rw [List.length_take] at bA; omega))
theorem AS {cs:List ag}(J:Rd g a (.bk cs)):dv P g (.nilCheck a) ty (.bk cs):=.fq (.pI J.bT)
theorem e0 {p:Place}{k:Nat}(J:Rd g a (.ptr p k)):dv P g (.nilCheck a) ty (.ptr p k):=.fq (.DE J.bT)
theorem fd {eV f off:Nat}{cs:List ag}{x:ag}(J:Rd g a (.agg cs)) (bn:dy P eV f off t=true) (aJ:hI P t=true) (az:cs[off]?=some x):dv P g (.field eV a f) ty x:=.fq (.CK J.bT bn aJ az)
theorem ex {p i:Nat}{cs:List ag}{x y:ag}(J:g p=some (.cC cs)) (az:cs[i]?=some x) (aw:im 1 (Place.push ⟨p,[]⟩ i) x=y):dv P g (.extract (.tmp p) i) ty y :=
 .fq (.CA (cs:=cs.mapIdx λi x=>im 1 (Place.push ⟨p,[]⟩ i) x) (by simp [bT,J,rn,im]) (by simp [az,aw]))
theorem box {e:TypeId}{y:ag}{cs:List ag}(J:Rd g a y) (ab:lU y=some cs):dv P g (.box e a) ty (.obj cs):=.rk (.box J.bT ab)
theorem bm {eV f off k r:Nat}{cs:List ag}(aL:g r=some (.obj cs)) (J:Rd g a (.ptr ⟨r,[]⟩ k)) (bn:dy P eV f off t=true) (a_:Nat.blt (k+off) cs.length=true):dv P g (.fieldAddr eV a f) ty (.ptr ⟨r,[]⟩ (k+off)) :=
 .fq (.zO J.bT bn ⟨.obj cs,by simp [b',aL,ag.at],0,0,cs,.inr rfl,by simpa using a_⟩)
theorem c' {k r:Nat}{cs:List ag}{x y:ag}(aL:g r=some (.obj cs)) (J:Rd g a (.ptr ⟨r,[]⟩ k)) (aJ:hI P t=true) (ab:cs[k]?=some x) (az:im 0 ⟨r,[k]⟩ x=y):dv P g (.load t a) ty y:=by
 subst az;exact .fq (.AN (p:=⟨r,[]⟩) J.bT aJ (by simp [b',aL,ag.at,Place.push,ag.kids,ab]))
theorem d_ {k r z:Nat}{cs cs':List ag}(aL:g r=some (.obj cs)) (J:Rd g a (.ptr ⟨r,[]⟩ k)) (aJ:iP P t z=true) (hk:Nat.ble (k+z) cs.length=true) (ab:(((cs.drop k).take z).mapIdx λi x=>im 0 ⟨r,[k+i]⟩ x)=cs'):dv P g (.load t a) ty (.agg cs'):=by
 subst ab;exact .fq (.yj (p:=⟨r,[]⟩) (n:=0) (z:=0) J.bT aJ (by simp [b',aL,ag.at]) (.inr rfl) (Nat.le_of_ble_eq_true hk))
end O
theorem rG.bX {x:Operand}{y:ag}{xs:List Operand}{ys:List ag}(h:Rd g x y) [aP:cS y] (aJ:rG g xs ys):rG g (x::xs) (y::ys):=.cons h aP.bL aJ
theorem cu.go {xs:List Operand}{iC:Array TypeId}{f:FuncId}{ys:List ag}{outs:List (Option ag)}{res:ag}(J:rG g xs ys) (jb:cc P f ys outs res) (bn:dB P f=true) (bh:wu outs=true) [aw:cS res] :
  cu P g (.call { callee:=.value (.func f),args:=xs.toArray,argTypes:=iC }) res:=.QJ jb bn J bh aw.bL
inductive tJ (P:Program) (g:aW):List ResultVar->List ag->Prop
 | nil:tJ P g [] []
 | f {t:Nat}{x:ag}{rs:List ResultVar}{xs:List ag}(h:g t=some x) (bn:lE x=true) [aP:cS x] (aJ:tJ P g rs xs):tJ P g (.tmp t::rs) (x::xs)
 | c {a:Nat}{t:TypeId}{z:Nat}{cs:List ag}{rs:List ResultVar}{xs:List ag}(h:g a=some (.obj cs)) (aJ:iP P t z=true) (bA:cs.length=z) (bn:(0<z&&cs.all lE)=true) [aP:eU cs] (aw:tJ P g rs xs):tJ P g (.cell a t::rs) (.agg cs::xs)
theorem tJ.spec {rs:List ResultVar}{xs:List ag}(h:tJ P g rs xs):qI P g rs xs/\∀ x∈xs,dc x:=by
 induction h with
 | nil=>exact ⟨.nil,by simp⟩
 | @f t x rs xs h bn aP _ aS=>exact ⟨.cons (.tmp (Rd.f h bn)) aS.1,oP aP.bL aS.2⟩
 | @c a t z cs rs xs h aJ bA bn aP _ aS =>
  simp only [Bool.and_eq_true,decide_eq_true_eq] at bn;refine ⟨.cons ?_ aS.1,oP (.agg aP.bL) aS.2⟩;have J:Own.bT g (.tmp a)=some (.ptr ⟨a,[]⟩ 0):=by
   cases cs with
   | nil=>simp at bA; omega
   | cons c cs=>simp [Own.bT,h,rn,im]
  have:=dp.yj (P:=P) (ty:=t) (p:=⟨a,[]⟩) (n:=0) (z:=0) J aJ (by simp only [b',h,ag.at]) (.inr rfl) (show 0+z<=cs.length by omega);have gV:((cs.drop 0).take z).mapIdx (λi x=>im 0 (Place.push ⟨a,[]⟩ (0+i)) x)=cs:=by
   rw [List.drop_zero,List.take_of_length_le (by omega)];exact zQ bn.2
  rw [gV] at this;exact .cell this
theorem Fin.rt {rs:List ResultVar}{xs:List ag}{res:ag}{outs:List (Option ag)}{n:Nat}(h:tJ P g rs xs) (he:qv xs=res) (bh:wu outs=true) (ao:outs.length=n):Fin P N rs n outs res .ret g :=
 ⟨.inr rfl,⟨xs,xs,g,h.spec.1,.bL h.spec.2,he.symm,λk x hk=>absurd hk (DG bh k x)⟩,ao⟩
end
def yo:Nat->List ag->List (Nat × ag)
 | _,[]=>[]
 | i,x::l=>(i,x)::yo (i+1) l
theorem KZ:∀ (l:List ag) (i t:Nat),get (yo i l) t=if i<=t then l[t - i]? else none
 | [],i,t=>by simp [yo,get]
 | x::l,i,t=>by
  simp only [yo,get];by_cases h:t=i
  ·subst h; simp
  ·rw [if_neg h,KZ l (i+1) t];by_cases h1:i+1<=t
   ·rw [if_pos h1,if_pos (by omega)];have:t - i=(t - (i+1))+1:=by omega
    rw [this,List.getElem?_cons_succ]
   ·rw [if_neg h1,if_neg (by omega)]
theorem OR (args:List ag):o9 args=get (yo 0 args):=funext λt=>by rw [KZ]; simp [o9]
theorem cc.go {P:Program}{f:FuncId}{fn:Func}{c:Code}{args:List ag}{outs:List (Option ag)}{res:ag}{N:dK}(bn:P.funcs[f]?=some fn) (aK:fn.body=some c) (b5:fn.ntmps=N.size) (bf:Nat.ble args.length N.size=true) (hlen:outs.length=args.length)
  (hw:W P N c (get (yo 0 args)) (Fin P N fn.results.toList args.length outs res)):cc P f args outs res :=
 .fin bn aK b5 bf hlen (by rw [OR]; exact hw)
end Go.Own
namespace Go.Own
open Go
section
variable {P:Program}{N:dK}{Φ pU:Exit->aW->Prop}{Ψ:aW->Prop}{G G1:List (Nat × ag)}{A B c:Code}{id k:Nat}{e:Exit}{S R:Type}
theorem hA.bM (h:Trim true (get G) (get G1) G1):hA P N .skip G G1:=.skip h
inductive kP:aW->List (Nat × ag)->Prop
 | hf {G:List (Nat × ag)}:kP (get G) G
 | gd {g g1:aW}{G:List (Nat × ag)}(h:kS g g1) (aK:kP g1 G):kP g G
theorem kP.trans {g:aW}{G G1:List (Nat × ag)}(h:kP g G) (h1:kP (get G) G1):kP g G1:=by
 induction h with
 | hf=>exact h1
 | gd h _ aS=>exact .gd h (aS h1)
inductive y3 (P:Program) (N:dK):aW->Exit->(Exit->aW->Prop)->Prop
 | hf {g:aW}{e:Exit}{Φ:Exit->aW->Prop}(h:Φ e g):y3 P N g e Φ
 | gd {g g1:aW}{e:Exit}{Φ:Exit->aW->Prop}(hw:kS g g1) (h:y3 P N g1 e Φ):y3 P N g e Φ
theorem W.outs {g:aW}(h:W P N c g Φ) (nz:∀ e g',Φ e g'->y3 P N g' e pU):W P N c g pU:=by
 intro a w I Fs Q b6 b5 dY;refine h b6 b5 λe g' cF w' aG aP=>?_;have qc:=nz e g' aG;clear aG nz;revert aP
 induction qc with
 | hf h=>exact λaP=>dY _ _ _ _ h aP
 | gd hw _ aS =>
  intro aP;refine aS dY ?_;obtain ⟨h1,al,I',cz,eL,cf⟩:=aP;obtain ⟨iV,ih,gO⟩:=eL.gd hw;exact ⟨h1,al,I',iV,ih,cf.fF,cf.more,cf.new,λc ⟨t,ab⟩=>cf.own c ⟨t,gO t c ab⟩⟩
def ah (e:Exit) (Φ:Exit->aW->Prop) (G:List (Nat × ag)):Prop:=∀ g,kP g G->Φ e g
theorem W.be {g:aW}(h:W P N c (get G) Φ) (aK:kP g G):W P N c g Φ:=by
 induction aK with
 | hf=>exact h
 | gd hw _ aS=>exact (aS h).weaken hw
theorem ov.be {g:aW}(h:ov P N c (get G) Φ) (aK:kP g G):ov P N c g Φ:=by
 induction aK with
 | hf=>exact h
 | gd hw _ aS=>exact (aS h).weaken hw
theorem ah.a1 (h:W P N B (get G) Φ):ah .normal (tt (λg1=>W P N B g1 Φ) pU) G:=λ_ aK=>VM (h.be aK)
theorem ah.dd (h:ah (.exit k) pU G):ah (.exit k) (tt Ψ pU) G:=λg aK=>VL (h g aK)
theorem ah.c0 (h:ah .ret pU G):ah .ret (tt Ψ pU) G:=λg aK=>VN (h g aK)
theorem ah.bp (h:ah .normal Φ G):ah .normal (r' id Φ) G:=λg aK=>TY (h g aK)
theorem ah.df (h:ah .normal Φ G):ah (.exit id) (r' id Φ) G:=λg aK=>TW (h g aK)
theorem ah.O9 (hk:Nat.beq k id=false) (h:ah (.exit k) Φ G):ah (.exit k) (r' id Φ) G:=λg aK=>TX hk (h g aK)
theorem ah.dL (h:ah .ret Φ G):ah .ret (r' id Φ) G:=λg aK=>TZ (h g aK)
theorem W.de (h:ah (.exit k) Φ G):W P N (.exit k) (get G) Φ:=W.exit (h _ .hf)
theorem W.bM (h:ah .normal Φ G):W P N .skip (get G) Φ:=W.skip (h _ .hf)
theorem W.rt (h:ah .ret Φ G):W P N .ret (get G) Φ:=W.ret (h _ .hf)
theorem W.rx {id:Nat}{l:List Oper}(G1:List (Nat × ag)) (h:av P N l.toArray l (get G) λg'=>kS g' (get G1)) (hk:ah .normal Φ G1):W P N (.region id l.toArray false) (get G) Φ :=
 W.U1 (λi hi=>by obtain ⟨g',h1,al⟩:=h i hi; exact ⟨g',h1,hk g' (.gd al .hf)⟩)
theorem W.ck {G1:List (Nat × ag)}(h:Trim true (get G) (get G1) G1) (hw:W P N c (get G1) Φ):W P N c (get G) Φ:=hw.weaken h.gd
theorem W.st {G:List (Nat × ag)}(G1:List (Nat × ag)) (h:W P N c (get G1) Φ) (e:G1=G:=by rfl):W P N c (get G) Φ:=by subst e; exact h
theorem W.bp (h:W P N c (get G) (r' id Φ)):W P N (.block id c) (get G) Φ:=W.block h
theorem W.bH (G1:List (Nat × ag)) (h:W P N c (get G) λe g=>e=.normal/\kP g G1) (hk:ah .normal Φ G1):W P N c (get G) Φ :=
 h.mono λe g ⟨he,aK⟩=>by subst he; exact hk g aK
theorem ah.bH (h:Trim true (get G) (get G1) G1):ah .normal (λe g=>e=.normal/\kP g G1) G:=λ_ aK=>⟨rfl,aK.trans (.gd h.gd .hf)⟩
def tI (G:S->List (Nat × ag)) (Ψ:R->Exit->aW->Prop):S ⊕ R->Exit->aW->Prop
 | .inl s,e,g=>e=.normal/\kP g (G s)
 | .inr r,e,g=>e≠.normal/\Ψ r e g
theorem ov.it {f:S->Option (S ⊕ R)}{G:S->List (Nat × ag)}{Ψ:R->Exit->aW->Prop}(aK:∀ s o,f s=some o->W P N c (get (G s)) (tI G Ψ o)) :
  ∀ (n:Nat) (s:S) (r:R),Own.iter f n s=some r->ov P N c (get (G s)) (Ψ r)
 | 0,_,_,h=>by simp [Own.iter] at h
 | n+1,s,r,h=>by
  simp only [Own.iter] at h;cases bn:f s with
  | none=>rw [bn] at h; cases h
  | some o =>
   rw [bn] at h;refine .step ((aK s o bn).mono λe g' aw=>?_);cases o with
   | inl eV =>
    obtain ⟨rfl,hw⟩:=aw;exact (ov.it aK n eV r h).be hw
   | inr e8 =>
    cases h;obtain ⟨aP,hw⟩:=aw;cases e with
    | normal=>exact absurd rfl aP
    | _=>exact hw
theorem W.Mt {f:S->Option (S ⊕ R)}{s:S}{r:R}(G:S->List (Nat × ag)) (Ψ:R->Exit->aW->Prop) (h:cJ f s=some r) (aK:∀ s o,f s=some o->W P N c (get (G s)) (tI G Ψ o)) (hk:∀ e g,Ψ r e g->Φ e g):W P N (.loop c) (get (G s)) Φ :=
 (W.loop (ov.it aK fuel s r h)).mono hk
theorem W.eZ {f:S->Option (S ⊕ R)}{s:S}{r:R}(G:S->List (Nat × ag)) (id:Nat) (nL:R->List (Nat × ag)) (h:cJ f s=some r) (aK:∀ s o,f s=some o->W P N c (get (G s)) (tI G (λr e g=>e=.exit id/\kP g (nL r)) o)) (hk:ah (.exit id) Φ (nL r)):W P N (.loop c) (get (G s)) Φ :=
 .Mt G _ h aK λe g ⟨he,ba⟩=>by subst he; exact hk g ba
theorem W.jz {qH:Type}{f:S->Option (S ⊕ (R ⊕ qH))}{s:S}{r:R ⊕ qH}(G:S->List (Nat × ag)) (id:Nat) (nL:R->List (Nat × ag)) (tF:qH->List (Nat × ag)) (h:cJ f s=some r)
  (aK:∀ s o,f s=some o->W P N c (get (G s)) (tI G (λ(r:R ⊕ qH) e g=>match r with | .inl r=>e=.exit id/\kP g (nL r) | .inr r=>e=.ret/\kP g (tF r)) o))
  (J:∀ x,r=.inl x->ah (.exit id) Φ (nL x)) (aw:∀ x,r=.inr x->ah .ret Φ (tF x)):W P N (.loop c) (get (G s)) Φ:=by
 refine .Mt G _ h aK λe g h=>?_;cases r with
 | inl r=>obtain ⟨rfl,ba⟩:=h; exact J r rfl g ba
 | inr r=>obtain ⟨rfl,ba⟩:=h; exact aw r rfl g ba
theorem ah.go {s:S}{F:S->List (Nat × ag)}{Ψ:R->Exit->aW->Prop}(h:Trim true (get G) (get (F s)) (F s)):ah .normal (tI F Ψ (.inl s)) G:=λ_ aK=>⟨rfl,aK.trans (.gd h.gd .hf)⟩
theorem ah.aI {r:R}{F:S->List (Nat × ag)}{nL:R->List (Nat × ag)}(h:Trim true (get G) (get (nL r)) (nL r)):ah (.exit id) (tI F (λr e g=>e=.exit id/\kP g (nL r)) (.inr r)) G:=λ_ aK=>⟨by simp,rfl,aK.trans (.gd h.gd .hf)⟩
theorem ah.x2 {qH:Type}{r:R}{F:S->List (Nat × ag)}{nL:R->List (Nat × ag)}{tF:qH->List (Nat × ag)}(h:Trim true (get G) (get (nL r)) (nL r)) :
  ah (.exit id) (tI F (λ(r:R ⊕ qH) e g=>match r with | .inl r=>e=.exit id/\kP g (nL r) | .inr r=>e=.ret/\kP g (tF r)) (.inr (.inl r))) G:=λ_ aK=>⟨by simp,rfl,aK.trans (.gd h.gd .hf)⟩
theorem ah.fY {qH:Type}{r:qH}{F:S->List (Nat × ag)}{nL:R->List (Nat × ag)}{tF:qH->List (Nat × ag)}(h:Trim true (get G) (get (tF r)) (tF r)) :
  ah .ret (tI F (λ(r:R ⊕ qH) e g=>match r with | .inl r=>e=.exit id/\kP g (nL r) | .inr r=>e=.ret/\kP g (tF r)) (.inr (.inr r))) G:=λ_ aK=>⟨by simp,rfl,aK.trans (.gd h.gd .hf)⟩
def BS (P:Program) (N:dK) (rs:List ResultVar) (n:Nat) (outs:List (Option ag)) (res:ag) (e:Exit) (g:aW):Prop:=∃ G,kP g G/\Fin P N rs n outs res e (get G)
theorem W.fin {rs:List ResultVar}{n:Nat}{outs:List (Option ag)}{res:ag}{g:aW}(h:W P N c g (BS P N rs n outs res)):W P N c g (Fin P N rs n outs res):=by
 have key:∀ e g,BS P N rs n outs res e g->y3 P N g e (Fin P N rs n outs res):=by
  rintro e g ⟨G,aK,bn⟩
  induction aK with
  | hf=>exact .hf bn
  | gd hw _ aS=>exact .gd hw (aS bn)
 exact W.outs h key
theorem ah.fin {rs:List ResultVar}{n:Nat}{outs:List (Option ag)}{res:ag}(h:Fin P N rs n outs res e (get G)):ah e (BS P N rs n outs res) G:=λ_ aK=>⟨G,aK,h⟩
end
end Go.Own
namespace Go.Own
open Go
section
variable {P:Program}{N:dK}{ops:Array Oper}{ch:List (List Nat)}{g0:aW}{K:aW->Prop}{l:List Oper}{acc:Acc}{d i:Nat}{op:Op}{ty:TypeId}{pos:String}{after:Array Edge}{x:ag}{iw:Option (Nat × Bool)}
abbrev oi (ch:List (List Nat)) (g0:aW) (ae:Nat) (acc:Acc):aW:=ep g0 (λm=>(ch.getD ae []).contains m) acc
def bN (P:Program) (N:dK) (ops:Array Oper) (ch:List (List Nat)) (g0:aW) (i:Nat) (acc:Acc) (l:List Oper) (K:aW->Prop):Prop:=∀ ey ae,mX P N ops ch g0 i ey->iN P N ops ch g0 i ey ae acc->ops.toList.drop ae=l->∃ g',rE P N ops ch i ey g0 g'/\K g'
theorem Cy {ae ds:Nat}{o:Oper}(h:ops.toList.drop ae=o::l) (aa:Nat.beq ops.size (ds+l.length+1)=true):ae=ds:=by
 have h1:=congrArg List.length h;rw [List.length_drop,List.length_cons,Array.length_toList] at h1;have:=Nat.eq_of_beq_eq_true aa;omega
theorem Oy (aP:acc.all (λe=>!Nat.beq e.2.1 d)=true):∀ e∈acc,e.2.1≠d:=by
 intro e he h;have:=List.all_eq_true.1 aP e he;rw [h] at this;simp at this
theorem bN.st (ds:Nat) {r:Option ag}{o:Oper}(aU:o.dst=some d) (aL:o5 P (oi ch g0 ds acc) ops o r) (aa:Nat.beq ops.size (ds+l.length+1)=true) (bn:g0 d=none) (aP:acc.all (λe=>!Nat.beq e.2.1 d)=true) (b5:N.ok d=true)
  (hk:bN P N ops ch g0 i ((ds,d,r)::acc) l K):bN P N ops ch g0 i acc (o::l) K:=by
 intro ey ae cT px pn;have:=Cy pn aa;subst this;obtain ⟨h1,al⟩:=drop_cons pn;exact hk ey (ae+1) cT (.step px h1 aU bn (Oy aP) b5 aL) al
theorem bN.v (ds:Nat) (aG:dv P (oi ch g0 ds acc) op ty x) (aa:Nat.beq ops.size (ds+l.length+1)=true) (bn:g0 d=none) (aP:acc.all (λe=>!Nat.beq e.2.1 d)=true) (b5:N.ok d=true) (ba:gD (oi ch g0 ds acc) ops iw)
  (hk:bN P N ops ch g0 i ((ds,d,some x)::acc) l K):bN P N ops ch g0 i acc (⟨some d,op,ty,pos,after,iw⟩::l) K :=
 .st ds (r:=some x) rfl (.inl ⟨ba.wanted,.inl aG⟩) aa bn aP b5 hk
theorem bN.c (ds:Nat) (aG:cu P (oi ch g0 ds acc) op x) (aa:Nat.beq ops.size (ds+l.length+1)=true) (bn:g0 d=none) (aP:acc.all (λe=>!Nat.beq e.2.1 d)=true) (b5:N.ok d=true) (ba:gD (oi ch g0 ds acc) ops iw)
  (hk:bN P N ops ch g0 i ((ds,d,some x)::acc) l K):bN P N ops ch g0 i acc (⟨some d,op,ty,pos,after,iw⟩::l) K :=
 .st ds (r:=some x) rfl (.inl ⟨ba.wanted,.inr aG⟩) aa bn aP b5 hk
theorem bN.ps (ds:Nat) {uI t':Nat}{b c:Bool}(h:(ops[uI]?).bind (·.dst)=some t') (ba:oi ch g0 ds acc t'=some (a' c)) (aK:c=!b) (aa:Nat.beq ops.size (ds+l.length+1)=true) (bn:g0 d=none) (aP:acc.all (λe=>!Nat.beq e.2.1 d)=true) (b5:N.ok d=true)
  (hk:bN P N ops ch g0 i ((ds,d,some (.cC []))::acc) l K):bN P N ops ch g0 i acc (⟨some d,op,ty,pos,after,some (uI,b)⟩::l) K :=
 .st ds (r:=some (.cC [])) rfl (.inr (.inl ⟨⟨t',h,.inl ⟨c,ba,by subst aK; cases b <;> rfl⟩⟩,rfl⟩)) aa bn aP b5 hk
theorem bN.pu (ds:Nat) {uI t':Nat}{b:Bool}(h:(ops[uI]?).bind (·.dst)=some t') (ba:oi ch g0 ds acc t'=some (.cC [])) (aa:Nat.beq ops.size (ds+l.length+1)=true) (bn:g0 d=none) (aP:acc.all (λe=>!Nat.beq e.2.1 d)=true) (b5:N.ok d=true)
  (hk:bN P N ops ch g0 i ((ds,d,some (.cC []))::acc) l K):bN P N ops ch g0 i acc (⟨some d,op,ty,pos,after,some (uI,b)⟩::l) K :=
 .st ds (r:=some (.cC [])) rfl (.inr (.inl ⟨⟨t',h,.inr ⟨ba,rfl⟩⟩,rfl⟩)) aa bn aP b5 hk
def s' (G:List (Nat × ag)):Bool:=G.all λp=>match p.2 with | .b8 ..=>false | _=>true
theorem AV {G:List (Nat × ag)}(h:s' G=true):∀ t z q n m new,get G t≠some (.b8 z q n m new):=by
 induction G with
 | nil=>intro t z q n m new J; cases J
 | cons p G aS =>
  obtain ⟨s,x⟩:=p;simp only [s',List.all_cons,Bool.and_eq_true] at h;intro t z q n m new J;simp only [get] at J
  split at J
  ·cases J; exact absurd h.1 (by simp)
  ·exact aS h.2 t z q n m new J
theorem bN.fin {G G1:List (Nat × ag)}(bA:acc.filterMap mT=[]) (jt:s' G=true) (hi:Nat.ble i ops.size=true) (h:Trim true (ep (get G) (λ_=>true) acc) (get G1) G1):bN P N ops ch (get G) i acc [] λg'=>kS g' (get G1):=by
 intro ey ae cT px pn;have aa:ae=ops.size:=by
  have h1:ops.size<=ae:=by
   have:=congrArg List.length pn;rw [List.length_drop,List.length_nil,Array.length_toList] at this;omega
  have aQ:ae<=ops.size:=by
   cases px with
   | nil=>exact Nat.le_of_ble_eq_true hi
   | step _ bh=>have:=(Array.getElem?_eq_some_iff.1 bh).1; omega
  omega
 subst aa;exact ⟨_,.fin px (by rw [bA]; exact List.nodup_nil) (AV jt),h.gd⟩
theorem rE.JH {g g1 g':aW}{i ae:Nat}{ey:Acc}{o:Oper}(cT:mX P N ops ch g i ey) (aL:iN P N ops ch g i ey ae acc) (hZ:(acc.filterMap mT).Nodup) (jt:∀ t z q n m new,g t≠some (.b8 z q n m new)) (bh:ops[ae]?=some o) (hw:iX (ep g (λ_=>true) acc) ops o true)
  (he:cq P N (ep g (λ_=>true) acc) o g1) (bf:(List.range ae).all (λk=>(ch.getD ae []).contains k)=true) (aK:(List.range ops.size).all (λk=>decide (k<=ae)||(ch.getD k []).contains ae)=true) (aw:rE P N ops ch (ae+1) [] g1 g'):rE P N ops ch i ey g g':=by
 have dA:∀ e∈acc,(ch.getD ae []).contains e.1=true:=λe h=>List.all_eq_true.1 bf e.1 (List.mem_range.2 ((aL.le cT).2 e h));have e:ep g (λm=>(ch.getD ae []).contains m) acc=ep g (λ_=>true) acc:=funext λt=>BE λe h _=>dA e h;have gU:[]=acc.filter λe=>!(ch.getD ae []).contains e.1:=by
  symm;rw [List.filter_eq_nil_iff];intro a h;rw [dA a h];decide
 exact .zf (rs:=tj []) aL hZ jt bh (by rw [e]; exact hw) (by rw [e]; exact he.ox.v) (λp aG=>by simp [tj] at aG) gU (by simp) (by simp) (by simp) aK aw
theorem W.rd {id:Nat}{l:List Oper}{G:List (Nat × ag)}{Φ:Exit->aW->Prop}(ch:List (List Nat)) (G1:List (Nat × ag)) (hm:P.follows .mixedOrders=true) (dA:rJ l.toArray ch=true)
  (h:bN P N l.toArray ch (get G) 0 [] l λg'=>kS g' (get G1)) (hk:ah .normal Φ G1):W P N (.region id l.toArray true) (get G) Φ:=by
 obtain ⟨g',h1,al⟩:=h [] 0 .nil .nil (by simp);exact (gI.draw hm dA h1).w (hk g' (.gd al .hf))
end
end Go.Own
namespace Go.Own
open Go
variable {α:Type}
section
variable {P:Program}{N:dK}{ops:Array Oper}{g g2:aW}{K:aW->Prop}{l:List Oper}{d r:Nat}{ty t t2:TypeId}{pos:String}{after:Array Edge}{a b c:Operand}{k lv:IntKind}{m n:Int}{s u:ByteArray}
namespace O
theorem fI {e:TypeId}{z:Value}{cs:List ag}(bA:(P.info? e).bind (·.zero)=some z) (h1:z.cells.toList.all Value.oneCell'=true) (ab:z.cells.toList.map n'=cs):dv P g (.alloc e) ty (.obj cs):=by
 subst ab; exact .rk (.alloc bA (by rw [<- Array.all_toList]; exact h1))
theorem e7 {t:TypeId}{parts:Array (Nat × Operand)}{pl:List (Nat × Nat)}{ev:Value}{ps:List (Nat × List ag)}{cs:List ag}(aJ:kN P t pl=true) (bA:(P.info? t).bind (·.zero)=some ev) (h1:ev.cells.toList.all Value.oneCell'=true)
  (aG:rl g parts.toList=some ps) (ab:xS (λi=>pl[i]?) (ev.cells.toList.map n') ps=some cs):dv P g (.build t parts) ty (.agg cs):=.DL (.build aJ bA (by rw [<- Array.all_toList]; exact h1) aG ab)
end O
inductive o4 (g g2:aW):ag->Prop
 | n {x:ag}(h:dc x):o4 g g2 x
 | p {r k:Nat}{cs cs2:List ag}(h:g r=some (.obj cs)) (hk:k<cs.length) (al:g2 r=some (.obj cs2)) (gX:k<cs2.length):o4 g g2 (.ptr ⟨r,[]⟩ k)
 | r {z n N I_ q:Nat}{cs cs2:List ag}(h:g q=some (.own z N cs)) (aP:n<=N) (al:g2 q=some (.own z I_ cs2)) (oF:n<=I_):o4 g g2 (.bo z ⟨q,[]⟩ n)
theorem uU {r k:Nat}{cs:List ag}(h:g r=some (.obj cs)) (hk:k<cs.length):hn g (.ptr ⟨r,[]⟩ k):=⟨.obj cs,by simp [b',h,ag.at],0,0,cs,.inr rfl,hk⟩
theorem Bs {z n N q:Nat}{cs:List ag}(h:g q=some (.own z N cs)) (aP:n<=N):hn g (.bo z ⟨q,[]⟩ n):=.inl ⟨N,cs,by simp [b',h,ag.at],aP⟩
theorem o4.bq {x:ag}(h:o4 g g2 x):e3 g2 x:=by
 cases h with
 | n h=>exact .bL h
 | p _ _ al gX=>exact .ref rfl (uU al gX)
 | r _ _ al oF=>exact .ref rfl (Bs al oF)
theorem o4.Bt {x:ag}{uR k0 m0:Nat}(h:o4 g g2 x):ki (λr=>hn g r/\Clear ⟨uR,[]⟩ k0 m0 r/\hn g2 r) x:=by
 cases h with
 | n h=>exact .bL h
 | p h hk al gX =>
  refine .ref rfl ⟨uU h hk,?_,uU al gX⟩;intro q bR _ ae e8 e;simp only [yL,Option.some.injEq] at bR;subst bR;simp at e
 | r h hk al gX =>
  refine .ref rfl ⟨Bs h hk,?_,Bs al gX⟩;intro q bR _ ae e8 e;simp only [yL,Option.some.injEq] at bR;subst bR;simp at e
theorem o4.fT {x:ag}(h:o4 g g2 x):∀ z p n m new,x≠.b8 z p n m new:=by
 rintro z p n m new rfl;cases h with
 | n h=>cases h
inductive mY (g g2:aW) (r:Nat) (cs2:List ag):List (Nat × ag)->Prop
 | nil:mY g g2 r cs2 []
 | n {s:Nat}{x:ag}{l:List (Nat × ag)}(ek:Nat.beq s r=false) (h:g s=some x) [aP:cS x] (t:mY g g2 r cs2 l):mY g g2 r cs2 ((s,x)::l)
 | p {s q k:Nat}{l:List (Nat × ag)}{cs nR:List ag}(ek:Nat.beq s r=false) (h:g s=some (.ptr ⟨q,[]⟩ k)) (h1:g q=some (.obj cs)) (hk:Nat.blt k cs.length=true) (al:g2 q=some (.obj nR)) (gX:Nat.blt k nR.length=true) (t:mY g g2 r cs2 l):mY g g2 r cs2 ((s,.ptr ⟨q,[]⟩ k)::l)
 | w {α:Type}{s q:Nat}{en:cD α}{L:List α}{l:List (Nat × ag)}(ek:Nat.beq s r=false) (h:g s=some (.bo en.z ⟨q,[]⟩ L.length)) (h1:g q=some (ak en L)) (al:g2 q=some (ak en L)) (t:mY g g2 r cs2 l):mY g g2 r cs2 ((s,.bo en.z ⟨q,[]⟩ L.length)::l)
 | b {l:List (Nat × ag)}{x:ag}(e:x=.obj cs2) [aP:eU cs2] (t:mY g g2 r cs2 l):mY g g2 r cs2 ((r,x)::l)
theorem mY.spec {cs2:List ag}{l:List (Nat × ag)}(h:mY g g2 r cs2 l):∀ t x,get l t=some x->(t≠r/\g t=some x/\o4 g g2 x)\/(t=r/\x=.obj cs2/\dc x):=by
 induction h with
 | nil=>intro t x J; cases J
 | @n s x l ek h aP _ aS =>
  intro t y az; simp only [get] at az
  split at az
  ·rename_i e; subst e; cases az; exact .inl ⟨Nat.ne_of_beq_eq_false ek,h,.n aP.bL⟩
  ·exact aS t y az
 | @p s q k l cs nR ek h h1 hk al gX _ aS =>
  intro t y az; simp only [get] at az
  split at az
  ·rename_i e; subst e; cases az; exact .inl ⟨Nat.ne_of_beq_eq_false ek,h,.p h1 (by simpa using hk) al (by simpa using gX)⟩
  ·exact aS t y az
 | @w α s q en L l ek h h1 al _ aS =>
  intro t y az; simp only [get] at az
  split at az
  ·rename_i e; subst e; cases az; exact .inl ⟨Nat.ne_of_beq_eq_false ek,h,.r h1 (Nat.le_refl _) al (Nat.le_refl _)⟩
  ·exact aS t y az
 | @b l x e aP _ aS =>
  intro t y az; simp only [get] at az
  split at az
  ·rename_i cU; subst cU; cases az; subst e; exact .inr ⟨rfl,rfl,.obj aP.bL⟩
  ·exact aS t y az
theorem cq.box {o:Oper}{k0:Nat}{cs cs' cs2:List ag}{y:ag}{G2:List (Nat × ag)}(bh:o.op=.store t a b) (aU:o.dst=none) (aL:g r=some (.obj cs)) (bf:Rd g a (.ptr ⟨r,[]⟩ k0)) (aK:Rd g b y) (aP:dc y) (ab:rP y=some cs') (bA:gA P t cs'.length=true)
  (hk:k0+cs'.length<=cs.length) (bd:0<cs'.length) (he:fL cs k0 cs'=cs2) [ht:eU cs] (aw:get G2 r≠none) (eu:mY g (get G2) r cs2 G2):cq P N g o (get G2):=by
 subst he;have mI:g r≠none:=by rw [aL]; simp
 refine .store bh aU bf.bT aK.bT (.bL (by simpa using aP)) .refl ab bA (p:=⟨r,[]⟩) (nd:=.obj cs) (z:=0) (n:=0) (by simp [b',aL,ag.at]) (.inr rfl) hk bd (λt x J=>?_) (λt x J y az=>?_) (λt z q n m new J=>?_) aw
 ·rcases eu.spec t x J with ⟨h1,al,_⟩ | ⟨h1,al,_⟩
  ·rw [tm h1]; exact al
  ·subst h1 al; simp [db,aL,ag.setAt,ag.fL]
 ·rcases eu.spec t x J with ⟨h1,al,aQ⟩ | ⟨h1,al,aQ⟩
  ·rw [al] at az; cases az; exact aQ.Bt
  ·subst h1;rw [aL] at az;cases az;exact .bL (.obj ht.bL)
 ·rcases eu.spec t _ J with ⟨_,_,aQ⟩ | ⟨_,al,_⟩
  ·exact aQ.fT _ _ _ _ _ rfl
  ·cases al
theorem Trim.q {EJ:Bool}{yP q k0:Nat}{cs:List ag}{Mr:List (Nat × ag)}(h:g yP=some (.ptr ⟨q,[]⟩ k0)) (al:g2 q=some (.obj cs)) (hk:Nat.blt k0 cs.length=true) (VP:Trim EJ g g2 Mr):Trim EJ g g2 ((yP,.ptr ⟨q,[]⟩ k0)::Mr) :=
 .r h (.ref rfl (uU al (by simpa using hk))) (by simp) VP
theorem av.hJ {o:Oper}{G2:List (Nat × ag)}(ba:o.guard=none) (he:cq P N g o (get G2)) (hk:av P N ops l (get G2) K):av P N ops (o::l) g K:=by
 intro i hi;obtain ⟨h1,al⟩:=drop_cons hi;obtain ⟨g',aw,eK⟩:=hk (i+1) al;refine ⟨g',.ox h1 ?_ he aw,eK⟩;unfold iX; rw [ba]
theorem av.dR {k0:Nat}{cs cs' cs2:List ag}{y:ag}{G2:List (Nat × ag)}(aL:g r=some (.obj cs)) (bf:Rd g a (.ptr ⟨r,[]⟩ k0)) (aK:Rd g b y) [aP:cS y] (ab:rP y=some cs') (bA:gA P t cs'.length=true)
  (hk:Nat.ble (k0+cs'.length) cs.length=true) (bd:Nat.blt 0 cs'.length=true) (he:fL cs k0 cs'=cs2) [ht:eU cs] (aw:(get G2 r).isSome=true) (eu:mY g (get G2) r cs2 G2) (C5:av P N ops l (get G2) K):av P N ops (⟨none,.store t a b,ty,pos,after,none⟩::l) g K :=
 .hJ rfl (.box rfl rfl aL bf aK aP.bL ab bA (Nat.le_of_ble_eq_true hk) (by simpa using bd) he (by intro e; rw [e] at aw; cases aw) eu) C5
variable {ch:List (List Nat)}{acc:Acc}{i:Nat}
theorem bN.zf (ds:Nat) {G G2:List (Nat × ag)}{o:Oper}(he:cq P N (ep (get G) (λ_=>true) acc) o (get G2)) (ba:o.guard=none) (bA:acc.filterMap mT=[]) (jt:s' G=true) (aa:Nat.beq ops.size (ds+l.length+1)=true)
  (bf:(List.range ds).all (λk=>(ch.getD ds []).contains k)=true) (aK:(List.range ops.size).all (λk=>Nat.ble k ds||(ch.getD k []).contains ds)=true) (hk:bN P N ops ch (get G2) (ds+1) [] l K):bN P N ops ch (get G) i acc (o::l) K:=by
 intro ey ae cT px pn;have:=Cy pn aa;subst this;obtain ⟨h1,al⟩:=drop_cons pn;obtain ⟨g',aw,eK⟩:=hk [] (ae+1) .nil .nil al;refine ⟨g',.JH cT px (by rw [bA]; exact List.nodup_nil) (AV jt) h1 ?_ he bf ?_ aw,eK⟩
 ·unfold iX; rw [ba]
 ·refine List.all_eq_true.2 λk hk=>?_;have:=List.all_eq_true.1 aK k hk;simp only [Bool.or_eq_true,decide_eq_true_eq,Nat.ble_eq] at this ⊢;exact this
theorem bN.dR (ds:Nat) {G:List (Nat × ag)}{k0:Nat}{cs cs' cs2:List ag}{y:ag}{G2:List (Nat × ag)}(aa:Nat.beq ops.size (ds+l.length+1)=true) (F4:(List.range ds).all (λk=>(ch.getD ds []).contains k)=true) (Lm:(List.range ops.size).all (λk=>Nat.ble k ds||(ch.getD k []).contains ds)=true) (Dl:acc.filterMap mT=[]) (jt:s' G=true)
  (aL:ep (get G) (λ_=>true) acc r=some (.obj cs)) (bf:Rd (ep (get G) (λ_=>true) acc) a (.ptr ⟨r,[]⟩ k0)) (aK:Rd (ep (get G) (λ_=>true) acc) b y) [aP:cS y] (ab:rP y=some cs') (bA:gA P t cs'.length=true)
  (hk:Nat.ble (k0+cs'.length) cs.length=true) (bd:Nat.blt 0 cs'.length=true) (he:fL cs k0 cs'=cs2) [ht:eU cs] (aw:(get G2 r).isSome=true) (eu:mY (ep (get G) (λ_=>true) acc) (get G2) r cs2 G2) (C5:bN P N ops ch (get G2) (ds+1) [] l K):bN P N ops ch (get G) i acc (⟨none,.store t a b,ty,pos,after,none⟩::l) K :=
 .zf ds (.box rfl rfl aL bf aK aP.bL ab bA (Nat.le_of_ble_eq_true hk) (by simpa using bd) he (by intro e; rw [e] at aw; cases aw) eu) rfl Dl jt aa F4 Lm C5
end
end Go.Own
namespace Go.Own
open Go
variable {α β:Type}
def oO (m:Int) (z:α):Option (List α):=if 0<=m/\m<=lim then some (List.replicate m.toNat z) else none
def ez (l m:List α):Option (List α):=if l.length+m.length<=lim then some (l++m) else none
class Flat (e:cD α):Prop where QX:∀ a,(e.cells a).all lE=true
instance:Flat aM:=⟨λ_=>rfl⟩
instance:Flat nT:=⟨λ_=>rfl⟩
instance:Flat bJ:=⟨λ_=>rfl⟩
instance:Flat cA:=⟨λ_=>rfl⟩
instance {e:cD α}:Flat (bU e):=⟨λ_=>rfl⟩
theorem U6 (e:cD α) [h:Flat e] (l:List α):(cj e l).all lE=true:=by
 refine List.all_eq_true.2 λx J=>?_;obtain ⟨a,_,bf⟩:=List.mem_flatMap.1 J;exact List.all_eq_true.1 (h.QX a) x bf
theorem DH (e:cD α) (l m:List α):(.own e.z (l.length+m.length) (cj e l++cj e m):ag)=ak e (l++m):=by
 unfold ak;rw [List.length_append,wV]
theorem wW (e:cD α) (l:List α):(cj e l).take (l.length * e.z)=cj e l:=List.take_of_length_le (by rw [od]; omega)
theorem Ni:∀ L:List Int,cj nT L=L.map λb=>.lit (.int .u8 b)
 | []=>rfl
 | x::L=>by
  have:cj nT (x::L)=lT x::cj nT L:=rfl;rw [this,List.map_cons,Ni L]
section
variable {P:Program}{N:dK}{ops:Array Oper}{g g1 g2:aW}{K:aW->Prop}{l:List Oper}{d r:Nat}{ty t t2:TypeId}{pos:String}{after:Array Edge}{iw:Option (Nat × Bool)}{a b c:Operand}{k lv:IntKind}{m n:Int}{s u:ByteArray}{p q:Place}
namespace O
theorem dM {e h2:Nat}{parts:Array (Nat × Operand)}{ys:List ag}(en:cD α) (L:List α) (aJ:ft P t e en.z=true) (J:iH g (parts.toList.map (·.2))=some ys) (ab:o_ ys=some (cj en L)) (bA:ys.all (λy=>match lU y with | some c=>Nat.beq c.length en.z | none=>false)=true)
  (aG:parts.toList=(parts.toList.map (·.2)).mapIdx (λi x=>(i,x))) (aP:(parts.toList.map (·.2)).length=h2) (ao:L.length=h2) (hzero:j7 P e en.z=true) (aK:Nat.ble (h2 * en.z) 16777216=true) (c6:Nat.ble h2 16777216=true):dv P g (.buildSlice t h2 parts) ty (ak en L):=by
 subst aP;have:=o1.buildSlice (P:=P) (ty:=ty) aJ aG J (λy az=>by
  have:=List.all_eq_true.1 bA y az;cases fy:lU y with
  | none=>rw [fy] at this; cases this
  | some c=>rw [fy] at this; exact ⟨c,rfl,Nat.eq_of_beq_eq_true this⟩) ab (Nat.le_of_ble_eq_true aK) (Nat.le_of_ble_eq_true c6) (.inr (IW hzero))
 unfold ak;rw [ao];exact .rk this
theorem pH {z cK n:Nat}{e:TypeId}(J:Rd g a (.bo z p n)) (aJ:ft P t e cK=true):dv P g (.call { callee:=.builtin .len,args:=#[a],argTypes:=#[t] }) ty (j n):=.fq (.AK J.bT aJ)
theorem g_ {en:cD α}{L:List α}{y:α}{e:TypeId}(aG:b' g p=some (ak en L)) (J:Rd g a (.bo en.z p L.length)) (hi:Rd g b (.lit (.int k m))) (aJ:ft P t e en.z=true) (h:idx L m=some y) (bA:Nat.blt 0 en.z=true):dv P g (.indexAddr t a b) ty (.ptr p (m.toNat * en.z+0)):=by
 obtain ⟨bd,h1,_⟩:=qk h;obtain ⟨ae,rfl⟩:=Int.eq_ofNat_of_zero_le bd;have uF:0<en.z:=by simpa using bA
 have aa:ae<L.length:=by omega
 refine .fq (.Dn J.bT hi.bT aJ aa ⟨_,aG,_,_,_,.inl rfl,?_⟩);rw [od]; exact Nat.mul_lt_mul_of_pos_right aa uF
theorem U2 {en:cD α}{L:List α}{y:α}{o:Nat}(h:idx L m=some y) (bh:o<en.z):m.toNat * en.z+o<(cj en L).length:=by
 obtain ⟨bd,h1,_⟩:=qk h;rw [od];have al:m.toNat+1<=L.length:=by omega
 calc m.toNat * en.z+o<m.toNat * en.z+en.z:=by omega
  _=(m.toNat+1) * en.z:=by rw [Nat.add_mul]; omega
  _<=L.length * en.z:=Nat.mul_le_mul_right _ al
theorem kk {en:cD α}{L:List α}{y:α}{eV f off o hL:Nat}(aG:b' g p=some (ak en L)) (J:Rd g a (.ptr p (m.toNat * en.z+o))) (bn:dy P eV f off t=true) (h:idx L m=some y) (bh:o+off=hL) (a_:Nat.blt hL en.z=true):dv P g (.fieldAddr eV a f) ty (.ptr p (m.toNat * en.z+hL)):=by
 subst bh;rw [<- Nat.add_assoc];refine .fq (.zO J.bT bn ⟨_,aG,_,_,_,.inl rfl,?_⟩);rw [Nat.add_assoc]; exact U2 h (by simpa using a_)
theorem rM {en:cD α}{L:List α}{y:α}{o:Nat}{x:ag}(aG:b' g p=some (ak en L)) (h:idx L m=some y) (ab:(en.cells y)[o]?=some x):b' g (p.push (m.toNat * en.z+o))=some x:=by
 rw [sA,aG];exact Ng en h ab
theorem jh {en:cD α}{L:List α}{y:α}{o:Nat}{x x':ag}(aG:b' g p=some (ak en L)) (J:Rd g a (.ptr p (m.toNat * en.z+o))) (aJ:hI P t=true) (h:idx L m=some y) (ab:(en.cells y)[o]?=some x) (aw:im 0 (p.push (m.toNat * en.z+o)) x=x'):dv P g (.load t a) ty x':=by
 subst aw;exact .fq (.AN J.bT aJ (rM aG h ab))
end O
class qF (g:aW):Prop where fT:∀ t z q n m new,g t≠some (.b8 z q n m new)
class oq (x:ag):Prop where fT:∀ z q n m new,x≠.b8 z q n m new
instance {x:ag} [h:cS x]:oq x:=⟨by rintro z q n m new rfl; cases h.bL⟩
instance {p:Place}{k:Nat}:oq (.ptr p k):=⟨by simp⟩
instance {p:Place}{z n:Nat}:oq (.bo z p n):=⟨by simp⟩
instance {p:Place}{z lo n:Nat}:oq (.sub z p lo n):=⟨by simp⟩
instance {cs:List ag}:oq (.agg cs):=⟨by simp⟩
instance {cs:List ag}:oq (.cC cs):=⟨by simp⟩
instance {cs:List ag}:oq (.obj cs):=⟨by simp⟩
instance {g:aW}{d:Nat}{x:ag} [h:qF g] [J:oq x]:qF (e5 g d x):=⟨λt z q n m new e=>by
 unfold e5 at e
 split at e
 ·cases e; exact J.fT _ _ _ _ _ rfl
 ·exact h.fT _ _ _ _ _ _ e⟩
instance:qF (get []):=⟨λ_ _ _ _ _ _ e=>by cases e⟩
instance {t:Nat}{x:ag}{G:List (Nat × ag)} [J:oq x] [h:qF (get G)]:qF (get ((t,x)::G)):=⟨λs z q n m new e=>by
 simp only [get] at e
 split at e
 ·cases e; exact J.fT _ _ _ _ _ rfl
 ·exact h.fT _ _ _ _ _ _ e⟩
class B0 (acc:Acc):Prop where fT:∀ e∈acc,∀ z q n m new,e.2.2≠some (.b8 z q n m new)
instance:B0 []:=⟨by simp⟩
instance {ae d:Nat}{x:ag}{acc:Acc} [J:oq x] [h:B0 acc]:B0 ((ae,d,some x)::acc):=⟨λe he z q n m new ca=>by
 rcases List.mem_cons.1 he with rfl | he
 ·exact J.fT z q n m new (Option.some.inj ca)
 ·exact h.fT e he z q n m new ca⟩
instance {G:List (Nat × ag)}{A:Nat->Bool}{acc:Acc} [ba:qF (get G)] [h:B0 acc]:qF (ep (get G) A acc):=⟨λt z q n m new e=>by
 rcases tw e with ⟨cU,he,_,_,al⟩ | ⟨_,al⟩
 ·exact h.fT cU he _ _ _ _ _ al
 ·exact ba.fT _ _ _ _ _ _ al⟩
theorem zc {L M:List α}{r:List α}{b:Nat}(h:ez L M=some r) (aK:Nat.ble b 128=true):L.length+M.length<=4611686018427387904/\(L.length+M.length) * b<=140737488355328/\r=L++M:=by
 unfold ez at h
 split at h
 ·rename_i ao;have kD:=Nat.le_of_ble_eq_true aK;have uw:lim=1099511627776:=rfl;refine ⟨by omega,?_,(Option.some.inj h).symm⟩
  calc (L.length+M.length) * b<=1099511627776 * 128:=Nat.mul_le_mul ao kD
   _=140737488355328:=by decide
 ·cases h
inductive rH (g:aW) (en:cD α):ag->List α->Prop
 | i {M:List α}:rH g en (.aF en.z M.length (cj en M)) M
 | n:rH g en .aN []
 | o {q:Place}{M:List α}(bR:b' g q=some (ak en M)) (bn:(cj en M).all lE=true):rH g en (.bo en.z q M.length) M
theorem rH.src {en:cD α}{y:ag}{M:List α}(h:rH g en y M):Src g y en.z M.length (cj en M):=by
 cases h with
 | i=>exact .aF
 | n=>exact .aN
 | o bR bn =>
  have:=Src.bo (g:=g) (m:=M.length) bR (Nat.le_refl _);rw [wW,zQ (q:=λi=>_) bn] at this;exact this
theorem rH.flat (en:cD α) [Flat en] {q:Place}{M:List α}(bR:b' g q=some (ak en M)):rH g en (.bo en.z q M.length) M:=.o bR (U6 en M)
namespace O
theorem ap {en:cD α}{L M r:List α}{y:ag}{e kj:Nat}(aL:Rd g a (.bo en.z p L.length)) (aG:b' g p=some (ak en L)) (J:Rd g b y) (hm:rH g en y M) (aJ:iY P t e en.z kj=true) (aK:Nat.ble kj 128=true) (h:ez L M=some r) [ht:qF g] :
  dv P g (.call { callee:=.builtin .append,args:=#[a,b],argTypes:=#[t,t] }) ty (.b8 en.z p L.length M.length (cj en M)):=by
 obtain ⟨h1,al,_⟩:=zc h aK;exact .lM (.grow aL.bT (.inl ⟨_,aG⟩) (λt cK cY bS di e=>ht.fT _ _ _ _ _ _ e) J.bT hm.src aJ h1 al)
theorem OO {en:cD α}{M r:List α}{y:ag}{e kj:Nat}(aL:Rd g a .aN) (J:Rd g b y) (hm:rH g en y M) (aJ:iY P t e en.z kj=true) (aK:Nat.ble kj 128=true) (h:ez [] M=some r) :
  dv P g (.call { callee:=.builtin .append,args:=#[a,b],argTypes:=#[t,t] }) ty (ak en M):=by
 obtain ⟨h1,al,_⟩:=zc h aK;simp only [List.length_nil,Nat.zero_add] at h1 al;exact .lM (.nil aL.bT J.bT hm.src aJ h1 al)
end O
inductive p3 (ex:List Nat) (g g2:aW):List (Nat × ag)->Prop
 | nil:p3 ex g g2 []
 | n {s:Nat}{x:ag}{l:List (Nat × ag)}(ek:ex.elem s=false) (h:g s=some x) [aP:cS x] (t:p3 ex g g2 l):p3 ex g g2 ((s,x)::l)
 | p {s q k:Nat}{l:List (Nat × ag)}{nR:List ag}(ek:ex.elem s=false) (h:g s=some (.ptr ⟨q,[]⟩ k)) (al:g2 q=some (.obj nR)) (gX:Nat.blt k nR.length=true) (t:p3 ex g g2 l):p3 ex g g2 ((s,.ptr ⟨q,[]⟩ k)::l)
theorem p3.spec {ex:List Nat}{l:List (Nat × ag)}(h:p3 ex g g2 l):∀ t x,get l t=some x->ex.elem t=false/\g t=some x/\e3 g2 x/\∀ z p n m new,x≠.b8 z p n m new:=by
 induction h with
 | nil=>intro t x J; cases J
 | @n s x l ek h aP _ aS =>
  intro t y az; simp only [get] at az
  split at az
  ·rename_i e; subst e; cases az; exact ⟨ek,h,.bL aP.bL,by rintro z p n m new rfl; cases aP.bL⟩
  ·exact aS t y az
 | @p s q k l nR ek h al gX _ aS =>
  intro t y az; simp only [get] at az
  split at az
  ·rename_i e; subst e; cases az; exact ⟨ek,h,.ref rfl (uU al (by simpa using gX)),by simp⟩
  ·exact aS t y az
theorem p3.keep {ex:List Nat}{G2:List (Nat × ag)}(h:p3 ex g (get G2) G2) (ba:∀ t,ex.elem t=false->g1 t=g t):fu g1 (get G2) :=
 ⟨λt x J=>by obtain ⟨h1,al,_⟩:=h.spec t x J; rw [ba t h1]; exact al,λt x J=>(h.spec t x J).2.2.1,λt z q n m new J=>(h.spec t _ J).2.2.2 _ _ _ _ _ rfl⟩
theorem Take.row {en:cD α}{L:List α}(aG:b' g p=some (ak en L)):Take g [.bo en.z p L.length] [ak en L] (db g p .dead):=by
 have h1:Take (db g p .dead) ((cj en L).take (L.length * en.z)) (cj en L) (db g p .dead):=by
  rw [wW]; exact .bL (oe en L)
 exact .bo aG (Nat.le_refl _) h1 (.bL (by simp))
theorem Take.U4 {en:cD α}{L M:List α}{s:Nat}(aL:g s=some (.b8 en.z q L.length M.length (cj en M))) (aG:b' g q=some (ak en L)) (bR:q.root≠s):Take g [.bo en.z ⟨s,[]⟩ (L.length+M.length)] [ak en (L++M)] (db (db g ⟨s,[]⟩ .dead) q .dead):=by
 rw [<- DH];exact .b8 aL aG bR (.bL λx J=>(List.mem_append.1 J).elim (oe en L x) (oe en M x)) (.bL (by simp))
theorem Take.U5 {en:cD α}{L M M2:List α}{s s2:Nat}(aL:g s=some (.b8 en.z ⟨s2,[]⟩ (L.length+M2.length) M.length (cj en M))) (ya:g s2=some (.b8 en.z q L.length M2.length (cj en M2))) (aG:b' g q=some (ak en L)) (bR:q.root≠s) (r4:q.root≠s2) (GP:s≠s2) :
  Take g [.bo en.z ⟨s,[]⟩ (L.length+M2.length+M.length)] [ak en (L++M2++M)] (db (db (db g ⟨s,[]⟩ .dead) ⟨s2,[]⟩ .dead) q .dead):=by
 have:=Take.DM (g:=g) (xs:=[]) (xs':=[]) aL ya rfl aG bR r4 GP (.bL (xs:=cj en L++cj en M2++cj en M) λx J=>by
  rcases List.mem_append.1 J with h | h
  ·exact (List.mem_append.1 h).elim (oe en L x) (oe en M2 x)
  ·exact oe en M x h) (.bL (by simp))
 have e:(ak en (L++M2++M):ag)=.own en.z (L.length+M2.length+M.length) (cj en L++cj en M2++cj en M):=by
  unfold ak; rw [List.length_append,List.length_append,wV,wV]
 rw [e]; exact this
theorem u1 {t:Nat}{y:ag}(h:t≠p.root):db g p y t=g t:=by unfold db; rw [if_neg h]
theorem xO {ex:List Nat}{t s:Nat}(h:ex.elem t=false) (aL:ex.elem s=true):t≠s:=by rintro rfl; rw [h] at aL; cases aL
theorem cq.kT {o:Oper}{en:cD α}{L:List α}{x:Operand}{G2:List (Nat × ag)}(bh:o.op=.assign x) (aU:o.dst=some d) (J:Rd g x (.bo en.z p L.length)) (aG:b' g p=some (ak en L)) (eu:p3 [p.root] g (get G2) G2) (ba:get G2 d=none) (b5:N.ok d=true):cq P N g o (e5 (get G2) d (ak en L)) :=
 .assign bh aU J.bT (.row aG) .refl (eu.keep λt aJ=>u1 (xO aJ (by simp))) ba b5
theorem cq.o8 {o:Oper}{en:cD α}{L M:List α}{s:Nat}{x:Operand}{G2:List (Nat × ag)}(bh:o.op=.assign x) (aU:o.dst=some d) (J:Rd g x (.bo en.z ⟨s,[]⟩ (L.length+M.length))) (aL:g s=some (.b8 en.z q L.length M.length (cj en M))) (aG:b' g q=some (ak en L)) (bR:Nat.beq q.root s=false)
  (eu:p3 [s,q.root] g (get G2) G2) (ba:get G2 d=none) (b5:N.ok d=true):cq P N g o (e5 (get G2) d (ak en (L++M))) :=
 .assign bh aU J.bT (.U4 aL aG (Nat.ne_of_beq_eq_false bR)) .refl (eu.keep λt aJ=>by rw [u1 (xO aJ (by simp)),u1 (xO aJ (by simp))]) ba b5
theorem cq.Ji {o:Oper}{en:cD α}{L M M2:List α}{s s2:Nat}{x:Operand}{G2:List (Nat × ag)}(bh:o.op=.assign x) (aU:o.dst=some d) (J:Rd g x (.bo en.z ⟨s,[]⟩ (L.length+M2.length+M.length))) (aL:g s=some (.b8 en.z ⟨s2,[]⟩ (L.length+M2.length) M.length (cj en M)))
  (ya:g s2=some (.b8 en.z q L.length M2.length (cj en M2))) (aG:b' g q=some (ak en L)) (bR:Nat.beq q.root s=false) (r4:Nat.beq q.root s2=false) (GP:Nat.beq s s2=false)
  (eu:p3 [s,s2,q.root] g (get G2) G2) (ba:get G2 d=none) (b5:N.ok d=true):cq P N g o (e5 (get G2) d (ak en (L++M2++M))) :=
 .assign bh aU J.bT (.U5 aL ya aG (Nat.ne_of_beq_eq_false bR) (Nat.ne_of_beq_eq_false r4) (Nat.ne_of_beq_eq_false GP)) .refl (eu.keep λt aJ=>by rw [u1 (xO aJ (by simp)),u1 (xO aJ (by simp)),u1 (xO aJ (by simp))]) ba b5
theorem av.gN {o:Oper}{x:ag}{G2:List (Nat × ag)}(ba:o.guard=none) (he:cq P N g o (e5 (get G2) d x)) (hk:av P N ops l (e5 (get G2) d x) K):av P N ops (o::l) g K:=by
 intro i hi;obtain ⟨h1,al⟩:=drop_cons hi;obtain ⟨g',aw,eK⟩:=hk (i+1) al;refine ⟨g',.ox h1 ?_ he aw,eK⟩;unfold iX; rw [ba]
theorem t_ {x:ag}{G:List (Nat × ag)}:e5 (get G) d x=get ((d,x)::G):=by
 funext t; unfold e5; simp only [get]
variable {ch:List (List Nat)}{acc:Acc}{i:Nat}
inductive za (P:Program):aW->List ResultVar->List ag->List ag->aW->Prop
 | nil {g:aW}:za P g [] [] [] g
 | f {g g':aW}{t:Nat}{x:ag}{rs:List ResultVar}{ys xs:List ag}(h:g t=some x) (bn:lE x=true) [aP:cS x] (aJ:za P g rs ys xs g'):za P g (.tmp t::rs) (x::ys) (x::xs) g'
 | o {g g':aW}{t:Nat}{en:cD α}{L:List α}{rs:List ResultVar}{ys xs:List ag}(h:g t=some (ak en L)) (aJ:za P (db g ⟨t,[]⟩ .dead) rs ys xs g'):za P g (.tmp t::rs) (.bo en.z ⟨t,[]⟩ L.length::ys) (ak en L::xs) g'
end
end Go.Own
namespace Go.Own
open Go
variable {α β:Type}
section
variable {P:Program}{N:dK}{ops:Array Oper}{g g' g1 g2:aW}{K:aW->Prop}{l:List Oper}{d r:Nat}{ty t t2:TypeId}{pos:String}{after:Array Edge}{a b c:Operand}{p q:Place}{e:Exit}
inductive p2 (s:Nat):aW->Nat->List ag->List ag->aW->Prop
 | nil {g:aW}{i:Nat}:p2 s g i [] [] g
 | f {g g':aW}{i:Nat}{x:ag}{ys xs:List ag}(bn:lE x=true) [aP:cS x] (aJ:p2 s g (i+1) ys xs g'):p2 s g i (x::ys) (x::xs) g'
 | o {α:Type}{g g':aW}{i:Nat}{en:cD α}{L:List α}{ys xs:List ag}(aG:b' g ⟨s,[i]⟩=some (ak en L)) (aJ:p2 s (db g ⟨s,[i]⟩ .dead) (i+1) ys xs g'):p2 s g i (.bo en.z ⟨s,[i]⟩ L.length::ys) (ak en L::xs) g'
theorem p2.take {s i:Nat}{ys xs:List ag}(h:p2 s g i ys xs g'):Take g ys xs g':=by
 induction h with
 | nil=>exact .bL (by simp)
 | @f g g' i x ys xs bn aP _ aS=>exact .cons aP.bL aS
 | @o α g g' i en L ys xs aG _ aS =>
  refine .bo aG (Nat.le_refl _) ?_ aS;rw [wW]; exact .bL (oe en L)
inductive o3 (P:Program):aW->List ResultVar->List ag->List ag->aW->Prop
 | nil {g:aW}:o3 P g [] [] [] g
 | f {g g':aW}{t:Nat}{x:ag}{rs:List ResultVar}{ys xs:List ag}(h:g t=some x) (bn:lE x=true) [aP:cS x] (aJ:o3 P g rs ys xs g'):o3 P g (.tmp t::rs) (x::ys) (x::xs) g'
 | o {α:Type}{g g':aW}{t:Nat}{en:cD α}{L:List α}{rs:List ResultVar}{ys xs:List ag}(h:g t=some (ak en L)) (aJ:o3 P (db g ⟨t,[]⟩ .dead) rs ys xs g'):o3 P g (.tmp t::rs) (.bo en.z ⟨t,[]⟩ L.length::ys) (ak en L::xs) g'
 | c {g g' CM:aW}{t z:Nat}{ty:TypeId}{cs ys0:List ag}{rs:List ResultVar}{ys xs:List ag}(h:g t=some (.obj cs)) (aJ:iP P ty z=true) (bA:cs.length=z) (bd:Nat.blt 0 z=true) (az:(cs.mapIdx λi x=>im 0 ⟨t,[i]⟩ x)=ys0) (hk:p2 t g 0 ys0 cs CM) (aw:o3 P CM rs ys xs g'):o3 P g (.cell t ty::rs) (.agg ys0::ys) (.agg cs::xs) g'
def xi (g0 g:aW):Prop:=∀ t x,g t=some x->(lE x=true\/(∃ z n cs,x=.own z n cs))->g0 t=some x
theorem xi.set {g0:aW}{t:Nat}{pp:List Nat}(h:xi g0 g) (bh:pp=[]\/∃ cs,g t=some (.obj cs)):xi g0 (db g ⟨t,pp⟩ .dead):=by
 intro s x J bn;unfold db at J
 split at J
 ·rename_i aL;simp only at aL J;subst aL;exfalso;cases ba:g s with
  | none=>rw [ba] at J; cases J
  | some y =>
   rw [ba] at J;simp only [Option.map_some,Option.some.injEq] at J;rcases bh with rfl | ⟨cs,ab⟩
   ·simp only [ag.setAt] at J;subst J;rcases bn with bn | ⟨_,_,_,bn⟩ <;> cases bn
   ·rw [ba] at ab;cases ab;have:∃ cs',x=.obj cs':=by
     subst J;cases pp with
     | nil=>simp only [ag.setAt] at bn; rcases bn with bn | ⟨_,_,_,bn⟩ <;> cases bn
     | cons k pp =>
      simp only [ag.setAt,ag.kids];split
      ·exact ⟨_,rfl⟩
      ·exact ⟨_,rfl⟩
    obtain ⟨cs',rfl⟩:=this;rcases bn with bn | ⟨_,_,_,bn⟩ <;> cases bn
 ·exact h s x J bn
theorem p2.Qw {g0:aW}{s i:Nat}{ys xs:List ag}(h:p2 s g i ys xs g'):(∃ cs,g s=some (.obj cs))->xi g0 g->xi g0 g':=by
 induction h with
 | nil=>exact λ_ h=>h
 | f _ _ aS=>exact aS
 | @o α g g' i en L ys xs aG _ aS =>
  intro bh aU;refine aS ?_ (aU.set (.inr bh));obtain ⟨cs,ab⟩:=bh;unfold db;simp only [if_pos,ab,Option.map_some,ag.setAt,ag.kids];split
  ·exact ⟨_,rfl⟩
  ·exact ⟨_,rfl⟩
theorem p2.out {s i:Nat}{ys xs:List ag}(h:p2 s g i ys xs g'):∀ t,t≠s->g' t=g t:=by
 induction h with
 | nil=>exact λ_ _=>rfl
 | f _ _ aS=>exact aS
 | o _ _ aS=>exact λt aJ=>by rw [aS t aJ,u1 aJ]
theorem o3.take {rs:List ResultVar}{ys xs:List ag}(h:o3 P g rs ys xs g'):Take g ys xs g':=by
 induction h with
 | nil=>exact .bL (by simp)
 | @f g g' t x rs ys xs h bn aP _ aS=>exact .cons aP.bL aS
 | @o α g g' t en L rs ys xs h _ aS =>
  have aG:b' g ⟨t,[]⟩=some (ak en L):=by simp [b',h,ag.at]
  refine .bo aG (Nat.le_refl _) ?_ aS;rw [wW]; exact .bL (oe en L)
 | @c g g' CM t z ty cs ys0 rs ys xs h aJ bA bd az hk _ aS=>exact .agg hk.take aS
theorem o3.vs {rs:List ResultVar}{ys xs:List ag}(h:o3 P g rs ys xs g'):∀ g0:aW,xi g0 g->(∀ t ty,ResultVar.cell t ty∈rs->∀ cs,g t=some (.obj cs)->g0 t=some (.obj cs))->(rs.filterMap fun | .cell t _=>some t | _=>none).Nodup->qI P g0 rs ys:=by
 induction h with
 | nil=>exact λ_ _ _ _=>.nil
 | @f g g' t x rs ys xs h bn aP _ aS =>
  intro g0 aU aK gg;exact .cons (.tmp (Rd.f (aU t x h (.inl bn)) bn)) (aS g0 aU (λt ty hm=>aK t ty (List.mem_cons_of_mem _ hm)) (by simpa using gg))
 | @o α g g' t en L rs ys xs h _ aS =>
  intro g0 aU aK gg;refine .cons (.tmp ?_) (aS g0 (aU.set (.inl rfl)) (λs ty hm cs ab=>?_) (by simpa using gg))
  ·have:=aU t _ h (.inr ⟨_,_,_,rfl⟩);simp [Own.bT,this,rn,im]
  ·by_cases aL:s=t
   ·subst aL; simp [db,h,ag.setAt] at ab
   ·rw [u1 aL] at ab; exact aK s ty (List.mem_cons_of_mem _ hm) cs ab
 | @c g g' CM t z ty cs ys0 rs ys xs h aJ bA bd az hk _ aS =>
  intro g0 aU aK gg;have h1:=aK t ty (by simp) cs h;simp only [List.filterMap_cons,List.nodup_cons] at gg;refine .cons ?_ (aS g0 (hk.Qw ⟨cs,h⟩ aU) (λs NY hm cs' ab=>?_) gg.2)
  ·have uF:0<z:=by simpa using bd
   have J:Own.bT g0 (.tmp t)=some (.ptr ⟨t,[]⟩ 0):=by
    cases cs with
    | nil=>simp at bA; omega
    | cons c cs=>simp [Own.bT,h1,rn,im]
   have:=dp.yj (P:=P) (ty:=ty) (p:=⟨t,[]⟩) (n:=0) (z:=0) J aJ (by simp only [b',h1,ag.at]) (.inr rfl) (show 0+z<=cs.length by omega);have gV:((cs.drop 0).take z).mapIdx (λi x=>im 0 (Place.push ⟨t,[]⟩ (0+i)) x)=ys0:=by
    rw [List.drop_zero,List.take_of_length_le (by omega),<- az];congr 1;funext i x;simp [Place.push]
   rw [gV] at this;exact .cell this
  ·have cf:s≠t:=by
    rintro rfl;exact gg.1 (List.mem_filterMap.2 ⟨.cell s NY,hm,rfl⟩)
   have:=hk.out s cf;rw [this] at ab;exact aK s NY (List.mem_cons_of_mem _ hm) cs' ab
inductive sv (g:aW) (pins:List Nat):Nat->List (Option ag)->Prop
 | nil {i:Nat}:sv g pins i []
 | no {i:Nat}{os:List (Option ag)}(t:sv g pins (i+1) os):sv g pins i (none::os)
 | au {i:Nat}{x:ag}{os:List (Option ag)}(h:g i=some x) [aP:cS x] (aG:pins.elem i=true) (t:sv g pins (i+1) os):sv g pins i (some x::os)
theorem sv.spec {pins:List Nat}{i:Nat}{os:List (Option ag)}(h:sv g pins i os):∀ k x,os[k]?=some (some x)->g (i+k)=some x/\dc x/\i+k∈pins:=by
 induction h with
 | nil=>intro k x hk; simp at hk
 | no _ aS =>
  intro k x hk;cases k with
  | zero=>simp at hk
  | succ k=>have:=aS k x (by simpa using hk); rw [Nat.add_assoc,Nat.add_comm 1 k] at this; exact this
 | @au i y os h aP aG _ aS =>
  intro k x hk;cases k with
  | zero=>simp at hk; subst hk; exact ⟨h,aP.bL,by simpa using aG⟩
  | succ k=>have:=aS k x (by simpa using hk); rw [Nat.add_assoc,Nat.add_comm 1 k] at this; exact this
theorem Fin.ro {rs:List ResultVar}{ys xs:List ag}{res:ag}{outs:List (Option ag)}{n:Nat}(h:o3 P g rs ys xs g') (he:qv xs=res) (gg:(rs.filterMap fun | .cell t _=>some t | _=>none).Nodup) (bh:sv g' N.pins 0 outs) (ao:outs.length=n) (J:e=.normal\/e=.ret):Fin P N rs n outs res e g :=
 ⟨J,⟨ys,xs,g',h.vs g (λ_ _ h _=>h) (λ_ _ _ _ h=>h) gg,h.take,he.symm,λk x hk=>by have:=bh.spec k x hk; rw [Nat.zero_add] at this; exact this⟩,ao⟩
class ky (x y:ag):Prop where v:∀ g,View g x y
class dQ (xs ys:List ag):Prop where
 l:ys.length=xs.length
 v:∀ (g:aW) (k:Nat) (x y:ag),xs[k]?=some x->ys[k]?=some y->View g x y
class ho (e cU:cD α):Prop where
 z:e.z=cU.z
 v:∀ a,dQ (e.cells a) (cU.cells a)
instance {v:Value}:ky (.lit v) (.lit v):=⟨λ_=>.self .lit (by simp) (by simp) (by simp) (by simp) (by simp)⟩
instance:ky .aN .aN:=⟨λ_=>.self .aN (by simp) (by simp) (by simp) (by simp) (by simp)⟩
instance {z n:Nat}{cs:List ag} [h:eU cs]:ky (.aF z n cs) (.aF z n cs):=⟨λ_=>.self (.aF h.bL) (by simp) (by simp) (by simp) (by simp) (by simp)⟩
instance {cs:List ag} [h:eU cs]:ky (.bk cs) (.bk cs):=⟨λ_=>.self (.bk h.bL) (by simp) (by simp) (by simp) (by simp) (by simp)⟩
instance {e:cD α}:ky .aN (aj e []):=⟨λ_=>.pI⟩
instance:dQ [] []:=⟨rfl,by simp⟩
instance {x y:ag}{xs ys:List ag} [h:ky x y] [aR:dQ xs ys]:dQ (x::xs) (y::ys):=⟨by simp [aR.l],λg k a b bf aK=>by
 cases k with
 | zero=>simp at bf aK; subst bf aK; exact h.v g
 | succ k=>exact aR.v g k a b (by simpa using bf) (by simpa using aK)⟩
theorem BG (e cU:cD α) [h:ho e cU]:∀ L:List α,(cj cU L).length=(cj e L).length/\∀ (g:aW) (k:Nat) (x y:ag),(cj e L)[k]?=some x->(cj cU L)[k]?=some y->View g x y
 | []=>⟨rfl,by simp [cj]⟩
 | a::L=>by
  obtain ⟨h1,al⟩:=BG e cU L;have QK:∀ e:cD α,cj e (a::L)=e.cells a++cj e L:=λe=>by simp [cj]
  refine ⟨by rw [od,od,h.z],λg k x y J az=>?_⟩;rw [QK] at J az;by_cases hk:k<e.z
  ·rw [List.getElem?_append_left (by rw [e.len]; exact hk)] at J;rw [List.getElem?_append_left (by rw [cU.len,<- h.z]; exact hk)] at az;exact (h.v a).v g k x y J az
  ·rw [List.getElem?_append_right (by rw [e.len]; omega),e.len] at J;rw [List.getElem?_append_right (by rw [cU.len,<- h.z]; omega),cU.len,<- h.z] at az;exact al g _ x y J az
instance {e cU:cD α}{L:List α} [h:ho e cU]:ky (ak e L) (aj cU L):=⟨λg=>by
 have:=BG e cU L;show View g (.own e.z L.length (cj e L)) (.aF cU.z L.length (cj cU L));rw [<- h.z];exact .own this.1 (this.2 g)⟩
instance:ho aM aM:=⟨rfl,λa=>(inferInstance:dQ [j a] [j a])⟩
instance:ho nT nT:=⟨rfl,λa=>(inferInstance:dQ [lT a] [lT a])⟩
instance:ho bJ bJ:=⟨rfl,λa=>(inferInstance:dQ [a' a] [a' a])⟩
instance:ho cA cA:=⟨rfl,λa=>(inferInstance:dQ [af a] [af a])⟩
instance {e cU:cD α} [h:ho e cU]:ho (fb e) (bU cU):=⟨rfl,λa=>(inferInstance:dQ [ak e a] [aj cU a])⟩
instance {e:cD α}:ho (bU e) (bU e):=⟨rfl,λa=>(inferInstance:dQ [aj e a] [aj e a])⟩
theorem View.row {e cU:cD α}{L:List α} [h:ho e cU] (aG:b' g p=some (ak e L)):View g (.bo e.z p L.length) (aj cU L):=by
 have:=BG e cU L;show View g _ (.aF cU.z L.length (cj cU L));rw [<- h.z];refine .bo aG (Nat.le_refl _) (by rw [wW]; exact this.1) (λk x y J az=>?_);rw [wW] at J;exact this.2 g k x y J az
inductive p4 (g:aW):List ag->List ag->Prop
 | nil:p4 g [] []
 | s {x y:ag}{xs ys:List ag} [h:ky x y] (t:p4 g xs ys):p4 g (x::xs) (y::ys)
 | c {x y:ag}{xs ys:List ag}(h:View g x y) (t:p4 g xs ys):p4 g (x::xs) (y::ys)
theorem p4.len {xs ys:List ag}(h:p4 g xs ys):ys.length=xs.length:=by
 induction h with
 | nil=>rfl
 | s _ aS=>simp [aS]
 | c _ _ aS=>simp [aS]
theorem p4.get {xs ys:List ag}(h:p4 g xs ys):∀ (k:Nat) (x y:ag),xs[k]?=some x->ys[k]?=some y->View g x y:=by
 induction h with
 | nil=>intro k x y J; simp at J
 | @s x y xs ys h _ aS =>
  intro k a b bf aK;cases k with
  | zero=>simp at bf aK; subst bf aK; exact h.v g
  | succ k=>exact aS k a b (by simpa using bf) (by simpa using aK)
 | @c x y xs ys h _ aS =>
  intro k a b bf aK;cases k with
  | zero=>simp at bf aK; subst bf aK; exact h
  | succ k=>exact aS k a b (by simpa using bf) (by simpa using aK)
theorem View.sx {xs ys:List ag}(h:p4 g xs ys):View g (.agg xs) (.agg ys):=.agg h.len h.get
class qG (x:ag):Prop where k8:kx x
class jW (cs:List ag):Prop where k8:∀ x∈cs,kx x
class lS (e:cD α):Prop where k8:∀ a,jW (e.cells a)
instance {v:Value}:qG (.lit v):=⟨.lit⟩
instance:qG .aN:=⟨.aN⟩
instance:jW []:=⟨by simp⟩
instance {x:ag}{xs:List ag} [h:qG x] [aR:jW xs]:jW (x::xs):=⟨λy az=>by
 rcases List.mem_cons.1 az with rfl | az
 ·exact h.k8
 ·exact aR.k8 y az⟩
instance {e:cD α}{L:List α} [h:lS e]:jW (cj e L):=⟨λx J=>by
 obtain ⟨a,_,bf⟩:=List.mem_flatMap.1 J;exact (h.k8 a).k8 x bf⟩
instance {z n:Nat}{cs:List ag} [h:jW cs]:qG (.own z n cs):=⟨.own h.k8⟩
instance {cs:List ag} [h:jW cs]:qG (.obj cs):=⟨.obj h.k8⟩
instance {cs:List ag} [h:jW cs]:qG (.agg cs):=⟨.agg h.k8⟩
instance {cs:List ag} [h:jW cs]:qG (.cC cs):=⟨.cC h.k8⟩
instance {e:cD α}{a:α} [h:lS e]:jW (e.cells a):=h.k8 a
instance:lS aM:=⟨λa=>(inferInstance:jW [j a])⟩
instance:lS nT:=⟨λa=>(inferInstance:jW [lT a])⟩
instance:lS bJ:=⟨λa=>(inferInstance:jW [a' a])⟩
instance:lS cA:=⟨λa=>(inferInstance:jW [af a])⟩
instance {e:cD α} [h:lS e]:lS (fb e):=⟨λa=>(inferInstance:jW [ak e a])⟩
theorem Un {outs:List (Option ag)}{args:List ag}(bh:wu outs=true) (ao:outs.length=args.length):outs=args.map λ_=>none:=by
 apply List.ext_getElem?;intro k;rw [List.getElem?_map];cases az:args[k]? with
 | none=>rw [List.getElem?_eq_none (by rw [ao]; exact List.getElem?_eq_none_iff.1 az)]; rfl
 | some y =>
  have hk:k<outs.length:=by rw [ao]; exact (List.getElem?_eq_some_iff.1 az).1
  have h1:=List.getElem?_eq_getElem hk;rw [h1];cases al:outs[k] with
  | none=>rfl
  | some x=>rw [al] at h1; exact absurd h1 (DG bh k x)
theorem cu.vw {xs:List Operand}{iC:Array TypeId}{f:FuncId}{ys args:List ag}{outs:List (Option ag)}{res:ag}(J:iH g xs=some ys) (hv:p4 g ys args) (jb:cc P f args outs res) (bn:dB P f=true) (bh:wu outs=true) [aw:qG res] :
  cu P g (.call { callee:=.value (.func f),args:=xs.toArray,argTypes:=iC }) res:=by
 have e:=Un bh jb.1;refine .Dz (first:=[]) (caps:=[]) (ys:=ys) (args:=args) rfl (by simpa using J) bn (by simpa using hv.len) (λk x y J az=>hv.get k x y (by simpa using J) az) ?_ aw.k8;rw [<- e]; exact jb
end
end Go.Own
namespace Go.Own
open Go
variable {α β:Type}
section
variable {P:Program}{N:dK}{ops:Array Oper}{g g' g1 g2:aW}{K:aW->Prop}{l:List Oper}{d r:Nat}{op:Op}{ty t t2:TypeId}{pos:String}{after:Array Edge}{iw:Option (Nat × Bool)}{a b c:Operand}{p q:Place}{x y:ag}
variable {ch:List (List Nat)}{g0:aW}{acc:Acc}{i:Nat}
instance {cs cs':List ag} [h:dQ cs cs']:ky (.obj cs) (.bk cs'):=⟨λg=>.obj h.l (h.v g)⟩
instance {cs cs':List ag} [h:dQ cs cs']:ky (.agg cs) (.agg cs'):=⟨λg=>.agg h.l (h.v g)⟩
instance {z n:Nat}{cs cs':List ag} [h:dQ cs cs']:ky (.own z n cs) (.aF z n cs'):=⟨λg=>.own h.l (h.v g)⟩
theorem av.gB (aG:dv P g op ty y) [aP:cS y] [hv:ky y x] (b5:N.ok d=true) (bn:g d=none) (ba:gD g ops iw) (hk:av P N ops l (e5 g d x) K):av P N ops (⟨some d,op,ty,pos,after,iw⟩::l) g K :=
 .yQ rfl b5 bn (r:=some x) (.inr (.inr ⟨ba.wanted,y,.inl aG,aP.bL,hv.v _⟩)) hk
theorem bN.gB (ds:Nat) (aG:dv P (oi ch g0 ds acc) op ty y) [aP:cS y] [hv:ky y x] (aa:Nat.beq ops.size (ds+l.length+1)=true) (bn:g0 d=none) (pt:acc.all (λe=>!Nat.beq e.2.1 d)=true) (b5:N.ok d=true) (ba:gD (oi ch g0 ds acc) ops iw)
  (hk:bN P N ops ch g0 i ((ds,d,some x)::acc) l K):bN P N ops ch g0 i acc (⟨some d,op,ty,pos,after,iw⟩::l) K :=
 .st ds (r:=some x) rfl (.inr (.inr ⟨ba.wanted,y,.inl aG,aP.bL,hv.v _⟩)) aa bn pt b5 hk
inductive o7 (ex:List Nat) (g g2:aW):List (Nat × ag)->Prop
 | nil:o7 ex g g2 []
 | n {s:Nat}{x:ag}{l:List (Nat × ag)}(ek:ex.elem s=false) (h:g s=some x) [aP:cS x] (t:o7 ex g g2 l):o7 ex g g2 ((s,x)::l)
 | p {s q k:Nat}{l:List (Nat × ag)}{nR:List ag}(ek:ex.elem s=false) (h:g s=some (.ptr ⟨q,[]⟩ k)) (al:g2 q=some (.obj nR)) (gX:Nat.blt k nR.length=true) (t:o7 ex g g2 l):o7 ex g g2 ((s,.ptr ⟨q,[]⟩ k)::l)
 | z {s:Nat}{x y:ag}{l:List (Nat × ag)}(he:ex.elem s=true) (h:g s=some y) [aP:cS y] (hv:jH y x) [J:oq x] (t:o7 ex g g2 l):o7 ex g g2 ((s,x)::l)
theorem o7.spec {ex:List Nat}{l:List (Nat × ag)}(h:o7 ex g g2 l):∀ t x,get l t=some x->((ex.elem t=false/\g t=some x/\e3 g2 x)\/(ex.elem t=true/\∃ y,g t=some y/\dc y/\jH y x))/\∀ z p n m new,x≠.b8 z p n m new:=by
 induction h with
 | nil=>intro t x J; cases J
 | @n s x l ek h aP _ aS =>
  intro t y az; simp only [get] at az
  split at az
  ·rename_i e; subst e; cases az; exact ⟨.inl ⟨ek,h,.bL aP.bL⟩,by rintro z p n m new rfl; cases aP.bL⟩
  ·exact aS t y az
 | @p s q k l nR ek h al gX _ aS =>
  intro t y az; simp only [get] at az
  split at az
  ·rename_i e; subst e; cases az; exact ⟨.inl ⟨ek,h,.ref rfl (uU al (by simpa using gX))⟩,by simp⟩
  ·exact aS t y az
 | @z s x y l he h aP hv J _ aS =>
  intro t y' az; simp only [get] at az
  split at az
  ·rename_i e; subst e; cases az; exact ⟨.inr ⟨he,y,h,aP.bL,hv⟩,J.fT⟩
  ·exact aS t y' az
theorem o7.tY {ex:List Nat}{G2:List (Nat × ag)}(h:o7 ex g (get G2) G2):Eo (λt=>ex.elem t) g (get G2):=by
 refine ⟨λt x J aJ=>?_,λt x J aJ=>?_,λt z q n m new J=>(h.spec t _ J).2 _ _ _ _ _ rfl⟩
 ·rcases (h.spec t x J).1 with ⟨_,h1,al⟩ | ⟨h1,_⟩
  ·exact ⟨h1,al⟩
  ·rw [h1] at aJ; cases aJ
 ·rcases (h.spec t x J).1 with ⟨h1,_⟩ | ⟨_,al⟩
  ·rw [h1] at aJ; cases aJ
  ·exact al
theorem W.fM {cg:Code}{G G1:List (Nat × ag)}{Φ:Exit->aW->Prop}(ex:List Nat) (h:o7 ex (get G) (get G1) G1) (hw:W P N cg (get G1) Φ):W P N cg (get G) Φ:=by
 intro Q a w I Fs b6 b5 dY;obtain ⟨I',cz,eL,cf⟩:=b6.tY h.tY;exact hw eL b5 λe g' cF w' he aP=>dY e g' cF w' he (ig.trans rfl hW.refl cf aP)
theorem av.fM {G1:List (Nat × ag)}(ex:List Nat) (h:o7 ex g (get G1) G1) (hk:av P N ops l (get G1) K):av P N ops l g K:=by
 intro i hi;obtain ⟨g',aw,eK⟩:=hk i hi;exact ⟨g',.tY h.tY aw,eK⟩
theorem Take.pre {xs xs':List ag}:∀ {ps:List ag},(∀ x∈ps,dc x)->Take g xs xs' g'->Take g (ps++xs) (ps++xs') g'
 | [],_,h=>h
 | x::ps,aP,h=>.cons (aP x (by simp)) (Take.pre (ps:=ps) (λy az=>aP y (List.mem_cons_of_mem _ az)) h)
inductive iO:aW->List ag->List ag->aW->Prop
 | nil {g:aW}:iO g [] [] g
 | ly {g:aW}{xs:List ag} [aP:eU xs]:iO g xs xs g
 | f {g g':aW}{x:ag}{xs xs':List ag} [aP:cS x] (t:iO g xs xs' g'):iO g (x::xs) (x::xs') g'
 | r {α:Type}{g g':aW}{p:Place}{en:cD α}{L:List α}{xs xs':List ag}(aG:b' g p=some (ak en L)) (t:iO (db g p .dead) xs xs' g'):iO g (.bo en.z p L.length::xs) (ak en L::xs') g'
 | l {g g1 g':aW}{p:Place}{z n:Nat}{cs cs' xs xs':List ag}(aG:b' g p=some (.own z n cs)) (ao:cs.length=n * z) (h1:iO (db g p .dead) cs cs' g1) (t:iO g1 xs xs' g'):iO g (.bo z p n::xs) (.own z n cs'::xs') g'
 | jB {α:Type}{g g1 g':aW}{q:Place}{s m:Nat}{en:cD α}{L:List α}{new di xs xs':List ag}(aL:g s=some (.b8 en.z q L.length m new)) (aG:b' g q=some (ak en L)) (bR:Nat.beq q.root s=false) (h1:iO (db (db g ⟨s,[]⟩ .dead) q .dead) new di g1) (t:iO g1 xs xs' g') :
   iO g (.bo en.z ⟨s,[]⟩ (L.length+m)::xs) (.own en.z (L.length+m) (cj en L++di)::xs') g'
 | sx {g g1 g':aW}{cs cs' xs xs':List ag}(h1:iO g cs cs' g1) (t:iO g1 xs xs' g'):iO g (.agg cs::xs) (.agg cs'::xs') g'
 | m {g g':aW}{p:Place}{q:Array MapEntry->Nat->Prop}{xs xs':List ag}(aG:b' g p=some (.mp q)) (t:iO (db g p .dead) xs xs' g'):iO g (.iR p::xs) (.mp q::xs') g'
 | b {g g1 g':aW}{p:Place}{cs cs' xs xs':List ag}(aG:b' g p=some (.obj cs)) (h1:iO (db g p .dead) cs cs' g1) (t:iO g1 xs xs' g'):iO g (.ptr p 0::xs) (.obj cs'::xs') g'
theorem iO.take {xs xs':List ag}(h:iO g xs xs' g'):Take g xs xs' g':=by
 induction h with
 | m aG _ aS=>exact .mp aG (.bL (by simp)) aS
 | nil=>exact .bL (by simp)
 | @ly g xs aP=>exact .bL aP.bL
 | @f g g' x xs xs' aP _ aS=>exact .cons aP.bL aS
 | @r α g g' p en L xs xs' aG _ aS =>
  refine .bo aG (Nat.le_refl _) ?_ aS;rw [wW]; exact .bL (oe en L)
 | @l g g1 g' p z n cs cs' xs xs' aG ao _ _ gx gq =>
  refine .bo aG (Nat.le_refl _) ?_ gq;rw [List.take_of_length_le (by omega)]; exact gx
 | @jB α g g1 g' q s m en L new di xs xs' aL aG bR _ _ gx gq=>exact .b8 aL aG (Nat.ne_of_beq_eq_false bR) (.pre (oe en L) gx) gq
 | @sx g g1 g' cs cs' xs xs' _ _ gx gq=>exact .agg gx gq
 | @b g g1 g' p cs cs' xs xs' aG _ _ gx gq=>exact .obj aG gx gq
inductive gC:List ag->List ag->Prop
 | nil:gC [] []
 | hf {xs:List ag}:gC xs xs
 | f {x:ag}{xs ys:List ag}(t:gC xs ys):gC (x::xs) (x::ys)
 | o {z:Nat}{xs ys:List ag}(t:gC xs ys):gC (.aN::xs) (.own z 0 []::ys)
 | z {x y:ag}{xs ys:List ag} [aP:cS x] [hv:ky x y] (t:gC xs ys):gC (x::xs) (y::ys)
 | g {x y:ag}{xs ys:List ag}(h:jH x y) (t:gC xs ys):gC (x::xs) (y::ys)
theorem gC.len {xs ys:List ag}(h:gC xs ys):ys.length=xs.length:=by
 induction h with
 | nil=>rfl
 | hf=>rfl
 | f _ aS=>simp [aS]
 | o _ aS=>simp [aS]
 | z _ aS=>simp [aS]
 | g _ _ aS=>simp [aS]
theorem gC.get {xs ys:List ag}(h:gC xs ys):∀ (k:Nat) (x y:ag),xs[k]?=some x->ys[k]?=some y->jH x y:=by
 induction h with
 | nil=>intro k x y J; simp at J
 | hf=>intro k x y J az; rw [J] at az; cases az; exact .refl
 | @f x xs ys _ aS =>
  intro k a b bf aK;cases k with
  | zero=>simp at bf aK; subst bf aK; exact .refl
  | succ k=>exact aS k a b (by simpa using bf) (by simpa using aK)
 | @o z xs ys _ aS =>
  intro k a b bf aK;cases k with
  | zero=>simp at bf aK; subst bf aK; exact .HK
  | succ k=>exact aS k a b (by simpa using bf) (by simpa using aK)
 | @z x y xs ys aP hv _ aS =>
  intro k a b bf aK;cases k with
  | zero=>simp at bf aK; subst bf aK; exact .re aP.bL (hv.v _)
  | succ k=>exact aS k a b (by simpa using bf) (by simpa using aK)
 | @g x y xs ys h _ aS =>
  intro k a b bf aK;cases k with
  | zero=>simp at bf aK; subst bf aK; exact h
  | succ k=>exact aS k a b (by simpa using bf) (by simpa using aK)
theorem gC.pre {xs ys:List ag}(h:gC xs ys):∀ ps:List ag,gC (ps++xs) (ps++ys)
 | []=>h
 | _::ps=>.f (gC.pre h ps)
theorem gC.own {z n:Nat}{xs ys:List ag}(h:gC xs ys):jH (.own z n xs) (.own z n ys):=.own h.len h.get
theorem gC.obj {xs ys:List ag}(h:gC xs ys):jH (.obj xs) (.obj ys):=.obj h.len h.get
theorem gC.agg {xs ys:List ag}(h:gC xs ys):jH (.agg xs) (.agg ys):=.agg h.len h.get
theorem jH.jF [aP:cS x] [hv:ky x y]:jH x y:=.re aP.bL (hv.v _)
theorem cq.B7 {o:Oper}{x:Operand}{y kh y':ag}{G2:List (Nat × ag)}(bh:o.op=.assign x) (aU:o.dst=some d) (J:Rd g x y) (aJ:iO g [y] [kh] g1) (bA:jH kh y') (eu:Trim false g1 (get G2) G2) (ba:get G2 d=none) (b5:N.ok d=true):cq P N g o (e5 (get G2) d y') :=
 .assign bh aU J.bT aJ.take bA eu.keep ba b5
theorem cq.Jt {o:Oper}{x:Operand}{en:cD α}{L M R:List α}{s m:Nat}{new di:List ag}{G2:List (Nat × ag)}(bh:o.op=.assign x) (aU:o.dst=some d) (J:Rd g x (.bo en.z ⟨s,[]⟩ (L.length+m))) (aL:g s=some (.b8 en.z q L.length m new)) (aG:b' g q=some (ak en L)) (bR:Nat.beq q.root s=false)
  (h1:iO (db (db g ⟨s,[]⟩ .dead) q .dead) new di g1) (bA:gC di (cj en M)) (hm:M.length=m) (aw:L++M=R) (eu:Trim false g1 (get G2) G2) (ba:get G2 d=none) (b5:N.ok d=true):cq P N g o (e5 (get G2) d (ak en R)):=by
 subst hm aw;have aJ:=iO.jB (xs:=[]) (xs':=[]) aL aG bR h1 .nil;rw [<- DH];exact .assign bh aU J.bT aJ.take (bA.pre _).own eu.keep ba b5
theorem cq.ts {o:Oper}{k0:Nat}{rQ cs' cs2:List ag}{y kh y':ag}{G2:List (Nat × ag)}(bh:o.op=.store t a b) (aU:o.dst=none) (bf:Rd g a (.ptr ⟨r,[]⟩ k0)) (aK:Rd g b y) (aJ:iO g [y] [kh] g1) (po:jH kh y') (ab:rP y'=some cs') (bA:gA P t cs'.length=true)
  (aL:g1 r=some (.obj rQ)) (hk:Nat.ble (k0+cs'.length) rQ.length=true) (bd:Nat.blt 0 cs'.length=true) (he:fL rQ k0 cs'=cs2) [ht:eU rQ] (aw:(get G2 r).isSome=true) (eu:mY g1 (get G2) r cs2 G2):cq P N g o (get G2):=by
 subst he;refine .store bh aU bf.bT aK.bT aJ.take po ab bA (p:=⟨r,[]⟩) (nd:=.obj rQ) (z:=0) (n:=0) (by simp [b',aL,ag.at]) (.inr rfl) (Nat.le_of_ble_eq_true hk) (by simpa using bd) (λt x J=>?_) (λt x J y az=>?_) (λt z q n m new J=>?_) (by intro e; rw [e] at aw; cases aw)
 ·rcases eu.spec t x J with ⟨h1,al,_⟩ | ⟨h1,al,_⟩
  ·rw [tm h1]; exact al
  ·subst h1 al; simp [db,aL,ag.setAt,ag.fL]
 ·rcases eu.spec t x J with ⟨h1,al,aQ⟩ | ⟨h1,al,aQ⟩
  ·rw [al] at az; cases az; exact aQ.Bt
  ·subst h1;rw [aL] at az;cases az;exact .bL (.obj ht.bL)
 ·rcases eu.spec t _ J with ⟨_,_,aQ⟩ | ⟨_,al,_⟩
  ·exact aQ.fT _ _ _ _ _ rfl
  ·cases al
theorem cq.ml {o:Oper}{k0 s m:Nat}{en:cD α}{L M R:List α}{new di:List ag}{rQ cs2:List ag}{G2:List (Nat × ag)}(bh:o.op=.store t a b) (aU:o.dst=none) (bf:Rd g a (.ptr ⟨r,[]⟩ k0)) (aK:Rd g b (.bo en.z ⟨s,[]⟩ (L.length+m))) (s0:g s=some (.b8 en.z q L.length m new)) (aG:b' g q=some (ak en L)) (bR:Nat.beq q.root s=false)
  (h1:iO (db (db g ⟨s,[]⟩ .dead) q .dead) new di g1) (po:gC di (cj en M)) (hm:M.length=m) (bl:L++M=R) (bA:gA P t 1=true)
  (aL:g1 r=some (.obj rQ)) (hk:Nat.ble (k0+1) rQ.length=true) (he:fL rQ k0 [ak en R]=cs2) [ht:eU rQ] (aw:(get G2 r).isSome=true) (eu:mY g1 (get G2) r cs2 G2):cq P N g o (get G2):=by
 subst hm bl;have aJ:=iO.jB (xs:=[]) (xs':=[]) s0 aG bR h1 .nil;refine .ts (y':=ak en (L++M)) bh aU bf aK aJ ?_ rfl bA aL hk rfl he aw eu;rw [<- DH]; exact (po.pre _).own
inductive oo (r:Nat) (cs:List ag) (k0:Nat):Nat->List ag->List ag->Prop
 | nil {i:Nat}:oo r cs k0 i [] []
 | b {i:Nat}{xs ys:List ag}(hi:Nat.beq i k0=true) (t:oo r cs k0 (i+1) xs ys):oo r cs k0 i (.ptr ⟨r,[]⟩ 0::xs) (.obj cs::ys)
 | n {i:Nat}{x:ag}{xs ys:List ag}(hi:Nat.beq i k0=false) [aP:cS x] (t:oo r cs k0 (i+1) xs ys):oo r cs k0 i (x::xs) (x::ys)
theorem oo.len {cs:List ag}{k0 i:Nat}{xs ys:List ag}(h:oo r cs k0 i xs ys):ys.length=xs.length:=by
 induction h with
 | nil=>rfl
 | b _ _ aS=>simp [aS]
 | n _ _ aS=>simp [aS]
theorem oo.Uo {cs:List ag}{k0 i:Nat}{xs ys:List ag}(h:oo r cs k0 i xs ys) (hi:k0<i):xs=ys/\∀ x∈xs,dc x:=by
 induction h with
 | nil=>exact ⟨rfl,by simp⟩
 | @b i _ _ h _ _=>have:=Nat.eq_of_beq_eq_true h; omega
 | @n i x xs ys _ aP _ aS =>
  obtain ⟨h1,al⟩:=aS (by omega);exact ⟨by rw [h1],oP aP.bL al⟩
theorem oo.take {cs:List ag}{k0 i:Nat}{xs ys:List ag}(h:oo r cs k0 i xs ys) (aL:g r=some (.obj cs)) (aP:∀ x∈cs,dc x):i<=k0->k0<i+xs.length->Take g xs ys (db g ⟨r,[]⟩ .dead):=by
 induction h with
 | nil=>intro h1 al; simp at al; omega
 | @b i xs ys hi t _ =>
  intro h1 al;have:=Nat.eq_of_beq_eq_true hi;obtain ⟨e,mE⟩:=t.Uo (by omega);subst e;exact .obj (by simp [b',aL,ag.at]) (.bL aP) (.bL mE)
 | @n i x xs ys hi J _ aS =>
  intro h1 al;have:=Nat.ne_of_beq_eq_false hi;simp only [List.length_cons] at al;exact .cons J.bL (aS (by omega) (by omega))
theorem oo.OV {cs:List ag}{k0 i:Nat}{xs ys:List ag}(h:oo r cs k0 i xs ys):i<=k0->k0<i+xs.length->xs[k0 - i]?=some (.ptr ⟨r,[]⟩ 0):=by
 induction h with
 | nil=>intro h1 al; simp at al; omega
 | @b i xs ys hi _ _=>intro _ _; have:=Nat.eq_of_beq_eq_true hi; subst this; simp
 | @n i x xs ys hi _ _ aS =>
  intro h1 al;have:=Nat.ne_of_beq_eq_false hi;simp only [List.length_cons] at al;have aQ:=aS (by omega) (by omega);have:k0 - i=(k0 - (i+1))+1:=by omega
  rw [this,List.getElem?_cons_succ]; exact aQ
def yr (n k0:Nat) (x:ag):List (Option ag):=(List.range n).map λi=>if i=k0 then some x else none
inductive xe (g:aW) (d r:Nat) (n:Nat) (G4:List (Nat × ag)):List (Nat × ag)->Prop
 | nil:xe g d r n G4 []
 | c {s k:Nat}{l:List (Nat × ag)}(h:g s=some (.ptr ⟨r,[]⟩ k)) (hk:Nat.blt k n=true) (aU:Nat.beq s d=false) (bW:get G4 s=none) (t:xe g d r n G4 l):xe g d r n G4 ((s,.ptr ⟨r,[]⟩ k)::l)
theorem CN {A B:List (Nat × ag)}{t:Nat}:get (A++B) t=match get A t with | some x=>some x | none=>get B t:=by
 induction A with
 | nil=>rfl
 | cons p A aS =>
  obtain ⟨s,x⟩:=p;show (if t=s then some x else get (A++B) t)=_
  by_cases h:t=s
  ·simp [get,h]
  ·simp only [get,if_neg h]; exact aS
theorem xe.spec {n:Nat}{G4 A:List (Nat × ag)}(h:xe g d r n G4 A):∀ t x,get A t=some x->get G4 t=none/\t≠d/\g t=some x/\∃ k,x=.ptr ⟨r,[]⟩ k/\k<n:=by
 induction h with
 | nil=>intro t x J; cases J
 | @c s k l h hk aU bW _ aS =>
  intro t x J; simp only [get] at J
  split at J
  ·rename_i e; subst e; cases J; exact ⟨bW,Nat.ne_of_beq_eq_false aU,h,k,rfl,by simpa using hk⟩
  ·exact aS t x J
theorem hV.nC {o:Oper}{xs:List Operand}{iC:Array TypeId}{f:FuncId}{ys args:List ag}{res:ag}{cs cs':List ag}{k0:Nat}{G2 A:List (Nat × ag)}(bh:o.op=.call { callee:=.value (.func f),args:=xs.toArray,argTypes:=iC }) (aU:o.dst=some d) (J:Own.iH g xs=some ys)
  (aL:g r=some (.obj cs)) [ht:eU cs] (bf:oo r cs k0 0 ys args) (x1:Nat.blt k0 ys.length=true) (jb:cc P f args (yr args.length k0 (.obj cs')) res) (bn:dB P f=true) [aw:cS res] [LS:eU cs']
  (eu:Trim false (db g ⟨r,[]⟩ .dead) (get ((r,.dead)::G2)) G2) (ba:get G2 d=none) (An:Nat.beq r d=false) (zY:Trim false (get ((r,.obj cs')::G2)) (get ((r,.obj cs')::G2)) G2) (dA:xe g d r cs'.length ((r,.obj cs')::G2) A) (b5:N.ok d=true) :
  hV P N g o d (get (A++(d,res)::(r,.obj cs')::G2)):=by
 have W1:k0<ys.length:=by simpa using x1
 have Ao:r≠d:=Nat.ne_of_beq_eq_false An;have sT:args.length=ys.length:=bf.len;have pw:(yr args.length k0 (.obj cs'))[k0]?=some (some (.obj cs')):=by
  unfold yr;rw [List.getElem?_map,List.getElem?_range (by omega)];simp
 have SV:∀ (k:Nat) (x:ag),(yr args.length k0 (.obj cs'))[k]?=some (some x)->x=.obj cs':=by
  intro k x h;unfold yr at h;rw [List.getElem?_map] at h;cases hk:(List.range args.length)[k]? with
  | none=>rw [hk] at h; cases h
  | some ae =>
   rw [hk] at h;simp only [Option.map_some,Option.some.injEq] at h
   split at h
   ·exact (Option.some.inj h).symm
   ·cases h
 have Fc:get ((r,ag.dead)::G2) r=some .dead:=by simp [get]
 have wj:fu (db g ⟨r,[]⟩ .dead) (get ((r,.dead)::G2)):=by
  refine ⟨λt x h=>?_,λt x h=>?_,λt z q n m new h=>?_⟩
  all_goals
   simp only [get] at h
   split at h
  ·rename_i e; subst e; cases h; simp [db,aL,ag.setAt]
  ·obtain ⟨⟨y,h1,_,aQ⟩,_⟩:=eu.spec t x h; rw [<- aQ rfl]; exact h1
  ·cases h; exact .bL .dead
  ·exact (eu.spec t x h).2.1
  ·cases h
  ·exact (eu.spec t _ h).2.2 _ _ _ _ _ rfl
 have put:pM (get ((r,.dead)::G2)) [(⟨r,[]⟩,.obj cs')]=get ((r,.obj cs')::G2):=by
  funext t;simp only [pM,db,get];by_cases h:t=r
  ·simp [h,ag.setAt]
  ·simp [h]
 have wk:fu (get ((r,.obj cs')::G2)) (get ((r,.obj cs')::G2)):=by
  refine ⟨λt x h=>h,λt x h=>?_,λt z q n m new h=>?_⟩
  all_goals
   simp only [get] at h
   split at h
  ·cases h; exact .bL (.obj LS.bL)
  ·exact (zY.spec t x h).2.1
  ·cases h
  ·exact (zY.spec t _ h).2.2 _ _ _ _ _ rfl
 refine xj.ok (first:=[]) (caps:=[]) (ys:=ys) (tk:=λ_=>true) (vw:=false) (outs:=yr args.length k0 (.obj cs')) (g1:=db g ⟨r,[]⟩ .dead) (g2:=get ((r,.dead)::G2)) (g4:=get ((r,.obj cs')::G2)) (l:=[(⟨r,[]⟩,.obj cs')]) (ks:=λ_=>k0) (xs0:=ys) (xs1:=args) (args:=args) (res:=res) bh aU rfl (by simpa using J)
  ⟨bn,by simp,by simpa using sT,λk x h=>.inl (by simpa using h),bf.take aL ht.bL (Nat.zero_le _) (by omega),wj,λk x y _ az=>by simpa using az,jb,by simpa using aw.bL,λk x h=>by rw [SV k x h]; simpa using dc.obj LS.bL,λae p x aa=>?_,by simp,λi ae hi aa _=>by simp at hi aa; omega,by rw [put]; exact wk⟩ ?_ b5 ?_
 ·cases ae with
  | succ ae=>simp at aa
  | zero =>
   simp only [List.getElem?_cons_zero,Option.some.injEq,Prod.mk.injEq] at aa;obtain ⟨rfl,rfl⟩:=aa;refine ⟨pw,by simp [b',Fc,ag.at],.inr ⟨cs,?_,by simp [b',aL,ag.at]⟩⟩;have:=bf.OV (Nat.zero_le _) (by omega);simpa using this
 ·simp only [get,if_neg (Ne.symm Ao)]; exact ba
 ·refine ⟨λt x h=>?_,λt x h=>?_⟩
  ·rw [t_] at h;rw [CN];cases qT:get A t with
   | none=>exact h
   | some y =>
    obtain ⟨h1,al,_⟩:=dA.spec t y qT;simp only [get,if_neg al] at h;simp only [get] at h1;rw [h1] at h; cases h
  ·rw [t_];rw [CN] at h;cases qT:get A t with
   | none=>rw [qT] at h; exact .inl h
   | some y =>
    rw [qT] at h;cases h;obtain ⟨h1,al,aQ,k,rfl,hk⟩:=dA.spec t x qT;refine .inr ⟨?_,al,aQ,r,k,cs',rfl,Ao,?_,hk⟩
    ·simp only [get,if_neg al]; exact h1
    ·simp only [get,if_neg Ao,if_true]
end
end Go.Own
namespace Go.Own
open Go
variable {α β:Type}
def Cz (k:IntKind):cD Int:=.one (λn=>.lit (.int k n)) λ_=>.lit
instance {k:IntKind}:Flat (Cz k):=⟨λ_=>rfl⟩
instance {k:IntKind}:ho (Cz k) (Cz k):=⟨rfl,λa=>(inferInstance:dQ [.lit (.int k a)] [.lit (.int k a)])⟩
instance {k:IntKind}:lS (Cz k):=⟨λa=>(inferInstance:jW [.lit (.int k a)])⟩
instance {cs:List ag}{n:Nat}{x:ag} [h:eU cs] [J:cS x]:eU (cs.set n x):=⟨λy az=>by
 rcases List.mem_or_eq_of_mem_set az with aR | aR
 ·exact h.bL y aR
 ·rw [aR]; exact J.bL⟩
instance {x y:ag} [h:cS y]:cS (x.setAt [] y):=⟨by simpa [ag.setAt] using h.bL⟩
def tf (m n:Int):Option Int:=if n=0 then none else some (IntKind.u64.wrap (m.tdiv n))
def ti (m n:Int):Option Int:=if n=0 then none else some (m.tmod n)
inductive lh:List ag->List ag->Prop
 | nil:lh [] []
 | f {x:ag}{xs ys:List ag}(t:lh xs ys):lh (x::xs) (x::ys)
 | o {z:Nat}{xs ys:List ag}(t:lh xs ys):lh (.aN::xs) (.own z 0 []::ys)
 | i {z:Nat}{xs ys:List ag}(t:lh xs ys):lh (.aN::xs) (.aF z 0 []::ys)
theorem lh.len {xs ys:List ag}(h:lh xs ys):ys.length=xs.length:=by
 induction h with
 | nil=>rfl
 | f _ aS=>simp [aS]
 | o _ aS=>simp [aS]
 | i _ aS=>simp [aS]
theorem lh.get {xs ys:List ag}(h:lh xs ys):∀ (k:Nat) (x y:ag),xs[k]?=some x->ys[k]?=some y->ow x y:=by
 induction h with
 | nil=>intro k x y J; simp at J
 | f _ aS =>
  intro k a b bf aK;cases k with
  | zero=>simp at bf aK; subst bf aK; exact .refl
  | succ k=>exact aS k a b (by simpa using bf) (by simpa using aK)
 | o _ aS =>
  intro k a b bf aK;cases k with
  | zero=>simp at bf aK; subst bf aK; exact .pJ
  | succ k=>exact aS k a b (by simpa using bf) (by simpa using aK)
 | i _ aS =>
  intro k a b bf aK;cases k with
  | zero=>simp at bf aK; subst bf aK; exact .yn
  | succ k=>exact aS k a b (by simpa using bf) (by simpa using aK)
theorem lh.obj {xs ys:List ag}(h:lh xs ys):ow (.obj xs) (.obj ys):=.obj h.len h.get
section
variable {P:Program}{N:dK}{ops:Array Oper}{g g' g1 g2:aW}{K:aW->Prop}{l:List Oper}{d r:Nat}{op:Op}{ty t t2:TypeId}{pos:String}{after:Array Edge}{iw:Option (Nat × Bool)}{a b c:Operand}{p q:Place}{x y:ag}{k:IntKind}{m n:Int}
variable {ch:List (List Nat)}{g0:aW}{acc:Acc}{i:Nat}
def yl:List Nat->Bool
 | []=>true
 | x::l=>l.all (λy=>!Nat.beq x y)&&yl l
theorem HI:∀ {l:List Place},yl (l.map Place.root)=true->l.Nodup
 | [],_=>List.nodup_nil
 | p::l,h=>by
  simp only [List.map_cons,yl,Bool.and_eq_true,List.all_eq_true] at h;refine List.nodup_cons.2 ⟨λhm=>?_,HI h.2⟩;have:=h.1 p.root (List.mem_map.2 ⟨p,hm,rfl⟩);simp at this
theorem bN.jX (ds:Nat) {G G2:List (Nat × ag)}{o:Oper}(he:cq P N (ep (get G) (λ_=>true) acc) o (get G2)) (ba:o.guard=none) (hZ:yl ((acc.filterMap mT).map Place.root)=true) (jt:s' G=true) (aa:Nat.beq ops.size (ds+l.length+1)=true)
  (bf:(List.range ds).all (λk=>(ch.getD ds []).contains k)=true) (aK:(List.range ops.size).all (λk=>Nat.ble k ds||(ch.getD k []).contains ds)=true) (hk:bN P N ops ch (get G2) (ds+1) [] l K):bN P N ops ch (get G) i acc (o::l) K:=by
 intro ey ae cT px pn;have:=Cy pn aa;subst this;obtain ⟨h1,al⟩:=drop_cons pn;obtain ⟨g',aw,eK⟩:=hk [] (ae+1) .nil .nil al;refine ⟨g',.JH cT px (HI hZ) (AV jt) h1 ?_ he bf ?_ aw,eK⟩
 ·unfold iX; rw [ba]
 ·refine List.all_eq_true.2 λk hk=>?_;have:=List.all_eq_true.1 aK k hk;simp only [Bool.or_eq_true,decide_eq_true_eq,Nat.ble_eq] at this ⊢;exact this
theorem bN.bv (ds:Nat) {G G2:List (Nat × ag)}{o:Oper}{x:ag}(he:cq P N (ep (get G) (λ_=>true) acc) o (e5 (get G2) d x)) (ba:o.guard=none) (hZ:yl ((acc.filterMap mT).map Place.root)=true) (jt:s' G=true) (aa:Nat.beq ops.size (ds+l.length+1)=true)
  (bf:(List.range ds).all (λk=>(ch.getD ds []).contains k)=true) (aK:(List.range ops.size).all (λk=>Nat.ble k ds||(ch.getD k []).contains ds)=true) (hk:bN P N ops ch (get ((d,x)::G2)) (ds+1) [] l K):bN P N ops ch (get G) i acc (o::l) K :=
 .jX ds (t_ ▸ he) ba hZ jt aa bf aK hk
class ve (s:Nat) (g:aW):Prop where fT:∀ t,t≠s->∀ z q n m new,g t≠some (.b8 z q n m new)
instance (priority:=low) {s:Nat}{g:aW} [h:qF g]:ve s g:=⟨λt _=>h.fT t⟩
instance {s:Nat}{g:aW}{x:ag} [h:ve s g]:ve s (e5 g s x):=⟨λt aJ z q n m new e=>by
 unfold e5 at e;rw [if_neg aJ] at e;exact h.fT t aJ _ _ _ _ _ e⟩
instance {s d:Nat}{g:aW}{x:ag} [h:ve s g] [J:oq x]:ve s (e5 g d x):=⟨λt aJ z q n m new e=>by
 unfold e5 at e
 split at e
 ·cases e; exact J.fT _ _ _ _ _ rfl
 ·exact h.fT t aJ _ _ _ _ _ e⟩
class xu (s:Nat) (acc:Acc):Prop where fT:∀ e∈acc,e.2.1≠s->∀ z q n m new,e.2.2≠some (.b8 z q n m new)
instance {s:Nat}:xu s []:=⟨by simp⟩
instance {s ae d:Nat}{x:ag}{acc:Acc} [J:oq x] [h:xu s acc]:xu s ((ae,d,some x)::acc):=⟨λe he aL z q n m new ca=>by
 rcases List.mem_cons.1 he with rfl | he
 ·exact J.fT z q n m new (Option.some.inj ca)
 ·exact h.fT e he aL z q n m new ca⟩
instance {s ae:Nat}{x:Option ag}{acc:Acc} [h:xu s acc]:xu s ((ae,s,x)::acc):=⟨λe he aL z q n m new ca=>by
 rcases List.mem_cons.1 he with rfl | he
 ·exact absurd rfl aL
 ·exact h.fT e he aL z q n m new ca⟩
instance {s:Nat}{G:List (Nat × ag)}{A:Nat->Bool}{acc:Acc} [ba:qF (get G)] [h:xu s acc]:ve s (ep (get G) A acc):=⟨λt aJ z q n m new e=>by
 rcases tw e with ⟨cU,he,h1,_,al⟩ | ⟨_,al⟩
 ·exact h.fT cU he (by rw [h1]; exact aJ) _ _ _ _ _ al
 ·exact ba.fT _ _ _ _ _ _ al⟩
namespace O
theorem tf {r:Int}(J:Rd g a (.lit (.int .u64 m))) (az:Rd g b (.lit (.int .u64 n))) (h:Own.tf m n=some r):dv P g (.binOp .quo t a b t2) ty (.lit (.int .u64 r)):=by
 unfold Own.tf at h
 split at h
 ·cases h
 ·cases h; exact .fq (.quo J az (by assumption))
theorem ti {r:Int}(J:Rd g a (.lit (.int .u64 m))) (az:Rd g b (.lit (.int .u64 n))) (h:Own.ti m n=some r):dv P g (.binOp .rem t a b t2) ty (.lit (.int .u64 r)):=by
 unfold Own.ti at h
 split at h
 ·cases h
 ·cases h; exact .fq (.rem J az (by assumption))
theorem Fb {L:List Int}(J:Rd g a (.aF nT.z L.length (cj nT L))) (aJ:vj P t t2=true):dv P g (.convert t t2 a) ty (af (strOfNums L)):=by
 have h:=J.bT;rw [Ni] at h;exact .fq (.Cu h aJ)
theorem o' {e h2:Nat}{parts:Array (Nat × Operand)}{ys cs:List ag}{z:Nat}(aJ:ft P t e z=true) (J:iH g (parts.toList.map (·.2))=some ys) (ab:o_ ys=some cs) (bA:ys.all (λy=>match lU y with | some c=>Nat.beq c.length z | none=>false)=true)
  (aG:parts.toList=(parts.toList.map (·.2)).mapIdx (λi x=>(i,x))) (aP:(parts.toList.map (·.2)).length=h2) (hzero:j7 P e z=true) (aK:Nat.ble (h2 * z) 16777216=true) (c6:Nat.ble h2 16777216=true):dv P g (.buildSlice t h2 parts) ty (.own z h2 cs):=by
 subst aP;exact .rk (.buildSlice aJ aG J (λy az=>by
  have:=List.all_eq_true.1 bA y az;cases fy:lU y with
  | none=>rw [fy] at this; cases this
  | some c=>rw [fy] at this; exact ⟨c,rfl,Nat.eq_of_beq_eq_true this⟩) ab (Nat.le_of_ble_eq_true aK) (Nat.le_of_ble_eq_true c6) (.inr (IW hzero)))
theorem NJ {z m:Nat}{cs:List ag}(bR:b' g q=some (.own z m cs)) (ao:cs.length=m * z) (bn:cs.all lE=true):Src g (.bo z q m) z m cs:=by
 have:=Src.bo (g:=g) (m:=m) bR (Nat.le_refl _);rw [List.take_of_length_le (by omega),zQ (q:=λi=>_) bn] at this;exact this
theorem xB {en:cD α}{L M r:List α}{e kj m:Nat}{cs:List ag}(aL:Rd g a (.bo en.z p L.length)) (aG:b' g p=some (ak en L)) (J:Rd g b (.bo en.z q m)) (bR:b' g q=some (.own en.z m cs)) (ao:cs.length=m * en.z) (bn:cs.all lE=true) (hm:M.length=m) (aJ:iY P t e en.z kj=true) (aK:Nat.ble kj 128=true) (h:ez L M=some r) [ht:qF g] :
  dv P g (.call { callee:=.builtin .append,args:=#[a,b],argTypes:=#[t,t] }) ty (.b8 en.z p L.length m cs):=by
 subst hm;obtain ⟨h1,al,_⟩:=zc h aK;exact .lM (.grow aL.bT (.inl ⟨_,aG⟩) (λt cK cY bS di e=>ht.fT _ _ _ _ _ _ e) J.bT (NJ bR ao bn) aJ h1 al)
theorem Jp {en:cD α}{L M M2 r:List α}{y:ag}{e kj s:Nat}(aL:Rd g a (.bo en.z ⟨s,[]⟩ (L.length+M.length))) (s0:g s=some (.b8 en.z q L.length M.length (cj en M))) (aG:b' g q=some (ak en L)) (J:Rd g b y) (hm:rH g en y M2) (aJ:iY P t e en.z kj=true) (aK:Nat.ble kj 128=true) (h:ez (L++M) M2=some r) [ht:ve s g] :
  dv P g (.call { callee:=.builtin .append,args:=#[a,b],argTypes:=#[t,t] }) ty (.b8 en.z ⟨s,[]⟩ (L.length+M.length) M2.length (cj en M2)):=by
 obtain ⟨h1,al,_⟩:=zc h aK;rw [List.length_append] at h1 al;refine .lM (.grow aL.bT (.inr ⟨rfl,q,L.length,M.length,cj en M,_,s0,rfl,aG⟩) (λt cK cY bS di e=>?_) J.bT hm.src aJ h1 al);by_cases Df:t=s
 ·subst Df;rw [s0] at e;simp only [Option.some.injEq,ag.b8.injEq] at e;have bR:=e.2.1;subst bR;simp [b',s0,ag.at] at aG
 ·exact ht.fT t Df _ _ _ _ _ e
theorem Mu {en:cD α}{z0:α}{r:List α}{e kj:Nat}{ev:Value}(aJ:ft P t e en.z=true) (J:Rd g a (.lit (.int k m))) (az:Rd g b (.lit (.int .i64 m))) (hzero:(P.info? e).bind (·.zero)=some ev) (h1:ev.cells.toList.all Value.oneCell'=true) (hr:(en.cells z0).length=ev.cells.size) (Sn:∀ (k:Nat) (u:Value) (x:ag),ev.cells[k]?=some u->(en.cells z0)[k]?=some x->x=n' u\/(n' u=.aN/\∃ cK,x=.aF cK 0 [])) (h:oO m z0=some r) (ka:(P.info? e).map (·.bytes)=some kj) (aK:Nat.ble kj 128=true) :
  dv P g (.makeSlice t a b) ty (ak en r):=by
 unfold oO at h
 split at h
 ·rename_i hm;have uw:lim=1099511627776:=rfl;have kD:=Nat.le_of_ble_eq_true aK;obtain ⟨ae,rfl⟩:=Int.eq_ofNat_of_zero_le hm.1;cases h;have aa:ae<=1099511627776:=by omega
  have gr:ev.cells.size=en.z:=by rw [<- hr,en.len]
  have:=o1.makeSlice (P:=P) (ty:=ty) aJ J.bT az.bT hzero (by rw [<- Array.all_toList]; exact h1) gr ka (by
   calc ae * kj<=1099511627776 * 128:=Nat.mul_le_mul aa kD
    _=140737488355328:=by decide) (by omega) hr Sn
  have dg:(List.replicate ae (en.cells z0)).flatten=cj en (List.replicate ae z0):=by simp [cj,List.flatMap_def]
  unfold ak;rw [Int.toNat_natCast,List.length_replicate,<- dg];exact .rk this
 ·cases h
theorem mk {en:cD α}{z0:α}{r:List α}{e kj:Nat}{ev:Value}(aJ:ft P t e en.z=true) (J:Rd g a (.lit (.int k m))) (az:Rd g b (.lit (.int .i64 m))) (hzero:(P.info? e).bind (·.zero)=some ev) (h1:ev.cells.toList.all Value.oneCell'=true) (ab:ev.cells.toList.map n'=en.cells z0) (h:oO m z0=some r) (ka:(P.info? e).map (·.bytes)=some kj) (aK:Nat.ble kj 128=true) :
  dv P g (.makeSlice t a b) ty (ak en r):=by
 refine Mu aJ J az hzero h1 (by rw [<- ab,List.length_map]; simp) (λk u x hu J=>.inl ?_) h ka aK;rw [<- ab,List.getElem?_map] at J;have:ev.cells.toList[k]?=some u:=by simpa using hu
 rw [this] at J;exact (Option.some.inj J).symm
theorem Ui {e:cD β}{r:List (List β)}{m:Int}{k:IntKind}{a b:Operand}{t ty:TypeId}{zw kj:Nat}{ev:Value}(aJ:ft P t zw (bU e).z=true) (J:Rd g a (.lit (.int k m))) (az:Rd g b (.lit (.int .i64 m))) (hzero:(P.info? zw).bind (·.zero)=some ev) (h1:ev.cells.toList.all Value.oneCell'=true) (ab:ev.cells.toList.map n'=[.aN]) (h:oO m ([]:List β)=some r) (ka:(P.info? zw).map (·.bytes)=some kj) (aK:Nat.ble kj 128=true) :
  dv P g (.makeSlice t a b) ty (ak (bU e) r):=by
 refine Mu aJ J az hzero h1 ?_ (λk u x hu J=>.inr ?_) h ka aK
 ·have:=congrArg List.length ab;rw [List.length_map] at this;rw [(bU e).len];show 1=_;simpa using this.symm
 ·have ao:=congrArg List.length ab;rw [List.length_map] at ao;have hk:k=0:=by
   have:=(Array.getElem?_eq_some_iff.1 hu).1;simp at ao;omega
  subst hk;have fN:ev.cells.toList[0]?=some u:=by simpa using hu
  have al:=congrArg (λl=>l[0]?) ab;simp only [List.getElem?_map,fN,Option.map_some] at al;have al:=Option.some.inj al;refine ⟨al,e.z,?_⟩;have J:([aj e []]:List ag)[0]?=some x:=J;have:x=aj e []:=(Option.some.inj J).symm;rw [this]; rfl
theorem Ug (J:Rd g a (j m)) (az:Rd g b (j n)):dv P g (.call { callee:=.builtin .min,args:=#[a,b],argTypes:=#[t,t2] }) ty (j (min m n)):=.fq (.lits (vs:=[.int .i64 m,.int .i64 n]) (by simp [J.bT,az.bT]) rfl λw cs=>by
 have:(if n<m then n else m)=min m n:=by omega
 simp [builtin,Builtin.min_,Builtin.min2,this])
end O
theorem Ib (en:cD α) {L:List α}{y y2:α}{o:Nat}{cs':List ag}(h:idx L m=some y) (he:fL (en.cells y) o cs'=en.cells y2) (hlen:o+cs'.length<=en.z):fL (cj en L) (m.toNat * en.z+o) cs'=cj en (L.set m.toNat y2):=by
 obtain ⟨bd,h1,al⟩:=qk h;have a_:m.toNat<L.length:=(List.getElem?_eq_some_iff.1 al).1;have az:L[m.toNat]=y:=(List.getElem?_eq_some_iff.1 al).2;have dg:cj en L=cj en (L.take m.toNat)++(en.cells y++cj en (L.drop (m.toNat+1))):=by
  have:=congrArg (cj en) (List.take_append_drop m.toNat L).symm;rw [wV,List.drop_eq_getElem_cons a_,az] at this;rw [this]; simp [cj]
 have c5:cj en (L.set m.toNat y2)=cj en (L.take m.toNat)++(en.cells y2++cj en (L.drop (m.toNat+1))):=by
  have:L.set m.toNat y2=L.take m.toNat++y2::L.drop (m.toNat+1):=by
   rw [List.set_eq_take_append_cons_drop,if_pos a_]
  rw [this,wV]; simp [cj]
 have ao:(cj en (L.take m.toNat)).length=m.toNat * en.z:=by rw [od,List.length_take]; congr 1; omega
 rw [dg,c5,<- he];unfold fL;generalize cj en (L.take m.toNat)=A at *;generalize cj en (L.drop (m.toNat+1))=B at *;rw [<- ao];have Dk:=en.len y;rw [List.take_append,List.take_of_length_le (by omega),show A.length+o - A.length=o by omega,List.take_append_of_le_length (by omega)];rw [List.drop_append,List.drop_eq_nil_of_le (by omega),show A.length+o+cs'.length - A.length=o+cs'.length by omega,List.drop_append_of_le_length (by omega)];simp
theorem Fj {en:cD α}{L:List α}{i:Int}{off:Nat}{y:α}(h:idx L i=some y) (bh:Nat.blt off en.z=true):i.toNat * en.z+off<(cj en L).length:=by
 obtain ⟨te,j4,_⟩:=qk h;have mF:off<en.z:=by simpa using bh
 rw [od];have al:i.toNat+1<=L.length:=by omega
 calc i.toNat * en.z+off<i.toNat * en.z+en.z:=by omega
  _=(i.toNat+1) * en.z:=by rw [Nat.add_mul]; omega
  _<=L.length * en.z:=Nat.mul_le_mul_right _ al
theorem nB {L:List α}{i:Int}{y y2:α}(h:idx L i=some y):idx (L.set i.toNat y2) i=some y2:=by
 obtain ⟨te,j4,_⟩:=qk h;have:i.toNat<L.length:=by omega
 simp [idx,te,this]
inductive om (g g2:aW):ag->Prop
 | mk {α:Type}{en:cD α}{L I9:List α}{r ae off:Nat}{i:Int}{y y2:α}(h1:b' g ⟨r,[ae]⟩=some (ak en L)) (hi:idx L i=some y) (al:b' g2 ⟨r,[ae]⟩=some (ak en I9)) (Ac:idx I9 i=some y2) (bh:Nat.blt off en.z=true):om g g2 (.ptr ⟨r,[ae]⟩ (i.toNat * en.z+off))
theorem om.MF {x:ag}(h:om g g2 x):hn g x:=by
 cases h with
 | mk h1 hi al Ac bh=>exact ⟨_,h1,_,_,_,.inl rfl,Fj hi bh⟩
theorem om.HO {x:ag}(h:om g g2 x):hn g2 x:=by
 cases h with
 | mk h1 hi al Ac bh=>exact ⟨_,al,_,_,_,.inl rfl,Fj Ac bh⟩
theorem om.bq {x:ag}(h:om g g2 x):e3 g2 x:=by
 have:=h.HO;cases h with
 | mk=>exact .ref rfl this
theorem om.fT {x:ag}(h:om g g2 x):∀ z p n m new,x≠.b8 z p n m new:=by
 cases h with
 | mk=>simp
theorem om.clear {x:ag}{k0 m0:Nat}(h:om g g2 x) (aG:p.path≠[]):Clear p k0 m0 x:=by
 cases h with
 | mk =>
  intro q bR _ ae e8 e;simp only [yL,Option.some.injEq] at bR;subst bR;cases C':p.path with
  | nil=>exact absurd C' aG
  | cons a b=>rw [C'] at e; simp at e
inductive lg (g g2:aW) (r:Nat) (x2:ag):List (Nat × ag)->Prop
 | nil:lg g g2 r x2 []
 | n {s:Nat}{x:ag}{l:List (Nat × ag)}(ek:Nat.beq s r=false) (h:g s=some x) [aP:cS x] (t:lg g g2 r x2 l):lg g g2 r x2 ((s,x)::l)
 | p {s q k:Nat}{l:List (Nat × ag)}{cs nR:List ag}(ek:Nat.beq s r=false) (h:g s=some (.ptr ⟨q,[]⟩ k)) (h1:g q=some (.obj cs)) (hk:Nat.blt k cs.length=true) (al:g2 q=some (.obj nR)) (gX:Nat.blt k nR.length=true) (t:lg g g2 r x2 l):lg g g2 r x2 ((s,.ptr ⟨q,[]⟩ k)::l)
 | e {s:Nat}{x:ag}{c2:List ag}{l:List (Nat × ag)}(ek:Nat.beq s r=false) (h:g s=some x) (he:om g g2 x) (hD:x2=.obj c2) (t:lg g g2 r x2 l):lg g g2 r x2 ((s,x)::l)
 | w {α:Type}{s q:Nat}{en:cD α}{L:List α}{l:List (Nat × ag)}(ek:Nat.beq s r=false) (h:g s=some (.bo en.z ⟨q,[]⟩ L.length)) (h1:g q=some (ak en L)) (al:g2 q=some (ak en L)) (t:lg g g2 r x2 l):lg g g2 r x2 ((s,.bo en.z ⟨q,[]⟩ L.length)::l)
 | b {l:List (Nat × ag)}{x:ag}(e:x=x2) [aP:cS x2] (t:lg g g2 r x2 l):lg g g2 r x2 ((r,x)::l)
theorem lg.spec {x2:ag}{l:List (Nat × ag)}(h:lg g g2 r x2 l):∀ t x,get l t=some x->(t≠r/\g t=some x/\(o4 g g2 x\/om g g2 x/\∃ c2,x2=.obj c2))\/(t=r/\x=x2/\dc x):=by
 induction h with
 | nil=>intro t x J; cases J
 | @n s x l ek h aP _ aS =>
  intro t y az; simp only [get] at az
  split at az
  ·rename_i e; subst e; cases az; exact .inl ⟨Nat.ne_of_beq_eq_false ek,h,.inl (.n aP.bL)⟩
  ·exact aS t y az
 | @p s q k l cs nR ek h h1 hk al gX _ aS =>
  intro t y az; simp only [get] at az
  split at az
  ·rename_i e; subst e; cases az; exact .inl ⟨Nat.ne_of_beq_eq_false ek,h,.inl (.p h1 (by simpa using hk) al (by simpa using gX))⟩
  ·exact aS t y az
 | @e s x c2 l ek h he hD _ aS =>
  intro t y az; simp only [get] at az
  split at az
  ·rename_i e; subst e; cases az; exact .inl ⟨Nat.ne_of_beq_eq_false ek,h,.inr ⟨he,_,hD⟩⟩
  ·exact aS t y az
 | @w α s q en L l ek h h1 al _ aS =>
  intro t y az; simp only [get] at az
  split at az
  ·rename_i e; subst e; cases az; exact .inl ⟨Nat.ne_of_beq_eq_false ek,h,.inl (.r h1 (Nat.le_refl _) al (Nat.le_refl _))⟩
  ·exact aS t y az
 | @b l x e aP _ aS =>
  intro t y az; simp only [get] at az
  split at az
  ·rename_i cU; subst cU; cases az; subst e; exact .inr ⟨rfl,rfl,aP.bL⟩
  ·exact aS t y az
theorem o4.H' {x:ag}{k0 m0:Nat}(h:o4 g g2 x):ki (λr=>hn g r/\Clear p k0 m0 r/\hn g2 r) x:=by
 cases h with
 | n h=>exact .bL h
 | p h hk al gX =>
  refine .ref rfl ⟨uU h hk,?_,uU al gX⟩;intro q bR _ ae e8 e;simp only [yL,Option.some.injEq] at bR;subst bR;simp at e
 | r h hk al gX =>
  refine .ref rfl ⟨Bs h hk,?_,Bs al gX⟩;intro q bR _ ae e8 e;simp only [yL,Option.some.injEq] at bR;subst bR;simp at e
theorem cq.pR {hL:Oper}{en:cD α}{L:List α}{jU y2:α}{o:Nat}{cs':List ag}{x2:ag}{G2:List (Nat × ag)}(bh:hL.op=.store t a b) (aU:hL.dst=none) (bf:Rd g a (.ptr p (m.toNat * en.z+o))) (aK:Rd g b y) (aG:b' g p=some (ak en L)) (h:idx L m=some jU) (bA:gA P t cs'.length=true)
  (ab:rP y=some cs') (he:fL (en.cells jU) o cs'=en.cells y2) (hlen:Nat.ble (o+cs'.length) en.z=true) (bd:Nat.blt 0 cs'.length=true) (hD:db g p (ak en (L.set m.toNat y2)) p.root=some x2) (aw:(get G2 p.root).isSome=true) [aP:cS y] {y0:ag}(v8:g p.root=some y0) [ht:cS y0] (eu:lg g (get G2) p.root x2 G2):cq P N g hL (get G2):=by
 have Ae:=Nat.le_of_ble_eq_true hlen;have ko:=Ib en h he Ae;have Gx:(L.set m.toNat y2).length=L.length:=List.length_set;refine .store bh aU bf.bT aK.bT (.bL (by simpa using aP.bL)) .refl ab bA (p:=p) (nd:=ak en L) (z:=en.z) (n:=L.length) (cs:=cj en L) aG (.inl rfl) ?_ (by simpa using bd) (λt x J=>?_) (λt x J y az=>?_) (λt z q n m new J=>?_) (by intro e; rw [e] at aw; cases aw)
 ·obtain ⟨te,j4,_⟩:=qk h;rw [od];have al:m.toNat+1<=L.length:=by omega
  calc m.toNat * en.z+o+cs'.length<=m.toNat * en.z+en.z:=by omega
   _=(m.toNat+1) * en.z:=by rw [Nat.add_mul]; omega
   _<=L.length * en.z:=Nat.mul_le_mul_right _ al
 ·have gg:(ak en L).fL (m.toNat * en.z+o) cs'=ak en (L.set m.toNat y2):=by
   show ag.own en.z L.length (fL (cj en L) (m.toNat * en.z+o) cs')=_;unfold ak;rw [ko,Gx]
  rw [gg];rcases eu.spec t x J with ⟨h1,al,_⟩ | ⟨h1,al,_⟩
  ·rw [tm h1]; exact al
  ·subst h1 al; exact hD
 ·rcases eu.spec t x J with ⟨h1,al,aQ⟩ | ⟨h1,al,aQ⟩
  ·rw [al] at az; cases az;rcases aQ with aQ | ⟨aQ,c2,rfl⟩
   ·exact aQ.H'
   ·refine ki.ref (by cases aQ; rfl) ⟨aQ.MF,aQ.clear ?_,aQ.HO⟩;intro e;obtain ⟨hy,pp⟩:=p;simp only at e;subst e;simp only [db,if_true,v8,Option.map_some,ag.setAt,Option.some.injEq] at hD;cases hD
  ·subst h1; rw [v8] at az; cases az; exact .bL ht.bL
 ·rcases eu.spec t _ J with ⟨_,_,aQ | ⟨aQ,_⟩⟩ | ⟨_,_,aQ⟩
  ·exact aQ.fT _ _ _ _ _ rfl
  ·exact aQ.fT _ _ _ _ _ rfl
  ·cases aQ
end
end Go.Own
namespace Go.Own
open Go
theorem O8 (a b:ByteArray):(a == b)=decide (a=b):=by
 obtain ⟨a⟩:=a;obtain ⟨b⟩:=b;have:(({ data:=a }:ByteArray) == { data:=b })=(a == b):=rfl;rw [this,Bool.eq_iff_iff];simp
inductive p0 where
 | b | s | i (k:IntKind)
 deriving DecidableEq
def mW:Value->Option p0
 | .bool _=>some .b
 | .string _=>some .s
 | .int k _=>some (.i k)
 | _=>none
def zv (P:Program) (rc:TypeId->List p0->Bool):List Field->Nat->List p0->Bool
 | [],_,fx=>fx.isEmpty
 | f :: fs, o, fx => f.name != "_" && f.offset == o && (match P.info? f.type with
   | some i=>i.size<=fx.length&&rc f.type (fx.take i.size)&&zv P rc fs (o+i.size) (fx.drop i.size)
   | none=>false)
def sJ (P:Program):Nat->TypeId->List p0->Bool
 | 0,_,_=>false
 | d+1,t,fx=>match P.underlying t with
  | some .bool=>fx == [.b]&&hI P t
  | some (.int k)=>fx == [.i k]&&hI P t
  | some .string=>fx == [.s]&&hI P t
  | some (.struct fs)=>iP P t fx.length&&!P.stoodInHeld t&&zv P (sJ P d) fs.toList 0 fx
  | _=>false
def Kx:Value->Value->Bool
 | .bool a,.bool b=>a == b
 | .int _ a,.int _ b=>decide (a=b)
 | .string a,.string b=>decide (a=b)
 | _,_=>false
def lW:List Value->List Value->Bool
 | a::dz,b::dM=>Kx a b&&lW dz dM
 | _,_=>true
theorem Ky:∀ (dz dM cs iZ:List Value),dz.length=dM.length->lW (dz++cs) (dM++iZ)=(lW dz dM&&lW cs iZ)
 | [],[],cs,iZ,_=>by simp [lW]
 | [],_::_,_,_,h=>by simp at h
 | _::_,[],_,_,h=>by simp at h
 | a::dz,b::dM,cs,iZ,h=>by
  simp only [List.cons_append,lW,Ky dz dM cs iZ (by simpa using h),Bool.and_assoc]
def pack (P:Program) (t:TypeId) (vs:List Value):Value :=
 match P.underlying t,vs with
 | some (.struct _),_=>.agg vs.toArray
 | _,v::_=>v
 | _,[]=>.agg #[]
theorem Nr {P:Program}{w:World}{t:TypeId}{d:Nat}{fx:List p0}(h:sJ P (d+1) t fx=true) {cs:List Value}{o:Nat}{vs:List Value}(hv:(cs.drop o).take fx.length=vs) (ao:vs.length=fx.length) :
  (part t cs.toArray o).run P w=.ok (pack P t vs) w:=by
 unfold sJ at h
 split at h
 case h_4 fs hu =>
  simp only [Bool.and_eq_true] at h;obtain ⟨h1,al⟩:=B8 (w:=w) h.1.1;simp [part,h1,al,pack,hu,<- hv,List.take_drop]
 case h_5=>cases h
 all_goals
  rename_i hu;simp only [Bool.and_eq_true,beq_iff_eq] at h;obtain ⟨rfl,ab⟩:=h;obtain ⟨h1,al⟩:=E2 (w:=w) ab;obtain ⟨v,rfl⟩:∃ v,vs=[v]:=by
   rcases vs with _ | ⟨v,_ | _⟩ <;> simp at ao;exact ⟨v,rfl⟩
  have:cs[o]?=some v:=by
   have:=congrArg List.head? hv;simpa [List.head?_take] using this
  simp [part,h1,pack,hu,this]
theorem Ic {P:Program}(w:World):∀ (d:Nat) (t:TypeId) (fx:List p0),sJ P d t fx=true->∀ (D:Nat),d<=D->∀ (dz dM:List Value),dz.map mW=fx.map some->dM.map mW=fx.map some ->
  (Op.equalIn D t (pack P t dz) (pack P t dM)).run P w=.ok (lW dz dM) w
 | 0,_,_,h,_,_,_,_,_,_=>by simp [sJ] at h
 | d+1,t,fx,h,D,oB,dz,dM,bf,aK=>by
  obtain ⟨D,rfl⟩:∃ E,D=E+1:=⟨D - 1,by omega⟩;have bd:=h;unfold sJ at h
  split at h
  case h_5=>cases h
  case h_4 fs hu =>
   simp only [Bool.and_eq_true,Bool.not_eq_true'] at h;obtain ⟨⟨h1,al⟩,aQ⟩:=h;have key:∀ (fs:List Field) (o:Nat) (fx:List p0) (mZ m_:List Value),zv P (sJ P d) fs o fx=true->dz.drop o=mZ->dM.drop o=m_->mZ.map mW=fx.map some->m_.map mW=fx.map some ->
     (forIn (m:=Sem) (β:=Option Bool × Unit) fs (none,()) λf _ =>
      if f.name = "_" then pure (.yield (none, ()))
      else do
       let x <- part f.type dz.toArray f.offset
       let y <- part f.type dM.toArray f.offset
       let c <- Op.equalIn D f.type x y
       if c=false then pure (.done (some false,())) else pure (.yield (none,()))).run P w=.ok (if lW mZ m_ then (none,()) else (some false,())) w:=by
    intro fs
    induction fs with
    | nil =>
     intro o fx mZ m_ ba _ _ bf aK;have aL:fx=[]:=by simpa [zv] using ba
     subst aL;have h1:mZ=[]:=by simpa using bf
     have al:m_=[]:=by simpa using aK
     subst h1 al;simp [lW]
    | cons f fs aS =>
     intro o fx mZ m_ ba C0 Lr bf aK;unfold zv at ba;cases hi:P.info? f.type with
     | none=>simp [hi] at ba
     | some i =>
      simp only [hi,Bool.and_eq_true,bne_iff_ne,beq_iff_eq,decide_eq_true_eq] at ba;obtain ⟨⟨aP,rfl⟩,⟨hle,he⟩,C2⟩:=ba;obtain ⟨e,rfl⟩:∃ e,d=e+1:=by
       cases d with
       | zero=>simp [sJ] at he
       | succ e=>exact ⟨e,rfl⟩
      have wo:mZ.length=fx.length:=by simpa using congrArg List.length bf
      have Xk:m_.length=fx.length:=by simpa using congrArg List.length aK
      have VI:(mZ.take i.size).map mW=(fx.take i.size).map some:=by rw [List.map_take,List.map_take,bf]
      have VJ:(m_.take i.size).map mW=(fx.take i.size).map some:=by rw [List.map_take,List.map_take,aK]
      have Qs:(mZ.drop i.size).map mW=(fx.drop i.size).map some:=by rw [List.map_drop,List.map_drop,bf]
      have Qt:(m_.drop i.size).map mW=(fx.drop i.size).map some:=by rw [List.map_drop,List.map_drop,aK]
      have lt:(fx.take i.size).length=i.size:=by simp; omega
      have lM:=Nr (w:=w) he (cs:=dz) (o:=f.offset) (vs:=mZ.take i.size) (by rw [C0,lt]) (by simp; omega);have MU:=Nr (w:=w) he (cs:=dM) (o:=f.offset) (vs:=m_.take i.size) (by rw [Lr,lt]) (by simp; omega);have Fi:=Ic w (e+1) f.type _ he D (by omega) _ _ VI VJ;have aS:=aS (f.offset+i.size) (fx.drop i.size) (mZ.drop i.size) (m_.drop i.size) C2 (by rw [<- C0,List.drop_drop]) (by rw [<- Lr,List.drop_drop]) Qs Qt;have sp:lW mZ m_=(lW (mZ.take i.size) (m_.take i.size)&&lW (mZ.drop i.size) (m_.drop i.size)):=by
       have:=Ky (mZ.take i.size) (m_.take i.size) (mZ.drop i.size) (m_.drop i.size) (by simp; omega)
       rwa [List.take_append_drop,List.take_append_drop] at this
      rw [List.forIn_cons];cases ab:lW (mZ.take i.size) (m_.take i.size) with
      | false=>simp [aP,lM,MU,Fi,ab,sp]
      | true =>
       simp only [ab] at Fi;simp [aP,lM,MU,Fi,ab,sp];simpa using aS
   have hk:=key fs.toList 0 fx dz dM aQ rfl rfl bf aK;unfold Op.equalIn;simp [pack,hu,run_underlying hu,al];rw [<- Array.forIn_toList,hk];cases lW dz dM <;> simp
  all_goals
   rename_i hu;simp only [Bool.and_eq_true,beq_iff_eq] at h;obtain ⟨rfl,ab⟩:=h;obtain ⟨a,rfl⟩:∃ v,dz=[v]:=by
    rcases dz with _ | ⟨v,_ | _⟩ <;> simp at bf;exact ⟨v,rfl⟩
   obtain ⟨b,rfl⟩:∃ v,dM=[v]:=by
    rcases dM with _ | ⟨v,_ | _⟩ <;> simp at aK;exact ⟨v,rfl⟩
   cases a <;> simp [mW] at bf <;> cases b <;> simp [mW] at aK;simp [Op.equalIn,pack,hu,run_underlying hu,lW,Kx,bf,aK,O8] <;> rfl
end Go.Own
namespace Go.Own
open Go
def vA (P:Program) (t:TypeId) (fx:List p0):Bool :=
 sJ P 100 t fx&&(match P.underlying t with | some (.struct _)=>true | _=>false)&&!P.eqGuardType P.depth t
section
variable {P:Program}{g:aW}{t t2:TypeId}{ty:TypeId}{a b:Operand}
theorem U8 {dz dM:List Value}{fx:List p0}(bf:dz.map mW=fx.map some) (aK:dM.map mW=fx.map some) (aJ:vA P t fx=true) (w:World) :
  (do eqGuard .eql t a b (.agg dz.toArray) (.agg dM.toArray); binOp .eql t (.agg dz.toArray) (.agg dM.toArray):Sem Value).run P w=.ok (.bool (lW dz dM)) w:=by
 simp only [vA,Bool.and_eq_true,Bool.not_eq_true'] at aJ;obtain ⟨⟨h1,al⟩,aQ⟩:=aJ;have h:=Ic w 100 t fx h1 Op.maxDepth (by decide) dz dM bf aK
 split at al
 ·rename_i fs hu;simp only [pack,hu] at h;simp [eqGuard,binOp,aQ,Op.equal,h]
 ·cases al
theorem U_ {dz dM:List Value}{fx:List p0}(bf:dz.map mW=fx.map some) (aK:dM.map mW=fx.map some) (aJ:vA P t fx=true) (w:World) :
  (do eqGuard .neq t a b (.agg dz.toArray) (.agg dM.toArray); binOp .neq t (.agg dz.toArray) (.agg dM.toArray):Sem Value).run P w=.ok (.bool (!lW dz dM)) w:=by
 simp only [vA,Bool.and_eq_true,Bool.not_eq_true'] at aJ;obtain ⟨⟨h1,al⟩,aQ⟩:=aJ;have h:=Ic w 100 t fx h1 Op.maxDepth (by decide) dz dM bf aK
 split at al
 ·rename_i fs hu;simp only [pack,hu] at h;simp [eqGuard,binOp,aQ,Op.equal,h]
 ·cases al
namespace O
theorem QN {va vb:List Value}{fx:List p0}(J:Rd g a (.agg (va.map .lit))) (az:Rd g b (.agg (vb.map .lit))) (bf:va.map mW=fx.map some) (aK:vb.map mW=fx.map some) (aJ:vA P t fx=true) :
  dv P g (.binOp .eql t a b t2) ty (a' (lW va vb)):=.fq (.zg J.bT az.bT rfl λw=>U8 bf aK aJ w)
theorem Uk {va vb:List Value}{fx:List p0}(J:Rd g a (.agg (va.map .lit))) (az:Rd g b (.agg (vb.map .lit))) (bf:va.map mW=fx.map some) (aK:vb.map mW=fx.map some) (aJ:vA P t fx=true) :
  dv P g (.binOp .neq t a b t2) ty (a' (!lW va vb)):=.fq (.zg J.bT az.bT rfl λw=>U_ bf aK aJ w)
end O
end
end Go.Own
namespace Go.Own
open Go
section
variable {P:Program}{N:dK}{g g2:aW}{d r k0:Nat}{α:Type}
theorem View.ob {p:Place}{cs cs':List ag}(aG:b' g p=some (.obj cs)) (hk:Nat.blt 0 cs.length=true) [h:dQ cs cs']:View g (.ptr p 0) (.bk cs') :=
 .ptr aG (z:=0) (n:=0) (.inr rfl) (by simpa using hk) (by simpa using h.l) λk x y J az=>h.v g k x y (by simpa using J) az
theorem e3.el {en:cD α}{L:List α}{ae off:Nat}{i:Int}{y:α}(al:b' g2 ⟨r,[ae]⟩=some (ak en L)) (hi:idx L i=some y) (bh:Nat.blt off en.z=true):e3 g2 (.ptr ⟨r,[ae]⟩ (i.toNat * en.z+off)) :=
 (om.mk (g:=g2) al hi al hi bh).bq
theorem j3 {p:Place}{k:Nat}:∀ z q n m new,ag.ptr p k≠.b8 z q n m new:=by simp
inductive xd (g:aW) (d r k0:Nat) (G4:List (Nat × ag)):List (Nat × ag)->Prop
 | nil:xd g d r k0 G4 []
 | c {α:Type}{en:cD α}{L:List α}{s off:Nat}{i:Int}{y:α}{l:List (Nat × ag)}(h:g s=some (.ptr ⟨r,[k0]⟩ (i.toNat * en.z+off))) (aG:b' (get G4) ⟨r,[k0]⟩=some (ak en L)) (hi:idx L i=some y) (bh:Nat.blt off en.z=true) (aU:Nat.beq s d=false) (bW:get G4 s=none) (t:xd g d r k0 G4 l):xd g d r k0 G4 ((s,.ptr ⟨r,[k0]⟩ (i.toNat * en.z+off))::l)
theorem xd.spec {G4 l:List (Nat × ag)}(h:xd g d r k0 G4 l):∀ t x,get l t=some x->get G4 t=none/\t≠d/\g t=some x/\∃ m z n cs,x=.ptr ⟨r,[k0]⟩ m/\b' (get G4) ⟨r,[k0]⟩=some (.own z n cs)/\m<cs.length:=by
 induction h with
 | nil=>intro t x J; cases J
 | @c α en L s off i y l h aG hi bh aU bW _ aS =>
  intro t x J; simp only [get] at J
  split at J
  ·rename_i e; subst e; cases J; exact ⟨bW,Nat.ne_of_beq_eq_false aU,h,_,_,_,_,rfl,aG,Fj hi bh⟩
  ·exact aS t x J
theorem lg.keep {g':aW}{x2:ag}{G2:List (Nat × ag)}(eu:lg g (get G2) r x2 G2) (h1:∀ t,t≠r->g' t=g t) (al:g' r=some x2):fu g' (get G2):=by
 refine ⟨λt x J=>?_,λt x J=>?_,λt z q n m new J=>?_⟩
 ·rcases eu.spec t x J with ⟨a,b,_⟩ | ⟨rfl,rfl,_⟩
  ·rw [h1 t a]; exact b
  ·exact al
 ·rcases eu.spec t x J with ⟨_,_,aQ | ⟨aQ,_⟩⟩ | ⟨_,_,aQ⟩
  ·exact aQ.bq
  ·exact aQ.bq
  ·exact .bL aQ
 ·rcases eu.spec t _ J with ⟨_,_,aQ | ⟨aQ,_⟩⟩ | ⟨_,_,aQ⟩
  ·exact aQ.fT _ _ _ _ _ rfl
  ·exact aQ.fT _ _ _ _ _ rfl
  ·cases aQ
theorem NC {cs:List ag}{y x:ag}(h:g r=some (.obj cs)) (hk:cs[k0]?=some x):db g ⟨r,[k0]⟩ y r=some (.obj (cs.set k0 y)):=by
 simp [db,h,ag.setAt,ag.kids,hk,ag.u0]
theorem cq.fF {o:Oper}{y:ag}{cs cs5:List ag}{G1 G4:Value->List (Nat × ag)}{c4:Value->List ag}{G5 A:List (Nat × ag)}(aU:o.dst=some d) (b5:N.ok d=true) (aw:g r=some (.obj cs)) (az:cs[k0]?=some y) [v_:cS y]
  (h1:∀ v,lg g (get (G1 v)) r (.obj (cs.set k0 (.lit v))) (G1 v)) (ab:∀ v,hV P N (get (G1 v)) o d (get (G4 v))) (K4:∀ v,get (G4 v) r=some (.obj (c4 v))) (K3:∀ v,(c4 v)[k0]?=some (.lit v)) (Q':∀ v,(c4 v).set k0 y=cs5)
  (da:∀ v,lg (get (G4 v)) (get G5) r (.obj cs5) G5) (Re:b' (get G5) ⟨r,[k0]⟩=some y) (dA:xd g d r k0 G5 A):cq P N g o (get (A++G5)):=by
 refine .call aU b5 (hV.Q0 aw az v_.bL λv hv=>⟨get (G1 v),get (G4 v),get G5,?_,ab v,?_,?_,Re,?_⟩)
 ·exact (h1 v).keep (λt aJ=>tm aJ) (NC aw az)
 ·have:=K4 v;simp only [b',this,ag.at,ag.kids,K3 v]
 ·refine (da v).keep (λt aJ=>tm aJ) ?_;rw [NC (K4 v) (K3 v),Q' v]
 ·refine ⟨λt x h=>?_,λt x h=>?_⟩
  ·rw [CN];cases qT:get A t with
   | none=>exact h
   | some z =>
    obtain ⟨j4,_⟩:=dA.spec t z qT;rw [j4] at h; cases h
  ·rw [CN] at h;cases qT:get A t with
   | none=>rw [qT] at h; exact .inl h
   | some z =>
    rw [qT] at h;cases h;exact .inr (dA.spec t x qT)
end
end Go.Own
namespace Go.Own
open Go
section
variable {P:Program}{N:dK}{ops:Array Oper}{g g1 mz:aW}{K:aW->Prop}{l:List Oper}{d r:Nat}{t:TypeId}{a b:Operand}{x y:ag}
variable {ch:List (List Nat)}{acc:Acc}{i:Nat}
theorem jA {a b:Nat}(h:Nat.blt a b=true):a<b:=by simpa using h
def DC:Option Nat->Nat->Bool
 | none,_=>true
 | some a,d=>!Nat.beq a d
theorem Mv {o:Option Nat}{d:Nat}(h:DC o d=true):o≠some d:=by
 rintro rfl;simp [DC] at h
inductive xy (P:Program) (N:dK) (ops:Array Oper) (ch:List (List Nat)) (rs:Place->Prop) (mz g1:aW) (o:Oper) (U:Acc):Acc->Prop
 | nil:xy P N ops ch rs mz g1 o U []
 | c {k d:Nat}{x:ag}{hL:Oper}{V:Acc}(cf:zb rs mz g1 o x) (h1:g1 d=none) (ek:DC o.dst d=true) (bh:ops[k]?=some hL) (x7:hL.dst=some d) (b5:N.ok d=true) (hw:iX (ep g1 (λm=>(ch.getD k []).contains m) U) ops hL true)
   (aL:dv P (ep g1 (λm=>(ch.getD k []).contains m) U) hL.op hL.type x) (t:xy P N ops ch rs mz g1 o U V):xy P N ops ch rs mz g1 o U ((k,d,some x)::V)
theorem xy.spec {o:Oper}{U V:Acc}{rs:Place->Prop}(h:xy P N ops ch rs mz g1 o U V):∀ e∈V,(∃ x,e.2.2=some x/\zb rs mz g1 o x)/\(g1 e.2.1=none/\o.dst≠some e.2.1)/\∃ hL,ops[e.1]?=some hL/\hL.dst=some e.2.1/\N.ok e.2.1=true/\o5 P (ep g1 (λm=>(ch.getD e.1 []).contains m) U) ops hL e.2.2:=by
 induction h with
 | nil=>intro e he; cases he
 | c cf h1 ek bh x7 b5 hw aL _ aS =>
  intro e he;rcases List.mem_cons.1 he with rfl | he
  ·exact ⟨⟨_,rfl,cf⟩,⟨h1,Mv ek⟩,_,bh,x7,b5,.inl ⟨hw,.inl aL⟩⟩
  ·exact aS e he
theorem bN.e7 (ds:Nat) {G G2:List (Nat × ag)}{U:Acc}{o:Oper}{rs:List Nat}(he:oZ P N (tj rs) (ep (get G) (λm=>(ch.getD ds []).contains m) acc) o (get G2)) (lH:rs.all (λr=>(get G r).isSome)=true) (ba:o.guard=none) (hZ:yl ((acc.filterMap mT).map Place.root)=true) (jt:s' G=true) (aa:Nat.beq ops.size (ds+l.length+1)=true)
  (gU:acc.filter (λe=>!(ch.getD ds []).contains e.1)=U) (q6:xy P N ops ch (tj rs) (ep (get G) (λm=>(ch.getD ds []).contains m) acc) (get G2) o U U)
  (aK:(List.range ops.size).all (λk=>Nat.ble k ds||(ch.getD k []).contains ds)=true) (hk:bN P N ops ch (get G2) (ds+1) U l K):bN P N ops ch (get G) i acc (o::l) K:=by
 intro ey ae cT px pn;have:=Cy pn aa;subst this;obtain ⟨h1,al⟩:=drop_cons pn;have lG:∀ e∈U,e∈acc:=λe he=>by rw [<- gU] at he; exact (List.mem_filter.1 he).1
 have FN:mX P N ops ch (get G2) (ae+1) U:=⟨λe he=>by have:=(px.le cT).2 e (lG e he); omega,λe he=>(q6.spec e he).2.1.1,by rw [<- gU]; exact (List.filter_sublist.map _).nodup (px.nodup cT),λe he cU h9 h=>px.uniq cT (lG e he) (lG cU h9) h,λe he=>(q6.spec e he).2.2⟩;obtain ⟨g',aw,eK⟩:=hk U (ae+1) FN .nil al;refine ⟨g',.zf px (HI hZ) (AV jt) h1 ?_ he (λr aw e=>by have:=List.all_eq_true.1 lH r.root aw; rw [e] at this; cases this) gU.symm (λe h=>(q6.spec e h).1) (λe h=>(q6.spec e h).2.1) (λe h=>(q6.spec e h).2.2) ?_ aw,eK⟩
 ·unfold iX; rw [ba]
 ·refine List.all_eq_true.2 λk hk=>?_;have:=List.all_eq_true.1 aK k hk;simp only [Bool.or_eq_true,decide_eq_true_eq,Nat.ble_eq] at this ⊢;exact this
theorem oZ.box {o:Oper}{r:Nat}{x:ag}{G1 G2:List (Nat × ag)}(he:cq P N (get G1) o (get G2)) (aw:g r=some x) [J:cS x] (hk:Trim false g (get G1) G1) (bd:get G1 r=none) (h1:get G2 r=none) (aU:DC o.dst r=true):oZ P N (tj [r]) g o (get ((r,x)::G2)):=by
 rw [<- t_];exact he.ox.frame aw J.bL hk.keep bd h1 (Mv aU)
theorem cq.dR {o:Oper}{k0:Nat}{cs cs' cs2:List ag}{G2:List (Nat × ag)}(bh:o.op=.store t a b) (aU:o.dst=none) (aL:g r=some (.obj cs)) (bf:Rd g a (.ptr ⟨r,[]⟩ k0)) (aK:Rd g b y) [aP:cS y] (ab:rP y=some cs') (bA:gA P t cs'.length=true)
  (hk:Nat.ble (k0+cs'.length) cs.length=true) (bd:Nat.blt 0 cs'.length=true) (he:fL cs k0 cs'=cs2) [ht:eU cs] (aw:(get G2 r).isSome=true) (eu:mY g (get G2) r cs2 G2):cq P N g o (get G2) :=
 .box bh aU aL bf aK aP.bL ab bA (Nat.le_of_ble_eq_true hk) (by simpa using bd) he (by intro e; rw [e] at aw; cases aw) eu
end
end Go.Own
namespace Go.Own
open Go
section
variable {α:Type}
theorem dQ.app {xs ys xs' BK:List ag}(h:dQ xs ys) (aR:dQ xs' BK):dQ (xs++xs') (ys++BK):=⟨by simp [h.l,aR.l],λg k a b bf aK=>by
 by_cases hk:k<xs.length
 ·rw [List.getElem?_append_left hk] at bf;rw [List.getElem?_append_left (by rw [h.l]; exact hk)] at aK;exact h.v g k a b bf aK
 ·rw [List.getElem?_append_right (by omega)] at bf;rw [List.getElem?_append_right (by rw [h.l]; omega),h.l] at aK;exact aR.v g _ a b bf aK⟩
instance {e cU:cD α}{L:List α} [h:ho e cU]:dQ (cj e L) (cj cU L):=⟨(BG e cU L).1,(BG e cU L).2⟩
theorem ky.Ia {en:cD α}{L:List α}{n:Nat}{cs cs':List ag}(h:cj en L=cs') (ao:L.length=n) [hv:dQ cs cs']:ky (.own en.z n cs) (aj en L):=⟨λg=>by
 subst h ao;exact .own hv.l (hv.v g)⟩
theorem ky.jB {en sI:cD α}{L M:List α}{m:Nat}{new di:List ag} [h:ho en sI] (aP:cj sI M=di) (hm:M.length=m) [aR:dQ new di]:ky (.own en.z (L.length+m) (cj en L++new)) (aj sI (L++M)):=⟨λg=>by
 subst aP hm;have hv:=dQ.app (inferInstance:dQ (cj en L) (cj sI L)) aR;show View g (.own en.z (L.length+M.length) (cj en L++new)) (.aF sI.z (L++M).length (cj sI (L++M)));have e:cj sI (L++M)=cj sI L++cj sI M:=by simp [cj]
 rw [e,List.length_append,<- h.z];exact .own hv.l (hv.v g)⟩
end
end Go.Own
namespace Go.Own
open Go
section
variable {α:Type}{g g2:aW}{p q:Place}{P:Program}{a b:Operand}{t:TypeId}{ty:TypeId}
theorem e3.bo {en:cD α}{L:List α}(h:b' g2 p=some (ak en L)):e3 g2 (.bo en.z p L.length):=.ref rfl (.inl ⟨_,_,h,Nat.le_refl _⟩)
namespace O
theorem ON {en:cD α}{L M r:List α}{e kj m:Nat}{cs:List ag}(aL:Rd g a (.bo en.z p L.length)) (aG:b' g p=some (ak en L)) (J:Rd g b (.bo en.z q m)) (bR:b' g q=some (.own en.z m cs)) (ao:cs.length=m * en.z) (bn:cs.all lE=true) (hm:M.length=m) (aJ:iY P t e en.z kj=true) (aK:Nat.ble kj 128=true) (h:ez L M=some r)
  (ht:∀ t z n m new,g t≠some (.b8 z p n m new)):dv P g (.call { callee:=.builtin .append,args:=#[a,b],argTypes:=#[t,t] }) ty (.b8 en.z p L.length m cs):=by
 subst hm;obtain ⟨h1,al,_⟩:=zc h aK;exact .lM (.grow aL.bT (.inl ⟨_,aG⟩) (λt cK cY bS di e=>ht _ _ _ _ _ e) J.bT (NJ bR ao bn) aJ h1 al)
end O
end
end Go.Own
