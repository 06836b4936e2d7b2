/-
  What is proved here: parts of the proof that the last text states: rules for walks through code, and of this program's functions what they answer. No condition of their own.
-/
import Derived.RowKit3
import Derived.Test.YtbcajhiedeghlaaE1
namespace Go.Own
open Go
structure fN (g1 g2:a7):Prop where
 sub:∀ t x,g2 t=some x->g1 t=some x
 bo:∀ t x,g2 t=some x->e' g2 x
 fZ:∀ t z q n m new,g2 t≠some (.bY z q n m new)
structure dW where
 size:Nat
 pins:List Nat
def dW.ok (N:dW) (d:Nat):Bool:=Nat.blt d N.size&&!N.pins.elem d
def h5 (N:dW) (T T':Array Value):Prop:=T'.size=T.size/\∀ t∈N.pins,T'[t]?=T[t]?
theorem h5.refl {N:dW}{T:Array Value}:h5 N T T:=⟨rfl,λ_ _=>rfl⟩
theorem h5.trans {N:dW}{T I8 I9:Array Value}(h:h5 N T I8) (h1:h5 N I8 I9):h5 N T I9:=⟨h1.1.trans h.1,λt aG=>(h1.2 t aG).trans (h.2 t aG)⟩
theorem dW.lt {N:dW}{d:Nat}(h:N.ok d=true):d<N.size:=by
 simp [dW.ok] at h; exact h.1
theorem h5.put {N:dW}{d:Nat}(h:N.ok d=true) (T:Array Value) (v:Value):h5 N T (T.setIfInBounds d v):=by
 refine ⟨by simp,λt aG=>?_⟩;rw [Array.getElem?_setIfInBounds_ne];rintro rfl;simp [dW.ok,aG] at h
def il (N:dW) (a:Act) (w:World) (I:bu) (Fs:Nat->bu) (g':a7) (cJ:Act) (w':World):Prop :=
 cJ.defers=a.defers/\h5 N a.tmps cJ.tmps/\∃ I' cB,dd w' I' cJ.tmps g' cB/\kW w I (λc=>∃ t,Fs t c) w' I' (λc=>∃ t,cB t c)
theorem uT {cB:Nat->bu}{d:Nat}{F:bu}{c:Nat}(h:∃ t,te cB d F t c):(∃ t,cB t c)\/F c:=by
 obtain ⟨t,h⟩:=h;unfold te at h
 split at h
 ·exact .inr h
 ·exact .inl ⟨t,h⟩
structure wP (P:Program) (g:a7) (f:FuncId) (all xs0 xs1 args:List aj) (tk:Nat->Bool) (vw:Bool) (g1 g2:a7) (outs:List (Option aj)) (res:aj) (l:List (Place × aj)) (ks:Nat->Nat) (g4:a7):Prop where
 bp:du P f=true
 Aj:xs0.length=all.length
 vS:args.length=all.length
 bf:∀ (k:Nat) (x:aj),all[k]?=some x->xs0[k]?=some x\/xs0[k]?=some .dead
 aG:Take g xs0 xs1 g1
 hk:fN g1 g2
 bk:∀ (k:Nat) (x y:aj),all[k]?=some x->args[k]?=some y->if tk k then xs1[k]?=some y else vw=true/\View g2 x y
 jj:b6 P f args outs res
 ax:if vw then kB res else dn res
 vz:∀ (k:Nat) (x:aj),outs[k]?=some (some x)->if vw then kB x else dn x
 aq:∀ (af:Nat) (p:Place) (x:aj),l[af]?=some (p,x)->NX g g2 all outs (ks af) p x
 nd:(l.map (·.1)).Nodup
 inj:∀ i af,i<l.length->af<l.length->ks i=ks af->i=af
 Hr:fN (pO g2 l) g4
section
variable {P:Program}{w:World}{I:bu}{T:Array Value}{g:a7}{Fs:Nat->bu}
theorem jN.keep (h:jN w I T g Fs) {g2:a7}(hk:fN g g2):dd w I T g2 (λt c=>g2 t≠none/\Fs t c) :=
 h.VO hk.sub hk.bo λ_ _ _ _ _ _ _ _ _ _ _ h1=>absurd h1 (hk.fZ _ _ _ _ _ _)
structure uV (g:a7) (d:Nat) (g4 g5:a7):Prop where
 sub:∀ t x,g4 t=some x->g5 t=some x
 new:∀ t x,g5 t=some x->g4 t=some x\/(g4 t=none/\t≠d/\g t=some x/\∃ r k cs,x=.ptr ⟨r,[]⟩ k/\r≠d/\g4 r=some (.obj cs)/\k<cs.length)
theorem uV.refl {d:Nat}{g4:a7}:uV g d g4 g4:=⟨λ_ _ h=>h,λ_ _ h=>.inl h⟩
theorem dd.back (h:dd w I T g Fs) {w':World}{I':bu}{d:Nat}{v:Value}{g4 g5:a7}{IZ:Nat->bu}(b7:dd w' I' (T.setIfInBounds d v) g4 IZ) (aJ:uV g d g4 g5):dd w' I' (T.setIfInBounds d v) g5 IZ:=by
 refine ⟨λt x J=>?_,λt aG c ae=>?_,b7.fi,b7.aD,b7.lt,λt dD z p n m new cN c5 cb ds h1 al=>?_⟩
 ·rcases aJ.new t x J with aU | ⟨h1,al,aS,r,k,cs,rfl,dv,eC,kG⟩
  ·obtain ⟨u,hu,bm⟩:=b7.rel t x aU;exact ⟨u,hu,b7.vn (λ_ _=>rfl) (λ_ _ _=>rfl) (λ_ _=>rfl) (λ_ h=>h) aJ.sub bm λ_ _=>rfl⟩
  ·obtain ⟨u,hu,bm⟩:=h.rel t _ aS;obtain ⟨⟨yy,ad,ar,a2,rfl⟩,_⟩:=(bm.h9 (by simp)).ni;have fO:∀ s,s≠d->(T.setIfInBounds d v)[s]?=T[s]?:=λs aO=>by rw [Array.getElem?_setIfInBounds_ne (Ne.symm aO)]
   refine ⟨_,by rw [fO t al]; exact hu,.tree (.ref rfl ⟨⟨yy,ad,?_,a2,rfl⟩,?_⟩ (b7.kL t h1))⟩
   ·have:eI w T ⟨r,[]⟩=T[r]?:=by
     unfold eI; simp only; cases T[r]? <;> rfl
    rw [this] at ar;unfold eI;simp only [fO r dv,ar,walk]
   ·exact ⟨.obj cs,by simp [cd,aJ.sub r _ eC,aj.at],0,0,cs,.inr rfl,kG⟩
 ·cases aU:g4 t with
  | none=>exact b7.kL t aU c ae
  | some y=>rw [aJ.sub t y aU] at aG; cases aG
 ·have:∀ {t z p n m new},g5 t=some (.bY z p n m new)->g4 t=some (.bY z p n m new):=by
   intro t z p n m new J;rcases aJ.new t _ J with aU | ⟨_,_,_,r,k,cs,e,_⟩
   ·exact aU
   ·cases e
  exact b7.qj t dD z p n m new cN c5 cb ds (this h1) (this al)
def h4 (P:Program) (N:dW) (g:a7) (o:Oper) (d:Nat) (g5:a7):Prop :=
 ∀ (w:World) (I:bu) (T:Array Value) (Fs:Nat->bu),dd w I T g Fs->∀ (a:Act),a.tmps=T->a.tmps.size=N.size->∀ (K:Act->World->Prop) (Q:Exit->Act->World->Prop),
  (∀ (cJ:Act) (w':World) (v:Value) (I':bu) (cB:Nat->bu),cJ.defers=a.defers->cJ.tmps=T.setIfInBounds d v->dd w' I' (T.setIfInBounds d v) g5 cB->kW w I (λc=>∃ t,Fs t c) w' I' (λc=>∃ t,cB t c)->K cJ w')->o.wp P a w K Q
theorem h4.sound {N:dW}{o:Oper}{d:Nat}{g5:a7}(ae:h4 P N g o d g5) (jD:N.ok d=true) (h:dd w I T g Fs) {a:Act}(bk:a.tmps=T) (b1:a.tmps.size=N.size) {K:Act->World->Prop}{Q:Exit->Act->World->Prop}
  (eJ:∀ cJ w',il N a w I Fs g5 cJ w'->K cJ w'):o.wp P a w K Q :=
 ae w I T Fs h a bk b1 K Q λcJ w' v I' cB h1 al aS b7=>eJ cJ w' ⟨h1,by rw [al,<- bk]; exact h5.put jD _ _,I',cB,by rw [al]; exact aS,b7⟩
theorem wP.ok {N:dW}{o:Oper}{c:Operand}{xs:Array Operand}{iF:Array TypeId}{d:Nat}{f:FuncId}{first caps ys xs0 xs1 args:List aj}{tk:Nat->Bool}{vw:Bool}{g1 g2 g4 g5:a7}{outs:List (Option aj)}{res:aj}{l:List (Place × aj)}{ks:Nat->Nat}
  (bj:o.op=.call { callee:=.value c,args:=xs,argTypes:=iF }) (aZ:o.dst=some d) (ae:bT g c=some (.eB (.func f) first caps)) (J:iN g xs.toList=some ys)
  (he:wP P g f (first++ys++caps) xs0 xs1 args tk vw g1 g2 outs res l ks g4) (bb:g4 d=none) (jD:N.ok d=true) (Sr:uV g d (fc g4 d res) g5):h4 P N g o d g5:=by
 intro w I T Fs h a bk b1 K Q eJ;obtain ⟨v1,v2,tU,aq,oG⟩:=EW h bk ae J;have iq:(execOp a.eval o).run P w=.ok (.enter f (v1++xs.map a.eval++v2)) w:=by
  simp [execOp,bj,resolve,Deferred.ofValue,tU,invoke,EX he.bp]
 generalize xO:(v1++xs.map a.eval++v2).toList=vs at *;generalize FY:first++ys++caps=all at *
 -- what is taken
 have tO:Hand w I (gr w T) Fs xs0 vs (λ_=>c0):=by
  refine ⟨by rw [he.Aj,aq],λk x u J hu=>?_,λ_ _ _ _ _ h=>h.elim,λ_ _ _ _ h=>h.elim,λ_ _ _ h=>h.elim⟩;have hk:k<all.length:=by rw [<- he.Aj]; exact (List.getElem?_eq_some_iff.1 J).1
  have zA:=List.getElem?_eq_getElem hk;rcases he.bf k _ zA with bf | bf
  ·rw [bf] at J; cases J;exact (oG k _ u zA hu).frame (λ_ _=>rfl) (λ_ h=>h) (λ_ _ h=>h.1) λ_ _=>rfl
  ·rw [bf] at J; cases J;exact .dead λ_ h=>h
 obtain ⟨gp,H1,jf,iJ,hs⟩:=he.aG.sound h.mj tO;have K':∀ c,lg gp xs1.length H1 c->∃ t,Fs t c:=by
  intro c ae;rcases hs c ae with aU | ⟨_,_,aU⟩
  ·exact aU
  ·exact aU.elim
 have im:=jf.keep he.hk;generalize RA:(λt c=>g2 t≠none/\gp t c)=jd at im;have KW:∀ t c,jd t c->gp t c:=by intro t c ae; rw [<- RA] at ae; exact ae.2
 have Gq:xs1.length=all.length:=by rw [he.aG.length,he.Aj]
 -- what the callee sees
 let BR:bu:=λc=>I c\/(vw=true/\∃ t,jd t c)
 let wQ:Nat->bu:=λt c=>t<all.length/\tk t=true/\H1 t c;have sE:∀ t c,wQ t c->(∀ s,¬ jd s c)/\¬ I c/\∃ t,Fs t c:=by
  rintro t c ⟨h1,al,aS⟩;exact ⟨λs aO=>iJ.off t s c (by omega) aS (KW s c aO),iJ.aD t c (by omega) aS,K' c (.inr ⟨t,by omega,aS⟩)⟩
 have LO:∀ (ρ':aj->Value->Prop) (k:Nat) (y:aj) (u:Value),args[k]?=some y->vs[k]?=some u->R w BR ρ' y u (wQ k):=by
  intro ρ' k y u aA hu;have hk:k<all.length:=by rw [<- he.vS]; exact (List.getElem?_eq_some_iff.1 aA).1
  have zA:=List.getElem?_eq_getElem hk;have:=he.bk k _ y zA aA
  split at this
  ·rename_i aG;have mz:dn y:=he.aG.Aw y (List.mem_of_getElem? this);exact (((iJ.rel k y u this hu).bP mz).nm λc ae=>.inl ae).xi λc=>⟨λae=>⟨hk,aG,ae⟩,λae=>ae.2.2⟩
  ·rename_i aG;obtain ⟨hv,Tt⟩:=this;have gP:R w I (gr w T) all[k] u c0:=(oG k _ u zA hu).frame (λ_ _=>rfl) (λ_ h=>h) (λ_ _ h=>h.1) λ_ _=>rfl;have:=View.Nj im.mj Tt gP (λ_ h=>h.elim) ρ';refine (this.nm (I':=BR) λc ae=>?_).xi λc=>⟨λh=>h.elim,λae=>absurd ae.2.1 aG⟩;rcases ae with aU | aU
   ·exact .inl aU
   ·exact .inr ⟨hv,aU⟩
 have RW:dd w BR vs.toArray (pe args) wQ:=by
  refine ⟨λt x J=>?_,λt aG c ae=>?_,λt dD c ae fz=>iJ.fi t dD c (by have:=ae.1; omega) (by have:=fz.1; omega) ae.2.2 fz.2.2,λt c ae hi=>?_,λc ae=>?_,λt dD z p n m new cN c5 cb ds h1 al=>?_⟩
  ·have aG:t<args.length:=(List.getElem?_eq_some_iff.1 J).1;have hu:vs[t]?=some (vs[t]'(by rw [<- aq,<- he.vS]; exact aG)):=List.getElem?_eq_getElem _;exact ⟨_,by rw [List.getElem?_toArray]; exact hu,.tree (LO _ t x _ J hu)⟩
  ·have hle:args.length<=t:=by simpa [pe] using aG
   have:=ae.1; have:=he.vS; omega
  ·obtain ⟨h1,al,_⟩:=sE t c ae;rcases hi with aU | ⟨_,s,aU⟩
   ·exact al aU
   ·exact h1 s aU
  ·rcases ae with aU | ⟨_,s,aU⟩
   ·exact h.lt c aU
   ·exact im.j3 s c aU
  ·have aG:t<args.length:=(List.getElem?_eq_some_iff.1 h1).1;have hu:vs[t]?=some (vs[t]'(by rw [<- aq,<- he.vS]; exact aG)):=List.getElem?_eq_getElem _;exact (LO (λ_ _=>False) t _ _ h1 hu).k_.elim
 have tT:=he.jj.2 w BR vs wQ (by rw [<- aq,he.vS]) RW;unfold Oper.wp Oper.upon;simp only [iq];rw [<- xO,Array.toArray_toList] at tT;refine Calls.mono tT ?_;rintro e w' ⟨v,I',cB,rfl,eO,cp⟩;rw [xO] at eO;have mx:outs.length=all.length:=by rw [he.jj.1,he.vS]
 have qP:vs.length=all.length:=aq.symm
 -- the blocks behind the call
 have M8:∀ t c,jd t c->w'.heap[c]?=w.heap[c]?:=λt c ae=>cp.fI.block c (im.j3 t c ae) λ⟨s,aO⟩=>(sE s c aO).1 t ae;have q8:∀ c,I c->w'.heap[c]?=w.heap[c]?:=λc ae=>cp.fI.block c (h.lt c ae) λ⟨s,aO⟩=>(sE s c aO).2.1 ae
 let If:bu:=λc=>if vw then I c else I' c
 have HP:∀ t c,cB t c->(∃ s,wQ s c)\/w.heap.size<=c:=λt c ae=>cp.own c ⟨t,ae⟩;have Mt:∀ t c,cB t c->∀ s,¬ jd s c:=by
  intro t c ae s aO;rcases HP t c ae with ⟨eT,aU⟩ | aU
  ·exact (sE eT c aU).1 s aO
  ·have:=im.j3 s c aO; omega
 have Mu:∀ t c,cB t c->¬ If c:=by
  intro t c ae hi;cases vw with
  | true =>
   simp only [If,if_true] at hi;rcases HP t c ae with ⟨eT,aU⟩ | aU
   ·exact (sE eT c aU).2.1 hi
   ·have:=h.lt c hi; omega
  | false =>
   simp only [If,Bool.false_eq_true,if_false] at hi;exact eO.aD t c ae hi
 have K1:∀ c,If c->I c\/(∃ s,wQ s c)\/w.heap.size<=c:=by
  intro c ae;cases vw with
  | true=>simp only [If,if_true] at ae; exact .inl ae
  | false =>
   simp only [If,Bool.false_eq_true,if_false] at ae;rcases cp.new c ae with aU | aU | aU
   ·rcases aU with aU | ⟨aU,_⟩
    ·exact .inl aU
    ·cases aU
   ·exact .inr (.inl aU)
   ·exact .inr (.inr aU)
 have K0:∀ c,I c->If c:=by
  intro c ae;cases vw with
  | true=>simp only [If,if_true]; exact ae
  | false=>simp only [If,Bool.false_eq_true,if_false]; exact cp.more c (.inl ae)
 have RS:dd w' If T g2 jd:=by
  have:=im.world (w':=w') M8 q8 cp.fI.size;refine ⟨λt x J=>?_,this.kL,this.fi,λt c ae hi=>?_,λc ae=>?_,this.qj⟩
  ·obtain ⟨v,hv,bm⟩:=this.rel t x J;exact ⟨v,hv,bm.frame (λ_ _=>rfl) K0 (λ_ _ h=>h) (λ_ _ _ _ _ _ _=>rfl) λ_ _=>rfl⟩
  ·rcases K1 c hi with aU | ⟨s,aU⟩ | aU
   ·exact im.aD t c ae aU
   ·exact (sE s c aU).1 t ae
   ·have:=im.j3 t c ae; omega
  ·cases vw with
   | true=>simp only [If,if_true] at ae; exact Nat.lt_of_lt_of_le (h.lt c ae) cp.fI.size
   | false=>simp only [If,Bool.false_eq_true,if_false] at ae; exact eO.lt c ae
 -- what comes back in the arguments, and the result
 have Jx:∀ {x:aj}{u:Value}{F:bu}{ρ ρ':aj->Value->Prop},R w' I' ρ x u F->(if vw then kB x else dn x)->R w' If ρ' x u F:=by
  intro x u F ρ ρ' bm J;cases vw with
  | true=>simp only [if_true] at J; exact bm.k' J
  | false =>
   simp only [Bool.false_eq_true,if_false] at J;refine (bm.bP J).nm λc ae=>?_;simpa [If] using ae
 have Av:∀ {x:aj},(if vw then kB x else dn x)->∀ z p n m new,x≠.bY z p n m new:=by
  rintro x J z p n m new rfl;cases vw with
  | true=>simp only [if_true] at J; cases J
  | false=>simp only [Bool.false_eq_true,if_false] at J; cases J
 have UI:∀ (k:Nat) (x:aj) (u:Value),outs[k]?=some (some x)->vs[k]?=some u->R w' If (gr w' T) x u (cB k):=by
  intro k x u J hu;have hk:k<outs.length:=(List.getElem?_eq_some_iff.1 J).1;obtain ⟨td,fP,bm⟩:=eO.rel k x (by simp only [oV,if_neg (Nat.ne_of_lt hk),J]; rfl);have:td=u:=by
   rw [List.getElem?_toArray,List.getElem?_append_left (by rw [qP,<- mx]; exact hk),hu] at fP;exact (Option.some.inj fP).symm
  subst this;exact Jx (bm.h9 (Av (he.vz k x J))) (he.vz k x J)
 obtain ⟨Iz,Dc,oF⟩:=eO.rel outs.length res (by simp [oV]);have Tn:Iz=v:=by
  have e:outs.length=vs.length:=by omega
  rw [e] at Dc;simpa using Dc.symm
 subst Tn
 -- back into the places
 obtain ⟨wR,FT,CQ⟩:=jN.pO (w:=w') (I:=If) (T:=T) l (λaf=>cB (ks af)) (λaf=>vs.getD (ks af) undef) RS.mj he.nd (λaf p x aa=>by
   have L:=he.aq af p x aa;have hk:ks af<outs.length:=(List.getElem?_eq_some_iff.1 L.out).1;have hu:vs[ks af]?=some (vs[ks af]'(by rw [qP,<- mx]; exact hk)):=List.getElem?_eq_getElem _;have tY:vs.getD (ks af) undef=vs[ks af]'(by rw [qP,<- mx]; exact hk):=by simp [List.getD,hu]
   refine ⟨L.Ju,?_,?_⟩
   ·rw [tY,im.wA (w':=w') (λ_ _=>rfl) M8 L.Ju];rcases L.arg with ⟨z,n,cs,h1,al⟩ | ⟨cs,h1,al⟩
    ·exact OB h (oG _ _ _ h1 hu) al
    ·exact OA h (oG _ _ _ h1 hu) al
   ·rw [tY]; exact UI _ x _ L.out hu)
  (λaf t c aa ae=>Mt _ c ae t) (λaf c aa ae=>Mu _ c ae) (λi af c hi aa h1 al=>he.inj i af hi aa (eO.fi _ _ c h1 al))
 have RT:=FT.keep he.Hr;have UF:∀ t c,cB outs.length c->¬ (g4 t≠none/\wR t c):=by
  rintro t c ae ⟨_,b7⟩;rcases CQ t c b7 with aU | ⟨af,aa,aU⟩
  ·exact Mt _ c ae t aU
  ·have hk:ks af<outs.length:=by
    have t':=List.getElem?_eq_getElem aa;exact (List.getElem?_eq_some_iff.1 (he.aq af _ _ t').out).1
   have:=eO.fi _ _ c ae aU;omega
 have na:=RT.s7 (d:=d) (x:=res) (v:=Iz) (F:=cB outs.length) bb (by rw [<- bk,b1]; exact dW.lt jD) (.tree (Jx (oF.h9 (Av he.ax)) he.ax)) UF (λc ae=>Mu _ c ae) (λz p n m new e=>absurd e (Av he.ax z p n m new));refine eJ _ _ Iz If _ (by rw [aZ]; rfl) (by rw [aZ]; simp [Act.put,bk]) (h.back na Sr) ⟨?_,K0,λc ae=>?_,λc ae=>?_⟩
 ·exact cp.fI.mono λb _ ⟨s,aO⟩=>(sE s b aO).2.2
 ·rcases K1 c ae with aU | ⟨s,aU⟩ | aU
  ·exact .inl aU
  ·exact .inr (.inl (sE s c aU).2.2)
  ·exact .inr (.inr aU)
 ·have fin:∀ t,cB t c->(∃ s,Fs s c)\/w.heap.size<=c:=by
   intro t aG;rcases HP t c aG with ⟨s,aU⟩ | aU
   ·exact .inl (sE s c aU).2.2
   ·exact .inr aU
  rcases uT ae with ⟨t,_,aU⟩ | aU
  ·rcases CQ t c aU with gO | ⟨af,_,gO⟩
   ·exact .inl (K' c (.inl ⟨t,KW t c gO⟩))
   ·exact fin _ gO
  ·exact fin _ aU
structure NS (g:a7) (d r k0:Nat) (g4 g5:a7):Prop where
 sub:∀ t x,g4 t=some x->g5 t=some x
 new:∀ t x,g5 t=some x->g4 t=some x\/(g4 t=none/\t≠d/\g t=some x/\∃ m z n cs,x=.ptr ⟨r,[k0]⟩ m/\cd g4 ⟨r,[k0]⟩=some (.own z n cs)/\m<cs.length)
theorem fN.cd {g1 g2:a7}(h:fN g1 g2) {p:Place}{y:aj}(aH:cd g2 p=some y):cd g1 p=some y:=by
 unfold Own.cd at *;cases J:g2 p.root with
 | none=>rw [J] at aH; cases aH
 | some x=>rw [J] at aH; rw [h.sub _ _ J]; exact aH
theorem h4.Q0 {N:dW}{o:Oper}{r k0 d:Nat}{y:aj}{cs:List aj}{g5:a7}(ax:g r=some (.obj cs)) (aA:cs[k0]?=some y) (vG:dn y)
  (uc:∀ v:Value,v.oneCell'=true->∃ g1 g4 tK,fN (dh g ⟨r,[k0]⟩ (.lit v)) g1/\h4 P N g1 o d g4/\cd g4 ⟨r,[k0]⟩=some (.lit v)/\fN (dh g4 ⟨r,[k0]⟩ y) tK/\cd tK ⟨r,[k0]⟩=some y/\NS g d r k0 tK g5):h4 P N g o d g5:=by
 intro w I T Fs h a bk b1 K Q eJ;have l8:∀ z q n m new,y≠.bY z q n m new:=by rintro z q n m new rfl; cases vG
 have ga:cd g ⟨r,[k0]⟩=some y:=by simp [cd,ax,aj.at,aj.kids,aA]
 obtain ⟨v,cR,hv,eb,dS,put⟩:=h.mj.part ga l8;have oN:v.oneCell'=true:=by
  obtain ⟨u,hu,mu⟩:=h.rel r _ ax;obtain ⟨b,td,h1,al,aS,b7,_⟩:=R.node (z:=0) (n:=0) (mu.h9 (by simp)) (.inr rfl) aA;have:eI w T ⟨r,[k0]⟩=child w u k0:=by
   unfold eI;simp only [hu,walk];cases child w u k0 <;> rfl
  rw [this,aS] at hv;cases hv;exact b7
 obtain ⟨gp,jf,zt,zu⟩:=put (.lit v) c0 (.lit oN λ_ h=>h) (λ_ h=>h.elim) (λ_ h=>h.elim) (λ_ _ _ h=>h.elim);obtain ⟨g1,g4,tK,hz,e8,F0,Gj,WW,aJ⟩:=uc v oN;have rb:∀ t c,gp t c->Fs t c/\¬ cR c:=by
  intro t c ae;by_cases aG:t=r
  ·subst aG;rcases (zt c).1 ae with aU | aU
   ·exact aU
   ·exact aU.elim
  ·rw [zu t aG] at ae;exact ⟨ae,λbp=>aG (h.fi t r c ae (dS c bp))⟩
 have FR:=jf.keep hz;refine e8 w I T _ FR a bk b1 K Q λcJ w' h0 I' cB y9 za eO cp=>?_;obtain ⟨v2,r8,qe,l3,Rz,H4⟩:=eO.mj.part F0 (by simp);have GN:v2=v:=l3.iu.1;subst GN;have FF:∀ c,cR c->¬ I c:=λc ae=>h.aD r c (dS c ae);have vo:∀ c,cR c->c<w.heap.size:=λc ae=>h.j3 r c (dS c ae);have vY:∀ c,cR c->¬ ∃ t,(g1 t≠none/\gp t c):=λc ae ⟨t,_,aU⟩=>(rb t c aU).2 ae;have Ay:∀ t c,cB t c->¬ cR c:=by
  intro t c ae bp;rcases cp.own c ⟨t,ae⟩ with aU | aU
  ·exact vY c bp aU
  ·have:=vo c bp; omega
 have HJ:∀ c,cR c->¬ I' c:=by
  intro c ae hi;rcases cp.new c hi with aU | aU | aU
  ·exact FF c ae aU
  ·exact vY c ae aU
  ·have:=vo c ae; omega
 have Ie:∀ c,cR c->w'.heap[c]?=w.heap[c]?:=λc ae=>cp.fI.block c (vo c ae) (vY c ae);have q8:∀ c,I c->w'.heap[c]?=w.heap[c]?:=λc ae=>cp.fI.block c (h.lt c ae) λ⟨t,_,aU⟩=>h.aD t c (rb t c aU).1 ae;have zz:R w' I' (gr w' (T.setIfInBounds d h0)) y v2 cR :=
  ((eb.bP vG).frame q8 cp.more (λ_ _ h=>h) Ie)
 obtain ⟨I0,FU,FA,FB⟩:=H4 y cR zz (λc ae bp=>(Ay _ c bp ae).elim) (λc ae=>HJ c ae) (λt c _ ae bp=>Ay t c bp ae);have sH:=FU.keep Gj;have Tq:eI w' (T.setIfInBounds d h0) ⟨r,[k0]⟩=some v2:=qe;have RU:dd w' I' (T.setIfInBounds d h0) g5 (λt c=>tK t≠none/\I0 t c):=by
  refine ⟨λt x J=>?_,λt aG c ae=>?_,sH.fi,sH.aD,sH.lt,λt dD z p n m new cN c5 cb ds h1 al=>?_⟩
  ·rcases aJ.new t x J with aU | ⟨h1,al,aS,m,z,n,cs2,rfl,dv,eC⟩
   ·obtain ⟨u,hu,bm⟩:=sH.rel t x aU;exact ⟨u,hu,sH.vn (λ_ _=>rfl) (λ_ _ _=>rfl) (λ_ _=>rfl) (λ_ h=>h) aJ.sub bm λ_ _=>rfl⟩
   ·obtain ⟨u,hu,bm⟩:=h.rel t _ aS;obtain ⟨⟨yy,ad,ar,a2,rfl⟩,_⟩:=(bm.h9 (by simp)).ni;rw [hv] at ar;cases ar;refine ⟨_,by rw [Array.getElem?_setIfInBounds_ne (Ne.symm al)]; exact hu,.tree (.ref rfl ⟨⟨v2,ad,Tq,a2,rfl⟩,?_⟩ (sH.kL t h1))⟩;refine ⟨.own z n cs2,?_,z,n,cs2,.inl rfl,eC⟩;unfold Own.cd at dv ⊢;cases gC:tK r with
    | none=>simp only [gC] at dv; cases dv
    | some x'=>simp only [gC] at dv; simp only [aJ.sub r x' gC]; exact dv
  ·cases aU:tK t with
   | none=>exact ae.1 aU
   | some y=>rw [aJ.sub t y aU] at aG; cases aG
  ·have:∀ {t z p n m new},g5 t=some (.bY z p n m new)->tK t=some (.bY z p n m new):=by
    intro t z p n m new J;rcases aJ.new t _ J with aU | ⟨_,_,_,m,z,n,cs2,e,_⟩
    ·exact aU
    ·cases e
   exact sH.qj t dD z p n m new cN c5 cb ds (this h1) (this al)
 refine eJ cJ w' h0 I' _ y9 za RU ⟨?_,cp.more,λc ae=>?_,λc ae=>?_⟩
 ·exact cp.fI.mono λb _ ⟨t,_,aU⟩=>⟨t,(rb t b aU).1⟩
 ·rcases cp.new c ae with aU | ⟨t,_,aU⟩ | aU
  ·exact .inl aU
  ·exact .inr (.inl ⟨t,(rb t c aU).1⟩)
  ·exact .inr (.inr aU)
 ·obtain ⟨t,_,ae⟩:=ae;have:(∃ t,cB t c)\/cR c:=by
   by_cases aG:t=r
   ·subst aG;rcases (FA c).1 ae with ⟨aU,_⟩ | aU
    ·exact .inl ⟨_,aU⟩
    ·exact .inr aU
   ·rw [FB t aG] at ae; exact .inl ⟨t,ae⟩
  rcases this with aU | aU
  ·rcases cp.own c aU with ⟨t,_,gO⟩ | gO
   ·exact .inl ⟨t,(rb t c gO).1⟩
   ·exact .inr gO
  ·exact .inl ⟨r,dS c aU⟩
end
end Go.Own
namespace Go.Own
open Go
def rz:aj->Option (List aj)
 | .agg cs=>some cs
 | .lit v=>some [.lit v]
 | .aF=>some [.aF]
 | .aD z n cs=>some [.aD z n cs]
 | .own z n cs=>some [.own z n cs]
 | .obj cs=>some [.obj cs]
 | .bn cs=>some [.bn cs]
 | .eB f a b=>some [.eB f a b]
 | _=>none
def gz (P:Program) (t:TypeId) (m:Nat):Bool :=
 match P.info? t with
 | some i=>i.size == m
 | none=>false
def kU (P:Program) (N:dW) (g:a7) (o:Oper) (g':a7):Prop :=
 ∀ (w:World) (I:bu) (T:Array Value) (Fs:Nat->bu),dd w I T g Fs->∀ (a:Act),a.tmps=T->a.tmps.size=N.size->∀ (K:Act->World->Prop) (Q:Exit->Act->World->Prop),
  (∀ (cJ:Act) (w':World),il N a w I Fs g' cJ w'->(∀ t,o.dst≠some t->cJ.tmps[t]?=a.tmps[t]?)->K cJ w')->o.wp P a w K Q
inductive cc (P:Program) (N:dW) (g:a7):Oper->a7->Prop
 | assign {o:Oper}{d:Nat}{x:Operand}{y kj y':aj}{g1 g2:a7}(bj:o.op=.assign x) (aZ:o.dst=some d) (J:bT g x=some y) (aG:Take g [y] [kj] g1) (bH:jK kj y') (hk:fN g1 g2) (bb:g2 d=none) (b1:N.ok d=true):cc P N g o (fc g2 d y')
 | OF {o:Oper}{d:Nat}{x:Operand}{y:aj}{g2:a7}(bj:o.op=.assign x) (aZ:o.dst=some d) (J:bT g x=some y) (hk:fN g g2) (aA:e' g2 y) (bb:g2 d=none) (b1:N.ok d=true):cc P N g o (fc g2 d y)
 | store {o:Oper}{t:TypeId}{ad val:Operand}{p:Place}{k z n:Nat}{y kj y' nd:aj}{cs cs':List aj}{g1 g2:a7}(bj:o.op=.store t ad val) (aZ:o.dst=none) (f':bT g ad=some (.ptr p k)) (sU:bT g val=some y) (aG:Take g [y] [kj] g1) (qa:jK kj y')
   (ae:rz y'=some cs') (aO:gz P t cs'.length=true) (aH:cd g1 p=some nd) (gv:nd=.own z n cs\/nd=.obj cs) (hk:k+cs'.length<=cs.length) (bf:0<cs'.length)
   (CZ:∀ t x,g2 t=some x->dh g1 p (nd.fM k cs') t=some x) (zZ:∀ t x,g2 t=some x->∀ y,g1 t=some y->kk (λr=>hq g1 r/\Clear p k cs'.length r/\hq g2 r) y) (l8:∀ t z q n m new,g2 t≠some (.bY z q n m new)) (mD:g2 p.root≠none):cc P N g o g2
 | call {o:Oper}{d:Nat}{g5:a7}(aZ:o.dst=some d) (b1:N.ok d=true) (h:h4 P N g o d g5):cc P N g o g5
 | Na {o:Oper}{g2:a7}(h:kU P N g o g2):cc P N g o g2
section
variable {P:Program}{w:World}{I:bu}{T:Array Value}{g:a7}{Fs:Nat->bu}
theorem Hand.one {y:aj}{v:Value}(bm:R w I (eG w T g) y v c0):Hand w I (gr w T) Fs [y] [v] (λ_=>c0) :=
 ⟨rfl,λk x u J hu=>by
  cases k with
  | zero=>simp at J hu; subst J hu; exact bm.frame (λ_ _=>rfl) (λ_ h=>h) (λ_ _ h=>h.1) λ_ _=>rfl
  | succ k=>simp at J,λ_ _ _ _ _ h=>h.elim,λ_ _ _ _ h=>h.elim,λ_ _ _ h=>h.elim⟩
theorem Hand.H7 {ρ:aj->Value->Prop}{y:aj}{v:Value}{dU:Nat->bu}(h:Hand w I ρ Fs [y] [v] dU):R w I ρ y v (dU 0):=h.rel 0 y v rfl rfl
theorem Hand.cells {y:aj}{v:Value}{dU:Nat->bu}(h:Hand w I (gr w T) Fs [y] [v] dU) (aP:dn y) {cs:List aj}(ae:rz y=some cs) :
  ∃ wS,Hand w I (gr w T) Fs cs v.cells.toList wS/\(∀ x∈cs,dn x)/\(∀ (af:Nat) (u:Value),v.cells.toList[af]?=some u->u.oneCell'=true)/\∀ af c,af<cs.length->wS af c->dU 0 c:=by
 have bm:=h.H7;have single:∀ {x:aj},y=x->v.oneCell'=true->∃ wS,Hand w I (gr w T) Fs [x] v.cells.toList wS/\(∀ z∈[x],dn z)/\(∀ (af:Nat) (u:Value),v.cells.toList[af]?=some u->u.oneCell'=true)/\∀ af c,af<[x].length->wS af c->dU 0 c:=by
  rintro x rfl h1;have xA:v.cells=#[v]:=by cases v <;> first | rfl | (simp [Value.oneCell'] at h1)
  refine ⟨dU,by rw [xA]; exact h,by simpa using aP,λaf u hu=>?_,λaf c aa ae=>?_⟩
  ·rw [xA] at hu;cases af with
   | zero=>simp at hu; subst hu; exact h1
   | succ af=>simp at hu
  ·have:af=0:=by simpa using aa
   subst this; exact ae
 cases y <;> simp only [rz,Option.some.injEq,reduceCtorEq] at ae
 case agg l =>
  subst ae;cases bm with
  | ref J=>simp [aj.isRef] at J
  | @agg _ vs bR _ aq h1 ax aZ aQ =>
   have fj:∀ k c,k<l.length->bR k c->dU 0 c:=λk c hk ae=>(aQ c).2 ⟨k,hk,ae⟩;refine ⟨bR,⟨by simp [Value.cells,aq],λk x u J hu=>ax k x u J (by simpa [Value.cells] using hu),aZ,λk t c hk ae=>h.off 0 t c (by simp) (fj k c hk ae),λk c hk ae=>h.aD 0 c (by simp) (fj k c hk ae)⟩,?_,λaf u hu=>h1 af u (by simpa [Value.cells] using hu),fj⟩;cases aP with | agg h=>exact h
 case lit a=>subst ae; exact single rfl (by obtain ⟨rfl,h1⟩:=bm.iu; exact h1)
 case aF=>subst ae; exact single rfl (by rw [bm.q0]; rfl)
 case aD z n l=>subst ae; exact single rfl (by obtain ⟨a,cap,rfl,_⟩:=bm.xS; rfl)
 case own z n l=>subst ae; exact single rfl (by obtain ⟨a,cap,rfl,_⟩:=bm.mL; rfl)
 case bn l=>subst ae; exact single rfl (by obtain ⟨ad,us,rfl,_⟩:=bm.vI; rfl)
 case obj l =>
  subst ae;refine single rfl ?_;cases bm with
  | ref J=>simp [aj.isRef] at J
  | obj=>rfl
 case eB f a b =>
  subst ae;refine single rfl ?_;cases bm with
  | ref J=>simp [aj.isRef] at J
  | eB=>rfl
theorem jM.nm {I':bu}{ρ:aj->Value->Prop}{x:aj}{v:Value}{F:bu}(h:jM w I ρ x v F) (bt:∀ c,I c->I' c):jM w I' ρ x v F:=by
 cases h with
 | tree h=>exact .tree (h.nm bt)
 | bY h=>exact .bY ⟨h.kp,h.k6,h.mB,h.aq,h.h1,λk x u J hu=>(h.ax k x u J hu).nm bt,h.aQ⟩
theorem KK {g1:a7}{gp:Nat->bu}{H1:Nat->bu}{kj y':aj}{v:Value}(b5:jN w I T g1 gp) (hH:Hand w I (gr w T) gp [kj] [v] H1) (aP:dn kj) (bH:jK kj y') :
  ∃ (I':bu) (r_:bu),(∀ c,I c->I' c)/\(∀ c,I' c->I c\/H1 0 c)/\jN w I' T g1 gp/\Hand w I' (gr w T) gp [y'] [v] (λ_=>r_)/\∀ c,r_ c->H1 0 c:=by
 have bm:=hH.H7;obtain ⟨r_,gT,jC⟩:=R.e7 bH bm aP (λc ae=>hH.aD 0 c (by simp) ae) b5.lt;refine ⟨λc=>I c\/(H1 0 c/\¬ r_ c),r_,λc ae=>.inl ae,λc ae=>ae.elim .inl λh=>.inr h.1,⟨λt x J=>?_,b5.kL,b5.fi,λt c ae hi=>?_,λc ae=>?_⟩,⟨rfl,λk x u J hu=>?_,λaf k c aa hk _ _=>by simp at aa hk; omega,λk t c hk ae bp=>hH.off 0 t c (by simp) (gT c ae) bp,λk c hk ae hi=>?_⟩,gT⟩
 ·obtain ⟨u,hu,mu⟩:=b5.rel t x J;exact ⟨u,hu,mu.nm λc ae=>.inl ae⟩
 ·rcases hi with h | ⟨h,_⟩
  ·exact b5.aD t c ae h
  ·exact hH.off 0 t c (by simp) h ae
 ·rcases ae with h | ⟨h,_⟩
  ·exact b5.lt c h
  ·exact bm.lt c h
 ·cases k with
  | zero=>simp at J hu; subst J hu; exact jC
  | succ k=>simp at J
 ·rcases hi with h | ⟨_,h⟩
  ·exact hH.aD 0 c (by simp) (gT c ae) h
  ·exact h ae
theorem cc.mY {N:dW}{o:Oper}{g':a7}(he:cc P N g o g'):kU P N g o g':=by
 intro w I T Fs h a bk b1 K Q eJ;cases he with
 | Na he=>exact he w I T Fs h a bk b1 K Q eJ
 | @call d _ aZ jD ae =>
  refine ae w I T Fs h a bk b1 K Q λcJ w' v I' cB h1 al aS b7=>eJ cJ w' ⟨h1,by rw [al,<- bk]; exact h5.put jD _ _,I',cB,by rw [al]; exact aS,b7⟩ λt aG=>?_;rw [al,bk,Array.getElem?_setIfInBounds_ne];rintro rfl;exact aG aZ
 | @assign d x y kj y' g1 g2 bj aZ J aG bH hk bb jD =>
  have bm:=la h J bk;obtain ⟨gp,H1,rL,tO,hs⟩:=aG.sound h.mj (Hand.one bm);have zP:dn kj:=aG.Aw kj (by simp);obtain ⟨I',r_,oE,FH,jf,iJ,gT⟩:=KK rL tO zP bH;have mz:dn y':=bH.bP zP;have im:=jf.keep hk;have na:=im.s7 (d:=d) (x:=y') (v:=a.eval x) (F:=r_) bb (by rw [<- bk,b1]; exact dW.lt jD) (.tree (iJ.H7.bP mz)) (λt c ae bp=>iJ.off 0 t c (by simp) ae bp.2) (λc ae=>iJ.aD 0 c (by simp) ae) (by rintro z p n m new rfl; cases mz);have iq:(execOp a.eval o).run P w=.ok (.value (a.eval x)) w:=by simp [execOp,bj]
  unfold Oper.wp Oper.upon;simp only [iq];have gQ:∀ c,H1 0 c->∃ t,Fs t c:=λc ae=>by
   rcases hs c (.inr ⟨0,by simp,ae⟩) with gO | ⟨_,_,gO⟩
   ·exact gO
   ·exact gO.elim
  refine eJ _ _ ⟨by rw [aZ]; rfl,by rw [aZ]; exact h5.put jD _ _,I',_,by rw [aZ]; simpa [Act.put,bk] using na,⟨Fr.refl _ _,oE,λc ae=>(FH c ae).elim .inl λh=>.inr (.inl (gQ c h)),λc ae=>?_⟩⟩ λt aG=>by rw [aZ]; simp only [Act.put]; rw [Array.getElem?_setIfInBounds_ne]; rintro rfl; exact aG aZ
  rcases uT ae with ⟨t,_,aU⟩ | aU
  ·rcases hs c (.inl ⟨t,aU⟩) with gO | ⟨_,_,gO⟩
   ·exact .inl gO
   ·exact gO.elim
  ·exact .inl (gQ c (gT c aU))
 | @OF d x y g2 bj aZ J hk aA bb jD =>
  have bm:=la h J bk;have im:=h.mj.keep hk;have jC:R w I (eG w T g2) y (a.eval x) c0:=(bm.frame (ρ':=gr w T) (λ_ _=>rfl) (λ_ h=>h) (λ_ _ h=>h.1) λ_ _=>rfl).bo aA;have na:=im.s7 (d:=d) (x:=y) (v:=a.eval x) (F:=c0) bb (by rw [<- bk,b1]; exact dW.lt jD) (.tree jC) (λ_ _ h=>h.elim) (λ_ h=>h.elim) (by rintro z p n m new rfl; exact jC.k_.elim);have iq:(execOp a.eval o).run P w=.ok (.value (a.eval x)) w:=by simp [execOp,bj]
  unfold Oper.wp Oper.upon;simp only [iq];refine eJ _ _ ⟨by rw [aZ]; rfl,by rw [aZ]; exact h5.put jD _ _,I,_,by rw [aZ]; simpa [Act.put,bk] using na,⟨Fr.refl _ _,λ_ h=>h,λ_ h=>.inl h,λc ae=>?_⟩⟩ λt aG=>by rw [aZ]; simp only [Act.put]; rw [Array.getElem?_setIfInBounds_ne]; rintro rfl; exact aG aZ
  rcases uT ae with ⟨t,_,aU⟩ | aU
  ·exact .inl ⟨t,aU⟩
  ·exact aU.elim
 | @store t ad val p k z n y kj y' nd cs cs' g1 _ bj aZ f' sU aG qa ae aO aH gv hk bf CZ zZ l8 mD =>
  have oF:=la h sU bk;obtain ⟨⟨u,Wn,hu,tP,p'⟩,_⟩:=(la h f' bk).ni;obtain ⟨gp,H0,rL,tO,FY⟩:=aG.sound h.mj (Hand.one oF);have zP:dn kj:=aG.Aw kj (by simp);obtain ⟨I',r_,oE,FH,jf,iJ,Tl⟩:=KK rL tO zP qa;have mz:dn y':=qa.bP zP;have gQ:∀ c,H0 0 c->∃ t,Fs t c:=λc ae=>by
   rcases FY c (.inr ⟨0,by simp,ae⟩) with gO | ⟨_,_,gO⟩
   ·exact gO
   ·exact gO.elim
  have hs:∀ c,lg gp 1 (λ_=>r_) c->lg Fs [y].length (λ_=>c0) c:=by
   rintro c (⟨t,ae⟩ | ⟨_,_,ae⟩)
   ·exact FY c (.inl ⟨t,ae⟩)
   ·exact .inl (gQ c (Tl c ae))
  obtain ⟨wS,KZ,zI,hd,RF⟩:=iJ.cells mz ae;have k_:∀ z q n m new,nd≠.bY z q n m new:=by rcases gv with rfl | rfl <;> simp
  obtain ⟨v,cR,hv,eb,dS,_⟩:=jf.part aH k_;rw [hu] at hv;cases hv;obtain ⟨b,gJ,aJ,_⟩:=eb.node gv (List.getElem?_eq_getElem (show k<cs.length by omega));rw [tP] at aJ;cases aJ;have lq:∃ e arr,w.heap[b]?=some (.cells arr e (0,0))/\cs.length<=arr.size:=by
   rcases gv with rfl | rfl
   ·cases eb with
    | ref J=>simp [aj.isRef] at J
    | own oJ aq =>
     obtain ⟨mE,ca⟩:=oJ;rcases ca with ⟨rfl,_⟩ | ⟨iW,cap,cur,rfl,_,fR,uF,r0,uG,s9⟩
     ·simp [addrOf] at tP
     ·simp only [addrOf,Option.some.injEq,Addr.mk.injEq,and_true] at tP;subst tP;refine ⟨_,cur,fR,?_⟩;rw [aq,<- s9,List.length_take]; simp; omega
   ·cases eb with
    | ref J=>simp [aj.isRef] at J
    | obj oJ aq =>
     simp only [addrOf,Option.some.injEq,Addr.mk.injEq,and_true] at tP;subst tP;exact ⟨_,_,oJ,by omega⟩
  obtain ⟨e,arr,lq,hle⟩:=lq;obtain ⟨jd,im,gT⟩:=jf.store aH gv hk KZ zI hd CZ zZ l8 mD hu tP lq;have hG:(a.eval val).cells.toList.length=cs'.length:=KZ.len.symm;have cp:=run_storeCells_at P b k e (a.eval val).cells.toList 0 arr w lq (by omega) (λu hu=>by
   obtain ⟨af,aa,rfl⟩:=List.mem_iff_getElem.1 hu;exact hd af _ (List.getElem?_eq_getElem aa))
  simp only [Nat.add_zero] at cp;have gy:(sizeOf t).run P w=.ok cs'.length w:=by
   unfold gz at aO;cases hi:P.info? t with
   | none=>simp [hi] at aO
   | some i=>simp [hi] at aO; simp [sizeOf,typeInfo,hi,aO]
  have iq:(execOp a.eval o).run P w=.ok .skip (w.setRow b (fM arr.toList k (a.eval val).cells.toList).toArray):=by
   have hI:(a.eval val).cells.size=cs'.length:=by rw [<- Array.length_toList]; exact hG
   simp only [Nat.zero_add] at p';simp [execOp,bj,p',Instr.storeAt,Instr.sureAddr,storeVar,gy,hI,cp,fM]
  unfold Oper.wp Oper.upon;simp only [iq];have F4:∃ t,Fs t b:=by
   rcases hs b (.inl ⟨_,dS b (eb.DB gv (ad:=⟨b,0,none⟩) tP)⟩) with aU | ⟨_,_,aU⟩
   ·exact aU
   ·exact aU.elim
  refine eJ _ _ ⟨by rw [aZ]; rfl,by rw [aZ]; exact h5.refl,I',jd,by rw [aZ]; simpa [Act.put,bk] using im,⟨⟨rfl,rfl,rfl,by simp,λc _ ae=>setRow_other w b c _ (λe=>ae (e ▸ F4)),λa _=>Fv w b _ a,Nat.le_refl _⟩,oE,λc ae=>(FH c ae).elim .inl λh=>.inr (.inl (gQ c h)),λc ⟨t,ae⟩=>?_⟩⟩ λt _=>by rw [aZ]; rfl
  rcases gT t c ae with aU | ⟨af,aa,aU⟩
  ·rcases hs c (.inl ⟨t,aU⟩) with gO | ⟨_,_,gO⟩
   ·exact .inl gO
   ·exact gO.elim
  ·rcases hs c (.inr ⟨0,by simp,RF af c aa aU⟩) with gO | ⟨_,_,gO⟩
   ·exact .inl gO
   ·exact gO.elim
theorem cc.sound (h:dd w I T g Fs) {a:Act}(bk:a.tmps=T) {N:dW}(b1:a.tmps.size=N.size) {o:Oper}{g':a7}(he:cc P N g o g') {K:Act->World->Prop}{Q:Exit->Act->World->Prop}
  (eJ:∀ cJ w',il N a w I Fs g' cJ w'->K cJ w'):o.wp P a w K Q:=he.mY w I T Fs h a bk b1 K Q λcJ w' h _=>eJ cJ w' h
end
end Go.Own
namespace Go.Own
open Go
def nR (g g':a7):Prop:=∀ t x,g t=some x->g' t=some x
section
variable {P:Program}{g g':a7}
theorem fr (h:nR g g') {x:Operand}{y:aj}(aA:bT g x=some y):bT g' x=some y:=by
 cases x <;> simp only [bT] at aA ⊢
 case tmp t =>
  cases J:g t with
  | none=>rw [J] at aA; cases aA
  | some z=>rw [J] at aA; rw [h t z J]; exact aA
 case const v=>exact aA
 case global n=>exact aA
 case func f=>exact aA
theorem x1 (h:nR g g'):∀ {xs:List Operand}{ys:List aj},iN g xs=some ys->iN g' xs=some ys
 | [],_,aA=>aA
 | x::xs,ys,aA=>by
  simp only [iN] at aA ⊢;cases J:bT g x with
  | none=>simp [J] at aA
  | some y =>
   cases qY:iN g xs with
   | none=>simp [J,qY] at aA
   | some BE=>simp only [J,qY] at aA; simp only [fr h J,x1 h qY]; exact aA
theorem MB (h:nR g g'):∀ {l:List (Nat × Operand)}{ps:List (Nat × List aj)},q5 g l=some ps->q5 g' l=some ps
 | [],_,aA=>aA
 | (i,x)::l,ps,aA=>by
  simp only [q5] at aA ⊢;cases J:bT g x with
  | none=>simp [J] at aA
  | some y =>
   cases qY:q5 g l with
   | none=>simp [J,qY] at aA
   | some BE=>simp only [J,qY] at aA; simp only [fr h J,MB h qY]; exact aA
theorem o6.mono (h:nR g g') {d:Nat}{x:Option Operand}{af:Nat}(aJ:o6 g d x af):o6 g' d x af:=by
 cases x with
 | none=>exact aJ
 | some o=>obtain ⟨k,hk⟩:=aJ; exact ⟨k,fr h hk⟩
theorem dB.mono (h:nR g g') {op:Op}{ty:TypeId}{x:aj}(aH:dB P g op ty x):dB P g' op ty x:=by
 cases aH with
 | move J=>exact .move (fr h J)
 | assign J=>exact .assign (fr h J)
 | pick ae ax=>exact .pick (fr h ae) (fr h ax)
 | DA J=>exact .DA (fr h J)
 | pK J=>exact .pK (fr h J)
 | zo J bp e8=>exact .zo (fr h J) bp (e8.mono h)
 | CH J bp=>exact .CH (fr h J) bp
 | CG J bp aG aA=>exact .CG (fr h J) bp aG aA
 | Fp J bp aG hk=>exact .Fp (fr h J) bp aG hk
 | Di J hi aG aa=>exact .Di (fr h J) (fr h hi) aG aa
 | Dh J hi aG aa e8=>exact .Dh (fr h J) (fr h hi) aG aa (e8.mono h)
 | Hd J hi aG aa e8=>exact .Hd (fr h J) (fr h hi) aG aa (e8.mono h)
 | Hc J hi aG aa e8=>exact .Hc (fr h J) (fr h hi) aG aa (e8.mono h)
 | Hb J hi aG aa=>exact .Hb (fr h J) (fr h hi) aG aa
 | Dv J aG=>exact .Dv (fr h J) aG
 | Dw J aG hk=>exact .Dw (fr h J) aG hk
 | An J aG aA=>exact .An (fr h J) aG (kE h aA)
 | vT J aG aA ae hm=>exact .vT (fr h J) aG (kE h aA) ae hm
 | Dj J hi aG aJ=>exact .Dj (fr h J) (fr h hi) aG aJ
 | bin J aA hv ax=>exact .bin (fr h J) (fr h aA) hv ax
 | yT J aA hv ax=>exact .yT (fr h J) (fr h aA) hv ax
 | un J hv ax=>exact .un (fr h J) hv ax
 | conv J hv ax=>exact .conv (fr h J) hv ax
 | Cr J aH aP hI aG=>exact .Cr (fr h J) (kE h aH) aP hI aG
 | Cs J aG=>exact .Cs (fr h J) aG
 | @Fk xs iF _ f vs v J hv ax =>
  refine .Fk (vs:=vs) ?_ hv ax;apply List.ext_getElem?;intro k;have:=congrArg (·[k]?) J;simp only [List.getElem?_map] at this ⊢;rw [<- this];cases hk:xs.toList[k]? with
  | none=>rfl
  | some o =>
   rw [hk] at this;cases hv:vs[k]? with
   | none=>rw [hv] at this; cases this
   | some v =>
    rw [hv] at this;simp only [Option.map_some,Option.some.injEq] at this ⊢;rw [this,fr h this]
 | Cw J aA=>exact .Cw (fr h J) aA
 | Bt J aq ca aG h1 al=>exact .Bt (fr h J) (aq.mono h) (ca.mono h) aG h1 al
 | D4 J aq ca aG aP e8=>exact .D4 (fr h J) (aq.mono h) (ca.mono h) aG aP (e8.mono h)
 | D3 J aq ca aG h1 al e8=>exact .D3 (fr h J) (aq.mono h) (ca.mono h) aG h1 al (e8.mono h)
 | Bu J aq ca aG h1 al=>exact .Bu (fr h J) (aq.mono h) (ca.mono h) aG h1 al
 | Al J aG=>exact .Al (fr h J) aG
 | Ak J aG=>exact .Ak (fr h J) aG
 | Hw J aG=>exact .Hw (fr h J) aG
 | Hv J aG=>exact .Hv (fr h J) aG
 | Hx J aH aA eJ bm ax=>exact .Hx (fr h J) (kE h aH) (fr h aA) eJ bm ax
 | Am J aA eJ bm ax=>exact .Am (fr h J) (fr h aA) eJ bm ax
 | @lits b xs iF _ vs v J hv ax =>
  refine .lits (vs:=vs) ?_ hv ax;clear ax;generalize xs.toList=l at J
  induction l generalizing vs with
  | nil=>exact J
  | cons x l aR =>
   cases vs with
   | nil=>simp at J
   | cons v vs =>
    simp only [List.map_cons,List.cons.injEq] at J ⊢;exact ⟨fr h J.1,aR J.2⟩
theorem o8.mono (h:nR g g') {op:Op}{ty:TypeId}{x:aj}(aH:o8 P g op ty x):o8 P g' op ty x:=by
 cases aH with
 | box J ae=>exact .box (fr h J) ae
 | alloc bH h1=>exact .alloc bH h1
 | makeMap bW=>exact .makeMap bW
 | buildSlice aG aH J bH ae aJ aP hzero=>exact .buildSlice aG aH (x1 h J) bH ae aJ aP hzero
 | makeSlice aG J aA hzero h1 n9 aJ aP oH s0 Dg=>exact .makeSlice aG (fr h J) (fr h aA) hzero h1 n9 aJ aP oH s0 Dg
theorem tt.mono (h:nR g g') {op:Op}{ty:TypeId}{x:aj}(aH:tt P g op ty x):tt P g' op ty x:=by
 cases aH with
 | build aG bH h1 aH ae=>exact .build aG bH h1 (MB h aH) ae
 | makeFunc bk aJ=>exact .makeFunc (x1 h bk) (x1 h aJ)
theorem Src.mono (h:nR g g') {y:aj}{z m:Nat}{cells:List aj}(aO:Src g y z m cells):Src g' y z m cells:=by
 cases aO with
 | aD=>exact .aD
 | aF=>exact .aF
 | bh bW hm=>exact .bh (kE h bW) hm
 | sub bW hm=>exact .sub (kE h bW) hm
theorem dI.mono (h:nR g g') {op:Op}{ty:TypeId}{x:aj}(aH:dI P g op ty x) (hc:∀ z p n m new,x=.bY z p n m new->∀ t cN c5 cb ds,g' t≠some (.bY cN p c5 cb ds)):dI P g' op ty x:=by
 cases aH with
 | fl aH=>exact .fl (aH.mono h)
 | q4 aH=>exact .q4 (aH.mono h)
 | DG aH=>exact .DG (aH.mono h)
 | lB aH =>
  cases aH with
  | grow aO e8 _ J qS aG p7 aJ=>exact .lB (.grow (fr h aO) (e8.mono h) (hc _ _ _ _ _ rfl) (fr h J) (qS.mono h) aG p7 aJ)
  | nil aO J qS aG p7 aJ=>exact .lB (.nil (fr h aO) (fr h J) (qS.mono h) aG p7 aJ)
theorem View.mono (h:nR g g') {x y:aj}(hv:View g x y):View g' x y:=by
 induction hv with
 | pK=>exact .pK
 | self h1 al aS b7 dv eC=>exact .self h1 al aS b7 dv eC
 | mp=>exact .mp
 | i' aH=>exact .i' (kE h aH)
 | agg aq _ aR=>exact .agg aq aR
 | own aq _ aR=>exact .own aq aR
 | obj aq _ aR=>exact .obj aq aR
 | eB aq _ aR=>exact .eB aq aR
 | bh aH aP aq _ aR=>exact .bh (kE h aH) aP aq aR
 | sub aH aP aq _ aR=>exact .sub (kE h aH) aP aq aR
 | ptr aH aA hk aq _ aR=>exact .ptr (kE h aH) aA hk aq aR
 | rows aH aq _ aR=>exact .rows (aH.mono (λaH=>kE h aH) h) aq aR
theorem ct.mono (h:nR g g') {op:Op}{x:aj}(aH:ct P g op x):ct P g' op x:=by
 cases aH with
 | plain ae J bp aP jj ax=>exact .plain (fr h ae) (x1 h J) bp aP jj ax
 | Du ae J bp aq hv jj ax=>exact .Du (fr h ae) (x1 h J) bp aq (λk x y J aA=>(hv k x y J aA).mono h) jj ax
def iU (g:a7) (ops:Array Oper) (o:Oper) (b:Bool):Prop :=
 match o.guard with
 | none=>b=true
 | some (af,want)=>∃ t,(ops[af]?).bind (·.dst)=some t/\((∃ c,g t=some (.lit (.bool c))/\b=(c == want))\/(g t=some (.cA [])/\b=false))
theorem iU.mono (h:nR g g') {ops:Array Oper}{o:Oper}{b:Bool}(hw:iU g ops o b):iU g' ops o b:=by
 unfold iU at *;split
 ·rename_i bb; rw [bb] at hw; exact hw
 ·rename_i af want bb;rw [bb] at hw;obtain ⟨t,h1,⟨c,al,aS⟩ | ⟨al,aS⟩⟩:=hw
  ·exact ⟨t,h1,.inl ⟨c,h t _ al,aS⟩⟩
  ·exact ⟨t,h1,.inr ⟨h t _ al,aS⟩⟩
theorem iU.sound {w:World}{I:bu}{T:Array Value}{Fs:Nat->bu}(b5:dd w I T g Fs) {ops:Array Oper}{o:Oper}{b:Bool}(hw:iU g ops o b):Region.wanted o (yielded ops T)=b:=by
 unfold iU at hw;unfold Region.wanted
 split at hw
 ·rename_i bb; rw [bb]; exact hw.symm
 ·rename_i af want bb;rw [bb];obtain ⟨t,h1,⟨c,al,aS⟩ | ⟨al,aS⟩⟩:=hw
  ·obtain ⟨v,hv,bm⟩:=b5.rel _ _ al;have:=(bm.h9 (by simp)).iu.1;subst this;subst aS;simp only [yielded,h1,Option.bind_some,hv];cases c <;> cases want <;> rfl
  ·obtain ⟨v,hv,bm⟩:=b5.rel _ _ al;have:∃ vs,v=.tuple vs:=by
    cases bm.h9 (by simp) with
    | cA=>exact ⟨_,rfl⟩
    | ref J=>simp [aj.isRef] at J
   obtain ⟨vs,rfl⟩:=this;subst aS;simp only [yielded,h1,Option.bind_some,hv];cases want <;> rfl
def pa (P:Program) (g:a7) (ops:Array Oper) (o:Oper):Option aj->Prop
 | none=>iU g ops o false
 | some x=>(iU g ops o true/\(dI P g o.op o.type x\/ct P g o.op x))\/(iU g ops o false/\x=.cA [])\/(iU g ops o true/\∃ y,(dI P g o.op o.type y\/ct P g o.op y)/\dn y/\View (λ_=>none) y x)
theorem pa.mono (h:nR g g') {ops:Array Oper}{o:Oper}{r:Option aj}(aO:pa P g ops o r) (hc:∀ z p n m new,r=some (.bY z p n m new)->∀ t cN c5 cb ds,g' t≠some (.bY cN p c5 cb ds)):pa P g' ops o r:=by
 cases r with
 | none=>exact iU.mono h aO
 | some x =>
  rcases aO with aO | ⟨aO,J⟩ | ⟨aO,y,aH,aP,hv⟩
  ·refine .inl ⟨aO.1.mono h,?_⟩;rcases aO.2 with aH | aH
   ·exact .inl (aH.mono h λz p n m new e=>hc z p n m new (by rw [e]))
   ·exact .inr (aH.mono h)
  ·exact .inr (.inl ⟨aO.mono h,J⟩)
  ·refine .inr (.inr ⟨aO.mono h,y,?_,aP,hv⟩);rcases aH with aH | aH
   ·exact .inl (aH.mono h λz p n m new e=>by subst e; cases aP)
   ·exact .inr (aH.mono h)
def leaf:aj->Bool
 | .own .. | .obj .. | .agg .. | .cA .. | .bY .. | .mp ..=>false
 | _=>true
def del (g:a7) (d:Nat):a7:=λt=>if t=d then none else g t
theorem Up {x y:aj}(h:leaf x=true):∀ {q:List Nat},x.at q=some y->y=x
 | [],aA=>by simpa [aj.at] using aA.symm
 | k::q,aA=>by
  have:x.kids=[]:=by cases x <;> first | rfl | simp [leaf] at h
  simp [aj.at,this] at aA
theorem w8 {d:Nat}{x:aj}(aZ:g d=some x) (aq:leaf x=true) {p:Place}{y:aj}(aH:cd g p=some y) (aA:leaf y=false):cd (del g d) p=some y:=by
 have ax:p.root≠d:=by
  intro e;unfold cd at aH;rw [e,aZ] at aH;rw [Up aq aH,aq] at aA;cases aA
 simp only [cd,del,if_neg ax] at aH ⊢;exact aH
theorem hq.del {d:Nat}{x:aj}(aZ:g d=some x) (aq:leaf x=true) {r:aj}(h:hq g r):hq (del g d) r:=by
 have root:∀ {t:Nat}{y:aj},g t=some y->leaf y=false->Own.del g d t=some y:=by
  intro t y aG aA;have:t≠d:=by
   rintro rfl;rw [aZ] at aG;cases aG;rw [aq] at aA; cases aA
  simp only [Own.del,if_neg this,aG]
 cases r <;> simp only [hq] at h ⊢
 case ptr p k =>
  obtain ⟨y,aA,z,n,cs,eM,hk⟩:=h;exact ⟨y,w8 aZ aq aA (by rcases eM with rfl | rfl <;> rfl),z,n,cs,eM,hk⟩
 case bh z p n =>
  rcases h with ⟨N,cs,aA,aP⟩ | ⟨h1,q,hB,m,new,al,aS⟩
  ·exact .inl ⟨N,cs,w8 aZ aq aA rfl,aP⟩
  ·exact .inr ⟨h1,q,hB,m,new,root al rfl,aS⟩
 case sub z p lo n =>
  obtain ⟨N,cs,aA,aP⟩:=h;exact ⟨N,cs,w8 aZ aq aA rfl,aP⟩
 case i' p=>obtain ⟨q,h⟩:=h; exact ⟨q,w8 aZ aq h rfl⟩
 case bY z p n m new =>
  rcases h with ⟨cs,aA⟩ | ⟨h1,q,hB,m,new,cs,al,aS,b7⟩
  ·exact .inl ⟨cs,w8 aZ aq aA rfl⟩
  ·exact .inr ⟨h1,q,hB,m,new,cs,root al rfl,aS,w8 aZ aq b7 rfl⟩
theorem R.Uo {w:World}{I:bu}{ρ:aj->Value->Prop}{x:aj}{v:Value}{F:bu}(h:R w I ρ x v F) (aq:leaf x=true):∀ c,¬ F c:=by
 cases h with
 | own | obj | agg | cA | mp=>simp [leaf] at aq
 | lit _ aQ | aF aQ | dead aQ | ref _ _ aQ | hW aQ | aD aQ | bn aQ | eB aQ | imp aQ=>exact aQ
theorem dd.drop {w:World}{I:bu}{T:Array Value}{Fs:Nat->bu}(h:dd w I T g Fs) {d:Nat}{x:aj}(aZ:g d=some x) (aq:leaf x=true):dd w I T (del g d) Fs:=by
 refine ⟨λt y aA=>?_,λt aG c ae=>?_,h.fi,h.aD,h.lt,λt dD z p n m new cN c5 cb ds h1 al=>?_⟩
 ·have mH:g t=some y:=by
   unfold del at aA
   split at aA
   ·cases aA
   ·exact aA
  obtain ⟨v,hv,bm⟩:=h.rel t y mH;exact ⟨v,hv,bm.frame (λ_ _=>rfl) (λ_ h=>h) (λ_ _ ax=>⟨ax.1,ax.2.del aZ aq⟩) (λ_ _ _ _ _ _ _=>rfl) λ_ _=>rfl⟩
 ·unfold del at aG
  split at aG
  ·rename_i e;subst e;obtain ⟨v,hv,bm⟩:=h.rel t x aZ;exact (bm.h9 (by rintro z p n m new rfl; simp [leaf] at aq)).Uo aq c ae
  ·exact h.kL t aG c ae
 ·have key:∀ {t:Nat}{y:aj},del g d t=some y->g t=some y:=by
   intro t y aA;unfold del at aA
   split at aA
   ·cases aA
   ·exact aA
  exact h.qj _ _ _ _ _ _ _ _ _ _ _ (key h1) (key al)
end
end Go.Own
namespace Go.Own
open Go
def wj (g:a7) (d:Nat):Option aj->a7
 | some x=>fc g d x
 | none=>g
section
variable {P:Program}{w:World}{I:bu}{T:Array Value}{g:a7}{Fs:Nat->bu}{N:dW}{ops:Array Oper}
theorem kW.refl (w:World) (I U:bu):kW w I U w I U:=⟨Fr.refl _ _,λ_ h=>h,λ_ h=>.inl h,λ_ h=>.inl h⟩
theorem kW.trans {w jH iw:World}{I yH BQ U w1 I_:bu}(h:kW w I U jH yH w1) (h1:kW jH yH w1 iw BQ I_):kW w I U iw BQ I_:=by
 have lO:∀ c,c<w.heap.size->w1 c->U c:=λc ae hu=>by
  rcases h.own c hu with aU | aU
  ·exact aU
  ·omega
 refine ⟨h.fI.trans h1.fI lO,λc ae=>h1.more c (h.more c ae),λc ae=>?_,λc ae=>?_⟩
 ·rcases h1.new c ae with aU | aU | aU
  ·exact h.new c aU
  ·rcases h.own c aU with gO | gO
   ·exact .inr (.inl gO)
   ·exact .inr (.inr gO)
  ·exact .inr (.inr (Nat.le_trans h.fI.size aU))
 ·rcases h1.own c ae with aU | aU
  ·exact h.own c aU
  ·exact .inr (Nat.le_trans h.fI.size aU)
theorem il.trans {N:dW}{a ar a2:Act}{jH iw:World}{yH:bu}{gp:Nat->bu}{g2:a7}(h1:ar.defers=a.defers) (al:h5 N a.tmps ar.tmps) (cp:kW w I (λc=>∃ t,Fs t c) jH yH (λc=>∃ t,gp t c)) (h:il N ar jH yH gp g2 a2 iw):il N a w I Fs g2 a2 iw:=by
 obtain ⟨dz,de,BQ,jd,b5,nz⟩:=h;exact ⟨dz.trans h1,al.trans de,BQ,jd,b5,cp.trans nz⟩
theorem dd.U0 (h:dd w I T g Fs) {d:Nat}(aZ:g d=none) (v:Value):dd w I (T.setIfInBounds d v) g Fs:=by
 have fO:∀ t,g t≠none->(T.setIfInBounds d v)[t]?=T[t]?:=by
  intro t aG;rw [Array.getElem?_setIfInBounds_ne];rintro rfl; exact aG aZ
 refine ⟨λt x J=>?_,h.kL,h.fi,h.aD,h.lt,h.qj⟩;obtain ⟨u,hu,bm⟩:=h.rel t x J;exact ⟨u,by rw [fO t (by rw [J]; simp)]; exact hu,h.vn fO (λ_ _ _=>rfl) (λ_ _=>rfl) (λ_ h=>h) (λ_ _ h=>h) bm λ_ _=>rfl⟩
structure Es (e7:Nat->Bool) (g g2:a7):Prop where
 lO:∀ t x,g2 t=some x->e7 t=false->g t=some x/\e' g2 x
 qZ:∀ t x,g2 t=some x->e7 t=true->∃ y,g t=some y/\dn y/\jK y x
 fZ:∀ t z q n m new,g2 t≠some (.bY z q n m new)
theorem dd.tJ (h:dd w I T g Fs) {e7:Nat->Bool}{g2:a7}(bH:Es e7 g g2):∃ I' cB,dd w I' T g2 cB/\kW w I (λc=>∃ t,Fs t c) w I' (λc=>∃ t,cB t c):=by
 have CO:=h.mj;have Av:∀ t x,g2 t=some x->∀ z p n m new,x≠.bY z p n m new:=by
  rintro t x J z p n m new rfl;exact bH.fZ _ _ _ _ _ _ J
 -- of each slot what it owns from now on
 have:∀ t,∃ gg:bu,(∀ c,gg c->Fs t c/\g2 t≠none)/\∀ x,g2 t=some x->(e7 t=false->∀ c,Fs t c->gg c)/\∃ v,T[t]?=some v/\R w (λc=>I c\/(Fs t c/\¬ gg c)) (eG w T g2) x v gg:=by
  intro t;cases J:g2 t with
  | none=>exact ⟨c0,λ_ h=>h.elim,λx h=>by cases h⟩
  | some x =>
   cases aG:e7 t with
   | false =>
    obtain ⟨h1,al⟩:=bH.lO t x J aG;obtain ⟨v,hv,bm⟩:=CO.rel t x h1;refine ⟨Fs t,λc ae=>⟨ae,by simp⟩,λy aA=>?_⟩;cases aA;exact ⟨λ_ _ h=>h,v,hv,((bm.h9 (Av t x J)).bo al).nm λc ae=>.inl ae⟩
   | true =>
    obtain ⟨y,h1,al,aS⟩:=bH.qZ t x J aG;obtain ⟨v,hv,bm⟩:=CO.rel t y h1;have jC:=bm.h9 (by rintro z p n m new rfl; cases al);obtain ⟨gg,aO,RR⟩:=R.e7 aS jC al (λc ae=>CO.aD t c ae) CO.lt;refine ⟨gg,λc ae=>⟨aO c ae,by simp⟩,λz bH=>?_⟩;cases bH;exact ⟨λh=>absurd h (by simp),v,hv,RR.bP (aS.bP al)⟩
 obtain ⟨cB,jB⟩:=Classical.axiomOfChoice this;refine ⟨λc=>I c\/∃ t,Fs t c/\g2 t≠none/\¬ cB t c,cB,⟨λt x J=>?_,λt aG c ae=>((jB t).1 c ae).2 aG,λt dD c ae fz=>h.fi t dD c ((jB t).1 c ae).1 ((jB dD).1 c fz).1,λt c ae hi=>?_,λc ae=>?_,λt dD z p n m new cN c5 cb ds h1 _=>absurd h1 (bH.fZ _ _ _ _ _ _)⟩,Fr.refl _ _,λ_ h=>.inl h,λc ae=>?_,λc ⟨t,ae⟩=>.inl ⟨t,((jB t).1 c ae).1⟩⟩
 ·obtain ⟨_,v,hv,bm⟩:=(jB t).2 x J;exact ⟨v,hv,.tree (bm.nm λc ae=>ae.elim .inl λae=>.inr ⟨t,ae.1,by rw [J]; simp,ae.2⟩)⟩
 ·rcases hi with aU | ⟨s,h1,_,al⟩
  ·exact h.aD t c ((jB t).1 c ae).1 aU
  ·have:=h.fi t s c ((jB t).1 c ae).1 h1;subst this;exact al ae
 ·rcases ae with aU | ⟨s,aU,_⟩
  ·exact h.lt c aU
  ·exact h.j3 s c aU
 ·rcases ae with aU | ⟨s,aU,_⟩
  ·exact .inl aU
  ·exact .inr (.inl ⟨s,aU⟩)
theorem pa.sound (h:dd w I T g Fs) {a:Act}(bk:a.tmps=T) (b1:a.tmps.size=N.size) {o:Oper}{r:Option aj}{d:Nat}(aO:pa P g ops o r) (aZ:o.dst=some d) (bb:g d=none) (jD:N.ok d=true) {K:Act->World->Prop}{Q:Exit->Act->World->Prop}
  (eJ:∀ cJ w',il N a w I Fs (wj g d r) cJ w'->K cJ w') :
  if Region.wanted o (yielded ops a.tmps) then o.wp P a w K Q\/(o.asks P a w/\LetsOut Q) else K (a.put o.dst undef) w:=by
 subst bk;cases r with
 | none =>
  rw [iU.sound h aO];simp only [Bool.false_eq_true,if_false];refine eJ _ _ ⟨by rw [aZ]; rfl,by rw [aZ]; exact h5.put jD _ _,I,Fs,by rw [aZ]; exact h.U0 bb _,kW.refl _ _ _⟩
 | some x =>
  have fin:∀ x v w',tp w I a.tmps g Fs x v w'->(∀ cJ w',il N a w I Fs (fc g d x) cJ w'->K cJ w')->K (a.put o.dst v) w':=by
   rintro x v w' ⟨F,I',b5,bm,h1,al,aS,b7,dv,eC⟩ eJ;refine eJ _ _ ⟨by rw [aZ]; rfl,by rw [aZ]; exact h5.put jD _ _,I',_,by rw [aZ]; exact b5.s7 bb (by rw [b1]; exact dW.lt jD) bm (λt c ae bp=>h1 t c ae bp) (λc ae=>(al c ae).2) eC,⟨dv,aS,λc ae=>?_,λc ae=>?_⟩⟩
   ·rcases b7 c ae with aU | aU
    ·exact .inl aU
    ·exact .inr (.inr aU)
   ·rcases uT ae with aU | aU
    ·exact .inl aU
    ·exact .inr (al c aU).1
  have qZ:∀ y v w',dn y->View (λ_=>none) y x->tp w I a.tmps g Fs y v w'->tp w I a.tmps g Fs x v w':=by
   rintro y v w' aP hv ⟨F,I',b5,bm,h1,al,aS,b7,dv,eC⟩;have eb:=bm.h9 (by rintro z p n m new rfl; cases aP);refine ⟨c0,λc=>I' c\/F c,⟨λt z bH=>?_,b5.kL,b5.fi,λt c ae hi=>?_,λc ae=>?_,b5.qj⟩,.tree (eb.qZ aP hv (λc ae=>(al c ae).2) b5.lt),λ_ _ h=>h.elim,λ_ h=>h.elim,λc ae=>.inl (aS c ae),λc ae=>?_,dv,?_⟩
   ·obtain ⟨u,hu,mu⟩:=b5.rel t z bH;exact ⟨u,hu,mu.nm λc ae=>.inl ae⟩
   ·rcases hi with h | h
    ·exact b5.aD t c ae h
    ·exact h1 t c h ae
   ·rcases ae with h | h
    ·exact b5.lt c h
    ·exact eb.lt c h
   ·rcases ae with h | h
    ·exact b7 c h
    ·exact .inr (al c h).1
   ·rintro z p n m new rfl;cases hv with
    | self h=>cases h
  rcases aO with aO | ⟨aO,rfl⟩ | ⟨aO,y,aH,aP,hv⟩
  rotate_left
  rotate_left
  ·rw [iU.sound h aO];simp only [if_true];refine .inl ?_;have KI:∀ v w',tp w I a.tmps g Fs y v w'->K (a.put o.dst v) w':=λv w' eD=>fin x v w' (qZ y v w' aP hv eD) eJ;rcases aH with aH | aH
   ·obtain ⟨v,w',iq,eD⟩:=aH.sound h rfl;unfold Oper.wp Oper.upon;simp only [iq];exact KI v w' eD
   ·exact aH.sound h rfl KI
  rotate_left
  ·rw [iU.sound h aO];simp only [Bool.false_eq_true,if_false];refine eJ _ _ ⟨by rw [aZ]; rfl,by rw [aZ]; exact h5.put jD _ _,I,_,by rw [aZ]; exact h.s7 bb (by rw [b1]; exact dW.lt jD) (.tree (.cA (Fs:=λ_=>c0) (F:=c0) rfl (λk x u J _=>by simp at J) (λ_ _ _ _ _ h=>h.elim) (λc=>⟨λh=>h.elim,λ⟨_,_,h⟩=>h⟩))) (λ_ _ h=>h.elim) (λ_ h=>h.elim) (λ_ _ _ _ _ e=>by cases e),⟨Fr.refl _ _,λ_ h=>h,λ_ h=>.inl h,λc ae=>?_⟩⟩;rcases uT ae with aU | aU
   ·exact .inl aU
   ·exact aU.elim
  rw [iU.sound h aO.1];simp only [if_true];refine .inl ?_;have fin:∀ v w',tp w I a.tmps g Fs x v w'->K (a.put o.dst v) w':=by
   rintro v w' ⟨F,I',b5,bm,h1,al,aS,b7,dv,eC⟩;refine eJ _ _ ⟨by rw [aZ]; rfl,by rw [aZ]; exact h5.put jD _ _,I',_,by rw [aZ]; exact b5.s7 bb (by rw [b1]; exact dW.lt jD) bm (λt c ae bp=>h1 t c ae bp) (λc ae=>(al c ae).2) eC,⟨dv,aS,λc ae=>?_,λc ae=>?_⟩⟩
   ·rcases b7 c ae with aU | aU
    ·exact .inl aU
    ·exact .inr (.inr aU)
   ·rcases uT ae with aU | aU
    ·exact .inl aU
    ·exact .inr (al c aU).1
  rcases aO.2 with aH | aH
  ·obtain ⟨v,w',iq,eD⟩:=aH.sound h rfl;unfold Oper.wp Oper.upon;simp only [iq];exact fin v w' eD
  ·exact aH.sound h rfl fin
inductive nS (P:Program) (N:dW) (ops:Array Oper):List Nat->a7->a7->Prop
 | nil {g:a7}:nS P N ops [] g g
 | step {i:Nat}{rest:List Nat}{g g':a7}{o:Oper}{d:Nat}{r:Option aj}(bj:ops[i]?=some o) (aZ:o.dst=some d) (bb:g d=none) (jD:N.ok d=true) (aO:pa P g ops o r)
   (ax:nS P N ops rest (wj g d r) g'):nS P N ops (i::rest) g g'
 | mY {i:Nat}{rest:List Nat}{g g1 g':a7}{o:Oper}(bj:ops[i]?=some o) (hw:iU g ops o true) (he:cc P N g o g1) (ax:nS P N ops rest g1 g'):nS P N ops (i::rest) g g'
 | drop {is:List Nat}{g g':a7}{d:Nat}{x:aj}(aZ:g d=some x) (aq:leaf x=true) (ax:nS P N ops is (del g d) g'):nS P N ops is g g'
 | forget {is:List Nat}{g g1 g':a7}(hk:fN g g1) (ax:nS P N ops is g1 g'):nS P N ops is g g'
 | tJ {is:List Nat}{g g1 g':a7}{e7:Nat->Bool}(hk:Es e7 g g1) (ax:nS P N ops is g1 g'):nS P N ops is g g'
theorem nS.sound {is:List Nat}{g':a7}(ax:nS P N ops is g g'):∀ {a:Act}{w:World}{I:bu}{Fs:Nat->bu}{Q:Exit->Act->World->Prop},dd w I a.tmps g Fs->a.tmps.size=N.size ->
  (∀ cJ w',il N a w I Fs g' cJ w'->Q .normal cJ w')->wpOps P ops Q is a w:=by
 induction ax with
 | nil=>exact λb5 b1 ea=>ea _ _ ⟨rfl,h5.refl,_,_,b5,kW.refl _ _ _⟩
 | @step i rest g g' o d r bj aZ bb jD aO _ aR =>
  intro a w I Fs Q b5 b1 ea;simp only [wpOps,bj];refine aO.sound b5 rfl b1 aZ bb jD λcJ w' aP=>?_;obtain ⟨dz,de,I',cB,eO,cp⟩:=aP;exact aR eO (de.1.trans b1) λa2 iw al=>ea _ _ (il.trans dz de cp al)
 | @mY i rest g g1 g' o bj hw he _ aR =>
  intro a w I Fs Q b5 b1 ea;simp only [wpOps,bj,hw.sound b5,if_true];refine .inl (he.sound b5 rfl b1 λcJ w' aP=>?_);obtain ⟨dz,de,I',cB,eO,cp⟩:=aP;exact aR eO (de.1.trans b1) λa2 iw al=>ea _ _ (il.trans dz de cp al)
 | @drop is g g' d x aZ aq _ aR=>exact λb5 b1 ea=>aR (b5.drop aZ aq) b1 ea
 | @tJ is g g1 g' e7 hk _ aR =>
  intro a w I Fs Q b5 b1 ea;obtain ⟨I',cB,eO,cp⟩:=b5.tJ hk;exact aR eO b1 λa2 iw al=>ea _ _ (il.trans rfl h5.refl cp al)
 | @forget is g g1 g' hk _ aR =>
  intro a w I Fs Q b5 b1 ea;have eO:=b5.mj.keep hk;refine aR eO b1 λa2 iw al=>ea _ _ (il.trans rfl h5.refl ⟨Fr.refl _ _,λ_ h=>h,λ_ h=>.inl h,λc ae=>?_⟩ al);obtain ⟨t,_,ae⟩:=ae;exact .inl ⟨t,ae⟩
end
end Go.Own
namespace Go.Own
open Go
def q7 (rs:List Nat):Place->Prop:=λp=>p.root∈rs
def o7 (P:Program) (N:dW) (rs:Place->Prop) (g:a7) (o:Oper) (g':a7):Prop :=
 ∀ (w:World) (I:bu) (T:Array Value) (Fs:Nat->bu),dd w I T g Fs->∀ (a:Act),a.tmps=T->a.tmps.size=N.size->∀ (K:Act->World->Prop) (Q:Exit->Act->World->Prop),
  (∀ (cJ:Act) (w':World),il N a w I Fs g' cJ w'->(∀ t,o.dst≠some t->cJ.tmps[t]?=a.tmps[t]?)->(∀ r path,rs ⟨r,path⟩->∀ y,cd g ⟨r,path⟩=some y->(∀ z q n m new,y≠.bY z q n m new)->eI w' cJ.tmps ⟨r,path⟩=eI w T ⟨r,path⟩)->K cJ w')->o.wp P a w K Q
theorem kU.v {P:Program}{N:dW}{g g':a7}{o:Oper}(h:kU P N g o g'):o7 P N (q7 []) g o g' :=
 λw I T Fs b5 a bk b1 K Q eJ=>h w I T Fs b5 a bk b1 K Q λcJ w' h1 al=>eJ cJ w' h1 al λ_ _ h=>by simp [q7] at h
inductive o9:aj->Prop
 | lit {v:Value}:o9 (.lit v)
 | aF:o9 .aF
 | aD {z n:Nat}{cs:List aj}(h:∀ x∈cs,dn x):o9 (.aD z n cs)
 | agg {cs:List aj}(h:∀ x∈cs,o9 x):o9 (.agg cs)
theorem o9.bP {x:aj}(h:o9 x):dn x:=by
 induction h with
 | lit=>exact .lit
 | aF=>exact .aF
 | aD h=>exact .aD h
 | agg _ aR=>exact .agg aR
theorem o9.kL {w:World}{I:bu}{ρ:aj->Value->Prop}{x:aj}(h:o9 x):∀ {v:Value}{F:bu},R w I ρ x v F->∀ c,¬ F c:=by
 induction h with
 | lit =>
  intro v F bm;cases bm with
  | lit _ aQ=>exact aQ
  | ref J=>simp [aj.isRef] at J
 | aF =>
  intro v F bm;cases bm with
  | aF aQ=>exact aQ
  | ref J=>simp [aj.isRef] at J
 | aD =>
  intro v F bm;cases bm with
  | ref J=>simp [aj.isRef] at J
  | hW aQ=>exact aQ
  | aD aQ=>exact aQ
 | @agg cs _ aR =>
  intro v F bm c ae;cases bm with
  | ref J=>simp [aj.isRef] at J
  | @agg _ vs bR _ aq h1 ax aZ k4 =>
   obtain ⟨k,hk,al⟩:=(k4 c).1 ae;have hu:vs[k]?=some (vs[k]'(by omega)):=Array.getElem?_eq_getElem (by omega);exact aR _ (List.getElem_mem hk) (ax k _ _ (List.getElem?_eq_getElem hk) hu) c al
structure Eo (g:a7):Prop where
 bo:∀ t x,g t=some x->e' g x
 fZ:∀ t z q n m new,g t≠some (.bY z q n m new)
def yO (rs:Place->Prop) (g g1:a7) (o:Oper) (x:aj):Prop:=(∃ r path z n N cs,x=.bh z ⟨r,path⟩ n/\rs ⟨r,path⟩/\cd g ⟨r,path⟩=some (.own z N cs)/\cd g1 ⟨r,path⟩=some (.own z N cs)/\n<=N)\/(∃ v,x=.lit v)\/(∃ s p k,x=.ptr p k/\g s=some x/\g1 s=some x/\o.dst≠some s)\/(∃ r k cs,x=.ptr ⟨r,[]⟩ k/\g1 r=some (.obj cs)/\k<cs.length/\o.dst≠some r/\∃ cs',g r=some (.obj cs')/\k<cs'.length)\/(∃ z n cs,x=.aD z n cs/\dn x)\/(∃ cs,x=.agg cs/\o9 x/\Eo g)
section
variable {P:Program}{N:dW}{g g1:a7}{o:Oper}
theorem Ng {T:Array Value}{t:Nat}{v:Value}(h:T[t]?=some v):T.setIfInBounds t v=T:=by
 apply Array.ext (by simp);intro i h1 al;rw [Array.getElem_setIfInBounds];split
 ·rename_i e;subst e;have:=(Array.getElem?_eq_some_iff.1 h);exact this.2.symm
 ·rfl
theorem dd.Qs {w:World}{I:bu}{T:Array Value}{Fs:Nat->bu}{t:Nat}{x:aj}(h:dd w I T (fc g t x) Fs) (bb:g t=none) (ae:Eo g) (k3:∀ c,¬ Fs t c):dd w I T g Fs:=by
 have gT:∀ s y,g s=some y->fc g t x s=some y:=λs y aO=>by
  unfold fc;rw [if_neg (λe=>by rw [e,bb] at aO; cases aO)]; exact aO
 have al:=h.mj.keep (g2:=g) ⟨gT,ae.bo,ae.fZ⟩;have e:(λs c=>g s≠none/\Fs s c)=Fs:=by
  funext s c;apply propext;refine ⟨λh=>h.2,λbp=>⟨λaP=>?_,bp⟩⟩;by_cases aO:s=t
  ·subst aO; exact k3 c bp
  ·exact h.kL s (by unfold fc; rw [if_neg aO]; exact aP) c bp
 rw [e] at al;exact al
theorem o7.extra {rs:Place->Prop}(h:o7 P N rs g o g1) {t:Nat}{x:aj}(lK:∀ p,rs p->g p.root≠none) (bb:g t=none) (SG:g1 t=none) (aG:o.dst≠some t) (J:yO rs g g1 o x):o7 P N rs (fc g t x) o (fc g1 t x):=by
 intro w I T Fs b5 a bk b1 K Q eJ;have GM:fc g t x t=some x:=by simp [fc]
 have l8:∀ z q n m new,x≠.bY z q n m new:=by
  rcases J with ⟨r,path,z,n,N,cs,rfl,_⟩ | ⟨v,rfl⟩ | ⟨s,p,k,rfl,_⟩ | ⟨r,k,cs,rfl,_⟩ | ⟨z,n,cs,rfl,_⟩ | ⟨cs,rfl,_⟩ <;> simp
 have rL:dd w I T g Fs:=by
  have yU:leaf x=true->dd w I T g Fs:=λxG=>by
   have:=b5.drop GM xG;have e:del (fc g t x) t=g:=by
    funext s;unfold del fc;by_cases aO:s=t
    ·subst aO; simp [bb]
    ·simp [aO]
   rwa [e] at this
  rcases J with ⟨r,path,z,n,N,cs,rfl,_⟩ | ⟨v,rfl⟩ | ⟨s,p,k,rfl,_⟩ | ⟨r,k,cs,rfl,_⟩ | ⟨z,n,cs,rfl,_⟩ | ⟨cs,rfl,vy,hG⟩
  ·exact yU rfl
  ·exact yU rfl
  ·exact yU rfl
  ·exact yU rfl
  ·exact yU rfl
  ·obtain ⟨v,_,oF⟩:=b5.rel t _ GM;exact b5.Qs bb hG (vy.kL (oF.h9 (by simp)))
 obtain ⟨v,hv,oF⟩:=b5.rel t x GM;refine h w I T Fs rL a bk b1 K Q λcJ w' aP rR L4=>eJ cJ w' ?_ rR λr path ax y aA l8=>?_
 rotate_left
 ·by_cases LQ:r=t
  ·subst LQ;exact absurd bb (lK _ ax)
  ·exact L4 r path ax y (by simpa [cd,fc,LQ] using aA) l8
 obtain ⟨dz,de,I',cB,eO,cp⟩:=aP;have jk:cJ.tmps[t]?=some v:=by rw [rR t aG,bk]; exact hv
 have jC:jM w' I' (eG w' cJ.tmps g1) x v c0:=by
  rcases J with ⟨r,path,z,n,tr,cs,rfl,ax,xK,j0,S3⟩ | ⟨u,rfl⟩ | ⟨s,p,k,rfl,aO,GG,Tf⟩ | ⟨r,k,cs,rfl,j0,hk,zX,_⟩ | ⟨z,n,cs,rfl,mz⟩ | ⟨cs,rfl,vy,hG⟩
  ·obtain ⟨⟨ar,je,cap,gZ,rfl,lk⟩,_⟩:=(oF.h9 (by simp)).mI;exact .tree (.ref rfl ⟨⟨ar,je,cap,by rw [L4 r path ax _ xK (by simp)]; exact gZ,rfl,lk⟩,.inl ⟨tr,cs,j0,S3⟩⟩ λ_ h=>h)
  ·obtain ⟨rfl,ae⟩:=(oF.h9 (by simp)).iu;exact .tree (.lit ae λ_ h=>h)
  ·obtain ⟨⟨yy,ad,ar,a2,rfl⟩,_⟩:=(oF.h9 (by simp)).ni;have cp:s≠t:=by rintro rfl; rw [bb] at aO; cases aO
   obtain ⟨u,hu,mu⟩:=rL.rel s _ aO;obtain ⟨⟨XE,Wm,gZ,hD,rfl⟩,_⟩:=(mu.h9 (by simp)).ni;rw [ar] at gZ;cases gZ;rw [a2] at hD;cases hD;obtain ⟨td,fP,FQ⟩:=eO.rel s _ GG;have:cJ.tmps[s]?=T[s]?:=by rw [rR s Tf,bk]
   rw [this,hu] at fP;cases fP;exact .tree (.ref rfl (FQ.h9 (by simp)).ni λ_ h=>h)
  ·obtain ⟨⟨yy,ad,ar,a2,rfl⟩,_⟩:=(oF.h9 (by simp)).ni;have fO:cJ.tmps[r]?=T[r]?:=by rw [rR r zX,bk]
   have sU:∀ (w:World) (T:Array Value),eI w T ⟨r,[]⟩=T[r]?:=λw T=>by
    unfold eI; simp only; cases T[r]? <;> rfl
   exact .tree (.ref rfl ⟨⟨yy,ad,by rw [sU,fO,<- sU w T]; exact ar,a2,rfl⟩,⟨.obj cs,by simp [cd,j0,aj.at],0,0,cs,.inr rfl,hk⟩⟩ λ_ h=>h)
  ·have q8:∀ c,I c->w'.heap[c]?=w.heap[c]?:=λc ae=>cp.fI.block c (b5.lt c ae) λ⟨dD,aU⟩=>rL.aD dD c aU ae;have FN:=(oF.h9 (by simp)).bP mz (ρ':=eG w' cJ.tmps g1);have k3:∀ c,¬ Fs t c:=by
    cases oF.h9 (by simp) with
    | ref J=>simp [aj.isRef] at J
    | hW aQ=>exact aQ
    | aD aQ=>exact aQ
   exact .tree ((FN.frame q8 cp.more (λ_ _ h=>h) λc ae=>absurd ae (k3 c)).empty k3)
  ·have q8:∀ c,I c->w'.heap[c]?=w.heap[c]?:=λc ae=>cp.fI.block c (b5.lt c ae) λ⟨dD,aU⟩=>rL.aD dD c aU ae;have k3:=vy.kL (oF.h9 (by simp));have FN:=(oF.h9 (by simp)).bP vy.bP (ρ':=eG w' cJ.tmps g1);exact .tree ((FN.frame q8 cp.more (λ_ _ h=>h) λc ae=>absurd ae (k3 c)).empty k3)
 have na:=eO.s7 (d:=t) (x:=x) (v:=v) (F:=c0) SG (Array.getElem?_eq_some_iff.1 jk).1 jC (λ_ _ h=>h.elim) (λ_ h=>h.elim) (λz p n m new e=>absurd e (l8 _ _ _ _ _));rw [Ng jk] at na;refine ⟨dz,de,I',_,na,⟨cp.fI,cp.more,cp.new,λc ae=>?_⟩⟩;rcases uT ae with aU | aU
 ·exact cp.own c aU
 ·exact aU.elim
theorem kU.frame {g0 Fw:a7}{r:Nat}{x:aj}(h:kU P N g0 o Fw) (ax:g r=some x) (J:dn x) (hk:fN g g0) (bf:g0 r=none) (h1:Fw r=none) (aZ:o.dst≠some r):o7 P N (q7 [r]) g o (fc Fw r x):=by
 intro w I T Fs b5 a bk b1 K Q eJ;have rL:=b5.mj.keep hk;refine h w I T _ rL a bk b1 K Q λcJ w' aP rR=>?_;obtain ⟨dz,de,I',cB,eO,cp⟩:=aP;obtain ⟨u,hu,bm⟩:=b5.rel r x ax;have fP:cJ.tmps[r]?=some u:=by rw [rR r aZ,bk]; exact hu
 have l8:∀ z q n m new,x≠.bY z q n m new:=by rintro z q n m new rfl; cases J
 have off:∀ c,Fs r c->¬ ∃ t,(g0 t≠none/\Fs t c):=by
  rintro c ae ⟨t,jW,al⟩;have:=b5.fi t r c al ae;subst this;exact jW bf
 have same:∀ c,Fs r c->w'.heap[c]?=w.heap[c]?:=λc ae=>cp.fI.block c (b5.j3 r c ae) (off c ae);have q8:∀ c,I c->w'.heap[c]?=w.heap[c]?:=λc ae=>cp.fI.block c (b5.lt c ae) λ⟨t,_,aU⟩=>b5.aD t c aU ae;have na:=eO.s7 (d:=r) (x:=x) (v:=u) (F:=Fs r) h1 (Array.getElem?_eq_some_iff.1 fP).1 (.tree (((bm.h9 l8).bP J).frame q8 cp.more (λ_ _ h=>h) same)) (λt c ae bp=>by
   rcases cp.own c ⟨t,bp⟩ with aU | aU
   ·exact off c ae aU
   ·have:=b5.j3 r c ae; omega) (λc ae hi=>by
   rcases cp.new c hi with aU | aU | aU
   ·exact b5.aD r c ae aU
   ·exact off c ae aU
   ·have:=b5.j3 r c ae; omega) (λz p n m new e=>absurd e (l8 _ _ _ _ _))
 rw [Ng fP] at na;refine eJ cJ w' ⟨dz,de,I',_,na,⟨cp.fI.mono λb _ ⟨t,_,aU⟩=>⟨t,aU⟩,cp.more,λc ae=>?_,λc ae=>?_⟩⟩ rR λfg path e2 y aA hyp=>?_
 ·rcases cp.new c ae with aU | ⟨t,_,aU⟩ | aU
  ·exact .inl aU
  ·exact .inr (.inl ⟨t,aU⟩)
  ·exact .inr (.inr aU)
 ·rcases uT ae with aU | aU
  ·rcases cp.own c aU with ⟨t,_,gO⟩ | gO
   ·exact .inl ⟨t,gO⟩
   ·exact .inr gO
  ·exact .inl ⟨r,aU⟩
 ·have e2:fg∈[r]:=e2;simp only [List.mem_singleton] at e2;subst e2;have hz:fN g (λt=>if t=fg then some x else none):=by
   refine ⟨λt y j_=>?_,λt y j_=>?_,λt z q n m new j_=>?_⟩
   all_goals
    by_cases e:t=fg
    case neg=>simp [e] at j_
   ·subst e; simp at j_; subst j_; exact ax
   ·subst e; simp at j_; subst j_; exact .bP J
   ·subst e; simp at j_; exact l8 _ _ _ _ _ j_
  refine (b5.mj.keep hz).wA (T':=cJ.tmps) (λt aG=>?_) (λt c ae=>?_) (p:=⟨fg,path⟩) (y:=y) ?_
  ·by_cases e:t=fg
   ·subst e; rw [rR t aZ,bk]
   ·simp [e] at aG
  ·by_cases e:t=fg
   ·subst e; exact same c ae.2
   ·simp [e] at ae
  ·simp only [cd,if_true];simpa [cd,ax] using aA
end
end Go.Own
namespace Go.Own
open Go
abbrev Acc:=List (Nat × Nat × Option aj)
def eu (g0:a7) (A:Nat->Bool):Acc->a7
 | [],t=>g0 t
 | (k,d,r)::acc,t=>if d=t then (if A k then r else none) else eu g0 A acc t
def mb:Nat × Nat × Option aj->Option Place
 | (_,_,some (.bY _ p _ _ _))=>some p
 | _=>none
def rr (ops:Array Oper) (cg:List (List Nat)):Bool :=
 (List.range ops.size).all λk =>
  match ops[k]? with
  | none=>true
  | some o=>(o.after.all λe=>!Region.binds .any e||decide (e.on<k))&&(cg.getD k []).all λm=>decide (m<k)&&o.after.any λe=>Region.binds .any e&&(e.on == m||(cg.getD e.on []).contains m)
inductive iT (P:Program) (N:dW) (ops:Array Oper) (cg:List (List Nat)) (g0:a7) (i:Nat) (eA:Acc):Nat->Acc->Prop
 | nil:iT P N ops cg g0 i eA i eA
 | step {af:Nat}{acc:Acc}{o:Oper}{d:Nat}{r:Option aj}(h:iT P N ops cg g0 i eA af acc) (bj:ops[af]?=some o) (aZ:o.dst=some d) (bb:g0 d=none) (aP:∀ e∈acc,e.2.1≠d) (jD:N.ok d=true)
   (aO:pa P (eu g0 (λm=>(cg.getD af []).contains m) acc) ops o r):iT P N ops cg g0 i eA (af+1) ((af,d,r)::acc)
structure mS (P:Program) (N:dW) (ops:Array Oper) (cg:List (List Nat)) (g0:a7) (i:Nat) (eA:Acc):Prop where
 lt:∀ e∈eA,e.1<i
 free:∀ e∈eA,g0 e.2.1=none
 nd:(eA.map (·.2.1)).Nodup
 ND:∀ e∈eA,∀ cY∈eA,(e.1=cY.1\/e.2.1=cY.2.1)->e=cY
 st:∀ e∈eA,∃ hM,ops[e.1]?=some hM/\hM.dst=some e.2.1/\N.ok e.2.1=true/\pa P (eu g0 (λm=>(cg.getD e.1 []).contains m) eA) ops hM e.2.2
theorem mS.nil {P:Program}{N:dW}{ops:Array Oper}{cg:List (List Nat)}{g0:a7}{i:Nat}:mS P N ops cg g0 i []:=⟨by simp,by simp,by simp,by simp,by simp⟩
inductive rl (P:Program) (N:dW) (ops:Array Oper) (cg:List (List Nat)):Nat->Acc->a7->a7->Prop
 | fin {i:Nat}{eA:Acc}{g:a7}{acc:Acc}(aO:iT P N ops cg g i eA ops.size acc) (hJ:(acc.filterMap mb).Nodup) (i_:∀ t z q n m new,g t≠some (.bY z q n m new)):rl P N ops cg i eA g (eu g (λ_=>true) acc)
 | w9 {i af:Nat}{g g1 g':a7}{eA acc U:Acc}{o:Oper}{rs:Place->Prop}(aO:iT P N ops cg g i eA af acc) (hJ:(acc.filterMap mb).Nodup) (i_:∀ t z q n m new,g t≠some (.bY z q n m new)) (bj:ops[af]?=some o) (hw:iU (eu g (λm=>(cg.getD af []).contains m) acc) ops o true)
   (he:o7 P N rs (eu g (λm=>(cg.getD af []).contains m) acc) o g1) (lK:∀ p,rs p->g p.root≠none) (gQ:U=acc.filter λe=>!(cg.getD af []).contains e.1) (J:∀ e∈U,∃ x,e.2.2=some x/\yO rs (eu g (λm=>(cg.getD af []).contains m) acc) g1 o x) (h1:∀ e∈U,g1 e.2.1=none/\o.dst≠some e.2.1)
   (al:∀ e∈U,∃ hM,ops[e.1]?=some hM/\hM.dst=some e.2.1/\N.ok e.2.1=true/\pa P (eu g1 (λm=>(cg.getD e.1 []).contains m) U) ops hM e.2.2)
   (aJ:(List.range ops.size).all (λk=>decide (k<=af)||(cg.getD k []).contains af)=true) (ax:rl P N ops cg (af+1) U g1 g'):rl P N ops cg i eA g g'
theorem lE {g0:a7}{A:Nat->Bool}{acc:Acc}{t:Nat}(h:∀ e∈acc,e.2.1≠t):eu g0 A acc t=g0 t:=by
 induction acc with
 | nil=>rfl
 | cons e acc aR =>
  obtain ⟨k,d,r⟩:=e;simp only [eu];rw [if_neg (h (k,d,r) (by simp)),aR λe he=>h e (by simp [he])]
theorem tf {g0:a7}{A:Nat->Bool}{acc:Acc}{t:Nat}{x:aj}(h:eu g0 A acc t=some x):(∃ e∈acc,e.2.1=t/\A e.1=true/\e.2.2=some x)\/((∀ e∈acc,e.2.1≠t)/\g0 t=some x):=by
 induction acc with
 | nil=>exact .inr ⟨by simp,h⟩
 | cons e acc aR =>
  obtain ⟨k,d,r⟩:=e;simp only [eu] at h;by_cases aZ:d=t
  ·rw [if_pos aZ] at h;by_cases ej:A k=true
   ·rw [if_pos ej] at h; exact .inl ⟨(k,d,r),by simp,aZ,ej,h⟩
   ·rw [if_neg ej] at h; cases h
  ·rw [if_neg aZ] at h;rcases aR h with ⟨e,he,r⟩ | ⟨h1,al⟩
   ·exact .inl ⟨e,by simp [he],r⟩
   ·refine .inr ⟨λe he=>?_,al⟩;rcases List.mem_cons.1 he with rfl | he
    ·exact aZ
    ·exact h1 e he
theorem IA {g:a7}{A:Nat->Bool}{acc:Acc}(hu:∀ e∈acc,∀ cY∈acc,e.2.1=cY.2.1->e=cY) {e:Nat × Nat × Option aj}(he:e∈acc):eu g A acc e.2.1=if A e.1 then e.2.2 else none:=by
 induction acc with
 | nil=>cases he
 | cons a acc aR =>
  obtain ⟨k,d,r⟩:=a;simp only [eu];by_cases aZ:d=e.2.1
  ·have:=hu (k,d,r) (by simp) e he aZ;subst this;simp
  ·rw [if_neg aZ];rcases List.mem_cons.1 he with rfl | he
   ·exact absurd rfl aZ
   ·exact aR (λx J y aA=>hu x (by simp [J]) y (by simp [aA])) he
section
variable {P:Program}{N:dW}{ops:Array Oper}{cg:List (List Nat)}{g0:a7}{i:Nat}
variable {eA:Acc}
theorem iT.le {af:Nat}{acc:Acc}(h:iT P N ops cg g0 i eA af acc) (gQ:mS P N ops cg g0 i eA):i<=af/\∀ e∈acc,e.1<af:=by
 induction h with
 | nil=>exact ⟨Nat.le_refl _,gQ.lt⟩
 | step _ _ _ _ _ _ _ aR =>
  refine ⟨by omega,λe he=>?_⟩;rcases List.mem_cons.1 he with rfl | he
  ·simp
  ·have:=aR.2 e he; omega
theorem iT.ge {af:Nat}{acc:Acc}(h:iT P N ops cg g0 i eA af acc) (gQ:mS P N ops cg g0 i eA):∀ e∈acc,e∈eA\/i<=e.1:=by
 induction h with
 | nil=>exact λe he=>.inl he
 | step aO _ _ _ _ _ _ aR =>
  intro e he;rcases List.mem_cons.1 he with rfl | he
  ·exact .inr (aO.le gQ).1
  ·exact aR e he
theorem iT.Iu {af:Nat}{acc:Acc}(h:iT P N ops cg g0 i eA af acc):∀ e∈eA,e∈acc:=by
 induction h with
 | nil=>exact λe he=>he
 | step _ _ _ _ _ _ _ aR=>exact λe he=>by simp [aR e he]
theorem iT.fresh {af:Nat}{acc:Acc}(h:iT P N ops cg g0 i eA af acc) (gQ:mS P N ops cg g0 i eA):∀ e∈acc,g0 e.2.1=none:=by
 induction h with
 | nil=>exact gQ.free
 | step _ _ _ bb _ _ _ aR =>
  intro e he;rcases List.mem_cons.1 he with rfl | he
  ·exact bb
  ·exact aR e he
theorem iT.nodup {af:Nat}{acc:Acc}(h:iT P N ops cg g0 i eA af acc) (gQ:mS P N ops cg g0 i eA):(acc.map (·.2.1)).Nodup:=by
 induction h with
 | nil=>exact gQ.nd
 | step _ _ _ _ aP _ _ aR =>
  refine List.nodup_cons.2 ⟨λhm=>?_,aR⟩;obtain ⟨e,he,h⟩:=List.mem_map.1 hm;exact aP e he h
theorem iT.uniq {af:Nat}{acc:Acc}(h:iT P N ops cg g0 i eA af acc) (gQ:mS P N ops cg g0 i eA):∀ {e cY:Nat × Nat × Option aj},e∈acc->cY∈acc->(e.1=cY.1\/e.2.1=cY.2.1)->e=cY:=by
 induction h with
 | nil=>exact λ{e cY} he ib ca=>gQ.ND e he cY ib ca
 | @step af acc o d r aO _ _ _ aP _ _ aR =>
  intro e cY he ib ca;rcases List.mem_cons.1 he with rfl | he <;> rcases List.mem_cons.1 ib with rfl | ib
  ·rfl
  ·rcases ca with ca | ca
   ·have:=(aO.le gQ).2 cY ib; simp at ca; omega
   ·exact absurd ca.symm (aP cY ib)
  ·rcases ca with ca | ca
   ·have:=(aO.le gQ).2 e he; simp at ca; omega
   ·exact absurd ca (aP e he)
  ·exact aR he ib ca
theorem iT.at_mem {af:Nat}{acc:Acc}(h:iT P N ops cg g0 i eA af acc) (gQ:mS P N ops cg g0 i eA) {A:Nat->Bool}{e:Nat × Nat × Option aj}(he:e∈acc):eu g0 A acc e.2.1=if A e.1 then e.2.2 else none :=
 IA (λ_ J _ aA aU=>h.uniq gQ J aA (.inr aU)) he
theorem iT.get {af:Nat}{acc:Acc}(h:iT P N ops cg g0 i eA af acc) (gQ:mS P N ops cg g0 i eA):∀ e∈acc,∃ o w5,ops[e.1]?=some o/\o.dst=some e.2.1/\N.ok e.2.1=true/\pa P (eu g0 (λm=>(cg.getD e.1 []).contains m) w5) ops o e.2.2/\∀ e∈w5,e∈acc:=by
 induction h with
 | nil =>
  intro e he;obtain ⟨hM,h1,al,aS,b7⟩:=gQ.st e he;exact ⟨hM,eA,h1,al,aS,b7,λ_ h=>h⟩
 | @step af acc o d r aO bj aZ bb aP jD cp aR =>
  intro e he;rcases List.mem_cons.1 he with rfl | he
  ·exact ⟨o,acc,bj,aZ,jD,cp,λe he=>by simp [he]⟩
  ·obtain ⟨hM,w5,ar,a2,a3,a4,a5⟩:=aR e he;exact ⟨hM,w5,ar,a2,a3,a4,λe he=>by simp [a5 e he]⟩
theorem iT.has {af:Nat}{acc:Acc}(h:iT P N ops cg g0 i eA af acc):∀ k,i<=k->k<af->∃ e∈acc,e.1=k:=by
 induction h with
 | nil=>intro k h1 al; omega
 | @step af acc o d r aO bj aZ bb aP jD cp aR =>
  intro k h1 al;by_cases hk:k=af
  ·exact ⟨_,List.mem_cons_self,hk.symm⟩
  ·obtain ⟨e,he,h⟩:=aR k h1 (by omega);exact ⟨e,by simp [he],h⟩
theorem UQ {acc:Acc}(hJ:(acc.filterMap mb).Nodup) {e cY:Nat × Nat × Option aj}{p:Place}(he:e∈acc) (ib:cY∈acc) (h:mb e=some p) (aU:mb cY=some p):e=cY:=by
 induction acc with
 | nil=>simp at he
 | cons a acc aR =>
  have mem:∀ {x:Nat × Nat × Option aj},x∈acc->mb x=some p->p∈acc.filterMap mb:=λJ aH=>List.mem_filterMap.2 ⟨_,J,aH⟩;rcases List.mem_cons.1 he with rfl | Lk <;> rcases List.mem_cons.1 ib with rfl | Ll
  ·rfl
  ·rw [List.filterMap_cons,h] at hJ;exact absurd (mem Ll aU) (List.nodup_cons.1 hJ).1
  ·rw [List.filterMap_cons,aU] at hJ;exact absurd (mem Lk h) (List.nodup_cons.1 hJ).1
  ·refine aR ?_ Lk Ll;rw [List.filterMap_cons] at hJ;cases aH:mb a with
   | none=>rw [aH] at hJ; exact hJ
   | some q=>rw [aH] at hJ; exact (List.nodup_cons.1 hJ).2
def fe (listed:Array Bool) (k:Nat):Bool:=listed.getD k false
def hQ (ops:Array Oper) (listed:Array Bool):Nat:=((List.range ops.size).filter λk=>!fe listed k).length
theorem vd {listed:Array Bool}{k:Nat}(hk:k<ops.size) (aq:fe listed k=false) (gy:listed.size=ops.size):hQ ops (listed.setIfInBounds k true)+1<=hQ ops listed:=by
 unfold hQ;have key:∀ l:List Nat,l.Nodup->((l.filter λaf=>!fe (listed.setIfInBounds k true) af).length+if k∈l then 1 else 0)=(l.filter λaf=>!fe listed af).length:=by
  intro l
  induction l with
  | nil=>intro _; simp
  | cons af l aR =>
   intro gv;have LF:=List.nodup_cons.1 gv;have Ma:=aR LF.2;by_cases eS:af=k
   ·subst eS;have h1:fe (listed.setIfInBounds af true) af=true:=by simp [fe,gy,hk]
    rw [List.filter_cons,List.filter_cons];simp only [h1,aq,Bool.not_true,Bool.not_false,if_true,if_false,Bool.false_eq_true,List.length_cons,List.mem_cons,true_or];rw [if_neg LF.1] at Ma;omega
   ·have h1:fe (listed.setIfInBounds k true) af=fe listed af:=by simp [fe,Array.getElem?_setIfInBounds_ne (Ne.symm eS)]
    rw [List.filter_cons,List.filter_cons,h1];have my:(k∈af::l)↔k∈l:=by simp [Ne.symm eS]
    by_cases aJ:(!fe listed af)=true
    ·simp only [aJ,if_true,List.length_cons,my]; omega
    ·simp only [aJ,my]; simpa using Ma
 have:=key (List.range ops.size) List.nodup_range;rw [if_pos (List.mem_range.2 hk)] at this;omega
end
end Go.Own
namespace Go.Own
open Go
section
variable {P:Program}{N:dW}{ops:Array Oper}{cg:List (List Nat)}
def Down (cg:List (List Nat)) (listed:Array Bool):Prop:=∀ k,fe listed k=true->∀ m∈cg.getD k [],fe listed m=true
theorem Jg (h:rr ops cg=true) {k:Nat}{o:Oper}(bj:ops[k]?=some o) :
  (∀ e∈o.after,Region.binds .any e=true->e.on<k)/\∀ m∈cg.getD k [],m<k/\∃ e∈o.after,Region.binds .any e=true/\(e.on=m\/m∈cg.getD e.on []):=by
 have hk:k<ops.size:=(Array.getElem?_eq_some_iff.1 bj).1;unfold rr at h;have:=List.all_eq_true.1 h k (List.mem_range.2 hk);simp only [bj,Bool.and_eq_true] at this;obtain ⟨h1,al⟩:=this;constructor
 ·intro e he aJ;have:=Array.all_eq_true_iff_forall_mem.1 h1 e he;simpa [aJ] using this
 ·intro m hm;have:=List.all_eq_true.1 al m hm;simp only [Bool.and_eq_true,decide_eq_true_eq] at this;refine ⟨this.1,?_⟩;obtain ⟨af,aa,aJ⟩:=Array.any_eq_true.1 this.2;have he:=Array.getElem_mem aa;generalize o.after[af]=e at aJ he;simp only [Bool.and_eq_true,Bool.or_eq_true,beq_iff_eq,List.contains_iff_mem] at aJ;exact ⟨e,he,aJ.1,aJ.2⟩
theorem wk {listed:Array Bool}{k:Nat}(h:k∈Region.ready .any ops listed):fe listed k=false/\∃ o,ops[k]?=some o/\∀ e∈o.after,Region.binds .any e=true->fe listed e.on=true:=by
 obtain ⟨h1,o,bj,al⟩:=mem_ready.1 h;refine ⟨?_,o,bj,al⟩;unfold fe;rcases Nat.lt_or_ge k listed.size with hk | hk
 ·simp [hk] at h1 ⊢; exact h1
 ·simp [Array.getElem?_eq_none hk] at h1
theorem H5 (ej:rr ops cg=true) {listed:Array Bool}(aZ:Down cg listed) {k:Nat}(h:k∈Region.ready .any ops listed):∀ m∈cg.getD k [],fe listed m=true:=by
 obtain ⟨_,o,bj,al⟩:=wk h;intro m hm;obtain ⟨_,e,he,aJ,aS⟩:=(Jg ej bj).2 m hm;rcases aS with rfl | aS
 ·exact al e he aJ
 ·exact aZ e.on (al e he aJ) m aS
theorem MQ (ej:rr ops cg=true) {listed:Array Bool}(gy:listed.size=ops.size):∀ k,k<ops.size->fe listed k=false->Region.ready .any ops listed≠[]:=by
 intro k
 induction k using Nat.strongRecOn with
 | _ k aR =>
  intro hk aq;by_cases hex:∃ af,af<k/\fe listed af=false
  ·obtain ⟨af,aa,SY⟩:=hex;exact aR af aa (by omega) SY
  ·have my:k∈Region.ready .any ops listed:=by
    refine mem_ready.2 ⟨?_,ops[k],Array.getElem?_eq_getElem hk,λe he aJ=>?_⟩
    ·unfold fe at aq;simp [gy,hk] at aq ⊢; exact aq
    ·have bg:=(Jg ej (Array.getElem?_eq_getElem hk)).1 e he aJ;cases hle:fe listed e.on with
     | true=>exact hle
     | false=>exact absurd ⟨e.on,bg,hle⟩ hex
   intro e;rw [e] at my;cases my
theorem Bw {g0:a7}{A B:Nat->Bool}{acc:Acc}{t:Nat}(h:∀ e∈acc,e.2.1=t->A e.1=B e.1):eu g0 A acc t=eu g0 B acc t:=by
 induction acc with
 | nil=>rfl
 | cons e acc aR =>
  obtain ⟨k,d,r⟩:=e;simp only [eu];by_cases aZ:d=t
  ·rw [if_pos aZ,if_pos aZ,h (k,d,r) (by simp) aZ]
  ·rw [if_neg aZ,if_neg aZ,aR λe he=>h e (by simp [he])]
theorem BU {listed:Array Bool}{k af:Nat}(hk:k<listed.size):fe (listed.setIfInBounds k true) af=if af=k then true else fe listed af:=by
 by_cases eS:af=k
 ·subst eS; simp [fe,hk]
 ·rw [if_neg eS]; simp [fe,Array.getElem?_setIfInBounds_ne (Ne.symm eS)]
theorem V0 {g0:a7}{i af:Nat}{acc U eA:Acc}(aO:iT P N ops cg g0 i eA af acc) (di:mS P N ops cg g0 i eA) {A S:Nat->Bool}(gQ:U=acc.filter λe=>!A e.1) (Rr:∀ e∈acc,A e.1=true->S e.1=true):eu g0 S acc=eu (eu g0 A acc) S U:=by
 subst gQ;funext t;by_cases hex:∃ e∈acc,e.2.1=t
 ·obtain ⟨e,he,rfl⟩:=hex;rw [aO.at_mem di he];by_cases ej:A e.1=true
  ·rw [lE,aO.at_mem di he,if_pos ej,if_pos (Rr e he ej)];intro cY ib h;obtain ⟨h1,al⟩:=List.mem_filter.1 ib;have:=aO.uniq di h1 he (.inr h);subst this;simp [ej] at al
  ·rw [IA (λx J y aA h=>aO.uniq di (List.mem_filter.1 J).1 (List.mem_filter.1 aA).1 (.inr h)) (List.mem_filter.2 ⟨he,by simpa using ej⟩)]
 ·rw [lE λe he h=>hex ⟨e,he,h⟩,lE λe he h=>hex ⟨e,(List.mem_filter.1 he).1,h⟩,lE λe he h=>hex ⟨e,he,h⟩]
theorem e'.mono {g g':a7}(bb:∀ t x,g t=some x->g' t=some x) {x:aj}(h:e' g x):e' g' x:=by
 induction h with
 | bP h=>exact .bP h
 | ref J h=>exact .ref J (h.mono bb)
 | own _ aR=>exact .own aR
 | obj _ aR=>exact .obj aR
 | agg _ aR=>exact .agg aR
 | cA _ aR=>exact .cA aR
 | eB _ _ gD gx=>exact .eB gD gx
 | bY aH _ aR=>exact .bY (aH.mono bb) aR
theorem Kh {mq g1:a7}{o:Oper}{S:Nat->Bool}{rs:Place->Prop}(h:o7 P N rs mq o g1) (lK:∀ p,rs p->mq p.root≠none):∀ (U:Acc),(∀ e∈U,∃ x,e.2.2=some x/\yO rs mq g1 o x)->(∀ e∈U,mq e.2.1=none/\g1 e.2.1=none/\o.dst≠some e.2.1)->(U.map (·.2.1)).Nodup->o7 P N rs (eu mq S U) o (eu g1 S U)
 | [],_,_,_=>h
 | (k,d,r)::U,J,h1,gv=>by
  simp only [List.map_cons,List.nodup_cons] at gv;have aR:=Kh (S:=S) h lK U (λe he=>J e (by simp [he])) (λe he=>h1 e (by simp [he])) gv.2;obtain ⟨x,e,cp⟩:=J (k,d,r) (by simp);simp only at e;subst e;obtain ⟨ar,a2,a3⟩:=h1 (k,d,some x) (by simp);simp only at ar a2 a3;have pB:∀ e∈U,e.2.1≠d:=λe he aU=>gv.1 (List.mem_map.2 ⟨e,he,aU⟩);cases b5:S k with
  | true =>
   have e:∀ g:a7,eu g S ((k,d,some x)::U)=fc (eu g S U) d x:=λg=>by
    funext t;simp only [eu,fc,b5,if_true];by_cases aZ:d=t
    ·rw [if_pos aZ,if_pos aZ.symm]
    ·rw [if_neg aZ,if_neg (Ne.symm aZ)]
   rw [e,e];have DF:∀ r,mq r≠none->∀ e∈U,e.2.1≠r:=λr ax e he aU=>by
    have:=(h1 e (by simp [he])).1;rw [aU] at this;exact ax this
   have UJ:∀ r,g1 r≠none->∀ e∈U,e.2.1≠r:=λr ax e he aU=>by
    have:=(h1 e (by simp [he])).2.1;rw [aU] at this;exact ax this
   refine aR.extra (λr ax=>by rw [lE (DF r.root (lK r ax))]; exact lK r ax) (by rw [lE pB]; exact ar) (by rw [lE pB]; exact a2) a3 ?_;rcases cp with ⟨r,path,z,n,tr,cs,rfl,gZ,hD,lk,Cc⟩ | ⟨v,rfl⟩ | ⟨s,p,m,rfl,gZ,hD,lk⟩ | ⟨s,m,cs,rfl,gZ,hD,lk,cs',Cc,OO⟩ | ⟨z,n,cs,rfl,gZ⟩ | ⟨cs,rfl,gZ,hD⟩
   ·refine .inl ⟨r,path,z,n,tr,cs,rfl,gZ,?_,?_,Cc⟩
    ·have:mq r≠none:=lK _ gZ;simpa [cd,lE (DF r this)] using hD
    ·have:g1 r≠none:=λe=>by simp [cd,e] at lk
     simpa [cd,lE (UJ r this)] using lk
   ·exact .inr (.inl ⟨v,rfl⟩)
   ·refine .inr (.inr (.inl ⟨s,p,m,rfl,?_,?_,lk⟩))
    ·rw [lE]; exact gZ;intro e he aU;have:=(h1 e (by simp [he])).1;rw [aU,gZ] at this; cases this
    ·rw [lE]; exact hD;intro e he aU;have:=(h1 e (by simp [he])).2.1;rw [aU,hD] at this; cases this
   ·refine .inr (.inr (.inr (.inl ⟨s,m,cs,rfl,?_,hD,lk,cs',?_,OO⟩)))
    ·rw [lE]; exact gZ;intro e he aU;have:=(h1 e (by simp [he])).2.1;rw [aU,gZ] at this; cases this
    ·rw [lE (DF s (by rw [Cc]; simp))]; exact Cc
   ·exact .inr (.inr (.inr (.inr (.inl ⟨z,n,cs,rfl,gZ⟩))))
   ·refine .inr (.inr (.inr (.inr (.inr ⟨cs,rfl,gZ,?_⟩))));have hle:∀ t y,mq t=some y->eu mq S U t=some y:=λt y aA=>by rw [lE (DF t (by rw [aA]; simp))]; exact aA
    refine ⟨λt y aA=>?_,λt z q n m new aA=>?_⟩
    ·rcases tf aA with ⟨cY,ib,_,_,Ga⟩ | ⟨_,aA⟩
     ·obtain ⟨y',zb,z7⟩:=J cY (by simp [ib]);rw [Ga] at zb; cases zb;rcases z7 with ⟨r,path,z,n,tr,cs,rfl,c1,c2,k1,c4⟩ | ⟨v,rfl⟩ | ⟨s,p,m,rfl,c1,_⟩ | ⟨s,m,cs,rfl,_,_,_,cs',c4,kF⟩ | ⟨z,n,cs,rfl,c1⟩ | ⟨cs,rfl,c1,_⟩
      ·exact .ref rfl (.inl ⟨tr,cs,kE hle c2,c4⟩)
      ·exact .bP .lit
      ·exact e'.mono hle (hD.bo s _ c1)
      ·exact .ref rfl ⟨.obj cs',by simp [cd,hle s _ c4,aj.at],0,0,cs',.inr rfl,kF⟩
      ·exact .bP c1
      ·exact .bP c1.bP
     ·exact e'.mono hle (hD.bo t y aA)
    ·rcases tf aA with ⟨cY,ib,_,_,Ga⟩ | ⟨_,aA⟩
     ·obtain ⟨y',zb,z7⟩:=J cY (by simp [ib]);rw [Ga] at zb; cases zb;rcases z7 with ⟨r,path,z,n,tr,cs,h,_⟩ | ⟨v,h⟩ | ⟨s,p,m,h,_⟩ | ⟨s,m,cs,h,_⟩ | ⟨z,n,cs,h,_⟩ | ⟨cs,h,_⟩ <;> cases h
     ·exact hD.fZ _ _ _ _ _ _ aA
  | false =>
   have e:∀ g:a7,g d=none->eu g S ((k,d,some x)::U)=eu g S U:=λg bb=>by
    funext t;simp only [eu,b5];by_cases aZ:d=t
    ·subst aZ; rw [if_pos rfl,lE pB,bb]; rfl
    ·rw [if_neg aZ]
   rw [e mq ar,e g1 a2];exact aR
theorem MP (ej:rr ops cg=true) {g0:a7}{i af:Nat}{acc eA:Acc}(aO:iT P N ops cg g0 i eA af acc) (di:mS P N ops cg g0 i eA) (hJ:(acc.filterMap mb).Nodup) (i_:∀ t z q n m new,g0 t≠some (.bY z q n m new)) {listed:Array Bool}(gy:listed.size=ops.size) (aZ:Down cg listed)
  {a:Act}{w:World}{I:bu}{Fs:Nat->bu}(b5:dd w I a.tmps (eu g0 (fe listed) acc) Fs) (b1:a.tmps.size=N.size) {e:Nat × Nat × Option aj}(he:e∈acc) (hk:e.1∈Region.ready .any ops listed) {K:Act->World->Prop}{Q:Exit->Act->World->Prop}
  (eJ:∀ cJ w' I' cB,cJ.defers=a.defers->h5 N a.tmps cJ.tmps->dd w' I' cJ.tmps (eu g0 (fe (listed.setIfInBounds e.1 true)) acc) cB->kW w I (λc=>∃ t,Fs t c) w' I' (λc=>∃ t,cB t c)->K cJ w'):wpOp P ops Q e.1 K a w:=by
 obtain ⟨ec,k',vx,_⟩:=wk hk;have ua:=(Array.getElem?_eq_some_iff.1 vx).1;have tQ:=H5 ej aZ hk;obtain ⟨o,w5,bj,C6,jD,cp,gT⟩:=aO.get di e he;obtain ⟨k,d,r⟩:=e;simp only at *;have hle:nR (eu g0 (λm=>(cg.getD k []).contains m) w5) (eu g0 (fe listed) acc):=by
  intro t x J;rcases tf J with ⟨e,he,rfl,xx,hex⟩ | ⟨pB,bb⟩
  ·rw [aO.at_mem di (gT e he),tQ e.1 (by simpa using xx)];exact hex
  ·rw [lE λe he SC=>?_]
   ·exact bb
   ·have:=aO.fresh di e he;rw [SC,bb] at this; cases this
 have hc:∀ z p n m new,r=some (.bY z p n m new)->∀ t cN c5 cb ds,eu g0 (fe listed) acc t≠some (.bY cN p c5 cb ds):=by
  intro z p n m new ax t cN c5 cb ds aG;rcases tf aG with ⟨e,ib,_,xx,hex⟩ | ⟨_,bb⟩
  ·obtain ⟨lz,Cu,fg⟩:=e;have:=UQ hJ (p:=p) he ib (by rw [ax]; rfl) (by simp only at hex; rw [hex]; rfl);cases this;rw [ec] at xx; cases xx
  ·exact i_ _ _ _ _ _ _ bb
 have z7:=cp.mono hle hc;have tY:eu g0 (fe listed) acc d=none:=by
  have:=aO.at_mem di (A:=fe listed) he;simpa [ec] using this
 unfold wpOp;simp only [bj];refine z7.sound b5 rfl b1 C6 tY jD λcJ w' aP=>?_;obtain ⟨dz,de,I',cB,eO,nz⟩:=aP;have jR:∀ af,fe (listed.setIfInBounds k true) af=if af=k then true else fe listed af:=λaf=>BU (by omega)
 have eD:eu g0 (fe (listed.setIfInBounds k true)) acc=wj (eu g0 (fe listed) acc) d r:=by
  funext t;by_cases sT:t=d
  ·subst sT;have h1:=aO.at_mem di (A:=fe (listed.setIfInBounds k true)) he;simp only [jR k,if_true] at h1;rw [h1];cases r with
   | none=>simp only [wj]; exact tY.symm
   | some x=>simp [wj,fc]
  ·have h1:eu g0 (fe (listed.setIfInBounds k true)) acc t=eu g0 (fe listed) acc t:=Bw λe ib het=>by
    rw [jR e.1,if_neg];intro F';have:=aO.uniq di ib he (.inl F');rw [this] at het;exact sT het.symm
   rw [h1];cases r with
   | none=>rfl
   | some x=>simp [wj,fc,sT]
 exact eJ cJ w' I' cB dz de (by rw [eD]; exact eO) nz
theorem Ff (ej:rr ops cg=true) {listed:Array Bool}(gy:listed.size=ops.size) (aZ:Down cg listed) {k:Nat}(hk:k∈Region.ready .any ops listed):Down cg (listed.setIfInBounds k true):=by
 obtain ⟨ec,k',vx,_⟩:=wk hk;have ua:=(Array.getElem?_eq_some_iff.1 vx).1;have tQ:=H5 ej aZ hk;have jR:∀ q,fe (listed.setIfInBounds k true) q=if q=k then true else fe listed q:=λq=>BU (by omega)
 intro m hm q bW;rw [jR] at hm ⊢;split
 ·rfl
 ·split at hm
  ·rename_i LC; subst LC; exact tQ q bW
  ·exact aZ m hm q bW
theorem iT.entry {g0:a7}{i af:Nat}{acc eA:Acc}(aO:iT P N ops cg g0 i eA af acc) {listed:Array Bool}(bg:∀ k,k<i->(∀ e∈eA,e.1≠k)->fe listed k=true) {k:Nat}(zM:k<af) (ec:fe listed k=false):∃ e∈acc,e.1=k:=by
 rcases Nat.lt_or_ge k i with h | h
 ·rcases Classical.em (∃ e∈eA,e.1=k) with ⟨e,he,aU⟩ | aU
  ·exact ⟨e,aO.Iu e he,aU⟩
  ·have:=bg k h λe he F'=>aU ⟨e,he,F'⟩;rw [ec] at this; cases this
 ·exact aO.has k h zM
theorem rl.sound (ej:rr ops cg=true) {i:Nat}{eA:Acc}{g g':a7}(h:rl P N ops cg i eA g g'):mS P N ops cg g i eA->∀ {Q:Exit->Act->World->Prop}(fuel:Nat) (listed:Array Bool) (a:Act) (w:World) (I:bu) (Fs:Nat->bu),hQ ops listed<=fuel->listed.size=ops.size->(∀ k,k<i->(∀ e∈eA,e.1≠k)->fe listed k=true)->(∀ k,i<=k->fe listed k=false)->Down cg listed ->
  dd w I a.tmps (eu g (fe listed) eA) Fs->a.tmps.size=N.size->(∀ cJ w',il N a w I Fs g' cJ w'->Q .normal cJ w')->wpAny P .any ops Q fuel listed a w:=by
 have start:∀ {g:a7}{i af:Nat}{acc eA:Acc}{listed:Array Bool},iT P N ops cg g i eA af acc->mS P N ops cg g i eA->(∀ k,i<=k->fe listed k=false)->eu g (fe listed) acc=eu g (fe listed) eA:=by
  intro g i af acc eA listed aO di ew;funext t;by_cases hex:∃ e∈acc,e.2.1=t
  ·obtain ⟨e,he,rfl⟩:=hex;rw [aO.at_mem di he];rcases aO.ge di e he with h | h
   ·rw [IA (λx J y aA aU=>di.ND x J y aA (.inr aU)) h]
   ·rw [ew e.1 h];by_cases Lm:∃ cY∈eA,cY.2.1=e.2.1
    ·obtain ⟨cY,ib,aU⟩:=Lm;have:=aO.uniq di (aO.Iu cY ib) he (.inr aU);subst this;have:=di.lt cY ib; omega
    ·rw [lE λcY ib aU=>Lm ⟨cY,ib,aU⟩,aO.fresh di e he]; rfl
  ·rw [lE λe he h=>hex ⟨e,he,h⟩,lE λe he h=>hex ⟨e,aO.Iu e he,h⟩]
 induction h with
 | @fin i eA g acc aO hJ i_ =>
  intro di Q fuel listed a w I Fs ae gy bg ew aZ b5 b1 ea;rw [<- start aO di ew] at b5;clear ew;revert listed a w I Fs
  induction fuel with
  | zero =>
   intro listed a w I Fs ae gy bg aZ b5 b1 ea;have hs:∀ k,k<ops.size->fe listed k=true:=λk hk=>by
    cases aq:fe listed k with
    | true=>rfl
    | false=>have:=vd (ops:=ops) (listed:=listed) (k:=k) hk aq gy; omega
   refine wpAny_done ?_ (ea _ _ ⟨rfl,h5.refl,I,Fs,?_,kW.refl _ _ _⟩) 0
   ·cases ax:Region.ready .any ops listed with
    | nil=>rfl
    | cons k l =>
     have hk:k∈Region.ready .any ops listed:=by rw [ax]; simp
     obtain ⟨ec,o,bj,_⟩:=wk hk;rw [hs k (Array.getElem?_eq_some_iff.1 bj).1] at ec; cases ec
   ·have:eu g (fe listed) acc=eu g (λ_=>true) acc:=funext λt=>Bw λe he _=>hs e.1 ((aO.le di).2 e he);rw [<- this]; exact b5
  | succ fuel aR =>
   intro listed a w I Fs ae gy bg aZ b5 b1 ea;by_cases hs:∀ k,k<ops.size->fe listed k=true
   ·refine wpAny_done ?_ (ea _ _ ⟨rfl,h5.refl,I,Fs,?_,kW.refl _ _ _⟩) _
    ·cases ax:Region.ready .any ops listed with
     | nil=>rfl
     | cons k l =>
      have hk:k∈Region.ready .any ops listed:=by rw [ax]; simp
      obtain ⟨ec,o,bj,_⟩:=wk hk;rw [hs k (Array.getElem?_eq_some_iff.1 bj).1] at ec; cases ec
    ·have:eu g (fe listed) acc=eu g (λ_=>true) acc:=funext λt=>Bw λe he _=>hs e.1 ((aO.le di).2 e he);rw [<- this]; exact b5
   ·obtain ⟨k0,xF⟩:=Classical.not_forall.1 hs;obtain ⟨SN,SO⟩:=Classical.not_imp.1 xF;refine ⟨λax=>absurd ax (MQ ej gy k0 SN (by simpa using SO)),λk hk=>?_⟩;obtain ⟨ec,k',vx,_⟩:=wk hk;have ua:=(Array.getElem?_eq_some_iff.1 vx).1;obtain ⟨e,he,rfl⟩:=aO.entry bg ua ec;have Sw:=vd (ops:=ops) (listed:=listed) (k:=e.1) ua ec gy;refine MP ej aO di hJ i_ gy aZ b5 b1 he hk λcJ w' I' cB dz de eO nz=>?_;refine aR _ cJ w' I' cB (by omega) (by simpa using gy) (λm hm eL=>?_) (Ff ej gy aZ hk) eO (de.1.trans b1) λa2 iw al=>ea _ _ (il.trans dz de nz al);rw [BU (by omega)]; split
    ·rfl
    ·exact bg m hm eL
 | @w9 i af g g1 g' eA acc U o rs aO hJ i_ bj hw he lK gQ J h1 al aJ _ T9 =>
  intro di Q fuel listed a w I Fs ae gy bg ew aZ b5 b1 ea;have xE:af<ops.size:=(Array.getElem?_eq_some_iff.1 bj).1;have CV:∀ k,af<k->k<ops.size->af∈cg.getD k []:=λk hk ua=>by
   have:=List.all_eq_true.1 aJ k (List.mem_range.2 ua);simp only [Bool.or_eq_true,decide_eq_true_eq,List.contains_iff_mem] at this;exact this.resolve_left (by omega)
  have xI:∀ e∈U,e∈acc/\(cg.getD af []).contains e.1=false:=λe he=>by
   rw [gQ] at he;obtain ⟨jW,DQ⟩:=List.mem_filter.1 he;exact ⟨jW,by simpa using DQ⟩
  have gv:(U.map (·.2.1)).Nodup:=by
   rw [gQ]; exact (List.filter_sublist.map _).nodup (aO.nodup di)
  have SH:∀ e∈U,eu g (λm=>(cg.getD af []).contains m) acc e.2.1=none:=λe he=>by
   rw [aO.at_mem di (xI e he).1,(xI e he).2]; rfl
  have FI:mS P N ops cg g1 (af+1) U:=⟨λe he=>by have:=(aO.le di).2 e (xI e he).1; omega,λe he=>(h1 e he).1,gv,λe he cY ib h=>aO.uniq di (xI e he).1 (xI cY ib).1 h,al⟩;have W3:∀ k,af<=k->fe listed k=false:=λk hk=>ew k (Nat.le_trans (aO.le di).1 hk);rw [<- start aO di ew] at b5;clear ew;revert listed a w I Fs
  induction fuel with
  | zero =>
   intro listed a w I Fs ae gy bg aZ b5 b1 ea ew;have:=vd (ops:=ops) (listed:=listed) (k:=af) xE (ew af (Nat.le_refl _)) gy;omega
  | succ fuel T8 =>
   intro listed a w I Fs ae gy bg aZ b5 b1 ea ew;have fp:=ew af (Nat.le_refl _);refine ⟨λax=>absurd ax (MQ ej gy af xE fp),λk hk=>?_⟩;obtain ⟨ec,k',vx,_⟩:=wk hk;have ua:=(Array.getElem?_eq_some_iff.1 vx).1;have tQ:=H5 ej aZ hk;have jR:∀ q,fe (listed.setIfInBounds k true) q=if q=k then true else fe listed q:=λq=>BU (by omega)
   have Sw:=vd (ops:=ops) (listed:=listed) (k:=k) (by omega) ec gy;rcases Nat.lt_trichotomy k af with zM | rfl | zM
   ·obtain ⟨e,F_,rfl⟩:=aO.entry bg zM ec;refine MP ej aO di hJ i_ gy aZ b5 b1 F_ hk λcJ w' I' cB dz de eO nz=>?_;refine T8 _ cJ w' I' cB (by omega) (by simpa using gy) (λm hm eL=>?_) (Ff ej gy aZ hk) eO (de.1.trans b1) (λa2 iw al=>ea _ _ (il.trans dz de nz al)) λm hm=>?_
    ·rw [jR]; split
     ·rfl
     ·exact bg m hm eL
    ·rw [jR,if_neg (by omega)]; exact ew m hm
   ·have QO:=V0 (A:=λm=>(cg.getD k []).contains m) (S:=fe listed) aO di gQ λe he ej=>tQ e.1 (by simpa using ej);have Tc:∀ r:Place,rs r->eu g (λm=>(cg.getD k []).contains m) acc r.root≠none:=λr ax=>by
     rw [lE]
     ·exact lK r ax
     ·intro e he aU;have:=aO.fresh di e he;rw [aU] at this;exact lK r ax this
    have SD:=Kh (S:=fe listed) he Tc U J (λe he=>⟨SH e he,h1 e he⟩) gv;have hle:nR (eu g (λm=>(cg.getD k []).contains m) acc) (eu g (fe listed) acc):=by
     intro t x J;rcases tf J with ⟨e,he,rfl,xx,hex⟩ | ⟨pB,bb⟩
     ·rw [aO.at_mem di he,tQ e.1 (by simpa using xx)]; exact hex
     ·rw [lE pB]; exact bb
    unfold wpOp;simp only [bj,(iU.mono hle hw).sound b5,if_true];refine .inl (SD w I a.tmps Fs (by rw [<- QO]; exact b5) a rfl b1 _ _ λcJ w' aP _ _=>?_);obtain ⟨dz,de,I',cB,eO,nz⟩:=aP;refine T9 FI fuel (listed.setIfInBounds k true) cJ w' I' cB (by omega) (by simpa using gy) (λm hm eL=>?_) (λm hm=>?_) (Ff ej gy aZ hk) ?_ (de.1.trans b1) λa2 iw al=>ea _ _ (il.trans dz de nz al)
    ·rw [jR];split
     ·rfl
     ·rename_i LC;cases ub:fe listed m with
      | true=>rfl
      | false =>
       exfalso;obtain ⟨e,F_,rfl⟩:=aO.entry bg (show m<k by omega) ub;by_cases LB:e.1∈cg.getD k []
       ·rw [tQ e.1 LB] at ub; cases ub
       ·exact eL e (by rw [gQ]; exact List.mem_filter.2 ⟨F_,by simpa using LB⟩) rfl
    ·rw [jR,if_neg (by omega)]; exact ew m (by omega)
    ·have:eu g1 (fe (listed.setIfInBounds k true)) U=eu g1 (fe listed) U:=funext λt=>Bw λe he _=>by
      rw [jR e.1,if_neg];have:=(aO.le di).2 e (xI e he).1;omega
     rw [this]; exact eO
   ·have:=tQ af (CV k zM ua); rw [fp] at this; cases this
end
end Go.Own
namespace Go.Own
open Go
section
variable {P:Program}{N:dW}
def gM (P:Program) (N:dW) (c:Code) (g:a7) (e:Exit) (g':a7):Prop :=
 ∀ ⦃Q:Exit->Act->World->Prop⦄ ⦃a:Act⦄ ⦃w:World⦄ ⦃I:bu⦄ ⦃Fs:Nat->bu⦄,dd w I a.tmps g Fs->a.tmps.size=N.size->(∀ cJ w',il N a w I Fs g' cJ w'->Q e cJ w')->c.wp P Q a w
theorem gM.skip {g:a7}:gM P N .skip g .normal g:=λ_ _ _ _ _ b5 _ ea=>wp_skip (ea _ _ ⟨rfl,h5.refl,_,_,b5,kW.refl _ _ _⟩)
theorem gM.ret {g:a7}:gM P N .ret g .ret g:=λ_ _ _ _ _ b5 _ ea=>wp_ret (ea _ _ ⟨rfl,h5.refl,_,_,b5,kW.refl _ _ _⟩)
theorem gM.exit {g:a7}{id:Nat}:gM P N (.exit id) g (.exit id) g:=λ_ _ _ _ _ b5 _ ea=>wp_exit (ea _ _ ⟨rfl,h5.refl,_,_,b5,kW.refl _ _ _⟩)
theorem gM.seq {x y:Code}{g g1 g':a7}{e:Exit}(h1:gM P N x g .normal g1) (al:gM P N y g1 e g'):gM P N (.seq x y) g e g':=by
 intro Q a w I Fs b5 b1 ea;refine wp_seq (h1 b5 b1 λar jH aP=>?_);obtain ⟨dz,de,I',cB,eO,cp⟩:=aP;exact al eO (de.1.trans b1) λa2 iw oH=>ea _ _ (il.trans dz de cp oH)
theorem gM.cond {c:Operand}{x y:Code}{g g':a7}{e:Exit}{b:Bool}(ae:bT g c=some (.lit (.bool b))) (h:gM P N (if b then x else y) g e g'):gM P N (.cond c x y) g e g':=by
 intro Q a w I Fs b5 b1 ea;exact wp_cond (t:=b) (la b5 ae rfl).iu.1 (h b5 b1 ea)
theorem gM.Ka {c:Operand}{x y:Code}{g g':a7}{e:Exit}(ae:bT g c=some (.lit (.bool true))) (h:gM P N x g e g'):gM P N (.cond c x y) g e g':=gM.cond ae h
theorem gM.E' {c:Operand}{x y:Code}{g g':a7}{e:Exit}(ae:bT g c=some (.lit (.bool false))) (h:gM P N y g e g'):gM P N (.cond c x y) g e g':=gM.cond ae h
theorem gM.block {id:Nat}{c:Code}{g g':a7}(h:gM P N c g .normal g'):gM P N (.block id c) g .normal g' :=
 λ_ _ _ _ _ b5 b1 ea=>wp_block (h b5 b1 λar jH aP=>ea ar jH aP)
def BT (P:Program) (c:Code) (Q:Exit->Act->World->Prop) (a:Act) (w:World):Prop :=
 ∀ (b:Frame) (k:List Item) (cs:List Frame),∃ e cJ w',Q e cJ w'/\Arrives P (lone (b.at a (.code c::.inLoop c::k)) cs w) b k cs e cJ w'
def r7 (P:Program) (N:dW) (c:Code) (g:a7) (e:Exit) (g':a7):Prop :=
 ∀ ⦃Q:Exit->Act->World->Prop⦄ ⦃a:Act⦄ ⦃w:World⦄ ⦃I:bu⦄ ⦃Fs:Nat->bu⦄,dd w I a.tmps g Fs->a.tmps.size=N.size->(∀ cJ w',il N a w I Fs g' cJ w'->Q e cJ w')->BT P c Q a w
theorem Hy {c:Code}{Q:Exit->Act->World->Prop}{a:Act}{w:World}(h:c.wp P (Exit.then (BT P c Q) Q) a w):BT P c Q a w:=by
 intro b k cs;obtain ⟨e,yS,BA,bW,lq⟩:=h b (.inLoop c::k) cs;cases e with
 | normal =>
  obtain ⟨QP,ON,V8,S_,R2⟩:=bW b k cs;exact ⟨QP,ON,V8,S_,.of_steps (Steps.trans lq (.one step_inLoop)) R2⟩
 | exit id=>exact ⟨_,yS,BA,bW,.pass (x:=.inLoop c) rfl (λ_ _=>.inl (by simp)) lq⟩
 | goto l=>exact ⟨_,yS,BA,bW,.pass (x:=.inLoop c) rfl (λ_ _=>.inl (by simp)) lq⟩
 | ret=>exact ⟨_,yS,BA,bW,.pass (x:=.inLoop c) rfl (λ_ _=>.inl (by simp)) lq⟩
 | panic bz=>exact ⟨_,yS,BA,bW,.pass (x:=.inLoop c) rfl (λ_ _=>.inl (by simp)) lq⟩
 | outgrown=>exact ⟨_,yS,BA,bW,.pass (x:=.inLoop c) rfl (λ_ _=>.inl (by simp)) lq⟩
theorem gM.loop {c:Code}{g g':a7}{e:Exit}(h:r7 P N c g e g'):gM P N (.loop c) g e g':=by
 intro Q a w I Fs b5 b1 ea b k cs;obtain ⟨e,cJ,w',bW,lq⟩:=h b5 b1 ea b k cs;exact ⟨e,cJ,w',bW,.of_steps (.one step_loop) lq⟩
theorem r7.step {c:Code}{g g1 g':a7}{e:Exit}(h1:gM P N c g .normal g1) (al:r7 P N c g1 e g'):r7 P N c g e g':=by
 intro Q a w I Fs b5 b1 ea;refine Hy (h1 b5 b1 λar jH aP=>?_);obtain ⟨dz,de,I',cB,eO,cp⟩:=aP;exact al eO (de.1.trans b1) λa2 iw oH=>ea _ _ (il.trans dz de cp oH)
theorem r7.out {c:Code}{g g':a7}{e:Exit}(h:gM P N c g e g') (he:e≠.normal):r7 P N c g e g':=by
 intro Q a w I Fs b5 b1 ea;refine Hy (h b5 b1 λar jH aP=>?_);cases e with
 | normal=>exact absurd rfl he
 | _=>exact ea _ _ aP
theorem gM.region {id:Nat}{ops:Array Oper}{g g':a7}(h:nS P N ops (List.range ops.size) g g'):gM P N (.region id ops false) g .normal g' :=
 λ_ _ _ _ _ b5 b1 ea=>wp_region (h.sound b5 b1 ea)
theorem gM.draw {id:Nat}{ops:Array Oper}{cg:List (List Nat)}{g g':a7}(hm:P.follows .mixedOrders=true) (ej:rr ops cg=true) (h:rl P N ops cg 0 [] g g'):gM P N (.region id ops true) g .normal g':=by
 intro Q a w I Fs b5 b1 ea;refine wp_region_any hm ?_;have eO:dd w.drew I a.tmps g Fs:=b5.world (λ_ _ _=>rfl) (λ_ _=>rfl) (Nat.le_refl _);have hs:∀ k,fe (Array.replicate ops.size false) k=false:=by
  intro k;unfold fe;rcases Nat.lt_or_ge k ops.size with h | h
  ·simp [h]
  ·simp [Array.getElem?_eq_none (show (Array.replicate ops.size false).size<=k by simpa using h)]
 refine h.sound ej .nil ops.size (Array.replicate ops.size false) a w.drew I Fs ?_ (by simp) (λk hk=>by omega) (λk _=>hs k) (λk hk=>by rw [hs] at hk; cases hk) eO b1 λcJ w' aP=>ea _ _ ?_
 ·unfold hQ;exact Nat.le_trans (List.length_filter_le _ _) (by simp)
 ·obtain ⟨dz,de,I',cB,im,cp⟩:=aP;exact ⟨dz,de,I',cB,im,⟨⟨cp.fI.os,cp.fI.tape,cp.fI.output,cp.fI.size,cp.fI.block,cp.fI.e7,Nat.le_trans (Nat.le_succ _) cp.fI.xj⟩,cp.more,cp.new,cp.own⟩⟩
inductive oy:aj->aj->Prop
 | refl {x:aj}:oy x x
 | dead {x:aj}(h:kB x\/dn x):oy x .dead
 | n' {z:Nat}:oy .aF (.own z 0 [])
 | xY {z:Nat}:oy .aF (.aD z 0 [])
 | obj {cs cs':List aj}(aq:cs'.length=cs.length) (h:∀ (k:Nat) (x y:aj),cs[k]?=some x->cs'[k]?=some y->oy x y):oy (.obj cs) (.obj cs')
 | own {z n:Nat}{cs cs':List aj}(aq:cs'.length=cs.length) (h:∀ (k:Nat) (x y:aj),cs[k]?=some x->cs'[k]?=some y->oy x y):oy (.own z n cs) (.own z n cs')
theorem R.gj {w:World}{I:bu}{ρ:aj->Value->Prop}{x x':aj}(h:oy x x'):∀ {v:Value}{F:bu},R w I ρ x v F->∃ gg,R w I ρ x' v gg/\∀ c,gg c->F c:=by
 induction h with
 | refl=>exact λbm=>⟨_,bm,λ_ h=>h⟩
 | dead=>exact λbm=>⟨c0,.dead λ_ h=>h,λ_ h=>h.elim⟩
 | n' =>
  intro v F bm;rw [bm.q0];exact ⟨c0,.own (e:=0) (us:=[]) (Fs:=λ_=>c0) ⟨by simp,.inl ⟨rfl,rfl⟩⟩ rfl (by simp) (by simp) (λ_ _ _ _ _ h=>h.elim) (λ_ _ _ h=>h.elim) λc=>⟨λh=>h.elim,λh=>h.elim (λh=>by simp [Value.ownBlock] at h) λ⟨_,_,h⟩=>h⟩,λ_ h=>h.elim⟩
 | xY=>intro v F bm; rw [bm.q0]; exact ⟨c0,.hW λ_ h=>h,λ_ h=>h.elim⟩
 | @obj cs cs' aq _ aR =>
  intro v F bm;cases bm with
  | ref J=>simp [aj.isRef] at J
  | @obj _ b e arr bR _ bj ic h1 ax aZ aJ aQ =>
   have:∀ k,∃ r9:bu,k<cs.length->(∀ (x:aj) (u:Value),cs'[k]?=some x->arr[k]?=some u->R w I ρ x u r9)/\∀ c,r9 c->bR k c:=by
    intro k;by_cases hk:k<cs.length
    ·have J:=List.getElem?_eq_getElem hk;have aA:cs'[k]?=some (cs'[k]'(by omega)):=List.getElem?_eq_getElem (by omega);have hu:arr[k]?=some (arr[k]'(by omega)):=Array.getElem?_eq_getElem (by omega);obtain ⟨gg,h1,al⟩:=aR k _ _ J aA (ax k _ _ J hu);refine ⟨gg,λ_=>⟨λx u gC fP=>?_,al⟩⟩;rw [aA] at gC; rw [hu] at fP;cases gC; cases fP;exact h1
    ·exact ⟨c0,λh=>absurd h hk⟩
   obtain ⟨r9,qK⟩:=Classical.axiomOfChoice this;refine ⟨_,.obj (Fs:=r9) bj (by omega) h1 (λk x u J hu=>(qK k (by rw [<- aq]; exact (List.getElem?_eq_some_iff.1 J).1)).1 x u J hu) (λaf k c aa hk h aU=>aZ af k c (by omega) (by omega) ((qK af (by omega)).2 c h) ((qK k (by omega)).2 c aU)) (λk hk h=>aJ k (by omega) ((qK k (by omega)).2 b h)) (λc=>Iff.rfl),λc ae=>?_⟩;rcases ae with rfl | ⟨k,hk,h⟩
   ·exact (aQ _).2 (.inl rfl)
   ·exact (aQ c).2 (.inr ⟨k,by omega,(qK k (by omega)).2 c h⟩)
 | @own z n cs cs' aq _ aR =>
  intro v F bm;cases bm with
  | ref J=>simp [aj.isRef] at J
  | @own _ _ _ _ e us bR _ bj ic h1 ax aZ aJ aQ =>
   have:∀ k,∃ r9:bu,k<cs.length->(∀ (x:aj) (u:Value),cs'[k]?=some x->us[k]?=some u->R w I ρ x u r9)/\∀ c,r9 c->bR k c:=by
    intro k;by_cases hk:k<cs.length
    ·have J:=List.getElem?_eq_getElem hk;have aA:cs'[k]?=some (cs'[k]'(by omega)):=List.getElem?_eq_getElem (by omega);have hu:us[k]?=some (us[k]'(by omega)):=List.getElem?_eq_getElem (by omega);obtain ⟨gg,h1,al⟩:=aR k _ _ J aA (ax k _ _ J hu);refine ⟨gg,λ_=>⟨λx u gC fP=>?_,al⟩⟩;rw [aA] at gC; rw [hu] at fP;cases gC; cases fP;exact h1
    ·exact ⟨c0,λh=>absurd h hk⟩
   obtain ⟨r9,qK⟩:=Classical.axiomOfChoice this;refine ⟨_,.own (Fs:=r9) bj (by omega) h1 (λk x u J hu=>(qK k (by rw [<- aq]; exact (List.getElem?_eq_some_iff.1 J).1)).1 x u J hu) (λaf k c aa hk h aU=>aZ af k c (by omega) (by omega) ((qK af (by omega)).2 c h) ((qK k (by omega)).2 c aU)) (λk c hk h=>aJ k c (by omega) ((qK k (by omega)).2 c h)) (λc=>Iff.rfl),λc ae=>?_⟩;rcases ae with ae | ⟨k,hk,h⟩
   ·exact (aQ _).2 (.inl ae)
   ·exact (aQ c).2 (.inr ⟨k,by omega,(qK k (by omega)).2 c h⟩)
structure kX (g1 g2:a7):Prop where
 sub:∀ t x,g2 t=some x->∃ y,g1 t=some y/\oy y x
 bo:∀ t x,g2 t=some x->e' g2 x
 fZ:∀ t z q n m new,g2 t≠some (.bY z q n m new)
theorem dd.gj {w:World}{I:bu}{T:Array Value}{g1 g2:a7}{Fs:Nat->bu}(h:dd w I T g1 Fs) (hk:kX g1 g2):∃ cB,dd w I T g2 cB/\∀ t c,cB t c->Fs t c:=by
 have:∀ t,∃ gg:bu,(∀ x,g2 t=some x->∃ v,T[t]?=some v/\R w I (eG w T g2) x v gg)/\(∀ c,gg c->Fs t c)/\(g2 t=none->∀ c,¬ gg c):=by
  intro t;cases J:g2 t with
  | none=>exact ⟨c0,by simp,λ_ h=>h.elim,λ_ _ h=>h⟩
  | some x =>
   obtain ⟨y,aA,hw⟩:=hk.sub t x J;obtain ⟨v,hv,bm⟩:=h.mj.rel t y aA;have l8:∀ z q n m new,y≠.bY z q n m new:=by
    rintro z q n m new rfl;cases hw with
    | refl=>exact hk.fZ _ _ _ _ _ _ J
    | dead ca=>rcases ca with ca | ca <;> cases ca
   obtain ⟨gg,jC,oD⟩:=R.gj hw (bm.h9 l8);exact ⟨gg,λx' gC=>by cases gC; exact ⟨v,hv,jC.bo (hk.bo t x J)⟩,oD,by simp⟩
 obtain ⟨cB,sF⟩:=Classical.axiomOfChoice this;refine ⟨cB,⟨λt x J=>?_,λt aG=>(sF t).2.2 aG,λt dD c h1 al=>h.fi _ _ _ ((sF t).2.1 c h1) ((sF dD).2.1 c al),λt c ae=>h.aD _ _ ((sF t).2.1 c ae),h.lt,λt dD z p n m new _ _ _ _ h1=>absurd h1 (hk.fZ _ _ _ _ _ _)⟩,λt=>(sF t).2.1⟩;obtain ⟨v,hv,bm⟩:=(sF t).1 x J;exact ⟨v,hv,.tree bm⟩
theorem gM.weaken {c:Code}{g g1 g':a7}{e:Exit}(hk:kX g g1) (h:gM P N c g1 e g'):gM P N c g e g':=by
 intro Q a w I Fs b5 b1 ea;obtain ⟨cB,eO,gT⟩:=b5.gj hk;exact h eO b1 λcJ w' aP=>ea _ _ (il.trans rfl h5.refl ⟨Fr.refl _ _,λ_ h=>h,λ_ h=>.inl h,λc ⟨t,ae⟩=>.inl ⟨t,gT t c ae⟩⟩ aP)
theorem r7.weaken {c:Code}{g g1 g':a7}{e:Exit}(hk:kX g g1) (h:r7 P N c g1 e g'):r7 P N c g e g':=by
 intro Q a w I Fs b5 b1 ea;obtain ⟨cB,eO,gT⟩:=b5.gj hk;exact h eO b1 λcJ w' aP=>ea _ _ (il.trans rfl h5.refl ⟨Fr.refl _ _,λ_ h=>h,λ_ h=>.inl h,λc ⟨t,ae⟩=>.inl ⟨t,gT t c ae⟩⟩ aP)
end
end Go.Own
namespace Go.Own
open Go
inductive yM (P:Program) (g:a7):ResultVar->aj->Prop
 | tmp {t:Nat}{y:aj}(h:bT g (.tmp t)=some y):yM P g (.tmp t) y
 | cell {a:Nat}{t ty:TypeId}{y:aj}(h:dB P g (.load t (.tmp a)) ty y):yM P g (.cell a t) y
inductive qy (P:Program) (g:a7):List ResultVar->List aj->Prop
 | nil:qy P g [] []
 | cons {r:ResultVar}{rs:List ResultVar}{y:aj}{ys:List aj}(h:yM P g r y) (aG:qy P g rs ys):qy P g (r::rs) (y::ys)
def ql:List aj->aj
 | [x]=>x
 | l=>.cA l
def wm:List Value->Value
 | [x]=>x
 | l=>.tuple l.toArray
def uI (tmps:Array Value):ResultVar->Sem Value
 | .tmp t=>pure (tmps.getD t undef)
 | .cell a t=>do loadVar t (<- asAddr (tmps.getD a undef))
section
variable {P:Program}{w:World}{I:bu}{g:a7}{Fs:Nat->bu}
theorem yM.run {a:Act}(h:dd w I a.tmps g Fs) {r:ResultVar}{y:aj}(ax:yM P g r y):∃ v,(uI a.tmps r).run P w=.ok v w/\R w I (eG w a.tmps g) y v c0:=by
 cases ax with
 | @tmp t y h1=>exact ⟨_,rfl,la h h1 rfl⟩
 | @cell a0 t ty y h1 =>
  obtain ⟨v, hv, bm⟩ := dB.sound h rfl (o := { dst := none, op := .load t (.tmp a0), type := ty, pos := "", after := #[], guard := none }) h1;refine ⟨v,?_,bm⟩;have he:a.eval (.tmp a0)=a.tmps.getD a0 undef:=rfl;simp only [execOp,he] at hv;cases ae:a.tmps.getD a0 undef with
  | pointer ad =>
   cases ad with
   | some ad =>
    rw [ae] at hv;simp only [Instr.loadAt,Instr.sureAddr] at hv;simp only [uI,ae,asAddr];have aH:(pure ad >>= λx=>loadVar t x:Sem Value)=loadVar t ad:=by simp
    rw [aH];revert hv;generalize bW:loadVar t ad=q;intro hv;simp [bW] at hv;cases C_:q.run P w with
    | ok x iw=>rw [C_] at hv; simp at hv; rw [hv.1,hv.2]
    | halt e iw=>rw [C_] at hv; simp at hv
   | none=>rw [ae] at hv; simp [Instr.loadAt,Instr.sureAddr] at hv
  | _=>rw [ae] at hv; simp [Instr.loadAt,Instr.sureAddr] at hv
theorem M3 {f:ResultVar->Sem Value}:∀ (l:List ResultVar) (vs:List Value),l.length=vs.length->(∀ (k:Nat) (r:ResultVar) (v:Value),l[k]?=some r->vs[k]?=some v->(f r).run P w=.ok v w)->(l.mapM f).run P w=.ok vs w
 | [],[],_,_=>rfl
 | r::l,v::vs,aq,h=>by
  have bf:=h 0 r v rfl rfl;have h1:=M3 l vs (by simpa using aq) λk r v ax hv=>h (k+1) r v (by simpa using ax) (by simpa using hv);simp [List.mapM_cons,bf,h1]
 | [],_::_,aq,_=>by simp at aq
 | _::_,[],aq,_=>by simp at aq
theorem Vc {fn:Func}{tmps:Array Value}{vs:List Value}(aq:fn.results.toList.length=vs.length) (h:∀ (k:Nat) (r:ResultVar) (v:Value),fn.results.toList[k]?=some r->vs[k]?=some v->(uI tmps r).run P w=.ok v w):(results fn tmps).run P w=.ok (wm vs) w:=by
 have h1:=M3 fn.results.toList vs aq h;have al:fn.results.mapM (uI tmps)=List.toArray <$> fn.results.toList.mapM (uI tmps):=Array.mapM_eq_mapM_toList;have aS:(fn.results.mapM (uI tmps)).run P w=.ok vs.toArray w:=by rw [al]; simp [h1]
 have b7:results fn tmps=(do let vs <- fn.results.mapM (uI tmps); pure (if h:vs.size=1 then vs[0] else .tuple vs)):=by
  unfold results;congr 1
 rw [b7];simp only [Sem.run_bind,aS]
 match vs with
 | []=>rfl
 | [x]=>rfl
 | x::y::l=>simp [wm]
theorem qy.length {g:a7}{rs:List ResultVar}{ys:List aj}(h:qy P g rs ys):rs.length=ys.length:=by
 induction h with
 | nil=>rfl
 | cons _ _ aR=>simp [aR]
theorem qy.run {a:Act}(h:dd w I a.tmps g Fs) {rs:List ResultVar}{ys:List aj}(ax:qy P g rs ys):∃ vs:List Value,rs.length=vs.length/\(∀ (k:Nat) (r:ResultVar) (v:Value),rs[k]?=some r->vs[k]?=some v->(uI a.tmps r).run P w=.ok v w) /\
  ∀ (k:Nat) (y:aj) (v:Value),ys[k]?=some y->vs[k]?=some v->R w I (eG w a.tmps g) y v c0:=by
 induction ax with
 | nil=>exact ⟨[],rfl,by simp,by simp⟩
 | cons h1 _ aR =>
  obtain ⟨v,hv,bm⟩:=h1.run h;obtain ⟨vs,aq,al,aS⟩:=aR;refine ⟨v::vs,by simp [aq],λk r u ax hu=>?_,λk y u aA hu=>?_⟩
  ·cases k with
   | zero=>simp at ax hu; subst ax hu; exact hv
   | succ k=>exact al k r u (by simpa using ax) (by simpa using hu)
  ·cases k with
   | zero=>simp at aA hu; subst aA hu; exact bm
   | succ k=>exact aS k y u (by simpa using aA) (by simpa using hu)
theorem Hand.ql {ρ:aj->Value->Prop}{Fs:Nat->bu}{xs:List aj}{vs:List Value}{dU:Nat->bu}(h:Hand w I ρ Fs xs vs dU) (aP:∀ x∈xs,dn x) (ρ':aj->Value->Prop):R w I ρ' (ql xs) (wm vs) (λc=>∃ k,k<xs.length/\dU k c)/\dn (ql xs):=by
 have cA:R w I ρ' (.cA xs) (.tuple vs.toArray) (λc=>∃ k,k<xs.length/\dU k c) :=
  .cA (by simpa using h.len) (λk x u J hu=>(h.rel k x u J (by simpa using hu)).bP (aP x (List.mem_of_getElem? J))) h.fi λc=>Iff.rfl
 match xs,vs,h,aP,cA with
 | [],[],_,_,cA=>exact ⟨cA,.cA (by simp)⟩
 | [x],[v],h,aP,_ =>
  refine ⟨((h.rel 0 x v rfl rfl).bP (aP x (by simp))).xi λc=>⟨λae=>⟨0,by simp,ae⟩,λ⟨k,hk,ae⟩=>?_⟩,aP x (by simp)⟩;have:k=0:=by simpa using hk
  subst this; exact ae
 | x::y::l,v::u::m,_,aP,cA=>exact ⟨cA,.cA aP⟩
 | [],_::_,h,_,_=>have:=h.len; simp at this
 | _::_,[],h,_,_=>have:=h.len; simp at this
 | [_],_::_::_,h,_,_=>have:=h.len; simp at this
 | _::_::_,[_],h,_,_=>have:=h.len; simp at this
structure Leaves (P:Program) (N:dW) (rs:List ResultVar) (g':a7) (n:Nat) (outs:List (Option aj)) (res:aj):Prop where
 ex:∃ ys xs g1,qy P g' rs ys/\Take g' ys xs g1/\res=ql xs/\∀ (k:Nat) (x:aj),outs[k]?=some (some x)->g1 k=some x/\dn x/\k∈N.pins
 len:outs.length=n
theorem dd.more {T:Array Value}(h:dd w I T g Fs) {T':Array Value}(fO:∀ t,g t≠none->T'[t]?=T[t]?):dd w I T' g Fs:=by
 refine ⟨λt x J=>?_,h.kL,h.fi,h.aD,h.lt,h.qj⟩;obtain ⟨u,hu,bm⟩:=h.rel t x J;exact ⟨u,by rw [fO t (by rw [J]; simp)]; exact hu,h.vn fO (λ_ _ _=>rfl) (λ_ _=>rfl) (λ_ h=>h) (λ_ _ h=>h) bm λ_ _=>rfl⟩
end
end Go.Own
namespace Go.Own
open Go
section
variable {P:Program}{N:dW}
def W (P:Program) (N:dW) (c:Code) (g:a7) (Φ:Exit->a7->Prop):Prop :=
 ∀ ⦃Q:Exit->Act->World->Prop⦄ ⦃a:Act⦄ ⦃w:World⦄ ⦃I:bu⦄ ⦃Fs:Nat->bu⦄,dd w I a.tmps g Fs->a.tmps.size=N.size->(∀ e g' cJ w',Φ e g'->il N a w I Fs g' cJ w'->Q e cJ w')->c.wp P Q a w
def tc (fV:a7->Prop) (Φ:Exit->a7->Prop):Exit->a7->Prop
 | .normal,g=>fV g
 | e,g=>Φ e g
def rU (id:Nat) (Φ:Exit->a7->Prop):Exit->a7->Prop
 | .exit k,g=>if k=id then Φ .normal g else Φ (.exit k) g
 | e,g=>Φ e g
theorem il.refl {a:Act}{w:World}{I:bu}{g:a7}{Fs:Nat->bu}(h:dd w I a.tmps g Fs):il N a w I Fs g a w:=⟨rfl,h5.refl,_,_,h,kW.refl _ _ _⟩
theorem gM.w {c:Code}{g g':a7}{e:Exit}{Φ:Exit->a7->Prop}(h:gM P N c g e g') (nB:Φ e g'):W P N c g Φ :=
 λ_ _ _ _ _ b5 b1 ea=>h b5 b1 λcJ w' aP=>ea _ _ cJ w' nB aP
theorem W.mono {c:Code}{g:a7}{Φ pV:Exit->a7->Prop}(h:W P N c g Φ) (nB:∀ e g',Φ e g'->pV e g'):W P N c g pV :=
 λ_ _ _ _ _ b5 b1 ea=>h b5 b1 λ_ _ cJ w' h1 aP=>ea _ _ cJ w' (nB _ _ h1) aP
theorem W.skip {g:a7}{Φ:Exit->a7->Prop}(h:Φ .normal g):W P N .skip g Φ:=gM.skip.w h
theorem W.ret {g:a7}{Φ:Exit->a7->Prop}(h:Φ .ret g):W P N .ret g Φ:=gM.ret.w h
theorem W.exit {g:a7}{id:Nat}{Φ:Exit->a7->Prop}(h:Φ (.exit id) g):W P N (.exit id) g Φ:=gM.exit.w h
theorem W.seq {x y:Code}{g:a7}{Φ:Exit->a7->Prop}(h:W P N x g (tc (λg1=>W P N y g1 Φ) Φ)):W P N (.seq x y) g Φ:=by
 intro Q a w I Fs b5 b1 ea;refine wp_seq (h b5 b1 λe g1 ar jH h1 aP=>?_);cases e with
 | normal =>
  obtain ⟨dz,de,I',cB,eO,cp⟩:=aP;exact h1 eO (de.1.trans b1) λss g2 a2 iw al oH=>ea _ _ _ _ al (il.trans dz de cp oH)
 | _=>exact ea _ _ _ _ h1 aP
theorem W.cond {c:Operand}{x y:Code}{g:a7}{Φ:Exit->a7->Prop}{b:Bool}(ae:bT g c=some (.lit (.bool b))) (h:W P N (if b then x else y) g Φ):W P N (.cond c x y) g Φ :=
 λ_ _ _ _ _ b5 b1 ea=>wp_cond (t:=b) (la b5 ae rfl).iu.1 (h b5 b1 ea)
theorem W.Ka {c:Operand}{x y:Code}{g:a7}{Φ:Exit->a7->Prop}(ae:bT g c=some (.lit (.bool true))) (h:W P N x g Φ):W P N (.cond c x y) g Φ:=W.cond ae h
theorem W.E' {c:Operand}{x y:Code}{g:a7}{Φ:Exit->a7->Prop}(ae:bT g c=some (.lit (.bool false))) (h:W P N y g Φ):W P N (.cond c x y) g Φ:=W.cond ae h
theorem W.block {id:Nat}{c:Code}{g:a7}{Φ:Exit->a7->Prop}(h:W P N c g (rU id Φ)):W P N (.block id c) g Φ:=by
 intro Q a w I Fs b5 b1 ea;refine wp_block (h b5 b1 λe g1 ar jH h1 aP=>?_);cases e with
 | exit k =>
  have al:if k=id then Φ .normal g1 else Φ (.exit k) g1:=h1
  simp only [Exit.inBlock];by_cases hk:k=id
  ·rw [if_pos hk] at al ⊢;exact ea _ _ _ _ al aP
  ·rw [if_neg hk] at al ⊢;exact ea _ _ _ _ al aP
 | _=>exact ea _ _ _ _ h1 aP
def ox (P:Program) (N:dW) (c:Code) (g:a7) (Φ:Exit->a7->Prop):Prop :=
 ∀ ⦃Q:Exit->Act->World->Prop⦄ ⦃a:Act⦄ ⦃w:World⦄ ⦃I:bu⦄ ⦃Fs:Nat->bu⦄,dd w I a.tmps g Fs->a.tmps.size=N.size->(∀ e g' cJ w',Φ e g'->il N a w I Fs g' cJ w'->Q e cJ w')->BT P c Q a w
theorem W.loop {c:Code}{g:a7}{Φ:Exit->a7->Prop}(h:ox P N c g Φ):W P N (.loop c) g Φ:=by
 intro Q a w I Fs b5 b1 ea b k cs;obtain ⟨e,cJ,w',bW,lq⟩:=h b5 b1 ea b k cs;exact ⟨e,cJ,w',bW,.of_steps (.one step_loop) lq⟩
theorem ox.step {c:Code}{g:a7}{Φ:Exit->a7->Prop}(h:W P N c g (tc (λg1=>ox P N c g1 Φ) Φ)):ox P N c g Φ:=by
 intro Q a w I Fs b5 b1 ea;refine Hy (h b5 b1 λe g1 ar jH h1 aP=>?_);cases e with
 | normal =>
  obtain ⟨dz,de,I',cB,eO,cp⟩:=aP;exact h1 eO (de.1.trans b1) λss g2 a2 iw al oH=>ea _ _ _ _ al (il.trans dz de cp oH)
 | _=>exact ea _ _ _ _ h1 aP
theorem W.weaken {c:Code}{g g1:a7}{Φ:Exit->a7->Prop}(hk:kX g g1) (h:W P N c g1 Φ):W P N c g Φ:=by
 intro Q a w I Fs b5 b1 ea;obtain ⟨cB,eO,gT⟩:=b5.gj hk;exact h eO b1 λe g' cJ w' h1 aP=>ea _ _ _ _ h1 (il.trans rfl h5.refl ⟨Fr.refl _ _,λ_ h=>h,λ_ h=>.inl h,λc ⟨t,ae⟩=>.inl ⟨t,gT t c ae⟩⟩ aP)
theorem ox.weaken {c:Code}{g g1:a7}{Φ:Exit->a7->Prop}(hk:kX g g1) (h:ox P N c g1 Φ):ox P N c g Φ:=by
 intro Q a w I Fs b5 b1 ea;obtain ⟨cB,eO,gT⟩:=b5.gj hk;exact h eO b1 λe g' cJ w' h1 aP=>ea _ _ _ _ h1 (il.trans rfl h5.refl ⟨Fr.refl _ _,λ_ h=>h,λ_ h=>.inl h,λc ⟨t,ae⟩=>.inl ⟨t,gT t c ae⟩⟩ aP)
theorem W.out {c:Code}{g:a7}{Φ pV:Exit->a7->Prop}(h:W P N c g Φ) (nB:∀ e g',Φ e g'->∃ g2,kX g' g2/\pV e g2):W P N c g pV:=by
 intro Q a w I Fs b5 b1 ea;refine h b5 b1 λe g' cJ w' h1 aP=>?_;obtain ⟨g2,hk,al⟩:=nB e g' h1;obtain ⟨dz,de,I',cB,eO,cp⟩:=aP;obtain ⟨jd,im,gT⟩:=eO.gj hk;exact ea _ _ _ _ al ⟨dz,de,I',jd,im,cp.trans ⟨Fr.refl _ _,λ_ h=>h,λ_ h=>.inl h,λc ⟨t,ae⟩=>.inl ⟨t,gT t c ae⟩⟩⟩
def I6 (P:Program) (N:dW) (ops:Array Oper) (is:List Nat) (g:a7) (K:a7->Prop):Prop:=∃ g',nS P N ops is g g'/\K g'
theorem W.region {id:Nat}{ops:Array Oper}{g:a7}{Φ:Exit->a7->Prop}(h:I6 P N ops (List.range ops.size) g (Φ .normal)):W P N (.region id ops false) g Φ:=by
 obtain ⟨g',ax,nB⟩:=h;exact (gM.region ax).w nB
theorem b6.UD {f:FuncId}{fn:Func}{c:Code}{args:List aj}{outs:List (Option aj)}{res:aj}{N:dW}(bp:P.funcs[f]?=some fn) (aJ:fn.body=some c) (b1:fn.ntmps=N.size) (bk:args.length<=N.size)
  (hlen:outs.length=args.length) (hw:W P N c (pe args) λe g'=>(e=.normal\/e=.ret)/\Leaves P N fn.results.toList g' args.length outs res):b6 P f args outs res:=by
 refine ⟨hlen,λw I vs Fs GP b5=>calls_of_wp bp aJ ?_⟩;have gy:({ tmps:=vs.toArray++Array.replicate (fn.ntmps - vs.toArray.size) undef,defers:=[] }:Act).tmps.size=N.size:=by
  simp; omega
 have py:∀ t,t<vs.length->(vs.toArray++Array.replicate (fn.ntmps - vs.toArray.size) undef)[t]?=vs.toArray[t]?:=by
  intro t aG;rw [Array.getElem?_append_left (by simpa using aG)]
 refine hw (b5.more (T':=vs.toArray++Array.replicate (fn.ntmps - vs.toArray.size) undef) λt aG=>py t ?_) gy λe g' cJ w' ⟨he,bj⟩ aP=>?_
 ·unfold pe at aG;rw [GP];rcases Nat.lt_or_ge t args.length with h | h
  ·exact h
  ·exact absurd (List.getElem?_eq_none h) aG
 obtain ⟨aZ,hold,I',cB,eO,cp⟩:=aP;obtain ⟨ys,xs,g1,LR,aG,rfl,pB⟩:=bj.ex;obtain ⟨us,qT,iq,mu⟩:=LR.run eO;have Df:ys.length=us.length:=by rw [<- LR.length,qT]
 obtain ⟨gp,dU,jf,iJ,hs⟩:=aG.sound eO.mj (⟨Df,λk x u J hu=>(mu k x u J hu).frame (λ_ _=>rfl) (λ_ h=>h) (λ_ _ h=>h.1) λ_ _=>rfl,λ_ _ _ _ _ h=>h.elim,λ_ _ _ _ h=>h.elim,λ_ _ _ h=>h.elim⟩:Hand w' I' (gr w' cJ.tmps) cB ys us λ_=>c0);have gT:∀ c,lg gp xs.length dU c->∃ t,cB t c:=by
  intro c ae;rcases hs c ae with h | ⟨_,_,h⟩
  ·exact h
  ·exact h.elim
 have SE:∃ jd,dd w' I' (vs++[wm us]).toArray (oV outs (ql xs)) jd/\∀ t c,jd t c->∃ t,cB t c:=by
  classical
  refine ⟨λt=>if t=outs.length then (λc=>∃ k,k<xs.length/\dU k c) else if ∃ x,outs[t]?=some (some x) then gp t else c0,⟨λt x J=>?_,λt qc c ae=>?_,λt dD c h1 al=>?_,λt c ae=>?_,eO.lt,λt dD z p n m new cN c5 cb ds h1 al=>?_⟩,λt c ae=>?_⟩
  ·unfold oV at J;by_cases bf:t=outs.length
   ·rw [if_pos bf] at J;cases J;subst bf;refine ⟨wm us,?_,.tree ?_⟩
    ·rw [bj.len,<- GP]; simp
    ·simpa using (iJ.ql aG.Aw _).1
   ·rw [if_neg bf] at J;have gC:outs[t]?=some (some x):=by
     cases ca:outs[t]? with
     | none=>rw [ca] at J; cases J
     | some y=>rw [ca] at J; simpa using J
    obtain ⟨h1,al,aS⟩:=pB t x gC;have GK:t<vs.length:=by
     have:=(List.getElem?_eq_some_iff.1 gC).1;rw [GP,<- bj.len]; exact this
    obtain ⟨v,hv,bm⟩:=jf.rel t x h1;refine ⟨v,?_,?_⟩
    ·rw [hold.2 t aS] at hv;simp only at hv;rw [py t GK] at hv;simp only [List.getElem?_toArray] at hv ⊢;rw [List.getElem?_append_left GK]; exact hv
    ·simp only [bf,if_false];rw [if_pos ⟨x,gC⟩];exact .tree ((bm.h9 (by rintro z p n m new rfl; cases al)).bP al)
  ·unfold oV at qc;by_cases bf:t=outs.length
   ·rw [if_pos bf] at qc; cases qc
   ·rw [if_neg bf] at qc;simp only [bf,if_false] at ae;rw [if_neg] at ae
    ·exact ae
    ·rintro ⟨x,J⟩;rw [J] at qc; cases qc
  ·by_cases bf:t=outs.length <;> by_cases CK:dD=outs.length <;> simp only [bf,CK,if_true,if_false] at h1 al
   ·rw [bf,CK]
   ·split at al
    ·obtain ⟨k,hk,ae⟩:=h1;exact absurd al (iJ.off k dD c hk ae)
    ·exact al.elim
   ·split at h1
    ·obtain ⟨k,hk,ae⟩:=al;exact absurd h1 (iJ.off k t c hk ae)
    ·exact h1.elim
   ·split at h1
    ·split at al
     ·exact jf.fi _ _ _ h1 al
     ·exact al.elim
    ·exact h1.elim
  ·by_cases bf:t=outs.length <;> simp only [bf,if_true,if_false] at ae
   ·obtain ⟨k,hk,ae⟩:=ae;exact iJ.aD k c hk ae
   ·split at ae
    ·exact jf.aD _ _ ae
    ·exact ae.elim
  ·have key:∀ t x,oV outs (ql xs) t=some x->dn x:=by
    intro t x J;unfold oV at J
    split at J
    ·cases J; exact (iJ.ql aG.Aw (λ_ _=>False)).2
    ·cases ca:outs[t]? with
     | none=>rw [ca] at J; cases J
     | some y=>rw [ca] at J; exact (pB t x (by rw [ca]; simpa using J)).2.1
   have:=key t _ h1;cases this
  ·by_cases bf:t=outs.length <;> simp only [bf,if_true,if_false] at ae
   ·obtain ⟨k,hk,ae⟩:=ae;exact gT c (.inr ⟨k,hk,ae⟩)
   ·split at ae
    ·exact gT c (.inl ⟨t,ae⟩)
    ·exact ae.elim
 obtain ⟨jd,im,Tk⟩:=SE;have S9:cJ.defers=[]/\∃ v,(results fn cJ.tmps).run P w'=.ok v w'/\∃ h0 I' cB,Ending.returned v=.returned h0/\dd w' I' (vs++[h0]).toArray (oV outs (ql xs)) cB/\kW w I (λc=>∃ t,Fs t c) w' I' (λc=>∃ t,cB t c) :=
  ⟨aZ,wm us,Vc qT iq,wm us,I',jd,rfl,im,cp.trans ⟨Fr.refl _ _,λ_ h=>h,λ_ h=>.inl h,λc ⟨t,ae⟩=>.inl (Tk t c ae)⟩⟩
 rcases he with rfl | rfl <;> exact S9
end
end Go.Own
namespace Go.Own
open Go
def get:List (Nat × aj)->a7
 | [],_=>none
 | (s,x)::l,t=>if t=s then some x else get l t
inductive Rd (g:a7):Operand->aj->Prop
 | lit {t:Nat}{v:Value}(h:g t=some (.lit v)):Rd g (.tmp t) (.lit v)
 | k {v:Value}(h:ofConst v=.lit v):Rd g (.const v) (.lit v)
 | Ds:Rd g (.const (.slice none 0 0)) .aF
 | Ul {v:Value}{cs:List aj}(h:ofConst v=.agg cs):Rd g (.const v) (.agg cs)
 | aF {t:Nat}(h:g t=some .aF):Rd g (.tmp t) .aF
 | aD {t z n:Nat}{cs:List aj}(h:g t=some (.aD z n cs)):Rd g (.tmp t) (.aD z n cs)
 | own {t z n:Nat}{cs:List aj}(h:g t=some (.own z n cs)):Rd g (.tmp t) (.bh z ⟨t,[]⟩ n)
 | obj {t:Nat}{c:aj}{cs:List aj}(h:g t=some (.obj (c::cs))):Rd g (.tmp t) (.ptr ⟨t,[]⟩ 0)
 | bn {t:Nat}{cs:List aj}(h:g t=some (.bn cs)):Rd g (.tmp t) (.bn cs)
 | ptr {t k:Nat}{p:Place}(h:g t=some (.ptr p k)):Rd g (.tmp t) (.ptr p k)
 | bh {t z n:Nat}{p:Place}(h:g t=some (.bh z p n)):Rd g (.tmp t) (.bh z p n)
 | sub {t z lo n:Nat}{p:Place}(h:g t=some (.sub z p lo n)):Rd g (.tmp t) (.sub z p lo n)
 | bY {t z n m:Nat}{p:Place}{new:List aj}(h:g t=some (.bY z p n m new)):Rd g (.tmp t) (.bh z ⟨t,[]⟩ (n+m))
 | agg {t:Nat}{cs cs':List aj}(h:g t=some (.agg cs)) (ae:(cs.mapIdx λi x=>ig 1 (Place.push ⟨t,[]⟩ i) x)=cs'):Rd g (.tmp t) (.agg cs')
 | cA {t:Nat}{cs cs':List aj}(h:g t=some (.cA cs)) (ae:(cs.mapIdx λi x=>ig 1 (Place.push ⟨t,[]⟩ i) x)=cs'):Rd g (.tmp t) (.cA cs')
 | func {f:FuncId}:Rd g (.func f) (.eB (.func f) [] [])
 | eB {t:Nat}{fn:Fn}{cs:List aj}(h:g t=some (.eB fn [] cs)):Rd g (.tmp t) (.eB fn [] cs)
 | mp {t:Nat}{q:Array MapEntry->Nat->Prop}(h:g t=some (.mp q)):Rd g (.tmp t) (.i' ⟨t,[]⟩)
 | i' {t:Nat}{p:Place}(h:g t=some (.i' p)):Rd g (.tmp t) (.i' p)
 | imp {t:Nat}{q:Array MapEntry->Nat->Prop}(h:g t=some (.imp q)):Rd g (.tmp t) (.imp q)
theorem Rd.bT {g:a7}{x:Operand}{y:aj}(h:Rd g x y):bT g x=some y:=by
 cases h with
 | agg h ae=>subst ae; simp [Own.bT,h,q6,ig]
 | cA h ae=>subst ae; simp [Own.bT,h,q6,ig]
 | k h=>simp [Own.bT,h]
 | Ds=>rfl
 | Ul h=>simp [Own.bT,h]
 | func=>rfl
 | _ h=>simp [Own.bT,h,q6,ig]
section
variable {P:Program}{N:dW}{ops:Array Oper}{g:a7}{K:a7->Prop}{l:List Oper}
def au (P:Program) (N:dW) (ops:Array Oper) (l:List Oper) (g:a7) (K:a7->Prop):Prop:=∀ i,ops.toList.drop i=l->I6 P N ops (List.range' i l.length) g K
theorem W.U4 {id:Nat}{l:List Oper}{g:a7}{Φ:Exit->a7->Prop}(h:au P N l.toArray l g (Φ .normal)):W P N (.region id l.toArray false) g Φ:=by
 refine W.region ?_;have:=h 0 (by simp);rw [List.range_eq_range'];simpa using this
theorem au.nil (h:K g):au P N ops [] g K:=λ_ _=>⟨g,.nil,h⟩
theorem drop_cons {i:Nat}{o:Oper}(h:ops.toList.drop i=o::l):ops[i]?=some o/\ops.toList.drop (i+1)=l:=by
 have h1:(ops.toList.drop i)[0]?=some o:=by rw [h]; rfl
 rw [List.getElem?_drop] at h1;refine ⟨by simpa using h1,?_⟩;rw [<- List.drop_drop,h];rfl
variable {d:Nat}{op:Op}{ty:TypeId}{pos:String}{after:Array Edge}{x:aj}
theorem au.yv {r:Option aj}{o:Oper}(aZ:o.dst=some d) (b1:N.ok d=true) (bp:g d=none) (aO:pa P g ops o r) (hk:au P N ops l (wj g d r) K):au P N ops (o::l) g K:=by
 intro i hi;obtain ⟨h1,al⟩:=drop_cons hi;obtain ⟨g',ax,eJ⟩:=hk (i+1) al;exact ⟨g',.step h1 aZ bp b1 aO ax,eJ⟩
inductive IY (g:a7) (d:Nat):a7->Prop
 | new (h:g d=none):IY g d g
 | lO {y:aj}(h:g d=some y) (aq:leaf y=true):IY g d (del g d)
inductive gA (g:a7) (ops:Array Oper):Option (Nat × Bool)->Prop
 | none:gA g ops none
 | yes {af t:Nat}{b:Bool}(h:(ops[af]?).bind (·.dst)=some t) (bb:g t=some (.lit (.bool b))):gA g ops (some (af,b))
variable {iA:Option (Nat × Bool)}{g1:a7}
theorem gA.del {y:aj}(h:gA g ops iA) (aZ:g d=some y) (aJ:∀ b,y≠.lit (.bool b)):iU (del g d) ops ⟨some d,op,ty,pos,after,iA⟩ true:=by
 cases h with
 | none=>rfl
 | @yes af t b h bb =>
  have:t≠d:=by
   rintro rfl;rw [aZ] at bb; cases bb; exact aJ _ rfl
  exact ⟨t,h,.inl ⟨b,by simp only [Own.del,if_neg this,bb],by simp⟩⟩
theorem gA.wanted (h:gA g ops iA):iU g ops ⟨some d,op,ty,pos,after,iA⟩ true:=by
 cases h with
 | none=>rfl
 | @yes af t b h bb=>exact ⟨t,h,.inl ⟨b,bb,by simp⟩⟩
theorem au.NF (aH:dI P g op ty x) (b1:N.ok d=true) (bp:g d=none) (hw:iU g ops ⟨some d,op,ty,pos,after,iA⟩ true) (hk:au P N ops l (fc g d x) K):au P N ops (⟨some d,op,ty,pos,after,iA⟩::l) g K :=
 .yv rfl b1 bp (r:=some x) (.inl ⟨hw,.inl aH⟩) hk
theorem au.val (aH:dB P g op ty x) (b1:N.ok d=true) (bp:g d=none) (bb:gA g ops iA) (hk:au P N ops l (fc g d x) K):au P N ops (⟨some d,op,ty,pos,after,iA⟩::l) g K :=
 .NF (.fl aH) b1 bp bb.wanted hk
theorem au.VZ (aH:dI P g op ty x) (b1:N.ok d=true) (bp:g d=none) (bb:gA g ops iA) (hk:au P N ops l (fc g d x) K):au P N ops (⟨some d,op,ty,pos,after,iA⟩::l) g K :=
 .NF aH b1 bp bb.wanted hk
theorem au.call (aH:ct P g op x) (b1:N.ok d=true) (bp:g d=none) (bb:gA g ops iA) (hk:au P N ops l (fc g d x) K):au P N ops (⟨some d,op,ty,pos,after,iA⟩::l) g K :=
 .yv rfl b1 bp (r:=some x) (.inl ⟨bb.wanted,.inr aH⟩) hk
theorem au.pass {af dD:Nat}{b:Bool}(h:(ops[af]?).bind (·.dst)=some dD) (bb:g dD=some (.lit (.bool (!b)))) (b1:N.ok d=true) (bp:g d=none) (hk:au P N ops l g K):au P N ops (⟨some d,op,ty,pos,after,some (af,b)⟩::l) g K :=
 .yv rfl b1 bp (r:=Option.none) ⟨dD,h,.inl ⟨!b,bb,by cases b <;> rfl⟩⟩ hk
variable {jQ:Option Nat}
theorem au.forget {g1:a7}(hk:fN g g1) (h:au P N ops l g1 K):au P N ops l g K:=by
 intro i hi;obtain ⟨g',ax,eJ⟩:=h i hi;exact ⟨g',.forget hk ax,eJ⟩
variable {a b:Operand}{t t2:TypeId}{k:IntKind}{m n:Int}
theorem dB.add (J:Rd g a (.lit (.int k m))) (aA:Rd g b (.lit (.int k n))):dB P g (.binOp .add t a b t2) ty (.lit (.int k (k.wrap (m+n)))) :=
 .bin J.bT aA.bT rfl λw=>by simp [eqGuard,binOp,Op.intArith]
theorem dB.Vv (J:Rd g a (.lit (.int k m))) (aA:Rd g b (.lit (.int k n))):dB P g (.binOp .sub t a b t2) ty (.lit (.int k (k.wrap (m - n)))) :=
 .bin J.bT aA.bT rfl λw=>by simp [eqGuard,binOp,Op.intArith]
theorem dB.mul (J:Rd g a (.lit (.int k m))) (aA:Rd g b (.lit (.int k n))):dB P g (.binOp .mul t a b t2) ty (.lit (.int k (k.wrap (m * n)))) :=
 .bin J.bT aA.bT rfl λw=>by simp [eqGuard,binOp,Op.intArith]
theorem dB.quo (J:Rd g a (.lit (.int k m))) (aA:Rd g b (.lit (.int k n))) (h:n≠0):dB P g (.binOp .quo t a b t2) ty (.lit (.int k (k.wrap (m.tdiv n)))) :=
 .bin J.bT aA.bT rfl λw=>by simp [eqGuard,binOp,Op.intDiv,h]
theorem dB.rem (J:Rd g a (.lit (.int k m))) (aA:Rd g b (.lit (.int k n))) (h:n≠0):dB P g (.binOp .rem t a b t2) ty (.lit (.int k (m.tmod n))) :=
 .bin J.bT aA.bT rfl λw=>by simp [eqGuard,binOp,Op.intDiv,h]
theorem dB.cat {s u:ByteArray}(J:Rd g a (.lit (.string s))) (aA:Rd g b (.lit (.string u))) (h:s.size+u.size<=9223372036854775807):dB P g (.binOp .add t a b t2) ty (.lit (.string (s++u))) :=
 .bin J.bT aA.bT rfl λw=>by
  have:¬ ((s.size+u.size:Nat):Int) > IntKind.i64.max:=by
   have:IntKind.i64.max=9223372036854775807:=by decide
   omega
  simp only [eqGuard,binOp,Op.stringOp,if_neg this];simp
theorem JG {s u:ByteArray}(h:s.toList=u.toList):s=u:=by
 have h1:s.data.toList=u.data.toList:=by
  rw [<- ByteArray.toList_eq,<- ByteArray.toList_eq,h]
 cases s; cases u;congr 1;exact Array.toList_inj.1 h1
theorem dB.oA {s u:ByteArray}(J:Rd g a (.lit (.string s))) (aA:Rd g b (.lit (.string u))) {c:Bool}(ae:c=true↔s=u):dB P g (.binOp .eql t a b t2) ty (.lit (.bool c)) :=
 .bin J.bT aA.bT rfl λw=>by
  have:(s.toList == u.toList)=c:=by
   rw [Bool.eq_iff_iff,ae];simp only [beq_iff_eq];exact ⟨JG,λh=>by rw [h]⟩
  simp [eqGuard,binOp,Op.stringOp,this]
theorem dB.ma {s u:ByteArray}(J:Rd g a (.lit (.string s))) (aA:Rd g b (.lit (.string u))) {c:Bool}(ae:c=true↔s≠u):dB P g (.binOp .neq t a b t2) ty (.lit (.bool c)) :=
 .bin J.bT aA.bT rfl λw=>by
  have:(s.toList == u.toList)=!c:=by
   rw [Bool.eq_iff_iff];simp only [beq_iff_eq,Bool.not_eq_true'];cases c with
   | true=>simp only [true_iff] at ae; simp only [Bool.true_eq_false,iff_false]; exact λh=>ae (JG h)
   | false =>
    simp only [Bool.false_eq_true,false_iff,Decidable.not_not] at ae;simp [ae]
  simp [eqGuard,binOp,Op.stringOp,this]
theorem dB.lss (J:Rd g a (.lit (.int k m))) (aA:Rd g b (.lit (.int k n))) {c:Bool}(ae:c=true↔m<n):dB P g (.binOp .lss t a b t2) ty (.lit (.bool c)) :=
 .bin J.bT aA.bT rfl λw=>by
  have:decide (m<n)=c:=by rw [Bool.eq_iff_iff,ae]; simp
  simp [eqGuard,binOp,Op.intCmp,this]
theorem dB.leq (J:Rd g a (.lit (.int k m))) (aA:Rd g b (.lit (.int k n))) {c:Bool}(ae:c=true↔m<=n):dB P g (.binOp .leq t a b t2) ty (.lit (.bool c)) :=
 .bin J.bT aA.bT rfl λw=>by
  have:decide (m<=n)=c:=by rw [Bool.eq_iff_iff,ae]; simp
  simp [eqGuard,binOp,Op.intCmp,this]
theorem dB.gtr (J:Rd g a (.lit (.int k m))) (aA:Rd g b (.lit (.int k n))) {c:Bool}(ae:c=true↔n<m):dB P g (.binOp .gtr t a b t2) ty (.lit (.bool c)) :=
 .bin J.bT aA.bT rfl λw=>by
  have:decide (n<m)=c:=by rw [Bool.eq_iff_iff,ae]; simp
  simp [eqGuard,binOp,Op.intCmp,this]
theorem dB.geq (J:Rd g a (.lit (.int k m))) (aA:Rd g b (.lit (.int k n))) {c:Bool}(ae:c=true↔n<=m):dB P g (.binOp .geq t a b t2) ty (.lit (.bool c)) :=
 .bin J.bT aA.bT rfl λw=>by
  have:decide (n<=m)=c:=by rw [Bool.eq_iff_iff,ae]; simp
  simp [eqGuard,binOp,Op.intCmp,this]
theorem dB.eql (J:Rd g a (.lit (.int k m))) (aA:Rd g b (.lit (.int k n))) {c:Bool}(ae:c=true↔m=n):dB P g (.binOp .eql t a b t2) ty (.lit (.bool c)) :=
 .bin J.bT aA.bT rfl λw=>by
  have:(m == n)=c:=by rw [Bool.eq_iff_iff,ae]; simp
  simp [eqGuard,binOp,Op.intCmp,this]
theorem dB.neq (J:Rd g a (.lit (.int k m))) (aA:Rd g b (.lit (.int k n))) {c:Bool}(ae:c=true↔m≠n):dB P g (.binOp .neq t a b t2) ty (.lit (.bool c)) :=
 .bin J.bT aA.bT rfl λw=>by
  have:(m != n)=c:=by rw [Bool.eq_iff_iff,ae]; simp
  simp [eqGuard,binOp,Op.intCmp,this]
theorem dB.not {c:Bool}(J:Rd g a (.lit (.bool c))):dB P g (.unOp .not t a) ty (.lit (.bool (!c))) :=
 .un J.bT rfl λw=>by simp [Op.unary]
theorem dB.UW {c a b:Operand}{y:aj}(ae:Rd g c (.lit (.bool true))) (ax:Rd g a y):dB P g (.pick c a b) ty y:=.pick ae.bT ax.bT
theorem dB.UU {c a b:Operand}{y:aj}(ae:Rd g c (.lit (.bool false))) (ax:Rd g b y):dB P g (.pick c a b) ty y:=.pick ae.bT ax.bT
theorem dB.mK {s:ByteArray}(J:Rd g a (.lit (.string s))) (aG:o1 P t=true):dB P g (.call { callee:=.builtin .len,args:=#[a],argTypes:=#[t] }) ty (.lit (.int .i64 s.size)) :=
 .lits (vs:=[.string s]) (by simp [J.bT]) rfl λw cs=>by
  simp [builtin,Builtin.len_,run_underlying (It aG),goInt]
section
variable {fV:a7->Prop}{Φ:Exit->a7->Prop}{id k:Nat}
theorem VL (h:fV g):tc fV Φ .normal g:=h
theorem VM (h:Φ .ret g):tc fV Φ .ret g:=h
theorem VK (h:Φ (.exit k) g):tc fV Φ (.exit k) g:=h
theorem Ub (h:Φ .normal g):rU id Φ .normal g:=h
theorem Uc (h:Φ .ret g):rU id Φ .ret g:=h
theorem T_ (h:Φ .normal g):rU id Φ (.exit id) g:=by
 show if id=id then Φ .normal g else Φ (.exit id) g
 rw [if_pos rfl]; exact h
theorem Ua (hk:Nat.beq k id=false) (h:Φ (.exit k) g):rU id Φ (.exit k) g:=by
 show if k=id then Φ .normal g else Φ (.exit k) g
 rw [if_neg (Nat.ne_of_beq_eq_false hk)]; exact h
end
def Fin (P:Program) (N:dW) (rs:List ResultVar) (n:Nat) (outs:List (Option aj)) (res:aj) (e:Exit) (g':a7):Prop:=(e=.normal\/e=.ret)/\Leaves P N rs g' n outs res
theorem b6.fin {f:FuncId}{fn:Func}{c:Code}{args:List aj}{outs:List (Option aj)}{res:aj}{N:dW}(bp:P.funcs[f]?=some fn) (aJ:fn.body=some c) (b1:fn.ntmps=N.size) (bk:Nat.ble args.length N.size=true) (hlen:outs.length=args.length)
  (hw:W P N c (pe args) (Fin P N fn.results.toList args.length outs res)):b6 P f args outs res:=.UD bp aJ b1 (Nat.le_of_ble_eq_true bk) hlen hw
def vV (outs:List (Option aj)):Bool:=outs.all λx=>x.isNone
theorem DC {outs:List (Option aj)}(h:vV outs=true) (k:Nat) (x:aj):outs[k]?≠some (some x):=by
 intro e;have:=List.all_eq_true.1 h _ (List.mem_of_getElem? e);simp at this
theorem Fin.one {t:Nat}{y res:aj}{outs:List (Option aj)}{n:Nat}(aA:Rd g (.tmp t) y) (aP:dn y) (bj:vV outs=true) (aq:outs.length=n) (he:y=res):Fin P N [.tmp t] n outs res .ret g :=
 ⟨.inr rfl,⟨[y],[y],g,.cons (.tmp aA.bT) .nil,.bP (by simpa using aP),he.symm,λk x hk=>absurd hk (DC bj k x)⟩,aq⟩
inductive yL (g:a7):List ResultVar->List aj->Prop
 | nil:yL g [] []
 | cons {t:Nat}{y:aj}{rs:List ResultVar}{ys:List aj}(h:Rd g (.tmp t) y) (aP:dn y) (aG:yL g rs ys):yL g (.tmp t::rs) (y::ys)
theorem yL.spec {rs:List ResultVar}{ys:List aj}(h:yL g rs ys):qy P g rs ys/\∀ y∈ys,dn y:=by
 induction h with
 | nil=>exact ⟨.nil,by simp⟩
 | cons h aP _ aR=>exact ⟨.cons (.tmp h.bT) aR.1,oS aP aR.2⟩
inductive rn (g:a7):List Operand->List aj->Prop
 | nil:rn g [] []
 | cons {x:Operand}{y:aj}{xs:List Operand}{ys:List aj}(h:Rd g x y) (aP:dn y) (aG:rn g xs ys):rn g (x::xs) (y::ys)
theorem rn.spec {xs:List Operand}{ys:List aj}(h:rn g xs ys):iN g xs=some ys/\∀ y∈ys,dn y:=by
 induction h with
 | nil=>exact ⟨rfl,by simp⟩
 | cons h aP _ aR=>exact ⟨by simp only [iN,h.bT,aR.1],oS aP aR.2⟩
theorem ct.QH {xs:List Operand}{iF:Array TypeId}{f:FuncId}{ys:List aj}{outs:List (Option aj)}{res:aj}(jj:b6 P f ys outs res) (bp:du P f=true) (J:rn g xs ys) (bj:vV outs=true) (ax:dn res) :
  ct P g (.call { callee:=.value (.func f),args:=xs.toArray,argTypes:=iF }) res:=by
 have pB:outs=ys.map λ_=>Option.none:=by
  apply List.ext_getElem?;intro k;rw [List.getElem?_map];cases aA:ys[k]? with
  | none=>rw [List.getElem?_eq_none (by rw [jj.1]; exact List.getElem?_eq_none_iff.1 aA)]; rfl
  | some y =>
   have hk:k<outs.length:=by rw [jj.1]; exact (List.getElem?_eq_some_iff.1 aA).1
   have h1:=List.getElem?_eq_getElem hk;rw [h1];cases al:outs[k] with
   | none=>rfl
   | some x=>rw [al] at h1; exact absurd h1 (DC bj k x)
 exact .plain (first:=[]) (caps:=[]) (ys:=ys) rfl (by simpa using J.spec.1) bp (by simpa using J.spec.2) (by simpa [<- pB] using jj) ax
end
end Go.Own
namespace Go.Own
open Go
def yV (s:ByteArray) (m:Int):Int:=((s[m.toNat]?.getD 0).toNat:Nat)
def rF (s:ByteArray) (m n:Int):ByteArray:=s.extract m.toNat n.toNat
section
variable {P:Program}{N:dW}{ops:Array Oper}{g:a7}{K:a7->Prop}{l:List Oper}
variable {d:Nat}{op:Op}{ty:TypeId}{pos:String}{after:Array Edge}{x:aj}{a b:Operand}{t t2:TypeId}{k:IntKind}{m n:Int}{iA:Option (Nat × Bool)}
theorem dB.OL {s:ByteArray}{i:Operand}(J:Rd g a (.lit (.string s))) (hi:Rd g i (.lit (.int k m))) (aG:o1 P t=true) (h:0<=m/\m<s.size):dB P g (.index t a i) ty (.lit (.int .u8 (yV s m))):=by
 obtain ⟨af,rfl⟩:=Int.eq_ofNat_of_zero_le h.1;have aa:af<s.size:=by omega
 have aJ:s[af]?=some s[af]:=getElem?_pos s af aa;have:yV s (af:Int)=(s[af].toNat:Nat):=by simp [yV,aJ]
 rw [this];exact .Dj J.bT hi.bT aG aJ
theorem dB.Ir {s:ByteArray}{lo hi:Operand}{q1:IntKind}(J:Rd g a (.lit (.string s))) (aq:Rd g lo (.lit (.int k m))) (ca:Rd g hi (.lit (.int q1 n))) (aG:o1 P t=true) (h:0<=m/\m<=n/\n<=s.size) :
  dB P g (.slice t a (some lo) (some hi) none) ty (.lit (.string (rF s m n))):=by
 obtain ⟨i,rfl⟩:=Int.eq_ofNat_of_zero_le h.1;obtain ⟨af,rfl⟩:=Int.eq_ofNat_of_zero_le (show 0<=n by omega);exact .Bu J.bT ⟨_,aq.bT⟩ ⟨_,ca.bT⟩ aG (by omega) (by omega)
theorem dB.Vo {s:ByteArray}{hi:Operand}{q1:IntKind}(J:Rd g a (.lit (.string s))) (ca:Rd g hi (.lit (.int q1 n))) (aG:o1 P t=true) (h:0<=n/\n<=s.size) :
  dB P g (.slice t a none (some hi) none) ty (.lit (.string (rF s 0 n))):=by
 obtain ⟨af,rfl⟩:=Int.eq_ofNat_of_zero_le h.1;exact .Bu (l:=0) J.bT rfl ⟨_,ca.bT⟩ aG (by omega) (by omega)
theorem Qm {s:ByteArray}{m n:Int}(h:0<=m/\m<=n/\n<=s.size):((rF s m n).size:Int)=n - m:=by
 unfold rF;rw [ByteArray.size_extract];omega
theorem dB.bytes {z p je:Nat}{cs:List aj}{xs:List Int}(J:g p=some (.own 1 je cs)) (hI:cs=xs.map λb=>.lit (.int .u8 b)) (aq:cs.length=je) (aG:u6 P t t2=true) (_hz:z=0):dB P g (.convert t t2 (.tmp p)) ty (.lit (.string (strOfNums xs))) :=
 .Cr (p:=⟨p,[]⟩) (n:=je) (N:=je) (cs:=cs) (by simp [bT,J,q6,ig]) (by simp [cd,J,aj.at]) (Nat.le_refl _) (by rw [List.take_of_length_le (by omega)]; exact hI) aG
def jY (P:Program) (e:TypeId) (z:Nat):Bool :=
 match (P.info? e).bind (·.zero) with
 | some v=>v.cells.size == z
 | none=>false
theorem IP {e:TypeId}{z:Nat}(h:jY P e z=true):∃ v,(P.info? e).bind (·.zero)=some v/\v.cells.size=z:=by
 unfold jY at h
 split at h
 ·rename_i v hv; exact ⟨v,hv,by simpa using h⟩
 ·cases h
inductive r' (g:a7):List Operand->List Value->Prop
 | nil:r' g [] []
 | cons {x:Operand}{v:Value}{xs:List Operand}{vs:List Value}(h:Rd g x (.lit v)) (aG:r' g xs vs):r' g (x::xs) (v::vs)
theorem r'.iN {xs:List Operand}{vs:List Value}(h:r' g xs vs):iN g xs=some (vs.map .lit):=by
 induction h with
 | nil=>rfl
 | cons h _ aR=>simp only [Own.iN,h.bT,aR]; rfl
theorem r'.map {xs:List Operand}{vs:List Value}(h:r' g xs vs):xs.map (bT g)=vs.map λv=>some (.lit v):=by
 induction h with
 | nil=>rfl
 | cons h _ aR=>simp only [List.map_cons,h.bT,aR]
theorem dI.row {e:TypeId}{xs:List Operand}{vs:List Value}{parts:Array (Nat × Operand)}{hZ:Nat}(J:r' g xs vs) (aH:parts.toList=xs.mapIdx (λi x=>(i,x))) (aP:xs.length=hZ) (aG:fu P t e 1=true) (bH:jY P e 1=true) (aJ:Nat.ble hZ 1000=true) :
  dI P g (.buildSlice t hZ parts) ty (.own 1 hZ (vs.map .lit)):=by
 subst aP;have kH:=Nat.le_of_ble_eq_true aJ;refine .q4 (.buildSlice aG aH J.iN (λy aA=>?_) ?_ (by omega) (by omega) (.inr (IP bH)))
 ·obtain ⟨v,_,rfl⟩:=List.mem_map.1 aA;exact ⟨[.lit v],rfl,rfl⟩
 ·generalize vs=l
  induction l with
  | nil=>rfl
  | cons v l aR=>simp only [List.map_cons,pf,lY,aR]; rfl
inductive sc (g:a7):List Nat->List (Nat × aj)->Prop
 | nil:sc g [] []
 | some {s:Nat}{x:aj}{r3:List Nat}{l:List (Nat × aj)}(h:g s=some x) (aP:dn x) (aG:sc g r3 l):sc g (s::r3) ((s,x)::l)
 | none {s:Nat}{r3:List Nat}{l:List (Nat × aj)}(aG:sc g r3 l):sc g (s::r3) l
theorem sc.spec {g:a7}{r3:List Nat}{l:List (Nat × aj)}(h:sc g r3 l):∀ t x,get l t=Option.some x->g t=Option.some x/\dn x:=by
 induction h with
 | nil=>intro t x J; cases J
 | @some s y r3 l h aP _ aR =>
  intro t x J;simp only [get] at J
  split at J
  ·rename_i e; subst e; cases J; exact ⟨h,aP⟩
  ·exact aR t x J
 | none _ aR=>exact aR
theorem sc.gj {g:a7}{r3:List Nat}{l:List (Nat × aj)}(h:sc g r3 l):kX g (get l) :=
 ⟨λt x J=>⟨x,(h.spec t x J).1,.refl⟩,λt x J=>.bP (h.spec t x J).2,λt z q n m new J=>by have:=(h.spec t _ J).2; cases this⟩
end
end Go.Own
namespace Go.Own
open Go
def pb (s:ByteArray) (n:Nat):Prop:=s.size<=n
theorem pb.app {s u:ByteArray}{a b:Nat}(h:pb s a) (aU:pb u b):pb (s++u) (a+b):=by
 unfold pb at *;rw [ByteArray.size_append]; omega
theorem pb.cut {s:ByteArray}{a:Nat}{m n:Int}(h:pb s a):pb (rF s m n) a:=by
 unfold pb rF at *;rw [ByteArray.size_extract]; omega
theorem pb.const {xs:Array UInt8}:pb ⟨xs⟩ xs.size:=Nat.le_refl _
theorem pb.self {s:ByteArray}:pb s s.size:=Nat.le_refl _
section
variable {P:Program}{g:a7}{ty:TypeId}{a b:Operand}{t t2:TypeId}{N:dW}{ops:Array Oper}{K:a7->Prop}{l:List Oper}{d:Nat}{pos:String}{after:Array Edge}{iA:Option (Nat × Bool)}
theorem W.J' {c:Operand}{x y:Code}{Φ:Exit->a7->Prop}{b:Bool}(ae:Rd g c (.lit (.bool b))) (fO:b=true->W P N x g Φ) (aQ:b=false->W P N y g Φ):W P N (.cond c x y) g Φ:=by
 cases b with
 | true=>exact .Ka ae.bT (fO rfl)
 | false=>exact .E' ae.bT (aQ rfl)
theorem Va {c e:Bool}(aG:P.underlying t=some .bool) (w:World):(do eqGuard .eql t a b (.bool c) (.bool e); binOp .eql t (.bool c) (.bool e):Sem Value).run P w=.ok (.bool (c == e)) w:=by
 have h:=run_equal_bool w t c e aG;simp [eqGuard,binOp,h]
def Cf (P:Program) (t:TypeId):Bool :=
 match P.underlying t with
 | some .bool=>true
 | _=>false
theorem OS (h:Cf P t=true):P.underlying t=some .bool:=by
 unfold Cf at h
 split at h
 ·assumption
 ·cases h
def rV (P:Program) (t:TypeId) (k:IntKind):Bool :=
 match P.underlying t with
 | some (.int lz)=>lz == k
 | _=>false
theorem Mb {k:IntKind}(h:rV P t k=true):P.underlying t=some (.int k):=by
 unfold rV at h
 split at h
 ·rename_i lz hk; rw [hk]; have:lz=k:=by simpa using h
  rw [this]
 ·cases h
theorem dB.Qh {k lz:IntKind}{m:Int}(J:Rd g a (.lit (.int k m))) (aO:rV P t k=true) (aZ:rV P t2 lz=true):dB P g (.convert t t2 a) ty (.lit (.int lz (lz.wrap m))) :=
 .conv J.bT rfl λw=>by simp [convert,run_underlying (Mb aO),run_underlying (Mb aZ),Conv.intToInt]
inductive Bytes (g:a7):List Operand->List Int->Prop
 | nil:Bytes g [] []
 | cons {x:Operand}{v:Int}{xs:List Operand}{vs:List Int}(h:Rd g x (.lit (.int .u8 v))) (aG:Bytes g xs vs):Bytes g (x::xs) (v::vs)
theorem Bytes.lits {xs:List Operand}{vs:List Int}(h:Bytes g xs vs):r' g xs (vs.map λb=>.int .u8 b):=by
 induction h with
 | nil=>exact .nil
 | cons h _ aR=>exact .cons h aR
end
end Go.Own
namespace Go.Own
open Go Go.RowKit
theorem dd.lits {w:World}(vs:List Value) (h:∀ v∈vs,v.oneCell'=true):dd w (λ_=>False) vs.toArray (pe (vs.map .lit)) (λ_=>c0):=by
 refine ⟨λt x J=>?_,λ_ _ _ h=>h,λ_ _ _ h=>h.elim,λ_ _ h=>h.elim,λ_ h=>h.elim,λt dD z p n m new cN c5 cb ds h1 _=>?_⟩
 ·simp only [pe,List.getElem?_map] at J;cases hv:vs[t]? with
  | none=>rw [hv] at J; cases J
  | some v =>
   rw [hv] at J;simp only [Option.map_some,Option.some.injEq] at J;subst J;exact ⟨v,by simpa using hv,.tree (.lit (h v (List.mem_of_getElem? hv)) λ_ h=>h)⟩
 ·simp only [pe,List.getElem?_map] at h1;cases hv:vs[t]? with
  | none=>rw [hv] at h1; cases h1
  | some v=>rw [hv] at h1; cases h1
end Go.Own
namespace Go.Own
open Go
section
variable {P:Program}{g:a7}{ty:TypeId}{a b:Operand}{t t2:TypeId}{N:dW}{ops:Array Oper}{K:a7->Prop}{l:List Oper}{d:Nat}{pos:String}{after:Array Edge}{iA:Option (Nat × Bool)}
theorem dB.pJ {z n cN:Nat}{p:Place}{e:TypeId}(J:Rd g a (.bh z p n)) (aG:fu P t e cN=true):dB P g (.call { callee:=.builtin .len,args:=#[a],argTypes:=#[t] }) ty (.lit (.int .i64 n)):=.Ak J.bT aG
theorem dB.fY {z n cN:Nat}{cs:List aj}{e:TypeId}(J:Rd g a (.aD z n cs)) (aG:fu P t e cN=true):dB P g (.call { callee:=.builtin .len,args:=#[a],argTypes:=#[t] }) ty (.lit (.int .i64 n)):=.Al J.bT aG
end
end Go.Own
namespace Go.Own
open Go
end Go.Own
namespace Go.Own
open Go
structure cF (α:Type) where
 z:Nat
 cells:α->List aj
 len:∀ a,(cells a).length=z
 bP:∀ a,∀ x∈cells a,dn x
variable {α β S R:Type}
def cj (e:cF α) (l:List α):List aj:=l.flatMap e.cells
abbrev ak (e:cF α) (l:List α):aj:=.own e.z l.length (cj e l)
abbrev ai (e:cF α) (l:List α):aj:=.aD e.z l.length (cj e l)
abbrev j (n:Int):aj:=.lit (.int .i64 n)
abbrev lX (n:Int):aj:=.lit (.int .u8 n)
abbrev aY (b:Bool):aj:=.lit (.bool b)
abbrev ab (s:ByteArray):aj:=.lit (.string s)
abbrev aL (n:Int):Int:=IntKind.i64.wrap n
abbrev ho (n:Int):Int:=IntKind.u8.wrap n
theorem nI (e:cF α) (l:List α):(cj e l).length=l.length * e.z:=by
 induction l with
 | nil=>simp [cj]
 | cons a l aR =>
  have:cj e (a::l)=e.cells a++cj e l:=by simp [cj]
  rw [this,List.length_append,e.len,aR,List.length_cons,Nat.add_mul]; omega
theorem oc (e:cF α) (l:List α):∀ x∈cj e l,dn x:=by
 intro x J;obtain ⟨a,_,h⟩:=List.mem_flatMap.1 J;exact e.bP a x h
theorem wo (e:cF α) (l m:List α):cj e (l++m)=cj e l++cj e m:=by simp [cj]
theorem Bo (e:cF α):∀ (l:List α) (i:Nat),(cj e l).drop (i * e.z)=cj e (l.drop i)
 | l,0=>by simp
 | [],i+1=>by simp [cj]
 | a::l,i+1=>by
  have h:cj e (a::l)=e.cells a++cj e l:=by simp [cj]
  rw [h,List.drop_append,e.len,List.drop_eq_nil_of_le (by rw [e.len,Nat.add_mul]; omega)];have:(i+1) * e.z - e.z=i * e.z:=by rw [Nat.add_mul]; omega
  rw [this,List.nil_append,Bo e l i]; rfl
theorem yp (e:cF α):∀ (l:List α) (i:Nat),(cj e l).take (i * e.z)=cj e (l.take i)
 | l,0=>by simp [cj]
 | [],i+1=>by simp [cj]
 | a::l,i+1=>by
  have h:cj e (a::l)=e.cells a++cj e l:=by simp [cj]
  rw [h,List.take_append,e.len,List.take_of_length_le (by rw [e.len,Nat.add_mul]; omega)];have:(i+1) * e.z - e.z=i * e.z:=by rw [Nat.add_mul]; omega
  rw [this,yp e l i]; simp [cj]
def idx (l:List α) (i:Int):Option α:=if 0<=i then l[i.toNat]? else none
theorem pF {l:List α}{i:Int}{y:α}(h:idx l i=some y):0<=i/\i<l.length/\l[i.toNat]?=some y:=by
 unfold idx at h
 split at h
 ·have:=(List.getElem?_eq_some_iff.1 h).1;exact ⟨by assumption,by omega,h⟩
 ·cases h
theorem Ia (e:cF α) {l:List α}{i:Int}{y:α}(h:idx l i=some y):(cj e l).drop (i.toNat * e.z)=e.cells y++cj e (l.drop (i.toNat+1)):=by
 obtain ⟨bf,h1,al⟩:=pF h;rw [Bo];obtain ⟨bg,he⟩:=List.getElem?_eq_some_iff.1 al;rw [List.drop_eq_getElem_cons bg,he]; simp [cj]
theorem MV (e:cF α) {l:List α}{i:Int}{y:α}(h:idx l i=some y) {k:Nat}{x:aj}(hk:(e.cells y)[k]?=some x):(cj e l)[i.toNat * e.z+k]?=some x:=by
 have bg:=(List.getElem?_eq_some_iff.1 hk).1;rw [<- List.getElem?_drop,Ia e h,List.getElem?_append_left bg]; exact hk
abbrev lim:Nat:=1099511627776
def fuel:Nat:=1000000000000000000
def iter (f:S->Option (S ⊕ R)):Nat->S->Option R
 | 0,_=>none
 | n+1,s=>match f s with
  | none=>none
  | some (.inl eT)=>iter f n eT
  | some (.inr r)=>some r
def cI (f:S->Option (S ⊕ R)) (s:S):Option R:=iter f fuel s
theorem ay {o:Option α}{f:α->Option β}{r:β}(h:o.bind f=some r):∃ y,o=some y/\f y=some r:=Option.bind_eq_some_iff.1 h
theorem Pl {b:Bool}{x y o:α}(aJ:b=true) (h:cond b x y=o):x=o:=by subst aJ; exact h
theorem Pk {b:Bool}{x y o:α}(aJ:b=false) (h:cond b x y=o):y=o:=by subst aJ; exact h
theorem cG {b:Bool}{x y o:α}(h:cond b x y=o):(b=true/\x=o)\/(b=false/\y=o):=by cases b <;> simp_all
theorem aw {a b:α}(h:some a=some b):a=b:=Option.some.inj h
class cV (x:aj):Prop where bP:dn x
class eZ (cs:List aj):Prop where bP:∀ x∈cs,dn x
instance {v:Value}:cV (.lit v):=⟨.lit⟩
instance:cV .aF:=⟨.aF⟩
instance:cV .dead:=⟨.dead⟩
instance {z n:Nat}{cs:List aj} [h:eZ cs]:cV (.aD z n cs):=⟨.aD h.bP⟩
instance {z n:Nat}{cs:List aj} [h:eZ cs]:cV (.own z n cs):=⟨.own h.bP⟩
instance {cs:List aj} [h:eZ cs]:cV (.obj cs):=⟨.obj h.bP⟩
instance {cs:List aj} [h:eZ cs]:cV (.agg cs):=⟨.agg h.bP⟩
instance {cs:List aj} [h:eZ cs]:cV (.cA cs):=⟨.cA h.bP⟩
instance {cs:List aj} [h:eZ cs]:cV (.bn cs):=⟨.bn h.bP⟩
instance {f:Fn}{a b:List aj} [h:eZ a] [aU:eZ b]:cV (.eB f a b):=⟨.eB h.bP aU.bP⟩
instance:eZ []:=⟨by simp⟩
instance {x:aj}{cs:List aj} [h:cV x] [aU:eZ cs]:eZ (x::cs):=⟨oS h.bP aU.bP⟩
instance {e:cF α}{l:List α}:eZ (cj e l):=⟨oc e l⟩
instance {e:cF α}{a:α}:eZ (e.cells a):=⟨e.bP a⟩
instance {a b:List aj} [h:eZ a] [aU:eZ b]:eZ (a++b):=⟨λx J=>(List.mem_append.1 J).elim (h.bP x) (aU.bP x)⟩
instance {a:List aj}{n:Nat} [h:eZ a]:eZ (a.drop n):=⟨λx J=>h.bP x (List.mem_of_mem_drop J)⟩
instance {a:List aj}{n:Nat} [h:eZ a]:eZ (a.take n):=⟨λx J=>h.bP x (List.mem_of_mem_take J)⟩
instance {v:Value}{n:Nat}:eZ (List.replicate n (.lit v)):=⟨λx J=>by rw [(List.mem_replicate.1 J).2]; exact .lit⟩
abbrev cF.one (f:α->aj) (h:∀ a,dn (f a)):cF α:=⟨1,λa=>[f a],λ_=>rfl,λa x J=>by rw [List.mem_singleton.1 J]; exact h a⟩
def aI:cF Int:=.one (λn=>j n) λ_=>.lit
def nY:cF Int:=.one (λn=>lX n) λ_=>.lit
def bN:cF Bool:=.one (λb=>aY b) λ_=>.lit
def cy:cF ByteArray:=.one (λs=>ab s) λ_=>.lit
def fk (e:cF α):cF (List α):=.one (λl=>ak e l) λl=>.own (oc e l)
def bs (e:cF α):cF (List α):=.one (λl=>ai e l) λl=>.aD (oc e l)
inductive Trim (b:Bool) (g g2:a7):List (Nat × aj)->Prop
 | nil:Trim b g g2 []
 | n {s:Nat}{x:aj}{l:List (Nat × aj)}(h:g s=some x) [aP:cV x] (t:Trim b g g2 l):Trim b g g2 ((s,x)::l)
 | r {s:Nat}{x:aj}{l:List (Nat × aj)}(h:g s=some x) (aP:e' g2 x) (aH:∀ z p n m new,x≠.bY z p n m new) (t:Trim b g g2 l):Trim b g g2 ((s,x)::l)
 | e {s:Nat}{x y:aj}{l:List (Nat × aj)}(h:g s=some y) (he:y=x) [aP:cV x] (t:Trim b g g2 l):Trim b g g2 ((s,x)::l)
 | w {s:Nat}{x y:aj}{l:List (Nat × aj)}(aJ:b=true) (h:g s=some y) (hw:oy y x) [aP:cV x] (t:Trim b g g2 l):Trim b g g2 ((s,x)::l)
theorem Trim.spec {b:Bool}{g g2:a7}{l:List (Nat × aj)}(h:Trim b g g2 l):∀ t x,get l t=some x->(∃ y,g t=some y/\oy y x/\(b=false->y=x))/\e' g2 x/\∀ z p n m new,x≠.bY z p n m new:=by
 have fZ:∀ {x:aj},dn x->∀ z p n m new,x≠.bY z p n m new:=by rintro x h z p n m new rfl; cases h
 induction h with
 | nil=>intro t x J; cases J
 | @n _ _ _ h aP _ aR =>
  intro t x J; simp only [get] at J
  split at J
  ·rename_i e; subst e; cases J; exact ⟨⟨_,h,.refl,λ_=>rfl⟩,.bP aP.bP,fZ aP.bP⟩
  ·exact aR t x J
 | r h aP aH _ aR =>
  intro t x J; simp only [get] at J
  split at J
  ·rename_i e; subst e; cases J; exact ⟨⟨_,h,.refl,λ_=>rfl⟩,aP,aH⟩
  ·exact aR t x J
 | @e _ _ _ _ h he aP _ aR =>
  intro t x J; simp only [get] at J
  split at J
  ·rename_i e; subst e he; cases J; exact ⟨⟨_,h,.refl,λ_=>rfl⟩,.bP aP.bP,fZ aP.bP⟩
  ·exact aR t x J
 | @w _ _ _ _ aJ h hw aP _ aR =>
  intro t x J; simp only [get] at J
  split at J
  ·rename_i e; subst e; cases J; exact ⟨⟨_,h,hw,λh=>by rw [aJ] at h; cases h⟩,.bP aP.bP,fZ aP.bP⟩
  ·exact aR t x J
theorem Trim.gj {b:Bool}{g:a7}{l:List (Nat × aj)}(h:Trim b g (get l) l):kX g (get l) :=
 ⟨λt x J=>by obtain ⟨⟨y,h1,al,_⟩,_⟩:=h.spec t x J; exact ⟨y,h1,al⟩,λt x J=>(h.spec t x J).2.1,λt z q n m new J=>(h.spec t _ J).2.2 _ _ _ _ _ rfl⟩
theorem Trim.keep {g:a7}{l:List (Nat × aj)}(h:Trim false g (get l) l):fN g (get l) :=
 ⟨λt x J=>by obtain ⟨⟨y,h1,_,aS⟩,_⟩:=h.spec t x J; rw [<- aS rfl]; exact h1,λt x J=>(h.spec t x J).2.1,λt z q n m new J=>(h.spec t _ J).2.2 _ _ _ _ _ rfl⟩
section
variable {P:Program}{N:dW}{ops:Array Oper}{g:a7}{K:a7->Prop}{l:List Oper}{d:Nat}{op:Op}{ty:TypeId}{pos:String}{after:Array Edge}{x:aj}{iA:Option (Nat × Bool)}
def hy (P:Program) (N:dW) (c:Code) (G G1:List (Nat × aj)):Prop:=W P N c (get G) λe g'=>e=.normal/\kX g' (get G1)
theorem W.aW {A B:Code}{G G1:List (Nat × aj)}{Φ:Exit->a7->Prop}(h1:hy P N A G G1) (al:W P N B (get G1) Φ):W P N (.seq A B) (get G) Φ:=by
 refine W.seq (W.out h1 λe g' h=>⟨get G1,h.2,?_⟩);obtain ⟨rfl,_⟩:=h;exact al
theorem W.aX {A B:Code}{G:List (Nat × aj)}{Φ:Exit->a7->Prop}(h:W P N A (get G) (tc (λg1=>W P N B g1 Φ) Φ)):W P N (.seq A B) (get G) Φ:=W.seq h
theorem au.fin {G1:List (Nat × aj)}(h:Trim true g (get G1) G1):au P N ops [] g λg'=>kX g' (get G1):=.nil h.gj
theorem au.U3 {G1:List (Nat × aj)}(h:Trim false g (get G1) G1) (hk:au P N ops l (get G1) K):au P N ops l g K:=.forget h.keep hk
theorem au.v (aH:dI P g op ty x) (b1:N.ok d=true) (bp:g d=none) (bb:gA g ops iA) (hk:au P N ops l (fc g d x) K):au P N ops (⟨some d,op,ty,pos,after,iA⟩::l) g K:=.VZ aH b1 bp bb hk
theorem au.c (aH:ct P g op x) (b1:N.ok d=true) (bp:g d=none) (bb:gA g ops iA) (hk:au P N ops l (fc g d x) K):au P N ops (⟨some d,op,ty,pos,after,iA⟩::l) g K:=.call aH b1 bp bb hk
theorem gA.jJ {af t:Nat}{b c:Bool}(h:(ops[af]?).bind (·.dst)=some t) (bb:g t=some (.lit (.bool c))) (aJ:c=b):gA g ops (some (af,b)):=by subst aJ; exact .yes h bb
theorem au.ps {af dD:Nat}{b c:Bool}(h:(ops[af]?).bind (·.dst)=some dD) (bb:g dD=some (.lit (.bool c))) (aJ:c=!b) (b1:N.ok d=true) (bp:g d=none) (hk:au P N ops l (fc g d (.cA [])) K):au P N ops (⟨some d,op,ty,pos,after,some (af,b)⟩::l) g K:=by
 subst aJ; exact .yv rfl b1 bp (r:=some (.cA [])) (.inr (.inl ⟨⟨dD,h,.inl ⟨_,bb,by cases b <;> rfl⟩⟩,rfl⟩)) hk
theorem au.pu {af dD:Nat}{b:Bool}(h:(ops[af]?).bind (·.dst)=some dD) (bb:g dD=some (.cA [])) (b1:N.ok d=true) (bp:g d=none) (hk:au P N ops l (fc g d (.cA [])) K):au P N ops (⟨some d,op,ty,pos,after,some (af,b)⟩::l) g K :=
 .yv rfl b1 bp (r:=some (.cA [])) (.inr (.inl ⟨⟨dD,h,.inr ⟨bb,rfl⟩⟩,rfl⟩)) hk
theorem hy.skip {G G1:List (Nat × aj)}(h:Trim true (get G) (get G1) G1):hy P N .skip G G1:=W.skip ⟨rfl,h.gj⟩
theorem hy.cG {t:Nat}{A B:Code}{b:Bool}{G G1:List (Nat × aj)}(ae:get G t=some (aY b)) (fO:b=true->hy P N A G G1) (aQ:b=false->hy P N B G G1):hy P N (.cond (.tmp t) A B) G G1:=W.J' (.lit ae) fO aQ
theorem W.cG {t:Nat}{A B:Code}{b:Bool}{G:List (Nat × aj)}{Φ:Exit->a7->Prop}(ae:get G t=some (aY b)) (fO:b=true->W P N A (get G) Φ) (aQ:b=false->W P N B (get G) Φ):W P N (.cond (.tmp t) A B) (get G) Φ:=W.J' (.lit ae) fO aQ
theorem hy.aW {A B:Code}{G G1 G2:List (Nat × aj)}(h1:hy P N A G G1) (al:hy P N B G1 G2):hy P N (.seq A B) G G2:=W.aW h1 al
theorem hy.Ce {id:Nat}{c:Code}{G G1:List (Nat × aj)}(h:W P N c (get G) λe g'=>(e=.normal\/e=.exit id)/\kX g' (get G1)):hy P N (.block id c) G G1:=by
 refine W.block (h.mono ?_);rintro e g' ⟨rfl | rfl,h⟩
 ·exact ⟨rfl,h⟩
 ·show if id=id then _ else _
  rw [if_pos rfl]; exact ⟨rfl,h⟩
end
end Go.Own
namespace Go.Own
open Go
variable {α β:Type}
def kZ (s:ByteArray) (m:Int):Option Int:=if 0<=m/\m<s.size then some (yV s m) else none
def rE (s:ByteArray) (m n:Int):Option ByteArray:=if 0<=m/\m<=n/\n<=s.size then some (rF s m n) else none
def so (s u:ByteArray):Option ByteArray:=if s.size+u.size<=4611686018427387904 then some (s++u) else none
def DR (m n:Int):Option Int:=if n=0 then none else some (aL (m.tdiv n))
def qk (m n:Int):Option Int:=if n=0 then none else some (m.tmod n)
def qs (l:List α) (m n:Int):Option (List α):=if 0<=m/\m<=n/\n<=l.length then some ((l.drop m.toNat).take (n - m).toNat) else none
def lH:aj->Bool
 | .lit _ | .aF | .aD .. | .bn _ | .eB .. | .ptr .. | .bh .. | .sub .. | .i' .. | .imp ..=>true
 | _=>false
theorem QY {d:Nat}{p:Place}{x:aj}(h:lH x=true):ig d p x=x:=by
 cases x <;> simp [lH] at h <;> cases d <;> rfl
theorem QZ {t:Nat}{x:aj}(h:lH x=true):q6 t x=x:=by
 cases x <;> simp [lH] at h <;> rfl
theorem zq {d:Nat}{q:Nat->Place}{cs:List aj}(h:cs.all lH=true):(cs.mapIdx λi x=>ig d (q i) x)=cs:=by
 apply List.ext_getElem?;intro k;rw [List.getElem?_mapIdx];cases hk:cs[k]? with
 | none=>rfl
 | some x=>simp only [Option.map_some,QY (List.all_eq_true.1 h x (List.mem_of_getElem? hk))]
section
variable {P:Program}{N:dW}{ops:Array Oper}{g:a7}{K:a7->Prop}{l:List Oper}{d:Nat}{ty t t2:TypeId}{a b c:Operand}{k lz:IntKind}{m n:Int}{s u:ByteArray}{p q e:Bool}
theorem Rd.f {t:Nat}{x:aj}(h:g t=some x) (bp:lH x=true):Own.bT g (.tmp t)=some x:=by simp only [Own.bT,h,Option.map_some,QZ bp]
theorem Rd.b2 {t:Nat}{cs:List aj}(h:g t=some (.agg cs)) (bp:cs.all lH=true):Rd g (.tmp t) (.agg cs):=.agg h (zq bp)
theorem Rd.r4 {t:Nat}{cs:List aj}(h:g t=some (.cA cs)) (bp:cs.all lH=true):Rd g (.tmp t) (.cA cs):=.cA h (zq bp)
namespace O
theorem az {y:aj}(h:Rd g a y):dI P g (.move a) ty y:=.fl (.move h.bT)
theorem dK {y:aj}(h:Rd g a y):dI P g (.assign a) ty y:=.fl (.assign h.bT)
theorem eQ {y:aj}(ae:Rd g c (aY p)) (aJ:p=true) (h:Rd g a y):dI P g (.pick c a b) ty y:=by subst aJ; exact .fl (.UW ae h)
theorem cL {y:aj}(ae:Rd g c (aY p)) (aJ:p=false) (h:Rd g b y):dI P g (.pick c a b) ty y:=by subst aJ; exact .fl (.UU ae h)
theorem add (J:Rd g a (.lit (.int k m))) (aA:Rd g b (.lit (.int k n))):dI P g (.binOp .add t a b t2) ty (.lit (.int k (k.wrap (m+n)))):=.fl (.add J aA)
theorem sub (J:Rd g a (.lit (.int k m))) (aA:Rd g b (.lit (.int k n))):dI P g (.binOp .sub t a b t2) ty (.lit (.int k (k.wrap (m - n)))):=.fl (.Vv J aA)
theorem mul (J:Rd g a (.lit (.int k m))) (aA:Rd g b (.lit (.int k n))):dI P g (.binOp .mul t a b t2) ty (.lit (.int k (k.wrap (m * n)))):=.fl (.mul J aA)
theorem quo {r:Int}(J:Rd g a (j m)) (aA:Rd g b (j n)) (h:DR m n=some r):dI P g (.binOp .quo t a b t2) ty (j r):=by
 unfold DR at h
 split at h
 ·cases h
 ·cases h; exact .fl (.quo J aA (by assumption))
theorem rem {r:Int}(J:Rd g a (j m)) (aA:Rd g b (j n)) (h:qk m n=some r):dI P g (.binOp .rem t a b t2) ty (j r):=by
 unfold qk at h
 split at h
 ·cases h
 ·cases h; exact .fl (.rem J aA (by assumption))
theorem lss (J:Rd g a (.lit (.int k m))) (aA:Rd g b (.lit (.int k n))):dI P g (.binOp .lss t a b t2) ty (aY (decide (m<n))):=.fl (.lss J aA (by simp))
theorem leq (J:Rd g a (.lit (.int k m))) (aA:Rd g b (.lit (.int k n))):dI P g (.binOp .leq t a b t2) ty (aY (decide (m<=n))):=.fl (.leq J aA (by simp))
theorem gtr (J:Rd g a (.lit (.int k m))) (aA:Rd g b (.lit (.int k n))):dI P g (.binOp .gtr t a b t2) ty (aY (decide (n<m))):=.fl (.gtr J aA (by simp))
theorem geq (J:Rd g a (.lit (.int k m))) (aA:Rd g b (.lit (.int k n))):dI P g (.binOp .geq t a b t2) ty (aY (decide (n<=m))):=.fl (.geq J aA (by simp))
theorem eql (J:Rd g a (.lit (.int k m))) (aA:Rd g b (.lit (.int k n))):dI P g (.binOp .eql t a b t2) ty (aY (decide (m=n))):=.fl (.eql J aA (by simp))
theorem neq (J:Rd g a (.lit (.int k m))) (aA:Rd g b (.lit (.int k n))):dI P g (.binOp .neq t a b t2) ty (aY (!decide (m=n))):=.fl (.neq J aA (by simp))
theorem oA (J:Rd g a (ab s)) (aA:Rd g b (ab u)):dI P g (.binOp .eql t a b t2) ty (aY (decide (s=u))):=.fl (.oA J aA (by simp))
theorem ma (J:Rd g a (ab s)) (aA:Rd g b (ab u)):dI P g (.binOp .neq t a b t2) ty (aY (!decide (s=u))):=.fl (.ma J aA (by simp))
theorem QL (J:Rd g a (aY p)) (aA:Rd g b (aY q)) (aG:Cf P t=true):dI P g (.binOp .eql t a b t2) ty (aY (p == q)):=.fl (.bin J.bT aA.bT rfl λw=>Va (OS aG) w)
theorem neg (J:Rd g a (.lit (.int k m))):dI P g (.unOp .neg t a) ty (.lit (.int k (k.wrap (-m)))):=.fl (.un J.bT rfl λw=>by simp [Op.unary,Op.intArith])
theorem not (J:Rd g a (aY p)):dI P g (.unOp .not t a) ty (aY (!p)):=.fl (.not J)
theorem tF (J:Rd g a (.lit (.int k m))) (aO:rV P t k=true) (aZ:rV P t2 lz=true):dI P g (.convert t t2 a) ty (.lit (.int lz (lz.wrap m))):=.fl (.Qh J aO aZ)
theorem cat {r:ByteArray}(J:Rd g a (ab s)) (aA:Rd g b (ab u)) (h:so s u=some r):dI P g (.binOp .add t a b t2) ty (ab r):=by
 unfold so at h
 split at h
 ·cases h; exact .fl (.cat J aA (by omega))
 ·cases h
theorem mK (J:Rd g a (ab s)) (aG:o1 P t=true):dI P g (.call { callee:=.builtin .len,args:=#[a],argTypes:=#[t] }) ty (j s.size):=.fl (.mK J aG)
theorem qA {r:Int}(J:Rd g a (ab s)) (aA:Rd g b (.lit (.int k m))) (aG:o1 P t=true) (h:kZ s m=some r):dI P g (.index t a b) ty (lX r):=by
 unfold kZ at h
 split at h
 ·cases h; exact .fl (.OL J aA aG (by assumption))
 ·cases h
theorem yt {r:ByteArray}{q1:IntKind}(J:Rd g a (ab s)) (aq:Rd g b (.lit (.int k m))) (ca:Rd g c (.lit (.int q1 n))) (aG:o1 P t=true) (h:rE s m n=some r):dI P g (.slice t a (some b) (some c) none) ty (ab r):=by
 unfold rE at h
 split at h
 ·cases h; exact .fl (.Ir J aq ca aG (by assumption))
 ·cases h
theorem Vk {r:ByteArray}(J:Rd g a (ab s)) (ca:Rd g c (.lit (.int k n))) (aG:o1 P t=true) (h:rE s 0 n=some r):dI P g (.slice t a none (some c) none) ty (ab r):=by
 unfold rE at h
 split at h
 ·rename_i ae; cases h; exact .fl (.Vo J ca aG ⟨ae.2.1,ae.2.2⟩)
 ·cases h
theorem fY {z cN n:Nat}{cs:List aj}{e:TypeId}(J:Rd g a (.aD z n cs)) (aG:fu P t e cN=true):dI P g (.call { callee:=.builtin .len,args:=#[a],argTypes:=#[t] }) ty (j n):=.fl (.Al J.bT aG)
theorem cv {en:cF α}{L:List α}{y:α}{e:TypeId}(J:Rd g a (.aD en.z L.length (cj en L))) (aA:Rd g b (.lit (.int k m))) (aG:fu P t e en.z=true) (h:idx L m=some y):dI P g (.indexAddr t a b) ty (.bn (en.cells y++cj en (L.drop (m.toNat+1)))):=by
 rw [<- Ia en h];obtain ⟨bf,h1,_⟩:=pF h;obtain ⟨af,rfl⟩:=Int.eq_ofNat_of_zero_le bf;exact .fl (.Di J.bT aA.bT aG (by omega))
theorem Ip {en:cF α}{L r:List α}{e:TypeId}(J:Rd g a (.aD en.z L.length (cj en L))) (ca:Rd g c (.lit (.int k n))) (aG:fu P t e en.z=true) (h:qs L 0 n=some r):dI P g (.slice t a none (some c) none) ty (ai en r):=by
 unfold qs at h
 split at h
 ·rename_i ae;obtain ⟨_,h1,al⟩:=ae;cases h;obtain ⟨af,rfl⟩:=Int.eq_ofNat_of_zero_le h1;have:=dB.Bt (P:=P) (ty:=ty) (t:=t) (l:=0) (h:=af) (lo:=none) (hi:=some c) J.bT rfl ⟨_,ca.bT⟩ aG (by omega) (by omega);rw [Bo,yp] at this;have dz:(((L.drop 0).take (af - 0)).length)=af - 0:=by rw [List.length_take,List.length_drop]; omega
  have de:((af:Int) - 0).toNat=af - 0:=by omega
  rw [de];unfold ai;have j':(0:Int).toNat=0:=rfl;rw [j',dz];exact .fl this
 ·cases h
theorem Iq {en:cF α}{L r:List α}{e:TypeId}(J:Rd g a (.aD en.z L.length (cj en L))) (aq:Rd g b (.lit (.int k m))) (aG:fu P t e en.z=true) (h:qs L m L.length=some r):dI P g (.slice t a (some b) none none) ty (ai en r):=by
 unfold qs at h
 split at h
 ·rename_i ae;obtain ⟨bf,h1,al⟩:=ae;cases h;obtain ⟨i,rfl⟩:=Int.eq_ofNat_of_zero_le bf;have:=dB.Bt (P:=P) (ty:=ty) (t:=t) (l:=i) (h:=L.length) (lo:=some b) (hi:=none) J.bT ⟨_,aq.bT⟩ rfl aG (by omega) (by omega);rw [Bo,yp] at this;have dz:(((L.drop i).take (L.length - i)).length)=L.length - i:=by rw [List.length_take,List.length_drop]; omega
  have de:((L.length:Int) - (i:Int)).toNat=L.length - i:=by omega
  rw [Int.toNat_natCast,de];unfold ai;rw [dz];exact .fl this
 ·cases h
theorem ef {eT f off:Nat}{cs:List aj}(J:Rd g a (.bn cs)) (bp:dN P eT f off t=true):dI P g (.fieldAddr eT a f) ty (.bn (cs.drop off)):=.fl (.CH J.bT bp)
theorem cX {x:aj}{cs:List aj}(J:Rd g a (.bn cs)) (aG:hE P t=true) (ae:cs.head?=some x):dI P g (.load t a) ty x:=by
 cases cs with
 | nil=>cases ae
 | cons y cs=>cases ae; exact .fl (.Dv J.bT aG)
theorem hX {z:Nat}{cs cs':List aj}(J:Rd g a (.bn cs)) (aG:iI P t z=true) (ae:cs.take z=cs') (bH:cs'.length=z):dI P g (.load t a) ty (.agg cs'):=by
 subst ae;exact .fl (.Dw J.bT aG (by rw [List.length_take] at bH; omega))
theorem As {cs:List aj}(J:Rd g a (.bn cs)):dI P g (.nilCheck a) ty (.bn cs):=.fl (.pK J.bT)
theorem e9 {p:Place}{k:Nat}(J:Rd g a (.ptr p k)):dI P g (.nilCheck a) ty (.ptr p k):=.fl (.DA J.bT)
theorem fd {eT f off:Nat}{cs:List aj}{x:aj}(J:Rd g a (.agg cs)) (bp:dN P eT f off t=true) (aG:hE P t=true) (aA:cs[off]?=some x):dI P g (.field eT a f) ty x:=.fl (.CG J.bT bp aG aA)
theorem ex {p i:Nat}{cs:List aj}{x y:aj}(J:g p=some (.cA cs)) (aA:cs[i]?=some x) (ax:ig 1 (Place.push ⟨p,[]⟩ i) x=y):dI P g (.extract (.tmp p) i) ty y :=
 .fl (.Cw (cs:=cs.mapIdx λi x=>ig 1 (Place.push ⟨p,[]⟩ i) x) (by simp [bT,J,q6,ig]) (by simp [aA,ax]))
theorem box {e:TypeId}{y:aj}{cs:List aj}(J:Rd g a y) (ae:lY y=some cs):dI P g (.box e a) ty (.obj cs):=.q4 (.box J.bT ae)
theorem bd {eT f off k r:Nat}{cs:List aj}(aO:g r=some (.obj cs)) (J:Rd g a (.ptr ⟨r,[]⟩ k)) (bp:dN P eT f off t=true) (bg:Nat.blt (k+off) cs.length=true):dI P g (.fieldAddr eT a f) ty (.ptr ⟨r,[]⟩ (k+off)) :=
 .fl (.zo J.bT bp ⟨.obj cs,by simp [cd,aO,aj.at],0,0,cs,.inr rfl,by simpa using bg⟩)
theorem cK {k r:Nat}{cs:List aj}{x y:aj}(aO:g r=some (.obj cs)) (J:Rd g a (.ptr ⟨r,[]⟩ k)) (aG:hE P t=true) (ae:cs[k]?=some x) (aA:ig 0 ⟨r,[k]⟩ x=y):dI P g (.load t a) ty y:=by
 subst aA;exact .fl (.An (p:=⟨r,[]⟩) J.bT aG (by simp [cd,aO,aj.at,Place.push,aj.kids,ae]))
theorem dJ {k r z:Nat}{cs cs':List aj}(aO:g r=some (.obj cs)) (J:Rd g a (.ptr ⟨r,[]⟩ k)) (aG:iI P t z=true) (hk:Nat.ble (k+z) cs.length=true) (ae:(((cs.drop k).take z).mapIdx λi x=>ig 0 ⟨r,[k+i]⟩ x)=cs'):dI P g (.load t a) ty (.agg cs'):=by
 subst ae;exact .fl (.vT (p:=⟨r,[]⟩) (n:=0) (z:=0) J.bT aG (by simp [cd,aO,aj.at]) (.inr rfl) (Nat.le_of_ble_eq_true hk))
end O
theorem rn.bF {x:Operand}{y:aj}{xs:List Operand}{ys:List aj}(h:Rd g x y) [aP:cV y] (aG:rn g xs ys):rn g (x::xs) (y::ys):=.cons h aP.bP aG
theorem ct.go {xs:List Operand}{iF:Array TypeId}{f:FuncId}{ys:List aj}{outs:List (Option aj)}{res:aj}(J:rn g xs ys) (jj:b6 P f ys outs res) (bp:du P f=true) (bj:vV outs=true) [ax:cV res] :
  ct P g (.call { callee:=.value (.func f),args:=xs.toArray,argTypes:=iF }) res:=.QH jj bp J bj ax.bP
inductive tv (P:Program) (g:a7):List ResultVar->List aj->Prop
 | nil:tv P g [] []
 | f {t:Nat}{x:aj}{rs:List ResultVar}{xs:List aj}(h:g t=some x) (bp:lH x=true) [aP:cV x] (aG:tv P g rs xs):tv P g (.tmp t::rs) (x::xs)
 | c {a:Nat}{t:TypeId}{z:Nat}{cs:List aj}{rs:List ResultVar}{xs:List aj}(h:g a=some (.obj cs)) (aG:iI P t z=true) (bH:cs.length=z) (bp:(0<z&&cs.all lH)=true) [aP:eZ cs] (ax:tv P g rs xs):tv P g (.cell a t::rs) (.agg cs::xs)
theorem tv.spec {rs:List ResultVar}{xs:List aj}(h:tv P g rs xs):qy P g rs xs/\∀ x∈xs,dn x:=by
 induction h with
 | nil=>exact ⟨.nil,by simp⟩
 | @f t x rs xs h bp aP _ aR=>exact ⟨.cons (.tmp (Rd.f h bp)) aR.1,oS aP.bP aR.2⟩
 | @c a t z cs rs xs h aG bH bp aP _ aR =>
  simp only [Bool.and_eq_true,decide_eq_true_eq] at bp;refine ⟨.cons ?_ aR.1,oS (.agg aP.bP) aR.2⟩;have J:Own.bT g (.tmp a)=some (.ptr ⟨a,[]⟩ 0):=by
   cases cs with
   | nil=>simp at bH; omega
   | cons c cs=>simp [Own.bT,h,q6,ig]
  have:=dB.vT (P:=P) (ty:=t) (p:=⟨a,[]⟩) (n:=0) (z:=0) J aG (by simp only [cd,h,aj.at]) (.inr rfl) (show 0+z<=cs.length by omega);have hs:((cs.drop 0).take z).mapIdx (λi x=>ig 0 (Place.push ⟨a,[]⟩ (0+i)) x)=cs:=by
   rw [List.drop_zero,List.take_of_length_le (by omega)];exact zq bp.2
  rw [hs] at this;exact .cell this
theorem Fin.rt {rs:List ResultVar}{xs:List aj}{res:aj}{outs:List (Option aj)}{n:Nat}(h:tv P g rs xs) (he:ql xs=res) (bj:vV outs=true) (aq:outs.length=n):Fin P N rs n outs res .ret g :=
 ⟨.inr rfl,⟨xs,xs,g,h.spec.1,.bP h.spec.2,he.symm,λk x hk=>absurd hk (DC bj k x)⟩,aq⟩
end
def x0:Nat->List aj->List (Nat × aj)
 | _,[]=>[]
 | i,x::l=>(i,x)::x0 (i+1) l
theorem KM:∀ (l:List aj) (i t:Nat),get (x0 i l) t=if i<=t then l[t - i]? else none
 | [],i,t=>by simp [x0,get]
 | x::l,i,t=>by
  simp only [x0,get];by_cases h:t=i
  ·subst h; simp
  ·rw [if_neg h,KM l (i+1) t];by_cases h1:i+1<=t
   ·rw [if_pos h1,if_pos (by omega)];have:t - i=(t - (i+1))+1:=by omega
    rw [this,List.getElem?_cons_succ]
   ·rw [if_neg h1,if_neg (by omega)]
theorem OC (args:List aj):pe args=get (x0 0 args):=funext λt=>by rw [KM]; simp [pe]
theorem b6.go {P:Program}{f:FuncId}{fn:Func}{c:Code}{args:List aj}{outs:List (Option aj)}{res:aj}{N:dW}(bp:P.funcs[f]?=some fn) (aJ:fn.body=some c) (b1:fn.ntmps=N.size) (bk:Nat.ble args.length N.size=true) (hlen:outs.length=args.length)
  (hw:W P N c (get (x0 0 args)) (Fin P N fn.results.toList args.length outs res)):b6 P f args outs res :=
 .fin bp aJ b1 bk hlen (by rw [OC]; exact hw)
end Go.Own
namespace Go.Own
open Go
section
variable {P:Program}{N:dW}{Φ pV:Exit->a7->Prop}{fV:a7->Prop}{G G1:List (Nat × aj)}{A B c:Code}{id k:Nat}{e:Exit}{S R:Type}
theorem hy.bE (h:Trim true (get G) (get G1) G1):hy P N .skip G G1:=.skip h
inductive kT:a7->List (Nat × aj)->Prop
 | gE {G:List (Nat × aj)}:kT (get G) G
 | gj {g g1:a7}{G:List (Nat × aj)}(h:kX g g1) (aJ:kT g1 G):kT g G
theorem kT.trans {g:a7}{G G1:List (Nat × aj)}(h:kT g G) (h1:kT (get G) G1):kT g G1:=by
 induction h with
 | gE=>exact h1
 | gj h _ aR=>exact .gj h (aR h1)
inductive yF (P:Program) (N:dW):a7->Exit->(Exit->a7->Prop)->Prop
 | gE {g:a7}{e:Exit}{Φ:Exit->a7->Prop}(h:Φ e g):yF P N g e Φ
 | gj {g g1:a7}{e:Exit}{Φ:Exit->a7->Prop}(hw:kX g g1) (h:yF P N g1 e Φ):yF P N g e Φ
theorem W.outs {g:a7}(h:W P N c g Φ) (nB:∀ e g',Φ e g'->yF P N g' e pV):W P N c g pV:=by
 intro a w I Fs Q b5 b1 ea;refine h b5 b1 λe g' cJ w' aH aP=>?_;have p':=nB e g' aH;clear aH nB;revert aP
 induction p' with
 | gE h=>exact λaP=>ea _ _ _ _ h aP
 | gj hw _ aR =>
  intro aP;refine aR ea ?_;obtain ⟨h1,al,I',cB,eO,cp⟩:=aP;obtain ⟨jd,im,gT⟩:=eO.gj hw;exact ⟨h1,al,I',jd,im,cp.fI,cp.more,cp.new,λc ⟨t,ae⟩=>cp.own c ⟨t,gT t c ae⟩⟩
def ah (e:Exit) (Φ:Exit->a7->Prop) (G:List (Nat × aj)):Prop:=∀ g,kT g G->Φ e g
theorem W.be {g:a7}(h:W P N c (get G) Φ) (aJ:kT g G):W P N c g Φ:=by
 induction aJ with
 | gE=>exact h
 | gj hw _ aR=>exact (aR h).weaken hw
theorem ox.be {g:a7}(h:ox P N c (get G) Φ) (aJ:kT g G):ox P N c g Φ:=by
 induction aJ with
 | gE=>exact h
 | gj hw _ aR=>exact (aR h).weaken hw
theorem ah.aW (h:W P N B (get G) Φ):ah .normal (tc (λg1=>W P N B g1 Φ) pV) G:=λ_ aJ=>VL (h.be aJ)
theorem ah.c8 (h:ah (.exit k) pV G):ah (.exit k) (tc fV pV) G:=λg aJ=>VK (h g aJ)
theorem ah.cP (h:ah .ret pV G):ah .ret (tc fV pV) G:=λg aJ=>VM (h g aJ)
theorem ah.bl (h:ah .normal Φ G):ah .normal (rU id Φ) G:=λg aJ=>Ub (h g aJ)
theorem ah.c_ (h:ah .normal Φ G):ah (.exit id) (rU id Φ) G:=λg aJ=>T_ (h g aJ)
theorem ah.OR (hk:Nat.beq k id=false) (h:ah (.exit k) Φ G):ah (.exit k) (rU id Φ) G:=λg aJ=>Ua hk (h g aJ)
theorem ah.dP (h:ah .ret Φ G):ah .ret (rU id Φ) G:=λg aJ=>Uc (h g aJ)
theorem W.c9 (h:ah (.exit k) Φ G):W P N (.exit k) (get G) Φ:=W.exit (h _ .gE)
theorem W.bE (h:ah .normal Φ G):W P N .skip (get G) Φ:=W.skip (h _ .gE)
theorem W.rt (h:ah .ret Φ G):W P N .ret (get G) Φ:=W.ret (h _ .gE)
theorem W.rx {id:Nat}{l:List Oper}(G1:List (Nat × aj)) (h:au P N l.toArray l (get G) λg'=>kX g' (get G1)) (hk:ah .normal Φ G1):W P N (.region id l.toArray false) (get G) Φ :=
 W.U4 (λi hi=>by obtain ⟨g',h1,al⟩:=h i hi; exact ⟨g',h1,hk g' (.gj al .gE)⟩)
theorem W.cf {G1:List (Nat × aj)}(h:Trim true (get G) (get G1) G1) (hw:W P N c (get G1) Φ):W P N c (get G) Φ:=hw.weaken h.gj
theorem W.st {G:List (Nat × aj)}(G1:List (Nat × aj)) (h:W P N c (get G1) Φ) (e:G1=G:=by rfl):W P N c (get G) Φ:=by subst e; exact h
theorem W.bl (h:W P N c (get G) (rU id Φ)):W P N (.block id c) (get G) Φ:=W.block h
theorem W.bL (G1:List (Nat × aj)) (h:W P N c (get G) λe g=>e=.normal/\kT g G1) (hk:ah .normal Φ G1):W P N c (get G) Φ :=
 h.mono λe g ⟨he,aJ⟩=>by subst he; exact hk g aJ
theorem ah.bL (h:Trim true (get G) (get G1) G1):ah .normal (λe g=>e=.normal/\kT g G1) G:=λ_ aJ=>⟨rfl,aJ.trans (.gj h.gj .gE)⟩
def tu (G:S->List (Nat × aj)) (fV:R->Exit->a7->Prop):S ⊕ R->Exit->a7->Prop
 | .inl s,e,g=>e=.normal/\kT g (G s)
 | .inr r,e,g=>e≠.normal/\fV r e g
theorem ox.it {f:S->Option (S ⊕ R)}{G:S->List (Nat × aj)}{fV:R->Exit->a7->Prop}(aJ:∀ s o,f s=some o->W P N c (get (G s)) (tu G fV o)) :
  ∀ (n:Nat) (s:S) (r:R),Own.iter f n s=some r->ox P N c (get (G s)) (fV r)
 | 0,_,_,h=>by simp [Own.iter] at h
 | n+1,s,r,h=>by
  simp only [Own.iter] at h;cases bp:f s with
  | none=>rw [bp] at h; cases h
  | some o =>
   rw [bp] at h;refine .step ((aJ s o bp).mono λe g' ax=>?_);cases o with
   | inl eT =>
    obtain ⟨rfl,hw⟩:=ax;exact (ox.it aJ n eT r h).be hw
   | inr fg =>
    cases h;obtain ⟨aP,hw⟩:=ax;cases e with
    | normal=>exact absurd rfl aP
    | _=>exact hw
theorem W.Mk {f:S->Option (S ⊕ R)}{s:S}{r:R}(G:S->List (Nat × aj)) (fV:R->Exit->a7->Prop) (h:cI f s=some r) (aJ:∀ s o,f s=some o->W P N c (get (G s)) (tu G fV o)) (hk:∀ e g,fV r e g->Φ e g):W P N (.loop c) (get (G s)) Φ :=
 (W.loop (ox.it aJ fuel s r h)).mono hk
theorem W.eH {f:S->Option (S ⊕ R)}{s:S}{r:R}(G:S->List (Nat × aj)) (id:Nat) (nQ:R->List (Nat × aj)) (h:cI f s=some r) (aJ:∀ s o,f s=some o->W P N c (get (G s)) (tu G (λr e g=>e=.exit id/\kT g (nQ r)) o)) (hk:ah (.exit id) Φ (nQ r)):W P N (.loop c) (get (G s)) Φ :=
 .Mk G _ h aJ λe g ⟨he,bb⟩=>by subst he; exact hk g bb
theorem W.iM {qx:Type}{f:S->Option (S ⊕ (R ⊕ qx))}{s:S}{r:R ⊕ qx}(G:S->List (Nat × aj)) (id:Nat) (nQ:R->List (Nat × aj)) (tq:qx->List (Nat × aj)) (h:cI f s=some r)
  (aJ:∀ s o,f s=some o->W P N c (get (G s)) (tu G (λ(r:R ⊕ qx) e g=>match r with | .inl r=>e=.exit id/\kT g (nQ r) | .inr r=>e=.ret/\kT g (tq r)) o))
  (J:∀ x,r=.inl x->ah (.exit id) Φ (nQ x)) (ax:∀ x,r=.inr x->ah .ret Φ (tq x)):W P N (.loop c) (get (G s)) Φ:=by
 refine .Mk G _ h aJ λe g h=>?_;cases r with
 | inl r=>obtain ⟨rfl,bb⟩:=h; exact J r rfl g bb
 | inr r=>obtain ⟨rfl,bb⟩:=h; exact ax r rfl g bb
theorem ah.go {s:S}{F:S->List (Nat × aj)}{fV:R->Exit->a7->Prop}(h:Trim true (get G) (get (F s)) (F s)):ah .normal (tu F fV (.inl s)) G:=λ_ aJ=>⟨rfl,aJ.trans (.gj h.gj .gE)⟩
theorem ah.aE {r:R}{F:S->List (Nat × aj)}{nQ:R->List (Nat × aj)}(h:Trim true (get G) (get (nQ r)) (nQ r)):ah (.exit id) (tu F (λr e g=>e=.exit id/\kT g (nQ r)) (.inr r)) G:=λ_ aJ=>⟨by simp,rfl,aJ.trans (.gj h.gj .gE)⟩
theorem ah.x2 {qx:Type}{r:R}{F:S->List (Nat × aj)}{nQ:R->List (Nat × aj)}{tq:qx->List (Nat × aj)}(h:Trim true (get G) (get (nQ r)) (nQ r)) :
  ah (.exit id) (tu F (λ(r:R ⊕ qx) e g=>match r with | .inl r=>e=.exit id/\kT g (nQ r) | .inr r=>e=.ret/\kT g (tq r)) (.inr (.inl r))) G:=λ_ aJ=>⟨by simp,rfl,aJ.trans (.gj h.gj .gE)⟩
theorem ah.fR {qx:Type}{r:qx}{F:S->List (Nat × aj)}{nQ:R->List (Nat × aj)}{tq:qx->List (Nat × aj)}(h:Trim true (get G) (get (tq r)) (tq r)) :
  ah .ret (tu F (λ(r:R ⊕ qx) e g=>match r with | .inl r=>e=.exit id/\kT g (nQ r) | .inr r=>e=.ret/\kT g (tq r)) (.inr (.inr r))) G:=λ_ aJ=>⟨by simp,rfl,aJ.trans (.gj h.gj .gE)⟩
def BP (P:Program) (N:dW) (rs:List ResultVar) (n:Nat) (outs:List (Option aj)) (res:aj) (e:Exit) (g:a7):Prop:=∃ G,kT g G/\Fin P N rs n outs res e (get G)
theorem W.fin {rs:List ResultVar}{n:Nat}{outs:List (Option aj)}{res:aj}{g:a7}(h:W P N c g (BP P N rs n outs res)):W P N c g (Fin P N rs n outs res):=by
 have key:∀ e g,BP P N rs n outs res e g->yF P N g e (Fin P N rs n outs res):=by
  rintro e g ⟨G,aJ,bp⟩
  induction aJ with
  | gE=>exact .gE bp
  | gj hw _ aR=>exact .gj hw (aR bp)
 exact W.outs h key
theorem ah.fin {rs:List ResultVar}{n:Nat}{outs:List (Option aj)}{res:aj}(h:Fin P N rs n outs res e (get G)):ah e (BP P N rs n outs res) G:=λ_ aJ=>⟨G,aJ,h⟩
end
end Go.Own
namespace Go.Own
open Go
section
variable {P:Program}{N:dW}{ops:Array Oper}{cg:List (List Nat)}{g0:a7}{K:a7->Prop}{l:List Oper}{acc:Acc}{d i:Nat}{op:Op}{ty:TypeId}{pos:String}{after:Array Edge}{x:aj}{iA:Option (Nat × Bool)}
abbrev oj (cg:List (List Nat)) (g0:a7) (af:Nat) (acc:Acc):a7:=eu g0 (λm=>(cg.getD af []).contains m) acc
def bC (P:Program) (N:dW) (ops:Array Oper) (cg:List (List Nat)) (g0:a7) (i:Nat) (acc:Acc) (l:List Oper) (K:a7->Prop):Prop:=∀ eA af,mS P N ops cg g0 i eA->iT P N ops cg g0 i eA af acc->ops.toList.drop af=l->∃ g',rl P N ops cg i eA g0 g'/\K g'
theorem y6 {af dr:Nat}{o:Oper}(h:ops.toList.drop af=o::l) (aa:Nat.beq ops.size (dr+l.length+1)=true):af=dr:=by
 have h1:=congrArg List.length h;rw [List.length_drop,List.length_cons,Array.length_toList] at h1;have:=Nat.eq_of_beq_eq_true aa;omega
theorem Oe (aP:acc.all (λe=>!Nat.beq e.2.1 d)=true):∀ e∈acc,e.2.1≠d:=by
 intro e he h;have:=List.all_eq_true.1 aP e he;rw [h] at this;simp at this
theorem bC.st (dr:Nat) {r:Option aj}{o:Oper}(aZ:o.dst=some d) (aO:pa P (oj cg g0 dr acc) ops o r) (aa:Nat.beq ops.size (dr+l.length+1)=true) (bp:g0 d=none) (aP:acc.all (λe=>!Nat.beq e.2.1 d)=true) (b1:N.ok d=true)
  (hk:bC P N ops cg g0 i ((dr,d,r)::acc) l K):bC P N ops cg g0 i acc (o::l) K:=by
 intro eA af di n3 mw;have:=y6 mw aa;subst this;obtain ⟨h1,al⟩:=drop_cons mw;exact hk eA (af+1) di (.step n3 h1 aZ bp (Oe aP) b1 aO) al
theorem bC.v (dr:Nat) (aH:dI P (oj cg g0 dr acc) op ty x) (aa:Nat.beq ops.size (dr+l.length+1)=true) (bp:g0 d=none) (aP:acc.all (λe=>!Nat.beq e.2.1 d)=true) (b1:N.ok d=true) (bb:gA (oj cg g0 dr acc) ops iA)
  (hk:bC P N ops cg g0 i ((dr,d,some x)::acc) l K):bC P N ops cg g0 i acc (⟨some d,op,ty,pos,after,iA⟩::l) K :=
 .st dr (r:=some x) rfl (.inl ⟨bb.wanted,.inl aH⟩) aa bp aP b1 hk
theorem bC.c (dr:Nat) (aH:ct P (oj cg g0 dr acc) op x) (aa:Nat.beq ops.size (dr+l.length+1)=true) (bp:g0 d=none) (aP:acc.all (λe=>!Nat.beq e.2.1 d)=true) (b1:N.ok d=true) (bb:gA (oj cg g0 dr acc) ops iA)
  (hk:bC P N ops cg g0 i ((dr,d,some x)::acc) l K):bC P N ops cg g0 i acc (⟨some d,op,ty,pos,after,iA⟩::l) K :=
 .st dr (r:=some x) rfl (.inl ⟨bb.wanted,.inr aH⟩) aa bp aP b1 hk
theorem bC.ps (dr:Nat) {uq dD:Nat}{b c:Bool}(h:(ops[uq]?).bind (·.dst)=some dD) (bb:oj cg g0 dr acc dD=some (aY c)) (aJ:c=!b) (aa:Nat.beq ops.size (dr+l.length+1)=true) (bp:g0 d=none) (aP:acc.all (λe=>!Nat.beq e.2.1 d)=true) (b1:N.ok d=true)
  (hk:bC P N ops cg g0 i ((dr,d,some (.cA []))::acc) l K):bC P N ops cg g0 i acc (⟨some d,op,ty,pos,after,some (uq,b)⟩::l) K :=
 .st dr (r:=some (.cA [])) rfl (.inr (.inl ⟨⟨dD,h,.inl ⟨c,bb,by subst aJ; cases b <;> rfl⟩⟩,rfl⟩)) aa bp aP b1 hk
theorem bC.pu (dr:Nat) {uq dD:Nat}{b:Bool}(h:(ops[uq]?).bind (·.dst)=some dD) (bb:oj cg g0 dr acc dD=some (.cA [])) (aa:Nat.beq ops.size (dr+l.length+1)=true) (bp:g0 d=none) (aP:acc.all (λe=>!Nat.beq e.2.1 d)=true) (b1:N.ok d=true)
  (hk:bC P N ops cg g0 i ((dr,d,some (.cA []))::acc) l K):bC P N ops cg g0 i acc (⟨some d,op,ty,pos,after,some (uq,b)⟩::l) K :=
 .st dr (r:=some (.cA [])) rfl (.inr (.inl ⟨⟨dD,h,.inr ⟨bb,rfl⟩⟩,rfl⟩)) aa bp aP b1 hk
def rW (G:List (Nat × aj)):Bool:=G.all λp=>match p.2 with | .bY ..=>false | _=>true
theorem xZ {G:List (Nat × aj)}(h:rW G=true):∀ t z q n m new,get G t≠some (.bY z q n m new):=by
 induction G with
 | nil=>intro t z q n m new J; cases J
 | cons p G aR =>
  obtain ⟨s,x⟩:=p;simp only [rW,List.all_cons,Bool.and_eq_true] at h;intro t z q n m new J;simp only [get] at J
  split at J
  ·cases J; exact absurd h.1 (by simp)
  ·exact aR h.2 t z q n m new J
theorem bC.fin {G G1:List (Nat × aj)}(bH:acc.filterMap mb=[]) (i_:rW G=true) (hi:Nat.ble i ops.size=true) (h:Trim true (eu (get G) (λ_=>true) acc) (get G1) G1):bC P N ops cg (get G) i acc [] λg'=>kX g' (get G1):=by
 intro eA af di n3 mw;have aa:af=ops.size:=by
  have h1:ops.size<=af:=by
   have:=congrArg List.length mw;rw [List.length_drop,List.length_nil,Array.length_toList] at this;omega
  have aS:af<=ops.size:=by
   cases n3 with
   | nil=>exact Nat.le_of_ble_eq_true hi
   | step _ bj=>have:=(Array.getElem?_eq_some_iff.1 bj).1; omega
  omega
 subst aa;exact ⟨_,.fin n3 (by rw [bH]; exact List.nodup_nil) (xZ i_),h.gj⟩
theorem rl.Jy {g g1 g':a7}{i af:Nat}{eA:Acc}{o:Oper}(di:mS P N ops cg g i eA) (aO:iT P N ops cg g i eA af acc) (hJ:(acc.filterMap mb).Nodup) (i_:∀ t z q n m new,g t≠some (.bY z q n m new)) (bj:ops[af]?=some o) (hw:iU (eu g (λ_=>true) acc) ops o true)
  (he:cc P N (eu g (λ_=>true) acc) o g1) (bk:(List.range af).all (λk=>(cg.getD af []).contains k)=true) (aJ:(List.range ops.size).all (λk=>decide (k<=af)||(cg.getD k []).contains af)=true) (ax:rl P N ops cg (af+1) [] g1 g'):rl P N ops cg i eA g g':=by
 have ej:∀ e∈acc,(cg.getD af []).contains e.1=true:=λe h=>List.all_eq_true.1 bk e.1 (List.mem_range.2 ((aO.le di).2 e h));have e:eu g (λm=>(cg.getD af []).contains m) acc=eu g (λ_=>true) acc:=funext λt=>Bw λe h _=>ej e h;have gQ:[]=acc.filter λe=>!(cg.getD af []).contains e.1:=by
  symm;rw [List.filter_eq_nil_iff];intro a h;rw [ej a h];decide
 exact .w9 (rs:=q7 []) aO hJ i_ bj (by rw [e]; exact hw) (by rw [e]; exact he.mY.v) (λp aH=>by simp [q7] at aH) gQ (by simp) (by simp) (by simp) aJ ax
theorem W.rd {id:Nat}{l:List Oper}{G:List (Nat × aj)}{Φ:Exit->a7->Prop}(cg:List (List Nat)) (G1:List (Nat × aj)) (hm:P.follows .mixedOrders=true) (ej:rr l.toArray cg=true)
  (h:bC P N l.toArray cg (get G) 0 [] l λg'=>kX g' (get G1)) (hk:ah .normal Φ G1):W P N (.region id l.toArray true) (get G) Φ:=by
 obtain ⟨g',h1,al⟩:=h [] 0 .nil .nil (by simp);exact (gM.draw hm ej h1).w (hk g' (.gj al .gE))
end
end Go.Own
namespace Go.Own
open Go
variable {α:Type}
section
variable {P:Program}{N:dW}{ops:Array Oper}{g g2:a7}{K:a7->Prop}{l:List Oper}{d r:Nat}{ty t t2:TypeId}{pos:String}{after:Array Edge}{a b c:Operand}{k lz:IntKind}{m n:Int}{s u:ByteArray}
namespace O
theorem e6 {e:TypeId}{z:Value}{cs:List aj}(bH:(P.info? e).bind (·.zero)=some z) (h1:z.cells.toList.all Value.oneCell'=true) (ae:z.cells.toList.map oa=cs):dI P g (.alloc e) ty (.obj cs):=by
 subst ae; exact .q4 (.alloc bH (by rw [<- Array.all_toList]; exact h1))
theorem eh {t:TypeId}{parts:Array (Nat × Operand)}{pl:List (Nat × Nat)}{eF:Value}{ps:List (Nat × List aj)}{cs:List aj}(aG:kP P t pl=true) (bH:(P.info? t).bind (·.zero)=some eF) (h1:eF.cells.toList.all Value.oneCell'=true)
  (aH:q5 g parts.toList=some ps) (ae:xt (λi=>pl[i]?) (eF.cells.toList.map oa) ps=some cs):dI P g (.build t parts) ty (.agg cs):=.DG (.build aG bH (by rw [<- Array.all_toList]; exact h1) aH ae)
end O
inductive o' (g g2:a7):aj->Prop
 | n {x:aj}(h:dn x):o' g g2 x
 | p {r k:Nat}{cs cs2:List aj}(h:g r=some (.obj cs)) (hk:k<cs.length) (al:g2 r=some (.obj cs2)) (hb:k<cs2.length):o' g g2 (.ptr ⟨r,[]⟩ k)
 | r {z n N I3 q:Nat}{cs cs2:List aj}(h:g q=some (.own z N cs)) (aP:n<=N) (al:g2 q=some (.own z I3 cs2)) (oH:n<=I3):o' g g2 (.bh z ⟨q,[]⟩ n)
theorem uH {r k:Nat}{cs:List aj}(h:g r=some (.obj cs)) (hk:k<cs.length):hq g (.ptr ⟨r,[]⟩ k):=⟨.obj cs,by simp [cd,h,aj.at],0,0,cs,.inr rfl,hk⟩
theorem Bl {z n N q:Nat}{cs:List aj}(h:g q=some (.own z N cs)) (aP:n<=N):hq g (.bh z ⟨q,[]⟩ n):=.inl ⟨N,cs,by simp [cd,h,aj.at],aP⟩
theorem o'.bo {x:aj}(h:o' g g2 x):e' g2 x:=by
 cases h with
 | n h=>exact .bP h
 | p _ _ al hb=>exact .ref rfl (uH al hb)
 | r _ _ al oH=>exact .ref rfl (Bl al oH)
theorem o'.Bn {x:aj}{yn k0 m0:Nat}(h:o' g g2 x):kk (λr=>hq g r/\Clear ⟨yn,[]⟩ k0 m0 r/\hq g2 r) x:=by
 cases h with
 | n h=>exact .bP h
 | p h hk al hb =>
  refine .ref rfl ⟨uH h hk,?_,uH al hb⟩;intro q bW _ af fg e;simp only [yo,Option.some.injEq] at bW;subst bW;simp at e
 | r h hk al hb =>
  refine .ref rfl ⟨Bl h hk,?_,Bl al hb⟩;intro q bW _ af fg e;simp only [yo,Option.some.injEq] at bW;subst bW;simp at e
theorem o'.fZ {x:aj}(h:o' g g2 x):∀ z p n m new,x≠.bY z p n m new:=by
 rintro z p n m new rfl;cases h with
 | n h=>cases h
inductive mT (g g2:a7) (r:Nat) (cs2:List aj):List (Nat × aj)->Prop
 | nil:mT g g2 r cs2 []
 | n {s:Nat}{x:aj}{l:List (Nat × aj)}(eL:Nat.beq s r=false) (h:g s=some x) [aP:cV x] (t:mT g g2 r cs2 l):mT g g2 r cs2 ((s,x)::l)
 | p {s q k:Nat}{l:List (Nat × aj)}{cs nW:List aj}(eL:Nat.beq s r=false) (h:g s=some (.ptr ⟨q,[]⟩ k)) (h1:g q=some (.obj cs)) (hk:Nat.blt k cs.length=true) (al:g2 q=some (.obj nW)) (hb:Nat.blt k nW.length=true) (t:mT g g2 r cs2 l):mT g g2 r cs2 ((s,.ptr ⟨q,[]⟩ k)::l)
 | w {α:Type}{s q:Nat}{en:cF α}{L:List α}{l:List (Nat × aj)}(eL:Nat.beq s r=false) (h:g s=some (.bh en.z ⟨q,[]⟩ L.length)) (h1:g q=some (ak en L)) (al:g2 q=some (ak en L)) (t:mT g g2 r cs2 l):mT g g2 r cs2 ((s,.bh en.z ⟨q,[]⟩ L.length)::l)
 | b {l:List (Nat × aj)}{x:aj}(e:x=.obj cs2) [aP:eZ cs2] (t:mT g g2 r cs2 l):mT g g2 r cs2 ((r,x)::l)
theorem mT.spec {cs2:List aj}{l:List (Nat × aj)}(h:mT g g2 r cs2 l):∀ t x,get l t=some x->(t≠r/\g t=some x/\o' g g2 x)\/(t=r/\x=.obj cs2/\dn x):=by
 induction h with
 | nil=>intro t x J; cases J
 | @n s x l eL h aP _ aR =>
  intro t y aA; simp only [get] at aA
  split at aA
  ·rename_i e; subst e; cases aA; exact .inl ⟨Nat.ne_of_beq_eq_false eL,h,.n aP.bP⟩
  ·exact aR t y aA
 | @p s q k l cs nW eL h h1 hk al hb _ aR =>
  intro t y aA; simp only [get] at aA
  split at aA
  ·rename_i e; subst e; cases aA; exact .inl ⟨Nat.ne_of_beq_eq_false eL,h,.p h1 (by simpa using hk) al (by simpa using hb)⟩
  ·exact aR t y aA
 | @w α s q en L l eL h h1 al _ aR =>
  intro t y aA; simp only [get] at aA
  split at aA
  ·rename_i e; subst e; cases aA; exact .inl ⟨Nat.ne_of_beq_eq_false eL,h,.r h1 (Nat.le_refl _) al (Nat.le_refl _)⟩
  ·exact aR t y aA
 | @b l x e aP _ aR =>
  intro t y aA; simp only [get] at aA
  split at aA
  ·rename_i cY; subst cY; cases aA; subst e; exact .inr ⟨rfl,rfl,.obj aP.bP⟩
  ·exact aR t y aA
theorem cc.box {o:Oper}{k0:Nat}{cs cs' cs2:List aj}{y:aj}{G2:List (Nat × aj)}(bj:o.op=.store t a b) (aZ:o.dst=none) (aO:g r=some (.obj cs)) (bk:Rd g a (.ptr ⟨r,[]⟩ k0)) (aJ:Rd g b y) (aP:dn y) (ae:rz y=some cs') (bH:gz P t cs'.length=true)
  (hk:k0+cs'.length<=cs.length) (bf:0<cs'.length) (he:fM cs k0 cs'=cs2) [hc:eZ cs] (ax:get G2 r≠none) (eD:mT g (get G2) r cs2 G2):cc P N g o (get G2):=by
 subst he;have mD:g r≠none:=by rw [aO]; simp
 refine .store bj aZ bk.bT aJ.bT (.bP (by simpa using aP)) .refl ae bH (p:=⟨r,[]⟩) (nd:=.obj cs) (z:=0) (n:=0) (by simp [cd,aO,aj.at]) (.inr rfl) hk bf (λt x J=>?_) (λt x J y aA=>?_) (λt z q n m new J=>?_) ax
 ·rcases eD.spec t x J with ⟨h1,al,_⟩ | ⟨h1,al,_⟩
  ·rw [ta h1]; exact al
  ·subst h1 al; simp [dh,aO,aj.setAt,aj.fM]
 ·rcases eD.spec t x J with ⟨h1,al,aS⟩ | ⟨h1,al,aS⟩
  ·rw [al] at aA; cases aA; exact aS.Bn
  ·subst h1;rw [aO] at aA;cases aA;exact .bP (.obj hc.bP)
 ·rcases eD.spec t _ J with ⟨_,_,aS⟩ | ⟨_,al,_⟩
  ·exact aS.fZ _ _ _ _ _ rfl
  ·cases al
theorem Trim.q {EI:Bool}{yt q k0:Nat}{cs:List aj}{Mi:List (Nat × aj)}(h:g yt=some (.ptr ⟨q,[]⟩ k0)) (al:g2 q=some (.obj cs)) (hk:Nat.blt k0 cs.length=true) (VP:Trim EI g g2 Mi):Trim EI g g2 ((yt,.ptr ⟨q,[]⟩ k0)::Mi) :=
 .r h (.ref rfl (uH al (by simpa using hk))) (by simp) VP
theorem au.ha {o:Oper}{G2:List (Nat × aj)}(bb:o.guard=none) (he:cc P N g o (get G2)) (hk:au P N ops l (get G2) K):au P N ops (o::l) g K:=by
 intro i hi;obtain ⟨h1,al⟩:=drop_cons hi;obtain ⟨g',ax,eJ⟩:=hk (i+1) al;refine ⟨g',.mY h1 ?_ he ax,eJ⟩;unfold iU; rw [bb]
theorem au.dx {k0:Nat}{cs cs' cs2:List aj}{y:aj}{G2:List (Nat × aj)}(aO:g r=some (.obj cs)) (bk:Rd g a (.ptr ⟨r,[]⟩ k0)) (aJ:Rd g b y) [aP:cV y] (ae:rz y=some cs') (bH:gz P t cs'.length=true)
  (hk:Nat.ble (k0+cs'.length) cs.length=true) (bf:Nat.blt 0 cs'.length=true) (he:fM cs k0 cs'=cs2) [hc:eZ cs] (ax:(get G2 r).isSome=true) (eD:mT g (get G2) r cs2 G2) (C2:au P N ops l (get G2) K):au P N ops (⟨none,.store t a b,ty,pos,after,none⟩::l) g K :=
 .ha rfl (.box rfl rfl aO bk aJ aP.bP ae bH (Nat.le_of_ble_eq_true hk) (by simpa using bf) he (by intro e; rw [e] at ax; cases ax) eD) C2
variable {cg:List (List Nat)}{acc:Acc}{i:Nat}
theorem bC.w9 (dr:Nat) {G G2:List (Nat × aj)}{o:Oper}(he:cc P N (eu (get G) (λ_=>true) acc) o (get G2)) (bb:o.guard=none) (bH:acc.filterMap mb=[]) (i_:rW G=true) (aa:Nat.beq ops.size (dr+l.length+1)=true)
  (bk:(List.range dr).all (λk=>(cg.getD dr []).contains k)=true) (aJ:(List.range ops.size).all (λk=>Nat.ble k dr||(cg.getD k []).contains dr)=true) (hk:bC P N ops cg (get G2) (dr+1) [] l K):bC P N ops cg (get G) i acc (o::l) K:=by
 intro eA af di n3 mw;have:=y6 mw aa;subst this;obtain ⟨h1,al⟩:=drop_cons mw;obtain ⟨g',ax,eJ⟩:=hk [] (af+1) .nil .nil al;refine ⟨g',.Jy di n3 (by rw [bH]; exact List.nodup_nil) (xZ i_) h1 ?_ he bk ?_ ax,eJ⟩
 ·unfold iU; rw [bb]
 ·refine List.all_eq_true.2 λk hk=>?_;have:=List.all_eq_true.1 aJ k hk;simp only [Bool.or_eq_true,decide_eq_true_eq,Nat.ble_eq] at this ⊢;exact this
theorem bC.dx (dr:Nat) {G:List (Nat × aj)}{k0:Nat}{cs cs' cs2:List aj}{y:aj}{G2:List (Nat × aj)}(aa:Nat.beq ops.size (dr+l.length+1)=true) (FX:(List.range dr).all (λk=>(cg.getD dr []).contains k)=true) (Lb:(List.range ops.size).all (λk=>Nat.ble k dr||(cg.getD k []).contains dr)=true) (G_:acc.filterMap mb=[]) (i_:rW G=true)
  (aO:eu (get G) (λ_=>true) acc r=some (.obj cs)) (bk:Rd (eu (get G) (λ_=>true) acc) a (.ptr ⟨r,[]⟩ k0)) (aJ:Rd (eu (get G) (λ_=>true) acc) b y) [aP:cV y] (ae:rz y=some cs') (bH:gz P t cs'.length=true)
  (hk:Nat.ble (k0+cs'.length) cs.length=true) (bf:Nat.blt 0 cs'.length=true) (he:fM cs k0 cs'=cs2) [hc:eZ cs] (ax:(get G2 r).isSome=true) (eD:mT (eu (get G) (λ_=>true) acc) (get G2) r cs2 G2) (C2:bC P N ops cg (get G2) (dr+1) [] l K):bC P N ops cg (get G) i acc (⟨none,.store t a b,ty,pos,after,none⟩::l) K :=
 .w9 dr (.box rfl rfl aO bk aJ aP.bP ae bH (Nat.le_of_ble_eq_true hk) (by simpa using bf) he (by intro e; rw [e] at ax; cases ax) eD) rfl G_ i_ aa FX Lb C2
end
end Go.Own
namespace Go.Own
open Go
variable {α β:Type}
def oR (m:Int) (z:α):Option (List α):=if 0<=m/\m<=lim then some (List.replicate m.toNat z) else none
def ed (l m:List α):Option (List α):=if l.length+m.length<=lim then some (l++m) else none
class Flat (e:cF α):Prop where QX:∀ a,(e.cells a).all lH=true
instance:Flat aI:=⟨λ_=>rfl⟩
instance:Flat nY:=⟨λ_=>rfl⟩
instance:Flat bN:=⟨λ_=>rfl⟩
instance:Flat cy:=⟨λ_=>rfl⟩
instance {e:cF α}:Flat (bs e):=⟨λ_=>rfl⟩
theorem U9 (e:cF α) [h:Flat e] (l:List α):(cj e l).all lH=true:=by
 refine List.all_eq_true.2 λx J=>?_;obtain ⟨a,_,bk⟩:=List.mem_flatMap.1 J;exact List.all_eq_true.1 (h.QX a) x bk
theorem vX (e:cF α) (l m:List α):(.own e.z (l.length+m.length) (cj e l++cj e m):aj)=ak e (l++m):=by
 unfold ak;rw [List.length_append,wo]
theorem wq (e:cF α) (l:List α):(cj e l).take (l.length * e.z)=cj e l:=List.take_of_length_le (by rw [nI]; omega)
theorem MW:∀ L:List Int,cj nY L=L.map λb=>.lit (.int .u8 b)
 | []=>rfl
 | x::L=>by
  have:cj nY (x::L)=lX x::cj nY L:=rfl;rw [this,List.map_cons,MW L]
section
variable {P:Program}{N:dW}{ops:Array Oper}{g g1 g2:a7}{K:a7->Prop}{l:List Oper}{d r:Nat}{ty t t2:TypeId}{pos:String}{after:Array Edge}{iA:Option (Nat × Bool)}{a b c:Operand}{k lz:IntKind}{m n:Int}{s u:ByteArray}{p q:Place}
namespace O
theorem dF {e hZ:Nat}{parts:Array (Nat × Operand)}{ys:List aj}(en:cF α) (L:List α) (aG:fu P t e en.z=true) (J:iN g (parts.toList.map (·.2))=some ys) (ae:pf ys=some (cj en L)) (bH:ys.all (λy=>match lY y with | some c=>Nat.beq c.length en.z | none=>false)=true)
  (aH:parts.toList=(parts.toList.map (·.2)).mapIdx (λi x=>(i,x))) (aP:(parts.toList.map (·.2)).length=hZ) (aq:L.length=hZ) (hzero:jY P e en.z=true) (aJ:Nat.ble (hZ * en.z) 16777216=true) (cZ:Nat.ble hZ 16777216=true):dI P g (.buildSlice t hZ parts) ty (ak en L):=by
 subst aP;have:=o8.buildSlice (P:=P) (ty:=ty) aG aH J (λy aA=>by
  have:=List.all_eq_true.1 bH y aA;cases fz:lY y with
  | none=>rw [fz] at this; cases this
  | some c=>rw [fz] at this; exact ⟨c,rfl,Nat.eq_of_beq_eq_true this⟩) ae (Nat.le_of_ble_eq_true aJ) (Nat.le_of_ble_eq_true cZ) (.inr (IP hzero))
 unfold ak;rw [aq];exact .q4 this
theorem pJ {z cN n:Nat}{e:TypeId}(J:Rd g a (.bh z p n)) (aG:fu P t e cN=true):dI P g (.call { callee:=.builtin .len,args:=#[a],argTypes:=#[t] }) ty (j n):=.fl (.Ak J.bT aG)
theorem gH {en:cF α}{L:List α}{y:α}{e:TypeId}(aH:cd g p=some (ak en L)) (J:Rd g a (.bh en.z p L.length)) (hi:Rd g b (.lit (.int k m))) (aG:fu P t e en.z=true) (h:idx L m=some y) (bH:Nat.blt 0 en.z=true):dI P g (.indexAddr t a b) ty (.ptr p (m.toNat * en.z+0)):=by
 obtain ⟨bf,h1,_⟩:=pF h;obtain ⟨af,rfl⟩:=Int.eq_ofNat_of_zero_le bf;have G9:0<en.z:=by simpa using bH
 have aa:af<L.length:=by omega
 refine .fl (.Dh J.bT hi.bT aG aa ⟨_,aH,_,_,_,.inl rfl,?_⟩);rw [nI]; exact Nat.mul_lt_mul_of_pos_right aa G9
theorem U5 {en:cF α}{L:List α}{y:α}{o:Nat}(h:idx L m=some y) (bj:o<en.z):m.toNat * en.z+o<(cj en L).length:=by
 obtain ⟨bf,h1,_⟩:=pF h;rw [nI];have al:m.toNat+1<=L.length:=by omega
 calc m.toNat * en.z+o<m.toNat * en.z+en.z:=by omega
  _=(m.toNat+1) * en.z:=by rw [Nat.add_mul]; omega
  _<=L.length * en.z:=Nat.mul_le_mul_right _ al
theorem kl {en:cF α}{L:List α}{y:α}{eT f off o hM:Nat}(aH:cd g p=some (ak en L)) (J:Rd g a (.ptr p (m.toNat * en.z+o))) (bp:dN P eT f off t=true) (h:idx L m=some y) (bj:o+off=hM) (bg:Nat.blt hM en.z=true):dI P g (.fieldAddr eT a f) ty (.ptr p (m.toNat * en.z+hM)):=by
 subst bj;rw [<- Nat.add_assoc];refine .fl (.zo J.bT bp ⟨_,aH,_,_,_,.inl rfl,?_⟩);rw [Nat.add_assoc]; exact U5 h (by simpa using bg)
theorem rv {en:cF α}{L:List α}{y:α}{o:Nat}{x:aj}(aH:cd g p=some (ak en L)) (h:idx L m=some y) (ae:(en.cells y)[o]?=some x):cd g (p.push (m.toNat * en.z+o))=some x:=by
 rw [si,aH];exact MV en h ae
theorem jr {en:cF α}{L:List α}{y:α}{o:Nat}{x x':aj}(aH:cd g p=some (ak en L)) (J:Rd g a (.ptr p (m.toNat * en.z+o))) (aG:hE P t=true) (h:idx L m=some y) (ae:(en.cells y)[o]?=some x) (ax:ig 0 (p.push (m.toNat * en.z+o)) x=x'):dI P g (.load t a) ty x':=by
 subst ax;exact .fl (.An J.bT aG (rv aH h ae))
theorem Un {en:cF α}{L:List α}{y:α}{o z:Nat}{cs':List aj}(aH:cd g p=some (ak en L)) (J:Rd g a (.ptr p (m.toNat * en.z+o))) (aG:iI P t z=true) (h:idx L m=some y) (bH:Nat.ble (o+z) en.z=true)
  (ae:(((en.cells y).drop o).take z).mapIdx (λi x=>ig 0 (p.push (m.toNat * en.z+o+i)) x)=cs'):dI P g (.load t a) ty (.agg cs'):=by
 have G9:=Nat.le_of_ble_eq_true bH;have mw:((cj en L).drop (m.toNat * en.z+o)).take z=((en.cells y).drop o).take z:=by
  rw [<- List.drop_drop,Ia en h,List.drop_append_of_le_length (by rw [en.len]; omega),List.take_append_of_le_length (by rw [List.length_drop,en.len]; omega)]
 subst ae;rw [<- mw];refine .fl (.vT J.bT aG aH (.inl rfl) ?_);obtain ⟨bf,h1,_⟩:=pF h;rw [nI];have al:m.toNat+1<=L.length:=by omega
 calc m.toNat * en.z+o+z<=m.toNat * en.z+en.z:=by omega
  _=(m.toNat+1) * en.z:=by rw [Nat.add_mul]; omega
  _<=L.length * en.z:=Nat.mul_le_mul_right _ al
end O
class qv (g:a7):Prop where fZ:∀ t z q n m new,g t≠some (.bY z q n m new)
class ou (x:aj):Prop where fZ:∀ z q n m new,x≠.bY z q n m new
instance {x:aj} [h:cV x]:ou x:=⟨by rintro z q n m new rfl; cases h.bP⟩
instance {p:Place}{k:Nat}:ou (.ptr p k):=⟨by simp⟩
instance {p:Place}{z n:Nat}:ou (.bh z p n):=⟨by simp⟩
instance {p:Place}{z lo n:Nat}:ou (.sub z p lo n):=⟨by simp⟩
instance {cs:List aj}:ou (.agg cs):=⟨by simp⟩
instance {cs:List aj}:ou (.cA cs):=⟨by simp⟩
instance {cs:List aj}:ou (.obj cs):=⟨by simp⟩
instance {g:a7}{d:Nat}{x:aj} [h:qv g] [J:ou x]:qv (fc g d x):=⟨λt z q n m new e=>by
 unfold fc at e
 split at e
 ·cases e; exact J.fZ _ _ _ _ _ rfl
 ·exact h.fZ _ _ _ _ _ _ e⟩
instance:qv (get []):=⟨λ_ _ _ _ _ _ e=>by cases e⟩
instance {t:Nat}{x:aj}{G:List (Nat × aj)} [J:ou x] [h:qv (get G)]:qv (get ((t,x)::G)):=⟨λs z q n m new e=>by
 simp only [get] at e
 split at e
 ·cases e; exact J.fZ _ _ _ _ _ rfl
 ·exact h.fZ _ _ _ _ _ _ e⟩
class BX (acc:Acc):Prop where fZ:∀ e∈acc,∀ z q n m new,e.2.2≠some (.bY z q n m new)
instance:BX []:=⟨by simp⟩
instance {af d:Nat}{x:aj}{acc:Acc} [J:ou x] [h:BX acc]:BX ((af,d,some x)::acc):=⟨λe he z q n m new ca=>by
 rcases List.mem_cons.1 he with rfl | he
 ·exact J.fZ z q n m new (Option.some.inj ca)
 ·exact h.fZ e he z q n m new ca⟩
instance {G:List (Nat × aj)}{A:Nat->Bool}{acc:Acc} [bb:qv (get G)] [h:BX acc]:qv (eu (get G) A acc):=⟨λt z q n m new e=>by
 rcases tf e with ⟨cY,he,_,_,al⟩ | ⟨_,al⟩
 ·exact h.fZ cY he _ _ _ _ _ al
 ·exact bb.fZ _ _ _ _ _ _ al⟩
theorem w7 {L M:List α}{r:List α}{b:Nat}(h:ed L M=some r) (aJ:Nat.ble b 128=true):L.length+M.length<=4611686018427387904/\(L.length+M.length) * b<=140737488355328/\r=L++M:=by
 unfold ed at h
 split at h
 ·rename_i aq;have kH:=Nat.le_of_ble_eq_true aJ;have SU:lim=1099511627776:=rfl;refine ⟨by omega,?_,(Option.some.inj h).symm⟩
  calc (L.length+M.length) * b<=1099511627776 * 128:=Nat.mul_le_mul aq kH
   _=140737488355328:=by decide
 ·cases h
inductive qz (g:a7) (en:cF α):aj->List α->Prop
 | i {M:List α}:qz g en (.aD en.z M.length (cj en M)) M
 | n:qz g en .aF []
 | o {q:Place}{M:List α}(bW:cd g q=some (ak en M)) (bp:(cj en M).all lH=true):qz g en (.bh en.z q M.length) M
theorem qz.src {en:cF α}{y:aj}{M:List α}(h:qz g en y M):Src g y en.z M.length (cj en M):=by
 cases h with
 | i=>exact .aD
 | n=>exact .aF
 | o bW bp =>
  have:=Src.bh (g:=g) (m:=M.length) bW (Nat.le_refl _);rw [wq,zq (q:=λi=>_) bp] at this;exact this
theorem qz.flat (en:cF α) [Flat en] {q:Place}{M:List α}(bW:cd g q=some (ak en M)):qz g en (.bh en.z q M.length) M:=.o bW (U9 en M)
namespace O
theorem ap {en:cF α}{L M r:List α}{y:aj}{e jP:Nat}(aO:Rd g a (.bh en.z p L.length)) (aH:cd g p=some (ak en L)) (J:Rd g b y) (hm:qz g en y M) (aG:iV P t e en.z jP=true) (aJ:Nat.ble jP 128=true) (h:ed L M=some r) [hc:qv g] :
  dI P g (.call { callee:=.builtin .append,args:=#[a,b],argTypes:=#[t,t] }) ty (.bY en.z p L.length M.length (cj en M)):=by
 obtain ⟨h1,al,_⟩:=w7 h aJ;exact .lB (.grow aO.bT (.inl ⟨_,aH⟩) (λt cN c5 cb ds e=>hc.fZ _ _ _ _ _ _ e) J.bT hm.src aG h1 al)
theorem Oz {en:cF α}{M r:List α}{y:aj}{e jP:Nat}(aO:Rd g a .aF) (J:Rd g b y) (hm:qz g en y M) (aG:iV P t e en.z jP=true) (aJ:Nat.ble jP 128=true) (h:ed [] M=some r) :
  dI P g (.call { callee:=.builtin .append,args:=#[a,b],argTypes:=#[t,t] }) ty (ak en M):=by
 obtain ⟨h1,al,_⟩:=w7 h aJ;simp only [List.length_nil,Nat.zero_add] at h1 al;exact .lB (.nil aO.bT J.bT hm.src aG h1 al)
end O
inductive p2 (ex:List Nat) (g g2:a7):List (Nat × aj)->Prop
 | nil:p2 ex g g2 []
 | n {s:Nat}{x:aj}{l:List (Nat × aj)}(eL:ex.elem s=false) (h:g s=some x) [aP:cV x] (t:p2 ex g g2 l):p2 ex g g2 ((s,x)::l)
 | p {s q k:Nat}{l:List (Nat × aj)}{nW:List aj}(eL:ex.elem s=false) (h:g s=some (.ptr ⟨q,[]⟩ k)) (al:g2 q=some (.obj nW)) (hb:Nat.blt k nW.length=true) (t:p2 ex g g2 l):p2 ex g g2 ((s,.ptr ⟨q,[]⟩ k)::l)
theorem p2.spec {ex:List Nat}{l:List (Nat × aj)}(h:p2 ex g g2 l):∀ t x,get l t=some x->ex.elem t=false/\g t=some x/\e' g2 x/\∀ z p n m new,x≠.bY z p n m new:=by
 induction h with
 | nil=>intro t x J; cases J
 | @n s x l eL h aP _ aR =>
  intro t y aA; simp only [get] at aA
  split at aA
  ·rename_i e; subst e; cases aA; exact ⟨eL,h,.bP aP.bP,by rintro z p n m new rfl; cases aP.bP⟩
  ·exact aR t y aA
 | @p s q k l nW eL h al hb _ aR =>
  intro t y aA; simp only [get] at aA
  split at aA
  ·rename_i e; subst e; cases aA; exact ⟨eL,h,.ref rfl (uH al (by simpa using hb)),by simp⟩
  ·exact aR t y aA
theorem p2.keep {ex:List Nat}{G2:List (Nat × aj)}(h:p2 ex g (get G2) G2) (bb:∀ t,ex.elem t=false->g1 t=g t):fN g1 (get G2) :=
 ⟨λt x J=>by obtain ⟨h1,al,_⟩:=h.spec t x J; rw [bb t h1]; exact al,λt x J=>(h.spec t x J).2.2.1,λt z q n m new J=>(h.spec t _ J).2.2.2 _ _ _ _ _ rfl⟩
theorem Take.row {en:cF α}{L:List α}(aH:cd g p=some (ak en L)):Take g [.bh en.z p L.length] [ak en L] (dh g p .dead):=by
 have h1:Take (dh g p .dead) ((cj en L).take (L.length * en.z)) (cj en L) (dh g p .dead):=by
  rw [wq]; exact .bP (oc en L)
 exact .bh aH (Nat.le_refl _) h1 (.bP (by simp))
theorem Take.U7 {en:cF α}{L M:List α}{s:Nat}(aO:g s=some (.bY en.z q L.length M.length (cj en M))) (aH:cd g q=some (ak en L)) (bW:q.root≠s):Take g [.bh en.z ⟨s,[]⟩ (L.length+M.length)] [ak en (L++M)] (dh (dh g ⟨s,[]⟩ .dead) q .dead):=by
 rw [<- vX];exact .bY aO aH bW (.bP λx J=>(List.mem_append.1 J).elim (oc en L x) (oc en M x)) (.bP (by simp))
theorem Take.U8 {en:cF α}{L M M2:List α}{s s2:Nat}(aO:g s=some (.bY en.z ⟨s2,[]⟩ (L.length+M2.length) M.length (cj en M))) (xN:g s2=some (.bY en.z q L.length M2.length (cj en M2))) (aH:cd g q=some (ak en L)) (bW:q.root≠s) (rO:q.root≠s2) (GJ:s≠s2) :
  Take g [.bh en.z ⟨s,[]⟩ (L.length+M2.length+M.length)] [ak en (L++M2++M)] (dh (dh (dh g ⟨s,[]⟩ .dead) ⟨s2,[]⟩ .dead) q .dead):=by
 have:=Take.DH (g:=g) (xs:=[]) (xs':=[]) aO xN rfl aH bW rO GJ (.bP (xs:=cj en L++cj en M2++cj en M) λx J=>by
  rcases List.mem_append.1 J with h | h
  ·exact (List.mem_append.1 h).elim (oc en L x) (oc en M2 x)
  ·exact oc en M x h) (.bP (by simp))
 have e:(ak en (L++M2++M):aj)=.own en.z (L.length+M2.length+M.length) (cj en L++cj en M2++cj en M):=by
  unfold ak; rw [List.length_append,List.length_append,wo,wo]
 rw [e]; exact this
theorem uP {t:Nat}{y:aj}(h:t≠p.root):dh g p y t=g t:=by unfold dh; rw [if_neg h]
theorem xk {ex:List Nat}{t s:Nat}(h:ex.elem t=false) (aO:ex.elem s=true):t≠s:=by rintro rfl; rw [h] at aO; cases aO
theorem cc.iy {o:Oper}{en:cF α}{L:List α}{x:Operand}{G2:List (Nat × aj)}(bj:o.op=.assign x) (aZ:o.dst=some d) (J:Rd g x (.bh en.z p L.length)) (aH:cd g p=some (ak en L)) (eD:p2 [p.root] g (get G2) G2) (bb:get G2 d=none) (b1:N.ok d=true):cc P N g o (fc (get G2) d (ak en L)) :=
 .assign bj aZ J.bT (.row aH) .refl (eD.keep λt aG=>uP (xk aG (by simp))) bb b1
theorem cc.nT {o:Oper}{en:cF α}{L M:List α}{s:Nat}{x:Operand}{G2:List (Nat × aj)}(bj:o.op=.assign x) (aZ:o.dst=some d) (J:Rd g x (.bh en.z ⟨s,[]⟩ (L.length+M.length))) (aO:g s=some (.bY en.z q L.length M.length (cj en M))) (aH:cd g q=some (ak en L)) (bW:Nat.beq q.root s=false)
  (eD:p2 [s,q.root] g (get G2) G2) (bb:get G2 d=none) (b1:N.ok d=true):cc P N g o (fc (get G2) d (ak en (L++M))) :=
 .assign bj aZ J.bT (.U7 aO aH (Nat.ne_of_beq_eq_false bW)) .refl (eD.keep λt aG=>by rw [uP (xk aG (by simp)),uP (xk aG (by simp))]) bb b1
theorem cc.Jb {o:Oper}{en:cF α}{L M M2:List α}{s s2:Nat}{x:Operand}{G2:List (Nat × aj)}(bj:o.op=.assign x) (aZ:o.dst=some d) (J:Rd g x (.bh en.z ⟨s,[]⟩ (L.length+M2.length+M.length))) (aO:g s=some (.bY en.z ⟨s2,[]⟩ (L.length+M2.length) M.length (cj en M)))
  (xN:g s2=some (.bY en.z q L.length M2.length (cj en M2))) (aH:cd g q=some (ak en L)) (bW:Nat.beq q.root s=false) (rO:Nat.beq q.root s2=false) (GJ:Nat.beq s s2=false)
  (eD:p2 [s,s2,q.root] g (get G2) G2) (bb:get G2 d=none) (b1:N.ok d=true):cc P N g o (fc (get G2) d (ak en (L++M2++M))) :=
 .assign bj aZ J.bT (.U8 aO xN aH (Nat.ne_of_beq_eq_false bW) (Nat.ne_of_beq_eq_false rO) (Nat.ne_of_beq_eq_false GJ)) .refl (eD.keep λt aG=>by rw [uP (xk aG (by simp)),uP (xk aG (by simp)),uP (xk aG (by simp))]) bb b1
theorem au.gm {o:Oper}{x:aj}{G2:List (Nat × aj)}(bb:o.guard=none) (he:cc P N g o (fc (get G2) d x)) (hk:au P N ops l (fc (get G2) d x) K):au P N ops (o::l) g K:=by
 intro i hi;obtain ⟨h1,al⟩:=drop_cons hi;obtain ⟨g',ax,eJ⟩:=hk (i+1) al;refine ⟨g',.mY h1 ?_ he ax,eJ⟩;unfold iU; rw [bb]
theorem tL {x:aj}{G:List (Nat × aj)}:fc (get G) d x=get ((d,x)::G):=by
 funext t; unfold fc; simp only [get]
variable {cg:List (List Nat)}{acc:Acc}{i:Nat}
inductive yN (P:Program):a7->List ResultVar->List aj->List aj->a7->Prop
 | nil {g:a7}:yN P g [] [] [] g
 | f {g g':a7}{t:Nat}{x:aj}{rs:List ResultVar}{ys xs:List aj}(h:g t=some x) (bp:lH x=true) [aP:cV x] (aG:yN P g rs ys xs g'):yN P g (.tmp t::rs) (x::ys) (x::xs) g'
 | o {g g':a7}{t:Nat}{en:cF α}{L:List α}{rs:List ResultVar}{ys xs:List aj}(h:g t=some (ak en L)) (aG:yN P (dh g ⟨t,[]⟩ .dead) rs ys xs g'):yN P g (.tmp t::rs) (.bh en.z ⟨t,[]⟩ L.length::ys) (ak en L::xs) g'
end
end Go.Own
namespace Go.Own
open Go
variable {α β:Type}
section
variable {P:Program}{N:dW}{ops:Array Oper}{g g' g1 g2:a7}{K:a7->Prop}{l:List Oper}{d r:Nat}{ty t t2:TypeId}{pos:String}{after:Array Edge}{a b c:Operand}{p q:Place}{e:Exit}
inductive p1 (s:Nat):a7->Nat->List aj->List aj->a7->Prop
 | nil {g:a7}{i:Nat}:p1 s g i [] [] g
 | f {g g':a7}{i:Nat}{x:aj}{ys xs:List aj}(bp:lH x=true) [aP:cV x] (aG:p1 s g (i+1) ys xs g'):p1 s g i (x::ys) (x::xs) g'
 | o {α:Type}{g g':a7}{i:Nat}{en:cF α}{L:List α}{ys xs:List aj}(aH:cd g ⟨s,[i]⟩=some (ak en L)) (aG:p1 s (dh g ⟨s,[i]⟩ .dead) (i+1) ys xs g'):p1 s g i (.bh en.z ⟨s,[i]⟩ L.length::ys) (ak en L::xs) g'
theorem p1.take {s i:Nat}{ys xs:List aj}(h:p1 s g i ys xs g'):Take g ys xs g':=by
 induction h with
 | nil=>exact .bP (by simp)
 | @f g g' i x ys xs bp aP _ aR=>exact .cons aP.bP aR
 | @o α g g' i en L ys xs aH _ aR =>
  refine .bh aH (Nat.le_refl _) ?_ aR;rw [wq]; exact .bP (oc en L)
inductive o_ (P:Program):a7->List ResultVar->List aj->List aj->a7->Prop
 | nil {g:a7}:o_ P g [] [] [] g
 | f {g g':a7}{t:Nat}{x:aj}{rs:List ResultVar}{ys xs:List aj}(h:g t=some x) (bp:lH x=true) [aP:cV x] (aG:o_ P g rs ys xs g'):o_ P g (.tmp t::rs) (x::ys) (x::xs) g'
 | o {α:Type}{g g':a7}{t:Nat}{en:cF α}{L:List α}{rs:List ResultVar}{ys xs:List aj}(h:g t=some (ak en L)) (aG:o_ P (dh g ⟨t,[]⟩ .dead) rs ys xs g'):o_ P g (.tmp t::rs) (.bh en.z ⟨t,[]⟩ L.length::ys) (ak en L::xs) g'
 | c {g g' CI:a7}{t z:Nat}{ty:TypeId}{cs ys0:List aj}{rs:List ResultVar}{ys xs:List aj}(h:g t=some (.obj cs)) (aG:iI P ty z=true) (bH:cs.length=z) (bf:Nat.blt 0 z=true) (aA:(cs.mapIdx λi x=>ig 0 ⟨t,[i]⟩ x)=ys0) (hk:p1 t g 0 ys0 cs CI) (ax:o_ P CI rs ys xs g'):o_ P g (.cell t ty::rs) (.agg ys0::ys) (.agg cs::xs) g'
def wO (g0 g:a7):Prop:=∀ t x,g t=some x->(lH x=true\/(∃ z n cs,x=.own z n cs))->g0 t=some x
theorem wO.set {g0:a7}{t:Nat}{pp:List Nat}(h:wO g0 g) (bj:pp=[]\/∃ cs,g t=some (.obj cs)):wO g0 (dh g ⟨t,pp⟩ .dead):=by
 intro s x J bp;unfold dh at J
 split at J
 ·rename_i aO;simp only at aO J;subst aO;exfalso;cases bb:g s with
  | none=>rw [bb] at J; cases J
  | some y =>
   rw [bb] at J;simp only [Option.map_some,Option.some.injEq] at J;rcases bj with rfl | ⟨cs,ae⟩
   ·simp only [aj.setAt] at J;subst J;rcases bp with bp | ⟨_,_,_,bp⟩ <;> cases bp
   ·rw [bb] at ae;cases ae;have:∃ cs',x=.obj cs':=by
     subst J;cases pp with
     | nil=>simp only [aj.setAt] at bp; rcases bp with bp | ⟨_,_,_,bp⟩ <;> cases bp
     | cons k pp =>
      simp only [aj.setAt,aj.kids];split
      ·exact ⟨_,rfl⟩
      ·exact ⟨_,rfl⟩
    obtain ⟨cs',rfl⟩:=this;rcases bp with bp | ⟨_,_,_,bp⟩ <;> cases bp
 ·exact h s x J bp
theorem p1.Qr {g0:a7}{s i:Nat}{ys xs:List aj}(h:p1 s g i ys xs g'):(∃ cs,g s=some (.obj cs))->wO g0 g->wO g0 g':=by
 induction h with
 | nil=>exact λ_ h=>h
 | f _ _ aR=>exact aR
 | @o α g g' i en L ys xs aH _ aR =>
  intro bj aZ;refine aR ?_ (aZ.set (.inr bj));obtain ⟨cs,ae⟩:=bj;unfold dh;simp only [if_pos,ae,Option.map_some,aj.setAt,aj.kids];split
  ·exact ⟨_,rfl⟩
  ·exact ⟨_,rfl⟩
theorem p1.out {s i:Nat}{ys xs:List aj}(h:p1 s g i ys xs g'):∀ t,t≠s->g' t=g t:=by
 induction h with
 | nil=>exact λ_ _=>rfl
 | f _ _ aR=>exact aR
 | o _ _ aR=>exact λt aG=>by rw [aR t aG,uP aG]
theorem o_.take {rs:List ResultVar}{ys xs:List aj}(h:o_ P g rs ys xs g'):Take g ys xs g':=by
 induction h with
 | nil=>exact .bP (by simp)
 | @f g g' t x rs ys xs h bp aP _ aR=>exact .cons aP.bP aR
 | @o α g g' t en L rs ys xs h _ aR =>
  have aH:cd g ⟨t,[]⟩=some (ak en L):=by simp [cd,h,aj.at]
  refine .bh aH (Nat.le_refl _) ?_ aR;rw [wq]; exact .bP (oc en L)
 | @c g g' CI t z ty cs ys0 rs ys xs h aG bH bf aA hk _ aR=>exact .agg hk.take aR
theorem o_.vs {rs:List ResultVar}{ys xs:List aj}(h:o_ P g rs ys xs g'):∀ g0:a7,wO g0 g->(∀ t ty,ResultVar.cell t ty∈rs->∀ cs,g t=some (.obj cs)->g0 t=some (.obj cs))->(rs.filterMap fun | .cell t _=>some t | _=>none).Nodup->qy P g0 rs ys:=by
 induction h with
 | nil=>exact λ_ _ _ _=>.nil
 | @f g g' t x rs ys xs h bp aP _ aR =>
  intro g0 aZ aJ gv;exact .cons (.tmp (Rd.f (aZ t x h (.inl bp)) bp)) (aR g0 aZ (λt ty hm=>aJ t ty (List.mem_cons_of_mem _ hm)) (by simpa using gv))
 | @o α g g' t en L rs ys xs h _ aR =>
  intro g0 aZ aJ gv;refine .cons (.tmp ?_) (aR g0 (aZ.set (.inl rfl)) (λs ty hm cs ae=>?_) (by simpa using gv))
  ·have:=aZ t _ h (.inr ⟨_,_,_,rfl⟩);simp [Own.bT,this,q6,ig]
  ·by_cases aO:s=t
   ·subst aO; simp [dh,h,aj.setAt] at ae
   ·rw [uP aO] at ae; exact aJ s ty (List.mem_cons_of_mem _ hm) cs ae
 | @c g g' CI t z ty cs ys0 rs ys xs h aG bH bf aA hk _ aR =>
  intro g0 aZ aJ gv;have h1:=aJ t ty (by simp) cs h;simp only [List.filterMap_cons,List.nodup_cons] at gv;refine .cons ?_ (aR g0 (hk.Qr ⟨cs,h⟩ aZ) (λs NB hm cs' ae=>?_) gv.2)
  ·have G9:0<z:=by simpa using bf
   have J:Own.bT g0 (.tmp t)=some (.ptr ⟨t,[]⟩ 0):=by
    cases cs with
    | nil=>simp at bH; omega
    | cons c cs=>simp [Own.bT,h1,q6,ig]
   have:=dB.vT (P:=P) (ty:=ty) (p:=⟨t,[]⟩) (n:=0) (z:=0) J aG (by simp only [cd,h1,aj.at]) (.inr rfl) (show 0+z<=cs.length by omega);have hs:((cs.drop 0).take z).mapIdx (λi x=>ig 0 (Place.push ⟨t,[]⟩ (0+i)) x)=ys0:=by
    rw [List.drop_zero,List.take_of_length_le (by omega),<- aA];congr 1;funext i x;simp [Place.push]
   rw [hs] at this;exact .cell this
  ·have cp:s≠t:=by
    rintro rfl;exact gv.1 (List.mem_filterMap.2 ⟨.cell s NB,hm,rfl⟩)
   have:=hk.out s cp;rw [this] at ae;exact aJ s NB (List.mem_cons_of_mem _ hm) cs' ae
inductive sb (g:a7) (pins:List Nat):Nat->List (Option aj)->Prop
 | nil {i:Nat}:sb g pins i []
 | no {i:Nat}{os:List (Option aj)}(t:sb g pins (i+1) os):sb g pins i (none::os)
 | aC {i:Nat}{x:aj}{os:List (Option aj)}(h:g i=some x) [aP:cV x] (aH:pins.elem i=true) (t:sb g pins (i+1) os):sb g pins i (some x::os)
theorem sb.spec {pins:List Nat}{i:Nat}{os:List (Option aj)}(h:sb g pins i os):∀ k x,os[k]?=some (some x)->g (i+k)=some x/\dn x/\i+k∈pins:=by
 induction h with
 | nil=>intro k x hk; simp at hk
 | no _ aR =>
  intro k x hk;cases k with
  | zero=>simp at hk
  | succ k=>have:=aR k x (by simpa using hk); rw [Nat.add_assoc,Nat.add_comm 1 k] at this; exact this
 | @aC i y os h aP aH _ aR =>
  intro k x hk;cases k with
  | zero=>simp at hk; subst hk; exact ⟨h,aP.bP,by simpa using aH⟩
  | succ k=>have:=aR k x (by simpa using hk); rw [Nat.add_assoc,Nat.add_comm 1 k] at this; exact this
theorem Fin.ro {rs:List ResultVar}{ys xs:List aj}{res:aj}{outs:List (Option aj)}{n:Nat}(h:o_ P g rs ys xs g') (he:ql xs=res) (gv:(rs.filterMap fun | .cell t _=>some t | _=>none).Nodup) (bj:sb g' N.pins 0 outs) (aq:outs.length=n) (J:e=.normal\/e=.ret):Fin P N rs n outs res e g :=
 ⟨J,⟨ys,xs,g',h.vs g (λ_ _ h _=>h) (λ_ _ _ _ h=>h) gv,h.take,he.symm,λk x hk=>by have:=bj.spec k x hk; rw [Nat.zero_add] at this; exact this⟩,aq⟩
class kC (x y:aj):Prop where v:∀ g,View g x y
class dY (xs ys:List aj):Prop where
 l:ys.length=xs.length
 v:∀ (g:a7) (k:Nat) (x y:aj),xs[k]?=some x->ys[k]?=some y->View g x y
class hr (e cY:cF α):Prop where
 z:e.z=cY.z
 v:∀ a,dY (e.cells a) (cY.cells a)
instance {v:Value}:kC (.lit v) (.lit v):=⟨λ_=>.self .lit (by simp) (by simp) (by simp) (by simp) (by simp)⟩
instance:kC .aF .aF:=⟨λ_=>.self .aF (by simp) (by simp) (by simp) (by simp) (by simp)⟩
instance {z n:Nat}{cs:List aj} [h:eZ cs]:kC (.aD z n cs) (.aD z n cs):=⟨λ_=>.self (.aD h.bP) (by simp) (by simp) (by simp) (by simp) (by simp)⟩
instance {cs:List aj} [h:eZ cs]:kC (.bn cs) (.bn cs):=⟨λ_=>.self (.bn h.bP) (by simp) (by simp) (by simp) (by simp) (by simp)⟩
instance {e:cF α}:kC .aF (ai e []):=⟨λ_=>.pK⟩
instance:dY [] []:=⟨rfl,by simp⟩
instance {x y:aj}{xs ys:List aj} [h:kC x y] [aU:dY xs ys]:dY (x::xs) (y::ys):=⟨by simp [aU.l],λg k a b bk aJ=>by
 cases k with
 | zero=>simp at bk aJ; subst bk aJ; exact h.v g
 | succ k=>exact aU.v g k a b (by simpa using bk) (by simpa using aJ)⟩
theorem By (e cY:cF α) [h:hr e cY]:∀ L:List α,(cj cY L).length=(cj e L).length/\∀ (g:a7) (k:Nat) (x y:aj),(cj e L)[k]?=some x->(cj cY L)[k]?=some y->View g x y
 | []=>⟨rfl,by simp [cj]⟩
 | a::L=>by
  obtain ⟨h1,al⟩:=By e cY L;have QI:∀ e:cF α,cj e (a::L)=e.cells a++cj e L:=λe=>by simp [cj]
  refine ⟨by rw [nI,nI,h.z],λg k x y J aA=>?_⟩;rw [QI] at J aA;by_cases hk:k<e.z
  ·rw [List.getElem?_append_left (by rw [e.len]; exact hk)] at J;rw [List.getElem?_append_left (by rw [cY.len,<- h.z]; exact hk)] at aA;exact (h.v a).v g k x y J aA
  ·rw [List.getElem?_append_right (by rw [e.len]; omega),e.len] at J;rw [List.getElem?_append_right (by rw [cY.len,<- h.z]; omega),cY.len,<- h.z] at aA;exact al g _ x y J aA
instance {e cY:cF α}{L:List α} [h:hr e cY]:kC (ak e L) (ai cY L):=⟨λg=>by
 have:=By e cY L;show View g (.own e.z L.length (cj e L)) (.aD cY.z L.length (cj cY L));rw [<- h.z];exact .own this.1 (this.2 g)⟩
instance:hr aI aI:=⟨rfl,λa=>(inferInstance:dY [j a] [j a])⟩
instance:hr nY nY:=⟨rfl,λa=>(inferInstance:dY [lX a] [lX a])⟩
instance:hr bN bN:=⟨rfl,λa=>(inferInstance:dY [aY a] [aY a])⟩
instance:hr cy cy:=⟨rfl,λa=>(inferInstance:dY [ab a] [ab a])⟩
instance {e cY:cF α} [h:hr e cY]:hr (fk e) (bs cY):=⟨rfl,λa=>(inferInstance:dY [ak e a] [ai cY a])⟩
instance {e:cF α}:hr (bs e) (bs e):=⟨rfl,λa=>(inferInstance:dY [ai e a] [ai e a])⟩
theorem View.row {e cY:cF α}{L:List α} [h:hr e cY] (aH:cd g p=some (ak e L)):View g (.bh e.z p L.length) (ai cY L):=by
 have:=By e cY L;show View g _ (.aD cY.z L.length (cj cY L));rw [<- h.z];refine .bh aH (Nat.le_refl _) (by rw [wq]; exact this.1) (λk x y J aA=>?_);rw [wq] at J;exact this.2 g k x y J aA
inductive p3 (g:a7):List aj->List aj->Prop
 | nil:p3 g [] []
 | s {x y:aj}{xs ys:List aj} [h:kC x y] (t:p3 g xs ys):p3 g (x::xs) (y::ys)
 | c {x y:aj}{xs ys:List aj}(h:View g x y) (t:p3 g xs ys):p3 g (x::xs) (y::ys)
theorem p3.len {xs ys:List aj}(h:p3 g xs ys):ys.length=xs.length:=by
 induction h with
 | nil=>rfl
 | s _ aR=>simp [aR]
 | c _ _ aR=>simp [aR]
theorem p3.get {xs ys:List aj}(h:p3 g xs ys):∀ (k:Nat) (x y:aj),xs[k]?=some x->ys[k]?=some y->View g x y:=by
 induction h with
 | nil=>intro k x y J; simp at J
 | @s x y xs ys h _ aR =>
  intro k a b bk aJ;cases k with
  | zero=>simp at bk aJ; subst bk aJ; exact h.v g
  | succ k=>exact aR k a b (by simpa using bk) (by simpa using aJ)
 | @c x y xs ys h _ aR =>
  intro k a b bk aJ;cases k with
  | zero=>simp at bk aJ; subst bk aJ; exact h
  | succ k=>exact aR k a b (by simpa using bk) (by simpa using aJ)
theorem View.sf {xs ys:List aj}(h:p3 g xs ys):View g (.agg xs) (.agg ys):=.agg h.len h.get
class qw (x:aj):Prop where k':kB x
class jZ (cs:List aj):Prop where k':∀ x∈cs,kB x
class lV (e:cF α):Prop where k':∀ a,jZ (e.cells a)
instance {v:Value}:qw (.lit v):=⟨.lit⟩
instance:qw .aF:=⟨.aF⟩
instance:jZ []:=⟨by simp⟩
instance {x:aj}{xs:List aj} [h:qw x] [aU:jZ xs]:jZ (x::xs):=⟨λy aA=>by
 rcases List.mem_cons.1 aA with rfl | aA
 ·exact h.k'
 ·exact aU.k' y aA⟩
instance {e:cF α}{L:List α} [h:lV e]:jZ (cj e L):=⟨λx J=>by
 obtain ⟨a,_,bk⟩:=List.mem_flatMap.1 J;exact (h.k' a).k' x bk⟩
instance {z n:Nat}{cs:List aj} [h:jZ cs]:qw (.own z n cs):=⟨.own h.k'⟩
instance {cs:List aj} [h:jZ cs]:qw (.obj cs):=⟨.obj h.k'⟩
instance {cs:List aj} [h:jZ cs]:qw (.agg cs):=⟨.agg h.k'⟩
instance {cs:List aj} [h:jZ cs]:qw (.cA cs):=⟨.cA h.k'⟩
instance {e:cF α}{a:α} [h:lV e]:jZ (e.cells a):=h.k' a
instance:lV aI:=⟨λa=>(inferInstance:jZ [j a])⟩
instance:lV nY:=⟨λa=>(inferInstance:jZ [lX a])⟩
instance:lV bN:=⟨λa=>(inferInstance:jZ [aY a])⟩
instance:lV cy:=⟨λa=>(inferInstance:jZ [ab a])⟩
instance {e:cF α} [h:lV e]:lV (fk e):=⟨λa=>(inferInstance:jZ [ak e a])⟩
theorem Uy {outs:List (Option aj)}{args:List aj}(bj:vV outs=true) (aq:outs.length=args.length):outs=args.map λ_=>none:=by
 apply List.ext_getElem?;intro k;rw [List.getElem?_map];cases aA:args[k]? with
 | none=>rw [List.getElem?_eq_none (by rw [aq]; exact List.getElem?_eq_none_iff.1 aA)]; rfl
 | some y =>
  have hk:k<outs.length:=by rw [aq]; exact (List.getElem?_eq_some_iff.1 aA).1
  have h1:=List.getElem?_eq_getElem hk;rw [h1];cases al:outs[k] with
  | none=>rfl
  | some x=>rw [al] at h1; exact absurd h1 (DC bj k x)
theorem ct.vw {xs:List Operand}{iF:Array TypeId}{f:FuncId}{ys args:List aj}{outs:List (Option aj)}{res:aj}(J:iN g xs=some ys) (hv:p3 g ys args) (jj:b6 P f args outs res) (bp:du P f=true) (bj:vV outs=true) [ax:qw res] :
  ct P g (.call { callee:=.value (.func f),args:=xs.toArray,argTypes:=iF }) res:=by
 have e:=Uy bj jj.1;refine .Du (first:=[]) (caps:=[]) (ys:=ys) (args:=args) rfl (by simpa using J) bp (by simpa using hv.len) (λk x y J aA=>hv.get k x y (by simpa using J) aA) ?_ ax.k';rw [<- e]; exact jj
end
end Go.Own
namespace Go.Own
open Go
variable {α β:Type}
section
variable {P:Program}{N:dW}{ops:Array Oper}{g g' g1 g2:a7}{K:a7->Prop}{l:List Oper}{d r:Nat}{op:Op}{ty t t2:TypeId}{pos:String}{after:Array Edge}{iA:Option (Nat × Bool)}{a b c:Operand}{p q:Place}{x y:aj}
variable {cg:List (List Nat)}{g0:a7}{acc:Acc}{i:Nat}
instance {cs cs':List aj} [h:dY cs cs']:kC (.obj cs) (.bn cs'):=⟨λg=>.obj h.l (h.v g)⟩
instance {cs cs':List aj} [h:dY cs cs']:kC (.agg cs) (.agg cs'):=⟨λg=>.agg h.l (h.v g)⟩
instance {z n:Nat}{cs cs':List aj} [h:dY cs cs']:kC (.own z n cs) (.aD z n cs'):=⟨λg=>.own h.l (h.v g)⟩
theorem au.fT (aH:dI P g op ty y) [aP:cV y] [hv:kC y x] (b1:N.ok d=true) (bp:g d=none) (bb:gA g ops iA) (hk:au P N ops l (fc g d x) K):au P N ops (⟨some d,op,ty,pos,after,iA⟩::l) g K :=
 .yv rfl b1 bp (r:=some x) (.inr (.inr ⟨bb.wanted,y,.inl aH,aP.bP,hv.v _⟩)) hk
theorem bC.fT (dr:Nat) (aH:dI P (oj cg g0 dr acc) op ty y) [aP:cV y] [hv:kC y x] (aa:Nat.beq ops.size (dr+l.length+1)=true) (bp:g0 d=none) (pA:acc.all (λe=>!Nat.beq e.2.1 d)=true) (b1:N.ok d=true) (bb:gA (oj cg g0 dr acc) ops iA)
  (hk:bC P N ops cg g0 i ((dr,d,some x)::acc) l K):bC P N ops cg g0 i acc (⟨some d,op,ty,pos,after,iA⟩::l) K :=
 .st dr (r:=some x) rfl (.inr (.inr ⟨bb.wanted,y,.inl aH,aP.bP,hv.v _⟩)) aa bp pA b1 hk
inductive pc (ex:List Nat) (g g2:a7):List (Nat × aj)->Prop
 | nil:pc ex g g2 []
 | n {s:Nat}{x:aj}{l:List (Nat × aj)}(eL:ex.elem s=false) (h:g s=some x) [aP:cV x] (t:pc ex g g2 l):pc ex g g2 ((s,x)::l)
 | p {s q k:Nat}{l:List (Nat × aj)}{nW:List aj}(eL:ex.elem s=false) (h:g s=some (.ptr ⟨q,[]⟩ k)) (al:g2 q=some (.obj nW)) (hb:Nat.blt k nW.length=true) (t:pc ex g g2 l):pc ex g g2 ((s,.ptr ⟨q,[]⟩ k)::l)
 | z {s:Nat}{x y:aj}{l:List (Nat × aj)}(he:ex.elem s=true) (h:g s=some y) [aP:cV y] (hv:jK y x) [J:ou x] (t:pc ex g g2 l):pc ex g g2 ((s,x)::l)
theorem pc.spec {ex:List Nat}{l:List (Nat × aj)}(h:pc ex g g2 l):∀ t x,get l t=some x->((ex.elem t=false/\g t=some x/\e' g2 x)\/(ex.elem t=true/\∃ y,g t=some y/\dn y/\jK y x))/\∀ z p n m new,x≠.bY z p n m new:=by
 induction h with
 | nil=>intro t x J; cases J
 | @n s x l eL h aP _ aR =>
  intro t y aA; simp only [get] at aA
  split at aA
  ·rename_i e; subst e; cases aA; exact ⟨.inl ⟨eL,h,.bP aP.bP⟩,by rintro z p n m new rfl; cases aP.bP⟩
  ·exact aR t y aA
 | @p s q k l nW eL h al hb _ aR =>
  intro t y aA; simp only [get] at aA
  split at aA
  ·rename_i e; subst e; cases aA; exact ⟨.inl ⟨eL,h,.ref rfl (uH al (by simpa using hb))⟩,by simp⟩
  ·exact aR t y aA
 | @z s x y l he h aP hv J _ aR =>
  intro t y' aA; simp only [get] at aA
  split at aA
  ·rename_i e; subst e; cases aA; exact ⟨.inr ⟨he,y,h,aP.bP,hv⟩,J.fZ⟩
  ·exact aR t y' aA
theorem pc.tJ {ex:List Nat}{G2:List (Nat × aj)}(h:pc ex g (get G2) G2):Es (λt=>ex.elem t) g (get G2):=by
 refine ⟨λt x J aG=>?_,λt x J aG=>?_,λt z q n m new J=>(h.spec t _ J).2 _ _ _ _ _ rfl⟩
 ·rcases (h.spec t x J).1 with ⟨_,h1,al⟩ | ⟨h1,_⟩
  ·exact ⟨h1,al⟩
  ·rw [h1] at aG; cases aG
 ·rcases (h.spec t x J).1 with ⟨h1,_⟩ | ⟨_,al⟩
  ·rw [h1] at aG; cases aG
  ·exact al
theorem W.e7 {cE:Code}{G G1:List (Nat × aj)}{Φ:Exit->a7->Prop}(ex:List Nat) (h:pc ex (get G) (get G1) G1) (hw:W P N cE (get G1) Φ):W P N cE (get G) Φ:=by
 intro Q a w I Fs b5 b1 ea;obtain ⟨I',cB,eO,cp⟩:=b5.tJ h.tJ;exact hw eO b1 λe g' cJ w' he aP=>ea e g' cJ w' he (il.trans rfl h5.refl cp aP)
theorem au.e7 {G1:List (Nat × aj)}(ex:List Nat) (h:pc ex g (get G1) G1) (hk:au P N ops l (get G1) K):au P N ops l g K:=by
 intro i hi;obtain ⟨g',ax,eJ⟩:=hk i hi;exact ⟨g',.tJ h.tJ ax,eJ⟩
theorem Take.pre {xs xs':List aj}:∀ {ps:List aj},(∀ x∈ps,dn x)->Take g xs xs' g'->Take g (ps++xs) (ps++xs') g'
 | [],_,h=>h
 | x::ps,aP,h=>.cons (aP x (by simp)) (Take.pre (ps:=ps) (λy aA=>aP y (List.mem_cons_of_mem _ aA)) h)
inductive ix:a7->List aj->List aj->a7->Prop
 | nil {g:a7}:ix g [] [] g
 | js {g:a7}{xs:List aj} [aP:eZ xs]:ix g xs xs g
 | f {g g':a7}{x:aj}{xs xs':List aj} [aP:cV x] (t:ix g xs xs' g'):ix g (x::xs) (x::xs') g'
 | r {α:Type}{g g':a7}{p:Place}{en:cF α}{L:List α}{xs xs':List aj}(aH:cd g p=some (ak en L)) (t:ix (dh g p .dead) xs xs' g'):ix g (.bh en.z p L.length::xs) (ak en L::xs') g'
 | l {g g1 g':a7}{p:Place}{z n:Nat}{cs cs' xs xs':List aj}(aH:cd g p=some (.own z n cs)) (aq:cs.length=n * z) (h1:ix (dh g p .dead) cs cs' g1) (t:ix g1 xs xs' g'):ix g (.bh z p n::xs) (.own z n cs'::xs') g'
 | lP {α:Type}{g g1 g':a7}{q:Place}{s m:Nat}{en:cF α}{L:List α}{new ds xs xs':List aj}(aO:g s=some (.bY en.z q L.length m new)) (aH:cd g q=some (ak en L)) (bW:Nat.beq q.root s=false) (h1:ix (dh (dh g ⟨s,[]⟩ .dead) q .dead) new ds g1) (t:ix g1 xs xs' g') :
   ix g (.bh en.z ⟨s,[]⟩ (L.length+m)::xs) (.own en.z (L.length+m) (cj en L++ds)::xs') g'
 | sf {g g1 g':a7}{cs cs' xs xs':List aj}(h1:ix g cs cs' g1) (t:ix g1 xs xs' g'):ix g (.agg cs::xs) (.agg cs'::xs') g'
 | m {g g':a7}{p:Place}{q:Array MapEntry->Nat->Prop}{xs xs':List aj}(aH:cd g p=some (.mp q)) (t:ix (dh g p .dead) xs xs' g'):ix g (.i' p::xs) (.mp q::xs') g'
 | b {g g1 g':a7}{p:Place}{cs cs' xs xs':List aj}(aH:cd g p=some (.obj cs)) (h1:ix (dh g p .dead) cs cs' g1) (t:ix g1 xs xs' g'):ix g (.ptr p 0::xs) (.obj cs'::xs') g'
theorem ix.take {xs xs':List aj}(h:ix g xs xs' g'):Take g xs xs' g':=by
 induction h with
 | m aH _ aR=>exact .mp aH (.bP (by simp)) aR
 | nil=>exact .bP (by simp)
 | @js g xs aP=>exact .bP aP.bP
 | @f g g' x xs xs' aP _ aR=>exact .cons aP.bP aR
 | @r α g g' p en L xs xs' aH _ aR =>
  refine .bh aH (Nat.le_refl _) ?_ aR;rw [wq]; exact .bP (oc en L)
 | @l g g1 g' p z n cs cs' xs xs' aH aq _ _ gD gx =>
  refine .bh aH (Nat.le_refl _) ?_ gx;rw [List.take_of_length_le (by omega)]; exact gD
 | @lP α g g1 g' q s m en L new ds xs xs' aO aH bW _ _ gD gx=>exact .bY aO aH (Nat.ne_of_beq_eq_false bW) (.pre (oc en L) gD) gx
 | @sf g g1 g' cs cs' xs xs' _ _ gD gx=>exact .agg gD gx
 | @b g g1 g' p cs cs' xs xs' aH _ _ gD gx=>exact .obj aH gD gx
inductive gl:List aj->List aj->Prop
 | nil:gl [] []
 | gE {xs:List aj}:gl xs xs
 | f {x:aj}{xs ys:List aj}(t:gl xs ys):gl (x::xs) (x::ys)
 | o {z:Nat}{xs ys:List aj}(t:gl xs ys):gl (.aF::xs) (.own z 0 []::ys)
 | z {x y:aj}{xs ys:List aj} [aP:cV x] [hv:kC x y] (t:gl xs ys):gl (x::xs) (y::ys)
 | g {x y:aj}{xs ys:List aj}(h:jK x y) (t:gl xs ys):gl (x::xs) (y::ys)
theorem gl.len {xs ys:List aj}(h:gl xs ys):ys.length=xs.length:=by
 induction h with
 | nil=>rfl
 | gE=>rfl
 | f _ aR=>simp [aR]
 | o _ aR=>simp [aR]
 | z _ aR=>simp [aR]
 | g _ _ aR=>simp [aR]
theorem gl.get {xs ys:List aj}(h:gl xs ys):∀ (k:Nat) (x y:aj),xs[k]?=some x->ys[k]?=some y->jK x y:=by
 induction h with
 | nil=>intro k x y J; simp at J
 | gE=>intro k x y J aA; rw [J] at aA; cases aA; exact .refl
 | @f x xs ys _ aR =>
  intro k a b bk aJ;cases k with
  | zero=>simp at bk aJ; subst bk aJ; exact .refl
  | succ k=>exact aR k a b (by simpa using bk) (by simpa using aJ)
 | @o z xs ys _ aR =>
  intro k a b bk aJ;cases k with
  | zero=>simp at bk aJ; subst bk aJ; exact .HH
  | succ k=>exact aR k a b (by simpa using bk) (by simpa using aJ)
 | @z x y xs ys aP hv _ aR =>
  intro k a b bk aJ;cases k with
  | zero=>simp at bk aJ; subst bk aJ; exact .qZ aP.bP (hv.v _)
  | succ k=>exact aR k a b (by simpa using bk) (by simpa using aJ)
 | @g x y xs ys h _ aR =>
  intro k a b bk aJ;cases k with
  | zero=>simp at bk aJ; subst bk aJ; exact h
  | succ k=>exact aR k a b (by simpa using bk) (by simpa using aJ)
theorem gl.pre {xs ys:List aj}(h:gl xs ys):∀ ps:List aj,gl (ps++xs) (ps++ys)
 | []=>h
 | _::ps=>.f (gl.pre h ps)
theorem gl.own {z n:Nat}{xs ys:List aj}(h:gl xs ys):jK (.own z n xs) (.own z n ys):=.own h.len h.get
theorem gl.obj {xs ys:List aj}(h:gl xs ys):jK (.obj xs) (.obj ys):=.obj h.len h.get
theorem gl.agg {xs ys:List aj}(h:gl xs ys):jK (.agg xs) (.agg ys):=.agg h.len h.get
theorem jK.hP [aP:cV x] [hv:kC x y]:jK x y:=.qZ aP.bP (hv.v _)
theorem cc.B3 {o:Oper}{x:Operand}{y kj y':aj}{G2:List (Nat × aj)}(bj:o.op=.assign x) (aZ:o.dst=some d) (J:Rd g x y) (aG:ix g [y] [kj] g1) (bH:jK kj y') (eD:Trim false g1 (get G2) G2) (bb:get G2 d=none) (b1:N.ok d=true):cc P N g o (fc (get G2) d y') :=
 .assign bj aZ J.bT aG.take bH eD.keep bb b1
theorem cc.Jn {o:Oper}{x:Operand}{en:cF α}{L M R:List α}{s m:Nat}{new ds:List aj}{G2:List (Nat × aj)}(bj:o.op=.assign x) (aZ:o.dst=some d) (J:Rd g x (.bh en.z ⟨s,[]⟩ (L.length+m))) (aO:g s=some (.bY en.z q L.length m new)) (aH:cd g q=some (ak en L)) (bW:Nat.beq q.root s=false)
  (h1:ix (dh (dh g ⟨s,[]⟩ .dead) q .dead) new ds g1) (bH:gl ds (cj en M)) (hm:M.length=m) (ax:L++M=R) (eD:Trim false g1 (get G2) G2) (bb:get G2 d=none) (b1:N.ok d=true):cc P N g o (fc (get G2) d (ak en R)):=by
 subst hm ax;have aG:=ix.lP (xs:=[]) (xs':=[]) aO aH bW h1 .nil;rw [<- vX];exact .assign bj aZ J.bT aG.take (bH.pre _).own eD.keep bb b1
theorem cc.ra {o:Oper}{k0:Nat}{rC cs' cs2:List aj}{y kj y':aj}{G2:List (Nat × aj)}(bj:o.op=.store t a b) (aZ:o.dst=none) (bk:Rd g a (.ptr ⟨r,[]⟩ k0)) (aJ:Rd g b y) (aG:ix g [y] [kj] g1) (qa:jK kj y') (ae:rz y'=some cs') (bH:gz P t cs'.length=true)
  (aO:g1 r=some (.obj rC)) (hk:Nat.ble (k0+cs'.length) rC.length=true) (bf:Nat.blt 0 cs'.length=true) (he:fM rC k0 cs'=cs2) [hc:eZ rC] (ax:(get G2 r).isSome=true) (eD:mT g1 (get G2) r cs2 G2):cc P N g o (get G2):=by
 subst he;refine .store bj aZ bk.bT aJ.bT aG.take qa ae bH (p:=⟨r,[]⟩) (nd:=.obj rC) (z:=0) (n:=0) (by simp [cd,aO,aj.at]) (.inr rfl) (Nat.le_of_ble_eq_true hk) (by simpa using bf) (λt x J=>?_) (λt x J y aA=>?_) (λt z q n m new J=>?_) (by intro e; rw [e] at ax; cases ax)
 ·rcases eD.spec t x J with ⟨h1,al,_⟩ | ⟨h1,al,_⟩
  ·rw [ta h1]; exact al
  ·subst h1 al; simp [dh,aO,aj.setAt,aj.fM]
 ·rcases eD.spec t x J with ⟨h1,al,aS⟩ | ⟨h1,al,aS⟩
  ·rw [al] at aA; cases aA; exact aS.Bn
  ·subst h1;rw [aO] at aA;cases aA;exact .bP (.obj hc.bP)
 ·rcases eD.spec t _ J with ⟨_,_,aS⟩ | ⟨_,al,_⟩
  ·exact aS.fZ _ _ _ _ _ rfl
  ·cases al
theorem cc.kr {o:Oper}{k0 s m:Nat}{en:cF α}{L M R:List α}{new ds:List aj}{rC cs2:List aj}{G2:List (Nat × aj)}(bj:o.op=.store t a b) (aZ:o.dst=none) (bk:Rd g a (.ptr ⟨r,[]⟩ k0)) (aJ:Rd g b (.bh en.z ⟨s,[]⟩ (L.length+m))) (sR:g s=some (.bY en.z q L.length m new)) (aH:cd g q=some (ak en L)) (bW:Nat.beq q.root s=false)
  (h1:ix (dh (dh g ⟨s,[]⟩ .dead) q .dead) new ds g1) (qa:gl ds (cj en M)) (hm:M.length=m) (bm:L++M=R) (bH:gz P t 1=true)
  (aO:g1 r=some (.obj rC)) (hk:Nat.ble (k0+1) rC.length=true) (he:fM rC k0 [ak en R]=cs2) [hc:eZ rC] (ax:(get G2 r).isSome=true) (eD:mT g1 (get G2) r cs2 G2):cc P N g o (get G2):=by
 subst hm bm;have aG:=ix.lP (xs:=[]) (xs':=[]) sR aH bW h1 .nil;refine .ra (y':=ak en (L++M)) bj aZ bk aJ aG ?_ rfl bH aO hk rfl he ax eD;rw [<- vX]; exact (qa.pre _).own
inductive ot (r:Nat) (cs:List aj) (k0:Nat):Nat->List aj->List aj->Prop
 | nil {i:Nat}:ot r cs k0 i [] []
 | b {i:Nat}{xs ys:List aj}(hi:Nat.beq i k0=true) (t:ot r cs k0 (i+1) xs ys):ot r cs k0 i (.ptr ⟨r,[]⟩ 0::xs) (.obj cs::ys)
 | n {i:Nat}{x:aj}{xs ys:List aj}(hi:Nat.beq i k0=false) [aP:cV x] (t:ot r cs k0 (i+1) xs ys):ot r cs k0 i (x::xs) (x::ys)
theorem ot.len {cs:List aj}{k0 i:Nat}{xs ys:List aj}(h:ot r cs k0 i xs ys):ys.length=xs.length:=by
 induction h with
 | nil=>rfl
 | b _ _ aR=>simp [aR]
 | n _ _ aR=>simp [aR]
theorem ot.Uz {cs:List aj}{k0 i:Nat}{xs ys:List aj}(h:ot r cs k0 i xs ys) (hi:k0<i):xs=ys/\∀ x∈xs,dn x:=by
 induction h with
 | nil=>exact ⟨rfl,by simp⟩
 | @b i _ _ h _ _=>have:=Nat.eq_of_beq_eq_true h; omega
 | @n i x xs ys _ aP _ aR =>
  obtain ⟨h1,al⟩:=aR (by omega);exact ⟨by rw [h1],oS aP.bP al⟩
theorem ot.take {cs:List aj}{k0 i:Nat}{xs ys:List aj}(h:ot r cs k0 i xs ys) (aO:g r=some (.obj cs)) (aP:∀ x∈cs,dn x):i<=k0->k0<i+xs.length->Take g xs ys (dh g ⟨r,[]⟩ .dead):=by
 induction h with
 | nil=>intro h1 al; simp at al; omega
 | @b i xs ys hi t _ =>
  intro h1 al;have:=Nat.eq_of_beq_eq_true hi;obtain ⟨e,mz⟩:=t.Uz (by omega);subst e;exact .obj (by simp [cd,aO,aj.at]) (.bP aP) (.bP mz)
 | @n i x xs ys hi J _ aR =>
  intro h1 al;have:=Nat.ne_of_beq_eq_false hi;simp only [List.length_cons] at al;exact .cons J.bP (aR (by omega) (by omega))
theorem ot.OG {cs:List aj}{k0 i:Nat}{xs ys:List aj}(h:ot r cs k0 i xs ys):i<=k0->k0<i+xs.length->xs[k0 - i]?=some (.ptr ⟨r,[]⟩ 0):=by
 induction h with
 | nil=>intro h1 al; simp at al; omega
 | @b i xs ys hi _ _=>intro _ _; have:=Nat.eq_of_beq_eq_true hi; subst this; simp
 | @n i x xs ys hi _ _ aR =>
  intro h1 al;have:=Nat.ne_of_beq_eq_false hi;simp only [List.length_cons] at al;have aS:=aR (by omega) (by omega);have:k0 - i=(k0 - (i+1))+1:=by omega
  rw [this,List.getElem?_cons_succ]; exact aS
def x4 (n k0:Nat) (x:aj):List (Option aj):=(List.range n).map λi=>if i=k0 then some x else none
inductive wK (g:a7) (d r:Nat) (n:Nat) (G4:List (Nat × aj)):List (Nat × aj)->Prop
 | nil:wK g d r n G4 []
 | c {s k:Nat}{l:List (Nat × aj)}(h:g s=some (.ptr ⟨r,[]⟩ k)) (hk:Nat.blt k n=true) (aZ:Nat.beq s d=false) (b7:get G4 s=none) (t:wK g d r n G4 l):wK g d r n G4 ((s,.ptr ⟨r,[]⟩ k)::l)
theorem CJ {A B:List (Nat × aj)}{t:Nat}:get (A++B) t=match get A t with | some x=>some x | none=>get B t:=by
 induction A with
 | nil=>rfl
 | cons p A aR =>
  obtain ⟨s,x⟩:=p;show (if t=s then some x else get (A++B) t)=_
  by_cases h:t=s
  ·simp [get,h]
  ·simp only [get,if_neg h]; exact aR
theorem wK.spec {n:Nat}{G4 A:List (Nat × aj)}(h:wK g d r n G4 A):∀ t x,get A t=some x->get G4 t=none/\t≠d/\g t=some x/\∃ k,x=.ptr ⟨r,[]⟩ k/\k<n:=by
 induction h with
 | nil=>intro t x J; cases J
 | @c s k l h hk aZ b7 _ aR =>
  intro t x J; simp only [get] at J
  split at J
  ·rename_i e; subst e; cases J; exact ⟨b7,Nat.ne_of_beq_eq_false aZ,h,k,rfl,by simpa using hk⟩
  ·exact aR t x J
theorem h4.nF {o:Oper}{xs:List Operand}{iF:Array TypeId}{f:FuncId}{ys args:List aj}{res:aj}{cs cs':List aj}{k0:Nat}{G2 A:List (Nat × aj)}(bj:o.op=.call { callee:=.value (.func f),args:=xs.toArray,argTypes:=iF }) (aZ:o.dst=some d) (J:Own.iN g xs=some ys)
  (aO:g r=some (.obj cs)) [hc:eZ cs] (bk:ot r cs k0 0 ys args) (xF:Nat.blt k0 ys.length=true) (jj:b6 P f args (x4 args.length k0 (.obj cs')) res) (bp:du P f=true) [ax:cV res] [LG:eZ cs']
  (eD:Trim false (dh g ⟨r,[]⟩ .dead) (get ((r,.dead)::G2)) G2) (bb:get G2 d=none) (zX:Nat.beq r d=false) (zw:Trim false (get ((r,.obj cs')::G2)) (get ((r,.obj cs')::G2)) G2) (ej:wK g d r cs'.length ((r,.obj cs')::G2) A) (b1:N.ok d=true) :
  h4 P N g o d (get (A++(d,res)::(r,.obj cs')::G2)):=by
 have W9:k0<ys.length:=by simpa using xF
 have zY:r≠d:=Nat.ne_of_beq_eq_false zX;have vp:args.length=ys.length:=bk.len;have pB:(x4 args.length k0 (.obj cs'))[k0]?=some (some (.obj cs')):=by
  unfold x4;rw [List.getElem?_map,List.getElem?_range (by omega)];simp
 have S6:∀ (k:Nat) (x:aj),(x4 args.length k0 (.obj cs'))[k]?=some (some x)->x=.obj cs':=by
  intro k x h;unfold x4 at h;rw [List.getElem?_map] at h;cases hk:(List.range args.length)[k]? with
  | none=>rw [hk] at h; cases h
  | some af =>
   rw [hk] at h;simp only [Option.map_some,Option.some.injEq] at h
   split at h
   ·exact (Option.some.inj h).symm
   ·cases h
 have Fc:get ((r,aj.dead)::G2) r=some .dead:=by simp [get]
 have vO:fN (dh g ⟨r,[]⟩ .dead) (get ((r,.dead)::G2)):=by
  refine ⟨λt x h=>?_,λt x h=>?_,λt z q n m new h=>?_⟩
  all_goals
   simp only [get] at h
   split at h
  ·rename_i e; subst e; cases h; simp [dh,aO,aj.setAt]
  ·obtain ⟨⟨y,h1,_,aS⟩,_⟩:=eD.spec t x h; rw [<- aS rfl]; exact h1
  ·cases h; exact .bP .dead
  ·exact (eD.spec t x h).2.1
  ·cases h
  ·exact (eD.spec t _ h).2.2 _ _ _ _ _ rfl
 have put:pO (get ((r,.dead)::G2)) [(⟨r,[]⟩,.obj cs')]=get ((r,.obj cs')::G2):=by
  funext t;simp only [pO,dh,get];by_cases h:t=r
  ·simp [h,aj.setAt]
  ·simp [h]
 have vP:fN (get ((r,.obj cs')::G2)) (get ((r,.obj cs')::G2)):=by
  refine ⟨λt x h=>h,λt x h=>?_,λt z q n m new h=>?_⟩
  all_goals
   simp only [get] at h
   split at h
  ·cases h; exact .bP (.obj LG.bP)
  ·exact (zw.spec t x h).2.1
  ·cases h
  ·exact (zw.spec t _ h).2.2 _ _ _ _ _ rfl
 refine wP.ok (first:=[]) (caps:=[]) (ys:=ys) (tk:=λ_=>true) (vw:=false) (outs:=x4 args.length k0 (.obj cs')) (g1:=dh g ⟨r,[]⟩ .dead) (g2:=get ((r,.dead)::G2)) (g4:=get ((r,.obj cs')::G2)) (l:=[(⟨r,[]⟩,.obj cs')]) (ks:=λ_=>k0) (xs0:=ys) (xs1:=args) (args:=args) (res:=res) bj aZ rfl (by simpa using J)
  ⟨bp,by simp,by simpa using vp,λk x h=>.inl (by simpa using h),bk.take aO hc.bP (Nat.zero_le _) (by omega),vO,λk x y _ aA=>by simpa using aA,jj,by simpa using ax.bP,λk x h=>by rw [S6 k x h]; simpa using dn.obj LG.bP,λaf p x aa=>?_,by simp,λi af hi aa _=>by simp at hi aa; omega,by rw [put]; exact vP⟩ ?_ b1 ?_
 ·cases af with
  | succ af=>simp at aa
  | zero =>
   simp only [List.getElem?_cons_zero,Option.some.injEq,Prod.mk.injEq] at aa;obtain ⟨rfl,rfl⟩:=aa;refine ⟨pB,by simp [cd,Fc,aj.at],.inr ⟨cs,?_,by simp [cd,aO,aj.at]⟩⟩;have:=bk.OG (Nat.zero_le _) (by omega);simpa using this
 ·simp only [get,if_neg (Ne.symm zY)]; exact bb
 ·refine ⟨λt x h=>?_,λt x h=>?_⟩
  ·rw [tL] at h;rw [CJ];cases qI:get A t with
   | none=>exact h
   | some y =>
    obtain ⟨h1,al,_⟩:=ej.spec t y qI;simp only [get,if_neg al] at h;simp only [get] at h1;rw [h1] at h; cases h
  ·rw [tL];rw [CJ] at h;cases qI:get A t with
   | none=>rw [qI] at h; exact .inl h
   | some y =>
    rw [qI] at h;cases h;obtain ⟨h1,al,aS,k,rfl,hk⟩:=ej.spec t x qI;refine .inr ⟨?_,al,aS,r,k,cs',rfl,zY,?_,hk⟩
    ·simp only [get,if_neg al]; exact h1
    ·simp only [get,if_neg zY,if_true]
end
end Go.Own
namespace Go.Own
open Go
variable {α β:Type}
def Cv (k:IntKind):cF Int:=.one (λn=>.lit (.int k n)) λ_=>.lit
instance {k:IntKind}:Flat (Cv k):=⟨λ_=>rfl⟩
instance {k:IntKind}:hr (Cv k) (Cv k):=⟨rfl,λa=>(inferInstance:dY [.lit (.int k a)] [.lit (.int k a)])⟩
instance {k:IntKind}:lV (Cv k):=⟨λa=>(inferInstance:jZ [.lit (.int k a)])⟩
instance {cs:List aj}{n:Nat}{x:aj} [h:eZ cs] [J:cV x]:eZ (cs.set n x):=⟨λy aA=>by
 rcases List.mem_or_eq_of_mem_set aA with aU | aU
 ·exact h.bP y aU
 ·rw [aU]; exact J.bP⟩
instance {x y:aj} [h:cV y]:cV (x.setAt [] y):=⟨by simpa [aj.setAt] using h.bP⟩
def s8 (m n:Int):Option Int:=if n=0 then none else some (IntKind.u64.wrap (m.tdiv n))
def s_ (m n:Int):Option Int:=if n=0 then none else some (m.tmod n)
inductive jO:List aj->List aj->Prop
 | nil:jO [] []
 | f {x:aj}{xs ys:List aj}(t:jO xs ys):jO (x::xs) (x::ys)
 | o {z:Nat}{xs ys:List aj}(t:jO xs ys):jO (.aF::xs) (.own z 0 []::ys)
 | i {z:Nat}{xs ys:List aj}(t:jO xs ys):jO (.aF::xs) (.aD z 0 []::ys)
theorem jO.len {xs ys:List aj}(h:jO xs ys):ys.length=xs.length:=by
 induction h with
 | nil=>rfl
 | f _ aR=>simp [aR]
 | o _ aR=>simp [aR]
 | i _ aR=>simp [aR]
theorem jO.get {xs ys:List aj}(h:jO xs ys):∀ (k:Nat) (x y:aj),xs[k]?=some x->ys[k]?=some y->oy x y:=by
 induction h with
 | nil=>intro k x y J; simp at J
 | f _ aR =>
  intro k a b bk aJ;cases k with
  | zero=>simp at bk aJ; subst bk aJ; exact .refl
  | succ k=>exact aR k a b (by simpa using bk) (by simpa using aJ)
 | o _ aR =>
  intro k a b bk aJ;cases k with
  | zero=>simp at bk aJ; subst bk aJ; exact .n'
  | succ k=>exact aR k a b (by simpa using bk) (by simpa using aJ)
 | i _ aR =>
  intro k a b bk aJ;cases k with
  | zero=>simp at bk aJ; subst bk aJ; exact .xY
  | succ k=>exact aR k a b (by simpa using bk) (by simpa using aJ)
theorem jO.obj {xs ys:List aj}(h:jO xs ys):oy (.obj xs) (.obj ys):=.obj h.len h.get
section
variable {P:Program}{N:dW}{ops:Array Oper}{g g' g1 g2:a7}{K:a7->Prop}{l:List Oper}{d r:Nat}{op:Op}{ty t t2:TypeId}{pos:String}{after:Array Edge}{iA:Option (Nat × Bool)}{a b c:Operand}{p q:Place}{x y:aj}{k:IntKind}{m n:Int}
variable {cg:List (List Nat)}{g0:a7}{acc:Acc}{i:Nat}
def xW:List Nat->Bool
 | []=>true
 | x::l=>l.all (λy=>!Nat.beq x y)&&xW l
theorem HE:∀ {l:List Place},xW (l.map Place.root)=true->l.Nodup
 | [],_=>List.nodup_nil
 | p::l,h=>by
  simp only [List.map_cons,xW,Bool.and_eq_true,List.all_eq_true] at h;refine List.nodup_cons.2 ⟨λhm=>?_,HE h.2⟩;have:=h.1 p.root (List.mem_map.2 ⟨p,hm,rfl⟩);simp at this
theorem bC.iX (dr:Nat) {G G2:List (Nat × aj)}{o:Oper}(he:cc P N (eu (get G) (λ_=>true) acc) o (get G2)) (bb:o.guard=none) (hJ:xW ((acc.filterMap mb).map Place.root)=true) (i_:rW G=true) (aa:Nat.beq ops.size (dr+l.length+1)=true)
  (bk:(List.range dr).all (λk=>(cg.getD dr []).contains k)=true) (aJ:(List.range ops.size).all (λk=>Nat.ble k dr||(cg.getD k []).contains dr)=true) (hk:bC P N ops cg (get G2) (dr+1) [] l K):bC P N ops cg (get G) i acc (o::l) K:=by
 intro eA af di n3 mw;have:=y6 mw aa;subst this;obtain ⟨h1,al⟩:=drop_cons mw;obtain ⟨g',ax,eJ⟩:=hk [] (af+1) .nil .nil al;refine ⟨g',.Jy di n3 (HE hJ) (xZ i_) h1 ?_ he bk ?_ ax,eJ⟩
 ·unfold iU; rw [bb]
 ·refine List.all_eq_true.2 λk hk=>?_;have:=List.all_eq_true.1 aJ k hk;simp only [Bool.or_eq_true,decide_eq_true_eq,Nat.ble_eq] at this ⊢;exact this
theorem bC.bv (dr:Nat) {G G2:List (Nat × aj)}{o:Oper}{x:aj}(he:cc P N (eu (get G) (λ_=>true) acc) o (fc (get G2) d x)) (bb:o.guard=none) (hJ:xW ((acc.filterMap mb).map Place.root)=true) (i_:rW G=true) (aa:Nat.beq ops.size (dr+l.length+1)=true)
  (bk:(List.range dr).all (λk=>(cg.getD dr []).contains k)=true) (aJ:(List.range ops.size).all (λk=>Nat.ble k dr||(cg.getD k []).contains dr)=true) (hk:bC P N ops cg (get ((d,x)::G2)) (dr+1) [] l K):bC P N ops cg (get G) i acc (o::l) K :=
 .iX dr (tL ▸ he) bb hJ i_ aa bk aJ hk
class u0 (s:Nat) (g:a7):Prop where fZ:∀ t,t≠s->∀ z q n m new,g t≠some (.bY z q n m new)
instance (priority:=low) {s:Nat}{g:a7} [h:qv g]:u0 s g:=⟨λt _=>h.fZ t⟩
instance {s:Nat}{g:a7}{x:aj} [h:u0 s g]:u0 s (fc g s x):=⟨λt aG z q n m new e=>by
 unfold fc at e;rw [if_neg aG] at e;exact h.fZ t aG _ _ _ _ _ e⟩
instance {s d:Nat}{g:a7}{x:aj} [h:u0 s g] [J:ou x]:u0 s (fc g d x):=⟨λt aG z q n m new e=>by
 unfold fc at e
 split at e
 ·cases e; exact J.fZ _ _ _ _ _ rfl
 ·exact h.fZ t aG _ _ _ _ _ e⟩
class wY (s:Nat) (acc:Acc):Prop where fZ:∀ e∈acc,e.2.1≠s->∀ z q n m new,e.2.2≠some (.bY z q n m new)
instance {s:Nat}:wY s []:=⟨by simp⟩
instance {s af d:Nat}{x:aj}{acc:Acc} [J:ou x] [h:wY s acc]:wY s ((af,d,some x)::acc):=⟨λe he aO z q n m new ca=>by
 rcases List.mem_cons.1 he with rfl | he
 ·exact J.fZ z q n m new (Option.some.inj ca)
 ·exact h.fZ e he aO z q n m new ca⟩
instance {s af:Nat}{x:Option aj}{acc:Acc} [h:wY s acc]:wY s ((af,s,x)::acc):=⟨λe he aO z q n m new ca=>by
 rcases List.mem_cons.1 he with rfl | he
 ·exact absurd rfl aO
 ·exact h.fZ e he aO z q n m new ca⟩
instance {s:Nat}{G:List (Nat × aj)}{A:Nat->Bool}{acc:Acc} [bb:qv (get G)] [h:wY s acc]:u0 s (eu (get G) A acc):=⟨λt aG z q n m new e=>by
 rcases tf e with ⟨cY,he,h1,_,al⟩ | ⟨_,al⟩
 ·exact h.fZ cY he (by rw [h1]; exact aG) _ _ _ _ _ al
 ·exact bb.fZ _ _ _ _ _ _ al⟩
namespace O
theorem s8 {r:Int}(J:Rd g a (.lit (.int .u64 m))) (aA:Rd g b (.lit (.int .u64 n))) (h:Own.s8 m n=some r):dI P g (.binOp .quo t a b t2) ty (.lit (.int .u64 r)):=by
 unfold Own.s8 at h
 split at h
 ·cases h
 ·cases h; exact .fl (.quo J aA (by assumption))
theorem s_ {r:Int}(J:Rd g a (.lit (.int .u64 m))) (aA:Rd g b (.lit (.int .u64 n))) (h:Own.s_ m n=some r):dI P g (.binOp .rem t a b t2) ty (.lit (.int .u64 r)):=by
 unfold Own.s_ at h
 split at h
 ·cases h
 ·cases h; exact .fl (.rem J aA (by assumption))
theorem Fb {L:List Int}(J:Rd g a (.aD nY.z L.length (cj nY L))) (aG:u6 P t t2=true):dI P g (.convert t t2 a) ty (ab (strOfNums L)):=by
 have h:=J.bT;rw [MW] at h;exact .fl (.Cs h aG)
theorem pg {e hZ:Nat}{parts:Array (Nat × Operand)}{ys cs:List aj}{z:Nat}(aG:fu P t e z=true) (J:iN g (parts.toList.map (·.2))=some ys) (ae:pf ys=some cs) (bH:ys.all (λy=>match lY y with | some c=>Nat.beq c.length z | none=>false)=true)
  (aH:parts.toList=(parts.toList.map (·.2)).mapIdx (λi x=>(i,x))) (aP:(parts.toList.map (·.2)).length=hZ) (hzero:jY P e z=true) (aJ:Nat.ble (hZ * z) 16777216=true) (cZ:Nat.ble hZ 16777216=true):dI P g (.buildSlice t hZ parts) ty (.own z hZ cs):=by
 subst aP;exact .q4 (.buildSlice aG aH J (λy aA=>by
  have:=List.all_eq_true.1 bH y aA;cases fz:lY y with
  | none=>rw [fz] at this; cases this
  | some c=>rw [fz] at this; exact ⟨c,rfl,Nat.eq_of_beq_eq_true this⟩) ae (Nat.le_of_ble_eq_true aJ) (Nat.le_of_ble_eq_true cZ) (.inr (IP hzero)))
theorem Nk {z m:Nat}{cs:List aj}(bW:cd g q=some (.own z m cs)) (aq:cs.length=m * z) (bp:cs.all lH=true):Src g (.bh z q m) z m cs:=by
 have:=Src.bh (g:=g) (m:=m) bW (Nat.le_refl _);rw [List.take_of_length_le (by omega),zq (q:=λi=>_) bp] at this;exact this
theorem w6 {en:cF α}{L M r:List α}{e jP m:Nat}{cs:List aj}(aO:Rd g a (.bh en.z p L.length)) (aH:cd g p=some (ak en L)) (J:Rd g b (.bh en.z q m)) (bW:cd g q=some (.own en.z m cs)) (aq:cs.length=m * en.z) (bp:cs.all lH=true) (hm:M.length=m) (aG:iV P t e en.z jP=true) (aJ:Nat.ble jP 128=true) (h:ed L M=some r) [hc:qv g] :
  dI P g (.call { callee:=.builtin .append,args:=#[a,b],argTypes:=#[t,t] }) ty (.bY en.z p L.length m cs):=by
 subst hm;obtain ⟨h1,al,_⟩:=w7 h aJ;exact .lB (.grow aO.bT (.inl ⟨_,aH⟩) (λt cN c5 cb ds e=>hc.fZ _ _ _ _ _ _ e) J.bT (Nk bW aq bp) aG h1 al)
theorem Ji {en:cF α}{L M M2 r:List α}{y:aj}{e jP s:Nat}(aO:Rd g a (.bh en.z ⟨s,[]⟩ (L.length+M.length))) (sR:g s=some (.bY en.z q L.length M.length (cj en M))) (aH:cd g q=some (ak en L)) (J:Rd g b y) (hm:qz g en y M2) (aG:iV P t e en.z jP=true) (aJ:Nat.ble jP 128=true) (h:ed (L++M) M2=some r) [hc:u0 s g] :
  dI P g (.call { callee:=.builtin .append,args:=#[a,b],argTypes:=#[t,t] }) ty (.bY en.z ⟨s,[]⟩ (L.length+M.length) M2.length (cj en M2)):=by
 obtain ⟨h1,al,_⟩:=w7 h aJ;rw [List.length_append] at h1 al;refine .lB (.grow aO.bT (.inr ⟨rfl,q,L.length,M.length,cj en M,_,sR,rfl,aH⟩) (λt cN c5 cb ds e=>?_) J.bT hm.src aG h1 al);by_cases LW:t=s
 ·subst LW;rw [sR] at e;simp only [Option.some.injEq,aj.bY.injEq] at e;have bW:=e.2.1;subst bW;simp [cd,sR,aj.at] at aH
 ·exact hc.fZ t LW _ _ _ _ _ e
theorem Ml {en:cF α}{z0:α}{r:List α}{e jP:Nat}{eF:Value}(aG:fu P t e en.z=true) (J:Rd g a (.lit (.int k m))) (aA:Rd g b (.lit (.int .i64 m))) (hzero:(P.info? e).bind (·.zero)=some eF) (h1:eF.cells.toList.all Value.oneCell'=true) (hG:(en.cells z0).length=eF.cells.size) (Sx:∀ (k:Nat) (u:Value) (x:aj),eF.cells[k]?=some u->(en.cells z0)[k]?=some x->x=oa u\/(oa u=.aF/\∃ cN,x=.aD cN 0 [])) (h:oR m z0=some r) (kc:(P.info? e).map (·.bytes)=some jP) (aJ:Nat.ble jP 128=true) :
  dI P g (.makeSlice t a b) ty (ak en r):=by
 unfold oR at h
 split at h
 ·rename_i hm;have SU:lim=1099511627776:=rfl;have kH:=Nat.le_of_ble_eq_true aJ;obtain ⟨af,rfl⟩:=Int.eq_ofNat_of_zero_le hm.1;cases h;have aa:af<=1099511627776:=by omega
  have gy:eF.cells.size=en.z:=by rw [<- hG,en.len]
  have:=o8.makeSlice (P:=P) (ty:=ty) aG J.bT aA.bT hzero (by rw [<- Array.all_toList]; exact h1) gy kc (by
   calc af * jP<=1099511627776 * 128:=Nat.mul_le_mul aa kH
    _=140737488355328:=by decide) (by omega) hG Sx
  have dz:(List.replicate af (en.cells z0)).flatten=cj en (List.replicate af z0):=by simp [cj,List.flatMap_def]
  unfold ak;rw [Int.toNat_natCast,List.length_replicate,<- dz];exact .q4 this
 ·cases h
theorem mk {en:cF α}{z0:α}{r:List α}{e jP:Nat}{eF:Value}(aG:fu P t e en.z=true) (J:Rd g a (.lit (.int k m))) (aA:Rd g b (.lit (.int .i64 m))) (hzero:(P.info? e).bind (·.zero)=some eF) (h1:eF.cells.toList.all Value.oneCell'=true) (ae:eF.cells.toList.map oa=en.cells z0) (h:oR m z0=some r) (kc:(P.info? e).map (·.bytes)=some jP) (aJ:Nat.ble jP 128=true) :
  dI P g (.makeSlice t a b) ty (ak en r):=by
 refine Ml aG J aA hzero h1 (by rw [<- ae,List.length_map]; simp) (λk u x hu J=>.inl ?_) h kc aJ;rw [<- ae,List.getElem?_map] at J;have:eF.cells.toList[k]?=some u:=by simpa using hu
 rw [this] at J;exact (Option.some.inj J).symm
theorem Uv {e:cF β}{r:List (List β)}{m:Int}{k:IntKind}{a b:Operand}{t ty:TypeId}{za jP:Nat}{eF:Value}(aG:fu P t za (bs e).z=true) (J:Rd g a (.lit (.int k m))) (aA:Rd g b (.lit (.int .i64 m))) (hzero:(P.info? za).bind (·.zero)=some eF) (h1:eF.cells.toList.all Value.oneCell'=true) (ae:eF.cells.toList.map oa=[.aF]) (h:oR m ([]:List β)=some r) (kc:(P.info? za).map (·.bytes)=some jP) (aJ:Nat.ble jP 128=true) :
  dI P g (.makeSlice t a b) ty (ak (bs e) r):=by
 refine Ml aG J aA hzero h1 ?_ (λk u x hu J=>.inr ?_) h kc aJ
 ·have:=congrArg List.length ae;rw [List.length_map] at this;rw [(bs e).len];show 1=_;simpa using this.symm
 ·have aq:=congrArg List.length ae;rw [List.length_map] at aq;have hk:k=0:=by
   have:=(Array.getElem?_eq_some_iff.1 hu).1;simp at aq;omega
  subst hk;have fP:eF.cells.toList[0]?=some u:=by simpa using hu
  have al:=congrArg (λl=>l[0]?) ae;simp only [List.getElem?_map,fP,Option.map_some] at al;have al:=Option.some.inj al;refine ⟨al,e.z,?_⟩;have J:([ai e []]:List aj)[0]?=some x:=J;have:x=ai e []:=(Option.some.inj J).symm;rw [this]; rfl
theorem Ut (J:Rd g a (j m)) (aA:Rd g b (j n)):dI P g (.call { callee:=.builtin .min,args:=#[a,b],argTypes:=#[t,t2] }) ty (j (min m n)):=.fl (.lits (vs:=[.int .i64 m,.int .i64 n]) (by simp [J.bT,aA.bT]) rfl λw cs=>by
 have:(if n<m then n else m)=min m n:=by omega
 simp [builtin,Builtin.min_,Builtin.min2,this])
end O
theorem H' (en:cF α) {L:List α}{y y2:α}{o:Nat}{cs':List aj}(h:idx L m=some y) (he:fM (en.cells y) o cs'=en.cells y2) (hlen:o+cs'.length<=en.z):fM (cj en L) (m.toNat * en.z+o) cs'=cj en (L.set m.toNat y2):=by
 obtain ⟨bf,h1,al⟩:=pF h;have bg:m.toNat<L.length:=(List.getElem?_eq_some_iff.1 al).1;have aA:L[m.toNat]=y:=(List.getElem?_eq_some_iff.1 al).2;have dz:cj en L=cj en (L.take m.toNat)++(en.cells y++cj en (L.drop (m.toNat+1))):=by
  have:=congrArg (cj en) (List.take_append_drop m.toNat L).symm;rw [wo,List.drop_eq_getElem_cons bg,aA] at this;rw [this]; simp [cj]
 have de:cj en (L.set m.toNat y2)=cj en (L.take m.toNat)++(en.cells y2++cj en (L.drop (m.toNat+1))):=by
  have:L.set m.toNat y2=L.take m.toNat++y2::L.drop (m.toNat+1):=by
   rw [List.set_eq_take_append_cons_drop,if_pos bg]
  rw [this,wo]; simp [cj]
 have aq:(cj en (L.take m.toNat)).length=m.toNat * en.z:=by rw [nI,List.length_take]; congr 1; omega
 rw [dz,de,<- he];unfold fM;generalize cj en (L.take m.toNat)=A at *;generalize cj en (L.drop (m.toNat+1))=B at *;rw [<- aq];have Df:=en.len y;rw [List.take_append,List.take_of_length_le (by omega),show A.length+o - A.length=o by omega,List.take_append_of_le_length (by omega)];rw [List.drop_append,List.drop_eq_nil_of_le (by omega),show A.length+o+cs'.length - A.length=o+cs'.length by omega,List.drop_append_of_le_length (by omega)];simp
theorem Fj {en:cF α}{L:List α}{i:Int}{off:Nat}{y:α}(h:idx L i=some y) (bj:Nat.blt off en.z=true):i.toNat * en.z+off<(cj en L).length:=by
 obtain ⟨uE,jW,_⟩:=pF h;have mA:off<en.z:=by simpa using bj
 rw [nI];have al:i.toNat+1<=L.length:=by omega
 calc i.toNat * en.z+off<i.toNat * en.z+en.z:=by omega
  _=(i.toNat+1) * en.z:=by rw [Nat.add_mul]; omega
  _<=L.length * en.z:=Nat.mul_le_mul_right _ al
theorem nD {L:List α}{i:Int}{y y2:α}(h:idx L i=some y):idx (L.set i.toNat y2) i=some y2:=by
 obtain ⟨uE,jW,_⟩:=pF h;have:i.toNat<L.length:=by omega
 simp [idx,uE,this]
inductive oo (g g2:a7):aj->Prop
 | mk {α:Type}{en:cF α}{L I2:List α}{r af off:Nat}{i:Int}{y y2:α}(h1:cd g ⟨r,[af]⟩=some (ak en L)) (hi:idx L i=some y) (al:cd g2 ⟨r,[af]⟩=some (ak en I2)) (zJ:idx I2 i=some y2) (bj:Nat.blt off en.z=true):oo g g2 (.ptr ⟨r,[af]⟩ (i.toNat * en.z+off))
theorem oo.Mv {x:aj}(h:oo g g2 x):hq g x:=by
 cases h with
 | mk h1 hi al zJ bj=>exact ⟨_,h1,_,_,_,.inl rfl,Fj hi bj⟩
theorem oo.HK {x:aj}(h:oo g g2 x):hq g2 x:=by
 cases h with
 | mk h1 hi al zJ bj=>exact ⟨_,al,_,_,_,.inl rfl,Fj zJ bj⟩
theorem oo.bo {x:aj}(h:oo g g2 x):e' g2 x:=by
 have:=h.HK;cases h with
 | mk=>exact .ref rfl this
theorem oo.fZ {x:aj}(h:oo g g2 x):∀ z p n m new,x≠.bY z p n m new:=by
 cases h with
 | mk=>simp
theorem oo.clear {x:aj}{k0 m0:Nat}(h:oo g g2 x) (aH:p.path≠[]):Clear p k0 m0 x:=by
 cases h with
 | mk =>
  intro q bW _ af fg e;simp only [yo,Option.some.injEq] at bW;subst bW;cases C8:p.path with
  | nil=>exact absurd C8 aH
  | cons a b=>rw [C8] at e; simp at e
inductive lj (g g2:a7) (r:Nat) (x2:aj):List (Nat × aj)->Prop
 | nil:lj g g2 r x2 []
 | n {s:Nat}{x:aj}{l:List (Nat × aj)}(eL:Nat.beq s r=false) (h:g s=some x) [aP:cV x] (t:lj g g2 r x2 l):lj g g2 r x2 ((s,x)::l)
 | p {s q k:Nat}{l:List (Nat × aj)}{cs nW:List aj}(eL:Nat.beq s r=false) (h:g s=some (.ptr ⟨q,[]⟩ k)) (h1:g q=some (.obj cs)) (hk:Nat.blt k cs.length=true) (al:g2 q=some (.obj nW)) (hb:Nat.blt k nW.length=true) (t:lj g g2 r x2 l):lj g g2 r x2 ((s,.ptr ⟨q,[]⟩ k)::l)
 | e {s:Nat}{x:aj}{c2:List aj}{l:List (Nat × aj)}(eL:Nat.beq s r=false) (h:g s=some x) (he:oo g g2 x) (gG:x2=.obj c2) (t:lj g g2 r x2 l):lj g g2 r x2 ((s,x)::l)
 | w {α:Type}{s q:Nat}{en:cF α}{L:List α}{l:List (Nat × aj)}(eL:Nat.beq s r=false) (h:g s=some (.bh en.z ⟨q,[]⟩ L.length)) (h1:g q=some (ak en L)) (al:g2 q=some (ak en L)) (t:lj g g2 r x2 l):lj g g2 r x2 ((s,.bh en.z ⟨q,[]⟩ L.length)::l)
 | b {l:List (Nat × aj)}{x:aj}(e:x=x2) [aP:cV x2] (t:lj g g2 r x2 l):lj g g2 r x2 ((r,x)::l)
theorem lj.spec {x2:aj}{l:List (Nat × aj)}(h:lj g g2 r x2 l):∀ t x,get l t=some x->(t≠r/\g t=some x/\(o' g g2 x\/oo g g2 x/\∃ c2,x2=.obj c2))\/(t=r/\x=x2/\dn x):=by
 induction h with
 | nil=>intro t x J; cases J
 | @n s x l eL h aP _ aR =>
  intro t y aA; simp only [get] at aA
  split at aA
  ·rename_i e; subst e; cases aA; exact .inl ⟨Nat.ne_of_beq_eq_false eL,h,.inl (.n aP.bP)⟩
  ·exact aR t y aA
 | @p s q k l cs nW eL h h1 hk al hb _ aR =>
  intro t y aA; simp only [get] at aA
  split at aA
  ·rename_i e; subst e; cases aA; exact .inl ⟨Nat.ne_of_beq_eq_false eL,h,.inl (.p h1 (by simpa using hk) al (by simpa using hb))⟩
  ·exact aR t y aA
 | @e s x c2 l eL h he gG _ aR =>
  intro t y aA; simp only [get] at aA
  split at aA
  ·rename_i e; subst e; cases aA; exact .inl ⟨Nat.ne_of_beq_eq_false eL,h,.inr ⟨he,_,gG⟩⟩
  ·exact aR t y aA
 | @w α s q en L l eL h h1 al _ aR =>
  intro t y aA; simp only [get] at aA
  split at aA
  ·rename_i e; subst e; cases aA; exact .inl ⟨Nat.ne_of_beq_eq_false eL,h,.inl (.r h1 (Nat.le_refl _) al (Nat.le_refl _))⟩
  ·exact aR t y aA
 | @b l x e aP _ aR =>
  intro t y aA; simp only [get] at aA
  split at aA
  ·rename_i cY; subst cY; cases aA; subst e; exact .inr ⟨rfl,rfl,aP.bP⟩
  ·exact aR t y aA
theorem o'.H8 {x:aj}{k0 m0:Nat}(h:o' g g2 x):kk (λr=>hq g r/\Clear p k0 m0 r/\hq g2 r) x:=by
 cases h with
 | n h=>exact .bP h
 | p h hk al hb =>
  refine .ref rfl ⟨uH h hk,?_,uH al hb⟩;intro q bW _ af fg e;simp only [yo,Option.some.injEq] at bW;subst bW;simp at e
 | r h hk al hb =>
  refine .ref rfl ⟨Bl h hk,?_,Bl al hb⟩;intro q bW _ af fg e;simp only [yo,Option.some.injEq] at bW;subst bW;simp at e
theorem cc.og {hM:Oper}{en:cF α}{L:List α}{jX y2:α}{o:Nat}{cs':List aj}{x2:aj}{G2:List (Nat × aj)}(bj:hM.op=.store t a b) (aZ:hM.dst=none) (bk:Rd g a (.ptr p (m.toNat * en.z+o))) (aJ:Rd g b y) (aH:cd g p=some (ak en L)) (h:idx L m=some jX) (bH:gz P t cs'.length=true)
  (ae:rz y=some cs') (he:fM (en.cells jX) o cs'=en.cells y2) (hlen:Nat.ble (o+cs'.length) en.z=true) (bf:Nat.blt 0 cs'.length=true) (gG:dh g p (ak en (L.set m.toNat y2)) p.root=some x2) (ax:(get G2 p.root).isSome=true) [aP:cV y] {y0:aj}(vF:g p.root=some y0) [hc:cV y0] (eD:lj g (get G2) p.root x2 G2):cc P N g hM (get G2):=by
 have zN:=Nat.le_of_ble_eq_true hlen;have k7:=H' en h he zN;have Gr:(L.set m.toNat y2).length=L.length:=List.length_set;refine .store bj aZ bk.bT aJ.bT (.bP (by simpa using aP.bP)) .refl ae bH (p:=p) (nd:=ak en L) (z:=en.z) (n:=L.length) (cs:=cj en L) aH (.inl rfl) ?_ (by simpa using bf) (λt x J=>?_) (λt x J y aA=>?_) (λt z q n m new J=>?_) (by intro e; rw [e] at ax; cases ax)
 ·obtain ⟨uE,jW,_⟩:=pF h;rw [nI];have al:m.toNat+1<=L.length:=by omega
  calc m.toNat * en.z+o+cs'.length<=m.toNat * en.z+en.z:=by omega
   _=(m.toNat+1) * en.z:=by rw [Nat.add_mul]; omega
   _<=L.length * en.z:=Nat.mul_le_mul_right _ al
 ·have gv:(ak en L).fM (m.toNat * en.z+o) cs'=ak en (L.set m.toNat y2):=by
   show aj.own en.z L.length (fM (cj en L) (m.toNat * en.z+o) cs')=_;unfold ak;rw [k7,Gr]
  rw [gv];rcases eD.spec t x J with ⟨h1,al,_⟩ | ⟨h1,al,_⟩
  ·rw [ta h1]; exact al
  ·subst h1 al; exact gG
 ·rcases eD.spec t x J with ⟨h1,al,aS⟩ | ⟨h1,al,aS⟩
  ·rw [al] at aA; cases aA;rcases aS with aS | ⟨aS,c2,rfl⟩
   ·exact aS.H8
   ·refine kk.ref (by cases aS; rfl) ⟨aS.Mv,aS.clear ?_,aS.HK⟩;intro e;obtain ⟨hC,pp⟩:=p;simp only at e;subst e;simp only [dh,if_true,vF,Option.map_some,aj.setAt,Option.some.injEq] at gG;cases gG
  ·subst h1; rw [vF] at aA; cases aA; exact .bP hc.bP
 ·rcases eD.spec t _ J with ⟨_,_,aS | ⟨aS,_⟩⟩ | ⟨_,_,aS⟩
  ·exact aS.fZ _ _ _ _ _ rfl
  ·exact aS.fZ _ _ _ _ _ rfl
  ·cases aS
end
end Go.Own
namespace Go.Own
open Go
theorem OQ (a b:ByteArray):(a == b)=decide (a=b):=by
 obtain ⟨a⟩:=a;obtain ⟨b⟩:=b;have:(({ data:=a }:ByteArray) == { data:=b })=(a == b):=rfl;rw [this,Bool.eq_iff_iff];simp
inductive pZ where
 | b | s | i (k:IntKind)
 deriving DecidableEq
def mO:Value->Option pZ
 | .bool _=>some .b
 | .string _=>some .s
 | .int k _=>some (.i k)
 | _=>none
def y_ (P:Program) (rc:TypeId->List pZ->Bool):List Field->Nat->List pZ->Bool
 | [],_,fD=>fD.isEmpty
 | f :: fs, o, fD => f.name != "_" && f.offset == o && (match P.info? f.type with
   | some i=>i.size<=fD.length&&rc f.type (fD.take i.size)&&y_ P rc fs (o+i.size) (fD.drop i.size)
   | none=>false)
def sw (P:Program):Nat->TypeId->List pZ->Bool
 | 0,_,_=>false
 | d+1,t,fD=>match P.underlying t with
  | some .bool=>fD == [.b]&&hE P t
  | some (.int k)=>fD == [.i k]&&hE P t
  | some .string=>fD == [.s]&&hE P t
  | some (.struct fs)=>iI P t fD.length&&!P.stoodInHeld t&&y_ P (sw P d) fs.toList 0 fD
  | _=>false
def Kk:Value->Value->Bool
 | .bool a,.bool b=>a == b
 | .int _ a,.int _ b=>decide (a=b)
 | .string a,.string b=>decide (a=b)
 | _,_=>false
def l1:List Value->List Value->Bool
 | a::dK,b::dF=>Kk a b&&l1 dK dF
 | _,_=>true
theorem Kl:∀ (dK dF cs jQ:List Value),dK.length=dF.length->l1 (dK++cs) (dF++jQ)=(l1 dK dF&&l1 cs jQ)
 | [],[],cs,jQ,_=>by simp [l1]
 | [],_::_,_,_,h=>by simp at h
 | _::_,[],_,_,h=>by simp at h
 | a::dK,b::dF,cs,jQ,h=>by
  simp only [List.cons_append,l1,Kl dK dF cs jQ (by simpa using h),Bool.and_assoc]
def pack (P:Program) (t:TypeId) (vs:List Value):Value :=
 match P.underlying t,vs with
 | some (.struct _),_=>.agg vs.toArray
 | _,v::_=>v
 | _,[]=>.agg #[]
theorem M4 {P:Program}{w:World}{t:TypeId}{d:Nat}{fD:List pZ}(h:sw P (d+1) t fD=true) {cs:List Value}{o:Nat}{vs:List Value}(hv:(cs.drop o).take fD.length=vs) (aq:vs.length=fD.length) :
  (part t cs.toArray o).run P w=.ok (pack P t vs) w:=by
 unfold sw at h
 split at h
 case h_4 fs hu =>
  simp only [Bool.and_eq_true] at h;obtain ⟨h1,al⟩:=B4 (w:=w) h.1.1;simp [part,h1,al,pack,hu,<- hv,List.take_drop]
 case h_5=>cases h
 all_goals
  rename_i hu;simp only [Bool.and_eq_true,beq_iff_eq] at h;obtain ⟨rfl,ae⟩:=h;obtain ⟨h1,al⟩:=EZ (w:=w) ae;obtain ⟨v,rfl⟩:∃ v,vs=[v]:=by
   rcases vs with _ | ⟨v,_ | _⟩ <;> simp at aq;exact ⟨v,rfl⟩
  have:cs[o]?=some v:=by
   have:=congrArg List.head? hv;simpa [List.head?_take] using this
  simp [part,h1,pack,hu,this]
theorem Ib {P:Program}(w:World):∀ (d:Nat) (t:TypeId) (fD:List pZ),sw P d t fD=true->∀ (D:Nat),d<=D->∀ (dK dF:List Value),dK.map mO=fD.map some->dF.map mO=fD.map some ->
  (Op.equalIn D t (pack P t dK) (pack P t dF)).run P w=.ok (l1 dK dF) w
 | 0,_,_,h,_,_,_,_,_,_=>by simp [sw] at h
 | d+1,t,fD,h,D,sD,dK,dF,bk,aJ=>by
  obtain ⟨D,rfl⟩:∃ E,D=E+1:=⟨D - 1,by omega⟩;have bf:=h;unfold sw at h
  split at h
  case h_5=>cases h
  case h_4 fs hu =>
   simp only [Bool.and_eq_true,Bool.not_eq_true'] at h;obtain ⟨⟨h1,al⟩,aS⟩:=h;have key:∀ (fs:List Field) (o:Nat) (fD:List pZ) (mU mV:List Value),y_ P (sw P d) fs o fD=true->dK.drop o=mU->dF.drop o=mV->mU.map mO=fD.map some->mV.map mO=fD.map some ->
     (forIn (m:=Sem) (β:=Option Bool × Unit) fs (none,()) λf _ =>
      if f.name = "_" then pure (.yield (none, ()))
      else do
       let x <- part f.type dK.toArray f.offset
       let y <- part f.type dF.toArray f.offset
       let c <- Op.equalIn D f.type x y
       if c=false then pure (.done (some false,())) else pure (.yield (none,()))).run P w=.ok (if l1 mU mV then (none,()) else (some false,())) w:=by
    intro fs
    induction fs with
    | nil =>
     intro o fD mU mV bb _ _ bk aJ;have aO:fD=[]:=by simpa [y_] using bb
     subst aO;have h1:mU=[]:=by simpa using bk
     have al:mV=[]:=by simpa using aJ
     subst h1 al;simp [l1]
    | cons f fs aR =>
     intro o fD mU mV bb CY Lg bk aJ;unfold y_ at bb;cases hi:P.info? f.type with
     | none=>simp [hi] at bb
     | some i =>
      simp only [hi,Bool.and_eq_true,bne_iff_ne,beq_iff_eq,decide_eq_true_eq] at bb;obtain ⟨⟨aP,rfl⟩,⟨hle,he⟩,C0⟩:=bb;obtain ⟨e,rfl⟩:∃ e,d=e+1:=by
       cases d with
       | zero=>simp [sw] at he
       | succ e=>exact ⟨e,rfl⟩
      have vS:mU.length=fD.length:=by simpa using congrArg List.length bk
      have Xr:mV.length=fD.length:=by simpa using congrArg List.length aJ
      have VH:(mU.take i.size).map mO=(fD.take i.size).map some:=by rw [List.map_take,List.map_take,bk]
      have VI:(mV.take i.size).map mO=(fD.take i.size).map some:=by rw [List.map_take,List.map_take,aJ]
      have Qn:(mU.drop i.size).map mO=(fD.drop i.size).map some:=by rw [List.map_drop,List.map_drop,bk]
      have Qo:(mV.drop i.size).map mO=(fD.drop i.size).map some:=by rw [List.map_drop,List.map_drop,aJ]
      have lt:(fD.take i.size).length=i.size:=by simp; omega
      have lB:=M4 (w:=w) he (cs:=dK) (o:=f.offset) (vs:=mU.take i.size) (by rw [CY,lt]) (by simp; omega);have MD:=M4 (w:=w) he (cs:=dF) (o:=f.offset) (vs:=mV.take i.size) (by rw [Lg,lt]) (by simp; omega);have Fi:=Ib w (e+1) f.type _ he D (by omega) _ _ VH VI;have aR:=aR (f.offset+i.size) (fD.drop i.size) (mU.drop i.size) (mV.drop i.size) C0 (by rw [<- CY,List.drop_drop]) (by rw [<- Lg,List.drop_drop]) Qn Qo;have sp:l1 mU mV=(l1 (mU.take i.size) (mV.take i.size)&&l1 (mU.drop i.size) (mV.drop i.size)):=by
       have:=Kl (mU.take i.size) (mV.take i.size) (mU.drop i.size) (mV.drop i.size) (by simp; omega)
       rwa [List.take_append_drop,List.take_append_drop] at this
      rw [List.forIn_cons];cases ae:l1 (mU.take i.size) (mV.take i.size) with
      | false=>simp [aP,lB,MD,Fi,ae,sp]
      | true =>
       simp only [ae] at Fi;simp [aP,lB,MD,Fi,ae,sp];simpa using aR
   have hk:=key fs.toList 0 fD dK dF aS rfl rfl bk aJ;unfold Op.equalIn;simp [pack,hu,run_underlying hu,al];rw [<- Array.forIn_toList,hk];cases l1 dK dF <;> simp
  all_goals
   rename_i hu;simp only [Bool.and_eq_true,beq_iff_eq] at h;obtain ⟨rfl,ae⟩:=h;obtain ⟨a,rfl⟩:∃ v,dK=[v]:=by
    rcases dK with _ | ⟨v,_ | _⟩ <;> simp at bk;exact ⟨v,rfl⟩
   obtain ⟨b,rfl⟩:∃ v,dF=[v]:=by
    rcases dF with _ | ⟨v,_ | _⟩ <;> simp at aJ;exact ⟨v,rfl⟩
   cases a <;> simp [mO] at bk <;> cases b <;> simp [mO] at aJ;simp [Op.equalIn,pack,hu,run_underlying hu,l1,Kk,bk,aJ,OQ] <;> rfl
end Go.Own
namespace Go.Own
open Go
def sv (P:Program) (t:TypeId) (fD:List pZ):Bool :=
 sw P 100 t fD&&(match P.underlying t with | some (.struct _)=>true | _=>false)&&!P.eqGuardType P.depth t
section
variable {P:Program}{g:a7}{t t2:TypeId}{ty:TypeId}{a b:Operand}
theorem U' {dK dF:List Value}{fD:List pZ}(bk:dK.map mO=fD.map some) (aJ:dF.map mO=fD.map some) (aG:sv P t fD=true) (w:World) :
  (do eqGuard .eql t a b (.agg dK.toArray) (.agg dF.toArray); binOp .eql t (.agg dK.toArray) (.agg dF.toArray):Sem Value).run P w=.ok (.bool (l1 dK dF)) w:=by
 simp only [sv,Bool.and_eq_true,Bool.not_eq_true'] at aG;obtain ⟨⟨h1,al⟩,aS⟩:=aG;have h:=Ib w 100 t fD h1 Op.maxDepth (by decide) dK dF bk aJ
 split at al
 ·rename_i fs hu;simp only [pack,hu] at h;simp [eqGuard,binOp,aS,Op.equal,h]
 ·cases al
theorem Vb {dK dF:List Value}{fD:List pZ}(bk:dK.map mO=fD.map some) (aJ:dF.map mO=fD.map some) (aG:sv P t fD=true) (w:World) :
  (do eqGuard .neq t a b (.agg dK.toArray) (.agg dF.toArray); binOp .neq t (.agg dK.toArray) (.agg dF.toArray):Sem Value).run P w=.ok (.bool (!l1 dK dF)) w:=by
 simp only [sv,Bool.and_eq_true,Bool.not_eq_true'] at aG;obtain ⟨⟨h1,al⟩,aS⟩:=aG;have h:=Ib w 100 t fD h1 Op.maxDepth (by decide) dK dF bk aJ
 split at al
 ·rename_i fs hu;simp only [pack,hu] at h;simp [eqGuard,binOp,aS,Op.equal,h]
 ·cases al
namespace O
theorem QN {va vb:List Value}{fD:List pZ}(J:Rd g a (.agg (va.map .lit))) (aA:Rd g b (.agg (vb.map .lit))) (bk:va.map mO=fD.map some) (aJ:vb.map mO=fD.map some) (aG:sv P t fD=true) :
  dI P g (.binOp .eql t a b t2) ty (aY (l1 va vb)):=.fl (.yT J.bT aA.bT rfl λw=>U' bk aJ aG w)
theorem HF {va vb:List Value}{fD:List pZ}(J:Rd g a (.agg (va.map .lit))) (aA:Rd g b (.agg (vb.map .lit))) (bk:va.map mO=fD.map some) (aJ:vb.map mO=fD.map some) (aG:sv P t fD=true) :
  dI P g (.binOp .neq t a b t2) ty (aY (!l1 va vb)):=.fl (.yT J.bT aA.bT rfl λw=>Vb bk aJ aG w)
end O
end
end Go.Own
namespace Go.Own
open Go
section
variable {P:Program}{N:dW}{g g2:a7}{d r k0:Nat}{α:Type}
theorem View.oW {p:Place}{cs cs':List aj}(aH:cd g p=some (.obj cs)) (hk:Nat.blt 0 cs.length=true) [h:dY cs cs']:View g (.ptr p 0) (.bn cs') :=
 .ptr aH (z:=0) (n:=0) (.inr rfl) (by simpa using hk) (by simpa using h.l) λk x y J aA=>h.v g k x y (by simpa using J) aA
theorem e'.el {en:cF α}{L:List α}{af off:Nat}{i:Int}{y:α}(al:cd g2 ⟨r,[af]⟩=some (ak en L)) (hi:idx L i=some y) (bj:Nat.blt off en.z=true):e' g2 (.ptr ⟨r,[af]⟩ (i.toNat * en.z+off)) :=
 (oo.mk (g:=g2) al hi al hi bj).bo
theorem j5 {p:Place}{k:Nat}:∀ z q n m new,aj.ptr p k≠.bY z q n m new:=by simp
inductive wJ (g:a7) (d r k0:Nat) (G4:List (Nat × aj)):List (Nat × aj)->Prop
 | nil:wJ g d r k0 G4 []
 | c {α:Type}{en:cF α}{L:List α}{s off:Nat}{i:Int}{y:α}{l:List (Nat × aj)}(h:g s=some (.ptr ⟨r,[k0]⟩ (i.toNat * en.z+off))) (aH:cd (get G4) ⟨r,[k0]⟩=some (ak en L)) (hi:idx L i=some y) (bj:Nat.blt off en.z=true) (aZ:Nat.beq s d=false) (b7:get G4 s=none) (t:wJ g d r k0 G4 l):wJ g d r k0 G4 ((s,.ptr ⟨r,[k0]⟩ (i.toNat * en.z+off))::l)
theorem wJ.spec {G4 l:List (Nat × aj)}(h:wJ g d r k0 G4 l):∀ t x,get l t=some x->get G4 t=none/\t≠d/\g t=some x/\∃ m z n cs,x=.ptr ⟨r,[k0]⟩ m/\cd (get G4) ⟨r,[k0]⟩=some (.own z n cs)/\m<cs.length:=by
 induction h with
 | nil=>intro t x J; cases J
 | @c α en L s off i y l h aH hi bj aZ b7 _ aR =>
  intro t x J; simp only [get] at J
  split at J
  ·rename_i e; subst e; cases J; exact ⟨b7,Nat.ne_of_beq_eq_false aZ,h,_,_,_,_,rfl,aH,Fj hi bj⟩
  ·exact aR t x J
theorem lj.keep {g':a7}{x2:aj}{G2:List (Nat × aj)}(eD:lj g (get G2) r x2 G2) (h1:∀ t,t≠r->g' t=g t) (al:g' r=some x2):fN g' (get G2):=by
 refine ⟨λt x J=>?_,λt x J=>?_,λt z q n m new J=>?_⟩
 ·rcases eD.spec t x J with ⟨a,b,_⟩ | ⟨rfl,rfl,_⟩
  ·rw [h1 t a]; exact b
  ·exact al
 ·rcases eD.spec t x J with ⟨_,_,aS | ⟨aS,_⟩⟩ | ⟨_,_,aS⟩
  ·exact aS.bo
  ·exact aS.bo
  ·exact .bP aS
 ·rcases eD.spec t _ J with ⟨_,_,aS | ⟨aS,_⟩⟩ | ⟨_,_,aS⟩
  ·exact aS.fZ _ _ _ _ _ rfl
  ·exact aS.fZ _ _ _ _ _ rfl
  ·cases aS
theorem Nd {cs:List aj}{y x:aj}(h:g r=some (.obj cs)) (hk:cs[k0]?=some x):dh g ⟨r,[k0]⟩ y r=some (.obj (cs.set k0 y)):=by
 simp [dh,h,aj.setAt,aj.kids,hk,aj.uO]
theorem cc.fI {o:Oper}{y:aj}{cs cs5:List aj}{G1 G4:Value->List (Nat × aj)}{c4:Value->List aj}{G5 A:List (Nat × aj)}(aZ:o.dst=some d) (b1:N.ok d=true) (ax:g r=some (.obj cs)) (aA:cs[k0]?=some y) [vG:cV y]
  (h1:∀ v,lj g (get (G1 v)) r (.obj (cs.set k0 (.lit v))) (G1 v)) (ae:∀ v,h4 P N (get (G1 v)) o d (get (G4 v))) (KT:∀ v,get (G4 v) r=some (.obj (c4 v))) (KS:∀ v,(c4 v)[k0]?=some (.lit v)) (Rf:∀ v,(c4 v).set k0 y=cs5)
  (dv:∀ v,lj (get (G4 v)) (get G5) r (.obj cs5) G5) (Rj:cd (get G5) ⟨r,[k0]⟩=some y) (ej:wJ g d r k0 G5 A):cc P N g o (get (A++G5)):=by
 refine .call aZ b1 (h4.Q0 ax aA vG.bP λv hv=>⟨get (G1 v),get (G4 v),get G5,?_,ae v,?_,?_,Rj,?_⟩)
 ·exact (h1 v).keep (λt aG=>ta aG) (Nd ax aA)
 ·have:=KT v;simp only [cd,this,aj.at,aj.kids,KS v]
 ·refine (dv v).keep (λt aG=>ta aG) ?_;rw [Nd (KT v) (KS v),Rf v]
 ·refine ⟨λt x h=>?_,λt x h=>?_⟩
  ·rw [CJ];cases qI:get A t with
   | none=>exact h
   | some z =>
    obtain ⟨jW,_⟩:=ej.spec t z qI;rw [jW] at h; cases h
  ·rw [CJ] at h;cases qI:get A t with
   | none=>rw [qI] at h; exact .inl h
   | some z =>
    rw [qI] at h;cases h;exact .inr (ej.spec t x qI)
end
end Go.Own
namespace Go.Own
open Go
section
variable {P:Program}{N:dW}{ops:Array Oper}{g g1 mq:a7}{K:a7->Prop}{l:List Oper}{d r:Nat}{t:TypeId}{a b:Operand}{x y:aj}
variable {cg:List (List Nat)}{acc:Acc}{i:Nat}
theorem jG {a b:Nat}(h:Nat.blt a b=true):a<b:=by simpa using h
def Dy:Option Nat->Nat->Bool
 | none,_=>true
 | some a,d=>!Nat.beq a d
theorem Mn {o:Option Nat}{d:Nat}(h:Dy o d=true):o≠some d:=by
 rintro rfl;simp [Dy] at h
inductive w2 (P:Program) (N:dW) (ops:Array Oper) (cg:List (List Nat)) (rs:Place->Prop) (mq g1:a7) (o:Oper) (U:Acc):Acc->Prop
 | nil:w2 P N ops cg rs mq g1 o U []
 | c {k d:Nat}{x:aj}{hM:Oper}{V:Acc}(cp:yO rs mq g1 o x) (h1:g1 d=none) (eL:Dy o.dst d=true) (bj:ops[k]?=some hM) (C6:hM.dst=some d) (b1:N.ok d=true) (hw:iU (eu g1 (λm=>(cg.getD k []).contains m) U) ops hM true)
   (aO:dI P (eu g1 (λm=>(cg.getD k []).contains m) U) hM.op hM.type x) (t:w2 P N ops cg rs mq g1 o U V):w2 P N ops cg rs mq g1 o U ((k,d,some x)::V)
theorem w2.spec {o:Oper}{U V:Acc}{rs:Place->Prop}(h:w2 P N ops cg rs mq g1 o U V):∀ e∈V,(∃ x,e.2.2=some x/\yO rs mq g1 o x)/\(g1 e.2.1=none/\o.dst≠some e.2.1)/\∃ hM,ops[e.1]?=some hM/\hM.dst=some e.2.1/\N.ok e.2.1=true/\pa P (eu g1 (λm=>(cg.getD e.1 []).contains m) U) ops hM e.2.2:=by
 induction h with
 | nil=>intro e he; cases he
 | c cp h1 eL bj C6 b1 hw aO _ aR =>
  intro e he;rcases List.mem_cons.1 he with rfl | he
  ·exact ⟨⟨_,rfl,cp⟩,⟨h1,Mn eL⟩,_,bj,C6,b1,.inl ⟨hw,.inl aO⟩⟩
  ·exact aR e he
theorem bC.eh (dr:Nat) {G G2:List (Nat × aj)}{U:Acc}{o:Oper}{rs:List Nat}(he:o7 P N (q7 rs) (eu (get G) (λm=>(cg.getD dr []).contains m) acc) o (get G2)) (lK:rs.all (λr=>(get G r).isSome)=true) (bb:o.guard=none) (hJ:xW ((acc.filterMap mb).map Place.root)=true) (i_:rW G=true) (aa:Nat.beq ops.size (dr+l.length+1)=true)
  (gQ:acc.filter (λe=>!(cg.getD dr []).contains e.1)=U) (qT:w2 P N ops cg (q7 rs) (eu (get G) (λm=>(cg.getD dr []).contains m) acc) (get G2) o U U)
  (aJ:(List.range ops.size).all (λk=>Nat.ble k dr||(cg.getD k []).contains dr)=true) (hk:bC P N ops cg (get G2) (dr+1) U l K):bC P N ops cg (get G) i acc (o::l) K:=by
 intro eA af di n3 mw;have:=y6 mw aa;subst this;obtain ⟨h1,al⟩:=drop_cons mw;have my:∀ e∈U,e∈acc:=λe he=>by rw [<- gQ] at he; exact (List.mem_filter.1 he).1
 have FI:mS P N ops cg (get G2) (af+1) U:=⟨λe he=>by have:=(n3.le di).2 e (my e he); omega,λe he=>(qT.spec e he).2.1.1,by rw [<- gQ]; exact (List.filter_sublist.map _).nodup (n3.nodup di),λe he cY ib h=>n3.uniq di (my e he) (my cY ib) h,λe he=>(qT.spec e he).2.2⟩;obtain ⟨g',ax,eJ⟩:=hk U (af+1) FI .nil al;refine ⟨g',.w9 n3 (HE hJ) (xZ i_) h1 ?_ he (λr ax e=>by have:=List.all_eq_true.1 lK r.root ax; rw [e] at this; cases this) gQ.symm (λe h=>(qT.spec e h).1) (λe h=>(qT.spec e h).2.1) (λe h=>(qT.spec e h).2.2) ?_ ax,eJ⟩
 ·unfold iU; rw [bb]
 ·refine List.all_eq_true.2 λk hk=>?_;have:=List.all_eq_true.1 aJ k hk;simp only [Bool.or_eq_true,decide_eq_true_eq,Nat.ble_eq] at this ⊢;exact this
theorem o7.box {o:Oper}{r:Nat}{x:aj}{G1 G2:List (Nat × aj)}(he:cc P N (get G1) o (get G2)) (ax:g r=some x) [J:cV x] (hk:Trim false g (get G1) G1) (bf:get G1 r=none) (h1:get G2 r=none) (aZ:Dy o.dst r=true):o7 P N (q7 [r]) g o (get ((r,x)::G2)):=by
 rw [<- tL];exact he.mY.frame ax J.bP hk.keep bf h1 (Mn aZ)
theorem cc.dx {o:Oper}{k0:Nat}{cs cs' cs2:List aj}{G2:List (Nat × aj)}(bj:o.op=.store t a b) (aZ:o.dst=none) (aO:g r=some (.obj cs)) (bk:Rd g a (.ptr ⟨r,[]⟩ k0)) (aJ:Rd g b y) [aP:cV y] (ae:rz y=some cs') (bH:gz P t cs'.length=true)
  (hk:Nat.ble (k0+cs'.length) cs.length=true) (bf:Nat.blt 0 cs'.length=true) (he:fM cs k0 cs'=cs2) [hc:eZ cs] (ax:(get G2 r).isSome=true) (eD:mT g (get G2) r cs2 G2):cc P N g o (get G2) :=
 .box bj aZ aO bk aJ aP.bP ae bH (Nat.le_of_ble_eq_true hk) (by simpa using bf) he (by intro e; rw [e] at ax; cases ax) eD
end
end Go.Own
namespace Go.Own
open Go
section
variable {α:Type}
theorem dY.app {xs ys xs' BE:List aj}(h:dY xs ys) (aU:dY xs' BE):dY (xs++xs') (ys++BE):=⟨by simp [h.l,aU.l],λg k a b bk aJ=>by
 by_cases hk:k<xs.length
 ·rw [List.getElem?_append_left hk] at bk;rw [List.getElem?_append_left (by rw [h.l]; exact hk)] at aJ;exact h.v g k a b bk aJ
 ·rw [List.getElem?_append_right (by omega)] at bk;rw [List.getElem?_append_right (by rw [h.l]; omega),h.l] at aJ;exact aU.v g _ a b bk aJ⟩
instance {e cY:cF α}{L:List α} [h:hr e cY]:dY (cj e L) (cj cY L):=⟨(By e cY L).1,(By e cY L).2⟩
theorem kC.H9 {en:cF α}{L:List α}{n:Nat}{cs cs':List aj}(h:cj en L=cs') (aq:L.length=n) [hv:dY cs cs']:kC (.own en.z n cs) (ai en L):=⟨λg=>by
 subst h aq;exact .own hv.l (hv.v g)⟩
theorem kC.lP {en su:cF α}{L M:List α}{m:Nat}{new ds:List aj} [h:hr en su] (aP:cj su M=ds) (hm:M.length=m) [aU:dY new ds]:kC (.own en.z (L.length+m) (cj en L++new)) (ai su (L++M)):=⟨λg=>by
 subst aP hm;have hv:=dY.app (inferInstance:dY (cj en L) (cj su L)) aU;show View g (.own en.z (L.length+M.length) (cj en L++new)) (.aD su.z (L++M).length (cj su (L++M)));have e:cj su (L++M)=cj su L++cj su M:=by simp [cj]
 rw [e,List.length_append,<- h.z];exact .own hv.l (hv.v g)⟩
end
end Go.Own
namespace Go.Own
open Go
section
variable {α:Type}{g g2:a7}{p q:Place}{P:Program}{a b:Operand}{t:TypeId}{ty:TypeId}
theorem e'.bh {en:cF α}{L:List α}(h:cd g2 p=some (ak en L)):e' g2 (.bh en.z p L.length):=.ref rfl (.inl ⟨_,_,h,Nat.le_refl _⟩)
namespace O
theorem Oy {en:cF α}{L M r:List α}{e jP m:Nat}{cs:List aj}(aO:Rd g a (.bh en.z p L.length)) (aH:cd g p=some (ak en L)) (J:Rd g b (.bh en.z q m)) (bW:cd g q=some (.own en.z m cs)) (aq:cs.length=m * en.z) (bp:cs.all lH=true) (hm:M.length=m) (aG:iV P t e en.z jP=true) (aJ:Nat.ble jP 128=true) (h:ed L M=some r)
  (hc:∀ t z n m new,g t≠some (.bY z p n m new)):dI P g (.call { callee:=.builtin .append,args:=#[a,b],argTypes:=#[t,t] }) ty (.bY en.z p L.length m cs):=by
 subst hm;obtain ⟨h1,al,_⟩:=w7 h aJ;exact .lB (.grow aO.bT (.inl ⟨_,aH⟩) (λt cN c5 cb ds e=>hc _ _ _ _ _ e) J.bT (Nk bW aq bp) aG h1 al)
end O
end
end Go.Own
