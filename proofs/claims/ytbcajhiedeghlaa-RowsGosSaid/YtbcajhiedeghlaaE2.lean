/-
  What is proved here: parts of the proof that the last text states: rules for walks through code, and of this program's functions what they answer. No condition of their own.
-/
import Derived.RowKit3
import Derived.Test.YtbcajhiedeghlaaE1
namespace Go.Own
open Go
structure hI (g1 g2:aY):Prop where
 sub:∀ t x,g2 t=some x->g1 t=some x
 bm:∀ t x,g2 t=some x->e3 g2 x
 fO:∀ t z q n m new,g2 t≠some (.bX z q n m new)
structure dN where
 size:Nat
 pins:List Nat
def dN.ok (N:dN) (d:Nat):Bool:=Nat.blt d N.size&&!N.pins.elem d
def hG (N:dN) (T T':Array Value):Prop:=T'.size=T.size/\∀ t∈N.pins,T'[t]?=T[t]?
theorem hG.refl {N:dN}{T:Array Value}:hG N T T:=⟨rfl,λ_ _=>rfl⟩
theorem hG.trans {N:dN}{T Il Im:Array Value}(h:hG N T Il) (h1:hG N Il Im):hG N T Im:=⟨h1.1.trans h.1,λt aD=>(h1.2 t aD).trans (h.2 t aD)⟩
theorem dN.lt {N:dN}{d:Nat}(h:N.ok d=true):d<N.size:=by
 simp [dN.ok] at h; exact h.1
theorem hG.put {N:dN}{d:Nat}(h:N.ok d=true) (T:Array Value) (v:Value):hG N T (T.setIfInBounds d v):=by
 refine ⟨by simp,λt aD=>?_⟩
 rw [Array.getElem?_setIfInBounds_ne]
 rintro rfl
 simp [dN.ok,aD] at h
def h' (N:dN) (a:Act) (w:World) (I:br) (Fs:Nat->br) (g':aY) (cE:Act) (w':World):Prop :=
 cE.defers=a.defers/\hG N a.tmps cE.tmps/\∃ I' cp,cY w' I' cE.tmps g' cp/\kQ w I (λc=>∃ t,Fs t c) w' I' (λc=>∃ t,cp t c)
theorem uE {cp:Nat->br}{d:Nat}{F:br}{c:Nat}(h:∃ t,s_ cp d F t c):(∃ t,cp t c)\/F c:=by
 obtain ⟨t,h⟩:=h
 unfold s_ at h
 split at h
 ·exact .inr h
 ·exact .inl ⟨t,h⟩
structure wL (P:Program) (g:aY) (f:FuncId) (all xs0 xs1 args:List ag) (tk:Nat->Bool) (vw:Bool) (g1 g2:aY) (outs:List (Option ag)) (res:ag) (l:List (Place × ag)) (ks:Nat->Nat) (g4:aY):Prop where
 bl:dM P f=true
 Av:xs0.length=all.length
 vI:args.length=all.length
 bb:∀ (k:Nat) (x:ag),all[k]?=some x->xs0[k]?=some x\/xs0[k]?=some .dead
 aD:Take g xs0 xs1 g1
 hk:hI g1 g2
 bj:∀ (k:Nat) (x y:ag),all[k]?=some x->args[k]?=some y->if tk k then xs1[k]?=some y else vw=true/\View g2 x y
 jc:cb P f args outs res
 ax:if vw then ky res else di res
 vq:∀ (k:Nat) (x:ag),outs[k]?=some (some x)->if vw then ky x else di x
 ao:∀ (ae:Nat) (p:Place) (x:ag),l[ae]?=some (p,x)->Nv g g2 all outs (ks ae) p x
 nd:(l.map (·.1)).Nodup
 inj:∀ i ae,i<l.length->ae<l.length->ks i=ks ae->i=ae
 GW:hI (pt g2 l) g4
section
variable {P:Program}{w:World}{I:br}{T:Array Value}{g:aY}{Fs:Nat->br}
theorem jE.keep (h:jE w I T g Fs) {g2:aY}(hk:hI g g2):cY w I T g2 (λt c=>g2 t≠none/\Fs t c) :=
 h.UF hk.sub hk.bm λ_ _ _ _ _ _ _ _ _ _ _ h1=>absurd h1 (hk.fO _ _ _ _ _ _)
structure uI (g:aY) (d:Nat) (g4 g5:aY):Prop where
 sub:∀ t x,g4 t=some x->g5 t=some x
 new:∀ t x,g5 t=some x->g4 t=some x\/(g4 t=none/\t≠d/\g t=some x/\∃ r k cs,x=.ptr ⟨r,[]⟩ k/\r≠d/\g4 r=some (.obj cs)/\k<cs.length)
theorem uI.refl {d:Nat}{g4:aY}:uI g d g4 g4:=⟨λ_ _ h=>h,λ_ _ h=>.inl h⟩
theorem cY.back (h:cY w I T g Fs) {w':World}{I':br}{d:Nat}{v:Value}{g4 g5:aY}{Ia:Nat->br}(b4:cY w' I' (T.setIfInBounds d v) g4 Ia) (aH:uI g d g4 g5):cY w' I' (T.setIfInBounds d v) g5 Ia:=by
 refine ⟨λt x J=>?_,λt aD c ab=>?_,b4.e5,b4.aE,b4.lt,λt dn z p n m new cJ cX m' dj h1 al=>?_⟩
 ·rcases aH.new t x J with aT | ⟨h1,al,aO,r,k,cs,rfl,df,eL,lj⟩
  ·obtain ⟨u,hu,bf⟩:=b4.rel t x aT
   exact ⟨u,hu,b4.u_ (λ_ _=>rfl) (λ_ _ _=>rfl) (λ_ _=>rfl) (λ_ h=>h) aH.sub bf λ_ _=>rfl⟩
  ·obtain ⟨u,hu,bf⟩:=h.rel t _ aO
   obtain ⟨⟨Bx,ad,aw,a2,rfl⟩,_⟩:=(bf.hB (by simp)).nh
   have fM:∀ s,s≠d->(T.setIfInBounds d v)[s]?=T[s]?:=λs aN=>by rw [Array.getElem?_setIfInBounds_ne (Ne.symm aN)]
   refine ⟨_,by rw [fM t al]; exact hu,.tree (.ref rfl ⟨⟨Bx,ad,?_,a2,rfl⟩,?_⟩ (b4.kI t h1))⟩
   ·have:ed w T ⟨r,[]⟩=T[r]?:=by
     unfold ed; simp only; cases T[r]? <;> rfl
    rw [this] at aw
    unfold ed
    simp only [fM r df,aw,walk]
   ·exact ⟨.obj cs,by simp [b7,aH.sub r _ eL,ag.at],0,0,cs,.inr rfl,lj⟩
 ·cases aT:g4 t with
  | none=>exact b4.kI t aT c ab
  | some y=>rw [aH.sub t y aT] at aD; cases aD
 ·have:∀ {t z p n m new},g5 t=some (.bX z p n m new)->g4 t=some (.bX z p n m new):=by
   intro t z p n m new J
   rcases aH.new t _ J with aT | ⟨_,_,_,r,k,cs,e,_⟩
   ·exact aT
   ·cases e
  exact b4.p_ t dn z p n m new cJ cX m' dj (this h1) (this al)
def hV (P:Program) (N:dN) (g:aY) (o:Oper) (d:Nat) (g5:aY):Prop :=
 ∀ (w:World) (I:br) (T:Array Value) (Fs:Nat->br),cY w I T g Fs->∀ (a:Act),a.tmps=T->a.tmps.size=N.size->∀ (K:Act->World->Prop) (Q:Exit->Act->World->Prop),
  (∀ (cE:Act) (w':World) (v:Value) (I':br) (cp:Nat->br),cE.defers=a.defers->cE.tmps=T.setIfInBounds d v->cY w' I' (T.setIfInBounds d v) g5 cp->kQ w I (λc=>∃ t,Fs t c) w' I' (λc=>∃ t,cp t c)->K cE w')->o.wp P a w K Q
theorem hV.sound {N:dN}{o:Oper}{d:Nat}{g5:aY}(ab:hV P N g o d g5) (jt:N.ok d=true) (h:cY w I T g Fs) {a:Act}(bj:a.tmps=T) (bW:a.tmps.size=N.size) {K:Act->World->Prop}{Q:Exit->Act->World->Prop}
  (et:∀ cE w',h' N a w I Fs g5 cE w'->K cE w'):o.wp P a w K Q :=
 ab w I T Fs h a bj bW K Q λcE w' v I' cp h1 al aO b4=>et cE w' ⟨h1,by rw [al,<- bj]; exact hG.put jt _ _,I',cp,by rw [al]; exact aO,b4⟩
theorem wL.ok {N:dN}{o:Oper}{c:Operand}{xs:Array Operand}{iz:Array TypeId}{d:Nat}{f:FuncId}{first caps ys xs0 xs1 args:List ag}{tk:Nat->Bool}{vw:Bool}{g1 g2 g4 g5:aY}{outs:List (Option ag)}{res:ag}{l:List (Place × ag)}{ks:Nat->Nat}
  (bd:o.op=.call { callee:=.value c,args:=xs,argTypes:=iz }) (aV:o.dst=some d) (ab:bP g c=some (.er (.func f) first caps)) (J:iI g xs.toList=some ys)
  (he:wL P g f (first++ys++caps) xs0 xs1 args tk vw g1 g2 outs res l ks g4) (a8:g4 d=none) (jt:N.ok d=true) (Ri:uI g d (e9 g4 d res) g5):hV P N g o d g5:=by
 intro w I T Fs h a bj bW K Q et
 obtain ⟨v1,v2,tN,ao,nV⟩:=Eo h bj ab J
 have hW:(execOp a.eval o).run P w=.ok (.enter f (v1++xs.map a.eval++v2)) w:=by
  simp [execOp,bd,resolve,Deferred.ofValue,tN,invoke,Ep he.bl]
 generalize CV:(v1++xs.map a.eval++v2).toList=vs at *
 generalize Ft:first++ys++caps=all at *
 -- what is taken
 have tG:Hand w I (fS w T) Fs xs0 vs (λ_=>cU):=by
  refine ⟨by rw [he.Av,ao],λk x u J hu=>?_,λ_ _ _ _ _ h=>h.elim,λ_ _ _ _ h=>h.elim,λ_ _ _ h=>h.elim⟩
  have hk:k<all.length:=by rw [<- he.Av]; exact (List.getElem?_eq_some_iff.1 J).1
  have vf:=List.getElem?_eq_getElem hk
  rcases he.bb k _ vf with bb | bb
  ·rw [bb] at J; cases J
   exact (nV k _ u vf hu).frame (λ_ _=>rfl) (λ_ h=>h) (λ_ _ h=>h.1) λ_ _=>rfl
  ·rw [bb] at J; cases J
   exact .dead λ_ h=>h
 obtain ⟨gh,H1,jb,iD,hb⟩:=he.aD.sound h.me tG
 have Kx:∀ c,k' gh xs1.length H1 c->∃ t,Fs t c:=by
  intro c ab
  rcases hb c ab with aT | ⟨_,_,aT⟩
  ·exact aT
  ·exact aT.elim
 have ib:=jb.keep he.hk
 generalize Qs:(λt c=>g2 t≠none/\gh t c)=iZ at ib
 have Ki:∀ t c,iZ t c->gh t c:=by intro t c ab; rw [<- Qs] at ab; exact ab.2
 have FW:xs1.length=all.length:=by rw [he.aD.length,he.Av]
 -- what the callee sees
 let BR:br:=λc=>I c\/(vw=true/\∃ t,iZ t c)
 let wM:Nat->br:=λt c=>t<all.length/\tk t=true/\H1 t c
 have ss:∀ t c,wM t c->(∀ s,¬ iZ s c)/\¬ I c/\∃ t,Fs t c:=by
  rintro t c ⟨h1,al,aO⟩
  exact ⟨λs aN=>iD.off t s c (by omega) aO (Ki s c aN),iD.aE t c (by omega) aO,Kx c (.inr ⟨t,by omega,aO⟩)⟩
 have K_:∀ (ρ':ag->Value->Prop) (k:Nat) (y:ag) (u:Value),args[k]?=some y->vs[k]?=some u->R w BR ρ' y u (wM k):=by
  intro ρ' k y u az hu
  have hk:k<all.length:=by rw [<- he.vI]; exact (List.getElem?_eq_some_iff.1 az).1
  have vf:=List.getElem?_eq_getElem hk
  have:=he.bj k _ y vf az
  split at this
  ·rename_i aD
   have mv:di y:=he.aD.AG y (List.mem_of_getElem? this)
   exact (((iD.rel k y u this hu).bK mv).nk λc ab=>.inl ab).xb λc=>⟨λab=>⟨hk,aD,ab⟩,λab=>ab.2.2⟩
  ·rename_i aD
   obtain ⟨hv,Sq⟩:=this
   have gF:R w I (fS w T) all[k] u cU:=(nV k _ u vf hu).frame (λ_ _=>rfl) (λ_ h=>h) (λ_ _ h=>h.1) λ_ _=>rfl
   have:=View.MG ib.me Sq gF (λ_ h=>h.elim) ρ'
   refine (this.nk (I':=BR) λc ab=>?_).xb λc=>⟨λh=>h.elim,λab=>absurd ab.2.1 aD⟩
   rcases ab with aT | aT
   ·exact .inl aT
   ·exact .inr ⟨hv,aT⟩
 have QP:cY w BR vs.toArray (o2 args) wM:=by
  refine ⟨λt x J=>?_,λt aD c ab=>?_,λt dn c ab fu=>iD.e5 t dn c (by have:=ab.1; omega) (by have:=fu.1; omega) ab.2.2 fu.2.2,λt c ab hi=>?_,λc ab=>?_,λt dn z p n m new cJ cX m' dj h1 al=>?_⟩
  ·have aD:t<args.length:=(List.getElem?_eq_some_iff.1 J).1
   have hu:vs[t]?=some (vs[t]'(by rw [<- ao,<- he.vI]; exact aD)):=List.getElem?_eq_getElem _
   exact ⟨_,by rw [List.getElem?_toArray]; exact hu,.tree (K_ _ t x _ J hu)⟩
  ·have hle:args.length<=t:=by simpa [o2] using aD
   have:=ab.1; have:=he.vI; omega
  ·obtain ⟨h1,al,_⟩:=ss t c ab
   rcases hi with aT | ⟨_,s,aT⟩
   ·exact al aT
   ·exact h1 s aT
  ·rcases ab with aT | ⟨_,s,aT⟩
   ·exact h.lt c aT
   ·exact ib.jQ s c aT
  ·have aD:t<args.length:=(List.getElem?_eq_some_iff.1 h1).1
   have hu:vs[t]?=some (vs[t]'(by rw [<- ao,<- he.vI]; exact aD)):=List.getElem?_eq_getElem _
   exact (K_ (λ_ _=>False) t _ _ h1 hu).k8.elim
 have tL:=he.jc.2 w BR vs wM (by rw [<- ao,he.vI]) QP
 unfold Oper.wp Oper.upon
 simp only [hW]
 rw [<- CV,Array.toArray_toList] at tL
 refine Calls.mono tL ?_
 rintro e w' ⟨v,I',cp,rfl,eB,cn⟩
 rw [CV] at eB
 have mu:outs.length=all.length:=by rw [he.jc.1,he.vI]
 have qK:vs.length=all.length:=ao.symm
 -- the blocks behind the call
 have Mt:∀ t c,iZ t c->w'.heap[c]?=w.heap[c]?:=λt c ab=>cn.fE.block c (ib.jQ t c ab) λ⟨s,aN⟩=>(ss s c aN).1 t ab
 have q6:∀ c,I c->w'.heap[c]?=w.heap[c]?:=λc ab=>cn.fE.block c (h.lt c ab) λ⟨s,aN⟩=>(ss s c aN).2.1 ab
 let If:br:=λc=>if vw then I c else I' c
 have Hg:∀ t c,cp t c->(∃ s,wM s c)\/w.heap.size<=c:=λt c ab=>cn.own c ⟨t,ab⟩
 have LW:∀ t c,cp t c->∀ s,¬ iZ s c:=by
  intro t c ab s aN
  rcases Hg t c ab with ⟨fe,aT⟩ | aT
  ·exact (ss fe c aT).1 s aN
  ·have:=ib.jQ s c aN; omega
 have LX:∀ t c,cp t c->¬ If c:=by
  intro t c ab hi
  cases vw with
  | true =>
   simp only [If,if_true] at hi
   rcases Hg t c ab with ⟨fe,aT⟩ | aT
   ·exact (ss fe c aT).2.1 hi
   ·have:=h.lt c hi; omega
  | false =>
   simp only [If,Bool.false_eq_true,if_false] at hi
   exact eB.aE t c ab hi
 have Kn:∀ c,If c->I c\/(∃ s,wM s c)\/w.heap.size<=c:=by
  intro c ab
  cases vw with
  | true=>simp only [If,if_true] at ab; exact .inl ab
  | false =>
   simp only [If,Bool.false_eq_true,if_false] at ab
   rcases cn.new c ab with aT | aT | aT
   ·rcases aT with aT | ⟨aT,_⟩
    ·exact .inl aT
    ·cases aT
   ·exact .inr (.inl aT)
   ·exact .inr (.inr aT)
 have Km:∀ c,I c->If c:=by
  intro c ab
  cases vw with
  | true=>simp only [If,if_true]; exact ab
  | false=>simp only [If,Bool.false_eq_true,if_false]; exact cn.more c (.inl ab)
 have QL:cY w' If T g2 iZ:=by
  have:=ib.world (w':=w') Mt q6 cn.fE.size
  refine ⟨λt x J=>?_,this.kI,this.e5,λt c ab hi=>?_,λc ab=>?_,this.p_⟩
  ·obtain ⟨v,hv,bf⟩:=this.rel t x J
   exact ⟨v,hv,bf.frame (λ_ _=>rfl) Km (λ_ _ h=>h) (λ_ _ _ _ _ _ _=>rfl) λ_ _=>rfl⟩
  ·rcases Kn c hi with aT | ⟨s,aT⟩ | aT
   ·exact ib.aE t c ab aT
   ·exact (ss s c aT).1 t ab
   ·have:=ib.jQ t c ab; omega
  ·cases vw with
   | true=>simp only [If,if_true] at ab; exact Nat.lt_of_lt_of_le (h.lt c ab) cn.fE.size
   | false=>simp only [If,Bool.false_eq_true,if_false] at ab; exact eB.lt c ab
 -- what comes back in the arguments, and the result
 have IT:∀ {x:ag}{u:Value}{F:br}{ρ ρ':ag->Value->Prop},R w' I' ρ x u F->(if vw then ky x else di x)->R w' If ρ' x u F:=by
  intro x u F ρ ρ' bf J
  cases vw with
  | true=>simp only [if_true] at J; exact bf.k9 J
  | false =>
   simp only [Bool.false_eq_true,if_false] at J
   refine (bf.bK J).nk λc ab=>?_
   simpa [If] using ab
 have AF:∀ {x:ag},(if vw then ky x else di x)->∀ z p n m new,x≠.bX z p n m new:=by
  rintro x J z p n m new rfl
  cases vw with
  | true=>simp only [if_true] at J; cases J
  | false=>simp only [Bool.false_eq_true,if_false] at J; cases J
 have Tv:∀ (k:Nat) (x:ag) (u:Value),outs[k]?=some (some x)->vs[k]?=some u->R w' If (fS w' T) x u (cp k):=by
  intro k x u J hu
  have hk:k<outs.length:=(List.getElem?_eq_some_iff.1 J).1
  obtain ⟨s9,fN,bf⟩:=eB.rel k x (by simp only [oL,if_neg (Nat.ne_of_lt hk),J]; rfl)
  have:s9=u:=by
   rw [List.getElem?_toArray,List.getElem?_append_left (by rw [qK,<- mu]; exact hk),hu] at fN
   exact (Option.some.inj fN).symm
  subst this
  exact IT (bf.hB (AF (he.vq k x J))) (he.vq k x J)
 obtain ⟨HR,CU,oA⟩:=eB.rel outs.length res (by simp [oL])
 have Sk:HR=v:=by
  have e:outs.length=vs.length:=by omega
  rw [e] at CU
  simpa using CU.symm
 subst Sk
 -- back into the places
 obtain ⟨wN,Fj,CC⟩:=jE.pt (w:=w') (I:=If) (T:=T) l (λae=>cp (ks ae)) (λae=>vs.getD (ks ae) undef) QL.me he.nd (λae p x aa=>by
   have L:=he.ao ae p x aa
   have hk:ks ae<outs.length:=(List.getElem?_eq_some_iff.1 L.out).1
   have hu:vs[ks ae]?=some (vs[ks ae]'(by rw [qK,<- mu]; exact hk)):=List.getElem?_eq_getElem _
   have tQ:vs.getD (ks ae) undef=vs[ks ae]'(by rw [qK,<- mu]; exact hk):=by simp [List.getD,hu]
   refine ⟨L.IK,?_,?_⟩
   ·rw [tQ,ib.wz (w':=w') (λ_ _=>rfl) Mt L.IK]
    rcases L.arg with ⟨z,n,cs,h1,al⟩ | ⟨cs,h1,al⟩
    ·exact N1 h (nV _ _ _ h1 hu) al
    ·exact N0 h (nV _ _ _ h1 hu) al
   ·rw [tQ]; exact Tv _ x _ L.out hu)
  (λae t c aa ab=>LW _ c ab t) (λae c aa ab=>LX _ c ab) (λi ae c hi aa h1 al=>he.inj i ae hi aa (eB.e5 _ _ c h1 al))
 have QM:=Fj.keep he.GW
 have Tt:∀ t c,cp outs.length c->¬ (g4 t≠none/\wN t c):=by
  rintro t c ab ⟨_,b4⟩
  rcases CC t c b4 with aT | ⟨ae,aa,aT⟩
  ·exact LW _ c ab t aT
  ·have hk:ks ae<outs.length:=by
    have tU:=List.getElem?_eq_getElem aa
    exact (List.getElem?_eq_some_iff.1 (he.ao ae _ _ tU).out).1
   have:=eB.e5 _ _ c ab aT
   omega
 have na:=QM.sW (d:=d) (x:=res) (v:=HR) (F:=cp outs.length) a8 (by rw [<- bj,bW]; exact dN.lt jt) (.tree (IT (oA.hB (AF he.ax)) he.ax)) Tt (λc ab=>LX _ c ab) (λz p n m new e=>absurd e (AF he.ax z p n m new))
 refine et _ _ HR If _ (by rw [aV]; rfl) (by rw [aV]; simp [Act.put,bj]) (h.back na Ri) ⟨?_,Km,λc ab=>?_,λc ab=>?_⟩
 ·exact cn.fE.mono λb _ ⟨s,aN⟩=>(ss s b aN).2.2
 ·rcases Kn c ab with aT | ⟨s,aT⟩ | aT
  ·exact .inl aT
  ·exact .inr (.inl (ss s c aT).2.2)
  ·exact .inr (.inr aT)
 ·have fin:∀ t,cp t c->(∃ s,Fs s c)\/w.heap.size<=c:=by
   intro t aD
   rcases Hg t c aD with ⟨s,aT⟩ | aT
   ·exact .inl (ss s c aT).2.2
   ·exact .inr aT
  rcases uE ab with ⟨t,_,aT⟩ | aT
  ·rcases CC t c aT with gE | ⟨ae,_,gE⟩
   ·exact .inl (Kx c (.inl ⟨t,Ki t c gE⟩))
   ·exact fin _ gE
  ·exact fin _ aT
structure Nq (g:aY) (d r k0:Nat) (g4 g5:aY):Prop where
 sub:∀ t x,g4 t=some x->g5 t=some x
 new:∀ t x,g5 t=some x->g4 t=some x\/(g4 t=none/\t≠d/\g t=some x/\∃ m z n cs,x=.ptr ⟨r,[k0]⟩ m/\b7 g4 ⟨r,[k0]⟩=some (.own z n cs)/\m<cs.length)
theorem hI.b7 {g1 g2:aY}(h:hI g1 g2) {p:Place}{y:ag}(aG:b7 g2 p=some y):b7 g1 p=some y:=by
 unfold Own.b7 at *
 cases J:g2 p.root with
 | none=>rw [J] at aG; cases aG
 | some x=>rw [J] at aG; rw [h.sub _ _ J]; exact aG
theorem hV.PX {N:dN}{o:Oper}{r k0 d:Nat}{y:ag}{cs:List ag}{g5:aY}(ax:g r=some (.obj cs)) (az:cs[k0]?=some y) (vx:di y)
  (tX:∀ v:Value,v.oneCell'=true->∃ g1 g4 tC,hI (c_ g ⟨r,[k0]⟩ (.lit v)) g1/\hV P N g1 o d g4/\b7 g4 ⟨r,[k0]⟩=some (.lit v)/\hI (c_ g4 ⟨r,[k0]⟩ y) tC/\b7 tC ⟨r,[k0]⟩=some y/\Nq g d r k0 tC g5):hV P N g o d g5:=by
 intro w I T Fs h a bj bW K Q et
 have k4:∀ z q n m new,y≠.bX z q n m new:=by rintro z q n m new rfl; cases vx
 have gn:b7 g ⟨r,[k0]⟩=some y:=by simp [b7,ax,ag.at,ag.kids,az]
 obtain ⟨v,cM,hv,dT,dC,put⟩:=h.me.part gn k4
 have sL:v.oneCell'=true:=by
  obtain ⟨u,hu,mn⟩:=h.rel r _ ax
  obtain ⟨b,s9,h1,al,aO,b4,_⟩:=R.node (z:=0) (n:=0) (mn.hB (by simp)) (.inr rfl) az
  have:ed w T ⟨r,[k0]⟩=child w u k0:=by
   unfold ed
   simp only [hu,walk]
   cases child w u k0 <;> rfl
  rw [this,aO] at hv
  cases hv
  exact b4
 obtain ⟨gh,jb,zB,zC⟩:=put (.lit v) cU (.lit sL λ_ h=>h) (λ_ h=>h.elim) (λ_ h=>h.elim) (λ_ _ _ h=>h.elim)
 obtain ⟨g1,g4,tC,gN,e8,Fu,FQ,VJ,aH⟩:=tX v sL
 have q9:∀ t c,gh t c->Fs t c/\¬ cM c:=by
  intro t c ab
  by_cases aD:t=r
  ·subst aD
   rcases (zB c).1 ab with aT | aT
   ·exact aT
   ·exact aT.elim
  ·rw [zC t aD] at ab
   exact ⟨ab,λbl=>aD (h.e5 t r c ab (dC c bl))⟩
 have Fi:=jb.keep gN
 refine e8 w I T _ Fi a bj bW K Q λcE w' hF I' cp EK zb eB cn=>?_
 obtain ⟨v2,r2,xC,l2,Qr,Ho⟩:=eB.me.part Fu (by simp)
 have Gh:v2=v:=l2.ie.1
 subst Gh
 have E_:∀ c,cM c->¬ I c:=λc ab=>h.aE r c (dC c ab)
 have vd:∀ c,cM c->c<w.heap.size:=λc ab=>h.jQ r c (dC c ab)
 have vO:∀ c,cM c->¬ ∃ t,(g1 t≠none/\gh t c):=λc ab ⟨t,_,aT⟩=>(q9 t c aT).2 ab
 have AI:∀ t c,cp t c->¬ cM c:=by
  intro t c ab bl
  rcases cn.own c ⟨t,ab⟩ with aT | aT
  ·exact vO c bl aT
  ·have:=vd c bl; omega
 have Hf:∀ c,cM c->¬ I' c:=by
  intro c ab hi
  rcases cn.new c hi with aT | aT | aT
  ·exact E_ c ab aT
  ·exact vO c ab aT
  ·have:=vd c ab; omega
 have Hx:∀ c,cM c->w'.heap[c]?=w.heap[c]?:=λc ab=>cn.fE.block c (vd c ab) (vO c ab)
 have q6:∀ c,I c->w'.heap[c]?=w.heap[c]?:=λc ab=>cn.fE.block c (h.lt c ab) λ⟨t,_,aT⟩=>h.aE t c (q9 t c aT).1 ab
 have zJ:R w' I' (fS w' (T.setIfInBounds d hF)) y v2 cM :=
  ((dT.bK vx).frame q6 cn.more (λ_ _ h=>h) Hx)
 obtain ⟨Ib,Fk,E6,E7⟩:=Ho y cM zJ (λc ab bl=>(AI _ c bl ab).elim) (λc ab=>Hf c ab) (λt c _ ab bl=>AI t c bl ab)
 have sv:=Fk.keep FQ
 have Sm:ed w' (T.setIfInBounds d hF) ⟨r,[k0]⟩=some v2:=xC
 have QN:cY w' I' (T.setIfInBounds d hF) g5 (λt c=>tC t≠none/\Ib t c):=by
  refine ⟨λt x J=>?_,λt aD c ab=>?_,sv.e5,sv.aE,sv.lt,λt dn z p n m new cJ cX m' dj h1 al=>?_⟩
  ·rcases aH.new t x J with aT | ⟨h1,al,aO,m,z,n,cs2,rfl,df,eL⟩
   ·obtain ⟨u,hu,bf⟩:=sv.rel t x aT
    exact ⟨u,hu,sv.u_ (λ_ _=>rfl) (λ_ _ _=>rfl) (λ_ _=>rfl) (λ_ h=>h) aH.sub bf λ_ _=>rfl⟩
   ·obtain ⟨u,hu,bf⟩:=h.rel t _ aO
    obtain ⟨⟨Bx,ad,aw,a2,rfl⟩,_⟩:=(bf.hB (by simp)).nh
    rw [hv] at aw
    cases aw
    refine ⟨_,by rw [Array.getElem?_setIfInBounds_ne (Ne.symm al)]; exact hu,.tree (.ref rfl ⟨⟨v2,ad,Sm,a2,rfl⟩,?_⟩ (sv.kI t h1))⟩
    refine ⟨.own z n cs2,?_,z,n,cs2,.inl rfl,eL⟩
    unfold Own.b7 at df ⊢
    cases f_:tC r with
    | none=>simp only [f_] at df; cases df
    | some x'=>simp only [f_] at df; simp only [aH.sub r x' f_]; exact df
  ·cases aT:tC t with
   | none=>exact ab.1 aT
   | some y=>rw [aH.sub t y aT] at aD; cases aD
  ·have:∀ {t z p n m new},g5 t=some (.bX z p n m new)->tC t=some (.bX z p n m new):=by
    intro t z p n m new J
    rcases aH.new t _ J with aT | ⟨_,_,_,m,z,n,cs2,e,_⟩
    ·exact aT
    ·cases e
   exact sv.p_ t dn z p n m new cJ cX m' dj (this h1) (this al)
 refine et cE w' hF I' _ EK zb QN ⟨?_,cn.more,λc ab=>?_,λc ab=>?_⟩
 ·exact cn.fE.mono λb _ ⟨t,_,aT⟩=>⟨t,(q9 t b aT).1⟩
 ·rcases cn.new c ab with aT | ⟨t,_,aT⟩ | aT
  ·exact .inl aT
  ·exact .inr (.inl ⟨t,(q9 t c aT).1⟩)
  ·exact .inr (.inr aT)
 ·obtain ⟨t,_,ab⟩:=ab
  have:(∃ t,cp t c)\/cM c:=by
   by_cases aD:t=r
   ·subst aD
    rcases (E6 c).1 ab with ⟨aT,_⟩ | aT
    ·exact .inl ⟨_,aT⟩
    ·exact .inr aT
   ·rw [E7 t aD] at ab; exact .inl ⟨t,ab⟩
  rcases this with aT | aT
  ·rcases cn.own c aT with ⟨t,_,gE⟩ | gE
   ·exact .inl ⟨t,(q9 t c gE).1⟩
   ·exact .inr gE
  ·exact .inl ⟨r,dC c aT⟩
end
end Go.Own
namespace Go.Own
open Go
def se:ag->Option (List ag)
 | .agg cs=>some cs
 | .lit v=>some [.lit v]
 | .aK=>some [.aK]
 | .aE z n cs=>some [.aE z n cs]
 | .own z n cs=>some [.own z n cs]
 | .obj cs=>some [.obj cs]
 | .bo cs=>some [.bo cs]
 | .er f a b=>some [.er f a b]
 | _=>none
def gJ (P:Program) (t:TypeId) (m:Nat):Bool :=
 match P.info? t with
 | some i=>i.size == m
 | none=>false
def kO (P:Program) (N:dN) (g:aY) (o:Oper) (g':aY):Prop :=
 ∀ (w:World) (I:br) (T:Array Value) (Fs:Nat->br),cY w I T g Fs->∀ (a:Act),a.tmps=T->a.tmps.size=N.size->∀ (K:Act->World->Prop) (Q:Exit->Act->World->Prop),
  (∀ (cE:Act) (w':World),h' N a w I Fs g' cE w'->(∀ t,o.dst≠some t->cE.tmps[t]?=a.tmps[t]?)->K cE w')->o.wp P a w K Q
inductive cj (P:Program) (N:dN) (g:aY):Oper->aY->Prop
 | assign {o:Oper}{d:Nat}{x:Operand}{y ke y':ag}{g1 g2:aY}(bd:o.op=.assign x) (aV:o.dst=some d) (J:bP g x=some y) (aD:Take g [y] [ke] g1) (bM:jA ke y') (hk:hI g1 g2) (a8:g2 d=none) (bW:N.ok d=true):cj P N g o (e9 g2 d y')
 | N4 {o:Oper}{d:Nat}{x:Operand}{y:ag}{g2:aY}(bd:o.op=.assign x) (aV:o.dst=some d) (J:bP g x=some y) (hk:hI g g2) (az:e3 g2 y) (a8:g2 d=none) (bW:N.ok d=true):cj P N g o (e9 g2 d y)
 | store {o:Oper}{t:TypeId}{ad val:Operand}{p:Place}{k z n:Nat}{y ke y' nd:ag}{cs cs':List ag}{g1 g2:aY}(bd:o.op=.store t ad val) (aV:o.dst=none) (fX:bP g ad=some (.ptr p k)) (qQ:bP g val=some y) (aD:Take g [y] [ke] g1) (o':jA ke y')
   (ab:se y'=some cs') (aN:gJ P t cs'.length=true) (aG:b7 g1 p=some nd) (gw:nd=.own z n cs\/nd=.obj cs) (hk:k+cs'.length<=cs.length) (bb:0<cs'.length)
   (xq:∀ t x,g2 t=some x->c_ g1 p (nd.fW k cs') t=some x) (tY:∀ t x,g2 t=some x->∀ y,g1 t=some y->jk (λr=>gD g1 r/\Clear p k cs'.length r/\gD g2 r) y) (k4:∀ t z q n m new,g2 t≠some (.bX z q n m new)) (jO:g2 p.root≠none):cj P N g o g2
 | call {o:Oper}{d:Nat}{g5:aY}(aV:o.dst=some d) (bW:N.ok d=true) (h:hV P N g o d g5):cj P N g o g5
 | HD {o:Oper}{g2:aY}(h:kO P N g o g2):cj P N g o g2
section
variable {P:Program}{w:World}{I:br}{T:Array Value}{g:aY}{Fs:Nat->br}
theorem Hand.one {y:ag}{v:Value}(bf:R w I (eg w T g) y v cU):Hand w I (fS w T) Fs [y] [v] (λ_=>cU) :=
 ⟨rfl,λk x u J hu=>by
  cases k with
  | zero=>simp at J hu; subst J hu; exact bf.frame (λ_ _=>rfl) (λ_ h=>h) (λ_ _ h=>h.1) λ_ _=>rfl
  | succ k=>simp at J,λ_ _ _ _ _ h=>h.elim,λ_ _ _ _ h=>h.elim,λ_ _ _ h=>h.elim⟩
theorem Hand.Hs {ρ:ag->Value->Prop}{y:ag}{v:Value}{dQ:Nat->br}(h:Hand w I ρ Fs [y] [v] dQ):R w I ρ y v (dQ 0):=h.rel 0 y v rfl rfl
theorem Hand.cells {y:ag}{v:Value}{dQ:Nat->br}(h:Hand w I (fS w T) Fs [y] [v] dQ) (aL:di y) {cs:List ag}(ab:se y=some cs) :
  ∃ wO,Hand w I (fS w T) Fs cs v.cells.toList wO/\(∀ x∈cs,di x)/\(∀ (ae:Nat) (u:Value),v.cells.toList[ae]?=some u->u.oneCell'=true)/\∀ ae c,ae<cs.length->wO ae c->dQ 0 c:=by
 have bf:=h.Hs
 have single:∀ {x:ag},y=x->v.oneCell'=true->∃ wO,Hand w I (fS w T) Fs [x] v.cells.toList wO/\(∀ z∈[x],di z)/\(∀ (ae:Nat) (u:Value),v.cells.toList[ae]?=some u->u.oneCell'=true)/\∀ ae c,ae<[x].length->wO ae c->dQ 0 c:=by
  rintro x rfl h1
  have xp:v.cells=#[v]:=by cases v <;> first | rfl | (simp [Value.oneCell'] at h1)
  refine ⟨dQ,by rw [xp]; exact h,by simpa using aL,λae u hu=>?_,λae c aa ab=>?_⟩
  ·rw [xp] at hu
   cases ae with
   | zero=>simp at hu; subst hu; exact h1
   | succ ae=>simp at hu
  ·have:ae=0:=by simpa using aa
   subst this; exact ab
 cases y <;> simp only [se,Option.some.injEq,reduceCtorEq] at ab
 case agg l =>
  subst ab
  cases bf with
  | ref J=>simp [ag.isRef] at J
  | @agg _ vs bS _ ao h1 ax aV aR =>
   have fg:∀ k c,k<l.length->bS k c->dQ 0 c:=λk c hk ab=>(aR c).2 ⟨k,hk,ab⟩
   refine ⟨bS,⟨by simp [Value.cells,ao],λk x u J hu=>ax k x u J (by simpa [Value.cells] using hu),aV,λk t c hk ab=>h.off 0 t c (by simp) (fg k c hk ab),λk c hk ab=>h.aE 0 c (by simp) (fg k c hk ab)⟩,?_,λae u hu=>h1 ae u (by simpa [Value.cells] using hu),fg⟩
   cases aL with | agg h=>exact h
 case lit a=>subst ab; exact single rfl (by obtain ⟨rfl,h1⟩:=bf.ie; exact h1)
 case aK=>subst ab; exact single rfl (by rw [bf.qY]; rfl)
 case aE z n l=>subst ab; exact single rfl (by obtain ⟨a,cap,rfl,_⟩:=bf.xG; rfl)
 case own z n l=>subst ab; exact single rfl (by obtain ⟨a,cap,rfl,_⟩:=bf.mL; rfl)
 case bo l=>subst ab; exact single rfl (by obtain ⟨ad,us,rfl,_⟩:=bf.vy; rfl)
 case obj l =>
  subst ab
  refine single rfl ?_
  cases bf with
  | ref J=>simp [ag.isRef] at J
  | obj=>rfl
 case er f a b =>
  subst ab
  refine single rfl ?_
  cases bf with
  | ref J=>simp [ag.isRef] at J
  | er=>rfl
theorem jD.nk {I':br}{ρ:ag->Value->Prop}{x:ag}{v:Value}{F:br}(h:jD w I ρ x v F) (bt:∀ c,I c->I' c):jD w I' ρ x v F:=by
 cases h with
 | tree h=>exact .tree (h.nk bt)
 | bX h=>exact .bX ⟨h.jM,h.k5,h.mx,h.ao,h.h1,λk x u J hu=>(h.ax k x u J hu).nk bt,h.aR⟩
theorem J_ {g1:aY}{gh:Nat->br}{H1:Nat->br}{ke y':ag}{v:Value}(bT:jE w I T g1 gh) (hH:Hand w I (fS w T) gh [ke] [v] H1) (aL:di ke) (bM:jA ke y') :
  ∃ (I':br) (r4:br),(∀ c,I c->I' c)/\(∀ c,I' c->I c\/H1 0 c)/\jE w I' T g1 gh/\Hand w I' (fS w T) gh [y'] [v] (λ_=>r4)/\∀ c,r4 c->H1 0 c:=by
 have bf:=hH.Hs
 obtain ⟨r4,gz,jq⟩:=R.e7 bM bf aL (λc ab=>hH.aE 0 c (by simp) ab) bT.lt
 refine ⟨λc=>I c\/(H1 0 c/\¬ r4 c),r4,λc ab=>.inl ab,λc ab=>ab.elim .inl λh=>.inr h.1,⟨λt x J=>?_,bT.kI,bT.e5,λt c ab hi=>?_,λc ab=>?_⟩,⟨rfl,λk x u J hu=>?_,λae k c aa hk _ _=>by simp at aa hk; omega,λk t c hk ab bl=>hH.off 0 t c (by simp) (gz c ab) bl,λk c hk ab hi=>?_⟩,gz⟩
 ·obtain ⟨u,hu,mn⟩:=bT.rel t x J
  exact ⟨u,hu,mn.nk λc ab=>.inl ab⟩
 ·rcases hi with h | ⟨h,_⟩
  ·exact bT.aE t c ab h
  ·exact hH.off 0 t c (by simp) h ab
 ·rcases ab with h | ⟨h,_⟩
  ·exact bT.lt c h
  ·exact bf.lt c h
 ·cases k with
  | zero=>simp at J hu; subst J hu; exact jq
  | succ k=>simp at J
 ·rcases hi with h | ⟨_,h⟩
  ·exact hH.aE 0 c (by simp) (gz c ab) h
  ·exact h ab
theorem cj.mZ {N:dN}{o:Oper}{g':aY}(he:cj P N g o g'):kO P N g o g':=by
 intro w I T Fs h a bj bW K Q et
 cases he with
 | HD he=>exact he w I T Fs h a bj bW K Q et
 | @call d _ aV jt ab =>
  refine ab w I T Fs h a bj bW K Q λcE w' v I' cp h1 al aO b4=>et cE w' ⟨h1,by rw [al,<- bj]; exact hG.put jt _ _,I',cp,by rw [al]; exact aO,b4⟩ λt aD=>?_
  rw [al,bj,Array.getElem?_setIfInBounds_ne]
  rintro rfl
  exact aD aV
 | @assign d x y ke y' g1 g2 bd aV J aD bM hk a8 jt =>
  have bf:=j9 h J bj
  obtain ⟨gh,H1,rG,tG,hb⟩:=aD.sound h.me (Hand.one bf)
  have zV:di ke:=aD.AG ke (by simp)
  obtain ⟨I',r4,oz,Fa,jb,iD,gz⟩:=J_ rG tG zV bM
  have mv:di y':=bM.bK zV
  have ib:=jb.keep hk
  have na:=ib.sW (d:=d) (x:=y') (v:=a.eval x) (F:=r4) a8 (by rw [<- bj,bW]; exact dN.lt jt) (.tree (iD.Hs.bK mv)) (λt c ab bl=>iD.off 0 t c (by simp) ab bl.2) (λc ab=>iD.aE 0 c (by simp) ab) (by rintro z p n m new rfl; cases mv)
  have hW:(execOp a.eval o).run P w=.ok (.value (a.eval x)) w:=by simp [execOp,bd]
  unfold Oper.wp Oper.upon
  simp only [hW]
  have gG:∀ c,H1 0 c->∃ t,Fs t c:=λc ab=>by
   rcases hb c (.inr ⟨0,by simp,ab⟩) with gE | ⟨_,_,gE⟩
   ·exact gE
   ·exact gE.elim
  refine et _ _ ⟨by rw [aV]; rfl,by rw [aV]; exact hG.put jt _ _,I',_,by rw [aV]; simpa [Act.put,bj] using na,⟨Fr.refl _ _,oz,λc ab=>(Fa c ab).elim .inl λh=>.inr (.inl (gG c h)),λc ab=>?_⟩⟩ λt aD=>by rw [aV]; simp only [Act.put]; rw [Array.getElem?_setIfInBounds_ne]; rintro rfl; exact aD aV
  rcases uE ab with ⟨t,_,aT⟩ | aT
  ·rcases hb c (.inl ⟨t,aT⟩) with gE | ⟨_,_,gE⟩
   ·exact .inl gE
   ·exact gE.elim
  ·exact .inl (gG c (gz c aT))
 | @N4 d x y g2 bd aV J hk az a8 jt =>
  have bf:=j9 h J bj
  have ib:=h.me.keep hk
  have jq:R w I (eg w T g2) y (a.eval x) cU:=(bf.frame (ρ':=fS w T) (λ_ _=>rfl) (λ_ h=>h) (λ_ _ h=>h.1) λ_ _=>rfl).bm az
  have na:=ib.sW (d:=d) (x:=y) (v:=a.eval x) (F:=cU) a8 (by rw [<- bj,bW]; exact dN.lt jt) (.tree jq) (λ_ _ h=>h.elim) (λ_ h=>h.elim) (by rintro z p n m new rfl; exact jq.k8.elim)
  have hW:(execOp a.eval o).run P w=.ok (.value (a.eval x)) w:=by simp [execOp,bd]
  unfold Oper.wp Oper.upon
  simp only [hW]
  refine et _ _ ⟨by rw [aV]; rfl,by rw [aV]; exact hG.put jt _ _,I,_,by rw [aV]; simpa [Act.put,bj] using na,⟨Fr.refl _ _,λ_ h=>h,λ_ h=>.inl h,λc ab=>?_⟩⟩ λt aD=>by rw [aV]; simp only [Act.put]; rw [Array.getElem?_setIfInBounds_ne]; rintro rfl; exact aD aV
  rcases uE ab with ⟨t,_,aT⟩ | aT
  ·exact .inl ⟨t,aT⟩
  ·exact aT.elim
 | @store t ad val p k z n y ke y' nd cs cs' g1 _ bd aV fX qQ aD o' ab aN aG gw hk bb xq tY k4 jO =>
  have oA:=j9 h qQ bj
  obtain ⟨⟨u,Vf,hu,tI,pY⟩,_⟩:=(j9 h fX bj).nh
  obtain ⟨gh,H0,rG,tG,Ft⟩:=aD.sound h.me (Hand.one oA)
  have zV:di ke:=aD.AG ke (by simp)
  obtain ⟨I',r4,oz,Fa,jb,iD,Si⟩:=J_ rG tG zV o'
  have mv:di y':=o'.bK zV
  have gG:∀ c,H0 0 c->∃ t,Fs t c:=λc ab=>by
   rcases Ft c (.inr ⟨0,by simp,ab⟩) with gE | ⟨_,_,gE⟩
   ·exact gE
   ·exact gE.elim
  have hb:∀ c,k' gh 1 (λ_=>r4) c->k' Fs [y].length (λ_=>cU) c:=by
   rintro c (⟨t,ab⟩ | ⟨_,_,ab⟩)
   ·exact Ft c (.inl ⟨t,ab⟩)
   ·exact .inl (gG c (Si c ab))
  obtain ⟨wO,Kl,FB,gO,Qx⟩:=iD.cells mv ab
  have k8:∀ z q n m new,nd≠.bX z q n m new:=by rcases gw with rfl | rfl <;> simp
  obtain ⟨v,cM,hv,dT,dC,_⟩:=jb.part aG k8
  rw [hu] at hv
  cases hv
  obtain ⟨b,gB,aH,_⟩:=dT.node gw (List.getElem?_eq_getElem (show k<cs.length by omega))
  rw [tI] at aH
  cases aH
  have ln:∃ e arr,w.heap[b]?=some (.cells arr e (0,0))/\cs.length<=arr.size:=by
   rcases gw with rfl | rfl
   ·cases dT with
    | ref J=>simp [ag.isRef] at J
    | own oC ao =>
     obtain ⟨mz,b9⟩:=oC
     rcases b9 with ⟨rfl,_⟩ | ⟨hJ,cap,cur,rfl,_,fP,uu,rS,uv,sZ⟩
     ·simp [addrOf] at tI
     ·simp only [addrOf,Option.some.injEq,Addr.mk.injEq,and_true] at tI
      subst tI
      refine ⟨_,cur,fP,?_⟩
      rw [ao,<- sZ,List.length_take]; simp; omega
   ·cases dT with
    | ref J=>simp [ag.isRef] at J
    | obj oC ao =>
     simp only [addrOf,Option.some.injEq,Addr.mk.injEq,and_true] at tI
     subst tI
     exact ⟨_,_,oC,by omega⟩
  obtain ⟨e,arr,ln,hle⟩:=ln
  obtain ⟨iZ,ib,gz⟩:=jb.store aG gw hk Kl FB gO xq tY k4 jO hu tI ln
  have hx:(a.eval val).cells.toList.length=cs'.length:=Kl.len.symm
  have cn:=run_storeCells_at P b k e (a.eval val).cells.toList 0 arr w ln (by omega) (λu hu=>by
   obtain ⟨ae,aa,rfl⟩:=List.mem_iff_getElem.1 hu
   exact gO ae _ (List.getElem?_eq_getElem aa))
  simp only [Nat.add_zero] at cn
  have gp:(sizeOf t).run P w=.ok cs'.length w:=by
   unfold gJ at aN
   cases hi:P.info? t with
   | none=>simp [hi] at aN
   | some i=>simp [hi] at aN; simp [sizeOf,typeInfo,hi,aN]
  have hW:(execOp a.eval o).run P w=.ok .skip (w.setRow b (fW arr.toList k (a.eval val).cells.toList).toArray):=by
   have hy:(a.eval val).cells.size=cs'.length:=by rw [<- Array.length_toList]; exact hx
   simp only [Nat.zero_add] at pY
   simp [execOp,bd,pY,Instr.storeAt,Instr.sureAddr,storeVar,gp,hy,cn,fW]
  unfold Oper.wp Oper.upon
  simp only [hW]
  have Fx:∃ t,Fs t b:=by
   rcases hb b (.inl ⟨_,dC b (dT.Df gw (ad:=⟨b,0,none⟩) tI)⟩) with aT | ⟨_,_,aT⟩
   ·exact aT
   ·exact aT.elim
  refine et _ _ ⟨by rw [aV]; rfl,by rw [aV]; exact hG.refl,I',iZ,by rw [aV]; simpa [Act.put,bj] using ib,⟨⟨rfl,rfl,rfl,by simp,λc _ ab=>setRow_other w b c _ (λe=>ab (e ▸ Fx)),λa _=>E1 w b _ a,Nat.le_refl _⟩,oz,λc ab=>(Fa c ab).elim .inl λh=>.inr (.inl (gG c h)),λc ⟨t,ab⟩=>?_⟩⟩ λt _=>by rw [aV]; rfl
  rcases gz t c ab with aT | ⟨ae,aa,aT⟩
  ·rcases hb c (.inl ⟨t,aT⟩) with gE | ⟨_,_,gE⟩
   ·exact .inl gE
   ·exact gE.elim
  ·rcases hb c (.inr ⟨0,by simp,Qx ae c aa aT⟩) with gE | ⟨_,_,gE⟩
   ·exact .inl gE
   ·exact gE.elim
theorem cj.sound (h:cY w I T g Fs) {a:Act}(bj:a.tmps=T) {N:dN}(bW:a.tmps.size=N.size) {o:Oper}{g':aY}(he:cj P N g o g') {K:Act->World->Prop}{Q:Exit->Act->World->Prop}
  (et:∀ cE w',h' N a w I Fs g' cE w'->K cE w'):o.wp P a w K Q:=he.mZ w I T Fs h a bj bW K Q λcE w' h _=>et cE w' h
end
end Go.Own
namespace Go.Own
open Go
def nN (g g':aY):Prop:=∀ t x,g t=some x->g' t=some x
section
variable {P:Program}{g g':aY}
theorem ft (h:nN g g') {x:Operand}{y:ag}(az:bP g x=some y):bP g' x=some y:=by
 cases x <;> simp only [bP] at az ⊢
 case tmp t =>
  cases J:g t with
  | none=>rw [J] at az; cases az
  | some z=>rw [J] at az; rw [h t z J]; exact az
 case const v=>exact az
 case global n=>exact az
 case func f=>exact az
theorem xT (h:nN g g'):∀ {xs:List Operand}{ys:List ag},iI g xs=some ys->iI g' xs=some ys
 | [],_,az=>az
 | x::xs,ys,az=>by
  simp only [iI] at az ⊢
  cases J:bP g x with
  | none=>simp [J] at az
  | some y =>
   cases qV:iI g xs with
   | none=>simp [J,qV] at az
   | some BI=>simp only [J,qV] at az; simp only [ft h J,xT h qV]; exact az
theorem L6 (h:nN g g'):∀ {l:List (Nat × Operand)}{ps:List (Nat × List ag)},q3 g l=some ps->q3 g' l=some ps
 | [],_,az=>az
 | (i,x)::l,ps,az=>by
  simp only [q3] at az ⊢
  cases J:bP g x with
  | none=>simp [J] at az
  | some y =>
   cases qV:q3 g l with
   | none=>simp [J,qV] at az
   | some BI=>simp only [J,qV] at az; simp only [ft h J,L6 h qV]; exact az
theorem oT.mono (h:nN g g') {d:Nat}{x:Option Operand}{ae:Nat}(aH:oT g d x ae):oT g' d x ae:=by
 cases x with
 | none=>exact aH
 | some o=>obtain ⟨k,hk⟩:=aH; exact ⟨k,ft h hk⟩
theorem dB.mono (h:nN g g') {op:Op}{ty:TypeId}{x:ag}(aG:dB P g op ty x):dB P g' op ty x:=by
 cases aG with
 | move J=>exact .move (ft h J)
 | assign J=>exact .assign (ft h J)
 | pick ab ax=>exact .pick (ft h ab) (ft h ax)
 | De J=>exact .De (ft h J)
 | pk J=>exact .pk (ft h J)
 | zs J bl e8=>exact .zs (ft h J) bl (e8.mono h)
 | Cu J bl=>exact .Cu (ft h J) bl
 | Ct J bl aD az=>exact .Ct (ft h J) bl aD az
 | EX J bl aD hk=>exact .EX (ft h J) bl aD hk
 | C1 J hi aD aa=>exact .C1 (ft h J) (ft h hi) aD aa
 | C0 J hi aD aa e8=>exact .C0 (ft h J) (ft h hi) aD aa (e8.mono h)
 | GD J hi aD aa e8=>exact .GD (ft h J) (ft h hi) aD aa (e8.mono h)
 | GC J hi aD aa e8=>exact .GC (ft h J) (ft h hi) aD aa (e8.mono h)
 | GB J hi aD aa=>exact .GB (ft h J) (ft h hi) aD aa
 | C_ J aD=>exact .C_ (ft h J) aD
 | C' J aD hk=>exact .C' (ft h J) aD hk
 | Az J aD az=>exact .Az (ft h J) aD (kz h az)
 | xJ J aD az ab hm=>exact .xJ (ft h J) aD (kz h az) ab hm
 | C2 J hi aD aH=>exact .C2 (ft h J) (ft h hi) aD aH
 | bin J az hv ax=>exact .bin (ft h J) (ft h az) hv ax
 | yS J az hv ax=>exact .yS (ft h J) (ft h az) hv ax
 | un J hv ax=>exact .un (ft h J) hv ax
 | conv J hv ax=>exact .conv (ft h J) hv ax
 | Cg J aG aL hy aD=>exact .Cg (ft h J) (kz h aG) aL hy aD
 | Ch J aD=>exact .Ch (ft h J) aD
 | @EO xs iz _ f vs v J hv ax =>
  refine .EO (vs:=vs) ?_ hv ax
  apply List.ext_getElem?
  intro k
  have:=congrArg (·[k]?) J
  simp only [List.getElem?_map] at this ⊢
  rw [<- this]
  cases hk:xs.toList[k]? with
  | none=>rfl
  | some o =>
   rw [hk] at this
   cases hv:vs[k]? with
   | none=>rw [hv] at this; cases this
   | some v =>
    rw [hv] at this
    simp only [Option.map_some,Option.some.injEq] at this ⊢
    rw [this,ft h this]
 | Cl J az=>exact .Cl (ft h J) az
 | Bs J ao b9 aD h1 al=>exact .Bs (ft h J) (ao.mono h) (b9.mono h) aD h1 al
 | HK J ao b9 aD aL e8=>exact .HK (ft h J) (ao.mono h) (b9.mono h) aD aL (e8.mono h)
 | DC J ao b9 aD h1 al e8=>exact .DC (ft h J) (ao.mono h) (b9.mono h) aD h1 al (e8.mono h)
 | DD J ao b9 aD h1 al=>exact .DD (ft h J) (ao.mono h) (b9.mono h) aD h1 al
 | Ax J aD=>exact .Ax (ft h J) aD
 | Aw J aD=>exact .Aw (ft h J) aD
 | G6 J aD=>exact .G6 (ft h J) aD
 | G3 J aD=>exact .G3 (ft h J) aD
 | C9 J aG az et bf ax=>exact .C9 (ft h J) (kz h aG) (ft h az) et bf ax
 | Ay J az et bf ax=>exact .Ay (ft h J) (ft h az) et bf ax
 | @lits b xs iz _ vs v J hv ax =>
  refine .lits (vs:=vs) ?_ hv ax
  clear ax
  generalize xs.toList=l at J
  induction l generalizing vs with
  | nil=>exact J
  | cons x l aS =>
   cases vs with
   | nil=>simp at J
   | cons v vs =>
    simp only [List.map_cons,List.cons.injEq] at J ⊢
    exact ⟨ft h J.1,aS J.2⟩
theorem oV.mono (h:nN g g') {op:Op}{ty:TypeId}{x:ag}(aG:oV P g op ty x):oV P g' op ty x:=by
 cases aG with
 | box J ab=>exact .box (ft h J) ab
 | alloc bM h1=>exact .alloc bM h1
 | makeMap bO=>exact .makeMap bO
 | buildSlice aD aG J bM ab aH aL hzero=>exact .buildSlice aD aG (xT h J) bM ab aH aL hzero
 | makeSlice aD J az hzero h1 n2 aH aL ny sP CZ=>exact .makeSlice aD (ft h J) (ft h az) hzero h1 n2 aH aL ny sP CZ
theorem ti.mono (h:nN g g') {op:Op}{ty:TypeId}{x:ag}(aG:ti P g op ty x):ti P g' op ty x:=by
 cases aG with
 | build aD bM h1 aG ab=>exact .build aD bM h1 (L6 h aG) ab
 | makeFunc bj aH=>exact .makeFunc (xT h bj) (xT h aH)
theorem Src.mono (h:nN g g') {y:ag}{z m:Nat}{cells:List ag}(aN:Src g y z m cells):Src g' y z m cells:=by
 cases aN with
 | aE=>exact .aE
 | aK=>exact .aK
 | bn bO hm=>exact .bn (kz h bO) hm
 | sub bO hm=>exact .sub (kz h bO) hm
theorem dE.mono (h:nN g g') {op:Op}{ty:TypeId}{x:ag}(aG:dE P g op ty x) (gI:∀ z p n m new,x=.bX z p n m new->∀ t cJ cX m' dj,g' t≠some (.bX cJ p cX m' dj)):dE P g' op ty x:=by
 cases aG with
 | fA aG=>exact .fA (aG.mono h)
 | p8 aG=>exact .p8 (aG.mono h)
 | Dk aG=>exact .Dk (aG.mono h)
 | lv aG =>
  cases aG with
  | grow aN e8 _ J qN aD pT aH=>exact .lv (.grow (ft h aN) (e8.mono h) (gI _ _ _ _ _ rfl) (ft h J) (qN.mono h) aD pT aH)
  | nil aN J qN aD pT aH=>exact .lv (.nil (ft h aN) (ft h J) (qN.mono h) aD pT aH)
theorem View.mono (h:nN g g') {x y:ag}(hv:View g x y):View g' x y:=by
 induction hv with
 | pk=>exact .pk
 | self h1 al aO b4 df eL=>exact .self h1 al aO b4 df eL
 | mp=>exact .mp
 | hD aG=>exact .hD (kz h aG)
 | agg ao _ aS=>exact .agg ao aS
 | own ao _ aS=>exact .own ao aS
 | obj ao _ aS=>exact .obj ao aS
 | er ao _ aS=>exact .er ao aS
 | bn aG aL ao _ aS=>exact .bn (kz h aG) aL ao aS
 | sub aG aL ao _ aS=>exact .sub (kz h aG) aL ao aS
 | ptr aG az hk ao _ aS=>exact .ptr (kz h aG) az hk ao aS
 | rows aG ao _ aS=>exact .rows (aG.mono (λaG=>kz h aG) h) ao aS
theorem cu.mono (h:nN g g') {op:Op}{x:ag}(aG:cu P g op x):cu P g' op x:=by
 cases aG with
 | plain ab J bl aL jc ax=>exact .plain (ft h ab) (xT h J) bl aL jc ax
 | C8 ab J bl ao hv jc ax=>exact .C8 (ft h ab) (xT h J) bl ao (λk x y J az=>(hv k x y J az).mono h) jc ax
def iQ (g:aY) (ops:Array Oper) (o:Oper) (b:Bool):Prop :=
 match o.guard with
 | none=>b=true
 | some (ae,want)=>∃ t,(ops[ae]?).bind (·.dst)=some t/\((∃ c,g t=some (.lit (.bool c))/\b=(c == want))\/(g t=some (.cB [])/\b=false))
theorem iQ.mono (h:nN g g') {ops:Array Oper}{o:Oper}{b:Bool}(hw:iQ g ops o b):iQ g' ops o b:=by
 unfold iQ at *
 split
 ·rename_i a8; rw [a8] at hw; exact hw
 ·rename_i ae want a8
  rw [a8] at hw
  obtain ⟨t,h1,⟨c,al,aO⟩ | ⟨al,aO⟩⟩:=hw
  ·exact ⟨t,h1,.inl ⟨c,h t _ al,aO⟩⟩
  ·exact ⟨t,h1,.inr ⟨h t _ al,aO⟩⟩
theorem iQ.sound {w:World}{I:br}{T:Array Value}{Fs:Nat->br}(bT:cY w I T g Fs) {ops:Array Oper}{o:Oper}{b:Bool}(hw:iQ g ops o b):Region.wanted o (yielded ops T)=b:=by
 unfold iQ at hw
 unfold Region.wanted
 split at hw
 ·rename_i a8; rw [a8]; exact hw.symm
 ·rename_i ae want a8
  rw [a8]
  obtain ⟨t,h1,⟨c,al,aO⟩ | ⟨al,aO⟩⟩:=hw
  ·obtain ⟨v,hv,bf⟩:=bT.rel _ _ al
   have:=(bf.hB (by simp)).ie.1
   subst this
   subst aO
   simp only [yielded,h1,Option.bind_some,hv]
   cases c <;> cases want <;> rfl
  ·obtain ⟨v,hv,bf⟩:=bT.rel _ _ al
   have:∃ vs,v=.tuple vs:=by
    cases bf.hB (by simp) with
    | cB=>exact ⟨_,rfl⟩
    | ref J=>simp [ag.isRef] at J
   obtain ⟨vs,rfl⟩:=this
   subst aO
   simp only [yielded,h1,Option.bind_some,hv]
   cases want <;> rfl
def oZ (P:Program) (g:aY) (ops:Array Oper) (o:Oper):Option ag->Prop
 | none=>iQ g ops o false
 | some x=>(iQ g ops o true/\(dE P g o.op o.type x\/cu P g o.op x))\/(iQ g ops o false/\x=.cB [])\/(iQ g ops o true/\∃ y,(dE P g o.op o.type y\/cu P g o.op y)/\di y/\View (λ_=>none) y x)
theorem oZ.mono (h:nN g g') {ops:Array Oper}{o:Oper}{r:Option ag}(aN:oZ P g ops o r) (gI:∀ z p n m new,r=some (.bX z p n m new)->∀ t cJ cX m' dj,g' t≠some (.bX cJ p cX m' dj)):oZ P g' ops o r:=by
 cases r with
 | none=>exact iQ.mono h aN
 | some x =>
  rcases aN with aN | ⟨aN,J⟩ | ⟨aN,y,aG,aL,hv⟩
  ·refine .inl ⟨aN.1.mono h,?_⟩
   rcases aN.2 with aG | aG
   ·exact .inl (aG.mono h λz p n m new e=>gI z p n m new (by rw [e]))
   ·exact .inr (aG.mono h)
  ·exact .inr (.inl ⟨aN.mono h,J⟩)
  ·refine .inr (.inr ⟨aN.mono h,y,?_,aL,hv⟩)
   rcases aG with aG | aG
   ·exact .inl (aG.mono h λz p n m new e=>by subst e; cases aL)
   ·exact .inr (aG.mono h)
def leaf:ag->Bool
 | .own .. | .obj .. | .agg .. | .cB .. | .bX .. | .mp ..=>false
 | _=>true
def del (g:aY) (d:Nat):aY:=λt=>if t=d then none else g t
theorem Ta {x y:ag}(h:leaf x=true):∀ {q:List Nat},x.at q=some y->y=x
 | [],az=>by simpa [ag.at] using az.symm
 | k::q,az=>by
  have:x.kids=[]:=by cases x <;> first | rfl | simp [leaf] at h
  simp [ag.at,this] at az
theorem w2 {d:Nat}{x:ag}(aV:g d=some x) (ao:leaf x=true) {p:Place}{y:ag}(aG:b7 g p=some y) (az:leaf y=false):b7 (del g d) p=some y:=by
 have ax:p.root≠d:=by
  intro e
  unfold b7 at aG
  rw [e,aV] at aG
  rw [Ta ao aG,ao] at az
  cases az
 simp only [b7,del,if_neg ax] at aG ⊢
 exact aG
theorem gD.del {d:Nat}{x:ag}(aV:g d=some x) (ao:leaf x=true) {r:ag}(h:gD g r):gD (del g d) r:=by
 have root:∀ {t:Nat}{y:ag},g t=some y->leaf y=false->Own.del g d t=some y:=by
  intro t y aD az
  have:t≠d:=by
   rintro rfl
   rw [aV] at aD
   cases aD
   rw [ao] at az; cases az
  simp only [Own.del,if_neg this,aD]
 cases r <;> simp only [gD] at h ⊢
 case ptr p k =>
  obtain ⟨y,az,z,n,cs,eN,hk⟩:=h
  exact ⟨y,w2 aV ao az (by rcases eN with rfl | rfl <;> rfl),z,n,cs,eN,hk⟩
 case bn z p n =>
  rcases h with ⟨N,cs,az,aL⟩ | ⟨h1,q,gY,m,new,al,aO⟩
  ·exact .inl ⟨N,cs,w2 aV ao az rfl,aL⟩
  ·exact .inr ⟨h1,q,gY,m,new,root al rfl,aO⟩
 case sub z p lo n =>
  obtain ⟨N,cs,az,aL⟩:=h
  exact ⟨N,cs,w2 aV ao az rfl,aL⟩
 case hD p=>obtain ⟨q,h⟩:=h; exact ⟨q,w2 aV ao h rfl⟩
 case bX z p n m new =>
  rcases h with ⟨cs,az⟩ | ⟨h1,q,gY,m,new,cs,al,aO,b4⟩
  ·exact .inl ⟨cs,w2 aV ao az rfl⟩
  ·exact .inr ⟨h1,q,gY,m,new,cs,root al rfl,aO,w2 aV ao b4 rfl⟩
theorem R.S' {w:World}{I:br}{ρ:ag->Value->Prop}{x:ag}{v:Value}{F:br}(h:R w I ρ x v F) (ao:leaf x=true):∀ c,¬ F c:=by
 cases h with
 | own | obj | agg | cB | mp=>simp [leaf] at ao
 | lit _ aR | aK aR | dead aR | ref _ _ aR | hQ aR | aE aR | bo aR | er aR | imp aR=>exact aR
theorem cY.drop {w:World}{I:br}{T:Array Value}{Fs:Nat->br}(h:cY w I T g Fs) {d:Nat}{x:ag}(aV:g d=some x) (ao:leaf x=true):cY w I T (del g d) Fs:=by
 refine ⟨λt y az=>?_,λt aD c ab=>?_,h.e5,h.aE,h.lt,λt dn z p n m new cJ cX m' dj h1 al=>?_⟩
 ·have mF:g t=some y:=by
   unfold del at az
   split at az
   ·cases az
   ·exact az
  obtain ⟨v,hv,bf⟩:=h.rel t y mF
  exact ⟨v,hv,bf.frame (λ_ _=>rfl) (λ_ h=>h) (λ_ _ ax=>⟨ax.1,ax.2.del aV ao⟩) (λ_ _ _ _ _ _ _=>rfl) λ_ _=>rfl⟩
 ·unfold del at aD
  split at aD
  ·rename_i e
   subst e
   obtain ⟨v,hv,bf⟩:=h.rel t x aV
   exact (bf.hB (by rintro z p n m new rfl; simp [leaf] at ao)).S' ao c ab
  ·exact h.kI t aD c ab
 ·have key:∀ {t:Nat}{y:ag},del g d t=some y->g t=some y:=by
   intro t y az
   unfold del at az
   split at az
   ·cases az
   ·exact az
  exact h.p_ _ _ _ _ _ _ _ _ _ _ _ (key h1) (key al)
end
end Go.Own
namespace Go.Own
open Go
def v' (g:aY) (d:Nat):Option ag->aY
 | some x=>e9 g d x
 | none=>g
section
variable {P:Program}{w:World}{I:br}{T:Array Value}{g:aY}{Fs:Nat->br}{N:dN}{ops:Array Oper}
theorem kQ.refl (w:World) (I U:br):kQ w I U w I U:=⟨Fr.refl _ _,λ_ h=>h,λ_ h=>.inl h,λ_ h=>.inl h⟩
theorem kQ.trans {w jx ik:World}{I yF BQ U wX Io:br}(h:kQ w I U jx yF wX) (h1:kQ jx yF wX ik BQ Io):kQ w I U ik BQ Io:=by
 have lQ:∀ c,c<w.heap.size->wX c->U c:=λc ab hu=>by
  rcases h.own c hu with aT | aT
  ·exact aT
  ·omega
 refine ⟨h.fE.trans h1.fE lQ,λc ab=>h1.more c (h.more c ab),λc ab=>?_,λc ab=>?_⟩
 ·rcases h1.new c ab with aT | aT | aT
  ·exact h.new c aT
  ·rcases h.own c aT with gE | gE
   ·exact .inr (.inl gE)
   ·exact .inr (.inr gE)
  ·exact .inr (.inr (Nat.le_trans h.fE.size aT))
 ·rcases h1.own c ab with aT | aT
  ·exact h.own c aT
  ·exact .inr (Nat.le_trans h.fE.size aT)
theorem h'.trans {N:dN}{a aw a2:Act}{jx ik:World}{yF:br}{gh:Nat->br}{g2:aY}(h1:aw.defers=a.defers) (al:hG N a.tmps aw.tmps) (cn:kQ w I (λc=>∃ t,Fs t c) jx yF (λc=>∃ t,gh t c)) (h:h' N aw jx yF gh g2 a2 ik):h' N a w I Fs g2 a2 ik:=by
 obtain ⟨dt,c3,BQ,iZ,bT,nA⟩:=h
 exact ⟨dt.trans h1,al.trans c3,BQ,iZ,bT,cn.trans nA⟩
theorem cY.TL (h:cY w I T g Fs) {d:Nat}(aV:g d=none) (v:Value):cY w I (T.setIfInBounds d v) g Fs:=by
 have fM:∀ t,g t≠none->(T.setIfInBounds d v)[t]?=T[t]?:=by
  intro t aD
  rw [Array.getElem?_setIfInBounds_ne]
  rintro rfl; exact aD aV
 refine ⟨λt x J=>?_,h.kI,h.e5,h.aE,h.lt,h.p_⟩
 obtain ⟨u,hu,bf⟩:=h.rel t x J
 exact ⟨u,by rw [fM t (by rw [J]; simp)]; exact hu,h.u_ fM (λ_ _ _=>rfl) (λ_ _=>rfl) (λ_ h=>h) (λ_ _ h=>h) bf λ_ _=>rfl⟩
structure DX (e7:Nat->Bool) (g g2:aY):Prop where
 lQ:∀ t x,g2 t=some x->e7 t=false->g t=some x/\e3 g2 x
 qW:∀ t x,g2 t=some x->e7 t=true->∃ y,g t=some y/\di y/\jA y x
 fO:∀ t z q n m new,g2 t≠some (.bX z q n m new)
theorem cY.tB (h:cY w I T g Fs) {e7:Nat->Bool}{g2:aY}(bM:DX e7 g g2):∃ I' cp,cY w I' T g2 cp/\kQ w I (λc=>∃ t,Fs t c) w I' (λc=>∃ t,cp t c):=by
 have CA:=h.me
 have AF:∀ t x,g2 t=some x->∀ z p n m new,x≠.bX z p n m new:=by
  rintro t x J z p n m new rfl
  exact bM.fO _ _ _ _ _ _ J
 -- of each slot what it owns from now on
 have:∀ t,∃ fK:br,(∀ c,fK c->Fs t c/\g2 t≠none)/\∀ x,g2 t=some x->(e7 t=false->∀ c,Fs t c->fK c)/\∃ v,T[t]?=some v/\R w (λc=>I c\/(Fs t c/\¬ fK c)) (eg w T g2) x v fK:=by
  intro t
  cases J:g2 t with
  | none=>exact ⟨cU,λ_ h=>h.elim,λx h=>by cases h⟩
  | some x =>
   cases aD:e7 t with
   | false =>
    obtain ⟨h1,al⟩:=bM.lQ t x J aD
    obtain ⟨v,hv,bf⟩:=CA.rel t x h1
    refine ⟨Fs t,λc ab=>⟨ab,by simp⟩,λy az=>?_⟩
    cases az
    exact ⟨λ_ _ h=>h,v,hv,((bf.hB (AF t x J)).bm al).nk λc ab=>.inl ab⟩
   | true =>
    obtain ⟨y,h1,al,aO⟩:=bM.qW t x J aD
    obtain ⟨v,hv,bf⟩:=CA.rel t y h1
    have jq:=bf.hB (by rintro z p n m new rfl; cases al)
    obtain ⟨fK,aN,QK⟩:=R.e7 aO jq al (λc ab=>CA.aE t c ab) CA.lt
    refine ⟨fK,λc ab=>⟨aN c ab,by simp⟩,λz bM=>?_⟩
    cases bM
    exact ⟨λh=>absurd h (by simp),v,hv,QK.bK (aO.bK al)⟩
 obtain ⟨cp,jo⟩:=Classical.axiomOfChoice this
 refine ⟨λc=>I c\/∃ t,Fs t c/\g2 t≠none/\¬ cp t c,cp,⟨λt x J=>?_,λt aD c ab=>((jo t).1 c ab).2 aD,λt dn c ab fu=>h.e5 t dn c ((jo t).1 c ab).1 ((jo dn).1 c fu).1,λt c ab hi=>?_,λc ab=>?_,λt dn z p n m new cJ cX m' dj h1 _=>absurd h1 (bM.fO _ _ _ _ _ _)⟩,Fr.refl _ _,λ_ h=>.inl h,λc ab=>?_,λc ⟨t,ab⟩=>.inl ⟨t,((jo t).1 c ab).1⟩⟩
 ·obtain ⟨_,v,hv,bf⟩:=(jo t).2 x J
  exact ⟨v,hv,.tree (bf.nk λc ab=>ab.elim .inl λab=>.inr ⟨t,ab.1,by rw [J]; simp,ab.2⟩)⟩
 ·rcases hi with aT | ⟨s,h1,_,al⟩
  ·exact h.aE t c ((jo t).1 c ab).1 aT
  ·have:=h.e5 t s c ((jo t).1 c ab).1 h1
   subst this
   exact al ab
 ·rcases ab with aT | ⟨s,aT,_⟩
  ·exact h.lt c aT
  ·exact h.jQ s c aT
 ·rcases ab with aT | ⟨s,aT,_⟩
  ·exact .inl aT
  ·exact .inr (.inl ⟨s,aT⟩)
theorem oZ.sound (h:cY w I T g Fs) {a:Act}(bj:a.tmps=T) (bW:a.tmps.size=N.size) {o:Oper}{r:Option ag}{d:Nat}(aN:oZ P g ops o r) (aV:o.dst=some d) (a8:g d=none) (jt:N.ok d=true) {K:Act->World->Prop}{Q:Exit->Act->World->Prop}
  (et:∀ cE w',h' N a w I Fs (v' g d r) cE w'->K cE w') :
  if Region.wanted o (yielded ops a.tmps) then o.wp P a w K Q\/(o.asks P a w/\LetsOut Q) else K (a.put o.dst undef) w:=by
 subst bj
 cases r with
 | none =>
  rw [iQ.sound h aN]
  simp only [Bool.false_eq_true,if_false]
  refine et _ _ ⟨by rw [aV]; rfl,by rw [aV]; exact hG.put jt _ _,I,Fs,by rw [aV]; exact h.TL a8 _,kQ.refl _ _ _⟩
 | some x =>
  have fin:∀ x v w',tf w I a.tmps g Fs x v w'->(∀ cE w',h' N a w I Fs (e9 g d x) cE w'->K cE w')->K (a.put o.dst v) w':=by
   rintro x v w' ⟨F,I',bT,bf,h1,al,aO,b4,df,eL⟩ et
   refine et _ _ ⟨by rw [aV]; rfl,by rw [aV]; exact hG.put jt _ _,I',_,by rw [aV]; exact bT.sW a8 (by rw [bW]; exact dN.lt jt) bf (λt c ab bl=>h1 t c ab bl) (λc ab=>(al c ab).2) eL,⟨df,aO,λc ab=>?_,λc ab=>?_⟩⟩
   ·rcases b4 c ab with aT | aT
    ·exact .inl aT
    ·exact .inr (.inr aT)
   ·rcases uE ab with aT | aT
    ·exact .inl aT
    ·exact .inr (al c aT).1
  have qW:∀ y v w',di y->View (λ_=>none) y x->tf w I a.tmps g Fs y v w'->tf w I a.tmps g Fs x v w':=by
   rintro y v w' aL hv ⟨F,I',bT,bf,h1,al,aO,b4,df,eL⟩
   have dT:=bf.hB (by rintro z p n m new rfl; cases aL)
   refine ⟨cU,λc=>I' c\/F c,⟨λt z bM=>?_,bT.kI,bT.e5,λt c ab hi=>?_,λc ab=>?_,bT.p_⟩,.tree (dT.qW aL hv (λc ab=>(al c ab).2) bT.lt),λ_ _ h=>h.elim,λ_ h=>h.elim,λc ab=>.inl (aO c ab),λc ab=>?_,df,?_⟩
   ·obtain ⟨u,hu,mn⟩:=bT.rel t z bM
    exact ⟨u,hu,mn.nk λc ab=>.inl ab⟩
   ·rcases hi with h | h
    ·exact bT.aE t c ab h
    ·exact h1 t c h ab
   ·rcases ab with h | h
    ·exact bT.lt c h
    ·exact dT.lt c h
   ·rcases ab with h | h
    ·exact b4 c h
    ·exact .inr (al c h).1
   ·rintro z p n m new rfl
    cases hv with
    | self h=>cases h
  rcases aN with aN | ⟨aN,rfl⟩ | ⟨aN,y,aG,aL,hv⟩
  rotate_left
  rotate_left
  ·rw [iQ.sound h aN]
   simp only [if_true]
   refine .inl ?_
   have J8:∀ v w',tf w I a.tmps g Fs y v w'->K (a.put o.dst v) w':=λv w' ea=>fin x v w' (qW y v w' aL hv ea) et
   rcases aG with aG | aG
   ·obtain ⟨v,w',hW,ea⟩:=aG.sound h rfl
    unfold Oper.wp Oper.upon
    simp only [hW]
    exact J8 v w' ea
   ·exact aG.sound h rfl J8
  rotate_left
  ·rw [iQ.sound h aN]
   simp only [Bool.false_eq_true,if_false]
   refine et _ _ ⟨by rw [aV]; rfl,by rw [aV]; exact hG.put jt _ _,I,_,by rw [aV]; exact h.sW a8 (by rw [bW]; exact dN.lt jt) (.tree (.cB (Fs:=λ_=>cU) (F:=cU) rfl (λk x u J _=>by simp at J) (λ_ _ _ _ _ h=>h.elim) (λc=>⟨λh=>h.elim,λ⟨_,_,h⟩=>h⟩))) (λ_ _ h=>h.elim) (λ_ h=>h.elim) (λ_ _ _ _ _ e=>by cases e),⟨Fr.refl _ _,λ_ h=>h,λ_ h=>.inl h,λc ab=>?_⟩⟩
   rcases uE ab with aT | aT
   ·exact .inl aT
   ·exact aT.elim
  rw [iQ.sound h aN.1]
  simp only [if_true]
  refine .inl ?_
  have fin:∀ v w',tf w I a.tmps g Fs x v w'->K (a.put o.dst v) w':=by
   rintro v w' ⟨F,I',bT,bf,h1,al,aO,b4,df,eL⟩
   refine et _ _ ⟨by rw [aV]; rfl,by rw [aV]; exact hG.put jt _ _,I',_,by rw [aV]; exact bT.sW a8 (by rw [bW]; exact dN.lt jt) bf (λt c ab bl=>h1 t c ab bl) (λc ab=>(al c ab).2) eL,⟨df,aO,λc ab=>?_,λc ab=>?_⟩⟩
   ·rcases b4 c ab with aT | aT
    ·exact .inl aT
    ·exact .inr (.inr aT)
   ·rcases uE ab with aT | aT
    ·exact .inl aT
    ·exact .inr (al c aT).1
  rcases aN.2 with aG | aG
  ·obtain ⟨v,w',hW,ea⟩:=aG.sound h rfl
   unfold Oper.wp Oper.upon
   simp only [hW]
   exact fin v w' ea
  ·exact aG.sound h rfl fin
inductive nP (P:Program) (N:dN) (ops:Array Oper):List Nat->aY->aY->Prop
 | nil {g:aY}:nP P N ops [] g g
 | step {i:Nat}{rest:List Nat}{g g':aY}{o:Oper}{d:Nat}{r:Option ag}(bd:ops[i]?=some o) (aV:o.dst=some d) (a8:g d=none) (jt:N.ok d=true) (aN:oZ P g ops o r)
   (ax:nP P N ops rest (v' g d r) g'):nP P N ops (i::rest) g g'
 | mZ {i:Nat}{rest:List Nat}{g g1 g':aY}{o:Oper}(bd:ops[i]?=some o) (hw:iQ g ops o true) (he:cj P N g o g1) (ax:nP P N ops rest g1 g'):nP P N ops (i::rest) g g'
 | drop {is:List Nat}{g g':aY}{d:Nat}{x:ag}(aV:g d=some x) (ao:leaf x=true) (ax:nP P N ops is (del g d) g'):nP P N ops is g g'
 | forget {is:List Nat}{g g1 g':aY}(hk:hI g g1) (ax:nP P N ops is g1 g'):nP P N ops is g g'
 | tB {is:List Nat}{g g1 g':aY}{e7:Nat->Bool}(hk:DX e7 g g1) (ax:nP P N ops is g1 g'):nP P N ops is g g'
theorem nP.sound {is:List Nat}{g':aY}(ax:nP P N ops is g g'):∀ {a:Act}{w:World}{I:br}{Fs:Nat->br}{Q:Exit->Act->World->Prop},cY w I a.tmps g Fs->a.tmps.size=N.size ->
  (∀ cE w',h' N a w I Fs g' cE w'->Q .normal cE w')->wpOps P ops Q is a w:=by
 induction ax with
 | nil=>exact λbT bW dX=>dX _ _ ⟨rfl,hG.refl,_,_,bT,kQ.refl _ _ _⟩
 | @step i rest g g' o d r bd aV a8 jt aN _ aS =>
  intro a w I Fs Q bT bW dX
  simp only [wpOps,bd]
  refine aN.sound bT rfl bW aV a8 jt λcE w' aL=>?_
  obtain ⟨dt,c3,I',cp,eB,cn⟩:=aL
  exact aS eB (c3.1.trans bW) λa2 ik al=>dX _ _ (h'.trans dt c3 cn al)
 | @mZ i rest g g1 g' o bd hw he _ aS =>
  intro a w I Fs Q bT bW dX
  simp only [wpOps,bd,hw.sound bT,if_true]
  refine .inl (he.sound bT rfl bW λcE w' aL=>?_)
  obtain ⟨dt,c3,I',cp,eB,cn⟩:=aL
  exact aS eB (c3.1.trans bW) λa2 ik al=>dX _ _ (h'.trans dt c3 cn al)
 | @drop is g g' d x aV ao _ aS=>exact λbT bW dX=>aS (bT.drop aV ao) bW dX
 | @tB is g g1 g' e7 hk _ aS =>
  intro a w I Fs Q bT bW dX
  obtain ⟨I',cp,eB,cn⟩:=bT.tB hk
  exact aS eB bW λa2 ik al=>dX _ _ (h'.trans rfl hG.refl cn al)
 | @forget is g g1 g' hk _ aS =>
  intro a w I Fs Q bT bW dX
  have eB:=bT.me.keep hk
  refine aS eB bW λa2 ik al=>dX _ _ (h'.trans rfl hG.refl ⟨Fr.refl _ _,λ_ h=>h,λ_ h=>.inl h,λc ab=>?_⟩ al)
  obtain ⟨t,_,ab⟩:=ab
  exact .inl ⟨t,ab⟩
end
end Go.Own
namespace Go.Own
open Go
def q5 (rs:List Nat):Place->Prop:=λp=>p.root∈rs
def oU (P:Program) (N:dN) (rs:Place->Prop) (g:aY) (o:Oper) (g':aY):Prop :=
 ∀ (w:World) (I:br) (T:Array Value) (Fs:Nat->br),cY w I T g Fs->∀ (a:Act),a.tmps=T->a.tmps.size=N.size->∀ (K:Act->World->Prop) (Q:Exit->Act->World->Prop),
  (∀ (cE:Act) (w':World),h' N a w I Fs g' cE w'->(∀ t,o.dst≠some t->cE.tmps[t]?=a.tmps[t]?)->(∀ r path,rs ⟨r,path⟩->∀ y,b7 g ⟨r,path⟩=some y->(∀ z q n m new,y≠.bX z q n m new)->ed w' cE.tmps ⟨r,path⟩=ed w T ⟨r,path⟩)->K cE w')->o.wp P a w K Q
theorem kO.v {P:Program}{N:dN}{g g':aY}{o:Oper}(h:kO P N g o g'):oU P N (q5 []) g o g' :=
 λw I T Fs bT a bj bW K Q et=>h w I T Fs bT a bj bW K Q λcE w' h1 al=>et cE w' h1 al λ_ _ h=>by simp [q5] at h
inductive oW:ag->Prop
 | lit {v:Value}:oW (.lit v)
 | aK:oW .aK
 | aE {z n:Nat}{cs:List ag}(h:∀ x∈cs,di x):oW (.aE z n cs)
 | agg {cs:List ag}(h:∀ x∈cs,oW x):oW (.agg cs)
theorem oW.bK {x:ag}(h:oW x):di x:=by
 induction h with
 | lit=>exact .lit
 | aK=>exact .aK
 | aE h=>exact .aE h
 | agg _ aS=>exact .agg aS
theorem oW.kI {w:World}{I:br}{ρ:ag->Value->Prop}{x:ag}(h:oW x):∀ {v:Value}{F:br},R w I ρ x v F->∀ c,¬ F c:=by
 induction h with
 | lit =>
  intro v F bf
  cases bf with
  | lit _ aR=>exact aR
  | ref J=>simp [ag.isRef] at J
 | aK =>
  intro v F bf
  cases bf with
  | aK aR=>exact aR
  | ref J=>simp [ag.isRef] at J
 | aE =>
  intro v F bf
  cases bf with
  | ref J=>simp [ag.isRef] at J
  | hQ aR=>exact aR
  | aE aR=>exact aR
 | @agg cs _ aS =>
  intro v F bf c ab
  cases bf with
  | ref J=>simp [ag.isRef] at J
  | @agg _ vs bS _ ao h1 ax aV k1 =>
   obtain ⟨k,hk,al⟩:=(k1 c).1 ab
   have hu:vs[k]?=some (vs[k]'(by omega)):=Array.getElem?_eq_getElem (by omega)
   exact aS _ (List.getElem_mem hk) (ax k _ _ (List.getElem?_eq_getElem hk) hu) c al
structure DU (g:aY):Prop where
 bm:∀ t x,g t=some x->e3 g x
 fO:∀ t z q n m new,g t≠some (.bX z q n m new)
def yO (rs:Place->Prop) (g g1:aY) (o:Oper) (x:ag):Prop:=(∃ r path z n N cs,x=.bn z ⟨r,path⟩ n/\rs ⟨r,path⟩/\b7 g ⟨r,path⟩=some (.own z N cs)/\b7 g1 ⟨r,path⟩=some (.own z N cs)/\n<=N)\/(∃ v,x=.lit v)\/(∃ s p k,x=.ptr p k/\g s=some x/\g1 s=some x/\o.dst≠some s)\/(∃ r k cs,x=.ptr ⟨r,[]⟩ k/\g1 r=some (.obj cs)/\k<cs.length/\o.dst≠some r/\∃ cs',g r=some (.obj cs')/\k<cs'.length)\/(∃ z n cs,x=.aE z n cs/\di x)\/(∃ cs,x=.agg cs/\oW x/\DU g)
section
variable {P:Program}{N:dN}{g g1:aY}{o:Oper}
theorem MC {T:Array Value}{t:Nat}{v:Value}(h:T[t]?=some v):T.setIfInBounds t v=T:=by
 apply Array.ext (by simp)
 intro i h1 al
 rw [Array.getElem_setIfInBounds]
 split
 ·rename_i e
  subst e
  have:=(Array.getElem?_eq_some_iff.1 h)
  exact this.2.symm
 ·rfl
theorem cY.Pv {w:World}{I:br}{T:Array Value}{Fs:Nat->br}{t:Nat}{x:ag}(h:cY w I T (e9 g t x) Fs) (a8:g t=none) (ab:DU g) (kZ:∀ c,¬ Fs t c):cY w I T g Fs:=by
 have gz:∀ s y,g s=some y->e9 g t x s=some y:=λs y aN=>by
  unfold e9
  rw [if_neg (λe=>by rw [e,a8] at aN; cases aN)]; exact aN
 have al:=h.me.keep (g2:=g) ⟨gz,ab.bm,ab.fO⟩
 have e:(λs c=>g s≠none/\Fs s c)=Fs:=by
  funext s c
  apply propext
  refine ⟨λh=>h.2,λbl=>⟨λaL=>?_,bl⟩⟩
  by_cases aN:s=t
  ·subst aN; exact kZ c bl
  ·exact h.kI s (by unfold e9; rw [if_neg aN]; exact aL) c bl
 rw [e] at al
 exact al
theorem oU.extra {rs:Place->Prop}(h:oU P N rs g o g1) {t:Nat}{x:ag}(lN:∀ p,rs p->g p.root≠none) (a8:g t=none) (RA:g1 t=none) (aD:o.dst≠some t) (J:yO rs g g1 o x):oU P N rs (e9 g t x) o (e9 g1 t x):=by
 intro w I T Fs bT a bj bW K Q et
 have Gg:e9 g t x t=some x:=by simp [e9]
 have k4:∀ z q n m new,x≠.bX z q n m new:=by
  rcases J with ⟨r,path,z,n,N,cs,rfl,_⟩ | ⟨v,rfl⟩ | ⟨s,p,k,rfl,_⟩ | ⟨r,k,cs,rfl,_⟩ | ⟨z,n,cs,rfl,_⟩ | ⟨cs,rfl,_⟩ <;> simp
 have rG:cY w I T g Fs:=by
  have yU:leaf x=true->cY w I T g Fs:=λxu=>by
   have:=bT.drop Gg xu
   have e:del (e9 g t x) t=g:=by
    funext s
    unfold del e9
    by_cases aN:s=t
    ·subst aN; simp [a8]
    ·simp [aN]
   rwa [e] at this
  rcases J with ⟨r,path,z,n,N,cs,rfl,_⟩ | ⟨v,rfl⟩ | ⟨s,p,k,rfl,_⟩ | ⟨r,k,cs,rfl,_⟩ | ⟨z,n,cs,rfl,_⟩ | ⟨cs,rfl,sF,hx⟩
  ·exact yU rfl
  ·exact yU rfl
  ·exact yU rfl
  ·exact yU rfl
  ·exact yU rfl
  ·obtain ⟨v,_,oA⟩:=bT.rel t _ Gg
   exact bT.Pv a8 hx (sF.kI (oA.hB (by simp)))
 obtain ⟨v,hv,oA⟩:=bT.rel t x Gg
 refine h w I T Fs rG a bj bW K Q λcE w' aL rM Lm=>et cE w' ?_ rM λr path ax y az k4=>?_
 rotate_left
 ·by_cases La:r=t
  ·subst La
   exact absurd a8 (lN _ ax)
  ·exact Lm r path ax y (by simpa [b7,e9,La] using az) k4
 obtain ⟨dt,c3,I',cp,eB,cn⟩:=aL
 have iy:cE.tmps[t]?=some v:=by rw [rM t aD,bj]; exact hv
 have jq:jD w' I' (eg w' cE.tmps g1) x v cU:=by
  rcases J with ⟨r,path,z,n,th,cs,rfl,ax,xy,jN,RU⟩ | ⟨u,rfl⟩ | ⟨s,p,k,rfl,aN,Ga,Sc⟩ | ⟨r,k,cs,rfl,jN,hk,z_,_⟩ | ⟨z,n,cs,rfl,mv⟩ | ⟨cs,rfl,sF,hx⟩
  ·obtain ⟨⟨aw,i_,cap,hK,rfl,lg⟩,_⟩:=(oA.hB (by simp)).mG
   exact .tree (.ref rfl ⟨⟨aw,i_,cap,by rw [Lm r path ax _ xy (by simp)]; exact hK,rfl,lg⟩,.inl ⟨th,cs,jN,RU⟩⟩ λ_ h=>h)
  ·obtain ⟨rfl,ab⟩:=(oA.hB (by simp)).ie
   exact .tree (.lit ab λ_ h=>h)
  ·obtain ⟨⟨Bx,ad,aw,a2,rfl⟩,_⟩:=(oA.hB (by simp)).nh
   have cn:s≠t:=by rintro rfl; rw [a8] at aN; cases aN
   obtain ⟨u,hu,mn⟩:=rG.rel s _ aN
   obtain ⟨⟨Wr,Ve,hK,iq,rfl⟩,_⟩:=(mn.hB (by simp)).nh
   rw [aw] at hK
   cases hK
   rw [a2] at iq
   cases iq
   obtain ⟨s9,fN,Fh⟩:=eB.rel s _ Ga
   have:cE.tmps[s]?=T[s]?:=by rw [rM s Sc,bj]
   rw [this,hu] at fN
   cases fN
   exact .tree (.ref rfl (Fh.hB (by simp)).nh λ_ h=>h)
  ·obtain ⟨⟨Bx,ad,aw,a2,rfl⟩,_⟩:=(oA.hB (by simp)).nh
   have fM:cE.tmps[r]?=T[r]?:=by rw [rM r z_,bj]
   have qQ:∀ (w:World) (T:Array Value),ed w T ⟨r,[]⟩=T[r]?:=λw T=>by
    unfold ed; simp only; cases T[r]? <;> rfl
   exact .tree (.ref rfl ⟨⟨Bx,ad,by rw [qQ,fM,<- qQ w T]; exact aw,a2,rfl⟩,⟨.obj cs,by simp [b7,jN,ag.at],0,0,cs,.inr rfl,hk⟩⟩ λ_ h=>h)
  ·have q6:∀ c,I c->w'.heap[c]?=w.heap[c]?:=λc ab=>cn.fE.block c (bT.lt c ab) λ⟨dn,aT⟩=>rG.aE dn c aT ab
   have Fe:=(oA.hB (by simp)).bK mv (ρ':=eg w' cE.tmps g1)
   have kZ:∀ c,¬ Fs t c:=by
    cases oA.hB (by simp) with
    | ref J=>simp [ag.isRef] at J
    | hQ aR=>exact aR
    | aE aR=>exact aR
   exact .tree ((Fe.frame q6 cn.more (λ_ _ h=>h) λc ab=>absurd ab (kZ c)).empty kZ)
  ·have q6:∀ c,I c->w'.heap[c]?=w.heap[c]?:=λc ab=>cn.fE.block c (bT.lt c ab) λ⟨dn,aT⟩=>rG.aE dn c aT ab
   have kZ:=sF.kI (oA.hB (by simp))
   have Fe:=(oA.hB (by simp)).bK sF.bK (ρ':=eg w' cE.tmps g1)
   exact .tree ((Fe.frame q6 cn.more (λ_ _ h=>h) λc ab=>absurd ab (kZ c)).empty kZ)
 have na:=eB.sW (d:=t) (x:=x) (v:=v) (F:=cU) RA (Array.getElem?_eq_some_iff.1 iy).1 jq (λ_ _ h=>h.elim) (λ_ h=>h.elim) (λz p n m new e=>absurd e (k4 _ _ _ _ _))
 rw [MC iy] at na
 refine ⟨dt,c3,I',_,na,⟨cn.fE,cn.more,cn.new,λc ab=>?_⟩⟩
 rcases uE ab with aT | aT
 ·exact cn.own c aT
 ·exact aT.elim
theorem kO.frame {g0 E2:aY}{r:Nat}{x:ag}(h:kO P N g0 o E2) (ax:g r=some x) (J:di x) (hk:hI g g0) (bb:g0 r=none) (h1:E2 r=none) (aV:o.dst≠some r):oU P N (q5 [r]) g o (e9 E2 r x):=by
 intro w I T Fs bT a bj bW K Q et
 have rG:=bT.me.keep hk
 refine h w I T _ rG a bj bW K Q λcE w' aL rM=>?_
 obtain ⟨dt,c3,I',cp,eB,cn⟩:=aL
 obtain ⟨u,hu,bf⟩:=bT.rel r x ax
 have fN:cE.tmps[r]?=some u:=by rw [rM r aV,bj]; exact hu
 have k4:∀ z q n m new,x≠.bX z q n m new:=by rintro z q n m new rfl; cases J
 have off:∀ c,Fs r c->¬ ∃ t,(g0 t≠none/\Fs t c):=by
  rintro c ab ⟨t,j_,al⟩
  have:=bT.e5 t r c al ab
  subst this
  exact j_ bb
 have same:∀ c,Fs r c->w'.heap[c]?=w.heap[c]?:=λc ab=>cn.fE.block c (bT.jQ r c ab) (off c ab)
 have q6:∀ c,I c->w'.heap[c]?=w.heap[c]?:=λc ab=>cn.fE.block c (bT.lt c ab) λ⟨t,_,aT⟩=>bT.aE t c aT ab
 have na:=eB.sW (d:=r) (x:=x) (v:=u) (F:=Fs r) h1 (Array.getElem?_eq_some_iff.1 fN).1 (.tree (((bf.hB k4).bK J).frame q6 cn.more (λ_ _ h=>h) same)) (λt c ab bl=>by
   rcases cn.own c ⟨t,bl⟩ with aT | aT
   ·exact off c ab aT
   ·have:=bT.jQ r c ab; omega) (λc ab hi=>by
   rcases cn.new c hi with aT | aT | aT
   ·exact bT.aE r c ab aT
   ·exact off c ab aT
   ·have:=bT.jQ r c ab; omega) (λz p n m new e=>absurd e (k4 _ _ _ _ _))
 rw [MC fN] at na
 refine et cE w' ⟨dt,c3,I',_,na,⟨cn.fE.mono λb _ ⟨t,_,aT⟩=>⟨t,aT⟩,cn.more,λc ab=>?_,λc ab=>?_⟩⟩ rM λfc path eY y az hyp=>?_
 ·rcases cn.new c ab with aT | ⟨t,_,aT⟩ | aT
  ·exact .inl aT
  ·exact .inr (.inl ⟨t,aT⟩)
  ·exact .inr (.inr aT)
 ·rcases uE ab with aT | aT
  ·rcases cn.own c aT with ⟨t,_,gE⟩ | gE
   ·exact .inl ⟨t,gE⟩
   ·exact .inr gE
  ·exact .inl ⟨r,aT⟩
 ·have eY:fc∈[r]:=eY
  simp only [List.mem_singleton] at eY
  subst eY
  have gN:hI g (λt=>if t=fc then some x else none):=by
   refine ⟨λt y lh=>?_,λt y lh=>?_,λt z q n m new lh=>?_⟩
   all_goals
    by_cases e:t=fc
    case neg=>simp [e] at lh
   ·subst e; simp at lh; subst lh; exact ax
   ·subst e; simp at lh; subst lh; exact .bK J
   ·subst e; simp at lh; exact k4 _ _ _ _ _ lh
  refine (bT.me.keep gN).wz (T':=cE.tmps) (λt aD=>?_) (λt c ab=>?_) (p:=⟨fc,path⟩) (y:=y) ?_
  ·by_cases e:t=fc
   ·subst e; rw [rM t aV,bj]
   ·simp [e] at aD
  ·by_cases e:t=fc
   ·subst e; exact same c ab.2
   ·simp [e] at ab
  ·simp only [b7,if_true]
   simpa [b7,ax] using az
end
end Go.Own
namespace Go.Own
open Go
abbrev Acc:=List (Nat × Nat × Option ag)
def eh (g0:aY) (A:Nat->Bool):Acc->aY
 | [],t=>g0 t
 | (k,d,r)::acc,t=>if d=t then (if A k then r else none) else eh g0 A acc t
def l9:Nat × Nat × Option ag->Option Place
 | (_,_,some (.bX _ p _ _ _))=>some p
 | _=>none
def rm (ops:Array Oper) (ca:List (List Nat)):Bool :=
 (List.range ops.size).all λk =>
  match ops[k]? with
  | none=>true
  | some o=>(o.after.all λe=>!Region.binds .any e||decide (e.on<k))&&(ca.getD k []).all λm=>decide (m<k)&&o.after.any λe=>Region.binds .any e&&(e.on == m||(ca.getD e.on []).contains m)
inductive iP (P:Program) (N:dN) (ops:Array Oper) (ca:List (List Nat)) (g0:aY) (i:Nat) (ep:Acc):Nat->Acc->Prop
 | nil:iP P N ops ca g0 i ep i ep
 | step {ae:Nat}{acc:Acc}{o:Oper}{d:Nat}{r:Option ag}(h:iP P N ops ca g0 i ep ae acc) (bd:ops[ae]?=some o) (aV:o.dst=some d) (a8:g0 d=none) (aL:∀ e∈acc,e.2.1≠d) (jt:N.ok d=true)
   (aN:oZ P (eh g0 (λm=>(ca.getD ae []).contains m) acc) ops o r):iP P N ops ca g0 i ep (ae+1) ((ae,d,r)::acc)
structure mT (P:Program) (N:dN) (ops:Array Oper) (ca:List (List Nat)) (g0:aY) (i:Nat) (ep:Acc):Prop where
 lt:∀ e∈ep,e.1<i
 free:∀ e∈ep,g0 e.2.1=none
 nd:(ep.map (·.2.1)).Nodup
 MZ:∀ e∈ep,∀ cW∈ep,(e.1=cW.1\/e.2.1=cW.2.1)->e=cW
 st:∀ e∈ep,∃ ig,ops[e.1]?=some ig/\ig.dst=some e.2.1/\N.ok e.2.1=true/\oZ P (eh g0 (λm=>(ca.getD e.1 []).contains m) ep) ops ig e.2.2
theorem mT.nil {P:Program}{N:dN}{ops:Array Oper}{ca:List (List Nat)}{g0:aY}{i:Nat}:mT P N ops ca g0 i []:=⟨by simp,by simp,by simp,by simp,by simp⟩
inductive rh (P:Program) (N:dN) (ops:Array Oper) (ca:List (List Nat)):Nat->Acc->aY->aY->Prop
 | fin {i:Nat}{ep:Acc}{g:aY}{acc:Acc}(aN:iP P N ops ca g i ep ops.size acc) (hz:(acc.filterMap l9).Nodup) (iU:∀ t z q n m new,g t≠some (.bX z q n m new)):rh P N ops ca i ep g (eh g (λ_=>true) acc)
 | w3 {i ae:Nat}{g g1 g':aY}{ep acc U:Acc}{o:Oper}{rs:Place->Prop}(aN:iP P N ops ca g i ep ae acc) (hz:(acc.filterMap l9).Nodup) (iU:∀ t z q n m new,g t≠some (.bX z q n m new)) (bd:ops[ae]?=some o) (hw:iQ (eh g (λm=>(ca.getD ae []).contains m) acc) ops o true)
   (he:oU P N rs (eh g (λm=>(ca.getD ae []).contains m) acc) o g1) (lN:∀ p,rs p->g p.root≠none) (gG:U=acc.filter λe=>!(ca.getD ae []).contains e.1) (J:∀ e∈U,∃ x,e.2.2=some x/\yO rs (eh g (λm=>(ca.getD ae []).contains m) acc) g1 o x) (h1:∀ e∈U,g1 e.2.1=none/\o.dst≠some e.2.1)
   (al:∀ e∈U,∃ ig,ops[e.1]?=some ig/\ig.dst=some e.2.1/\N.ok e.2.1=true/\oZ P (eh g1 (λm=>(ca.getD e.1 []).contains m) U) ops ig e.2.2)
   (aH:(List.range ops.size).all (λk=>decide (k<=ae)||(ca.getD k []).contains ae)=true) (ax:rh P N ops ca (ae+1) U g1 g'):rh P N ops ca i ep g g'
theorem lB {g0:aY}{A:Nat->Bool}{acc:Acc}{t:Nat}(h:∀ e∈acc,e.2.1≠t):eh g0 A acc t=g0 t:=by
 induction acc with
 | nil=>rfl
 | cons e acc aS =>
  obtain ⟨k,d,r⟩:=e
  simp only [eh]
  rw [if_neg (h (k,d,r) (by simp)),aS λe he=>h e (by simp [he])]
theorem s' {g0:aY}{A:Nat->Bool}{acc:Acc}{t:Nat}{x:ag}(h:eh g0 A acc t=some x):(∃ e∈acc,e.2.1=t/\A e.1=true/\e.2.2=some x)\/((∀ e∈acc,e.2.1≠t)/\g0 t=some x):=by
 induction acc with
 | nil=>exact .inr ⟨by simp,h⟩
 | cons e acc aS =>
  obtain ⟨k,d,r⟩:=e
  simp only [eh] at h
  by_cases aV:d=t
  ·rw [if_pos aV] at h
   by_cases eT:A k=true
   ·rw [if_pos eT] at h; exact .inl ⟨(k,d,r),by simp,aV,eT,h⟩
   ·rw [if_neg eT] at h; cases h
  ·rw [if_neg aV] at h
   rcases aS h with ⟨e,he,r⟩ | ⟨h1,al⟩
   ·exact .inl ⟨e,by simp [he],r⟩
   ·refine .inr ⟨λe he=>?_,al⟩
    rcases List.mem_cons.1 he with rfl | he
    ·exact aV
    ·exact h1 e he
theorem HS {g:aY}{A:Nat->Bool}{acc:Acc}(hu:∀ e∈acc,∀ cW∈acc,e.2.1=cW.2.1->e=cW) {e:Nat × Nat × Option ag}(he:e∈acc):eh g A acc e.2.1=if A e.1 then e.2.2 else none:=by
 induction acc with
 | nil=>cases he
 | cons a acc aS =>
  obtain ⟨k,d,r⟩:=a
  simp only [eh]
  by_cases aV:d=e.2.1
  ·have:=hu (k,d,r) (by simp) e he aV
   subst this
   simp
  ·rw [if_neg aV]
   rcases List.mem_cons.1 he with rfl | he
   ·exact absurd rfl aV
   ·exact aS (λx J y az=>hu x (by simp [J]) y (by simp [az])) he
section
variable {P:Program}{N:dN}{ops:Array Oper}{ca:List (List Nat)}{g0:aY}{i:Nat}
variable {ep:Acc}
theorem iP.le {ae:Nat}{acc:Acc}(h:iP P N ops ca g0 i ep ae acc) (gG:mT P N ops ca g0 i ep):i<=ae/\∀ e∈acc,e.1<ae:=by
 induction h with
 | nil=>exact ⟨Nat.le_refl _,gG.lt⟩
 | step _ _ _ _ _ _ _ aS =>
  refine ⟨by omega,λe he=>?_⟩
  rcases List.mem_cons.1 he with rfl | he
  ·simp
  ·have:=aS.2 e he; omega
theorem iP.ge {ae:Nat}{acc:Acc}(h:iP P N ops ca g0 i ep ae acc) (gG:mT P N ops ca g0 i ep):∀ e∈acc,e∈ep\/i<=e.1:=by
 induction h with
 | nil=>exact λe he=>.inl he
 | step aN _ _ _ _ _ _ aS =>
  intro e he
  rcases List.mem_cons.1 he with rfl | he
  ·exact .inr (aN.le gG).1
  ·exact aS e he
theorem iP.HN {ae:Nat}{acc:Acc}(h:iP P N ops ca g0 i ep ae acc):∀ e∈ep,e∈acc:=by
 induction h with
 | nil=>exact λe he=>he
 | step _ _ _ _ _ _ _ aS=>exact λe he=>by simp [aS e he]
theorem iP.fresh {ae:Nat}{acc:Acc}(h:iP P N ops ca g0 i ep ae acc) (gG:mT P N ops ca g0 i ep):∀ e∈acc,g0 e.2.1=none:=by
 induction h with
 | nil=>exact gG.free
 | step _ _ _ a8 _ _ _ aS =>
  intro e he
  rcases List.mem_cons.1 he with rfl | he
  ·exact a8
  ·exact aS e he
theorem iP.nodup {ae:Nat}{acc:Acc}(h:iP P N ops ca g0 i ep ae acc) (gG:mT P N ops ca g0 i ep):(acc.map (·.2.1)).Nodup:=by
 induction h with
 | nil=>exact gG.nd
 | step _ _ _ _ aL _ _ aS =>
  refine List.nodup_cons.2 ⟨λhm=>?_,aS⟩
  obtain ⟨e,he,h⟩:=List.mem_map.1 hm
  exact aL e he h
theorem iP.uniq {ae:Nat}{acc:Acc}(h:iP P N ops ca g0 i ep ae acc) (gG:mT P N ops ca g0 i ep):∀ {e cW:Nat × Nat × Option ag},e∈acc->cW∈acc->(e.1=cW.1\/e.2.1=cW.2.1)->e=cW:=by
 induction h with
 | nil=>exact λ{e cW} he h5 b9=>gG.MZ e he cW h5 b9
 | @step ae acc o d r aN _ _ _ aL _ _ aS =>
  intro e cW he h5 b9
  rcases List.mem_cons.1 he with rfl | he <;> rcases List.mem_cons.1 h5 with rfl | h5
  ·rfl
  ·rcases b9 with b9 | b9
   ·have:=(aN.le gG).2 cW h5; simp at b9; omega
   ·exact absurd b9.symm (aL cW h5)
  ·rcases b9 with b9 | b9
   ·have:=(aN.le gG).2 e he; simp at b9; omega
   ·exact absurd b9 (aL e he)
  ·exact aS he h5 b9
theorem iP.at_mem {ae:Nat}{acc:Acc}(h:iP P N ops ca g0 i ep ae acc) (gG:mT P N ops ca g0 i ep) {A:Nat->Bool}{e:Nat × Nat × Option ag}(he:e∈acc):eh g0 A acc e.2.1=if A e.1 then e.2.2 else none :=
 HS (λ_ J _ az aT=>h.uniq gG J az (.inr aT)) he
theorem iP.get {ae:Nat}{acc:Acc}(h:iP P N ops ca g0 i ep ae acc) (gG:mT P N ops ca g0 i ep):∀ e∈acc,∃ o wZ,ops[e.1]?=some o/\o.dst=some e.2.1/\N.ok e.2.1=true/\oZ P (eh g0 (λm=>(ca.getD e.1 []).contains m) wZ) ops o e.2.2/\∀ e∈wZ,e∈acc:=by
 induction h with
 | nil =>
  intro e he
  obtain ⟨ig,h1,al,aO,b4⟩:=gG.st e he
  exact ⟨ig,ep,h1,al,aO,b4,λ_ h=>h⟩
 | @step ae acc o d r aN bd aV a8 aL jt cn aS =>
  intro e he
  rcases List.mem_cons.1 he with rfl | he
  ·exact ⟨o,acc,bd,aV,jt,cn,λe he=>by simp [he]⟩
  ·obtain ⟨ig,wZ,aw,a2,a3,a4,a5⟩:=aS e he
   exact ⟨ig,wZ,aw,a2,a3,a4,λe he=>by simp [a5 e he]⟩
theorem iP.has {ae:Nat}{acc:Acc}(h:iP P N ops ca g0 i ep ae acc):∀ k,i<=k->k<ae->∃ e∈acc,e.1=k:=by
 induction h with
 | nil=>intro k h1 al; omega
 | @step ae acc o d r aN bd aV a8 aL jt cn aS =>
  intro k h1 al
  by_cases hk:k=ae
  ·exact ⟨_,List.mem_cons_self,hk.symm⟩
  ·obtain ⟨e,he,h⟩:=aS k h1 (by omega)
   exact ⟨e,by simp [he],h⟩
theorem TA {acc:Acc}(hz:(acc.filterMap l9).Nodup) {e cW:Nat × Nat × Option ag}{p:Place}(he:e∈acc) (h5:cW∈acc) (h:l9 e=some p) (aT:l9 cW=some p):e=cW:=by
 induction acc with
 | nil=>simp at he
 | cons a acc aS =>
  have mem:∀ {x:Nat × Nat × Option ag},x∈acc->l9 x=some p->p∈acc.filterMap l9:=λJ aG=>List.mem_filterMap.2 ⟨_,J,aG⟩
  rcases List.mem_cons.1 he with rfl | KJ <;> rcases List.mem_cons.1 h5 with rfl | KK
  ·rfl
  ·rw [List.filterMap_cons,h] at hz
   exact absurd (mem KK aT) (List.nodup_cons.1 hz).1
  ·rw [List.filterMap_cons,aT] at hz
   exact absurd (mem KJ h) (List.nodup_cons.1 hz).1
  ·refine aS ?_ KJ KK
   rw [List.filterMap_cons] at hz
   cases aG:l9 a with
   | none=>rw [aG] at hz; exact hz
   | some q=>rw [aG] at hz; exact (List.nodup_cons.1 hz).2
def e_ (listed:Array Bool) (k:Nat):Bool:=listed.getD k false
def hL (ops:Array Oper) (listed:Array Bool):Nat:=((List.range ops.size).filter λk=>!e_ listed k).length
theorem uX {listed:Array Bool}{k:Nat}(hk:k<ops.size) (ao:e_ listed k=false) (gp:listed.size=ops.size):hL ops (listed.setIfInBounds k true)+1<=hL ops listed:=by
 unfold hL
 have key:∀ l:List Nat,l.Nodup->((l.filter λae=>!e_ (listed.setIfInBounds k true) ae).length+if k∈l then 1 else 0)=(l.filter λae=>!e_ listed ae).length:=by
  intro l
  induction l with
  | nil=>intro _; simp
  | cons ae l aS =>
   intro gw
   have K3:=List.nodup_cons.1 gw
   have Lw:=aS K3.2
   by_cases eV:ae=k
   ·subst eV
    have h1:e_ (listed.setIfInBounds ae true) ae=true:=by simp [e_,gp,hk]
    rw [List.filter_cons,List.filter_cons]
    simp only [h1,ao,Bool.not_true,Bool.not_false,if_true,if_false,Bool.false_eq_true,List.length_cons,List.mem_cons,true_or]
    rw [if_neg K3.1] at Lw
    omega
   ·have h1:e_ (listed.setIfInBounds k true) ae=e_ listed ae:=by simp [e_,Array.getElem?_setIfInBounds_ne (Ne.symm eV)]
    rw [List.filter_cons,List.filter_cons,h1]
    have lM:(k∈ae::l)↔k∈l:=by simp [Ne.symm eV]
    by_cases aH:(!e_ listed ae)=true
    ·simp only [aH,if_true,List.length_cons,lM]; omega
    ·simp only [aH,lM]; simpa using Lw
 have:=key (List.range ops.size) List.nodup_range
 rw [if_pos (List.mem_range.2 hk)] at this
 omega
end
end Go.Own
namespace Go.Own
open Go
section
variable {P:Program}{N:dN}{ops:Array Oper}{ca:List (List Nat)}
def Down (ca:List (List Nat)) (listed:Array Bool):Prop:=∀ k,e_ listed k=true->∀ m∈ca.getD k [],e_ listed m=true
theorem Ix (h:rm ops ca=true) {k:Nat}{o:Oper}(bd:ops[k]?=some o) :
  (∀ e∈o.after,Region.binds .any e=true->e.on<k)/\∀ m∈ca.getD k [],m<k/\∃ e∈o.after,Region.binds .any e=true/\(e.on=m\/m∈ca.getD e.on []):=by
 have hk:k<ops.size:=(Array.getElem?_eq_some_iff.1 bd).1
 unfold rm at h
 have:=List.all_eq_true.1 h k (List.mem_range.2 hk)
 simp only [bd,Bool.and_eq_true] at this
 obtain ⟨h1,al⟩:=this
 constructor
 ·intro e he aH
  have:=Array.all_eq_true_iff_forall_mem.1 h1 e he
  simpa [aH] using this
 ·intro m hm
  have:=List.all_eq_true.1 al m hm
  simp only [Bool.and_eq_true,decide_eq_true_eq] at this
  refine ⟨this.1,?_⟩
  obtain ⟨ae,aa,aH⟩:=Array.any_eq_true.1 this.2
  have he:=Array.getElem_mem aa
  generalize o.after[ae]=e at aH he
  simp only [Bool.and_eq_true,Bool.or_eq_true,beq_iff_eq,List.contains_iff_mem] at aH
  exact ⟨e,he,aH.1,aH.2⟩
theorem wa {listed:Array Bool}{k:Nat}(h:k∈Region.ready .any ops listed):e_ listed k=false/\∃ o,ops[k]?=some o/\∀ e∈o.after,Region.binds .any e=true->e_ listed e.on=true:=by
 obtain ⟨h1,o,bd,al⟩:=mem_ready.1 h
 refine ⟨?_,o,bd,al⟩
 unfold e_
 rcases Nat.lt_or_ge k listed.size with hk | hk
 ·simp [hk] at h1 ⊢; exact h1
 ·simp [Array.getElem?_eq_none hk] at h1
theorem Hp (eT:rm ops ca=true) {listed:Array Bool}(aV:Down ca listed) {k:Nat}(h:k∈Region.ready .any ops listed):∀ m∈ca.getD k [],e_ listed m=true:=by
 obtain ⟨_,o,bd,al⟩:=wa h
 intro m hm
 obtain ⟨_,e,he,aH,aO⟩:=(Ix eT bd).2 m hm
 rcases aO with rfl | aO
 ·exact al e he aH
 ·exact aV e.on (al e he aH) m aO
theorem Md (eT:rm ops ca=true) {listed:Array Bool}(gp:listed.size=ops.size):∀ k,k<ops.size->e_ listed k=false->Region.ready .any ops listed≠[]:=by
 intro k
 induction k using Nat.strongRecOn with
 | _ k aS =>
  intro hk ao
  by_cases hex:∃ ae,ae<k/\e_ listed ae=false
  ·obtain ⟨ae,aa,RQ⟩:=hex
   exact aS ae aa (by omega) RQ
  ·have lM:k∈Region.ready .any ops listed:=by
    refine mem_ready.2 ⟨?_,ops[k],Array.getElem?_eq_getElem hk,λe he aH=>?_⟩
    ·unfold e_ at ao
     simp [gp,hk] at ao ⊢; exact ao
    ·have bc:=(Ix eT (Array.getElem?_eq_getElem hk)).1 e he aH
     cases hle:e_ listed e.on with
     | true=>exact hle
     | false=>exact absurd ⟨e.on,bc,hle⟩ hex
   intro e
   rw [e] at lM
   cases lM
theorem By {g0:aY}{A B:Nat->Bool}{acc:Acc}{t:Nat}(h:∀ e∈acc,e.2.1=t->A e.1=B e.1):eh g0 A acc t=eh g0 B acc t:=by
 induction acc with
 | nil=>rfl
 | cons e acc aS =>
  obtain ⟨k,d,r⟩:=e
  simp only [eh]
  by_cases aV:d=t
  ·rw [if_pos aV,if_pos aV,h (k,d,r) (by simp) aV]
  ·rw [if_neg aV,if_neg aV,aS λe he=>h e (by simp [he])]
theorem BU {listed:Array Bool}{k ae:Nat}(hk:k<listed.size):e_ (listed.setIfInBounds k true) ae=if ae=k then true else e_ listed ae:=by
 by_cases eV:ae=k
 ·subst eV; simp [e_,hk]
 ·rw [if_neg eV]; simp [e_,Array.getElem?_setIfInBounds_ne (Ne.symm eV)]
theorem UQ {g0:aY}{i ae:Nat}{acc U ep:Acc}(aN:iP P N ops ca g0 i ep ae acc) (du:mT P N ops ca g0 i ep) {A S:Nat->Bool}(gG:U=acc.filter λe=>!A e.1) (Qk:∀ e∈acc,A e.1=true->S e.1=true):eh g0 S acc=eh (eh g0 A acc) S U:=by
 subst gG
 funext t
 by_cases hex:∃ e∈acc,e.2.1=t
 ·obtain ⟨e,he,rfl⟩:=hex
  rw [aN.at_mem du he]
  by_cases eT:A e.1=true
  ·rw [lB,aN.at_mem du he,if_pos eT,if_pos (Qk e he eT)]
   intro cW h5 h
   obtain ⟨h1,al⟩:=List.mem_filter.1 h5
   have:=aN.uniq du h1 he (.inr h)
   subst this
   simp [eT] at al
  ·rw [HS (λx J y az h=>aN.uniq du (List.mem_filter.1 J).1 (List.mem_filter.1 az).1 (.inr h)) (List.mem_filter.2 ⟨he,by simpa using eT⟩)]
 ·rw [lB λe he h=>hex ⟨e,he,h⟩,lB λe he h=>hex ⟨e,(List.mem_filter.1 he).1,h⟩,lB λe he h=>hex ⟨e,he,h⟩]
theorem e3.mono {g g':aY}(a8:∀ t x,g t=some x->g' t=some x) {x:ag}(h:e3 g x):e3 g' x:=by
 induction h with
 | bK h=>exact .bK h
 | ref J h=>exact .ref J (h.mono a8)
 | own _ aS=>exact .own aS
 | obj _ aS=>exact .obj aS
 | agg _ aS=>exact .agg aS
 | cB _ aS=>exact .cB aS
 | er _ _ gx gl=>exact .er gx gl
 | bX aG _ aS=>exact .bX (aG.mono a8) aS
theorem JK {mm g1:aY}{o:Oper}{S:Nat->Bool}{rs:Place->Prop}(h:oU P N rs mm o g1) (lN:∀ p,rs p->mm p.root≠none):∀ (U:Acc),(∀ e∈U,∃ x,e.2.2=some x/\yO rs mm g1 o x)->(∀ e∈U,mm e.2.1=none/\g1 e.2.1=none/\o.dst≠some e.2.1)->(U.map (·.2.1)).Nodup->oU P N rs (eh mm S U) o (eh g1 S U)
 | [],_,_,_=>h
 | (k,d,r)::U,J,h1,gw=>by
  simp only [List.map_cons,List.nodup_cons] at gw
  have aS:=JK (S:=S) h lN U (λe he=>J e (by simp [he])) (λe he=>h1 e (by simp [he])) gw.2
  obtain ⟨x,e,cn⟩:=J (k,d,r) (by simp)
  simp only at e
  subst e
  obtain ⟨aw,a2,a3⟩:=h1 (k,d,some x) (by simp)
  simp only at aw a2 a3
  have pc:∀ e∈U,e.2.1≠d:=λe he aT=>gw.1 (List.mem_map.2 ⟨e,he,aT⟩)
  cases bT:S k with
  | true =>
   have e:∀ g:aY,eh g S ((k,d,some x)::U)=e9 (eh g S U) d x:=λg=>by
    funext t
    simp only [eh,e9,bT,if_true]
    by_cases aV:d=t
    ·rw [if_pos aV,if_pos aV.symm]
    ·rw [if_neg aV,if_neg (Ne.symm aV)]
   rw [e,e]
   have Dj:∀ r,mm r≠none->∀ e∈U,e.2.1≠r:=λr ax e he aT=>by
    have:=(h1 e (by simp [he])).1
    rw [aT] at this
    exact ax this
   have Tw:∀ r,g1 r≠none->∀ e∈U,e.2.1≠r:=λr ax e he aT=>by
    have:=(h1 e (by simp [he])).2.1
    rw [aT] at this
    exact ax this
   refine aS.extra (λr ax=>by rw [lB (Dj r.root (lN r ax))]; exact lN r ax) (by rw [lB pc]; exact aw) (by rw [lB pc]; exact a2) a3 ?_
   rcases cn with ⟨r,path,z,n,th,cs,rfl,hK,iq,lg,B6⟩ | ⟨v,rfl⟩ | ⟨s,p,m,rfl,hK,iq,lg⟩ | ⟨s,m,cs,rfl,hK,iq,lg,cs',B6,N_⟩ | ⟨z,n,cs,rfl,hK⟩ | ⟨cs,rfl,hK,iq⟩
   ·refine .inl ⟨r,path,z,n,th,cs,rfl,hK,?_,?_,B6⟩
    ·have:mm r≠none:=lN _ hK
     simpa [b7,lB (Dj r this)] using iq
    ·have:g1 r≠none:=λe=>by simp [b7,e] at lg
     simpa [b7,lB (Tw r this)] using lg
   ·exact .inr (.inl ⟨v,rfl⟩)
   ·refine .inr (.inr (.inl ⟨s,p,m,rfl,?_,?_,lg⟩))
    ·rw [lB]; exact hK
     intro e he aT
     have:=(h1 e (by simp [he])).1
     rw [aT,hK] at this; cases this
    ·rw [lB]; exact iq
     intro e he aT
     have:=(h1 e (by simp [he])).2.1
     rw [aT,iq] at this; cases this
   ·refine .inr (.inr (.inr (.inl ⟨s,m,cs,rfl,?_,iq,lg,cs',?_,N_⟩)))
    ·rw [lB]; exact hK
     intro e he aT
     have:=(h1 e (by simp [he])).2.1
     rw [aT,hK] at this; cases this
    ·rw [lB (Dj s (by rw [B6]; simp))]; exact B6
   ·exact .inr (.inr (.inr (.inr (.inl ⟨z,n,cs,rfl,hK⟩))))
   ·refine .inr (.inr (.inr (.inr (.inr ⟨cs,rfl,hK,?_⟩))))
    have hle:∀ t y,mm t=some y->eh mm S U t=some y:=λt y az=>by rw [lB (Dj t (by rw [az]; simp))]; exact az
    refine ⟨λt y az=>?_,λt z q n m new az=>?_⟩
    ·rcases s' az with ⟨cW,h5,_,_,FH⟩ | ⟨_,az⟩
     ·obtain ⟨y',zc,Ac⟩:=J cW (by simp [h5])
      rw [FH] at zc; cases zc
      rcases Ac with ⟨r,path,z,n,th,cs,rfl,c1,c2,kW,c4⟩ | ⟨v,rfl⟩ | ⟨s,p,m,rfl,c1,_⟩ | ⟨s,m,cs,rfl,_,_,_,cs',c4,kA⟩ | ⟨z,n,cs,rfl,c1⟩ | ⟨cs,rfl,c1,_⟩
      ·exact .ref rfl (.inl ⟨th,cs,kz hle c2,c4⟩)
      ·exact .bK .lit
      ·exact e3.mono hle (iq.bm s _ c1)
      ·exact .ref rfl ⟨.obj cs',by simp [b7,hle s _ c4,ag.at],0,0,cs',.inr rfl,kA⟩
      ·exact .bK c1
      ·exact .bK c1.bK
     ·exact e3.mono hle (iq.bm t y az)
    ·rcases s' az with ⟨cW,h5,_,_,FH⟩ | ⟨_,az⟩
     ·obtain ⟨y',zc,Ac⟩:=J cW (by simp [h5])
      rw [FH] at zc; cases zc
      rcases Ac with ⟨r,path,z,n,th,cs,h,_⟩ | ⟨v,h⟩ | ⟨s,p,m,h,_⟩ | ⟨s,m,cs,h,_⟩ | ⟨z,n,cs,h,_⟩ | ⟨cs,h,_⟩ <;> cases h
     ·exact iq.fO _ _ _ _ _ _ az
  | false =>
   have e:∀ g:aY,g d=none->eh g S ((k,d,some x)::U)=eh g S U:=λg a8=>by
    funext t
    simp only [eh,bT]
    by_cases aV:d=t
    ·subst aV; rw [if_pos rfl,lB pc,a8]; rfl
    ·rw [if_neg aV]
   rw [e mm aw,e g1 a2]
   exact aS
theorem Mc (eT:rm ops ca=true) {g0:aY}{i ae:Nat}{acc ep:Acc}(aN:iP P N ops ca g0 i ep ae acc) (du:mT P N ops ca g0 i ep) (hz:(acc.filterMap l9).Nodup) (iU:∀ t z q n m new,g0 t≠some (.bX z q n m new)) {listed:Array Bool}(gp:listed.size=ops.size) (aV:Down ca listed)
  {a:Act}{w:World}{I:br}{Fs:Nat->br}(bT:cY w I a.tmps (eh g0 (e_ listed) acc) Fs) (bW:a.tmps.size=N.size) {e:Nat × Nat × Option ag}(he:e∈acc) (hk:e.1∈Region.ready .any ops listed) {K:Act->World->Prop}{Q:Exit->Act->World->Prop}
  (et:∀ cE w' I' cp,cE.defers=a.defers->hG N a.tmps cE.tmps->cY w' I' cE.tmps (eh g0 (e_ (listed.setIfInBounds e.1 true)) acc) cp->kQ w I (λc=>∃ t,Fs t c) w' I' (λc=>∃ t,cp t c)->K cE w'):wpOp P ops Q e.1 K a w:=by
 obtain ⟨dZ,k9,vp,_⟩:=wa hk
 have tW:=(Array.getElem?_eq_some_iff.1 vp).1
 have tJ:=Hp eT aV hk
 obtain ⟨o,wZ,bd,CM,jt,cn,gz⟩:=aN.get du e he
 obtain ⟨k,d,r⟩:=e
 simp only at *
 have hle:nN (eh g0 (λm=>(ca.getD k []).contains m) wZ) (eh g0 (e_ listed) acc):=by
  intro t x J
  rcases s' J with ⟨e,he,rfl,xn,hex⟩ | ⟨pc,a8⟩
  ·rw [aN.at_mem du (gz e he),tJ e.1 (by simpa using xn)]
   exact hex
  ·rw [lB λe he Rw=>?_]
   ·exact a8
   ·have:=aN.fresh du e he
    rw [Rw,a8] at this; cases this
 have gI:∀ z p n m new,r=some (.bX z p n m new)->∀ t cJ cX m' dj,eh g0 (e_ listed) acc t≠some (.bX cJ p cX m' dj):=by
  intro z p n m new ax t cJ cX m' dj aD
  rcases s' aD with ⟨e,h5,_,xn,hex⟩ | ⟨_,a8⟩
  ·obtain ⟨l7,Cj,fc⟩:=e
   have:=TA hz (p:=p) he h5 (by rw [ax]; rfl) (by simp only at hex; rw [hex]; rfl)
   cases this
   rw [dZ] at xn; cases xn
  ·exact iU _ _ _ _ _ _ a8
 have Ac:=cn.mono hle gI
 have tQ:eh g0 (e_ listed) acc d=none:=by
  have:=aN.at_mem du (A:=e_ listed) he
  simpa [dZ] using this
 unfold wpOp
 simp only [bd]
 refine Ac.sound bT rfl bW CM tQ jt λcE w' aL=>?_
 obtain ⟨dt,c3,I',cp,eB,nA⟩:=aL
 have ll:∀ ae,e_ (listed.setIfInBounds k true) ae=if ae=k then true else e_ listed ae:=λae=>BU (by omega)
 have ea:eh g0 (e_ (listed.setIfInBounds k true)) acc=v' (eh g0 (e_ listed) acc) d r:=by
  funext t
  by_cases sK:t=d
  ·subst sK
   have h1:=aN.at_mem du (A:=e_ (listed.setIfInBounds k true)) he
   simp only [ll k,if_true] at h1
   rw [h1]
   cases r with
   | none=>simp only [v']; exact tQ.symm
   | some x=>simp [v',e9]
  ·have h1:eh g0 (e_ (listed.setIfInBounds k true)) acc t=eh g0 (e_ listed) acc t:=By λe h5 het=>by
    rw [ll e.1,if_neg]
    intro FG
    have:=aN.uniq du h5 he (.inl FG)
    rw [this] at het
    exact sK het.symm
   rw [h1]
   cases r with
   | none=>rfl
   | some x=>simp [v',e9,sK]
 exact et cE w' I' cp dt c3 (by rw [ea]; exact eB) nA
theorem EG (eT:rm ops ca=true) {listed:Array Bool}(gp:listed.size=ops.size) (aV:Down ca listed) {k:Nat}(hk:k∈Region.ready .any ops listed):Down ca (listed.setIfInBounds k true):=by
 obtain ⟨dZ,k9,vp,_⟩:=wa hk
 have tW:=(Array.getElem?_eq_some_iff.1 vp).1
 have tJ:=Hp eT aV hk
 have ll:∀ q,e_ (listed.setIfInBounds k true) q=if q=k then true else e_ listed q:=λq=>BU (by omega)
 intro m hm q bO
 rw [ll] at hm ⊢
 split
 ·rfl
 ·split at hm
  ·rename_i K1; subst K1; exact tJ q bO
  ·exact aV m hm q bO
theorem iP.entry {g0:aY}{i ae:Nat}{acc ep:Acc}(aN:iP P N ops ca g0 i ep ae acc) {listed:Array Bool}(bc:∀ k,k<i->(∀ e∈ep,e.1≠k)->e_ listed k=true) {k:Nat}(zT:k<ae) (dZ:e_ listed k=false):∃ e∈acc,e.1=k:=by
 rcases Nat.lt_or_ge k i with h | h
 ·rcases Classical.em (∃ e∈ep,e.1=k) with ⟨e,he,aT⟩ | aT
  ·exact ⟨e,aN.HN e he,aT⟩
  ·have:=bc k h λe he FG=>aT ⟨e,he,FG⟩
   rw [dZ] at this; cases this
 ·exact aN.has k h zT
theorem rh.sound (eT:rm ops ca=true) {i:Nat}{ep:Acc}{g g':aY}(h:rh P N ops ca i ep g g'):mT P N ops ca g i ep->∀ {Q:Exit->Act->World->Prop}(fuel:Nat) (listed:Array Bool) (a:Act) (w:World) (I:br) (Fs:Nat->br),hL ops listed<=fuel->listed.size=ops.size->(∀ k,k<i->(∀ e∈ep,e.1≠k)->e_ listed k=true)->(∀ k,i<=k->e_ listed k=false)->Down ca listed ->
  cY w I a.tmps (eh g (e_ listed) ep) Fs->a.tmps.size=N.size->(∀ cE w',h' N a w I Fs g' cE w'->Q .normal cE w')->wpAny P .any ops Q fuel listed a w:=by
 have start:∀ {g:aY}{i ae:Nat}{acc ep:Acc}{listed:Array Bool},iP P N ops ca g i ep ae acc->mT P N ops ca g i ep->(∀ k,i<=k->e_ listed k=false)->eh g (e_ listed) acc=eh g (e_ listed) ep:=by
  intro g i ae acc ep listed aN du eF
  funext t
  by_cases hex:∃ e∈acc,e.2.1=t
  ·obtain ⟨e,he,rfl⟩:=hex
   rw [aN.at_mem du he]
   rcases aN.ge du e he with h | h
   ·rw [HS (λx J y az aT=>du.MZ x J y az (.inr aT)) h]
   ·rw [eF e.1 h]
    by_cases KL:∃ cW∈ep,cW.2.1=e.2.1
    ·obtain ⟨cW,h5,aT⟩:=KL
     have:=aN.uniq du (aN.HN cW h5) he (.inr aT)
     subst this
     have:=du.lt cW h5; omega
    ·rw [lB λcW h5 aT=>KL ⟨cW,h5,aT⟩,aN.fresh du e he]; rfl
  ·rw [lB λe he h=>hex ⟨e,he,h⟩,lB λe he h=>hex ⟨e,aN.HN e he,h⟩]
 induction h with
 | @fin i ep g acc aN hz iU =>
  intro du Q fuel listed a w I Fs ab gp bc eF aV bT bW dX
  rw [<- start aN du eF] at bT
  clear eF
  revert listed a w I Fs
  induction fuel with
  | zero =>
   intro listed a w I Fs ab gp bc aV bT bW dX
   have hb:∀ k,k<ops.size->e_ listed k=true:=λk hk=>by
    cases ao:e_ listed k with
    | true=>rfl
    | false=>have:=uX (ops:=ops) (listed:=listed) (k:=k) hk ao gp; omega
   refine wpAny_done ?_ (dX _ _ ⟨rfl,hG.refl,I,Fs,?_,kQ.refl _ _ _⟩) 0
   ·cases ax:Region.ready .any ops listed with
    | nil=>rfl
    | cons k l =>
     have hk:k∈Region.ready .any ops listed:=by rw [ax]; simp
     obtain ⟨dZ,o,bd,_⟩:=wa hk
     rw [hb k (Array.getElem?_eq_some_iff.1 bd).1] at dZ; cases dZ
   ·have:eh g (e_ listed) acc=eh g (λ_=>true) acc:=funext λt=>By λe he _=>hb e.1 ((aN.le du).2 e he)
    rw [<- this]; exact bT
  | succ fuel aS =>
   intro listed a w I Fs ab gp bc aV bT bW dX
   by_cases hb:∀ k,k<ops.size->e_ listed k=true
   ·refine wpAny_done ?_ (dX _ _ ⟨rfl,hG.refl,I,Fs,?_,kQ.refl _ _ _⟩) _
    ·cases ax:Region.ready .any ops listed with
     | nil=>rfl
     | cons k l =>
      have hk:k∈Region.ready .any ops listed:=by rw [ax]; simp
      obtain ⟨dZ,o,bd,_⟩:=wa hk
      rw [hb k (Array.getElem?_eq_some_iff.1 bd).1] at dZ; cases dZ
    ·have:eh g (e_ listed) acc=eh g (λ_=>true) acc:=funext λt=>By λe he _=>hb e.1 ((aN.le du).2 e he)
     rw [<- this]; exact bT
   ·obtain ⟨k0,tV⟩:=Classical.not_forall.1 hb
    obtain ⟨RJ,RK⟩:=Classical.not_imp.1 tV
    refine ⟨λax=>absurd ax (Md eT gp k0 RJ (by simpa using RK)),λk hk=>?_⟩
    obtain ⟨dZ,k9,vp,_⟩:=wa hk
    have tW:=(Array.getElem?_eq_some_iff.1 vp).1
    obtain ⟨e,he,rfl⟩:=aN.entry bc tW dZ
    have Rp:=uX (ops:=ops) (listed:=listed) (k:=e.1) tW dZ gp
    refine Mc eT aN du hz iU gp aV bT bW he hk λcE w' I' cp dt c3 eB nA=>?_
    refine aS _ cE w' I' cp (by omega) (by simpa using gp) (λm hm eI=>?_) (EG eT gp aV hk) eB (c3.1.trans bW) λa2 ik al=>dX _ _ (h'.trans dt c3 nA al)
    rw [BU (by omega)]; split
    ·rfl
    ·exact bc m hm eI
 | @w3 i ae g g1 g' ep acc U o rs aN hz iU bd hw he lN gG J h1 al aH _ S0 =>
  intro du Q fuel listed a w I Fs ab gp bc eF aV bT bW dX
  have xt:ae<ops.size:=(Array.getElem?_eq_some_iff.1 bd).1
  have CF:∀ k,ae<k->k<ops.size->ae∈ca.getD k []:=λk hk tW=>by
   have:=List.all_eq_true.1 aH k (List.mem_range.2 tW)
   simp only [Bool.or_eq_true,decide_eq_true_eq,List.contains_iff_mem] at this
   exact this.resolve_left (by omega)
  have xw:∀ e∈U,e∈acc/\(ca.getD ae []).contains e.1=false:=λe he=>by
   rw [gG] at he
   obtain ⟨j_,Ds⟩:=List.mem_filter.1 he
   exact ⟨j_,by simpa using Ds⟩
  have gw:(U.map (·.2.1)).Nodup:=by
   rw [gG]; exact (List.filter_sublist.map _).nodup (aN.nodup du)
  have RB:∀ e∈U,eh g (λm=>(ca.getD ae []).contains m) acc e.2.1=none:=λe he=>by
   rw [aN.at_mem du (xw e he).1,(xw e he).2]; rfl
  have Fb:mT P N ops ca g1 (ae+1) U:=⟨λe he=>by have:=(aN.le du).2 e (xw e he).1; omega,λe he=>(h1 e he).1,gw,λe he cW h5 h=>aN.uniq du (xw e he).1 (xw cW h5).1 h,al⟩
  have VQ:∀ k,ae<=k->e_ listed k=false:=λk hk=>eF k (Nat.le_trans (aN.le du).1 hk)
  rw [<- start aN du eF] at bT
  clear eF
  revert listed a w I Fs
  induction fuel with
  | zero =>
   intro listed a w I Fs ab gp bc aV bT bW dX eF
   have:=uX (ops:=ops) (listed:=listed) (k:=ae) xt (eF ae (Nat.le_refl _)) gp
   omega
  | succ fuel SZ =>
   intro listed a w I Fs ab gp bc aV bT bW dX eF
   have fq:=eF ae (Nat.le_refl _)
   refine ⟨λax=>absurd ax (Md eT gp ae xt fq),λk hk=>?_⟩
   obtain ⟨dZ,k9,vp,_⟩:=wa hk
   have tW:=(Array.getElem?_eq_some_iff.1 vp).1
   have tJ:=Hp eT aV hk
   have ll:∀ q,e_ (listed.setIfInBounds k true) q=if q=k then true else e_ listed q:=λq=>BU (by omega)
   have Rp:=uX (ops:=ops) (listed:=listed) (k:=k) (by omega) dZ gp
   rcases Nat.lt_trichotomy k ae with zT | rfl | zT
   ·obtain ⟨e,FF,rfl⟩:=aN.entry bc zT dZ
    refine Mc eT aN du hz iU gp aV bT bW FF hk λcE w' I' cp dt c3 eB nA=>?_
    refine SZ _ cE w' I' cp (by omega) (by simpa using gp) (λm hm eI=>?_) (EG eT gp aV hk) eB (c3.1.trans bW) (λa2 ik al=>dX _ _ (h'.trans dt c3 nA al)) λm hm=>?_
    ·rw [ll]; split
     ·rfl
     ·exact bc m hm eI
    ·rw [ll,if_neg (by omega)]; exact eF m hm
   ·have PJ:=UQ (A:=λm=>(ca.getD k []).contains m) (S:=e_ listed) aN du gG λe he eT=>tJ e.1 (by simpa using eT)
    have R9:∀ r:Place,rs r->eh g (λm=>(ca.getD k []).contains m) acc r.root≠none:=λr ax=>by
     rw [lB]
     ·exact lN r ax
     ·intro e he aT
      have:=aN.fresh du e he
      rw [aT] at this
      exact lN r ax this
    have Rx:=JK (S:=e_ listed) he R9 U J (λe he=>⟨RB e he,h1 e he⟩) gw
    have hle:nN (eh g (λm=>(ca.getD k []).contains m) acc) (eh g (e_ listed) acc):=by
     intro t x J
     rcases s' J with ⟨e,he,rfl,xn,hex⟩ | ⟨pc,a8⟩
     ·rw [aN.at_mem du he,tJ e.1 (by simpa using xn)]; exact hex
     ·rw [lB pc]; exact a8
    unfold wpOp
    simp only [bd,(iQ.mono hle hw).sound bT,if_true]
    refine .inl (Rx w I a.tmps Fs (by rw [<- PJ]; exact bT) a rfl bW _ _ λcE w' aL _ _=>?_)
    obtain ⟨dt,c3,I',cp,eB,nA⟩:=aL
    refine S0 Fb fuel (listed.setIfInBounds k true) cE w' I' cp (by omega) (by simpa using gp) (λm hm eI=>?_) (λm hm=>?_) (EG eT gp aV hk) ?_ (c3.1.trans bW) λa2 ik al=>dX _ _ (h'.trans dt c3 nA al)
    ·rw [ll]
     split
     ·rfl
     ·rename_i K1
      cases vo:e_ listed m with
      | true=>rfl
      | false =>
       exfalso
       obtain ⟨e,FF,rfl⟩:=aN.entry bc (show m<k by omega) vo
       by_cases K0:e.1∈ca.getD k []
       ·rw [tJ e.1 K0] at vo; cases vo
       ·exact eI e (by rw [gG]; exact List.mem_filter.2 ⟨FF,by simpa using K0⟩) rfl
    ·rw [ll,if_neg (by omega)]; exact eF m (by omega)
    ·have:eh g1 (e_ (listed.setIfInBounds k true)) U=eh g1 (e_ listed) U:=funext λt=>By λe he _=>by
      rw [ll e.1,if_neg]
      have:=(aN.le du).2 e (xw e he).1
      omega
     rw [this]; exact eB
   ·have:=tJ ae (CF k zT tW); rw [fq] at this; cases this
end
end Go.Own
namespace Go.Own
open Go
section
variable {P:Program}{N:dN}
def gC (P:Program) (N:dN) (c:Code) (g:aY) (e:Exit) (g':aY):Prop :=
 ∀ ⦃Q:Exit->Act->World->Prop⦄ ⦃a:Act⦄ ⦃w:World⦄ ⦃I:br⦄ ⦃Fs:Nat->br⦄,cY w I a.tmps g Fs->a.tmps.size=N.size->(∀ cE w',h' N a w I Fs g' cE w'->Q e cE w')->c.wp P Q a w
theorem gC.skip {g:aY}:gC P N .skip g .normal g:=λ_ _ _ _ _ bT _ dX=>wp_skip (dX _ _ ⟨rfl,hG.refl,_,_,bT,kQ.refl _ _ _⟩)
theorem gC.ret {g:aY}:gC P N .ret g .ret g:=λ_ _ _ _ _ bT _ dX=>wp_ret (dX _ _ ⟨rfl,hG.refl,_,_,bT,kQ.refl _ _ _⟩)
theorem gC.exit {g:aY}{id:Nat}:gC P N (.exit id) g (.exit id) g:=λ_ _ _ _ _ bT _ dX=>wp_exit (dX _ _ ⟨rfl,hG.refl,_,_,bT,kQ.refl _ _ _⟩)
theorem gC.seq {x y:Code}{g g1 g':aY}{e:Exit}(h1:gC P N x g .normal g1) (al:gC P N y g1 e g'):gC P N (.seq x y) g e g':=by
 intro Q a w I Fs bT bW dX
 refine wp_seq (h1 bT bW λaw jx aL=>?_)
 obtain ⟨dt,c3,I',cp,eB,cn⟩:=aL
 exact al eB (c3.1.trans bW) λa2 ik ny=>dX _ _ (h'.trans dt c3 cn ny)
theorem gC.cond {c:Operand}{x y:Code}{g g':aY}{e:Exit}{b:Bool}(ab:bP g c=some (.lit (.bool b))) (h:gC P N (if b then x else y) g e g'):gC P N (.cond c x y) g e g':=by
 intro Q a w I Fs bT bW dX
 exact wp_cond (t:=b) (j9 bT ab rfl).ie.1 (h bT bW dX)
theorem gC.JC {c:Operand}{x y:Code}{g g':aY}{e:Exit}(ab:bP g c=some (.lit (.bool true))) (h:gC P N x g e g'):gC P N (.cond c x y) g e g':=gC.cond ab h
theorem gC.JA {c:Operand}{x y:Code}{g g':aY}{e:Exit}(ab:bP g c=some (.lit (.bool false))) (h:gC P N y g e g'):gC P N (.cond c x y) g e g':=gC.cond ab h
theorem gC.block {id:Nat}{c:Code}{g g':aY}(h:gC P N c g .normal g'):gC P N (.block id c) g .normal g' :=
 λ_ _ _ _ _ bT bW dX=>wp_block (h bT bW λaw jx aL=>dX aw jx aL)
def BT (P:Program) (c:Code) (Q:Exit->Act->World->Prop) (a:Act) (w:World):Prop :=
 ∀ (b:Frame) (k:List Item) (cs:List Frame),∃ e cE w',Q e cE w'/\Arrives P (lone (b.at a (.code c::.inLoop c::k)) cs w) b k cs e cE w'
def r1 (P:Program) (N:dN) (c:Code) (g:aY) (e:Exit) (g':aY):Prop :=
 ∀ ⦃Q:Exit->Act->World->Prop⦄ ⦃a:Act⦄ ⦃w:World⦄ ⦃I:br⦄ ⦃Fs:Nat->br⦄,cY w I a.tmps g Fs->a.tmps.size=N.size->(∀ cE w',h' N a w I Fs g' cE w'->Q e cE w')->BT P c Q a w
theorem G7 {c:Code}{Q:Exit->Act->World->Prop}{a:Act}{w:World}(h:c.wp P (Exit.then (BT P c Q) Q) a w):BT P c Q a w:=by
 intro b k cs
 obtain ⟨e,yQ,BD,bO,ln⟩:=h b (.inLoop c::k) cs
 cases e with
 | normal =>
  obtain ⟨PK,N9,UY,R4,QS⟩:=bO b k cs
  exact ⟨PK,N9,UY,R4,.of_steps (Steps.trans ln (.one step_inLoop)) QS⟩
 | exit id=>exact ⟨_,yQ,BD,bO,.pass (x:=.inLoop c) rfl (λ_ _=>.inl (by simp)) ln⟩
 | goto l=>exact ⟨_,yQ,BD,bO,.pass (x:=.inLoop c) rfl (λ_ _=>.inl (by simp)) ln⟩
 | ret=>exact ⟨_,yQ,BD,bO,.pass (x:=.inLoop c) rfl (λ_ _=>.inl (by simp)) ln⟩
 | panic bw=>exact ⟨_,yQ,BD,bO,.pass (x:=.inLoop c) rfl (λ_ _=>.inl (by simp)) ln⟩
 | outgrown=>exact ⟨_,yQ,BD,bO,.pass (x:=.inLoop c) rfl (λ_ _=>.inl (by simp)) ln⟩
theorem gC.loop {c:Code}{g g':aY}{e:Exit}(h:r1 P N c g e g'):gC P N (.loop c) g e g':=by
 intro Q a w I Fs bT bW dX b k cs
 obtain ⟨e,cE,w',bO,ln⟩:=h bT bW dX b k cs
 exact ⟨e,cE,w',bO,.of_steps (.one step_loop) ln⟩
theorem r1.step {c:Code}{g g1 g':aY}{e:Exit}(h1:gC P N c g .normal g1) (al:r1 P N c g1 e g'):r1 P N c g e g':=by
 intro Q a w I Fs bT bW dX
 refine G7 (h1 bT bW λaw jx aL=>?_)
 obtain ⟨dt,c3,I',cp,eB,cn⟩:=aL
 exact al eB (c3.1.trans bW) λa2 ik ny=>dX _ _ (h'.trans dt c3 cn ny)
theorem r1.out {c:Code}{g g':aY}{e:Exit}(h:gC P N c g e g') (he:e≠.normal):r1 P N c g e g':=by
 intro Q a w I Fs bT bW dX
 refine G7 (h bT bW λaw jx aL=>?_)
 cases e with
 | normal=>exact absurd rfl he
 | _=>exact dX _ _ aL
theorem gC.region {id:Nat}{ops:Array Oper}{g g':aY}(h:nP P N ops (List.range ops.size) g g'):gC P N (.region id ops false) g .normal g' :=
 λ_ _ _ _ _ bT bW dX=>wp_region (h.sound bT bW dX)
theorem gC.draw {id:Nat}{ops:Array Oper}{ca:List (List Nat)}{g g':aY}(hm:P.follows .mixedOrders=true) (eT:rm ops ca=true) (h:rh P N ops ca 0 [] g g'):gC P N (.region id ops true) g .normal g':=by
 intro Q a w I Fs bT bW dX
 refine wp_region_any hm ?_
 have eB:cY w.drew I a.tmps g Fs:=bT.world (λ_ _ _=>rfl) (λ_ _=>rfl) (Nat.le_refl _)
 have hb:∀ k,e_ (Array.replicate ops.size false) k=false:=by
  intro k
  unfold e_
  rcases Nat.lt_or_ge k ops.size with h | h
  ·simp [h]
  ·simp [Array.getElem?_eq_none (show (Array.replicate ops.size false).size<=k by simpa using h)]
 refine h.sound eT .nil ops.size (Array.replicate ops.size false) a w.drew I Fs ?_ (by simp) (λk hk=>by omega) (λk _=>hb k) (λk hk=>by rw [hb] at hk; cases hk) eB bW λcE w' aL=>dX _ _ ?_
 ·unfold hL
  exact Nat.le_trans (List.length_filter_le _ _) (by simp)
 ·obtain ⟨dt,c3,I',cp,ib,cn⟩:=aL
  exact ⟨dt,c3,I',cp,ib,⟨⟨cn.fE.os,cn.fE.tape,cn.fE.output,cn.fE.size,cn.fE.block,cn.fE.e7,Nat.le_trans (Nat.le_succ _) cn.fE.xf⟩,cn.more,cn.new,cn.own⟩⟩
inductive ou:ag->ag->Prop
 | refl {x:ag}:ou x x
 | dead {x:ag}(h:ky x\/di x):ou x .dead
 | mK {z:Nat}:ou .aK (.own z 0 [])
 | xP {z:Nat}:ou .aK (.aE z 0 [])
 | obj {cs cs':List ag}(ao:cs'.length=cs.length) (h:∀ (k:Nat) (x y:ag),cs[k]?=some x->cs'[k]?=some y->ou x y):ou (.obj cs) (.obj cs')
 | own {z n:Nat}{cs cs':List ag}(ao:cs'.length=cs.length) (h:∀ (k:Nat) (x y:ag),cs[k]?=some x->cs'[k]?=some y->ou x y):ou (.own z n cs) (.own z n cs')
theorem R.gb {w:World}{I:br}{ρ:ag->Value->Prop}{x x':ag}(h:ou x x'):∀ {v:Value}{F:br},R w I ρ x v F->∃ fK,R w I ρ x' v fK/\∀ c,fK c->F c:=by
 induction h with
 | refl=>exact λbf=>⟨_,bf,λ_ h=>h⟩
 | dead=>exact λbf=>⟨cU,.dead λ_ h=>h,λ_ h=>h.elim⟩
 | mK =>
  intro v F bf
  rw [bf.qY]
  exact ⟨cU,.own (e:=0) (us:=[]) (Fs:=λ_=>cU) ⟨by simp,.inl ⟨rfl,rfl⟩⟩ rfl (by simp) (by simp) (λ_ _ _ _ _ h=>h.elim) (λ_ _ _ h=>h.elim) λc=>⟨λh=>h.elim,λh=>h.elim (λh=>by simp [Value.ownBlock] at h) λ⟨_,_,h⟩=>h⟩,λ_ h=>h.elim⟩
 | xP=>intro v F bf; rw [bf.qY]; exact ⟨cU,.hQ λ_ h=>h,λ_ h=>h.elim⟩
 | @obj cs cs' ao _ aS =>
  intro v F bf
  cases bf with
  | ref J=>simp [ag.isRef] at J
  | @obj _ b e arr bS _ bd h6 h1 ax aV aH aR =>
   have:∀ k,∃ r3:br,k<cs.length->(∀ (x:ag) (u:Value),cs'[k]?=some x->arr[k]?=some u->R w I ρ x u r3)/\∀ c,r3 c->bS k c:=by
    intro k
    by_cases hk:k<cs.length
    ·have J:=List.getElem?_eq_getElem hk
     have az:cs'[k]?=some (cs'[k]'(by omega)):=List.getElem?_eq_getElem (by omega)
     have hu:arr[k]?=some (arr[k]'(by omega)):=Array.getElem?_eq_getElem (by omega)
     obtain ⟨fK,h1,al⟩:=aS k _ _ J az (ax k _ _ J hu)
     refine ⟨fK,λ_=>⟨λx u f_ fN=>?_,al⟩⟩
     rw [az] at f_; rw [hu] at fN
     cases f_; cases fN
     exact h1
    ·exact ⟨cU,λh=>absurd h hk⟩
   obtain ⟨r3,qF⟩:=Classical.axiomOfChoice this
   refine ⟨_,.obj (Fs:=r3) bd (by omega) h1 (λk x u J hu=>(qF k (by rw [<- ao]; exact (List.getElem?_eq_some_iff.1 J).1)).1 x u J hu) (λae k c aa hk h aT=>aV ae k c (by omega) (by omega) ((qF ae (by omega)).2 c h) ((qF k (by omega)).2 c aT)) (λk hk h=>aH k (by omega) ((qF k (by omega)).2 b h)) (λc=>Iff.rfl),λc ab=>?_⟩
   rcases ab with rfl | ⟨k,hk,h⟩
   ·exact (aR _).2 (.inl rfl)
   ·exact (aR c).2 (.inr ⟨k,by omega,(qF k (by omega)).2 c h⟩)
 | @own z n cs cs' ao _ aS =>
  intro v F bf
  cases bf with
  | ref J=>simp [ag.isRef] at J
  | @own _ _ _ _ e us bS _ bd h6 h1 ax aV aH aR =>
   have:∀ k,∃ r3:br,k<cs.length->(∀ (x:ag) (u:Value),cs'[k]?=some x->us[k]?=some u->R w I ρ x u r3)/\∀ c,r3 c->bS k c:=by
    intro k
    by_cases hk:k<cs.length
    ·have J:=List.getElem?_eq_getElem hk
     have az:cs'[k]?=some (cs'[k]'(by omega)):=List.getElem?_eq_getElem (by omega)
     have hu:us[k]?=some (us[k]'(by omega)):=List.getElem?_eq_getElem (by omega)
     obtain ⟨fK,h1,al⟩:=aS k _ _ J az (ax k _ _ J hu)
     refine ⟨fK,λ_=>⟨λx u f_ fN=>?_,al⟩⟩
     rw [az] at f_; rw [hu] at fN
     cases f_; cases fN
     exact h1
    ·exact ⟨cU,λh=>absurd h hk⟩
   obtain ⟨r3,qF⟩:=Classical.axiomOfChoice this
   refine ⟨_,.own (Fs:=r3) bd (by omega) h1 (λk x u J hu=>(qF k (by rw [<- ao]; exact (List.getElem?_eq_some_iff.1 J).1)).1 x u J hu) (λae k c aa hk h aT=>aV ae k c (by omega) (by omega) ((qF ae (by omega)).2 c h) ((qF k (by omega)).2 c aT)) (λk c hk h=>aH k c (by omega) ((qF k (by omega)).2 c h)) (λc=>Iff.rfl),λc ab=>?_⟩
   rcases ab with ab | ⟨k,hk,h⟩
   ·exact (aR _).2 (.inl ab)
   ·exact (aR c).2 (.inr ⟨k,by omega,(qF k (by omega)).2 c h⟩)
structure kS (g1 g2:aY):Prop where
 sub:∀ t x,g2 t=some x->∃ y,g1 t=some y/\ou y x
 bm:∀ t x,g2 t=some x->e3 g2 x
 fO:∀ t z q n m new,g2 t≠some (.bX z q n m new)
theorem cY.gb {w:World}{I:br}{T:Array Value}{g1 g2:aY}{Fs:Nat->br}(h:cY w I T g1 Fs) (hk:kS g1 g2):∃ cp,cY w I T g2 cp/\∀ t c,cp t c->Fs t c:=by
 have:∀ t,∃ fK:br,(∀ x,g2 t=some x->∃ v,T[t]?=some v/\R w I (eg w T g2) x v fK)/\(∀ c,fK c->Fs t c)/\(g2 t=none->∀ c,¬ fK c):=by
  intro t
  cases J:g2 t with
  | none=>exact ⟨cU,by simp,λ_ h=>h.elim,λ_ _ h=>h⟩
  | some x =>
   obtain ⟨y,az,hw⟩:=hk.sub t x J
   obtain ⟨v,hv,bf⟩:=h.me.rel t y az
   have k4:∀ z q n m new,y≠.bX z q n m new:=by
    rintro z q n m new rfl
    cases hw with
    | refl=>exact hk.fO _ _ _ _ _ _ J
    | dead b9=>rcases b9 with b9 | b9 <;> cases b9
   obtain ⟨fK,jq,nv⟩:=R.gb hw (bf.hB k4)
   exact ⟨fK,λx' f_=>by cases f_; exact ⟨v,hv,jq.bm (hk.bm t x J)⟩,nv,by simp⟩
 obtain ⟨cp,oy⟩:=Classical.axiomOfChoice this
 refine ⟨cp,⟨λt x J=>?_,λt aD=>(oy t).2.2 aD,λt dn c h1 al=>h.e5 _ _ _ ((oy t).2.1 c h1) ((oy dn).2.1 c al),λt c ab=>h.aE _ _ ((oy t).2.1 c ab),h.lt,λt dn z p n m new _ _ _ _ h1=>absurd h1 (hk.fO _ _ _ _ _ _)⟩,λt=>(oy t).2.1⟩
 obtain ⟨v,hv,bf⟩:=(oy t).1 x J
 exact ⟨v,hv,.tree bf⟩
theorem gC.weaken {c:Code}{g g1 g':aY}{e:Exit}(hk:kS g g1) (h:gC P N c g1 e g'):gC P N c g e g':=by
 intro Q a w I Fs bT bW dX
 obtain ⟨cp,eB,gz⟩:=bT.gb hk
 exact h eB bW λcE w' aL=>dX _ _ (h'.trans rfl hG.refl ⟨Fr.refl _ _,λ_ h=>h,λ_ h=>.inl h,λc ⟨t,ab⟩=>.inl ⟨t,gz t c ab⟩⟩ aL)
theorem r1.weaken {c:Code}{g g1 g':aY}{e:Exit}(hk:kS g g1) (h:r1 P N c g1 e g'):r1 P N c g e g':=by
 intro Q a w I Fs bT bW dX
 obtain ⟨cp,eB,gz⟩:=bT.gb hk
 exact h eB bW λcE w' aL=>dX _ _ (h'.trans rfl hG.refl ⟨Fr.refl _ _,λ_ h=>h,λ_ h=>.inl h,λc ⟨t,ab⟩=>.inl ⟨t,gz t c ab⟩⟩ aL)
end
end Go.Own
namespace Go.Own
open Go
inductive yM (P:Program) (g:aY):ResultVar->ag->Prop
 | tmp {t:Nat}{y:ag}(h:bP g (.tmp t)=some y):yM P g (.tmp t) y
 | cell {a:Nat}{t ty:TypeId}{y:ag}(h:dB P g (.load t (.tmp a)) ty y):yM P g (.cell a t) y
inductive qo (P:Program) (g:aY):List ResultVar->List ag->Prop
 | nil:qo P g [] []
 | cons {r:ResultVar}{rs:List ResultVar}{y:ag}{ys:List ag}(h:yM P g r y) (aD:qo P g rs ys):qo P g (r::rs) (y::ys)
def qa:List ag->ag
 | [x]=>x
 | l=>.cB l
def wb:List Value->Value
 | [x]=>x
 | l=>.tuple l.toArray
def uw (tmps:Array Value):ResultVar->Sem Value
 | .tmp t=>pure (tmps.getD t undef)
 | .cell a t=>do loadVar t (<- asAddr (tmps.getD a undef))
section
variable {P:Program}{w:World}{I:br}{g:aY}{Fs:Nat->br}
theorem yM.run {a:Act}(h:cY w I a.tmps g Fs) {r:ResultVar}{y:ag}(ax:yM P g r y):∃ v,(uw a.tmps r).run P w=.ok v w/\R w I (eg w a.tmps g) y v cU:=by
 cases ax with
 | @tmp t y h1=>exact ⟨_,rfl,j9 h h1 rfl⟩
 | @cell a0 t ty y h1 =>
  obtain ⟨v, hv, bf⟩ := dB.sound h rfl (o := { dst := none, op := .load t (.tmp a0), type := ty, pos := "", after := #[], guard := none }) h1
  refine ⟨v,?_,bf⟩
  have he:a.eval (.tmp a0)=a.tmps.getD a0 undef:=rfl
  simp only [execOp,he] at hv
  cases ab:a.tmps.getD a0 undef with
  | pointer ad =>
   cases ad with
   | some ad =>
    rw [ab] at hv
    simp only [Instr.loadAt,Instr.sureAddr] at hv
    simp only [uw,ab,asAddr]
    have aG:(pure ad >>= λx=>loadVar t x:Sem Value)=loadVar t ad:=by simp
    rw [aG]
    revert hv
    generalize bO:loadVar t ad=q
    intro hv
    simp [bO] at hv
    cases CQ:q.run P w with
    | ok x ik=>rw [CQ] at hv; simp at hv; rw [hv.1,hv.2]
    | halt e ik=>rw [CQ] at hv; simp at hv
   | none=>rw [ab] at hv; simp [Instr.loadAt,Instr.sureAddr] at hv
  | _=>rw [ab] at hv; simp [Instr.loadAt,Instr.sureAddr] at hv
theorem Mq {f:ResultVar->Sem Value}:∀ (l:List ResultVar) (vs:List Value),l.length=vs.length->(∀ (k:Nat) (r:ResultVar) (v:Value),l[k]?=some r->vs[k]?=some v->(f r).run P w=.ok v w)->(l.mapM f).run P w=.ok vs w
 | [],[],_,_=>rfl
 | r::l,v::vs,ao,h=>by
  have bb:=h 0 r v rfl rfl
  have h1:=Mq l vs (by simpa using ao) λk r v ax hv=>h (k+1) r v (by simpa using ax) (by simpa using hv)
  simp [List.mapM_cons,bb,h1]
 | [],_::_,ao,_=>by simp at ao
 | _::_,[],ao,_=>by simp at ao
theorem T3 {fn:Func}{tmps:Array Value}{vs:List Value}(ao:fn.results.toList.length=vs.length) (h:∀ (k:Nat) (r:ResultVar) (v:Value),fn.results.toList[k]?=some r->vs[k]?=some v->(uw tmps r).run P w=.ok v w):(results fn tmps).run P w=.ok (wb vs) w:=by
 have h1:=Mq fn.results.toList vs ao h
 have al:fn.results.mapM (uw tmps)=List.toArray <$> fn.results.toList.mapM (uw tmps):=Array.mapM_eq_mapM_toList
 have aO:(fn.results.mapM (uw tmps)).run P w=.ok vs.toArray w:=by rw [al]; simp [h1]
 have b4:results fn tmps=(do let vs <- fn.results.mapM (uw tmps); pure (if h:vs.size=1 then vs[0] else .tuple vs)):=by
  unfold results
  congr 1
 rw [b4]
 simp only [Sem.run_bind,aO]
 match vs with
 | []=>rfl
 | [x]=>rfl
 | x::y::l=>simp [wb]
theorem qo.length {g:aY}{rs:List ResultVar}{ys:List ag}(h:qo P g rs ys):rs.length=ys.length:=by
 induction h with
 | nil=>rfl
 | cons _ _ aS=>simp [aS]
theorem qo.run {a:Act}(h:cY w I a.tmps g Fs) {rs:List ResultVar}{ys:List ag}(ax:qo P g rs ys):∃ vs:List Value,rs.length=vs.length/\(∀ (k:Nat) (r:ResultVar) (v:Value),rs[k]?=some r->vs[k]?=some v->(uw a.tmps r).run P w=.ok v w) /\
  ∀ (k:Nat) (y:ag) (v:Value),ys[k]?=some y->vs[k]?=some v->R w I (eg w a.tmps g) y v cU:=by
 induction ax with
 | nil=>exact ⟨[],rfl,by simp,by simp⟩
 | cons h1 _ aS =>
  obtain ⟨v,hv,bf⟩:=h1.run h
  obtain ⟨vs,ao,al,aO⟩:=aS
  refine ⟨v::vs,by simp [ao],λk r u ax hu=>?_,λk y u az hu=>?_⟩
  ·cases k with
   | zero=>simp at ax hu; subst ax hu; exact hv
   | succ k=>exact al k r u (by simpa using ax) (by simpa using hu)
  ·cases k with
   | zero=>simp at az hu; subst az hu; exact bf
   | succ k=>exact aO k y u (by simpa using az) (by simpa using hu)
theorem Hand.qa {ρ:ag->Value->Prop}{Fs:Nat->br}{xs:List ag}{vs:List Value}{dQ:Nat->br}(h:Hand w I ρ Fs xs vs dQ) (aL:∀ x∈xs,di x) (ρ':ag->Value->Prop):R w I ρ' (qa xs) (wb vs) (λc=>∃ k,k<xs.length/\dQ k c)/\di (qa xs):=by
 have cB:R w I ρ' (.cB xs) (.tuple vs.toArray) (λc=>∃ k,k<xs.length/\dQ k c) :=
  .cB (by simpa using h.len) (λk x u J hu=>(h.rel k x u J (by simpa using hu)).bK (aL x (List.mem_of_getElem? J))) h.e5 λc=>Iff.rfl
 match xs,vs,h,aL,cB with
 | [],[],_,_,cB=>exact ⟨cB,.cB (by simp)⟩
 | [x],[v],h,aL,_ =>
  refine ⟨((h.rel 0 x v rfl rfl).bK (aL x (by simp))).xb λc=>⟨λab=>⟨0,by simp,ab⟩,λ⟨k,hk,ab⟩=>?_⟩,aL x (by simp)⟩
  have:k=0:=by simpa using hk
  subst this; exact ab
 | x::y::l,v::u::m,_,aL,cB=>exact ⟨cB,.cB aL⟩
 | [],_::_,h,_,_=>have:=h.len; simp at this
 | _::_,[],h,_,_=>have:=h.len; simp at this
 | [_],_::_::_,h,_,_=>have:=h.len; simp at this
 | _::_::_,[_],h,_,_=>have:=h.len; simp at this
structure Leaves (P:Program) (N:dN) (rs:List ResultVar) (g':aY) (n:Nat) (outs:List (Option ag)) (res:ag):Prop where
 ex:∃ ys xs g1,qo P g' rs ys/\Take g' ys xs g1/\res=qa xs/\∀ (k:Nat) (x:ag),outs[k]?=some (some x)->g1 k=some x/\di x/\k∈N.pins
 len:outs.length=n
theorem cY.more {T:Array Value}(h:cY w I T g Fs) {T':Array Value}(fM:∀ t,g t≠none->T'[t]?=T[t]?):cY w I T' g Fs:=by
 refine ⟨λt x J=>?_,h.kI,h.e5,h.aE,h.lt,h.p_⟩
 obtain ⟨u,hu,bf⟩:=h.rel t x J
 exact ⟨u,by rw [fM t (by rw [J]; simp)]; exact hu,h.u_ fM (λ_ _ _=>rfl) (λ_ _=>rfl) (λ_ h=>h) (λ_ _ h=>h) bf λ_ _=>rfl⟩
end
end Go.Own
namespace Go.Own
open Go
section
variable {P:Program}{N:dN}
def W (P:Program) (N:dN) (c:Code) (g:aY) (Φ:Exit->aY->Prop):Prop :=
 ∀ ⦃Q:Exit->Act->World->Prop⦄ ⦃a:Act⦄ ⦃w:World⦄ ⦃I:br⦄ ⦃Fs:Nat->br⦄,cY w I a.tmps g Fs->a.tmps.size=N.size->(∀ e g' cE w',Φ e g'->h' N a w I Fs g' cE w'->Q e cE w')->c.wp P Q a w
def s8 (fR:aY->Prop) (Φ:Exit->aY->Prop):Exit->aY->Prop
 | .normal,g=>fR g
 | e,g=>Φ e g
def rO (id:Nat) (Φ:Exit->aY->Prop):Exit->aY->Prop
 | .exit k,g=>if k=id then Φ .normal g else Φ (.exit k) g
 | e,g=>Φ e g
theorem h'.refl {a:Act}{w:World}{I:br}{g:aY}{Fs:Nat->br}(h:cY w I a.tmps g Fs):h' N a w I Fs g a w:=⟨rfl,hG.refl,_,_,h,kQ.refl _ _ _⟩
theorem gC.w {c:Code}{g g':aY}{e:Exit}{Φ:Exit->aY->Prop}(h:gC P N c g e g') (nB:Φ e g'):W P N c g Φ :=
 λ_ _ _ _ _ bT bW dX=>h bT bW λcE w' aL=>dX _ _ cE w' nB aL
theorem W.mono {c:Code}{g:aY}{Φ pE:Exit->aY->Prop}(h:W P N c g Φ) (nB:∀ e g',Φ e g'->pE e g'):W P N c g pE :=
 λ_ _ _ _ _ bT bW dX=>h bT bW λ_ _ cE w' h1 aL=>dX _ _ cE w' (nB _ _ h1) aL
theorem W.skip {g:aY}{Φ:Exit->aY->Prop}(h:Φ .normal g):W P N .skip g Φ:=gC.skip.w h
theorem W.ret {g:aY}{Φ:Exit->aY->Prop}(h:Φ .ret g):W P N .ret g Φ:=gC.ret.w h
theorem W.exit {g:aY}{id:Nat}{Φ:Exit->aY->Prop}(h:Φ (.exit id) g):W P N (.exit id) g Φ:=gC.exit.w h
theorem W.seq {x y:Code}{g:aY}{Φ:Exit->aY->Prop}(h:W P N x g (s8 (λg1=>W P N y g1 Φ) Φ)):W P N (.seq x y) g Φ:=by
 intro Q a w I Fs bT bW dX
 refine wp_seq (h bT bW λe g1 aw jx h1 aL=>?_)
 cases e with
 | normal =>
  obtain ⟨dt,c3,I',cp,eB,cn⟩:=aL
  exact h1 eB (c3.1.trans bW) λsi g2 a2 ik al ny=>dX _ _ _ _ al (h'.trans dt c3 cn ny)
 | _=>exact dX _ _ _ _ h1 aL
theorem W.cond {c:Operand}{x y:Code}{g:aY}{Φ:Exit->aY->Prop}{b:Bool}(ab:bP g c=some (.lit (.bool b))) (h:W P N (if b then x else y) g Φ):W P N (.cond c x y) g Φ :=
 λ_ _ _ _ _ bT bW dX=>wp_cond (t:=b) (j9 bT ab rfl).ie.1 (h bT bW dX)
theorem W.JC {c:Operand}{x y:Code}{g:aY}{Φ:Exit->aY->Prop}(ab:bP g c=some (.lit (.bool true))) (h:W P N x g Φ):W P N (.cond c x y) g Φ:=W.cond ab h
theorem W.JA {c:Operand}{x y:Code}{g:aY}{Φ:Exit->aY->Prop}(ab:bP g c=some (.lit (.bool false))) (h:W P N y g Φ):W P N (.cond c x y) g Φ:=W.cond ab h
theorem W.block {id:Nat}{c:Code}{g:aY}{Φ:Exit->aY->Prop}(h:W P N c g (rO id Φ)):W P N (.block id c) g Φ:=by
 intro Q a w I Fs bT bW dX
 refine wp_block (h bT bW λe g1 aw jx h1 aL=>?_)
 cases e with
 | exit k =>
  have al:if k=id then Φ .normal g1 else Φ (.exit k) g1:=h1
  simp only [Exit.inBlock]
  by_cases hk:k=id
  ·rw [if_pos hk] at al ⊢
   exact dX _ _ _ _ al aL
  ·rw [if_neg hk] at al ⊢
   exact dX _ _ _ _ al aL
 | _=>exact dX _ _ _ _ h1 aL
def ot (P:Program) (N:dN) (c:Code) (g:aY) (Φ:Exit->aY->Prop):Prop :=
 ∀ ⦃Q:Exit->Act->World->Prop⦄ ⦃a:Act⦄ ⦃w:World⦄ ⦃I:br⦄ ⦃Fs:Nat->br⦄,cY w I a.tmps g Fs->a.tmps.size=N.size->(∀ e g' cE w',Φ e g'->h' N a w I Fs g' cE w'->Q e cE w')->BT P c Q a w
theorem W.loop {c:Code}{g:aY}{Φ:Exit->aY->Prop}(h:ot P N c g Φ):W P N (.loop c) g Φ:=by
 intro Q a w I Fs bT bW dX b k cs
 obtain ⟨e,cE,w',bO,ln⟩:=h bT bW dX b k cs
 exact ⟨e,cE,w',bO,.of_steps (.one step_loop) ln⟩
theorem ot.step {c:Code}{g:aY}{Φ:Exit->aY->Prop}(h:W P N c g (s8 (λg1=>ot P N c g1 Φ) Φ)):ot P N c g Φ:=by
 intro Q a w I Fs bT bW dX
 refine G7 (h bT bW λe g1 aw jx h1 aL=>?_)
 cases e with
 | normal =>
  obtain ⟨dt,c3,I',cp,eB,cn⟩:=aL
  exact h1 eB (c3.1.trans bW) λsi g2 a2 ik al ny=>dX _ _ _ _ al (h'.trans dt c3 cn ny)
 | _=>exact dX _ _ _ _ h1 aL
theorem W.weaken {c:Code}{g g1:aY}{Φ:Exit->aY->Prop}(hk:kS g g1) (h:W P N c g1 Φ):W P N c g Φ:=by
 intro Q a w I Fs bT bW dX
 obtain ⟨cp,eB,gz⟩:=bT.gb hk
 exact h eB bW λe g' cE w' h1 aL=>dX _ _ _ _ h1 (h'.trans rfl hG.refl ⟨Fr.refl _ _,λ_ h=>h,λ_ h=>.inl h,λc ⟨t,ab⟩=>.inl ⟨t,gz t c ab⟩⟩ aL)
theorem ot.weaken {c:Code}{g g1:aY}{Φ:Exit->aY->Prop}(hk:kS g g1) (h:ot P N c g1 Φ):ot P N c g Φ:=by
 intro Q a w I Fs bT bW dX
 obtain ⟨cp,eB,gz⟩:=bT.gb hk
 exact h eB bW λe g' cE w' h1 aL=>dX _ _ _ _ h1 (h'.trans rfl hG.refl ⟨Fr.refl _ _,λ_ h=>h,λ_ h=>.inl h,λc ⟨t,ab⟩=>.inl ⟨t,gz t c ab⟩⟩ aL)
theorem W.out {c:Code}{g:aY}{Φ pE:Exit->aY->Prop}(h:W P N c g Φ) (nB:∀ e g',Φ e g'->∃ g2,kS g' g2/\pE e g2):W P N c g pE:=by
 intro Q a w I Fs bT bW dX
 refine h bT bW λe g' cE w' h1 aL=>?_
 obtain ⟨g2,hk,al⟩:=nB e g' h1
 obtain ⟨dt,c3,I',cp,eB,cn⟩:=aL
 obtain ⟨iZ,ib,gz⟩:=eB.gb hk
 exact dX _ _ _ _ al ⟨dt,c3,I',iZ,ib,cn.trans ⟨Fr.refl _ _,λ_ h=>h,λ_ h=>.inl h,λc ⟨t,ab⟩=>.inl ⟨t,gz t c ab⟩⟩⟩
def Ij (P:Program) (N:dN) (ops:Array Oper) (is:List Nat) (g:aY) (K:aY->Prop):Prop:=∃ g',nP P N ops is g g'/\K g'
theorem W.region {id:Nat}{ops:Array Oper}{g:aY}{Φ:Exit->aY->Prop}(h:Ij P N ops (List.range ops.size) g (Φ .normal)):W P N (.region id ops false) g Φ:=by
 obtain ⟨g',ax,nB⟩:=h
 exact (gC.region ax).w nB
theorem cb.Tr {f:FuncId}{fn:Func}{c:Code}{args:List ag}{outs:List (Option ag)}{res:ag}{N:dN}(bl:P.funcs[f]?=some fn) (aH:fn.body=some c) (bW:fn.ntmps=N.size) (bj:args.length<=N.size)
  (hlen:outs.length=args.length) (hw:W P N c (o2 args) λe g'=>(e=.normal\/e=.ret)/\Leaves P N fn.results.toList g' args.length outs res):cb P f args outs res:=by
 refine ⟨hlen,λw I vs Fs Gj bT=>calls_of_wp bl aH ?_⟩
 have gp:({ tmps:=vs.toArray++Array.replicate (fn.ntmps - vs.toArray.size) undef,defers:=[] }:Act).tmps.size=N.size:=by
  simp; omega
 have mq:∀ t,t<vs.length->(vs.toArray++Array.replicate (fn.ntmps - vs.toArray.size) undef)[t]?=vs.toArray[t]?:=by
  intro t aD
  rw [Array.getElem?_append_left (by simpa using aD)]
 refine hw (bT.more (T':=vs.toArray++Array.replicate (fn.ntmps - vs.toArray.size) undef) λt aD=>mq t ?_) gp λe g' cE w' ⟨he,bd⟩ aL=>?_
 ·unfold o2 at aD
  rw [Gj]
  rcases Nat.lt_or_ge t args.length with h | h
  ·exact h
  ·exact absurd (List.getElem?_eq_none h) aD
 obtain ⟨aV,hold,I',cp,eB,cn⟩:=aL
 obtain ⟨ys,xs,g1,Lb,aD,rfl,pc⟩:=bd.ex
 obtain ⟨us,qO,hW,mn⟩:=Lb.run eB
 have CY:ys.length=us.length:=by rw [<- Lb.length,qO]
 obtain ⟨gh,dQ,jb,iD,hb⟩:=aD.sound eB.me (⟨CY,λk x u J hu=>(mn k x u J hu).frame (λ_ _=>rfl) (λ_ h=>h) (λ_ _ h=>h.1) λ_ _=>rfl,λ_ _ _ _ _ h=>h.elim,λ_ _ _ _ h=>h.elim,λ_ _ _ h=>h.elim⟩:Hand w' I' (fS w' cE.tmps) cp ys us λ_=>cU)
 have gz:∀ c,k' gh xs.length dQ c->∃ t,cp t c:=by
  intro c ab
  rcases hb c ab with h | ⟨_,_,h⟩
  ·exact h
  ·exact h.elim
 have Ry:∃ iZ,cY w' I' (vs++[wb us]).toArray (oL outs (qa xs)) iZ/\∀ t c,iZ t c->∃ t,cp t c:=by
  classical
  refine ⟨λt=>if t=outs.length then (λc=>∃ k,k<xs.length/\dQ k c) else if ∃ x,outs[t]?=some (some x) then gh t else cU,⟨λt x J=>?_,λt p1 c ab=>?_,λt dn c h1 al=>?_,λt c ab=>?_,eB.lt,λt dn z p n m new cJ cX m' dj h1 al=>?_⟩,λt c ab=>?_⟩
  ·unfold oL at J
   by_cases bb:t=outs.length
   ·rw [if_pos bb] at J
    cases J
    subst bb
    refine ⟨wb us,?_,.tree ?_⟩
    ·rw [bd.len,<- Gj]; simp
    ·simpa using (iD.qa aD.AG _).1
   ·rw [if_neg bb] at J
    have f_:outs[t]?=some (some x):=by
     cases b9:outs[t]? with
     | none=>rw [b9] at J; cases J
     | some y=>rw [b9] at J; simpa using J
    obtain ⟨h1,al,aO⟩:=pc t x f_
    have Ge:t<vs.length:=by
     have:=(List.getElem?_eq_some_iff.1 f_).1
     rw [Gj,<- bd.len]; exact this
    obtain ⟨v,hv,bf⟩:=jb.rel t x h1
    refine ⟨v,?_,?_⟩
    ·rw [hold.2 t aO] at hv
     simp only at hv
     rw [mq t Ge] at hv
     simp only [List.getElem?_toArray] at hv ⊢
     rw [List.getElem?_append_left Ge]; exact hv
    ·simp only [bb,if_false]
     rw [if_pos ⟨x,f_⟩]
     exact .tree ((bf.hB (by rintro z p n m new rfl; cases al)).bK al)
  ·unfold oL at p1
   by_cases bb:t=outs.length
   ·rw [if_pos bb] at p1; cases p1
   ·rw [if_neg bb] at p1
    simp only [bb,if_false] at ab
    rw [if_neg] at ab
    ·exact ab
    ·rintro ⟨x,J⟩
     rw [J] at p1; cases p1
  ·by_cases bb:t=outs.length <;> by_cases Cx:dn=outs.length <;> simp only [bb,Cx,if_true,if_false] at h1 al
   ·rw [bb,Cx]
   ·split at al
    ·obtain ⟨k,hk,ab⟩:=h1
     exact absurd al (iD.off k dn c hk ab)
    ·exact al.elim
   ·split at h1
    ·obtain ⟨k,hk,ab⟩:=al
     exact absurd h1 (iD.off k t c hk ab)
    ·exact h1.elim
   ·split at h1
    ·split at al
     ·exact jb.e5 _ _ _ h1 al
     ·exact al.elim
    ·exact h1.elim
  ·by_cases bb:t=outs.length <;> simp only [bb,if_true,if_false] at ab
   ·obtain ⟨k,hk,ab⟩:=ab
    exact iD.aE k c hk ab
   ·split at ab
    ·exact jb.aE _ _ ab
    ·exact ab.elim
  ·have key:∀ t x,oL outs (qa xs) t=some x->di x:=by
    intro t x J
    unfold oL at J
    split at J
    ·cases J; exact (iD.qa aD.AG (λ_ _=>False)).2
    ·cases b9:outs[t]? with
     | none=>rw [b9] at J; cases J
     | some y=>rw [b9] at J; exact (pc t x (by rw [b9]; simpa using J)).2.1
   have:=key t _ h1
   cases this
  ·by_cases bb:t=outs.length <;> simp only [bb,if_true,if_false] at ab
   ·obtain ⟨k,hk,ab⟩:=ab
    exact gz c (.inr ⟨k,hk,ab⟩)
   ·split at ab
    ·exact gz c (.inl ⟨t,ab⟩)
    ·exact ab.elim
 obtain ⟨iZ,ib,Sh⟩:=Ry
 have R3:cE.defers=[]/\∃ v,(results fn cE.tmps).run P w'=.ok v w'/\∃ hF I' cp,Ending.returned v=.returned hF/\cY w' I' (vs++[hF]).toArray (oL outs (qa xs)) cp/\kQ w I (λc=>∃ t,Fs t c) w' I' (λc=>∃ t,cp t c) :=
  ⟨aV,wb us,T3 qO hW,wb us,I',iZ,rfl,ib,cn.trans ⟨Fr.refl _ _,λ_ h=>h,λ_ h=>.inl h,λc ⟨t,ab⟩=>.inl (Sh t c ab)⟩⟩
 rcases he with rfl | rfl <;> exact R3
end
end Go.Own
namespace Go.Own
open Go
def get:List (Nat × ag)->aY
 | [],_=>none
 | (s,x)::l,t=>if t=s then some x else get l t
inductive Rd (g:aY):Operand->ag->Prop
 | lit {t:Nat}{v:Value}(h:g t=some (.lit v)):Rd g (.tmp t) (.lit v)
 | k {v:Value}(h:ofConst v=.lit v):Rd g (.const v) (.lit v)
 | GZ:Rd g (.const (.slice none 0 0)) .aK
 | S9 {v:Value}{cs:List ag}(h:ofConst v=.agg cs):Rd g (.const v) (.agg cs)
 | aK {t:Nat}(h:g t=some .aK):Rd g (.tmp t) .aK
 | aE {t z n:Nat}{cs:List ag}(h:g t=some (.aE z n cs)):Rd g (.tmp t) (.aE z n cs)
 | own {t z n:Nat}{cs:List ag}(h:g t=some (.own z n cs)):Rd g (.tmp t) (.bn z ⟨t,[]⟩ n)
 | obj {t:Nat}{c:ag}{cs:List ag}(h:g t=some (.obj (c::cs))):Rd g (.tmp t) (.ptr ⟨t,[]⟩ 0)
 | bo {t:Nat}{cs:List ag}(h:g t=some (.bo cs)):Rd g (.tmp t) (.bo cs)
 | ptr {t k:Nat}{p:Place}(h:g t=some (.ptr p k)):Rd g (.tmp t) (.ptr p k)
 | bn {t z n:Nat}{p:Place}(h:g t=some (.bn z p n)):Rd g (.tmp t) (.bn z p n)
 | sub {t z lo n:Nat}{p:Place}(h:g t=some (.sub z p lo n)):Rd g (.tmp t) (.sub z p lo n)
 | bX {t z n m:Nat}{p:Place}{new:List ag}(h:g t=some (.bX z p n m new)):Rd g (.tmp t) (.bn z ⟨t,[]⟩ (n+m))
 | agg {t:Nat}{cs cs':List ag}(h:g t=some (.agg cs)) (ab:(cs.mapIdx λi x=>ih 1 (Place.push ⟨t,[]⟩ i) x)=cs'):Rd g (.tmp t) (.agg cs')
 | cB {t:Nat}{cs cs':List ag}(h:g t=some (.cB cs)) (ab:(cs.mapIdx λi x=>ih 1 (Place.push ⟨t,[]⟩ i) x)=cs'):Rd g (.tmp t) (.cB cs')
 | func {f:FuncId}:Rd g (.func f) (.er (.func f) [] [])
 | er {t:Nat}{fn:Fn}{cs:List ag}(h:g t=some (.er fn [] cs)):Rd g (.tmp t) (.er fn [] cs)
 | mp {t:Nat}{q:Array MapEntry->Nat->Prop}(h:g t=some (.mp q)):Rd g (.tmp t) (.hD ⟨t,[]⟩)
 | hD {t:Nat}{p:Place}(h:g t=some (.hD p)):Rd g (.tmp t) (.hD p)
 | imp {t:Nat}{q:Array MapEntry->Nat->Prop}(h:g t=some (.imp q)):Rd g (.tmp t) (.imp q)
theorem Rd.bP {g:aY}{x:Operand}{y:ag}(h:Rd g x y):bP g x=some y:=by
 cases h with
 | agg h ab=>subst ab; simp [Own.bP,h,q4,ih]
 | cB h ab=>subst ab; simp [Own.bP,h,q4,ih]
 | k h=>simp [Own.bP,h]
 | GZ=>rfl
 | S9 h=>simp [Own.bP,h]
 | func=>rfl
 | _ h=>simp [Own.bP,h,q4,ih]
section
variable {P:Program}{N:dN}{ops:Array Oper}{g:aY}{K:aY->Prop}{l:List Oper}
def ar (P:Program) (N:dN) (ops:Array Oper) (l:List Oper) (g:aY) (K:aY->Prop):Prop:=∀ i,ops.toList.drop i=l->Ij P N ops (List.range' i l.length) g K
theorem W.TQ {id:Nat}{l:List Oper}{g:aY}{Φ:Exit->aY->Prop}(h:ar P N l.toArray l g (Φ .normal)):W P N (.region id l.toArray false) g Φ:=by
 refine W.region ?_
 have:=h 0 (by simp)
 rw [List.range_eq_range']
 simpa using this
theorem ar.nil (h:K g):ar P N ops [] g K:=λ_ _=>⟨g,.nil,h⟩
theorem drop_cons {i:Nat}{o:Oper}(h:ops.toList.drop i=o::l):ops[i]?=some o/\ops.toList.drop (i+1)=l:=by
 have h1:(ops.toList.drop i)[0]?=some o:=by rw [h]; rfl
 rw [List.getElem?_drop] at h1
 refine ⟨by simpa using h1,?_⟩
 rw [<- List.drop_drop,h]
 rfl
variable {d:Nat}{op:Op}{ty:TypeId}{pos:String}{after:Array Edge}{x:ag}
theorem ar.yp {r:Option ag}{o:Oper}(aV:o.dst=some d) (bW:N.ok d=true) (bl:g d=none) (aN:oZ P g ops o r) (hk:ar P N ops l (v' g d r) K):ar P N ops (o::l) g K:=by
 intro i hi
 obtain ⟨h1,al⟩:=drop_cons hi
 obtain ⟨g',ax,et⟩:=hk (i+1) al
 exact ⟨g',.step h1 aV bl bW aN ax,et⟩
inductive H' (g:aY) (d:Nat):aY->Prop
 | new (h:g d=none):H' g d g
 | lQ {y:ag}(h:g d=some y) (ao:leaf y=true):H' g d (del g d)
inductive gu (g:aY) (ops:Array Oper):Option (Nat × Bool)->Prop
 | none:gu g ops none
 | yes {ae t:Nat}{b:Bool}(h:(ops[ae]?).bind (·.dst)=some t) (a8:g t=some (.lit (.bool b))):gu g ops (some (ae,b))
variable {ir:Option (Nat × Bool)}{g1:aY}
theorem gu.del {y:ag}(h:gu g ops ir) (aV:g d=some y) (aH:∀ b,y≠.lit (.bool b)):iQ (del g d) ops ⟨some d,op,ty,pos,after,ir⟩ true:=by
 cases h with
 | none=>rfl
 | @yes ae t b h a8 =>
  have:t≠d:=by
   rintro rfl
   rw [aV] at a8; cases a8; exact aH _ rfl
  exact ⟨t,h,.inl ⟨b,by simp only [Own.del,if_neg this,a8],by simp⟩⟩
theorem gu.wanted (h:gu g ops ir):iQ g ops ⟨some d,op,ty,pos,after,ir⟩ true:=by
 cases h with
 | none=>rfl
 | @yes ae t b h a8=>exact ⟨t,h,.inl ⟨b,a8,by simp⟩⟩
theorem ar.M0 (aG:dE P g op ty x) (bW:N.ok d=true) (bl:g d=none) (hw:iQ g ops ⟨some d,op,ty,pos,after,ir⟩ true) (hk:ar P N ops l (e9 g d x) K):ar P N ops (⟨some d,op,ty,pos,after,ir⟩::l) g K :=
 .yp rfl bW bl (r:=some x) (.inl ⟨hw,.inl aG⟩) hk
theorem ar.val (aG:dB P g op ty x) (bW:N.ok d=true) (bl:g d=none) (a8:gu g ops ir) (hk:ar P N ops l (e9 g d x) K):ar P N ops (⟨some d,op,ty,pos,after,ir⟩::l) g K :=
 .M0 (.fA aG) bW bl a8.wanted hk
theorem ar.UO (aG:dE P g op ty x) (bW:N.ok d=true) (bl:g d=none) (a8:gu g ops ir) (hk:ar P N ops l (e9 g d x) K):ar P N ops (⟨some d,op,ty,pos,after,ir⟩::l) g K :=
 .M0 aG bW bl a8.wanted hk
theorem ar.call (aG:cu P g op x) (bW:N.ok d=true) (bl:g d=none) (a8:gu g ops ir) (hk:ar P N ops l (e9 g d x) K):ar P N ops (⟨some d,op,ty,pos,after,ir⟩::l) g K :=
 .yp rfl bW bl (r:=some x) (.inl ⟨a8.wanted,.inr aG⟩) hk
theorem ar.pass {ae dn:Nat}{b:Bool}(h:(ops[ae]?).bind (·.dst)=some dn) (a8:g dn=some (.lit (.bool (!b)))) (bW:N.ok d=true) (bl:g d=none) (hk:ar P N ops l g K):ar P N ops (⟨some d,op,ty,pos,after,some (ae,b)⟩::l) g K :=
 .yp rfl bW bl (r:=Option.none) ⟨dn,h,.inl ⟨!b,a8,by cases b <;> rfl⟩⟩ hk
variable {ja:Option Nat}
theorem ar.forget {g1:aY}(hk:hI g g1) (h:ar P N ops l g1 K):ar P N ops l g K:=by
 intro i hi
 obtain ⟨g',ax,et⟩:=h i hi
 exact ⟨g',.forget hk ax,et⟩
variable {a b:Operand}{t t2:TypeId}{k:IntKind}{m n:Int}
theorem dB.add (J:Rd g a (.lit (.int k m))) (az:Rd g b (.lit (.int k n))):dB P g (.binOp .add t a b t2) ty (.lit (.int k (k.wrap (m+n)))) :=
 .bin J.bP az.bP rfl λw=>by simp [eqGuard,binOp,Op.intArith]
theorem dB.Uj (J:Rd g a (.lit (.int k m))) (az:Rd g b (.lit (.int k n))):dB P g (.binOp .sub t a b t2) ty (.lit (.int k (k.wrap (m - n)))) :=
 .bin J.bP az.bP rfl λw=>by simp [eqGuard,binOp,Op.intArith]
theorem dB.quo (J:Rd g a (.lit (.int k m))) (az:Rd g b (.lit (.int k n))) (h:n≠0):dB P g (.binOp .quo t a b t2) ty (.lit (.int k (k.wrap (m.tdiv n)))) :=
 .bin J.bP az.bP rfl λw=>by simp [eqGuard,binOp,Op.intDiv,h]
theorem dB.rem (J:Rd g a (.lit (.int k m))) (az:Rd g b (.lit (.int k n))) (h:n≠0):dB P g (.binOp .rem t a b t2) ty (.lit (.int k (m.tmod n))) :=
 .bin J.bP az.bP rfl λw=>by simp [eqGuard,binOp,Op.intDiv,h]
theorem dB.cat {s u:ByteArray}(J:Rd g a (.lit (.string s))) (az:Rd g b (.lit (.string u))) (h:s.size+u.size<=9223372036854775807):dB P g (.binOp .add t a b t2) ty (.lit (.string (s++u))) :=
 .bin J.bP az.bP rfl λw=>by
  have:¬ ((s.size+u.size:Nat):Int) > IntKind.i64.max:=by
   have:IntKind.i64.max=9223372036854775807:=by decide
   omega
  simp only [eqGuard,binOp,Op.stringOp,if_neg this]
  simp
theorem I2 {s u:ByteArray}(h:s.toList=u.toList):s=u:=by
 have h1:s.data.toList=u.data.toList:=by
  rw [<- ByteArray.toList_eq,<- ByteArray.toList_eq,h]
 cases s; cases u
 congr 1
 exact Array.toList_inj.1 h1
theorem dB.ow {s u:ByteArray}(J:Rd g a (.lit (.string s))) (az:Rd g b (.lit (.string u))) {c:Bool}(ab:c=true↔s=u):dB P g (.binOp .eql t a b t2) ty (.lit (.bool c)) :=
 .bin J.bP az.bP rfl λw=>by
  have:(s.toList == u.toList)=c:=by
   rw [Bool.eq_iff_iff,ab]
   simp only [beq_iff_eq]
   exact ⟨I2,λh=>by rw [h]⟩
  simp [eqGuard,binOp,Op.stringOp,this]
theorem dB.l8 {s u:ByteArray}(J:Rd g a (.lit (.string s))) (az:Rd g b (.lit (.string u))) {c:Bool}(ab:c=true↔s≠u):dB P g (.binOp .neq t a b t2) ty (.lit (.bool c)) :=
 .bin J.bP az.bP rfl λw=>by
  have:(s.toList == u.toList)=!c:=by
   rw [Bool.eq_iff_iff]
   simp only [beq_iff_eq,Bool.not_eq_true']
   cases c with
   | true=>simp only [true_iff] at ab; simp only [Bool.true_eq_false,iff_false]; exact λh=>ab (I2 h)
   | false =>
    simp only [Bool.false_eq_true,false_iff,Decidable.not_not] at ab
    simp [ab]
  simp [eqGuard,binOp,Op.stringOp,this]
theorem dB.lss (J:Rd g a (.lit (.int k m))) (az:Rd g b (.lit (.int k n))) {c:Bool}(ab:c=true↔m<n):dB P g (.binOp .lss t a b t2) ty (.lit (.bool c)) :=
 .bin J.bP az.bP rfl λw=>by
  have:decide (m<n)=c:=by rw [Bool.eq_iff_iff,ab]; simp
  simp [eqGuard,binOp,Op.intCmp,this]
theorem dB.leq (J:Rd g a (.lit (.int k m))) (az:Rd g b (.lit (.int k n))) {c:Bool}(ab:c=true↔m<=n):dB P g (.binOp .leq t a b t2) ty (.lit (.bool c)) :=
 .bin J.bP az.bP rfl λw=>by
  have:decide (m<=n)=c:=by rw [Bool.eq_iff_iff,ab]; simp
  simp [eqGuard,binOp,Op.intCmp,this]
theorem dB.gtr (J:Rd g a (.lit (.int k m))) (az:Rd g b (.lit (.int k n))) {c:Bool}(ab:c=true↔n<m):dB P g (.binOp .gtr t a b t2) ty (.lit (.bool c)) :=
 .bin J.bP az.bP rfl λw=>by
  have:decide (n<m)=c:=by rw [Bool.eq_iff_iff,ab]; simp
  simp [eqGuard,binOp,Op.intCmp,this]
theorem dB.geq (J:Rd g a (.lit (.int k m))) (az:Rd g b (.lit (.int k n))) {c:Bool}(ab:c=true↔n<=m):dB P g (.binOp .geq t a b t2) ty (.lit (.bool c)) :=
 .bin J.bP az.bP rfl λw=>by
  have:decide (n<=m)=c:=by rw [Bool.eq_iff_iff,ab]; simp
  simp [eqGuard,binOp,Op.intCmp,this]
theorem dB.eql (J:Rd g a (.lit (.int k m))) (az:Rd g b (.lit (.int k n))) {c:Bool}(ab:c=true↔m=n):dB P g (.binOp .eql t a b t2) ty (.lit (.bool c)) :=
 .bin J.bP az.bP rfl λw=>by
  have:(m == n)=c:=by rw [Bool.eq_iff_iff,ab]; simp
  simp [eqGuard,binOp,Op.intCmp,this]
theorem dB.neq (J:Rd g a (.lit (.int k m))) (az:Rd g b (.lit (.int k n))) {c:Bool}(ab:c=true↔m≠n):dB P g (.binOp .neq t a b t2) ty (.lit (.bool c)) :=
 .bin J.bP az.bP rfl λw=>by
  have:(m != n)=c:=by rw [Bool.eq_iff_iff,ab]; simp
  simp [eqGuard,binOp,Op.intCmp,this]
theorem dB.not {c:Bool}(J:Rd g a (.lit (.bool c))):dB P g (.unOp .not t a) ty (.lit (.bool (!c))) :=
 .un J.bP rfl λw=>by simp [Op.unary]
theorem dB.TF {c a b:Operand}{y:ag}(ab:Rd g c (.lit (.bool true))) (ax:Rd g a y):dB P g (.pick c a b) ty y:=.pick ab.bP ax.bP
theorem dB.TE {c a b:Operand}{y:ag}(ab:Rd g c (.lit (.bool false))) (ax:Rd g b y):dB P g (.pick c a b) ty y:=.pick ab.bP ax.bP
theorem dB.mI {s:ByteArray}(J:Rd g a (.lit (.string s))) (aD:qg P t=true):dB P g (.call { callee:=.builtin .len,args:=#[a],argTypes:=#[t] }) ty (.lit (.int .i64 s.size)) :=
 .lits (vs:=[.string s]) (by simp [J.bP]) rfl λw cs=>by
  simp [builtin,Builtin.len_,run_underlying (HM aD),goInt]
section
variable {fR:aY->Prop}{Φ:Exit->aY->Prop}{id k:Nat}
theorem UC (h:fR g):s8 fR Φ .normal g:=h
theorem UD (h:Φ .ret g):s8 fR Φ .ret g:=h
theorem UB (h:Φ (.exit k) g):s8 fR Φ (.exit k) g:=h
theorem S3 (h:Φ .normal g):rO id Φ .normal g:=h
theorem S4 (h:Φ .ret g):rO id Φ .ret g:=h
theorem S1 (h:Φ .normal g):rO id Φ (.exit id) g:=by
 show if id=id then Φ .normal g else Φ (.exit id) g
 rw [if_pos rfl]; exact h
theorem S2 (hk:Nat.beq k id=false) (h:Φ (.exit k) g):rO id Φ (.exit k) g:=by
 show if k=id then Φ .normal g else Φ (.exit k) g
 rw [if_neg (Nat.ne_of_beq_eq_false hk)]; exact h
end
def Fin (P:Program) (N:dN) (rs:List ResultVar) (n:Nat) (outs:List (Option ag)) (res:ag) (e:Exit) (g':aY):Prop:=(e=.normal\/e=.ret)/\Leaves P N rs g' n outs res
theorem cb.fin {f:FuncId}{fn:Func}{c:Code}{args:List ag}{outs:List (Option ag)}{res:ag}{N:dN}(bl:P.funcs[f]?=some fn) (aH:fn.body=some c) (bW:fn.ntmps=N.size) (bj:Nat.ble args.length N.size=true) (hlen:outs.length=args.length)
  (hw:W P N c (o2 args) (Fin P N fn.results.toList args.length outs res)):cb P f args outs res:=.Tr bl aH bW (Nat.le_of_ble_eq_true bj) hlen hw
def vL (outs:List (Option ag)):Bool:=outs.all λx=>x.isNone
theorem Dg {outs:List (Option ag)}(h:vL outs=true) (k:Nat) (x:ag):outs[k]?≠some (some x):=by
 intro e
 have:=List.all_eq_true.1 h _ (List.mem_of_getElem? e)
 simp at this
theorem Fin.one {t:Nat}{y res:ag}{outs:List (Option ag)}{n:Nat}(az:Rd g (.tmp t) y) (aL:di y) (bd:vL outs=true) (ao:outs.length=n) (he:y=res):Fin P N [.tmp t] n outs res .ret g :=
 ⟨.inr rfl,⟨[y],[y],g,.cons (.tmp az.bP) .nil,.bK (by simpa using aL),he.symm,λk x hk=>absurd hk (Dg bd k x)⟩,ao⟩
inductive yL (g:aY):List ResultVar->List ag->Prop
 | nil:yL g [] []
 | cons {t:Nat}{y:ag}{rs:List ResultVar}{ys:List ag}(h:Rd g (.tmp t) y) (aL:di y) (aD:yL g rs ys):yL g (.tmp t::rs) (y::ys)
theorem yL.spec {rs:List ResultVar}{ys:List ag}(h:yL g rs ys):qo P g rs ys/\∀ y∈ys,di y:=by
 induction h with
 | nil=>exact ⟨.nil,by simp⟩
 | cons h aL _ aS=>exact ⟨.cons (.tmp h.bP) aS.1,oK aL aS.2⟩
inductive rj (g:aY):List Operand->List ag->Prop
 | nil:rj g [] []
 | cons {x:Operand}{y:ag}{xs:List Operand}{ys:List ag}(h:Rd g x y) (aL:di y) (aD:rj g xs ys):rj g (x::xs) (y::ys)
theorem rj.spec {xs:List Operand}{ys:List ag}(h:rj g xs ys):iI g xs=some ys/\∀ y∈ys,di y:=by
 induction h with
 | nil=>exact ⟨rfl,by simp⟩
 | cons h aL _ aS=>exact ⟨by simp only [iI,h.bP,aS.1],oK aL aS.2⟩
theorem cu.PE {xs:List Operand}{iz:Array TypeId}{f:FuncId}{ys:List ag}{outs:List (Option ag)}{res:ag}(jc:cb P f ys outs res) (bl:dM P f=true) (J:rj g xs ys) (bd:vL outs=true) (ax:di res) :
  cu P g (.call { callee:=.value (.func f),args:=xs.toArray,argTypes:=iz }) res:=by
 have pc:outs=ys.map λ_=>Option.none:=by
  apply List.ext_getElem?
  intro k
  rw [List.getElem?_map]
  cases az:ys[k]? with
  | none=>rw [List.getElem?_eq_none (by rw [jc.1]; exact List.getElem?_eq_none_iff.1 az)]; rfl
  | some y =>
   have hk:k<outs.length:=by rw [jc.1]; exact (List.getElem?_eq_some_iff.1 az).1
   have h1:=List.getElem?_eq_getElem hk
   rw [h1]
   cases al:outs[k] with
   | none=>rfl
   | some x=>rw [al] at h1; exact absurd h1 (Dg bd k x)
 exact .plain (first:=[]) (caps:=[]) (ys:=ys) rfl (by simpa using J.spec.1) bl (by simpa using J.spec.2) (by simpa [<- pc] using jc) ax
end
end Go.Own
namespace Go.Own
open Go
def yV (s:ByteArray) (m:Int):Int:=((s[m.toNat]?.getD 0).toNat:Nat)
def u2 (s:ByteArray) (m n:Int):ByteArray:=s.extract m.toNat n.toNat
section
variable {P:Program}{N:dN}{ops:Array Oper}{g:aY}{K:aY->Prop}{l:List Oper}
variable {d:Nat}{op:Op}{ty:TypeId}{pos:String}{after:Array Edge}{x:ag}{a b:Operand}{t t2:TypeId}{k:IntKind}{m n:Int}{ir:Option (Nat × Bool)}
theorem dB.N8 {s:ByteArray}{i:Operand}(J:Rd g a (.lit (.string s))) (hi:Rd g i (.lit (.int k m))) (aD:qg P t=true) (h:0<=m/\m<s.size):dB P g (.index t a i) ty (.lit (.int .u8 (yV s m))):=by
 obtain ⟨ae,rfl⟩:=Int.eq_ofNat_of_zero_le h.1
 have aa:ae<s.size:=by omega
 have aH:s[ae]?=some s[ae]:=getElem?_pos s ae aa
 have:yV s (ae:Int)=(s[ae].toNat:Nat):=by simp [yV,aH]
 rw [this]
 exact .C2 J.bP hi.bP aD aH
theorem dB.ME {s:ByteArray}{lo hi:Operand}{sS:IntKind}(J:Rd g a (.lit (.string s))) (ao:Rd g lo (.lit (.int k m))) (b9:Rd g hi (.lit (.int sS n))) (aD:qg P t=true) (h:0<=m/\m<=n/\n<=s.size) :
  dB P g (.slice t a (some lo) (some hi) none) ty (.lit (.string (u2 s m n))):=by
 obtain ⟨i,rfl⟩:=Int.eq_ofNat_of_zero_le h.1
 obtain ⟨ae,rfl⟩:=Int.eq_ofNat_of_zero_le (show 0<=n by omega)
 exact .DD J.bP ⟨_,ao.bP⟩ ⟨_,b9.bP⟩ aD (by omega) (by omega)
theorem Pq {s:ByteArray}{m n:Int}(h:0<=m/\m<=n/\n<=s.size):((u2 s m n).size:Int)=n - m:=by
 unfold u2
 rw [ByteArray.size_extract]
 omega
theorem dB.bytes {z p i_:Nat}{cs:List ag}{xs:List Int}(J:g p=some (.own 1 i_ cs)) (hy:cs=xs.map λb=>.lit (.int .u8 b)) (ao:cs.length=i_) (aD:uV P t t2=true) (_hz:z=0):dB P g (.convert t t2 (.tmp p)) ty (.lit (.string (strOfNums xs))) :=
 .Cg (p:=⟨p,[]⟩) (n:=i_) (N:=i_) (cs:=cs) (by simp [bP,J,q4,ih]) (by simp [b7,J,ag.at]) (Nat.le_refl _) (by rw [List.take_of_length_le (by omega)]; exact hy) aD
def jz (P:Program) (e:TypeId) (z:Nat):Bool :=
 match (P.info? e).bind (·.zero) with
 | some v=>v.cells.size == z
 | none=>false
theorem H3 {e:TypeId}{z:Nat}(h:jz P e z=true):∃ v,(P.info? e).bind (·.zero)=some v/\v.cells.size=z:=by
 unfold jz at h
 split at h
 ·rename_i v hv; exact ⟨v,hv,by simpa using h⟩
 ·cases h
inductive r5 (g:aY):List Operand->List Value->Prop
 | nil:r5 g [] []
 | cons {x:Operand}{v:Value}{xs:List Operand}{vs:List Value}(h:Rd g x (.lit v)) (aD:r5 g xs vs):r5 g (x::xs) (v::vs)
theorem r5.iI {xs:List Operand}{vs:List Value}(h:r5 g xs vs):iI g xs=some (vs.map .lit):=by
 induction h with
 | nil=>rfl
 | cons h _ aS=>simp only [Own.iI,h.bP,aS]; rfl
theorem r5.map {xs:List Operand}{vs:List Value}(h:r5 g xs vs):xs.map (bP g)=vs.map λv=>some (.lit v):=by
 induction h with
 | nil=>rfl
 | cons h _ aS=>simp only [List.map_cons,h.bP,aS]
theorem dE.row {e:TypeId}{xs:List Operand}{vs:List Value}{parts:Array (Nat × Operand)}{h2:Nat}(J:r5 g xs vs) (aG:parts.toList=xs.mapIdx (λi x=>(i,x))) (aL:xs.length=h2) (aD:fy P t e 1=true) (bM:jz P e 1=true) (aH:Nat.ble h2 1000=true) :
  dE P g (.buildSlice t h2 parts) ty (.own 1 h2 (vs.map .lit)):=by
 subst aL
 have kC:=Nat.le_of_ble_eq_true aH
 refine .p8 (.buildSlice aD aG J.iI (λy az=>?_) ?_ (by omega) (by omega) (.inr (H3 bM)))
 ·obtain ⟨v,_,rfl⟩:=List.mem_map.1 az
  exact ⟨[.lit v],rfl,rfl⟩
 ·generalize vs=l
  induction l with
  | nil=>rfl
  | cons v l aS=>simp only [List.map_cons,o3,lX,aS]; rfl
inductive r7 (g:aY):List Nat->List (Nat × ag)->Prop
 | nil:r7 g [] []
 | some {s:Nat}{x:ag}{rX:List Nat}{l:List (Nat × ag)}(h:g s=some x) (aL:di x) (aD:r7 g rX l):r7 g (s::rX) ((s,x)::l)
 | none {s:Nat}{rX:List Nat}{l:List (Nat × ag)}(aD:r7 g rX l):r7 g (s::rX) l
theorem r7.spec {g:aY}{rX:List Nat}{l:List (Nat × ag)}(h:r7 g rX l):∀ t x,get l t=Option.some x->g t=Option.some x/\di x:=by
 induction h with
 | nil=>intro t x J; cases J
 | @some s y rX l h aL _ aS =>
  intro t x J
  simp only [get] at J
  split at J
  ·rename_i e; subst e; cases J; exact ⟨h,aL⟩
  ·exact aS t x J
 | none _ aS=>exact aS
theorem r7.gb {g:aY}{rX:List Nat}{l:List (Nat × ag)}(h:r7 g rX l):kS g (get l) :=
 ⟨λt x J=>⟨x,(h.spec t x J).1,.refl⟩,λt x J=>.bK (h.spec t x J).2,λt z q n m new J=>by have:=(h.spec t _ J).2; cases this⟩
end
end Go.Own
namespace Go.Own
open Go
def o0 (s:ByteArray) (n:Nat):Prop:=s.size<=n
theorem o0.app {s u:ByteArray}{a b:Nat}(h:o0 s a) (aT:o0 u b):o0 (s++u) (a+b):=by
 unfold o0 at *
 rw [ByteArray.size_append]; omega
theorem o0.cut {s:ByteArray}{a:Nat}{m n:Int}(h:o0 s a):o0 (u2 s m n) a:=by
 unfold o0 u2 at *
 rw [ByteArray.size_extract]; omega
theorem o0.const {xs:Array UInt8}:o0 ⟨xs⟩ xs.size:=Nat.le_refl _
theorem o0.self {s:ByteArray}:o0 s s.size:=Nat.le_refl _
section
variable {P:Program}{g:aY}{ty:TypeId}{a b:Operand}{t t2:TypeId}{N:dN}{ops:Array Oper}{K:aY->Prop}{l:List Oper}{d:Nat}{pos:String}{after:Array Edge}{ir:Option (Nat × Bool)}
theorem W.JB {c:Operand}{x y:Code}{Φ:Exit->aY->Prop}{b:Bool}(ab:Rd g c (.lit (.bool b))) (fM:b=true->W P N x g Φ) (aR:b=false->W P N y g Φ):W P N (.cond c x y) g Φ:=by
 cases b with
 | true=>exact .JC ab.bP (fM rfl)
 | false=>exact .JA ab.bP (aR rfl)
theorem T0 {c e:Bool}(aD:P.underlying t=some .bool) (w:World):(do eqGuard .eql t a b (.bool c) (.bool e); binOp .eql t (.bool c) (.bool e):Sem Value).run P w=.ok (.bool (c == e)) w:=by
 have h:=run_equal_bool w t c e aD
 simp [eqGuard,binOp,h]
theorem T2 {c e:Bool}(aD:P.underlying t=some .bool) (w:World):(do eqGuard .neq t a b (.bool c) (.bool e); binOp .neq t (.bool c) (.bool e):Sem Value).run P w=.ok (.bool (!(c == e))) w:=by
 have h:=run_equal_bool w t c e aD
 simp [eqGuard,binOp,h]
def yT (P:Program) (t:TypeId):Bool :=
 match P.underlying t with
 | some .bool=>true
 | _=>false
theorem IV (h:yT P t=true):P.underlying t=some .bool:=by
 unfold yT at h
 split at h
 ·assumption
 ·cases h
def sQ (P:Program) (t:TypeId) (k:IntKind):Bool :=
 match P.underlying t with
 | some (.int l7)=>l7 == k
 | _=>false
theorem Ly {k:IntKind}(h:sQ P t k=true):P.underlying t=some (.int k):=by
 unfold sQ at h
 split at h
 ·rename_i l7 hk; rw [hk]; have:l7=k:=by simpa using h
  rw [this]
 ·cases h
theorem dB.Pn {k l7:IntKind}{m:Int}(J:Rd g a (.lit (.int k m))) (aN:sQ P t k=true) (aV:sQ P t2 l7=true):dB P g (.convert t t2 a) ty (.lit (.int l7 (l7.wrap m))) :=
 .conv J.bP rfl λw=>by simp [convert,run_underlying (Ly aN),run_underlying (Ly aV),Conv.intToInt]
inductive Bytes (g:aY):List Operand->List Int->Prop
 | nil:Bytes g [] []
 | cons {x:Operand}{v:Int}{xs:List Operand}{vs:List Int}(h:Rd g x (.lit (.int .u8 v))) (aD:Bytes g xs vs):Bytes g (x::xs) (v::vs)
theorem Bytes.lits {xs:List Operand}{vs:List Int}(h:Bytes g xs vs):r5 g xs (vs.map λb=>.int .u8 b):=by
 induction h with
 | nil=>exact .nil
 | cons h _ aS=>exact .cons h aS
end
end Go.Own
namespace Go.Own
open Go Go.RowKit
theorem cY.lits {w:World}(vs:List Value) (h:∀ v∈vs,v.oneCell'=true):cY w (λ_=>False) vs.toArray (o2 (vs.map .lit)) (λ_=>cU):=by
 refine ⟨λt x J=>?_,λ_ _ _ h=>h,λ_ _ _ h=>h.elim,λ_ _ h=>h.elim,λ_ h=>h.elim,λt dn z p n m new cJ cX m' dj h1 _=>?_⟩
 ·simp only [o2,List.getElem?_map] at J
  cases hv:vs[t]? with
  | none=>rw [hv] at J; cases J
  | some v =>
   rw [hv] at J
   simp only [Option.map_some,Option.some.injEq] at J
   subst J
   exact ⟨v,by simpa using hv,.tree (.lit (h v (List.mem_of_getElem? hv)) λ_ h=>h)⟩
 ·simp only [o2,List.getElem?_map] at h1
  cases hv:vs[t]? with
  | none=>rw [hv] at h1; cases h1
  | some v=>rw [hv] at h1; cases h1
end Go.Own
namespace Go.Own
open Go
section
variable {P:Program}{g:aY}{ty:TypeId}{a b:Operand}{t t2:TypeId}{N:dN}{ops:Array Oper}{K:aY->Prop}{l:List Oper}{d:Nat}{pos:String}{after:Array Edge}{ir:Option (Nat × Bool)}
theorem dB.ph {z n cJ:Nat}{p:Place}{e:TypeId}(J:Rd g a (.bn z p n)) (aD:fy P t e cJ=true):dB P g (.call { callee:=.builtin .len,args:=#[a],argTypes:=#[t] }) ty (.lit (.int .i64 n)):=.Aw J.bP aD
theorem dB.h0 {z n cJ:Nat}{cs:List ag}{e:TypeId}(J:Rd g a (.aE z n cs)) (aD:fy P t e cJ=true):dB P g (.call { callee:=.builtin .len,args:=#[a],argTypes:=#[t] }) ty (.lit (.int .i64 n)):=.Ax J.bP aD
end
end Go.Own
namespace Go.Own
open Go
end Go.Own
namespace Go.Own
open Go
structure cD (α:Type) where
 z:Nat
 cells:α->List ag
 len:∀ a,(cells a).length=z
 bK:∀ a,∀ x∈cells a,di x
variable {α β S R:Type}
def ch (e:cD α) (l:List α):List ag:=l.flatMap e.cells
abbrev ak (e:cD α) (l:List α):ag:=.own e.z l.length (ch e l)
abbrev ah (e:cD α) (l:List α):ag:=.aE e.z l.length (ch e l)
abbrev j (n:Int):ag:=.lit (.int .i64 n)
abbrev ml (n:Int):ag:=.lit (.int .u8 n)
abbrev a1 (b:Bool):ag:=.lit (.bool b)
abbrev ai (s:ByteArray):ag:=.lit (.string s)
abbrev aQ (n:Int):Int:=IntKind.i64.wrap n
abbrev uF (n:Int):Int:=IntKind.u8.wrap n
theorem oM (e:cD α) (l:List α):(ch e l).length=l.length * e.z:=by
 induction l with
 | nil=>simp [ch]
 | cons a l aS =>
  have:ch e (a::l)=e.cells a++ch e l:=by simp [ch]
  rw [this,List.length_append,e.len,aS,List.length_cons,Nat.add_mul]; omega
theorem n_ (e:cD α) (l:List α):∀ x∈ch e l,di x:=by
 intro x J
 obtain ⟨a,_,h⟩:=List.mem_flatMap.1 J
 exact e.bK a x h
theorem we (e:cD α) (l m:List α):ch e (l++m)=ch e l++ch e m:=by simp [ch]
theorem Bm (e:cD α):∀ (l:List α) (i:Nat),(ch e l).drop (i * e.z)=ch e (l.drop i)
 | l,0=>by simp
 | [],i+1=>by simp [ch]
 | a::l,i+1=>by
  have h:ch e (a::l)=e.cells a++ch e l:=by simp [ch]
  rw [h,List.drop_append,e.len,List.drop_eq_nil_of_le (by rw [e.len,Nat.add_mul]; omega)]
  have:(i+1) * e.z - e.z=i * e.z:=by rw [Nat.add_mul]; omega
  rw [this,List.nil_append,Bm e l i]; rfl
theorem yj (e:cD α):∀ (l:List α) (i:Nat),(ch e l).take (i * e.z)=ch e (l.take i)
 | l,0=>by simp [ch]
 | [],i+1=>by simp [ch]
 | a::l,i+1=>by
  have h:ch e (a::l)=e.cells a++ch e l:=by simp [ch]
  rw [h,List.take_append,e.len,List.take_of_length_le (by rw [e.len,Nat.add_mul]; omega)]
  have:(i+1) * e.z - e.z=i * e.z:=by rw [Nat.add_mul]; omega
  rw [this,yj e l i]; simp [ch]
def idx (l:List α) (i:Int):Option α:=if 0<=i then l[i.toNat]? else none
theorem qX {l:List α}{i:Int}{y:α}(h:idx l i=some y):0<=i/\i<l.length/\l[i.toNat]?=some y:=by
 unfold idx at h
 split at h
 ·have:=(List.getElem?_eq_some_iff.1 h).1
  exact ⟨by assumption,by omega,h⟩
 ·cases h
theorem Mj (e:cD α) {l:List α}{i:Int}{y:α}(h:idx l i=some y):(ch e l).drop (i.toNat * e.z)=e.cells y++ch e (l.drop (i.toNat+1)):=by
 obtain ⟨bb,h1,al⟩:=qX h
 rw [Bm]
 obtain ⟨bc,he⟩:=List.getElem?_eq_some_iff.1 al
 rw [List.drop_eq_getElem_cons bc,he]; simp [ch]
theorem Mi (e:cD α) {l:List α}{i:Int}{y:α}(h:idx l i=some y) {k:Nat}{x:ag}(hk:(e.cells y)[k]?=some x):(ch e l)[i.toNat * e.z+k]?=some x:=by
 have bc:=(List.getElem?_eq_some_iff.1 hk).1
 rw [<- List.getElem?_drop,Mj e h,List.getElem?_append_left bc]; exact hk
abbrev lim:Nat:=1099511627776
def fuel:Nat:=1000000000000000000
def iter (f:S->Option (S ⊕ R)):Nat->S->Option R
 | 0,_=>none
 | n+1,s=>match f s with
  | none=>none
  | some (.inl fe)=>iter f n fe
  | some (.inr r)=>some r
def cS (f:S->Option (S ⊕ R)) (s:S):Option R:=iter f fuel s
theorem ay {o:Option α}{f:α->Option β}{r:β}(h:o.bind f=some r):∃ y,o=some y/\f y=some r:=Option.bind_eq_some_iff.1 h
theorem OG {b:Bool}{x y o:α}(aH:b=true) (h:cond b x y=o):x=o:=by subst aH; exact h
theorem OF {b:Bool}{x y o:α}(aH:b=false) (h:cond b x y=o):y=o:=by subst aH; exact h
theorem cz {b:Bool}{x y o:α}(h:cond b x y=o):(b=true/\x=o)\/(b=false/\y=o):=by cases b <;> simp_all
theorem au {a b:α}(h:some a=some b):a=b:=Option.some.inj h
class cT (x:ag):Prop where bK:di x
class e0 (cs:List ag):Prop where bK:∀ x∈cs,di x
instance {v:Value}:cT (.lit v):=⟨.lit⟩
instance:cT .aK:=⟨.aK⟩
instance:cT .dead:=⟨.dead⟩
instance {z n:Nat}{cs:List ag} [h:e0 cs]:cT (.aE z n cs):=⟨.aE h.bK⟩
instance {z n:Nat}{cs:List ag} [h:e0 cs]:cT (.own z n cs):=⟨.own h.bK⟩
instance {cs:List ag} [h:e0 cs]:cT (.obj cs):=⟨.obj h.bK⟩
instance {cs:List ag} [h:e0 cs]:cT (.agg cs):=⟨.agg h.bK⟩
instance {cs:List ag} [h:e0 cs]:cT (.cB cs):=⟨.cB h.bK⟩
instance {cs:List ag} [h:e0 cs]:cT (.bo cs):=⟨.bo h.bK⟩
instance {f:Fn}{a b:List ag} [h:e0 a] [aT:e0 b]:cT (.er f a b):=⟨.er h.bK aT.bK⟩
instance:e0 []:=⟨by simp⟩
instance {x:ag}{cs:List ag} [h:cT x] [aT:e0 cs]:e0 (x::cs):=⟨oK h.bK aT.bK⟩
instance {e:cD α}{l:List α}:e0 (ch e l):=⟨n_ e l⟩
instance {e:cD α}{a:α}:e0 (e.cells a):=⟨e.bK a⟩
instance {a b:List ag} [h:e0 a] [aT:e0 b]:e0 (a++b):=⟨λx J=>(List.mem_append.1 J).elim (h.bK x) (aT.bK x)⟩
instance {a:List ag}{n:Nat} [h:e0 a]:e0 (a.drop n):=⟨λx J=>h.bK x (List.mem_of_mem_drop J)⟩
instance {a:List ag}{n:Nat} [h:e0 a]:e0 (a.take n):=⟨λx J=>h.bK x (List.mem_of_mem_take J)⟩
instance {v:Value}{n:Nat}:e0 (List.replicate n (.lit v)):=⟨λx J=>by rw [(List.mem_replicate.1 J).2]; exact .lit⟩
abbrev cD.one (f:α->ag) (h:∀ a,di (f a)):cD α:=⟨1,λa=>[f a],λ_=>rfl,λa x J=>by rw [List.mem_singleton.1 J]; exact h a⟩
def aI:cD Int:=.one (λn=>j n) λ_=>.lit
def o5:cD Int:=.one (λn=>ml n) λ_=>.lit
def bJ:cD Bool:=.one (λb=>a1 b) λ_=>.lit
def cy:cD ByteArray:=.one (λs=>ai s) λ_=>.lit
def JI (e:cD α):cD (List α):=.one (λl=>ak e l) λl=>.own (n_ e l)
def bg (e:cD α):cD (List α):=.one (λl=>ah e l) λl=>.aE (n_ e l)
inductive Trim (b:Bool) (g g2:aY):List (Nat × ag)->Prop
 | nil:Trim b g g2 []
 | n {s:Nat}{x:ag}{l:List (Nat × ag)}(h:g s=some x) [aL:cT x] (t:Trim b g g2 l):Trim b g g2 ((s,x)::l)
 | r {s:Nat}{x:ag}{l:List (Nat × ag)}(h:g s=some x) (aL:e3 g2 x) (aG:∀ z p n m new,x≠.bX z p n m new) (t:Trim b g g2 l):Trim b g g2 ((s,x)::l)
 | e {s:Nat}{x y:ag}{l:List (Nat × ag)}(h:g s=some y) (he:y=x) [aL:cT x] (t:Trim b g g2 l):Trim b g g2 ((s,x)::l)
 | w {s:Nat}{x y:ag}{l:List (Nat × ag)}(aH:b=true) (h:g s=some y) (hw:ou y x) [aL:cT x] (t:Trim b g g2 l):Trim b g g2 ((s,x)::l)
theorem Trim.spec {b:Bool}{g g2:aY}{l:List (Nat × ag)}(h:Trim b g g2 l):∀ t x,get l t=some x->(∃ y,g t=some y/\ou y x/\(b=false->y=x))/\e3 g2 x/\∀ z p n m new,x≠.bX z p n m new:=by
 have fO:∀ {x:ag},di x->∀ z p n m new,x≠.bX z p n m new:=by rintro x h z p n m new rfl; cases h
 induction h with
 | nil=>intro t x J; cases J
 | @n _ _ _ h aL _ aS =>
  intro t x J; simp only [get] at J
  split at J
  ·rename_i e; subst e; cases J; exact ⟨⟨_,h,.refl,λ_=>rfl⟩,.bK aL.bK,fO aL.bK⟩
  ·exact aS t x J
 | r h aL aG _ aS =>
  intro t x J; simp only [get] at J
  split at J
  ·rename_i e; subst e; cases J; exact ⟨⟨_,h,.refl,λ_=>rfl⟩,aL,aG⟩
  ·exact aS t x J
 | @e _ _ _ _ h he aL _ aS =>
  intro t x J; simp only [get] at J
  split at J
  ·rename_i e; subst e he; cases J; exact ⟨⟨_,h,.refl,λ_=>rfl⟩,.bK aL.bK,fO aL.bK⟩
  ·exact aS t x J
 | @w _ _ _ _ aH h hw aL _ aS =>
  intro t x J; simp only [get] at J
  split at J
  ·rename_i e; subst e; cases J; exact ⟨⟨_,h,hw,λh=>by rw [aH] at h; cases h⟩,.bK aL.bK,fO aL.bK⟩
  ·exact aS t x J
theorem Trim.gb {b:Bool}{g:aY}{l:List (Nat × ag)}(h:Trim b g (get l) l):kS g (get l) :=
 ⟨λt x J=>by obtain ⟨⟨y,h1,al,_⟩,_⟩:=h.spec t x J; exact ⟨y,h1,al⟩,λt x J=>(h.spec t x J).2.1,λt z q n m new J=>(h.spec t _ J).2.2 _ _ _ _ _ rfl⟩
theorem Trim.keep {g:aY}{l:List (Nat × ag)}(h:Trim false g (get l) l):hI g (get l) :=
 ⟨λt x J=>by obtain ⟨⟨y,h1,_,aO⟩,_⟩:=h.spec t x J; rw [<- aO rfl]; exact h1,λt x J=>(h.spec t x J).2.1,λt z q n m new J=>(h.spec t _ J).2.2 _ _ _ _ _ rfl⟩
section
variable {P:Program}{N:dN}{ops:Array Oper}{g:aY}{K:aY->Prop}{l:List Oper}{d:Nat}{op:Op}{ty:TypeId}{pos:String}{after:Array Edge}{x:ag}{ir:Option (Nat × Bool)}
def jW (P:Program) (N:dN) (c:Code) (G G1:List (Nat × ag)):Prop:=W P N c (get G) λe g'=>e=.normal/\kS g' (get G1)
theorem W.aX {A B:Code}{G G1:List (Nat × ag)}{Φ:Exit->aY->Prop}(h1:jW P N A G G1) (al:W P N B (get G1) Φ):W P N (.seq A B) (get G) Φ:=by
 refine W.seq (W.out h1 λe g' h=>⟨get G1,h.2,?_⟩)
 obtain ⟨rfl,_⟩:=h
 exact al
theorem W.aZ {A B:Code}{G:List (Nat × ag)}{Φ:Exit->aY->Prop}(h:W P N A (get G) (s8 (λg1=>W P N B g1 Φ) Φ)):W P N (.seq A B) (get G) Φ:=W.seq h
theorem ar.fin {G1:List (Nat × ag)}(h:Trim true g (get G1) G1):ar P N ops [] g λg'=>kS g' (get G1):=.nil h.gb
theorem ar.TO {G1:List (Nat × ag)}(h:Trim false g (get G1) G1) (hk:ar P N ops l (get G1) K):ar P N ops l g K:=.forget h.keep hk
theorem ar.v (aG:dE P g op ty x) (bW:N.ok d=true) (bl:g d=none) (a8:gu g ops ir) (hk:ar P N ops l (e9 g d x) K):ar P N ops (⟨some d,op,ty,pos,after,ir⟩::l) g K:=.UO aG bW bl a8 hk
theorem ar.c (aG:cu P g op x) (bW:N.ok d=true) (bl:g d=none) (a8:gu g ops ir) (hk:ar P N ops l (e9 g d x) K):ar P N ops (⟨some d,op,ty,pos,after,ir⟩::l) g K:=.call aG bW bl a8 hk
theorem gu.hh {ae t:Nat}{b c:Bool}(h:(ops[ae]?).bind (·.dst)=some t) (a8:g t=some (.lit (.bool c))) (aH:c=b):gu g ops (some (ae,b)):=by subst aH; exact .yes h a8
theorem ar.ps {ae dn:Nat}{b c:Bool}(h:(ops[ae]?).bind (·.dst)=some dn) (a8:g dn=some (.lit (.bool c))) (aH:c=!b) (bW:N.ok d=true) (bl:g d=none) (hk:ar P N ops l (e9 g d (.cB [])) K):ar P N ops (⟨some d,op,ty,pos,after,some (ae,b)⟩::l) g K:=by
 subst aH; exact .yp rfl bW bl (r:=some (.cB [])) (.inr (.inl ⟨⟨dn,h,.inl ⟨_,a8,by cases b <;> rfl⟩⟩,rfl⟩)) hk
theorem ar.pu {ae dn:Nat}{b:Bool}(h:(ops[ae]?).bind (·.dst)=some dn) (a8:g dn=some (.cB [])) (bW:N.ok d=true) (bl:g d=none) (hk:ar P N ops l (e9 g d (.cB [])) K):ar P N ops (⟨some d,op,ty,pos,after,some (ae,b)⟩::l) g K :=
 .yp rfl bW bl (r:=some (.cB [])) (.inr (.inl ⟨⟨dn,h,.inr ⟨a8,rfl⟩⟩,rfl⟩)) hk
theorem jW.skip {G G1:List (Nat × ag)}(h:Trim true (get G) (get G1) G1):jW P N .skip G G1:=W.skip ⟨rfl,h.gb⟩
theorem jW.cz {t:Nat}{A B:Code}{b:Bool}{G G1:List (Nat × ag)}(ab:get G t=some (a1 b)) (fM:b=true->jW P N A G G1) (aR:b=false->jW P N B G G1):jW P N (.cond (.tmp t) A B) G G1:=W.JB (.lit ab) fM aR
theorem W.cz {t:Nat}{A B:Code}{b:Bool}{G:List (Nat × ag)}{Φ:Exit->aY->Prop}(ab:get G t=some (a1 b)) (fM:b=true->W P N A (get G) Φ) (aR:b=false->W P N B (get G) Φ):W P N (.cond (.tmp t) A B) (get G) Φ:=W.JB (.lit ab) fM aR
theorem jW.aX {A B:Code}{G G1 G2:List (Nat × ag)}(h1:jW P N A G G1) (al:jW P N B G1 G2):jW P N (.seq A B) G G2:=W.aX h1 al
theorem jW.B8 {id:Nat}{c:Code}{G G1:List (Nat × ag)}(h:W P N c (get G) λe g'=>(e=.normal\/e=.exit id)/\kS g' (get G1)):jW P N (.block id c) G G1:=by
 refine W.block (h.mono ?_)
 rintro e g' ⟨rfl | rfl,h⟩
 ·exact ⟨rfl,h⟩
 ·show if id=id then _ else _
  rw [if_pos rfl]; exact ⟨rfl,h⟩
end
end Go.Own
namespace Go.Own
open Go
variable {α β:Type}
def kV (s:ByteArray) (m:Int):Option Int:=if 0<=m/\m<s.size then some (yV s m) else none
def u1 (s:ByteArray) (m n:Int):Option ByteArray:=if 0<=m/\m<=n/\n<=s.size then some (u2 s m n) else none
def sd (s u:ByteArray):Option ByteArray:=if s.size+u.size<=4611686018427387904 then some (s++u) else none
def Dt (m n:Int):Option Int:=if n=0 then none else some (aQ (m.tdiv n))
def p' (m n:Int):Option Int:=if n=0 then none else some (m.tmod n)
def qh (l:List α) (m n:Int):Option (List α):=if 0<=m/\m<=n/\n<=l.length then some ((l.drop m.toNat).take (n - m).toNat) else none
def lH:ag->Bool
 | .lit _ | .aK | .aE .. | .bo _ | .er .. | .ptr .. | .bn .. | .sub .. | .hD .. | .imp ..=>true
 | _=>false
theorem PV {d:Nat}{p:Place}{x:ag}(h:lH x=true):ih d p x=x:=by
 cases x <;> simp [lH] at h <;> cases d <;> rfl
theorem PW {t:Nat}{x:ag}(h:lH x=true):q4 t x=x:=by
 cases x <;> simp [lH] at h <;> rfl
theorem zu {d:Nat}{q:Nat->Place}{cs:List ag}(h:cs.all lH=true):(cs.mapIdx λi x=>ih d (q i) x)=cs:=by
 apply List.ext_getElem?
 intro k
 rw [List.getElem?_mapIdx]
 cases hk:cs[k]? with
 | none=>rfl
 | some x=>simp only [Option.map_some,PV (List.all_eq_true.1 h x (List.mem_of_getElem? hk))]
section
variable {P:Program}{N:dN}{ops:Array Oper}{g:aY}{K:aY->Prop}{l:List Oper}{d:Nat}{ty t t2:TypeId}{a b c:Operand}{k l7:IntKind}{m n:Int}{s u:ByteArray}{p q e:Bool}
theorem Rd.f {t:Nat}{x:ag}(h:g t=some x) (bl:lH x=true):Own.bP g (.tmp t)=some x:=by simp only [Own.bP,h,Option.map_some,PW bl]
theorem Rd.b' {t:Nat}{cs:List ag}(h:g t=some (.agg cs)) (bl:cs.all lH=true):Rd g (.tmp t) (.agg cs):=.agg h (zu bl)
theorem Rd.Bw {t:Nat}{cs:List ag}(h:g t=some (.cB cs)) (bl:cs.all lH=true):Rd g (.tmp t) (.cB cs):=.cB h (zu bl)
namespace O
theorem aA {y:ag}(h:Rd g a y):dE P g (.move a) ty y:=.fA (.move h.bP)
theorem dO {y:ag}(h:Rd g a y):dE P g (.assign a) ty y:=.fA (.assign h.bP)
theorem dS {y:ag}(ab:Rd g c (a1 p)) (aH:p=true) (h:Rd g a y):dE P g (.pick c a b) ty y:=by subst aH; exact .fA (.TF ab h)
theorem cZ {y:ag}(ab:Rd g c (a1 p)) (aH:p=false) (h:Rd g b y):dE P g (.pick c a b) ty y:=by subst aH; exact .fA (.TE ab h)
theorem add (J:Rd g a (.lit (.int k m))) (az:Rd g b (.lit (.int k n))):dE P g (.binOp .add t a b t2) ty (.lit (.int k (k.wrap (m+n)))):=.fA (.add J az)
theorem sub (J:Rd g a (.lit (.int k m))) (az:Rd g b (.lit (.int k n))):dE P g (.binOp .sub t a b t2) ty (.lit (.int k (k.wrap (m - n)))):=.fA (.Uj J az)
theorem quo {r:Int}(J:Rd g a (j m)) (az:Rd g b (j n)) (h:Dt m n=some r):dE P g (.binOp .quo t a b t2) ty (j r):=by
 unfold Dt at h
 split at h
 ·cases h
 ·cases h; exact .fA (.quo J az (by assumption))
theorem rem {r:Int}(J:Rd g a (j m)) (az:Rd g b (j n)) (h:p' m n=some r):dE P g (.binOp .rem t a b t2) ty (j r):=by
 unfold p' at h
 split at h
 ·cases h
 ·cases h; exact .fA (.rem J az (by assumption))
theorem lss (J:Rd g a (.lit (.int k m))) (az:Rd g b (.lit (.int k n))):dE P g (.binOp .lss t a b t2) ty (a1 (decide (m<n))):=.fA (.lss J az (by simp))
theorem leq (J:Rd g a (.lit (.int k m))) (az:Rd g b (.lit (.int k n))):dE P g (.binOp .leq t a b t2) ty (a1 (decide (m<=n))):=.fA (.leq J az (by simp))
theorem gtr (J:Rd g a (.lit (.int k m))) (az:Rd g b (.lit (.int k n))):dE P g (.binOp .gtr t a b t2) ty (a1 (decide (n<m))):=.fA (.gtr J az (by simp))
theorem geq (J:Rd g a (.lit (.int k m))) (az:Rd g b (.lit (.int k n))):dE P g (.binOp .geq t a b t2) ty (a1 (decide (n<=m))):=.fA (.geq J az (by simp))
theorem eql (J:Rd g a (.lit (.int k m))) (az:Rd g b (.lit (.int k n))):dE P g (.binOp .eql t a b t2) ty (a1 (decide (m=n))):=.fA (.eql J az (by simp))
theorem neq (J:Rd g a (.lit (.int k m))) (az:Rd g b (.lit (.int k n))):dE P g (.binOp .neq t a b t2) ty (a1 (!decide (m=n))):=.fA (.neq J az (by simp))
theorem ow (J:Rd g a (ai s)) (az:Rd g b (ai u)):dE P g (.binOp .eql t a b t2) ty (a1 (decide (s=u))):=.fA (.ow J az (by simp))
theorem l8 (J:Rd g a (ai s)) (az:Rd g b (ai u)):dE P g (.binOp .neq t a b t2) ty (a1 (!decide (s=u))):=.fA (.l8 J az (by simp))
theorem PH (J:Rd g a (a1 p)) (az:Rd g b (a1 q)) (aD:yT P t=true):dE P g (.binOp .eql t a b t2) ty (a1 (p == q)):=.fA (.bin J.bP az.bP rfl λw=>T0 (IV aD) w)
theorem Tl (J:Rd g a (a1 p)) (az:Rd g b (a1 q)) (aD:yT P t=true):dE P g (.binOp .neq t a b t2) ty (a1 (!(p == q))):=.fA (.bin J.bP az.bP rfl λw=>T2 (IV aD) w)
theorem neg (J:Rd g a (.lit (.int k m))):dE P g (.unOp .neg t a) ty (.lit (.int k (k.wrap (-m)))):=.fA (.un J.bP rfl λw=>by simp [Op.unary,Op.intArith])
theorem not (J:Rd g a (a1 p)):dE P g (.unOp .not t a) ty (a1 (!p)):=.fA (.not J)
theorem Ci (J:Rd g a (.lit (.int k m))) (aN:sQ P t k=true) (aV:sQ P t2 l7=true):dE P g (.convert t t2 a) ty (.lit (.int l7 (l7.wrap m))):=.fA (.Pn J aN aV)
theorem cat {r:ByteArray}(J:Rd g a (ai s)) (az:Rd g b (ai u)) (h:sd s u=some r):dE P g (.binOp .add t a b t2) ty (ai r):=by
 unfold sd at h
 split at h
 ·cases h; exact .fA (.cat J az (by omega))
 ·cases h
theorem mI (J:Rd g a (ai s)) (aD:qg P t=true):dE P g (.call { callee:=.builtin .len,args:=#[a],argTypes:=#[t] }) ty (j s.size):=.fA (.mI J aD)
theorem qq {r:Int}(J:Rd g a (ai s)) (az:Rd g b (.lit (.int k m))) (aD:qg P t=true) (h:kV s m=some r):dE P g (.index t a b) ty (ml r):=by
 unfold kV at h
 split at h
 ·cases h; exact .fA (.N8 J az aD (by assumption))
 ·cases h
theorem yn {r:ByteArray}{sS:IntKind}(J:Rd g a (ai s)) (ao:Rd g b (.lit (.int k m))) (b9:Rd g c (.lit (.int sS n))) (aD:qg P t=true) (h:u1 s m n=some r):dE P g (.slice t a (some b) (some c) none) ty (ai r):=by
 unfold u1 at h
 split at h
 ·cases h; exact .fA (.ME J ao b9 aD (by assumption))
 ·cases h
theorem h0 {z cJ n:Nat}{cs:List ag}{e:TypeId}(J:Rd g a (.aE z n cs)) (aD:fy P t e cJ=true):dE P g (.call { callee:=.builtin .len,args:=#[a],argTypes:=#[t] }) ty (j n):=.fA (.Ax J.bP aD)
theorem cC {en:cD α}{L:List α}{y:α}{e:TypeId}(J:Rd g a (.aE en.z L.length (ch en L))) (az:Rd g b (.lit (.int k m))) (aD:fy P t e en.z=true) (h:idx L m=some y):dE P g (.indexAddr t a b) ty (.bo (en.cells y++ch en (L.drop (m.toNat+1)))):=by
 rw [<- Mj en h]
 obtain ⟨bb,h1,_⟩:=qX h
 obtain ⟨ae,rfl⟩:=Int.eq_ofNat_of_zero_le bb
 exact .fA (.C1 J.bP az.bP aD (by omega))
theorem HI {en:cD α}{L r:List α}{e:TypeId}(J:Rd g a (.aE en.z L.length (ch en L))) (b9:Rd g c (.lit (.int k n))) (aD:fy P t e en.z=true) (h:qh L 0 n=some r):dE P g (.slice t a none (some c) none) ty (ah en r):=by
 unfold qh at h
 split at h
 ·rename_i ab
  obtain ⟨_,h1,al⟩:=ab
  cases h
  obtain ⟨ae,rfl⟩:=Int.eq_ofNat_of_zero_le h1
  have:=dB.Bs (P:=P) (ty:=ty) (t:=t) (l:=0) (h:=ae) (lo:=none) (hi:=some c) J.bP rfl ⟨_,b9.bP⟩ aD (by omega) (by omega)
  rw [Bm,yj] at this
  have dt:(((L.drop 0).take (ae - 0)).length)=ae - 0:=by rw [List.length_take,List.length_drop]; omega
  have c3:((ae:Int) - 0).toNat=ae - 0:=by omega
  rw [c3]
  unfold ah
  have jY:(0:Int).toNat=0:=rfl
  rw [jY,dt]
  exact .fA this
 ·cases h
theorem HJ {en:cD α}{L r:List α}{e:TypeId}(J:Rd g a (.aE en.z L.length (ch en L))) (ao:Rd g b (.lit (.int k m))) (aD:fy P t e en.z=true) (h:qh L m L.length=some r):dE P g (.slice t a (some b) none none) ty (ah en r):=by
 unfold qh at h
 split at h
 ·rename_i ab
  obtain ⟨bb,h1,al⟩:=ab
  cases h
  obtain ⟨i,rfl⟩:=Int.eq_ofNat_of_zero_le bb
  have:=dB.Bs (P:=P) (ty:=ty) (t:=t) (l:=i) (h:=L.length) (lo:=some b) (hi:=none) J.bP ⟨_,ao.bP⟩ rfl aD (by omega) (by omega)
  rw [Bm,yj] at this
  have dt:(((L.drop i).take (L.length - i)).length)=L.length - i:=by rw [List.length_take,List.length_drop]; omega
  have c3:((L.length:Int) - (i:Int)).toNat=L.length - i:=by omega
  rw [Int.toNat_natCast,c3]
  unfold ah
  rw [dt]
  exact .fA this
 ·cases h
theorem ej {fe f off:Nat}{cs:List ag}(J:Rd g a (.bo cs)) (bl:dH P fe f off t=true):dE P g (.fieldAddr fe a f) ty (.bo (cs.drop off)):=.fA (.Cu J.bP bl)
theorem c9 {x:ag}{cs:List ag}(J:Rd g a (.bo cs)) (aD:hs P t=true) (ab:cs.head?=some x):dE P g (.load t a) ty x:=by
 cases cs with
 | nil=>cases ab
 | cons y cs=>cases ab; exact .fA (.C_ J.bP aD)
theorem iV {z:Nat}{cs cs':List ag}(J:Rd g a (.bo cs)) (aD:i' P t z=true) (ab:cs.take z=cs') (bM:cs'.length=z):dE P g (.load t a) ty (.agg cs'):=by
 subst ab
 exact .fA (.C' J.bP aD (by rw [List.length_take] at bM; omega))
theorem Hd {cs:List ag}(J:Rd g a (.bo cs)):dE P g (.nilCheck a) ty (.bo cs):=.fA (.pk J.bP)
theorem fj {p:Place}{k:Nat}(J:Rd g a (.ptr p k)):dE P g (.nilCheck a) ty (.ptr p k):=.fA (.De J.bP)
theorem fd {fe f off:Nat}{cs:List ag}{x:ag}(J:Rd g a (.agg cs)) (bl:dH P fe f off t=true) (aD:hs P t=true) (az:cs[off]?=some x):dE P g (.field fe a f) ty x:=.fA (.Ct J.bP bl aD az)
theorem ex {p i:Nat}{cs:List ag}{x y:ag}(J:g p=some (.cB cs)) (az:cs[i]?=some x) (ax:ih 1 (Place.push ⟨p,[]⟩ i) x=y):dE P g (.extract (.tmp p) i) ty y :=
 .fA (.Cl (cs:=cs.mapIdx λi x=>ih 1 (Place.push ⟨p,[]⟩ i) x) (by simp [bP,J,q4,ih]) (by simp [az,ax]))
theorem box {e:TypeId}{y:ag}{cs:List ag}(J:Rd g a y) (ab:lX y=some cs):dE P g (.box e a) ty (.obj cs):=.p8 (.box J.bP ab)
theorem bh {fe f off k r:Nat}{cs:List ag}(aN:g r=some (.obj cs)) (J:Rd g a (.ptr ⟨r,[]⟩ k)) (bl:dH P fe f off t=true) (bc:Nat.blt (k+off) cs.length=true):dE P g (.fieldAddr fe a f) ty (.ptr ⟨r,[]⟩ (k+off)) :=
 .fA (.zs J.bP bl ⟨.obj cs,by simp [b7,aN,ag.at],0,0,cs,.inr rfl,by simpa using bc⟩)
theorem dm {k r:Nat}{cs:List ag}{x y:ag}(aN:g r=some (.obj cs)) (J:Rd g a (.ptr ⟨r,[]⟩ k)) (aD:hs P t=true) (ab:cs[k]?=some x) (az:ih 0 ⟨r,[k]⟩ x=y):dE P g (.load t a) ty y:=by
 subst az
 exact .fA (.Az (p:=⟨r,[]⟩) J.bP aD (by simp [b7,aN,ag.at,Place.push,ag.kids,ab]))
theorem dW {k r z:Nat}{cs cs':List ag}(aN:g r=some (.obj cs)) (J:Rd g a (.ptr ⟨r,[]⟩ k)) (aD:i' P t z=true) (hk:Nat.ble (k+z) cs.length=true) (ab:(((cs.drop k).take z).mapIdx λi x=>ih 0 ⟨r,[k+i]⟩ x)=cs'):dE P g (.load t a) ty (.agg cs'):=by
 subst ab
 exact .fA (.xJ (p:=⟨r,[]⟩) (n:=0) (z:=0) J.bP aD (by simp [b7,aN,ag.at]) (.inr rfl) (Nat.le_of_ble_eq_true hk))
end O
theorem rj.b0 {x:Operand}{y:ag}{xs:List Operand}{ys:List ag}(h:Rd g x y) [aL:cT y] (aD:rj g xs ys):rj g (x::xs) (y::ys):=.cons h aL.bK aD
theorem cu.go {xs:List Operand}{iz:Array TypeId}{f:FuncId}{ys:List ag}{outs:List (Option ag)}{res:ag}(J:rj g xs ys) (jc:cb P f ys outs res) (bl:dM P f=true) (bd:vL outs=true) [ax:cT res] :
  cu P g (.call { callee:=.value (.func f),args:=xs.toArray,argTypes:=iz }) res:=.PE jc bl J bd ax.bK
inductive tm (P:Program) (g:aY):List ResultVar->List ag->Prop
 | nil:tm P g [] []
 | f {t:Nat}{x:ag}{rs:List ResultVar}{xs:List ag}(h:g t=some x) (bl:lH x=true) [aL:cT x] (aD:tm P g rs xs):tm P g (.tmp t::rs) (x::xs)
 | c {a:Nat}{t:TypeId}{z:Nat}{cs:List ag}{rs:List ResultVar}{xs:List ag}(h:g a=some (.obj cs)) (aD:i' P t z=true) (bM:cs.length=z) (bl:(0<z&&cs.all lH)=true) [aL:e0 cs] (ax:tm P g rs xs):tm P g (.cell a t::rs) (.agg cs::xs)
theorem tm.spec {rs:List ResultVar}{xs:List ag}(h:tm P g rs xs):qo P g rs xs/\∀ x∈xs,di x:=by
 induction h with
 | nil=>exact ⟨.nil,by simp⟩
 | @f t x rs xs h bl aL _ aS=>exact ⟨.cons (.tmp (Rd.f h bl)) aS.1,oK aL.bK aS.2⟩
 | @c a t z cs rs xs h aD bM bl aL _ aS =>
  simp only [Bool.and_eq_true,decide_eq_true_eq] at bl
  refine ⟨.cons ?_ aS.1,oK (.agg aL.bK) aS.2⟩
  have J:Own.bP g (.tmp a)=some (.ptr ⟨a,[]⟩ 0):=by
   cases cs with
   | nil=>simp at bM; omega
   | cons c cs=>simp [Own.bP,h,q4,ih]
  have:=dB.xJ (P:=P) (ty:=t) (p:=⟨a,[]⟩) (n:=0) (z:=0) J aD (by simp only [b7,h,ag.at]) (.inr rfl) (show 0+z<=cs.length by omega)
  have hb:((cs.drop 0).take z).mapIdx (λi x=>ih 0 (Place.push ⟨a,[]⟩ (0+i)) x)=cs:=by
   rw [List.drop_zero,List.take_of_length_le (by omega)]
   exact zu bl.2
  rw [hb] at this
  exact .cell this
theorem Fin.rt {rs:List ResultVar}{xs:List ag}{res:ag}{outs:List (Option ag)}{n:Nat}(h:tm P g rs xs) (he:qa xs=res) (bd:vL outs=true) (ao:outs.length=n):Fin P N rs n outs res .ret g :=
 ⟨.inr rfl,⟨xs,xs,g,h.spec.1,.bK h.spec.2,he.symm,λk x hk=>absurd hk (Dg bd k x)⟩,ao⟩
end
def xR:Nat->List ag->List (Nat × ag)
 | _,[]=>[]
 | i,x::l=>(i,x)::xR (i+1) l
theorem Ka:∀ (l:List ag) (i t:Nat),get (xR i l) t=if i<=t then l[t - i]? else none
 | [],i,t=>by simp [xR,get]
 | x::l,i,t=>by
  simp only [xR,get]
  by_cases h:t=i
  ·subst h; simp
  ·rw [if_neg h,Ka l (i+1) t]
   by_cases h1:i+1<=t
   ·rw [if_pos h1,if_pos (by omega)]
    have:t - i=(t - (i+1))+1:=by omega
    rw [this,List.getElem?_cons_succ]
   ·rw [if_neg h1,if_neg (by omega)]
theorem N2 (args:List ag):o2 args=get (xR 0 args):=funext λt=>by rw [Ka]; simp [o2]
theorem cb.go {P:Program}{f:FuncId}{fn:Func}{c:Code}{args:List ag}{outs:List (Option ag)}{res:ag}{N:dN}(bl:P.funcs[f]?=some fn) (aH:fn.body=some c) (bW:fn.ntmps=N.size) (bj:Nat.ble args.length N.size=true) (hlen:outs.length=args.length)
  (hw:W P N c (get (xR 0 args)) (Fin P N fn.results.toList args.length outs res)):cb P f args outs res :=
 .fin bl aH bW bj hlen (by rw [N2]; exact hw)
end Go.Own
namespace Go.Own
open Go
section
variable {P:Program}{N:dN}{Φ pE:Exit->aY->Prop}{fR:aY->Prop}{G G1:List (Nat × ag)}{A B c:Code}{id k:Nat}{e:Exit}{S R:Type}
theorem jW.bI (h:Trim true (get G) (get G1) G1):jW P N .skip G G1:=.skip h
inductive kN:aY->List (Nat × ag)->Prop
 | gR {G:List (Nat × ag)}:kN (get G) G
 | gb {g g1:aY}{G:List (Nat × ag)}(h:kS g g1) (aH:kN g1 G):kN g G
theorem kN.trans {g:aY}{G G1:List (Nat × ag)}(h:kN g G) (h1:kN (get G) G1):kN g G1:=by
 induction h with
 | gR=>exact h1
 | gb h _ aS=>exact .gb h (aS h1)
inductive yD (P:Program) (N:dN):aY->Exit->(Exit->aY->Prop)->Prop
 | gR {g:aY}{e:Exit}{Φ:Exit->aY->Prop}(h:Φ e g):yD P N g e Φ
 | gb {g g1:aY}{e:Exit}{Φ:Exit->aY->Prop}(hw:kS g g1) (h:yD P N g1 e Φ):yD P N g e Φ
theorem W.outs {g:aY}(h:W P N c g Φ) (nB:∀ e g',Φ e g'->yD P N g' e pE):W P N c g pE:=by
 intro a w I Fs Q bT bW dX
 refine h bT bW λe g' cE w' aG aL=>?_
 have pY:=nB e g' aG
 clear aG nB
 revert aL
 induction pY with
 | gR h=>exact λaL=>dX _ _ _ _ h aL
 | gb hw _ aS =>
  intro aL
  refine aS dX ?_
  obtain ⟨h1,al,I',cp,eB,cn⟩:=aL
  obtain ⟨iZ,ib,gz⟩:=eB.gb hw
  exact ⟨h1,al,I',iZ,ib,cn.fE,cn.more,cn.new,λc ⟨t,ab⟩=>cn.own c ⟨t,gz t c ab⟩⟩
def af (e:Exit) (Φ:Exit->aY->Prop) (G:List (Nat × ag)):Prop:=∀ g,kN g G->Φ e g
theorem W.be {g:aY}(h:W P N c (get G) Φ) (aH:kN g G):W P N c g Φ:=by
 induction aH with
 | gR=>exact h
 | gb hw _ aS=>exact (aS h).weaken hw
theorem ot.be {g:aY}(h:ot P N c (get G) Φ) (aH:kN g G):ot P N c g Φ:=by
 induction aH with
 | gR=>exact h
 | gb hw _ aS=>exact (aS h).weaken hw
theorem af.aX (h:W P N B (get G) Φ):af .normal (s8 (λg1=>W P N B g1 Φ) pE) G:=λ_ aH=>UC (h.be aH)
theorem af.c' (h:af (.exit k) pE G):af (.exit k) (s8 fR pE) G:=λg aH=>UB (h g aH)
theorem af.cK (h:af .ret pE G):af .ret (s8 fR pE) G:=λg aH=>UD (h g aH)
theorem af.bk (h:af .normal Φ G):af .normal (rO id Φ) G:=λg aH=>S3 (h g aH)
theorem af.db (h:af .normal Φ G):af (.exit id) (rO id Φ) G:=λg aH=>S1 (h g aH)
theorem af.Od (hk:Nat.beq k id=false) (h:af (.exit k) Φ G):af (.exit k) (rO id Φ) G:=λg aH=>S2 hk (h g aH)
theorem af.dv (h:af .ret Φ G):af .ret (rO id Φ) G:=λg aH=>S4 (h g aH)
theorem W.da (h:af (.exit k) Φ G):W P N (.exit k) (get G) Φ:=W.exit (h _ .gR)
theorem W.bI (h:af .normal Φ G):W P N .skip (get G) Φ:=W.skip (h _ .gR)
theorem W.rt (h:af .ret Φ G):W P N .ret (get G) Φ:=W.ret (h _ .gR)
theorem W.rx {id:Nat}{l:List Oper}(G1:List (Nat × ag)) (h:ar P N l.toArray l (get G) λg'=>kS g' (get G1)) (hk:af .normal Φ G1):W P N (.region id l.toArray false) (get G) Φ :=
 W.TQ (λi hi=>by obtain ⟨g',h1,al⟩:=h i hi; exact ⟨g',h1,hk g' (.gb al .gR)⟩)
theorem W.cf {G1:List (Nat × ag)}(h:Trim true (get G) (get G1) G1) (hw:W P N c (get G1) Φ):W P N c (get G) Φ:=hw.weaken h.gb
theorem W.st {G:List (Nat × ag)}(G1:List (Nat × ag)) (h:W P N c (get G1) Φ) (e:G1=G:=by rfl):W P N c (get G) Φ:=by subst e; exact h
theorem W.bk (h:W P N c (get G) (rO id Φ)):W P N (.block id c) (get G) Φ:=W.block h
theorem W.bB (G1:List (Nat × ag)) (h:W P N c (get G) λe g=>e=.normal/\kN g G1) (hk:af .normal Φ G1):W P N c (get G) Φ :=
 h.mono λe g ⟨he,aH⟩=>by subst he; exact hk g aH
theorem af.bB (h:Trim true (get G) (get G1) G1):af .normal (λe g=>e=.normal/\kN g G1) G:=λ_ aH=>⟨rfl,aH.trans (.gb h.gb .gR)⟩
def tl (G:S->List (Nat × ag)) (fR:R->Exit->aY->Prop):S ⊕ R->Exit->aY->Prop
 | .inl s,e,g=>e=.normal/\kN g (G s)
 | .inr r,e,g=>e≠.normal/\fR r e g
theorem ot.it {f:S->Option (S ⊕ R)}{G:S->List (Nat × ag)}{fR:R->Exit->aY->Prop}(aH:∀ s o,f s=some o->W P N c (get (G s)) (tl G fR o)) :
  ∀ (n:Nat) (s:S) (r:R),Own.iter f n s=some r->ot P N c (get (G s)) (fR r)
 | 0,_,_,h=>by simp [Own.iter] at h
 | n+1,s,r,h=>by
  simp only [Own.iter] at h
  cases bl:f s with
  | none=>rw [bl] at h; cases h
  | some o =>
   rw [bl] at h
   refine .step ((aH s o bl).mono λe g' ax=>?_)
   cases o with
   | inl fe =>
    obtain ⟨rfl,hw⟩:=ax
    exact (ot.it aH n fe r h).be hw
   | inr fc =>
    cases h
    obtain ⟨aL,hw⟩:=ax
    cases e with
    | normal=>exact absurd rfl aL
    | _=>exact hw
theorem W.LK {f:S->Option (S ⊕ R)}{s:S}{r:R}(G:S->List (Nat × ag)) (fR:R->Exit->aY->Prop) (h:cS f s=some r) (aH:∀ s o,f s=some o->W P N c (get (G s)) (tl G fR o)) (hk:∀ e g,fR r e g->Φ e g):W P N (.loop c) (get (G s)) Φ :=
 (W.loop (ot.it aH fuel s r h)).mono hk
theorem W.eO {f:S->Option (S ⊕ R)}{s:S}{r:R}(G:S->List (Nat × ag)) (id:Nat) (nM:R->List (Nat × ag)) (h:cS f s=some r) (aH:∀ s o,f s=some o->W P N c (get (G s)) (tl G (λr e g=>e=.exit id/\kN g (nM r)) o)) (hk:af (.exit id) Φ (nM r)):W P N (.loop c) (get (G s)) Φ :=
 .LK G _ h aH λe g ⟨he,a8⟩=>by subst he; exact hk g a8
theorem W.iH {qn:Type}{f:S->Option (S ⊕ (R ⊕ qn))}{s:S}{r:R ⊕ qn}(G:S->List (Nat × ag)) (id:Nat) (nM:R->List (Nat × ag)) (tg:qn->List (Nat × ag)) (h:cS f s=some r)
  (aH:∀ s o,f s=some o->W P N c (get (G s)) (tl G (λ(r:R ⊕ qn) e g=>match r with | .inl r=>e=.exit id/\kN g (nM r) | .inr r=>e=.ret/\kN g (tg r)) o))
  (J:∀ x,r=.inl x->af (.exit id) Φ (nM x)) (ax:∀ x,r=.inr x->af .ret Φ (tg x)):W P N (.loop c) (get (G s)) Φ:=by
 refine .LK G _ h aH λe g h=>?_
 cases r with
 | inl r=>obtain ⟨rfl,a8⟩:=h; exact J r rfl g a8
 | inr r=>obtain ⟨rfl,a8⟩:=h; exact ax r rfl g a8
theorem af.go {s:S}{F:S->List (Nat × ag)}{fR:R->Exit->aY->Prop}(h:Trim true (get G) (get (F s)) (F s)):af .normal (tl F fR (.inl s)) G:=λ_ aH=>⟨rfl,aH.trans (.gb h.gb .gR)⟩
theorem af.aF {r:R}{F:S->List (Nat × ag)}{nM:R->List (Nat × ag)}(h:Trim true (get G) (get (nM r)) (nM r)):af (.exit id) (tl F (λr e g=>e=.exit id/\kN g (nM r)) (.inr r)) G:=λ_ aH=>⟨by simp,rfl,aH.trans (.gb h.gb .gR)⟩
theorem af.x2 {qn:Type}{r:R}{F:S->List (Nat × ag)}{nM:R->List (Nat × ag)}{tg:qn->List (Nat × ag)}(h:Trim true (get G) (get (nM r)) (nM r)) :
  af (.exit id) (tl F (λ(r:R ⊕ qn) e g=>match r with | .inl r=>e=.exit id/\kN g (nM r) | .inr r=>e=.ret/\kN g (tg r)) (.inr (.inl r))) G:=λ_ aH=>⟨by simp,rfl,aH.trans (.gb h.gb .gR)⟩
theorem af.fP {qn:Type}{r:qn}{F:S->List (Nat × ag)}{nM:R->List (Nat × ag)}{tg:qn->List (Nat × ag)}(h:Trim true (get G) (get (tg r)) (tg r)) :
  af .ret (tl F (λ(r:R ⊕ qn) e g=>match r with | .inl r=>e=.exit id/\kN g (nM r) | .inr r=>e=.ret/\kN g (tg r)) (.inr (.inr r))) G:=λ_ aH=>⟨by simp,rfl,aH.trans (.gb h.gb .gR)⟩
def BP (P:Program) (N:dN) (rs:List ResultVar) (n:Nat) (outs:List (Option ag)) (res:ag) (e:Exit) (g:aY):Prop:=∃ G,kN g G/\Fin P N rs n outs res e (get G)
theorem W.fin {rs:List ResultVar}{n:Nat}{outs:List (Option ag)}{res:ag}{g:aY}(h:W P N c g (BP P N rs n outs res)):W P N c g (Fin P N rs n outs res):=by
 have key:∀ e g,BP P N rs n outs res e g->yD P N g e (Fin P N rs n outs res):=by
  rintro e g ⟨G,aH,bl⟩
  induction aH with
  | gR=>exact .gR bl
  | gb hw _ aS=>exact .gb hw (aS bl)
 exact W.outs h key
theorem af.fin {rs:List ResultVar}{n:Nat}{outs:List (Option ag)}{res:ag}(h:Fin P N rs n outs res e (get G)):af e (BP P N rs n outs res) G:=λ_ aH=>⟨G,aH,h⟩
end
end Go.Own
namespace Go.Own
open Go
section
variable {P:Program}{N:dN}{ops:Array Oper}{ca:List (List Nat)}{g0:aY}{K:aY->Prop}{l:List Oper}{acc:Acc}{d i:Nat}{op:Op}{ty:TypeId}{pos:String}{after:Array Edge}{x:ag}{ir:Option (Nat × Bool)}
abbrev ob (ca:List (List Nat)) (g0:aY) (ae:Nat) (acc:Acc):aY:=eh g0 (λm=>(ca.getD ae []).contains m) acc
def bL (P:Program) (N:dN) (ops:Array Oper) (ca:List (List Nat)) (g0:aY) (i:Nat) (acc:Acc) (l:List Oper) (K:aY->Prop):Prop:=∀ ep ae,mT P N ops ca g0 i ep->iP P N ops ca g0 i ep ae acc->ops.toList.drop ae=l->∃ g',rh P N ops ca i ep g0 g'/\K g'
theorem y8 {ae dk:Nat}{o:Oper}(h:ops.toList.drop ae=o::l) (aa:Nat.beq ops.size (dk+l.length+1)=true):ae=dk:=by
 have h1:=congrArg List.length h
 rw [List.length_drop,List.length_cons,Array.length_toList] at h1
 have:=Nat.eq_of_beq_eq_true aa
 omega
theorem NF (aL:acc.all (λe=>!Nat.beq e.2.1 d)=true):∀ e∈acc,e.2.1≠d:=by
 intro e he h
 have:=List.all_eq_true.1 aL e he
 rw [h] at this
 simp at this
theorem bL.st (dk:Nat) {r:Option ag}{o:Oper}(aV:o.dst=some d) (aN:oZ P (ob ca g0 dk acc) ops o r) (aa:Nat.beq ops.size (dk+l.length+1)=true) (bl:g0 d=none) (aL:acc.all (λe=>!Nat.beq e.2.1 d)=true) (bW:N.ok d=true)
  (hk:bL P N ops ca g0 i ((dk,d,r)::acc) l K):bL P N ops ca g0 i acc (o::l) K:=by
 intro ep ae du nY nw
 have:=y8 nw aa
 subst this
 obtain ⟨h1,al⟩:=drop_cons nw
 exact hk ep (ae+1) du (.step nY h1 aV bl (NF aL) bW aN) al
theorem bL.v (dk:Nat) (aG:dE P (ob ca g0 dk acc) op ty x) (aa:Nat.beq ops.size (dk+l.length+1)=true) (bl:g0 d=none) (aL:acc.all (λe=>!Nat.beq e.2.1 d)=true) (bW:N.ok d=true) (a8:gu (ob ca g0 dk acc) ops ir)
  (hk:bL P N ops ca g0 i ((dk,d,some x)::acc) l K):bL P N ops ca g0 i acc (⟨some d,op,ty,pos,after,ir⟩::l) K :=
 .st dk (r:=some x) rfl (.inl ⟨a8.wanted,.inl aG⟩) aa bl aL bW hk
theorem bL.c (dk:Nat) (aG:cu P (ob ca g0 dk acc) op x) (aa:Nat.beq ops.size (dk+l.length+1)=true) (bl:g0 d=none) (aL:acc.all (λe=>!Nat.beq e.2.1 d)=true) (bW:N.ok d=true) (a8:gu (ob ca g0 dk acc) ops ir)
  (hk:bL P N ops ca g0 i ((dk,d,some x)::acc) l K):bL P N ops ca g0 i acc (⟨some d,op,ty,pos,after,ir⟩::l) K :=
 .st dk (r:=some x) rfl (.inl ⟨a8.wanted,.inr aG⟩) aa bl aL bW hk
theorem bL.ps (dk:Nat) {ug dn:Nat}{b c:Bool}(h:(ops[ug]?).bind (·.dst)=some dn) (a8:ob ca g0 dk acc dn=some (a1 c)) (aH:c=!b) (aa:Nat.beq ops.size (dk+l.length+1)=true) (bl:g0 d=none) (aL:acc.all (λe=>!Nat.beq e.2.1 d)=true) (bW:N.ok d=true)
  (hk:bL P N ops ca g0 i ((dk,d,some (.cB []))::acc) l K):bL P N ops ca g0 i acc (⟨some d,op,ty,pos,after,some (ug,b)⟩::l) K :=
 .st dk (r:=some (.cB [])) rfl (.inr (.inl ⟨⟨dn,h,.inl ⟨c,a8,by subst aH; cases b <;> rfl⟩⟩,rfl⟩)) aa bl aL bW hk
theorem bL.pu (dk:Nat) {ug dn:Nat}{b:Bool}(h:(ops[ug]?).bind (·.dst)=some dn) (a8:ob ca g0 dk acc dn=some (.cB [])) (aa:Nat.beq ops.size (dk+l.length+1)=true) (bl:g0 d=none) (aL:acc.all (λe=>!Nat.beq e.2.1 d)=true) (bW:N.ok d=true)
  (hk:bL P N ops ca g0 i ((dk,d,some (.cB []))::acc) l K):bL P N ops ca g0 i acc (⟨some d,op,ty,pos,after,some (ug,b)⟩::l) K :=
 .st dk (r:=some (.cB [])) rfl (.inr (.inl ⟨⟨dn,h,.inr ⟨a8,rfl⟩⟩,rfl⟩)) aa bl aL bW hk
def rP (G:List (Nat × ag)):Bool:=G.all λp=>match p.2 with | .bX ..=>false | _=>true
theorem xQ {G:List (Nat × ag)}(h:rP G=true):∀ t z q n m new,get G t≠some (.bX z q n m new):=by
 induction G with
 | nil=>intro t z q n m new J; cases J
 | cons p G aS =>
  obtain ⟨s,x⟩:=p
  simp only [rP,List.all_cons,Bool.and_eq_true] at h
  intro t z q n m new J
  simp only [get] at J
  split at J
  ·cases J; exact absurd h.1 (by simp)
  ·exact aS h.2 t z q n m new J
theorem bL.fin {G G1:List (Nat × ag)}(bM:acc.filterMap l9=[]) (iU:rP G=true) (hi:Nat.ble i ops.size=true) (h:Trim true (eh (get G) (λ_=>true) acc) (get G1) G1):bL P N ops ca (get G) i acc [] λg'=>kS g' (get G1):=by
 intro ep ae du nY nw
 have aa:ae=ops.size:=by
  have h1:ops.size<=ae:=by
   have:=congrArg List.length nw
   rw [List.length_drop,List.length_nil,Array.length_toList] at this
   omega
  have aO:ae<=ops.size:=by
   cases nY with
   | nil=>exact Nat.le_of_ble_eq_true hi
   | step _ bd=>have:=(Array.getElem?_eq_some_iff.1 bd).1; omega
  omega
 subst aa
 exact ⟨_,.fin nY (by rw [bM]; exact List.nodup_nil) (xQ iU),h.gb⟩
theorem rh.IU {g g1 g':aY}{i ae:Nat}{ep:Acc}{o:Oper}(du:mT P N ops ca g i ep) (aN:iP P N ops ca g i ep ae acc) (hz:(acc.filterMap l9).Nodup) (iU:∀ t z q n m new,g t≠some (.bX z q n m new)) (bd:ops[ae]?=some o) (hw:iQ (eh g (λ_=>true) acc) ops o true)
  (he:cj P N (eh g (λ_=>true) acc) o g1) (bj:(List.range ae).all (λk=>(ca.getD ae []).contains k)=true) (aH:(List.range ops.size).all (λk=>decide (k<=ae)||(ca.getD k []).contains ae)=true) (ax:rh P N ops ca (ae+1) [] g1 g'):rh P N ops ca i ep g g':=by
 have eT:∀ e∈acc,(ca.getD ae []).contains e.1=true:=λe h=>List.all_eq_true.1 bj e.1 (List.mem_range.2 ((aN.le du).2 e h))
 have e:eh g (λm=>(ca.getD ae []).contains m) acc=eh g (λ_=>true) acc:=funext λt=>By λe h _=>eT e h
 have gG:[]=acc.filter λe=>!(ca.getD ae []).contains e.1:=by
  symm
  rw [List.filter_eq_nil_iff]
  intro a h
  rw [eT a h]
  decide
 exact .w3 (rs:=q5 []) aN hz iU bd (by rw [e]; exact hw) (by rw [e]; exact he.mZ.v) (λp aG=>by simp [q5] at aG) gG (by simp) (by simp) (by simp) aH ax
theorem W.rd {id:Nat}{l:List Oper}{G:List (Nat × ag)}{Φ:Exit->aY->Prop}(ca:List (List Nat)) (G1:List (Nat × ag)) (hm:P.follows .mixedOrders=true) (eT:rm l.toArray ca=true)
  (h:bL P N l.toArray ca (get G) 0 [] l λg'=>kS g' (get G1)) (hk:af .normal Φ G1):W P N (.region id l.toArray true) (get G) Φ:=by
 obtain ⟨g',h1,al⟩:=h [] 0 .nil .nil (by simp)
 exact (gC.draw hm eT h1).w (hk g' (.gb al .gR))
end
end Go.Own
namespace Go.Own
open Go
variable {α:Type}
section
variable {P:Program}{N:dN}{ops:Array Oper}{g g2:aY}{K:aY->Prop}{l:List Oper}{d r:Nat}{ty t t2:TypeId}{pos:String}{after:Array Edge}{a b c:Operand}{k l7:IntKind}{m n:Int}{s u:ByteArray}
namespace O
theorem fL {e:TypeId}{z:Value}{cs:List ag}(bM:(P.info? e).bind (·.zero)=some z) (h1:z.cells.toList.all Value.oneCell'=true) (ab:z.cells.toList.map n4=cs):dE P g (.alloc e) ty (.obj cs):=by
 subst ab; exact .p8 (.alloc bM (by rw [<- Array.all_toList]; exact h1))
theorem dR {t:TypeId}{parts:Array (Nat × Operand)}{pl:List (Nat × Nat)}{ef:Value}{ps:List (Nat × List ag)}{cs:List ag}(aD:jT P t pl=true) (bM:(P.info? t).bind (·.zero)=some ef) (h1:ef.cells.toList.all Value.oneCell'=true)
  (aG:q3 g parts.toList=some ps) (ab:xl (λi=>pl[i]?) (ef.cells.toList.map n4) ps=some cs):dE P g (.build t parts) ty (.agg cs):=.Dk (.build aD bM (by rw [<- Array.all_toList]; exact h1) aG ab)
end O
inductive oY (g g2:aY):ag->Prop
 | n {x:ag}(h:di x):oY g g2 x
 | p {r k:Nat}{cs cs2:List ag}(h:g r=some (.obj cs)) (hk:k<cs.length) (al:g2 r=some (.obj cs2)) (gH:k<cs2.length):oY g g2 (.ptr ⟨r,[]⟩ k)
 | r {z n N Ih q:Nat}{cs cs2:List ag}(h:g q=some (.own z N cs)) (aL:n<=N) (al:g2 q=some (.own z Ih cs2)) (ny:n<=Ih):oY g g2 (.bn z ⟨q,[]⟩ n)
theorem s0 {r k:Nat}{cs:List ag}(h:g r=some (.obj cs)) (hk:k<cs.length):gD g (.ptr ⟨r,[]⟩ k):=⟨.obj cs,by simp [b7,h,ag.at],0,0,cs,.inr rfl,hk⟩
theorem yh {z n N q:Nat}{cs:List ag}(h:g q=some (.own z N cs)) (aL:n<=N):gD g (.bn z ⟨q,[]⟩ n):=.inl ⟨N,cs,by simp [b7,h,ag.at],aL⟩
theorem oY.bm {x:ag}(h:oY g g2 x):e3 g2 x:=by
 cases h with
 | n h=>exact .bK h
 | p _ _ al gH=>exact .ref rfl (s0 al gH)
 | r _ _ al ny=>exact .ref rfl (yh al ny)
theorem oY.wc {x:ag}{ur k0 m0:Nat}(h:oY g g2 x):jk (λr=>gD g r/\Clear ⟨ur,[]⟩ k0 m0 r/\gD g2 r) x:=by
 cases h with
 | n h=>exact .bK h
 | p h hk al gH =>
  refine .ref rfl ⟨s0 h hk,?_,s0 al gH⟩
  intro q bO _ ae fc e
  simp only [yi,Option.some.injEq] at bO
  subst bO
  simp at e
 | r h hk al gH =>
  refine .ref rfl ⟨yh h hk,?_,yh al gH⟩
  intro q bO _ ae fc e
  simp only [yi,Option.some.injEq] at bO
  subst bO
  simp at e
theorem oY.fO {x:ag}(h:oY g g2 x):∀ z p n m new,x≠.bX z p n m new:=by
 rintro z p n m new rfl
 cases h with
 | n h=>cases h
inductive mU (g g2:aY) (r:Nat) (cs2:List ag):List (Nat × ag)->Prop
 | nil:mU g g2 r cs2 []
 | n {s:Nat}{x:ag}{l:List (Nat × ag)}(eI:Nat.beq s r=false) (h:g s=some x) [aL:cT x] (t:mU g g2 r cs2 l):mU g g2 r cs2 ((s,x)::l)
 | p {s q k:Nat}{l:List (Nat × ag)}{cs nR:List ag}(eI:Nat.beq s r=false) (h:g s=some (.ptr ⟨q,[]⟩ k)) (h1:g q=some (.obj cs)) (hk:Nat.blt k cs.length=true) (al:g2 q=some (.obj nR)) (gH:Nat.blt k nR.length=true) (t:mU g g2 r cs2 l):mU g g2 r cs2 ((s,.ptr ⟨q,[]⟩ k)::l)
 | w {α:Type}{s q:Nat}{en:cD α}{L:List α}{l:List (Nat × ag)}(eI:Nat.beq s r=false) (h:g s=some (.bn en.z ⟨q,[]⟩ L.length)) (h1:g q=some (ak en L)) (al:g2 q=some (ak en L)) (t:mU g g2 r cs2 l):mU g g2 r cs2 ((s,.bn en.z ⟨q,[]⟩ L.length)::l)
 | b {l:List (Nat × ag)}{x:ag}(e:x=.obj cs2) [aL:e0 cs2] (t:mU g g2 r cs2 l):mU g g2 r cs2 ((r,x)::l)
theorem mU.spec {cs2:List ag}{l:List (Nat × ag)}(h:mU g g2 r cs2 l):∀ t x,get l t=some x->(t≠r/\g t=some x/\oY g g2 x)\/(t=r/\x=.obj cs2/\di x):=by
 induction h with
 | nil=>intro t x J; cases J
 | @n s x l eI h aL _ aS =>
  intro t y az; simp only [get] at az
  split at az
  ·rename_i e; subst e; cases az; exact .inl ⟨Nat.ne_of_beq_eq_false eI,h,.n aL.bK⟩
  ·exact aS t y az
 | @p s q k l cs nR eI h h1 hk al gH _ aS =>
  intro t y az; simp only [get] at az
  split at az
  ·rename_i e; subst e; cases az; exact .inl ⟨Nat.ne_of_beq_eq_false eI,h,.p h1 (by simpa using hk) al (by simpa using gH)⟩
  ·exact aS t y az
 | @w α s q en L l eI h h1 al _ aS =>
  intro t y az; simp only [get] at az
  split at az
  ·rename_i e; subst e; cases az; exact .inl ⟨Nat.ne_of_beq_eq_false eI,h,.r h1 (Nat.le_refl _) al (Nat.le_refl _)⟩
  ·exact aS t y az
 | @b l x e aL _ aS =>
  intro t y az; simp only [get] at az
  split at az
  ·rename_i cW; subst cW; cases az; subst e; exact .inr ⟨rfl,rfl,.obj aL.bK⟩
  ·exact aS t y az
theorem cj.box {o:Oper}{k0:Nat}{cs cs' cs2:List ag}{y:ag}{G2:List (Nat × ag)}(bd:o.op=.store t a b) (aV:o.dst=none) (aN:g r=some (.obj cs)) (bj:Rd g a (.ptr ⟨r,[]⟩ k0)) (aH:Rd g b y) (aL:di y) (ab:se y=some cs') (bM:gJ P t cs'.length=true)
  (hk:k0+cs'.length<=cs.length) (bb:0<cs'.length) (he:fW cs k0 cs'=cs2) [gI:e0 cs] (ax:get G2 r≠none) (ea:mU g (get G2) r cs2 G2):cj P N g o (get G2):=by
 subst he
 have jO:g r≠none:=by rw [aN]; simp
 refine .store bd aV bj.bP aH.bP (.bK (by simpa using aL)) .refl ab bM (p:=⟨r,[]⟩) (nd:=.obj cs) (z:=0) (n:=0) (by simp [b7,aN,ag.at]) (.inr rfl) hk bb (λt x J=>?_) (λt x J y az=>?_) (λt z q n m new J=>?_) ax
 ·rcases ea.spec t x J with ⟨h1,al,_⟩ | ⟨h1,al,_⟩
  ·rw [q7 h1]; exact al
  ·subst h1 al; simp [c_,aN,ag.setAt,ag.fW]
 ·rcases ea.spec t x J with ⟨h1,al,aO⟩ | ⟨h1,al,aO⟩
  ·rw [al] at az; cases az; exact aO.wc
  ·subst h1
   rw [aN] at az
   cases az
   exact .bK (.obj gI.bK)
 ·rcases ea.spec t _ J with ⟨_,_,aO⟩ | ⟨_,al,_⟩
  ·exact aO.fO _ _ _ _ _ rfl
  ·cases al
theorem Trim.q {Ec:Bool}{yn q k0:Nat}{cs:List ag}{LI:List (Nat × ag)}(h:g yn=some (.ptr ⟨q,[]⟩ k0)) (al:g2 q=some (.obj cs)) (hk:Nat.blt k0 cs.length=true) (UG:Trim Ec g g2 LI):Trim Ec g g2 ((yn,.ptr ⟨q,[]⟩ k0)::LI) :=
 .r h (.ref rfl (s0 al (by simpa using hk))) (by simp) UG
theorem ar.iT {o:Oper}{G2:List (Nat × ag)}(a8:o.guard=none) (he:cj P N g o (get G2)) (hk:ar P N ops l (get G2) K):ar P N ops (o::l) g K:=by
 intro i hi
 obtain ⟨h1,al⟩:=drop_cons hi
 obtain ⟨g',ax,et⟩:=hk (i+1) al
 refine ⟨g',.mZ h1 ?_ he ax,et⟩
 unfold iQ; rw [a8]
theorem ar.dI {k0:Nat}{cs cs' cs2:List ag}{y:ag}{G2:List (Nat × ag)}(aN:g r=some (.obj cs)) (bj:Rd g a (.ptr ⟨r,[]⟩ k0)) (aH:Rd g b y) [aL:cT y] (ab:se y=some cs') (bM:gJ P t cs'.length=true)
  (hk:Nat.ble (k0+cs'.length) cs.length=true) (bb:Nat.blt 0 cs'.length=true) (he:fW cs k0 cs'=cs2) [gI:e0 cs] (ax:(get G2 r).isSome=true) (ea:mU g (get G2) r cs2 G2) (CJ:ar P N ops l (get G2) K):ar P N ops (⟨none,.store t a b,ty,pos,after,none⟩::l) g K :=
 .iT rfl (.box rfl rfl aN bj aH aL.bK ab bM (Nat.le_of_ble_eq_true hk) (by simpa using bb) he (by intro e; rw [e] at ax; cases ax) ea) CJ
variable {ca:List (List Nat)}{acc:Acc}{i:Nat}
theorem bL.w3 (dk:Nat) {G G2:List (Nat × ag)}{o:Oper}(he:cj P N (eh (get G) (λ_=>true) acc) o (get G2)) (a8:o.guard=none) (bM:acc.filterMap l9=[]) (iU:rP G=true) (aa:Nat.beq ops.size (dk+l.length+1)=true)
  (bj:(List.range dk).all (λk=>(ca.getD dk []).contains k)=true) (aH:(List.range ops.size).all (λk=>Nat.ble k dk||(ca.getD k []).contains dk)=true) (hk:bL P N ops ca (get G2) (dk+1) [] l K):bL P N ops ca (get G) i acc (o::l) K:=by
 intro ep ae du nY nw
 have:=y8 nw aa
 subst this
 obtain ⟨h1,al⟩:=drop_cons nw
 obtain ⟨g',ax,et⟩:=hk [] (ae+1) .nil .nil al
 refine ⟨g',.IU du nY (by rw [bM]; exact List.nodup_nil) (xQ iU) h1 ?_ he bj ?_ ax,et⟩
 ·unfold iQ; rw [a8]
 ·refine List.all_eq_true.2 λk hk=>?_
  have:=List.all_eq_true.1 aH k hk
  simp only [Bool.or_eq_true,decide_eq_true_eq,Nat.ble_eq] at this ⊢
  exact this
theorem bL.dI (dk:Nat) {G:List (Nat × ag)}{k0:Nat}{cs cs' cs2:List ag}{y:ag}{G2:List (Nat × ag)}(aa:Nat.beq ops.size (dk+l.length+1)=true) (Fq:(List.range dk).all (λk=>(ca.getD dk []).contains k)=true) (Kz:(List.range ops.size).all (λk=>Nat.ble k dk||(ca.getD k []).contains dk)=true) (Gy:acc.filterMap l9=[]) (iU:rP G=true)
  (aN:eh (get G) (λ_=>true) acc r=some (.obj cs)) (bj:Rd (eh (get G) (λ_=>true) acc) a (.ptr ⟨r,[]⟩ k0)) (aH:Rd (eh (get G) (λ_=>true) acc) b y) [aL:cT y] (ab:se y=some cs') (bM:gJ P t cs'.length=true)
  (hk:Nat.ble (k0+cs'.length) cs.length=true) (bb:Nat.blt 0 cs'.length=true) (he:fW cs k0 cs'=cs2) [gI:e0 cs] (ax:(get G2 r).isSome=true) (ea:mU (eh (get G) (λ_=>true) acc) (get G2) r cs2 G2) (CJ:bL P N ops ca (get G2) (dk+1) [] l K):bL P N ops ca (get G) i acc (⟨none,.store t a b,ty,pos,after,none⟩::l) K :=
 .w3 dk (.box rfl rfl aN bj aH aL.bK ab bM (Nat.le_of_ble_eq_true hk) (by simpa using bb) he (by intro e; rw [e] at ax; cases ax) ea) rfl Gy iU aa Fq Kz CJ
end
end Go.Own
namespace Go.Own
open Go
variable {α β:Type}
def p6 (m:Int) (z:α):Option (List α):=if 0<=m/\m<=lim then some (List.replicate m.toNat z) else none
def eS (l m:List α):Option (List α):=if l.length+m.length<=lim then some (l++m) else none
class Flat (e:cD α):Prop where PU:∀ a,(e.cells a).all lH=true
instance:Flat aI:=⟨λ_=>rfl⟩
instance:Flat o5:=⟨λ_=>rfl⟩
instance:Flat bJ:=⟨λ_=>rfl⟩
instance:Flat cy:=⟨λ_=>rfl⟩
instance {e:cD α}:Flat (bg e):=⟨λ_=>rfl⟩
theorem TX (e:cD α) [h:Flat e] (l:List α):(ch e l).all lH=true:=by
 refine List.all_eq_true.2 λx J=>?_
 obtain ⟨a,_,bj⟩:=List.mem_flatMap.1 J
 exact List.all_eq_true.1 (h.PU a) x bj
theorem vN (e:cD α) (l m:List α):(.own e.z (l.length+m.length) (ch e l++ch e m):ag)=ak e (l++m):=by
 unfold ak
 rw [List.length_append,we]
theorem wg (e:cD α) (l:List α):(ch e l).take (l.length * e.z)=ch e l:=List.take_of_length_le (by rw [oM]; omega)
theorem Mk:∀ L:List Int,ch o5 L=L.map λb=>.lit (.int .u8 b)
 | []=>rfl
 | x::L=>by
  have:ch o5 (x::L)=ml x::ch o5 L:=rfl
  rw [this,List.map_cons,Mk L]
section
variable {P:Program}{N:dN}{ops:Array Oper}{g g1 g2:aY}{K:aY->Prop}{l:List Oper}{d r:Nat}{ty t t2:TypeId}{pos:String}{after:Array Edge}{ir:Option (Nat × Bool)}{a b c:Operand}{k l7:IntKind}{m n:Int}{s u:ByteArray}{p q:Place}
namespace O
theorem dz {e h2:Nat}{parts:Array (Nat × Operand)}{ys:List ag}(en:cD α) (L:List α) (aD:fy P t e en.z=true) (J:iI g (parts.toList.map (·.2))=some ys) (ab:o3 ys=some (ch en L)) (bM:ys.all (λy=>match lX y with | some c=>Nat.beq c.length en.z | none=>false)=true)
  (aG:parts.toList=(parts.toList.map (·.2)).mapIdx (λi x=>(i,x))) (aL:(parts.toList.map (·.2)).length=h2) (ao:L.length=h2) (hzero:jz P e en.z=true) (aH:Nat.ble (h2 * en.z) 16777216=true) (cO:Nat.ble h2 16777216=true):dE P g (.buildSlice t h2 parts) ty (ak en L):=by
 subst aL
 have:=oV.buildSlice (P:=P) (ty:=ty) aD aG J (λy az=>by
  have:=List.all_eq_true.1 bM y az
  cases fu:lX y with
  | none=>rw [fu] at this; cases this
  | some c=>rw [fu] at this; exact ⟨c,rfl,Nat.eq_of_beq_eq_true this⟩) ab (Nat.le_of_ble_eq_true aH) (Nat.le_of_ble_eq_true cO) (.inr (H3 hzero))
 unfold ak
 rw [ao]
 exact .p8 this
theorem ph {z cJ n:Nat}{e:TypeId}(J:Rd g a (.bn z p n)) (aD:fy P t e cJ=true):dE P g (.call { callee:=.builtin .len,args:=#[a],argTypes:=#[t] }) ty (j n):=.fA (.Aw J.bP aD)
theorem gX {en:cD α}{L:List α}{y:α}{e:TypeId}(aG:b7 g p=some (ak en L)) (J:Rd g a (.bn en.z p L.length)) (hi:Rd g b (.lit (.int k m))) (aD:fy P t e en.z=true) (h:idx L m=some y) (bM:Nat.blt 0 en.z=true):dE P g (.indexAddr t a b) ty (.ptr p (m.toNat * en.z+0)):=by
 obtain ⟨bb,h1,_⟩:=qX h
 obtain ⟨ae,rfl⟩:=Int.eq_ofNat_of_zero_le bb
 have Lv:0<en.z:=by simpa using bM
 have aa:ae<L.length:=by omega
 refine .fA (.C0 J.bP hi.bP aD aa ⟨_,aG,_,_,_,.inl rfl,?_⟩)
 rw [oM]; exact Nat.mul_lt_mul_of_pos_right aa Lv
theorem TS {en:cD α}{L:List α}{y:α}{o:Nat}(h:idx L m=some y) (bd:o<en.z):m.toNat * en.z+o<(ch en L).length:=by
 obtain ⟨bb,h1,_⟩:=qX h
 rw [oM]
 have al:m.toNat+1<=L.length:=by omega
 calc m.toNat * en.z+o<m.toNat * en.z+en.z:=by omega
  _=(m.toNat+1) * en.z:=by rw [Nat.add_mul]; omega
  _<=L.length * en.z:=Nat.mul_le_mul_right _ al
theorem ki {en:cD α}{L:List α}{y:α}{fe f off o ig:Nat}(aG:b7 g p=some (ak en L)) (J:Rd g a (.ptr p (m.toNat * en.z+o))) (bl:dH P fe f off t=true) (h:idx L m=some y) (bd:o+off=ig) (bc:Nat.blt ig en.z=true):dE P g (.fieldAddr fe a f) ty (.ptr p (m.toNat * en.z+ig)):=by
 subst bd
 rw [<- Nat.add_assoc]
 refine .fA (.zs J.bP bl ⟨_,aG,_,_,_,.inl rfl,?_⟩)
 rw [Nat.add_assoc]; exact TS h (by simpa using bc)
theorem tr {en:cD α}{L:List α}{y:α}{o:Nat}{x:ag}(aG:b7 g p=some (ak en L)) (h:idx L m=some y) (ab:(en.cells y)[o]?=some x):b7 g (p.push (m.toNat * en.z+o))=some x:=by
 rw [r_,aG]
 exact Mi en h ab
theorem jv {en:cD α}{L:List α}{y:α}{o:Nat}{x x':ag}(aG:b7 g p=some (ak en L)) (J:Rd g a (.ptr p (m.toNat * en.z+o))) (aD:hs P t=true) (h:idx L m=some y) (ab:(en.cells y)[o]?=some x) (ax:ih 0 (p.push (m.toNat * en.z+o)) x=x'):dE P g (.load t a) ty x':=by
 subst ax
 exact .fA (.Az J.bP aD (tr aG h ab))
end O
class qk (g:aY):Prop where fO:∀ t z q n m new,g t≠some (.bX z q n m new)
class om (x:ag):Prop where fO:∀ z q n m new,x≠.bX z q n m new
instance {x:ag} [h:cT x]:om x:=⟨by rintro z q n m new rfl; cases h.bK⟩
instance {p:Place}{k:Nat}:om (.ptr p k):=⟨by simp⟩
instance {p:Place}{z n:Nat}:om (.bn z p n):=⟨by simp⟩
instance {p:Place}{z lo n:Nat}:om (.sub z p lo n):=⟨by simp⟩
instance {cs:List ag}:om (.agg cs):=⟨by simp⟩
instance {cs:List ag}:om (.cB cs):=⟨by simp⟩
instance {cs:List ag}:om (.obj cs):=⟨by simp⟩
instance {g:aY}{d:Nat}{x:ag} [h:qk g] [J:om x]:qk (e9 g d x):=⟨λt z q n m new e=>by
 unfold e9 at e
 split at e
 ·cases e; exact J.fO _ _ _ _ _ rfl
 ·exact h.fO _ _ _ _ _ _ e⟩
instance:qk (get []):=⟨λ_ _ _ _ _ _ e=>by cases e⟩
instance {t:Nat}{x:ag}{G:List (Nat × ag)} [J:om x] [h:qk (get G)]:qk (get ((t,x)::G)):=⟨λs z q n m new e=>by
 simp only [get] at e
 split at e
 ·cases e; exact J.fO _ _ _ _ _ rfl
 ·exact h.fO _ _ _ _ _ _ e⟩
class BV (acc:Acc):Prop where fO:∀ e∈acc,∀ z q n m new,e.2.2≠some (.bX z q n m new)
instance:BV []:=⟨by simp⟩
instance {ae d:Nat}{x:ag}{acc:Acc} [J:om x] [h:BV acc]:BV ((ae,d,some x)::acc):=⟨λe he z q n m new b9=>by
 rcases List.mem_cons.1 he with rfl | he
 ·exact J.fO z q n m new (Option.some.inj b9)
 ·exact h.fO e he z q n m new b9⟩
instance {G:List (Nat × ag)}{A:Nat->Bool}{acc:Acc} [a8:qk (get G)] [h:BV acc]:qk (eh (get G) A acc):=⟨λt z q n m new e=>by
 rcases s' e with ⟨cW,he,_,_,al⟩ | ⟨_,al⟩
 ·exact h.fO cW he _ _ _ _ _ al
 ·exact a8.fO _ _ _ _ _ _ al⟩
theorem w0 {L M:List α}{r:List α}{b:Nat}(h:eS L M=some r) (aH:Nat.ble b 128=true):L.length+M.length<=4611686018427387904/\(L.length+M.length) * b<=140737488355328/\r=L++M:=by
 unfold eS at h
 split at h
 ·rename_i ao
  have kC:=Nat.le_of_ble_eq_true aH
  have RN:lim=1099511627776:=rfl
  refine ⟨by omega,?_,(Option.some.inj h).symm⟩
  calc (L.length+M.length) * b<=1099511627776 * 128:=Nat.mul_le_mul ao kC
   _=140737488355328:=by decide
 ·cases h
inductive qp (g:aY) (en:cD α):ag->List α->Prop
 | i {M:List α}:qp g en (.aE en.z M.length (ch en M)) M
 | n:qp g en .aK []
 | o {q:Place}{M:List α}(bO:b7 g q=some (ak en M)) (bl:(ch en M).all lH=true):qp g en (.bn en.z q M.length) M
theorem qp.src {en:cD α}{y:ag}{M:List α}(h:qp g en y M):Src g y en.z M.length (ch en M):=by
 cases h with
 | i=>exact .aE
 | n=>exact .aK
 | o bO bl =>
  have:=Src.bn (g:=g) (m:=M.length) bO (Nat.le_refl _)
  rw [wg,zu (q:=λi=>_) bl] at this
  exact this
theorem qp.flat (en:cD α) [Flat en] {q:Place}{M:List α}(bO:b7 g q=some (ak en M)):qp g en (.bn en.z q M.length) M:=.o bO (TX en M)
namespace O
theorem ap {en:cD α}{L M r:List α}{y:ag}{e jF:Nat}(aN:Rd g a (.bn en.z p L.length)) (aG:b7 g p=some (ak en L)) (J:Rd g b y) (hm:qp g en y M) (aD:im P t e en.z jF=true) (aH:Nat.ble jF 128=true) (h:eS L M=some r) [gI:qk g] :
  dE P g (.call { callee:=.builtin .append,args:=#[a,b],argTypes:=#[t,t] }) ty (.bX en.z p L.length M.length (ch en M)):=by
 obtain ⟨h1,al,_⟩:=w0 h aH
 exact .lv (.grow aN.bP (.inl ⟨_,aG⟩) (λt cJ cX m' dj e=>gI.fO _ _ _ _ _ _ e) J.bP hm.src aD h1 al)
theorem NZ {en:cD α}{M r:List α}{y:ag}{e jF:Nat}(aN:Rd g a .aK) (J:Rd g b y) (hm:qp g en y M) (aD:im P t e en.z jF=true) (aH:Nat.ble jF 128=true) (h:eS [] M=some r) :
  dE P g (.call { callee:=.builtin .append,args:=#[a,b],argTypes:=#[t,t] }) ty (ak en M):=by
 obtain ⟨h1,al,_⟩:=w0 h aH
 simp only [List.length_nil,Nat.zero_add] at h1 al
 exact .lv (.nil aN.bP J.bP hm.src aD h1 al)
end O
inductive pM (ex:List Nat) (g g2:aY):List (Nat × ag)->Prop
 | nil:pM ex g g2 []
 | n {s:Nat}{x:ag}{l:List (Nat × ag)}(eI:ex.elem s=false) (h:g s=some x) [aL:cT x] (t:pM ex g g2 l):pM ex g g2 ((s,x)::l)
 | p {s q k:Nat}{l:List (Nat × ag)}{nR:List ag}(eI:ex.elem s=false) (h:g s=some (.ptr ⟨q,[]⟩ k)) (al:g2 q=some (.obj nR)) (gH:Nat.blt k nR.length=true) (t:pM ex g g2 l):pM ex g g2 ((s,.ptr ⟨q,[]⟩ k)::l)
theorem pM.spec {ex:List Nat}{l:List (Nat × ag)}(h:pM ex g g2 l):∀ t x,get l t=some x->ex.elem t=false/\g t=some x/\e3 g2 x/\∀ z p n m new,x≠.bX z p n m new:=by
 induction h with
 | nil=>intro t x J; cases J
 | @n s x l eI h aL _ aS =>
  intro t y az; simp only [get] at az
  split at az
  ·rename_i e; subst e; cases az; exact ⟨eI,h,.bK aL.bK,by rintro z p n m new rfl; cases aL.bK⟩
  ·exact aS t y az
 | @p s q k l nR eI h al gH _ aS =>
  intro t y az; simp only [get] at az
  split at az
  ·rename_i e; subst e; cases az; exact ⟨eI,h,.ref rfl (s0 al (by simpa using gH)),by simp⟩
  ·exact aS t y az
theorem pM.keep {ex:List Nat}{G2:List (Nat × ag)}(h:pM ex g (get G2) G2) (a8:∀ t,ex.elem t=false->g1 t=g t):hI g1 (get G2) :=
 ⟨λt x J=>by obtain ⟨h1,al,_⟩:=h.spec t x J; rw [a8 t h1]; exact al,λt x J=>(h.spec t x J).2.2.1,λt z q n m new J=>(h.spec t _ J).2.2.2 _ _ _ _ _ rfl⟩
theorem Take.row {en:cD α}{L:List α}(aG:b7 g p=some (ak en L)):Take g [.bn en.z p L.length] [ak en L] (c_ g p .dead):=by
 have h1:Take (c_ g p .dead) ((ch en L).take (L.length * en.z)) (ch en L) (c_ g p .dead):=by
  rw [wg]; exact .bK (n_ en L)
 exact .bn aG (Nat.le_refl _) h1 (.bK (by simp))
theorem Take.TU {en:cD α}{L M:List α}{s:Nat}(aN:g s=some (.bX en.z q L.length M.length (ch en M))) (aG:b7 g q=some (ak en L)) (bO:q.root≠s):Take g [.bn en.z ⟨s,[]⟩ (L.length+M.length)] [ak en (L++M)] (c_ (c_ g ⟨s,[]⟩ .dead) q .dead):=by
 rw [<- vN]
 exact .bX aN aG bO (.bK λx J=>(List.mem_append.1 J).elim (n_ en L x) (n_ en M x)) (.bK (by simp))
theorem Take.TV {en:cD α}{L M M2:List α}{s s2:Nat}(aN:g s=some (.bX en.z ⟨s2,[]⟩ (L.length+M2.length) M.length (ch en M))) (xA:g s2=some (.bX en.z q L.length M2.length (ch en M2))) (aG:b7 g q=some (ak en L)) (bO:q.root≠s) (rJ:q.root≠s2) (Gd:s≠s2) :
  Take g [.bn en.z ⟨s,[]⟩ (L.length+M2.length+M.length)] [ak en (L++M2++M)] (c_ (c_ (c_ g ⟨s,[]⟩ .dead) ⟨s2,[]⟩ .dead) q .dead):=by
 have:=Take.Dl (g:=g) (xs:=[]) (xs':=[]) aN xA rfl aG bO rJ Gd (.bK (xs:=ch en L++ch en M2++ch en M) λx J=>by
  rcases List.mem_append.1 J with h | h
  ·exact (List.mem_append.1 h).elim (n_ en L x) (n_ en M2 x)
  ·exact n_ en M x h) (.bK (by simp))
 have e:(ak en (L++M2++M):ag)=.own en.z (L.length+M2.length+M.length) (ch en L++ch en M2++ch en M):=by
  unfold ak; rw [List.length_append,List.length_append,we,we]
 rw [e]; exact this
theorem uA {t:Nat}{y:ag}(h:t≠p.root):c_ g p y t=g t:=by unfold c_; rw [if_neg h]
theorem xg {ex:List Nat}{t s:Nat}(h:ex.elem t=false) (aN:ex.elem s=true):t≠s:=by rintro rfl; rw [h] at aN; cases aN
theorem cj.iR {o:Oper}{en:cD α}{L:List α}{x:Operand}{G2:List (Nat × ag)}(bd:o.op=.assign x) (aV:o.dst=some d) (J:Rd g x (.bn en.z p L.length)) (aG:b7 g p=some (ak en L)) (ea:pM [p.root] g (get G2) G2) (a8:get G2 d=none) (bW:N.ok d=true):cj P N g o (e9 (get G2) d (ak en L)) :=
 .assign bd aV J.bP (.row aG) .refl (ea.keep λt aD=>uA (xg aD (by simp))) a8 bW
theorem cj.mV {o:Oper}{en:cD α}{L M:List α}{s:Nat}{x:Operand}{G2:List (Nat × ag)}(bd:o.op=.assign x) (aV:o.dst=some d) (J:Rd g x (.bn en.z ⟨s,[]⟩ (L.length+M.length))) (aN:g s=some (.bX en.z q L.length M.length (ch en M))) (aG:b7 g q=some (ak en L)) (bO:Nat.beq q.root s=false)
  (ea:pM [s,q.root] g (get G2) G2) (a8:get G2 d=none) (bW:N.ok d=true):cj P N g o (e9 (get G2) d (ak en (L++M))) :=
 .assign bd aV J.bP (.TU aN aG (Nat.ne_of_beq_eq_false bO)) .refl (ea.keep λt aD=>by rw [uA (xg aD (by simp)),uA (xg aD (by simp))]) a8 bW
theorem cj.Is {o:Oper}{en:cD α}{L M M2:List α}{s s2:Nat}{x:Operand}{G2:List (Nat × ag)}(bd:o.op=.assign x) (aV:o.dst=some d) (J:Rd g x (.bn en.z ⟨s,[]⟩ (L.length+M2.length+M.length))) (aN:g s=some (.bX en.z ⟨s2,[]⟩ (L.length+M2.length) M.length (ch en M)))
  (xA:g s2=some (.bX en.z q L.length M2.length (ch en M2))) (aG:b7 g q=some (ak en L)) (bO:Nat.beq q.root s=false) (rJ:Nat.beq q.root s2=false) (Gd:Nat.beq s s2=false)
  (ea:pM [s,s2,q.root] g (get G2) G2) (a8:get G2 d=none) (bW:N.ok d=true):cj P N g o (e9 (get G2) d (ak en (L++M2++M))) :=
 .assign bd aV J.bP (.TV aN xA aG (Nat.ne_of_beq_eq_false bO) (Nat.ne_of_beq_eq_false rJ) (Nat.ne_of_beq_eq_false Gd)) .refl (ea.keep λt aD=>by rw [uA (xg aD (by simp)),uA (xg aD (by simp)),uA (xg aD (by simp))]) a8 bW
theorem ar.gd {o:Oper}{x:ag}{G2:List (Nat × ag)}(a8:o.guard=none) (he:cj P N g o (e9 (get G2) d x)) (hk:ar P N ops l (e9 (get G2) d x) K):ar P N ops (o::l) g K:=by
 intro i hi
 obtain ⟨h1,al⟩:=drop_cons hi
 obtain ⟨g',ax,et⟩:=hk (i+1) al
 refine ⟨g',.mZ h1 ?_ he ax,et⟩
 unfold iQ; rw [a8]
theorem tD {x:ag}{G:List (Nat × ag)}:e9 (get G) d x=get ((d,x)::G):=by
 funext t; unfold e9; simp only [get]
variable {ca:List (List Nat)}{acc:Acc}{i:Nat}
inductive yN (P:Program):aY->List ResultVar->List ag->List ag->aY->Prop
 | nil {g:aY}:yN P g [] [] [] g
 | f {g g':aY}{t:Nat}{x:ag}{rs:List ResultVar}{ys xs:List ag}(h:g t=some x) (bl:lH x=true) [aL:cT x] (aD:yN P g rs ys xs g'):yN P g (.tmp t::rs) (x::ys) (x::xs) g'
 | o {g g':aY}{t:Nat}{en:cD α}{L:List α}{rs:List ResultVar}{ys xs:List ag}(h:g t=some (ak en L)) (aD:yN P (c_ g ⟨t,[]⟩ .dead) rs ys xs g'):yN P g (.tmp t::rs) (.bn en.z ⟨t,[]⟩ L.length::ys) (ak en L::xs) g'
end
end Go.Own
namespace Go.Own
open Go
variable {α β:Type}
section
variable {P:Program}{N:dN}{ops:Array Oper}{g g' g1 g2:aY}{K:aY->Prop}{l:List Oper}{d r:Nat}{ty t t2:TypeId}{pos:String}{after:Array Edge}{a b c:Operand}{p q:Place}{e:Exit}
inductive pL (s:Nat):aY->Nat->List ag->List ag->aY->Prop
 | nil {g:aY}{i:Nat}:pL s g i [] [] g
 | f {g g':aY}{i:Nat}{x:ag}{ys xs:List ag}(bl:lH x=true) [aL:cT x] (aD:pL s g (i+1) ys xs g'):pL s g i (x::ys) (x::xs) g'
 | o {α:Type}{g g':aY}{i:Nat}{en:cD α}{L:List α}{ys xs:List ag}(aG:b7 g ⟨s,[i]⟩=some (ak en L)) (aD:pL s (c_ g ⟨s,[i]⟩ .dead) (i+1) ys xs g'):pL s g i (.bn en.z ⟨s,[i]⟩ L.length::ys) (ak en L::xs) g'
theorem pL.take {s i:Nat}{ys xs:List ag}(h:pL s g i ys xs g'):Take g ys xs g':=by
 induction h with
 | nil=>exact .bK (by simp)
 | @f g g' i x ys xs bl aL _ aS=>exact .cons aL.bK aS
 | @o α g g' i en L ys xs aG _ aS =>
  refine .bn aG (Nat.le_refl _) ?_ aS
  rw [wg]; exact .bK (n_ en L)
inductive oX (P:Program):aY->List ResultVar->List ag->List ag->aY->Prop
 | nil {g:aY}:oX P g [] [] [] g
 | f {g g':aY}{t:Nat}{x:ag}{rs:List ResultVar}{ys xs:List ag}(h:g t=some x) (bl:lH x=true) [aL:cT x] (aD:oX P g rs ys xs g'):oX P g (.tmp t::rs) (x::ys) (x::xs) g'
 | o {α:Type}{g g':aY}{t:Nat}{en:cD α}{L:List α}{rs:List ResultVar}{ys xs:List ag}(h:g t=some (ak en L)) (aD:oX P (c_ g ⟨t,[]⟩ .dead) rs ys xs g'):oX P g (.tmp t::rs) (.bn en.z ⟨t,[]⟩ L.length::ys) (ak en L::xs) g'
 | c {g g' Cv:aY}{t z:Nat}{ty:TypeId}{cs ys0:List ag}{rs:List ResultVar}{ys xs:List ag}(h:g t=some (.obj cs)) (aD:i' P ty z=true) (bM:cs.length=z) (bb:Nat.blt 0 z=true) (az:(cs.mapIdx λi x=>ih 0 ⟨t,[i]⟩ x)=ys0) (hk:pL t g 0 ys0 cs Cv) (ax:oX P Cv rs ys xs g'):oX P g (.cell t ty::rs) (.agg ys0::ys) (.agg cs::xs) g'
def wK (g0 g:aY):Prop:=∀ t x,g t=some x->(lH x=true\/(∃ z n cs,x=.own z n cs))->g0 t=some x
theorem wK.set {g0:aY}{t:Nat}{pp:List Nat}(h:wK g0 g) (bd:pp=[]\/∃ cs,g t=some (.obj cs)):wK g0 (c_ g ⟨t,pp⟩ .dead):=by
 intro s x J bl
 unfold c_ at J
 split at J
 ·rename_i aN
  simp only at aN J
  subst aN
  exfalso
  cases a8:g s with
  | none=>rw [a8] at J; cases J
  | some y =>
   rw [a8] at J
   simp only [Option.map_some,Option.some.injEq] at J
   rcases bd with rfl | ⟨cs,ab⟩
   ·simp only [ag.setAt] at J
    subst J
    rcases bl with bl | ⟨_,_,_,bl⟩ <;> cases bl
   ·rw [a8] at ab
    cases ab
    have:∃ cs',x=.obj cs':=by
     subst J
     cases pp with
     | nil=>simp only [ag.setAt] at bl; rcases bl with bl | ⟨_,_,_,bl⟩ <;> cases bl
     | cons k pp =>
      simp only [ag.setAt,ag.kids]
      split
      ·exact ⟨_,rfl⟩
      ·exact ⟨_,rfl⟩
    obtain ⟨cs',rfl⟩:=this
    rcases bl with bl | ⟨_,_,_,bl⟩ <;> cases bl
 ·exact h s x J bl
theorem pL.Pu {g0:aY}{s i:Nat}{ys xs:List ag}(h:pL s g i ys xs g'):(∃ cs,g s=some (.obj cs))->wK g0 g->wK g0 g':=by
 induction h with
 | nil=>exact λ_ h=>h
 | f _ _ aS=>exact aS
 | @o α g g' i en L ys xs aG _ aS =>
  intro bd aV
  refine aS ?_ (aV.set (.inr bd))
  obtain ⟨cs,ab⟩:=bd
  unfold c_
  simp only [if_pos,ab,Option.map_some,ag.setAt,ag.kids]
  split
  ·exact ⟨_,rfl⟩
  ·exact ⟨_,rfl⟩
theorem pL.out {s i:Nat}{ys xs:List ag}(h:pL s g i ys xs g'):∀ t,t≠s->g' t=g t:=by
 induction h with
 | nil=>exact λ_ _=>rfl
 | f _ _ aS=>exact aS
 | o _ _ aS=>exact λt aD=>by rw [aS t aD,uA aD]
theorem oX.take {rs:List ResultVar}{ys xs:List ag}(h:oX P g rs ys xs g'):Take g ys xs g':=by
 induction h with
 | nil=>exact .bK (by simp)
 | @f g g' t x rs ys xs h bl aL _ aS=>exact .cons aL.bK aS
 | @o α g g' t en L rs ys xs h _ aS =>
  have aG:b7 g ⟨t,[]⟩=some (ak en L):=by simp [b7,h,ag.at]
  refine .bn aG (Nat.le_refl _) ?_ aS
  rw [wg]; exact .bK (n_ en L)
 | @c g g' Cv t z ty cs ys0 rs ys xs h aD bM bb az hk _ aS=>exact .agg hk.take aS
theorem oX.vs {rs:List ResultVar}{ys xs:List ag}(h:oX P g rs ys xs g'):∀ g0:aY,wK g0 g->(∀ t ty,ResultVar.cell t ty∈rs->∀ cs,g t=some (.obj cs)->g0 t=some (.obj cs))->(rs.filterMap fun | .cell t _=>some t | _=>none).Nodup->qo P g0 rs ys:=by
 induction h with
 | nil=>exact λ_ _ _ _=>.nil
 | @f g g' t x rs ys xs h bl aL _ aS =>
  intro g0 aV aH gw
  exact .cons (.tmp (Rd.f (aV t x h (.inl bl)) bl)) (aS g0 aV (λt ty hm=>aH t ty (List.mem_cons_of_mem _ hm)) (by simpa using gw))
 | @o α g g' t en L rs ys xs h _ aS =>
  intro g0 aV aH gw
  refine .cons (.tmp ?_) (aS g0 (aV.set (.inl rfl)) (λs ty hm cs ab=>?_) (by simpa using gw))
  ·have:=aV t _ h (.inr ⟨_,_,_,rfl⟩)
   simp [Own.bP,this,q4,ih]
  ·by_cases aN:s=t
   ·subst aN; simp [c_,h,ag.setAt] at ab
   ·rw [uA aN] at ab; exact aH s ty (List.mem_cons_of_mem _ hm) cs ab
 | @c g g' Cv t z ty cs ys0 rs ys xs h aD bM bb az hk _ aS =>
  intro g0 aV aH gw
  have h1:=aH t ty (by simp) cs h
  simp only [List.filterMap_cons,List.nodup_cons] at gw
  refine .cons ?_ (aS g0 (hk.Pu ⟨cs,h⟩ aV) (λs MX hm cs' ab=>?_) gw.2)
  ·have Lv:0<z:=by simpa using bb
   have J:Own.bP g0 (.tmp t)=some (.ptr ⟨t,[]⟩ 0):=by
    cases cs with
    | nil=>simp at bM; omega
    | cons c cs=>simp [Own.bP,h1,q4,ih]
   have:=dB.xJ (P:=P) (ty:=ty) (p:=⟨t,[]⟩) (n:=0) (z:=0) J aD (by simp only [b7,h1,ag.at]) (.inr rfl) (show 0+z<=cs.length by omega)
   have hb:((cs.drop 0).take z).mapIdx (λi x=>ih 0 (Place.push ⟨t,[]⟩ (0+i)) x)=ys0:=by
    rw [List.drop_zero,List.take_of_length_le (by omega),<- az]
    congr 1
    funext i x
    simp [Place.push]
   rw [hb] at this
   exact .cell this
  ·have cn:s≠t:=by
    rintro rfl
    exact gw.1 (List.mem_filterMap.2 ⟨.cell s MX,hm,rfl⟩)
   have:=hk.out s cn
   rw [this] at ab
   exact aH s MX (List.mem_cons_of_mem _ hm) cs' ab
inductive r6 (g:aY) (pins:List Nat):Nat->List (Option ag)->Prop
 | nil {i:Nat}:r6 g pins i []
 | no {i:Nat}{os:List (Option ag)}(t:r6 g pins (i+1) os):r6 g pins i (none::os)
 | aB {i:Nat}{x:ag}{os:List (Option ag)}(h:g i=some x) [aL:cT x] (aG:pins.elem i=true) (t:r6 g pins (i+1) os):r6 g pins i (some x::os)
theorem r6.spec {pins:List Nat}{i:Nat}{os:List (Option ag)}(h:r6 g pins i os):∀ k x,os[k]?=some (some x)->g (i+k)=some x/\di x/\i+k∈pins:=by
 induction h with
 | nil=>intro k x hk; simp at hk
 | no _ aS =>
  intro k x hk
  cases k with
  | zero=>simp at hk
  | succ k=>have:=aS k x (by simpa using hk); rw [Nat.add_assoc,Nat.add_comm 1 k] at this; exact this
 | @aB i y os h aL aG _ aS =>
  intro k x hk
  cases k with
  | zero=>simp at hk; subst hk; exact ⟨h,aL.bK,by simpa using aG⟩
  | succ k=>have:=aS k x (by simpa using hk); rw [Nat.add_assoc,Nat.add_comm 1 k] at this; exact this
theorem Fin.ro {rs:List ResultVar}{ys xs:List ag}{res:ag}{outs:List (Option ag)}{n:Nat}(h:oX P g rs ys xs g') (he:qa xs=res) (gw:(rs.filterMap fun | .cell t _=>some t | _=>none).Nodup) (bd:r6 g' N.pins 0 outs) (ao:outs.length=n) (J:e=.normal\/e=.ret):Fin P N rs n outs res e g :=
 ⟨J,⟨ys,xs,g',h.vs g (λ_ _ h _=>h) (λ_ _ _ _ h=>h) gw,h.take,he.symm,λk x hk=>by have:=bd.spec k x hk; rw [Nat.zero_add] at this; exact this⟩,ao⟩
class lb (x y:ag):Prop where v:∀ g,View g x y
class dV (xs ys:List ag):Prop where
 l:ys.length=xs.length
 v:∀ (g:aY) (k:Nat) (x y:ag),xs[k]?=some x->ys[k]?=some y->View g x y
class g_ (e cW:cD α):Prop where
 z:e.z=cW.z
 v:∀ a,dV (e.cells a) (cW.cells a)
instance {v:Value}:lb (.lit v) (.lit v):=⟨λ_=>.self .lit (by simp) (by simp) (by simp) (by simp) (by simp)⟩
instance:lb .aK .aK:=⟨λ_=>.self .aK (by simp) (by simp) (by simp) (by simp) (by simp)⟩
instance {z n:Nat}{cs:List ag} [h:e0 cs]:lb (.aE z n cs) (.aE z n cs):=⟨λ_=>.self (.aE h.bK) (by simp) (by simp) (by simp) (by simp) (by simp)⟩
instance {cs:List ag} [h:e0 cs]:lb (.bo cs) (.bo cs):=⟨λ_=>.self (.bo h.bK) (by simp) (by simp) (by simp) (by simp) (by simp)⟩
instance {e:cD α}:lb .aK (ah e []):=⟨λ_=>.pk⟩
instance:dV [] []:=⟨rfl,by simp⟩
instance {x y:ag}{xs ys:List ag} [h:lb x y] [aT:dV xs ys]:dV (x::xs) (y::ys):=⟨by simp [aT.l],λg k a b bj aH=>by
 cases k with
 | zero=>simp at bj aH; subst bj aH; exact h.v g
 | succ k=>exact aT.v g k a b (by simpa using bj) (by simpa using aH)⟩
theorem BA (e cW:cD α) [h:g_ e cW]:∀ L:List α,(ch cW L).length=(ch e L).length/\∀ (g:aY) (k:Nat) (x y:ag),(ch e L)[k]?=some x->(ch cW L)[k]?=some y->View g x y
 | []=>⟨rfl,by simp [ch]⟩
 | a::L=>by
  obtain ⟨h1,al⟩:=BA e cW L
  have PF:∀ e:cD α,ch e (a::L)=e.cells a++ch e L:=λe=>by simp [ch]
  refine ⟨by rw [oM,oM,h.z],λg k x y J az=>?_⟩
  rw [PF] at J az
  by_cases hk:k<e.z
  ·rw [List.getElem?_append_left (by rw [e.len]; exact hk)] at J
   rw [List.getElem?_append_left (by rw [cW.len,<- h.z]; exact hk)] at az
   exact (h.v a).v g k x y J az
  ·rw [List.getElem?_append_right (by rw [e.len]; omega),e.len] at J
   rw [List.getElem?_append_right (by rw [cW.len,<- h.z]; omega),cW.len,<- h.z] at az
   exact al g _ x y J az
instance {e cW:cD α}{L:List α} [h:g_ e cW]:lb (ak e L) (ah cW L):=⟨λg=>by
 have:=BA e cW L
 show View g (.own e.z L.length (ch e L)) (.aE cW.z L.length (ch cW L))
 rw [<- h.z]
 exact .own this.1 (this.2 g)⟩
instance:g_ aI aI:=⟨rfl,λa=>(inferInstance:dV [j a] [j a])⟩
instance:g_ o5 o5:=⟨rfl,λa=>(inferInstance:dV [ml a] [ml a])⟩
instance:g_ bJ bJ:=⟨rfl,λa=>(inferInstance:dV [a1 a] [a1 a])⟩
instance:g_ cy cy:=⟨rfl,λa=>(inferInstance:dV [ai a] [ai a])⟩
instance {e cW:cD α} [h:g_ e cW]:g_ (JI e) (bg cW):=⟨rfl,λa=>(inferInstance:dV [ak e a] [ah cW a])⟩
instance {e:cD α}:g_ (bg e) (bg e):=⟨rfl,λa=>(inferInstance:dV [ah e a] [ah e a])⟩
theorem View.row {e cW:cD α}{L:List α} [h:g_ e cW] (aG:b7 g p=some (ak e L)):View g (.bn e.z p L.length) (ah cW L):=by
 have:=BA e cW L
 show View g _ (.aE cW.z L.length (ch cW L))
 rw [<- h.z]
 refine .bn aG (Nat.le_refl _) (by rw [wg]; exact this.1) (λk x y J az=>?_)
 rw [wg] at J
 exact this.2 g k x y J az
inductive pO (g:aY):List ag->List ag->Prop
 | nil:pO g [] []
 | s {x y:ag}{xs ys:List ag} [h:lb x y] (t:pO g xs ys):pO g (x::xs) (y::ys)
 | c {x y:ag}{xs ys:List ag}(h:View g x y) (t:pO g xs ys):pO g (x::xs) (y::ys)
theorem pO.len {xs ys:List ag}(h:pO g xs ys):ys.length=xs.length:=by
 induction h with
 | nil=>rfl
 | s _ aS=>simp [aS]
 | c _ _ aS=>simp [aS]
theorem pO.get {xs ys:List ag}(h:pO g xs ys):∀ (k:Nat) (x y:ag),xs[k]?=some x->ys[k]?=some y->View g x y:=by
 induction h with
 | nil=>intro k x y J; simp at J
 | @s x y xs ys h _ aS =>
  intro k a b bj aH
  cases k with
  | zero=>simp at bj aH; subst bj aH; exact h.v g
  | succ k=>exact aS k a b (by simpa using bj) (by simpa using aH)
 | @c x y xs ys h _ aS =>
  intro k a b bj aH
  cases k with
  | zero=>simp at bj aH; subst bj aH; exact h
  | succ k=>exact aS k a b (by simpa using bj) (by simpa using aH)
theorem View.yP {xs ys:List ag}(h:pO g xs ys):View g (.agg xs) (.agg ys):=.agg h.len h.get
class ql (x:ag):Prop where k9:ky x
class jL (cs:List ag):Prop where k9:∀ x∈cs,ky x
class lV (e:cD α):Prop where k9:∀ a,jL (e.cells a)
instance {v:Value}:ql (.lit v):=⟨.lit⟩
instance:ql .aK:=⟨.aK⟩
instance:jL []:=⟨by simp⟩
instance {x:ag}{xs:List ag} [h:ql x] [aT:jL xs]:jL (x::xs):=⟨λy az=>by
 rcases List.mem_cons.1 az with rfl | az
 ·exact h.k9
 ·exact aT.k9 y az⟩
instance {e:cD α}{L:List α} [h:lV e]:jL (ch e L):=⟨λx J=>by
 obtain ⟨a,_,bj⟩:=List.mem_flatMap.1 J
 exact (h.k9 a).k9 x bj⟩
instance {z n:Nat}{cs:List ag} [h:jL cs]:ql (.own z n cs):=⟨.own h.k9⟩
instance {cs:List ag} [h:jL cs]:ql (.obj cs):=⟨.obj h.k9⟩
instance {cs:List ag} [h:jL cs]:ql (.agg cs):=⟨.agg h.k9⟩
instance {cs:List ag} [h:jL cs]:ql (.cB cs):=⟨.cB h.k9⟩
instance {e:cD α}{a:α} [h:lV e]:jL (e.cells a):=h.k9 a
instance:lV aI:=⟨λa=>(inferInstance:jL [j a])⟩
instance:lV o5:=⟨λa=>(inferInstance:jL [ml a])⟩
instance:lV bJ:=⟨λa=>(inferInstance:jL [a1 a])⟩
instance:lV cy:=⟨λa=>(inferInstance:jL [ai a])⟩
instance {e:cD α} [h:lV e]:lV (JI e):=⟨λa=>(inferInstance:jL [ak e a])⟩
theorem Tn {outs:List (Option ag)}{args:List ag}(bd:vL outs=true) (ao:outs.length=args.length):outs=args.map λ_=>none:=by
 apply List.ext_getElem?
 intro k
 rw [List.getElem?_map]
 cases az:args[k]? with
 | none=>rw [List.getElem?_eq_none (by rw [ao]; exact List.getElem?_eq_none_iff.1 az)]; rfl
 | some y =>
  have hk:k<outs.length:=by rw [ao]; exact (List.getElem?_eq_some_iff.1 az).1
  have h1:=List.getElem?_eq_getElem hk
  rw [h1]
  cases al:outs[k] with
  | none=>rfl
  | some x=>rw [al] at h1; exact absurd h1 (Dg bd k x)
theorem cu.vw {xs:List Operand}{iz:Array TypeId}{f:FuncId}{ys args:List ag}{outs:List (Option ag)}{res:ag}(J:iI g xs=some ys) (hv:pO g ys args) (jc:cb P f args outs res) (bl:dM P f=true) (bd:vL outs=true) [ax:ql res] :
  cu P g (.call { callee:=.value (.func f),args:=xs.toArray,argTypes:=iz }) res:=by
 have e:=Tn bd jc.1
 refine .C8 (first:=[]) (caps:=[]) (ys:=ys) (args:=args) rfl (by simpa using J) bl (by simpa using hv.len) (λk x y J az=>hv.get k x y (by simpa using J) az) ?_ ax.k9
 rw [<- e]; exact jc
end
end Go.Own
namespace Go.Own
open Go
variable {α β:Type}
section
variable {P:Program}{N:dN}{ops:Array Oper}{g g' g1 g2:aY}{K:aY->Prop}{l:List Oper}{d r:Nat}{op:Op}{ty t t2:TypeId}{pos:String}{after:Array Edge}{ir:Option (Nat × Bool)}{a b c:Operand}{p q:Place}{x y:ag}
variable {ca:List (List Nat)}{g0:aY}{acc:Acc}{i:Nat}
instance {cs cs':List ag} [h:dV cs cs']:lb (.obj cs) (.bo cs'):=⟨λg=>.obj h.l (h.v g)⟩
instance {cs cs':List ag} [h:dV cs cs']:lb (.agg cs) (.agg cs'):=⟨λg=>.agg h.l (h.v g)⟩
instance {z n:Nat}{cs cs':List ag} [h:dV cs cs']:lb (.own z n cs) (.aE z n cs'):=⟨λg=>.own h.l (h.v g)⟩
theorem ar.fC (aG:dE P g op ty y) [aL:cT y] [hv:lb y x] (bW:N.ok d=true) (bl:g d=none) (a8:gu g ops ir) (hk:ar P N ops l (e9 g d x) K):ar P N ops (⟨some d,op,ty,pos,after,ir⟩::l) g K :=
 .yp rfl bW bl (r:=some x) (.inr (.inr ⟨a8.wanted,y,.inl aG,aL.bK,hv.v _⟩)) hk
theorem bL.fC (dk:Nat) (aG:dE P (ob ca g0 dk acc) op ty y) [aL:cT y] [hv:lb y x] (aa:Nat.beq ops.size (dk+l.length+1)=true) (bl:g0 d=none) (pb:acc.all (λe=>!Nat.beq e.2.1 d)=true) (bW:N.ok d=true) (a8:gu (ob ca g0 dk acc) ops ir)
  (hk:bL P N ops ca g0 i ((dk,d,some x)::acc) l K):bL P N ops ca g0 i acc (⟨some d,op,ty,pos,after,ir⟩::l) K :=
 .st dk (r:=some x) rfl (.inr (.inr ⟨a8.wanted,y,.inl aG,aL.bK,hv.v _⟩)) aa bl pb bW hk
inductive o1 (ex:List Nat) (g g2:aY):List (Nat × ag)->Prop
 | nil:o1 ex g g2 []
 | n {s:Nat}{x:ag}{l:List (Nat × ag)}(eI:ex.elem s=false) (h:g s=some x) [aL:cT x] (t:o1 ex g g2 l):o1 ex g g2 ((s,x)::l)
 | p {s q k:Nat}{l:List (Nat × ag)}{nR:List ag}(eI:ex.elem s=false) (h:g s=some (.ptr ⟨q,[]⟩ k)) (al:g2 q=some (.obj nR)) (gH:Nat.blt k nR.length=true) (t:o1 ex g g2 l):o1 ex g g2 ((s,.ptr ⟨q,[]⟩ k)::l)
 | z {s:Nat}{x y:ag}{l:List (Nat × ag)}(he:ex.elem s=true) (h:g s=some y) [aL:cT y] (hv:jA y x) [J:om x] (t:o1 ex g g2 l):o1 ex g g2 ((s,x)::l)
theorem o1.spec {ex:List Nat}{l:List (Nat × ag)}(h:o1 ex g g2 l):∀ t x,get l t=some x->((ex.elem t=false/\g t=some x/\e3 g2 x)\/(ex.elem t=true/\∃ y,g t=some y/\di y/\jA y x))/\∀ z p n m new,x≠.bX z p n m new:=by
 induction h with
 | nil=>intro t x J; cases J
 | @n s x l eI h aL _ aS =>
  intro t y az; simp only [get] at az
  split at az
  ·rename_i e; subst e; cases az; exact ⟨.inl ⟨eI,h,.bK aL.bK⟩,by rintro z p n m new rfl; cases aL.bK⟩
  ·exact aS t y az
 | @p s q k l nR eI h al gH _ aS =>
  intro t y az; simp only [get] at az
  split at az
  ·rename_i e; subst e; cases az; exact ⟨.inl ⟨eI,h,.ref rfl (s0 al (by simpa using gH))⟩,by simp⟩
  ·exact aS t y az
 | @z s x y l he h aL hv J _ aS =>
  intro t y' az; simp only [get] at az
  split at az
  ·rename_i e; subst e; cases az; exact ⟨.inr ⟨he,y,h,aL.bK,hv⟩,J.fO⟩
  ·exact aS t y' az
theorem o1.tB {ex:List Nat}{G2:List (Nat × ag)}(h:o1 ex g (get G2) G2):DX (λt=>ex.elem t) g (get G2):=by
 refine ⟨λt x J aD=>?_,λt x J aD=>?_,λt z q n m new J=>(h.spec t _ J).2 _ _ _ _ _ rfl⟩
 ·rcases (h.spec t x J).1 with ⟨_,h1,al⟩ | ⟨h1,_⟩
  ·exact ⟨h1,al⟩
  ·rw [h1] at aD; cases aD
 ·rcases (h.spec t x J).1 with ⟨h1,_⟩ | ⟨_,al⟩
  ·rw [h1] at aD; cases aD
  ·exact al
theorem W.e7 {cv:Code}{G G1:List (Nat × ag)}{Φ:Exit->aY->Prop}(ex:List Nat) (h:o1 ex (get G) (get G1) G1) (hw:W P N cv (get G1) Φ):W P N cv (get G) Φ:=by
 intro Q a w I Fs bT bW dX
 obtain ⟨I',cp,eB,cn⟩:=bT.tB h.tB
 exact hw eB bW λe g' cE w' he aL=>dX e g' cE w' he (h'.trans rfl hG.refl cn aL)
theorem ar.e7 {G1:List (Nat × ag)}(ex:List Nat) (h:o1 ex g (get G1) G1) (hk:ar P N ops l (get G1) K):ar P N ops l g K:=by
 intro i hi
 obtain ⟨g',ax,et⟩:=hk i hi
 exact ⟨g',.tB h.tB ax,et⟩
theorem Take.pre {xs xs':List ag}:∀ {ps:List ag},(∀ x∈ps,di x)->Take g xs xs' g'->Take g (ps++xs) (ps++xs') g'
 | [],_,h=>h
 | x::ps,aL,h=>.cons (aL x (by simp)) (Take.pre (ps:=ps) (λy az=>aL y (List.mem_cons_of_mem _ az)) h)
inductive il:aY->List ag->List ag->aY->Prop
 | nil {g:aY}:il g [] [] g
 | j8 {g:aY}{xs:List ag} [aL:e0 xs]:il g xs xs g
 | f {g g':aY}{x:ag}{xs xs':List ag} [aL:cT x] (t:il g xs xs' g'):il g (x::xs) (x::xs') g'
 | r {α:Type}{g g':aY}{p:Place}{en:cD α}{L:List α}{xs xs':List ag}(aG:b7 g p=some (ak en L)) (t:il (c_ g p .dead) xs xs' g'):il g (.bn en.z p L.length::xs) (ak en L::xs') g'
 | l {g g1 g':aY}{p:Place}{z n:Nat}{cs cs' xs xs':List ag}(aG:b7 g p=some (.own z n cs)) (ao:cs.length=n * z) (h1:il (c_ g p .dead) cs cs' g1) (t:il g1 xs xs' g'):il g (.bn z p n::xs) (.own z n cs'::xs') g'
 | lx {α:Type}{g g1 g':aY}{q:Place}{s m:Nat}{en:cD α}{L:List α}{new dj xs xs':List ag}(aN:g s=some (.bX en.z q L.length m new)) (aG:b7 g q=some (ak en L)) (bO:Nat.beq q.root s=false) (h1:il (c_ (c_ g ⟨s,[]⟩ .dead) q .dead) new dj g1) (t:il g1 xs xs' g') :
   il g (.bn en.z ⟨s,[]⟩ (L.length+m)::xs) (.own en.z (L.length+m) (ch en L++dj)::xs') g'
 | yP {g g1 g':aY}{cs cs' xs xs':List ag}(h1:il g cs cs' g1) (t:il g1 xs xs' g'):il g (.agg cs::xs) (.agg cs'::xs') g'
 | m {g g':aY}{p:Place}{q:Array MapEntry->Nat->Prop}{xs xs':List ag}(aG:b7 g p=some (.mp q)) (t:il (c_ g p .dead) xs xs' g'):il g (.hD p::xs) (.mp q::xs') g'
 | b {g g1 g':aY}{p:Place}{cs cs' xs xs':List ag}(aG:b7 g p=some (.obj cs)) (h1:il (c_ g p .dead) cs cs' g1) (t:il g1 xs xs' g'):il g (.ptr p 0::xs) (.obj cs'::xs') g'
theorem il.take {xs xs':List ag}(h:il g xs xs' g'):Take g xs xs' g':=by
 induction h with
 | m aG _ aS=>exact .mp aG (.bK (by simp)) aS
 | nil=>exact .bK (by simp)
 | @j8 g xs aL=>exact .bK aL.bK
 | @f g g' x xs xs' aL _ aS=>exact .cons aL.bK aS
 | @r α g g' p en L xs xs' aG _ aS =>
  refine .bn aG (Nat.le_refl _) ?_ aS
  rw [wg]; exact .bK (n_ en L)
 | @l g g1 g' p z n cs cs' xs xs' aG ao _ _ gx gl =>
  refine .bn aG (Nat.le_refl _) ?_ gl
  rw [List.take_of_length_le (by omega)]; exact gx
 | @lx α g g1 g' q s m en L new dj xs xs' aN aG bO _ _ gx gl=>exact .bX aN aG (Nat.ne_of_beq_eq_false bO) (.pre (n_ en L) gx) gl
 | @yP g g1 g' cs cs' xs xs' _ _ gx gl=>exact .agg gx gl
 | @b g g1 g' p cs cs' xs xs' aG _ _ gx gl=>exact .obj aG gx gl
inductive gU:List ag->List ag->Prop
 | nil:gU [] []
 | gR {xs:List ag}:gU xs xs
 | f {x:ag}{xs ys:List ag}(t:gU xs ys):gU (x::xs) (x::ys)
 | o {z:Nat}{xs ys:List ag}(t:gU xs ys):gU (.aK::xs) (.own z 0 []::ys)
 | z {x y:ag}{xs ys:List ag} [aL:cT x] [hv:lb x y] (t:gU xs ys):gU (x::xs) (y::ys)
 | g {x y:ag}{xs ys:List ag}(h:jA x y) (t:gU xs ys):gU (x::xs) (y::ys)
theorem gU.len {xs ys:List ag}(h:gU xs ys):ys.length=xs.length:=by
 induction h with
 | nil=>rfl
 | gR=>rfl
 | f _ aS=>simp [aS]
 | o _ aS=>simp [aS]
 | z _ aS=>simp [aS]
 | g _ _ aS=>simp [aS]
theorem gU.get {xs ys:List ag}(h:gU xs ys):∀ (k:Nat) (x y:ag),xs[k]?=some x->ys[k]?=some y->jA x y:=by
 induction h with
 | nil=>intro k x y J; simp at J
 | gR=>intro k x y J az; rw [J] at az; cases az; exact .refl
 | @f x xs ys _ aS =>
  intro k a b bj aH
  cases k with
  | zero=>simp at bj aH; subst bj aH; exact .refl
  | succ k=>exact aS k a b (by simpa using bj) (by simpa using aH)
 | @o z xs ys _ aS =>
  intro k a b bj aH
  cases k with
  | zero=>simp at bj aH; subst bj aH; exact .Hc
  | succ k=>exact aS k a b (by simpa using bj) (by simpa using aH)
 | @z x y xs ys aL hv _ aS =>
  intro k a b bj aH
  cases k with
  | zero=>simp at bj aH; subst bj aH; exact .qW aL.bK (hv.v _)
  | succ k=>exact aS k a b (by simpa using bj) (by simpa using aH)
 | @g x y xs ys h _ aS =>
  intro k a b bj aH
  cases k with
  | zero=>simp at bj aH; subst bj aH; exact h
  | succ k=>exact aS k a b (by simpa using bj) (by simpa using aH)
theorem gU.pre {xs ys:List ag}(h:gU xs ys):∀ ps:List ag,gU (ps++xs) (ps++ys)
 | []=>h
 | _::ps=>.f (gU.pre h ps)
theorem gU.own {z n:Nat}{xs ys:List ag}(h:gU xs ys):jA (.own z n xs) (.own z n ys):=.own h.len h.get
theorem gU.obj {xs ys:List ag}(h:gU xs ys):jA (.obj xs) (.obj ys):=.obj h.len h.get
theorem gU.agg {xs ys:List ag}(h:gU xs ys):jA (.agg xs) (.agg ys):=.agg h.len h.get
theorem jA.hj [aL:cT x] [hv:lb x y]:jA x y:=.qW aL.bK (hv.v _)
theorem cj.B1 {o:Oper}{x:Operand}{y ke y':ag}{G2:List (Nat × ag)}(bd:o.op=.assign x) (aV:o.dst=some d) (J:Rd g x y) (aD:il g [y] [ke] g1) (bM:jA ke y') (ea:Trim false g1 (get G2) G2) (a8:get G2 d=none) (bW:N.ok d=true):cj P N g o (e9 (get G2) d y') :=
 .assign bd aV J.bP aD.take bM ea.keep a8 bW
theorem cj.IE {o:Oper}{x:Operand}{en:cD α}{L M R:List α}{s m:Nat}{new dj:List ag}{G2:List (Nat × ag)}(bd:o.op=.assign x) (aV:o.dst=some d) (J:Rd g x (.bn en.z ⟨s,[]⟩ (L.length+m))) (aN:g s=some (.bX en.z q L.length m new)) (aG:b7 g q=some (ak en L)) (bO:Nat.beq q.root s=false)
  (h1:il (c_ (c_ g ⟨s,[]⟩ .dead) q .dead) new dj g1) (bM:gU dj (ch en M)) (hm:M.length=m) (ax:L++M=R) (ea:Trim false g1 (get G2) G2) (a8:get G2 d=none) (bW:N.ok d=true):cj P N g o (e9 (get G2) d (ak en R)):=by
 subst hm ax
 have aD:=il.lx (xs:=[]) (xs':=[]) aN aG bO h1 .nil
 rw [<- vN]
 exact .assign bd aV J.bP aD.take (bM.pre _).own ea.keep a8 bW
theorem cj.yo {o:Oper}{k0:Nat}{rv cs' cs2:List ag}{y ke y':ag}{G2:List (Nat × ag)}(bd:o.op=.store t a b) (aV:o.dst=none) (bj:Rd g a (.ptr ⟨r,[]⟩ k0)) (aH:Rd g b y) (aD:il g [y] [ke] g1) (o':jA ke y') (ab:se y'=some cs') (bM:gJ P t cs'.length=true)
  (aN:g1 r=some (.obj rv)) (hk:Nat.ble (k0+cs'.length) rv.length=true) (bb:Nat.blt 0 cs'.length=true) (he:fW rv k0 cs'=cs2) [gI:e0 rv] (ax:(get G2 r).isSome=true) (ea:mU g1 (get G2) r cs2 G2):cj P N g o (get G2):=by
 subst he
 refine .store bd aV bj.bP aH.bP aD.take o' ab bM (p:=⟨r,[]⟩) (nd:=.obj rv) (z:=0) (n:=0) (by simp [b7,aN,ag.at]) (.inr rfl) (Nat.le_of_ble_eq_true hk) (by simpa using bb) (λt x J=>?_) (λt x J y az=>?_) (λt z q n m new J=>?_) (by intro e; rw [e] at ax; cases ax)
 ·rcases ea.spec t x J with ⟨h1,al,_⟩ | ⟨h1,al,_⟩
  ·rw [q7 h1]; exact al
  ·subst h1 al; simp [c_,aN,ag.setAt,ag.fW]
 ·rcases ea.spec t x J with ⟨h1,al,aO⟩ | ⟨h1,al,aO⟩
  ·rw [al] at az; cases az; exact aO.wc
  ·subst h1
   rw [aN] at az
   cases az
   exact .bK (.obj gI.bK)
 ·rcases ea.spec t _ J with ⟨_,_,aO⟩ | ⟨_,al,_⟩
  ·exact aO.fO _ _ _ _ _ rfl
  ·cases al
theorem cj.nn {o:Oper}{k0 s m:Nat}{en:cD α}{L M R:List α}{new dj:List ag}{rv cs2:List ag}{G2:List (Nat × ag)}(bd:o.op=.store t a b) (aV:o.dst=none) (bj:Rd g a (.ptr ⟨r,[]⟩ k0)) (aH:Rd g b (.bn en.z ⟨s,[]⟩ (L.length+m))) (sH:g s=some (.bX en.z q L.length m new)) (aG:b7 g q=some (ak en L)) (bO:Nat.beq q.root s=false)
  (h1:il (c_ (c_ g ⟨s,[]⟩ .dead) q .dead) new dj g1) (o':gU dj (ch en M)) (hm:M.length=m) (bf:L++M=R) (bM:gJ P t 1=true)
  (aN:g1 r=some (.obj rv)) (hk:Nat.ble (k0+1) rv.length=true) (he:fW rv k0 [ak en R]=cs2) [gI:e0 rv] (ax:(get G2 r).isSome=true) (ea:mU g1 (get G2) r cs2 G2):cj P N g o (get G2):=by
 subst hm bf
 have aD:=il.lx (xs:=[]) (xs':=[]) sH aG bO h1 .nil
 refine .yo (y':=ak en (L++M)) bd aV bj aH aD ?_ rfl bM aN hk rfl he ax ea
 rw [<- vN]; exact (o'.pre _).own
inductive oj (r:Nat) (cs:List ag) (k0:Nat):Nat->List ag->List ag->Prop
 | nil {i:Nat}:oj r cs k0 i [] []
 | b {i:Nat}{xs ys:List ag}(hi:Nat.beq i k0=true) (t:oj r cs k0 (i+1) xs ys):oj r cs k0 i (.ptr ⟨r,[]⟩ 0::xs) (.obj cs::ys)
 | n {i:Nat}{x:ag}{xs ys:List ag}(hi:Nat.beq i k0=false) [aL:cT x] (t:oj r cs k0 (i+1) xs ys):oj r cs k0 i (x::xs) (x::ys)
theorem oj.len {cs:List ag}{k0 i:Nat}{xs ys:List ag}(h:oj r cs k0 i xs ys):ys.length=xs.length:=by
 induction h with
 | nil=>rfl
 | b _ _ aS=>simp [aS]
 | n _ _ aS=>simp [aS]
theorem oj.To {cs:List ag}{k0 i:Nat}{xs ys:List ag}(h:oj r cs k0 i xs ys) (hi:k0<i):xs=ys/\∀ x∈xs,di x:=by
 induction h with
 | nil=>exact ⟨rfl,by simp⟩
 | @b i _ _ h _ _=>have:=Nat.eq_of_beq_eq_true h; omega
 | @n i x xs ys _ aL _ aS =>
  obtain ⟨h1,al⟩:=aS (by omega)
  exact ⟨by rw [h1],oK aL.bK al⟩
theorem oj.take {cs:List ag}{k0 i:Nat}{xs ys:List ag}(h:oj r cs k0 i xs ys) (aN:g r=some (.obj cs)) (aL:∀ x∈cs,di x):i<=k0->k0<i+xs.length->Take g xs ys (c_ g ⟨r,[]⟩ .dead):=by
 induction h with
 | nil=>intro h1 al; simp at al; omega
 | @b i xs ys hi t _ =>
  intro h1 al
  have:=Nat.eq_of_beq_eq_true hi
  obtain ⟨e,mv⟩:=t.To (by omega)
  subst e
  exact .obj (by simp [b7,aN,ag.at]) (.bK aL) (.bK mv)
 | @n i x xs ys hi J _ aS =>
  intro h1 al
  have:=Nat.ne_of_beq_eq_false hi
  simp only [List.length_cons] at al
  exact .cons J.bK (aS (by omega) (by omega))
theorem oj.N5 {cs:List ag}{k0 i:Nat}{xs ys:List ag}(h:oj r cs k0 i xs ys):i<=k0->k0<i+xs.length->xs[k0 - i]?=some (.ptr ⟨r,[]⟩ 0):=by
 induction h with
 | nil=>intro h1 al; simp at al; omega
 | @b i xs ys hi _ _=>intro _ _; have:=Nat.eq_of_beq_eq_true hi; subst this; simp
 | @n i x xs ys hi _ _ aS =>
  intro h1 al
  have:=Nat.ne_of_beq_eq_false hi
  simp only [List.length_cons] at al
  have aO:=aS (by omega) (by omega)
  have:k0 - i=(k0 - (i+1))+1:=by omega
  rw [this,List.getElem?_cons_succ]; exact aO
def xV (n k0:Nat) (x:ag):List (Option ag):=(List.range n).map λi=>if i=k0 then some x else none
inductive wH (g:aY) (d r:Nat) (n:Nat) (G4:List (Nat × ag)):List (Nat × ag)->Prop
 | nil:wH g d r n G4 []
 | c {s k:Nat}{l:List (Nat × ag)}(h:g s=some (.ptr ⟨r,[]⟩ k)) (hk:Nat.blt k n=true) (aV:Nat.beq s d=false) (b4:get G4 s=none) (t:wH g d r n G4 l):wH g d r n G4 ((s,.ptr ⟨r,[]⟩ k)::l)
theorem Cw {A B:List (Nat × ag)}{t:Nat}:get (A++B) t=match get A t with | some x=>some x | none=>get B t:=by
 induction A with
 | nil=>rfl
 | cons p A aS =>
  obtain ⟨s,x⟩:=p
  show (if t=s then some x else get (A++B) t)=_
  by_cases h:t=s
  ·simp [get,h]
  ·simp only [get,if_neg h]; exact aS
theorem wH.spec {n:Nat}{G4 A:List (Nat × ag)}(h:wH g d r n G4 A):∀ t x,get A t=some x->get G4 t=none/\t≠d/\g t=some x/\∃ k,x=.ptr ⟨r,[]⟩ k/\k<n:=by
 induction h with
 | nil=>intro t x J; cases J
 | @c s k l h hk aV b4 _ aS =>
  intro t x J; simp only [get] at J
  split at J
  ·rename_i e; subst e; cases J; exact ⟨b4,Nat.ne_of_beq_eq_false aV,h,k,rfl,by simpa using hk⟩
  ·exact aS t x J
theorem hV.nG {o:Oper}{xs:List Operand}{iz:Array TypeId}{f:FuncId}{ys args:List ag}{res:ag}{cs cs':List ag}{k0:Nat}{G2 A:List (Nat × ag)}(bd:o.op=.call { callee:=.value (.func f),args:=xs.toArray,argTypes:=iz }) (aV:o.dst=some d) (J:Own.iI g xs=some ys)
  (aN:g r=some (.obj cs)) [gI:e0 cs] (bj:oj r cs k0 0 ys args) (tV:Nat.blt k0 ys.length=true) (jc:cb P f args (xV args.length k0 (.obj cs')) res) (bl:dM P f=true) [ax:cT res] [K4:e0 cs']
  (ea:Trim false (c_ g ⟨r,[]⟩ .dead) (get ((r,.dead)::G2)) G2) (a8:get G2 d=none) (z_:Nat.beq r d=false) (zE:Trim false (get ((r,.obj cs')::G2)) (get ((r,.obj cs')::G2)) G2) (eT:wH g d r cs'.length ((r,.obj cs')::G2) A) (bW:N.ok d=true) :
  hV P N g o d (get (A++(d,res)::(r,.obj cs')::G2)):=by
 have VW:k0<ys.length:=by simpa using tV
 have z':r≠d:=Nat.ne_of_beq_eq_false z_
 have vg:args.length=ys.length:=bj.len
 have pc:(xV args.length k0 (.obj cs'))[k0]?=some (some (.obj cs')):=by
  unfold xV
  rw [List.getElem?_map,List.getElem?_range (by omega)]
  simp
 have RY:∀ (k:Nat) (x:ag),(xV args.length k0 (.obj cs'))[k]?=some (some x)->x=.obj cs':=by
  intro k x h
  unfold xV at h
  rw [List.getElem?_map] at h
  cases hk:(List.range args.length)[k]? with
  | none=>rw [hk] at h; cases h
  | some ae =>
   rw [hk] at h
   simp only [Option.map_some,Option.some.injEq] at h
   split at h
   ·exact (Option.some.inj h).symm
   ·cases h
 have EE:get ((r,ag.dead)::G2) r=some .dead:=by simp [get]
 have vF:hI (c_ g ⟨r,[]⟩ .dead) (get ((r,.dead)::G2)):=by
  refine ⟨λt x h=>?_,λt x h=>?_,λt z q n m new h=>?_⟩
  all_goals
   simp only [get] at h
   split at h
  ·rename_i e; subst e; cases h; simp [c_,aN,ag.setAt]
  ·obtain ⟨⟨y,h1,_,aO⟩,_⟩:=ea.spec t x h; rw [<- aO rfl]; exact h1
  ·cases h; exact .bK .dead
  ·exact (ea.spec t x h).2.1
  ·cases h
  ·exact (ea.spec t _ h).2.2 _ _ _ _ _ rfl
 have put:pt (get ((r,.dead)::G2)) [(⟨r,[]⟩,.obj cs')]=get ((r,.obj cs')::G2):=by
  funext t
  simp only [pt,c_,get]
  by_cases h:t=r
  ·simp [h,ag.setAt]
  ·simp [h]
 have vG:hI (get ((r,.obj cs')::G2)) (get ((r,.obj cs')::G2)):=by
  refine ⟨λt x h=>h,λt x h=>?_,λt z q n m new h=>?_⟩
  all_goals
   simp only [get] at h
   split at h
  ·cases h; exact .bK (.obj K4.bK)
  ·exact (zE.spec t x h).2.1
  ·cases h
  ·exact (zE.spec t _ h).2.2 _ _ _ _ _ rfl
 refine wL.ok (first:=[]) (caps:=[]) (ys:=ys) (tk:=λ_=>true) (vw:=false) (outs:=xV args.length k0 (.obj cs')) (g1:=c_ g ⟨r,[]⟩ .dead) (g2:=get ((r,.dead)::G2)) (g4:=get ((r,.obj cs')::G2)) (l:=[(⟨r,[]⟩,.obj cs')]) (ks:=λ_=>k0) (xs0:=ys) (xs1:=args) (args:=args) (res:=res) bd aV rfl (by simpa using J)
  ⟨bl,by simp,by simpa using vg,λk x h=>.inl (by simpa using h),bj.take aN gI.bK (Nat.zero_le _) (by omega),vF,λk x y _ az=>by simpa using az,jc,by simpa using ax.bK,λk x h=>by rw [RY k x h]; simpa using di.obj K4.bK,λae p x aa=>?_,by simp,λi ae hi aa _=>by simp at hi aa; omega,by rw [put]; exact vG⟩ ?_ bW ?_
 ·cases ae with
  | succ ae=>simp at aa
  | zero =>
   simp only [List.getElem?_cons_zero,Option.some.injEq,Prod.mk.injEq] at aa
   obtain ⟨rfl,rfl⟩:=aa
   refine ⟨pc,by simp [b7,EE,ag.at],.inr ⟨cs,?_,by simp [b7,aN,ag.at]⟩⟩
   have:=bj.N5 (Nat.zero_le _) (by omega)
   simpa using this
 ·simp only [get,if_neg (Ne.symm z')]; exact a8
 ·refine ⟨λt x h=>?_,λt x h=>?_⟩
  ·rw [tD] at h
   rw [Cw]
   cases qC:get A t with
   | none=>exact h
   | some y =>
    obtain ⟨h1,al,_⟩:=eT.spec t y qC
    simp only [get,if_neg al] at h
    simp only [get] at h1
    rw [h1] at h; cases h
  ·rw [tD]
   rw [Cw] at h
   cases qC:get A t with
   | none=>rw [qC] at h; exact .inl h
   | some y =>
    rw [qC] at h
    cases h
    obtain ⟨h1,al,aO,k,rfl,hk⟩:=eT.spec t x qC
    refine .inr ⟨?_,al,aO,r,k,cs',rfl,z',?_,hk⟩
    ·simp only [get,if_neg al]; exact h1
    ·simp only [get,if_neg z',if_true]
end
end Go.Own
namespace Go.Own
open Go
variable {α β:Type}
def Ck (k:IntKind):cD Int:=.one (λn=>.lit (.int k n)) λ_=>.lit
instance {k:IntKind}:Flat (Ck k):=⟨λ_=>rfl⟩
instance {k:IntKind}:g_ (Ck k) (Ck k):=⟨rfl,λa=>(inferInstance:dV [.lit (.int k a)] [.lit (.int k a)])⟩
instance {k:IntKind}:lV (Ck k):=⟨λa=>(inferInstance:jL [.lit (.int k a)])⟩
instance {cs:List ag}{n:Nat}{x:ag} [h:e0 cs] [J:cT x]:e0 (cs.set n x):=⟨λy az=>by
 rcases List.mem_or_eq_of_mem_set az with aT | aT
 ·exact h.bK y aT
 ·rw [aT]; exact J.bK⟩
instance {x y:ag} [h:cT y]:cT (x.setAt [] y):=⟨by simpa [ag.setAt] using h.bK⟩
def sX (m n:Int):Option Int:=if n=0 then none else some (IntKind.u64.wrap (m.tdiv n))
def s3 (m n:Int):Option Int:=if n=0 then none else some (m.tmod n)
inductive kT:List ag->List ag->Prop
 | nil:kT [] []
 | f {x:ag}{xs ys:List ag}(t:kT xs ys):kT (x::xs) (x::ys)
 | o {z:Nat}{xs ys:List ag}(t:kT xs ys):kT (.aK::xs) (.own z 0 []::ys)
 | i {z:Nat}{xs ys:List ag}(t:kT xs ys):kT (.aK::xs) (.aE z 0 []::ys)
theorem kT.len {xs ys:List ag}(h:kT xs ys):ys.length=xs.length:=by
 induction h with
 | nil=>rfl
 | f _ aS=>simp [aS]
 | o _ aS=>simp [aS]
 | i _ aS=>simp [aS]
theorem kT.get {xs ys:List ag}(h:kT xs ys):∀ (k:Nat) (x y:ag),xs[k]?=some x->ys[k]?=some y->ou x y:=by
 induction h with
 | nil=>intro k x y J; simp at J
 | f _ aS =>
  intro k a b bj aH
  cases k with
  | zero=>simp at bj aH; subst bj aH; exact .refl
  | succ k=>exact aS k a b (by simpa using bj) (by simpa using aH)
 | o _ aS =>
  intro k a b bj aH
  cases k with
  | zero=>simp at bj aH; subst bj aH; exact .mK
  | succ k=>exact aS k a b (by simpa using bj) (by simpa using aH)
 | i _ aS =>
  intro k a b bj aH
  cases k with
  | zero=>simp at bj aH; subst bj aH; exact .xP
  | succ k=>exact aS k a b (by simpa using bj) (by simpa using aH)
theorem kT.obj {xs ys:List ag}(h:kT xs ys):ou (.obj xs) (.obj ys):=.obj h.len h.get
section
variable {P:Program}{N:dN}{ops:Array Oper}{g g' g1 g2:aY}{K:aY->Prop}{l:List Oper}{d r:Nat}{op:Op}{ty t t2:TypeId}{pos:String}{after:Array Edge}{ir:Option (Nat × Bool)}{a b c:Operand}{p q:Place}{x y:ag}{k:IntKind}{m n:Int}
variable {ca:List (List Nat)}{g0:aY}{acc:Acc}{i:Nat}
def xN:List Nat->Bool
 | []=>true
 | x::l=>l.all (λy=>!Nat.beq x y)&&xN l
theorem Ha:∀ {l:List Place},xN (l.map Place.root)=true->l.Nodup
 | [],_=>List.nodup_nil
 | p::l,h=>by
  simp only [List.map_cons,xN,Bool.and_eq_true,List.all_eq_true] at h
  refine List.nodup_cons.2 ⟨λhm=>?_,Ha h.2⟩
  have:=h.1 p.root (List.mem_map.2 ⟨p,hm,rfl⟩)
  simp at this
theorem bL.jG (dk:Nat) {G G2:List (Nat × ag)}{o:Oper}(he:cj P N (eh (get G) (λ_=>true) acc) o (get G2)) (a8:o.guard=none) (hz:xN ((acc.filterMap l9).map Place.root)=true) (iU:rP G=true) (aa:Nat.beq ops.size (dk+l.length+1)=true)
  (bj:(List.range dk).all (λk=>(ca.getD dk []).contains k)=true) (aH:(List.range ops.size).all (λk=>Nat.ble k dk||(ca.getD k []).contains dk)=true) (hk:bL P N ops ca (get G2) (dk+1) [] l K):bL P N ops ca (get G) i acc (o::l) K:=by
 intro ep ae du nY nw
 have:=y8 nw aa
 subst this
 obtain ⟨h1,al⟩:=drop_cons nw
 obtain ⟨g',ax,et⟩:=hk [] (ae+1) .nil .nil al
 refine ⟨g',.IU du nY (Ha hz) (xQ iU) h1 ?_ he bj ?_ ax,et⟩
 ·unfold iQ; rw [a8]
 ·refine List.all_eq_true.2 λk hk=>?_
  have:=List.all_eq_true.1 aH k hk
  simp only [Bool.or_eq_true,decide_eq_true_eq,Nat.ble_eq] at this ⊢
  exact this
theorem bL.bv (dk:Nat) {G G2:List (Nat × ag)}{o:Oper}{x:ag}(he:cj P N (eh (get G) (λ_=>true) acc) o (e9 (get G2) d x)) (a8:o.guard=none) (hz:xN ((acc.filterMap l9).map Place.root)=true) (iU:rP G=true) (aa:Nat.beq ops.size (dk+l.length+1)=true)
  (bj:(List.range dk).all (λk=>(ca.getD dk []).contains k)=true) (aH:(List.range ops.size).all (λk=>Nat.ble k dk||(ca.getD k []).contains dk)=true) (hk:bL P N ops ca (get ((d,x)::G2)) (dk+1) [] l K):bL P N ops ca (get G) i acc (o::l) K :=
 .jG dk (tD ▸ he) a8 hz iU aa bj aH hk
class uN (s:Nat) (g:aY):Prop where fO:∀ t,t≠s->∀ z q n m new,g t≠some (.bX z q n m new)
instance (priority:=low) {s:Nat}{g:aY} [h:qk g]:uN s g:=⟨λt _=>h.fO t⟩
instance {s:Nat}{g:aY}{x:ag} [h:uN s g]:uN s (e9 g s x):=⟨λt aD z q n m new e=>by
 unfold e9 at e
 rw [if_neg aD] at e
 exact h.fO t aD _ _ _ _ _ e⟩
instance {s d:Nat}{g:aY}{x:ag} [h:uN s g] [J:om x]:uN s (e9 g d x):=⟨λt aD z q n m new e=>by
 unfold e9 at e
 split at e
 ·cases e; exact J.fO _ _ _ _ _ rfl
 ·exact h.fO t aD _ _ _ _ _ e⟩
class wU (s:Nat) (acc:Acc):Prop where fO:∀ e∈acc,e.2.1≠s->∀ z q n m new,e.2.2≠some (.bX z q n m new)
instance {s:Nat}:wU s []:=⟨by simp⟩
instance {s ae d:Nat}{x:ag}{acc:Acc} [J:om x] [h:wU s acc]:wU s ((ae,d,some x)::acc):=⟨λe he aN z q n m new b9=>by
 rcases List.mem_cons.1 he with rfl | he
 ·exact J.fO z q n m new (Option.some.inj b9)
 ·exact h.fO e he aN z q n m new b9⟩
instance {s ae:Nat}{x:Option ag}{acc:Acc} [h:wU s acc]:wU s ((ae,s,x)::acc):=⟨λe he aN z q n m new b9=>by
 rcases List.mem_cons.1 he with rfl | he
 ·exact absurd rfl aN
 ·exact h.fO e he aN z q n m new b9⟩
instance {s:Nat}{G:List (Nat × ag)}{A:Nat->Bool}{acc:Acc} [a8:qk (get G)] [h:wU s acc]:uN s (eh (get G) A acc):=⟨λt aD z q n m new e=>by
 rcases s' e with ⟨cW,he,h1,_,al⟩ | ⟨_,al⟩
 ·exact h.fO cW he (by rw [h1]; exact aD) _ _ _ _ _ al
 ·exact a8.fO _ _ _ _ _ _ al⟩
namespace O
theorem sX {r:Int}(J:Rd g a (.lit (.int .u64 m))) (az:Rd g b (.lit (.int .u64 n))) (h:Own.sX m n=some r):dE P g (.binOp .quo t a b t2) ty (.lit (.int .u64 r)):=by
 unfold Own.sX at h
 split at h
 ·cases h
 ·cases h; exact .fA (.quo J az (by assumption))
theorem s3 {r:Int}(J:Rd g a (.lit (.int .u64 m))) (az:Rd g b (.lit (.int .u64 n))) (h:Own.s3 m n=some r):dE P g (.binOp .rem t a b t2) ty (.lit (.int .u64 r)):=by
 unfold Own.s3 at h
 split at h
 ·cases h
 ·cases h; exact .fA (.rem J az (by assumption))
theorem JE {L:List Int}(J:Rd g a (.aE o5.z L.length (ch o5 L))) (aD:uV P t t2=true):dE P g (.convert t t2 a) ty (ai (strOfNums L)):=by
 have h:=J.bP
 rw [Mk] at h
 exact .fA (.Ch h aD)
theorem uU {e h2:Nat}{parts:Array (Nat × Operand)}{ys cs:List ag}{z:Nat}(aD:fy P t e z=true) (J:iI g (parts.toList.map (·.2))=some ys) (ab:o3 ys=some cs) (bM:ys.all (λy=>match lX y with | some c=>Nat.beq c.length z | none=>false)=true)
  (aG:parts.toList=(parts.toList.map (·.2)).mapIdx (λi x=>(i,x))) (aL:(parts.toList.map (·.2)).length=h2) (hzero:jz P e z=true) (aH:Nat.ble (h2 * z) 16777216=true) (cO:Nat.ble h2 16777216=true):dE P g (.buildSlice t h2 parts) ty (.own z h2 cs):=by
 subst aL
 exact .p8 (.buildSlice aD aG J (λy az=>by
  have:=List.all_eq_true.1 bM y az
  cases fu:lX y with
  | none=>rw [fu] at this; cases this
  | some c=>rw [fu] at this; exact ⟨c,rfl,Nat.eq_of_beq_eq_true this⟩) ab (Nat.le_of_ble_eq_true aH) (Nat.le_of_ble_eq_true cO) (.inr (H3 hzero)))
theorem MH {z m:Nat}{cs:List ag}(bO:b7 g q=some (.own z m cs)) (ao:cs.length=m * z) (bl:cs.all lH=true):Src g (.bn z q m) z m cs:=by
 have:=Src.bn (g:=g) (m:=m) bO (Nat.le_refl _)
 rw [List.take_of_length_le (by omega),zu (q:=λi=>_) bl] at this
 exact this
theorem D8 {en:cD α}{L M r:List α}{e jF m:Nat}{cs:List ag}(aN:Rd g a (.bn en.z p L.length)) (aG:b7 g p=some (ak en L)) (J:Rd g b (.bn en.z q m)) (bO:b7 g q=some (.own en.z m cs)) (ao:cs.length=m * en.z) (bl:cs.all lH=true) (hm:M.length=m) (aD:im P t e en.z jF=true) (aH:Nat.ble jF 128=true) (h:eS L M=some r) [gI:qk g] :
  dE P g (.call { callee:=.builtin .append,args:=#[a,b],argTypes:=#[t,t] }) ty (.bX en.z p L.length m cs):=by
 subst hm
 obtain ⟨h1,al,_⟩:=w0 h aH
 exact .lv (.grow aN.bP (.inl ⟨_,aG⟩) (λt cJ cX m' dj e=>gI.fO _ _ _ _ _ _ e) J.bP (MH bO ao bl) aD h1 al)
theorem Iz {en:cD α}{L M M2 r:List α}{y:ag}{e jF s:Nat}(aN:Rd g a (.bn en.z ⟨s,[]⟩ (L.length+M.length))) (sH:g s=some (.bX en.z q L.length M.length (ch en M))) (aG:b7 g q=some (ak en L)) (J:Rd g b y) (hm:qp g en y M2) (aD:im P t e en.z jF=true) (aH:Nat.ble jF 128=true) (h:eS (L++M) M2=some r) [gI:uN s g] :
  dE P g (.call { callee:=.builtin .append,args:=#[a,b],argTypes:=#[t,t] }) ty (.bX en.z ⟨s,[]⟩ (L.length+M.length) M2.length (ch en M2)):=by
 obtain ⟨h1,al,_⟩:=w0 h aH
 rw [List.length_append] at h1 al
 refine .lv (.grow aN.bP (.inr ⟨rfl,q,L.length,M.length,ch en M,_,sH,rfl,aG⟩) (λt cJ cX m' dj e=>?_) J.bP hm.src aD h1 al)
 by_cases Lf:t=s
 ·subst Lf
  rw [sH] at e
  simp only [Option.some.injEq,ag.bX.injEq] at e
  have bO:=e.2.1
  subst bO
  simp [b7,sH,ag.at] at aG
 ·exact gI.fO t Lf _ _ _ _ _ e
theorem LM {en:cD α}{z0:α}{r:List α}{e jF:Nat}{ef:Value}(aD:fy P t e en.z=true) (J:Rd g a (.lit (.int k m))) (az:Rd g b (.lit (.int .i64 m))) (hzero:(P.info? e).bind (·.zero)=some ef) (h1:ef.cells.toList.all Value.oneCell'=true) (hx:(en.cells z0).length=ef.cells.size) (Rq:∀ (k:Nat) (u:Value) (x:ag),ef.cells[k]?=some u->(en.cells z0)[k]?=some x->x=n4 u\/(n4 u=.aK/\∃ cJ,x=.aE cJ 0 [])) (h:p6 m z0=some r) (j3:(P.info? e).map (·.bytes)=some jF) (aH:Nat.ble jF 128=true) :
  dE P g (.makeSlice t a b) ty (ak en r):=by
 unfold p6 at h
 split at h
 ·rename_i hm
  have RN:lim=1099511627776:=rfl
  have kC:=Nat.le_of_ble_eq_true aH
  obtain ⟨ae,rfl⟩:=Int.eq_ofNat_of_zero_le hm.1
  cases h
  have aa:ae<=1099511627776:=by omega
  have gp:ef.cells.size=en.z:=by rw [<- hx,en.len]
  have:=oV.makeSlice (P:=P) (ty:=ty) aD J.bP az.bP hzero (by rw [<- Array.all_toList]; exact h1) gp j3 (by
   calc ae * jF<=1099511627776 * 128:=Nat.mul_le_mul aa kC
    _=140737488355328:=by decide) (by omega) hx Rq
  have dt:(List.replicate ae (en.cells z0)).flatten=ch en (List.replicate ae z0):=by simp [ch,List.flatMap_def]
  unfold ak
  rw [Int.toNat_natCast,List.length_replicate,<- dt]
  exact .p8 this
 ·cases h
theorem mk {en:cD α}{z0:α}{r:List α}{e jF:Nat}{ef:Value}(aD:fy P t e en.z=true) (J:Rd g a (.lit (.int k m))) (az:Rd g b (.lit (.int .i64 m))) (hzero:(P.info? e).bind (·.zero)=some ef) (h1:ef.cells.toList.all Value.oneCell'=true) (ab:ef.cells.toList.map n4=en.cells z0) (h:p6 m z0=some r) (j3:(P.info? e).map (·.bytes)=some jF) (aH:Nat.ble jF 128=true) :
  dE P g (.makeSlice t a b) ty (ak en r):=by
 refine LM aD J az hzero h1 (by rw [<- ab,List.length_map]; simp) (λk u x hu J=>.inl ?_) h j3 aH
 rw [<- ab,List.getElem?_map] at J
 have:ef.cells.toList[k]?=some u:=by simpa using hu
 rw [this] at J
 exact (Option.some.inj J).symm
theorem Tg {e:cD β}{r:List (List β)}{m:Int}{k:IntKind}{a b:Operand}{t ty:TypeId}{zb jF:Nat}{ef:Value}(aD:fy P t zb (bg e).z=true) (J:Rd g a (.lit (.int k m))) (az:Rd g b (.lit (.int .i64 m))) (hzero:(P.info? zb).bind (·.zero)=some ef) (h1:ef.cells.toList.all Value.oneCell'=true) (ab:ef.cells.toList.map n4=[.aK]) (h:p6 m ([]:List β)=some r) (j3:(P.info? zb).map (·.bytes)=some jF) (aH:Nat.ble jF 128=true) :
  dE P g (.makeSlice t a b) ty (ak (bg e) r):=by
 refine LM aD J az hzero h1 ?_ (λk u x hu J=>.inr ?_) h j3 aH
 ·have:=congrArg List.length ab
  rw [List.length_map] at this
  rw [(bg e).len]
  show 1=_
  simpa using this.symm
 ·have ao:=congrArg List.length ab
  rw [List.length_map] at ao
  have hk:k=0:=by
   have:=(Array.getElem?_eq_some_iff.1 hu).1
   simp at ao
   omega
  subst hk
  have fN:ef.cells.toList[0]?=some u:=by simpa using hu
  have al:=congrArg (λl=>l[0]?) ab
  simp only [List.getElem?_map,fN,Option.map_some] at al
  have al:=Option.some.inj al
  refine ⟨al,e.z,?_⟩
  have J:([ah e []]:List ag)[0]?=some x:=J
  have:x=ah e []:=(Option.some.inj J).symm
  rw [this]; rfl
theorem Tb (J:Rd g a (j m)) (az:Rd g b (j n)):dE P g (.call { callee:=.builtin .max,args:=#[a,b],argTypes:=#[t,t2] }) ty (j (max m n)):=.fA (.lits (vs:=[.int .i64 m,.int .i64 n]) (by simp [J.bP,az.bP]) rfl λw cs=>by
 have:(if m<n then n else m)=max m n:=by omega
 simp [builtin,Builtin.max_,Builtin.max2,this])
end O
theorem Mh (en:cD α) {L:List α}{y y2:α}{o:Nat}{cs':List ag}(h:idx L m=some y) (he:fW (en.cells y) o cs'=en.cells y2) (hlen:o+cs'.length<=en.z):fW (ch en L) (m.toNat * en.z+o) cs'=ch en (L.set m.toNat y2):=by
 obtain ⟨bb,h1,al⟩:=qX h
 have bc:m.toNat<L.length:=(List.getElem?_eq_some_iff.1 al).1
 have az:L[m.toNat]=y:=(List.getElem?_eq_some_iff.1 al).2
 have dt:ch en L=ch en (L.take m.toNat)++(en.cells y++ch en (L.drop (m.toNat+1))):=by
  have:=congrArg (ch en) (List.take_append_drop m.toNat L).symm
  rw [we,List.drop_eq_getElem_cons bc,az] at this
  rw [this]; simp [ch]
 have c3:ch en (L.set m.toNat y2)=ch en (L.take m.toNat)++(en.cells y2++ch en (L.drop (m.toNat+1))):=by
  have:L.set m.toNat y2=L.take m.toNat++y2::L.drop (m.toNat+1):=by
   rw [List.set_eq_take_append_cons_drop,if_pos bc]
  rw [this,we]; simp [ch]
 have ao:(ch en (L.take m.toNat)).length=m.toNat * en.z:=by rw [oM,List.length_take]; congr 1; omega
 rw [dt,c3,<- he]
 unfold fW
 generalize ch en (L.take m.toNat)=A at *
 generalize ch en (L.drop (m.toNat+1))=B at *
 rw [<- ao]
 have CY:=en.len y
 rw [List.take_append,List.take_of_length_le (by omega),show A.length+o - A.length=o by omega,List.take_append_of_le_length (by omega)]
 rw [List.drop_append,List.drop_eq_nil_of_le (by omega),show A.length+o+cs'.length - A.length=o+cs'.length by omega,List.drop_append_of_le_length (by omega)]
 simp
theorem EM {en:cD α}{L:List α}{i:Int}{off:Nat}{y:α}(h:idx L i=some y) (bd:Nat.blt off en.z=true):i.toNat * en.z+off<(ch en L).length:=by
 obtain ⟨uq,j_,_⟩:=qX h
 have mw:off<en.z:=by simpa using bd
 rw [oM]
 have al:i.toNat+1<=L.length:=by omega
 calc i.toNat * en.z+off<i.toNat * en.z+en.z:=by omega
  _=(i.toNat+1) * en.z:=by rw [Nat.add_mul]; omega
  _<=L.length * en.z:=Nat.mul_le_mul_right _ al
theorem nD {L:List α}{i:Int}{y y2:α}(h:idx L i=some y):idx (L.set i.toNat y2) i=some y2:=by
 obtain ⟨uq,j_,_⟩:=qX h
 have:i.toNat<L.length:=by omega
 simp [idx,uq,this]
inductive oi (g g2:aY):ag->Prop
 | mk {α:Type}{en:cD α}{L Ie:List α}{r ae off:Nat}{i:Int}{y y2:α}(h1:b7 g ⟨r,[ae]⟩=some (ak en L)) (hi:idx L i=some y) (al:b7 g2 ⟨r,[ae]⟩=some (ak en Ie)) (zS:idx Ie i=some y2) (bd:Nat.blt off en.z=true):oi g g2 (.ptr ⟨r,[ae]⟩ (i.toNat * en.z+off))
theorem oi.LY {x:ag}(h:oi g g2 x):gD g x:=by
 cases h with
 | mk h1 hi al zS bd=>exact ⟨_,h1,_,_,_,.inl rfl,EM hi bd⟩
theorem oi.Dh {x:ag}(h:oi g g2 x):gD g2 x:=by
 cases h with
 | mk h1 hi al zS bd=>exact ⟨_,al,_,_,_,.inl rfl,EM zS bd⟩
theorem oi.bm {x:ag}(h:oi g g2 x):e3 g2 x:=by
 have:=h.Dh
 cases h with
 | mk=>exact .ref rfl this
theorem oi.fO {x:ag}(h:oi g g2 x):∀ z p n m new,x≠.bX z p n m new:=by
 cases h with
 | mk=>simp
theorem oi.clear {x:ag}{k0 m0:Nat}(h:oi g g2 x) (aG:p.path≠[]):Clear p k0 m0 x:=by
 cases h with
 | mk =>
  intro q bO _ ae fc e
  simp only [yi,Option.some.injEq] at bO
  subst bO
  cases CP:p.path with
  | nil=>exact absurd CP aG
  | cons a b=>rw [CP] at e; simp at e
inductive kR (g g2:aY) (r:Nat) (x2:ag):List (Nat × ag)->Prop
 | nil:kR g g2 r x2 []
 | n {s:Nat}{x:ag}{l:List (Nat × ag)}(eI:Nat.beq s r=false) (h:g s=some x) [aL:cT x] (t:kR g g2 r x2 l):kR g g2 r x2 ((s,x)::l)
 | p {s q k:Nat}{l:List (Nat × ag)}{cs nR:List ag}(eI:Nat.beq s r=false) (h:g s=some (.ptr ⟨q,[]⟩ k)) (h1:g q=some (.obj cs)) (hk:Nat.blt k cs.length=true) (al:g2 q=some (.obj nR)) (gH:Nat.blt k nR.length=true) (t:kR g g2 r x2 l):kR g g2 r x2 ((s,.ptr ⟨q,[]⟩ k)::l)
 | e {s:Nat}{x:ag}{c2:List ag}{l:List (Nat × ag)}(eI:Nat.beq s r=false) (h:g s=some x) (he:oi g g2 x) (hZ:x2=.obj c2) (t:kR g g2 r x2 l):kR g g2 r x2 ((s,x)::l)
 | w {α:Type}{s q:Nat}{en:cD α}{L:List α}{l:List (Nat × ag)}(eI:Nat.beq s r=false) (h:g s=some (.bn en.z ⟨q,[]⟩ L.length)) (h1:g q=some (ak en L)) (al:g2 q=some (ak en L)) (t:kR g g2 r x2 l):kR g g2 r x2 ((s,.bn en.z ⟨q,[]⟩ L.length)::l)
 | b {l:List (Nat × ag)}{x:ag}(e:x=x2) [aL:cT x2] (t:kR g g2 r x2 l):kR g g2 r x2 ((r,x)::l)
theorem kR.spec {x2:ag}{l:List (Nat × ag)}(h:kR g g2 r x2 l):∀ t x,get l t=some x->(t≠r/\g t=some x/\(oY g g2 x\/oi g g2 x/\∃ c2,x2=.obj c2))\/(t=r/\x=x2/\di x):=by
 induction h with
 | nil=>intro t x J; cases J
 | @n s x l eI h aL _ aS =>
  intro t y az; simp only [get] at az
  split at az
  ·rename_i e; subst e; cases az; exact .inl ⟨Nat.ne_of_beq_eq_false eI,h,.inl (.n aL.bK)⟩
  ·exact aS t y az
 | @p s q k l cs nR eI h h1 hk al gH _ aS =>
  intro t y az; simp only [get] at az
  split at az
  ·rename_i e; subst e; cases az; exact .inl ⟨Nat.ne_of_beq_eq_false eI,h,.inl (.p h1 (by simpa using hk) al (by simpa using gH))⟩
  ·exact aS t y az
 | @e s x c2 l eI h he hZ _ aS =>
  intro t y az; simp only [get] at az
  split at az
  ·rename_i e; subst e; cases az; exact .inl ⟨Nat.ne_of_beq_eq_false eI,h,.inr ⟨he,_,hZ⟩⟩
  ·exact aS t y az
 | @w α s q en L l eI h h1 al _ aS =>
  intro t y az; simp only [get] at az
  split at az
  ·rename_i e; subst e; cases az; exact .inl ⟨Nat.ne_of_beq_eq_false eI,h,.inl (.r h1 (Nat.le_refl _) al (Nat.le_refl _))⟩
  ·exact aS t y az
 | @b l x e aL _ aS =>
  intro t y az; simp only [get] at az
  split at az
  ·rename_i cW; subst cW; cases az; subst e; exact .inr ⟨rfl,rfl,aL.bK⟩
  ·exact aS t y az
theorem oY.Ht {x:ag}{k0 m0:Nat}(h:oY g g2 x):jk (λr=>gD g r/\Clear p k0 m0 r/\gD g2 r) x:=by
 cases h with
 | n h=>exact .bK h
 | p h hk al gH =>
  refine .ref rfl ⟨s0 h hk,?_,s0 al gH⟩
  intro q bO _ ae fc e
  simp only [yi,Option.some.injEq] at bO
  subst bO
  simp at e
 | r h hk al gH =>
  refine .ref rfl ⟨yh h hk,?_,yh al gH⟩
  intro q bO _ ae fc e
  simp only [yi,Option.some.injEq] at bO
  subst bO
  simp at e
theorem cj.pC {ig:Oper}{en:cD α}{L:List α}{ku y2:α}{o:Nat}{cs':List ag}{x2:ag}{G2:List (Nat × ag)}(bd:ig.op=.store t a b) (aV:ig.dst=none) (bj:Rd g a (.ptr p (m.toNat * en.z+o))) (aH:Rd g b y) (aG:b7 g p=some (ak en L)) (h:idx L m=some ku) (bM:gJ P t cs'.length=true)
  (ab:se y=some cs') (he:fW (en.cells ku) o cs'=en.cells y2) (hlen:Nat.ble (o+cs'.length) en.z=true) (bb:Nat.blt 0 cs'.length=true) (hZ:c_ g p (ak en (L.set m.toNat y2)) p.root=some x2) (ax:(get G2 p.root).isSome=true) [aL:cT y] {y0:ag}(sO:g p.root=some y0) [gI:cT y0] (ea:kR g (get G2) p.root x2 G2):cj P N g ig (get G2):=by
 have zU:=Nat.le_of_ble_eq_true hlen
 have kl:=Mh en h he zU
 have FX:(L.set m.toNat y2).length=L.length:=List.length_set
 refine .store bd aV bj.bP aH.bP (.bK (by simpa using aL.bK)) .refl ab bM (p:=p) (nd:=ak en L) (z:=en.z) (n:=L.length) (cs:=ch en L) aG (.inl rfl) ?_ (by simpa using bb) (λt x J=>?_) (λt x J y az=>?_) (λt z q n m new J=>?_) (by intro e; rw [e] at ax; cases ax)
 ·obtain ⟨uq,j_,_⟩:=qX h
  rw [oM]
  have al:m.toNat+1<=L.length:=by omega
  calc m.toNat * en.z+o+cs'.length<=m.toNat * en.z+en.z:=by omega
   _=(m.toNat+1) * en.z:=by rw [Nat.add_mul]; omega
   _<=L.length * en.z:=Nat.mul_le_mul_right _ al
 ·have gw:(ak en L).fW (m.toNat * en.z+o) cs'=ak en (L.set m.toNat y2):=by
   show ag.own en.z L.length (fW (ch en L) (m.toNat * en.z+o) cs')=_
   unfold ak
   rw [kl,FX]
  rw [gw]
  rcases ea.spec t x J with ⟨h1,al,_⟩ | ⟨h1,al,_⟩
  ·rw [q7 h1]; exact al
  ·subst h1 al; exact hZ
 ·rcases ea.spec t x J with ⟨h1,al,aO⟩ | ⟨h1,al,aO⟩
  ·rw [al] at az; cases az
   rcases aO with aO | ⟨aO,c2,rfl⟩
   ·exact aO.Ht
   ·refine jk.ref (by cases aO; rfl) ⟨aO.LY,aO.clear ?_,aO.Dh⟩
    intro e
    obtain ⟨hp,pp⟩:=p
    simp only at e
    subst e
    simp only [c_,if_true,sO,Option.map_some,ag.setAt,Option.some.injEq] at hZ
    cases hZ
  ·subst h1; rw [sO] at az; cases az; exact .bK gI.bK
 ·rcases ea.spec t _ J with ⟨_,_,aO | ⟨aO,_⟩⟩ | ⟨_,_,aO⟩
  ·exact aO.fO _ _ _ _ _ rfl
  ·exact aO.fO _ _ _ _ _ rfl
  ·cases aO
end
end Go.Own
namespace Go.Own
open Go
theorem Oc (a b:ByteArray):(a == b)=decide (a=b):=by
 obtain ⟨a⟩:=a
 obtain ⟨b⟩:=b
 have:(({ data:=a }:ByteArray) == { data:=b })=(a == b):=rfl
 rw [this,Bool.eq_iff_iff]
 simp
inductive pJ where
 | b | s | i (k:IntKind)
 deriving DecidableEq
def mO:Value->Option pJ
 | .bool _=>some .b
 | .string _=>some .s
 | .int k _=>some (.i k)
 | _=>none
def za (P:Program) (rc:TypeId->List pJ->Bool):List Field->Nat->List pJ->Bool
 | [],_,fD=>fD.isEmpty
 | f :: fs, o, fD => f.name != "_" && f.offset == o && (match P.info? f.type with
   | some i=>i.size<=fD.length&&rc f.type (fD.take i.size)&&za P rc fs (o+i.size) (fD.drop i.size)
   | none=>false)
def sl (P:Program):Nat->TypeId->List pJ->Bool
 | 0,_,_=>false
 | d+1,t,fD=>match P.underlying t with
  | some .bool=>fD == [.b]&&hs P t
  | some (.int k)=>fD == [.i k]&&hs P t
  | some .string=>fD == [.s]&&hs P t
  | some (.struct fs)=>i' P t fD.length&&!P.stoodInHeld t&&za P (sl P d) fs.toList 0 fD
  | _=>false
def JN:Value->Value->Bool
 | .bool a,.bool b=>a == b
 | .int _ a,.int _ b=>decide (a=b)
 | .string a,.string b=>decide (a=b)
 | _,_=>false
def l0:List Value->List Value->Bool
 | a::dO,b::dz=>JN a b&&l0 dO dz
 | _,_=>true
theorem JO:∀ (dO dz cs ja:List Value),dO.length=dz.length->l0 (dO++cs) (dz++ja)=(l0 dO dz&&l0 cs ja)
 | [],[],cs,ja,_=>by simp [l0]
 | [],_::_,_,_,h=>by simp at h
 | _::_,[],_,_,h=>by simp at h
 | a::dO,b::dz,cs,ja,h=>by
  simp only [List.cons_append,l0,JO dO dz cs ja (by simpa using h),Bool.and_assoc]
def pack (P:Program) (t:TypeId) (vs:List Value):Value :=
 match P.underlying t,vs with
 | some (.struct _),_=>.agg vs.toArray
 | _,v::_=>v
 | _,[]=>.agg #[]
theorem Mr {P:Program}{w:World}{t:TypeId}{d:Nat}{fD:List pJ}(h:sl P (d+1) t fD=true) {cs:List Value}{o:Nat}{vs:List Value}(hv:(cs.drop o).take fD.length=vs) (ao:vs.length=fD.length) :
  (part t cs.toArray o).run P w=.ok (pack P t vs) w:=by
 unfold sl at h
 split at h
 case h_4 fs hu =>
  simp only [Bool.and_eq_true] at h
  obtain ⟨h1,al⟩:=B2 (w:=w) h.1.1
  simp [part,h1,al,pack,hu,<- hv,List.take_drop]
 case h_5=>cases h
 all_goals
  rename_i hu
  simp only [Bool.and_eq_true,beq_iff_eq] at h
  obtain ⟨rfl,ab⟩:=h
  obtain ⟨h1,al⟩:=Es (w:=w) ab
  obtain ⟨v,rfl⟩:∃ v,vs=[v]:=by
   rcases vs with _ | ⟨v,_ | _⟩ <;> simp at ao
   exact ⟨v,rfl⟩
  have:cs[o]?=some v:=by
   have:=congrArg List.head? hv
   simpa [List.head?_take] using this
  simp [part,h1,pack,hu,this]
theorem Hu {P:Program}(w:World):∀ (d:Nat) (t:TypeId) (fD:List pJ),sl P d t fD=true->∀ (D:Nat),d<=D->∀ (dO dz:List Value),dO.map mO=fD.map some->dz.map mO=fD.map some ->
  (Op.equalIn D t (pack P t dO) (pack P t dz)).run P w=.ok (l0 dO dz) w
 | 0,_,_,h,_,_,_,_,_,_=>by simp [sl] at h
 | d+1,t,fD,h,D,nU,dO,dz,bj,aH=>by
  obtain ⟨D,rfl⟩:∃ E,D=E+1:=⟨D - 1,by omega⟩
  have bb:=h
  unfold sl at h
  split at h
  case h_5=>cases h
  case h_4 fs hu =>
   simp only [Bool.and_eq_true,Bool.not_eq_true'] at h
   obtain ⟨⟨h1,al⟩,aO⟩:=h
   have key:∀ (fs:List Field) (o:Nat) (fD:List pJ) (mW mX:List Value),za P (sl P d) fs o fD=true->dO.drop o=mW->dz.drop o=mX->mW.map mO=fD.map some->mX.map mO=fD.map some ->
     (forIn (m:=Sem) (β:=Option Bool × Unit) fs (none,()) λf _ =>
      if f.name = "_" then pure (.yield (none, ()))
      else do
       let x <- part f.type dO.toArray f.offset
       let y <- part f.type dz.toArray f.offset
       let c <- Op.equalIn D f.type x y
       if c=false then pure (.done (some false,())) else pure (.yield (none,()))).run P w=.ok (if l0 mW mX then (none,()) else (some false,())) w:=by
    intro fs
    induction fs with
    | nil =>
     intro o fD mW mX a8 _ _ bj aH
     have aN:fD=[]:=by simpa [za] using a8
     subst aN
     have h1:mW=[]:=by simpa using bj
     have al:mX=[]:=by simpa using aH
     subst h1 al
     simp [l0]
    | cons f fs aS =>
     intro o fD mW mX a8 FD KF bj aH
     unfold za at a8
     cases hi:P.info? f.type with
     | none=>simp [hi] at a8
     | some i =>
      simp only [hi,Bool.and_eq_true,bne_iff_ne,beq_iff_eq,decide_eq_true_eq] at a8
      obtain ⟨⟨aL,rfl⟩,⟨hle,he⟩,RD⟩:=a8
      obtain ⟨e,rfl⟩:∃ e,d=e+1:=by
       cases d with
       | zero=>simp [sl] at he
       | succ e=>exact ⟨e,rfl⟩
      have vI:mW.length=fD.length:=by simpa using congrArg List.length bj
      have Wg:mX.length=fD.length:=by simpa using congrArg List.length aH
      have Uy:(mW.take i.size).map mO=(fD.take i.size).map some:=by rw [List.map_take,List.map_take,bj]
      have Uz:(mX.take i.size).map mO=(fD.take i.size).map some:=by rw [List.map_take,List.map_take,aH]
      have Pr:(mW.drop i.size).map mO=(fD.drop i.size).map some:=by rw [List.map_drop,List.map_drop,bj]
      have Ps:(mX.drop i.size).map mO=(fD.drop i.size).map some:=by rw [List.map_drop,List.map_drop,aH]
      have lt:(fD.take i.size).length=i.size:=by simp; omega
      have lv:=Mr (w:=w) he (cs:=dO) (o:=f.offset) (vs:=mW.take i.size) (by rw [FD,lt]) (by simp; omega)
      have L8:=Mr (w:=w) he (cs:=dz) (o:=f.offset) (vs:=mX.take i.size) (by rw [KF,lt]) (by simp; omega)
      have EL:=Hu w (e+1) f.type _ he D (by omega) _ _ Uy Uz
      have aS:=aS (f.offset+i.size) (fD.drop i.size) (mW.drop i.size) (mX.drop i.size) RD (by rw [<- FD,List.drop_drop]) (by rw [<- KF,List.drop_drop]) Pr Ps
      have sp:l0 mW mX=(l0 (mW.take i.size) (mX.take i.size)&&l0 (mW.drop i.size) (mX.drop i.size)):=by
       have:=JO (mW.take i.size) (mX.take i.size) (mW.drop i.size) (mX.drop i.size) (by simp; omega)
       rwa [List.take_append_drop,List.take_append_drop] at this
      rw [List.forIn_cons]
      cases ab:l0 (mW.take i.size) (mX.take i.size) with
      | false=>simp [aL,lv,L8,EL,ab,sp]
      | true =>
       simp only [ab] at EL
       simp [aL,lv,L8,EL,ab,sp]
       simpa using aS
   have hk:=key fs.toList 0 fD dO dz aO rfl rfl bj aH
   unfold Op.equalIn
   simp [pack,hu,run_underlying hu,al]
   rw [<- Array.forIn_toList,hk]
   cases l0 dO dz <;> simp
  all_goals
   rename_i hu
   simp only [Bool.and_eq_true,beq_iff_eq] at h
   obtain ⟨rfl,ab⟩:=h
   obtain ⟨a,rfl⟩:∃ v,dO=[v]:=by
    rcases dO with _ | ⟨v,_ | _⟩ <;> simp at bj
    exact ⟨v,rfl⟩
   obtain ⟨b,rfl⟩:∃ v,dz=[v]:=by
    rcases dz with _ | ⟨v,_ | _⟩ <;> simp at aH
    exact ⟨v,rfl⟩
   cases a <;> simp [mO] at bj <;> cases b <;> simp [mO] at aH
   simp [Op.equalIn,pack,hu,run_underlying hu,l0,JN,bj,aH,Oc] <;> rfl
end Go.Own
namespace Go.Own
open Go
def sk (P:Program) (t:TypeId) (fD:List pJ):Bool :=
 sl P 100 t fD&&(match P.underlying t with | some (.struct _)=>true | _=>false)&&!P.eqGuardType P.depth t
section
variable {P:Program}{g:aY}{t t2:TypeId}{ty:TypeId}{a b:Operand}
theorem TZ {dO dz:List Value}{fD:List pJ}(bj:dO.map mO=fD.map some) (aH:dz.map mO=fD.map some) (aD:sk P t fD=true) (w:World) :
  (do eqGuard .eql t a b (.agg dO.toArray) (.agg dz.toArray); binOp .eql t (.agg dO.toArray) (.agg dz.toArray):Sem Value).run P w=.ok (.bool (l0 dO dz)) w:=by
 simp only [sk,Bool.and_eq_true,Bool.not_eq_true'] at aD
 obtain ⟨⟨h1,al⟩,aO⟩:=aD
 have h:=Hu w 100 t fD h1 Op.maxDepth (by decide) dO dz bj aH
 split at al
 ·rename_i fs hu
  simp only [pack,hu] at h
  simp [eqGuard,binOp,aO,Op.equal,h]
 ·cases al
theorem T1 {dO dz:List Value}{fD:List pJ}(bj:dO.map mO=fD.map some) (aH:dz.map mO=fD.map some) (aD:sk P t fD=true) (w:World) :
  (do eqGuard .neq t a b (.agg dO.toArray) (.agg dz.toArray); binOp .neq t (.agg dO.toArray) (.agg dz.toArray):Sem Value).run P w=.ok (.bool (!l0 dO dz)) w:=by
 simp only [sk,Bool.and_eq_true,Bool.not_eq_true'] at aD
 obtain ⟨⟨h1,al⟩,aO⟩:=aD
 have h:=Hu w 100 t fD h1 Op.maxDepth (by decide) dO dz bj aH
 split at al
 ·rename_i fs hu
  simp only [pack,hu] at h
  simp [eqGuard,binOp,aO,Op.equal,h]
 ·cases al
namespace O
theorem JP {va vb:List Value}{fD:List pJ}(J:Rd g a (.agg (va.map .lit))) (az:Rd g b (.agg (vb.map .lit))) (bj:va.map mO=fD.map some) (aH:vb.map mO=fD.map some) (aD:sk P t fD=true) :
  dE P g (.binOp .eql t a b t2) ty (a1 (l0 va vb)):=.fA (.yS J.bP az.bP rfl λw=>TZ bj aH aD w)
theorem Dc {va vb:List Value}{fD:List pJ}(J:Rd g a (.agg (va.map .lit))) (az:Rd g b (.agg (vb.map .lit))) (bj:va.map mO=fD.map some) (aH:vb.map mO=fD.map some) (aD:sk P t fD=true) :
  dE P g (.binOp .neq t a b t2) ty (a1 (!l0 va vb)):=.fA (.yS J.bP az.bP rfl λw=>T1 bj aH aD w)
end O
end
end Go.Own
namespace Go.Own
open Go
section
variable {P:Program}{N:dN}{g g2:aY}{d r k0:Nat}{α:Type}
theorem View.n9 {p:Place}{cs cs':List ag}(aG:b7 g p=some (.obj cs)) (hk:Nat.blt 0 cs.length=true) [h:dV cs cs']:View g (.ptr p 0) (.bo cs') :=
 .ptr aG (z:=0) (n:=0) (.inr rfl) (by simpa using hk) (by simpa using h.l) λk x y J az=>h.v g k x y (by simpa using J) az
theorem e3.el {en:cD α}{L:List α}{ae off:Nat}{i:Int}{y:α}(al:b7 g2 ⟨r,[ae]⟩=some (ak en L)) (hi:idx L i=some y) (bd:Nat.blt off en.z=true):e3 g2 (.ptr ⟨r,[ae]⟩ (i.toNat * en.z+off)) :=
 (oi.mk (g:=g2) al hi al hi bd).bm
theorem jS {p:Place}{k:Nat}:∀ z q n m new,ag.ptr p k≠.bX z q n m new:=by simp
inductive wG (g:aY) (d r k0:Nat) (G4:List (Nat × ag)):List (Nat × ag)->Prop
 | nil:wG g d r k0 G4 []
 | c {α:Type}{en:cD α}{L:List α}{s off:Nat}{i:Int}{y:α}{l:List (Nat × ag)}(h:g s=some (.ptr ⟨r,[k0]⟩ (i.toNat * en.z+off))) (aG:b7 (get G4) ⟨r,[k0]⟩=some (ak en L)) (hi:idx L i=some y) (bd:Nat.blt off en.z=true) (aV:Nat.beq s d=false) (b4:get G4 s=none) (t:wG g d r k0 G4 l):wG g d r k0 G4 ((s,.ptr ⟨r,[k0]⟩ (i.toNat * en.z+off))::l)
theorem wG.spec {G4 l:List (Nat × ag)}(h:wG g d r k0 G4 l):∀ t x,get l t=some x->get G4 t=none/\t≠d/\g t=some x/\∃ m z n cs,x=.ptr ⟨r,[k0]⟩ m/\b7 (get G4) ⟨r,[k0]⟩=some (.own z n cs)/\m<cs.length:=by
 induction h with
 | nil=>intro t x J; cases J
 | @c α en L s off i y l h aG hi bd aV b4 _ aS =>
  intro t x J; simp only [get] at J
  split at J
  ·rename_i e; subst e; cases J; exact ⟨b4,Nat.ne_of_beq_eq_false aV,h,_,_,_,_,rfl,aG,EM hi bd⟩
  ·exact aS t x J
theorem kR.keep {g':aY}{x2:ag}{G2:List (Nat × ag)}(ea:kR g (get G2) r x2 G2) (h1:∀ t,t≠r->g' t=g t) (al:g' r=some x2):hI g' (get G2):=by
 refine ⟨λt x J=>?_,λt x J=>?_,λt z q n m new J=>?_⟩
 ·rcases ea.spec t x J with ⟨a,b,_⟩ | ⟨rfl,rfl,_⟩
  ·rw [h1 t a]; exact b
  ·exact al
 ·rcases ea.spec t x J with ⟨_,_,aO | ⟨aO,_⟩⟩ | ⟨_,_,aO⟩
  ·exact aO.bm
  ·exact aO.bm
  ·exact .bK aO
 ·rcases ea.spec t _ J with ⟨_,_,aO | ⟨aO,_⟩⟩ | ⟨_,_,aO⟩
  ·exact aO.fO _ _ _ _ _ rfl
  ·exact aO.fO _ _ _ _ _ rfl
  ·cases aO
theorem MB {cs:List ag}{y x:ag}(h:g r=some (.obj cs)) (hk:cs[k0]?=some x):c_ g ⟨r,[k0]⟩ y r=some (.obj (cs.set k0 y)):=by
 simp [c_,h,ag.setAt,ag.kids,hk,ag.uz]
theorem cj.fE {o:Oper}{y:ag}{cs cs5:List ag}{G1 G4:Value->List (Nat × ag)}{c4:Value->List ag}{G5 A:List (Nat × ag)}(aV:o.dst=some d) (bW:N.ok d=true) (ax:g r=some (.obj cs)) (az:cs[k0]?=some y) [vx:cT y]
  (h1:∀ v,kR g (get (G1 v)) r (.obj (cs.set k0 (.lit v))) (G1 v)) (ab:∀ v,hV P N (get (G1 v)) o d (get (G4 v))) (Kh:∀ v,get (G4 v) r=some (.obj (c4 v))) (Kg:∀ v,(c4 v)[k0]?=some (.lit v)) (P_:∀ v,(c4 v).set k0 y=cs5)
  (df:∀ v,kR (get (G4 v)) (get G5) r (.obj cs5) G5) (Qc:b7 (get G5) ⟨r,[k0]⟩=some y) (eT:wG g d r k0 G5 A):cj P N g o (get (A++G5)):=by
 refine .call aV bW (hV.PX ax az vx.bK λv hv=>⟨get (G1 v),get (G4 v),get G5,?_,ab v,?_,?_,Qc,?_⟩)
 ·exact (h1 v).keep (λt aD=>q7 aD) (MB ax az)
 ·have:=Kh v
  simp only [b7,this,ag.at,ag.kids,Kg v]
 ·refine (df v).keep (λt aD=>q7 aD) ?_
  rw [MB (Kh v) (Kg v),P_ v]
 ·refine ⟨λt x h=>?_,λt x h=>?_⟩
  ·rw [Cw]
   cases qC:get A t with
   | none=>exact h
   | some z =>
    obtain ⟨j_,_⟩:=eT.spec t z qC
    rw [j_] at h; cases h
  ·rw [Cw] at h
   cases qC:get A t with
   | none=>rw [qC] at h; exact .inl h
   | some z =>
    rw [qC] at h
    cases h
    exact .inr (eT.spec t x qC)
end
end Go.Own
namespace Go.Own
open Go
section
variable {P:Program}{N:dN}{ops:Array Oper}{g g1 mm:aY}{K:aY->Prop}{l:List Oper}{d r:Nat}{t:TypeId}{a b:Operand}{x y:ag}
variable {ca:List (List Nat)}{acc:Acc}{i:Nat}
theorem jw {a b:Nat}(h:Nat.blt a b=true):a<b:=by simpa using h
def Db:Option Nat->Nat->Bool
 | none,_=>true
 | some a,d=>!Nat.beq a d
theorem LP {o:Option Nat}{d:Nat}(h:Db o d=true):o≠some d:=by
 rintro rfl
 simp [Db] at h
inductive wY (P:Program) (N:dN) (ops:Array Oper) (ca:List (List Nat)) (rs:Place->Prop) (mm g1:aY) (o:Oper) (U:Acc):Acc->Prop
 | nil:wY P N ops ca rs mm g1 o U []
 | c {k d:Nat}{x:ag}{ig:Oper}{V:Acc}(cn:yO rs mm g1 o x) (h1:g1 d=none) (eI:Db o.dst d=true) (bd:ops[k]?=some ig) (CM:ig.dst=some d) (bW:N.ok d=true) (hw:iQ (eh g1 (λm=>(ca.getD k []).contains m) U) ops ig true)
   (aN:dE P (eh g1 (λm=>(ca.getD k []).contains m) U) ig.op ig.type x) (t:wY P N ops ca rs mm g1 o U V):wY P N ops ca rs mm g1 o U ((k,d,some x)::V)
theorem wY.spec {o:Oper}{U V:Acc}{rs:Place->Prop}(h:wY P N ops ca rs mm g1 o U V):∀ e∈V,(∃ x,e.2.2=some x/\yO rs mm g1 o x)/\(g1 e.2.1=none/\o.dst≠some e.2.1)/\∃ ig,ops[e.1]?=some ig/\ig.dst=some e.2.1/\N.ok e.2.1=true/\oZ P (eh g1 (λm=>(ca.getD e.1 []).contains m) U) ops ig e.2.2:=by
 induction h with
 | nil=>intro e he; cases he
 | c cn h1 eI bd CM bW hw aN _ aS =>
  intro e he
  rcases List.mem_cons.1 he with rfl | he
  ·exact ⟨⟨_,rfl,cn⟩,⟨h1,LP eI⟩,_,bd,CM,bW,.inl ⟨hw,.inl aN⟩⟩
  ·exact aS e he
theorem bL.dR (dk:Nat) {G G2:List (Nat × ag)}{U:Acc}{o:Oper}{rs:List Nat}(he:oU P N (q5 rs) (eh (get G) (λm=>(ca.getD dk []).contains m) acc) o (get G2)) (lN:rs.all (λr=>(get G r).isSome)=true) (a8:o.guard=none) (hz:xN ((acc.filterMap l9).map Place.root)=true) (iU:rP G=true) (aa:Nat.beq ops.size (dk+l.length+1)=true)
  (gG:acc.filter (λe=>!(ca.getD dk []).contains e.1)=U) (qO:wY P N ops ca (q5 rs) (eh (get G) (λm=>(ca.getD dk []).contains m) acc) (get G2) o U U)
  (aH:(List.range ops.size).all (λk=>Nat.ble k dk||(ca.getD k []).contains dk)=true) (hk:bL P N ops ca (get G2) (dk+1) U l K):bL P N ops ca (get G) i acc (o::l) K:=by
 intro ep ae du nY nw
 have:=y8 nw aa
 subst this
 obtain ⟨h1,al⟩:=drop_cons nw
 have lM:∀ e∈U,e∈acc:=λe he=>by rw [<- gG] at he; exact (List.mem_filter.1 he).1
 have Fb:mT P N ops ca (get G2) (ae+1) U:=⟨λe he=>by have:=(nY.le du).2 e (lM e he); omega,λe he=>(qO.spec e he).2.1.1,by rw [<- gG]; exact (List.filter_sublist.map _).nodup (nY.nodup du),λe he cW h5 h=>nY.uniq du (lM e he) (lM cW h5) h,λe he=>(qO.spec e he).2.2⟩
 obtain ⟨g',ax,et⟩:=hk U (ae+1) Fb .nil al
 refine ⟨g',.w3 nY (Ha hz) (xQ iU) h1 ?_ he (λr ax e=>by have:=List.all_eq_true.1 lN r.root ax; rw [e] at this; cases this) gG.symm (λe h=>(qO.spec e h).1) (λe h=>(qO.spec e h).2.1) (λe h=>(qO.spec e h).2.2) ?_ ax,et⟩
 ·unfold iQ; rw [a8]
 ·refine List.all_eq_true.2 λk hk=>?_
  have:=List.all_eq_true.1 aH k hk
  simp only [Bool.or_eq_true,decide_eq_true_eq,Nat.ble_eq] at this ⊢
  exact this
theorem oU.box {o:Oper}{r:Nat}{x:ag}{G1 G2:List (Nat × ag)}(he:cj P N (get G1) o (get G2)) (ax:g r=some x) [J:cT x] (hk:Trim false g (get G1) G1) (bb:get G1 r=none) (h1:get G2 r=none) (aV:Db o.dst r=true):oU P N (q5 [r]) g o (get ((r,x)::G2)):=by
 rw [<- tD]
 exact he.mZ.frame ax J.bK hk.keep bb h1 (LP aV)
theorem cj.dI {o:Oper}{k0:Nat}{cs cs' cs2:List ag}{G2:List (Nat × ag)}(bd:o.op=.store t a b) (aV:o.dst=none) (aN:g r=some (.obj cs)) (bj:Rd g a (.ptr ⟨r,[]⟩ k0)) (aH:Rd g b y) [aL:cT y] (ab:se y=some cs') (bM:gJ P t cs'.length=true)
  (hk:Nat.ble (k0+cs'.length) cs.length=true) (bb:Nat.blt 0 cs'.length=true) (he:fW cs k0 cs'=cs2) [gI:e0 cs] (ax:(get G2 r).isSome=true) (ea:mU g (get G2) r cs2 G2):cj P N g o (get G2) :=
 .box bd aV aN bj aH aL.bK ab bM (Nat.le_of_ble_eq_true hk) (by simpa using bb) he (by intro e; rw [e] at ax; cases ax) ea
end
end Go.Own
namespace Go.Own
open Go
section
variable {α:Type}
theorem dV.app {xs ys xs' BI:List ag}(h:dV xs ys) (aT:dV xs' BI):dV (xs++xs') (ys++BI):=⟨by simp [h.l,aT.l],λg k a b bj aH=>by
 by_cases hk:k<xs.length
 ·rw [List.getElem?_append_left hk] at bj
  rw [List.getElem?_append_left (by rw [h.l]; exact hk)] at aH
  exact h.v g k a b bj aH
 ·rw [List.getElem?_append_right (by omega)] at bj
  rw [List.getElem?_append_right (by rw [h.l]; omega),h.l] at aH
  exact aT.v g _ a b bj aH⟩
instance {e cW:cD α}{L:List α} [h:g_ e cW]:dV (ch e L) (ch cW L):=⟨(BA e cW L).1,(BA e cW L).2⟩
theorem lb.TR {en:cD α}{L:List α}{n:Nat}{cs cs':List ag}(h:ch en L=cs') (ao:L.length=n) [hv:dV cs cs']:lb (.own en.z n cs) (ah en L):=⟨λg=>by
 subst h ao
 exact .own hv.l (hv.v g)⟩
theorem lb.lx {en sj:cD α}{L M:List α}{m:Nat}{new dj:List ag} [h:g_ en sj] (aL:ch sj M=dj) (hm:M.length=m) [aT:dV new dj]:lb (.own en.z (L.length+m) (ch en L++new)) (ah sj (L++M)):=⟨λg=>by
 subst aL hm
 have hv:=dV.app (inferInstance:dV (ch en L) (ch sj L)) aT
 show View g (.own en.z (L.length+M.length) (ch en L++new)) (.aE sj.z (L++M).length (ch sj (L++M)))
 have e:ch sj (L++M)=ch sj L++ch sj M:=by simp [ch]
 rw [e,List.length_append,<- h.z]
 exact .own hv.l (hv.v g)⟩
end
end Go.Own
namespace Go.Own
open Go
section
variable {α:Type}{g g2:aY}{p q:Place}{P:Program}{a b:Operand}{t:TypeId}{ty:TypeId}
theorem e3.bn {en:cD α}{L:List α}(h:b7 g2 p=some (ak en L)):e3 g2 (.bn en.z p L.length):=.ref rfl (.inl ⟨_,_,h,Nat.le_refl _⟩)
namespace O
theorem NY {en:cD α}{L M r:List α}{e jF m:Nat}{cs:List ag}(aN:Rd g a (.bn en.z p L.length)) (aG:b7 g p=some (ak en L)) (J:Rd g b (.bn en.z q m)) (bO:b7 g q=some (.own en.z m cs)) (ao:cs.length=m * en.z) (bl:cs.all lH=true) (hm:M.length=m) (aD:im P t e en.z jF=true) (aH:Nat.ble jF 128=true) (h:eS L M=some r)
  (gI:∀ t z n m new,g t≠some (.bX z p n m new)):dE P g (.call { callee:=.builtin .append,args:=#[a,b],argTypes:=#[t,t] }) ty (.bX en.z p L.length m cs):=by
 subst hm
 obtain ⟨h1,al,_⟩:=w0 h aH
 exact .lv (.grow aN.bP (.inl ⟨_,aG⟩) (λt cJ cX m' dj e=>gI _ _ _ _ _ e) J.bP (MH bO ao bl) aD h1 al)
end O
end
end Go.Own
