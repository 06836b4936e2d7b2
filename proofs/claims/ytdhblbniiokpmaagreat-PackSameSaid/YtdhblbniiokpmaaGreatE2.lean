/-
  Parts of the proof that the last text states. No condition of their own.
-/
import Derived.RowKit3
import Derived.Test.YtdhblbniiokpmaaGreatE1
namespace Go.Own
open Go
structure hF (g1 g2:aK):Prop where
 sub:∀ t x,g2 t=some x->g1 t=some x
 bX:∀ t x,g2 t=some x->dh g2 x
 fy:∀ t z q n m new,g2 t≠some (.bL z q n m new)
structure c5 where
 size:Nat
 pins:List Nat
def c5.ok (N:c5) (d:Nat):Bool:=Nat.blt d N.size&&!N.pins.elem d
def hE (N:c5) (T T':Array Value):Prop:=T'.size=T.size/\∀ t∈N.pins,T'[t]?=T[t]?
theorem hE.refl {N:c5}{T:Array Value}:hE N T T:=⟨rfl,λ_ _=>rfl⟩
theorem hE.trans {N:c5}{T LD LF:Array Value}(h:hE N T LD) (h1:hE N LD LF):hE N T LF:=⟨h1.1.trans h.1,λt aw=>(h1.2 t aw).trans (h.2 t aw)⟩
theorem c5.lt {N:c5}{d:Nat}(h:N.ok d=true):d<N.size:=by
 simp_all [c5.ok]
theorem hE.put {N:c5}{d:Nat}(h:N.ok d=true) (T:Array Value) (v:Value):hE N T (T.setIfInBounds d v):=by
 refine ⟨by simp,λt aw=>?_⟩
 grind [c5.ok]
def h7 (N:c5) (a:Act) (w:World) (I:bb) (Fs:Nat->bb) (g':aK) (ca:Act) (w':World):Prop :=
 ca.defers=a.defers/\hE N a.tmps ca.tmps/\∃ I' b7,cI w' I' ca.tmps g' b7/\kq w I (λc=>∃ t,Fs t c) w' I' (λc=>∃ t,b7 t c)
theorem wj {b7:Nat->bb}{d:Nat}{F:bb}{c:Nat}(h:∃ t,uM b7 d F t c):(∃ t,b7 t c)\/F c:=by
 obtain ⟨t,h⟩:=h;unfold uM at h
 grind
structure yI (P:Program) (g:aK) (f:FuncId) (all xs0 xs1 args:List ab) (tk:Nat->Bool) (vw:Bool) (g1 g2:aK) (outs:List (Option ab)) (res:ab) (l:List (Place × ab)) (ks:Nat->Nat) (g4:aK):Prop where
 aW:gO P f=true
 Cs:xs0.length=all.length
 xM:args.length=all.length
 aQ:∀ (k:Nat) (x:ab),all[k]?=some x->xs0[k]?=some x\/xs0[k]?=some .dead
 aw:Take g xs0 xs1 g1
 hk:hF g1 g2
 aP:∀ (k:Nat) (x y:ab),all[k]?=some x->args[k]?=some y->if tk k then xs1[k]?=some y else vw=true/\View g2 x y
 gQ:bU P f args outs res
 ao:if vw then kM res else cU res
 kV:∀ (k:Nat) (x:ab),outs[k]?=some (some x)->if vw then kM x else cU x
 aj:∀ (j:Nat) (p:Place) (x:ab),l[j]?=some (p,x)->Re g g2 all outs (ks j) p x
 nd:(l.map (·.1)).Nodup
 inj:∀ i j,i<l.length->j<l.length->ks i=ks j->i=j
 JK:hF (qE g2 l) g4
section
variable {P:Program}{w:World}{I:bb}{T:Array Value}{g:aK}{Fs:Nat->bb}
theorem jG.keep (h:jG w I T g Fs) {g2:aK}(hk:hF g g2):cI w I T g2 (λt c=>g2 t≠none/\Fs t c) :=
 h.ZC hk.sub hk.bX λ_ _ _ _ _ _ _ _ _ _ _ h1=>absurd h1 (hk.fy _ _ _ _ _ _)
structure wy (g:aK) (d:Nat) (g4 g5:aK):Prop where
 sub:∀ t x,g4 t=some x->g5 t=some x
 new:∀ t x,g5 t=some x->g4 t=some x\/(g4 t=none/\t≠d/\g t=some x/\∃ r k cs,x=.ptr ⟨r,[]⟩ k/\r≠d/\g4 r=some (.obj cs)/\k<cs.length)
theorem wy.refl {d:Nat}{g4:aK}:wy g d g4 g4:=⟨λ_ _ h=>h,λ_ _ h=>.inl h⟩
theorem cI.back (h:cI w I T g Fs) {w':World}{I':bb}{d:Nat}{v:Value}{g4 g5:aK}{Lp:Nat->bb}(bF:cI w' I' (T.setIfInBounds d v) g4 Lp) (av:wy g d g4 g5):cI w' I' (T.setIfInBounds d v) g5 Lp:=by
 refine ⟨λt x J=>?_,λt aw c aa=>?_,bF.eK,bF.bk,bF.lt,λt t' z p n m new bC cH m' c3 h1 af=>?_⟩
 ·rcases av.new t x J with aR | ⟨h1,af,aI,r,k,cs,rfl,cG,eh,mT⟩
  ·obtain ⟨u,hu,aY⟩:=bF.rel t x aR;exact ⟨u,hu,bF.w2 (λ_ _=>rfl) (λ_ _ _=>rfl) (λ_ _=>rfl) (λ_ h=>h) av.sub aY λ_ _=>rfl⟩
  ·obtain ⟨u,hu,aY⟩:=h.rel t _ aI;obtain ⟨⟨Dv,ad,aD,a2,rfl⟩,_⟩:=(aY.gI (by simp)).nP;have dM:∀ s,s≠d->(T.setIfInBounds d v)[s]?=T[s]?:=λs aB=>by rw [Array.getElem?_setIfInBounds_ne (Ne.symm aB)]
   refine ⟨_,by rw [dM t af]; exact hu,.tree (.ref rfl ⟨⟨Dv,ad,?_,a2,rfl⟩,?_⟩ (bF.k2 t h1))⟩
   ·grind [dY,walk]
   ·exact ⟨.obj cs,by simp [bB,av.sub r _ eh,ab.at],0,0,cs,.inr rfl,mT⟩
 ·cases aR:g4 t with
  | none=>exact bF.k2 t aR c aa
  | some y=>rw [av.sub t y aR] at aw; cases aw
 ·have:∀ {t z p n m new},g5 t=some (.bL z p n m new)->g4 t=some (.bL z p n m new):=by
   intro t z p n m new J;rcases av.new t _ J with aR | ⟨_,_,_,r,k,cs,e,_⟩
   all_goals grind
  exact bF.rn t t' z p n m new bC cH m' c3 (this h1) (this af)
def hM (P:Program) (N:c5) (g:aK) (o:Oper) (d:Nat) (g5:aK):Prop :=
 ∀ (w:World) (I:bb) (T:Array Value) (Fs:Nat->bb),cI w I T g Fs->∀ (a:Act),a.tmps=T->a.tmps.size=N.size->∀ (K:Act->World->Prop) (Q:Exit->Act->World->Prop),
  (∀ (ca:Act) (w':World) (v:Value) (I':bb) (b7:Nat->bb),ca.defers=a.defers->ca.tmps=T.setIfInBounds d v->cI w' I' (T.setIfInBounds d v) g5 b7->kq w I (λc=>∃ t,Fs t c) w' I' (λc=>∃ t,b7 t c)->K ca w')->o.wp P a w K Q
theorem hM.sound {N:c5}{o:Oper}{d:Nat}{g5:aK}(aa:hM P N g o d g5) (jQ:N.ok d=true) (h:cI w I T g Fs) {a:Act}(aP:a.tmps=T) (bc:a.tmps.size=N.size) {K:Act->World->Prop}{Q:Exit->Act->World->Prop}
  (di:∀ ca w',h7 N a w I Fs g5 ca w'->K ca w'):o.wp P a w K Q :=
 aa w I T Fs h a aP bc K Q λca w' v I' b7 h1 af aI bF=>di ca w' ⟨h1,by rw [af,<- aP]; exact hE.put jQ _ _,I',b7,by rw [af]; exact aI,bF⟩
theorem yI.ok {N:c5}{o:Oper}{c:Operand}{xs:Array Operand}{gq:Array TypeId}{d:Nat}{f:FuncId}{first caps ys xs0 xs1 args:List ab}{tk:Nat->Bool}{vw:Bool}{g1 g2 g4 g5:aK}{outs:List (Option ab)}{res:ab}{l:List (Place × ab)}{ks:Nat->Nat}
  (a1:o.op=.call { callee:=.value c,args:=xs,argTypes:=gq }) (aS:o.dst=some d) (aa:br g c=some (.cX (.func f) first caps)) (J:gp g xs.toList=some ys)
  (he:yI P g f (first++ys++caps) xs0 xs1 args tk vw g1 g2 outs res l ks g4) (aO:g4 d=none) (jQ:N.ok d=true) (Vo:wy g d (cV g4 d res) g5):hM P N g o d g5:=by
 intro w I T Fs h a aP bc K Q di;obtain ⟨v1,v2,vh,aj,ql⟩:=Hl h aP aa J;have hR:(execOp a.eval o).run P w=.ok (.enter f (v1++xs.map a.eval++v2)) w:=by
  simp [execOp,a1,resolve,Deferred.ofValue,vh,invoke,Be he.aW]
 generalize xo:(v1++xs.map a.eval++v2).toList=vs at *;generalize Ib:first++ys++caps=all at *
 -- what is taken
 have u':Hand w I (fA w T) Fs xs0 vs (λ_=>cw):=by
  refine ⟨by rw [he.Cs,aj],λk x u J hu=>?_,λ_ _ _ _ _ h=>h.elim,λ_ _ _ _ h=>h.elim,λ_ _ _ h=>h.elim⟩;have hk:k<all.length:=by rw [<- he.Cs]; exact (List.getElem?_eq_some_iff.1 J).1
  have BE:=List.getElem?_eq_getElem hk;rcases he.aQ k _ BE with aQ | aQ
  ·rw [aQ] at J; cases J;exact (ql k _ u BE hu).frame (λ_ _=>rfl) (λ_ h=>h) (λ_ _ h=>h.1) λ_ _=>rfl
  ·rw [aQ] at J; cases J;exact .dead λ_ h=>h
 obtain ⟨f_,H1,jc,iL,hQ⟩:=he.aw.sound h.mF u';have Nw:∀ c,lB f_ xs1.length H1 c->∃ t,Fs t c:=by
  intro c aa;rcases hQ c aa with aR | ⟨_,_,aR⟩
  ·exact aR
  ·exact aR.elim
 have h9:=jc.keep he.hk;generalize Uw:(λt c=>g2 t≠none/\f_ t c)=iZ at h9;have Na:∀ t c,iZ t c->f_ t c:=by intro t c aa; rw [<- Uw] at aa; exact aa.2
 have IL:xs1.length=all.length:=by rw [he.aw.length,he.Cs]
 -- what the callee sees
 let DR:bb:=λc=>I c\/(vw=true/\∃ t,iZ t c)
 let yK:Nat->bb:=λt c=>t<all.length/\tk t=true/\H1 t c;have tM:∀ t c,yK t c->(∀ s,¬ iZ s c)/\¬ I c/\∃ t,Fs t c:=by
  rintro t c ⟨h1,af,aI⟩;exact ⟨λs aB=>iL.off t s c (by omega) aI (Na s c aB),iL.bk t c (by omega) aI,Nw c (.inr ⟨t,by omega,aI⟩)⟩
 have Oc:∀ (ρ':ab->Value->Prop) (k:Nat) (y:ab) (u:Value),args[k]?=some y->vs[k]?=some u->R w DR ρ' y u (yK k):=by
  intro ρ' k y u ax hu;have hk:k<all.length:=by rw [<- he.xM]; exact (List.getElem?_eq_some_iff.1 ax).1
  have BE:=List.getElem?_eq_getElem hk;have:=he.aP k _ y BE ax
  split at this
  ·rename_i aw;have mY:cU y:=he.aw.Fv y (List.mem_of_getElem? this);exact (((iL.rel k y u this hu).bl mY).om λc aa=>.inl aa).ze λc=>⟨λaa=>⟨hk,aw,aa⟩,λaa=>aa.2.2⟩
  ·rename_i aw;obtain ⟨hv,WB⟩:=this;have gG:R w I (fA w T) all[k] u cw:=(ql k _ u BE hu).frame (λ_ _=>rfl) (λ_ h=>h) (λ_ _ h=>h.1) λ_ _=>rfl;have:=View.Qm h9.mF WB gG (λ_ h=>h.elim) ρ';refine (this.om (I':=DR) λc aa=>?_).ze λc=>⟨λh=>h.elim,λaa=>absurd aa.2.1 aw⟩;rcases aa with aR | aR
   ·exact .inl aR
   ·exact .inr ⟨hv,aR⟩
 have UU:cI w DR vs.toArray (qb args) yK:=by
  refine ⟨λt x J=>?_,λt aw c aa=>?_,λt t' c aa fo=>iL.eK t t' c (by have:=aa.1; omega) (by have:=fo.1; omega) aa.2.2 fo.2.2,λt c aa hi=>?_,λc aa=>?_,λt t' z p n m new bC cH m' c3 h1 af=>?_⟩
  ·have aw:t<args.length:=(List.getElem?_eq_some_iff.1 J).1;have hu:vs[t]?=some (vs[t]'(by rw [<- aj,<- he.xM]; exact aw)):=List.getElem?_eq_getElem _;exact ⟨_,by rw [List.getElem?_toArray]; exact hu,.tree (Oc _ t x _ J hu)⟩
  ·have hle:args.length<=t:=by simpa [qb] using aw
   have:=aa.1; have:=he.xM; omega
  ·obtain ⟨h1,af,_⟩:=tM t c aa;rcases hi with aR | ⟨_,s,aR⟩
   ·exact af aR
   ·exact h1 s aR
  ·rcases aa with aR | ⟨_,s,aR⟩
   ·exact h.lt c aR
   ·exact h9.j1 s c aR
  ·have aw:t<args.length:=(List.getElem?_eq_some_iff.1 h1).1;have hu:vs[t]?=some (vs[t]'(by rw [<- aj,<- he.xM]; exact aw)):=List.getElem?_eq_getElem _;exact (Oc (λ_ _=>False) t _ _ h1 hu).lq.elim
 have pA:=he.gQ.2 w DR vs yK (by rw [<- aj,he.xM]) UU;unfold Oper.wp Oper.upon;simp only [hR];rw [<- xo,Array.toArray_toList] at pA;refine Calls.mono pA ?_;rintro e w' ⟨v,I',b7,rfl,d_,b1⟩;rw [xo] at d_;have ky:outs.length=all.length:=by rw [he.gQ.1,he.xM]
 have pB:vs.length=all.length:=aj.symm
 -- the blocks behind the call
 have P0:∀ t c,iZ t c->w'.heap[c]?=w.heap[c]?:=λt c aa=>b1.eR.block c (h9.j1 t c aa) λ⟨s,aB⟩=>(tM s c aB).1 t aa;have so:∀ c,I c->w'.heap[c]?=w.heap[c]?:=λc aa=>b1.eR.block c (h.lt c aa) λ⟨s,aB⟩=>(tM s c aB).2.1 aa
 let If:bb:=λc=>if vw then I c else I' c
 have Ka:∀ t c,b7 t c->(∃ s,yK s c)\/w.heap.size<=c:=λt c aa=>b1.own c ⟨t,aa⟩;have Ph:∀ t c,b7 t c->∀ s,¬ iZ s c:=by
  intro t c aa s aB;rcases Ka t c aa with ⟨cT,aR⟩ | aR
  ·exact (tM cT c aR).1 s aB
  ·have:=h9.j1 s c aB; omega
 have Pj:∀ t c,b7 t c->¬ If c:=by
  intro t c aa hi;cases vw with
  | true =>
   simp only [If,if_true] at hi;rcases Ka t c aa with ⟨cT,aR⟩ | aR
   ·exact (tM cT c aR).2.1 hi
   ·have:=h.lt c hi; omega
  | false =>
   simp only [If,Bool.false_eq_true,if_false] at hi;exact d_.bk t c aa hi
 have Nj:∀ c,If c->I c\/(∃ s,yK s c)\/w.heap.size<=c:=by
  intro c aa;cases vw with
  | true=>simp only [If,if_true] at aa; exact .inl aa
  | false =>
   simp only [If,Bool.false_eq_true,if_false] at aa;rcases b1.new c aa with aR | aR | aR
   ·rcases aR with aR | ⟨aR,_⟩
    ·exact .inl aR
    ·cases aR
   ·exact .inr (.inl aR)
   ·exact .inr (.inr aR)
 have Ni:∀ c,I c->If c:=by
  intro c aa;cases vw with
  | true=>simp only [If,if_true]; exact aa
  | false=>simp only [If,Bool.false_eq_true,if_false]; exact b1.more c (.inl aa)
 have UQ:cI w' If T g2 iZ:=by
  have:=h9.world (w':=w') P0 so b1.eR.size;refine ⟨λt x J=>?_,this.k2,this.eK,λt c aa hi=>?_,λc aa=>?_,this.rn⟩
  ·obtain ⟨v,hv,aY⟩:=this.rel t x J;exact ⟨v,hv,aY.frame (λ_ _=>rfl) Ni (λ_ _ h=>h) (λ_ _ _ _ _ _ _=>rfl) λ_ _=>rfl⟩
  ·rcases Nj c hi with aR | ⟨s,aR⟩ | aR
   ·exact h9.bk t c aa aR
   ·exact (tM s c aR).1 t aa
   ·have:=h9.j1 t c aa; omega
  ·cases vw with
   | true=>simp only [If,if_true] at aa; exact Nat.lt_of_lt_of_le (h.lt c aa) b1.eR.size
   | false=>simp only [If,Bool.false_eq_true,if_false] at aa; exact d_.lt c aa
 -- what comes back in the arguments, and the result
 have L7:∀ {x:ab}{u:Value}{F:bb}{ρ ρ':ab->Value->Prop},R w' I' ρ x u F->(if vw then kM x else cU x)->R w' If ρ' x u F:=by
  intro x u F ρ ρ' aY J;cases vw with
  | true=>simp only [if_true] at J; exact aY.lu J
  | false =>
   simp only [Bool.false_eq_true,if_false] at J;refine (aY.bl J).om λc aa=>?_;simpa [If] using aa
 have CG:∀ {x:ab},(if vw then kM x else cU x)->∀ z p n m new,x≠.bL z p n m new:=by
  rintro x J z p n m new rfl;cases vw with
  | true=>simp only [if_true] at J; cases J
  | false=>simp only [Bool.false_eq_true,if_false] at J; cases J
 have XU:∀ (k:Nat) (x:ab) (u:Value),outs[k]?=some (some x)->vs[k]?=some u->R w' If (fA w' T) x u (b7 k):=by
  intro k x u J hu;have hk:k<outs.length:=(List.getElem?_eq_some_iff.1 J).1;obtain ⟨wi,jR,aY⟩:=d_.rel k x (by simp only [k3,if_neg (Nat.ne_of_lt hk),J]; rfl);have:wi=u:=by
   rw [List.getElem?_toArray,List.getElem?_append_left (by rw [pB,<- ky]; exact hk),hu] at jR;exact (Option.some.inj jR).symm
  subst this;exact L7 (aY.gI (CG (he.kV k x J))) (he.kV k x J)
 obtain ⟨KY,EV,mV⟩:=d_.rel outs.length res (by simp [k3]);have Wx:KY=v:=by
  have e:outs.length=vs.length:=by omega
  rw [e] at EV;simpa using EV.symm
 subst Wx
 -- back into the places
 obtain ⟨yL,H7,Ew⟩:=jG.qE (w:=w') (I:=If) (T:=T) l (λj=>b7 (ks j)) (λj=>vs.getD (ks j) undef) UQ.mF he.nd (λj p x ah=>by
   have L:=he.aj j p x ah;have hk:ks j<outs.length:=(List.getElem?_eq_some_iff.1 L.out).1;have hu:vs[ks j]?=some (vs[ks j]'(by rw [pB,<- ky]; exact hk)):=List.getElem?_eq_getElem _;have vk:vs.getD (ks j) undef=vs[ks j]'(by rw [pB,<- ky]; exact hk):=by simp [List.getD,hu]
   refine ⟨L.L2,?_,?_⟩
   ·rw [vk,h9.yw (w':=w') (λ_ _=>rfl) P0 L.L2];rcases L.arg with ⟨z,n,cs,h1,af⟩ | ⟨cs,h1,af⟩
    ·exact RS h (ql _ _ _ h1 hu) af
    ·exact RR h (ql _ _ _ h1 hu) af
   ·rw [vk]; exact XU _ x _ L.out hu)
  (λj t c ah aa=>Ph _ c aa t) (λj c ah aa=>Pj _ c aa) (λi j c hi ah h1 af=>he.inj i j hi ah (d_.eK _ _ c h1 af))
 have UR:=H7.keep he.JK;have XN:∀ t c,b7 outs.length c->¬ (g4 t≠none/\yL t c):=by
  rintro t c aa ⟨_,bF⟩;rcases Ew t c bF with aR | ⟨j,ah,aR⟩
  ·exact Ph _ c aa t aR
  ·have hk:ks j<outs.length:=by
    have xg:=List.getElem?_eq_getElem ah;exact (List.getElem?_eq_some_iff.1 (he.aj j _ _ xg).out).1
   have:=d_.eK _ _ c aa aR;omega
 have nK:=UR.uD (d:=d) (x:=res) (v:=KY) (F:=b7 outs.length) aO (by rw [<- aP,bc]; exact c5.lt jQ) (.tree (L7 (mV.gI (CG he.ao)) he.ao)) XN (λc aa=>Pj _ c aa) (λz p n m new e=>absurd e (CG he.ao z p n m new));refine di _ _ KY If _ (by rw [aS]; rfl) (by rw [aS]; simp [Act.put,aP]) (h.back nK Vo) ⟨?_,Ni,λc aa=>?_,λc aa=>?_⟩
 ·exact b1.eR.mono λb _ ⟨s,aB⟩=>(tM s b aB).2.2
 ·rcases Nj c aa with aR | ⟨s,aR⟩ | aR
  ·exact .inl aR
  ·exact .inr (.inl (tM s c aR).2.2)
  ·exact .inr (.inr aR)
 ·have fin:∀ t,b7 t c->(∃ s,Fs s c)\/w.heap.size<=c:=by
   intro t aw;rcases Ka t c aw with ⟨s,aR⟩ | aR
   ·exact .inl (tM s c aR).2.2
   ·exact .inr aR
  rcases wj aa with ⟨t,_,aR⟩ | aR
  ·rcases Ew t c aR with jb | ⟨j,_,jb⟩
   ·exact .inl (Nw c (.inl ⟨t,Na t c jb⟩))
   ·exact fin _ jb
  ·exact fin _ aR
structure QV (g:aK) (d r k0:Nat) (g4 g5:aK):Prop where
 sub:∀ t x,g4 t=some x->g5 t=some x
 new:∀ t x,g5 t=some x->g4 t=some x\/(g4 t=none/\t≠d/\g t=some x/\∃ m z n cs,x=.ptr ⟨r,[k0]⟩ m/\bB g4 ⟨r,[k0]⟩=some (.own z n cs)/\m<cs.length)
theorem hF.bB {g1 g2:aK}(h:hF g1 g2) {p:Place}{y:ab}(au:bB g2 p=some y):bB g1 p=some y:=by
 unfold Own.bB at *;cases J:g2 p.root with
 | none=>rw [J] at au; cases au
 | some x=>rw [J] at au; rw [h.sub _ _ J]; exact au
theorem hM.TS {N:c5}{o:Oper}{r k0 d:Nat}{y:ab}{cs:List ab}{g5:aK}(ao:g r=some (.obj cs)) (ax:cs[k0]?=some y) (xw:cU y)
  (ud:∀ v:Value,v.oneCell'=true->∃ g1 g4 u9,hF (cu g ⟨r,[k0]⟩ (.lit v)) g1/\hM P N g1 o d g4/\bB g4 ⟨r,[k0]⟩=some (.lit v)/\hF (cu g4 ⟨r,[k0]⟩ y) u9/\bB u9 ⟨r,[k0]⟩=some y/\QV g d r k0 u9 g5):hM P N g o d g5:=by
 intro w I T Fs h a aP bc K Q di;have lk:∀ z q n m new,y≠.bL z q n m new:=by rintro z q n m new rfl; cases xw
 have gu:bB g ⟨r,[k0]⟩=some y:=by simp [bB,ao,ab.at,ab.kids,ax]
 obtain ⟨v,cz,hv,dH,dx,put⟩:=h.mF.part gu lk;have ui:v.oneCell'=true:=by
  obtain ⟨u,hu,mU⟩:=h.rel r _ ao;obtain ⟨b,wi,h1,af,aI,bF,_⟩:=R.node (z:=0) (n:=0) (mU.gI (by simp)) (.inr rfl) ax
  grind [dY,walk]
 obtain ⟨f_,jc,zl,Bu⟩:=put (.lit v) cw (.lit ui λ_ h=>h) (λ_ h=>h.elim) (λ_ h=>h.elim) (λ_ _ _ h=>h.elim);obtain ⟨g1,g4,u9,hh,db,Ic,IE,acz,av⟩:=ud v ui;have uK:∀ t c,f_ t c->Fs t c/\¬ cz c:=by
  intro t c aa;by_cases aw:t=r
  ·grind
  ·rw [Bu t aw] at aa;exact ⟨aa,λaW=>aw (h.eK t r c aa (dx c aW))⟩
 have H6:=jc.keep hh;refine db w I T _ H6 a aP bc K Q λca w' gx I' b7 Hy Bm d_ b1=>?_;obtain ⟨v2,iY,Ca,mr,Uv,Kr⟩:=d_.mF.part Ic (by simp);have I8:v2=v:=mr.hD.1;subst I8;have Nf:∀ c,cz c->¬ I c:=λc aa=>h.bk r c (dx c aa);have Bw:∀ c,cz c->c<w.heap.size:=λc aa=>h.j1 r c (dx c aa);have CK:∀ c,cz c->¬ ∃ t,(g1 t≠none/\f_ t c):=λc aa ⟨t,_,aR⟩=>(uK t c aR).2 aa;have CJ:∀ t c,b7 t c->¬ cz c:=by
  intro t c aa aW;rcases b1.own c ⟨t,aa⟩ with aR | aR
  ·grind
  grind
 have J6:∀ c,cz c->¬ I' c:=by
  intro c aa hi;rcases b1.new c hi with aR | aR | aR
  all_goals grind
 have KG:∀ c,cz c->w'.heap[c]?=w.heap[c]?:=λc aa=>b1.eR.block c (Bw c aa) (CK c aa);have so:∀ c,I c->w'.heap[c]?=w.heap[c]?:=λc aa=>b1.eR.block c (h.lt c aa) λ⟨t,_,aR⟩=>h.bk t c (uK t c aR).1 aa;have BC:R w' I' (fA w' (T.setIfInBounds d gx)) y v2 cz :=
  ((dH.bl xw).frame so b1.more (λ_ _ h=>h) KG)
 obtain ⟨Lq,H8,Nb,HW⟩:=Kr y cz BC (λc aa aW=>(CJ _ c aW aa).elim) (λc aa=>J6 c aa) (λt c _ aa aW=>CJ t c aW aa);have tP:=H8.keep IE;have Wz:dY w' (T.setIfInBounds d gx) ⟨r,[k0]⟩=some v2:=Ca;have US:cI w' I' (T.setIfInBounds d gx) g5 (λt c=>u9 t≠none/\Lq t c):=by
  refine ⟨λt x J=>?_,λt aw c aa=>?_,tP.eK,tP.bk,tP.lt,λt t' z p n m new bC cH m' c3 h1 af=>?_⟩
  ·rcases av.new t x J with aR | ⟨h1,af,aI,m,z,n,cs2,rfl,cG,eh⟩
   ·obtain ⟨u,hu,aY⟩:=tP.rel t x aR;exact ⟨u,hu,tP.w2 (λ_ _=>rfl) (λ_ _ _=>rfl) (λ_ _=>rfl) (λ_ h=>h) av.sub aY λ_ _=>rfl⟩
   ·obtain ⟨u,hu,aY⟩:=h.rel t _ aI;obtain ⟨⟨Dv,ad,aD,a2,rfl⟩,_⟩:=(aY.gI (by simp)).nP;rw [hv] at aD;cases aD;refine ⟨_,by rw [Array.getElem?_setIfInBounds_ne (Ne.symm af)]; exact hu,.tree (.ref rfl ⟨⟨v2,ad,Wz,a2,rfl⟩,?_⟩ (tP.k2 t h1))⟩;refine ⟨.own z n cs2,?_,z,n,cs2,.inl rfl,eh⟩;unfold Own.bB at cG ⊢;cases gj:u9 r with
    | none=>simp only [gj] at cG; cases cG
    | some x'=>simp only [gj] at cG; simp only [av.sub r x' gj]; exact cG
  ·cases aR:u9 t with
   | none=>exact aa.1 aR
   | some y=>rw [av.sub t y aR] at aw; cases aw
  ·have:∀ {t z p n m new},g5 t=some (.bL z p n m new)->u9 t=some (.bL z p n m new):=by
    intro t z p n m new J;rcases av.new t _ J with aR | ⟨_,_,_,m,z,n,cs2,e,_⟩
    all_goals grind
   exact tP.rn t t' z p n m new bC cH m' c3 (this h1) (this af)
 refine di ca w' gx I' _ Hy Bm US ⟨?_,b1.more,λc aa=>?_,λc aa=>?_⟩
 ·exact b1.eR.mono λb _ ⟨t,_,aR⟩=>⟨t,(uK t b aR).1⟩
 ·rcases b1.new c aa with aR | ⟨t,_,aR⟩ | aR
  all_goals grind
 ·obtain ⟨t,_,aa⟩:=aa;have:(∃ t,b7 t c)\/cz c:=by
   by_cases aw:t=r
   ·grind
   ·rw [HW t aw] at aa
    grind
  rcases this with aR | aR
  ·rcases b1.own c aR with ⟨t,_,jb⟩ | jb
   ·grind
   grind
  grind
end
end Go.Own
namespace Go.Own
open Go
def oJ:ab->Option (List ab)
 | .agg cs=>some cs
 | .lit v=>some [.lit v]
 | .aL=>some [.aL]
 | .bk z n cs=>some [.bk z n cs]
 | .own z n cs=>some [.own z n cs]
 | .obj cs=>some [.obj cs]
 | .cJ cs=>some [.cJ cs]
 | .cX f a b=>some [.cX f a b]
 | _=>none
def hs (P:Program) (t:TypeId) (m:Nat):Bool :=
 match P.info? t with
 | some i=>i.size == m
 | none=>false
def iw (P:Program) (N:c5) (g:aK) (o:Oper) (g':aK):Prop :=
 ∀ (w:World) (I:bb) (T:Array Value) (Fs:Nat->bb),cI w I T g Fs->∀ (a:Act),a.tmps=T->a.tmps.size=N.size->∀ (K:Act->World->Prop) (Q:Exit->Act->World->Prop),
  (∀ (ca:Act) (w':World),h7 N a w I Fs g' ca w'->(∀ t,o.dst≠some t->ca.tmps[t]?=a.tmps[t]?)->K ca w')->o.wp P a w K Q
inductive bm (P:Program) (N:c5) (g:aK):Oper->aK->Prop
 | assign {o:Oper}{d:Nat}{x:Operand}{y bw y':ab}{g1 g2:aK}(a1:o.op=.assign x) (aS:o.dst=some d) (J:br g x=some y) (aw:Take g [y] [bw] g1) (aX:h5 bw y') (hk:hF g1 g2) (aO:g2 d=none) (bc:N.ok d=true):bm P N g o (cV g2 d y')
 | RY {o:Oper}{d:Nat}{x:Operand}{y:ab}{g2:aK}(a1:o.op=.assign x) (aS:o.dst=some d) (J:br g x=some y) (hk:hF g g2) (ax:dh g2 y) (aO:g2 d=none) (bc:N.ok d=true):bm P N g o (cV g2 d y)
 | store {o:Oper}{t:TypeId}{ad val:Operand}{p:Place}{k z n:Nat}{y bw y' nd:ab}{cs cs':List ab}{g1 g2:aK}(a1:o.op=.store t ad val) (aS:o.dst=none) (fP:br g ad=some (.ptr p k)) (pF:br g val=some y) (aw:Take g [y] [bw] g1) (q_:h5 bw y')
   (aa:oJ y'=some cs') (aB:hs P t cs'.length=true) (au:bB g1 p=some nd) (fp:nd=.own z n cs\/nd=.obj cs) (hk:k+cs'.length<=cs.length) (aQ:0<cs'.length)
   (zt:∀ t x,g2 t=some x->cu g1 p (nd.e5 k cs') t=some x) (r8:∀ t x,g2 t=some x->∀ y,g1 t=some y->jo (λr=>gE g1 r/\Clear p k cs'.length r/\gE g2 r) y) (lk:∀ t z q n m new,g2 t≠some (.bL z q n m new)) (kg:g2 p.root≠none):bm P N g o g2
 | call {o:Oper}{d:Nat}{g5:aK}(aS:o.dst=some d) (bc:N.ok d=true) (h:hM P N g o d g5):bm P N g o g5
 | KN {o:Oper}{g2:aK}(h:iw P N g o g2):bm P N g o g2
section
variable {P:Program}{w:World}{I:bb}{T:Array Value}{g:aK}{Fs:Nat->bb}
theorem Hand.one {y:ab}{v:Value}(aY:R w I (dU w T g) y v cw):Hand w I (fA w T) Fs [y] [v] (λ_=>cw) :=
 ⟨rfl,λk x u J hu=>by
  cases k with
  | zero=>simp at J hu; subst J hu; exact aY.frame (λ_ _=>rfl) (λ_ h=>h) (λ_ _ h=>h.1) λ_ _=>rfl
  | succ k=>simp at J,λ_ _ _ _ _ h=>h.elim,λ_ _ _ _ h=>h.elim,λ_ _ _ h=>h.elim⟩
theorem Hand.Kw {ρ:ab->Value->Prop}{y:ab}{v:Value}{dE:Nat->bb}(h:Hand w I ρ Fs [y] [v] dE):R w I ρ y v (dE 0):=h.rel 0 y v rfl rfl
theorem Hand.cells {y:ab}{v:Value}{dE:Nat->bb}(h:Hand w I (fA w T) Fs [y] [v] dE) (aF:cU y) {cs:List ab}(aa:oJ y=some cs) :
  ∃ yN,Hand w I (fA w T) Fs cs v.cells.toList yN/\(∀ x∈cs,cU x)/\(∀ (j:Nat) (u:Value),v.cells.toList[j]?=some u->u.oneCell'=true)/\∀ j c,j<cs.length->yN j c->dE 0 c:=by
 have aY:=h.Kw;have single:∀ {x:ab},y=x->v.oneCell'=true->∃ yN,Hand w I (fA w T) Fs [x] v.cells.toList yN/\(∀ z∈[x],cU z)/\(∀ (j:Nat) (u:Value),v.cells.toList[j]?=some u->u.oneCell'=true)/\∀ j c,j<[x].length->yN j c->dE 0 c:=by
  rintro x rfl h1;have EB:v.cells=#[v]:=by cases v <;> first | rfl | (simp [Value.oneCell'] at h1)
  grind
 cases y <;> simp only [oJ,Option.some.injEq,reduceCtorEq] at aa
 case agg l =>
  subst aa;cases aY with
  | ref J=>simp [ab.isRef] at J
  | @agg _ vs bM _ aj h1 ao aS aN =>
   have fV:∀ k c,k<l.length->bM k c->dE 0 c:=λk c hk aa=>(aN c).2 ⟨k,hk,aa⟩;refine ⟨bM,⟨by simp [Value.cells,aj],λk x u J hu=>ao k x u J (by simpa [Value.cells] using hu),aS,λk t c hk aa=>h.off 0 t c (by simp) (fV k c hk aa),λk c hk aa=>h.bk 0 c (by simp) (fV k c hk aa)⟩,?_,λj u hu=>h1 j u (by simpa [Value.cells] using hu),fV⟩;cases aF with | agg h=>exact h
 case lit a=>subst aa; exact single rfl (by obtain ⟨rfl,h1⟩:=aY.hD; exact h1)
 case aL=>subst aa; exact single rfl (by rw [aY.sf]; rfl)
 case bk z n l=>subst aa; exact single rfl (by obtain ⟨a,cap,rfl,_⟩:=aY.zK; rfl)
 case own z n l=>subst aa; exact single rfl (by obtain ⟨a,cap,rfl,_⟩:=aY.nm; rfl)
 case cJ l=>subst aa; exact single rfl (by obtain ⟨ad,us,rfl,_⟩:=aY.xA; rfl)
 case obj l =>
  subst aa;refine single rfl ?_;cases aY with
  | ref J=>simp [ab.isRef] at J
  | obj=>rfl
 case cX f a b =>
  subst aa;refine single rfl ?_;cases aY with
  | ref J=>simp [ab.isRef] at J
  | cX=>rfl
theorem jF.om {I':bb}{ρ:ab->Value->Prop}{x:ab}{v:Value}{F:bb}(h:jF w I ρ x v F) (bf:∀ c,I c->I' c):jF w I' ρ x v F:=by
 cases h with
 | tree h=>exact .tree (h.om bf)
 | bL h=>exact .bL ⟨h.jV,h.ll,h.nJ,h.aj,h.h1,λk x u J hu=>(h.ao k x u J hu).om bf,h.aN⟩
theorem M1 {g1:aK}{f_:Nat->bb}{H1:Nat->bb}{bw y':ab}{v:Value}(bj:jG w I T g1 f_) (hH:Hand w I (fA w T) f_ [bw] [v] H1) (aF:cU bw) (aX:h5 bw y') :
  ∃ (I':bb) (tm:bb),(∀ c,I c->I' c)/\(∀ c,I' c->I c\/H1 0 c)/\jG w I' T g1 f_/\Hand w I' (fA w T) f_ [y'] [v] (λ_=>tm)/\∀ c,tm c->H1 0 c:=by
 have aY:=hH.Kw;obtain ⟨tm,gH,jO⟩:=R.dO aX aY aF (λc aa=>hH.bk 0 c (by simp) aa) bj.lt;refine ⟨λc=>I c\/(H1 0 c/\¬ tm c),tm,λc aa=>.inl aa,λc aa=>aa.elim .inl λh=>.inr h.1,⟨λt x J=>?_,bj.k2,bj.eK,λt c aa hi=>?_,λc aa=>?_⟩,⟨rfl,λk x u J hu=>?_,λj k c ah hk _ _=>by simp at ah hk; omega,λk t c hk aa aW=>hH.off 0 t c (by simp) (gH c aa) aW,λk c hk aa hi=>?_⟩,gH⟩
 ·obtain ⟨u,hu,mU⟩:=bj.rel t x J;exact ⟨u,hu,mU.om λc aa=>.inl aa⟩
 ·rcases hi with h | ⟨h,_⟩
  ·exact bj.bk t c aa h
  ·exact hH.off 0 t c (by simp) h aa
 ·rcases aa with h | ⟨h,_⟩
  ·exact bj.lt c h
  ·exact aY.lt c h
 ·grind
 ·rcases hi with h | ⟨_,h⟩
  ·exact hH.bk 0 c (by simp) (gH c aa) h
  grind
theorem bm.kb {N:c5}{o:Oper}{g':aK}(he:bm P N g o g'):iw P N g o g':=by
 intro w I T Fs h a aP bc K Q di;cases he with
 | KN he=>exact he w I T Fs h a aP bc K Q di
 | @call d _ aS jQ aa =>
  refine aa w I T Fs h a aP bc K Q λca w' v I' b7 h1 af aI bF=>di ca w' ⟨h1,by rw [af,<- aP]; exact hE.put jQ _ _,I',b7,by rw [af]; exact aI,bF⟩ λt aw=>?_
  grind
 | @assign d x y bw y' g1 g2 a1 aS J aw aX hk aO jQ =>
  have aY:=kh h J aP;obtain ⟨f_,H1,sG,u',hQ⟩:=aw.sound h.mF (Hand.one aY);have BV:cU bw:=aw.Fv bw (by simp);obtain ⟨I',tm,px,HZ,jc,iL,gH⟩:=M1 sG u' BV aX;have mY:cU y':=aX.bl BV;have h9:=jc.keep hk;have nK:=h9.uD (d:=d) (x:=y') (v:=a.eval x) (F:=tm) aO (by rw [<- aP,bc]; exact c5.lt jQ) (.tree (iL.Kw.bl mY)) (λt c aa aW=>iL.off 0 t c (by simp) aa aW.2) (λc aa=>iL.bk 0 c (by simp) aa) (by rintro z p n m new rfl; cases mY);have hR:(execOp a.eval o).run P w=.ok (.value (a.eval x)) w:=by simp [execOp,a1]
  unfold Oper.wp Oper.upon;simp only [hR];have ga:∀ c,H1 0 c->∃ t,Fs t c:=λc aa=>by
   rcases hQ c (.inr ⟨0,by simp,aa⟩) with jb | ⟨_,_,jb⟩
   all_goals grind
  refine di _ _ ⟨by rw [aS]; rfl,by rw [aS]; exact hE.put jQ _ _,I',_,by rw [aS]; simpa [Act.put,aP] using nK,⟨Fr.refl _ _,px,λc aa=>(HZ c aa).elim .inl λh=>.inr (.inl (ga c h)),λc aa=>?_⟩⟩ λt aw=>by rw [aS]; simp only [Act.put]; rw [Array.getElem?_setIfInBounds_ne]; rintro rfl; exact aw aS
  rcases wj aa with ⟨t,_,aR⟩ | aR
  ·rcases hQ c (.inl ⟨t,aR⟩) with jb | ⟨_,_,jb⟩
   ·grind
   grind
  grind
 | @RY d x y g2 a1 aS J hk ax aO jQ =>
  have aY:=kh h J aP;have h9:=h.mF.keep hk;have jO:R w I (dU w T g2) y (a.eval x) cw:=(aY.frame (ρ':=fA w T) (λ_ _=>rfl) (λ_ h=>h) (λ_ _ h=>h.1) λ_ _=>rfl).bX ax;have nK:=h9.uD (d:=d) (x:=y) (v:=a.eval x) (F:=cw) aO (by rw [<- aP,bc]; exact c5.lt jQ) (.tree jO) (λ_ _ h=>h.elim) (λ_ h=>h.elim) (by rintro z p n m new rfl; exact jO.lq.elim);have hR:(execOp a.eval o).run P w=.ok (.value (a.eval x)) w:=by simp [execOp,a1]
  unfold Oper.wp Oper.upon;simp only [hR];refine di _ _ ⟨by rw [aS]; rfl,by rw [aS]; exact hE.put jQ _ _,I,_,by rw [aS]; simpa [Act.put,aP] using nK,⟨Fr.refl _ _,λ_ h=>h,λ_ h=>.inl h,λc aa=>?_⟩⟩ λt aw=>by rw [aS]; simp only [Act.put]; rw [Array.getElem?_setIfInBounds_ne]; rintro rfl; exact aw aS
  rcases wj aa with ⟨t,_,aR⟩ | aR
  ·grind
  grind
 | @store t ad val p k z n y bw y' nd cs cs' g1 _ a1 aS fP pF aw q_ aa aB au fp hk aQ zt r8 lk kg =>
  have mV:=kh h pF aP;obtain ⟨⟨u,Z',hu,Ia,tY⟩,_⟩:=(kh h fP aP).nP;obtain ⟨f_,H0,sG,u',Ib⟩:=aw.sound h.mF (Hand.one mV);have BV:cU bw:=aw.Fv bw (by simp);obtain ⟨I',tm,px,HZ,jc,iL,Ws⟩:=M1 sG u' BV q_;have mY:cU y':=q_.bl BV;have ga:∀ c,H0 0 c->∃ t,Fs t c:=λc aa=>by
   rcases Ib c (.inr ⟨0,by simp,aa⟩) with jb | ⟨_,_,jb⟩
   all_goals grind
  have hQ:∀ c,lB f_ 1 (λ_=>tm) c->lB Fs [y].length (λ_=>cw) c:=by
   rintro c (⟨t,aa⟩ | ⟨_,_,aa⟩)
   ·exact Ib c (.inl ⟨t,aa⟩)
   ·exact .inl (ga c (Ws c aa))
  obtain ⟨yN,Nh,Is,hy,acu⟩:=iL.cells mY aa;have lq:∀ z q n m new,nd≠.bL z q n m new:=by rcases fp with rfl | rfl <;> simp
  obtain ⟨v,cz,hv,dH,dx,_⟩:=jc.part au lq;rw [hu] at hv;cases hv;obtain ⟨b,hb,av,_⟩:=dH.node fp (List.getElem?_eq_getElem (show k<cs.length by omega));rw [Ia] at av;cases av;have kd:∃ e arr,w.heap[b]?=some (.cells arr e (0,0))/\cs.length<=arr.size:=by
   rcases fp with rfl | rfl
   ·cases dH with
    | ref J=>simp [ab.isRef] at J
    | own qp aj =>
     obtain ⟨l8,bY⟩:=qp
     grind [addrOf]
   ·cases dH with
    | ref J=>simp [ab.isRef] at J
    | obj qp aj =>
     grind [addrOf]
  obtain ⟨e,arr,kd,hle⟩:=kd;obtain ⟨iZ,h9,gH⟩:=jc.store au fp hk Nh Is hy zt r8 lk kg hu Ia kd;have gX:(a.eval val).cells.toList.length=cs'.length:=Nh.len.symm;have b1:=run_storeCells_at P b k e (a.eval val).cells.toList 0 arr w kd (by omega) (λu hu=>by
   obtain ⟨j,ah,rfl⟩:=List.mem_iff_getElem.1 hu;exact hy j _ (List.getElem?_eq_getElem ah))
  simp only [Nat.add_zero] at b1;have fX:(sizeOf t).run P w=.ok cs'.length w:=by
   unfold hs at aB;cases hi:P.info? t with
   | none=>simp [hi] at aB
   | some i=>simp [hi] at aB; simp [sizeOf,typeInfo,hi,aB]
  have hR:(execOp a.eval o).run P w=.ok .skip (w.setRow b (e5 arr.toList k (a.eval val).cells.toList).toArray):=by
   simp_all [execOp,Instr.storeAt,Instr.sureAddr,storeVar,e5]
  unfold Oper.wp Oper.upon;simp only [hR];have tW:∃ t,Fs t b:=by
   rcases hQ b (.inl ⟨_,dx b (dH.Ft fp (ad:=⟨b,0,none⟩) Ia)⟩) with aR | ⟨_,_,aR⟩
   all_goals grind
  refine di _ _ ⟨by rw [aS]; rfl,by rw [aS]; exact hE.refl,I',iZ,by rw [aS]; simpa [Act.put,aP] using h9,⟨⟨rfl,rfl,rfl,by simp,λc _ aa=>setRow_other w b c _ (λe=>aa (e ▸ tW)),λa _=>HK w b _ a,Nat.le_refl _⟩,px,λc aa=>(HZ c aa).elim .inl λh=>.inr (.inl (ga c h)),λc ⟨t,aa⟩=>?_⟩⟩ λt _=>by rw [aS]; rfl
  rcases gH t c aa with aR | ⟨j,ah,aR⟩
  ·rcases hQ c (.inl ⟨t,aR⟩) with jb | ⟨_,_,jb⟩
   ·grind
   grind
  grind
theorem bm.sound (h:cI w I T g Fs) {a:Act}(aP:a.tmps=T) {N:c5}(bc:a.tmps.size=N.size) {o:Oper}{g':aK}(he:bm P N g o g') {K:Act->World->Prop}{Q:Exit->Act->World->Prop}
  (di:∀ ca w',h7 N a w I Fs g' ca w'->K ca w'):o.wp P a w K Q:=he.kb w I T Fs h a aP bc K Q λca w' h _=>di ca w' h
end
end Go.Own
namespace Go.Own
open Go
def oA (g g':aK):Prop:=∀ t x,g t=some x->g' t=some x
section
variable {P:Program}{g g':aK}
theorem e4 (h:oA g g') {x:Operand}{y:ab}(ax:br g x=some y):br g' x=some y:=by
 cases x <;> simp only [br] at ax ⊢
 case tmp t =>
  cases J:g t with
  | none=>rw [J] at ax; cases ax
  | some z=>rw [J] at ax; rw [h t z J]; exact ax
 case const v=>exact ax
 case global n=>exact ax
 case func f=>exact ax
theorem zW (h:oA g g'):∀ {xs:List Operand}{ys:List ab},gp g xs=some ys->gp g' xs=some ys
 | [],_,ax=>ax
 | x::xs,ys,ax=>by
  simp only [gp] at ax ⊢;cases J:br g x with
  | none=>simp [J] at ax
  | some y =>
   cases sd:gp g xs with
   | none=>simp [J,sd] at ax
   | some DG=>simp only [J,sd] at ax; simp only [e4 h J,zW h sd]; exact ax
theorem Pw (h:oA g g'):∀ {l:List (Nat × Operand)}{ps:List (Nat × List ab)},rk g l=some ps->rk g' l=some ps
 | [],_,ax=>ax
 | (i,x)::l,ps,ax=>by
  simp only [rk] at ax ⊢;cases J:br g x with
  | none=>simp [J] at ax
  | some y =>
   cases sd:rk g l with
   | none=>simp [J,sd] at ax
   | some DG=>simp only [J,sd] at ax; simp only [e4 h J,Pw h sd]; exact ax
theorem p4.mono (h:oA g g') {d:Nat}{x:Option Operand}{j:Nat}(av:p4 g d x j):p4 g' d x j:=by
 cases x with
 | none=>exact av
 | some o=>obtain ⟨k,hk⟩:=av; exact ⟨k,e4 h hk⟩
theorem c6.mono (h:oA g g') {op:Op}{ty:TypeId}{x:ab}(au:c6 P g op ty x):c6 P g' op ty x:=by
 cases au with
 | move J=>exact .move (e4 h J)
 | assign J=>exact .assign (e4 h J)
 | pick aa ao=>exact .pick (e4 h aa) (e4 h ao)
 | Fq J=>exact .Fq (e4 h J)
 | qB J=>exact .qB (e4 h J)
 | Bq J aW db=>exact .Bq (e4 h J) aW (db.mono h)
 | Eo J aW=>exact .Eo (e4 h J) aW
 | En J aW aw ax=>exact .En (e4 h J) aW aw ax
 | HF J aW aw hk=>exact .HF (e4 h J) aW aw hk
 | E4 J hi aw ah=>exact .E4 (e4 h J) (e4 h hi) aw ah
 | E3 J hi aw ah db=>exact .E3 (e4 h J) (e4 h hi) aw ah (db.mono h)
 | Jv J hi aw ah db=>exact .Jv (e4 h J) (e4 h hi) aw ah (db.mono h)
 | E2 J hi aw ah db=>exact .E2 (e4 h J) (e4 h hi) aw ah (db.mono h)
 | Ju J hi aw ah=>exact .Ju (e4 h J) (e4 h hi) aw ah
 | Fh J aw=>exact .Fh (e4 h J) aw
 | Fi J aw hk=>exact .Fi (e4 h J) aw hk
 | Cy J aw ax=>exact .Cy (e4 h J) aw (kO h ax)
 | xO J aw ax aa hm=>exact .xO (e4 h J) aw (kO h ax) aa hm
 | E5 J hi aw av=>exact .E5 (e4 h J) (e4 h hi) aw av
 | bin J ax hv ao=>exact .bin (e4 h J) (e4 h ax) hv ao
 | A_ J ax hv ao=>exact .A_ (e4 h J) (e4 h ax) hv ao
 | un J hv ao=>exact .un (e4 h J) hv ao
 | conv J hv ao=>exact .conv (e4 h J) hv ao
 | Ed J au aF hJ aw=>exact .Ed (e4 h J) (kO h au) aF hJ aw
 | Ee J aw=>exact .Ee (e4 h J) aw
 | @HC xs gq _ f vs v J hv ao =>
  refine .HC (vs:=vs) ?_ hv ao;apply List.ext_getElem?;intro k;have:=congrArg (·[k]?) J;simp only [List.getElem?_map] at this ⊢;rw [<- this];cases hk:xs.toList[k]? with
  | none=>rfl
  | some o =>
   rw [hk] at this;cases hv:vs[k]? with
   | none=>rw [hv] at this; cases this
   | some v =>
    rw [hv] at this;simp only [Option.map_some,Option.some.injEq] at this ⊢;rw [this,e4 h this]
 | Ek J ax=>exact .Ek (e4 h J) ax
 | AE J aj bY aw h1 af=>exact .AE (e4 h J) (aj.mono h) (bY.mono h) aw h1 af
 | KQ J aj bY aw aF db=>exact .KQ (e4 h J) (aj.mono h) (bY.mono h) aw aF (db.mono h)
 | F8 J aj bY aw h1 af db=>exact .F8 (e4 h J) (aj.mono h) (bY.mono h) aw h1 af (db.mono h)
 | AF J aj bY aw h1 af=>exact .AF (e4 h J) (aj.mono h) (bY.mono h) aw h1 af
 | Cv J aw=>exact .Cv (e4 h J) aw
 | Cu J aw=>exact .Cu (e4 h J) aw
 | JQ J aw=>exact .JQ (e4 h J) aw
 | JP J aw=>exact .JP (e4 h J) aw
 | Fg J au ax di aY ao=>exact .Fg (e4 h J) (kO h au) (e4 h ax) di aY ao
 | Cx J ax di aY ao=>exact .Cx (e4 h J) (e4 h ax) di aY ao
 | @lits b xs gq _ vs v J hv ao =>
  refine .lits (vs:=vs) ?_ hv ao;clear ao;generalize xs.toList=l at J
  induction l generalizing vs with
  | nil=>exact J
  | cons x l aU =>
   cases vs with
   | nil=>simp at J
   | cons v vs =>
    simp only [List.map_cons,List.cons.injEq] at J ⊢;exact ⟨e4 h J.1,aU J.2⟩
theorem p8.mono (h:oA g g') {op:Op}{ty:TypeId}{x:ab}(au:p8 P g op ty x):p8 P g' op ty x:=by
 cases au with
 | box J aa=>exact .box (e4 h J) aa
 | alloc aX h1=>exact .alloc aX h1
 | makeMap bg=>exact .makeMap bg
 | buildSlice aw au J aX aa av aF hzero=>exact .buildSlice aw au (zW h J) aX aa av aF hzero
 | makeSlice aw J ax hzero h1 pK av aF ob vB E1=>exact .makeSlice aw (e4 h J) (e4 h ax) hzero h1 pK av aF ob vB E1
theorem uX.mono (h:oA g g') {op:Op}{ty:TypeId}{x:ab}(au:uX P g op ty x):uX P g' op ty x:=by
 cases au with
 | build aw aX h1 au aa=>exact .build aw aX h1 (Pw h au) aa
 | makeFunc aP av=>exact .makeFunc (zW h aP) (zW h av)
theorem Src.mono (h:oA g g') {y:ab}{z m:Nat}{cells:List ab}(aB:Src g y z m cells):Src g' y z m cells:=by
 cases aB with
 | bk=>exact .bk
 | aL=>exact .aL
 | a6 bg hm=>exact .a6 (kO h bg) hm
 | sub bg hm=>exact .sub (kO h bg) hm
theorem ch.mono (h:oA g g') {op:Op}{ty:TypeId}{x:ab}(au:ch P g op ty x) (e8:∀ z p n m new,x=.bL z p n m new->∀ t bC cH m' c3,g' t≠some (.bL bC p cH m' c3)):ch P g' op ty x:=by
 cases au with
 | eW au=>exact .eW (au.mono h)
 | rj au=>exact .rj (au.mono h)
 | CM au=>exact .CM (au.mono h)
 | lS au =>
  cases au with
  | grow aB db _ J r9 aw q8 av=>exact .lS (.grow (e4 h aB) (db.mono h) (e8 _ _ _ _ _ rfl) (e4 h J) (r9.mono h) aw q8 av)
  | nil aB J r9 aw q8 av=>exact .lS (.nil (e4 h aB) (e4 h J) (r9.mono h) aw q8 av)
theorem View.mono (h:oA g g') {x y:ab}(hv:View g x y):View g' x y:=by
 induction hv with
 | qB=>exact .qB
 | self h1 af aI bF cG eh=>exact .self h1 af aI bF cG eh
 | mp=>exact .mp
 | gz au=>exact .gz (kO h au)
 | agg aj _ aU=>exact .agg aj aU
 | own aj _ aU=>exact .own aj aU
 | obj aj _ aU=>exact .obj aj aU
 | cX aj _ aU=>exact .cX aj aU
 | a6 au aF aj _ aU=>exact .a6 (kO h au) aF aj aU
 | sub au aF aj _ aU=>exact .sub (kO h au) aF aj aU
 | ptr au ax hk aj _ aU=>exact .ptr (kO h au) ax hk aj aU
 | rows au aj _ aU=>exact .rows (au.mono (λau=>kO h au) h) aj aU
theorem cK.mono (h:oA g g') {op:Op}{x:ab}(au:cK P g op x):cK P g' op x:=by
 cases au with
 | plain aa J aW aF gQ ao=>exact .plain (e4 h aa) (zW h J) aW aF gQ ao
 | Fe aa J aW aj hv gQ ao=>exact .Fe (e4 h aa) (zW h J) aW aj (λk x y J ax=>(hv k x y J ax).mono h) gQ ao
def iy (g:aK) (ops:Array Oper) (o:Oper) (b:Bool):Prop :=
 match o.guard with
 | none=>b=true
 | some (j,want)=>∃ t,(ops[j]?).bind (·.dst)=some t/\((∃ c,g t=some (.lit (.bool c))/\b=(c == want))\/(g t=some (.bV [])/\b=false))
theorem iy.mono (h:oA g g') {ops:Array Oper}{o:Oper}{b:Bool}(hw:iy g ops o b):iy g' ops o b:=by
 unfold iy at *;split
 ·rename_i aO; rw [aO] at hw; exact hw
 ·rename_i j want aO;rw [aO] at hw;obtain ⟨t,h1,⟨c,af,aI⟩ | ⟨af,aI⟩⟩:=hw
  ·exact ⟨t,h1,.inl ⟨c,h t _ af,aI⟩⟩
  ·exact ⟨t,h1,.inr ⟨h t _ af,aI⟩⟩
theorem iy.sound {w:World}{I:bb}{T:Array Value}{Fs:Nat->bb}(bj:cI w I T g Fs) {ops:Array Oper}{o:Oper}{b:Bool}(hw:iy g ops o b):Region.wanted o (yielded ops T)=b:=by
 unfold iy at hw;unfold Region.wanted
 split at hw
 ·rename_i aO; rw [aO]; exact hw.symm
 ·rename_i j want aO;rw [aO];obtain ⟨t,h1,⟨c,af,aI⟩ | ⟨af,aI⟩⟩:=hw
  ·obtain ⟨v,hv,aY⟩:=bj.rel _ _ af;have:=(aY.gI (by simp)).hD.1;subst this;subst aI;simp only [yielded,h1,Option.bind_some,hv];cases c <;> cases want <;> rfl
  ·obtain ⟨v,hv,aY⟩:=bj.rel _ _ af;have:∃ vs,v=.tuple vs:=by
    cases aY.gI (by simp) with
    | bV=>exact ⟨_,rfl⟩
    | ref J=>simp [ab.isRef] at J
   obtain ⟨vs,rfl⟩:=this;subst aI;simp only [yielded,h1,Option.bind_some,hv];cases want <;> rfl
def qa (P:Program) (g:aK) (ops:Array Oper) (o:Oper):Option ab->Prop
 | none=>iy g ops o false
 | some x=>(iy g ops o true/\(ch P g o.op o.type x\/cK P g o.op x))\/(iy g ops o false/\x=.bV [])\/(iy g ops o true/\∃ y,(ch P g o.op o.type y\/cK P g o.op y)/\cU y/\View (λ_=>none) y x)
theorem qa.mono (h:oA g g') {ops:Array Oper}{o:Oper}{r:Option ab}(aB:qa P g ops o r) (e8:∀ z p n m new,r=some (.bL z p n m new)->∀ t bC cH m' c3,g' t≠some (.bL bC p cH m' c3)):qa P g' ops o r:=by
 cases r with
 | none=>exact iy.mono h aB
 | some x =>
  rcases aB with aB | ⟨aB,J⟩ | ⟨aB,y,au,aF,hv⟩
  ·refine .inl ⟨aB.1.mono h,?_⟩;rcases aB.2 with au | au
   ·exact .inl (au.mono h λz p n m new e=>e8 z p n m new (by rw [e]))
   ·exact .inr (au.mono h)
  ·exact .inr (.inl ⟨aB.mono h,J⟩)
  ·refine .inr (.inr ⟨aB.mono h,y,?_,aF,hv⟩);rcases au with au | au
   ·exact .inl (au.mono h λz p n m new e=>by subst e; cases aF)
   ·exact .inr (au.mono h)
def leaf:ab->Bool
 | .own .. | .obj .. | .agg .. | .bV .. | .bL .. | .mp ..=>false
 | _=>true
def del (g:aK) (d:Nat):aK:=λt=>if t=d then none else g t
theorem Xv {x y:ab}(h:leaf x=true):∀ {q:List Nat},x.at q=some y->y=x
 | [],ax=>by simpa [ab.at] using ax.symm
 | k::q,ax=>by
  have:x.kids=[]:=by cases x <;> first | rfl | simp [leaf] at h
  simp [ab.at,this] at ax
theorem y8 {d:Nat}{x:ab}(aS:g d=some x) (aj:leaf x=true) {p:Place}{y:ab}(au:bB g p=some y) (ax:leaf y=false):bB (del g d) p=some y:=by
 have ao:p.root≠d:=by
  intro e;unfold bB at au;rw [e,aS] at au;rw [Xv aj au,aj] at ax;cases ax
 simp only [bB,del,if_neg ao] at au ⊢;exact au
theorem gE.del {d:Nat}{x:ab}(aS:g d=some x) (aj:leaf x=true) {r:ab}(h:gE g r):gE (del g d) r:=by
 have root:∀ {t:Nat}{y:ab},g t=some y->leaf y=false->Own.del g d t=some y:=by
  intro t y aw ax;have:t≠d:=by
   rintro rfl;rw [aS] at aw;cases aw;rw [aj] at ax; cases ax
  simp only [Own.del,if_neg this,aw]
 cases r <;> simp only [gE] at h ⊢
 case ptr p k =>
  obtain ⟨y,ax,z,n,cs,eM,hk⟩:=h;exact ⟨y,y8 aS aj ax (by rcases eM with rfl | rfl <;> rfl),z,n,cs,eM,hk⟩
 case a6 z p n =>
  rcases h with ⟨N,cs,ax,aF⟩ | ⟨h1,q,gJ,m,new,af,aI⟩
  ·exact .inl ⟨N,cs,y8 aS aj ax rfl,aF⟩
  ·exact .inr ⟨h1,q,gJ,m,new,root af rfl,aI⟩
 case sub z p lo n =>
  obtain ⟨N,cs,ax,aF⟩:=h;exact ⟨N,cs,y8 aS aj ax rfl,aF⟩
 case gz p=>obtain ⟨q,h⟩:=h; exact ⟨q,y8 aS aj h rfl⟩
 case bL z p n m new =>
  rcases h with ⟨cs,ax⟩ | ⟨h1,q,gJ,m,new,cs,af,aI,bF⟩
  ·exact .inl ⟨cs,y8 aS aj ax rfl⟩
  ·exact .inr ⟨h1,q,gJ,m,new,cs,root af rfl,aI,y8 aS aj bF rfl⟩
theorem R.Xu {w:World}{I:bb}{ρ:ab->Value->Prop}{x:ab}{v:Value}{F:bb}(h:R w I ρ x v F) (aj:leaf x=true):∀ c,¬ F c:=by
 cases h with
 | own | obj | agg | bV | mp=>simp [leaf] at aj
 | lit _ aN | aL aN | dead aN | ref _ _ aN | hK aN | bk aN | cJ aN | cX aN | imp aN=>exact aN
theorem cI.drop {w:World}{I:bb}{T:Array Value}{Fs:Nat->bb}(h:cI w I T g Fs) {d:Nat}{x:ab}(aS:g d=some x) (aj:leaf x=true):cI w I T (del g d) Fs:=by
 refine ⟨λt y ax=>?_,λt aw c aa=>?_,h.eK,h.bk,h.lt,λt t' z p n m new bC cH m' c3 h1 af=>?_⟩
 ·have oS:g t=some y:=by
   unfold del at ax
   split at ax
   ·cases ax
   ·exact ax
  obtain ⟨v,hv,aY⟩:=h.rel t y oS;exact ⟨v,hv,aY.frame (λ_ _=>rfl) (λ_ h=>h) (λ_ _ ao=>⟨ao.1,ao.2.del aS aj⟩) (λ_ _ _ _ _ _ _=>rfl) λ_ _=>rfl⟩
 ·unfold del at aw
  split at aw
  ·rename_i e;subst e;obtain ⟨v,hv,aY⟩:=h.rel t x aS;exact (aY.gI (by rintro z p n m new rfl; simp [leaf] at aj)).Xu aj c aa
  ·exact h.k2 t aw c aa
 ·have key:∀ {t:Nat}{y:ab},del g d t=some y->g t=some y:=by
   intro t y ax;unfold del at ax
   split at ax
   ·cases ax
   ·exact ax
  exact h.rn _ _ _ _ _ _ _ _ _ _ _ (key h1) (key af)
end
end Go.Own
namespace Go.Own
open Go
def yc (g:aK) (d:Nat):Option ab->aK
 | some x=>cV g d x
 | none=>g
section
variable {P:Program}{w:World}{I:bb}{T:Array Value}{g:aK}{Fs:Nat->bb}{N:c5}{ops:Array Oper}
theorem kq.refl (w:World) (I U:bb):kq w I U w I U:=⟨Fr.refl _ _,λ_ h=>h,λ_ h=>.inl h,λ_ h=>.inl h⟩
theorem kq.trans {w ic hA:World}{I AX DQ U y1 LG:bb}(h:kq w I U ic AX y1) (h1:kq ic AX y1 hA DQ LG):kq w I U hA DQ LG:=by
 have nk:∀ c,c<w.heap.size->y1 c->U c:=λc aa hu=>by
  rcases h.own c hu with aR | aR
  ·exact aR
  ·omega
 refine ⟨h.eR.trans h1.eR nk,λc aa=>h1.more c (h.more c aa),λc aa=>?_,λc aa=>?_⟩
 ·rcases h1.new c aa with aR | aR | aR
  ·exact h.new c aR
  ·rcases h.own c aR with jb | jb
   ·exact .inr (.inl jb)
   ·exact .inr (.inr jb)
  ·exact .inr (.inr (Nat.le_trans h.eR.size aR))
 ·rcases h1.own c aa with aR | aR
  ·exact h.own c aR
  ·exact .inr (Nat.le_trans h.eR.size aR)
theorem h7.trans {N:c5}{a aD a2:Act}{ic hA:World}{AX:bb}{f_:Nat->bb}{g2:aK}(h1:aD.defers=a.defers) (af:hE N a.tmps aD.tmps) (b1:kq w I (λc=>∃ t,Fs t c) ic AX (λc=>∃ t,f_ t c)) (h:h7 N aD ic AX f_ g2 a2 hA):h7 N a w I Fs g2 a2 hA:=by
 obtain ⟨cy,b9,DQ,iZ,bj,qq⟩:=h;exact ⟨cy.trans h1,af.trans b9,DQ,iZ,bj,b1.trans qq⟩
theorem cI.Yn (h:cI w I T g Fs) {d:Nat}(aS:g d=none) (v:Value):cI w I (T.setIfInBounds d v) g Fs:=by
 have dM:∀ t,g t≠none->(T.setIfInBounds d v)[t]?=T[t]?:=by
  intro t aw;rw [Array.getElem?_setIfInBounds_ne];rintro rfl; exact aw aS
 refine ⟨λt x J=>?_,h.k2,h.eK,h.bk,h.lt,h.rn⟩;obtain ⟨u,hu,aY⟩:=h.rel t x J;exact ⟨u,by rw [dM t (by rw [J]; simp)]; exact hu,h.w2 dM (λ_ _ _=>rfl) (λ_ _=>rfl) (λ_ h=>h) (λ_ _ h=>h) aY λ_ _=>rfl⟩
structure GL (dO:Nat->Bool) (g g2:aK):Prop where
 nk:∀ t x,g2 t=some x->dO t=false->g t=some x/\dh g2 x
 pL:∀ t x,g2 t=some x->dO t=true->∃ y,g t=some y/\cU y/\h5 y x
 fy:∀ t z q n m new,g2 t≠some (.bL z q n m new)
theorem cI.u7 (h:cI w I T g Fs) {dO:Nat->Bool}{g2:aK}(aX:GL dO g g2):∃ I' b7,cI w I' T g2 b7/\kq w I (λc=>∃ t,Fs t c) w I' (λc=>∃ t,b7 t c):=by
 have rX:=h.mF;have CG:∀ t x,g2 t=some x->∀ z p n m new,x≠.bL z p n m new:=by
  rintro t x J z p n m new rfl;exact aX.fy _ _ _ _ _ _ J
 -- of each slot what it owns from now on
 have:∀ t,∃ c8:bb,(∀ c,c8 c->Fs t c/\g2 t≠none)/\∀ x,g2 t=some x->(dO t=false->∀ c,Fs t c->c8 c)/\∃ v,T[t]?=some v/\R w (λc=>I c\/(Fs t c/\¬ c8 c)) (dU w T g2) x v c8:=by
  intro t;cases J:g2 t with
  | none=>exact ⟨cw,λ_ h=>h.elim,λx h=>by cases h⟩
  | some x =>
   cases aw:dO t with
   | false =>
    obtain ⟨h1,af⟩:=aX.nk t x J aw;obtain ⟨v,hv,aY⟩:=rX.rel t x h1;refine ⟨Fs t,λc aa=>⟨aa,by simp⟩,λy ax=>?_⟩;cases ax;exact ⟨λ_ _ h=>h,v,hv,((aY.gI (CG t x J)).bX af).om λc aa=>.inl aa⟩
   | true =>
    obtain ⟨y,h1,af,aI⟩:=aX.pL t x J aw;obtain ⟨v,hv,aY⟩:=rX.rel t y h1;have jO:=aY.gI (by rintro z p n m new rfl; cases af);obtain ⟨c8,aB,UP⟩:=R.dO aI jO af (λc aa=>rX.bk t c aa) rX.lt;refine ⟨c8,λc aa=>⟨aB c aa,by simp⟩,λz aX=>?_⟩;cases aX;exact ⟨λh=>absurd h (by simp),v,hv,UP.bl (aI.bl af)⟩
 obtain ⟨b7,jN⟩:=Classical.axiomOfChoice this;refine ⟨λc=>I c\/∃ t,Fs t c/\g2 t≠none/\¬ b7 t c,b7,⟨λt x J=>?_,λt aw c aa=>((jN t).1 c aa).2 aw,λt t' c aa fo=>h.eK t t' c ((jN t).1 c aa).1 ((jN t').1 c fo).1,λt c aa hi=>?_,λc aa=>?_,λt t' z p n m new bC cH m' c3 h1 _=>absurd h1 (aX.fy _ _ _ _ _ _)⟩,Fr.refl _ _,λ_ h=>.inl h,λc aa=>?_,λc ⟨t,aa⟩=>.inl ⟨t,((jN t).1 c aa).1⟩⟩
 ·obtain ⟨_,v,hv,aY⟩:=(jN t).2 x J;exact ⟨v,hv,.tree (aY.om λc aa=>aa.elim .inl λaa=>.inr ⟨t,aa.1,by rw [J]; simp,aa.2⟩)⟩
 ·rcases hi with aR | ⟨s,h1,_,af⟩
  ·exact h.bk t c ((jN t).1 c aa).1 aR
  ·have:=h.eK t s c ((jN t).1 c aa).1 h1;subst this;exact af aa
 ·rcases aa with aR | ⟨s,aR,_⟩
  ·exact h.lt c aR
  ·exact h.j1 s c aR
 ·rcases aa with aR | ⟨s,aR,_⟩
  ·exact .inl aR
  ·exact .inr (.inl ⟨s,aR⟩)
theorem qa.sound (h:cI w I T g Fs) {a:Act}(aP:a.tmps=T) (bc:a.tmps.size=N.size) {o:Oper}{r:Option ab}{d:Nat}(aB:qa P g ops o r) (aS:o.dst=some d) (aO:g d=none) (jQ:N.ok d=true) {K:Act->World->Prop}{Q:Exit->Act->World->Prop}
  (di:∀ ca w',h7 N a w I Fs (yc g d r) ca w'->K ca w') :
  if Region.wanted o (yielded ops a.tmps) then o.wp P a w K Q\/(o.asks P a w/\LetsOut Q) else K (a.put o.dst undef) w:=by
 subst aP;cases r with
 | none =>
  rw [iy.sound h aB];simp only [Bool.false_eq_true,if_false];refine di _ _ ⟨by rw [aS]; rfl,by rw [aS]; exact hE.put jQ _ _,I,Fs,by rw [aS]; exact h.Yn aO _,kq.refl _ _ _⟩
 | some x =>
  have fin:∀ x v w',uV w I a.tmps g Fs x v w'->(∀ ca w',h7 N a w I Fs (cV g d x) ca w'->K ca w')->K (a.put o.dst v) w':=by
   rintro x v w' ⟨F,I',bj,aY,h1,af,aI,bF,cG,eh⟩ di;refine di _ _ ⟨by rw [aS]; rfl,by rw [aS]; exact hE.put jQ _ _,I',_,by rw [aS]; exact bj.uD aO (by rw [bc]; exact c5.lt jQ) aY (λt c aa aW=>h1 t c aa aW) (λc aa=>(af c aa).2) eh,⟨cG,aI,λc aa=>?_,λc aa=>?_⟩⟩
   ·rcases bF c aa with aR | aR
    ·exact .inl aR
    ·exact .inr (.inr aR)
   ·rcases wj aa with aR | aR
    ·exact .inl aR
    ·exact .inr (af c aR).1
  have pL:∀ y v w',cU y->View (λ_=>none) y x->uV w I a.tmps g Fs y v w'->uV w I a.tmps g Fs x v w':=by
   rintro y v w' aF hv ⟨F,I',bj,aY,h1,af,aI,bF,cG,eh⟩;have dH:=aY.gI (by rintro z p n m new rfl; cases aF);refine ⟨cw,λc=>I' c\/F c,⟨λt z aX=>?_,bj.k2,bj.eK,λt c aa hi=>?_,λc aa=>?_,bj.rn⟩,.tree (dH.pL aF hv (λc aa=>(af c aa).2) bj.lt),λ_ _ h=>h.elim,λ_ h=>h.elim,λc aa=>.inl (aI c aa),λc aa=>?_,cG,?_⟩
   ·obtain ⟨u,hu,mU⟩:=bj.rel t z aX;exact ⟨u,hu,mU.om λc aa=>.inl aa⟩
   ·rcases hi with h | h
    ·exact bj.bk t c aa h
    ·exact h1 t c h aa
   ·rcases aa with h | h
    ·exact bj.lt c h
    ·exact dH.lt c h
   ·rcases aa with h | h
    ·exact bF c h
    ·exact .inr (af c h).1
   ·rintro z p n m new rfl;cases hv with
    | self h=>cases h
  rcases aB with aB | ⟨aB,rfl⟩ | ⟨aB,y,au,aF,hv⟩
  rotate_left
  rotate_left
  ·rw [iy.sound h aB];simp only [if_true];refine .inl ?_;have MV:∀ v w',uV w I a.tmps g Fs y v w'->K (a.put o.dst v) w':=λv w' c9=>fin x v w' (pL y v w' aF hv c9) di;rcases au with au | au
   ·obtain ⟨v,w',hR,c9⟩:=au.sound h rfl;unfold Oper.wp Oper.upon;simp only [hR];exact MV v w' c9
   ·exact au.sound h rfl MV
  rotate_left
  ·rw [iy.sound h aB];simp only [Bool.false_eq_true,if_false];refine di _ _ ⟨by rw [aS]; rfl,by rw [aS]; exact hE.put jQ _ _,I,_,by rw [aS]; exact h.uD aO (by rw [bc]; exact c5.lt jQ) (.tree (.bV (Fs:=λ_=>cw) (F:=cw) rfl (λk x u J _=>by simp at J) (λ_ _ _ _ _ h=>h.elim) (λc=>⟨λh=>h.elim,λ⟨_,_,h⟩=>h⟩))) (λ_ _ h=>h.elim) (λ_ h=>h.elim) (λ_ _ _ _ _ e=>by cases e),⟨Fr.refl _ _,λ_ h=>h,λ_ h=>.inl h,λc aa=>?_⟩⟩;rcases wj aa with aR | aR
   ·exact .inl aR
   ·exact aR.elim
  rw [iy.sound h aB.1];simp only [if_true];refine .inl ?_;have fin:∀ v w',uV w I a.tmps g Fs x v w'->K (a.put o.dst v) w':=by
   rintro v w' ⟨F,I',bj,aY,h1,af,aI,bF,cG,eh⟩;refine di _ _ ⟨by rw [aS]; rfl,by rw [aS]; exact hE.put jQ _ _,I',_,by rw [aS]; exact bj.uD aO (by rw [bc]; exact c5.lt jQ) aY (λt c aa aW=>h1 t c aa aW) (λc aa=>(af c aa).2) eh,⟨cG,aI,λc aa=>?_,λc aa=>?_⟩⟩
   ·rcases bF c aa with aR | aR
    ·exact .inl aR
    ·exact .inr (.inr aR)
   ·rcases wj aa with aR | aR
    ·exact .inl aR
    ·exact .inr (af c aR).1
  rcases aB.2 with au | au
  ·obtain ⟨v,w',hR,c9⟩:=au.sound h rfl;unfold Oper.wp Oper.upon;simp only [hR];exact fin v w' c9
  ·exact au.sound h rfl fin
inductive oC (P:Program) (N:c5) (ops:Array Oper):List Nat->aK->aK->Prop
 | nil {g:aK}:oC P N ops [] g g
 | step {i:Nat}{rest:List Nat}{g g':aK}{o:Oper}{d:Nat}{r:Option ab}(a1:ops[i]?=some o) (aS:o.dst=some d) (aO:g d=none) (jQ:N.ok d=true) (aB:qa P g ops o r)
   (ao:oC P N ops rest (yc g d r) g'):oC P N ops (i::rest) g g'
 | kb {i:Nat}{rest:List Nat}{g g1 g':aK}{o:Oper}(a1:ops[i]?=some o) (hw:iy g ops o true) (he:bm P N g o g1) (ao:oC P N ops rest g1 g'):oC P N ops (i::rest) g g'
 | drop {is:List Nat}{g g':aK}{d:Nat}{x:ab}(aS:g d=some x) (aj:leaf x=true) (ao:oC P N ops is (del g d) g'):oC P N ops is g g'
 | forget {is:List Nat}{g g1 g':aK}(hk:hF g g1) (ao:oC P N ops is g1 g'):oC P N ops is g g'
 | u7 {is:List Nat}{g g1 g':aK}{dO:Nat->Bool}(hk:GL dO g g1) (ao:oC P N ops is g1 g'):oC P N ops is g g'
theorem oC.sound {is:List Nat}{g':aK}(ao:oC P N ops is g g'):∀ {a:Act}{w:World}{I:bb}{Fs:Nat->bb}{Q:Exit->Act->World->Prop},cI w I a.tmps g Fs->a.tmps.size=N.size ->
  (∀ ca w',h7 N a w I Fs g' ca w'->Q .normal ca w')->wpOps P ops Q is a w:=by
 induction ao with
 | nil=>exact λbj bc dP=>dP _ _ ⟨rfl,hE.refl,_,_,bj,kq.refl _ _ _⟩
 | @step i rest g g' o d r a1 aS aO jQ aB _ aU =>
  intro a w I Fs Q bj bc dP;simp only [wpOps,a1];refine aB.sound bj rfl bc aS aO jQ λca w' aF=>?_;obtain ⟨cy,b9,I',b7,d_,b1⟩:=aF;exact aU d_ (b9.1.trans bc) λa2 hA af=>dP _ _ (h7.trans cy b9 b1 af)
 | @kb i rest g g1 g' o a1 hw he _ aU =>
  intro a w I Fs Q bj bc dP;simp only [wpOps,a1,hw.sound bj,if_true];refine .inl (he.sound bj rfl bc λca w' aF=>?_);obtain ⟨cy,b9,I',b7,d_,b1⟩:=aF;exact aU d_ (b9.1.trans bc) λa2 hA af=>dP _ _ (h7.trans cy b9 b1 af)
 | @drop is g g' d x aS aj _ aU=>exact λbj bc dP=>aU (bj.drop aS aj) bc dP
 | @u7 is g g1 g' dO hk _ aU =>
  intro a w I Fs Q bj bc dP;obtain ⟨I',b7,d_,b1⟩:=bj.u7 hk;exact aU d_ bc λa2 hA af=>dP _ _ (h7.trans rfl hE.refl b1 af)
 | @forget is g g1 g' hk _ aU =>
  intro a w I Fs Q bj bc dP;have d_:=bj.mF.keep hk;refine aU d_ bc λa2 hA af=>dP _ _ (h7.trans rfl hE.refl ⟨Fr.refl _ _,λ_ h=>h,λ_ h=>.inl h,λc aa=>?_⟩ af);obtain ⟨t,_,aa⟩:=aa;exact .inl ⟨t,aa⟩
end
end Go.Own
namespace Go.Own
open Go
def sm (rs:List Nat):Place->Prop:=λp=>p.root∈rs
def o' (P:Program) (N:c5) (rs:Place->Prop) (g:aK) (o:Oper) (g':aK):Prop :=
 ∀ (w:World) (I:bb) (T:Array Value) (Fs:Nat->bb),cI w I T g Fs->∀ (a:Act),a.tmps=T->a.tmps.size=N.size->∀ (K:Act->World->Prop) (Q:Exit->Act->World->Prop),
  (∀ (ca:Act) (w':World),h7 N a w I Fs g' ca w'->(∀ t,o.dst≠some t->ca.tmps[t]?=a.tmps[t]?)->(∀ r path,rs ⟨r,path⟩->∀ y,bB g ⟨r,path⟩=some y->(∀ z q n m new,y≠.bL z q n m new)->dY w' ca.tmps ⟨r,path⟩=dY w T ⟨r,path⟩)->K ca w')->o.wp P a w K Q
theorem iw.v {P:Program}{N:c5}{g g':aK}{o:Oper}(h:iw P N g o g'):o' P N (sm []) g o g' :=
 λw I T Fs bj a aP bc K Q di=>h w I T Fs bj a aP bc K Q λca w' h1 af=>di ca w' h1 af λ_ _ h=>by simp [sm] at h
inductive p9:ab->Prop
 | lit {v:Value}:p9 (.lit v)
 | aL:p9 .aL
 | bk {z n:Nat}{cs:List ab}(h:∀ x∈cs,cU x):p9 (.bk z n cs)
 | agg {cs:List ab}(h:∀ x∈cs,p9 x):p9 (.agg cs)
theorem p9.bl {x:ab}(h:p9 x):cU x:=by
 induction h with
 | lit=>exact .lit
 | aL=>exact .aL
 | bk h=>exact .bk h
 | agg _ aU=>exact .agg aU
theorem p9.k2 {w:World}{I:bb}{ρ:ab->Value->Prop}{x:ab}(h:p9 x):∀ {v:Value}{F:bb},R w I ρ x v F->∀ c,¬ F c:=by
 induction h with
 | lit =>
  intro v F aY;cases aY with
  | lit _ aN=>exact aN
  | ref J=>simp [ab.isRef] at J
 | aL =>
  intro v F aY;cases aY with
  | aL aN=>exact aN
  | ref J=>simp [ab.isRef] at J
 | bk =>
  intro v F aY;cases aY with
  | ref J=>simp [ab.isRef] at J
  | hK aN=>exact aN
  | bk aN=>exact aN
 | @agg cs _ aU =>
  intro v F aY c aa;cases aY with
  | ref J=>simp [ab.isRef] at J
  | @agg _ vs bM _ aj h1 ao aS mq =>
   obtain ⟨k,hk,af⟩:=(mq c).1 aa;have hu:vs[k]?=some (vs[k]'(by omega)):=Array.getElem?_eq_getElem (by omega);exact aU _ (List.getElem_mem hk) (ao k _ _ (List.getElem?_eq_getElem hk) hu) c af
structure GH (g:aK):Prop where
 bX:∀ t x,g t=some x->dh g x
 fy:∀ t z q n m new,g t≠some (.bL z q n m new)
def A7 (rs:Place->Prop) (g g1:aK) (o:Oper) (x:ab):Prop:=(∃ r path z n N cs,x=.a6 z ⟨r,path⟩ n/\rs ⟨r,path⟩/\bB g ⟨r,path⟩=some (.own z N cs)/\bB g1 ⟨r,path⟩=some (.own z N cs)/\n<=N)\/(∃ v,x=.lit v)\/(∃ s p k,x=.ptr p k/\g s=some x/\g1 s=some x/\o.dst≠some s)\/(∃ r k cs,x=.ptr ⟨r,[]⟩ k/\g1 r=some (.obj cs)/\k<cs.length/\o.dst≠some r/\∃ cs',g r=some (.obj cs')/\k<cs'.length)\/(∃ z n cs,x=.bk z n cs/\cU x)\/(∃ cs,x=.agg cs/\p9 x/\GH g)
section
variable {P:Program}{N:c5}{g g1:aK}{o:Oper}
theorem P_ {T:Array Value}{t:Nat}{v:Value}(h:T[t]?=some v):T.setIfInBounds t v=T:=by
 apply Array.ext (by simp);intro i h1 af;rw [Array.getElem_setIfInBounds];split
 ·rename_i e;subst e;have:=(Array.getElem?_eq_some_iff.1 h);exact this.2.symm
 ·rfl
theorem cI.Tq {w:World}{I:bb}{T:Array Value}{Fs:Nat->bb}{t:Nat}{x:ab}(h:cI w I T (cV g t x) Fs) (aO:g t=none) (aa:GH g) (lg:∀ c,¬ Fs t c):cI w I T g Fs:=by
 have gH:∀ s y,g s=some y->cV g t x s=some y:=λs y aB=>by
  unfold cV;rw [if_neg (λe=>by rw [e,aO] at aB; cases aB)]; exact aB
 have af:=h.mF.keep (g2:=g) ⟨gH,aa.bX,aa.fy⟩;have e:(λs c=>g s≠none/\Fs s c)=Fs:=by
  funext s c;apply propext;refine ⟨λh=>h.2,λaW=>⟨λaF=>?_,aW⟩⟩;by_cases aB:s=t
  ·subst aB; exact lg c aW
  ·exact h.k2 s (by unfold cV; rw [if_neg aB]; exact aF) c aW
 rw [e] at af;exact af
theorem o'.extra {rs:Place->Prop}(h:o' P N rs g o g1) {t:Nat}{x:ab}(l7:∀ p,rs p->g p.root≠none) (aO:g t=none) (VF:g1 t=none) (aw:o.dst≠some t) (J:A7 rs g g1 o x):o' P N rs (cV g t x) o (cV g1 t x):=by
 intro w I T Fs bj a aP bc K Q di;have I7:cV g t x t=some x:=by simp [cV]
 have lk:∀ z q n m new,x≠.bL z q n m new:=by
  rcases J with ⟨r,path,z,n,N,cs,rfl,_⟩ | ⟨v,rfl⟩ | ⟨s,p,k,rfl,_⟩ | ⟨r,k,cs,rfl,_⟩ | ⟨z,n,cs,rfl,_⟩ | ⟨cs,rfl,_⟩ <;> simp
 have sG:cI w I T g Fs:=by
  have A':leaf x=true->cI w I T g Fs:=λvo=>by
   have:=bj.drop I7 vo;have e:del (cV g t x) t=g:=by
    funext s;unfold del cV;by_cases aB:s=t
    ·subst aB; simp [aO]
    ·simp [aB]
   rwa [e] at this
  rcases J with ⟨r,path,z,n,N,cs,rfl,_⟩ | ⟨v,rfl⟩ | ⟨s,p,k,rfl,_⟩ | ⟨r,k,cs,rfl,_⟩ | ⟨z,n,cs,rfl,_⟩ | ⟨cs,rfl,ue,gX⟩
  ·exact A' rfl
  ·exact A' rfl
  ·exact A' rfl
  ·exact A' rfl
  ·exact A' rfl
  ·obtain ⟨v,_,mV⟩:=bj.rel t _ I7;exact bj.Tq aO gX (ue.k2 (mV.gI (by simp)))
 obtain ⟨v,hv,mV⟩:=bj.rel t x I7;refine h w I T Fs sG a aP bc K Q λca w' aF sR Ow=>di ca w' ?_ sR λr path ao y ax lk=>?_
 rotate_left
 ·by_cases Og:r=t
  ·subst Og;exact absurd aO (l7 _ ao)
  ·exact Ow r path ao y (by simpa [bB,cV,Og] using ax) lk
 obtain ⟨cy,b9,I',b7,d_,b1⟩:=aF;have iq:ca.tmps[t]?=some v:=by rw [sR t aw,aP]; exact hv
 have jO:jF w' I' (dU w' ca.tmps g1) x v cw:=by
  rcases J with ⟨r,path,z,n,uW,cs,rfl,ao,zz,kB,V3⟩ | ⟨u,rfl⟩ | ⟨s,p,k,rfl,aB,xm,Wk⟩ | ⟨r,k,cs,rfl,kB,hk,r7,_⟩ | ⟨z,n,cs,rfl,mY⟩ | ⟨cs,rfl,ue,gX⟩
  ·obtain ⟨⟨aD,i_,cap,hp,rfl,lH⟩,_⟩:=(mV.gI (by simp)).nc;exact .tree (.ref rfl ⟨⟨aD,i_,cap,by rw [Ow r path ao _ zz (by simp)]; exact hp,rfl,lH⟩,.inl ⟨uW,cs,kB,V3⟩⟩ λ_ h=>h)
  ·obtain ⟨rfl,aa⟩:=(mV.gI (by simp)).hD;exact .tree (.lit aa λ_ h=>h)
  ·obtain ⟨⟨Dv,ad,aD,a2,rfl⟩,_⟩:=(mV.gI (by simp)).nP;have b1:s≠t:=by rintro rfl; rw [aO] at aB; cases aB
   obtain ⟨u,hu,mU⟩:=sG.rel s _ aB;obtain ⟨⟨adu,Z_,hp,iB,rfl⟩,_⟩:=(mU.gI (by simp)).nP;rw [aD] at hp;cases hp;rw [a2] at iB;cases iB;obtain ⟨wi,jR,H5⟩:=d_.rel s _ xm;have:ca.tmps[s]?=T[s]?:=by rw [sR s Wk,aP]
   rw [this,hu] at jR;cases jR;exact .tree (.ref rfl (H5.gI (by simp)).nP λ_ h=>h)
  ·obtain ⟨⟨Dv,ad,aD,a2,rfl⟩,_⟩:=(mV.gI (by simp)).nP;have dM:ca.tmps[r]?=T[r]?:=by rw [sR r r7,aP]
   have pF:∀ (w:World) (T:Array Value),dY w T ⟨r,[]⟩=T[r]?:=λw T=>by
    unfold dY; simp only; cases T[r]? <;> rfl
   exact .tree (.ref rfl ⟨⟨Dv,ad,by rw [pF,dM,<- pF w T]; exact aD,a2,rfl⟩,⟨.obj cs,by simp [bB,kB,ab.at],0,0,cs,.inr rfl,hk⟩⟩ λ_ h=>h)
  ·have so:∀ c,I c->w'.heap[c]?=w.heap[c]?:=λc aa=>b1.eR.block c (bj.lt c aa) λ⟨t',aR⟩=>sG.bk t' c aR aa;have H2:=(mV.gI (by simp)).bl mY (ρ':=dU w' ca.tmps g1);have lg:∀ c,¬ Fs t c:=by
    cases mV.gI (by simp) with
    | ref J=>simp [ab.isRef] at J
    | hK aN=>exact aN
    | bk aN=>exact aN
   exact .tree ((H2.frame so b1.more (λ_ _ h=>h) λc aa=>absurd aa (lg c)).empty lg)
  ·have so:∀ c,I c->w'.heap[c]?=w.heap[c]?:=λc aa=>b1.eR.block c (bj.lt c aa) λ⟨t',aR⟩=>sG.bk t' c aR aa;have lg:=ue.k2 (mV.gI (by simp));have H2:=(mV.gI (by simp)).bl ue.bl (ρ':=dU w' ca.tmps g1);exact .tree ((H2.frame so b1.more (λ_ _ h=>h) λc aa=>absurd aa (lg c)).empty lg)
 have nK:=d_.uD (d:=t) (x:=x) (v:=v) (F:=cw) VF (Array.getElem?_eq_some_iff.1 iq).1 jO (λ_ _ h=>h.elim) (λ_ h=>h.elim) (λz p n m new e=>absurd e (lk _ _ _ _ _));rw [P_ iq] at nK;refine ⟨cy,b9,I',_,nK,⟨b1.eR,b1.more,b1.new,λc aa=>?_⟩⟩;rcases wj aa with aR | aR
 ·exact b1.own c aR
 ·exact aR.elim
theorem iw.frame {g0 HL:aK}{r:Nat}{x:ab}(h:iw P N g0 o HL) (ao:g r=some x) (J:cU x) (hk:hF g g0) (aQ:g0 r=none) (h1:HL r=none) (aS:o.dst≠some r):o' P N (sm [r]) g o (cV HL r x):=by
 intro w I T Fs bj a aP bc K Q di;have sG:=bj.mF.keep hk;refine h w I T _ sG a aP bc K Q λca w' aF sR=>?_;obtain ⟨cy,b9,I',b7,d_,b1⟩:=aF;obtain ⟨u,hu,aY⟩:=bj.rel r x ao;have jR:ca.tmps[r]?=some u:=by rw [sR r aS,aP]; exact hu
 have lk:∀ z q n m new,x≠.bL z q n m new:=by rintro z q n m new rfl; cases J
 have off:∀ c,Fs r c->¬ ∃ t,(g0 t≠none/\Fs t c):=by
  rintro c aa ⟨t,lT,af⟩;have:=bj.eK t r c af aa;subst this;exact lT aQ
 have same:∀ c,Fs r c->w'.heap[c]?=w.heap[c]?:=λc aa=>b1.eR.block c (bj.j1 r c aa) (off c aa);have so:∀ c,I c->w'.heap[c]?=w.heap[c]?:=λc aa=>b1.eR.block c (bj.lt c aa) λ⟨t,_,aR⟩=>bj.bk t c aR aa;have nK:=d_.uD (d:=r) (x:=x) (v:=u) (F:=Fs r) h1 (Array.getElem?_eq_some_iff.1 jR).1 (.tree (((aY.gI lk).bl J).frame so b1.more (λ_ _ h=>h) same)) (λt c aa aW=>by
   rcases b1.own c ⟨t,aW⟩ with aR | aR
   ·exact off c aa aR
   ·have:=bj.j1 r c aa; omega) (λc aa hi=>by
   rcases b1.new c hi with aR | aR | aR
   ·exact bj.bk r c aa aR
   ·exact off c aa aR
   ·have:=bj.j1 r c aa; omega) (λz p n m new e=>absurd e (lk _ _ _ _ _))
 rw [P_ jR] at nK;refine di ca w' ⟨cy,b9,I',_,nK,⟨b1.eR.mono λb _ ⟨t,_,aR⟩=>⟨t,aR⟩,b1.more,λc aa=>?_,λc aa=>?_⟩⟩ sR λdm path ed y ax hyp=>?_
 ·rcases b1.new c aa with aR | ⟨t,_,aR⟩ | aR
  ·exact .inl aR
  ·exact .inr (.inl ⟨t,aR⟩)
  ·exact .inr (.inr aR)
 ·rcases wj aa with aR | aR
  ·rcases b1.own c aR with ⟨t,_,jb⟩ | jb
   ·exact .inl ⟨t,jb⟩
   ·exact .inr jb
  ·exact .inl ⟨r,aR⟩
 ·have ed:dm∈[r]:=ed;simp only [List.mem_singleton] at ed;subst ed;have hh:hF g (λt=>if t=dm then some x else none):=by
   refine ⟨λt y hd=>?_,λt y hd=>?_,λt z q n m new hd=>?_⟩
   all_goals
    by_cases e:t=dm
    case neg=>simp [e] at hd
   ·subst e; simp at hd; subst hd; exact ao
   ·subst e; simp at hd; subst hd; exact .bl J
   ·subst e; simp at hd; exact lk _ _ _ _ _ hd
  refine (bj.mF.keep hh).yw (T':=ca.tmps) (λt aw=>?_) (λt c aa=>?_) (p:=⟨dm,path⟩) (y:=y) ?_
  ·by_cases e:t=dm
   ·subst e; rw [sR t aS,aP]
   ·simp [e] at aw
  ·by_cases e:t=dm
   ·subst e; exact same c aa.2
   ·simp [e] at aa
  ·simp only [bB,if_true];simpa [bB,ao] using ax
end
end Go.Own
namespace Go.Own
open Go
abbrev Acc:=List (Nat × Nat × Option ab)
def dg (g0:aK) (A:Nat->Bool):Acc->aK
 | [],t=>g0 t
 | (k,d,r)::acc,t=>if d=t then (if A k then r else none) else dg g0 A acc t
def j2:Nat × Nat × Option ab->Option Place
 | (_,_,some (.bL _ p _ _ _))=>some p
 | _=>none
def pg (ops:Array Oper) (bd:List (List Nat)):Bool :=
 (List.range ops.size).all λk =>
  match ops[k]? with
  | none=>true
  | some o=>(o.after.all λe=>!Region.binds .any e||decide (e.on<k))&&(bd.getD k []).all λm=>decide (m<k)&&o.after.any λe=>Region.binds .any e&&(e.on == m||(bd.getD e.on []).contains m)
inductive iK (P:Program) (N:c5) (ops:Array Oper) (bd:List (List Nat)) (g0:aK) (i:Nat) (dW:Acc):Nat->Acc->Prop
 | nil:iK P N ops bd g0 i dW i dW
 | step {j:Nat}{acc:Acc}{o:Oper}{d:Nat}{r:Option ab}(h:iK P N ops bd g0 i dW j acc) (a1:ops[j]?=some o) (aS:o.dst=some d) (aO:g0 d=none) (aF:∀ e∈acc,e.2.1≠d) (jQ:N.ok d=true)
   (aB:qa P (dg g0 (λm=>(bd.getD j []).contains m) acc) ops o r):iK P N ops bd g0 i dW (j+1) ((j,d,r)::acc)
structure mM (P:Program) (N:c5) (ops:Array Oper) (bd:List (List Nat)) (g0:aK) (i:Nat) (dW:Acc):Prop where
 lt:∀ e∈dW,e.1<i
 free:∀ e∈dW,g0 e.2.1=none
 nd:(dW.map (·.2.1)).Nodup
 QC:∀ e∈dW,∀ cj∈dW,(e.1=cj.1\/e.2.1=cj.2.1)->e=cj
 st:∀ e∈dW,∃ gm,ops[e.1]?=some gm/\gm.dst=some e.2.1/\N.ok e.2.1=true/\qa P (dg g0 (λm=>(bd.getD e.1 []).contains m) dW) ops gm e.2.2
theorem mM.nil {P:Program}{N:c5}{ops:Array Oper}{bd:List (List Nat)}{g0:aK}{i:Nat}:mM P N ops bd g0 i []:=⟨by simp,by simp,by simp,by simp,by simp⟩
inductive su (P:Program) (N:c5) (ops:Array Oper) (bd:List (List Nat)):Nat->Acc->aK->aK->Prop
 | fin {i:Nat}{dW:Acc}{g:aK}{acc:Acc}(aB:iK P N ops bd g i dW ops.size acc) (gR:(acc.filterMap j2).Nodup) (fI:∀ t z q n m new,g t≠some (.bL z q n m new)):su P N ops bd i dW g (dg g (λ_=>true) acc)
 | wL {i j:Nat}{g g1 g':aK}{dW acc U:Acc}{o:Oper}{rs:Place->Prop}(aB:iK P N ops bd g i dW j acc) (gR:(acc.filterMap j2).Nodup) (fI:∀ t z q n m new,g t≠some (.bL z q n m new)) (a1:ops[j]?=some o) (hw:iy (dg g (λm=>(bd.getD j []).contains m) acc) ops o true)
   (he:o' P N rs (dg g (λm=>(bd.getD j []).contains m) acc) o g1) (l7:∀ p,rs p->g p.root≠none) (ga:U=acc.filter λe=>!(bd.getD j []).contains e.1) (J:∀ e∈U,∃ x,e.2.2=some x/\A7 rs (dg g (λm=>(bd.getD j []).contains m) acc) g1 o x) (h1:∀ e∈U,g1 e.2.1=none/\o.dst≠some e.2.1)
   (af:∀ e∈U,∃ gm,ops[e.1]?=some gm/\gm.dst=some e.2.1/\N.ok e.2.1=true/\qa P (dg g1 (λm=>(bd.getD e.1 []).contains m) U) ops gm e.2.2)
   (av:(List.range ops.size).all (λk=>decide (k<=j)||(bd.getD k []).contains j)=true) (ao:su P N ops bd (j+1) U g1 g'):su P N ops bd i dW g g'
theorem mG {g0:aK}{A:Nat->Bool}{acc:Acc}{t:Nat}(h:∀ e∈acc,e.2.1≠t):dg g0 A acc t=g0 t:=by
 induction acc with
 | nil=>rfl
 | cons e acc aU =>
  grind [dg]
theorem uN {g0:aK}{A:Nat->Bool}{acc:Acc}{t:Nat}{x:ab}(h:dg g0 A acc t=some x):(∃ e∈acc,e.2.1=t/\A e.1=true/\e.2.2=some x)\/((∀ e∈acc,e.2.1≠t)/\g0 t=some x):=by
 induction acc with
 | nil=>exact .inr ⟨by simp,h⟩
 | cons e acc aU =>
  grind [dg]
theorem K1 {g:aK}{A:Nat->Bool}{acc:Acc}(hu:∀ e∈acc,∀ cj∈acc,e.2.1=cj.2.1->e=cj) {e:Nat × Nat × Option ab}(he:e∈acc):dg g A acc e.2.1=if A e.1 then e.2.2 else none:=by
 induction acc with
 | nil=>cases he
 | cons a acc aU =>
  grind [dg]
section
variable {P:Program}{N:c5}{ops:Array Oper}{bd:List (List Nat)}{g0:aK}{i:Nat}
variable {dW:Acc}
theorem iK.le {j:Nat}{acc:Acc}(h:iK P N ops bd g0 i dW j acc) (ga:mM P N ops bd g0 i dW):i<=j/\∀ e∈acc,e.1<j:=by
 induction h with
 | nil=>exact ⟨Nat.le_refl _,ga.lt⟩
 | step _ _ _ _ _ _ _ aU =>
  grind
theorem iK.ge {j:Nat}{acc:Acc}(h:iK P N ops bd g0 i dW j acc) (ga:mM P N ops bd g0 i dW):∀ e∈acc,e∈dW\/i<=e.1:=by
 induction h with
 | nil=>exact λe he=>.inl he
 | step aB _ _ _ _ _ _ aU =>
  intro e he;rcases List.mem_cons.1 he with rfl | he
  ·exact .inr (aB.le ga).1
  grind
theorem iK.KU {j:Nat}{acc:Acc}(h:iK P N ops bd g0 i dW j acc):∀ e∈dW,e∈acc:=by
 induction h with
 | nil=>exact λe he=>he
 | step _ _ _ _ _ _ _ aU=>exact λe he=>by simp [aU e he]
theorem iK.fresh {j:Nat}{acc:Acc}(h:iK P N ops bd g0 i dW j acc) (ga:mM P N ops bd g0 i dW):∀ e∈acc,g0 e.2.1=none:=by
 induction h with
 | nil=>exact ga.free
 | step _ _ _ aO _ _ _ aU =>
  grind
theorem iK.nodup {j:Nat}{acc:Acc}(h:iK P N ops bd g0 i dW j acc) (ga:mM P N ops bd g0 i dW):(acc.map (·.2.1)).Nodup:=by
 induction h with
 | nil=>exact ga.nd
 | step _ _ _ _ aF _ _ aU =>
  grind
theorem iK.uniq {j:Nat}{acc:Acc}(h:iK P N ops bd g0 i dW j acc) (ga:mM P N ops bd g0 i dW):∀ {e cj:Nat × Nat × Option ab},e∈acc->cj∈acc->(e.1=cj.1\/e.2.1=cj.2.1)->e=cj:=by
 induction h with
 | nil=>exact λ{e cj} he h_ bY=>ga.QC e he cj h_ bY
 | @step j acc o d r aB _ _ _ aF _ _ aU =>
  intro e cj he h_ bY;rcases List.mem_cons.1 he with rfl | he <;> rcases List.mem_cons.1 h_ with rfl | h_
  ·rfl
  ·rcases bY with bY | bY
   ·have:=(aB.le ga).2 cj h_
    grind
   grind
  ·rcases bY with bY | bY
   ·have:=(aB.le ga).2 e he
    grind
   grind
  grind
theorem iK.at_mem {j:Nat}{acc:Acc}(h:iK P N ops bd g0 i dW j acc) (ga:mM P N ops bd g0 i dW) {A:Nat->Bool}{e:Nat × Nat × Option ab}(he:e∈acc):dg g0 A acc e.2.1=if A e.1 then e.2.2 else none :=
 K1 (λ_ J _ ax aR=>h.uniq ga J ax (.inr aR)) he
theorem iK.get {j:Nat}{acc:Acc}(h:iK P N ops bd g0 i dW j acc) (ga:mM P N ops bd g0 i dW):∀ e∈acc,∃ o D3,ops[e.1]?=some o/\o.dst=some e.2.1/\N.ok e.2.1=true/\qa P (dg g0 (λm=>(bd.getD e.1 []).contains m) D3) ops o e.2.2/\∀ e∈D3,e∈acc:=by
 induction h with
 | nil =>
  intro e he;obtain ⟨gm,h1,af,aI,bF⟩:=ga.st e he
  grind
 | @step j acc o d r aB a1 aS aO aF jQ b1 aU =>
  intro e he;rcases List.mem_cons.1 he with rfl | he
  ·grind
  grind
theorem iK.has {j:Nat}{acc:Acc}(h:iK P N ops bd g0 i dW j acc):∀ k,i<=k->k<j->∃ e∈acc,e.1=k:=by
 induction h with
 | nil=>intro k h1 af; omega
 | @step j acc o d r aB a1 aS aO aF jQ b1 aU =>
  grind [List.mem_cons_self]
theorem Ya {acc:Acc}(gR:(acc.filterMap j2).Nodup) {e cj:Nat × Nat × Option ab}{p:Place}(he:e∈acc) (h_:cj∈acc) (h:j2 e=some p) (aR:j2 cj=some p):e=cj:=by
 induction acc with
 | nil=>simp at he
 | cons a acc aU =>
  grind
def dQ (listed:Array Bool) (k:Nat):Bool:=listed.getD k false
def ht (ops:Array Oper) (listed:Array Bool):Nat:=((List.range ops.size).filter λk=>!dQ listed k).length
theorem wW {listed:Array Bool}{k:Nat}(hk:k<ops.size) (aj:dQ listed k=false) (fX:listed.size=ops.size):ht ops (listed.setIfInBounds k true)+1<=ht ops listed:=by
 unfold ht;have key:∀ l:List Nat,l.Nodup->((l.filter λj=>!dQ (listed.setIfInBounds k true) j).length+if k∈l then 1 else 0)=(l.filter λj=>!dQ listed j).length:=by
  intro l
  induction l with
  | nil=>intro _; simp
  | cons j l aU =>
   intro fp;have V4:=List.nodup_cons.1 fp;have adf:=aU V4.2;by_cases gY:j=k
   ·simp_all [dQ]
   ·have h1:dQ (listed.setIfInBounds k true) j=dQ listed j:=by simp [dQ,Array.getElem?_setIfInBounds_ne (Ne.symm gY)]
    grind
 grind
end
end Go.Own
namespace Go.Own
open Go
section
variable {P:Program}{N:c5}{ops:Array Oper}{bd:List (List Nat)}
def Down (bd:List (List Nat)) (listed:Array Bool):Prop:=∀ k,dQ listed k=true->∀ m∈bd.getD k [],dQ listed m=true
theorem LP (h:pg ops bd=true) {k:Nat}{o:Oper}(a1:ops[k]?=some o) :
  (∀ e∈o.after,Region.binds .any e=true->e.on<k)/\∀ m∈bd.getD k [],m<k/\∃ e∈o.after,Region.binds .any e=true/\(e.on=m\/m∈bd.getD e.on []):=by
 grind [pg,Array.all_eq_true_iff_forall_mem]
theorem ye {listed:Array Bool}{k:Nat}(h:k∈Region.ready .any ops listed):dQ listed k=false/\∃ o,ops[k]?=some o/\∀ e∈o.after,Region.binds .any e=true->dQ listed e.on=true:=by
 grind [mem_ready,dQ]
theorem Kt (er:pg ops bd=true) {listed:Array Bool}(aS:Down bd listed) {k:Nat}(h:k∈Region.ready .any ops listed):∀ m∈bd.getD k [],dQ listed m=true:=by
 obtain ⟨_,o,a1,af⟩:=ye h;intro m hm;obtain ⟨_,e,he,av,aI⟩:=(LP er a1).2 m hm;rcases aI with rfl | aI
 ·grind
 ·exact aS e.on (af e he av) m aI
theorem PI (er:pg ops bd=true) {listed:Array Bool}(fX:listed.size=ops.size):∀ k,k<ops.size->dQ listed k=false->Region.ready .any ops listed≠[]:=by
 intro k
 induction k using Nat.strongRecOn with
 | _ k aU =>
  intro hk aj;by_cases hex:∃ j,j<k/\dQ listed j=false
  ·grind
  ·have nH:k∈Region.ready .any ops listed:=by
    refine mem_ready.2 ⟨?_,ops[k],Array.getElem?_eq_getElem hk,λe he av=>?_⟩
    ·grind [dQ]
    ·have aT:=(LP er (Array.getElem?_eq_getElem hk)).1 e he av
     grind [dQ]
   grind
theorem Dw {g0:aK}{A B:Nat->Bool}{acc:Acc}{t:Nat}(h:∀ e∈acc,e.2.1=t->A e.1=B e.1):dg g0 A acc t=dg g0 B acc t:=by
 induction acc with
 | nil=>rfl
 | cons e acc aU =>
  grind [dg]
theorem DU {listed:Array Bool}{k j:Nat}(hk:k<listed.size):dQ (listed.setIfInBounds k true) j=if j=k then true else dQ listed j:=by
 by_cases gY:j=k
 all_goals simp_all [dQ,Ne.symm]
theorem ZO {g0:aK}{i j:Nat}{acc U dW:Acc}(aB:iK P N ops bd g0 i dW j acc) (cn:mM P N ops bd g0 i dW) {A S:Nat->Bool}(ga:U=acc.filter λe=>!A e.1) (Ul:∀ e∈acc,A e.1=true->S e.1=true):dg g0 S acc=dg (dg g0 A acc) S U:=by
 subst ga;funext t;by_cases hex:∃ e∈acc,e.2.1=t
 ·obtain ⟨e,he,rfl⟩:=hex;rw [aB.at_mem cn he];by_cases er:A e.1=true
  ·rw [mG,aB.at_mem cn he,if_pos er,if_pos (Ul e he er)];intro cj h_ h;obtain ⟨h1,af⟩:=List.mem_filter.1 h_;have:=aB.uniq cn h1 he (.inr h)
   grind
  ·rw [K1 (λx J y ax h=>aB.uniq cn (List.mem_filter.1 J).1 (List.mem_filter.1 ax).1 (.inr h)) (List.mem_filter.2 ⟨he,by simpa using er⟩)]
 grind [mG]
theorem dh.mono {g g':aK}(aO:∀ t x,g t=some x->g' t=some x) {x:ab}(h:dh g x):dh g' x:=by
 induction h with
 | bl h=>exact .bl h
 | ref J h=>exact .ref J (h.mono aO)
 | own _ aU=>exact .own aU
 | obj _ aU=>exact .obj aU
 | agg _ aU=>exact .agg aU
 | bV _ aU=>exact .bV aU
 | cX _ _ gy gk=>exact .cX gy gk
 | bL au _ aU=>exact .bL (au.mono aO) aU
theorem MF {mS g1:aK}{o:Oper}{S:Nat->Bool}{rs:Place->Prop}(h:o' P N rs mS o g1) (l7:∀ p,rs p->mS p.root≠none):∀ (U:Acc),(∀ e∈U,∃ x,e.2.2=some x/\A7 rs mS g1 o x)->(∀ e∈U,mS e.2.1=none/\g1 e.2.1=none/\o.dst≠some e.2.1)->(U.map (·.2.1)).Nodup->o' P N rs (dg mS S U) o (dg g1 S U)
 | [],_,_,_=>h
 | (k,d,r)::U,J,h1,fp=>by
  simp only [List.map_cons,List.nodup_cons] at fp;have aU:=MF (S:=S) h l7 U (λe he=>J e (by simp [he])) (λe he=>h1 e (by simp [he])) fp.2;obtain ⟨x,e,b1⟩:=J (k,d,r) (by simp);simp only at e;subst e;obtain ⟨aD,a2,a3⟩:=h1 (k,d,some x) (by simp);simp only at aD a2 a3;have r6:∀ e∈U,e.2.1≠d:=λe he aR=>fp.1 (List.mem_map.2 ⟨e,he,aR⟩);cases bj:S k with
  | true =>
   have e:∀ g:aK,dg g S ((k,d,some x)::U)=cV (dg g S U) d x:=λg=>by
    funext t;simp only [dg,cV,bj,if_true];by_cases aS:d=t
    ·rw [if_pos aS,if_pos aS.symm]
    ·rw [if_neg aS,if_neg (Ne.symm aS)]
   rw [e,e];have FA:∀ r,mS r≠none->∀ e∈U,e.2.1≠r:=λr ao e he aR=>by
    have:=(h1 e (by simp [he])).1;rw [aR] at this;exact ao this
   have XV:∀ r,g1 r≠none->∀ e∈U,e.2.1≠r:=λr ao e he aR=>by
    have:=(h1 e (by simp [he])).2.1;rw [aR] at this;exact ao this
   refine aU.extra (λr ao=>by rw [mG (FA r.root (l7 r ao))]; exact l7 r ao) (by rw [mG r6]; exact aD) (by rw [mG r6]; exact a2) a3 ?_;rcases b1 with ⟨r,path,z,n,uW,cs,rfl,hp,iB,lH,D8⟩ | ⟨v,rfl⟩ | ⟨s,p,m,rfl,hp,iB,lH⟩ | ⟨s,m,cs,rfl,hp,iB,lH,cs',D8,R7⟩ | ⟨z,n,cs,rfl,hp⟩ | ⟨cs,rfl,hp,iB⟩
   ·refine .inl ⟨r,path,z,n,uW,cs,rfl,hp,?_,?_,D8⟩
    ·have:mS r≠none:=l7 _ hp;simpa [bB,mG (FA r this)] using iB
    ·have:g1 r≠none:=λe=>by simp [bB,e] at lH
     simpa [bB,mG (XV r this)] using lH
   ·exact .inr (.inl ⟨v,rfl⟩)
   ·refine .inr (.inr (.inl ⟨s,p,m,rfl,?_,?_,lH⟩))
    ·rw [mG]; exact hp;intro e he aR;have:=(h1 e (by simp [he])).1;rw [aR,hp] at this; cases this
    ·rw [mG]; exact iB;intro e he aR;have:=(h1 e (by simp [he])).2.1;rw [aR,iB] at this; cases this
   ·refine .inr (.inr (.inr (.inl ⟨s,m,cs,rfl,?_,iB,lH,cs',?_,R7⟩)))
    ·rw [mG]; exact hp;intro e he aR;have:=(h1 e (by simp [he])).2.1;rw [aR,hp] at this; cases this
    ·rw [mG (FA s (by rw [D8]; simp))]; exact D8
   ·exact .inr (.inr (.inr (.inr (.inl ⟨z,n,cs,rfl,hp⟩))))
   ·refine .inr (.inr (.inr (.inr (.inr ⟨cs,rfl,hp,?_⟩))));have hle:∀ t y,mS t=some y->dg mS S U t=some y:=λt y ax=>by rw [mG (FA t (by rw [ax]; simp))]; exact ax
    refine ⟨λt y ax=>?_,λt z q n m new ax=>?_⟩
    ·rcases uN ax with ⟨cj,h_,_,_,Iw⟩ | ⟨_,ax⟩
     ·obtain ⟨y',Bn,B9⟩:=J cj (by simp [h_]);rw [Iw] at Bn; cases Bn;rcases B9 with ⟨r,path,z,n,uW,cs,rfl,c1,c2,jU,c4⟩ | ⟨v,rfl⟩ | ⟨s,p,m,rfl,c1,_⟩ | ⟨s,m,cs,rfl,_,_,_,cs',c4,kP⟩ | ⟨z,n,cs,rfl,c1⟩ | ⟨cs,rfl,c1,_⟩
      ·exact .ref rfl (.inl ⟨uW,cs,kO hle c2,c4⟩)
      ·exact .bl .lit
      ·exact dh.mono hle (iB.bX s _ c1)
      ·exact .ref rfl ⟨.obj cs',by simp [bB,hle s _ c4,ab.at],0,0,cs',.inr rfl,kP⟩
      ·exact .bl c1
      ·exact .bl c1.bl
     ·exact dh.mono hle (iB.bX t y ax)
    ·rcases uN ax with ⟨cj,h_,_,_,Iw⟩ | ⟨_,ax⟩
     ·obtain ⟨y',Bn,B9⟩:=J cj (by simp [h_]);rw [Iw] at Bn; cases Bn;rcases B9 with ⟨r,path,z,n,uW,cs,h,_⟩ | ⟨v,h⟩ | ⟨s,p,m,h,_⟩ | ⟨s,m,cs,h,_⟩ | ⟨z,n,cs,h,_⟩ | ⟨cs,h,_⟩ <;> cases h
     ·exact iB.fy _ _ _ _ _ _ ax
  | false =>
   have e:∀ g:aK,g d=none->dg g S ((k,d,some x)::U)=dg g S U:=λg aO=>by
    funext t;simp only [dg,bj];by_cases aS:d=t
    ·subst aS; rw [if_pos rfl,mG r6,aO]; rfl
    ·rw [if_neg aS]
   rw [e mS aD,e g1 a2];exact aU
theorem PG (er:pg ops bd=true) {g0:aK}{i j:Nat}{acc dW:Acc}(aB:iK P N ops bd g0 i dW j acc) (cn:mM P N ops bd g0 i dW) (gR:(acc.filterMap j2).Nodup) (fI:∀ t z q n m new,g0 t≠some (.bL z q n m new)) {listed:Array Bool}(fX:listed.size=ops.size) (aS:Down bd listed)
  {a:Act}{w:World}{I:bb}{Fs:Nat->bb}(bj:cI w I a.tmps (dg g0 (dQ listed) acc) Fs) (bc:a.tmps.size=N.size) {e:Nat × Nat × Option ab}(he:e∈acc) (hk:e.1∈Region.ready .any ops listed) {K:Act->World->Prop}{Q:Exit->Act->World->Prop}
  (di:∀ ca w' I' b7,ca.defers=a.defers->hE N a.tmps ca.tmps->cI w' I' ca.tmps (dg g0 (dQ (listed.setIfInBounds e.1 true)) acc) b7->kq w I (λc=>∃ t,Fs t c) w' I' (λc=>∃ t,b7 t c)->K ca w'):wpOp P ops Q e.1 K a w:=by
 obtain ⟨fv,lu,xl,_⟩:=ye hk;have zu:=(Array.getElem?_eq_some_iff.1 xl).1;have BG:=Kt er aS hk;obtain ⟨o,D3,a1,EL,jQ,b1,gH⟩:=aB.get cn e he;obtain ⟨k,d,r⟩:=e;simp only at *;have hle:oA (dg g0 (λm=>(bd.getD k []).contains m) D3) (dg g0 (dQ listed) acc):=by
  intro t x J;rcases uN J with ⟨e,he,rfl,Et,hex⟩ | ⟨r6,aO⟩
  ·rw [aB.at_mem cn (gH e he),BG e.1 (by simpa using Et)];exact hex
  ·rw [mG λe he acE=>?_]
   ·exact aO
   ·have:=aB.fresh cn e he
    grind
 have e8:∀ z p n m new,r=some (.bL z p n m new)->∀ t bC cH m' c3,dg g0 (dQ listed) acc t≠some (.bL bC p cH m' c3):=by
  intro z p n m new ao t bC cH m' c3 aw;rcases uN aw with ⟨e,h_,_,Et,hex⟩ | ⟨_,aO⟩
  ·obtain ⟨k1,Mx,dm⟩:=e;have:=Ya gR (p:=p) he h_ (by rw [ao]; rfl) (by simp only at hex; rw [hex]; rfl)
   grind
  grind
 have B9:=b1.mono hle e8;have vk:dg g0 (dQ listed) acc d=none:=by
  have:=aB.at_mem cn (A:=dQ listed) he
  grind
 unfold wpOp;simp only [a1];refine B9.sound bj rfl bc EL vk jQ λca w' aF=>?_;obtain ⟨cy,b9,I',b7,d_,qq⟩:=aF;have h8:∀ j,dQ (listed.setIfInBounds k true) j=if j=k then true else dQ listed j:=λj=>DU (by omega)
 have c9:dg g0 (dQ (listed.setIfInBounds k true)) acc=yc (dg g0 (dQ listed) acc) d r:=by
  funext t;by_cases vt:t=d
  ·subst vt;have h1:=aB.at_mem cn (A:=dQ (listed.setIfInBounds k true)) he;simp only [h8 k,if_true] at h1;rw [h1];cases r with
   | none=>simp only [yc]; exact vk.symm
   | some x=>simp [yc,cV]
  ·have h1:dg g0 (dQ (listed.setIfInBounds k true)) acc t=dg g0 (dQ listed) acc t:=Dw λe h_ het=>by
    rw [h8 e.1,if_neg];intro VD;have:=aB.uniq cn h_ he (.inl VD)
    grind
   rw [h1];cases r with
   | none=>rfl
   | some x=>simp [yc,cV,vt]
 grind
theorem Ht (er:pg ops bd=true) {listed:Array Bool}(fX:listed.size=ops.size) (aS:Down bd listed) {k:Nat}(hk:k∈Region.ready .any ops listed):Down bd (listed.setIfInBounds k true):=by
 obtain ⟨fv,lu,xl,_⟩:=ye hk;have zu:=(Array.getElem?_eq_some_iff.1 xl).1;have BG:=Kt er aS hk;have h8:∀ q,dQ (listed.setIfInBounds k true) q=if q=k then true else dQ listed q:=λq=>DU (by omega)
 intro m hm q bg;rw [h8] at hm ⊢;split
 ·rfl
 ·split at hm
  ·grind
  ·exact aS m hm q bg
theorem iK.entry {g0:aK}{i j:Nat}{acc dW:Acc}(aB:iK P N ops bd g0 i dW j acc) {listed:Array Bool}(aT:∀ k,k<i->(∀ e∈dW,e.1≠k)->dQ listed k=true) {k:Nat}(EH:k<j) (fv:dQ listed k=false):∃ e∈acc,e.1=k:=by
 rcases Nat.lt_or_ge k i with h | h
 ·rcases Classical.em (∃ e∈dW,e.1=k) with ⟨e,he,aR⟩ | aR
  ·exact ⟨e,aB.KU e he,aR⟩
  grind
 ·exact aB.has k h EH
theorem su.sound (er:pg ops bd=true) {i:Nat}{dW:Acc}{g g':aK}(h:su P N ops bd i dW g g'):mM P N ops bd g i dW->∀ {Q:Exit->Act->World->Prop}(fuel:Nat) (listed:Array Bool) (a:Act) (w:World) (I:bb) (Fs:Nat->bb),ht ops listed<=fuel->listed.size=ops.size->(∀ k,k<i->(∀ e∈dW,e.1≠k)->dQ listed k=true)->(∀ k,i<=k->dQ listed k=false)->Down bd listed ->
  cI w I a.tmps (dg g (dQ listed) dW) Fs->a.tmps.size=N.size->(∀ ca w',h7 N a w I Fs g' ca w'->Q .normal ca w')->wpAny P .any ops Q fuel listed a w:=by
 have start:∀ {g:aK}{i j:Nat}{acc dW:Acc}{listed:Array Bool},iK P N ops bd g i dW j acc->mM P N ops bd g i dW->(∀ k,i<=k->dQ listed k=false)->dg g (dQ listed) acc=dg g (dQ listed) dW:=by
  intro g i j acc dW listed aB cn dV;funext t;by_cases hex:∃ e∈acc,e.2.1=t
  ·obtain ⟨e,he,rfl⟩:=hex;rw [aB.at_mem cn he];rcases aB.ge cn e he with h | h
   ·rw [K1 (λx J y ax aR=>cn.QC x J y ax (.inr aR)) h]
   ·rw [dV e.1 h];by_cases NO:∃ cj∈dW,cj.2.1=e.2.1
    ·obtain ⟨cj,h_,aR⟩:=NO;have:=aB.uniq cn (aB.KU cj h_) he (.inr aR);subst this;have:=cn.lt cj h_;omega
    ·rw [mG λcj h_ aR=>NO ⟨cj,h_,aR⟩,aB.fresh cn e he]; rfl
  ·rw [mG λe he h=>hex ⟨e,he,h⟩,mG λe he h=>hex ⟨e,aB.KU e he,h⟩]
 induction h with
 | @fin i dW g acc aB gR fI =>
  intro cn Q fuel listed a w I Fs aa fX aT dV aS bj bc dP;rw [<- start aB cn dV] at bj;clear dV;revert listed a w I Fs
  induction fuel with
  | zero =>
   intro listed a w I Fs aa fX aT aS bj bc dP;have hQ:∀ k,k<ops.size->dQ listed k=true:=λk hk=>by
    cases aj:dQ listed k with
    | true=>rfl
    | false=>have:=wW (ops:=ops) (listed:=listed) (k:=k) hk aj fX; omega
   refine wpAny_done ?_ (dP _ _ ⟨rfl,hE.refl,I,Fs,?_,kq.refl _ _ _⟩) 0
   ·cases ao:Region.ready .any ops listed with
    | nil=>rfl
    | cons k l =>
     have hk:k∈Region.ready .any ops listed:=by rw [ao]; simp
     obtain ⟨fv,o,a1,_⟩:=ye hk
     grind
   ·have:dg g (dQ listed) acc=dg g (λ_=>true) acc:=funext λt=>Dw λe he _=>hQ e.1 ((aB.le cn).2 e he)
    grind
  | succ fuel aU =>
   intro listed a w I Fs aa fX aT aS bj bc dP;by_cases hQ:∀ k,k<ops.size->dQ listed k=true
   ·refine wpAny_done ?_ (dP _ _ ⟨rfl,hE.refl,I,Fs,?_,kq.refl _ _ _⟩) _
    ·cases ao:Region.ready .any ops listed with
     | nil=>rfl
     | cons k l =>
      have hk:k∈Region.ready .any ops listed:=by rw [ao]; simp
      obtain ⟨fv,o,a1,_⟩:=ye hk
      grind
    ·have:dg g (dQ listed) acc=dg g (λ_=>true) acc:=funext λt=>Dw λe he _=>hQ e.1 ((aB.le cn).2 e he)
     grind
   ·obtain ⟨k0,lO⟩:=Classical.not_forall.1 hQ;obtain ⟨VP,VQ⟩:=Classical.not_imp.1 lO;refine ⟨λao=>absurd ao (PI er fX k0 VP (by simpa using VQ)),λk hk=>?_⟩;obtain ⟨fv,lu,xl,_⟩:=ye hk;have zu:=(Array.getElem?_eq_some_iff.1 xl).1;obtain ⟨e,he,rfl⟩:=aB.entry aT zu fv;have Vu:=wW (ops:=ops) (listed:=listed) (k:=e.1) zu fv fX;refine PG er aB cn gR fI fX aS bj bc he hk λca w' I' b7 cy b9 d_ qq=>?_;refine aU _ ca w' I' b7 (by omega) (by simpa using fX) (λm hm dq=>?_) (Ht er fX aS hk) d_ (b9.1.trans bc) λa2 hA af=>dP _ _ (h7.trans cy b9 qq af)
    grind [DU]
 | @wL i j g g1 g' dW acc U o rs aB gR fI a1 hw he l7 ga J h1 af av _ Xg =>
  intro cn Q fuel listed a w I Fs aa fX aT dV aS bj bc dP;have EG:j<ops.size:=(Array.getElem?_eq_some_iff.1 a1).1;have xa:∀ k,j<k->k<ops.size->j∈bd.getD k []:=λk hk zu=>by
   grind
  have BS:∀ e∈U,e∈acc/\(bd.getD j []).contains e.1=false:=λe he=>by
   grind
  have fp:(U.map (·.2.1)).Nodup:=by
   rw [ga];exact (List.filter_sublist.map _).nodup (aB.nodup cn)
  have VG:∀ e∈U,dg g (λm=>(bd.getD j []).contains m) acc e.2.1=none:=λe he=>by
   rw [aB.at_mem cn (BS e he).1,(BS e he).2];rfl
  have BA:mM P N ops bd g1 (j+1) U:=⟨λe he=>by have:=(aB.le cn).2 e (BS e he).1; omega,λe he=>(h1 e he).1,fp,λe he cj h_ h=>aB.uniq cn (BS e he).1 (BS cj h_).1 h,af⟩;have acI:∀ k,j<=k->dQ listed k=false:=λk hk=>dV k (Nat.le_trans (aB.le cn).1 hk);rw [<- start aB cn dV] at bj;clear dV;revert listed a w I Fs
  induction fuel with
  | zero =>
   intro listed a w I Fs aa fX aT aS bj bc dP dV;have:=wW (ops:=ops) (listed:=listed) (k:=j) EG (dV j (Nat.le_refl _)) fX;omega
  | succ fuel Xf =>
   intro listed a w I Fs aa fX aT aS bj bc dP dV;have eZ:=dV j (Nat.le_refl _);refine ⟨λao=>absurd ao (PI er fX j EG eZ),λk hk=>?_⟩;obtain ⟨fv,lu,xl,_⟩:=ye hk;have zu:=(Array.getElem?_eq_some_iff.1 xl).1;have BG:=Kt er aS hk;have h8:∀ q,dQ (listed.setIfInBounds k true) q=if q=k then true else dQ listed q:=λq=>DU (by omega)
   have Vu:=wW (ops:=ops) (listed:=listed) (k:=k) (by omega) fv fX;rcases Nat.lt_trichotomy k j with EH | rfl | EH
   ·obtain ⟨e,NN,rfl⟩:=aB.entry aT EH fv;refine PG er aB cn gR fI fX aS bj bc NN hk λca w' I' b7 cy b9 d_ qq=>?_;refine Xf _ ca w' I' b7 (by omega) (by simpa using fX) (λm hm dq=>?_) (Ht er fX aS hk) d_ (b9.1.trans bc) (λa2 hA af=>dP _ _ (h7.trans cy b9 qq af)) λm hm=>?_
    ·grind
    grind
   ·have TB:=ZO (A:=λm=>(bd.getD k []).contains m) (S:=dQ listed) aB cn ga λe he er=>BG e.1 (by simpa using er);have Wg:∀ r:Place,rs r->dg g (λm=>(bd.getD k []).contains m) acc r.root≠none:=λr ao=>by
     rw [mG]
     ·grind
     ·intro e he aR;have:=aB.fresh cn e he
      grind
    have VC:=MF (S:=dQ listed) he Wg U J (λe he=>⟨VG e he,h1 e he⟩) fp;have hle:oA (dg g (λm=>(bd.getD k []).contains m) acc) (dg g (dQ listed) acc):=by
     intro t x J;rcases uN J with ⟨e,he,rfl,Et,hex⟩ | ⟨r6,aO⟩
     ·rw [aB.at_mem cn he,BG e.1 (by simpa using Et)]; exact hex
     grind [mG]
    unfold wpOp;simp only [a1,(iy.mono hle hw).sound bj,if_true];refine .inl (VC w I a.tmps Fs (by rw [<- TB]; exact bj) a rfl bc _ _ λca w' aF _ _=>?_);obtain ⟨cy,b9,I',b7,d_,qq⟩:=aF;refine Xg BA fuel (listed.setIfInBounds k true) ca w' I' b7 (by omega) (by simpa using fX) (λm hm dq=>?_) (λm hm=>?_) (Ht er fX aS hk) ?_ (b9.1.trans bc) λa2 hA af=>dP _ _ (h7.trans cy b9 qq af)
    ·rw [h8];split
     ·rfl
     ·rename_i ac1;cases vp:dQ listed m with
      | true=>rfl
      | false =>
       exfalso;obtain ⟨e,NN,rfl⟩:=aB.entry aT (show m<k by omega) vp
       grind
    ·grind
    ·have:dg g1 (dQ (listed.setIfInBounds k true)) U=dg g1 (dQ listed) U:=funext λt=>Dw λe he _=>by
      grind
     grind
   grind
end
end Go.Own
namespace Go.Own
open Go
section
variable {P:Program}{N:c5}
def gi (P:Program) (N:c5) (c:Code) (g:aK) (e:Exit) (g':aK):Prop :=
 ∀ ⦃Q:Exit->Act->World->Prop⦄ ⦃a:Act⦄ ⦃w:World⦄ ⦃I:bb⦄ ⦃Fs:Nat->bb⦄,cI w I a.tmps g Fs->a.tmps.size=N.size->(∀ ca w',h7 N a w I Fs g' ca w'->Q e ca w')->c.wp P Q a w
theorem gi.skip {g:aK}:gi P N .skip g .normal g:=λ_ _ _ _ _ bj _ dP=>wp_skip (dP _ _ ⟨rfl,hE.refl,_,_,bj,kq.refl _ _ _⟩)
theorem gi.ret {g:aK}:gi P N .ret g .ret g:=λ_ _ _ _ _ bj _ dP=>wp_ret (dP _ _ ⟨rfl,hE.refl,_,_,bj,kq.refl _ _ _⟩)
theorem gi.exit {g:aK}{id:Nat}:gi P N (.exit id) g (.exit id) g:=λ_ _ _ _ _ bj _ dP=>wp_exit (dP _ _ ⟨rfl,hE.refl,_,_,bj,kq.refl _ _ _⟩)
theorem gi.seq {x y:Code}{g g1 g':aK}{e:Exit}(h1:gi P N x g .normal g1) (af:gi P N y g1 e g'):gi P N (.seq x y) g e g':=by
 intro Q a w I Fs bj bc dP;refine wp_seq (h1 bj bc λaD ic aF=>?_);obtain ⟨cy,b9,I',b7,d_,b1⟩:=aF;exact af d_ (b9.1.trans bc) λa2 hA ob=>dP _ _ (h7.trans cy b9 b1 ob)
theorem gi.cond {c:Operand}{x y:Code}{g g':aK}{e:Exit}{b:Bool}(aa:br g c=some (.lit (.bool b))) (h:gi P N (if b then x else y) g e g'):gi P N (.cond c x y) g e g':=by
 intro Q a w I Fs bj bc dP;exact wp_cond (t:=b) (kh bj aa rfl).hD.1 (h bj bc dP)
theorem gi.Ms {c:Operand}{x y:Code}{g g':aK}{e:Exit}(aa:br g c=some (.lit (.bool true))) (h:gi P N x g e g'):gi P N (.cond c x y) g e g':=gi.cond aa h
theorem gi.Mq {c:Operand}{x y:Code}{g g':aK}{e:Exit}(aa:br g c=some (.lit (.bool false))) (h:gi P N y g e g'):gi P N (.cond c x y) g e g':=gi.cond aa h
theorem gi.block {id:Nat}{c:Code}{g g':aK}(h:gi P N c g .normal g'):gi P N (.block id c) g .normal g' :=
 λ_ _ _ _ _ bj bc dP=>wp_block (h bj bc λaD ic aF=>dP aD ic aF)
def DT (P:Program) (c:Code) (Q:Exit->Act->World->Prop) (a:Act) (w:World):Prop :=
 ∀ (b:Frame) (k:List Item) (cs:List Frame),∃ e ca w',Q e ca w'/\Arrives P (lone (b.at a (.code c::.inLoop c::k)) cs w) b k cs e ca w'
def tj (P:Program) (N:c5) (c:Code) (g:aK) (e:Exit) (g':aK):Prop :=
 ∀ ⦃Q:Exit->Act->World->Prop⦄ ⦃a:Act⦄ ⦃w:World⦄ ⦃I:bb⦄ ⦃Fs:Nat->bb⦄,cI w I a.tmps g Fs->a.tmps.size=N.size->(∀ ca w',h7 N a w I Fs g' ca w'->Q e ca w')->DT P c Q a w
theorem JR {c:Code}{Q:Exit->Act->World->Prop}{a:Act}{w:World}(h:c.wp P (Exit.then (DT P c Q) Q) a w):DT P c Q a w:=by
 intro b k cs;obtain ⟨e,A9,DB,bg,kd⟩:=h b (.inLoop c::k) cs;cases e with
 | normal =>
  obtain ⟨TC,R6,ZT,Wb,UZ⟩:=bg b k cs;exact ⟨TC,R6,ZT,Wb,.of_steps (Steps.trans kd (.one step_inLoop)) UZ⟩
 | exit id=>exact ⟨_,A9,DB,bg,.pass (x:=.inLoop c) rfl (λ_ _=>.inl (by simp)) kd⟩
 | goto l=>exact ⟨_,A9,DB,bg,.pass (x:=.inLoop c) rfl (λ_ _=>.inl (by simp)) kd⟩
 | ret=>exact ⟨_,A9,DB,bg,.pass (x:=.inLoop c) rfl (λ_ _=>.inl (by simp)) kd⟩
 | panic cd=>exact ⟨_,A9,DB,bg,.pass (x:=.inLoop c) rfl (λ_ _=>.inl (by simp)) kd⟩
 | outgrown=>exact ⟨_,A9,DB,bg,.pass (x:=.inLoop c) rfl (λ_ _=>.inl (by simp)) kd⟩
theorem gi.loop {c:Code}{g g':aK}{e:Exit}(h:tj P N c g e g'):gi P N (.loop c) g e g':=by
 intro Q a w I Fs bj bc dP b k cs;obtain ⟨e,ca,w',bg,kd⟩:=h bj bc dP b k cs;exact ⟨e,ca,w',bg,.of_steps (.one step_loop) kd⟩
theorem tj.step {c:Code}{g g1 g':aK}{e:Exit}(h1:gi P N c g .normal g1) (af:tj P N c g1 e g'):tj P N c g e g':=by
 intro Q a w I Fs bj bc dP;refine JR (h1 bj bc λaD ic aF=>?_);obtain ⟨cy,b9,I',b7,d_,b1⟩:=aF;exact af d_ (b9.1.trans bc) λa2 hA ob=>dP _ _ (h7.trans cy b9 b1 ob)
theorem tj.out {c:Code}{g g':aK}{e:Exit}(h:gi P N c g e g') (he:e≠.normal):tj P N c g e g':=by
 intro Q a w I Fs bj bc dP;refine JR (h bj bc λaD ic aF=>?_);cases e with
 | normal=>exact absurd rfl he
 | _=>exact dP _ _ aF
theorem gi.region {id:Nat}{ops:Array Oper}{g g':aK}(h:oC P N ops (List.range ops.size) g g'):gi P N (.region id ops false) g .normal g' :=
 λ_ _ _ _ _ bj bc dP=>wp_region (h.sound bj bc dP)
theorem gi.draw {id:Nat}{ops:Array Oper}{bd:List (List Nat)}{g g':aK}(hm:P.follows .mixedOrders=true) (er:pg ops bd=true) (h:su P N ops bd 0 [] g g'):gi P N (.region id ops true) g .normal g':=by
 intro Q a w I Fs bj bc dP;refine wp_region_any hm ?_;have d_:cI w.drew I a.tmps g Fs:=bj.world (λ_ _ _=>rfl) (λ_ _=>rfl) (Nat.le_refl _);have hQ:∀ k,dQ (Array.replicate ops.size false) k=false:=by
  intro k;unfold dQ;rcases Nat.lt_or_ge k ops.size with h | h
  ·simp [h]
  grind
 refine h.sound er .nil ops.size (Array.replicate ops.size false) a w.drew I Fs ?_ (by simp) (λk hk=>by omega) (λk _=>hQ k) (λk hk=>by rw [hQ] at hk; cases hk) d_ bc λca w' aF=>dP _ _ ?_
 ·grind [ht]
 ·obtain ⟨cy,b9,I',b7,h9,b1⟩:=aF;exact ⟨cy,b9,I',b7,h9,⟨⟨b1.eR.os,b1.eR.tape,b1.eR.output,b1.eR.size,b1.eR.block,b1.eR.dO,Nat.le_trans (Nat.le_succ _) b1.eR.w0⟩,b1.more,b1.new,b1.own⟩⟩
inductive pf:ab->ab->Prop
 | refl {x:ab}:pf x x
 | dead {x:ab}(h:kM x\/cU x):pf x .dead
 | pP {z:Nat}:pf .aL (.own z 0 [])
 | pO {z:Nat}:pf .aL (.bk z 0 [])
 | obj {cs cs':List ab}(aj:cs'.length=cs.length) (h:∀ (k:Nat) (x y:ab),cs[k]?=some x->cs'[k]?=some y->pf x y):pf (.obj cs) (.obj cs')
 | own {z n:Nat}{cs cs':List ab}(aj:cs'.length=cs.length) (h:∀ (k:Nat) (x y:ab),cs[k]?=some x->cs'[k]?=some y->pf x y):pf (.own z n cs) (.own z n cs')
theorem R.eX {w:World}{I:bb}{ρ:ab->Value->Prop}{x x':ab}(h:pf x x'):∀ {v:Value}{F:bb},R w I ρ x v F->∃ c8,R w I ρ x' v c8/\∀ c,c8 c->F c:=by
 induction h with
 | refl=>exact λaY=>⟨_,aY,λ_ h=>h⟩
 | dead=>exact λaY=>⟨cw,.dead λ_ h=>h,λ_ h=>h.elim⟩
 | pP =>
  intro v F aY;rw [aY.sf];exact ⟨cw,.own (e:=0) (us:=[]) (Fs:=λ_=>cw) ⟨by simp,.inl ⟨rfl,rfl⟩⟩ rfl (by simp) (by simp) (λ_ _ _ _ _ h=>h.elim) (λ_ _ _ h=>h.elim) λc=>⟨λh=>h.elim,λh=>h.elim (λh=>by simp [Value.ownBlock] at h) λ⟨_,_,h⟩=>h⟩,λ_ h=>h.elim⟩
 | pO=>intro v F aY; rw [aY.sf]; exact ⟨cw,.hK λ_ h=>h,λ_ h=>h.elim⟩
 | @obj cs cs' aj _ aU =>
  intro v F aY;cases aY with
  | ref J=>simp [ab.isRef] at J
  | @obj _ b e arr bM _ a1 hY h1 ao aS av aN =>
   have:∀ k,∃ tl:bb,k<cs.length->(∀ (x:ab) (u:Value),cs'[k]?=some x->arr[k]?=some u->R w I ρ x u tl)/\∀ c,tl c->bM k c:=by
    intro k;by_cases hk:k<cs.length
    ·have J:=List.getElem?_eq_getElem hk;have ax:cs'[k]?=some (cs'[k]'(by omega)):=List.getElem?_eq_getElem (by omega);have hu:arr[k]?=some (arr[k]'(by omega)):=Array.getElem?_eq_getElem (by omega);obtain ⟨c8,h1,af⟩:=aU k _ _ J ax (ao k _ _ J hu);refine ⟨c8,λ_=>⟨λx u gj jR=>?_,af⟩⟩
     grind
    ·exact ⟨cw,λh=>absurd h hk⟩
   obtain ⟨tl,tN⟩:=Classical.axiomOfChoice this;refine ⟨_,.obj (Fs:=tl) a1 (by omega) h1 (λk x u J hu=>(tN k (by rw [<- aj]; exact (List.getElem?_eq_some_iff.1 J).1)).1 x u J hu) (λj k c ah hk h aR=>aS j k c (by omega) (by omega) ((tN j (by omega)).2 c h) ((tN k (by omega)).2 c aR)) (λk hk h=>av k (by omega) ((tN k (by omega)).2 b h)) (λc=>Iff.rfl),λc aa=>?_⟩
   grind
 | @own z n cs cs' aj _ aU =>
  intro v F aY;cases aY with
  | ref J=>simp [ab.isRef] at J
  | @own _ _ _ _ e us bM _ a1 hY h1 ao aS av aN =>
   have:∀ k,∃ tl:bb,k<cs.length->(∀ (x:ab) (u:Value),cs'[k]?=some x->us[k]?=some u->R w I ρ x u tl)/\∀ c,tl c->bM k c:=by
    intro k;by_cases hk:k<cs.length
    ·have J:=List.getElem?_eq_getElem hk;have ax:cs'[k]?=some (cs'[k]'(by omega)):=List.getElem?_eq_getElem (by omega);have hu:us[k]?=some (us[k]'(by omega)):=List.getElem?_eq_getElem (by omega);obtain ⟨c8,h1,af⟩:=aU k _ _ J ax (ao k _ _ J hu);refine ⟨c8,λ_=>⟨λx u gj jR=>?_,af⟩⟩
     grind
    ·exact ⟨cw,λh=>absurd h hk⟩
   obtain ⟨tl,tN⟩:=Classical.axiomOfChoice this;refine ⟨_,.own (Fs:=tl) a1 (by omega) h1 (λk x u J hu=>(tN k (by rw [<- aj]; exact (List.getElem?_eq_some_iff.1 J).1)).1 x u J hu) (λj k c ah hk h aR=>aS j k c (by omega) (by omega) ((tN j (by omega)).2 c h) ((tN k (by omega)).2 c aR)) (λk c hk h=>av k c (by omega) ((tN k (by omega)).2 c h)) (λc=>Iff.rfl),λc aa=>?_⟩
   grind
structure kr (g1 g2:aK):Prop where
 sub:∀ t x,g2 t=some x->∃ y,g1 t=some y/\pf y x
 bX:∀ t x,g2 t=some x->dh g2 x
 fy:∀ t z q n m new,g2 t≠some (.bL z q n m new)
theorem cI.eX {w:World}{I:bb}{T:Array Value}{g1 g2:aK}{Fs:Nat->bb}(h:cI w I T g1 Fs) (hk:kr g1 g2):∃ b7,cI w I T g2 b7/\∀ t c,b7 t c->Fs t c:=by
 have:∀ t,∃ c8:bb,(∀ x,g2 t=some x->∃ v,T[t]?=some v/\R w I (dU w T g2) x v c8)/\(∀ c,c8 c->Fs t c)/\(g2 t=none->∀ c,¬ c8 c):=by
  intro t;cases J:g2 t with
  | none=>exact ⟨cw,by simp,λ_ h=>h.elim,λ_ _ h=>h⟩
  | some x =>
   obtain ⟨y,ax,hw⟩:=hk.sub t x J;obtain ⟨v,hv,aY⟩:=h.mF.rel t y ax;have lk:∀ z q n m new,y≠.bL z q n m new:=by
    rintro z q n m new rfl;cases hw with
    | refl=>exact hk.fy _ _ _ _ _ _ J
    | dead bY=>rcases bY with bY | bY <;> cases bY
   obtain ⟨c8,jO,pr⟩:=R.eX hw (aY.gI lk);exact ⟨c8,λx' gj=>by cases gj; exact ⟨v,hv,jO.bX (hk.bX t x J)⟩,pr,by simp⟩
 obtain ⟨b7,pt⟩:=Classical.axiomOfChoice this;refine ⟨b7,⟨λt x J=>?_,λt aw=>(pt t).2.2 aw,λt t' c h1 af=>h.eK _ _ _ ((pt t).2.1 c h1) ((pt t').2.1 c af),λt c aa=>h.bk _ _ ((pt t).2.1 c aa),h.lt,λt t' z p n m new _ _ _ _ h1=>absurd h1 (hk.fy _ _ _ _ _ _)⟩,λt=>(pt t).2.1⟩;obtain ⟨v,hv,aY⟩:=(pt t).1 x J;exact ⟨v,hv,.tree aY⟩
theorem gi.weaken {c:Code}{g g1 g':aK}{e:Exit}(hk:kr g g1) (h:gi P N c g1 e g'):gi P N c g e g':=by
 intro Q a w I Fs bj bc dP;obtain ⟨b7,d_,gH⟩:=bj.eX hk;exact h d_ bc λca w' aF=>dP _ _ (h7.trans rfl hE.refl ⟨Fr.refl _ _,λ_ h=>h,λ_ h=>.inl h,λc ⟨t,aa⟩=>.inl ⟨t,gH t c aa⟩⟩ aF)
theorem tj.weaken {c:Code}{g g1 g':aK}{e:Exit}(hk:kr g g1) (h:tj P N c g1 e g'):tj P N c g e g':=by
 intro Q a w I Fs bj bc dP;obtain ⟨b7,d_,gH⟩:=bj.eX hk;exact h d_ bc λca w' aF=>dP _ _ (h7.trans rfl hE.refl ⟨Fr.refl _ _,λ_ h=>h,λ_ h=>.inl h,λc ⟨t,aa⟩=>.inl ⟨t,gH t c aa⟩⟩ aF)
end
end Go.Own
namespace Go.Own
open Go
inductive A5 (P:Program) (g:aK):ResultVar->ab->Prop
 | tmp {t:Nat}{y:ab}(h:br g (.tmp t)=some y):A5 P g (.tmp t) y
 | cell {a:Nat}{t ty:TypeId}{y:ab}(h:c6 P g (.load t (.tmp a)) ty y):A5 P g (.cell a t) y
inductive rI (P:Program) (g:aK):List ResultVar->List ab->Prop
 | nil:rI P g [] []
 | cons {r:ResultVar}{rs:List ResultVar}{y:ab}{ys:List ab}(h:A5 P g r y) (aw:rI P g rs ys):rI P g (r::rs) (y::ys)
def qF:List ab->ab
 | [x]=>x
 | l=>.bV l
def yf:List Value->Value
 | [x]=>x
 | l=>.tuple l.toArray
def wb (tmps:Array Value):ResultVar->Sem Value
 | .tmp t=>pure (tmps.getD t undef)
 | .cell a t=>do loadVar t (<- asAddr (tmps.getD a undef))
section
variable {P:Program}{w:World}{I:bb}{g:aK}{Fs:Nat->bb}
theorem A5.run {a:Act}(h:cI w I a.tmps g Fs) {r:ResultVar}{y:ab}(ao:A5 P g r y):∃ v,(wb a.tmps r).run P w=.ok v w/\R w I (dU w a.tmps g) y v cw:=by
 cases ao with
 | @tmp t y h1=>exact ⟨_,rfl,kh h h1 rfl⟩
 | @cell a0 t ty y h1 =>
  obtain ⟨v, hv, aY⟩ := c6.sound h rfl (o := { dst := none, op := .load t (.tmp a0), type := ty, pos := "", after := #[], guard := none }) h1;refine ⟨v,?_,aY⟩;have he:a.eval (.tmp a0)=a.tmps.getD a0 undef:=rfl;simp only [execOp,he] at hv;cases aa:a.tmps.getD a0 undef with
  | pointer ad =>
   cases ad with
   | some ad =>
    rw [aa] at hv;simp only [Instr.loadAt,Instr.sureAddr] at hv;simp only [wb,aa,asAddr];have au:(pure ad >>= λx=>loadVar t x:Sem Value)=loadVar t ad:=by simp
    rw [au];revert hv;generalize bg:loadVar t ad=q;intro hv;simp [bg] at hv;cases ER:q.run P w with
    | ok x hA=>rw [ER] at hv; simp at hv; rw [hv.1,hv.2]
    | halt e hA=>rw [ER] at hv; simp at hv
   | none=>rw [aa] at hv; simp [Instr.loadAt,Instr.sureAddr] at hv
  | _=>rw [aa] at hv; simp [Instr.loadAt,Instr.sureAddr] at hv
theorem PW {f:ResultVar->Sem Value}:∀ (l:List ResultVar) (vs:List Value),l.length=vs.length->(∀ (k:Nat) (r:ResultVar) (v:Value),l[k]?=some r->vs[k]?=some v->(f r).run P w=.ok v w)->(l.mapM f).run P w=.ok vs w
 | [],[],_,_=>rfl
 | r::l,v::vs,aj,h=>by
  have aQ:=h 0 r v rfl rfl;have h1:=PW l vs (by simpa using aj) λk r v ao hv=>h (k+1) r v (by simpa using ao) (by simpa using hv);simp [List.mapM_cons,aQ,h1]
 | [],_::_,aj,_=>by simp at aj
 | _::_,[],aj,_=>by simp at aj
theorem YM {fn:Func}{tmps:Array Value}{vs:List Value}(aj:fn.results.toList.length=vs.length) (h:∀ (k:Nat) (r:ResultVar) (v:Value),fn.results.toList[k]?=some r->vs[k]?=some v->(wb tmps r).run P w=.ok v w):(results fn tmps).run P w=.ok (yf vs) w:=by
 have h1:=PW fn.results.toList vs aj h;have af:fn.results.mapM (wb tmps)=List.toArray <$> fn.results.toList.mapM (wb tmps):=Array.mapM_eq_mapM_toList;have aI:(fn.results.mapM (wb tmps)).run P w=.ok vs.toArray w:=by rw [af]; simp [h1]
 have bF:results fn tmps=(do let vs <- fn.results.mapM (wb tmps); pure (if h:vs.size=1 then vs[0] else .tuple vs)):=by
  unfold results;congr 1
 rw [bF];simp only [Sem.run_bind,aI]
 match vs with
 | []=>rfl
 | [x]=>rfl
 | x::y::l=>simp [yf]
theorem rI.length {g:aK}{rs:List ResultVar}{ys:List ab}(h:rI P g rs ys):rs.length=ys.length:=by
 induction h with
 | nil=>rfl
 | cons _ _ aU=>simp [aU]
theorem rI.run {a:Act}(h:cI w I a.tmps g Fs) {rs:List ResultVar}{ys:List ab}(ao:rI P g rs ys):∃ vs:List Value,rs.length=vs.length/\(∀ (k:Nat) (r:ResultVar) (v:Value),rs[k]?=some r->vs[k]?=some v->(wb a.tmps r).run P w=.ok v w) /\
  ∀ (k:Nat) (y:ab) (v:Value),ys[k]?=some y->vs[k]?=some v->R w I (dU w a.tmps g) y v cw:=by
 induction ao with
 | nil=>exact ⟨[],rfl,by simp,by simp⟩
 | cons h1 _ aU =>
  obtain ⟨v,hv,aY⟩:=h1.run h;obtain ⟨vs,aj,af,aI⟩:=aU;refine ⟨v::vs,by simp [aj],λk r u ao hu=>?_,λk y u ax hu=>?_⟩
  ·cases k with
   | zero=>simp at ao hu; subst ao hu; exact hv
   | succ k=>exact af k r u (by simpa using ao) (by simpa using hu)
  ·cases k with
   | zero=>simp at ax hu; subst ax hu; exact aY
   | succ k=>exact aI k y u (by simpa using ax) (by simpa using hu)
theorem Hand.qF {ρ:ab->Value->Prop}{Fs:Nat->bb}{xs:List ab}{vs:List Value}{dE:Nat->bb}(h:Hand w I ρ Fs xs vs dE) (aF:∀ x∈xs,cU x) (ρ':ab->Value->Prop):R w I ρ' (qF xs) (yf vs) (λc=>∃ k,k<xs.length/\dE k c)/\cU (qF xs):=by
 have bV:R w I ρ' (.bV xs) (.tuple vs.toArray) (λc=>∃ k,k<xs.length/\dE k c) :=
  .bV (by simpa using h.len) (λk x u J hu=>(h.rel k x u J (by simpa using hu)).bl (aF x (List.mem_of_getElem? J))) h.eK λc=>Iff.rfl
 match xs,vs,h,aF,bV with
 | [],[],_,_,bV=>exact ⟨bV,.bV (by simp)⟩
 | [x],[v],h,aF,_ =>
  refine ⟨((h.rel 0 x v rfl rfl).bl (aF x (by simp))).ze λc=>⟨λaa=>⟨0,by simp,aa⟩,λ⟨k,hk,aa⟩=>?_⟩,aF x (by simp)⟩;have:k=0:=by simpa using hk
  subst this; exact aa
 | x::y::l,v::u::m,_,aF,bV=>exact ⟨bV,.bV aF⟩
 | [],_::_,h,_,_=>have:=h.len; simp at this
 | _::_,[],h,_,_=>have:=h.len; simp at this
 | [_],_::_::_,h,_,_=>have:=h.len; simp at this
 | _::_::_,[_],h,_,_=>have:=h.len; simp at this
structure Leaves (P:Program) (N:c5) (rs:List ResultVar) (g':aK) (n:Nat) (outs:List (Option ab)) (res:ab):Prop where
 ex:∃ ys xs g1,rI P g' rs ys/\Take g' ys xs g1/\res=qF xs/\∀ (k:Nat) (x:ab),outs[k]?=some (some x)->g1 k=some x/\cU x/\k∈N.pins
 len:outs.length=n
theorem cI.more {T:Array Value}(h:cI w I T g Fs) {T':Array Value}(dM:∀ t,g t≠none->T'[t]?=T[t]?):cI w I T' g Fs:=by
 refine ⟨λt x J=>?_,h.k2,h.eK,h.bk,h.lt,h.rn⟩;obtain ⟨u,hu,aY⟩:=h.rel t x J;exact ⟨u,by rw [dM t (by rw [J]; simp)]; exact hu,h.w2 dM (λ_ _ _=>rfl) (λ_ _=>rfl) (λ_ h=>h) (λ_ _ h=>h) aY λ_ _=>rfl⟩
end
end Go.Own
namespace Go.Own
open Go
section
variable {P:Program}{N:c5}
def W (P:Program) (N:c5) (c:Code) (g:aK) (Φ:Exit->aK->Prop):Prop :=
 ∀ ⦃Q:Exit->Act->World->Prop⦄ ⦃a:Act⦄ ⦃w:World⦄ ⦃I:bb⦄ ⦃Fs:Nat->bb⦄,cI w I a.tmps g Fs->a.tmps.size=N.size->(∀ e g' ca w',Φ e g'->h7 N a w I Fs g' ca w'->Q e ca w')->c.wp P Q a w
def o4 (Ψ:aK->Prop) (Φ:Exit->aK->Prop):Exit->aK->Prop
 | .normal,g=>Ψ g
 | e,g=>Φ e g
def l_ (id:Nat) (Φ:Exit->aK->Prop):Exit->aK->Prop
 | .exit k,g=>if k=id then Φ .normal g else Φ (.exit k) g
 | e,g=>Φ e g
theorem h7.refl {a:Act}{w:World}{I:bb}{g:aK}{Fs:Nat->bb}(h:cI w I a.tmps g Fs):h7 N a w I Fs g a w:=⟨rfl,hE.refl,_,_,h,kq.refl _ _ _⟩
theorem gi.w {c:Code}{g g':aK}{e:Exit}{Φ:Exit->aK->Prop}(h:gi P N c g e g') (nO:Φ e g'):W P N c g Φ :=
 λ_ _ _ _ _ bj bc dP=>h bj bc λca w' aF=>dP _ _ ca w' nO aF
theorem W.mono {c:Code}{g:aK}{Φ ox:Exit->aK->Prop}(h:W P N c g Φ) (nO:∀ e g',Φ e g'->ox e g'):W P N c g ox :=
 λ_ _ _ _ _ bj bc dP=>h bj bc λ_ _ ca w' h1 aF=>dP _ _ ca w' (nO _ _ h1) aF
theorem W.skip {g:aK}{Φ:Exit->aK->Prop}(h:Φ .normal g):W P N .skip g Φ:=gi.skip.w h
theorem W.ret {g:aK}{Φ:Exit->aK->Prop}(h:Φ .ret g):W P N .ret g Φ:=gi.ret.w h
theorem W.exit {g:aK}{id:Nat}{Φ:Exit->aK->Prop}(h:Φ (.exit id) g):W P N (.exit id) g Φ:=gi.exit.w h
theorem W.seq {x y:Code}{g:aK}{Φ:Exit->aK->Prop}(h:W P N x g (o4 (λg1=>W P N y g1 Φ) Φ)):W P N (.seq x y) g Φ:=by
 intro Q a w I Fs bj bc dP;refine wp_seq (h bj bc λe g1 aD ic h1 aF=>?_);cases e with
 | normal =>
  obtain ⟨cy,b9,I',b7,d_,b1⟩:=aF;exact h1 d_ (b9.1.trans bc) λtH g2 a2 hA af ob=>dP _ _ _ _ af (h7.trans cy b9 b1 ob)
 | _=>exact dP _ _ _ _ h1 aF
theorem W.cond {c:Operand}{x y:Code}{g:aK}{Φ:Exit->aK->Prop}{b:Bool}(aa:br g c=some (.lit (.bool b))) (h:W P N (if b then x else y) g Φ):W P N (.cond c x y) g Φ :=
 λ_ _ _ _ _ bj bc dP=>wp_cond (t:=b) (kh bj aa rfl).hD.1 (h bj bc dP)
theorem W.Ms {c:Operand}{x y:Code}{g:aK}{Φ:Exit->aK->Prop}(aa:br g c=some (.lit (.bool true))) (h:W P N x g Φ):W P N (.cond c x y) g Φ:=W.cond aa h
theorem W.Mq {c:Operand}{x y:Code}{g:aK}{Φ:Exit->aK->Prop}(aa:br g c=some (.lit (.bool false))) (h:W P N y g Φ):W P N (.cond c x y) g Φ:=W.cond aa h
theorem W.block {id:Nat}{c:Code}{g:aK}{Φ:Exit->aK->Prop}(h:W P N c g (l_ id Φ)):W P N (.block id c) g Φ:=by
 intro Q a w I Fs bj bc dP;refine wp_block (h bj bc λe g1 aD ic h1 aF=>?_);cases e with
 | exit k =>
  have af:if k=id then Φ .normal g1 else Φ (.exit k) g1:=h1
  grind [Exit.inBlock]
 | _=>exact dP _ _ _ _ h1 aF
def pe (P:Program) (N:c5) (c:Code) (g:aK) (Φ:Exit->aK->Prop):Prop :=
 ∀ ⦃Q:Exit->Act->World->Prop⦄ ⦃a:Act⦄ ⦃w:World⦄ ⦃I:bb⦄ ⦃Fs:Nat->bb⦄,cI w I a.tmps g Fs->a.tmps.size=N.size->(∀ e g' ca w',Φ e g'->h7 N a w I Fs g' ca w'->Q e ca w')->DT P c Q a w
theorem W.loop {c:Code}{g:aK}{Φ:Exit->aK->Prop}(h:pe P N c g Φ):W P N (.loop c) g Φ:=by
 intro Q a w I Fs bj bc dP b k cs;obtain ⟨e,ca,w',bg,kd⟩:=h bj bc dP b k cs;exact ⟨e,ca,w',bg,.of_steps (.one step_loop) kd⟩
theorem pe.step {c:Code}{g:aK}{Φ:Exit->aK->Prop}(h:W P N c g (o4 (λg1=>pe P N c g1 Φ) Φ)):pe P N c g Φ:=by
 intro Q a w I Fs bj bc dP;refine JR (h bj bc λe g1 aD ic h1 aF=>?_);cases e with
 | normal =>
  obtain ⟨cy,b9,I',b7,d_,b1⟩:=aF;exact h1 d_ (b9.1.trans bc) λtH g2 a2 hA af ob=>dP _ _ _ _ af (h7.trans cy b9 b1 ob)
 | _=>exact dP _ _ _ _ h1 aF
theorem W.weaken {c:Code}{g g1:aK}{Φ:Exit->aK->Prop}(hk:kr g g1) (h:W P N c g1 Φ):W P N c g Φ:=by
 intro Q a w I Fs bj bc dP;obtain ⟨b7,d_,gH⟩:=bj.eX hk;exact h d_ bc λe g' ca w' h1 aF=>dP _ _ _ _ h1 (h7.trans rfl hE.refl ⟨Fr.refl _ _,λ_ h=>h,λ_ h=>.inl h,λc ⟨t,aa⟩=>.inl ⟨t,gH t c aa⟩⟩ aF)
theorem pe.weaken {c:Code}{g g1:aK}{Φ:Exit->aK->Prop}(hk:kr g g1) (h:pe P N c g1 Φ):pe P N c g Φ:=by
 intro Q a w I Fs bj bc dP;obtain ⟨b7,d_,gH⟩:=bj.eX hk;exact h d_ bc λe g' ca w' h1 aF=>dP _ _ _ _ h1 (h7.trans rfl hE.refl ⟨Fr.refl _ _,λ_ h=>h,λ_ h=>.inl h,λc ⟨t,aa⟩=>.inl ⟨t,gH t c aa⟩⟩ aF)
theorem W.out {c:Code}{g:aK}{Φ ox:Exit->aK->Prop}(h:W P N c g Φ) (nO:∀ e g',Φ e g'->∃ g2,kr g' g2/\ox e g2):W P N c g ox:=by
 intro Q a w I Fs bj bc dP;refine h bj bc λe g' ca w' h1 aF=>?_;obtain ⟨g2,hk,af⟩:=nO e g' h1;obtain ⟨cy,b9,I',b7,d_,b1⟩:=aF;obtain ⟨iZ,h9,gH⟩:=d_.eX hk;exact dP _ _ _ _ af ⟨cy,b9,I',iZ,h9,b1.trans ⟨Fr.refl _ _,λ_ h=>h,λ_ h=>.inl h,λc ⟨t,aa⟩=>.inl ⟨t,gH t c aa⟩⟩⟩
def LA (P:Program) (N:c5) (ops:Array Oper) (is:List Nat) (g:aK) (K:aK->Prop):Prop:=∃ g',oC P N ops is g g'/\K g'
theorem W.region {id:Nat}{ops:Array Oper}{g:aK}{Φ:Exit->aK->Prop}(h:LA P N ops (List.range ops.size) g (Φ .normal)):W P N (.region id ops false) g Φ:=by
 obtain ⟨g',ao,nO⟩:=h;exact (gi.region ao).w nO
theorem bU.XL {f:FuncId}{fn:Func}{c:Code}{args:List ab}{outs:List (Option ab)}{res:ab}{N:c5}(aW:P.funcs[f]?=some fn) (av:fn.body=some c) (bc:fn.ntmps=N.size) (aP:args.length<=N.size)
  (hlen:outs.length=args.length) (hw:W P N c (qb args) λe g'=>(e=.normal\/e=.ret)/\Leaves P N fn.results.toList g' args.length outs res):bU P f args outs res:=by
 refine ⟨hlen,λw I vs Fs adb bj=>calls_of_wp aW av ?_⟩;have fX:({ tmps:=vs.toArray++Array.replicate (fn.ntmps - vs.toArray.size) undef,defers:=[] }:Act).tmps.size=N.size:=by
  grind
 have n':∀ t,t<vs.length->(vs.toArray++Array.replicate (fn.ntmps - vs.toArray.size) undef)[t]?=vs.toArray[t]?:=by
  grind
 refine hw (bj.more (T':=vs.toArray++Array.replicate (fn.ntmps - vs.toArray.size) undef) λt aw=>n' t ?_) fX λe g' ca w' ⟨he,a1⟩ aF=>?_
 ·grind [qb]
 obtain ⟨aS,hold,I',b7,d_,b1⟩:=aF;obtain ⟨ys,xs,g1,Oh,aw,rfl,r6⟩:=a1.ex;obtain ⟨us,oc,hR,mU⟩:=Oh.run d_;have EZ:ys.length=us.length:=by rw [<- Oh.length,oc]
 obtain ⟨f_,dE,jc,iL,hQ⟩:=aw.sound d_.mF (⟨EZ,λk x u J hu=>(mU k x u J hu).frame (λ_ _=>rfl) (λ_ h=>h) (λ_ _ h=>h.1) λ_ _=>rfl,λ_ _ _ _ _ h=>h.elim,λ_ _ _ _ h=>h.elim,λ_ _ _ h=>h.elim⟩:Hand w' I' (fA w' ca.tmps) b7 ys us λ_=>cw);have gH:∀ c,lB f_ xs.length dE c->∃ t,b7 t c:=by
  intro c aa;rcases hQ c aa with h | ⟨_,_,h⟩
  all_goals grind
 have VE:∃ iZ,cI w' I' (vs++[yf us]).toArray (k3 outs (qF xs)) iZ/\∀ t c,iZ t c->∃ t,b7 t c:=by
  classical
  refine ⟨λt=>if t=outs.length then (λc=>∃ k,k<xs.length/\dE k c) else if ∃ x,outs[t]?=some (some x) then f_ t else cw,⟨λt x J=>?_,λt ET c aa=>?_,λt t' c h1 af=>?_,λt c aa=>?_,d_.lt,λt t' z p n m new bC cH m' c3 h1 af=>?_⟩,λt c aa=>?_⟩
  ·unfold k3 at J;by_cases aQ:t=outs.length
   ·rw [if_pos aQ] at J;cases J;subst aQ;refine ⟨yf us,?_,.tree ?_⟩
    ·grind
    ·simpa using (iL.qF aw.Fv _).1
   ·rw [if_neg aQ] at J;have gj:outs[t]?=some (some x):=by
     grind
    obtain ⟨h1,af,aI⟩:=r6 t x gj;have Wt:t<vs.length:=by
     grind
    obtain ⟨v,hv,aY⟩:=jc.rel t x h1;refine ⟨v,?_,?_⟩
    ·rw [hold.2 t aI] at hv
     grind
    ·simp only [aQ,if_false];rw [if_pos ⟨x,gj⟩];exact .tree ((aY.gI (by rintro z p n m new rfl; cases af)).bl af)
  ·grind [k3]
  ·by_cases aQ:t=outs.length <;> by_cases HN:t'=outs.length <;> simp only [aQ,HN,if_true,if_false] at h1 af
   ·grind
   ·split at af
    ·obtain ⟨k,hk,aa⟩:=h1;exact absurd af (iL.off k t' c hk aa)
    grind
   ·split at h1
    ·obtain ⟨k,hk,aa⟩:=af;exact absurd h1 (iL.off k t c hk aa)
    grind
   ·split at h1
    ·split at af
     ·exact jc.eK _ _ _ h1 af
     grind
    grind
  ·by_cases aQ:t=outs.length <;> simp only [aQ,if_true,if_false] at aa
   ·obtain ⟨k,hk,aa⟩:=aa;exact iL.bk k c hk aa
   ·split at aa
    ·exact jc.bk _ _ aa
    grind
  ·grind [k3,cU]
  ·by_cases aQ:t=outs.length <;> simp only [aQ,if_true,if_false] at aa
   ·obtain ⟨k,hk,aa⟩:=aa;exact gH c (.inr ⟨k,hk,aa⟩)
   ·split at aa
    ·exact gH c (.inl ⟨t,aa⟩)
    grind
 obtain ⟨iZ,h9,Wr⟩:=VE;have V':ca.defers=[]/\∃ v,(results fn ca.tmps).run P w'=.ok v w'/\∃ gx I' b7,Ending.returned v=.returned gx/\cI w' I' (vs++[gx]).toArray (k3 outs (qF xs)) b7/\kq w I (λc=>∃ t,Fs t c) w' I' (λc=>∃ t,b7 t c) :=
  ⟨aS,yf us,YM oc hR,yf us,I',iZ,rfl,h9,b1.trans ⟨Fr.refl _ _,λ_ h=>h,λ_ h=>.inl h,λc ⟨t,aa⟩=>.inl (Wr t c aa)⟩⟩
 rcases he with rfl | rfl <;> exact V'
end
end Go.Own
namespace Go.Own
open Go
def get:List (Nat × ab)->aK
 | [],_=>none
 | (s,x)::l,t=>if t=s then some x else get l t
inductive Rd (g:aK):Operand->ab->Prop
 | lit {t:Nat}{v:Value}(h:g t=some (.lit v)):Rd g (.tmp t) (.lit v)
 | k {v:Value}(h:ofConst v=.lit v):Rd g (.const v) (.lit v)
 | xL:Rd g (.const (.slice none 0 0)) .aL
 | JM {v:Value}{cs:List ab}(h:ofConst v=.agg cs):Rd g (.const v) (.agg cs)
 | aL {t:Nat}(h:g t=some .aL):Rd g (.tmp t) .aL
 | bk {t z n:Nat}{cs:List ab}(h:g t=some (.bk z n cs)):Rd g (.tmp t) (.bk z n cs)
 | own {t z n:Nat}{cs:List ab}(h:g t=some (.own z n cs)):Rd g (.tmp t) (.a6 z ⟨t,[]⟩ n)
 | obj {t:Nat}{c:ab}{cs:List ab}(h:g t=some (.obj (c::cs))):Rd g (.tmp t) (.ptr ⟨t,[]⟩ 0)
 | cJ {t:Nat}{cs:List ab}(h:g t=some (.cJ cs)):Rd g (.tmp t) (.cJ cs)
 | ptr {t k:Nat}{p:Place}(h:g t=some (.ptr p k)):Rd g (.tmp t) (.ptr p k)
 | a6 {t z n:Nat}{p:Place}(h:g t=some (.a6 z p n)):Rd g (.tmp t) (.a6 z p n)
 | sub {t z lo n:Nat}{p:Place}(h:g t=some (.sub z p lo n)):Rd g (.tmp t) (.sub z p lo n)
 | bL {t z n m:Nat}{p:Place}{new:List ab}(h:g t=some (.bL z p n m new)):Rd g (.tmp t) (.a6 z ⟨t,[]⟩ (n+m))
 | agg {t:Nat}{cs cs':List ab}(h:g t=some (.agg cs)) (aa:(cs.mapIdx λi x=>gw 1 (Place.push ⟨t,[]⟩ i) x)=cs'):Rd g (.tmp t) (.agg cs')
 | bV {t:Nat}{cs cs':List ab}(h:g t=some (.bV cs)) (aa:(cs.mapIdx λi x=>gw 1 (Place.push ⟨t,[]⟩ i) x)=cs'):Rd g (.tmp t) (.bV cs')
 | func {f:FuncId}:Rd g (.func f) (.cX (.func f) [] [])
 | cX {t:Nat}{fn:Fn}{cs:List ab}(h:g t=some (.cX fn [] cs)):Rd g (.tmp t) (.cX fn [] cs)
 | mp {t:Nat}{q:Array MapEntry->Nat->Prop}(h:g t=some (.mp q)):Rd g (.tmp t) (.gz ⟨t,[]⟩)
 | gz {t:Nat}{p:Place}(h:g t=some (.gz p)):Rd g (.tmp t) (.gz p)
 | imp {t:Nat}{q:Array MapEntry->Nat->Prop}(h:g t=some (.imp q)):Rd g (.tmp t) (.imp q)
theorem Rd.br {g:aK}{x:Operand}{y:ab}(h:Rd g x y):br g x=some y:=by
 cases h with
 | agg h aa=>subst aa; simp [Own.br,h,rq,gw]
 | bV h aa=>subst aa; simp [Own.br,h,rq,gw]
 | k h=>simp [Own.br,h]
 | xL=>rfl
 | JM h=>simp [Own.br,h]
 | func=>rfl
 | _ h=>simp [Own.br,h,rq,gw]
section
variable {P:Program}{N:c5}{ops:Array Oper}{g:aK}{K:aK->Prop}{l:List Oper}
def ar (P:Program) (N:c5) (ops:Array Oper) (l:List Oper) (g:aK) (K:aK->Prop):Prop:=∀ i,ops.toList.drop i=l->LA P N ops (List.range' i l.length) g K
theorem W.AA {id:Nat}{l:List Oper}{g:aK}{Φ:Exit->aK->Prop}(h:ar P N l.toArray l g (Φ .normal)):W P N (.region id l.toArray false) g Φ:=by
 refine W.region ?_;have:=h 0 (by simp)
 grind [List.range_eq_range']
theorem ar.nil (h:K g):ar P N ops [] g K:=λ_ _=>⟨g,.nil,h⟩
theorem drop_cons {i:Nat}{o:Oper}(h:ops.toList.drop i=o::l):ops[i]?=some o/\ops.toList.drop (i+1)=l:=by
 have h1:(ops.toList.drop i)[0]?=some o:=by rw [h]; rfl
 rw [List.getElem?_drop] at h1;refine ⟨by simpa using h1,?_⟩;rw [<- List.drop_drop,h];rfl
variable {d:Nat}{op:Op}{ty:TypeId}{pos:String}{after:Array Edge}{x:ab}
theorem ar.AG {r:Option ab}{o:Oper}(aS:o.dst=some d) (bc:N.ok d=true) (aW:g d=none) (aB:qa P g ops o r) (hk:ar P N ops l (yc g d r) K):ar P N ops (o::l) g K:=by
 intro i hi;obtain ⟨h1,af⟩:=drop_cons hi;obtain ⟨g',ao,di⟩:=hk (i+1) af;exact ⟨g',.step h1 aS aW bc aB ao,di⟩
inductive Lo (g:aK) (d:Nat):aK->Prop
 | new (h:g d=none):Lo g d g
 | nk {y:ab}(h:g d=some y) (aj:leaf y=true):Lo g d (del g d)
inductive fu (g:aK) (ops:Array Oper):Option (Nat × Bool)->Prop
 | none:fu g ops none
 | yes {j t:Nat}{b:Bool}(h:(ops[j]?).bind (·.dst)=some t) (aO:g t=some (.lit (.bool b))):fu g ops (some (j,b))
variable {gd:Option (Nat × Bool)}{g1:aK}
theorem fu.del {y:ab}(h:fu g ops gd) (aS:g d=some y) (av:∀ b,y≠.lit (.bool b)):iy (del g d) ops ⟨some d,op,ty,pos,after,gd⟩ true:=by
 cases h with
 | none=>rfl
 | @yes j t b h aO =>
  have:t≠d:=by
   grind
  exact ⟨t,h,.inl ⟨b,by simp only [Own.del,if_neg this,aO],by simp⟩⟩
theorem fu.wanted (h:fu g ops gd):iy g ops ⟨some d,op,ty,pos,after,gd⟩ true:=by
 cases h with
 | none=>rfl
 | @yes j t b h aO=>exact ⟨t,h,.inl ⟨b,aO,by simp⟩⟩
theorem ar.KZ (au:ch P g op ty x) (bc:N.ok d=true) (aW:g d=none) (hw:iy g ops ⟨some d,op,ty,pos,after,gd⟩ true) (hk:ar P N ops l (cV g d x) K):ar P N ops (⟨some d,op,ty,pos,after,gd⟩::l) g K :=
 .AG rfl bc aW (r:=some x) (.inl ⟨hw,.inl au⟩) hk
theorem ZI:cV (del g d) d x=cV g d x:=by
 grind [cV,del]
theorem ar.val (au:c6 P g op ty x) (bc:N.ok d=true) (aW:g d=none) (aO:fu g ops gd) (hk:ar P N ops l (cV g d x) K):ar P N ops (⟨some d,op,ty,pos,after,gd⟩::l) g K :=
 .KZ (.eW au) bc aW aO.wanted hk
theorem ar.over {y:ab}(au:c6 P (del g d) op ty x) (bc:N.ok d=true) (aW:g d=some y) (aj:leaf y=true) (hk:ar P N ops l (cV g d x) K):ar P N ops (⟨some d,op,ty,pos,after,none⟩::l) g K:=by
 intro i hi;obtain ⟨g',ao,di⟩:=ar.KZ (pos:=pos) (after:=after) (gd:=Option.none) (.eW au) bc (by simp [del]) (fu.wanted .none) (by rw [ZI]; exact hk) i hi;exact ⟨g',.drop aW aj ao,di⟩
theorem ar.ZM (au:ch P g op ty x) (bc:N.ok d=true) (aW:g d=none) (aO:fu g ops gd) (hk:ar P N ops l (cV g d x) K):ar P N ops (⟨some d,op,ty,pos,after,gd⟩::l) g K :=
 .KZ au bc aW aO.wanted hk
theorem ar.call (au:cK P g op x) (bc:N.ok d=true) (aW:g d=none) (aO:fu g ops gd) (hk:ar P N ops l (cV g d x) K):ar P N ops (⟨some d,op,ty,pos,after,gd⟩::l) g K :=
 .AG rfl bc aW (r:=some x) (.inl ⟨aO.wanted,.inr au⟩) hk
theorem ar.pass {j t':Nat}{b:Bool}(h:(ops[j]?).bind (·.dst)=some t') (aO:g t'=some (.lit (.bool (!b)))) (bc:N.ok d=true) (aW:g d=none) (hk:ar P N ops l g K):ar P N ops (⟨some d,op,ty,pos,after,some (j,b)⟩::l) g K :=
 .AG rfl bc aW (r:=Option.none) ⟨t',h,.inl ⟨!b,aO,by cases b <;> rfl⟩⟩ hk
variable {jL:Option Nat}
theorem ar.forget {g1:aK}(hk:hF g g1) (h:ar P N ops l g1 K):ar P N ops l g K:=by
 intro i hi;obtain ⟨g',ao,di⟩:=h i hi;exact ⟨g',.forget hk ao,di⟩
variable {a b:Operand}{t t2:TypeId}{k:IntKind}{m n:Int}
theorem c6.add (J:Rd g a (.lit (.int k m))) (ax:Rd g b (.lit (.int k n))):c6 P g (.binOp .add t a b t2) ty (.lit (.int k (k.wrap (m+n)))) :=
 .bin J.br ax.br rfl λw=>by simp [eqGuard,binOp,Op.intArith]
theorem c6.Zj (J:Rd g a (.lit (.int k m))) (ax:Rd g b (.lit (.int k n))):c6 P g (.binOp .sub t a b t2) ty (.lit (.int k (k.wrap (m - n)))) :=
 .bin J.br ax.br rfl λw=>by simp [eqGuard,binOp,Op.intArith]
theorem c6.mul (J:Rd g a (.lit (.int k m))) (ax:Rd g b (.lit (.int k n))):c6 P g (.binOp .mul t a b t2) ty (.lit (.int k (k.wrap (m * n)))) :=
 .bin J.br ax.br rfl λw=>by simp [eqGuard,binOp,Op.intArith]
theorem c6.quo (J:Rd g a (.lit (.int k m))) (ax:Rd g b (.lit (.int k n))) (h:n≠0):c6 P g (.binOp .quo t a b t2) ty (.lit (.int k (k.wrap (m.tdiv n)))) :=
 .bin J.br ax.br rfl λw=>by simp [eqGuard,binOp,Op.intDiv,h]
theorem c6.rem (J:Rd g a (.lit (.int k m))) (ax:Rd g b (.lit (.int k n))) (h:n≠0):c6 P g (.binOp .rem t a b t2) ty (.lit (.int k (m.tmod n))) :=
 .bin J.br ax.br rfl λw=>by simp [eqGuard,binOp,Op.intDiv,h]
theorem c6.cat {s u:ByteArray}(J:Rd g a (.lit (.string s))) (ax:Rd g b (.lit (.string u))) (h:s.size+u.size<=9223372036854775807):c6 P g (.binOp .add t a b t2) ty (.lit (.string (s++u))) :=
 .bin J.br ax.br rfl λw=>by
  have:¬ ((s.size+u.size:Nat):Int) > IntKind.i64.max:=by
   have:IntKind.i64.max=9223372036854775807:=by decide
   omega
  simp only [eqGuard,binOp,Op.stringOp,if_neg this];simp
theorem Mc {s u:ByteArray}(h:s.toList=u.toList):s=u:=by
 have h1:s.data.toList=u.data.toList:=by
  grind [ByteArray.toList_eq]
 cases s
 simp_all
theorem c6.qg {s u:ByteArray}(J:Rd g a (.lit (.string s))) (ax:Rd g b (.lit (.string u))) {c:Bool}(aa:c=true↔s=u):c6 P g (.binOp .eql t a b t2) ty (.lit (.bool c)) :=
 .bin J.br ax.br rfl λw=>by
  have:(s.toList == u.toList)=c:=by
   rw [Bool.eq_iff_iff,aa];simp only [beq_iff_eq];exact ⟨Mc,λh=>by rw [h]⟩
  simp [eqGuard,binOp,Op.stringOp,this]
theorem c6.oo {s u:ByteArray}(J:Rd g a (.lit (.string s))) (ax:Rd g b (.lit (.string u))) {c:Bool}(aa:c=true↔s≠u):c6 P g (.binOp .neq t a b t2) ty (.lit (.bool c)) :=
 .bin J.br ax.br rfl λw=>by
  have:(s.toList == u.toList)=!c:=by
   rw [Bool.eq_iff_iff];simp only [beq_iff_eq,Bool.not_eq_true'];cases c with
   | true=>simp only [true_iff] at aa; simp only [Bool.true_eq_false,iff_false]; exact λh=>aa (Mc h)
   | false =>
    simp only [Bool.false_eq_true,false_iff,Decidable.not_not] at aa;simp [aa]
  simp [eqGuard,binOp,Op.stringOp,this]
theorem c6.lss (J:Rd g a (.lit (.int k m))) (ax:Rd g b (.lit (.int k n))) {c:Bool}(aa:c=true↔m<n):c6 P g (.binOp .lss t a b t2) ty (.lit (.bool c)) :=
 .bin J.br ax.br rfl λw=>by
  have:decide (m<n)=c:=by rw [Bool.eq_iff_iff,aa]; simp
  simp [eqGuard,binOp,Op.intCmp,this]
theorem c6.leq (J:Rd g a (.lit (.int k m))) (ax:Rd g b (.lit (.int k n))) {c:Bool}(aa:c=true↔m<=n):c6 P g (.binOp .leq t a b t2) ty (.lit (.bool c)) :=
 .bin J.br ax.br rfl λw=>by
  have:decide (m<=n)=c:=by rw [Bool.eq_iff_iff,aa]; simp
  simp [eqGuard,binOp,Op.intCmp,this]
theorem c6.gtr (J:Rd g a (.lit (.int k m))) (ax:Rd g b (.lit (.int k n))) {c:Bool}(aa:c=true↔n<m):c6 P g (.binOp .gtr t a b t2) ty (.lit (.bool c)) :=
 .bin J.br ax.br rfl λw=>by
  have:decide (n<m)=c:=by rw [Bool.eq_iff_iff,aa]; simp
  simp [eqGuard,binOp,Op.intCmp,this]
theorem c6.geq (J:Rd g a (.lit (.int k m))) (ax:Rd g b (.lit (.int k n))) {c:Bool}(aa:c=true↔n<=m):c6 P g (.binOp .geq t a b t2) ty (.lit (.bool c)) :=
 .bin J.br ax.br rfl λw=>by
  have:decide (n<=m)=c:=by rw [Bool.eq_iff_iff,aa]; simp
  simp [eqGuard,binOp,Op.intCmp,this]
theorem c6.eql (J:Rd g a (.lit (.int k m))) (ax:Rd g b (.lit (.int k n))) {c:Bool}(aa:c=true↔m=n):c6 P g (.binOp .eql t a b t2) ty (.lit (.bool c)) :=
 .bin J.br ax.br rfl λw=>by
  have:(m == n)=c:=by rw [Bool.eq_iff_iff,aa]; simp
  simp [eqGuard,binOp,Op.intCmp,this]
theorem c6.neq (J:Rd g a (.lit (.int k m))) (ax:Rd g b (.lit (.int k n))) {c:Bool}(aa:c=true↔m≠n):c6 P g (.binOp .neq t a b t2) ty (.lit (.bool c)) :=
 .bin J.br ax.br rfl λw=>by
  have:(m != n)=c:=by rw [Bool.eq_iff_iff,aa]; simp
  simp [eqGuard,binOp,Op.intCmp,this]
theorem c6.not {c:Bool}(J:Rd g a (.lit (.bool c))):c6 P g (.unOp .not t a) ty (.lit (.bool (!c))) :=
 .un J.br rfl λw=>by simp [Op.unary]
theorem c6.Yh {c a b:Operand}{y:ab}(aa:Rd g c (.lit (.bool true))) (ao:Rd g a y):c6 P g (.pick c a b) ty y:=.pick aa.br ao.br
theorem c6.Yg {c a b:Operand}{y:ab}(aa:Rd g c (.lit (.bool false))) (ao:Rd g b y):c6 P g (.pick c a b) ty y:=.pick aa.br ao.br
theorem c6.uv {s:ByteArray}(J:Rd g a (.lit (.string s))) (aw:o2 P t=true):c6 P g (.call { callee:=.builtin .len,args:=#[a],argTypes:=#[t] }) ty (.lit (.int .i64 s.size)) :=
 .lits (vs:=[.string s]) (by simp [J.br]) rfl λw cs=>by
  simp [builtin,Builtin.len_,run_underlying (KT aw),goInt]
section
variable {Ψ:aK->Prop}{Φ:Exit->aK->Prop}{id k:Nat}
theorem Zx (h:Ψ g):o4 Ψ Φ .normal g:=h
theorem Zy (h:Φ .ret g):o4 Ψ Φ .ret g:=h
theorem Zw (h:Φ (.exit k) g):o4 Ψ Φ (.exit k) g:=h
theorem Xj (h:Φ .normal g):l_ id Φ .normal g:=h
theorem Xk (h:Φ .ret g):l_ id Φ .ret g:=h
theorem Xh (h:Φ .normal g):l_ id Φ (.exit id) g:=by
 show if id=id then Φ .normal g else Φ (.exit id) g
 grind
theorem Xi (hk:Nat.beq k id=false) (h:Φ (.exit k) g):l_ id Φ (.exit k) g:=by
 show if k=id then Φ .normal g else Φ (.exit k) g
 grind [Nat.ne_of_beq_eq_false]
end
def Fin (P:Program) (N:c5) (rs:List ResultVar) (n:Nat) (outs:List (Option ab)) (res:ab) (e:Exit) (g':aK):Prop:=(e=.normal\/e=.ret)/\Leaves P N rs g' n outs res
theorem bU.fin {f:FuncId}{fn:Func}{c:Code}{args:List ab}{outs:List (Option ab)}{res:ab}{N:c5}(aW:P.funcs[f]?=some fn) (av:fn.body=some c) (bc:fn.ntmps=N.size) (aP:Nat.ble args.length N.size=true) (hlen:outs.length=args.length)
  (hw:W P N c (qb args) (Fin P N fn.results.toList args.length outs res)):bU P f args outs res:=.XL aW av bc (Nat.le_of_ble_eq_true aP) hlen hw
def sj (outs:List (Option ab)):Bool:=outs.all λx=>x.isNone
theorem Fu {outs:List (Option ab)}(h:sj outs=true) (k:Nat) (x:ab):outs[k]?≠some (some x):=by
 intro e;have:=List.all_eq_true.1 h _ (List.mem_of_getElem? e)
 grind
theorem Fin.one {t:Nat}{y res:ab}{outs:List (Option ab)}{n:Nat}(ax:Rd g (.tmp t) y) (aF:cU y) (a1:sj outs=true) (aj:outs.length=n) (he:y=res):Fin P N [.tmp t] n outs res .ret g :=
 ⟨.inr rfl,⟨[y],[y],g,.cons (.tmp ax.br) .nil,.bl (by simpa using aF),he.symm,λk x hk=>absurd hk (Fu a1 k x)⟩,aj⟩
inductive A4 (g:aK):List ResultVar->List ab->Prop
 | nil:A4 g [] []
 | cons {t:Nat}{y:ab}{rs:List ResultVar}{ys:List ab}(h:Rd g (.tmp t) y) (aF:cU y) (aw:A4 g rs ys):A4 g (.tmp t::rs) (y::ys)
theorem A4.spec {rs:List ResultVar}{ys:List ab}(h:A4 g rs ys):rI P g rs ys/\∀ y∈ys,cU y:=by
 induction h with
 | nil=>exact ⟨.nil,by simp⟩
 | cons h aF _ aU=>exact ⟨.cons (.tmp h.br) aU.1,pQ aF aU.2⟩
inductive qU (g:aK):List Operand->List ab->Prop
 | nil:qU g [] []
 | cons {x:Operand}{y:ab}{xs:List Operand}{ys:List ab}(h:Rd g x y) (aF:cU y) (aw:qU g xs ys):qU g (x::xs) (y::ys)
theorem qU.spec {xs:List Operand}{ys:List ab}(h:qU g xs ys):gp g xs=some ys/\∀ y∈ys,cU y:=by
 induction h with
 | nil=>exact ⟨rfl,by simp⟩
 | cons h aF _ aU=>exact ⟨by simp only [gp,h.br,aU.1],pQ aF aU.2⟩
theorem cK.Ty {xs:List Operand}{gq:Array TypeId}{f:FuncId}{ys:List ab}{outs:List (Option ab)}{res:ab}(gQ:bU P f ys outs res) (aW:gO P f=true) (J:qU g xs ys) (a1:sj outs=true) (ao:cU res) :
  cK P g (.call { callee:=.value (.func f),args:=xs.toArray,argTypes:=gq }) res:=by
 have r6:outs=ys.map λ_=>Option.none:=by
  apply List.ext_getElem?;intro k;rw [List.getElem?_map];cases ax:ys[k]? with
  | none=>rw [List.getElem?_eq_none (by rw [gQ.1]; exact List.getElem?_eq_none_iff.1 ax)]; rfl
  | some y =>
   have hk:k<outs.length:=by rw [gQ.1]; exact (List.getElem?_eq_some_iff.1 ax).1
   have h1:=List.getElem?_eq_getElem hk;rw [h1];cases af:outs[k] with
   | none=>rfl
   | some x=>rw [af] at h1; exact absurd h1 (Fu a1 k x)
 exact .plain (first:=[]) (caps:=[]) (ys:=ys) rfl (by simpa using J.spec.1) aW (by simpa using J.spec.2) (by simpa [<- r6] using gQ) ao
end
end Go.Own
namespace Go.Own
open Go
def lI (s:ByteArray) (m:Int):Int:=((s[m.toNat]?.getD 0).toNat:Nat)
def rP (s:ByteArray) (m n:Int):ByteArray:=s.extract m.toNat n.toNat
section
variable {P:Program}{N:c5}{ops:Array Oper}{g:aK}{K:aK->Prop}{l:List Oper}
variable {d:Nat}{op:Op}{ty:TypeId}{pos:String}{after:Array Edge}{x:ab}{a b:Operand}{t t2:TypeId}{k:IntKind}{m n:Int}{gd:Option (Nat × Bool)}
theorem c6.R5 {s:ByteArray}{i:Operand}(J:Rd g a (.lit (.string s))) (hi:Rd g i (.lit (.int k m))) (aw:o2 P t=true) (h:0<=m/\m<s.size):c6 P g (.index t a i) ty (.lit (.int .u8 (lI s m))):=by
 obtain ⟨j,rfl⟩:=Int.eq_ofNat_of_zero_le h.1;have ah:j<s.size:=by omega
 have av:s[j]?=some s[j]:=getElem?_pos s j ah;have:lI s (j:Int)=(s[j].toNat:Nat):=by simp [lI,av]
 rw [this];exact .E5 J.br hi.br aw av
theorem c6.Qg {s:ByteArray}{lo hi:Operand}{oV:IntKind}(J:Rd g a (.lit (.string s))) (aj:Rd g lo (.lit (.int k m))) (bY:Rd g hi (.lit (.int oV n))) (aw:o2 P t=true) (h:0<=m/\m<=n/\n<=s.size) :
  c6 P g (.slice t a (some lo) (some hi) none) ty (.lit (.string (rP s m n))):=by
 obtain ⟨i,rfl⟩:=Int.eq_ofNat_of_zero_le h.1;obtain ⟨j,rfl⟩:=Int.eq_ofNat_of_zero_le (show 0<=n by omega);exact .AF J.br ⟨_,aj.br⟩ ⟨_,bY.br⟩ aw (by omega) (by omega)
theorem c6.Y5 {s:ByteArray}{hi:Operand}{oV:IntKind}(J:Rd g a (.lit (.string s))) (bY:Rd g hi (.lit (.int oV n))) (aw:o2 P t=true) (h:0<=n/\n<=s.size) :
  c6 P g (.slice t a none (some hi) none) ty (.lit (.string (rP s 0 n))):=by
 obtain ⟨j,rfl⟩:=Int.eq_ofNat_of_zero_le h.1;exact .AF (l:=0) J.br rfl ⟨_,bY.br⟩ aw (by omega) (by omega)
theorem c6.Y6 {s:ByteArray}{lo:Operand}(J:Rd g a (.lit (.string s))) (aj:Rd g lo (.lit (.int k m))) (aw:o2 P t=true) (h:0<=m/\m<=s.size) :
  c6 P g (.slice t a (some lo) none none) ty (.lit (.string (rP s m s.size))):=by
 obtain ⟨j,rfl⟩:=Int.eq_ofNat_of_zero_le h.1;exact .AF (h:=s.size) J.br ⟨_,aj.br⟩ rfl aw (by omega) (by omega)
theorem Tj {s:ByteArray}{m n:Int}(h:0<=m/\m<=n/\n<=s.size):((rP s m n).size:Int)=n - m:=by
 grind [rP,ByteArray.size_extract]
theorem c6.bytes {z p i_:Nat}{cs:List ab}{xs:List Int}(J:g p=some (.own 1 i_ cs)) (hJ:cs=xs.map λb=>.lit (.int .u8 b)) (aj:cs.length=i_) (aw:wQ P t t2=true) (_hz:z=0):c6 P g (.convert t t2 (.tmp p)) ty (.lit (.string (strOfNums xs))) :=
 .Ed (p:=⟨p,[]⟩) (n:=i_) (N:=i_) (cs:=cs) (by simp [br,J,rq,gw]) (by simp [bB,J,ab.at]) (Nat.le_refl _) (by rw [List.take_of_length_le (by omega)]; exact hJ) aw
def ie (P:Program) (e:TypeId) (z:Nat):Bool :=
 match (P.info? e).bind (·.zero) with
 | some v=>v.cells.size == z
 | none=>false
theorem Le {e:TypeId}{z:Nat}(h:ie P e z=true):∃ v,(P.info? e).bind (·.zero)=some v/\v.cells.size=z:=by
 grind [ie]
inductive tp (g:aK):List Operand->List Value->Prop
 | nil:tp g [] []
 | cons {x:Operand}{v:Value}{xs:List Operand}{vs:List Value}(h:Rd g x (.lit v)) (aw:tp g xs vs):tp g (x::xs) (v::vs)
theorem tp.gp {xs:List Operand}{vs:List Value}(h:tp g xs vs):gp g xs=some (vs.map .lit):=by
 induction h with
 | nil=>rfl
 | cons h _ aU=>simp only [Own.gp,h.br,aU]; rfl
theorem tp.map {xs:List Operand}{vs:List Value}(h:tp g xs vs):xs.map (br g)=vs.map λv=>some (.lit v):=by
 induction h with
 | nil=>rfl
 | cons h _ aU=>simp only [List.map_cons,h.br,aU]
theorem ch.row {e:TypeId}{xs:List Operand}{vs:List Value}{parts:Array (Nat × Operand)}{dy:Nat}(J:tp g xs vs) (au:parts.toList=xs.mapIdx (λi x=>(i,x))) (aF:xs.length=dy) (aw:fq P t e 1=true) (aX:ie P e 1=true) (av:Nat.ble dy 1000=true) :
  ch P g (.buildSlice t dy parts) ty (.own 1 dy (vs.map .lit)):=by
 subst aF;have l3:=Nat.le_of_ble_eq_true av;refine .rj (.buildSlice aw au J.gp (λy ax=>?_) ?_ (by omega) (by omega) (.inr (Le aX)))
 ·obtain ⟨v,_,rfl⟩:=List.mem_map.1 ax;exact ⟨[.lit v],rfl,rfl⟩
 ·generalize vs=l
  induction l with
  | nil=>rfl
  | cons v l aU=>simp only [List.map_cons,mm,jT,aU]; rfl
inductive tq (g:aK):List Nat->List (Nat × ab)->Prop
 | nil:tq g [] []
 | some {s:Nat}{x:ab}{td:List Nat}{l:List (Nat × ab)}(h:g s=some x) (aF:cU x) (aw:tq g td l):tq g (s::td) ((s,x)::l)
 | none {s:Nat}{td:List Nat}{l:List (Nat × ab)}(aw:tq g td l):tq g (s::td) l
theorem tq.spec {g:aK}{td:List Nat}{l:List (Nat × ab)}(h:tq g td l):∀ t x,get l t=Option.some x->g t=Option.some x/\cU x:=by
 induction h with
 | nil=>intro t x J; cases J
 | @some s y td l h aF _ aU =>
  grind [get]
 | none _ aU=>exact aU
theorem tq.eX {g:aK}{td:List Nat}{l:List (Nat × ab)}(h:tq g td l):kr g (get l) :=
 ⟨λt x J=>⟨x,(h.spec t x J).1,.refl⟩,λt x J=>.bl (h.spec t x J).2,λt z q n m new J=>by have:=(h.spec t _ J).2; cases this⟩
end
end Go.Own
namespace Go.Own
open Go
def oD (s:ByteArray) (n:Nat):Prop:=s.size<=n
theorem oD.app {s u:ByteArray}{a b:Nat}(h:oD s a) (aR:oD u b):oD (s++u) (a+b):=by
 unfold oD at *;rw [ByteArray.size_append]; omega
theorem oD.cut {s:ByteArray}{a:Nat}{m n:Int}(h:oD s a):oD (rP s m n) a:=by
 unfold oD rP at *;rw [ByteArray.size_extract]; omega
theorem oD.const {xs:Array UInt8}:oD ⟨xs⟩ xs.size:=Nat.le_refl _
theorem oD.of {s:ByteArray}{n:Nat}(h:s.size<=n):oD s n:=h
theorem oD.self {s:ByteArray}:oD s s.size:=Nat.le_refl _
section
variable {P:Program}{g:aK}{ty:TypeId}{a b:Operand}{t t2:TypeId}{N:c5}{ops:Array Oper}{K:aK->Prop}{l:List Oper}{d:Nat}{pos:String}{after:Array Edge}{gd:Option (Nat × Bool)}
theorem W.Mr {c:Operand}{x y:Code}{Φ:Exit->aK->Prop}{b:Bool}(aa:Rd g c (.lit (.bool b))) (dM:b=true->W P N x g Φ) (aN:b=false->W P N y g Φ):W P N (.cond c x y) g Φ:=by
 cases b with
 | true=>exact .Ms aa.br (dM rfl)
 | false=>exact .Mq aa.br (aN rfl)
theorem YK {c e:Bool}(aw:P.underlying t=some .bool) (w:World):(do eqGuard .eql t a b (.bool c) (.bool e); binOp .eql t (.bool c) (.bool e):Sem Value).run P w=.ok (.bool (c == e)) w:=by
 have h:=run_equal_bool w t c e aw;simp [eqGuard,binOp,h]
def G_ (P:Program) (t:TypeId):Bool :=
 match P.underlying t with
 | some .bool=>true
 | _=>false
theorem Sa (h:G_ P t=true):P.underlying t=some .bool:=by
 unfold G_ at h
 split at h
 ·assumption
 ·cases h
def xz (P:Program) (t:TypeId) (k:IntKind):Bool :=
 match P.underlying t with
 | some (.int k1)=>k1 == k
 | _=>false
theorem OI {k:IntKind}(h:xz P t k=true):P.underlying t=some (.int k):=by
 unfold xz at h
 split at h
 ·rename_i k1 hk; rw [hk]; have:k1=k:=by simpa using h
  rw [this]
 ·cases h
theorem c6.Te {k k1:IntKind}{m:Int}(J:Rd g a (.lit (.int k m))) (aB:xz P t k=true) (aS:xz P t2 k1=true):c6 P g (.convert t t2 a) ty (.lit (.int k1 (k1.wrap m))) :=
 .conv J.br rfl λw=>by simp [convert,run_underlying (OI aB),run_underlying (OI aS),Conv.intToInt]
inductive Bytes (g:aK):List Operand->List Int->Prop
 | nil:Bytes g [] []
 | cons {x:Operand}{v:Int}{xs:List Operand}{vs:List Int}(h:Rd g x (.lit (.int .u8 v))) (aw:Bytes g xs vs):Bytes g (x::xs) (v::vs)
theorem Bytes.lits {xs:List Operand}{vs:List Int}(h:Bytes g xs vs):tp g xs (vs.map λb=>.int .u8 b):=by
 induction h with
 | nil=>exact .nil
 | cons h _ aU=>exact .cons h aU
end
end Go.Own
namespace Go.Own
open Go Go.RowKit
theorem cI.lits {w:World}(vs:List Value) (h:∀ v∈vs,v.oneCell'=true):cI w (λ_=>False) vs.toArray (qb (vs.map .lit)) (λ_=>cw):=by
 refine ⟨λt x J=>?_,λ_ _ _ h=>h,λ_ _ _ h=>h.elim,λ_ _ h=>h.elim,λ_ h=>h.elim,λt t' z p n m new bC cH m' c3 h1 _=>?_⟩
 ·simp only [qb,List.getElem?_map] at J;cases hv:vs[t]? with
  | none=>rw [hv] at J; cases J
  | some v =>
   rw [hv] at J;simp only [Option.map_some,Option.some.injEq] at J;subst J;exact ⟨v,by simpa using hv,.tree (.lit (h v (List.mem_of_getElem? hv)) λ_ h=>h)⟩
 grind [qb]
end Go.Own
namespace Go.Own
open Go
section
variable {P:Program}{g:aK}{ty:TypeId}{a b:Operand}{t t2:TypeId}{N:c5}{ops:Array Oper}{K:aK->Prop}{l:List Oper}{d:Nat}{pos:String}{after:Array Edge}{gd:Option (Nat × Bool)}
theorem c6.mB {z n bC:Nat}{p:Place}{e:TypeId}(J:Rd g a (.a6 z p n)) (aw:fq P t e bC=true):c6 P g (.call { callee:=.builtin .len,args:=#[a],argTypes:=#[t] }) ty (.lit (.int .i64 n)):=.Cu J.br aw
theorem c6.kC {z n bC:Nat}{cs:List ab}{e:TypeId}(J:Rd g a (.bk z n cs)) (aw:fq P t e bC=true):c6 P g (.call { callee:=.builtin .len,args:=#[a],argTypes:=#[t] }) ty (.lit (.int .i64 n)):=.Cv J.br aw
end
end Go.Own
namespace Go.Own
open Go
end Go.Own
namespace Go.Own
open Go
structure bK (α:Type) where
 z:Nat
 cells:α->List ab
 len:∀ a,(cells a).length=z
 bl:∀ a,∀ x∈cells a,cU x
variable {α β S R:Type}
def bo (e:bK α) (l:List α):List ab:=l.flatMap e.cells
abbrev ak (e:bK α) (l:List α):ab:=.own e.z l.length (bo e l)
abbrev ag (e:bK α) (l:List α):ab:=.bk e.z l.length (bo e l)
abbrev ae (n:Int):ab:=.lit (.int .i64 n)
abbrev qY (n:Int):ab:=.lit (.int .u8 n)
abbrev a_ (b:Bool):ab:=.lit (.bool b)
abbrev ay (s:ByteArray):ab:=.lit (.string s)
abbrev aJ (n:Int):Int:=IntKind.i64.wrap n
abbrev yx (n:Int):Int:=IntKind.u8.wrap n
theorem nn (e:bK α) (l:List α):(bo e l).length=l.length * e.z:=by
 induction l with
 | nil=>simp [bo]
 | cons a l aU =>
  have:bo e (a::l)=e.cells a++bo e l:=by simp [bo]
  rw [this,List.length_append,e.len,aU,List.length_cons,Nat.add_mul]; omega
theorem pU (e:bK α) (l:List α):∀ x∈bo e l,cU x:=by
 intro x J;obtain ⟨a,_,h⟩:=List.mem_flatMap.1 J;exact e.bl a x h
theorem FT (e:bK α) (l m:List α):bo e (l++m)=bo e l++bo e m:=by simp [bo]
theorem AB (e:bK α):∀ (l:List α) (i:Nat),(bo e l).drop (i * e.z)=bo e (l.drop i)
 | l,0=>by simp
 | [],i+1=>by simp [bo]
 | a::l,i+1=>by
  have h:bo e (a::l)=e.cells a++bo e l:=by simp [bo]
  rw [h,List.drop_append,e.len,List.drop_eq_nil_of_le (by rw [e.len,Nat.add_mul]; omega)];have:(i+1) * e.z - e.z=i * e.z:=by rw [Nat.add_mul]; omega
  rw [this,List.nil_append,AB e l i]; rfl
theorem yi (e:bK α):∀ (l:List α) (i:Nat),(bo e l).take (i * e.z)=bo e (l.take i)
 | l,0=>by simp [bo]
 | [],i+1=>by simp [bo]
 | a::l,i+1=>by
  have h:bo e (a::l)=e.cells a++bo e l:=by simp [bo]
  rw [h,List.take_append,e.len,List.take_of_length_le (by rw [e.len,Nat.add_mul]; omega)];have:(i+1) * e.z - e.z=i * e.z:=by rw [Nat.add_mul]; omega
  rw [this,yi e l i]; simp [bo]
def idx (l:List α) (i:Int):Option α:=if 0<=i then l[i.toNat]? else none
theorem pM {l:List α}{i:Int}{y:α}(h:idx l i=some y):0<=i/\i<l.length/\l[i.toNat]?=some y:=by
 grind [idx]
theorem KC (e:bK α) {l:List α}{i:Int}{y:α}(h:idx l i=some y):(bo e l).drop (i.toNat * e.z)=e.cells y++bo e (l.drop (i.toNat+1)):=by
 obtain ⟨aQ,h1,af⟩:=pM h
 grind [AB,List.drop_eq_getElem_cons,bo]
theorem KB (e:bK α) {l:List α}{i:Int}{y:α}(h:idx l i=some y) {k:Nat}{x:ab}(hk:(e.cells y)[k]?=some x):(bo e l)[i.toNat * e.z+k]?=some x:=by
 have aT:=(List.getElem?_eq_some_iff.1 hk).1;rw [<- List.getElem?_drop,KC e h,List.getElem?_append_left aT]; exact hk
abbrev lim:Nat:=1099511627776
def fuel:Nat:=1000000000000000000
def iter (f:S->Option (S ⊕ R)):Nat->S->Option R
 | 0,_=>none
 | n+1,s=>match f s with
  | none=>none
  | some (.inl cT)=>iter f n cT
  | some (.inr r)=>some r
def b2 (f:S->Option (S ⊕ R)) (s:S):Option R:=iter f fuel s
theorem lb {o:Option α}{f:α->Option β}{r:β}(h:o.bind f=some r):∃ y,o=some y/\f y=some r:=Option.bind_eq_some_iff.1 h
theorem SM {b:Bool}{x y o:α}(av:b=true) (h:cond b x y=o):x=o:=by
 grind
theorem SL {b:Bool}{x y o:α}(av:b=false) (h:cond b x y=o):y=o:=by
 grind
theorem fG {b:Bool}{x y o:α}(h:cond b x y=o):(b=true/\x=o)\/(b=false/\y=o):=by
 grind
theorem aV {a b:α}(h:some a=some b):a=b:=by grind
class cf (x:ab):Prop where bl:cU x
class dp (cs:List ab):Prop where bl:∀ x∈cs,cU x
instance {v:Value}:cf (.lit v):=⟨.lit⟩
instance:cf .aL:=⟨.aL⟩
instance:cf .dead:=⟨.dead⟩
instance {z n:Nat}{cs:List ab} [h:dp cs]:cf (.bk z n cs):=⟨.bk h.bl⟩
instance {z n:Nat}{cs:List ab} [h:dp cs]:cf (.own z n cs):=⟨.own h.bl⟩
instance {cs:List ab} [h:dp cs]:cf (.obj cs):=⟨.obj h.bl⟩
instance {cs:List ab} [h:dp cs]:cf (.agg cs):=⟨.agg h.bl⟩
instance {cs:List ab} [h:dp cs]:cf (.bV cs):=⟨.bV h.bl⟩
instance {cs:List ab} [h:dp cs]:cf (.cJ cs):=⟨.cJ h.bl⟩
instance {f:Fn}{a b:List ab} [h:dp a] [aR:dp b]:cf (.cX f a b):=⟨.cX h.bl aR.bl⟩
instance:dp []:=⟨by simp⟩
instance {x:ab}{cs:List ab} [h:cf x] [aR:dp cs]:dp (x::cs):=⟨pQ h.bl aR.bl⟩
instance {e:bK α}{l:List α}:dp (bo e l):=⟨pU e l⟩
instance {e:bK α}{a:α}:dp (e.cells a):=⟨e.bl a⟩
instance {a b:List ab} [h:dp a] [aR:dp b]:dp (a++b):=⟨λx J=>(List.mem_append.1 J).elim (h.bl x) (aR.bl x)⟩
instance {a:List ab}{n:Nat} [h:dp a]:dp (a.drop n):=⟨λx J=>h.bl x (List.mem_of_mem_drop J)⟩
instance {a:List ab}{n:Nat} [h:dp a]:dp (a.take n):=⟨λx J=>h.bl x (List.mem_of_mem_take J)⟩
instance {v:Value}{n:Nat}:dp (List.replicate n (.lit v)):=⟨λx J=>by rw [(List.mem_replicate.1 J).2]; exact .lit⟩
abbrev bK.one (f:α->ab) (h:∀ a,cU (f a)):bK α:=⟨1,λa=>[f a],λ_=>rfl,λa x J=>by rw [List.mem_singleton.1 J]; exact h a⟩
def ai:bK Int:=.one (λn=>ae n) λ_=>.lit
def qf:bK Int:=.one (λn=>qY n) λ_=>.lit
def cp:bK Bool:=.one (λb=>a_ b) λ_=>.lit
def dv:bK ByteArray:=.one (λs=>ay s) λ_=>.lit
def MD (e:bK α):bK (List α):=.one (λl=>ak e l) λl=>.own (pU e l)
def bq (e:bK α):bK (List α):=.one (λl=>ag e l) λl=>.bk (pU e l)
inductive Trim (b:Bool) (g g2:aK):List (Nat × ab)->Prop
 | nil:Trim b g g2 []
 | n {s:Nat}{x:ab}{l:List (Nat × ab)}(h:g s=some x) [aF:cf x] (t:Trim b g g2 l):Trim b g g2 ((s,x)::l)
 | r {s:Nat}{x:ab}{l:List (Nat × ab)}(h:g s=some x) (aF:dh g2 x) (au:∀ z p n m new,x≠.bL z p n m new) (t:Trim b g g2 l):Trim b g g2 ((s,x)::l)
 | e {s:Nat}{x y:ab}{l:List (Nat × ab)}(h:g s=some y) (he:y=x) [aF:cf x] (t:Trim b g g2 l):Trim b g g2 ((s,x)::l)
 | w {s:Nat}{x y:ab}{l:List (Nat × ab)}(av:b=true) (h:g s=some y) (hw:pf y x) [aF:cf x] (t:Trim b g g2 l):Trim b g g2 ((s,x)::l)
theorem Trim.spec {b:Bool}{g g2:aK}{l:List (Nat × ab)}(h:Trim b g g2 l):∀ t x,get l t=some x->(∃ y,g t=some y/\pf y x/\(b=false->y=x))/\dh g2 x/\∀ z p n m new,x≠.bL z p n m new:=by
 have fy:∀ {x:ab},cU x->∀ z p n m new,x≠.bL z p n m new:=by rintro x h z p n m new rfl; cases h
 induction h with
 | nil=>intro t x J; cases J
 | @n _ _ _ h aF _ aU =>
  intro t x J;simp only [get] at J
  split at J
  ·rename_i e;subst e;cases J;exact ⟨⟨_,h,.refl,λ_=>rfl⟩,.bl aF.bl,fy aF.bl⟩
  grind
 | r h aF au _ aU =>
  intro t x J;simp only [get] at J
  split at J
  ·rename_i e;subst e;cases J;exact ⟨⟨_,h,.refl,λ_=>rfl⟩,aF,au⟩
  grind
 | @e _ _ _ _ h he aF _ aU =>
  intro t x J;simp only [get] at J
  split at J
  ·rename_i e;subst e he;cases J;exact ⟨⟨_,h,.refl,λ_=>rfl⟩,.bl aF.bl,fy aF.bl⟩
  grind
 | @w _ _ _ _ av h hw aF _ aU =>
  intro t x J;simp only [get] at J
  split at J
  ·rename_i e;subst e;cases J;exact ⟨⟨_,h,hw,λh=>by rw [av] at h; cases h⟩,.bl aF.bl,fy aF.bl⟩
  grind
theorem Trim.eX {b:Bool}{g:aK}{l:List (Nat × ab)}(h:Trim b g (get l) l):kr g (get l) :=
 ⟨λt x J=>by obtain ⟨⟨y,h1,af,_⟩,_⟩:=h.spec t x J; exact ⟨y,h1,af⟩,λt x J=>(h.spec t x J).2.1,λt z q n m new J=>(h.spec t _ J).2.2 _ _ _ _ _ rfl⟩
theorem Trim.keep {g:aK}{l:List (Nat × ab)}(h:Trim false g (get l) l):hF g (get l) :=
 ⟨λt x J=>by obtain ⟨⟨y,h1,_,aI⟩,_⟩:=h.spec t x J; rw [<- aI rfl]; exact h1,λt x J=>(h.spec t x J).2.1,λt z q n m new J=>(h.spec t _ J).2.2 _ _ _ _ _ rfl⟩
section
variable {P:Program}{N:c5}{ops:Array Oper}{g:aK}{K:aK->Prop}{l:List Oper}{d:Nat}{op:Op}{ty:TypeId}{pos:String}{after:Array Edge}{x:ab}{gd:Option (Nat × Bool)}
def jH (P:Program) (N:c5) (c:Code) (G G1:List (Nat × ab)):Prop:=W P N c (get G) λe g'=>e=.normal/\kr g' (get G1)
theorem W.bA {A B:Code}{G G1:List (Nat × ab)}{Φ:Exit->aK->Prop}(h1:jH P N A G G1) (af:W P N B (get G1) Φ):W P N (.seq A B) (get G) Φ:=by
 refine W.seq (W.out h1 λe g' h=>⟨get G1,h.2,?_⟩);obtain ⟨rfl,_⟩:=h;exact af
theorem W.bI {A B:Code}{G:List (Nat × ab)}{Φ:Exit->aK->Prop}(h:W P N A (get G) (o4 (λg1=>W P N B g1 Φ) Φ)):W P N (.seq A B) (get G) Φ:=W.seq h
theorem jH.rg {id:Nat}{l:List Oper}{G G1:List (Nat × ab)}(h:ar P N l.toArray l (get G) λg'=>kr g' (get G1)):jH P N (.region id l.toArray false) G G1 :=
 W.AA (λi hi=>by obtain ⟨g',h1,af⟩:=h i hi; exact ⟨g',h1,rfl,af⟩)
theorem ar.fin {G1:List (Nat × ab)}(h:Trim true g (get G1) G1):ar P N ops [] g λg'=>kr g' (get G1):=.nil h.eX
theorem ar.Dl {G1:List (Nat × ab)}(h:Trim false g (get G1) G1) (hk:ar P N ops l (get G1) K):ar P N ops l g K:=.forget h.keep hk
theorem ar.v (au:ch P g op ty x) (bc:N.ok d=true) (aW:g d=none) (aO:fu g ops gd) (hk:ar P N ops l (cV g d x) K):ar P N ops (⟨some d,op,ty,pos,after,gd⟩::l) g K:=.ZM au bc aW aO hk
theorem ar.c (au:cK P g op x) (bc:N.ok d=true) (aW:g d=none) (aO:fu g ops gd) (hk:ar P N ops l (cV g d x) K):ar P N ops (⟨some d,op,ty,pos,after,gd⟩::l) g K:=.call au bc aW aO hk
theorem fu.fr {j t:Nat}{b c:Bool}(h:(ops[j]?).bind (·.dst)=some t) (aO:g t=some (.lit (.bool c))) (av:c=b):fu g ops (some (j,b)):=by subst av; exact .yes h aO
theorem ar.ps {j t':Nat}{b c:Bool}(h:(ops[j]?).bind (·.dst)=some t') (aO:g t'=some (.lit (.bool c))) (av:c=!b) (bc:N.ok d=true) (aW:g d=none) (hk:ar P N ops l (cV g d (.bV [])) K):ar P N ops (⟨some d,op,ty,pos,after,some (j,b)⟩::l) g K:=by
 subst av; exact .AG rfl bc aW (r:=some (.bV [])) (.inr (.inl ⟨⟨t',h,.inl ⟨_,aO,by cases b <;> rfl⟩⟩,rfl⟩)) hk
theorem ar.pu {j t':Nat}{b:Bool}(h:(ops[j]?).bind (·.dst)=some t') (aO:g t'=some (.bV [])) (bc:N.ok d=true) (aW:g d=none) (hk:ar P N ops l (cV g d (.bV [])) K):ar P N ops (⟨some d,op,ty,pos,after,some (j,b)⟩::l) g K :=
 .AG rfl bc aW (r:=some (.bV [])) (.inr (.inl ⟨⟨t',h,.inr ⟨aO,rfl⟩⟩,rfl⟩)) hk
theorem jH.skip {G G1:List (Nat × ab)}(h:Trim true (get G) (get G1) G1):jH P N .skip G G1:=W.skip ⟨rfl,h.eX⟩
theorem jH.fG {t:Nat}{A B:Code}{b:Bool}{G G1:List (Nat × ab)}(aa:get G t=some (a_ b)) (dM:b=true->jH P N A G G1) (aN:b=false->jH P N B G G1):jH P N (.cond (.tmp t) A B) G G1:=W.Mr (.lit aa) dM aN
theorem W.fG {t:Nat}{A B:Code}{b:Bool}{G:List (Nat × ab)}{Φ:Exit->aK->Prop}(aa:get G t=some (a_ b)) (dM:b=true->W P N A (get G) Φ) (aN:b=false->W P N B (get G) Φ):W P N (.cond (.tmp t) A B) (get G) Φ:=W.Mr (.lit aa) dM aN
theorem jH.bA {A B:Code}{G G1 G2:List (Nat × ab)}(h1:jH P N A G G1) (af:jH P N B G1 G2):jH P N (.seq A B) G G2:=W.bA h1 af
theorem jH.D_ {id:Nat}{c:Code}{G G1:List (Nat × ab)}(h:W P N c (get G) λe g'=>(e=.normal\/e=.exit id)/\kr g' (get G1)):jH P N (.block id c) G G1:=by
 refine W.block (h.mono ?_);rintro e g' ⟨rfl | rfl,h⟩
 ·exact ⟨rfl,h⟩
 ·show if id=id then _ else _
  grind
end
end Go.Own
namespace Go.Own
open Go
variable {α β:Type}
def kt (s:ByteArray) (m:Int):Option Int:=if 0<=m/\m<s.size then some (lI s m) else none
def q3 (s:ByteArray) (m n:Int):Option ByteArray:=if 0<=m/\m<=n/\n<=s.size then some (rP s m n) else none
def tG (s u:ByteArray):Option ByteArray:=if s.size+u.size<=4611686018427387904 then some (s++u) else none
def FL (m n:Int):Option Int:=if n=0 then none else some (aJ (m.tdiv n))
def rr (m n:Int):Option Int:=if n=0 then none else some (m.tmod n)
def nU (l:List α) (m n:Int):Option (List α):=if 0<=m/\m<=n/\n<=l.length then some ((l.drop m.toNat).take (n - m).toNat) else none
def l2:ab->Bool
 | .lit _ | .aL | .bk .. | .cJ _ | .cX .. | .ptr .. | .a6 .. | .sub .. | .gz .. | .imp ..=>true
 | _=>false
theorem TQ {d:Nat}{p:Place}{x:ab}(h:l2 x=true):gw d p x=x:=by
 cases x <;> simp [l2] at h <;> cases d <;> rfl
theorem TR {t:Nat}{x:ab}(h:l2 x=true):rq t x=x:=by
 cases x <;> simp [l2] at h <;> rfl
theorem Bs {d:Nat}{q:Nat->Place}{cs:List ab}(h:cs.all l2=true):(cs.mapIdx λi x=>gw d (q i) x)=cs:=by
 apply List.ext_getElem?;intro k;rw [List.getElem?_mapIdx];cases hk:cs[k]? with
 | none=>rfl
 | some x=>simp only [Option.map_some,TQ (List.all_eq_true.1 h x (List.mem_of_getElem? hk))]
section
variable {P:Program}{N:c5}{ops:Array Oper}{g:aK}{K:aK->Prop}{l:List Oper}{d:Nat}{ty t t2:TypeId}{a b c:Operand}{k k1:IntKind}{m n:Int}{s u:ByteArray}{p q e:Bool}
theorem Rd.f {t:Nat}{x:ab}(h:g t=some x) (aW:l2 x=true):Own.br g (.tmp t)=some x:=by simp only [Own.br,h,Option.map_some,TR aW]
theorem Rd.dJ {t:Nat}{cs:List ab}(h:g t=some (.agg cs)) (aW:cs.all l2=true):Rd g (.tmp t) (.agg cs):=.agg h (Bs aW)
theorem Rd.Qz {t:Nat}{cs:List ab}(h:g t=some (.bV cs)) (aW:cs.all l2=true):Rd g (.tmp t) (.bV cs):=.bV h (Bs aW)
namespace O
theorem aZ {y:ab}(h:Rd g a y):ch P g (.move a) ty y:=.eW (.move h.br)
theorem az {y:ab}(h:Rd g a y):ch P g (.assign a) ty y:=.eW (.assign h.br)
theorem hU {y:ab}(aa:Rd g c (a_ p)) (av:p=true) (h:Rd g a y):ch P g (.pick c a b) ty y:=by subst av; exact .eW (.Yh aa h)
theorem dB {y:ab}(aa:Rd g c (a_ p)) (av:p=false) (h:Rd g b y):ch P g (.pick c a b) ty y:=by subst av; exact .eW (.Yg aa h)
theorem add (J:Rd g a (.lit (.int k m))) (ax:Rd g b (.lit (.int k n))):ch P g (.binOp .add t a b t2) ty (.lit (.int k (k.wrap (m+n)))):=.eW (.add J ax)
theorem sub (J:Rd g a (.lit (.int k m))) (ax:Rd g b (.lit (.int k n))):ch P g (.binOp .sub t a b t2) ty (.lit (.int k (k.wrap (m - n)))):=.eW (.Zj J ax)
theorem mul (J:Rd g a (.lit (.int k m))) (ax:Rd g b (.lit (.int k n))):ch P g (.binOp .mul t a b t2) ty (.lit (.int k (k.wrap (m * n)))):=.eW (.mul J ax)
theorem quo {r:Int}(J:Rd g a (ae m)) (ax:Rd g b (ae n)) (h:FL m n=some r):ch P g (.binOp .quo t a b t2) ty (ae r):=by
 unfold FL at h
 split at h
 ·cases h
 ·cases h; exact .eW (.quo J ax (by assumption))
theorem rem {r:Int}(J:Rd g a (ae m)) (ax:Rd g b (ae n)) (h:rr m n=some r):ch P g (.binOp .rem t a b t2) ty (ae r):=by
 unfold rr at h
 split at h
 ·cases h
 ·cases h; exact .eW (.rem J ax (by assumption))
theorem lss (J:Rd g a (.lit (.int k m))) (ax:Rd g b (.lit (.int k n))):ch P g (.binOp .lss t a b t2) ty (a_ (decide (m<n))):=.eW (.lss J ax (by simp))
theorem leq (J:Rd g a (.lit (.int k m))) (ax:Rd g b (.lit (.int k n))):ch P g (.binOp .leq t a b t2) ty (a_ (decide (m<=n))):=.eW (.leq J ax (by simp))
theorem gtr (J:Rd g a (.lit (.int k m))) (ax:Rd g b (.lit (.int k n))):ch P g (.binOp .gtr t a b t2) ty (a_ (decide (n<m))):=.eW (.gtr J ax (by simp))
theorem geq (J:Rd g a (.lit (.int k m))) (ax:Rd g b (.lit (.int k n))):ch P g (.binOp .geq t a b t2) ty (a_ (decide (n<=m))):=.eW (.geq J ax (by simp))
theorem eql (J:Rd g a (.lit (.int k m))) (ax:Rd g b (.lit (.int k n))):ch P g (.binOp .eql t a b t2) ty (a_ (decide (m=n))):=.eW (.eql J ax (by simp))
theorem neq (J:Rd g a (.lit (.int k m))) (ax:Rd g b (.lit (.int k n))):ch P g (.binOp .neq t a b t2) ty (a_ (!decide (m=n))):=.eW (.neq J ax (by simp))
theorem qg (J:Rd g a (ay s)) (ax:Rd g b (ay u)):ch P g (.binOp .eql t a b t2) ty (a_ (decide (s=u))):=.eW (.qg J ax (by simp))
theorem oo (J:Rd g a (ay s)) (ax:Rd g b (ay u)):ch P g (.binOp .neq t a b t2) ty (a_ (!decide (s=u))):=.eW (.oo J ax (by simp))
theorem Ej (J:Rd g a (a_ p)) (ax:Rd g b (a_ q)) (aw:G_ P t=true):ch P g (.binOp .eql t a b t2) ty (a_ (p == q)):=.eW (.bin J.br ax.br rfl λw=>YK (Sa aw) w)
theorem neg (J:Rd g a (.lit (.int k m))):ch P g (.unOp .neg t a) ty (.lit (.int k (k.wrap (-m)))):=.eW (.un J.br rfl λw=>by simp [Op.unary,Op.intArith])
theorem not (J:Rd g a (a_ p)):ch P g (.unOp .not t a) ty (a_ (!p)):=.eW (.not J)
theorem Tl (J:Rd g a (.lit (.int k m))) (aB:xz P t k=true) (aS:xz P t2 k1=true):ch P g (.convert t t2 a) ty (.lit (.int k1 (k1.wrap m))):=.eW (.Te J aB aS)
theorem cat {r:ByteArray}(J:Rd g a (ay s)) (ax:Rd g b (ay u)) (h:tG s u=some r):ch P g (.binOp .add t a b t2) ty (ay r):=by
 unfold tG at h
 split at h
 ·cases h; exact .eW (.cat J ax (by omega))
 ·cases h
theorem uv (J:Rd g a (ay s)) (aw:o2 P t=true):ch P g (.call { callee:=.builtin .len,args:=#[a],argTypes:=#[t] }) ty (ae s.size):=.eW (.uv J aw)
theorem ml {r:Int}(J:Rd g a (ay s)) (ax:Rd g b (.lit (.int k m))) (aw:o2 P t=true) (h:kt s m=some r):ch P g (.index t a b) ty (qY r):=by
 unfold kt at h
 split at h
 ·cases h; exact .eW (.R5 J ax aw (by assumption))
 ·cases h
theorem yo {r:ByteArray}{oV:IntKind}(J:Rd g a (ay s)) (aj:Rd g b (.lit (.int k m))) (bY:Rd g c (.lit (.int oV n))) (aw:o2 P t=true) (h:q3 s m n=some r):ch P g (.slice t a (some b) (some c) none) ty (ay r):=by
 unfold q3 at h
 split at h
 ·cases h; exact .eW (.Qg J aj bY aw (by assumption))
 ·cases h
theorem F2 {r:ByteArray}(J:Rd g a (ay s)) (bY:Rd g c (.lit (.int k n))) (aw:o2 P t=true) (h:q3 s 0 n=some r):ch P g (.slice t a none (some c) none) ty (ay r):=by
 unfold q3 at h
 split at h
 ·rename_i aa; cases h; exact .eW (.Y5 J bY aw ⟨aa.2.1,aa.2.2⟩)
 ·cases h
theorem F3 {r:ByteArray}(J:Rd g a (ay s)) (aj:Rd g b (.lit (.int k m))) (aw:o2 P t=true) (h:q3 s m s.size=some r):ch P g (.slice t a (some b) none none) ty (ay r):=by
 unfold q3 at h
 split at h
 ·rename_i aa; cases h; exact .eW (.Y6 J aj aw ⟨aa.1,aa.2.1⟩)
 ·cases h
theorem kC {z bC n:Nat}{cs:List ab}{e:TypeId}(J:Rd g a (.bk z n cs)) (aw:fq P t e bC=true):ch P g (.call { callee:=.builtin .len,args:=#[a],argTypes:=#[t] }) ty (ae n):=.eW (.Cv J.br aw)
theorem rh {en:bK α}{L:List α}{y:α}{e:TypeId}(J:Rd g a (.bk en.z L.length (bo en L))) (ax:Rd g b (.lit (.int k m))) (aw:fq P t e en.z=true) (h:idx L m=some y):ch P g (.indexAddr t a b) ty (.cJ (en.cells y++bo en (L.drop (m.toNat+1)))):=by
 rw [<- KC en h];obtain ⟨aQ,h1,_⟩:=pM h;obtain ⟨j,rfl⟩:=Int.eq_ofNat_of_zero_le aQ;exact .eW (.E4 J.br ax.br aw (by omega))
theorem Y2 {en:bK α}{L r:List α}{e:TypeId}{oV:IntKind}(J:Rd g a (.bk en.z L.length (bo en L))) (aj:Rd g b (.lit (.int k m))) (bY:Rd g c (.lit (.int oV n))) (aw:fq P t e en.z=true) (h:nU L m n=some r):ch P g (.slice t a (some b) (some c) none) ty (ag en r):=by
 unfold nU at h
 split at h
 ·rename_i aa;obtain ⟨aQ,h1,af⟩:=aa;cases h;obtain ⟨i,rfl⟩:=Int.eq_ofNat_of_zero_le aQ;obtain ⟨j,rfl⟩:=Int.eq_ofNat_of_zero_le (show 0<=n by omega);have:=c6.AE (P:=P) (ty:=ty) (t:=t) (l:=i) (h:=j) (lo:=some b) (hi:=some c) J.br ⟨_,aj.br⟩ ⟨_,bY.br⟩ aw (by omega) (by omega);rw [AB,yi] at this;have cy:(((L.drop i).take (j - i)).length)=j - i:=by rw [List.length_take,List.length_drop]; omega
  have b9:((j:Int) - (i:Int)).toNat=j - i:=by omega
  rw [Int.toNat_natCast,b9];unfold ag;rw [cy];exact .eW this
 ·cases h
theorem Y3 {en:bK α}{L r:List α}{e:TypeId}(J:Rd g a (.bk en.z L.length (bo en L))) (bY:Rd g c (.lit (.int k n))) (aw:fq P t e en.z=true) (h:nU L 0 n=some r):ch P g (.slice t a none (some c) none) ty (ag en r):=by
 unfold nU at h
 split at h
 ·rename_i aa;obtain ⟨_,h1,af⟩:=aa;cases h;obtain ⟨j,rfl⟩:=Int.eq_ofNat_of_zero_le h1;have:=c6.AE (P:=P) (ty:=ty) (t:=t) (l:=0) (h:=j) (lo:=none) (hi:=some c) J.br rfl ⟨_,bY.br⟩ aw (by omega) (by omega);rw [AB,yi] at this;have cy:(((L.drop 0).take (j - 0)).length)=j - 0:=by rw [List.length_take,List.length_drop]; omega
  have b9:((j:Int) - 0).toNat=j - 0:=by omega
  rw [b9];unfold ag;have fH:(0:Int).toNat=0:=rfl;rw [fH,cy];exact .eW this
 ·cases h
theorem Y4 {en:bK α}{L r:List α}{e:TypeId}(J:Rd g a (.bk en.z L.length (bo en L))) (aj:Rd g b (.lit (.int k m))) (aw:fq P t e en.z=true) (h:nU L m L.length=some r):ch P g (.slice t a (some b) none none) ty (ag en r):=by
 unfold nU at h
 split at h
 ·rename_i aa;obtain ⟨aQ,h1,af⟩:=aa;cases h;obtain ⟨i,rfl⟩:=Int.eq_ofNat_of_zero_le aQ;have:=c6.AE (P:=P) (ty:=ty) (t:=t) (l:=i) (h:=L.length) (lo:=some b) (hi:=none) J.br ⟨_,aj.br⟩ rfl aw (by omega) (by omega);rw [AB,yi] at this;have cy:(((L.drop i).take (L.length - i)).length)=L.length - i:=by rw [List.length_take,List.length_drop]; omega
  have b9:((L.length:Int) - (i:Int)).toNat=L.length - i:=by omega
  rw [Int.toNat_natCast,b9];unfold ag;rw [cy];exact .eW this
 ·cases h
theorem Bo {cT f off:Nat}{cs:List ab}(J:Rd g a (.cJ cs)) (aW:hP P cT f off t=true):ch P g (.fieldAddr cT a f) ty (.cJ (cs.drop off)):=.eW (.Eo J.br aW)
theorem Ct {x:ab}{cs:List ab}(J:Rd g a (.cJ cs)) (aw:jt P t=true) (aa:cs.head?=some x):ch P g (.load t a) ty x:=by
 cases cs with
 | nil=>cases aa
 | cons y cs=>cases aa; exact .eW (.Fh J.br aw)
theorem ng {z:Nat}{cs cs':List ab}(J:Rd g a (.cJ cs)) (aw:iz P t z=true) (aa:cs.take z=cs') (aX:cs'.length=z):ch P g (.load t a) ty (.agg cs'):=by
 subst aa;exact .eW (.Fi J.br aw (by rw [List.length_take] at aX; omega))
theorem xR {cs:List ab}(J:Rd g a (.cJ cs)):ch P g (.nilCheck a) ty (.cJ cs):=.eW (.qB J.br)
theorem eT {p:Place}{k:Nat}(J:Rd g a (.ptr p k)):ch P g (.nilCheck a) ty (.ptr p k):=.eW (.Fq J.br)
theorem fd {cT f off:Nat}{cs:List ab}{x:ab}(J:Rd g a (.agg cs)) (aW:hP P cT f off t=true) (aw:jt P t=true) (ax:cs[off]?=some x):ch P g (.field cT a f) ty x:=.eW (.En J.br aW aw ax)
theorem ex {p i:Nat}{cs:List ab}{x y:ab}(J:g p=some (.bV cs)) (ax:cs[i]?=some x) (ao:gw 1 (Place.push ⟨p,[]⟩ i) x=y):ch P g (.extract (.tmp p) i) ty y :=
 .eW (.Ek (cs:=cs.mapIdx λi x=>gw 1 (Place.push ⟨p,[]⟩ i) x) (by simp [br,J,rq,gw]) (by simp [ax,ao]))
theorem box {e:TypeId}{y:ab}{cs:List ab}(J:Rd g a y) (aa:jT y=some cs):ch P g (.box e a) ty (.obj cs):=.rj (.box J.br aa)
theorem kv {cT f off k r:Nat}{cs:List ab}(aB:g r=some (.obj cs)) (J:Rd g a (.ptr ⟨r,[]⟩ k)) (aW:hP P cT f off t=true) (aT:Nat.blt (k+off) cs.length=true):ch P g (.fieldAddr cT a f) ty (.ptr ⟨r,[]⟩ (k+off)) :=
 .eW (.Bq J.br aW ⟨.obj cs,by simp [bB,aB,ab.at],0,0,cs,.inr rfl,by simpa using aT⟩)
theorem mA {k r:Nat}{cs:List ab}{x y:ab}(aB:g r=some (.obj cs)) (J:Rd g a (.ptr ⟨r,[]⟩ k)) (aw:jt P t=true) (aa:cs[k]?=some x) (ax:gw 0 ⟨r,[k]⟩ x=y):ch P g (.load t a) ty y:=by
 subst ax;exact .eW (.Cy (p:=⟨r,[]⟩) J.br aw (by simp [bB,aB,ab.at,Place.push,ab.kids,aa]))
theorem eS {k r z:Nat}{cs cs':List ab}(aB:g r=some (.obj cs)) (J:Rd g a (.ptr ⟨r,[]⟩ k)) (aw:iz P t z=true) (hk:Nat.ble (k+z) cs.length=true) (aa:(((cs.drop k).take z).mapIdx λi x=>gw 0 ⟨r,[k+i]⟩ x)=cs'):ch P g (.load t a) ty (.agg cs'):=by
 subst aa;exact .eW (.xO (p:=⟨r,[]⟩) (n:=0) (z:=0) J.br aw (by simp [bB,aB,ab.at]) (.inr rfl) (Nat.le_of_ble_eq_true hk))
end O
theorem qU.cD {x:Operand}{y:ab}{xs:List Operand}{ys:List ab}(h:Rd g x y) [aF:cf y] (aw:qU g xs ys):qU g (x::xs) (y::ys):=.cons h aF.bl aw
theorem cK.go {xs:List Operand}{gq:Array TypeId}{f:FuncId}{ys:List ab}{outs:List (Option ab)}{res:ab}(J:qU g xs ys) (gQ:bU P f ys outs res) (aW:gO P f=true) (a1:sj outs=true) [ao:cf res] :
  cK P g (.call { callee:=.value (.func f),args:=xs.toArray,argTypes:=gq }) res:=.Ty gQ aW J a1 ao.bl
inductive uZ (P:Program) (g:aK):List ResultVar->List ab->Prop
 | nil:uZ P g [] []
 | f {t:Nat}{x:ab}{rs:List ResultVar}{xs:List ab}(h:g t=some x) (aW:l2 x=true) [aF:cf x] (aw:uZ P g rs xs):uZ P g (.tmp t::rs) (x::xs)
 | c {a:Nat}{t:TypeId}{z:Nat}{cs:List ab}{rs:List ResultVar}{xs:List ab}(h:g a=some (.obj cs)) (aw:iz P t z=true) (aX:cs.length=z) (aW:(0<z&&cs.all l2)=true) [aF:dp cs] (ao:uZ P g rs xs):uZ P g (.cell a t::rs) (.agg cs::xs)
theorem uZ.spec {rs:List ResultVar}{xs:List ab}(h:uZ P g rs xs):rI P g rs xs/\∀ x∈xs,cU x:=by
 induction h with
 | nil=>exact ⟨.nil,by simp⟩
 | @f t x rs xs h aW aF _ aU=>exact ⟨.cons (.tmp (Rd.f h aW)) aU.1,pQ aF.bl aU.2⟩
 | @c a t z cs rs xs h aw aX aW aF _ aU =>
  simp only [Bool.and_eq_true,decide_eq_true_eq] at aW;refine ⟨.cons ?_ aU.1,pQ (.agg aF.bl) aU.2⟩;have J:Own.br g (.tmp a)=some (.ptr ⟨a,[]⟩ 0):=by
   cases cs with
   | nil=>simp at aX; omega
   | cons c cs=>simp [Own.br,h,rq,gw]
  have:=c6.xO (P:=P) (ty:=t) (p:=⟨a,[]⟩) (n:=0) (z:=0) J aw (by simp only [bB,h,ab.at]) (.inr rfl) (show 0+z<=cs.length by omega);have hQ:((cs.drop 0).take z).mapIdx (λi x=>gw 0 (Place.push ⟨a,[]⟩ (0+i)) x)=cs:=by
   rw [List.drop_zero,List.take_of_length_le (by omega)];exact Bs aW.2
  rw [hQ] at this;exact .cell this
theorem Fin.rt {rs:List ResultVar}{xs:List ab}{res:ab}{outs:List (Option ab)}{n:Nat}(h:uZ P g rs xs) (he:qF xs=res) (a1:sj outs=true) (aj:outs.length=n):Fin P N rs n outs res .ret g :=
 ⟨.inr rfl,⟨xs,xs,g,h.spec.1,.bl h.spec.2,he.symm,λk x hk=>absurd hk (Fu a1 k x)⟩,aj⟩
end
def xU:Nat->List ab->List (Nat × ab)
 | _,[]=>[]
 | i,x::l=>(i,x)::xU (i+1) l
theorem M5:∀ (l:List ab) (i t:Nat),get (xU i l) t=if i<=t then l[t - i]? else none
 | [],i,t=>by simp [xU,get]
 | x::l,i,t=>by
  simp only [xU,get];by_cases h:t=i
  ·subst h; simp
  ·rw [if_neg h,M5 l (i+1) t];by_cases h1:i+1<=t
   ·rw [if_pos h1,if_pos (by omega)];have:t - i=(t - (i+1))+1:=by omega
    rw [this,List.getElem?_cons_succ]
   ·rw [if_neg h1,if_neg (by omega)]
theorem RT (args:List ab):qb args=get (xU 0 args):=funext λt=>by rw [M5]; simp [qb]
theorem bU.go {P:Program}{f:FuncId}{fn:Func}{c:Code}{args:List ab}{outs:List (Option ab)}{res:ab}{N:c5}(aW:P.funcs[f]?=some fn) (av:fn.body=some c) (bc:fn.ntmps=N.size) (aP:Nat.ble args.length N.size=true) (hlen:outs.length=args.length)
  (hw:W P N c (get (xU 0 args)) (Fin P N fn.results.toList args.length outs res)):bU P f args outs res :=
 .fin aW av bc aP hlen (by rw [RT]; exact hw)
end Go.Own
namespace Go.Own
open Go
section
variable {P:Program}{N:c5}{Φ ox:Exit->aK->Prop}{Ψ:aK->Prop}{G G1:List (Nat × ab)}{A B c:Code}{id k:Nat}{e:Exit}{S R:Type}
theorem jH.de (h:Trim true (get G) (get G1) G1):jH P N .skip G G1:=.skip h
inductive ig:aK->List (Nat × ab)->Prop
 | h2 {G:List (Nat × ab)}:ig (get G) G
 | eX {g g1:aK}{G:List (Nat × ab)}(h:kr g g1) (av:ig g1 G):ig g G
theorem ig.trans {g:aK}{G G1:List (Nat × ab)}(h:ig g G) (h1:ig (get G) G1):ig g G1:=by
 induction h with
 | h2=>exact h1
 | eX h _ aU=>exact .eX h (aU h1)
inductive AT (P:Program) (N:c5):aK->Exit->(Exit->aK->Prop)->Prop
 | h2 {g:aK}{e:Exit}{Φ:Exit->aK->Prop}(h:Φ e g):AT P N g e Φ
 | eX {g g1:aK}{e:Exit}{Φ:Exit->aK->Prop}(hw:kr g g1) (h:AT P N g1 e Φ):AT P N g e Φ
theorem W.outs {g:aK}(h:W P N c g Φ) (nO:∀ e g',Φ e g'->AT P N g' e ox):W P N c g ox:=by
 intro a w I Fs Q bj bc dP;refine h bj bc λe g' ca w' au aF=>?_;have tY:=nO e g' au;clear au nO;revert aF
 induction tY with
 | h2 h=>exact λaF=>dP _ _ _ _ h aF
 | eX hw _ aU =>
  intro aF;refine aU dP ?_;obtain ⟨h1,af,I',b7,d_,b1⟩:=aF;obtain ⟨iZ,h9,gH⟩:=d_.eX hw;exact ⟨h1,af,I',iZ,h9,b1.eR,b1.more,b1.new,λc ⟨t,aa⟩=>b1.own c ⟨t,gH t c aa⟩⟩
def aC (e:Exit) (Φ:Exit->aK->Prop) (G:List (Nat × ab)):Prop:=∀ g,ig g G->Φ e g
theorem W.be {g:aK}(h:W P N c (get G) Φ) (av:ig g G):W P N c g Φ:=by
 induction av with
 | h2=>exact h
 | eX hw _ aU=>exact (aU h).weaken hw
theorem pe.be {g:aK}(h:pe P N c (get G) Φ) (av:ig g G):pe P N c g Φ:=by
 induction av with
 | h2=>exact h
 | eX hw _ aU=>exact (aU h).weaken hw
theorem aC.bA (h:W P N B (get G) Φ):aC .normal (o4 (λg1=>W P N B g1 Φ) ox) G:=λ_ av=>Zx (h.be av)
theorem aC.fh (h:aC (.exit k) ox G):aC (.exit k) (o4 Ψ ox) G:=λg av=>Zw (h g av)
theorem aC.ji (h:aC .ret ox G):aC .ret (o4 Ψ ox) G:=λg av=>Zy (h g av)
theorem aC.b' (h:aC .normal Φ G):aC .normal (l_ id Φ) G:=λg av=>Xj (h g av)
theorem aC.fe (h:aC .normal Φ G):aC (.exit id) (l_ id Φ) G:=λg av=>Xh (h g av)
theorem aC.G9 (hk:Nat.beq k id=false) (h:aC (.exit k) Φ G):aC (.exit k) (l_ id Φ) G:=λg av=>Xi hk (h g av)
theorem aC.mP (h:aC .ret Φ G):aC .ret (l_ id Φ) G:=λg av=>Xk (h g av)
theorem W.fk (h:aC (.exit k) Φ G):W P N (.exit k) (get G) Φ:=W.exit (h _ .h2)
theorem W.de (h:aC .normal Φ G):W P N .skip (get G) Φ:=W.skip (h _ .h2)
theorem W.rt (h:aC .ret Φ G):W P N .ret (get G) Φ:=W.ret (h _ .h2)
theorem W.rx {id:Nat}{l:List Oper}(G1:List (Nat × ab)) (h:ar P N l.toArray l (get G) λg'=>kr g' (get G1)) (hk:aC .normal Φ G1):W P N (.region id l.toArray false) (get G) Φ :=
 W.AA (λi hi=>by obtain ⟨g',h1,af⟩:=h i hi; exact ⟨g',h1,hk g' (.eX af .h2)⟩)
theorem W.dD {G1:List (Nat × ab)}(h:Trim true (get G) (get G1) G1) (hw:W P N c (get G1) Φ):W P N c (get G) Φ:=hw.weaken h.eX
theorem W.st {G:List (Nat × ab)}(G1:List (Nat × ab)) (h:W P N c (get G1) Φ) (e:G1=G:=by rfl):W P N c (get G) Φ:=by subst e; exact h
theorem W.b' (h:W P N c (get G) (l_ id Φ)):W P N (.block id c) (get G) Φ:=W.block h
theorem W.dA (G1:List (Nat × ab)) (h:W P N c (get G) λe g=>e=.normal/\ig g G1) (hk:aC .normal Φ G1):W P N c (get G) Φ :=
 h.mono λe g ⟨he,av⟩=>by subst he; exact hk g av
theorem aC.dA (h:Trim true (get G) (get G1) G1):aC .normal (λe g=>e=.normal/\ig g G1) G:=λ_ av=>⟨rfl,av.trans (.eX h.eX .h2)⟩
def k' (G:S->List (Nat × ab)) (Ψ:R->Exit->aK->Prop):S ⊕ R->Exit->aK->Prop
 | .inl s,e,g=>e=.normal/\ig g (G s)
 | .inr r,e,g=>e≠.normal/\Ψ r e g
theorem pe.it {f:S->Option (S ⊕ R)}{G:S->List (Nat × ab)}{Ψ:R->Exit->aK->Prop}(av:∀ s o,f s=some o->W P N c (get (G s)) (k' G Ψ o)) :
  ∀ (n:Nat) (s:S) (r:R),Own.iter f n s=some r->pe P N c (get (G s)) (Ψ r)
 | 0,_,_,h=>by simp [Own.iter] at h
 | n+1,s,r,h=>by
  simp only [Own.iter] at h;cases aW:f s with
  | none=>rw [aW] at h; cases h
  | some o =>
   rw [aW] at h;refine .step ((av s o aW).mono λe g' ao=>?_);cases o with
   | inl cT =>
    obtain ⟨rfl,hw⟩:=ao;exact (pe.it av n cT r h).be hw
   | inr dm =>
    cases h;obtain ⟨aF,hw⟩:=ao;cases e with
    | normal=>exact absurd rfl aF
    | _=>exact hw
theorem W.eO {f:S->Option (S ⊕ R)}{s:S}{r:R}(G:S->List (Nat × ab)) (Ψ:R->Exit->aK->Prop) (h:b2 f s=some r) (av:∀ s o,f s=some o->W P N c (get (G s)) (k' G Ψ o)) (hk:∀ e g,Ψ r e g->Φ e g):W P N (.loop c) (get (G s)) Φ :=
 (W.loop (pe.it av fuel s r h)).mono hk
theorem W.zN {f:S->Option (S ⊕ R)}{s:S}{r:R}(G:S->List (Nat × ab)) (id:Nat) (mf:R->List (Nat × ab)) (h:b2 f s=some r) (av:∀ s o,f s=some o->W P N c (get (G s)) (k' G (λr e g=>e=.exit id/\ig g (mf r)) o)) (hk:aC (.exit id) Φ (mf r)):W P N (.loop c) (get (G s)) Φ :=
 .eO G _ h av λe g ⟨he,aO⟩=>by subst he; exact hk g aO
theorem W.OW {hc:Type}{f:S->Option (S ⊕ (R ⊕ hc))}{s:S}{r:R ⊕ hc}(G:S->List (Nat × ab)) (id:Nat) (mf:R->List (Nat × ab)) (h6:hc->List (Nat × ab)) (h:b2 f s=some r)
  (av:∀ s o,f s=some o->W P N c (get (G s)) (k' G (λ(r:R ⊕ hc) e g=>match r with | .inl r=>e=.exit id/\ig g (mf r) | .inr r=>e=.ret/\ig g (h6 r)) o))
  (J:∀ x,r=.inl x->aC (.exit id) Φ (mf x)) (ao:∀ x,r=.inr x->aC .ret Φ (h6 x)):W P N (.loop c) (get (G s)) Φ:=by
 refine .eO G _ h av λe g h=>?_;cases r with
 | inl r=>obtain ⟨rfl,aO⟩:=h; exact J r rfl g aO
 | inr r=>obtain ⟨rfl,aO⟩:=h; exact ao r rfl g aO
theorem aC.go {s:S}{F:S->List (Nat × ab)}{Ψ:R->Exit->aK->Prop}(h:Trim true (get G) (get (F s)) (F s)):aC .normal (k' F Ψ (.inl s)) G:=λ_ av=>⟨rfl,av.trans (.eX h.eX .h2)⟩
theorem aC.a8 {r:R}{F:S->List (Nat × ab)}{mf:R->List (Nat × ab)}(h:Trim true (get G) (get (mf r)) (mf r)):aC (.exit id) (k' F (λr e g=>e=.exit id/\ig g (mf r)) (.inr r)) G:=λ_ av=>⟨by simp,rfl,av.trans (.eX h.eX .h2)⟩
theorem aC.x2 {hc:Type}{r:R}{F:S->List (Nat × ab)}{mf:R->List (Nat × ab)}{h6:hc->List (Nat × ab)}(h:Trim true (get G) (get (mf r)) (mf r)) :
  aC (.exit id) (k' F (λ(r:R ⊕ hc) e g=>match r with | .inl r=>e=.exit id/\ig g (mf r) | .inr r=>e=.ret/\ig g (h6 r)) (.inr (.inl r))) G:=λ_ av=>⟨by simp,rfl,av.trans (.eX h.eX .h2)⟩
theorem aC.lx {hc:Type}{r:hc}{F:S->List (Nat × ab)}{mf:R->List (Nat × ab)}{h6:hc->List (Nat × ab)}(h:Trim true (get G) (get (h6 r)) (h6 r)) :
  aC .ret (k' F (λ(r:R ⊕ hc) e g=>match r with | .inl r=>e=.exit id/\ig g (mf r) | .inr r=>e=.ret/\ig g (h6 r)) (.inr (.inr r))) G:=λ_ av=>⟨by simp,rfl,av.trans (.eX h.eX .h2)⟩
def p5 (P:Program) (N:c5) (rs:List ResultVar) (n:Nat) (outs:List (Option ab)) (res:ab) (e:Exit) (g:aK):Prop:=∃ G,ig g G/\Fin P N rs n outs res e (get G)
theorem W.fin {rs:List ResultVar}{n:Nat}{outs:List (Option ab)}{res:ab}{g:aK}(h:W P N c g (p5 P N rs n outs res)):W P N c g (Fin P N rs n outs res):=by
 have key:∀ e g,p5 P N rs n outs res e g->AT P N g e (Fin P N rs n outs res):=by
  rintro e g ⟨G,av,aW⟩
  induction av with
  | h2=>exact .h2 aW
  | eX hw _ aU=>exact .eX hw (aU aW)
 exact W.outs h key
theorem aC.fin {rs:List ResultVar}{n:Nat}{outs:List (Option ab)}{res:ab}(h:Fin P N rs n outs res e (get G)):aC e (p5 P N rs n outs res) G:=λ_ av=>⟨G,av,h⟩
end
end Go.Own
namespace Go.Own
open Go
section
variable {P:Program}{N:c5}{ops:Array Oper}{bd:List (List Nat)}{g0:aK}{K:aK->Prop}{l:List Oper}{acc:Acc}{d i:Nat}{op:Op}{ty:TypeId}{pos:String}{after:Array Edge}{x:ab}{gd:Option (Nat × Bool)}
abbrev jC (bd:List (List Nat)) (g0:aK) (j:Nat) (acc:Acc):aK:=dg g0 (λm=>(bd.getD j []).contains m) acc
def bz (P:Program) (N:c5) (ops:Array Oper) (bd:List (List Nat)) (g0:aK) (i:Nat) (acc:Acc) (l:List Oper) (K:aK->Prop):Prop:=∀ dW j,mM P N ops bd g0 i dW->iK P N ops bd g0 i dW j acc->ops.toList.drop j=l->∃ g',su P N ops bd i dW g0 g'/\K g'
theorem zh {j bG:Nat}{o:Oper}(h:ops.toList.drop j=o::l) (ah:Nat.beq ops.size (bG+l.length+1)=true):j=bG:=by
 grind [List.length_cons,Nat.eq_of_beq_eq_true]
theorem RB (aF:acc.all (λe=>!Nat.beq e.2.1 d)=true):∀ e∈acc,e.2.1≠d:=by
 intro e he h;have:=List.all_eq_true.1 aF e he
 simp_all
theorem bz.st (bG:Nat) {r:Option ab}{o:Oper}(aS:o.dst=some d) (aB:qa P (jC bd g0 bG acc) ops o r) (ah:Nat.beq ops.size (bG+l.length+1)=true) (aW:g0 d=none) (aF:acc.all (λe=>!Nat.beq e.2.1 d)=true) (bc:N.ok d=true)
  (hk:bz P N ops bd g0 i ((bG,d,r)::acc) l K):bz P N ops bd g0 i acc (o::l) K:=by
 intro dW j cn kW lj;have:=zh lj ah;subst this;obtain ⟨h1,af⟩:=drop_cons lj;exact hk dW (j+1) cn (.step kW h1 aS aW (RB aF) bc aB) af
theorem bz.v (bG:Nat) (au:ch P (jC bd g0 bG acc) op ty x) (ah:Nat.beq ops.size (bG+l.length+1)=true) (aW:g0 d=none) (aF:acc.all (λe=>!Nat.beq e.2.1 d)=true) (bc:N.ok d=true) (aO:fu (jC bd g0 bG acc) ops gd)
  (hk:bz P N ops bd g0 i ((bG,d,some x)::acc) l K):bz P N ops bd g0 i acc (⟨some d,op,ty,pos,after,gd⟩::l) K :=
 .st bG (r:=some x) rfl (.inl ⟨aO.wanted,.inl au⟩) ah aW aF bc hk
theorem bz.c (bG:Nat) (au:cK P (jC bd g0 bG acc) op x) (ah:Nat.beq ops.size (bG+l.length+1)=true) (aW:g0 d=none) (aF:acc.all (λe=>!Nat.beq e.2.1 d)=true) (bc:N.ok d=true) (aO:fu (jC bd g0 bG acc) ops gd)
  (hk:bz P N ops bd g0 i ((bG,d,some x)::acc) l K):bz P N ops bd g0 i acc (⟨some d,op,ty,pos,after,gd⟩::l) K :=
 .st bG (r:=some x) rfl (.inl ⟨aO.wanted,.inr au⟩) ah aW aF bc hk
theorem bz.ps (bG:Nat) {vE t':Nat}{b c:Bool}(h:(ops[vE]?).bind (·.dst)=some t') (aO:jC bd g0 bG acc t'=some (a_ c)) (av:c=!b) (ah:Nat.beq ops.size (bG+l.length+1)=true) (aW:g0 d=none) (aF:acc.all (λe=>!Nat.beq e.2.1 d)=true) (bc:N.ok d=true)
  (hk:bz P N ops bd g0 i ((bG,d,some (.bV []))::acc) l K):bz P N ops bd g0 i acc (⟨some d,op,ty,pos,after,some (vE,b)⟩::l) K :=
 .st bG (r:=some (.bV [])) rfl (.inr (.inl ⟨⟨t',h,.inl ⟨c,aO,by subst av; cases b <;> rfl⟩⟩,rfl⟩)) ah aW aF bc hk
theorem bz.pu (bG:Nat) {vE t':Nat}{b:Bool}(h:(ops[vE]?).bind (·.dst)=some t') (aO:jC bd g0 bG acc t'=some (.bV [])) (ah:Nat.beq ops.size (bG+l.length+1)=true) (aW:g0 d=none) (aF:acc.all (λe=>!Nat.beq e.2.1 d)=true) (bc:N.ok d=true)
  (hk:bz P N ops bd g0 i ((bG,d,some (.bV []))::acc) l K):bz P N ops bd g0 i acc (⟨some d,op,ty,pos,after,some (vE,b)⟩::l) K :=
 .st bG (r:=some (.bV [])) rfl (.inr (.inl ⟨⟨t',h,.inr ⟨aO,rfl⟩⟩,rfl⟩)) ah aW aF bc hk
def l' (G:List (Nat × ab)):Bool:=G.all λp=>match p.2 with | .bL ..=>false | _=>true
theorem vK {G:List (Nat × ab)}(h:l' G=true):∀ t z q n m new,get G t≠some (.bL z q n m new):=by
 induction G with
 | nil=>intro t z q n m new J; cases J
 | cons p G aU =>
  grind [l',get]
theorem bz.fin {G G1:List (Nat × ab)}(aX:acc.filterMap j2=[]) (fI:l' G=true) (hi:Nat.ble i ops.size=true) (h:Trim true (dg (get G) (λ_=>true) acc) (get G1) G1):bz P N ops bd (get G) i acc [] λg'=>kr g' (get G1):=by
 intro dW j cn kW lj;have ah:j=ops.size:=by
  have h1:ops.size<=j:=by
   simp_all
  have aI:j<=ops.size:=by
   cases kW with
   | nil=>exact Nat.le_of_ble_eq_true hi
   | step _ a1=>have:=(Array.getElem?_eq_some_iff.1 a1).1; omega
  omega
 subst ah;exact ⟨_,.fin kW (by rw [aX]; exact List.nodup_nil) (vK fI),h.eX⟩
theorem su.L8 {g g1 g':aK}{i j:Nat}{dW:Acc}{o:Oper}(cn:mM P N ops bd g i dW) (aB:iK P N ops bd g i dW j acc) (gR:(acc.filterMap j2).Nodup) (fI:∀ t z q n m new,g t≠some (.bL z q n m new)) (a1:ops[j]?=some o) (hw:iy (dg g (λ_=>true) acc) ops o true)
  (he:bm P N (dg g (λ_=>true) acc) o g1) (aP:(List.range j).all (λk=>(bd.getD j []).contains k)=true) (av:(List.range ops.size).all (λk=>decide (k<=j)||(bd.getD k []).contains j)=true) (ao:su P N ops bd (j+1) [] g1 g'):su P N ops bd i dW g g':=by
 have er:∀ e∈acc,(bd.getD j []).contains e.1=true:=λe h=>List.all_eq_true.1 aP e.1 (List.mem_range.2 ((aB.le cn).2 e h));have e:dg g (λm=>(bd.getD j []).contains m) acc=dg g (λ_=>true) acc:=funext λt=>Dw λe h _=>er e h;have ga:[]=acc.filter λe=>!(bd.getD j []).contains e.1:=by
  grind [List.filter_eq_nil_iff]
 exact .wL (rs:=sm []) aB gR fI a1 (by rw [e]; exact hw) (by rw [e]; exact he.kb.v) (λp au=>by simp [sm] at au) ga (by simp) (by simp) (by simp) av ao
theorem W.rd {id:Nat}{l:List Oper}{G:List (Nat × ab)}{Φ:Exit->aK->Prop}(bd:List (List Nat)) (G1:List (Nat × ab)) (hm:P.follows .mixedOrders=true) (er:pg l.toArray bd=true)
  (h:bz P N l.toArray bd (get G) 0 [] l λg'=>kr g' (get G1)) (hk:aC .normal Φ G1):W P N (.region id l.toArray true) (get G) Φ:=by
 obtain ⟨g',h1,af⟩:=h [] 0 .nil .nil (by simp);exact (gi.draw hm er h1).w (hk g' (.eX af .h2))
end
end Go.Own
namespace Go.Own
open Go
variable {α:Type}
section
variable {P:Program}{N:c5}{ops:Array Oper}{g g2:aK}{K:aK->Prop}{l:List Oper}{d r:Nat}{ty t t2:TypeId}{pos:String}{after:Array Edge}{a b c:Operand}{k k1:IntKind}{m n:Int}{s u:ByteArray}
namespace O
theorem fF {e:TypeId}{z:Value}{cs:List ab}(aX:(P.info? e).bind (·.zero)=some z) (h1:z.cells.toList.all Value.oneCell'=true) (aa:z.cells.toList.map lR=cs):ch P g (.alloc e) ty (.obj cs):=by
 subst aa; exact .rj (.alloc aX (by rw [<- Array.all_toList]; exact h1))
theorem ek {t:TypeId}{parts:Array (Nat × Operand)}{pl:List (Nat × Nat)}{dI:Value}{ps:List (Nat × List ab)}{cs:List ab}(aw:kG P t pl=true) (aX:(P.info? t).bind (·.zero)=some dI) (h1:dI.cells.toList.all Value.oneCell'=true)
  (au:rk g parts.toList=some ps) (aa:u6 (λi=>pl[i]?) (dI.cells.toList.map lR) ps=some cs):ch P g (.build t parts) ty (.agg cs):=.CM (.build aw aX (by rw [<- Array.all_toList]; exact h1) au aa)
end O
inductive p' (g g2:aK):ab->Prop
 | n {x:ab}(h:cU x):p' g g2 x
 | p {r k:Nat}{cs cs2:List ab}(h:g r=some (.obj cs)) (hk:k<cs.length) (af:g2 r=some (.obj cs2)) (fW:k<cs2.length):p' g g2 (.ptr ⟨r,[]⟩ k)
 | r {z n N Lx q:Nat}{cs cs2:List ab}(h:g q=some (.own z N cs)) (aF:n<=N) (af:g2 q=some (.own z Lx cs2)) (ob:n<=Lx):p' g g2 (.a6 z ⟨q,[]⟩ n)
theorem uE {r k:Nat}{cs:List ab}(h:g r=some (.obj cs)) (hk:k<cs.length):gE g (.ptr ⟨r,[]⟩ k):=⟨.obj cs,by simp [bB,h,ab.at],0,0,cs,.inr rfl,hk⟩
theorem Ay {z n N q:Nat}{cs:List ab}(h:g q=some (.own z N cs)) (aF:n<=N):gE g (.a6 z ⟨q,[]⟩ n):=.inl ⟨N,cs,by simp [bB,h,ab.at],aF⟩
theorem p'.bX {x:ab}(h:p' g g2 x):dh g2 x:=by
 cases h with
 | n h=>exact .bl h
 | p _ _ af fW=>exact .ref rfl (uE af fW)
 | r _ _ af ob=>exact .ref rfl (Ay af ob)
theorem p'.yh {x:ab}{Av k0 m0:Nat}(h:p' g g2 x):jo (λr=>gE g r/\Clear ⟨Av,[]⟩ k0 m0 r/\gE g2 r) x:=by
 cases h with
 | n h=>exact .bl h
 | p h hk af fW =>
  refine .ref rfl ⟨uE h hk,?_,uE af fW⟩;intro q bg _ j dm e
  grind [Az]
 | r h hk af fW =>
  refine .ref rfl ⟨Ay h hk,?_,Ay af fW⟩;intro q bg _ j dm e
  grind [Az]
theorem p'.fy {x:ab}(h:p' g g2 x):∀ z p n m new,x≠.bL z p n m new:=by
 rintro z p n m new rfl;cases h with
 | n h=>cases h
inductive la (g g2:aK) (r:Nat) (cs2:List ab):List (Nat × ab)->Prop
 | nil:la g g2 r cs2 []
 | n {s:Nat}{x:ab}{l:List (Nat × ab)}(dq:Nat.beq s r=false) (h:g s=some x) [aF:cf x] (t:la g g2 r cs2 l):la g g2 r cs2 ((s,x)::l)
 | p {s q k:Nat}{l:List (Nat × ab)}{cs ku:List ab}(dq:Nat.beq s r=false) (h:g s=some (.ptr ⟨q,[]⟩ k)) (h1:g q=some (.obj cs)) (hk:Nat.blt k cs.length=true) (af:g2 q=some (.obj ku)) (fW:Nat.blt k ku.length=true) (t:la g g2 r cs2 l):la g g2 r cs2 ((s,.ptr ⟨q,[]⟩ k)::l)
 | w {α:Type}{s q:Nat}{en:bK α}{L:List α}{l:List (Nat × ab)}(dq:Nat.beq s r=false) (h:g s=some (.a6 en.z ⟨q,[]⟩ L.length)) (h1:g q=some (ak en L)) (af:g2 q=some (ak en L)) (t:la g g2 r cs2 l):la g g2 r cs2 ((s,.a6 en.z ⟨q,[]⟩ L.length)::l)
 | b {l:List (Nat × ab)}{x:ab}(e:x=.obj cs2) [aF:dp cs2] (t:la g g2 r cs2 l):la g g2 r cs2 ((r,x)::l)
theorem la.spec {cs2:List ab}{l:List (Nat × ab)}(h:la g g2 r cs2 l):∀ t x,get l t=some x->(t≠r/\g t=some x/\p' g g2 x)\/(t=r/\x=.obj cs2/\cU x):=by
 induction h with
 | nil=>intro t x J; cases J
 | @n s x l dq h aF _ aU =>
  intro t y ax;simp only [get] at ax
  split at ax
  ·rename_i e;subst e;cases ax;exact .inl ⟨Nat.ne_of_beq_eq_false dq,h,.n aF.bl⟩
  grind
 | @p s q k l cs ku dq h h1 hk af fW _ aU =>
  intro t y ax;simp only [get] at ax
  split at ax
  ·rename_i e;subst e;cases ax;exact .inl ⟨Nat.ne_of_beq_eq_false dq,h,.p h1 (by simpa using hk) af (by simpa using fW)⟩
  grind
 | @w α s q en L l dq h h1 af _ aU =>
  intro t y ax;simp only [get] at ax
  split at ax
  ·rename_i e;subst e;cases ax;exact .inl ⟨Nat.ne_of_beq_eq_false dq,h,.r h1 (Nat.le_refl _) af (Nat.le_refl _)⟩
  grind
 | @b l x e aF _ aU =>
  intro t y ax;simp only [get] at ax
  split at ax
  ·rename_i cj;subst cj;cases ax;subst e;exact .inr ⟨rfl,rfl,.obj aF.bl⟩
  grind
theorem bm.box {o:Oper}{k0:Nat}{cs cs' cs2:List ab}{y:ab}{G2:List (Nat × ab)}(a1:o.op=.store t a b) (aS:o.dst=none) (aB:g r=some (.obj cs)) (aP:Rd g a (.ptr ⟨r,[]⟩ k0)) (av:Rd g b y) (aF:cU y) (aa:oJ y=some cs') (aX:hs P t cs'.length=true)
  (hk:k0+cs'.length<=cs.length) (aQ:0<cs'.length) (he:e5 cs k0 cs'=cs2) [e8:dp cs] (ao:get G2 r≠none) (c9:la g (get G2) r cs2 G2):bm P N g o (get G2):=by
 subst he;have kg:g r≠none:=by rw [aB]; simp
 refine .store a1 aS aP.br av.br (.bl (by simpa using aF)) .refl aa aX (p:=⟨r,[]⟩) (nd:=.obj cs) (z:=0) (n:=0) (by simp [bB,aB,ab.at]) (.inr rfl) hk aQ (λt x J=>?_) (λt x J y ax=>?_) (λt z q n m new J=>?_) ao
 ·rcases c9.spec t x J with ⟨h1,af,_⟩ | ⟨h1,af,_⟩
  all_goals grind [cu,ab.setAt,ab.e5]
 ·rcases c9.spec t x J with ⟨h1,af,aI⟩ | ⟨h1,af,aI⟩
  ·rw [af] at ax;cases ax;exact aI.yh
  ·subst h1;rw [aB] at ax;cases ax;exact .bl (.obj e8.bl)
 ·rcases c9.spec t _ J with ⟨_,_,aI⟩ | ⟨_,af,_⟩
  ·exact aI.fy _ _ _ _ _ rfl
  grind
theorem Trim.q {G3:Bool}{yo q k0:Nat}{cs:List ab}{OT:List (Nat × ab)}(h:g yo=some (.ptr ⟨q,[]⟩ k0)) (af:g2 q=some (.obj cs)) (hk:Nat.blt k0 cs.length=true) (hj:Trim G3 g g2 OT):Trim G3 g g2 ((yo,.ptr ⟨q,[]⟩ k0)::OT) :=
 .r h (.ref rfl (uE af (by simpa using hk))) (by simp) hj
theorem ar.kS {o:Oper}{G2:List (Nat × ab)}(aO:o.guard=none) (he:bm P N g o (get G2)) (hk:ar P N ops l (get G2) K):ar P N ops (o::l) g K:=by
 intro i hi;obtain ⟨h1,af⟩:=drop_cons hi;obtain ⟨g',ao,di⟩:=hk (i+1) af;refine ⟨g',.kb h1 ?_ he ao,di⟩
 grind [iy]
theorem ar.jh {k0:Nat}{cs cs' cs2:List ab}{y:ab}{G2:List (Nat × ab)}(aB:g r=some (.obj cs)) (aP:Rd g a (.ptr ⟨r,[]⟩ k0)) (av:Rd g b y) [aF:cf y] (aa:oJ y=some cs') (aX:hs P t cs'.length=true)
  (hk:Nat.ble (k0+cs'.length) cs.length=true) (aQ:Nat.blt 0 cs'.length=true) (he:e5 cs k0 cs'=cs2) [e8:dp cs] (ao:(get G2 r).isSome=true) (c9:la g (get G2) r cs2 G2) (vn:ar P N ops l (get G2) K):ar P N ops (⟨none,.store t a b,ty,pos,after,none⟩::l) g K :=
 .kS rfl (.box rfl rfl aB aP av aF.bl aa aX (Nat.le_of_ble_eq_true hk) (by simpa using aQ) he (by intro e; rw [e] at ao; cases ao) c9) vn
variable {bd:List (List Nat)}{acc:Acc}{i:Nat}
theorem bz.wL (bG:Nat) {G G2:List (Nat × ab)}{o:Oper}(he:bm P N (dg (get G) (λ_=>true) acc) o (get G2)) (aO:o.guard=none) (aX:acc.filterMap j2=[]) (fI:l' G=true) (ah:Nat.beq ops.size (bG+l.length+1)=true)
  (aP:(List.range bG).all (λk=>(bd.getD bG []).contains k)=true) (av:(List.range ops.size).all (λk=>Nat.ble k bG||(bd.getD k []).contains bG)=true) (hk:bz P N ops bd (get G2) (bG+1) [] l K):bz P N ops bd (get G) i acc (o::l) K:=by
 intro dW j cn kW lj;have:=zh lj ah;subst this;obtain ⟨h1,af⟩:=drop_cons lj;obtain ⟨g',ao,di⟩:=hk [] (j+1) .nil .nil af;refine ⟨g',.L8 cn kW (by rw [aX]; exact List.nodup_nil) (vK fI) h1 ?_ he aP ?_ ao,di⟩
 ·grind [iy]
 simp_all
theorem bz.jh (bG:Nat) {G:List (Nat × ab)}{k0:Nat}{cs cs' cs2:List ab}{y:ab}{G2:List (Nat × ab)}(ah:Nat.beq ops.size (bG+l.length+1)=true) (w7:(List.range bG).all (λk=>(bd.getD bG []).contains k)=true) (Ez:(List.range ops.size).all (λk=>Nat.ble k bG||(bd.getD k []).contains bG)=true) (Jq:acc.filterMap j2=[]) (fI:l' G=true)
  (aB:dg (get G) (λ_=>true) acc r=some (.obj cs)) (aP:Rd (dg (get G) (λ_=>true) acc) a (.ptr ⟨r,[]⟩ k0)) (av:Rd (dg (get G) (λ_=>true) acc) b y) [aF:cf y] (aa:oJ y=some cs') (aX:hs P t cs'.length=true)
  (hk:Nat.ble (k0+cs'.length) cs.length=true) (aQ:Nat.blt 0 cs'.length=true) (he:e5 cs k0 cs'=cs2) [e8:dp cs] (ao:(get G2 r).isSome=true) (c9:la (dg (get G) (λ_=>true) acc) (get G2) r cs2 G2) (vn:bz P N ops bd (get G2) (bG+1) [] l K):bz P N ops bd (get G) i acc (⟨none,.store t a b,ty,pos,after,none⟩::l) K :=
 .wL bG (.box rfl rfl aB aP av aF.bl aa aX (Nat.le_of_ble_eq_true hk) (by simpa using aQ) he (by intro e; rw [e] at ao; cases ao) c9) rfl Jq fI ah w7 Ez vn
end
end Go.Own
namespace Go.Own
open Go
variable {α β:Type}
def ni (m:Int) (z:α):Option (List α):=if 0<=m/\m<=lim then some (List.replicate m.toNat z) else none
def c' (l m:List α):Option (List α):=if l.length+m.length<=lim then some (l++m) else none
class Flat (e:bK α):Prop where sC:∀ a,(e.cells a).all l2=true
instance:Flat ai:=⟨λ_=>rfl⟩
instance:Flat qf:=⟨λ_=>rfl⟩
instance:Flat cp:=⟨λ_=>rfl⟩
instance:Flat dv:=⟨λ_=>rfl⟩
instance {e:bK α}:Flat (bq e):=⟨λ_=>rfl⟩
theorem YF (e:bK α) [h:Flat e] (l:List α):(bo e l).all l2=true:=by
 refine List.all_eq_true.2 λx J=>?_;obtain ⟨a,_,aP⟩:=List.mem_flatMap.1 J;exact List.all_eq_true.1 (h.sC a) x aP
theorem mC (e:bK α) (l m:List α):(.own e.z (l.length+m.length) (bo e l++bo e m):ab)=ak e (l++m):=by
 grind [FT]
theorem yj (e:bK α) (l:List α):(bo e l).take (l.length * e.z)=bo e l:=by grind [nn]
theorem PQ:∀ L:List Int,bo qf L=L.map λb=>.lit (.int .u8 b)
 | []=>rfl
 | x::L=>by
  have:bo qf (x::L)=qY x::bo qf L:=rfl;rw [this,List.map_cons,PQ L]
section
variable {P:Program}{N:c5}{ops:Array Oper}{g g1 g2:aK}{K:aK->Prop}{l:List Oper}{d r:Nat}{ty t t2:TypeId}{pos:String}{after:Array Edge}{gd:Option (Nat × Bool)}{a b c:Operand}{k k1:IntKind}{m n:Int}{s u:ByteArray}{p q:Place}
namespace O
theorem df {e dy:Nat}{parts:Array (Nat × Operand)}{ys:List ab}(en:bK α) (L:List α) (aw:fq P t e en.z=true) (J:gp g (parts.toList.map (·.2))=some ys) (aa:mm ys=some (bo en L)) (aX:ys.all (λy=>match jT y with | some c=>Nat.beq c.length en.z | none=>false)=true)
  (au:parts.toList=(parts.toList.map (·.2)).mapIdx (λi x=>(i,x))) (aF:(parts.toList.map (·.2)).length=dy) (aj:L.length=dy) (hzero:ie P e en.z=true) (av:Nat.ble (dy * en.z) 16777216=true) (gW:Nat.ble dy 16777216=true):ch P g (.buildSlice t dy parts) ty (ak en L):=by
 subst aF;have:=p8.buildSlice (P:=P) (ty:=ty) aw au J (λy ax=>by
  grind [Nat.eq_of_beq_eq_true]) aa (Nat.le_of_ble_eq_true av) (Nat.le_of_ble_eq_true gW) (.inr (Le hzero))
 unfold ak;rw [aj];exact .rj this
theorem mB {z bC n:Nat}{e:TypeId}(J:Rd g a (.a6 z p n)) (aw:fq P t e bC=true):ch P g (.call { callee:=.builtin .len,args:=#[a],argTypes:=#[t] }) ty (ae n):=.eW (.Cu J.br aw)
theorem gl {en:bK α}{L:List α}{y:α}{e:TypeId}(au:bB g p=some (ak en L)) (J:Rd g a (.a6 en.z p L.length)) (hi:Rd g b (.lit (.int k m))) (aw:fq P t e en.z=true) (h:idx L m=some y) (aX:Nat.blt 0 en.z=true):ch P g (.indexAddr t a b) ty (.ptr p (m.toNat * en.z+0)):=by
 obtain ⟨aQ,h1,_⟩:=pM h;obtain ⟨j,rfl⟩:=Int.eq_ofNat_of_zero_le aQ;have OD:0<en.z:=by simpa using aX
 have ah:j<L.length:=by omega
 refine .eW (.E3 J.br hi.br aw ah ⟨_,au,_,_,_,.inl rfl,?_⟩)
 simp_all [nn]
theorem YA {en:bK α}{L:List α}{y:α}{o:Nat}(h:idx L m=some y) (a1:o<en.z):m.toNat * en.z+o<(bo en L).length:=by
 obtain ⟨aQ,h1,_⟩:=pM h;rw [nn];have af:m.toNat+1<=L.length:=by omega
 calc m.toNat * en.z+o<m.toNat * en.z+en.z:=by omega
  _=(m.toNat+1) * en.z:=by rw [Nat.add_mul]; omega
  _<=L.length * en.z:=Nat.mul_le_mul_right _ af
theorem kc {en:bK α}{L:List α}{y:α}{cT f off o gm:Nat}(au:bB g p=some (ak en L)) (J:Rd g a (.ptr p (m.toNat * en.z+o))) (aW:hP P cT f off t=true) (h:idx L m=some y) (a1:o+off=gm) (aT:Nat.blt gm en.z=true):ch P g (.fieldAddr cT a f) ty (.ptr p (m.toNat * en.z+gm)):=by
 subst a1;rw [<- Nat.add_assoc];refine .eW (.Bq J.br aW ⟨_,au,_,_,_,.inl rfl,?_⟩)
 simp_all [Nat.add_assoc,YA]
theorem u1 {en:bK α}{L:List α}{y:α}{o:Nat}{x:ab}(au:bB g p=some (ak en L)) (h:idx L m=some y) (aa:(en.cells y)[o]?=some x):bB g (p.push (m.toNat * en.z+o))=some x:=by
 rw [tC,au];exact KB en h aa
theorem iR {en:bK α}{L:List α}{y:α}{o:Nat}{x x':ab}(au:bB g p=some (ak en L)) (J:Rd g a (.ptr p (m.toNat * en.z+o))) (aw:jt P t=true) (h:idx L m=some y) (aa:(en.cells y)[o]?=some x) (ao:gw 0 (p.push (m.toNat * en.z+o)) x=x'):ch P g (.load t a) ty x':=by
 subst ao;exact .eW (.Cy J.br aw (u1 au h aa))
theorem Xt {en:bK α}{L:List α}{y:α}{o z:Nat}{cs':List ab}(au:bB g p=some (ak en L)) (J:Rd g a (.ptr p (m.toNat * en.z+o))) (aw:iz P t z=true) (h:idx L m=some y) (aX:Nat.ble (o+z) en.z=true)
  (aa:(((en.cells y).drop o).take z).mapIdx (λi x=>gw 0 (p.push (m.toNat * en.z+o+i)) x)=cs'):ch P g (.load t a) ty (.agg cs'):=by
 have OD:=Nat.le_of_ble_eq_true aX;have lj:((bo en L).drop (m.toNat * en.z+o)).take z=((en.cells y).drop o).take z:=by
  rw [<- List.drop_drop,KC en h,List.drop_append_of_le_length (by rw [en.len]; omega),List.take_append_of_le_length (by rw [List.length_drop,en.len]; omega)]
 subst aa;rw [<- lj];refine .eW (.xO J.br aw au (.inl rfl) ?_);obtain ⟨aQ,h1,_⟩:=pM h;rw [nn];have af:m.toNat+1<=L.length:=by omega
 calc m.toNat * en.z+o+z<=m.toNat * en.z+en.z:=by omega
  _=(m.toNat+1) * en.z:=by rw [Nat.add_mul]; omega
  _<=L.length * en.z:=Nat.mul_le_mul_right _ af
end O
class qT (g:aK):Prop where fy:∀ t z q n m new,g t≠some (.bL z q n m new)
class ns (x:ab):Prop where fy:∀ z q n m new,x≠.bL z q n m new
instance {x:ab} [h:cf x]:ns x:=⟨by rintro z q n m new rfl; cases h.bl⟩
instance {p:Place}{k:Nat}:ns (.ptr p k):=⟨by simp⟩
instance {p:Place}{z n:Nat}:ns (.a6 z p n):=⟨by simp⟩
instance {p:Place}{z lo n:Nat}:ns (.sub z p lo n):=⟨by simp⟩
instance {cs:List ab}:ns (.agg cs):=⟨by simp⟩
instance {cs:List ab}:ns (.bV cs):=⟨by simp⟩
instance {cs:List ab}:ns (.obj cs):=⟨by simp⟩
instance {g:aK}{d:Nat}{x:ab} [h:qT g] [J:ns x]:qT (cV g d x):=⟨λt z q n m new e=>by
 unfold cV at e
 split at e
 ·cases e; exact J.fy _ _ _ _ _ rfl
 ·exact h.fy _ _ _ _ _ _ e⟩
instance:qT (get []):=⟨λ_ _ _ _ _ _ e=>by cases e⟩
instance {t:Nat}{x:ab}{G:List (Nat × ab)} [J:ns x] [h:qT (get G)]:qT (get ((t,x)::G)):=⟨λs z q n m new e=>by
 simp only [get] at e
 split at e
 ·cases e; exact J.fy _ _ _ _ _ rfl
 ·exact h.fy _ _ _ _ _ _ e⟩
class DV (acc:Acc):Prop where fy:∀ e∈acc,∀ z q n m new,e.2.2≠some (.bL z q n m new)
instance:DV []:=⟨by simp⟩
instance {j d:Nat}{x:ab}{acc:Acc} [J:ns x] [h:DV acc]:DV ((j,d,some x)::acc):=⟨λe he z q n m new bY=>by
 rcases List.mem_cons.1 he with rfl | he
 ·exact J.fy z q n m new (Option.some.inj bY)
 ·exact h.fy e he z q n m new bY⟩
instance {G:List (Nat × ab)}{A:Nat->Bool}{acc:Acc} [aO:qT (get G)] [h:DV acc]:qT (dg (get G) A acc):=⟨λt z q n m new e=>by
 rcases uN e with ⟨cj,he,_,_,af⟩ | ⟨_,af⟩
 ·exact h.fy cj he _ _ _ _ _ af
 ·exact aO.fy _ _ _ _ _ _ af⟩
theorem y5 {L M:List α}{r:List α}{b:Nat}(h:c' L M=some r) (av:Nat.ble b 128=true):L.length+M.length<=4611686018427387904/\(L.length+M.length) * b<=140737488355328/\r=L++M:=by
 unfold c' at h
 split at h
 ·rename_i aj;have l3:=Nat.le_of_ble_eq_true av;have sN:lim=1099511627776:=rfl;refine ⟨by omega,?_,(Option.some.inj h).symm⟩
  calc (L.length+M.length) * b<=1099511627776 * 128:=Nat.mul_le_mul aj l3
   _=140737488355328:=by decide
 ·cases h
inductive n2 (g:aK) (en:bK α):ab->List α->Prop
 | i {M:List α}:n2 g en (.bk en.z M.length (bo en M)) M
 | n:n2 g en .aL []
 | o {q:Place}{M:List α}(bg:bB g q=some (ak en M)) (aW:(bo en M).all l2=true):n2 g en (.a6 en.z q M.length) M
theorem n2.src {en:bK α}{y:ab}{M:List α}(h:n2 g en y M):Src g y en.z M.length (bo en M):=by
 cases h with
 | i=>exact .bk
 | n=>exact .aL
 | o bg aW =>
  have:=Src.a6 (g:=g) (m:=M.length) bg (Nat.le_refl _)
  simp_all [yj,Bs]
theorem n2.flat (en:bK α) [Flat en] {q:Place}{M:List α}(bg:bB g q=some (ak en M)):n2 g en (.a6 en.z q M.length) M:=.o bg (YF en M)
namespace O
theorem ap {en:bK α}{L M r:List α}{y:ab}{e gN:Nat}(aB:Rd g a (.a6 en.z p L.length)) (au:bB g p=some (ak en L)) (J:Rd g b y) (hm:n2 g en y M) (aw:jI P t e en.z gN=true) (av:Nat.ble gN 128=true) (h:c' L M=some r) [e8:qT g] :
  ch P g (.call { callee:=.builtin .append,args:=#[a,b],argTypes:=#[t,t] }) ty (.bL en.z p L.length M.length (bo en M)):=by
 obtain ⟨h1,af,_⟩:=y5 h av;exact .lS (.grow aB.br (.inl ⟨_,au⟩) (λt bC cH m' c3 e=>e8.fy _ _ _ _ _ _ e) J.br hm.src aw h1 af)
theorem RQ {en:bK α}{M r:List α}{y:ab}{e gN:Nat}(aB:Rd g a .aL) (J:Rd g b y) (hm:n2 g en y M) (aw:jI P t e en.z gN=true) (av:Nat.ble gN 128=true) (h:c' [] M=some r) :
  ch P g (.call { callee:=.builtin .append,args:=#[a,b],argTypes:=#[t,t] }) ty (ak en M):=by
 obtain ⟨h1,af,_⟩:=y5 h av;simp only [List.length_nil,Nat.zero_add] at h1 af;exact .lS (.nil aB.br J.br hm.src aw h1 af)
end O
inductive mN (ex:List Nat) (g g2:aK):List (Nat × ab)->Prop
 | nil:mN ex g g2 []
 | n {s:Nat}{x:ab}{l:List (Nat × ab)}(dq:ex.elem s=false) (h:g s=some x) [aF:cf x] (t:mN ex g g2 l):mN ex g g2 ((s,x)::l)
 | p {s q k:Nat}{l:List (Nat × ab)}{ku:List ab}(dq:ex.elem s=false) (h:g s=some (.ptr ⟨q,[]⟩ k)) (af:g2 q=some (.obj ku)) (fW:Nat.blt k ku.length=true) (t:mN ex g g2 l):mN ex g g2 ((s,.ptr ⟨q,[]⟩ k)::l)
 | w {α:Type}{s q:Nat}{en:bK α}{L:List α}{l:List (Nat × ab)}(dq:ex.elem s=false) (h:g s=some (.a6 en.z ⟨q,[]⟩ L.length)) (af:g2 q=some (ak en L)) (t:mN ex g g2 l):mN ex g g2 ((s,.a6 en.z ⟨q,[]⟩ L.length)::l)
theorem mN.spec {ex:List Nat}{l:List (Nat × ab)}(h:mN ex g g2 l):∀ t x,get l t=some x->ex.elem t=false/\g t=some x/\dh g2 x/\∀ z p n m new,x≠.bL z p n m new:=by
 induction h with
 | nil=>intro t x J; cases J
 | @n s x l dq h aF _ aU =>
  intro t y ax;simp only [get] at ax
  split at ax
  ·rename_i e;subst e;cases ax;exact ⟨dq,h,.bl aF.bl,by rintro z p n m new rfl; cases aF.bl⟩
  grind
 | @p s q k l ku dq h af fW _ aU =>
  intro t y ax;simp only [get] at ax
  split at ax
  ·rename_i e;subst e;cases ax;exact ⟨dq,h,.ref rfl (uE af (by simpa using fW)),by simp⟩
  grind
 | @w α s q en L l dq h af _ aU =>
  intro t y ax;simp only [get] at ax
  split at ax
  ·rename_i e;subst e;cases ax;exact ⟨dq,h,.ref rfl (.inl ⟨_,_,(by simp [bB,af,ab.at]:bB g2 ⟨q,[]⟩=some (ak en L)),Nat.le_refl _⟩),by simp⟩
  grind
theorem mN.keep {ex:List Nat}{G2:List (Nat × ab)}(h:mN ex g (get G2) G2) (aO:∀ t,ex.elem t=false->g1 t=g t):hF g1 (get G2) :=
 ⟨λt x J=>by obtain ⟨h1,af,_⟩:=h.spec t x J; rw [aO t h1]; exact af,λt x J=>(h.spec t x J).2.2.1,λt z q n m new J=>(h.spec t _ J).2.2.2 _ _ _ _ _ rfl⟩
theorem Take.row {en:bK α}{L:List α}(au:bB g p=some (ak en L)):Take g [.a6 en.z p L.length] [ak en L] (cu g p .dead):=by
 have h1:Take (cu g p .dead) ((bo en L).take (L.length * en.z)) (bo en L) (cu g p .dead):=by
  rw [yj]; exact .bl (pU en L)
 exact .a6 au (Nat.le_refl _) h1 (.bl (by simp))
theorem Take.YC {en:bK α}{L M:List α}{s:Nat}(aB:g s=some (.bL en.z q L.length M.length (bo en M))) (au:bB g q=some (ak en L)) (bg:q.root≠s):Take g [.a6 en.z ⟨s,[]⟩ (L.length+M.length)] [ak en (L++M)] (cu (cu g ⟨s,[]⟩ .dead) q .dead):=by
 rw [<- mC];exact .bL aB au bg (.bl λx J=>(List.mem_append.1 J).elim (pU en L x) (pU en M x)) (.bl (by simp))
theorem Take.YD {en:bK α}{L M M2:List α}{s s2:Nat}(aB:g s=some (.bL en.z ⟨s2,[]⟩ (L.length+M2.length) M.length (bo en M))) (ln:g s2=some (.bL en.z q L.length M2.length (bo en M2))) (au:bB g q=some (ak en L)) (bg:q.root≠s) (ug:q.root≠s2) (B8:s≠s2) :
  Take g [.a6 en.z ⟨s,[]⟩ (L.length+M2.length+M.length)] [ak en (L++M2++M)] (cu (cu (cu g ⟨s,[]⟩ .dead) ⟨s2,[]⟩ .dead) q .dead):=by
 have:=Take.FB (g:=g) (xs:=[]) (xs':=[]) aB ln rfl au bg ug B8 (.bl (xs:=bo en L++bo en M2++bo en M) λx J=>by
  grind [pU]) (.bl (by simp))
 grind [FT]
theorem wh {t:Nat}{y:ab}(h:t≠p.root):cu g p y t=g t:=by
 grind [cu]
theorem zi {ex:List Nat}{t s:Nat}(h:ex.elem t=false) (aB:ex.elem s=true):t≠s:=by
 grind
theorem bm.y3 {o:Oper}{en:bK α}{L:List α}{x:Operand}{G2:List (Nat × ab)}(a1:o.op=.assign x) (aS:o.dst=some d) (J:Rd g x (.a6 en.z p L.length)) (au:bB g p=some (ak en L)) (c9:mN [p.root] g (get G2) G2) (aO:get G2 d=none) (bc:N.ok d=true):bm P N g o (cV (get G2) d (ak en L)) :=
 .assign a1 aS J.br (.row au) .refl (c9.keep λt aw=>wh (zi aw (by simp))) aO bc
theorem bm.LK {o:Oper}{en:bK α}{L M:List α}{s:Nat}{x:Operand}{G2:List (Nat × ab)}(a1:o.op=.assign x) (aS:o.dst=some d) (J:Rd g x (.a6 en.z ⟨s,[]⟩ (L.length+M.length))) (aB:g s=some (.bL en.z q L.length M.length (bo en M))) (au:bB g q=some (ak en L)) (bg:Nat.beq q.root s=false)
  (c9:mN [s,q.root] g (get G2) G2) (aO:get G2 d=none) (bc:N.ok d=true):bm P N g o (cV (get G2) d (ak en (L++M))) :=
 .assign a1 aS J.br (.YC aB au (Nat.ne_of_beq_eq_false bg)) .refl (c9.keep λt aw=>by rw [wh (zi aw (by simp)),wh (zi aw (by simp))]) aO bc
theorem bm.Ru {o:Oper}{en:bK α}{L M M2:List α}{s s2:Nat}{x:Operand}{G2:List (Nat × ab)}(a1:o.op=.assign x) (aS:o.dst=some d) (J:Rd g x (.a6 en.z ⟨s,[]⟩ (L.length+M2.length+M.length))) (aB:g s=some (.bL en.z ⟨s2,[]⟩ (L.length+M2.length) M.length (bo en M)))
  (ln:g s2=some (.bL en.z q L.length M2.length (bo en M2))) (au:bB g q=some (ak en L)) (bg:Nat.beq q.root s=false) (ug:Nat.beq q.root s2=false) (B8:Nat.beq s s2=false)
  (c9:mN [s,s2,q.root] g (get G2) G2) (aO:get G2 d=none) (bc:N.ok d=true):bm P N g o (cV (get G2) d (ak en (L++M2++M))) :=
 .assign a1 aS J.br (.YD aB ln au (Nat.ne_of_beq_eq_false bg) (Nat.ne_of_beq_eq_false ug) (Nat.ne_of_beq_eq_false B8)) .refl (c9.keep λt aw=>by rw [wh (zi aw (by simp)),wh (zi aw (by simp)),wh (zi aw (by simp))]) aO bc
theorem ar.q5 {o:Oper}{x:ab}{G2:List (Nat × ab)}(aO:o.guard=none) (he:bm P N g o (cV (get G2) d x)) (hk:ar P N ops l (cV (get G2) d x) K):ar P N ops (o::l) g K:=by
 intro i hi;obtain ⟨h1,af⟩:=drop_cons hi;obtain ⟨g',ao,di⟩:=hk (i+1) af;refine ⟨g',.kb h1 ?_ he ao,di⟩
 grind [iy]
theorem sD {x:ab}{G:List (Nat × ab)}:cV (get G) d x=get ((d,x)::G):=by
 grind [cV,get]
variable {bd:List (List Nat)}{acc:Acc}{i:Nat}
inductive A6 (P:Program):aK->List ResultVar->List ab->List ab->aK->Prop
 | nil {g:aK}:A6 P g [] [] [] g
 | f {g g':aK}{t:Nat}{x:ab}{rs:List ResultVar}{ys xs:List ab}(h:g t=some x) (aW:l2 x=true) [aF:cf x] (aw:A6 P g rs ys xs g'):A6 P g (.tmp t::rs) (x::ys) (x::xs) g'
 | o {g g':aK}{t:Nat}{en:bK α}{L:List α}{rs:List ResultVar}{ys xs:List ab}(h:g t=some (ak en L)) (aw:A6 P (cu g ⟨t,[]⟩ .dead) rs ys xs g'):A6 P g (.tmp t::rs) (.a6 en.z ⟨t,[]⟩ L.length::ys) (ak en L::xs) g'
end
end Go.Own
namespace Go.Own
open Go
variable {α β:Type}
section
variable {P:Program}{N:c5}{ops:Array Oper}{g g' g1 g2:aK}{K:aK->Prop}{l:List Oper}{d r:Nat}{ty t t2:TypeId}{pos:String}{after:Array Edge}{a b c:Operand}{p q:Place}{e:Exit}
inductive nu (s:Nat):aK->Nat->List ab->List ab->aK->Prop
 | nil {g:aK}{i:Nat}:nu s g i [] [] g
 | f {g g':aK}{i:Nat}{x:ab}{ys xs:List ab}(aW:l2 x=true) [aF:cf x] (aw:nu s g (i+1) ys xs g'):nu s g i (x::ys) (x::xs) g'
 | o {α:Type}{g g':aK}{i:Nat}{en:bK α}{L:List α}{ys xs:List ab}(au:bB g ⟨s,[i]⟩=some (ak en L)) (aw:nu s (cu g ⟨s,[i]⟩ .dead) (i+1) ys xs g'):nu s g i (.a6 en.z ⟨s,[i]⟩ L.length::ys) (ak en L::xs) g'
theorem nu.take {s i:Nat}{ys xs:List ab}(h:nu s g i ys xs g'):Take g ys xs g':=by
 induction h with
 | nil=>exact .bl (by simp)
 | @f g g' i x ys xs aW aF _ aU=>exact .cons aF.bl aU
 | @o α g g' i en L ys xs au _ aU =>
  refine .a6 au (Nat.le_refl _) ?_ aU;rw [yj]; exact .bl (pU en L)
inductive j7 (P:Program):aK->List ResultVar->List ab->List ab->aK->Prop
 | nil {g:aK}:j7 P g [] [] [] g
 | f {g g':aK}{t:Nat}{x:ab}{rs:List ResultVar}{ys xs:List ab}(h:g t=some x) (aW:l2 x=true) [aF:cf x] (aw:j7 P g rs ys xs g'):j7 P g (.tmp t::rs) (x::ys) (x::xs) g'
 | o {α:Type}{g g':aK}{t:Nat}{en:bK α}{L:List α}{rs:List ResultVar}{ys xs:List ab}(h:g t=some (ak en L)) (aw:j7 P (cu g ⟨t,[]⟩ .dead) rs ys xs g'):j7 P g (.tmp t::rs) (.a6 en.z ⟨t,[]⟩ L.length::ys) (ak en L::xs) g'
 | c {g g' w3:aK}{t z:Nat}{ty:TypeId}{cs ys0:List ab}{rs:List ResultVar}{ys xs:List ab}(h:g t=some (.obj cs)) (aw:iz P ty z=true) (aX:cs.length=z) (aQ:Nat.blt 0 z=true) (ax:(cs.mapIdx λi x=>gw 0 ⟨t,[i]⟩ x)=ys0) (hk:nu t g 0 ys0 cs w3) (ao:j7 P w3 rs ys xs g'):j7 P g (.cell t ty::rs) (.agg ys0::ys) (.agg cs::xs) g'
def yH (g0 g:aK):Prop:=∀ t x,g t=some x->(l2 x=true\/(∃ z n cs,x=.own z n cs))->g0 t=some x
theorem yH.set {g0:aK}{t:Nat}{pp:List Nat}(h:yH g0 g) (a1:pp=[]\/∃ cs,g t=some (.obj cs)):yH g0 (cu g ⟨t,pp⟩ .dead):=by
 intro s x J aW;unfold cu at J
 split at J
 ·rename_i aB;simp only at aB J;subst aB;exfalso;cases aO:g s with
  | none=>rw [aO] at J; cases J
  | some y =>
   rw [aO] at J;simp only [Option.map_some,Option.some.injEq] at J;rcases a1 with rfl | ⟨cs,aa⟩
   ·simp only [ab.setAt] at J;subst J;rcases aW with aW | ⟨_,_,_,aW⟩ <;> cases aW
   ·rw [aO] at aa;cases aa;have:∃ cs',x=.obj cs':=by
     subst J;cases pp with
     | nil=>simp only [ab.setAt] at aW; rcases aW with aW | ⟨_,_,_,aW⟩ <;> cases aW
     | cons k pp =>
      simp only [ab.setAt,ab.kids];split
      ·exact ⟨_,rfl⟩
      ·exact ⟨_,rfl⟩
    obtain ⟨cs',rfl⟩:=this;rcases aW with aW | ⟨_,_,_,aW⟩ <;> cases aW
 ·exact h s x J aW
theorem nu.Tp {g0:aK}{s i:Nat}{ys xs:List ab}(h:nu s g i ys xs g'):(∃ cs,g s=some (.obj cs))->yH g0 g->yH g0 g':=by
 induction h with
 | nil=>exact λ_ h=>h
 | f _ _ aU=>exact aU
 | @o α g g' i en L ys xs au _ aU =>
  intro a1 aS;refine aU ?_ (aS.set (.inr a1));obtain ⟨cs,aa⟩:=a1;unfold cu;simp only [if_pos,aa,Option.map_some,ab.setAt,ab.kids];split
  ·exact ⟨_,rfl⟩
  ·exact ⟨_,rfl⟩
theorem nu.out {s i:Nat}{ys xs:List ab}(h:nu s g i ys xs g'):∀ t,t≠s->g' t=g t:=by
 induction h with
 | nil=>exact λ_ _=>rfl
 | f _ _ aU=>exact aU
 | o _ _ aU=>exact λt aw=>by rw [aU t aw,wh aw]
theorem j7.take {rs:List ResultVar}{ys xs:List ab}(h:j7 P g rs ys xs g'):Take g ys xs g':=by
 induction h with
 | nil=>exact .bl (by simp)
 | @f g g' t x rs ys xs h aW aF _ aU=>exact .cons aF.bl aU
 | @o α g g' t en L rs ys xs h _ aU =>
  have au:bB g ⟨t,[]⟩=some (ak en L):=by simp [bB,h,ab.at]
  refine .a6 au (Nat.le_refl _) ?_ aU;rw [yj]; exact .bl (pU en L)
 | @c g g' w3 t z ty cs ys0 rs ys xs h aw aX aQ ax hk _ aU=>exact .agg hk.take aU
theorem j7.vs {rs:List ResultVar}{ys xs:List ab}(h:j7 P g rs ys xs g'):∀ g0:aK,yH g0 g->(∀ t ty,ResultVar.cell t ty∈rs->∀ cs,g t=some (.obj cs)->g0 t=some (.obj cs))->(rs.filterMap fun | .cell t _=>some t | _=>none).Nodup->rI P g0 rs ys:=by
 induction h with
 | nil=>exact λ_ _ _ _=>.nil
 | @f g g' t x rs ys xs h aW aF _ aU =>
  intro g0 aS av fp;exact .cons (.tmp (Rd.f (aS t x h (.inl aW)) aW)) (aU g0 aS (λt ty hm=>av t ty (List.mem_cons_of_mem _ hm)) (by simpa using fp))
 | @o α g g' t en L rs ys xs h _ aU =>
  intro g0 aS av fp;refine .cons (.tmp ?_) (aU g0 (aS.set (.inl rfl)) (λs ty hm cs aa=>?_) (by simpa using fp))
  ·have:=aS t _ h (.inr ⟨_,_,_,rfl⟩);simp [Own.br,this,rq,gw]
  ·by_cases aB:s=t
   ·subst aB; simp [cu,h,ab.setAt] at aa
   ·rw [wh aB] at aa; exact av s ty (List.mem_cons_of_mem _ hm) cs aa
 | @c g g' w3 t z ty cs ys0 rs ys xs h aw aX aQ ax hk _ aU =>
  intro g0 aS av fp;have h1:=av t ty (by simp) cs h;simp only [List.filterMap_cons,List.nodup_cons] at fp;refine .cons ?_ (aU g0 (hk.Tp ⟨cs,h⟩ aS) (λs yu hm cs' aa=>?_) fp.2)
  ·have OD:0<z:=by simpa using aQ
   have J:Own.br g0 (.tmp t)=some (.ptr ⟨t,[]⟩ 0):=by
    cases cs with
    | nil=>simp at aX; omega
    | cons c cs=>simp [Own.br,h1,rq,gw]
   have:=c6.xO (P:=P) (ty:=ty) (p:=⟨t,[]⟩) (n:=0) (z:=0) J aw (by simp only [bB,h1,ab.at]) (.inr rfl) (show 0+z<=cs.length by omega);have hQ:((cs.drop 0).take z).mapIdx (λi x=>gw 0 (Place.push ⟨t,[]⟩ (0+i)) x)=ys0:=by
    rw [List.drop_zero,List.take_of_length_le (by omega),<- ax];congr 1;funext i x;simp [Place.push]
   rw [hQ] at this;exact .cell this
  ·have b1:s≠t:=by
    rintro rfl;exact fp.1 (List.mem_filterMap.2 ⟨.cell s yu,hm,rfl⟩)
   have:=hk.out s b1;rw [this] at aa;exact av s yu (List.mem_cons_of_mem _ hm) cs' aa
inductive qV (g:aK) (pins:List Nat):Nat->List (Option ab)->Prop
 | nil {i:Nat}:qV g pins i []
 | no {i:Nat}{os:List (Option ab)}(t:qV g pins (i+1) os):qV g pins i (none::os)
 | aq {i:Nat}{x:ab}{os:List (Option ab)}(h:g i=some x) [aF:cf x] (au:pins.elem i=true) (t:qV g pins (i+1) os):qV g pins i (some x::os)
theorem qV.spec {pins:List Nat}{i:Nat}{os:List (Option ab)}(h:qV g pins i os):∀ k x,os[k]?=some (some x)->g (i+k)=some x/\cU x/\i+k∈pins:=by
 induction h with
 | nil=>intro k x hk; simp at hk
 | no _ aU =>
  intro k x hk;cases k with
  | zero=>simp at hk
  | succ k=>have:=aU k x (by simpa using hk); rw [Nat.add_assoc,Nat.add_comm 1 k] at this; exact this
 | @aq i y os h aF au _ aU =>
  intro k x hk;cases k with
  | zero=>simp at hk; subst hk; exact ⟨h,aF.bl,by simpa using au⟩
  | succ k=>have:=aU k x (by simpa using hk); rw [Nat.add_assoc,Nat.add_comm 1 k] at this; exact this
theorem Fin.ro {rs:List ResultVar}{ys xs:List ab}{res:ab}{outs:List (Option ab)}{n:Nat}(h:j7 P g rs ys xs g') (he:qF xs=res) (fp:(rs.filterMap fun | .cell t _=>some t | _=>none).Nodup) (a1:qV g' N.pins 0 outs) (aj:outs.length=n) (J:e=.normal\/e=.ret):Fin P N rs n outs res e g :=
 ⟨J,⟨ys,xs,g',h.vs g (λ_ _ h _=>h) (λ_ _ _ _ h=>h) fp,h.take,he.symm,λk x hk=>by have:=a1.spec k x hk; rw [Nat.zero_add] at this; exact this⟩,aj⟩
class ja (x y:ab):Prop where v:∀ g,View g x y
class dr (xs ys:List ab):Prop where
 l:ys.length=xs.length
 v:∀ (g:aK) (k:Nat) (x y:ab),xs[k]?=some x->ys[k]?=some y->View g x y
class gV (e cj:bK α):Prop where
 z:e.z=cj.z
 v:∀ a,dr (e.cells a) (cj.cells a)
instance {v:Value}:ja (.lit v) (.lit v):=⟨λ_=>.self .lit (by simp) (by simp) (by simp) (by simp) (by simp)⟩
instance:ja .aL .aL:=⟨λ_=>.self .aL (by simp) (by simp) (by simp) (by simp) (by simp)⟩
instance {z n:Nat}{cs:List ab} [h:dp cs]:ja (.bk z n cs) (.bk z n cs):=⟨λ_=>.self (.bk h.bl) (by simp) (by simp) (by simp) (by simp) (by simp)⟩
instance {cs:List ab} [h:dp cs]:ja (.cJ cs) (.cJ cs):=⟨λ_=>.self (.cJ h.bl) (by simp) (by simp) (by simp) (by simp) (by simp)⟩
instance {e:bK α}:ja .aL (ag e []):=⟨λ_=>.qB⟩
instance:dr [] []:=⟨rfl,by simp⟩
instance {x y:ab}{xs ys:List ab} [h:ja x y] [aR:dr xs ys]:dr (x::xs) (y::ys):=⟨by simp [aR.l],λg k a b aP av=>by
 cases k with
 | zero=>simp at aP av; subst aP av; exact h.v g
 | succ k=>exact aR.v g k a b (by simpa using aP) (by simpa using av)⟩
theorem Dy (e cj:bK α) [h:gV e cj]:∀ L:List α,(bo cj L).length=(bo e L).length/\∀ (g:aK) (k:Nat) (x y:ab),(bo e L)[k]?=some x->(bo cj L)[k]?=some y->View g x y
 | []=>⟨rfl,by simp [bo]⟩
 | a::L=>by
  obtain ⟨h1,af⟩:=Dy e cj L;have Tz:∀ e:bK α,bo e (a::L)=e.cells a++bo e L:=λe=>by simp [bo]
  refine ⟨by rw [nn,nn,h.z],λg k x y J ax=>?_⟩;rw [Tz] at J ax;by_cases hk:k<e.z
  ·rw [List.getElem?_append_left (by rw [e.len]; exact hk)] at J;rw [List.getElem?_append_left (by rw [cj.len,<- h.z]; exact hk)] at ax;exact (h.v a).v g k x y J ax
  ·rw [List.getElem?_append_right (by rw [e.len]; omega),e.len] at J;rw [List.getElem?_append_right (by rw [cj.len,<- h.z]; omega),cj.len,<- h.z] at ax;exact af g _ x y J ax
instance {e cj:bK α}{L:List α} [h:gV e cj]:ja (ak e L) (ag cj L):=⟨λg=>by
 have:=Dy e cj L;show View g (.own e.z L.length (bo e L)) (.bk cj.z L.length (bo cj L));rw [<- h.z];exact .own this.1 (this.2 g)⟩
instance:gV ai ai:=⟨rfl,λa=>(inferInstance:dr [ae a] [ae a])⟩
instance:gV qf qf:=⟨rfl,λa=>(inferInstance:dr [qY a] [qY a])⟩
instance:gV cp cp:=⟨rfl,λa=>(inferInstance:dr [a_ a] [a_ a])⟩
instance:gV dv dv:=⟨rfl,λa=>(inferInstance:dr [ay a] [ay a])⟩
instance {e cj:bK α} [h:gV e cj]:gV (MD e) (bq cj):=⟨rfl,λa=>(inferInstance:dr [ak e a] [ag cj a])⟩
instance {e:bK α}:gV (bq e) (bq e):=⟨rfl,λa=>(inferInstance:dr [ag e a] [ag e a])⟩
theorem View.row {e cj:bK α}{L:List α} [h:gV e cj] (au:bB g p=some (ak e L)):View g (.a6 e.z p L.length) (ag cj L):=by
 have:=Dy e cj L;show View g _ (.bk cj.z L.length (bo cj L));rw [<- h.z];refine .a6 au (Nat.le_refl _) (by rw [yj]; exact this.1) (λk x y J ax=>?_);rw [yj] at J;exact this.2 g k x y J ax
inductive oE (g:aK):List ab->List ab->Prop
 | nil:oE g [] []
 | s {x y:ab}{xs ys:List ab} [h:ja x y] (t:oE g xs ys):oE g (x::xs) (y::ys)
 | c {x y:ab}{xs ys:List ab}(h:View g x y) (t:oE g xs ys):oE g (x::xs) (y::ys)
theorem oE.len {xs ys:List ab}(h:oE g xs ys):ys.length=xs.length:=by
 induction h with
 | nil=>rfl
 | s _ aU=>simp [aU]
 | c _ _ aU=>simp [aU]
theorem oE.get {xs ys:List ab}(h:oE g xs ys):∀ (k:Nat) (x y:ab),xs[k]?=some x->ys[k]?=some y->View g x y:=by
 induction h with
 | nil=>intro k x y J; simp at J
 | @s x y xs ys h _ aU =>
  intro k a b aP av;cases k with
  | zero=>simp at aP av; subst aP av; exact h.v g
  | succ k=>exact aU k a b (by simpa using aP) (by simpa using av)
 | @c x y xs ys h _ aU =>
  intro k a b aP av;cases k with
  | zero=>simp at aP av; subst aP av; exact h
  | succ k=>exact aU k a b (by simpa using aP) (by simpa using av)
theorem View.mO {xs ys:List ab}(h:oE g xs ys):View g (.agg xs) (.agg ys):=.agg h.len h.get
class p6 (x:ab):Prop where lu:kM x
class jE (cs:List ab):Prop where lu:∀ x∈cs,kM x
class l0 (e:bK α):Prop where lu:∀ a,jE (e.cells a)
instance {v:Value}:p6 (.lit v):=⟨.lit⟩
instance:p6 .aL:=⟨.aL⟩
instance:jE []:=⟨by simp⟩
instance {x:ab}{xs:List ab} [h:p6 x] [aR:jE xs]:jE (x::xs):=⟨λy ax=>by
 rcases List.mem_cons.1 ax with rfl | ax
 ·exact h.lu
 ·exact aR.lu y ax⟩
instance {e:bK α}{L:List α} [h:l0 e]:jE (bo e L):=⟨λx J=>by
 obtain ⟨a,_,aP⟩:=List.mem_flatMap.1 J;exact (h.lu a).lu x aP⟩
instance {z n:Nat}{cs:List ab} [h:jE cs]:p6 (.own z n cs):=⟨.own h.lu⟩
instance {cs:List ab} [h:jE cs]:p6 (.obj cs):=⟨.obj h.lu⟩
instance {cs:List ab} [h:jE cs]:p6 (.agg cs):=⟨.agg h.lu⟩
instance {cs:List ab} [h:jE cs]:p6 (.bV cs):=⟨.bV h.lu⟩
instance {e:bK α}{a:α} [h:l0 e]:jE (e.cells a):=h.lu a
instance:l0 ai:=⟨λa=>(inferInstance:jE [ae a])⟩
instance:l0 qf:=⟨λa=>(inferInstance:jE [qY a])⟩
instance:l0 cp:=⟨λa=>(inferInstance:jE [a_ a])⟩
instance:l0 dv:=⟨λa=>(inferInstance:jE [ay a])⟩
instance {e:bK α} [h:l0 e]:l0 (MD e):=⟨λa=>(inferInstance:jE [ak e a])⟩
theorem Pb {outs:List (Option ab)}{args:List ab}(a1:sj outs=true) (aj:outs.length=args.length):outs=args.map λ_=>none:=by
 apply List.ext_getElem?;intro k;rw [List.getElem?_map];cases ax:args[k]? with
 | none=>rw [List.getElem?_eq_none (by rw [aj]; exact List.getElem?_eq_none_iff.1 ax)]; rfl
 | some y =>
  have hk:k<outs.length:=by rw [aj]; exact (List.getElem?_eq_some_iff.1 ax).1
  have h1:=List.getElem?_eq_getElem hk;rw [h1];cases af:outs[k] with
  | none=>rfl
  | some x=>rw [af] at h1; exact absurd h1 (Fu a1 k x)
theorem cK.vw {xs:List Operand}{gq:Array TypeId}{f:FuncId}{ys args:List ab}{outs:List (Option ab)}{res:ab}(J:gp g xs=some ys) (hv:oE g ys args) (gQ:bU P f args outs res) (aW:gO P f=true) (a1:sj outs=true) [ao:p6 res] :
  cK P g (.call { callee:=.value (.func f),args:=xs.toArray,argTypes:=gq }) res:=by
 have e:=Pb a1 gQ.1;refine .Fe (first:=[]) (caps:=[]) (ys:=ys) (args:=args) rfl (by simpa using J) aW (by simpa using hv.len) (λk x y J ax=>hv.get k x y (by simpa using J) ax) ?_ ao.lu;rw [<- e]; exact gQ
end
end Go.Own
namespace Go.Own
open Go
variable {α β:Type}
section
variable {P:Program}{N:c5}{ops:Array Oper}{g g' g1 g2:aK}{K:aK->Prop}{l:List Oper}{d r:Nat}{op:Op}{ty t t2:TypeId}{pos:String}{after:Array Edge}{gd:Option (Nat × Bool)}{a b c:Operand}{p q:Place}{x y:ab}
variable {bd:List (List Nat)}{g0:aK}{acc:Acc}{i:Nat}
instance {cs cs':List ab} [h:dr cs cs']:ja (.obj cs) (.cJ cs'):=⟨λg=>.obj h.l (h.v g)⟩
instance {cs cs':List ab} [h:dr cs cs']:ja (.agg cs) (.agg cs'):=⟨λg=>.agg h.l (h.v g)⟩
instance {z n:Nat}{cs cs':List ab} [h:dr cs cs']:ja (.own z n cs) (.bk z n cs'):=⟨λg=>.own h.l (h.v g)⟩
theorem ar.fi (au:ch P g op ty y) [aF:cf y] [hv:ja y x] (bc:N.ok d=true) (aW:g d=none) (aO:fu g ops gd) (hk:ar P N ops l (cV g d x) K):ar P N ops (⟨some d,op,ty,pos,after,gd⟩::l) g K :=
 .AG rfl bc aW (r:=some x) (.inr (.inr ⟨aO.wanted,y,.inl au,aF.bl,hv.v _⟩)) hk
theorem bz.fi (bG:Nat) (au:ch P (jC bd g0 bG acc) op ty y) [aF:cf y] [hv:ja y x] (ah:Nat.beq ops.size (bG+l.length+1)=true) (aW:g0 d=none) (kz:acc.all (λe=>!Nat.beq e.2.1 d)=true) (bc:N.ok d=true) (aO:fu (jC bd g0 bG acc) ops gd)
  (hk:bz P N ops bd g0 i ((bG,d,some x)::acc) l K):bz P N ops bd g0 i acc (⟨some d,op,ty,pos,after,gd⟩::l) K :=
 .st bG (r:=some x) rfl (.inr (.inr ⟨aO.wanted,y,.inl au,aF.bl,hv.v _⟩)) ah aW kz bc hk
inductive n4 (ex:List Nat) (g g2:aK):List (Nat × ab)->Prop
 | nil:n4 ex g g2 []
 | n {s:Nat}{x:ab}{l:List (Nat × ab)}(dq:ex.elem s=false) (h:g s=some x) [aF:cf x] (t:n4 ex g g2 l):n4 ex g g2 ((s,x)::l)
 | p {s q k:Nat}{l:List (Nat × ab)}{ku:List ab}(dq:ex.elem s=false) (h:g s=some (.ptr ⟨q,[]⟩ k)) (af:g2 q=some (.obj ku)) (fW:Nat.blt k ku.length=true) (t:n4 ex g g2 l):n4 ex g g2 ((s,.ptr ⟨q,[]⟩ k)::l)
 | z {s:Nat}{x y:ab}{l:List (Nat × ab)}(he:ex.elem s=true) (h:g s=some y) [aF:cf y] (hv:h5 y x) [J:ns x] (t:n4 ex g g2 l):n4 ex g g2 ((s,x)::l)
theorem n4.spec {ex:List Nat}{l:List (Nat × ab)}(h:n4 ex g g2 l):∀ t x,get l t=some x->((ex.elem t=false/\g t=some x/\dh g2 x)\/(ex.elem t=true/\∃ y,g t=some y/\cU y/\h5 y x))/\∀ z p n m new,x≠.bL z p n m new:=by
 induction h with
 | nil=>intro t x J; cases J
 | @n s x l dq h aF _ aU =>
  intro t y ax;simp only [get] at ax
  split at ax
  ·rename_i e;subst e;cases ax;exact ⟨.inl ⟨dq,h,.bl aF.bl⟩,by rintro z p n m new rfl; cases aF.bl⟩
  grind
 | @p s q k l ku dq h af fW _ aU =>
  intro t y ax;simp only [get] at ax
  split at ax
  ·rename_i e;subst e;cases ax;exact ⟨.inl ⟨dq,h,.ref rfl (uE af (by simpa using fW))⟩,by simp⟩
  grind
 | @z s x y l he h aF hv J _ aU =>
  intro t y' ax;simp only [get] at ax
  split at ax
  ·rename_i e;subst e;cases ax;exact ⟨.inr ⟨he,y,h,aF.bl,hv⟩,J.fy⟩
  grind
theorem n4.u7 {ex:List Nat}{G2:List (Nat × ab)}(h:n4 ex g (get G2) G2):GL (λt=>ex.elem t) g (get G2):=by
 refine ⟨λt x J aw=>?_,λt x J aw=>?_,λt z q n m new J=>(h.spec t _ J).2 _ _ _ _ _ rfl⟩
 ·rcases (h.spec t x J).1 with ⟨_,h1,af⟩ | ⟨h1,_⟩
  ·grind
  grind
 ·rcases (h.spec t x J).1 with ⟨h1,_⟩ | ⟨_,af⟩
  ·grind
  grind
theorem W.dO {bE:Code}{G G1:List (Nat × ab)}{Φ:Exit->aK->Prop}(ex:List Nat) (h:n4 ex (get G) (get G1) G1) (hw:W P N bE (get G1) Φ):W P N bE (get G) Φ:=by
 intro Q a w I Fs bj bc dP;obtain ⟨I',b7,d_,b1⟩:=bj.u7 h.u7;exact hw d_ bc λe g' ca w' he aF=>dP e g' ca w' he (h7.trans rfl hE.refl b1 aF)
theorem ar.dO {G1:List (Nat × ab)}(ex:List Nat) (h:n4 ex g (get G1) G1) (hk:ar P N ops l (get G1) K):ar P N ops l g K:=by
 intro i hi;obtain ⟨g',ao,di⟩:=hk i hi;exact ⟨g',.u7 h.u7 ao,di⟩
theorem Take.pre {xs xs':List ab}:∀ {ps:List ab},(∀ x∈ps,cU x)->Take g xs xs' g'->Take g (ps++xs) (ps++xs') g'
 | [],_,h=>h
 | x::ps,aF,h=>.cons (aF x (by simp)) (Take.pre (ps:=ps) (λy ax=>aF y (List.mem_cons_of_mem _ ax)) h)
inductive e7:aK->List ab->List ab->aK->Prop
 | nil {g:aK}:e7 g [] [] g
 | kE {g:aK}{xs:List ab} [aF:dp xs]:e7 g xs xs g
 | f {g g':aK}{x:ab}{xs xs':List ab} [aF:cf x] (t:e7 g xs xs' g'):e7 g (x::xs) (x::xs') g'
 | r {α:Type}{g g':aK}{p:Place}{en:bK α}{L:List α}{xs xs':List ab}(au:bB g p=some (ak en L)) (t:e7 (cu g p .dead) xs xs' g'):e7 g (.a6 en.z p L.length::xs) (ak en L::xs') g'
 | l {g g1 g':aK}{p:Place}{z n:Nat}{cs cs' xs xs':List ab}(au:bB g p=some (.own z n cs)) (aj:cs.length=n * z) (h1:e7 (cu g p .dead) cs cs' g1) (t:e7 g1 xs xs' g'):e7 g (.a6 z p n::xs) (.own z n cs'::xs') g'
 | h0 {α:Type}{g g1 g':aK}{q:Place}{s m:Nat}{en:bK α}{L:List α}{new c3 xs xs':List ab}(aB:g s=some (.bL en.z q L.length m new)) (au:bB g q=some (ak en L)) (bg:Nat.beq q.root s=false) (h1:e7 (cu (cu g ⟨s,[]⟩ .dead) q .dead) new c3 g1) (t:e7 g1 xs xs' g') :
   e7 g (.a6 en.z ⟨s,[]⟩ (L.length+m)::xs) (.own en.z (L.length+m) (bo en L++c3)::xs') g'
 | mO {g g1 g':aK}{cs cs' xs xs':List ab}(h1:e7 g cs cs' g1) (t:e7 g1 xs xs' g'):e7 g (.agg cs::xs) (.agg cs'::xs') g'
 | m {g g':aK}{p:Place}{q:Array MapEntry->Nat->Prop}{xs xs':List ab}(au:bB g p=some (.mp q)) (t:e7 (cu g p .dead) xs xs' g'):e7 g (.gz p::xs) (.mp q::xs') g'
 | b {g g1 g':aK}{p:Place}{cs cs' xs xs':List ab}(au:bB g p=some (.obj cs)) (h1:e7 (cu g p .dead) cs cs' g1) (t:e7 g1 xs xs' g'):e7 g (.ptr p 0::xs) (.obj cs'::xs') g'
theorem e7.take {xs xs':List ab}(h:e7 g xs xs' g'):Take g xs xs' g':=by
 induction h with
 | m au _ aU=>exact .mp au (.bl (by simp)) aU
 | nil=>exact .bl (by simp)
 | @kE g xs aF=>exact .bl aF.bl
 | @f g g' x xs xs' aF _ aU=>exact .cons aF.bl aU
 | @r α g g' p en L xs xs' au _ aU =>
  refine .a6 au (Nat.le_refl _) ?_ aU;rw [yj];exact .bl (pU en L)
 | @l g g1 g' p z n cs cs' xs xs' au aj _ _ gy gk =>
  refine .a6 au (Nat.le_refl _) ?_ gk
  grind
 | @h0 α g g1 g' q s m en L new c3 xs xs' aB au bg _ _ gy gk=>exact .bL aB au (Nat.ne_of_beq_eq_false bg) (.pre (pU en L) gy) gk
 | @mO g g1 g' cs cs' xs xs' _ _ gy gk=>exact .agg gy gk
 | @b g g1 g' p cs cs' xs xs' au _ _ gy gk=>exact .obj au gy gk
inductive fl:List ab->List ab->Prop
 | nil:fl [] []
 | h2 {xs:List ab}:fl xs xs
 | f {x:ab}{xs ys:List ab}(t:fl xs ys):fl (x::xs) (x::ys)
 | o {z:Nat}{xs ys:List ab}(t:fl xs ys):fl (.aL::xs) (.own z 0 []::ys)
 | z {x y:ab}{xs ys:List ab} [aF:cf x] [hv:ja x y] (t:fl xs ys):fl (x::xs) (y::ys)
 | g {x y:ab}{xs ys:List ab}(h:h5 x y) (t:fl xs ys):fl (x::xs) (y::ys)
theorem fl.len {xs ys:List ab}(h:fl xs ys):ys.length=xs.length:=by
 induction h with
 | nil=>rfl
 | h2=>rfl
 | f _ aU=>simp [aU]
 | o _ aU=>simp [aU]
 | z _ aU=>simp [aU]
 | g _ _ aU=>simp [aU]
theorem fl.get {xs ys:List ab}(h:fl xs ys):∀ (k:Nat) (x y:ab),xs[k]?=some x->ys[k]?=some y->h5 x y:=by
 induction h with
 | nil=>intro k x y J; simp at J
 | h2=>intro k x y J ax; rw [J] at ax; cases ax; exact .refl
 | @f x xs ys _ aU =>
  intro k a b aP av;cases k with
  | zero=>simp at aP av; subst aP av; exact .refl
  | succ k=>exact aU k a b (by simpa using aP) (by simpa using av)
 | @o z xs ys _ aU =>
  intro k a b aP av;cases k with
  | zero=>simp at aP av; subst aP av; exact .CD
  | succ k=>exact aU k a b (by simpa using aP) (by simpa using av)
 | @z x y xs ys aF hv _ aU =>
  intro k a b aP av;cases k with
  | zero=>simp at aP av; subst aP av; exact .pL aF.bl (hv.v _)
  | succ k=>exact aU k a b (by simpa using aP) (by simpa using av)
 | @g x y xs ys h _ aU =>
  grind
theorem fl.pre {xs ys:List ab}(h:fl xs ys):∀ ps:List ab,fl (ps++xs) (ps++ys)
 | []=>h
 | _::ps=>.f (fl.pre h ps)
theorem fl.own {z n:Nat}{xs ys:List ab}(h:fl xs ys):h5 (.own z n xs) (.own z n ys):=.own h.len h.get
theorem fl.obj {xs ys:List ab}(h:fl xs ys):h5 (.obj xs) (.obj ys):=.obj h.len h.get
theorem fl.agg {xs ys:List ab}(h:fl xs ys):h5 (.agg xs) (.agg ys):=.agg h.len h.get
theorem h5.j5 [aF:cf x] [hv:ja x y]:h5 x y:=.pL aF.bl (hv.v _)
theorem bm.A8 {o:Oper}{x:Operand}{y bw y':ab}{G2:List (Nat × ab)}(a1:o.op=.assign x) (aS:o.dst=some d) (J:Rd g x y) (aw:e7 g [y] [bw] g1) (aX:h5 bw y') (c9:Trim false g1 (get G2) G2) (aO:get G2 d=none) (bc:N.ok d=true):bm P N g o (cV (get G2) d y') :=
 .assign a1 aS J.br aw.take aX c9.keep aO bc
theorem bm.LX {o:Oper}{x:Operand}{en:bK α}{L M R:List α}{s m:Nat}{new c3:List ab}{G2:List (Nat × ab)}(a1:o.op=.assign x) (aS:o.dst=some d) (J:Rd g x (.a6 en.z ⟨s,[]⟩ (L.length+m))) (aB:g s=some (.bL en.z q L.length m new)) (au:bB g q=some (ak en L)) (bg:Nat.beq q.root s=false)
  (h1:e7 (cu (cu g ⟨s,[]⟩ .dead) q .dead) new c3 g1) (aX:fl c3 (bo en M)) (hm:M.length=m) (ao:L++M=R) (c9:Trim false g1 (get G2) G2) (aO:get G2 d=none) (bc:N.ok d=true):bm P N g o (cV (get G2) d (ak en R)):=by
 subst hm ao;have aw:=e7.h0 (xs:=[]) (xs':=[]) aB au bg h1 .nil;rw [<- mC];exact .assign a1 aS J.br aw.take (aX.pre _).own c9.keep aO bc
theorem bm.pX {o:Oper}{k0:Nat}{ju cs' cs2:List ab}{y bw y':ab}{G2:List (Nat × ab)}(a1:o.op=.store t a b) (aS:o.dst=none) (aP:Rd g a (.ptr ⟨r,[]⟩ k0)) (av:Rd g b y) (aw:e7 g [y] [bw] g1) (q_:h5 bw y') (aa:oJ y'=some cs') (aX:hs P t cs'.length=true)
  (aB:g1 r=some (.obj ju)) (hk:Nat.ble (k0+cs'.length) ju.length=true) (aQ:Nat.blt 0 cs'.length=true) (he:e5 ju k0 cs'=cs2) [e8:dp ju] (ao:(get G2 r).isSome=true) (c9:la g1 (get G2) r cs2 G2):bm P N g o (get G2):=by
 subst he;refine .store a1 aS aP.br av.br aw.take q_ aa aX (p:=⟨r,[]⟩) (nd:=.obj ju) (z:=0) (n:=0) (by simp [bB,aB,ab.at]) (.inr rfl) (Nat.le_of_ble_eq_true hk) (by simpa using aQ) (λt x J=>?_) (λt x J y ax=>?_) (λt z q n m new J=>?_) (by intro e; rw [e] at ao; cases ao)
 ·rcases c9.spec t x J with ⟨h1,af,_⟩ | ⟨h1,af,_⟩
  all_goals grind [cu,ab.setAt,ab.e5]
 ·rcases c9.spec t x J with ⟨h1,af,aI⟩ | ⟨h1,af,aI⟩
  ·rw [af] at ax;cases ax;exact aI.yh
  ·subst h1;rw [aB] at ax;cases ax;exact .bl (.obj e8.bl)
 ·rcases c9.spec t _ J with ⟨_,_,aI⟩ | ⟨_,af,_⟩
  ·exact aI.fy _ _ _ _ _ rfl
  grind
theorem bm.F9 {o:Oper}{k0 s m:Nat}{en:bK α}{L M R:List α}{new c3:List ab}{ju cs2:List ab}{G2:List (Nat × ab)}(a1:o.op=.store t a b) (aS:o.dst=none) (aP:Rd g a (.ptr ⟨r,[]⟩ k0)) (av:Rd g b (.a6 en.z ⟨s,[]⟩ (L.length+m))) (qo:g s=some (.bL en.z q L.length m new)) (au:bB g q=some (ak en L)) (bg:Nat.beq q.root s=false)
  (h1:e7 (cu (cu g ⟨s,[]⟩ .dead) q .dead) new c3 g1) (q_:fl c3 (bo en M)) (hm:M.length=m) (aY:L++M=R) (aX:hs P t 1=true)
  (aB:g1 r=some (.obj ju)) (hk:Nat.ble (k0+1) ju.length=true) (he:e5 ju k0 [ak en R]=cs2) [e8:dp ju] (ao:(get G2 r).isSome=true) (c9:la g1 (get G2) r cs2 G2):bm P N g o (get G2):=by
 subst hm aY;have aw:=e7.h0 (xs:=[]) (xs':=[]) qo au bg h1 .nil;refine .pX (y':=ak en (L++M)) a1 aS aP av aw ?_ rfl aX aB hk rfl he ao c9;rw [<- mC]; exact (q_.pre _).own
inductive nr (r:Nat) (cs:List ab) (k0:Nat):Nat->List ab->List ab->Prop
 | nil {i:Nat}:nr r cs k0 i [] []
 | b {i:Nat}{xs ys:List ab}(hi:Nat.beq i k0=true) (t:nr r cs k0 (i+1) xs ys):nr r cs k0 i (.ptr ⟨r,[]⟩ 0::xs) (.obj cs::ys)
 | n {i:Nat}{x:ab}{xs ys:List ab}(hi:Nat.beq i k0=false) [aF:cf x] (t:nr r cs k0 (i+1) xs ys):nr r cs k0 i (x::xs) (x::ys)
theorem nr.len {cs:List ab}{k0 i:Nat}{xs ys:List ab}(h:nr r cs k0 i xs ys):ys.length=xs.length:=by
 induction h with
 | nil=>rfl
 | b _ _ aU=>simp [aU]
 | n _ _ aU=>simp [aU]
theorem nr.XH {cs:List ab}{k0 i:Nat}{xs ys:List ab}(h:nr r cs k0 i xs ys) (hi:k0<i):xs=ys/\∀ x∈xs,cU x:=by
 induction h with
 | nil=>exact ⟨rfl,by simp⟩
 | @b i _ _ h _ _=>have:=Nat.eq_of_beq_eq_true h; omega
 | @n i x xs ys _ aF _ aU =>
  obtain ⟨h1,af⟩:=aU (by omega);exact ⟨by rw [h1],pQ aF.bl af⟩
theorem nr.take {cs:List ab}{k0 i:Nat}{xs ys:List ab}(h:nr r cs k0 i xs ys) (aB:g r=some (.obj cs)) (aF:∀ x∈cs,cU x):i<=k0->k0<i+xs.length->Take g xs ys (cu g ⟨r,[]⟩ .dead):=by
 induction h with
 | nil=>intro h1 af; simp at af; omega
 | @b i xs ys hi t _ =>
  intro h1 af;have:=Nat.eq_of_beq_eq_true hi;obtain ⟨e,mY⟩:=t.XH (by omega);subst e;exact .obj (by simp [bB,aB,ab.at]) (.bl aF) (.bl mY)
 | @n i x xs ys hi J _ aU =>
  intro h1 af;have:=Nat.ne_of_beq_eq_false hi;simp only [List.length_cons] at af;exact .cons J.bl (aU (by omega) (by omega))
theorem nr.RZ {cs:List ab}{k0 i:Nat}{xs ys:List ab}(h:nr r cs k0 i xs ys):i<=k0->k0<i+xs.length->xs[k0 - i]?=some (.ptr ⟨r,[]⟩ 0):=by
 induction h with
 | nil=>intro h1 af; simp at af; omega
 | @b i xs ys hi _ _=>intro _ _; have:=Nat.eq_of_beq_eq_true hi; subst this; simp
 | @n i x xs ys hi _ _ aU =>
  grind [Nat.ne_of_beq_eq_false]
def uw (n k0:Nat) (x:ab):List (Option ab):=(List.range n).map λi=>if i=k0 then some x else none
inductive yF (g:aK) (d r:Nat) (n:Nat) (G4:List (Nat × ab)):List (Nat × ab)->Prop
 | nil:yF g d r n G4 []
 | c {s k:Nat}{l:List (Nat × ab)}(h:g s=some (.ptr ⟨r,[]⟩ k)) (hk:Nat.blt k n=true) (aS:Nat.beq s d=false) (bF:get G4 s=none) (t:yF g d r n G4 l):yF g d r n G4 ((s,.ptr ⟨r,[]⟩ k)::l)
theorem Ep {A B:List (Nat × ab)}{t:Nat}:get (A++B) t=match get A t with | some x=>some x | none=>get B t:=by
 induction A with
 | nil=>rfl
 | cons p A aU =>
  grind [get]
theorem yF.spec {n:Nat}{G4 A:List (Nat × ab)}(h:yF g d r n G4 A):∀ t x,get A t=some x->get G4 t=none/\t≠d/\g t=some x/\∃ k,x=.ptr ⟨r,[]⟩ k/\k<n:=by
 induction h with
 | nil=>intro t x J; cases J
 | @c s k l h hk aS bF _ aU =>
  intro t x J;simp only [get] at J
  split at J
  ·rename_i e;subst e;cases J
   simp_all [Nat.ne_of_beq_eq_false]
  grind
theorem hM.nh {o:Oper}{xs:List Operand}{gq:Array TypeId}{f:FuncId}{ys args:List ab}{res:ab}{cs cs':List ab}{k0:Nat}{G2 A:List (Nat × ab)}(a1:o.op=.call { callee:=.value (.func f),args:=xs.toArray,argTypes:=gq }) (aS:o.dst=some d) (J:Own.gp g xs=some ys)
  (aB:g r=some (.obj cs)) [e8:dp cs] (aP:nr r cs k0 0 ys args) (lO:Nat.blt k0 ys.length=true) (gQ:bU P f args (uw args.length k0 (.obj cs')) res) (aW:gO P f=true) [ao:cf res] [BU:dp cs']
  (c9:Trim false (cu g ⟨r,[]⟩ .dead) (get ((r,.dead)::G2)) G2) (aO:get G2 d=none) (r7:Nat.beq r d=false) (By:Trim false (get ((r,.obj cs')::G2)) (get ((r,.obj cs')::G2)) G2) (er:yF g d r cs'.length ((r,.obj cs')::G2) A) (bc:N.ok d=true) :
  hM P N g o d (get (A++(d,res)::(r,.obj cs')::G2)):=by
 have acQ:k0<ys.length:=by simpa using lO
 have I2:r≠d:=Nat.ne_of_beq_eq_false r7;have sI:args.length=ys.length:=aP.len;have r6:(uw args.length k0 (.obj cs'))[k0]?=some (some (.obj cs')):=by
  grind [uw]
 have V8:∀ (k:Nat) (x:ab),(uw args.length k0 (.obj cs'))[k]?=some (some x)->x=.obj cs':=by
  grind [uw]
 have Hs:get ((r,ab.dead)::G2) r=some .dead:=by simp [get]
 have xI:hF (cu g ⟨r,[]⟩ .dead) (get ((r,.dead)::G2)):=by
  refine ⟨λt x h=>?_,λt x h=>?_,λt z q n m new h=>?_⟩
  all_goals
   simp only [get] at h
   split at h
  ·grind [cu,ab.setAt]
  ·obtain ⟨⟨y,h1,_,aI⟩,_⟩:=c9.spec t x h
   grind
  ·cases h;exact .bl .dead
  ·exact (c9.spec t x h).2.1
  ·cases h
  ·exact (c9.spec t _ h).2.2 _ _ _ _ _ rfl
 have put:qE (get ((r,.dead)::G2)) [(⟨r,[]⟩,.obj cs')]=get ((r,.obj cs')::G2):=by
  funext t
  simp_all [qE,cu,get,ab.setAt]
 have xJ:hF (get ((r,.obj cs')::G2)) (get ((r,.obj cs')::G2)):=by
  refine ⟨λt x h=>h,λt x h=>?_,λt z q n m new h=>?_⟩
  all_goals
   simp only [get] at h
   split at h
  ·cases h;exact .bl (.obj BU.bl)
  ·exact (By.spec t x h).2.1
  ·cases h
  ·exact (By.spec t _ h).2.2 _ _ _ _ _ rfl
 refine yI.ok (first:=[]) (caps:=[]) (ys:=ys) (tk:=λ_=>true) (vw:=false) (outs:=uw args.length k0 (.obj cs')) (g1:=cu g ⟨r,[]⟩ .dead) (g2:=get ((r,.dead)::G2)) (g4:=get ((r,.obj cs')::G2)) (l:=[(⟨r,[]⟩,.obj cs')]) (ks:=λ_=>k0) (xs0:=ys) (xs1:=args) (args:=args) (res:=res) a1 aS rfl (by simpa using J)
  ⟨aW,by simp,by simpa using sI,λk x h=>.inl (by simpa using h),aP.take aB e8.bl (Nat.zero_le _) (by omega),xI,λk x y _ ax=>by simpa using ax,gQ,by simpa using ao.bl,λk x h=>by rw [V8 k x h]; simpa using cU.obj BU.bl,λj p x ah=>?_,by simp,λi j hi ah _=>by simp at hi ah; omega,by rw [put]; exact xJ⟩ ?_ bc ?_
 ·cases j with
  | succ j=>simp at ah
  | zero =>
   simp only [List.getElem?_cons_zero,Option.some.injEq,Prod.mk.injEq] at ah;obtain ⟨rfl,rfl⟩:=ah;refine ⟨r6,by simp [bB,Hs,ab.at],.inr ⟨cs,?_,by simp [bB,aB,ab.at]⟩⟩;have:=aP.RZ (Nat.zero_le _) (by omega)
   grind
 ·grind [get]
 ·refine ⟨λt x h=>?_,λt x h=>?_⟩
  ·rw [sD] at h;rw [Ep];cases rW:get A t with
   | none=>exact h
   | some y =>
    obtain ⟨h1,af,_⟩:=er.spec t y rW
    grind [get]
  ·rw [sD];rw [Ep] at h;cases rW:get A t with
   | none=>rw [rW] at h; exact .inl h
   | some y =>
    rw [rW] at h;cases h;obtain ⟨h1,af,aI,k,rfl,hk⟩:=er.spec t x rW;refine .inr ⟨?_,af,aI,r,k,cs',rfl,I2,?_,hk⟩
    all_goals grind [get]
end
end Go.Own
namespace Go.Own
open Go
variable {α β:Type}
def Eg (k:IntKind):bK Int:=.one (λn=>.lit (.int k n)) λ_=>.lit
instance {k:IntKind}:Flat (Eg k):=⟨λ_=>rfl⟩
instance {k:IntKind}:gV (Eg k) (Eg k):=⟨rfl,λa=>(inferInstance:dr [.lit (.int k a)] [.lit (.int k a)])⟩
instance {k:IntKind}:l0 (Eg k):=⟨λa=>(inferInstance:jE [.lit (.int k a)])⟩
instance {cs:List ab}{n:Nat}{x:ab} [h:dp cs] [J:cf x]:dp (cs.set n x):=⟨λy ax=>by
 rcases List.mem_or_eq_of_mem_set ax with aR | aR
 ·exact h.bl y aR
 ·rw [aR]; exact J.bl⟩
instance {x y:ab} [h:cf y]:cf (x.setAt [] y):=⟨by simpa [ab.setAt] using h.bl⟩
def rp (m n:Int):Option Int:=if n=0 then none else some (IntKind.u64.wrap (m.tdiv n))
def ru (m n:Int):Option Int:=if n=0 then none else some (m.tmod n)
inductive j':List ab->List ab->Prop
 | nil:j' [] []
 | f {x:ab}{xs ys:List ab}(t:j' xs ys):j' (x::xs) (x::ys)
 | o {z:Nat}{xs ys:List ab}(t:j' xs ys):j' (.aL::xs) (.own z 0 []::ys)
 | i {z:Nat}{xs ys:List ab}(t:j' xs ys):j' (.aL::xs) (.bk z 0 []::ys)
theorem j'.len {xs ys:List ab}(h:j' xs ys):ys.length=xs.length:=by
 induction h with
 | nil=>rfl
 | f _ aU=>simp [aU]
 | o _ aU=>simp [aU]
 | i _ aU=>simp [aU]
theorem j'.get {xs ys:List ab}(h:j' xs ys):∀ (k:Nat) (x y:ab),xs[k]?=some x->ys[k]?=some y->pf x y:=by
 induction h with
 | nil=>intro k x y J; simp at J
 | f _ aU =>
  intro k a b aP av;cases k with
  | zero=>simp at aP av; subst aP av; exact .refl
  | succ k=>exact aU k a b (by simpa using aP) (by simpa using av)
 | o _ aU =>
  intro k a b aP av;cases k with
  | zero=>simp at aP av; subst aP av; exact .pP
  | succ k=>exact aU k a b (by simpa using aP) (by simpa using av)
 | i _ aU =>
  intro k a b aP av;cases k with
  | zero=>simp at aP av; subst aP av; exact .pO
  | succ k=>exact aU k a b (by simpa using aP) (by simpa using av)
theorem j'.obj {xs ys:List ab}(h:j' xs ys):pf (.obj xs) (.obj ys):=.obj h.len h.get
section
variable {P:Program}{N:c5}{ops:Array Oper}{g g' g1 g2:aK}{K:aK->Prop}{l:List Oper}{d r:Nat}{op:Op}{ty t t2:TypeId}{pos:String}{after:Array Edge}{gd:Option (Nat × Bool)}{a b c:Operand}{p q:Place}{x y:ab}{k:IntKind}{m n:Int}
variable {bd:List (List Nat)}{g0:aK}{acc:Acc}{i:Nat}
def ri:List Nat->Bool
 | []=>true
 | x::l=>l.all (λy=>!Nat.beq x y)&&ri l
theorem Fj:∀ {l:List Place},ri (l.map Place.root)=true->l.Nodup
 | [],_=>List.nodup_nil
 | p::l,h=>by
  simp only [List.map_cons,ri,Bool.and_eq_true,List.all_eq_true] at h;refine List.nodup_cons.2 ⟨λhm=>?_,Fj h.2⟩;have:=h.1 p.root (List.mem_map.2 ⟨p,hm,rfl⟩);simp at this
theorem bz.wN (bG:Nat) {G G2:List (Nat × ab)}{o:Oper}(he:bm P N (dg (get G) (λ_=>true) acc) o (get G2)) (aO:o.guard=none) (gR:ri ((acc.filterMap j2).map Place.root)=true) (fI:l' G=true) (ah:Nat.beq ops.size (bG+l.length+1)=true)
  (aP:(List.range bG).all (λk=>(bd.getD bG []).contains k)=true) (av:(List.range ops.size).all (λk=>Nat.ble k bG||(bd.getD k []).contains bG)=true) (hk:bz P N ops bd (get G2) (bG+1) [] l K):bz P N ops bd (get G) i acc (o::l) K:=by
 intro dW j cn kW lj;have:=zh lj ah;subst this;obtain ⟨h1,af⟩:=drop_cons lj;obtain ⟨g',ao,di⟩:=hk [] (j+1) .nil .nil af;refine ⟨g',.L8 cn kW (Fj gR) (vK fI) h1 ?_ he aP ?_ ao,di⟩
 ·grind [iy]
 simp_all
theorem bz.bv (bG:Nat) {G G2:List (Nat × ab)}{o:Oper}{x:ab}(he:bm P N (dg (get G) (λ_=>true) acc) o (cV (get G2) d x)) (aO:o.guard=none) (gR:ri ((acc.filterMap j2).map Place.root)=true) (fI:l' G=true) (ah:Nat.beq ops.size (bG+l.length+1)=true)
  (aP:(List.range bG).all (λk=>(bd.getD bG []).contains k)=true) (av:(List.range ops.size).all (λk=>Nat.ble k bG||(bd.getD k []).contains bG)=true) (hk:bz P N ops bd (get ((d,x)::G2)) (bG+1) [] l K):bz P N ops bd (get G) i acc (o::l) K :=
 .wN bG (sD ▸ he) aO gR fI ah aP av hk
class pc (s:Nat) (g:aK):Prop where fy:∀ t,t≠s->∀ z q n m new,g t≠some (.bL z q n m new)
instance (priority:=low) {s:Nat}{g:aK} [h:qT g]:pc s g:=⟨λt _=>h.fy t⟩
instance {s:Nat}{g:aK}{x:ab} [h:pc s g]:pc s (cV g s x):=⟨λt aw z q n m new e=>by
 unfold cV at e;rw [if_neg aw] at e;exact h.fy t aw _ _ _ _ _ e⟩
instance {s d:Nat}{g:aK}{x:ab} [h:pc s g] [J:ns x]:pc s (cV g d x):=⟨λt aw z q n m new e=>by
 unfold cV at e
 split at e
 ·cases e; exact J.fy _ _ _ _ _ rfl
 ·exact h.fy t aw _ _ _ _ _ e⟩
class yU (s:Nat) (acc:Acc):Prop where fy:∀ e∈acc,e.2.1≠s->∀ z q n m new,e.2.2≠some (.bL z q n m new)
instance {s:Nat}:yU s []:=⟨by simp⟩
instance {s j d:Nat}{x:ab}{acc:Acc} [J:ns x] [h:yU s acc]:yU s ((j,d,some x)::acc):=⟨λe he aB z q n m new bY=>by
 rcases List.mem_cons.1 he with rfl | he
 ·exact J.fy z q n m new (Option.some.inj bY)
 ·exact h.fy e he aB z q n m new bY⟩
instance {s j:Nat}{x:Option ab}{acc:Acc} [h:yU s acc]:yU s ((j,s,x)::acc):=⟨λe he aB z q n m new bY=>by
 rcases List.mem_cons.1 he with rfl | he
 ·exact absurd rfl aB
 ·exact h.fy e he aB z q n m new bY⟩
instance {s:Nat}{G:List (Nat × ab)}{A:Nat->Bool}{acc:Acc} [aO:qT (get G)] [h:yU s acc]:pc s (dg (get G) A acc):=⟨λt aw z q n m new e=>by
 rcases uN e with ⟨cj,he,h1,_,af⟩ | ⟨_,af⟩
 ·exact h.fy cj he (by rw [h1]; exact aw) _ _ _ _ _ af
 ·exact aO.fy _ _ _ _ _ _ af⟩
namespace O
theorem rp {r:Int}(J:Rd g a (.lit (.int .u64 m))) (ax:Rd g b (.lit (.int .u64 n))) (h:Own.rp m n=some r):ch P g (.binOp .quo t a b t2) ty (.lit (.int .u64 r)):=by
 unfold Own.rp at h
 split at h
 ·cases h
 ·cases h; exact .eW (.quo J ax (by assumption))
theorem ru {r:Int}(J:Rd g a (.lit (.int .u64 m))) (ax:Rd g b (.lit (.int .u64 n))) (h:Own.ru m n=some r):ch P g (.binOp .rem t a b t2) ty (.lit (.int .u64 r)):=by
 unfold Own.ru at h
 split at h
 ·cases h
 ·cases h; exact .eW (.rem J ax (by assumption))
theorem Tk {L:List Int}(J:Rd g a (.bk qf.z L.length (bo qf L))) (aw:wQ P t t2=true):ch P g (.convert t t2 a) ty (ay (strOfNums L)):=by
 have h:=J.br;rw [PQ] at h;exact .eW (.Ee h aw)
theorem wO {e dy:Nat}{parts:Array (Nat × Operand)}{ys cs:List ab}{z:Nat}(aw:fq P t e z=true) (J:gp g (parts.toList.map (·.2))=some ys) (aa:mm ys=some cs) (aX:ys.all (λy=>match jT y with | some c=>Nat.beq c.length z | none=>false)=true)
  (au:parts.toList=(parts.toList.map (·.2)).mapIdx (λi x=>(i,x))) (aF:(parts.toList.map (·.2)).length=dy) (hzero:ie P e z=true) (av:Nat.ble (dy * z) 16777216=true) (gW:Nat.ble dy 16777216=true):ch P g (.buildSlice t dy parts) ty (.own z dy cs):=by
 subst aF;exact .rj (.buildSlice aw au J (λy ax=>by
  grind [Nat.eq_of_beq_eq_true]) aa (Nat.le_of_ble_eq_true av) (Nat.le_of_ble_eq_true gW) (.inr (Le hzero)))
theorem Qn {z m:Nat}{cs:List ab}(bg:bB g q=some (.own z m cs)) (aj:cs.length=m * z) (aW:cs.all l2=true):Src g (.a6 z q m) z m cs:=by
 have:=Src.a6 (g:=g) (m:=m) bg (Nat.le_refl _)
 simp_all [List.take_of_length_le,Bs]
theorem GW {en:bK α}{L M r:List α}{e gN m:Nat}{cs:List ab}(aB:Rd g a (.a6 en.z p L.length)) (au:bB g p=some (ak en L)) (J:Rd g b (.a6 en.z q m)) (bg:bB g q=some (.own en.z m cs)) (aj:cs.length=m * en.z) (aW:cs.all l2=true) (hm:M.length=m) (aw:jI P t e en.z gN=true) (av:Nat.ble gN 128=true) (h:c' L M=some r) [e8:qT g] :
  ch P g (.call { callee:=.builtin .append,args:=#[a,b],argTypes:=#[t,t] }) ty (.bL en.z p L.length m cs):=by
 subst hm;obtain ⟨h1,af,_⟩:=y5 h av;exact .lS (.grow aB.br (.inl ⟨_,au⟩) (λt bC cH m' c3 e=>e8.fy _ _ _ _ _ _ e) J.br (Qn bg aj aW) aw h1 af)
theorem D5 {en:bK α}{L M M2 r:List α}{y:ab}{e gN s:Nat}(aB:Rd g a (.a6 en.z ⟨s,[]⟩ (L.length+M.length))) (qo:g s=some (.bL en.z q L.length M.length (bo en M))) (au:bB g q=some (ak en L)) (J:Rd g b y) (hm:n2 g en y M2) (aw:jI P t e en.z gN=true) (av:Nat.ble gN 128=true) (h:c' (L++M) M2=some r) [e8:pc s g] :
  ch P g (.call { callee:=.builtin .append,args:=#[a,b],argTypes:=#[t,t] }) ty (.bL en.z ⟨s,[]⟩ (L.length+M.length) M2.length (bo en M2)):=by
 obtain ⟨h1,af,_⟩:=y5 h av;rw [List.length_append] at h1 af;refine .lS (.grow aB.br (.inr ⟨rfl,q,L.length,M.length,bo en M,_,qo,rfl,au⟩) (λt bC cH m' c3 e=>?_) J.br hm.src aw h1 af);by_cases Wu:t=s
 ·grind [bB,ab.at]
 ·exact e8.fy t Wu _ _ _ _ _ e
theorem O2 {en:bK α}{z0:α}{r:List α}{e gN:Nat}{dI:Value}(aw:fq P t e en.z=true) (J:Rd g a (.lit (.int k m))) (ax:Rd g b (.lit (.int .i64 m))) (hzero:(P.info? e).bind (·.zero)=some dI) (h1:dI.cells.toList.all Value.oneCell'=true) (gX:(en.cells z0).length=dI.cells.size) (Vv:∀ (k:Nat) (u:Value) (x:ab),dI.cells[k]?=some u->(en.cells z0)[k]?=some x->x=lR u\/(lR u=.aL/\∃ bC,x=.bk bC 0 [])) (h:ni m z0=some r) (iN:(P.info? e).map (·.bytes)=some gN) (av:Nat.ble gN 128=true) :
  ch P g (.makeSlice t a b) ty (ak en r):=by
 unfold ni at h
 split at h
 ·rename_i hm;have sN:lim=1099511627776:=rfl;have l3:=Nat.le_of_ble_eq_true av;obtain ⟨j,rfl⟩:=Int.eq_ofNat_of_zero_le hm.1;cases h;have ah:j<=1099511627776:=by omega
  have fX:dI.cells.size=en.z:=by rw [<- gX,en.len]
  have:=p8.makeSlice (P:=P) (ty:=ty) aw J.br ax.br hzero (by rw [<- Array.all_toList]; exact h1) fX iN (by
   calc j * gN<=1099511627776 * 128:=Nat.mul_le_mul ah l3
    _=140737488355328:=by decide) (by omega) gX Vv
  have cy:(List.replicate j (en.cells z0)).flatten=bo en (List.replicate j z0):=by simp [bo,List.flatMap_def]
  unfold ak;rw [Int.toNat_natCast,List.length_replicate,<- cy];exact .rj this
 ·cases h
theorem mk {en:bK α}{z0:α}{r:List α}{e gN:Nat}{dI:Value}(aw:fq P t e en.z=true) (J:Rd g a (.lit (.int k m))) (ax:Rd g b (.lit (.int .i64 m))) (hzero:(P.info? e).bind (·.zero)=some dI) (h1:dI.cells.toList.all Value.oneCell'=true) (aa:dI.cells.toList.map lR=en.cells z0) (h:ni m z0=some r) (iN:(P.info? e).map (·.bytes)=some gN) (av:Nat.ble gN 128=true) :
  ch P g (.makeSlice t a b) ty (ak en r):=by
 grind [O2]
theorem XA {e:bK β}{r:List (List β)}{m:Int}{k:IntKind}{a b:Operand}{t ty:TypeId}{Bm gN:Nat}{dI:Value}(aw:fq P t Bm (bq e).z=true) (J:Rd g a (.lit (.int k m))) (ax:Rd g b (.lit (.int .i64 m))) (hzero:(P.info? Bm).bind (·.zero)=some dI) (h1:dI.cells.toList.all Value.oneCell'=true) (aa:dI.cells.toList.map lR=[.aL]) (h:ni m ([]:List β)=some r) (iN:(P.info? Bm).map (·.bytes)=some gN) (av:Nat.ble gN 128=true) :
  ch P g (.makeSlice t a b) ty (ak (bq e) r):=by
 refine O2 aw J ax hzero h1 ?_ (λk u x hu J=>.inr ?_) h iN av
 ·grind [List.length_map,bq]
 ·have aj:=congrArg List.length aa;rw [List.length_map] at aj;have hk:k=0:=by
   grind
  subst hk;have jR:dI.cells.toList[0]?=some u:=by simpa using hu
  have af:=congrArg (λl=>l[0]?) aa;simp only [List.getElem?_map,jR,Option.map_some] at af;have af:=Option.some.inj af;refine ⟨af,e.z,?_⟩;have J:([ag e []]:List ab)[0]?=some x:=J;have:x=ag e []:=(Option.some.inj J).symm;rw [this];rfl
end O
theorem KA (en:bK α) {L:List α}{y y2:α}{o:Nat}{cs':List ab}(h:idx L m=some y) (he:e5 (en.cells y) o cs'=en.cells y2) (hlen:o+cs'.length<=en.z):e5 (bo en L) (m.toNat * en.z+o) cs'=bo en (L.set m.toNat y2):=by
 obtain ⟨aQ,h1,af⟩:=pM h;have aT:m.toNat<L.length:=(List.getElem?_eq_some_iff.1 af).1;have ax:L[m.toNat]=y:=(List.getElem?_eq_some_iff.1 af).2;have cy:bo en L=bo en (L.take m.toNat)++(en.cells y++bo en (L.drop (m.toNat+1))):=by
  grind [bo,List.take_append_drop,List.drop_eq_getElem_cons]
 have b9:bo en (L.set m.toNat y2)=bo en (L.take m.toNat)++(en.cells y2++bo en (L.drop (m.toNat+1))):=by
  grind [List.set_eq_take_append_cons_drop,bo]
 have aj:(bo en (L.take m.toNat)).length=m.toNat * en.z:=by rw [nn,List.length_take]; congr 1; omega
 rw [cy,b9,<- he];unfold e5;generalize bo en (L.take m.toNat)=A at *;generalize bo en (L.drop (m.toNat+1))=B at *;rw [<- aj];have EZ:=en.len y;rw [List.take_append,List.take_of_length_le (by omega),show A.length+o - A.length=o by omega,List.take_append_of_le_length (by omega)];rw [List.drop_append,List.drop_eq_nil_of_le (by omega),show A.length+o+cs'.length - A.length=o+cs'.length by omega,List.drop_append_of_le_length (by omega)];simp
theorem HB {en:bK α}{L:List α}{i:Int}{off:Nat}{y:α}(h:idx L i=some y) (a1:Nat.blt off en.z=true):i.toNat * en.z+off<(bo en L).length:=by
 obtain ⟨Dh,lT,_⟩:=pM h;have nI:off<en.z:=by simpa using a1
 rw [nn];have af:i.toNat+1<=L.length:=by omega
 calc i.toNat * en.z+off<i.toNat * en.z+en.z:=by omega
  _=(i.toNat+1) * en.z:=by rw [Nat.add_mul]; omega
  _<=L.length * en.z:=Nat.mul_le_mul_right _ af
theorem og {L:List α}{i:Int}{y y2:α}(h:idx L i=some y):idx (L.set i.toNat y2) i=some y2:=by
 grind [idx]
inductive pa (g g2:aK):ab->Prop
 | mk {α:Type}{en:bK α}{L Lu:List α}{r j off:Nat}{i:Int}{y y2:α}(h1:bB g ⟨r,[j]⟩=some (ak en L)) (hi:idx L i=some y) (af:bB g2 ⟨r,[j]⟩=some (ak en Lu)) (BO:idx Lu i=some y2) (a1:Nat.blt off en.z=true):pa g g2 (.ptr ⟨r,[j]⟩ (i.toNat * en.z+off))
theorem pa.Pk {x:ab}(h:pa g g2 x):gE g x:=by
 cases h with
 | mk h1 hi af BO a1=>exact ⟨_,h1,_,_,_,.inl rfl,HB hi a1⟩
theorem pa.Fx {x:ab}(h:pa g g2 x):gE g2 x:=by
 cases h with
 | mk h1 hi af BO a1=>exact ⟨_,af,_,_,_,.inl rfl,HB BO a1⟩
theorem pa.bX {x:ab}(h:pa g g2 x):dh g2 x:=by
 have:=h.Fx;cases h with
 | mk=>exact .ref rfl this
theorem pa.fy {x:ab}(h:pa g g2 x):∀ z p n m new,x≠.bL z p n m new:=by
 cases h with
 | mk=>simp
theorem pa.clear {x:ab}{k0 m0:Nat}(h:pa g g2 x) (au:p.path≠[]):Clear p k0 m0 x:=by
 cases h with
 | mk =>
  intro q bg _ j dm e;simp only [Az,Option.some.injEq] at bg;subst bg;cases EO:p.path with
  | nil=>exact absurd EO au
  | cons a b=>rw [EO] at e; simp at e
inductive kN (g g2:aK) (r:Nat) (x2:ab):List (Nat × ab)->Prop
 | nil:kN g g2 r x2 []
 | n {s:Nat}{x:ab}{l:List (Nat × ab)}(dq:Nat.beq s r=false) (h:g s=some x) [aF:cf x] (t:kN g g2 r x2 l):kN g g2 r x2 ((s,x)::l)
 | p {s q k:Nat}{l:List (Nat × ab)}{cs ku:List ab}(dq:Nat.beq s r=false) (h:g s=some (.ptr ⟨q,[]⟩ k)) (h1:g q=some (.obj cs)) (hk:Nat.blt k cs.length=true) (af:g2 q=some (.obj ku)) (fW:Nat.blt k ku.length=true) (t:kN g g2 r x2 l):kN g g2 r x2 ((s,.ptr ⟨q,[]⟩ k)::l)
 | e {s:Nat}{x:ab}{c2:List ab}{l:List (Nat × ab)}(dq:Nat.beq s r=false) (h:g s=some x) (he:pa g g2 x) (iu:x2=.obj c2) (t:kN g g2 r x2 l):kN g g2 r x2 ((s,x)::l)
 | w {α:Type}{s q:Nat}{en:bK α}{L:List α}{l:List (Nat × ab)}(dq:Nat.beq s r=false) (h:g s=some (.a6 en.z ⟨q,[]⟩ L.length)) (h1:g q=some (ak en L)) (af:g2 q=some (ak en L)) (t:kN g g2 r x2 l):kN g g2 r x2 ((s,.a6 en.z ⟨q,[]⟩ L.length)::l)
 | b {l:List (Nat × ab)}{x:ab}(e:x=x2) [aF:cf x2] (t:kN g g2 r x2 l):kN g g2 r x2 ((r,x)::l)
theorem kN.spec {x2:ab}{l:List (Nat × ab)}(h:kN g g2 r x2 l):∀ t x,get l t=some x->(t≠r/\g t=some x/\(p' g g2 x\/pa g g2 x/\∃ c2,x2=.obj c2))\/(t=r/\x=x2/\cU x):=by
 induction h with
 | nil=>intro t x J; cases J
 | @n s x l dq h aF _ aU =>
  intro t y ax;simp only [get] at ax
  split at ax
  ·rename_i e;subst e;cases ax;exact .inl ⟨Nat.ne_of_beq_eq_false dq,h,.inl (.n aF.bl)⟩
  grind
 | @p s q k l cs ku dq h h1 hk af fW _ aU =>
  intro t y ax;simp only [get] at ax
  split at ax
  ·rename_i e;subst e;cases ax;exact .inl ⟨Nat.ne_of_beq_eq_false dq,h,.inl (.p h1 (by simpa using hk) af (by simpa using fW))⟩
  grind
 | @e s x c2 l dq h he iu _ aU =>
  grind [get,Nat.ne_of_beq_eq_false]
 | @w α s q en L l dq h h1 af _ aU =>
  intro t y ax;simp only [get] at ax
  split at ax
  ·rename_i e;subst e;cases ax;exact .inl ⟨Nat.ne_of_beq_eq_false dq,h,.inl (.r h1 (Nat.le_refl _) af (Nat.le_refl _))⟩
  grind
 | @b l x e aF _ aU =>
  intro t y ax;simp only [get] at ax
  split at ax
  ·rename_i cj;subst cj;cases ax;subst e;exact .inr ⟨rfl,rfl,aF.bl⟩
  grind
theorem p'.Ky {x:ab}{k0 m0:Nat}(h:p' g g2 x):jo (λr=>gE g r/\Clear p k0 m0 r/\gE g2 r) x:=by
 cases h with
 | n h=>exact .bl h
 | p h hk af fW =>
  refine .ref rfl ⟨uE h hk,?_,uE af fW⟩;intro q bg _ j dm e;simp only [Az,Option.some.injEq] at bg;subst bg;simp at e
 | r h hk af fW =>
  refine .ref rfl ⟨Ay h hk,?_,Ay af fW⟩;intro q bg _ j dm e;simp only [Az,Option.some.injEq] at bg;subst bg;simp at e
theorem bm.te {gm:Oper}{en:bK α}{L:List α}{jk y2:α}{o:Nat}{cs':List ab}{x2:ab}{G2:List (Nat × ab)}(a1:gm.op=.store t a b) (aS:gm.dst=none) (aP:Rd g a (.ptr p (m.toNat * en.z+o))) (av:Rd g b y) (au:bB g p=some (ak en L)) (h:idx L m=some jk) (aX:hs P t cs'.length=true)
  (aa:oJ y=some cs') (he:e5 (en.cells jk) o cs'=en.cells y2) (hlen:Nat.ble (o+cs'.length) en.z=true) (aQ:Nat.blt 0 cs'.length=true) (iu:cu g p (ak en (L.set m.toNat y2)) p.root=some x2) (ao:(get G2 p.root).isSome=true) [aF:cf y] {y0:ab}(rf:g p.root=some y0) [e8:cf y0] (c9:kN g (get G2) p.root x2 G2):bm P N g gm (get G2):=by
 have BQ:=Nat.le_of_ble_eq_true hlen;have je:=KA en h he BQ;have N0:(L.set m.toNat y2).length=L.length:=List.length_set;refine .store a1 aS aP.br av.br (.bl (by simpa using aF.bl)) .refl aa aX (p:=p) (nd:=ak en L) (z:=en.z) (n:=L.length) (cs:=bo en L) au (.inl rfl) ?_ (by simpa using aQ) (λt x J=>?_) (λt x J y ax=>?_) (λt z q n m new J=>?_) (by intro e; rw [e] at ao; cases ao)
 ·obtain ⟨Dh,lT,_⟩:=pM h;rw [nn];have af:m.toNat+1<=L.length:=by omega
  calc m.toNat * en.z+o+cs'.length<=m.toNat * en.z+en.z:=by omega
   _=(m.toNat+1) * en.z:=by rw [Nat.add_mul]; omega
   _<=L.length * en.z:=Nat.mul_le_mul_right _ af
 ·have fp:(ak en L).e5 (m.toNat * en.z+o) cs'=ak en (L.set m.toNat y2):=by
   show ab.own en.z L.length (e5 (bo en L) (m.toNat * en.z+o) cs')=_
   grind
  rw [fp];rcases c9.spec t x J with ⟨h1,af,_⟩ | ⟨h1,af,_⟩
  ·grind [uH]
  grind
 ·rcases c9.spec t x J with ⟨h1,af,aI⟩ | ⟨h1,af,aI⟩
  ·rw [af] at ax;cases ax;rcases aI with aI | ⟨aI,c2,rfl⟩
   ·exact aI.Ky
   ·refine jo.ref (by cases aI; rfl) ⟨aI.Pk,aI.clear ?_,aI.Fx⟩
    grind [cu,ab.setAt]
  ·subst h1;rw [rf] at ax;cases ax;exact .bl e8.bl
 ·rcases c9.spec t _ J with ⟨_,_,aI | ⟨aI,_⟩⟩ | ⟨_,_,aI⟩
  ·exact aI.fy _ _ _ _ _ rfl
  ·exact aI.fy _ _ _ _ _ rfl
  ·cases aI
end
end Go.Own
namespace Go.Own
open Go
theorem R9 (a b:ByteArray):(a == b)=decide (a=b):=by
 obtain ⟨a⟩:=a;obtain ⟨b⟩:=b;have:(({ data:=a }:ByteArray) == { data:=b })=(a == b):=rfl;rw [this,Bool.eq_iff_iff];simp
inductive n1 where
 | b | s | i (k:IntKind)
 deriving DecidableEq
def mb:Value->Option n1
 | .bool _=>some .b
 | .string _=>some .s
 | .int k _=>some (.i k)
 | _=>none
def Bk (P:Program) (rc:TypeId->List n1->Bool):List Field->Nat->List n1->Bool
 | [],_,eP=>eP.isEmpty
 | f :: fs, o, eP => f.name != "_" && f.offset == o && (match P.info? f.type with
   | some i=>i.size<=eP.length&&rc f.type (eP.take i.size)&&Bk P rc fs (o+i.size) (eP.drop i.size)
   | none=>false)
def tK (P:Program):Nat->TypeId->List n1->Bool
 | 0,_,_=>false
 | d+1,t,eP=>match P.underlying t with
  | some .bool=>eP == [.b]&&jt P t
  | some (.int k)=>eP == [.i k]&&jt P t
  | some .string=>eP == [.s]&&jt P t
  | some (.struct fs)=>iz P t eP.length&&!P.stoodInHeld t&&Bk P (tK P d) fs.toList 0 eP
  | _=>false
def MI:Value->Value->Bool
 | .bool a,.bool b=>a == b
 | .int _ a,.int _ b=>decide (a=b)
 | .string a,.string b=>decide (a=b)
 | _,_=>false
def lL:List Value->List Value->Bool
 | a::az,b::df=>MI a b&&lL az df
 | _,_=>true
theorem MJ:∀ (az df cs jL:List Value),az.length=df.length->lL (az++cs) (df++jL)=(lL az df&&lL cs jL)
 | [],[],cs,jL,_=>by simp [lL]
 | [],_::_,_,_,h=>by simp at h
 | _::_,[],_,_,h=>by simp at h
 | a::az,b::df,cs,jL,h=>by
  simp only [List.cons_append,lL,MJ az df cs jL (by simpa using h),Bool.and_assoc]
def pack (P:Program) (t:TypeId) (vs:List Value):Value :=
 match P.underlying t,vs with
 | some (.struct _),_=>.agg vs.toArray
 | _,v::_=>v
 | _,[]=>.agg #[]
theorem PX {P:Program}{w:World}{t:TypeId}{d:Nat}{eP:List n1}(h:tK P (d+1) t eP=true) {cs:List Value}{o:Nat}{vs:List Value}(hv:(cs.drop o).take eP.length=vs) (aj:vs.length=eP.length) :
  (part t cs.toArray o).run P w=.ok (pack P t vs) w:=by
 unfold tK at h
 split at h
 case h_4 fs hu =>
  simp only [Bool.and_eq_true] at h;obtain ⟨h1,af⟩:=D4 (w:=w) h.1.1;simp [part,h1,af,pack,hu,<- hv,List.take_drop]
 case h_5=>cases h
 all_goals
  rename_i hu;simp only [Bool.and_eq_true,beq_iff_eq] at h;obtain ⟨rfl,aa⟩:=h;obtain ⟨h1,af⟩:=Hn (w:=w) aa;obtain ⟨v,rfl⟩:∃ v,vs=[v]:=by
   rcases vs with _ | ⟨v,_ | _⟩ <;> simp at aj;exact ⟨v,rfl⟩
  have:cs[o]?=some v:=by
   have:=congrArg List.head? hv;simpa [List.head?_take] using this
  simp [part,h1,pack,hu,this]
theorem KE {P:Program}(w:World):∀ (d:Nat) (t:TypeId) (eP:List n1),tK P d t eP=true->∀ (D:Nat),d<=D->∀ (az df:List Value),az.map mb=eP.map some->df.map mb=eP.map some ->
  (Op.equalIn D t (pack P t az) (pack P t df)).run P w=.ok (lL az df) w
 | 0,_,_,h,_,_,_,_,_,_=>by simp [tK] at h
 | d+1,t,eP,h,D,hq,az,df,aP,av=>by
  obtain ⟨D,rfl⟩:∃ E,D=E+1:=⟨D - 1,by omega⟩;have aQ:=h;unfold tK at h
  split at h
  case h_5=>cases h
  case h_4 fs hu =>
   simp only [Bool.and_eq_true,Bool.not_eq_true'] at h;obtain ⟨⟨h1,af⟩,aI⟩:=h;have key:∀ (fs:List Field) (o:Nat) (eP:List n1) (nw nx:List Value),Bk P (tK P d) fs o eP=true->az.drop o=nw->df.drop o=nx->nw.map mb=eP.map some->nx.map mb=eP.map some ->
     (forIn (m:=Sem) (β:=Option Bool × Unit) fs (none,()) λf _ =>
      if f.name = "_" then pure (.yield (none, ()))
      else do
       let x <- part f.type az.toArray f.offset
       let y <- part f.type df.toArray f.offset
       let c <- Op.equalIn D f.type x y
       if c=false then pure (.done (some false,())) else pure (.yield (none,()))).run P w=.ok (if lL nw nx then (none,()) else (some false,())) w:=by
    intro fs
    induction fs with
    | nil =>
     intro o eP nw nx aO _ _ aP av;have aB:eP=[]:=by simpa [Bk] using aO
     subst aB;have h1:nw=[]:=by simpa using aP
     have af:nx=[]:=by simpa using av
     subst h1 af;simp [lL]
    | cons f fs aU =>
     intro o eP nw nx aO NH NI aP av;unfold Bk at aO;cases hi:P.info? f.type with
     | none=>simp [hi] at aO
     | some i =>
      simp only [hi,Bool.and_eq_true,bne_iff_ne,beq_iff_eq,decide_eq_true_eq] at aO;obtain ⟨⟨aF,rfl⟩,⟨hle,he⟩,VI⟩:=aO;obtain ⟨e,rfl⟩:∃ e,d=e+1:=by
       cases d with
       | zero=>simp [tK] at he
       | succ e=>exact ⟨e,rfl⟩
      have xM:nw.length=eP.length:=by simpa using congrArg List.length aP
      have adg:nx.length=eP.length:=by simpa using congrArg List.length av
      have Zt:(nw.take i.size).map mb=(eP.take i.size).map some:=by rw [List.map_take,List.map_take,aP]
      have Zu:(nx.take i.size).map mb=(eP.take i.size).map some:=by rw [List.map_take,List.map_take,av]
      have Tm:(nw.drop i.size).map mb=(eP.drop i.size).map some:=by rw [List.map_drop,List.map_drop,aP]
      have Tn:(nx.drop i.size).map mb=(eP.drop i.size).map some:=by rw [List.map_drop,List.map_drop,av]
      have lt:(eP.take i.size).length=i.size:=by simp; omega
      have lS:=PX (w:=w) he (cs:=az) (o:=f.offset) (vs:=nw.take i.size) (by rw [NH,lt]) (by simp; omega);have Py:=PX (w:=w) he (cs:=df) (o:=f.offset) (vs:=nx.take i.size) (by rw [NI,lt]) (by simp; omega);have Hz:=KE w (e+1) f.type _ he D (by omega) _ _ Zt Zu;have aU:=aU (f.offset+i.size) (eP.drop i.size) (nw.drop i.size) (nx.drop i.size) VI (by rw [<- NH,List.drop_drop]) (by rw [<- NI,List.drop_drop]) Tm Tn;have sp:lL nw nx=(lL (nw.take i.size) (nx.take i.size)&&lL (nw.drop i.size) (nx.drop i.size)):=by
       have:=MJ (nw.take i.size) (nx.take i.size) (nw.drop i.size) (nx.drop i.size) (by simp; omega)
       rwa [List.take_append_drop,List.take_append_drop] at this
      rw [List.forIn_cons];cases aa:lL (nw.take i.size) (nx.take i.size) with
      | false=>simp [aF,lS,Py,Hz,aa,sp]
      | true =>
       simp only [aa] at Hz;simp [aF,lS,Py,Hz,aa,sp];simpa using aU
   have hk:=key fs.toList 0 eP az df aI rfl rfl aP av;unfold Op.equalIn;simp [pack,hu,run_underlying hu,af];rw [<- Array.forIn_toList,hk];cases lL az df <;> simp
  all_goals
   rename_i hu;simp only [Bool.and_eq_true,beq_iff_eq] at h;obtain ⟨rfl,aa⟩:=h;obtain ⟨a,rfl⟩:∃ v,az=[v]:=by
    rcases az with _ | ⟨v,_ | _⟩ <;> simp at aP;exact ⟨v,rfl⟩
   obtain ⟨b,rfl⟩:∃ v,df=[v]:=by
    rcases df with _ | ⟨v,_ | _⟩ <;> simp at av;exact ⟨v,rfl⟩
   cases a <;> simp [mb] at aP <;> cases b <;> simp [mb] at av;simp [Op.equalIn,pack,hu,run_underlying hu,lL,MI,aP,av,R9] <;> rfl
end Go.Own
namespace Go.Own
open Go
def tJ (P:Program) (t:TypeId) (eP:List n1):Bool :=
 tK P 100 t eP&&(match P.underlying t with | some (.struct _)=>true | _=>false)&&!P.eqGuardType P.depth t
section
variable {P:Program}{g:aK}{t t2:TypeId}{ty:TypeId}{a b:Operand}
theorem YJ {az df:List Value}{eP:List n1}(aP:az.map mb=eP.map some) (av:df.map mb=eP.map some) (aw:tJ P t eP=true) (w:World) :
  (do eqGuard .eql t a b (.agg az.toArray) (.agg df.toArray); binOp .eql t (.agg az.toArray) (.agg df.toArray):Sem Value).run P w=.ok (.bool (lL az df)) w:=by
 simp only [tJ,Bool.and_eq_true,Bool.not_eq_true'] at aw;obtain ⟨⟨h1,af⟩,aI⟩:=aw;have h:=KE w 100 t eP h1 Op.maxDepth (by decide) az df aP av
 split at af
 ·rename_i fs hu;simp only [pack,hu] at h;simp [eqGuard,binOp,aI,Op.equal,h]
 ·cases af
theorem YL {az df:List Value}{eP:List n1}(aP:az.map mb=eP.map some) (av:df.map mb=eP.map some) (aw:tJ P t eP=true) (w:World) :
  (do eqGuard .neq t a b (.agg az.toArray) (.agg df.toArray); binOp .neq t (.agg az.toArray) (.agg df.toArray):Sem Value).run P w=.ok (.bool (!lL az df)) w:=by
 simp only [tJ,Bool.and_eq_true,Bool.not_eq_true'] at aw;obtain ⟨⟨h1,af⟩,aI⟩:=aw;have h:=KE w 100 t eP h1 Op.maxDepth (by decide) az df aP av
 split at af
 ·rename_i fs hu;simp only [pack,hu] at h;simp [eqGuard,binOp,aI,Op.equal,h]
 ·cases af
namespace O
theorem Bl {va vb:List Value}{eP:List n1}(J:Rd g a (.agg (va.map .lit))) (ax:Rd g b (.agg (vb.map .lit))) (aP:va.map mb=eP.map some) (av:vb.map mb=eP.map some) (aw:tJ P t eP=true) :
  ch P g (.binOp .eql t a b t2) ty (a_ (lL va vb)):=.eW (.A_ J.br ax.br rfl λw=>YJ aP av aw w)
theorem XF {va vb:List Value}{eP:List n1}(J:Rd g a (.agg (va.map .lit))) (ax:Rd g b (.agg (vb.map .lit))) (aP:va.map mb=eP.map some) (av:vb.map mb=eP.map some) (aw:tJ P t eP=true) :
  ch P g (.binOp .neq t a b t2) ty (a_ (!lL va vb)):=.eW (.A_ J.br ax.br rfl λw=>YL aP av aw w)
end O
end
end Go.Own
namespace Go.Own
open Go
section
variable {P:Program}{N:c5}{g g2:aK}{d r k0:Nat}{α:Type}
theorem View.nS {p:Place}{cs cs':List ab}(au:bB g p=some (.obj cs)) (hk:Nat.blt 0 cs.length=true) [h:dr cs cs']:View g (.ptr p 0) (.cJ cs') :=
 .ptr au (z:=0) (n:=0) (.inr rfl) (by simpa using hk) (by simpa using h.l) λk x y J ax=>h.v g k x y (by simpa using J) ax
theorem dh.el {en:bK α}{L:List α}{j off:Nat}{i:Int}{y:α}(af:bB g2 ⟨r,[j]⟩=some (ak en L)) (hi:idx L i=some y) (a1:Nat.blt off en.z=true):dh g2 (.ptr ⟨r,[j]⟩ (i.toNat * en.z+off)) :=
 (pa.mk (g:=g2) af hi af hi a1).bX
theorem jA {p:Place}{k:Nat}:∀ z q n m new,ab.ptr p k≠.bL z q n m new:=by simp
inductive yE (g:aK) (d r k0:Nat) (G4:List (Nat × ab)):List (Nat × ab)->Prop
 | nil:yE g d r k0 G4 []
 | c {α:Type}{en:bK α}{L:List α}{s off:Nat}{i:Int}{y:α}{l:List (Nat × ab)}(h:g s=some (.ptr ⟨r,[k0]⟩ (i.toNat * en.z+off))) (au:bB (get G4) ⟨r,[k0]⟩=some (ak en L)) (hi:idx L i=some y) (a1:Nat.blt off en.z=true) (aS:Nat.beq s d=false) (bF:get G4 s=none) (t:yE g d r k0 G4 l):yE g d r k0 G4 ((s,.ptr ⟨r,[k0]⟩ (i.toNat * en.z+off))::l)
theorem yE.spec {G4 l:List (Nat × ab)}(h:yE g d r k0 G4 l):∀ t x,get l t=some x->get G4 t=none/\t≠d/\g t=some x/\∃ m z n cs,x=.ptr ⟨r,[k0]⟩ m/\bB (get G4) ⟨r,[k0]⟩=some (.own z n cs)/\m<cs.length:=by
 induction h with
 | nil=>intro t x J; cases J
 | @c α en L s off i y l h au hi a1 aS bF _ aU =>
  intro t x J;simp only [get] at J
  split at J
  ·rename_i e;subst e;cases J;exact ⟨bF,Nat.ne_of_beq_eq_false aS,h,_,_,_,_,rfl,au,HB hi a1⟩
  grind
theorem kN.keep {g':aK}{x2:ab}{G2:List (Nat × ab)}(c9:kN g (get G2) r x2 G2) (h1:∀ t,t≠r->g' t=g t) (af:g' r=some x2):hF g' (get G2):=by
 refine ⟨λt x J=>?_,λt x J=>?_,λt z q n m new J=>?_⟩
 ·rcases c9.spec t x J with ⟨a,b,_⟩ | ⟨rfl,rfl,_⟩
  ·grind
  grind
 ·rcases c9.spec t x J with ⟨_,_,aI | ⟨aI,_⟩⟩ | ⟨_,_,aI⟩
  ·exact aI.bX
  ·exact aI.bX
  ·exact .bl aI
 ·rcases c9.spec t _ J with ⟨_,_,aI | ⟨aI,_⟩⟩ | ⟨_,_,aI⟩
  ·exact aI.fy _ _ _ _ _ rfl
  ·exact aI.fy _ _ _ _ _ rfl
  ·cases aI
theorem P7 {cs:List ab}{y x:ab}(h:g r=some (.obj cs)) (hk:cs[k0]?=some x):cu g ⟨r,[k0]⟩ y r=some (.obj (cs.set k0 y)):=by
 grind [cu,ab.setAt,ab.kids,ab.wg]
theorem bm.eR {o:Oper}{y:ab}{cs cs5:List ab}{G1 G4:Value->List (Nat × ab)}{c4:Value->List ab}{G5 A:List (Nat × ab)}(aS:o.dst=some d) (bc:N.ok d=true) (ao:g r=some (.obj cs)) (ax:cs[k0]?=some y) [xw:cf y]
  (h1:∀ v,kN g (get (G1 v)) r (.obj (cs.set k0 (.lit v))) (G1 v)) (aa:∀ v,hM P N (get (G1 v)) o d (get (G4 v))) (acb:∀ v,get (G4 v) r=some (.obj (c4 v))) (aca:∀ v,(c4 v)[k0]?=some (.lit v)) (acd:∀ v,(c4 v).set k0 y=cs5)
  (cG:∀ v,kN (get (G4 v)) (get G5) r (.obj cs5) G5) (Ud:bB (get G5) ⟨r,[k0]⟩=some y) (er:yE g d r k0 G5 A):bm P N g o (get (A++G5)):=by
 refine .call aS bc (hM.TS ao ax xw.bl λv hv=>⟨get (G1 v),get (G4 v),get G5,?_,aa v,?_,?_,Ud,?_⟩)
 ·exact (h1 v).keep (λt aw=>uH aw) (P7 ao ax)
 ·grind [bB,ab.at,ab.kids]
 ·refine (cG v).keep (λt aw=>uH aw) ?_
  grind [P7]
 ·refine ⟨λt x h=>?_,λt x h=>?_⟩
  ·rw [Ep];cases rW:get A t with
   | none=>exact h
   | some z =>
    obtain ⟨lT,_⟩:=er.spec t z rW
    grind
  ·rw [Ep] at h;cases rW:get A t with
   | none=>rw [rW] at h; exact .inl h
   | some z =>
    rw [rW] at h;cases h;exact .inr (er.spec t x rW)
end
end Go.Own
namespace Go.Own
open Go
section
variable {P:Program}{N:c5}{ops:Array Oper}{g g1 mS:aK}{K:aK->Prop}{l:List Oper}{d r:Nat}{t:TypeId}{a b:Operand}{x y:ab}
variable {bd:List (List Nat)}{acc:Acc}{i:Nat}
theorem hZ {a b:Nat}(h:Nat.blt a b=true):a<b:=by simpa using h
def Fk:Option Nat->Nat->Bool
 | none,_=>true
 | some a,d=>!Nat.beq a d
theorem O6 {o:Option Nat}{d:Nat}(h:Fk o d=true):o≠some d:=by
 rintro rfl;simp [Fk] at h
inductive wC (P:Program) (N:c5) (ops:Array Oper) (bd:List (List Nat)) (rs:Place->Prop) (mS g1:aK) (o:Oper) (U:Acc):Acc->Prop
 | nil:wC P N ops bd rs mS g1 o U []
 | c {k d:Nat}{x:ab}{gm:Oper}{V:Acc}(b1:A7 rs mS g1 o x) (h1:g1 d=none) (dq:Fk o.dst d=true) (a1:ops[k]?=some gm) (EL:gm.dst=some d) (bc:N.ok d=true) (hw:iy (dg g1 (λm=>(bd.getD k []).contains m) U) ops gm true)
   (aB:ch P (dg g1 (λm=>(bd.getD k []).contains m) U) gm.op gm.type x) (t:wC P N ops bd rs mS g1 o U V):wC P N ops bd rs mS g1 o U ((k,d,some x)::V)
theorem wC.spec {o:Oper}{U V:Acc}{rs:Place->Prop}(h:wC P N ops bd rs mS g1 o U V):∀ e∈V,(∃ x,e.2.2=some x/\A7 rs mS g1 o x)/\(g1 e.2.1=none/\o.dst≠some e.2.1)/\∃ gm,ops[e.1]?=some gm/\gm.dst=some e.2.1/\N.ok e.2.1=true/\qa P (dg g1 (λm=>(bd.getD e.1 []).contains m) U) ops gm e.2.2:=by
 induction h with
 | nil=>intro e he; cases he
 | c b1 h1 dq a1 EL bc hw aB _ aU =>
  intro e he;rcases List.mem_cons.1 he with rfl | he
  ·exact ⟨⟨_,rfl,b1⟩,⟨h1,O6 dq⟩,_,a1,EL,bc,.inl ⟨hw,.inl aB⟩⟩
  ·exact aU e he
theorem bz.ek (bG:Nat) {G G2:List (Nat × ab)}{U:Acc}{o:Oper}{rs:List Nat}(he:o' P N (sm rs) (dg (get G) (λm=>(bd.getD bG []).contains m) acc) o (get G2)) (l7:rs.all (λr=>(get G r).isSome)=true) (aO:o.guard=none) (gR:ri ((acc.filterMap j2).map Place.root)=true) (fI:l' G=true) (ah:Nat.beq ops.size (bG+l.length+1)=true)
  (ga:acc.filter (λe=>!(bd.getD bG []).contains e.1)=U) (oc:wC P N ops bd (sm rs) (dg (get G) (λm=>(bd.getD bG []).contains m) acc) (get G2) o U U)
  (av:(List.range ops.size).all (λk=>Nat.ble k bG||(bd.getD k []).contains bG)=true) (hk:bz P N ops bd (get G2) (bG+1) U l K):bz P N ops bd (get G) i acc (o::l) K:=by
 intro dW j cn kW lj;have:=zh lj ah;subst this;obtain ⟨h1,af⟩:=drop_cons lj;have nH:∀ e∈U,e∈acc:=λe he=>by rw [<- ga] at he; exact (List.mem_filter.1 he).1
 have BA:mM P N ops bd (get G2) (j+1) U:=⟨λe he=>by have:=(kW.le cn).2 e (nH e he); omega,λe he=>(oc.spec e he).2.1.1,by rw [<- ga]; exact (List.filter_sublist.map _).nodup (kW.nodup cn),λe he cj h_ h=>kW.uniq cn (nH e he) (nH cj h_) h,λe he=>(oc.spec e he).2.2⟩;obtain ⟨g',ao,di⟩:=hk U (j+1) BA .nil af;refine ⟨g',.wL kW (Fj gR) (vK fI) h1 ?_ he (λr ao e=>by have:=List.all_eq_true.1 l7 r.root ao; rw [e] at this; cases this) ga.symm (λe h=>(oc.spec e h).1) (λe h=>(oc.spec e h).2.1) (λe h=>(oc.spec e h).2.2) ?_ ao,di⟩
 ·unfold iy; rw [aO]
 ·refine List.all_eq_true.2 λk hk=>?_;have:=List.all_eq_true.1 av k hk;simp only [Bool.or_eq_true,decide_eq_true_eq,Nat.ble_eq] at this ⊢;exact this
theorem bz.Md (bG:Nat) {G G2:List (Nat × ab)}{U:Acc}{o:Oper}{ps:List Place}(he:o' P N (λp=>p∈ps) (dg (get G) (λm=>(bd.getD bG []).contains m) acc) o (get G2)) (l7:ps.all (λr=>(get G r.root).isSome)=true) (aO:o.guard=none) (gR:ri ((acc.filterMap j2).map Place.root)=true) (fI:l' G=true) (ah:Nat.beq ops.size (bG+l.length+1)=true)
  (ga:acc.filter (λe=>!(bd.getD bG []).contains e.1)=U) (oc:wC P N ops bd (λp=>p∈ps) (dg (get G) (λm=>(bd.getD bG []).contains m) acc) (get G2) o U U)
  (av:(List.range ops.size).all (λk=>Nat.ble k bG||(bd.getD k []).contains bG)=true) (hk:bz P N ops bd (get G2) (bG+1) U l K):bz P N ops bd (get G) i acc (o::l) K:=by
 intro dW j cn kW lj;have:=zh lj ah;subst this;obtain ⟨h1,af⟩:=drop_cons lj;have nH:∀ e∈U,e∈acc:=λe he=>by rw [<- ga] at he; exact (List.mem_filter.1 he).1
 have BA:mM P N ops bd (get G2) (j+1) U:=⟨λe he=>by have:=(kW.le cn).2 e (nH e he); omega,λe he=>(oc.spec e he).2.1.1,by rw [<- ga]; exact (List.filter_sublist.map _).nodup (kW.nodup cn),λe he cj h_ h=>kW.uniq cn (nH e he) (nH cj h_) h,λe he=>(oc.spec e he).2.2⟩;obtain ⟨g',ao,di⟩:=hk U (j+1) BA .nil af;refine ⟨g',.wL kW (Fj gR) (vK fI) h1 ?_ he (λr ao e=>by have:=List.all_eq_true.1 l7 r ao; rw [e] at this; cases this) ga.symm (λe h=>(oc.spec e h).1) (λe h=>(oc.spec e h).2.1) (λe h=>(oc.spec e h).2.2) ?_ ao,di⟩
 ·unfold iy; rw [aO]
 ·refine List.all_eq_true.2 λk hk=>?_;have:=List.all_eq_true.1 av k hk;simp only [Bool.or_eq_true,decide_eq_true_eq,Nat.ble_eq] at this ⊢;exact this
theorem o'.box {o:Oper}{r:Nat}{x:ab}{G1 G2:List (Nat × ab)}(he:bm P N (get G1) o (get G2)) (ao:g r=some x) [J:cf x] (hk:Trim false g (get G1) G1) (aQ:get G1 r=none) (h1:get G2 r=none) (aS:Fk o.dst r=true):o' P N (sm [r]) g o (get ((r,x)::G2)):=by
 rw [<- sD];exact he.kb.frame ao J.bl hk.keep aQ h1 (O6 aS)
theorem bm.jh {o:Oper}{k0:Nat}{cs cs' cs2:List ab}{G2:List (Nat × ab)}(a1:o.op=.store t a b) (aS:o.dst=none) (aB:g r=some (.obj cs)) (aP:Rd g a (.ptr ⟨r,[]⟩ k0)) (av:Rd g b y) [aF:cf y] (aa:oJ y=some cs') (aX:hs P t cs'.length=true)
  (hk:Nat.ble (k0+cs'.length) cs.length=true) (aQ:Nat.blt 0 cs'.length=true) (he:e5 cs k0 cs'=cs2) [e8:dp cs] (ao:(get G2 r).isSome=true) (c9:la g (get G2) r cs2 G2):bm P N g o (get G2) :=
 .box a1 aS aB aP av aF.bl aa aX (Nat.le_of_ble_eq_true hk) (by simpa using aQ) he (by intro e; rw [e] at ao; cases ao) c9
end
end Go.Own
namespace Go.Own
open Go
section
variable {α:Type}
theorem dr.app {xs ys xs' DG:List ab}(h:dr xs ys) (aR:dr xs' DG):dr (xs++xs') (ys++DG):=⟨by simp [h.l,aR.l],λg k a b aP av=>by
 by_cases hk:k<xs.length
 ·rw [List.getElem?_append_left hk] at aP;rw [List.getElem?_append_left (by rw [h.l]; exact hk)] at av;exact h.v g k a b aP av
 ·rw [List.getElem?_append_right (by omega)] at aP;rw [List.getElem?_append_right (by rw [h.l]; omega),h.l] at av;exact aR.v g _ a b aP av⟩
instance {e cj:bK α}{L:List α} [h:gV e cj]:dr (bo e L) (bo cj L):=⟨(Dy e cj L).1,(Dy e cj L).2⟩
theorem ja.Kz {en:bK α}{L:List α}{n:Nat}{cs cs':List ab}(h:bo en L=cs') (aj:L.length=n) [hv:dr cs cs']:ja (.own en.z n cs) (ag en L):=⟨λg=>by
 subst h aj;exact .own hv.l (hv.v g)⟩
theorem ja.h0 {en tI:bK α}{L M:List α}{m:Nat}{new c3:List ab} [h:gV en tI] (aF:bo tI M=c3) (hm:M.length=m) [aR:dr new c3]:ja (.own en.z (L.length+m) (bo en L++new)) (ag tI (L++M)):=⟨λg=>by
 subst aF hm;have hv:=dr.app (inferInstance:dr (bo en L) (bo tI L)) aR;show View g (.own en.z (L.length+M.length) (bo en L++new)) (.bk tI.z (L++M).length (bo tI (L++M)));have e:bo tI (L++M)=bo tI L++bo tI M:=by simp [bo]
 rw [e,List.length_append,<- h.z];exact .own hv.l (hv.v g)⟩
end
end Go.Own
namespace Go.Own
open Go
section
variable {α:Type}{g g2:aK}{p q:Place}{P:Program}{a b:Operand}{t:TypeId}{ty:TypeId}
theorem dh.a6 {en:bK α}{L:List α}(h:bB g2 p=some (ak en L)):dh g2 (.a6 en.z p L.length):=.ref rfl (.inl ⟨_,_,h,Nat.le_refl _⟩)
theorem iT {z n:Nat}:∀ bC q cH m new,ab.a6 z p n≠.bL bC q cH m new:=by simp
namespace O
theorem RP {en:bK α}{L M r:List α}{e gN m:Nat}{cs:List ab}(aB:Rd g a (.a6 en.z p L.length)) (au:bB g p=some (ak en L)) (J:Rd g b (.a6 en.z q m)) (bg:bB g q=some (.own en.z m cs)) (aj:cs.length=m * en.z) (aW:cs.all l2=true) (hm:M.length=m) (aw:jI P t e en.z gN=true) (av:Nat.ble gN 128=true) (h:c' L M=some r)
  (e8:∀ t z n m new,g t≠some (.bL z p n m new)):ch P g (.call { callee:=.builtin .append,args:=#[a,b],argTypes:=#[t,t] }) ty (.bL en.z p L.length m cs):=by
 subst hm;obtain ⟨h1,af,_⟩:=y5 h av;exact .lS (.grow aB.br (.inl ⟨_,au⟩) (λt bC cH m' c3 e=>e8 _ _ _ _ _ e) J.br (Qn bg aj aW) aw h1 af)
end O
end
end Go.Own
