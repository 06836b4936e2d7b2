/- Parts of the proof that the last text states. -/
import Derived.KernelRfl
import Derived.Test.YtejfkabkakfblaaGreatDoorE4
namespace Go.Proofs
open Go Go.Own Go.Sort
set_option maxRecDepth 100000
set_option linter.unusedVariables false
def wk (g:bs) (out:List Item) (x:Item):Prop:=1000<=hM g x->∀ (p:Nat) (q:Prod),g.bd[p]?=some q->q.Left=hM g x - 1000->(⟨p,0⟩:Item)∈out
theorem GW (g:bs) (aN:gi g) (l:List Item) (ai:l.length<=1000000):Tot (xQ g l) λr=>eT gJ r/\∀ x,x∈r↔nQ g l x:=by
 have w_:=aN.hV;unfold xQ;refine .aq (so g aN l ai) λaX h1=>.aq (Ξ:=λr=>eT gJ r/\∀ x,x∈r↔nQ g l x) ?_ λr ah=>.ag ah;obtain ⟨wW,IE⟩:=h1;refine Tot.loop (λs=>eT gJ s.1/\(∀ x∈s.1,nQ g l x)/\(∀ x∈l,i' g x->x∈s.1)/\(s.2=(s.1.length:Int)->∀ x∈s.1,wk g s.1 x)) (λs=>2 * (1000 - s.1.length)+(if s.2=(s.1.length:Int) then 0 else 1)) ⟨wW,λx j=>.base ((IE x).1 j).1 ((IE x).1 j).2,λx j hi=>(IE x).2 ⟨j,hi⟩,λh=>by have h:(-1:Int)=_:=h; omega⟩ (by
  show 2 * (1000 - aX.length)+(if (-1:Int)=_ then 0 else 1)<1000000000000000000
  split <;> omega) λs az=>?_
 obtain ⟨out,n⟩:=s;obtain ⟨aR,gA,pw,hJ⟩:=az;simp only at aR gA pw hJ ⊢;have w8:=tB aN aR λx j=>(gA x j).i';refine Tot.kE (λcz=>?_) (λhe=>.ag ⟨aR,λx=>⟨gA x,λj=>?_⟩⟩)
 ·refine .aq (Ξ:=λJ:List Item × Int=>J.2=(out.length:Int)/\eT gJ J.1/\(∀ x∈J.1,nQ g l x)/\(∀ x∈out,x∈J.1)/\(J.1.length=out.length->∀ x∈J.1,wk g J.1 x)) ?_ λJ aj=>?_
  ·refine .aq (Ξ:=λr:List Item=>eT gJ r/\(∀ x∈r,nQ g l x)/\(∀ x∈out,x∈r)/\(r.length=out.length->∀ x∈r,wk g r x)) ?_ λr ah=>.ag ⟨rfl,ah⟩;refine .aq (Ξ:=λr:List Item=>eT gJ r/\(∀ x∈r,nQ g l x)/\(∀ x∈out,x∈r)/\(r.length=out.length->∀ x∈r,wk g r x)) ?_ λr ah=>.ag ah;refine Tot.count (λs=>s.2) out.length (λs=>∃ k:Nat,k<=out.length/\s.2=(k:Int)/\s.1=out/\∀ (J:Nat) (h:J<out.length),J<k->wk g out out[J]) ⟨0,Nat.zero_le _,rfl,rfl,λJ _ aj=>absurd aj (Nat.not_lt_zero _)⟩ (by show (out.length:Int) - 0<_; omega) λs az=>?_;obtain ⟨cur,kL⟩:=s;obtain ⟨k,hk,rfl,rfl,Nn⟩:=az;simp only;rw [FP k (by omega)];refine Tot.ba (λaQ=>?_) (λdw=>.ag ⟨aR,gA,λ_ h=>h,λ_ x j=>?_⟩)
   ·have aQ:k<cur.length:=by omega
    rw [dT aQ];have vA:=gA _ (List.getElem_mem aQ);have Jd:∀ P:Item->Prop,P cur[k]->∀ (J:Nat) (h:J<cur.length),J=k->P cur[J]:=λP cg J h e=>by subst e; exact cg
    generalize j:cur[k]=x at *;have ac6:=XW aN x;have hw:aH (hM g x - 1000)=hM g x - 1000:=by rw [ch]; omega
    simp only [Option.bind_some,Hg g x,hw];refine (.aq (Ξ:=λr:List Item=>eT gJ r/\(∀ x∈r,nQ g l x)/\(∀ x∈cur,x∈r)/\wk g r x) ?_ λr ah=>?_)
    ·refine Tot.count (λs=>s.2) g.bd.length (λs=>∃ i:Nat,i<=g.bd.length/\s.2=(i:Int)/\eT gJ s.1/\(∀ x∈s.1,nQ g l x)/\(∀ x∈cur,x∈s.1)/\∀ (p:Nat) (q:Prod),p<i->g.bd[p]?=some q->q.Left=hM g x - 1000->(⟨p,0⟩:Item)∈s.1) ⟨0,Nat.zero_le _,rfl,aR,gA,λ_ h=>h,λp q au=>absurd au (Nat.not_lt_zero _)⟩ (by show (g.bd.length:Int) - 0<_; omega) λs az=>?_;obtain ⟨o,lY⟩:=s;obtain ⟨i,hi,rfl,rT,BG,Ew,vn⟩:=az;simp only at rT BG Ew vn ⊢;rw [FP i (by omega)];refine .aq (Ξ:=λc:Bool=>(c=true->i<g.bd.length/\1000<=hM g x)/\(c=false->g.bd.length<=i\/hM g x<1000)) (Tot.ba (λh=>.ag ⟨λaJ=>⟨by omega,of_decide_eq_true aJ⟩,λaJ=>.inr (by have:=of_decide_eq_false aJ; omega)⟩) (λh=>.ag ⟨λaJ=>(by cases aJ),λ_=>.inl (by omega)⟩)) λc aa=>Tot.bl (λh=>?_) (λh=>.ag ⟨rT,BG,Ew,λaO p q au=>?_⟩)
     ·obtain ⟨IC,aO⟩:=aa.1 h;have NJ:g.bd[i]?=some g.bd[i]:=List.getElem?_eq_getElem IC;rw [dT IC];refine .aq (Ξ:=λo:List Item=>eT gJ o/\(∀ x∈o,nQ g l x)/\(∀ x∈cur,x∈o)/\∀ (p:Nat) (q:Prod),p<i+1->g.bd[p]?=some q->q.Left=hM g x - 1000->(⟨p,0⟩:Item)∈o) ?_ λo aV=>.ag ⟨⟨i+1,by omega,rfl,aV⟩,by show (i:Int)<((i+1:Nat):Int); omega,by show ((i+1:Nat):Int)<=_; omega⟩;refine Tot.sm (.aq (Ξ:=λo:List Item=>eT gJ o/\(∀ x∈o,nQ g l x)/\(∀ x∈cur,x∈o)/\∀ (p:Nat) (q:Prod),p<i+1->g.bd[p]?=some q->q.Left=hM g x - 1000->(⟨p,0⟩:Item)∈o) (Tot.ba (λh=>?_) (λh=>.ag ⟨rT,BG,Ew,λp q au BJ a7=>?_⟩)) λo aV=>.ag aV)
      ·have IA:=tB aN rT λx j=>(BG x j).i';refine .aq (GL o ⟨(i:Nat),0⟩ rT (by omega)) λr ah=>.ag ⟨ah.1,λy al=>?_,λy al=>(ah.2 y).2 (.inl (Ew y al)),λp q au BJ a7=>?_⟩
       ·rcases (ah.2 y).1 al with al | rfl
        ·exact BG y al
        ·exact .step vA NJ (by omega) aO
       ·by_cases cw:p=i
        ·subst cw; exact (ah.2 _).2 (.inr rfl)
        ·exact (ah.2 _).2 (.inl (vn p q (by omega) BJ a7))
      ·by_cases cw:p=i
       ·subst cw;rw [NJ] at BJ; cases BJ;exact absurd a7 h
       ·exact vn p q (by omega) BJ a7
     ·rcases aa.2 h with h1 | h1
      ·exact vn p q (by have:=(List.getElem?_eq_some_iff.1 au).1; omega) au
      ·omega
    ·obtain ⟨EA,Wm,lW,Wp⟩:=ah;have hle:cur.length<=r.length:=uy (aR.nd vN) lW;refine Tot.kE (λIH=>.ag ⟨EA,Wm,lW,λe=>absurd (by omega) IH⟩) (λheq=>?_);have n5:r.length=cur.length:=by omega
     have Wr:r=cur:=by
      have nt:∀ y,y∈cur↔y∈r:=by
       intro y;refine ⟨lW y,λal=>Classical.byContradiction λaA=>?_⟩;have:=uy (l:=y::cur) (m:=r) (List.nodup_cons.2 ⟨aA,aR.nd vN⟩) λz aW=>by
        rcases List.mem_cons.1 aW with rfl | aW
        ·exact al
        ·exact lW z aW
       simp at this;omega
      exact (eT.uniq vN aR EA nt).symm
     subst Wr;refine .ag ⟨⟨k+1,by omega,rfl,rfl,λJ aj fI=>?_⟩,by show (k:Int)<((k+1:Nat):Int); omega,by show ((k+1:Nat):Int)<=_; omega⟩;by_cases cw:J=k
     ·exact Jd (wk g r) Wp J aj cw
     ·exact Nn J aj (by omega)
   ·obtain ⟨J,aj,rfl⟩:=List.mem_iff_getElem.1 j;exact Nn J aj (by omega)
  ·obtain ⟨h1,af,aK,bu,cu⟩:=aj;have hle:out.length<=J.1.length:=uy (aR.nd vN) bu;have eY:=tB aN af λx j=>(aK x j).i';refine .ag ⟨⟨af,aK,λx j hi=>bu x (pw x j hi),λe=>cu (by show J.1.length=_; have e:J.2=(J.1.length:Int):=e; omega)⟩,?_⟩;show 2 * (1000 - J.1.length)+(if J.2=(J.1.length:Int) then 0 else 1)<2 * (1000 - out.length)+(if n=(out.length:Int) then 0 else 1)
   rw [if_neg cz];split
   ·omega
   ·have:J.1.length≠out.length:=λe=>by omega
    omega
 ·have aa:=hJ he
  induction j with
  | base h hi=>exact pw _ h hi
  | @step x q p h au aA aO aM=>exact aa x aM aO p q au (by omega)
def DC (g:bs) (l:List Item) (a:Int) (y:Item):Prop:=∃ x,nQ g l x/\hM g x=a/\0<=a/\y=⟨x.Prod,x.e2+1⟩
theorem Ob {g:bs}(aN:gi g) {x:Item}(h:0<=hM g x):i' g ⟨x.Prod,x.e2+1⟩:=by
 obtain ⟨_,_,q,a7,az⟩:=OO aN h;obtain ⟨aO,h1,_⟩:=n_ az;exact ⟨q,a7,by show 0<=x.e2+1; omega,by show x.e2+1<=_; omega⟩
theorem Xu {g:bs}(aN:gi g) {x:Item}(h:i' g x):0<=x.e2/\x.e2<=8:=by
 obtain ⟨q,a7,aO,h1⟩:=h;have:=aN.aE q (n_ a7).2.2;omega
theorem DC.i' {g:bs}(aN:gi g) {l:List Item}{a:Int}{y:Item}(h:DC g l a y):i' g y:=by
 obtain ⟨x,_,h1,af,rfl⟩:=h;exact Ob aN (by omega)
theorem SN (g:bs) (aN:gi g) (l:List Item) (a:Int) (ai:l.length<=1000000):Tot (CS g l a) λr=>eT gJ r/\∀ y,y∈r↔DC g l a y:=by
 unfold CS;refine .aq (GW g aN l ai) λc aa=>.aq (Ξ:=λr=>eT gJ r/\∀ y,y∈r↔DC g l a y) ?_ λr ah=>.ag ah;have hJ:=tB aN aa.1 λx j=>((aa.2 x).1 j).i';refine Tot.count (λs=>s.2) c.length (λs=>∃ k:Nat,k<=c.length/\s.2=(k:Int)/\eT gJ s.1/\∀ y,y∈s.1↔∃ x∈c.take k,hM g x=a/\0<=a/\y=⟨x.Prod,x.e2+1⟩) ⟨0,Nat.zero_le _,rfl,List.Pairwise.nil,λy=>by simp⟩ (by show (c.length:Int) - 0<_; omega) λs az=>?_;obtain ⟨o,kL⟩:=s;obtain ⟨k,hk,rfl,rT,BH⟩:=az;simp only at rT BH ⊢;rw [FP k (by omega)];refine Tot.ba (λaQ=>?_) (λdw=>.ag ⟨rT,λy=>?_⟩)
 ·have aQ:k<c.length:=by omega
  have W':=((aa.2 _).1 (List.getElem_mem aQ)).i';have e4:c.take (k+1)=c.take k++[c[k]]:=jc aQ;rw [dT aQ];generalize c[k]=x at *;have aP:=Xu aN W';have hw:aH (x.e2+1)=x.e2+1:=by rw [ch]; omega
  refine .aq (Ξ:=λo:List Item=>eT gJ o/\∀ y,y∈o↔∃ x∈c.take (k+1),hM g x=a/\0<=a/\y=⟨x.Prod,x.e2+1⟩) ?_ λo aV=>.ag ⟨⟨k+1,by omega,rfl,aV⟩,by show (k:Int)<((k+1:Nat):Int); omega,by show ((k+1:Nat):Int)<=_; omega⟩;have nt:∀ y,(∃ z∈c.take (k+1),hM g z=a/\0<=a/\y=(⟨z.Prod,z.e2+1⟩:Item))↔(y∈o\/(hM g x=a/\0<=a/\y=⟨x.Prod,x.e2+1⟩)):=by
   intro y;rw [BH y,e4];constructor
   ·rintro ⟨z,aW,h⟩;rcases List.mem_append.1 aW with aW | aW
    ·exact .inl ⟨z,aW,h⟩
    ·rw [List.mem_singleton.1 aW] at h; exact .inr h
   ·rintro (⟨z,aW,h⟩ | h)
    ·exact ⟨z,by simp [aW],h⟩
    ·exact ⟨x,by simp,h⟩
  simp only [Option.bind_some,Hg g x,hw];refine (.aq (Ξ:=λb:Bool=>b=decide (0<=hM g x/\hM g x=a)) (Tot.ba (λh=>.ag (by simp [h])) (λh=>.ag (by simp [h]))) λb av=>?_);subst av;refine .aq (Ξ:=λo:List Item=>eT gJ o/\∀ y,y∈o↔∃ x∈c.take (k+1),hM g x=a/\0<=a/\y=⟨x.Prod,x.e2+1⟩) (Tot.ba (λh=>?_) (λh=>.ag ⟨rT,λy=>?_⟩)) λo aV=>.ag aV
  ·have w8:=tB aN rT λy al=>by
    obtain ⟨z,_,h1,af,rfl⟩:=(BH y).1 al;exact Ob aN (by omega)
   refine (.aq (GL o _ rT (by omega)) λr ah=>.ag ⟨ah.1,λy=>?_⟩);rw [ah.2 y,nt y];constructor
   ·rintro (h1 | h1)
    ·exact .inl h1
    ·exact .inr ⟨h.2,by omega,h1⟩
   ·rintro (h1 | h1)
    ·exact .inl h1
    ·exact .inr h1.2.2
  ·rw [nt y];exact ⟨.inl,λaJ=>aJ.elim id λaJ=>absurd ⟨by omega,aJ.1⟩ h⟩
 ·have:k=c.length:=by omega
  subst this;rw [List.take_length] at BH;rw [BH y];constructor
  ·rintro ⟨x,j,h⟩;exact ⟨x,(aa.2 x).1 j,h⟩
  ·rintro ⟨x,j,h⟩;exact ⟨x,(aa.2 x).2 j,h⟩
def hU (a b:Int):Bool:=decide (a<b)
theorem JN {a b:Int}:hU a b=true↔a<b:=by simp [hU]
theorem JO {a b:Int}:hU a b=false↔¬ a<b:=by simp [hU]
theorem Fe:Ord hU where
 swo:=⟨λx=>by rw [JO]; omega,λx y z h1 af=>by rw [JN] at *; omega,λx y z h1 af=>by rw [JO] at *; omega⟩
 iO:=λx y h1 af=>by rw [JO] at *; omega
theorem GA {l:List Int}(ai:eT hU l) {i J:Nat}(hi:i<l.length) (aj:J<l.length) (h:i<J):hU l[i] l[J]=true:=List.pairwise_iff_getElem.1 ai i J hi aj h
theorem AW (l:List Int) (x:Int) (ai:eT hU l) (aA:l.length<=100000):Tot (pH l x) λr=>eT hU r/\r.length<=l.length+1/\(∀ y,y∈r↔y∈l\/y=x):=by
 unfold pH;refine .aq (Ξ:=λz:Int=>∃ k:Nat,z=(k:Int)/\k<=l.length/\(∀ (i:Nat) (h:i<l.length),k<=i->hU x l[i]=true)/\∀ (h:0<k),hU x (l[k - 1]?.getD default)=false) ?_ λz aW=>?_
 ·refine Tot.count (λs=>-s) 1 (λs=>∃ k:Nat,s=(k:Int)/\k<=l.length/\∀ (i:Nat) (h:i<l.length),k<=i->hU x l[i]=true) ⟨l.length,rfl,Nat.le_refl _,λi h hk=>by omega⟩ (by show 1 - -(l.length:Int)<_; omega) λs az=>?_;obtain ⟨k,rfl,hk,uk⟩:=az;refine .aq (Ξ:=λc:Bool=>(c=true->0<k/\hU x (l[k - 1]?.getD default)=true)/\(c=false->∀ (h:0<k),hU x (l[k - 1]?.getD default)=false)) ?_ λc aa=>Tot.bl (λh=>?_) (λh=>.ag ⟨k,rfl,hk,uk,aa.2 h⟩)
  ·refine Tot.ba (λh=>?_) (λh=>.ag ⟨λaJ=>(by cases aJ),λ_ aJ=>by omega⟩);have gn:k - 1<l.length:=by omega
   have hw:aH ((k:Int) - 1)=((k - 1:Nat):Int):=by rw [ch]; omega
   rw [hw,dT gn,List.getElem?_eq_getElem gn];simp only [Option.bind_some,Option.getD_some];exact .ag ⟨λaJ=>⟨by omega,aJ⟩,λaJ _=>aJ⟩
  ·obtain ⟨aO,h1⟩:=aa.1 h;refine .ag ⟨⟨k - 1,by rw [ch]; omega,by omega,λi hi VZ=>?_⟩,by show -(k:Int) < -aH _; rw [ch]; omega,by show -aH _<=1; rw [ch]; omega⟩
   grind
 ·obtain ⟨k,rfl,hk,uk,lF⟩:=aW;refine .aq (Ξ:=λc:Bool=>(c=true↔(0<k/\l[k - 1]?.getD default=x))) ?_ λc aa=>Tot.bl (λh=>?_) (λh=>?_)
  ·refine Tot.ba (λh=>?_) (λh=>.ag ⟨λaJ=>(by cases aJ),λaJ=>by omega⟩);have gn:k - 1<l.length:=by omega
   have hw:aH ((k:Int) - 1)=((k - 1:Nat):Int):=by rw [ch]; omega
   rw [hw,dT gn,List.getElem?_eq_getElem gn];simp only [Option.bind_some,Option.getD_some];generalize l[k - 1]=y;refine .ag ?_
   grind
  ·obtain ⟨aO,h1⟩:=aa.1 h;have gn:k - 1<l.length:=by omega
   rw [List.getElem?_eq_getElem gn] at h1;have j:x∈l:=by rw [<- h1]; exact List.getElem_mem gn
   exact .ag ⟨ai,by omega,λy=>⟨.inl,λh=>h.elim id λe=>e ▸ j⟩⟩
  ·have cz:∀ (i:Nat) (hi:i<l.length),i<k->hU l[i] x=true:=by
    intro i hi Eo;have gn:k - 1<l.length:=by omega
    have lF:=lF (by omega);have aA:l[k - 1]?.getD default≠x:=λe=>by rw [aa.2 ⟨by omega,e⟩] at h; cases h
    rw [List.getElem?_eq_getElem gn] at lF aA;simp only [Option.getD_some] at lF aA;have fS:hU l[k - 1] x=true:=by
     grind [hU]
    by_cases e:i=k - 1
    ·grind
    ·exact Fe.swo.trans _ _ _ (GA ai hi gn (by omega)) fS
   refine .aq (Ξ:=λz=>z=l.take k) (Tot.sub ⟨by omega,by omega,by omega⟩ (by simp)) λz aW=>?_;subst aW;refine .aq (Ξ:=λ_=>True) (Tot.ap (by simp [lim]; omega) trivial) λ_ _=>.aq (Ξ:=λ_=>True) (Tot.ap (by simp [lim]; omega) trivial) λ_ _=>?_;refine .aq (Ξ:=λz=>z=l.drop k) (Tot.sub ⟨by omega,by omega,by omega⟩ ?_) λz aW=>?_
   ·grind [List.take_of_length_le]
   subst aW;refine .aq (Ξ:=λ_=>True) (Tot.ap (by simp [lim]; omega) trivial) λ_ _=>.ag ?_;rw [List.nil_append];refine ⟨?_,?_,?_⟩
   ·have h1:∀ a∈l.take k,hU a x=true:=by
     grind [List.mem_iff_getElem]
    have af:∀ a∈l.drop k,hU x a=true:=by
     grind [List.mem_iff_getElem]
    unfold eT;rw [List.append_assoc,List.pairwise_append];refine ⟨List.Pairwise.sublist (List.take_sublist k l) ai,?_,λa aR b av=>?_⟩
    ·rw [List.singleton_append,List.pairwise_cons];exact ⟨af,List.Pairwise.sublist (List.drop_sublist k l) ai⟩
    ·rcases List.mem_append.1 av with av | av
     ·grind
     ·exact Fe.swo.trans _ _ _ (h1 a aR) (af b av)
   ·grind
   grind [List.take_append_drop]
theorem TF (x y:Item):(decide (x.Prod=y.Prod)&&(decide (x.e2=y.e2)&&true))=decide (x=y):=by
 obtain ⟨aX,x2⟩:=x;obtain ⟨bI,y2⟩:=y;simp
theorem Sr (a b:List Item) (h:a.length<=1000000):Tot (Cx a b) λc=>(c=true↔a=b):=by
 unfold Cx;refine Tot.kE (λcz=>.ag ⟨λh=>(by cases h),λe=>absurd (by rw [e]) cz⟩) (λhe=>?_);have ai:a.length=b.length:=by omega
 refine Tot.aq (Ξ:=gN (λ_=>a=b) (λx:Bool=>x=false/\a≠b)) ?_ λx j=>?_
 ·refine Tot.count (λs=>s) a.length (λs=>∃ k:Nat,k<=a.length/\s=(k:Int)/\∀ (J:Nat) (h:J<a.length),J<k->a[J]=b[J]) ⟨0,Nat.zero_le _,rfl,λJ _ aj=>absurd aj (Nat.not_lt_zero _)⟩ (by show (a.length:Int) - 0<_; omega) λs az=>?_;obtain ⟨k,hk,rfl,k5⟩:=az;rw [ew k (by omega)];refine Tot.ba (λaQ=>?_) (λdw=>.ag ?_)
  ·have aQ:k<a.length:=by omega
   have zk:k<b.length:=by omega
   rw [dT aQ,dT zk];simp only [Option.bind_some,TF];refine Tot.kE (λcz=>.ag ⟨rfl,λe=>cz (by subst e; rfl)⟩) (λheq=>.ag ⟨⟨k+1,by omega,rfl,λJ aj fI=>?_⟩,by show (k:Int)<((k+1:Nat):Int); omega,by show ((k+1:Nat):Int)<=_; omega⟩);by_cases e:J=k
   ·subst e; exact heq
   ·exact k5 J aj (by omega)
  ·exact List.ext_getElem ai λi h1 af=>k5 i h1 (by omega)
 ·rcases x with _ | x
  ·exact .ag ⟨λ_=>j,λ_=>rfl⟩
  ·obtain ⟨rfl,cz⟩:x=false/\a≠b:=j;exact .ag ⟨λh=>(by cases h),λh=>absurd h cz⟩
def syms (g:bs):List Int:=(List.range g.aZ.length).map (λk:Nat=>(k:Int))++(List.range g.bX.length).map (λk:Nat=>1000+(k:Int))
theorem L6 (g:bs) (aV:gi g):Tot (CR g) λl=>l=syms g:=by
 have dt:=aV.jZ;have a_:=aV.dk;unfold CR;refine .aq (Ξ:=λl:List Int=>l=(List.range g.aZ.length).map (λk:Nat=>(k:Int))) ?_ λl ai=>?_
 ·refine Tot.upto (λs=>s.2) g.aZ.length (λk s=>s.1=(List.range k).map (λk:Nat=>(k:Int))) rfl (by omega) rfl λk s hk he bb=>?_;obtain ⟨l,i⟩:=s;simp only at he bb ⊢;subst he bb;rw [ew k (by omega)];refine Tot.ba (λaQ=>?_) (λdw=>.ag ?_)
  ·refine .aq (Ξ:=λ_=>True) (Tot.ap (by simp [lim]; omega) trivial) λ_ _=>.ag ⟨by omega,rfl,?_⟩;show _=(List.range (k+1)).map _;rw [List.range_succ,List.map_append]; rfl
  ·have:k=g.aZ.length:=by omega
   subst this; rfl
 ·subst ai;refine .aq (Ξ:=λl:List Int=>l=syms g) ?_ λr ah=>.ag ah;refine Tot.upto (λs=>s.2) g.bX.length (λk s=>s.1=(List.range g.aZ.length).map (λk:Nat=>(k:Int))++(List.range k).map (λk:Nat=>1000+(k:Int))) rfl (by omega) (by simp) λk s hk he bb=>?_;obtain ⟨l,i⟩:=s;simp only at he bb ⊢;subst he bb;rw [ew k (by omega)];refine Tot.ba (λaQ=>?_) (λdw=>.ag ?_)
  ·refine .aq (Ξ:=λ_=>True) (Tot.ap (by simp [lim]; omega) trivial) λ_ _=>.ag ⟨by omega,rfl,?_⟩;have hw:aH (1000+(k:Int))=1000+(k:Int):=by rw [ch]; omega
   show _=_++(List.range (k+1)).map _;rw [hw,List.range_succ,List.map_append,List.append_assoc]; rfl
  ·have:k=g.bX.length:=by omega
   subst this; rfl
theorem Zs (g:bs):(syms g).length=g.aZ.length+g.bX.length:=by simp [syms]
theorem XK {g:bs}{s:Int}:s∈syms g↔(0<=s/\s<g.aZ.length)\/(1000<=s/\s<1000+g.bX.length):=by
 unfold syms;rw [List.mem_append,List.mem_map,List.mem_map];constructor
 ·rintro (⟨k,hk,rfl⟩ | ⟨k,hk,rfl⟩)
  ·rw [List.mem_range] at hk; exact .inl (by omega)
  ·rw [List.mem_range] at hk; exact .inr (by omega)
 ·rintro (h | h)
  ·exact .inl ⟨s.toNat,by rw [List.mem_range]; omega,by omega⟩
  ·exact .inr ⟨(s - 1000).toNat,by rw [List.mem_range]; omega,by omega⟩
theorem Zt {g:bs}(aV:gi g):(syms g).Nodup:=by
 have ar:=aV.jZ;unfold syms;rw [List.nodup_append];refine ⟨List.pairwise_map.2 ((List.nodup_range (n:=g.aZ.length)).imp λ{a b} h e=>h (by omega)),List.pairwise_map.2 ((List.nodup_range (n:=g.bX.length)).imp λ{a b} h e=>h (by omega)),λa aR b av=>?_⟩;obtain ⟨i,hi,rfl⟩:=List.mem_map.1 aR;obtain ⟨J,aj,rfl⟩:=List.mem_map.1 av;rw [List.mem_range] at hi;omega
structure yv (g:bs) (K:List Item):Prop where
 a:eT gJ K
 i:∀ x∈K,i' g x
theorem yv.len {g:bs}(aV:gi g) {K:List Item}(h:yv g K):K.length<=540:=tB aV h.a h.i
theorem L5 (l:List Int) (x:Int) (h:l.length<=1000000):Tot (uG l x) λc=>(c=true↔x∈l):=by
 unfold uG;refine .aq (Ξ:=gN (λ_=>x∉l) (λr:Bool=>r=true/\x∈l)) ?_ λr ah=>?_
 ·refine Tot.upto (λs=>s) l.length (λk s=>x∉l.take k) rfl (by omega) (by simp) λk s hk he bb=>?_;subst he;rw [ew k (by omega)];refine Tot.ba (λaQ=>?_) (λdw=>.ag ?_)
  ·have aQ:k<l.length:=by omega
   rw [dT aQ];simp only [Option.bind_some];refine Tot.ba (λe=>.ag ⟨rfl,by rw [<- e]; exact List.getElem_mem aQ⟩) (λe=>.ag ⟨aQ,rfl,?_⟩);rw [jc aQ,List.mem_append,List.mem_singleton];exact λh=>h.elim bb λh=>e h.symm
  ·rw [List.take_of_length_le (by omega)] at bb;exact bb
 ·rcases r with r | r
  ·exact .ag ⟨λh=>(by cases h),λh=>absurd h ah⟩
  ·obtain ⟨rfl,h⟩:=ah;exact .ag ⟨λ_=>h,λ_=>rfl⟩
theorem SO (m:List State) (k:List Item) (aO:m.length<=1000) (h1:∀ st∈m,st.Kernel.length<=1000000):Tot (CT m k) λr=>-1<=r/\r<m.length:=by
 unfold CT;refine .aq (Ξ:=gN (λ_=>True) (λr:Int=>0<=r/\r<m.length)) ?_ λx j=>?_
 ·refine Tot.upto (λs=>s) m.length (λ_ _=>True) rfl (by omega) trivial λJ s aj he _=>?_;subst he;rw [ew J (by omega)];refine Tot.ba (λaQ=>?_) (λdw=>.ag trivial);have aQ:J<m.length:=by omega
  rw [dT aQ];refine Tot.sm (.aq (Sr _ k (h1 _ (List.getElem_mem aQ))) λc aa=>Tot.bl (λh=>.ag ⟨by omega,by omega⟩) (λh=>.ag ⟨aQ,rfl,trivial⟩))
 ·rcases x with x | x
  ·exact .ag ⟨by omega,by omega⟩
  ·have j:0<=x/\x<m.length:=j;exact .ag ⟨by omega,by omega⟩
structure yz (g:bs) (n:Nat) (v:Move):Prop where
 s:v.Sym∈syms g
 t0:0<=v.jA
 t1:v.jA<n
structure mb (g:bs) (m:List State) (q J:Nat):Prop where
 gU:0<m.length
 mY:m.length<=150
 ql:∀ st∈m,yv g st.Kernel
 ms:∀ (i:Nat) (st:State),m[i]?=some st->(st.eF.map (·.Sym)).Sublist (if i<q then syms g else if i=q then (syms g).take J else [])
 a6:∀ st∈m,∀ v∈st.eF,yz g m.length v
structure mH (g:bs) (m:List State):Prop where
 gU:0<m.length
 mY:m.length<=150
 ql:∀ st∈m,yv g st.Kernel
 xt:∀ st∈m,st.eF.length<=64
 nd:∀ st∈m,(st.eF.map (·.Sym)).Nodup
 a6:∀ st∈m,∀ v∈st.eF,yz g m.length v
theorem yz.up {g:bs}{n cm:Nat}{v:Move}(h:yz g n v) (aA:n<=cm):yz g cm v:=⟨h.s,h.t0,by have:=h.t1; omega⟩
theorem mb.put {g:bs}{m:List State}{q J:Nat}(h:mb g m q J) {st:State}(a7:m[q]?=some st) {v:Move}(hv:yz g m.length v) (aj:(syms g)[J]?=some v.Sym):mb g (m.set q ⟨st.Kernel,st.eF++[v]⟩) q (J+1):=by
 have mU:=(List.getElem?_eq_some_iff.1 a7).1;have hm:=List.mem_of_getElem? a7;refine ⟨by rw [List.length_set]; exact h.gU,by rw [List.length_set]; exact h.mY,λs az=>?_,λi s az=>?_,λs az w hw=>?_⟩
 ·rcases List.mem_or_eq_of_mem_set az with aJ | aJ
  ·exact h.ql s aJ
  ·rw [aJ]; exact h.ql st hm
 ·rw [s' mU] at az;by_cases e:i=q
  ·subst e;rw [if_pos rfl] at az; cases az;have:=h.ms i st a7;rw [if_neg (by omega),if_pos rfl] at this ⊢;rw [List.map_append,List.take_add_one,aj];exact this.append (List.Sublist.refl _)
  ·rw [if_neg e] at az;have:=h.ms i s az;rw [if_neg e] at this ⊢;exact this
 ·rw [List.length_set];rcases List.mem_or_eq_of_mem_set az with aJ | aJ
  ·exact h.a6 s aJ w hw
  ·rw [aJ] at hw;rcases List.mem_append.1 hw with hw | hw
   ·exact h.a6 st hm w hw
   ·rw [List.mem_singleton.1 hw]; exact hv
theorem mb.more {g:bs}{m:List State}{q J:Nat}(h:mb g m q J) (ai:m.length<150) {K:List Item}(hk:yv g K):mb g (m++[⟨K,[]⟩]) q J:=by
 refine ⟨by simp,by simp; omega,λs az=>?_,λi s az=>?_,λs az w hw=>?_⟩
 ·rcases List.mem_append.1 az with az | az
  ·exact h.ql s az
  ·rw [List.mem_singleton.1 az]; exact hk
 ·by_cases e:i<m.length
  ·rw [List.getElem?_append_left e] at az; exact h.ms i s az
  ·rw [List.getElem?_append_right (by omega)] at az;have:s=⟨K,[]⟩:=by
    have:=List.mem_of_getElem? az;simpa using this
   rw [this]; exact List.nil_sublist _
 ·rcases List.mem_append.1 az with az | az
  ·exact (h.a6 s az w hw).up (by simp)
  ·rw [List.mem_singleton.1 az] at hw; cases hw
theorem mb.mono {g:bs}{m:List State}{q J vF:Nat}(h:mb g m q J) (aj:J<=vF):mb g m q vF:=by
 refine ⟨h.gU,h.mY,h.ql,λi s az=>?_,h.a6⟩;have:=h.ms i s az;split
 ·rename_i e; rw [if_pos e] at this; exact this
 ·rename_i e; rw [if_neg e] at this;split
  ·rename_i b_; rw [if_pos b_] at this;exact this.trans (List.take_sublist_take_left aj)
  ·rename_i b_; rw [if_neg b_] at this; exact this
theorem mb.next {g:bs}{m:List State}{q J:Nat}(h:mb g m q J):mb g m (q+1) 0:=by
 refine ⟨h.gU,h.mY,h.ql,λi s az=>?_,h.a6⟩;have:=h.ms i s az;by_cases e:i<q+1
 ·rw [if_pos e]
  split at this
  ·exact this
  ·split at this
   ·exact this.trans (List.take_sublist _ _)
   ·exact this.trans (List.nil_sublist _)
 ·rw [if_neg (by omega),if_neg (by omega)] at this;rw [if_neg e];exact this.trans (List.nil_sublist _)
theorem SI (g:bs) (aV:gi g):Tot (zV g) λr=>(r.2=0/\mH g r.1)\/r.2=4:=by
 have dt:=aV.jZ;have a_:=aV.dk;have cg:=aV.hV;unfold zV;refine Tot.aq (L6 g aV) λaX h1=>?_;subst h1;have ix:=Zs g;refine Tot.aq (Ξ:=gN (λm=>mb g m m.length 0) (λr:List State × Int=>r.2=4)) ?_ λx j=>?_
 ·refine Tot.loop (λs=>∃ q:Nat,s.2=(q:Int)/\q<=s.1.length/\mb g s.1 q 0) (λs=>151 - s.2.toNat) ⟨0,rfl,Nat.zero_le _,⟨by simp,by simp,λs az=>?_,λi s az=>?_,λs az v hv=>?_⟩⟩ (by show 151 - 0<1000000000000000000; omega) λs bR=>?_
  ·rw [List.mem_singleton.1 az];refine ⟨List.pairwise_singleton ..,λx j=>?_⟩;rw [List.mem_singleton.1 j];obtain ⟨q,a7⟩:∃ q,g.bd[0]?=some q:=⟨g.bd[0]'(by omega),List.getElem?_eq_getElem _⟩;exact Oc (p:=0) a7
  ·have:=List.mem_of_getElem? az;rw [List.mem_singleton.1 this]; exact List.nil_sublist _
  ·rw [List.mem_singleton.1 az] at hv; cases hv
  obtain ⟨q,he,a7,Bd⟩:=bR;obtain ⟨m,i⟩:=s;simp only at he a7 Bd ⊢;subst he;have vl:=Bd.mY;rw [ew q (by omega)];refine Tot.ba (λaQ=>?_) (λdw=>.ag ?_)
  ·have aQ:q<m.length:=by omega
   rw [dT aQ];have c7:=Bd.ql _ (List.getElem_mem aQ);refine Tot.sm (Tot.aq (GW g aV _ (by have:=c7.len aV; omega)) λc aa=>?_);have hJ:=tB aV aa.1 λx j=>((aa.2 x).1 j).i';refine Tot.aq (Ξ:=λl:List Int=>l.length<=1000) ?_ λRB acE=>?_
   ·refine Tot.upto (λs=>s.2) c.length (λk s=>eT hU s.1/\s.1.length<=k) rfl (by omega) ⟨.nil,Nat.le_refl 0⟩ λk s hk he bb=>?_;obtain ⟨l,i⟩:=s;obtain ⟨g1,g2⟩:=bb;simp only at he g1 g2 ⊢;subst he;rw [ew k (by omega)];refine Tot.ba (λaQ=>?_) (λdw=>.ag (show l.length<=1000 by omega));have aQ:k<c.length:=by omega
    rw [dT aQ];refine .aq (Ξ:=λl:List Int=>eT hU l/\l.length<=k+1) ?_ λo aV=>.ag ⟨aQ,rfl,aV⟩;refine Tot.sm ?_;rw [Hg g _];refine Tot.sm (.aq (Ξ:=λl:List Int=>eT hU l/\l.length<=k+1) ?_ λo aV=>.ag aV);refine Tot.ba (λau=>.aq (AW l _ g1 (by omega)) λr ah=>.ag ⟨ah.1,by have:=ah.2.1; omega⟩) (λau=>.ag ⟨g1,by omega⟩)
   ·refine Tot.aq (Ξ:=gN (λm=>mb g m q (syms g).length/\q<m.length) (λr:List State × Int=>r.2=4)) ?_ λx j=>?_
    ·refine Tot.upto (λs=>s.2) (syms g).length (λk s=>mb g s.1 q k/\q<s.1.length) rfl (by omega) ⟨Bd,aQ⟩ λk s hk he bb=>?_;obtain ⟨m,i⟩:=s;obtain ⟨tS,mU⟩:=bb;simp only at he tS mU ⊢;subst he;rw [ew k (by omega)];have BB:=tS.mY;refine Tot.ba (λaQ=>?_) (λdw=>.ag ?_)
     ·have aQ:k<(syms g).length:=by omega
      have qc:=List.getElem_mem aQ;have px:(syms g)[k]?=some (syms g)[k]:=List.getElem?_eq_getElem aQ;rw [dT aQ];generalize (syms g)[k]=s at *;refine Tot.sm (Tot.aq (L5 RB s (by omega)) λc9 _=>?_);refine Tot.bl (λ_=>.ag ⟨aQ,rfl,tS.mono (by omega),mU⟩) (λ_=>?_);have n2:m[q]?=some m[q]:=List.getElem?_eq_getElem mU;have c7:=tS.ql _ (List.getElem_mem mU);rw [dT mU];generalize m[q]=st at *;refine Tot.sm (Tot.sm (Tot.aq (SN g aV st.Kernel s (by have:=c7.len aV; omega)) λDx Eh=>?_));have jN:yv g Dx:=⟨Eh.1,λy al=>((Eh.2 y).1 al).i' aV⟩;refine Tot.aq (SO m Dx (by omega) λt ar=>by have:=(tS.ql t ar).len aV; omega) λz aW=>?_;have Wx:=(tS.ms q st n2).length_le;rw [if_neg (by omega),if_pos rfl,List.length_map,List.length_take] at Wx;refine Tot.ba (λac8=>Tot.ba (λ_=>.ag rfl) (λac9=>?_)) (λsE=>?_)
      ·refine .aq (Ξ:=λ_=>True) (Tot.ap (by simp [lim]; omega) trivial) λ_ _=>?_;have UG:=tS.more (by omega) jN;have Nr:(m++[(⟨Dx,[]⟩:State)])[q]?=some st:=by rw [List.getElem?_append_left mU]; exact n2
       have Bv:idx (m++[(⟨Dx,[]⟩:State)]) (q:Int)=some st:=by simp only [idx,if_pos (show (0:Int)<=(q:Int) by omega),Int.toNat_natCast]; exact Nr
       rw [Bv];refine Tot.sm (Tot.sm ?_);refine .aq (Ξ:=λ_=>True) (Tot.ap (by simp [lim]; omega) trivial) λ_ _=>.ag ⟨aQ,rfl,?_⟩;refine ⟨?_,by show q<(List.set _ _ _).length; rw [List.length_set]; simp; omega⟩;show mb g (List.set _ (q:Int).toNat _) q (k+1);rw [Int.toNat_natCast];exact UG.put Nr ⟨qc,by show (0:Int)<=(m.length:Int); omega,by show (m.length:Int)<_; simp; omega⟩ px
      ·refine Tot.sm (Tot.sm ?_);refine .aq (Ξ:=λ_=>True) (Tot.ap (by simp [lim]; omega) trivial) λ_ _=>.ag ⟨aQ,rfl,?_⟩;refine ⟨?_,by show q<(List.set _ _ _).length; rw [List.length_set]; exact mU⟩;show mb g (List.set _ (q:Int).toNat _) q (k+1);rw [Int.toNat_natCast];exact tS.put n2 ⟨qc,by show 0<=z; omega,aW.2⟩ px
     ·have:k=(syms g).length:=by omega
      subst this;exact ⟨tS,mU⟩
    ·rcases x with x | x
     ·obtain ⟨h1,af⟩:=j;refine .ag ⟨⟨q+1,rfl,af,h1.next⟩,?_⟩;show 151 - ((q+1:Nat):Int).toNat<151 - (q:Int).toNat;omega
     ·exact .ag j
  ·have:q=m.length:=by omega
   subst this;exact Bd
 ·rcases x with x | x
  ·have j:mb g x x.length 0:=j;have key:∀ st∈x,(st.eF.map (·.Sym)).Sublist (syms g):=λst bR=>by
    obtain ⟨i,hi⟩:=List.getElem?_of_mem bR;have:=j.ms i st hi;rw [if_pos (List.getElem?_eq_some_iff.1 hi).1] at this;exact this
   refine .ag (.inl ⟨rfl,j.gU,j.mY,j.ql,λst bR=>?_,λst bR=>(key st bR).nodup (Zt aV),j.a6⟩);have:=(key st bR).length_le;rw [List.length_map] at this; omega
  ·exact .ag (.inr j)
theorem Xi {α:Type}{m:List α}{q:Nat}{x:α}(h:m[q]?=some x):idx m (q:Int)=some x:=by simp [idx,h]
def GoTo (m:List State) (a s r:Int):Prop:=(r=-1/\∀ st,idx m a=some st->∀ v∈st.eF,v.Sym≠s)\/∃ st v,idx m a=some st/\v∈st.eF/\v.Sym=s/\r=v.jA
theorem DR (m:List State) (a s:Int) (hm:∀ st∈m,st.eF.length<=64):Tot (q7 m a s) (GoTo m a s):=by
 unfold q7;by_cases aO:0<=a/\a<(m.length:Int)
 ·obtain ⟨st,bR,nt⟩:=nA aO.1 aO.2;have ai:=hm st nt;have d1:decide (0<=a)=true:=decide_eq_true aO.1;have d2:decide (a<(m.length:Int))=true:=decide_eq_true aO.2;rw [d1,d2];simp only [cond_true,bR,Option.bind_some];refine .aq (Ξ:=gN (λ_=>∀ v∈st.eF,v.Sym≠s) (λr:Int=>∃ v,v∈st.eF/\v.Sym=s/\r=v.jA)) ?_ λx j=>?_
  ·refine Tot.upto (λs=>s) st.eF.length (λk _=>∀ v∈st.eF.take k,v.Sym≠s) rfl (by omega) (by simp) λk i hk he bb=>?_;subst he;rw [ew k (by omega)];refine Tot.ba (λaQ=>?_) (λdw=>.ag (by
    show ∀ v∈st.eF,v.Sym≠s;rw [List.take_of_length_le (by omega)] at bb; exact bb))
   have aQ:k<st.eF.length:=by omega
   rw [dT aQ];simp only [Option.bind_some];refine Tot.ba (λe=>.ag ⟨_,List.getElem_mem aQ,e,rfl⟩) (λe=>.ag ⟨aQ,rfl,λv hv=>?_⟩);rw [jc aQ,List.mem_append,List.mem_singleton] at hv;rcases hv with hv | rfl
   ·exact bb v hv
   ·exact e
  ·rcases x with x | x
   ·exact .ag (.inl ⟨rfl,λQa aJ=>by rw [bR] at aJ; cases aJ; exact j⟩)
   ·obtain ⟨v,h1,af,aK⟩:=j;exact .ag (.inr ⟨st,v,bR,h1,af,aK⟩)
 ·refine .aq (Ξ:=gN (λ_=>True) (λ_:Int=>False)) (Tot.loop (λ_=>True) (λ_=>0) trivial (by show 0<1000000000000000000; omega) λi _=>?_) λx j=>?_
  ·refine .aq (Ξ:=λc=>c=false) ?_ λc aa=>by subst aa; exact .ag trivial
   refine Tot.ba (λh1=>Tot.ba (λaf=>absurd ⟨h1,af⟩ aO) (λ_=>.ag rfl)) (λ_=>.ag rfl)
  ·rcases x with x | x
   ·refine .ag (.inl ⟨rfl,λst aJ=>absurd ⟨(n_ aJ).1,(n_ aJ).2.1⟩ aO⟩)
   ·exact j.elim
theorem GoTo.aU {g:bs}{m:List State}(hm:mH g m) {a s r:Int}(h:GoTo m a s r):-1<=r/\r<m.length:=by
 rcases h with ⟨rfl,_⟩ | ⟨st,v,h1,af,_,rfl⟩
 ·have:=hm.gU; exact ⟨by omega,by omega⟩
 ·have:=hm.a6 st (n_ h1).2.2 v af;exact ⟨by have:=this.t0; omega,this.t1⟩
theorem GoTo.yes {g:bs}{m:List State}(hm:mH g m) {a s r:Int}(h:GoTo m a s r) {st:State}{v:Move}(az:idx m a=some st) (hv:v∈st.eF) (e:v.Sym=s):0<=r/\r<m.length:=by
 rcases h with ⟨rfl,h⟩ | ⟨st,v,h1,af,_,rfl⟩
 ·exact absurd e (h st az v hv)
 ·have:=hm.a6 st (n_ h1).2.2 v af;exact ⟨this.t0,this.t1⟩
theorem L8 {g:bs}{m:List State}(hm:mH g m) (a:Int) (l:List Int) (aR:-1<=a/\a<m.length) (ai:l.length<=1000):Tot (z1 m a l) λr=>-1<=r/\r<m.length:=by
 unfold z1;refine .aq (Ξ:=λr:Int=>-1<=r/\r<m.length) ?_ λr ah=>.ag ah;refine Tot.upto (λs=>s.2) l.length (λ_ s=>-1<=s.1/\s.1<m.length) rfl (by omega) aR λk s hk he bb=>?_;obtain ⟨r,i⟩:=s;simp only at he bb ⊢;subst he;rw [ew k (by omega)];refine .aq (Ξ:=λc=>c=true->k<l.length) (Tot.ba (λh=>.ag λ_=>by omega) (λ_=>.ag λh=>by cases h)) λc aa=>Tot.bl (λh=>?_) (λ_=>.ag bb);have aQ:=aa h;rw [dT aQ];exact Tot.sm (.aq (DR m r _ hm.xt) λz aW=>.ag ⟨aQ,rfl,aW.aU hm⟩)
def u3 (m:List State) (t:Trans):Prop:=∃ st v,idx m t.State=some st/\v∈st.eF/\v.Sym=t.fg/\1000<=t.fg
structure wu (m:List State) (l:List Trans):Prop where
 n:l.length<=9600
 ok:∀ t∈l,u3 m t
 hf:∀ (q:Nat) (st:State) (v:Move),m[q]?=some st->v∈st.eF->1000<=v.Sym->(⟨q,v.Sym⟩:Trans)∈l
theorem SS {g:bs}{m:List State}(hm:mH g m):Tot (qp m) (wu m):=by
 have aA:=hm.mY;unfold qp;refine .aq (Ξ:=wu m) ?_ λr ah=>.ag ah;refine Tot.upto (λs=>s.2) m.length (λk s=>s.1.length<=64 * k/\(∀ t∈s.1,u3 m t)/\∀ (q:Nat) (st:State) (v:Move),q<k->m[q]?=some st->v∈st.eF->1000<=v.Sym->(⟨q,v.Sym⟩:Trans)∈s.1) rfl (by omega) ⟨Nat.le_refl 0,λt h=>(by cases h),λq _ _ h=>absurd h (Nat.not_lt_zero _)⟩ λk s hk he bb=>?_;obtain ⟨l,i⟩:=s;obtain ⟨h1,af,aK⟩:=bb;simp only at he h1 af aK ⊢;subst he;rw [ew k (by omega)];refine Tot.ba (λaQ=>?_) (λdw=>.ag ⟨?_,af,λq st v a7=>aK q st v ?_ a7⟩)
 ·have aQ:k<m.length:=by omega
  have n2:m[k]?=some m[k]:=List.getElem?_eq_getElem aQ;have nt:=List.getElem_mem aQ;rw [dT aQ];generalize m[k]=st at *;have BB:=hm.xt st nt;simp only [Option.bind_some];refine .aq (Ξ:=λvI:List Trans=>vI.length<=64 * (k+1)/\(∀ t∈vI,u3 m t)/\(∀ t∈l,t∈vI)/\∀ v∈st.eF,1000<=v.Sym->(⟨k,v.Sym⟩:Trans)∈vI) ?_ λvI hS=>.ag ⟨aQ,rfl,hS.1,hS.2.1,λq Qa v a7 bu cu dM=>?_⟩
  ·refine Tot.upto (λs=>s.2) st.eF.length (λJ s=>s.1.length<=64 * k+J/\(∀ t∈s.1,u3 m t)/\(∀ t∈l,t∈s.1)/\∀ v∈st.eF.take J,1000<=v.Sym->(⟨k,v.Sym⟩:Trans)∈s.1) rfl (by omega) ⟨h1,af,λ_ h=>h,λv hv=>by simp at hv⟩ λJ s aj he bb=>?_;obtain ⟨o,i⟩:=s;obtain ⟨g1,g2,g3,g4⟩:=bb;simp only at he g1 g2 g3 g4 ⊢;subst he;rw [ew J (by omega)];refine Tot.ba (λaQ=>?_) (λdw=>.ag ⟨by show o.length<=_; omega,g2,g3,by
    rw [List.take_of_length_le (by omega)] at g4; exact g4⟩)
   have aQ:J<st.eF.length:=by omega
   have e4:=jc aQ;have EF:=List.getElem_mem aQ;rw [dT aQ];generalize st.eF[J]=v at *;simp only [Option.bind_some];refine .aq (Ξ:=λo:List Trans=>o.length<=64 * k+(J+1)/\(∀ t∈o,u3 m t)/\(∀ t∈l,t∈o)/\∀ v∈st.eF.take (J+1),1000<=v.Sym->(⟨k,v.Sym⟩:Trans)∈o) ?_ λo aV=>.ag ⟨aQ,rfl,aV⟩;refine .aq (Ξ:=λo:List Trans=>o.length<=64 * k+(J+1)/\(∀ t∈o,u3 m t)/\(∀ t∈l,t∈o)/\∀ v∈st.eF.take (J+1),1000<=v.Sym->(⟨k,v.Sym⟩:Trans)∈o) (Tot.ba (λh=>?_) (λh=>.ag ⟨by omega,g2,g3,λw hw az=>?_⟩)) λo aV=>.ag aV
   ·refine .aq (Ξ:=λ_=>True) (Tot.ap (by simp [lim]; omega) trivial) λ_ _=>.ag ⟨by simp; omega,λt ar=>?_,λt ar=>List.mem_append_left _ (g3 t ar),λw hw az=>?_⟩
    ·rcases List.mem_append.1 ar with ar | ar
     ·exact g2 t ar
     ·rw [List.mem_singleton.1 ar];exact ⟨st,v,Xi n2,EF,rfl,h⟩
    ·rw [e4,List.mem_append,List.mem_singleton] at hw;rcases hw with hw | rfl
     ·exact List.mem_append_left _ (g4 w hw az)
     ·simp
   ·rw [e4,List.mem_append,List.mem_singleton] at hw;rcases hw with hw | rfl
    ·exact g4 w hw az
    ·exact absurd az h
  ·by_cases e:q=k
   ·subst e;rw [n2] at bu; cases bu;exact hS.2.2.2 v cu dM
   ·exact hS.2.2.1 _ (aK q Qa v (by omega) bu cu dM)
 ·show l.length<=9600;omega
 ·have:=(List.getElem?_eq_some_iff.1 a7).1;omega
theorem AP (l:List Trans) (a n:Int) (ai:l.length<=9600):Tot (zK l a n) λr=>-1<=r/\r<l.length/\((⟨a,n⟩:Trans)∈l->0<=r):=by
 unfold zK;refine .aq (Ξ:=gN (λ_=>(⟨a,n⟩:Trans)∉l) (λr:Int=>0<=r/\r<l.length)) ?_ λx j=>?_
 ·refine Tot.upto (λs=>s) l.length (λk _=>(⟨a,n⟩:Trans)∉l.take k) rfl (by omega) (by simp) λk i hk he bb=>?_;subst he;rw [ew k (by omega)];refine Tot.ba (λaQ=>?_) (λdw=>.ag (by
   show (⟨a,n⟩:Trans)∉l;rw [List.take_of_length_le (by omega)] at bb; exact bb))
  have aQ:k<l.length:=by omega
  have e4:=jc aQ;rw [dT aQ];generalize l[k]=y at *;simp only [Option.bind_some];refine .aq (Ξ:=λc:Bool=>c=false->y≠⟨a,n⟩) (Tot.ba (λh=>.ag λaJ e=>?_) (λh=>.ag λ_ e=>h (by rw [e]))) λc aa=>Tot.bl (λh=>.ag ⟨by show (0:Int)<=k; omega,by show (k:Int)<_; omega⟩) (λh=>.ag ⟨aQ,rfl,?_⟩)
  ·have:=of_decide_eq_false aJ;exact this (by rw [e])
  ·rw [e4,List.mem_append,List.mem_singleton];exact λaJ=>aJ.elim bb λe=>aa h e.symm
 ·rcases x with x | x
  ·refine .ag ⟨by omega,by omega,λh=>absurd h j⟩
  ·have j:0<=x/\x<l.length:=j;exact .ag ⟨by omega,j.2,λ_=>j.1⟩
theorem Ss (l:List Item) (ai:l.length<=1000000):Tot (Cy l) λ_=>True:=by
 unfold Cy;refine .aq (Ξ:=λ_=>True) ?_ λx j=>by
  rcases x with x | x
  ·exact .ag trivial
  ·exact .ag trivial
 refine Tot.upto (λs=>s) l.length (λ_ _=>True) rfl (by omega) trivial λk i hk he _=>?_;subst he;rw [ew k (by omega)];refine Tot.ba (λaQ=>?_) (λ_=>.ag trivial);have aQ:k<l.length:=by omega
 rw [dT aQ];simp only [Option.bind_some];refine .aq (Ξ:=λ_=>True) (Tot.ba (λ_=>.ag trivial) (λ_=>.ag trivial)) λc _=>Tot.bl (λ_=>.ag trivial) (λ_=>.ag ⟨aQ,rfl,trivial⟩)
theorem yW (B:List Bool) (l:List Int) (ai:l.length<=1000) (h:∀ s∈l,s<1000\/(1000<=s/\s - 1000<B.length)) (fh:B.length<=1000):Tot (zL B l) λ_=>True:=by
 unfold zL;refine .aq (Ξ:=λ_=>True) ?_ λx j=>by
  rcases x with x | x
  ·exact .ag trivial
  ·exact .ag trivial
 refine Tot.upto (λs=>s) l.length (λ_ _=>True) rfl (by omega) trivial λk i hk he _=>?_;subst he;rw [ew k (by omega)];refine Tot.ba (λaQ=>?_) (λ_=>.ag trivial);have aQ:k<l.length:=by omega
 have al:=h _ (List.getElem_mem aQ);rw [dT aQ];generalize l[k]=y at *;simp only [Option.bind_some];refine .aq (Ξ:=λ_=>True) (Tot.ba (λ_=>.ag trivial) (λh1=>?_)) λc _=>Tot.bl (λ_=>.ag trivial) (λ_=>.ag ⟨aQ,rfl,trivial⟩);have hw:aH (y - 1000)=y - 1000:=by rw [ch]; omega
 rw [hw];obtain ⟨b,av,_⟩:=nA (l:=B) (i:=y - 1000) (by omega) (by omega);rw [av];exact .ag trivial
theorem Pr {g:bs}(aN:gi g) {q:Prod}(a7:q∈g.bd) {B:List Bool}(fh:B.length=g.bX.length):∀ s∈q.e7,s<1000\/(1000<=s/\s - 1000<B.length):=λs az=>by
 have ar:=aN.jZ;have aA:=aN.dk;rcases (aN.gq q a7).right s az with h | h <;> omega
theorem L2 (g:bs) (aN:gi g):Tot (zJ g) λB=>B.length=g.bX.length:=by
 have ar:=aN.jZ;have aA:=aN.dk;have au:=aN.hV;unfold zJ;refine .aq (Ξ:=λB=>B=List.replicate g.bX.length false) (Tot.mk (by simp [lim]; omega) (by simp)) λaal Un=>?_;subst Un;refine .aq (Ξ:=λB:List Bool=>B.length=g.bX.length) ?_ λB fh=>.ag fh;refine Tot.loop (λs=>s.1.length=g.bX.length) (λs=>2 * (g.bX.length - ho s.1)+s.2.toNat) (by simp) (by
  show 2 * (g.bX.length - ho _)+1<1000000000000000000; omega) λs az=>?_
 obtain ⟨B,f⟩:=s;simp only at az ⊢;refine Tot.bl (λaS=>?_) (λ_=>.ag az);subst aS;refine .aq (Ξ:=λr:List Bool × Bool=>r.1.length=g.bX.length/\ho B<=ho r.1/\(r.2=true->ho B<ho r.1)) ?_ λr ah=>?_
 ·refine Tot.upto (λs=>s.2.2) g.bd.length (λ_ s=>s.1.length=g.bX.length/\ho B<=ho s.1/\(s.2.1=true->ho B<ho s.1)) rfl (by omega) ⟨az,Nat.le_refl _,λh=>by cases h⟩ λk s hk he bb=>?_;obtain ⟨C,f,i⟩:=s;obtain ⟨h1,af,aK⟩:=bb;simp only at he h1 af aK ⊢;subst he;rw [ew k (by omega)];refine Tot.ba (λaQ=>?_) (λdw=>.ag ⟨h1,af,aK⟩);have aQ:k<g.bd.length:=by omega
  have mU:=List.getElem_mem aQ;rw [dT aQ];generalize g.bd[k]=q at *;have a7:=aN.gq q mU;have NK:=a7.left;obtain ⟨b,av,_⟩:=nA (l:=C) (i:=q.Left) NK.1 (by omega);simp only [Option.bind_some,av];refine .aq (Ξ:=λr:List Bool × Bool=>r.1.length=g.bX.length/\ho B<=ho r.1/\(r.2=true->ho B<ho r.1)) ?_ λr ah=>.ag ⟨aQ,rfl,ah⟩;refine .aq (Ξ:=λc:Bool=>c=true->b=false) ?_ λc aa=>?_
  ·cases b with
   | true=>exact .ag λh=>by cases h
   | false =>
    refine .aq (yW C q.e7 (by have:=aN.aE q mU; omega) (Pr aN mU h1) (by omega)) λ_ _=>.ag λ_=>rfl
  ·refine .aq (Ξ:=λr:List Bool × Bool=>r.1.length=g.bX.length/\ho B<=ho r.1/\(r.2=true->ho B<ho r.1)) (Tot.bl (λh=>.ag ?_) (λh=>.ag ⟨h1,af,aK⟩)) λr ah=>.ag ah;have Vq:=aa h;subst Vq;have n4:q.Left.toNat<C.length:=by omega
   have n2:C.getD q.Left.toNat false=false:=by
    unfold idx at av;rw [if_pos NK.1] at av;rw [List.getD_eq_getElem?_getD,av]; rfl
   have:=wI C q.Left.toNat n4 n2;exact ⟨by rw [List.length_set]; exact h1,by show ho B<=ho (C.set _ _); omega,λ_=>by show ho B<ho (C.set _ _); omega⟩
 ·obtain ⟨h1,af,aK⟩:=ah;refine .ag ⟨h1,?_⟩;have aa:=S0 r.1;show 2 * (g.bX.length - ho r.1)+r.2.toNat<2 * (g.bX.length - ho B)+true.toNat;cases ie:r.2 with
  | false=>simp only [Bool.toNat_false,Bool.toNat_true]; omega
  | true =>
   have:=aK ie;simp only [Bool.toNat_true]; omega
structure jg (T:Nat) (r:List Int):Prop where
 a:eT hU r
 i:∀ x∈r,0<=x/\x<T
theorem jg.len {T:Nat}{r:List Int}(h:jg T r):r.length<=T:=by
 have:=uy (m:=(List.range T).map λk:Nat=>(k:Int)) (h.a.nd Fe) λx j=>by
  have:=h.i x j;exact List.mem_map.2 ⟨x.toNat,by rw [List.mem_range]; omega,by omega⟩
 grind
theorem jg.nil {T:Nat}:jg T []:=⟨.nil,λx h=>by cases h⟩
theorem jg.put {T:Nat}(dt:T<=100000) {r:List Int}(h:jg T r) {x:Int}(j:0<=x/\x<T):Tot (pH r x) λcW=>jg T cW/\r.length<=cW.length:=by
 have ai:=h.len;refine (AW r x h.a (by omega)).use λcW dP=>⟨⟨dP.1,λy al=>?_⟩,uy (h.a.nd Fe) λy al=>(dP.2.2 y).2 (.inl al)⟩;rcases (dP.2.2 y).1 al with aJ | rfl
 ·exact h.i y aJ
 grind
def mB (L:List (List Int)) (i:Nat):Nat:=(L.getD i []).length
def iO (L:List (List Int)):Nat:=(L.map List.length).sum
theorem Qm:∀ (L hQ:List (List Int)),L.length=hQ.length->(∀ i,mB L i<=mB hQ i)->iO L<=iO hQ/\((∃ i,mB L i<mB hQ i)->iO L<iO hQ)
 | [],[],_,_=>⟨Nat.le_refl _,λ⟨i,h⟩=>absurd h (Nat.lt_irrefl _)⟩
 | a::L,b::hQ,ai,h=>by
  obtain ⟨h1,af⟩:=Qm L hQ (by simpa using ai) λi=>by simpa [mB] using h (i+1)
  have aO:a.length<=b.length:=by simpa [mB] using h 0
  have cw:iO (a::L)=a.length+iO L:=by simp [iO]
  have cd:iO (b::hQ)=b.length+iO hQ:=by simp [iO]
  rw [cw,cd];refine ⟨by omega,λ⟨i,hi⟩=>?_⟩;cases i with
  | zero =>
   have:a.length<b.length:=by simpa [mB] using hi
   omega
  | succ i =>
   have:=af ⟨i,by simpa [mB] using hi⟩;omega
def Sets (T:Nat) (L:List (List Int)):Prop:=∀ r∈L,jg T r
theorem Ql {T:Nat}:∀ {L:List (List Int)},Sets T L->iO L<=L.length * T
 | [],_=>by simp [iO]
 | a::L,h=>by
  have h1:=(h a (by simp)).len;have af:=Ql (L:=L) λr ah=>h r (by simp [ah]);have cw:iO (a::L)=a.length+iO L:=by simp [iO]
  rw [cw,List.length_cons,Nat.succ_mul]; omega
structure pc (T:Nat) (L hQ:List (List Int)):Prop where
 n:hQ.length=L.length
 s:Sets T hQ
 u:∀ i,mB L i<=mB hQ i
theorem pc.refl {T:Nat}{L:List (List Int)}(h:Sets T L):pc T L L:=⟨rfl,h,λ_=>Nat.le_refl _⟩
theorem pc.trans {T:Nat}{A B C:List (List Int)}(h:pc T A B) (aJ:pc T B C):pc T A C:=⟨aJ.n.trans h.n,aJ.s,λi=>Nat.le_trans (h.u i) (aJ.u i)⟩
theorem pc.set {T:Nat}{L:List (List Int)}{k:Nat}{r cW:List Int}(az:Sets T L) (hk:L[k]?=some r) (h:jg T cW) (ai:r.length<=cW.length):pc T L (L.set k cW):=by
 have dV:=(List.getElem?_eq_some_iff.1 hk).1;refine ⟨List.length_set ..,λx j=>?_,λi=>?_⟩
 ·rcases List.mem_or_eq_of_mem_set j with aJ | aJ
  ·exact az x aJ
  grind
 grind [mB]
theorem Xj {L:List (List Int)}{k:Nat}{r:List Int}(h:L[k]?=some r):mB L k=r.length:=by
 grind [mB]
theorem Xh {α:Type}{l:List α}{i:Int}{y:α}(h:idx l i=some y):l[i.toNat]?=some y:=by
 grind [idx]
theorem L7 (T:Nat) (dt:T<=1000) (a0 aB:List (List Int)) (aA:a0.length<=9600) (he:aB.length=a0.length) (aO:Sets T a0) (h1:Sets a0.length aB):Tot (zZ a0 aB) λr=>r.length=a0.length/\Sets T r:=by
 unfold zZ;refine .aq (Ξ:=λr:List (List Int)=>r.length=a0.length/\Sets T r) ?_ λr ah=>.ag ah;have av:a0.length * T<=9600 * 1000:=Nat.mul_le_mul aA dt;refine Tot.loop (λs=>s.1.length=a0.length/\Sets T s.1) (λs=>2 * (a0.length * T - iO s.1)+s.2.toNat) ⟨rfl,aO⟩ (by
  show 2 * (a0.length * T - iO _)+1<1000000000000000000;omega) λs az=>?_
 obtain ⟨L,f⟩:=s;obtain ⟨ai,az⟩:=az;simp only at ai az ⊢;refine Tot.bl (λaS=>?_) (λ_=>.ag ⟨ai,az⟩);subst aS;refine .aq (Ξ:=λr:List (List Int) × Bool=>pc T L r.1/\(r.2=true->∃ i,mB L i<mB r.1 i)) ?_ λr ah=>?_
 ·refine Tot.upto (λs=>s.2.2) L.length (λ_ s=>pc T L s.1/\(s.2.1=true->∃ i,mB L i<mB s.1 i)) rfl (by omega) ⟨.refl az,λh=>by cases h⟩ λk s hk h8 bb=>?_;obtain ⟨C,f,i⟩:=s;obtain ⟨hu,w5⟩:=bb;simp only at h8 hu w5 ⊢;subst h8;rw [ew k (by omega)];have NT:=hu.n;refine Tot.ba (λaQ=>?_) (λdw=>.ag ⟨hu,w5⟩);have Nx:k<C.length:=by omega
  have gn:k<aB.length:=by omega
  have acM:C[k]?=some C[k]:=List.getElem?_eq_getElem Nx;have lV:=h1 _ (List.getElem_mem gn);rw [dT gn,dT Nx];generalize aB[k]=row at *;generalize C[k]=jH at *;simp only [Option.bind_some];have n5:=lV.len;refine .aq (Ξ:=λD:List (List Int)=>pc T C D) ?_ λD iK=>?_
  ·refine Tot.upto (λs=>s.2) row.length (λ_ s=>pc T C s.1) rfl (by omega) (.refl hu.s) λJ s aj h8 bb=>?_;obtain ⟨D,i⟩:=s;simp only at h8 bb ⊢;subst h8;rw [ew J (by omega)];have Us:=bb.n;refine Tot.ba (λaQ=>?_) (λ_=>.ag bb);have aQ:J<row.length:=by omega
   have al:=lV.i _ (List.getElem_mem aQ);rw [dT aQ];generalize row[J]=y at *;simp only [Option.bind_some];refine .aq (Ξ:=λE:List (List Int)=>pc T C E) ?_ λE k5=>.ag ⟨aQ,rfl,k5⟩;refine Tot.count (λs=>s.2) T (λs=>∃ n:Nat,s.2=(n:Int)/\pc T C s.1) ⟨0,rfl,bb⟩ (by show (T:Int) - 0<_; omega) λs az=>?_;obtain ⟨E,i⟩:=s;obtain ⟨n,Eu,k5⟩:=az;simp only at Eu k5 ⊢;subst Eu;have acw:=k5.n;obtain ⟨z,aW,Xe⟩:=nA (l:=E) (i:=y) al.1 (by omega);have oS:=k5.s z Xe;have ur:=oS.len;have Iv:k<E.length:=by omega
   have VO:E[k]?=some E[k]:=List.getElem?_eq_getElem Iv;rw [aW];simp only [Option.bind_some];refine Tot.ba (λaQ=>?_) (λ_=>.ag k5);have aQ:n<z.length:=by omega
   rw [ew n (by omega),dT Iv,dT aQ];simp only [Option.bind_some];refine .aq ((k5.s _ (List.getElem_mem Iv)).put (by omega) (oS.i _ (List.getElem_mem aQ))) λcW dP=>.ag ⟨⟨n+1,rfl,?_⟩,by show (n:Int)<((n+1:Nat):Int); omega,by show ((n+1:Nat):Int)<=T; omega⟩;exact k5.trans (.set k5.s VO dP.1 dP.2)
  ·have Us:=iK.n;have Ny:k<D.length:=by omega
   have acN:D[k]?=some D[k]:=List.getElem?_eq_getElem Ny;have zr:=hu.trans iK;refine .aq (Ξ:=λc:Bool=>c=true->∃ i,mB L i<mB D i) ?_ λc aa=>.ag ⟨by omega,rfl,zr,aa⟩;refine Tot.bl (λaS=>.ag λ_=>?_) (λ_=>?_)
   ·obtain ⟨i,hi⟩:=w5 aS;exact ⟨i,Nat.lt_of_lt_of_le hi (iK.u i)⟩
   ·rw [dT Ny];refine Tot.sm (.ag λh=>⟨k,?_⟩);have aK:=iK.u k;have bu:=hu.u k
    grind [Xj]
 ·obtain ⟨hu,aS⟩:=ah;have BM:=hu.n;obtain ⟨aK,bu⟩:=Qm L r.1 BM.symm hu.u;have cu:=Ql hu.s;rw [show r.1.length=a0.length by omega] at cu;refine .ag ⟨⟨by show r.1.length=_; omega,hu.s⟩,?_⟩;show 2 * (a0.length * T - iO r.1)+r.2.toNat<2 * (a0.length * T - iO L)+true.toNat;cases ie:r.2 with
  | false=>simp only [Bool.toNat_false,Bool.toNat_true]; omega
  | true =>
   grind
theorem mH.sym {g:bs}(aN:gi g) {m:List State}(hm:mH g m) {st:State}(bR:st∈m) {v:Move}(hv:v∈st.eF):0<=v.Sym/\(v.Sym<1000->v.Sym<g.aZ.length)/\(1000<=v.Sym->v.Sym - 1000<g.bX.length):=by
 have ar:=aN.jZ;rcases XK.1 (hm.a6 st bR v hv).s with h | h
 ·exact ⟨h.1,λ_=>h.2,λaJ=>by omega⟩
 ·exact ⟨by omega,λaJ=>by omega,λ_=>by omega⟩
theorem u3.go {g:bs}{m:List State}(hm:mH g m) {t:Trans}(h:u3 m t):Tot (q7 m t.State t.fg) λr=>0<=r/\r<m.length:=by
 obtain ⟨st,v,h1,af,aK,_⟩:=h;exact (DR m t.State t.fg hm.xt).use λr ah=>ah.yes hm h1 af aK
theorem P0 {T:Nat}{L:List (List Int)}{r:List Int}(h:Sets T L) (ah:jg T r):Sets T (L++[r]):=λx j=>by
 rcases List.mem_append.1 j with j | j
 ·exact h x j
 ·rw [List.mem_singleton.1 j]; exact ah
theorem SP (g:bs) (aN:gi g) {m:List State}(hm:mH g m):Tot (CU m) λr=>∃ dx,qp m=some dx/\wu m dx/\r.length=dx.length/\Sets g.aZ.length r:=by
 have ar:=aN.jZ;obtain ⟨dx,p5,ig⟩:=SS hm;have uj:=ig.n;unfold CU;rw [p5];refine Tot.sm (.aq (Ξ:=λr:List (List Int)=>r.length=dx.length/\Sets g.aZ.length r) ?_ λr ah=>.ag ⟨dx,rfl,ig,ah⟩);refine Tot.upto (λs=>s.2) dx.length (λk s=>s.1.length=k/\Sets g.aZ.length s.1) rfl (by omega) ⟨rfl,λr h=>by cases h⟩ λk s hk he bb=>?_;obtain ⟨L,i⟩:=s;obtain ⟨h1,af⟩:=bb;simp only at he h1 af ⊢;subst he;rw [ew k (by omega)];refine Tot.ba (λaQ=>?_) (λdw=>.ag ⟨by show L.length=_; omega,af⟩);have aQ:k<dx.length:=by omega
 have e4:=ig.ok _ (List.getElem_mem aQ);rw [dT aQ];generalize dx[k]=t at *;simp only [Option.bind_some];refine .aq (e4.go hm) λto BR=>?_;obtain ⟨st,bR,qc⟩:=nA BR.1 BR.2;have c7:=hm.ql st qc;have BB:=hm.xt st qc;rw [bR];simp only [Option.bind_some];refine .aq (Ss _ (by have:=c7.len aN; omega)) λc _=>?_;refine .aq (Ξ:=jg g.aZ.length) (Tot.bl (λ_=>?_) (λ_=>.ag .nil)) λz' zn=>?_
 ·refine .aq (Ξ:=λ_=>True) (Tot.ap (by simp [lim]) trivial) λ_ _=>.ag ⟨List.pairwise_singleton ..,λx j=>?_⟩;rw [List.mem_singleton.1 j]; omega
 refine .aq (Ξ:=jg g.aZ.length) ?_ λr ah=>?_
 ·refine Tot.upto (λs=>s.2) st.eF.length (λk s=>jg g.aZ.length s.1) rfl (by omega) zn λJ s aj he bb=>?_;obtain ⟨r,i⟩:=s;simp only at he bb ⊢;subst he;rw [ew J (by omega)];refine Tot.ba (λaQ=>?_) (λ_=>.ag bb);have aQ:J<st.eF.length:=by omega
  have hv:=hm.sym aN qc (List.getElem_mem aQ);rw [dT aQ];generalize st.eF[J]=v at *;simp only [Option.bind_some];refine .aq (Ξ:=jg g.aZ.length) ?_ λr ah=>.ag ⟨aQ,rfl,ah⟩;refine .aq (Ξ:=jg g.aZ.length) (Tot.ba (λh=>?_) (λ_=>.ag bb)) λr ah=>.ag ah;exact .aq (bb.put (by omega) ⟨hv.1,hv.2.1 h⟩) λr ah=>.ag ah.1
 ·refine .aq (Ξ:=λ_=>True) (Tot.ap (by simp [lim]; omega) trivial) λ_ _=>.ag ⟨aQ,rfl,by simp; omega,P0 af ah⟩
theorem SQ (g:bs) (aN:gi g) {m:List State}(hm:mH g m) {dx:List Trans}(p5:qp m=some dx) (ig:wu m dx):Tot (CV g m) λr=>r.length=dx.length/\Sets dx.length r:=by
 have ar:=aN.jZ;have kG:=aN.dk;have uj:=ig.n;unfold CV;rw [p5];refine Tot.sm (.aq (L2 g aN) λB fh=>.aq (Ξ:=λr:List (List Int)=>r.length=dx.length/\Sets dx.length r) ?_ λr ah=>.ag ah);refine Tot.upto (λs=>s.2) dx.length (λk s=>s.1.length=k/\Sets dx.length s.1) rfl (by omega) ⟨rfl,λr h=>by cases h⟩ λk s hk he bb=>?_;obtain ⟨L,i⟩:=s;obtain ⟨h1,af⟩:=bb;simp only at he h1 af ⊢;subst he;rw [ew k (by omega)];refine Tot.ba (λaQ=>?_) (λdw=>.ag ⟨by show L.length=_; omega,af⟩);have aQ:k<dx.length:=by omega
 have e4:=ig.ok _ (List.getElem_mem aQ);rw [dT aQ];generalize dx[k]=t at *;simp only [Option.bind_some];refine .aq (e4.go hm) λto BR=>?_;obtain ⟨st,bR,qc⟩:=nA BR.1 BR.2;have oM:=Xh bR;have BB:=hm.xt st qc;rw [bR];simp only [Option.bind_some];refine .aq (Ξ:=jg dx.length) ?_ λr ah=>?_
 ·refine Tot.upto (λs=>s.2) st.eF.length (λk s=>jg dx.length s.1) rfl (by omega) .nil λJ s aj he bb=>?_;obtain ⟨r,i⟩:=s;simp only at he bb ⊢;subst he;rw [ew J (by omega)];refine Tot.ba (λaQ=>?_) (λ_=>.ag bb);have aQ:J<st.eF.length:=by omega
  have EF:=List.getElem_mem aQ;have hv:=hm.sym aN qc EF;rw [dT aQ];generalize st.eF[J]=v at *;simp only [Option.bind_some];refine .aq (Ξ:=jg dx.length) ?_ λr ah=>.ag ⟨aQ,rfl,ah⟩;refine .aq (Ξ:=λc:Bool=>c=true->1000<=v.Sym) (Tot.ba (λh=>?_) (λ_=>.ag λh=>by cases h)) λc aa=>?_
  ·have hw:aH (v.Sym - 1000)=v.Sym - 1000:=by
    have:=hv.2.2 h;rw [ch]; omega
   rw [hw];obtain ⟨b,av,_⟩:=nA (l:=B) (i:=v.Sym - 1000) (by omega) (by have:=hv.2.2 h; omega);rw [av];exact Tot.sm (.ag λ_=>h)
  ·refine .aq (Ξ:=jg dx.length) (Tot.bl (λh=>?_) (λ_=>.ag bb)) λr ah=>.ag ah;have ze:=ig.hf to.toNat st v oM EF (aa h);rw [show ((to.toNat:Nat):Int)=to by omega] at ze;refine .aq (AP dx to v.Sym uj) λz aW=>?_;exact .aq (bb.put (by omega) ⟨aW.2.2 ze,aW.2.1⟩) λr ah=>.ag ah.1
 ·refine .aq (Ξ:=λ_=>True) (Tot.ap (by simp [lim]; omega) trivial) λ_ _=>.ag ⟨aQ,rfl,by simp; omega,P0 af ah⟩
theorem SR (g:bs) (aN:gi g) {m:List State}(hm:mH g m) {dx:List Trans}(p5:qp m=some dx) (ig:wu m dx):Tot (CW g m) λr=>r.length=dx.length/\Sets dx.length r:=by
 have ar:=aN.jZ;have kG:=aN.dk;have w_:=aN.hV;have uj:=ig.n;unfold CW;rw [p5];refine Tot.sm (.aq (L2 g aN) λB fh=>.aq (Ξ:=λr=>r=List.replicate dx.length ([]:List Int)) (Tot.mk (by simp [lim]; omega) (by simp)) λaan UC=>.aq (Ξ:=λr:List (List Int)=>r.length=dx.length/\Sets dx.length r) ?_ λr ah=>.ag ah);subst UC;have aak:∀ {L:List (List Int)},(L.length=dx.length/\Sets dx.length L)->∀ {z:Int}{r cW:List Int},idx L z=some r->jg dx.length cW->(L.set z.toNat cW).length=dx.length/\Sets dx.length (L.set z.toNat cW):=λ{L} ix {z r cW} _ dP=>⟨by rw [List.length_set]; exact ix.1,λx j=>by
  rcases List.mem_or_eq_of_mem_set j with aJ | aJ
  ·exact ix.2 x aJ
  ·rw [aJ]; exact dP⟩
 refine Tot.upto (λs=>s.2) dx.length (λk s=>s.1.length=dx.length/\Sets dx.length s.1) rfl (by omega) ⟨by simp,λr h=>by rw [List.eq_of_mem_replicate h]; exact .nil⟩ λk s hk he bb=>?_;obtain ⟨L,i⟩:=s;simp only at he bb ⊢;subst he;rw [ew k (by omega)];refine Tot.ba (λaQ=>?_) (λdw=>.ag bb);have aQ:k<dx.length:=by omega
 have e4:=ig.ok _ (List.getElem_mem aQ);rw [dT aQ];generalize dx[k]=t at *;simp only [Option.bind_some];refine .aq (Ξ:=λr:List (List Int)=>r.length=dx.length/\Sets dx.length r) ?_ λr ah=>.ag ⟨aQ,rfl,ah⟩;refine Tot.upto (λs=>s.2) g.bd.length (λk s=>s.1.length=dx.length/\Sets dx.length s.1) rfl (by omega) bb λp s au he bb=>?_;obtain ⟨L,i⟩:=s;simp only at he bb ⊢;subst he;rw [ew p (by omega)];refine Tot.ba (λEs=>?_) (λdw=>.ag bb);have Es:p<g.bd.length:=by omega
 have mU:=List.getElem_mem Es;rw [dT Es];generalize g.bd[p]=q at *;have a7:=aN.gq q mU;have BM:=aN.aE q mU;have nx:=Pr aN mU fh;simp only [Option.bind_some];refine .aq (Ξ:=λr:List (List Int)=>r.length=dx.length/\Sets dx.length r) ?_ λr ah=>.ag ⟨Es,rfl,ah⟩;refine Tot.bl (λ_=>.ag bb) (λ_=>.aq (Ξ:=λr:List (List Int)=>r.length=dx.length/\Sets dx.length r) ?_ λr ah=>.ag ah);refine Tot.upto (λs=>s.2) q.e7.length (λk s=>s.1.length=dx.length/\Sets dx.length s.1) rfl (by omega) bb λJ s aj he bb=>?_;obtain ⟨L,i⟩:=s;simp only at he bb ⊢;subst he;rw [ew J (by omega)];refine Tot.ba (λga=>?_) (λdw=>.ag bb);have ga:J<q.e7.length:=by omega
 rw [dT ga];generalize q.e7[J]=y at *;simp only [Option.bind_some];refine .aq (Ξ:=λr:List (List Int)=>r.length=dx.length/\Sets dx.length r) ?_ λr ah=>.ag ⟨ga,rfl,ah⟩;refine .aq (Ξ:=λ_=>True) (Tot.ba (λ_=>.ag trivial) (λ_=>?_)) λc _=>Tot.bl (λ_=>.ag bb) (λ_=>?_)
 ·refine .aq (Ξ:=λr=>r=q.e7.drop (J+1)) (Tot.sub ⟨by omega,by omega,by omega⟩ ?_) λr ah=>?_
  ·rw [List.take_of_length_le]
   ·congr 1
   ·rw [List.length_drop]; omega
  ·subst ah;exact .aq (yW B _ (by rw [List.length_drop]; omega) (λs az=>nx s (List.mem_of_mem_drop az)) (by omega)) λ_ _=>.ag trivial
 refine .aq (Ξ:=λr=>r.length<=8) (Tot.sub ⟨by omega,by omega,by omega⟩ (by rw [List.length_take,List.length_drop]; omega)) λr ah=>?_;obtain ⟨st,_,bR,_⟩:=e4;have IP:=n_ bR;refine .aq (L8 hm t.State r ⟨by omega,IP.2.1⟩ (by omega)) λz aW=>?_;refine .aq (Ξ:=λr:List (List Int)=>r.length=dx.length/\Sets dx.length r) (Tot.bl (λ_=>?_) (λ_=>.ag bb)) λr ah=>.ag ah;refine .aq (AP dx z y uj) λn aA=>?_;refine .aq (Ξ:=λr:List (List Int)=>r.length=dx.length/\Sets dx.length r) (Tot.ba (λaO=>?_) (λ_=>.ag bb)) λr ah=>.ag ah;obtain ⟨z',zn,ug⟩:=nA (l:=L) aO (by rw [bb.1]; exact aA.2.1);rw [zn];refine Tot.sm (.aq ((bb.2 z' ug).put (by omega) ⟨by omega,by omega⟩) λcW dP=>.ag (aak bb zn dP.1))
theorem SK (g:bs) (aN:gi g) {m:List State}(hm:mH g m):Tot (zW g m) λr=>∃ dx,qp m=some dx/\wu m dx/\r.length=dx.length/\Sets g.aZ.length r:=by
 have ar:=aN.jZ;unfold zW;refine .aq (SP g aN hm) λq9 h1=>?_;obtain ⟨dx,p5,ig,Iy,IN⟩:=h1;have uj:=ig.n;refine .aq (SQ g aN hm p5 ig) λjY af=>.aq (L7 g.aZ.length (by omega) q9 jY (by omega) (by omega) IN (by rw [Iy]; exact af.2)) λxW aK=>?_;refine .aq (SR g aN hm p5 ig) λvX bu=>.aq (L7 g.aZ.length (by omega) xW vX (by omega) (by omega) aK.2 (by rw [aK.1,Iy]; exact bu.2)) λAa cu=>?_;exact .ag ⟨dx,p5,ig,by omega,cu.2⟩
def qH (g:bs) (p:Int):Prop:=0<p/\p<g.bd.length
theorem SL (g:bs) (aN:gi g) (K:List Item) (ai:K.length<=1000000):Tot (CN g K) λr=>r.length<=540/\∀ p∈r,qH g p:=by
 unfold CN;refine .aq (GW g aN K ai) λc aa=>?_;have hJ:=tB aN aa.1 λx j=>((aa.2 x).1 j).i';refine .aq (Ξ:=λr:List Int=>r.length<=540/\∀ p∈r,qH g p) ?_ λr ah=>.ag ah;refine Tot.upto (λs=>s.2) c.length (λk s=>s.1.length<=k/\∀ p∈s.1,qH g p) rfl (by omega) ⟨Nat.le_refl 0,λp h=>by cases h⟩ λk s hk he bb=>?_;obtain ⟨L,i⟩:=s;obtain ⟨h1,af⟩:=bb;simp only at he h1 af ⊢;subst he;rw [ew k (by omega)];refine Tot.ba (λaQ=>?_) (λdw=>.ag ⟨by show L.length<=_; omega,af⟩);have aQ:k<c.length:=by omega
 have hi:=((aa.2 _).1 (List.getElem_mem aQ)).i';rw [dT aQ];generalize c[k]=x at *;obtain ⟨q,a7,aK,bu⟩:=hi;simp only [Option.bind_some];refine .aq (Ξ:=λL:List Int=>L.length<=k+1/\∀ p∈L,qH g p) ?_ λr ah=>.ag ⟨aQ,rfl,ah⟩;refine .aq (Ξ:=λc:Bool=>c=true->0<x.Prod) (Tot.ba (λh=>?_) (λ_=>.ag λh=>by cases h)) λc aa=>?_
 ·rw [a7]; exact Tot.sm (.ag λ_=>h)
 refine .aq (Ξ:=λL:List Int=>L.length<=k+1/\∀ p∈L,qH g p) (Tot.bl (λh=>?_) (λ_=>.ag ⟨by omega,af⟩)) λr ah=>.ag ah;refine .aq (Ξ:=λ_=>True) (Tot.ap (by simp [lim]; omega) trivial) λ_ _=>.ag ⟨by simp; omega,λp au=>?_⟩;rcases List.mem_append.1 au with au | au
 ·exact af p au
 ·rw [List.mem_singleton.1 au]; exact ⟨aa h,(n_ a7).2.1⟩
theorem SM (g:bs) (aN:gi g) {m:List State}(hm:mH g m) {dx:List Trans}(p5:qp m=some dx) (ig:wu m dx) (q p:Int):Tot (CO g m q p) λr=>r.length<=9600/\∀ x∈r,0<=x/\x<dx.length:=by
 have uj:=ig.n;have w_:=aN.hV;have kG:=aN.dk;unfold CO;refine .aq (Ξ:=λc:Bool=>c=false->0<=p/\p<g.bd.length) (Tot.ba (λ_=>.ag λh=>by cases h) (λ_=>Tot.ba (λ_=>.ag λh=>by cases h) (λ_=>Tot.ba (λ_=>.ag λh=>by cases h) (λh=>.ag λaJ=>by have:=of_decide_eq_false aJ; omega)))) λc aa=>Tot.bl (λ_=>.ag ⟨Nat.zero_le _,λx h=>by cases h⟩) (λh=>?_);obtain ⟨aO,h1⟩:=aa h;rw [p5];refine Tot.sm ?_;refine .aq (Ξ:=λr:List Int=>r.length<=9600/\∀ x∈r,0<=x/\x<dx.length) ?_ λr ah=>.ag ah;obtain ⟨gq,zm,Wi⟩:=nA aO h1;have BM:=aN.aE gq Wi;refine Tot.upto (λs=>s.2) dx.length (λk s=>s.1.length<=k/\∀ x∈s.1,0<=x/\x<dx.length) rfl (by omega) ⟨Nat.le_refl 0,λp h=>by cases h⟩ λk s hk he bb=>?_;obtain ⟨L,i⟩:=s;obtain ⟨af,aK⟩:=bb;simp only at he af aK ⊢;subst he;rw [ew k (by omega)];refine Tot.ba (λaQ=>?_) (λdw=>.ag ⟨by show L.length<=_; omega,aK⟩);have aQ:k<dx.length:=by omega
 have e4:=ig.ok _ (List.getElem_mem aQ);rw [dT aQ,zm];generalize dx[k]=t at *;obtain ⟨st,_,bR,_⟩:=e4;have IP:=n_ bR;simp only [Option.bind_some];refine .aq (Ξ:=λL:List Int=>L.length<=k+1/\∀ x∈L,0<=x/\x<dx.length) ?_ λr ah=>.ag ⟨aQ,rfl,ah⟩;refine .aq (Ξ:=λ_=>True) (Tot.ba (λh=>?_) (λ_=>.ag trivial)) λc aa=>?_
 ·exact .aq (L8 hm t.State gq.e7 ⟨by omega,IP.2.1⟩ (by omega)) λ_ _=>.ag trivial
 refine .aq (Ξ:=λL:List Int=>L.length<=k+1/\∀ x∈L,0<=x/\x<dx.length) (Tot.bl (λh=>?_) (λ_=>.ag ⟨by omega,aK⟩)) λr ah=>.ag ah;refine .aq (Ξ:=λ_=>True) (Tot.ap (by simp [lim]; omega) trivial) λ_ _=>.ag ⟨by simp; omega,λp au=>?_⟩;rcases List.mem_append.1 au with au | au
 ·exact aK p au
 ·rw [List.mem_singleton.1 au]; exact ⟨by omega,by omega⟩
structure yy (g:bs) (l:kW):Prop where
 p:qH g l.Prod
 t:jg g.aZ.length l.aZ
theorem SE (g:bs) (aN:gi g) {m:List State}(hm:mH g m):Tot (CJ g m) λr=>r.length<=81000/\∀ l∈r,yy g l:=by
 have ar:=aN.jZ;have vl:=hm.mY;unfold CJ;refine .aq (SK g aN hm) λF aI=>?_;obtain ⟨dx,p5,ig,acx,jl⟩:=aI;have uj:=ig.n;refine .aq (Ξ:=λr:List kW=>r.length<=81000/\∀ l∈r,yy g l) ?_ λr ah=>.ag ah;refine Tot.upto (λs=>s.2) m.length (λk s=>s.1.length<=540 * k/\∀ l∈s.1,yy g l) rfl (by omega) ⟨Nat.le_refl 0,λp h=>by cases h⟩ λk s hk he bb=>?_;obtain ⟨L,i⟩:=s;obtain ⟨h1,af⟩:=bb;simp only at he h1 af ⊢;subst he;rw [ew k (by omega)];refine Tot.ba (λaQ=>?_) (λdw=>.ag ⟨by show L.length<=_; omega,af⟩);have aQ:k<m.length:=by omega
 have c7:=hm.ql _ (List.getElem_mem aQ);rw [dT aQ];generalize m[k]=st at *;refine Tot.sm (.aq (SL g aN st.Kernel (by have:=c7.len aN; omega)) λE k5=>?_);obtain ⟨acv,Ut⟩:=k5;refine .aq (Ξ:=λL:List kW=>L.length<=540 * (k+1)/\∀ l∈L,yy g l) ?_ λr ah=>.ag ⟨aQ,rfl,ah⟩;refine Tot.upto (λs=>s.2) E.length (λJ s=>s.1.length<=540 * k+J/\∀ l∈s.1,yy g l) rfl (by omega) ⟨h1,af⟩ λJ s aj he bb=>?_;obtain ⟨L,i⟩:=s;obtain ⟨h1,af⟩:=bb;simp only at he h1 af ⊢;subst he;rw [ew J (by omega)];refine Tot.ba (λga=>?_) (λdw=>.ag ⟨by show L.length<=_; omega,af⟩);have ga:J<E.length:=by omega
 have au:=Ut _ (List.getElem_mem ga);rw [dT ga];generalize E[J]=p at *;simp only [Option.bind_some];refine .aq (SM g aN hm p5 ig k p) λB fh=>?_;obtain ⟨acs,Uq⟩:=fh;refine .aq (Ξ:=jg g.aZ.length) ?_ λS bm=>?_
 ·refine Tot.upto (λs=>s.2) B.length (λ_ s=>jg g.aZ.length s.1) rfl (by omega) .nil λb s av he bb=>?_;obtain ⟨S,i⟩:=s;simp only at he bb ⊢;subst he;rw [ew b (by omega)];refine Tot.ba (λzk=>?_) (λdw=>.ag bb);have zk:b<B.length:=by omega
  have j:=Uq _ (List.getElem_mem zk);rw [dT zk];generalize B[b]=x at *;obtain ⟨row,lV,ug⟩:=nA (l:=F) j.1 (by omega);have lW:=jl row ug;have n5:=lW.len;simp only [Option.bind_some,lV];refine .aq (Ξ:=jg g.aZ.length) ?_ λS bm=>.ag ⟨zk,rfl,bm⟩;refine Tot.upto (λs=>s.2) row.length (λ_ s=>jg g.aZ.length s.1) rfl (by omega) bb λz s aW he bb=>?_;obtain ⟨S,i⟩:=s;simp only at he bb ⊢;subst he;rw [ew z (by omega)];refine Tot.ba (λqa=>?_) (λdw=>.ag bb);have qa:z<row.length:=by omega
  rw [dT qa];exact Tot.sm (.aq (bb.put (by omega) (lW.i _ (List.getElem_mem qa))) λr ah=>.ag ⟨qa,rfl,ah.1⟩)
 ·refine .aq (Ξ:=λ_=>True) (Tot.ap (by simp [lim]; omega) trivial) λ_ _=>.ag ⟨ga,rfl,by simp; omega,λl ai=>?_⟩;rcases List.mem_append.1 ai with ai | ai
  ·exact af l ai
  ·rw [List.mem_singleton.1 ai]; exact ⟨au,bm⟩
def oe (c:Cell):Nat:=c.bd.length+(if 0<=c.j4 then 1 else 0)+(if c.lN then 1 else 0)
theorem ZK {x:Option Int}{c:Cell}(ai:c.bd.length<=1000) (e:x=(((bif decide (0<=c.j4) then
some (aH ((c.bd.length:Int)+1))
else
some (c.bd.length:Int))).bind λjr =>
((bif c.lN then
some (aH (jr+1))
else
some jr)).bind λih =>
some ih)):x=some (oe c:Int):=by
 subst e;have hw:aH ((c.bd.length:Int)+1)=(c.bd.length:Int)+1:=by rw [ch]; omega
 have WN:aH ((c.bd.length:Int)+1+1)=(c.bd.length:Int)+1+1:=by rw [ch]; omega
 unfold oe;by_cases h:0<=c.j4
 ·cases af:c.lN <;> simp [h,hw,WN]
 ·cases af:c.lN <;> simp [h,hw]
theorem Mq (c:Cell) (ai:c.bd.length<=1000):zT c=some (oe c:Int):=ZK ai (by unfold zT; rfl)
structure o7 (g:bs) (n:Nat) (c:Cell):Prop where
 s:0<=c.State/\c.State<n
 t:0<=c.Tok/\c.Tok<g.aZ.length
 f:-1<=c.j4/\c.j4<n
 p:eT hU c.bd
 q:∀ p∈c.bd,qH g p
 ZG:0<oe c
theorem o7.len {g:bs}(aN:gi g) {n:Nat}{c:Cell}(h:o7 g n c):c.bd.length<=60:=by
 have:=aN.hV;have:=jg.len (T:=g.bd.length) ⟨h.p,λx j=>⟨by have:=(h.q x j).1; omega,(h.q x j).2⟩⟩;omega
def yl (a b:Cell):Prop:=a.State<b.State\/(a.State=b.State/\a.Tok<b.Tok)
structure Au (g:bs) (n:Nat) (l:List Cell):Prop where
 ok:∀ c∈l,o7 g n c
 adr:l.Pairwise yl
 n:l.length<=6000
theorem SD (g:bs) (aN:gi g) {m:List State}(hm:mH g m) (sR:List kW) (ai:sR.length<=81000) (hk:∀ l∈sR,yy g l):Tot (CI g m sR) (Au g m.length):=by
 have ar:=aN.jZ;have vl:=hm.mY;have w_:=aN.hV;unfold CI;refine .aq (Ξ:=Au g m.length) ?_ λr ah=>.ag ah;refine Tot.upto (λs=>s.2) m.length (λk s=>s.1.length<=40 * k/\(∀ c∈s.1,o7 g m.length c)/\s.1.Pairwise yl/\∀ c∈s.1,c.State<k) rfl (by omega) ⟨Nat.le_refl 0,λp h=>(by cases h),.nil,λp h=>by cases h⟩ λk s Bw he bb=>?_;obtain ⟨L,i⟩:=s;obtain ⟨h1,af,aK,bu⟩:=bb;simp only at he h1 af aK bu ⊢;subst he;rw [ew k (by omega)];refine Tot.ba (λaQ=>?_) (λdw=>.ag ⟨af,aK,by show L.length<=_; omega⟩);have aQ:k<m.length:=by omega
 have c7:=hm.ql _ (List.getElem_mem aQ);rw [dT aQ];generalize m[k]=st at *;have acz:=c7.len aN;refine .aq (Ξ:=λL:List Cell=>L.length<=40 * (k+1)/\(∀ c∈L,o7 g m.length c)/\L.Pairwise yl/\∀ c∈L,c.State<(k+1:Nat)) ?_ λr ah=>.ag ⟨aQ,rfl,ah⟩;refine Tot.upto (λs=>s.2) g.aZ.length (λJ s=>s.1.length<=40 * k+J/\(∀ c∈s.1,o7 g m.length c)/\s.1.Pairwise yl/\∀ c∈s.1,c.State<k\/(c.State=k/\c.Tok<J)) rfl (by omega) ⟨h1,af,aK,λc aa=>.inl (bu c aa)⟩ λJ s aj he bb=>?_;obtain ⟨L,i⟩:=s;obtain ⟨h1,af,aK,bu⟩:=bb;simp only at he h1 af aK bu ⊢;subst he;rw [ew J (by omega)];refine Tot.ba (λga=>?_) (λdw=>.ag ⟨by show L.length<=_; omega,af,aK,λc aa=>by rcases bu c aa with h | h <;> omega⟩);refine .aq (Ξ:=λL:List Cell=>L.length<=40 * k+(J+1)/\(∀ c∈L,o7 g m.length c)/\L.Pairwise yl/\∀ c∈L,c.State<k\/(c.State=k/\c.Tok<(J+1:Nat))) ?_ λr ah=>.ag ⟨by omega,rfl,ah⟩;refine .aq (DR m k J hm.xt) λez EB=>?_;have Wu:=EB.aU hm;refine .aq (Ξ:=λ_=>True) ?_ λac _=>?_
 ·refine Tot.upto (λs=>s.2) st.Kernel.length (λ_ _=>True) rfl (by omega) trivial λz s aW he _=>?_;obtain ⟨b,i⟩:=s;simp only at he ⊢;subst he;rw [ew z (by omega)];simp only [Option.bind_some];refine Tot.ba (λqa=>?_) (λ_=>.ag trivial);have qa:z<st.Kernel.length:=by omega
  rw [dT qa];simp only [Option.bind_some];refine .aq (Ξ:=λ_=>True) (Tot.bl (λ_=>.ag trivial) (λ_=>Tot.ba (λ_=>Tot.ba (λ_=>.ag trivial) (λ_=>.ag trivial)) (λ_=>.ag trivial))) λ_ _=>.ag ⟨qa,rfl,trivial⟩
 refine .aq (Ξ:=λP:List Int=>eT hU P/\∀ p∈P,qH g p) ?_ λP cg=>?_
 ·refine Tot.upto (λs=>s.2) sR.length (λ_ s=>eT hU s.1/\∀ p∈s.1,qH g p) rfl (by omega) ⟨.nil,λp h=>by cases h⟩ λz s aW he bb=>?_;obtain ⟨P,i⟩:=s;obtain ⟨g1,g2⟩:=bb;simp only at he g1 g2 ⊢;subst he;rw [ew z (by omega)];refine Tot.ba (λqa=>?_) (λdw=>.ag ⟨g1,g2⟩);have qa:z<sR.length:=by omega
  have ix:=hk _ (List.getElem_mem qa);rw [dT qa];generalize sR[z]=l at *;have IU:=ix.t.len;have UK:=jg.len (T:=g.bd.length) ⟨g1,λx j=>⟨by have:=(g2 x j).1; omega,(g2 x j).2⟩⟩;simp only [Option.bind_some];refine .aq (Ξ:=λP:List Int=>eT hU P/\∀ p∈P,qH g p) ?_ λr ah=>.ag ⟨qa,rfl,ah⟩;refine .aq (Ξ:=λ_=>True) (Tot.ba (λ_=>.aq (L5 l.aZ J (by omega)) λ_ _=>.ag trivial) (λ_=>.ag trivial)) λc _=>?_;refine .aq (Ξ:=λP:List Int=>eT hU P/\∀ p∈P,qH g p) (Tot.bl (λ_=>?_) (λ_=>.ag ⟨g1,g2⟩)) λr ah=>.ag ah;refine .aq (AW P l.Prod g1 (by omega)) λr ah=>.ag ⟨ah.1,λp au=>?_⟩;rcases (ah.2.2 p).1 au with h | rfl
  ·exact g2 p h
  ·exact ix.p
 ·have UK:=jg.len (T:=g.bd.length) ⟨cg.1,λx j=>⟨by have:=(cg.2 x j).1; omega,(cg.2 x j).2⟩⟩;rw [Mq _ (by show P.length<=_; omega)];refine Tot.sm (.aq (Ξ:=λL:List Cell=>L.length<=40 * k+(J+1)/\(∀ c∈L,o7 g m.length c)/\L.Pairwise yl/\∀ c∈L,c.State<k\/(c.State=k/\c.Tok<(J+1:Nat))) (Tot.ba (λaO=>?_) (λ_=>.ag ⟨by omega,af,aK,λc aa=>by rcases bu c aa with h | h <;> omega⟩)) λr ah=>.ag ah);refine .aq (Ξ:=λ_=>True) (Tot.ap (by simp [lim]; omega) trivial) λ_ _=>.ag ⟨by simp; omega,λc aa=>?_,List.pairwise_append.2 ⟨aK,List.pairwise_singleton ..,λa aR b av=>?_⟩,λc aa=>?_⟩
  ·rcases List.mem_append.1 aa with aa | aa
   ·exact af c aa
   ·rw [List.mem_singleton.1 aa];exact ⟨⟨by show (0:Int)<=k; omega,by show (k:Int)<_; omega⟩,⟨by show (0:Int)<=J; omega,by show (J:Int)<_; omega⟩,Wu,cg.1,cg.2,by omega⟩
  ·rw [List.mem_singleton.1 av];rcases bu a aR with h | h
   ·exact .inl h
   ·exact .inr h
  ·rcases List.mem_append.1 aa with aa | aa
   ·rcases bu c aa with h | h
    ·exact .inl h
    ·exact .inr ⟨h.1,by omega⟩
   ·rw [List.mem_singleton.1 aa];exact .inr ⟨rfl,by show (J:Int)<_; omega⟩
theorem SC (s:Source) (av:nU s):Tot (uD s) λr=>r.2.2=true->gi r.1/\mH r.1 r.2.1:=by
 unfold uD;refine .aq (t66 s av) λr ah=>Tot.bl (λ_=>.ag λh=>by cases h) (λh=>?_);have aN:=ah (by simpa using h);refine .aq (SI r.1 aN) λm hm=>.ag λh=>⟨aN,?_⟩;have h:m.2=0:=of_decide_eq_true h;rcases hm with hm | hm
 ·exact hm.2
 ·omega
structure Gg (g:bs) (m:List State) (cs:List Cell):Prop where
 rK:gi g
 adk:mH g m
 ce:Au g m.length cs
theorem Sx (s:Source) (av:nU s):Tot (s3 s) λr=>r.2.2.2=true->Gg r.1 r.2.1 r.2.2.1:=by
 unfold s3;refine .aq (SC s av) λr ah=>Tot.bl (λ_=>.ag λh=>by cases h) (λh=>?_);obtain ⟨aN,hm⟩:=ah (by simpa using h);exact .aq (SE r.1 aN hm) λsR NA=>.aq (SD r.1 aN hm sR NA.1 NA.2) λcs gS=>.ag λ_=>⟨aN,hm,gS⟩
def zB (g:bs) (p:Int):Int × Int:=match idx g.bd p with
 | some q=>match idx g.aZ q.Prec with
  | some t=>(t.Level,t.ff)
  | none=>(0,0)
 | none=>(0,0)
def dec (g:bs) (p t:Int):Int:=match idx g.aZ t with
 | some k=>if (zB g p).1=0\/k.Level=0 then 0 else if (zB g p).1<k.Level then 1 else if k.Level<(zB g p).1 then 2 else if k.ff=1 then 2 else if k.ff=2 then 1 else 3
 | none=>0
theorem TA (g:bs) (aN:gi g) (p:Int) (au:0<=p/\p<g.bd.length):CX g p=some (zB g p):=by
 obtain ⟨q,a7,hm⟩:=nA au.1 au.2;have av:=(aN.gq q hm).prec;unfold CX zB;have d1:decide (p<0)=false:=decide_eq_false (by omega);have d2:decide ((g.bd.length:Int)<=p)=false:=decide_eq_false (by omega);rw [d1,d2,a7];simp only [cond_false,Option.bind_some];by_cases h:q.Prec<0
 ·rw [decide_eq_true h,Jm (.inl h)]; rfl
 ·obtain ⟨t,ar,_⟩:=nA (l:=g.aZ) (i:=q.Prec) (by omega) av.2;rw [decide_eq_false h,ar]; rfl
theorem Ty (g:bs) (aN:gi g) (p t:Int) (au:0<=p/\p<g.bd.length) (ar:0<=t/\t<g.aZ.length):CP g p t=some (dec g p t):=by
 obtain ⟨k,hk,hm⟩:=nA ar.1 ar.2;unfold CP dec;rw [TA g aN p au,hk];have d1:decide (t<0)=false:=decide_eq_false (by omega);have d2:decide ((g.aZ.length:Int)<=t)=false:=decide_eq_false (by omega);rw [d1,d2];generalize zB g p=x;simp only [cond_false,Option.bind_some];by_cases h1:x.1=0
 ·simp [h1]
 ·by_cases af:k.Level=0
  ·simp [h1,af]
  ·rw [if_neg (by omega)];simp only [h1,af,decide_false,cond_false,Option.bind_some];by_cases aK:x.1<k.Level
   ·simp [aK]
   ·by_cases bu:k.Level<x.1
    ·simp [aK,bu]
    ·by_cases cu:k.ff=1
     ·simp [aK,bu,cu]
     ·by_cases dM:k.ff=2 <;> simp [aK,bu,cu,dM]
def sl (g:bs) (c:Cell):Act:=match c.bd with
 | []=>if c.lN=true then ⟨3,0⟩ else ⟨1,c.j4⟩
 | p::_=>if c.lN=true then ⟨3,0⟩ else if c.j4<0 then ⟨2,p⟩ else if dec g p c.Tok=2 then ⟨2,p⟩ else if dec g p c.Tok=3 then ⟨4,0⟩ else ⟨1,c.j4⟩
def yX (g:bs) (c:Cell):List e6:=match c.bd with
 | []=>[]
 | p::r=>r.map (λx=>(⟨c.State,c.Tok,p,x⟩:e6))++(if c.lN=true\/(0<=c.j4/\dec g p c.Tok=0) then [(⟨c.State,c.Tok,-1,p⟩:e6)] else [])
structure sh (g:bs) (n:Nat) (a:Act):Prop where
 k:0<=a.Kind/\a.Kind<=4
 gU:a.Kind=0->a.N=0
 mY:a.Kind=1->0<=a.N/\a.N<n
 q2:a.Kind=2->qH g a.N
 XN:a.Kind=3->a.N=0
 adl:a.Kind=4->a.N=0
theorem Ry {g:bs}{n:Nat}{c:Cell}(h:o7 g n c):sh g n (sl g c)/\(sl g c).Kind≠0:=by
 have BQ:=h.ZG;have aS:=h.f;have a3:sh g n ⟨3,0⟩:=⟨⟨by decide,by decide⟩,λh=>(by cases h),λh=>(by cases h),λh=>(by cases h),λ_=>rfl,λh=>by cases h⟩;have a4:sh g n ⟨4,0⟩:=⟨⟨by decide,by decide⟩,λh=>(by cases h),λh=>(by cases h),λh=>(by cases h),λ_=>rfl,λ_=>rfl⟩;have aB:0<=c.j4->sh g n ⟨1,c.j4⟩:=λaO=>⟨⟨by show (0:Int)<=1; decide,by show (1:Int)<=4; decide⟩,λh=>(by cases h),λ_=>⟨aO,aS.2⟩,λh=>(by cases h),λh=>(by cases h),λh=>by cases h⟩;have a2:∀ p∈c.bd,sh g n ⟨2,p⟩:=λp au=>⟨⟨by show (0:Int)<=2; decide,by show (2:Int)<=4; decide⟩,λh=>(by cases h),λh=>(by cases h),λ_=>h.q p au,λh=>(by cases h),λh=>by cases h⟩;unfold sl;unfold oe at BQ;cases cg:c.bd with
 | nil =>
  simp only;rw [cg] at BQ;by_cases h1:c.lN=true
  ·rw [if_pos h1]; exact ⟨a3,by decide⟩
  ·rw [if_neg h1];rw [if_neg h1] at BQ;refine ⟨aB ?_,by show (1:Int)≠0; decide⟩;by_cases af:0<=c.j4
   ·exact af
   ·rw [if_neg af] at BQ; simp at BQ
 | cons p r =>
  simp only;have au:=a2 p (by rw [cg]; simp);split
  ·exact ⟨a3,by decide⟩
  ·split
   ·exact ⟨au,by show (2:Int)≠0; decide⟩
   ·split
    ·exact ⟨au,by show (2:Int)≠0; decide⟩
    ·split
     ·exact ⟨a4,by decide⟩
     ·exact ⟨aB (by omega),by show (1:Int)≠0; decide⟩
theorem L_ {g:bs}(aN:gi g) {n:Nat}{c:Cell}(h:o7 g n c):(yX g c).length<=60:=by
 have ai:=h.len aN;unfold yX;cases cg:c.bd with
 | nil=>simp
 | cons p r =>
  rw [cg,List.length_cons] at ai;simp only [List.length_append,List.length_map];split
  ·simp; omega
  ·simp; omega
theorem Hf (g:bs) (aN:gi g) {n:Nat}(c:Cell) (h:o7 g n c):xO g c=some (sl g c,yX g c):=by
 have ai:=h.len aN
 suffices az:Tot (xO g c) λr=>r=(sl g c,yX g c) by
  obtain ⟨r,ah,e⟩:=az; rw [ah,e]
 unfold xO sl yX;cases cg:c.bd with
 | nil =>
  simp only;refine .aq (Ξ:=λl:List e6=>l=[]) ?_ λl ai=>?_
  ·refine Tot.loop (λs=>s=(([]:List e6),(1:Int))) (λ_=>0) rfl (by show 0<1000000000000000000; omega) λs az=>?_;subst az;exact .ag rfl
  ·subst ai;cases h1:c.lN
   ·exact .ag (by simp)
   ·exact .ag (by simp)
 | cons p r =>
  rw [cg,List.length_cons] at ai;simp only;have hp:idx (p::r) 0=some p:=rfl;refine .aq (Ξ:=λl:List e6=>l=r.map (λx=>(⟨c.State,c.Tok,p,x⟩:e6))) ?_ λl ai=>?_
  ·refine Tot.count (λs=>s.2) ((r.length:Int)+1) (λs=>∃ k:Nat,k<=r.length/\s.2=((k+1:Nat):Int)/\s.1=(r.take k).map (λx=>(⟨c.State,c.Tok,p,x⟩:e6))) ⟨0,Nat.zero_le _,rfl,rfl⟩ (by show (r.length:Int)+1 - 1<_; omega) λs az=>?_;obtain ⟨l,i⟩:=s;obtain ⟨k,hk,he,bb⟩:=az;simp only at he bb ⊢;subst he bb;rw [ew (k+1) (by omega),hp];refine Tot.ba (λaQ=>?_) (λdw=>.ag ?_)
   ·rw [List.length_cons] at aQ;have aQ:k<r.length:=by omega
    have cw:idx (p::r) ((k+1:Nat):Int)=some r[k]:=by
     simp only [idx,if_pos (show (0:Int)<=((k+1:Nat):Int) by omega),Int.toNat_natCast,List.getElem?_cons_succ];exact List.getElem?_eq_getElem aQ
    rw [cw];refine Tot.sm (Tot.sm (.aq (Ξ:=λ_=>True) (Tot.ap (by simp [lim]; omega) trivial) λ_ _=>.ag ⟨⟨k+1,by omega,rfl,?_⟩,by show ((k+1:Nat):Int)<((k+1+1:Nat):Int); omega,by show ((k+1+1:Nat):Int)<=(r.length:Int)+1; omega⟩));show _=(r.take (k+1)).map _;rw [jc aQ,List.map_append]; rfl
   ·rw [List.length_cons] at dw;rw [List.take_of_length_le (by omega)]; rfl
  ·subst ai;have au:=h.q p (by rw [cg]; simp);have Hh:=Ty g aN p c.Tok ⟨by have:=au.1; omega,au.2⟩ h.t;have dl:decide (((p::r).length:Int)=0)=false:=decide_eq_false (by simp; omega);simp only [hp,Hh,dl,cond_false,Option.bind_some];generalize sA:dec g p c.Tok=v;refine ⟨_,?_,rfl⟩;have Nc:db (r.map (λx=>(⟨c.State,c.Tok,p,x⟩:e6))) [(⟨c.State,c.Tok,(-1),p⟩:e6)]=some (r.map (λx=>(⟨c.State,c.Tok,p,x⟩:e6))++[⟨c.State,c.Tok,(-1),p⟩]):=by
    unfold db; rw [if_pos (by simp [lim]; omega)]
   cases h1:c.lN
   ·by_cases af:c.j4<0
    ·have aK:¬ (0<=c.j4):=by omega
     simp [af,aK]
    ·have aK:0<=c.j4:=by omega
     by_cases bu:v=0
     ·simp [af,aK,bu,Nc]
     ·by_cases cu:v=2
      ·simp [af,aK,cu]
      ·by_cases dM:v=3
       ·simp [af,aK,dM]
       ·simp [af,aK,bu,cu,dM]
   ·simp [Nc]
def rowOf (g:bs) (l:List Cell):List Act:=l.foldl (λrow c=>row.set c.Tok.toNat (sl g c)) (List.replicate g.aZ.length ⟨0,0⟩)
def ir (cs:List Cell) (q:Nat):List Cell:=cs.filter λc=>decide (c.State=(q:Int))
def go (m:List State) (q s:Int):Int:=(q7 m q s).getD (-1)
theorem go_eq {g:bs}{m:List State}(hm:mH g m) (q s:Int):q7 m q s=some (go m q s)/\GoTo m q s (go m q s):=by
 obtain ⟨r,ah,h⟩:=DR m q s hm.xt;unfold go;rw [ah];exact ⟨rfl,h⟩
theorem Pt (g:bs):∀ (l:List Cell),(rowOf g l).length=g.aZ.length:=λl=>by
 suffices h:∀ (l:List Cell) (r:List Act),(l.foldl (λrow c=>row.set c.Tok.toNat (sl g c)) r).length=r.length by
  unfold rowOf; rw [h]; simp
 intro l
 induction l with
 | nil=>intro r; rfl
 | cons c l aM=>intro r; rw [List.foldl_cons,aM,List.length_set]
theorem YS (g:bs) (l:List Cell) (c:Cell):rowOf g (l++[c])=(rowOf g l).set c.Tok.toNat (sl g c):=by
 unfold rowOf; rw [List.foldl_append]; rfl
theorem YP {g:bs}{n:Nat}:∀ {l:List Cell},(∀ c∈l,o7 g n c)->∀ a∈rowOf g l,sh g n a:=by
 intro l h
 suffices az:∀ (l:List Cell) (r:List Act),(∀ c∈l,o7 g n c)->(∀ a∈r,sh g n a)->∀ a∈l.foldl (λrow c=>row.set c.Tok.toNat (sl g c)) r,sh g n a by
  refine az l _ h λa aR=>?_;rw [List.eq_of_mem_replicate aR];exact ⟨⟨by decide,by decide⟩,λ_=>rfl,λh=>(by cases h),λh=>(by cases h),λh=>(by cases h),λh=>by cases h⟩
 intro l
 induction l with
 | nil=>intro r _ ah; exact ah
 | cons c l aM =>
  intro r ai ah;rw [List.foldl_cons];refine aM _ (λd aP=>ai d (by simp [aP])) λa aR=>?_;rcases List.mem_or_eq_of_mem_set aR with h | h
  ·exact ah a h
  ·rw [h]; exact (Ry (ai c (by simp))).1
def wR (g:bs) (m:List State) (q:Nat):List Int:=(List.range g.bX.length).map λa:Nat=>go m q (1000+(a:Int))
def lQ (g:bs) (l:List Cell):List e6:=l.flatMap (yX g)
theorem G7 {g:bs}(aN:gi g) {n:Nat}:∀ {l:List Cell},(∀ c∈l,o7 g n c)->(lQ g l).length<=60 * l.length
 | [],_=>by simp [lQ]
 | c::l,h=>by
  have h1:=L_ aN (h c (by simp));have af:=G7 aN (l:=l) λd aP=>h d (by simp [aP]);unfold lQ at af ⊢;rw [List.flatMap_cons,List.length_append,List.length_cons];omega
theorem Qh {α:Type}{l:List α}{k:Nat}(h:k<l.length) (p:α->Bool):(l.take (k+1)).filter p=(l.take k).filter p++(if p l[k] then [l[k]] else []):=by
 rw [jc h,List.filter_append];congr 1;rw [List.filter_cons]
 split <;> simp
structure Gj (g:bs) (m:List State) (cs:List Cell) (d:iE):Prop where
 a:d.cM=(List.range m.length).map λq=>rowOf g (ir cs q)
 o:d.f_=(List.range m.length).map λq=>wR g m q
theorem tI (g:bs) (m:List State) (cs:List Cell) (dX:Gg g m cs):Tot (zR g m cs) λr=>Gj g m cs r.1/\r.2=(List.range m.length).flatMap λq=>lQ g (ir cs q):=by
 obtain ⟨aN,hm,aa⟩:=dX;have ar:=aN.jZ;have aA:=aN.dk;have vl:=hm.mY;have Ie:=aa.n;unfold zR;refine .aq (Ξ:=λr:List (List Act) × List (List Int) × List e6=>r.1=(List.range m.length).map (λq=>rowOf g (ir cs q))/\r.2.1=(List.range m.length).map (λq=>wR g m q)/\r.2.2=(List.range m.length).flatMap λq=>lQ g (ir cs q)) ?_ λr ah=>.ag ⟨⟨ah.1,ah.2.1⟩,ah.2.2⟩;have w5:∀ q,(lQ g (ir cs q)).length<=360000:=λq=>by
  have h1:=G7 aN (l:=ir cs q) λc p'=>aa.ok c ((List.mem_filter.1 p').1);have af:=List.length_filter_le (λc:Cell=>decide (c.State=(q:Int))) cs;unfold ir at h1 ⊢;omega
 have VK:∀ k,((List.range k).flatMap λq=>lQ g (ir cs q)).length<=360000 * k:=λk=>by
  induction k with
  | zero=>simp
  | succ k aM =>
   rw [List.range_succ,List.flatMap_append,List.length_append];have:=w5 k;simp only [List.flatMap_cons,List.flatMap_nil,List.append_nil];omega
 refine Tot.upto (λs=>s.2.2.2) m.length (λk s=>s.1=(List.range k).map (λq=>rowOf g (ir cs q))/\s.2.1=(List.range k).map (λq=>wR g m q)/\s.2.2.1=(List.range k).flatMap λq=>lQ g (ir cs q)) rfl (by omega) ⟨rfl,rfl,rfl⟩ λk s hk he bb=>?_;obtain ⟨A,G,C,i⟩:=s;obtain ⟨h1,af,aK⟩:=bb;simp only at he h1 af aK ⊢;subst he h1 af aK;rw [ew k (by omega)];refine Tot.ba (λaQ=>?_) (λdw=>.ag ?_)
 ·have aQ:k<m.length:=by omega
  refine .aq (Ξ:=λr=>r=List.replicate g.aZ.length (⟨0,0⟩:Act)) (Tot.mk (by simp [lim]; omega) (by simp)) λtv fW=>?_;subst fW;have acL:=VK k;refine .aq (Ξ:=λr:List e6 × List Act=>r.1=(List.range k).flatMap (λq=>lQ g (ir cs q))++lQ g (ir cs k)/\r.2=rowOf g (ir cs k)) ?_ λr ah=>?_
  ·refine Tot.upto (λs=>s.2.2) cs.length (λJ s=>s.1=(List.range k).flatMap (λq=>lQ g (ir cs q))++lQ g (ir (cs.take J) k)/\s.2.1=rowOf g (ir (cs.take J) k)) rfl (by omega) ⟨by simp [ir,lQ],by simp [ir,rowOf]⟩ λJ s aj he bb=>?_;obtain ⟨C,R,i⟩:=s;obtain ⟨h1,af⟩:=bb;simp only at he h1 af ⊢;subst he h1 af;rw [ew J (by omega)];refine Tot.ba (λga=>?_) (λdw=>.ag ?_)
   ·have ga:J<cs.length:=by omega
    have w2:=aa.ok _ (List.getElem_mem ga);have w6:=Qh ga (λc:Cell=>decide (c.State=(k:Int)));have ada:(lQ g (ir (cs.take J) k)).length<=360000:=by
     have h1:=G7 aN (l:=ir (cs.take J) k) λc p'=>aa.ok c (List.mem_of_mem_take ((List.mem_filter.1 p').1));have af:=List.length_filter_le (λc:Cell=>decide (c.State=(k:Int))) (cs.take J);rw [List.length_take] at af;unfold ir at h1 ⊢;omega
    rw [dT ga];generalize cs[J]=c at *;simp only [Option.bind_some];refine .aq (Ξ:=λr:List e6 × List Act=>r.1=(List.range k).flatMap (λq=>lQ g (ir cs q))++lQ g (ir (cs.take (J+1)) k)/\r.2=rowOf g (ir (cs.take (J+1)) k)) ?_ λr ah=>.ag ⟨ga,rfl,ah⟩;refine .aq (Ξ:=λr:List e6 × List Act=>r.1=(List.range k).flatMap (λq=>lQ g (ir cs q))++lQ g (ir (cs.take (J+1)) k)/\r.2=rowOf g (ir (cs.take (J+1)) k)) (Tot.ba (λaz=>?_) (λaz=>.ag ?_)) λr ah=>.ag ah
    ·rw [decide_eq_true az,if_pos rfl] at w6;rw [Hf g aN c w2];simp only [Option.bind_some];have n5:=Pt g (ir (cs.take J) k);obtain ⟨a0,wV,_⟩:=nA (l:=rowOf g (ir (cs.take J) k)) (i:=c.Tok) w2.t.1 (by rw [n5]; exact w2.t.2);rw [wV];have hJ:=L_ aN w2;refine Tot.sm (.aq (Ξ:=λ_=>True) (Tot.ap (by rw [List.length_append]; simp only [lim]; omega) trivial) λ_ _=>.ag ⟨?_,?_⟩)
     ·show _=_++lQ g ((cs.take (J+1)).filter _);rw [w6];unfold lQ;rw [List.flatMap_append,List.append_assoc];simp [ir]
     ·show _=rowOf g ((cs.take (J+1)).filter _);rw [w6,YS]; rfl
    ·have:(if (decide (c.State=(k:Int)))=true then [c] else [])=[]:=by simp [az]
     rw [this,List.append_nil] at w6;unfold ir;rw [w6];exact ⟨rfl,rfl⟩
   ·have e:cs.take J=cs:=List.take_of_length_le (by omega);rw [e];exact ⟨rfl,rfl⟩
  ·obtain ⟨C,R⟩:=r;obtain ⟨h1,af⟩:=ah;simp only at h1 af ⊢;subst h1 af;refine .aq (Ξ:=λr=>r=List.replicate g.bX.length (0:Int)) (Tot.mk (by simp [lim]; omega) (by simp)) λGn Ux=>?_;subst Ux;refine .aq (Ξ:=λr:List Int=>r=wR g m k) ?_ λr ah=>?_
   ·refine Tot.upto (λs=>s.2) g.bX.length (λJ s=>s.1.length=g.bX.length/\∀ i:Nat,i<J->s.1[i]?=some (go m k (1000+(i:Int)))) rfl (by omega) ⟨by simp,λi hi=>absurd hi (Nat.not_lt_zero _)⟩ λJ s aj he bb=>?_;obtain ⟨L,i⟩:=s;obtain ⟨h1,af⟩:=bb;simp only at he h1 af ⊢;subst he;rw [ew J (by omega)];refine Tot.ba (λga=>?_) (λdw=>.ag ?_)
    ·have ga:J<L.length:=by omega
     have hw:aH (1000+(J:Int))=1000+(J:Int):=by rw [ch]; omega
     rw [hw,(go_eq hm k _).1,dT ga];refine Tot.sm (Tot.sm (.ag ⟨by omega,rfl,?_,λi hi=>?_⟩))
     ·show (L.set _ _).length=_;rw [List.length_set]; exact h1
     ·show (L.set (J:Int).toNat _)[i]?=_;rw [Int.toNat_natCast,s' ga];by_cases e:i=J
      ·subst e; rw [if_pos rfl]
      ·rw [if_neg e]; exact af i (by omega)
    ·show L=wR g m k;refine List.ext_getElem? λi=>?_;unfold wR;by_cases hi:i<g.bX.length
     ·rw [af i (by omega),List.getElem?_map,List.getElem?_range hi]; rfl
     ·rw [List.getElem?_eq_none (by omega),List.getElem?_eq_none (by simp; omega)]
   ·subst ah;refine .aq (Ξ:=λ_=>True) (Tot.ap (by simp [lim]; omega) trivial) λ_ _=>.aq (Ξ:=λ_=>True) (Tot.ap (by simp [lim]; omega) trivial) λ_ _=>.ag ⟨aQ,rfl,?_,?_,?_⟩
    ·show _=(List.range (k+1)).map _;rw [List.range_succ,List.map_append]; rfl
    ·show _=(List.range (k+1)).map _;rw [List.range_succ,List.map_append]; rfl
    ·show _=(List.range (k+1)).flatMap _;rw [List.range_succ,List.flatMap_append]; simp
 ·have:k=m.length:=by omega
  subst this;exact ⟨rfl,rfl,rfl⟩
structure ry (g:bs) (n:Nat) (d:iE):Prop where
 gU:0<n/\n<=150
 rK:gi g
 a:d.cM.length=n
 j8:∀ r∈d.cM,r.length=g.aZ.length/\∀ a∈r,sh g n a
 o:d.f_.length=n
 Cu:∀ r∈d.f_,r.length=g.bX.length/\∀ v∈r,-1<=v/\v<n
theorem Gj.aU {g:bs}{m:List State}{cs:List Cell}{d:iE}(h:Gj g m cs d) (dX:Gg g m cs):ry g m.length d:=by
 obtain ⟨aN,hm,aa⟩:=dX;refine ⟨⟨hm.gU,hm.mY⟩,aN,by rw [h.a]; simp,λr ah=>?_,by rw [h.o]; simp,λr ah=>?_⟩
 ·rw [h.a] at ah;obtain ⟨q,_,rfl⟩:=List.mem_map.1 ah;exact ⟨Pt g _,YP λc p'=>aa.ok c (List.mem_filter.1 p').1⟩
 ·rw [h.o] at ah;obtain ⟨q,_,rfl⟩:=List.mem_map.1 ah;refine ⟨by simp [wR],λv hv=>?_⟩;obtain ⟨a,_,rfl⟩:=List.mem_map.1 hv;exact (go_eq hm q _).2.aU hm
theorem YE {g:bs}(aN:gi g) {n:Nat}{cs:List Cell}(aa:Au g n cs) {f:Cell->Option Int}(aS:∀ c:Cell,c.bd.length<=1000->f c=some (oe c:Int)):Tot (b0 (R:=Int) (λ(s1:Int × Int) =>
(bif decide (s1.2<(cs.length:Int)) then
((idx cs s1.2).bind λbN =>
(f bN).bind λbM =>
((bif decide (1<bM) then
some (aH (s1.1+1))
else
some s1.1)).bind λfm =>
some fm).bind λqj =>
some (.inl (qj,aH (s1.2+1)))
else
some (.inr s1.1))) (0,0)) λr=>r=((cs.filter λc=>decide (1<oe c)).length:Int):=by
 have Ie:=aa.n;refine Tot.upto (λs=>s.2) cs.length (λk s=>s.1=(((cs.take k).filter λc=>decide (1<oe c)).length:Int)) rfl (by omega) rfl λk s hk he bb=>?_;obtain ⟨z,i⟩:=s;simp only at he bb ⊢;subst he bb;rw [ew k (by omega)];refine Tot.ba (λaQ=>?_) (λdw=>.ag ?_)
 ·have aQ:k<cs.length:=by omega
  have Vv:=aa.ok _ (List.getElem_mem aQ);have w6:=Qh aQ (λc:Cell=>decide (1<oe c));have w5:=List.length_filter_le (λc:Cell=>decide (1<oe c)) (cs.take k);rw [List.length_take] at w5;rw [dT aQ];generalize cs[k]=c at *;have hJ:=Vv.len aN;rw [show (some c).bind=λ(f:Cell->Option Int)=>f c from rfl]
  simp only [aS c (by omega),Option.bind_some];refine .aq (Ξ:=λz:Int=>z=(((cs.take (k+1)).filter λc=>decide (1<oe c)).length:Int)) ?_ λr ah=>.ag ⟨aQ,rfl,ah⟩;rw [w6];refine .aq (Ξ:=λz:Int=>z=(((cs.take k).filter (λc=>decide (1<oe c))++if decide (1<oe c)=true then [c] else []).length:Int)) (Tot.ba (λh=>.ag ?_) (λh=>.ag ?_)) λr ah=>.ag ah
  ·have:1<oe c:=by omega
   rw [ew _ (by omega)];simp [this]
  ·have:¬ 1<oe c:=by omega
   simp [this]
 ·have e:cs.take k=cs:=List.take_of_length_le (by omega);rw [e]; rfl
theorem AT {g:bs}(aN:gi g) {n:Nat}{cs:List Cell}(aa:Au g n cs):Tot (CD cs) λr=>r=((cs.filter λc=>decide (1<oe c)).length:Int):=by
 unfold CD;exact .aq (YE aN aa Mq) λr ah=>.ag ah
theorem AR (s:Source) (av:nU s):Tot (s0 s) λr=>r.2.2.2=true->∃ n,ry r.1 n r.2.1:=by
 unfold s0;refine .aq (Sx s av) λr ah=>Tot.bl (λ_=>.ag λh=>by cases h) (λh=>?_);have dX:=ah (by simpa using h);exact .aq (tI _ _ _ dX) λd aP=>.aq (AT dX.rK dX.ce) λ_ _=>.ag λ_=>⟨_,aP.1.aU dX⟩
open Go Go.Own
theorem ZU (a:Act):Tot (s4 a) λ_=>True:=by
 unfold s4
 repeat' first | apply Tot.bi | refine Tot.bl (λ_=>?_) (λ_=>?_) | exact Tot.ag trivial | apply Tot.ag
def tr (l:List Int) (v:Int):Prop:=(l=[]/\v=-1)\/(v∈l/\∀ x∈l,l.count x<l.count v\/(l.count x=l.count v/\v<=x))
theorem tr.uniq {l:List Int}{v w:Int}(h:tr l v) (aJ:tr l w):v=w:=by
 rcases h with ⟨h1,af⟩ | ⟨h1,af⟩ <;> rcases aJ with ⟨aK,bu⟩ | ⟨aK,bu⟩
 ·omega
 ·subst h1; cases aK
 ·subst aK; cases h1
 ·have a:=af w aK;have b:=bu v h1;omega
theorem yZ (l:List Int) (y x:Int):(l++[y]).count x=l.count x+(if y=x then 1 else 0):=by
 rw [List.count_append];by_cases e:y=x
 ·subst e; simp
 ·rw [if_neg e,List.count_eq_zero.2 λhm=>e (List.mem_singleton.1 hm).symm]
theorem Tm {l:List Int}{x:Int}(h:x∈l):0<l.count x:=List.count_pos_iff.2 h
theorem tr.snoc {l:List Int}{b y:Int}(h:tr l b) (aO:∀ x∈l,0<=x) (al:0<=y):tr (l++[y]) (if b<0\/(l++[y]).count b<(l++[y]).count y\/((l++[y]).count y=(l++[y]).count b/\y<b) then y else b):=by
 refine .inr ?_;rcases h with ⟨rfl,rfl⟩ | ⟨av,hm⟩
 ·rw [if_pos (.inl (by decide))];refine ⟨by simp,λx j=>?_⟩;rw [List.nil_append,List.mem_singleton] at j;subst j; exact .inr ⟨rfl,Int.le_refl _⟩
 ·have Ei:=aO b av;have key:∀ x∈l++[y],x∈l\/x=y:=λx j=>by simpa using j
  have wK:(l++[y]).count y=l.count y+1:=by rw [yZ,if_pos rfl]
  by_cases t_:b=y
  ·subst t_;rw [if_neg (by omega)];refine ⟨by simp,λx j=>?_⟩;rw [wK];by_cases e:x=b
   ·subst e; exact .inr ⟨wK,Int.le_refl _⟩
   ·rw [yZ,if_neg (λh=>e h.symm)];rcases key x j with j | j
    ·have:=hm x j; omega
    ·exact absurd j e
  ·have tK:(l++[y]).count b=l.count b:=by rw [yZ,if_neg (λh=>t_ h.symm)]; rfl
   by_cases aa:b<0\/(l++[y]).count b<(l++[y]).count y\/((l++[y]).count y=(l++[y]).count b/\y<b)
   ·rw [if_pos aa];rw [tK,wK] at aa;refine ⟨by simp,λx j=>?_⟩;rw [wK];by_cases e:x=y
    ·subst e; exact .inr ⟨wK,Int.le_refl _⟩
    ·rw [yZ,if_neg (λh=>e h.symm)];rcases key x j with j | j
     ·have:=hm x j; omega
     ·exact absurd j e
   ·rw [if_neg aa];rw [tK,wK] at aa;refine ⟨by simp [av],λx j=>?_⟩;rw [tK];by_cases e:x=y
    ·subst e; rw [wK]; omega
    ·rw [yZ,if_neg (λh=>e h.symm)];rcases key x j with j | j
     ·have:=hm x j; omega
     ·exact absurd j e
theorem L4 (l:List Int) (ai:l.length<=100000) (aO:∀ x∈l,0<=x/\x<=1000000):Tot (uE l) (tr l):=by
 unfold uE;refine .aq (Ξ:=λr:List Int=>eT hU r/\r.length<=l.length/\∀ x,x∈r↔x∈l) ?_ λD iK=>?_
 ·refine Tot.upto (λs=>s.2) l.length (λk s=>eT hU s.1/\s.1.length<=k/\∀ x,x∈s.1↔x∈l.take k) rfl (by omega) ⟨.nil,Nat.le_refl 0,λx=>by simp⟩ λk s hk he bb=>?_;obtain ⟨r,i⟩:=s;obtain ⟨h1,af,aK⟩:=bb;simp only at he h1 af aK ⊢;subst he;rw [ew k (by omega)];refine Tot.ba (λaQ=>?_) (λdw=>.ag ?_)
  ·have aQ:k<l.length:=by omega
   have e4:=jc aQ;rw [dT aQ];generalize l[k]=y at *;refine Tot.sm (.aq (AW r y h1 (by omega)) λcW dP=>.ag ⟨aQ,rfl,dP.1,by have:=dP.2.1; show cW.length<=k+1; omega,λx=>?_⟩);rw [e4,List.mem_append,List.mem_singleton,<- aK];exact dP.2.2 x
  ·have e:l.take k=l:=List.take_of_length_le (by omega);rw [e] at aK;exact ⟨h1,by omega,aK⟩
 ·obtain ⟨Ur,acu,Ee⟩:=iK;refine .aq (Ξ:=λr:Int=>tr l r) ?_ λr ah=>.ag ah;refine Tot.upto (λs=>s.2.2) D.length (λk s=>(k=0/\s.1=-1/\s.2.1=0)\/(s.1∈D.take k/\s.2.1=(l.count s.1:Int)/\∀ x∈D.take k,l.count x<l.count s.1\/(l.count x=l.count s.1/\s.1<=x))) rfl (by omega) (.inl ⟨rfl,rfl,rfl⟩) λk s hk he bb=>?_;obtain ⟨b,n,i⟩:=s;simp only at he bb ⊢;subst he;rw [ew k (by omega)];refine Tot.ba (λaQ=>?_) (λdw=>.ag ?_)
  ·have aQ:k<D.length:=by omega
   have e4:=jc aQ;have EJ:=List.getElem_mem aQ;have uk:∀ x∈D.take k,x<D[k]:=λx j=>by
    obtain ⟨J,aj,rfl⟩:=List.mem_iff_getElem.1 j;rw [List.length_take] at aj;rw [List.getElem_take];exact JN.1 (GA Ur (by omega) aQ (by omega))
   rw [dT aQ];generalize D[k]=y at *;have EI:=(Ee y).1 EJ;refine .aq (Ξ:=λr:Int × Int=>r.1∈D.take (k+1)/\r.2=(l.count r.1:Int)/\∀ x∈D.take (k+1),l.count x<l.count r.1\/(l.count x=l.count r.1/\r.1<=x)) ?_ λr ah=>.ag ⟨aQ,rfl,.inr ah⟩;refine .aq (Ξ:=λz:Int=>z=(l.count y:Int)) ?_ λz aW=>?_
   ·refine Tot.upto (λs=>s.2) l.length (λJ s=>s.1=((l.take J).count y:Int)) rfl (by omega) (by simp) λJ s aj he bb=>?_;obtain ⟨z,i⟩:=s;simp only at he bb ⊢;subst he bb;rw [ew J (by omega)];refine Tot.ba (λga=>?_) (λdw=>.ag ?_)
    ·have ga:J<l.length:=by omega
     have ui:=jc ga;have hJ:=List.count_le_length (a:=y) (l:=l.take J);rw [List.length_take] at hJ;rw [dT ga];generalize l[J]=x at *;simp only [Option.bind_some];refine .aq (Ξ:=λz:Int=>z=((l.take (J+1)).count y:Int)) ?_ λz aW=>.ag ⟨ga,rfl,aW⟩;rw [ui,yZ];refine .aq (Ξ:=λz:Int=>z=(((l.take J).count y+if x=y then 1 else 0:Nat):Int)) (Tot.ba (λe=>.ag ?_) (λe=>.ag ?_)) λz aW=>.ag aW
     ·rw [if_pos e,ew _ (by omega)]
     ·rw [if_neg e]; rfl
    ·have e:l.take J=l:=List.take_of_length_le (by omega);rw [e]; rfl
   ·subst aW;refine .aq (Ξ:=λr:Int × Int=>r.1∈D.take (k+1)/\r.2=(l.count r.1:Int)/\∀ x∈D.take (k+1),l.count x<l.count r.1\/(l.count x=l.count r.1/\r.1<=x)) ?_ λr ah=>.ag ah;have acJ:=Tm EI;rw [e4];have key:∀ x∈D.take k++[y],x∈D.take k\/x=y:=λx j=>by simpa using j
    refine Tot.ba (λaa=>Tot.sm (.ag ⟨by simp,rfl,λx j=>?_⟩)) (λaa=>?_)
    ·rcases key x j with j | rfl
     ·rcases bb with ⟨rfl,_,_⟩ | ⟨h1,af,aK⟩
      ·simp at j
      ·have:=aK x j; show l.count x<l.count y\/_; omega
     ·exact .inr ⟨rfl,Int.le_refl _⟩
    ·rcases bb with ⟨rfl,_,rfl⟩ | ⟨h1,af,aK⟩
     ·omega
     ·refine .ag ⟨by simp [h1],af,λx j=>?_⟩;rcases key x j with j | rfl
      ·exact aK x j
      ·have:=uk b h1;have aa:¬ ((n:Int)<(l.count x:Int)):=aa;have af:n=(l.count b:Int):=af;show l.count x<l.count b\/(l.count x=l.count b/\b<=x);omega
  ·have e:D.take k=D:=List.take_of_length_le (by omega);rw [e] at bb;rcases bb with ⟨rfl,rfl,_⟩ | ⟨h1,af,aK⟩
   ·have:D=[]:=List.eq_nil_of_length_eq_zero (by omega);refine .inl ⟨?_,rfl⟩;refine List.eq_nil_iff_forall_not_mem.2 λx j=>?_;have:=(Ee x).2 j
    subst_vars
    cases this
   ·exact .inr ⟨(Ee b).1 h1,λx j=>aK x ((Ee x).2 j)⟩
open Go Go.Own Go.Lib
structure Az (g:bs):Prop where
 code:∀ p∈g.bd,p.Code.size<=1000
 args:∀ p∈g.bd,∀ s∈p.rv,nV g.aZ.length (g.bX.length - 1) s
 ZQ:∀ t∈g.aZ,t.Tag.size<=1000
 OM:∀ t∈g.bX,t.Tag.size<=1000
theorem AV (g:bs) (aN:gi g) (j:Az g) (s:Int) (az:nV g.aZ.length (g.bX.length - 1) s):Tot (CL g s) λr=>r.size<=1000:=by
 unfold CL;have h1:=aN.jZ;have af:=aN.dk;have az:=az;unfold nV at az;refine Tot.ba (λh=>?_) (λh=>?_)
 ·have e:aH (s - 1000)=s - 1000:=by rw [ch]; omega
  rw [e];exact .bi (.gf (by omega) (by omega) λy _ al=>.ag (j.OM y al))
 ·exact .bi (.gf (by omega) (by omega) λy _ al=>.ag (j.ZQ y al))
theorem AU (g:bs) (aN:gi g) (j:Az g) (k:Int):Tot (CE g k) λr=>r.1.size<=3000000:=by
  unfold CE;have h1:=aN.jZ;have af:=aN.dk;have aK:=aN.hV;refine .aq (Ξ:=λc=>c=false->0<=k/\k<g.bd.length) (Tot.ba (λ_=>.ag λh=>by cases h) (λa=>Tot.ba (λ_=>.ag λh=>by cases h) (λb=>.bi (.gf (by omega) (by omega) λy _ al=>.ag λ_=>⟨by omega,by omega⟩)))) λc aa=>Tot.bl (λ_=>.ag (Nat.zero_le _)) (λaS=>?_);obtain ⟨k0,vH⟩:=aa aS;refine .bi (.gf k0 vH λp _ au=>?_);have Vy:=j.code p au;have oD:=j.args p au;have zm:=aN.gq p au;refine .aq (SF p.Code Vy) λbM k4=>Tot.kE (λ_=>.ag (Nat.zero_le _)) (λhe=>?_);obtain ⟨ai,Wh⟩:=k4 he;refine .aq (Ξ:=gN (λr:ByteArray=>r.size<=3000000) (λr:ByteArray × Int × ByteArray=>r.1.size<=3000000)) ?_ λx j=>by
    rcases x with x | x
    · exact .ag j
    · exact .ag j
  refine Tot.upto (λz=>z.2) bM.1.length (λJ z=>z.1.size<=J * 1100) rfl (by omega) (Nat.zero_le _) λJ z aj he bb=>?_;obtain ⟨t,i⟩:=z;simp only at he bb ⊢;subst he;rw [ew J (by omega)];refine Tot.ba (λaQ=>?_) (λdw=>.ag (by show t.size<=_; omega));have aQ:J<bM.1.length:=by omega
  rw [dT aQ];have a7:=Wh _ (List.getElem_mem aQ);generalize bM.1[J]=q at *;obtain ⟨adv,adu,C3⟩:=a7;refine Tot.sm (Tot.sm (Tot.ba (λ_=>?_) (λ_=>Tot.ba (λ_=>?_) (λ_=>?_))))
  · refine Tot.sm (.bi (.cat (by omega) (.ag ⟨aQ,rfl,?_⟩)))
    show (t++q.Text).size<=_;rw [ByteArray.size_append]; omega
  · have z5:((⟨#[121,121,86,65,76]⟩:ByteArray)).size=5:=rfl
    have bD:((⟨#[46]⟩:ByteArray)).size=1:=rfl;refine .bi (.cat (by omega) (.aq (Ξ:=λb:ByteArray=>b.size<=1000) (Tot.ba (λ_=>.bi (.gf zm.left.1 (by have:=zm.left.2; omega) λy _ al=>.ag (j.OM y al))) (λ_=>.ag (by omega))) λb av=>?_));refine .aq (Ξ:=λr:ByteArray=>r.size<=t.size+1010) (Tot.kE (λ_=>.bi (.cat (by rw [ByteArray.size_append]; omega) (.bi (.cat (by simp only [ByteArray.size_append]; omega) (.ag (by simp only [ByteArray.size_append]; omega)))))) (λ_=>.ag (by rw [ByteArray.size_append]; omega))) λr ah=>.ag ⟨aQ,rfl,?_⟩;show r.size<=_;omega
  · refine Tot.sm (.aq (Ξ:=λc=>c=false->1<=q.N/\q.N<=p.rv.length) (Tot.ba (λ_=>.ag λh=>by cases h) (λa=>.ag λh=>by have:=of_decide_eq_false h; omega)) λc aa=>Tot.bl (λ_=>?_) (λaS=>?_))
    · rw [k2 _ C3]
      have:=EO _ C3;have bD:((⟨#[36]⟩:ByteArray)).size=1:=rfl;refine Tot.sm (.bi (.cat (by have:(⟨(nC q.N).toArray⟩:ByteArray).size=(nC q.N).length:=(by rw [pY]); omega) (.ag (Nat.zero_le _))))
    · obtain ⟨gU,mY⟩:=aa aS
      have z9:((⟨#[121,121,68,111,108,108,97,114,91]⟩:ByteArray)).size=9:=rfl;have bD:((⟨#[46]⟩:ByteArray)).size=1:=rfl;have z2:((⟨#[93]⟩:ByteArray)).size=1:=rfl;have hi:=EO _ C3;have az:(⟨(nC q.N).toArray⟩:ByteArray).size=(nC q.N).length:=by rw [pY]
      rw [k2 _ C3];refine .bi (.cat (by omega) (Tot.sm (.bi (.cat (by rw [ByteArray.size_append]; omega) (.bi (.cat (by simp only [ByteArray.size_append]; omega) (.aq (Ξ:=λb:ByteArray=>b.size<=1000) (Tot.ba (λ_=>?_) (λ_=>.ag (by omega))) λb av=>?_)))))))
      · unfold i64 at C3
        have e:aH (q.N - 1)=q.N - 1:=by rw [ch]; omega
        rw [e];exact .bi (.gf (by omega) (by omega) λy _ al=>.aq (AV g aN j y (oD y al)) λr ah=>.ag ah)
      · refine .aq (Ξ:=λr:ByteArray=>r.size<=t.size+1040) (Tot.kE (λ_=>.bi (.cat (by simp only [ByteArray.size_append]; omega) (.bi (.cat (by simp only [ByteArray.size_append]; omega) (.ag (by simp only [ByteArray.size_append]; omega)))))) (λ_=>.ag (by simp only [ByteArray.size_append]; omega))) λr ah=>.ag ⟨aQ,rfl,?_⟩
        show r.size<=_;omega
theorem p0 (g:bs) (aN:gi g) (j:Az g):Tot (CB g) λr=>r.2.1=0->r.1.length<=60/\∀ t∈r.1,t.size<=3000000:=by
 unfold CB;have aK:=aN.hV;refine .aq (Ξ:=gN (λr:List ByteArray=>r.length<=60/\∀ t∈r,t.size<=3000000) (λr:List ByteArray × Int × Int × ByteArray=>r.2.1≠0)) ?_ λx j=>by
  rcases x with x | x
  ·exact .ag λ_=>j
  ·exact .ag λh=>absurd h j
 refine Tot.upto (λz=>z.2) g.bd.length (λk z=>z.1.length=k/\∀ t∈z.1,t.size<=3000000) rfl (by omega) ⟨rfl,λt h=>by cases h⟩ λk z hk he bb=>?_;obtain ⟨l,i⟩:=z;obtain ⟨h1,af⟩:=bb;simp only at he h1 af ⊢;subst he;rw [ew k (by omega)];refine Tot.ba (λaQ=>?_) (λdw=>.ag ⟨by show l.length<=60; omega,af⟩);have aQ:k<g.bd.length:=by omega
 refine .aq (AU g aN j k) λr ah=>Tot.kE (λcz=>?_) (λ_=>?_)
 ·rw [dT aQ];exact Tot.sm (.ag cz)
 ·refine .bi (.ap (by simp [lim]; omega) (.ag ⟨aQ,rfl,?_,λt ar=>?_⟩))
  ·show (l++[r.1]).length=k+1;simp; omega
  ·rcases List.mem_append.1 ar with ar | ar
   ·exact af t ar
   ·rw [List.mem_singleton.1 ar]; exact ah
structure fQ (m:ek):Prop where
 t:∀ x∈m.aC.aZ,x.Tag.size<=1000
 y:∀ x∈m.cv,x.Tag.size<=1000
theorem fQ.fail {m bh:ek}(h:fQ m) (az:qI m bh/\bh.cL≠0):fQ bh:=⟨by rw [az.1.g]; exact h.t,by rw [az.1.ty]; exact h.y⟩
theorem Dd {l:List Tok}{k:Nat}{t:Tok}(h:∀ x∈l,x.Tag.size<=1000) (ar:t.Tag.size<=1000):∀ x∈l.set k t,x.Tag.size<=1000:=λx j=>by
 rcases List.mem_or_eq_of_mem_set j with e | e
 ·exact h x e
 ·rw [e]; exact ar
theorem Pl (m:ek) (x:Sym) (hm:fQ m):Par (sZ m x) λr=>fQ r.2:=by
 unfold sZ;refine .aq (Ξ:=λ_=>True) (λ_ _=>trivial) λr _=>Par.ba (λ_=>.ag hm) (λ_=>?_);refine .aq (Ξ:=λJ:ek × Int=>fQ J.1) ?_ λJ aj=>Par.ap λ_=>Par.ap λ_=>.ag ⟨λt ar=>?_,aj.y⟩
 ·refine Par.bl (λ_=>?_) (λ_=>.ag hm);exact .aq (Ξ:=λ_=>True) (λ_ _=>trivial) λ_ _=>.aq (Ξ:=λ_=>True) (λ_ _=>trivial) λ_ _=>.aq (Ξ:=fQ) (Par.ba (λ_=>.aq (l3 m _ _) λbh h=>.ag (hm.fail h)) (λ_=>.ag hm)) λJ aj=>.ag aj
 ·rcases List.mem_append.1 ar with ar | ar
  ·exact aj.t t ar
  ·rw [List.mem_singleton.1 ar]; exact Nat.zero_le _
theorem Pm (m:ek) (x:Sym) (hm:fQ m):Par (q6 m x) λr=>fQ r.2:=by
 unfold q6;refine Par.bl (λ_=>.aq (Pl m x hm) λr ah=>.ag ah) (λ_=>.aq (Ξ:=λ_=>True) (λ_ _=>trivial) λk _=>Par.bl (λ_=>.ag hm) (λ_=>.aq (Ξ:=λ_=>True) (λ_ _=>trivial) λt _=>Par.bl (λ_=>.aq (l3 m _ _) λbh h=>.ag (hm.fail h)) (λ_=>.ag hm)))
theorem YA (m:ek) (d:Decl) (x:Sym) (hm:fQ m) (aP:d.Tag.size<=1000):Par (sW m d x) fQ:=by
 unfold sW;refine Par.ba (λ_=>?_) (λ_=>?_)
 ·refine .aq (Ξ:=λ_=>True) (λ_ _=>trivial) λk _=>.aq (Ξ:=fQ) ?_ λJ aj=>.ag aj;refine Par.ba (λ_=>Par.ap λ_=>.ag ⟨hm.t,λy al=>?_⟩) (λ_=>.go λy _=>.aq (Ξ:=fQ) (Par.kE (λ_=>.aq (l3 m _ _) λbh h=>.ag (hm.fail h)) (λ_=>.ag hm)) λJ aj=>.ag aj);rcases List.mem_append.1 al with al | al
  ·exact hm.y y al
  ·rw [List.mem_singleton.1 al]; exact aP
 ·refine .aq (Pl m x hm) λr ah=>.go λy al=>.aq (Ξ:=fQ) ?_ λet jk=>?_
  ·refine Par.kE (λ_=>?_) (λ_=>.ag ah);refine .aq (Ξ:=fQ) ?_ λc3 oC=>.go λz aW=>.ag ⟨Dd (Dd oC.t (oC.t z (qi aW))) (oC.t z (qi aW)),oC.y⟩;exact Par.ba (λ_=>.aq (l3 r.2 _ _) λbh h=>.ag ⟨ah.t,(ah.fail h).y⟩) (λ_=>.ag ah)
  ·refine .go λz aW=>.aq (Ξ:=fQ) ?_ λeS p6=>?_
   ·refine Par.ba (λ_=>?_) (λ_=>.ag jk);refine .aq (Ξ:=λ_=>True) (λ_ _=>trivial) λc _=>.aq (Ξ:=fQ) ?_ λdQ mj=>.go λw hw=>.go λ_ _=>.ag ⟨Dd mj.t (mj.t w (qi hw)),mj.y⟩;exact Par.bl (λ_=>.aq (l3 et _ _) λbh h=>.ag ⟨jk.t,(jk.fail h).y⟩) (λ_=>.ag jk)
   ·refine .go λw hw=>.aq (Ξ:=fQ) ?_ λJ aj=>.ag aj;refine Par.kE (λ_=>?_) (λ_=>.ag p6);refine .aq (Ξ:=λ_=>True) (λ_ _=>trivial) λc _=>.aq (Ξ:=fQ) ?_ λmA qM=>.go λv hv=>.ag ⟨Dd qM.t aP,qM.y⟩;exact Par.bl (λ_=>.aq (l3 eS _ _) λbh h=>.ag ⟨p6.t,(p6.fail h).y⟩) (λ_=>.ag p6)
theorem YB (m:ek) (left:ByteArray) (a:Alt) (hm:fQ m):Par (sY m left a) fQ:=by
 unfold sY;refine .aq (Ξ:=λ_=>True) (λ_ _=>trivial) λaX _=>?_;refine .aq (Ξ:=λr:ek × List Int × ByteArray × Int=>fQ r.1) ?_ λaY aK=>?_
 ·refine Par.loop (λs=>fQ s.1) hm λs az=>?_;obtain ⟨m1,rt,bl,at_,i⟩:=s;simp only at az ⊢;refine Par.ba (λaQ=>?_) (λ_=>.ag az);refine .aq (Ξ:=λJ:ek × List Int × ByteArray × Int=>fQ J.1) ?_ λJ aj=>.ag aj;refine .go λy al=>.aq (Ξ:=λJ:ek × List Int × ByteArray × Int=>fQ J.1) ?_ λJ aj=>.ag aj;refine .aq (Ξ:=λJ:ek × List Int × ByteArray × Int=>fQ J.1) ?_ λJ aj=>.ag aj;refine Par.bl (λ_=>?_) (λ_=>?_)
  ·exact .aq (Pm m1 y.Sym az) λr ah=>Par.ap λ_=>.ag ah
  ·exact .aq (Ξ:=λ_=>True) (λ_ _=>trivial) λJ _=>.ag ⟨az.t,az.y⟩
 ·refine .aq (Ξ:=λ_=>True) (λ_ _=>trivial) λgq _=>?_;refine .aq (Ξ:=λJ:ek × Int=>fQ J.1) ?_ λJ aj=>Par.ap λ_=>Par.ap λ_=>.ag ⟨aj.t,aj.y⟩;refine Par.bl (λ_=>?_) (λ_=>.ag aK);refine .aq (Ξ:=λ_=>True) (λ_ _=>trivial) λc _=>.aq (Ξ:=λJ:ek × Int=>fQ J.1) ?_ λJ aj=>.ag aj;exact Par.bl (λ_=>.aq (Pm aY.1 a.Prec aK) λr ah=>.ag ah) (λ_=>.aq (l3 aY.1 _ _) λbh h=>.ag (aK.fail h))
theorem YD (s:Source) (av:nU s):Par (s5 s) λr=>r.2.1=0->(∀ t∈r.1.aZ,t.Tag.size<=1000)/\(∀ t∈r.1.bX,t.Tag.size<=1000)/\r.1.b5=s.b5/\r.1.b'=s.b':=by
 unfold s5;refine .aq (Ξ:=λ_=>True) (λ_ _=>trivial) λc _=>Par.bl (λ_=>.ag λh=>absurd h (by decide)) (λ_=>?_);refine .aq (Ξ:=λ_=>True) (λ_ _=>trivial) λaY _=>?_;refine .aq (Ξ:=λr:ek × ByteArray=>fQ r.1) ?_ λbF cu=>?_
 ·refine Par.loop (λz=>fQ z.1) ⟨λt ar=>?_,λt ar=>by cases ar⟩ λz hm=>?_
  ·have ar:t∈[_,_,_]:=ar;simp only [List.mem_cons,List.not_mem_nil,or_false] at ar;rcases ar with rfl | rfl | rfl <;> exact Nat.zero_le _
  ·obtain ⟨m,st,i⟩:=z;simp only at hm ⊢;refine Par.ba (λaQ=>?_) (λ_=>.ag hm);refine .go λd aP=>?_;have jo:=qi aP;refine .aq (Ξ:=λ_=>True) (λ_ _=>trivial) λ_ _=>.aq (Ξ:=λ_=>True) (λ_ _=>trivial) λja _=>?_;refine .aq (Ξ:=λr:ek × ByteArray=>fQ r.1) ?_ λr ah=>.ag ah;refine Par.loop (λz=>fQ z.1) ⟨hm.t,hm.y⟩ λz hm=>?_;obtain ⟨m,st,k⟩:=z;simp only at hm ⊢;refine Par.ba (λud=>?_) (λ_=>.ag hm);refine .aq (Ξ:=λr:ek × ByteArray=>fQ r.1) ?_ λr ah=>.ag ah;refine Par.bl (λ_=>.go λx j=>?_) (λ_=>?_)
   ·exact .aq (YA m d x hm (av.decls d jo).tag) λbh gT=>.ag gT
   ·exact .aq (Ξ:=fQ) (Par.bl (λ_=>.go λ_ _=>.go λ_ _=>.aq (l3 m _ _) λbh h=>.ag (hm.fail h)) (λ_=>.ag hm)) λbh gT=>.go λ_ _=>.ag gT
 refine .aq (Ξ:=fQ) ?_ λcE A9=>?_
 ·refine Par.loop (λz=>fQ z.1) cu λz hm=>?_;obtain ⟨m,i⟩:=z;simp only at hm ⊢;refine Par.ba (λaQ=>?_) (λ_=>.ag hm);refine .aq (Ξ:=fQ) ?_ λr ah=>.ag ah;refine .go λr ah=>.aq (Ξ:=λ_=>True) (λ_ _=>trivial) λ_ _=>?_;refine .aq (Ξ:=fQ) (Par.bl (λ_=>.aq (l3 m _ _) λbh h=>.ag (hm.fail h)) (λ_=>.ag hm)) λiC lB=>?_;exact .aq (Ξ:=λ_=>True) (λ_ _=>trivial) λ_ _=>.aq (Ξ:=λ_=>True) (λ_ _=>trivial) λl _=>.ag ⟨lB.t,lB.y⟩
 refine .aq (Ξ:=fQ) ?_ λgM qN=>?_
 ·refine Par.loop (λz=>fQ z.1) A9 λz hm=>?_;obtain ⟨m,i⟩:=z;simp only at hm ⊢;refine Par.ba (λaQ=>?_) (λ_=>.ag hm);refine .aq (Ξ:=fQ) ?_ λr ah=>.ag ah;refine Par.loop (λz=>fQ z.1) hm λz hm=>?_;obtain ⟨m,k⟩:=z;simp only at hm ⊢;refine .go λd _=>Par.ba (λaQ=>?_) (λ_=>.ag hm);refine .aq (Ξ:=fQ) ?_ λr ah=>.ag ah;refine .go λ_ _=>.go λ_ _=>.aq (Ξ:=λ_=>True) (λ_ _=>trivial) λ_ _=>?_;exact .aq (Ξ:=fQ) (Par.bl (λ_=>.aq (l3 m _ _) λbh h=>.ag (hm.fail h)) (λ_=>.ag hm)) λbh gT=>.ag gT
 refine .aq (Ξ:=λ_=>True) (λ_ _=>trivial) λvG _=>.aq (Ξ:=λ_=>True) (λ_ _=>trivial) λl8 _=>?_;refine .aq (Ξ:=fQ) ?_ λbo np=>?_
 ·refine Par.loop (λz=>fQ z.1) ⟨qN.t,qN.y⟩ λz hm=>?_;obtain ⟨m,i⟩:=z;simp only at hm ⊢;refine Par.ba (λaQ=>?_) (λ_=>.ag hm);refine .aq (Ξ:=fQ) ?_ λr ah=>.ag ah;refine Par.loop (λz=>fQ z.1) hm λz hm=>?_;obtain ⟨m,k⟩:=z;simp only at hm ⊢;refine .go λd aP=>Par.ba (λud=>?_) (λ_=>.ag hm);exact .go λd1 Ig=>.go λd2 w3=>.go λa aR=>.aq (YB m _ a hm) λbh gT=>.ag gT
 refine Par.kE (λh=>.ag λaJ=>absurd aJ h) (λhe=>?_);refine .aq (Ξ:=λl:List fg=>∀ x∈l,x.Tag.size<=1000) ?_ λth A_=>?_
 ·refine Par.loop (λz=>∀ x∈z.1,x.Tag.size<=1000) (λx j=>?_) λz aW=>?_
  ·rw [List.mem_singleton.1 j]; exact Nat.zero_le _
  ·refine Par.bl (λ_=>.go λy al=>.aq (Ξ:=λ_=>True) (λ_ _=>trivial) λk _=>.aq (Ξ:=λb:ByteArray=>b.size<=1000) (Par.ba (λ_=>.go λw hw=>.ag (np.y w (qi hw))) (λ_=>.ag (Nat.zero_le _))) λb fH=>Par.ap λ_=>.ag λx j=>?_) (λ_=>.ag aW);rcases List.mem_append.1 j with j | j
   ·exact aW x j
   ·rw [List.mem_singleton.1 j]; exact fH
 refine .aq (Ξ:=λl:List fg=>∀ x∈l,x.Tag.size<=1000) ?_ λky Eb=>?_
 ·refine Par.loop (λz=>∀ x∈z.1,x.Tag.size<=1000) A_ λz aW=>?_;refine Par.ba (λ_=>.go λy al=>Par.cat (Par.ap λ_=>.ag λx j=>?_)) (λ_=>.ag aW);rcases List.mem_append.1 j with j | j
  ·exact aW x j
  ·rw [List.mem_singleton.1 j]; exact Nat.zero_le _
 refine .aq (Ξ:=λl:List Tok=>∀ x∈l,x.Tag.size<=1000) ?_ λlM Ec=>?_
 ·refine Par.loop (λz=>∀ x∈z.1,x.Tag.size<=1000) np.t λz aW=>?_;refine Par.ba (λ_=>?_) (λ_=>.ag aW);refine .aq (Ξ:=λJ:List Tok × Int=>∀ x∈J.1,x.Tag.size<=1000) (.go λy al=>.aq (Ξ:=λJ:List Tok × Int=>∀ x∈J.1,x.Tag.size<=1000) (Par.bl (λ_=>.go λw hw=>.ag (Dd aW (aW w (qi hw)))) (λ_=>.ag aW)) λJ aj=>.ag aj) λJ aj=>.ag aj
 refine .aq (Ξ:=λ_=>True) (λ_ _=>trivial) λ_ _=>.aq (Ξ:=λ_=>True) (λ_ _=>trivial) λ_ _=>Par.bl (λ_=>.ag λh=>absurd h (by decide)) (λ_=>.ag λ_=>⟨Ec,Eb,rfl,rfl⟩)
def ob (l:List Int):Int:=(uE l).getD (-1)
def DG (l:List Int):Prop:=l.length<=100000/\∀ x∈l,0<=x/\x<=1000000
theorem JY {l:List Int}(h:DG l):uE l=some (ob l)/\uE l=some (ob l)/\tr l (ob l):=by
 obtain ⟨w,hw,af⟩:=L4 l h.1 h.2;have e:ob l=w:=by unfold ob; rw [hw]; rfl
 rw [e];exact ⟨hw,hw,af⟩
def lk {α:Type}(keep:α->Bool) (val:α->Int) (l:List α):List dy:=(l.zipIdx.filter λp=>keep p.1).map λp=>(⟨(p.2:Nat),val p.1⟩:dy)
theorem Pj {α:Type}(keep:α->Bool) (val:α->Int) (l:List α) (x:α):lk keep val (l++[x])=lk keep val l++(if keep x=true then [(⟨l.length,val x⟩:dy)] else []):=by
 grind [lk]
theorem Fl {α:Type}(keep:α->Bool) (val:α->Int) (l:List α):(lk keep val l).length<=l.length:=by
 grind [lk,List.length_zipIdx]
theorem JQ {α:Type}{keep:α->Bool}{val:α->Int}{l:List α}{p:dy}:p∈lk keep val l↔∃ (k:Nat) (x:α),l[k]?=some x/\keep x=true/\p=⟨k,val x⟩:=by
 unfold lk;rw [List.mem_map];constructor
 ·grind
 ·rintro ⟨k,x,h1,af,rfl⟩;exact ⟨(x,k),by rw [List.mem_filter,List.mem_zipIdx_iff_getElem?]; exact ⟨h1,af⟩,rfl⟩
def red (r:List Act):List Int:=(r.filter λa=>decide (a.Kind=2)).map (·.N)
theorem YH (r:List Act) (a:Act):red (r++[a])=red r++(if a.Kind=2 then [a.N] else []):=by
 grind [red]
theorem Po (r:List Act):(red r).length<=r.length:=by
 grind [red]
def ox (a:Act):Int:=(s4 a).getD 0
theorem S2 (a:Act):s4 a=some (ox a)/\s4 a=some (ox a):=by
 obtain ⟨c,aa,_⟩:=ZU a;have:ox a=c:=by unfold ox; rw [aa]; rfl
 rw [this];exact ⟨aa,aa⟩
def qX (d:Int) (a:Act):Bool:=!decide (a.Kind=0)&&(!decide (a.Kind=2)||!decide (a.N=d))
def uJ (r:List Act):Row:=⟨ob (red r),lk (qX (ob (red r))) ox r⟩
def r7 (d v:Int):Bool:=decide (0<=v)&&!decide (v=d)
def pos (c:List Int):List Int:=c.filter λv=>decide (0<=v)
theorem Yv (r:List Int) (a:Int):pos (r++[a])=pos r++(if 0<=a then [a] else []):=by
 grind [pos]
def uK (c:List Int):Row:=⟨ob (pos c),lk (r7 (ob (pos c))) id c⟩
def gQ (d:iE) (a:Nat):List Int:=d.f_.map λr=>r.getD a 0
theorem Pp {g:bs}{n:Nat}(aN:gi g) {r:List Act}(ai:r.length=g.aZ.length) (h:∀ a∈r,sh g n a):DG (red r):=by
 have ar:=aN.jZ;have au:=aN.hV;have:=Po r;refine ⟨by omega,λx j=>?_⟩;unfold red at j;obtain ⟨a,aR,rfl⟩:=List.mem_map.1 j;rw [List.mem_filter] at aR;have hk:=(h a aR.1).q2 (of_decide_eq_true aR.2);have h1:=hk.1;have af:=hk.2;omega
theorem Pg {c:List Int}(ai:c.length<=150) (h:∀ v∈c,v<150):DG (pos c):=by
 have:=List.length_filter_le (λv:Int=>decide (0<=v)) c;refine ⟨by unfold pos; omega,λx j=>?_⟩
 grind [pos]
theorem Sy (g:bs) (n:Nat) (d:iE) (aP:ry g n d):Tot (CF d) λr=>r=d.cM.map uJ:=by
 have aN:=aP.rK;have ar:=aN.jZ;have aA:=aP.gU;have aR:=aP.a;unfold CF;refine .aq (Ξ:=λr:List Row=>r=d.cM.map uJ) ?_ λr ah=>.ag ah;refine Tot.upto (λs=>s.2) d.cM.length (λk s=>s.1=(d.cM.take k).map uJ) rfl (by omega) rfl λk s hk he bb=>?_;obtain ⟨R,i⟩:=s;simp only at he bb ⊢;subst he bb;rw [ew k (by omega)];refine Tot.ba (λaQ=>?_) (λdw=>.ag ?_)
 ·have aQ:k<d.cM.length:=by omega
  have e4:=jc aQ;obtain ⟨n5,EA⟩:=aP.j8 _ (List.getElem_mem aQ);simp only [dT aQ,Option.bind_some];generalize d.cM[k]=r at *;have qc:=Pp aN n5 EA;obtain ⟨Hf,He,_⟩:=JY qc;refine .aq (Ξ:=λl:List Int=>l=red r) ?_ λl ai=>?_
  ·refine Tot.upto (λs=>s.2) r.length (λJ s=>s.1=red (r.take J)) rfl (by omega) rfl λJ s aj he bb=>?_;obtain ⟨L,i⟩:=s;simp only at he bb ⊢;subst he bb;rw [ew J (by omega)];refine Tot.ba (λga=>?_) (λdw=>.ag ?_)
   ·have ga:J<r.length:=by omega
    have ui:=jc ga;have hlen:=Po (r.take J);rw [List.length_take] at hlen;simp only [dT ga,Option.bind_some];generalize r[J]=a at *;refine .aq (Ξ:=λL:List Int=>L=red (r.take (J+1))) ?_ λr ah=>.ag ⟨ga,rfl,ah⟩;rw [ui,YH];refine .aq (Ξ:=λL:List Int=>L=red (r.take J)++(if a.Kind=2 then [a.N] else [])) (Tot.ba (λh=>?_) (λh=>.ag ?_)) λr ah=>.ag ah
    ·rw [if_pos h];exact .aq (Ξ:=λ_=>True) (Tot.ap (by simp [lim]; omega) trivial) λ_ _=>.ag rfl
    ·rw [if_neg h,List.append_nil]
   ·have e:r.take J=r:=List.take_of_length_le (by omega);rw [e]; rfl
  ·subst ai;rw [He];refine Tot.sm (.aq (Ξ:=λl:List dy=>l=lk (qX (ob (red r))) ox r) ?_ λl ai=>?_)
   ·generalize ob (red r)=D;refine Tot.upto (λs=>s.2) r.length (λJ s=>s.1=lk (qX D) ox (r.take J)) rfl (by omega) rfl λJ s aj he bb=>?_;obtain ⟨L,i⟩:=s;simp only at he bb ⊢;subst he bb;rw [ew J (by omega)];refine Tot.ba (λga=>?_) (λdw=>.ag ?_)
    ·have ga:J<r.length:=by omega
     have ui:=jc ga;have hlen:=Fl (qX D) ox (r.take J);have eY:(r.take J).length=J:=by rw [List.length_take]; omega
     rw [List.length_take] at hlen;simp only [dT ga,Option.bind_some];generalize r[J]=a at *;rw [(S2 a).2];refine .aq (Ξ:=λL:List dy=>L=lk (qX D) ox (r.take (J+1))) ?_ λr ah=>.ag ⟨ga,rfl,ah⟩;rw [ui,Pj,eY];refine .aq (Ξ:=λc:Bool=>c=qX D a) (Tot.bl (λh=>?_) (λh=>.ag ?_)) λc aa=>?_
     ·refine Tot.bl (λaf=>.ag ?_) (λaf=>.ag ?_)
      ·unfold qX; rw [h,af]; rfl
      ·unfold qX; rw [h,af]; rfl
     ·unfold qX; rw [h]; rfl
     subst aa;refine .aq (Ξ:=λL:List dy=>L=lk (qX D) ox (r.take J)++(if qX D a=true then [(⟨J,ox a⟩:dy)] else [])) (Tot.bl (λh=>?_) (λh=>.ag ?_)) λr ah=>.ag ah
     ·rw [if_pos h];exact Tot.sm (.aq (Ξ:=λ_=>True) (Tot.ap (by simp [lim]; omega) trivial) λ_ _=>.ag rfl)
     ·rw [if_neg (by rw [h]; decide),List.append_nil]
    ·have e:r.take J=r:=List.take_of_length_le (by omega);rw [e]; rfl
   ·subst ai;refine .aq (Ξ:=λ_=>True) (Tot.ap (by simp [lim]; omega) trivial) λ_ _=>.ag ⟨aQ,rfl,?_⟩;show _=(d.cM.take (k+1)).map uJ;rw [e4,List.map_append]; rfl
 ·have e:d.cM.take k=d.cM:=List.take_of_length_le (by omega);rw [e]; rfl
theorem DV (d:iE) (a:Nat):(gQ d a).length=d.f_.length:=by simp [gQ]
theorem Mb {d:iE}{a q:Nat}(h:q<d.f_.length):(gQ d a).take (q+1)=(gQ d a).take q++[(d.f_[q]).getD a 0]:=by
 rw [jc (by rw [DV]; exact h)];congr 2;simp [gQ]
theorem S3 {g:bs}{n:Nat}{d:iE}(aP:ry g n d) {a:Nat}(aR:a<g.bX.length):∀ v∈gQ d a,-1<=v/\v<n:=λv hv=>by
 unfold gQ at hv;obtain ⟨r,ah,rfl⟩:=List.mem_map.1 hv;obtain ⟨h1,af⟩:=aP.Cu r ah;refine af _ ?_;rw [List.getD_eq_getElem?_getD,List.getElem?_eq_getElem (by omega)];exact List.getElem_mem _
theorem N9 {r:List Int}{a:Nat}(h:a<r.length):idx r (a:Int)=some (r.getD a 0):=by
 rw [dT h,List.getD_eq_getElem?_getD,List.getElem?_eq_getElem h]; rfl
theorem Yu (c:List Int):(pos c).length<=c.length:=List.length_filter_le ..
theorem SA (g:bs) (n:Nat) (d:iE) (aP:ry g n d):Tot (CG d) λr=>r=(List.range g.bX.length).map λa=>uK (gQ d a):=by
 have aN:=aP.rK;have ar:=aN.dk;have aA:=aP.gU;have aR:=aP.o;have aO:0<d.f_.length:=by omega
 obtain ⟨adb,_⟩:=aP.Cu _ (List.getElem_mem aO);have i0:idx d.f_ 0=some d.f_[0]:=dT (k:=0) aO;have g0:decide ((0:Int)<(d.f_.length:Int))=true:=decide_eq_true (by omega);unfold CG;refine .aq (Ξ:=λr:List Row=>r=(List.range g.bX.length).map λa=>uK (gQ d a)) ?_ λr ah=>.ag ah;refine Tot.upto (λs=>s.2) g.bX.length (λk s=>s.1=(List.range k).map λa=>uK (gQ d a)) rfl (by omega) rfl λk s hk he bb=>?_;obtain ⟨R,i⟩:=s;simp only at he bb ⊢;subst he bb;rw [ew k (by omega),g0,i0];simp only [cond_true,Option.bind_some];refine Tot.ba (λaQ=>?_) (λdw=>.ag ?_)
 ·have jN:k<g.bX.length:=by omega
  have qc:=Pg (c:=gQ d k) (by rw [DV]; omega) λv hv=>by have:=(S3 aP jN v hv).2; omega
  obtain ⟨Hf,He,_⟩:=JY qc;have hJ:=DV d k;refine .aq (Ξ:=λl:List Int=>l=pos (gQ d k)) ?_ λl ai=>?_
  ·refine Tot.upto (λs=>s.2) d.f_.length (λJ s=>s.1=pos ((gQ d k).take J)) rfl (by omega) rfl λJ s aj he bb=>?_;obtain ⟨L,i⟩:=s;simp only at he bb ⊢;subst he bb;rw [ew J (by omega)];refine Tot.ba (λga=>?_) (λdw=>.ag ?_)
   ·have ga:J<d.f_.length:=by omega
    have ui:=Mb (a:=k) ga;have hlen:=Yu ((gQ d k).take J);rw [List.length_take] at hlen;obtain ⟨n5,_⟩:=aP.Cu _ (List.getElem_mem ga);simp only [dT ga,Option.bind_some,N9 (show k<(d.f_[J]).length by omega)];generalize (d.f_[J]).getD k 0=v at *;refine .aq (Ξ:=λL:List Int=>L=pos ((gQ d k).take (J+1))) ?_ λr ah=>.ag ⟨ga,rfl,ah⟩;rw [ui,Yv];refine .aq (Ξ:=λL:List Int=>L=pos ((gQ d k).take J)++(if 0<=v then [v] else [])) (Tot.ba (λh=>?_) (λh=>.ag ?_)) λr ah=>.ag ah
    ·rw [if_pos h];exact .aq (Ξ:=λ_=>True) (Tot.ap (by simp [lim]; omega) trivial) λ_ _=>.ag rfl
    ·rw [if_neg h,List.append_nil]
   ·have e:(gQ d k).take J=gQ d k:=List.take_of_length_le (by omega);rw [e]; rfl
  ·subst ai;rw [He];refine Tot.sm (.aq (Ξ:=λl:List dy=>l=lk (r7 (ob (pos (gQ d k)))) id (gQ d k)) ?_ λl ai=>?_)
   ·generalize ob (pos (gQ d k))=D;refine Tot.upto (λs=>s.2) d.f_.length (λJ s=>s.1=lk (r7 D) id ((gQ d k).take J)) rfl (by omega) rfl λJ s aj he bb=>?_;obtain ⟨L,i⟩:=s;simp only at he bb ⊢;subst he bb;rw [ew J (by omega)];refine Tot.ba (λga=>?_) (λdw=>.ag ?_)
    ·have ga:J<d.f_.length:=by omega
     have ui:=Mb (a:=k) ga;have hlen:=Fl (r7 D) id ((gQ d k).take J);have eY:((gQ d k).take J).length=J:=by rw [List.length_take]; omega
     rw [eY] at hlen;obtain ⟨n5,_⟩:=aP.Cu _ (List.getElem_mem ga);simp only [dT ga,Option.bind_some,N9 (show k<(d.f_[J]).length by omega)];generalize (d.f_[J]).getD k 0=v at *;refine .aq (Ξ:=λL:List dy=>L=lk (r7 D) id ((gQ d k).take (J+1))) ?_ λr ah=>.ag ⟨ga,rfl,ah⟩;rw [ui,Pj,eY];refine .aq (Ξ:=λc:Bool=>c=r7 D v) (Tot.bl (λh=>.ag ?_) (λh=>.ag ?_)) λc aa=>?_
     ·unfold r7; rw [h]; rfl
     ·unfold r7; rw [h]; rfl
     subst aa;refine .aq (Ξ:=λL:List dy=>L=lk (r7 D) id ((gQ d k).take J)++(if r7 D v=true then [(⟨J,id v⟩:dy)] else [])) (Tot.bl (λh=>?_) (λh=>.ag ?_)) λr ah=>.ag ah
     ·rw [if_pos h];exact .aq (Ξ:=λ_=>True) (Tot.ap (by simp [lim]; omega) trivial) λ_ _=>.ag rfl
     ·rw [if_neg (by rw [h]; decide),List.append_nil]
    ·have e:(gQ d k).take J=gQ d k:=List.take_of_length_le (by omega);rw [e]; rfl
   ·subst ai;refine .aq (Ξ:=λ_=>True) (Tot.ap (by simp [lim]; omega) trivial) λ_ _=>.ag ⟨jN,rfl,?_⟩;show _=(List.range (k+1)).map λa=>uK (gQ d a);rw [List.range_succ,List.map_append]; rfl
 ·have:k=g.bX.length:=by omega
  subst this; rfl
theorem ZR {α:Type}(a b:α) {i:Int}(aO:0<=i) (h:i<(([a,b]:List α).length:Int)):∃ y,idx [a,b] i=some y/\(y=a\/y=b):=by
 obtain ⟨y,al,hm⟩:=nA aO h;exact ⟨y,al,by simpa using hm⟩
theorem Yx {α:Type}(keep:α->Bool) (val:α->Int) (l:List α):(lk keep val l).Pairwise λa b=>a.At<b.At:=by
 unfold lk;rw [List.pairwise_map];refine List.Pairwise.sublist List.filter_sublist ?_;rw [List.pairwise_iff_getElem];intro i J hi aj acU;simp only [List.getElem_zipIdx];omega
abbrev e8:=List dy
structure kZ (r:e8):Prop where
 at':∀ p∈r,0<=p.At/\p.At<=999
 nd:(r.map (·.At)).Nodup
def Fit (k3:List Int) (r:e8) (b:Nat):Prop:=∀ p∈r,k3.getD (b+p.At.toNat) 0=0
theorem uu {α:Type}{l:List α}{k:Nat}(h:k<l.length):idx l (k:Int)=some l[k]:=by simp [idx,h]
theorem SH (k3:List Int) (r:e8) (b:Nat) (ah:∀ p∈r,0<=p.At/\p.At<=999) (ai:r.length<=100000) (av:b<=1000000000000) (aa:k3.length<=1000000000000):Tot (zU k3 r b) λc=>(c=true↔Fit k3 r b):=by
 unfold zU;refine Tot.aq (Tot.scan r (λp=>k3.getD (b+p.At.toNat) 0=0) (λx:Bool=>x=false/\¬ Fit k3 r b) (by omega) (λs y aO h1 hi hm=>?_) (λs az=>by simp [az])) λx j=>?_
 ·refine Tot.ba (λ_=>?_) (λh=>absurd h1 h);rw [hi];refine Tot.sm (.aq (Ξ:=λc=>(c=true↔k3.getD (b+y.At.toNat) 0≠0)) ?_ λc Nh=>Tot.bl (λh=>.ag ⟨rfl,λaS=>(Nh.1 h) (aS y hm)⟩) (λh=>.ag ⟨?_,?_⟩))
  ·have au:=ah y hm;have hw:aH ((b:Int)+y.At)=((b+y.At.toNat:Nat):Int):=by rw [ch]; omega
   rw [hw];refine Tot.ba (λh=>?_) (λh=>.ag ?_)
   ·have ai:b+y.At.toNat<k3.length:=by omega
    rw [uu ai];refine Tot.sm (.ag ?_);rw [List.getD_eq_getElem?_getD,List.getElem?_eq_getElem ai];simp
   ·have ai:¬ b+y.At.toNat<k3.length:=by omega
    rw [List.getD_eq_getElem?_getD,List.getElem?_eq_none (by omega)];simp
  ·rw [ch]; omega
  ·exact Classical.byContradiction λaA=>by rw [Nh.2 aA] at h; cases h
 ·rcases x with _ | x
  ·exact .ag ⟨λ_=>j,λ_=>rfl⟩
  ·obtain ⟨rfl,aS⟩:x=false/\¬ Fit k3 r b:=j;exact .ag ⟨λh=>(by cases h),λh=>absurd h aS⟩
theorem SJ (l:List Int) (n:Int) (h:l.length<=100000):Tot (uG l n) λc=>(c=true↔n∈l):=by
 unfold uG;refine Tot.aq (Tot.scan l (λx=>x≠n) (λx:Bool=>x=true/\n∈l) (by omega) (λs y aO h1 hi hm=>?_) (λs az=>by simp [az])) λx j=>?_
 ·refine Tot.ba (λ_=>?_) (λh=>absurd h1 h);rw [hi];refine Tot.sm (Tot.ba (λe=>.ag ⟨rfl,e ▸ hm⟩) (λe=>.ag ⟨?_,e⟩));rw [ch]; omega
 ·rcases x with _ | x
  ·have j:∀ y∈l,y≠n:=j;exact .ag ⟨λh=>(by cases h),λh=>absurd rfl (j n h)⟩
  ·obtain ⟨rfl,hm⟩:x=true/\n∈l:=j;exact .ag ⟨λ_=>hm,λ_=>rfl⟩
structure pb (c:gX) (r:e8) (i b:Nat) (v ca:List Int):Prop where
 len:v.length=ca.length
 lo:c.ck.length<=ca.length
 N_:∀ p∈r,b+p.At.toNat<ca.length
 hi:ca.length=c.ck.length\/∃ p∈r,ca.length=b+p.At.toNat+1
 k3:∀ p∈r,ca.getD (b+p.At.toNat) 0=(i:Int)+1
 DU:∀ k,(∀ p∈r,b+p.At.toNat≠k)->ca.getD k 0=c.ck.getD k 0
 val:∀ p∈r,v.getD (b+p.At.toNat) 0=p.b9
 FM:∀ k,(∀ p∈r,b+p.At.toNat≠k)->v.getD k 0=c.b9.getD k 0
structure Step (r:e8) (i:Nat) (c j9:gX) (b:Nat):Prop where
 fit:Fit c.ck r b
 least:∀ dz,dz<b->¬ Fit c.ck r dz
 base:j9.c6=c.c6.set i (b:Int)
 put:pb c r i b j9.b9 j9.ck
theorem Mz {l m:List Int}(ai:l.length=m.length) (h:∀ k,l.getD k 0=m.getD k 0):l=m:=by
 apply List.ext_getElem ai;intro k h1 af;have:=h k;simpa [List.getD_eq_getElem?_getD,List.getElem?_eq_getElem h1,List.getElem?_eq_getElem af] using this
theorem Fit.same {k3:List Int}{r cW:e8}(h:∀ p,p∈r↔p∈cW) {b:Nat}:Fit k3 r b↔Fit k3 cW b :=
 ⟨λf p au=>f p ((h p).2 au),λf p au=>f p ((h p).1 au)⟩
theorem pb.AZ {c:gX}{r cW:e8}{i b:Nat}{v ca eh p1:List Int}(ai:c.b9.length=c.ck.length) (hm:∀ p,p∈r↔p∈cW) (h:pb c r i b v ca) (aJ:pb c cW i b eh p1):v=eh/\ca=p1:=by
 have le:∀ {r cW:e8}{v ca eh p1:List Int},(∀ p,p∈r↔p∈cW)->pb c r i b v ca->pb c cW i b eh p1->p1.length<=ca.length:=by
  intro r cW v ca eh p1 hm h aJ;rcases aJ.hi with e | ⟨p,au,e⟩
  ·rw [e]; exact h.lo
  ·have:=h.N_ p ((hm p).2 au); omega
 have hlen:ca.length=p1.length:=Nat.le_antisymm (le (λp=>(hm p).symm) aJ h) (le hm h aJ);refine ⟨Mz (by rw [h.len,aJ.len,hlen]) λk=>?_,Mz hlen λk=>?_⟩
 ·by_cases hk:∃ p∈r,b+p.At.toNat=k
  ·obtain ⟨p,au,rfl⟩:=hk;rw [h.val p au,aJ.val p ((hm p).1 au)]
  ·have hk:∀ p∈r,b+p.At.toNat≠k:=λp au e=>hk ⟨p,au,e⟩;rw [h.FM k hk,aJ.FM k λp au=>hk p ((hm p).2 au)]
 ·by_cases hk:∃ p∈r,b+p.At.toNat=k
  ·obtain ⟨p,au,rfl⟩:=hk;rw [h.k3 p au,aJ.k3 p ((hm p).1 au)]
  ·have hk:∀ p∈r,b+p.At.toNat≠k:=λp au e=>hk ⟨p,au,e⟩;rw [h.DU k hk,aJ.DU k λp au=>hk p ((hm p).2 au)]
theorem Step.AZ {r cW:e8}{i b dz:Nat}{c c1 c2:gX}(ai:c.b9.length=c.ck.length) (hm:∀ p,p∈r↔p∈cW) (h:Step r i c c1 b) (aJ:Step cW i c c2 dz):b=dz/\c1=c2:=by
 have av:b=dz:=by
  rcases Nat.lt_trichotomy b dz with aQ | e | aQ
  ·exact absurd ((Fit.same hm).1 h.fit) (aJ.least b aQ)
  ·exact e
  ·exact absurd ((Fit.same hm).2 aJ.fit) (h.least dz aQ)
 subst av;obtain ⟨cw,cd⟩:=h.put.AZ ai hm aJ.put;refine ⟨rfl,?_⟩;cases c1; cases c2;simp only at cw cd;have h1:=h.base;have af:=aJ.base;simp only at h1 af;subst cw cd h1;rw [af]
inductive dA (rows:List e8):List Nat->gX->Prop
 | nil:dA rows [] ⟨List.replicate rows.length 0,[],[]⟩
 | cons {i b:Nat}{l:List Nat}{c j9:gX}{r:e8}(ah:rows[i]?=some r) (hi:i∉l) (h:dA rows l c) (az:Step r i c j9 b):dA rows (i::l) j9
theorem dA.len {rows:List e8}{l:List Nat}{c:gX}(h:dA rows l c):c.b9.length=c.ck.length/\c.c6.length=rows.length:=by
 induction h with
 | nil=>simp
 | cons _ _ _ az aM=>exact ⟨az.put.len,by rw [az.base,List.length_set]; exact aM.2⟩
theorem dA.AZ {rows Kp:List e8}(ai:rows.length=Kp.length) (hm:∀ (i:Nat) (r cW:e8),rows[i]?=some r->Kp[i]?=some cW->∀ p,p∈r↔p∈cW) {l:List Nat}{c j9:gX}(h:dA rows l c) (aJ:dA Kp l j9):c=j9:=by
 induction h generalizing j9 with
 | nil=>cases aJ with | nil=>rw [ai]
 | cons ah hi h az aM =>
  cases aJ with
  | cons dP acQ aJ Wq =>
   have:=aM aJ;subst this;exact (az.AZ h.len.1 (hm _ _ _ ah dP) Wq).2
theorem dA.rest {rows:List e8}{l:List Nat}{c:gX}(h:dA rows l c):∀ J,J<rows.length->J∉l->c.c6[J]?=some 0:=by
 induction h with
 | nil=>intro J aj _; simp [aj]
 | @cons i b l c j9 r ah hi h az aM =>
  intro J aj aA;rw [az.base,List.getElem?_set_ne (by rintro rfl; exact aA (by simp))];exact aM J aj λbH=>aA (by simp [bH])
theorem pad (x y:Int) (K:Nat) (c7:aH (x+y)=(K:Int)) (acy:K<=1000000000) (v ca:List Int) (ai:v.length=ca.length) (av:ca.length<=1000000000) :
  Tot (b0 (R:=List Int × List Int) (λ(s:List Int × List Int) =>
(bif decide ((s.2.length:Int)<=aH (x+y)) then
(db s.2 [0]).bind λcT =>
(db s.1 [0]).bind λgh =>
some (.inl (s.1++[0],s.2++[0]))
else
some (.inr (s.1,s.2)))) (v,ca)) λr=>r.1.length=r.2.length/\r.2.length=max ca.length (K+1)/\(∀ k,r.1.getD k 0=v.getD k 0)/\∀ k,r.2.getD k 0=ca.getD k 0:=by
 have app:∀ (l:List Int) k,(l++[0]).getD k 0=l.getD k 0:=by
  intro l k;rw [List.getD_eq_getElem?_getD,List.getD_eq_getElem?_getD];by_cases hk:k<l.length
  ·rw [List.getElem?_append_left hk]
  ·rw [List.getElem?_append_right (by omega),List.getElem?_eq_none (l:=l) (by omega)];by_cases aO:k - l.length=0
   ·rw [aO]; rfl
   ·rw [List.getElem?_eq_none (by simp; omega)]
 refine Tot.loop (λs=>s.1.length=s.2.length/\ca.length<=s.2.length/\s.2.length<=max ca.length (K+1)/\(∀ k,s.1.getD k 0=v.getD k 0)/\∀ k,s.2.getD k 0=ca.getD k 0) (λs=>(K+1) - s.2.length) ⟨ai,Nat.le_refl _,Nat.le_max_left _ _,λ_=>rfl,λ_=>rfl⟩ (by show (K+1) - ca.length<1000000000000000000; omega) λs az=>?_;obtain ⟨h1,af,aK,bu,cu⟩:=az;rw [c7];refine Tot.ba (λhle=>?_) (λacP=>.ag ⟨h1,?_,bu,cu⟩)
 ·refine .aq (Ξ:=λ_=>True) (Tot.ap (by simp [lim]; omega) trivial) λ_ _=>.aq (Ξ:=λ_=>True) (Tot.ap (by simp [lim]; omega) trivial) λ_ _=>.ag ⟨⟨?_,?_,?_,λk=>?_,λk=>?_⟩,?_⟩
  ·show (s.1++[0]).length=(s.2++[0]).length; simp [h1]
  ·show ca.length<=(s.2++[0]).length; simp; omega
  ·show (s.2++[0]).length<=_; simp; omega
  ·exact (app _ _).trans (bu k)
  ·exact (app _ _).trans (cu k)
  ·show (K+1) - (s.2++[0]).length<(K+1) - s.2.length;simp; omega
 ·show s.2.length=_; omega
theorem y5 (l:List Int) (K k:Nat) (x:Int) (h:K<l.length):(l.set K x).getD k 0=if k=K then x else l.getD k 0:=by
 rw [List.getD_eq_getElem?_getD,List.getElem?_set];by_cases e:k=K
 ·subst e; simp [h]
 ·simp [e,Ne.symm e,List.getD_eq_getElem?_getD]
theorem pb.more {c:gX}{r:e8}{p:dy}{i b:Nat}{v ca eh p1:List Int}(h:pb c r i b v ca) (au:∀ q∈r,q.At.toNat≠p.At.toNat) (ai:eh.length=p1.length) (hlen:p1.length=max ca.length (b+p.At.toNat+1)) (hv:∀ k,eh.getD k 0=v.getD k 0) (aa:∀ k,p1.getD k 0=ca.getD k 0) :
  pb c (r++[p]) i b (eh.set (b+p.At.toNat) p.b9) (p1.set (b+p.At.toNat) ((i:Int)+1)):=by
 have c7:b+p.At.toNat<p1.length:=by omega
 have mem:∀ {Q:dy->Prop},(∀ q∈r,Q q)->Q p->∀ q∈r++[p],Q q:=λh1 af q a7=>by
  rcases List.mem_append.1 a7 with a7 | a7
  ·exact h1 q a7
  ·rw [List.mem_singleton.1 a7]; exact af
 refine ⟨by simp [ai],?_,mem (λq a7=>?_) ?_,?_,mem (λq a7=>?_) ?_,λk hk=>?_,mem (λq a7=>?_) ?_,λk hk=>?_⟩
 ·rw [List.length_set]; have:=h.lo; omega
 ·rw [List.length_set]; have:=h.N_ q a7; omega
 ·rw [List.length_set]; exact c7
 ·rw [List.length_set];by_cases hm:ca.length<=b+p.At.toNat+1
  ·exact .inr ⟨p,by simp,by omega⟩
  ·rcases h.hi with e | ⟨q,a7,e⟩
   ·exact .inl (by omega)
   ·exact .inr ⟨q,by simp [a7],by omega⟩
 ·rw [y5 _ _ _ _ c7,if_neg (by have:=au q a7; omega),aa]; exact h.k3 q a7
 ·rw [y5 _ _ _ _ c7,if_pos rfl]
 ·rw [y5 _ _ _ _ c7,if_neg (λe=>hk p (by simp) e.symm),aa]; exact h.DU k λq a7=>hk q (by simp [a7])
 ·rw [y5 _ _ _ _ (by rw [ai]; exact c7),if_neg (by have:=au q a7; omega),hv]; exact h.val q a7
 ·rw [y5 _ _ _ _ (by rw [ai]; exact c7),if_pos rfl]
 ·rw [y5 _ _ _ _ (by rw [ai]; exact c7),if_neg (λe=>hk p (by simp) e.symm),hv]; exact h.FM k λq a7=>hk q (by simp [a7])
theorem pb.nil (c:gX) (i b:Nat) (ai:c.b9.length=c.ck.length):pb c [] i b c.b9 c.ck :=
 ⟨ai,Nat.le_refl _,λ_ h=>absurd h (by simp),.inl rfl,λ_ h=>absurd h (by simp),λ_ _=>rfl,λ_ h=>absurd h (by simp),λ_ _=>rfl⟩
theorem Fit.MA {k3:List Int}{r:e8}{b:Nat}(h:k3.length<=b):Fit k3 r b:=λp _=>by
 rw [List.getD_eq_getElem?_getD,List.getElem?_eq_none (by omega)]; rfl
theorem PY {r:e8}{k:Nat}(ah:kZ r) (hk:k<r.length):∀ q∈r.take k,q.At.toNat≠(r[k]).At.toNat:=by
 intro q a7 e;obtain ⟨J,aj,rfl⟩:=List.mem_iff_getElem.1 a7;rw [List.length_take] at aj;have eY:J<r.length:=by omega
 rw [List.getElem_take] at e;have h1:=ah.at' _ (List.getElem_mem eY);have af:=ah.at' _ (List.getElem_mem hk);have fq:=ah.nd;have:=(List.getElem_inj (h₀:=by simpa using eY) (h₁:=by simpa using hk) fq).1 (by simp only [List.getElem_map]; omega);omega
structure pU (rows:List e8):Prop where
 n:rows.length<=400
 rows:∀ r∈rows,kZ r
structure DF (rows:List e8):Prop where
 n:rows.length<=1000
 r:∀ r∈rows,r.length<=1000
theorem Y_ (rows:List e8) (fh:DF rows) (i:Nat) (r:e8) (ah:rows[i]?=some r) (nx:kZ r) (c:gX) (aa:c.ck.length<=900000) (aO:c.c6[i]?=some 0) (fits:List Int->e8->Int->Option Bool)
  (aS:∀ b:Nat,b<=1000000->Tot (fits c.ck r b) λx=>(x=true↔Fit c.ck r b)) :
  Tot (b0 (R:=List Int) (λ(dR:List Int) =>
(idx rows (i:Int)).bind λfN =>
(idx dR (i:Int)).bind λfx =>
(fits c.ck fN fx).bind λhc =>
(bif !hc then
(idx dR (i:Int)).bind λgW =>
some (.inl (dR.set (i:Int).toNat (aH (gW+1))))
else
some (.inr dR))) c.c6) λB=>∃ b:Nat,B=c.c6.set i (b:Int)/\Fit c.ck r b/\(∀ dz,dz<b->¬ Fit c.ck r dz)/\b<=c.ck.length:=by
 have oH:i<c.c6.length:=(List.getElem?_eq_some_iff.1 aO).1;have uc:idx rows (i:Int)=some r:=by simp [idx,ah]
 have Wt:c.c6=c.c6.set i 0:=by
  apply List.ext_getElem?;intro k;rw [List.getElem?_set];by_cases e:i=k
  ·subst e; rw [aO]; simp [oH]
  ·simp [e]
 have key:Tot (b0 (R:=List Int) (λ(dR:List Int) =>
(idx rows (i:Int)).bind λfN =>
(idx dR (i:Int)).bind λfx =>
(fits c.ck fN fx).bind λhc =>
(bif !hc then
(idx dR (i:Int)).bind λgW =>
some (.inl (dR.set (i:Int).toNat (aH (gW+1))))
else
some (.inr dR))) (c.c6.set i 0)) λB=>∃ b:Nat,B=c.c6.set i (b:Int)/\Fit c.ck r b/\(∀ dz,dz<b->¬ Fit c.ck r dz)/\b<=c.ck.length:=by
  refine Tot.loop (λs=>∃ b:Nat,s=c.c6.set i (b:Int)/\(∀ dz,dz<b->¬ Fit c.ck r dz)/\b<=c.ck.length) (λs=>c.ck.length+1 - (s.getD i 0).toNat) ⟨0,rfl,λdz h=>absurd h (Nat.not_lt_zero _),Nat.zero_le _⟩ (by show c.ck.length+1 - _<1000000000000000000; omega) λs az=>?_;obtain ⟨b,rfl,ai,av⟩:=az;have Wv:idx (c.c6.set i (b:Int)) (i:Int)=some (b:Int):=by
   simp [idx,oH]
  rw [uc,Wv];refine Tot.sm (Tot.sm (.aq (aS b (by omega)) λx j=>?_));refine Tot.bl (λh=>Tot.sm (.ag ⟨⟨b+1,?_,λdz gG=>?_,?_⟩,?_⟩)) (λh=>.ag ⟨b,rfl,j.1 (by simpa using h),ai,av⟩)
  ·have hw:aH ((b:Int)+1)=((b+1:Nat):Int):=by rw [ch]; omega
   rw [hw];show (c.c6.set i (b:Int)).set i _=_;rw [List.set_set]
  ·by_cases e:dz=b
   ·subst e;intro w4;rw [j.2 w4] at h; cases h
   ·exact ai dz (by omega)
  ·have:¬ c.ck.length<=b:=λaJ=>by
    rw [j.2 (Fit.MA aJ)] at h; cases h
   omega
  ·have hw:aH ((b:Int)+1)=((b+1:Nat):Int):=by rw [ch]; omega
   rw [hw];show c.ck.length+1 - ((((c.c6.set i (b:Int)).set i ((b+1:Nat):Int)).getD i 0).toNat)<c.ck.length+1 - ((c.c6.set i (b:Int)).getD i 0).toNat;rw [List.set_set];have g:∀ x:Int,(c.c6.set i x).getD i 0=x:=λx=>by simp [List.getD_eq_getElem?_getD,oH]
   rw [g,g];have:¬ c.ck.length<=b:=λaJ=>by
    rw [j.2 (Fit.MA aJ)] at h; cases h
   omega
 rw [<- Wt] at key;exact key
theorem Yz (r:e8) (nx:kZ r) (n5:r.length<=1000) (i b:Nat) (hi:i<=100000) (c:gX) (hJ:c.b9.length=c.ck.length) (aa:c.ck.length<=900000) (av:b<=c.ck.length)
  (f:List Int × List Int × Int->Option ((List Int × List Int × Int) ⊕ (List Int × List Int)))
  (aS:∀ (v ca:List Int) (k:Nat) (hk:k<r.length),f (v,ca,(k:Int))=(b0 (R:=List Int × List Int) (λ(s:List Int × List Int) =>
(bif decide ((s.2.length:Int)<=aH ((b:Int)+(r[k]).At)) then
(db s.2 [0]).bind λcT =>
(db s.1 [0]).bind λgh =>
some (.inl (s.1++[0],s.2++[0]))
else
some (.inr (s.1,s.2)))) (v,ca)).bind λfk =>
(idx fk.2 (aH ((b:Int)+(r[k]).At))).bind λo3 =>
(idx fk.1 (aH ((b:Int)+(r[k]).At))).bind λj0 =>
some (.inl (fk.1.set (aH ((b:Int)+(r[k]).At)).toNat (r[k]).b9,fk.2.set (aH ((b:Int)+(r[k]).At)).toNat (aH ((i:Int)+1)),aH ((k:Int)+1))))
  (he:∀ (v ca:List Int) (k:Int),¬ k<r.length->f (v,ca,k)=some (.inr (v,ca))) :
  Tot (b0 f (c.b9,c.ck,0)) λx=>pb c r i b x.1 x.2/\x.2.length<=c.ck.length+1000:=by
 refine Tot.count (λs=>s.2.2) r.length (λs=>∃ k:Nat,k<=r.length/\s.2.2=(k:Int)/\pb c (r.take k) i b s.1 s.2.1) ⟨0,Nat.zero_le _,rfl,pb.nil c i b hJ⟩ (by show (r.length:Int) - 0<_; omega) λs az=>?_;obtain ⟨v,ca,kL⟩:=s;obtain ⟨k,hk,rfl,cg⟩:=az;simp only at cg ⊢;by_cases aQ:k<r.length
 ·rw [aS v ca k aQ];have au:=nx.at' _ (List.getElem_mem aQ);have c7:aH ((b:Int)+(r[k]).At)=((b+(r[k]).At.toNat:Nat):Int):=by rw [ch]; omega
  have acH:ca.length<=1000000:=by
   rcases cg.hi with e | ⟨q,a7,e⟩
   ·omega
   ·have:=nx.at' q (List.mem_of_mem_take a7);omega
  refine .aq (pad _ _ _ c7 (by omega) v ca cg.len (by omega)) λx j=>?_;obtain ⟨h1,af,aK,bu⟩:=j;rw [c7];have n4:b+(r[k]).At.toNat<x.2.length:=by omega
  have IB:b+(r[k]).At.toNat<x.1.length:=by omega
  rw [uu n4,uu IB];have WO:aH ((i:Int)+1)=(i:Int)+1:=by rw [ch]; omega
  have qd:aH ((k:Int)+1)=((k+1:Nat):Int):=by rw [ch]; omega
  rw [WO,qd];refine Tot.sm (Tot.sm (.ag ⟨⟨k+1,by omega,rfl,?_⟩,?_,?_⟩))
  ·rw [List.take_add_one,List.getElem?_eq_getElem aQ];exact cg.more (PY nx aQ) h1 af aK bu
  ·grind
  grind
 ·rw [he v ca k (by omega)];have:k=r.length:=by omega
  subst this;rw [List.take_length] at cg;refine .ag ⟨cg,?_⟩;show ca.length<=c.ck.length+1000;rcases cg.hi with e | ⟨q,a7,e⟩
  ·omega
  ·have:=nx.at' q a7;omega
theorem kZ.snoc {r:e8}{p:dy}(h:kZ r) (au:0<=p.At/\p.At<=999) (aA:p.At∉r.map (·.At)):kZ (r++[p]):=by
 refine ⟨λq a7=>?_,?_⟩
 ·rcases List.mem_append.1 a7 with a7 | a7
  ·exact h.at' q a7
  ·rw [List.mem_singleton.1 a7]; exact au
 ·rw [List.map_append,List.nodup_append];refine ⟨h.nd,by simp,λa aR b av e=>?_⟩;have av:b∈[p.At]:=av;rw [List.mem_singleton.1 av] at e;exact aA (e ▸ aR)
theorem kZ.nil:kZ []:=⟨λ_ h=>absurd h (by simp),by simp⟩
theorem kZ.bad {r:e8}{k:Nat}(hk:k<r.length) (h:¬ (0<=(r[k]).At/\(r[k]).At<=999)\/(r[k]).At∈(r.take k).map (·.At)):¬ kZ r:=by
 intro ah;rcases h with h | h
 ·exact h (ah.at' _ (List.getElem_mem hk))
 ·obtain ⟨q,a7,e⟩:=List.mem_map.1 h;exact PY ah hk q a7 (by have e:q.At=(r[k]).At:=e; rw [e])
theorem YU {rows:List e8}{r:e8}(ah:r∈rows) (h:¬ kZ r):¬ pU rows:=λbH=>h (bH.rows r ah)
theorem Qi {r:e8}{k:Nat}(h:k<r.length):r.take (k+1)=r.take k++[r[k]]:=by
 rw [List.take_add_one,List.getElem?_eq_getElem h]; rfl
theorem SG (rows:List e8) (fh:DF rows):Tot (CM rows) λc=>(c=true↔pU rows):=by
 unfold CM;have aA:=fh.n;refine Tot.ba (λh=>.ag ⟨λh=>(by cases h),λbH=>by have:=bH.n; omega⟩) (λaci=>?_);refine Tot.aq (Tot.scan rows kZ (λx:Bool=>x=false/\¬ pU rows) (by omega) (λs r aO h1 hi hm=>?_) (λs az=>by simp [az])) λx j=>?_
 ·refine Tot.ba (λ_=>?_) (λh=>absurd h1 h);have n5:=fh.r r hm;refine .aq (Ξ:=gN (λ_=>kZ r) (λx:Bool=>x=false/\¬ pU rows)) ?_ λx j=>?_
  ·refine Tot.count (λs=>s.2) r.length (λs=>∃ k:Nat,k<=r.length/\s.2=(k:Int)/\kZ (r.take k)/\s.1=(r.take k).map (·.At)) ⟨0,Nat.zero_le _,rfl,kZ.nil,rfl⟩ (by show (r.length:Int) - 0<_; omega) λs az=>?_;obtain ⟨l,kL⟩:=s;obtain ⟨k,hk,rfl,da,rfl⟩:=az;simp only;rw [hi];refine Tot.sm (Tot.ba (λaQ=>?_) (λdw=>.ag ?_))
   ·have aQ:k<r.length:=by omega
    have hw:aH ((k:Int)+1)=((k+1:Nat):Int):=by rw [ch]; omega
    rw [hw];simp only [Option.bind_some,uu aQ];have IA:((r.take k).map (·.At)).length<=1000:=by rw [List.length_map,List.length_take]; omega
    refine .aq (Ξ:=λc=>(c=true↔(¬ (0<=(r[k]).At/\(r[k]).At<=999)\/(r[k]).At∈(r.take k).map (·.At)))) ?_ λc aa=>Tot.bl (λh=>.ag ⟨rfl,YU hm (kZ.bad aQ (aa.1 h))⟩) (λh=>?_)
    ·refine Tot.ba (λh=>.ag ⟨λ_=>.inl (by omega),λ_=>rfl⟩) (λh=>Tot.ba (λaJ=>.ag ⟨λ_=>.inl (by omega),λ_=>rfl⟩) (λaJ=>?_));have au:0<=(r[k]).At/\(r[k]).At<=999:=by omega
     refine .aq (SJ _ (r[k]).At (by omega)) λc aa=>.ag ?_;rw [aa];exact ⟨λh=>.inr h,λh=>h.resolve_left λaA=>aA au⟩
    ·have VP:(0<=(r[k]).At/\(r[k]).At<=999)/\(r[k]).At∉(r.take k).map (·.At):=by
      refine ⟨Classical.byContradiction λaA=>?_,λaA=>?_⟩
      ·rw [aa.2 (.inl aA)] at h; cases h
      ·rw [aa.2 (.inr aA)] at h; cases h
     obtain ⟨au,aA⟩:=VP;refine .aq (Ξ:=λ_=>True) (Tot.ap (by simp [lim]; omega) trivial) λ_ _=>.ag ⟨⟨k+1,by omega,rfl,?_,?_⟩,?_,?_⟩
     ·rw [Qi aQ]; exact da.snoc au aA
     ·show (r.take k).map (·.At)++[(r[k]).At]=_;rw [Qi aQ,List.map_append]; rfl
     ·show (k:Int)<((k+1:Nat):Int); omega
     ·show ((k+1:Nat):Int)<=_; omega
   ·have:k=r.length:=by omega
    subst this;rw [List.take_length] at da;exact da
  ·rcases x with _ | x
   ·exact .ag ⟨by rw [ch]; omega,j⟩
   ·exact .ag j
 ·rcases x with _ | x
  ·have j:∀ r∈rows,kZ r:=j;exact .ag ⟨λ_=>⟨by omega,j⟩,λ_=>rfl⟩
  ·obtain ⟨rfl,av⟩:x=false/\¬ pU rows:=j;exact .ag ⟨λh=>(by cases h),λh=>absurd h av⟩
def js (rows:List e8) (a:Int):Nat:=((idx rows a).map List.length).getD 0
def nG (rows:List e8) (a b:Int):Bool:=decide (js rows b<js rows a\/(js rows a=js rows b/\a<b))
theorem XG {rows:List e8}{a b:Int}:nG rows a b=true↔(js rows b<js rows a\/(js rows a=js rows b/\a<b)):=by simp [nG]
theorem Ch {rows:List e8}{a b:Int}:nG rows a b=false↔¬ (js rows b<js rows a\/(js rows a=js rows b/\a<b)):=by simp [nG]
theorem XH (rows:List e8):SWO (nG rows) where
 irrefl x:=by rw [Ch]; omega
 trans x y z h1 af:=by rw [XG] at *; omega
 ntrans x y z h1 af:=by rw [Ch] at *; omega
theorem XI {rows:List e8}{a b:Int}(h1:nG rows a b=false) (af:nG rows b a=false):a=b:=by
 rw [Ch] at *; omega
structure nR (rows:List e8) (o:List Nat):Prop where
 mem:∀ i,i∈o↔∃ r,rows[i]?=some r/\r≠[]
 nd:o.Nodup
 C0:o.Pairwise λ(a b:Nat)=>nG rows (b:Int) (a:Int)=false
theorem nR.uniq {rows:List e8}{o hl:List Nat}(h:nR rows o) (aJ:nR rows hl):o=hl :=
 List.Perm.eq_of_pairwise (le:=λ(a b:Nat)=>nG rows (b:Int) (a:Int)=false) (λa b _ _ h1 af=>by have:=XI af h1; omega) h.C0 aJ.C0 ((List.perm_ext_iff_of_nodup h.nd aJ.nd).2 λi=>(h.mem i).trans (aJ.mem i).symm)
theorem nR.lt {rows:List e8}{o:List Nat}(h:nR rows o) {i:Nat}(hi:i∈o):i<rows.length:=by
 obtain ⟨r,ah,_⟩:=(h.mem i).1 hi;exact (List.getElem?_eq_some_iff.1 ah).1
theorem nR.len {rows:List e8}{o:List Nat}(h:nR rows o):o.length<=rows.length:=by
 have:∀ (l m:List Nat),l.Nodup->(∀ x∈l,x∈m)->l.length<=m.length:=by
  intro l
  induction l with
  | nil=>intro m _ _; exact Nat.zero_le _
  | cons x l aM =>
   intro m aP hm;have j:=hm x (by simp);have mr:=List.nodup_cons.1 aP;have:=aM (m.erase x) mr.2 λy al=>(List.mem_erase_of_ne (λe=>mr.1 (by rw [<- e]; exact al))).2 (hm y (by simp [al]));have ai:=List.length_erase_of_mem j;have au:=List.length_pos_of_mem j;simp only [List.length_cons];omega
 have:=this o (List.range rows.length) h.nd λx j=>by simpa using h.lt j
 simpa using this
def XX (ca:List Int):List Nat:=(List.range ca.length).filter λk=>decide (ca.getD k 0≠0)
def YN (rows:List e8) (i:Nat):Nat:=(rows[i]?.map List.length).getD 0
structure Inv (rows:List e8) (l:List Nat) (c:gX):Prop where
 own:∀ i∈l,∃ (r:e8) (b:Nat),rows[i]?=some r/\c.c6[i]?=some (b:Int)/\∀ p∈r,b+p.At.toNat<c.ck.length/\c.ck.getD (b+p.At.toNat) 0=(i:Int)+1/\c.b9.getD (b+p.At.toNat) 0=p.b9
 adG:∀ k,c.ck.getD k 0≠0->∃ i∈l,∃ (r:e8) (b:Nat),rows[i]?=some r/\c.c6[i]?=some (b:Int)/\∃ p∈r,k=b+p.At.toNat/\c.ck.getD k 0=(i:Int)+1
 zero:∀ k,c.ck.getD k 0=0->c.b9.getD k 0=0
 last:c.ck.length=0\/c.ck.getD (c.ck.length - 1) 0≠0
 least:∀ i∈l,∀ b:Nat,c.c6[i]?=some (b:Int)->∀ dz,dz<b->∃ (r:e8) (p:dy) (lY:Nat),rows[i]?=some r/\p∈r/\lY∈l/\nG rows (lY:Int) (i:Int)=true/\c.ck.getD (dz+p.At.toNat) 0=(lY:Int)+1
 ho:(XX c.ck).length=(l.map (YN rows)).sum
def q1 (a b:dy):Bool:=decide (a.At<b.At)||(decide (a.At=b.At)&&decide (a.b9<b.b9))
theorem JL {a b:dy}:q1 a b=true↔(a.At<b.At\/(a.At=b.At/\a.b9<b.b9)):=by simp [q1]
theorem JM {a b:dy}:q1 a b=false↔¬ (a.At<b.At\/(a.At=b.At/\a.b9<b.b9)):=by
 rw [<- JL]; simp
theorem O3:Ord q1 where
 swo:=⟨λx=>by rw [JM]; omega,λx y z h1 af=>by rw [JL] at *; omega,λx y z h1 af=>by rw [JM] at *; omega⟩
 iO x y h1 af:=by
  rw [JM] at h1 af;obtain ⟨aX,x2⟩:=x;obtain ⟨bI,y2⟩:=y;simp only at h1 af;have:aX=bI:=by omega
  have:x2=y2:=by omega
  subst_vars; rfl
def Qn (T:List Tok) (p:dy):Prop:=∃ (k:Nat) (t:Tok),T[k]?=some t/\0<t.bK/\p=⟨t.bK,(k:Int)⟩
theorem Qn.val {T:List Tok}{p:dy}(h:Qn T p):∃ (k:Nat) (t:Tok),T[k]?=some t/\p.b9=(k:Int)/\p.At=t.bK/\0<t.bK:=by
 obtain ⟨k,t,h1,af,rfl⟩:=h;exact ⟨k,t,h1,rfl,rfl,af⟩
theorem Ph {α:Type}(keep:α->Bool) (val:α->Int) {l:List α}(ai:l.length<=1000):kZ (lk keep val l):=by
 refine ⟨λp au=>?_,?_⟩
 all_goals grind [JQ,Yx]
theorem Sv (s:Source) (av:nU s):Tot (s0 s) λr=>r.2.2.2=true->(∃ n,ry r.1 n r.2.1)/\tm r.1:=by
 refine (Par.iO (AR s av) (Ψ:=λr=>r.2.2.2=true->tm r.1) ?_).use λr ah h=>⟨ah.1 h,ah.2 h⟩;have J_:Par (uF s) λr=>r.2=true->tm r.1:=by
  unfold uF;exact .aq (Yf s av) λr ah=>.ag λh=>ah (of_decide_eq_true h)
 have J9:Par (uD s) λr=>r.2.2=true->tm r.1:=by
  unfold uD;exact .aq J_ λr ah=>Par.bl (λ_=>.ag λh=>by cases h) (λh=>.aq (Ξ:=λ_=>True) (λ_ _=>trivial) λm _=>.ag λ_=>ah (by simpa using h))
 have J8:Par (s3 s) λr=>r.2.2.2=true->tm r.1:=by
  unfold s3;exact .aq J9 λr ah=>Par.bl (λ_=>.ag λh=>by cases h) (λh=>.aq (Ξ:=λ_=>True) (λ_ _=>trivial) λsR _=>.aq (Ξ:=λ_=>True) (λ_ _=>trivial) λcs _=>.ag λ_=>ah (by simpa using h))
 unfold s0;exact .aq J8 λr ah=>Par.bl (λ_=>.ag λh=>by cases h) (λh=>.aq (Ξ:=λ_=>True) (λ_ _=>trivial) λ_ _=>.aq (Ξ:=λ_=>True) (λ_ _=>trivial) λ_ _=>.ag λ_=>ah (by simpa using h))
def kT (rows:List e8) (o:List Nat) (J:Nat):Prop:=J∉o/\∃ r,rows[J]?=some r/\r≠[]
theorem EV {rows:List e8}{J:Nat}{r:e8}(h:rows[J]?=some r):js rows (J:Int)=r.length:=by
 simp [js,idx,h]
structure Gp (rows:List e8) (o:List Nat) (laid:List Bool) (c:gX):Prop where
 Oy:dA rows o.reverse c
 nd:o.Nodup
 ne:∀ i∈o,∃ r,rows[i]?=some r/\r≠[]
 XF:laid.length=rows.length
 ld:∀ J,J<rows.length->(laid.getD J false=true↔J∈o)
 C0:o.Pairwise λ(a b:Nat)=>nG rows (b:Int) (a:Int)=false
 LV:∀ i∈o,∀ J,kT rows o J->nG rows (J:Int) (i:Int)=false
 cl:c.ck.length<=1000 * o.length
theorem uy:∀ (l m:List Nat),l.Nodup->(∀ x∈l,x∈m)->l.length<=m.length
 | [],_,_,_=>Nat.zero_le _
 | x::l,m,aP,hm=>by
  have j:=hm x (by simp);have mr:=List.nodup_cons.1 aP;have:=uy l (m.erase x) mr.2 λy al=>(List.mem_erase_of_ne (λe=>mr.1 (by rw [<- e]; exact al))).2 (hm y (by simp [al]));have ai:=List.length_erase_of_mem j;have au:=List.length_pos_of_mem j;simp only [List.length_cons];omega
theorem Gp.ol {rows:List e8}{o:List Nat}{laid:List Bool}{c:gX}(h:Gp rows o laid c):o.length<=rows.length:=by
 have:=uy o (List.range rows.length) h.nd λx j=>by
  obtain ⟨r,ah,_⟩:=h.ne x j;simpa using (List.getElem?_eq_some_iff.1 ah).1
 simpa using this
theorem Sz (rows:List e8) (fh:DF rows):Tot (vU rows) λc=>(¬ pU rows->c=⟨[],[],[]⟩)/\(pU rows->∃ o,nR rows o/\dA rows o.reverse c):=by
 unfold vU;refine .aq (SG rows fh) λaX h1=>Tot.bl (λh=>.ag ⟨λ_=>rfl,λda=>by rw [h1.2 da] at h; cases h⟩) (λh=>?_);have da:pU rows:=h1.1 (by simpa using h);refine Tot.use (Ψ:=λc=>∃ o,nR rows o/\dA rows o.reverse c) ?_ λc aa=>⟨λaA=>absurd da aA,λ_=>aa⟩;have aA:=da.n;refine .aq (Ξ:=λl=>l=List.replicate rows.length 0) (Tot.mk (by simp [lim]; omega) (by simp)) λaY aK=>?_;subst aK;refine .aq (Ξ:=λl=>l=List.replicate rows.length false) (Tot.mk (by simp [lim]; omega) (by simp)) λbP bu=>?_;subst bu;refine Tot.aq (Ξ:=gN (λ_=>False) (λc=>∃ o,nR rows o/\dA rows o.reverse c)) ?_ λx j=>by
  rcases x with x | x
  ·exact j.elim
  ·exact .ag j
 refine Tot.loop (λs=>∃ o,Gp rows o s.2 s.1) (λs=>(s.2.filter λb=>!b).length) ⟨[],.nil,List.nodup_nil,λ_ h=>absurd h (by simp),by simp,λJ aj=>by simp [List.getD_eq_getElem?_getD,aj],.nil,λ_ h=>absurd h (by simp),Nat.le_refl 0⟩ (by
  show ((List.replicate rows.length false).filter λb=>!b).length<1000000000000000000;refine Nat.lt_of_le_of_lt (List.length_filter_le _ _) ?_;rw [List.length_replicate]; omega) λs az=>?_
 obtain ⟨c,laid⟩:=s;obtain ⟨o,cg⟩:=az;simp only at cg ⊢;have w8:=cg.ol;have IA:=cg.XF
 -- which is next
 refine .aq (Ξ:=λx:Int=>(x=-1/\∀ J,¬ kT rows o J)\/∃ i:Nat,x=(i:Int)/\kT rows o i/\∀ J,kT rows o J->nG rows (J:Int) (i:Int)=false) ?_ λbE rL=>?_
 ·refine Tot.count (λs=>s.2) rows.length (λs=>∃ k:Nat,k<=rows.length/\s.2=(k:Int)/\((s.1=-1/\∀ J,J<k->¬ kT rows o J)\/∃ i:Nat,s.1=(i:Int)/\i<k/\kT rows o i/\∀ J,J<k->kT rows o J->nG rows (J:Int) (i:Int)=false)) ⟨0,Nat.zero_le _,rfl,.inl ⟨rfl,λJ aj=>absurd aj (Nat.not_lt_zero _)⟩⟩ (by show (rows.length:Int) - 0<_; omega) λs az=>?_;obtain ⟨x,kL⟩:=s;obtain ⟨k,hk,rfl,bm⟩:=az;simp only at bm ⊢;have hw:aH ((k:Int)+1)=((k+1:Nat):Int):=by rw [ch]; omega
  rw [hw];refine Tot.ba (λaQ=>?_) (λdw=>.ag ?_)
  ·have aQ:k<rows.length:=by omega
   have sF:rows[k]?=some rows[k]:=List.getElem?_eq_getElem aQ;have V2:idx laid (k:Int)=some (laid.getD k false):=by
    have:k<laid.length:=by omega
    rw [uu this,List.getD_eq_getElem?_getD,List.getElem?_eq_getElem this]; rfl
   refine .aq (Ξ:=λy:Int=>(y=-1/\∀ J,J<k+1->¬ kT rows o J)\/∃ i:Nat,y=(i:Int)/\i<k+1/\kT rows o i/\∀ J,J<k+1->kT rows o J->nG rows (J:Int) (i:Int)=false) ?_ λy al=>.ag ⟨⟨k+1,by omega,rfl,al⟩,?_,?_⟩
   ·have skip:¬ kT rows o k->(x=-1/\∀ J,J<k+1->¬ kT rows o J)\/∃ i:Nat,x=(i:Int)/\i<k+1/\kT rows o i/\∀ J,J<k+1->kT rows o J->nG rows (J:Int) (i:Int)=false:=by
     intro cz;rcases bm with ⟨e,h⟩ | ⟨i,e,hi,he,h⟩
     ·refine .inl ⟨e,λJ aj=>?_⟩;by_cases fI:J=k
      ·rw [fI]; exact cz
      ·exact h J (by omega)
     ·refine .inr ⟨i,e,by omega,he,λJ aj vj=>?_⟩;by_cases fI:J=k
      ·rw [fI] at vj; exact absurd vj cz
      ·exact h J (by omega) vj
    refine .aq (Ξ:=λc=>(c=true->kT rows o k/\(x=-1\/∃ i:Nat,x=(i:Int)/\js rows (i:Int)<js rows (k:Int)))/\(c=false->¬ kT rows o k\/∃ i:Nat,x=(i:Int)/\js rows (k:Int)<=js rows (i:Int))) ?_ λab3 aa=>.aq (Ξ:=λy:Int=>(y=-1/\∀ J,J<k+1->¬ kT rows o J)\/∃ i:Nat,y=(i:Int)/\i<k+1/\kT rows o i/\∀ J,J<k+1->kT rows o J->nG rows (J:Int) (i:Int)=false) (Tot.bl (λh=>.ag ?_) (λh=>.ag ?_)) λy al=>.ag al
    ·rw [V2];refine Tot.sm (Tot.bl (λai=>?_) (λai=>.ag ⟨λh=>(by cases h),λ_=>.inl λhe=>he.1 ((cg.ld k aQ).1 (by simpa using ai))⟩));have V0:k∉o:=λh=>by rw [(cg.ld k aQ).2 h] at ai; cases ai
     rw [uu aQ];refine Tot.sm (Tot.ba (λau=>?_) (λau=>.ag ⟨λh=>(by cases h),λ_=>.inl λ⟨_,r,ah,cz⟩=>?_⟩))
     ·have ub:kT rows o k:=⟨V0,_,sF,λe=>by rw [e] at au; simp at au⟩;refine Tot.ba (λj=>.ag ⟨λ_=>⟨ub,.inl ?_⟩,λh=>(by cases h)⟩) (λj=>?_)
      ·rcases bm with ⟨e,_⟩ | ⟨i,e,_⟩
       ·exact e
       ·omega
      ·rcases bm with ⟨e,_⟩ | ⟨i,e,hi,⟨_,r,ah,_⟩,_⟩
       ·omega
       ·subst e;have oH:i<rows.length:=by omega
        rw [uu oH];refine Tot.sm (Tot.sm (.ag ⟨λh=>⟨ub,.inr ⟨i,rfl,?_⟩⟩,λh=>.inr ⟨i,rfl,?_⟩⟩))
        ·rw [EV sF,EV (List.getElem?_eq_getElem oH)];have:=of_decide_eq_true h;omega
        ·rw [EV sF,EV (List.getElem?_eq_getElem oH)];have:=of_decide_eq_false h;omega
     ·rw [sF] at ah; cases ah;have:(rows[k]).length≠0:=λe=>cz (List.eq_nil_of_length_eq_zero e);omega
    ·obtain ⟨ub,H8⟩:=aa.1 h;refine .inr ⟨k,rfl,by omega,ub,λJ aj vj=>?_⟩;by_cases fI:J=k
     ·rw [fI]; exact (XH rows).irrefl _
     ·rcases bm with ⟨e,aJ⟩ | ⟨i,e,hi,he,aJ⟩
      ·exact absurd vj (aJ J (by omega))
      ·rcases H8 with b_ | ⟨lY,b_,ai⟩
       ·omega
       ·have:i=lY:=by omega
        subst this;have:=aJ J (by omega) vj;rw [Ch] at this ⊢;omega
    ·rcases aa.2 h with cz | ⟨lY,b_,ai⟩
     ·exact skip cz
     ·rcases bm with ⟨e,aJ⟩ | ⟨i,e,hi,he,aJ⟩
      ·omega
      ·have:i=lY:=by omega
       subst this;refine .inr ⟨i,e,by omega,he,λJ aj vj=>?_⟩;by_cases fI:J=k
       ·subst fI;rw [Ch]; omega
       ·exact aJ J (by omega) vj
   ·show (k:Int)<((k+1:Nat):Int); omega
   ·show ((k+1:Nat):Int)<=_; omega
  ·have dV:k=rows.length:=by omega
   have ub:∀ J,kT rows o J->J<k:=λJ ⟨_,r,ah,_⟩=>by
    have:=(List.getElem?_eq_some_iff.1 ah).1; omega
   rcases bm with ⟨e,h⟩ | ⟨i,e,hi,he,h⟩
   ·exact .inl ⟨e,λJ aj=>h J (ub J aj) aj⟩
   ·exact .inr ⟨i,e,he,λJ aj=>h J (ub J aj) aj⟩
 rcases rL with ⟨rfl,Wa⟩ | ⟨i,rfl,ub,H8⟩
 ·refine Tot.bl (λ_=>.ag ⟨o,⟨λi=>⟨cg.ne i,λ⟨r,ah,cz⟩=>Classical.byContradiction λhi=>Wa i ⟨hi,r,ah,cz⟩⟩,cg.nd,cg.C0⟩,cg.Oy⟩) (λh=>absurd h (by decide))
 ·refine Tot.ba (λh=>by omega) (λ_=>?_);obtain ⟨Ep,r,ah,NM⟩:=ub;have oH:i<rows.length:=(List.getElem?_eq_some_iff.1 ah).1;have Ip:i<laid.length:=by omega
  rw [uu Ip];have ug:r∈rows:=List.mem_of_getElem? ah;have nx:=da.rows r ug;have n5:=fh.r r ug;have hJ:=cg.cl;have ix:=cg.Oy;have NC:i∉o.reverse:=by rw [List.mem_reverse]; exact Ep
  have hlen:=ix.len;refine Tot.sm (.aq (Y_ rows fh i r ah nx c (by omega) (ix.rest i oH NC) zU λb av=>SH c.ck r b nx.at' (by omega) (by omega) (by omega)) λB Up=>?_);obtain ⟨b,rfl,w4,V3,p_⟩:=Up;have uc:idx rows (i:Int)=some r:=by simp [idx,ah]
  rw [uc];refine .aq (Yz r nx n5 i b (by omega) c hlen.1 (by omega) p_ _ (λv ca k hk=>?_) (λv ca k hk=>?_)) λx j=>?_
  ·have Vr:idx (c.c6.set i (b:Int)) (i:Int)=some (b:Int):=by
    have:i<c.c6.length:=by omega
    simp [idx,this]
   have aP:decide ((k:Int)<(r.length:Int))=true:=decide_eq_true (by omega);simp only [Option.bind_some,aP,cond_true,uu hk,Vr]
  ·have aP:decide ((k:Int)<(r.length:Int))=false:=decide_eq_false hk;simp only [Option.bind_some,aP,cond_false]
  ·obtain ⟨UL,ai⟩:=j;have lX:(laid.set i true).length=rows.length:=by rw [List.length_set]; exact IA
   refine .ag ⟨⟨o++[i],?_,?_,λa aR=>?_,lX,λJ aj=>?_,?_,λa aR J aj=>?_,?_⟩,?_⟩
   ·rw [List.reverse_append];exact .cons ah NC ix ⟨w4,V3,rfl,UL⟩
   ·rw [List.nodup_append];exact ⟨cg.nd,by simp,λa aR b av e=>Ep (by rw [<- List.mem_singleton.1 av,<- e]; exact aR)⟩
   ·rcases List.mem_append.1 aR with aR | aR
    ·exact cg.ne a aR
    ·rw [List.mem_singleton.1 aR]; exact ⟨r,ah,NM⟩
   ·show ((laid.set i true).getD J false=true↔_);rw [List.getD_eq_getElem?_getD,List.getElem?_set,List.mem_append,List.mem_singleton];by_cases e:i=J
    ·subst e;simp [Ip]
    ·rw [if_neg e,<- List.getD_eq_getElem?_getD,cg.ld J aj];constructor
     ·exact .inl
     ·rintro (h | h)
      ·exact h
      ·exact absurd h.symm e
   ·rw [List.pairwise_append];exact ⟨cg.C0,List.pairwise_singleton _ _,λa aR b av=>by rw [List.mem_singleton.1 av]; exact cg.LV a aR i ⟨Ep,r,ah,NM⟩⟩
   ·have vi:kT rows o J:=⟨λh=>aj.1 (by simp [h]),aj.2⟩;rcases List.mem_append.1 aR with aR | aR
    ·exact cg.LV a aR J vi
    ·rw [List.mem_singleton.1 aR]; exact H8 J vi
   ·show x.2.length<=1000 * (o++[i]).length;simp; omega
   ·show ((laid.set i true).filter λb=>!b).length<(laid.filter λb=>!b).length;have VI:laid.getD i false=false:=by
     cases h:laid.getD i false with
     | false=>rfl
     | true=>exact absurd ((cg.ld i oH).1 h) Ep
    have key:∀ (l:List Bool) (i:Nat),i<l.length->l.getD i false=false->((l.set i true).filter λb=>!b).length<(l.filter λb=>!b).length:=by
     intro l
     induction l with
     | nil=>intro i hi; simp at hi
     | cons y l aM =>
      intro i hi aO;cases i with
      | zero =>
       have:y=false:=by simpa using aO
       subst this;simp
      | succ i =>
       have:=aM i (by simpa using hi) (by simpa using aO);simp only [List.set_cons_succ];cases y <;> simp <;> omega
    exact key laid i Ip VI
theorem SB (g:bs) (ai:g.aZ.length<=1000):Tot (CH g) λl=>eT q1 l/\∀ p,p∈l↔Qn g.aZ p:=by
 unfold CH;refine .aq (Ξ:=λl:List Int=>eT hU l/\l.length<=1000/\∀ x,x∈l↔∃ (k:Nat) (t:Tok),g.aZ[k]?=some t/\0<t.bK/\x=t.bK) ?_ λl ai=>?_
 ·refine Tot.upto (λs=>s.2) g.aZ.length (λk s=>eT hU s.1/\s.1.length<=k/\∀ x,x∈s.1↔∃ (J:Nat) (t:Tok),g.aZ[J]?=some t/\0<t.bK/\x=t.bK/\J<k) rfl (by omega) ⟨.nil,Nat.le_refl 0,λp=>⟨λh=>(by cases h),λ⟨J,t,h⟩=>by omega⟩⟩ λk s hk he bb=>?_;obtain ⟨l,i⟩:=s;obtain ⟨h1,af,aK⟩:=bb;simp only at he h1 af aK ⊢;subst he;rw [ew k (by omega)];refine Tot.ba (λaQ=>?_) (λdw=>.ag ⟨h1,by omega,λx=>(aK x).trans ⟨λ⟨J,t,a,b,c,_⟩=>⟨J,t,a,b,c⟩,λ⟨J,t,a,b,c⟩=>⟨J,t,a,b,c,?_⟩⟩⟩)
  ·have aQ:k<g.aZ.length:=by omega
   rw [dT aQ];have n2:g.aZ[k]?=some g.aZ[k]:=List.getElem?_eq_getElem aQ;simp only [Option.bind_some];refine .aq (Ξ:=λo:List Int=>eT hU o/\o.length<=k+1/\∀ x,x∈o↔∃ (J:Nat) (t:Tok),g.aZ[J]?=some t/\0<t.bK/\x=t.bK/\J<k+1) ?_ λo aV=>.ag ⟨aQ,rfl,aV⟩;refine .aq (Ξ:=λo:List Int=>eT hU o/\o.length<=k+1/\∀ x,x∈o↔∃ (J:Nat) (t:Tok),g.aZ[J]?=some t/\0<t.bK/\x=t.bK/\J<k+1) ?_ λo aV=>.ag aV;refine Tot.ba (λau=>.aq (AW l _ h1 (by omega)) λr ah=>.ag ⟨ah.1,by have:=ah.2.1; omega,λx=>?_⟩) (λau=>.ag ⟨h1,by omega,λx=>?_⟩)
   ·grind
   grind
  grind
 ·obtain ⟨aR,aA,hm⟩:=ai;refine .aq (Ξ:=λl:List dy=>eT q1 l/\∀ p,p∈l↔Qn g.aZ p) ?_ λr ah=>.ag ah;refine Tot.upto (λs=>s.2) l.length (λk s=>eT q1 s.1/\s.1.length<=1000 * k/\∀ p,p∈s.1↔(Qn g.aZ p/\p.At∈l.take k)) rfl (by omega) ⟨.nil,Nat.le_refl 0,λp=>⟨λh=>(by cases h),λh=>(by simp at h)⟩⟩ λk s hk he bb=>?_;obtain ⟨out,i⟩:=s;obtain ⟨h1,af,aK⟩:=bb;simp only at he h1 af aK ⊢;subst he;rw [ew k (by omega)];refine Tot.ba (λaQ=>?_) (λdw=>.ag ⟨h1,λp=>(aK p).trans ⟨λh=>h.1,λh=>⟨h,?_⟩⟩⟩)
  ·have aQ:k<l.length:=by omega
   have j:∃ x,x=l[k]:=⟨_,rfl⟩;obtain ⟨x,j⟩:=j;have vA:x∈l:=by rw [j]; exact List.getElem_mem aQ
   obtain ⟨_,_,_,jF,_⟩:=(hm x).1 vA;have e4:l.take (k+1)=l.take k++[x]:=by rw [List.take_add_one,List.getElem?_eq_getElem aQ,j]; rfl
   have lF:∀ y∈l.take k,y<x:=λy al=>by
    obtain ⟨J,aj,rfl⟩:=List.mem_iff_getElem.1 al;rw [List.length_take] at aj;rw [List.getElem_take,j];exact JN.1 (GA aR (by omega) aQ (by omega))
   refine .aq (Ξ:=λo:List dy=>eT q1 o/\o.length<=1000 * (k+1)/\∀ p,p∈o↔(Qn g.aZ p/\p.At∈l.take (k+1))) ?_ λo aV=>.ag ⟨aQ,rfl,aV⟩;refine Tot.upto (λs=>s.2) g.aZ.length (λJ s=>eT q1 s.1/\s.1.length<=1000 * k+J/\∀ p,p∈s.1↔(Qn g.aZ p/\(p.At∈l.take k\/(p.At=x/\p.b9<(J:Int))))) rfl (by omega) ⟨h1,by show out.length<=1000 * k+0; omega,λp=>(aK p).trans ⟨λh=>⟨h.1,.inl h.2⟩,λh=>⟨h.1,h.2.elim id λaJ=>?_⟩⟩⟩ λJ s aj he bb=>?_
   ·obtain ⟨i,t,_,e,_⟩:=h.1.val;omega
   obtain ⟨o,i⟩:=s;obtain ⟨g1,g2,g3⟩:=bb;simp only at he g1 g2 g3 ⊢;subst he;rw [ew J (by omega)];refine Tot.ba (λn4=>?_) (λdw=>.ag ⟨g1,by omega,λp=>(g3 p).trans ?_⟩)
   ·have n4:J<g.aZ.length:=by omega
    rw [dT n4,dT aQ,<- j];have n2:g.aZ[J]?=some g.aZ[J]:=List.getElem?_eq_getElem n4;simp only [Option.bind_some];refine .aq (Ξ:=λo:List dy=>eT q1 o/\o.length<=1000 * k+(J+1)/\∀ p,p∈o↔(Qn g.aZ p/\(p.At∈l.take k\/(p.At=x/\p.b9<((J+1:Nat):Int))))) ?_ λo aV=>.ag ⟨n4,rfl,aV⟩;refine .aq (Ξ:=λo:List dy=>eT q1 o/\o.length<=1000 * k+(J+1)/\∀ p,p∈o↔(Qn g.aZ p/\(p.At∈l.take k\/(p.At=x/\p.b9<((J+1:Nat):Int))))) ?_ λo aV=>.ag aV;refine Tot.ba (λau=>.aq (Ξ:=λ_=>True) (Tot.ap (by simp [lim]; omega) trivial) λ_ _=>.ag ⟨?_,by simp; omega,λp=>?_⟩) (λau=>.ag ⟨g1,by omega,λp=>(g3 p).trans ?_⟩)
    ·refine List.pairwise_append.2 ⟨g1,List.pairwise_singleton ..,λa aR b av=>?_⟩
     grind [JL]
    ·rw [List.mem_append,List.mem_singleton,g3];constructor
     ·rintro (⟨h,aJ | ⟨aJ,f'⟩⟩ | rfl)
      ·grind
      ·grind
      ·exact ⟨⟨J,_,n2,by omega,by rw [au]⟩,.inr ⟨rfl,by show (J:Int)<((J+1:Nat):Int); omega⟩⟩
     ·rintro ⟨h,aJ | ⟨aJ,f'⟩⟩
      ·grind
      ·by_cases e:p.b9=(J:Int)
       ·right;obtain ⟨a,b⟩:=p
        grind
       grind
    ·constructor
     ·grind
     ·rintro ⟨h,aJ | ⟨aJ,f'⟩⟩
      ·grind
      ·refine ⟨h,.inr ⟨aJ,?_⟩⟩;obtain ⟨i,t,cw,cd,fC,_⟩:=h.val
       grind
   ·rw [e4,List.mem_append,List.mem_singleton];constructor
    ·grind
    ·rintro ⟨h,aJ | aJ⟩
     ·grind
     ·obtain ⟨i,t,cw,cd,fC,_⟩:=h.val
      grind
  ·rw [List.take_of_length_le (by omega),hm];obtain ⟨i,t,cw,cd,fC,pk⟩:=h.val
   grind
theorem L3 (l:List Row) (ai:l.length<=200) (ah:∀ r∈l,kZ r.h5/\r.h5.length<=1000):Tot ((xN l).bind λx=>(vU x.2).bind λc=>some (x.1,c)) λr=>r.1=l.map (·.Def)/\∃ o,nR (l.map (·.h5)) o/\dA (l.map (·.h5)) o.reverse r.2:=by
 unfold xN;refine .aq (Ξ:=λs:List Int × List (List dy)=>s.1=l.map (·.Def)/\s.2=l.map (·.h5)) ?_ λs az=>?_
 ·refine .aq (Ξ:=λs:List Int × List (List dy)=>s.1=l.map (·.Def)/\s.2=l.map (·.h5)) ?_ λs az=>.ag az;refine Tot.upto (λs=>s.2.2) l.length (λk s=>s.1=(l.take k).map (·.Def)/\s.2.1=(l.take k).map (·.h5)) rfl (by omega) ⟨rfl,rfl⟩ λk s hk he bb=>?_;obtain ⟨A,B,i⟩:=s;obtain ⟨h1,af⟩:=bb;simp only at he h1 af ⊢;subst he h1 af;rw [ew k (by omega)];refine Tot.ba (λaQ=>?_) (λdw=>.ag ?_)
  ·have aQ:k<l.length:=by omega
   rw [dT aQ];refine Tot.sm (.aq (Ξ:=λ_=>True) (Tot.ap (by simp [lim]; omega) trivial) λ_ _=>Tot.sm (.aq (Ξ:=λ_=>True) (Tot.ap (by simp [lim]; omega) trivial) λ_ _=>.ag ⟨aQ,rfl,?_,?_⟩))
   ·show _=(l.take (k+1)).map _;rw [jc aQ,List.map_append]; rfl
   ·show _=(l.take (k+1)).map _;rw [jc aQ,List.map_append]; rfl
  ·have e:l.take k=l:=List.take_of_length_le (by omega);rw [e]; exact ⟨rfl,rfl⟩
 ·obtain ⟨h1,af⟩:=az;rw [af];have da:pU (l.map (·.h5)):=⟨by simp; omega,λr dP=>by
   obtain ⟨q,a7,rfl⟩:=List.mem_map.1 dP;exact (ah q a7).1⟩
  have fh:DF (l.map (·.h5)):=⟨by simp; omega,λr dP=>by
   obtain ⟨q,a7,rfl⟩:=List.mem_map.1 dP;exact (ah q a7).2⟩
  exact .aq (Sz _ fh) λc aa=>.ag ⟨h1,aa.2 da⟩
structure yG (g:bs) (d:iE) (t:Tables):Prop where
 Hb:t.Def=(d.cM.map uJ).map (·.Def)
 gd:t.kU=((List.range g.bX.length).map λa=>uK (gQ d a)).map (·.Def)
 ac:∃ o,nR ((d.cM.map uJ).map (·.h5)) o/\dA ((d.cM.map uJ).map (·.h5)) o.reverse t.cM
 go:∃ o,nR (((List.range g.bX.length).map λa=>uK (gQ d a)).map (·.h5)) o/\dA (((List.range g.bX.length).map λa=>uK (gQ d a)).map (·.h5)) o.reverse t.eB
 le:t.Left=g.bd.map (·.Left)
 lI:t.kV=g.bd.map λp=>(p.e7.length:Int)
 l0:eT q1 t.ft/\∀ p,p∈t.ft↔Qn g.aZ p
theorem Oz {rows:List e8}{c j9:gX}(h:∃ o,nR rows o/\dA rows o.reverse c) (aJ:∃ o,nR rows o/\dA rows o.reverse j9):c=j9:=by
 obtain ⟨o,h1,af⟩:=h;obtain ⟨hl,mO,Hy⟩:=aJ;rw [h1.uniq mO] at af;exact af.AZ rfl (λi r cW e b_ p=>by rw [e] at b_; cases b_; exact Iff.rfl) Hy
theorem yG.eq {g:bs}{d:iE}{t t':Tables}(h:yG g d t) (aJ:yG g d t'):t=t':=by
 obtain ⟨aB,a2,a3,a4,a5,Rg,Rh⟩:=t;obtain ⟨hg,h6,kD,yQ,GD,R8,R9⟩:=t';have cw:aB=hg:=h.Hb.trans aJ.Hb.symm;have cd:a2=h6:=Oz h.ac aJ.ac;have fC:a3=kD:=h.gd.trans aJ.gd.symm;have pk:a4=yQ:=Oz h.go aJ.go;have qL:a5=GD:=h.le.trans aJ.le.symm;have ab':Rg=R8:=h.lI.trans aJ.lI.symm;have aca:Rh=R9:=h.l0.1.uniq O3 aJ.l0.1 λp=>(h.l0.2 p).trans (aJ.l0.2 p).symm
 grind
theorem Py {g:bs}{n:Nat}{d:iE}(aP:ry g n d):∀ r∈d.cM.map uJ,kZ r.h5/\r.h5.length<=1000:=λr ah=>by
 have ar:=aP.rK.jZ;obtain ⟨q,a7,rfl⟩:=List.mem_map.1 ah;have ai:=(aP.j8 q a7).1;have:=Fl (qX (ob (red q))) ox q;exact ⟨Ph _ _ (by omega),by show (lk _ _ q).length<=_; omega⟩
theorem Pz {g:bs}{n:Nat}{d:iE}(aP:ry g n d):∀ r∈(List.range g.bX.length).map (λa=>uK (gQ d a)),kZ r.h5/\r.h5.length<=1000:=λr ah=>by
 have k9:=aP.gU;have w8:=aP.o;obtain ⟨a,_,rfl⟩:=List.mem_map.1 ah;have ai:=DV d a;have:=Fl (r7 (ob (pos (gQ d a)))) id (gQ d a);exact ⟨Ph _ _ (by omega),by show (lk _ _ (gQ d a)).length<=_; omega⟩
theorem AS (g:bs) (n:Nat) (d:iE) (aP:ry g n d):Tot (zQ g d) (yG g d):=by
 have aN:=aP.rK;have ar:=aN.jZ;have kG:=aN.dk;have w_:=aN.hV;have k9:=aP.gU;have tT:=aP.a;have w8:=aP.o;unfold zQ;refine .aq (Sy g n d aP) λaX h1=>?_;subst h1;obtain ⟨r,ah,af⟩:=L3 _ (by simp; omega) (Py aP);rw [Option.bind_eq_some_iff] at ah;obtain ⟨y2,wO,ah⟩:=ah;rw [Option.bind_eq_some_iff] at ah;obtain ⟨eE,TI,ah⟩:=ah;cases ah;rw [wO,Option.bind_some,TI];refine Tot.sm (.aq (SA g n d aP) λaY aK=>?_);subst aK;obtain ⟨r,ah,bu⟩:=L3 _ (by simp; omega) (Pz aP);rw [Option.bind_eq_some_iff] at ah;obtain ⟨dd,TJ,ah⟩:=ah;rw [Option.bind_eq_some_iff] at ah;obtain ⟨ht,TK,ah⟩:=ah;cases ah;rw [TJ,Option.bind_some,TK];refine Tot.sm (.aq (Ξ:=λs:List Int × List Int=>s.1=g.bd.map (·.Left)/\s.2=g.bd.map λp=>(p.e7.length:Int)) ?_ λbN dM=>.aq (SB g (by omega)) λdS jk=>.ag ⟨af.1,bu.1,af.2,bu.2,dM.1,dM.2,jk.1,jk.2⟩);refine Tot.upto (λs=>s.2.2) g.bd.length (λk s=>s.1=(g.bd.take k).map (·.Left)/\s.2.1=(g.bd.take k).map λp=>(p.e7.length:Int)) rfl (by omega) ⟨rfl,rfl⟩ λk s Bw he bb=>?_;obtain ⟨A,B,i⟩:=s;obtain ⟨h1,af⟩:=bb;simp only at he h1 af ⊢;subst he h1 af;rw [ew k (by omega)];refine Tot.ba (λaQ=>?_) (λdw=>.ag ?_)
 ·have aQ:k<g.bd.length:=by omega
  rw [dT aQ];refine Tot.sm (.aq (Ξ:=λ_=>True) (Tot.ap (by simp [lim]; omega) trivial) λ_ _=>Tot.sm (.aq (Ξ:=λ_=>True) (Tot.ap (by simp [lim]; omega) trivial) λ_ _=>.ag ⟨aQ,rfl,?_,?_⟩))
  ·show _=(g.bd.take (k+1)).map _;rw [jc aQ,List.map_append]; rfl
  ·show _=(g.bd.take (k+1)).map _;rw [jc aQ,List.map_append]; rfl
 ·have e:g.bd.take k=g.bd:=List.take_of_length_le (by omega);rw [e]; exact ⟨rfl,rfl⟩
def DI (s:Source) (g:bs):Prop:=(∀ t∈g.aZ,t.Tag.size<=1000)/\(∀ t∈g.bX,t.Tag.size<=1000)/\g.b5=s.b5/\g.b'=s.b'
theorem YC (s:Source) (av:nU s):Par (s0 s) λr=>r.2.2.2=true->DI s r.1:=by
 have J_:Par (uF s) λr=>r.2=true->DI s r.1:=by
  unfold uF;exact .aq (YD s av) λr ah=>.ag λh=>ah (of_decide_eq_true h)
 have J9:Par (uD s) λr=>r.2.2=true->DI s r.1:=by
  unfold uD;exact .aq J_ λr ah=>Par.bl (λ_=>.ag λh=>by cases h) (λh=>.aq (Ξ:=λ_=>True) (λ_ _=>trivial) λm _=>.ag λ_=>ah (by simpa using h))
 have J8:Par (s3 s) λr=>r.2.2.2=true->DI s r.1:=by
  unfold s3;exact .aq J9 λr ah=>Par.bl (λ_=>.ag λh=>by cases h) (λh=>.aq (Ξ:=λ_=>True) (λ_ _=>trivial) λsR _=>.aq (Ξ:=λ_=>True) (λ_ _=>trivial) λcs _=>.ag λ_=>ah (by simpa using h))
 unfold s0;exact .aq J8 λr ah=>Par.bl (λ_=>.ag λh=>by cases h) (λh=>.aq (Ξ:=λ_=>True) (λ_ _=>trivial) λ_ _=>.aq (Ξ:=λ_=>True) (λ_ _=>trivial) λ_ _=>.ag λ_=>ah (by simpa using h))
structure Made (s:Source) (r:bs × Tables × List ByteArray × Bool):Prop where
 g:gi r.1
 k:tm r.1
 x:Az r.1
 t:∃ n d,ry r.1 n d/\yG r.1 d r.2.1
 l:r.2.2.1.length<=60
 b:∀ t∈r.2.2.1,t.size<=3000000
 xU:r.1.b5=s.b5
 tail:r.1.b'=s.b'
theorem mL (s:Source) (av:nU s):Tot (xI s) λr=>r.2.2.2=true->Made s r:=by
 unfold xI;refine .aq (Par.iO (Sv s av) (YC s av)) λaX h1=>Tot.bl (λ_=>.ag λh=>by cases h) (λaS=>?_);have ar:aX.2.2.2=true:=by simpa using aS
 obtain ⟨⟨n,iK⟩,hk⟩:=h1.1 ar;obtain ⟨t1,t2,t3,t4⟩:=h1.2 ar;have j:Az aX.1:=⟨λp au=>(iK.rK.gq p au).code,λp au=>(iK.rK.gq p au).args,t1,t2⟩;refine .aq (p0 aX.1 iK.rK j) λaY aK=>.aq (AS aX.1 n aX.2.1 iK) λbP bu=>.ag λh=>?_;obtain ⟨g1,g2⟩:=aK (of_decide_eq_true h);exact ⟨iK.rK,hk,j,⟨n,aX.2.1,iK,bu⟩,g1,g2,t3,t4⟩
theorem i58 (a:Act):Tot (s4 a) i64:=by
 unfold s4;refine .aq (Ξ:=λ_=>True) (Tot.ba (λ_=>Tot.ba (λ_=>.ag trivial) (λ_=>.ag trivial)) (λ_=>.ag trivial)) λc _=>Tot.bl (λ_=>.ag (Ji _)) (λ_=>?_);refine .aq (Ξ:=λ_=>True) (Tot.ba (λ_=>Tot.ba (λ_=>.ag trivial) (λ_=>.ag trivial)) (λ_=>.ag trivial)) λc _=>Tot.bl (λ_=>.ag (Ji _)) (λ_=>?_);refine .aq (Ξ:=λ_=>True) (Tot.ba (λ_=>.ag trivial) (λ_=>.ag trivial)) λc _=>Tot.bl (λ_=>.ag (by unfold i64; decide)) (λ_=>?_);exact .aq (Ξ:=λ_=>True) (Tot.ba (λ_=>.ag trivial) (λ_=>.ag trivial)) λc _=>Tot.bl (λ_=>.ag (by unfold i64; decide)) (λ_=>.ag (by unfold i64; decide))
theorem S1 (a:Act):i64 (ox a):=by
 obtain ⟨v,hv,h⟩:=i58 a;have:ox a=v:=by unfold ox; rw [hv]; rfl
 rw [this]; exact h
theorem OW {l:List Int}(h:DG l):i64 (ob l):=by
 obtain ⟨_,_,aK⟩:=JY h;unfold i64;rcases aK with ⟨_,e⟩ | ⟨hm,_⟩
 ·omega
 ·have:=h.2 _ hm; omega
theorem Step.Sd {r:e8}{i b:Nat}{c j9:gX}(h:Step r i c j9 b):b<=c.ck.length:=Classical.byContradiction λaA=>h.least c.ck.length (by omega) λp _=>by
 rw [List.getD_eq_getElem?_getD,List.getElem?_eq_none (by omega)]; rfl
theorem dA.aU {rows:List e8}(da:pU rows) (hv:∀ r∈rows,∀ p∈r,i64 p.b9) {l:List Nat}{c:gX}(h:dA rows l c) :
  c.ck.length<=1000 * l.length/\(∀ k,i64 (c.b9.getD k 0))/\(∀ k,0<=c.ck.getD k 0/\c.ck.getD k 0<=rows.length)/\∀ x∈c.c6,0<=x/\x<=1000 * l.length:=by
 induction h with
 | nil=>exact ⟨Nat.zero_le _,λk=>by unfold i64; simp,λk=>by simp,λx j=>by rw [List.eq_of_mem_replicate j]; simp⟩
 | @cons i b l c j9 r ah hi h az aM =>
  obtain ⟨h1,af,aK,bu⟩:=aM;have av:=az.Sd;have ug:r∈rows:=List.mem_of_getElem? ah;have oH:=(List.getElem?_eq_some_iff.1 ah).1;have cg:=az.put;refine ⟨?_,λk=>?_,λk=>?_,λx j=>?_⟩
  ·simp only [List.length_cons];rcases cg.hi with e | ⟨p,au,e⟩
   ·omega
   ·have:=(da.rows r ug).at' p au; omega
  ·by_cases hk:∃ p∈r,b+p.At.toNat=k
   ·obtain ⟨p,au,rfl⟩:=hk;rw [cg.val p au]; exact hv r ug p au
   ·rw [cg.FM k λp au e=>hk ⟨p,au,e⟩]; exact af k
  ·by_cases hk:∃ p∈r,b+p.At.toNat=k
   ·obtain ⟨p,au,rfl⟩:=hk;rw [cg.k3 p au]; omega
   ·rw [cg.DU k λp au e=>hk ⟨p,au,e⟩]; exact aK k
  ·rw [az.base] at j;simp only [List.length_cons];rcases List.mem_or_eq_of_mem_set j with j | j
   ·have:=bu x j; omega
   ·subst j; omega
theorem MO {l:List Int}{P:Int->Prop}(h:∀ k,P (l.getD k 0)):∀ x∈l,P x:=λx j=>by
 obtain ⟨k,hk,rfl⟩:=List.mem_iff_getElem.1 j;have:=h k
 rwa [List.getD_eq_getElem?_getD,List.getElem?_eq_getElem hk] at this
def lP (l:List Int):Prop:=l.length<=1000000/\∀ x∈l,i64 x
theorem XO {α:Type} [DecidableEq α]:∀ (l m:List α),l.Nodup->(∀ x∈l,x∈m)->l.length<=m.length:=by
 intro l
 induction l with
 | nil=>intro m _ _; exact Nat.zero_le _
 | cons a l aM =>
  intro m aA az;rw [List.nodup_cons] at aA;have aR:=az a (by simp);have:=aM (m.erase a) aA.2 λx j=>(List.mem_erase_of_ne (λe=>aA.1 (by rw [<- e]; exact j))).2 (az x (by simp [j]));have ai:=List.length_erase_of_mem aR;have:0<m.length:=List.length_pos_of_mem aR;simp only [List.length_cons];omega
theorem Mc {rows:List e8}(da:pU rows) (hv:∀ r∈rows,∀ p∈r,i64 p.b9) {c:gX}(h:∃ o,nR rows o/\dA rows o.reverse c):lP c.c6/\lP c.b9/\lP c.ck:=by
 obtain ⟨o,aV,ix⟩:=h;have aA:=da.n;have w8:=aV.len;obtain ⟨h1,af,aK,bu⟩:=ix.aU da hv;rw [List.length_reverse] at h1 bu;have hlen:=ix.len;refine ⟨⟨by omega,λx j=>?_⟩,⟨by omega,MO af⟩,⟨by omega,MO λk=>?_⟩⟩
 ·have:=bu x j; unfold i64; omega
 ·have:=aK k; unfold i64; omega
def kt (t:Tables):List (List Int):=[t.Def,t.cM.c6,t.cM.b9,t.cM.ck,t.kU,t.eB.c6,t.eB.b9,t.eB.ck,t.Left,t.kV,t.ft.map (·.At),t.ft.map (·.b9)]
theorem ZE {g:bs}{n:Nat}{d:iE}{t:Tables}(iK:ry g n d) (dt:yG g d t) (hk:tm g):t.ft.length<=1000/\∀ l∈kt t,lP l:=by
 have aN:=iK.rK;have ar:=aN.jZ;have kG:=aN.dk;have w_:=aN.hV;have k9:=iK.gU;have tT:=iK.a;have w8:=iK.o;have xC:pU ((d.cM.map uJ).map (·.h5)):=⟨by simp; omega,λr ah=>by
  obtain ⟨q,a7,rfl⟩:=List.mem_map.1 ah;exact (Py iK q a7).1⟩
 have X4:pU (((List.range g.bX.length).map λa=>uK (gQ d a)).map (·.h5)):=⟨by simp; omega,λr ah=>by
  obtain ⟨q,a7,rfl⟩:=List.mem_map.1 ah;exact (Pz iK q a7).1⟩
 have GX:=Mc xC (λr ah p au=>by
  obtain ⟨q,a7,rfl⟩:=List.mem_map.1 ah;obtain ⟨gB,_,rfl⟩:=List.mem_map.1 a7;obtain ⟨k,x,_,_,rfl⟩:=JQ.1 au;exact S1 x) dt.ac
 have Ma:∀ a,a<g.bX.length->∀ x∈gQ d a,-1<=x/\x<n:=λa aR x j=>by
  unfold gQ at j;obtain ⟨r,ah,rfl⟩:=List.mem_map.1 j;obtain ⟨h1,af⟩:=iK.Cu r ah;have ai:a<r.length:=by omega
  rw [List.getD_eq_getElem?_getD,List.getElem?_eq_getElem ai];exact af _ (List.getElem_mem ai)
 have GY:=Mc X4 (λr ah p au=>by
  obtain ⟨q,a7,rfl⟩:=List.mem_map.1 ah;obtain ⟨a,aR,rfl⟩:=List.mem_map.1 a7;obtain ⟨k,x,j,_,rfl⟩:=JQ.1 au;have:=Ma a (List.mem_range.1 aR) x (List.mem_of_getElem? j);show i64 x;unfold i64; omega) dt.go
 have ND:t.ft.length<=40:=by
  have h1:t.ft.Nodup:=dt.l0.1.nd O3;have af:=XO t.ft (g.aZ.zipIdx.map λp=>(⟨p.1.bK,(p.2:Int)⟩:dy)) h1 λp au=>by
   obtain ⟨k,x,j,_,rfl⟩:=(dt.l0.2 p).1 au;exact List.mem_map.2 ⟨(x,k),List.mem_zipIdx_iff_getElem?.2 j,rfl⟩
  simp at af;omega
 refine ⟨by omega,λl ai=>?_⟩;unfold kt at ai;simp only [List.mem_cons,List.not_mem_nil,or_false] at ai;rcases ai with rfl | rfl | rfl | rfl | rfl | rfl | rfl | rfl | rfl | rfl | rfl | rfl
 ·rw [dt.Hb];refine ⟨by simp; omega,λx j=>?_⟩;obtain ⟨q,a7,rfl⟩:=List.mem_map.1 j;obtain ⟨r,ah,rfl⟩:=List.mem_map.1 a7;obtain ⟨h1,af⟩:=iK.j8 r ah;exact OW (Pp aN h1 af)
 ·exact GX.1
 ·exact GX.2.1
 ·exact GX.2.2
 ·rw [dt.gd];refine ⟨by simp; omega,λx j=>?_⟩;obtain ⟨q,a7,rfl⟩:=List.mem_map.1 j;obtain ⟨a,aR,rfl⟩:=List.mem_map.1 a7;exact OW (Pg (by unfold gQ; simp; omega) λv hv=>by have:=Ma a (List.mem_range.1 aR) v hv; omega)
 ·exact GY.1
 ·exact GY.2.1
 ·exact GY.2.2
 ·rw [dt.le];refine ⟨by simp; omega,λx j=>?_⟩;obtain ⟨p,au,rfl⟩:=List.mem_map.1 j;have:=(aN.gq p au).left;unfold i64; omega
 ·rw [dt.lI];refine ⟨by simp; omega,λx j=>?_⟩;obtain ⟨p,au,rfl⟩:=List.mem_map.1 j;have:=aN.aE p au;unfold i64; omega
 ·refine ⟨by simp; omega,λx j=>?_⟩;obtain ⟨p,au,rfl⟩:=List.mem_map.1 j;obtain ⟨k,y,al,aO,rfl⟩:=(dt.l0.2 p).1 au;show i64 y.bK;have:y.bK<=100000:=by
   by_cases aK:3<=k
   ·exact (hk.pos k y aK al).2
   ·have:=hk.aP k y (by omega) al; omega
  unfold i64; omega
 ·refine ⟨by simp; omega,λx j=>?_⟩;obtain ⟨p,au,rfl⟩:=List.mem_map.1 j;obtain ⟨k,y,al,aO,rfl⟩:=(dt.l0.2 p).1 au;have:=(List.getElem?_eq_some_iff.1 al).1;show i64 (k:Int);unfold i64; omega
theorem Tq (s:ByteArray) (m n:Int) (h:0<=m/\m<=n/\n<=s.size):(oz s m n).size=(n - m).toNat:=by
 unfold oz;simp [ByteArray.size_extract];omega
theorem pj (s:ByteArray) (n:Int) (aA:0<=n):Tot (qo s n) λr=>(r.size:Int)<=n:=by
 unfold qo;refine Tot.ba (λh=>.bi (.cut ⟨by omega,by omega,by omega⟩ (.ag ?_))) (λh=>.ag (by omega));rw [Tq _ _ _ ⟨by omega,by omega,by omega⟩]; omega
theorem hI (l:List Int) (n:Int) (aA:0<=n):Tot (Kb l n) λr=>(r.length:Int)<=n/\∀ x∈r,x∈l:=by
 unfold Kb;refine Tot.ba (λh=>.bi (.sub ⟨by omega,by omega,by omega⟩ (.ag ?_))) (λh=>.ag ⟨by omega,λ_ h=>h⟩);refine ⟨by simp; omega,λx j=>?_⟩;exact List.mem_of_mem_drop (List.mem_of_mem_take j)
theorem t3 (a0:ByteArray) (aB:List Int) (ah:∀ x∈aB,i64 x):Kc a0 aB=some true:=by
 suffices h:Tot (Kc a0 aB) λr=>r=true by
  obtain ⟨r,ah,e⟩:=h; rw [ah,e]
 unfold Kc;rw [Qy];refine Tot.sm (.aq (pj a0 40 (by omega)) λn aA=>.aq (hI aB 100 (by omega)) λl ai=>?_);have h1:=L1 n l (by omega) (by omega) λx j=>ah x (ai.2 x j);have af:=sq n l (by omega) (by omega) λx j=>ah x (ai.2 x j);rw [h1,af];exact Tot.sm (Tot.sm (.ag (decide_eq_true rfl)))
open Go Go.Own Go.Sort Go.Lib
theorem tH (t:Tables) (h:t.ft.length<=1000000):xL t=some (kt t):=by
 suffices az:Tot (xL t) λr=>r=kt t by
  obtain ⟨r,ah,e⟩:=az; rw [ah,e]
 unfold xL;refine .aq (Ξ:=λs:List Int × List Int=>s.1=t.ft.map (·.At)/\s.2=t.ft.map (·.b9)) ?_ λs az=>.ag (by rw [az.1,az.2]; rfl);refine Tot.upto (λs=>s.2.2) t.ft.length (λk s=>s.1=(t.ft.take k).map (·.At)/\s.2.1=(t.ft.take k).map (·.b9)) rfl (by omega) ⟨rfl,rfl⟩ λk s hk he bb=>?_;obtain ⟨A,B,i⟩:=s;obtain ⟨h1,af⟩:=bb;simp only at he h1 af ⊢;subst he h1 af;rw [ew k (by omega)];refine Tot.ba (λaQ=>?_) (λdw=>.ag ?_)
 ·have aQ:k<t.ft.length:=by omega
  rw [dT aQ];refine Tot.sm (.aq (Ξ:=λ_=>True) (Tot.ap (by simp [lim]; omega) trivial) λ_ _=>.aq (Ξ:=λ_=>True) (Tot.ap (by simp [lim]; omega) trivial) λ_ _=>.ag ⟨aQ,rfl,?_,?_⟩)
  ·show _=(t.ft.take (k+1)).map _;rw [jc aQ,List.map_append]; rfl
  ·show _=(t.ft.take (k+1)).map _;rw [jc aQ,List.map_append]; rfl
 ·have e:t.ft.take k=t.ft:=List.take_of_length_le (by omega);rw [e]; exact ⟨rfl,rfl⟩
theorem Sw (t:Tables) (h:t.ft.length<=1000000):xM t=some (kt t):=by
 suffices az:Tot (xM t) λr=>r=kt t by
  obtain ⟨r,ah,e⟩:=az; rw [ah,e]
 unfold xM;refine .aq (Ξ:=λs:List Int × List Int=>s.1=t.ft.map (·.At)/\s.2=t.ft.map (·.b9)) ?_ λs az=>.ag (by rw [az.1,az.2]; rfl);refine Tot.upto (λs=>s.2.2) t.ft.length (λk s=>s.1=(t.ft.take k).map (·.At)/\s.2.1=(t.ft.take k).map (·.b9)) rfl (by omega) ⟨rfl,rfl⟩ λk s hk he bb=>?_;obtain ⟨A,B,i⟩:=s;obtain ⟨h1,af⟩:=bb;simp only at he h1 af ⊢;subst he h1 af;rw [ew k (by omega)];refine Tot.ba (λaQ=>?_) (λdw=>.ag ?_)
 ·have aQ:k<t.ft.length:=by omega
  rw [dT aQ];refine Tot.sm (.aq (Ξ:=λ_=>True) (Tot.ap (by simp [lim]; omega) trivial) λ_ _=>Tot.sm (.aq (Ξ:=λ_=>True) (Tot.ap (by simp [lim]; omega) trivial) λ_ _=>.ag ⟨aQ,rfl,?_,?_⟩))
  ·show _=(t.ft.take (k+1)).map _;rw [jc aQ,List.map_append]; rfl
  ·show _=(t.ft.take (k+1)).map _;rw [jc aQ,List.map_append]; rfl
 ·have e:t.ft.take k=t.ft:=List.take_of_length_le (by omega);rw [e]; exact ⟨rfl,rfl⟩
def Al (t:Tok):List UInt8:=bif t.Lit then [] else [99,111,110,115,116,32]++t.Name.data.toList++[32,61,32]++nC t.bK++[10]
def rk (l:List Tok):List UInt8:=l.flatMap Al
def yL (p:ByteArray × Nat):List UInt8:=bif decide (p.1=⟨#[]⟩) then [] else [9,99,97,115,101,32]++nC p.2++[58,10,9,9]++p.1.data.toList++[10]
def pe (l:List ByteArray):List UInt8:=l.zipIdx.flatMap yL
def EZ (p:ByteArray × List Int):List UInt8:=vJ p.1 p.2++[10]
def sS (l:List (ByteArray × List Int)):List UInt8:=l.flatMap EZ
def kq:List ByteArray:=(CC).getD []
theorem XR:CC=some kq:=rfl
theorem XS:Fg=some kq:=rfl
theorem sU:kq.length=12:=rfl
theorem OK:∀ x∈kq,x.size<=20:=by
 have:kq.all (λx=>decide (x.size<=20))=true:=by kernel_rfl
 exact λx j=>of_decide_eq_true (List.all_eq_true.1 this x j)
def ua (g:bs):List UInt8:=[47,47,32,67,111,100,101,32,109,97,100,101,32,98,121,32,121,117,99,99,97,32]++nC g.b5.size++[10]++g.b5.data.toList++[10]
def Rv:List UInt8:=[102,117,110,99,32,121,121,65,99,116,105,111,110,40,112,32,105,110,116,44,32,121,121,68,111,108,108,97,114,32,91,93,121,121,83,121,109,84,121,112,101,44,32,121,121,86,65,76,32,121,121,83,121,109,84,121,112,101,41,32,121,121,83,121,109,84,121,112,101,32,123,10,9,115,119,105,116,99,104,32,112,32,123,10]
def Rw:List UInt8:=[9,125,10,9,114,101,116,117,114,110,32,121,121,86,65,76,10,125,10]
def wM (g:bs):List UInt8:=ua g++rk (g.aZ.drop 3)
def rI (g:bs) (t:Tables):List UInt8:=wM g++sS (kq.zip (kt t))++Rv
def Hk (g:bs) (t:Tables) (ts:List ByteArray):List UInt8:=rI g t++pe ts++(Rw++g.b'.data.toList)
theorem KG (l:List Tok) (x:Tok):rk (l++[x])=rk l++Al x:=by simp [rk]
theorem Lz (l:List ByteArray) (x:ByteArray):pe (l++[x])=pe l++yL (x,l.length):=by simp [pe,List.zipIdx_append]
theorem Ox (l:List (ByteArray × List Int)) (x:ByteArray × List Int):sS (l++[x])=sS l++EZ x:=by simp [sS]
structure yo (g:bs) (t:Tables) (ts:List ByteArray):Prop where
 MN:gi g
 Ht:tm g
 n:t.ft.length<=1000
 l:∀ l∈kt t,lP l
 Qj:ts.length<=60
 hN:∀ x∈ts,x.size<=3000000
 xU:g.b5.size<=dp
 tail:g.b'.size<=dp
theorem z22:(⟨#[47,47,32,67,111,100,101,32,109,97,100,101,32,98,121,32,121,117,99,99,97,32]⟩:ByteArray).size=22:=rfl
theorem kA:(⟨#[10]⟩:ByteArray).size=1:=rfl
theorem di:(⟨#[99,111,110,115,116,32]⟩:ByteArray).size=6:=rfl
theorem rr:(⟨#[9,99,97,115,101,32]⟩:ByteArray).size=6:=rfl
theorem z3:(⟨#[32,61,32]⟩:ByteArray).size=3:=rfl
theorem z4:(⟨#[58,10,9,9]⟩:ByteArray).size=4:=rfl
theorem Dp:(⟨#[9,125,10,9,114,101,116,117,114,110,32,121,121,86,65,76,10,125,10]⟩:ByteArray).size=19:=rfl
theorem F':(⟨#[102,117,110,99,32,121,121,65,99,116,105,111,110,40,112,32,105,110,116,44,32,121,121,68,111,108,108,97,114,32,91,93,121,121,83,121,109,84,121,112,101,44,32,121,121,86,65,76,32,121,121,83,121,109,84,121,112,101,41,32,121,121,83,121,109,84,121,112,101,32,123,10,9,115,119,105,116,99,104,32,112,32,123,10]⟩:ByteArray).size=84:=rfl
theorem z0:(⟨#[]⟩:ByteArray).size=0:=rfl
theorem d0:(⟨#[]⟩:ByteArray).data.toList=[]:=rfl
theorem yo.num {g:bs}{t:Tables}{ts:List ByteArray}(h:yo g t ts) {k:Nat}(aK:3<=k) (hk:k<g.aZ.length):i64 (g.aZ[k]).bK:=by
 have:=h.Ht.pos k _ aK (List.getElem?_eq_getElem hk);unfold i64; omega
theorem Ou {n:ByteArray}{l:List Int}(aA:n.size<=20) (ai:lP l):({ data:=(vJ n l).toArray }:ByteArray).size<=23000100:=by
 rw [pY];show (vJ n l).length<=_;have h1:=Oe l 0 ai.2;have af:=ai.1;rw [pY] at aA;unfold vJ;have aK:qZ.length=4:=rfl;have bu:q0.length=9:=rfl;simp only [List.length_append,List.length_singleton];omega
set_option maxHeartbeats 1000000 in
theorem St (g:bs) (t:Tables) (ts:List ByteArray) (h:yo g t ts):Tot (xJ g t ts) λr=>r.data.toList=Hk g t ts:=by
 unfold xJ;have IL:=h.xU;have IS:=h.tail;have uj:=h.MN.jZ;have IV:=h.Qj;simp only [dp] at IL IS;have pi:i64 (g.b5.size:Int):=by unfold i64; omega
 rw [DT _ pi];have ps:=vE pi;refine Tot.sm (.bi (.cat (by rw [z22]; omega) (.bi (.cat (by simp only [fB,z22,kA]; omega) (.bi (.cat (by simp only [fB,z22,kA]; omega) (.bi (.cat (by simp only [fB,z22,kA]; omega) (.aq (Ξ:=λb:ByteArray=>b.data.toList=ua g/\b.size<=1000000000100) (.mK (by simp only [fB,z22,kA,z0]; omega) ⟨?_,by simp only [fB,z22,kA,z0]; omega⟩) λbN dM=>?_)))))))))
 ·simp only [iW]; rfl
 obtain ⟨d6,cP⟩:=dM
 -- tokens
 refine .aq (Ξ:=λb:ByteArray=>b.data.toList=wM g/\b.size<=41000000010000) ?_ λb2 mP=>?_
 ·refine Tot.upto (λz=>z.2) g.aZ.length (λk z=>z.1.data.toList=ua g++rk ((g.aZ.take k).drop 3)/\z.1.size<=1000000000100+k * 1000000000100) rfl (by omega) ⟨by rw [d6]; simp [rk],cP⟩ λk z hk he bb=>?_;obtain ⟨b,i⟩:=z;obtain ⟨h1,af⟩:=bb;simp only at he h1 af ⊢;subst he;rw [ew k (by omega)];refine Tot.ba (λaQ=>?_) (λdw=>.ag ?_)
  ·have aQ:k<g.aZ.length:=by omega
   rw [dT aQ];have e4:=jc aQ;have II:=h.Ht.l0 _ (List.getElem_mem aQ);have ND:3<=k->i64 (g.aZ[k]).bK:=λaK=>h.num aK aQ;generalize g.aZ[k]=tk at *;simp only [dp] at II;refine .aq (Ξ:=λdz:ByteArray=>dz.data.toList=ua g++rk ((g.aZ.take (k+1)).drop 3)/\dz.size<=1000000000100+(k+1) * 1000000000100) (Tot.sm ?_) λdz gG=>.ag ⟨aQ,rfl,gG⟩;have zd:3<=k->(g.aZ.take (k+1)).drop 3=(g.aZ.take k).drop 3++[tk]:=λaK=>by
    rw [e4,List.drop_append_of_le_length (by simp; omega)]
   have VE:¬ 3<=k->(g.aZ.take (k+1)).drop 3=(g.aZ.take k).drop 3:=λaK=>by
    rw [List.drop_eq_nil_of_le (by simp; omega),List.drop_eq_nil_of_le (by simp; omega)]
   refine .aq (Ξ:=λc=>c=(decide (3<=k)&&!tk.Lit)) (Tot.ba (λa=>.ag (by simp; omega)) (λa=>.ag (by simp; omega))) λc aa=>?_;refine .aq (Ξ:=λdz:ByteArray=>dz.data.toList=ua g++rk ((g.aZ.take (k+1)).drop 3)/\dz.size<=1000000000100+(k+1) * 1000000000100) ?_ λdz gG=>.ag gG;refine Tot.bl (λVA=>?_) (λIb=>.ag ?_)
   ·rw [VA] at aa;have aa:=aa.symm;rw [Bool.and_eq_true,decide_eq_true_eq,Bool.not_eq_true'] at aa;obtain ⟨aK,kp⟩:=aa;have hi:=ND aK;have eR:=vE hi;rw [DT _ hi];refine .bi (.cat (by rw [di]; omega) (.bi (.cat (by simp only [fB,di,z3]; omega) (Tot.sm (.bi (.cat (by simp only [fB,di,z3]; omega) (.bi (.cat (by simp only [fB,di,z3,kA]; omega) (.bi (.mK (by simp only [fB,di,z3,kA]; omega) (.ag ⟨?_,by simp only [fB,di,z3,kA]; omega⟩)))))))))));rw [zd aK,KG,iW,h1];simp only [iW,Al,kp,cond_false];simp only [List.append_assoc]
   ·rw [Ib] at aa;refine ⟨?_,by show b.size<=1000000000100+(k+1) * 1000000000100; rw [Nat.add_mul]; exact Nat.le_trans af (Nat.add_le_add_left (Nat.le_add_right _ _) _)⟩;by_cases aK:3<=k
    ·have kp:tk.Lit=true:=by
      cases ix:tk.Lit with
      | true=>rfl
      | false=>rw [ix,decide_eq_true aK] at aa; cases aa
     rw [zd aK,KG,h1];simp [Al,kp]
    ·rw [VE aK,h1]
  ·have e:g.aZ.take k=g.aZ:=List.take_of_length_le (by omega);rw [e] at h1;exact ⟨h1,by omega⟩
 obtain ⟨d8,eM⟩:=mP;rw [tH t (by have:=h.n; omega),XR];refine Tot.sm (Tot.sm ?_);have aW:(kq.zip (kt t)).length=12:=by rw [List.length_zip,sU]; rfl
 -- lists
 refine .aq (Ξ:=λb:ByteArray=>b.data.toList=wM g++sS (kq.zip (kt t))/\b.size<=41000300010000) ?_ λgW mj=>?_
 ·refine Tot.upto (λz=>z.2) kq.length (λk z=>z.1.data.toList=wM g++sS ((kq.zip (kt t)).take k)/\z.1.size<=41000000010000+k * 23000200) rfl (by rw [sU]; decide) ⟨by rw [d8]; simp [sS],by simpa using eM⟩ λk z hk he bb=>?_;obtain ⟨b,i⟩:=z;obtain ⟨h1,af⟩:=bb;simp only at he h1 af ⊢;subst he;rw [sU] at hk;rw [ew k (by omega)];refine Tot.ba (λaQ=>?_) (λdw=>.ag ?_)
  ·have aQ:k<kq.length:=by omega
   have By:k<12:=by rw [<- sU]; exact aQ
   have n4:k<(kt t).length:=By;have ID:k<(kq.zip (kt t)).length:=by rw [aW]; exact By
   have e4:=jc ID;rw [List.getElem_zip] at e4;rw [dT aQ,dT n4];have aA:=OK _ (List.getElem_mem aQ);have ai:=h.l _ (List.getElem_mem n4);generalize kq[k]=l0 at *;generalize (kt t)[k]=ls at *;refine Tot.sm (Tot.sm ?_);rw [L1 l0 ls (by omega) (by have:=ai.1; omega) ai.2];have az:=Ou aA ai;refine Tot.sm (.bi (.cat (by rw [kA]; omega) (.bi (.mK (by simp only [fB,kA]; omega) (.ag ⟨aQ,rfl,?_,?_⟩)))))
   ·show (b++_).data.toList=_;rw [e4,Ox,iW,h1,iW];simp only [EZ,List.append_assoc]
   ·show (b++_).size<=_;simp only [fB,kA]; omega
  ·have e:(kq.zip (kt t)).take k=kq.zip (kt t):=List.take_of_length_le (by rw [aW]; rw [sU] at dw; omega);rw [e] at h1;exact ⟨h1,by omega⟩
 obtain ⟨d26,nO⟩:=mj;refine .aq (Ξ:=λb:ByteArray=>b.data.toList=rI g t/\b.size<=41000300020000) (.mK (by rw [F']; omega) ⟨by rw [iW,d26]; rfl,by rw [fB,F']; omega⟩) λjd lB=>?_;obtain ⟨d34,eb⟩:=lB
 -- actions
 refine .aq (Ξ:=λb:ByteArray=>b.data.toList=rI g t++pe ts/\b.size<=41001000000000) ?_ λkQ qM=>?_
 ·refine Tot.upto (λz=>z.2) ts.length (λk z=>z.1.data.toList=rI g t++pe (ts.take k)/\z.1.size<=41000300020000+k * 3000100) rfl (by omega) ⟨by rw [d34]; simp [pe],by simpa using eb⟩ λk z hk he bb=>?_;obtain ⟨b,i⟩:=z;obtain ⟨h1,af⟩:=bb;simp only at he h1 af ⊢;subst he;rw [ew k (by omega)];refine Tot.ba (λaQ=>?_) (λdw=>.ag ?_)
  ·have aQ:k<ts.length:=by omega
   rw [dT aQ];have e4:=jc aQ;have hlen:(ts.take k).length=k:=by simp; omega
   have av:=h.hN _ (List.getElem_mem aQ);generalize ts[k]=x at *;have oa:i64 (k:Int):=by unfold i64; omega
   have eR:=vE oa;refine .aq (Ξ:=λdz:ByteArray=>dz.data.toList=rI g t++pe (ts.take (k+1))/\dz.size<=41000300020000+(k+1) * 3000100) (Tot.sm (.aq (Ξ:=λdz:ByteArray=>dz.data.toList=rI g t++pe (ts.take (k+1))/\dz.size<=41000300020000+(k+1) * 3000100) ?_ λdz gG=>.ag gG)) λdz gG=>.ag ⟨aQ,rfl,gG⟩;rw [e4,Lz,hlen];refine Tot.kE (λcz=>?_) (λhe=>.ag ⟨?_,by show b.size<=41000300020000+(k+1) * 3000100; rw [Nat.add_mul]; exact Nat.le_trans af (Nat.add_le_add_left (Nat.le_add_right _ _) _)⟩)
   ·rw [DT _ oa];refine Tot.sm (.bi (.cat (by rw [rr]; omega) (.bi (.cat (by simp only [fB,rr,z4]; omega) (.bi (.cat (by simp only [fB,rr,z4]; omega) (.bi (.cat (by simp only [fB,rr,z4,kA]; omega) (.bi (.mK (by simp only [fB,rr,z4,kA]; omega) (.ag ⟨?_,by simp only [fB,rr,z4,kA]; omega⟩)))))))))));simp only [iW,h1,yL,decide_eq_false cz,cond_false,List.append_assoc]
   ·simp only [h1,yL,decide_eq_true he,cond_true,List.append_nil]
  ·have e:ts.take k=ts:=List.take_of_length_le (by omega);rw [e] at h1;exact ⟨h1,by omega⟩
 obtain ⟨d36,Y3⟩:=qM;refine .bi (.cat (by rw [Dp]; omega) (.bi (.mK (by rw [fB,Dp]; omega) ?_)));have cz:¬ (kQ++(⟨#[9,125,10,9,114,101,116,117,114,110,32,121,121,86,65,76,10,125,10]⟩++g.b')).size=0:=by rw [fB,fB,Dp]; omega
 refine .bi ⟨_,by unfold wE; rw [if_neg cz],.ag ?_⟩;rw [iW,iW,d36]; rfl
set_option maxHeartbeats 1000000 in
theorem AQ (g:bs) (t:Tables) (ts:List ByteArray) (h:yo g t ts):Tot (zN g t ts) λr=>r.data.toList=Hk g t ts:=by
 unfold zN;have IL:=h.xU;have IS:=h.tail;have uj:=h.MN.jZ;have IV:=h.Qj;simp only [dp] at IL IS;have pi:i64 (g.b5.size:Int):=by unfold i64; omega
 rw [k2 _ pi];have ps:=vE pi;refine Tot.sm (.bi (.cat (by rw [z22]; omega) (.bi (.cat (by simp only [fB,z22,kA]; omega) (.bi (.cat (by simp only [fB,z22,kA]; omega) (.aq (Ξ:=λb:ByteArray=>b.data.toList=ua g/\b.size<=1000000000100) (.cat (by simp only [fB,z22,kA]; omega) ⟨?_,by simp only [fB,z22,kA]; omega⟩) λbN dM=>?_)))))))
 ·simp only [iW]; rfl
 obtain ⟨d6,cP⟩:=dM
 -- tokens
 refine .aq (Ξ:=λb:ByteArray=>b.data.toList=wM g/\b.size<=41000000010000) ?_ λb2 mP=>?_
 ·refine Tot.count (λz=>z.2) g.aZ.length (λz=>∃ k:Nat,z.2=k/\3<=k/\k<=g.aZ.length/\z.1.data.toList=ua g++rk ((g.aZ.take k).drop 3)/\z.1.size<=1000000000100+k * 1000000000100) ⟨3,rfl,Nat.le_refl 3,by omega,by rw [d6,List.drop_eq_nil_of_le (by simp; omega)]; simp [rk],Nat.le_trans cP (Nat.le_add_right _ _)⟩ (by show (g.aZ.length:Int) - 3<_; omega) λz aW=>?_;obtain ⟨b,i⟩:=z;obtain ⟨k,he,aK,hk,h1,af⟩:=aW;simp only at he h1 af ⊢;subst he;have hw:aH ((k:Int)+1)=((k+1:Nat):Int):=by rw [ch]; omega
  rw [hw];refine Tot.ba (λaQ=>?_) (λdw=>.ag ?_)
  ·have aQ:k<g.aZ.length:=by omega
   simp only [dT aQ];have e4:=jc aQ;have II:=h.Ht.l0 _ (List.getElem_mem aQ);have hi:i64 (g.aZ[k]).bK:=h.num aK aQ;generalize g.aZ[k]=tk at *;simp only [dp] at II;have zd:(g.aZ.take (k+1)).drop 3=(g.aZ.take k).drop 3++[tk]:=by
    rw [e4,List.drop_append_of_le_length (by simp; omega)]
   have eR:=vE hi;refine .aq (Ξ:=λdz:ByteArray=>dz.data.toList=ua g++rk ((g.aZ.take (k+1)).drop 3)/\dz.size<=1000000000100+(k+1) * 1000000000100) (Tot.sm (.aq (Ξ:=λdz:ByteArray=>dz.data.toList=ua g++rk ((g.aZ.take (k+1)).drop 3)/\dz.size<=1000000000100+(k+1) * 1000000000100) ?_ λdz gG=>.ag gG)) λdz gG=>.ag ⟨⟨k+1,rfl,by omega,by omega,gG.1,gG.2⟩,by show (k:Int)<((k+1:Nat):Int); omega,by show ((k+1:Nat):Int)<=_; omega⟩;rw [zd,KG];refine Tot.bl (λkp=>?_) (λkp=>.ag ⟨?_,by show b.size<=1000000000100+(k+1) * 1000000000100; rw [Nat.add_mul]; exact Nat.le_trans af (Nat.add_le_add_left (Nat.le_add_right _ _) _)⟩)
   ·have kp:tk.Lit=false:=by simpa using kp
    refine .bi (.cat (by rw [di]; omega) (Tot.sm (.bi (.cat (by simp only [fB,di]; omega) (.bi (.cat (by simp only [fB,di,z3]; omega) (Tot.sm ?_)))))));rw [k2 _ hi];refine Tot.sm (.bi (.cat (by simp only [fB,di,z3]; omega) (.bi (.cat (by simp only [fB,di,z3,kA]; omega) (.ag ⟨?_,by simp only [fB,di,z3,kA]; omega⟩)))));simp only [iW,h1,Al,kp,cond_false,List.append_assoc]
   ·have kp:tk.Lit=true:=by simpa using kp
    simp only [h1,Al,kp,cond_true,List.append_nil]
  ·have e:g.aZ.take k=g.aZ:=List.take_of_length_le (by omega);rw [e] at h1;exact ⟨h1,by omega⟩
 obtain ⟨d8,eM⟩:=mP;rw [Sw t (by have:=h.n; omega),XS];refine Tot.sm (Tot.sm ?_);have aW:(kq.zip (kt t)).length=12:=by rw [List.length_zip,sU]; rfl
 -- lists
 refine .aq (Ξ:=λb:ByteArray=>b.data.toList=wM g++sS (kq.zip (kt t))/\b.size<=41000300010000) ?_ λgW mj=>?_
 ·refine Tot.upto (λz=>z.2) kq.length (λk z=>z.1.data.toList=wM g++sS ((kq.zip (kt t)).take k)/\z.1.size<=41000000010000+k * 23000200) rfl (by rw [sU]; decide) ⟨by rw [d8]; simp [sS],by simpa using eM⟩ λk z hk he bb=>?_;obtain ⟨b,i⟩:=z;obtain ⟨h1,af⟩:=bb;simp only at he h1 af ⊢;subst he;rw [sU] at hk;rw [ew k (by omega)];refine Tot.ba (λaQ=>?_) (λdw=>.ag ?_)
  ·have aQ:k<kq.length:=by omega
   have By:k<12:=by rw [<- sU]; exact aQ
   have n4:k<(kt t).length:=By;have ID:k<(kq.zip (kt t)).length:=by rw [aW]; exact By
   have e4:=jc ID;rw [List.getElem_zip] at e4;rw [dT aQ,dT n4];have aA:=OK _ (List.getElem_mem aQ);have ai:=h.l _ (List.getElem_mem n4);generalize kq[k]=l0 at *;generalize (kt t)[k]=ls at *;refine Tot.sm (Tot.sm ?_);rw [sq l0 ls (by omega) (by have:=ai.1; omega) ai.2];have az:=Ou aA ai;refine Tot.sm (.bi (.cat (by omega) (.bi (.cat (by simp only [fB,kA]; omega) (.ag ⟨aQ,rfl,?_,?_⟩)))))
   ·show (b++_++_).data.toList=_;rw [e4,Ox,iW,iW,h1];simp only [EZ,List.append_assoc]
   ·show (b++_++_).size<=_;simp only [fB,kA]; omega
  ·have e:(kq.zip (kt t)).take k=kq.zip (kt t):=List.take_of_length_le (by rw [aW]; rw [sU] at dw; omega);rw [e] at h1;exact ⟨h1,by omega⟩
 obtain ⟨d26,nO⟩:=mj;refine .aq (Ξ:=λb:ByteArray=>b.data.toList=rI g t/\b.size<=41000300020000) (.cat (by rw [F']; omega) ⟨by rw [iW,d26]; rfl,by rw [fB,F']; omega⟩) λjd lB=>?_;obtain ⟨d34,eb⟩:=lB
 -- actions
 refine .aq (Ξ:=λb:ByteArray=>b.data.toList=rI g t++pe ts/\b.size<=41001000000000) ?_ λkQ qM=>?_
 ·refine Tot.upto (λz=>z.2) ts.length (λk z=>z.1.data.toList=rI g t++pe (ts.take k)/\z.1.size<=41000300020000+k * 3000100) rfl (by omega) ⟨by rw [d34]; simp [pe],by simpa using eb⟩ λk z hk he bb=>?_;obtain ⟨b,i⟩:=z;obtain ⟨h1,af⟩:=bb;simp only at he h1 af ⊢;subst he;rw [ew k (by omega)];refine Tot.ba (λaQ=>?_) (λdw=>.ag ?_)
  ·have aQ:k<ts.length:=by omega
   simp only [dT aQ];have e4:=jc aQ;have hlen:(ts.take k).length=k:=by simp; omega
   have av:=h.hN _ (List.getElem_mem aQ);generalize ts[k]=x at *;have oa:i64 (k:Int):=by unfold i64; omega
   have eR:=vE oa;refine .aq (Ξ:=λdz:ByteArray=>dz.data.toList=rI g t++pe (ts.take (k+1))/\dz.size<=41000300020000+(k+1) * 3000100) (Tot.sm (.aq (Ξ:=λdz:ByteArray=>dz.data.toList=rI g t++pe (ts.take (k+1))/\dz.size<=41000300020000+(k+1) * 3000100) ?_ λdz gG=>.ag gG)) λdz gG=>.ag ⟨aQ,rfl,gG⟩;rw [e4,Lz,hlen];refine Tot.kE (λcz=>?_) (λhe=>.ag ⟨?_,by show b.size<=41000300020000+(k+1) * 3000100; rw [Nat.add_mul]; exact Nat.le_trans af (Nat.add_le_add_left (Nat.le_add_right _ _) _)⟩)
   ·refine .bi (.cat (by rw [rr]; omega) ?_);rw [k2 _ oa];refine Tot.sm (.bi (.cat (by simp only [fB,rr]; omega) (.bi (.cat (by simp only [fB,rr,z4]; omega) (Tot.sm (.bi (.cat (by simp only [fB,rr,z4]; omega) (.bi (.cat (by simp only [fB,rr,z4,kA]; omega) (.ag ⟨?_,by simp only [fB,rr,z4,kA]; omega⟩))))))))));simp only [iW,h1,yL,decide_eq_false cz,cond_false,List.append_assoc]
   ·simp only [h1,yL,decide_eq_true he,cond_true,List.append_nil]
  ·have e:ts.take k=ts:=List.take_of_length_le (by omega);rw [e] at h1;exact ⟨h1,by omega⟩
 obtain ⟨d36,Y3⟩:=qM;refine .bi (.cat (by rw [Dp]; omega) (.bi (.cat (by rw [fB,Dp]; omega) (.ag ?_))));rw [iW,iW,d36];simp only [Hk,List.append_assoc];rfl
theorem Su (g:bs) (t:Tables) (ts:List ByteArray) (h:yo g t ts):∃ r,xJ g t ts=some r/\zN g t ts=some r:=by
 obtain ⟨a,aR,cw⟩:=St g t ts h;obtain ⟨b,av,cd⟩:=AQ g t ts h;exact ⟨a,aR,by rw [av,AM (cd.trans cw.symm)]⟩
theorem ZL (s:Source):Par (xH s) λr=>r.b'.size<=dp:=by
 unfold xH;exact .aq (Ξ:=λ_=>True) (λ_ _=>trivial) λ_ _=>.aq (Par.of (pj s.b' 40 (by omega))) λr ah=>.aq (Ξ:=λ_=>True) (λ_ _=>trivial) λ_ _=>.aq (Ξ:=λ_=>True) (λ_ _=>trivial) λ_ _=>.ag (by show r.size<=1000000000000; omega)
theorem ZM (x:pR):Par (vR x) λr=>r.b'.size<=dp:=by
 unfold vR;exact .aq (Ξ:=λ_=>True) (λ_ _=>trivial) λ_ _=>.aq (Ξ:=λ_=>True) (λ_ _=>trivial) λ_ _=>.aq (Ξ:=λ_=>True) (λ_ _=>trivial) λ_ _=>.aq (Ξ:=λ_=>True) (λ_ _=>trivial) λ_ _=>.aq (Ξ:=λ_=>True) (λ_ _=>trivial) λ_ _=>.aq (Ξ:=λ_=>True) (λ_ _=>trivial) λ_ _=>.ag (Nat.zero_le _)
theorem Made.em {s:Source}{r:bs × Tables × List ByteArray × Bool}(h:Made s r) (av:nU s) (ar:s.b'.size<=dp):yo r.1 r.2.1 r.2.2.1:=by
 obtain ⟨n,d,iK,dt⟩:=h.t;obtain ⟨h1,af⟩:=ZE iK dt h.k;exact ⟨h.g,h.k,h1,af,h.l,h.b,by rw [h.xU]; exact av.xU,by rw [h.tail]; exact ar⟩
theorem t5 (s:Source) (x:pR):zS s x=some true:=by
 suffices h:Tot (zS s x) λr=>r=true by
  obtain ⟨r,ah,e⟩:=h; rw [ah,e]
 unfold zS;rw [Qy];refine Tot.sm (.aq (Par.iO (t13 s) (ZL s)) λaY aK=>.aq (Par.iO (t14 x) (ZM x)) λbP bu=>?_);refine Tot.aq (Ξ:=gN (λ_=>True) (λ_=>False)) ?_ λr ah=>by
  rcases r with r | r
  ·exact .ag rfl
  ·exact ah.elim
 refine Tot.count (λs=>s) 2 (λs=>0<=s) (Int.le_refl _) (by decide) λi hi=>?_;refine Tot.ba (λaQ=>?_) (λ_=>.ag trivial);have up:(0<=aH (i+1))/\i<aH (i+1)/\aH (i+1)<=2:=by
  have:i<2:=aQ;rw [ch]; omega
 obtain ⟨y,al,er⟩:=ZR aY bP hi aQ;have av:nU y/\y.b'.size<=dp:=by rcases er with rfl | rfl <;> assumption
 rw [al];refine Tot.sm (.aq (mL y av.1) λD aP=>?_);refine .aq (Ξ:=λc=>c=false) (Tot.bl (λh=>?_) (λ_=>.ag rfl)) λc aa=>by
  subst aa; exact .ag ⟨up.1,up.2⟩
 obtain ⟨r,h1,af⟩:=Su D.1 D.2.1 D.2.2.1 ((aP h).em av.1 av.2);rw [h1,af];exact Tot.sm (Tot.sm (.ag (by simp)))
end Go.Proofs
