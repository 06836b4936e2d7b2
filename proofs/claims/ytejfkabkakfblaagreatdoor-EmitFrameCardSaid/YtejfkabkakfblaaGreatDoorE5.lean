/- Parts of the proof that the last text states. -/
import Derived.KernelRfl
import Derived.Test.YtejfkabkakfblaaGreatDoorE4
namespace Go.Proofs
open Go Go.Own Go.Sort
set_option maxRecDepth 100000
set_option linter.unusedVariables false
def wv (g:bt) (out:List Item) (x:Item):Prop:=1000<=hI g x->∀ (p:Nat) (q:Prod),g.bd[p]?=some q->q.Left=hI g x - 1000->(⟨p,0⟩:Item)∈out
theorem G9 (g:bt) (aN:fX g) (l:List Item) (aj:l.length<=1000000):Tot (xX g l) λr=>eQ gD r/\∀ x,x∈r↔nI g l x:=by
 have xf:=aN.ih;unfold xX;refine .ar (su g aN l aj) λa6 h1=>.ar (Ξ:=λr=>eQ gD r/\∀ x,x∈r↔nI g l x) ?_ λr ah=>.ag ah;obtain ⟨w1,IF⟩:=h1;refine Tot.loop (λs=>eQ gD s.1/\(∀ x∈s.1,nI g l x)/\(∀ x∈l,iZ g x->x∈s.1)/\(s.2=(s.1.length:Int)->∀ x∈s.1,wv g s.1 x)) (λs=>2 * (1000 - s.1.length)+(if s.2=(s.1.length:Int) then 0 else 1)) ⟨w1,λx j=>.base ((IF x).1 j).1 ((IF x).1 j).2,λx j hi=>(IF x).2 ⟨j,hi⟩,λh=>by have h:(-1:Int)=_:=h; omega⟩ (by
  show 2 * (1000 - a6.length)+(if (-1:Int)=_ then 0 else 1)<1000000000000000000
  split <;> omega) λs ay=>?_
 obtain ⟨out,n⟩:=s;obtain ⟨aR,gx,pr,hF⟩:=ay;simp only at aR gx pr hF ⊢;have xd:=tB aN aR λx j=>(gx x j).iZ;refine Tot.kZ (λcA=>?_) (λhe=>.ag ⟨aR,λx=>⟨gx x,λj=>?_⟩⟩)
 ·refine .ar (Ξ:=λJ:List Item × Int=>J.2=(out.length:Int)/\eQ gD J.1/\(∀ x∈J.1,nI g l x)/\(∀ x∈out,x∈J.1)/\(J.1.length=out.length->∀ x∈J.1,wv g J.1 x)) ?_ λJ ai=>?_
  ·refine .ar (Ξ:=λr:List Item=>eQ gD r/\(∀ x∈r,nI g l x)/\(∀ x∈out,x∈r)/\(r.length=out.length->∀ x∈r,wv g r x)) ?_ λr ah=>.ag ⟨rfl,ah⟩;refine .ar (Ξ:=λr:List Item=>eQ gD r/\(∀ x∈r,nI g l x)/\(∀ x∈out,x∈r)/\(r.length=out.length->∀ x∈r,wv g r x)) ?_ λr ah=>.ag ah;refine Tot.count (λs=>s.2) out.length (λs=>∃ k:Nat,k<=out.length/\s.2=(k:Int)/\s.1=out/\∀ (J:Nat) (h:J<out.length),J<k->wv g out out[J]) ⟨0,Nat.zero_le _,rfl,rfl,λJ _ ai=>absurd ai (Nat.not_lt_zero _)⟩ (by show (out.length:Int) - 0<_; omega) λs ay=>?_;obtain ⟨cur,kJ⟩:=s;obtain ⟨k,hk,rfl,rfl,Nu⟩:=ay;simp only;rw [F2 k (by omega)];refine Tot.ba (λaT=>?_) (λdC=>.ag ⟨aR,gx,λ_ h=>h,λ_ x j=>?_⟩)
   ·have aT:k<cur.length:=by omega
    rw [ea aT];have vD:=gx _ (List.getElem_mem aT);have I7:∀ P:Item->Prop,P cur[k]->∀ (J:Nat) (h:J<cur.length),J=k->P cur[J]:=λP cb J h e=>by subst e; exact cb
    generalize j:cur[k]=x at *;have ac4:=XY aN x;have hw:aG (hI g x - 1000)=hI g x - 1000:=by rw [cm]; omega
    simp only [Option.bind_some,Hp g x,hw];refine (.ar (Ξ:=λr:List Item=>eQ gD r/\(∀ x∈r,nI g l x)/\(∀ x∈cur,x∈r)/\wv g r x) ?_ λr ah=>?_)
    ·refine Tot.count (λs=>s.2) g.bd.length (λs=>∃ i:Nat,i<=g.bd.length/\s.2=(i:Int)/\eQ gD s.1/\(∀ x∈s.1,nI g l x)/\(∀ x∈cur,x∈s.1)/\∀ (p:Nat) (q:Prod),p<i->g.bd[p]?=some q->q.Left=hI g x - 1000->(⟨p,0⟩:Item)∈s.1) ⟨0,Nat.zero_le _,rfl,aR,gx,λ_ h=>h,λp q au=>absurd au (Nat.not_lt_zero _)⟩ (by show (g.bd.length:Int) - 0<_; omega) λs ay=>?_;obtain ⟨o,lW⟩:=s;obtain ⟨i,hi,rfl,rQ,BI,EE,vp⟩:=ay;simp only at rQ BI EE vp ⊢;rw [F2 i (by omega)];refine .ar (Ξ:=λc:Bool=>(c=true->i<g.bd.length/\1000<=hI g x)/\(c=false->g.bd.length<=i\/hI g x<1000)) (Tot.ba (λh=>.ag ⟨λaI=>⟨by omega,of_decide_eq_true aI⟩,λaI=>.inr (by have:=of_decide_eq_false aI; omega)⟩) (λh=>.ag ⟨λaI=>(by cases aI),λ_=>.inl (by omega)⟩)) λc aa=>Tot.bk (λh=>?_) (λh=>.ag ⟨rQ,BI,EE,λaO p q au=>?_⟩)
     ·obtain ⟨IE,aO⟩:=aa.1 h;have NS:g.bd[i]?=some g.bd[i]:=List.getElem?_eq_getElem IE;rw [ea IE];refine .ar (Ξ:=λo:List Item=>eQ gD o/\(∀ x∈o,nI g l x)/\(∀ x∈cur,x∈o)/\∀ (p:Nat) (q:Prod),p<i+1->g.bd[p]?=some q->q.Left=hI g x - 1000->(⟨p,0⟩:Item)∈o) ?_ λo aU=>.ag ⟨⟨i+1,by omega,rfl,aU⟩,by show (i:Int)<((i+1:Nat):Int); omega,by show ((i+1:Nat):Int)<=_; omega⟩;refine Tot.sm (.ar (Ξ:=λo:List Item=>eQ gD o/\(∀ x∈o,nI g l x)/\(∀ x∈cur,x∈o)/\∀ (p:Nat) (q:Prod),p<i+1->g.bd[p]?=some q->q.Left=hI g x - 1000->(⟨p,0⟩:Item)∈o) (Tot.ba (λh=>?_) (λh=>.ag ⟨rQ,BI,EE,λp q au BL a7=>?_⟩)) λo aU=>.ag aU)
      ·have IC:=tB aN rQ λx j=>(BI x j).iZ;refine .ar (GU o ⟨(i:Nat),0⟩ rQ (by omega)) λr ah=>.ag ⟨ah.1,λy al=>?_,λy al=>(ah.2 y).2 (.inl (EE y al)),λp q au BL a7=>?_⟩
       ·rcases (ah.2 y).1 al with al | rfl
        ·exact BI y al
        ·exact .step vD NS (by omega) aO
       ·by_cases cr:p=i
        ·subst cr; exact (ah.2 _).2 (.inr rfl)
        ·exact (ah.2 _).2 (.inl (vp p q (by omega) BL a7))
      ·by_cases cr:p=i
       ·subst cr;rw [NS] at BL; cases BL;exact absurd a7 h
       ·exact vp p q (by omega) BL a7
     ·rcases aa.2 h with h1 | h1
      ·exact vp p q (by have:=(List.getElem?_eq_some_iff.1 au).1; omega) au
      ·omega
    ·obtain ⟨EI,Wi,lU,Wl⟩:=ah;have hle:cur.length<=r.length:=uA (aR.nd vP) lU;refine Tot.kZ (λII=>.ag ⟨EI,Wi,lU,λe=>absurd (by omega) II⟩) (λheq=>?_);have nZ:r.length=cur.length:=by omega
     have Wn:r=cur:=by
      have nn:∀ y,y∈cur↔y∈r:=by
       intro y;refine ⟨lU y,λal=>Classical.byContradiction λaA=>?_⟩;have:=uA (l:=y::cur) (m:=r) (List.nodup_cons.2 ⟨aA,aR.nd vP⟩) λz aW=>by
        rcases List.mem_cons.1 aW with rfl | aW
        ·exact al
        ·exact lU z aW
       simp at this;omega
      exact (eQ.uniq vP aR EI nn).symm
     subst Wn;refine .ag ⟨⟨k+1,by omega,rfl,rfl,λJ ai fA=>?_⟩,by show (k:Int)<((k+1:Nat):Int); omega,by show ((k+1:Nat):Int)<=_; omega⟩;by_cases cr:J=k
     ·exact I7 (wv g r) Wl J ai cr
     ·exact Nu J ai (by omega)
   ·obtain ⟨J,ai,rfl⟩:=List.mem_iff_getElem.1 j;exact Nu J ai (by omega)
  ·obtain ⟨h1,af,aJ,bx,cu⟩:=ai;have hle:out.length<=J.1.length:=uA (aR.nd vP) bx;have eU:=tB aN af λx j=>(aJ x j).iZ;refine .ag ⟨⟨af,aJ,λx j hi=>bx x (pr x j hi),λe=>cu (by show J.1.length=_; have e:J.2=(J.1.length:Int):=e; omega)⟩,?_⟩;show 2 * (1000 - J.1.length)+(if J.2=(J.1.length:Int) then 0 else 1)<2 * (1000 - out.length)+(if n=(out.length:Int) then 0 else 1)
   rw [if_neg cA];split
   ·omega
   ·have:J.1.length≠out.length:=λe=>by omega
    omega
 ·have aa:=hF he
  induction j with
  | base h hi=>exact pr _ h hi
  | @step x q p h au aA aO aM=>exact aa x aM aO p q au (by omega)
def DG (g:bt) (l:List Item) (a:Int) (y:Item):Prop:=∃ x,nI g l x/\hI g x=a/\0<=a/\y=⟨x.Prod,x.eY+1⟩
theorem Ol {g:bt}(aN:fX g) {x:Item}(h:0<=hI g x):iZ g ⟨x.Prod,x.eY+1⟩:=by
 obtain ⟨_,_,q,a7,ay⟩:=OU aN h;obtain ⟨aO,h1,_⟩:=n1 ay;exact ⟨q,a7,by show 0<=x.eY+1; omega,by show x.eY+1<=_; omega⟩
theorem Xp {g:bt}(aN:fX g) {x:Item}(h:iZ g x):0<=x.eY/\x.eY<=8:=by
 obtain ⟨q,a7,aO,h1⟩:=h;have:=aN.aL q (n1 a7).2.2;omega
theorem DG.iZ {g:bt}(aN:fX g) {l:List Item}{a:Int}{y:Item}(h:DG g l a y):iZ g y:=by
 obtain ⟨x,_,h1,af,rfl⟩:=h;exact Ol aN (by omega)
theorem SH (g:bt) (aN:fX g) (l:List Item) (a:Int) (aj:l.length<=1000000):Tot (CS g l a) λr=>eQ gD r/\∀ y,y∈r↔DG g l a y:=by
 unfold CS;refine .ar (G9 g aN l aj) λc aa=>.ar (Ξ:=λr=>eQ gD r/\∀ y,y∈r↔DG g l a y) ?_ λr ah=>.ag ah;have hF:=tB aN aa.1 λx j=>((aa.2 x).1 j).iZ;refine Tot.count (λs=>s.2) c.length (λs=>∃ k:Nat,k<=c.length/\s.2=(k:Int)/\eQ gD s.1/\∀ y,y∈s.1↔∃ x∈c.take k,hI g x=a/\0<=a/\y=⟨x.Prod,x.eY+1⟩) ⟨0,Nat.zero_le _,rfl,List.Pairwise.nil,λy=>by simp⟩ (by show (c.length:Int) - 0<_; omega) λs ay=>?_;obtain ⟨o,kJ⟩:=s;obtain ⟨k,hk,rfl,rQ,BJ⟩:=ay;simp only at rQ BJ ⊢;rw [F2 k (by omega)];refine Tot.ba (λaT=>?_) (λdC=>.ag ⟨rQ,λy=>?_⟩)
 ·have aT:k<c.length:=by omega
  have W6:=((aa.2 _).1 (List.getElem_mem aT)).iZ;have fu:c.take (k+1)=c.take k++[c[k]]:=kr aT;rw [ea aT];generalize c[k]=x at *;have aP:=Xp aN W6;have hw:aG (x.eY+1)=x.eY+1:=by rw [cm]; omega
  refine .ar (Ξ:=λo:List Item=>eQ gD o/\∀ y,y∈o↔∃ x∈c.take (k+1),hI g x=a/\0<=a/\y=⟨x.Prod,x.eY+1⟩) ?_ λo aU=>.ag ⟨⟨k+1,by omega,rfl,aU⟩,by show (k:Int)<((k+1:Nat):Int); omega,by show ((k+1:Nat):Int)<=_; omega⟩;have nn:∀ y,(∃ z∈c.take (k+1),hI g z=a/\0<=a/\y=(⟨z.Prod,z.eY+1⟩:Item))↔(y∈o\/(hI g x=a/\0<=a/\y=⟨x.Prod,x.eY+1⟩)):=by
   intro y;rw [BJ y,fu];constructor
   ·rintro ⟨z,aW,h⟩;rcases List.mem_append.1 aW with aW | aW
    ·exact .inl ⟨z,aW,h⟩
    ·rw [List.mem_singleton.1 aW] at h; exact .inr h
   ·rintro (⟨z,aW,h⟩ | h)
    ·exact ⟨z,by simp [aW],h⟩
    ·exact ⟨x,by simp,h⟩
  simp only [Option.bind_some,Hp g x,hw];refine (.ar (Ξ:=λb:Bool=>b=decide (0<=hI g x/\hI g x=a)) (Tot.ba (λh=>.ag (by simp [h])) (λh=>.ag (by simp [h]))) λb av=>?_);subst av;refine .ar (Ξ:=λo:List Item=>eQ gD o/\∀ y,y∈o↔∃ x∈c.take (k+1),hI g x=a/\0<=a/\y=⟨x.Prod,x.eY+1⟩) (Tot.ba (λh=>?_) (λh=>.ag ⟨rQ,λy=>?_⟩)) λo aU=>.ag aU
  ·have xd:=tB aN rQ λy al=>by
    obtain ⟨z,_,h1,af,rfl⟩:=(BJ y).1 al;exact Ol aN (by omega)
   refine (.ar (GU o _ rQ (by omega)) λr ah=>.ag ⟨ah.1,λy=>?_⟩);rw [ah.2 y,nn y];constructor
   ·rintro (h1 | h1)
    ·exact .inl h1
    ·exact .inr ⟨h.2,by omega,h1⟩
   ·rintro (h1 | h1)
    ·exact .inl h1
    ·exact .inr h1.2.2
  ·rw [nn y];exact ⟨.inl,λaI=>aI.elim id λaI=>absurd ⟨by omega,aI.1⟩ h⟩
 ·have:k=c.length:=by omega
  subst this;rw [List.take_length] at BJ;rw [BJ y];constructor
  ·rintro ⟨x,j,h⟩;exact ⟨x,(aa.2 x).1 j,h⟩
  ·rintro ⟨x,j,h⟩;exact ⟨x,(aa.2 x).2 j,h⟩
def hR (a b:Int):Bool:=decide (a<b)
theorem JJ {a b:Int}:hR a b=true↔a<b:=by simp [hR]
theorem JK {a b:Int}:hR a b=false↔¬ a<b:=by simp [hR]
theorem Ft:Ord hR where
 swo:=⟨λx=>by rw [JK]; omega,λx y z h1 af=>by rw [JJ] at *; omega,λx y z h1 af=>by rw [JK] at *; omega⟩
 ja:=λx y h1 af=>by rw [JK] at *; omega
theorem GK {l:List Int}(aj:eQ hR l) {i J:Nat}(hi:i<l.length) (ai:J<l.length) (h:i<J):hR l[i] l[J]=true:=List.pairwise_iff_getElem.1 aj i J hi ai h
theorem AW (l:List Int) (x:Int) (aj:eQ hR l) (aA:l.length<=100000):Tot (pF l x) λr=>eQ hR r/\r.length<=l.length+1/\(∀ y,y∈r↔y∈l\/y=x):=by
 unfold pF;refine .ar (Ξ:=λz:Int=>∃ k:Nat,z=(k:Int)/\k<=l.length/\(∀ (i:Nat) (h:i<l.length),k<=i->hR x l[i]=true)/\∀ (h:0<k),hR x (l[k - 1]?.getD default)=false) ?_ λz aW=>?_
 ·refine Tot.count (λs=>-s) 1 (λs=>∃ k:Nat,s=(k:Int)/\k<=l.length/\∀ (i:Nat) (h:i<l.length),k<=i->hR x l[i]=true) ⟨l.length,rfl,Nat.le_refl _,λi h hk=>by omega⟩ (by show 1 - -(l.length:Int)<_; omega) λs ay=>?_;obtain ⟨k,rfl,hk,uq⟩:=ay;refine .ar (Ξ:=λc:Bool=>(c=true->0<k/\hR x (l[k - 1]?.getD default)=true)/\(c=false->∀ (h:0<k),hR x (l[k - 1]?.getD default)=false)) ?_ λc aa=>Tot.bk (λh=>?_) (λh=>.ag ⟨k,rfl,hk,uq,aa.2 h⟩)
  ·refine Tot.ba (λh=>?_) (λh=>.ag ⟨λaI=>(by cases aI),λ_ aI=>by omega⟩);have gg:k - 1<l.length:=by omega
   have hw:aG ((k:Int) - 1)=((k - 1:Nat):Int):=by rw [cm]; omega
   rw [hw,ea gg,List.getElem?_eq_getElem gg];simp only [Option.bind_some,Option.getD_some];exact .ag ⟨λaI=>⟨by omega,aI⟩,λaI _=>aI⟩
  ·obtain ⟨aO,h1⟩:=aa.1 h;refine .ag ⟨⟨k - 1,by rw [cm]; omega,by omega,λi hi VS=>?_⟩,by show -(k:Int) < -aG _; rw [cm]; omega,by show -aG _<=1; rw [cm]; omega⟩
   grind
 ·obtain ⟨k,rfl,hk,uq,lz⟩:=aW;refine .ar (Ξ:=λc:Bool=>(c=true↔(0<k/\l[k - 1]?.getD default=x))) ?_ λc aa=>Tot.bk (λh=>?_) (λh=>?_)
  ·refine Tot.ba (λh=>?_) (λh=>.ag ⟨λaI=>(by cases aI),λaI=>by omega⟩);have gg:k - 1<l.length:=by omega
   have hw:aG ((k:Int) - 1)=((k - 1:Nat):Int):=by rw [cm]; omega
   rw [hw,ea gg,List.getElem?_eq_getElem gg];simp only [Option.bind_some,Option.getD_some];generalize l[k - 1]=y;refine .ag ?_
   grind
  ·obtain ⟨aO,h1⟩:=aa.1 h;have gg:k - 1<l.length:=by omega
   rw [List.getElem?_eq_getElem gg] at h1;have j:x∈l:=by rw [<- h1]; exact List.getElem_mem gg
   exact .ag ⟨aj,by omega,λy=>⟨.inl,λh=>h.elim id λe=>e ▸ j⟩⟩
  ·have cA:∀ (i:Nat) (hi:i<l.length),i<k->hR l[i] x=true:=by
    intro i hi Ev;have gg:k - 1<l.length:=by omega
    have lz:=lz (by omega);have aA:l[k - 1]?.getD default≠x:=λe=>by rw [aa.2 ⟨by omega,e⟩] at h; cases h
    rw [List.getElem?_eq_getElem gg] at lz aA;simp only [Option.getD_some] at lz aA;have fK:hR l[k - 1] x=true:=by
     grind [hR]
    by_cases e:i=k - 1
    ·grind
    ·exact Ft.swo.trans _ _ _ (GK aj hi gg (by omega)) fK
   refine .ar (Ξ:=λz=>z=l.take k) (Tot.sub ⟨by omega,by omega,by omega⟩ (by simp)) λz aW=>?_;subst aW;refine .ar (Ξ:=λ_=>True) (Tot.ap (by simp [lim]; omega) trivial) λ_ _=>.ar (Ξ:=λ_=>True) (Tot.ap (by simp [lim]; omega) trivial) λ_ _=>?_;refine .ar (Ξ:=λz=>z=l.drop k) (Tot.sub ⟨by omega,by omega,by omega⟩ ?_) λz aW=>?_
   ·grind [List.take_of_length_le]
   subst aW;refine .ar (Ξ:=λ_=>True) (Tot.ap (by simp [lim]; omega) trivial) λ_ _=>.ag ?_;rw [List.nil_append];refine ⟨?_,?_,?_⟩
   ·have h1:∀ a∈l.take k,hR a x=true:=by
     grind [List.mem_iff_getElem]
    have af:∀ a∈l.drop k,hR x a=true:=by
     grind [List.mem_iff_getElem]
    unfold eQ;rw [List.append_assoc,List.pairwise_append];refine ⟨List.Pairwise.sublist (List.take_sublist k l) aj,?_,λa aR b av=>?_⟩
    ·rw [List.singleton_append,List.pairwise_cons];exact ⟨af,List.Pairwise.sublist (List.drop_sublist k l) aj⟩
    ·rcases List.mem_append.1 av with av | av
     ·grind
     ·exact Ft.swo.trans _ _ _ (h1 a aR) (af b av)
   ·grind
   grind [List.take_append_drop]
theorem Tx (x y:Item):(decide (x.Prod=y.Prod)&&(decide (x.eY=y.eY)&&true))=decide (x=y):=by
 obtain ⟨a6,x2⟩:=x;obtain ⟨bN,y2⟩:=y;simp
theorem Sn (a b:List Item) (h:a.length<=1000000):Tot (CA a b) λc=>(c=true↔a=b):=by
 unfold CA;refine Tot.kZ (λcA=>.ag ⟨λh=>(by cases h),λe=>absurd (by rw [e]) cA⟩) (λhe=>?_);have aj:a.length=b.length:=by omega
 refine Tot.ar (Ξ:=gK (λ_=>a=b) (λx:Bool=>x=false/\a≠b)) ?_ λx j=>?_
 ·refine Tot.count (λs=>s) a.length (λs=>∃ k:Nat,k<=a.length/\s=(k:Int)/\∀ (J:Nat) (h:J<a.length),J<k->a[J]=b[J]) ⟨0,Nat.zero_le _,rfl,λJ _ ai=>absurd ai (Nat.not_lt_zero _)⟩ (by show (a.length:Int) - 0<_; omega) λs ay=>?_;obtain ⟨k,hk,rfl,ko⟩:=ay;rw [eA k (by omega)];refine Tot.ba (λaT=>?_) (λdC=>.ag ?_)
  ·have aT:k<a.length:=by omega
   have zk:k<b.length:=by omega
   rw [ea aT,ea zk];simp only [Option.bind_some,Tx];refine Tot.kZ (λcA=>.ag ⟨rfl,λe=>cA (by subst e; rfl)⟩) (λheq=>.ag ⟨⟨k+1,by omega,rfl,λJ ai fA=>?_⟩,by show (k:Int)<((k+1:Nat):Int); omega,by show ((k+1:Nat):Int)<=_; omega⟩);by_cases e:J=k
   ·subst e; exact heq
   ·exact ko J ai (by omega)
  ·exact List.ext_getElem aj λi h1 af=>ko i h1 (by omega)
 ·rcases x with _ | x
  ·exact .ag ⟨λ_=>j,λ_=>rfl⟩
  ·obtain ⟨rfl,cA⟩:x=false/\a≠b:=j;exact .ag ⟨λh=>(by cases h),λh=>absurd h cA⟩
def syms (g:bt):List Int:=(List.range g.a1.length).map (λk:Nat=>(k:Int))++(List.range g.bY.length).map (λk:Nat=>1000+(k:Int))
theorem L4 (g:bt) (aU:fX g):Tot (CR g) λl=>l=syms g:=by
 have dk:=aU.kf;have a_:=aU.de;unfold CR;refine .ar (Ξ:=λl:List Int=>l=(List.range g.a1.length).map (λk:Nat=>(k:Int))) ?_ λl aj=>?_
 ·refine Tot.upto (λs=>s.2) g.a1.length (λk s=>s.1=(List.range k).map (λk:Nat=>(k:Int))) rfl (by omega) rfl λk s hk he bb=>?_;obtain ⟨l,i⟩:=s;simp only at he bb ⊢;subst he bb;rw [eA k (by omega)];refine Tot.ba (λaT=>?_) (λdC=>.ag ?_)
  ·refine .ar (Ξ:=λ_=>True) (Tot.ap (by simp [lim]; omega) trivial) λ_ _=>.ag ⟨by omega,rfl,?_⟩;show _=(List.range (k+1)).map _;rw [List.range_succ,List.map_append]; rfl
  ·have:k=g.a1.length:=by omega
   subst this; rfl
 ·subst aj;refine .ar (Ξ:=λl:List Int=>l=syms g) ?_ λr ah=>.ag ah;refine Tot.upto (λs=>s.2) g.bY.length (λk s=>s.1=(List.range g.a1.length).map (λk:Nat=>(k:Int))++(List.range k).map (λk:Nat=>1000+(k:Int))) rfl (by omega) (by simp) λk s hk he bb=>?_;obtain ⟨l,i⟩:=s;simp only at he bb ⊢;subst he bb;rw [eA k (by omega)];refine Tot.ba (λaT=>?_) (λdC=>.ag ?_)
  ·refine .ar (Ξ:=λ_=>True) (Tot.ap (by simp [lim]; omega) trivial) λ_ _=>.ag ⟨by omega,rfl,?_⟩;have hw:aG (1000+(k:Int))=1000+(k:Int):=by rw [cm]; omega
   show _=_++(List.range (k+1)).map _;rw [hw,List.range_succ,List.map_append,List.append_assoc]; rfl
  ·have:k=g.bY.length:=by omega
   subst this; rfl
theorem ZA (g:bt):(syms g).length=g.a1.length+g.bY.length:=by simp [syms]
theorem XM {g:bt}{s:Int}:s∈syms g↔(0<=s/\s<g.a1.length)\/(1000<=s/\s<1000+g.bY.length):=by
 unfold syms;rw [List.mem_append,List.mem_map,List.mem_map];constructor
 ·rintro (⟨k,hk,rfl⟩ | ⟨k,hk,rfl⟩)
  ·rw [List.mem_range] at hk; exact .inl (by omega)
  ·rw [List.mem_range] at hk; exact .inr (by omega)
 ·rintro (h | h)
  ·exact .inl ⟨s.toNat,by rw [List.mem_range]; omega,by omega⟩
  ·exact .inr ⟨(s - 1000).toNat,by rw [List.mem_range]; omega,by omega⟩
theorem ZB {g:bt}(aU:fX g):(syms g).Nodup:=by
 have aq:=aU.kf;unfold syms;rw [List.nodup_append];refine ⟨List.pairwise_map.2 ((List.nodup_range (n:=g.a1.length)).imp λ{a b} h e=>h (by omega)),List.pairwise_map.2 ((List.nodup_range (n:=g.bY.length)).imp λ{a b} h e=>h (by omega)),λa aR b av=>?_⟩;obtain ⟨i,hi,rfl⟩:=List.mem_map.1 aR;obtain ⟨J,ai,rfl⟩:=List.mem_map.1 av;rw [List.mem_range] at hi;omega
structure yD (g:bt) (K:List Item):Prop where
 a:eQ gD K
 i:∀ x∈K,iZ g x
theorem yD.len {g:bt}(aU:fX g) {K:List Item}(h:yD g K):K.length<=540:=tB aU h.a h.i
theorem L3 (l:List Int) (x:Int) (h:l.length<=1000000):Tot (uG l x) λc=>(c=true↔x∈l):=by
 unfold uG;refine .ar (Ξ:=gK (λ_=>x∉l) (λr:Bool=>r=true/\x∈l)) ?_ λr ah=>?_
 ·refine Tot.upto (λs=>s) l.length (λk s=>x∉l.take k) rfl (by omega) (by simp) λk s hk he bb=>?_;subst he;rw [eA k (by omega)];refine Tot.ba (λaT=>?_) (λdC=>.ag ?_)
  ·have aT:k<l.length:=by omega
   rw [ea aT];simp only [Option.bind_some];refine Tot.ba (λe=>.ag ⟨rfl,by rw [<- e]; exact List.getElem_mem aT⟩) (λe=>.ag ⟨aT,rfl,?_⟩);rw [kr aT,List.mem_append,List.mem_singleton];exact λh=>h.elim bb λh=>e h.symm
  ·rw [List.take_of_length_le (by omega)] at bb;exact bb
 ·rcases r with r | r
  ·exact .ag ⟨λh=>(by cases h),λh=>absurd h ah⟩
  ·obtain ⟨rfl,h⟩:=ah;exact .ag ⟨λ_=>h,λ_=>rfl⟩
theorem SI (m:List State) (k:List Item) (aO:m.length<=1000) (h1:∀ st∈m,st.Kernel.length<=1000000):Tot (CT m k) λr=>-1<=r/\r<m.length:=by
 unfold CT;refine .ar (Ξ:=gK (λ_=>True) (λr:Int=>0<=r/\r<m.length)) ?_ λx j=>?_
 ·refine Tot.upto (λs=>s) m.length (λ_ _=>True) rfl (by omega) trivial λJ s ai he _=>?_;subst he;rw [eA J (by omega)];refine Tot.ba (λaT=>?_) (λdC=>.ag trivial);have aT:J<m.length:=by omega
  rw [ea aT];refine Tot.sm (.ar (Sn _ k (h1 _ (List.getElem_mem aT))) λc aa=>Tot.bk (λh=>.ag ⟨by omega,by omega⟩) (λh=>.ag ⟨aT,rfl,trivial⟩))
 ·rcases x with x | x
  ·exact .ag ⟨by omega,by omega⟩
  ·have j:0<=x/\x<m.length:=j;exact .ag ⟨by omega,by omega⟩
structure yH (g:bt) (n:Nat) (v:Move):Prop where
 s:v.Sym∈syms g
 t0:0<=v.jz
 t1:v.jz<n
structure l8 (g:bt) (m:List State) (q J:Nat):Prop where
 gU:0<m.length
 mQ:m.length<=150
 qg:∀ st∈m,yD g st.Kernel
 ms:∀ (i:Nat) (st:State),m[i]?=some st->(st.ey.map (·.Sym)).Sublist (if i<q then syms g else if i=q then (syms g).take J else [])
 aZ:∀ st∈m,∀ v∈st.ey,yH g m.length v
structure mB (g:bt) (m:List State):Prop where
 gU:0<m.length
 mQ:m.length<=150
 qg:∀ st∈m,yD g st.Kernel
 xC:∀ st∈m,st.ey.length<=64
 nd:∀ st∈m,(st.ey.map (·.Sym)).Nodup
 aZ:∀ st∈m,∀ v∈st.ey,yH g m.length v
theorem yH.up {g:bt}{n ch:Nat}{v:Move}(h:yH g n v) (aA:n<=ch):yH g ch v:=⟨h.s,h.t0,by have:=h.t1; omega⟩
theorem l8.put {g:bt}{m:List State}{q J:Nat}(h:l8 g m q J) {st:State}(a7:m[q]?=some st) {v:Move}(hv:yH g m.length v) (ai:(syms g)[J]?=some v.Sym):l8 g (m.set q ⟨st.Kernel,st.ey++[v]⟩) q (J+1):=by
 have mM:=(List.getElem?_eq_some_iff.1 a7).1;have hm:=List.mem_of_getElem? a7;refine ⟨by rw [List.length_set]; exact h.gU,by rw [List.length_set]; exact h.mQ,λs ay=>?_,λi s ay=>?_,λs ay w hw=>?_⟩
 ·rcases List.mem_or_eq_of_mem_set ay with aI | aI
  ·exact h.qg s aI
  ·rw [aI]; exact h.qg st hm
 ·rw [uN mM] at ay;by_cases e:i=q
  ·subst e;rw [if_pos rfl] at ay; cases ay;have:=h.ms i st a7;rw [if_neg (by omega),if_pos rfl] at this ⊢;rw [List.map_append,List.take_add_one,ai];exact this.append (List.Sublist.refl _)
  ·rw [if_neg e] at ay;have:=h.ms i s ay;rw [if_neg e] at this ⊢;exact this
 ·rw [List.length_set];rcases List.mem_or_eq_of_mem_set ay with aI | aI
  ·exact h.aZ s aI w hw
  ·rw [aI] at hw;rcases List.mem_append.1 hw with hw | hw
   ·exact h.aZ st hm w hw
   ·rw [List.mem_singleton.1 hw]; exact hv
theorem l8.more {g:bt}{m:List State}{q J:Nat}(h:l8 g m q J) (aj:m.length<150) {K:List Item}(hk:yD g K):l8 g (m++[⟨K,[]⟩]) q J:=by
 refine ⟨by simp,by simp; omega,λs ay=>?_,λi s ay=>?_,λs ay w hw=>?_⟩
 ·rcases List.mem_append.1 ay with ay | ay
  ·exact h.qg s ay
  ·rw [List.mem_singleton.1 ay]; exact hk
 ·by_cases e:i<m.length
  ·rw [List.getElem?_append_left e] at ay; exact h.ms i s ay
  ·rw [List.getElem?_append_right (by omega)] at ay;have:s=⟨K,[]⟩:=by
    have:=List.mem_of_getElem? ay;simpa using this
   rw [this]; exact List.nil_sublist _
 ·rcases List.mem_append.1 ay with ay | ay
  ·exact (h.aZ s ay w hw).up (by simp)
  ·rw [List.mem_singleton.1 ay] at hw; cases hw
theorem l8.mono {g:bt}{m:List State}{q J vH:Nat}(h:l8 g m q J) (ai:J<=vH):l8 g m q vH:=by
 refine ⟨h.gU,h.mQ,h.qg,λi s ay=>?_,h.aZ⟩;have:=h.ms i s ay;split
 ·rename_i e; rw [if_pos e] at this; exact this
 ·rename_i e; rw [if_neg e] at this;split
  ·rename_i b_; rw [if_pos b_] at this;exact this.trans (List.take_sublist_take_left ai)
  ·rename_i b_; rw [if_neg b_] at this; exact this
theorem l8.next {g:bt}{m:List State}{q J:Nat}(h:l8 g m q J):l8 g m (q+1) 0:=by
 refine ⟨h.gU,h.mQ,h.qg,λi s ay=>?_,h.aZ⟩;have:=h.ms i s ay;by_cases e:i<q+1
 ·rw [if_pos e]
  split at this
  ·exact this
  ·split at this
   ·exact this.trans (List.take_sublist _ _)
   ·exact this.trans (List.nil_sublist _)
 ·rw [if_neg (by omega),if_neg (by omega)] at this;rw [if_neg e];exact this.trans (List.nil_sublist _)
theorem SC (g:bt) (aU:fX g):Tot (vZ g) λr=>(r.2=0/\mB g r.1)\/r.2=4:=by
 have dk:=aU.kf;have a_:=aU.de;have cb:=aU.ih;unfold vZ;refine Tot.ar (L4 g aU) λa6 h1=>?_;subst h1;have iy:=ZA g;refine Tot.ar (Ξ:=gK (λm=>l8 g m m.length 0) (λr:List State × Int=>r.2=4)) ?_ λx j=>?_
 ·refine Tot.loop (λs=>∃ q:Nat,s.2=(q:Int)/\q<=s.1.length/\l8 g s.1 q 0) (λs=>151 - s.2.toNat) ⟨0,rfl,Nat.zero_le _,⟨by simp,by simp,λs ay=>?_,λi s ay=>?_,λs ay v hv=>?_⟩⟩ (by show 151 - 0<1000000000000000000; omega) λs bT=>?_
  ·rw [List.mem_singleton.1 ay];refine ⟨List.pairwise_singleton ..,λx j=>?_⟩;rw [List.mem_singleton.1 j];obtain ⟨q,a7⟩:∃ q,g.bd[0]?=some q:=⟨g.bd[0]'(by omega),List.getElem?_eq_getElem _⟩;exact Om (p:=0) a7
  ·have:=List.mem_of_getElem? ay;rw [List.mem_singleton.1 this]; exact List.nil_sublist _
  ·rw [List.mem_singleton.1 ay] at hv; cases hv
  obtain ⟨q,he,a7,Bi⟩:=bT;obtain ⟨m,i⟩:=s;simp only at he a7 Bi ⊢;subst he;have vn:=Bi.mQ;rw [eA q (by omega)];refine Tot.ba (λaT=>?_) (λdC=>.ag ?_)
  ·have aT:q<m.length:=by omega
   rw [ea aT];have c6:=Bi.qg _ (List.getElem_mem aT);refine Tot.sm (Tot.ar (G9 g aU _ (by have:=c6.len aU; omega)) λc aa=>?_);have hF:=tB aU aa.1 λx j=>((aa.2 x).1 j).iZ;refine Tot.ar (Ξ:=λl:List Int=>l.length<=1000) ?_ λRx acC=>?_
   ·refine Tot.upto (λs=>s.2) c.length (λk s=>eQ hR s.1/\s.1.length<=k) rfl (by omega) ⟨.nil,Nat.le_refl 0⟩ λk s hk he bb=>?_;obtain ⟨l,i⟩:=s;obtain ⟨g1,g2⟩:=bb;simp only at he g1 g2 ⊢;subst he;rw [eA k (by omega)];refine Tot.ba (λaT=>?_) (λdC=>.ag (show l.length<=1000 by omega));have aT:k<c.length:=by omega
    rw [ea aT];refine .ar (Ξ:=λl:List Int=>eQ hR l/\l.length<=k+1) ?_ λo aU=>.ag ⟨aT,rfl,aU⟩;refine Tot.sm ?_;rw [Hp g _];refine Tot.sm (.ar (Ξ:=λl:List Int=>eQ hR l/\l.length<=k+1) ?_ λo aU=>.ag aU);refine Tot.ba (λau=>.ar (AW l _ g1 (by omega)) λr ah=>.ag ⟨ah.1,by have:=ah.2.1; omega⟩) (λau=>.ag ⟨g1,by omega⟩)
   ·refine Tot.ar (Ξ:=gK (λm=>l8 g m q (syms g).length/\q<m.length) (λr:List State × Int=>r.2=4)) ?_ λx j=>?_
    ·refine Tot.upto (λs=>s.2) (syms g).length (λk s=>l8 g s.1 q k/\q<s.1.length) rfl (by omega) ⟨Bi,aT⟩ λk s hk he bb=>?_;obtain ⟨m,i⟩:=s;obtain ⟨tR,mM⟩:=bb;simp only at he tR mM ⊢;subst he;rw [eA k (by omega)];have BF:=tR.mQ;refine Tot.ba (λaT=>?_) (λdC=>.ag ?_)
     ·have aT:k<(syms g).length:=by omega
      have p':=List.getElem_mem aT;have pt:(syms g)[k]?=some (syms g)[k]:=List.getElem?_eq_getElem aT;rw [ea aT];generalize (syms g)[k]=s at *;refine Tot.sm (Tot.ar (L3 Rx s (by omega)) λcZ _=>?_);refine Tot.bk (λ_=>.ag ⟨aT,rfl,tR.mono (by omega),mM⟩) (λ_=>?_);have nW:m[q]?=some m[q]:=List.getElem?_eq_getElem mM;have c6:=tR.qg _ (List.getElem_mem mM);rw [ea mM];generalize m[q]=st at *;refine Tot.sm (Tot.sm (Tot.ar (SH g aU st.Kernel s (by have:=c6.len aU; omega)) λDB En=>?_));have jN:yD g DB:=⟨En.1,λy al=>((En.2 y).1 al).iZ aU⟩;refine Tot.ar (SI m DB (by omega) λt aq=>by have:=(tR.qg t aq).len aU; omega) λz aW=>?_;have Wt:=(tR.ms q st nW).length_le;rw [if_neg (by omega),if_pos rfl,List.length_map,List.length_take] at Wt;refine Tot.ba (λac6=>Tot.ba (λ_=>.ag rfl) (λac7=>?_)) (λsI=>?_)
      ·refine .ar (Ξ:=λ_=>True) (Tot.ap (by simp [lim]; omega) trivial) λ_ _=>?_;have Ux:=tR.more (by omega) jN;have Ny:(m++[(⟨DB,[]⟩:State)])[q]?=some st:=by rw [List.getElem?_append_left mM]; exact nW
       have Bz:idx (m++[(⟨DB,[]⟩:State)]) (q:Int)=some st:=by simp only [idx,if_pos (show (0:Int)<=(q:Int) by omega),Int.toNat_natCast]; exact Ny
       rw [Bz];refine Tot.sm (Tot.sm ?_);refine .ar (Ξ:=λ_=>True) (Tot.ap (by simp [lim]; omega) trivial) λ_ _=>.ag ⟨aT,rfl,?_⟩;refine ⟨?_,by show q<(List.set _ _ _).length; rw [List.length_set]; simp; omega⟩;show l8 g (List.set _ (q:Int).toNat _) q (k+1);rw [Int.toNat_natCast];exact Ux.put Ny ⟨p',by show (0:Int)<=(m.length:Int); omega,by show (m.length:Int)<_; simp; omega⟩ pt
      ·refine Tot.sm (Tot.sm ?_);refine .ar (Ξ:=λ_=>True) (Tot.ap (by simp [lim]; omega) trivial) λ_ _=>.ag ⟨aT,rfl,?_⟩;refine ⟨?_,by show q<(List.set _ _ _).length; rw [List.length_set]; exact mM⟩;show l8 g (List.set _ (q:Int).toNat _) q (k+1);rw [Int.toNat_natCast];exact tR.put nW ⟨p',by show 0<=z; omega,aW.2⟩ pt
     ·have:k=(syms g).length:=by omega
      subst this;exact ⟨tR,mM⟩
    ·rcases x with x | x
     ·obtain ⟨h1,af⟩:=j;refine .ag ⟨⟨q+1,rfl,af,h1.next⟩,?_⟩;show 151 - ((q+1:Nat):Int).toNat<151 - (q:Int).toNat;omega
     ·exact .ag j
  ·have:q=m.length:=by omega
   subst this;exact Bi
 ·rcases x with x | x
  ·have j:l8 g x x.length 0:=j;have key:∀ st∈x,(st.ey.map (·.Sym)).Sublist (syms g):=λst bT=>by
    obtain ⟨i,hi⟩:=List.getElem?_of_mem bT;have:=j.ms i st hi;rw [if_pos (List.getElem?_eq_some_iff.1 hi).1] at this;exact this
   refine .ag (.inl ⟨rfl,j.gU,j.mQ,j.qg,λst bT=>?_,λst bT=>(key st bT).nodup (ZB aU),j.aZ⟩);have:=(key st bT).length_le;rw [List.length_map] at this; omega
  ·exact .ag (.inr j)
theorem Xd {α:Type}{m:List α}{q:Nat}{x:α}(h:m[q]?=some x):idx m (q:Int)=some x:=by simp [idx,h]
def GoTo (m:List State) (a s r:Int):Prop:=(r=-1/\∀ st,idx m a=some st->∀ v∈st.ey,v.Sym≠s)\/∃ st v,idx m a=some st/\v∈st.ey/\v.Sym=s/\r=v.jz
theorem DY (m:List State) (a s:Int) (hm:∀ st∈m,st.ey.length<=64):Tot (q6 m a s) (GoTo m a s):=by
 unfold q6;by_cases aO:0<=a/\a<(m.length:Int)
 ·obtain ⟨st,bT,nn⟩:=n3 aO.1 aO.2;have aj:=hm st nn;have d1:decide (0<=a)=true:=decide_eq_true aO.1;have d2:decide (a<(m.length:Int))=true:=decide_eq_true aO.2;rw [d1,d2];simp only [cond_true,bT,Option.bind_some];refine .ar (Ξ:=gK (λ_=>∀ v∈st.ey,v.Sym≠s) (λr:Int=>∃ v,v∈st.ey/\v.Sym=s/\r=v.jz)) ?_ λx j=>?_
  ·refine Tot.upto (λs=>s) st.ey.length (λk _=>∀ v∈st.ey.take k,v.Sym≠s) rfl (by omega) (by simp) λk i hk he bb=>?_;subst he;rw [eA k (by omega)];refine Tot.ba (λaT=>?_) (λdC=>.ag (by
    show ∀ v∈st.ey,v.Sym≠s;rw [List.take_of_length_le (by omega)] at bb; exact bb))
   have aT:k<st.ey.length:=by omega
   rw [ea aT];simp only [Option.bind_some];refine Tot.ba (λe=>.ag ⟨_,List.getElem_mem aT,e,rfl⟩) (λe=>.ag ⟨aT,rfl,λv hv=>?_⟩);rw [kr aT,List.mem_append,List.mem_singleton] at hv;rcases hv with hv | rfl
   ·exact bb v hv
   ·exact e
  ·rcases x with x | x
   ·exact .ag (.inl ⟨rfl,λQf aI=>by rw [bT] at aI; cases aI; exact j⟩)
   ·obtain ⟨v,h1,af,aJ⟩:=j;exact .ag (.inr ⟨st,v,bT,h1,af,aJ⟩)
 ·refine .ar (Ξ:=gK (λ_=>True) (λ_:Int=>False)) (Tot.loop (λ_=>True) (λ_=>0) trivial (by show 0<1000000000000000000; omega) λi _=>?_) λx j=>?_
  ·refine .ar (Ξ:=λc=>c=false) ?_ λc aa=>by subst aa; exact .ag trivial
   refine Tot.ba (λh1=>Tot.ba (λaf=>absurd ⟨h1,af⟩ aO) (λ_=>.ag rfl)) (λ_=>.ag rfl)
  ·rcases x with x | x
   ·refine .ag (.inl ⟨rfl,λst aI=>absurd ⟨(n1 aI).1,(n1 aI).2.1⟩ aO⟩)
   ·exact j.elim
theorem GoTo.aV {g:bt}{m:List State}(hm:mB g m) {a s r:Int}(h:GoTo m a s r):-1<=r/\r<m.length:=by
 rcases h with ⟨rfl,_⟩ | ⟨st,v,h1,af,_,rfl⟩
 ·have:=hm.gU; exact ⟨by omega,by omega⟩
 ·have:=hm.aZ st (n1 h1).2.2 v af;exact ⟨by have:=this.t0; omega,this.t1⟩
theorem GoTo.yes {g:bt}{m:List State}(hm:mB g m) {a s r:Int}(h:GoTo m a s r) {st:State}{v:Move}(ay:idx m a=some st) (hv:v∈st.ey) (e:v.Sym=s):0<=r/\r<m.length:=by
 rcases h with ⟨rfl,h⟩ | ⟨st,v,h1,af,_,rfl⟩
 ·exact absurd e (h st ay v hv)
 ·have:=hm.aZ st (n1 h1).2.2 v af;exact ⟨this.t0,this.t1⟩
theorem L6 {g:bt}{m:List State}(hm:mB g m) (a:Int) (l:List Int) (aR:-1<=a/\a<m.length) (aj:l.length<=1000):Tot (zY m a l) λr=>-1<=r/\r<m.length:=by
 unfold zY;refine .ar (Ξ:=λr:Int=>-1<=r/\r<m.length) ?_ λr ah=>.ag ah;refine Tot.upto (λs=>s.2) l.length (λ_ s=>-1<=s.1/\s.1<m.length) rfl (by omega) aR λk s hk he bb=>?_;obtain ⟨r,i⟩:=s;simp only at he bb ⊢;subst he;rw [eA k (by omega)];refine .ar (Ξ:=λc=>c=true->k<l.length) (Tot.ba (λh=>.ag λ_=>by omega) (λ_=>.ag λh=>by cases h)) λc aa=>Tot.bk (λh=>?_) (λ_=>.ag bb);have aT:=aa h;rw [ea aT];exact Tot.sm (.ar (DY m r _ hm.xC) λz aW=>.ag ⟨aT,rfl,aW.aV hm⟩)
def u3 (m:List State) (t:Trans):Prop:=∃ st v,idx m t.State=some st/\v∈st.ey/\v.Sym=t.e_/\1000<=t.e_
structure wz (m:List State) (l:List Trans):Prop where
 n:l.length<=9600
 ok:∀ t∈l,u3 m t
 gz:∀ (q:Nat) (st:State) (v:Move),m[q]?=some st->v∈st.ey->1000<=v.Sym->(⟨q,v.Sym⟩:Trans)∈l
theorem SM {g:bt}{m:List State}(hm:mB g m):Tot (qo m) (wz m):=by
 have aA:=hm.mQ;unfold qo;refine .ar (Ξ:=wz m) ?_ λr ah=>.ag ah;refine Tot.upto (λs=>s.2) m.length (λk s=>s.1.length<=64 * k/\(∀ t∈s.1,u3 m t)/\∀ (q:Nat) (st:State) (v:Move),q<k->m[q]?=some st->v∈st.ey->1000<=v.Sym->(⟨q,v.Sym⟩:Trans)∈s.1) rfl (by omega) ⟨Nat.le_refl 0,λt h=>(by cases h),λq _ _ h=>absurd h (Nat.not_lt_zero _)⟩ λk s hk he bb=>?_;obtain ⟨l,i⟩:=s;obtain ⟨h1,af,aJ⟩:=bb;simp only at he h1 af aJ ⊢;subst he;rw [eA k (by omega)];refine Tot.ba (λaT=>?_) (λdC=>.ag ⟨?_,af,λq st v a7=>aJ q st v ?_ a7⟩)
 ·have aT:k<m.length:=by omega
  have nW:m[k]?=some m[k]:=List.getElem?_eq_getElem aT;have nn:=List.getElem_mem aT;rw [ea aT];generalize m[k]=st at *;have BF:=hm.xC st nn;simp only [Option.bind_some];refine .ar (Ξ:=λzA:List Trans=>zA.length<=64 * (k+1)/\(∀ t∈zA,u3 m t)/\(∀ t∈l,t∈zA)/\∀ v∈st.ey,1000<=v.Sym->(⟨k,v.Sym⟩:Trans)∈zA) ?_ λzA hM=>.ag ⟨aT,rfl,hM.1,hM.2.1,λq Qf v a7 bx cu dL=>?_⟩
  ·refine Tot.upto (λs=>s.2) st.ey.length (λJ s=>s.1.length<=64 * k+J/\(∀ t∈s.1,u3 m t)/\(∀ t∈l,t∈s.1)/\∀ v∈st.ey.take J,1000<=v.Sym->(⟨k,v.Sym⟩:Trans)∈s.1) rfl (by omega) ⟨h1,af,λ_ h=>h,λv hv=>by simp at hv⟩ λJ s ai he bb=>?_;obtain ⟨o,i⟩:=s;obtain ⟨g1,g2,g3,g4⟩:=bb;simp only at he g1 g2 g3 g4 ⊢;subst he;rw [eA J (by omega)];refine Tot.ba (λaT=>?_) (λdC=>.ag ⟨by show o.length<=_; omega,g2,g3,by
    rw [List.take_of_length_le (by omega)] at g4; exact g4⟩)
   have aT:J<st.ey.length:=by omega
   have fu:=kr aT;have EN:=List.getElem_mem aT;rw [ea aT];generalize st.ey[J]=v at *;simp only [Option.bind_some];refine .ar (Ξ:=λo:List Trans=>o.length<=64 * k+(J+1)/\(∀ t∈o,u3 m t)/\(∀ t∈l,t∈o)/\∀ v∈st.ey.take (J+1),1000<=v.Sym->(⟨k,v.Sym⟩:Trans)∈o) ?_ λo aU=>.ag ⟨aT,rfl,aU⟩;refine .ar (Ξ:=λo:List Trans=>o.length<=64 * k+(J+1)/\(∀ t∈o,u3 m t)/\(∀ t∈l,t∈o)/\∀ v∈st.ey.take (J+1),1000<=v.Sym->(⟨k,v.Sym⟩:Trans)∈o) (Tot.ba (λh=>?_) (λh=>.ag ⟨by omega,g2,g3,λw hw ay=>?_⟩)) λo aU=>.ag aU
   ·refine .ar (Ξ:=λ_=>True) (Tot.ap (by simp [lim]; omega) trivial) λ_ _=>.ag ⟨by simp; omega,λt aq=>?_,λt aq=>List.mem_append_left _ (g3 t aq),λw hw ay=>?_⟩
    ·rcases List.mem_append.1 aq with aq | aq
     ·exact g2 t aq
     ·rw [List.mem_singleton.1 aq];exact ⟨st,v,Xd nW,EN,rfl,h⟩
    ·rw [fu,List.mem_append,List.mem_singleton] at hw;rcases hw with hw | rfl
     ·exact List.mem_append_left _ (g4 w hw ay)
     ·simp
   ·rw [fu,List.mem_append,List.mem_singleton] at hw;rcases hw with hw | rfl
    ·exact g4 w hw ay
    ·exact absurd ay h
  ·by_cases e:q=k
   ·subst e;rw [nW] at bx; cases bx;exact hM.2.2.2 v cu dL
   ·exact hM.2.2.1 _ (aJ q Qf v (by omega) bx cu dL)
 ·show l.length<=9600;omega
 ·have:=(List.getElem?_eq_some_iff.1 a7).1;omega
theorem AP (l:List Trans) (a n:Int) (aj:l.length<=9600):Tot (zN l a n) λr=>-1<=r/\r<l.length/\((⟨a,n⟩:Trans)∈l->0<=r):=by
 unfold zN;refine .ar (Ξ:=gK (λ_=>(⟨a,n⟩:Trans)∉l) (λr:Int=>0<=r/\r<l.length)) ?_ λx j=>?_
 ·refine Tot.upto (λs=>s) l.length (λk _=>(⟨a,n⟩:Trans)∉l.take k) rfl (by omega) (by simp) λk i hk he bb=>?_;subst he;rw [eA k (by omega)];refine Tot.ba (λaT=>?_) (λdC=>.ag (by
   show (⟨a,n⟩:Trans)∉l;rw [List.take_of_length_le (by omega)] at bb; exact bb))
  have aT:k<l.length:=by omega
  have fu:=kr aT;rw [ea aT];generalize l[k]=y at *;simp only [Option.bind_some];refine .ar (Ξ:=λc:Bool=>c=false->y≠⟨a,n⟩) (Tot.ba (λh=>.ag λaI e=>?_) (λh=>.ag λ_ e=>h (by rw [e]))) λc aa=>Tot.bk (λh=>.ag ⟨by show (0:Int)<=k; omega,by show (k:Int)<_; omega⟩) (λh=>.ag ⟨aT,rfl,?_⟩)
  ·have:=of_decide_eq_false aI;exact this (by rw [e])
  ·rw [fu,List.mem_append,List.mem_singleton];exact λaI=>aI.elim bb λe=>aa h e.symm
 ·rcases x with x | x
  ·refine .ag ⟨by omega,by omega,λh=>absurd h j⟩
  ·have j:0<=x/\x<l.length:=j;exact .ag ⟨by omega,j.2,λ_=>j.1⟩
theorem Sp (l:List Item) (aj:l.length<=1000000):Tot (CB l) λ_=>True:=by
 unfold CB;refine .ar (Ξ:=λ_=>True) ?_ λx j=>by
  rcases x with x | x
  ·exact .ag trivial
  ·exact .ag trivial
 refine Tot.upto (λs=>s) l.length (λ_ _=>True) rfl (by omega) trivial λk i hk he _=>?_;subst he;rw [eA k (by omega)];refine Tot.ba (λaT=>?_) (λ_=>.ag trivial);have aT:k<l.length:=by omega
 rw [ea aT];simp only [Option.bind_some];refine .ar (Ξ:=λ_=>True) (Tot.ba (λ_=>.ag trivial) (λ_=>.ag trivial)) λc _=>Tot.bk (λ_=>.ag trivial) (λ_=>.ag ⟨aT,rfl,trivial⟩)
theorem yZ (B:List Bool) (l:List Int) (aj:l.length<=1000) (h:∀ s∈l,s<1000\/(1000<=s/\s - 1000<B.length)) (e4:B.length<=1000):Tot (zO B l) λ_=>True:=by
 unfold zO;refine .ar (Ξ:=λ_=>True) ?_ λx j=>by
  rcases x with x | x
  ·exact .ag trivial
  ·exact .ag trivial
 refine Tot.upto (λs=>s) l.length (λ_ _=>True) rfl (by omega) trivial λk i hk he _=>?_;subst he;rw [eA k (by omega)];refine Tot.ba (λaT=>?_) (λ_=>.ag trivial);have aT:k<l.length:=by omega
 have al:=h _ (List.getElem_mem aT);rw [ea aT];generalize l[k]=y at *;simp only [Option.bind_some];refine .ar (Ξ:=λ_=>True) (Tot.ba (λ_=>.ag trivial) (λh1=>?_)) λc _=>Tot.bk (λ_=>.ag trivial) (λ_=>.ag ⟨aT,rfl,trivial⟩);have hw:aG (y - 1000)=y - 1000:=by rw [cm]; omega
 rw [hw];obtain ⟨b,av,_⟩:=n3 (l:=B) (i:=y - 1000) (by omega) (by omega);rw [av];exact .ag trivial
theorem Px {g:bt}(aN:fX g) {q:Prod}(a7:q∈g.bd) {B:List Bool}(e4:B.length=g.bY.length):∀ s∈q.e2,s<1000\/(1000<=s/\s - 1000<B.length):=λs ay=>by
 have aq:=aN.kf;have aA:=aN.de;rcases (aN.gj q a7).right s ay with h | h <;> omega
theorem LZ (g:bt) (aN:fX g):Tot (zM g) λB=>B.length=g.bY.length:=by
 have aq:=aN.kf;have aA:=aN.de;have au:=aN.ih;unfold zM;refine .ar (Ξ:=λB=>B=List.replicate g.bY.length false) (Tot.mk (by simp [lim]; omega) (by simp)) λaao Ue=>?_;subst Ue;refine .ar (Ξ:=λB:List Bool=>B.length=g.bY.length) ?_ λB e4=>.ag e4;refine Tot.loop (λs=>s.1.length=g.bY.length) (λs=>2 * (g.bY.length - hq s.1)+s.2.toNat) (by simp) (by
  show 2 * (g.bY.length - hq _)+1<1000000000000000000; omega) λs ay=>?_
 obtain ⟨B,f⟩:=s;simp only at ay ⊢;refine Tot.bk (λaS=>?_) (λ_=>.ag ay);subst aS;refine .ar (Ξ:=λr:List Bool × Bool=>r.1.length=g.bY.length/\hq B<=hq r.1/\(r.2=true->hq B<hq r.1)) ?_ λr ah=>?_
 ·refine Tot.upto (λs=>s.2.2) g.bd.length (λ_ s=>s.1.length=g.bY.length/\hq B<=hq s.1/\(s.2.1=true->hq B<hq s.1)) rfl (by omega) ⟨ay,Nat.le_refl _,λh=>by cases h⟩ λk s hk he bb=>?_;obtain ⟨C,f,i⟩:=s;obtain ⟨h1,af,aJ⟩:=bb;simp only at he h1 af aJ ⊢;subst he;rw [eA k (by omega)];refine Tot.ba (λaT=>?_) (λdC=>.ag ⟨h1,af,aJ⟩);have aT:k<g.bd.length:=by omega
  have mM:=List.getElem_mem aT;rw [ea aT];generalize g.bd[k]=q at *;have a7:=aN.gj q mM;have NT:=a7.left;obtain ⟨b,av,_⟩:=n3 (l:=C) (i:=q.Left) NT.1 (by omega);simp only [Option.bind_some,av];refine .ar (Ξ:=λr:List Bool × Bool=>r.1.length=g.bY.length/\hq B<=hq r.1/\(r.2=true->hq B<hq r.1)) ?_ λr ah=>.ag ⟨aT,rfl,ah⟩;refine .ar (Ξ:=λc:Bool=>c=true->b=false) ?_ λc aa=>?_
  ·cases b with
   | true=>exact .ag λh=>by cases h
   | false =>
    refine .ar (yZ C q.e2 (by have:=aN.aL q mM; omega) (Px aN mM h1) (by omega)) λ_ _=>.ag λ_=>rfl
  ·refine .ar (Ξ:=λr:List Bool × Bool=>r.1.length=g.bY.length/\hq B<=hq r.1/\(r.2=true->hq B<hq r.1)) (Tot.bk (λh=>.ag ?_) (λh=>.ag ⟨h1,af,aJ⟩)) λr ah=>.ag ah;have Vi:=aa h;subst Vi;have p8:q.Left.toNat<C.length:=by omega
   have nW:C.getD q.Left.toNat false=false:=by
    unfold idx at av;rw [if_pos NT.1] at av;rw [List.getD_eq_getElem?_getD,av]; rfl
   have:=wO C q.Left.toNat p8 nW;exact ⟨by rw [List.length_set]; exact h1,by show hq B<=hq (C.set _ _); omega,λ_=>by show hq B<hq (C.set _ _); omega⟩
 ·obtain ⟨h1,af,aJ⟩:=ah;refine .ag ⟨h1,?_⟩;have aa:=SQ r.1;show 2 * (g.bY.length - hq r.1)+r.2.toNat<2 * (g.bY.length - hq B)+true.toNat;cases hN:r.2 with
  | false=>simp only [Bool.toNat_false,Bool.toNat_true]; omega
  | true =>
   have:=aJ hN;simp only [Bool.toNat_true]; omega
structure jd (T:Nat) (r:List Int):Prop where
 a:eQ hR r
 i:∀ x∈r,0<=x/\x<T
theorem jd.len {T:Nat}{r:List Int}(h:jd T r):r.length<=T:=by
 have:=uA (m:=(List.range T).map λk:Nat=>(k:Int)) (h.a.nd Ft) λx j=>by
  have:=h.i x j;exact List.mem_map.2 ⟨x.toNat,by rw [List.mem_range]; omega,by omega⟩
 grind
theorem jd.nil {T:Nat}:jd T []:=⟨.nil,λx h=>by cases h⟩
theorem jd.put {T:Nat}(dk:T<=100000) {r:List Int}(h:jd T r) {x:Int}(j:0<=x/\x<T):Tot (pF r x) λck=>jd T ck/\r.length<=ck.length:=by
 have aj:=h.len;refine (AW r x h.a (by omega)).use λck dM=>⟨⟨dM.1,λy al=>?_⟩,uA (h.a.nd Ft) λy al=>(dM.2.2 y).2 (.inl al)⟩;rcases (dM.2.2 y).1 al with aI | rfl
 ·exact h.i y aI
 grind
def mv (L:List (List Int)) (i:Nat):Nat:=(L.getD i []).length
def ja (L:List (List Int)):Nat:=(L.map List.length).sum
theorem Qq:∀ (L hL:List (List Int)),L.length=hL.length->(∀ i,mv L i<=mv hL i)->ja L<=ja hL/\((∃ i,mv L i<mv hL i)->ja L<ja hL)
 | [],[],_,_=>⟨Nat.le_refl _,λ⟨i,h⟩=>absurd h (Nat.lt_irrefl _)⟩
 | a::L,b::hL,aj,h=>by
  obtain ⟨h1,af⟩:=Qq L hL (by simpa using aj) λi=>by simpa [mv] using h (i+1)
  have aO:a.length<=b.length:=by simpa [mv] using h 0
  have cr:ja (a::L)=a.length+ja L:=by simp [ja]
  have b9:ja (b::hL)=b.length+ja hL:=by simp [ja]
  rw [cr,b9];refine ⟨by omega,λ⟨i,hi⟩=>?_⟩;cases i with
  | zero =>
   have:a.length<b.length:=by simpa [mv] using hi
   omega
  | succ i =>
   have:=af ⟨i,by simpa [mv] using hi⟩;omega
def Sets (T:Nat) (L:List (List Int)):Prop:=∀ r∈L,jd T r
theorem Qp {T:Nat}:∀ {L:List (List Int)},Sets T L->ja L<=L.length * T
 | [],_=>by simp [ja]
 | a::L,h=>by
  have h1:=(h a (by simp)).len;have af:=Qp (L:=L) λr ah=>h r (by simp [ah]);have cr:ja (a::L)=a.length+ja L:=by simp [ja]
  rw [cr,List.length_cons,Nat.succ_mul]; omega
structure pc (T:Nat) (L hL:List (List Int)):Prop where
 n:hL.length=L.length
 s:Sets T hL
 u:∀ i,mv L i<=mv hL i
theorem pc.refl {T:Nat}{L:List (List Int)}(h:Sets T L):pc T L L:=⟨rfl,h,λ_=>Nat.le_refl _⟩
theorem pc.trans {T:Nat}{A B C:List (List Int)}(h:pc T A B) (aI:pc T B C):pc T A C:=⟨aI.n.trans h.n,aI.s,λi=>Nat.le_trans (h.u i) (aI.u i)⟩
theorem pc.set {T:Nat}{L:List (List Int)}{k:Nat}{r ck:List Int}(ay:Sets T L) (hk:L[k]?=some r) (h:jd T ck) (aj:r.length<=ck.length):pc T L (L.set k ck):=by
 have dT:=(List.getElem?_eq_some_iff.1 hk).1;refine ⟨List.length_set ..,λx j=>?_,λi=>?_⟩
 ·rcases List.mem_or_eq_of_mem_set j with aI | aI
  ·exact ay x aI
  grind
 grind [mv]
theorem Xe {L:List (List Int)}{k:Nat}{r:List Int}(h:L[k]?=some r):mv L k=r.length:=by
 grind [mv]
theorem Xc {α:Type}{l:List α}{i:Int}{y:α}(h:idx l i=some y):l[i.toNat]?=some y:=by
 grind [idx]
theorem L5 (T:Nat) (dk:T<=1000) (a0 aB:List (List Int)) (aA:a0.length<=9600) (he:aB.length=a0.length) (aO:Sets T a0) (h1:Sets a0.length aB):Tot (zX a0 aB) λr=>r.length=a0.length/\Sets T r:=by
 unfold zX;refine .ar (Ξ:=λr:List (List Int)=>r.length=a0.length/\Sets T r) ?_ λr ah=>.ag ah;have av:a0.length * T<=9600 * 1000:=Nat.mul_le_mul aA dk;refine Tot.loop (λs=>s.1.length=a0.length/\Sets T s.1) (λs=>2 * (a0.length * T - ja s.1)+s.2.toNat) ⟨rfl,aO⟩ (by
  show 2 * (a0.length * T - ja _)+1<1000000000000000000;omega) λs ay=>?_
 obtain ⟨L,f⟩:=s;obtain ⟨aj,ay⟩:=ay;simp only at aj ay ⊢;refine Tot.bk (λaS=>?_) (λ_=>.ag ⟨aj,ay⟩);subst aS;refine .ar (Ξ:=λr:List (List Int) × Bool=>pc T L r.1/\(r.2=true->∃ i,mv L i<mv r.1 i)) ?_ λr ah=>?_
 ·refine Tot.upto (λs=>s.2.2) L.length (λ_ s=>pc T L s.1/\(s.2.1=true->∃ i,mv L i<mv s.1 i)) rfl (by omega) ⟨.refl ay,λh=>by cases h⟩ λk s hk h8 bb=>?_;obtain ⟨C,f,i⟩:=s;obtain ⟨hu,xa⟩:=bb;simp only at h8 hu xa ⊢;subst h8;rw [eA k (by omega)];have N3:=hu.n;refine Tot.ba (λaT=>?_) (λdC=>.ag ⟨hu,xa⟩);have NG:k<C.length:=by omega
  have gg:k<aB.length:=by omega
  have acK:C[k]?=some C[k]:=List.getElem?_eq_getElem NG;have lT:=h1 _ (List.getElem_mem gg);rw [ea gg,ea NG];generalize aB[k]=row at *;generalize C[k]=jH at *;simp only [Option.bind_some];have nZ:=lT.len;refine .ar (Ξ:=λD:List (List Int)=>pc T C D) ?_ λD h6=>?_
  ·refine Tot.upto (λs=>s.2) row.length (λ_ s=>pc T C s.1) rfl (by omega) (.refl hu.s) λJ s ai h8 bb=>?_;obtain ⟨D,i⟩:=s;simp only at h8 bb ⊢;subst h8;rw [eA J (by omega)];have Uj:=bb.n;refine Tot.ba (λaT=>?_) (λ_=>.ag bb);have aT:J<row.length:=by omega
   have al:=lT.i _ (List.getElem_mem aT);rw [ea aT];generalize row[J]=y at *;simp only [Option.bind_some];refine .ar (Ξ:=λE:List (List Int)=>pc T C E) ?_ λE ko=>.ag ⟨aT,rfl,ko⟩;refine Tot.count (λs=>s.2) T (λs=>∃ n:Nat,s.2=(n:Int)/\pc T C s.1) ⟨0,rfl,bb⟩ (by show (T:Int) - 0<_; omega) λs ay=>?_;obtain ⟨E,i⟩:=s;obtain ⟨n,EC,ko⟩:=ay;simp only at EC ko ⊢;subst EC;have acu:=ko.n;obtain ⟨z,aW,W'⟩:=n3 (l:=E) (i:=y) al.1 (by omega);have oO:=ko.s z W';have uw:=oO.len;have Ix:k<E.length:=by omega
   have VJ:E[k]?=some E[k]:=List.getElem?_eq_getElem Ix;rw [aW];simp only [Option.bind_some];refine Tot.ba (λaT=>?_) (λ_=>.ag ko);have aT:n<z.length:=by omega
   rw [eA n (by omega),ea Ix,ea aT];simp only [Option.bind_some];refine .ar ((ko.s _ (List.getElem_mem Ix)).put (by omega) (oO.i _ (List.getElem_mem aT))) λck dM=>.ag ⟨⟨n+1,rfl,?_⟩,by show (n:Int)<((n+1:Nat):Int); omega,by show ((n+1:Nat):Int)<=T; omega⟩;exact ko.trans (.set ko.s VJ dM.1 dM.2)
  ·have Uj:=h6.n;have NH:k<D.length:=by omega
   have acL:D[k]?=some D[k]:=List.getElem?_eq_getElem NH;have zs:=hu.trans h6;refine .ar (Ξ:=λc:Bool=>c=true->∃ i,mv L i<mv D i) ?_ λc aa=>.ag ⟨by omega,rfl,zs,aa⟩;refine Tot.bk (λaS=>.ag λ_=>?_) (λ_=>?_)
   ·obtain ⟨i,hi⟩:=xa aS;exact ⟨i,Nat.lt_of_lt_of_le hi (h6.u i)⟩
   ·rw [ea NH];refine Tot.sm (.ag λh=>⟨k,?_⟩);have aJ:=h6.u k;have bx:=hu.u k
    grind [Xe]
 ·obtain ⟨hu,aS⟩:=ah;have BO:=hu.n;obtain ⟨aJ,bx⟩:=Qq L r.1 BO.symm hu.u;have cu:=Qp hu.s;rw [show r.1.length=a0.length by omega] at cu;refine .ag ⟨⟨by show r.1.length=_; omega,hu.s⟩,?_⟩;show 2 * (a0.length * T - ja r.1)+r.2.toNat<2 * (a0.length * T - ja L)+true.toNat;cases hN:r.2 with
  | false=>simp only [Bool.toNat_false,Bool.toNat_true]; omega
  | true =>
   grind
theorem mB.sym {g:bt}(aN:fX g) {m:List State}(hm:mB g m) {st:State}(bT:st∈m) {v:Move}(hv:v∈st.ey):0<=v.Sym/\(v.Sym<1000->v.Sym<g.a1.length)/\(1000<=v.Sym->v.Sym - 1000<g.bY.length):=by
 have aq:=aN.kf;rcases XM.1 (hm.aZ st bT v hv).s with h | h
 ·exact ⟨h.1,λ_=>h.2,λaI=>by omega⟩
 ·exact ⟨by omega,λaI=>by omega,λ_=>by omega⟩
theorem u3.go {g:bt}{m:List State}(hm:mB g m) {t:Trans}(h:u3 m t):Tot (q6 m t.State t.e_) λr=>0<=r/\r<m.length:=by
 obtain ⟨st,v,h1,af,aJ,_⟩:=h;exact (DY m t.State t.e_ hm.xC).use λr ah=>ah.yes hm h1 af aJ
theorem P5 {T:Nat}{L:List (List Int)}{r:List Int}(h:Sets T L) (ah:jd T r):Sets T (L++[r]):=λx j=>by
 rcases List.mem_append.1 j with j | j
 ·exact h x j
 ·rw [List.mem_singleton.1 j]; exact ah
theorem SJ (g:bt) (aN:fX g) {m:List State}(hm:mB g m):Tot (CU m) λr=>∃ ds,qo m=some ds/\wz m ds/\r.length=ds.length/\Sets g.a1.length r:=by
 have aq:=aN.kf;obtain ⟨ds,p1,ie⟩:=SM hm;have vy:=ie.n;unfold CU;rw [p1];refine Tot.sm (.ar (Ξ:=λr:List (List Int)=>r.length=ds.length/\Sets g.a1.length r) ?_ λr ah=>.ag ⟨ds,rfl,ie,ah⟩);refine Tot.upto (λs=>s.2) ds.length (λk s=>s.1.length=k/\Sets g.a1.length s.1) rfl (by omega) ⟨rfl,λr h=>by cases h⟩ λk s hk he bb=>?_;obtain ⟨L,i⟩:=s;obtain ⟨h1,af⟩:=bb;simp only at he h1 af ⊢;subst he;rw [eA k (by omega)];refine Tot.ba (λaT=>?_) (λdC=>.ag ⟨by show L.length=_; omega,af⟩);have aT:k<ds.length:=by omega
 have fu:=ie.ok _ (List.getElem_mem aT);rw [ea aT];generalize ds[k]=t at *;simp only [Option.bind_some];refine .ar (fu.go hm) λto BT=>?_;obtain ⟨st,bT,p'⟩:=n3 BT.1 BT.2;have c6:=hm.qg st p';have BF:=hm.xC st p';rw [bT];simp only [Option.bind_some];refine .ar (Sp _ (by have:=c6.len aN; omega)) λc _=>?_;refine .ar (Ξ:=jd g.a1.length) (Tot.bk (λ_=>?_) (λ_=>.ag .nil)) λz8 zo=>?_
 ·refine .ar (Ξ:=λ_=>True) (Tot.ap (by simp [lim]) trivial) λ_ _=>.ag ⟨List.pairwise_singleton ..,λx j=>?_⟩;rw [List.mem_singleton.1 j]; omega
 refine .ar (Ξ:=jd g.a1.length) ?_ λr ah=>?_
 ·refine Tot.upto (λs=>s.2) st.ey.length (λk s=>jd g.a1.length s.1) rfl (by omega) zo λJ s ai he bb=>?_;obtain ⟨r,i⟩:=s;simp only at he bb ⊢;subst he;rw [eA J (by omega)];refine Tot.ba (λaT=>?_) (λ_=>.ag bb);have aT:J<st.ey.length:=by omega
  have hv:=hm.sym aN p' (List.getElem_mem aT);rw [ea aT];generalize st.ey[J]=v at *;simp only [Option.bind_some];refine .ar (Ξ:=jd g.a1.length) ?_ λr ah=>.ag ⟨aT,rfl,ah⟩;refine .ar (Ξ:=jd g.a1.length) (Tot.ba (λh=>?_) (λ_=>.ag bb)) λr ah=>.ag ah;exact .ar (bb.put (by omega) ⟨hv.1,hv.2.1 h⟩) λr ah=>.ag ah.1
 ·refine .ar (Ξ:=λ_=>True) (Tot.ap (by simp [lim]; omega) trivial) λ_ _=>.ag ⟨aT,rfl,by simp; omega,P5 af ah⟩
theorem SK (g:bt) (aN:fX g) {m:List State}(hm:mB g m) {ds:List Trans}(p1:qo m=some ds) (ie:wz m ds):Tot (CV g m) λr=>r.length=ds.length/\Sets ds.length r:=by
 have aq:=aN.kf;have kF:=aN.de;have vy:=ie.n;unfold CV;rw [p1];refine Tot.sm (.ar (LZ g aN) λB e4=>.ar (Ξ:=λr:List (List Int)=>r.length=ds.length/\Sets ds.length r) ?_ λr ah=>.ag ah);refine Tot.upto (λs=>s.2) ds.length (λk s=>s.1.length=k/\Sets ds.length s.1) rfl (by omega) ⟨rfl,λr h=>by cases h⟩ λk s hk he bb=>?_;obtain ⟨L,i⟩:=s;obtain ⟨h1,af⟩:=bb;simp only at he h1 af ⊢;subst he;rw [eA k (by omega)];refine Tot.ba (λaT=>?_) (λdC=>.ag ⟨by show L.length=_; omega,af⟩);have aT:k<ds.length:=by omega
 have fu:=ie.ok _ (List.getElem_mem aT);rw [ea aT];generalize ds[k]=t at *;simp only [Option.bind_some];refine .ar (fu.go hm) λto BT=>?_;obtain ⟨st,bT,p'⟩:=n3 BT.1 BT.2;have oK:=Xc bT;have BF:=hm.xC st p';rw [bT];simp only [Option.bind_some];refine .ar (Ξ:=jd ds.length) ?_ λr ah=>?_
 ·refine Tot.upto (λs=>s.2) st.ey.length (λk s=>jd ds.length s.1) rfl (by omega) .nil λJ s ai he bb=>?_;obtain ⟨r,i⟩:=s;simp only at he bb ⊢;subst he;rw [eA J (by omega)];refine Tot.ba (λaT=>?_) (λ_=>.ag bb);have aT:J<st.ey.length:=by omega
  have EN:=List.getElem_mem aT;have hv:=hm.sym aN p' EN;rw [ea aT];generalize st.ey[J]=v at *;simp only [Option.bind_some];refine .ar (Ξ:=jd ds.length) ?_ λr ah=>.ag ⟨aT,rfl,ah⟩;refine .ar (Ξ:=λc:Bool=>c=true->1000<=v.Sym) (Tot.ba (λh=>?_) (λ_=>.ag λh=>by cases h)) λc aa=>?_
  ·have hw:aG (v.Sym - 1000)=v.Sym - 1000:=by
    have:=hv.2.2 h;rw [cm]; omega
   rw [hw];obtain ⟨b,av,_⟩:=n3 (l:=B) (i:=v.Sym - 1000) (by omega) (by have:=hv.2.2 h; omega);rw [av];exact Tot.sm (.ag λ_=>h)
  ·refine .ar (Ξ:=jd ds.length) (Tot.bk (λh=>?_) (λ_=>.ag bb)) λr ah=>.ag ah;have Ew:=ie.gz to.toNat st v oK EN (aa h);rw [show ((to.toNat:Nat):Int)=to by omega] at Ew;refine .ar (AP ds to v.Sym vy) λz aW=>?_;exact .ar (bb.put (by omega) ⟨aW.2.2 Ew,aW.2.1⟩) λr ah=>.ag ah.1
 ·refine .ar (Ξ:=λ_=>True) (Tot.ap (by simp [lim]; omega) trivial) λ_ _=>.ag ⟨aT,rfl,by simp; omega,P5 af ah⟩
theorem SL (g:bt) (aN:fX g) {m:List State}(hm:mB g m) {ds:List Trans}(p1:qo m=some ds) (ie:wz m ds):Tot (CW g m) λr=>r.length=ds.length/\Sets ds.length r:=by
 have aq:=aN.kf;have kF:=aN.de;have xf:=aN.ih;have vy:=ie.n;unfold CW;rw [p1];refine Tot.sm (.ar (LZ g aN) λB e4=>.ar (Ξ:=λr=>r=List.replicate ds.length ([]:List Int)) (Tot.mk (by simp [lim]; omega) (by simp)) λaas Ut=>.ar (Ξ:=λr:List (List Int)=>r.length=ds.length/\Sets ds.length r) ?_ λr ah=>.ag ah);subst Ut;have aan:∀ {L:List (List Int)},(L.length=ds.length/\Sets ds.length L)->∀ {z:Int}{r ck:List Int},idx L z=some r->jd ds.length ck->(L.set z.toNat ck).length=ds.length/\Sets ds.length (L.set z.toNat ck):=λ{L} iy {z r ck} _ dM=>⟨by rw [List.length_set]; exact iy.1,λx j=>by
  rcases List.mem_or_eq_of_mem_set j with aI | aI
  ·exact iy.2 x aI
  ·rw [aI]; exact dM⟩
 refine Tot.upto (λs=>s.2) ds.length (λk s=>s.1.length=ds.length/\Sets ds.length s.1) rfl (by omega) ⟨by simp,λr h=>by rw [List.eq_of_mem_replicate h]; exact .nil⟩ λk s hk he bb=>?_;obtain ⟨L,i⟩:=s;simp only at he bb ⊢;subst he;rw [eA k (by omega)];refine Tot.ba (λaT=>?_) (λdC=>.ag bb);have aT:k<ds.length:=by omega
 have fu:=ie.ok _ (List.getElem_mem aT);rw [ea aT];generalize ds[k]=t at *;simp only [Option.bind_some];refine .ar (Ξ:=λr:List (List Int)=>r.length=ds.length/\Sets ds.length r) ?_ λr ah=>.ag ⟨aT,rfl,ah⟩;refine Tot.upto (λs=>s.2) g.bd.length (λk s=>s.1.length=ds.length/\Sets ds.length s.1) rfl (by omega) bb λp s au he bb=>?_;obtain ⟨L,i⟩:=s;simp only at he bb ⊢;subst he;rw [eA p (by omega)];refine Tot.ba (λEA=>?_) (λdC=>.ag bb);have EA:p<g.bd.length:=by omega
 have mM:=List.getElem_mem EA;rw [ea EA];generalize g.bd[p]=q at *;have a7:=aN.gj q mM;have BO:=aN.aL q mM;have ns:=Px aN mM e4;simp only [Option.bind_some];refine .ar (Ξ:=λr:List (List Int)=>r.length=ds.length/\Sets ds.length r) ?_ λr ah=>.ag ⟨EA,rfl,ah⟩;refine Tot.bk (λ_=>.ag bb) (λ_=>.ar (Ξ:=λr:List (List Int)=>r.length=ds.length/\Sets ds.length r) ?_ λr ah=>.ag ah);refine Tot.upto (λs=>s.2) q.e2.length (λk s=>s.1.length=ds.length/\Sets ds.length s.1) rfl (by omega) bb λJ s ai he bb=>?_;obtain ⟨L,i⟩:=s;simp only at he bb ⊢;subst he;rw [eA J (by omega)];refine Tot.ba (λfU=>?_) (λdC=>.ag bb);have fU:J<q.e2.length:=by omega
 rw [ea fU];generalize q.e2[J]=y at *;simp only [Option.bind_some];refine .ar (Ξ:=λr:List (List Int)=>r.length=ds.length/\Sets ds.length r) ?_ λr ah=>.ag ⟨fU,rfl,ah⟩;refine .ar (Ξ:=λ_=>True) (Tot.ba (λ_=>.ag trivial) (λ_=>?_)) λc _=>Tot.bk (λ_=>.ag bb) (λ_=>?_)
 ·refine .ar (Ξ:=λr=>r=q.e2.drop (J+1)) (Tot.sub ⟨by omega,by omega,by omega⟩ ?_) λr ah=>?_
  ·rw [List.take_of_length_le]
   ·congr 1
   ·rw [List.length_drop]; omega
  ·subst ah;exact .ar (yZ B _ (by rw [List.length_drop]; omega) (λs ay=>ns s (List.mem_of_mem_drop ay)) (by omega)) λ_ _=>.ag trivial
 refine .ar (Ξ:=λr=>r.length<=8) (Tot.sub ⟨by omega,by omega,by omega⟩ (by rw [List.length_take,List.length_drop]; omega)) λr ah=>?_;obtain ⟨st,_,bT,_⟩:=fu;have IM:=n1 bT;refine .ar (L6 hm t.State r ⟨by omega,IM.2.1⟩ (by omega)) λz aW=>?_;refine .ar (Ξ:=λr:List (List Int)=>r.length=ds.length/\Sets ds.length r) (Tot.bk (λ_=>?_) (λ_=>.ag bb)) λr ah=>.ag ah;refine .ar (AP ds z y vy) λn aA=>?_;refine .ar (Ξ:=λr:List (List Int)=>r.length=ds.length/\Sets ds.length r) (Tot.ba (λaO=>?_) (λ_=>.ag bb)) λr ah=>.ag ah;obtain ⟨z8,zo,uk⟩:=n3 (l:=L) aO (by rw [bb.1]; exact aA.2.1);rw [zo];refine Tot.sm (.ar ((bb.2 z8 uk).put (by omega) ⟨by omega,by omega⟩) λck dM=>.ag (aan bb zo dM.1))
theorem SE (g:bt) (aN:fX g) {m:List State}(hm:mB g m):Tot (zV g m) λr=>∃ ds,qo m=some ds/\wz m ds/\r.length=ds.length/\Sets g.a1.length r:=by
 have aq:=aN.kf;unfold zV;refine .ar (SJ g aN hm) λq9 h1=>?_;obtain ⟨ds,p1,ie,IA,xg⟩:=h1;have vy:=ie.n;refine .ar (SK g aN hm p1 ie) λjt af=>.ar (L5 g.a1.length (by omega) q9 jt (by omega) (by omega) xg (by rw [IA]; exact af.2)) λx3 aJ=>?_;refine .ar (SL g aN hm p1 ie) λv_ bx=>.ar (L5 g.a1.length (by omega) x3 v_ (by omega) (by omega) aJ.2 (by rw [aJ.1,IA]; exact bx.2)) λz_ cu=>?_;exact .ag ⟨ds,p1,ie,by omega,cu.2⟩
def qJ (g:bt) (p:Int):Prop:=0<p/\p<g.bd.length
theorem SF (g:bt) (aN:fX g) (K:List Item) (aj:K.length<=1000000):Tot (CN g K) λr=>r.length<=540/\∀ p∈r,qJ g p:=by
 unfold CN;refine .ar (G9 g aN K aj) λc aa=>?_;have hF:=tB aN aa.1 λx j=>((aa.2 x).1 j).iZ;refine .ar (Ξ:=λr:List Int=>r.length<=540/\∀ p∈r,qJ g p) ?_ λr ah=>.ag ah;refine Tot.upto (λs=>s.2) c.length (λk s=>s.1.length<=k/\∀ p∈s.1,qJ g p) rfl (by omega) ⟨Nat.le_refl 0,λp h=>by cases h⟩ λk s hk he bb=>?_;obtain ⟨L,i⟩:=s;obtain ⟨h1,af⟩:=bb;simp only at he h1 af ⊢;subst he;rw [eA k (by omega)];refine Tot.ba (λaT=>?_) (λdC=>.ag ⟨by show L.length<=_; omega,af⟩);have aT:k<c.length:=by omega
 have hi:=((aa.2 _).1 (List.getElem_mem aT)).iZ;rw [ea aT];generalize c[k]=x at *;obtain ⟨q,a7,aJ,bx⟩:=hi;simp only [Option.bind_some];refine .ar (Ξ:=λL:List Int=>L.length<=k+1/\∀ p∈L,qJ g p) ?_ λr ah=>.ag ⟨aT,rfl,ah⟩;refine .ar (Ξ:=λc:Bool=>c=true->0<x.Prod) (Tot.ba (λh=>?_) (λ_=>.ag λh=>by cases h)) λc aa=>?_
 ·rw [a7]; exact Tot.sm (.ag λ_=>h)
 refine .ar (Ξ:=λL:List Int=>L.length<=k+1/\∀ p∈L,qJ g p) (Tot.bk (λh=>?_) (λ_=>.ag ⟨by omega,af⟩)) λr ah=>.ag ah;refine .ar (Ξ:=λ_=>True) (Tot.ap (by simp [lim]; omega) trivial) λ_ _=>.ag ⟨by simp; omega,λp au=>?_⟩;rcases List.mem_append.1 au with au | au
 ·exact af p au
 ·rw [List.mem_singleton.1 au]; exact ⟨aa h,(n1 a7).2.1⟩
theorem SG (g:bt) (aN:fX g) {m:List State}(hm:mB g m) {ds:List Trans}(p1:qo m=some ds) (ie:wz m ds) (q p:Int):Tot (CO g m q p) λr=>r.length<=9600/\∀ x∈r,0<=x/\x<ds.length:=by
 have vy:=ie.n;have xf:=aN.ih;have kF:=aN.de;unfold CO;refine .ar (Ξ:=λc:Bool=>c=false->0<=p/\p<g.bd.length) (Tot.ba (λ_=>.ag λh=>by cases h) (λ_=>Tot.ba (λ_=>.ag λh=>by cases h) (λ_=>Tot.ba (λ_=>.ag λh=>by cases h) (λh=>.ag λaI=>by have:=of_decide_eq_false aI; omega)))) λc aa=>Tot.bk (λ_=>.ag ⟨Nat.zero_le _,λx h=>by cases h⟩) (λh=>?_);obtain ⟨aO,h1⟩:=aa h;rw [p1];refine Tot.sm ?_;refine .ar (Ξ:=λr:List Int=>r.length<=9600/\∀ x∈r,0<=x/\x<ds.length) ?_ λr ah=>.ag ah;obtain ⟨gj,zn,Wd⟩:=n3 aO h1;have BO:=aN.aL gj Wd;refine Tot.upto (λs=>s.2) ds.length (λk s=>s.1.length<=k/\∀ x∈s.1,0<=x/\x<ds.length) rfl (by omega) ⟨Nat.le_refl 0,λp h=>by cases h⟩ λk s hk he bb=>?_;obtain ⟨L,i⟩:=s;obtain ⟨af,aJ⟩:=bb;simp only at he af aJ ⊢;subst he;rw [eA k (by omega)];refine Tot.ba (λaT=>?_) (λdC=>.ag ⟨by show L.length<=_; omega,aJ⟩);have aT:k<ds.length:=by omega
 have fu:=ie.ok _ (List.getElem_mem aT);rw [ea aT,zn];generalize ds[k]=t at *;obtain ⟨st,_,bT,_⟩:=fu;have IM:=n1 bT;simp only [Option.bind_some];refine .ar (Ξ:=λL:List Int=>L.length<=k+1/\∀ x∈L,0<=x/\x<ds.length) ?_ λr ah=>.ag ⟨aT,rfl,ah⟩;refine .ar (Ξ:=λ_=>True) (Tot.ba (λh=>?_) (λ_=>.ag trivial)) λc aa=>?_
 ·exact .ar (L6 hm t.State gj.e2 ⟨by omega,IM.2.1⟩ (by omega)) λ_ _=>.ag trivial
 refine .ar (Ξ:=λL:List Int=>L.length<=k+1/\∀ x∈L,0<=x/\x<ds.length) (Tot.bk (λh=>?_) (λ_=>.ag ⟨by omega,aJ⟩)) λr ah=>.ag ah;refine .ar (Ξ:=λ_=>True) (Tot.ap (by simp [lim]; omega) trivial) λ_ _=>.ag ⟨by simp; omega,λp au=>?_⟩;rcases List.mem_append.1 au with au | au
 ·exact aJ p au
 ·rw [List.mem_singleton.1 au]; exact ⟨by omega,by omega⟩
structure yG (g:bt) (l:kT):Prop where
 p:qJ g l.Prod
 t:jd g.a1.length l.a1
theorem Sy (g:bt) (aN:fX g) {m:List State}(hm:mB g m):Tot (xT g m) λr=>r.length<=81000/\∀ l∈r,yG g l:=by
 have aq:=aN.kf;have vn:=hm.mQ;unfold xT;refine .ar (SE g aN hm) λF aH=>?_;obtain ⟨ds,p1,ie,acv,jk⟩:=aH;have vy:=ie.n;refine .ar (Ξ:=λr:List kT=>r.length<=81000/\∀ l∈r,yG g l) ?_ λr ah=>.ag ah;refine Tot.upto (λs=>s.2) m.length (λk s=>s.1.length<=540 * k/\∀ l∈s.1,yG g l) rfl (by omega) ⟨Nat.le_refl 0,λp h=>by cases h⟩ λk s hk he bb=>?_;obtain ⟨L,i⟩:=s;obtain ⟨h1,af⟩:=bb;simp only at he h1 af ⊢;subst he;rw [eA k (by omega)];refine Tot.ba (λaT=>?_) (λdC=>.ag ⟨by show L.length<=_; omega,af⟩);have aT:k<m.length:=by omega
 have c6:=hm.qg _ (List.getElem_mem aT);rw [ea aT];generalize m[k]=st at *;refine Tot.sm (.ar (SF g aN st.Kernel (by have:=c6.len aN; omega)) λE ko=>?_);obtain ⟨acs,Uk⟩:=ko;refine .ar (Ξ:=λL:List kT=>L.length<=540 * (k+1)/\∀ l∈L,yG g l) ?_ λr ah=>.ag ⟨aT,rfl,ah⟩;refine Tot.upto (λs=>s.2) E.length (λJ s=>s.1.length<=540 * k+J/\∀ l∈s.1,yG g l) rfl (by omega) ⟨h1,af⟩ λJ s ai he bb=>?_;obtain ⟨L,i⟩:=s;obtain ⟨h1,af⟩:=bb;simp only at he h1 af ⊢;subst he;rw [eA J (by omega)];refine Tot.ba (λfU=>?_) (λdC=>.ag ⟨by show L.length<=_; omega,af⟩);have fU:J<E.length:=by omega
 have au:=Uk _ (List.getElem_mem fU);rw [ea fU];generalize E[J]=p at *;simp only [Option.bind_some];refine .ar (SG g aN hm p1 ie k p) λB e4=>?_;obtain ⟨acq,Uh⟩:=e4;refine .ar (Ξ:=jd g.a1.length) ?_ λS bn=>?_
 ·refine Tot.upto (λs=>s.2) B.length (λ_ s=>jd g.a1.length s.1) rfl (by omega) .nil λb s av he bb=>?_;obtain ⟨S,i⟩:=s;simp only at he bb ⊢;subst he;rw [eA b (by omega)];refine Tot.ba (λzk=>?_) (λdC=>.ag bb);have zk:b<B.length:=by omega
  have j:=Uh _ (List.getElem_mem zk);rw [ea zk];generalize B[b]=x at *;obtain ⟨row,lT,uk⟩:=n3 (l:=F) j.1 (by omega);have lU:=jk row uk;have nZ:=lU.len;simp only [Option.bind_some,lT];refine .ar (Ξ:=jd g.a1.length) ?_ λS bn=>.ag ⟨zk,rfl,bn⟩;refine Tot.upto (λs=>s.2) row.length (λ_ s=>jd g.a1.length s.1) rfl (by omega) bb λz s aW he bb=>?_;obtain ⟨S,i⟩:=s;simp only at he bb ⊢;subst he;rw [eA z (by omega)];refine Tot.ba (λp9=>?_) (λdC=>.ag bb);have p9:z<row.length:=by omega
  rw [ea p9];exact Tot.sm (.ar (bb.put (by omega) (lU.i _ (List.getElem_mem p9))) λr ah=>.ag ⟨p9,rfl,ah.1⟩)
 ·refine .ar (Ξ:=λ_=>True) (Tot.ap (by simp [lim]; omega) trivial) λ_ _=>.ag ⟨fU,rfl,by simp; omega,λl aj=>?_⟩;rcases List.mem_append.1 aj with aj | aj
  ·exact af l aj
  ·rw [List.mem_singleton.1 aj]; exact ⟨au,bn⟩
def od (c:Cell):Nat:=c.bd.length+(if 0<=c.j2 then 1 else 0)+(if c.lJ then 1 else 0)
theorem ZT {x:Option Int}{c:Cell}(aj:c.bd.length<=1000) (e:x=(((bif decide (0<=c.j2) then
some (aG ((c.bd.length:Int)+1))
else
some (c.bd.length:Int))).bind λjq =>
((bif c.lJ then
some (aG (jq+1))
else
some jq)).bind λig =>
some ig)):x=some (od c:Int):=by
 subst e;have hw:aG ((c.bd.length:Int)+1)=(c.bd.length:Int)+1:=by rw [cm]; omega
 have EP:aG ((c.bd.length:Int)+1+1)=(c.bd.length:Int)+1+1:=by rw [cm]; omega
 unfold od;by_cases h:0<=c.j2
 ·cases af:c.lJ <;> simp [h,hw,EP]
 ·cases af:c.lJ <;> simp [h,hw]
theorem Mr (c:Cell) (aj:c.bd.length<=1000):zS c=some (od c:Int):=ZT aj (by unfold zS; rfl)
structure o5 (g:bt) (n:Nat) (c:Cell):Prop where
 s:0<=c.State/\c.State<n
 t:0<=c.Tok/\c.Tok<g.a1.length
 f:-1<=c.j2/\c.j2<n
 p:eQ hR c.bd
 q:∀ p∈c.bd,qJ g p
 ZP:0<od c
theorem o5.len {g:bt}(aN:fX g) {n:Nat}{c:Cell}(h:o5 g n c):c.bd.length<=60:=by
 have:=aN.ih;have:=jd.len (T:=g.bd.length) ⟨h.p,λx j=>⟨by have:=(h.q x j).1; omega,(h.q x j).2⟩⟩;omega
def yv (a b:Cell):Prop:=a.State<b.State\/(a.State=b.State/\a.Tok<b.Tok)
structure Ap (g:bt) (n:Nat) (l:List Cell):Prop where
 ok:∀ c∈l,o5 g n c
 adp:l.Pairwise yv
 n:l.length<=6000
theorem Sx (g:bt) (aN:fX g) {m:List State}(hm:mB g m) (sU:List kT) (aj:sU.length<=81000) (hk:∀ l∈sU,yG g l):Tot (xS g m sU) (Ap g m.length):=by
 have aq:=aN.kf;have vn:=hm.mQ;have xf:=aN.ih;unfold xS;refine .ar (Ξ:=Ap g m.length) ?_ λr ah=>.ag ah;refine Tot.upto (λs=>s.2) m.length (λk s=>s.1.length<=40 * k/\(∀ c∈s.1,o5 g m.length c)/\s.1.Pairwise yv/\∀ c∈s.1,c.State<k) rfl (by omega) ⟨Nat.le_refl 0,λp h=>(by cases h),.nil,λp h=>by cases h⟩ λk s BB he bb=>?_;obtain ⟨L,i⟩:=s;obtain ⟨h1,af,aJ,bx⟩:=bb;simp only at he h1 af aJ bx ⊢;subst he;rw [eA k (by omega)];refine Tot.ba (λaT=>?_) (λdC=>.ag ⟨af,aJ,by show L.length<=_; omega⟩);have aT:k<m.length:=by omega
 have c6:=hm.qg _ (List.getElem_mem aT);rw [ea aT];generalize m[k]=st at *;have acx:=c6.len aN;refine .ar (Ξ:=λL:List Cell=>L.length<=40 * (k+1)/\(∀ c∈L,o5 g m.length c)/\L.Pairwise yv/\∀ c∈L,c.State<(k+1:Nat)) ?_ λr ah=>.ag ⟨aT,rfl,ah⟩;refine Tot.upto (λs=>s.2) g.a1.length (λJ s=>s.1.length<=40 * k+J/\(∀ c∈s.1,o5 g m.length c)/\s.1.Pairwise yv/\∀ c∈s.1,c.State<k\/(c.State=k/\c.Tok<J)) rfl (by omega) ⟨h1,af,aJ,λc aa=>.inl (bx c aa)⟩ λJ s ai he bb=>?_;obtain ⟨L,i⟩:=s;obtain ⟨h1,af,aJ,bx⟩:=bb;simp only at he h1 af aJ bx ⊢;subst he;rw [eA J (by omega)];refine Tot.ba (λfU=>?_) (λdC=>.ag ⟨by show L.length<=_; omega,af,aJ,λc aa=>by rcases bx c aa with h | h <;> omega⟩);refine .ar (Ξ:=λL:List Cell=>L.length<=40 * k+(J+1)/\(∀ c∈L,o5 g m.length c)/\L.Pairwise yv/\∀ c∈L,c.State<k\/(c.State=k/\c.Tok<(J+1:Nat))) ?_ λr ah=>.ag ⟨by omega,rfl,ah⟩;refine .ar (DY m k J hm.xC) λet EJ=>?_;have Wq:=EJ.aV hm;refine .ar (Ξ:=λ_=>True) ?_ λac _=>?_
 ·refine Tot.upto (λs=>s.2) st.Kernel.length (λ_ _=>True) rfl (by omega) trivial λz s aW he _=>?_;obtain ⟨b,i⟩:=s;simp only at he ⊢;subst he;rw [eA z (by omega)];simp only [Option.bind_some];refine Tot.ba (λp9=>?_) (λ_=>.ag trivial);have p9:z<st.Kernel.length:=by omega
  rw [ea p9];simp only [Option.bind_some];refine .ar (Ξ:=λ_=>True) (Tot.bk (λ_=>.ag trivial) (λ_=>Tot.ba (λ_=>Tot.ba (λ_=>.ag trivial) (λ_=>.ag trivial)) (λ_=>.ag trivial))) λ_ _=>.ag ⟨p9,rfl,trivial⟩
 refine .ar (Ξ:=λP:List Int=>eQ hR P/\∀ p∈P,qJ g p) ?_ λP cb=>?_
 ·refine Tot.upto (λs=>s.2) sU.length (λ_ s=>eQ hR s.1/\∀ p∈s.1,qJ g p) rfl (by omega) ⟨.nil,λp h=>by cases h⟩ λz s aW he bb=>?_;obtain ⟨P,i⟩:=s;obtain ⟨g1,g2⟩:=bb;simp only at he g1 g2 ⊢;subst he;rw [eA z (by omega)];refine Tot.ba (λp9=>?_) (λdC=>.ag ⟨g1,g2⟩);have p9:z<sU.length:=by omega
  have iy:=hk _ (List.getElem_mem p9);rw [ea p9];generalize sU[z]=l at *;have IQ:=iy.t.len;have UB:=jd.len (T:=g.bd.length) ⟨g1,λx j=>⟨by have:=(g2 x j).1; omega,(g2 x j).2⟩⟩;simp only [Option.bind_some];refine .ar (Ξ:=λP:List Int=>eQ hR P/\∀ p∈P,qJ g p) ?_ λr ah=>.ag ⟨p9,rfl,ah⟩;refine .ar (Ξ:=λ_=>True) (Tot.ba (λ_=>.ar (L3 l.a1 J (by omega)) λ_ _=>.ag trivial) (λ_=>.ag trivial)) λc _=>?_;refine .ar (Ξ:=λP:List Int=>eQ hR P/\∀ p∈P,qJ g p) (Tot.bk (λ_=>?_) (λ_=>.ag ⟨g1,g2⟩)) λr ah=>.ag ah;refine .ar (AW P l.Prod g1 (by omega)) λr ah=>.ag ⟨ah.1,λp au=>?_⟩;rcases (ah.2.2 p).1 au with h | rfl
  ·exact g2 p h
  ·exact iy.p
 ·have UB:=jd.len (T:=g.bd.length) ⟨cb.1,λx j=>⟨by have:=(cb.2 x j).1; omega,(cb.2 x j).2⟩⟩;rw [Mr _ (by show P.length<=_; omega)];refine Tot.sm (.ar (Ξ:=λL:List Cell=>L.length<=40 * k+(J+1)/\(∀ c∈L,o5 g m.length c)/\L.Pairwise yv/\∀ c∈L,c.State<k\/(c.State=k/\c.Tok<(J+1:Nat))) (Tot.ba (λaO=>?_) (λ_=>.ag ⟨by omega,af,aJ,λc aa=>by rcases bx c aa with h | h <;> omega⟩)) λr ah=>.ag ah);refine .ar (Ξ:=λ_=>True) (Tot.ap (by simp [lim]; omega) trivial) λ_ _=>.ag ⟨by simp; omega,λc aa=>?_,List.pairwise_append.2 ⟨aJ,List.pairwise_singleton ..,λa aR b av=>?_⟩,λc aa=>?_⟩
  ·rcases List.mem_append.1 aa with aa | aa
   ·exact af c aa
   ·rw [List.mem_singleton.1 aa];exact ⟨⟨by show (0:Int)<=k; omega,by show (k:Int)<_; omega⟩,⟨by show (0:Int)<=J; omega,by show (J:Int)<_; omega⟩,Wq,cb.1,cb.2,by omega⟩
  ·rw [List.mem_singleton.1 av];rcases bx a aR with h | h
   ·exact .inl h
   ·exact .inr h
  ·rcases List.mem_append.1 aa with aa | aa
   ·rcases bx c aa with h | h
    ·exact .inl h
    ·exact .inr ⟨h.1,by omega⟩
   ·rw [List.mem_singleton.1 aa];exact .inr ⟨rfl,by show (J:Int)<_; omega⟩
theorem Sw (s:Source) (av:oo s):Tot (q5 s) λr=>r.2.2=true->fX r.1/\mB r.1 r.2.1:=by
 unfold q5;refine .ar (t66 s av) λr ah=>Tot.bk (λ_=>.ag λh=>by cases h) (λh=>?_);have aN:=ah (by simpa using h);refine .ar (SC r.1 aN) λm hm=>.ag λh=>⟨aN,?_⟩;have h:m.2=0:=of_decide_eq_true h;rcases hm with hm | hm
 ·exact hm.2
 ·omega
structure Gr (g:bt) (m:List State) (cs:List Cell):Prop where
 rG:fX g
 adi:mB g m
 ce:Ap g m.length cs
theorem Sr (s:Source) (av:oo s):Tot (qm s) λr=>r.2.2.2=true->Gr r.1 r.2.1 r.2.2.1:=by
 unfold qm;refine .ar (Sw s av) λr ah=>Tot.bk (λ_=>.ag λh=>by cases h) (λh=>?_);obtain ⟨aN,hm⟩:=ah (by simpa using h);exact .ar (Sy r.1 aN hm) λsU NJ=>.ar (Sx r.1 aN hm sU NJ.1 NJ.2) λcs gR=>.ag λ_=>⟨aN,hm,gR⟩
def zD (g:bt) (p:Int):Int × Int:=match idx g.bd p with
 | some q=>match idx g.a1 q.Prec with
  | some t=>(t.Level,t.e9)
  | none=>(0,0)
 | none=>(0,0)
def dec (g:bt) (p t:Int):Int:=match idx g.a1 t with
 | some k=>if (zD g p).1=0\/k.Level=0 then 0 else if (zD g p).1<k.Level then 1 else if k.Level<(zD g p).1 then 2 else if k.e9=1 then 2 else if k.e9=2 then 1 else 3
 | none=>0
theorem Tt (g:bt) (aN:fX g) (p:Int) (au:0<=p/\p<g.bd.length):CX g p=some (zD g p):=by
 obtain ⟨q,a7,hm⟩:=n3 au.1 au.2;have av:=(aN.gj q hm).prec;unfold CX zD;have d1:decide (p<0)=false:=decide_eq_false (by omega);have d2:decide ((g.bd.length:Int)<=p)=false:=decide_eq_false (by omega);rw [d1,d2,a7];simp only [cond_false,Option.bind_some];by_cases h:q.Prec<0
 ·rw [decide_eq_true h,Jf (.inl h)]; rfl
 ·obtain ⟨t,aq,_⟩:=n3 (l:=g.a1) (i:=q.Prec) (by omega) av.2;rw [decide_eq_false h,aq]; rfl
theorem Tr (g:bt) (aN:fX g) (p t:Int) (au:0<=p/\p<g.bd.length) (aq:0<=t/\t<g.a1.length):CP g p t=some (dec g p t):=by
 obtain ⟨k,hk,hm⟩:=n3 aq.1 aq.2;unfold CP dec;rw [Tt g aN p au,hk];have d1:decide (t<0)=false:=decide_eq_false (by omega);have d2:decide ((g.a1.length:Int)<=t)=false:=decide_eq_false (by omega);rw [d1,d2];generalize zD g p=x;simp only [cond_false,Option.bind_some];by_cases h1:x.1=0
 ·simp [h1]
 ·by_cases af:k.Level=0
  ·simp [h1,af]
  ·rw [if_neg (by omega)];simp only [h1,af,decide_false,cond_false,Option.bind_some];by_cases aJ:x.1<k.Level
   ·simp [aJ]
   ·by_cases bx:k.Level<x.1
    ·simp [aJ,bx]
    ·by_cases cu:k.e9=1
     ·simp [aJ,bx,cu]
     ·by_cases dL:k.e9=2 <;> simp [aJ,bx,cu,dL]
def sr (g:bt) (c:Cell):Act:=match c.bd with
 | []=>if c.lJ=true then ⟨3,0⟩ else ⟨1,c.j2⟩
 | p::_=>if c.lJ=true then ⟨3,0⟩ else if c.j2<0 then ⟨2,p⟩ else if dec g p c.Tok=2 then ⟨2,p⟩ else if dec g p c.Tok=3 then ⟨4,0⟩ else ⟨1,c.j2⟩
def y1 (g:bt) (c:Cell):List e1:=match c.bd with
 | []=>[]
 | p::r=>r.map (λx=>(⟨c.State,c.Tok,p,x⟩:e1))++(if c.lJ=true\/(0<=c.j2/\dec g p c.Tok=0) then [(⟨c.State,c.Tok,-1,p⟩:e1)] else [])
structure sj (g:bt) (n:Nat) (a:Act):Prop where
 k:0<=a.Kind/\a.Kind<=4
 gU:a.Kind=0->a.N=0
 mQ:a.Kind=1->0<=a.N/\a.N<n
 q1:a.Kind=2->qJ g a.N
 XP:a.Kind=3->a.N=0
 adj:a.Kind=4->a.N=0
theorem Ru {g:bt}{n:Nat}{c:Cell}(h:o5 g n c):sj g n (sr g c)/\(sr g c).Kind≠0:=by
 have BS:=h.ZP;have aS:=h.f;have a3:sj g n ⟨3,0⟩:=⟨⟨by decide,by decide⟩,λh=>(by cases h),λh=>(by cases h),λh=>(by cases h),λ_=>rfl,λh=>by cases h⟩;have a4:sj g n ⟨4,0⟩:=⟨⟨by decide,by decide⟩,λh=>(by cases h),λh=>(by cases h),λh=>(by cases h),λ_=>rfl,λ_=>rfl⟩;have aB:0<=c.j2->sj g n ⟨1,c.j2⟩:=λaO=>⟨⟨by show (0:Int)<=1; decide,by show (1:Int)<=4; decide⟩,λh=>(by cases h),λ_=>⟨aO,aS.2⟩,λh=>(by cases h),λh=>(by cases h),λh=>by cases h⟩;have a2:∀ p∈c.bd,sj g n ⟨2,p⟩:=λp au=>⟨⟨by show (0:Int)<=2; decide,by show (2:Int)<=4; decide⟩,λh=>(by cases h),λh=>(by cases h),λ_=>h.q p au,λh=>(by cases h),λh=>by cases h⟩;unfold sr;unfold od at BS;cases cb:c.bd with
 | nil =>
  simp only;rw [cb] at BS;by_cases h1:c.lJ=true
  ·rw [if_pos h1]; exact ⟨a3,by decide⟩
  ·rw [if_neg h1];rw [if_neg h1] at BS;refine ⟨aB ?_,by show (1:Int)≠0; decide⟩;by_cases af:0<=c.j2
   ·exact af
   ·rw [if_neg af] at BS; simp at BS
 | cons p r =>
  simp only;have au:=a2 p (by rw [cb]; simp);split
  ·exact ⟨a3,by decide⟩
  ·split
   ·exact ⟨au,by show (2:Int)≠0; decide⟩
   ·split
    ·exact ⟨au,by show (2:Int)≠0; decide⟩
    ·split
     ·exact ⟨a4,by decide⟩
     ·exact ⟨aB (by omega),by show (1:Int)≠0; decide⟩
theorem L8 {g:bt}(aN:fX g) {n:Nat}{c:Cell}(h:o5 g n c):(y1 g c).length<=60:=by
 have aj:=h.len aN;unfold y1;cases cb:c.bd with
 | nil=>simp
 | cons p r =>
  rw [cb,List.length_cons] at aj;simp only [List.length_append,List.length_map];split
  ·simp; omega
  ·simp; omega
theorem Ho (g:bt) (aN:fX g) {n:Nat}(c:Cell) (h:o5 g n c):xU g c=some (sr g c,y1 g c):=by
 have aj:=h.len aN
 suffices ay:Tot (xU g c) λr=>r=(sr g c,y1 g c) by
  obtain ⟨r,ah,e⟩:=ay; rw [ah,e]
 unfold xU sr y1;cases cb:c.bd with
 | nil =>
  simp only;refine .ar (Ξ:=λl:List e1=>l=[]) ?_ λl aj=>?_
  ·refine Tot.loop (λs=>s=(([]:List e1),(1:Int))) (λ_=>0) rfl (by show 0<1000000000000000000; omega) λs ay=>?_;subst ay;exact .ag rfl
  ·subst aj;cases h1:c.lJ
   ·exact .ag (by simp)
   ·exact .ag (by simp)
 | cons p r =>
  rw [cb,List.length_cons] at aj;simp only;have hC:idx (p::r) 0=some p:=rfl;refine .ar (Ξ:=λl:List e1=>l=r.map (λx=>(⟨c.State,c.Tok,p,x⟩:e1))) ?_ λl aj=>?_
  ·refine Tot.count (λs=>s.2) ((r.length:Int)+1) (λs=>∃ k:Nat,k<=r.length/\s.2=((k+1:Nat):Int)/\s.1=(r.take k).map (λx=>(⟨c.State,c.Tok,p,x⟩:e1))) ⟨0,Nat.zero_le _,rfl,rfl⟩ (by show (r.length:Int)+1 - 1<_; omega) λs ay=>?_;obtain ⟨l,i⟩:=s;obtain ⟨k,hk,he,bb⟩:=ay;simp only at he bb ⊢;subst he bb;rw [eA (k+1) (by omega),hC];refine Tot.ba (λaT=>?_) (λdC=>.ag ?_)
   ·rw [List.length_cons] at aT;have aT:k<r.length:=by omega
    have cr:idx (p::r) ((k+1:Nat):Int)=some r[k]:=by
     simp only [idx,if_pos (show (0:Int)<=((k+1:Nat):Int) by omega),Int.toNat_natCast,List.getElem?_cons_succ];exact List.getElem?_eq_getElem aT
    rw [cr];refine Tot.sm (Tot.sm (.ar (Ξ:=λ_=>True) (Tot.ap (by simp [lim]; omega) trivial) λ_ _=>.ag ⟨⟨k+1,by omega,rfl,?_⟩,by show ((k+1:Nat):Int)<((k+1+1:Nat):Int); omega,by show ((k+1+1:Nat):Int)<=(r.length:Int)+1; omega⟩));show _=(r.take (k+1)).map _;rw [kr aT,List.map_append]; rfl
   ·rw [List.length_cons] at dC;rw [List.take_of_length_le (by omega)]; rfl
  ·subst aj;have au:=h.q p (by rw [cb]; simp);have Hq:=Tr g aN p c.Tok ⟨by have:=au.1; omega,au.2⟩ h.t;have dl:decide (((p::r).length:Int)=0)=false:=decide_eq_false (by simp; omega);simp only [hC,Hq,dl,cond_false,Option.bind_some];generalize sE:dec g p c.Tok=v;refine ⟨_,?_,rfl⟩;have Nj:da (r.map (λx=>(⟨c.State,c.Tok,p,x⟩:e1))) [(⟨c.State,c.Tok,(-1),p⟩:e1)]=some (r.map (λx=>(⟨c.State,c.Tok,p,x⟩:e1))++[⟨c.State,c.Tok,(-1),p⟩]):=by
    unfold da; rw [if_pos (by simp [lim]; omega)]
   cases h1:c.lJ
   ·by_cases af:c.j2<0
    ·have aJ:¬ (0<=c.j2):=by omega
     simp [af,aJ]
    ·have aJ:0<=c.j2:=by omega
     by_cases bx:v=0
     ·simp [af,aJ,bx,Nj]
     ·by_cases cu:v=2
      ·simp [af,aJ,cu]
      ·by_cases dL:v=3
       ·simp [af,aJ,dL]
       ·simp [af,aJ,bx,cu,dL]
   ·simp [Nj]
def rowOf (g:bt) (l:List Cell):List Act:=l.foldl (λrow c=>row.set c.Tok.toNat (sr g c)) (List.replicate g.a1.length ⟨0,0⟩)
def iu (cs:List Cell) (q:Nat):List Cell:=cs.filter λc=>decide (c.State=(q:Int))
def go (m:List State) (q s:Int):Int:=(q6 m q s).getD (-1)
theorem go_eq {g:bt}{m:List State}(hm:mB g m) (q s:Int):q6 m q s=some (go m q s)/\GoTo m q s (go m q s):=by
 obtain ⟨r,ah,h⟩:=DY m q s hm.xC;unfold go;rw [ah];exact ⟨rfl,h⟩
theorem Pz (g:bt):∀ (l:List Cell),(rowOf g l).length=g.a1.length:=λl=>by
 suffices h:∀ (l:List Cell) (r:List Act),(l.foldl (λrow c=>row.set c.Tok.toNat (sr g c)) r).length=r.length by
  unfold rowOf; rw [h]; simp
 intro l
 induction l with
 | nil=>intro r; rfl
 | cons c l aM=>intro r; rw [List.foldl_cons,aM,List.length_set]
theorem Y1 (g:bt) (l:List Cell) (c:Cell):rowOf g (l++[c])=(rowOf g l).set c.Tok.toNat (sr g c):=by
 unfold rowOf; rw [List.foldl_append]; rfl
theorem YY {g:bt}{n:Nat}:∀ {l:List Cell},(∀ c∈l,o5 g n c)->∀ a∈rowOf g l,sj g n a:=by
 intro l h
 suffices ay:∀ (l:List Cell) (r:List Act),(∀ c∈l,o5 g n c)->(∀ a∈r,sj g n a)->∀ a∈l.foldl (λrow c=>row.set c.Tok.toNat (sr g c)) r,sj g n a by
  refine ay l _ h λa aR=>?_;rw [List.eq_of_mem_replicate aR];exact ⟨⟨by decide,by decide⟩,λ_=>rfl,λh=>(by cases h),λh=>(by cases h),λh=>(by cases h),λh=>by cases h⟩
 intro l
 induction l with
 | nil=>intro r _ ah; exact ah
 | cons c l aM =>
  intro r aj ah;rw [List.foldl_cons];refine aM _ (λd aP=>aj d (by simp [aP])) λa aR=>?_;rcases List.mem_or_eq_of_mem_set aR with h | h
  ·exact ah a h
  ·rw [h]; exact (Ru (aj c (by simp))).1
def wY (g:bt) (m:List State) (q:Nat):List Int:=(List.range g.bY.length).map λa:Nat=>go m q (1000+(a:Int))
def lN (g:bt) (l:List Cell):List e1:=l.flatMap (y1 g)
theorem He {g:bt}(aN:fX g) {n:Nat}:∀ {l:List Cell},(∀ c∈l,o5 g n c)->(lN g l).length<=60 * l.length
 | [],_=>by simp [lN]
 | c::l,h=>by
  have h1:=L8 aN (h c (by simp));have af:=He aN (l:=l) λd aP=>h d (by simp [aP]);unfold lN at af ⊢;rw [List.flatMap_cons,List.length_append,List.length_cons];omega
theorem Qk {α:Type}{l:List α}{k:Nat}(h:k<l.length) (p:α->Bool):(l.take (k+1)).filter p=(l.take k).filter p++(if p l[k] then [l[k]] else []):=by
 rw [kr h,List.filter_append];congr 1;rw [List.filter_cons]
 split <;> simp
structure Gt (g:bt) (m:List State) (cs:List Cell) (d:im):Prop where
 a:d.dx=(List.range m.length).map λq=>rowOf g (iu cs q)
 o:d.fR=(List.range m.length).map λq=>wY g m q
theorem AS (g:bt) (m:List State) (cs:List Cell) (dQ:Gr g m cs):Tot (vX g m cs) λr=>Gt g m cs r.1/\r.2=(List.range m.length).flatMap λq=>lN g (iu cs q):=by
 obtain ⟨aN,hm,aa⟩:=dQ;have aq:=aN.kf;have aA:=aN.de;have vn:=hm.mQ;have Ij:=aa.n;unfold vX;refine .ar (Ξ:=λr:List (List Act) × List (List Int) × List e1=>r.1=(List.range m.length).map (λq=>rowOf g (iu cs q))/\r.2.1=(List.range m.length).map (λq=>wY g m q)/\r.2.2=(List.range m.length).flatMap λq=>lN g (iu cs q)) ?_ λr ah=>.ag ⟨⟨ah.1,ah.2.1⟩,ah.2.2⟩;have xa:∀ q,(lN g (iu cs q)).length<=360000:=λq=>by
  have h1:=He aN (l:=iu cs q) λc p7=>aa.ok c ((List.mem_filter.1 p7).1);have af:=List.length_filter_le (λc:Cell=>decide (c.State=(q:Int))) cs;unfold iu at h1 ⊢;omega
 have VF:∀ k,((List.range k).flatMap λq=>lN g (iu cs q)).length<=360000 * k:=λk=>by
  induction k with
  | zero=>simp
  | succ k aM =>
   rw [List.range_succ,List.flatMap_append,List.length_append];have:=xa k;simp only [List.flatMap_cons,List.flatMap_nil,List.append_nil];omega
 refine Tot.upto (λs=>s.2.2.2) m.length (λk s=>s.1=(List.range k).map (λq=>rowOf g (iu cs q))/\s.2.1=(List.range k).map (λq=>wY g m q)/\s.2.2.1=(List.range k).flatMap λq=>lN g (iu cs q)) rfl (by omega) ⟨rfl,rfl,rfl⟩ λk s hk he bb=>?_;obtain ⟨A,G,C,i⟩:=s;obtain ⟨h1,af,aJ⟩:=bb;simp only at he h1 af aJ ⊢;subst he h1 af aJ;rw [eA k (by omega)];refine Tot.ba (λaT=>?_) (λdC=>.ag ?_)
 ·have aT:k<m.length:=by omega
  refine .ar (Ξ:=λr=>r=List.replicate g.a1.length (⟨0,0⟩:Act)) (Tot.mk (by simp [lim]; omega) (by simp)) λtw fP=>?_;subst fP;have acJ:=VF k;refine .ar (Ξ:=λr:List e1 × List Act=>r.1=(List.range k).flatMap (λq=>lN g (iu cs q))++lN g (iu cs k)/\r.2=rowOf g (iu cs k)) ?_ λr ah=>?_
  ·refine Tot.upto (λs=>s.2.2) cs.length (λJ s=>s.1=(List.range k).flatMap (λq=>lN g (iu cs q))++lN g (iu (cs.take J) k)/\s.2.1=rowOf g (iu (cs.take J) k)) rfl (by omega) ⟨by simp [iu,lN],by simp [iu,rowOf]⟩ λJ s ai he bb=>?_;obtain ⟨C,R,i⟩:=s;obtain ⟨h1,af⟩:=bb;simp only at he h1 af ⊢;subst he h1 af;rw [eA J (by omega)];refine Tot.ba (λfU=>?_) (λdC=>.ag ?_)
   ·have fU:J<cs.length:=by omega
    have w7:=aa.ok _ (List.getElem_mem fU);have xb:=Qk fU (λc:Cell=>decide (c.State=(k:Int)));have ac_:(lN g (iu (cs.take J) k)).length<=360000:=by
     have h1:=He aN (l:=iu (cs.take J) k) λc p7=>aa.ok c (List.mem_of_mem_take ((List.mem_filter.1 p7).1));have af:=List.length_filter_le (λc:Cell=>decide (c.State=(k:Int))) (cs.take J);rw [List.length_take] at af;unfold iu at h1 ⊢;omega
    rw [ea fU];generalize cs[J]=c at *;simp only [Option.bind_some];refine .ar (Ξ:=λr:List e1 × List Act=>r.1=(List.range k).flatMap (λq=>lN g (iu cs q))++lN g (iu (cs.take (J+1)) k)/\r.2=rowOf g (iu (cs.take (J+1)) k)) ?_ λr ah=>.ag ⟨fU,rfl,ah⟩;refine .ar (Ξ:=λr:List e1 × List Act=>r.1=(List.range k).flatMap (λq=>lN g (iu cs q))++lN g (iu (cs.take (J+1)) k)/\r.2=rowOf g (iu (cs.take (J+1)) k)) (Tot.ba (λay=>?_) (λay=>.ag ?_)) λr ah=>.ag ah
    ·rw [decide_eq_true ay,if_pos rfl] at xb;rw [Ho g aN c w7];simp only [Option.bind_some];have nZ:=Pz g (iu (cs.take J) k);obtain ⟨a0,tT,_⟩:=n3 (l:=rowOf g (iu (cs.take J) k)) (i:=c.Tok) w7.t.1 (by rw [nZ]; exact w7.t.2);rw [tT];have hF:=L8 aN w7;refine Tot.sm (.ar (Ξ:=λ_=>True) (Tot.ap (by rw [List.length_append]; simp only [lim]; omega) trivial) λ_ _=>.ag ⟨?_,?_⟩)
     ·show _=_++lN g ((cs.take (J+1)).filter _);rw [xb];unfold lN;rw [List.flatMap_append,List.append_assoc];simp [iu]
     ·show _=rowOf g ((cs.take (J+1)).filter _);rw [xb,Y1]; rfl
    ·have:(if (decide (c.State=(k:Int)))=true then [c] else [])=[]:=by simp [ay]
     rw [this,List.append_nil] at xb;unfold iu;rw [xb];exact ⟨rfl,rfl⟩
   ·have e:cs.take J=cs:=List.take_of_length_le (by omega);rw [e];exact ⟨rfl,rfl⟩
  ·obtain ⟨C,R⟩:=r;obtain ⟨h1,af⟩:=ah;simp only at h1 af ⊢;subst h1 af;refine .ar (Ξ:=λr=>r=List.replicate g.bY.length (0:Int)) (Tot.mk (by simp [lim]; omega) (by simp)) λGx Uo=>?_;subst Uo;refine .ar (Ξ:=λr:List Int=>r=wY g m k) ?_ λr ah=>?_
   ·refine Tot.upto (λs=>s.2) g.bY.length (λJ s=>s.1.length=g.bY.length/\∀ i:Nat,i<J->s.1[i]?=some (go m k (1000+(i:Int)))) rfl (by omega) ⟨by simp,λi hi=>absurd hi (Nat.not_lt_zero _)⟩ λJ s ai he bb=>?_;obtain ⟨L,i⟩:=s;obtain ⟨h1,af⟩:=bb;simp only at he h1 af ⊢;subst he;rw [eA J (by omega)];refine Tot.ba (λfU=>?_) (λdC=>.ag ?_)
    ·have fU:J<L.length:=by omega
     have hw:aG (1000+(J:Int))=1000+(J:Int):=by rw [cm]; omega
     rw [hw,(go_eq hm k _).1,ea fU];refine Tot.sm (Tot.sm (.ag ⟨by omega,rfl,?_,λi hi=>?_⟩))
     ·show (L.set _ _).length=_;rw [List.length_set]; exact h1
     ·show (L.set (J:Int).toNat _)[i]?=_;rw [Int.toNat_natCast,uN fU];by_cases e:i=J
      ·subst e; rw [if_pos rfl]
      ·rw [if_neg e]; exact af i (by omega)
    ·show L=wY g m k;refine List.ext_getElem? λi=>?_;unfold wY;by_cases hi:i<g.bY.length
     ·rw [af i (by omega),List.getElem?_map,List.getElem?_range hi]; rfl
     ·rw [List.getElem?_eq_none (by omega),List.getElem?_eq_none (by simp; omega)]
   ·subst ah;refine .ar (Ξ:=λ_=>True) (Tot.ap (by simp [lim]; omega) trivial) λ_ _=>.ar (Ξ:=λ_=>True) (Tot.ap (by simp [lim]; omega) trivial) λ_ _=>.ag ⟨aT,rfl,?_,?_,?_⟩
    ·show _=(List.range (k+1)).map _;rw [List.range_succ,List.map_append]; rfl
    ·show _=(List.range (k+1)).map _;rw [List.range_succ,List.map_append]; rfl
    ·show _=(List.range (k+1)).flatMap _;rw [List.range_succ,List.flatMap_append]; simp
 ·have:k=m.length:=by omega
  subst this;exact ⟨rfl,rfl,rfl⟩
structure rq (g:bt) (n:Nat) (d:im):Prop where
 gU:0<n/\n<=150
 rG:fX g
 a:d.dx.length=n
 kB:∀ r∈d.dx,r.length=g.a1.length/\∀ a∈r,sj g n a
 o:d.fR.length=n
 Cw:∀ r∈d.fR,r.length=g.bY.length/\∀ v∈r,-1<=v/\v<n
theorem Gt.aV {g:bt}{m:List State}{cs:List Cell}{d:im}(h:Gt g m cs d) (dQ:Gr g m cs):rq g m.length d:=by
 obtain ⟨aN,hm,aa⟩:=dQ;refine ⟨⟨hm.gU,hm.mQ⟩,aN,by rw [h.a]; simp,λr ah=>?_,by rw [h.o]; simp,λr ah=>?_⟩
 ·rw [h.a] at ah;obtain ⟨q,_,rfl⟩:=List.mem_map.1 ah;exact ⟨Pz g _,YY λc p7=>aa.ok c (List.mem_filter.1 p7).1⟩
 ·rw [h.o] at ah;obtain ⟨q,_,rfl⟩:=List.mem_map.1 ah;refine ⟨by simp [wY],λv hv=>?_⟩;obtain ⟨a,_,rfl⟩:=List.mem_map.1 hv;exact (go_eq hm q _).2.aV hm
theorem YN {g:bt}(aN:fX g) {n:Nat}{cs:List Cell}(aa:Ap g n cs) {f:Cell->Option Int}(aS:∀ c:Cell,c.bd.length<=1000->f c=some (od c:Int)):Tot (b5 (R:=Int) (λ(s1:Int × Int) =>
(bif decide (s1.2<(cs.length:Int)) then
((idx cs s1.2).bind λbC =>
(f bC).bind λbS =>
((bif decide (1<bS) then
some (aG (s1.1+1))
else
some s1.1)).bind λfg =>
some fg).bind λqe =>
some (.inl (qe,aG (s1.2+1)))
else
some (.inr s1.1))) (0,0)) λr=>r=((cs.filter λc=>decide (1<od c)).length:Int):=by
 have Ij:=aa.n;refine Tot.upto (λs=>s.2) cs.length (λk s=>s.1=(((cs.take k).filter λc=>decide (1<od c)).length:Int)) rfl (by omega) rfl λk s hk he bb=>?_;obtain ⟨z,i⟩:=s;simp only at he bb ⊢;subst he bb;rw [eA k (by omega)];refine Tot.ba (λaT=>?_) (λdC=>.ag ?_)
 ·have aT:k<cs.length:=by omega
  have Vn:=aa.ok _ (List.getElem_mem aT);have xb:=Qk aT (λc:Cell=>decide (1<od c));have xa:=List.length_filter_le (λc:Cell=>decide (1<od c)) (cs.take k);rw [List.length_take] at xa;rw [ea aT];generalize cs[k]=c at *;have hF:=Vn.len aN;rw [show (some c).bind=λ(f:Cell->Option Int)=>f c from rfl]
  simp only [aS c (by omega),Option.bind_some];refine .ar (Ξ:=λz:Int=>z=(((cs.take (k+1)).filter λc=>decide (1<od c)).length:Int)) ?_ λr ah=>.ag ⟨aT,rfl,ah⟩;rw [xb];refine .ar (Ξ:=λz:Int=>z=(((cs.take k).filter (λc=>decide (1<od c))++if decide (1<od c)=true then [c] else []).length:Int)) (Tot.ba (λh=>.ag ?_) (λh=>.ag ?_)) λr ah=>.ag ah
  ·have:1<od c:=by omega
   rw [eA _ (by omega)];simp [this]
  ·have:¬ 1<od c:=by omega
   simp [this]
 ·have e:cs.take k=cs:=List.take_of_length_le (by omega);rw [e]; rfl
theorem AT {g:bt}(aN:fX g) {n:Nat}{cs:List Cell}(aa:Ap g n cs):Tot (CF cs) λr=>r=((cs.filter λc=>decide (1<od c)).length:Int):=by
 unfold CF;exact .ar (YN aN aa Mr) λr ah=>.ag ah
theorem AQ (s:Source) (av:oo s):Tot (ql s) λr=>r.2.2.2=true->∃ n,rq r.1 n r.2.1:=by
 unfold ql;refine .ar (Sr s av) λr ah=>Tot.bk (λ_=>.ag λh=>by cases h) (λh=>?_);have dQ:=ah (by simpa using h);exact .ar (AS _ _ _ dQ) λd aP=>.ar (AT dQ.rG dQ.ce) λ_ _=>.ag λ_=>⟨_,aP.1.aV dQ⟩
open Go Go.Own
theorem ZZ (a:Act):Tot (s5 a) λ_=>True:=by
 unfold s5
 repeat' first | apply Tot.bi | refine Tot.bk (λ_=>?_) (λ_=>?_) | exact Tot.ag trivial | apply Tot.ag
def tt (l:List Int) (v:Int):Prop:=(l=[]/\v=-1)\/(v∈l/\∀ x∈l,l.count x<l.count v\/(l.count x=l.count v/\v<=x))
theorem tt.uniq {l:List Int}{v w:Int}(h:tt l v) (aI:tt l w):v=w:=by
 rcases h with ⟨h1,af⟩ | ⟨h1,af⟩ <;> rcases aI with ⟨aJ,bx⟩ | ⟨aJ,bx⟩
 ·omega
 ·subst h1; cases aJ
 ·subst aJ; cases h1
 ·have a:=af w aJ;have b:=bx v h1;omega
theorem y6 (l:List Int) (y x:Int):(l++[y]).count x=l.count x+(if y=x then 1 else 0):=by
 rw [List.count_append];by_cases e:y=x
 ·subst e; simp
 ·rw [if_neg e,List.count_eq_zero.2 λhm=>e (List.mem_singleton.1 hm).symm]
theorem Td {l:List Int}{x:Int}(h:x∈l):0<l.count x:=List.count_pos_iff.2 h
theorem tt.snoc {l:List Int}{b y:Int}(h:tt l b) (aO:∀ x∈l,0<=x) (al:0<=y):tt (l++[y]) (if b<0\/(l++[y]).count b<(l++[y]).count y\/((l++[y]).count y=(l++[y]).count b/\y<b) then y else b):=by
 refine .inr ?_;rcases h with ⟨rfl,rfl⟩ | ⟨av,hm⟩
 ·rw [if_pos (.inl (by decide))];refine ⟨by simp,λx j=>?_⟩;rw [List.nil_append,List.mem_singleton] at j;subst j; exact .inr ⟨rfl,Int.le_refl _⟩
 ·have zc:=aO b av;have key:∀ x∈l++[y],x∈l\/x=y:=λx j=>by simpa using j
  have wQ:(l++[y]).count y=l.count y+1:=by rw [y6,if_pos rfl]
  by_cases ue:b=y
  ·subst ue;rw [if_neg (by omega)];refine ⟨by simp,λx j=>?_⟩;rw [wQ];by_cases e:x=b
   ·subst e; exact .inr ⟨wQ,Int.le_refl _⟩
   ·rw [y6,if_neg (λh=>e h.symm)];rcases key x j with j | j
    ·have:=hm x j; omega
    ·exact absurd j e
  ·have tK:(l++[y]).count b=l.count b:=by rw [y6,if_neg (λh=>ue h.symm)]; rfl
   by_cases aa:b<0\/(l++[y]).count b<(l++[y]).count y\/((l++[y]).count y=(l++[y]).count b/\y<b)
   ·rw [if_pos aa];rw [tK,wQ] at aa;refine ⟨by simp,λx j=>?_⟩;rw [wQ];by_cases e:x=y
    ·subst e; exact .inr ⟨wQ,Int.le_refl _⟩
    ·rw [y6,if_neg (λh=>e h.symm)];rcases key x j with j | j
     ·have:=hm x j; omega
     ·exact absurd j e
   ·rw [if_neg aa];rw [tK,wQ] at aa;refine ⟨by simp [av],λx j=>?_⟩;rw [tK];by_cases e:x=y
    ·subst e; rw [wQ]; omega
    ·rw [y6,if_neg (λh=>e h.symm)];rcases key x j with j | j
     ·have:=hm x j; omega
     ·exact absurd j e
theorem L2 (l:List Int) (aj:l.length<=100000) (aO:∀ x∈l,0<=x/\x<=1000000):Tot (uF l) (tt l):=by
 unfold uF;refine .ar (Ξ:=λr:List Int=>eQ hR r/\r.length<=l.length/\∀ x,x∈r↔x∈l) ?_ λD h6=>?_
 ·refine Tot.upto (λs=>s.2) l.length (λk s=>eQ hR s.1/\s.1.length<=k/\∀ x,x∈s.1↔x∈l.take k) rfl (by omega) ⟨.nil,Nat.le_refl 0,λx=>by simp⟩ λk s hk he bb=>?_;obtain ⟨r,i⟩:=s;obtain ⟨h1,af,aJ⟩:=bb;simp only at he h1 af aJ ⊢;subst he;rw [eA k (by omega)];refine Tot.ba (λaT=>?_) (λdC=>.ag ?_)
  ·have aT:k<l.length:=by omega
   have fu:=kr aT;rw [ea aT];generalize l[k]=y at *;refine Tot.sm (.ar (AW r y h1 (by omega)) λck dM=>.ag ⟨aT,rfl,dM.1,by have:=dM.2.1; show ck.length<=k+1; omega,λx=>?_⟩);rw [fu,List.mem_append,List.mem_singleton,<- aJ];exact dM.2.2 x
  ·have e:l.take k=l:=List.take_of_length_le (by omega);rw [e] at aJ;exact ⟨h1,by omega,aJ⟩
 ·obtain ⟨Ui,acr,Ek⟩:=h6;refine .ar (Ξ:=λr:Int=>tt l r) ?_ λr ah=>.ag ah;refine Tot.upto (λs=>s.2.2) D.length (λk s=>(k=0/\s.1=-1/\s.2.1=0)\/(s.1∈D.take k/\s.2.1=(l.count s.1:Int)/\∀ x∈D.take k,l.count x<l.count s.1\/(l.count x=l.count s.1/\s.1<=x))) rfl (by omega) (.inl ⟨rfl,rfl,rfl⟩) λk s hk he bb=>?_;obtain ⟨b,n,i⟩:=s;simp only at he bb ⊢;subst he;rw [eA k (by omega)];refine Tot.ba (λaT=>?_) (λdC=>.ag ?_)
  ·have aT:k<D.length:=by omega
   have fu:=kr aT;have EV:=List.getElem_mem aT;have uq:∀ x∈D.take k,x<D[k]:=λx j=>by
    obtain ⟨J,ai,rfl⟩:=List.mem_iff_getElem.1 j;rw [List.length_take] at ai;rw [List.getElem_take];exact JJ.1 (GK Ui (by omega) aT (by omega))
   rw [ea aT];generalize D[k]=y at *;have EU:=(Ek y).1 EV;refine .ar (Ξ:=λr:Int × Int=>r.1∈D.take (k+1)/\r.2=(l.count r.1:Int)/\∀ x∈D.take (k+1),l.count x<l.count r.1\/(l.count x=l.count r.1/\r.1<=x)) ?_ λr ah=>.ag ⟨aT,rfl,.inr ah⟩;refine .ar (Ξ:=λz:Int=>z=(l.count y:Int)) ?_ λz aW=>?_
   ·refine Tot.upto (λs=>s.2) l.length (λJ s=>s.1=((l.take J).count y:Int)) rfl (by omega) (by simp) λJ s ai he bb=>?_;obtain ⟨z,i⟩:=s;simp only at he bb ⊢;subst he bb;rw [eA J (by omega)];refine Tot.ba (λfU=>?_) (λdC=>.ag ?_)
    ·have fU:J<l.length:=by omega
     have uo:=kr fU;have hF:=List.count_le_length (a:=y) (l:=l.take J);rw [List.length_take] at hF;rw [ea fU];generalize l[J]=x at *;simp only [Option.bind_some];refine .ar (Ξ:=λz:Int=>z=((l.take (J+1)).count y:Int)) ?_ λz aW=>.ag ⟨fU,rfl,aW⟩;rw [uo,y6];refine .ar (Ξ:=λz:Int=>z=(((l.take J).count y+if x=y then 1 else 0:Nat):Int)) (Tot.ba (λe=>.ag ?_) (λe=>.ag ?_)) λz aW=>.ag aW
     ·rw [if_pos e,eA _ (by omega)]
     ·rw [if_neg e]; rfl
    ·have e:l.take J=l:=List.take_of_length_le (by omega);rw [e]; rfl
   ·subst aW;refine .ar (Ξ:=λr:Int × Int=>r.1∈D.take (k+1)/\r.2=(l.count r.1:Int)/\∀ x∈D.take (k+1),l.count x<l.count r.1\/(l.count x=l.count r.1/\r.1<=x)) ?_ λr ah=>.ag ah;have acH:=Td EU;rw [fu];have key:∀ x∈D.take k++[y],x∈D.take k\/x=y:=λx j=>by simpa using j
    refine Tot.ba (λaa=>Tot.sm (.ag ⟨by simp,rfl,λx j=>?_⟩)) (λaa=>?_)
    ·rcases key x j with j | rfl
     ·rcases bb with ⟨rfl,_,_⟩ | ⟨h1,af,aJ⟩
      ·simp at j
      ·have:=aJ x j; show l.count x<l.count y\/_; omega
     ·exact .inr ⟨rfl,Int.le_refl _⟩
    ·rcases bb with ⟨rfl,_,rfl⟩ | ⟨h1,af,aJ⟩
     ·omega
     ·refine .ag ⟨by simp [h1],af,λx j=>?_⟩;rcases key x j with j | rfl
      ·exact aJ x j
      ·have:=uq b h1;have aa:¬ ((n:Int)<(l.count x:Int)):=aa;have af:n=(l.count b:Int):=af;show l.count x<l.count b\/(l.count x=l.count b/\b<=x);omega
  ·have e:D.take k=D:=List.take_of_length_le (by omega);rw [e] at bb;rcases bb with ⟨rfl,rfl,_⟩ | ⟨h1,af,aJ⟩
   ·have:D=[]:=List.eq_nil_of_length_eq_zero (by omega);refine .inl ⟨?_,rfl⟩;refine List.eq_nil_iff_forall_not_mem.2 λx j=>?_;have:=(Ek x).2 j
    subst_vars
    cases this
   ·exact .inr ⟨(Ek b).1 h1,λx j=>aJ x ((Ek x).2 j)⟩
open Go Go.Own Go.Lib
structure Aw (g:bt):Prop where
 code:∀ p∈g.bd,p.Code.size<=1000
 args:∀ p∈g.bd,∀ s∈p.rp,nM g.a1.length (g.bY.length - 1) s
 ZW:∀ t∈g.a1,t.Tag.size<=1000
 OS:∀ t∈g.bY,t.Tag.size<=1000
theorem AV (g:bt) (aN:fX g) (j:Aw g) (s:Int) (ay:nM g.a1.length (g.bY.length - 1) s):Tot (CL g s) λr=>r.size<=1000:=by
 unfold CL;have h1:=aN.kf;have af:=aN.de;have ay:=ay;unfold nM at ay;refine Tot.ba (λh=>?_) (λh=>?_)
 ·have e:aG (s - 1000)=s - 1000:=by rw [cm]; omega
  rw [e];exact .bi (.gh (by omega) (by omega) λy _ al=>.ag (j.OS y al))
 ·exact .bi (.gh (by omega) (by omega) λy _ al=>.ag (j.ZW y al))
theorem AU (g:bt) (aN:fX g) (j:Aw g) (k:Int):Tot (CG g k) λr=>r.1.size<=3000000:=by
 unfold CG;have h1:=aN.kf;have af:=aN.de;have aJ:=aN.ih;refine .ar (Ξ:=λc=>c=false->0<=k/\k<g.bd.length) (Tot.ba (λ_=>.ag λh=>by cases h) (λa=>Tot.ba (λ_=>.ag λh=>by cases h) (λb=>.bi (.gh (by omega) (by omega) λy _ al=>.ag λ_=>⟨by omega,by omega⟩)))) λc aa=>Tot.bk (λ_=>.ag (Nat.zero_le _)) (λaS=>?_);obtain ⟨k0,vK⟩:=aa aS;refine .bi (.gh k0 vK λp _ au=>?_);have Vq:=j.code p au;have oA:=j.args p au;have zn:=aN.gj p au;refine .ar (Sz p.Code Vq) λbS k1=>Tot.kZ (λ_=>.ag (Nat.zero_le _)) (λhe=>?_);obtain ⟨aj,Wc⟩:=k1 he;refine .ar (Ξ:=gK (λr:ByteArray=>r.size<=3000000) (λr:ByteArray × Int × ByteArray=>r.1.size<=3000000)) ?_ λx j=>by
  rcases x with x | x
  ·exact .ag j
  ·exact .ag j
 refine Tot.upto (λz=>z.2) bS.1.length (λJ z=>z.1.size<=J * 1100) rfl (by omega) (Nat.zero_le _) λJ z ai he bb=>?_;obtain ⟨t,i⟩:=z;simp only at he bb ⊢;subst he;rw [eA J (by omega)];refine Tot.ba (λaT=>?_) (λdC=>.ag (by show t.size<=_; omega));have aT:J<bS.1.length:=by omega
 rw [ea aT];have a7:=Wc _ (List.getElem_mem aT);generalize bS.1[J]=q at *;obtain ⟨adt,ads,C4⟩:=a7;refine Tot.sm (Tot.sm (Tot.ba (λ_=>?_) (λ_=>Tot.ba (λ_=>?_) (λ_=>?_))))
 ·refine Tot.sm (.bi (.cat (by omega) (.ag ⟨aT,rfl,?_⟩)));show (t++q.Text).size<=_;rw [ByteArray.size_append]; omega
 ·have z5:((⟨#[121,121,86,65,76]⟩:ByteArray)).size=5:=rfl;have bj:((⟨#[46]⟩:ByteArray)).size=1:=rfl;refine .bi (.cat (by omega) (.ar (Ξ:=λb:ByteArray=>b.size<=1000) (Tot.ba (λ_=>.bi (.gh zn.left.1 (by have:=zn.left.2; omega) λy _ al=>.ag (j.OS y al))) (λ_=>.ag (by omega))) λb av=>?_));refine .ar (Ξ:=λr:ByteArray=>r.size<=t.size+1010) (Tot.kZ (λ_=>.bi (.cat (by rw [ByteArray.size_append]; omega) (.bi (.cat (by simp only [ByteArray.size_append]; omega) (.ag (by simp only [ByteArray.size_append]; omega)))))) (λ_=>.ag (by rw [ByteArray.size_append]; omega))) λr ah=>.ag ⟨aT,rfl,?_⟩;show r.size<=_;omega
 ·refine Tot.sm (.ar (Ξ:=λc=>c=false->1<=q.N/\q.N<=p.rp.length) (Tot.ba (λ_=>.ag λh=>by cases h) (λa=>.ag λh=>by have:=of_decide_eq_false h; omega)) λc aa=>Tot.bk (λ_=>?_) (λaS=>?_))
  ·rw [na _ C4];have:=E0 _ C4;have bj:((⟨#[36]⟩:ByteArray)).size=1:=rfl;refine Tot.sm (.bi (.cat (by have:(⟨(mP q.N).toArray⟩:ByteArray).size=(mP q.N).length:=(by rw [kl]); omega) (.ag (Nat.zero_le _))))
  ·obtain ⟨gU,mQ⟩:=aa aS;have z9:((⟨#[121,121,68,111,108,108,97,114,91]⟩:ByteArray)).size=9:=rfl;have bj:((⟨#[46]⟩:ByteArray)).size=1:=rfl;have z2:((⟨#[93]⟩:ByteArray)).size=1:=rfl;have hi:=E0 _ C4;have ay:(⟨(mP q.N).toArray⟩:ByteArray).size=(mP q.N).length:=by rw [kl]
   rw [na _ C4];refine .bi (.cat (by omega) (Tot.sm (.bi (.cat (by rw [ByteArray.size_append]; omega) (.bi (.cat (by simp only [ByteArray.size_append]; omega) (.ar (Ξ:=λb:ByteArray=>b.size<=1000) (Tot.ba (λ_=>?_) (λ_=>.ag (by omega))) λb av=>?_)))))))
   ·unfold i64 at C4;have e:aG (q.N - 1)=q.N - 1:=by rw [cm]; omega
    rw [e];exact .bi (.gh (by omega) (by omega) λy _ al=>.ar (AV g aN j y (oA y al)) λr ah=>.ag ah)
   ·refine .ar (Ξ:=λr:ByteArray=>r.size<=t.size+1040) (Tot.kZ (λ_=>.bi (.cat (by simp only [ByteArray.size_append]; omega) (.bi (.cat (by simp only [ByteArray.size_append]; omega) (.ag (by simp only [ByteArray.size_append]; omega)))))) (λ_=>.ag (by simp only [ByteArray.size_append]; omega))) λr ah=>.ag ⟨aT,rfl,?_⟩;show r.size<=_;omega
theorem tH (g:bt) (aN:fX g) (j:Aw g):Tot (xP g) λr=>r.2.1=0->r.1.length<=60/\∀ t∈r.1,t.size<=3000000:=by
 unfold xP;have aJ:=aN.ih;refine .ar (Ξ:=gK (λr:List ByteArray=>r.length<=60/\∀ t∈r,t.size<=3000000) (λr:List ByteArray × Int × Int × ByteArray=>r.2.1≠0)) ?_ λx j=>by
  rcases x with x | x
  ·exact .ag λ_=>j
  ·exact .ag λh=>absurd h j
 refine Tot.upto (λz=>z.2) g.bd.length (λk z=>z.1.length=k/\∀ t∈z.1,t.size<=3000000) rfl (by omega) ⟨rfl,λt h=>by cases h⟩ λk z hk he bb=>?_;obtain ⟨l,i⟩:=z;obtain ⟨h1,af⟩:=bb;simp only at he h1 af ⊢;subst he;rw [eA k (by omega)];refine Tot.ba (λaT=>?_) (λdC=>.ag ⟨by show l.length<=60; omega,af⟩);have aT:k<g.bd.length:=by omega
 refine .ar (AU g aN j k) λr ah=>Tot.kZ (λcA=>?_) (λ_=>?_)
 ·rw [ea aT];exact Tot.sm (.ag cA)
 ·refine .bi (.ap (by simp [lim]; omega) (.ag ⟨aT,rfl,?_,λt aq=>?_⟩))
  ·show (l++[r.1]).length=k+1;simp; omega
  ·rcases List.mem_append.1 aq with aq | aq
   ·exact af t aq
   ·rw [List.mem_singleton.1 aq]; exact ah
structure fI (m:ei):Prop where
 t:∀ x∈m.aD.a1,x.Tag.size<=1000
 y:∀ x∈m.cv,x.Tag.size<=1000
theorem fI.fail {m bh:ei}(h:fI m) (ay:qK m bh/\bh.cN≠0):fI bh:=⟨by rw [ay.1.g]; exact h.t,by rw [ay.1.ty]; exact h.y⟩
theorem Dh {l:List Tok}{k:Nat}{t:Tok}(h:∀ x∈l,x.Tag.size<=1000) (aq:t.Tag.size<=1000):∀ x∈l.set k t,x.Tag.size<=1000:=λx j=>by
 rcases List.mem_or_eq_of_mem_set j with e | e
 ·exact h x e
 ·rw [e]; exact aq
theorem Pr (m:ei) (x:Sym) (hm:fI m):Par (s4 m x) λr=>fI r.2:=by
 unfold s4;refine .ar (Ξ:=λ_=>True) (λ_ _=>trivial) λr _=>Par.ba (λ_=>.ag hm) (λ_=>?_);refine .ar (Ξ:=λJ:ei × Int=>fI J.1) ?_ λJ ai=>Par.ap λ_=>Par.ap λ_=>.ag ⟨λt aq=>?_,ai.y⟩
 ·refine Par.bk (λ_=>?_) (λ_=>.ag hm);exact .ar (Ξ:=λ_=>True) (λ_ _=>trivial) λ_ _=>.ar (Ξ:=λ_=>True) (λ_ _=>trivial) λ_ _=>.ar (Ξ:=fI) (Par.ba (λ_=>.ar (l0 m _ _) λbh h=>.ag (hm.fail h)) (λ_=>.ag hm)) λJ ai=>.ag ai
 ·rcases List.mem_append.1 aq with aq | aq
  ·exact ai.t t aq
  ·rw [List.mem_singleton.1 aq]; exact Nat.zero_le _
theorem Ps (m:ei) (x:Sym) (hm:fI m):Par (q4 m x) λr=>fI r.2:=by
 unfold q4;refine Par.bk (λ_=>.ar (Pr m x hm) λr ah=>.ag ah) (λ_=>.ar (Ξ:=λ_=>True) (λ_ _=>trivial) λk _=>Par.bk (λ_=>.ag hm) (λ_=>.ar (Ξ:=λ_=>True) (λ_ _=>trivial) λt _=>Par.bk (λ_=>.ar (l0 m _ _) λbh h=>.ag (hm.fail h)) (λ_=>.ag hm)))
theorem YD (m:ei) (d:Decl) (x:Sym) (hm:fI m) (aP:d.Tag.size<=1000):Par (sZ m d x) fI:=by
 unfold sZ;refine Par.ba (λ_=>?_) (λ_=>?_)
 ·refine .ar (Ξ:=λ_=>True) (λ_ _=>trivial) λk _=>.ar (Ξ:=fI) ?_ λJ ai=>.ag ai;refine Par.ba (λ_=>Par.ap λ_=>.ag ⟨hm.t,λy al=>?_⟩) (λ_=>.go λy _=>.ar (Ξ:=fI) (Par.kZ (λ_=>.ar (l0 m _ _) λbh h=>.ag (hm.fail h)) (λ_=>.ag hm)) λJ ai=>.ag ai);rcases List.mem_append.1 al with al | al
  ·exact hm.y y al
  ·rw [List.mem_singleton.1 al]; exact aP
 ·refine .ar (Pr m x hm) λr ah=>.go λy al=>.ar (Ξ:=fI) ?_ λez jj=>?_
  ·refine Par.kZ (λ_=>?_) (λ_=>.ag ah);refine .ar (Ξ:=fI) ?_ λc0 p2=>.go λz aW=>.ag ⟨Dh (Dh p2.t (p2.t z (qd aW))) (p2.t z (qd aW)),p2.y⟩;exact Par.ba (λ_=>.ar (l0 r.2 _ _) λbh h=>.ag ⟨ah.t,(ah.fail h).y⟩) (λ_=>.ag ah)
  ·refine .go λz aW=>.ar (Ξ:=fI) ?_ λeN p3=>?_
   ·refine Par.ba (λ_=>?_) (λ_=>.ag jj);refine .ar (Ξ:=λ_=>True) (λ_ _=>trivial) λc _=>.ar (Ξ:=fI) ?_ λdN oz=>.go λw hw=>.go λ_ _=>.ag ⟨Dh oz.t (oz.t w (qd hw)),oz.y⟩;exact Par.bk (λ_=>.ar (l0 ez _ _) λbh h=>.ag ⟨jj.t,(jj.fail h).y⟩) (λ_=>.ag jj)
   ·refine .go λw hw=>.ar (Ξ:=fI) ?_ λJ ai=>.ag ai;refine Par.kZ (λ_=>?_) (λ_=>.ag p3);refine .ar (Ξ:=λ_=>True) (λ_ _=>trivial) λc _=>.ar (Ξ:=fI) ?_ λmu sA=>.go λv hv=>.ag ⟨Dh sA.t aP,sA.y⟩;exact Par.bk (λ_=>.ar (l0 eN _ _) λbh h=>.ag ⟨p3.t,(p3.fail h).y⟩) (λ_=>.ag p3)
theorem YE (m:ei) (left:ByteArray) (a:Alt) (hm:fI m):Par (s3 m left a) fI:=by
 unfold s3;refine .ar (Ξ:=λ_=>True) (λ_ _=>trivial) λa6 _=>?_;refine .ar (Ξ:=λr:ei × List Int × ByteArray × Int=>fI r.1) ?_ λaX aJ=>?_
 ·refine Par.loop (λs=>fI s.1) hm λs ay=>?_;obtain ⟨m1,rt,bk,at_,i⟩:=s;simp only at ay ⊢;refine Par.ba (λaT=>?_) (λ_=>.ag ay);refine .ar (Ξ:=λJ:ei × List Int × ByteArray × Int=>fI J.1) ?_ λJ ai=>.ag ai;refine .go λy al=>.ar (Ξ:=λJ:ei × List Int × ByteArray × Int=>fI J.1) ?_ λJ ai=>.ag ai;refine .ar (Ξ:=λJ:ei × List Int × ByteArray × Int=>fI J.1) ?_ λJ ai=>.ag ai;refine Par.bk (λ_=>?_) (λ_=>?_)
  ·exact .ar (Ps m1 y.Sym ay) λr ah=>Par.ap λ_=>.ag ah
  ·exact .ar (Ξ:=λ_=>True) (λ_ _=>trivial) λJ _=>.ag ⟨ay.t,ay.y⟩
 ·refine .ar (Ξ:=λ_=>True) (λ_ _=>trivial) λgj _=>?_;refine .ar (Ξ:=λJ:ei × Int=>fI J.1) ?_ λJ ai=>Par.ap λ_=>Par.ap λ_=>.ag ⟨ai.t,ai.y⟩;refine Par.bk (λ_=>?_) (λ_=>.ag aJ);refine .ar (Ξ:=λ_=>True) (λ_ _=>trivial) λc _=>.ar (Ξ:=λJ:ei × Int=>fI J.1) ?_ λJ ai=>.ag ai;exact Par.bk (λ_=>.ar (Ps aX.1 a.Prec aJ) λr ah=>.ag ah) (λ_=>.ar (l0 aX.1 _ _) λbh h=>.ag (aJ.fail h))
theorem YG (s:Source) (av:oo s):Par (qn s) λr=>r.2.1=0->(∀ t∈r.1.a1,t.Tag.size<=1000)/\(∀ t∈r.1.bY,t.Tag.size<=1000)/\r.1.b8=s.b8/\r.1.cf=s.cf:=by
 unfold qn;refine .ar (Ξ:=λ_=>True) (λ_ _=>trivial) λc _=>Par.bk (λ_=>.ag λh=>absurd h (by decide)) (λ_=>?_);refine .ar (Ξ:=λ_=>True) (λ_ _=>trivial) λaX _=>?_;refine .ar (Ξ:=λr:ei × ByteArray=>fI r.1) ?_ λbK cu=>?_
 ·refine Par.loop (λz=>fI z.1) ⟨λt aq=>?_,λt aq=>by cases aq⟩ λz hm=>?_
  ·have aq:t∈[_,_,_]:=aq;simp only [List.mem_cons,List.not_mem_nil,or_false] at aq;rcases aq with rfl | rfl | rfl <;> exact Nat.zero_le _
  ·obtain ⟨m,st,i⟩:=z;simp only at hm ⊢;refine Par.ba (λaT=>?_) (λ_=>.ag hm);refine .go λd aP=>?_;have jn:=qd aP;refine .ar (Ξ:=λ_=>True) (λ_ _=>trivial) λ_ _=>.ar (Ξ:=λ_=>True) (λ_ _=>trivial) λi_ _=>?_;refine .ar (Ξ:=λr:ei × ByteArray=>fI r.1) ?_ λr ah=>.ag ah;refine Par.loop (λz=>fI z.1) ⟨hm.t,hm.y⟩ λz hm=>?_;obtain ⟨m,st,k⟩:=z;simp only at hm ⊢;refine Par.ba (λuh=>?_) (λ_=>.ag hm);refine .ar (Ξ:=λr:ei × ByteArray=>fI r.1) ?_ λr ah=>.ag ah;refine Par.bk (λ_=>.go λx j=>?_) (λ_=>?_)
   ·exact .ar (YD m d x hm (av.decls d jn).tag) λbh gS=>.ag gS
   ·exact .ar (Ξ:=fI) (Par.bk (λ_=>.go λ_ _=>.go λ_ _=>.ar (l0 m _ _) λbh h=>.ag (hm.fail h)) (λ_=>.ag hm)) λbh gS=>.go λ_ _=>.ag gS
 refine .ar (Ξ:=fI) ?_ λcC Bb=>?_
 ·refine Par.loop (λz=>fI z.1) cu λz hm=>?_;obtain ⟨m,i⟩:=z;simp only at hm ⊢;refine Par.ba (λaT=>?_) (λ_=>.ag hm);refine .ar (Ξ:=fI) ?_ λr ah=>.ag ah;refine .go λr ah=>.ar (Ξ:=λ_=>True) (λ_ _=>trivial) λ_ _=>?_;refine .ar (Ξ:=fI) (Par.bk (λ_=>.ar (l0 m _ _) λbh h=>.ag (hm.fail h)) (λ_=>.ag hm)) λiA mc=>?_;exact .ar (Ξ:=λ_=>True) (λ_ _=>trivial) λ_ _=>.ar (Ξ:=λ_=>True) (λ_ _=>trivial) λl _=>.ag ⟨mc.t,mc.y⟩
 refine .ar (Ξ:=fI) ?_ λht qP=>?_
 ·refine Par.loop (λz=>fI z.1) Bb λz hm=>?_;obtain ⟨m,i⟩:=z;simp only at hm ⊢;refine Par.ba (λaT=>?_) (λ_=>.ag hm);refine .ar (Ξ:=fI) ?_ λr ah=>.ag ah;refine Par.loop (λz=>fI z.1) hm λz hm=>?_;obtain ⟨m,k⟩:=z;simp only at hm ⊢;refine .go λd _=>Par.ba (λaT=>?_) (λ_=>.ag hm);refine .ar (Ξ:=fI) ?_ λr ah=>.ag ah;refine .go λ_ _=>.go λ_ _=>.ar (Ξ:=λ_=>True) (λ_ _=>trivial) λ_ _=>?_;exact .ar (Ξ:=fI) (Par.bk (λ_=>.ar (l0 m _ _) λbh h=>.ag (hm.fail h)) (λ_=>.ag hm)) λbh gS=>.ag gS
 refine .ar (Ξ:=λ_=>True) (λ_ _=>trivial) λvJ _=>.ar (Ξ:=λ_=>True) (λ_ _=>trivial) λl5 _=>?_;refine .ar (Ξ:=fI) ?_ λbp ni=>?_
 ·refine Par.loop (λz=>fI z.1) ⟨qP.t,qP.y⟩ λz hm=>?_;obtain ⟨m,i⟩:=z;simp only at hm ⊢;refine Par.ba (λaT=>?_) (λ_=>.ag hm);refine .ar (Ξ:=fI) ?_ λr ah=>.ag ah;refine Par.loop (λz=>fI z.1) hm λz hm=>?_;obtain ⟨m,k⟩:=z;simp only at hm ⊢;refine .go λd aP=>Par.ba (λuh=>?_) (λ_=>.ag hm);exact .go λd1 Ik=>.go λd2 w9=>.go λa aR=>.ar (YE m _ a hm) λbh gS=>.ag gS
 refine Par.kZ (λh=>.ag λaI=>absurd aI h) (λhe=>?_);refine .ar (Ξ:=λl:List e_=>∀ x∈l,x.Tag.size<=1000) ?_ λth Bd=>?_
 ·refine Par.loop (λz=>∀ x∈z.1,x.Tag.size<=1000) (λx j=>?_) λz aW=>?_
  ·rw [List.mem_singleton.1 j]; exact Nat.zero_le _
  ·refine Par.bk (λ_=>.go λy al=>.ar (Ξ:=λ_=>True) (λ_ _=>trivial) λk _=>.ar (Ξ:=λb:ByteArray=>b.size<=1000) (Par.ba (λ_=>.go λw hw=>.ag (ni.y w (qd hw))) (λ_=>.ag (Nat.zero_le _))) λb fo=>Par.ap λ_=>.ag λx j=>?_) (λ_=>.ag aW);rcases List.mem_append.1 j with j | j
   ·exact aW x j
   ·rw [List.mem_singleton.1 j]; exact fo
 refine .ar (Ξ:=λl:List e_=>∀ x∈l,x.Tag.size<=1000) ?_ λky Eh=>?_
 ·refine Par.loop (λz=>∀ x∈z.1,x.Tag.size<=1000) Bd λz aW=>?_;refine Par.ba (λ_=>.go λy al=>Par.cat (Par.ap λ_=>.ag λx j=>?_)) (λ_=>.ag aW);rcases List.mem_append.1 j with j | j
  ·exact aW x j
  ·rw [List.mem_singleton.1 j]; exact Nat.zero_le _
 refine .ar (Ξ:=λl:List Tok=>∀ x∈l,x.Tag.size<=1000) ?_ λlI Ei=>?_
 ·refine Par.loop (λz=>∀ x∈z.1,x.Tag.size<=1000) ni.t λz aW=>?_;refine Par.ba (λ_=>?_) (λ_=>.ag aW);refine .ar (Ξ:=λJ:List Tok × Int=>∀ x∈J.1,x.Tag.size<=1000) (.go λy al=>.ar (Ξ:=λJ:List Tok × Int=>∀ x∈J.1,x.Tag.size<=1000) (Par.bk (λ_=>.go λw hw=>.ag (Dh aW (aW w (qd hw)))) (λ_=>.ag aW)) λJ ai=>.ag ai) λJ ai=>.ag ai
 refine .ar (Ξ:=λ_=>True) (λ_ _=>trivial) λ_ _=>.ar (Ξ:=λ_=>True) (λ_ _=>trivial) λ_ _=>Par.bk (λ_=>.ag λh=>absurd h (by decide)) (λ_=>.ag λ_=>⟨Ei,Eh,rfl,rfl⟩)
def n5 (l:List Int):Int:=(uF l).getD (-1)
def DK (l:List Int):Prop:=l.length<=100000/\∀ x∈l,0<=x/\x<=1000000
theorem JV {l:List Int}(h:DK l):uF l=some (n5 l)/\uF l=some (n5 l)/\tt l (n5 l):=by
 obtain ⟨w,hw,af⟩:=L2 l h.1 h.2;have e:n5 l=w:=by unfold n5; rw [hw]; rfl
 rw [e];exact ⟨hw,hw,af⟩
def lf {α:Type}(keep:α->Bool) (val:α->Int) (l:List α):List dt:=(l.zipIdx.filter λp=>keep p.1).map λp=>(⟨(p.2:Nat),val p.1⟩:dt)
theorem Pp {α:Type}(keep:α->Bool) (val:α->Int) (l:List α) (x:α):lf keep val (l++[x])=lf keep val l++(if keep x=true then [(⟨l.length,val x⟩:dt)] else []):=by
 grind [lf]
theorem FA {α:Type}(keep:α->Bool) (val:α->Int) (l:List α):(lf keep val l).length<=l.length:=by
 grind [lf,List.length_zipIdx]
theorem JN {α:Type}{keep:α->Bool}{val:α->Int}{l:List α}{p:dt}:p∈lf keep val l↔∃ (k:Nat) (x:α),l[k]?=some x/\keep x=true/\p=⟨k,val x⟩:=by
 unfold lf;rw [List.mem_map];constructor
 ·grind
 ·rintro ⟨k,x,h1,af,rfl⟩;exact ⟨(x,k),by rw [List.mem_filter,List.mem_zipIdx_iff_getElem?]; exact ⟨h1,af⟩,rfl⟩
def red (r:List Act):List Int:=(r.filter λa=>decide (a.Kind=2)).map (·.N)
theorem YQ (r:List Act) (a:Act):red (r++[a])=red r++(if a.Kind=2 then [a.N] else []):=by
 grind [red]
theorem Pu (r:List Act):(red r).length<=r.length:=by
 grind [red]
def ox (a:Act):Int:=(s5 a).getD 0
theorem SS (a:Act):s5 a=some (ox a)/\s5 a=some (ox a):=by
 obtain ⟨c,aa,_⟩:=ZZ a;have:ox a=c:=by unfold ox; rw [aa]; rfl
 rw [this];exact ⟨aa,aa⟩
def qY (d:Int) (a:Act):Bool:=!decide (a.Kind=0)&&(!decide (a.Kind=2)||!decide (a.N=d))
def uJ (r:List Act):Row:=⟨n5 (red r),lf (qY (n5 (red r))) ox r⟩
def r8 (d v:Int):Bool:=decide (0<=v)&&!decide (v=d)
def pos (c:List Int):List Int:=c.filter λv=>decide (0<=v)
theorem Yx (r:List Int) (a:Int):pos (r++[a])=pos r++(if 0<=a then [a] else []):=by
 grind [pos]
def uK (c:List Int):Row:=⟨n5 (pos c),lf (r8 (n5 (pos c))) id c⟩
def gO (d:im) (a:Nat):List Int:=d.fR.map λr=>r.getD a 0
theorem Pv {g:bt}{n:Nat}(aN:fX g) {r:List Act}(aj:r.length=g.a1.length) (h:∀ a∈r,sj g n a):DK (red r):=by
 have aq:=aN.kf;have au:=aN.ih;have:=Pu r;refine ⟨by omega,λx j=>?_⟩;unfold red at j;obtain ⟨a,aR,rfl⟩:=List.mem_map.1 j;rw [List.mem_filter] at aR;have hk:=(h a aR.1).q1 (of_decide_eq_true aR.2);have h1:=hk.1;have af:=hk.2;omega
theorem Pn {c:List Int}(aj:c.length<=150) (h:∀ v∈c,v<150):DK (pos c):=by
 have:=List.length_filter_le (λv:Int=>decide (0<=v)) c;refine ⟨by unfold pos; omega,λx j=>?_⟩
 grind [pos]
theorem Ss (g:bt) (n:Nat) (d:im) (aP:rq g n d):Tot (CH d) λr=>r=d.dx.map uJ:=by
 have aN:=aP.rG;have aq:=aN.kf;have aA:=aP.gU;have aR:=aP.a;unfold CH;refine .ar (Ξ:=λr:List Row=>r=d.dx.map uJ) ?_ λr ah=>.ag ah;refine Tot.upto (λs=>s.2) d.dx.length (λk s=>s.1=(d.dx.take k).map uJ) rfl (by omega) rfl λk s hk he bb=>?_;obtain ⟨R,i⟩:=s;simp only at he bb ⊢;subst he bb;rw [eA k (by omega)];refine Tot.ba (λaT=>?_) (λdC=>.ag ?_)
 ·have aT:k<d.dx.length:=by omega
  have fu:=kr aT;obtain ⟨nZ,EI⟩:=aP.kB _ (List.getElem_mem aT);simp only [ea aT,Option.bind_some];generalize d.dx[k]=r at *;have p':=Pv aN nZ EI;obtain ⟨Ho,Hn,_⟩:=JV p';refine .ar (Ξ:=λl:List Int=>l=red r) ?_ λl aj=>?_
  ·refine Tot.upto (λs=>s.2) r.length (λJ s=>s.1=red (r.take J)) rfl (by omega) rfl λJ s ai he bb=>?_;obtain ⟨L,i⟩:=s;simp only at he bb ⊢;subst he bb;rw [eA J (by omega)];refine Tot.ba (λfU=>?_) (λdC=>.ag ?_)
   ·have fU:J<r.length:=by omega
    have uo:=kr fU;have hlen:=Pu (r.take J);rw [List.length_take] at hlen;simp only [ea fU,Option.bind_some];generalize r[J]=a at *;refine .ar (Ξ:=λL:List Int=>L=red (r.take (J+1))) ?_ λr ah=>.ag ⟨fU,rfl,ah⟩;rw [uo,YQ];refine .ar (Ξ:=λL:List Int=>L=red (r.take J)++(if a.Kind=2 then [a.N] else [])) (Tot.ba (λh=>?_) (λh=>.ag ?_)) λr ah=>.ag ah
    ·rw [if_pos h];exact .ar (Ξ:=λ_=>True) (Tot.ap (by simp [lim]; omega) trivial) λ_ _=>.ag rfl
    ·rw [if_neg h,List.append_nil]
   ·have e:r.take J=r:=List.take_of_length_le (by omega);rw [e]; rfl
  ·subst aj;rw [Hn];refine Tot.sm (.ar (Ξ:=λl:List dt=>l=lf (qY (n5 (red r))) ox r) ?_ λl aj=>?_)
   ·generalize n5 (red r)=D;refine Tot.upto (λs=>s.2) r.length (λJ s=>s.1=lf (qY D) ox (r.take J)) rfl (by omega) rfl λJ s ai he bb=>?_;obtain ⟨L,i⟩:=s;simp only at he bb ⊢;subst he bb;rw [eA J (by omega)];refine Tot.ba (λfU=>?_) (λdC=>.ag ?_)
    ·have fU:J<r.length:=by omega
     have uo:=kr fU;have hlen:=FA (qY D) ox (r.take J);have eU:(r.take J).length=J:=by rw [List.length_take]; omega
     rw [List.length_take] at hlen;simp only [ea fU,Option.bind_some];generalize r[J]=a at *;rw [(SS a).2];refine .ar (Ξ:=λL:List dt=>L=lf (qY D) ox (r.take (J+1))) ?_ λr ah=>.ag ⟨fU,rfl,ah⟩;rw [uo,Pp,eU];refine .ar (Ξ:=λc:Bool=>c=qY D a) (Tot.bk (λh=>?_) (λh=>.ag ?_)) λc aa=>?_
     ·refine Tot.bk (λaf=>.ag ?_) (λaf=>.ag ?_)
      ·unfold qY; rw [h,af]; rfl
      ·unfold qY; rw [h,af]; rfl
     ·unfold qY; rw [h]; rfl
     subst aa;refine .ar (Ξ:=λL:List dt=>L=lf (qY D) ox (r.take J)++(if qY D a=true then [(⟨J,ox a⟩:dt)] else [])) (Tot.bk (λh=>?_) (λh=>.ag ?_)) λr ah=>.ag ah
     ·rw [if_pos h];exact Tot.sm (.ar (Ξ:=λ_=>True) (Tot.ap (by simp [lim]; omega) trivial) λ_ _=>.ag rfl)
     ·rw [if_neg (by rw [h]; decide),List.append_nil]
    ·have e:r.take J=r:=List.take_of_length_le (by omega);rw [e]; rfl
   ·subst aj;refine .ar (Ξ:=λ_=>True) (Tot.ap (by simp [lim]; omega) trivial) λ_ _=>.ag ⟨aT,rfl,?_⟩;show _=(d.dx.take (k+1)).map uJ;rw [fu,List.map_append]; rfl
 ·have e:d.dx.take k=d.dx:=List.take_of_length_le (by omega);rw [e]; rfl
theorem D2 (d:im) (a:Nat):(gO d a).length=d.fR.length:=by simp [gO]
theorem L' {d:im}{a q:Nat}(h:q<d.fR.length):(gO d a).take (q+1)=(gO d a).take q++[(d.fR[q]).getD a 0]:=by
 rw [kr (by rw [D2]; exact h)];congr 2;simp [gO]
theorem SU {g:bt}{n:Nat}{d:im}(aP:rq g n d) {a:Nat}(aR:a<g.bY.length):∀ v∈gO d a,-1<=v/\v<n:=λv hv=>by
 unfold gO at hv;obtain ⟨r,ah,rfl⟩:=List.mem_map.1 hv;obtain ⟨h1,af⟩:=aP.Cw r ah;refine af _ ?_;rw [List.getD_eq_getElem?_getD,List.getElem?_eq_getElem (by omega)];exact List.getElem_mem _
theorem Og {r:List Int}{a:Nat}(h:a<r.length):idx r (a:Int)=some (r.getD a 0):=by
 rw [ea h,List.getD_eq_getElem?_getD,List.getElem?_eq_getElem h]; rfl
theorem Yw (c:List Int):(pos c).length<=c.length:=List.length_filter_le ..
theorem Su (g:bt) (n:Nat) (d:im) (aP:rq g n d):Tot (CI d) λr=>r=(List.range g.bY.length).map λa=>uK (gO d a):=by
 have aN:=aP.rG;have aq:=aN.de;have aA:=aP.gU;have aR:=aP.o;have aO:0<d.fR.length:=by omega
 obtain ⟨ac',_⟩:=aP.Cw _ (List.getElem_mem aO);have i0:idx d.fR 0=some d.fR[0]:=ea (k:=0) aO;have g0:decide ((0:Int)<(d.fR.length:Int))=true:=decide_eq_true (by omega);unfold CI;refine .ar (Ξ:=λr:List Row=>r=(List.range g.bY.length).map λa=>uK (gO d a)) ?_ λr ah=>.ag ah;refine Tot.upto (λs=>s.2) g.bY.length (λk s=>s.1=(List.range k).map λa=>uK (gO d a)) rfl (by omega) rfl λk s hk he bb=>?_;obtain ⟨R,i⟩:=s;simp only at he bb ⊢;subst he bb;rw [eA k (by omega),g0,i0];simp only [cond_true,Option.bind_some];refine Tot.ba (λaT=>?_) (λdC=>.ag ?_)
 ·have jN:k<g.bY.length:=by omega
  have p':=Pn (c:=gO d k) (by rw [D2]; omega) λv hv=>by have:=(SU aP jN v hv).2; omega
  obtain ⟨Ho,Hn,_⟩:=JV p';have hF:=D2 d k;refine .ar (Ξ:=λl:List Int=>l=pos (gO d k)) ?_ λl aj=>?_
  ·refine Tot.upto (λs=>s.2) d.fR.length (λJ s=>s.1=pos ((gO d k).take J)) rfl (by omega) rfl λJ s ai he bb=>?_;obtain ⟨L,i⟩:=s;simp only at he bb ⊢;subst he bb;rw [eA J (by omega)];refine Tot.ba (λfU=>?_) (λdC=>.ag ?_)
   ·have fU:J<d.fR.length:=by omega
    have uo:=L' (a:=k) fU;have hlen:=Yw ((gO d k).take J);rw [List.length_take] at hlen;obtain ⟨nZ,_⟩:=aP.Cw _ (List.getElem_mem fU);simp only [ea fU,Option.bind_some,Og (show k<(d.fR[J]).length by omega)];generalize (d.fR[J]).getD k 0=v at *;refine .ar (Ξ:=λL:List Int=>L=pos ((gO d k).take (J+1))) ?_ λr ah=>.ag ⟨fU,rfl,ah⟩;rw [uo,Yx];refine .ar (Ξ:=λL:List Int=>L=pos ((gO d k).take J)++(if 0<=v then [v] else [])) (Tot.ba (λh=>?_) (λh=>.ag ?_)) λr ah=>.ag ah
    ·rw [if_pos h];exact .ar (Ξ:=λ_=>True) (Tot.ap (by simp [lim]; omega) trivial) λ_ _=>.ag rfl
    ·rw [if_neg h,List.append_nil]
   ·have e:(gO d k).take J=gO d k:=List.take_of_length_le (by omega);rw [e]; rfl
  ·subst aj;rw [Hn];refine Tot.sm (.ar (Ξ:=λl:List dt=>l=lf (r8 (n5 (pos (gO d k)))) id (gO d k)) ?_ λl aj=>?_)
   ·generalize n5 (pos (gO d k))=D;refine Tot.upto (λs=>s.2) d.fR.length (λJ s=>s.1=lf (r8 D) id ((gO d k).take J)) rfl (by omega) rfl λJ s ai he bb=>?_;obtain ⟨L,i⟩:=s;simp only at he bb ⊢;subst he bb;rw [eA J (by omega)];refine Tot.ba (λfU=>?_) (λdC=>.ag ?_)
    ·have fU:J<d.fR.length:=by omega
     have uo:=L' (a:=k) fU;have hlen:=FA (r8 D) id ((gO d k).take J);have eU:((gO d k).take J).length=J:=by rw [List.length_take]; omega
     rw [eU] at hlen;obtain ⟨nZ,_⟩:=aP.Cw _ (List.getElem_mem fU);simp only [ea fU,Option.bind_some,Og (show k<(d.fR[J]).length by omega)];generalize (d.fR[J]).getD k 0=v at *;refine .ar (Ξ:=λL:List dt=>L=lf (r8 D) id ((gO d k).take (J+1))) ?_ λr ah=>.ag ⟨fU,rfl,ah⟩;rw [uo,Pp,eU];refine .ar (Ξ:=λc:Bool=>c=r8 D v) (Tot.bk (λh=>.ag ?_) (λh=>.ag ?_)) λc aa=>?_
     ·unfold r8; rw [h]; rfl
     ·unfold r8; rw [h]; rfl
     subst aa;refine .ar (Ξ:=λL:List dt=>L=lf (r8 D) id ((gO d k).take J)++(if r8 D v=true then [(⟨J,id v⟩:dt)] else [])) (Tot.bk (λh=>?_) (λh=>.ag ?_)) λr ah=>.ag ah
     ·rw [if_pos h];exact .ar (Ξ:=λ_=>True) (Tot.ap (by simp [lim]; omega) trivial) λ_ _=>.ag rfl
     ·rw [if_neg (by rw [h]; decide),List.append_nil]
    ·have e:(gO d k).take J=gO d k:=List.take_of_length_le (by omega);rw [e]; rfl
   ·subst aj;refine .ar (Ξ:=λ_=>True) (Tot.ap (by simp [lim]; omega) trivial) λ_ _=>.ag ⟨jN,rfl,?_⟩;show _=(List.range (k+1)).map λa=>uK (gO d a);rw [List.range_succ,List.map_append]; rfl
 ·have:k=g.bY.length:=by omega
  subst this; rfl
theorem Yz {α:Type}(keep:α->Bool) (val:α->Int) (l:List α):(lf keep val l).Pairwise λa b=>a.At<b.At:=by
 unfold lf;rw [List.pairwise_map];refine List.Pairwise.sublist List.filter_sublist ?_;rw [List.pairwise_iff_getElem];intro i J hi ai acS;simp only [List.getElem_zipIdx];omega
abbrev e8:=List dt
structure kW (r:e8):Prop where
 at':∀ p∈r,0<=p.At/\p.At<=999
 nd:(r.map (·.At)).Nodup
def Fit (kY:List Int) (r:e8) (b:Nat):Prop:=∀ p∈r,kY.getD (b+p.At.toNat) 0=0
theorem ux {α:Type}{l:List α}{k:Nat}(h:k<l.length):idx l (k:Int)=some l[k]:=by simp [idx,h]
theorem SB (kY:List Int) (r:e8) (b:Nat) (ah:∀ p∈r,0<=p.At/\p.At<=999) (aj:r.length<=100000) (av:b<=1000000000000) (aa:kY.length<=1000000000000):Tot (zU kY r b) λc=>(c=true↔Fit kY r b):=by
 unfold zU;refine Tot.ar (Tot.scan r (λp=>kY.getD (b+p.At.toNat) 0=0) (λx:Bool=>x=false/\¬ Fit kY r b) (by omega) (λs y aO h1 hi hm=>?_) (λs ay=>by simp [ay])) λx j=>?_
 ·refine Tot.ba (λ_=>?_) (λh=>absurd h1 h);rw [hi];refine Tot.sm (.ar (Ξ:=λc=>(c=true↔kY.getD (b+y.At.toNat) 0≠0)) ?_ λc No=>Tot.bk (λh=>.ag ⟨rfl,λaS=>(No.1 h) (aS y hm)⟩) (λh=>.ag ⟨?_,?_⟩))
  ·have au:=ah y hm;have hw:aG ((b:Int)+y.At)=((b+y.At.toNat:Nat):Int):=by rw [cm]; omega
   rw [hw];refine Tot.ba (λh=>?_) (λh=>.ag ?_)
   ·have aj:b+y.At.toNat<kY.length:=by omega
    rw [ux aj];refine Tot.sm (.ag ?_);rw [List.getD_eq_getElem?_getD,List.getElem?_eq_getElem aj];simp
   ·have aj:¬ b+y.At.toNat<kY.length:=by omega
    rw [List.getD_eq_getElem?_getD,List.getElem?_eq_none (by omega)];simp
  ·rw [cm]; omega
  ·exact Classical.byContradiction λaA=>by rw [No.2 aA] at h; cases h
 ·rcases x with _ | x
  ·exact .ag ⟨λ_=>j,λ_=>rfl⟩
  ·obtain ⟨rfl,aS⟩:x=false/\¬ Fit kY r b:=j;exact .ag ⟨λh=>(by cases h),λh=>absurd h aS⟩
theorem SD (l:List Int) (n:Int) (h:l.length<=100000):Tot (uG l n) λc=>(c=true↔n∈l):=by
 unfold uG;refine Tot.ar (Tot.scan l (λx=>x≠n) (λx:Bool=>x=true/\n∈l) (by omega) (λs y aO h1 hi hm=>?_) (λs ay=>by simp [ay])) λx j=>?_
 ·refine Tot.ba (λ_=>?_) (λh=>absurd h1 h);rw [hi];refine Tot.sm (Tot.ba (λe=>.ag ⟨rfl,e ▸ hm⟩) (λe=>.ag ⟨?_,e⟩));rw [cm]; omega
 ·rcases x with _ | x
  ·have j:∀ y∈l,y≠n:=j;exact .ag ⟨λh=>(by cases h),λh=>absurd rfl (j n h)⟩
  ·obtain ⟨rfl,hm⟩:x=true/\n∈l:=j;exact .ag ⟨λ_=>hm,λ_=>rfl⟩
structure pb (c:gX) (r:e8) (i b:Nat) (v cc:List Int):Prop where
 len:v.length=cc.length
 lo:c.cD.length<=cc.length
 Oh:∀ p∈r,b+p.At.toNat<cc.length
 hi:cc.length=c.cD.length\/∃ p∈r,cc.length=b+p.At.toNat+1
 kY:∀ p∈r,cc.getD (b+p.At.toNat) 0=(i:Int)+1
 D1:∀ k,(∀ p∈r,b+p.At.toNat≠k)->cc.getD k 0=c.cD.getD k 0
 val:∀ p∈r,v.getD (b+p.At.toNat) 0=p.cG
 FZ:∀ k,(∀ p∈r,b+p.At.toNat≠k)->v.getD k 0=c.cG.getD k 0
structure Step (r:e8) (i:Nat) (c j6:gX) (b:Nat):Prop where
 fit:Fit c.cD r b
 least:∀ dX,dX<b->¬ Fit c.cD r dX
 base:j6.dD=c.dD.set i (b:Int)
 put:pb c r i b j6.cG j6.cD
theorem MC {l m:List Int}(aj:l.length=m.length) (h:∀ k,l.getD k 0=m.getD k 0):l=m:=by
 apply List.ext_getElem aj;intro k h1 af;have:=h k;simpa [List.getD_eq_getElem?_getD,List.getElem?_eq_getElem h1,List.getElem?_eq_getElem af] using this
theorem Fit.same {kY:List Int}{r ck:e8}(h:∀ p,p∈r↔p∈ck) {b:Nat}:Fit kY r b↔Fit kY ck b :=
 ⟨λf p au=>f p ((h p).2 au),λf p au=>f p ((h p).1 au)⟩
theorem pb.A0 {c:gX}{r ck:e8}{i b:Nat}{v cc ef pX:List Int}(aj:c.cG.length=c.cD.length) (hm:∀ p,p∈r↔p∈ck) (h:pb c r i b v cc) (aI:pb c ck i b ef pX):v=ef/\cc=pX:=by
 have le:∀ {r ck:e8}{v cc ef pX:List Int},(∀ p,p∈r↔p∈ck)->pb c r i b v cc->pb c ck i b ef pX->pX.length<=cc.length:=by
  intro r ck v cc ef pX hm h aI;rcases aI.hi with e | ⟨p,au,e⟩
  ·rw [e]; exact h.lo
  ·have:=h.Oh p ((hm p).2 au); omega
 have hlen:cc.length=pX.length:=Nat.le_antisymm (le (λp=>(hm p).symm) aI h) (le hm h aI);refine ⟨MC (by rw [h.len,aI.len,hlen]) λk=>?_,MC hlen λk=>?_⟩
 ·by_cases hk:∃ p∈r,b+p.At.toNat=k
  ·obtain ⟨p,au,rfl⟩:=hk;rw [h.val p au,aI.val p ((hm p).1 au)]
  ·have hk:∀ p∈r,b+p.At.toNat≠k:=λp au e=>hk ⟨p,au,e⟩;rw [h.FZ k hk,aI.FZ k λp au=>hk p ((hm p).2 au)]
 ·by_cases hk:∃ p∈r,b+p.At.toNat=k
  ·obtain ⟨p,au,rfl⟩:=hk;rw [h.kY p au,aI.kY p ((hm p).1 au)]
  ·have hk:∀ p∈r,b+p.At.toNat≠k:=λp au e=>hk ⟨p,au,e⟩;rw [h.D1 k hk,aI.D1 k λp au=>hk p ((hm p).2 au)]
theorem Step.A0 {r ck:e8}{i b dX:Nat}{c c1 c2:gX}(aj:c.cG.length=c.cD.length) (hm:∀ p,p∈r↔p∈ck) (h:Step r i c c1 b) (aI:Step ck i c c2 dX):b=dX/\c1=c2:=by
 have av:b=dX:=by
  rcases Nat.lt_trichotomy b dX with aT | e | aT
  ·exact absurd ((Fit.same hm).1 h.fit) (aI.least b aT)
  ·exact e
  ·exact absurd ((Fit.same hm).2 aI.fit) (h.least dX aT)
 subst av;obtain ⟨cr,b9⟩:=h.put.A0 aj hm aI.put;refine ⟨rfl,?_⟩;cases c1; cases c2;simp only at cr b9;have h1:=h.base;have af:=aI.base;simp only at h1 af;subst cr b9 h1;rw [af]
inductive du (rows:List e8):List Nat->gX->Prop
 | nil:du rows [] ⟨List.replicate rows.length 0,[],[]⟩
 | cons {i b:Nat}{l:List Nat}{c j6:gX}{r:e8}(ah:rows[i]?=some r) (hi:i∉l) (h:du rows l c) (ay:Step r i c j6 b):du rows (i::l) j6
theorem du.len {rows:List e8}{l:List Nat}{c:gX}(h:du rows l c):c.cG.length=c.cD.length/\c.dD.length=rows.length:=by
 induction h with
 | nil=>simp
 | cons _ _ _ ay aM=>exact ⟨ay.put.len,by rw [ay.base,List.length_set]; exact aM.2⟩
theorem du.A0 {rows Kj:List e8}(aj:rows.length=Kj.length) (hm:∀ (i:Nat) (r ck:e8),rows[i]?=some r->Kj[i]?=some ck->∀ p,p∈r↔p∈ck) {l:List Nat}{c j6:gX}(h:du rows l c) (aI:du Kj l j6):c=j6:=by
 induction h generalizing j6 with
 | nil=>cases aI with | nil=>rw [aj]
 | cons ah hi h ay aM =>
  cases aI with
  | cons dM acO aI Wm =>
   have:=aM aI;subst this;exact (ay.A0 h.len.1 (hm _ _ _ ah dM) Wm).2
theorem du.rest {rows:List e8}{l:List Nat}{c:gX}(h:du rows l c):∀ J,J<rows.length->J∉l->c.dD[J]?=some 0:=by
 induction h with
 | nil=>intro J ai _; simp [ai]
 | @cons i b l c j6 r ah hi h ay aM =>
  intro J ai aA;rw [ay.base,List.getElem?_set_ne (by rintro rfl; exact aA (by simp))];exact aM J ai λbG=>aA (by simp [bG])
theorem pad (x y:Int) (K:Nat) (c6:aG (x+y)=(K:Int)) (acw:K<=1000000000) (v cc:List Int) (aj:v.length=cc.length) (av:cc.length<=1000000000) :
  Tot (b5 (R:=List Int × List Int) (λ(s:List Int × List Int) =>
(bif decide ((s.2.length:Int)<=aG (x+y)) then
(da s.2 [0]).bind λcT =>
(da s.1 [0]).bind λgm =>
some (.inl (s.1++[0],s.2++[0]))
else
some (.inr (s.1,s.2)))) (v,cc)) λr=>r.1.length=r.2.length/\r.2.length=max cc.length (K+1)/\(∀ k,r.1.getD k 0=v.getD k 0)/\∀ k,r.2.getD k 0=cc.getD k 0:=by
 have app:∀ (l:List Int) k,(l++[0]).getD k 0=l.getD k 0:=by
  intro l k;rw [List.getD_eq_getElem?_getD,List.getD_eq_getElem?_getD];by_cases hk:k<l.length
  ·rw [List.getElem?_append_left hk]
  ·rw [List.getElem?_append_right (by omega),List.getElem?_eq_none (l:=l) (by omega)];by_cases aO:k - l.length=0
   ·rw [aO]; rfl
   ·rw [List.getElem?_eq_none (by simp; omega)]
 refine Tot.loop (λs=>s.1.length=s.2.length/\cc.length<=s.2.length/\s.2.length<=max cc.length (K+1)/\(∀ k,s.1.getD k 0=v.getD k 0)/\∀ k,s.2.getD k 0=cc.getD k 0) (λs=>(K+1) - s.2.length) ⟨aj,Nat.le_refl _,Nat.le_max_left _ _,λ_=>rfl,λ_=>rfl⟩ (by show (K+1) - cc.length<1000000000000000000; omega) λs ay=>?_;obtain ⟨h1,af,aJ,bx,cu⟩:=ay;rw [c6];refine Tot.ba (λhle=>?_) (λacN=>.ag ⟨h1,?_,bx,cu⟩)
 ·refine .ar (Ξ:=λ_=>True) (Tot.ap (by simp [lim]; omega) trivial) λ_ _=>.ar (Ξ:=λ_=>True) (Tot.ap (by simp [lim]; omega) trivial) λ_ _=>.ag ⟨⟨?_,?_,?_,λk=>?_,λk=>?_⟩,?_⟩
  ·show (s.1++[0]).length=(s.2++[0]).length; simp [h1]
  ·show cc.length<=(s.2++[0]).length; simp; omega
  ·show (s.2++[0]).length<=_; simp; omega
  ·exact (app _ _).trans (bx k)
  ·exact (app _ _).trans (cu k)
  ·show (K+1) - (s.2++[0]).length<(K+1) - s.2.length;simp; omega
 ·show s.2.length=_; omega
theorem y9 (l:List Int) (K k:Nat) (x:Int) (h:K<l.length):(l.set K x).getD k 0=if k=K then x else l.getD k 0:=by
 rw [List.getD_eq_getElem?_getD,List.getElem?_set];by_cases e:k=K
 ·subst e; simp [h]
 ·simp [e,Ne.symm e,List.getD_eq_getElem?_getD]
theorem pb.more {c:gX}{r:e8}{p:dt}{i b:Nat}{v cc ef pX:List Int}(h:pb c r i b v cc) (au:∀ q∈r,q.At.toNat≠p.At.toNat) (aj:ef.length=pX.length) (hlen:pX.length=max cc.length (b+p.At.toNat+1)) (hv:∀ k,ef.getD k 0=v.getD k 0) (aa:∀ k,pX.getD k 0=cc.getD k 0) :
  pb c (r++[p]) i b (ef.set (b+p.At.toNat) p.cG) (pX.set (b+p.At.toNat) ((i:Int)+1)):=by
 have c6:b+p.At.toNat<pX.length:=by omega
 have mem:∀ {Q:dt->Prop},(∀ q∈r,Q q)->Q p->∀ q∈r++[p],Q q:=λh1 af q a7=>by
  rcases List.mem_append.1 a7 with a7 | a7
  ·exact h1 q a7
  ·rw [List.mem_singleton.1 a7]; exact af
 refine ⟨by simp [aj],?_,mem (λq a7=>?_) ?_,?_,mem (λq a7=>?_) ?_,λk hk=>?_,mem (λq a7=>?_) ?_,λk hk=>?_⟩
 ·rw [List.length_set]; have:=h.lo; omega
 ·rw [List.length_set]; have:=h.Oh q a7; omega
 ·rw [List.length_set]; exact c6
 ·rw [List.length_set];by_cases hm:cc.length<=b+p.At.toNat+1
  ·exact .inr ⟨p,by simp,by omega⟩
  ·rcases h.hi with e | ⟨q,a7,e⟩
   ·exact .inl (by omega)
   ·exact .inr ⟨q,by simp [a7],by omega⟩
 ·rw [y9 _ _ _ _ c6,if_neg (by have:=au q a7; omega),aa]; exact h.kY q a7
 ·rw [y9 _ _ _ _ c6,if_pos rfl]
 ·rw [y9 _ _ _ _ c6,if_neg (λe=>hk p (by simp) e.symm),aa]; exact h.D1 k λq a7=>hk q (by simp [a7])
 ·rw [y9 _ _ _ _ (by rw [aj]; exact c6),if_neg (by have:=au q a7; omega),hv]; exact h.val q a7
 ·rw [y9 _ _ _ _ (by rw [aj]; exact c6),if_pos rfl]
 ·rw [y9 _ _ _ _ (by rw [aj]; exact c6),if_neg (λe=>hk p (by simp) e.symm),hv]; exact h.FZ k λq a7=>hk q (by simp [a7])
theorem pb.nil (c:gX) (i b:Nat) (aj:c.cG.length=c.cD.length):pb c [] i b c.cG c.cD :=
 ⟨aj,Nat.le_refl _,λ_ h=>absurd h (by simp),.inl rfl,λ_ h=>absurd h (by simp),λ_ _=>rfl,λ_ h=>absurd h (by simp),λ_ _=>rfl⟩
theorem Fit.MD {kY:List Int}{r:e8}{b:Nat}(h:kY.length<=b):Fit kY r b:=λp _=>by
 rw [List.getD_eq_getElem?_getD,List.getElem?_eq_none (by omega)]; rfl
theorem P3 {r:e8}{k:Nat}(ah:kW r) (hk:k<r.length):∀ q∈r.take k,q.At.toNat≠(r[k]).At.toNat:=by
 intro q a7 e;obtain ⟨J,ai,rfl⟩:=List.mem_iff_getElem.1 a7;rw [List.length_take] at ai;have eU:J<r.length:=by omega
 rw [List.getElem_take] at e;have h1:=ah.at' _ (List.getElem_mem eU);have af:=ah.at' _ (List.getElem_mem hk);have fj:=ah.nd;have:=(List.getElem_inj (h₀:=by simpa using eU) (h₁:=by simpa using hk) fj).1 (by simp only [List.getElem_map]; omega);omega
structure pT (rows:List e8):Prop where
 n:rows.length<=400
 rows:∀ r∈rows,kW r
structure DJ (rows:List e8):Prop where
 n:rows.length<=1000
 r:∀ r∈rows,r.length<=1000
theorem Zg (rows:List e8) (e4:DJ rows) (i:Nat) (r:e8) (ah:rows[i]?=some r) (ns:kW r) (c:gX) (aa:c.cD.length<=900000) (aO:c.dD[i]?=some 0) (fits:List Int->e8->Int->Option Bool)
  (aS:∀ b:Nat,b<=1000000->Tot (fits c.cD r b) λx=>(x=true↔Fit c.cD r b)) :
  Tot (b5 (R:=List Int) (λ(dO:List Int) =>
(idx rows (i:Int)).bind λfM =>
(idx dO (i:Int)).bind λfl =>
(fits c.cD fM fl).bind λgl =>
(bif !gl then
(idx dO (i:Int)).bind λhX =>
some (.inl (dO.set (i:Int).toNat (aG (hX+1))))
else
some (.inr dO))) c.dD) λB=>∃ b:Nat,B=c.dD.set i (b:Int)/\Fit c.cD r b/\(∀ dX,dX<b->¬ Fit c.cD r dX)/\b<=c.cD.length:=by
 have oF:i<c.dD.length:=(List.getElem?_eq_some_iff.1 aO).1;have BA:idx rows (i:Int)=some r:=by simp [idx,ah]
 have Wp:c.dD=c.dD.set i 0:=by
  apply List.ext_getElem?;intro k;rw [List.getElem?_set];by_cases e:i=k
  ·subst e; rw [aO]; simp [oF]
  ·simp [e]
 have key:Tot (b5 (R:=List Int) (λ(dO:List Int) =>
(idx rows (i:Int)).bind λfM =>
(idx dO (i:Int)).bind λfl =>
(fits c.cD fM fl).bind λgl =>
(bif !gl then
(idx dO (i:Int)).bind λhX =>
some (.inl (dO.set (i:Int).toNat (aG (hX+1))))
else
some (.inr dO))) (c.dD.set i 0)) λB=>∃ b:Nat,B=c.dD.set i (b:Int)/\Fit c.cD r b/\(∀ dX,dX<b->¬ Fit c.cD r dX)/\b<=c.cD.length:=by
  refine Tot.loop (λs=>∃ b:Nat,s=c.dD.set i (b:Int)/\(∀ dX,dX<b->¬ Fit c.cD r dX)/\b<=c.cD.length) (λs=>c.cD.length+1 - (s.getD i 0).toNat) ⟨0,rfl,λdX h=>absurd h (Nat.not_lt_zero _),Nat.zero_le _⟩ (by show c.cD.length+1 - _<1000000000000000000; omega) λs ay=>?_;obtain ⟨b,rfl,aj,av⟩:=ay;have Wr:idx (c.dD.set i (b:Int)) (i:Int)=some (b:Int):=by
   simp [idx,oF]
  rw [BA,Wr];refine Tot.sm (Tot.sm (.ar (aS b (by omega)) λx j=>?_));refine Tot.bk (λh=>Tot.sm (.ag ⟨⟨b+1,?_,λdX hD=>?_,?_⟩,?_⟩)) (λh=>.ag ⟨b,rfl,j.1 (by simpa using h),aj,av⟩)
  ·have hw:aG ((b:Int)+1)=((b+1:Nat):Int):=by rw [cm]; omega
   rw [hw];show (c.dD.set i (b:Int)).set i _=_;rw [List.set_set]
  ·by_cases e:dX=b
   ·subst e;intro w_;rw [j.2 w_] at h; cases h
   ·exact aj dX (by omega)
  ·have:¬ c.cD.length<=b:=λaI=>by
    rw [j.2 (Fit.MD aI)] at h; cases h
   omega
  ·have hw:aG ((b:Int)+1)=((b+1:Nat):Int):=by rw [cm]; omega
   rw [hw];show c.cD.length+1 - ((((c.dD.set i (b:Int)).set i ((b+1:Nat):Int)).getD i 0).toNat)<c.cD.length+1 - ((c.dD.set i (b:Int)).getD i 0).toNat;rw [List.set_set];have g:∀ x:Int,(c.dD.set i x).getD i 0=x:=λx=>by simp [List.getD_eq_getElem?_getD,oF]
   rw [g,g];have:¬ c.cD.length<=b:=λaI=>by
    rw [j.2 (Fit.MD aI)] at h; cases h
   omega
 rw [<- Wp] at key;exact key
theorem YC (r:e8) (ns:kW r) (nZ:r.length<=1000) (i b:Nat) (hi:i<=100000) (c:gX) (hF:c.cG.length=c.cD.length) (aa:c.cD.length<=900000) (av:b<=c.cD.length)
  (f:List Int × List Int × Int->Option ((List Int × List Int × Int) ⊕ (List Int × List Int)))
  (aS:∀ (v cc:List Int) (k:Nat) (hk:k<r.length),f (v,cc,(k:Int))=(b5 (R:=List Int × List Int) (λ(s:List Int × List Int) =>
(bif decide ((s.2.length:Int)<=aG ((b:Int)+(r[k]).At)) then
(da s.2 [0]).bind λcT =>
(da s.1 [0]).bind λgm =>
some (.inl (s.1++[0],s.2++[0]))
else
some (.inr (s.1,s.2)))) (v,cc)).bind λgb =>
(idx gb.2 (aG ((b:Int)+(r[k]).At))).bind λo3 =>
(idx gb.1 (aG ((b:Int)+(r[k]).At))).bind λku =>
some (.inl (gb.1.set (aG ((b:Int)+(r[k]).At)).toNat (r[k]).cG,gb.2.set (aG ((b:Int)+(r[k]).At)).toNat (aG ((i:Int)+1)),aG ((k:Int)+1))))
  (he:∀ (v cc:List Int) (k:Int),¬ k<r.length->f (v,cc,k)=some (.inr (v,cc))) :
  Tot (b5 f (c.cG,c.cD,0)) λx=>pb c r i b x.1 x.2/\x.2.length<=c.cD.length+1000:=by
 refine Tot.count (λs=>s.2.2) r.length (λs=>∃ k:Nat,k<=r.length/\s.2.2=(k:Int)/\pb c (r.take k) i b s.1 s.2.1) ⟨0,Nat.zero_le _,rfl,pb.nil c i b hF⟩ (by show (r.length:Int) - 0<_; omega) λs ay=>?_;obtain ⟨v,cc,kJ⟩:=s;obtain ⟨k,hk,rfl,cb⟩:=ay;simp only at cb ⊢;by_cases aT:k<r.length
 ·rw [aS v cc k aT];have au:=ns.at' _ (List.getElem_mem aT);have c6:aG ((b:Int)+(r[k]).At)=((b+(r[k]).At.toNat:Nat):Int):=by rw [cm]; omega
  have acF:cc.length<=1000000:=by
   rcases cb.hi with e | ⟨q,a7,e⟩
   ·omega
   ·have:=ns.at' q (List.mem_of_mem_take a7);omega
  refine .ar (pad _ _ _ c6 (by omega) v cc cb.len (by omega)) λx j=>?_;obtain ⟨h1,af,aJ,bx⟩:=j;rw [c6];have p8:b+(r[k]).At.toNat<x.2.length:=by omega
  have ID:b+(r[k]).At.toNat<x.1.length:=by omega
  rw [ux p8,ux ID];have WJ:aG ((i:Int)+1)=(i:Int)+1:=by rw [cm]; omega
  have rW:aG ((k:Int)+1)=((k+1:Nat):Int):=by rw [cm]; omega
  rw [WJ,rW];refine Tot.sm (Tot.sm (.ag ⟨⟨k+1,by omega,rfl,?_⟩,?_,?_⟩))
  ·rw [List.take_add_one,List.getElem?_eq_getElem aT];exact cb.more (P3 ns aT) h1 af aJ bx
  ·grind
  grind
 ·rw [he v cc k (by omega)];have:k=r.length:=by omega
  subst this;rw [List.take_length] at cb;refine .ag ⟨cb,?_⟩;show cc.length<=c.cD.length+1000;rcases cb.hi with e | ⟨q,a7,e⟩
  ·omega
  ·have:=ns.at' q a7;omega
theorem kW.snoc {r:e8}{p:dt}(h:kW r) (au:0<=p.At/\p.At<=999) (aA:p.At∉r.map (·.At)):kW (r++[p]):=by
 refine ⟨λq a7=>?_,?_⟩
 ·rcases List.mem_append.1 a7 with a7 | a7
  ·exact h.at' q a7
  ·rw [List.mem_singleton.1 a7]; exact au
 ·rw [List.map_append,List.nodup_append];refine ⟨h.nd,by simp,λa aR b av e=>?_⟩;have av:b∈[p.At]:=av;rw [List.mem_singleton.1 av] at e;exact aA (e ▸ aR)
theorem kW.nil:kW []:=⟨λ_ h=>absurd h (by simp),by simp⟩
theorem kW.bad {r:e8}{k:Nat}(hk:k<r.length) (h:¬ (0<=(r[k]).At/\(r[k]).At<=999)\/(r[k]).At∈(r.take k).map (·.At)):¬ kW r:=by
 intro ah;rcases h with h | h
 ·exact h (ah.at' _ (List.getElem_mem hk))
 ·obtain ⟨q,a7,e⟩:=List.mem_map.1 h;exact P3 ah hk q a7 (by have e:q.At=(r[k]).At:=e; rw [e])
theorem Y3 {rows:List e8}{r:e8}(ah:r∈rows) (h:¬ kW r):¬ pT rows:=λbG=>h (bG.rows r ah)
theorem Ql {r:e8}{k:Nat}(h:k<r.length):r.take (k+1)=r.take k++[r[k]]:=by
 rw [List.take_add_one,List.getElem?_eq_getElem h]; rfl
theorem SA (rows:List e8) (e4:DJ rows):Tot (CM rows) λc=>(c=true↔pT rows):=by
 unfold CM;have aA:=e4.n;refine Tot.ba (λh=>.ag ⟨λh=>(by cases h),λbG=>by have:=bG.n; omega⟩) (λacg=>?_);refine Tot.ar (Tot.scan rows kW (λx:Bool=>x=false/\¬ pT rows) (by omega) (λs r aO h1 hi hm=>?_) (λs ay=>by simp [ay])) λx j=>?_
 ·refine Tot.ba (λ_=>?_) (λh=>absurd h1 h);have nZ:=e4.r r hm;refine .ar (Ξ:=gK (λ_=>kW r) (λx:Bool=>x=false/\¬ pT rows)) ?_ λx j=>?_
  ·refine Tot.count (λs=>s.2) r.length (λs=>∃ k:Nat,k<=r.length/\s.2=(k:Int)/\kW (r.take k)/\s.1=(r.take k).map (·.At)) ⟨0,Nat.zero_le _,rfl,kW.nil,rfl⟩ (by show (r.length:Int) - 0<_; omega) λs ay=>?_;obtain ⟨l,kJ⟩:=s;obtain ⟨k,hk,rfl,cX,rfl⟩:=ay;simp only;rw [hi];refine Tot.sm (Tot.ba (λaT=>?_) (λdC=>.ag ?_))
   ·have aT:k<r.length:=by omega
    have hw:aG ((k:Int)+1)=((k+1:Nat):Int):=by rw [cm]; omega
    rw [hw];simp only [Option.bind_some,ux aT];have IC:((r.take k).map (·.At)).length<=1000:=by rw [List.length_map,List.length_take]; omega
    refine .ar (Ξ:=λc=>(c=true↔(¬ (0<=(r[k]).At/\(r[k]).At<=999)\/(r[k]).At∈(r.take k).map (·.At)))) ?_ λc aa=>Tot.bk (λh=>.ag ⟨rfl,Y3 hm (kW.bad aT (aa.1 h))⟩) (λh=>?_)
    ·refine Tot.ba (λh=>.ag ⟨λ_=>.inl (by omega),λ_=>rfl⟩) (λh=>Tot.ba (λaI=>.ag ⟨λ_=>.inl (by omega),λ_=>rfl⟩) (λaI=>?_));have au:0<=(r[k]).At/\(r[k]).At<=999:=by omega
     refine .ar (SD _ (r[k]).At (by omega)) λc aa=>.ag ?_;rw [aa];exact ⟨λh=>.inr h,λh=>h.resolve_left λaA=>aA au⟩
    ·have VK:(0<=(r[k]).At/\(r[k]).At<=999)/\(r[k]).At∉(r.take k).map (·.At):=by
      refine ⟨Classical.byContradiction λaA=>?_,λaA=>?_⟩
      ·rw [aa.2 (.inl aA)] at h; cases h
      ·rw [aa.2 (.inr aA)] at h; cases h
     obtain ⟨au,aA⟩:=VK;refine .ar (Ξ:=λ_=>True) (Tot.ap (by simp [lim]; omega) trivial) λ_ _=>.ag ⟨⟨k+1,by omega,rfl,?_,?_⟩,?_,?_⟩
     ·rw [Ql aT]; exact cX.snoc au aA
     ·show (r.take k).map (·.At)++[(r[k]).At]=_;rw [Ql aT,List.map_append]; rfl
     ·show (k:Int)<((k+1:Nat):Int); omega
     ·show ((k+1:Nat):Int)<=_; omega
   ·have:k=r.length:=by omega
    subst this;rw [List.take_length] at cX;exact cX
  ·rcases x with _ | x
   ·exact .ag ⟨by rw [cm]; omega,j⟩
   ·exact .ag j
 ·rcases x with _ | x
  ·have j:∀ r∈rows,kW r:=j;exact .ag ⟨λ_=>⟨by omega,j⟩,λ_=>rfl⟩
  ·obtain ⟨rfl,av⟩:x=false/\¬ pT rows:=j;exact .ag ⟨λh=>(by cases h),λh=>absurd h av⟩
def jr (rows:List e8) (a:Int):Nat:=((idx rows a).map List.length).getD 0
def nB (rows:List e8) (a b:Int):Bool:=decide (jr rows b<jr rows a\/(jr rows a=jr rows b/\a<b))
theorem XG {rows:List e8}{a b:Int}:nB rows a b=true↔(jr rows b<jr rows a\/(jr rows a=jr rows b/\a<b)):=by simp [nB]
theorem Ck {rows:List e8}{a b:Int}:nB rows a b=false↔¬ (jr rows b<jr rows a\/(jr rows a=jr rows b/\a<b)):=by simp [nB]
theorem XH (rows:List e8):SWO (nB rows) where
 irrefl x:=by rw [Ck]; omega
 trans x y z h1 af:=by rw [XG] at *; omega
 ntrans x y z h1 af:=by rw [Ck] at *; omega
theorem XI {rows:List e8}{a b:Int}(h1:nB rows a b=false) (af:nB rows b a=false):a=b:=by
 rw [Ck] at *; omega
structure nJ (rows:List e8) (o:List Nat):Prop where
 mem:∀ i,i∈o↔∃ r,rows[i]?=some r/\r≠[]
 nd:o.Nodup
 C0:o.Pairwise λ(a b:Nat)=>nB rows (b:Int) (a:Int)=false
theorem nJ.uniq {rows:List e8}{o hn:List Nat}(h:nJ rows o) (aI:nJ rows hn):o=hn :=
 List.Perm.eq_of_pairwise (le:=λ(a b:Nat)=>nB rows (b:Int) (a:Int)=false) (λa b _ _ h1 af=>by have:=XI af h1; omega) h.C0 aI.C0 ((List.perm_ext_iff_of_nodup h.nd aI.nd).2 λi=>(h.mem i).trans (aI.mem i).symm)
theorem nJ.lt {rows:List e8}{o:List Nat}(h:nJ rows o) {i:Nat}(hi:i∈o):i<rows.length:=by
 obtain ⟨r,ah,_⟩:=(h.mem i).1 hi;exact (List.getElem?_eq_some_iff.1 ah).1
theorem nJ.len {rows:List e8}{o:List Nat}(h:nJ rows o):o.length<=rows.length:=by
 have:∀ (l m:List Nat),l.Nodup->(∀ x∈l,x∈m)->l.length<=m.length:=by
  intro l
  induction l with
  | nil=>intro m _ _; exact Nat.zero_le _
  | cons x l aM =>
   intro m aP hm;have j:=hm x (by simp);have mi:=List.nodup_cons.1 aP;have:=aM (m.erase x) mi.2 λy al=>(List.mem_erase_of_ne (λe=>mi.1 (by rw [<- e]; exact al))).2 (hm y (by simp [al]));have aj:=List.length_erase_of_mem j;have au:=List.length_pos_of_mem j;simp only [List.length_cons];omega
 have:=this o (List.range rows.length) h.nd λx j=>by simpa using h.lt j
 simpa using this
def XZ (cc:List Int):List Nat:=(List.range cc.length).filter λk=>decide (cc.getD k 0≠0)
def YW (rows:List e8) (i:Nat):Nat:=(rows[i]?.map List.length).getD 0
structure Inv (rows:List e8) (l:List Nat) (c:gX):Prop where
 own:∀ i∈l,∃ (r:e8) (b:Nat),rows[i]?=some r/\c.dD[i]?=some (b:Int)/\∀ p∈r,b+p.At.toNat<c.cD.length/\c.cD.getD (b+p.At.toNat) 0=(i:Int)+1/\c.cG.getD (b+p.At.toNat) 0=p.cG
 adG:∀ k,c.cD.getD k 0≠0->∃ i∈l,∃ (r:e8) (b:Nat),rows[i]?=some r/\c.dD[i]?=some (b:Int)/\∃ p∈r,k=b+p.At.toNat/\c.cD.getD k 0=(i:Int)+1
 zero:∀ k,c.cD.getD k 0=0->c.cG.getD k 0=0
 last:c.cD.length=0\/c.cD.getD (c.cD.length - 1) 0≠0
 least:∀ i∈l,∀ b:Nat,c.dD[i]?=some (b:Int)->∀ dX,dX<b->∃ (r:e8) (p:dt) (lW:Nat),rows[i]?=some r/\p∈r/\lW∈l/\nB rows (lW:Int) (i:Int)=true/\c.cD.getD (dX+p.At.toNat) 0=(lW:Int)+1
 hq:(XZ c.cD).length=(l.map (YW rows)).sum
def q0 (a b:dt):Bool:=decide (a.At<b.At)||(decide (a.At=b.At)&&decide (a.cG<b.cG))
theorem JH {a b:dt}:q0 a b=true↔(a.At<b.At\/(a.At=b.At/\a.cG<b.cG)):=by simp [q0]
theorem JI {a b:dt}:q0 a b=false↔¬ (a.At<b.At\/(a.At=b.At/\a.cG<b.cG)):=by
 rw [<- JH]; simp
theorem O9:Ord q0 where
 swo:=⟨λx=>by rw [JI]; omega,λx y z h1 af=>by rw [JH] at *; omega,λx y z h1 af=>by rw [JI] at *; omega⟩
 ja x y h1 af:=by
  rw [JI] at h1 af;obtain ⟨a6,x2⟩:=x;obtain ⟨bN,y2⟩:=y;simp only at h1 af;have:a6=bN:=by omega
  have:x2=y2:=by omega
  subst_vars; rfl
def so (T:List Tok) (p:dt):Prop:=∃ (k:Nat) (t:Tok),T[k]?=some t/\0<t.bL/\p=⟨t.bL,(k:Int)⟩
theorem so.val {T:List Tok}{p:dt}(h:so T p):∃ (k:Nat) (t:Tok),T[k]?=some t/\p.cG=(k:Int)/\p.At=t.bL/\0<t.bL:=by
 obtain ⟨k,t,h1,af,rfl⟩:=h;exact ⟨k,t,h1,rfl,rfl,af⟩
theorem Po {α:Type}(keep:α->Bool) (val:α->Int) {l:List α}(aj:l.length<=1000):kW (lf keep val l):=by
 refine ⟨λp au=>?_,?_⟩
 all_goals grind [JN,Yz]
theorem Sq (s:Source) (av:oo s):Tot (ql s) λr=>r.2.2.2=true->(∃ n,rq r.1 n r.2.1)/\tn r.1:=by
 refine (Par.ja (AQ s av) (Ψ:=λr=>r.2.2.2=true->tn r.1) ?_).use λr ah h=>⟨ah.1 h,ah.2 h⟩;have J3:Par (q7 s) λr=>r.2=true->tn r.1:=by
  unfold q7;exact .ar (Yh s av) λr ah=>.ag λh=>ah (of_decide_eq_true h)
 have J2:Par (q5 s) λr=>r.2.2=true->tn r.1:=by
  unfold q5;exact .ar J3 λr ah=>Par.bk (λ_=>.ag λh=>by cases h) (λh=>.ar (Ξ:=λ_=>True) (λ_ _=>trivial) λm _=>.ag λ_=>ah (by simpa using h))
 have J1:Par (qm s) λr=>r.2.2.2=true->tn r.1:=by
  unfold qm;exact .ar J2 λr ah=>Par.bk (λ_=>.ag λh=>by cases h) (λh=>.ar (Ξ:=λ_=>True) (λ_ _=>trivial) λsU _=>.ar (Ξ:=λ_=>True) (λ_ _=>trivial) λcs _=>.ag λ_=>ah (by simpa using h))
 unfold ql;exact .ar J1 λr ah=>Par.bk (λ_=>.ag λh=>by cases h) (λh=>.ar (Ξ:=λ_=>True) (λ_ _=>trivial) λ_ _=>.ar (Ξ:=λ_=>True) (λ_ _=>trivial) λ_ _=>.ag λ_=>ah (by simpa using h))
def kS (rows:List e8) (o:List Nat) (J:Nat):Prop:=J∉o/\∃ r,rows[J]?=some r/\r≠[]
theorem E8 {rows:List e8}{J:Nat}{r:e8}(h:rows[J]?=some r):jr rows (J:Int)=r.length:=by
 simp [jr,idx,h]
structure Gz (rows:List e8) (o:List Nat) (laid:List Bool) (c:gX):Prop where
 OD:du rows o.reverse c
 nd:o.Nodup
 ne:∀ i∈o,∃ r,rows[i]?=some r/\r≠[]
 XD:laid.length=rows.length
 ld:∀ J,J<rows.length->(laid.getD J false=true↔J∈o)
 C0:o.Pairwise λ(a b:Nat)=>nB rows (b:Int) (a:Int)=false
 LR:∀ i∈o,∀ J,kS rows o J->nB rows (J:Int) (i:Int)=false
 cl:c.cD.length<=1000 * o.length
theorem uA:∀ (l m:List Nat),l.Nodup->(∀ x∈l,x∈m)->l.length<=m.length
 | [],_,_,_=>Nat.zero_le _
 | x::l,m,aP,hm=>by
  have j:=hm x (by simp);have mi:=List.nodup_cons.1 aP;have:=uA l (m.erase x) mi.2 λy al=>(List.mem_erase_of_ne (λe=>mi.1 (by rw [<- e]; exact al))).2 (hm y (by simp [al]));have aj:=List.length_erase_of_mem j;have au:=List.length_pos_of_mem j;simp only [List.length_cons];omega
theorem Gz.ol {rows:List e8}{o:List Nat}{laid:List Bool}{c:gX}(h:Gz rows o laid c):o.length<=rows.length:=by
 have:=uA o (List.range rows.length) h.nd λx j=>by
  obtain ⟨r,ah,_⟩:=h.ne x j;simpa using (List.getElem?_eq_some_iff.1 ah).1
 simpa using this
theorem St (rows:List e8) (e4:DJ rows):Tot (vY rows) λc=>(¬ pT rows->c=⟨[],[],[]⟩)/\(pT rows->∃ o,nJ rows o/\du rows o.reverse c):=by
 unfold vY;refine .ar (SA rows e4) λa6 h1=>Tot.bk (λh=>.ag ⟨λ_=>rfl,λcX=>by rw [h1.2 cX] at h; cases h⟩) (λh=>?_);have cX:pT rows:=h1.1 (by simpa using h);refine Tot.use (Ψ:=λc=>∃ o,nJ rows o/\du rows o.reverse c) ?_ λc aa=>⟨λaA=>absurd cX aA,λ_=>aa⟩;have aA:=cX.n;refine .ar (Ξ:=λl=>l=List.replicate rows.length 0) (Tot.mk (by simp [lim]; omega) (by simp)) λaX aJ=>?_;subst aJ;refine .ar (Ξ:=λl=>l=List.replicate rows.length false) (Tot.mk (by simp [lim]; omega) (by simp)) λbR bx=>?_;subst bx;refine Tot.ar (Ξ:=gK (λ_=>False) (λc=>∃ o,nJ rows o/\du rows o.reverse c)) ?_ λx j=>by
  rcases x with x | x
  ·exact j.elim
  ·exact .ag j
 refine Tot.loop (λs=>∃ o,Gz rows o s.2 s.1) (λs=>(s.2.filter λb=>!b).length) ⟨[],.nil,List.nodup_nil,λ_ h=>absurd h (by simp),by simp,λJ ai=>by simp [List.getD_eq_getElem?_getD,ai],.nil,λ_ h=>absurd h (by simp),Nat.le_refl 0⟩ (by
  show ((List.replicate rows.length false).filter λb=>!b).length<1000000000000000000;refine Nat.lt_of_le_of_lt (List.length_filter_le _ _) ?_;rw [List.length_replicate]; omega) λs ay=>?_
 obtain ⟨c,laid⟩:=s;obtain ⟨o,cb⟩:=ay;simp only at cb ⊢;have xd:=cb.ol;have IC:=cb.XD
 -- which is next
 refine .ar (Ξ:=λx:Int=>(x=-1/\∀ J,¬ kS rows o J)\/∃ i:Nat,x=(i:Int)/\kS rows o i/\∀ J,kS rows o J->nB rows (J:Int) (i:Int)=false) ?_ λbF rH=>?_
 ·refine Tot.count (λs=>s.2) rows.length (λs=>∃ k:Nat,k<=rows.length/\s.2=(k:Int)/\((s.1=-1/\∀ J,J<k->¬ kS rows o J)\/∃ i:Nat,s.1=(i:Int)/\i<k/\kS rows o i/\∀ J,J<k->kS rows o J->nB rows (J:Int) (i:Int)=false)) ⟨0,Nat.zero_le _,rfl,.inl ⟨rfl,λJ ai=>absurd ai (Nat.not_lt_zero _)⟩⟩ (by show (rows.length:Int) - 0<_; omega) λs ay=>?_;obtain ⟨x,kJ⟩:=s;obtain ⟨k,hk,rfl,bn⟩:=ay;simp only at bn ⊢;have hw:aG ((k:Int)+1)=((k+1:Nat):Int):=by rw [cm]; omega
  rw [hw];refine Tot.ba (λaT=>?_) (λdC=>.ag ?_)
  ·have aT:k<rows.length:=by omega
   have sJ:rows[k]?=some rows[k]:=List.getElem?_eq_getElem aT;have VU:idx laid (k:Int)=some (laid.getD k false):=by
    have:k<laid.length:=by omega
    rw [ux this,List.getD_eq_getElem?_getD,List.getElem?_eq_getElem this]; rfl
   refine .ar (Ξ:=λy:Int=>(y=-1/\∀ J,J<k+1->¬ kS rows o J)\/∃ i:Nat,y=(i:Int)/\i<k+1/\kS rows o i/\∀ J,J<k+1->kS rows o J->nB rows (J:Int) (i:Int)=false) ?_ λy al=>.ag ⟨⟨k+1,by omega,rfl,al⟩,?_,?_⟩
   ·have skip:¬ kS rows o k->(x=-1/\∀ J,J<k+1->¬ kS rows o J)\/∃ i:Nat,x=(i:Int)/\i<k+1/\kS rows o i/\∀ J,J<k+1->kS rows o J->nB rows (J:Int) (i:Int)=false:=by
     intro cA;rcases bn with ⟨e,h⟩ | ⟨i,e,hi,he,h⟩
     ·refine .inl ⟨e,λJ ai=>?_⟩;by_cases fA:J=k
      ·rw [fA]; exact cA
      ·exact h J (by omega)
     ·refine .inr ⟨i,e,by omega,he,λJ ai vl=>?_⟩;by_cases fA:J=k
      ·rw [fA] at vl; exact absurd vl cA
      ·exact h J (by omega) vl
    refine .ar (Ξ:=λc=>(c=true->kS rows o k/\(x=-1\/∃ i:Nat,x=(i:Int)/\jr rows (i:Int)<jr rows (k:Int)))/\(c=false->¬ kS rows o k\/∃ i:Nat,x=(i:Int)/\jr rows (k:Int)<=jr rows (i:Int))) ?_ λab2 aa=>.ar (Ξ:=λy:Int=>(y=-1/\∀ J,J<k+1->¬ kS rows o J)\/∃ i:Nat,y=(i:Int)/\i<k+1/\kS rows o i/\∀ J,J<k+1->kS rows o J->nB rows (J:Int) (i:Int)=false) (Tot.bk (λh=>.ag ?_) (λh=>.ag ?_)) λy al=>.ag al
    ·rw [VU];refine Tot.sm (Tot.bk (λaj=>?_) (λaj=>.ag ⟨λh=>(by cases h),λ_=>.inl λhe=>he.1 ((cb.ld k aT).1 (by simpa using aj))⟩));have VT:k∉o:=λh=>by rw [(cb.ld k aT).2 h] at aj; cases aj
     rw [ux aT];refine Tot.sm (Tot.ba (λau=>?_) (λau=>.ag ⟨λh=>(by cases h),λ_=>.inl λ⟨_,r,ah,cA⟩=>?_⟩))
     ·have ug:kS rows o k:=⟨VT,_,sJ,λe=>by rw [e] at au; simp at au⟩;refine Tot.ba (λj=>.ag ⟨λ_=>⟨ug,.inl ?_⟩,λh=>(by cases h)⟩) (λj=>?_)
      ·rcases bn with ⟨e,_⟩ | ⟨i,e,_⟩
       ·exact e
       ·omega
      ·rcases bn with ⟨e,_⟩ | ⟨i,e,hi,⟨_,r,ah,_⟩,_⟩
       ·omega
       ·subst e;have oF:i<rows.length:=by omega
        rw [ux oF];refine Tot.sm (Tot.sm (.ag ⟨λh=>⟨ug,.inr ⟨i,rfl,?_⟩⟩,λh=>.inr ⟨i,rfl,?_⟩⟩))
        ·rw [E8 sJ,E8 (List.getElem?_eq_getElem oF)];have:=of_decide_eq_true h;omega
        ·rw [E8 sJ,E8 (List.getElem?_eq_getElem oF)];have:=of_decide_eq_false h;omega
     ·rw [sJ] at ah; cases ah;have:(rows[k]).length≠0:=λe=>cA (List.eq_nil_of_length_eq_zero e);omega
    ·obtain ⟨ug,Ia⟩:=aa.1 h;refine .inr ⟨k,rfl,by omega,ug,λJ ai vl=>?_⟩;by_cases fA:J=k
     ·rw [fA]; exact (XH rows).irrefl _
     ·rcases bn with ⟨e,aI⟩ | ⟨i,e,hi,he,aI⟩
      ·exact absurd vl (aI J (by omega))
      ·rcases Ia with b_ | ⟨lW,b_,aj⟩
       ·omega
       ·have:i=lW:=by omega
        subst this;have:=aI J (by omega) vl;rw [Ck] at this ⊢;omega
    ·rcases aa.2 h with cA | ⟨lW,b_,aj⟩
     ·exact skip cA
     ·rcases bn with ⟨e,aI⟩ | ⟨i,e,hi,he,aI⟩
      ·omega
      ·have:i=lW:=by omega
       subst this;refine .inr ⟨i,e,by omega,he,λJ ai vl=>?_⟩;by_cases fA:J=k
       ·subst fA;rw [Ck]; omega
       ·exact aI J (by omega) vl
   ·show (k:Int)<((k+1:Nat):Int); omega
   ·show ((k+1:Nat):Int)<=_; omega
  ·have dT:k=rows.length:=by omega
   have ug:∀ J,kS rows o J->J<k:=λJ ⟨_,r,ah,_⟩=>by
    have:=(List.getElem?_eq_some_iff.1 ah).1; omega
   rcases bn with ⟨e,h⟩ | ⟨i,e,hi,he,h⟩
   ·exact .inl ⟨e,λJ ai=>h J (ug J ai) ai⟩
   ·exact .inr ⟨i,e,he,λJ ai=>h J (ug J ai) ai⟩
 rcases rH with ⟨rfl,V7⟩ | ⟨i,rfl,ug,Ia⟩
 ·refine Tot.bk (λ_=>.ag ⟨o,⟨λi=>⟨cb.ne i,λ⟨r,ah,cA⟩=>Classical.byContradiction λhi=>V7 i ⟨hi,r,ah,cA⟩⟩,cb.nd,cb.C0⟩,cb.OD⟩) (λh=>absurd h (by decide))
 ·refine Tot.ba (λh=>by omega) (λ_=>?_);obtain ⟨Ex,r,ah,NV⟩:=ug;have oF:i<rows.length:=(List.getElem?_eq_some_iff.1 ah).1;have Is:i<laid.length:=by omega
  rw [ux Is];have uk:r∈rows:=List.mem_of_getElem? ah;have ns:=cX.rows r uk;have nZ:=e4.r r uk;have hF:=cb.cl;have iy:=cb.OD;have NM:i∉o.reverse:=by rw [List.mem_reverse]; exact Ex
  have hlen:=iy.len;refine Tot.sm (.ar (Zg rows e4 i r ah ns c (by omega) (iy.rest i oF NM) zU λb av=>SB c.cD r b ns.at' (by omega) (by omega) (by omega)) λB Ug=>?_);obtain ⟨b,rfl,w_,VV,p6⟩:=Ug;have BA:idx rows (i:Int)=some r:=by simp [idx,ah]
  rw [BA];refine .ar (YC r ns nZ i b (by omega) c hlen.1 (by omega) p6 _ (λv cc k hk=>?_) (λv cc k hk=>?_)) λx j=>?_
  ·have Vj:idx (c.dD.set i (b:Int)) (i:Int)=some (b:Int):=by
    have:i<c.dD.length:=by omega
    simp [idx,this]
   have aP:decide ((k:Int)<(r.length:Int))=true:=decide_eq_true (by omega);simp only [Option.bind_some,aP,cond_true,ux hk,Vj]
  ·have aP:decide ((k:Int)<(r.length:Int))=false:=decide_eq_false hk;simp only [Option.bind_some,aP,cond_false]
  ·obtain ⟨UC,aj⟩:=j;have kG:(laid.set i true).length=rows.length:=by rw [List.length_set]; exact IC
   refine .ag ⟨⟨o++[i],?_,?_,λa aR=>?_,kG,λJ ai=>?_,?_,λa aR J ai=>?_,?_⟩,?_⟩
   ·rw [List.reverse_append];exact .cons ah NM iy ⟨w_,VV,rfl,UC⟩
   ·rw [List.nodup_append];exact ⟨cb.nd,by simp,λa aR b av e=>Ex (by rw [<- List.mem_singleton.1 av,<- e]; exact aR)⟩
   ·rcases List.mem_append.1 aR with aR | aR
    ·exact cb.ne a aR
    ·rw [List.mem_singleton.1 aR]; exact ⟨r,ah,NV⟩
   ·show ((laid.set i true).getD J false=true↔_);rw [List.getD_eq_getElem?_getD,List.getElem?_set,List.mem_append,List.mem_singleton];by_cases e:i=J
    ·subst e;simp [Is]
    ·rw [if_neg e,<- List.getD_eq_getElem?_getD,cb.ld J ai];constructor
     ·exact .inl
     ·rintro (h | h)
      ·exact h
      ·exact absurd h.symm e
   ·rw [List.pairwise_append];exact ⟨cb.C0,List.pairwise_singleton _ _,λa aR b av=>by rw [List.mem_singleton.1 av]; exact cb.LR a aR i ⟨Ex,r,ah,NV⟩⟩
   ·have vk:kS rows o J:=⟨λh=>ai.1 (by simp [h]),ai.2⟩;rcases List.mem_append.1 aR with aR | aR
    ·exact cb.LR a aR J vk
    ·rw [List.mem_singleton.1 aR]; exact Ia J vk
   ·show x.2.length<=1000 * (o++[i]).length;simp; omega
   ·show ((laid.set i true).filter λb=>!b).length<(laid.filter λb=>!b).length;have VD:laid.getD i false=false:=by
     cases h:laid.getD i false with
     | false=>rfl
     | true=>exact absurd ((cb.ld i oF).1 h) Ex
    have key:∀ (l:List Bool) (i:Nat),i<l.length->l.getD i false=false->((l.set i true).filter λb=>!b).length<(l.filter λb=>!b).length:=by
     intro l
     induction l with
     | nil=>intro i hi; simp at hi
     | cons y l aM =>
      intro i hi aO;cases i with
      | zero =>
       have:y=false:=by simpa using aO
       subst this;simp
      | succ i =>
       have:=aM i (by simpa using hi) (by simpa using aO);simp only [List.set_cons_succ];cases y <;> simp <;> omega
    exact key laid i Is VD
theorem Sv (g:bt) (aj:g.a1.length<=1000):Tot (CJ g) λl=>eQ q0 l/\∀ p,p∈l↔so g.a1 p:=by
 unfold CJ;refine .ar (Ξ:=λl:List Int=>eQ hR l/\l.length<=1000/\∀ x,x∈l↔∃ (k:Nat) (t:Tok),g.a1[k]?=some t/\0<t.bL/\x=t.bL) ?_ λl aj=>?_
 ·refine Tot.upto (λs=>s.2) g.a1.length (λk s=>eQ hR s.1/\s.1.length<=k/\∀ x,x∈s.1↔∃ (J:Nat) (t:Tok),g.a1[J]?=some t/\0<t.bL/\x=t.bL/\J<k) rfl (by omega) ⟨.nil,Nat.le_refl 0,λp=>⟨λh=>(by cases h),λ⟨J,t,h⟩=>by omega⟩⟩ λk s hk he bb=>?_;obtain ⟨l,i⟩:=s;obtain ⟨h1,af,aJ⟩:=bb;simp only at he h1 af aJ ⊢;subst he;rw [eA k (by omega)];refine Tot.ba (λaT=>?_) (λdC=>.ag ⟨h1,by omega,λx=>(aJ x).trans ⟨λ⟨J,t,a,b,c,_⟩=>⟨J,t,a,b,c⟩,λ⟨J,t,a,b,c⟩=>⟨J,t,a,b,c,?_⟩⟩⟩)
  ·have aT:k<g.a1.length:=by omega
   rw [ea aT];have nW:g.a1[k]?=some g.a1[k]:=List.getElem?_eq_getElem aT;simp only [Option.bind_some];refine .ar (Ξ:=λo:List Int=>eQ hR o/\o.length<=k+1/\∀ x,x∈o↔∃ (J:Nat) (t:Tok),g.a1[J]?=some t/\0<t.bL/\x=t.bL/\J<k+1) ?_ λo aU=>.ag ⟨aT,rfl,aU⟩;refine .ar (Ξ:=λo:List Int=>eQ hR o/\o.length<=k+1/\∀ x,x∈o↔∃ (J:Nat) (t:Tok),g.a1[J]?=some t/\0<t.bL/\x=t.bL/\J<k+1) ?_ λo aU=>.ag aU;refine Tot.ba (λau=>.ar (AW l _ h1 (by omega)) λr ah=>.ag ⟨ah.1,by have:=ah.2.1; omega,λx=>?_⟩) (λau=>.ag ⟨h1,by omega,λx=>?_⟩)
   ·grind
   grind
  grind
 ·obtain ⟨aR,aA,hm⟩:=aj;refine .ar (Ξ:=λl:List dt=>eQ q0 l/\∀ p,p∈l↔so g.a1 p) ?_ λr ah=>.ag ah;refine Tot.upto (λs=>s.2) l.length (λk s=>eQ q0 s.1/\s.1.length<=1000 * k/\∀ p,p∈s.1↔(so g.a1 p/\p.At∈l.take k)) rfl (by omega) ⟨.nil,Nat.le_refl 0,λp=>⟨λh=>(by cases h),λh=>(by simp at h)⟩⟩ λk s hk he bb=>?_;obtain ⟨out,i⟩:=s;obtain ⟨h1,af,aJ⟩:=bb;simp only at he h1 af aJ ⊢;subst he;rw [eA k (by omega)];refine Tot.ba (λaT=>?_) (λdC=>.ag ⟨h1,λp=>(aJ p).trans ⟨λh=>h.1,λh=>⟨h,?_⟩⟩⟩)
  ·have aT:k<l.length:=by omega
   have j:∃ x,x=l[k]:=⟨_,rfl⟩;obtain ⟨x,j⟩:=j;have vD:x∈l:=by rw [j]; exact List.getElem_mem aT
   obtain ⟨_,_,_,jF,_⟩:=(hm x).1 vD;have fu:l.take (k+1)=l.take k++[x]:=by rw [List.take_add_one,List.getElem?_eq_getElem aT,j]; rfl
   have lz:∀ y∈l.take k,y<x:=λy al=>by
    obtain ⟨J,ai,rfl⟩:=List.mem_iff_getElem.1 al;rw [List.length_take] at ai;rw [List.getElem_take,j];exact JJ.1 (GK aR (by omega) aT (by omega))
   refine .ar (Ξ:=λo:List dt=>eQ q0 o/\o.length<=1000 * (k+1)/\∀ p,p∈o↔(so g.a1 p/\p.At∈l.take (k+1))) ?_ λo aU=>.ag ⟨aT,rfl,aU⟩;refine Tot.upto (λs=>s.2) g.a1.length (λJ s=>eQ q0 s.1/\s.1.length<=1000 * k+J/\∀ p,p∈s.1↔(so g.a1 p/\(p.At∈l.take k\/(p.At=x/\p.cG<(J:Int))))) rfl (by omega) ⟨h1,by show out.length<=1000 * k+0; omega,λp=>(aJ p).trans ⟨λh=>⟨h.1,.inl h.2⟩,λh=>⟨h.1,h.2.elim id λaI=>?_⟩⟩⟩ λJ s ai he bb=>?_
   ·obtain ⟨i,t,_,e,_⟩:=h.1.val;omega
   obtain ⟨o,i⟩:=s;obtain ⟨g1,g2,g3⟩:=bb;simp only at he g1 g2 g3 ⊢;subst he;rw [eA J (by omega)];refine Tot.ba (λp8=>?_) (λdC=>.ag ⟨g1,by omega,λp=>(g3 p).trans ?_⟩)
   ·have p8:J<g.a1.length:=by omega
    rw [ea p8,ea aT,<- j];have nW:g.a1[J]?=some g.a1[J]:=List.getElem?_eq_getElem p8;simp only [Option.bind_some];refine .ar (Ξ:=λo:List dt=>eQ q0 o/\o.length<=1000 * k+(J+1)/\∀ p,p∈o↔(so g.a1 p/\(p.At∈l.take k\/(p.At=x/\p.cG<((J+1:Nat):Int))))) ?_ λo aU=>.ag ⟨p8,rfl,aU⟩;refine .ar (Ξ:=λo:List dt=>eQ q0 o/\o.length<=1000 * k+(J+1)/\∀ p,p∈o↔(so g.a1 p/\(p.At∈l.take k\/(p.At=x/\p.cG<((J+1:Nat):Int))))) ?_ λo aU=>.ag aU;refine Tot.ba (λau=>.ar (Ξ:=λ_=>True) (Tot.ap (by simp [lim]; omega) trivial) λ_ _=>.ag ⟨?_,by simp; omega,λp=>?_⟩) (λau=>.ag ⟨g1,by omega,λp=>(g3 p).trans ?_⟩)
    ·refine List.pairwise_append.2 ⟨g1,List.pairwise_singleton ..,λa aR b av=>?_⟩
     grind [JH]
    ·rw [List.mem_append,List.mem_singleton,g3];constructor
     ·rintro (⟨h,aI | ⟨aI,fT⟩⟩ | rfl)
      ·grind
      ·grind
      ·exact ⟨⟨J,_,nW,by omega,by rw [au]⟩,.inr ⟨rfl,by show (J:Int)<((J+1:Nat):Int); omega⟩⟩
     ·rintro ⟨h,aI | ⟨aI,fT⟩⟩
      ·grind
      ·by_cases e:p.cG=(J:Int)
       ·right;obtain ⟨a,b⟩:=p
        grind
       grind
    ·constructor
     ·grind
     ·rintro ⟨h,aI | ⟨aI,fT⟩⟩
      ·grind
      ·refine ⟨h,.inr ⟨aI,?_⟩⟩;obtain ⟨i,t,cr,b9,fi,_⟩:=h.val
       grind
   ·rw [fu,List.mem_append,List.mem_singleton];constructor
    ·grind
    ·rintro ⟨h,aI | aI⟩
     ·grind
     ·obtain ⟨i,t,cr,b9,fi,_⟩:=h.val
      grind
  ·rw [List.take_of_length_le (by omega),hm];obtain ⟨i,t,cr,b9,fi,ph⟩:=h.val
   grind
theorem L1 (l:List Row) (aj:l.length<=200) (ah:∀ r∈l,kW r.h4/\r.h4.length<=1000):Tot ((xR l).bind λx=>(vY x.2).bind λc=>some (x.1,c)) λr=>r.1=l.map (·.Def)/\∃ o,nJ (l.map (·.h4)) o/\du (l.map (·.h4)) o.reverse r.2:=by
 unfold xR;refine .ar (Ξ:=λs:List Int × List (List dt)=>s.1=l.map (·.Def)/\s.2=l.map (·.h4)) ?_ λs ay=>?_
 ·refine .ar (Ξ:=λs:List Int × List (List dt)=>s.1=l.map (·.Def)/\s.2=l.map (·.h4)) ?_ λs ay=>.ag ay;refine Tot.upto (λs=>s.2.2) l.length (λk s=>s.1=(l.take k).map (·.Def)/\s.2.1=(l.take k).map (·.h4)) rfl (by omega) ⟨rfl,rfl⟩ λk s hk he bb=>?_;obtain ⟨A,B,i⟩:=s;obtain ⟨h1,af⟩:=bb;simp only at he h1 af ⊢;subst he h1 af;rw [eA k (by omega)];refine Tot.ba (λaT=>?_) (λdC=>.ag ?_)
  ·have aT:k<l.length:=by omega
   rw [ea aT];refine Tot.sm (.ar (Ξ:=λ_=>True) (Tot.ap (by simp [lim]; omega) trivial) λ_ _=>Tot.sm (.ar (Ξ:=λ_=>True) (Tot.ap (by simp [lim]; omega) trivial) λ_ _=>.ag ⟨aT,rfl,?_,?_⟩))
   ·show _=(l.take (k+1)).map _;rw [kr aT,List.map_append]; rfl
   ·show _=(l.take (k+1)).map _;rw [kr aT,List.map_append]; rfl
  ·have e:l.take k=l:=List.take_of_length_le (by omega);rw [e]; exact ⟨rfl,rfl⟩
 ·obtain ⟨h1,af⟩:=ay;rw [af];have cX:pT (l.map (·.h4)):=⟨by simp; omega,λr dM=>by
   obtain ⟨q,a7,rfl⟩:=List.mem_map.1 dM;exact (ah q a7).1⟩
  have e4:DJ (l.map (·.h4)):=⟨by simp; omega,λr dM=>by
   obtain ⟨q,a7,rfl⟩:=List.mem_map.1 dM;exact (ah q a7).2⟩
  exact .ar (St _ e4) λc aa=>.ag ⟨h1,aa.2 cX⟩
structure yO (g:bt) (d:im) (t:Tables):Prop where
 Hk:t.Def=(d.dx.map uJ).map (·.Def)
 gd:t.o9=((List.range g.bY.length).map λa=>uK (gO d a)).map (·.Def)
 ac:∃ o,nJ ((d.dx.map uJ).map (·.h4)) o/\du ((d.dx.map uJ).map (·.h4)) o.reverse t.dx
 go:∃ o,nJ (((List.range g.bY.length).map λa=>uK (gO d a)).map (·.h4)) o/\du (((List.range g.bY.length).map λa=>uK (gO d a)).map (·.h4)) o.reverse t.gJ
 le:t.Left=g.bd.map (·.Left)
 lD:t.o_=g.bd.map λp=>(p.e2.length:Int)
 nF:eQ q0 t.h3/\∀ p,p∈t.h3↔so g.a1 p
theorem OE {rows:List e8}{c j6:gX}(h:∃ o,nJ rows o/\du rows o.reverse c) (aI:∃ o,nJ rows o/\du rows o.reverse j6):c=j6:=by
 obtain ⟨o,h1,af⟩:=h;obtain ⟨hn,mH,HF⟩:=aI;rw [h1.uniq mH] at af;exact af.A0 rfl (λi r ck e b_ p=>by rw [e] at b_; cases b_; exact Iff.rfl) HF
theorem yO.eq {g:bt}{d:im}{t t':Tables}(h:yO g d t) (aI:yO g d t'):t=t':=by
 obtain ⟨aB,a2,a3,a4,a5,Rm,Rn⟩:=t;obtain ⟨hg,h5,kD,yU,GN,R4,R5⟩:=t';have cr:aB=hg:=h.Hk.trans aI.Hk.symm;have b9:a2=h5:=OE h.ac aI.ac;have fi:a3=kD:=h.gd.trans aI.gd.symm;have ph:a4=yU:=OE h.go aI.go;have qO:a5=GN:=h.le.trans aI.le.symm;have ab':Rm=R4:=h.lD.trans aI.lD.symm;have aca:Rn=R5:=h.nF.1.uniq O9 aI.nF.1 λp=>(h.nF.2 p).trans (aI.nF.2 p).symm
 grind
theorem PE {g:bt}{n:Nat}{d:im}(aP:rq g n d):∀ r∈d.dx.map uJ,kW r.h4/\r.h4.length<=1000:=λr ah=>by
 have aq:=aP.rG.kf;obtain ⟨q,a7,rfl⟩:=List.mem_map.1 ah;have aj:=(aP.kB q a7).1;have:=FA (qY (n5 (red q))) ox q;exact ⟨Po _ _ (by omega),by show (lf _ _ q).length<=_; omega⟩
theorem PF {g:bt}{n:Nat}{d:im}(aP:rq g n d):∀ r∈(List.range g.bY.length).map (λa=>uK (gO d a)),kW r.h4/\r.h4.length<=1000:=λr ah=>by
 have k6:=aP.gU;have xd:=aP.o;obtain ⟨a,_,rfl⟩:=List.mem_map.1 ah;have aj:=D2 d a;have:=FA (r8 (n5 (pos (gO d a)))) id (gO d a);exact ⟨Po _ _ (by omega),by show (lf _ _ (gO d a)).length<=_; omega⟩
theorem AR (g:bt) (n:Nat) (d:im) (aP:rq g n d):Tot (vW g d) (yO g d):=by
 have aN:=aP.rG;have aq:=aN.kf;have kF:=aN.de;have xf:=aN.ih;have k6:=aP.gU;have tU:=aP.a;have xd:=aP.o;unfold vW;refine .ar (Ss g n d aP) λa6 h1=>?_;subst h1;obtain ⟨r,ah,af⟩:=L1 _ (by simp; omega) (PE aP);rw [Option.bind_eq_some_iff] at ah;obtain ⟨y2,wV,ah⟩:=ah;rw [Option.bind_eq_some_iff] at ah;obtain ⟨ew,TA,ah⟩:=ah;cases ah;rw [wV,Option.bind_some,TA];refine Tot.sm (.ar (Su g n d aP) λaX aJ=>?_);subst aJ;obtain ⟨r,ah,bx⟩:=L1 _ (by simp; omega) (PF aP);rw [Option.bind_eq_some_iff] at ah;obtain ⟨dz,TB,ah⟩:=ah;rw [Option.bind_eq_some_iff] at ah;obtain ⟨hJ,TC,ah⟩:=ah;cases ah;rw [TB,Option.bind_some,TC];refine Tot.sm (.ar (Ξ:=λs:List Int × List Int=>s.1=g.bd.map (·.Left)/\s.2=g.bd.map λp=>(p.e2.length:Int)) ?_ λbC dL=>.ar (Sv g (by omega)) λdJ jj=>.ag ⟨af.1,bx.1,af.2,bx.2,dL.1,dL.2,jj.1,jj.2⟩);refine Tot.upto (λs=>s.2.2) g.bd.length (λk s=>s.1=(g.bd.take k).map (·.Left)/\s.2.1=(g.bd.take k).map λp=>(p.e2.length:Int)) rfl (by omega) ⟨rfl,rfl⟩ λk s BB he bb=>?_;obtain ⟨A,B,i⟩:=s;obtain ⟨h1,af⟩:=bb;simp only at he h1 af ⊢;subst he h1 af;rw [eA k (by omega)];refine Tot.ba (λaT=>?_) (λdC=>.ag ?_)
 ·have aT:k<g.bd.length:=by omega
  rw [ea aT];refine Tot.sm (.ar (Ξ:=λ_=>True) (Tot.ap (by simp [lim]; omega) trivial) λ_ _=>Tot.sm (.ar (Ξ:=λ_=>True) (Tot.ap (by simp [lim]; omega) trivial) λ_ _=>.ag ⟨aT,rfl,?_,?_⟩))
  ·show _=(g.bd.take (k+1)).map _;rw [kr aT,List.map_append]; rfl
  ·show _=(g.bd.take (k+1)).map _;rw [kr aT,List.map_append]; rfl
 ·have e:g.bd.take k=g.bd:=List.take_of_length_le (by omega);rw [e]; exact ⟨rfl,rfl⟩
def DM (s:Source) (g:bt):Prop:=(∀ t∈g.a1,t.Tag.size<=1000)/\(∀ t∈g.bY,t.Tag.size<=1000)/\g.b8=s.b8/\g.cf=s.cf
theorem YF (s:Source) (av:oo s):Par (ql s) λr=>r.2.2.2=true->DM s r.1:=by
 have J3:Par (q7 s) λr=>r.2=true->DM s r.1:=by
  unfold q7;exact .ar (YG s av) λr ah=>.ag λh=>ah (of_decide_eq_true h)
 have J2:Par (q5 s) λr=>r.2.2=true->DM s r.1:=by
  unfold q5;exact .ar J3 λr ah=>Par.bk (λ_=>.ag λh=>by cases h) (λh=>.ar (Ξ:=λ_=>True) (λ_ _=>trivial) λm _=>.ag λ_=>ah (by simpa using h))
 have J1:Par (qm s) λr=>r.2.2.2=true->DM s r.1:=by
  unfold qm;exact .ar J2 λr ah=>Par.bk (λ_=>.ag λh=>by cases h) (λh=>.ar (Ξ:=λ_=>True) (λ_ _=>trivial) λsU _=>.ar (Ξ:=λ_=>True) (λ_ _=>trivial) λcs _=>.ag λ_=>ah (by simpa using h))
 unfold ql;exact .ar J1 λr ah=>Par.bk (λ_=>.ag λh=>by cases h) (λh=>.ar (Ξ:=λ_=>True) (λ_ _=>trivial) λ_ _=>.ar (Ξ:=λ_=>True) (λ_ _=>trivial) λ_ _=>.ag λ_=>ah (by simpa using h))
structure Made (s:Source) (r:bt × Tables × List ByteArray × Bool):Prop where
 g:fX r.1
 k:tn r.1
 x:Aw r.1
 t:∃ n d,rq r.1 n d/\yO r.1 d r.2.1
 l:r.2.2.1.length<=60
 b:∀ t∈r.2.2.1,t.size<=3000000
 x0:r.1.b8=s.b8
 tail:r.1.cf=s.cf
theorem ov (s:Source) (av:oo s):Tot (sb s) λr=>r.2.2.2=true->Made s r:=by
 unfold sb;refine .ar (Par.ja (Sq s av) (YF s av)) λa6 h1=>Tot.bk (λ_=>.ag λh=>by cases h) (λaS=>?_);have aq:a6.2.2.2=true:=by simpa using aS
 obtain ⟨⟨n,h6⟩,hk⟩:=h1.1 aq;obtain ⟨t1,t2,t3,t4⟩:=h1.2 aq;have j:Aw a6.1:=⟨λp au=>(h6.rG.gj p au).code,λp au=>(h6.rG.gj p au).args,t1,t2⟩;refine .ar (tH a6.1 h6.rG j) λaX aJ=>.ar (AR a6.1 n a6.2.1 h6) λbR bx=>.ag λh=>?_;obtain ⟨g1,g2⟩:=aJ (of_decide_eq_true h);exact ⟨h6.rG,hk,j,⟨n,a6.2.1,h6,bx⟩,g1,g2,t3,t4⟩
theorem i58 (a:Act):Tot (s5 a) i64:=by
 unfold s5;refine .ar (Ξ:=λ_=>True) (Tot.ba (λ_=>Tot.ba (λ_=>.ag trivial) (λ_=>.ag trivial)) (λ_=>.ag trivial)) λc _=>Tot.bk (λ_=>.ag (Jb _)) (λ_=>?_);refine .ar (Ξ:=λ_=>True) (Tot.ba (λ_=>Tot.ba (λ_=>.ag trivial) (λ_=>.ag trivial)) (λ_=>.ag trivial)) λc _=>Tot.bk (λ_=>.ag (Jb _)) (λ_=>?_);refine .ar (Ξ:=λ_=>True) (Tot.ba (λ_=>.ag trivial) (λ_=>.ag trivial)) λc _=>Tot.bk (λ_=>.ag (by unfold i64; decide)) (λ_=>?_);exact .ar (Ξ:=λ_=>True) (Tot.ba (λ_=>.ag trivial) (λ_=>.ag trivial)) λc _=>Tot.bk (λ_=>.ag (by unfold i64; decide)) (λ_=>.ag (by unfold i64; decide))
theorem SR (a:Act):i64 (ox a):=by
 obtain ⟨v,hv,h⟩:=i58 a;have:ox a=v:=by unfold ox; rw [hv]; rfl
 rw [this]; exact h
theorem O2 {l:List Int}(h:DK l):i64 (n5 l):=by
 obtain ⟨_,_,aJ⟩:=JV h;unfold i64;rcases aJ with ⟨_,e⟩ | ⟨hm,_⟩
 ·omega
 ·have:=h.2 _ hm; omega
theorem Step.R_ {r:e8}{i b:Nat}{c j6:gX}(h:Step r i c j6 b):b<=c.cD.length:=Classical.byContradiction λaA=>h.least c.cD.length (by omega) λp _=>by
 rw [List.getD_eq_getElem?_getD,List.getElem?_eq_none (by omega)]; rfl
theorem du.aV {rows:List e8}(cX:pT rows) (hv:∀ r∈rows,∀ p∈r,i64 p.cG) {l:List Nat}{c:gX}(h:du rows l c) :
  c.cD.length<=1000 * l.length/\(∀ k,i64 (c.cG.getD k 0))/\(∀ k,0<=c.cD.getD k 0/\c.cD.getD k 0<=rows.length)/\∀ x∈c.dD,0<=x/\x<=1000 * l.length:=by
 induction h with
 | nil=>exact ⟨Nat.zero_le _,λk=>by unfold i64; simp,λk=>by simp,λx j=>by rw [List.eq_of_mem_replicate j]; simp⟩
 | @cons i b l c j6 r ah hi h ay aM =>
  obtain ⟨h1,af,aJ,bx⟩:=aM;have av:=ay.R_;have uk:r∈rows:=List.mem_of_getElem? ah;have oF:=(List.getElem?_eq_some_iff.1 ah).1;have cb:=ay.put;refine ⟨?_,λk=>?_,λk=>?_,λx j=>?_⟩
  ·simp only [List.length_cons];rcases cb.hi with e | ⟨p,au,e⟩
   ·omega
   ·have:=(cX.rows r uk).at' p au; omega
  ·by_cases hk:∃ p∈r,b+p.At.toNat=k
   ·obtain ⟨p,au,rfl⟩:=hk;rw [cb.val p au]; exact hv r uk p au
   ·rw [cb.FZ k λp au e=>hk ⟨p,au,e⟩]; exact af k
  ·by_cases hk:∃ p∈r,b+p.At.toNat=k
   ·obtain ⟨p,au,rfl⟩:=hk;rw [cb.kY p au]; omega
   ·rw [cb.D1 k λp au e=>hk ⟨p,au,e⟩]; exact aJ k
  ·rw [ay.base] at j;simp only [List.length_cons];rcases List.mem_or_eq_of_mem_set j with j | j
   ·have:=bx x j; omega
   ·subst j; omega
theorem MQ {l:List Int}{P:Int->Prop}(h:∀ k,P (l.getD k 0)):∀ x∈l,P x:=λx j=>by
 obtain ⟨k,hk,rfl⟩:=List.mem_iff_getElem.1 j;have:=h k
 rwa [List.getD_eq_getElem?_getD,List.getElem?_eq_getElem hk] at this
def lM (l:List Int):Prop:=l.length<=1000000/\∀ x∈l,i64 x
theorem XQ {α:Type} [DecidableEq α]:∀ (l m:List α),l.Nodup->(∀ x∈l,x∈m)->l.length<=m.length:=by
 intro l
 induction l with
 | nil=>intro m _ _; exact Nat.zero_le _
 | cons a l aM =>
  intro m aA ay;rw [List.nodup_cons] at aA;have aR:=ay a (by simp);have:=aM (m.erase a) aA.2 λx j=>(List.mem_erase_of_ne (λe=>aA.1 (by rw [<- e]; exact j))).2 (ay x (by simp [j]));have aj:=List.length_erase_of_mem aR;have:0<m.length:=List.length_pos_of_mem aR;simp only [List.length_cons];omega
theorem Ma {rows:List e8}(cX:pT rows) (hv:∀ r∈rows,∀ p∈r,i64 p.cG) {c:gX}(h:∃ o,nJ rows o/\du rows o.reverse c):lM c.dD/\lM c.cG/\lM c.cD:=by
 obtain ⟨o,aU,iy⟩:=h;have aA:=cX.n;have xd:=aU.len;obtain ⟨h1,af,aJ,bx⟩:=iy.aV cX hv;rw [List.length_reverse] at h1 bx;have hlen:=iy.len;refine ⟨⟨by omega,λx j=>?_⟩,⟨by omega,MQ af⟩,⟨by omega,MQ λk=>?_⟩⟩
 ·have:=bx x j; unfold i64; omega
 ·have:=aJ k; unfold i64; omega
def oZ (t:Tables):List (List Int):=[t.Def,t.dx.dD,t.dx.cG,t.dx.cD,t.o9,t.gJ.dD,t.gJ.cG,t.gJ.cD,t.Left,t.o_,t.h3.map (·.At),t.h3.map (·.cG)]
theorem ZN {g:bt}{n:Nat}{d:im}{t:Tables}(h6:rq g n d) (dk:yO g d t) (hk:tn g):t.h3.length<=1000/\∀ l∈oZ t,lM l:=by
 have aN:=h6.rG;have aq:=aN.kf;have kF:=aN.de;have xf:=aN.ih;have k6:=h6.gU;have tU:=h6.a;have xd:=h6.o;have xK:pT ((d.dx.map uJ).map (·.h4)):=⟨by simp; omega,λr ah=>by
  obtain ⟨q,a7,rfl⟩:=List.mem_map.1 ah;exact (PE h6 q a7).1⟩
 have X6:pT (((List.range g.bY.length).map λa=>uK (gO d a)).map (·.h4)):=⟨by simp; omega,λr ah=>by
  obtain ⟨q,a7,rfl⟩:=List.mem_map.1 ah;exact (PF h6 q a7).1⟩
 have G_:=Ma xK (λr ah p au=>by
  obtain ⟨q,a7,rfl⟩:=List.mem_map.1 ah;obtain ⟨gy,_,rfl⟩:=List.mem_map.1 a7;obtain ⟨k,x,_,_,rfl⟩:=JN.1 au;exact SR x) dk.ac
 have L_:∀ a,a<g.bY.length->∀ x∈gO d a,-1<=x/\x<n:=λa aR x j=>by
  unfold gO at j;obtain ⟨r,ah,rfl⟩:=List.mem_map.1 j;obtain ⟨h1,af⟩:=h6.Cw r ah;have aj:a<r.length:=by omega
  rw [List.getD_eq_getElem?_getD,List.getElem?_eq_getElem aj];exact af _ (List.getElem_mem aj)
 have G':=Ma X6 (λr ah p au=>by
  obtain ⟨q,a7,rfl⟩:=List.mem_map.1 ah;obtain ⟨a,aR,rfl⟩:=List.mem_map.1 a7;obtain ⟨k,x,j,_,rfl⟩:=JN.1 au;have:=L_ a (List.mem_range.1 aR) x (List.mem_of_getElem? j);show i64 x;unfold i64; omega) dk.go
 have NN:t.h3.length<=40:=by
  have h1:t.h3.Nodup:=dk.nF.1.nd O9;have af:=XQ t.h3 (g.a1.zipIdx.map λp=>(⟨p.1.bL,(p.2:Int)⟩:dt)) h1 λp au=>by
   obtain ⟨k,x,j,_,rfl⟩:=(dk.nF.2 p).1 au;exact List.mem_map.2 ⟨(x,k),List.mem_zipIdx_iff_getElem?.2 j,rfl⟩
  simp at af;omega
 refine ⟨by omega,λl aj=>?_⟩;unfold oZ at aj;simp only [List.mem_cons,List.not_mem_nil,or_false] at aj;rcases aj with rfl | rfl | rfl | rfl | rfl | rfl | rfl | rfl | rfl | rfl | rfl | rfl
 ·rw [dk.Hk];refine ⟨by simp; omega,λx j=>?_⟩;obtain ⟨q,a7,rfl⟩:=List.mem_map.1 j;obtain ⟨r,ah,rfl⟩:=List.mem_map.1 a7;obtain ⟨h1,af⟩:=h6.kB r ah;exact O2 (Pv aN h1 af)
 ·exact G_.1
 ·exact G_.2.1
 ·exact G_.2.2
 ·rw [dk.gd];refine ⟨by simp; omega,λx j=>?_⟩;obtain ⟨q,a7,rfl⟩:=List.mem_map.1 j;obtain ⟨a,aR,rfl⟩:=List.mem_map.1 a7;exact O2 (Pn (by unfold gO; simp; omega) λv hv=>by have:=L_ a (List.mem_range.1 aR) v hv; omega)
 ·exact G'.1
 ·exact G'.2.1
 ·exact G'.2.2
 ·rw [dk.le];refine ⟨by simp; omega,λx j=>?_⟩;obtain ⟨p,au,rfl⟩:=List.mem_map.1 j;have:=(aN.gj p au).left;unfold i64; omega
 ·rw [dk.lD];refine ⟨by simp; omega,λx j=>?_⟩;obtain ⟨p,au,rfl⟩:=List.mem_map.1 j;have:=aN.aL p au;unfold i64; omega
 ·refine ⟨by simp; omega,λx j=>?_⟩;obtain ⟨p,au,rfl⟩:=List.mem_map.1 j;obtain ⟨k,y,al,aO,rfl⟩:=(dk.nF.2 p).1 au;show i64 y.bL;have:y.bL<=100000:=by
   by_cases aJ:3<=k
   ·exact (hk.pos k y aJ al).2
   ·have:=hk.aP k y (by omega) al; omega
  unfold i64; omega
 ·refine ⟨by simp; omega,λx j=>?_⟩;obtain ⟨p,au,rfl⟩:=List.mem_map.1 j;obtain ⟨k,y,al,aO,rfl⟩:=(dk.nF.2 p).1 au;have:=(List.getElem?_eq_some_iff.1 al).1;show i64 (k:Int);unfold i64; omega
theorem Tj (s:ByteArray) (m n:Int) (h:0<=m/\m<=n/\n<=s.size):(nc s m n).size=(n - m).toNat:=by
 unfold nc;simp [ByteArray.size_extract];omega
theorem nP (s:ByteArray) (n:Int) (aA:0<=n):Tot (s6 s n) λr=>(r.size:Int)<=n:=by
 unfold s6;refine Tot.ba (λh=>.bi (.cut ⟨by omega,by omega,by omega⟩ (.ag ?_))) (λh=>.ag (by omega));rw [Tj _ _ _ ⟨by omega,by omega,by omega⟩]; omega
theorem hp (l:List Int) (n:Int) (aA:0<=n):Tot (Cy l n) λr=>(r.length:Int)<=n/\∀ x∈r,x∈l:=by
 unfold Cy;refine Tot.ba (λh=>.bi (.sub ⟨by omega,by omega,by omega⟩ (.ag ?_))) (λh=>.ag ⟨by omega,λ_ h=>h⟩);refine ⟨by simp; omega,λx j=>?_⟩;exact List.mem_of_mem_drop (List.mem_of_mem_take j)
theorem t3 (a0:ByteArray) (aB:List Int) (ah:∀ x∈aB,i64 x):J6 a0 aB=some true:=by
 suffices h:Tot (J6 a0 aB) λr=>r=true by
  obtain ⟨r,ah,e⟩:=h; rw [ah,e]
 unfold J6;rw [KK];refine Tot.sm (.ar (nP a0 40 (by omega)) λn aA=>.ar (hp aB 100 (by omega)) λl aj=>?_);have h1:=AO n l (by omega) (by omega) λx j=>ah x (aj.2 x j);have af:=tF n l (by omega) (by omega) λx j=>ah x (aj.2 x j);rw [h1,af];exact Tot.sm (Tot.sm (.ag (decide_eq_true rfl)))
open Go Go.Own Go.Sort Go.Lib
theorem tI (t:Tables) (h:t.h3.length<=1000000):xQ t=some (oZ t):=by
 suffices ay:Tot (xQ t) λr=>r=oZ t by
  obtain ⟨r,ah,e⟩:=ay; rw [ah,e]
 unfold xQ;refine .ar (Ξ:=λs:List Int × List Int=>s.1=t.h3.map (·.At)/\s.2=t.h3.map (·.cG)) ?_ λs ay=>.ag (by rw [ay.1,ay.2]; rfl);refine Tot.upto (λs=>s.2.2) t.h3.length (λk s=>s.1=(t.h3.take k).map (·.At)/\s.2.1=(t.h3.take k).map (·.cG)) rfl (by omega) ⟨rfl,rfl⟩ λk s hk he bb=>?_;obtain ⟨A,B,i⟩:=s;obtain ⟨h1,af⟩:=bb;simp only at he h1 af ⊢;subst he h1 af;rw [eA k (by omega)];refine Tot.ba (λaT=>?_) (λdC=>.ag ?_)
 ·have aT:k<t.h3.length:=by omega
  rw [ea aT];refine Tot.sm (.ar (Ξ:=λ_=>True) (Tot.ap (by simp [lim]; omega) trivial) λ_ _=>.ar (Ξ:=λ_=>True) (Tot.ap (by simp [lim]; omega) trivial) λ_ _=>.ag ⟨aT,rfl,?_,?_⟩)
  ·show _=(t.h3.take (k+1)).map _;rw [kr aT,List.map_append]; rfl
  ·show _=(t.h3.take (k+1)).map _;rw [kr aT,List.map_append]; rfl
 ·have e:t.h3.take k=t.h3:=List.take_of_length_le (by omega);rw [e]; exact ⟨rfl,rfl⟩
def FX (t:Tok):List UInt8:=bif t.Lit then [] else [99,111,110,115,116,32]++t.Name.data.toList++[32,61,32]++mP t.bL++[10]
def uQ (l:List Tok):List UInt8:=l.flatMap FX
def DN (p:ByteArray × Nat):List UInt8:=bif decide (p.1=⟨#[]⟩) then [] else [9,99,97,115,101,32]++mP p.2++[58,10,9,9]++p.1.data.toList++[10]
def sq (l:List ByteArray):List UInt8:=l.zipIdx.flatMap DN
def JC (p:ByteArray × List Int):List UInt8:=n4 p.1 p.2++[10]
def vL (l:List (ByteArray × List Int)):List UInt8:=l.flatMap JC
def oS:List ByteArray:=(CE).getD []
theorem XT:CE=some oS:=rfl
theorem Cq:oS.length=12:=rfl
theorem XU:∀ x∈oS,x.size<=20:=by
 have:oS.all (λx=>decide (x.size<=20))=true:=by kernel_rfl
 exact λx j=>of_decide_eq_true (List.all_eq_true.1 this x j)
def uf (g:bt):List UInt8:=[47,47,32,67,111,100,101,32,109,97,100,101,32,98,121,32,121,117,99,99,97,32]++mP g.b8.size++[10]++g.b8.data.toList++[10]
def Lv:List UInt8:=[102,117,110,99,32,121,121,65,99,116,105,111,110,40,112,32,105,110,116,44,32,121,121,68,111,108,108,97,114,32,91,93,121,121,83,121,109,84,121,112,101,44,32,121,121,86,65,76,32,121,121,83,121,109,84,121,112,101,41,32,121,121,83,121,109,84,121,112,101,32,123,10,9,115,119,105,116,99,104,32,112,32,123,10]
def Lw:List UInt8:=[9,125,10,9,114,101,116,117,114,110,32,121,121,86,65,76,10,125,10]
def A2 (g:bt):List UInt8:=uf g++uQ (g.a1.drop 3)
def wT (g:bt) (t:Tables):List UInt8:=A2 g++vL (oS.zip (oZ t))++Lv
def D7 (g:bt) (t:Tables) (ts:List ByteArray):List UInt8:=wT g t++sq ts++(Lw++g.cf.data.toList)
theorem Qm (l:List Tok) (x:Tok):uQ (l++[x])=uQ l++FX x:=by simp [uQ]
theorem Rs (l:List ByteArray) (x:ByteArray):sq (l++[x])=sq l++DN (x,l.length):=by simp [sq,List.zipIdx_append]
theorem XF (l:List (ByteArray × List Int)) (x:ByteArray × List Int):vL (l++[x])=vL l++JC x:=by simp [vL]
structure Ar (g:bt) (t:Tables) (ts:List ByteArray):Prop where
 TS:fX g
 MU:tn g
 n:t.h3.length<=1000
 l:∀ l∈oZ t,lM l
 ZU:ts.length<=60
 hV:∀ x∈ts,x.size<=3000000
 x0:g.b8.size<=dp
 tail:g.cf.size<=dp
theorem z22:(⟨#[47,47,32,67,111,100,101,32,109,97,100,101,32,98,121,32,121,117,99,99,97,32]⟩:ByteArray).size=22:=rfl
theorem mz:(⟨#[10]⟩:ByteArray).size=1:=rfl
theorem dw:(⟨#[99,111,110,115,116,32]⟩:ByteArray).size=6:=rfl
theorem Am:(⟨#[9,99,97,115,101,32]⟩:ByteArray).size=6:=rfl
theorem z3:(⟨#[32,61,32]⟩:ByteArray).size=3:=rfl
theorem z4:(⟨#[58,10,9,9]⟩:ByteArray).size=4:=rfl
theorem Gk:(⟨#[9,125,10,9,114,101,116,117,114,110,32,121,121,86,65,76,10,125,10]⟩:ByteArray).size=19:=rfl
theorem QF:(⟨#[102,117,110,99,32,121,121,65,99,116,105,111,110,40,112,32,105,110,116,44,32,121,121,68,111,108,108,97,114,32,91,93,121,121,83,121,109,84,121,112,101,44,32,121,121,86,65,76,32,121,121,83,121,109,84,121,112,101,41,32,121,121,83,121,109,84,121,112,101,32,123,10,9,115,119,105,116,99,104,32,112,32,123,10]⟩:ByteArray).size=84:=rfl
theorem z0:(⟨#[]⟩:ByteArray).size=0:=rfl
theorem d0:(⟨#[]⟩:ByteArray).data.toList=[]:=rfl
theorem Ar.num {g:bt}{t:Tables}{ts:List ByteArray}(h:Ar g t ts) {k:Nat}(aJ:3<=k) (hk:k<g.a1.length):i64 (g.a1[k]).bL:=by
 have:=h.MU.pos k _ aJ (List.getElem?_eq_getElem hk);unfold i64; omega
theorem XE {n:ByteArray}{l:List Int}(aA:n.size<=20) (aj:lM l):({ data:=(n4 n l).toArray }:ByteArray).size<=23000100:=by
 rw [kl];show (n4 n l).length<=_;have h1:=E3 l 0 aj.2;have af:=aj.1;rw [kl] at aA;unfold n4;have aJ:kK.length=4:=rfl;have bx:kL.length=9:=rfl;simp only [List.length_append,List.length_singleton];omega
set_option maxHeartbeats 1000000 in
theorem GV (g:bt) (t:Tables) (ts:List ByteArray) (h:Ar g t ts):Tot (vT g t ts) λr=>r.data.toList=D7 g t ts/\r.size<=50000000000000:=by
 unfold vT;have Wf:=h.x0;have Ww:=h.tail;have vy:=h.TS.kf;have N2:=h.ZU;simp only [dp] at Wf Ww;have pi:i64 (g.b8.size:Int):=by unfold i64; omega
 rw [D0 _ pi];have ps:=zx pi;refine Tot.sm (.bi (.cat (by rw [z22]; omega) (.bi (.cat (by simp only [g_,z22,mz]; omega) (.bi (.cat (by simp only [g_,z22,mz]; omega) (.bi (.cat (by simp only [g_,z22,mz]; omega) (.ar (Ξ:=λb:ByteArray=>b.data.toList=uf g/\b.size<=1000000000100) (.mE (by simp only [g_,z22,mz,z0]; omega) ⟨?_,by simp only [g_,z22,mz,z0]; omega⟩) λbC dL=>?_)))))))))
 ·simp only [kk]; rfl
 obtain ⟨d6,db⟩:=dL
 -- tokens
 refine .ar (Ξ:=λb:ByteArray=>b.data.toList=A2 g/\b.size<=41000000010000) ?_ λb3 nT=>?_
 ·refine Tot.upto (λz=>z.2) g.a1.length (λk z=>z.1.data.toList=uf g++uQ ((g.a1.take k).drop 3)/\z.1.size<=1000000000100+k * 1000000000100) rfl (by omega) ⟨by rw [d6]; simp [uQ],db⟩ λk z hk he bb=>?_;obtain ⟨b,i⟩:=z;obtain ⟨h1,af⟩:=bb;simp only at he h1 af ⊢;subst he;rw [eA k (by omega)];refine Tot.ba (λaT=>?_) (λdC=>.ag ?_)
  ·have aT:k<g.a1.length:=by omega
   rw [ea aT];have fu:=kr aT;have V6:=h.MU.nF _ (List.getElem_mem aT);have NN:3<=k->i64 (g.a1[k]).bL:=λaJ=>h.num aJ aT;generalize g.a1[k]=tk at *;simp only [dp] at V6;refine .ar (Ξ:=λdX:ByteArray=>dX.data.toList=uf g++uQ ((g.a1.take (k+1)).drop 3)/\dX.size<=1000000000100+(k+1) * 1000000000100) (Tot.sm ?_) λdX hD=>.ag ⟨aT,rfl,hD⟩;have Es:3<=k->(g.a1.take (k+1)).drop 3=(g.a1.take k).drop 3++[tk]:=λaJ=>by
    rw [fu,List.drop_append_of_le_length (by simp; omega)]
   have Vz:¬ 3<=k->(g.a1.take (k+1)).drop 3=(g.a1.take k).drop 3:=λaJ=>by
    rw [List.drop_eq_nil_of_le (by simp; omega),List.drop_eq_nil_of_le (by simp; omega)]
   refine .ar (Ξ:=λc=>c=(decide (3<=k)&&!tk.Lit)) (Tot.ba (λa=>.ag (by simp; omega)) (λa=>.ag (by simp; omega))) λc aa=>?_;refine .ar (Ξ:=λdX:ByteArray=>dX.data.toList=uf g++uQ ((g.a1.take (k+1)).drop 3)/\dX.size<=1000000000100+(k+1) * 1000000000100) ?_ λdX hD=>.ag hD;refine Tot.bk (λVs=>?_) (λIh=>.ag ?_)
   ·rw [Vs] at aa;have aa:=aa.symm;rw [Bool.and_eq_true,decide_eq_true_eq,Bool.not_eq_true'] at aa;obtain ⟨aJ,nY⟩:=aa;have hi:=NN aJ;have eM:=zx hi;rw [D0 _ hi];refine .bi (.cat (by rw [dw]; omega) (.bi (.cat (by simp only [g_,dw,z3]; omega) (Tot.sm (.bi (.cat (by simp only [g_,dw,z3]; omega) (.bi (.cat (by simp only [g_,dw,z3,mz]; omega) (.bi (.mE (by simp only [g_,dw,z3,mz]; omega) (.ag ⟨?_,by simp only [g_,dw,z3,mz]; omega⟩)))))))))));rw [Es aJ,Qm,kk,h1];simp only [kk,FX,nY,cond_false];simp only [List.append_assoc]
   ·rw [Ih] at aa;refine ⟨?_,by show b.size<=1000000000100+(k+1) * 1000000000100; rw [Nat.add_mul]; exact Nat.le_trans af (Nat.add_le_add_left (Nat.le_add_right _ _) _)⟩;by_cases aJ:3<=k
    ·have nY:tk.Lit=true:=by
      cases iy:tk.Lit with
      | true=>rfl
      | false=>rw [iy,decide_eq_true aJ] at aa; cases aa
     rw [Es aJ,Qm,h1];simp [FX,nY]
    ·rw [Vz aJ,h1]
  ·have e:g.a1.take k=g.a1:=List.take_of_length_le (by omega);rw [e] at h1;exact ⟨h1,by omega⟩
 obtain ⟨d8,eO⟩:=nT;rw [tI t (by have:=h.n; omega),XT];refine Tot.sm (Tot.sm ?_);have aW:(oS.zip (oZ t)).length=12:=by rw [List.length_zip,Cq]; rfl
 -- lists
 refine .ar (Ξ:=λb:ByteArray=>b.data.toList=A2 g++vL (oS.zip (oZ t))/\b.size<=41000300010000) ?_ λhX oz=>?_
 ·refine Tot.upto (λz=>z.2) oS.length (λk z=>z.1.data.toList=A2 g++vL ((oS.zip (oZ t)).take k)/\z.1.size<=41000000010000+k * 23000200) rfl (by rw [Cq]; decide) ⟨by rw [d8]; simp [vL],by simpa using eO⟩ λk z hk he bb=>?_;obtain ⟨b,i⟩:=z;obtain ⟨h1,af⟩:=bb;simp only at he h1 af ⊢;subst he;rw [Cq] at hk;rw [eA k (by omega)];refine Tot.ba (λaT=>?_) (λdC=>.ag ?_)
  ·have aT:k<oS.length:=by omega
   have NK:k<12:=by rw [<- Cq]; exact aT
   have p8:k<(oZ t).length:=NK;have VZ:k<(oS.zip (oZ t)).length:=by rw [aW]; exact NK
   have fu:=kr VZ;rw [List.getElem_zip] at fu;rw [ea aT,ea p8];have aA:=XU _ (List.getElem_mem aT);have aj:=h.l _ (List.getElem_mem p8);generalize oS[k]=nF at *;generalize (oZ t)[k]=ls at *;refine Tot.sm (Tot.sm ?_);rw [AO nF ls (by omega) (by have:=aj.1; omega) aj.2];have ay:=XE aA aj;refine Tot.sm (.bi (.cat (by rw [mz]; omega) (.bi (.mE (by simp only [g_,mz]; omega) (.ag ⟨aT,rfl,?_,?_⟩)))))
   ·show (b++_).data.toList=_;rw [fu,XF,kk,h1,kk];simp only [JC,List.append_assoc]
   ·show (b++_).size<=_;simp only [g_,mz]; omega
  ·have e:(oS.zip (oZ t)).take k=oS.zip (oZ t):=List.take_of_length_le (by rw [aW]; rw [Cq] at dC; omega);rw [e] at h1;exact ⟨h1,by omega⟩
 obtain ⟨d26,ob⟩:=oz;refine .ar (Ξ:=λb:ByteArray=>b.data.toList=wT g t/\b.size<=41000300020000) (.mE (by rw [QF]; omega) ⟨by rw [kk,d26]; rfl,by rw [g_,QF]; omega⟩) λiC mc=>?_;obtain ⟨d34,gk⟩:=mc
 -- actions
 refine .ar (Ξ:=λb:ByteArray=>b.data.toList=wT g t++sq ts/\b.size<=41001000000000) ?_ λlg sA=>?_
 ·refine Tot.upto (λz=>z.2) ts.length (λk z=>z.1.data.toList=wT g t++sq (ts.take k)/\z.1.size<=41000300020000+k * 3000100) rfl (by omega) ⟨by rw [d34]; simp [sq],by simpa using gk⟩ λk z hk he bb=>?_;obtain ⟨b,i⟩:=z;obtain ⟨h1,af⟩:=bb;simp only at he h1 af ⊢;subst he;rw [eA k (by omega)];refine Tot.ba (λaT=>?_) (λdC=>.ag ?_)
  ·have aT:k<ts.length:=by omega
   rw [ea aT];have fu:=kr aT;have hlen:(ts.take k).length=k:=by simp; omega
   have av:=h.hV _ (List.getElem_mem aT);generalize ts[k]=x at *;have qf:i64 (k:Int):=by unfold i64; omega
   have eM:=zx qf;refine .ar (Ξ:=λdX:ByteArray=>dX.data.toList=wT g t++sq (ts.take (k+1))/\dX.size<=41000300020000+(k+1) * 3000100) (Tot.sm (.ar (Ξ:=λdX:ByteArray=>dX.data.toList=wT g t++sq (ts.take (k+1))/\dX.size<=41000300020000+(k+1) * 3000100) ?_ λdX hD=>.ag hD)) λdX hD=>.ag ⟨aT,rfl,hD⟩;rw [fu,Rs,hlen];refine Tot.kZ (λcA=>?_) (λhe=>.ag ⟨?_,by show b.size<=41000300020000+(k+1) * 3000100; rw [Nat.add_mul]; exact Nat.le_trans af (Nat.add_le_add_left (Nat.le_add_right _ _) _)⟩)
   ·rw [D0 _ qf];refine Tot.sm (.bi (.cat (by rw [Am]; omega) (.bi (.cat (by simp only [g_,Am,z4]; omega) (.bi (.cat (by simp only [g_,Am,z4]; omega) (.bi (.cat (by simp only [g_,Am,z4,mz]; omega) (.bi (.mE (by simp only [g_,Am,z4,mz]; omega) (.ag ⟨?_,by simp only [g_,Am,z4,mz]; omega⟩)))))))))));simp only [kk,h1,DN,decide_eq_false cA,cond_false,List.append_assoc]
   ·simp only [h1,DN,decide_eq_true he,cond_true,List.append_nil]
  ·have e:ts.take k=ts:=List.take_of_length_le (by omega);rw [e] at h1;exact ⟨h1,by omega⟩
 obtain ⟨d36,adu⟩:=sA;refine .bi (.cat (by rw [Gk]; omega) (.bi (.mE (by rw [g_,Gk]; omega) ?_)));have cA:¬ (lg++(⟨#[9,125,10,9,114,101,116,117,114,110,32,121,121,86,65,76,10,125,10]⟩++g.cf)).size=0:=by rw [g_,g_,Gk]; omega
 refine .bi ⟨_,by unfold wJ; rw [if_neg cA],.ag ⟨?_,by rw [g_,g_,Gk]; omega⟩⟩;rw [kk,kk,d36]; rfl
theorem L0 (g:bt) (t:Tables) (ts:List ByteArray) (h:Ar g t ts):Tot (vT g t ts) λr=>r.data.toList=D7 g t ts:=(GV g t ts h).use λ_ h=>h.1
theorem Mi (s:ByteArray) (m n:Int):(nc s m n).data.toList=(s.data.toList.drop m.toNat).take (n.toNat - m.toNat):=by
 unfold nc;rw [ByteArray.data_extract,Array.toList_extract]
theorem AZ {s:ByteArray}{m n:Int}{l:List UInt8}(h:0<=m/\m<=n/\n<=s.size) (aj:(s.data.toList.drop m.toNat).take (n.toNat - m.toNat)=l):iU s m n=some ⟨l.toArray⟩:=by
 unfold iU;rw [if_pos h];exact congrArg some (wF (by rw [Mi,aj]))
def E6:List UInt8:=[118,97,114,32,32,61,32,91,93,105,110,116,123]
theorem Jy (name:ByteArray) (l:List Int):n4 name l=(kK++name.data.toList++kL++b6 0 l)++[125]:=rfl
theorem OA (l:List Int):n4 ⟨#[]⟩ l=E6++(b6 0 l++[125]):=rfl
theorem GS (s:ByteArray) (m:Int) (h:m.toNat<s.size):iT s m=((s.data.toList[m.toNat]'(by rw [<- kl]; exact h)).toNat:Int):=by
 unfold iT;rw [getElem?_pos s m.toNat h];rfl
theorem t4 (a0:ByteArray) (aB a2:List Int) (h9:∀ x∈aB,i64 x) (hN:∀ x∈a2,i64 x):J8 a0 aB a2=some true:=by
 suffices h:Tot (J8 a0 aB a2) λr=>r=true by
  obtain ⟨r,ah,e⟩:=h; rw [ah,e]
 unfold J8;rw [KK];refine Tot.sm (.ar (nP a0 40 (by omega)) λn aA=>.ar (hp aB 60 (by omega)) λa aR=>.ar (hp a2 60 (by omega)) λb av=>?_);have Kb:∀ x∈a,i64 x:=λx j=>h9 x (aR.2 x j);have Kc:∀ x∈b,i64 x:=λx j=>hN x (av.2 x j);have dQ:=AO n a (by omega) (by omega) Kb;have e4:=AO ⟨#[]⟩ b (by decide) (by omega) Kc;have pk:=AO n (([]:List Int)++a++b) (by omega) (by simp; omega) (by simp; exact λx j=>j.elim (Kb x) (Kc x));rw [dQ,e4];have adH:(⟨(n4 n a).toArray⟩:ByteArray).size=(kK++n.data.toList++kL++b6 0 a).length+1:=by rw [kl,Jy,List.length_append]; rfl
 have adI:(⟨(n4 ⟨#[]⟩ b).toArray⟩:ByteArray).size=13+(b6 0 b).length+1:=by rw [kl,OA]; simp [E6]; omega
 have adJ:((kK++n.data.toList++kL++b6 0 a).length:Int)<10000:=by
  have:=E3 a 0 Kb;simp only [List.length_append,<- kl];have h1:kK.length=4:=rfl;have af:kL.length=9:=rfl;omega
 have adK:(b6 0 b).length<10000:=by have:=E3 b 0 Kc; omega
 have KU:((⟨#[118,97,114,32,32,61,32,91,93,105,110,116,123]⟩:ByteArray).size:Int)=13:=rfl;generalize tS:(⟨(n4 n a).toArray⟩:ByteArray)=bC at *;generalize Bn:(⟨(n4 ⟨#[]⟩ b).toArray⟩:ByteArray)=bS at *;have Mk:bC.data.toList=(kK++n.data.toList++kL++b6 0 a)++[125]:=by rw [<- tS]; exact Jy n a
 have Ml:bS.data.toList=E6++(b6 0 b++[125]):=by rw [<- Bn]; exact OA b
 rw [Option.bind_some,Option.bind_some];have hw:aG ((bC.size:Int) - 1)=(bC.size:Int) - 1:=Ak (by omega) (by omega);have Nr:iU bS 0 ((⟨#[118,97,114,32,32,61,32,91,93,105,110,116,123]⟩:ByteArray).size:Int)=some ⟨#[118,97,114,32,32,61,32,91,93,105,110,116,123]⟩:=by
  rw [KU];refine (AZ (l:=E6) ⟨by omega,by omega,by omega⟩ ?_).trans rfl;rw [Ml]; rfl
 have ud:gN bC (aG ((bC.size:Int) - 1))=some 125:=by
  rw [hw];unfold gN;rw [if_pos ⟨by omega,by omega⟩,GS _ _ (by omega)];have:bC.data.toList[((bC.size:Int) - 1).toNat]?=some 125:=by
   rw [Mk,show ((bC.size:Int) - 1).toNat=(kK++n.data.toList++kL++b6 0 a).length by omega,List.getElem?_append_right (Nat.le_refl _)];simp
  rw [List.getElem?_eq_getElem (by rw [<- kl]; omega)] at this;rw [Option.some.inj this]; rfl
 simp only [decide_eq_false (show ¬ (bC.size:Int)=0 by omega),cond_false,KU,decide_eq_false (show ¬ (bS.size:Int)<13 by omega)];rw [KU] at Nr;rw [Nr];simp only [Option.bind_some,decide_true,Bool.not_true,cond_false,ud];have UO:da ([]:List Int) a=some ([]++a):=by unfold da; rw [if_pos (by rw [List.length_nil,Nat.zero_add]; exact Nat.le_trans (m:=60) (by omega) (by decide))]
 have UP:da (([]:List Int)++a) b=some ([]++a++b):=by unfold da; rw [if_pos (by rw [List.nil_append]; exact Nat.le_trans (m:=120) (by omega) (by decide))]
 rw [UO,UP,pk,hw];have Vt:iU bC 0 ((bC.size:Int) - 1)=some ⟨(kK++n.data.toList++kL++b6 0 a).toArray⟩:=by
  refine AZ ⟨by omega,by omega,by omega⟩ ?_;have cr:((bC.size:Int) - 1).toNat - (0:Int).toNat=(kK++n.data.toList++kL++b6 0 a).length:=by
   have:(0:Int).toNat=0:=rfl;omega
  rw [Mk,cr];exact List.take_left
 have Vu:iU bS 13 bS.size=some ⟨(b6 0 b++[125]).toArray⟩:=by
  refine AZ ⟨by omega,by omega,by omega⟩ ?_;rw [Ml];have:(bS.size:Int).toNat - (13:Int).toNat=(b6 0 b++[125]).length:=by simp only [List.length_append,List.length_cons,List.length_nil]; omega
  rw [this];show (b6 0 b++[125]).take _=_;exact List.take_length
 rw [Vt,Vu];have fin:∀ J:ByteArray,J.data.toList=(if a=[]\/b=[] then [] else [44,32])->Tot ((e' ⟨(kK++n.data.toList++kL++b6 0 a).toArray⟩ J).bind λfl=>(e' fl ⟨(b6 0 b++[125]).toArray⟩).bind λhW=>some (decide ((⟨(n4 n ([]++a++b)).toArray⟩:ByteArray)=hW))) λr=>r=true:=by
  intro J ai;have NF:J.size<=2:=by rw [kl,ai]; split <;> simp
  have s1:(⟨(kK++n.data.toList++kL++b6 0 a).toArray⟩:ByteArray).size=(kK++n.data.toList++kL++b6 0 a).length:=by rw [kl]
  have s2:(⟨(b6 0 b++[125]).toArray⟩:ByteArray).size=(b6 0 b).length+1:=by rw [kl]; simp
  refine .bi (.cat (by omega) (.bi (.cat (by rw [g_]; omega) (.ag (decide_eq_true (wF ?_))))));rw [kk,kk,ai];show n4 n ([]++a++b)=_;rw [Jy,List.nil_append,Xt,Nat.zero_add];rcases a with _ | ⟨x,a⟩
  ·simp [b6]
  ·rw [Oo b (x::a).length (by simp)];rcases b with _ | ⟨y,b⟩
   ·simp [b6]
   ·rw [if_neg (by simp)];simp [b6,Oo b 2 (by omega)]
 simp only [Option.bind_some];by_cases h1:a=[]
 ·rw [decide_eq_true (show (a.length:Int)=0 by rw [h1]; rfl)];exact fin ⟨#[]⟩ (by rw [if_pos (.inl h1)])
 ·have tT:¬ (a.length:Int)=0:=λe=>h1 (List.eq_nil_of_length_eq_zero (by omega));rw [decide_eq_false tT];simp only [cond_false,Option.bind_some];by_cases af:b=[]
  ·rw [decide_eq_true (show (b.length:Int)=0 by rw [af]; rfl)];exact fin ⟨#[]⟩ (by rw [if_pos (.inr af)])
  ·have zc:¬ (b.length:Int)=0:=λe=>af (List.eq_nil_of_length_eq_zero (by omega));rw [decide_eq_false zc];exact fin ⟨#[44,32]⟩ (by rw [if_neg (by simp [h1,af])])
abbrev dF (g:bt) (p t:ByteArray):bt:=⟨g.a1,g.bY,g.bd,p,t⟩
variable (g:bt) (p t:ByteArray)
theorem f30 (d:im):vW (dF g p t) d=vW g d:=by kernel_rfl
theorem f29:xP (dF g p t)=xP g:=by kernel_rfl
theorem f39 (a b):vX (dF g p t) a b=vX g a b:=by kernel_rfl
theorem f50 (a b):xS (dF g p t) a b=xS g a b:=by kernel_rfl
theorem f51 (a):xT (dF g p t) a=xT g a:=by kernel_rfl
theorem f67:vZ (dF g p t)=vZ g:=by kernel_rfl
def Rlt {α β:Type}(P:α->β->Prop) (x:Option α) (y:Option β):Prop:=∀ r,x=some r->∃ ck,y=some ck/\P r ck
namespace Rlt
variable {α β qA ti:Type}{P:α->β->Prop}{Q:qA->ti->Prop}
theorem bi {x:Option qA}{f:qA->Option α}{eI:qA->Option β}(h:∀ y,Rlt P (f y) (eI y)):Rlt P (x.bind f) (x.bind eI):=by
 intro r ah;obtain ⟨y,al,ah⟩:=hh ah;obtain ⟨ck,h1,af⟩:=h y r ah;exact ⟨ck,by rw [al]; exact h1,af⟩
theorem ar {x:Option qA}{x':Option ti}{f:qA->Option α}{eI:ti->Option β}(h:Rlt Q x x') (hk:∀ y y',Q y y'->Rlt P (f y) (eI y')):Rlt P (x.bind f) (x'.bind eI):=by
 intro r ah;obtain ⟨y,al,ah⟩:=hh ah;obtain ⟨y',nv,dA⟩:=h y al;obtain ⟨ck,h1,af⟩:=hk y y' dA r ah;exact ⟨ck,by rw [nv]; exact h1,af⟩
theorem bk {c:Bool}{a b:Option α}{bZ dX:Option β}(aq:c=true->Rlt P a bZ) (aS:c=false->Rlt P b dX):Rlt P (cond c a b) (cond c bZ dX):=by
 cases c
 ·exact aS rfl
 ·exact aq rfl
theorem ag {a:α}{b:β}(h:P a b):Rlt P (some a) (some b):=λr e=>by cases e; exact ⟨b,rfl,h⟩
end Rlt
section
variable (s:Source) (p t:ByteArray)
theorem YM (hm:pG ⟨p,s.Decls,s.dH,t⟩=pG s):Rlt (λr ck=>ck.2=r.2/\(r.2.1=0->ck.1=dF r.1 p t)) (qn s) (qn ⟨p,s.Decls,s.dH,t⟩):=by
 unfold qn;rw [hm];refine .bi λ_=>.bk (λ_=>.ag ⟨rfl,λh=>by cases h⟩) λ_=>.bi λ_=>.bi λ_=>.bi λ_=>.bi λ_=>.bi λ_=>.bi λ_=>.bi λm=>.bk (λh=>.ag ⟨rfl,λe=>?_⟩) λ_=>.bi λ_=>.bi λ_=>.bi λ_=>.bi λ_=>.bi λ_=>.bk (λ_=>.ag ⟨rfl,λh=>by cases h⟩) λ_=>.ag ⟨rfl,λ_=>rfl⟩;rw [show decide (m.cN=0)=true from decide_eq_true e] at h
 cases h
theorem YH (hm:pG ⟨p,s.Decls,s.dH,t⟩=pG s):Rlt (λr ck=>ck.2=r.2/\(r.2.2.2=true->ck.1=dF r.1 p t)) (sb s) (sb ⟨p,s.Decls,s.dH,t⟩):=by
 have YL:Rlt (λr ck=>ck.2=r.2/\(r.2=true->ck.1=dF r.1 p t)) (q7 s) (q7 ⟨p,s.Decls,s.dH,t⟩):=by
  unfold q7;exact .ar (YM s p t hm) λy y' h=>.ag ⟨by rw [h.1],λe=>h.2 (of_decide_eq_true e)⟩
 have YK:Rlt (λr ck=>ck.2=r.2/\(r.2.2=true->ck.1=dF r.1 p t)) (q5 s) (q5 ⟨p,s.Decls,s.dH,t⟩):=by
  unfold q5;refine .ar YL λy y' h=>?_;rw [h.1];refine .bk (λ_=>.ag ⟨rfl,λe=>by cases e⟩) λe=>?_;have af:=h.2 (by simpa using e);rw [af,f67];exact .bi λ_=>.ag ⟨rfl,λ_=>rfl⟩
 have YJ:Rlt (λr ck=>ck.2=r.2/\(r.2.2.2=true->ck.1=dF r.1 p t)) (qm s) (qm ⟨p,s.Decls,s.dH,t⟩):=by
  unfold qm;refine .ar YK λy y' h=>?_;rw [h.1];refine .bk (λ_=>.ag ⟨rfl,λe=>by cases e⟩) λe=>?_;have af:=h.2 (by simpa using e);rw [af,f51];refine .bi λ_=>?_;rw [f50];exact .bi λ_=>.ag ⟨rfl,λ_=>rfl⟩
 have YI:Rlt (λr ck=>ck.2=r.2/\(r.2.2.2=true->ck.1=dF r.1 p t)) (ql s) (ql ⟨p,s.Decls,s.dH,t⟩):=by
  unfold ql;refine .ar YJ λy y' h=>?_;rw [h.1];refine .bk (λ_=>.ag ⟨rfl,λe=>by cases e⟩) λe=>?_;have af:=h.2 (by simpa using e);rw [af,f39];exact .bi λ_=>.bi λ_=>.ag ⟨rfl,λ_=>rfl⟩
 unfold sb;refine .ar YI λy y' h=>?_;rw [h.1];refine .bk (λ_=>.ag ⟨rfl,λe=>by cases e⟩) λe=>?_;have af:=h.2 (by simpa using e);rw [af,f29];refine .bi λ_=>?_;rw [f30];exact .bi λ_=>.ag ⟨rfl,λ_=>rfl⟩
end
def AA (s:ByteArray):Prop:=∀ i:Int,0<=i->i+1<s.size->¬ (iT s i=37/\iT s (i+1)=125)
theorem OQ (s:ByteArray) (ay:s.size<=1000) (h:AA s):b5 (R:=(Unit) ⊕ (Bool)) (λ(s1:Int) =>
(bif decide (aG (s1+1)<(s.size:Int)) then
(iU s s1 (aG (s1+2))).bind λbC =>
(bif decide (bC=⟨#[37,125]⟩) then
some (.inr (.inr false))
else
some (.inl (aG (s1+1))))
else
some (.inr (.inl ())))) 0=some (.inl ()):=by
 have:Tot (b5 (R:=(Unit) ⊕ (Bool)) (λ(s1:Int) =>
(bif decide (aG (s1+1)<(s.size:Int)) then
(iU s s1 (aG (s1+2))).bind λbC =>
(bif decide (bC=⟨#[37,125]⟩) then
some (.inr (.inr false))
else
some (.inl (aG (s1+1))))
else
some (.inr (.inl ())))) 0) (gK (λ_=>True) (λ_=>False)):=by
  refine Tot.count (λs=>s) (s.size+1) (λi=>0<=i/\i<=s.size+1) ⟨Int.le_refl 0,by omega⟩ (by show (s.size:Int)+1 - 0<_; omega) λi hi=>?_;obtain ⟨aO,h1⟩:=hi;have hw:aG (i+1)=i+1:=Ak (by omega) (by omega);have EP:aG (i+2)=i+2:=Ak (by omega) (by omega);rw [hw,EP];refine .ba (λaT=>.bi (.cut ⟨by omega,by omega,by omega⟩ (.ba (λe=>?_) (λ_=>.ag ⟨⟨?_,?_⟩,?_,?_⟩)))) (λ_=>.ag trivial)
  ·exfalso;refine h i aO aT ?_;have b9:=congrArg (λb:ByteArray=>b.data.toList) e;simp only [Mi] at b9;have fi:(s.data.toList.drop i.toNat).take (i+2 - i).toNat=[37,125]:=by rw [<- b9]; congr 1; omega
   have eM:=kl s;have g1:s.data.toList[i.toNat]?=some 37:=by
    have:=congrArg (λl:List UInt8=>l[0]?) fi;rw [List.getElem?_take,if_pos (by omega),List.getElem?_drop] at this;simpa using this
   have g2:s.data.toList[i.toNat+1]?=some 125:=by
    have:=congrArg (λl:List UInt8=>l[1]?) fi;rw [List.getElem?_take,if_pos (by omega),List.getElem?_drop] at this;simpa using this
   rw [GS s i (by omega),GS s (i+1) (by omega)];have TR:s.data.toList[(i+1).toNat]?=some 125:=by rw [show (i+1).toNat=i.toNat+1 by omega]; exact g2
   rw [(List.getElem?_eq_some_iff.1 g1).2,(List.getElem?_eq_some_iff.1 TR).2];exact ⟨rfl,rfl⟩
  ·show 0<=i+1; omega
  ·show i+1<=(s.size:Int)+1; omega
  ·show i<i+1; omega
  ·show i+1<=(s.size:Int)+1; omega
 obtain ⟨r,ah,cb⟩:=this;rw [ah];rcases r with ⟨⟩ | r
 ·rfl
 ·exact cb.elim
theorem XJ (s:Source) (p t:ByteArray) (ay:s.b8.size<=1000) (h:AA s.b8) (au:p.size<=1000) (aI:AA p):pG ⟨p,s.Decls,s.dH,t⟩=pG s:=by
 unfold pG;dsimp only;rw [OQ p au aI,OQ s.b8 ay h]
theorem YA (x:pQ):Par (vS x) λr=>r.b8=⟨#[]⟩/\r.cf=⟨#[]⟩:=by
 unfold vS;exact .ar (Ξ:=λ_=>True) (λ_ _=>trivial) λ_ _=>.ar (Ξ:=λ_=>True) (λ_ _=>trivial) λ_ _=>.ar (Ξ:=λ_=>True) (λ_ _=>trivial) λ_ _=>.ar (Ξ:=λ_=>True) (λ_ _=>trivial) λ_ _=>.ar (Ξ:=λ_=>True) (λ_ _=>trivial) λ_ _=>.ar (Ξ:=λ_=>True) (λ_ _=>trivial) λ_ _=>.ag ⟨rfl,rfl⟩
theorem Made.Mx {s:Source}{r:bt × Tables × List ByteArray × Bool}(h:Made s r) (av:oo s) (aq:s.cf.size<=dp):Ar r.1 r.2.1 r.2.2.1:=by
 obtain ⟨n,d,h6,dk⟩:=h.t;obtain ⟨h1,af⟩:=ZN h6 dk h.k;exact ⟨h.g,h.k,h1,af,h.l,h.b,by rw [h.x0]; exact av.x0,by rw [h.tail]; exact aq⟩
theorem Xr:mP 0=[48]:=by
 have h1:=na 0 ⟨by decide,by decide⟩;have af:qk 0=some ⟨#[48]⟩:=by kernel_rfl
 rw [af] at h1;have aJ:=congrArg (λb:ByteArray=>b.data.toList) (Option.some.inj h1);exact aJ.symm
def mid (g:bt) (t:Tables) (ts:List ByteArray):List UInt8:=uQ (g.a1.drop 3)++vL (oS.zip (oZ t))++Lv++sq ts++Lw
theorem My (g:bt) (t:Tables) (ts:List ByteArray):D7 g t ts=uf g++(mid g t ts++g.cf.data.toList):=by
 simp only [D7,wT,A2,mid,List.append_assoc]
def w8:ByteArray:=⟨#[47,47,32,67,111,100,101,32,109,97,100,101,32,98,121,32,121,117,99,99,97,32,48,10,10]⟩
theorem Vw {g:bt}(h:g.b8=⟨#[]⟩):uf g=w8.data.toList:=by
 unfold uf;rw [h,show (((⟨#[]⟩:ByteArray).size:Nat):Int)=0 from rfl,Xr]
 rfl
theorem t6 (x:pQ) (p t:ByteArray):zT x p t=some true:=by
 suffices h:Tot (zT x p t) λr=>r=true by
  obtain ⟨r,ah,e⟩:=h; rw [ah,e]
 unfold zT;rw [KK];refine Tot.sm (.ar (nP p 60 (by omega)) λp au=>.ar (nP t 60 (by omega)) λt aq=>?_);refine .ar (Tot.count (λs=>s) (p.size+1) (Ψ:=gK (λ_=>AA p) (λr=>r=true)) (λi=>0<=i/\i<=p.size+1/\∀ J:Int,0<=J->J<i->J+1<p.size->¬ (iT p J=37/\iT p (J+1)=125)) ⟨Int.le_refl 0,by omega,λJ h1 af=>by omega⟩ (by show (p.size:Int)+1 - 0<_; omega) λi hi=>?_) λr ah=>?_
 ·obtain ⟨aO,h1,af⟩:=hi;have hw:aG (i+1)=i+1:=Ak (by omega) (by omega);rw [hw];refine .ba (λaT=>?_) (λdC=>.ag λJ a b=>af J a (by omega) b);refine .ar (Ξ:=λc=>c=false->¬ (iT p i=37/\iT p (i+1)=125)) ?_ λc aa=>.bk (λ_=>.ag rfl) (λe=>.ag ⟨⟨?_,?_,λJ a b d=>?_⟩,?_,?_⟩)
  ·refine .bi (.jg ⟨aO,by omega⟩ (.ba (λe=>.bi (.jg ⟨by omega,aT⟩ (.ag λb9=>λh=>?_))) (λe=>.ag λ_ h=>e h.1)));rw [decide_eq_true h.2] at b9; cases b9
  ·show 0<=i+1; omega
  ·show i+1<=(p.size:Int)+1; omega
  ·by_cases ai:J<i
   ·exact af J a ai d
   ·have:J=i:=by
     have b:J<i+1:=b;omega
    subst this; exact aa e
  ·show i<i+1; omega
  ·show i+1<=(p.size:Int)+1; omega
 rcases r with r | r
 ·have cb:AA p:=ah;refine .ar (Par.ja (t14 x) (YA x)) λs ay=>?_;obtain ⟨av,xg,kG⟩:=ay;have z:(⟨#[]⟩:ByteArray).size=0:=rfl;have hD:oo ⟨p,s.Decls,s.dH,t⟩:=⟨by show p.size<=dp; unfold dp; omega,av.wR,av.decls,av.aL,av.rules⟩;have hm:=XJ s p t (by rw [xg,z]; omega) (by rw [xg]; intro i h1 af; rw [z] at af; omega) (by omega) cb;obtain ⟨D,h6,JM⟩:=ov s av;obtain ⟨aap,M0,b9,cr⟩:=YH s p t hm D h6;obtain ⟨aaq,M1,XK⟩:=ov _ hD;rw [M0] at M1;cases M1;rw [h6,M0];refine Tot.sm (Tot.sm ?_);rw [b9];refine .ar (Ξ:=λc=>c=!D.2.2.2) ?_ λc aa=>?_
  ·cases D.2.2.2 <;> exact .ag rfl
  subst aa;refine .bk (λe=>.ag (by simp)) λe=>?_;have cX:D.2.2.2=true:=by simpa using e
  have ko:=(JM cX).Mx av (by rw [kG,z]; omega);have M3:=(XK (by rw [b9]; exact cX)).Mx hD (by show t.size<=dp; unfold dp; omega);have cr:=cr cX;rw [b9,cr] at M3;rw [cr];have TT:D.1.b8=⟨#[]⟩:=by rw [(JM cX).x0,xg]
  have gt:D.1.cf=⟨#[]⟩:=by rw [(JM cX).tail,kG]
  obtain ⟨one,aU,qR,zl⟩:=GV _ _ _ ko;obtain ⟨two,hw,EO,EP⟩:=GV _ _ _ M3;rw [aU,hw];refine Tot.sm (Tot.sm ?_);rw [My,Vw TT,gt] at qR;have qR:one.data.toList=w8.data.toList++mid D.1 D.2.1 D.2.2.1:=by rw [qR]; simp
  have V1:mid (dF D.1 p t) D.2.1 D.2.2.1=mid D.1 D.2.1 D.2.2.1:=rfl;rw [My,V1] at EO;generalize mid D.1 D.2.1 D.2.2.1=M at *;have xx:w8.data.toList.length=25:=rfl;have eM:one.size=25+M.length:=by rw [kl,qR,List.length_append,xx]
  have aag:((⟨#[47,47,32,67,111,100,101,32,109,97,100,101,32,98,121,32,121,117,99,99,97,32,48,10,10]⟩:ByteArray).size:Int)=25:=rfl;have Tf:iU one 0 25=some w8:=by
   refine (AZ (l:=w8.data.toList) ⟨by omega,by omega,by omega⟩ ?_).trans rfl;rw [qR]; rfl
  have Tg:iU one 25 one.size=some ⟨M.toArray⟩:=by
   refine AZ ⟨by omega,by omega,by omega⟩ ?_;rw [qR,show (25:Int).toNat=w8.data.toList.length from rfl,List.drop_left,List.take_of_length_le (by omega)]
  rw [aag,decide_eq_false (show ¬ (one.size:Int)<25 by omega),Tf,Tg];simp only [cond_false,Option.bind_some];rw [show decide (w8=⟨#[47,47,32,67,111,100,101,32,109,97,100,101,32,98,121,32,121,117,99,99,97,32,48,10,10]⟩)=true from decide_eq_true rfl]
  simp only [Bool.not_true,cond_false];have pi:i64 (p.size:Int):=by unfold i64; omega
  rw [na _ pi];have ps:=zx pi;have OJ:(⟨M.toArray⟩:ByteArray).size=M.length:=by rw [kl]
  refine Tot.sm (.bi (.cat (by simp only [z22]; omega) (.bi (.cat (by simp only [g_,z22,mz]; omega) (.bi (.cat (by simp only [g_,z22,mz]; omega) (.bi (.cat (by simp only [g_,z22,mz]; omega) (.bi (.cat (by simp only [g_,z22,mz,OJ]; omega) (.bi (.cat (by simp only [g_,z22,mz,OJ]; omega) (.ag ?_)))))))))))));refine decide_eq_true (wF ?_);rw [EO];simp only [kk,uf,List.append_assoc]
 ·subst ah; exact .ag rfl
end Go.Proofs
