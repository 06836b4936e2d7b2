/- Parts of the proof that the last text states. -/
import Derived.KernelRfl
import Derived.Test.YtejfkabkakfblaaGreatDoorF4
namespace Go.Proofs
open Go Go.Own Go.Sort
set_option maxRecDepth 100000
set_option linter.unusedVariables false
def allI (g:bq):List Item:=(List.range g.a1.length).flatMap λp=>(List.range 9).map λd=>(⟨(p:Nat),(d:Nat)⟩:Item)
theorem Rm (g:bq):(allI g).length=g.a1.length * 9:=by
 have:∀ l:List Nat,(l.map λ_=>9).sum=l.length * 9:=λl=>by
  induction l with
  | nil=>rfl
  | cons a l aL=>simp only [List.map_cons,List.sum_cons,aL,List.length_cons]; omega
 simp [allI,List.length_flatMap,this]
theorem XM {g:bq}(aK:ga g) {x:Item}(h:iT g x):x∈allI g:=by
 obtain ⟨q,a6,aO,h1⟩:=h;obtain ⟨af,aF,bu⟩:=n4 a6;have:=aK.aN q bu;refine List.mem_flatMap.2 ⟨x.Prod.toNat,by simp; omega,List.mem_map.2 ⟨x.e3.toNat,by simp; omega,?_⟩⟩;obtain ⟨a,b⟩:=x;simp only at aO af ⊢;congr 1 <;> omega
theorem tK {g:bq}(aK:ga g) {l:List Item}(ai:eX gB l) (hi:∀ x∈l,iT g x):l.length<=540:=by
 have:=uE (ai.nd vQ) λx j=>XM aK (hi x j);rw [Rm] at this;have:=aK.hb;omega
theorem RE {l:List Item}(ai:eX gB l) {i J:Nat}(hi:i<l.length) (aj:J<l.length) (h:i<J):gB l[i] l[J]=true:=List.pairwise_iff_getElem.1 ai i J hi aj h
theorem GA (l:List Item) (x:Item) (ai:eX gB l) (aA:l.length<=100000):Tot (xw l x) λr=>eX gB r/\(∀ y,y∈r↔y∈l\/y=x):=by
 unfold xw;refine .au (Ξ:=λz:Int=>∃ k:Nat,z=(k:Int)/\k<=l.length/\(∀ (i:Nat) (h:i<l.length),k<=i->gB x l[i]=true)/\∀ (h:0<k),gB x (l[k - 1]?.getD default)=false) ?_ λz aT=>?_
 ·refine Tot.count (λs=>-s) 1 (λs=>∃ k:Nat,s=(k:Int)/\k<=l.length/\∀ (i:Nat) (h:i<l.length),k<=i->gB x l[i]=true) ⟨l.length,rfl,Nat.le_refl _,λi h hk=>by omega⟩ (by show 1 - -(l.length:Int)<_; omega) λs aw=>?_;obtain ⟨k,rfl,hk,ur⟩:=aw;refine .au (Ξ:=λc:Bool=>(c=true->0<k/\gB x (l[k - 1]?.getD default)=true)/\(c=false->∀ (h:0<k),gB x (l[k - 1]?.getD default)=false)) ?_ λc aa=>Tot.bj (λh=>?_) (λh=>.ag ⟨k,rfl,hk,ur,aa.2 h⟩)
  ·refine Tot.bb (λh=>?_) (λh=>.ag ⟨λaH=>(by cases aH),λ_ aH=>by omega⟩);have gj:k - 1<l.length:=by omega
   have hw:aE ((k:Int) - 1)=((k - 1:Nat):Int):=by rw [cq]; omega
   rw [hw,d_ gj,List.getElem?_eq_getElem gj];simp only [Option.bind_some,Option.getD_some];generalize l[k - 1]=y;refine Tot.bb (λh1=>.ag ⟨λ_=>⟨by omega,Jq.2 (.inl h1)⟩,λaH=>(by cases aH)⟩) (λh1=>Tot.bb (λaf=>.ag ⟨λaF=>⟨by omega,Jq.2 (.inr ⟨af.symm,of_decide_eq_true aF⟩)⟩,λaF _=>?_⟩) (λaf=>.ag ⟨λaH=>(by cases aH),λ_ _=>?_⟩))
   ·have:=of_decide_eq_false aF;rw [B6]; omega
   ·rw [B6]; omega
  ·obtain ⟨aO,h1⟩:=aa.1 h;refine .ag ⟨⟨k - 1,by rw [cq]; omega,by omega,λi hi VO=>?_⟩,by show -(k:Int) < -aE _; rw [cq]; omega,by show -aE _<=1; rw [cq]; omega⟩;by_cases e:i=k - 1
   ·subst e;rw [List.getElem?_eq_getElem hi] at h1;exact h1
   ·exact ur i hi (by omega)
 ·obtain ⟨k,rfl,hk,ur,ly⟩:=aT;refine .au (Ξ:=λc:Bool=>(c=true↔(0<k/\l[k - 1]?.getD default=x))) ?_ λc aa=>Tot.bj (λh=>?_) (λh=>?_)
  ·refine Tot.bb (λh=>?_) (λh=>.ag ⟨λaH=>(by cases aH),λaH=>by omega⟩);have gj:k - 1<l.length:=by omega
   have hw:aE ((k:Int) - 1)=((k - 1:Nat):Int):=by rw [cq]; omega
   rw [hw,d_ gj,List.getElem?_eq_getElem gj];simp only [Option.bind_some,Option.getD_some];generalize l[k - 1]=y;refine .ag ?_;obtain ⟨bT,y2⟩:=y;obtain ⟨bc,x2⟩:=x;simp only [Bool.and_true,Bool.and_eq_true,decide_eq_true_eq,Item.mk.injEq];exact ⟨λaH=>⟨by omega,aH⟩,λaH=>aH.2⟩
  ·obtain ⟨aO,h1⟩:=aa.1 h;have gj:k - 1<l.length:=by omega
   rw [List.getElem?_eq_getElem gj] at h1;have j:x∈l:=by rw [<- h1]; exact List.getElem_mem gj
   exact .ag ⟨ai,λy=>⟨.inl,λh=>h.elim id λe=>e ▸ j⟩⟩
  ·have cy:∀ (i:Nat) (hi:i<l.length),i<k->gB l[i] x=true:=by
    intro i hi Eb;have gj:k - 1<l.length:=by omega
    have ly:=ly (by omega);have aA:l[k - 1]?.getD default≠x:=λe=>by rw [aa.2 ⟨by omega,e⟩] at h; cases h
    rw [List.getElem?_eq_getElem gj] at ly aA;simp only [Option.getD_some] at ly aA;have fL:gB l[k - 1] x=true:=by
     cases bD:gB l[k - 1] x with
     | true=>rfl
     | false=>exact absurd (vQ.iY _ _ bD ly) aA
    by_cases e:i=k - 1
    ·subst e; exact fL
    ·exact vQ.swo.trans _ _ _ (RE ai hi gj (by omega)) fL
   refine .au (Ξ:=λz=>z=l.take k) (Tot.sub ⟨by omega,by omega,by omega⟩ (by simp)) λz aT=>?_;subst aT;refine .au (Ξ:=λ_=>True) (Tot.ap (by simp [lim]; omega) trivial) λ_ _=>.au (Ξ:=λ_=>True) (Tot.ap (by simp [lim]; omega) trivial) λ_ _=>?_;refine .au (Ξ:=λz=>z=l.drop k) (Tot.sub ⟨by omega,by omega,by omega⟩ ?_) λz aT=>?_
   ·rw [List.take_of_length_le]
    ·congr 1
    ·rw [List.length_drop]; omega
   subst aT;refine .au (Ξ:=λ_=>True) (Tot.ap (by simp [lim]; omega) trivial) λ_ _=>.ag ?_;rw [List.nil_append];constructor
   ·have h1:∀ a∈l.take k,gB a x=true:=by
     intro a aQ;obtain ⟨i,hi,rfl⟩:=List.mem_iff_getElem.1 aQ;rw [List.length_take] at hi;rw [List.getElem_take];exact cy i (by omega) (by omega)
    have af:∀ a∈l.drop k,gB x a=true:=by
     intro a aQ;obtain ⟨i,hi,rfl⟩:=List.mem_iff_getElem.1 aQ;rw [List.length_drop] at hi;rw [List.getElem_drop];exact ur (k+i) (by omega) (by omega)
    unfold eX;rw [List.append_assoc,List.pairwise_append];refine ⟨List.Pairwise.sublist (List.take_sublist k l) ai,?_,λa aQ b av=>?_⟩
    ·rw [List.singleton_append,List.pairwise_cons];exact ⟨af,List.Pairwise.sublist (List.drop_sublist k l) ai⟩
    ·rcases List.mem_append.1 av with av | av
     ·rw [List.mem_singleton.1 av]; exact h1 a aQ
     ·exact vQ.swo.trans _ _ _ (h1 a aQ) (af b av)
   ·intro y;rw [List.append_assoc,List.mem_append,List.mem_append,List.mem_singleton];have hm:y∈l↔y∈l.take k\/y∈l.drop k:=by
     rw [<- List.mem_append,List.take_append_drop]
    rw [hm];constructor
    ·rintro (h | h | h)
     ·exact .inl (.inl h)
     ·exact .inr h
     ·exact .inl (.inr h)
    ·rintro ((h | h) | h)
     ·exact .inl h
     ·exact .inr (.inr h)
     ·exact .inr (.inl h)
theorem sC (g:bq) (aK:ga g) (l:List Item) (ai:l.length<=1000000):Tot (Ck g l) λr=>eX gB r/\∀ x,x∈r↔x∈l/\iT g x:=by
 unfold Ck;refine .au (Ξ:=λr=>eX gB r/\∀ x,x∈r↔x∈l/\iT g x) ?_ λr ah=>.ag ah;refine Tot.count (λs=>s.2) l.length (λs=>∃ k:Nat,k<=l.length/\s.2=(k:Int)/\eX gB s.1/\∀ x,x∈s.1↔x∈l.take k/\iT g x) ⟨0,Nat.zero_le _,rfl,List.Pairwise.nil,λx=>by simp⟩ (by show (l.length:Int) - 0<_; omega) λs aw=>?_;obtain ⟨out,kD⟩:=s;obtain ⟨k,hk,rfl,aQ,hm⟩:=aw;simp only at aQ hm ⊢;rw [FI k (by omega)];refine Tot.bb (λaR=>?_) (λdq=>.ag ?_)
 ·have aR:k<l.length:=by omega
  rw [d_ aR];refine .au (Ξ:=λo:List Item=>eX gB o/\∀ x,x∈o↔x∈l.take (k+1)/\iT g x) ?_ λo aV=>.ag ⟨⟨k+1,by omega,rfl,aV⟩,by show (k:Int)<((k+1:Nat):Int); omega,by show ((k+1:Nat):Int)<=_; omega⟩;obtain ⟨c,aa,hi⟩:=L1 g l[k];rw [kk aR];refine Tot.sm ?_;rw [aa];refine Tot.sm (.au (Ξ:=λo:List Item=>eX gB o/\∀ x,x∈o↔x∈l.take k++[l[k]]/\iT g x) (Tot.bj (λh=>?_) (λh=>.ag ⟨aQ,λx=>?_⟩)) λo aV=>.ag aV)
  ·have pt:=tK aK aQ λx j=>((hm x).1 j).2;refine Tot.sm (.au (GA out _ aQ (by omega)) λo aV=>.ag ⟨aV.1,λx=>?_⟩);rw [aV.2 x,List.mem_append,List.mem_singleton,hm x];constructor
   ·rintro (⟨h1,af⟩ | rfl)
    ·exact ⟨.inl h1,af⟩
    ·exact ⟨.inr rfl,hi.1 h⟩
   ·rintro ⟨h1 | rfl,af⟩
    ·exact .inl ⟨h1,af⟩
    ·exact .inr rfl
  ·rw [List.mem_append,List.mem_singleton,hm x];constructor
   ·rintro ⟨h1,af⟩;exact ⟨.inl h1,af⟩
   ·rintro ⟨h1 | rfl,af⟩
    ·exact ⟨h1,af⟩
    ·rw [hi.2 af] at h; cases h
 ·have:k=l.length:=by omega
  subst this;rw [List.take_length] at hm;exact ⟨aQ,hm⟩
def wh (g:bq) (out:List Item) (x:Item):Prop:=1000<=eu g x->∀ (p:Nat) (q:Prod),g.a1[p]?=some q->q.Left=eu g x - 1000->(⟨p,0⟩:Item)∈out
theorem GJ (g:bq) (aK:ga g) (l:List Item) (ai:l.length<=1000000):Tot (uK g l) λr=>eX gB r/\∀ x,x∈r↔nK g l x:=by
 have w4:=aK.hb;unfold uK;refine .au (sC g aK l ai) λbc h1=>.au (Ξ:=λr=>eX gB r/\∀ x,x∈r↔nK g l x) ?_ λr ah=>.ag ah;obtain ⟨sN,It⟩:=h1;refine Tot.loop (λs=>eX gB s.1/\(∀ x∈s.1,nK g l x)/\(∀ x∈l,iT g x->x∈s.1)/\(s.2=(s.1.length:Int)->∀ x∈s.1,wh g s.1 x)) (λs=>2 * (1000 - s.1.length)+(if s.2=(s.1.length:Int) then 0 else 1)) ⟨sN,λx j=>.base ((It x).1 j).1 ((It x).1 j).2,λx j hi=>(It x).2 ⟨j,hi⟩,λh=>by have h:(-1:Int)=_:=h; omega⟩ (by
  show 2 * (1000 - bc.length)+(if (-1:Int)=_ then 0 else 1)<1000000000000000000
  split <;> omega) λs aw=>?_
 obtain ⟨out,n⟩:=s;obtain ⟨aQ,gw,rP,ht⟩:=aw;simp only at aQ gw rP ht ⊢;have pt:=tK aK aQ λx j=>(gw x j).iT;refine Tot.iz (λcy=>?_) (λhe=>.ag ⟨aQ,λx=>⟨gw x,λj=>?_⟩⟩)
 ·refine .au (Ξ:=λJ:List Item × Int=>J.2=(out.length:Int)/\eX gB J.1/\(∀ x∈J.1,nK g l x)/\(∀ x∈out,x∈J.1)/\(J.1.length=out.length->∀ x∈J.1,wh g J.1 x)) ?_ λJ aj=>?_
  ·refine .au (Ξ:=λr:List Item=>eX gB r/\(∀ x∈r,nK g l x)/\(∀ x∈out,x∈r)/\(r.length=out.length->∀ x∈r,wh g r x)) ?_ λr ah=>.ag ⟨rfl,ah⟩;refine .au (Ξ:=λr:List Item=>eX gB r/\(∀ x∈r,nK g l x)/\(∀ x∈out,x∈r)/\(r.length=out.length->∀ x∈r,wh g r x)) ?_ λr ah=>.ag ah;refine Tot.count (λs=>s.2) out.length (λs=>∃ k:Nat,k<=out.length/\s.2=(k:Int)/\s.1=out/\∀ (J:Nat) (h:J<out.length),J<k->wh g out out[J]) ⟨0,Nat.zero_le _,rfl,rfl,λJ _ aj=>absurd aj (Nat.not_lt_zero _)⟩ (by show (out.length:Int) - 0<_; omega) λs aw=>?_;obtain ⟨cur,kD⟩:=s;obtain ⟨k,hk,rfl,rfl,M1⟩:=aw;simp only;rw [FI k (by omega)];refine Tot.bb (λaR=>?_) (λdq=>.ag ⟨aQ,gw,λ_ h=>h,λ_ x j=>?_⟩)
   ·have aR:k<cur.length:=by omega
    rw [d_ aR];have vH:=gw _ (List.getElem_mem aR);have IY:∀ P:Item->Prop,P cur[k]->∀ (J:Nat) (h:J<cur.length),J=k->P cur[J]:=λP ck J h e=>by subst e; exact ck
    generalize j:cur[k]=x at *;have ac8:=X0 aK x;have hw:aE (eu g x - 1000)=eu g x - 1000:=by rw [cq]; omega
    simp only [Option.bind_some,G8 g x,hw];refine (.au (Ξ:=λr:List Item=>eX gB r/\(∀ x∈r,nK g l x)/\(∀ x∈cur,x∈r)/\wh g r x) ?_ λr ah=>?_)
    ·refine Tot.count (λs=>s.2) g.a1.length (λs=>∃ i:Nat,i<=g.a1.length/\s.2=(i:Int)/\eX gB s.1/\(∀ x∈s.1,nK g l x)/\(∀ x∈cur,x∈s.1)/\∀ (p:Nat) (q:Prod),p<i->g.a1[p]?=some q->q.Left=eu g x - 1000->(⟨p,0⟩:Item)∈s.1) ⟨0,Nat.zero_le _,rfl,aQ,gw,λ_ h=>h,λp q ar=>absurd ar (Nat.not_lt_zero _)⟩ (by show (g.a1.length:Int) - 0<_; omega) λs aw=>?_;obtain ⟨o,pA⟩:=s;obtain ⟨i,hi,rfl,rS,Bt,El,vv⟩:=aw;simp only at rS Bt El vv ⊢;rw [FI i (by omega)];refine .au (Ξ:=λc:Bool=>(c=true->i<g.a1.length/\1000<=eu g x)/\(c=false->g.a1.length<=i\/eu g x<1000)) (Tot.bb (λh=>.ag ⟨λaH=>⟨by omega,of_decide_eq_true aH⟩,λaH=>.inr (by have:=of_decide_eq_false aH; omega)⟩) (λh=>.ag ⟨λaH=>(by cases aH),λ_=>.inl (by omega)⟩)) λc aa=>Tot.bj (λh=>?_) (λh=>.ag ⟨rS,Bt,El,λaO p q ar=>?_⟩)
     ·obtain ⟨Is,aO⟩:=aa.1 h;have No:g.a1[i]?=some g.a1[i]:=List.getElem?_eq_getElem Is;rw [d_ Is];refine .au (Ξ:=λo:List Item=>eX gB o/\(∀ x∈o,nK g l x)/\(∀ x∈cur,x∈o)/\∀ (p:Nat) (q:Prod),p<i+1->g.a1[p]?=some q->q.Left=eu g x - 1000->(⟨p,0⟩:Item)∈o) ?_ λo aV=>.ag ⟨⟨i+1,by omega,rfl,aV⟩,by show (i:Int)<((i+1:Nat):Int); omega,by show ((i+1:Nat):Int)<=_; omega⟩;refine Tot.sm (.au (Ξ:=λo:List Item=>eX gB o/\(∀ x∈o,nK g l x)/\(∀ x∈cur,x∈o)/\∀ (p:Nat) (q:Prod),p<i+1->g.a1[p]?=some q->q.Left=eu g x - 1000->(⟨p,0⟩:Item)∈o) (Tot.bb (λh=>?_) (λh=>.ag ⟨rS,Bt,El,λp q ar Bw a6=>?_⟩)) λo aV=>.ag aV)
      ·have Eg:=tK aK rS λx j=>(Bt x j).iT;refine .au (GA o ⟨(i:Nat),0⟩ rS (by omega)) λr ah=>.ag ⟨ah.1,λy ak=>?_,λy ak=>(ah.2 y).2 (.inl (El y ak)),λp q ar Bw a6=>?_⟩
       ·rcases (ah.2 y).1 ak with ak | rfl
        ·exact Bt y ak
        ·exact .step vH No (by omega) aO
       ·by_cases b2:p=i
        ·subst b2; exact (ah.2 _).2 (.inr rfl)
        ·exact (ah.2 _).2 (.inl (vv p q (by omega) Bw a6))
      ·by_cases b2:p=i
       ·subst b2;rw [No] at Bw; cases Bw;exact absurd a6 h
       ·exact vv p q (by omega) Bw a6
     ·rcases aa.2 h with h1 | h1
      ·exact vv p q (by have:=(List.getElem?_eq_some_iff.1 ar).1; omega) ar
      ·omega
    ·obtain ⟨Ep,Wd,lR,Wg⟩:=ah;have hle:cur.length<=r.length:=uE (aQ.nd vQ) lR;refine Tot.iz (λIw=>.ag ⟨Ep,Wd,lR,λe=>absurd (by omega) Iw⟩) (λheq=>?_);have n2:r.length=cur.length:=by omega
     have Wj:r=cur:=by
      have np:∀ y,y∈cur↔y∈r:=by
       intro y;refine ⟨lR y,λak=>Classical.byContradiction λaA=>?_⟩;have:=uE (l:=y::cur) (m:=r) (List.nodup_cons.2 ⟨aA,aQ.nd vQ⟩) λz aT=>by
        rcases List.mem_cons.1 aT with rfl | aT
        ·exact ak
        ·exact lR z aT
       simp at this;omega
      exact (eX.uniq vQ aQ Ep np).symm
     subst Wj;refine .ag ⟨⟨k+1,by omega,rfl,rfl,λJ aj fz=>?_⟩,by show (k:Int)<((k+1:Nat):Int); omega,by show ((k+1:Nat):Int)<=_; omega⟩;by_cases b2:J=k
     ·exact IY (wh g r) Wg J aj b2
     ·exact M1 J aj (by omega)
   ·obtain ⟨J,aj,rfl⟩:=List.mem_iff_getElem.1 j;exact M1 J aj (by omega)
  ·obtain ⟨h1,af,aF,bu,ct⟩:=aj;have hle:out.length<=J.1.length:=uE (aQ.nd vQ) bu;have eN:=tK aK af λx j=>(aF x j).iT;refine .ag ⟨⟨af,aF,λx j hi=>bu x (rP x j hi),λe=>ct (by show J.1.length=_; have e:J.2=(J.1.length:Int):=e; omega)⟩,?_⟩;show 2 * (1000 - J.1.length)+(if J.2=(J.1.length:Int) then 0 else 1)<2 * (1000 - out.length)+(if n=(out.length:Int) then 0 else 1)
   rw [if_neg cy];split
   ·omega
   ·have:J.1.length≠out.length:=λe=>by omega
    omega
 ·have aa:=ht he
  induction j with
  | base h hi=>exact rP _ h hi
  | @step x q p h ar aA aO aL=>exact aa x aL aO p q ar (by omega)
def Dm (g:bq) (l:List Item) (a:Int) (y:Item):Prop:=∃ x,nK g l x/\eu g x=a/\0<=a/\y=⟨x.Prod,x.e3+1⟩
theorem NQ {g:bq}(aK:ga g) {x:Item}(h:0<=eu g x):iT g ⟨x.Prod,x.e3+1⟩:=by
 obtain ⟨_,_,q,a6,aw⟩:=Om aK h;obtain ⟨aO,h1,_⟩:=n4 aw;exact ⟨q,a6,by show 0<=x.e3+1; omega,by show x.e3+1<=_; omega⟩
theorem Xr {g:bq}(aK:ga g) {x:Item}(h:iT g x):0<=x.e3/\x.e3<=8:=by
 obtain ⟨q,a6,aO,h1⟩:=h;have:=aK.aN q (n4 a6).2.2;omega
theorem Dm.iT {g:bq}(aK:ga g) {l:List Item}{a:Int}{y:Item}(h:Dm g l a y):iT g y:=by
 obtain ⟨x,_,h1,af,rfl⟩:=h;exact NQ aK (by omega)
theorem Sw (g:bq) (aK:ga g) (l:List Item) (a:Int) (ai:l.length<=1000000):Tot (xE g l a) λr=>eX gB r/\∀ y,y∈r↔Dm g l a y:=by
 unfold xE;refine .au (GJ g aK l ai) λc aa=>.au (Ξ:=λr=>eX gB r/\∀ y,y∈r↔Dm g l a y) ?_ λr ah=>.ag ah;have ht:=tK aK aa.1 λx j=>((aa.2 x).1 j).iT;refine Tot.count (λs=>s.2) c.length (λs=>∃ k:Nat,k<=c.length/\s.2=(k:Int)/\eX gB s.1/\∀ y,y∈s.1↔∃ x∈c.take k,eu g x=a/\0<=a/\y=⟨x.Prod,x.e3+1⟩) ⟨0,Nat.zero_le _,rfl,List.Pairwise.nil,λy=>by simp⟩ (by show (c.length:Int) - 0<_; omega) λs aw=>?_;obtain ⟨o,kD⟩:=s;obtain ⟨k,hk,rfl,rS,Bu⟩:=aw;simp only at rS Bu ⊢;rw [FI k (by omega)];refine Tot.bb (λaR=>?_) (λdq=>.ag ⟨rS,λy=>?_⟩)
 ·have aR:k<c.length:=by omega
  have W7:=((aa.2 _).1 (List.getElem_mem aR)).iT;have fp:c.take (k+1)=c.take k++[c[k]]:=kk aR;rw [d_ aR];generalize c[k]=x at *;have aP:=Xr aK W7;have hw:aE (x.e3+1)=x.e3+1:=by rw [cq]; omega
  refine .au (Ξ:=λo:List Item=>eX gB o/\∀ y,y∈o↔∃ x∈c.take (k+1),eu g x=a/\0<=a/\y=⟨x.Prod,x.e3+1⟩) ?_ λo aV=>.ag ⟨⟨k+1,by omega,rfl,aV⟩,by show (k:Int)<((k+1:Nat):Int); omega,by show ((k+1:Nat):Int)<=_; omega⟩;have np:∀ y,(∃ z∈c.take (k+1),eu g z=a/\0<=a/\y=(⟨z.Prod,z.e3+1⟩:Item))↔(y∈o\/(eu g x=a/\0<=a/\y=⟨x.Prod,x.e3+1⟩)):=by
   intro y;rw [Bu y,fp];constructor
   ·rintro ⟨z,aT,h⟩;rcases List.mem_append.1 aT with aT | aT
    ·exact .inl ⟨z,aT,h⟩
    ·rw [List.mem_singleton.1 aT] at h; exact .inr h
   ·rintro (⟨z,aT,h⟩ | h)
    ·exact ⟨z,by simp [aT],h⟩
    ·exact ⟨x,by simp,h⟩
  simp only [Option.bind_some,G8 g x,hw];refine (.au (Ξ:=λb:Bool=>b=decide (0<=eu g x/\eu g x=a)) (Tot.bb (λh=>.ag (by simp [h])) (λh=>.ag (by simp [h]))) λb av=>?_);subst av;refine .au (Ξ:=λo:List Item=>eX gB o/\∀ y,y∈o↔∃ x∈c.take (k+1),eu g x=a/\0<=a/\y=⟨x.Prod,x.e3+1⟩) (Tot.bb (λh=>?_) (λh=>.ag ⟨rS,λy=>?_⟩)) λo aV=>.ag aV
  ·have pt:=tK aK rS λy ak=>by
    obtain ⟨z,_,h1,af,rfl⟩:=(Bu y).1 ak;exact NQ aK (by omega)
   refine (.au (GA o _ rS (by omega)) λr ah=>.ag ⟨ah.1,λy=>?_⟩);rw [ah.2 y,np y];constructor
   ·rintro (h1 | h1)
    ·exact .inl h1
    ·exact .inr ⟨h.2,by omega,h1⟩
   ·rintro (h1 | h1)
    ·exact .inl h1
    ·exact .inr h1.2.2
  ·rw [np y];exact ⟨.inl,λaH=>aH.elim id λaH=>absurd ⟨by omega,aH.1⟩ h⟩
 ·have:k=c.length:=by omega
  subst this;rw [List.take_length] at Bu;rw [Bu y];constructor
  ·rintro ⟨x,j,h⟩;exact ⟨x,(aa.2 x).1 j,h⟩
  ·rintro ⟨x,j,h⟩;exact ⟨x,(aa.2 x).2 j,h⟩
def hJ (a b:Int):Bool:=decide (a<b)
theorem Jt {a b:Int}:hJ a b=true↔a<b:=by simp [hJ]
theorem Ju {a b:Int}:hJ a b=false↔¬ a<b:=by simp [hJ]
theorem E_:Ord hJ where
 swo:=⟨λx=>by rw [Ju]; omega,λx y z h1 af=>by rw [Jt] at *; omega,λx y z h1 af=>by rw [Ju] at *; omega⟩
 iY:=λx y h1 af=>by rw [Ju] at *; omega
theorem Gr {l:List Int}(ai:eX hJ l) {i J:Nat}(hi:i<l.length) (aj:J<l.length) (h:i<J):hJ l[i] l[J]=true:=List.pairwise_iff_getElem.1 ai i J hi aj h
theorem AJ (l:List Int) (x:Int) (ai:eX hJ l) (aA:l.length<=100000):Tot (pN l x) λr=>eX hJ r/\r.length<=l.length+1/\(∀ y,y∈r↔y∈l\/y=x):=by
 unfold pN;refine .au (Ξ:=λz:Int=>∃ k:Nat,z=(k:Int)/\k<=l.length/\(∀ (i:Nat) (h:i<l.length),k<=i->hJ x l[i]=true)/\∀ (h:0<k),hJ x (l[k - 1]?.getD default)=false) ?_ λz aT=>?_
 ·refine Tot.count (λs=>-s) 1 (λs=>∃ k:Nat,s=(k:Int)/\k<=l.length/\∀ (i:Nat) (h:i<l.length),k<=i->hJ x l[i]=true) ⟨l.length,rfl,Nat.le_refl _,λi h hk=>by omega⟩ (by show 1 - -(l.length:Int)<_; omega) λs aw=>?_;obtain ⟨k,rfl,hk,ur⟩:=aw;refine .au (Ξ:=λc:Bool=>(c=true->0<k/\hJ x (l[k - 1]?.getD default)=true)/\(c=false->∀ (h:0<k),hJ x (l[k - 1]?.getD default)=false)) ?_ λc aa=>Tot.bj (λh=>?_) (λh=>.ag ⟨k,rfl,hk,ur,aa.2 h⟩)
  ·refine Tot.bb (λh=>?_) (λh=>.ag ⟨λaH=>(by cases aH),λ_ aH=>by omega⟩);have gj:k - 1<l.length:=by omega
   have hw:aE ((k:Int) - 1)=((k - 1:Nat):Int):=by rw [cq]; omega
   rw [hw,d_ gj,List.getElem?_eq_getElem gj];simp only [Option.bind_some,Option.getD_some];exact .ag ⟨λaH=>⟨by omega,aH⟩,λaH _=>aH⟩
  ·obtain ⟨aO,h1⟩:=aa.1 h;refine .ag ⟨⟨k - 1,by rw [cq]; omega,by omega,λi hi VO=>?_⟩,by show -(k:Int) < -aE _; rw [cq]; omega,by show -aE _<=1; rw [cq]; omega⟩
   grind
 ·obtain ⟨k,rfl,hk,ur,ly⟩:=aT;refine .au (Ξ:=λc:Bool=>(c=true↔(0<k/\l[k - 1]?.getD default=x))) ?_ λc aa=>Tot.bj (λh=>?_) (λh=>?_)
  ·refine Tot.bb (λh=>?_) (λh=>.ag ⟨λaH=>(by cases aH),λaH=>by omega⟩);have gj:k - 1<l.length:=by omega
   have hw:aE ((k:Int) - 1)=((k - 1:Nat):Int):=by rw [cq]; omega
   rw [hw,d_ gj,List.getElem?_eq_getElem gj];simp only [Option.bind_some,Option.getD_some];generalize l[k - 1]=y;refine .ag ?_
   grind
  ·obtain ⟨aO,h1⟩:=aa.1 h;have gj:k - 1<l.length:=by omega
   rw [List.getElem?_eq_getElem gj] at h1;have j:x∈l:=by rw [<- h1]; exact List.getElem_mem gj
   exact .ag ⟨ai,by omega,λy=>⟨.inl,λh=>h.elim id λe=>e ▸ j⟩⟩
  ·have cy:∀ (i:Nat) (hi:i<l.length),i<k->hJ l[i] x=true:=by
    intro i hi Eb;have gj:k - 1<l.length:=by omega
    have ly:=ly (by omega);have aA:l[k - 1]?.getD default≠x:=λe=>by rw [aa.2 ⟨by omega,e⟩] at h; cases h
    rw [List.getElem?_eq_getElem gj] at ly aA;simp only [Option.getD_some] at ly aA;have fL:hJ l[k - 1] x=true:=by
     grind [hJ]
    by_cases e:i=k - 1
    ·grind
    ·exact E_.swo.trans _ _ _ (Gr ai hi gj (by omega)) fL
   refine .au (Ξ:=λz=>z=l.take k) (Tot.sub ⟨by omega,by omega,by omega⟩ (by simp)) λz aT=>?_;subst aT;refine .au (Ξ:=λ_=>True) (Tot.ap (by simp [lim]; omega) trivial) λ_ _=>.au (Ξ:=λ_=>True) (Tot.ap (by simp [lim]; omega) trivial) λ_ _=>?_;refine .au (Ξ:=λz=>z=l.drop k) (Tot.sub ⟨by omega,by omega,by omega⟩ ?_) λz aT=>?_
   ·grind [List.take_of_length_le]
   subst aT;refine .au (Ξ:=λ_=>True) (Tot.ap (by simp [lim]; omega) trivial) λ_ _=>.ag ?_;rw [List.nil_append];refine ⟨?_,?_,?_⟩
   ·have h1:∀ a∈l.take k,hJ a x=true:=by
     grind [List.mem_iff_getElem]
    have af:∀ a∈l.drop k,hJ x a=true:=by
     grind [List.mem_iff_getElem]
    unfold eX;rw [List.append_assoc,List.pairwise_append];refine ⟨List.Pairwise.sublist (List.take_sublist k l) ai,?_,λa aQ b av=>?_⟩
    ·rw [List.singleton_append,List.pairwise_cons];exact ⟨af,List.Pairwise.sublist (List.drop_sublist k l) ai⟩
    ·rcases List.mem_append.1 av with av | av
     ·grind
     ·exact E_.swo.trans _ _ _ (h1 a aQ) (af b av)
   ·grind
   grind [List.take_append_drop]
theorem Tp (x y:Item):(decide (x.Prod=y.Prod)&&(decide (x.e3=y.e3)&&true))=decide (x=y):=by
 obtain ⟨bc,x2⟩:=x;obtain ⟨bT,y2⟩:=y;simp
theorem R8 (a b:List Item) (h:a.length<=1000000):Tot (Cl a b) λc=>(c=true↔a=b):=by
 unfold Cl;refine Tot.iz (λcy=>.ag ⟨λh=>(by cases h),λe=>absurd (by rw [e]) cy⟩) (λhe=>?_);have ai:a.length=b.length:=by omega
 refine Tot.au (Ξ:=ft (λ_=>a=b) (λx:Bool=>x=false/\a≠b)) ?_ λx j=>?_
 ·refine Tot.count (λs=>s) a.length (λs=>∃ k:Nat,k<=a.length/\s=(k:Int)/\∀ (J:Nat) (h:J<a.length),J<k->a[J]=b[J]) ⟨0,Nat.zero_le _,rfl,λJ _ aj=>absurd aj (Nat.not_lt_zero _)⟩ (by show (a.length:Int) - 0<_; omega) λs aw=>?_;obtain ⟨k,hk,rfl,ke⟩:=aw;rw [ep k (by omega)];refine Tot.bb (λaR=>?_) (λdq=>.ag ?_)
  ·have aR:k<a.length:=by omega
   have y3:k<b.length:=by omega
   rw [d_ aR,d_ y3];simp only [Option.bind_some,Tp];refine Tot.iz (λcy=>.ag ⟨rfl,λe=>cy (by subst e; rfl)⟩) (λheq=>.ag ⟨⟨k+1,by omega,rfl,λJ aj fz=>?_⟩,by show (k:Int)<((k+1:Nat):Int); omega,by show ((k+1:Nat):Int)<=_; omega⟩);by_cases e:J=k
   ·subst e; exact heq
   ·exact ke J aj (by omega)
  ·exact List.ext_getElem ai λi h1 af=>ke i h1 (by omega)
 ·rcases x with _ | x
  ·exact .ag ⟨λ_=>j,λ_=>rfl⟩
  ·obtain ⟨rfl,cy⟩:x=false/\a≠b:=j;exact .ag ⟨λh=>(by cases h),λh=>absurd h cy⟩
def syms (g:bq):List Int:=(List.range g.aX.length).map (λk:Nat=>(k:Int))++(List.range g.bO.length).map (λk:Nat=>1000+(k:Int))
theorem Sv (g:bq) (aV:ga g):Tot (vT g) λl=>l=syms g:=by
 have cX:=aV.j6;have a7:=aV.de;unfold vT;refine .au (Ξ:=λl:List Int=>l=(List.range g.aX.length).map (λk:Nat=>(k:Int))) ?_ λl ai=>?_
 ·refine Tot.upto (λs=>s.2) g.aX.length (λk s=>s.1=(List.range k).map (λk:Nat=>(k:Int))) rfl (by omega) rfl λk s hk he ba=>?_;obtain ⟨l,i⟩:=s;simp only at he ba ⊢;subst he ba;rw [ep k (by omega)];refine Tot.bb (λaR=>?_) (λdq=>.ag ?_)
  ·refine .au (Ξ:=λ_=>True) (Tot.ap (by simp [lim]; omega) trivial) λ_ _=>.ag ⟨by omega,rfl,?_⟩;show _=(List.range (k+1)).map _;rw [List.range_succ,List.map_append]; rfl
  ·have:k=g.aX.length:=by omega
   subst this; rfl
 ·subst ai;refine .au (Ξ:=λl:List Int=>l=syms g) ?_ λr ah=>.ag ah;refine Tot.upto (λs=>s.2) g.bO.length (λk s=>s.1=(List.range g.aX.length).map (λk:Nat=>(k:Int))++(List.range k).map (λk:Nat=>1000+(k:Int))) rfl (by omega) (by simp) λk s hk he ba=>?_;obtain ⟨l,i⟩:=s;simp only at he ba ⊢;subst he ba;rw [ep k (by omega)];refine Tot.bb (λaR=>?_) (λdq=>.ag ?_)
  ·refine .au (Ξ:=λ_=>True) (Tot.ap (by simp [lim]; omega) trivial) λ_ _=>.ag ⟨by omega,rfl,?_⟩;have hw:aE (1000+(k:Int))=1000+(k:Int):=by rw [cq]; omega
   show _=_++(List.range (k+1)).map _;rw [hw,List.range_succ,List.map_append,List.append_assoc]; rfl
  ·have:k=g.bO.length:=by omega
   subst this; rfl
theorem ZI (g:bq):(syms g).length=g.aX.length+g.bO.length:=by simp [syms]
theorem XO {g:bq}{s:Int}:s∈syms g↔(0<=s/\s<g.aX.length)\/(1000<=s/\s<1000+g.bO.length):=by
 unfold syms;rw [List.mem_append,List.mem_map,List.mem_map];constructor
 ·rintro (⟨k,hk,rfl⟩ | ⟨k,hk,rfl⟩)
  ·rw [List.mem_range] at hk; exact .inl (by omega)
  ·rw [List.mem_range] at hk; exact .inr (by omega)
 ·rintro (h | h)
  ·exact .inl ⟨s.toNat,by rw [List.mem_range]; omega,by omega⟩
  ·exact .inr ⟨(s - 1000).toNat,by rw [List.mem_range]; omega,by omega⟩
theorem ZJ {g:bq}(aV:ga g):(syms g).Nodup:=by
 have al:=aV.j6;unfold syms;rw [List.nodup_append];refine ⟨List.pairwise_map.2 ((List.nodup_range (n:=g.aX.length)).imp λ{a b} h e=>h (by omega)),List.pairwise_map.2 ((List.nodup_range (n:=g.bO.length)).imp λ{a b} h e=>h (by omega)),λa aQ b av=>?_⟩;obtain ⟨i,hi,rfl⟩:=List.mem_map.1 aQ;obtain ⟨J,aj,rfl⟩:=List.mem_map.1 av;rw [List.mem_range] at hi;omega
structure yg (g:bq) (K:List Item):Prop where
 a:eX gB K
 i:∀ x∈K,iT g x
theorem yg.len {g:bq}(aV:ga g) {K:List Item}(h:yg g K):K.length<=540:=tK aV h.a h.i
theorem LF (l:List Int) (x:Int) (h:l.length<=1000000):Tot (uJ l x) λc=>(c=true↔x∈l):=by
 unfold uJ;refine .au (Ξ:=ft (λ_=>x∉l) (λr:Bool=>r=true/\x∈l)) ?_ λr ah=>?_
 ·refine Tot.upto (λs=>s) l.length (λk s=>x∉l.take k) rfl (by omega) (by simp) λk s hk he ba=>?_;subst he;rw [ep k (by omega)];refine Tot.bb (λaR=>?_) (λdq=>.ag ?_)
  ·have aR:k<l.length:=by omega
   rw [d_ aR];simp only [Option.bind_some];refine Tot.bb (λe=>.ag ⟨rfl,by rw [<- e]; exact List.getElem_mem aR⟩) (λe=>.ag ⟨aR,rfl,?_⟩);rw [kk aR,List.mem_append,List.mem_singleton];exact λh=>h.elim ba λh=>e h.symm
  ·rw [List.take_of_length_le (by omega)] at ba;exact ba
 ·rcases r with r | r
  ·exact .ag ⟨λh=>(by cases h),λh=>absurd h ah⟩
  ·obtain ⟨rfl,h⟩:=ah;exact .ag ⟨λ_=>h,λ_=>rfl⟩
theorem Sx (m:List State) (k:List Item) (aO:m.length<=1000) (h1:∀ st∈m,st.Kernel.length<=1000000):Tot (CD m k) λr=>-1<=r/\r<m.length:=by
 unfold CD;refine .au (Ξ:=ft (λ_=>True) (λr:Int=>0<=r/\r<m.length)) ?_ λx j=>?_
 ·refine Tot.upto (λs=>s) m.length (λ_ _=>True) rfl (by omega) trivial λJ s aj he _=>?_;subst he;rw [ep J (by omega)];refine Tot.bb (λaR=>?_) (λdq=>.ag trivial);have aR:J<m.length:=by omega
  rw [d_ aR];refine Tot.sm (.au (R8 _ k (h1 _ (List.getElem_mem aR))) λc aa=>Tot.bj (λh=>.ag ⟨by omega,by omega⟩) (λh=>.ag ⟨aR,rfl,trivial⟩))
 ·rcases x with x | x
  ·exact .ag ⟨by omega,by omega⟩
  ·have j:0<=x/\x<m.length:=j;exact .ag ⟨by omega,by omega⟩
structure yl (g:bq) (n:Nat) (v:Move):Prop where
 s:v.Sym∈syms g
 t0:0<=v.js
 t1:v.js<n
structure l5 (g:bq) (m:List State) (q J:Nat):Prop where
 gL:0<m.length
 lU:m.length<=150
 qs:∀ st∈m,yg g st.Kernel
 ms:∀ (i:Nat) (st:State),m[i]?=some st->(st.eD.map (·.Sym)).Sublist (if i<q then syms g else if i=q then (syms g).take J else [])
 a8:∀ st∈m,∀ v∈st.eD,yl g m.length v
structure mv (g:bq) (m:List State):Prop where
 gL:0<m.length
 lU:m.length<=150
 qs:∀ st∈m,yg g st.Kernel
 xm:∀ st∈m,st.eD.length<=64
 nd:∀ st∈m,(st.eD.map (·.Sym)).Nodup
 a8:∀ st∈m,∀ v∈st.eD,yl g m.length v
theorem yl.up {g:bq}{n cf:Nat}{v:Move}(h:yl g n v) (aA:n<=cf):yl g cf v:=⟨h.s,h.t0,by have:=h.t1; omega⟩
theorem l5.put {g:bq}{m:List State}{q J:Nat}(h:l5 g m q J) {st:State}(a6:m[q]?=some st) {v:Move}(hv:yl g m.length v) (aj:(syms g)[J]?=some v.Sym):l5 g (m.set q ⟨st.Kernel,st.eD++[v]⟩) q (J+1):=by
 have mL:=(List.getElem?_eq_some_iff.1 a6).1;have hm:=List.mem_of_getElem? a6;refine ⟨by rw [List.length_set]; exact h.gL,by rw [List.length_set]; exact h.lU,λs aw=>?_,λi s aw=>?_,λs aw w hw=>?_⟩
 ·rcases List.mem_or_eq_of_mem_set aw with aH | aH
  ·exact h.qs s aH
  ·rw [aH]; exact h.qs st hm
 ·rw [uT mL] at aw;by_cases e:i=q
  ·subst e;rw [if_pos rfl] at aw; cases aw;have:=h.ms i st a6;rw [if_neg (by omega),if_pos rfl] at this ⊢;rw [List.map_append,List.take_add_one,aj];exact this.append (List.Sublist.refl _)
  ·rw [if_neg e] at aw;have:=h.ms i s aw;rw [if_neg e] at this ⊢;exact this
 ·rw [List.length_set];rcases List.mem_or_eq_of_mem_set aw with aH | aH
  ·exact h.a8 s aH w hw
  ·rw [aH] at hw;rcases List.mem_append.1 hw with hw | hw
   ·exact h.a8 st hm w hw
   ·rw [List.mem_singleton.1 hw]; exact hv
theorem l5.more {g:bq}{m:List State}{q J:Nat}(h:l5 g m q J) (ai:m.length<150) {K:List Item}(hk:yg g K):l5 g (m++[⟨K,[]⟩]) q J:=by
 refine ⟨by simp,by simp; omega,λs aw=>?_,λi s aw=>?_,λs aw w hw=>?_⟩
 ·rcases List.mem_append.1 aw with aw | aw
  ·exact h.qs s aw
  ·rw [List.mem_singleton.1 aw]; exact hk
 ·by_cases e:i<m.length
  ·rw [List.getElem?_append_left e] at aw; exact h.ms i s aw
  ·rw [List.getElem?_append_right (by omega)] at aw;have:s=⟨K,[]⟩:=by
    have:=List.mem_of_getElem? aw;simpa using this
   rw [this]; exact List.nil_sublist _
 ·rcases List.mem_append.1 aw with aw | aw
  ·exact (h.a8 s aw w hw).up (by simp)
  ·rw [List.mem_singleton.1 aw] at hw; cases hw
theorem l5.mono {g:bq}{m:List State}{q J vK:Nat}(h:l5 g m q J) (aj:J<=vK):l5 g m q vK:=by
 refine ⟨h.gL,h.lU,h.qs,λi s aw=>?_,h.a8⟩;have:=h.ms i s aw;split
 ·rename_i e; rw [if_pos e] at this; exact this
 ·rename_i e; rw [if_neg e] at this;split
  ·rename_i b8; rw [if_pos b8] at this;exact this.trans (List.take_sublist_take_left aj)
  ·rename_i b8; rw [if_neg b8] at this; exact this
theorem l5.next {g:bq}{m:List State}{q J:Nat}(h:l5 g m q J):l5 g m (q+1) 0:=by
 refine ⟨h.gL,h.lU,h.qs,λi s aw=>?_,h.a8⟩;have:=h.ms i s aw;by_cases e:i<q+1
 ·rw [if_pos e]
  split at this
  ·exact this
  ·split at this
   ·exact this.trans (List.take_sublist _ _)
   ·exact this.trans (List.nil_sublist _)
 ·rw [if_neg (by omega),if_neg (by omega)] at this;rw [if_neg e];exact this.trans (List.nil_sublist _)
theorem Sq (g:bq) (aV:ga g):Tot (sd g) λr=>(r.2=0/\mv g r.1)\/r.2=4:=by
 have cX:=aV.j6;have a7:=aV.de;have ck:=aV.hb;unfold sd;refine Tot.au (Sv g aV) λbc h1=>?_;subst h1;have gR:=ZI g;refine Tot.au (Ξ:=ft (λm=>l5 g m m.length 0) (λr:List State × Int=>r.2=4)) ?_ λx j=>?_
 ·refine Tot.loop (λs=>∃ q:Nat,s.2=(q:Int)/\q<=s.1.length/\l5 g s.1 q 0) (λs=>151 - s.2.toNat) ⟨0,rfl,Nat.zero_le _,⟨by simp,by simp,λs aw=>?_,λi s aw=>?_,λs aw v hv=>?_⟩⟩ (by show 151 - 0<1000000000000000000; omega) λs bL=>?_
  ·rw [List.mem_singleton.1 aw];refine ⟨List.pairwise_singleton ..,λx j=>?_⟩;rw [List.mem_singleton.1 j];obtain ⟨q,a6⟩:∃ q,g.a1[0]?=some q:=⟨g.a1[0]'(by omega),List.getElem?_eq_getElem _⟩;exact NR (p:=0) a6
  ·have:=List.mem_of_getElem? aw;rw [List.mem_singleton.1 this]; exact List.nil_sublist _
  ·rw [List.mem_singleton.1 aw] at hv; cases hv
  obtain ⟨q,he,a6,jF⟩:=bL;obtain ⟨m,i⟩:=s;simp only at he a6 jF ⊢;subst he;have qX:=jF.lU;rw [ep q (by omega)];refine Tot.bb (λaR=>?_) (λdq=>.ag ?_)
  ·have aR:q<m.length:=by omega
   rw [d_ aR];have c5:=jF.qs _ (List.getElem_mem aR);refine Tot.sm (Tot.au (GJ g aV _ (by have:=c5.len aV; omega)) λc aa=>?_);have ht:=tK aV aa.1 λx j=>((aa.2 x).1 j).iT;refine Tot.au (Ξ:=λl:List Int=>l.length<=1000) ?_ λRj acH=>?_
   ·refine Tot.upto (λs=>s.2) c.length (λk s=>eX hJ s.1/\s.1.length<=k) rfl (by omega) ⟨.nil,Nat.le_refl 0⟩ λk s hk he ba=>?_;obtain ⟨l,i⟩:=s;obtain ⟨g1,g2⟩:=ba;simp only at he g1 g2 ⊢;subst he;rw [ep k (by omega)];refine Tot.bb (λaR=>?_) (λdq=>.ag (show l.length<=1000 by omega));have aR:k<c.length:=by omega
    rw [d_ aR];refine .au (Ξ:=λl:List Int=>eX hJ l/\l.length<=k+1) ?_ λo aV=>.ag ⟨aR,rfl,aV⟩;refine Tot.sm ?_;rw [G8 g _];refine Tot.sm (.au (Ξ:=λl:List Int=>eX hJ l/\l.length<=k+1) ?_ λo aV=>.ag aV);refine Tot.bb (λar=>.au (AJ l _ g1 (by omega)) λr ah=>.ag ⟨ah.1,by have:=ah.2.1; omega⟩) (λar=>.ag ⟨g1,by omega⟩)
   ·refine Tot.au (Ξ:=ft (λm=>l5 g m q (syms g).length/\q<m.length) (λr:List State × Int=>r.2=4)) ?_ λx j=>?_
    ·refine Tot.upto (λs=>s.2) (syms g).length (λk s=>l5 g s.1 q k/\q<s.1.length) rfl (by omega) ⟨jF,aR⟩ λk s hk he ba=>?_;obtain ⟨m,i⟩:=s;obtain ⟨tZ,mL⟩:=ba;simp only at he tZ mL ⊢;subst he;rw [ep k (by omega)];have Bo:=tZ.lU;refine Tot.bb (λaR=>?_) (λdq=>.ag ?_)
     ·have aR:k<(syms g).length:=by omega
      have qi:=List.getElem_mem aR;have pw:(syms g)[k]?=some (syms g)[k]:=List.getElem?_eq_getElem aR;rw [d_ aR];generalize (syms g)[k]=s at *;refine Tot.sm (Tot.au (LF Rj s (by omega)) λdx _=>?_);refine Tot.bj (λ_=>.ag ⟨aR,rfl,tZ.mono (by omega),mL⟩) (λ_=>?_);have nY:m[q]?=some m[q]:=List.getElem?_eq_getElem mL;have c5:=tZ.qs _ (List.getElem_mem mL);rw [d_ mL];generalize m[q]=st at *;refine Tot.sm (Tot.sm (Tot.au (Sw g aV st.Kernel s (by have:=c5.len aV; omega)) λDh D5=>?_));have iA:yg g Dh:=⟨D5.1,λy ak=>((D5.2 y).1 ak).iT aV⟩;refine Tot.au (Sx m Dh (by omega) λt al=>by have:=(tZ.qs t al).len aV; omega) λz aT=>?_;have Wp:=(tZ.ms q st nY).length_le;rw [if_neg (by omega),if_pos rfl,List.length_map,List.length_take] at Wp;refine Tot.bb (λac_=>Tot.bb (λ_=>.ag rfl) (λac'=>?_)) (λuk=>?_)
      ·refine .au (Ξ:=λ_=>True) (Tot.ap (by simp [lim]; omega) trivial) λ_ _=>?_;have Ut:=tZ.more (by omega) iA;have M6:(m++[(⟨Dh,[]⟩:State)])[q]?=some st:=by rw [List.getElem?_append_left mL]; exact nY
       have Bk:idx (m++[(⟨Dh,[]⟩:State)]) (q:Int)=some st:=by simp only [idx,if_pos (show (0:Int)<=(q:Int) by omega),Int.toNat_natCast]; exact M6
       rw [Bk];refine Tot.sm (Tot.sm ?_);refine .au (Ξ:=λ_=>True) (Tot.ap (by simp [lim]; omega) trivial) λ_ _=>.ag ⟨aR,rfl,?_⟩;refine ⟨?_,by show q<(List.set _ _ _).length; rw [List.length_set]; simp; omega⟩;show l5 g (List.set _ (q:Int).toNat _) q (k+1);rw [Int.toNat_natCast];exact Ut.put M6 ⟨qi,by show (0:Int)<=(m.length:Int); omega,by show (m.length:Int)<_; simp; omega⟩ pw
      ·refine Tot.sm (Tot.sm ?_);refine .au (Ξ:=λ_=>True) (Tot.ap (by simp [lim]; omega) trivial) λ_ _=>.ag ⟨aR,rfl,?_⟩;refine ⟨?_,by show q<(List.set _ _ _).length; rw [List.length_set]; exact mL⟩;show l5 g (List.set _ (q:Int).toNat _) q (k+1);rw [Int.toNat_natCast];exact tZ.put nY ⟨qi,by show 0<=z; omega,aT.2⟩ pw
     ·have:k=(syms g).length:=by omega
      subst this;exact ⟨tZ,mL⟩
    ·rcases x with x | x
     ·obtain ⟨h1,af⟩:=j;refine .ag ⟨⟨q+1,rfl,af,h1.next⟩,?_⟩;show 151 - ((q+1:Nat):Int).toNat<151 - (q:Int).toNat;omega
     ·exact .ag j
  ·have:q=m.length:=by omega
   subst this;exact jF
 ·rcases x with x | x
  ·have j:l5 g x x.length 0:=j;have key:∀ st∈x,(st.eD.map (·.Sym)).Sublist (syms g):=λst bL=>by
    obtain ⟨i,hi⟩:=List.getElem?_of_mem bL;have:=j.ms i st hi;rw [if_pos (List.getElem?_eq_some_iff.1 hi).1] at this;exact this
   refine .ag (.inl ⟨rfl,j.gL,j.lU,j.qs,λst bL=>?_,λst bL=>(key st bL).nodup (ZJ aV),j.a8⟩);have:=(key st bL).length_le;rw [List.length_map] at this; omega
  ·exact .ag (.inr j)
theorem Xf {α:Type}{m:List α}{q:Nat}{x:α}(h:m[q]?=some x):idx m (q:Int)=some x:=by simp [idx,h]
def GoTo (m:List State) (a s r:Int):Prop:=(r=-1/\∀ st,idx m a=some st->∀ v∈st.eD,v.Sym≠s)\/∃ st v,idx m a=some st/\v∈st.eD/\v.Sym=s/\r=v.js
theorem va (m:List State) (a s:Int) (hm:∀ st∈m,st.eD.length<=64):Tot (q' m a s) (GoTo m a s):=by
 unfold q';by_cases aO:0<=a/\a<(m.length:Int)
 ·obtain ⟨st,bL,np⟩:=n9 aO.1 aO.2;have ai:=hm st np;have d1:decide (0<=a)=true:=decide_eq_true aO.1;have d2:decide (a<(m.length:Int))=true:=decide_eq_true aO.2;rw [d1,d2];simp only [cond_true,bL,Option.bind_some];refine .au (Ξ:=ft (λ_=>∀ v∈st.eD,v.Sym≠s) (λr:Int=>∃ v,v∈st.eD/\v.Sym=s/\r=v.js)) ?_ λx j=>?_
  ·refine Tot.upto (λs=>s) st.eD.length (λk _=>∀ v∈st.eD.take k,v.Sym≠s) rfl (by omega) (by simp) λk i hk he ba=>?_;subst he;rw [ep k (by omega)];refine Tot.bb (λaR=>?_) (λdq=>.ag (by
    show ∀ v∈st.eD,v.Sym≠s;rw [List.take_of_length_le (by omega)] at ba; exact ba))
   have aR:k<st.eD.length:=by omega
   rw [d_ aR];simp only [Option.bind_some];refine Tot.bb (λe=>.ag ⟨_,List.getElem_mem aR,e,rfl⟩) (λe=>.ag ⟨aR,rfl,λv hv=>?_⟩);rw [kk aR,List.mem_append,List.mem_singleton] at hv;rcases hv with hv | rfl
   ·exact ba v hv
   ·exact e
  ·rcases x with x | x
   ·exact .ag (.inl ⟨rfl,λPQ aH=>by rw [bL] at aH; cases aH; exact j⟩)
   ·obtain ⟨v,h1,af,aF⟩:=j;exact .ag (.inr ⟨st,v,bL,h1,af,aF⟩)
 ·refine .au (Ξ:=ft (λ_=>True) (λ_:Int=>False)) (Tot.loop (λ_=>True) (λ_=>0) trivial (by show 0<1000000000000000000; omega) λi _=>?_) λx j=>?_
  ·refine .au (Ξ:=λc=>c=false) ?_ λc aa=>by subst aa; exact .ag trivial
   refine Tot.bb (λh1=>Tot.bb (λaf=>absurd ⟨h1,af⟩ aO) (λ_=>.ag rfl)) (λ_=>.ag rfl)
  ·rcases x with x | x
   ·refine .ag (.inl ⟨rfl,λst aH=>absurd ⟨(n4 aH).1,(n4 aH).2.1⟩ aO⟩)
   ·exact j.elim
theorem GoTo.aW {g:bq}{m:List State}(hm:mv g m) {a s r:Int}(h:GoTo m a s r):-1<=r/\r<m.length:=by
 rcases h with ⟨rfl,_⟩ | ⟨st,v,h1,af,_,rfl⟩
 ·have:=hm.gL; exact ⟨by omega,by omega⟩
 ·have:=hm.a8 st (n4 h1).2.2 v af;exact ⟨by have:=this.t0; omega,this.t1⟩
theorem GoTo.yes {g:bq}{m:List State}(hm:mv g m) {a s r:Int}(h:GoTo m a s r) {st:State}{v:Move}(aw:idx m a=some st) (hv:v∈st.eD) (e:v.Sym=s):0<=r/\r<m.length:=by
 rcases h with ⟨rfl,h⟩ | ⟨st,v,h1,af,_,rfl⟩
 ·exact absurd e (h st aw v hv)
 ·have:=hm.a8 st (n4 h1).2.2 v af;exact ⟨this.t0,this.t1⟩
theorem LH {g:bq}{m:List State}(hm:mv g m) (a:Int) (l:List Int) (aQ:-1<=a/\a<m.length) (ai:l.length<=1000):Tot (zG m a l) λr=>-1<=r/\r<m.length:=by
 unfold zG;refine .au (Ξ:=λr:Int=>-1<=r/\r<m.length) ?_ λr ah=>.ag ah;refine Tot.upto (λs=>s.2) l.length (λ_ s=>-1<=s.1/\s.1<m.length) rfl (by omega) aQ λk s hk he ba=>?_;obtain ⟨r,i⟩:=s;simp only at he ba ⊢;subst he;rw [ep k (by omega)];refine .au (Ξ:=λc=>c=true->k<l.length) (Tot.bb (λh=>.ag λ_=>by omega) (λ_=>.ag λh=>by cases h)) λc aa=>Tot.bj (λh=>?_) (λ_=>.ag ba);have aR:=aa h;rw [d_ aR];exact Tot.sm (.au (va m r _ hm.xm) λz aT=>.ag ⟨aR,rfl,aT.aW hm⟩)
def u7 (m:List State) (t:Trans):Prop:=∃ st v,idx m t.State=some st/\v∈st.eD/\v.Sym=t.e4/\1000<=t.e4
structure wk (m:List State) (l:List Trans):Prop where
 n:l.length<=9600
 ok:∀ t∈l,u7 m t
 gY:∀ (q:Nat) (st:State) (v:Move),m[q]?=some st->v∈st.eD->1000<=v.Sym->(⟨q,v.Sym⟩:Trans)∈l
theorem SB {g:bq}{m:List State}(hm:mv g m):Tot (qx m) (wk m):=by
 have aA:=hm.lU;unfold qx;refine .au (Ξ:=wk m) ?_ λr ah=>.ag ah;refine Tot.upto (λs=>s.2) m.length (λk s=>s.1.length<=64 * k/\(∀ t∈s.1,u7 m t)/\∀ (q:Nat) (st:State) (v:Move),q<k->m[q]?=some st->v∈st.eD->1000<=v.Sym->(⟨q,v.Sym⟩:Trans)∈s.1) rfl (by omega) ⟨Nat.le_refl 0,λt h=>(by cases h),λq _ _ h=>absurd h (Nat.not_lt_zero _)⟩ λk s hk he ba=>?_;obtain ⟨l,i⟩:=s;obtain ⟨h1,af,aF⟩:=ba;simp only at he h1 af aF ⊢;subst he;rw [ep k (by omega)];refine Tot.bb (λaR=>?_) (λdq=>.ag ⟨?_,af,λq st v a6=>aF q st v ?_ a6⟩)
 ·have aR:k<m.length:=by omega
  have nY:m[k]?=some m[k]:=List.getElem?_eq_getElem aR;have np:=List.getElem_mem aR;rw [d_ aR];generalize m[k]=st at *;have Bo:=hm.xm st np;simp only [Option.bind_some];refine .au (Ξ:=λzg:List Trans=>zg.length<=64 * (k+1)/\(∀ t∈zg,u7 m t)/\(∀ t∈l,t∈zg)/\∀ v∈st.eD,1000<=v.Sym->(⟨k,v.Sym⟩:Trans)∈zg) ?_ λzg hF=>.ag ⟨aR,rfl,hF.1,hF.2.1,λq PQ v a6 bu ct dJ=>?_⟩
  ·refine Tot.upto (λs=>s.2) st.eD.length (λJ s=>s.1.length<=64 * k+J/\(∀ t∈s.1,u7 m t)/\(∀ t∈l,t∈s.1)/\∀ v∈st.eD.take J,1000<=v.Sym->(⟨k,v.Sym⟩:Trans)∈s.1) rfl (by omega) ⟨h1,af,λ_ h=>h,λv hv=>by simp at hv⟩ λJ s aj he ba=>?_;obtain ⟨o,i⟩:=s;obtain ⟨g1,g2,g3,g4⟩:=ba;simp only at he g1 g2 g3 g4 ⊢;subst he;rw [ep J (by omega)];refine Tot.bb (λaR=>?_) (λdq=>.ag ⟨by show o.length<=_; omega,g2,g3,by
    rw [List.take_of_length_le (by omega)] at g4; exact g4⟩)
   have aR:J<st.eD.length:=by omega
   have fp:=kk aR;have Ew:=List.getElem_mem aR;rw [d_ aR];generalize st.eD[J]=v at *;simp only [Option.bind_some];refine .au (Ξ:=λo:List Trans=>o.length<=64 * k+(J+1)/\(∀ t∈o,u7 m t)/\(∀ t∈l,t∈o)/\∀ v∈st.eD.take (J+1),1000<=v.Sym->(⟨k,v.Sym⟩:Trans)∈o) ?_ λo aV=>.ag ⟨aR,rfl,aV⟩;refine .au (Ξ:=λo:List Trans=>o.length<=64 * k+(J+1)/\(∀ t∈o,u7 m t)/\(∀ t∈l,t∈o)/\∀ v∈st.eD.take (J+1),1000<=v.Sym->(⟨k,v.Sym⟩:Trans)∈o) (Tot.bb (λh=>?_) (λh=>.ag ⟨by omega,g2,g3,λw hw aw=>?_⟩)) λo aV=>.ag aV
   ·refine .au (Ξ:=λ_=>True) (Tot.ap (by simp [lim]; omega) trivial) λ_ _=>.ag ⟨by simp; omega,λt al=>?_,λt al=>List.mem_append_left _ (g3 t al),λw hw aw=>?_⟩
    ·rcases List.mem_append.1 al with al | al
     ·exact g2 t al
     ·rw [List.mem_singleton.1 al];exact ⟨st,v,Xf nY,Ew,rfl,h⟩
    ·rw [fp,List.mem_append,List.mem_singleton] at hw;rcases hw with hw | rfl
     ·exact List.mem_append_left _ (g4 w hw aw)
     ·simp
   ·rw [fp,List.mem_append,List.mem_singleton] at hw;rcases hw with hw | rfl
    ·exact g4 w hw aw
    ·exact absurd aw h
  ·by_cases e:q=k
   ·subst e;rw [nY] at bu; cases bu;exact hF.2.2.2 v ct dJ
   ·exact hF.2.2.1 _ (aF q PQ v (by omega) bu ct dJ)
 ·show l.length<=9600;omega
 ·have:=(List.getElem?_eq_some_iff.1 a6).1;omega
theorem AB (l:List Trans) (a n:Int) (ai:l.length<=9600):Tot (zu l a n) λr=>-1<=r/\r<l.length/\((⟨a,n⟩:Trans)∈l->0<=r):=by
 unfold zu;refine .au (Ξ:=ft (λ_=>(⟨a,n⟩:Trans)∉l) (λr:Int=>0<=r/\r<l.length)) ?_ λx j=>?_
 ·refine Tot.upto (λs=>s) l.length (λk _=>(⟨a,n⟩:Trans)∉l.take k) rfl (by omega) (by simp) λk i hk he ba=>?_;subst he;rw [ep k (by omega)];refine Tot.bb (λaR=>?_) (λdq=>.ag (by
   show (⟨a,n⟩:Trans)∉l;rw [List.take_of_length_le (by omega)] at ba; exact ba))
  have aR:k<l.length:=by omega
  have fp:=kk aR;rw [d_ aR];generalize l[k]=y at *;simp only [Option.bind_some];refine .au (Ξ:=λc:Bool=>c=false->y≠⟨a,n⟩) (Tot.bb (λh=>.ag λaH e=>?_) (λh=>.ag λ_ e=>h (by rw [e]))) λc aa=>Tot.bj (λh=>.ag ⟨by show (0:Int)<=k; omega,by show (k:Int)<_; omega⟩) (λh=>.ag ⟨aR,rfl,?_⟩)
  ·have:=of_decide_eq_false aH;exact this (by rw [e])
  ·rw [fp,List.mem_append,List.mem_singleton];exact λaH=>aH.elim ba λe=>aa h e.symm
 ·rcases x with x | x
  ·refine .ag ⟨by omega,by omega,λh=>absurd h j⟩
  ·have j:0<=x/\x<l.length:=j;exact .ag ⟨by omega,j.2,λ_=>j.1⟩
theorem R_ (l:List Item) (ai:l.length<=1000000):Tot (Cm l) λ_=>True:=by
 unfold Cm;refine .au (Ξ:=λ_=>True) ?_ λx j=>by
  rcases x with x | x
  ·exact .ag trivial
  ·exact .ag trivial
 refine Tot.upto (λs=>s) l.length (λ_ _=>True) rfl (by omega) trivial λk i hk he _=>?_;subst he;rw [ep k (by omega)];refine Tot.bb (λaR=>?_) (λ_=>.ag trivial);have aR:k<l.length:=by omega
 rw [d_ aR];simp only [Option.bind_some];refine .au (Ξ:=λ_=>True) (Tot.bb (λ_=>.ag trivial) (λ_=>.ag trivial)) λc _=>Tot.bj (λ_=>.ag trivial) (λ_=>.ag ⟨aR,rfl,trivial⟩)
theorem yH (B:List Bool) (l:List Int) (ai:l.length<=1000) (h:∀ s∈l,s<1000\/(1000<=s/\s - 1000<B.length)) (fc:B.length<=1000):Tot (zv B l) λ_=>True:=by
 unfold zv;refine .au (Ξ:=λ_=>True) ?_ λx j=>by
  rcases x with x | x
  ·exact .ag trivial
  ·exact .ag trivial
 refine Tot.upto (λs=>s) l.length (λ_ _=>True) rfl (by omega) trivial λk i hk he _=>?_;subst he;rw [ep k (by omega)];refine Tot.bb (λaR=>?_) (λ_=>.ag trivial);have aR:k<l.length:=by omega
 have ak:=h _ (List.getElem_mem aR);rw [d_ aR];generalize l[k]=y at *;simp only [Option.bind_some];refine .au (Ξ:=λ_=>True) (Tot.bb (λ_=>.ag trivial) (λh1=>?_)) λc _=>Tot.bj (λ_=>.ag trivial) (λ_=>.ag ⟨aR,rfl,trivial⟩);have hw:aE (y - 1000)=y - 1000:=by rw [cq]; omega
 rw [hw];obtain ⟨b,av,_⟩:=n9 (l:=B) (i:=y - 1000) (by omega) (by omega);rw [av];exact .ag trivial
theorem O6 {g:bq}(aK:ga g) {q:Prod}(a6:q∈g.a1) {B:List Bool}(fc:B.length=g.bO.length):∀ s∈q.e1,s<1000\/(1000<=s/\s - 1000<B.length):=λs aw=>by
 have al:=aK.j6;have aA:=aK.de;rcases (aK.fl q a6).right s aw with h | h <;> omega
theorem LC (g:bq) (aK:ga g):Tot (zt g) λB=>B.length=g.bO.length:=by
 have al:=aK.j6;have aA:=aK.de;have ar:=aK.hb;unfold zt;refine .au (Ξ:=λB=>B=List.replicate g.bO.length false) (Tot.mk (by simp [lim]; omega) (by simp)) λaaE Ua=>?_;subst Ua;refine .au (Ξ:=λB:List Bool=>B.length=g.bO.length) ?_ λB fc=>.ag fc;refine Tot.loop (λs=>s.1.length=g.bO.length) (λs=>2 * (g.bO.length - hc s.1)+s.2.toNat) (by simp) (by
  show 2 * (g.bO.length - hc _)+1<1000000000000000000; omega) λs aw=>?_
 obtain ⟨B,f⟩:=s;simp only at aw ⊢;refine Tot.bj (λaS=>?_) (λ_=>.ag aw);subst aS;refine .au (Ξ:=λr:List Bool × Bool=>r.1.length=g.bO.length/\hc B<=hc r.1/\(r.2=true->hc B<hc r.1)) ?_ λr ah=>?_
 ·refine Tot.upto (λs=>s.2.2) g.a1.length (λ_ s=>s.1.length=g.bO.length/\hc B<=hc s.1/\(s.2.1=true->hc B<hc s.1)) rfl (by omega) ⟨aw,Nat.le_refl _,λh=>by cases h⟩ λk s hk he ba=>?_;obtain ⟨C,f,i⟩:=s;obtain ⟨h1,af,aF⟩:=ba;simp only at he h1 af aF ⊢;subst he;rw [ep k (by omega)];refine Tot.bb (λaR=>?_) (λdq=>.ag ⟨h1,af,aF⟩);have aR:k<g.a1.length:=by omega
  have mL:=List.getElem_mem aR;rw [d_ aR];generalize g.a1[k]=q at *;have a6:=aK.fl q mL;have Np:=a6.left;obtain ⟨b,av,_⟩:=n9 (l:=C) (i:=q.Left) Np.1 (by omega);simp only [Option.bind_some,av];refine .au (Ξ:=λr:List Bool × Bool=>r.1.length=g.bO.length/\hc B<=hc r.1/\(r.2=true->hc B<hc r.1)) ?_ λr ah=>.ag ⟨aR,rfl,ah⟩;refine .au (Ξ:=λc:Bool=>c=true->b=false) ?_ λc aa=>?_
  ·cases b with
   | true=>exact .ag λh=>by cases h
   | false =>
    refine .au (yH C q.e1 (by have:=aK.aN q mL; omega) (O6 aK mL h1) (by omega)) λ_ _=>.ag λ_=>rfl
  ·refine .au (Ξ:=λr:List Bool × Bool=>r.1.length=g.bO.length/\hc B<=hc r.1/\(r.2=true->hc B<hc r.1)) (Tot.bj (λh=>.ag ?_) (λh=>.ag ⟨h1,af,aF⟩)) λr ah=>.ag ah;have Ve:=aa h;subst Ve;have qf:q.Left.toNat<C.length:=by omega
   have nY:C.getD q.Left.toNat false=false:=by
    unfold idx at av;rw [if_pos Np.1] at av;rw [List.getD_eq_getElem?_getD,av]; rfl
   have:=wD C q.Left.toNat qf nY;exact ⟨by rw [List.length_set]; exact h1,by show hc B<=hc (C.set _ _); omega,λ_=>by show hc B<hc (C.set _ _); omega⟩
 ·obtain ⟨h1,af,aF⟩:=ah;refine .ag ⟨h1,?_⟩;have aa:=SH r.1;show 2 * (g.bO.length - hc r.1)+r.2.toNat<2 * (g.bO.length - hc B)+true.toNat;cases ij:r.2 with
  | false=>simp only [Bool.toNat_false,Bool.toNat_true]; omega
  | true =>
   have:=aF ij;simp only [Bool.toNat_true]; omega
structure ja (T:Nat) (r:List Int):Prop where
 a:eX hJ r
 i:∀ x∈r,0<=x/\x<T
theorem ja.len {T:Nat}{r:List Int}(h:ja T r):r.length<=T:=by
 have:=uE (m:=(List.range T).map λk:Nat=>(k:Int)) (h.a.nd E_) λx j=>by
  have:=h.i x j;exact List.mem_map.2 ⟨x.toNat,by rw [List.mem_range]; omega,by omega⟩
 grind
theorem ja.nil {T:Nat}:ja T []:=⟨.nil,λx h=>by cases h⟩
theorem ja.put {T:Nat}(cX:T<=100000) {r:List Int}(h:ja T r) {x:Int}(j:0<=x/\x<T):Tot (pN r x) λcK=>ja T cK/\r.length<=cK.length:=by
 have ai:=h.len;refine (AJ r x h.a (by omega)).use λcK dK=>⟨⟨dK.1,λy ak=>?_⟩,uE (h.a.nd E_) λy ak=>(dK.2.2 y).2 (.inl ak)⟩;rcases (dK.2.2 y).1 ak with aH | rfl
 ·exact h.i y aH
 grind
def mn (L:List (List Int)) (i:Nat):Nat:=(L.getD i []).length
def iY (L:List (List Int)):Nat:=(L.map List.length).sum
theorem P7:∀ (L hC:List (List Int)),L.length=hC.length->(∀ i,mn L i<=mn hC i)->iY L<=iY hC/\((∃ i,mn L i<mn hC i)->iY L<iY hC)
 | [],[],_,_=>⟨Nat.le_refl _,λ⟨i,h⟩=>absurd h (Nat.lt_irrefl _)⟩
 | a::L,b::hC,ai,h=>by
  obtain ⟨h1,af⟩:=P7 L hC (by simpa using ai) λi=>by simpa [mn] using h (i+1)
  have aO:a.length<=b.length:=by simpa [mn] using h 0
  have b2:iY (a::L)=a.length+iY L:=by simp [iY]
  have bZ:iY (b::hC)=b.length+iY hC:=by simp [iY]
  rw [b2,bZ];refine ⟨by omega,λ⟨i,hi⟩=>?_⟩;cases i with
  | zero =>
   have:a.length<b.length:=by simpa [mn] using hi
   omega
  | succ i =>
   have:=af ⟨i,by simpa [mn] using hi⟩;omega
def Sets (T:Nat) (L:List (List Int)):Prop:=∀ r∈L,ja T r
theorem P6 {T:Nat}:∀ {L:List (List Int)},Sets T L->iY L<=L.length * T
 | [],_=>by simp [iY]
 | a::L,h=>by
  have h1:=(h a (by simp)).len;have af:=P6 (L:=L) λr ah=>h r (by simp [ah]);have b2:iY (a::L)=a.length+iY L:=by simp [iY]
  rw [b2,List.length_cons,Nat.succ_mul]; omega
structure pd (T:Nat) (L hC:List (List Int)):Prop where
 n:hC.length=L.length
 s:Sets T hC
 u:∀ i,mn L i<=mn hC i
theorem pd.refl {T:Nat}{L:List (List Int)}(h:Sets T L):pd T L L:=⟨rfl,h,λ_=>Nat.le_refl _⟩
theorem pd.trans {T:Nat}{A B C:List (List Int)}(h:pd T A B) (aH:pd T B C):pd T A C:=⟨aH.n.trans h.n,aH.s,λi=>Nat.le_trans (h.u i) (aH.u i)⟩
theorem pd.set {T:Nat}{L:List (List Int)}{k:Nat}{r cK:List Int}(aw:Sets T L) (hk:L[k]?=some r) (h:ja T cK) (ai:r.length<=cK.length):pd T L (L.set k cK):=by
 have dR:=(List.getElem?_eq_some_iff.1 hk).1;refine ⟨List.length_set ..,λx j=>?_,λi=>?_⟩
 ·rcases List.mem_or_eq_of_mem_set j with aH | aH
  ·exact aw x aH
  grind
 grind [mn]
theorem Xg {L:List (List Int)}{k:Nat}{r:List Int}(h:L[k]?=some r):mn L k=r.length:=by
 grind [mn]
theorem Xe {α:Type}{l:List α}{i:Int}{y:α}(h:idx l i=some y):l[i.toNat]?=some y:=by
 grind [idx]
theorem LG (T:Nat) (cX:T<=1000) (a0 aB:List (List Int)) (aA:a0.length<=9600) (he:aB.length=a0.length) (aO:Sets T a0) (h1:Sets a0.length aB):Tot (zF a0 aB) λr=>r.length=a0.length/\Sets T r:=by
 unfold zF;refine .au (Ξ:=λr:List (List Int)=>r.length=a0.length/\Sets T r) ?_ λr ah=>.ag ah;have av:a0.length * T<=9600 * 1000:=Nat.mul_le_mul aA cX;refine Tot.loop (λs=>s.1.length=a0.length/\Sets T s.1) (λs=>2 * (a0.length * T - iY s.1)+s.2.toNat) ⟨rfl,aO⟩ (by
  show 2 * (a0.length * T - iY _)+1<1000000000000000000;omega) λs aw=>?_
 obtain ⟨L,f⟩:=s;obtain ⟨ai,aw⟩:=aw;simp only at ai aw ⊢;refine Tot.bj (λaS=>?_) (λ_=>.ag ⟨ai,aw⟩);subst aS;refine .au (Ξ:=λr:List (List Int) × Bool=>pd T L r.1/\(r.2=true->∃ i,mn L i<mn r.1 i)) ?_ λr ah=>?_
 ·refine Tot.upto (λs=>s.2.2) L.length (λ_ s=>pd T L s.1/\(s.2.1=true->∃ i,mn L i<mn s.1 i)) rfl (by omega) ⟨.refl aw,λh=>by cases h⟩ λk s hk hZ ba=>?_;obtain ⟨C,f,i⟩:=s;obtain ⟨hu,sO⟩:=ba;simp only at hZ hu sO ⊢;subst hZ;rw [ep k (by omega)];have Ny:=hu.n;refine Tot.bb (λaR=>?_) (λdq=>.ag ⟨hu,sO⟩);have Na:k<C.length:=by omega
  have gj:k<aB.length:=by omega
  have acP:C[k]?=some C[k]:=List.getElem?_eq_getElem Na;have lQ:=h1 _ (List.getElem_mem gj);rw [d_ gj,d_ Na];generalize aB[k]=row at *;generalize C[k]=jA at *;simp only [Option.bind_some];have n2:=lQ.len;refine .au (Ξ:=λD:List (List Int)=>pd T C D) ?_ λD hd=>?_
  ·refine Tot.upto (λs=>s.2) row.length (λ_ s=>pd T C s.1) rfl (by omega) (.refl hu.s) λJ s aj hZ ba=>?_;obtain ⟨D,i⟩:=s;simp only at hZ ba ⊢;subst hZ;rw [ep J (by omega)];have Uf:=ba.n;refine Tot.bb (λaR=>?_) (λ_=>.ag ba);have aR:J<row.length:=by omega
   have ak:=lQ.i _ (List.getElem_mem aR);rw [d_ aR];generalize row[J]=y at *;simp only [Option.bind_some];refine .au (Ξ:=λE:List (List Int)=>pd T C E) ?_ λE ke=>.ag ⟨aR,rfl,ke⟩;refine Tot.count (λs=>s.2) T (λs=>∃ n:Nat,s.2=(n:Int)/\pd T C s.1) ⟨0,rfl,ba⟩ (by show (T:Int) - 0<_; omega) λs aw=>?_;obtain ⟨E,i⟩:=s;obtain ⟨n,Ej,ke⟩:=aw;simp only at Ej ke ⊢;subst Ej;have acx:=ke.n;obtain ⟨z,aT,Xa⟩:=n9 (l:=E) (i:=y) ak.1 (by omega);have oR:=ke.s z Xa;have uz:=oR.len;have Il:k<E.length:=by omega
   have VC:E[k]?=some E[k]:=List.getElem?_eq_getElem Il;rw [aT];simp only [Option.bind_some];refine Tot.bb (λaR=>?_) (λ_=>.ag ke);have aR:n<z.length:=by omega
   rw [ep n (by omega),d_ Il,d_ aR];simp only [Option.bind_some];refine .au ((ke.s _ (List.getElem_mem Il)).put (by omega) (oR.i _ (List.getElem_mem aR))) λcK dK=>.ag ⟨⟨n+1,rfl,?_⟩,by show (n:Int)<((n+1:Nat):Int); omega,by show ((n+1:Nat):Int)<=T; omega⟩;exact ke.trans (.set ke.s VC dK.1 dK.2)
  ·have Uf:=hd.n;have Nb:k<D.length:=by omega
   have acQ:D[k]?=some D[k]:=List.getElem?_eq_getElem Nb;have y_:=hu.trans hd;refine .au (Ξ:=λc:Bool=>c=true->∃ i,mn L i<mn D i) ?_ λc aa=>.ag ⟨by omega,rfl,y_,aa⟩;refine Tot.bj (λaS=>.ag λ_=>?_) (λ_=>?_)
   ·obtain ⟨i,hi⟩:=sO aS;exact ⟨i,Nat.lt_of_lt_of_le hi (hd.u i)⟩
   ·rw [d_ Nb];refine Tot.sm (.ag λh=>⟨k,?_⟩);have aF:=hd.u k;have bu:=hu.u k
    grind [Xg]
 ·obtain ⟨hu,aS⟩:=ah;have Bz:=hu.n;obtain ⟨aF,bu⟩:=P7 L r.1 Bz.symm hu.u;have ct:=P6 hu.s;rw [show r.1.length=a0.length by omega] at ct;refine .ag ⟨⟨by show r.1.length=_; omega,hu.s⟩,?_⟩;show 2 * (a0.length * T - iY r.1)+r.2.toNat<2 * (a0.length * T - iY L)+true.toNat;cases ij:r.2 with
  | false=>simp only [Bool.toNat_false,Bool.toNat_true]; omega
  | true =>
   grind
theorem mv.sym {g:bq}(aK:ga g) {m:List State}(hm:mv g m) {st:State}(bL:st∈m) {v:Move}(hv:v∈st.eD):0<=v.Sym/\(v.Sym<1000->v.Sym<g.aX.length)/\(1000<=v.Sym->v.Sym - 1000<g.bO.length):=by
 have al:=aK.j6;rcases XO.1 (hm.a8 st bL v hv).s with h | h
 ·exact ⟨h.1,λ_=>h.2,λaH=>by omega⟩
 ·exact ⟨by omega,λaH=>by omega,λ_=>by omega⟩
theorem u7.go {g:bq}{m:List State}(hm:mv g m) {t:Trans}(h:u7 m t):Tot (q' m t.State t.e4) λr=>0<=r/\r<m.length:=by
 obtain ⟨st,v,h1,af,aF,_⟩:=h;exact (va m t.State t.e4 hm.xm).use λr ah=>ah.yes hm h1 af aF
theorem PB {T:Nat}{L:List (List Int)}{r:List Int}(h:Sets T L) (ah:ja T r):Sets T (L++[r]):=λx j=>by
 rcases List.mem_append.1 j with j | j
 ·exact h x j
 ·rw [List.mem_singleton.1 j]; exact ah
theorem Sy (g:bq) (aK:ga g) {m:List State}(hm:mv g m):Tot (CE m) λr=>∃ du,qx m=some du/\wk m du/\r.length=du.length/\Sets g.aX.length r:=by
 have al:=aK.j6;obtain ⟨du,p9,h_⟩:=SB hm;have vE:=h_.n;unfold CE;rw [p9];refine Tot.sm (.au (Ξ:=λr:List (List Int)=>r.length=du.length/\Sets g.aX.length r) ?_ λr ah=>.ag ⟨du,rfl,h_,ah⟩);refine Tot.upto (λs=>s.2) du.length (λk s=>s.1.length=k/\Sets g.aX.length s.1) rfl (by omega) ⟨rfl,λr h=>by cases h⟩ λk s hk he ba=>?_;obtain ⟨L,i⟩:=s;obtain ⟨h1,af⟩:=ba;simp only at he h1 af ⊢;subst he;rw [ep k (by omega)];refine Tot.bb (λaR=>?_) (λdq=>.ag ⟨by show L.length=_; omega,af⟩);have aR:k<du.length:=by omega
 have fp:=h_.ok _ (List.getElem_mem aR);rw [d_ aR];generalize du[k]=t at *;simp only [Option.bind_some];refine .au (fp.go hm) λto BE=>?_;obtain ⟨st,bL,qi⟩:=n9 BE.1 BE.2;have c5:=hm.qs st qi;have Bo:=hm.xm st qi;rw [bL];simp only [Option.bind_some];refine .au (R_ _ (by have:=c5.len aK; omega)) λc _=>?_;refine .au (Ξ:=ja g.aX.length) (Tot.bj (λ_=>?_) (λ_=>.ag .nil)) λzL y6=>?_
 ·refine .au (Ξ:=λ_=>True) (Tot.ap (by simp [lim]) trivial) λ_ _=>.ag ⟨List.pairwise_singleton ..,λx j=>?_⟩;rw [List.mem_singleton.1 j]; omega
 refine .au (Ξ:=ja g.aX.length) ?_ λr ah=>?_
 ·refine Tot.upto (λs=>s.2) st.eD.length (λk s=>ja g.aX.length s.1) rfl (by omega) y6 λJ s aj he ba=>?_;obtain ⟨r,i⟩:=s;simp only at he ba ⊢;subst he;rw [ep J (by omega)];refine Tot.bb (λaR=>?_) (λ_=>.ag ba);have aR:J<st.eD.length:=by omega
  have hv:=hm.sym aK qi (List.getElem_mem aR);rw [d_ aR];generalize st.eD[J]=v at *;simp only [Option.bind_some];refine .au (Ξ:=ja g.aX.length) ?_ λr ah=>.ag ⟨aR,rfl,ah⟩;refine .au (Ξ:=ja g.aX.length) (Tot.bb (λh=>?_) (λ_=>.ag ba)) λr ah=>.ag ah;exact .au (ba.put (by omega) ⟨hv.1,hv.2.1 h⟩) λr ah=>.ag ah.1
 ·refine .au (Ξ:=λ_=>True) (Tot.ap (by simp [lim]; omega) trivial) λ_ _=>.ag ⟨aR,rfl,by simp; omega,PB af ah⟩
theorem Sz (g:bq) (aK:ga g) {m:List State}(hm:mv g m) {du:List Trans}(p9:qx m=some du) (h_:wk m du):Tot (CF g m) λr=>r.length=du.length/\Sets du.length r:=by
 have al:=aK.j6;have kx:=aK.de;have vE:=h_.n;unfold CF;rw [p9];refine Tot.sm (.au (LC g aK) λB fc=>.au (Ξ:=λr:List (List Int)=>r.length=du.length/\Sets du.length r) ?_ λr ah=>.ag ah);refine Tot.upto (λs=>s.2) du.length (λk s=>s.1.length=k/\Sets du.length s.1) rfl (by omega) ⟨rfl,λr h=>by cases h⟩ λk s hk he ba=>?_;obtain ⟨L,i⟩:=s;obtain ⟨h1,af⟩:=ba;simp only at he h1 af ⊢;subst he;rw [ep k (by omega)];refine Tot.bb (λaR=>?_) (λdq=>.ag ⟨by show L.length=_; omega,af⟩);have aR:k<du.length:=by omega
 have fp:=h_.ok _ (List.getElem_mem aR);rw [d_ aR];generalize du[k]=t at *;simp only [Option.bind_some];refine .au (fp.go hm) λto BE=>?_;obtain ⟨st,bL,qi⟩:=n9 BE.1 BE.2;have oP:=Xe bL;have Bo:=hm.xm st qi;rw [bL];simp only [Option.bind_some];refine .au (Ξ:=ja du.length) ?_ λr ah=>?_
 ·refine Tot.upto (λs=>s.2) st.eD.length (λk s=>ja du.length s.1) rfl (by omega) .nil λJ s aj he ba=>?_;obtain ⟨r,i⟩:=s;simp only at he ba ⊢;subst he;rw [ep J (by omega)];refine Tot.bb (λaR=>?_) (λ_=>.ag ba);have aR:J<st.eD.length:=by omega
  have Ew:=List.getElem_mem aR;have hv:=hm.sym aK qi Ew;rw [d_ aR];generalize st.eD[J]=v at *;simp only [Option.bind_some];refine .au (Ξ:=ja du.length) ?_ λr ah=>.ag ⟨aR,rfl,ah⟩;refine .au (Ξ:=λc:Bool=>c=true->1000<=v.Sym) (Tot.bb (λh=>?_) (λ_=>.ag λh=>by cases h)) λc aa=>?_
  ·have hw:aE (v.Sym - 1000)=v.Sym - 1000:=by
    have:=hv.2.2 h;rw [cq]; omega
   rw [hw];obtain ⟨b,av,_⟩:=n9 (l:=B) (i:=v.Sym - 1000) (by omega) (by have:=hv.2.2 h; omega);rw [av];exact Tot.sm (.ag λ_=>h)
  ·refine .au (Ξ:=ja du.length) (Tot.bj (λh=>?_) (λ_=>.ag ba)) λr ah=>.ag ah;have Ec:=h_.gY to.toNat st v oP Ew (aa h);rw [show ((to.toNat:Nat):Int)=to by omega] at Ec;refine .au (AB du to v.Sym vE) λz aT=>?_;exact .au (ba.put (by omega) ⟨aT.2.2 Ec,aT.2.1⟩) λr ah=>.ag ah.1
 ·refine .au (Ξ:=λ_=>True) (Tot.ap (by simp [lim]; omega) trivial) λ_ _=>.ag ⟨aR,rfl,by simp; omega,PB af ah⟩
theorem SA (g:bq) (aK:ga g) {m:List State}(hm:mv g m) {du:List Trans}(p9:qx m=some du) (h_:wk m du):Tot (CG g m) λr=>r.length=du.length/\Sets du.length r:=by
 have al:=aK.j6;have kx:=aK.de;have w4:=aK.hb;have vE:=h_.n;unfold CG;rw [p9];refine Tot.sm (.au (LC g aK) λB fc=>.au (Ξ:=λr=>r=List.replicate du.length ([]:List Int)) (Tot.mk (by simp [lim]; omega) (by simp)) λaaH Up=>.au (Ξ:=λr:List (List Int)=>r.length=du.length/\Sets du.length r) ?_ λr ah=>.ag ah);subst Up;have aaD:∀ {L:List (List Int)},(L.length=du.length/\Sets du.length L)->∀ {z:Int}{r cK:List Int},idx L z=some r->ja du.length cK->(L.set z.toNat cK).length=du.length/\Sets du.length (L.set z.toNat cK):=λ{L} gR {z r cK} _ dK=>⟨by rw [List.length_set]; exact gR.1,λx j=>by
  rcases List.mem_or_eq_of_mem_set j with aH | aH
  ·exact gR.2 x aH
  ·rw [aH]; exact dK⟩
 refine Tot.upto (λs=>s.2) du.length (λk s=>s.1.length=du.length/\Sets du.length s.1) rfl (by omega) ⟨by simp,λr h=>by rw [List.eq_of_mem_replicate h]; exact .nil⟩ λk s hk he ba=>?_;obtain ⟨L,i⟩:=s;simp only at he ba ⊢;subst he;rw [ep k (by omega)];refine Tot.bb (λaR=>?_) (λdq=>.ag ba);have aR:k<du.length:=by omega
 have fp:=h_.ok _ (List.getElem_mem aR);rw [d_ aR];generalize du[k]=t at *;simp only [Option.bind_some];refine .au (Ξ:=λr:List (List Int)=>r.length=du.length/\Sets du.length r) ?_ λr ah=>.ag ⟨aR,rfl,ah⟩;refine Tot.upto (λs=>s.2) g.a1.length (λk s=>s.1.length=du.length/\Sets du.length s.1) rfl (by omega) ba λp s ar he ba=>?_;obtain ⟨L,i⟩:=s;simp only at he ba ⊢;subst he;rw [ep p (by omega)];refine Tot.bb (λEh=>?_) (λdq=>.ag ba);have Eh:p<g.a1.length:=by omega
 have mL:=List.getElem_mem Eh;rw [d_ Eh];generalize g.a1[p]=q at *;have a6:=aK.fl q mL;have Bz:=aK.aN q mL;have nt:=O6 aK mL fc;simp only [Option.bind_some];refine .au (Ξ:=λr:List (List Int)=>r.length=du.length/\Sets du.length r) ?_ λr ah=>.ag ⟨Eh,rfl,ah⟩;refine Tot.bj (λ_=>.ag ba) (λ_=>.au (Ξ:=λr:List (List Int)=>r.length=du.length/\Sets du.length r) ?_ λr ah=>.ag ah);refine Tot.upto (λs=>s.2) q.e1.length (λk s=>s.1.length=du.length/\Sets du.length s.1) rfl (by omega) ba λJ s aj he ba=>?_;obtain ⟨L,i⟩:=s;simp only at he ba ⊢;subst he;rw [ep J (by omega)];refine Tot.bb (λfX=>?_) (λdq=>.ag ba);have fX:J<q.e1.length:=by omega
 rw [d_ fX];generalize q.e1[J]=y at *;simp only [Option.bind_some];refine .au (Ξ:=λr:List (List Int)=>r.length=du.length/\Sets du.length r) ?_ λr ah=>.ag ⟨fX,rfl,ah⟩;refine .au (Ξ:=λ_=>True) (Tot.bb (λ_=>.ag trivial) (λ_=>?_)) λc _=>Tot.bj (λ_=>.ag ba) (λ_=>?_)
 ·refine .au (Ξ:=λr=>r=q.e1.drop (J+1)) (Tot.sub ⟨by omega,by omega,by omega⟩ ?_) λr ah=>?_
  ·rw [List.take_of_length_le]
   ·congr 1
   ·rw [List.length_drop]; omega
  ·subst ah;exact .au (yH B _ (by rw [List.length_drop]; omega) (λs aw=>nt s (List.mem_of_mem_drop aw)) (by omega)) λ_ _=>.ag trivial
 refine .au (Ξ:=λr=>r.length<=8) (Tot.sub ⟨by omega,by omega,by omega⟩ (by rw [List.length_take,List.length_drop]; omega)) λr ah=>?_;obtain ⟨st,_,bL,_⟩:=fp;have IB:=n4 bL;refine .au (LH hm t.State r ⟨by omega,IB.2.1⟩ (by omega)) λz aT=>?_;refine .au (Ξ:=λr:List (List Int)=>r.length=du.length/\Sets du.length r) (Tot.bj (λ_=>?_) (λ_=>.ag ba)) λr ah=>.ag ah;refine .au (AB du z y vE) λn aA=>?_;refine .au (Ξ:=λr:List (List Int)=>r.length=du.length/\Sets du.length r) (Tot.bb (λaO=>?_) (λ_=>.ag ba)) λr ah=>.ag ah;obtain ⟨zL,y6,um⟩:=n9 (l:=L) aO (by rw [ba.1]; exact aA.2.1);rw [y6];refine Tot.sm (.au ((ba.2 zL um).put (by omega) ⟨by omega,by omega⟩) λcK dK=>.ag (aaD ba y6 dK.1))
theorem Ss (g:bq) (aK:ga g) {m:List State}(hm:mv g m):Tot (zC g m) λr=>∃ du,qx m=some du/\wk m du/\r.length=du.length/\Sets g.aX.length r:=by
 have al:=aK.j6;unfold zC;refine .au (Sy g aK hm) λrb h1=>?_;obtain ⟨du,p9,h_,Ip,y8⟩:=h1;have vE:=h_.n;refine .au (Sz g aK hm p9 h_) λj2 af=>.au (LG g.aX.length (by omega) rb j2 (by omega) (by omega) y8 (by rw [Ip]; exact af.2)) λxI aF=>?_;refine .au (SA g aK hm p9 h_) λvW bu=>.au (LG g.aX.length (by omega) xI vW (by omega) (by omega) aF.2 (by rw [aF.1,Ip]; exact bu.2)) λzM ct=>?_;exact .ag ⟨du,p9,h_,by omega,ct.2⟩
def qP (g:bq) (p:Int):Prop:=0<p/\p<g.a1.length
theorem St (g:bq) (aK:ga g) (K:List Item) (ai:K.length<=1000000):Tot (Cy g K) λr=>r.length<=540/\∀ p∈r,qP g p:=by
 unfold Cy;refine .au (GJ g aK K ai) λc aa=>?_;have ht:=tK aK aa.1 λx j=>((aa.2 x).1 j).iT;refine .au (Ξ:=λr:List Int=>r.length<=540/\∀ p∈r,qP g p) ?_ λr ah=>.ag ah;refine Tot.upto (λs=>s.2) c.length (λk s=>s.1.length<=k/\∀ p∈s.1,qP g p) rfl (by omega) ⟨Nat.le_refl 0,λp h=>by cases h⟩ λk s hk he ba=>?_;obtain ⟨L,i⟩:=s;obtain ⟨h1,af⟩:=ba;simp only at he h1 af ⊢;subst he;rw [ep k (by omega)];refine Tot.bb (λaR=>?_) (λdq=>.ag ⟨by show L.length<=_; omega,af⟩);have aR:k<c.length:=by omega
 have hi:=((aa.2 _).1 (List.getElem_mem aR)).iT;rw [d_ aR];generalize c[k]=x at *;obtain ⟨q,a6,aF,bu⟩:=hi;simp only [Option.bind_some];refine .au (Ξ:=λL:List Int=>L.length<=k+1/\∀ p∈L,qP g p) ?_ λr ah=>.ag ⟨aR,rfl,ah⟩;refine .au (Ξ:=λc:Bool=>c=true->0<x.Prod) (Tot.bb (λh=>?_) (λ_=>.ag λh=>by cases h)) λc aa=>?_
 ·rw [a6]; exact Tot.sm (.ag λ_=>h)
 refine .au (Ξ:=λL:List Int=>L.length<=k+1/\∀ p∈L,qP g p) (Tot.bj (λh=>?_) (λ_=>.ag ⟨by omega,af⟩)) λr ah=>.ag ah;refine .au (Ξ:=λ_=>True) (Tot.ap (by simp [lim]; omega) trivial) λ_ _=>.ag ⟨by simp; omega,λp ar=>?_⟩;rcases List.mem_append.1 ar with ar | ar
 ·exact af p ar
 ·rw [List.mem_singleton.1 ar]; exact ⟨aa h,(n4 a6).2.1⟩
theorem Su (g:bq) (aK:ga g) {m:List State}(hm:mv g m) {du:List Trans}(p9:qx m=some du) (h_:wk m du) (q p:Int):Tot (Cz g m q p) λr=>r.length<=9600/\∀ x∈r,0<=x/\x<du.length:=by
 have vE:=h_.n;have w4:=aK.hb;have kx:=aK.de;unfold Cz;refine .au (Ξ:=λc:Bool=>c=false->0<=p/\p<g.a1.length) (Tot.bb (λ_=>.ag λh=>by cases h) (λ_=>Tot.bb (λ_=>.ag λh=>by cases h) (λ_=>Tot.bb (λ_=>.ag λh=>by cases h) (λh=>.ag λaH=>by have:=of_decide_eq_false aH; omega)))) λc aa=>Tot.bj (λ_=>.ag ⟨Nat.zero_le _,λx h=>by cases h⟩) (λh=>?_);obtain ⟨aO,h1⟩:=aa h;rw [p9];refine Tot.sm ?_;refine .au (Ξ:=λr:List Int=>r.length<=9600/\∀ x∈r,0<=x/\x<du.length) ?_ λr ah=>.ag ah;obtain ⟨fl,y5,V_⟩:=n9 aO h1;have Bz:=aK.aN fl V_;refine Tot.upto (λs=>s.2) du.length (λk s=>s.1.length<=k/\∀ x∈s.1,0<=x/\x<du.length) rfl (by omega) ⟨Nat.le_refl 0,λp h=>by cases h⟩ λk s hk he ba=>?_;obtain ⟨L,i⟩:=s;obtain ⟨af,aF⟩:=ba;simp only at he af aF ⊢;subst he;rw [ep k (by omega)];refine Tot.bb (λaR=>?_) (λdq=>.ag ⟨by show L.length<=_; omega,aF⟩);have aR:k<du.length:=by omega
 have fp:=h_.ok _ (List.getElem_mem aR);rw [d_ aR,y5];generalize du[k]=t at *;obtain ⟨st,_,bL,_⟩:=fp;have IB:=n4 bL;simp only [Option.bind_some];refine .au (Ξ:=λL:List Int=>L.length<=k+1/\∀ x∈L,0<=x/\x<du.length) ?_ λr ah=>.ag ⟨aR,rfl,ah⟩;refine .au (Ξ:=λ_=>True) (Tot.bb (λh=>?_) (λ_=>.ag trivial)) λc aa=>?_
 ·exact .au (LH hm t.State fl.e1 ⟨by omega,IB.2.1⟩ (by omega)) λ_ _=>.ag trivial
 refine .au (Ξ:=λL:List Int=>L.length<=k+1/\∀ x∈L,0<=x/\x<du.length) (Tot.bj (λh=>?_) (λ_=>.ag ⟨by omega,aF⟩)) λr ah=>.ag ah;refine .au (Ξ:=λ_=>True) (Tot.ap (by simp [lim]; omega) trivial) λ_ _=>.ag ⟨by simp; omega,λp ar=>?_⟩;rcases List.mem_append.1 ar with ar | ar
 ·exact aF p ar
 ·rw [List.mem_singleton.1 ar]; exact ⟨by omega,by omega⟩
structure yk (g:bq) (l:kN):Prop where
 p:qP g l.Prod
 t:ja g.aX.length l.aX
theorem Sk (g:bq) (aK:ga g) {m:List State}(hm:mv g m):Tot (Cu g m) λr=>r.length<=81000/\∀ l∈r,yk g l:=by
 have al:=aK.j6;have qX:=hm.lU;unfold Cu;refine .au (Ss g aK hm) λF aG=>?_;obtain ⟨du,p9,h_,acy,jg⟩:=aG;have vE:=h_.n;refine .au (Ξ:=λr:List kN=>r.length<=81000/\∀ l∈r,yk g l) ?_ λr ah=>.ag ah;refine Tot.upto (λs=>s.2) m.length (λk s=>s.1.length<=540 * k/\∀ l∈s.1,yk g l) rfl (by omega) ⟨Nat.le_refl 0,λp h=>by cases h⟩ λk s hk he ba=>?_;obtain ⟨L,i⟩:=s;obtain ⟨h1,af⟩:=ba;simp only at he h1 af ⊢;subst he;rw [ep k (by omega)];refine Tot.bb (λaR=>?_) (λdq=>.ag ⟨by show L.length<=_; omega,af⟩);have aR:k<m.length:=by omega
 have c5:=hm.qs _ (List.getElem_mem aR);rw [d_ aR];generalize m[k]=st at *;refine Tot.sm (.au (St g aK st.Kernel (by have:=c5.len aK; omega)) λE ke=>?_);obtain ⟨acw,Ug⟩:=ke;refine .au (Ξ:=λL:List kN=>L.length<=540 * (k+1)/\∀ l∈L,yk g l) ?_ λr ah=>.ag ⟨aR,rfl,ah⟩;refine Tot.upto (λs=>s.2) E.length (λJ s=>s.1.length<=540 * k+J/\∀ l∈s.1,yk g l) rfl (by omega) ⟨h1,af⟩ λJ s aj he ba=>?_;obtain ⟨L,i⟩:=s;obtain ⟨h1,af⟩:=ba;simp only at he h1 af ⊢;subst he;rw [ep J (by omega)];refine Tot.bb (λfX=>?_) (λdq=>.ag ⟨by show L.length<=_; omega,af⟩);have fX:J<E.length:=by omega
 have ar:=Ug _ (List.getElem_mem fX);rw [d_ fX];generalize E[J]=p at *;simp only [Option.bind_some];refine .au (Su g aK hm p9 h_ k p) λB fc=>?_;obtain ⟨acv,Ud⟩:=fc;refine .au (Ξ:=ja g.aX.length) ?_ λS bh=>?_
 ·refine Tot.upto (λs=>s.2) B.length (λ_ s=>ja g.aX.length s.1) rfl (by omega) .nil λb s av he ba=>?_;obtain ⟨S,i⟩:=s;simp only at he ba ⊢;subst he;rw [ep b (by omega)];refine Tot.bb (λy3=>?_) (λdq=>.ag ba);have y3:b<B.length:=by omega
  have j:=Ud _ (List.getElem_mem y3);rw [d_ y3];generalize B[b]=x at *;obtain ⟨row,lQ,um⟩:=n9 (l:=F) j.1 (by omega);have lR:=jg row um;have n2:=lR.len;simp only [Option.bind_some,lQ];refine .au (Ξ:=ja g.aX.length) ?_ λS bh=>.ag ⟨y3,rfl,bh⟩;refine Tot.upto (λs=>s.2) row.length (λ_ s=>ja g.aX.length s.1) rfl (by omega) ba λz s aT he ba=>?_;obtain ⟨S,i⟩:=s;simp only at he ba ⊢;subst he;rw [ep z (by omega)];refine Tot.bb (λqg=>?_) (λdq=>.ag ba);have qg:z<row.length:=by omega
  rw [d_ qg];exact Tot.sm (.au (ba.put (by omega) (lR.i _ (List.getElem_mem qg))) λr ah=>.ag ⟨qg,rfl,ah.1⟩)
 ·refine .au (Ξ:=λ_=>True) (Tot.ap (by simp [lim]; omega) trivial) λ_ _=>.ag ⟨fX,rfl,by simp; omega,λl ai=>?_⟩;rcases List.mem_append.1 ai with ai | ai
  ·exact af l ai
  ·rw [List.mem_singleton.1 ai]; exact ⟨ar,bh⟩
def oi (c:Cell):Nat:=c.a1.length+(if 0<=c.jS then 1 else 0)+(if c.lG then 1 else 0)
theorem Z0 {x:Option Int}{c:Cell}(ai:c.a1.length<=1000) (e:x=(((bif decide (0<=c.jS) then
some (aE ((c.a1.length:Int)+1))
else
some (c.a1.length:Int))).bind λiV =>
((bif c.lG then
some (aE (iV+1))
else
some iV)).bind λh' =>
some h')):x=some (oi c:Int):=by
 subst e;have hw:aE ((c.a1.length:Int)+1)=(c.a1.length:Int)+1:=by rw [cq]; omega
 have WG:aE ((c.a1.length:Int)+1+1)=(c.a1.length:Int)+1+1:=by rw [cq]; omega
 unfold oi;by_cases h:0<=c.jS
 ·cases af:c.lG <;> simp [h,hw,WG]
 ·cases af:c.lG <;> simp [h,hw]
theorem L2 (c:Cell) (ai:c.a1.length<=1000):zA c=some (oi c:Int):=Z0 ai (by unfold zA; rfl)
structure o4 (g:bq) (n:Nat) (c:Cell):Prop where
 s:0<=c.State/\c.State<n
 t:0<=c.Tok/\c.Tok<g.aX.length
 f:-1<=c.jS/\c.jS<n
 p:eX hJ c.a1
 q:∀ p∈c.a1,qP g p
 ZW:0<oi c
theorem o4.len {g:bq}(aK:ga g) {n:Nat}{c:Cell}(h:o4 g n c):c.a1.length<=60:=by
 have:=aK.hb;have:=ja.len (T:=g.a1.length) ⟨h.p,λx j=>⟨by have:=(h.q x j).1; omega,(h.q x j).2⟩⟩;omega
def x8 (a b:Cell):Prop:=a.State<b.State\/(a.State=b.State/\a.Tok<b.Tok)
structure Ab (g:bq) (n:Nat) (l:List Cell):Prop where
 ok:∀ c∈l,o4 g n c
 adt:l.Pairwise x8
 n:l.length<=6000
theorem Sj (g:bq) (aK:ga g) {m:List State}(hm:mv g m) (s8:List kN) (ai:s8.length<=81000) (hk:∀ l∈s8,yk g l):Tot (Ct g m s8) (Ab g m.length):=by
 have al:=aK.j6;have qX:=hm.lU;have w4:=aK.hb;unfold Ct;refine .au (Ξ:=Ab g m.length) ?_ λr ah=>.ag ah;refine Tot.upto (λs=>s.2) m.length (λk s=>s.1.length<=40 * k/\(∀ c∈s.1,o4 g m.length c)/\s.1.Pairwise x8/\∀ c∈s.1,c.State<k) rfl (by omega) ⟨Nat.le_refl 0,λp h=>(by cases h),.nil,λp h=>by cases h⟩ λk s vr he ba=>?_;obtain ⟨L,i⟩:=s;obtain ⟨h1,af,aF,bu⟩:=ba;simp only at he h1 af aF bu ⊢;subst he;rw [ep k (by omega)];refine Tot.bb (λaR=>?_) (λdq=>.ag ⟨af,aF,by show L.length<=_; omega⟩);have aR:k<m.length:=by omega
 have c5:=hm.qs _ (List.getElem_mem aR);rw [d_ aR];generalize m[k]=st at *;have acA:=c5.len aK;refine .au (Ξ:=λL:List Cell=>L.length<=40 * (k+1)/\(∀ c∈L,o4 g m.length c)/\L.Pairwise x8/\∀ c∈L,c.State<(k+1:Nat)) ?_ λr ah=>.ag ⟨aR,rfl,ah⟩;refine Tot.upto (λs=>s.2) g.aX.length (λJ s=>s.1.length<=40 * k+J/\(∀ c∈s.1,o4 g m.length c)/\s.1.Pairwise x8/\∀ c∈s.1,c.State<k\/(c.State=k/\c.Tok<J)) rfl (by omega) ⟨h1,af,aF,λc aa=>.inl (bu c aa)⟩ λJ s aj he ba=>?_;obtain ⟨L,i⟩:=s;obtain ⟨h1,af,aF,bu⟩:=ba;simp only at he h1 af aF bu ⊢;subst he;rw [ep J (by omega)];refine Tot.bb (λfX=>?_) (λdq=>.ag ⟨by show L.length<=_; omega,af,aF,λc aa=>by rcases bu c aa with h | h <;> omega⟩);refine .au (Ξ:=λL:List Cell=>L.length<=40 * k+(J+1)/\(∀ c∈L,o4 g m.length c)/\L.Pairwise x8/\∀ c∈L,c.State<k\/(c.State=k/\c.Tok<(J+1:Nat))) ?_ λr ah=>.ag ⟨by omega,rfl,ah⟩;refine .au (va m k J hm.xm) λez Er=>?_;have Wm:=Er.aW hm;refine .au (Ξ:=λ_=>True) ?_ λac _=>?_
 ·refine Tot.upto (λs=>s.2) st.Kernel.length (λ_ _=>True) rfl (by omega) trivial λz s aT he _=>?_;obtain ⟨b,i⟩:=s;simp only at he ⊢;subst he;rw [ep z (by omega)];simp only [Option.bind_some];refine Tot.bb (λqg=>?_) (λ_=>.ag trivial);have qg:z<st.Kernel.length:=by omega
  rw [d_ qg];simp only [Option.bind_some];refine .au (Ξ:=λ_=>True) (Tot.bj (λ_=>.ag trivial) (λ_=>Tot.bb (λ_=>Tot.bb (λ_=>.ag trivial) (λ_=>.ag trivial)) (λ_=>.ag trivial))) λ_ _=>.ag ⟨qg,rfl,trivial⟩
 refine .au (Ξ:=λP:List Int=>eX hJ P/\∀ p∈P,qP g p) ?_ λP ck=>?_
 ·refine Tot.upto (λs=>s.2) s8.length (λ_ s=>eX hJ s.1/\∀ p∈s.1,qP g p) rfl (by omega) ⟨.nil,λp h=>by cases h⟩ λz s aT he ba=>?_;obtain ⟨P,i⟩:=s;obtain ⟨g1,g2⟩:=ba;simp only at he g1 g2 ⊢;subst he;rw [ep z (by omega)];refine Tot.bb (λqg=>?_) (λdq=>.ag ⟨g1,g2⟩);have qg:z<s8.length:=by omega
  have gR:=hk _ (List.getElem_mem qg);rw [d_ qg];generalize s8[z]=l at *;have IE:=gR.t.len;have Uz:=ja.len (T:=g.a1.length) ⟨g1,λx j=>⟨by have:=(g2 x j).1; omega,(g2 x j).2⟩⟩;simp only [Option.bind_some];refine .au (Ξ:=λP:List Int=>eX hJ P/\∀ p∈P,qP g p) ?_ λr ah=>.ag ⟨qg,rfl,ah⟩;refine .au (Ξ:=λ_=>True) (Tot.bb (λ_=>.au (LF l.aX J (by omega)) λ_ _=>.ag trivial) (λ_=>.ag trivial)) λc _=>?_;refine .au (Ξ:=λP:List Int=>eX hJ P/\∀ p∈P,qP g p) (Tot.bj (λ_=>?_) (λ_=>.ag ⟨g1,g2⟩)) λr ah=>.ag ah;refine .au (AJ P l.Prod g1 (by omega)) λr ah=>.ag ⟨ah.1,λp ar=>?_⟩;rcases (ah.2.2 p).1 ar with h | rfl
  ·exact g2 p h
  ·exact gR.p
 ·have Uz:=ja.len (T:=g.a1.length) ⟨ck.1,λx j=>⟨by have:=(ck.2 x j).1; omega,(ck.2 x j).2⟩⟩;rw [L2 _ (by show P.length<=_; omega)];refine Tot.sm (.au (Ξ:=λL:List Cell=>L.length<=40 * k+(J+1)/\(∀ c∈L,o4 g m.length c)/\L.Pairwise x8/\∀ c∈L,c.State<k\/(c.State=k/\c.Tok<(J+1:Nat))) (Tot.bb (λaO=>?_) (λ_=>.ag ⟨by omega,af,aF,λc aa=>by rcases bu c aa with h | h <;> omega⟩)) λr ah=>.ag ah);refine .au (Ξ:=λ_=>True) (Tot.ap (by simp [lim]; omega) trivial) λ_ _=>.ag ⟨by simp; omega,λc aa=>?_,List.pairwise_append.2 ⟨aF,List.pairwise_singleton ..,λa aQ b av=>?_⟩,λc aa=>?_⟩
  ·rcases List.mem_append.1 aa with aa | aa
   ·exact af c aa
   ·rw [List.mem_singleton.1 aa];exact ⟨⟨by show (0:Int)<=k; omega,by show (k:Int)<_; omega⟩,⟨by show (0:Int)<=J; omega,by show (J:Int)<_; omega⟩,Wm,ck.1,ck.2,by omega⟩
  ·rw [List.mem_singleton.1 av];rcases bu a aQ with h | h
   ·exact .inl h
   ·exact .inr h
  ·rcases List.mem_append.1 aa with aa | aa
   ·rcases bu c aa with h | h
    ·exact .inl h
    ·exact .inr ⟨h.1,by omega⟩
   ·rw [List.mem_singleton.1 aa];exact .inr ⟨rfl,by show (J:Int)<_; omega⟩
theorem Si (s:Source) (av:pb s):Tot (sb s) λr=>r.2.2=true->ga r.1/\mv r.1 r.2.1:=by
 unfold sb;refine .au (t66 s av) λr ah=>Tot.bj (λ_=>.ag λh=>by cases h) (λh=>?_);have aK:=ah (by simpa using h);refine .au (Sq r.1 aK) λm hm=>.ag λh=>⟨aK,?_⟩;have h:m.2=0:=of_decide_eq_true h;rcases hm with hm | hm
 ·exact hm.2
 ·omega
structure F9 (g:bq) (m:List State) (cs:List Cell):Prop where
 rK:ga g
 adn:mv g m
 ce:Ab g m.length cs
theorem Sc (s:Source) (av:pb s):Tot (q_ s) λr=>r.2.2.2=true->F9 r.1 r.2.1 r.2.2.1:=by
 unfold q_;refine .au (Si s av) λr ah=>Tot.bj (λ_=>.ag λh=>by cases h) (λh=>?_);obtain ⟨aK,hm⟩:=ah (by simpa using h);exact .au (Sk r.1 aK hm) λs8 Nd=>.au (Sj r.1 aK hm s8 Nd.1 Nd.2) λcs gT=>.ag λ_=>⟨aK,hm,gT⟩
def zl (g:bq) (p:Int):Int × Int:=match idx g.a1 p with
 | some q=>match idx g.aX q.Prec with
  | some t=>(t.Level,t.e9)
  | none=>(0,0)
 | none=>(0,0)
def dec (g:bq) (p t:Int):Int:=match idx g.aX t with
 | some k=>if (zl g p).1=0\/k.Level=0 then 0 else if (zl g p).1<k.Level then 1 else if k.Level<(zl g p).1 then 2 else if k.e9=1 then 2 else if k.e9=2 then 1 else 3
 | none=>0
theorem Tj (g:bq) (aK:ga g) (p:Int) (ar:0<=p/\p<g.a1.length):CH g p=some (zl g p):=by
 obtain ⟨q,a6,hm⟩:=n9 ar.1 ar.2;have av:=(aK.fl q hm).prec;unfold CH zl;have d1:decide (p<0)=false:=decide_eq_false (by omega);have d2:decide ((g.a1.length:Int)<=p)=false:=decide_eq_false (by omega);rw [d1,d2,a6];simp only [cond_false,Option.bind_some];by_cases h:q.Prec<0
 ·rw [decide_eq_true h,I7 (.inl h)]; rfl
 ·obtain ⟨t,al,_⟩:=n9 (l:=g.aX) (i:=q.Prec) (by omega) av.2;rw [decide_eq_false h,al]; rfl
theorem Th (g:bq) (aK:ga g) (p t:Int) (ar:0<=p/\p<g.a1.length) (al:0<=t/\t<g.aX.length):CA g p t=some (dec g p t):=by
 obtain ⟨k,hk,hm⟩:=n9 al.1 al.2;unfold CA dec;rw [Tj g aK p ar,hk];have d1:decide (t<0)=false:=decide_eq_false (by omega);have d2:decide ((g.aX.length:Int)<=t)=false:=decide_eq_false (by omega);rw [d1,d2];generalize zl g p=x;simp only [cond_false,Option.bind_some];by_cases h1:x.1=0
 ·simp [h1]
 ·by_cases af:k.Level=0
  ·simp [h1,af]
  ·rw [if_neg (by omega)];simp only [h1,af,decide_false,cond_false,Option.bind_some];by_cases aF:x.1<k.Level
   ·simp [aF]
   ·by_cases bu:k.Level<x.1
    ·simp [aF,bu]
    ·by_cases ct:k.e9=1
     ·simp [aF,bu,ct]
     ·by_cases dJ:k.e9=2 <;> simp [aF,bu,ct,dJ]
def sA (g:bq) (c:Cell):Act:=match c.a1 with
 | []=>if c.lG=true then ⟨3,0⟩ else ⟨1,c.jS⟩
 | p::_=>if c.lG=true then ⟨3,0⟩ else if c.jS<0 then ⟨2,p⟩ else if dec g p c.Tok=2 then ⟨2,p⟩ else if dec g p c.Tok=3 then ⟨4,0⟩ else ⟨1,c.jS⟩
def yI (g:bq) (c:Cell):List e5:=match c.a1 with
 | []=>[]
 | p::r=>r.map (λx=>(⟨c.State,c.Tok,p,x⟩:e5))++(if c.lG=true\/(0<=c.jS/\dec g p c.Tok=0) then [(⟨c.State,c.Tok,-1,p⟩:e5)] else [])
structure su (g:bq) (n:Nat) (a:Act):Prop where
 k:0<=a.Kind/\a.Kind<=4
 gL:a.Kind=0->a.N=0
 lU:a.Kind=1->0<=a.N/\a.N<n
 pD:a.Kind=2->qP g a.N
 Jy:a.Kind=3->a.N=0
 Ob:a.Kind=4->a.N=0
theorem Rg {g:bq}{n:Nat}{c:Cell}(h:o4 g n c):su g n (sA g c)/\(sA g c).Kind≠0:=by
 have BD:=h.ZW;have aS:=h.f;have a3:su g n ⟨3,0⟩:=⟨⟨by decide,by decide⟩,λh=>(by cases h),λh=>(by cases h),λh=>(by cases h),λ_=>rfl,λh=>by cases h⟩;have a4:su g n ⟨4,0⟩:=⟨⟨by decide,by decide⟩,λh=>(by cases h),λh=>(by cases h),λh=>(by cases h),λ_=>rfl,λ_=>rfl⟩;have aB:0<=c.jS->su g n ⟨1,c.jS⟩:=λaO=>⟨⟨by show (0:Int)<=1; decide,by show (1:Int)<=4; decide⟩,λh=>(by cases h),λ_=>⟨aO,aS.2⟩,λh=>(by cases h),λh=>(by cases h),λh=>by cases h⟩;have a2:∀ p∈c.a1,su g n ⟨2,p⟩:=λp ar=>⟨⟨by show (0:Int)<=2; decide,by show (2:Int)<=4; decide⟩,λh=>(by cases h),λh=>(by cases h),λ_=>h.q p ar,λh=>(by cases h),λh=>by cases h⟩;unfold sA;unfold oi at BD;cases ck:c.a1 with
 | nil =>
  simp only;rw [ck] at BD;by_cases h1:c.lG=true
  ·rw [if_pos h1]; exact ⟨a3,by decide⟩
  ·rw [if_neg h1];rw [if_neg h1] at BD;refine ⟨aB ?_,by show (1:Int)≠0; decide⟩;by_cases af:0<=c.jS
   ·exact af
   ·rw [if_neg af] at BD; simp at BD
 | cons p r =>
  simp only;have ar:=a2 p (by rw [ck]; simp);split
  ·exact ⟨a3,by decide⟩
  ·split
   ·exact ⟨ar,by show (2:Int)≠0; decide⟩
   ·split
    ·exact ⟨ar,by show (2:Int)≠0; decide⟩
    ·split
     ·exact ⟨a4,by decide⟩
     ·exact ⟨aB (by omega),by show (1:Int)≠0; decide⟩
theorem LJ {g:bq}(aK:ga g) {n:Nat}{c:Cell}(h:o4 g n c):(yI g c).length<=60:=by
 have ai:=h.len aK;unfold yI;cases ck:c.a1 with
 | nil=>simp
 | cons p r =>
  rw [ck,List.length_cons] at ai;simp only [List.length_append,List.length_map];split
  ·simp; omega
  ·simp; omega
theorem G7 (g:bq) (aK:ga g) {n:Nat}(c:Cell) (h:o4 g n c):xC g c=some (sA g c,yI g c):=by
 have ai:=h.len aK
 suffices aw:Tot (xC g c) λr=>r=(sA g c,yI g c) by
  obtain ⟨r,ah,e⟩:=aw; rw [ah,e]
 unfold xC sA yI;cases ck:c.a1 with
 | nil =>
  simp only;refine .au (Ξ:=λl:List e5=>l=[]) ?_ λl ai=>?_
  ·refine Tot.loop (λs=>s=(([]:List e5),(1:Int))) (λ_=>0) rfl (by show 0<1000000000000000000; omega) λs aw=>?_;subst aw;exact .ag rfl
  ·subst ai;cases h1:c.lG
   ·exact .ag (by simp)
   ·exact .ag (by simp)
 | cons p r =>
  rw [ck,List.length_cons] at ai;simp only;have gQ:idx (p::r) 0=some p:=rfl;refine .au (Ξ:=λl:List e5=>l=r.map (λx=>(⟨c.State,c.Tok,p,x⟩:e5))) ?_ λl ai=>?_
  ·refine Tot.count (λs=>s.2) ((r.length:Int)+1) (λs=>∃ k:Nat,k<=r.length/\s.2=((k+1:Nat):Int)/\s.1=(r.take k).map (λx=>(⟨c.State,c.Tok,p,x⟩:e5))) ⟨0,Nat.zero_le _,rfl,rfl⟩ (by show (r.length:Int)+1 - 1<_; omega) λs aw=>?_;obtain ⟨l,i⟩:=s;obtain ⟨k,hk,he,ba⟩:=aw;simp only at he ba ⊢;subst he ba;rw [ep (k+1) (by omega),gQ];refine Tot.bb (λaR=>?_) (λdq=>.ag ?_)
   ·rw [List.length_cons] at aR;have aR:k<r.length:=by omega
    have b2:idx (p::r) ((k+1:Nat):Int)=some r[k]:=by
     simp only [idx,if_pos (show (0:Int)<=((k+1:Nat):Int) by omega),Int.toNat_natCast,List.getElem?_cons_succ];exact List.getElem?_eq_getElem aR
    rw [b2];refine Tot.sm (Tot.sm (.au (Ξ:=λ_=>True) (Tot.ap (by simp [lim]; omega) trivial) λ_ _=>.ag ⟨⟨k+1,by omega,rfl,?_⟩,by show ((k+1:Nat):Int)<((k+1+1:Nat):Int); omega,by show ((k+1+1:Nat):Int)<=(r.length:Int)+1; omega⟩));show _=(r.take (k+1)).map _;rw [kk aR,List.map_append]; rfl
   ·rw [List.length_cons] at dq;rw [List.take_of_length_le (by omega)]; rfl
  ·subst ai;have ar:=h.q p (by rw [ck]; simp);have G9:=Th g aK p c.Tok ⟨by have:=ar.1; omega,ar.2⟩ h.t;have dl:decide (((p::r).length:Int)=0)=false:=decide_eq_false (by simp; omega);simp only [gQ,G9,dl,cond_false,Option.bind_some];generalize sP:dec g p c.Tok=v;refine ⟨_,?_,rfl⟩;have MS:dj (r.map (λx=>(⟨c.State,c.Tok,p,x⟩:e5))) [(⟨c.State,c.Tok,(-1),p⟩:e5)]=some (r.map (λx=>(⟨c.State,c.Tok,p,x⟩:e5))++[⟨c.State,c.Tok,(-1),p⟩]):=by
    unfold dj; rw [if_pos (by simp [lim]; omega)]
   cases h1:c.lG
   ·by_cases af:c.jS<0
    ·have aF:¬ (0<=c.jS):=by omega
     simp [af,aF]
    ·have aF:0<=c.jS:=by omega
     by_cases bu:v=0
     ·simp [af,aF,bu,MS]
     ·by_cases ct:v=2
      ·simp [af,aF,ct]
      ·by_cases dJ:v=3
       ·simp [af,aF,dJ]
       ·simp [af,aF,bu,ct,dJ]
   ·simp [MS]
def rowOf (g:bq) (l:List Cell):List Act:=l.foldl (λrow c=>row.set c.Tok.toNat (sA g c)) (List.replicate g.aX.length ⟨0,0⟩)
def ie (cs:List Cell) (q:Nat):List Cell:=cs.filter λc=>decide (c.State=(q:Int))
def go (m:List State) (q s:Int):Int:=(q' m q s).getD (-1)
theorem go_eq {g:bq}{m:List State}(hm:mv g m) (q s:Int):q' m q s=some (go m q s)/\GoTo m q s (go m q s):=by
 obtain ⟨r,ah,h⟩:=va m q s hm.xm;unfold go;rw [ah];exact ⟨rfl,h⟩
theorem O8 (g:bq):∀ (l:List Cell),(rowOf g l).length=g.aX.length:=λl=>by
 suffices h:∀ (l:List Cell) (r:List Act),(l.foldl (λrow c=>row.set c.Tok.toNat (sA g c)) r).length=r.length by
  unfold rowOf; rw [h]; simp
 intro l
 induction l with
 | nil=>intro r; rfl
 | cons c l aL=>intro r; rw [List.foldl_cons,aL,List.length_set]
theorem Y7 (g:bq) (l:List Cell) (c:Cell):rowOf g (l++[c])=(rowOf g l).set c.Tok.toNat (sA g c):=by
 unfold rowOf; rw [List.foldl_append]; rfl
theorem Y4 {g:bq}{n:Nat}:∀ {l:List Cell},(∀ c∈l,o4 g n c)->∀ a∈rowOf g l,su g n a:=by
 intro l h
 suffices aw:∀ (l:List Cell) (r:List Act),(∀ c∈l,o4 g n c)->(∀ a∈r,su g n a)->∀ a∈l.foldl (λrow c=>row.set c.Tok.toNat (sA g c)) r,su g n a by
  refine aw l _ h λa aQ=>?_;rw [List.eq_of_mem_replicate aQ];exact ⟨⟨by decide,by decide⟩,λ_=>rfl,λh=>(by cases h),λh=>(by cases h),λh=>(by cases h),λh=>by cases h⟩
 intro l
 induction l with
 | nil=>intro r _ ah; exact ah
 | cons c l aL =>
  intro r ai ah;rw [List.foldl_cons];refine aL _ (λd aP=>ai d (by simp [aP])) λa aQ=>?_;rcases List.mem_or_eq_of_mem_set aQ with h | h
  ·exact ah a h
  ·rw [h]; exact (Rg (ai c (by simp))).1
def wN (g:bq) (m:List State) (q:Nat):List Int:=(List.range g.bO.length).map λa:Nat=>go m q (1000+(a:Int))
def lJ (g:bq) (l:List Cell):List e5:=l.flatMap (yI g)
theorem GQ {g:bq}(aK:ga g) {n:Nat}:∀ {l:List Cell},(∀ c∈l,o4 g n c)->(lJ g l).length<=60 * l.length
 | [],_=>by simp [lJ]
 | c::l,h=>by
  have h1:=LJ aK (h c (by simp));have af:=GQ aK (l:=l) λd aP=>h d (by simp [aP]);unfold lJ at af ⊢;rw [List.flatMap_cons,List.length_append,List.length_cons];omega
theorem PZ {α:Type}{l:List α}{k:Nat}(h:k<l.length) (p:α->Bool):(l.take (k+1)).filter p=(l.take k).filter p++(if p l[k] then [l[k]] else []):=by
 rw [kk h,List.filter_append];congr 1;rw [List.filter_cons]
 split <;> simp
structure F' (g:bq) (m:List State) (cs:List Cell) (d:iu):Prop where
 a:d.dw=(List.range m.length).map λq=>rowOf g (ie cs q)
 o:d.fU=(List.range m.length).map λq=>wN g m q
theorem AG (g:bq) (m:List State) (cs:List Cell) (dp:F9 g m cs):Tot (zz g m cs) λr=>F' g m cs r.1/\r.2=(List.range m.length).flatMap λq=>lJ g (ie cs q):=by
 obtain ⟨aK,hm,aa⟩:=dp;have al:=aK.j6;have aA:=aK.de;have qX:=hm.lU;have H7:=aa.n;unfold zz;refine .au (Ξ:=λr:List (List Act) × List (List Int) × List e5=>r.1=(List.range m.length).map (λq=>rowOf g (ie cs q))/\r.2.1=(List.range m.length).map (λq=>wN g m q)/\r.2.2=(List.range m.length).flatMap λq=>lJ g (ie cs q)) ?_ λr ah=>.ag ⟨⟨ah.1,ah.2.1⟩,ah.2.2⟩;have sO:∀ q,(lJ g (ie cs q)).length<=360000:=λq=>by
  have h1:=GQ aK (l:=ie cs q) λc qe=>aa.ok c ((List.mem_filter.1 qe).1);have af:=List.length_filter_le (λc:Cell=>decide (c.State=(q:Int))) cs;unfold ie at h1 ⊢;omega
 have Vy:∀ k,((List.range k).flatMap λq=>lJ g (ie cs q)).length<=360000 * k:=λk=>by
  induction k with
  | zero=>simp
  | succ k aL =>
   rw [List.range_succ,List.flatMap_append,List.length_append];have:=sO k;simp only [List.flatMap_cons,List.flatMap_nil,List.append_nil];omega
 refine Tot.upto (λs=>s.2.2.2) m.length (λk s=>s.1=(List.range k).map (λq=>rowOf g (ie cs q))/\s.2.1=(List.range k).map (λq=>wN g m q)/\s.2.2.1=(List.range k).flatMap λq=>lJ g (ie cs q)) rfl (by omega) ⟨rfl,rfl,rfl⟩ λk s hk he ba=>?_;obtain ⟨A,G,C,i⟩:=s;obtain ⟨h1,af,aF⟩:=ba;simp only at he h1 af aF ⊢;subst he h1 af aF;rw [ep k (by omega)];refine Tot.bb (λaR=>?_) (λdq=>.ag ?_)
 ·have aR:k<m.length:=by omega
  refine .au (Ξ:=λr=>r=List.replicate g.aX.length (⟨0,0⟩:Act)) (Tot.mk (by simp [lim]; omega) (by simp)) λtF fQ=>?_;subst fQ;have acO:=Vy k;refine .au (Ξ:=λr:List e5 × List Act=>r.1=(List.range k).flatMap (λq=>lJ g (ie cs q))++lJ g (ie cs k)/\r.2=rowOf g (ie cs k)) ?_ λr ah=>?_
  ·refine Tot.upto (λs=>s.2.2) cs.length (λJ s=>s.1=(List.range k).flatMap (λq=>lJ g (ie cs q))++lJ g (ie (cs.take J) k)/\s.2.1=rowOf g (ie (cs.take J) k)) rfl (by omega) ⟨by simp [ie,lJ],by simp [ie,rowOf]⟩ λJ s aj he ba=>?_;obtain ⟨C,R,i⟩:=s;obtain ⟨h1,af⟩:=ba;simp only at he h1 af ⊢;subst he h1 af;rw [ep J (by omega)];refine Tot.bb (λfX=>?_) (λdq=>.ag ?_)
   ·have fX:J<cs.length:=by omega
    have wX:=aa.ok _ (List.getElem_mem fX);have wZ:=PZ fX (λc:Cell=>decide (c.State=(k:Int)));have ade:(lJ g (ie (cs.take J) k)).length<=360000:=by
     have h1:=GQ aK (l:=ie (cs.take J) k) λc qe=>aa.ok c (List.mem_of_mem_take ((List.mem_filter.1 qe).1));have af:=List.length_filter_le (λc:Cell=>decide (c.State=(k:Int))) (cs.take J);rw [List.length_take] at af;unfold ie at h1 ⊢;omega
    rw [d_ fX];generalize cs[J]=c at *;simp only [Option.bind_some];refine .au (Ξ:=λr:List e5 × List Act=>r.1=(List.range k).flatMap (λq=>lJ g (ie cs q))++lJ g (ie (cs.take (J+1)) k)/\r.2=rowOf g (ie (cs.take (J+1)) k)) ?_ λr ah=>.ag ⟨fX,rfl,ah⟩;refine .au (Ξ:=λr:List e5 × List Act=>r.1=(List.range k).flatMap (λq=>lJ g (ie cs q))++lJ g (ie (cs.take (J+1)) k)/\r.2=rowOf g (ie (cs.take (J+1)) k)) (Tot.bb (λaw=>?_) (λaw=>.ag ?_)) λr ah=>.ag ah
    ·rw [decide_eq_true aw,if_pos rfl] at wZ;rw [G7 g aK c wX];simp only [Option.bind_some];have n2:=O8 g (ie (cs.take J) k);obtain ⟨a0,wS,_⟩:=n9 (l:=rowOf g (ie (cs.take J) k)) (i:=c.Tok) wX.t.1 (by rw [n2]; exact wX.t.2);rw [wS];have ht:=LJ aK wX;refine Tot.sm (.au (Ξ:=λ_=>True) (Tot.ap (by rw [List.length_append]; simp only [lim]; omega) trivial) λ_ _=>.ag ⟨?_,?_⟩)
     ·show _=_++lJ g ((cs.take (J+1)).filter _);rw [wZ];unfold lJ;rw [List.flatMap_append,List.append_assoc];simp [ie]
     ·show _=rowOf g ((cs.take (J+1)).filter _);rw [wZ,Y7]; rfl
    ·have:(if (decide (c.State=(k:Int)))=true then [c] else [])=[]:=by simp [aw]
     rw [this,List.append_nil] at wZ;unfold ie;rw [wZ];exact ⟨rfl,rfl⟩
   ·have e:cs.take J=cs:=List.take_of_length_le (by omega);rw [e];exact ⟨rfl,rfl⟩
  ·obtain ⟨C,R⟩:=r;obtain ⟨h1,af⟩:=ah;simp only at h1 af ⊢;subst h1 af;refine .au (Ξ:=λr=>r=List.replicate g.bO.length (0:Int)) (Tot.mk (by simp [lim]; omega) (by simp)) λGf AZ=>?_;subst AZ;refine .au (Ξ:=λr:List Int=>r=wN g m k) ?_ λr ah=>?_
   ·refine Tot.upto (λs=>s.2) g.bO.length (λJ s=>s.1.length=g.bO.length/\∀ i:Nat,i<J->s.1[i]?=some (go m k (1000+(i:Int)))) rfl (by omega) ⟨by simp,λi hi=>absurd hi (Nat.not_lt_zero _)⟩ λJ s aj he ba=>?_;obtain ⟨L,i⟩:=s;obtain ⟨h1,af⟩:=ba;simp only at he h1 af ⊢;subst he;rw [ep J (by omega)];refine Tot.bb (λfX=>?_) (λdq=>.ag ?_)
    ·have fX:J<L.length:=by omega
     have hw:aE (1000+(J:Int))=1000+(J:Int):=by rw [cq]; omega
     rw [hw,(go_eq hm k _).1,d_ fX];refine Tot.sm (Tot.sm (.ag ⟨by omega,rfl,?_,λi hi=>?_⟩))
     ·show (L.set _ _).length=_;rw [List.length_set]; exact h1
     ·show (L.set (J:Int).toNat _)[i]?=_;rw [Int.toNat_natCast,uT fX];by_cases e:i=J
      ·subst e; rw [if_pos rfl]
      ·rw [if_neg e]; exact af i (by omega)
    ·show L=wN g m k;refine List.ext_getElem? λi=>?_;unfold wN;by_cases hi:i<g.bO.length
     ·rw [af i (by omega),List.getElem?_map,List.getElem?_range hi]; rfl
     ·rw [List.getElem?_eq_none (by omega),List.getElem?_eq_none (by simp; omega)]
   ·subst ah;refine .au (Ξ:=λ_=>True) (Tot.ap (by simp [lim]; omega) trivial) λ_ _=>.au (Ξ:=λ_=>True) (Tot.ap (by simp [lim]; omega) trivial) λ_ _=>.ag ⟨aR,rfl,?_,?_,?_⟩
    ·show _=(List.range (k+1)).map _;rw [List.range_succ,List.map_append]; rfl
    ·show _=(List.range (k+1)).map _;rw [List.range_succ,List.map_append]; rfl
    ·show _=(List.range (k+1)).flatMap _;rw [List.range_succ,List.flatMap_append]; simp
 ·have:k=m.length:=by omega
  subst this;exact ⟨rfl,rfl,rfl⟩
structure rr (g:bq) (n:Nat) (d:iu):Prop where
 gL:0<n/\n<=150
 rK:ga g
 a:d.dw.length=n
 lk:∀ r∈d.dw,r.length=g.aX.length/\∀ a∈r,su g n a
 o:d.fU.length=n
 Ci:∀ r∈d.fU,r.length=g.bO.length/\∀ v∈r,-1<=v/\v<n
theorem F'.aW {g:bq}{m:List State}{cs:List Cell}{d:iu}(h:F' g m cs d) (dp:F9 g m cs):rr g m.length d:=by
 obtain ⟨aK,hm,aa⟩:=dp;refine ⟨⟨hm.gL,hm.lU⟩,aK,by rw [h.a]; simp,λr ah=>?_,by rw [h.o]; simp,λr ah=>?_⟩
 ·rw [h.a] at ah;obtain ⟨q,_,rfl⟩:=List.mem_map.1 ah;exact ⟨O8 g _,Y4 λc qe=>aa.ok c (List.mem_filter.1 qe).1⟩
 ·rw [h.o] at ah;obtain ⟨q,_,rfl⟩:=List.mem_map.1 ah;refine ⟨by simp [wN],λv hv=>?_⟩;obtain ⟨a,_,rfl⟩:=List.mem_map.1 hv;exact (go_eq hm q _).2.aW hm
theorem YT {g:bq}(aK:ga g) {n:Nat}{cs:List Cell}(aa:Ab g n cs) {f:Cell->Option Int}(aS:∀ c:Cell,c.a1.length<=1000->f c=some (oi c:Int)):Tot (b6 (R:=Int) (λ(s1:Int × Int) =>
(bif decide (s1.2<(cs.length:Int)) then
((idx cs s1.2).bind λbN =>
(f bN).bind λbW =>
((bif decide (1<bW) then
some (aE (s1.1+1))
else
some s1.1)).bind λfg =>
some fg).bind λqo =>
some (.inl (qo,aE (s1.2+1)))
else
some (.inr s1.1))) (0,0)) λr=>r=((cs.filter λc=>decide (1<oi c)).length:Int):=by
 have H7:=aa.n;refine Tot.upto (λs=>s.2) cs.length (λk s=>s.1=(((cs.take k).filter λc=>decide (1<oi c)).length:Int)) rfl (by omega) rfl λk s hk he ba=>?_;obtain ⟨z,i⟩:=s;simp only at he ba ⊢;subst he ba;rw [ep k (by omega)];refine Tot.bb (λaR=>?_) (λdq=>.ag ?_)
 ·have aR:k<cs.length:=by omega
  have Vj:=aa.ok _ (List.getElem_mem aR);have wZ:=PZ aR (λc:Cell=>decide (1<oi c));have sO:=List.length_filter_le (λc:Cell=>decide (1<oi c)) (cs.take k);rw [List.length_take] at sO;rw [d_ aR];generalize cs[k]=c at *;have ht:=Vj.len aK;rw [show (some c).bind=λ(f:Cell->Option Int)=>f c from rfl]
  simp only [aS c (by omega),Option.bind_some];refine .au (Ξ:=λz:Int=>z=(((cs.take (k+1)).filter λc=>decide (1<oi c)).length:Int)) ?_ λr ah=>.ag ⟨aR,rfl,ah⟩;rw [wZ];refine .au (Ξ:=λz:Int=>z=(((cs.take k).filter (λc=>decide (1<oi c))++if decide (1<oi c)=true then [c] else []).length:Int)) (Tot.bb (λh=>.ag ?_) (λh=>.ag ?_)) λr ah=>.ag ah
  ·have:1<oi c:=by omega
   rw [ep _ (by omega)];simp [this]
  ·have:¬ 1<oi c:=by omega
   simp [this]
 ·have e:cs.take k=cs:=List.take_of_length_le (by omega);rw [e]; rfl
theorem AH {g:bq}(aK:ga g) {n:Nat}{cs:List Cell}(aa:Ab g n cs):Tot (Cp cs) λr=>r=((cs.filter λc=>decide (1<oi c)).length:Int):=by
 unfold Cp;exact .au (YT aK aa L2) λr ah=>.ag ah
theorem AE (s:Source) (av:pb s):Tot (q9 s) λr=>r.2.2.2=true->∃ n,rr r.1 n r.2.1:=by
 unfold q9;refine .au (Sc s av) λr ah=>Tot.bj (λ_=>.ag λh=>by cases h) (λh=>?_);have dp:=ah (by simpa using h);exact .au (AG _ _ _ dp) λd aP=>.au (AH dp.rK dp.ce) λ_ _=>.ag λ_=>⟨_,aP.1.aW dp⟩
open Go Go.Own
theorem aac (a:Act):Tot (ta a) λ_=>True:=by
 unfold ta
 repeat' first | apply Tot.bi | refine Tot.bj (λ_=>?_) (λ_=>?_) | exact Tot.ag trivial | apply Tot.ag
def tC (l:List Int) (v:Int):Prop:=(l=[]/\v=-1)\/(v∈l/\∀ x∈l,l.count x<l.count v\/(l.count x=l.count v/\v<=x))
theorem tC.uniq {l:List Int}{v w:Int}(h:tC l v) (aH:tC l w):v=w:=by
 rcases h with ⟨h1,af⟩ | ⟨h1,af⟩ <;> rcases aH with ⟨aF,bu⟩ | ⟨aF,bu⟩
 ·omega
 ·subst h1; cases aF
 ·subst aF; cases h1
 ·have a:=af w aF;have b:=bu v h1;omega
theorem yK (l:List Int) (y x:Int):(l++[y]).count x=l.count x+(if y=x then 1 else 0):=by
 rw [List.count_append];by_cases e:y=x
 ·subst e; simp
 ·rw [if_neg e,List.count_eq_zero.2 λhm=>e (List.mem_singleton.1 hm).symm]
theorem S4 {l:List Int}{x:Int}(h:x∈l):0<l.count x:=List.count_pos_iff.2 h
theorem tC.snoc {l:List Int}{b y:Int}(h:tC l b) (aO:∀ x∈l,0<=x) (ak:0<=y):tC (l++[y]) (if b<0\/(l++[y]).count b<(l++[y]).count y\/((l++[y]).count y=(l++[y]).count b/\y<b) then y else b):=by
 refine .inr ?_;rcases h with ⟨rfl,rfl⟩ | ⟨av,hm⟩
 ·rw [if_pos (.inl (by decide))];refine ⟨by simp,λx j=>?_⟩;rw [List.nil_append,List.mem_singleton] at j;subst j; exact .inr ⟨rfl,Int.le_refl _⟩
 ·have A':=aO b av;have key:∀ x∈l++[y],x∈l\/x=y:=λx j=>by simpa using j
  have wF:(l++[y]).count y=l.count y+1:=by rw [yK,if_pos rfl]
  by_cases uf:b=y
  ·subst uf;rw [if_neg (by omega)];refine ⟨by simp,λx j=>?_⟩;rw [wF];by_cases e:x=b
   ·subst e; exact .inr ⟨wF,Int.le_refl _⟩
   ·rw [yK,if_neg (λh=>e h.symm)];rcases key x j with j | j
    ·have:=hm x j; omega
    ·exact absurd j e
  ·have tS:(l++[y]).count b=l.count b:=by rw [yK,if_neg (λh=>uf h.symm)]; rfl
   by_cases aa:b<0\/(l++[y]).count b<(l++[y]).count y\/((l++[y]).count y=(l++[y]).count b/\y<b)
   ·rw [if_pos aa];rw [tS,wF] at aa;refine ⟨by simp,λx j=>?_⟩;rw [wF];by_cases e:x=y
    ·subst e; exact .inr ⟨wF,Int.le_refl _⟩
    ·rw [yK,if_neg (λh=>e h.symm)];rcases key x j with j | j
     ·have:=hm x j; omega
     ·exact absurd j e
   ·rw [if_neg aa];rw [tS,wF] at aa;refine ⟨by simp [av],λx j=>?_⟩;rw [tS];by_cases e:x=y
    ·subst e; rw [wF]; omega
    ·rw [yK,if_neg (λh=>e h.symm)];rcases key x j with j | j
     ·have:=hm x j; omega
     ·exact absurd j e
theorem Sm (l:List Int) (ai:l.length<=100000) (aO:∀ x∈l,0<=x/\x<=1000000):Tot (uI l) (tC l):=by
 unfold uI;refine .au (Ξ:=λr:List Int=>eX hJ r/\r.length<=l.length/\∀ x,x∈r↔x∈l) ?_ λD hd=>?_
 ·refine Tot.upto (λs=>s.2) l.length (λk s=>eX hJ s.1/\s.1.length<=k/\∀ x,x∈s.1↔x∈l.take k) rfl (by omega) ⟨.nil,Nat.le_refl 0,λx=>by simp⟩ λk s hk he ba=>?_;obtain ⟨r,i⟩:=s;obtain ⟨h1,af,aF⟩:=ba;simp only at he h1 af aF ⊢;subst he;rw [ep k (by omega)];refine Tot.bb (λaR=>?_) (λdq=>.ag ?_)
  ·have aR:k<l.length:=by omega
   have fp:=kk aR;rw [d_ aR];generalize l[k]=y at *;refine Tot.sm (.au (AJ r y h1 (by omega)) λcK dK=>.ag ⟨aR,rfl,dK.1,by have:=dK.2.1; show cK.length<=k+1; omega,λx=>?_⟩);rw [fp,List.mem_append,List.mem_singleton,<- aF];exact dK.2.2 x
  ·have e:l.take k=l:=List.take_of_length_le (by omega);rw [e] at aF;exact ⟨h1,by omega,aF⟩
 ·obtain ⟨Ue,MB,D2⟩:=hd;refine .au (Ξ:=λr:Int=>tC l r) ?_ λr ah=>.ag ah;refine Tot.upto (λs=>s.2.2) D.length (λk s=>(k=0/\s.1=-1/\s.2.1=0)\/(s.1∈D.take k/\s.2.1=(l.count s.1:Int)/\∀ x∈D.take k,l.count x<l.count s.1\/(l.count x=l.count s.1/\s.1<=x))) rfl (by omega) (.inl ⟨rfl,rfl,rfl⟩) λk s hk he ba=>?_;obtain ⟨b,n,i⟩:=s;simp only at he ba ⊢;subst he;rw [ep k (by omega)];refine Tot.bb (λaR=>?_) (λdq=>.ag ?_)
  ·have aR:k<D.length:=by omega
   have fp:=kk aR;have EC:=List.getElem_mem aR;have ur:∀ x∈D.take k,x<D[k]:=λx j=>by
    obtain ⟨J,aj,rfl⟩:=List.mem_iff_getElem.1 j;rw [List.length_take] at aj;rw [List.getElem_take];exact Jt.1 (Gr Ue (by omega) aR (by omega))
   rw [d_ aR];generalize D[k]=y at *;have EB:=(D2 y).1 EC;refine .au (Ξ:=λr:Int × Int=>r.1∈D.take (k+1)/\r.2=(l.count r.1:Int)/\∀ x∈D.take (k+1),l.count x<l.count r.1\/(l.count x=l.count r.1/\r.1<=x)) ?_ λr ah=>.ag ⟨aR,rfl,.inr ah⟩;refine .au (Ξ:=λz:Int=>z=(l.count y:Int)) ?_ λz aT=>?_
   ·refine Tot.upto (λs=>s.2) l.length (λJ s=>s.1=((l.take J).count y:Int)) rfl (by omega) (by simp) λJ s aj he ba=>?_;obtain ⟨z,i⟩:=s;simp only at he ba ⊢;subst he ba;rw [ep J (by omega)];refine Tot.bb (λfX=>?_) (λdq=>.ag ?_)
    ·have fX:J<l.length:=by omega
     have uq:=kk fX;have ht:=List.count_le_length (a:=y) (l:=l.take J);rw [List.length_take] at ht;rw [d_ fX];generalize l[J]=x at *;simp only [Option.bind_some];refine .au (Ξ:=λz:Int=>z=((l.take (J+1)).count y:Int)) ?_ λz aT=>.ag ⟨fX,rfl,aT⟩;rw [uq,yK];refine .au (Ξ:=λz:Int=>z=(((l.take J).count y+if x=y then 1 else 0:Nat):Int)) (Tot.bb (λe=>.ag ?_) (λe=>.ag ?_)) λz aT=>.ag aT
     ·rw [if_pos e,ep _ (by omega)]
     ·rw [if_neg e]; rfl
    ·have e:l.take J=l:=List.take_of_length_le (by omega);rw [e]; rfl
   ·subst aT;refine .au (Ξ:=λr:Int × Int=>r.1∈D.take (k+1)/\r.2=(l.count r.1:Int)/\∀ x∈D.take (k+1),l.count x<l.count r.1\/(l.count x=l.count r.1/\r.1<=x)) ?_ λr ah=>.ag ah;have acM:=S4 EB;rw [fp];have key:∀ x∈D.take k++[y],x∈D.take k\/x=y:=λx j=>by simpa using j
    refine Tot.bb (λaa=>Tot.sm (.ag ⟨by simp,rfl,λx j=>?_⟩)) (λaa=>?_)
    ·rcases key x j with j | rfl
     ·rcases ba with ⟨rfl,_,_⟩ | ⟨h1,af,aF⟩
      ·simp at j
      ·have:=aF x j; show l.count x<l.count y\/_; omega
     ·exact .inr ⟨rfl,Int.le_refl _⟩
    ·rcases ba with ⟨rfl,_,rfl⟩ | ⟨h1,af,aF⟩
     ·omega
     ·refine .ag ⟨by simp [h1],af,λx j=>?_⟩;rcases key x j with j | rfl
      ·exact aF x j
      ·have:=ur b h1;have aa:¬ ((n:Int)<(l.count x:Int)):=aa;have af:n=(l.count b:Int):=af;show l.count x<l.count b\/(l.count x=l.count b/\b<=x);omega
  ·have e:D.take k=D:=List.take_of_length_le (by omega);rw [e] at ba;rcases ba with ⟨rfl,rfl,_⟩ | ⟨h1,af,aF⟩
   ·have:D=[]:=List.eq_nil_of_length_eq_zero (by omega);refine .inl ⟨?_,rfl⟩;refine List.eq_nil_iff_forall_not_mem.2 λx j=>?_;have:=(D2 x).2 j
    subst_vars
    cases this
   ·exact .inr ⟨(D2 b).1 h1,λx j=>aF x ((D2 x).2 j)⟩
open Go Go.Own Go.Lib
structure Ag (g:bq):Prop where
 code:∀ p∈g.a1,p.Code.size<=1000
 args:∀ p∈g.a1,∀ s∈p.rq,nO g.aX.length (g.bO.length - 1) s
 Z5:∀ t∈g.aX,t.Tag.size<=1000
 Oj:∀ t∈g.bO,t.Tag.size<=1000
theorem AI (g:bq) (aK:ga g) (j:Ag g) (s:Int) (aw:nO g.aX.length (g.bO.length - 1) s):Tot (Cw g s) λr=>r.size<=1000:=by
 unfold Cw;have h1:=aK.j6;have af:=aK.de;have aw:=aw;unfold nO at aw;refine Tot.bb (λh=>?_) (λh=>?_)
 ·have e:aE (s - 1000)=s - 1000:=by rw [cq]; omega
  rw [e];exact .bi (.hI (by omega) (by omega) λy _ ak=>.ag (j.Oj y ak))
 ·exact .bi (.hI (by omega) (by omega) λy _ ak=>.ag (j.Z5 y ak))
theorem Sd (g:bq) (aK:ga g) (j:Ag g) (k:Int):Tot (xA g k) λr=>r.1.size<=3000000:=by
 unfold xA;have h1:=aK.j6;have af:=aK.de;have aF:=aK.hb;refine .au (Ξ:=λc=>c=false->0<=k/\k<g.a1.length) (Tot.bb (λ_=>.ag λh=>by cases h) (λa=>Tot.bb (λ_=>.ag λh=>by cases h) (λb=>.bi (.hI (by omega) (by omega) λy _ ak=>.ag λ_=>⟨by omega,by omega⟩)))) λc aa=>Tot.bj (λ_=>.ag (Nat.zero_le _)) (λaS=>?_);obtain ⟨k0,vM⟩:=aa aS;refine .bi (.hI k0 vM λp _ ar=>?_);have Vm:=j.code p ar;have oH:=j.args p ar;have y5:=aK.fl p ar;refine .au (Sl p.Code Vm) λbW kV=>Tot.iz (λ_=>.ag (Nat.zero_le _)) (λhe=>?_);obtain ⟨ai,V9⟩:=kV he;refine .au (Ξ:=ft (λr:ByteArray=>r.size<=3000000) (λr:ByteArray × Int × ByteArray=>r.1.size<=3000000)) ?_ λx j=>by
  rcases x with x | x
  ·exact .ag j
  ·exact .ag j
 refine Tot.upto (λz=>z.2) bW.1.length (λJ z=>z.1.size<=J * 1100) rfl (by omega) (Nat.zero_le _) λJ z aj he ba=>?_;obtain ⟨t,i⟩:=z;simp only at he ba ⊢;subst he;rw [ep J (by omega)];refine Tot.bb (λaR=>?_) (λdq=>.ag (by show t.size<=_; omega));have aR:J<bW.1.length:=by omega
 rw [d_ aR];have a6:=V9 _ (List.getElem_mem aR);generalize bW.1[J]=q at *;obtain ⟨adx,adw,CN⟩:=a6;refine Tot.sm (Tot.sm (Tot.bb (λ_=>?_) (λ_=>Tot.bb (λ_=>?_) (λ_=>?_))))
 ·refine Tot.sm (.bi (.cat (by omega) (.ag ⟨aR,rfl,?_⟩)));show (t++q.Text).size<=_;rw [ByteArray.size_append]; omega
 ·have z5:((⟨#[121,121,86,65,76]⟩:ByteArray)).size=5:=rfl;have bs:((⟨#[46]⟩:ByteArray)).size=1:=rfl;refine .bi (.cat (by omega) (.au (Ξ:=λb:ByteArray=>b.size<=1000) (Tot.bb (λ_=>.bi (.hI y5.left.1 (by have:=y5.left.2; omega) λy _ ak=>.ag (j.Oj y ak))) (λ_=>.ag (by omega))) λb av=>?_));refine .au (Ξ:=λr:ByteArray=>r.size<=t.size+1010) (Tot.iz (λ_=>.bi (.cat (by rw [ByteArray.size_append]; omega) (.bi (.cat (by simp only [ByteArray.size_append]; omega) (.ag (by simp only [ByteArray.size_append]; omega)))))) (λ_=>.ag (by rw [ByteArray.size_append]; omega))) λr ah=>.ag ⟨aR,rfl,?_⟩;show r.size<=_;omega
 ·refine Tot.sm (.au (Ξ:=λc=>c=false->1<=q.N/\q.N<=p.rq.length) (Tot.bb (λ_=>.ag λh=>by cases h) (λa=>.ag λh=>by have:=of_decide_eq_false h; omega)) λc aa=>Tot.bj (λ_=>?_) (λaS=>?_))
  ·rw [mZ _ CN];have:=EH _ CN;have bs:((⟨#[36]⟩:ByteArray)).size=1:=rfl;refine Tot.sm (.bi (.cat (by have:(⟨(k1 q.N).toArray⟩:ByteArray).size=(k1 q.N).length:=(by rw [lI]); omega) (.ag (Nat.zero_le _))))
  ·obtain ⟨gL,lU⟩:=aa aS;have z9:((⟨#[121,121,68,111,108,108,97,114,91]⟩:ByteArray)).size=9:=rfl;have bs:((⟨#[46]⟩:ByteArray)).size=1:=rfl;have z2:((⟨#[93]⟩:ByteArray)).size=1:=rfl;have hi:=EH _ CN;have aw:(⟨(k1 q.N).toArray⟩:ByteArray).size=(k1 q.N).length:=by rw [lI]
   rw [mZ _ CN];refine .bi (.cat (by omega) (Tot.sm (.bi (.cat (by rw [ByteArray.size_append]; omega) (.bi (.cat (by simp only [ByteArray.size_append]; omega) (.au (Ξ:=λb:ByteArray=>b.size<=1000) (Tot.bb (λ_=>?_) (λ_=>.ag (by omega))) λb av=>?_)))))))
   ·unfold i64 at CN;have e:aE (q.N - 1)=q.N - 1:=by rw [cq]; omega
    rw [e];exact .bi (.hI (by omega) (by omega) λy _ ak=>.au (AI g aK j y (oH y ak)) λr ah=>.ag ah)
   ·refine .au (Ξ:=λr:ByteArray=>r.size<=t.size+1040) (Tot.iz (λ_=>.bi (.cat (by simp only [ByteArray.size_append]; omega) (.bi (.cat (by simp only [ByteArray.size_append]; omega) (.ag (by simp only [ByteArray.size_append]; omega)))))) (λ_=>.ag (by simp only [ByteArray.size_append]; omega))) λr ah=>.ag ⟨aR,rfl,?_⟩;show r.size<=_;omega
theorem tP (g:bq) (aK:ga g) (j:Ag g):Tot (xy g) λr=>r.2.1=0->r.1.length<=60/\∀ t∈r.1,t.size<=3000000:=by
 unfold xy;have aF:=aK.hb;refine .au (Ξ:=ft (λr:List ByteArray=>r.length<=60/\∀ t∈r,t.size<=3000000) (λr:List ByteArray × Int × Int × ByteArray=>r.2.1≠0)) ?_ λx j=>by
  rcases x with x | x
  ·exact .ag λ_=>j
  ·exact .ag λh=>absurd h j
 refine Tot.upto (λz=>z.2) g.a1.length (λk z=>z.1.length=k/\∀ t∈z.1,t.size<=3000000) rfl (by omega) ⟨rfl,λt h=>by cases h⟩ λk z hk he ba=>?_;obtain ⟨l,i⟩:=z;obtain ⟨h1,af⟩:=ba;simp only at he h1 af ⊢;subst he;rw [ep k (by omega)];refine Tot.bb (λaR=>?_) (λdq=>.ag ⟨by show l.length<=60; omega,af⟩);have aR:k<g.a1.length:=by omega
 refine .au (Sd g aK j k) λr ah=>Tot.iz (λcy=>?_) (λ_=>?_)
 ·rw [d_ aR];exact Tot.sm (.ag cy)
 ·refine .bi (.ap (by simp [lim]; omega) (.ag ⟨aR,rfl,?_,λt al=>?_⟩))
  ·show (l++[r.1]).length=k+1;simp; omega
  ·rcases List.mem_append.1 al with al | al
   ·exact af t al
   ·rw [List.mem_singleton.1 al]; exact ah
structure fJ (m:c3):Prop where
 t:∀ x∈m.aD.aX,x.Tag.size<=1000
 y:∀ x∈m.cp,x.Tag.size<=1000
theorem fJ.fail {m bd:c3}(h:fJ m) (aw:qQ m bd/\bd.cI≠0):fJ bd:=⟨by rw [aw.1.g]; exact h.t,by rw [aw.1.ty]; exact h.y⟩
theorem C1 {l:List Tok}{k:Nat}{t:Tok}(h:∀ x∈l,x.Tag.size<=1000) (al:t.Tag.size<=1000):∀ x∈l.set k t,x.Tag.size<=1000:=λx j=>by
 rcases List.mem_or_eq_of_mem_set j with e | e
 ·exact h x e
 ·rw [e]; exact al
theorem O0 (m:c3) (x:Sym) (hm:fJ m):Par (q8 m x) λr=>fJ r.2:=by
 unfold q8;refine .au (Ξ:=λ_=>True) (λ_ _=>trivial) λr _=>Par.bb (λ_=>.ag hm) (λ_=>?_);refine .au (Ξ:=λJ:c3 × Int=>fJ J.1) ?_ λJ aj=>Par.ap λ_=>Par.ap λ_=>.ag ⟨λt al=>?_,aj.y⟩
 ·refine Par.bj (λ_=>?_) (λ_=>.ag hm);exact .au (Ξ:=λ_=>True) (λ_ _=>trivial) λ_ _=>.au (Ξ:=λ_=>True) (λ_ _=>trivial) λ_ _=>.au (Ξ:=fJ) (Par.bb (λ_=>.au (lY m _ _) λbd h=>.ag (hm.fail h)) (λ_=>.ag hm)) λJ aj=>.ag aj
 ·rcases List.mem_append.1 al with al | al
  ·exact aj.t t al
  ·rw [List.mem_singleton.1 al]; exact Nat.zero_le _
theorem O1 (m:c3) (x:Sym) (hm:fJ m):Par (pM m x) λr=>fJ r.2:=by
 unfold pM;refine Par.bj (λ_=>.au (O0 m x hm) λr ah=>.ag ah) (λ_=>.au (Ξ:=λ_=>True) (λ_ _=>trivial) λk _=>Par.bj (λ_=>.ag hm) (λ_=>.au (Ξ:=λ_=>True) (λ_ _=>trivial) λt _=>Par.bj (λ_=>.au (lY m _ _) λbd h=>.ag (hm.fail h)) (λ_=>.ag hm)))
theorem YP (m:c3) (d:Decl) (x:Sym) (hm:fJ m) (aP:d.Tag.size<=1000):Par (pK m d x) fJ:=by
 unfold pK;refine Par.bb (λ_=>?_) (λ_=>?_)
 ·refine .au (Ξ:=λ_=>True) (λ_ _=>trivial) λk _=>.au (Ξ:=fJ) ?_ λJ aj=>.ag aj;refine Par.bb (λ_=>Par.ap λ_=>.ag ⟨hm.t,λy ak=>?_⟩) (λ_=>.go λy _=>.au (Ξ:=fJ) (Par.iz (λ_=>.au (lY m _ _) λbd h=>.ag (hm.fail h)) (λ_=>.ag hm)) λJ aj=>.ag aj);rcases List.mem_append.1 ak with ak | ak
  ·exact hm.y y ak
  ·rw [List.mem_singleton.1 ak]; exact aP
 ·refine .au (O0 m x hm) λr ah=>.go λy ak=>.au (Ξ:=fJ) ?_ λeG jf=>?_
  ·refine Par.iz (λ_=>?_) (λ_=>.ag ah);refine .au (Ξ:=fJ) ?_ λcZ p'=>.go λz aT=>.ag ⟨C1 (C1 p'.t (p'.t z (jH aT))) (p'.t z (jH aT)),p'.y⟩;exact Par.bb (λ_=>.au (lY r.2 _ _) λbd h=>.ag ⟨ah.t,(ah.fail h).y⟩) (λ_=>.ag ah)
  ·refine .go λz aT=>.au (Ξ:=fJ) ?_ λeT qa=>?_
   ·refine Par.bb (λ_=>?_) (λ_=>.ag jf);refine .au (Ξ:=λ_=>True) (λ_ _=>trivial) λc _=>.au (Ξ:=fJ) ?_ λdL oF=>.go λw hw=>.go λ_ _=>.ag ⟨C1 oF.t (oF.t w (jH hw)),oF.y⟩;exact Par.bj (λ_=>.au (lY eG _ _) λbd h=>.ag ⟨jf.t,(jf.fail h).y⟩) (λ_=>.ag jf)
   ·refine .go λw hw=>.au (Ξ:=fJ) ?_ λJ aj=>.ag aj;refine Par.iz (λ_=>?_) (λ_=>.ag qa);refine .au (Ξ:=λ_=>True) (λ_ _=>trivial) λc _=>.au (Ξ:=fJ) ?_ λml sJ=>.go λv hv=>.ag ⟨C1 sJ.t aP,sJ.y⟩;exact Par.bj (λ_=>.au (lY eT _ _) λbd h=>.ag ⟨qa.t,(qa.fail h).y⟩) (λ_=>.ag qa)
theorem YQ (m:c3) (left:ByteArray) (a:Alt) (hm:fJ m):Par (ob m left a) fJ:=by
 unfold ob;refine .au (Ξ:=λ_=>True) (λ_ _=>trivial) λbc _=>?_;refine .au (Ξ:=λr:c3 × List Int × ByteArray × Int=>fJ r.1) ?_ λaZ aF=>?_
 ·refine Par.loop (λs=>fJ s.1) hm λs aw=>?_;obtain ⟨m1,rt,bj,at_,i⟩:=s;simp only at aw ⊢;refine Par.bb (λaR=>?_) (λ_=>.ag aw);refine .au (Ξ:=λJ:c3 × List Int × ByteArray × Int=>fJ J.1) ?_ λJ aj=>.ag aj;refine .go λy ak=>.au (Ξ:=λJ:c3 × List Int × ByteArray × Int=>fJ J.1) ?_ λJ aj=>.ag aj;refine .au (Ξ:=λJ:c3 × List Int × ByteArray × Int=>fJ J.1) ?_ λJ aj=>.ag aj;refine Par.bj (λ_=>?_) (λ_=>?_)
  ·exact .au (O1 m1 y.Sym aw) λr ah=>Par.ap λ_=>.ag ah
  ·exact .au (Ξ:=λ_=>True) (λ_ _=>trivial) λJ _=>.ag ⟨aw.t,aw.y⟩
 ·refine .au (Ξ:=λ_=>True) (λ_ _=>trivial) λfl _=>?_;refine .au (Ξ:=λJ:c3 × Int=>fJ J.1) ?_ λJ aj=>Par.ap λ_=>Par.ap λ_=>.ag ⟨aj.t,aj.y⟩;refine Par.bj (λ_=>?_) (λ_=>.ag aF);refine .au (Ξ:=λ_=>True) (λ_ _=>trivial) λc _=>.au (Ξ:=λJ:c3 × Int=>fJ J.1) ?_ λJ aj=>.ag aj;exact Par.bj (λ_=>.au (O1 aZ.1 a.Prec aF) λr ah=>.ag ah) (λ_=>.au (lY aZ.1 _ _) λbd h=>.ag (aF.fail h))
theorem YS (s:Source) (av:pb s):Par (oc s) λr=>r.2.1=0->(∀ t∈r.1.aX,t.Tag.size<=1000)/\(∀ t∈r.1.bO,t.Tag.size<=1000)/\r.1.b9=s.b9/\r.1.cg=s.cg:=by
 unfold oc;refine .au (Ξ:=λ_=>True) (λ_ _=>trivial) λc _=>Par.bj (λ_=>.ag λh=>absurd h (by decide)) (λ_=>?_);refine .au (Ξ:=λ_=>True) (λ_ _=>trivial) λaZ _=>?_;refine .au (Ξ:=λr:c3 × ByteArray=>fJ r.1) ?_ λbM ct=>?_
 ·refine Par.loop (λz=>fJ z.1) ⟨λt al=>?_,λt al=>by cases al⟩ λz hm=>?_
  ·have al:t∈[_,_,_]:=al;simp only [List.mem_cons,List.not_mem_nil,or_false] at al;rcases al with rfl | rfl | rfl <;> exact Nat.zero_le _
  ·obtain ⟨m,st,i⟩:=z;simp only at hm ⊢;refine Par.bb (λaR=>?_) (λ_=>.ag hm);refine .go λd aP=>?_;have oK:=jH aP;refine .au (Ξ:=λ_=>True) (λ_ _=>trivial) λ_ _=>.au (Ξ:=λ_=>True) (λ_ _=>trivial) λiW _=>?_;refine .au (Ξ:=λr:c3 × ByteArray=>fJ r.1) ?_ λr ah=>.ag ah;refine Par.loop (λz=>fJ z.1) ⟨hm.t,hm.y⟩ λz hm=>?_;obtain ⟨m,st,k⟩:=z;simp only at hm ⊢;refine Par.bb (λuh=>?_) (λ_=>.ag hm);refine .au (Ξ:=λr:c3 × ByteArray=>fJ r.1) ?_ λr ah=>.ag ah;refine Par.bj (λ_=>.go λx j=>?_) (λ_=>?_)
   ·exact .au (YP m d x hm (av.decls d oK).tag) λbd gJ=>.ag gJ
   ·exact .au (Ξ:=fJ) (Par.bj (λ_=>.go λ_ _=>.go λ_ _=>.au (lY m _ _) λbd h=>.ag (hm.fail h)) (λ_=>.ag hm)) λbd gJ=>.go λ_ _=>.ag gJ
 refine .au (Ξ:=fJ) ?_ λcD wP=>?_
 ·refine Par.loop (λz=>fJ z.1) ct λz hm=>?_;obtain ⟨m,i⟩:=z;simp only at hm ⊢;refine Par.bb (λaR=>?_) (λ_=>.ag hm);refine .au (Ξ:=fJ) ?_ λr ah=>.ag ah;refine .go λr ah=>.au (Ξ:=λ_=>True) (λ_ _=>trivial) λ_ _=>?_;refine .au (Ξ:=fJ) (Par.bj (λ_=>.au (lY m _ _) λbd h=>.ag (hm.fail h)) (λ_=>.ag hm)) λil l_=>?_;exact .au (Ξ:=λ_=>True) (λ_ _=>trivial) λ_ _=>.au (Ξ:=λ_=>True) (λ_ _=>trivial) λl _=>.ag ⟨l_.t,l_.y⟩
 refine .au (Ξ:=fJ) ?_ λfq lM=>?_
 ·refine Par.loop (λz=>fJ z.1) wP λz hm=>?_;obtain ⟨m,i⟩:=z;simp only at hm ⊢;refine Par.bb (λaR=>?_) (λ_=>.ag hm);refine .au (Ξ:=fJ) ?_ λr ah=>.ag ah;refine Par.loop (λz=>fJ z.1) hm λz hm=>?_;obtain ⟨m,k⟩:=z;simp only at hm ⊢;refine .go λd _=>Par.bb (λaR=>?_) (λ_=>.ag hm);refine .au (Ξ:=fJ) ?_ λr ah=>.ag ah;refine .go λ_ _=>.go λ_ _=>.au (Ξ:=λ_=>True) (λ_ _=>trivial) λ_ _=>?_;exact .au (Ξ:=fJ) (Par.bj (λ_=>.au (lY m _ _) λbd h=>.ag (hm.fail h)) (λ_=>.ag hm)) λbd gJ=>.ag gJ
 refine .au (Ξ:=λ_=>True) (λ_ _=>trivial) λvL _=>.au (Ξ:=λ_=>True) (λ_ _=>trivial) λl2 _=>?_;refine .au (Ξ:=fJ) ?_ λbo jX=>?_
 ·refine Par.loop (λz=>fJ z.1) ⟨lM.t,lM.y⟩ λz hm=>?_;obtain ⟨m,i⟩:=z;simp only at hm ⊢;refine Par.bb (λaR=>?_) (λ_=>.ag hm);refine .au (Ξ:=fJ) ?_ λr ah=>.ag ah;refine Par.loop (λz=>fJ z.1) hm λz hm=>?_;obtain ⟨m,k⟩:=z;simp only at hm ⊢;refine .go λd aP=>Par.bb (λuh=>?_) (λ_=>.ag hm);exact .go λd1 Bg=>.go λd2 H8=>.go λa aQ=>.au (YQ m _ a hm) λbd gJ=>.ag gJ
 refine Par.iz (λh=>.ag λaH=>absurd aH h) (λhe=>?_);refine .au (Ξ:=λl:List e4=>∀ x∈l,x.Tag.size<=1000) ?_ λsr wQ=>?_
 ·refine Par.loop (λz=>∀ x∈z.1,x.Tag.size<=1000) (λx j=>?_) λz aT=>?_
  ·rw [List.mem_singleton.1 j]; exact Nat.zero_le _
  ·refine Par.bj (λ_=>.go λy ak=>.au (Ξ:=λ_=>True) (λ_ _=>trivial) λk _=>.au (Ξ:=λb:ByteArray=>b.size<=1000) (Par.bb (λ_=>.go λw hw=>.ag (jX.y w (jH hw))) (λ_=>.ag (Nat.zero_le _))) λb fy=>Par.ap λ_=>.ag λx j=>?_) (λ_=>.ag aT);rcases List.mem_append.1 j with j | j
   ·exact aT x j
   ·rw [List.mem_singleton.1 j]; exact fy
 refine .au (Ξ:=λl:List e4=>∀ x∈l,x.Tag.size<=1000) ?_ λj7 yP=>?_
 ·refine Par.loop (λz=>∀ x∈z.1,x.Tag.size<=1000) wQ λz aT=>?_;refine Par.bb (λ_=>.go λy ak=>Par.cat (Par.ap λ_=>.ag λx j=>?_)) (λ_=>.ag aT);rcases List.mem_append.1 j with j | j
  ·exact aT x j
  ·rw [List.mem_singleton.1 j]; exact Nat.zero_le _
 refine .au (Ξ:=λl:List Tok=>∀ x∈l,x.Tag.size<=1000) ?_ λk' yR=>?_
 ·refine Par.loop (λz=>∀ x∈z.1,x.Tag.size<=1000) jX.t λz aT=>?_;refine Par.bb (λ_=>?_) (λ_=>.ag aT);refine .au (Ξ:=λJ:List Tok × Int=>∀ x∈J.1,x.Tag.size<=1000) (.go λy ak=>.au (Ξ:=λJ:List Tok × Int=>∀ x∈J.1,x.Tag.size<=1000) (Par.bj (λ_=>.go λw hw=>.ag (C1 aT (aT w (jH hw)))) (λ_=>.ag aT)) λJ aj=>.ag aj) λJ aj=>.ag aj
 refine .au (Ξ:=λ_=>True) (λ_ _=>trivial) λ_ _=>.au (Ξ:=λ_=>True) (λ_ _=>trivial) λ_ _=>Par.bj (λ_=>.ag λh=>absurd h (by decide)) (λ_=>.ag λ_=>⟨yR,yP,rfl,rfl⟩)
def oa (l:List Int):Int:=(uI l).getD (-1)
def Ds (l:List Int):Prop:=l.length<=100000/\∀ x∈l,0<=x/\x<=1000000
theorem JF {l:List Int}(h:Ds l):uI l=some (oa l)/\uI l=some (oa l)/\tC l (oa l):=by
 obtain ⟨w,hw,af⟩:=Sm l h.1 h.2;have e:oa l=w:=by unfold oa; rw [hw]; rfl
 rw [e];exact ⟨hw,hw,af⟩
def k_ {α:Type}(keep:α->Bool) (val:α->Int) (l:List α):List dr:=(l.zipIdx.filter λp=>keep p.1).map λp=>(⟨(p.2:Nat),val p.1⟩:dr)
theorem OY {α:Type}(keep:α->Bool) (val:α->Int) (l:List α) (x:α):k_ keep val (l++[x])=k_ keep val l++(if keep x=true then [(⟨l.length,val x⟩:dr)] else []):=by
 grind [k_]
theorem Ff {α:Type}(keep:α->Bool) (val:α->Int) (l:List α):(k_ keep val l).length<=l.length:=by
 grind [k_,List.length_zipIdx]
theorem Jw {α:Type}{keep:α->Bool}{val:α->Int}{l:List α}{p:dr}:p∈k_ keep val l↔∃ (k:Nat) (x:α),l[k]?=some x/\keep x=true/\p=⟨k,val x⟩:=by
 unfold k_;rw [List.mem_map];constructor
 ·grind
 ·rintro ⟨k,x,h1,af,rfl⟩;exact ⟨(x,k),by rw [List.mem_filter,List.mem_zipIdx_iff_getElem?]; exact ⟨h1,af⟩,rfl⟩
def red (r:List Act):List Int:=(r.filter λa=>decide (a.Kind=2)).map (·.N)
theorem YW (r:List Act) (a:Act):red (r++[a])=red r++(if a.Kind=2 then [a.N] else []):=by
 grind [red]
theorem O3 (r:List Act):(red r).length<=r.length:=by
 grind [red]
def oD (a:Act):Int:=(ta a).getD 0
theorem SJ (a:Act):ta a=some (oD a)/\ta a=some (oD a):=by
 obtain ⟨c,aa,_⟩:=aac a;have:oD a=c:=by unfold oD; rw [aa]; rfl
 rw [this];exact ⟨aa,aa⟩
def q2 (d:Int) (a:Act):Bool:=!decide (a.Kind=0)&&(!decide (a.Kind=2)||!decide (a.N=d))
def uP (r:List Act):Row:=⟨oa (red r),k_ (q2 (oa (red r))) oD r⟩
def r5 (d v:Int):Bool:=decide (0<=v)&&!decide (v=d)
def pos (c:List Int):List Int:=c.filter λv=>decide (0<=v)
theorem YJ (r:List Int) (a:Int):pos (r++[a])=pos r++(if 0<=a then [a] else []):=by
 grind [pos]
def uQ (c:List Int):Row:=⟨oa (pos c),k_ (r5 (oa (pos c))) id c⟩
def gH (d:iu) (a:Nat):List Int:=d.fU.map λr=>r.getD a 0
theorem O4 {g:bq}{n:Nat}(aK:ga g) {r:List Act}(ai:r.length=g.aX.length) (h:∀ a∈r,su g n a):Ds (red r):=by
 have al:=aK.j6;have ar:=aK.hb;have:=O3 r;refine ⟨by omega,λx j=>?_⟩;unfold red at j;obtain ⟨a,aQ,rfl⟩:=List.mem_map.1 j;rw [List.mem_filter] at aQ;have hk:=(h a aQ.1).pD (of_decide_eq_true aQ.2);have h1:=hk.1;have af:=hk.2;omega
theorem OW {c:List Int}(ai:c.length<=150) (h:∀ v∈c,v<150):Ds (pos c):=by
 have:=List.length_filter_le (λv:Int=>decide (0<=v)) c;refine ⟨by unfold pos; omega,λx j=>?_⟩
 grind [pos]
theorem Se (g:bq) (n:Nat) (d:iu) (aP:rr g n d):Tot (Cq d) λr=>r=d.dw.map uP:=by
 have aK:=aP.rK;have al:=aK.j6;have aA:=aP.gL;have aQ:=aP.a;unfold Cq;refine .au (Ξ:=λr:List Row=>r=d.dw.map uP) ?_ λr ah=>.ag ah;refine Tot.upto (λs=>s.2) d.dw.length (λk s=>s.1=(d.dw.take k).map uP) rfl (by omega) rfl λk s hk he ba=>?_;obtain ⟨R,i⟩:=s;simp only at he ba ⊢;subst he ba;rw [ep k (by omega)];refine Tot.bb (λaR=>?_) (λdq=>.ag ?_)
 ·have aR:k<d.dw.length:=by omega
  have fp:=kk aR;obtain ⟨n2,Ep⟩:=aP.lk _ (List.getElem_mem aR);simp only [d_ aR,Option.bind_some];generalize d.dw[k]=r at *;have qi:=O4 aK n2 Ep;obtain ⟨G7,G6,_⟩:=JF qi;refine .au (Ξ:=λl:List Int=>l=red r) ?_ λl ai=>?_
  ·refine Tot.upto (λs=>s.2) r.length (λJ s=>s.1=red (r.take J)) rfl (by omega) rfl λJ s aj he ba=>?_;obtain ⟨L,i⟩:=s;simp only at he ba ⊢;subst he ba;rw [ep J (by omega)];refine Tot.bb (λfX=>?_) (λdq=>.ag ?_)
   ·have fX:J<r.length:=by omega
    have uq:=kk fX;have hlen:=O3 (r.take J);rw [List.length_take] at hlen;simp only [d_ fX,Option.bind_some];generalize r[J]=a at *;refine .au (Ξ:=λL:List Int=>L=red (r.take (J+1))) ?_ λr ah=>.ag ⟨fX,rfl,ah⟩;rw [uq,YW];refine .au (Ξ:=λL:List Int=>L=red (r.take J)++(if a.Kind=2 then [a.N] else [])) (Tot.bb (λh=>?_) (λh=>.ag ?_)) λr ah=>.ag ah
    ·rw [if_pos h];exact .au (Ξ:=λ_=>True) (Tot.ap (by simp [lim]; omega) trivial) λ_ _=>.ag rfl
    ·rw [if_neg h,List.append_nil]
   ·have e:r.take J=r:=List.take_of_length_le (by omega);rw [e]; rfl
  ·subst ai;rw [G6];refine Tot.sm (.au (Ξ:=λl:List dr=>l=k_ (q2 (oa (red r))) oD r) ?_ λl ai=>?_)
   ·generalize oa (red r)=D;refine Tot.upto (λs=>s.2) r.length (λJ s=>s.1=k_ (q2 D) oD (r.take J)) rfl (by omega) rfl λJ s aj he ba=>?_;obtain ⟨L,i⟩:=s;simp only at he ba ⊢;subst he ba;rw [ep J (by omega)];refine Tot.bb (λfX=>?_) (λdq=>.ag ?_)
    ·have fX:J<r.length:=by omega
     have uq:=kk fX;have hlen:=Ff (q2 D) oD (r.take J);have eN:(r.take J).length=J:=by rw [List.length_take]; omega
     rw [List.length_take] at hlen;simp only [d_ fX,Option.bind_some];generalize r[J]=a at *;rw [(SJ a).2];refine .au (Ξ:=λL:List dr=>L=k_ (q2 D) oD (r.take (J+1))) ?_ λr ah=>.ag ⟨fX,rfl,ah⟩;rw [uq,OY,eN];refine .au (Ξ:=λc:Bool=>c=q2 D a) (Tot.bj (λh=>?_) (λh=>.ag ?_)) λc aa=>?_
     ·refine Tot.bj (λaf=>.ag ?_) (λaf=>.ag ?_)
      ·unfold q2; rw [h,af]; rfl
      ·unfold q2; rw [h,af]; rfl
     ·unfold q2; rw [h]; rfl
     subst aa;refine .au (Ξ:=λL:List dr=>L=k_ (q2 D) oD (r.take J)++(if q2 D a=true then [(⟨J,oD a⟩:dr)] else [])) (Tot.bj (λh=>?_) (λh=>.ag ?_)) λr ah=>.ag ah
     ·rw [if_pos h];exact Tot.sm (.au (Ξ:=λ_=>True) (Tot.ap (by simp [lim]; omega) trivial) λ_ _=>.ag rfl)
     ·rw [if_neg (by rw [h]; decide),List.append_nil]
    ·have e:r.take J=r:=List.take_of_length_le (by omega);rw [e]; rfl
   ·subst ai;refine .au (Ξ:=λ_=>True) (Tot.ap (by simp [lim]; omega) trivial) λ_ _=>.ag ⟨aR,rfl,?_⟩;show _=(d.dw.take (k+1)).map uP;rw [fp,List.map_append]; rfl
 ·have e:d.dw.take k=d.dw:=List.take_of_length_le (by omega);rw [e]; rfl
theorem DI (d:iu) (a:Nat):(gH d a).length=d.fU.length:=by simp [gH]
theorem LM {d:iu}{a q:Nat}(h:q<d.fU.length):(gH d a).take (q+1)=(gH d a).take q++[(d.fU[q]).getD a 0]:=by
 rw [kk (by rw [DI]; exact h)];congr 2;simp [gH]
theorem SK {g:bq}{n:Nat}{d:iu}(aP:rr g n d) {a:Nat}(aQ:a<g.bO.length):∀ v∈gH d a,-1<=v/\v<n:=λv hv=>by
 unfold gH at hv;obtain ⟨r,ah,rfl⟩:=List.mem_map.1 hv;obtain ⟨h1,af⟩:=aP.Ci r ah;refine af _ ?_;rw [List.getD_eq_getElem?_getD,List.getElem?_eq_getElem (by omega)];exact List.getElem_mem _
theorem NM {r:List Int}{a:Nat}(h:a<r.length):idx r (a:Int)=some (r.getD a 0):=by
 rw [d_ h,List.getD_eq_getElem?_getD,List.getElem?_eq_getElem h]; rfl
theorem YI (c:List Int):(pos c).length<=c.length:=List.length_filter_le ..
theorem Sg (g:bq) (n:Nat) (d:iu) (aP:rr g n d):Tot (Cr d) λr=>r=(List.range g.bO.length).map λa=>uQ (gH d a):=by
 have aK:=aP.rK;have al:=aK.de;have aA:=aP.gL;have aQ:=aP.o;have aO:0<d.fU.length:=by omega
 obtain ⟨adf,_⟩:=aP.Ci _ (List.getElem_mem aO);have i0:idx d.fU 0=some d.fU[0]:=d_ (k:=0) aO;have g0:decide ((0:Int)<(d.fU.length:Int))=true:=decide_eq_true (by omega);unfold Cr;refine .au (Ξ:=λr:List Row=>r=(List.range g.bO.length).map λa=>uQ (gH d a)) ?_ λr ah=>.ag ah;refine Tot.upto (λs=>s.2) g.bO.length (λk s=>s.1=(List.range k).map λa=>uQ (gH d a)) rfl (by omega) rfl λk s hk he ba=>?_;obtain ⟨R,i⟩:=s;simp only at he ba ⊢;subst he ba;rw [ep k (by omega),g0,i0];simp only [cond_true,Option.bind_some];refine Tot.bb (λaR=>?_) (λdq=>.ag ?_)
 ·have iA:k<g.bO.length:=by omega
  have qi:=OW (c:=gH d k) (by rw [DI]; omega) λv hv=>by have:=(SK aP iA v hv).2; omega
  obtain ⟨G7,G6,_⟩:=JF qi;have ht:=DI d k;refine .au (Ξ:=λl:List Int=>l=pos (gH d k)) ?_ λl ai=>?_
  ·refine Tot.upto (λs=>s.2) d.fU.length (λJ s=>s.1=pos ((gH d k).take J)) rfl (by omega) rfl λJ s aj he ba=>?_;obtain ⟨L,i⟩:=s;simp only at he ba ⊢;subst he ba;rw [ep J (by omega)];refine Tot.bb (λfX=>?_) (λdq=>.ag ?_)
   ·have fX:J<d.fU.length:=by omega
    have uq:=LM (a:=k) fX;have hlen:=YI ((gH d k).take J);rw [List.length_take] at hlen;obtain ⟨n2,_⟩:=aP.Ci _ (List.getElem_mem fX);simp only [d_ fX,Option.bind_some,NM (show k<(d.fU[J]).length by omega)];generalize (d.fU[J]).getD k 0=v at *;refine .au (Ξ:=λL:List Int=>L=pos ((gH d k).take (J+1))) ?_ λr ah=>.ag ⟨fX,rfl,ah⟩;rw [uq,YJ];refine .au (Ξ:=λL:List Int=>L=pos ((gH d k).take J)++(if 0<=v then [v] else [])) (Tot.bb (λh=>?_) (λh=>.ag ?_)) λr ah=>.ag ah
    ·rw [if_pos h];exact .au (Ξ:=λ_=>True) (Tot.ap (by simp [lim]; omega) trivial) λ_ _=>.ag rfl
    ·rw [if_neg h,List.append_nil]
   ·have e:(gH d k).take J=gH d k:=List.take_of_length_le (by omega);rw [e]; rfl
  ·subst ai;rw [G6];refine Tot.sm (.au (Ξ:=λl:List dr=>l=k_ (r5 (oa (pos (gH d k)))) id (gH d k)) ?_ λl ai=>?_)
   ·generalize oa (pos (gH d k))=D;refine Tot.upto (λs=>s.2) d.fU.length (λJ s=>s.1=k_ (r5 D) id ((gH d k).take J)) rfl (by omega) rfl λJ s aj he ba=>?_;obtain ⟨L,i⟩:=s;simp only at he ba ⊢;subst he ba;rw [ep J (by omega)];refine Tot.bb (λfX=>?_) (λdq=>.ag ?_)
    ·have fX:J<d.fU.length:=by omega
     have uq:=LM (a:=k) fX;have hlen:=Ff (r5 D) id ((gH d k).take J);have eN:((gH d k).take J).length=J:=by rw [List.length_take]; omega
     rw [eN] at hlen;obtain ⟨n2,_⟩:=aP.Ci _ (List.getElem_mem fX);simp only [d_ fX,Option.bind_some,NM (show k<(d.fU[J]).length by omega)];generalize (d.fU[J]).getD k 0=v at *;refine .au (Ξ:=λL:List dr=>L=k_ (r5 D) id ((gH d k).take (J+1))) ?_ λr ah=>.ag ⟨fX,rfl,ah⟩;rw [uq,OY,eN];refine .au (Ξ:=λc:Bool=>c=r5 D v) (Tot.bj (λh=>.ag ?_) (λh=>.ag ?_)) λc aa=>?_
     ·unfold r5; rw [h]; rfl
     ·unfold r5; rw [h]; rfl
     subst aa;refine .au (Ξ:=λL:List dr=>L=k_ (r5 D) id ((gH d k).take J)++(if r5 D v=true then [(⟨J,id v⟩:dr)] else [])) (Tot.bj (λh=>?_) (λh=>.ag ?_)) λr ah=>.ag ah
     ·rw [if_pos h];exact .au (Ξ:=λ_=>True) (Tot.ap (by simp [lim]; omega) trivial) λ_ _=>.ag rfl
     ·rw [if_neg (by rw [h]; decide),List.append_nil]
    ·have e:(gH d k).take J=gH d k:=List.take_of_length_le (by omega);rw [e]; rfl
   ·subst ai;refine .au (Ξ:=λ_=>True) (Tot.ap (by simp [lim]; omega) trivial) λ_ _=>.ag ⟨iA,rfl,?_⟩;show _=(List.range (k+1)).map λa=>uQ (gH d a);rw [List.range_succ,List.map_append]; rfl
 ·have:k=g.bO.length:=by omega
  subst this; rfl
theorem YM {α:Type}(keep:α->Bool) (val:α->Int) (l:List α):(k_ keep val l).Pairwise λa b=>a.At<b.At:=by
 unfold k_;rw [List.pairwise_map];refine List.Pairwise.sublist List.filter_sublist ?_;rw [List.pairwise_iff_getElem];intro i J hi aj acV;simp only [List.getElem_zipIdx];omega
abbrev e_:=List dr
structure kQ (r:e_):Prop where
 at':∀ p∈r,0<=p.At/\p.At<=999
 nd:(r.map (·.At)).Nodup
def Fit (kU:List Int) (r:e_) (b:Nat):Prop:=∀ p∈r,kU.getD (b+p.At.toNat) 0=0
theorem uA {α:Type}{l:List α}{k:Nat}(h:k<l.length):idx l (k:Int)=some l[k]:=by simp [idx,h]
theorem Sp (kU:List Int) (r:e_) (b:Nat) (ah:∀ p∈r,0<=p.At/\p.At<=999) (ai:r.length<=100000) (av:b<=1000000000000) (aa:kU.length<=1000000000000):Tot (zB kU r b) λc=>(c=true↔Fit kU r b):=by
 unfold zB;refine Tot.au (Tot.scan r (λp=>kU.getD (b+p.At.toNat) 0=0) (λx:Bool=>x=false/\¬ Fit kU r b) (by omega) (λs y aO h1 hi hm=>?_) (λs aw=>by simp [aw])) λx j=>?_
 ·refine Tot.bb (λ_=>?_) (λh=>absurd h1 h);rw [hi];refine Tot.sm (.au (Ξ:=λc=>(c=true↔kU.getD (b+y.At.toNat) 0≠0)) ?_ λc vk=>Tot.bj (λh=>.ag ⟨rfl,λaS=>(vk.1 h) (aS y hm)⟩) (λh=>.ag ⟨?_,?_⟩))
  ·have ar:=ah y hm;have hw:aE ((b:Int)+y.At)=((b+y.At.toNat:Nat):Int):=by rw [cq]; omega
   rw [hw];refine Tot.bb (λh=>?_) (λh=>.ag ?_)
   ·have ai:b+y.At.toNat<kU.length:=by omega
    rw [uA ai];refine Tot.sm (.ag ?_);rw [List.getD_eq_getElem?_getD,List.getElem?_eq_getElem ai];simp
   ·have ai:¬ b+y.At.toNat<kU.length:=by omega
    rw [List.getD_eq_getElem?_getD,List.getElem?_eq_none (by omega)];simp
  ·rw [cq]; omega
  ·exact Classical.byContradiction λaA=>by rw [vk.2 aA] at h; cases h
 ·rcases x with _ | x
  ·exact .ag ⟨λ_=>j,λ_=>rfl⟩
  ·obtain ⟨rfl,aS⟩:x=false/\¬ Fit kU r b:=j;exact .ag ⟨λh=>(by cases h),λh=>absurd h aS⟩
theorem Sr (l:List Int) (n:Int) (h:l.length<=100000):Tot (uJ l n) λc=>(c=true↔n∈l):=by
 unfold uJ;refine Tot.au (Tot.scan l (λx=>x≠n) (λx:Bool=>x=true/\n∈l) (by omega) (λs y aO h1 hi hm=>?_) (λs aw=>by simp [aw])) λx j=>?_
 ·refine Tot.bb (λ_=>?_) (λh=>absurd h1 h);rw [hi];refine Tot.sm (Tot.bb (λe=>.ag ⟨rfl,e ▸ hm⟩) (λe=>.ag ⟨?_,e⟩));rw [cq]; omega
 ·rcases x with _ | x
  ·have j:∀ y∈l,y≠n:=j;exact .ag ⟨λh=>(by cases h),λh=>absurd rfl (j n h)⟩
  ·obtain ⟨rfl,hm⟩:x=true/\n∈l:=j;exact .ag ⟨λ_=>hm,λ_=>rfl⟩
structure pa (c:gN) (r:e_) (i b:Nat) (v cd:List Int):Prop where
 len:v.length=cd.length
 lo:c.cz.length<=cd.length
 NN:∀ p∈r,b+p.At.toNat<cd.length
 hi:cd.length=c.cz.length\/∃ p∈r,cd.length=b+p.At.toNat+1
 kU:∀ p∈r,cd.getD (b+p.At.toNat) 0=(i:Int)+1
 DG:∀ k,(∀ p∈r,b+p.At.toNat≠k)->cd.getD k 0=c.cz.getD k 0
 val:∀ p∈r,v.getD (b+p.At.toNat) 0=p.cC
 FE:∀ k,(∀ p∈r,b+p.At.toNat≠k)->v.getD k 0=c.cC.getD k 0
structure Step (r:e_) (i:Nat) (c jV:gN) (b:Nat):Prop where
 fit:Fit c.cz r b
 least:∀ dV,dV<b->¬ Fit c.cz r dV
 base:jV.dA=c.dA.set i (b:Int)
 put:pa c r i b jV.cC jV.cz
theorem Mb {l m:List Int}(ai:l.length=m.length) (h:∀ k,l.getD k 0=m.getD k 0):l=m:=by
 apply List.ext_getElem ai;intro k h1 af;have:=h k;simpa [List.getD_eq_getElem?_getD,List.getElem?_eq_getElem h1,List.getElem?_eq_getElem af] using this
theorem Fit.same {kU:List Int}{r cK:e_}(h:∀ p,p∈r↔p∈cK) {b:Nat}:Fit kU r b↔Fit kU cK b :=
 ⟨λf p ar=>f p ((h p).2 ar),λf p ar=>f p ((h p).1 ar)⟩
theorem pa.AM {c:gN}{r cK:e_}{i b:Nat}{v cd eg p5:List Int}(ai:c.cC.length=c.cz.length) (hm:∀ p,p∈r↔p∈cK) (h:pa c r i b v cd) (aH:pa c cK i b eg p5):v=eg/\cd=p5:=by
 have le:∀ {r cK:e_}{v cd eg p5:List Int},(∀ p,p∈r↔p∈cK)->pa c r i b v cd->pa c cK i b eg p5->p5.length<=cd.length:=by
  intro r cK v cd eg p5 hm h aH;rcases aH.hi with e | ⟨p,ar,e⟩
  ·rw [e]; exact h.lo
  ·have:=h.NN p ((hm p).2 ar); omega
 have hlen:cd.length=p5.length:=Nat.le_antisymm (le (λp=>(hm p).symm) aH h) (le hm h aH);refine ⟨Mb (by rw [h.len,aH.len,hlen]) λk=>?_,Mb hlen λk=>?_⟩
 ·by_cases hk:∃ p∈r,b+p.At.toNat=k
  ·obtain ⟨p,ar,rfl⟩:=hk;rw [h.val p ar,aH.val p ((hm p).1 ar)]
  ·have hk:∀ p∈r,b+p.At.toNat≠k:=λp ar e=>hk ⟨p,ar,e⟩;rw [h.FE k hk,aH.FE k λp ar=>hk p ((hm p).2 ar)]
 ·by_cases hk:∃ p∈r,b+p.At.toNat=k
  ·obtain ⟨p,ar,rfl⟩:=hk;rw [h.kU p ar,aH.kU p ((hm p).1 ar)]
  ·have hk:∀ p∈r,b+p.At.toNat≠k:=λp ar e=>hk ⟨p,ar,e⟩;rw [h.DG k hk,aH.DG k λp ar=>hk p ((hm p).2 ar)]
theorem Step.AM {r cK:e_}{i b dV:Nat}{c c1 c2:gN}(ai:c.cC.length=c.cz.length) (hm:∀ p,p∈r↔p∈cK) (h:Step r i c c1 b) (aH:Step cK i c c2 dV):b=dV/\c1=c2:=by
 have av:b=dV:=by
  rcases Nat.lt_trichotomy b dV with aR | e | aR
  ·exact absurd ((Fit.same hm).1 h.fit) (aH.least b aR)
  ·exact e
  ·exact absurd ((Fit.same hm).2 aH.fit) (h.least dV aR)
 subst av;obtain ⟨b2,bZ⟩:=h.put.AM ai hm aH.put;refine ⟨rfl,?_⟩;cases c1; cases c2;simp only at b2 bZ;have h1:=h.base;have af:=aH.base;simp only at h1 af;subst b2 bZ h1;rw [af]
inductive dv (rows:List e_):List Nat->gN->Prop
 | nil:dv rows [] ⟨List.replicate rows.length 0,[],[]⟩
 | cons {i b:Nat}{l:List Nat}{c jV:gN}{r:e_}(ah:rows[i]?=some r) (hi:i∉l) (h:dv rows l c) (aw:Step r i c jV b):dv rows (i::l) jV
theorem dv.len {rows:List e_}{l:List Nat}{c:gN}(h:dv rows l c):c.cC.length=c.cz.length/\c.dA.length=rows.length:=by
 induction h with
 | nil=>simp
 | cons _ _ _ aw aL=>exact ⟨aw.put.len,by rw [aw.base,List.length_set]; exact aL.2⟩
theorem dv.AM {rows J2:List e_}(ai:rows.length=J2.length) (hm:∀ (i:Nat) (r cK:e_),rows[i]?=some r->J2[i]?=some cK->∀ p,p∈r↔p∈cK) {l:List Nat}{c jV:gN}(h:dv rows l c) (aH:dv J2 l jV):c=jV:=by
 induction h generalizing jV with
 | nil=>cases aH with | nil=>rw [ai]
 | cons ah hi h aw aL =>
  cases aH with
  | cons dK acT aH Wh =>
   have:=aL aH;subst this;exact (aw.AM h.len.1 (hm _ _ _ ah dK) Wh).2
theorem dv.rest {rows:List e_}{l:List Nat}{c:gN}(h:dv rows l c):∀ J,J<rows.length->J∉l->c.dA[J]?=some 0:=by
 induction h with
 | nil=>intro J aj _; simp [aj]
 | @cons i b l c jV r ah hi h aw aL =>
  intro J aj aA;rw [aw.base,List.getElem?_set_ne (by rintro rfl; exact aA (by simp))];exact aL J aj λbD=>aA (by simp [bD])
theorem pad (x y:Int) (K:Nat) (c5:aE (x+y)=(K:Int)) (acz:K<=1000000000) (v cd:List Int) (ai:v.length=cd.length) (av:cd.length<=1000000000) :
  Tot (b6 (R:=List Int × List Int) (λ(s:List Int × List Int) =>
(bif decide ((s.2.length:Int)<=aE (x+y)) then
(dj s.2 [0]).bind λcQ =>
(dj s.1 [0]).bind λgW =>
some (.inl (s.1++[0],s.2++[0]))
else
some (.inr (s.1,s.2)))) (v,cd)) λr=>r.1.length=r.2.length/\r.2.length=max cd.length (K+1)/\(∀ k,r.1.getD k 0=v.getD k 0)/\∀ k,r.2.getD k 0=cd.getD k 0:=by
 have app:∀ (l:List Int) k,(l++[0]).getD k 0=l.getD k 0:=by
  intro l k;rw [List.getD_eq_getElem?_getD,List.getD_eq_getElem?_getD];by_cases hk:k<l.length
  ·rw [List.getElem?_append_left hk]
  ·rw [List.getElem?_append_right (by omega),List.getElem?_eq_none (l:=l) (by omega)];by_cases aO:k - l.length=0
   ·rw [aO]; rfl
   ·rw [List.getElem?_eq_none (by simp; omega)]
 refine Tot.loop (λs=>s.1.length=s.2.length/\cd.length<=s.2.length/\s.2.length<=max cd.length (K+1)/\(∀ k,s.1.getD k 0=v.getD k 0)/\∀ k,s.2.getD k 0=cd.getD k 0) (λs=>(K+1) - s.2.length) ⟨ai,Nat.le_refl _,Nat.le_max_left _ _,λ_=>rfl,λ_=>rfl⟩ (by show (K+1) - cd.length<1000000000000000000; omega) λs aw=>?_;obtain ⟨h1,af,aF,bu,ct⟩:=aw;rw [c5];refine Tot.bb (λhle=>?_) (λacS=>.ag ⟨h1,?_,bu,ct⟩)
 ·refine .au (Ξ:=λ_=>True) (Tot.ap (by simp [lim]; omega) trivial) λ_ _=>.au (Ξ:=λ_=>True) (Tot.ap (by simp [lim]; omega) trivial) λ_ _=>.ag ⟨⟨?_,?_,?_,λk=>?_,λk=>?_⟩,?_⟩
  ·show (s.1++[0]).length=(s.2++[0]).length; simp [h1]
  ·show cd.length<=(s.2++[0]).length; simp; omega
  ·show (s.2++[0]).length<=_; simp; omega
  ·exact (app _ _).trans (bu k)
  ·exact (app _ _).trans (ct k)
  ·show (K+1) - (s.2++[0]).length<(K+1) - s.2.length;simp; omega
 ·show s.2.length=_; omega
theorem yO (l:List Int) (K k:Nat) (x:Int) (h:K<l.length):(l.set K x).getD k 0=if k=K then x else l.getD k 0:=by
 rw [List.getD_eq_getElem?_getD,List.getElem?_set];by_cases e:k=K
 ·subst e; simp [h]
 ·simp [e,Ne.symm e,List.getD_eq_getElem?_getD]
theorem pa.more {c:gN}{r:e_}{p:dr}{i b:Nat}{v cd eg p5:List Int}(h:pa c r i b v cd) (ar:∀ q∈r,q.At.toNat≠p.At.toNat) (ai:eg.length=p5.length) (hlen:p5.length=max cd.length (b+p.At.toNat+1)) (hv:∀ k,eg.getD k 0=v.getD k 0) (aa:∀ k,p5.getD k 0=cd.getD k 0) :
  pa c (r++[p]) i b (eg.set (b+p.At.toNat) p.cC) (p5.set (b+p.At.toNat) ((i:Int)+1)):=by
 have c5:b+p.At.toNat<p5.length:=by omega
 have mem:∀ {Q:dr->Prop},(∀ q∈r,Q q)->Q p->∀ q∈r++[p],Q q:=λh1 af q a6=>by
  rcases List.mem_append.1 a6 with a6 | a6
  ·exact h1 q a6
  ·rw [List.mem_singleton.1 a6]; exact af
 refine ⟨by simp [ai],?_,mem (λq a6=>?_) ?_,?_,mem (λq a6=>?_) ?_,λk hk=>?_,mem (λq a6=>?_) ?_,λk hk=>?_⟩
 ·rw [List.length_set]; have:=h.lo; omega
 ·rw [List.length_set]; have:=h.NN q a6; omega
 ·rw [List.length_set]; exact c5
 ·rw [List.length_set];by_cases hm:cd.length<=b+p.At.toNat+1
  ·exact .inr ⟨p,by simp,by omega⟩
  ·rcases h.hi with e | ⟨q,a6,e⟩
   ·exact .inl (by omega)
   ·exact .inr ⟨q,by simp [a6],by omega⟩
 ·rw [yO _ _ _ _ c5,if_neg (by have:=ar q a6; omega),aa]; exact h.kU q a6
 ·rw [yO _ _ _ _ c5,if_pos rfl]
 ·rw [yO _ _ _ _ c5,if_neg (λe=>hk p (by simp) e.symm),aa]; exact h.DG k λq a6=>hk q (by simp [a6])
 ·rw [yO _ _ _ _ (by rw [ai]; exact c5),if_neg (by have:=ar q a6; omega),hv]; exact h.val q a6
 ·rw [yO _ _ _ _ (by rw [ai]; exact c5),if_pos rfl]
 ·rw [yO _ _ _ _ (by rw [ai]; exact c5),if_neg (λe=>hk p (by simp) e.symm),hv]; exact h.FE k λq a6=>hk q (by simp [a6])
theorem pa.nil (c:gN) (i b:Nat) (ai:c.cC.length=c.cz.length):pa c [] i b c.cC c.cz :=
 ⟨ai,Nat.le_refl _,λ_ h=>absurd h (by simp),.inl rfl,λ_ h=>absurd h (by simp),λ_ _=>rfl,λ_ h=>absurd h (by simp),λ_ _=>rfl⟩
theorem Fit.Mc {kU:List Int}{r:e_}{b:Nat}(h:kU.length<=b):Fit kU r b:=λp _=>by
 rw [List.getD_eq_getElem?_getD,List.getElem?_eq_none (by omega)]; rfl
theorem Pz {r:e_}{k:Nat}(ah:kQ r) (hk:k<r.length):∀ q∈r.take k,q.At.toNat≠(r[k]).At.toNat:=by
 intro q a6 e;obtain ⟨J,aj,rfl⟩:=List.mem_iff_getElem.1 a6;rw [List.length_take] at aj;have eN:J<r.length:=by omega
 rw [List.getElem_take] at e;have h1:=ah.at' _ (List.getElem_mem eN);have af:=ah.at' _ (List.getElem_mem hk);have fj:=ah.nd;have:=(List.getElem_inj (h₀:=by simpa using eN) (h₁:=by simpa using hk) fj).1 (by simp only [List.getElem_map]; omega);omega
structure p0 (rows:List e_):Prop where
 n:rows.length<=400
 rows:∀ r∈rows,kQ r
structure Dr (rows:List e_):Prop where
 n:rows.length<=1000
 r:∀ r∈rows,r.length<=1000
theorem Zm (rows:List e_) (fc:Dr rows) (i:Nat) (r:e_) (ah:rows[i]?=some r) (nt:kQ r) (c:gN) (aa:c.cz.length<=900000) (aO:c.dA[i]?=some 0) (fits:List Int->e_->Int->Option Bool)
  (aS:∀ b:Nat,b<=1000000->Tot (fits c.cz r b) λx=>(x=true↔Fit c.cz r b)) :
  Tot (b6 (R:=List Int) (λ(dM:List Int) =>
(idx rows (i:Int)).bind λfS =>
(idx dM (i:Int)).bind λhp =>
(fits c.cz fS hp).bind λfO =>
(bif !fO then
(idx dM (i:Int)).bind λhM =>
some (.inl (dM.set (i:Int).toNat (aE (hM+1))))
else
some (.inr dM))) c.dA) λB=>∃ b:Nat,B=c.dA.set i (b:Int)/\Fit c.cz r b/\(∀ dV,dV<b->¬ Fit c.cz r dV)/\b<=c.cz.length:=by
 have nn:i<c.dA.length:=(List.getElem?_eq_some_iff.1 aO).1;have Ie:idx rows (i:Int)=some r:=by simp [idx,ah]
 have Wl:c.dA=c.dA.set i 0:=by
  apply List.ext_getElem?;intro k;rw [List.getElem?_set];by_cases e:i=k
  ·subst e; rw [aO]; simp [nn]
  ·simp [e]
 have key:Tot (b6 (R:=List Int) (λ(dM:List Int) =>
(idx rows (i:Int)).bind λfS =>
(idx dM (i:Int)).bind λhp =>
(fits c.cz fS hp).bind λfO =>
(bif !fO then
(idx dM (i:Int)).bind λhM =>
some (.inl (dM.set (i:Int).toNat (aE (hM+1))))
else
some (.inr dM))) (c.dA.set i 0)) λB=>∃ b:Nat,B=c.dA.set i (b:Int)/\Fit c.cz r b/\(∀ dV,dV<b->¬ Fit c.cz r dV)/\b<=c.cz.length:=by
  refine Tot.loop (λs=>∃ b:Nat,s=c.dA.set i (b:Int)/\(∀ dV,dV<b->¬ Fit c.cz r dV)/\b<=c.cz.length) (λs=>c.cz.length+1 - (s.getD i 0).toNat) ⟨0,rfl,λdV h=>absurd h (Nat.not_lt_zero _),Nat.zero_le _⟩ (by show c.cz.length+1 - _<1000000000000000000; omega) λs aw=>?_;obtain ⟨b,rfl,ai,av⟩:=aw;have Wn:idx (c.dA.set i (b:Int)) (i:Int)=some (b:Int):=by
   simp [idx,nn]
  rw [Ie,Wn];refine Tot.sm (Tot.sm (.au (aS b (by omega)) λx j=>?_));refine Tot.bj (λh=>Tot.sm (.ag ⟨⟨b+1,?_,λdV h9=>?_,?_⟩,?_⟩)) (λh=>.ag ⟨b,rfl,j.1 (by simpa using h),ai,av⟩)
  ·have hw:aE ((b:Int)+1)=((b+1:Nat):Int):=by rw [cq]; omega
   rw [hw];show (c.dA.set i (b:Int)).set i _=_;rw [List.set_set]
  ·by_cases e:dV=b
   ·subst e;intro wY;rw [j.2 wY] at h; cases h
   ·exact ai dV (by omega)
  ·have:¬ c.cz.length<=b:=λaH=>by
    rw [j.2 (Fit.Mc aH)] at h; cases h
   omega
  ·have hw:aE ((b:Int)+1)=((b+1:Nat):Int):=by rw [cq]; omega
   rw [hw];show c.cz.length+1 - ((((c.dA.set i (b:Int)).set i ((b+1:Nat):Int)).getD i 0).toNat)<c.cz.length+1 - ((c.dA.set i (b:Int)).getD i 0).toNat;rw [List.set_set];have g:∀ x:Int,(c.dA.set i x).getD i 0=x:=λx=>by simp [List.getD_eq_getElem?_getD,nn]
   rw [g,g];have:¬ c.cz.length<=b:=λaH=>by
    rw [j.2 (Fit.Mc aH)] at h; cases h
   omega
 rw [<- Wl] at key;exact key
theorem YO (r:e_) (nt:kQ r) (n2:r.length<=1000) (i b:Nat) (hi:i<=100000) (c:gN) (ht:c.cC.length=c.cz.length) (aa:c.cz.length<=900000) (av:b<=c.cz.length)
  (f:List Int × List Int × Int->Option ((List Int × List Int × Int) ⊕ (List Int × List Int)))
  (aS:∀ (v cd:List Int) (k:Nat) (hk:k<r.length),f (v,cd,(k:Int))=(b6 (R:=List Int × List Int) (λ(s:List Int × List Int) =>
(bif decide ((s.2.length:Int)<=aE ((b:Int)+(r[k]).At)) then
(dj s.2 [0]).bind λcQ =>
(dj s.1 [0]).bind λgW =>
some (.inl (s.1++[0],s.2++[0]))
else
some (.inr (s.1,s.2)))) (v,cd)).bind λfG =>
(idx fG.2 (aE ((b:Int)+(r[k]).At))).bind λrm =>
(idx fG.1 (aE ((b:Int)+(r[k]).At))).bind λkm =>
some (.inl (fG.1.set (aE ((b:Int)+(r[k]).At)).toNat (r[k]).cC,fG.2.set (aE ((b:Int)+(r[k]).At)).toNat (aE ((i:Int)+1)),aE ((k:Int)+1))))
  (he:∀ (v cd:List Int) (k:Int),¬ k<r.length->f (v,cd,k)=some (.inr (v,cd))) :
  Tot (b6 f (c.cC,c.cz,0)) λx=>pa c r i b x.1 x.2/\x.2.length<=c.cz.length+1000:=by
 refine Tot.count (λs=>s.2.2) r.length (λs=>∃ k:Nat,k<=r.length/\s.2.2=(k:Int)/\pa c (r.take k) i b s.1 s.2.1) ⟨0,Nat.zero_le _,rfl,pa.nil c i b ht⟩ (by show (r.length:Int) - 0<_; omega) λs aw=>?_;obtain ⟨v,cd,kD⟩:=s;obtain ⟨k,hk,rfl,ck⟩:=aw;simp only at ck ⊢;by_cases aR:k<r.length
 ·rw [aS v cd k aR];have ar:=nt.at' _ (List.getElem_mem aR);have c5:aE ((b:Int)+(r[k]).At)=((b+(r[k]).At.toNat:Nat):Int):=by rw [cq]; omega
  have acK:cd.length<=1000000:=by
   rcases ck.hi with e | ⟨q,a6,e⟩
   ·omega
   ·have:=nt.at' q (List.mem_of_mem_take a6);omega
  refine .au (pad _ _ _ c5 (by omega) v cd ck.len (by omega)) λx j=>?_;obtain ⟨h1,af,aF,bu⟩:=j;rw [c5];have qf:b+(r[k]).At.toNat<x.2.length:=by omega
  have Ir:b+(r[k]).At.toNat<x.1.length:=by omega
  rw [uA qf,uA Ir];have WH:aE ((i:Int)+1)=(i:Int)+1:=by rw [cq]; omega
  have uu:aE ((k:Int)+1)=((k+1:Nat):Int):=by rw [cq]; omega
  rw [WH,uu];refine Tot.sm (Tot.sm (.ag ⟨⟨k+1,by omega,rfl,?_⟩,?_,?_⟩))
  ·rw [List.take_add_one,List.getElem?_eq_getElem aR];exact ck.more (Pz nt aR) h1 af aF bu
  ·grind
  grind
 ·rw [he v cd k (by omega)];have:k=r.length:=by omega
  subst this;rw [List.take_length] at ck;refine .ag ⟨ck,?_⟩;show cd.length<=c.cz.length+1000;rcases ck.hi with e | ⟨q,a6,e⟩
  ·omega
  ·have:=nt.at' q a6;omega
theorem kQ.snoc {r:e_}{p:dr}(h:kQ r) (ar:0<=p.At/\p.At<=999) (aA:p.At∉r.map (·.At)):kQ (r++[p]):=by
 refine ⟨λq a6=>?_,?_⟩
 ·rcases List.mem_append.1 a6 with a6 | a6
  ·exact h.at' q a6
  ·rw [List.mem_singleton.1 a6]; exact ar
 ·rw [List.map_append,List.nodup_append];refine ⟨h.nd,by simp,λa aQ b av e=>?_⟩;have av:b∈[p.At]:=av;rw [List.mem_singleton.1 av] at e;exact aA (e ▸ aQ)
theorem kQ.nil:kQ []:=⟨λ_ h=>absurd h (by simp),by simp⟩
theorem kQ.bad {r:e_}{k:Nat}(hk:k<r.length) (h:¬ (0<=(r[k]).At/\(r[k]).At<=999)\/(r[k]).At∈(r.take k).map (·.At)):¬ kQ r:=by
 intro ah;rcases h with h | h
 ·exact h (ah.at' _ (List.getElem_mem hk))
 ·obtain ⟨q,a6,e⟩:=List.mem_map.1 h;exact Pz ah hk q a6 (by have e:q.At=(r[k]).At:=e; rw [e])
theorem Y9 {rows:List e_}{r:e_}(ah:r∈rows) (h:¬ kQ r):¬ p0 rows:=λbD=>h (bD.rows r ah)
theorem P1 {r:e_}{k:Nat}(h:k<r.length):r.take (k+1)=r.take k++[r[k]]:=by
 rw [List.take_add_one,List.getElem?_eq_getElem h]; rfl
theorem Sn (rows:List e_) (fc:Dr rows):Tot (Cx rows) λc=>(c=true↔p0 rows):=by
 unfold Cx;have aA:=fc.n;refine Tot.bb (λh=>.ag ⟨λh=>(by cases h),λbD=>by have:=bD.n; omega⟩) (λacm=>?_);refine Tot.au (Tot.scan rows kQ (λx:Bool=>x=false/\¬ p0 rows) (by omega) (λs r aO h1 hi hm=>?_) (λs aw=>by simp [aw])) λx j=>?_
 ·refine Tot.bb (λ_=>?_) (λh=>absurd h1 h);have n2:=fc.r r hm;refine .au (Ξ:=ft (λ_=>kQ r) (λx:Bool=>x=false/\¬ p0 rows)) ?_ λx j=>?_
  ·refine Tot.count (λs=>s.2) r.length (λs=>∃ k:Nat,k<=r.length/\s.2=(k:Int)/\kQ (r.take k)/\s.1=(r.take k).map (·.At)) ⟨0,Nat.zero_le _,rfl,kQ.nil,rfl⟩ (by show (r.length:Int) - 0<_; omega) λs aw=>?_;obtain ⟨l,kD⟩:=s;obtain ⟨k,hk,rfl,cY,rfl⟩:=aw;simp only;rw [hi];refine Tot.sm (Tot.bb (λaR=>?_) (λdq=>.ag ?_))
   ·have aR:k<r.length:=by omega
    have hw:aE ((k:Int)+1)=((k+1:Nat):Int):=by rw [cq]; omega
    rw [hw];simp only [Option.bind_some,uA aR];have Eg:((r.take k).map (·.At)).length<=1000:=by rw [List.length_map,List.length_take]; omega
    refine .au (Ξ:=λc=>(c=true↔(¬ (0<=(r[k]).At/\(r[k]).At<=999)\/(r[k]).At∈(r.take k).map (·.At)))) ?_ λc aa=>Tot.bj (λh=>.ag ⟨rfl,Y9 hm (kQ.bad aR (aa.1 h))⟩) (λh=>?_)
    ·refine Tot.bb (λh=>.ag ⟨λ_=>.inl (by omega),λ_=>rfl⟩) (λh=>Tot.bb (λaH=>.ag ⟨λ_=>.inl (by omega),λ_=>rfl⟩) (λaH=>?_));have ar:0<=(r[k]).At/\(r[k]).At<=999:=by omega
     refine .au (Sr _ (r[k]).At (by omega)) λc aa=>.ag ?_;rw [aa];exact ⟨λh=>.inr h,λh=>h.resolve_left λaA=>aA ar⟩
    ·have VE:(0<=(r[k]).At/\(r[k]).At<=999)/\(r[k]).At∉(r.take k).map (·.At):=by
      refine ⟨Classical.byContradiction λaA=>?_,λaA=>?_⟩
      ·rw [aa.2 (.inl aA)] at h; cases h
      ·rw [aa.2 (.inr aA)] at h; cases h
     obtain ⟨ar,aA⟩:=VE;refine .au (Ξ:=λ_=>True) (Tot.ap (by simp [lim]; omega) trivial) λ_ _=>.ag ⟨⟨k+1,by omega,rfl,?_,?_⟩,?_,?_⟩
     ·rw [P1 aR]; exact cY.snoc ar aA
     ·show (r.take k).map (·.At)++[(r[k]).At]=_;rw [P1 aR,List.map_append]; rfl
     ·show (k:Int)<((k+1:Nat):Int); omega
     ·show ((k+1:Nat):Int)<=_; omega
   ·have:k=r.length:=by omega
    subst this;rw [List.take_length] at cY;exact cY
  ·rcases x with _ | x
   ·exact .ag ⟨by rw [cq]; omega,j⟩
   ·exact .ag j
 ·rcases x with _ | x
  ·have j:∀ r∈rows,kQ r:=j;exact .ag ⟨λ_=>⟨by omega,j⟩,λ_=>rfl⟩
  ·obtain ⟨rfl,av⟩:x=false/\¬ p0 rows:=j;exact .ag ⟨λh=>(by cases h),λh=>absurd h av⟩
def jk (rows:List e_) (a:Int):Nat:=((idx rows a).map List.length).getD 0
def nA (rows:List e_) (a b:Int):Bool:=decide (jk rows b<jk rows a\/(jk rows a=jk rows b/\a<b))
theorem XJ {rows:List e_}{a b:Int}:nA rows a b=true↔(jk rows b<jk rows a\/(jk rows a=jk rows b/\a<b)):=by simp [nA]
theorem B7 {rows:List e_}{a b:Int}:nA rows a b=false↔¬ (jk rows b<jk rows a\/(jk rows a=jk rows b/\a<b)):=by simp [nA]
theorem XK (rows:List e_):SWO (nA rows) where
 irrefl x:=by rw [B7]; omega
 trans x y z h1 af:=by rw [XJ] at *; omega
 ntrans x y z h1 af:=by rw [B7] at *; omega
theorem XL {rows:List e_}{a b:Int}(h1:nA rows a b=false) (af:nA rows b a=false):a=b:=by
 rw [B7] at *; omega
structure nL (rows:List e_) (o:List Nat):Prop where
 mem:∀ i,i∈o↔∃ r,rows[i]?=some r/\r≠[]
 nd:o.Nodup
 CK:o.Pairwise λ(a b:Nat)=>nA rows (b:Int) (a:Int)=false
theorem nL.uniq {rows:List e_}{o ha:List Nat}(h:nL rows o) (aH:nL rows ha):o=ha :=
 List.Perm.eq_of_pairwise (le:=λ(a b:Nat)=>nA rows (b:Int) (a:Int)=false) (λa b _ _ h1 af=>by have:=XL af h1; omega) h.CK aH.CK ((List.perm_ext_iff_of_nodup h.nd aH.nd).2 λi=>(h.mem i).trans (aH.mem i).symm)
theorem nL.lt {rows:List e_}{o:List Nat}(h:nL rows o) {i:Nat}(hi:i∈o):i<rows.length:=by
 obtain ⟨r,ah,_⟩:=(h.mem i).1 hi;exact (List.getElem?_eq_some_iff.1 ah).1
theorem nL.len {rows:List e_}{o:List Nat}(h:nL rows o):o.length<=rows.length:=by
 have:∀ (l m:List Nat),l.Nodup->(∀ x∈l,x∈m)->l.length<=m.length:=by
  intro l
  induction l with
  | nil=>intro m _ _; exact Nat.zero_le _
  | cons x l aL =>
   intro m aP hm;have j:=hm x (by simp);have nj:=List.nodup_cons.1 aP;have:=aL (m.erase x) nj.2 λy ak=>(List.mem_erase_of_ne (λe=>nj.1 (by rw [<- e]; exact ak))).2 (hm y (by simp [ak]));have ai:=List.length_erase_of_mem j;have ar:=List.length_pos_of_mem j;simp only [List.length_cons];omega
 have:=this o (List.range rows.length) h.nd λx j=>by simpa using h.lt j
 simpa using this
def X1 (cd:List Int):List Nat:=(List.range cd.length).filter λk=>decide (cd.getD k 0≠0)
def Y2 (rows:List e_) (i:Nat):Nat:=(rows[i]?.map List.length).getD 0
structure Inv (rows:List e_) (l:List Nat) (c:gN):Prop where
 own:∀ i∈l,∃ (r:e_) (b:Nat),rows[i]?=some r/\c.dA[i]?=some (b:Int)/\∀ p∈r,b+p.At.toNat<c.cz.length/\c.cz.getD (b+p.At.toNat) 0=(i:Int)+1/\c.cC.getD (b+p.At.toNat) 0=p.cC
 adK:∀ k,c.cz.getD k 0≠0->∃ i∈l,∃ (r:e_) (b:Nat),rows[i]?=some r/\c.dA[i]?=some (b:Int)/\∃ p∈r,k=b+p.At.toNat/\c.cz.getD k 0=(i:Int)+1
 zero:∀ k,c.cz.getD k 0=0->c.cC.getD k 0=0
 last:c.cz.length=0\/c.cz.getD (c.cz.length - 1) 0≠0
 least:∀ i∈l,∀ b:Nat,c.dA[i]?=some (b:Int)->∀ dV,dV<b->∃ (r:e_) (p:dr) (pA:Nat),rows[i]?=some r/\p∈r/\pA∈l/\nA rows (pA:Int) (i:Int)=true/\c.cz.getD (dV+p.At.toNat) 0=(pA:Int)+1
 hc:(X1 c.cz).length=(l.map (Y2 rows)).sum
def q4 (a b:dr):Bool:=decide (a.At<b.At)||(decide (a.At=b.At)&&decide (a.cC<b.cC))
theorem Jr {a b:dr}:q4 a b=true↔(a.At<b.At\/(a.At=b.At/\a.cC<b.cC)):=by simp [q4]
theorem Js {a b:dr}:q4 a b=false↔¬ (a.At<b.At\/(a.At=b.At/\a.cC<b.cC)):=by
 rw [<- Jr]; simp
theorem OE:Ord q4 where
 swo:=⟨λx=>by rw [Js]; omega,λx y z h1 af=>by rw [Jr] at *; omega,λx y z h1 af=>by rw [Js] at *; omega⟩
 iY x y h1 af:=by
  rw [Js] at h1 af;obtain ⟨bc,x2⟩:=x;obtain ⟨bT,y2⟩:=y;simp only at h1 af;have:bc=bT:=by omega
  have:x2=y2:=by omega
  subst_vars; rfl
def sy (T:List Tok) (p:dr):Prop:=∃ (k:Nat) (t:Tok),T[k]?=some t/\0<t.bF/\p=⟨t.bF,(k:Int)⟩
theorem sy.val {T:List Tok}{p:dr}(h:sy T p):∃ (k:Nat) (t:Tok),T[k]?=some t/\p.cC=(k:Int)/\p.At=t.bF/\0<t.bF:=by
 obtain ⟨k,t,h1,af,rfl⟩:=h;exact ⟨k,t,h1,rfl,rfl,af⟩
theorem OX {α:Type}(keep:α->Bool) (val:α->Int) {l:List α}(ai:l.length<=1000):kQ (k_ keep val l):=by
 refine ⟨λp ar=>?_,?_⟩
 all_goals grind [Jw,YM]
theorem Sb (s:Source) (av:pb s):Tot (q9 s) λr=>r.2.2.2=true->(∃ n,rr r.1 n r.2.1)/\tx r.1:=by
 refine (Par.iY (AE s av) (Ψ:=λr=>r.2.2.2=true->tx r.1) ?_).use λr ah h=>⟨ah.1 h,ah.2 h⟩;have JN:Par (sc s) λr=>r.2=true->tx r.1:=by
  unfold sc;exact .au (Yp s av) λr ah=>.ag λh=>ah (of_decide_eq_true h)
 have JM:Par (sb s) λr=>r.2.2=true->tx r.1:=by
  unfold sb;exact .au JN λr ah=>Par.bj (λ_=>.ag λh=>by cases h) (λh=>.au (Ξ:=λ_=>True) (λ_ _=>trivial) λm _=>.ag λ_=>ah (by simpa using h))
 have JL:Par (q_ s) λr=>r.2.2.2=true->tx r.1:=by
  unfold q_;exact .au JM λr ah=>Par.bj (λ_=>.ag λh=>by cases h) (λh=>.au (Ξ:=λ_=>True) (λ_ _=>trivial) λs8 _=>.au (Ξ:=λ_=>True) (λ_ _=>trivial) λcs _=>.ag λ_=>ah (by simpa using h))
 unfold q9;exact .au JL λr ah=>Par.bj (λ_=>.ag λh=>by cases h) (λh=>.au (Ξ:=λ_=>True) (λ_ _=>trivial) λ_ _=>.au (Ξ:=λ_=>True) (λ_ _=>trivial) λ_ _=>.ag λ_=>ah (by simpa using h))
def kM (rows:List e_) (o:List Nat) (J:Nat):Prop:=J∉o/\∃ r,rows[J]?=some r/\r≠[]
theorem EN {rows:List e_}{J:Nat}{r:e_}(h:rows[J]?=some r):jk rows (J:Int)=r.length:=by
 simp [jk,idx,h]
structure Gg (rows:List e_) (o:List Nat) (laid:List Bool) (c:gN):Prop where
 N8:dv rows o.reverse c
 nd:o.Nodup
 ne:∀ i∈o,∃ r,rows[i]?=some r/\r≠[]
 XF:laid.length=rows.length
 ld:∀ J,J<rows.length->(laid.getD J false=true↔J∈o)
 CK:o.Pairwise λ(a b:Nat)=>nA rows (b:Int) (a:Int)=false
 Lv:∀ i∈o,∀ J,kM rows o J->nA rows (J:Int) (i:Int)=false
 cl:c.cz.length<=1000 * o.length
theorem uE:∀ (l m:List Nat),l.Nodup->(∀ x∈l,x∈m)->l.length<=m.length
 | [],_,_,_=>Nat.zero_le _
 | x::l,m,aP,hm=>by
  have j:=hm x (by simp);have nj:=List.nodup_cons.1 aP;have:=uE l (m.erase x) nj.2 λy ak=>(List.mem_erase_of_ne (λe=>nj.1 (by rw [<- e]; exact ak))).2 (hm y (by simp [ak]));have ai:=List.length_erase_of_mem j;have ar:=List.length_pos_of_mem j;simp only [List.length_cons];omega
theorem Gg.ol {rows:List e_}{o:List Nat}{laid:List Bool}{c:gN}(h:Gg rows o laid c):o.length<=rows.length:=by
 have:=uE o (List.range rows.length) h.nd λx j=>by
  obtain ⟨r,ah,_⟩:=h.ne x j;simpa using (List.getElem?_eq_some_iff.1 ah).1
 simpa using this
theorem Sf (rows:List e_) (fc:Dr rows):Tot (vS rows) λc=>(¬ p0 rows->c=⟨[],[],[]⟩)/\(p0 rows->∃ o,nL rows o/\dv rows o.reverse c):=by
 unfold vS;refine .au (Sn rows fc) λbc h1=>Tot.bj (λh=>.ag ⟨λ_=>rfl,λcY=>by rw [h1.2 cY] at h; cases h⟩) (λh=>?_);have cY:p0 rows:=h1.1 (by simpa using h);refine Tot.use (Ψ:=λc=>∃ o,nL rows o/\dv rows o.reverse c) ?_ λc aa=>⟨λaA=>absurd cY aA,λ_=>aa⟩;have aA:=cY.n;refine .au (Ξ:=λl=>l=List.replicate rows.length 0) (Tot.mk (by simp [lim]; omega) (by simp)) λaZ aF=>?_;subst aF;refine .au (Ξ:=λl=>l=List.replicate rows.length false) (Tot.mk (by simp [lim]; omega) (by simp)) λbR bu=>?_;subst bu;refine Tot.au (Ξ:=ft (λ_=>False) (λc=>∃ o,nL rows o/\dv rows o.reverse c)) ?_ λx j=>by
  rcases x with x | x
  ·exact j.elim
  ·exact .ag j
 refine Tot.loop (λs=>∃ o,Gg rows o s.2 s.1) (λs=>(s.2.filter λb=>!b).length) ⟨[],.nil,List.nodup_nil,λ_ h=>absurd h (by simp),by simp,λJ aj=>by simp [List.getD_eq_getElem?_getD,aj],.nil,λ_ h=>absurd h (by simp),Nat.le_refl 0⟩ (by
  show ((List.replicate rows.length false).filter λb=>!b).length<1000000000000000000;refine Nat.lt_of_le_of_lt (List.length_filter_le _ _) ?_;rw [List.length_replicate]; omega) λs aw=>?_
 obtain ⟨c,laid⟩:=s;obtain ⟨o,ck⟩:=aw;simp only at ck ⊢;have pt:=ck.ol;have Eg:=ck.XF
 -- which is next
 refine .au (Ξ:=λx:Int=>(x=-1/\∀ J,¬ kM rows o J)\/∃ i:Nat,x=(i:Int)/\kM rows o i/\∀ J,kM rows o J->nA rows (J:Int) (i:Int)=false) ?_ λbG rL=>?_
 ·refine Tot.count (λs=>s.2) rows.length (λs=>∃ k:Nat,k<=rows.length/\s.2=(k:Int)/\((s.1=-1/\∀ J,J<k->¬ kM rows o J)\/∃ i:Nat,s.1=(i:Int)/\i<k/\kM rows o i/\∀ J,J<k->kM rows o J->nA rows (J:Int) (i:Int)=false)) ⟨0,Nat.zero_le _,rfl,.inl ⟨rfl,λJ aj=>absurd aj (Nat.not_lt_zero _)⟩⟩ (by show (rows.length:Int) - 0<_; omega) λs aw=>?_;obtain ⟨x,kD⟩:=s;obtain ⟨k,hk,rfl,bh⟩:=aw;simp only at bh ⊢;have hw:aE ((k:Int)+1)=((k+1:Nat):Int):=by rw [cq]; omega
  rw [hw];refine Tot.bb (λaR=>?_) (λdq=>.ag ?_)
  ·have aR:k<rows.length:=by omega
   have sS:rows[k]?=some rows[k]:=List.getElem?_eq_getElem aR;have VQ:idx laid (k:Int)=some (laid.getD k false):=by
    have:k<laid.length:=by omega
    rw [uA this,List.getD_eq_getElem?_getD,List.getElem?_eq_getElem this]; rfl
   refine .au (Ξ:=λy:Int=>(y=-1/\∀ J,J<k+1->¬ kM rows o J)\/∃ i:Nat,y=(i:Int)/\i<k+1/\kM rows o i/\∀ J,J<k+1->kM rows o J->nA rows (J:Int) (i:Int)=false) ?_ λy ak=>.ag ⟨⟨k+1,by omega,rfl,ak⟩,?_,?_⟩
   ·have skip:¬ kM rows o k->(x=-1/\∀ J,J<k+1->¬ kM rows o J)\/∃ i:Nat,x=(i:Int)/\i<k+1/\kM rows o i/\∀ J,J<k+1->kM rows o J->nA rows (J:Int) (i:Int)=false:=by
     intro cy;rcases bh with ⟨e,h⟩ | ⟨i,e,hi,he,h⟩
     ·refine .inl ⟨e,λJ aj=>?_⟩;by_cases fz:J=k
      ·rw [fz]; exact cy
      ·exact h J (by omega)
     ·refine .inr ⟨i,e,by omega,he,λJ aj vq=>?_⟩;by_cases fz:J=k
      ·rw [fz] at vq; exact absurd vq cy
      ·exact h J (by omega) vq
    refine .au (Ξ:=λc=>(c=true->kM rows o k/\(x=-1\/∃ i:Nat,x=(i:Int)/\jk rows (i:Int)<jk rows (k:Int)))/\(c=false->¬ kM rows o k\/∃ i:Nat,x=(i:Int)/\jk rows (k:Int)<=jk rows (i:Int))) ?_ λab8 aa=>.au (Ξ:=λy:Int=>(y=-1/\∀ J,J<k+1->¬ kM rows o J)\/∃ i:Nat,y=(i:Int)/\i<k+1/\kM rows o i/\∀ J,J<k+1->kM rows o J->nA rows (J:Int) (i:Int)=false) (Tot.bj (λh=>.ag ?_) (λh=>.ag ?_)) λy ak=>.ag ak
    ·rw [VQ];refine Tot.sm (Tot.bj (λai=>?_) (λai=>.ag ⟨λh=>(by cases h),λ_=>.inl λhe=>he.1 ((ck.ld k aR).1 (by simpa using ai))⟩));have VP:k∉o:=λh=>by rw [(ck.ld k aR).2 h] at ai; cases ai
     rw [uA aR];refine Tot.sm (Tot.bb (λar=>?_) (λar=>.ag ⟨λh=>(by cases h),λ_=>.inl λ⟨_,r,ah,cy⟩=>?_⟩))
     ·have ug:kM rows o k:=⟨VP,_,sS,λe=>by rw [e] at ar; simp at ar⟩;refine Tot.bb (λj=>.ag ⟨λ_=>⟨ug,.inl ?_⟩,λh=>(by cases h)⟩) (λj=>?_)
      ·rcases bh with ⟨e,_⟩ | ⟨i,e,_⟩
       ·exact e
       ·omega
      ·rcases bh with ⟨e,_⟩ | ⟨i,e,hi,⟨_,r,ah,_⟩,_⟩
       ·omega
       ·subst e;have nn:i<rows.length:=by omega
        rw [uA nn];refine Tot.sm (Tot.sm (.ag ⟨λh=>⟨ug,.inr ⟨i,rfl,?_⟩⟩,λh=>.inr ⟨i,rfl,?_⟩⟩))
        ·rw [EN sS,EN (List.getElem?_eq_getElem nn)];have:=of_decide_eq_true h;omega
        ·rw [EN sS,EN (List.getElem?_eq_getElem nn)];have:=of_decide_eq_false h;omega
     ·rw [sS] at ah; cases ah;have:(rows[k]).length≠0:=λe=>cy (List.eq_nil_of_length_eq_zero e);omega
    ·obtain ⟨ug,HY⟩:=aa.1 h;refine .inr ⟨k,rfl,by omega,ug,λJ aj vq=>?_⟩;by_cases fz:J=k
     ·rw [fz]; exact (XK rows).irrefl _
     ·rcases bh with ⟨e,aH⟩ | ⟨i,e,hi,he,aH⟩
      ·exact absurd vq (aH J (by omega))
      ·rcases HY with b8 | ⟨pA,b8,ai⟩
       ·omega
       ·have:i=pA:=by omega
        subst this;have:=aH J (by omega) vq;rw [B7] at this ⊢;omega
    ·rcases aa.2 h with cy | ⟨pA,b8,ai⟩
     ·exact skip cy
     ·rcases bh with ⟨e,aH⟩ | ⟨i,e,hi,he,aH⟩
      ·omega
      ·have:i=pA:=by omega
       subst this;refine .inr ⟨i,e,by omega,he,λJ aj vq=>?_⟩;by_cases fz:J=k
       ·subst fz;rw [B7]; omega
       ·exact aH J (by omega) vq
   ·show (k:Int)<((k+1:Nat):Int); omega
   ·show ((k+1:Nat):Int)<=_; omega
  ·have dR:k=rows.length:=by omega
   have ug:∀ J,kM rows o J->J<k:=λJ ⟨_,r,ah,_⟩=>by
    have:=(List.getElem?_eq_some_iff.1 ah).1; omega
   rcases bh with ⟨e,h⟩ | ⟨i,e,hi,he,h⟩
   ·exact .inl ⟨e,λJ aj=>h J (ug J aj) aj⟩
   ·exact .inr ⟨i,e,he,λJ aj=>h J (ug J aj) aj⟩
 rcases rL with ⟨rfl,V2⟩ | ⟨i,rfl,ug,HY⟩
 ·refine Tot.bj (λ_=>.ag ⟨o,⟨λi=>⟨ck.ne i,λ⟨r,ah,cy⟩=>Classical.byContradiction λhi=>V2 i ⟨hi,r,ah,cy⟩⟩,ck.nd,ck.CK⟩,ck.N8⟩) (λh=>absurd h (by decide))
 ·refine Tot.bb (λh=>by omega) (λ_=>?_);obtain ⟨Ed,r,ah,Nr⟩:=ug;have nn:i<rows.length:=(List.getElem?_eq_some_iff.1 ah).1;have Ig:i<laid.length:=by omega
  rw [uA Ig];have um:r∈rows:=List.mem_of_getElem? ah;have nt:=cY.rows r um;have n2:=fc.r r um;have ht:=ck.cl;have gR:=ck.N8;have Nh:i∉o.reverse:=by rw [List.mem_reverse]; exact Ed
  have hlen:=gR.len;refine Tot.sm (.au (Zm rows fc i r ah nt c (by omega) (gR.rest i nn Nh) zB λb av=>Sp c.cz r b nt.at' (by omega) (by omega) (by omega)) λB Uc=>?_);obtain ⟨b,rfl,wY,VR,qd⟩:=Uc;have Ie:idx rows (i:Int)=some r:=by simp [idx,ah]
  rw [Ie];refine .au (YO r nt n2 i b (by omega) c hlen.1 (by omega) qd _ (λv cd k hk=>?_) (λv cd k hk=>?_)) λx j=>?_
  ·have Vf:idx (c.dA.set i (b:Int)) (i:Int)=some (b:Int):=by
    have:i<c.dA.length:=by omega
    simp [idx,this]
   have aP:decide ((k:Int)<(r.length:Int))=true:=decide_eq_true (by omega);simp only [Option.bind_some,aP,cond_true,uA hk,Vf]
  ·have aP:decide ((k:Int)<(r.length:Int))=false:=decide_eq_false hk;simp only [Option.bind_some,aP,cond_false]
  ·obtain ⟨UA,ai⟩:=j;have ky:(laid.set i true).length=rows.length:=by rw [List.length_set]; exact Eg
   refine .ag ⟨⟨o++[i],?_,?_,λa aQ=>?_,ky,λJ aj=>?_,?_,λa aQ J aj=>?_,?_⟩,?_⟩
   ·rw [List.reverse_append];exact .cons ah Nh gR ⟨wY,VR,rfl,UA⟩
   ·rw [List.nodup_append];exact ⟨ck.nd,by simp,λa aQ b av e=>Ed (by rw [<- List.mem_singleton.1 av,<- e]; exact aQ)⟩
   ·rcases List.mem_append.1 aQ with aQ | aQ
    ·exact ck.ne a aQ
    ·rw [List.mem_singleton.1 aQ]; exact ⟨r,ah,Nr⟩
   ·show ((laid.set i true).getD J false=true↔_);rw [List.getD_eq_getElem?_getD,List.getElem?_set,List.mem_append,List.mem_singleton];by_cases e:i=J
    ·subst e;simp [Ig]
    ·rw [if_neg e,<- List.getD_eq_getElem?_getD,ck.ld J aj];constructor
     ·exact .inl
     ·rintro (h | h)
      ·exact h
      ·exact absurd h.symm e
   ·rw [List.pairwise_append];exact ⟨ck.CK,List.pairwise_singleton _ _,λa aQ b av=>by rw [List.mem_singleton.1 av]; exact ck.Lv a aQ i ⟨Ed,r,ah,Nr⟩⟩
   ·have vp:kM rows o J:=⟨λh=>aj.1 (by simp [h]),aj.2⟩;rcases List.mem_append.1 aQ with aQ | aQ
    ·exact ck.Lv a aQ J vp
    ·rw [List.mem_singleton.1 aQ]; exact HY J vp
   ·show x.2.length<=1000 * (o++[i]).length;simp; omega
   ·show ((laid.set i true).filter λb=>!b).length<(laid.filter λb=>!b).length;have Vw:laid.getD i false=false:=by
     cases h:laid.getD i false with
     | false=>rfl
     | true=>exact absurd ((ck.ld i nn).1 h) Ed
    have key:∀ (l:List Bool) (i:Nat),i<l.length->l.getD i false=false->((l.set i true).filter λb=>!b).length<(l.filter λb=>!b).length:=by
     intro l
     induction l with
     | nil=>intro i hi; simp at hi
     | cons y l aL =>
      intro i hi aO;cases i with
      | zero =>
       have:y=false:=by simpa using aO
       subst this;simp
      | succ i =>
       have:=aL i (by simpa using hi) (by simpa using aO);simp only [List.set_cons_succ];cases y <;> simp <;> omega
    exact key laid i Ig Vw
theorem Sh (g:bq) (ai:g.aX.length<=1000):Tot (Cs g) λl=>eX q4 l/\∀ p,p∈l↔sy g.aX p:=by
 unfold Cs;refine .au (Ξ:=λl:List Int=>eX hJ l/\l.length<=1000/\∀ x,x∈l↔∃ (k:Nat) (t:Tok),g.aX[k]?=some t/\0<t.bF/\x=t.bF) ?_ λl ai=>?_
 ·refine Tot.upto (λs=>s.2) g.aX.length (λk s=>eX hJ s.1/\s.1.length<=k/\∀ x,x∈s.1↔∃ (J:Nat) (t:Tok),g.aX[J]?=some t/\0<t.bF/\x=t.bF/\J<k) rfl (by omega) ⟨.nil,Nat.le_refl 0,λp=>⟨λh=>(by cases h),λ⟨J,t,h⟩=>by omega⟩⟩ λk s hk he ba=>?_;obtain ⟨l,i⟩:=s;obtain ⟨h1,af,aF⟩:=ba;simp only at he h1 af aF ⊢;subst he;rw [ep k (by omega)];refine Tot.bb (λaR=>?_) (λdq=>.ag ⟨h1,by omega,λx=>(aF x).trans ⟨λ⟨J,t,a,b,c,_⟩=>⟨J,t,a,b,c⟩,λ⟨J,t,a,b,c⟩=>⟨J,t,a,b,c,?_⟩⟩⟩)
  ·have aR:k<g.aX.length:=by omega
   rw [d_ aR];have nY:g.aX[k]?=some g.aX[k]:=List.getElem?_eq_getElem aR;simp only [Option.bind_some];refine .au (Ξ:=λo:List Int=>eX hJ o/\o.length<=k+1/\∀ x,x∈o↔∃ (J:Nat) (t:Tok),g.aX[J]?=some t/\0<t.bF/\x=t.bF/\J<k+1) ?_ λo aV=>.ag ⟨aR,rfl,aV⟩;refine .au (Ξ:=λo:List Int=>eX hJ o/\o.length<=k+1/\∀ x,x∈o↔∃ (J:Nat) (t:Tok),g.aX[J]?=some t/\0<t.bF/\x=t.bF/\J<k+1) ?_ λo aV=>.ag aV;refine Tot.bb (λar=>.au (AJ l _ h1 (by omega)) λr ah=>.ag ⟨ah.1,by have:=ah.2.1; omega,λx=>?_⟩) (λar=>.ag ⟨h1,by omega,λx=>?_⟩)
   ·grind
   grind
  grind
 ·obtain ⟨aQ,aA,hm⟩:=ai;refine .au (Ξ:=λl:List dr=>eX q4 l/\∀ p,p∈l↔sy g.aX p) ?_ λr ah=>.ag ah;refine Tot.upto (λs=>s.2) l.length (λk s=>eX q4 s.1/\s.1.length<=1000 * k/\∀ p,p∈s.1↔(sy g.aX p/\p.At∈l.take k)) rfl (by omega) ⟨.nil,Nat.le_refl 0,λp=>⟨λh=>(by cases h),λh=>(by simp at h)⟩⟩ λk s hk he ba=>?_;obtain ⟨out,i⟩:=s;obtain ⟨h1,af,aF⟩:=ba;simp only at he h1 af aF ⊢;subst he;rw [ep k (by omega)];refine Tot.bb (λaR=>?_) (λdq=>.ag ⟨h1,λp=>(aF p).trans ⟨λh=>h.1,λh=>⟨h,?_⟩⟩⟩)
  ·have aR:k<l.length:=by omega
   have j:∃ x,x=l[k]:=⟨_,rfl⟩;obtain ⟨x,j⟩:=j;have vH:x∈l:=by rw [j]; exact List.getElem_mem aR
   obtain ⟨_,_,_,jx,_⟩:=(hm x).1 vH;have fp:l.take (k+1)=l.take k++[x]:=by rw [List.take_add_one,List.getElem?_eq_getElem aR,j]; rfl
   have ly:∀ y∈l.take k,y<x:=λy ak=>by
    obtain ⟨J,aj,rfl⟩:=List.mem_iff_getElem.1 ak;rw [List.length_take] at aj;rw [List.getElem_take,j];exact Jt.1 (Gr aQ (by omega) aR (by omega))
   refine .au (Ξ:=λo:List dr=>eX q4 o/\o.length<=1000 * (k+1)/\∀ p,p∈o↔(sy g.aX p/\p.At∈l.take (k+1))) ?_ λo aV=>.ag ⟨aR,rfl,aV⟩;refine Tot.upto (λs=>s.2) g.aX.length (λJ s=>eX q4 s.1/\s.1.length<=1000 * k+J/\∀ p,p∈s.1↔(sy g.aX p/\(p.At∈l.take k\/(p.At=x/\p.cC<(J:Int))))) rfl (by omega) ⟨h1,by show out.length<=1000 * k+0; omega,λp=>(aF p).trans ⟨λh=>⟨h.1,.inl h.2⟩,λh=>⟨h.1,h.2.elim id λaH=>?_⟩⟩⟩ λJ s aj he ba=>?_
   ·obtain ⟨i,t,_,e,_⟩:=h.1.val;omega
   obtain ⟨o,i⟩:=s;obtain ⟨g1,g2,g3⟩:=ba;simp only at he g1 g2 g3 ⊢;subst he;rw [ep J (by omega)];refine Tot.bb (λqf=>?_) (λdq=>.ag ⟨g1,by omega,λp=>(g3 p).trans ?_⟩)
   ·have qf:J<g.aX.length:=by omega
    rw [d_ qf,d_ aR,<- j];have nY:g.aX[J]?=some g.aX[J]:=List.getElem?_eq_getElem qf;simp only [Option.bind_some];refine .au (Ξ:=λo:List dr=>eX q4 o/\o.length<=1000 * k+(J+1)/\∀ p,p∈o↔(sy g.aX p/\(p.At∈l.take k\/(p.At=x/\p.cC<((J+1:Nat):Int))))) ?_ λo aV=>.ag ⟨qf,rfl,aV⟩;refine .au (Ξ:=λo:List dr=>eX q4 o/\o.length<=1000 * k+(J+1)/\∀ p,p∈o↔(sy g.aX p/\(p.At∈l.take k\/(p.At=x/\p.cC<((J+1:Nat):Int))))) ?_ λo aV=>.ag aV;refine Tot.bb (λar=>.au (Ξ:=λ_=>True) (Tot.ap (by simp [lim]; omega) trivial) λ_ _=>.ag ⟨?_,by simp; omega,λp=>?_⟩) (λar=>.ag ⟨g1,by omega,λp=>(g3 p).trans ?_⟩)
    ·refine List.pairwise_append.2 ⟨g1,List.pairwise_singleton ..,λa aQ b av=>?_⟩
     grind [Jr]
    ·rw [List.mem_append,List.mem_singleton,g3];constructor
     ·rintro (⟨h,aH | ⟨aH,fW⟩⟩ | rfl)
      ·grind
      ·grind
      ·exact ⟨⟨J,_,nY,by omega,by rw [ar]⟩,.inr ⟨rfl,by show (J:Int)<((J+1:Nat):Int); omega⟩⟩
     ·rintro ⟨h,aH | ⟨aH,fW⟩⟩
      ·grind
      ·by_cases e:p.cC=(J:Int)
       ·right;obtain ⟨a,b⟩:=p
        grind
       grind
    ·constructor
     ·grind
     ·rintro ⟨h,aH | ⟨aH,fW⟩⟩
      ·grind
      ·refine ⟨h,.inr ⟨aH,?_⟩⟩;obtain ⟨i,t,b2,bZ,e',_⟩:=h.val
       grind
   ·rw [fp,List.mem_append,List.mem_singleton];constructor
    ·grind
    ·rintro ⟨h,aH | aH⟩
     ·grind
     ·obtain ⟨i,t,b2,bZ,e',_⟩:=h.val
      grind
  ·rw [List.take_of_length_le (by omega),hm];obtain ⟨i,t,b2,bZ,e',mB⟩:=h.val
   grind
theorem LD (l:List Row) (ai:l.length<=200) (ah:∀ r∈l,kQ r.hT/\r.hT.length<=1000):Tot ((xB l).bind λx=>(vS x.2).bind λc=>some (x.1,c)) λr=>r.1=l.map (·.Def)/\∃ o,nL (l.map (·.hT)) o/\dv (l.map (·.hT)) o.reverse r.2:=by
 unfold xB;refine .au (Ξ:=λs:List Int × List (List dr)=>s.1=l.map (·.Def)/\s.2=l.map (·.hT)) ?_ λs aw=>?_
 ·refine .au (Ξ:=λs:List Int × List (List dr)=>s.1=l.map (·.Def)/\s.2=l.map (·.hT)) ?_ λs aw=>.ag aw;refine Tot.upto (λs=>s.2.2) l.length (λk s=>s.1=(l.take k).map (·.Def)/\s.2.1=(l.take k).map (·.hT)) rfl (by omega) ⟨rfl,rfl⟩ λk s hk he ba=>?_;obtain ⟨A,B,i⟩:=s;obtain ⟨h1,af⟩:=ba;simp only at he h1 af ⊢;subst he h1 af;rw [ep k (by omega)];refine Tot.bb (λaR=>?_) (λdq=>.ag ?_)
  ·have aR:k<l.length:=by omega
   rw [d_ aR];refine Tot.sm (.au (Ξ:=λ_=>True) (Tot.ap (by simp [lim]; omega) trivial) λ_ _=>Tot.sm (.au (Ξ:=λ_=>True) (Tot.ap (by simp [lim]; omega) trivial) λ_ _=>.ag ⟨aR,rfl,?_,?_⟩))
   ·show _=(l.take (k+1)).map _;rw [kk aR,List.map_append]; rfl
   ·show _=(l.take (k+1)).map _;rw [kk aR,List.map_append]; rfl
  ·have e:l.take k=l:=List.take_of_length_le (by omega);rw [e]; exact ⟨rfl,rfl⟩
 ·obtain ⟨h1,af⟩:=aw;rw [af];have cY:p0 (l.map (·.hT)):=⟨by simp; omega,λr dK=>by
   obtain ⟨q,a6,rfl⟩:=List.mem_map.1 dK;exact (ah q a6).1⟩
  have fc:Dr (l.map (·.hT)):=⟨by simp; omega,λr dK=>by
   obtain ⟨q,a6,rfl⟩:=List.mem_map.1 dK;exact (ah q a6).2⟩
  exact .au (Sf _ fc) λc aa=>.ag ⟨h1,aa.2 cY⟩
structure yv (g:bq) (d:iu) (t:Tables):Prop where
 GZ:t.Def=(d.dw.map uP).map (·.Def)
 gd:t.o8=((List.range g.bO.length).map λa=>uQ (gH d a)).map (·.Def)
 ac:∃ o,nL ((d.dw.map uP).map (·.hT)) o/\dv ((d.dw.map uP).map (·.hT)) o.reverse t.dw
 go:∃ o,nL (((List.range g.bO.length).map λa=>uQ (gH d a)).map (·.hT)) o/\dv (((List.range g.bO.length).map λa=>uQ (gH d a)).map (·.hT)) o.reverse t.gF
 le:t.Left=g.a1.map (·.Left)
 lC:t.o9=g.a1.map λp=>(p.e1.length:Int)
 mm:eX q4 t.hS/\∀ p,p∈t.hS↔sy g.aX p
theorem N9 {rows:List e_}{c jV:gN}(h:∃ o,nL rows o/\dv rows o.reverse c) (aH:∃ o,nL rows o/\dv rows o.reverse jV):c=jV:=by
 obtain ⟨o,h1,af⟩:=h;obtain ⟨ha,mF,Hm⟩:=aH;rw [h1.uniq mF] at af;exact af.AM rfl (λi r cK e b8 p=>by rw [e] at b8; cases b8; exact Iff.rfl) Hm
theorem yv.eq {g:bq}{d:iu}{t t':Tables}(h:yv g d t) (aH:yv g d t'):t=t':=by
 obtain ⟨aB,a2,a3,a4,a5,Q9,Q_⟩:=t;obtain ⟨gZ,hV,kq,yB,Gv,RP,RQ⟩:=t';have b2:aB=gZ:=h.GZ.trans aH.GZ.symm;have bZ:a2=hV:=N9 h.ac aH.ac;have e':a3=kq:=h.gd.trans aH.gd.symm;have mB:a4=yB:=N9 h.go aH.go;have mC:a5=Gv:=h.le.trans aH.le.symm;have acf:Q9=RP:=h.lC.trans aH.lC.symm;have acg:Q_=RQ:=h.mm.1.uniq OE aH.mm.1 λp=>(h.mm.2 p).trans (aH.mm.2 p).symm
 grind
theorem Pc {g:bq}{n:Nat}{d:iu}(aP:rr g n d):∀ r∈d.dw.map uP,kQ r.hT/\r.hT.length<=1000:=λr ah=>by
 have al:=aP.rK.j6;obtain ⟨q,a6,rfl⟩:=List.mem_map.1 ah;have ai:=(aP.lk q a6).1;have:=Ff (q2 (oa (red q))) oD q;exact ⟨OX _ _ (by omega),by show (k_ _ _ q).length<=_; omega⟩
theorem Pd {g:bq}{n:Nat}{d:iu}(aP:rr g n d):∀ r∈(List.range g.bO.length).map (λa=>uQ (gH d a)),kQ r.hT/\r.hT.length<=1000:=λr ah=>by
 have ji:=aP.gL;have pt:=aP.o;obtain ⟨a,_,rfl⟩:=List.mem_map.1 ah;have ai:=DI d a;have:=Ff (r5 (oa (pos (gH d a)))) id (gH d a);exact ⟨OX _ _ (by omega),by show (k_ _ _ (gH d a)).length<=_; omega⟩
theorem AF (g:bq) (n:Nat) (d:iu) (aP:rr g n d):Tot (zy g d) (yv g d):=by
 have aK:=aP.rK;have al:=aK.j6;have kx:=aK.de;have w4:=aK.hb;have ji:=aP.gL;have oG:=aP.a;have pt:=aP.o;unfold zy;refine .au (Se g n d aP) λbc h1=>?_;subst h1;obtain ⟨r,ah,af⟩:=LD _ (by simp; omega) (Pc aP);rw [Option.bind_eq_some_iff] at ah;obtain ⟨y2,wK,ah⟩:=ah;rw [Option.bind_eq_some_iff] at ah;obtain ⟨eW,Tu,ah⟩:=ah;cases ah;rw [wK,Option.bind_some,Tu];refine Tot.sm (.au (Sg g n d aP) λaZ aF=>?_);subst aF;obtain ⟨r,ah,bu⟩:=LD _ (by simp; omega) (Pd aP);rw [Option.bind_eq_some_iff] at ah;obtain ⟨ee,Tv,ah⟩:=ah;rw [Option.bind_eq_some_iff] at ah;obtain ⟨jB,Tw,ah⟩:=ah;cases ah;rw [Tv,Option.bind_some,Tw];refine Tot.sm (.au (Ξ:=λs:List Int × List Int=>s.1=g.a1.map (·.Left)/\s.2=g.a1.map λp=>(p.e1.length:Int)) ?_ λbN dJ=>.au (Sh g (by omega)) λdU jf=>.ag ⟨af.1,bu.1,af.2,bu.2,dJ.1,dJ.2,jf.1,jf.2⟩);refine Tot.upto (λs=>s.2.2) g.a1.length (λk s=>s.1=(g.a1.take k).map (·.Left)/\s.2.1=(g.a1.take k).map λp=>(p.e1.length:Int)) rfl (by omega) ⟨rfl,rfl⟩ λk s vr he ba=>?_;obtain ⟨A,B,i⟩:=s;obtain ⟨h1,af⟩:=ba;simp only at he h1 af ⊢;subst he h1 af;rw [ep k (by omega)];refine Tot.bb (λaR=>?_) (λdq=>.ag ?_)
 ·have aR:k<g.a1.length:=by omega
  rw [d_ aR];refine Tot.sm (.au (Ξ:=λ_=>True) (Tot.ap (by simp [lim]; omega) trivial) λ_ _=>Tot.sm (.au (Ξ:=λ_=>True) (Tot.ap (by simp [lim]; omega) trivial) λ_ _=>.ag ⟨aR,rfl,?_,?_⟩))
  ·show _=(g.a1.take (k+1)).map _;rw [kk aR,List.map_append]; rfl
  ·show _=(g.a1.take (k+1)).map _;rw [kk aR,List.map_append]; rfl
 ·have e:g.a1.take k=g.a1:=List.take_of_length_le (by omega);rw [e]; exact ⟨rfl,rfl⟩
def Du (s:Source) (g:bq):Prop:=(∀ t∈g.aX,t.Tag.size<=1000)/\(∀ t∈g.bO,t.Tag.size<=1000)/\g.b9=s.b9/\g.cg=s.cg
theorem YR (s:Source) (av:pb s):Par (q9 s) λr=>r.2.2.2=true->Du s r.1:=by
 have JN:Par (sc s) λr=>r.2=true->Du s r.1:=by
  unfold sc;exact .au (YS s av) λr ah=>.ag λh=>ah (of_decide_eq_true h)
 have JM:Par (sb s) λr=>r.2.2=true->Du s r.1:=by
  unfold sb;exact .au JN λr ah=>Par.bj (λ_=>.ag λh=>by cases h) (λh=>.au (Ξ:=λ_=>True) (λ_ _=>trivial) λm _=>.ag λ_=>ah (by simpa using h))
 have JL:Par (q_ s) λr=>r.2.2.2=true->Du s r.1:=by
  unfold q_;exact .au JM λr ah=>Par.bj (λ_=>.ag λh=>by cases h) (λh=>.au (Ξ:=λ_=>True) (λ_ _=>trivial) λs8 _=>.au (Ξ:=λ_=>True) (λ_ _=>trivial) λcs _=>.ag λ_=>ah (by simpa using h))
 unfold q9;exact .au JL λr ah=>Par.bj (λ_=>.ag λh=>by cases h) (λh=>.au (Ξ:=λ_=>True) (λ_ _=>trivial) λ_ _=>.au (Ξ:=λ_=>True) (λ_ _=>trivial) λ_ _=>.ag λ_=>ah (by simpa using h))
structure Made (s:Source) (r:bq × Tables × List ByteArray × Bool):Prop where
 g:ga r.1
 k:tx r.1
 x:Ag r.1
 t:∃ n d,rr r.1 n d/\yv r.1 d r.2.1
 l:r.2.2.1.length<=60
 b:∀ t∈r.2.2.1,t.size<=3000000
 xG:r.1.b9=s.b9
 tail:r.1.cg=s.cg
theorem ph (s:Source) (av:pb s):Tot (sa s) λr=>r.2.2.2=true->Made s r:=by
 unfold sa;refine .au (Par.iY (Sb s av) (YR s av)) λbc h1=>Tot.bj (λ_=>.ag λh=>by cases h) (λaS=>?_);have al:bc.2.2.2=true:=by simpa using aS
 obtain ⟨⟨n,hd⟩,hk⟩:=h1.1 al;obtain ⟨t1,t2,t3,t4⟩:=h1.2 al;have j:Ag bc.1:=⟨λp ar=>(hd.rK.fl p ar).code,λp ar=>(hd.rK.fl p ar).args,t1,t2⟩;refine .au (tP bc.1 hd.rK j) λaZ aF=>.au (AF bc.1 n bc.2.1 hd) λbR bu=>.ag λh=>?_;obtain ⟨g1,g2⟩:=aF (of_decide_eq_true h);exact ⟨hd.rK,hk,j,⟨n,bc.2.1,hd,bu⟩,g1,g2,t3,t4⟩
theorem i58 (a:Act):Tot (ta a) i64:=by
 unfold ta;refine .au (Ξ:=λ_=>True) (Tot.bb (λ_=>Tot.bb (λ_=>.ag trivial) (λ_=>.ag trivial)) (λ_=>.ag trivial)) λc _=>Tot.bj (λ_=>.ag (I3 _)) (λ_=>?_);refine .au (Ξ:=λ_=>True) (Tot.bb (λ_=>Tot.bb (λ_=>.ag trivial) (λ_=>.ag trivial)) (λ_=>.ag trivial)) λc _=>Tot.bj (λ_=>.ag (I3 _)) (λ_=>?_);refine .au (Ξ:=λ_=>True) (Tot.bb (λ_=>.ag trivial) (λ_=>.ag trivial)) λc _=>Tot.bj (λ_=>.ag (by unfold i64; decide)) (λ_=>?_);exact .au (Ξ:=λ_=>True) (Tot.bb (λ_=>.ag trivial) (λ_=>.ag trivial)) λc _=>Tot.bj (λ_=>.ag (by unfold i64; decide)) (λ_=>.ag (by unfold i64; decide))
theorem SI (a:Act):i64 (oD a):=by
 obtain ⟨v,hv,h⟩:=i58 a;have:oD a=v:=by unfold oD; rw [hv]; rfl
 rw [this]; exact h
theorem Ox {l:List Int}(h:Ds l):i64 (oa l):=by
 obtain ⟨_,_,aF⟩:=JF h;unfold i64;rcases aF with ⟨_,e⟩ | ⟨hm,_⟩
 ·omega
 ·have:=h.2 _ hm; omega
theorem Step.RV {r:e_}{i b:Nat}{c jV:gN}(h:Step r i c jV b):b<=c.cz.length:=Classical.byContradiction λaA=>h.least c.cz.length (by omega) λp _=>by
 rw [List.getD_eq_getElem?_getD,List.getElem?_eq_none (by omega)]; rfl
theorem dv.aW {rows:List e_}(cY:p0 rows) (hv:∀ r∈rows,∀ p∈r,i64 p.cC) {l:List Nat}{c:gN}(h:dv rows l c) :
  c.cz.length<=1000 * l.length/\(∀ k,i64 (c.cC.getD k 0))/\(∀ k,0<=c.cz.getD k 0/\c.cz.getD k 0<=rows.length)/\∀ x∈c.dA,0<=x/\x<=1000 * l.length:=by
 induction h with
 | nil=>exact ⟨Nat.zero_le _,λk=>by unfold i64; simp,λk=>by simp,λx j=>by rw [List.eq_of_mem_replicate j]; simp⟩
 | @cons i b l c jV r ah hi h aw aL =>
  obtain ⟨h1,af,aF,bu⟩:=aL;have av:=aw.RV;have um:r∈rows:=List.mem_of_getElem? ah;have nn:=(List.getElem?_eq_some_iff.1 ah).1;have ck:=aw.put;refine ⟨?_,λk=>?_,λk=>?_,λx j=>?_⟩
  ·simp only [List.length_cons];rcases ck.hi with e | ⟨p,ar,e⟩
   ·omega
   ·have:=(cY.rows r um).at' p ar; omega
  ·by_cases hk:∃ p∈r,b+p.At.toNat=k
   ·obtain ⟨p,ar,rfl⟩:=hk;rw [ck.val p ar]; exact hv r um p ar
   ·rw [ck.FE k λp ar e=>hk ⟨p,ar,e⟩]; exact af k
  ·by_cases hk:∃ p∈r,b+p.At.toNat=k
   ·obtain ⟨p,ar,rfl⟩:=hk;rw [ck.kU p ar]; omega
   ·rw [ck.DG k λp ar e=>hk ⟨p,ar,e⟩]; exact aF k
  ·rw [aw.base] at j;simp only [List.length_cons];rcases List.mem_or_eq_of_mem_set j with j | j
   ·have:=bu x j; omega
   ·subst j; omega
theorem Mo {l:List Int}{P:Int->Prop}(h:∀ k,P (l.getD k 0)):∀ x∈l,P x:=λx j=>by
 obtain ⟨k,hk,rfl⟩:=List.mem_iff_getElem.1 j;have:=h k
 rwa [List.getD_eq_getElem?_getD,List.getElem?_eq_getElem hk] at this
def Pl (l:List Int):Prop:=l.length<=1000000/\∀ x∈l,i64 x
theorem XS {α:Type} [DecidableEq α]:∀ (l m:List α),l.Nodup->(∀ x∈l,x∈m)->l.length<=m.length:=by
 intro l
 induction l with
 | nil=>intro m _ _; exact Nat.zero_le _
 | cons a l aL =>
  intro m aA aw;rw [List.nodup_cons] at aA;have aQ:=aw a (by simp);have:=aL (m.erase a) aA.2 λx j=>(List.mem_erase_of_ne (λe=>aA.1 (by rw [<- e]; exact j))).2 (aw x (by simp [j]));have ai:=List.length_erase_of_mem aQ;have:0<m.length:=List.length_pos_of_mem aQ;simp only [List.length_cons];omega
theorem LN {rows:List e_}(cY:p0 rows) (hv:∀ r∈rows,∀ p∈r,i64 p.cC) {c:gN}(h:∃ o,nL rows o/\dv rows o.reverse c):Pl c.dA/\Pl c.cC/\Pl c.cz:=by
 obtain ⟨o,aV,gR⟩:=h;have aA:=cY.n;have pt:=aV.len;obtain ⟨h1,af,aF,bu⟩:=gR.aW cY hv;rw [List.length_reverse] at h1 bu;have hlen:=gR.len;refine ⟨⟨by omega,λx j=>?_⟩,⟨by omega,Mo af⟩,⟨by omega,Mo λk=>?_⟩⟩
 ·have:=bu x j; unfold i64; omega
 ·have:=aF k; unfold i64; omega
def mP (t:Tables):List (List Int):=[t.Def,t.dw.dA,t.dw.cC,t.dw.cz,t.o8,t.gF.dA,t.gF.cC,t.gF.cz,t.Left,t.o9,t.hS.map (·.At),t.hS.map (·.cC)]
theorem ZT {g:bq}{n:Nat}{d:iu}{t:Tables}(hd:rr g n d) (cX:yv g d t) (hk:tx g):t.hS.length<=1000/\∀ l∈mP t,Pl l:=by
 have aK:=hd.rK;have al:=aK.j6;have kx:=aK.de;have w4:=aK.hb;have ji:=hd.gL;have oG:=hd.a;have pt:=hd.o;have xv:p0 ((d.dw.map uP).map (·.hT)):=⟨by simp; omega,λr ah=>by
  obtain ⟨q,a6,rfl⟩:=List.mem_map.1 ah;exact (Pc hd q a6).1⟩
 have X8:p0 (((List.range g.bO.length).map λa=>uQ (gH d a)).map (·.hT)):=⟨by simp; omega,λr ah=>by
  obtain ⟨q,a6,rfl⟩:=List.mem_map.1 ah;exact (Pd hd q a6).1⟩
 have GK:=LN xv (λr ah p ar=>by
  obtain ⟨q,a6,rfl⟩:=List.mem_map.1 ah;obtain ⟨gx,_,rfl⟩:=List.mem_map.1 a6;obtain ⟨k,x,_,_,rfl⟩:=Jw.1 ar;exact SI x) cX.ac
 have LL:∀ a,a<g.bO.length->∀ x∈gH d a,-1<=x/\x<n:=λa aQ x j=>by
  unfold gH at j;obtain ⟨r,ah,rfl⟩:=List.mem_map.1 j;obtain ⟨h1,af⟩:=hd.Ci r ah;have ai:a<r.length:=by omega
  rw [List.getD_eq_getElem?_getD,List.getElem?_eq_getElem ai];exact af _ (List.getElem_mem ai)
 have GL:=LN X8 (λr ah p ar=>by
  obtain ⟨q,a6,rfl⟩:=List.mem_map.1 ah;obtain ⟨a,aQ,rfl⟩:=List.mem_map.1 a6;obtain ⟨k,x,j,_,rfl⟩:=Jw.1 ar;have:=LL a (List.mem_range.1 aQ) x (List.mem_of_getElem? j);show i64 x;unfold i64; omega) cX.go
 have Ni:t.hS.length<=40:=by
  have h1:t.hS.Nodup:=cX.mm.1.nd OE;have af:=XS t.hS (g.aX.zipIdx.map λp=>(⟨p.1.bF,(p.2:Int)⟩:dr)) h1 λp ar=>by
   obtain ⟨k,x,j,_,rfl⟩:=(cX.mm.2 p).1 ar;exact List.mem_map.2 ⟨(x,k),List.mem_zipIdx_iff_getElem?.2 j,rfl⟩
  simp at af;omega
 refine ⟨by omega,λl ai=>?_⟩;unfold mP at ai;simp only [List.mem_cons,List.not_mem_nil,or_false] at ai;rcases ai with rfl | rfl | rfl | rfl | rfl | rfl | rfl | rfl | rfl | rfl | rfl | rfl
 ·rw [cX.GZ];refine ⟨by simp; omega,λx j=>?_⟩;obtain ⟨q,a6,rfl⟩:=List.mem_map.1 j;obtain ⟨r,ah,rfl⟩:=List.mem_map.1 a6;obtain ⟨h1,af⟩:=hd.lk r ah;exact Ox (O4 aK h1 af)
 ·exact GK.1
 ·exact GK.2.1
 ·exact GK.2.2
 ·rw [cX.gd];refine ⟨by simp; omega,λx j=>?_⟩;obtain ⟨q,a6,rfl⟩:=List.mem_map.1 j;obtain ⟨a,aQ,rfl⟩:=List.mem_map.1 a6;exact Ox (OW (by unfold gH; simp; omega) λv hv=>by have:=LL a (List.mem_range.1 aQ) v hv; omega)
 ·exact GL.1
 ·exact GL.2.1
 ·exact GL.2.2
 ·rw [cX.le];refine ⟨by simp; omega,λx j=>?_⟩;obtain ⟨p,ar,rfl⟩:=List.mem_map.1 j;have:=(aK.fl p ar).left;unfold i64; omega
 ·rw [cX.lC];refine ⟨by simp; omega,λx j=>?_⟩;obtain ⟨p,ar,rfl⟩:=List.mem_map.1 j;have:=aK.aN p ar;unfold i64; omega
 ·refine ⟨by simp; omega,λx j=>?_⟩;obtain ⟨p,ar,rfl⟩:=List.mem_map.1 j;obtain ⟨k,y,ak,aO,rfl⟩:=(cX.mm.2 p).1 ar;show i64 y.bF;have:y.bF<=100000:=by
   by_cases aF:3<=k
   ·exact (hk.pos k y aF ak).2
   ·have:=hk.aP k y (by omega) ak; omega
  unfold i64; omega
 ·refine ⟨by simp; omega,λx j=>?_⟩;obtain ⟨p,ar,rfl⟩:=List.mem_map.1 j;obtain ⟨k,y,ak,aO,rfl⟩:=(cX.mm.2 p).1 ar;have:=(List.getElem?_eq_some_iff.1 ak).1;show i64 (k:Int);unfold i64; omega
open Go Go.Own Go.Sort Go.Lib
theorem tQ (t:Tables) (h:t.hS.length<=1000000):xz t=some (mP t):=by
 suffices aw:Tot (xz t) λr=>r=mP t by
  obtain ⟨r,ah,e⟩:=aw; rw [ah,e]
 unfold xz;refine .au (Ξ:=λs:List Int × List Int=>s.1=t.hS.map (·.At)/\s.2=t.hS.map (·.cC)) ?_ λs aw=>.ag (by rw [aw.1,aw.2]; rfl);refine Tot.upto (λs=>s.2.2) t.hS.length (λk s=>s.1=(t.hS.take k).map (·.At)/\s.2.1=(t.hS.take k).map (·.cC)) rfl (by omega) ⟨rfl,rfl⟩ λk s hk he ba=>?_;obtain ⟨A,B,i⟩:=s;obtain ⟨h1,af⟩:=ba;simp only at he h1 af ⊢;subst he h1 af;rw [ep k (by omega)];refine Tot.bb (λaR=>?_) (λdq=>.ag ?_)
 ·have aR:k<t.hS.length:=by omega
  rw [d_ aR];refine Tot.sm (.au (Ξ:=λ_=>True) (Tot.ap (by simp [lim]; omega) trivial) λ_ _=>.au (Ξ:=λ_=>True) (Tot.ap (by simp [lim]; omega) trivial) λ_ _=>.ag ⟨aR,rfl,?_,?_⟩)
  ·show _=(t.hS.take (k+1)).map _;rw [kk aR,List.map_append]; rfl
  ·show _=(t.hS.take (k+1)).map _;rw [kk aR,List.map_append]; rfl
 ·have e:t.hS.take k=t.hS:=List.take_of_length_le (by omega);rw [e]; exact ⟨rfl,rfl⟩
def C2 (t:Tok):List UInt8:=bif t.Lit then [] else [99,111,110,115,116,32]++t.Name.data.toList++[32,61,32]++k1 t.bF++[10]
def o2 (l:List Tok):List UInt8:=l.flatMap C2
def rz (p:ByteArray × Nat):List UInt8:=bif decide (p.1=⟨#[]⟩) then [] else [9,99,97,115,101,32]++k1 p.2++[58,10,9,9]++p.1.data.toList++[10]
def p3 (l:List ByteArray):List UInt8:=l.zipIdx.flatMap rz
def ER (p:ByteArray × List Int):List UInt8:=zk p.1 p.2++[10]
def r7 (l:List (ByteArray × List Int)):List UInt8:=l.flatMap ER
def lV:List ByteArray:=(Co).getD []
theorem XV:Co=some lV:=rfl
theorem Cb:lV.length=12:=rfl
theorem XW:∀ x∈lV,x.size<=20:=by
 have:lV.all (λx=>decide (x.size<=20))=true:=by kernel_rfl
 exact λx j=>of_decide_eq_true (List.all_eq_true.1 this x j)
def vm (g:bq):List UInt8:=[47,47,32,67,111,100,101,32,109,97,100,101,32,98,121,32,121,117,99,99,97,32]++k1 g.b9.size++[10]++g.b9.data.toList++[10]
def Ar:List UInt8:=[102,117,110,99,32,121,121,65,99,116,105,111,110,40,112,32,105,110,116,44,32,121,121,68,111,108,108,97,114,32,91,93,121,121,83,121,109,84,121,112,101,44,32,121,121,86,65,76,32,121,121,83,121,109,84,121,112,101,41,32,121,121,83,121,109,84,121,112,101,32,123,10,9,115,119,105,116,99,104,32,112,32,123,10]
def Gm:List UInt8:=[9,125,10,9,114,101,116,117,114,110,32,121,121,86,65,76,10,125,10]
def AP (g:bq):List UInt8:=vm g++o2 (g.aX.drop 3)
def wH (g:bq) (t:Tables):List UInt8:=AP g++r7 (lV.zip (mP t))++Ar
def Ha (g:bq) (t:Tables) (ts:List ByteArray):List UInt8:=wH g t++p3 ts++(Gm++g.cg.data.toList)
theorem P4 (l:List Tok) (x:Tok):o2 (l++[x])=o2 l++C2 x:=by simp [o2]
theorem Rb (l:List ByteArray) (x:ByteArray):p3 (l++[x])=p3 l++rz (x,l.length):=by simp [p3,List.zipIdx_append]
theorem XH (l:List (ByteArray × List Int)) (x:ByteArray × List Int):r7 (l++[x])=r7 l++ER x:=by simp [r7]
structure Ac (g:bq) (t:Tables) (ts:List ByteArray):Prop where
 TL:ga g
 Ms:tx g
 n:t.hS.length<=1000
 l:∀ l∈mP t,Pl l
 Z1:ts.length<=60
 gl:∀ x∈ts,x.size<=3000000
 xG:g.b9.size<=dn
 tail:g.cg.size<=dn
theorem z22:(⟨#[47,47,32,67,111,100,101,32,109,97,100,101,32,98,121,32,121,117,99,99,97,32]⟩:ByteArray).size=22:=rfl
theorem om:(⟨#[10]⟩:ByteArray).size=1:=rfl
theorem eh:(⟨#[99,111,110,115,116,32]⟩:ByteArray).size=6:=rfl
theorem tr:(⟨#[9,99,97,115,101,32]⟩:ByteArray).size=6:=rfl
theorem z3:(⟨#[32,61,32]⟩:ByteArray).size=3:=rfl
theorem z4:(⟨#[58,10,9,9]⟩:ByteArray).size=4:=rfl
theorem z7:(⟨#[9,125,10,9,114,101,116,117,114,110,32,121,121,86,65,76,10,125,10]⟩:ByteArray).size=19:=rfl
theorem Qq:(⟨#[102,117,110,99,32,121,121,65,99,116,105,111,110,40,112,32,105,110,116,44,32,121,121,68,111,108,108,97,114,32,91,93,121,121,83,121,109,84,121,112,101,44,32,121,121,86,65,76,32,121,121,83,121,109,84,121,112,101,41,32,121,121,83,121,109,84,121,112,101,32,123,10,9,115,119,105,116,99,104,32,112,32,123,10]⟩:ByteArray).size=84:=rfl
theorem z0:(⟨#[]⟩:ByteArray).size=0:=rfl
theorem d0:(⟨#[]⟩:ByteArray).data.toList=[]:=rfl
theorem Ac.num {g:bq}{t:Tables}{ts:List ByteArray}(h:Ac g t ts) {k:Nat}(aF:3<=k) (hk:k<g.aX.length):i64 (g.aX[k]).bF:=by
 have:=h.Ms.pos k _ aF (List.getElem?_eq_getElem hk);unfold i64; omega
theorem XG {n:ByteArray}{l:List Int}(aA:n.size<=20) (ai:Pl l):({ data:=(zk n l).toArray }:ByteArray).size<=23000100:=by
 rw [lI];show (zk n l).length<=_;have h1:=NV l 0 ai.2;have af:=ai.1;rw [lI] at aA;unfold zk;have aF:xg.length=4:=rfl;have bu:xh.length=9:=rfl;simp only [List.length_append,List.length_singleton];omega
set_option maxHeartbeats 1000000 in
theorem Sa (g:bq) (t:Tables) (ts:List ByteArray) (h:Ac g t ts):Tot (zx g t ts) λr=>r.data.toList=Ha g t ts/\r.size<=50000000000000:=by
 unfold zx;have Wa:=h.xG;have Ws:=h.tail;have vE:=h.TL.j6;have Nx:=h.Z1;simp only [dn] at Wa Ws;have pi:i64 (g.b9.size:Int):=by unfold i64; omega
 rw [DF _ pi];have ps:=zd pi;refine Tot.sm (.bi (.cat (by rw [z22]; omega) (.bi (.cat (by simp only [f_,z22,om]; omega) (.bi (.cat (by simp only [f_,z22,om]; omega) (.bi (.cat (by simp only [f_,z22,om]; omega) (.au (Ξ:=λb:ByteArray=>b.data.toList=vm g/\b.size<=1000000000100) (.mz (by simp only [f_,z22,om,z0]; omega) ⟨?_,by simp only [f_,z22,om,z0]; omega⟩) λbN dJ=>?_)))))))))
 ·simp only [kT]; rfl
 obtain ⟨d6,da⟩:=dJ
 -- tokens
 refine .au (Ξ:=λb:ByteArray=>b.data.toList=AP g/\b.size<=41000000010000) ?_ λcm mG=>?_
 ·refine Tot.upto (λz=>z.2) g.aX.length (λk z=>z.1.data.toList=vm g++o2 ((g.aX.take k).drop 3)/\z.1.size<=1000000000100+k * 1000000000100) rfl (by omega) ⟨by rw [d6]; simp [o2],da⟩ λk z hk he ba=>?_;obtain ⟨b,i⟩:=z;obtain ⟨h1,af⟩:=ba;simp only at he h1 af ⊢;subst he;rw [ep k (by omega)];refine Tot.bb (λaR=>?_) (λdq=>.ag ?_)
  ·have aR:k<g.aX.length:=by omega
   rw [d_ aR];have fp:=kk aR;have w1:=h.Ms.mm _ (List.getElem_mem aR);have Ni:3<=k->i64 (g.aX[k]).bF:=λaF=>h.num aF aR;generalize g.aX[k]=tk at *;simp only [dn] at w1;refine .au (Ξ:=λdV:ByteArray=>dV.data.toList=vm g++o2 ((g.aX.take (k+1)).drop 3)/\dV.size<=1000000000100+(k+1) * 1000000000100) (Tot.sm ?_) λdV h9=>.ag ⟨aR,rfl,h9⟩;have D_:3<=k->(g.aX.take (k+1)).drop 3=(g.aX.take k).drop 3++[tk]:=λaF=>by
    rw [fp,List.drop_append_of_le_length (by simp; omega)]
   have Bh:¬ 3<=k->(g.aX.take (k+1)).drop 3=(g.aX.take k).drop 3:=λaF=>by
    rw [List.drop_eq_nil_of_le (by simp; omega),List.drop_eq_nil_of_le (by simp; omega)]
   refine .au (Ξ:=λc=>c=(decide (3<=k)&&!tk.Lit)) (Tot.bb (λa=>.ag (by simp; omega)) (λa=>.ag (by simp; omega))) λc aa=>?_;refine .au (Ξ:=λdV:ByteArray=>dV.data.toList=vm g++o2 ((g.aX.take (k+1)).drop 3)/\dV.size<=1000000000100+(k+1) * 1000000000100) ?_ λdV h9=>.ag h9;refine Tot.bj (λVo=>?_) (λH5=>.ag ?_)
   ·rw [Vo] at aa;have aa:=aa.symm;rw [Bool.and_eq_true,decide_eq_true_eq,Bool.not_eq_true'] at aa;obtain ⟨aF,n0⟩:=aa;have hi:=Ni aF;have eF:=zd hi;rw [DF _ hi];refine .bi (.cat (by rw [eh]; omega) (.bi (.cat (by simp only [f_,eh,z3]; omega) (Tot.sm (.bi (.cat (by simp only [f_,eh,z3]; omega) (.bi (.cat (by simp only [f_,eh,z3,om]; omega) (.bi (.mz (by simp only [f_,eh,z3,om]; omega) (.ag ⟨?_,by simp only [f_,eh,z3,om]; omega⟩)))))))))));rw [D_ aF,P4,kT,h1];simp only [kT,C2,n0,cond_false];simp only [List.append_assoc]
   ·rw [H5] at aa;refine ⟨?_,by show b.size<=1000000000100+(k+1) * 1000000000100; rw [Nat.add_mul]; exact Nat.le_trans af (Nat.add_le_add_left (Nat.le_add_right _ _) _)⟩;by_cases aF:3<=k
    ·have n0:tk.Lit=true:=by
      cases gR:tk.Lit with
      | true=>rfl
      | false=>rw [gR,decide_eq_true aF] at aa; cases aa
     rw [D_ aF,P4,h1];simp [C2,n0]
    ·rw [Bh aF,h1]
  ·have e:g.aX.take k=g.aX:=List.take_of_length_le (by omega);rw [e] at h1;exact ⟨h1,by omega⟩
 obtain ⟨d8,eV⟩:=mG;rw [tQ t (by have:=h.n; omega),XV];refine Tot.sm (Tot.sm ?_);have aT:(lV.zip (mP t)).length=12:=by rw [List.length_zip,Cb]; rfl
 -- lists
 refine .au (Ξ:=λb:ByteArray=>b.data.toList=AP g++r7 (lV.zip (mP t))/\b.size<=41000300010000) ?_ λhM oF=>?_
 ·refine Tot.upto (λz=>z.2) lV.length (λk z=>z.1.data.toList=AP g++r7 ((lV.zip (mP t)).take k)/\z.1.size<=41000000010000+k * 23000200) rfl (by rw [Cb]; decide) ⟨by rw [d8]; simp [r7],by simpa using eV⟩ λk z hk he ba=>?_;obtain ⟨b,i⟩:=z;obtain ⟨h1,af⟩:=ba;simp only at he h1 af ⊢;subst he;rw [Cb] at hk;rw [ep k (by omega)];refine Tot.bb (λaR=>?_) (λdq=>.ag ?_)
  ·have aR:k<lV.length:=by omega
   have Nf:k<12:=by rw [<- Cb]; exact aR
   have qf:k<(mP t).length:=Nf;have VW:k<(lV.zip (mP t)).length:=by rw [aT]; exact Nf
   have fp:=kk VW;rw [List.getElem_zip] at fp;rw [d_ aR,d_ qf];have aA:=XW _ (List.getElem_mem aR);have ai:=h.l _ (List.getElem_mem qf);generalize lV[k]=mm at *;generalize (mP t)[k]=ls at *;refine Tot.sm (Tot.sm ?_);rw [R9 mm ls (by omega) (by have:=ai.1; omega) ai.2];have aw:=XG aA ai;refine Tot.sm (.bi (.cat (by rw [om]; omega) (.bi (.mz (by simp only [f_,om]; omega) (.ag ⟨aR,rfl,?_,?_⟩)))))
   ·show (b++_).data.toList=_;rw [fp,XH,kT,h1,kT];simp only [ER,List.append_assoc]
   ·show (b++_).size<=_;simp only [f_,om]; omega
  ·have e:(lV.zip (mP t)).take k=lV.zip (mP t):=List.take_of_length_le (by rw [aT]; rw [Cb] at dq; omega);rw [e] at h1;exact ⟨h1,by omega⟩
 obtain ⟨d26,og⟩:=oF;refine .au (Ξ:=λb:ByteArray=>b.data.toList=wH g t/\b.size<=41000300020000) (.mz (by rw [Qq]; omega) ⟨by rw [kT,d26]; rfl,by rw [f_,Qq]; omega⟩) λh3 l_=>?_;obtain ⟨d34,gk⟩:=l_
 -- actions
 refine .au (Ξ:=λb:ByteArray=>b.data.toList=wH g t++p3 ts/\b.size<=41001000000000) ?_ λkl sJ=>?_
 ·refine Tot.upto (λz=>z.2) ts.length (λk z=>z.1.data.toList=wH g t++p3 (ts.take k)/\z.1.size<=41000300020000+k * 3000100) rfl (by omega) ⟨by rw [d34]; simp [p3],by simpa using gk⟩ λk z hk he ba=>?_;obtain ⟨b,i⟩:=z;obtain ⟨h1,af⟩:=ba;simp only at he h1 af ⊢;subst he;rw [ep k (by omega)];refine Tot.bb (λaR=>?_) (λdq=>.ag ?_)
  ·have aR:k<ts.length:=by omega
   rw [d_ aR];have fp:=kk aR;have hlen:(ts.take k).length=k:=by simp; omega
   have av:=h.gl _ (List.getElem_mem aR);generalize ts[k]=x at *;have qq:i64 (k:Int):=by unfold i64; omega
   have eF:=zd qq;refine .au (Ξ:=λdV:ByteArray=>dV.data.toList=wH g t++p3 (ts.take (k+1))/\dV.size<=41000300020000+(k+1) * 3000100) (Tot.sm (.au (Ξ:=λdV:ByteArray=>dV.data.toList=wH g t++p3 (ts.take (k+1))/\dV.size<=41000300020000+(k+1) * 3000100) ?_ λdV h9=>.ag h9)) λdV h9=>.ag ⟨aR,rfl,h9⟩;rw [fp,Rb,hlen];refine Tot.iz (λcy=>?_) (λhe=>.ag ⟨?_,by show b.size<=41000300020000+(k+1) * 3000100; rw [Nat.add_mul]; exact Nat.le_trans af (Nat.add_le_add_left (Nat.le_add_right _ _) _)⟩)
   ·rw [DF _ qq];refine Tot.sm (.bi (.cat (by rw [tr]; omega) (.bi (.cat (by simp only [f_,tr,z4]; omega) (.bi (.cat (by simp only [f_,tr,z4]; omega) (.bi (.cat (by simp only [f_,tr,z4,om]; omega) (.bi (.mz (by simp only [f_,tr,z4,om]; omega) (.ag ⟨?_,by simp only [f_,tr,z4,om]; omega⟩)))))))))));simp only [kT,h1,rz,decide_eq_false cy,cond_false,List.append_assoc]
   ·simp only [h1,rz,decide_eq_true he,cond_true,List.append_nil]
  ·have e:ts.take k=ts:=List.take_of_length_le (by omega);rw [e] at h1;exact ⟨h1,by omega⟩
 obtain ⟨d36,ady⟩:=sJ;refine .bi (.cat (by rw [z7]; omega) (.bi (.mz (by rw [f_,z7]; omega) ?_)));have cy:¬ (kl++(⟨#[9,125,10,9,114,101,116,117,114,110,32,121,121,86,65,76,10,125,10]⟩++g.cg)).size=0:=by rw [f_,f_,z7]; omega
 refine .bi ⟨_,by unfold wz; rw [if_neg cy],.ag ⟨?_,by rw [f_,f_,z7]; omega⟩⟩;rw [kT,kT,d36]; rfl
abbrev ek (g:bq) (p t:ByteArray):bq:=⟨g.aX,g.bO,g.a1,p,t⟩
variable (g:bq) (p t:ByteArray)
def Rlt {α β:Type}(P:α->β->Prop) (x:Option α) (y:Option β):Prop:=∀ r,x=some r->∃ cK,y=some cK/\P r cK
namespace Rlt
variable {α β qH tt:Type}{P:α->β->Prop}{Q:qH->tt->Prop}
theorem bi {x:Option qH}{f:qH->Option α}{eE:qH->Option β}(h:∀ y,Rlt P (f y) (eE y)):Rlt P (x.bind f) (x.bind eE):=by
 intro r ah;obtain ⟨y,ak,ah⟩:=oA ah;obtain ⟨cK,h1,af⟩:=h y r ah;exact ⟨cK,by rw [ak]; exact h1,af⟩
theorem au {x:Option qH}{x':Option tt}{f:qH->Option α}{eE:tt->Option β}(h:Rlt Q x x') (hk:∀ y y',Q y y'->Rlt P (f y) (eE y')):Rlt P (x.bind f) (x'.bind eE):=by
 intro r ah;obtain ⟨y,ak,ah⟩:=oA ah;obtain ⟨y',nw,dy⟩:=h y ak;obtain ⟨cK,h1,af⟩:=hk y y' dy r ah;exact ⟨cK,by rw [nw]; exact h1,af⟩
theorem bj {c:Bool}{a b:Option α}{b0 dV:Option β}(al:c=true->Rlt P a b0) (aS:c=false->Rlt P b dV):Rlt P (cond c a b) (cond c b0 dV):=by
 cases c
 ·exact aS rfl
 ·exact al rfl
theorem ag {a:α}{b:β}(h:P a b):Rlt P (some a) (some b):=λr e=>by cases e; exact ⟨b,rfl,h⟩
end Rlt
section
variable (s:Source) (p t:ByteArray)
end
theorem Made.Tn {s:Source}{r:bq × Tables × List ByteArray × Bool}(h:Made s r) (av:pb s) (al:s.cg.size<=dn):Ac r.1 r.2.1 r.2.2.1:=by
 obtain ⟨n,d,hd,cX⟩:=h.t;obtain ⟨h1,af⟩:=ZT hd cX h.k;exact ⟨h.g,h.k,h1,af,h.l,h.b,by rw [h.xG]; exact av.xG,by rw [h.tail]; exact al⟩
theorem Xt:k1 0=[48]:=by
 have h1:=mZ 0 ⟨by decide,by decide⟩;have af:k9 0=some ⟨#[48]⟩:=by kernel_rfl
 rw [af] at h1;have aF:=congrArg (λb:ByteArray=>b.data.toList) (Option.some.inj h1);exact aF.symm
def mid (g:bq) (t:Tables) (ts:List ByteArray):List UInt8:=o2 (g.aX.drop 3)++r7 (lV.zip (mP t))++Ar++p3 ts++Gm
theorem To (g:bq) (t:Tables) (ts:List ByteArray):Ha g t ts=vm g++(mid g t ts++g.cg.data.toList):=by
 simp only [Ha,wH,AP,mid,List.append_assoc]
def MY:ByteArray:=⟨#[47,47,32,67,111,100,101,32,109,97,100,101,32,98,121,32,121,117,99,99,97,32,48,10,10]⟩
theorem Vq {g:bq}(h:g.b9=⟨#[]⟩):vm g=MY.data.toList:=by
 unfold vm;rw [h,show (((⟨#[]⟩:ByteArray).size:Nat):Int)=0 from rfl,Xt]
 rfl
open Go Go.Own Go.Sort Go.Lib
set_option maxRecDepth 100000
set_option linter.unusedVariables false
def nT (bn:List Bool):List Decl:=bif decide (0<((dB kI 0 bn).length:Int)) then [AL bn] else []
theorem AO (bn:List Bool):(bn=[]/\nT bn=[])\/(bn≠[]/\nT bn=[AL bn]):=by
 unfold nT;rcases bn with _ | ⟨b,bn⟩
 ·exact .inl ⟨rfl,rfl⟩
 ·refine .inr ⟨by simp,?_⟩;rw [decide_eq_true (by rw [lq,List.length_cons]; omega)]; rfl
theorem Qd {bn:List Bool}{A:List Alt}{Tl:Nat->List Tok}{Gl:Nat->List Bool}{Pl:Nat->List Prod}(av:bn.length<=20) (vg:A≠[]) (Hp:A.length<=1000) (wO:∀ a∈A,Par (qw a) λr=>r=true)
  (D6:Tl 0=[]) (AZ:Gl 0=[]) (Ux:Pl 0=[sx])
  (oG:∀ (J:Nat) (a:Alt),A[J]?=some a->∀ m,fV m ((iy++dB tk 0 bn)++Tl J) (([false,false,false]++bn)++Gl J) [dY] (Pl J)->Par (ob m dY a) λbd=>fV bd ((iy++dB tk 0 bn)++Tl (J+1)) (([false,false,false]++bn)++Gl (J+1)) [dY] (Pl (J+1)))
  (Bj:(Gl A.length).length=(Tl A.length).length) (TR:(Tl A.length).length<=10) (My:(Pl A.length).length<=60) (mG:∀ p∈Pl A.length,p.e1.length<=8) :
  Par (oc ⟨dE,nT bn,[⟨dY,A,0⟩],dE⟩) λr=>r.2.1=0/\r.1.aX=iy++k5 57346 (dB tk 0 bn++Tl A.length) (bn++Gl A.length)/\r.1.a1=Pl A.length/\r.1.bO=l6:=by
 have Jj:iy.length=3:=rfl;have sO:((nT bn).flatMap (·.ev)).length=bn.length:=by
  rcases AO bn with ⟨rfl,h⟩ | ⟨_,h⟩
  ·rw [h]; rfl
  ·rw [h]; simp [lq]
 have aP:∀ d∈nT bn,bn≠[]/\d=AL bn:=by
  intro d aP;rcases AO bn with ⟨_,h⟩ | ⟨aO,h⟩
  ·rw [h] at aP; cases aP
  ·rw [h] at aP; exact ⟨aO,List.mem_singleton.1 aP⟩
 refine (Yq (ds:=nT bn) (A:=A) (Td:=λJ=>iy++dB tk 0 (bn.take J)) (Gd:=λJ=>[false,false,false]++bn.take J) (Ta:=λJ=>(iy++dB tk 0 bn)++Tl J) (Ga:=λJ=>([false,false,false]++bn)++Gl J) (Pa:=Pl)
  ?_ (λd h=>by rw [(aP d h).2]) (λd h=>by obtain ⟨aO,rfl⟩:=aP d h; exact Z9 aO av) vg Hp (λd h=>by rw [(aP d h).2]; show (dB kI 0 bn).length<=1000; rw [lq]; omega) wO rfl rfl ?_ ?_ ?_ Ux ?_ oG ?_ ?_ My mG).use λr ah=>?_
 ·rcases AO bn with ⟨_,h⟩ | ⟨_,h⟩
  ·exact .inl h
  ·exact .inr ⟨_,h⟩
 ·intro d h J x j m hm;obtain ⟨aO,rfl⟩:=aP d h;have j:(dB kI 0 bn)[J]?=some x:=j;rw [DT] at j;obtain ⟨b,aj,rfl⟩:=Option.map_eq_some_iff.1 j;rw [Nat.zero_add];exact Z6 av aj m hm
 ·show (iy++dB tk 0 bn)++Tl 0=iy++dB tk 0 (bn.take _);rw [D6,sO,List.take_length,List.append_nil]
 ·show ([false,false,false]++bn)++Gl 0=[false,false,false]++bn.take _;rw [AZ,sO,List.take_length,List.append_nil]
 ·intro t al e;have al:t∈(iy++dB tk 0 bn)++Tl 0:=al;rw [D6,List.append_nil] at al;rcases List.mem_append.1 al with al | al
  ·exfalso;simp only [iy,List.mem_cons,List.not_mem_nil,or_false] at al;rcases al with rfl | rfl | rfl <;> exact absurd e (by decide)
  ·obtain ⟨k,b,hk,_,rfl⟩:=p_ al;exact Jy (by omega) b e
 ·show (([false,false,false]++bn)++Gl A.length).length=((iy++dB tk 0 bn)++Tl A.length).length;simp only [List.length_append,lq,Bj]; rfl
 ·show 3<=((iy++dB tk 0 bn)++Tl A.length).length/\((iy++dB tk 0 bn)++Tl A.length).length<=40;simp only [List.length_append,lq,Jj]; omega
 ·obtain ⟨h1,af,aF,bu⟩:=ah;refine ⟨h1,?_,aF,bu⟩;rw [af];rfl
theorem aae {bn cs:List Bool}(av:bn.length<=20) (aa:cs.length<=9) (aO:cs≠[]) :
  Par (oc ⟨dE,nT bn,[⟨dY,dB alt 0 cs,0⟩],dE⟩) λr=>r.2.1=0/\r.1.aX=iy++k5 57346 (dB tk 0 bn++dB my 0 cs) (bn++cs.map λ_=>true)/\r.1.a1=sx::dB (tb bn.length) 0 cs/\r.1.bO=l6:=by
 have Jj:iy.length=3:=rfl;refine (Qd (Tl:=λJ=>dB my 0 (cs.take J)) (Gl:=λJ=>(cs.take J).map λ_=>true) (Pl:=λJ=>sx::dB (tb bn.length) 0 (cs.take J)) av (λe=>aO (List.eq_nil_of_length_eq_zero (by rw [<- lq alt cs 0,e]; rfl))) (by rw [lq]; omega) (λa aQ=>?_) rfl rfl rfl ?_ ?_ ?_ ?_ ?_).use λr ah=>?_
 ·obtain ⟨k,c,hk,_,rfl⟩:=p_ aQ;intro r e;rw [(n8 (by omega) c).2.1] at e;cases e; rfl
 ·intro J a aQ m hm;rw [DT] at aQ;obtain ⟨c,aj,rfl⟩:=Option.map_eq_some_iff.1 aQ;have eN:=(List.getElem?_eq_some_iff.1 aj).1;rw [Nat.zero_add];have b2:0+(cs.take J).length=J:=by rw [List.length_take]; omega
  have ai:((iy++dB tk 0 bn)++dB my 0 (cs.take J)).length=3+bn.length+J:=by
   simp only [List.length_append,lq,Jj,List.length_take]; omega
  refine (Z7 J c hm (by omega) (by omega) (λt al=>?_) (λt al=>?_)).use λbd h=>?_
  ·rcases List.mem_append.1 al with al | al
   ·rcases List.mem_append.1 al with al | al
    ·exact (n6 (by omega)).1 t al
    ·obtain ⟨k,b,hk,_,rfl⟩:=p_ al;exact Ob (by omega) (by omega) b
   ·obtain ⟨k,b,hk,_,rfl⟩:=p_ al;rw [List.length_take] at hk;exact XR (by omega) (by omega) (by omega)
  ·rcases List.mem_append.1 al with al | al
   ·rcases List.mem_append.1 al with al | al
    ·have:=K8 t al; omega
    ·obtain ⟨k,b,hk,_,rfl⟩:=p_ al;rcases P2 (0+k) b with e | ⟨_,e⟩ <;> omega
   ·obtain ⟨k,b,hk,_,rfl⟩:=p_ al;rw [List.length_take] at hk;show (65+((0+k:Nat):Int))≠_;omega
  ·rw [ai] at h;rw [P0 aj,DS,DS,List.map_append,b2,<- List.append_assoc,<- List.append_assoc];exact h
 ·show ((cs.take _).map λ_=>true).length=(dB my 0 (cs.take _)).length;simp only [List.length_map,lq]
 ·show (dB my 0 (cs.take _)).length<=10;rw [lq,List.length_take]; omega
 ·show (sx::dB (tb bn.length) 0 (cs.take _)).length<=60;rw [List.length_cons,lq,List.length_take]; omega
 ·intro p ar;rcases List.mem_cons.1 ar with rfl | ar
  ·decide
  ·obtain ⟨k,c,_,_,rfl⟩:=p_ ar;show 1<=8;decide
 ·obtain ⟨h1,af,aF,bu⟩:=ah;have e:cs.take (dB alt 0 cs).length=cs:=by rw [lq,List.take_length]
  simp only [e] at af aF;exact ⟨h1,af,aF,bu⟩
abbrev yo:List Prod:=[sx,⟨1,[],-1,dE,[],0⟩]
theorem aaf {bn:List Bool}(av:bn.length<=20) :
  Par (oc ⟨dE,nT bn,[⟨dY,[tI],0⟩],dE⟩) λr=>r.2.1=0/\r.1.aX=iy++k5 57346 (dB tk 0 bn) bn/\r.1.a1=yo/\r.1.bO=l6:=by
 refine (Qd (A:=[tI]) (Tl:=λ_=>[]) (Gl:=λ_=>[]) (Pl:=λJ=>match J with | 0=>[sx] | _=>yo) av (by simp) (by decide) (λa aQ=>?_) rfl rfl rfl ?_ rfl (by decide) (by decide) ?_).use λr ah=>?_
 ·rw [List.mem_singleton.1 aQ];intro r e;have:qw tI=some true:=by kernel_rfl
  rw [this] at e;cases e; rfl
 ·intro J a aQ m hm;rcases J with _ | J
  ·cases aQ;exact Z8 hm
  ·cases aQ
 ·intro p ar;have ar:p∈yo:=ar;simp only [yo,List.mem_cons,List.not_mem_nil,or_false] at ar;rcases ar with rfl | rfl <;> decide
 ·obtain ⟨h1,af,aF,bu⟩:=ah;refine ⟨h1,?_,aF,bu⟩;simpa using af
def vf (d:Nat) (P:List Prod):bq:=⟨List.replicate d ⟨dE,false,0,0,0,dE⟩,l6,P,dE,dE⟩
theorem a67 (g:bq) (d:Nat) (cX:g.aX.length=d) (a7:g.bO=l6):sd g=sd (vf d g.a1):=by
 have T3:vT g=vT (vf d g.a1):=by
  unfold vT;rw [cX,a7,show (vf d g.a1).aX.length=d by simp [vf]]; rfl
 have Ho:∀ x,uK g x=uK (vf d g.a1) x:=by intro x; kernel_rfl
 have T4:∀ x,uL g x=uL (vf d g.a1) x:=by intro x; kernel_rfl
 have T5:∀ x y,xE g x y=xE (vf d g.a1) x y:=by intro x y; kernel_rfl
 unfold sd;simp only [T3,Ho,T4,T5]
def fb (n:Nat) (P:List Prod):Bool:=match sd (vf n P) with | some r=>decide (r.2=0) | none=>false
theorem Tt:((List.range 21).all λn=>fb (3+n) yo)=true:=by kernel_rfl
open Go Go.Own
theorem Ts (cs:List Bool) (h:cs.length<=9):((List.range 21).all λn=>fb (3+n+cs.length) (sx::dB (tb n) 0 cs))=true:=by
 rcases cs with _ | ⟨a,_ | ⟨b,_ | ⟨c,_ | ⟨d,_ | ⟨e,_ | ⟨f,_ | ⟨g,_ | ⟨i,_ | ⟨J,_ | ⟨k,l⟩⟩⟩⟩⟩⟩⟩⟩⟩⟩
 iterate 10 kernel_rfl
 simp only [List.length_cons] at h; omega
theorem aad (g:bq) (d:Nat) (P:List Prod) (cX:g.aX.length=d) (a7:g.bO=l6) (ck:g.a1=P) (nk:fb d P=true):Par (sd g) λr=>r.2=0:=by
 intro r e;rw [a67 g d cX a7,ck] at e;unfold fb at nk;rw [e] at nk;exact of_decide_eq_true nk
abbrev Qp:ByteArray:=⟨#[123,121,121,86,65,76,125]⟩
def aWq (p:Prod):ByteArray:=bif decide (p.Code=dE) then dE else Qp
def Dq (p:Prod):Prop:=p.Code=dE\/(p.Code=sD/\p.Left=1)
theorem Tg (g:bq) (k:Nat) (p:Prod) (hk:g.a1[k]?=some p) (ar:Dq p) (a7:g.bO=l6):xA g (k:Int)=some (aWq p,0,dE):=by
 have ai:=(List.getElem?_eq_some_iff.1 hk).1;have hi:idx g.a1 (k:Int)=some p:=by unfold idx; rw [if_pos (by omega),Int.toNat_natCast]; exact hk
 unfold xA;rw [decide_eq_false (show ¬ ((k:Int)<0) by omega),decide_eq_false (show ¬ ((g.a1.length:Int)<=k) by omega),hi];simp only [cond_false,Option.bind_some];rcases ar with h | ⟨h,gR⟩
 ·unfold aWq; rw [h]; rfl
 ·rw [a7];obtain ⟨left,right,prec,code,args,at_⟩:=p;simp only at h gR;subst h gR;change (_:Option (ByteArray × Int × ByteArray))=_
  kernel_rfl
theorem Z' (g:bq) (a7:g.bO=l6) (ai:g.a1.length<=100) (ck:∀ p∈g.a1,Dq p):Par (xy g) λr=>r.2.1=0/\r.1=g.a1.map aWq:=by
 unfold xy;refine .au (Ξ:=ft (λl=>l=g.a1.map aWq) (λ_=>False)) ?_ λr ah=>?_
 ·refine Par.loop (λs=>∃ k:Nat,s.2=(k:Int)/\k<=g.a1.length/\s.1=(g.a1.take k).map aWq) ⟨0,rfl,Nat.zero_le _,rfl⟩ λs aw=>?_;obtain ⟨l,i⟩:=s;obtain ⟨k,hi,hk,pr⟩:=aw;simp only at hi pr ⊢;subst hi pr;refine Par.bb (λaR=>?_) (λdq=>.ag ?_)
  ·have aR:k<g.a1.length:=by omega
   have gQ:decide ((0:Int)=0)=true:=rfl;rw [Tg g k _ (List.getElem?_eq_getElem aR) (ck _ (List.getElem_mem aR)) a7,Option.bind_some];dsimp only;rw [gQ];simp only [Bool.not_true,cond_false];refine Par.ap λ_=>.ag ⟨k+1,ep k (by omega),by omega,?_⟩;show (g.a1.take k).map aWq++[_]=(g.a1.take (k+1)).map aWq;have:g.a1.take (k+1)=g.a1.take k++[g.a1[k]]:=by rw [List.take_add_one,List.getElem?_eq_getElem aR]; rfl
   rw [this,List.map_append]; rfl
  ·have:k=g.a1.length:=by omega
   subst this;show (g.a1.take _).map aWq=_;rw [List.take_length]
 ·rcases r with r | r
  ·exact .ag ⟨rfl,ah⟩
  ·exact ah.elim
theorem P' {s:Source}{T:List Tok}{P:List Prod}(T2:Par (oc s) λr=>r.2.1=0/\r.1.aX=T/\r.1.a1=P/\r.1.bO=l6) (nk:fb T.length P=true) (ck:∀ p∈P,Dq p) (ai:P.length<=100) :
  Par (sa s) λr=>r.2.2.2=true/\r.1.aX=T/\r.2.2.1=P.map aWq:=by
 have Yo:Par (sc s) λr=>r.2=true/\r.1.aX=T/\r.1.a1=P/\r.1.bO=l6:=by
  unfold sc;exact .au T2 λr ah=>.ag ⟨decide_eq_true ah.1,ah.2⟩
 have Yn:Par (sb s) λr=>r.2.2=true/\r.1.aX=T/\r.1.a1=P/\r.1.bO=l6:=by
  unfold sb;refine .au Yo λr ah=>Par.bj (λh=>by rw [ah.1] at h; cases h) (λ_=>?_);exact .au (aad r.1 T.length P (by rw [ah.2.1]) ah.2.2.2 ah.2.2.1 nk) λm hm=>.ag ⟨decide_eq_true hm,ah.2⟩
 have Ym:Par (q_ s) λr=>r.2.2.2=true/\r.1.aX=T/\r.1.a1=P/\r.1.bO=l6:=by
  unfold q_;exact .au Yn λr ah=>Par.bj (λh=>by rw [ah.1] at h; cases h) (λ_=>.au (Ξ:=λ_=>True) (λ_ _=>trivial) λ_ _=>.au (Ξ:=λ_=>True) (λ_ _=>trivial) λ_ _=>.ag ⟨rfl,ah.2⟩)
 have Yl:Par (q9 s) λr=>r.2.2.2=true/\r.1.aX=T/\r.1.a1=P/\r.1.bO=l6:=by
  unfold q9;exact .au Ym λr ah=>Par.bj (λh=>by rw [ah.1] at h; cases h) (λ_=>.au (Ξ:=λ_=>True) (λ_ _=>trivial) λ_ _=>.au (Ξ:=λ_=>True) (λ_ _=>trivial) λ_ _=>.ag ⟨rfl,ah.2⟩)
 unfold sa;refine .au Yl λr ah=>Par.bj (λh=>by rw [ah.1] at h; cases h) (λ_=>?_);obtain ⟨_,h1,af,aF⟩:=ah;refine .au (Z' r.1 aF (by rw [af]; exact ai) (by rw [af]; exact ck)) λl gR=>.au (Ξ:=λ_=>True) (λ_ _=>trivial) λ_ _=>.ag ⟨decide_eq_true gR.1,h1,?_⟩;rw [<- af]; exact gR.2
def rG:Int->Nat->List Bool->List UInt8
 | _,_,[]=>[]
 | eu,i,b::bn=>bif b then rG eu (i+1) bn else [99,111,110,115,116,32]++(gl i).data.toList++[32,61,32]++k1 eu++[10]++rG (eu+1) (i+1) bn
def p4:Nat->List Bool->List UInt8
 | _,[]=>[]
 | J,c::cs=>(bif c then [9,99,97,115,101,32]++k1 ((J+1:Nat):Int)++[58,10,9,9,123,121,121,86,65,76,125,10] else [])++p4 (J+1) cs
theorem P3:∀ (cs:List Bool) (J:Nat) (eu:Int),o2 (k5 eu (dB my J cs) (cs.map λ_=>true))=[]
 | [],_,_=>rfl
 | c::cs,J,eu=>by
  show C2 (my J c)++o2 (k5 eu (dB my (J+1) cs) (cs.map λ_=>true))=[];rw [P3 cs]; rfl
theorem FC:∀ (bn:List Bool) (i:Nat) (eu:Int) (cs:List Bool),o2 (k5 eu (dB tk i bn++dB my 0 cs) (bn++cs.map λ_=>true))=rG eu i bn
 | [],_,eu,cs=>P3 cs 0 eu
 | true::bn,i,eu,cs=>FC bn (i+1) eu cs
 | false::bn,i,eu,cs=>by
  show ([99,111,110,115,116,32]++(gl i).data.toList++[32,61,32]++k1 eu++[10])++o2 (k5 (eu+1) (dB tk (i+1) bn++dB my 0 cs) (bn++cs.map λ_=>true))=_;rw [FC bn]; rfl
theorem Gk (n:Nat):∀ (cs:List Bool) (J:Nat),(((dB (tb n) J cs).map aWq).zipIdx (J+1)).flatMap rz=p4 J cs
 | [],_=>rfl
 | true::cs,J=>by
  show rz (Qp,J+1)++(((dB (tb n) (J+1) cs).map aWq).zipIdx (J+1+1)).flatMap rz=_;rw [Gk n cs];show _++_=([9,99,97,115,101,32]++k1 ((J+1:Nat):Int)++[58,10,9,9,123,121,121,86,65,76,125,10])++_;congr 1;show [9,99,97,115,101,32]++k1 ((J+1:Nat):Int)++[58,10,9,9]++[123,121,121,86,65,76,125]++[10]=_;simp only [List.append_assoc]; rfl
 | false::cs,J=>by
  show rz (dE,J+1)++(((dB (tb n) (J+1) cs).map aWq).zipIdx (J+1+1)).flatMap rz=_;rw [Gk n cs]; rfl
theorem Re (n:Nat) (cs:List Bool):p3 ((sx::dB (tb n) 0 cs).map aWq)=p4 0 cs:=by
 show rz (dE,0)++(((dB (tb n) 0 cs).map aWq).zipIdx (0+1)).flatMap rz=_;rw [Gk]; rfl
theorem YL (n:Nat) (cs:List Bool):∀ p∈sx::dB (tb n) 0 cs,Dq p:=by
 intro p ar;rcases List.mem_cons.1 ar with rfl | ar
 ·exact .inl rfl
 ·obtain ⟨k,c,_,_,rfl⟩:=p_ ar;cases c
  ·exact .inl rfl
  ·exact .inr ⟨rfl,rfl⟩
theorem LZ {α:Type}{l:List α}{k:Nat}{b:α}(h:l[k]?=some b):l.drop k=b::l.drop (k+1):=by
 obtain ⟨hk,e⟩:=List.getElem?_eq_some_iff.1 h;rw [List.drop_eq_getElem_cons hk,e]
theorem ZV {i:Nat}(hi:i<20):(dg i).size<=4/\k9 (i:Int)=some (dg i):=by
 refine ⟨?_,(n7 hi).2.2⟩;have h:(gl i).size<=5:=(n8 hi false).2.2.1;unfold gl at h;rw [f_] at h;have:(⟨#[116]⟩:ByteArray).size=1:=rfl;omega
theorem EU (a0:List Bool):Tot (b6 (R:=List Sym × ByteArray) (λ(cb:List Sym × ByteArray × Int × Int) =>
((bif decide (cb.2.2.2<(a0.length:Int)) then some (decide (cb.2.2.2<20)) else some false)).bind λl9 =>
(bif l9 then
((idx a0 cb.2.2.2).bind λbG =>
(bif bG then
(dj cb.1 [(⟨strOfNums [gE (aE (97+cb.2.2.2))],true,0,0⟩:Sym)]).bind λdU =>
some (cb.1++[(⟨strOfNums [gE (aE (97+cb.2.2.2))],true,0,0⟩:Sym)],cb.2.1,cb.2.2.1)
else
(k9 cb.2.2.2).bind λeQ =>
(eS (⟨#[116]⟩) eQ).bind λd' =>
(dj cb.1 [(⟨d',false,0,0⟩:Sym)]).bind λdC =>
(eS cb.2.1 (⟨#[99,111,110,115,116,32,116]⟩)).bind λcc =>
(k9 cb.2.2.2).bind λbK =>
(eS cc bK).bind λfY =>
(eS fY (⟨#[32,61,32]⟩)).bind λf' =>
(k9 cb.2.2.1).bind λfF =>
(eS f' fF).bind λfZ =>
(eS fZ (⟨#[10]⟩)).bind λfS =>
some (cb.1++[(⟨d',false,0,0⟩:Sym)],fS,aE (cb.2.2.1+1)))).bind λiX =>
some (.inl (iX.1,iX.2.1,iX.2.2,aE (cb.2.2.2+1)))
else
some (.inr (cb.1,cb.2.1)))) (([]:List Sym),⟨#[]⟩,57346,0)) λr=>r.1=dB kI 0 (a0.take 20)/\r.2.data.toList=rG 57346 0 (a0.take 20)/\r.2.size<=2000:=by
 have gR:(a0.take 20).length=min 20 a0.length:=List.length_take;have aK:∀ k,k<20->(a0.take 20)[k]?=a0[k]?:=λk hk=>by rw [List.getElem?_take,if_pos hk]
 generalize a0.take 20=L at *;refine Tot.count (λs=>s.2.2.2) 20 (λs=>∃ k:Nat,s.2.2.2=k/\k<=L.length/\s.1++dB kI k (L.drop k)=dB kI 0 L/\s.1.length=k/\s.2.1.data.toList++rG s.2.2.1 k (L.drop k)=rG 57346 0 L/\s.2.1.size<=100 * k/\57346<=s.2.2.1/\s.2.2.1<=57346+k) ⟨0,rfl,Nat.zero_le _,rfl,rfl,rfl,Nat.le_refl 0,Int.le_refl _,Int.le_refl _⟩ (by decide) λs aw=>?_;obtain ⟨o,iz,eu,i⟩:=s;obtain ⟨k,hi,hk,aV,pt,aa,eF,ji,qX⟩:=aw;simp only at hi aV pt aa eF ji qX ⊢;subst hi;refine .au (Ξ:=λc=>(c=true->k<L.length)/\(c=false->k=L.length)) (.bb (λh=>.ag ⟨λe=>?_,λe=>?_⟩) (λh=>.ag ⟨λe=>by (cases e),λ_=>?_⟩)) λc vk=>.bj (λe=>?_) (λe=>.ag ?_)
 ·have:=of_decide_eq_true e; omega
 ·have:=of_decide_eq_false e; omega
 ·omega
 ·have aR:=vk.1 e;obtain ⟨b,av⟩:∃ b,L[k]?=some b:=⟨_,List.getElem?_eq_getElem aR⟩;have M':k<20:=by omega
  have Ic:idx a0 (k:Int)=some b:=by unfold idx; rw [if_pos (by omega),Int.toNat_natCast,<- aK k M',av]
  have hw:aE ((k:Int)+1)=((k+1:Nat):Int):=ep k (by omega);have Ix:aE (eu+1)=eu+1:=FH (by omega) (by omega);rw [LZ av] at aV aa;have qW:lim=1099511627776:=rfl;rw [Ic,hw];simp only [Option.bind_some];cases b with
  | true =>
   simp only [cond_true];refine .bi (.bi (Tot.ap (by show o.length+1<=lim; omega) (.ag (.ag ⟨⟨k+1,rfl,by omega,?_,?_,aa,by show iz.size<=100 * (k+1); omega,ji,by show eu<=57346+((k+1:Nat):Int); omega⟩,?_,?_⟩))))
   ·rw [<- aV]; simp [dB,kI,zh]
   ·show (o++[_]).length=_; rw [List.length_append,pt]; rfl
   ·show (k:Int)<((k+1:Nat):Int); omega
   ·show ((k+1:Nat):Int)<=20; omega
  | false =>
   obtain ⟨d4,aP⟩:=ZV M';have hb:i64 eu:=by unfold i64; omega
   have ps:=zd hb;have bs:(⟨#[116]⟩:ByteArray).size=1:=rfl;have oo:(⟨#[99,111,110,115,116,32,116]⟩:ByteArray).size=7:=rfl;rw [aP,mZ eu hb,Ix];simp only [cond_false,Option.bind_some];refine .bi (.bi (.cat (by omega) (.bi (Tot.ap (by show o.length+1<=lim; omega) (.bi (.cat (by simp only [oo]; omega) (.bi (.cat (by simp only [f_,oo]; omega) (.bi (.cat (by simp only [f_,oo,z3]; omega) (.bi (.cat (by simp only [f_,oo,z3]; omega) (.bi (.cat (by simp only [f_,oo,z3,om]; omega) (.ag (.ag ⟨⟨k+1,rfl,by omega,?_,?_,?_,?_,?_,?_⟩,?_,?_⟩))))))))))))))))
   ·rw [<- aV]; simp [dB,kI,gl]
   ·show (o++[_]).length=_; rw [List.length_append,pt]; rfl
   ·rw [<- aa];simp only [rG,cond_false,kT,gl,List.append_assoc]; rfl
   ·show ((((iz++_)++_)++_)++_++_:ByteArray).size<=_;simp only [f_,oo,z3,om]; omega
   ·show 57346<=eu+1; omega
   ·show eu+1<=57346+((k+1:Nat):Int); omega
   ·show (k:Int)<((k+1:Nat):Int); omega
   ·show ((k+1:Nat):Int)<=20; omega
 ·have iA:=vk.2 e;subst iA;rw [List.drop_length] at aV aa;exact ⟨by simpa [dB] using aV,by simpa [rG] using aa,by show iz.size<=2000; omega⟩
theorem EV (aB:List Bool):Tot (b6 (R:=List Alt × ByteArray) (λ(fD:List Alt × ByteArray × Int) =>
((bif decide (fD.2.2<(aB.length:Int)) then some (decide (fD.2.2<9)) else some false)).bind λAD =>
(bif AD then
(idx aB fD.2.2).bind λer =>
((bif er then
(dj [(⟨(⟨strOfNums [gE (aE (65+fD.2.2))],true,0,0⟩:Sym),⟨#[]⟩,0⟩:Part)] [(⟨(⟨⟨#[]⟩,false,0,0⟩:Sym),⟨#[123,36,36,125]⟩,0⟩:Part)]).bind λhz =>
(eS fD.2.1 (⟨#[9,99,97,115,101,32]⟩)).bind λkJ =>
(k9 (aE (fD.2.2+1))).bind λh3 =>
(eS kJ h3).bind λfG =>
(eS fG (⟨#[58,10,9,9,123,121,121,86,65,76,125,10]⟩)).bind λkl =>
some (kl,[(⟨(⟨strOfNums [gE (aE (65+fD.2.2))],true,0,0⟩:Sym),⟨#[]⟩,0⟩:Part)]++[(⟨(⟨⟨#[]⟩,false,0,0⟩:Sym),⟨#[123,36,36,125]⟩,0⟩:Part)])
else
some (fD.2.1,[(⟨(⟨strOfNums [gE (aE (65+fD.2.2))],true,0,0⟩:Sym),⟨#[]⟩,0⟩:Part)]))).bind λkB =>
(dj fD.1 [(⟨kB.2,(⟨⟨#[]⟩,false,0,0⟩:Sym),0⟩:Alt)]).bind λiZ =>
some (.inl (fD.1++[(⟨kB.2,(⟨⟨#[]⟩,false,0,0⟩:Sym),0⟩:Alt)],kB.1,aE (fD.2.2+1)))
else
some (.inr (fD.1,fD.2.1)))) (([]:List Alt),⟨#[]⟩,0)) λr=>r.1=dB alt 0 (aB.take 9)/\r.2.data.toList=p4 0 (aB.take 9)/\r.2.size<=1000:=by
 have gR:(aB.take 9).length=min 9 aB.length:=List.length_take;have aK:∀ k,k<9->(aB.take 9)[k]?=aB[k]?:=λk hk=>by rw [List.getElem?_take,if_pos hk]
 generalize aB.take 9=L at *;refine Tot.count (λs=>s.2.2) 9 (λs=>∃ k:Nat,s.2.2=k/\k<=L.length/\s.1++dB alt k (L.drop k)=dB alt 0 L/\s.1.length=k/\s.2.1.data.toList++p4 k (L.drop k)=p4 0 L/\s.2.1.size<=100 * k) ⟨0,rfl,Nat.zero_le _,rfl,rfl,rfl,Nat.le_refl 0⟩ (by decide) λs aw=>?_;obtain ⟨o,iz,i⟩:=s;obtain ⟨k,hi,hk,aV,pt,aa,eF⟩:=aw;simp only at hi aV pt aa eF ⊢;subst hi;refine .au (Ξ:=λc=>(c=true->k<L.length)/\(c=false->k=L.length)) (.bb (λh=>.ag ⟨λe=>?_,λe=>?_⟩) (λh=>.ag ⟨λe=>by (cases e),λ_=>?_⟩)) λc vk=>.bj (λe=>?_) (λe=>.ag ?_)
 ·have:=of_decide_eq_true e; omega
 ·have:=of_decide_eq_false e; omega
 ·omega
 ·have aR:=vk.1 e;obtain ⟨b,av⟩:∃ b,L[k]?=some b:=⟨_,List.getElem?_eq_getElem aR⟩;have VN:k<9:=by omega
  have Ic:idx aB (k:Int)=some b:=by unfold idx; rw [if_pos (by omega),Int.toNat_natCast,<- aK k VN,av]
  have hw:aE ((k:Int)+1)=((k+1:Nat):Int):=ep k (by omega);rw [LZ av] at aV aa;have qW:lim=1099511627776:=rfl;rw [Ic,hw];simp only [Option.bind_some];refine .au (Ξ:=λJ:ByteArray × List Part=>J.2=(alt k b).Parts/\J.1.data.toList++p4 (k+1) (L.drop (k+1))=p4 0 L/\J.1.size<=100 * (k+1)) ?_ λJ aj=>?_
  ·cases b with
   | false =>
    simp only [cond_false];exact .ag ⟨rfl,aa,by show iz.size<=_; omega⟩
   | true =>
    have hb:i64 ((k+1:Nat):Int):=by unfold i64; omega
    have ps:=zd hb;have z12:(⟨#[58,10,9,9,123,121,121,86,65,76,125,10]⟩:ByteArray).size=12:=rfl;rw [mZ _ hb];simp only [cond_true,Option.bind_some];refine .bi (Tot.ap (by show 1+1<=lim; omega) (.bi (.cat (by rw [tr]; omega) (.bi (.cat (by simp only [f_,tr]; omega) (.bi (.cat (by simp only [f_,tr,z12]; omega) (.ag ⟨rfl,?_,?_⟩))))))))
    ·rw [<- aa];simp only [p4,cond_true,kT,List.append_assoc]
    ·show (((iz++_)++_)++_:ByteArray).size<=_;simp only [f_,tr,z12]; omega
  ·obtain ⟨iV,adm⟩:=J;obtain ⟨h1,af,aF⟩:=aj;simp only at h1 af aF ⊢;subst h1;refine .bi (Tot.ap (by show o.length+1<=lim; omega) (.ag ⟨⟨k+1,rfl,by omega,?_,?_,af,aF⟩,?_,?_⟩))
   ·rw [<- aV]; simp [dB,alt]
   ·show (o++[_]).length=_; rw [List.length_append,pt]; rfl
   ·show (k:Int)<((k+1:Nat):Int); omega
   ·show ((k+1:Nat):Int)<=9; omega
 ·have iA:=vk.2 e;subst iA;rw [List.drop_length] at aV aa;exact ⟨by simpa [dB] using aV,by simpa [p4] using aa,by show iz.size<=1000; omega⟩
theorem Z_ {bn cs:List Bool}(av:bn.length<=20) (aa:cs.length<=9) {A:List Alt}(dp:A=bif decide ((dB alt 0 cs).length=0) then [tI] else dB alt 0 cs) :
  Tot (sa ⟨dE,nT bn,[⟨dY,A,0⟩],dE⟩) λr=>r.2.2.2=true/\o2 (r.1.aX.drop 3)=rG 57346 0 bn/\p3 r.2.2.1=p4 0 cs/\Ac r.1 r.2.1 r.2.2.1/\r.1.b9=dE/\r.1.cg=dE:=by
 have adL:dE.size=0:=rfl;have bh:pb ⟨dE,nT bn,[⟨dY,A,0⟩],dE⟩:=by
  have oG:∀ a∈A,we a:=by
   intro a aQ;have h:a=tI\/∃ k c,k<20/\a=alt k c:=by
    rw [dp] at aQ;by_cases aO:(dB alt 0 cs).length=0
    ·rw [decide_eq_true aO] at aQ;exact .inl (List.mem_singleton.1 aQ)
    ·rw [decide_eq_false aO] at aQ;obtain ⟨k,c,hk,_,rfl⟩:=p_ aQ;exact .inr ⟨_,c,by omega,rfl⟩
   rcases h with rfl | ⟨k,c,hk,rfl⟩
   ·exact ⟨by decide,λp ar=>(by cases ar),by decide⟩
   ·have aw:=(n8 hk c).2.2.2;refine ⟨by cases c; (show 1<=1000; decide); (show 2<=1000; decide),λp ar=>?_,by show dE.size<=dn; unfold dn; omega⟩;have:p=⟨⟨kS k,true,0,0⟩,dE,0⟩\/p=⟨CS,sD,0⟩:=by
     cases c
     ·exact .inl (List.mem_singleton.1 ar)
     ·rcases List.mem_append.1 ar with ar | ar
      ·exact .inl (List.mem_singleton.1 ar)
      ·exact .inr (List.mem_singleton.1 ar)
    rcases this with rfl | rfl
    ·exact ⟨by show (kS k).size<=dn; unfold dn; omega,by show dE.size<=1000; decide⟩
    ·exact ⟨by show dE.size<=dn; unfold dn; omega,by show sD.size<=1000; decide⟩
  have Hp:A.length<=9+1:=by
   rw [dp];by_cases aO:(dB alt 0 cs).length=0
   ·rw [decide_eq_true aO]; show 1<=9+1; decide
   ·rw [decide_eq_false aO]; show (dB alt 0 cs).length<=_; rw [lq]; omega
  refine ⟨by show dE.size<=dn; unfold dn; omega,?_,λd aP=>?_,by show 1<=1000; decide,λr ah=>?_⟩
  ·show (nT bn).length<=1000;rcases AO bn with ⟨_,h⟩ | ⟨_,h⟩ <;> rw [h]
   ·decide
   ·show 1<=1000; decide
  ·have aP:d∈nT bn:=aP;rcases AO bn with ⟨_,h⟩ | ⟨_,h⟩
   ·rw [h] at aP; cases aP
   ·rw [h] at aP;rw [List.mem_singleton.1 aP];refine ⟨by show dE.size<=1000; omega,by show (dB kI 0 bn).length<=1000; rw [lq]; omega,λx j=>?_⟩;obtain ⟨k,b,hk,_,rfl⟩:=p_ j;have:=(n8 (i:=0+k) (by omega) b).2.2.1;unfold dn; omega
  ·rw [List.mem_singleton.1 ah];exact ⟨by show dY.size<=dn; decide,by show A.length<=1000; omega,oG⟩
 have e:Par (sa ⟨dE,nT bn,[⟨dY,A,0⟩],dE⟩) λr=>r.2.2.2=true/\o2 (r.1.aX.drop 3)=rG 57346 0 bn/\p3 r.2.2.1=p4 0 cs:=by
  rcases cs with _ | ⟨c,cs⟩
  ·have dp:A=[tI]:=dp;subst dp;have ai:(iy++k5 57346 (dB tk 0 bn) bn).length=3+bn.length:=by rw [List.length_append,E7,lq]; rfl
   refine (P' (aaf av) (by rw [ai]; exact List.all_eq_true.1 Tt bn.length (List.mem_range.2 (by omega))) (λp ar=>?_) (by decide)).use λr ah=>⟨ah.1,?_,?_⟩
   ·simp only [yo,List.mem_cons,List.not_mem_nil,or_false] at ar;rcases ar with rfl | rfl <;> exact .inl rfl
   ·rw [ah.2.1];have:=FC bn 0 57346 [];simpa [dB,iy] using this
   ·rw [ah.2.2]; rfl
  ·have dp:A=dB alt 0 (c::cs):=dp;subst dp;have ai:(iy++k5 57346 (dB tk 0 bn++dB my 0 (c::cs)) (bn++(c::cs).map λ_=>true)).length=3+bn.length+(c::cs).length:=by rw [List.length_append,E7,List.length_append,lq,lq]; show 3+_=_; omega
   refine (P' (aae av aa (by simp)) (by rw [ai]; exact List.all_eq_true.1 (Ts (c::cs) aa) bn.length (List.mem_range.2 (by omega))) (YL _ _) (by rw [List.length_cons,lq]; omega)).use λr ah=>⟨ah.1,?_,?_⟩
   ·rw [ah.2.1];exact FC bn 0 57346 (c::cs)
   ·rw [ah.2.2]; exact Re _ _
 refine (Par.iY (ph _ bh) e).use λr ah=>?_;obtain ⟨h1,af,aF,bu⟩:=ah;have hm:=h1 af;exact ⟨af,aF,bu,hm.Tn bh (by show dE.size<=dn; unfold dn; omega),hm.xG,hm.tail⟩
def Qg:List UInt8:=[118,97,114,32,121,121,68,101,102,32,61,32]
theorem XI (t:Tables):∃ X,r7 (lV.zip (mP t))=Qg++X:=by
 have h:lV=⟨#[121,121,68,101,102]⟩::lV.tail:=by kernel_rfl
 rw [h];refine ⟨([91,93,105,110,116,123]++cN 0 t.Def++[125]++[10])++r7 (lV.tail.zip (mP t).tail),?_⟩;show ER (⟨#[121,121,68,101,102]⟩,t.Def)++r7 (lV.tail.zip (mP t).tail)=_;rw [<- List.append_assoc];congr 1
def PT:List UInt8:=[121,121,83,121,109,84,121,112,101,32,123,10,9,115,119,105,116,99,104,32,112,32,123,10]
theorem Rc:∃ Y:List UInt8,Ar=Y++PT/\1<=Y.length/\Y.length<=100:=⟨Ar.take (Ar.length - 24),by kernel_rfl,by decide,by decide⟩
theorem S7 {s a:ByteArray}{m:List UInt8}(h:s.data.toList=a.data.toList++m):lK s 0 (a.size:Int)=some a:=by
 have aw:=lI s;rw [h,List.length_append,<- lI] at aw;have:=LW (s:=s) (m:=0) (n:=(a.size:Int)) (l:=a.data.toList) ⟨by omega,by omega,by omega⟩ (by
  rw [h,show (0:Int).toNat=0 from rfl,List.drop_zero,Int.toNat_natCast,Nat.sub_zero,lI,List.take_left])
 rw [this]
theorem S8 {s b:ByteArray}{m:List UInt8}(h:s.data.toList=m++b.data.toList):lK s ((s.size:Int) - (b.size:Int)) s.size=some b:=by
 have aw:=lI s;rw [h,List.length_append,<- lI] at aw;have:=LW (s:=s) (m:=(s.size:Int) - (b.size:Int)) (n:=(s.size:Int)) (l:=b.data.toList) ⟨by omega,by omega,by omega⟩ (by
  rw [h,show ((s.size:Int) - (b.size:Int)).toNat=m.length by omega,List.drop_left,Int.toNat_natCast,List.take_of_length_le (by rw [<- lI]; omega)])
 rw [this]
theorem t7 (a0 aB:List Bool):zD a0 aB=some true:=by
 suffices h:Tot (zD a0 aB) λr=>r=true by
  obtain ⟨r,ah,e⟩:=h; rw [ah,e]
 unfold zD;rw [aar];refine Tot.sm (.au (EU a0) λbR bu=>.au (EV aB) λfO TO=>?_);obtain ⟨syms,cons⟩:=bR;obtain ⟨alts,aaM⟩:=fO;obtain ⟨y8,ky,Wi⟩:=bu;obtain ⟨sN,MN,UN⟩:=TO;have av:(a0.take 20).length<=20:=by rw [List.length_take]; omega
 have aa:(aB.take 9).length<=9:=by rw [List.length_take]; omega
 generalize a0.take 20=L at *;generalize aB.take 9=C at *;simp only at y8 ky Wi sN MN UN ⊢;subst y8 sN;refine .au (Ξ:=λA=>A=bif decide ((dB alt 0 C).length=0) then [tI] else dB alt 0 C) ?_ λA dp=>?_
 ·by_cases aO:(dB alt 0 C).length=0
  ·rw [decide_eq_true (show ((dB alt 0 C).length:Int)=0 by omega),decide_eq_true aO]; exact .ag rfl
  ·rw [decide_eq_false (show ¬ ((dB alt 0 C).length:Int)=0 by omega),decide_eq_false aO]; exact .ag rfl
 refine .au (Ξ:=λD=>D=nT L) ?_ λds Bh=>?_
 ·unfold nT;cases decide (0<((dB kI 0 L).length:Int)) <;> exact .ag rfl
 subst Bh;refine .au (Z_ av aa dp) λD hd=>?_;obtain ⟨cY,cX,fc,ke,ar,al⟩:=hd;refine .au (Sa _ _ _ ke) λhq TS=>?_;obtain ⟨j,q1⟩:=TS;obtain ⟨X,t_⟩:=XI D.2.1;obtain ⟨Y,A6,acF,acG⟩:=Rc;rw [To,Vq ar,al] at j;unfold mid at j;rw [cX,fc,t_,A6] at j;have c':(⟨#[118,97,114,32,121,121,68,101,102,32,61,32]⟩:ByteArray).size=12:=rfl;have ss:(⟨#[121,121,83,121,109,84,121,112,101,32,123,10,9,115,119,105,116,99,104,32,112,32,123,10]⟩:ByteArray).size=24:=rfl;have KF:(⟨#[47,47,32,67,111,100,101,32,109,97,100,101,32,98,121,32,121,117,99,99,97,32,48,10,10]⟩:ByteArray).size=25:=rfl;refine .bi (.cat (by rw [KF]; omega) (.au (Ξ:=λa:ByteArray=>a.data.toList=MY.data.toList++rG 57346 0 L++Qg/\a.size<=3000) (.cat (by rw [f_,KF,c']; omega) ⟨?_,by rw [f_,f_,KF,c']; omega⟩) λnH TT=>?_))
 ·rw [kT,kT,ky]; rfl
 refine .bi (.cat (by rw [ss]; omega) (.au (Ξ:=λb:ByteArray=>b.data.toList=PT++p4 0 C++Gm/\b.size<=3000) (.cat (by rw [f_,ss,z7]; omega) ⟨?_,by rw [f_,f_,ss,z7]; omega⟩) λmQ TV=>?_))
 ·rw [kT,kT,MN]; rfl
 obtain ⟨d45,pR⟩:=TT;obtain ⟨d47,adz⟩:=TV;have b2:hq.data.toList=nH.data.toList++((X++Y)++mQ.data.toList):=by
  rw [j,d45,d47];simp only [List.append_assoc,List.append_nil]
 have bZ:hq.data.toList=(nH.data.toList++(X++Y))++mQ.data.toList:=by rw [b2]; simp only [List.append_assoc]
 have eF:hq.size=nH.size+(X.length+Y.length)+mQ.size:=by
  rw [lI,bZ,List.length_append,List.length_append,List.length_append,<- lI,<- lI]
 have gm:aE ((nH.size:Int)+(mQ.size:Int))=(nH.size:Int)+(mQ.size:Int):=FH (by omega) (by omega);have fi:aE ((hq.size:Int) - (mQ.size:Int))=(hq.size:Int) - (mQ.size:Int):=FH (by omega) (by omega);rw [cY,gm,fi,decide_eq_true (show (nH.size:Int)+(mQ.size:Int)<(hq.size:Int) by omega),S7 b2,S8 bZ];simp only [cond_true,Option.bind_some,decide_true];exact .ag rfl
end Go.Proofs
