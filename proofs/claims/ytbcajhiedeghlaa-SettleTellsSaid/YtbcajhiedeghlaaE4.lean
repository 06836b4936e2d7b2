/-
  What is proved here: parts of the proof that the last text states: rules for walks through code, and of this program's functions what they answer. No condition of their own.
-/
import Derived.KernelRfl
import Derived.Test.YtbcajhiedeghlaaE3
namespace Go.Proofs
open Go Go.Own Go.Sort
set_option maxRecDepth 100000
set_option linter.unusedVariables false
def uW (g:b3) (out:List Item) (x:Item):Prop:=1000<=h_ g x->∀ (p:Nat) (q:Prod),g.a8[p]?=some q->q.Left=h_ g x - 1000->(⟨p,0⟩:Item)∈out
theorem EV (g:b3) (bb:gY g) (l:List Item) (aq:l.length<=1000000):Tot (wg g l) λr=>gk hh r/\∀ x,x∈r↔nt g l x:=by
 have zU:=bb.lP;unfold wg;refine .aK (OY g bb l aq) λaE h1=>.aK (Ξ:=λr=>gk hh r/\∀ x,x∈r↔nt g l x) ?_ λr ax=>.aC ax;obtain ⟨R1,Gw⟩:=h1;refine Tot.loop (λs=>gk hh s.1/\(∀ x∈s.1,nt g l x)/\(∀ x∈l,jm g x->x∈s.1)/\(s.2=(s.1.length:Int)->∀ x∈s.1,uW g s.1 x)) (λs=>2 * (1000 - s.1.length)+(if s.2=(s.1.length:Int) then 0 else 1)) ⟨R1,λx J=>.base ((Gw x).1 J).1 ((Gw x).1 J).2,λx J hi=>(Gw x).2 ⟨J,hi⟩,λh=>by have h:(-1:Int)=_:=h; omega⟩ (by
  show 2 * (1000 - aE.length)+(if (-1:Int)=_ then 0 else 1)<1000000000000000000
  split <;> omega) λs aO=>?_
 obtain ⟨out,n⟩:=s;obtain ⟨bk,gT,tS,hG⟩:=aO;simp only at bk gT tS hG ⊢;have LH:=sh bb bk λx J=>(gT x J).jm;refine Tot.rB (λeL=>?_) (λhe=>.aC ⟨bk,λx=>⟨gT x,λJ=>?_⟩⟩)
 ·refine .aK (Ξ:=λaf:List Item × Int=>af.2=(out.length:Int)/\gk hh af.1/\(∀ x∈af.1,nt g l x)/\(∀ x∈out,x∈af.1)/\(af.1.length=out.length->∀ x∈af.1,uW g af.1 x)) ?_ λaf aa=>?_
  ·refine .aK (Ξ:=λr:List Item=>gk hh r/\(∀ x∈r,nt g l x)/\(∀ x∈out,x∈r)/\(r.length=out.length->∀ x∈r,uW g r x)) ?_ λr ax=>.aC ⟨rfl,ax⟩;refine .aK (Ξ:=λr:List Item=>gk hh r/\(∀ x∈r,nt g l x)/\(∀ x∈out,x∈r)/\(r.length=out.length->∀ x∈r,uW g r x)) ?_ λr ax=>.aC ax;refine Tot.count (λs=>s.2) out.length (λs=>∃ k:Nat,k<=out.length/\s.2=(k:Int)/\s.1=out/\∀ (af:Nat) (h:af<out.length),af<k->uW g out out[af]) ⟨0,Nat.zero_le _,rfl,rfl,λaf _ aa=>absurd aa (Nat.not_lt_zero _)⟩ (by show (out.length:Int) - 0<_; omega) λs aO=>?_;obtain ⟨cur,lz⟩:=s;obtain ⟨k,hk,rfl,rfl,Li⟩:=aO;simp only;rw [Ee k (by omega)];refine Tot.b_ (λbg=>?_) (λew=>.aC ⟨bk,gT,λ_ h=>h,λ_ x J=>?_⟩)
   ·have bg:k<cur.length:=by omega
    rw [et bg];have G7:=gT _ (List.getElem_mem bg);have G3:∀ P:Item->Prop,P cur[k]->∀ (af:Nat) (h:af<cur.length),af=k->P cur[af]:=λP di af h e=>by subst e; exact di
    generalize J:cur[k]=x at *;have Xf:=UA bb x;have hw:aL (h_ g x - 1000)=h_ g x - 1000:=by rw [dH]; omega
    simp only [Option.bind_some,Fg g x,hw];refine (.aK (Ξ:=λr:List Item=>gk hh r/\(∀ x∈r,nt g l x)/\(∀ x∈cur,x∈r)/\uW g r x) ?_ λr ax=>?_)
    ·refine Tot.count (λs=>s.2) g.a8.length (λs=>∃ i:Nat,i<=g.a8.length/\s.2=(i:Int)/\gk hh s.1/\(∀ x∈s.1,nt g l x)/\(∀ x∈cur,x∈s.1)/\∀ (p:Nat) (q:Prod),p<i->g.a8[p]?=some q->q.Left=h_ g x - 1000->(⟨p,0⟩:Item)∈s.1) ⟨0,Nat.zero_le _,rfl,bk,gT,λ_ h=>h,λp q aH=>absurd aH (Nat.not_lt_zero _)⟩ (by show (g.a8.length:Int) - 0<_; omega) λs aO=>?_;obtain ⟨o,xR⟩:=s;obtain ⟨i,hi,rfl,qR,zS,C7,uc⟩:=aO;simp only at qR zS C7 uc ⊢;rw [Ee i (by omega)];refine .aK (Ξ:=λc:Bool=>(c=true->i<g.a8.length/\1000<=h_ g x)/\(c=false->g.a8.length<=i\/h_ g x<1000)) (Tot.b_ (λh=>.aC ⟨λaU=>⟨by omega,of_decide_eq_true aU⟩,λaU=>.inr (by have:=of_decide_eq_false aU; omega)⟩) (λh=>.aC ⟨λaU=>(by cases aU),λ_=>.inl (by omega)⟩)) λc ae=>Tot.cE (λh=>?_) (λh=>.aC ⟨qR,zS,C7,λbf p q aH=>?_⟩)
     ·obtain ⟨Gu,bf⟩:=ae.1 h;have LM:g.a8[i]?=some g.a8[i]:=List.getElem?_eq_getElem Gu;rw [et Gu];refine .aK (Ξ:=λo:List Item=>gk hh o/\(∀ x∈o,nt g l x)/\(∀ x∈cur,x∈o)/\∀ (p:Nat) (q:Prod),p<i+1->g.a8[p]?=some q->q.Left=h_ g x - 1000->(⟨p,0⟩:Item)∈o) ?_ λo bj=>.aC ⟨⟨i+1,by omega,rfl,bj⟩,by show (i:Int)<((i+1:Nat):Int); omega,by show ((i+1:Nat):Int)<=_; omega⟩;refine Tot.aw (.aK (Ξ:=λo:List Item=>gk hh o/\(∀ x∈o,nt g l x)/\(∀ x∈cur,x∈o)/\∀ (p:Nat) (q:Prod),p<i+1->g.a8[p]?=some q->q.Left=h_ g x - 1000->(⟨p,0⟩:Item)∈o) (Tot.b_ (λh=>?_) (λh=>.aC ⟨qR,zS,C7,λp q aH zV bW=>?_⟩)) λo bj=>.aC bj)
      ·have SZ:=sh bb qR λx J=>(zS x J).jm;refine .aK (EM o ⟨(i:Nat),0⟩ qR (by omega)) λr ax=>.aC ⟨ax.1,λy aA=>?_,λy aA=>(ax.2 y).2 (.inl (C7 y aA)),λp q aH zV bW=>?_⟩
       ·rcases (ax.2 y).1 aA with aA | rfl
        ·exact zS y aA
        ·exact .step G7 LM (by omega) bf
       ·by_cases dz:p=i
        ·subst dz; exact (ax.2 _).2 (.inr rfl)
        ·exact (ax.2 _).2 (.inl (uc p q (by omega) zV bW))
      ·by_cases dz:p=i
       ·subst dz;rw [LM] at zV; cases zV;exact absurd bW h
       ·exact uc p q (by omega) zV bW
     ·rcases ae.2 h with h1 | h1
      ·exact uc p q (by have:=(List.getElem?_eq_some_iff.1 aH).1; omega) aH
      ·omega
    ·obtain ⟨xL,S',lK,Td⟩:=ax;have hle:cur.length<=r.length:=xV (bk.nd uw) lK;refine Tot.rB (λGz=>.aC ⟨xL,S',lK,λe=>absurd (by omega) Gz⟩) (λheq=>?_);have oI:r.length=cur.length:=by omega
     have Te:r=cur:=by
      have my:∀ y,y∈cur↔y∈r:=by
       intro y;refine ⟨lK y,λaA=>Classical.byContradiction λaP=>?_⟩;have:=xV (l:=y::cur) (m:=r) (List.nodup_cons.2 ⟨aP,bk.nd uw⟩) λz bH=>by
        rcases List.mem_cons.1 bH with rfl | bH
        ·exact aA
        ·exact lK z bH
       simp at this;omega
      exact (gk.uniq uw bk xL my).symm
     subst Te;refine .aC ⟨⟨k+1,by omega,rfl,rfl,λaf aa eS=>?_⟩,by show (k:Int)<((k+1:Nat):Int); omega,by show ((k+1:Nat):Int)<=_; omega⟩;by_cases dz:af=k
     ·exact G3 (uW g r) Td af aa dz
     ·exact Li af aa (by omega)
   ·obtain ⟨af,aa,rfl⟩:=List.mem_iff_getElem.1 J;exact Li af aa (by omega)
  ·obtain ⟨h1,al,aS,b7,dv⟩:=aa;have hle:out.length<=af.1.length:=xV (bk.nd uw) b7;have fp:=sh bb al λx J=>(aS x J).jm;refine .aC ⟨⟨al,aS,λx J hi=>b7 x (tS x J hi),λe=>dv (by show af.1.length=_; have e:af.2=(af.1.length:Int):=e; omega)⟩,?_⟩;show 2 * (1000 - af.1.length)+(if af.2=(af.1.length:Int) then 0 else 1)<2 * (1000 - out.length)+(if n=(out.length:Int) then 0 else 1)
   rw [if_neg eL];split
   ·omega
   ·have:af.1.length≠out.length:=λe=>by omega
    omega
 ·have ae:=hG he
  induction J with
  | base h hi=>exact tS _ h hi
  | @step x q p h aH aP bf aR=>exact ae x aR bf p q aH (by omega)
def BZ (g:b3) (l:List Item) (a:Int) (y:Item):Prop:=∃ x,nt g l x/\h_ g x=a/\0<=a/\y=⟨x.Prod,x.dT+1⟩
theorem Mc {g:b3}(bb:gY g) {x:Item}(h:0<=h_ g x):jm g ⟨x.Prod,x.dT+1⟩:=by
 obtain ⟨_,_,q,bW,aO⟩:=Mp bb h;obtain ⟨bf,h1,_⟩:=nC aO;exact ⟨q,bW,by show 0<=x.dT+1; omega,by show x.dT+1<=_; omega⟩
theorem Ui {g:b3}(bb:gY g) {x:Item}(h:jm g x):0<=x.dT/\x.dT<=8:=by
 obtain ⟨q,bW,bf,h1⟩:=h;have:=bb.aM q (nC bW).2.2;omega
theorem BZ.jm {g:b3}(bb:gY g) {l:List Item}{a:Int}{y:Item}(h:BZ g l a y):jm g y:=by
 obtain ⟨x,_,h1,al,rfl⟩:=h;exact Mc bb (by omega)
theorem O' (g:b3) (bb:gY g) (l:List Item) (a:Int) (aq:l.length<=1000000):Tot (Ba g l a) λr=>gk hh r/\∀ y,y∈r↔BZ g l a y:=by
 unfold Ba;refine .aK (EV g bb l aq) λc ae=>.aK (Ξ:=λr=>gk hh r/\∀ y,y∈r↔BZ g l a y) ?_ λr ax=>.aC ax;have hG:=sh bb ae.1 λx J=>((ae.2 x).1 J).jm;refine Tot.count (λs=>s.2) c.length (λs=>∃ k:Nat,k<=c.length/\s.2=(k:Int)/\gk hh s.1/\∀ y,y∈s.1↔∃ x∈c.take k,h_ g x=a/\0<=a/\y=⟨x.Prod,x.dT+1⟩) ⟨0,Nat.zero_le _,rfl,List.Pairwise.nil,λy=>by simp⟩ (by show (c.length:Int) - 0<_; omega) λs aO=>?_;obtain ⟨o,lz⟩:=s;obtain ⟨k,hk,rfl,qR,zT⟩:=aO;simp only at qR zT ⊢;rw [Ee k (by omega)];refine Tot.b_ (λbg=>?_) (λew=>.aC ⟨qR,λy=>?_⟩)
 ·have bg:k<c.length:=by omega
  have TW:=((ae.2 _).1 (List.getElem_mem bg)).jm;have gi:c.take (k+1)=c.take k++[c[k]]:=kt bg;rw [et bg];generalize c[k]=x at *;have aZ:=Ui bb TW;have hw:aL (x.dT+1)=x.dT+1:=by rw [dH]; omega
  refine .aK (Ξ:=λo:List Item=>gk hh o/\∀ y,y∈o↔∃ x∈c.take (k+1),h_ g x=a/\0<=a/\y=⟨x.Prod,x.dT+1⟩) ?_ λo bj=>.aC ⟨⟨k+1,by omega,rfl,bj⟩,by show (k:Int)<((k+1:Nat):Int); omega,by show ((k+1:Nat):Int)<=_; omega⟩;have my:∀ y,(∃ z∈c.take (k+1),h_ g z=a/\0<=a/\y=(⟨z.Prod,z.dT+1⟩:Item))↔(y∈o\/(h_ g x=a/\0<=a/\y=⟨x.Prod,x.dT+1⟩)):=by
   intro y;rw [zT y,gi];constructor
   ·rintro ⟨z,bH,h⟩;rcases List.mem_append.1 bH with bH | bH
    ·exact .inl ⟨z,bH,h⟩
    ·rw [List.mem_singleton.1 bH] at h; exact .inr h
   ·rintro (⟨z,bH,h⟩ | h)
    ·exact ⟨z,by simp [bH],h⟩
    ·exact ⟨x,by simp,h⟩
  simp only [Option.bind_some,Fg g x,hw];refine (.aK (Ξ:=λb:Bool=>b=decide (0<=h_ g x/\h_ g x=a)) (Tot.b_ (λh=>.aC (by simp [h])) (λh=>.aC (by simp [h]))) λb aJ=>?_);subst aJ;refine .aK (Ξ:=λo:List Item=>gk hh o/\∀ y,y∈o↔∃ x∈c.take (k+1),h_ g x=a/\0<=a/\y=⟨x.Prod,x.dT+1⟩) (Tot.b_ (λh=>?_) (λh=>.aC ⟨qR,λy=>?_⟩)) λo bj=>.aC bj
  ·have LH:=sh bb qR λy aA=>by
    obtain ⟨z,_,h1,al,rfl⟩:=(zT y).1 aA;exact Mc bb (by omega)
   refine (.aK (EM o _ qR (by omega)) λr ax=>.aC ⟨ax.1,λy=>?_⟩);rw [ax.2 y,my y];constructor
   ·rintro (h1 | h1)
    ·exact .inl h1
    ·exact .inr ⟨h.2,by omega,h1⟩
   ·rintro (h1 | h1)
    ·exact .inl h1
    ·exact .inr h1.2.2
  ·rw [my y];exact ⟨.inl,λaU=>aU.elim id λaU=>absurd ⟨by omega,aU.1⟩ h⟩
 ·have:k=c.length:=by omega
  subst this;rw [List.take_length] at zT;rw [zT y];constructor
  ·rintro ⟨x,J,h⟩;exact ⟨x,(ae.2 x).1 J,h⟩
  ·rintro ⟨x,J,h⟩;exact ⟨x,(ae.2 x).2 J,h⟩
def iE (a b:Int):Bool:=decide (a<b)
theorem HA {a b:Int}:iE a b=true↔a<b:=by simp [iE]
theorem HB {a b:Int}:iE a b=false↔¬ a<b:=by simp [iE]
theorem AA:Ord iE where
 swo:=⟨λx=>by rw [HB]; omega,λx y z h1 al=>by rw [HA] at *; omega,λx y z h1 al=>by rw [HB] at *; omega⟩
 j7:=λx y h1 al=>by rw [HB] at *; omega
theorem Jq {l:List Int}(aq:gk iE l) {i af:Nat}(hi:i<l.length) (aa:af<l.length) (h:i<af):iE l[i] l[af]=true:=List.pairwise_iff_getElem.1 aq i af hi aa h
theorem Cm (l:List Int) (x:Int) (aq:gk iE l) (aP:l.length<=100000):Tot (pM l x) λr=>gk iE r/\r.length<=l.length+1/\(∀ y,y∈r↔y∈l\/y=x):=by
 unfold pM;refine .aK (Ξ:=λz:Int=>∃ k:Nat,z=(k:Int)/\k<=l.length/\(∀ (i:Nat) (h:i<l.length),k<=i->iE x l[i]=true)/\∀ (h:0<k),iE x (l[k - 1]?.getD default)=false) ?_ λz bH=>?_
 ·refine Tot.count (λs=>-s) 1 (λs=>∃ k:Nat,s=(k:Int)/\k<=l.length/\∀ (i:Nat) (h:i<l.length),k<=i->iE x l[i]=true) ⟨l.length,rfl,Nat.le_refl _,λi h hk=>by omega⟩ (by show 1 - -(l.length:Int)<_; omega) λs aO=>?_;obtain ⟨k,rfl,hk,qU⟩:=aO;refine .aK (Ξ:=λc:Bool=>(c=true->0<k/\iE x (l[k - 1]?.getD default)=true)/\(c=false->∀ (h:0<k),iE x (l[k - 1]?.getD default)=false)) ?_ λc ae=>Tot.cE (λh=>?_) (λh=>.aC ⟨k,rfl,hk,qU,ae.2 h⟩)
  ·refine Tot.b_ (λh=>?_) (λh=>.aC ⟨λaU=>(by cases aU),λ_ aU=>by omega⟩);have hz:k - 1<l.length:=by omega
   have hw:aL ((k:Int) - 1)=((k - 1:Nat):Int):=by rw [dH]; omega
   rw [hw,et hz,List.getElem?_eq_getElem hz];simp only [Option.bind_some,Option.getD_some];exact .aC ⟨λaU=>⟨by omega,aU⟩,λaU _=>aU⟩
  ·obtain ⟨bf,h1⟩:=ae.1 h;refine .aC ⟨⟨k - 1,by rw [dH]; omega,by omega,λi hi SR=>?_⟩,by show -(k:Int) < -aL _; rw [dH]; omega,by show -aL _<=1; rw [dH]; omega⟩;by_cases e:i=k - 1
   ·subst e;rw [List.getElem?_eq_getElem hi] at h1;exact h1
   ·exact qU i hi (by omega)
 ·obtain ⟨k,rfl,hk,qU,mx⟩:=bH;refine .aK (Ξ:=λc:Bool=>(c=true↔(0<k/\l[k - 1]?.getD default=x))) ?_ λc ae=>Tot.cE (λh=>?_) (λh=>?_)
  ·refine Tot.b_ (λh=>?_) (λh=>.aC ⟨λaU=>(by cases aU),λaU=>by omega⟩);have hz:k - 1<l.length:=by omega
   have hw:aL ((k:Int) - 1)=((k - 1:Nat):Int):=by rw [dH]; omega
   rw [hw,et hz,List.getElem?_eq_getElem hz];simp only [Option.bind_some,Option.getD_some];generalize l[k - 1]=y;refine .aC ?_;exact ⟨λaU=>⟨by omega,of_decide_eq_true aU⟩,λaU=>decide_eq_true aU.2⟩
  ·obtain ⟨bf,h1⟩:=ae.1 h;have hz:k - 1<l.length:=by omega
   rw [List.getElem?_eq_getElem hz] at h1;have J:x∈l:=by rw [<- h1]; exact List.getElem_mem hz
   exact .aC ⟨aq,by omega,λy=>⟨.inl,λh=>h.elim id λe=>e ▸ J⟩⟩
  ·have eL:∀ (i:Nat) (hi:i<l.length),i<k->iE l[i] x=true:=by
    intro i hi t_;have hz:k - 1<l.length:=by omega
    have mx:=mx (by omega);have aP:l[k - 1]?.getD default≠x:=λe=>by rw [ae.2 ⟨by omega,e⟩] at h; cases h
    rw [List.getElem?_eq_getElem hz] at mx aP;simp only [Option.getD_some] at mx aP;have hb:iE l[k - 1] x=true:=by
     cases ca:iE l[k - 1] x with
     | true=>rfl
     | false=>exact absurd (AA.j7 _ _ ca mx) aP
    by_cases e:i=k - 1
    ·subst e; exact hb
    ·exact AA.swo.trans _ _ _ (Jq aq hi hz (by omega)) hb
   refine .aK (Ξ:=λz=>z=l.take k) (Tot.sub ⟨by omega,by omega,by omega⟩ (by simp)) λz bH=>?_;subst bH;refine .aK (Ξ:=λ_=>True) (Tot.ap (by simp [lim]; omega) trivial) λ_ _=>.aK (Ξ:=λ_=>True) (Tot.ap (by simp [lim]; omega) trivial) λ_ _=>?_;refine .aK (Ξ:=λz=>z=l.drop k) (Tot.sub ⟨by omega,by omega,by omega⟩ ?_) λz bH=>?_
   ·rw [List.take_of_length_le]
    ·congr 1
    ·rw [List.length_drop]; omega
   subst bH;refine .aK (Ξ:=λ_=>True) (Tot.ap (by simp [lim]; omega) trivial) λ_ _=>.aC ?_;rw [List.nil_append];refine ⟨?_,?_,?_⟩
   ·have h1:∀ a∈l.take k,iE a x=true:=by
     intro a bk;obtain ⟨i,hi,rfl⟩:=List.mem_iff_getElem.1 bk;rw [List.length_take] at hi;rw [List.getElem_take];exact eL i (by omega) (by omega)
    have al:∀ a∈l.drop k,iE x a=true:=by
     intro a bk;obtain ⟨i,hi,rfl⟩:=List.mem_iff_getElem.1 bk;rw [List.length_drop] at hi;rw [List.getElem_drop];exact qU (k+i) (by omega) (by omega)
    unfold gk;rw [List.append_assoc,List.pairwise_append];refine ⟨List.Pairwise.sublist (List.take_sublist k l) aq,?_,λa bk b aJ=>?_⟩
    ·rw [List.singleton_append,List.pairwise_cons];exact ⟨al,List.Pairwise.sublist (List.drop_sublist k l) aq⟩
    ·rcases List.mem_append.1 aJ with aJ | aJ
     ·rw [List.mem_singleton.1 aJ]; exact h1 a bk
     ·exact AA.swo.trans _ _ _ (h1 a bk) (al b aJ)
   ·simp only [List.length_append,List.length_take,List.length_drop,List.length_cons,List.length_nil]; omega
   ·intro y;rw [List.append_assoc,List.mem_append,List.mem_append,List.mem_singleton];have hm:y∈l↔y∈l.take k\/y∈l.drop k:=by
     rw [<- List.mem_append,List.take_append_drop]
    rw [hm];constructor
    ·rintro (h | h | h)
     ·exact .inl (.inl h)
     ·exact .inr h
     ·exact .inl (.inr h)
    ·rintro ((h | h) | h)
     ·exact .inl h
     ·exact .inr (.inr h)
     ·exact .inr (.inl h)
theorem Bq {α:Type}{l:List α}{k:Nat}{x:α}(hk:k<l.length) (i:Nat):(l.set k x)[i]?=if i=k then some x else l[i]?:=by
 rw [List.getElem?_set];by_cases e:k=i
 ·subst e; simp [hk]
 ·simp [e,Ne.symm e]
theorem QM (x y:Item):(decide (x.Prod=y.Prod)&&(decide (x.dT=y.dT)&&true))=decide (x=y):=by
 obtain ⟨aE,x2⟩:=x;obtain ⟨kj,y2⟩:=y;simp
theorem OZ (a b:List Item) (h:a.length<=1000000):Tot (AD a b) λc=>(c=true↔a=b):=by
 unfold AD;refine Tot.rB (λeL=>.aC ⟨λh=>(by cases h),λe=>absurd (by rw [e]) eL⟩) (λhe=>?_);have aq:a.length=b.length:=by omega
 refine Tot.aK (Ξ:=jw (λ_=>a=b) (λx:Bool=>x=false/\a≠b)) ?_ λx J=>?_
 ·refine Tot.count (λs=>s) a.length (λs=>∃ k:Nat,k<=a.length/\s=(k:Int)/\∀ (af:Nat) (h:af<a.length),af<k->a[af]=b[af]) ⟨0,Nat.zero_le _,rfl,λaf _ aa=>absurd aa (Nat.not_lt_zero _)⟩ (by show (a.length:Int) - 0<_; omega) λs aO=>?_;obtain ⟨k,hk,rfl,k3⟩:=aO;rw [eU k (by omega)];refine Tot.b_ (λbg=>?_) (λew=>.aC ?_)
  ·have bg:k<a.length:=by omega
   have xH:k<b.length:=by omega
   rw [et bg,et xH];simp only [Option.bind_some,QM];refine Tot.rB (λeL=>.aC ⟨rfl,λe=>eL (by subst e; rfl)⟩) (λheq=>.aC ⟨⟨k+1,by omega,rfl,λaf aa eS=>?_⟩,by show (k:Int)<((k+1:Nat):Int); omega,by show ((k+1:Nat):Int)<=_; omega⟩);by_cases e:af=k
   ·subst e; exact heq
   ·exact k3 af aa (by omega)
  ·exact List.ext_getElem aq λi h1 al=>k3 i h1 (by omega)
 ·rcases x with _ | x
  ·exact .aC ⟨λ_=>J,λ_=>rfl⟩
  ·obtain ⟨rfl,eL⟩:x=false/\a≠b:=J;exact .aC ⟨λh=>(by cases h),λh=>absurd h eL⟩
def syms (g:b3):List Int:=(List.range g.a'.length).map (λk:Nat=>(k:Int))++(List.range g.bw.length).map (λk:Nat=>1000+(k:Int))
theorem JN (g:b3) (bj:gY g):Tot (A_ g) λl=>l=syms g:=by
 have fO:=bj.kQ;have b1:=bj.hZ;unfold A_;refine .aK (Ξ:=λl:List Int=>l=(List.range g.a'.length).map (λk:Nat=>(k:Int))) ?_ λl aq=>?_
 ·refine Tot.upto (λs=>s.2) g.a'.length (λk s=>s.1=(List.range k).map (λk:Nat=>(k:Int))) rfl (by omega) rfl λk s hk he bt=>?_;obtain ⟨l,i⟩:=s;simp only at he bt ⊢;subst he bt;rw [eU k (by omega)];refine Tot.b_ (λbg=>?_) (λew=>.aC ?_)
  ·refine .aK (Ξ:=λ_=>True) (Tot.ap (by simp [lim]; omega) trivial) λ_ _=>.aC ⟨by omega,rfl,?_⟩;show _=(List.range (k+1)).map _;rw [List.range_succ,List.map_append]; rfl
  ·have:k=g.a'.length:=by omega
   subst this; rfl
 ·subst aq;refine .aK (Ξ:=λl:List Int=>l=syms g) ?_ λr ax=>.aC ax;refine Tot.upto (λs=>s.2) g.bw.length (λk s=>s.1=(List.range g.a'.length).map (λk:Nat=>(k:Int))++(List.range k).map (λk:Nat=>1000+(k:Int))) rfl (by omega) (by simp) λk s hk he bt=>?_;obtain ⟨l,i⟩:=s;simp only at he bt ⊢;subst he bt;rw [eU k (by omega)];refine Tot.b_ (λbg=>?_) (λew=>.aC ?_)
  ·refine .aK (Ξ:=λ_=>True) (Tot.ap (by simp [lim]; omega) trivial) λ_ _=>.aC ⟨by omega,rfl,?_⟩;have hw:aL (1000+(k:Int))=1000+(k:Int):=by rw [dH]; omega
   show _=_++(List.range (k+1)).map _;rw [hw,List.range_succ,List.map_append,List.append_assoc]; rfl
  ·have:k=g.bw.length:=by omega
   subst this; rfl
theorem Vw (g:b3):(syms g).length=g.a'.length+g.bw.length:=by simp [syms]
theorem Us {g:b3}{s:Int}:s∈syms g↔(0<=s/\s<g.a'.length)\/(1000<=s/\s<1000+g.bw.length):=by
 unfold syms;rw [List.mem_append,List.mem_map,List.mem_map];constructor
 ·rintro (⟨k,hk,rfl⟩ | ⟨k,hk,rfl⟩)
  ·rw [List.mem_range] at hk; exact .inl (by omega)
  ·rw [List.mem_range] at hk; exact .inr (by omega)
 ·rintro (h | h)
  ·exact .inl ⟨s.toNat,by rw [List.mem_range]; omega,by omega⟩
  ·exact .inr ⟨(s - 1000).toNat,by rw [List.mem_range]; omega,by omega⟩
theorem Vx {g:b3}(bj:gY g):(syms g).Nodup:=by
 have aG:=bj.kQ;unfold syms;rw [List.nodup_append];refine ⟨List.pairwise_map.2 ((List.nodup_range (n:=g.a'.length)).imp λ{a b} h e=>h (by omega)),List.pairwise_map.2 ((List.nodup_range (n:=g.bw.length)).imp λ{a b} h e=>h (by omega)),λa bk b aJ=>?_⟩;obtain ⟨i,hi,rfl⟩:=List.mem_map.1 bk;obtain ⟨af,aa,rfl⟩:=List.mem_map.1 aJ;rw [List.mem_range] at hi;omega
structure wU (g:b3) (K:List Item):Prop where
 a:gk hh K
 i:∀ x∈K,jm g x
theorem wU.len {g:b3}(bj:gY g) {K:List Item}(h:wU g K):K.length<=540:=sh bj h.a h.i
theorem JM (l:List Int) (x:Int) (h:l.length<=1000000):Tot (yi l x) λc=>(c=true↔x∈l):=by
 unfold yi;refine .aK (Ξ:=jw (λ_=>x∉l) (λr:Bool=>r=true/\x∈l)) ?_ λr ax=>?_
 ·refine Tot.upto (λs=>s) l.length (λk s=>x∉l.take k) rfl (by omega) (by simp) λk s hk he bt=>?_;subst he;rw [eU k (by omega)];refine Tot.b_ (λbg=>?_) (λew=>.aC ?_)
  ·have bg:k<l.length:=by omega
   rw [et bg];simp only [Option.bind_some];refine Tot.b_ (λe=>.aC ⟨rfl,by rw [<- e]; exact List.getElem_mem bg⟩) (λe=>.aC ⟨bg,rfl,?_⟩);rw [kt bg,List.mem_append,List.mem_singleton];exact λh=>h.elim bt λh=>e h.symm
  ·rw [List.take_of_length_le (by omega)] at bt;exact bt
 ·rcases r with r | r
  ·exact .aC ⟨λh=>(by cases h),λh=>absurd h ax⟩
  ·obtain ⟨rfl,h⟩:=ax;exact .aC ⟨λ_=>h,λ_=>rfl⟩
theorem Pa (m:List State) (k:List Item) (bf:m.length<=1000) (h1:∀ st∈m,st.Kernel.length<=1000000):Tot (Bb m k) λr=>-1<=r/\r<m.length:=by
 unfold Bb;refine .aK (Ξ:=jw (λ_=>True) (λr:Int=>0<=r/\r<m.length)) ?_ λx J=>?_
 ·refine Tot.upto (λs=>s) m.length (λ_ _=>True) rfl (by omega) trivial λaf s aa he _=>?_;subst he;rw [eU af (by omega)];refine Tot.b_ (λbg=>?_) (λew=>.aC trivial);have bg:af<m.length:=by omega
  rw [et bg];refine Tot.aw (.aK (OZ _ k (h1 _ (List.getElem_mem bg))) λc ae=>Tot.cE (λh=>.aC ⟨by omega,by omega⟩) (λh=>.aC ⟨bg,rfl,trivial⟩))
 ·rcases x with x | x
  ·exact .aC ⟨by omega,by omega⟩
  ·have J:0<=x/\x<m.length:=J;exact .aC ⟨by omega,by omega⟩
structure wX (g:b3) (n:Nat) (v:Move):Prop where
 s:v.Sym∈syms g
 t0:0<=v.hy
 t1:v.hy<n
structure lU (g:b3) (m:List State) (q af:Nat):Prop where
 hB:0<m.length
 lN:m.length<=150
 pH:∀ st∈m,wU g st.Kernel
 ms:∀ (i:Nat) (st:State),m[i]?=some st->(st.dE.map (·.Sym)).Sublist (if i<q then syms g else if i=q then (syms g).take af else [])
 az:∀ st∈m,∀ v∈st.dE,wX g m.length v
structure lT (g:b3) (m:List State):Prop where
 hB:0<m.length
 lN:m.length<=150
 pH:∀ st∈m,wU g st.Kernel
 uv:∀ st∈m,st.dE.length<=64
 nd:∀ st∈m,(st.dE.map (·.Sym)).Nodup
 az:∀ st∈m,∀ v∈st.dE,wX g m.length v
theorem wX.up {g:b3}{n c5:Nat}{v:Move}(h:wX g n v) (aP:n<=c5):wX g c5 v:=⟨h.s,h.t0,by have:=h.t1; omega⟩
theorem lU.put {g:b3}{m:List State}{q af:Nat}(h:lU g m q af) {st:State}(bW:m[q]?=some st) {v:Move}(hv:wX g m.length v) (aa:(syms g)[af]?=some v.Sym):lU g (m.set q ⟨st.Kernel,st.dE++[v]⟩) q (af+1):=by
 have mC:=(List.getElem?_eq_some_iff.1 bW).1;have hm:=List.mem_of_getElem? bW;refine ⟨by rw [List.length_set]; exact h.hB,by rw [List.length_set]; exact h.lN,λs aO=>?_,λi s aO=>?_,λs aO w hw=>?_⟩
 ·rcases List.mem_or_eq_of_mem_set aO with aU | aU
  ·exact h.pH s aU
  ·rw [aU]; exact h.pH st hm
 ·rw [Bq mC] at aO;by_cases e:i=q
  ·subst e;rw [if_pos rfl] at aO; cases aO;have:=h.ms i st bW;rw [if_neg (by omega),if_pos rfl] at this ⊢;rw [List.map_append,List.take_add_one,aa];exact this.append (List.Sublist.refl _)
  ·rw [if_neg e] at aO;have:=h.ms i s aO;rw [if_neg e] at this ⊢;exact this
 ·rw [List.length_set];rcases List.mem_or_eq_of_mem_set aO with aU | aU
  ·exact h.az s aU w hw
  ·rw [aU] at hw;rcases List.mem_append.1 hw with hw | hw
   ·exact h.az st hm w hw
   ·rw [List.mem_singleton.1 hw]; exact hv
theorem lU.more {g:b3}{m:List State}{q af:Nat}(h:lU g m q af) (aq:m.length<150) {K:List Item}(hk:wU g K):lU g (m++[⟨K,[]⟩]) q af:=by
 refine ⟨by simp,by simp; omega,λs aO=>?_,λi s aO=>?_,λs aO w hw=>?_⟩
 ·rcases List.mem_append.1 aO with aO | aO
  ·exact h.pH s aO
  ·rw [List.mem_singleton.1 aO]; exact hk
 ·by_cases e:i<m.length
  ·rw [List.getElem?_append_left e] at aO; exact h.ms i s aO
  ·rw [List.getElem?_append_right (by omega)] at aO;have:s=⟨K,[]⟩:=by
    have:=List.mem_of_getElem? aO;simpa using this
   rw [this]; exact List.nil_sublist _
 ·rcases List.mem_append.1 aO with aO | aO
  ·exact (h.az s aO w hw).up (by simp)
  ·rw [List.mem_singleton.1 aO] at hw; cases hw
theorem lU.mono {g:b3}{m:List State}{q af uq:Nat}(h:lU g m q af) (aa:af<=uq):lU g m q uq:=by
 refine ⟨h.hB,h.lN,h.pH,λi s aO=>?_,h.az⟩;have:=h.ms i s aO;split
 ·rename_i e; rw [if_pos e] at this; exact this
 ·rename_i e; rw [if_neg e] at this;split
  ·rename_i cY; rw [if_pos cY] at this;exact this.trans (List.take_sublist_take_left aa)
  ·rename_i cY; rw [if_neg cY] at this; exact this
theorem lU.next {g:b3}{m:List State}{q af:Nat}(h:lU g m q af):lU g m (q+1) 0:=by
 refine ⟨h.hB,h.lN,h.pH,λi s aO=>?_,h.az⟩;have:=h.ms i s aO;by_cases e:i<q+1
 ·rw [if_pos e]
  split at this
  ·exact this
  ·split at this
   ·exact this.trans (List.take_sublist _ _)
   ·exact this.trans (List.nil_sublist _)
 ·rw [if_neg (by omega),if_neg (by omega)] at this;rw [if_neg e];exact this.trans (List.nil_sublist _)
theorem O7 (g:b3) (bj:gY g):Tot (A3 g) λr=>(r.2=0/\lT g r.1)\/r.2=4:=by
 have fO:=bj.kQ;have b1:=bj.hZ;have di:=bj.lP;unfold A3;refine Tot.aK (JN g bj) λaE h1=>?_;subst h1;have jR:=Vw g;refine Tot.aK (Ξ:=jw (λm=>lU g m m.length 0) (λr:List State × Int=>r.2=4)) ?_ λx J=>?_
 ·refine Tot.loop (λs=>∃ q:Nat,s.2=(q:Int)/\q<=s.1.length/\lU g s.1 q 0) (λs=>151 - s.2.toNat) ⟨0,rfl,Nat.zero_le _,⟨by simp,by simp,λs aO=>?_,λi s aO=>?_,λs aO v hv=>?_⟩⟩ (by show 151 - 0<1000000000000000000; omega) λs cp=>?_
  ·rw [List.mem_singleton.1 aO];refine ⟨List.pairwise_singleton ..,λx J=>?_⟩;rw [List.mem_singleton.1 J];obtain ⟨q,bW⟩:∃ q,g.a8[0]?=some q:=⟨g.a8[0]'(by omega),List.getElem?_eq_getElem _⟩;exact Md (p:=0) bW
  ·have:=List.mem_of_getElem? aO;rw [List.mem_singleton.1 this]; exact List.nil_sublist _
  ·rw [List.mem_singleton.1 aO] at hv; cases hv
  obtain ⟨q,he,bW,zy⟩:=cp;obtain ⟨m,i⟩:=s;simp only at he bW zy ⊢;subst he;have xJ:=zy.lN;rw [eU q (by omega)];refine Tot.b_ (λbg=>?_) (λew=>.aC ?_)
  ·have bg:q<m.length:=by omega
   rw [et bg];have eJ:=zy.pH _ (List.getElem_mem bg);refine Tot.aw (Tot.aK (EV g bj _ (by have:=eJ.len bj; omega)) λc ae=>?_);have hG:=sh bj ae.1 λx J=>((ae.2 x).1 J).jm;refine Tot.aK (Ξ:=λl:List Int=>l.length<=1000) ?_ λOi WV=>?_
   ·refine Tot.upto (λs=>s.2) c.length (λk s=>gk iE s.1/\s.1.length<=k) rfl (by omega) ⟨.nil,Nat.le_refl 0⟩ λk s hk he bt=>?_;obtain ⟨l,i⟩:=s;obtain ⟨g1,g2⟩:=bt;simp only at he g1 g2 ⊢;subst he;rw [eU k (by omega)];refine Tot.b_ (λbg=>?_) (λew=>.aC (show l.length<=1000 by omega));have bg:k<c.length:=by omega
    rw [et bg];refine .aK (Ξ:=λl:List Int=>gk iE l/\l.length<=k+1) ?_ λo bj=>.aC ⟨bg,rfl,bj⟩;refine Tot.aw ?_;rw [Fg g _];refine Tot.aw (.aK (Ξ:=λl:List Int=>gk iE l/\l.length<=k+1) ?_ λo bj=>.aC bj);refine Tot.b_ (λaH=>.aK (Cm l _ g1 (by omega)) λr ax=>.aC ⟨ax.1,by have:=ax.2.1; omega⟩) (λaH=>.aC ⟨g1,by omega⟩)
   ·refine Tot.aK (Ξ:=jw (λm=>lU g m q (syms g).length/\q<m.length) (λr:List State × Int=>r.2=4)) ?_ λx J=>?_
    ·refine Tot.upto (λs=>s.2) (syms g).length (λk s=>lU g s.1 q k/\q<s.1.length) rfl (by omega) ⟨zy,bg⟩ λk s hk he bt=>?_;obtain ⟨m,i⟩:=s;obtain ⟨sG,mC⟩:=bt;simp only at he sG mC ⊢;subst he;rw [eU k (by omega)];have ub:=sG.lN;refine Tot.b_ (λbg=>?_) (λew=>.aC ?_)
     ·have bg:k<(syms g).length:=by omega
      have lv:=List.getElem_mem bg;have oK:(syms g)[k]?=some (syms g)[k]:=List.getElem?_eq_getElem bg;rw [et bg];generalize (syms g)[k]=s at *;refine Tot.aw (Tot.aK (JM Oi s (by omega)) λbF _=>?_);refine Tot.cE (λ_=>.aC ⟨bg,rfl,sG.mono (by omega),mC⟩) (λ_=>?_);have py:m[q]?=some m[q]:=List.getElem?_eq_getElem mC;have eJ:=sG.pH _ (List.getElem_mem mC);rw [et mC];generalize m[q]=st at *;refine Tot.aw (Tot.aw (Tot.aK (O' g bj st.Kernel s (by have:=eJ.len bj; omega)) λBS CS=>?_));have iD:wU g BS:=⟨CS.1,λy aA=>((CS.2 y).1 aA).jm bj⟩;refine Tot.aK (Pa m BS (by omega) λt aG=>by have:=(sG.pH t aG).len bj; omega) λz bH=>?_;have Tj:=(sG.ms q st py).length_le;rw [if_neg (by omega),if_pos rfl,List.length_map,List.length_take] at Tj;refine Tot.b_ (λXg=>Tot.b_ (λ_=>.aC rfl) (λXh=>?_)) (λue=>?_)
      ·refine .aK (Ξ:=λ_=>True) (Tot.ap (by simp [lim]; omega) trivial) λ_ _=>?_;have RK:=sG.more (by omega) iD;have Lq:(m++[(⟨BS,[]⟩:State)])[q]?=some st:=by rw [List.getElem?_append_left mC]; exact py
       have zJ:idx (m++[(⟨BS,[]⟩:State)]) (q:Int)=some st:=by simp only [idx,if_pos (show (0:Int)<=(q:Int) by omega),Int.toNat_natCast]; exact Lq
       rw [zJ];refine Tot.aw (Tot.aw ?_);refine .aK (Ξ:=λ_=>True) (Tot.ap (by simp [lim]; omega) trivial) λ_ _=>.aC ⟨bg,rfl,?_⟩;refine ⟨?_,by show q<(List.set _ _ _).length; rw [List.length_set]; simp; omega⟩;show lU g (List.set _ (q:Int).toNat _) q (k+1);rw [Int.toNat_natCast];exact RK.put Lq ⟨lv,by show (0:Int)<=(m.length:Int); omega,by show (m.length:Int)<_; simp; omega⟩ oK
      ·refine Tot.aw (Tot.aw ?_);refine .aK (Ξ:=λ_=>True) (Tot.ap (by simp [lim]; omega) trivial) λ_ _=>.aC ⟨bg,rfl,?_⟩;refine ⟨?_,by show q<(List.set _ _ _).length; rw [List.length_set]; exact mC⟩;show lU g (List.set _ (q:Int).toNat _) q (k+1);rw [Int.toNat_natCast];exact sG.put py ⟨lv,by show 0<=z; omega,bH.2⟩ oK
     ·have:k=(syms g).length:=by omega
      subst this;exact ⟨sG,mC⟩
    ·rcases x with x | x
     ·obtain ⟨h1,al⟩:=J;refine .aC ⟨⟨q+1,rfl,al,h1.next⟩,?_⟩;show 151 - ((q+1:Nat):Int).toNat<151 - (q:Int).toNat;omega
     ·exact .aC J
  ·have:q=m.length:=by omega
   subst this;exact zy
 ·rcases x with x | x
  ·have J:lU g x x.length 0:=J;have key:∀ st∈x,(st.dE.map (·.Sym)).Sublist (syms g):=λst cp=>by
    obtain ⟨i,hi⟩:=List.getElem?_of_mem cp;have:=J.ms i st hi;rw [if_pos (List.getElem?_eq_some_iff.1 hi).1] at this;exact this
   refine .aC (.inl ⟨rfl,J.hB,J.lN,J.pH,λst cp=>?_,λst cp=>(key st cp).nodup (Vx bj),J.az⟩);have:=(key st cp).length_le;rw [List.length_map] at this; omega
  ·exact .aC (.inr J)
theorem T7 {α:Type}{m:List α}{q:Nat}{x:α}(h:m[q]?=some x):idx m (q:Int)=some x:=by simp [idx,h]
def GoTo (m:List State) (a s r:Int):Prop:=(r=-1/\∀ st,idx m a=some st->∀ v∈st.dE,v.Sym≠s)\/∃ st v,idx m a=some st/\v∈st.dE/\v.Sym=s/\r=v.hy
theorem Cl (m:List State) (a s:Int) (hm:∀ st∈m,st.dE.length<=64):Tot (qi m a s) (GoTo m a s):=by
 unfold qi;by_cases bf:0<=a/\a<(m.length:Int)
 ·obtain ⟨st,cp,my⟩:=k9 bf.1 bf.2;have aq:=hm st my;have d1:decide (0<=a)=true:=decide_eq_true bf.1;have d2:decide (a<(m.length:Int))=true:=decide_eq_true bf.2;rw [d1,d2];simp only [cond_true,cp,Option.bind_some];refine .aK (Ξ:=jw (λ_=>∀ v∈st.dE,v.Sym≠s) (λr:Int=>∃ v,v∈st.dE/\v.Sym=s/\r=v.hy)) ?_ λx J=>?_
  ·refine Tot.upto (λs=>s) st.dE.length (λk _=>∀ v∈st.dE.take k,v.Sym≠s) rfl (by omega) (by simp) λk i hk he bt=>?_;subst he;rw [eU k (by omega)];refine Tot.b_ (λbg=>?_) (λew=>.aC (by
    show ∀ v∈st.dE,v.Sym≠s;rw [List.take_of_length_le (by omega)] at bt; exact bt))
   have bg:k<st.dE.length:=by omega
   rw [et bg];simp only [Option.bind_some];refine Tot.b_ (λe=>.aC ⟨_,List.getElem_mem bg,e,rfl⟩) (λe=>.aC ⟨bg,rfl,λv hv=>?_⟩);rw [kt bg,List.mem_append,List.mem_singleton] at hv;rcases hv with hv | rfl
   ·exact bt v hv
   ·exact e
  ·rcases x with x | x
   ·exact .aC (.inl ⟨rfl,λD5 aU=>by rw [cp] at aU; cases aU; exact J⟩)
   ·obtain ⟨v,h1,al,aS⟩:=J;exact .aC (.inr ⟨st,v,cp,h1,al,aS⟩)
 ·refine .aK (Ξ:=jw (λ_=>True) (λ_:Int=>False)) (Tot.loop (λ_=>True) (λ_=>0) trivial (by show 0<1000000000000000000; omega) λi _=>?_) λx J=>?_
  ·refine .aK (Ξ:=λc=>c=false) ?_ λc ae=>by subst ae; exact .aC trivial
   refine Tot.b_ (λh1=>Tot.b_ (λal=>absurd ⟨h1,al⟩ bf) (λ_=>.aC rfl)) (λ_=>.aC rfl)
  ·rcases x with x | x
   ·refine .aC (.inl ⟨rfl,λst aU=>absurd ⟨(nC aU).1,(nC aU).2.1⟩ bf⟩)
   ·exact J.elim
theorem GoTo.w_ {g:b3}{m:List State}(hm:lT g m) {a s r:Int}(h:GoTo m a s r):-1<=r/\r<m.length:=by
 rcases h with ⟨rfl,_⟩ | ⟨st,v,h1,al,_,rfl⟩
 ·have:=hm.hB; exact ⟨by omega,by omega⟩
 ·have:=hm.az st (nC h1).2.2 v al;exact ⟨by have:=this.t0; omega,this.t1⟩
theorem GoTo.yes {g:b3}{m:List State}(hm:lT g m) {a s r:Int}(h:GoTo m a s r) {st:State}{v:Move}(aO:idx m a=some st) (hv:v∈st.dE) (e:v.Sym=s):0<=r/\r<m.length:=by
 rcases h with ⟨rfl,h⟩ | ⟨st,v,h1,al,_,rfl⟩
 ·exact absurd e (h st aO v hv)
 ·have:=hm.az st (nC h1).2.2 v al;exact ⟨this.t0,this.t1⟩
theorem JP {g:b3}{m:List State}(hm:lT g m) (a:Int) (l:List Int) (bk:-1<=a/\a<m.length) (aq:l.length<=1000):Tot (yk m a l) λr=>-1<=r/\r<m.length:=by
 unfold yk;refine .aK (Ξ:=λr:Int=>-1<=r/\r<m.length) ?_ λr ax=>.aC ax;refine Tot.upto (λs=>s.2) l.length (λ_ s=>-1<=s.1/\s.1<m.length) rfl (by omega) bk λk s hk he bt=>?_;obtain ⟨r,i⟩:=s;simp only at he bt ⊢;subst he;rw [eU k (by omega)];refine .aK (Ξ:=λc=>c=true->k<l.length) (Tot.b_ (λh=>.aC λ_=>by omega) (λ_=>.aC λh=>by cases h)) λc ae=>Tot.cE (λh=>?_) (λ_=>.aC bt);have bg:=ae h;rw [et bg];exact Tot.aw (.aK (Cl m r _ hm.uv) λz bH=>.aC ⟨bg,rfl,bH.w_ hm⟩)
def tx (m:List State) (t:Trans):Prop:=∃ st v,idx m t.State=some st/\v∈st.dE/\v.Sym=t.e5/\1000<=t.e5
structure u2 (m:List State) (l:List Trans):Prop where
 n:l.length<=9600
 ok:∀ t∈l,tx m t
 e6:∀ (q:Nat) (st:State) (v:Move),m[q]?=some st->v∈st.dE->1000<=v.Sym->(⟨q,v.Sym⟩:Trans)∈l
theorem Pe {g:b3}{m:List State}(hm:lT g m):Tot (pN m) (u2 m):=by
 have aP:=hm.lN;unfold pN;refine .aK (Ξ:=u2 m) ?_ λr ax=>.aC ax;refine Tot.upto (λs=>s.2) m.length (λk s=>s.1.length<=64 * k/\(∀ t∈s.1,tx m t)/\∀ (q:Nat) (st:State) (v:Move),q<k->m[q]?=some st->v∈st.dE->1000<=v.Sym->(⟨q,v.Sym⟩:Trans)∈s.1) rfl (by omega) ⟨Nat.le_refl 0,λt h=>(by cases h),λq _ _ h=>absurd h (Nat.not_lt_zero _)⟩ λk s hk he bt=>?_;obtain ⟨l,i⟩:=s;obtain ⟨h1,al,aS⟩:=bt;simp only at he h1 al aS ⊢;subst he;rw [eU k (by omega)];refine Tot.b_ (λbg=>?_) (λew=>.aC ⟨?_,al,λq st v bW=>aS q st v ?_ bW⟩)
 ·have bg:k<m.length:=by omega
  have py:m[k]?=some m[k]:=List.getElem?_eq_getElem bg;have my:=List.getElem_mem bg;rw [et bg];generalize m[k]=st at *;have ub:=hm.uv st my;simp only [Option.bind_some];refine .aK (Ξ:=λvR:List Trans=>vR.length<=64 * (k+1)/\(∀ t∈vR,tx m t)/\(∀ t∈l,t∈vR)/\∀ v∈st.dE,1000<=v.Sym->(⟨k,v.Sym⟩:Trans)∈vR) ?_ λvR ic=>.aC ⟨bg,rfl,ic.1,ic.2.1,λq D5 v bW b7 dv eC=>?_⟩
  ·refine Tot.upto (λs=>s.2) st.dE.length (λaf s=>s.1.length<=64 * k+af/\(∀ t∈s.1,tx m t)/\(∀ t∈l,t∈s.1)/\∀ v∈st.dE.take af,1000<=v.Sym->(⟨k,v.Sym⟩:Trans)∈s.1) rfl (by omega) ⟨h1,al,λ_ h=>h,λv hv=>by simp at hv⟩ λaf s aa he bt=>?_;obtain ⟨o,i⟩:=s;obtain ⟨g1,g2,g3,g4⟩:=bt;simp only at he g1 g2 g3 g4 ⊢;subst he;rw [eU af (by omega)];refine Tot.b_ (λbg=>?_) (λew=>.aC ⟨by show o.length<=_; omega,g2,g3,by
    rw [List.take_of_length_le (by omega)] at g4; exact g4⟩)
   have bg:af<st.dE.length:=by omega
   have gi:=kt bg;have Dd:=List.getElem_mem bg;rw [et bg];generalize st.dE[af]=v at *;simp only [Option.bind_some];refine .aK (Ξ:=λo:List Trans=>o.length<=64 * k+(af+1)/\(∀ t∈o,tx m t)/\(∀ t∈l,t∈o)/\∀ v∈st.dE.take (af+1),1000<=v.Sym->(⟨k,v.Sym⟩:Trans)∈o) ?_ λo bj=>.aC ⟨bg,rfl,bj⟩;refine .aK (Ξ:=λo:List Trans=>o.length<=64 * k+(af+1)/\(∀ t∈o,tx m t)/\(∀ t∈l,t∈o)/\∀ v∈st.dE.take (af+1),1000<=v.Sym->(⟨k,v.Sym⟩:Trans)∈o) (Tot.b_ (λh=>?_) (λh=>.aC ⟨by omega,g2,g3,λw hw aO=>?_⟩)) λo bj=>.aC bj
   ·refine .aK (Ξ:=λ_=>True) (Tot.ap (by simp [lim]; omega) trivial) λ_ _=>.aC ⟨by simp; omega,λt aG=>?_,λt aG=>List.mem_append_left _ (g3 t aG),λw hw aO=>?_⟩
    ·rcases List.mem_append.1 aG with aG | aG
     ·exact g2 t aG
     ·rw [List.mem_singleton.1 aG];exact ⟨st,v,T7 py,Dd,rfl,h⟩
    ·rw [gi,List.mem_append,List.mem_singleton] at hw;rcases hw with hw | rfl
     ·exact List.mem_append_left _ (g4 w hw aO)
     ·simp
   ·rw [gi,List.mem_append,List.mem_singleton] at hw;rcases hw with hw | rfl
    ·exact g4 w hw aO
    ·exact absurd aO h
  ·by_cases e:q=k
   ·subst e;rw [py] at b7; cases b7;exact ic.2.2.2 v dv eC
   ·exact ic.2.2.1 _ (aS q D5 v (by omega) b7 dv eC)
 ·show l.length<=9600;omega
 ·have:=(List.getElem?_eq_some_iff.1 bW).1;omega
theorem ry (l:List Trans) (a n:Int) (aq:l.length<=9600):Tot (x8 l a n) λr=>-1<=r/\r<l.length/\((⟨a,n⟩:Trans)∈l->0<=r):=by
 unfold x8;refine .aK (Ξ:=jw (λ_=>(⟨a,n⟩:Trans)∉l) (λr:Int=>0<=r/\r<l.length)) ?_ λx J=>?_
 ·refine Tot.upto (λs=>s) l.length (λk _=>(⟨a,n⟩:Trans)∉l.take k) rfl (by omega) (by simp) λk i hk he bt=>?_;subst he;rw [eU k (by omega)];refine Tot.b_ (λbg=>?_) (λew=>.aC (by
   show (⟨a,n⟩:Trans)∉l;rw [List.take_of_length_le (by omega)] at bt; exact bt))
  have bg:k<l.length:=by omega
  have gi:=kt bg;rw [et bg];generalize l[k]=y at *;simp only [Option.bind_some];refine .aK (Ξ:=λc:Bool=>c=false->y≠⟨a,n⟩) (Tot.b_ (λh=>.aC λaU e=>?_) (λh=>.aC λ_ e=>h (by rw [e]))) λc ae=>Tot.cE (λh=>.aC ⟨by show (0:Int)<=k; omega,by show (k:Int)<_; omega⟩) (λh=>.aC ⟨bg,rfl,?_⟩)
  ·have:=of_decide_eq_false aU;exact this (by rw [e])
  ·rw [gi,List.mem_append,List.mem_singleton];exact λaU=>aU.elim bt λe=>ae h e.symm
 ·rcases x with x | x
  ·refine .aC ⟨by omega,by omega,λh=>absurd h J⟩
  ·have J:0<=x/\x<l.length:=J;exact .aC ⟨by omega,J.2,λ_=>J.1⟩
theorem O0 (l:List Item) (aq:l.length<=1000000):Tot (AE l) λ_=>True:=by
 unfold AE;refine .aK (Ξ:=λ_=>True) ?_ λx J=>by
  rcases x with x | x
  ·exact .aC trivial
  ·exact .aC trivial
 refine Tot.upto (λs=>s) l.length (λ_ _=>True) rfl (by omega) trivial λk i hk he _=>?_;subst he;rw [eU k (by omega)];refine Tot.b_ (λbg=>?_) (λ_=>.aC trivial);have bg:k<l.length:=by omega
 rw [et bg];simp only [Option.bind_some];refine .aK (Ξ:=λ_=>True) (Tot.b_ (λ_=>.aC trivial) (λ_=>.aC trivial)) λc _=>Tot.cE (λ_=>.aC trivial) (λ_=>.aC ⟨bg,rfl,trivial⟩)
theorem JI (B:List Bool) (l:List Int) (aq:l.length<=1000) (h:∀ s∈l,s<1000\/(1000<=s/\s - 1000<B.length)) (iC:B.length<=1000):Tot (x9 B l) λ_=>True:=by
 unfold x9;refine .aK (Ξ:=λ_=>True) ?_ λx J=>by
  rcases x with x | x
  ·exact .aC trivial
  ·exact .aC trivial
 refine Tot.upto (λs=>s) l.length (λ_ _=>True) rfl (by omega) trivial λk i hk he _=>?_;subst he;rw [eU k (by omega)];refine Tot.b_ (λbg=>?_) (λ_=>.aC trivial);have bg:k<l.length:=by omega
 have aA:=h _ (List.getElem_mem bg);rw [et bg];generalize l[k]=y at *;simp only [Option.bind_some];refine .aK (Ξ:=λ_=>True) (Tot.b_ (λ_=>.aC trivial) (λh1=>?_)) λc _=>Tot.cE (λ_=>.aC trivial) (λ_=>.aC ⟨bg,rfl,trivial⟩);have hw:aL (y - 1000)=y - 1000:=by rw [dH]; omega
 rw [hw];obtain ⟨b,aJ,_⟩:=k9 (l:=B) (i:=y - 1000) (by omega) (by omega);rw [aJ];exact .aC trivial
theorem MS {g:b3}(bb:gY g) {q:Prod}(bW:q∈g.a8) {B:List Bool}(iC:B.length=g.bw.length):∀ s∈q.fw,s<1000\/(1000<=s/\s - 1000<B.length):=λs aO=>by
 have aG:=bb.kQ;have aP:=bb.hZ;rcases (bb.hC q bW).right s aO with h | h <;> omega
theorem JH (g:b3) (bb:gY g):Tot (x7 g) λB=>B.length=g.bw.length:=by
 have aG:=bb.kQ;have aP:=bb.hZ;have aH:=bb.lP;unfold x7;refine .aK (Ξ:=λB=>B=List.replicate g.bw.length false) (Tot.mk (by simp [lim]; omega) (by simp)) λWi Rt=>?_;subst Rt;refine .aK (Ξ:=λB:List Bool=>B.length=g.bw.length) ?_ λB iC=>.aC iC;refine Tot.loop (λs=>s.1.length=g.bw.length) (λs=>2 * (g.bw.length - hQ s.1)+s.2.toNat) (by simp) (by
  show 2 * (g.bw.length - hQ _)+1<1000000000000000000; omega) λs aO=>?_
 obtain ⟨B,f⟩:=s;simp only at aO ⊢;refine Tot.cE (λbp=>?_) (λ_=>.aC aO);subst bp;refine .aK (Ξ:=λr:List Bool × Bool=>r.1.length=g.bw.length/\hQ B<=hQ r.1/\(r.2=true->hQ B<hQ r.1)) ?_ λr ax=>?_
 ·refine Tot.upto (λs=>s.2.2) g.a8.length (λ_ s=>s.1.length=g.bw.length/\hQ B<=hQ s.1/\(s.2.1=true->hQ B<hQ s.1)) rfl (by omega) ⟨aO,Nat.le_refl _,λh=>by cases h⟩ λk s hk he bt=>?_;obtain ⟨C,f,i⟩:=s;obtain ⟨h1,al,aS⟩:=bt;simp only at he h1 al aS ⊢;subst he;rw [eU k (by omega)];refine Tot.b_ (λbg=>?_) (λew=>.aC ⟨h1,al,aS⟩);have bg:k<g.a8.length:=by omega
  have mC:=List.getElem_mem bg;rw [et bg];generalize g.a8[k]=q at *;have bW:=bb.hC q mC;have LN:=bW.left;obtain ⟨b,aJ,_⟩:=k9 (l:=C) (i:=q.Left) LN.1 (by omega);simp only [Option.bind_some,aJ];refine .aK (Ξ:=λr:List Bool × Bool=>r.1.length=g.bw.length/\hQ B<=hQ r.1/\(r.2=true->hQ B<hQ r.1)) ?_ λr ax=>.aC ⟨bg,rfl,ax⟩;refine .aK (Ξ:=λc:Bool=>c=true->b=false) ?_ λc ae=>?_
  ·cases b with
   | true=>exact .aC λh=>by cases h
   | false =>
    refine .aK (JI C q.fw (by have:=bb.aM q mC; omega) (MS bb mC h1) (by omega)) λ_ _=>.aC λ_=>rfl
  ·refine .aK (Ξ:=λr:List Bool × Bool=>r.1.length=g.bw.length/\hQ B<=hQ r.1/\(r.2=true->hQ B<hQ r.1)) (Tot.cE (λh=>.aC ?_) (λh=>.aC ⟨h1,al,aS⟩)) λr ax=>.aC ax;have Sq:=ae h;subst Sq;have Gt:q.Left.toNat<C.length:=by omega
   have py:C.getD q.Left.toNat false=false:=by
    unfold idx at aJ;rw [if_pos LN.1] at aJ;rw [List.getD_eq_getElem?_getD,aJ]; rfl
   have:=vd C q.Left.toNat Gt py;exact ⟨by rw [List.length_set]; exact h1,by show hQ B<=hQ (C.set _ _); omega,λ_=>by show hQ B<hQ (C.set _ _); omega⟩
 ·obtain ⟨h1,al,aS⟩:=ax;refine .aC ⟨h1,?_⟩;have ae:=Pm r.1;show 2 * (g.bw.length - hQ r.1)+r.2.toNat<2 * (g.bw.length - hQ B)+true.toNat;cases iL:r.2 with
  | false=>simp only [Bool.toNat_false,Bool.toNat_true]; omega
  | true =>
   have:=aS iL;simp only [Bool.toNat_true]; omega
structure jy (T:Nat) (r:List Int):Prop where
 a:gk iE r
 i:∀ x∈r,0<=x/\x<T
theorem jy.len {T:Nat}{r:List Int}(h:jy T r):r.length<=T:=by
 have:=xV (m:=(List.range T).map λk:Nat=>(k:Int)) (h.a.nd AA) λx J=>by
  have:=h.i x J;exact List.mem_map.2 ⟨x.toNat,by rw [List.mem_range]; omega,by omega⟩
 simpa using this
theorem jy.nil {T:Nat}:jy T []:=⟨.nil,λx h=>by cases h⟩
theorem jy.put {T:Nat}(fO:T<=100000) {r:List Int}(h:jy T r) {x:Int}(J:0<=x/\x<T):Tot (pM r x) λfg=>jy T fg/\r.length<=fg.length:=by
 have aq:=h.len;refine (Cm r x h.a (by omega)).use λfg e2=>⟨⟨e2.1,λy aA=>?_⟩,xV (h.a.nd AA) λy aA=>(e2.2.2 y).2 (.inl aA)⟩;rcases (e2.2.2 y).1 aA with aU | rfl
 ·exact h.i y aU
 ·exact J
def mi (L:List (List Int)) (i:Nat):Nat:=(L.getD i []).length
def j7 (L:List (List Int)):Nat:=(L.map List.length).sum
theorem Nz:∀ (L L':List (List Int)),L.length=L'.length->(∀ i,mi L i<=mi L' i)->j7 L<=j7 L'/\((∃ i,mi L i<mi L' i)->j7 L<j7 L')
 | [],[],_,_=>⟨Nat.le_refl _,λ⟨i,h⟩=>absurd h (Nat.lt_irrefl _)⟩
 | a::L,b::L',aq,h=>by
  obtain ⟨h1,al⟩:=Nz L L' (by simpa using aq) λi=>by simpa [mi] using h (i+1)
  have bf:a.length<=b.length:=by simpa [mi] using h 0
  have dz:j7 (a::L)=a.length+j7 L:=by simp [j7]
  have de:j7 (b::L')=b.length+j7 L':=by simp [j7]
  rw [dz,de];refine ⟨by omega,λ⟨i,hi⟩=>?_⟩;cases i with
  | zero =>
   have:a.length<b.length:=by simpa [mi] using hi
   omega
  | succ i =>
   have:=al ⟨i,by simpa [mi] using hi⟩;omega
def Sets (T:Nat) (L:List (List Int)):Prop:=∀ r∈L,jy T r
theorem Ny {T:Nat}:∀ {L:List (List Int)},Sets T L->j7 L<=L.length * T
 | [],_=>by simp [j7]
 | a::L,h=>by
  have h1:=(h a (by simp)).len;have al:=Ny (L:=L) λr ax=>h r (by simp [ax]);have dz:j7 (a::L)=a.length+j7 L:=by simp [j7]
  rw [dz,List.length_cons,Nat.succ_mul]; omega
structure ow (T:Nat) (L L':List (List Int)):Prop where
 n:L'.length=L.length
 s:Sets T L'
 u:∀ i,mi L i<=mi L' i
theorem ow.refl {T:Nat}{L:List (List Int)}(h:Sets T L):ow T L L:=⟨rfl,h,λ_=>Nat.le_refl _⟩
theorem ow.trans {T:Nat}{A B C:List (List Int)}(h:ow T A B) (aU:ow T B C):ow T A C:=⟨aU.n.trans h.n,aU.s,λi=>Nat.le_trans (h.u i) (aU.u i)⟩
theorem ow.set {T:Nat}{L:List (List Int)}{k:Nat}{r fg:List Int}(aO:Sets T L) (hk:L[k]?=some r) (h:jy T fg) (aq:r.length<=fg.length):ow T L (L.set k fg):=by
 have ec:=(List.getElem?_eq_some_iff.1 hk).1;refine ⟨List.length_set ..,λx J=>?_,λi=>?_⟩
 ·rcases List.mem_or_eq_of_mem_set J with aU | aU
  ·exact aO x aU
  ·rw [aU]; exact h
 ·unfold mi;rw [List.getD_eq_getElem?_getD,List.getD_eq_getElem?_getD,Bq ec];by_cases e:i=k
  ·subst e; rw [if_pos rfl,hk]; exact aq
  ·rw [if_neg e]; exact Nat.le_refl _
theorem Dl {L:List (List Int)}{k:Nat}{r:List Int}(h:L[k]?=some r):mi L k=r.length:=by unfold mi; rw [List.getD_eq_getElem?_getD,h]; rfl
theorem T6 {α:Type}{l:List α}{i:Int}{y:α}(h:idx l i=some y):l[i.toNat]?=some y:=by
 unfold idx at h
 split at h
 ·exact h
 ·cases h
theorem JO (T:Nat) (fO:T<=1000) (a0 ar:List (List Int)) (aP:a0.length<=9600) (he:ar.length=a0.length) (bf:Sets T a0) (h1:Sets a0.length ar):Tot (yj a0 ar) λr=>r.length=a0.length/\Sets T r:=by
 unfold yj;refine .aK (Ξ:=λr:List (List Int)=>r.length=a0.length/\Sets T r) ?_ λr ax=>.aC ax;have aJ:a0.length * T<=9600 * 1000:=Nat.mul_le_mul aP fO;refine Tot.loop (λs=>s.1.length=a0.length/\Sets T s.1) (λs=>2 * (a0.length * T - j7 s.1)+s.2.toNat) ⟨rfl,bf⟩ (by
  show 2 * (a0.length * T - j7 _)+1<1000000000000000000; omega) λs aO=>?_
 obtain ⟨L,f⟩:=s;obtain ⟨aq,aO⟩:=aO;simp only at aq aO ⊢;refine Tot.cE (λbp=>?_) (λ_=>.aC ⟨aq,aO⟩);subst bp;refine .aK (Ξ:=λr:List (List Int) × Bool=>ow T L r.1/\(r.2=true->∃ i,mi L i<mi r.1 i)) ?_ λr ax=>?_
 ·refine Tot.upto (λs=>s.2.2) L.length (λ_ s=>ow T L s.1/\(s.2.1=true->∃ i,mi L i<mi s.1 i)) rfl (by omega) ⟨.refl aO,λh=>by cases h⟩ λk s hk ib bt=>?_;obtain ⟨C,f,i⟩:=s;obtain ⟨hu,tX⟩:=bt;simp only at ib hu tX ⊢;subst ib;rw [eU k (by omega)];have LX:=hu.n;refine Tot.b_ (λbg=>?_) (λew=>.aC ⟨hu,tX⟩);have Lt:k<C.length:=by omega
  have hz:k<ar.length:=by omega
  have Lo:C[k]?=some C[k]:=List.getElem?_eq_getElem Lt;have oJ:=h1 _ (List.getElem_mem hz);rw [et hz,et Lt];generalize ar[k]=row at *;generalize C[k]=lO at *;simp only [Option.bind_some];have oI:=oJ.len;refine .aK (Ξ:=λD:List (List Int)=>ow T C D) ?_ λD sD=>?_
  ·refine Tot.upto (λs=>s.2) row.length (λ_ s=>ow T C s.1) rfl (by omega) (.refl hu.s) λaf s aa ib bt=>?_;obtain ⟨D,i⟩:=s;simp only at ib bt ⊢;subst ib;rw [eU af (by omega)];have Rx:=bt.n;refine Tot.b_ (λbg=>?_) (λ_=>.aC bt);have bg:af<row.length:=by omega
   have aA:=oJ.i _ (List.getElem_mem bg);rw [et bg];generalize row[af]=y at *;simp only [Option.bind_some];refine .aK (Ξ:=λE:List (List Int)=>ow T C E) ?_ λE k3=>.aC ⟨bg,rfl,k3⟩;refine Tot.count (λs=>s.2) T (λs=>∃ n:Nat,s.2=(n:Int)/\ow T C s.1) ⟨0,rfl,bt⟩ (by show (T:Int) - 0<_; omega) λs aO=>?_;obtain ⟨E,i⟩:=s;obtain ⟨n,C4,k3⟩:=aO;simp only at C4 k3 ⊢;subst C4;have WR:=k3.n;obtain ⟨z,bH,T3⟩:=k9 (l:=E) (i:=y) aA.1 (by omega);have n9:=k3.s z T3;have s0:=n9.len;have Gl:k<E.length:=by omega
   have SI:E[k]?=some E[k]:=List.getElem?_eq_getElem Gl;rw [bH];simp only [Option.bind_some];refine Tot.b_ (λbg=>?_) (λ_=>.aC k3);have bg:n<z.length:=by omega
   rw [eU n (by omega),et Gl,et bg];simp only [Option.bind_some];refine .aK ((k3.s _ (List.getElem_mem Gl)).put (by omega) (n9.i _ (List.getElem_mem bg))) λfg e2=>.aC ⟨⟨n+1,rfl,?_⟩,by show (n:Int)<((n+1:Nat):Int); omega,by show ((n+1:Nat):Int)<=T; omega⟩;exact k3.trans (.set k3.s SI e2.1 e2.2)
  ·have Rx:=sD.n;have Lu:k<D.length:=by omega
   have Lp:D[k]?=some D[k]:=List.getElem?_eq_getElem Lu;have uh:=hu.trans sD;refine .aK (Ξ:=λc:Bool=>c=true->∃ i,mi L i<mi D i) ?_ λc ae=>.aC ⟨by omega,rfl,uh,ae⟩;refine Tot.cE (λbp=>.aC λ_=>?_) (λ_=>?_)
   ·obtain ⟨i,hi⟩:=tX bp;exact ⟨i,Nat.lt_of_lt_of_le hi (sD.u i)⟩
   ·rw [et Lu];refine Tot.aw (.aC λh=>⟨k,?_⟩);have aS:=sD.u k;have b7:=hu.u k;rw [Dl Lo,Dl Lp] at aS;rw [Dl Lo] at b7;rw [Dl Lp];have:¬ ((D[k].length:Int)=(lO.length:Int)):=λe=>by rw [decide_eq_true e] at h; cases h
    omega
 ·obtain ⟨hu,bp⟩:=ax;have C':=hu.n;obtain ⟨aS,b7⟩:=Nz L r.1 C'.symm hu.u;have dv:=Ny hu.s;rw [show r.1.length=a0.length by omega] at dv;refine .aC ⟨⟨by show r.1.length=_; omega,hu.s⟩,?_⟩;show 2 * (a0.length * T - j7 r.1)+r.2.toNat<2 * (a0.length * T - j7 L)+true.toNat;cases iL:r.2 with
  | false=>simp only [Bool.toNat_false,Bool.toNat_true]; omega
  | true =>
   have:=b7 (bp iL);simp only [Bool.toNat_true]; omega
theorem lT.sym {g:b3}(bb:gY g) {m:List State}(hm:lT g m) {st:State}(cp:st∈m) {v:Move}(hv:v∈st.dE):0<=v.Sym/\(v.Sym<1000->v.Sym<g.a'.length)/\(1000<=v.Sym->v.Sym - 1000<g.bw.length):=by
 have aG:=bb.kQ;rcases Us.1 (hm.az st cp v hv).s with h | h
 ·exact ⟨h.1,λ_=>h.2,λaU=>by omega⟩
 ·exact ⟨by omega,λaU=>by omega,λ_=>by omega⟩
theorem tx.go {g:b3}{m:List State}(hm:lT g m) {t:Trans}(h:tx m t):Tot (qi m t.State t.e5) λr=>0<=r/\r<m.length:=by
 obtain ⟨st,v,h1,al,aS,_⟩:=h;exact (Cl m t.State t.e5 hm.uv).use λr ax=>ax.yes hm h1 al aS
theorem Nh {T:Nat}{L:List (List Int)}{r:List Int}(h:Sets T L) (ax:jy T r):Sets T (L++[r]):=λx J=>by
 rcases List.mem_append.1 J with J | J
 ·exact h x J
 ·rw [List.mem_singleton.1 J]; exact ax
theorem Pb (g:b3) (bb:gY g) {m:List State}(hm:lT g m):Tot (Bc m) λr=>∃ cf,pN m=some cf/\u2 m cf/\r.length=cf.length/\Sets g.a'.length r:=by
 have aG:=bb.kQ;obtain ⟨cf,pq,ie⟩:=Pe hm;have vA:=ie.n;unfold Bc;rw [pq];refine Tot.aw (.aK (Ξ:=λr:List (List Int)=>r.length=cf.length/\Sets g.a'.length r) ?_ λr ax=>.aC ⟨cf,rfl,ie,ax⟩);refine Tot.upto (λs=>s.2) cf.length (λk s=>s.1.length=k/\Sets g.a'.length s.1) rfl (by omega) ⟨rfl,λr h=>by cases h⟩ λk s hk he bt=>?_;obtain ⟨L,i⟩:=s;obtain ⟨h1,al⟩:=bt;simp only at he h1 al ⊢;subst he;rw [eU k (by omega)];refine Tot.b_ (λbg=>?_) (λew=>.aC ⟨by show L.length=_; omega,al⟩);have bg:k<cf.length:=by omega
 have gi:=ie.ok _ (List.getElem_mem bg);rw [et bg];generalize cf[k]=t at *;simp only [Option.bind_some];refine .aK (gi.go hm) λto z_=>?_;obtain ⟨st,cp,lv⟩:=k9 z_.1 z_.2;have eJ:=hm.pH st lv;have ub:=hm.uv st lv;rw [cp];simp only [Option.bind_some];refine .aK (O0 _ (by have:=eJ.len bb; omega)) λc _=>?_;refine .aK (Ξ:=jy g.a'.length) (Tot.cE (λ_=>?_) (λ_=>.aC .nil)) λyn xK=>?_
 ·refine .aK (Ξ:=λ_=>True) (Tot.ap (by simp [lim]) trivial) λ_ _=>.aC ⟨List.pairwise_singleton ..,λx J=>?_⟩;rw [List.mem_singleton.1 J]; omega
 refine .aK (Ξ:=jy g.a'.length) ?_ λr ax=>?_
 ·refine Tot.upto (λs=>s.2) st.dE.length (λk s=>jy g.a'.length s.1) rfl (by omega) xK λaf s aa he bt=>?_;obtain ⟨r,i⟩:=s;simp only at he bt ⊢;subst he;rw [eU af (by omega)];refine Tot.b_ (λbg=>?_) (λ_=>.aC bt);have bg:af<st.dE.length:=by omega
  have hv:=hm.sym bb lv (List.getElem_mem bg);rw [et bg];generalize st.dE[af]=v at *;simp only [Option.bind_some];refine .aK (Ξ:=jy g.a'.length) ?_ λr ax=>.aC ⟨bg,rfl,ax⟩;refine .aK (Ξ:=jy g.a'.length) (Tot.b_ (λh=>?_) (λ_=>.aC bt)) λr ax=>.aC ax;exact .aK (bt.put (by omega) ⟨hv.1,hv.2.1 h⟩) λr ax=>.aC ax.1
 ·refine .aK (Ξ:=λ_=>True) (Tot.ap (by simp [lim]; omega) trivial) λ_ _=>.aC ⟨bg,rfl,by simp; omega,Nh al ax⟩
theorem Pc (g:b3) (bb:gY g) {m:List State}(hm:lT g m) {cf:List Trans}(pq:pN m=some cf) (ie:u2 m cf):Tot (Bd g m) λr=>r.length=cf.length/\Sets cf.length r:=by
 have aG:=bb.kQ;have C5:=bb.hZ;have vA:=ie.n;unfold Bd;rw [pq];refine Tot.aw (.aK (JH g bb) λB iC=>.aK (Ξ:=λr:List (List Int)=>r.length=cf.length/\Sets cf.length r) ?_ λr ax=>.aC ax);refine Tot.upto (λs=>s.2) cf.length (λk s=>s.1.length=k/\Sets cf.length s.1) rfl (by omega) ⟨rfl,λr h=>by cases h⟩ λk s hk he bt=>?_;obtain ⟨L,i⟩:=s;obtain ⟨h1,al⟩:=bt;simp only at he h1 al ⊢;subst he;rw [eU k (by omega)];refine Tot.b_ (λbg=>?_) (λew=>.aC ⟨by show L.length=_; omega,al⟩);have bg:k<cf.length:=by omega
 have gi:=ie.ok _ (List.getElem_mem bg);rw [et bg];generalize cf[k]=t at *;simp only [Option.bind_some];refine .aK (gi.go hm) λto z_=>?_;obtain ⟨st,cp,lv⟩:=k9 z_.1 z_.2;have nz:=T6 cp;have ub:=hm.uv st lv;rw [cp];simp only [Option.bind_some];refine .aK (Ξ:=jy cf.length) ?_ λr ax=>?_
 ·refine Tot.upto (λs=>s.2) st.dE.length (λk s=>jy cf.length s.1) rfl (by omega) .nil λaf s aa he bt=>?_;obtain ⟨r,i⟩:=s;simp only at he bt ⊢;subst he;rw [eU af (by omega)];refine Tot.b_ (λbg=>?_) (λ_=>.aC bt);have bg:af<st.dE.length:=by omega
  have Dd:=List.getElem_mem bg;have hv:=hm.sym bb lv Dd;rw [et bg];generalize st.dE[af]=v at *;simp only [Option.bind_some];refine .aK (Ξ:=jy cf.length) ?_ λr ax=>.aC ⟨bg,rfl,ax⟩;refine .aK (Ξ:=λc:Bool=>c=true->1000<=v.Sym) (Tot.b_ (λh=>?_) (λ_=>.aC λh=>by cases h)) λc ae=>?_
  ·have hw:aL (v.Sym - 1000)=v.Sym - 1000:=by
    have:=hv.2.2 h;rw [dH]; omega
   rw [hw];obtain ⟨b,aJ,_⟩:=k9 (l:=B) (i:=v.Sym - 1000) (by omega) (by have:=hv.2.2 h; omega);rw [aJ];exact Tot.aw (.aC λ_=>h)
  ·refine .aK (Ξ:=jy cf.length) (Tot.cE (λh=>?_) (λ_=>.aC bt)) λr ax=>.aC ax;have xC:=ie.e6 to.toNat st v nz Dd (ae h);rw [show ((to.toNat:Nat):Int)=to by omega] at xC;refine .aK (ry cf to v.Sym vA) λz bH=>?_;exact .aK (bt.put (by omega) ⟨bH.2.2 xC,bH.2.1⟩) λr ax=>.aC ax.1
 ·refine .aK (Ξ:=λ_=>True) (Tot.ap (by simp [lim]; omega) trivial) λ_ _=>.aC ⟨bg,rfl,by simp; omega,Nh al ax⟩
theorem Pd (g:b3) (bb:gY g) {m:List State}(hm:lT g m) {cf:List Trans}(pq:pN m=some cf) (ie:u2 m cf):Tot (Be g m) λr=>r.length=cf.length/\Sets cf.length r:=by
 have aG:=bb.kQ;have C5:=bb.hZ;have zU:=bb.lP;have vA:=ie.n;unfold Be;rw [pq];refine Tot.aw (.aK (JH g bb) λB iC=>.aK (Ξ:=λr=>r=List.replicate cf.length ([]:List Int)) (Tot.mk (by simp [lim]; omega) (by simp)) λWl RG=>.aK (Ξ:=λr:List (List Int)=>r.length=cf.length/\Sets cf.length r) ?_ λr ax=>.aC ax);subst RG;have Wh:∀ {L:List (List Int)},(L.length=cf.length/\Sets cf.length L)->∀ {z:Int}{r fg:List Int},idx L z=some r->jy cf.length fg->(L.set z.toNat fg).length=cf.length/\Sets cf.length (L.set z.toNat fg):=λ{L} jR {z r fg} _ e2=>⟨by rw [List.length_set]; exact jR.1,λx J=>by
  rcases List.mem_or_eq_of_mem_set J with aU | aU
  ·exact jR.2 x aU
  ·rw [aU]; exact e2⟩
 refine Tot.upto (λs=>s.2) cf.length (λk s=>s.1.length=cf.length/\Sets cf.length s.1) rfl (by omega) ⟨by simp,λr h=>by rw [List.eq_of_mem_replicate h]; exact .nil⟩ λk s hk he bt=>?_;obtain ⟨L,i⟩:=s;simp only at he bt ⊢;subst he;rw [eU k (by omega)];refine Tot.b_ (λbg=>?_) (λew=>.aC bt);have bg:k<cf.length:=by omega
 have gi:=ie.ok _ (List.getElem_mem bg);rw [et bg];generalize cf[k]=t at *;simp only [Option.bind_some];refine .aK (Ξ:=λr:List (List Int)=>r.length=cf.length/\Sets cf.length r) ?_ λr ax=>.aC ⟨bg,rfl,ax⟩;refine Tot.upto (λs=>s.2) g.a8.length (λk s=>s.1.length=cf.length/\Sets cf.length s.1) rfl (by omega) bt λp s aH he bt=>?_;obtain ⟨L,i⟩:=s;simp only at he bt ⊢;subst he;rw [eU p (by omega)];refine Tot.b_ (λC3=>?_) (λew=>.aC bt);have C3:p<g.a8.length:=by omega
 have mC:=List.getElem_mem C3;rw [et C3];generalize g.a8[p]=q at *;have bW:=bb.hC q mC;have C':=bb.aM q mC;have vz:=MS bb mC iC;simp only [Option.bind_some];refine .aK (Ξ:=λr:List (List Int)=>r.length=cf.length/\Sets cf.length r) ?_ λr ax=>.aC ⟨C3,rfl,ax⟩;refine Tot.cE (λ_=>.aC bt) (λ_=>.aK (Ξ:=λr:List (List Int)=>r.length=cf.length/\Sets cf.length r) ?_ λr ax=>.aC ax);refine Tot.upto (λs=>s.2) q.fw.length (λk s=>s.1.length=cf.length/\Sets cf.length s.1) rfl (by omega) bt λaf s aa he bt=>?_;obtain ⟨L,i⟩:=s;simp only at he bt ⊢;subst he;rw [eU af (by omega)];refine Tot.b_ (λeo=>?_) (λew=>.aC bt);have eo:af<q.fw.length:=by omega
 rw [et eo];generalize q.fw[af]=y at *;simp only [Option.bind_some];refine .aK (Ξ:=λr:List (List Int)=>r.length=cf.length/\Sets cf.length r) ?_ λr ax=>.aC ⟨eo,rfl,ax⟩;refine .aK (Ξ:=λ_=>True) (Tot.b_ (λ_=>.aC trivial) (λ_=>?_)) λc _=>Tot.cE (λ_=>.aC bt) (λ_=>?_)
 ·refine .aK (Ξ:=λr=>r=q.fw.drop (af+1)) (Tot.sub ⟨by omega,by omega,by omega⟩ ?_) λr ax=>?_
  ·rw [List.take_of_length_le]
   ·congr 1
   ·rw [List.length_drop]; omega
  ·subst ax;exact .aK (JI B _ (by rw [List.length_drop]; omega) (λs aO=>vz s (List.mem_of_mem_drop aO)) (by omega)) λ_ _=>.aC trivial
 refine .aK (Ξ:=λr=>r.length<=8) (Tot.sub ⟨by omega,by omega,by omega⟩ (by rw [List.length_take,List.length_drop]; omega)) λr ax=>?_;obtain ⟨st,_,cp,_⟩:=gi;have GH:=nC cp;refine .aK (JP hm t.State r ⟨by omega,GH.2.1⟩ (by omega)) λz bH=>?_;refine .aK (Ξ:=λr:List (List Int)=>r.length=cf.length/\Sets cf.length r) (Tot.cE (λ_=>?_) (λ_=>.aC bt)) λr ax=>.aC ax;refine .aK (ry cf z y vA) λn aP=>?_;refine .aK (Ξ:=λr:List (List Int)=>r.length=cf.length/\Sets cf.length r) (Tot.b_ (λbf=>?_) (λ_=>.aC bt)) λr ax=>.aC ax;obtain ⟨yn,xK,GF⟩:=k9 (l:=L) bf (by rw [bt.1]; exact aP.2.1);rw [xK];refine Tot.aw (.aK ((bt.2 yn GF).put (by omega) ⟨by omega,by omega⟩) λfg e2=>.aC (Wh bt xK e2.1))
theorem O8 (g:b3) (bb:gY g) {m:List State}(hm:lT g m):Tot (A4 g m) λr=>∃ cf,pN m=some cf/\u2 m cf/\r.length=cf.length/\Sets g.a'.length r:=by
 have aG:=bb.kQ;unfold A4;refine .aK (Pb g bb hm) λoX h1=>?_;obtain ⟨cf,pq,ie,Gq,GG⟩:=h1;have vA:=ie.n;refine .aK (Pc g bb hm pq ie) λfR al=>.aK (JO g.a'.length (by omega) oX fR (by omega) (by omega) GG (by rw [Gq]; exact al.2)) λuF aS=>?_;refine .aK (Pd g bb hm pq ie) λr0 b7=>.aK (JO g.a'.length (by omega) uF r0 (by omega) (by omega) aS.2 (by rw [aS.1,Gq]; exact b7.2)) λuG dv=>?_;exact .aC ⟨cf,pq,ie,by omega,dv.2⟩
def pY (g:b3) (p:Int):Prop:=0<p/\p<g.a8.length
theorem O9 (g:b3) (bb:gY g) (K:List Item) (aq:K.length<=1000000):Tot (A5 g K) λr=>r.length<=540/\∀ p∈r,pY g p:=by
 unfold A5;refine .aK (EV g bb K aq) λc ae=>?_;have hG:=sh bb ae.1 λx J=>((ae.2 x).1 J).jm;refine .aK (Ξ:=λr:List Int=>r.length<=540/\∀ p∈r,pY g p) ?_ λr ax=>.aC ax;refine Tot.upto (λs=>s.2) c.length (λk s=>s.1.length<=k/\∀ p∈s.1,pY g p) rfl (by omega) ⟨Nat.le_refl 0,λp h=>by cases h⟩ λk s hk he bt=>?_;obtain ⟨L,i⟩:=s;obtain ⟨h1,al⟩:=bt;simp only at he h1 al ⊢;subst he;rw [eU k (by omega)];refine Tot.b_ (λbg=>?_) (λew=>.aC ⟨by show L.length<=_; omega,al⟩);have bg:k<c.length:=by omega
 have hi:=((ae.2 _).1 (List.getElem_mem bg)).jm;rw [et bg];generalize c[k]=x at *;obtain ⟨q,bW,aS,b7⟩:=hi;simp only [Option.bind_some];refine .aK (Ξ:=λL:List Int=>L.length<=k+1/\∀ p∈L,pY g p) ?_ λr ax=>.aC ⟨bg,rfl,ax⟩;refine .aK (Ξ:=λc:Bool=>c=true->0<x.Prod) (Tot.b_ (λh=>?_) (λ_=>.aC λh=>by cases h)) λc ae=>?_
 ·rw [bW]; exact Tot.aw (.aC λ_=>h)
 refine .aK (Ξ:=λL:List Int=>L.length<=k+1/\∀ p∈L,pY g p) (Tot.cE (λh=>?_) (λ_=>.aC ⟨by omega,al⟩)) λr ax=>.aC ax;refine .aK (Ξ:=λ_=>True) (Tot.ap (by simp [lim]; omega) trivial) λ_ _=>.aC ⟨by simp; omega,λp aH=>?_⟩;rcases List.mem_append.1 aH with aH | aH
 ·exact al p aH
 ·rw [List.mem_singleton.1 aH]; exact ⟨ae h,(nC bW).2.1⟩
theorem O_ (g:b3) (bb:gY g) {m:List State}(hm:lT g m) {cf:List Trans}(pq:pN m=some cf) (ie:u2 m cf) (q p:Int):Tot (A6 g m q p) λr=>r.length<=9600/\∀ x∈r,0<=x/\x<cf.length:=by
 have vA:=ie.n;have zU:=bb.lP;have C5:=bb.hZ;unfold A6;refine .aK (Ξ:=λc:Bool=>c=false->0<=p/\p<g.a8.length) (Tot.b_ (λ_=>.aC λh=>by cases h) (λ_=>Tot.b_ (λ_=>.aC λh=>by cases h) (λ_=>Tot.b_ (λ_=>.aC λh=>by cases h) (λh=>.aC λaU=>by have:=of_decide_eq_false aU; omega)))) λc ae=>Tot.cE (λ_=>.aC ⟨Nat.zero_le _,λx h=>by cases h⟩) (λh=>?_);obtain ⟨bf,h1⟩:=ae h;rw [pq];refine Tot.aw ?_;refine .aK (Ξ:=λr:List Int=>r.length<=9600/\∀ x∈r,0<=x/\x<cf.length) ?_ λr ax=>.aC ax;obtain ⟨hC,GD,S8⟩:=k9 bf h1;have C':=bb.aM hC S8;refine Tot.upto (λs=>s.2) cf.length (λk s=>s.1.length<=k/\∀ x∈s.1,0<=x/\x<cf.length) rfl (by omega) ⟨Nat.le_refl 0,λp h=>by cases h⟩ λk s hk he bt=>?_;obtain ⟨L,i⟩:=s;obtain ⟨al,aS⟩:=bt;simp only at he al aS ⊢;subst he;rw [eU k (by omega)];refine Tot.b_ (λbg=>?_) (λew=>.aC ⟨by show L.length<=_; omega,aS⟩);have bg:k<cf.length:=by omega
 have gi:=ie.ok _ (List.getElem_mem bg);rw [et bg,GD];generalize cf[k]=t at *;obtain ⟨st,_,cp,_⟩:=gi;have GH:=nC cp;simp only [Option.bind_some];refine .aK (Ξ:=λL:List Int=>L.length<=k+1/\∀ x∈L,0<=x/\x<cf.length) ?_ λr ax=>.aC ⟨bg,rfl,ax⟩;refine .aK (Ξ:=λ_=>True) (Tot.b_ (λh=>?_) (λ_=>.aC trivial)) λc ae=>?_
 ·exact .aK (JP hm t.State hC.fw ⟨by omega,GH.2.1⟩ (by omega)) λ_ _=>.aC trivial
 refine .aK (Ξ:=λL:List Int=>L.length<=k+1/\∀ x∈L,0<=x/\x<cf.length) (Tot.cE (λh=>?_) (λ_=>.aC ⟨by omega,aS⟩)) λr ax=>.aC ax;refine .aK (Ξ:=λ_=>True) (Tot.ap (by simp [lim]; omega) trivial) λ_ _=>.aC ⟨by simp; omega,λp aH=>?_⟩;rcases List.mem_append.1 aH with aH | aH
 ·exact aS p aH
 ·rw [List.mem_singleton.1 aH]; exact ⟨by omega,by omega⟩
structure wW (g:b3) (l:j8):Prop where
 p:pY g l.Prod
 t:jy g.a'.length l.a'
theorem xf (g:b3) (bb:gY g) {m:List State}(hm:lT g m):Tot (AW g m) λr=>r.length<=81000/\∀ l∈r,wW g l:=by
 have aG:=bb.kQ;have xJ:=hm.lN;unfold AW;refine .aK (O8 g bb hm) λF aQ=>?_;obtain ⟨cf,pq,ie,WS,jB⟩:=aQ;have vA:=ie.n;refine .aK (Ξ:=λr:List j8=>r.length<=81000/\∀ l∈r,wW g l) ?_ λr ax=>.aC ax;refine Tot.upto (λs=>s.2) m.length (λk s=>s.1.length<=540 * k/\∀ l∈s.1,wW g l) rfl (by omega) ⟨Nat.le_refl 0,λp h=>by cases h⟩ λk s hk he bt=>?_;obtain ⟨L,i⟩:=s;obtain ⟨h1,al⟩:=bt;simp only at he h1 al ⊢;subst he;rw [eU k (by omega)];refine Tot.b_ (λbg=>?_) (λew=>.aC ⟨by show L.length<=_; omega,al⟩);have bg:k<m.length:=by omega
 have eJ:=hm.pH _ (List.getElem_mem bg);rw [et bg];generalize m[k]=st at *;refine Tot.aw (.aK (O9 g bb st.Kernel (by have:=eJ.len bb; omega)) λE k3=>?_);obtain ⟨WQ,Ry⟩:=k3;refine .aK (Ξ:=λL:List j8=>L.length<=540 * (k+1)/\∀ l∈L,wW g l) ?_ λr ax=>.aC ⟨bg,rfl,ax⟩;refine Tot.upto (λs=>s.2) E.length (λaf s=>s.1.length<=540 * k+af/\∀ l∈s.1,wW g l) rfl (by omega) ⟨h1,al⟩ λaf s aa he bt=>?_;obtain ⟨L,i⟩:=s;obtain ⟨h1,al⟩:=bt;simp only at he h1 al ⊢;subst he;rw [eU af (by omega)];refine Tot.b_ (λeo=>?_) (λew=>.aC ⟨by show L.length<=_; omega,al⟩);have eo:af<E.length:=by omega
 have aH:=Ry _ (List.getElem_mem eo);rw [et eo];generalize E[af]=p at *;simp only [Option.bind_some];refine .aK (O_ g bb hm pq ie k p) λB iC=>?_;obtain ⟨WN,Rv⟩:=iC;refine .aK (Ξ:=jy g.a'.length) ?_ λS b5=>?_
 ·refine Tot.upto (λs=>s.2) B.length (λ_ s=>jy g.a'.length s.1) rfl (by omega) .nil λb s aJ he bt=>?_;obtain ⟨S,i⟩:=s;simp only at he bt ⊢;subst he;rw [eU b (by omega)];refine Tot.b_ (λxH=>?_) (λew=>.aC bt);have xH:b<B.length:=by omega
  have J:=Rv _ (List.getElem_mem xH);rw [et xH];generalize B[b]=x at *;obtain ⟨row,oJ,GF⟩:=k9 (l:=F) J.1 (by omega);have lK:=jB row GF;have oI:=lK.len;simp only [Option.bind_some,oJ];refine .aK (Ξ:=jy g.a'.length) ?_ λS b5=>.aC ⟨xH,rfl,b5⟩;refine Tot.upto (λs=>s.2) row.length (λ_ s=>jy g.a'.length s.1) rfl (by omega) bt λz s bH he bt=>?_;obtain ⟨S,i⟩:=s;simp only at he bt ⊢;subst he;rw [eU z (by omega)];refine Tot.b_ (λpz=>?_) (λew=>.aC bt);have pz:z<row.length:=by omega
  rw [et pz];exact Tot.aw (.aK (bt.put (by omega) (lK.i _ (List.getElem_mem pz))) λr ax=>.aC ⟨pz,rfl,ax.1⟩)
 ·refine .aK (Ξ:=λ_=>True) (Tot.ap (by simp [lim]; omega) trivial) λ_ _=>.aC ⟨eo,rfl,by simp; omega,λl aq=>?_⟩;rcases List.mem_append.1 aq with aq | aq
  ·exact al l aq
  ·rw [List.mem_singleton.1 aq]; exact ⟨aH,b5⟩
def nL (c:Cell):Nat:=c.a8.length+(if 0<=c.gw then 1 else 0)+(if c.jc then 1 else 0)
theorem VN {x:Option Int}{c:Cell}(aq:c.a8.length<=1000) (e:x=(((bif decide (0<=c.gw) then
some (aL ((c.a8.length:Int)+1))
else
some (c.a8.length:Int))).bind λjn =>
((bif c.jc then
some (aL (jn+1))
else
some jn)).bind λdM =>
some dM)):x=some (nL c:Int):=by
 subst e;have hw:aL ((c.a8.length:Int)+1)=(c.a8.length:Int)+1:=by rw [dH]; omega
 have sW:aL ((c.a8.length:Int)+1+1)=(c.a8.length:Int)+1+1:=by rw [dH]; omega
 unfold nL;by_cases h:0<=c.gw
 ·cases al:c.jc <;> simp [h,hw,sW]
 ·cases al:c.jc <;> simp [h,hw]
theorem Kd (c:Cell) (aq:c.a8.length<=1000):yh c=some (nL c:Int):=VN aq (by unfold yh; rfl)
structure nO (g:b3) (n:Nat) (c:Cell):Prop where
 s:0<=c.State/\c.State<n
 t:0<=c.bM/\c.bM<g.a'.length
 f:-1<=c.gw/\c.gw<n
 p:gk iE c.a8
 q:∀ p∈c.a8,pY g p
 VJ:0<nL c
theorem nO.len {g:b3}(bb:gY g) {n:Nat}{c:Cell}(h:nO g n c):c.a8.length<=60:=by
 have:=bb.lP;have:=jy.len (T:=g.a8.length) ⟨h.p,λx J=>⟨by have:=(h.q x J).1; omega,(h.q x J).2⟩⟩;omega
def wL (a b:Cell):Prop:=a.State<b.State\/(a.State=b.State/\a.bM<b.bM)
structure wM (g:b3) (n:Nat) (l:List Cell):Prop where
 ok:∀ c∈l,nO g n c
 UB:l.Pairwise wL
 n:l.length<=6000
theorem O5 (g:b3) (bb:gY g) {m:List State}(hm:lT g m) (uu:List j8) (aq:uu.length<=81000) (hk:∀ l∈uu,wW g l):Tot (AV g m uu) (wM g m.length):=by
 have aG:=bb.kQ;have xJ:=hm.lN;have zU:=bb.lP;unfold AV;refine .aK (Ξ:=wM g m.length) ?_ λr ax=>.aC ax;refine Tot.upto (λs=>s.2) m.length (λk s=>s.1.length<=40 * k/\(∀ c∈s.1,nO g m.length c)/\s.1.Pairwise wL/\∀ c∈s.1,c.State<k) rfl (by omega) ⟨Nat.le_refl 0,λp h=>(by cases h),.nil,λp h=>by cases h⟩ λk s C2 he bt=>?_;obtain ⟨L,i⟩:=s;obtain ⟨h1,al,aS,b7⟩:=bt;simp only at he h1 al aS b7 ⊢;subst he;rw [eU k (by omega)];refine Tot.b_ (λbg=>?_) (λew=>.aC ⟨al,aS,by show L.length<=_; omega⟩);have bg:k<m.length:=by omega
 have eJ:=hm.pH _ (List.getElem_mem bg);rw [et bg];generalize m[k]=st at *;have WT:=eJ.len bb;refine .aK (Ξ:=λL:List Cell=>L.length<=40 * (k+1)/\(∀ c∈L,nO g m.length c)/\L.Pairwise wL/\∀ c∈L,c.State<(k+1:Nat)) ?_ λr ax=>.aC ⟨bg,rfl,ax⟩;refine Tot.upto (λs=>s.2) g.a'.length (λaf s=>s.1.length<=40 * k+af/\(∀ c∈s.1,nO g m.length c)/\s.1.Pairwise wL/\∀ c∈s.1,c.State<k\/(c.State=k/\c.bM<af)) rfl (by omega) ⟨h1,al,aS,λc ae=>.inl (b7 c ae)⟩ λaf s aa he bt=>?_;obtain ⟨L,i⟩:=s;obtain ⟨h1,al,aS,b7⟩:=bt;simp only at he h1 al aS b7 ⊢;subst he;rw [eU af (by omega)];refine Tot.b_ (λeo=>?_) (λew=>.aC ⟨by show L.length<=_; omega,al,aS,λc ae=>by rcases b7 c ae with h | h <;> omega⟩);refine .aK (Ξ:=λL:List Cell=>L.length<=40 * k+(af+1)/\(∀ c∈L,nO g m.length c)/\L.Pairwise wL/\∀ c∈L,c.State<k\/(c.State=k/\c.bM<(af+1:Nat))) ?_ λr ax=>.aC ⟨by omega,rfl,ax⟩;refine .aK (Cl m k af hm.uv) λfD Tg=>?_;have Th:=Tg.w_ hm;refine .aK (Ξ:=λ_=>True) ?_ λac _=>?_
 ·refine Tot.upto (λs=>s.2) st.Kernel.length (λ_ _=>True) rfl (by omega) trivial λz s bH he _=>?_;obtain ⟨b,i⟩:=s;simp only at he ⊢;subst he;rw [eU z (by omega)];simp only [Option.bind_some];refine Tot.b_ (λpz=>?_) (λ_=>.aC trivial);have pz:z<st.Kernel.length:=by omega
  rw [et pz];simp only [Option.bind_some];refine .aK (Ξ:=λ_=>True) (Tot.cE (λ_=>.aC trivial) (λ_=>Tot.b_ (λ_=>Tot.b_ (λ_=>.aC trivial) (λ_=>.aC trivial)) (λ_=>.aC trivial))) λ_ _=>.aC ⟨pz,rfl,trivial⟩
 refine .aK (Ξ:=λP:List Int=>gk iE P/\∀ p∈P,pY g p) ?_ λP di=>?_
 ·refine Tot.upto (λs=>s.2) uu.length (λ_ s=>gk iE s.1/\∀ p∈s.1,pY g p) rfl (by omega) ⟨.nil,λp h=>by cases h⟩ λz s bH he bt=>?_;obtain ⟨P,i⟩:=s;obtain ⟨g1,g2⟩:=bt;simp only at he g1 g2 ⊢;subst he;rw [eU z (by omega)];refine Tot.b_ (λpz=>?_) (λew=>.aC ⟨g1,g2⟩);have pz:z<uu.length:=by omega
  have jR:=hk _ (List.getElem_mem pz);rw [et pz];generalize uu[z]=l at *;have GK:=jR.t.len;have CT:=jy.len (T:=g.a8.length) ⟨g1,λx J=>⟨by have:=(g2 x J).1; omega,(g2 x J).2⟩⟩;simp only [Option.bind_some];refine .aK (Ξ:=λP:List Int=>gk iE P/\∀ p∈P,pY g p) ?_ λr ax=>.aC ⟨pz,rfl,ax⟩;refine .aK (Ξ:=λ_=>True) (Tot.b_ (λ_=>.aK (JM l.a' af (by omega)) λ_ _=>.aC trivial) (λ_=>.aC trivial)) λc _=>?_;refine .aK (Ξ:=λP:List Int=>gk iE P/\∀ p∈P,pY g p) (Tot.cE (λ_=>?_) (λ_=>.aC ⟨g1,g2⟩)) λr ax=>.aC ax;refine .aK (Cm P l.Prod g1 (by omega)) λr ax=>.aC ⟨ax.1,λp aH=>?_⟩;rcases (ax.2.2 p).1 aH with h | rfl
  ·exact g2 p h
  ·exact jR.p
 ·have CT:=jy.len (T:=g.a8.length) ⟨di.1,λx J=>⟨by have:=(di.2 x J).1; omega,(di.2 x J).2⟩⟩;rw [Kd _ (by show P.length<=_; omega)];refine Tot.aw (.aK (Ξ:=λL:List Cell=>L.length<=40 * k+(af+1)/\(∀ c∈L,nO g m.length c)/\L.Pairwise wL/\∀ c∈L,c.State<k\/(c.State=k/\c.bM<(af+1:Nat))) (Tot.b_ (λbf=>?_) (λ_=>.aC ⟨by omega,al,aS,λc ae=>by rcases b7 c ae with h | h <;> omega⟩)) λr ax=>.aC ax);refine .aK (Ξ:=λ_=>True) (Tot.ap (by simp [lim]; omega) trivial) λ_ _=>.aC ⟨by simp; omega,λc ae=>?_,List.pairwise_append.2 ⟨aS,List.pairwise_singleton ..,λa bk b aJ=>?_⟩,λc ae=>?_⟩
  ·rcases List.mem_append.1 ae with ae | ae
   ·exact al c ae
   ·rw [List.mem_singleton.1 ae];exact ⟨⟨by show (0:Int)<=k; omega,by show (k:Int)<_; omega⟩,⟨by show (0:Int)<=af; omega,by show (af:Int)<_; omega⟩,Th,di.1,di.2,by omega⟩
  ·rw [List.mem_singleton.1 aJ];rcases b7 a bk with h | h
   ·exact .inl h
   ·exact .inr h
  ·rcases List.mem_append.1 ae with ae | ae
   ·rcases b7 c ae with h | h
    ·exact .inl h
    ·exact .inr ⟨h.1,by omega⟩
   ·rw [List.mem_singleton.1 ae];exact .inr ⟨rfl,by show (af:Int)<_; omega⟩
open Go Go.Own
theorem iS.Uu {m:jx}{T L:Nat}(h:iS m T L):kV m (3+T) m.bK.length 0 0 :=
 ⟨h.iB,h.lo,h.hi,by have:=h.ty; omega,rfl,by rw [h.hL]; decide,by rw [h.hC]; exact Nat.le_refl 0,by rw [h.hC]; exact λp aH=>absurd aH (by simp),h.lvl,h.j4⟩
theorem t78 (s:Source) (aJ:sd s):Tot (A9 s) λr=>r.2.1=0->gY r.1:=by
 unfold A9;refine .aK (t92 s aJ) λc ae=>Tot.cE (λ_=>.aC λh=>absurd h (by decide)) (λiZ=>?_);have ok:I7 s:=ae (by simpa using iZ);refine .aK (Tot.mk (by decide) (rfl:List.replicate (3:Int).toNat false=List.replicate (3:Int).toNat false)) λa6 hK=>?_;have W1:=aJ.Fe;have C':=aJ.aM
 -- declarations
 refine Tot.aK (Ξ:=λr=>iS r.1 (1001 * 1000) 0) ?_ λb' dv=>?_
 ·refine Tot.count (λz=>z.2.2) s.Decls.length (λz=>0<=z.2.2/\z.2.2<=s.Decls.length/\iS z.1 (1001 * z.2.2.toNat) 0/\z.1.bZ<=z.2.2) ⟨Int.le_refl 0,by show (0:Int)<=_; omega,⟨by show a6.length=3; rw [<- hK]; rfl,Nat.le_refl 3,Nat.le_refl 3,Nat.le_refl 0,Nat.le_refl 0,rfl,rfl,Int.le_refl 0,by show ∀ t∈[_,_,_],0<=bM.Level t; simp⟩,Int.le_refl 0⟩ (by show (s.Decls.length:Int) - 0<_; omega) λz bH=>?_;obtain ⟨m,st,i⟩:=z;obtain ⟨bf,h1,hm,qP⟩:=bH;simp only at bf h1 hm qP ⊢;have hw:aL (i+1)=i+1:=by rw [dH]; omega
  rw [hw];have Gp:=hm.lvl;refine Tot.b_ (λbg=>?_) (λ_=>.aC (hm.mono (by omega) (Nat.le_refl _)));refine .aK (Tot.ht (Φ:=λy=>y∈s.Decls) bf bg λy _ aA=>aA) λd aZ=>?_;have sD:=aJ.decls d aZ;have Lh:=sD.n;refine .aK (Ξ:=λ_=>True) (Tot.cE (λ_=>.aC trivial) (λ_=>.aC trivial)) λjA _=>.aK (Ξ:=λaf=>0<=af/\af<=i+1) (Tot.cE (λ_=>.aC (by rw [dH]; omega)) (λ_=>.aC (by omega))) λhg xu=>?_;refine Tot.aK (Ξ:=λr=>iS r.1 (1001 * i.toNat+1000) 0/\r.1.bZ<=i+1) ?_ λdb tM=>.aC ⟨⟨?_,?_,?_,?_⟩,?_,?_⟩
  ·refine Tot.count (λz=>z.2.2) d.e0.length (λz=>0<=z.2.2/\z.2.2<=d.e0.length/\iS z.1 (1001 * i.toNat+z.2.2.toNat) 0/\z.1.bZ<=i+1) ⟨Int.le_refl 0,by show (0:Int)<=_; omega,⟨hm.iB,hm.lo,hm.hi,hm.ty,hm.hY,hm.hC,hm.hL,xu.1,hm.j4⟩,xu.2⟩ (by show (d.e0.length:Int) - 0<_; omega) λz bH=>?_;obtain ⟨m,st,k⟩:=z;obtain ⟨g0,g1,hm,qP⟩:=bH;simp only at g0 g1 hm qP ⊢;have sX:aL (k+1)=k+1:=by rw [dH]; omega
   rw [sX];refine Tot.b_ (λzO=>?_) (λ_=>.aC ⟨hm.mono (by omega) (Nat.le_refl _),qP⟩);have Dn:Tot (idx d.e0 k) λy=>y∈d.e0:=Tot.ht g0 zO λy _ aA=>aA;refine Tot.aK (Ξ:=λaf=>iS af.1 (1001 * i.toNat+k.toNat+1) 0/\af.1.bZ<=i+1) ?_ λaf aa=>.aC ⟨⟨?_,?_,?_,aa.2⟩,?_,?_⟩
   ·refine Tot.cE (λ_=>?_) (λ_=>?_)
    ·refine .aK Dn λx J=>.aK (t93 m d x hm.iB (by have:=hm.hi; omega) (by have:=hm.ty; omega) (ok.decls d aZ x J)) λcb bb=>.aC ⟨hm.grow bb,by show cb.bZ<=_; rw [bb.lvl]; exact qP⟩
    ·refine Tot.aK (Ξ:=λaf=>iS af (1001 * i.toNat+k.toNat+1) 0/\af.bZ<=i+1) ?_ λaf aa=>.aK Dn λ_ _=>.aC aa;refine Tot.cE (λ_=>?_) (λ_=>.aC ⟨hm.mono (by omega) (Nat.le_refl _),qP⟩);exact .aK Dn λ_ _=>.aK Dn λ_ _=>.aK (t94 m _ _) λcb kq=>.aC ⟨(hm.same kq.1).mono (by omega) (Nat.le_refl _),by rw [kq.1.j4]; exact qP⟩
   ·show 0<=k+1; omega
   ·show k+1<=(d.e0.length:Int); omega
   ·show iS af.1 (1001 * i.toNat+(k+1).toNat) 0;exact aa.1.mono (by omega) (Nat.le_refl _)
   ·show k<k+1; omega
   ·show k+1<=(d.e0.length:Int); omega
  ·show 0<=i+1; omega
  ·show i+1<=(s.Decls.length:Int); omega
  ·show iS db.1 (1001 * (i+1).toNat) 0;exact tM.1.mono (by omega) (Nat.le_refl _)
  ·exact tM.2
  ·show i<i+1; omega
  ·show i+1<=(s.Decls.length:Int); omega
 -- what stands on the left
 refine Tot.aK (Ξ:=λr=>iS r (1001 * 1000) 1000) ?_ λdc Q_=>?_
 ·refine Tot.count (λz=>z.2) s.dw.length (λz=>0<=z.2/\z.2<=s.dw.length/\iS z.1 (1001 * 1000) z.2.toNat) ⟨Int.le_refl 0,by show (0:Int)<=_; omega,dv⟩ (by show (s.dw.length:Int) - 0<_; omega) λz bH=>?_;obtain ⟨m,i⟩:=z;obtain ⟨bf,h1,hm⟩:=bH;simp only at bf h1 hm ⊢;have hw:aL (i+1)=i+1:=by rw [dH]; omega
  rw [hw];refine Tot.b_ (λbg=>?_) (λ_=>.aC (hm.mono (Nat.le_refl _) (by omega)));have tZ:=hm.hi;have xG:=hm.hY;refine Tot.aK (Ξ:=λaf=>iS af (1001 * 1000) (i.toNat+1)) ?_ λaf aa=>.aC ⟨⟨?_,?_,?_⟩,?_,?_⟩
  ·refine .aK (Tot.ht (Φ:=λ_=>True) bf bg λy _ aA=>trivial) λr ax=>.aK (t95 m _ (by simp only [e3]; omega)) λt _=>?_;refine Tot.aK (Ξ:=λaf=>iS af (1001 * 1000) i.toNat) ?_ λfK sC=>?_
   ·exact Tot.cE (λ_=>.aK (t94 m _ _) λcb kq=>.aC (hm.same kq.1)) (λ_=>.aC hm)
   ·have Xc:=sC.hY;refine .aK (t96 fK _ (by simp only [e3]; omega)) λk _=>?_;refine Tot.aK (Ξ:=λl=>l.length<=i.toNat+1) ?_ λl aq=>.aC ⟨sC.iB,sC.lo,sC.hi,sC.ty,aq,sC.hC,sC.hL,sC.lvl,sC.j4⟩;refine Tot.cE (λ_=>?_) (λ_=>.aC (by omega));exact .aK (Ξ:=λ_=>True) (Tot.ap (by simp [lim]; omega) trivial) λ_ _=>.aC (by simp; omega)
  ·show 0<=i+1; omega
  ·show i+1<=(s.dw.length:Int); omega
  ·show iS af (1001 * 1000) (i+1).toNat;exact aa.mono (Nat.le_refl _) (by omega)
  ·show i<i+1; omega
  ·show i+1<=(s.dw.length:Int); omega
 -- types and starts
 refine Tot.aK (Ξ:=λr=>iS r (1001 * 1000) 1000) ?_ λbX zs=>?_
 ·refine Tot.count (λz=>z.2) s.Decls.length (λz=>0<=z.2/\z.2<=s.Decls.length/\iS z.1 (1001 * 1000) 1000) ⟨Int.le_refl 0,by show (0:Int)<=_; omega,Q_⟩ (by show (s.Decls.length:Int) - 0<_; omega) λz bH=>?_;obtain ⟨m,i⟩:=z;obtain ⟨bf,h1,hm⟩:=bH;simp only at bf h1 hm ⊢;have hw:aL (i+1)=i+1:=by rw [dH]; omega
  rw [hw];refine Tot.b_ (λbg=>?_) (λ_=>.aC hm);refine Tot.aK (Ξ:=λr=>iS r (1001 * 1000) 1000) ?_ λo4 Rc=>.aC ⟨⟨?_,?_,Rc⟩,?_,?_⟩
  ·have l7:i.toNat<s.Decls.length:=by omega
   have hi:idx s.Decls i=some s.Decls[i.toNat]:=by simp [idx,bf,l7]
   rw [hi];generalize aZ:s.Decls[i.toNat]=d;have lJ:d∈s.Decls:=by rw [<- aZ]; exact List.getElem_mem l7
   have Lh:=(aJ.decls d lJ).n;refine Tot.count (λz=>z.2) d.e0.length (λz=>0<=z.2/\z.2<=d.e0.length/\iS z.1 (1001 * 1000) 1000) ⟨Int.le_refl 0,by show (0:Int)<=_; omega,hm⟩ (by show (d.e0.length:Int) - 0<_; omega) λz bH=>?_;obtain ⟨m,k⟩:=z;obtain ⟨g0,g1,hm⟩:=bH;simp only at g0 g1 hm ⊢;have sX:aL (k+1)=k+1:=by rw [dH]; omega
   rw [sX];refine Tot.aw (Tot.b_ (λzO=>?_) (λ_=>.aC hm));have xG:=hm.hY;refine Tot.aK (Ξ:=λaf=>iS af (1001 * 1000) 1000) ?_ λaf aa=>.aC ⟨⟨?_,?_,aa⟩,?_,?_⟩
   ·refine Tot.aw (.aK (Tot.ht (Φ:=λ_=>True) g0 zO λ_ _ _=>trivial) λx _=>?_);refine .aK (Ξ:=λ_=>True) (Tot.aw (Tot.cE (λ_=>.aK (t96 m _ (by simp only [e3]; omega)) λ_ _=>.aC trivial) (λ_=>.aC trivial))) λc _=>?_;refine Tot.aK (Ξ:=λaf=>iS af (1001 * 1000) 1000) ?_ λaf aa=>.aC aa;exact Tot.cE (λ_=>.aK (t94 m _ _) λcb kq=>.aC (hm.same kq.1)) (λ_=>.aC hm)
   ·show 0<=k+1; omega
   ·show k+1<=(d.e0.length:Int); omega
   ·show k<k+1; omega
   ·show k+1<=(d.e0.length:Int); omega
  ·show 0<=i+1; omega
  ·show i+1<=(s.Decls.length:Int); omega
  ·show i<i+1; omega
  ·show i+1<=(s.Decls.length:Int); omega
 -- the start
 have ue:=ok.pos;refine Tot.aK (Ξ:=λ_=>True) (Tot.cE (λ_=>.aK (Ξ:=λ_=>True) (Tot.ht (by decide) (by omega) λ_ _ _=>trivial) λ_ _=>.aC trivial) (λ_=>.aC trivial)) λvN _=>?_;have Xe:=zs.hY;refine .aK (t96 bX vN (by simp only [e3]; omega)) λij p7=>?_;have Rk:-1<=ij/\ij<bX.bK.length:=by rcases p7 with h | h <;> omega
 -- the alternatives
 have jR:bX.bK.length<=1000:=zs.hY;generalize RH:bX.bK.length=L at jR Rk;refine Tot.aK (Ξ:=λr=>kV r (3+1001 * 1000+1001 * 1000000) L (1001 * 1000000) (1+1001 * 1000000)/\1<=r.av.a8.length) ?_ λbc Rl=>?_
 ·have sP:=zs.Uu;rw [RH] at sP;refine Tot.count (λz=>z.2) s.dw.length (λz=>0<=z.2/\z.2<=s.dw.length/\kV z.1 (3+1001 * 1000+1001 * (1000 * z.2.toNat)) L (1001 * (1000 * z.2.toNat)) (1+1001 * (1000 * z.2.toNat))/\1<=z.1.av.a8.length) ⟨Int.le_refl 0,by show (0:Int)<=_; omega,⟨sP.iB,sP.lo,sP.hi,sP.ty,sP.hY,sP.hL,Nat.le_refl 1,λp aH=>?_,sP.lvl,sP.j4⟩,Nat.le_refl 1⟩ (by show (s.dw.length:Int) - 0<_; omega) λz bH=>?_
  ·rw [List.mem_singleton.1 aH];have W5:=zs.hL;have mx:=zs.lo;refine ⟨⟨Int.le_refl 0,by show (0:Int)<=L+bX.bD; omega⟩,λy aA=>?_,⟨by show (-1:Int)<=-1; omega,by show (-1:Int)<_; omega⟩⟩;have aA:y∈[aL (1001+ij)]:=aA;rw [List.mem_singleton.1 aA];have:aL (1001+ij)=1001+ij:=by rw [dH]; omega
   rw [this];exact .inr (by show 1000<=1001+ij/\1001+ij<=1000+((L:Int)+bX.bD); omega)
  ·obtain ⟨m,i⟩:=z;obtain ⟨bf,h1,hm,ud⟩:=bH;simp only at bf h1 hm ud ⊢;have hw:aL (i+1)=i+1:=by rw [dH]; omega
   rw [hw];refine Tot.b_ (λbg=>?_) (λ_=>.aC ⟨hm.mono (by omega) (by omega) (by omega),ud⟩);refine Tot.aK (Ξ:=λr=>kV r (3+1001 * 1000+1001 * (1000 * (i.toNat+1))) L (1001 * (1000 * (i.toNat+1))) (1+1001 * (1000 * (i.toNat+1)))/\1<=r.av.a8.length) ?_ λkx CN=>.aC ⟨⟨?_,?_,?_,CN.2⟩,?_,?_⟩
   ·have l7:i.toNat<s.dw.length:=by omega
    have hi:idx s.dw i=some s.dw[i.toNat]:=by simp [idx,bf,l7]
    rw [hi];generalize aZ:s.dw[i.toNat]=d;have lJ:d∈s.dw:=by rw [<- aZ]; exact List.getElem_mem l7
    have Lh:=(aJ.rules d lJ).n;refine Tot.count (λz=>z.2) d.eY.length (λz=>0<=z.2/\z.2<=d.eY.length/\kV z.1 (3+1001 * 1000+1001 * (1000 * i.toNat+z.2.toNat)) L (1001 * (1000 * i.toNat+z.2.toNat)) (1+1001 * (1000 * i.toNat+z.2.toNat))/\1<=z.1.av.a8.length) ⟨Int.le_refl 0,by show (0:Int)<=_; omega,hm,ud⟩ (by show (d.eY.length:Int) - 0<_; omega) λz bH=>?_;obtain ⟨m,k⟩:=z;obtain ⟨g0,g1,hm,ud⟩:=bH;simp only at g0 g1 hm ud ⊢;have sX:aL (k+1)=k+1:=by rw [dH]; omega
    rw [sX];refine Tot.aw (Tot.b_ (λzO=>?_) (λ_=>.aC ⟨hm.mono (by omega) (by omega) (by omega),ud⟩));refine Tot.aw (Tot.aw (.aK (Tot.ht (Φ:=λy=>y∈d.eY) g0 zO λ_ _ h=>h) λa bk=>?_));refine .aK (t97 m d.Left a hm (by omega) (by omega) (by omega) (by omega) ((aJ.rules d lJ).alts a bk) (ok.rules d lJ a bk)) λcb kq=>.aC ⟨⟨?_,?_,?_,kq.2⟩,?_,?_⟩
    ·show 0<=k+1; omega
    ·show k+1<=(d.eY.length:Int); omega
    ·show kV cb (3+1001 * 1000+1001 * (1000 * i.toNat+(k+1).toNat)) L (1001 * (1000 * i.toNat+(k+1).toNat)) (1+1001 * (1000 * i.toNat+(k+1).toNat));exact kq.1.mono (by omega) (by omega) (by omega)
    ·show k<k+1; omega
    ·show k+1<=(d.eY.length:Int); omega
   ·show 0<=i+1; omega
   ·show i+1<=(s.dw.length:Int); omega
   ·show kV kx (3+1001 * 1000+1001 * (1000 * (i+1).toNat)) L (1001 * (1000 * (i+1).toNat)) (1+1001 * (1000 * (i+1).toNat));exact CN.1.mono (by omega) (by omega) (by omega)
   ·show i<i+1; omega
   ·show i+1<=(s.dw.length:Int); omega
 obtain ⟨rK,Rm⟩:=Rl;refine Tot.rB (λh=>.aC λaU=>absurd aU h) (λhe=>?_);have WD:=rK.hY;have WB:=rK.hi;have WG:=rK.ty;have WC:=rK.hL;have WE:=rK.ym
 -- nonterminals
 refine Tot.aK (Ξ:=λl=>l.length=1+L) ?_ λwB WI=>?_
 ·refine Tot.count (λz=>z.2) bc.bK.length (λz=>0<=z.2/\z.2<=bc.bK.length/\z.1.length=1+z.2.toNat) ⟨Int.le_refl 0,by show (0:Int)<=_; omega,rfl⟩ (by show (bc.bK.length:Int) - 0<_; omega) λz bH=>?_;obtain ⟨l,i⟩:=z;obtain ⟨bf,h1,aq⟩:=bH;simp only at bf h1 aq ⊢;have hw:aL (i+1)=i+1:=by rw [dH]; omega
  rw [hw];refine Tot.b_ (λbg=>?_) (λ_=>.aC (by show l.length=1+L; omega));refine .aK (Tot.ht (Φ:=λ_=>True) bf bg λ_ _ _=>trivial) λml _=>.aK (t98 _ _ (by show bc.b0.length<=_; simp only [e3]; omega)) λwC Rn=>?_;have WJ:wC=-1\/(0<=wC/\wC<bc.b0.length):=Rn;refine .aK (Ξ:=λ_=>True) (Tot.b_ (λh=>.aK (Ξ:=λ_=>True) (Tot.ht h (by omega) λ_ _ _=>trivial) λ_ _=>.aC trivial) (λ_=>.aC trivial)) λqg _=>?_;refine .aK (Ξ:=λ_=>True) (Tot.ap (by simp [lim]; omega) trivial) λ_ _=>.aC ⟨⟨?_,?_,?_⟩,?_,?_⟩
  ·show 0<=i+1; omega
  ·show i+1<=(bc.bK.length:Int); omega
  ·show (l++[_]).length=1+(i+1).toNat;simp; omega
  ·show i<i+1; omega
  ·show i+1<=(bc.bK.length:Int); omega
 refine Tot.aK (Ξ:=λl=>(l.length:Int)=1+L+bc.bD) ?_ λju WK=>?_
 ·refine Tot.count (λz=>z.2) (bc.bD+1) (λz=>1<=z.2/\z.2<=bc.bD+1/\(z.1.length:Int)=1+L+(z.2 - 1)) ⟨Int.le_refl 1,by show (1:Int)<=_; omega,by show (wB.length:Int)=1+L+(1 - 1); omega⟩ (by show bc.bD+1 - 1<_; omega) λz bH=>?_;obtain ⟨l,i⟩:=z;obtain ⟨bf,h1,aq⟩:=bH;simp only at bf h1 aq ⊢;have hw:aL (i+1)=i+1:=by rw [dH]; omega
  rw [hw];refine Tot.b_ (λbg=>?_) (λ_=>.aC (by show (l.length:Int)=1+L+bc.bD; omega));refine .aK (t99 i (by omega) (by omega)) λEg WL=>.aK (Ξ:=λ_=>True) (Tot.cat (by show 1+Eg.size<=_; omega) trivial) λri _=>?_;refine .aK (Ξ:=λ_=>True) (Tot.ap (by simp [lim]; omega) trivial) λ_ _=>.aC ⟨⟨?_,?_,?_⟩,?_,?_⟩
  ·show 1<=i+1; omega
  ·show i+1<=bc.bD+1; omega
  ·show ((l++[_]).length:Int)=1+L+(i+1 - 1);simp; omega
  ·show i<i+1; omega
  ·show i+1<=bc.bD+1; omega
 -- numbers
 have SJ:=rK.iB;refine Tot.aK (Ξ:=λl=>l.length=bc.av.a'.length/\∀ t∈l,0<=t.Level) ?_ λkS Ro=>?_
 ·refine Tot.count (λz=>z.2.2) bc.av.a'.length (λz=>3<=z.2.2/\z.2.2<=bc.av.a'.length/\z.1.length=bc.av.a'.length/\∀ t∈z.1,0<=t.Level) ⟨Int.le_refl 3,by have:=rK.lo; show (3:Int)<=_; omega,rfl,rK.j4⟩ (by show (bc.av.a'.length:Int) - 3<_; omega) λz bH=>?_;obtain ⟨l,n,i⟩:=z;obtain ⟨bf,h1,aq,hv⟩:=bH;simp only at bf h1 aq hv ⊢;have hw:aL (i+1)=i+1:=by rw [dH]; omega
  rw [hw];refine Tot.b_ (λbg=>?_) (λ_=>.aC ⟨aq,hv⟩);refine Tot.aK (Ξ:=λaf=>af.1.length=bc.av.a'.length/\∀ t∈af.1,0<=t.Level) ?_ λaf aa=>.aC ⟨⟨?_,?_,aa⟩,?_,?_⟩
  ·refine .aK (Tot.ht (Φ:=λ_=>True) (by omega) (by rw [SJ]; omega) λ_ _ _=>trivial) λ_ _=>?_;refine Tot.aK (Ξ:=λaf=>af.1.length=bc.av.a'.length/\∀ t∈af.1,0<=t.Level) ?_ λaf aa=>.aC aa;refine Tot.cE (λ_=>?_) (λ_=>.aC ⟨aq,hv⟩);refine .aK (Tot.ht (Φ:=λy=>y∈l) (by omega) bg λ_ _ h=>h) λy aA=>.aC ⟨by show (l.set _ _).length=_; simp [aq],λt aG=>?_⟩;rcases vU aG with aG | rfl
   ·exact hv t aG
   ·exact (hv y aA:0<=y.Level)
  ·show 3<=i+1; omega
  ·show i+1<=(bc.av.a'.length:Int); omega
  ·show i<i+1; omega
  ·show i+1<=(bc.av.a'.length:Int); omega
 -- limits
 obtain ⟨WM,Rp⟩:=Ro;refine Tot.aK (Ξ:=λc=>c=false->kS.length<=40/\ju.length<=24/\bc.av.a8.length<=60) ?_ λry Q7=>?_
 ·refine Tot.b_ (λ_=>.aC λh=>by cases h) (λh1=>Tot.b_ (λ_=>.aC λh=>by cases h) (λal=>.aC λh=>?_));have aS:=of_decide_eq_false h;omega
 refine Tot.aK (Ξ:=λc=>c=false->ry=false/\∀ p∈bc.av.a8,p.fw.length<=8) ?_ λBB Q8=>?_
 ·refine Tot.count (λz=>z.2) bc.av.a8.length (λz=>0<=z.2/\z.2<=bc.av.a8.length/\(z.1=false->ry=false/\∀ (af:Nat) (p:Prod),(af:Int)<z.2->bc.av.a8[af]?=some p->p.fw.length<=8)) ⟨Int.le_refl 0,by show (0:Int)<=_; omega,λh=>⟨h,λaf p aa=>by have aa:(af:Int)<0:=aa; omega⟩⟩ (by show (bc.av.a8.length:Int) - 0<_; omega) λz bH=>?_;obtain ⟨c,i⟩:=z;obtain ⟨bf,h1,aq⟩:=bH;simp only at bf h1 aq ⊢;have hw:aL (i+1)=i+1:=by rw [dH]; omega
  rw [hw];refine Tot.b_ (λbg=>?_) (λew=>.aC λh=>⟨(aq h).1,λp aH=>?_⟩)
  ·refine Tot.aK (Ξ:=λu7=>u7=false->c=false/\∀ p,bc.av.a8[i.toNat]?=some p->p.fw.length<=8) ?_ λu7 fz=>.aC ⟨⟨?_,?_,λh=>?_⟩,?_,?_⟩
   ·refine Tot.cE (λ_=>.aC λh=>by cases h) (λSt=>.aK (Tot.ht (Φ:=λy=>idx bc.av.a8 i=some y) bf bg λ_ h _=>h) λy aA=>.aC λh=>⟨St,λp aH=>?_⟩);have al:=(pF aA).2.2;rw [aH] at al; cases al;have:=of_decide_eq_false h;omega
   ·show 0<=i+1; omega
   ·show i+1<=(bc.av.a8.length:Int); omega
   ·obtain ⟨ar,a2⟩:=fz h;obtain ⟨gZ,hD⟩:=aq ar;refine ⟨gZ,λaf p aa aH=>?_⟩;have aa:(af:Int)<i+1:=aa;by_cases SM:(af:Int)<i
    ·exact hD af p SM aH
    ·have:af=i.toNat:=by omega
     subst this;exact a2 p aH
   ·show i<i+1; omega
   ·show i+1<=(bc.av.a8.length:Int); omega
  ·obtain ⟨af,aa,rfl⟩:=List.mem_iff_getElem.1 aH;exact (aq h).2 af _ (by omega) (List.getElem?_eq_getElem aa)
 refine Tot.cE (λ_=>.aC λh=>absurd h (by decide)) (λae=>.aC λ_=>?_);obtain ⟨ar,a2⟩:=Q8 ae;obtain ⟨gZ,hD,lk⟩:=Q7 ar;have mx:=rK.lo;refine ⟨⟨?_,gZ⟩,⟨?_,hD⟩,⟨Rm,lk⟩,λp aH=>?_,a2,Rp⟩
 ·show 3<=kS.length; omega
 ·show 1<=ju.length; omega
 ·have:=rK.hC p aH;exact this.mono (by show _<=kS.length; omega) (by show (L:Int)+bc.bD<=((ju.length:Nat):Int) - 1; omega)
theorem t68 (s:Source) (aJ:sd s):Tot (A2 s) λr=>r.2=true->gY r.1:=by
 unfold A2;exact .aK (t78 s aJ) λr ax=>.aC λh=>ax (of_decide_eq_true h)
theorem yX (s:Source) (aJ:sd s):Tot (AU s) λr=>r.2.2=true->gY r.1/\lT r.1 r.2.1:=by
 unfold AU;refine .aK (t68 s aJ) λr ax=>Tot.cE (λ_=>.aC λh=>by cases h) (λh=>?_);have bb:=ax (by simpa using h);refine .aK (O7 r.1 bb) λm hm=>.aC λh=>⟨bb,?_⟩;have h:m.2=0:=of_decide_eq_true h;rcases hm with hm | hm
 ·exact hm.2
 ·omega
structure BK (g:b3) (m:List State) (cs:List Cell):Prop where
 sB:gY g
 Uq:lT g m
 ce:wM g m.length cs
theorem JJ (s:Source) (aJ:sd s):Tot (uB s) λr=>r.2.2.2=true->BK r.1 r.2.1 r.2.2.1:=by
 unfold uB;refine .aK (yX s aJ) λr ax=>Tot.cE (λ_=>.aC λh=>by cases h) (λh=>?_);obtain ⟨bb,hm⟩:=ax (by simpa using h);exact .aK (xf r.1 bb hm) λuu Lx=>.aK (O5 r.1 bb hm uu Lx.1 Lx.2) λcs hI=>.aC λ_=>⟨bb,hm,hI⟩
def s4 (g:b3) (p:Int):Int × Int:=match idx g.a8 p with
 | some q=>match idx g.a' q.Prec with
  | some t=>(t.Level,t.fh)
  | none=>(0,0)
 | none=>(0,0)
def dec (g:b3) (p t:Int):Int:=match idx g.a' t with
 | some k=>if (s4 g p).1=0\/k.Level=0 then 0 else if (s4 g p).1<k.Level then 1 else if k.Level<(s4 g p).1 then 2 else if k.fh=1 then 2 else if k.fh=2 then 1 else 3
 | none=>0
theorem QD (g:b3) (bb:gY g) (p:Int) (aH:0<=p/\p<g.a8.length):Bf g p=some (s4 g p):=by
 obtain ⟨q,bW,hm⟩:=k9 aH.1 aH.2;have aJ:=(bb.hC q hm).prec;unfold Bf s4;have d1:decide (p<0)=false:=decide_eq_false (by omega);have d2:decide ((g.a8.length:Int)<=p)=false:=decide_eq_false (by omega);rw [d1,d2,bW];simp only [cond_false,Option.bind_some];by_cases h:q.Prec<0
 ·rw [decide_eq_true h,vH (.inl h)]; rfl
 ·obtain ⟨t,aG,_⟩:=k9 (l:=g.a') (i:=q.Prec) (by omega) aJ.2;rw [decide_eq_false h,aG]; rfl
theorem QB (g:b3) (bb:gY g) (p t:Int) (aH:0<=p/\p<g.a8.length) (aG:0<=t/\t<g.a'.length):A7 g p t=some (dec g p t):=by
 obtain ⟨k,hk,hm⟩:=k9 aG.1 aG.2;unfold A7 dec;rw [QD g bb p aH,hk];have d1:decide (t<0)=false:=decide_eq_false (by omega);have d2:decide ((g.a'.length:Int)<=t)=false:=decide_eq_false (by omega);rw [d1,d2];generalize s4 g p=x;simp only [cond_false,Option.bind_some];by_cases h1:x.1=0
 ·simp [h1]
 ·by_cases al:k.Level=0
  ·simp [h1,al]
  ·rw [if_neg (by omega)];simp only [h1,al,decide_false,cond_false,Option.bind_some];by_cases aS:x.1<k.Level
   ·simp [aS]
   ·by_cases b7:k.Level<x.1
    ·simp [aS,b7]
    ·by_cases dv:k.fh=1
     ·simp [aS,b7,dv]
     ·by_cases eC:k.fh=2 <;> simp [aS,b7,dv,eC]
def pd (g:b3) (c:Cell):Act:=match c.a8 with
 | []=>if c.jc=true then ⟨3,0⟩ else ⟨1,c.gw⟩
 | p::_=>if c.jc=true then ⟨3,0⟩ else if c.gw<0 then ⟨2,p⟩ else if dec g p c.bM=2 then ⟨2,p⟩ else if dec g p c.bM=3 then ⟨4,0⟩ else ⟨1,c.gw⟩
def rA (g:b3) (c:Cell):List dy:=match c.a8 with
 | []=>[]
 | p::r=>r.map (λx=>(⟨c.State,c.bM,p,x⟩:dy))++(if c.jc=true\/(0<=c.gw/\dec g p c.bM=0) then [(⟨c.State,c.bM,-1,p⟩:dy)] else [])
structure rk (g:b3) (n:Nat) (a:Act):Prop where
 k:0<=a.Kind/\a.Kind<=4
 hB:a.Kind=0->a.N=0
 lN:a.Kind=1->0<=a.N/\a.N<n
 qh:a.Kind=2->pY g a.N
 Uw:a.Kind=3->a.N=0
 Xu:a.Kind=4->a.N=0
theorem Og {g:b3}{n:Nat}{c:Cell}(h:nO g n c):rk g n (pd g c)/\(pd g c).Kind≠0:=by
 have z8:=h.VJ;have bp:=h.f;have a3:rk g n ⟨3,0⟩:=⟨⟨by decide,by decide⟩,λh=>(by cases h),λh=>(by cases h),λh=>(by cases h),λ_=>rfl,λh=>by cases h⟩;have a4:rk g n ⟨4,0⟩:=⟨⟨by decide,by decide⟩,λh=>(by cases h),λh=>(by cases h),λh=>(by cases h),λ_=>rfl,λ_=>rfl⟩;have ar:0<=c.gw->rk g n ⟨1,c.gw⟩:=λbf=>⟨⟨by show (0:Int)<=1; decide,by show (1:Int)<=4; decide⟩,λh=>(by cases h),λ_=>⟨bf,bp.2⟩,λh=>(by cases h),λh=>(by cases h),λh=>by cases h⟩;have a2:∀ p∈c.a8,rk g n ⟨2,p⟩:=λp aH=>⟨⟨by show (0:Int)<=2; decide,by show (2:Int)<=4; decide⟩,λh=>(by cases h),λh=>(by cases h),λ_=>h.q p aH,λh=>(by cases h),λh=>by cases h⟩;unfold pd;unfold nL at z8;cases di:c.a8 with
 | nil =>
  simp only;rw [di] at z8;by_cases h1:c.jc=true
  ·rw [if_pos h1]; exact ⟨a3,by decide⟩
  ·rw [if_neg h1];rw [if_neg h1] at z8;refine ⟨ar ?_,by show (1:Int)≠0; decide⟩;by_cases al:0<=c.gw
   ·exact al
   ·rw [if_neg al] at z8; simp at z8
 | cons p r =>
  simp only;have aH:=a2 p (by rw [di]; simp);split
  ·exact ⟨a3,by decide⟩
  ·split
   ·exact ⟨aH,by show (2:Int)≠0; decide⟩
   ·split
    ·exact ⟨aH,by show (2:Int)≠0; decide⟩
    ·split
     ·exact ⟨a4,by decide⟩
     ·exact ⟨ar (by omega),by show (1:Int)≠0; decide⟩
theorem JR {g:b3}(bb:gY g) {n:Nat}{c:Cell}(h:nO g n c):(rA g c).length<=60:=by
 have aq:=h.len bb;unfold rA;cases di:c.a8 with
 | nil=>simp
 | cons p r =>
  rw [di,List.length_cons] at aq;simp only [List.length_append,List.length_map];split
  ·simp; omega
  ·simp; omega
theorem Qy (g:b3) (bb:gY g) {n:Nat}(c:Cell) (h:nO g n c):yf g c=some (pd g c,rA g c):=by
 have aq:=h.len bb
 suffices aO:Tot (yf g c) λr=>r=(pd g c,rA g c) by
  obtain ⟨r,ax,e⟩:=aO; rw [ax,e]
 unfold yf pd rA;cases di:c.a8 with
 | nil =>
  simp only;refine .aK (Ξ:=λl:List dy=>l=[]) ?_ λl aq=>?_
  ·refine Tot.loop (λs=>s=(([]:List dy),(1:Int))) (λ_=>0) rfl (by show 0<1000000000000000000; omega) λs aO=>?_;subst aO;exact .aC rfl
  ·subst aq;cases h1:c.jc
   ·exact .aC (by simp)
   ·exact .aC (by simp)
 | cons p r =>
  rw [di,List.length_cons] at aq;simp only;have j_:idx (p::r) 0=some p:=rfl;refine .aK (Ξ:=λl:List dy=>l=r.map (λx=>(⟨c.State,c.bM,p,x⟩:dy))) ?_ λl aq=>?_
  ·refine Tot.count (λs=>s.2) ((r.length:Int)+1) (λs=>∃ k:Nat,k<=r.length/\s.2=((k+1:Nat):Int)/\s.1=(r.take k).map (λx=>(⟨c.State,c.bM,p,x⟩:dy))) ⟨0,Nat.zero_le _,rfl,rfl⟩ (by show (r.length:Int)+1 - 1<_; omega) λs aO=>?_;obtain ⟨l,i⟩:=s;obtain ⟨k,hk,he,bt⟩:=aO;simp only at he bt ⊢;subst he bt;rw [eU (k+1) (by omega),j_];refine Tot.b_ (λbg=>?_) (λew=>.aC ?_)
   ·rw [List.length_cons] at bg;have bg:k<r.length:=by omega
    have dz:idx (p::r) ((k+1:Nat):Int)=some r[k]:=by
     simp only [idx,if_pos (show (0:Int)<=((k+1:Nat):Int) by omega),Int.toNat_natCast,List.getElem?_cons_succ];exact List.getElem?_eq_getElem bg
    rw [dz];refine Tot.aw (Tot.aw (.aK (Ξ:=λ_=>True) (Tot.ap (by simp [lim]; omega) trivial) λ_ _=>.aC ⟨⟨k+1,by omega,rfl,?_⟩,by show ((k+1:Nat):Int)<((k+1+1:Nat):Int); omega,by show ((k+1+1:Nat):Int)<=(r.length:Int)+1; omega⟩));show _=(r.take (k+1)).map _;rw [kt bg,List.map_append]; rfl
   ·rw [List.length_cons] at ew;rw [List.take_of_length_le (by omega)]; rfl
  ·subst aq;have aH:=h.q p (by rw [di]; simp);have y9:=QB g bb p c.bM ⟨by have:=aH.1; omega,aH.2⟩ h.t;have dl:decide (((p::r).length:Int)=0)=false:=decide_eq_false (by simp; omega);simp only [j_,y9,dl,cond_false,Option.bind_some];generalize tY:dec g p c.bM=v;refine ⟨_,?_,rfl⟩;have La:ed (r.map (λx=>(⟨c.State,c.bM,p,x⟩:dy))) [(⟨c.State,c.bM,(-1),p⟩:dy)]=some (r.map (λx=>(⟨c.State,c.bM,p,x⟩:dy))++[⟨c.State,c.bM,(-1),p⟩]):=by
    unfold ed; rw [if_pos (by simp [lim]; omega)]
   cases h1:c.jc
   ·by_cases al:c.gw<0
    ·have aS:¬ (0<=c.gw):=by omega
     simp [al,aS]
    ·have aS:0<=c.gw:=by omega
     by_cases b7:v=0
     ·simp [al,aS,b7,La]
     ·by_cases dv:v=2
      ·simp [al,aS,dv]
      ·by_cases eC:v=3
       ·simp [al,aS,eC]
       ·simp [al,aS,b7,dv,eC]
   ·simp [La]
def rowOf (g:b3) (l:List Cell):List Act:=l.foldl (λrow c=>row.set c.bM.toNat (pd g c)) (List.replicate g.a'.length ⟨0,0⟩)
def fW (cs:List Cell) (q:Nat):List Cell:=cs.filter λc=>decide (c.State=(q:Int))
def go (m:List State) (q s:Int):Int:=(qi m q s).getD (-1)
theorem go_eq {g:b3}{m:List State}(hm:lT g m) (q s:Int):qi m q s=some (go m q s)/\GoTo m q s (go m q s):=by
 obtain ⟨r,ax,h⟩:=Cl m q s hm.uv;unfold go;rw [ax];exact ⟨rfl,h⟩
theorem H_ (g:b3):∀ (l:List Cell),(rowOf g l).length=g.a'.length:=λl=>by
 suffices h:∀ (l:List Cell) (r:List Act),(l.foldl (λrow c=>row.set c.bM.toNat (pd g c)) r).length=r.length by
  unfold rowOf; rw [h]; simp
 intro l
 induction l with
 | nil=>intro r; rfl
 | cons c l aR=>intro r; rw [List.foldl_cons,aR,List.length_set]
theorem MU (g:b3) (l:List Cell) (c:Cell):rowOf g (l++[c])=(rowOf g l).set c.bM.toNat (pd g c):=by
 unfold rowOf; rw [List.foldl_append]; rfl
theorem U6 {g:b3}{n:Nat}:∀ {l:List Cell},(∀ c∈l,nO g n c)->∀ a∈rowOf g l,rk g n a:=by
 intro l h
 suffices aO:∀ (l:List Cell) (r:List Act),(∀ c∈l,nO g n c)->(∀ a∈r,rk g n a)->∀ a∈l.foldl (λrow c=>row.set c.bM.toNat (pd g c)) r,rk g n a by
  refine aO l _ h λa bk=>?_;rw [List.eq_of_mem_replicate bk];exact ⟨⟨by decide,by decide⟩,λ_=>rfl,λh=>(by cases h),λh=>(by cases h),λh=>(by cases h),λh=>by cases h⟩
 intro l
 induction l with
 | nil=>intro r _ ax; exact ax
 | cons c l aR =>
  intro r aq ax;rw [List.foldl_cons];refine aR _ (λd aZ=>aq d (by simp [aZ])) λa bk=>?_;rcases List.mem_or_eq_of_mem_set bk with h | h
  ·exact ax a h
  ·rw [h]; exact (Og (aq c (by simp))).1
def pt (g:b3) (m:List State) (q:Nat):List Int:=(List.range g.bw.length).map λa:Nat=>go m q (1000+(a:Int))
def g_ (g:b3) (l:List Cell):List dy:=l.flatMap (rA g)
theorem yY {g:b3}(bb:gY g) {n:Nat}:∀ {l:List Cell},(∀ c∈l,nO g n c)->(g_ g l).length<=60 * l.length
 | [],_=>by simp [g_]
 | c::l,h=>by
  have h1:=JR bb (h c (by simp));have al:=yY bb (l:=l) λd aZ=>h d (by simp [aZ]);unfold g_ at al ⊢;rw [List.flatMap_cons,List.length_append,List.length_cons];omega
theorem D' {α:Type}{l:List α}{k:Nat}(h:k<l.length) (p:α->Bool):(l.take (k+1)).filter p=(l.take k).filter p++(if p l[k] then [l[k]] else []):=by
 rw [kt h,List.filter_append];congr 1;rw [List.filter_cons]
 split <;> simp
structure BO (g:b3) (m:List State) (cs:List Cell) (d:iH):Prop where
 a:d.eg=(List.range m.length).map λq=>rowOf g (fW cs q)
 o:d.dp=(List.range m.length).map λq=>pt g m q
theorem JK (g:b3) (m:List State) (cs:List Cell) (ej:BK g m cs):Tot (yc g m cs) λr=>BO g m cs r.1/\r.2=(List.range m.length).flatMap λq=>g_ g (fW cs q):=by
 obtain ⟨bb,hm,ae⟩:=ej;have aG:=bb.kQ;have aP:=bb.hZ;have xJ:=hm.lN;have zI:=ae.n;unfold yc;refine .aK (Ξ:=λr:List (List Act) × List (List Int) × List dy=>r.1=(List.range m.length).map (λq=>rowOf g (fW cs q))/\r.2.1=(List.range m.length).map (λq=>pt g m q)/\r.2.2=(List.range m.length).flatMap λq=>g_ g (fW cs q)) ?_ λr ax=>.aC ⟨⟨ax.1,ax.2.1⟩,ax.2.2⟩;have tX:∀ q,(g_ g (fW cs q)).length<=360000:=λq=>by
  have h1:=yY bb (l:=fW cs q) λc p_=>ae.ok c ((List.mem_filter.1 p_).1);have al:=List.length_filter_le (λc:Cell=>decide (c.State=(q:Int))) cs;unfold fW at h1 ⊢;omega
 have SF:∀ k,((List.range k).flatMap λq=>g_ g (fW cs q)).length<=360000 * k:=λk=>by
  induction k with
  | zero=>simp
  | succ k aR =>
   rw [List.range_succ,List.flatMap_append,List.length_append];have:=tX k;simp only [List.flatMap_cons,List.flatMap_nil,List.append_nil];omega
 refine Tot.upto (λs=>s.2.2.2) m.length (λk s=>s.1=(List.range k).map (λq=>rowOf g (fW cs q))/\s.2.1=(List.range k).map (λq=>pt g m q)/\s.2.2.1=(List.range k).flatMap λq=>g_ g (fW cs q)) rfl (by omega) ⟨rfl,rfl,rfl⟩ λk s hk he bt=>?_;obtain ⟨A,G,C,i⟩:=s;obtain ⟨h1,al,aS⟩:=bt;simp only at he h1 al aS ⊢;subst he h1 al aS;rw [eU k (by omega)];refine Tot.b_ (λbg=>?_) (λew=>.aC ?_)
 ·have bg:k<m.length:=by omega
  refine .aK (Ξ:=λr=>r=List.replicate g.a'.length (⟨0,0⟩:Act)) (Tot.mk (by simp [lim]; omega) (by simp)) λrp gP=>?_;subst gP;have W2:=SF k;refine .aK (Ξ:=λr:List dy × List Act=>r.1=(List.range k).flatMap (λq=>g_ g (fW cs q))++g_ g (fW cs k)/\r.2=rowOf g (fW cs k)) ?_ λr ax=>?_
  ·refine Tot.upto (λs=>s.2.2) cs.length (λaf s=>s.1=(List.range k).flatMap (λq=>g_ g (fW cs q))++g_ g (fW (cs.take af) k)/\s.2.1=rowOf g (fW (cs.take af) k)) rfl (by omega) ⟨by simp [fW,g_],by simp [fW,rowOf]⟩ λaf s aa he bt=>?_;obtain ⟨C,R,i⟩:=s;obtain ⟨h1,al⟩:=bt;simp only at he h1 al ⊢;subst he h1 al;rw [eU af (by omega)];refine Tot.b_ (λeo=>?_) (λew=>.aC ?_)
   ·have eo:af<cs.length:=by omega
    have vv:=ae.ok _ (List.getElem_mem eo);have sO:=D' eo (λc:Cell=>decide (c.State=(k:Int)));have Xl:(g_ g (fW (cs.take af) k)).length<=360000:=by
     have h1:=yY bb (l:=fW (cs.take af) k) λc p_=>ae.ok c (List.mem_of_mem_take ((List.mem_filter.1 p_).1));have al:=List.length_filter_le (λc:Cell=>decide (c.State=(k:Int))) (cs.take af);rw [List.length_take] at al;unfold fW at h1 ⊢;omega
    rw [et eo];generalize cs[af]=c at *;simp only [Option.bind_some];refine .aK (Ξ:=λr:List dy × List Act=>r.1=(List.range k).flatMap (λq=>g_ g (fW cs q))++g_ g (fW (cs.take (af+1)) k)/\r.2=rowOf g (fW (cs.take (af+1)) k)) ?_ λr ax=>.aC ⟨eo,rfl,ax⟩;refine .aK (Ξ:=λr:List dy × List Act=>r.1=(List.range k).flatMap (λq=>g_ g (fW cs q))++g_ g (fW (cs.take (af+1)) k)/\r.2=rowOf g (fW (cs.take (af+1)) k)) (Tot.b_ (λaO=>?_) (λaO=>.aC ?_)) λr ax=>.aC ax
    ·rw [decide_eq_true aO,if_pos rfl] at sO;rw [Qy g bb c vv];simp only [Option.bind_some];have oI:=H_ g (fW (cs.take af) k);obtain ⟨a0,FX,_⟩:=k9 (l:=rowOf g (fW (cs.take af) k)) (i:=c.bM) vv.t.1 (by rw [oI]; exact vv.t.2);rw [FX];have hG:=JR bb vv;refine Tot.aw (.aK (Ξ:=λ_=>True) (Tot.ap (by rw [List.length_append]; simp only [lim]; omega) trivial) λ_ _=>.aC ⟨?_,?_⟩)
     ·show _=_++g_ g ((cs.take (af+1)).filter _);rw [sO];unfold g_;rw [List.flatMap_append,List.append_assoc];simp [fW]
     ·show _=rowOf g ((cs.take (af+1)).filter _);rw [sO,MU]; rfl
    ·have:(if (decide (c.State=(k:Int)))=true then [c] else [])=[]:=by simp [aO]
     rw [this,List.append_nil] at sO;unfold fW;rw [sO];exact ⟨rfl,rfl⟩
   ·have e:cs.take af=cs:=List.take_of_length_le (by omega);rw [e];exact ⟨rfl,rfl⟩
  ·obtain ⟨C,R⟩:=r;obtain ⟨h1,al⟩:=ax;simp only at h1 al ⊢;subst h1 al;refine .aK (Ξ:=λr=>r=List.replicate g.bw.length (0:Int)) (Tot.mk (by simp [lim]; omega) (by simp)) λWk RC=>?_;subst RC;refine .aK (Ξ:=λr:List Int=>r=pt g m k) ?_ λr ax=>?_
   ·refine Tot.upto (λs=>s.2) g.bw.length (λaf s=>s.1.length=g.bw.length/\∀ i:Nat,i<af->s.1[i]?=some (go m k (1000+(i:Int)))) rfl (by omega) ⟨by simp,λi hi=>absurd hi (Nat.not_lt_zero _)⟩ λaf s aa he bt=>?_;obtain ⟨L,i⟩:=s;obtain ⟨h1,al⟩:=bt;simp only at he h1 al ⊢;subst he;rw [eU af (by omega)];refine Tot.b_ (λeo=>?_) (λew=>.aC ?_)
    ·have eo:af<L.length:=by omega
     have hw:aL (1000+(af:Int))=1000+(af:Int):=by rw [dH]; omega
     rw [hw,(go_eq hm k _).1,et eo];refine Tot.aw (Tot.aw (.aC ⟨by omega,rfl,?_,λi hi=>?_⟩))
     ·show (L.set _ _).length=_;rw [List.length_set]; exact h1
     ·show (L.set (af:Int).toNat _)[i]?=_;rw [Int.toNat_natCast,Bq eo];by_cases e:i=af
      ·subst e; rw [if_pos rfl]
      ·rw [if_neg e]; exact al i (by omega)
    ·show L=pt g m k;refine List.ext_getElem? λi=>?_;unfold pt;by_cases hi:i<g.bw.length
     ·rw [al i (by omega),List.getElem?_map,List.getElem?_range hi]; rfl
     ·rw [List.getElem?_eq_none (by omega),List.getElem?_eq_none (by simp; omega)]
   ·subst ax;refine .aK (Ξ:=λ_=>True) (Tot.ap (by simp [lim]; omega) trivial) λ_ _=>.aK (Ξ:=λ_=>True) (Tot.ap (by simp [lim]; omega) trivial) λ_ _=>.aC ⟨bg,rfl,?_,?_,?_⟩
    ·show _=(List.range (k+1)).map _;rw [List.range_succ,List.map_append]; rfl
    ·show _=(List.range (k+1)).map _;rw [List.range_succ,List.map_append]; rfl
    ·show _=(List.range (k+1)).flatMap _;rw [List.range_succ,List.flatMap_append]; simp
 ·have:k=m.length:=by omega
  subst this;exact ⟨rfl,rfl,rfl⟩
structure uX (g:b3) (n:Nat) (d:iH):Prop where
 hB:0<n/\n<=150
 sB:gY g
 a:d.eg.length=n
 EE:∀ r∈d.eg,r.length=g.a'.length/\∀ a∈r,rk g n a
 o:d.dp.length=n
 ux:∀ r∈d.dp,r.length=g.bw.length/\∀ v∈r,-1<=v/\v<n
theorem BO.w_ {g:b3}{m:List State}{cs:List Cell}{d:iH}(h:BO g m cs d) (ej:BK g m cs):uX g m.length d:=by
 obtain ⟨bb,hm,ae⟩:=ej;refine ⟨⟨hm.hB,hm.lN⟩,bb,by rw [h.a]; simp,λr ax=>?_,by rw [h.o]; simp,λr ax=>?_⟩
 ·rw [h.a] at ax;obtain ⟨q,_,rfl⟩:=List.mem_map.1 ax;exact ⟨H_ g _,U6 λc p_=>ae.ok c (List.mem_filter.1 p_).1⟩
 ·rw [h.o] at ax;obtain ⟨q,_,rfl⟩:=List.mem_map.1 ax;refine ⟨by simp [pt],λv hv=>?_⟩;obtain ⟨a,_,rfl⟩:=List.mem_map.1 hv;exact (go_eq hm q _).2.w_ hm
theorem U1 {g:b3}(bb:gY g) {n:Nat}{cs:List Cell}(ae:wM g n cs) {f:Cell->Option Int}(bp:∀ c:Cell,c.a8.length<=1000->f c=some (nL c:Int)):Tot (cI (R:=Int) (λ(s1:Int × Int) =>
(bif decide (s1.2<(cs.length:Int)) then
((idx cs s1.2).bind λbJ =>
(f bJ).bind λa_ =>
((bif decide (1<a_) then
some (aL (s1.1+1))
else
some s1.1)).bind λfq =>
some fq).bind λlM =>
some (.inl (lM,aL (s1.2+1)))
else
some (.inr s1.1))) (0,0)) λr=>r=((cs.filter λc=>decide (1<nL c)).length:Int):=by
 have zI:=ae.n;refine Tot.upto (λs=>s.2) cs.length (λk s=>s.1=(((cs.take k).filter λc=>decide (1<nL c)).length:Int)) rfl (by omega) rfl λk s hk he bt=>?_;obtain ⟨z,i⟩:=s;simp only at he bt ⊢;subst he bt;rw [eU k (by omega)];refine Tot.b_ (λbg=>?_) (λew=>.aC ?_)
 ·have bg:k<cs.length:=by omega
  have Sv:=ae.ok _ (List.getElem_mem bg);have sO:=D' bg (λc:Cell=>decide (1<nL c));have tX:=List.length_filter_le (λc:Cell=>decide (1<nL c)) (cs.take k);rw [List.length_take] at tX;rw [et bg];generalize cs[k]=c at *;have hG:=Sv.len bb;rw [show (some c).bind=λ(f:Cell->Option Int)=>f c from rfl]
  simp only [bp c (by omega),Option.bind_some];refine .aK (Ξ:=λz:Int=>z=(((cs.take (k+1)).filter λc=>decide (1<nL c)).length:Int)) ?_ λr ax=>.aC ⟨bg,rfl,ax⟩;rw [sO];refine .aK (Ξ:=λz:Int=>z=(((cs.take k).filter (λc=>decide (1<nL c))++if decide (1<nL c)=true then [c] else []).length:Int)) (Tot.b_ (λh=>.aC ?_) (λh=>.aC ?_)) λr ax=>.aC ax
  ·have:1<nL c:=by omega
   rw [eU _ (by omega)];simp [this]
  ·have:¬ 1<nL c:=by omega
   simp [this]
 ·have e:cs.take k=cs:=List.take_of_length_le (by omega);rw [e]; rfl
theorem yW {g:b3}(bb:gY g) {n:Nat}{cs:List Cell}(ae:wM g n cs):Tot (HW cs) λr=>r=((cs.filter λc=>decide (1<nL c)).length:Int):=by
 unfold HW;exact .aK (U1 bb ae Kd) λr ax=>.aC ax
theorem tC (s:Source) (aJ:sd s):Tot (MF s) λr=>r.2.2.2=true->∃ n,uX r.1 n r.2.1:=by
 unfold MF;refine .aK (JJ s aJ) λr ax=>Tot.cE (λ_=>.aC λh=>by cases h) (λh=>?_);have ej:=ax (by simpa using h);exact .aK (JK _ _ _ ej) λd aZ=>.aK (yW ej.sB ej.ce) λ_ _=>.aC λ_=>⟨_,aZ.1.w_ ej⟩
theorem Qt (a:Act):DI a=nG a:=by
 have h1:decide (a.N<20000)=decide (a.N<=19999):=decide_eq_decide.2 (by omega);have al:decide (0<a.N)=decide (1<=a.N):=decide_eq_decide.2 (by omega);unfold DI nG;rw [h1,al]
theorem u16 (a:Act):Tot (nG a) λ_=>True:=by
 unfold nG
 repeat' first | apply Tot.bi | refine Tot.cE (λ_=>?_) (λ_=>?_) | exact Tot.aC trivial | apply Tot.aC
theorem Cg (n:Int):∃ b c,wa n=some b/\nG b=some c/\(c=n\/(c=0/\b=⟨0,0⟩)):=by
 by_cases h1:1<=n/\n<=20000
 ·have e:aL (n - 1)=n - 1:=by rw [dH]; omega
  have de:aL (n - 1+1)=n:=by rw [dH]; omega
  refine ⟨⟨1,n - 1⟩,n,?_,?_,.inl rfl⟩
  ·simp [wa,h1,e]
  ·have:0<=n - 1/\n - 1<=19999:=by omega
   have j':aL n=n:=by rw [dH]; omega
   simp [nG,h1,this,j']
 ·by_cases al:n<=-1/\-19999<=n
  ·have e:aL (-n)=-n:=by rw [dH]; omega
   have de:aL n=n:=by rw [dH]; omega
   have aS:¬ 1<=n:=by omega
   refine ⟨⟨2,-n⟩,n,?_,?_,.inl rfl⟩
   ·simp [wa,al,aS,e]
   ·have:1<=-n/\-n<=19999:=by omega
    simp [nG,this,de]
  ·by_cases aS:n=20001
   ·subst aS; exact ⟨⟨3,0⟩,20001,by decide,by decide,.inl rfl⟩
   ·by_cases b7:n=20002
    ·subst b7; exact ⟨⟨4,0⟩,20002,by decide,by decide,.inl rfl⟩
    ·refine ⟨⟨0,0⟩,0,?_,by decide,.inr ⟨rfl,rfl⟩⟩;have f1:(decide (1<=n)&&decide (n<=20000))=false:=by simp; omega
     have f2:(decide (n<=-1)&&decide (-19999<=n))=false:=by simp; omega
     have g1:(bif decide (1<=n) then some (decide (n<=20000)) else some false)=some (decide (1<=n)&&decide (n<=20000)):=by cases decide (1<=n) <;> rfl
     have g2:(bif decide (n<=-1) then some (decide (-19999<=n)) else some false)=some (decide (n<=-1)&&decide (-19999<=n)):=by cases decide (n<=-1) <;> rfl
     unfold wa;rw [g1,f1,g2,f2];simp [aS,b7]
theorem tB (a:Act):∃ c,nG a=some c/\(c=0\/wa c=some a):=by
 obtain ⟨c,ae,_⟩:=u16 a;refine ⟨c,ae,?_⟩;obtain ⟨K,N⟩:=a;have g:∀ p q:Prop,∀ [Decidable p] [Decidable q],(bif decide p then some (decide q) else some false)=some (decide (p/\q)):=λp q _ _=>by
  by_cases aH:p <;> simp [aH]
 by_cases h1:K=1/\0<=N/\N<=19999
 ·obtain ⟨rfl,h1⟩:=h1;have e:aL (N+1)=N+1:=by rw [dH]; omega
  have de:aL (N+1 - 1)=N:=by rw [dH]; omega
  simp [nG,h1,e] at ae;subst ae;have al:1<=N+1/\N+1<=20000:=by omega
  have j':aL N=N:=by rw [dH]; omega
  exact .inr (by simp [wa,al,j'])
 ·by_cases al:K=2/\1<=N/\N<=19999
  ·obtain ⟨rfl,al⟩:=al;have e:aL (-N)=-N:=by rw [dH]; omega
   have de:aL N=N:=by rw [dH]; omega
   simp [nG,al,e] at ae;subst ae;have aS:¬ 1<=-N:=by omega
   have b7:-N<=-1/\-19999<=-N:=by omega
   exact .inr (by simp [wa,aS,b7,de])
  ·by_cases aS:K=3/\N=0
   ·obtain ⟨rfl,rfl⟩:=aS;have:nG ⟨3,0⟩=some 20001:=by decide
    rw [this] at ae; cases ae;exact .inr (by decide)
   ·by_cases b7:K=4/\N=0
    ·obtain ⟨rfl,rfl⟩:=b7;have:nG ⟨4,0⟩=some 20002:=by decide
     rw [this] at ae; cases ae;exact .inr (by decide)
    ·refine .inl ?_;have ur:(bif decide (K=1) then (bif decide (0<=N) then some (decide (N<=19999)) else some false) else some false)=some false:=by
      rw [g]; by_cases h:K=1
      ·have:=λaU=>h1 ⟨h,aU⟩;simp [h]; omega
      ·simp [h]
     have q1:(bif decide (K=2) then (bif decide (1<=N) then some (decide (N<=19999)) else some false) else some false)=some false:=by
      rw [g]; by_cases h:K=2
      ·have:=λaU=>al ⟨h,aU⟩;simp [h]; omega
      ·simp [h]
     have Uk:(bif decide (K=3) then some (decide (N=0)) else some false)=some false:=by rw [g]; simp [aS]
     have Hr:(bif decide (K=4) then some (decide (N=0)) else some false)=some false:=by rw [g]; simp [b7]
     unfold nG at ae;rw [ur,q1,Uk,Hr] at ae;simpa using ae.symm
def ov (l:List Int) (v:Int):Prop:=(l=[]/\v=-1)\/(v∈l/\∀ x∈l,l.count x<l.count v\/(l.count x=l.count v/\v<=x))
theorem ov.uniq {l:List Int}{v w:Int}(h:ov l v) (aU:ov l w):v=w:=by
 rcases h with ⟨h1,al⟩ | ⟨h1,al⟩ <;> rcases aU with ⟨aS,b7⟩ | ⟨aS,b7⟩
 ·omega
 ·subst h1; cases aS
 ·subst aS; cases h1
 ·have a:=al w aS;have b:=b7 v h1;omega
theorem sq (l:List Int) (y x:Int):(l++[y]).count x=l.count x+(if y=x then 1 else 0):=by
 rw [List.count_append];by_cases e:y=x
 ·subst e; simp
 ·rw [if_neg e,List.count_eq_zero.2 λhm=>e (List.mem_singleton.1 hm).symm]
theorem Qi {l:List Int}{x:Int}(h:x∈l):0<l.count x:=List.count_pos_iff.2 h
theorem ov.snoc {l:List Int}{b y:Int}(h:ov l b) (bf:∀ x∈l,0<=x) (aA:0<=y):ov (l++[y]) (if b<0\/(l++[y]).count b<(l++[y]).count y\/((l++[y]).count y=(l++[y]).count b/\y<b) then y else b):=by
 refine .inr ?_;rcases h with ⟨rfl,rfl⟩ | ⟨aJ,hm⟩
 ·rw [if_pos (.inl (by decide))];refine ⟨by simp,λx J=>?_⟩;rw [List.nil_append,List.mem_singleton] at J;subst J; exact .inr ⟨rfl,Int.le_refl _⟩
 ·have Lb:=bf b aJ;have key:∀ x∈l++[y],x∈l\/x=y:=λx J=>by simpa using J
  have vi:(l++[y]).count y=l.count y+1:=by rw [sq,if_pos rfl]
  by_cases Ld:b=y
  ·subst Ld;rw [if_neg (by omega)];refine ⟨by simp,λx J=>?_⟩;rw [vi];by_cases e:x=b
   ·subst e; exact .inr ⟨vi,Int.le_refl _⟩
   ·rw [sq,if_neg (λh=>e h.symm)];rcases key x J with J | J
    ·have:=hm x J; omega
    ·exact absurd J e
  ·have EY:(l++[y]).count b=l.count b:=by rw [sq,if_neg (λh=>Ld h.symm)]; rfl
   by_cases ae:b<0\/(l++[y]).count b<(l++[y]).count y\/((l++[y]).count y=(l++[y]).count b/\y<b)
   ·rw [if_pos ae];rw [EY,vi] at ae;refine ⟨by simp,λx J=>?_⟩;rw [vi];by_cases e:x=y
    ·subst e; exact .inr ⟨vi,Int.le_refl _⟩
    ·rw [sq,if_neg (λh=>e h.symm)];rcases key x J with J | J
     ·have:=hm x J; omega
     ·exact absurd J e
   ·rw [if_neg ae];rw [EY,vi] at ae;refine ⟨by simp [aJ],λx J=>?_⟩;rw [EY];by_cases e:x=y
    ·subst e; rw [vi]; omega
    ·rw [sq,if_neg (λh=>e h.symm)];rcases key x J with J | J
     ·have:=hm x J; omega
     ·exact absurd J e
theorem Ht {x:Int}(h:-1<=x/\x<=1000000):q2 x=true:=by unfold q2; rw [decide_eq_true]; omega
theorem O3 (l:List Int) (aq:l.length<=100000) (bf:∀ x∈l,0<=x/\x<=1000000):Tot (AT l) (ov l):=by
 unfold AT;refine .aK (Ξ:=ov l) ?_ λr ax=>.aC ax;refine Tot.upto (λs=>s.2.2) l.length (λk s=>s.1.length=k/\(∀ x,(oi s.1 x).getD 0=((l.take k).count x:Int))/\ov (l.take k) s.2.1) rfl (by omega) ⟨rfl,λx=>by simp [oi],.inl ⟨rfl,rfl⟩⟩ λk s hk he bt=>?_;obtain ⟨m,b,i⟩:=s;obtain ⟨h1,al,aS⟩:=bt;simp only at he h1 al aS ⊢;subst he;rw [eU k (by omega)];refine Tot.b_ (λbg=>?_) (λew=>.aC ?_)
 ·have bg:k<l.length:=by omega
  have aA:=bf _ (List.getElem_mem bg);have gi:=kt bg;have K8:∀ x∈l.take k,0<=x/\x<=1000000:=λx J=>bf x (List.mem_of_mem_take J);have hG:=List.count_le_length (a:=l[k]) (l:=l.take k);rw [et bg];generalize l[k]=y at *;have aJ:-1<=b/\b<=1000000:=by
   rcases aS with ⟨_,rfl⟩ | ⟨h,_⟩
   ·omega
   ·have:=K8 b h; omega
  rw [List.length_take] at hG;have dz:s5 q2 0 m y=some ((l.take k).count y:Int):=by unfold s5; rw [if_pos (Ht ⟨by omega,aA.2⟩),al]
  have de:aL (((l.take k).count y:Int)+1)=(((l.take k).count y+1:Nat):Int):=eU _ (by omega);have j':Ar q2 m y (((l.take k).count y+1:Nat):Int)=some ((y,(((l.take k).count y+1:Nat):Int))::m):=by
   unfold Ar;rw [Ht ⟨by omega,aA.2⟩,Bool.true_and,if_pos (decide_eq_true (by simp only [lim]; omega))]
  have LA:∀ x,(oi ((y,(((l.take k).count y+1:Nat):Int))::m) x).getD 0=((l.take (k+1)).count x:Int):=λx=>by
   rw [gi,sq];unfold oi;by_cases e:y=x
   ·subst e; rw [if_pos rfl,if_pos rfl]; rfl
   ·rw [if_neg e,if_neg e,al]; rfl
  have rH:∀ x,(-1<=x/\x<=1000000)->s5 q2 0 ((y,(((l.take k).count y+1:Nat):Int))::m) x=some ((l.take (k+1)).count x:Int):=λx J=>by unfold s5; rw [if_pos (Ht J),LA]
  have aO:=aS.snoc (y:=y) (λx J=>(K8 x J).1) aA.1;rw [<- gi] at aO;have iZ:=List.count_le_length (a:=y) (l:=l.take (k+1));have sM:=List.count_le_length (a:=b) (l:=l.take (k+1));rw [List.length_take] at iZ sM;simp only [Option.bind_some,dz,de,j',rH y ⟨by omega,aA.2⟩,rH b aJ];have hw:aL (((l.take (k+1)).count y:Int) - ((l.take (k+1)).count b:Int))=((l.take (k+1)).count y:Int) - ((l.take (k+1)).count b:Int):=by rw [dH]; omega
  rw [hw];refine .aK (Ξ:=λr:List (Int × Int) × Int=>r.1=(y,(((l.take k).count y+1:Nat):Int))::m/\ov (l.take (k+1)) r.2) ?_ λr ax=>.aC ⟨bg,rfl,by rw [ax.1]; simp [h1],by rw [ax.1]; exact LA,ax.2⟩;refine .aK (Ξ:=λc:Bool=>c=decide (b<0\/(l.take (k+1)).count b<(l.take (k+1)).count y\/((l.take (k+1)).count y=(l.take (k+1)).count b/\y<b))) ?_ λc ae=>?_
  ·refine Tot.b_ (λh=>.aC (decide_eq_true (.inl h)).symm) (λh=>Tot.b_ (λaU=>.aC (decide_eq_true (.inr (.inl (by omega)))).symm) (λaU=>Tot.b_ (λal=>.aC ?_) (λal=>.aC (decide_eq_false (by omega)).symm)));exact decide_eq_decide.2 (by omega)
  ·subst ae;refine .aK (Ξ:=λz=>z=(if b<0\/(l.take (k+1)).count b<(l.take (k+1)).count y\/((l.take (k+1)).count y=(l.take (k+1)).count b/\y<b) then y else b)) (Tot.b_ (λh=>.aC (if_pos h).symm) (λh=>.aC (if_neg h).symm)) λz bH=>.aC ⟨rfl,?_⟩
   show ov _ z;rw [bH]; exact aO
 ·have e:l.take k=l:=List.take_of_length_le (by omega);rw [e] at aS;exact aS
theorem O4 (l:List Int) (aq:l.length<=100000) (bf:∀ x∈l,0<=x/\x<=1000000):Tot (ye l) (ov l):=by
 unfold ye;refine .aK (Ξ:=λr:List Int=>gk iE r/\r.length<=l.length/\∀ x,x∈r↔x∈l) ?_ λD sD=>?_
 ·refine Tot.upto (λs=>s.2) l.length (λk s=>gk iE s.1/\s.1.length<=k/\∀ x,x∈s.1↔x∈l.take k) rfl (by omega) ⟨.nil,Nat.le_refl 0,λx=>by simp⟩ λk s hk he bt=>?_;obtain ⟨r,i⟩:=s;obtain ⟨h1,al,aS⟩:=bt;simp only at he h1 al aS ⊢;subst he;rw [eU k (by omega)];refine Tot.b_ (λbg=>?_) (λew=>.aC ?_)
  ·have bg:k<l.length:=by omega
   have gi:=kt bg;rw [et bg];generalize l[k]=y at *;refine Tot.aw (.aK (Cm r y h1 (by omega)) λfg e2=>.aC ⟨bg,rfl,e2.1,by have:=e2.2.1; show fg.length<=k+1; omega,λx=>?_⟩);rw [gi,List.mem_append,List.mem_singleton,<- aS];exact e2.2.2 x
  ·have e:l.take k=l:=List.take_of_length_le (by omega);rw [e] at aS;exact ⟨h1,by omega,aS⟩
 ·obtain ⟨Rw,WO,CP⟩:=sD;refine .aK (Ξ:=λr:Int=>ov l r) ?_ λr ax=>.aC ax;refine Tot.upto (λs=>s.2.2) D.length (λk s=>(k=0/\s.1=-1/\s.2.1=0)\/(s.1∈D.take k/\s.2.1=(l.count s.1:Int)/\∀ x∈D.take k,l.count x<l.count s.1\/(l.count x=l.count s.1/\s.1<=x))) rfl (by omega) (.inl ⟨rfl,rfl,rfl⟩) λk s hk he bt=>?_;obtain ⟨b,n,i⟩:=s;simp only at he bt ⊢;subst he;rw [eU k (by omega)];refine Tot.b_ (λbg=>?_) (λew=>.aC ?_)
  ·have bg:k<D.length:=by omega
   have gi:=kt bg;have T1:=List.getElem_mem bg;have qU:∀ x∈D.take k,x<D[k]:=λx J=>by
    obtain ⟨af,aa,rfl⟩:=List.mem_iff_getElem.1 J;rw [List.length_take] at aa;rw [List.getElem_take];exact HA.1 (Jq Rw (by omega) bg (by omega))
   rw [et bg];generalize D[k]=y at *;have Df:=(CP y).1 T1;refine .aK (Ξ:=λr:Int × Int=>r.1∈D.take (k+1)/\r.2=(l.count r.1:Int)/\∀ x∈D.take (k+1),l.count x<l.count r.1\/(l.count x=l.count r.1/\r.1<=x)) ?_ λr ax=>.aC ⟨bg,rfl,.inr ax⟩;refine .aK (Ξ:=λz:Int=>z=(l.count y:Int)) ?_ λz bH=>?_
   ·refine Tot.upto (λs=>s.2) l.length (λaf s=>s.1=((l.take af).count y:Int)) rfl (by omega) (by simp) λaf s aa he bt=>?_;obtain ⟨z,i⟩:=s;simp only at he bt ⊢;subst he bt;rw [eU af (by omega)];refine Tot.b_ (λeo=>?_) (λew=>.aC ?_)
    ·have eo:af<l.length:=by omega
     have l9:=kt eo;have hG:=List.count_le_length (a:=y) (l:=l.take af);rw [List.length_take] at hG;rw [et eo];generalize l[af]=x at *;simp only [Option.bind_some];refine .aK (Ξ:=λz:Int=>z=((l.take (af+1)).count y:Int)) ?_ λz bH=>.aC ⟨eo,rfl,bH⟩;rw [l9,sq];refine .aK (Ξ:=λz:Int=>z=(((l.take af).count y+if x=y then 1 else 0:Nat):Int)) (Tot.b_ (λe=>.aC ?_) (λe=>.aC ?_)) λz bH=>.aC bH
     ·rw [if_pos e,eU _ (by omega)]
     ·rw [if_neg e]; rfl
    ·have e:l.take af=l:=List.take_of_length_le (by omega);rw [e]; rfl
   ·subst bH;refine .aK (Ξ:=λr:Int × Int=>r.1∈D.take (k+1)/\r.2=(l.count r.1:Int)/\∀ x∈D.take (k+1),l.count x<l.count r.1\/(l.count x=l.count r.1/\r.1<=x)) ?_ λr ax=>.aC ax;have W0:=Qi Df;rw [gi];have key:∀ x∈D.take k++[y],x∈D.take k\/x=y:=λx J=>by simpa using J
    refine Tot.b_ (λae=>Tot.aw (.aC ⟨by simp,rfl,λx J=>?_⟩)) (λae=>?_)
    ·rcases key x J with J | rfl
     ·rcases bt with ⟨rfl,_,_⟩ | ⟨h1,al,aS⟩
      ·simp at J
      ·have:=aS x J; show l.count x<l.count y\/_; omega
     ·exact .inr ⟨rfl,Int.le_refl _⟩
    ·rcases bt with ⟨rfl,_,rfl⟩ | ⟨h1,al,aS⟩
     ·omega
     ·refine .aC ⟨by simp [h1],al,λx J=>?_⟩;rcases key x J with J | rfl
      ·exact aS x J
      ·have:=qU b h1;have ae:¬ ((n:Int)<(l.count x:Int)):=ae;have al:n=(l.count b:Int):=al;show l.count x<l.count b\/(l.count x=l.count b/\b<=x);omega
  ·have e:D.take k=D:=List.take_of_length_le (by omega);rw [e] at bt;rcases bt with ⟨rfl,rfl,_⟩ | ⟨h1,al,aS⟩
   ·have:D=[]:=List.eq_nil_of_length_eq_zero (by omega);refine .inl ⟨?_,rfl⟩;refine List.eq_nil_iff_forall_not_mem.2 λx J=>?_;have:=(CP x).2 J
    subst_vars
    cases this
   ·exact .inr ⟨(CP b).1 h1,λx J=>aS x ((CP x).2 J)⟩
def nn (l:List Int):Int:=(ye l).getD (-1)
def Ev (l:List Int):Prop:=l.length<=100000/\∀ x∈l,0<=x/\x<=1000000
theorem DD {l:List Int}(h:Ev l):AT l=some (nn l)/\ye l=some (nn l)/\ov l (nn l):=by
 obtain ⟨v,hv,h1⟩:=O3 l h.1 h.2;obtain ⟨w,hw,al⟩:=O4 l h.1 h.2;have e:nn l=w:=by unfold nn; rw [hw]; rfl
 have de:=h1.uniq al;rw [e];exact ⟨by rw [hv,de],hw,al⟩
def kN {α:Type}(keep:α->Bool) (val:α->Int) (l:List α):List gq:=(l.zipIdx.filter λp=>keep p.1).map λp=>(⟨(p.2:Nat),val p.1⟩:gq)
theorem DP {α:Type}(keep:α->Bool) (val:α->Int) (l:List α) (x:α):kN keep val (l++[x])=kN keep val l++(if keep x=true then [(⟨l.length,val x⟩:gq)] else []):=by
 unfold kN;rw [List.zipIdx_append,List.filter_append,List.map_append];congr 1;cases h:keep x <;> simp [h]
theorem DO {α:Type}(keep:α->Bool) (val:α->Int) (l:List α):(kN keep val l).length<=l.length:=by
 unfold kN;rw [List.length_map];refine Nat.le_trans (List.length_filter_le ..) ?_;rw [List.length_zipIdx]; exact Nat.le_refl _
def red (r:List Act):List Int:=(r.filter λa=>decide (a.Kind=2)).map (·.N)
theorem H6 (r:List Act) (a:Act):red (r++[a])=red r++(if a.Kind=2 then [a.N] else []):=by
 unfold red;rw [List.filter_append,List.map_append];congr 1;by_cases h:a.Kind=2 <;> simp [h]
theorem DS (r:List Act):(red r).length<=r.length:=by
 unfold red;rw [List.length_map]; exact List.length_filter_le ..
def mW (a:Act):Int:=(nG a).getD 0
theorem JS (a:Act):DI a=some (mW a)/\nG a=some (mW a):=by
 obtain ⟨c,ae,_⟩:=u16 a;have:mW a=c:=by unfold mW; rw [ae]; rfl
 rw [this,Qt];exact ⟨ae,ae⟩
def lA (d:Int) (a:Act):Bool:=!decide (a.Kind=0)&&(!decide (a.Kind=2)||!decide (a.N=d))
def uJ (r:List Act):Row:=⟨nn (red r),kN (lA (nn (red r))) mW r⟩
def l' (d v:Int):Bool:=decide (0<=v)&&!decide (v=d)
def pos (c:List Int):List Int:=c.filter λv=>decide (0<=v)
theorem MO (r:List Int) (a:Int):pos (r++[a])=pos r++(if 0<=a then [a] else []):=by
 unfold pos;rw [List.filter_append];congr 1;by_cases h:0<=a <;> simp [h]
def uK (c:List Int):Row:=⟨nn (pos c),kN (l' (nn (pos c))) id c⟩
def f_ (d:iH) (a:Nat):List Int:=d.dp.map λr=>r.getD a 0
theorem MR {g:b3}{n:Nat}(bb:gY g) {r:List Act}(aq:r.length=g.a'.length) (h:∀ a∈r,rk g n a):Ev (red r):=by
 have aG:=bb.kQ;have aH:=bb.lP;have:=DS r;refine ⟨by omega,λx J=>?_⟩;unfold red at J;obtain ⟨a,bk,rfl⟩:=List.mem_map.1 J;rw [List.mem_filter] at bk;have hk:=(h a bk.1).qh (of_decide_eq_true bk.2);have h1:=hk.1;have al:=hk.2;omega
theorem MN {c:List Int}(aq:c.length<=150) (h:∀ v∈c,v<150):Ev (pos c):=by
 have:=List.length_filter_le (λv:Int=>decide (0<=v)) c;refine ⟨by unfold pos; omega,λx J=>?_⟩;unfold pos at J;rw [List.mem_filter] at J;have h1:=h x J.1;have al:=of_decide_eq_true J.2;omega
theorem Ch (g:b3) (n:Nat) (d:iH) (aZ:uX g n d):Tot (MG d) λr=>r=d.eg.map uJ:=by
 have bb:=aZ.sB;have aG:=bb.kQ;have aP:=aZ.hB;have bk:=aZ.a;unfold MG;refine .aK (Ξ:=λr:List Row=>r=d.eg.map uJ) ?_ λr ax=>.aC ax;refine Tot.upto (λs=>s.2) d.eg.length (λk s=>s.1=(d.eg.take k).map uJ) rfl (by omega) rfl λk s hk he bt=>?_;obtain ⟨R,i⟩:=s;simp only at he bt ⊢;subst he bt;rw [eU k (by omega)];refine Tot.b_ (λbg=>?_) (λew=>.aC ?_)
 ·have bg:k<d.eg.length:=by omega
  have gi:=kt bg;obtain ⟨oI,xL⟩:=aZ.EE _ (List.getElem_mem bg);simp only [et bg,Option.bind_some];generalize d.eg[k]=r at *;have lv:=MR bb oI xL;obtain ⟨y7,y8,_⟩:=DD lv;refine .aK (Ξ:=λl:List Int=>l=red r) ?_ λl aq=>?_
  ·refine Tot.upto (λs=>s.2) r.length (λaf s=>s.1=red (r.take af)) rfl (by omega) rfl λaf s aa he bt=>?_;obtain ⟨L,i⟩:=s;simp only at he bt ⊢;subst he bt;rw [eU af (by omega)];refine Tot.b_ (λeo=>?_) (λew=>.aC ?_)
   ·have eo:af<r.length:=by omega
    have l9:=kt eo;have hlen:=DS (r.take af);rw [List.length_take] at hlen;simp only [et eo,Option.bind_some];generalize r[af]=a at *;refine .aK (Ξ:=λL:List Int=>L=red (r.take (af+1))) ?_ λr ax=>.aC ⟨eo,rfl,ax⟩;rw [l9,H6];refine .aK (Ξ:=λL:List Int=>L=red (r.take af)++(if a.Kind=2 then [a.N] else [])) (Tot.b_ (λh=>?_) (λh=>.aC ?_)) λr ax=>.aC ax
    ·rw [if_pos h];exact .aK (Ξ:=λ_=>True) (Tot.ap (by simp [lim]; omega) trivial) λ_ _=>.aC rfl
    ·rw [if_neg h,List.append_nil]
   ·have e:r.take af=r:=List.take_of_length_le (by omega);rw [e]; rfl
  ·subst aq;rw [y7];refine Tot.aw (.aK (Ξ:=λl:List gq=>l=kN (lA (nn (red r))) mW r) ?_ λl aq=>?_)
   ·generalize nn (red r)=D;refine Tot.upto (λs=>s.2) r.length (λaf s=>s.1=kN (lA D) mW (r.take af)) rfl (by omega) rfl λaf s aa he bt=>?_;obtain ⟨L,i⟩:=s;simp only at he bt ⊢;subst he bt;rw [eU af (by omega)];refine Tot.b_ (λeo=>?_) (λew=>.aC ?_)
    ·have eo:af<r.length:=by omega
     have l9:=kt eo;have hlen:=DO (lA D) mW (r.take af);have fp:(r.take af).length=af:=by rw [List.length_take]; omega
     rw [List.length_take] at hlen;simp only [et eo,Option.bind_some];generalize r[af]=a at *;rw [(JS a).1];refine .aK (Ξ:=λL:List gq=>L=kN (lA D) mW (r.take (af+1))) ?_ λr ax=>.aC ⟨eo,rfl,ax⟩;rw [l9,DP,fp];refine .aK (Ξ:=λc:Bool=>c=lA D a) (Tot.cE (λh=>?_) (λh=>.aC ?_)) λc ae=>?_
     ·refine Tot.cE (λal=>.aC ?_) (λal=>.aC ?_)
      ·unfold lA; rw [h,al]; rfl
      ·unfold lA; rw [h,al]; rfl
     ·unfold lA; rw [h]; rfl
     subst ae;refine .aK (Ξ:=λL:List gq=>L=kN (lA D) mW (r.take af)++(if lA D a=true then [(⟨af,mW a⟩:gq)] else [])) (Tot.cE (λh=>?_) (λh=>.aC ?_)) λr ax=>.aC ax
     ·rw [if_pos h];exact Tot.aw (.aK (Ξ:=λ_=>True) (Tot.ap (by simp [lim]; omega) trivial) λ_ _=>.aC rfl)
     ·rw [if_neg (by rw [h]; decide),List.append_nil]
    ·have e:r.take af=r:=List.take_of_length_le (by omega);rw [e]; rfl
   ·subst aq;refine .aK (Ξ:=λ_=>True) (Tot.ap (by simp [lim]; omega) trivial) λ_ _=>.aC ⟨bg,rfl,?_⟩;show _=(d.eg.take (k+1)).map uJ;rw [gi,List.map_append]; rfl
 ·have e:d.eg.take k=d.eg:=List.take_of_length_le (by omega);rw [e]; rfl
theorem xd (g:b3) (n:Nat) (d:iH) (aZ:uX g n d):Tot (MH d) λr=>r=d.eg.map uJ:=by
 have bb:=aZ.sB;have aG:=bb.kQ;have aP:=aZ.hB;have bk:=aZ.a;unfold MH;refine .aK (Ξ:=λr:List Row=>r=d.eg.map uJ) ?_ λr ax=>.aC ax;refine Tot.upto (λs=>s.2) d.eg.length (λk s=>s.1=(d.eg.take k).map uJ) rfl (by omega) rfl λk s hk he bt=>?_;obtain ⟨R,i⟩:=s;simp only at he bt ⊢;subst he bt;rw [eU k (by omega)];refine Tot.b_ (λbg=>?_) (λew=>.aC ?_)
 ·have bg:k<d.eg.length:=by omega
  have gi:=kt bg;obtain ⟨oI,xL⟩:=aZ.EE _ (List.getElem_mem bg);simp only [et bg,Option.bind_some];generalize d.eg[k]=r at *;have lv:=MR bb oI xL;obtain ⟨y7,y8,_⟩:=DD lv;refine .aK (Ξ:=λl:List Int=>l=red r) ?_ λl aq=>?_
  ·refine Tot.upto (λs=>s.2) r.length (λaf s=>s.1=red (r.take af)) rfl (by omega) rfl λaf s aa he bt=>?_;obtain ⟨L,i⟩:=s;simp only at he bt ⊢;subst he bt;rw [eU af (by omega)];refine Tot.b_ (λeo=>?_) (λew=>.aC ?_)
   ·have eo:af<r.length:=by omega
    have l9:=kt eo;have hlen:=DS (r.take af);rw [List.length_take] at hlen;simp only [et eo,Option.bind_some];generalize r[af]=a at *;refine .aK (Ξ:=λL:List Int=>L=red (r.take (af+1))) ?_ λr ax=>.aC ⟨eo,rfl,ax⟩;rw [l9,H6];refine .aK (Ξ:=λL:List Int=>L=red (r.take af)++(if a.Kind=2 then [a.N] else [])) (Tot.b_ (λh=>?_) (λh=>.aC ?_)) λr ax=>.aC ax
    ·rw [if_pos h];exact .aK (Ξ:=λ_=>True) (Tot.ap (by simp [lim]; omega) trivial) λ_ _=>.aC rfl
    ·rw [if_neg h,List.append_nil]
   ·have e:r.take af=r:=List.take_of_length_le (by omega);rw [e]; rfl
  ·subst aq;rw [y8];refine Tot.aw (.aK (Ξ:=λl:List gq=>l=kN (lA (nn (red r))) mW r) ?_ λl aq=>?_)
   ·generalize nn (red r)=D;refine Tot.upto (λs=>s.2) r.length (λaf s=>s.1=kN (lA D) mW (r.take af)) rfl (by omega) rfl λaf s aa he bt=>?_;obtain ⟨L,i⟩:=s;simp only at he bt ⊢;subst he bt;rw [eU af (by omega)];refine Tot.b_ (λeo=>?_) (λew=>.aC ?_)
    ·have eo:af<r.length:=by omega
     have l9:=kt eo;have hlen:=DO (lA D) mW (r.take af);have fp:(r.take af).length=af:=by rw [List.length_take]; omega
     rw [List.length_take] at hlen;simp only [et eo,Option.bind_some];generalize r[af]=a at *;rw [(JS a).2];refine .aK (Ξ:=λL:List gq=>L=kN (lA D) mW (r.take (af+1))) ?_ λr ax=>.aC ⟨eo,rfl,ax⟩;rw [l9,DP,fp];refine .aK (Ξ:=λc:Bool=>c=lA D a) (Tot.cE (λh=>?_) (λh=>.aC ?_)) λc ae=>?_
     ·refine Tot.cE (λal=>.aC ?_) (λal=>.aC ?_)
      ·unfold lA; rw [h,al]; rfl
      ·unfold lA; rw [h,al]; rfl
     ·unfold lA; rw [h]; rfl
     subst ae;refine .aK (Ξ:=λL:List gq=>L=kN (lA D) mW (r.take af)++(if lA D a=true then [(⟨af,mW a⟩:gq)] else [])) (Tot.cE (λh=>?_) (λh=>.aC ?_)) λr ax=>.aC ax
     ·rw [if_pos h];exact Tot.aw (.aK (Ξ:=λ_=>True) (Tot.ap (by simp [lim]; omega) trivial) λ_ _=>.aC rfl)
     ·rw [if_neg (by rw [h]; decide),List.append_nil]
    ·have e:r.take af=r:=List.take_of_length_le (by omega);rw [e]; rfl
   ·subst aq;refine .aK (Ξ:=λ_=>True) (Tot.ap (by simp [lim]; omega) trivial) λ_ _=>.aC ⟨bg,rfl,?_⟩;show _=(d.eg.take (k+1)).map uJ;rw [gi,List.map_append]; rfl
 ·have e:d.eg.take k=d.eg:=List.take_of_length_le (by omega);rw [e]; rfl
theorem yZ (d:iH) (a:Nat):(f_ d a).length=d.dp.length:=by simp [f_]
theorem Cn {d:iH}{a q:Nat}(h:q<d.dp.length):(f_ d a).take (q+1)=(f_ d a).take q++[(d.dp[q]).getD a 0]:=by
 rw [kt (by rw [yZ]; exact h)];congr 2;simp [f_]
theorem JT {g:b3}{n:Nat}{d:iH}(aZ:uX g n d) {a:Nat}(bk:a<g.bw.length):∀ v∈f_ d a,-1<=v/\v<n:=λv hv=>by
 unfold f_ at hv;obtain ⟨r,ax,rfl⟩:=List.mem_map.1 hv;obtain ⟨h1,al⟩:=aZ.ux r ax;refine al _ ?_;rw [List.getD_eq_getElem?_getD,List.getElem?_eq_getElem (by omega)];exact List.getElem_mem _
theorem Dk {r:List Int}{a:Nat}(h:a<r.length):idx r (a:Int)=some (r.getD a 0):=by
 rw [et h,List.getD_eq_getElem?_getD,List.getElem?_eq_getElem h]; rfl
theorem MM (c:List Int):(pos c).length<=c.length:=List.length_filter_le ..
theorem Ci (g:b3) (n:Nat) (d:iH) (aZ:uX g n d):Tot (MI d) λr=>r=(List.range g.bw.length).map λa=>uK (f_ d a):=by
 have bb:=aZ.sB;have aG:=bb.hZ;have aP:=aZ.hB;have bk:=aZ.o;have bf:0<d.dp.length:=by omega
 obtain ⟨Tb,_⟩:=aZ.ux _ (List.getElem_mem bf);have i0:idx d.dp 0=some d.dp[0]:=et (k:=0) bf;unfold MI;refine Tot.b_ (λh=>absurd h (by omega)) (λ_=>?_);rw [i0];refine Tot.aw (.aK (Ξ:=λr:List Row=>r=(List.range g.bw.length).map λa=>uK (f_ d a)) ?_ λr ax=>.aC ax);refine Tot.upto (λs=>s.2) g.bw.length (λk s=>s.1=(List.range k).map λa=>uK (f_ d a)) rfl (by omega) rfl λk s hk he bt=>?_;obtain ⟨R,i⟩:=s;simp only at he bt ⊢;subst he bt;rw [eU k (by omega)];refine Tot.b_ (λbg=>?_) (λew=>.aC ?_)
 ·have iD:k<g.bw.length:=by omega
  have lv:=MN (c:=f_ d k) (by rw [yZ]; omega) λv hv=>by have:=(JT aZ iD v hv).2; omega
  obtain ⟨y7,y8,_⟩:=DD lv;have hG:=yZ d k;refine .aK (Ξ:=λl:List Int=>l=pos (f_ d k)) ?_ λl aq=>?_
  ·refine Tot.upto (λs=>s.2) d.dp.length (λaf s=>s.1=pos ((f_ d k).take af)) rfl (by omega) rfl λaf s aa he bt=>?_;obtain ⟨L,i⟩:=s;simp only at he bt ⊢;subst he bt;rw [eU af (by omega)];refine Tot.b_ (λeo=>?_) (λew=>.aC ?_)
   ·have eo:af<d.dp.length:=by omega
    have l9:=Cn (a:=k) eo;have hlen:=MM ((f_ d k).take af);rw [List.length_take] at hlen;obtain ⟨oI,_⟩:=aZ.ux _ (List.getElem_mem eo);simp only [et eo,Option.bind_some,Dk (show k<(d.dp[af]).length by omega)];generalize (d.dp[af]).getD k 0=v at *;refine .aK (Ξ:=λL:List Int=>L=pos ((f_ d k).take (af+1))) ?_ λr ax=>.aC ⟨eo,rfl,ax⟩;rw [l9,MO];refine .aK (Ξ:=λL:List Int=>L=pos ((f_ d k).take af)++(if 0<=v then [v] else [])) (Tot.b_ (λh=>?_) (λh=>.aC ?_)) λr ax=>.aC ax
    ·rw [if_pos h];exact .aK (Ξ:=λ_=>True) (Tot.ap (by simp [lim]; omega) trivial) λ_ _=>.aC rfl
    ·rw [if_neg h,List.append_nil]
   ·have e:(f_ d k).take af=f_ d k:=List.take_of_length_le (by omega);rw [e]; rfl
  ·subst aq;rw [y7];refine Tot.aw (.aK (Ξ:=λl:List gq=>l=kN (l' (nn (pos (f_ d k)))) id (f_ d k)) ?_ λl aq=>?_)
   ·generalize nn (pos (f_ d k))=D;refine Tot.upto (λs=>s.2) d.dp.length (λaf s=>s.1=kN (l' D) id ((f_ d k).take af)) rfl (by omega) rfl λaf s aa he bt=>?_;obtain ⟨L,i⟩:=s;simp only at he bt ⊢;subst he bt;rw [eU af (by omega)];refine Tot.b_ (λeo=>?_) (λew=>.aC ?_)
    ·have eo:af<d.dp.length:=by omega
     have l9:=Cn (a:=k) eo;have hlen:=DO (l' D) id ((f_ d k).take af);have fp:((f_ d k).take af).length=af:=by rw [List.length_take]; omega
     rw [fp] at hlen;obtain ⟨oI,_⟩:=aZ.ux _ (List.getElem_mem eo);simp only [et eo,Option.bind_some,Dk (show k<(d.dp[af]).length by omega)];generalize (d.dp[af]).getD k 0=v at *;refine .aK (Ξ:=λL:List gq=>L=kN (l' D) id ((f_ d k).take (af+1))) ?_ λr ax=>.aC ⟨eo,rfl,ax⟩;rw [l9,DP,fp];refine .aK (Ξ:=λc:Bool=>c=l' D v) (Tot.cE (λh=>.aC ?_) (λh=>.aC ?_)) λc ae=>?_
     ·unfold l'; rw [h]; rfl
     ·unfold l'; rw [h]; rfl
     subst ae;refine .aK (Ξ:=λL:List gq=>L=kN (l' D) id ((f_ d k).take af)++(if l' D v=true then [(⟨af,id v⟩:gq)] else [])) (Tot.cE (λh=>?_) (λh=>.aC ?_)) λr ax=>.aC ax
     ·rw [if_pos h];exact .aK (Ξ:=λ_=>True) (Tot.ap (by simp [lim]; omega) trivial) λ_ _=>.aC rfl
     ·rw [if_neg (by rw [h]; decide),List.append_nil]
    ·have e:(f_ d k).take af=f_ d k:=List.take_of_length_le (by omega);rw [e]; rfl
   ·subst aq;refine .aK (Ξ:=λ_=>True) (Tot.ap (by simp [lim]; omega) trivial) λ_ _=>.aC ⟨iD,rfl,?_⟩;show _=(List.range (k+1)).map λa=>uK (f_ d a);rw [List.range_succ,List.map_append]; rfl
 ·have:k=g.bw.length:=by omega
  subst this; rfl
theorem Cj (g:b3) (n:Nat) (d:iH) (aZ:uX g n d):Tot (MJ d) λr=>r=(List.range g.bw.length).map λa=>uK (f_ d a):=by
 have bb:=aZ.sB;have aG:=bb.hZ;have aP:=aZ.hB;have bk:=aZ.o;have bf:0<d.dp.length:=by omega
 obtain ⟨Tb,_⟩:=aZ.ux _ (List.getElem_mem bf);have i0:idx d.dp 0=some d.dp[0]:=et (k:=0) bf;have g0:decide ((0:Int)<(d.dp.length:Int))=true:=decide_eq_true (by omega);unfold MJ;refine .aK (Ξ:=λr:List Row=>r=(List.range g.bw.length).map λa=>uK (f_ d a)) ?_ λr ax=>.aC ax;refine Tot.upto (λs=>s.2) g.bw.length (λk s=>s.1=(List.range k).map λa=>uK (f_ d a)) rfl (by omega) rfl λk s hk he bt=>?_;obtain ⟨R,i⟩:=s;simp only at he bt ⊢;subst he bt;rw [eU k (by omega),g0,i0];simp only [cond_true,Option.bind_some];refine Tot.b_ (λbg=>?_) (λew=>.aC ?_)
 ·have iD:k<g.bw.length:=by omega
  have lv:=MN (c:=f_ d k) (by rw [yZ]; omega) λv hv=>by have:=(JT aZ iD v hv).2; omega
  obtain ⟨y7,y8,_⟩:=DD lv;have hG:=yZ d k;refine .aK (Ξ:=λl:List Int=>l=pos (f_ d k)) ?_ λl aq=>?_
  ·refine Tot.upto (λs=>s.2) d.dp.length (λaf s=>s.1=pos ((f_ d k).take af)) rfl (by omega) rfl λaf s aa he bt=>?_;obtain ⟨L,i⟩:=s;simp only at he bt ⊢;subst he bt;rw [eU af (by omega)];refine Tot.b_ (λeo=>?_) (λew=>.aC ?_)
   ·have eo:af<d.dp.length:=by omega
    have l9:=Cn (a:=k) eo;have hlen:=MM ((f_ d k).take af);rw [List.length_take] at hlen;obtain ⟨oI,_⟩:=aZ.ux _ (List.getElem_mem eo);simp only [et eo,Option.bind_some,Dk (show k<(d.dp[af]).length by omega)];generalize (d.dp[af]).getD k 0=v at *;refine .aK (Ξ:=λL:List Int=>L=pos ((f_ d k).take (af+1))) ?_ λr ax=>.aC ⟨eo,rfl,ax⟩;rw [l9,MO];refine .aK (Ξ:=λL:List Int=>L=pos ((f_ d k).take af)++(if 0<=v then [v] else [])) (Tot.b_ (λh=>?_) (λh=>.aC ?_)) λr ax=>.aC ax
    ·rw [if_pos h];exact .aK (Ξ:=λ_=>True) (Tot.ap (by simp [lim]; omega) trivial) λ_ _=>.aC rfl
    ·rw [if_neg h,List.append_nil]
   ·have e:(f_ d k).take af=f_ d k:=List.take_of_length_le (by omega);rw [e]; rfl
  ·subst aq;rw [y8];refine Tot.aw (.aK (Ξ:=λl:List gq=>l=kN (l' (nn (pos (f_ d k)))) id (f_ d k)) ?_ λl aq=>?_)
   ·generalize nn (pos (f_ d k))=D;refine Tot.upto (λs=>s.2) d.dp.length (λaf s=>s.1=kN (l' D) id ((f_ d k).take af)) rfl (by omega) rfl λaf s aa he bt=>?_;obtain ⟨L,i⟩:=s;simp only at he bt ⊢;subst he bt;rw [eU af (by omega)];refine Tot.b_ (λeo=>?_) (λew=>.aC ?_)
    ·have eo:af<d.dp.length:=by omega
     have l9:=Cn (a:=k) eo;have hlen:=DO (l' D) id ((f_ d k).take af);have fp:((f_ d k).take af).length=af:=by rw [List.length_take]; omega
     rw [fp] at hlen;obtain ⟨oI,_⟩:=aZ.ux _ (List.getElem_mem eo);simp only [et eo,Option.bind_some,Dk (show k<(d.dp[af]).length by omega)];generalize (d.dp[af]).getD k 0=v at *;refine .aK (Ξ:=λL:List gq=>L=kN (l' D) id ((f_ d k).take (af+1))) ?_ λr ax=>.aC ⟨eo,rfl,ax⟩;rw [l9,DP,fp];refine .aK (Ξ:=λc:Bool=>c=l' D v) (Tot.cE (λh=>.aC ?_) (λh=>.aC ?_)) λc ae=>?_
     ·unfold l'; rw [h]; rfl
     ·unfold l'; rw [h]; rfl
     subst ae;refine .aK (Ξ:=λL:List gq=>L=kN (l' D) id ((f_ d k).take af)++(if l' D v=true then [(⟨af,id v⟩:gq)] else [])) (Tot.cE (λh=>?_) (λh=>.aC ?_)) λr ax=>.aC ax
     ·rw [if_pos h];exact .aK (Ξ:=λ_=>True) (Tot.ap (by simp [lim]; omega) trivial) λ_ _=>.aC rfl
     ·rw [if_neg (by rw [h]; decide),List.append_nil]
    ·have e:(f_ d k).take af=f_ d k:=List.take_of_length_le (by omega);rw [e]; rfl
   ·subst aq;refine .aK (Ξ:=λ_=>True) (Tot.ap (by simp [lim]; omega) trivial) λ_ _=>.aC ⟨iD,rfl,?_⟩;show _=(List.range (k+1)).map λa=>uK (f_ d a);rw [List.range_succ,List.map_append]; rfl
 ·have:k=g.bw.length:=by omega
  subst this; rfl
theorem Kc (g:b3) (t:Int):yg g t=some (match idx g.a' t with | some k=>(k.Level,k.fh) | none=>(0,0)):=by
 unfold yg;by_cases bf:t<0
 ·rw [vH (.inl bf)]; simp [bf]
 ·by_cases h1:(g.a'.length:Int)<=t
  ·rw [vH (.inr h1)]; simp [h1]
  ·obtain ⟨k,hk,_⟩:=k9 (l:=g.a') (i:=t) (by omega) (by omega);simp [bf,h1,hk]
theorem Qz (g:b3) (p:Int):A1 g p=some (s4 g p):=by
 unfold A1 s4;by_cases bf:p<0
 ·rw [vH (.inl bf)]; simp [bf]
 ·by_cases h1:(g.a8.length:Int)<=p
  ·rw [vH (.inr h1)]; simp [h1]
  ·obtain ⟨k,hk,_⟩:=k9 (l:=g.a8) (i:=p) (by omega) (by omega);simp only [bf,h1,hk,decide_false,cond_false,Option.bind_some,Kc]
   first | done | (cases idx g.a' k.Prec <;> rfl)
theorem Qq (g:b3) (p t:Int):dec g p t=0\/dec g p t=1\/dec g p t=2\/dec g p t=3:=by
 unfold dec;split
 ·repeat' split
  all_goals simp
 ·exact .inl rfl
theorem Qw (g:b3) (p t:Int):AQ g p t=some (dec g p t):=by
 unfold AQ;rw [Qz,Kc];unfold dec;generalize s4 g p=x;cases hk:idx g.a' t with
 | none =>
  simp only [Option.bind_some];by_cases h1:x.1=0 <;> simp [h1]
 | some k =>
  simp only [Option.bind_some];by_cases h1:x.1=0
  ·simp [h1]
  ·by_cases al:k.Level=0
   ·simp [h1,al]
   ·rw [if_neg (by omega)];simp only [h1,al,decide_false,cond_false,Option.bind_some];by_cases aS:x.1<k.Level
    ·simp [aS]
    ·by_cases b7:k.Level<x.1
     ·have:¬ k.Level=x.1:=by omega
      simp [aS,b7,this]
     ·have:k.Level=x.1:=by omega
      rw [if_neg aS,if_neg b7];by_cases dv:k.fh=1
      ·simp [this,dv]
      ·by_cases eC:k.fh=2
       ·simp [this,eC]
       ·simp [this,dv,eC]
theorem Jr {p:Int}{r:List Int}(h:gk iE (p::r)):∀ x∈r,p<x:=λx J=>HA.1 ((List.pairwise_cons.1 h).1 x J)
theorem JL (p:Int) (r:List Int) (aq:r.length<=1000) (h:gk iE (p::r)):we (p::r)=some p:=by
 suffices aO:Tot (we (p::r)) λz=>z=p by
  obtain ⟨z,bH,e⟩:=aO; rw [bH,e]
 have bg:=Jr h;unfold we;refine Tot.b_ (λh=>by rw [List.length_cons] at h; omega) (λ_=>?_);have j_:idx (p::r) 0=some p:=rfl;rw [j_];refine Tot.aw (.aK (Ξ:=λz:Int=>z=p) ?_ λz bH=>.aC bH);refine Tot.count (λs=>s.2) ((p::r).length:Int) (λs=>s.1=p/\1<=s.2) ⟨rfl,Int.le_refl _⟩ (by rw [List.length_cons]; show ((r.length+1:Nat):Int) - 1<_; omega) λs aO=>?_;obtain ⟨z,i⟩:=s;obtain ⟨h1,al⟩:=aO;simp only at h1 al ⊢;subst h1;have SZ:(z::r).length=r.length+1:=rfl;refine Tot.b_ (λS0=>?_) (λ_=>.aC rfl);obtain ⟨y,aA,hm⟩:=k9 (l:=z::r) (i:=i) (by omega) S0;rw [aA];have T2:z<=y:=by
  rcases List.mem_cons.1 hm with rfl | hm
  ·exact Int.le_refl _
  ·have:=bg y hm; omega
 refine Tot.aw (.aC ⟨⟨Int.min_eq_left T2,?_⟩,?_,?_⟩)
 ·show 1<=aL (i+1);rw [dH]; omega
 ·show i<aL (i+1);rw [dH]; omega
 ·show aL (i+1)<=_;rw [dH]; omega
def E0 (g:b3) (c:Cell):Bool:=match c.a8 with
 | []=>false
 | p::_=>decide (c.jc=true\/(0<=c.gw/\dec g p c.bM=0))
theorem Qx (g:b3) (bb:gY g) {n:Nat}(c:Cell) (h:nO g n c):AY g c=some (pd g c,E0 g c):=by
 have aq:=h.len bb;have aH:=h.p;unfold AY pd E0;cases di:c.a8 with
 | nil =>
  simp only;cases h1:c.jc <;> simp
 | cons p r =>
  rw [di,List.length_cons] at aq;rw [di] at aH;have dl:decide (((p::r).length:Int)=0)=false:=decide_eq_false (by simp; omega);simp only [dl,cond_false,JL p r (by omega) aH,Option.bind_some,Qw];have aZ:=Qq g p c.bM;generalize dec g p c.bM=v at *;cases h1:c.jc
  ·by_cases al:c.gw<0
   ·have aS:¬ 0<=c.gw:=by omega
    simp [al,aS]
   ·have aS:0<=c.gw:=by omega
    rcases aZ with rfl | rfl | rfl | rfl <;> simp [al,aS]
  ·simp
theorem QA:∀ k:Fin 24,DM [-1] ((k.val+1:Nat):Int)=some (List.replicate (k.val+1) (-1)):=by decide +kernel
theorem O6 (g:b3) (bb:gY g) {m:List State}(hm:lT g m):Tot (AX g m) λd=>d.eg=(List.range m.length).map (λ_=>List.replicate g.a'.length (⟨0,0⟩:Act))/\d.dp=(List.range m.length).map λq=>pt g m q:=by
 have aG:=bb.kQ;have aP:=bb.hZ;have xJ:=hm.lN;unfold AX;refine .aK (Ξ:=λr:List (List Act) × List (List Int)=>r.1=(List.range m.length).map (λ_=>List.replicate g.a'.length (⟨0,0⟩:Act))/\r.2=(List.range m.length).map λq=>pt g m q) ?_ λr ax=>.aC ax;refine Tot.upto (λs=>s.2.2) m.length (λk s=>s.1=(List.range k).map (λ_=>List.replicate g.a'.length (⟨0,0⟩:Act))/\s.2.1=(List.range k).map λq=>pt g m q) rfl (by omega) ⟨rfl,rfl⟩ λk s hk he bt=>?_;obtain ⟨A,G,i⟩:=s;obtain ⟨h1,al⟩:=bt;simp only at he h1 al ⊢;subst he h1 al;rw [eU k (by omega)];refine Tot.b_ (λbg=>?_) (λew=>.aC ?_)
 ·have bg:k<m.length:=by omega
  have cp:idx m (k:Int)=some m[k]:=et bg;have lv:=List.getElem_mem bg;rw [cp];generalize m[k]=st at *;have ub:=hm.uv st lv;have gv:=hm.nd st lv;have Ke:=QA ⟨g.bw.length - 1,by omega⟩;simp only [show g.bw.length - 1+1=g.bw.length by omega] at Ke;simp only [Option.bind_some,Ke];refine .aK (Ξ:=λL:List Int=>L=pt g m k) ?_ λL jR=>?_
  ·refine Tot.upto (λs=>s.2) st.dE.length (λaf s=>s.1.length=g.bw.length/\∀ a:Nat,a<g.bw.length->(∃ v∈st.dE.take af,v.Sym=1000+(a:Int)/\s.1[a]?=some v.hy)\/((∀ v∈st.dE.take af,v.Sym≠1000+(a:Int))/\s.1[a]?=some (-1))) rfl (by omega) ⟨by simp,λa bk=>.inr ⟨by simp,by simp [bk]⟩⟩ λaf s aa he bt=>?_;obtain ⟨L,i⟩:=s;obtain ⟨h1,al⟩:=bt;simp only at he h1 al ⊢;subst he;rw [eU af (by omega)];refine Tot.b_ (λeo=>?_) (λew=>.aC ?_)
   ·have eo:af<st.dE.length:=by omega
    have l9:=kt eo;have xO:=hm.sym bb lv (List.getElem_mem eo);have Xi:∀ v∈st.dE.take af,v.Sym≠(st.dE[af]).Sym:=λv hv e=>by
     obtain ⟨i,hi,rfl⟩:=List.mem_iff_getElem.1 hv;rw [List.length_take] at hi;rw [List.getElem_take] at e;have:=List.pairwise_iff_getElem.1 gv i af (by rw [List.length_map]; omega) (by rw [List.length_map]; omega) (by omega);rw [List.getElem_map,List.getElem_map] at this;exact this e
    simp only [et eo,Option.bind_some];generalize st.dE[af]=v at *;refine .aK (Ξ:=λL:List Int=>L.length=g.bw.length/\∀ a:Nat,a<g.bw.length->(∃ v∈st.dE.take (af+1),v.Sym=1000+(a:Int)/\L[a]?=some v.hy)\/((∀ v∈st.dE.take (af+1),v.Sym≠1000+(a:Int))/\L[a]?=some (-1))) ?_ λL jR=>.aC ⟨eo,rfl,jR⟩;rw [l9];have mem:∀ w,w∈st.dE.take af++[v]↔w∈st.dE.take af\/w=v:=λw=>by simp
    refine .aK (Ξ:=λL:List Int=>L.length=g.bw.length/\∀ a:Nat,a<g.bw.length->(∃ w∈st.dE.take af++[v],w.Sym=1000+(a:Int)/\L[a]?=some w.hy)\/((∀ w∈st.dE.take af++[v],w.Sym≠1000+(a:Int))/\L[a]?=some (-1))) (Tot.b_ (λh=>?_) (λh=>.aC ⟨h1,λa bk=>?_⟩)) λL jR=>.aC jR
    ·have aJ:=xO.2.2 h;have hw:aL (v.Sym - 1000)=v.Sym - 1000:=by rw [dH]; omega
     rw [hw];obtain ⟨y,aA,_⟩:=k9 (l:=L) (i:=v.Sym - 1000) (by omega) (by omega);rw [aA];refine Tot.aw (.aC ⟨by rw [List.length_set]; exact h1,λa bk=>?_⟩);rw [Bq (by omega)];by_cases e:a=(v.Sym - 1000).toNat
     ·rw [if_pos e];exact .inl ⟨v,(mem v).2 (.inr rfl),by omega,rfl⟩
     ·rw [if_neg e];rcases al a bk with ⟨w,sV,sW,GQ⟩ | ⟨sV,sW⟩
      ·exact .inl ⟨w,(mem w).2 (.inl sV),sW,GQ⟩
      ·refine .inr ⟨λw hw=>?_,sW⟩;rcases (mem w).1 hw with hw | rfl
       ·exact sV w hw
       ·omega
    ·rcases al a bk with ⟨w,sV,sW,GQ⟩ | ⟨sV,sW⟩
     ·exact .inl ⟨w,(mem w).2 (.inl sV),sW,GQ⟩
     ·refine .inr ⟨λw hw=>?_,sW⟩;rcases (mem w).1 hw with hw | rfl
      ·exact sV w hw
      ·omega
   ·have e:st.dE.take af=st.dE:=List.take_of_length_le (by omega);rw [e] at al;show L=pt g m k;refine List.ext_getElem? λa=>?_;unfold pt;by_cases bk:a<g.bw.length
    ·rw [List.getElem?_map,List.getElem?_range bk];have C0:=(go_eq hm k (1000+(a:Int))).2;show _=some (go m k (1000+(a:Int)));rcases al a bk with ⟨v,oN,qe,Tp⟩ | ⟨oN,qe⟩
     ·rw [Tp];rcases C0 with ⟨_,b7⟩ | ⟨D5,w,b7,dv,eC,kG⟩
      ·exact absurd qe (b7 st cp v oN)
      ·rw [cp] at b7; cases b7;have:v=w:=by
        obtain ⟨i,hi,rfl⟩:=List.mem_iff_getElem.1 oN;obtain ⟨xR,W4,rfl⟩:=List.mem_iff_getElem.1 dv;have key:i=xR:=by
         by_cases c1:i<xR
         ·have:=List.pairwise_iff_getElem.1 gv i xR (by rw [List.length_map]; omega) (by rw [List.length_map]; omega) c1;rw [List.getElem_map,List.getElem_map] at this;exact absurd (qe.trans eC.symm) this
         ·by_cases c2:xR<i
          ·have:=List.pairwise_iff_getElem.1 gv xR i (by rw [List.length_map]; omega) (by rw [List.length_map]; omega) c2;rw [List.getElem_map,List.getElem_map] at this;exact absurd (eC.trans qe.symm) this
          ·omega
        subst key; rfl
       rw [kG,this]
     ·rw [qe];rcases C0 with ⟨b7,_⟩ | ⟨D5,w,b7,dv,eC,kG⟩
      ·rw [b7]
      ·rw [cp] at b7; cases b7;exact absurd eC (oN w dv)
    ·rw [List.getElem?_eq_none (by omega),List.getElem?_eq_none (by simp; omega)]
  ·subst jR;refine .aK (Ξ:=λ_=>True) (Tot.ap (by simp [lim]; omega) trivial) λ_ _=>?_;refine .aK (Ξ:=λr=>r=List.replicate g.a'.length (⟨0,0⟩:Act)) (Tot.mk (by simp [lim]; omega) (by simp)) λrp gP=>?_;subst gP;refine .aK (Ξ:=λ_=>True) (Tot.ap (by simp [lim]; omega) trivial) λ_ _=>.aC ⟨bg,rfl,?_,?_⟩
   ·show _=(List.range (k+1)).map _;rw [List.range_succ,List.map_append]; rfl
   ·show _=(List.range (k+1)).map _;rw [List.range_succ,List.map_append]; rfl
 ·have:k=m.length:=by omega
  subst this;exact ⟨rfl,rfl⟩
theorem OM {cs:List Cell}{k:Nat}(h:k<cs.length) (q:Nat):fW (cs.take (k+1)) q=fW (cs.take k) q++(if cs[k].State=(q:Int) then [cs[k]] else []):=by
 unfold fW;rw [D' h];by_cases e:cs[k].State=(q:Int) <;> simp [e]
theorem Ph (g:b3) (l:List Cell) (c:Cell):g_ g (l++[c])=g_ g l++rA g c:=by
 unfold g_;rw [List.flatMap_append]; simp
theorem sl (g:b3) (m:List State) (cs:List Cell) (ej:BK g m cs):Tot (wb g m cs) λr=>BO g m cs r.1/\r.2=g_ g cs:=by
 obtain ⟨bb,hm,ae⟩:=ej;have aG:=bb.kQ;have xJ:=hm.lN;have zI:=ae.n;unfold wb;refine .aK (O6 g bb hm) λd aZ=>?_;obtain ⟨CY,xB⟩:=aZ;refine .aK (Ξ:=λr:List (List Act) × List dy=>r.1=(List.range m.length).map (λq=>rowOf g (fW cs q))/\r.2=g_ g cs) ?_ λr ax=>.aC ⟨⟨ax.1,xB⟩,ax.2⟩;rw [CY];refine Tot.upto (λs=>s.2.2) cs.length (λk s=>s.1=(List.range m.length).map (λq=>rowOf g (fW (cs.take k) q))/\s.2.1=g_ g (cs.take k)) rfl (by omega) ⟨by simp [fW,rowOf],by simp [g_]⟩ λk s hk he bt=>?_;obtain ⟨A,C,i⟩:=s;obtain ⟨h1,al⟩:=bt;simp only at he h1 al ⊢;subst he h1 al;rw [eU k (by omega)];refine Tot.b_ (λbg=>?_) (λew=>.aC ?_)
 ·have bg:k<cs.length:=by omega
  have gi:=kt bg;have ga:=OM bg;have e8:=ae.ok _ (List.getElem_mem bg);have hG:(g_ g (cs.take k)).length<=360000:=by
   have h1:=yY bb (l:=cs.take k) λc p_=>ae.ok c (List.mem_of_mem_take p_);rw [List.length_take] at h1;omega
  rw [et bg];generalize cs[k]=c at *;have cp:=e8.s;have oI:=H_ g (fW (cs.take k) c.State.toNat);have QE:idx ((List.range m.length).map λq=>rowOf g (fW (cs.take k) q)) c.State=some (rowOf g (fW (cs.take k) c.State.toNat)):=by
   unfold idx;rw [if_pos cp.1,List.getElem?_map,List.getElem?_range (by omega)]; rfl
  obtain ⟨a0,gm,_⟩:=k9 (l:=rowOf g (fW (cs.take k) c.State.toNat)) (i:=c.bM) e8.t.1 (by rw [oI]; exact e8.t.2);have Km:((List.range m.length).map λq=>rowOf g (fW (cs.take k) q)).set c.State.toNat ((rowOf g (fW (cs.take k) c.State.toNat)).set c.bM.toNat (pd g c))=(List.range m.length).map λq=>rowOf g (fW (cs.take (k+1)) q):=by
   refine List.ext_getElem? λq=>?_;rw [Bq (by simp; omega),List.getElem?_map,List.getElem?_map];by_cases e:q=c.State.toNat
   ·rw [if_pos e,e,List.getElem?_range (by omega)];show _=some (rowOf g (fW (cs.take (k+1)) c.State.toNat));rw [ga,if_pos (by omega),MU]
   ·rw [if_neg e];by_cases bW:q<m.length
    ·rw [List.getElem?_range bW];show some (rowOf g (fW (cs.take k) q))=some (rowOf g (fW (cs.take (k+1)) q));rw [ga,if_neg (by omega),List.append_nil]
    ·rw [List.getElem?_eq_none (by simp; omega)]; rfl
  have CT:=e8.len bb;simp only [Option.bind_some,Qx g bb c e8,QE,gm];refine .aK (Ξ:=λr:List (List Act) × List dy=>r.1=(List.range m.length).map (λq=>rowOf g (fW (cs.take (k+1)) q))/\r.2=g_ g (cs.take (k+1))) ?_ λr ax=>.aC ⟨bg,rfl,ax⟩;rw [gi,Ph,<- gi];cases di:c.a8 with
  | nil =>
   refine Tot.b_ (λ_=>.aC ⟨Km,?_⟩) (λh=>absurd rfl h);show g_ g (cs.take k)=_;unfold rA;rw [di,List.append_nil]
  | cons p r =>
   have FZ:=e8.p;rw [di] at FZ CT;rw [List.length_cons] at CT;have Gt:=Jr FZ;refine Tot.b_ (λh=>by rw [List.length_cons] at h; omega) (λ_=>?_);rw [JL p r (by omega) FZ];refine Tot.aw (.aK (Ξ:=λl:List dy=>l=g_ g (cs.take k)++r.map (λx=>(⟨c.State,c.bM,p,x⟩:dy))) ?_ λl aq=>?_)
   ·refine Tot.upto (λs=>s.2) (p::r).length (λaf s=>s.1=g_ g (cs.take k)++(r.take (af - 1)).map (λx=>(⟨c.State,c.bM,p,x⟩:dy))) rfl (by rw [List.length_cons]; omega) (by simp) λaf s aa he bt=>?_;obtain ⟨L,i⟩:=s;simp only at he bt ⊢;subst he bt;rw [eU af (by rw [List.length_cons] at aa; omega)];refine Tot.b_ (λeo=>?_) (λew=>.aC ?_)
    ·have eo:af<(p::r).length:=by omega
     rw [et eo];simp only [Option.bind_some];refine .aK (Ξ:=λl:List dy=>l=g_ g (cs.take k)++(r.take (af+1 - 1)).map (λx=>(⟨c.State,c.bM,p,x⟩:dy))) ?_ λl aq=>.aC ⟨eo,rfl,aq⟩;cases af with
     | zero =>
      refine .aK (Ξ:=λl:List dy=>l=g_ g (cs.take k)++(r.take (0+1 - 1)).map (λx=>(⟨c.State,c.bM,p,x⟩:dy))) (Tot.rB (λh=>absurd rfl h) (λ_=>.aC ?_)) λl aq=>.aC aq;simp
     | succ af =>
      rw [List.length_cons] at eo;have Ly:af<r.length:=by omega
      have eL:=Gt _ (List.getElem_mem Ly);rw [List.getElem_cons_succ];have ie:=kt Ly;refine .aK (Ξ:=λl:List dy=>l=g_ g (cs.take k)++(r.take (af+1+1 - 1)).map (λx=>(⟨c.State,c.bM,p,x⟩:dy))) (Tot.rB (λ_=>?_) (λh=>by omega)) λl aq=>.aC aq;refine .aK (Ξ:=λ_=>True) (Tot.ap (by simp [lim]; omega) trivial) λ_ _=>.aC ?_;rw [Nat.add_sub_cancel,Nat.add_sub_cancel,ie,List.map_append,List.append_assoc]; rfl
    ·rw [List.length_cons] at ew aa;have e:r.take (af - 1)=r:=List.take_of_length_le (by omega);rw [e]; rfl
   ·subst aq;refine .aK (Ξ:=λl:List dy=>l=g_ g (cs.take k)++rA g c) ?_ λl aq=>.aC ⟨Km,aq⟩;unfold rA E0;rw [di];simp only;refine Tot.b_ (λh=>?_) (λh=>.aC ?_)
    ·rw [if_pos h];refine .aK (Ξ:=λ_=>True) (Tot.ap (by simp [lim]; omega) trivial) λ_ _=>.aC (by rw [List.append_assoc])
    ·rw [if_neg h,List.append_nil]
 ·have e:cs.take k=cs:=List.take_of_length_le (by omega);rw [e];exact ⟨rfl,rfl⟩
theorem MA (n:Int):∀ l:List Cell,l.Pairwise (λa b=>a.State<=b.State)->(∀ c∈l,c.State<=n)->l=l.filter (λc=>decide (c.State<n))++l.filter (λc=>decide (c.State=n))
 | [],_,_=>rfl
 | c::l,h,aJ=>by
  obtain ⟨h1,al⟩:=List.pairwise_cons.1 h;have aR:=MA n l al λd aZ=>aJ d (by simp [aZ]);have ae:=aJ c (by simp);by_cases e:c.State<n
  ·rw [List.filter_cons,if_pos (by simpa using e),List.filter_cons,if_neg (by simp; omega),List.cons_append,<- aR]
  ·have aP:l.filter (λc=>decide (c.State<n))=[]:=List.filter_eq_nil_iff.2 λd aZ=>by
    have:=h1 d aZ;simp; omega
   have bk:l.filter (λc=>decide (c.State=n))=l:=List.filter_eq_self.2 λd aZ=>by
    have:=h1 d aZ;have:=aJ d (by simp [aZ]);simp; omega
   rw [List.filter_cons,if_neg (by simpa using e),aP,List.filter_cons,if_pos (by simp; omega),bk]; rfl
theorem JE:∀ (n:Nat) (l:List Cell),l.Pairwise (λa b=>a.State<=b.State)->(∀ c∈l,0<=c.State/\c.State<n)->l=(List.range n).flatMap λq=>fW l q
 | 0,l,_,aJ=>by
  have:l=[]:=List.eq_nil_iff_forall_not_mem.2 λc ae=>by have:=aJ c ae; omega
  subst this; rfl
 | n+1,l,h,aJ=>by
  have aH:=MA n l h λc ae=>by have:=(aJ c ae).2; omega
  have aR:=JE n (l.filter λc=>decide (c.State<(n:Int))) (List.Pairwise.sublist List.filter_sublist h) λc ae=>by
   rw [List.mem_filter] at ae;exact ⟨(aJ c ae.1).1,of_decide_eq_true ae.2⟩
  rw [List.range_succ,List.flatMap_append];have dz:(List.range n).flatMap (λq=>fW l q)=(List.range n).flatMap λq=>fW (l.filter λc=>decide (c.State<(n:Int))) q:=by
   refine congrArg List.flatten (List.map_congr_left λq bW=>?_);rw [List.mem_range] at bW;unfold fW;rw [List.filter_filter];refine List.filter_congr λc ae=>?_;by_cases e:c.State=(q:Int)
   ·simp [e]; omega
   ·simp [e]
  rw [dz,<- aR];simp only [List.flatMap_cons,List.flatMap_nil,List.append_nil];exact aH
theorem Pg {g:b3}{n:Nat}{cs:List Cell}(ae:wM g n cs):((List.range n).flatMap λq=>g_ g (fW cs q))=g_ g cs:=by
 have h:=JE n cs (ae.UB.imp λ{a b} h=>by rcases h with h | h <;> omega) λc p_=>(ae.ok c p_).s
 conv=>rhs; rw [h]
 unfold g_;rw [List.flatMap_assoc]
theorem VQ {α:Type}(a b:α) {i:Int}(bf:0<=i) (h:i<(([a,b]:List α).length:Int)):∃ y,idx [a,b] i=some y/\(y=a\/y=b):=by
 obtain ⟨y,aA,hm⟩:=k9 bf h;exact ⟨y,aA,by simpa using hm⟩
theorem Ck (P:List gq) (i:Int) (h:P.length<=1000000):Tot (MK P i) λr=>(∃ v,(⟨i,v⟩:gq)∈P/\r=(v,true))\/((∀ v,(⟨i,v⟩:gq)∉P)/\r=(0,false)):=by
 unfold MK;refine .aK (Ξ:=jw (λ_=>∀ v,(⟨i,v⟩:gq)∉P) (λr:Int × Bool=>∃ v,(⟨i,v⟩:gq)∈P/\r=(v,true))) ?_ λx J=>?_
 ·refine Tot.upto (λs=>s) P.length (λk _=>∀ v,(⟨i,v⟩:gq)∉P.take k) rfl (by omega) (by simp) λk s hk he bt=>?_;subst he;rw [eU k (by omega)];refine Tot.b_ (λbg=>?_) (λ_=>.aC ?_)
  ·have bg:k<P.length:=by omega
   have gi:=kt bg;have hm:=List.getElem_mem bg;simp only [et bg,Option.bind_some];generalize P[k]=p at *;refine Tot.b_ (λe=>.aC ⟨p.w3,by rw [<- e]; exact hm,rfl⟩) (λe=>.aC ⟨bg,rfl,λv hv=>?_⟩);rw [gi,List.mem_append,List.mem_singleton] at hv;rcases hv with hv | hv
   ·exact bt v hv
   ·exact e (by rw [<- hv])
  ·have e:P.take k=P:=List.take_of_length_le (by omega);rw [e] at bt;exact bt
 ·rcases x with x | x
  ·exact .aC (.inr ⟨J,rfl⟩)
  ·exact .aC (.inl J)
theorem xe (r:List Act) (n:Int) (h:r.length<=100000):HU r n=some ((red r).count n:Int):=by
 suffices aO:Tot (HU r n) λz=>z=((red r).count n:Int) by
  obtain ⟨z,bH,e⟩:=aO; rw [bH,e]
 unfold HU;refine .aK (Ξ:=λz:Int=>z=((red r).count n:Int)) ?_ λz bH=>.aC bH;refine Tot.upto (λs=>s.2) r.length (λk s=>s.1=((red (r.take k)).count n:Int)) rfl (by omega) (by simp [red]) λk s hk he bt=>?_;obtain ⟨z,i⟩:=s;simp only at he bt ⊢;subst he bt;rw [eU k (by omega)];refine Tot.b_ (λbg=>?_) (λew=>.aC ?_)
 ·have bg:k<r.length:=by omega
  have gi:=kt bg;have h1:=List.count_le_length (a:=n) (l:=red (r.take k));have al:=DS (r.take k);rw [List.length_take] at al;simp only [et bg,Option.bind_some];generalize r[k]=a at *;refine .aK (Ξ:=λz:Int=>z=((red (r.take (k+1))).count n:Int)) ?_ λz bH=>.aC ⟨bg,rfl,bH⟩;rw [gi,H6];refine .aK (Ξ:=λc:Bool=>c=decide (a.Kind=2/\a.N=n)) (Tot.b_ (λh=>.aC ?_) (λh=>.aC ?_)) λc ae=>?_
  ·exact decide_eq_decide.2 ⟨λaU=>⟨h,aU⟩,λaU=>aU.2⟩
  ·exact (decide_eq_false λaU=>h aU.1).symm
  subst ae;refine .aK (Ξ:=λz:Int=>z=((red (r.take k)++if a.Kind=2 then [a.N] else []).count n:Int)) (Tot.b_ (λh=>.aC ?_) (λh=>.aC ?_)) λz bH=>.aC bH
  ·rw [if_pos h.1,sq,if_pos h.2,eU _ (by omega)]
  ·by_cases aS:a.Kind=2
   ·rw [if_pos aS,sq,if_neg λaU=>h ⟨aS,aU⟩]; rfl
   ·rw [if_neg aS,List.append_nil]
 ·have e:r.take k=r:=List.take_of_length_le (by omega);rw [e]; rfl
theorem Bm {β:Type}(l:List β) (aq:l.length<=1000000) {f:Int->Option (Int ⊕ (Unit ⊕ Bool))}(h:∀ (k:Nat) (hk:k<l.length),f (k:Int)=some (.inl (aL ((k:Int)+1)))) (he:∀ s:Int,¬ s<l.length->f s=some (.inr (.inl ()))):cI f 0=some (.inl ()):=by
 have aO:Tot (cI f 0) λr=>r=.inl ():=by
  refine Tot.upto (λs=>s) l.length (λ_ _=>True) rfl (by omega) trivial λk i hk hi _=>?_;subst hi;by_cases bg:k<l.length
  ·rw [h k bg,eU k (by omega)];exact .aC ⟨bg,rfl,trivial⟩
  ·rw [he k (by omega)];exact .aC rfl
 obtain ⟨r,ax,e⟩:=aO;rw [ax,e]
theorem t76 (a:List Int) (h:a.length<=1000000):A8 a a=some true:=by
 unfold A8;rw [decide_eq_true rfl,Bm a h (λk hk=>?_) λs aO=>by rw [decide_eq_false aO]; rfl]
 ·rfl
 ·rw [decide_eq_true (by omega)];simp [et hk]
theorem t60 (a:List (List Int)) (h:a.length<=1000000) (ax:∀ r∈a,r.length<=1000000):AZ a a=some true:=by
 unfold AZ;rw [decide_eq_true rfl,Bm a h (λk hk=>?_) λs aO=>by rw [decide_eq_false aO]; rfl]
 ·rfl
 ·rw [decide_eq_true (by omega)];simp [et hk,t76 _ (ax _ (List.getElem_mem hk))]
theorem t61 (a:List Act) (h:a.length<=1000000):A0 a a=some true:=by
 unfold A0;rw [decide_eq_true rfl,Bm a h (λk hk=>?_) λs aO=>by rw [decide_eq_false aO]; rfl]
 ·rfl
 ·rw [decide_eq_true (by omega)];simp [et hk]
theorem t36 (a:List dy) (h:a.length<=1000000):AP a a=some true:=by
 unfold AP;rw [decide_eq_true rfl,Bm a h (λk hk=>?_) λs aO=>by rw [decide_eq_false aO]; rfl]
 ·rfl
 ·rw [decide_eq_true (by omega)];simp [et hk]
theorem t35 (d:iH) (h:d.eg.length<=1000000) (bk:∀ r∈d.eg,r.length<=1000000) (aU:d.dp.length<=1000000) (bb:∀ r∈d.dp,r.length<=1000000):AO d d=some true:=by
 unfold AO;rw [decide_eq_true rfl,t60 _ aU bb];simp only [Bool.not_true,cond_false,Option.bind_some];rw [Bm d.eg h (λk hk=>?_) λs aO=>by rw [decide_eq_false aO]; rfl]
 ·rfl
 ·rw [decide_eq_true (by omega)];simp [et hk,t61 _ (bk _ (List.getElem_mem hk))]
def nE (l:List dy):Nat:=(l.filter λc=>decide (c.fN=-1)).length
theorem O1 (l:List dy) (aq:l.length<=1000000):uC l=some ((nE l:Int),((l.length - nE l:Nat):Int)):=by
 suffices aO:Tot (uC l) λr=>r=((nE l:Int),((l.length - nE l:Nat):Int)) by
  obtain ⟨r,ax,e⟩:=aO; rw [ax,e]
 have hk:nE l<=l.length:=List.length_filter_le ..;unfold uC;refine .aK (Ξ:=λz:Int=>z=(nE l:Int)) ?_ λz bH=>?_
 ·refine Tot.upto (λs=>s.2) l.length (λk s=>s.1=(nE (l.take k):Int)) rfl (by omega) rfl λk s hk he bt=>?_;obtain ⟨z,i⟩:=s;simp only at he bt ⊢;subst he bt;rw [eU k (by omega)];refine Tot.b_ (λbg=>?_) (λew=>.aC ?_)
  ·have bg:k<l.length:=by omega
   have sO:=D' bg (λc:dy=>decide (c.fN=-1));have tX:nE (l.take k)<=k:=by
    have:=List.length_filter_le (λc:dy=>decide (c.fN=-1)) (l.take k);rw [List.length_take] at this;unfold nE; omega
   rw [et bg];generalize l[k]=c at *;simp only [Option.bind_some];refine .aK (Ξ:=λz:Int=>z=(nE (l.take (k+1)):Int)) ?_ λr ax=>.aC ⟨bg,rfl,ax⟩;have e:nE (l.take (k+1))=nE (l.take k)+(if c.fN=-1 then 1 else 0):=by
    unfold nE;rw [sO];by_cases h:c.fN=-1 <;> simp [h]
   rw [e];refine .aK (Ξ:=λz:Int=>z=((nE (l.take k)+(if c.fN=-1 then 1 else 0):Nat):Int)) (Tot.b_ (λh=>.aC ?_) (λh=>.aC ?_)) λr ax=>.aC ax
   ·rw [if_pos h,eU _ (by omega)]
   ·rw [if_neg h]; rfl
  ·have e:l.take k=l:=List.take_of_length_le (by omega);rw [e]; rfl
 ·subst bH;refine .aC ?_;have:aL ((l.length:Int) - (nE l:Int))=((l.length - nE l:Nat):Int):=by rw [dH]; omega
  rw [this]
theorem O2 (l:List dy):DK l=uC l:=rfl
theorem t8 (s:Source) (x:rj):A' s x=some true:=by
 suffices h:Tot (A' s x) λr=>r=true by
  obtain ⟨r,ax,e⟩:=h; rw [ax,e]
 unfold A';rw [V2];refine Tot.aw (.aK (t19 s) λa6 aS=>.aK (t20 x) λbQ b7=>?_);refine Tot.aK (Ξ:=jw (λ_=>True) (λ_=>False)) ?_ λr ax=>by
  rcases r with r | r
  ·exact .aC rfl
  ·exact ax.elim
 refine Tot.count (λs=>s) 2 (λs=>0<=s) (Int.le_refl _) (by decide) λi hi=>?_;refine Tot.b_ (λbg=>?_) (λ_=>.aC trivial);have up:(0<=aL (i+1))/\i<aL (i+1)/\aL (i+1)<=2:=by
  have:i<2:=bg;rw [dH]; omega
 obtain ⟨y,aA,eM⟩:=VQ a6 bQ hi bg;have aJ:sd y:=by rcases eM with rfl | rfl <;> assumption
 rw [aA];refine Tot.aw (.aK (JJ y aJ) λd aZ=>Tot.cE (λ_=>.aC ⟨up.1,up.2⟩) (λh=>?_));have ej:=aZ (by simpa using h);generalize d.1=g at *;generalize d.2.1=m at *;generalize d.2.2.1=cs at *;have xJ:=ej.Uq.lN;have aG:=ej.sB.kQ;have C5:=ej.sB.hZ;have zI:=ej.ce.n;obtain ⟨oX,dz,h1,mr⟩:=sl g m cs ej;obtain ⟨fR,de,al,CM⟩:=JK g m cs ej;have ae:=Pg ej.ce;rw [ae] at CM;have hG:=yY ej.sB ej.ce.ok;have y9:oX.1=fR.1:=by
  have ar:=h1.a; have a2:=h1.o; have gZ:=al.a; have hD:=al.o;revert ar a2 gZ hD;generalize oX.1=u; generalize fR.1=v;obtain ⟨XD,yy⟩:=u;obtain ⟨v1,v2⟩:=v;intro ar a2 gZ hD;simp only at ar a2 gZ hD;rw [ar,a2,gZ,hD]
 have xB:=al.w_ ej;have Qu:=t35 fR.1 (by rw [xB.a]; omega) (λr ax=>by rw [(xB.EE r ax).1]; omega) (by rw [xB.o]; omega) (λr ax=>by rw [(xB.ux r ax).1]; omega);have Qv:=t36 (g_ g cs) (by omega);rw [dz,de];simp only [Option.bind_some,mr,CM,y9,O2,O1 (g_ g cs) (by omega),Qu,Qv,Bool.not_true,cond_false,decide_true];exact .aC ⟨up.1,up.2⟩
end Go.Proofs
namespace Go.Own
open Go
section
variable {P:Program}{N:dW}{ops:Array Oper}{cg:List (List Nat)}{g g0:a7}{K:a7->Prop}{l:List Oper}{acc:Acc}{d i af dD:Nat}{op:Op}{ty:TypeId}{pos:String}{after:Array Edge}{x:aj}{b c:Bool}
theorem cO (aJ:c=!b) (hk:au P N ops l (fc g d (.cA [])) K) (h:(ops[af]?).bind (·.dst)=some dD:=by rfl) (bb:g dD=some (.lit (.bool c)):=by rfl) (b1:N.ok d=true:=by rfl) (bp:g d=none:=by rfl):au P N ops (⟨some d,op,ty,pos,after,some (af,b)⟩::l) g K:=.ps h bb aJ b1 bp hk
theorem hp (hk:au P N ops l (fc g d (.cA [])) K) (h:(ops[af]?).bind (·.dst)=some dD:=by rfl) (bb:g dD=some (.cA []):=by rfl) (b1:N.ok d=true:=by rfl) (bp:g d=none:=by rfl):au P N ops (⟨some d,op,ty,pos,after,some (af,b)⟩::l) g K:=.pu h bb b1 bp hk
theorem a1 (aJ:c=b) (aH:dI P g op ty x) (hk:au P N ops l (fc g d x) K) (h:(ops[af]?).bind (·.dst)=some dD:=by rfl) (bb:g dD=some (.lit (.bool c)):=by rfl) (b1:N.ok d=true:=by rfl) (bp:g d=none:=by rfl):au P N ops (⟨some d,op,ty,pos,after,some (af,b)⟩::l) g K:=.v aH b1 bp (.jJ h bb aJ) hk
theorem N0 (hk:au P N ops l (fc g d (.cA [])) K) (h:(ops[af]?).bind (·.dst)=some dD:=by rfl) (bb:g dD=some (.lit (.bool c)):=by rfl) (aJ:c=!b:=by assumption) (b1:N.ok d=true:=by rfl) (bp:g d=none:=by rfl):au P N ops (⟨some d,op,ty,pos,after,some (af,b)⟩::l) g K:=.ps h bb aJ b1 bp hk
theorem fH (aH:dI P g op ty x) (hk:au P N ops l (fc g d x) K) (h:(ops[af]?).bind (·.dst)=some dD:=by rfl) (bb:g dD=some (.lit (.bool c)):=by rfl) (aJ:c=b:=by assumption) (b1:N.ok d=true:=by rfl) (bp:g d=none:=by rfl):au P N ops (⟨some d,op,ty,pos,after,some (af,b)⟩::l) g K:=.v aH b1 bp (.jJ h bb aJ) hk
theorem aN (dr:Nat) (aJ:c=!b) (hk:bC P N ops cg g0 i ((dr,d,some (.cA []))::acc) l K) (h:(ops[af]?).bind (·.dst)=some dD:=by rfl) (bb:oj cg g0 dr acc dD=some (aY c):=by rfl) (aa:Nat.beq ops.size (dr+l.length+1)=true:=by rfl) (bp:g0 d=none:=by rfl) (aP:acc.all (λe=>!Nat.beq e.2.1 d)=true:=by rfl) (b1:N.ok d=true:=by rfl):bC P N ops cg g0 i acc (⟨some d,op,ty,pos,after,some (af,b)⟩::l) K:=.ps dr h bb aJ aa bp aP b1 hk
theorem fG (dr:Nat) (hk:bC P N ops cg g0 i ((dr,d,some (.cA []))::acc) l K) (h:(ops[af]?).bind (·.dst)=some dD:=by rfl) (bb:oj cg g0 dr acc dD=some (.cA []):=by rfl) (aa:Nat.beq ops.size (dr+l.length+1)=true:=by rfl) (bp:g0 d=none:=by rfl) (aP:acc.all (λe=>!Nat.beq e.2.1 d)=true:=by rfl) (b1:N.ok d=true:=by rfl):bC P N ops cg g0 i acc (⟨some d,op,ty,pos,after,some (af,b)⟩::l) K:=.pu dr h bb aa bp aP b1 hk
theorem bV (dr:Nat) (aJ:c=b) (aH:dI P (oj cg g0 dr acc) op ty x) (hk:bC P N ops cg g0 i ((dr,d,some x)::acc) l K) (h:(ops[af]?).bind (·.dst)=some dD:=by rfl) (bb:oj cg g0 dr acc dD=some (.lit (.bool c)):=by rfl) (aa:Nat.beq ops.size (dr+l.length+1)=true:=by rfl) (bp:g0 d=none:=by rfl) (aP:acc.all (λe=>!Nat.beq e.2.1 d)=true:=by rfl) (b1:N.ok d=true:=by rfl):bC P N ops cg g0 i acc (⟨some d,op,ty,pos,after,some (af,b)⟩::l) K:=.v dr aH aa bp aP b1 (.jJ h bb aJ) hk
end
section
variable {P:Program}{N:dW}{ops:Array Oper}{g:a7}{K:a7->Prop}{l:List Oper}{A B:Code}{G G1:List (Nat × aj)}{Φ:Exit->a7->Prop}{t id:Nat}{b:Bool}{α:Type}{X Y o:α}
theorem W.bz (h:(bif b then X else Y)=o) (ae:get G t=some (aY b)) (fO:b=true->X=o->W P N A (get G) Φ) (aQ:b=false->Y=o->W P N B (get G) Φ):W P N (.cond (.tmp t) A B) (get G) Φ:=W.cG ae (λe=>fO e (Pl e h)) (λe=>aQ e (Pk e h))
def pick (g:a7):List Nat->Option (List (Nat × aj))
 | []=>some []
 | k::ks=>match g k with
  | some x=>match pick g ks with
   | some l=>some ((k,x)::l)
   | none=>none
  | none=>none
class yI (l:List (Nat × aj)):Prop where p:∀ e∈l,dn e.2
instance:yI []:=⟨λ_ h=>by cases h⟩
instance {k:Nat}{x:aj}{l:List (Nat × aj)} [h:cV x] [aq:yI l]:yI ((k,x)::l):=⟨λe he=>by
 rcases List.mem_cons.1 he with rfl | he
 ·exact h.bP
 ·exact aq.p e he⟩
theorem H3 {c:Bool}{g g2:a7}:∀ {ks:List Nat}{G1:List (Nat × aj)},pick g ks=some G1->(∀ e∈G1,dn e.2)->Trim c g g2 G1
 | [],_,h,_=>by cases h; exact .nil
 | k::ks,G1,h,aP=>by
  unfold pick at h
  split at h
  ·rename_i x J
   split at h
   ·rename_i l aq;cases h;have:cV x:=⟨aP (k,x) (by simp)⟩;exact .n J (H3 aq λe he=>aP e (by simp [he]))
   ·cases h
  ·cases h
structure wV (ks:List Nat) (G1:List (Nat × aj)) (g':a7):Prop where p:kX g' (get G1)
theorem bR {ks:List Nat}(h:pick g ks=some G1) [aP:yI G1]:au P N ops [] g (wV ks G1):=.nil ⟨(H3 (c:=true) (g2:=get G1) h aP.p).gj⟩
theorem Mh {l:List Oper}{ks:List Nat}(h:au P N l.toArray l g (wV ks G1)):au P N l.toArray l g λg'=>kX g' (get G1):=λi hi=>by
 obtain ⟨g',h1,al⟩:=h i hi;exact ⟨g',h1,al.p⟩
theorem au.bo (ks:List Nat) (h:pick g ks=some G1) [aP:yI G1] (hk:au P N ops l (get G1) K):au P N ops l g K:=.U3 (H3 h aP.p) hk
theorem W.bo {l:List Oper}(ks:List Nat) (h:au P N l.toArray l (get G) (wV ks G1)) (hk:ah .normal Φ G1):W P N (.region id l.toArray false) (get G) Φ:=W.rx G1 (Mh h) hk
theorem W.rs {l:List Oper}(G1:List (Nat × aj)) (h:au P N l.toArray l (get G) λg'=>kX g' (get G1)) (hk:W P N B (get G1) Φ):W P N (.seq (.region id l.toArray false) B) (get G) Φ:=W.aX (W.rx G1 h (ah.aW hk))
theorem W.bI {l:List Oper}(ks:List Nat) (h:au P N l.toArray l (get G) (wV ks G1)) (hk:W P N B (get G1) Φ):W P N (.seq (.region id l.toArray false) B) (get G) Φ:=W.rs G1 (Mh h) hk
end
end Go.Own
namespace Go.Own
open Go
class gX (P:Program) (t:TypeId):Prop where p:hE P t=true
class r8 (P:Program) (t:TypeId):Prop where p:o1 P t=true
class hl (P:Program) (t:TypeId) (e:outParam TypeId) (z:outParam Nat):Prop where p:fu P t e z=true
class dR (P:Program) (s:TypeId) (f:Nat) (off:outParam Nat) (t:outParam TypeId):Prop where p:dN P s f off t=true
section
variable {P:Program}{N:dW}{ops:Array Oper}{g:a7}{K:a7->Prop}{l:List Oper}{ty t:TypeId}{a:Operand}{k r z n:Nat}{cs jQ:List aj}
theorem O.cw {v:Value}(aO:g r=some (.obj cs)) (J:Rd g a (.ptr ⟨r,[]⟩ k)) (aG:hE P t=true) (ae:cs[k]?=some (.lit v)):dI P g (.load t a) ty (.lit v):=O.cK aO J aG ae rfl
theorem O.xT (aO:g r=some (.obj cs)) (J:Rd g a (.ptr ⟨r,[]⟩ k)) (aG:hE P t=true) (ae:cs[k]?=some (.aD z n jQ)):dI P g (.load t a) ty (.aD z n jQ):=O.cK aO J aG ae rfl
theorem O.xU (aO:g r=some (.obj cs)) (J:Rd g a (.ptr ⟨r,[]⟩ k)) (aG:hE P t=true) (ae:cs[k]?=some (.own z n jQ)):dI P g (.load t a) ty (.bh z ⟨r,[k]⟩ n):=O.cK aO J aG ae rfl
end
section
variable {P:Program}{N:dW}{ops:Array Oper}{g:a7}{K:a7->Prop}{l:List Oper}{t0 d:Nat}{t1 t2 ty:TypeId}{ar a2 a3:Operand}{lN:Nat}{v0:Value}{pos:String}{after:Array Edge}{op:Op}{Wz:Nat × Bool}
theorem au.hN (op:Op) (u:Option (Nat × Bool)) (h:au P N ops (⟨some d,op,ty,pos,after,u⟩::l) g K):au P N ops (⟨some d,op,ty,pos,after,u⟩::l) g K:=h
theorem au.nl (h:au P N ops [] g K):au P N ops [] g K:=h
theorem au.aV (h:au P N ops l g K:=by
(repeat' (first
 | exact nP .nil
 | exact .nil
 | refine .n rfl ?_
 | (first
  | ((with_reducible apply au.hN (.move (.tmp _)) none); (first | refine bq rfl ?_ | refine ag (O.az (.aD rfl)) ?_ | refine ag (O.az (.own rfl)) ?_ | refine ag (O.az (.obj rfl)) ?_ | refine ag (O.az (.bn rfl)) ?_ | refine ag (O.az (.ptr rfl)) ?_ | refine ag (O.az (.bh rfl)) ?_))
  | ((with_reducible apply au.hN (.load _ _) none); (first | refine ag (O.cw rfl (.ptr rfl) gX.p rfl) ?_ | refine ag (O.cX (.bn rfl) gX.p rfl) ?_ | refine ag (O.xT rfl (.ptr rfl) gX.p rfl) ?_ | refine ag (O.cw rfl (.obj rfl) gX.p rfl) ?_ | refine ag (O.xT rfl (.obj rfl) gX.p rfl) ?_ | refine ag (O.xU rfl (.ptr rfl) gX.p rfl) ?_ | refine ag (O.xU rfl (.obj rfl) gX.p rfl) ?_))
  | ((with_reducible apply au.hN (.fieldAddr _ _ _) none); (first | refine ag (O.bd rfl (.obj rfl) dR.p rfl) ?_ | refine ag (O.ef (.bn rfl) dR.p) ?_ | refine ag (O.bd rfl (.ptr rfl) dR.p rfl) ?_))
  | ((with_reducible apply au.hN (.assign (.tmp _)) none); (first | refine N2 rfl ?_ | refine ag (O.dK (.aD rfl)) ?_ | refine ag (O.dK (.own rfl)) ?_ | refine ag (O.dK (.obj rfl)) ?_ | refine ag (O.dK (.bn rfl)) ?_ | refine ag (O.dK (.ptr rfl)) ?_ | refine ag (O.dK (.bh rfl)) ?_))
  | ((with_reducible apply au.hN (.assign (.const _)) none); (first | refine N3 rfl ?_ | refine ag (O.dK .Ds) ?_))
  | ((with_reducible apply au.hN (.indexAddr _ _ _) none); (first | refine ag (O.cv (.aD rfl) (.lit rfl) hl.p (by assumption)) ?_ | refine ag (O.cv (.aD rfl) (.k rfl) hl.p (by assumption)) ?_))
  | ((with_reducible apply au.hN (.binOp .add _ _ _ _) none); (first | refine ag (O.add (.lit rfl) (.k rfl)) ?_ | refine ag (O.add (.lit rfl) (.lit rfl)) ?_ | refine ag (O.add (.k rfl) (.lit rfl)) ?_))
  | ((with_reducible apply au.hN (.binOp .lss _ _ _ _) none); (first | refine ag (O.lss (.lit rfl) (.k rfl)) ?_ | refine ag (O.lss (.lit rfl) (.lit rfl)) ?_ | refine ag (O.lss (.k rfl) (.lit rfl)) ?_))
  | ((with_reducible apply au.hN (.binOp .eql _ _ _ _) none); (first | refine ag (O.eql (.lit rfl) (.k rfl)) ?_ | refine ag (O.eql (.lit rfl) (.lit rfl)) ?_ | refine ag (O.eql (.k rfl) (.lit rfl)) ?_ | refine ag (O.oA (.lit rfl) (.lit rfl)) ?_ | refine ag (O.oA (.lit rfl) (.k rfl)) ?_))
  | ((with_reducible apply au.hN (.binOp .neq _ _ _ _) none); (first | refine ag (O.neq (.lit rfl) (.k rfl)) ?_ | refine ag (O.neq (.lit rfl) (.lit rfl)) ?_ | refine ag (O.neq (.k rfl) (.lit rfl)) ?_ | refine ag (O.ma (.lit rfl) (.lit rfl)) ?_ | refine ag (O.ma (.lit rfl) (.k rfl)) ?_))
  | ((with_reducible apply au.hN (.binOp .geq _ _ _ _) none); (first | refine ag (O.geq (.lit rfl) (.k rfl)) ?_ | refine ag (O.geq (.lit rfl) (.lit rfl)) ?_ | refine ag (O.geq (.k rfl) (.lit rfl)) ?_))
  | ((with_reducible apply au.hN (.binOp .gtr _ _ _ _) none); (first | refine ag (O.gtr (.lit rfl) (.k rfl)) ?_ | refine ag (O.gtr (.lit rfl) (.lit rfl)) ?_ | refine ag (O.gtr (.k rfl) (.lit rfl)) ?_))
  | ((with_reducible apply au.hN (.binOp .sub _ _ _ _) none); (first | refine ag (O.sub (.lit rfl) (.k rfl)) ?_ | refine ag (O.sub (.lit rfl) (.lit rfl)) ?_ | refine ag (O.sub (.k rfl) (.lit rfl)) ?_))
  | ((with_reducible apply au.hN (.binOp .leq _ _ _ _) none); (first | refine ag (O.leq (.lit rfl) (.k rfl)) ?_ | refine ag (O.leq (.lit rfl) (.lit rfl)) ?_ | refine ag (O.leq (.k rfl) (.lit rfl)) ?_))
  | ((with_reducible apply au.hN (.pick _ _ _) none); (first | refine ag (O.eQ (.lit rfl) rfl (.lit rfl)) ?_ | refine ag (O.cL (.lit rfl) rfl (.lit rfl)) ?_ | refine ag (O.eQ (.lit rfl) rfl (.k rfl)) ?_ | refine ag (O.cL (.lit rfl) rfl (.k rfl)) ?_ | refine ag (O.eQ (.lit rfl) (by assumption) (.lit rfl)) ?_ | refine ag (O.cL (.lit rfl) (by assumption) (.lit rfl)) ?_ | refine ag (O.eQ (.lit rfl) (by assumption) (.k rfl)) ?_ | refine ag (O.cL (.lit rfl) (by assumption) (.k rfl)) ?_))
  | ((with_reducible apply au.hN (.call { callee:=.builtin .len,args:=#[_],argTypes:=#[_] }) none); (first | refine ag (O.fY (.aD rfl) hl.p) ?_ | refine ag (O.pJ (.bh rfl) hl.p) ?_ | refine ag (O.pJ (.own rfl) hl.p) ?_ | refine ag (O.mK (.lit rfl) r8.p) ?_))
  | ((with_reducible apply au.hN (.unOp .not _ _) none); (first | refine ag (O.not (.lit rfl)) ?_))
  | ((with_reducible apply au.hN (.nilCheck _) none); (first | refine ag (O.e9 (.ptr rfl)) ?_ | refine ag (O.As (.bn rfl)) ?_ | refine ag (O.e9 (.obj rfl)) ?_))
  | ((with_reducible apply au.hN (.index _ _ _) none); (first | refine ag (O.qA (.lit rfl) (.lit rfl) r8.p (by assumption)) ?_))
  | ((with_reducible apply au.hN (.move (.const _)) none); (first | refine ag (O.az (.k rfl)) ?_ | refine ag (O.az .Ds) ?_)))
 | ((with_reducible apply au.nl); first | exact bR rfl | refine nP ?_)
 | ((with_reducible apply au.hN _ (some _)); first
  | (first | refine cO rfl ?_ | refine N0 ?_ | refine hp ?_)
  | ((with_reducible apply au.hN (.move (.tmp _)) (some _)); (first | refine a1 rfl (O.az (.lit rfl)) ?_ | refine fH (O.az (.lit rfl)) ?_ | refine a1 rfl (O.az (.aD rfl)) ?_ | refine fH (O.az (.aD rfl)) ?_ | refine a1 rfl (O.az (.own rfl)) ?_ | refine fH (O.az (.own rfl)) ?_ | refine a1 rfl (O.az (.obj rfl)) ?_ | refine fH (O.az (.obj rfl)) ?_ | refine a1 rfl (O.az (.bn rfl)) ?_ | refine fH (O.az (.bn rfl)) ?_ | refine a1 rfl (O.az (.ptr rfl)) ?_ | refine fH (O.az (.ptr rfl)) ?_ | refine a1 rfl (O.az (.bh rfl)) ?_ | refine fH (O.az (.bh rfl)) ?_))
  | ((with_reducible apply au.hN (.load _ _) (some _)); (first | refine a1 rfl (O.cw rfl (.ptr rfl) gX.p rfl) ?_ | refine fH (O.cw rfl (.ptr rfl) gX.p rfl) ?_ | refine a1 rfl (O.cX (.bn rfl) gX.p rfl) ?_ | refine fH (O.cX (.bn rfl) gX.p rfl) ?_ | refine a1 rfl (O.xT rfl (.ptr rfl) gX.p rfl) ?_ | refine fH (O.xT rfl (.ptr rfl) gX.p rfl) ?_ | refine a1 rfl (O.cw rfl (.obj rfl) gX.p rfl) ?_ | refine fH (O.cw rfl (.obj rfl) gX.p rfl) ?_ | refine a1 rfl (O.xT rfl (.obj rfl) gX.p rfl) ?_ | refine fH (O.xT rfl (.obj rfl) gX.p rfl) ?_ | refine a1 rfl (O.xU rfl (.ptr rfl) gX.p rfl) ?_ | refine fH (O.xU rfl (.ptr rfl) gX.p rfl) ?_ | refine a1 rfl (O.xU rfl (.obj rfl) gX.p rfl) ?_ | refine fH (O.xU rfl (.obj rfl) gX.p rfl) ?_))
  | ((with_reducible apply au.hN (.fieldAddr _ _ _) (some _)); (first | refine a1 rfl (O.bd rfl (.obj rfl) dR.p rfl) ?_ | refine fH (O.bd rfl (.obj rfl) dR.p rfl) ?_ | refine a1 rfl (O.ef (.bn rfl) dR.p) ?_ | refine fH (O.ef (.bn rfl) dR.p) ?_ | refine a1 rfl (O.bd rfl (.ptr rfl) dR.p rfl) ?_ | refine fH (O.bd rfl (.ptr rfl) dR.p rfl) ?_))
  | ((with_reducible apply au.hN (.indexAddr _ _ _) (some _)); (first | refine a1 rfl (O.cv (.aD rfl) (.lit rfl) hl.p (by assumption)) ?_ | refine fH (O.cv (.aD rfl) (.lit rfl) hl.p (by assumption)) ?_ | refine a1 rfl (O.cv (.aD rfl) (.k rfl) hl.p (by assumption)) ?_ | refine fH (O.cv (.aD rfl) (.k rfl) hl.p (by assumption)) ?_))
  | ((with_reducible apply au.hN (.binOp .add _ _ _ _) (some _)); (first | refine a1 rfl (O.add (.lit rfl) (.k rfl)) ?_ | refine fH (O.add (.lit rfl) (.k rfl)) ?_ | refine a1 rfl (O.add (.lit rfl) (.lit rfl)) ?_ | refine fH (O.add (.lit rfl) (.lit rfl)) ?_ | refine a1 rfl (O.add (.k rfl) (.lit rfl)) ?_ | refine fH (O.add (.k rfl) (.lit rfl)) ?_))
  | ((with_reducible apply au.hN (.binOp .lss _ _ _ _) (some _)); (first | refine a1 rfl (O.lss (.lit rfl) (.k rfl)) ?_ | refine fH (O.lss (.lit rfl) (.k rfl)) ?_ | refine a1 rfl (O.lss (.lit rfl) (.lit rfl)) ?_ | refine fH (O.lss (.lit rfl) (.lit rfl)) ?_ | refine a1 rfl (O.lss (.k rfl) (.lit rfl)) ?_ | refine fH (O.lss (.k rfl) (.lit rfl)) ?_))
  | ((with_reducible apply au.hN (.binOp .eql _ _ _ _) (some _)); (first | refine a1 rfl (O.eql (.lit rfl) (.k rfl)) ?_ | refine fH (O.eql (.lit rfl) (.k rfl)) ?_ | refine a1 rfl (O.eql (.lit rfl) (.lit rfl)) ?_ | refine fH (O.eql (.lit rfl) (.lit rfl)) ?_ | refine a1 rfl (O.eql (.k rfl) (.lit rfl)) ?_ | refine fH (O.eql (.k rfl) (.lit rfl)) ?_ | refine a1 rfl (O.oA (.lit rfl) (.lit rfl)) ?_ | refine fH (O.oA (.lit rfl) (.lit rfl)) ?_ | refine a1 rfl (O.oA (.lit rfl) (.k rfl)) ?_ | refine fH (O.oA (.lit rfl) (.k rfl)) ?_))
  | ((with_reducible apply au.hN (.binOp .neq _ _ _ _) (some _)); (first | refine a1 rfl (O.neq (.lit rfl) (.k rfl)) ?_ | refine fH (O.neq (.lit rfl) (.k rfl)) ?_ | refine a1 rfl (O.neq (.lit rfl) (.lit rfl)) ?_ | refine fH (O.neq (.lit rfl) (.lit rfl)) ?_ | refine a1 rfl (O.neq (.k rfl) (.lit rfl)) ?_ | refine fH (O.neq (.k rfl) (.lit rfl)) ?_ | refine a1 rfl (O.ma (.lit rfl) (.lit rfl)) ?_ | refine fH (O.ma (.lit rfl) (.lit rfl)) ?_ | refine a1 rfl (O.ma (.lit rfl) (.k rfl)) ?_ | refine fH (O.ma (.lit rfl) (.k rfl)) ?_))
  | ((with_reducible apply au.hN (.binOp .geq _ _ _ _) (some _)); (first | refine a1 rfl (O.geq (.lit rfl) (.k rfl)) ?_ | refine fH (O.geq (.lit rfl) (.k rfl)) ?_ | refine a1 rfl (O.geq (.lit rfl) (.lit rfl)) ?_ | refine fH (O.geq (.lit rfl) (.lit rfl)) ?_ | refine a1 rfl (O.geq (.k rfl) (.lit rfl)) ?_ | refine fH (O.geq (.k rfl) (.lit rfl)) ?_))
  | ((with_reducible apply au.hN (.binOp .gtr _ _ _ _) (some _)); (first | refine a1 rfl (O.gtr (.lit rfl) (.k rfl)) ?_ | refine fH (O.gtr (.lit rfl) (.k rfl)) ?_ | refine a1 rfl (O.gtr (.lit rfl) (.lit rfl)) ?_ | refine fH (O.gtr (.lit rfl) (.lit rfl)) ?_ | refine a1 rfl (O.gtr (.k rfl) (.lit rfl)) ?_ | refine fH (O.gtr (.k rfl) (.lit rfl)) ?_))
  | ((with_reducible apply au.hN (.binOp .sub _ _ _ _) (some _)); (first | refine a1 rfl (O.sub (.lit rfl) (.k rfl)) ?_ | refine fH (O.sub (.lit rfl) (.k rfl)) ?_ | refine a1 rfl (O.sub (.lit rfl) (.lit rfl)) ?_ | refine fH (O.sub (.lit rfl) (.lit rfl)) ?_ | refine a1 rfl (O.sub (.k rfl) (.lit rfl)) ?_ | refine fH (O.sub (.k rfl) (.lit rfl)) ?_))
  | ((with_reducible apply au.hN (.binOp .leq _ _ _ _) (some _)); (first | refine a1 rfl (O.leq (.lit rfl) (.k rfl)) ?_ | refine fH (O.leq (.lit rfl) (.k rfl)) ?_ | refine a1 rfl (O.leq (.lit rfl) (.lit rfl)) ?_ | refine fH (O.leq (.lit rfl) (.lit rfl)) ?_ | refine a1 rfl (O.leq (.k rfl) (.lit rfl)) ?_ | refine fH (O.leq (.k rfl) (.lit rfl)) ?_))
  | ((with_reducible apply au.hN (.call { callee:=.builtin .len,args:=#[_],argTypes:=#[_] }) (some _)); (first | refine a1 rfl (O.fY (.aD rfl) hl.p) ?_ | refine fH (O.fY (.aD rfl) hl.p) ?_ | refine a1 rfl (O.pJ (.bh rfl) hl.p) ?_ | refine fH (O.pJ (.bh rfl) hl.p) ?_ | refine a1 rfl (O.pJ (.own rfl) hl.p) ?_ | refine fH (O.pJ (.own rfl) hl.p) ?_ | refine a1 rfl (O.mK (.lit rfl) r8.p) ?_ | refine fH (O.mK (.lit rfl) r8.p) ?_))
  | ((with_reducible apply au.hN (.unOp .not _ _) (some _)); (first | refine a1 rfl (O.not (.lit rfl)) ?_ | refine fH (O.not (.lit rfl)) ?_))
  | ((with_reducible apply au.hN (.nilCheck _) (some _)); (first | refine a1 rfl (O.e9 (.ptr rfl)) ?_ | refine fH (O.e9 (.ptr rfl)) ?_ | refine a1 rfl (O.As (.bn rfl)) ?_ | refine fH (O.As (.bn rfl)) ?_ | refine a1 rfl (O.e9 (.obj rfl)) ?_ | refine fH (O.e9 (.obj rfl)) ?_))
  | ((with_reducible apply au.hN (.index _ _ _) (some _)); (first | refine a1 rfl (O.qA (.lit rfl) (.lit rfl) r8.p (by assumption)) ?_ | refine fH (O.qA (.lit rfl) (.lit rfl) r8.p (by assumption)) ?_)))))):au P N ops l g K:=h
theorem W.Je {id:Nat}{l:List Oper}{G G1:List (Nat × aj)}{Φ:Exit->a7->Prop}(ks:List Nat) (hk:ah .normal Φ G1) (h:au P N l.toArray l (get G) (wV ks G1):=by exact au.aV):W P N (.region id l.toArray false) (get G) Φ:=W.bo ks h hk
theorem W.dK {id:Nat}{l:List Oper}{B:Code}{G:List (Nat × aj)}{Φ:Exit->a7->Prop}(G1:List (Nat × aj)) (hk:W P N B (get G1) Φ) (h:au P N l.toArray l (get G) (λg'=>kX g' (get G1)):=by exact au.aV):W P N (.seq (.region id l.toArray false) B) (get G) Φ:=W.rs G1 h hk
theorem W.aT {id:Nat}{l:List Oper}{B:Code}{G G1:List (Nat × aj)}{Φ:Exit->a7->Prop}(ks:List Nat) (hk:W P N B (get G1) Φ) (h:au P N l.toArray l (get G) (wV ks G1):=by exact au.aV):W P N (.seq (.region id l.toArray false) B) (get G) Φ:=W.bI ks h hk
end
end Go.Own
namespace Go.Own
open Go
section
variable {P:Program}{N:dW}{G:List (Nat × aj)}{g':a7}
theorem cu {rs:List ResultVar}{ys xs:List aj}{res:aj}{outs:List (Option aj)}{n:Nat}(h:o_ P (get G) rs ys xs g') (he:ql xs=res:=by rfl) (bj:sb g' N.pins 0 outs:=by (repeat' first | exact .nil | refine .no ?_)) (gv:(rs.filterMap fun | .cell t _=>some t | _=>none).Nodup:=by exact of_decide_eq_true (by kernel_rfl)) (aq:outs.length=n:=by rfl):ah .ret (BP P N rs n outs res) G:=ah.fin (Fin.ro h he gv bj aq (.inr rfl))
end
end Go.Own
