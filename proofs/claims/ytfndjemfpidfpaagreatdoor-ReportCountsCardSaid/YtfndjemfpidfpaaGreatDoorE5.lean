/- Parts of the proof that the last text states. -/
import Derived.Deep.Draws
import Derived.Deep.LoopGhost
import Derived.KernelRfl
import Derived.Laws.CopyRow
import Derived.Lib.SliceRun
import Derived.Lib.SlicesCompact
import Derived.Lib.Walk
import Derived.Maps.OwnIn
import Derived.Shelf.RegionOpenPlain
import Derived.Shelf.SlLaysQ
import Derived.Shelf.SlSortCmp.NoneTotal
import Derived.Shelf.SlicesE.Kit
import Derived.Shelf.SlicesQ.Load
import Derived.Shelf.Strings.BuilderK
import Derived.Sort.WalkB12
import Derived.StringKeys
import Derived.WalkKit
import Derived.Test.YtfndjemfpidfpaaGreatDoorE4
namespace Go.Own
open Go
variable {α β As Au S T R Q:Type}
def Rel (x:Option α) (y:Option β) (Φ:α->β->Prop):Prop:=∃ a b,x=some a/\y=some b/\Φ a b
abbrev LL (p:S->T->Prop) (q:R->Q->Prop):S ⊕ R->T ⊕ Q->Prop
 | .inl a,.inl b=>p a b
 | .inr a,.inr b=>q a b
 | _,_=>False
namespace Rel
variable {Φ dS:α->β->Prop}
theorem al {a:α}{b:β}(h:Φ a b):Rel (some a) (some b) Φ:=⟨a,b,rfl,rfl,h⟩
theorem use {x:Option α}{y:Option β}(h:Rel x y dS) (hi:∀ a b,dS a b->Φ a b):Rel x y Φ:=by
 obtain ⟨a,b,aQ,ao,JF⟩:=h;exact ⟨a,b,aQ,ao,hi a b JF⟩
theorem aC {x:Option As}{y:Option Au}{f:As->Option α}{g:Au->Option β}{Ξ:As->Au->Prop}(h:Rel x y Ξ) (hk:∀ a b,Ξ a b->Rel (f a) (g b) Φ):Rel (x.bind f) (y.bind g) Φ:=by
 obtain ⟨a,b,rfl,rfl,B5⟩:=h;exact hk a b B5
theorem l {x:Option As}{y:Option β}{f:As->Option α}{Ξ:As->Prop}(h:Tot x Ξ) (hk:∀ a,Ξ a->Rel (f a) y Φ):Rel (x.bind f) y Φ:=by
 obtain ⟨a,rfl,B5⟩:=h;exact hk a B5
theorem r {x:Option α}{y:Option Au}{g:Au->Option β}{Ξ:Au->Prop}(h:Tot y Ξ) (hk:∀ a,Ξ a->Rel x (g a) Φ):Rel x (y.bind g) Φ:=by
 obtain ⟨a,rfl,B5⟩:=h;exact hk a B5
theorem bC {c d:Bool}{a b:Option α}{cb ig:Option β}(aa:c=d) (au:c=true->Rel a cb Φ) (aV:c=false->Rel b ig Φ):Rel (cond c a b) (cond d cb ig) Φ:=by
 subst aa;cases c
 ·exact aV rfl
 ·exact au rfl
theorem cl {c:Bool}{a b:Option α}{y:Option β}(au:c=true->Rel a y Φ) (aV:c=false->Rel b y Φ):Rel (cond c a b) y Φ:=by
 cases c
 ·exact aV rfl
 ·exact au rfl
theorem iX {x:Option α}{y:Option β}{P:α->Prop}{Q:β->Prop}(h:Tot x P) (aR:Tot y Q) (hi:∀ a b,P a->Q b->Φ a b):Rel x y Φ:=by
 obtain ⟨a,aQ,cX⟩:=h;obtain ⟨b,ao,eu⟩:=aR;exact ⟨a,b,aQ,ao,hi a b cX eu⟩
theorem loop {f:S->Option (S ⊕ R)}{g:T->Option (T ⊕ Q)}{eB:S}{t0:T}{dS:R->Q->Prop}(Inv:S->T->Prop) (uq:S->Nat) (aI:Inv eB t0) (JG:uq eB<fuel)
  (av:∀ s t,Inv s t->Rel (f s) (g t) (LL (λcY t'=>Inv cY t'/\uq cY<uq s) dS)):Rel (cc f eB) (cc g t0) dS:=by
 have key:∀ n s t,Inv s t->uq s<n->Rel (iter f n s) (iter g n t) dS:=by
  intro n
  induction n with
  | zero=>intro s t _ h; omega
  | succ n aJ =>
   intro s t a' hm;obtain ⟨x,y,J,ai,cX⟩:=av s t a';rcases x with cY | r <;> rcases y with t' | q
   ·obtain ⟨h1,af⟩:=cX;simp only [iter,J,ai];exact aJ cY t' h1 (by omega)
   ·exact cX.elim
   ·exact cX.elim
   ·simp only [iter,J,ai];exact ⟨r,q,rfl,rfl,cX⟩
 exact key fuel eB t0 aI JG
theorem upto {f:S->Option (S ⊕ R)}{g:T->Option (T ⊕ Q)}{eB:S}{t0:T}{dS:R->Q->Prop}(i:S->Int) (n:Nat) (Inv:Nat->S->T->Prop) (hi:i eB=0) (aA:n<=100000000000000000) (aI:Inv 0 eB t0)
  (av:∀ (k:Nat) (s:S) (t:T),k<=n->i s=(k:Int)->Inv k s t->Rel (f s) (g t) (LL (λcY t'=>k<n/\i cY=((k+1:Nat):Int)/\Inv (k+1) cY t') dS)):Rel (cc f eB) (cc g t0) dS:=by
 refine loop (λs t=>∃ k:Nat,k<=n/\i s=(k:Int)/\Inv k s t) (λs=>(n - (i s).toNat)) ⟨0,Nat.zero_le _,hi,aI⟩ (by rw [hi]; show n - 0<1000000000000000000; omega) λs t ⟨k,hk,he,a'⟩=>(av k s t hk he a').use λx y E2=>?_;rcases x with cY | r <;> rcases y with t' | q
 ·obtain ⟨h1,af,aF⟩:=E2;refine ⟨⟨k+1,by omega,af,aF⟩,?_⟩;show n - (i cY).toNat<n - (i s).toNat;rw [af,he]; omega
 ·exact E2
 ·exact E2
 ·exact E2
end Rel
end Go.Own
namespace Go.Proofs
open Go Go.Own
set_option linter.unusedVariables false
abbrev km:=List UInt8
abbrev cV (s:ByteArray):km:=s.data.toList
theorem mj (a b:ByteArray):cV (a++b)=cV a++cV b:=by
 show (a++b).data.toList=_;rw [ByteArray.data_append,Array.toList_append]
theorem lZ (a:ByteArray):(cV a).length=a.size:=by
 show a.data.toList.length=a.data.size;rw [Array.length_toList]
def wh (b:UInt8):Prop:=b≠10/\b≠58/\b≠103/\b≠108
instance (b:UInt8):Decidable (wh b):=by unfold wh; exact inferInstance
def hP (u:ByteArray):Prop:=∀ b∈cV u,wh b
instance (u:ByteArray):Decidable (hP u):=by unfold hP; exact inferInstance
theorem hP.app {a b:ByteArray}(aQ:hP a) (ao:hP b):hP (a++b):=λx J=>by
 rw [mj] at J;rcases List.mem_append.1 J with h | h
 ·exact aQ x h
 ·exact ao x h
def j6 (l:Bool) (u:ByteArray):Prop:=u.size<=1000/\hP u/\(l=true->∀ b∈cV u,112<=b.toNat/\b.toNat<=115)
abbrev fq:=Nat × ByteArray
def fZ:List fq->km
 | []=>[]
 | x::l=>cV x.2++10::fZ l
theorem uF (a b:List fq):fZ (a++b)=fZ a++fZ b:=by
 induction a with
 | nil=>rfl
 | cons x l aJ=>simp only [List.cons_append,fZ,aJ,List.append_assoc]
def FW:km:=[115,116,97,116,101,32]
def Ad:km:=[9,99,111,110,102,108,105,99,116,32]
def xY:km:=[32,103,111,116,111,32]
def C':km:=[32,58,32]
def KN:km:=[32,58,46]
def qp:Nat->km->Prop
 | 0,l=>∃ r,r≠[]/\l=FW++r
 | 1,l=>∃ r,r≠[]/\l=Ad++r
 | 2,l=>(∃ r,l=9::r)/\108∉l/\xY <:+: l
 | 3,l=>(∃ r,l=9::r)/\108∉l/\103∉l/\58∉l
 | _,l=>l.head?≠some 115/\(l.head?=some 9->108∉l/\C' <:+: l)/\103∉l
def vj (l:km):Prop:=6<l.length/\l.take 6=FW
def vk (l:km):Prop:=10<l.length/\l.take 10=Ad
def E8 (l:km):Prop:=¬ C' <:+: l/\¬ KN <:+: l/\0<l.length/\l.head?=some 9
theorem JK {a b:km}{x:UInt8}(h:a <:+: b) (J:x∈a):x∈b:=h.subset J
theorem Fw {l:km}(h:l.head?≠some 115):¬ vj l:=λ⟨h1,af⟩=>by
 apply h;cases l with
 | nil=>simp at h1
 | cons x r=>simp [FW] at af; simp [af.1]
theorem Ko {l:km}(h:108∉l):¬ vk l:=λ⟨h1,af⟩=>h (List.mem_of_mem_take (i:=10) (by rw [af]; decide))
theorem Yy {l:km}(h:l.head?≠some 9):¬ vk l:=λ⟨h1,af⟩=>by
 apply h;cases l with
 | nil=>simp at h1
 | cons x r=>simp [Ad] at af; simp [af.1]
theorem Pn {l:km}(h:103∉l):¬ xY <:+: l:=λhi=>h (JK hi (by decide))
theorem X_ {l:km}(h:qp 0 l):vj l:=by
 obtain ⟨r,ak,rfl⟩:=h;refine ⟨?_,rfl⟩;have:0<r.length:=List.length_pos_iff.2 ak;simp [FW]; omega
theorem OT {l:km}(h:qp 1 l):¬ vj l/\vk l:=by
 obtain ⟨r,ak,rfl⟩:=h;refine ⟨Fw (by simp [Ad]),?_,rfl⟩;have:0<r.length:=List.length_pos_iff.2 ak;simp [Ad]; omega
theorem J4 {l:km}(h:qp 2 l):¬ vj l/\¬ vk l/\xY <:+: l:=by
 obtain ⟨⟨r,rfl⟩,af,aF⟩:=h;exact ⟨Fw (by simp),Ko af,aF⟩
theorem E' {l:km}(h:qp 3 l):¬ vj l/\¬ vk l/\¬ xY <:+: l/\E8 l:=by
 obtain ⟨⟨r,rfl⟩,af,aF,bk⟩:=h;exact ⟨Fw (by simp),Ko af,Pn aF,λhi=>bk (JK hi (by decide)),λhi=>bk (JK hi (by decide)),by simp,by simp⟩
theorem X' {k:Nat}{l:km}(hk:4<=k) (h:qp k l):¬ vj l/\¬ vk l/\¬ xY <:+: l/\¬ E8 l:=by
 obtain ⟨j,rfl⟩:∃ j,k=j+4:=⟨k - 4,by omega⟩;obtain ⟨h1,af,aF⟩:=h;refine ⟨Fw h1,?_,Pn aF,λaP=>?_⟩
 ·by_cases oP:l.head?=some 9
  ·exact Ko (af oP).1
  ·exact Yy oP
 ·exact aP.1 (af aP.2.2.2).2
theorem OG (t s:km):t <:+: s↔∃ i,i+t.length<=s.length/\(s.drop i).take t.length=t:=by
 constructor
 ·rintro ⟨a,b,rfl⟩;refine ⟨a.length,by simp,?_⟩;simp
 ·rintro ⟨i,h1,af⟩;refine ⟨s.take i,s.drop (i+t.length),?_⟩;have aF:s.take i++((s.drop i).take t.length++(s.drop i).drop t.length)=s:=by rw [List.take_append_drop,List.take_append_drop]
  rw [af,List.drop_drop] at aF;simpa [List.append_assoc] using aF
theorem A0 (s:ByteArray) (m n:Int):cV (qx s m n)=((cV s).drop m.toNat).take (n.toNat - m.toNat):=by
 unfold qx;show (s.extract m.toNat n.toNat).data.toList=_;rw [ByteArray.data_extract,Array.toList_extract]
theorem D1 {a b:ByteArray}(h:cV a=cV b):a=b:=ByteArray.ext (Array.toList_inj.1 h)
theorem G8 (s:ByteArray) (i:Nat) (h:i<s.size):ih s (i:Int)=(((cV s)[i]'(by rw [lZ]; exact h)).toNat:Int):=by
 unfold ih;rw [show ((i:Int)).toNat=i from rfl,getElem?_pos s i h]
 rfl
def eb (k:Nat) (l:List fq):Nat:=l.countP λx=>x.1 == k
theorem uH (k:Nat) (a b:List fq):eb k (a++b)=eb k a+eb k b:=List.countP_append
def mg (st:Nat->ByteArray):Nat->List fq->Prop
 | _,[]=>True
 | j,(0,l)::r=>l=st j/\mg st (j+1) r
 | j,(_+1,_)::r=>mg st j r
theorem mg.no {st:Nat->ByteArray}{j:Nat}{a b:List fq}(h:∀ x∈a,x.1≠0) (ao:mg st j b):mg st j (a++b):=by
 induction a with
 | nil=>exact ao
 | cons x a aJ =>
  obtain ⟨k,l⟩:=x;cases k with
  | zero=>exact absurd rfl (h _ (List.mem_cons_self ..))
  | succ k=>exact aJ λy ai=>h y (List.mem_cons_of_mem _ ai)
theorem mg.app {st:Nat->ByteArray}{a b:List fq}:∀ {j:Nat},mg st j a->mg st (j+eb 0 a) b->mg st j (a++b):=by
 induction a with
 | nil=>intro j _ ao; exact ao
 | cons x a aJ =>
  intro j aQ ao;obtain ⟨k,l⟩:=x;cases k with
  | zero =>
   refine ⟨aQ.1,aJ aQ.2 ?_⟩;have:eb 0 ((0,l)::a)=eb 0 a+1:=by simp [eb]
   rw [this] at ao;have e:j+1+eb 0 a=j+(eb 0 a+1):=by omega
   rw [e]; exact ao
  | succ k =>
   refine aJ (j:=j) aQ ?_;have:eb 0 ((k+1,l)::a)=eb 0 a:=by simp [eb]
   rw [this] at ao; exact ao
end Go.Proofs
/- Short forms for printed walks. -/
namespace Go.Own
open Go
set_option linter.unusedSectionVars false
variable [cw]
section
variable {P:Program}{N:cQ}{ops:Array Oper}{bl:List (List Nat)}{g g0:aH}{K:aH->Prop}{l:List Oper}{acc:Acc}{d i:Nat}{op:Op}{ty:TypeId}{pos:String}{after:Array Edge}{x:ab}
theorem aj (aw:ch P g op ty x) (hk:aD P N ops l (cR g d x) K) (bc:N.ok d=true:=by rfl) (aV:g d=none:=by rfl):aD P N ops (⟨some d,op,ty,pos,after,none⟩::l) g K:=.v aw bc aV .none hk
theorem gn (aw:cF P g op x) (hk:aD P N ops l (cR g d x) K) (bc:N.ok d=true:=by rfl) (aV:g d=none:=by rfl):aD P N ops (⟨some d,op,ty,pos,after,none⟩::l) g K:=.c aw bc aV .none hk
theorem aO (b7:Nat) (aw:ch P (kj bl g0 b7 acc) op ty x) (hk:b8 P N ops bl g0 i ((b7,d,some x)::acc) l K) (ag:Nat.beq ops.size (b7+l.length+1)=true:=by rfl) (aV:g0 d=none:=by rfl) (aA:acc.all (λe=>!Nat.beq e.2.1 d)=true:=by rfl) (bc:N.ok d=true:=by rfl) :
  b8 P N ops bl g0 i acc (⟨some d,op,ty,pos,after,none⟩::l) K:=.v b7 aw ag aV aA bc .none hk
theorem iY (b7:Nat) (aw:cF P (kj bl g0 b7 acc) op x) (hk:b8 P N ops bl g0 i ((b7,d,some x)::acc) l K) (ag:Nat.beq ops.size (b7+l.length+1)=true:=by rfl) (aV:g0 d=none:=by rfl) (aA:acc.all (λe=>!Nat.beq e.2.1 d)=true:=by rfl) (bc:N.ok d=true:=by rfl) :
  b8 P N ops bl g0 i acc (⟨some d,op,ty,pos,after,none⟩::l) K:=.c b7 aw ag aV aA bc .none hk
end
instance {z n:Nat}{cs:List ab}:mL (.own z n cs):=⟨by simp⟩
def aN (a n:Nat) (l:List Nat):List Nat:=List.range' a n++l
end Go.Own
namespace Go.Own
open Go
set_option linter.unusedSectionVars false
variable [cw]
section
variable {α:Type}{P:Program}{N:cQ}{g:aH}{d r:Nat}{ty:TypeId}
instance {fn:Fn}{cs:List ab} [h:dp cs]:b6 (.dc fn [] cs):=⟨.dc (by simp) h.bh⟩
theorem View.cl {fn:Fn}{cs cs':List ab}(h:n1 g cs cs'):View g (.dc fn [] cs) (.dc fn [] cs'):=.dc h.len h.get
theorem fy.jl {o:Oper}{xs:List Operand}{fT:Array TypeId}{f:FuncId}{ys args:List ab}{res:ab}{en:bK α}{L L':List α}{G2:List (Nat × ab)}(aM:o.op=.call { callee:=.value (.func f),args:=xs.toArray,argTypes:=fT }) (aP:o.dst=some d) (J:Own.hz g xs=some (.bo en.z ⟨r,[]⟩ L.length::ys))
  (av:g r=some (ar en L)) (hv:n1 (get ((r,.dead)::G2)) ys args) (gH:bO P f (ar en L::args) (some (ar en L')::args.map λ_=>none) res) (aV:gU P f=true) [ak:nY res] [w6:nY (ar en L')]
  (c':Trim false (cp g ⟨r,[]⟩ .dead) (get ((r,.dead)::G2)) G2) (aL:get G2 d=none) (rD:Nat.beq r d=false) (uQ:Trim false (get ((r,ar en L')::G2)) (get ((r,ar en L')::G2)) G2) (bc:N.ok d=true) :
  fy P N g o d (get ((d,res)::(r,ar en L')::G2)):=by
 have tJ:r≠d:=Nat.ne_of_beq_eq_false rD;have A1:get ((r,ab.dead)::G2) r=some .dead:=by simp [get]
 have mr:∀ x∈bu en L,cK x:=by
  intro x J;obtain ⟨a,_,aQ⟩:=List.mem_flatMap.1 J;exact en.bh a x aQ
 have hJ:(bu en L).take (L.length * en.z)=bu en L:=List.take_of_length_le (by rw [np]; exact Nat.le_refl _);have tT:hn (cp g ⟨r,[]⟩ .dead) (get ((r,.dead)::G2)):=by
  refine ⟨λt x h=>?_,λt x h=>?_,λt z q n m new h=>?_⟩
  all_goals
   simp only [get] at h
   split at h
  ·rename_i e; subst e; cases h; simp [cp,av,ab.setAt]
  ·obtain ⟨⟨y,h1,_,aF⟩,_⟩:=c'.spec t x h; rw [<- aF rfl]; exact h1
  ·cases h; exact .bh .dead
  ·exact (c'.spec t x h).2.1
  ·cases h
  ·exact (c'.spec t _ h).2.2 _ _ _ _ _ rfl
 have put:p8 (get ((r,.dead)::G2)) [(⟨r,[]⟩,ar en L')]=get ((r,ar en L')::G2):=by
  funext t;simp only [p8,cp,get];by_cases h:t=r
  ·simp [h,ab.setAt]
  ·simp [h]
 have tU:hn (get ((r,ar en L')::G2)) (get ((r,ar en L')::G2)):=by
  refine ⟨λt x h=>h,λt x h=>?_,λt z q n m new h=>?_⟩
  all_goals
   simp only [get] at h
   split at h
  ·cases h; exact .bh w6.kY.bh
  ·exact (uQ.spec t x h).2.1
  ·cases h
  ·exact (uQ.spec t _ h).2.2 _ _ _ _ _ rfl
 have ah:=hv.len;have pC:get ((d,res)::(r,ar en L')::G2)=cR (get ((r,ar en L')::G2)) d res:=by
  funext t;rw [rn]
 rw [pC];refine yk.ok (first:=[]) (caps:=[]) (ys:=.bo en.z ⟨r,[]⟩ L.length::ys) (tk:=λk=>k == 0) (vw:=true) (outs:=some (ar en L')::args.map λ_=>none) (g1:=cp g ⟨r,[]⟩ .dead) (g2:=get ((r,.dead)::G2)) (g4:=get ((r,ar en L')::G2)) (l:=[(⟨r,[]⟩,ar en L')]) (ks:=λ_=>0) (xs0:=.bo en.z ⟨r,[]⟩ L.length::ys.map λ_=>.dead) (xs1:=ar en L::ys.map λ_=>.dead) (args:=ar en L::args) (res:=res) aM aP rfl (by simpa using J)
  ⟨aV,by simp,by simpa using ah,λk x h=>?_,?_,tT,λk x y J ai=>?_,gH,by simpa using ak.kY,λk x h=>?_,λj p x ag=>?_,by simp,λi j hi ag _=>by simp at hi ag; omega,by rw [put]; exact tU⟩ ?_ bc uu.refl
 ·simp only [List.nil_append,List.append_nil] at h;cases k with
  | zero=>exact .inl h
  | succ k =>
   refine .inr ?_;simp only [List.getElem?_cons_succ] at h ⊢;rw [List.getElem?_map,h]; rfl
 ·have h1:Take (cp g ⟨r,[]⟩ .dead) ((bu en L).take (L.length * en.z)) (bu en L) (cp g ⟨r,[]⟩ .dead):=by rw [hJ]; exact .bh mr
  refine .bo (N:=L.length) (by simp [bB,av,ab.at]) (Nat.le_refl _) h1 (.bh λx J=>?_);obtain ⟨_,_,rfl⟩:=List.mem_map.1 J;exact .dead
 ·simp only [List.nil_append,List.append_nil] at J;cases k with
  | zero=>simpa using ai
  | succ k =>
   simp only [List.getElem?_cons_succ] at J ai;exact ⟨rfl,hv.get k x y J ai⟩
 ·cases k with
  | zero=>simp only [List.getElem?_cons_zero,Option.some.injEq] at h; subst h; exact w6.kY
  | succ k =>
   simp only [List.getElem?_cons_succ,List.getElem?_map] at h;cases aQ:args[k]? <;> rw [aQ] at h <;> cases h
 ·cases j with
  | succ j=>simp at ag
  | zero =>
   simp only [List.getElem?_cons_zero,Option.some.injEq,Prod.mk.injEq] at ag;obtain ⟨rfl,rfl⟩:=ag;exact ⟨rfl,by simp [bB,A1,ab.at],.inl ⟨en.z,L.length,bu en L,rfl,by simp [bB,av,ab.at]⟩,λ_ h=>by cases h⟩
 ·simp only [get,if_neg (Ne.symm tJ)]; exact aL
end
end Go.Own
namespace Go.Own
open Go Go.Proofs Go.Shelf Go.Lib Go.Sort
set_option linter.unusedSectionVars false
variable [cw]
section
variable {P:Program}{w:World}
def Cy {α:Type} [DecidableEq α] (lt:α->α->Bool) (l:List α):Bool :=
 l.all λa=>!lt a a&&l.all λb=>(lt a b||lt b a||decide (a=b))&&l.all λc=>(!(lt a b&&lt b c)||lt a c)&&(lt a b||lt b c||!lt a c)
def nP {α:Type}(hh:α->α->Option Int) (a b:α):Bool:=decide ((hh a b).getD 0<0)
def ins {α:Type}(lt:α->α->Bool) (x:α):List α->List α
 | []=>[x]
 | y::l=>if lt y x then y::ins lt x l else x::y::l
def jX {α:Type}(lt:α->α->Bool):List α->List α
 | []=>[]
 | x::l=>ins lt x (jX lt l)
theorem JL {α:Type}(lt:α->α->Bool) (x:α):∀ l:List α,(ins lt x l).Perm (x::l)
 | []=>.refl _
 | y::l=>by
  unfold ins;split
  ·exact ((JL lt x l).cons y).trans (.swap x y l)
  ·exact .refl _
theorem zn {α:Type}(lt:α->α->Bool):∀ l:List α,(jX lt l).Perm l
 | []=>.refl _
 | x::l=>(JL lt x _).trans ((zn lt l).cons x)
theorem OJ {α:Type}{lt:α->α->Bool}(a_:SWO lt) (x:α):∀ l:List α,l.Pairwise (λa b=>(!lt b a)=true)->(ins lt x l).Pairwise λa b=>(!lt b a)=true
 | [],_=>List.pairwise_singleton _ _
 | y::l,h=>by
  obtain ⟨h1,af⟩:=List.pairwise_cons.1 h;unfold ins;split
  ·rename_i aK;refine List.pairwise_cons.2 ⟨λz aT=>?_,OJ a_ x l af⟩;rcases List.mem_cons.1 ((JL lt x l).mem_iff.1 aT) with rfl | aT
   ·cases aa:lt z y with
    | false=>rfl
    | true=>have:=a_.trans _ _ _ aK aa; rw [a_.irrefl] at this; cases this
   ·exact h1 z aT
  ·rename_i aK;have aK:lt y x=false:=by simpa using aK
   refine List.pairwise_cons.2 ⟨λz aT=>?_,h⟩;rcases List.mem_cons.1 aT with rfl | aT
   ·rw [aK]; rfl
   ·have aT:=h1 z aT;simp only [Bool.not_eq_true'] at aT ⊢;exact a_.ntrans _ _ _ aT aK
theorem JM {α:Type}{lt:α->α->Bool}(a_:SWO lt):∀ l:List α,(jX lt l).Pairwise λa b=>(!lt b a)=true
 | []=>.nil
 | x::l=>OJ a_ x _ (JM a_ l)
theorem X5 {α:Type}{lt:α->α->Bool}(a_:SWO lt) (c0:∀ x y,lt x y=false->lt y x=false->x=y) (l:List α):l.mergeSort (λx y=>!lt y x)=jX lt l:=by
 refine List.Perm.eq_of_pairwise (le:=λx y=>(!lt y x)=true) (λa b _ _ h1 af=>?_) (List.pairwise_mergeSort (λa b c h1 af=>?_) (λa b=>?_) l) (JM a_ l) ((List.mergeSort_perm _ _).trans (zn lt l).symm)
 ·simp only [Bool.not_eq_true'] at h1 af;exact c0 a b af h1
 ·simp only [Bool.not_eq_true'] at h1 af ⊢;exact a_.ntrans _ _ _ af h1
 ·cases h1:lt b a with
  | false=>rfl
  | true =>
   cases af:lt a b with
   | false=>rfl
   | true=>have:=a_.trans _ _ _ h1 af; rw [a_.irrefl] at this; cases this
theorem OI {α β:Type}{lt:α->α->Bool}{lt':β->β->Bool}{f:α->β}(h:∀ a b,lt a b=lt' (f a) (f b)) (x:α):∀ l:List α,(ins lt x l).map f=ins lt' (f x) (l.map f)
 | []=>rfl
 | y::l=>by
  simp only [ins,List.map_cons,h];split
  ·rw [List.map_cons,OI h x l]
  ·rfl
theorem OO {α β:Type}{lt:α->α->Bool}{lt':β->β->Bool}{f:α->β}(h:∀ a b,lt a b=lt' (f a) (f b)):∀ l:List α,(jX lt l).map f=jX lt' (l.map f)
 | []=>rfl
 | x::l=>by simp only [jX,List.map_cons,OI h,OO h l]
def vL {α:Type} [DecidableEq α] (hh:α->α->Option Int) (l:List α):Option (List α) :=
 if (l.all λa=>l.all λb=>(hh a b).isSome)&&Cy (nP hh) l&&decide (l.length<4611686018427387904) then some (jX (nP hh) l) else none
theorem Um {w':World}(h:Fr w w' λ_=>False):∃ q os,w'=grow (w.drewN q) os:=by
 refine ⟨w'.drawn - w.drawn,w'.heap.extract w.heap.size w'.heap.size,?_⟩;obtain ⟨h1,af,aF,bk,b2,du,jh⟩:=h;obtain ⟨aw,aev,uK,os,out⟩:=w';simp only at h1 af aF bk b2 jh;subst h1 af aF;unfold grow World.drewN;simp only [World.mk.injEq,true_and,and_true];refine ⟨?_,by omega⟩;apply Array.ext_getElem?;intro k;rw [Array.getElem?_append];by_cases hk:k<w.heap.size
 ·rw [if_pos hk]; exact b2 k hk λh=>h
 ·rw [if_neg hk,Array.getElem?_extract];by_cases fK:k<aw.size
  ·rw [if_pos (by omega),show w.heap.size+(k - w.heap.size)=k by omega]
  ·rw [if_neg (by omega),Array.getElem?_eq_none (by omega)]
theorem YM {α:Type} [DecidableEq α] {lt:α->α->Bool}{l:List α}(h:Cy lt l=true):∀ a∈l,lt a a=false/\∀ b∈l,(lt a b=true\/lt b a=true\/a=b)/\∀ c∈l,((lt a b=true/\lt b c=true)->lt a c=true)/\(lt a b=true\/lt b c=true\/lt a c=false):=by
 intro a aQ;unfold Cy at h;have h1:=List.all_eq_true.1 h a aQ;simp only [Bool.and_eq_true,Bool.not_eq_true',List.all_eq_true,Bool.or_eq_true,decide_eq_true_eq] at h1;refine ⟨h1.1,λb ao=>?_⟩;obtain ⟨af,aF⟩:=h1.2 b ao;refine ⟨by rcases af with (h | h) | h <;> simp [h],λc aa=>?_⟩;obtain ⟨bk,b2⟩:=aF c aa;refine ⟨λ⟨x,y⟩=>?_,by rcases b2 with (h | h) | h <;> simp [h]⟩;rcases bk with h | h
 ·rw [x,y] at h; cases h
 ·exact h
theorem ZU {α:Type} [DecidableEq α] {hh:α->α->Option Int}{l r:List α}(h:vL hh l=some r):(∀ a∈l,∀ b∈l,(hh a b).isSome=true)/\Cy (nP hh) l=true/\l.length<4611686018427387904/\r=jX (nP hh) l:=by
 unfold vL at h
 split at h
 ·rename_i aa;simp only [Bool.and_eq_true,List.all_eq_true,decide_eq_true_eq] at aa;exact ⟨aa.1.1,aa.1.2,aa.2,(Option.some.inj h).symm⟩
 ·cases h
theorem NT {α:Type} [Inhabited α] {enc:α->Value}{b n:Nat}{d:Array α}{os:Array Obj}{cur:Array Value}{e:TypeId}{eh:Nat × Nat}(ao:w.heap[b]?=some (.cells cur e eh)) :
  (sortWorld enc w b 0 n d os).heap[b]?=some (.cells (putCells enc 0 d cur) e eh):=by
 have aK:b<w.heap.size:=(Array.getElem?_eq_some_iff.1 ao).1;unfold sortWorld;rw [heap_grow_old _ _ (by rw [Go.Sort.size_putRow]; exact aK)];unfold putRow mapBlock;have qy:(Go.Sort.ahead w n).heap=w.heap:=rfl;simp only [qy,Array.getElem?_modify,if_true,ao,Option.map_some,onCells]
theorem NU {α:Type} [Inhabited α] {enc:α->Value}{b n c:Nat}{d:Array α}{os:Array Obj}(aa:c<w.heap.size) (cN:c≠b) :
  (sortWorld enc w b 0 n d os).heap[c]?=w.heap[c]?:=by
 unfold sortWorld;rw [heap_grow_old _ _ (by rw [Go.Sort.size_putRow]; exact aa)];unfold putRow mapBlock;have qy:(Go.Sort.ahead w n).heap=w.heap:=rfl;simp only [qy,Array.getElem?_modify,if_neg (Ne.symm cN)]
theorem HN {α:Type} [Inhabited α] {enc:α->Value}{b n:Nat}{d:Array α}{os:Array Obj}{U:a7}(gq:U b):Fr w (sortWorld enc w b 0 n d os) U:=by
 refine ⟨rfl,rfl,rfl,?_,λc aa aA=>NU aa λe=>aA (e ▸ gq),λa aQ _=>?_,?_⟩
 ·unfold sortWorld; rw [size_grow,Go.Sort.size_putRow]; exact Nat.le_add_right _ _
 ·unfold sortWorld;rw [frozen?_grow _ _ _ (by rw [Go.Sort.size_putRow]; exact aQ),Go.Sort.frozen?_putRow]; rfl
 ·show w.drawn<=w.drawn+n;exact Nat.le_add_right _ _
theorem PR {α:Type} [Inhabited α] {enc:α->Value}{d:Array α}{cur:Array Value}(h:d.size<=cur.size):(putCells enc 0 d cur).toList.take d.size=d.toList.map enc:=by
 apply List.ext_getElem?;intro k;rw [List.getElem?_take,List.getElem?_map];by_cases hk:k<d.size
 ·rw [if_pos hk,Array.getElem?_toList,Array.getElem?_toList];have aa:k<cur.size:=by omega
  simp only [putCells,Array.getElem?_mapIdx,Array.getElem?_eq_getElem aa,Array.getElem?_eq_getElem hk,Option.map_some];rw [if_pos ⟨Nat.zero_le _,by omega⟩,Nat.sub_zero];simp [getElem!_pos,hk]
 ·rw [if_neg hk,Array.getElem?_toList,Array.getElem?_eq_none (by omega)]; rfl
end
end Go.Own
namespace Go.Own
open Go
set_option linter.unusedSectionVars false
variable [cw]
section
variable {α:Type}{P:Program}{N:cQ}{g g1 g2 g3:aH}{ops:Array Oper}{bl:List (List Nat)}{acc:Acc}{l:List Oper}{K:aH->Prop}{i d r:Nat}
def KE (p q:Place):Bool:=Nat.beq p.root q.root&&p.path == q.path
def Ys:List Place->Bool
 | []=>true
 | x::l=>l.all (λy=>!KE x y)&&Ys l
def Yv (p:Place) (acc:Acc):Bool:=acc.all λe=>match lN e with | some q=>!KE p q | none=>true
theorem Yw {p:Place}{G:List (Nat × ab)}{A:Nat->Bool}(h:Yv p acc=true) (c':o4 G=true):∀ t z n m new,dz (get G) A acc t≠some (.bD z p n m new):=by
 intro t z n m new e;rcases uj e with ⟨b0,he,h1,_,af⟩ | ⟨_,af⟩
 ·have:=List.all_eq_true.1 h b0 he;obtain ⟨k,d,x⟩:=b0;simp only at af;subst af;simp [lN,KE] at this
 ·exact Cs c' _ _ _ _ _ _ af
end
end Go.Own
namespace Go.Own
open Go
set_option linter.unusedSectionVars false
variable [cw]
section
variable {α:Type}{P:Program}{N:cQ}{g:aH}{ops:Array Oper}{l:List Oper}{K:aH->Prop}{r n:Nat}{t e ty:TypeId}{a b:Operand}{m:Int}{en:bK α}{L:List α}{y y2:α}{k:IntKind}{pos:String}{after:Array Edge}
end
end Go.Own
namespace Go.Own
open Go Go.Proofs Go.Shelf Go.Lib Go.Sort
set_option linter.unusedSectionVars false
variable [cw]
section
variable {P:Program}{w:World}
class kp {α:Type}(e:bK α) where
 k4:α->List Value
 cells:∀ a,e.cells a=(k4 a).map .lit
 one:∀ a,∀ v∈k4 a,v.oneCell'=true
variable {α:Type}{e:bK α}
theorem kp.len [h:kp e] (a:α):(h.k4 a).length=e.z:=by
 have:=e.len a;rw [h.cells,List.length_map] at this;exact this
def jT (e:bK α) [h:kp e] (l:List α):List Value:=l.flatMap h.k4
theorem z_ [h:kp e]:∀ l:List α,bu e l=(jT e l).map .lit
 | []=>rfl
 | a::l=>by
  have:bu e (a::l)=e.cells a++bu e l:=by simp [bu]
  rw [this,z_ l,h.cells];simp [jT]
theorem wF [h:kp e] (l:List α):(jT e l).length=l.length * e.z:=by
 have:=np e l;rw [z_,List.length_map] at this;exact this
theorem Em [h:kp e] {l:List α}:∀ v∈jT e l,v.oneCell'=true:=by
 intro v hv;obtain ⟨a,_,hv⟩:=List.mem_flatMap.1 hv;exact h.one a v hv
theorem Nc [h:kp e]:∀ (l:List α) (i j:Nat) (a:α),l[i]?=some a->j<e.z->(jT e l)[i * e.z+j]?=(h.k4 a)[j]?
 | [],i,j,a,aQ,_=>by simp at aQ
 | b::l,0,j,a,aQ,ag=>by
  simp only [List.getElem?_cons_zero,Option.some.injEq] at aQ;subst aQ;simp only [jT,List.flatMap_cons,Nat.zero_mul,Nat.zero_add];rw [List.getElem?_append_left (by rw [kp.len]; exact ag)]
 | b::l,i+1,j,a,aQ,ag=>by
  simp only [List.getElem?_cons_succ] at aQ;have:=Nc l i j a aQ ag;simp only [jT,List.flatMap_cons] at this ⊢;rw [List.getElem?_append_right (by rw [kp.len,Nat.add_mul]; omega),kp.len,<- this];congr 1;rw [Nat.add_mul]; omega
theorem HL {β:Type} [Inhabited β] [h:kp e] (f:β->α) (d:Array β):(flatK (λx=>h.k4 (f x)) e.z d).toList=jT e (d.toList.map f):=by
 apply List.ext_getElem?;intro t;by_cases au:t<d.size * e.z
 ·have aT:0<e.z:=by
   rcases Nat.eq_zero_or_pos e.z with aI | aI
   ·rw [aI] at au; omega
   ·exact aI
  have h1:t / e.z<d.size:=Nat.div_lt_of_lt_mul (by rw [Nat.mul_comm]; exact au);have af:t % e.z<e.z:=Nat.mod_lt _ aT;have aQ:(d.toList.map f)[t / e.z]?=some (f d[t / e.z]!):=by
   rw [List.getElem?_map,Array.getElem?_toList,Array.getElem?_eq_getElem h1,getElem!_pos d _ h1]; rfl
  have:=Nc (e:=e) _ (t / e.z) (t % e.z) _ aQ af;rw [Nat.mul_comm,Nat.div_add_mod] at this;rw [this,Array.getElem?_toList,Array.getElem?_eq_getElem (by simpa using au),<- getElem!_pos (flatK (λx=>h.k4 (f x)) e.z d) t (by simpa using au),get_flatK _ _ _ _ au];have aF:t % e.z<(h.k4 (f d[t / e.z]!)).length:=by rw [kp.len]; exact af
  rw [getElem!_pos (h.k4 (f d[t / e.z]!)) (t % e.z) aF,List.getElem?_eq_getElem aF]
 ·rw [List.getElem?_eq_none (by simp; omega),List.getElem?_eq_none (by rw [wF,List.length_map,Array.length_toList]; omega)]
theorem Qx [ji:kp e] {vs:List Value}{v0 v1:Value}(vc:vs=[v0,v1]) {I:a7}{Fs:Nat->a7}{g:aH}(a_:cG w I vs.toArray g Fs) {w':World}{t:TypeId}{r:List α}(aM:w'.ownsRow 0 t e.z v0 r.length (jT e r)) (aE:∀ c,Fs 0 c↔v0.ownBlock=some c) (fC:Fr w w' λc=>Fs 0 c) :
  ∃ v I' b5,Ending.returned (.tuple #[])=.returned v/\cG w' I' (vs++[v]).toArray (h4 [some (ar e r),none] (.bI [])) b5/\kM w I (λc=>∃ t,Fs t c) w' I' (λc=>∃ t,b5 t c):=by
 subst vc;refine ⟨_,I,λt=>if t=0 then Fs 0 else cd,rfl,⟨λt x J=>?_,λt au c aa=>?_,λt t' c aa dW=>?_,λt c aa=>?_,λc aa=>Nat.lt_of_lt_of_le (a_.lt c aa) fC.size,λt t' z p n m new bM ck bn cO h1 af=>?_,cw.keep a_.g_ (λc aa=>fC.block c (a_.lt c aa) λh=>a_.bf 0 c h aa) λ_ h=>h⟩,⟨?_,λc h=>h,λc h=>.inl h,λc aa=>?_⟩⟩
 ·unfold h4 at J
  split at J
  ·rename_i au;have au:t=2:=au;subst au;cases J;exact ⟨.tuple #[],rfl,.tree (.bI (Fs:=λ_=>cd) rfl (λk x u h=>by simp at h) (λj k c h=>by simp at h) (λc=>⟨λh=>h.elim,λ⟨k,h,_⟩=>by simp at h⟩))⟩
  ·match t,J with
   | 0,J =>
    cases J;refine ⟨v0,rfl,.tree ?_⟩;show R w' I _ (.own e.z r.length (bu e r)) v0 (Fs 0);rw [z_];refine .own (Fs:=λ_=>cd) aM (by simp) (λk u hu=>Em u (List.mem_of_getElem? hu)) (λk x u J hu=>?_) (λ_ _ _ _ _ h=>h.elim) (λ_ _ _ h=>h.elim) (λc=>⟨λh=>.inl ((aE c).1 h),λh=>?_⟩)
    ·rw [List.getElem?_map,hu] at J;cases J;exact .lit (Em u (List.mem_of_getElem? hu)) λ_ h=>h
    ·rcases h with h | ⟨_,_,h⟩
     ·exact (aE c).2 h
     ·exact h.elim
   | 1,J=>cases J
   | t+2,J=>cases J
 ·have aI:¬ t=0:=λe=>by subst e; exact absurd au (by simp [h4])
  simp only [if_neg aI] at aa;exact aa
 ·have key:∀ {t:Nat},(if t=0 then Fs 0 else cd) c->t=0:=λ{t} h=>by
   by_cases aI:t=0
   ·exact aI
   ·rw [if_neg aI] at h; exact h.elim
  rw [key aa,key dW]
 ·by_cases aI:t=0
  ·simp only [if_pos aI] at aa; exact a_.bf 0 c aa
  ·simp only [if_neg aI] at aa; exact aa.elim
 ·unfold h4 at h1
  split at h1
  ·cases h1
  ·match t,h1 with
   | 0,h1=>cases h1
   | 1,h1=>cases h1
   | t+2,h1=>cases h1
 ·exact fC.mono λb _ ao=>⟨0,ao⟩
 ·obtain ⟨t,au⟩:=aa;by_cases aI:t=0
  ·simp only [if_pos aI] at au; exact .inl ⟨0,au⟩
  ·simp only [if_neg aI] at au; exact au.elim
theorem bO.ZV [DecidableEq α] [l2:kp e] {ρ:Ren}(L:SlLaysF0.n6 P ρ) (RG:∀ w,(isAgg (ρ.t 24)).run P w=.ok true w) (aaV:∀ w,(Go.sizeOf (ρ.t 24)).run P w=.ok e.z w) {g:FuncId}{caps:List ab} [V5:dp caps] (aL:gU P g=true) {l r:List α}{hh:α->α->Option Int}(h:vL hh l=some r)
  (aa:∀ a b v,hh a b=some v->bO P g (.agg (e.cells a)::.agg (e.cells b)::caps) (none::none::caps.map λ_=>none) (ae v)) :
  bO P (ρ.f 6) [ar e l,.dc (.func g) [] caps] [some (ar e r),none] (.bI []):=by
 refine ⟨rfl,λw I vs Fs ah a_=>?_⟩;obtain ⟨v0,v1,rfl⟩:∃ v0 v1,vs=[v0,v1]:=by
  match vs,ah with
  | [a,b],_=>exact ⟨a,b,rfl⟩
 obtain ⟨w7,kV,Oh,rfl⟩:=ZU h;obtain ⟨u,hu,aU⟩:=a_.rel 0 (ar e l) rfl;obtain rfl:v0=u:=by simpa using hu
 replace aU:=aU.fW (by simp);obtain ⟨u,hu,rq⟩:=a_.rel 1 (.dc (.func g) [] caps) rfl;obtain rfl:v1=u:=by simpa using hu
 replace rq:=rq.fW (by simp);rw [show ar e l=.own e.z l.length (bu e l) from rfl,z_] at aU
 cases aU with
 | ref J=>simp [ab.isRef] at J
 | @own _ _ _ _ t us bH _ aM wY fw ak aP ao aE =>
 cases rq with
 | ref J=>simp [ab.isRef] at J
 | @dc _ _ _ ax pB _ Et h1 af iR hr =>
 obtain rfl:ax=#[]:=Array.eq_empty_of_size_eq_zero (by simpa using h1.symm);have mW:∀ c,Fs 0 c↔v0.ownBlock=some c:=by
  intro c;refine ⟨λaa=>?_,λaa=>(aE c).2 (.inl aa)⟩;rcases (aE c).1 aa with h | ⟨k,hk,h⟩
  ·exact h
  ·have J:=List.getElem?_eq_getElem hk;have hu:=List.getElem?_eq_getElem (wY ▸ hk);have aU:=ak k _ _ J hu;rw [List.getElem_map] at aU;generalize us[k]=gj at aU;cases aU with
   | lit _ aV=>exact (aV c h).elim
   | ref J=>simp [ab.isRef] at J
 have iu:us=jT e l:=by
  apply List.ext_getElem?;intro k;by_cases hk:k<us.length
  ·have hS:k<((jT e l).map ab.lit).length:=wY.symm ▸ hk;have J:=List.getElem?_eq_getElem hS;have hu:=List.getElem?_eq_getElem hk;have aU:=ak k _ _ J hu;rw [List.getElem_map] at aU;rw [hu,aU.gW.1,List.getElem?_eq_getElem (by simpa using hS)]
  ·rw [List.getElem?_eq_none (by omega),List.getElem?_eq_none (by rw [List.length_map] at wY; omega)]
 subst iu;have WQ:=zn (nP hh) l;have hlen:=WQ.length_eq;by_cases wZ:l=[]
 ·subst wZ;have ir:∃ p cap,v0=.slice p 0 cap:=by
   rcases aM.2 with ⟨rfl,_⟩ | ⟨b,cap,cur,rfl,_⟩
   ·exact ⟨_,_,rfl⟩
   ·exact ⟨_,_,rfl⟩
  obtain ⟨p,cap,rfl⟩:=ir;refine (AnyF.slices_SortFunc_none L p cap _ w).mono ?_;rintro b0 w' ⟨rfl,rfl⟩;exact Qx rfl a_ (t:=t) (r:=[]) aM mW (Fr.refl _ _)
 ·obtain ⟨N4,IC⟩:=aM;rcases IC with ⟨rfl,aI⟩ | ⟨b,cap,cur,rfl,_,tF,hle,I4,dO,hJ⟩
  ·exact absurd (List.eq_nil_of_length_eq_zero aI) wZ
  have tB:Fs 0 b:=(mW b).2 rfl;have yZ:b<w.heap.size:=(Array.getElem?_eq_some_iff.1 tF).1;obtain ⟨a0,qC⟩:=List.exists_mem_of_ne_nil l wZ
  let β:={ x:α // x∈l }
  haveI:Inhabited β:=⟨⟨a0,qC⟩⟩
  let enc:β->List Value:=λx=>l2.k4 x.1
  let rl:β->β->Int:=λx y=>(hh x.1 y.1).getD 0;have aK:∀ x y:β,ltOf rl x y=nP hh x.1 y.1:=λx y=>rfl
  let d:Array β:=l.attach.toArray;have IF:d.toList.map Subtype.val=l:=by
   show (l.attach.toArray).toList.map Subtype.val=l;simp
  have sq:d.size=l.length:=by show (l.attach.toArray).size=l.length; rw [List.size_toArray,List.length_attach]
  have kb:=YM kV;have hO:SWO (ltOf rl):=by
   refine ⟨λx=>by rw [aK]; exact (kb x.1 x.2).1,λx y z=>?_,λx y z=>?_⟩
   ·rw [aK,aK,aK];exact λp q=>(((kb x.1 x.2).2 y.1 y.2).2 z.1 z.2).1 ⟨p,q⟩
   ·rw [aK,aK,aK];intro p q;rcases (((kb x.1 x.2).2 y.1 y.2).2 z.1 z.2).2 with h | h | h
    ·rw [p] at h; cases h
    ·rw [q] at h; cases h
    ·exact h
  have c0:∀ x y:β,ltOf rl x y=false->ltOf rl y x=false->x=y:=by
   intro x y p q;rw [aK] at p q;rcases ((kb x.1 x.2).2 y.1 y.2).1 with h | h | h
   ·rw [p] at h; cases h
   ·rw [q] at h; cases h
   ·exact Subtype.ext h
  have pN:(flatK enc e.z d).toList=jT e l:=by
   have:=HL (e:=e) (λx:β=>x.1) d;rw [IF] at this;exact this
  have hH:HoldsK enc e.z w b 0 d:=by
   intro j ag;have tG:j<(jT e l).length:=by rw [<- pN,Array.length_toList]; exact ag
   refine ⟨?_,?_⟩
   ·unfold World.cell?;simp only [tF,Nat.zero_add];show cur[j]?=_;have h1:=congrArg (λt=>t[j]?) hJ;have pP:j<l.length * e.z:=by rw [<- wF (e:=e)]; exact tG
    simp only [List.getElem?_take,if_pos pP,Array.getElem?_toList] at h1;rw [h1,<- pN,Array.getElem?_toList,Array.getElem?_eq_getElem ag,getElem!_pos (flatK enc e.z d) j ag];rfl
   ·unfold World.frozen?;simp only [tF];simp
  have TX:∀ args w,(callFunc g args).run P w=.ok (.enter g args) w:=λargs w=>AX aL args;have NH:∀ (W:World) (I:a7) (ρ':ab->Value->Prop) (a:α),R W I ρ' (.agg (e.cells a)) (.agg (l2.k4 a).toArray) λ_=>False:=by
   intro W I ρ' a;rw [l2.cells];refine .agg (Fs:=λ_=>cd) (by simp) (λk u hu=>l2.one a u ?_) (λk x u J hu=>?_) (λ_ _ _ _ _ h=>h.elim) (λc=>⟨λh=>h.elim,λ⟨_,_,h⟩=>h.elim⟩)
   ·rw [List.getElem?_toArray] at hu; exact List.mem_of_getElem? hu
   ·rw [List.getElem?_toArray] at hu;rw [List.getElem?_map,hu] at J;cases J;exact .lit (l2.one a u (List.mem_of_getElem? hu)) λ_ h=>h
  have V2:CmpLays P g pB enc e.z rl b 0 d.size w:=by
   intro m os iM Bv x y;have rE:=w7 x.1 x.2 y.1 y.2;obtain ⟨v,hv⟩:=Option.isSome_iff_exists.1 rE;have V0:rl x y=v:=by show (hh x.1 y.1).getD 0=v; rw [hv]; rfl
   show Calls P g _ (sortWorld id w b 0 m (flatK enc e.z iM) os) λb0 w'=>_/\∃ q YO,w'=grow ((sortWorld id w b 0 m (flatK enc e.z iM) os).drewN q) YO;have Vs:cG (sortWorld id w b 0 m (flatK enc e.z iM) os) I #[] (λ_=>none) (λ_=>cd):=by
    refine ⟨λ_ _ h=>(by cases h),λ_ _ _ h=>h,λ_ _ _ h=>h.elim,λ_ _ h=>h.elim,λc aa=>?_,λ_ _ _ _ _ _ _ _ _ _ _ h=>(by cases h),cw.keep a_.g_ (λc aa=>(HN (U:=λc=>Fs 0 c) tB).block c (a_.lt c aa) λh=>a_.bf 0 c h aa) λ_ h=>h⟩;have:=a_.lt c aa;unfold sortWorld;rw [size_grow,Go.Sort.size_putRow];exact Nat.lt_of_lt_of_le this (Nat.le_add_right _ _)
   have nH:=Vs.args (I':=I) (λ_ h=>h) (λc h=>.inl h) (args:=.agg (e.cells x.1)::.agg (e.cells y.1)::caps) (vs:=.agg (enc x).toArray::.agg (enc y).toArray::pB.toList) (by simp [af]) (λρ' k z u aT hu=>?_)
   ·have n9:=(aa x.1 y.1 v hv).2 _ I (.agg (enc x).toArray::.agg (enc y).toArray::pB.toList) _ (by simp [af]) nH;have ku:(.agg (enc x).toArray::.agg (enc y).toArray::pB.toList).toArray=#[.agg (enc x).toArray,.agg (enc y).toArray]++pB:=by
     apply Array.ext';simp
    rw [ku] at n9;refine n9.mono ?_;rintro b0 w' ⟨dB,I',b5,rfl,eL,bQ⟩;obtain ⟨u,hu,mn⟩:=eL.rel (caps.length+2) (ae v) (by simp [h4]);have Xh:u=dB:=by
     have:(Value.agg (enc x).toArray::.agg (enc y).toArray::pB.toList).length=caps.length+2:=by simp [af]
     rw [List.getElem?_toArray,<- this] at hu;simpa using hu.symm
    subst Xh;have oS:=(mn.fW (by simp)).gW.1;subst oS;refine ⟨by rw [V0],?_⟩;exact Um (bQ.eh.mono λc _ ⟨_,br⟩=>br)
   ·match k,aT,hu with
    | 0,aT,hu=>cases aT; cases hu; exact NH _ _ _ x.1
    | 1,aT,hu=>cases aT; cases hu; exact NH _ _ _ y.1
    | k+2,aT,hu =>
     simp only [List.getElem?_cons_succ] at aT hu;have Ey:=(hr k z u aT (by simpa using hu)).bh (ρ':=ρ') (V5.bh z (List.mem_of_getElem? aT));refine Ey.frame (λc aa=>?_) (λ_ h=>h) (λ_ _ h=>h) (λc h=>h.elim);exact NU (a_.lt c aa) λe=>a_.bf 0 c (e ▸ tB) aa
  have BI:=AnyQ.slices_SortFunc_total L e.z RG aaV enc (λx=>kp.len x.1) (λx v hv=>l2.one x.1 v hv) rl hO g pB b 0 cap d w TX V2 hH yZ (by rw [sq]; exact Oh) c0;rw [sq] at BI;refine BI.mono ?_;rintro b0 w' ⟨rfl,n,os,rfl⟩;have od:(d.toList.mergeSort λx y=>!ltOf rl y x).map Subtype.val=jX (nP hh) l:=by
   rw [X5 hO c0];have hm:(jX (ltOf rl) l.attach).map Subtype.val=jX (nP hh) (l.attach.map Subtype.val):=OO (lt:=ltOf rl) (lt':=nP hh) (f:=Subtype.val) (λa b=>aK a b) l.attach;rw [List.attach_map_subtype_val] at hm;exact hm
  generalize I3:(d.toList.mergeSort λx y=>!ltOf rl y x)=ms at od;have WB:ms.length=l.length:=by rw [<- hlen,<- od,List.length_map]
  have Wh:(flatK enc e.z ms.toArray).toList=jT e (jX (nP hh) l):=by
   have:=HL (e:=e) (λx:β=>x.1) ms.toArray;rw [show (ms.toArray).toList.map (λx:β=>x.1)=jX (nP hh) l from od] at this
   exact this
  have Bz:(flatK enc e.z ms.toArray).size=l.length * e.z:=by rw [size_flatK,List.size_toArray,WB]
  refine Qx rfl a_ (t:=t) (r:=jX (nP hh) l) ⟨wF _,.inr ⟨b,cap,_,by rw [hlen],Nat.zero_le _,NT (enc:=id) tF,by omega,I4,?_,?_⟩⟩ mW (HN (enc:=id) tB)
  ·rw [<- dO];simp [putCells]
  ·rw [hlen,<- Bz,PR (by rw [Bz,dO]; exact Nat.mul_le_mul_right _ hle),List.map_id,Wh]
end
end Go.Own
namespace Go.Own
open Go
set_option linter.unusedSectionVars false
variable [cw]
section
variable {α:Type}{P:Program}{N:cQ}{g:aH}{d r:Nat}
theorem fy.tk {o:Oper}{x:Operand}{fT:Array TypeId}{f:FuncId}{res:ab}{en:bK α}{L:List α}{G2:List (Nat × ab)}(aM:o.op=.call { callee:=.value (.func f),args:=#[x],argTypes:=fT }) (aP:o.dst=some d) (J:Own.hz g [x]=some [.bo en.z ⟨r,[]⟩ L.length])
  (av:g r=some (ar en L)) (gH:bO P f [ar en L] [none] res) (aV:gU P f=true) [ak:b6 res]
  (c':Trim false (cp g ⟨r,[]⟩ .dead) (get G2) G2) (aL:get G2 d=none) (bc:N.ok d=true) :
  fy P N g o d (get ((d,res)::G2)):=by
 have mr:∀ x∈bu en L,cK x:=by
  intro x J;obtain ⟨a,_,aQ⟩:=List.mem_flatMap.1 J;exact en.bh a x aQ
 have hJ:(bu en L).take (L.length * en.z)=bu en L:=List.take_of_length_le (by rw [np]; exact Nat.le_refl _);have tT:hn (cp g ⟨r,[]⟩ .dead) (get G2):=by
  refine ⟨λt x h=>?_,λt x h=>(c'.spec t x h).2.1,λt z q n m new h=>(c'.spec t _ h).2.2 _ _ _ _ _ rfl⟩;obtain ⟨⟨y,h1,_,aF⟩,_⟩:=c'.spec t x h;rw [<- aF rfl]; exact h1
 have tU:hn (get G2) (get G2):=⟨λt x h=>h,λt x h=>(c'.spec t x h).2.1,λt z q n m new h=>(c'.spec t _ h).2.2 _ _ _ _ _ rfl⟩;have pC:get ((d,res)::G2)=cR (get G2) d res:=by
  funext t;rw [rn]
 rw [pC];refine yk.ok (first:=[]) (caps:=[]) (ys:=[.bo en.z ⟨r,[]⟩ L.length]) (tk:=λk=>k == 0) (vw:=false) (outs:=[none]) (g1:=cp g ⟨r,[]⟩ .dead) (g2:=get G2) (g4:=get G2) (l:=[]) (ks:=λ_=>0) (xs0:=[.bo en.z ⟨r,[]⟩ L.length]) (xs1:=[ar en L]) (args:=[ar en L]) (res:=res) aM aP rfl J
  ⟨aV,by simp,by simp,λk x h=>.inl h,?_,tT,λk x y J ai=>?_,gH,by simpa using ak.bh,λk x h=>?_,λj p x ag=>by simp at ag,by simp,λi j hi ag _=>by simp at hi,tU⟩ aL bc uu.refl
 ·have h1:Take (cp g ⟨r,[]⟩ .dead) ((bu en L).take (L.length * en.z)) (bu en L) (cp g ⟨r,[]⟩ .dead):=by rw [hJ]; exact .bh mr
  exact .bo (N:=L.length) (by simp [bB,av,ab.at]) (Nat.le_refl _) h1 (.bh λx J=>by simp at J)
 ·cases k with
  | zero=>simpa using ai
  | succ k=>simp at ai
 ·cases k with
  | zero=>simp at h
  | succ k=>simp at h
end
end Go.Own
namespace Go.Own
open Go Go.Proofs Go.Shelf Go.Lib Go.Sort
set_option linter.unusedSectionVars false
variable [cw]
section
variable {α:Type} [DecidableEq α]
def oK:Option α->List α->List α
 | _,[]=>[]
 | p,a::l=>if p=some a then oK (some a) l else a::oK (some a) l
def dedup (l:List α):List α:=oK none l
def yO (l:List α):Option (List α):=if l.length<4611686018427387904 then some (dedup l) else none
theorem S5 [Inhabited α] (hM:List α):compactUpTo hM.toArray hM.toArray.size=dedup hM:=by
 have key:∀ k,k<=hM.length->compactUpTo hM.toArray k++oK (if k=0 then none else hM[k - 1]?) (hM.drop k)=oK none hM:=by
  intro k
  induction k with
  | zero=>intro _; simp [compactUpTo]
  | succ k aJ =>
   intro hk;rw [<- aJ (by omega),compactUpTo_succ];have aK:k<hM.length:=by omega
   rw [<- List.getElem_cons_drop aK,oK,List.append_assoc];congr 1;have bP:hM.toArray[k]! = hM[k]:=by rw [getElem!_pos hM.toArray k (by simpa using aK)]; simp
   have sx:(if k+1=0 then none else hM[k+1 - 1]?)=some hM[k]:=by simp [aK]
   have hk:keeps hM.toArray k=true↔(if k=0 then none else hM[k - 1]?)≠some hM[k]:=by
    unfold keeps;rw [decide_eq_true_eq,bP];by_cases aI:k=0
    ·simp [aI]
    ·have aw:k - 1<hM.length:=by omega
     have cu:hM.toArray[k - 1]! = hM[k - 1]:=by rw [getElem!_pos hM.toArray (k - 1) (by simpa using aw)]; simp
     rw [if_neg aI,cu,List.getElem?_eq_getElem aw];constructor
     ·rintro (h | h) e
      ·exact aI h
      ·exact h (Option.some.inj e).symm
     ·exact λh=>.inr λe=>h (by rw [e])
   rw [sx,bP];by_cases h:(if k=0 then none else hM[k - 1]?)=some hM[k]
   ·rw [if_neg (λbr=>(hk.1 br) h),if_pos h]; rfl
   ·rw [if_pos (hk.2 h),if_neg h]; rfl
 have:=key hM.length (Nat.le_refl _);rw [List.drop_length] at this;simp only [oK,List.append_nil] at this;show compactUpTo _ _=oK none hM;rw [<- this];simp
theorem MO:∀ (l:List α) (p:Option α),(oK p l).length<=l.length
 | [],_=>Nat.le_refl _
 | a::l,p=>by
  unfold oK;have:=MO l (some a);split
  ·simp; omega
  ·simp; omega
end
section
variable {α:Type}{e:bK α}{P:Program}{w:World}
theorem ME [ji:kp e] {v0:Value}{I:a7}{Fs:Nat->a7}{g:aH}(a_:cG w I [v0].toArray g Fs) {w':World}{t:TypeId}{v:Value}{r:List α}(aM:w'.ownsRow 0 t e.z v r.length (jT e r)) (aE:∀ c,Fs 0 c↔v.ownBlock=some c) (fC:Fr w w' λc=>Fs 0 c) :
  ∃ dB I' b5,Ending.returned v=.returned dB/\cG w' I' ([v0]++[dB]).toArray (h4 [none] (ar e r)) b5/\kM w I (λc=>∃ t,Fs t c) w' I' (λc=>∃ t,b5 t c):=by
 refine ⟨v,I,λt=>if t=1 then Fs 0 else cd,rfl,⟨λt x J=>?_,λt au c aa=>?_,λt t' c aa dW=>?_,λt c aa=>?_,λc aa=>Nat.lt_of_lt_of_le (a_.lt c aa) fC.size,λt t' z p n m new bM ck bn cO h1 af=>?_,cw.keep a_.g_ (λc aa=>fC.block c (a_.lt c aa) λh=>a_.bf 0 c h aa) λ_ h=>h⟩,⟨?_,λc h=>h,λc h=>.inl h,λc aa=>?_⟩⟩
 ·unfold h4 at J
  split at J
  ·rename_i au;have au:t=1:=au;subst au;cases J;refine ⟨v,rfl,.tree ?_⟩;show R w' I _ (.own e.z r.length (bu e r)) v (Fs 0);rw [z_];refine .own (Fs:=λ_=>cd) aM (by simp) (λk u hu=>Em u (List.mem_of_getElem? hu)) (λk x u J hu=>?_) (λ_ _ _ _ _ h=>h.elim) (λ_ _ _ h=>h.elim) (λc=>⟨λh=>.inl ((aE c).1 h),λh=>?_⟩)
   ·rw [List.getElem?_map,hu] at J;cases J;exact .lit (Em u (List.mem_of_getElem? hu)) λ_ h=>h
   ·rcases h with h | ⟨_,_,h⟩
    ·exact (aE c).2 h
    ·exact h.elim
  ·match t,J with
   | 0,J=>cases J
   | t+1,J=>cases J
 ·have aI:¬ t=1:=λe=>by subst e; exact absurd au (by simp [h4])
  simp only [if_neg aI] at aa;exact aa
 ·have key:∀ {t:Nat},(if t=1 then Fs 0 else cd) c->t=1:=λ{t} h=>by
   by_cases aI:t=1
   ·exact aI
   ·rw [if_neg aI] at h; exact h.elim
  rw [key aa,key dW]
 ·by_cases aI:t=1
  ·simp only [if_pos aI] at aa; exact a_.bf 0 c aa
  ·simp only [if_neg aI] at aa; exact aa.elim
 ·unfold h4 at h1
  split at h1
  ·cases h1
  ·match t,h1 with
   | 0,h1=>cases h1
   | t+1,h1=>cases h1
 ·exact fC.mono λb _ ao=>⟨0,ao⟩
 ·obtain ⟨t,au⟩:=aa;by_cases aI:t=1
  ·simp only [if_pos aI] at au; exact .inl ⟨0,au⟩
  ·simp only [if_neg aI] at au; exact au.elim
variable [DecidableEq α] [Inhabited α]
theorem bO.S3 [l2:kp e] {f:FuncId}
  (aa:∀ (w:World) (b cap:Nat) (d:Array α),0<d.size->HoldsK l2.k4 e.z w b 0 d->b<w.heap.size->d.size<=cap->d.size<4611686018427387904 ->
   Calls P f #[.slice (some ⟨b,0,none⟩) d.size cap] w λb0 w'=>b0=.returned (.slice (some ⟨b,0,none⟩) (compactUpTo d d.size).length cap)/\∃ q,w'=putRowK l2.k4 e.z (Sort.ahead w q) b 0 (compactUpTo d d.size++List.replicate (d.size - (compactUpTo d d.size).length) default).toArray)
  (aA:∀ (w:World) (p:Option Addr) (cap:Nat),Calls P f #[.slice p 0 cap] w λb0 w'=>b0=.returned (.slice p 0 cap)/\w'=w) {l r:List α}(h:yO l=some r) :
  bO P f [ar e l] [none] (ar e r):=by
 obtain ⟨EB,rfl⟩:l.length<4611686018427387904/\r=dedup l:=by
  unfold yO at h
  split at h
  ·rename_i br; exact ⟨br,(Option.some.inj h).symm⟩
  ·cases h
 refine ⟨rfl,λw I vs Fs ah a_=>?_⟩;obtain ⟨v0,rfl⟩:∃ v0,vs=[v0]:=by
  match vs,ah with
  | [a],_=>exact ⟨a,rfl⟩
 obtain ⟨u,hu,aU⟩:=a_.rel 0 (ar e l) rfl;obtain rfl:v0=u:=by simpa using hu
 replace aU:=aU.fW (by simp);rw [show ar e l=.own e.z l.length (bu e l) from rfl,z_] at aU
 cases aU with
 | ref J=>simp [ab.isRef] at J
 | @own _ _ _ _ t us bH _ aM wY fw ak aP ao aE =>
 have mW:∀ c,Fs 0 c↔v0.ownBlock=some c:=by
  intro c;refine ⟨λaa=>?_,λaa=>(aE c).2 (.inl aa)⟩;rcases (aE c).1 aa with h | ⟨k,hk,h⟩
  ·exact h
  ·have J:=List.getElem?_eq_getElem hk;have hu:=List.getElem?_eq_getElem (wY ▸ hk);have aU:=ak k _ _ J hu;rw [List.getElem_map] at aU;generalize us[k]=gj at aU;cases aU with
   | lit _ aV=>exact (aV c h).elim
   | ref J=>simp [ab.isRef] at J
 have iu:us=jT e l:=by
  apply List.ext_getElem?;intro k;by_cases hk:k<us.length
  ·have hS:k<((jT e l).map ab.lit).length:=wY.symm ▸ hk;have J:=List.getElem?_eq_getElem hS;have hu:=List.getElem?_eq_getElem hk;have aU:=ak k _ _ J hu;rw [List.getElem_map] at aU;rw [hu,aU.gW.1,List.getElem?_eq_getElem (by simpa using hS)]
  ·rw [List.getElem?_eq_none (by omega),List.getElem?_eq_none (by rw [List.length_map] at wY; omega)]
 subst iu;by_cases wZ:l=[]
 ·subst wZ;have ir:∃ p cap,v0=.slice p 0 cap:=by
   rcases aM.2 with ⟨rfl,_⟩ | ⟨b,cap,cur,rfl,_⟩
   ·exact ⟨_,_,rfl⟩
   ·exact ⟨_,_,rfl⟩
  obtain ⟨p,cap,rfl⟩:=ir;refine (aA w p cap).mono ?_;rintro b0 w' ⟨rfl,rfl⟩;exact ME a_ (t:=t) (r:=dedup []) aM mW (Fr.refl _ _)
 ·obtain ⟨N4,IC⟩:=aM;rcases IC with ⟨rfl,aI⟩ | ⟨b,cap,cur,rfl,_,tF,hle,I4,dO,hJ⟩
  ·exact absurd (List.eq_nil_of_length_eq_zero aI) wZ
  have tB:Fs 0 b:=(mW b).2 rfl;have yZ:b<w.heap.size:=(Array.getElem?_eq_some_iff.1 tF).1;have sq:l.toArray.size=l.length:=by simp
  have oU:0<l.toArray.size:=by rw [sq]; exact List.length_pos_iff.2 wZ
  have flat:∀ d:Array α,(flatK l2.k4 e.z d).toList=jT e d.toList:=λd=>by
   have:=HL (e:=e) (λx:α=>x) d;rw [List.map_id'] at this;exact this
  have pN:(flatK l2.k4 e.z l.toArray).toList=jT e l:=flat _;have hH:HoldsK l2.k4 e.z w b 0 l.toArray:=by
   intro j ag;have tG:j<(jT e l).length:=by rw [<- pN,Array.length_toList]; exact ag
   refine ⟨?_,?_⟩
   ·unfold World.cell?;simp only [tF,Nat.zero_add];show cur[j]?=_;have h1:=congrArg (λt=>t[j]?) hJ;have pP:j<l.length * e.z:=by rw [<- wF (e:=e)]; exact tG
    simp only [List.getElem?_take,if_pos pP,Array.getElem?_toList] at h1;rw [h1,<- pN,Array.getElem?_toList,Array.getElem?_eq_getElem ag,getElem!_pos (flatK l2.k4 e.z l.toArray) j ag];rfl
   ·unfold World.frozen?;simp only [tF];simp
  have BI:=aa w b cap l.toArray oU hH yZ (by rw [sq]; exact hle) (by rw [sq]; exact EB);rw [S5,sq] at BI;refine BI.mono ?_;rintro b0 w' ⟨rfl,q,hw⟩;have IF:(dedup l).length<=l.length:=MO l none;generalize I3:(dedup l++List.replicate (l.length - (dedup l).length) default).toArray=ms at hw;have WC:ms.size=l.length:=by rw [<- I3]; simp; omega
  have Bz:(flatK l2.k4 e.z ms).size=l.length * e.z:=by rw [size_flatK,WC]
  have Xl:w'=sortWorld id w b 0 q (flatK l2.k4 e.z ms) #[]:=by
   rw [hw];unfold putRowK sortWorld;rw [grow_empty]
  subst Xl;have W8:(jT e ms.toList).take ((dedup l).length * e.z)=jT e (dedup l):=by
   rw [<- I3];simp only [jT,List.flatMap_append];rw [List.take_append_of_le_length,List.take_of_length_le]
   ·have:=wF (e:=e) (dedup l); unfold jT at this; omega
   ·have:=wF (e:=e) (dedup l); unfold jT at this; omega
  refine ME a_ (t:=t) (r:=dedup l) ⟨wF _,.inr ⟨b,cap,_,rfl,Nat.zero_le _,NT (enc:=id) tF,by omega,I4,?_,?_⟩⟩ mW (HN (enc:=id) tB)
  ·rw [<- dO];simp [putCells]
  ·have h1:=PR (enc:=id) (d:=flatK l2.k4 e.z ms) (cur:=cur) (by rw [Bz,dO]; exact Nat.mul_le_mul_right _ hle);rw [List.map_id,flat ms] at h1;have af:(dedup l).length * e.z<=(flatK l2.k4 e.z ms).size:=by rw [Bz]; exact Nat.mul_le_mul_right _ IF
   rw [<- W8,<- h1,List.take_take,Nat.min_eq_left af]
end
end Go.Own
namespace Go.Proofs
open Go.Shelf Go.RowKit Go.Lib Go.Sort
set_option linter.unusedSectionVars false
variable {α:Type} [Inhabited α] [DecidableEq α]
omit [DecidableEq α] in
theorem ZK (enc:α->List Value) (d:Array α) (k:Nat) (xs:List α) (h:k+xs.length<=d.size):setMany (flatK enc 2 d) (k * 2) (flatK enc 2 xs.toArray).toList=flatK enc 2 (lay d k xs):=by
 have EL:(lay d k xs).size=d.size:=by
  have:∀ (xs:List α) (d:Array α) (k:Nat),(lay d k xs).size=d.size:=by
   intro xs
   induction xs with
   | nil=>intro d k; rfl
   | cons x xs aJ=>intro d k; rw [lay,aJ]; simp
  exact this xs d k
 refine ext_get! (by simp [EL]) λt au=>?_;rw [size_setMany,size_flatK] at au;have tK:(flatK enc 2 xs.toArray).toList.length=xs.length * 2:=by simp
 rw [get_setMany _ _ _ t (by rw [size_flatK]; exact au),tK,get_flatK enc 2 (lay d k xs) t (by rw [EL]; exact au),get_flatK enc 2 d t au];have h1:t / 2<d.size:=by omega
 have aL:=lay_get? xs d k (t / 2) h;have bP:(lay d k xs)[t / 2]! = if k<=t / 2/\t / 2<k+xs.length then xs[t / 2 - k]! else d[t / 2]! := by
  rw [getElem!_pos (lay d k xs) (t / 2) (by omega)];rw [Array.getElem?_eq_getElem (by omega)] at aL;by_cases aa:k<=t / 2/\t / 2<k+xs.length
  ·rw [if_pos aa] at aL ⊢;have J:t / 2 - k<xs.length:=by omega
   rw [List.getElem?_eq_getElem J] at aL;rw [Option.some.inj aL,getElem!_pos xs (t / 2 - k) J]
  ·rw [if_neg aa] at aL ⊢;rw [Array.getElem?_eq_getElem h1] at aL;rw [Option.some.inj aL,getElem!_pos d (t / 2) h1]
 rw [bP];by_cases aa:k * 2<=t/\t<k * 2+xs.length * 2
 ·rw [if_pos aa,if_pos (by omega)];have J:t - k * 2<xs.toArray.size * 2:=by simp; omega
  have cu:(flatK enc 2 xs.toArray).toList[t - k * 2]! = (flatK enc 2 xs.toArray)[t - k * 2]! := by
   rw [getElem!_pos (flatK enc 2 xs.toArray) _ (by simpa using J),getElem!_pos (flatK enc 2 xs.toArray).toList _ (by simpa using J)];simp
  rw [cu,get_flatK _ _ _ _ J,show (t - k * 2) / 2=t / 2 - k by omega,show (t - k * 2) % 2=t % 2 by omega];have gC:t / 2 - k<xs.length:=by omega
  rw [getElem!_pos xs.toArray (t / 2 - k) (by simpa using gC),getElem!_pos xs (t / 2 - k) gC];simp
 ·rw [if_neg aa,if_neg (by omega)]
omit [DecidableEq α] [Inhabited α] in
theorem Yc (d:Array α) (k:Nat) (x:α):lay d k [x]=d.setIfInBounds k x:=rfl
omit [DecidableEq α] in
theorem PS (enc:α->List Value) (w:World) (fG:Nat) (d:Array α) (k:Nat) (xs:List α) (h:k+xs.length<=d.size):(putRowK enc 2 w fG 0 d).setCells fG (k * 2) (flatK enc 2 xs.toArray).toList=putRowK enc 2 w fG 0 (lay d k xs):=by
 unfold putRowK;have:=setCells_putRow w fG 0 (flatK enc 2 xs.toArray).toList (k * 2) (flatK enc 2 d) (by simp; omega);rw [Nat.zero_add] at this;rw [this,ZK enc d k xs h]
omit [DecidableEq α] in
theorem Ue (e0 bP:α->Value) (u:α):(flatK (λx=>[e0 x,bP x]) 2 [u].toArray).toList=[e0 u,bP u]:=by
 unfold flatK;rw [show Array.range ([u].toArray.size * 2)=#[0,1] from rfl]
 simp
theorem aaW (n:Nat) (z:Value):(Builtin.zeroCells #[z,z] n).toList=List.replicate (n * 2) z:=by
 apply List.ext_getElem
 ·simp [Builtin.zeroCells]
 ·intro i h1 af;simp only [Builtin.zeroCells,Array.getElem_toList,Array.getElem_map,Array.getElem_range,List.getElem_replicate];rw [show (#[z,z]:Array Value).size=2 from rfl]
  rcases Nat.mod_two_eq_zero_or_one i with e | e <;> rw [e] <;> rfl
omit [DecidableEq α] in
theorem Nb (enc:α->List Value) (n:Nat) (z:Value) (h:enc default=[z,z]):(flatK enc 2 (List.replicate n (default:α)).toArray).toList=List.replicate (n * 2) z:=by
 apply List.ext_getElem
 ·simp
 ·intro i h1 af;rw [List.length_replicate] at af;have aF:i<((List.replicate n (default:α)).toArray).size * 2:=by simpa using af
  have bk:(flatK enc 2 (List.replicate n (default:α)).toArray)[i]! = z:=by
   rw [get_flatK _ _ _ i aF];have b2:i / 2<n:=by omega
   rw [getElem!_pos ((List.replicate n (default:α)).toArray) (i / 2) (by simpa using b2)];simp only [List.getElem_toArray,List.getElem_replicate,h];rcases Nat.mod_two_eq_zero_or_one i with e | e <;> rw [e] <;> rfl
  rw [getElem!_pos _ i (by simpa using af)] at bk;simpa using bk
theorem Zx (P:Program) (w:World) (t e ty:TypeId) (z:Value) (au:P.underlying t=some (.slice e)) (hv:∀ w,(zeroValue e).run P w=.ok z w) (b o n c:Nat) (vs:List Value) (aT:(Builtin.zeroCells z.cells n).toList=vs) (h1:∀ v∈vs,v.oneCell'=true) (aA:0<n)
  (aa:∀ j,j<vs.length->(w.cell? ⟨b,o+j,none⟩).isSome=true) (aV:∀ j,j<vs.length->w.frozen? ⟨b,o+j,none⟩=false) :
  (Builtin.clear_ #[t] ty #[.slice (some ⟨b,o,none⟩) n c]).run P w=.ok (.tuple #[]) (w.setCells b o vs):=by
 have bQ:=run_storeCells_cells (P:=P) b o vs 0 w (by simpa using aa) (by simpa using aV) h1;simp only [Nat.add_zero] at bQ;obtain ⟨m,rfl⟩:∃ m,n=m+1:=⟨n - 1,by omega⟩;simp [Builtin.clear_,run_underlying au,hv,aT,bQ]
namespace Two
open Go.Own
variable [cw]
variable {P:Program}{t:TypeId}
theorem TY {xs bs:List Value}{sh:List lW}(aQ:xs.map ki=sh.map some) (ao:bs.map ki=sh.map some) (au:n4 P t sh=true) (w:World):(binOp .eql t (.agg xs.toArray) (.agg bs.toArray)).run P w=.ok (.bool (jS xs bs)) w:=by
 simp only [n4,Bool.and_eq_true,Bool.not_eq_true'] at au;obtain ⟨⟨h1,af⟩,aF⟩:=au;have h:=C8 w 100 t sh h1 Op.maxDepth (by decide) xs bs aQ ao
 split at af
 ·rename_i fs hu;simp only [pack,hu] at h;simp [binOp,Op.equal,h]
 ·cases af
theorem Yt {xs bs:List Value}{sh:List lW}(aQ:xs.map ki=sh.map some) (ao:bs.map ki=sh.map some) (au:n4 P t sh=true) (w:World):(binOp .neq t (.agg xs.toArray) (.agg bs.toArray)).run P w=.ok (.bool (!jS xs bs)) w:=by
 simp only [n4,Bool.and_eq_true,Bool.not_eq_true'] at au;obtain ⟨⟨h1,af⟩,aF⟩:=au;have h:=C8 w 100 t sh h1 Op.maxDepth (by decide) xs bs aQ ao
 split at af
 ·rename_i fs hu;simp only [pack,hu] at h;simp [binOp,Op.equal,h]
 ·cases af
theorem Uk {sh:List lW}(au:n4 P t sh=true) (op:BinOp) (a b:Operand) (x y:Array Value) (w:World):(eqGuard op t a b (.agg x) (.agg y)).run P w=.ok () w:=by
 simp only [n4,Bool.and_eq_true,Bool.not_eq_true'] at au;simp [eqGuard,au.2]
omit [Inhabited α] [DecidableEq α] in
theorem one (f:α->Int):OneCell λx=>Value.int .i64 (f x):=λ_=>rfl
end Two
end Go.Proofs
namespace Go.Own
open Go Go.Proofs Go.Shelf Go.Lib Go.Sort
set_option linter.unusedSectionVars false
variable [cw]
def q0 (k:IntKind) (m n:Int):Int:=m.fdiv (2 ^ (min n.toNat k.bits))
theorem O.shr {P:Program}{g:aH}{t t2 ty:TypeId}{a b:Operand}{k ke:IntKind}{m n:Int}(J:Rd g a (.lit (.int k m))) (ai:Rd g b (.lit (.int ke n))) (h:decide (0<=n)=true):ch P g (.binOp .shr t a b t2) ty (.lit (.int k (q0 k m n))):=by
 have aI:¬ n<0:=by have:=of_decide_eq_true h; omega
 exact .eG (.bin J.bp ai.bp rfl λw=>by simp [eqGuard,binOp,Op.shift,aI,q0])
section
variable {α:Type}{e:bK α}{P:Program}{w:World}
end
end Go.Own
namespace Go.Own
open Go
set_option linter.unusedSectionVars false
variable [cw]
section
variable {α:Type}{P:Program}{N:cQ}{g:aH}{d r:Nat}
end
end Go.Own
namespace Go.Own
open Go
set_option linter.unusedSectionVars false
variable [cw]
theorem q {α:Sort _}{a:α}:a=a:=rfl
abbrev bg:ByteArray:=⟨#[]⟩
theorem xB {p:Prop} [Decidable p] (h:decide p=true):p:=of_decide_eq_true h
theorem nu {b:Bool}{g h:aH}{eB s1:Nat}{dR aY:ab}(aI:g eB=some dR) [b6 dR] (h1:g s1=some aY) [b6 aY]:Trim b g h [(eB,dR),(s1,aY)]:=(.n aI (.n h1 .nil))
theorem sU {b:Bool}{g h:aH}{eB s1 s2:Nat}{dR aY x2:ab}(aI:g eB=some dR) [b6 dR] (h1:g s1=some aY) [b6 aY] (af:g s2=some x2) [b6 x2]:Trim b g h [(eB,dR),(s1,aY),(s2,x2)]:=(.n aI (.n h1 (.n af .nil)))
theorem kC {b:Bool}{g h:aH}{eB s1 s2 ee:Nat}{dR aY x2 a6:ab}(aI:g eB=some dR) [b6 dR] (h1:g s1=some aY) [b6 aY] (af:g s2=some x2) [b6 x2] (aF:g ee=some a6) [b6 a6]:Trim b g h [(eB,dR),(s1,aY),(s2,x2),(ee,a6)]:=(.n aI (.n h1 (.n af (.n aF .nil))))
theorem kD {b:Bool}{g h:aH}{eB s1 s2 ee dd:Nat}{dR aY x2 a6 bT:ab}(aI:g eB=some dR) [b6 dR] (h1:g s1=some aY) [b6 aY] (af:g s2=some x2) [b6 x2] (aF:g ee=some a6) [b6 a6] (bk:g dd=some bT) [b6 bT]:Trim b g h [(eB,dR),(s1,aY),(s2,x2),(ee,a6),(dd,bT)]:=(.n aI (.n h1 (.n af (.n aF (.n bk .nil)))))
theorem nv {b:Bool}{g h:aH}{eB s1 s2 ee dd ej:Nat}{dR aY x2 a6 bT cv:ab}(aI:g eB=some dR) [b6 dR] (h1:g s1=some aY) [b6 aY] (af:g s2=some x2) [b6 x2] (aF:g ee=some a6) [b6 a6] (bk:g dd=some bT) [b6 bT] (b2:g ej=some cv) [b6 cv]:Trim b g h [(eB,dR),(s1,aY),(s2,x2),(ee,a6),(dd,bT),(ej,cv)]:=(.n aI (.n h1 (.n af (.n aF (.n bk (.n b2 .nil))))))
theorem Ai {b:Bool}{g h:aH}{eB s1 s2 ee dd ej c5:Nat}{dR aY x2 a6 bT cv bZ:ab}(aI:g eB=some dR) [b6 dR] (h1:g s1=some aY) [b6 aY] (af:g s2=some x2) [b6 x2] (aF:g ee=some a6) [b6 a6] (bk:g dd=some bT) [b6 bT] (b2:g ej=some cv) [b6 cv] (du:g c5=some bZ) [b6 bZ]:Trim b g h [(eB,dR),(s1,aY),(s2,x2),(ee,a6),(dd,bT),(ej,cv),(c5,bZ)]:=(.n aI (.n h1 (.n af (.n aF (.n bk (.n b2 (.n du .nil)))))))
theorem aar {b:Bool}{g h:aH}{eB s1 s2 ee dd ej c5 gZ:Nat}{dR aY x2 a6 bT cv bZ bw:ab}(aI:g eB=some dR) [b6 dR] (h1:g s1=some aY) [b6 aY] (af:g s2=some x2) [b6 x2] (aF:g ee=some a6) [b6 a6] (bk:g dd=some bT) [b6 bT] (b2:g ej=some cv) [b6 cv] (du:g c5=some bZ) [b6 bZ] (jh:g gZ=some bw) [b6 bw]:Trim b g h [(eB,dR),(s1,aY),(s2,x2),(ee,a6),(dd,bT),(ej,cv),(c5,bZ),(gZ,bw)]:=(.n aI (.n h1 (.n af (.n aF (.n bk (.n b2 (.n du (.n jh .nil))))))))
theorem aas {b:Bool}{g h:aH}{eB s1 s2 ee dd ej c5 gZ ct:Nat}{dR aY x2 a6 bT cv bZ bw cq:ab}(aI:g eB=some dR) [b6 dR] (h1:g s1=some aY) [b6 aY] (af:g s2=some x2) [b6 x2] (aF:g ee=some a6) [b6 a6] (bk:g dd=some bT) [b6 bT] (b2:g ej=some cv) [b6 cv] (du:g c5=some bZ) [b6 bZ] (jh:g gZ=some bw) [b6 bw] (pH:g ct=some cq) [b6 cq]:Trim b g h [(eB,dR),(s1,aY),(s2,x2),(ee,a6),(dd,bT),(ej,cv),(c5,bZ),(gZ,bw),(ct,cq)]:=(.n aI (.n h1 (.n af (.n aF (.n bk (.n b2 (.n du (.n jh (.n pH .nil)))))))))
theorem aap {b:Bool}{g h:aH}{eB s1 s2 ee dd ej c5 gZ ct nT:Nat}{dR aY x2 a6 bT cv bZ bw cq cz:ab}(aI:g eB=some dR) [b6 dR] (h1:g s1=some aY) [b6 aY] (af:g s2=some x2) [b6 x2] (aF:g ee=some a6) [b6 a6] (bk:g dd=some bT) [b6 bT] (b2:g ej=some cv) [b6 cv] (du:g c5=some bZ) [b6 bZ] (jh:g gZ=some bw) [b6 bw] (pH:g ct=some cq) [b6 cq] (oP:g nT=some cz) [b6 cz]:Trim b g h [(eB,dR),(s1,aY),(s2,x2),(ee,a6),(dd,bT),(ej,cv),(c5,bZ),(gZ,bw),(ct,cq),(nT,cz)]:=(.n aI (.n h1 (.n af (.n aF (.n bk (.n b2 (.n du (.n jh (.n pH (.n oP .nil))))))))))
theorem aaq {b:Bool}{g h:aH}{eB s1 s2 ee dd ej c5 gZ ct nT cC:Nat}{dR aY x2 a6 bT cv bZ bw cq cz bY:ab}(aI:g eB=some dR) [b6 dR] (h1:g s1=some aY) [b6 aY] (af:g s2=some x2) [b6 x2] (aF:g ee=some a6) [b6 a6] (bk:g dd=some bT) [b6 bT] (b2:g ej=some cv) [b6 cv] (du:g c5=some bZ) [b6 bZ] (jh:g gZ=some bw) [b6 bw] (pH:g ct=some cq) [b6 cq] (oP:g nT=some cz) [b6 cz] (wI:g cC=some bY) [b6 bY]:Trim b g h [(eB,dR),(s1,aY),(s2,x2),(ee,a6),(dd,bT),(ej,cv),(c5,bZ),(gZ,bw),(ct,cq),(nT,cz),(cC,bY)]:=(.n aI (.n h1 (.n af (.n aF (.n bk (.n b2 (.n du (.n jh (.n pH (.n oP (.n wI .nil)))))))))))
section
variable {P:Program}{N:cQ}{ops:Array Oper}{g:aH}{K:aH->Prop}{l:List Oper}{d t:Nat}{ty:TypeId}{pos:String}{after:Array Edge}{v:Value}
theorem iG {G1:List (Nat × ab)}(h:Trim true g (get G1) G1):aD P N ops [] g λg'=>lX g' (get G1):=.fin h
theorem cf (h:g t=some (.lit v)) (hk:aD P N ops l (cR g d (.lit v)) K) (bc:N.ok d=true:=by rfl) (aV:g d=none:=by rfl):aD P N ops (⟨some d,.move (.tmp t),ty,pos,after,none⟩::l) g K:=aj (O.aW (.lit h)) hk bc aV
theorem AK (h:g t=some (.lit v)) (hk:aD P N ops l (cR g d (.lit v)) K) (bc:N.ok d=true:=by rfl) (aV:g d=none:=by rfl):aD P N ops (⟨some d,.assign (.tmp t),ty,pos,after,none⟩::l) g K:=aj (O.dA (.lit h)) hk bc aV
theorem Rz (h:ofConst v=.lit v) (hk:aD P N ops l (cR g d (.lit v)) K) (bc:N.ok d=true:=by rfl) (aV:g d=none:=by rfl):aD P N ops (⟨some d,.assign (.const v),ty,pos,after,none⟩::l) g K:=aj (O.dA (.k h)) hk bc aV
end
end Go.Own
namespace Go.Own
open Go
set_option linter.unusedSectionVars false
variable [cw]
section
variable {α:Type}{g:aH}
end
end Go.Own
namespace Go.Own
open Go
set_option linter.unusedSectionVars false
variable [cw]
section
variable {α:Type}{P:Program}{N:cQ}{g:aH}{d r:Nat}
theorem fy.iC {o:Oper}{xs:List Operand}{fT:Array TypeId}{f:FuncId}{ys:List ab}{res:ab}{en:bK α}{L:List α}{G2:List (Nat × ab)}(aM:o.op=.call { callee:=.value (.func f),args:=xs.toArray,argTypes:=fT }) (aP:o.dst=some d) (J:Own.hz g xs=some (.bo en.z ⟨r,[]⟩ L.length::ys))
  (av:g r=some (ar en L)) (gH:bO P f (ar en L::ys) (none::ys.map λ_=>none) res) (aV:gU P f=true) [ak:b6 res] [aA:dp ys]
  (c':Trim false (cp g ⟨r,[]⟩ .dead) (get G2) G2) (aL:get G2 d=none) (bc:N.ok d=true) :
  fy P N g o d (get ((d,res)::G2)):=by
 have mr:∀ x∈bu en L,cK x:=by
  intro x J;obtain ⟨a,_,aQ⟩:=List.mem_flatMap.1 J;exact en.bh a x aQ
 have hJ:(bu en L).take (L.length * en.z)=bu en L:=List.take_of_length_le (by rw [np]; exact Nat.le_refl _);have tT:hn (cp g ⟨r,[]⟩ .dead) (get G2):=by
  refine ⟨λt x h=>?_,λt x h=>(c'.spec t x h).2.1,λt z q n m new h=>(c'.spec t _ h).2.2 _ _ _ _ _ rfl⟩;obtain ⟨⟨y,h1,_,aF⟩,_⟩:=c'.spec t x h;rw [<- aF rfl]; exact h1
 have tU:hn (get G2) (get G2):=⟨λt x h=>h,λt x h=>(c'.spec t x h).2.1,λt z q n m new h=>(c'.spec t _ h).2.2 _ _ _ _ _ rfl⟩;have pC:get ((d,res)::G2)=cR (get G2) d res:=by
  funext t;rw [rn]
 rw [pC];refine yk.ok (first:=[]) (caps:=[]) (ys:=.bo en.z ⟨r,[]⟩ L.length::ys) (tk:=λ_=>true) (vw:=false) (outs:=none::ys.map λ_=>none) (g1:=cp g ⟨r,[]⟩ .dead) (g2:=get G2) (g4:=get G2) (l:=[]) (ks:=λ_=>0) (xs0:=.bo en.z ⟨r,[]⟩ L.length::ys) (xs1:=ar en L::ys) (args:=ar en L::ys) (res:=res) aM aP rfl (by simpa using J)
  ⟨aV,by simp,by simp,λk x h=>.inl (by simpa using h),?_,tT,λk x y J ai=>by simpa using ai,gH,by simpa using ak.bh,λk x h=>?_,λj p x ag=>by simp at ag,by simp,λi j hi ag _=>by simp at hi,tU⟩ aL bc uu.refl
 ·have h1:Take (cp g ⟨r,[]⟩ .dead) ((bu en L).take (L.length * en.z)) (bu en L) (cp g ⟨r,[]⟩ .dead):=by rw [hJ]; exact .bh mr
  exact .bo (N:=L.length) (by simp [bB,av,ab.at]) (Nat.le_refl _) h1 (.bh aA.bh)
 ·cases k with
  | zero=>simp at h
  | succ k =>
   simp only [List.getElem?_cons_succ,List.getElem?_map] at h;cases aQ:ys[k]? <;> rw [aQ] at h <;> cases h
end
end Go.Own
namespace Go.Own
open Go
set_option linter.unusedSectionVars false
variable [cw]
class wi (x:ab):Prop where pl:pj x
class DP (cs:List ab):Prop where pl:∀ x∈cs,pj x
instance {v:Value}:wi (.lit v):=⟨.lit⟩
instance:wi .bb:=⟨.bb⟩
instance {z n:Nat}{cs:List ab} [h:dp cs]:wi (.bf z n cs):=⟨.bf h.bh⟩
instance {α:Type}{e:bK α}{L:List α}:wi (ay e L):=⟨.bf (dp.bh (cs:=bu e L))⟩
instance {cs:List ab} [h:DP cs]:wi (.agg cs):=⟨.agg h.pl⟩
instance:DP []:=⟨by simp⟩
instance {x:ab}{cs:List ab} [h:wi x] [aR:DP cs]:DP (x::cs):=⟨λy ai=>by
 rcases List.mem_cons.1 ai with rfl | ai
 ·exact h.pl
 ·exact aR.pl y ai⟩
class DN (G:List (Nat × ab)):Prop where bh:∀ t x,get G t=some x->cK x
instance:DN []:=⟨λt x h=>by cases h⟩
instance {s:Nat}{x:ab}{G:List (Nat × ab)} [h:b6 x] [aR:DN G]:DN ((s,x)::G):=⟨λt y ai=>by
 simp only [get] at ai
 split at ai
 ·cases ai; exact h.bh
 ·exact aR.bh t y ai⟩
class yx (acc:Acc):Prop where bh:∀ e∈acc,∀ x,e.2.2=some x->cK x
instance:yx []:=⟨by simp⟩
instance {k d:Nat}{x:ab}{acc:Acc} [h:b6 x] [aR:yx acc]:yx ((k,d,some x)::acc):=⟨λe he y ai=>by
 rcases List.mem_cons.1 he with rfl | he
 ·cases ai; exact h.bh
 ·exact aR.bh e he y ai⟩
instance {k d:Nat}{acc:Acc} [aR:yx acc]:yx ((k,d,none)::acc):=⟨λe he y ai=>by
 rcases List.mem_cons.1 he with rfl | he
 ·cases ai
 ·exact aR.bh e he y ai⟩
theorem SY {G:List (Nat × ab)}{A:Nat->Bool}{acc:Acc} [h:DN G] [aR:yx acc]:GA (dz (get G) A acc):=by
 have key:∀ t x,dz (get G) A acc t=some x->cK x:=λt x J=>by
  rcases uj J with ⟨e,he,_,_,af⟩ | ⟨_,af⟩
  ·exact aR.bh e he x af
  ·exact h.bh t x af
 exact ⟨λt x J=>.bh (key t x J),λt z q n m new J=>by cases key t _ J⟩
end Go.Own
namespace Go.Own
open Go Go.MapKept Go.ChangeMaps
set_option linter.unusedSectionVars false
variable [cw]
section
variable {P:Program}{w:World}{I:a7}{T:Array Value}{g g2:aH}{Fs:Nat->a7}
end
end Go.Own
namespace Go.Own
open Go Go.MapKept Go.ChangeMaps Go.WideElems
set_option linter.unusedSectionVars false
variable [cw]
open Go.Maps (Keyed)
set_option linter.unusedVariables false
variable {kl mc:Type}{P:Program}{k e:TypeId}
abbrev LN:Value->Option (DataW Value × List MemPlace):=λv=>some (.held v,[])
def K5 [DecidableEq kl]:List (kl × mc)->kl->Option mc
 | [],_=>none
 | p::m,x=>if p.1=x then some p.2 else K5 m x
def aei [DecidableEq kl] (ok:kl->Bool) (z:mc) (m:List (kl × mc)) (x:kl):Option mc:=if ok x then some ((K5 m x).getD z) else none
def aej (ok:kl->Bool) (m:List (kl × mc)) (x:kl) (y:mc):Option (List (kl × mc)):=if ok x&&decide (m.length<=lim) then some ((x,y)::m) else none
structure LH (P:Program) (k:TypeId) (kl:Type) where
 sK:kl->Value
 Fa:kl->Lit
 X9:kl->ab
 ok:kl->Bool
 keyed:Keyed P k
 key:∀ x,ok x=true->keyOf P k (sK x)=some (Fa x)
 inj:∀ x y,Fa x=Fa y->x=y
 Sg:∀ (x:kl) (w:World) (I:a7) (ρ:ab->Value->Prop) (v:Value),R w I ρ (X9 x) v cd->v=sK x
structure LI (P:Program) (e:TypeId) (mc:Type) where
 x_:mc->Value
 QM:mc->ab
 z:mc
 zero:∀ w,(zeroValue e).run P w=.ok (x_ z) w
 one:∀ x,(x_ x).oneCell'=true
 Sg:∀ (x:mc) (w:World) (I:a7) (ρ:ab->Value->Prop) (v:Value),R w I ρ (QM x) v cd->v=x_ x
 nV:∀ (x:mc) (w:World) (I:a7) (ρ:ab->Value->Prop),R w I ρ (QM x) (x_ x) cd
def Z3 (P:Program) (k:TypeId) (es:Array MapEntry):List (Lit × DataW Value):=(es.toList.map (rg P k LN)).foldr DataW.insert []
def abe [DecidableEq kl] (K:LH P k kl) (V:LI P e mc) (m:List (kl × mc)):Array MapEntry->Nat->Prop:=λes c=>Fit P k LN es c/\es.size<=m.length/\∀ x QZ,(DataW.map (Z3 P k es)).atKey (K.Fa x) QZ=match K5 m x with | some y=>.held (V.x_ y) | none=>QZ
variable [DecidableEq kl] {K:LH P k kl}{V:LI P e mc}{m bn:List (kl × mc)}{x:kl}{y:mc}{t:TypeId}
section
variable {N:cQ}{g:aH}{a b c:Operand}{p:Place}{ty:TypeId}
instance {q:Array MapEntry->Nat->Prop}:b6 (.mp q):=⟨.mp⟩
instance {q:Array MapEntry->Nat->Prop}:b6 (.imp q):=⟨.imp⟩
instance {q:Array MapEntry->Nat->Prop}:nY (.mp q):=⟨.mp⟩
end
end Go.Own
namespace Go.Own
open Go
set_option linter.unusedSectionVars false
variable [cw]
section
variable {α:Type}{P:Program}{N:cQ}{g:aH}{d r:Nat}{ty t t2 e:TypeId}{a b:Operand}{k ke:IntKind}{m n:Int}{p:Place}
def r_ (k:IntKind) (m n:Int):Int:=k.wrap ((BitVec.ofInt k.bits m &&& BitVec.ofInt k.bits n).toNat)
theorem O.and' (J:Rd g a (.lit (.int k m))) (ai:Rd g b (.lit (.int k n))):ch P g (.binOp .and t a b t2) ty (.lit (.int k (r_ k m n))) :=
 .eG (.bin J.bp ai.bp rfl λw=>by simp [eqGuard,binOp,Op.intBits,r_])
theorem W.SS {x y:Code}{G:List (Nat × ab)}{Φ:Exit->aH->Prop}(h:W P N y (get G) Φ):W P N (.cond (.const (.bool false)) x y) (get G) Φ:=W.MG rfl h
def vi (L:List α) (m:Int):Option Unit:=if 0<=m/\m<=L.length then some () else none
theorem XZ {L:List α}{u:Unit}(h:vi L m=some u):m.toNat<=L.length:=by
 grind [vi]
instance:kp aZ:=⟨λx=>[.int .i64 x],λ_=>rfl,λx v hv=>by rw [List.mem_singleton.1 hv]; rfl⟩
theorem O.KX {en:bK α}{L:List α}{u:Unit}(J:Rd g a (.bo en.z p L.length)) (ah:Rd g b (.lit (.int k m))) (aw:bB g p=some (ar en L)) (au:fh P t e en.z=true) (h:vi L m=some u):ch P g (.slice t a (some b) none none) ty (.sub en.z p m.toNat (L.length - m.toNat)):=by
 unfold vi at h
 split at h
 ·rename_i aa;obtain ⟨i,rfl⟩:=Int.eq_ofNat_of_zero_le aa.1;exact .eG (.F3 J.bp ⟨_,ah.bp⟩ rfl au (by omega) (Nat.le_refl _) ⟨_,_,aw,by omega⟩)
 ·cases h
theorem O.ZP {en:bK α}{L:List α}{u:Unit}(J:Rd g a (.bo en.z p L.length)) (br:Rd g b (.lit (.int k m))) (aw:bB g p=some (ar en L)) (au:fh P t e en.z=true) (h:vi L m=some u):ch P g (.slice t a none (some b) none) ty (.bo en.z p m.toNat):=by
 unfold vi at h
 split at h
 ·rename_i aa;obtain ⟨i,rfl⟩:=Int.eq_ofNat_of_zero_le aa.1;exact .eG (.F4 J.bp rfl ⟨_,br.bp⟩ au (by omega) (.inl ⟨_,_,aw,by omega⟩))
 ·cases h
def Ea (lo nd:Nat) (L S:List α):Option (List α):=if 0<min S.length nd/\lo+nd<=L.length then some (L.take lo++S.take (min S.length nd)++L.drop (lo+min S.length nd)) else none
def Cl (e:bK α) [h:kp e] (L:List α):List Value:=L.flatMap h.k4
theorem Kg (e:bK α) [h:kp e] (L:List α):bu e L=(Cl e L).map .lit:=by
 induction L with
 | nil=>rfl
 | cons x L aJ =>
  have:bu e (x::L)=e.cells x++bu e L:=by simp [bu]
  rw [this,aJ,h.cells];simp [Cl]
theorem GH.bf {en:bK α}{S:List α}:Src g (ay en S) en.z S.length (bu en S):=.bf
theorem GH.bo {en:bK α} [kp en] {L:List α}{q:Place}{n:Nat}(ba:bB g q=some (ar en L)) (aA:n<=L.length):Src g (.bo en.z q n) en.z (L.take n).length (bu en (L.take n)):=by
 have h1:(L.take n).length=n:=by rw [List.length_take]; omega
 have af:bu en (L.take n)=(((bu en L).take (n * en.z)).mapIdx λi x=>fY 0 (q.push i) x):=by
  rw [z',Kg];apply List.ext_getElem?;intro j;rw [List.getElem?_mapIdx];cases ag:((Cl en (L.take n)).map ab.lit)[j]? with
  | none=>rfl
  | some y =>
   obtain ⟨v,_,rfl⟩:=List.mem_map.1 (List.mem_of_getElem? ag);rfl
 rw [h1,af];exact .bo ba aA
theorem ZS {z:Nat}(h:fh P t e z=true):(P.info? e).map (·.size)=some z:=by
 grind [fh]
theorem bx.bA {o:Oper}{en:bK α} [ah:kp en] {L S L':List α}{lo nd:Nat}{Lh oB:ab}{G2:List (Nat × ab)}(aM:o.op=.call { callee:=.builtin .copy,args:=#[a,b],argTypes:=#[t,t2] }) (aP:o.dst=some d) (aQ:bp g a=some Lh) (XJ:Lh=.sub en.z ⟨r,[]⟩ lo nd\/(Lh=.bo en.z ⟨r,[]⟩ nd/\lo=0)) (ao:bp g b=some oB)
  (rF:Src g oB en.z S.length (bu en S)) (av:g r=some (ar en L)) (sI:en.z=1) (au:fh P t e 1=true) (h:Ea lo nd L S=some L') (mv:(get G2 r).isSome=true) (c':kN g (get G2) r (ar en L') G2) (rv:get G2 d=none) (bc:N.ok d=true) :
  bx P N g o (get ((d,ae ((min S.length nd:Nat):Int))::G2)):=by
 unfold Ea at h;by_cases aa:0<min S.length nd/\lo+nd<=L.length
 case neg=>rw [if_neg aa] at h; cases h
 rw [if_pos aa] at h;obtain ⟨ky,adX⟩:=aa;cases h;generalize hk:min S.length nd=k at *;have adW:k<=S.length:=by omega
 have adY:k<=nd:=by omega
 refine .Qg λw I T Fs h cb Ez Vg K Q Ew=>?_;obtain ⟨hu,he,dO⟩:=qc (w:=w) au;have aw:bB g ⟨r,[]⟩=some (ar en L):=by simp [bB,av,ab.at]
 have ND:=kZ h aQ Ez;obtain ⟨v0,cD,iS,dv,dq⟩:=h.part aw (by simp);obtain ⟨a0,abt,rfl,kx,hlen,qH,rE⟩:=dv.mC;have Vb:0<L.length:=by omega
 cases a0 with
 | none=>have:=rE Vb; simp at this
 | some LZ =>
 obtain ⟨BM,BN⟩:=qH LZ rfl;obtain ⟨g0,aep,aet⟩:=LZ;simp only at BM BN;subst BM BN;have n5:cD g0:=dv.p5 g0 rfl
 -- the target
 have IG:∃ cap,cb.eval a=.slice (some ⟨g0,lo,none⟩) nd cap:=by
  rcases XJ with rfl | ⟨rfl,rfl⟩
  ·obtain ⟨⟨k8,uy,oI,ax,c1,h1,af,_,_,b2⟩,_⟩:=ND.xn;rw [h1] at iS;cases iS;obtain ⟨ad,bP,cu⟩:=b2 (by omega);cases bP;rw [af,cu,sI];exact ⟨c1,by simp⟩
  ·obtain ⟨⟨k8,uy,oI,h1,af,_⟩,_⟩:=ND.my;rw [h1] at iS;cases iS;exact ⟨_,af⟩
 obtain ⟨TE,IG⟩:=IG
 -- the source
 obtain ⟨Da,ZI,news,u_,I6,BS,jt,hZ,fw,aU⟩:=rF.sound h (kZ h ao Ez);rw [sI,Nat.mul_one] at I6;cases Da with
 | none=>have:=BS (by omega) (by omega); simp at this
 | some P8 =>
 have ad7:news=Cl en S:=by
  rw [Kg,List.length_map] at hZ;apply List.ext_getElem hZ.symm;intro j h1 af;have:=(aU j (.lit (Cl en S)[j]) news[j] (by rw [Kg,List.getElem?_map,List.getElem?_eq_getElem af]; rfl) (List.getElem?_eq_getElem h1)).gW.1;exact this
 -- the block
 cases dv with
 | ref J=>simp [ab.isRef] at J
 | @own _ _ _ _ b0 us bH _ jw hp h1 ak pM hY aE =>
 obtain ⟨iu,br⟩:=jw;rcases br with ⟨br,_⟩ | ⟨ig,cap,cur,br,ox,iW,qW,o6,z7,xT⟩
 ·cases br
 cases br;have NP:L.length<=cur.size:=by
  have oP:(cur.toList.take (L.length * en.z)).length=L.length * en.z:=by rw [xT,iu]
  rw [List.length_take,sI,Nat.mul_one,Array.length_toList] at oP;rw [sI] at z7;omega
 have EE:(news.take k).length=k:=by rw [List.length_take]; omega
 have h2:(execOp cb.eval o).run P w=.ok (.value (goInt k)) (w.setRow g0 (ew cur.toList lo (news.take k)).toArray):=by
  have pH:=run_copy_row (P:=P) w t t2 o.type e g0 lo nd TE P8 S.length ZI cur b0 (news.take k) hu (ZS au) iW (by rw [EE]; exact hk.symm) (λj v ag=>by
   rw [List.getElem?_take] at ag
   split at ag
   ·exact jt P8 rfl j v ag
   ·cases ag) (by rw [EE]; omega) (λv hv=>by
   obtain ⟨j,ag⟩:=List.getElem?_of_mem (List.mem_of_mem_take hv);exact fw j v ag)
  rw [EE] at pH;have pC:(cur.toList.take lo++news.take k++cur.toList.drop (lo+k))=ew cur.toList lo (news.take k):=by unfold ew; rw [EE]
  rw [pC] at pH;simp [execOp,aM,resolve,invoke,IG,u_,builtin,pH]
 -- the state
 have hrel:∀ (j:Nat) (x:ab) (u:Value),((bu en S).take k)[j]?=some x->(news.take k)[j]?=some u->R w I (fO w T) x u cd:=λj x u J hu=>by
  rw [List.getElem?_take] at J hu
  split at J
  ·rename_i ag;rw [if_pos ag] at hu;exact (aU j x u J hu).frame (λ_ _=>rfl) (λ_ h=>h) (λ_ _ h=>h.1) λ_ _=>rfl
  ·cases J
 have hH:Hand w I (fO w T) Fs ((bu en S).take k) (news.take k) (λ_=>cd) :=
  ⟨by rw [List.length_take,List.length_take,hZ],hrel,λ_ _ _ _ _ h=>h.elim,λ_ _ _ _ h=>h.elim,λ_ _ _ h=>h.elim⟩
 have NO:((bu en S).take k).length=k:=by rw [List.length_take,hZ]; omega
 have Va:(bu en L).length=L.length:=by rw [np,sI,Nat.mul_one]
 have rB:(ar en L).ew lo ((bu en S).take k)=ar en (L.take lo++S.take k++L.drop (lo+k)):=by
  show ab.own en.z L.length (ew (bu en L) lo ((bu en S).take k))=_;have bP:ew (bu en L) lo ((bu en S).take k)=bu en (L.take lo++S.take k++L.drop (lo+k)):=by
   unfold ew;rw [NO,FU,FU];have gO:=z' en L lo;have iz:=z' en S k;have lk:=C7 en L (lo+k);rw [sI,Nat.mul_one] at gO iz lk;rw [gO,iz,lk]
  unfold ar;rw [bP];congr 1;simp; omega
 have WK:∀ (j:Nat) (u:Value),(news.take k)[j]?=some u->u.oneCell'=true:=λj u hu=>by
  rw [List.getElem?_take] at hu
  split at hu
  ·exact fw j u hu
  ·cases hu
 have c1:∀ t x,get G2 t=some x->cp g ⟨r,[]⟩ ((ar en L).ew lo ((bu en S).take k)) t=some x:=λt x J=>by
  rw [rB];rcases c'.spec t x J with ⟨h1,af,_⟩ | ⟨h1,af,_⟩
  ·rw [x0 h1]; exact af
  ·subst h1 af; simp [cp,av,ab.setAt]
 have c2:∀ t x,get G2 t=some x->∀ y,g t=some y->j7 (λq=>gF g q/\Clear ⟨r,[]⟩ lo ((bu en S).take k).length q/\gF (get G2) q) y:=λt x J y ai=>by
  rcases c'.spec t x J with ⟨h1,af,aF⟩ | ⟨h1,af,aF⟩
  ·rw [af] at ai; cases ai;rcases aF with aF | ⟨_,c2,TR⟩
   ·exact aF.KI
   ·cases TR
  ·subst h1; rw [av] at ai; cases ai; exact .bh (.own (o9 en L))
 have kQ:∀ t z q n m new,get G2 t≠some (.bD z q n m new):=λt z q n m new J=>by
  rcases c'.spec t _ J with ⟨_,_,aF | ⟨aF,_⟩⟩ | ⟨_,_,aF⟩
  ·exact aF.e8 _ _ _ _ _ rfl
  ·exact aF.e8 _ _ _ _ _ rfl
  ·cases aF
 obtain ⟨j4,hI,gi⟩:=h.mG.store (g2:=get G2) aw (.inl rfl) (k:=lo) (cs':=(bu en S).take k) (by rw [NO,Va]; omega) hH (λx J=>o9 en S x (List.mem_of_mem_take J)) (λh=>by cases h) WK c1 c2 kQ (by intro e; rw [e] at mv; cases mv) iS rfl iW;have nN:=hI.sP (d:=d) (x:=ae (k:Int)) (v:=goInt k) (F:=cd) rv (by rw [<- Ez,Vg]; exact cQ.lt bc) (.tree (.lit rfl λ_ h=>h)) (λ_ _ h=>h.elim) (λ_ h=>h.elim) (by rintro z p n m new e; cases e);unfold Oper.wp Oper.upon;simp only [h2];have pC:get ((d,ae (k:Int))::G2)=cR (get G2) d (ae (k:Int)):=by
  funext t;rw [rn]
 rw [<- pC] at nN;have tB:∃ t,Fs t g0:=⟨_,dq g0 n5⟩;refine Ew _ _ ⟨by rw [aP]; rfl,by rw [aP]; exact hW.put bc _ _,I,_,by rw [aP]; simpa [Act.put,Ez] using nN,⟨⟨rfl,rfl,rfl,by simp,λc _ aa=>setRow_other w g0 c _ (λe=>aa (e ▸ tB)),λa _ _=>Eo w g0 _ a,Nat.le_refl _⟩,λ_ h=>h,λ_ h=>.inl h,λc aa=>?_⟩⟩ λt au=>by rw [aP]; simp only [Act.put]; rw [Array.getElem?_setIfInBounds_ne]; rintro rfl; exact au aP
 obtain ⟨t,aa⟩:=aa;simp only [uh] at aa
 split at aa
 ·exact aa.elim
 ·rcases gi t c aa with gh | ⟨_,_,gh⟩
  ·exact .inl ⟨t,gh⟩
  ·exact gh.elim
end
end Go.Own
namespace Go.Own
open Go
set_option linter.unusedSectionVars false
variable [cw]
def FT (dV:List Nat) (o:Oper):Oper:=⟨o.dst,o.op,o.type,o.pos,o.after.map λe=>⟨dV.idxOf e.on,e.ground⟩,o.guard.map λp=>(dV.idxOf p.1,p.2)⟩
def k1 (dV:List Nat) (l:List Oper):List Oper:=dV.map λk=>FT dV (l.getD k default)
def Kx (dV:List Nat) (n:Nat):Bool:=Nat.beq dV.length n&&(List.range n).all λk=>dV.contains k&&Nat.blt (dV.getD k n) n&&Nat.beq (dV.idxOf (dV.getD k n)) k
structure Perm (dV:List Nat) (n:Nat):Prop where
 len:dV.length=n
 mem:∀ k,k<n->dV.idxOf k<n/\dV.getD (dV.idxOf k) n=k
 lt:∀ j,j<n->dV.getD j n<n/\dV.idxOf (dV.getD j n)=j
theorem Y4 {dV:List Nat}{n:Nat}(h:Kx dV n=true):Perm dV n:=by
 unfold Kx at h;simp only [Bool.and_eq_true,Nat.beq_eq,List.all_eq_true,List.mem_range,Nat.blt_eq] at h;obtain ⟨ah,fv⟩:=h;refine ⟨ah,λk hk=>?_,λj ag=>⟨(fv j ag).1.2,(fv j ag).2⟩⟩
 grind
section
variable {P:Program}{Q:Exit->Act->World->Prop}{dV:List Nat}{l:List Oper}
theorem Ky (jy:Perm dV l.length) {j:Nat}(ag:j<l.length):(k1 dV l).toArray[j]?=some (FT dV (l.getD (dV.getD j l.length) default))/\l.toArray[dV.getD j l.length]?=some (l.getD (dV.getD j l.length) default):=by
 have h1:j<dV.length:=by rw [jy.len]; exact ag
 have af:=(jy.lt j ag).1
 grind [k1]
theorem PL (jy:Perm dV l.length) {A B:Array Bool}(dh:A.size=l.length) (fB:B.size=l.length) (sg:∀ j,j<l.length->B.getD j true=A.getD (dV.getD j l.length) true) {j:Nat}(ag:j<l.length) :
  dV.getD j l.length∈Region.ready .any l.toArray A↔j∈Region.ready .any (k1 dV l).toArray B:=by
 obtain ⟨h1,af⟩:=Ky jy ag;have aeu:∀ {C:Array Bool}{k:Nat},k<C.size->C.getD k false=C.getD k true:=λ{C k} h=>by simp [Array.getD,h]
 have gone:∀ {C:Array Bool}{k:Nat},¬ k<C.size->C.getD k false=false:=λ{C k} h=>by simp [Array.getD,h]
 have MV:∀ m,A.getD m false=true↔B.getD (dV.idxOf m) false=true:=λm=>by
  by_cases hm:m<l.length
  ·obtain ⟨aF,bk⟩:=jy.mem m hm
   grind
  ·have b2:¬ dV.idxOf m<l.length:=λh=>by
    have du:=List.idxOf_lt_length_iff.1 (by rw [jy.len]; exact h);obtain ⟨i,hi,e⟩:=List.mem_iff_getElem.1 du;have:=(jy.lt i (by rw [<- jy.len]; exact hi)).1
    grind
   grind
 rw [mem_ready,mem_ready,sg j ag];constructor
 ·rintro ⟨a,o,aM,h⟩;rw [af] at aM;cases aM;refine ⟨a,_,h1,λe he ao=>?_⟩;obtain ⟨e0,Wb,rfl⟩:=Array.mem_map.1 he;exact (MV _).1 (h e0 Wb ao)
 ·rintro ⟨a,o,aM,h⟩;rw [h1] at aM;cases aM;refine ⟨a,_,af,λe he ao=>?_⟩;exact (MV _).2 (h ⟨dV.idxOf e.on,e.ground⟩ (Array.mem_map.2 ⟨e,he,rfl⟩) ao)
theorem Y6 (jy:Perm dV l.length) (o:Oper) (T:Array Value):Region.wanted (FT dV o) (yielded (k1 dV l).toArray T)=Region.wanted o (yielded l.toArray T):=by
 unfold Region.wanted FT;cases aL:o.guard with
 | none=>rfl
 | some p =>
  obtain ⟨m,b⟩:=p;simp only [Option.map_some];have:yielded (k1 dV l).toArray T (dV.idxOf m)=yielded l.toArray T m:=by
   unfold yielded;by_cases hm:m<l.length
   ·obtain ⟨aF,bk⟩:=jy.mem m hm;obtain ⟨h1,af⟩:=Ky jy aF;rw [bk] at h1 af;rw [h1,af];rfl
   ·have b2:¬ dV.idxOf m<l.length:=λh=>by
     have du:=List.idxOf_lt_length_iff.1 (by rw [jy.len]; exact h);obtain ⟨i,hi,e⟩:=List.mem_iff_getElem.1 du;have:=(jy.lt i (by rw [<- jy.len]; exact hi)).1
     grind
    have bP:(k1 dV l).toArray[dV.idxOf m]?=none:=by
     rw [List.getElem?_toArray];exact List.getElem?_eq_none (by simp [k1,jy.len]; omega)
    grind
  rw [this]
theorem Y5 (jy:Perm dV l.length):∀ (fuel:Nat) (A B:Array Bool) (a:Act) (w:World),A.size=l.length->B.size=l.length->(∀ j,j<l.length->B.getD j true=A.getD (dV.getD j l.length) true) ->
  wpAny P .any (k1 dV l).toArray Q fuel B a w->wpAny P .any l.toArray Q fuel A a w:=by
 have lift:∀ {A B:Array Bool},A.size=l.length->B.size=l.length->(∀ j,j<l.length->B.getD j true=A.getD (dV.getD j l.length) true)->∀ k,k∈Region.ready .any l.toArray A->∃ j,j<l.length/\dV.getD j l.length=k/\j∈Region.ready .any (k1 dV l).toArray B:=λ{A B} dh fB sg k hk=>by
  have di:k<l.length:=by
   grind [mem_ready]
  obtain ⟨aF,bk⟩:=jy.mem k di
  grind [PL]
 have nil:∀ {A B:Array Bool},A.size=l.length->B.size=l.length->(∀ j,j<l.length->B.getD j true=A.getD (dV.getD j l.length) true)->Region.ready .any l.toArray A=[]->Region.ready .any (k1 dV l).toArray B=[]:=λ{A B} dh fB sg h=>by
  cases ak:Region.ready .any (k1 dV l).toArray B with
  | nil=>rfl
  | cons j r =>
   have ag:j∈Region.ready .any (k1 dV l).toArray B:=by rw [ak]; simp
   have eV:j<l.length:=by
    grind [mem_ready]
   have:=(PL jy dh fB sg eV).2 ag
   grind
 intro fuel
 induction fuel with
 | zero =>
  intro A B a w dh fB sg h;refine ⟨?_,h.2⟩;cases ak:Region.ready .any l.toArray A with
  | nil=>rfl
  | cons k r =>
   obtain ⟨j,_,_,ag⟩:=lift dh fB sg k (by rw [ak]; simp);rw [h.1] at ag;cases ag
 | succ fuel aJ =>
  intro A B a w dh fB sg h;refine ⟨λak=>h.1 (nil dh fB sg ak),λk hk=>?_⟩;obtain ⟨j,eV,rfl,ag⟩:=lift dh fB sg k hk;have av:=h.2 j ag;obtain ⟨h1,af⟩:=Ky jy eV;have UM:∀ i,i<l.length->(B.setIfInBounds j true).getD i true=(A.setIfInBounds (dV.getD j l.length) true).getD (dV.getD i l.length) true:=λi hi=>by
   have aK:=(jy.lt j eV).1;have wW:=(jy.lt i hi).1;have e:∀ (C:Array Bool) (p q:Nat),p<C.size->q<C.size->(C.setIfInBounds p true).getD q true=if q=p then true else C.getD q true:=λC p q aw ba=>by
    by_cases h:q=p
    ·simp_all
    ·rw [if_neg h];simp [Array.getD,ba,Array.getElem_setIfInBounds_ne,Ne.symm h]
   rw [e B j i (by omega) (by omega),e A _ _ (by omega) (by omega),sg i hi];by_cases h:i=j
   ·grind
   ·rw [if_neg h,if_neg];intro aR;have:=(jy.lt i hi).2;rw [aR,(jy.lt j eV).2] at this
    grind
  have mono:∀ a w,wpAny P .any (k1 dV l).toArray Q fuel (B.setIfInBounds j true) a w->wpAny P .any l.toArray Q fuel (A.setIfInBounds (dV.getD j l.length) true) a w:=λa w aR=>aJ _ _ a w (by simpa using dh) (by simpa using fB) UM aR;unfold wpOp at av ⊢;rw [af];rw [h1] at av;simp only [Y6 jy] at av;show if Region.wanted (l.getD (dV.getD j l.length) default) (yielded l.toArray a.tmps)=true then _ else _
  split
  ·rename_i hw;rw [if_pos hw] at av;exact av.imp (λaR=>Oper.wp_mono mono aR) id
  ·rename_i hw;rw [if_neg hw] at av;exact mono _ _ av
end
section
variable {P:Program}{N:cQ}
theorem W.Zh {id:Nat}{l:List Oper}{G:List (Nat × ab)}{Φ:Exit->aH->Prop}(dV:List Nat) (bl:List (List Nat)) (G1:List (Nat × ab)) (hm:P.follows .mixedOrders=true) (dh:pt (k1 dV l).toArray bl=true) (jy:Kx dV l.length=true)
  (h:b8 P N (k1 dV l).toArray bl (get G) 0 [] (k1 dV l) λg'=>lX g' (get G1)) (hk:aB .normal Φ G1):W P N (.region id l.toArray true) (get G) Φ:=by
 have aw:=Y4 jy;obtain ⟨g',h1,af⟩:=h [] 0 .nil .nil (by simp);have dO:(k1 dV l).toArray.size=l.length:=by simp [k1,aw.len]
 refine k6.w (g':=g') (e:=.normal) ?_ (hk g' (.eS af .hA));intro Q a w I Fs a_ bc eu;refine wp_region_any hm ?_;have eL:cG w.drew I a.tmps (get G) Fs:=a_.world (λ_ _ _=>rfl) (λ_ _=>rfl) (Nat.le_refl _);have fv:∀ k,ey (Array.replicate (k1 dV l).toArray.size false) k=false:=by
  intro k;unfold ey;rcases Nat.lt_or_ge k (k1 dV l).toArray.size with h | h
  ·simp_all
  grind
 refine Y5 aw _ _ (Array.replicate l.length false) a w.drew (by simp) (by simp) (λj ag=>?_) ?_
 ·have:=(aw.lt j ag).1
  simp_all
 have oP:=h1.sound dh .nil (k1 dV l).toArray.size (Array.replicate (k1 dV l).toArray.size false) a w.drew I Fs ?_ (by simp) (λk hk=>by omega) (λk _=>fv k) (λk hk=>by rw [fv] at hk; cases hk) eL bc (λcb w' aA=>eu _ _ ?_)
 ·grind
 ·grind [gG]
 ·obtain ⟨bP,cu,I',b5,hI,bQ⟩:=aA;exact ⟨bP,cu,I',b5,hI,⟨⟨bQ.eh.os,bQ.eh.tape,bQ.eh.output,bQ.eh.size,bQ.eh.block,bQ.eh.fJ,Nat.le_trans (Nat.le_succ _) bQ.eh.uK⟩,bQ.more,bQ.new,bQ.own⟩⟩
end
end Go.Own
namespace Go.Own
open Go
set_option linter.unusedSectionVars false
variable [cw]
section
variable {α:Type}{P:Program}{N:cQ}{g:aH}{a b:Operand}{t:TypeId}{m i:Int}
theorem bx.Z5 {hy:Oper}{en:bK α}{LL:List (List α)}{L:List α}{hL y2:α}{o r:Nat}{path:List Nat}{y:ab}{cs':List ab}{x2:ab}{G2:List (Nat × ab)}(aM:hy.op=.store t a b) (aP:hy.dst=none) (aQ:Rd g a (.ptr ⟨r,path++[i.toNat * (fu en).z+0]⟩ (m.toNat * en.z+o))) (ao:Rd g b y)
  (aw:bB g ⟨r,path⟩=some (ar (fu en) LL)) (hi:idx LL i=some L) (h:idx L m=some hL) (aT:hB P t cs'.length=true) (aa:n3 y=some cs') (he:ew (en.cells hL) o cs'=en.cells y2) (hlen:Nat.ble (o+cs'.length) en.z=true) (aI:Nat.blt 0 cs'.length=true)
  (gC:cp g ⟨r,path⟩ (ar (fu en) (LL.set i.toNat (L.set m.toNat y2))) r=some x2) (ak:(get G2 r).isSome=true) [aA:b6 y] {y0:ab}(qN:g r=some y0) [eR:b6 y0] (c':kN g (get G2) r x2 G2):bx P N g hy (get G2):=by
 have fR:bB g ⟨r,path++[i.toNat * (fu en).z+0]⟩=some (ar en L):=sa (g:=g) (r:=r) (path:=path) aw hi rfl;have u6:(bu (fu en) LL).set (i.toNat * (fu en).z+0) (ar en (L.set m.toNat y2))=bu (fu en) (LL.set i.toNat (L.set m.toNat y2)):=by
  have h1:=KK (fu en) (o:=0) (cs':=[ar en (L.set m.toNat y2)]) (y2:=L.set m.toNat y2) hi (by simp [ew,fu]) (by simp [fu]);rw [<- h1];unfold ew;have aK:i.toNat * (fu en).z+0<(bu (fu en) LL).length:=by
   obtain ⟨jE,gO,_⟩:=qO hi;rw [np];show i.toNat * 1+0<LL.length * 1;omega
  rw [List.set_eq_take_append_cons_drop,if_pos aK];simp
 refine bx.x5 (p:=⟨r,path++[i.toNat * (fu en).z+0]⟩) aM aP aQ ao fR h aT aa he hlen aI (x2:=x2) ?_ ak qN c';show cp g ⟨r,path++[i.toNat * (fu en).z+0]⟩ (ar en (L.set m.toNat y2)) r=some x2;rw [Qk _ aw hi rfl,u6];have ah:(LL.set i.toNat (L.set m.toNat y2)).length=LL.length:=List.length_set;rw [<- gC];unfold ar;rw [ah]
end
end Go.Own
namespace Go.Own
open Go
set_option linter.unusedSectionVars false
variable [cw]
section
variable {P:Program}{N:cQ}{ops:Array Oper}{bl:List (List Nat)}{g g0:aH}{K:aH->Prop}{l:List Oper}{acc:Acc}{d i j t':Nat}{op:Op}{ty:TypeId}{pos:String}{after:Array Edge}{x:ab}{b c:Bool}
theorem gy (ao:c=!b) (hk:aD P N ops l (cR g d (.bI [])) K) (h:(ops[j]?).bind (·.dst)=some t':=by rfl) (aL:g t'=some (.lit (.bool c)):=by rfl) (bc:N.ok d=true:=by rfl) (aV:g d=none:=by rfl):aD P N ops (⟨some d,op,ty,pos,after,some (j,b)⟩::l) g K:=.ps h aL ao bc aV hk
theorem DQ (hk:aD P N ops l (cR g d (.bI [])) K) (h:(ops[j]?).bind (·.dst)=some t':=by rfl) (aL:g t'=some (.bI []):=by rfl) (bc:N.ok d=true:=by rfl) (aV:g d=none:=by rfl):aD P N ops (⟨some d,op,ty,pos,after,some (j,b)⟩::l) g K:=.pu h aL bc aV hk
theorem bJ (ao:c=b) (aw:ch P g op ty x) (hk:aD P N ops l (cR g d x) K) (h:(ops[j]?).bind (·.dst)=some t':=by rfl) (aL:g t'=some (.lit (.bool c)):=by rfl) (bc:N.ok d=true:=by rfl) (aV:g d=none:=by rfl):aD P N ops (⟨some d,op,ty,pos,after,some (j,b)⟩::l) g K:=.v aw bc aV (.oB h aL ao) hk
theorem Ru (hk:aD P N ops l (cR g d (.bI [])) K) (h:(ops[j]?).bind (·.dst)=some t':=by rfl) (aL:g t'=some (.lit (.bool c)):=by rfl) (ao:c=!b:=by assumption) (bc:N.ok d=true:=by rfl) (aV:g d=none:=by rfl):aD P N ops (⟨some d,op,ty,pos,after,some (j,b)⟩::l) g K:=.ps h aL ao bc aV hk
theorem eU (aw:ch P g op ty x) (hk:aD P N ops l (cR g d x) K) (h:(ops[j]?).bind (·.dst)=some t':=by rfl) (aL:g t'=some (.lit (.bool c)):=by rfl) (ao:c=b:=by assumption) (bc:N.ok d=true:=by rfl) (aV:g d=none:=by rfl):aD P N ops (⟨some d,op,ty,pos,after,some (j,b)⟩::l) g K:=.v aw bc aV (.oB h aL ao) hk
theorem wa (b7:Nat) (ao:c=!b) (hk:b8 P N ops bl g0 i ((b7,d,some (.bI []))::acc) l K) (h:(ops[j]?).bind (·.dst)=some t':=by rfl) (aL:kj bl g0 b7 acc t'=some (bd c):=by rfl) (ag:Nat.beq ops.size (b7+l.length+1)=true:=by rfl) (aV:g0 d=none:=by rfl) (aA:acc.all (λe=>!Nat.beq e.2.1 d)=true:=by rfl) (bc:N.ok d=true:=by rfl):b8 P N ops bl g0 i acc (⟨some d,op,ty,pos,after,some (j,b)⟩::l) K:=.ps b7 h aL ao ag aV aA bc hk
theorem wb (b7:Nat) (ao:c=b) (aw:ch P (kj bl g0 b7 acc) op ty x) (hk:b8 P N ops bl g0 i ((b7,d,some x)::acc) l K) (h:(ops[j]?).bind (·.dst)=some t':=by rfl) (aL:kj bl g0 b7 acc t'=some (.lit (.bool c)):=by rfl) (ag:Nat.beq ops.size (b7+l.length+1)=true:=by rfl) (aV:g0 d=none:=by rfl) (aA:acc.all (λe=>!Nat.beq e.2.1 d)=true:=by rfl) (bc:N.ok d=true:=by rfl):b8 P N ops bl g0 i acc (⟨some d,op,ty,pos,after,some (j,b)⟩::l) K:=.v b7 aw ag aV aA bc (.oB h aL ao) hk
end
section
variable {P:Program}{N:cQ}{ops:Array Oper}{g:aH}{K:aH->Prop}{l:List Oper}{A B:Code}{G G1:List (Nat × ab)}{Φ:Exit->aH->Prop}{t id:Nat}{b:Bool}{α:Type}{X Y o:α}
theorem W.cI (h:(bif b then X else Y)=o) (aa:get G t=some (bd b)) (c0:b=true->X=o->W P N A (get G) Φ) (aE:b=false->Y=o->W P N B (get G) Φ):W P N (.cond (.tmp t) A B) (get G) Φ:=W.gQ aa (λe=>c0 e (S0 e h)) (λe=>aE e (SZ e h))
def pick (g:aH):List Nat->Option (List (Nat × ab))
 | []=>some []
 | k::ks=>match g k with
  | some x=>match pick g ks with
   | some l=>some ((k,x)::l)
   | none=>none
  | none=>none
class jK (l:List (Nat × ab)):Prop where p:∀ e∈l,cK e.2
instance:jK []:=⟨λ_ h=>by cases h⟩
instance {k:Nat}{x:ab}{l:List (Nat × ab)} [h:b6 x] [ah:jK l]:jK ((k,x)::l):=⟨λe he=>by
 rcases List.mem_cons.1 he with rfl | he
 ·exact h.bh
 ·exact ah.p e he⟩
theorem vG {c:Bool}{g g2:aH}:∀ {ks:List Nat}{G1:List (Nat × ab)},pick g ks=some G1->(∀ e∈G1,cK e.2)->Trim c g g2 G1
 | [],_,h,_=>by cases h; exact .nil
 | k::ks,G1,h,aA=>by
  unfold pick at h
  split at h
  ·rename_i x J
   split at h
   ·rename_i l ah;cases h;have:b6 x:=⟨aA (k,x) (by simp)⟩;exact .n J (vG ah λe he=>aA e (by simp [he]))
   ·cases h
  ·cases h
structure yr (ks:List Nat) (G1:List (Nat × ab)) (g':aH):Prop where p:lX g' (get G1)
theorem bH {ks:List Nat}(h:pick g ks=some G1) [aA:jK G1]:aD P N ops [] g (yr ks G1):=.nil ⟨(vG (c:=true) (g2:=get G1) h aA.p).eS⟩
theorem OW {l:List Oper}{ks:List Nat}(h:aD P N l.toArray l g (yr ks G1)):aD P N l.toArray l g λg'=>lX g' (get G1):=λi hi=>by
 obtain ⟨g',h1,af⟩:=h i hi;exact ⟨g',h1,af.p⟩
theorem aD.bR (ks:List Nat) (h:pick g ks=some G1) [aA:jK G1] (hk:aD P N ops l (get G1) K):aD P N ops l g K:=.FP (vG h aA.p) hk
theorem W.bR {l:List Oper}(ks:List Nat) (h:aD P N l.toArray l (get G) (yr ks G1)) (hk:aB .normal Φ G1):W P N (.region id l.toArray false) (get G) Φ:=W.rx G1 (OW h) hk
theorem W.rs {l:List Oper}(G1:List (Nat × ab)) (h:aD P N l.toArray l (get G) λg'=>lX g' (get G1)) (hk:W P N B (get G1) Φ):W P N (.seq (.region id l.toArray false) B) (get G) Φ:=W.bS (W.rx G1 h (aB.bL hk))
theorem W.cB {l:List Oper}(ks:List Nat) (h:aD P N l.toArray l (get G) (yr ks G1)) (hk:W P N B (get G1) Φ):W P N (.seq (.region id l.toArray false) B) (get G) Φ:=W.rs G1 (OW h) hk
end
end Go.Own
namespace Go.Own
open Go
set_option linter.unusedSectionVars false
variable [cw]
class fE (P:Program) (t:TypeId):Prop where p:jQ P t=true:=by kernel_rfl
class iF (P:Program) (t:TypeId):Prop where p:o' P t=true:=by kernel_rfl
class eI (P:Program) (t:TypeId) (e:outParam TypeId) (z:outParam Nat):Prop where p:fh P t e z=true:=by kernel_rfl
class db (P:Program) (s:TypeId) (f:Nat) (off:outParam Nat) (t:outParam TypeId):Prop where p:iN P s f off t=true:=by kernel_rfl
section
variable {P:Program}{N:cQ}{ops:Array Oper}{g:aH}{K:aH->Prop}{l:List Oper}{ty t:TypeId}{a:Operand}{k r z n:Nat}{cs jg:List ab}
theorem O.o2 {v:Value}(av:g r=some (.obj cs)) (J:Rd g a (.ptr ⟨r,[]⟩ k)) (au:jQ P t=true) (aa:cs[k]?=some (.lit v)):ch P g (.load t a) ty (.lit v):=O.zq av J au aa rfl
theorem O.zr (av:g r=some (.obj cs)) (J:Rd g a (.ptr ⟨r,[]⟩ k)) (au:jQ P t=true) (aa:cs[k]?=some (.bf z n jg)):ch P g (.load t a) ty (.bf z n jg):=O.zq av J au aa rfl
theorem O.zs (av:g r=some (.obj cs)) (J:Rd g a (.ptr ⟨r,[]⟩ k)) (au:jQ P t=true) (aa:cs[k]?=some (.own z n jg)):ch P g (.load t a) ty (.bo z ⟨r,[k]⟩ n):=O.zq av J au aa rfl
end
section
variable {P:Program}{N:cQ}{ops:Array Oper}{g:aH}{K:aH->Prop}{l:List Oper}{t0 d:Nat}{t1 t2 ty:TypeId}{ax a2 a3:Operand}{h3:Nat}{v0:Value}{pos:String}{after:Array Edge}{op:Op}{adg:Nat × Bool}
theorem aD.bG (op:Op) (u:Option (Nat × Bool)) (h:aD P N ops (⟨some d,op,ty,pos,after,u⟩::l) g K):aD P N ops (⟨some d,op,ty,pos,after,u⟩::l) g K:=h
theorem aD.nl (h:aD P N ops [] g K):aD P N ops [] g K:=h
theorem aD.bj (h:aD P N ops l g K:=by
(repeat' (first
 | exact iG .nil
 | exact .nil
 | refine .n rfl ?_
 | (first
  | ((with_reducible apply aD.bG (.move (.tmp _)) none); (first | refine cf rfl ?_ | refine aj (O.aW (.bf rfl)) ?_ | refine aj (O.aW (.own rfl)) ?_ | refine aj (O.aW (.obj rfl)) ?_ | refine aj (O.aW (.cL rfl)) ?_ | refine aj (O.aW (.ptr rfl)) ?_ | refine aj (O.aW (.bo rfl)) ?_))
  | ((with_reducible apply aD.bG (.load _ _) none); (first | refine aj (O.o2 rfl (.ptr rfl) fE.p rfl) ?_ | refine aj (O.Ch (.cL rfl) fE.p rfl) ?_ | refine aj (O.zr rfl (.ptr rfl) fE.p rfl) ?_ | refine aj (O.o2 rfl (.obj rfl) fE.p rfl) ?_ | refine aj (O.zr rfl (.obj rfl) fE.p rfl) ?_ | refine aj (O.zs rfl (.ptr rfl) fE.p rfl) ?_ | refine aj (O.zs rfl (.obj rfl) fE.p rfl) ?_))
  | ((with_reducible apply aD.bG (.fieldAddr _ _ _) none); (first | refine aj (O.mT rfl (.obj rfl) db.p rfl) ?_ | refine aj (O.A7 (.cL rfl) db.p) ?_ | refine aj (O.mT rfl (.ptr rfl) db.p rfl) ?_))
  | ((with_reducible apply aD.bG (.assign (.tmp _)) none); (first | refine AK rfl ?_ | refine aj (O.dA (.bf rfl)) ?_ | refine aj (O.dA (.own rfl)) ?_ | refine aj (O.dA (.obj rfl)) ?_ | refine aj (O.dA (.cL rfl)) ?_ | refine aj (O.dA (.ptr rfl)) ?_ | refine aj (O.dA (.bo rfl)) ?_))
  | ((with_reducible apply aD.bG (.assign (.const _)) none); (first | refine Rz rfl ?_ | refine aj (O.dA .xr) ?_))
  | ((with_reducible apply aD.bG (.indexAddr _ _ _) none); (first | refine aj (O.rP (.bf rfl) (.lit rfl) eI.p (by assumption)) ?_ | refine aj (O.rP (.bf rfl) (.k rfl) eI.p (by assumption)) ?_))
  | ((with_reducible apply aD.bG (.binOp .add _ _ _ _) none); (first | refine aj (O.add (.lit rfl) (.k rfl)) ?_ | refine aj (O.add (.lit rfl) (.lit rfl)) ?_ | refine aj (O.add (.k rfl) (.lit rfl)) ?_))
  | ((with_reducible apply aD.bG (.binOp .lss _ _ _ _) none); (first | refine aj (O.lss (.lit rfl) (.k rfl)) ?_ | refine aj (O.lss (.lit rfl) (.lit rfl)) ?_ | refine aj (O.lss (.k rfl) (.lit rfl)) ?_))
  | ((with_reducible apply aD.bG (.binOp .eql _ _ _ _) none); (first | refine aj (O.eql (.lit rfl) (.k rfl)) ?_ | refine aj (O.eql (.lit rfl) (.lit rfl)) ?_ | refine aj (O.eql (.k rfl) (.lit rfl)) ?_ | refine aj (O.oM (.lit rfl) (.lit rfl)) ?_ | refine aj (O.oM (.lit rfl) (.k rfl)) ?_))
  | ((with_reducible apply aD.bG (.binOp .neq _ _ _ _) none); (first | refine aj (O.neq (.lit rfl) (.k rfl)) ?_ | refine aj (O.neq (.lit rfl) (.lit rfl)) ?_ | refine aj (O.neq (.k rfl) (.lit rfl)) ?_ | refine aj (O.nk (.lit rfl) (.lit rfl)) ?_ | refine aj (O.nk (.lit rfl) (.k rfl)) ?_))
  | ((with_reducible apply aD.bG (.binOp .geq _ _ _ _) none); (first | refine aj (O.geq (.lit rfl) (.k rfl)) ?_ | refine aj (O.geq (.lit rfl) (.lit rfl)) ?_ | refine aj (O.geq (.k rfl) (.lit rfl)) ?_))
  | ((with_reducible apply aD.bG (.binOp .gtr _ _ _ _) none); (first | refine aj (O.gtr (.lit rfl) (.k rfl)) ?_ | refine aj (O.gtr (.lit rfl) (.lit rfl)) ?_ | refine aj (O.gtr (.k rfl) (.lit rfl)) ?_))
  | ((with_reducible apply aD.bG (.binOp .sub _ _ _ _) none); (first | refine aj (O.sub (.lit rfl) (.k rfl)) ?_ | refine aj (O.sub (.lit rfl) (.lit rfl)) ?_ | refine aj (O.sub (.k rfl) (.lit rfl)) ?_))
  | ((with_reducible apply aD.bG (.binOp .leq _ _ _ _) none); (first | refine aj (O.leq (.lit rfl) (.k rfl)) ?_ | refine aj (O.leq (.lit rfl) (.lit rfl)) ?_ | refine aj (O.leq (.k rfl) (.lit rfl)) ?_))
  | ((with_reducible apply aD.bG (.pick _ _ _) none); (first | refine aj (O.jm (.lit rfl) rfl (.lit rfl)) ?_ | refine aj (O.nn (.lit rfl) rfl (.lit rfl)) ?_ | refine aj (O.jm (.lit rfl) rfl (.k rfl)) ?_ | refine aj (O.nn (.lit rfl) rfl (.k rfl)) ?_ | refine aj (O.jm (.lit rfl) (by assumption) (.lit rfl)) ?_ | refine aj (O.nn (.lit rfl) (by assumption) (.lit rfl)) ?_ | refine aj (O.jm (.lit rfl) (by assumption) (.k rfl)) ?_ | refine aj (O.nn (.lit rfl) (by assumption) (.k rfl)) ?_))
  | ((with_reducible apply aD.bG (.call { callee:=.builtin .len,args:=#[_],argTypes:=#[_] }) none); (first | refine aj (O.vp (.bf rfl) eI.p) ?_ | refine aj (O.mB (.bo rfl) eI.p) ?_ | refine aj (O.mB (.own rfl) eI.p) ?_ | refine aj (O.ot (.lit rfl) iF.p) ?_))
  | ((with_reducible apply aD.bG (.unOp .not _ _) none); (first | refine aj (O.not (.lit rfl)) ?_))
  | ((with_reducible apply aD.bG (.nilCheck _) none); (first | refine aj (O.dP (.ptr rfl)) ?_ | refine aj (O.xy (.cL rfl)) ?_ | refine aj (O.dP (.obj rfl)) ?_))
  | ((with_reducible apply aD.bG (.index _ _ _) none); (first | refine aj (O.at' (.lit rfl) (.lit rfl) iF.p (by assumption)) ?_))
  | ((with_reducible apply aD.bG (.move (.const _)) none); (first | refine aj (O.aW (.k rfl)) ?_ | refine aj (O.aW .xr) ?_)))
 | ((with_reducible apply aD.nl); first | exact bH rfl | refine iG ?_)
 | ((with_reducible apply aD.bG _ (some _)); first
  | (first | refine gy rfl ?_ | refine Ru ?_ | refine DQ ?_)
  | ((with_reducible apply aD.bG (.move (.tmp _)) (some _)); (first | refine bJ rfl (O.aW (.lit rfl)) ?_ | refine eU (O.aW (.lit rfl)) ?_ | refine bJ rfl (O.aW (.bf rfl)) ?_ | refine eU (O.aW (.bf rfl)) ?_ | refine bJ rfl (O.aW (.own rfl)) ?_ | refine eU (O.aW (.own rfl)) ?_ | refine bJ rfl (O.aW (.obj rfl)) ?_ | refine eU (O.aW (.obj rfl)) ?_ | refine bJ rfl (O.aW (.cL rfl)) ?_ | refine eU (O.aW (.cL rfl)) ?_ | refine bJ rfl (O.aW (.ptr rfl)) ?_ | refine eU (O.aW (.ptr rfl)) ?_ | refine bJ rfl (O.aW (.bo rfl)) ?_ | refine eU (O.aW (.bo rfl)) ?_))
  | ((with_reducible apply aD.bG (.load _ _) (some _)); (first | refine bJ rfl (O.o2 rfl (.ptr rfl) fE.p rfl) ?_ | refine eU (O.o2 rfl (.ptr rfl) fE.p rfl) ?_ | refine bJ rfl (O.Ch (.cL rfl) fE.p rfl) ?_ | refine eU (O.Ch (.cL rfl) fE.p rfl) ?_ | refine bJ rfl (O.zr rfl (.ptr rfl) fE.p rfl) ?_ | refine eU (O.zr rfl (.ptr rfl) fE.p rfl) ?_ | refine bJ rfl (O.o2 rfl (.obj rfl) fE.p rfl) ?_ | refine eU (O.o2 rfl (.obj rfl) fE.p rfl) ?_ | refine bJ rfl (O.zr rfl (.obj rfl) fE.p rfl) ?_ | refine eU (O.zr rfl (.obj rfl) fE.p rfl) ?_ | refine bJ rfl (O.zs rfl (.ptr rfl) fE.p rfl) ?_ | refine eU (O.zs rfl (.ptr rfl) fE.p rfl) ?_ | refine bJ rfl (O.zs rfl (.obj rfl) fE.p rfl) ?_ | refine eU (O.zs rfl (.obj rfl) fE.p rfl) ?_))
  | ((with_reducible apply aD.bG (.fieldAddr _ _ _) (some _)); (first | refine bJ rfl (O.mT rfl (.obj rfl) db.p rfl) ?_ | refine eU (O.mT rfl (.obj rfl) db.p rfl) ?_ | refine bJ rfl (O.A7 (.cL rfl) db.p) ?_ | refine eU (O.A7 (.cL rfl) db.p) ?_ | refine bJ rfl (O.mT rfl (.ptr rfl) db.p rfl) ?_ | refine eU (O.mT rfl (.ptr rfl) db.p rfl) ?_))
  | ((with_reducible apply aD.bG (.indexAddr _ _ _) (some _)); (first | refine bJ rfl (O.rP (.bf rfl) (.lit rfl) eI.p (by assumption)) ?_ | refine eU (O.rP (.bf rfl) (.lit rfl) eI.p (by assumption)) ?_ | refine bJ rfl (O.rP (.bf rfl) (.k rfl) eI.p (by assumption)) ?_ | refine eU (O.rP (.bf rfl) (.k rfl) eI.p (by assumption)) ?_))
  | ((with_reducible apply aD.bG (.binOp .add _ _ _ _) (some _)); (first | refine bJ rfl (O.add (.lit rfl) (.k rfl)) ?_ | refine eU (O.add (.lit rfl) (.k rfl)) ?_ | refine bJ rfl (O.add (.lit rfl) (.lit rfl)) ?_ | refine eU (O.add (.lit rfl) (.lit rfl)) ?_ | refine bJ rfl (O.add (.k rfl) (.lit rfl)) ?_ | refine eU (O.add (.k rfl) (.lit rfl)) ?_))
  | ((with_reducible apply aD.bG (.binOp .lss _ _ _ _) (some _)); (first | refine bJ rfl (O.lss (.lit rfl) (.k rfl)) ?_ | refine eU (O.lss (.lit rfl) (.k rfl)) ?_ | refine bJ rfl (O.lss (.lit rfl) (.lit rfl)) ?_ | refine eU (O.lss (.lit rfl) (.lit rfl)) ?_ | refine bJ rfl (O.lss (.k rfl) (.lit rfl)) ?_ | refine eU (O.lss (.k rfl) (.lit rfl)) ?_))
  | ((with_reducible apply aD.bG (.binOp .eql _ _ _ _) (some _)); (first | refine bJ rfl (O.eql (.lit rfl) (.k rfl)) ?_ | refine eU (O.eql (.lit rfl) (.k rfl)) ?_ | refine bJ rfl (O.eql (.lit rfl) (.lit rfl)) ?_ | refine eU (O.eql (.lit rfl) (.lit rfl)) ?_ | refine bJ rfl (O.eql (.k rfl) (.lit rfl)) ?_ | refine eU (O.eql (.k rfl) (.lit rfl)) ?_ | refine bJ rfl (O.oM (.lit rfl) (.lit rfl)) ?_ | refine eU (O.oM (.lit rfl) (.lit rfl)) ?_ | refine bJ rfl (O.oM (.lit rfl) (.k rfl)) ?_ | refine eU (O.oM (.lit rfl) (.k rfl)) ?_))
  | ((with_reducible apply aD.bG (.binOp .neq _ _ _ _) (some _)); (first | refine bJ rfl (O.neq (.lit rfl) (.k rfl)) ?_ | refine eU (O.neq (.lit rfl) (.k rfl)) ?_ | refine bJ rfl (O.neq (.lit rfl) (.lit rfl)) ?_ | refine eU (O.neq (.lit rfl) (.lit rfl)) ?_ | refine bJ rfl (O.neq (.k rfl) (.lit rfl)) ?_ | refine eU (O.neq (.k rfl) (.lit rfl)) ?_ | refine bJ rfl (O.nk (.lit rfl) (.lit rfl)) ?_ | refine eU (O.nk (.lit rfl) (.lit rfl)) ?_ | refine bJ rfl (O.nk (.lit rfl) (.k rfl)) ?_ | refine eU (O.nk (.lit rfl) (.k rfl)) ?_))
  | ((with_reducible apply aD.bG (.binOp .geq _ _ _ _) (some _)); (first | refine bJ rfl (O.geq (.lit rfl) (.k rfl)) ?_ | refine eU (O.geq (.lit rfl) (.k rfl)) ?_ | refine bJ rfl (O.geq (.lit rfl) (.lit rfl)) ?_ | refine eU (O.geq (.lit rfl) (.lit rfl)) ?_ | refine bJ rfl (O.geq (.k rfl) (.lit rfl)) ?_ | refine eU (O.geq (.k rfl) (.lit rfl)) ?_))
  | ((with_reducible apply aD.bG (.binOp .gtr _ _ _ _) (some _)); (first | refine bJ rfl (O.gtr (.lit rfl) (.k rfl)) ?_ | refine eU (O.gtr (.lit rfl) (.k rfl)) ?_ | refine bJ rfl (O.gtr (.lit rfl) (.lit rfl)) ?_ | refine eU (O.gtr (.lit rfl) (.lit rfl)) ?_ | refine bJ rfl (O.gtr (.k rfl) (.lit rfl)) ?_ | refine eU (O.gtr (.k rfl) (.lit rfl)) ?_))
  | ((with_reducible apply aD.bG (.binOp .sub _ _ _ _) (some _)); (first | refine bJ rfl (O.sub (.lit rfl) (.k rfl)) ?_ | refine eU (O.sub (.lit rfl) (.k rfl)) ?_ | refine bJ rfl (O.sub (.lit rfl) (.lit rfl)) ?_ | refine eU (O.sub (.lit rfl) (.lit rfl)) ?_ | refine bJ rfl (O.sub (.k rfl) (.lit rfl)) ?_ | refine eU (O.sub (.k rfl) (.lit rfl)) ?_))
  | ((with_reducible apply aD.bG (.binOp .leq _ _ _ _) (some _)); (first | refine bJ rfl (O.leq (.lit rfl) (.k rfl)) ?_ | refine eU (O.leq (.lit rfl) (.k rfl)) ?_ | refine bJ rfl (O.leq (.lit rfl) (.lit rfl)) ?_ | refine eU (O.leq (.lit rfl) (.lit rfl)) ?_ | refine bJ rfl (O.leq (.k rfl) (.lit rfl)) ?_ | refine eU (O.leq (.k rfl) (.lit rfl)) ?_))
  | ((with_reducible apply aD.bG (.call { callee:=.builtin .len,args:=#[_],argTypes:=#[_] }) (some _)); (first | refine bJ rfl (O.vp (.bf rfl) eI.p) ?_ | refine eU (O.vp (.bf rfl) eI.p) ?_ | refine bJ rfl (O.mB (.bo rfl) eI.p) ?_ | refine eU (O.mB (.bo rfl) eI.p) ?_ | refine bJ rfl (O.mB (.own rfl) eI.p) ?_ | refine eU (O.mB (.own rfl) eI.p) ?_ | refine bJ rfl (O.ot (.lit rfl) iF.p) ?_ | refine eU (O.ot (.lit rfl) iF.p) ?_))
  | ((with_reducible apply aD.bG (.unOp .not _ _) (some _)); (first | refine bJ rfl (O.not (.lit rfl)) ?_ | refine eU (O.not (.lit rfl)) ?_))
  | ((with_reducible apply aD.bG (.nilCheck _) (some _)); (first | refine bJ rfl (O.dP (.ptr rfl)) ?_ | refine eU (O.dP (.ptr rfl)) ?_ | refine bJ rfl (O.xy (.cL rfl)) ?_ | refine eU (O.xy (.cL rfl)) ?_ | refine bJ rfl (O.dP (.obj rfl)) ?_ | refine eU (O.dP (.obj rfl)) ?_))
  | ((with_reducible apply aD.bG (.index _ _ _) (some _)); (first | refine bJ rfl (O.at' (.lit rfl) (.lit rfl) iF.p (by assumption)) ?_ | refine eU (O.at' (.lit rfl) (.lit rfl) iF.p (by assumption)) ?_)))
 | with_reducible apply aD.abk
 | with_reducible apply aD.abl))):aD P N ops l g K:=h
theorem W.RQ {id:Nat}{l:List Oper}{G G1:List (Nat × ab)}{Φ:Exit->aH->Prop}(ks:List Nat) (hk:aB .normal Φ G1) (h:aD P N l.toArray l (get G) (yr ks G1):=by exact aD.bj):W P N (.region id l.toArray false) (get G) Φ:=W.bR ks h hk
theorem W.dA {id:Nat}{l:List Oper}{B:Code}{G:List (Nat × ab)}{Φ:Exit->aH->Prop}(G1:List (Nat × ab)) (hk:W P N B (get G1) Φ) (h:aD P N l.toArray l (get G) (λg'=>lX g' (get G1)):=by exact aD.bj):W P N (.seq (.region id l.toArray false) B) (get G) Φ:=W.rs G1 h hk
theorem W.cn {id:Nat}{l:List Oper}{B:Code}{G G1:List (Nat × ab)}{Φ:Exit->aH->Prop}(ks:List Nat) (hk:W P N B (get G1) Φ) (h:aD P N l.toArray l (get G) (yr ks G1):=by exact aD.bj):W P N (.seq (.region id l.toArray false) B) (get G) Φ:=W.cB ks h hk
end
end Go.Own
namespace Go.Own
open Go
set_option linter.unusedSectionVars false
variable [cw]
section
variable {P:Program}{N:cQ}{G:List (Nat × ab)}{g':aH}
theorem mN {rs:List ResultVar}{ys xs:List ab}{res:ab}{outs:List (Option ab)}{n:Nat}(h:jM P (get G) rs ys xs g') (he:o8 xs=res:=by rfl) (aM:qu g' N.pins 0 outs:=by (repeat' first | exact .nil | refine .no ?_)) (e7:(rs.filterMap fun | .cell t _=>some t | _=>none).Nodup:=by exact of_decide_eq_true (by kernel_rfl)) (ah:outs.length=n:=by rfl):aB .ret (pf P N rs n outs res) G:=aB.fin (Fin.ro h he e7 aM ah (.inr rfl))
end
end Go.Own
namespace Go.Own
open Go
set_option linter.unusedSectionVars false
variable [cw]
section
variable {P:Program}{N:cQ}{G:List (Nat × ab)}{g':aH}{S R:Type}
theorem aG {α β:Type}{x:Option α}{f:α->Option β}{r:β}{G:Prop}(h:x.bind f=some r) (k:∀ a,x=some a->f a=some r->G):G:=by
 obtain ⟨a,h1,af⟩:=rh h
 grind
theorem Rd.a1 {g:aH}{t:Nat}{v:Value}(h:g t=some (.lit v):=by rfl):Rd g (.tmp t) (.lit v):=.lit h
theorem Rd.z2 {g:aH}{t z n:Nat}{cs:List ab}(h:g t=some (.bf z n cs):=by rfl):Rd g (.tmp t) (.bf z n cs):=.bf h
theorem Rd.z3 {g:aH}{t z n:Nat}{cs:List ab}(h:g t=some (.own z n cs):=by rfl):Rd g (.tmp t) (.bo z ⟨t,[]⟩ n):=.own h
theorem Rd.z4 {g:aH}{t:Nat}{c:ab}{cs:List ab}(h:g t=some (.obj (c::cs)):=by rfl):Rd g (.tmp t) (.ptr ⟨t,[]⟩ 0):=.obj h
theorem Rd.z5 {g:aH}{t k:Nat}{p:Place}(h:g t=some (.ptr p k):=by rfl):Rd g (.tmp t) (.ptr p k):=.ptr h
theorem Rd.dU {g:aH}{t z n:Nat}{p:Place}(h:g t=some (.bo z p n):=by rfl):Rd g (.tmp t) (.bo z p n):=.bo h
theorem Rd.pb {g:aH}{t:Nat}{cs:List ab}(h:g t=some (.cL cs):=by rfl):Rd g (.tmp t) (.cL cs):=.cL h
theorem Rd.b3 {g:aH}{v:Value}(h:ofConst v=.lit v:=by rfl):Rd g (.const v) (.lit v):=.k h
theorem aB.da {G1:List (Nat × ab)}(h:Trim true (get G) (get G1) G1:=by (repeat' first | exact .nil | refine .n rfl ?_)):aB .normal (λe g=>e=.normal/\hN g G1) G:=aB.dw h
theorem aB.gt {s:S}{F:S->List (Nat × ab)}{dS:R->Exit->aH->Prop}(h:Trim true (get G) (get (F s)) (F s):=by (repeat' first | exact .nil | refine .n rfl ?_)):aB .normal (kL F dS (.inl s)) G:=aB.go h
theorem aB.t1 {id:Nat}{r:R}{F:S->List (Nat × ab)}{lS:R->List (Nat × ab)}(h:Trim true (get G) (get (lS r)) (lS r):=by (repeat' first | exact .nil | refine .n rfl ?_)):aB (.exit id) (kL F (λr e g=>e=.exit id/\hN g (lS r)) (.inr r)) G:=aB.aY h
theorem pk {rs:List ResultVar}{ys xs:List ab}{res:ab}{outs:List (Option ab)}{n:Nat}(h:jM P (get G) rs ys xs g':=by exact .f rfl rfl .nil) (he:o8 xs=res:=by rfl) (aM:qu g' N.pins 0 outs:=by (repeat' first | exact .nil | refine .no ?_)) (e7:(rs.filterMap fun | .cell t _=>some t | _=>none).Nodup:=by exact of_decide_eq_true (by kernel_rfl)) (ah:outs.length=n:=by rfl):aB .ret (pf P N rs n outs res) G:=by grind [mN]
end
end Go.Own
namespace Go.Own
open Go
set_option linter.unusedSectionVars false
variable [cw]
section
variable {α:Type}{P:Program}{g:aH}{ty t:TypeId}{a b:Operand}{k r z n:Nat}{cs cs':List ab}{x y:ab}{p:Place}{m:Int}{tV:IntKind}{e:TypeId}{N:cQ}{ops:Array Oper}
theorem O.bV {cY f off:Nat} [h:db P cY f off t] (J:Rd g a (.ptr ⟨r,[]⟩ k):=by exact .obj rfl) (av:g r=some (.obj cs):=by rfl) (ah:Nat.blt (k+off) cs.length=true:=by rfl):ch P g (.fieldAddr cY a f) ty (.ptr ⟨r,[]⟩ (k+off)):=O.mT av J h.p ah
theorem O.y2 {cY f off:Nat} [h:db P cY f off t] (J:Rd g a (.ptr ⟨r,[]⟩ k):=by exact .ptr rfl) (av:g r=some (.obj cs):=by rfl) (ah:Nat.blt (k+off) cs.length=true:=by rfl):ch P g (.fieldAddr cY a f) ty (.ptr ⟨r,[]⟩ (k+off)):=O.mT av J h.p ah
theorem O.ed {v:Value} [h:fE P t] (J:Rd g a (.ptr ⟨r,[]⟩ k):=by exact .ptr rfl) (av:g r=some (.obj cs):=by rfl) (aa:cs[k]?=some (.lit v):=by rfl):ch P g (.load t a) ty (.lit v):=O.o2 av J h.p aa
theorem O.fU {en:bK α}{L:List α}{y:α}{bM:Nat}(h:idx L m=some y) [aF:eI P t e bM] (J:Rd g a (.bf en.z L.length (bu en L)):=by exact .bf rfl) (ai:Rd g b (.lit (.int tV m)):=by exact .lit rfl) (aT:bM=en.z:=by rfl):ch P g (.indexAddr t a b) ty (.cL (en.cells y++bu en (L.drop (m.toNat+1)))):=O.rP J ai (aT ▸ aF.p) h
theorem O.dH [h:fE P t] (J:Rd g a (.ptr ⟨r,[]⟩ k):=by exact .ptr rfl) (av:g r=some (.obj cs):=by rfl) (aa:cs[k]?=some x:=by rfl) (ai:fY 0 ⟨r,[k]⟩ x=y:=by rfl):ch P g (.load t a) ty y:=O.zq av J h.p aa ai
theorem O.hF [h:fE P t] (J:Rd g a (.cL cs):=by exact .cL rfl) (aa:cs.head?=some x:=by rfl):ch P g (.load t a) ty x:=O.Ch J h.p aa
theorem O.yd {cY f off:Nat} [h:db P cY f off t] (J:Rd g a (.cL cs):=by exact .cL rfl):ch P g (.fieldAddr cY a f) ty (.cL (cs.drop off)):=O.A7 J h.p
theorem O.ha {bM:Nat} [h:eI P t e bM] (J:Rd g a (.bf z n cs):=by exact .bf rfl):ch P g (.call { callee:=.builtin .len,args:=#[a],argTypes:=#[t] }) ty (ae n):=O.vp J h.p
theorem cF.et {xs:List Operand}{fT:Array TypeId}{f:FuncId}{ys:List ab}{outs:List (Option ab)}{res:ab}(J:q' g xs ys) (gH:bO P f ys outs res) [ak:b6 res] (aV:gU P f=true:=by kernel_rfl) (aM:vt outs=true:=by rfl):cF P g (.call { callee:=.value (.func f),args:=xs.toArray,argTypes:=fT }) res:=by grind [cF.go]
theorem cF.rZ {xs:List Operand}{fT:Array TypeId}{f:FuncId}{ys args:List ab}{outs:List (Option ab)}{res:ab}(J:hz g xs=some ys) (hv:n1 g ys args) (gH:bO P f args outs res) [ak:nY res] (aV:gU P f=true:=by kernel_rfl) (aM:vt outs=true:=by rfl):cF P g (.call { callee:=.value (.func f),args:=xs.toArray,argTypes:=fT }) res:=by grind [cF.vw]
end
section
variable {P:Program}{N:cQ}{ops:Array Oper}{bl:List (List Nat)}{K:aH->Prop}{i:Nat}{acc:Acc}{l:List Oper}{d:Nat}
theorem b8.jr (b7:Nat) {G G2:List (Nat × ab)}{o:Oper}(he:bx P N (dz (get G) (λ_=>true) acc) o (get G2)) (hk:b8 P N ops bl (get G2) (b7+1) [] l K) (aL:o.guard=none:=by rfl) (hq:sL ((acc.filterMap lN).map Place.root)=true:=by rfl) (gJ:o4 G=true:=by rfl) (ag:Nat.beq ops.size (b7+l.length+1)=true:=by rfl) (aQ:(List.range b7).all (λk=>(bl.getD b7 []).contains k)=true:=by kernel_rfl) (ao:(List.range ops.size).all (λk=>Nat.ble k b7||(bl.getD k []).contains b7)=true:=by kernel_rfl):b8 P N ops bl (get G) i acc (o::l) K:=.yG b7 he aL hq gJ ag aQ ao hk
theorem b8.Ms (b7:Nat) {G G2:List (Nat × ab)}{o:Oper}{x:ab}(he:bx P N (dz (get G) (λ_=>true) acc) o (cR (get G2) d x)) (hk:b8 P N ops bl (get ((d,x)::G2)) (b7+1) [] l K) (aL:o.guard=none:=by rfl) (hq:sL ((acc.filterMap lN).map Place.root)=true:=by rfl) (gJ:o4 G=true:=by rfl) (ag:Nat.beq ops.size (b7+l.length+1)=true:=by rfl) (aQ:(List.range b7).all (λk=>(bl.getD b7 []).contains k)=true:=by kernel_rfl) (ao:(List.range ops.size).all (λk=>Nat.ble k b7||(bl.getD k []).contains b7)=true:=by kernel_rfl):b8 P N ops bl (get G) i acc (o::l) K:=.bv b7 he aL hq gJ ag aQ ao hk
end
end Go.Own
namespace Go.Own
open Go
set_option linter.unusedSectionVars false
variable [cw]
set_option linter.unusedVariables false
def qd:List ab->Nat->List ab->Option (List ab)
 | [],0,[]=>some []
 | [],_,_=>none
 | x::l,0,[]=>some (x::l)
 | _::l,0,y::c=>match qd l 0 c with
  | some r=>some (y::r)
  | none=>none
 | x::l,k+1,c=>match qd l k c with
  | some r=>some (x::r)
  | none=>none
theorem ns:∀ {l:List ab}{k:Nat}{c r:List ab},qd l k c=some r->ew l k c=r/\k+c.length<=l.length
 | [],0,[],r,h=>by cases h; exact ⟨rfl,Nat.le_refl _⟩
 | [],0,_::_,_,h=>by cases h
 | [],_+1,_,_,h=>by cases h
 | x::l,0,[],r,h=>by cases h; exact ⟨by simp [ew],by simp⟩
 | x::l,0,y::c,r,h=>by
  unfold qd at h
  split at h
  ·rename_i dr ak;cases h;obtain ⟨h1,af⟩:=ns ak;subst h1;exact ⟨by simp [ew],by simp at af ⊢; omega⟩
  ·cases h
 | x::l,k+1,c,r,h=>by
  unfold qd at h
  split at h
  ·rename_i dr ak;cases h;obtain ⟨h1,af⟩:=ns ak;subst h1;exact ⟨by simp [ew,Nat.add_right_comm],by simp; omega⟩
  ·cases h
theorem C2 {g g2:aH}{r:Nat}{cs2:List ab}:∀ {ks:List Nat}{G1:List (Nat × ab)},pick (cR g r (.obj cs2)) ks=some G1->(∀ e∈G1,cK e.2)->ly g g2 r cs2 G1
 | [],_,h,_=>by cases h; exact .nil
 | k::ks,G1,h,aA=>by
  unfold pick at h
  split at h
  ·rename_i x J
   split at h
   ·rename_i l ah;cases h;have au:=C2 (g2:=g2) ah λe he=>aA e (by simp [he]);by_cases e:k=r
    ·subst e;have e:x=.obj cs2:=by simpa [cR] using J.symm
     subst e;have J:cK (.obj cs2):=aA (k,.obj cs2) (by simp);have:dp cs2:=⟨by cases J; assumption⟩;exact .b rfl au
    ·have:b6 x:=⟨aA (k,x) (by simp)⟩;exact .n (by rw [<- Bool.not_eq_true,Nat.beq_eq]; exact e) (by simpa [cR,e] using J) au
   ·cases h
  ·cases h
theorem KC {g g2:aH}{ex:List Nat}:∀ {ks:List Nat}{G1:List (Nat × ab)},pick g ks=some G1->(ks.all λk=>!ex.elem k)=true->(∀ e∈G1,cK e.2)->mh ex g g2 G1
 | [],_,h,_,_=>by cases h; exact .nil
 | k::ks,G1,h,he,aA=>by
  unfold pick at h;rw [List.all_cons,Bool.and_eq_true] at he
  split at h
  ·rename_i x J
   split at h
   ·rename_i l ah;cases h;have:b6 x:=⟨aA (k,x) (by simp)⟩;exact .n (by simpa using he.1) J (KC ah he.2 λe h=>aA e (by simp [h]))
   ·cases h
  ·cases h
def Fp:List ab->Option (List ab)
 | []=>some []
 | x::l=>match Fp l with
  | some r=>some (x::r)
  | none=>none
theorem Pf:∀ {l r:List ab},Fp l=some r->l=r
 | [],r,h=>by cases h; rfl
 | x::l,r,h=>by
  unfold Fp at h
  split at h
  ·rename_i dr ak;cases h; rw [Pf ak]
  ·cases h
def Fq:ab->Option ab
 | .obj cs=>match Fp cs with
  | some r=>some (.obj r)
  | none=>none
 | .own z n cs=>some (.own z n cs)
 | _=>none
theorem Pg {x y:ab}(h:Fq x=some y):x=y:=by
 unfold Fq at h
 grind [Pf]
theorem KD {g g2:aH}{r:Nat}{x2:ab}:∀ {ks:List Nat}{G1:List (Nat × ab)},pick (cR g r x2) ks=some G1->(∀ e∈G1,cK e.2)->kN g g2 r x2 G1
 | [],_,h,_=>by cases h; exact .nil
 | k::ks,G1,h,aA=>by
  unfold pick at h
  split at h
  ·rename_i x J
   split at h
   ·rename_i l ah;cases h;have au:=KD (g2:=g2) ah λe he=>aA e (by simp [he]);by_cases e:k=r
    ·subst e;have e:x=x2:=by simpa [cR] using J.symm
     subst e;have:b6 x:=⟨aA (k,x) (by simp)⟩;exact .b rfl au
    ·have:b6 x:=⟨aA (k,x) (by simp)⟩;exact .n (by rw [<- Bool.not_eq_true,Nat.beq_eq]; exact e) (by simpa [cR,e] using J) au
   ·cases h
  ·cases h
section
variable {P:Program}{N:cQ}{ops:Array Oper}{g:aH}{K:aH->Prop}{l:List Oper}{d r k0:Nat}{ty t:TypeId}{pos:String}{after:Array Edge}{a b x:Operand}{cs cs' cs2:List ab}{y:ab}{G2:List (Nat × ab)}{u:Option (Nat × Bool)}{p q:Place}
theorem bx.iB (ks:List Nat) (aQ:Rd g a (.ptr ⟨r,[]⟩ k0):=by (first | exact .obj rfl | exact .ptr rfl)) (av:g r=some (.obj cs):=by rfl) (ao:Rd g b (.agg cs'):=by (first | exact .eK rfl rfl | exact .J3 rfl)) (he:qd cs k0 cs'=some cs2:=by rfl) (aw:pick (cR g r (.obj cs2)) ks=some G2:=by rfl) (aT:hB P t cs'.length=true:=by kernel_rfl) (aI:Nat.blt 0 cs'.length=true:=by rfl) (ak:(get G2 r).isSome=true:=by rfl) [aA:dp cs'] [eR:dp cs] [aL:jK G2]:bx P N g ⟨none,.store t a b,ty,pos,after,none⟩ (get G2) :=
 .qb rfl rfl av aQ ao rfl aT (Nat.ble_eq_true_of_le (ns he).2) aI (ns he).1 ak (C2 aw aL.p)
theorem bx.q4 (ks:List Nat) (aQ:Rd g a (.ptr ⟨r,[]⟩ k0):=by (first | exact .ptr rfl | exact .obj rfl)) (av:g r=some (.obj cs):=by rfl) (ao:Rd g b y:=by (first | exact .lit rfl | exact .k rfl | exact .aa2 rfl | exact .xr | exact .bf rfl)) (aa:n3 y=some [y]:=by rfl) (he:qd cs k0 [y]=some cs2:=by rfl) (aw:pick (cR g r (.obj cs2)) ks=some G2:=by rfl) (aT:hB P t 1=true:=by kernel_rfl) (ak:(get G2 r).isSome=true:=by rfl) [aA:b6 y] [eR:dp cs] [aL:jK G2]:bx P N g ⟨none,.store t a b,ty,pos,after,none⟩ (get G2) :=
 .qb rfl rfl av aQ ao aa aT (Nat.ble_eq_true_of_le (ns he).2) rfl (ns he).1 ak (C2 aw aL.p)
theorem bx.oH {α:Type}{en:bK α}{L:List α}(ks:List Nat) (J:Rd g x (.bo en.z p L.length):=by (first | exact .own rfl | exact .bo rfl)) (aw:bB g p=some (ar en L):=by rfl) (hk:pick g ks=some G2:=by rfl) (cN:(ks.all λk=>![p.root].elem k)=true:=by rfl) (aL:get G2 d=none:=by rfl) (bc:N.ok d=true:=by rfl) [aA:jK G2]:bx P N g ⟨some d,.assign x,ty,pos,after,u⟩ (cR (get G2) d (ar en L)) :=
 .GN rfl rfl J aw (KC hk cN aA.p) aL bc
theorem bx.wo {α:Type}{en:bK α}{L M:List α}{s:Nat}(ks:List Nat) (J:Rd g x (.bo en.z ⟨s,[]⟩ (L.length+M.length)):=by exact .bD rfl) (av:g s=some (.bD en.z q L.length M.length (bu en M)):=by rfl) (aw:bB g q=some (ar en L):=by rfl) (hk:pick g ks=some G2:=by rfl) (cN:(ks.all λk=>![s,q.root].elem k)=true:=by rfl) (ba:Nat.beq q.root s=false:=by rfl) (aL:get G2 d=none:=by rfl) (bc:N.ok d=true:=by rfl) [aA:jK G2]:bx P N g ⟨some d,.assign x,ty,pos,after,u⟩ (cR (get G2) d (ar en (L++M))) :=
 .GM rfl rfl J av aw ba (KC hk cN aA.p) aL bc
theorem bx.sp {α:Type}{en:bK α}{L M:List α}{s:Nat}{kR:List ab}(ks:List Nat) (ao:Rd g b (.bo en.z ⟨s,[]⟩ (L.length+M.length)):=by exact .bD rfl) (pS:g s=some (.bD en.z q L.length M.length (bu en M)):=by rfl) (aw:bB g q=some (ar en L):=by rfl) (aQ:Rd g a (.ptr ⟨r,[]⟩ k0):=by (first | exact .ptr rfl | exact .obj rfl)) (av:cp (cp g ⟨s,[]⟩ .dead) q .dead r=some (.obj kR):=by rfl) (he:qd kR k0 [ar en (L++M)]=some cs2:=by rfl) (hk:pick (cR (cp (cp g ⟨s,[]⟩ .dead) q .dead) r (.obj cs2)) ks=some G2:=by rfl) (ba:Nat.beq q.root s=false:=by rfl) (aT:hB P t 1=true:=by kernel_rfl) (ak:(get G2 r).isSome=true:=by rfl) [eR:dp kR] [aL:jK G2]:bx P N g ⟨none,.store t a b,ty,pos,after,none⟩ (get G2) :=
 .Ah rfl rfl aQ ao pS aw ba .l7 .hA rfl rfl aT av (Nat.ble_eq_true_of_le (ns he).2) (ns he).1 ak (C2 hk aL.p)
theorem bx.Dm {α:Type}{en:bK α}{L:List α}{kR:List ab}(ks:List Nat) (ao:Rd g b (.bo en.z p L.length):=by (first | exact .own rfl | exact .bo rfl)) (aw:bB g p=some (ar en L):=by rfl) (aQ:Rd g a (.ptr ⟨r,[]⟩ k0):=by (first | exact .ptr rfl | exact .obj rfl)) (av:cp g p .dead r=some (.obj kR):=by rfl) (he:qd kR k0 [ar en L]=some cs2:=by rfl) (hk:pick (cR (cp g p .dead) r (.obj cs2)) ks=some G2:=by rfl) (aT:hB P t 1=true:=by kernel_rfl) (ak:(get G2 r).isSome=true:=by rfl) [eR:dp kR] [aL:jK G2]:bx P N g ⟨none,.store t a b,ty,pos,after,none⟩ (get G2) :=
 .j1 rfl rfl aQ ao (.r aw .nil) .refl rfl aT av (Nat.ble_eq_true_of_le (ns he).2) rfl (ns he).1 ak (C2 hk aL.p)
theorem bx.uc {α:Type}{en:bK α}{L:List α}{hL y2:α}{m:Int}{o:Nat}{dR x2 y0:ab}(ks:List Nat) (h:idx L m=some hL) (aQ:Rd g a (.ptr p (m.toNat * en.z+o)):=by exact .ptr rfl) (aw:bB g p=some (ar en L):=by rfl) (ao:Rd g b y:=by (first | exact .lit rfl | exact .k rfl | exact .aa2 rfl | exact .xr | exact .bf rfl | exact .eK rfl rfl)) (aa:n3 y=some cs':=by rfl) (he:ew (en.cells hL) o cs'=en.cells y2:=by rfl) (iw:cp g p (ar en (L.set m.toNat y2)) p.root=some dR:=by rfl) (gC:Fq dR=some x2:=by rfl) (hk:pick (cR g p.root x2) ks=some G2:=by rfl) (aT:hB P t cs'.length=true:=by kernel_rfl) (hlen:Nat.ble (o+cs'.length) en.z=true:=by rfl) (aI:Nat.blt 0 cs'.length=true:=by rfl) (ak:(get G2 p.root).isSome=true:=by rfl) (qN:g p.root=some y0:=by rfl) [aA:b6 y] [eR:b6 y0] [aL:jK G2]:bx P N g ⟨none,.store t a b,ty,pos,after,none⟩ (get G2) :=
 .x5 rfl rfl aQ ao aw h aT aa he hlen aI (by rw [iw,Pg gC]) ak qN (KD hk aL.p)
theorem aD.fI {o:Oper}(he:bx P N g o (get G2)) (hk:aD P N ops l (get G2) K) (aL:o.guard=none:=by rfl):aD P N ops (o::l) g K:=.hR aL he hk
theorem aD.cb {o:Oper}(he:bx P N g o (cR (get G2) d y)) (hk:aD P N ops l (cR (get G2) d y) K) (aL:o.guard=none:=by rfl):aD P N ops (o::l) g K:=.qy aL he hk
end
section
variable {S R:Type}{P:Program}{N:cQ}{A B c:Code}{G:List (Nat × ab)}{Φ:Exit->aH->Prop}{id:Nat}
theorem W.eE {G1:List (Nat × ab)}(ks:List Nat) (L:List (Nat × ab)) (h:W P N c (get G) λe g=>e=.normal/\hN g G1) (hk:aB .normal Φ G1) (aw:pick (get (L++G)) ks=some G1:=by rfl):W P N c (get G) Φ:=W.dw _ h hk
theorem W.ll {G1:List (Nat × ab)}{l:List Oper}(ks:List Nat) (L:List (Nat × ab)) (h:aD P N l.toArray l (get G) λg'=>lX g' (get G1)) (hk:W P N B (get G1) Φ) (aw:pick (get (L++G)) ks=some G1:=by rfl):W P N (.seq (.region id l.toArray false) B) (get G) Φ:=W.rs _ h hk
theorem W.gL {f:S->Option (S ⊕ R)}{r:R}{cW:S->List (Nat × ab)}{lY:R->List (Nat × ab)}(s:S) (F:S->List (Nat × ab)) (ks:List Nat) (id:Nat) (X:R->List (Nat × ab)) (rR:List Nat) (h:cc f s=some r) (ao:∀ s o,f s=some o->W P N c (get (cW s)) (kL cW (λr e g=>e=.exit id/\hN g (lY r)) o)) (hk:aB (.exit id) Φ (lY r))
  (aE:∀ s,pick (get (F s++G)) ks=some (cW s):=by intro s; rfl) (tt:∀ s,pick (get (X s++G)) rR=some (lY s):=by intro s; rfl) (au:Trim true (get G) (get (cW s)) (cW s):=by (repeat' first | exact .nil | refine .n rfl ?_ | refine .w rfl rfl .ov ?_ | refine .w rfl rfl .o3 ?_ | refine .w rfl rfl (jO.obj (by (repeat' first | exact .nil | refine .f ?_ | refine .o ?_ | refine .i ?_))) ?_)):W P N (.loop c) (get G) Φ :=
 W.dn au (W.Fj cW id lY h ao hk)
theorem W.hx {gz:Type}{f:S->Option (S ⊕ (R ⊕ gz))}{r:R ⊕ gz}{cW:S->List (Nat × ab)}{lY:R->List (Nat × ab)}{s9:gz->List (Nat × ab)}(s:S) (F:S->List (Nat × ab)) (ks:List Nat) (id:Nat) (X:R->List (Nat × ab)) (rR:List Nat) (Y:gz->List (Nat × ab)) (Cf:List Nat) (h:cc f s=some r)
  (ao:∀ s o,f s=some o->W P N c (get (cW s)) (kL cW (λ(r:R ⊕ gz) e g=>match r with | .inl r=>e=.exit id/\hN g (lY r) | .inr r=>e=.ret/\hN g (s9 r)) o))
  (J:∀ x,r=.inl x->aB (.exit id) Φ (lY x)) (ak:∀ x,r=.inr x->aB .ret Φ (s9 x))
  (aE:∀ s,pick (get (F s++G)) ks=some (cW s):=by intro s; rfl) (tt:∀ s,pick (get (X s++G)) rR=some (lY s):=by intro s; rfl) (Vv:∀ s,pick (get (Y s++G)) Cf=some (s9 s):=by intro s; rfl) (au:Trim true (get G) (get (cW s)) (cW s):=by (repeat' first | exact .nil | refine .n rfl ?_ | refine .w rfl rfl .ov ?_ | refine .w rfl rfl .o3 ?_ | refine .w rfl rfl (jO.obj (by (repeat' first | exact .nil | refine .f ?_ | refine .o ?_ | refine .i ?_))) ?_)):W P N (.loop c) (get G) Φ :=
 W.dn au (W.O8 cW id lY s9 h ao J ak)
end
end Go.Own
namespace Go.Own
open Go
set_option linter.unusedSectionVars false
variable [cw]
set_option linter.unusedVariables false
inductive k7:Type 1
 | e
 | b (x y:k7)
 | fx {S R:Type}(F:S->List (Nat × ab)) (ks:List Nat) (id:Nat) (X:R->List (Nat × ab)) (rR:List Nat) (x y:k7)
 | hx {S R gz:Type}(F:S->List (Nat × ab)) (ks:List Nat) (id:Nat) (X:R->List (Nat × ab)) (rR:List Nat) (Y:gz->List (Nat × ab)) (Cf:List Nat) (x y z:k7)
 | dw {α:Type}(ks:List Nat) (L:α->List (Nat × ab)) (x y:k7)
 | fg {α:Type}(id:Nat) (ks:List Nat) (L:α->List (Nat × ab)) (y:k7)
 | rd (id:Nat) (bl:List (List Nat)) (y:k7)
 | bR {α:Type}(id:Nat) (bl:List (List Nat)) (ks:List Nat) (L:α->List (Nat × ab)) (y:k7)
 | p (y:k7)
 | fJ {α:Type}(id s:Nat) (i:Option Nat) (en:bK α) (y:k7)
 | k_ {α:Type}(s:Nat) (i:Option Nat) (en:bK α) (y:k7)
def OU:ab->Bool
 | .lit _ | .bb | .bf .. | .own .. | .obj _ | .cL _ | .dc .. | .mp _ | .imp _=>true
 | .agg cs=>cs.all λx=>match x with | .ptr .. | .bo .. | .sub .. | .gY _ | .bD .. | .dead=>false | _=>true
 | _=>false
def xt (ex:List Nat):List (Nat × ab)->Option (List Nat)
 | []=>some []
 | (k,x)::l=>match xt (k::ex) l with
  | none=>none
  | some r=>match !ex.elem k&&OU x with
   | true=>some (k::r)
   | false=>some r
def J6 (E ex:List Nat):List (Nat × ab)->Option (List Nat)
 | []=>some []
 | (k,x)::l=>match J6 E (k::ex) l with
  | none=>none
  | some r=>match E.elem k&&(!ex.elem k&&OU x) with
   | true=>some (k::r)
   | false=>some r
def roots (G:List (Nat × ab)):Operand->List Nat
 | .tmp s=>match get G s with
  | some (.own ..)=>[s]
  | some (.obj _)=>[s]
  | some (.bo _ p _)=>[s,p.root]
  | some (.ptr p _)=>[s,p.root]
  | some (.bD _ q _ _ _)=>match get G q.root with
   | some (.bD _ iz _ _ _)=>[s,q.root,iz.root]
   | _=>[s,q.root]
  | _=>[s]
 | _=>[]
def PA (F:List (Nat × ab)) (s:Nat):Nat->List ab->Option (List ab)
 | _,[]=>some []
 | i,x::l=>match PA F s (i+1) l with
  | none=>none
  | some r=>match get F (1000 * (i+1)+s) with
   | some y=>some (y::r)
   | none=>some (x::r)
def p4 (F G:List (Nat × ab)):aH:=λs=>match get F s with
 | some x=>some x
 | none=>match get G s with
  | some (.obj cs)=>match PA F s 0 cs with
   | some r=>some (.obj r)
   | none=>none
  | x=>x
def cT (E:List Nat) (t:k7) (P:Program) (N:cQ) (c:Code) (G:List (Nat × ab)) (Φ:Exit->aH->Prop):Prop:=W P N c (get G) Φ
def d_ (E:List Nat) (t:k7) (e:Exit) (Φ:Exit->aH->Prop) (G:List (Nat × ab)):Prop:=aB e Φ G
def yq (E:List Nat) (t:k7) (dS:k7->List (Nat × ab)->Prop) (g':aH):Prop:=∃ G1,lX g' (get G1)/\dS t G1
def r7 {α:Type}(F:α->List (Nat × ab)) (j:α) (e:Exit) (g:aH):Prop:=e=.normal/\hN g (F j)
def LG {R:Type}(id:Nat) (X:R->List (Nat × ab)) (r:R) (e:Exit) (g:aH):Prop:=e=.exit id/\hN g (X r)
def AB {R gz:Type}(id:Nat) (X:R->List (Nat × ab)) (Y:gz->List (Nat × ab)) (r:R ⊕ gz) (e:Exit) (g:aH):Prop:=match r with | .inl r=>e=.exit id/\hN g (X r) | .inr r=>e=.ret/\hN g (Y r)
class bz (P:Program) (f:FuncId) (p:Prop) (args:outParam (List ab)) (outs:outParam (List (Option ab))) (res:outParam ab):Prop where go:p->bO P f args outs res
section
variable {P:Program}{N:cQ}{E:List Nat}{t x y z:k7}{A B c:Code}{G G1:List (Nat × ab)}{Φ qj:Exit->aH->Prop}{dS:aH->Prop}{id k s:Nat}{b:Bool}{α β:Type}{l:List Oper}
theorem cT.rg (h:aD P N l.toArray l (get G) (yq E t λt G1=>cT E t P N B G1 Φ)):cT E t P N (.seq (.region id l.toArray false) B) G Φ :=
 W.seq (W.C4 λi hi=>by
  obtain ⟨g',h1,G1,af,aF⟩:=h i hi;exact ⟨g',h1,W.weaken af aF⟩)
theorem cT.rt (h:aD P N l.toArray l (get G) (yq E t λt G1=>d_ E t .normal Φ G1)):cT E t P N (.region id l.toArray false) G Φ :=
 W.C4 λi hi=>by
  obtain ⟨g',h1,G1,af,aF⟩:=h i hi;exact ⟨g',h1,aF g' (.eS af .hA)⟩
theorem cT.bL (h:cT E t P N A G (oz (λg1=>W P N B g1 Φ) Φ)):cT E t P N (.seq A B) G Φ:=W.seq h
theorem cT.b9 (h:cT E t P N A G (lJ id Φ)):cT E t P N (.block id A) G Φ:=W.b9 h
theorem cT.yG (h:cT E t P N A G (lJ id Φ)):cT E (.p t) P N (.block id A) G Φ:=W.b9 h
theorem cT.cZ (h:d_ E t .normal Φ G):cT E t P N .skip G Φ:=W.cZ h
theorem cT.fk (h:d_ E t (.exit k) Φ G):cT E t P N (.exit k) G Φ:=W.fk h
theorem cT.cI {X Y o:α}(h:(bif b then X else Y)=o) (c0:b=true->X=o->cT E x P N A G Φ) (aE:b=false->Y=o->cT E y P N B G Φ) (aa:get G s=some (bd b):=by rfl):cT E (.b x y) P N (.cond (.tmp s) A B) G Φ:=W.cI h aa c0 aE
theorem cT.ce {X Y o:α}(h:(bif b then X else Y)=o) (c0:b=true->X=o->cT E .e P N A G Φ) (aE:b=false->Y=o->cT E .e P N B G Φ) (aa:get G s=some (bd b):=by rfl):cT E .e P N (.cond (.tmp s) A B) G Φ:=W.cI h aa c0 aE
theorem cT.X6 {o:Operand}{m:Option α}{f:α->Option β}{r:β}{ks:List Nat}{L cW:α->List (Nat × ab)}(h:m.bind f=some r) (h1:∀ j,m=some j->cT E x P N (.cond o A B) G (r7 cW j)) (af:∀ j,m=some j->f j=some r->d_ E y .normal Φ (cW j))
  (aE:∀ j,pick (p4 (L j) G) ks=some (cW j):=by intro j; rfl):cT E (.dw ks L x y) P N (.cond o A B) G Φ:=by
 obtain ⟨j,ag,h⟩:=rh h;exact W.dw _ (h1 j ag) (af j ag h)
theorem cT.J1 {m:Option α}{f:α->Option β}{r:β}{ks:List Nat}{L cW:α->List (Nat × ab)}(h:m.bind f=some r) (h1:∀ j,m=some j->cT E x P N (.block id A) G (r7 cW j)) (af:∀ j,m=some j->f j=some r->d_ E y .normal Φ (cW j))
  (aE:∀ j,pick (p4 (L j) G) ks=some (cW j):=by intro j; rfl):cT E (.dw ks L x y) P N (.block id A) G Φ:=by
 obtain ⟨j,ag,h⟩:=rh h;exact W.dw _ (h1 j ag) (af j ag h)
theorem cT.fx {S R:Type}{f:S->Option (S ⊕ R)}{s:S}{g:R->Option β}{r:β}{F cW:S->List (Nat × ab)}{ks rR:List Nat}{X lY:R->List (Nat × ab)}(h:(cc f s).bind g=some r)
  (ao:∀ s o,f s=some o->cT E x P N c (cW s) (kL cW (LG id lY) o)) (hk:∀ dr,cc f s=some dr->g dr=some r->d_ E y (.exit id) Φ (lY dr))
  (aE:∀ s,pick (p4 (F s) G) ks=some (cW s):=by intro s; rfl) (tt:∀ s,pick (p4 (X s) G) rR=some (lY s):=by intro s; rfl) (au:Trim true (get G) (get (cW s)) (cW s):=by (repeat' first | exact .nil | refine .n rfl ?_ | refine .w rfl rfl .ov ?_ | refine .w rfl rfl .o3 ?_ | refine .w rfl rfl (jO.obj (by (repeat' first | exact .nil | refine .f ?_ | refine .o ?_ | refine .i ?_))) ?_)) :
  cT E (.fx F ks id X rR x y) P N (.loop c) G Φ:=by
 obtain ⟨dr,ah,h⟩:=rh h;exact W.dn au (W.Fj cW id lY ah ao (hk dr ah h))
theorem d_.bL (h:cT E t P N B G Φ):d_ E t .normal (oz (λg1=>W P N B g1 Φ) qj) G:=aB.bL h
theorem d_.fi (h:d_ E t (.exit k) Φ G):d_ E t (.exit k) (oz dS Φ) G:=aB.fi h
theorem d_.lr (h:d_ E t .ret Φ G):d_ E t .ret (oz dS Φ) G:=aB.lr h
theorem d_.b9 (h:d_ E t .normal Φ G):d_ E t .normal (lJ id Φ) G:=aB.b9 h
theorem d_.fa (h:d_ E t .normal Φ G):d_ E t (.exit id) (lJ id Φ) G:=aB.fa h
theorem d_.G3 (h:d_ E t (.exit k) Φ G) (hk:Nat.beq k id=false:=by rfl):d_ E t (.exit k) (lJ id Φ) G:=aB.G3 hk h
theorem d_.qw (h:d_ E t .ret Φ G):d_ E t .ret (lJ id Φ) G:=aB.qw h
theorem d_.dw {F:α->List (Nat × ab)}{j v:α}(h:some v=some j) (au:Trim true (get G) (get (F v)) (F v)):d_ E t .normal (r7 F j) G:=by
 cases h; exact aB.dw au
theorem d_.go {S R:Type}{s:S}{o:S ⊕ R}{F:S->List (Nat × ab)}{dS:R->Exit->aH->Prop}(h:some (.inl s)=some o) (au:Trim true (get G) (get (F s)) (F s)):d_ E t .normal (kL F dS o) G:=by
 cases h; exact aB.go au
theorem d_.aY {S R:Type}{r:R}{o:S ⊕ R}{F:S->List (Nat × ab)}{X:R->List (Nat × ab)}(h:some (.inr r)=some o) (au:Trim true (get G) (get (X r)) (X r)):d_ E t (.exit id) (kL F (LG id X) o) G:=by
 cases h; exact aB.aY au
variable {ops:Array Oper}{K:aH->Prop}{d:Nat}{op:Op}{ty:TypeId}{pos:String}{after:Array Edge}{v v2:ab}{ks:List Nat}{g:aH}{j cY:Nat}{cA:Bool}
theorem pG {G:List (Nat × ab)}{d:Nat}{v:ab}:cR (get G) d v=get ((d,v)::G):=rn.symm
theorem d' (aw:ch P (get G) op ty v) (hk:aD P N ops l (get ((d,v)::G)) K) (bc:N.ok d=true:=by rfl) (aV:get G d=none:=by rfl):aD P N ops (⟨some d,op,ty,pos,after,none⟩::l) (get G) K:=aj aw (pG ▸ hk) bc aV
theorem LV (aw:cF P (get G) op v) (hk:aD P N ops l (get ((d,v)::G)) K) (bc:N.ok d=true:=by rfl) (aV:get G d=none:=by rfl):aD P N ops (⟨some d,op,ty,pos,after,none⟩::l) (get G) K:=gn aw (pG ▸ hk) bc aV
theorem dZ (aw:ch P (get G) op ty v) (hk:aD P N ops l (get ((d,v)::G)) K) (h:(ops[j]?).bind (·.dst)=some cY:=by rfl) (aL:get G cY=some (.lit (.bool cA)):=by rfl) (ao:cA=b:=by (first | rfl | assumption)) (bc:N.ok d=true:=by rfl) (aV:get G d=none:=by rfl):aD P N ops (⟨some d,op,ty,pos,after,some (j,b)⟩::l) (get G) K:=.v aw bc aV (.oB h aL ao) (pG ▸ hk)
theorem LB (aw:cF P (get G) op v) (hk:aD P N ops l (get ((d,v)::G)) K) (h:(ops[j]?).bind (·.dst)=some cY:=by rfl) (aL:get G cY=some (.lit (.bool cA)):=by rfl) (ao:cA=b:=by (first | rfl | assumption)) (bc:N.ok d=true:=by rfl) (aV:get G d=none:=by rfl):aD P N ops (⟨some d,op,ty,pos,after,some (j,b)⟩::l) (get G) K:=.c aw bc aV (.oB h aL ao) (pG ▸ hk)
theorem qo (hk:aD P N ops l (get ((d,.bI [])::G)) K) (h:(ops[j]?).bind (·.dst)=some cY:=by rfl) (aL:get G cY=some (.lit (.bool cA)):=by rfl) (ao:cA=!b:=by (first | rfl | assumption)) (bc:N.ok d=true:=by rfl) (aV:get G d=none:=by rfl):aD P N ops (⟨some d,op,ty,pos,after,some (j,b)⟩::l) (get G) K:=.ps h aL ao bc aV (pG ▸ hk)
theorem Rq (hk:aD P N ops l (get ((d,.bI [])::G)) K) (h:(ops[j]?).bind (·.dst)=some cY:=by rfl) (aL:get G cY=some (.bI []):=by rfl) (bc:N.ok d=true:=by rfl) (aV:get G d=none:=by rfl):aD P N ops (⟨some d,op,ty,pos,after,some (j,b)⟩::l) (get G) K:=.pu h aL bc aV (pG ▸ hk)
theorem Hp {p:Prop}{X Y o:α}(h:(bif b then X else Y)=o) (c0:b=true->X=o->p) (aE:b=false->Y=o->p):p:=by
 cases b
 ·exact aE rfl h
 ·exact c0 rfl h
theorem GC {DC:k7->List (Nat × ab)->Prop}(ky:J6 E [] G=some ks) (aw:pick (get G) ks=some G1) [aA:jK G1] (hk:DC t G1):aD P N ops [] (get G) (yq E t DC):=.nil ⟨G1,(vG (c:=true) (g2:=get G1) aw aA.p).eS,hk⟩
theorem cT.fg {m:Option α}{f:α->Option β}{r:β}{ks:List Nat}{L cW:α->List (Nat × ab)}(h:m.bind f=some r) (h1:∀ j,m=some j->aD P N l.toArray l (get G) (r7 cW j .normal)) (af:∀ j,m=some j->f j=some r->cT E y P N B (cW j) Φ)
  (aE:∀ j,pick (p4 (L j) G) ks=some (cW j):=by intro j; rfl):cT E (.fg id ks L y) P N (.seq (.region id l.toArray false) B) G Φ:=by
 obtain ⟨j,ag,h⟩:=rh h;exact W.seq (W.C4 λi hi=>by
  obtain ⟨g',bP,_,eP⟩:=h1 j ag i hi;exact ⟨g',bP,W.be (af j ag h) eP⟩)
theorem Rm {F:α->List (Nat × ab)}{j v:α}(h:some v=some j) (au:Trim true (get G) (get (F v)) (F v)):aD P N ops [] (get G) (r7 F j .normal):=by
 cases h; exact .nil ⟨rfl,.eS au.eS .hA⟩
end
end Go.Own
namespace Go.Own
open Go Go.Lib
set_option linter.unusedSectionVars false
variable [cw]
section
variable {P:Program}{w:World}
theorem Zv (t u ty e:TypeId) (i:TypeInfo) (au:P.underlying t=some (.slice e)) (hu:P.underlying u=some .string) (hi:P.info? e=some i) (aT:i.zero=some (.int .u8 0)) (u7:i.size=1) (pL:i.bytes=1)
  {bv:Value}{n:Nat}{us:List Value}(iq:w.ownsRow 0 e 1 bv n us) (s:ByteArray) (mU:n+s.size<=maxLen) (wT:n+s.size<=140737488355328) :
  ∃ dB w',(Builtin.append_ #[t,u] ty #[bv,.string s]).run P w=.ok dB w'/\yg w w' bv dB e e 1 n s.size us (strCells s):=by
 have iu:us.length=n:=by simpa using iq.1
 have ah:=strCells_length s;have W0:n+s.size<=9223372036854775807:=by simp only [maxLen] at mU; omega
 have hlen:(us++strCells s).length=(n+s.size) * 1:=by rw [List.length_append,iu,ah,Nat.mul_one]
 have aV:=λw=>run_firstCells_string (P:=P) w 1 s;by_cases hm:s.size=0
 ·have aA:strCells s=[]:=List.eq_nil_of_length_eq_zero (by rw [ah,hm]);refine ⟨bv,w,?_,.same iq (λ_ _=>rfl) (Nat.le_refl _) rfl rfl rfl (by simpa [hm,aA] using iq) (λc aa=>.inl aa) λ_=>rfl⟩;have qF:=aV w;rw [hm] at qF;obtain ⟨_,br⟩:=iq;rcases br with ⟨rfl,rfl⟩ | ⟨b,cap,cur,rfl,_,aL,hle,_⟩
  ·simp [Builtin.append_,run_underlying au,run_underlying hu,sizeOf,typeInfo,hi,u7,Builtin.lenOf,hm,qF]
  ·simp [Builtin.append_,run_underlying au,run_underlying hu,sizeOf,typeInfo,hi,u7,Builtin.lenOf,hm,qF,aA,hle,storeCells]
 have grown:∀ iy:Nat,iy<n+s.size ->
   (w.drew.alloc (.cells (us.toArray++(strCells s).toArray++Builtin.zeroCells (Value.int .u8 0).cells (grownCap w (n+s.size) iy e - (n+s.size))) e)).ownsRow 0 e 1
    (.slice (some ⟨w.heap.size,0,none⟩) (n+s.size) (grownCap w (n+s.size) iy e)) (n+s.size) (us++strCells s):=by
  intro iy aM;refine ⟨hlen,.inr ⟨w.heap.size,_,_,rfl,Nat.zero_le _,pr w.drew _,grownCap_ge w (n+s.size) iy e,grownCap_le_maxLen w (n+s.size) iy e mU,?_,?_⟩⟩
  ·have dx:=grownCap_ge w (n+s.size) iy e;have sI:(Value.int IntKind.u8 0).cells.size=1:=rfl;simp only [Array.size_append,List.size_toArray,size_zeroCells,sI,iu,ah];omega
  ·simp only [Array.toList_append,List.append_assoc];rw [<- List.append_assoc,<- hlen];exact List.take_left
 have w1:=iq;obtain ⟨_,br⟩:=iq;rcases br with ⟨rfl,rfl⟩ | ⟨b,cap,cur,rfl,_,aL,hle,l3,gB,zi⟩
 ·have J:us=[]:=List.eq_nil_of_length_eq_zero iu;subst J;have ak:=run_append_nil_string (P:=P) w t u ty e i (.int .u8 0) au hu hi aT s (by omega) (by omega) (by rw [pL]; omega);have nM:=grown 0 (by omega);simp only [Nat.zero_add,List.nil_append,Array.empty_append] at nM ⊢;have bP:(s.data.map λb=>Value.int .u8 b.toNat)=(strCells s).toArray:=by
   apply Array.ext';simp [strCells]
  rw [bP] at ak;exact ⟨_,_,ak,.same w1 (λc aa=>alloc_old w.drew _ c aa) (by simp) rfl rfl rfl (by simpa using nM) (λc aa=>.inr (by simp [Value.ownBlock] at aa; omega)) (λa=>A' w.drew _ _ a)⟩
 ·have kU:cur.size=cap:=by simpa using gB
  have W7:cur.toList.take n=us:=by simpa using zi
  by_cases u5:n+s.size<=cap
  ·have bQ:=run_storeCells_at P b n e (strCells s) 0 cur w aL (by rw [ah]; omega) (strCells_oneCell s);simp only [Nat.add_zero,ah] at bQ;have ak:(Builtin.append_ #[t,u] ty #[.slice (some ⟨b,0,none⟩) n cap,.string s]).run P w =
     .ok (.slice (some ⟨b,0,none⟩) (n+s.size) cap) (w.setRow b (cur.toList.take n++strCells s++cur.toList.drop (n+s.size)).toArray):=by
    simp [Builtin.append_,run_underlying au,run_underlying hu,sizeOf,typeInfo,hi,u7,Builtin.lenOf,u5,aV,Addr.add_lit,bQ]
   have dO:(cur.toList.take n++strCells s++cur.toList.drop (n+s.size)).toArray.size=cur.size:=by
    simp only [List.size_toArray,List.length_append,List.length_take,List.length_drop,Array.length_toList,ah];omega
   have hJ:(cur.toList.take n++strCells s++cur.toList.drop (n+s.size)).take (n * 1)=cur.toList.take (n * 1):=by
    rw [List.append_assoc,Nat.mul_one];exact List.take_left' (by simp; omega)
   refine ⟨_,_,ak,⟨⟨by rw [iu,Nat.mul_one],.inr ⟨b,cap,_,rfl,Nat.zero_le _,setRow_heap w b cur _ e _ aL,hle,l3,dO.trans gB,?_⟩⟩,⟨hlen,.inr ⟨b,cap,_,rfl,Nat.zero_le _,setRow_heap w b cur _ e _ aL,u5,l3,dO.trans gB,?_⟩⟩,
    ⟨rfl,rfl,rfl,by simp,λk _ hk=>setRow_other w b k _ (λe=>hk (by simp [Value.ownBlock,e])),λa _ _=>Eo w b _ a,Nat.le_refl _⟩,λc aa=>.inl aa,λc aa=>?_⟩⟩
   ·rw [<- zi]; exact hJ
   ·rw [W7,<- hlen];exact List.take_left
   ·simp only [Value.ownBlock,Option.some.injEq] at aa;subst aa;exact ⟨cur,_,aL,setRow_heap w b cur _ e _ aL,dO,hJ⟩
  ·have holds:∀ (j:Nat) (u:Value),us[j]?=some u->w.cell? ((⟨b,0,none⟩:Addr).add j)=some u:=w1.cells (g:=b) rfl;have ak:=run_append_grow_string (P:=P) w t u ty e i (.int .u8 0) au hu hi aT ⟨b,0,none⟩ n cap us (by rw [u7]; simpa using iu) holds s (by omega) (by omega) (by rw [pL]; exact growslice_fits (by omega) (by omega));have nM:=grown cap (by omega);exact ⟨_,_,ak,.same w1 (λc aa=>alloc_old w.drew _ c aa) (by simp) rfl rfl rfl nM (λc aa=>.inr (by simp [Value.ownBlock] at aa; omega)) (λa=>A' w.drew _ _ a)⟩
theorem aaS {ops:Array Oper}{rest:List Oper}{o:Oper}{a:Act}{Q:Exit->Act->World->Prop}(rv:o.guard=none) (sT x:Operand) (t u:TypeId)
  (aM:o.op=.call { callee:=.builtin .append,args:=#[sT,x],argTypes:=#[t,u] }) 
  (e:TypeId) (i:TypeInfo) (au:P.underlying t=some (.slice e)) (hu:P.underlying u=some .string) (hi:P.info? e=some i) (aT:i.zero=some (.int .u8 0)) (u7:i.size=1) (pL:i.bytes=1)
  (v:Value) (n:Nat) (xs:List Value) (av:a.eval sT=v) (iQ:w.ownsRow 0 e 1 v n xs) (s:ByteArray) (J:a.eval x=.string s) (mU:n+s.size<=maxLen) (wT:n+s.size<=140737488355328)
  (h:∀ dB w',yg w w' v dB e e 1 n s.size xs (strCells s)->wpList P ops Q rest (a.put o.dst dB) w'):wpList P ops Q (o::rest) a w:=by
 refine wpList_plain rv λK dk=>?_;obtain ⟨dB,w',ak,af⟩:=Zv (P:=P) (w:=w) t u o.type e i au hu hi aT u7 pL iQ s mU wT;unfold Oper.wp execOp;simp only [aM,resolve,invoke,builtin,Sem.run_bind,Sem.run_pure,Result.andThen_ok,List.map_toArray,List.map_cons,List.map_nil,av,J,ak];exact dk _ _ (h dB w' af)
end
end Go.Own
