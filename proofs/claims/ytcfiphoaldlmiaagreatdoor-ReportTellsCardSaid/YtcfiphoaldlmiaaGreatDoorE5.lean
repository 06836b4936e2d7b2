/- Parts of the proof that the last text states. -/
import Derived.Deep.Draws
import Derived.Deep.LoopGhost
import Derived.KernelRfl
import Derived.Laws.CopyRow
import Derived.Lib.SliceRun
import Derived.Lib.SlicesCompact
import Derived.Lib.Walk
import Derived.Maps.OwnIn
import Derived.Shelf.RegionOpenPlain
import Derived.Shelf.SlLaysQ
import Derived.Shelf.SlSortCmp.NoneTotal
import Derived.Shelf.SlicesE.Kit
import Derived.Shelf.SlicesQ.Load
import Derived.Shelf.Strings.BuilderK
import Derived.Sort.WalkB12
import Derived.StringKeys
import Derived.WalkKit
import Derived.Test.YtcfiphoaldlmiaaGreatDoorE4
namespace Go.Own
open Go
set_option linter.unusedSectionVars false
variable [cw]
section
variable {α β:Type}{P:Program}{N:cN}{g g1:aG}{p:Place}{m:Int}{a b:Operand}{t:TypeId}
theorem ab.L7:∀ (l:List Nat) {x nd:ab}{k:Nat}{c:ab},x.at l=some nd->nd.kids[k]?=some c->x.at (l++[k])=some c
 | [],x,nd,k,c,h,hk=>by
  simp only [ab.at,Option.some.injEq] at h;subst h;simp [ab.at,hk]
 | aa::l,x,nd,k,c,h,hk=>by
  simp only [ab.at] at h;cases ag:x.kids[aa]? with
  | none=>rw [ag] at h; cases h
  | some y =>
   rw [ag] at h;simp only [List.cons_append,ab.at,ag];exact ab.L7 l h hk
theorem ab.P7:∀ (l:List Nat) {x nd:ab}{k:Nat}{c:ab}(y:ab),x.at l=some nd->nd.kids[k]?=some c->x.setAt (l++[k]) y=x.setAt l (nd.tT k y)
 | [],x,nd,k,c,y,h,hk=>by
  simp only [ab.at,Option.some.injEq] at h;subst h;simp [ab.setAt,hk]
 | aa::l,x,nd,k,c,y,h,hk=>by
  simp only [ab.at] at h;cases ag:x.kids[aa]? with
  | none=>rw [ag] at h; cases h
  | some z =>
   rw [ag] at h;simp only [List.cons_append,ab.setAt,ag];rw [ab.P7 l y h hk]
theorem MQ {en:bz α}{L:List α}{hL:α}{o:Nat}{c:ab}(h:idx L m=some hL) (J:(en.cells hL)[o]?=some c):(ar en L).kids[m.toNat * en.z+o]?=some c:=PK en h J
theorem r4 {en:bz α}{L:List α}{hL:α}{r o:Nat}{path:List Nat}{c:ab}(av:bu g ⟨r,path⟩=some (ar en L)) (h:idx L m=some hL) (J:(en.cells hL)[o]?=some c):bu g ⟨r,path++[m.toNat * en.z+o]⟩=some c:=by
 unfold bu at av ⊢;simp only at av ⊢;cases j:g r with
 | none=>rw [j] at av; cases av
 | some x =>
  rw [j] at av;exact ab.L7 path av (MQ h J)
theorem P_ {en:bz α}{L:List α}{hL:α}{r o:Nat}{path:List Nat}{c:ab}(y:ab) (av:bu g ⟨r,path⟩=some (ar en L)) (h:idx L m=some hL) (J:(en.cells hL)[o]?=some c) :
  cc g ⟨r,path++[m.toNat * en.z+o]⟩ y=cc g ⟨r,path⟩ (.own en.z L.length ((bw en L).set (m.toNat * en.z+o) y)):=by
 funext s;unfold cc;simp only;split
 ·rename_i e;subst e;unfold bu at av;simp only at av;cases j:g s with
  | none=>rfl
  | some x =>
   rw [j] at av;simp only [Option.map_some,Option.some.injEq];rw [ab.P7 path y av (MQ h J)];rfl
 ·rfl
theorem Zq (l:List ab) (k:Nat) (x c:ab):ew (l.set k x) k [c]=ew l k [c]:=by
 unfold ew;simp only [List.length_singleton];rw [List.take_set,List.drop_set];rw [List.set_eq_of_length_le (by simp; omega)];simp
theorem bF.Dg {gW:Oper}{en:bz α}{en2:bz β}{L:List α}{hL y2:α}{qb M R:List β}{o s J4:Nat}{new cK:List ab}{x2 y0:ab}{G2:List (Nat × ab)}
  (aM:gW.op=.store t a b) (aO:gW.dst=none) (aQ:Rd g a (.ptr p (m.toNat * en.z+o))) (au:Rd g b (.bn en2.z ⟨s,[]⟩ (qb.length+J4)))
  (pL:g s=some (.bC en2.z ⟨p.root,p.path++[m.toNat * en.z+o]⟩ qb.length J4 new)) (av:bu g p=some (ar en L)) (h:idx L m=some hL) (jy:(en.cells hL)[o]?=some (ar en2 qb)) (ba:Nat.beq p.root s=false)
  (h1:fc (cc (cc g ⟨s,[]⟩ .dead) p (.own en.z L.length ((bw en L).set (m.toNat * en.z+o) .dead))) new cK g1)
  (nF:gj cK (bw en2 M)) (hm:M.length=J4) (aV:qb++M=R) (aS:hc P t 1=true)
  (sn:bu g1 p=some (.own en.z L.length ((bw en L).set (m.toNat * en.z+o) .dead)))
  (he:ew (en.cells hL) o [ar en2 R]=en.cells y2) (hlen:Nat.ble (o+1) en.z=true)
  (gZ:cc g1 p (ar en (L.set m.toNat y2)) p.root=some x2) (aj:(get G2 p.root).isSome=true) (sx:g1 p.root=some y0) [eN:b9 y0] (cT:kM g1 (get G2) p.root x2 G2):bF P N g gW (get G2):=by
 subst hm aV;have Bv:=Nat.le_of_ble_eq_true hlen;have j':=KA en (cs':=[ar en2 (qb++M)]) h he (by simpa using Bv);have pG:(L.set m.toNat y2).length=L.length:=List.length_set;have EO:=Nat.ne_of_beq_eq_false ba;have A6:bu g ⟨p.root,p.path++[m.toNat * en.z+o]⟩=some (ar en2 qb):=r4 (g:=g) (r:=p.root) (path:=p.path) av h jy;have Wj:bu (cc g ⟨s,[]⟩ .dead) p=some (ar en L):=by
  unfold bu at av ⊢;rw [xF (p:=⟨s,[]⟩) (λe=>EO e)]; exact av
 have ak:fc g [.bn en2.z ⟨s,[]⟩ (qb.length+M.length)] [.own en2.z (qb.length+M.length) (bw en2 qb++cK)] g1:=by
  refine .lK pL A6 ba ?_ .nil;rw [P_ .dead (r:=p.root) (path:=p.path) Wj h jy];exact h1
 have hk:m.toNat * en.z+o+1<=L.length * en.z:=by
  obtain ⟨zH,kg,_⟩:=qu h;have af:m.toNat+1<=L.length:=by omega
  calc m.toNat * en.z+o+1<=m.toNat * en.z+en.z:=by omega
   _=(m.toNat+1) * en.z:=by rw [Nat.add_mul]; omega
   _<=L.length * en.z:=Nat.mul_le_mul_right _ af
 refine .store aM aO aQ.bj au.bj ak.take (y':=ar en2 (qb++M)) ?_ rfl aS (p:=p) (nd:=.own en.z L.length ((bw en L).set (m.toNat * en.z+o) .dead)) (z:=en.z) (n:=L.length) (cs:=(bw en L).set (m.toNat * en.z+o) .dead) sn (.inl rfl) ?_ (by simp) (λt x j=>?_) (λt x j y ai=>?_) (λt z q n m new j=>?_) (by intro e; rw [e] at aj; cases aj)
 ·rw [<- Fu]; exact (nF.pre _).own
 ·simp only [List.length_singleton,List.length_set,nn]; exact hk
 ·have ft:(ab.own en.z L.length ((bw en L).set (m.toNat * en.z+o) .dead)).ew (m.toNat * en.z+o) [ar en2 (qb++M)]=ar en (L.set m.toNat y2):=by
   show ab.own en.z L.length (ew ((bw en L).set (m.toNat * en.z+o) .dead) (m.toNat * en.z+o) [ar en2 (qb++M)])=_;unfold ar at j' ⊢;rw [Zq,j',pG]
  rw [ft];rcases cT.spec t x j with ⟨h1,af,_⟩ | ⟨h1,af,_⟩
  ·rw [xF h1]; exact af
  ·subst h1 af; exact gZ
 ·rcases cT.spec t x j with ⟨h1,af,aJ⟩ | ⟨h1,af,aJ⟩
  ·rw [af] at ai; cases ai;rcases aJ with aJ | ⟨aJ,c2,rfl⟩
   ·exact aJ.Ky
   ·refine j7.ref (by cases aJ; rfl) ⟨aJ.Pl,aJ.clear ?_,aJ.Kb⟩;intro e;obtain ⟨gN,pp⟩:=p;simp only at e;subst e;simp only [cc,if_true,sx,Option.map_some,ab.setAt,Option.some.injEq] at gZ;cases gZ
  ·subst h1; rw [sx] at ai; cases ai; exact .bd eN.bd
 ·rcases cT.spec t _ j with ⟨_,_,aJ | ⟨aJ,_⟩⟩ | ⟨_,_,aJ⟩
  ·exact aJ.fg _ _ _ _ _ rfl
  ·exact aJ.fg _ _ _ _ _ rfl
  ·cases aJ
end
end Go.Own
/- Short forms for printed walks. -/
namespace Go.Own
open Go
set_option linter.unusedSectionVars false
variable [cw]
section
variable {P:Program}{N:cN}{ops:Array Oper}{a':List (List Nat)}{g g0:aG}{K:aG->Prop}{l:List Oper}{acc:Acc}{d i:Nat}{op:Op}{ty:TypeId}{pos:String}{after:Array Edge}{x:ab}
theorem aq (av:b5 P g op ty x) (hk:aC P N ops l (cH g d x) K) (a8:N.ok d=true:=by rfl) (aU:g d=none:=by rfl):aC P N ops (⟨some d,op,ty,pos,after,none⟩::l) g K:=.v av a8 aU .none hk
theorem hE (av:c3 P g op x) (hk:aC P N ops l (cH g d x) K) (a8:N.ok d=true:=by rfl) (aU:g d=none:=by rfl):aC P N ops (⟨some d,op,ty,pos,after,none⟩::l) g K:=.c av a8 aU .none hk
theorem aT (bL:Nat) (av:b5 P (jq a' g0 bL acc) op ty x) (hk:b1 P N ops a' g0 i ((bL,d,some x)::acc) l K) (ag:Nat.beq ops.size (bL+l.length+1)=true:=by rfl) (aU:g0 d=none:=by rfl) (az:acc.all (λe=>!Nat.beq e.2.1 d)=true:=by rfl) (a8:N.ok d=true:=by rfl) :
  b1 P N ops a' g0 i acc (⟨some d,op,ty,pos,after,none⟩::l) K:=.v bL av ag aU az a8 .none hk
theorem lz (bL:Nat) (av:c3 P (jq a' g0 bL acc) op x) (hk:b1 P N ops a' g0 i ((bL,d,some x)::acc) l K) (ag:Nat.beq ops.size (bL+l.length+1)=true:=by rfl) (aU:g0 d=none:=by rfl) (az:acc.all (λe=>!Nat.beq e.2.1 d)=true:=by rfl) (a8:N.ok d=true:=by rfl) :
  b1 P N ops a' g0 i acc (⟨some d,op,ty,pos,after,none⟩::l) K:=.c bL av ag aU az a8 .none hk
end
instance {z n:Nat}{cs:List ab}:mI (.own z n cs):=⟨by simp⟩
def aF (a n:Nat) (l:List Nat):List Nat:=List.range' a n++l
end Go.Own
namespace Go.Own
open Go
set_option linter.unusedSectionVars false
variable [cw]
section
variable {α:Type}{P:Program}{N:cN}{g:aG}{d r:Nat}{ty:TypeId}
instance {fn:Fn}{cs:List ab} [h:df cs]:b9 (.c7 fn [] cs):=⟨.c7 (by simp) h.bd⟩
theorem O.Fe {fn:Fn}{caps:List Operand}{b:List ab}(au:Own.fZ g caps=some b):b5 P g (.makeFunc fn #[] caps.toArray) ty (.c7 fn [] b):=.Cx (.makeFunc rfl (by simpa using au))
theorem View.cl {fn:Fn}{cs cs':List ab}(h:n1 g cs cs'):View g (.c7 fn [] cs) (.c7 fn [] cs'):=.c7 h.len h.get
theorem fp.jn {o:Oper}{xs:List Operand}{fI:Array TypeId}{f:FuncId}{ys args:List ab}{res:ab}{en:bz α}{L L':List α}{G2:List (Nat × ab)}(aM:o.op=.call { callee:=.value (.func f),args:=xs.toArray,argTypes:=fI }) (aO:o.dst=some d) (j:Own.fZ g xs=some (.bn en.z ⟨r,[]⟩ L.length::ys))
  (ax:g r=some (ar en L)) (hv:n1 (get ((r,.dead)::G2)) ys args) (gp:bH P f (ar en L::args) (some (ar en L')::args.map λ_=>none) res) (aU:gR P f=true) [aj:nY res] [wN:nY (ar en L')]
  (cT:Trim false (cc g ⟨r,[]⟩ .dead) (get ((r,.dead)::G2)) G2) (aI:get G2 d=none) (pM:Nat.beq r d=false) (uH:Trim false (get ((r,ar en L')::G2)) (get ((r,ar en L')::G2)) G2) (a8:N.ok d=true) :
  fp P N g o d (get ((d,res)::(r,ar en L')::G2)):=by
 have tB:r≠d:=Nat.ne_of_beq_eq_false pM;have AL:get ((r,ab.dead)::G2) r=some .dead:=by simp [get]
 have mu:∀ x∈bw en L,cE x:=by
  intro x j;obtain ⟨a,_,aQ⟩:=List.mem_flatMap.1 j;exact en.bd a x aQ
 have hK:(bw en L).take (L.length * en.z)=bw en L:=List.take_of_length_le (by rw [nn]; exact Nat.le_refl _);have tI:gF (cc g ⟨r,[]⟩ .dead) (get ((r,.dead)::G2)):=by
  refine ⟨λt x h=>?_,λt x h=>?_,λt z q n m new h=>?_⟩
  all_goals
   simp only [get] at h
   split at h
  ·rename_i e; subst e; cases h; simp [cc,ax,ab.setAt]
  ·obtain ⟨⟨y,h1,_,aJ⟩,_⟩:=cT.spec t x h; rw [<- aJ rfl]; exact h1
  ·cases h; exact .bd .dead
  ·exact (cT.spec t x h).2.1
  ·cases h
  ·exact (cT.spec t _ h).2.2 _ _ _ _ _ rfl
 have put:p0 (get ((r,.dead)::G2)) [(⟨r,[]⟩,ar en L')]=get ((r,ar en L')::G2):=by
  funext t;simp only [p0,cc,get];by_cases h:t=r
  ·simp [h,ab.setAt]
  ·simp [h]
 have tJ:gF (get ((r,ar en L')::G2)) (get ((r,ar en L')::G2)):=by
  refine ⟨λt x h=>h,λt x h=>?_,λt z q n m new h=>?_⟩
  all_goals
   simp only [get] at h
   split at h
  ·cases h; exact .bd wN.kW.bd
  ·exact (uH.spec t x h).2.1
  ·cases h
  ·exact (uH.spec t _ h).2.2 _ _ _ _ _ rfl
 have ah:=hv.len;have q3:get ((d,res)::(r,ar en L')::G2)=cH (get ((r,ar en L')::G2)) d res:=by
  funext t;rw [q7]
 rw [q3];refine x0.ok (first:=[]) (caps:=[]) (ys:=.bn en.z ⟨r,[]⟩ L.length::ys) (tk:=λk=>k == 0) (vw:=true) (outs:=some (ar en L')::args.map λ_=>none) (g1:=cc g ⟨r,[]⟩ .dead) (g2:=get ((r,.dead)::G2)) (g4:=get ((r,ar en L')::G2)) (l:=[(⟨r,[]⟩,ar en L')]) (ks:=λ_=>0) (xs0:=.bn en.z ⟨r,[]⟩ L.length::ys.map λ_=>.dead) (xs1:=ar en L::ys.map λ_=>.dead) (args:=ar en L::args) (res:=res) aM aO rfl (by simpa using j)
  ⟨aU,by simp,by simpa using ah,λk x h=>?_,?_,tI,λk x y j ai=>?_,gp,by simpa using aj.kW,λk x h=>?_,λaa p x ag=>?_,by simp,λi aa hi ag _=>by simp at hi ag; omega,by rw [put]; exact tJ⟩ ?_ a8 ug.refl
 ·simp only [List.nil_append,List.append_nil] at h;cases k with
  | zero=>exact .inl h
  | succ k =>
   refine .inr ?_;simp only [List.getElem?_cons_succ] at h ⊢;rw [List.getElem?_map,h]; rfl
 ·have h1:Take (cc g ⟨r,[]⟩ .dead) ((bw en L).take (L.length * en.z)) (bw en L) (cc g ⟨r,[]⟩ .dead):=by rw [hK]; exact .bd mu
  refine .bn (N:=L.length) (by simp [bu,ax,ab.at]) (Nat.le_refl _) h1 (.bd λx j=>?_);obtain ⟨_,_,rfl⟩:=List.mem_map.1 j;exact .dead
 ·simp only [List.nil_append,List.append_nil] at j;cases k with
  | zero=>simpa using ai
  | succ k =>
   simp only [List.getElem?_cons_succ] at j ai;exact ⟨rfl,hv.get k x y j ai⟩
 ·cases k with
  | zero=>simp only [List.getElem?_cons_zero,Option.some.injEq] at h; subst h; exact wN.kW
  | succ k =>
   simp only [List.getElem?_cons_succ,List.getElem?_map] at h;cases aQ:args[k]? <;> rw [aQ] at h <;> cases h
 ·cases aa with
  | succ aa=>simp at ag
  | zero =>
   simp only [List.getElem?_cons_zero,Option.some.injEq,Prod.mk.injEq] at ag;obtain ⟨rfl,rfl⟩:=ag;exact ⟨rfl,by simp [bu,AL,ab.at],.inl ⟨en.z,L.length,bw en L,rfl,by simp [bu,ax,ab.at]⟩,λ_ h=>by cases h⟩
 ·simp only [get,if_neg (Ne.symm tB)]; exact aI
end
end Go.Own
namespace Go.Own
open Go Go.Proofs Go.Shelf Go.Lib Go.Sort
set_option linter.unusedSectionVars false
variable [cw]
section
variable {P:Program}{w:World}
def Cw {α:Type} [DecidableEq α] (lt:α->α->Bool) (l:List α):Bool :=
 l.all λa=>!lt a a&&l.all λb=>(lt a b||lt b a||decide (a=b))&&l.all λc=>(!(lt a b&&lt b c)||lt a c)&&(lt a b||lt b c||!lt a c)
def nL {α:Type}(ho:α->α->Option Int) (a b:α):Bool:=decide ((ho a b).getD 0<0)
def ins {α:Type}(lt:α->α->Bool) (x:α):List α->List α
 | []=>[x]
 | y::l=>if lt y x then y::ins lt x l else x::y::l
def jZ {α:Type}(lt:α->α->Bool):List α->List α
 | []=>[]
 | x::l=>ins lt x (jZ lt l)
theorem Jz {α:Type}(lt:α->α->Bool) (x:α):∀ l:List α,(ins lt x l).Perm (x::l)
 | []=>.refl _
 | y::l=>by
  unfold ins;split
  ·exact ((Jz lt x l).cons y).trans (.swap x y l)
  ·exact .refl _
theorem y5 {α:Type}(lt:α->α->Bool):∀ l:List α,(jZ lt l).Perm l
 | []=>.refl _
 | x::l=>(Jz lt x _).trans ((y5 lt l).cons x)
theorem OB {α:Type}{lt:α->α->Bool}(a_:SWO lt) (x:α):∀ l:List α,l.Pairwise (λa b=>(!lt b a)=true)->(ins lt x l).Pairwise λa b=>(!lt b a)=true
 | [],_=>List.pairwise_singleton _ _
 | y::l,h=>by
  obtain ⟨h1,af⟩:=List.pairwise_cons.1 h;unfold ins;split
  ·rename_i aN;refine List.pairwise_cons.2 ⟨λz aS=>?_,OB a_ x l af⟩;rcases List.mem_cons.1 ((Jz lt x l).mem_iff.1 aS) with rfl | aS
   ·cases J:lt z y with
    | false=>rfl
    | true=>have:=a_.trans _ _ _ aN J; rw [a_.irrefl] at this; cases this
   ·exact h1 z aS
  ·rename_i aN;have aN:lt y x=false:=by simpa using aN
   refine List.pairwise_cons.2 ⟨λz aS=>?_,h⟩;rcases List.mem_cons.1 aS with rfl | aS
   ·rw [aN]; rfl
   ·have aS:=h1 z aS;simp only [Bool.not_eq_true'] at aS ⊢;exact a_.ntrans _ _ _ aS aN
theorem JA {α:Type}{lt:α->α->Bool}(a_:SWO lt):∀ l:List α,(jZ lt l).Pairwise λa b=>(!lt b a)=true
 | []=>.nil
 | x::l=>OB a_ x _ (JA a_ l)
theorem XA {α:Type}{lt:α->α->Bool}(a_:SWO lt) (dn:∀ x y,lt x y=false->lt y x=false->x=y) (l:List α):l.mergeSort (λx y=>!lt y x)=jZ lt l:=by
 refine List.Perm.eq_of_pairwise (le:=λx y=>(!lt y x)=true) (λa b _ _ h1 af=>?_) (List.pairwise_mergeSort (λa b c h1 af=>?_) (λa b=>?_) l) (JA a_ l) ((List.mergeSort_perm _ _).trans (y5 lt l).symm)
 ·simp only [Bool.not_eq_true'] at h1 af;exact dn a b af h1
 ·simp only [Bool.not_eq_true'] at h1 af ⊢;exact a_.ntrans _ _ _ af h1
 ·cases h1:lt b a with
  | false=>rfl
  | true =>
   cases af:lt a b with
   | false=>rfl
   | true=>have:=a_.trans _ _ _ h1 af; rw [a_.irrefl] at this; cases this
theorem OA {α β:Type}{lt:α->α->Bool}{lt':β->β->Bool}{f:α->β}(h:∀ a b,lt a b=lt' (f a) (f b)) (x:α):∀ l:List α,(ins lt x l).map f=ins lt' (f x) (l.map f)
 | []=>rfl
 | y::l=>by
  simp only [ins,List.map_cons,h];split
  ·rw [List.map_cons,OA h x l]
  ·rfl
theorem OG {α β:Type}{lt:α->α->Bool}{lt':β->β->Bool}{f:α->β}(h:∀ a b,lt a b=lt' (f a) (f b)):∀ l:List α,(jZ lt l).map f=jZ lt' (l.map f)
 | []=>rfl
 | x::l=>by simp only [jZ,List.map_cons,OA h,OG h l]
def vD {α:Type} [DecidableEq α] (ho:α->α->Option Int) (l:List α):Option (List α) :=
 if (l.all λa=>l.all λb=>(ho a b).isSome)&&Cw (nL ho) l&&decide (l.length<4611686018427387904) then some (jZ (nL ho) l) else none
theorem T4 {w':World}(h:Fr w w' λ_=>False):∃ q os,w'=grow (w.drewN q) os:=by
 refine ⟨w'.drawn - w.drawn,w'.heap.extract w.heap.size w'.heap.size,?_⟩;obtain ⟨h1,af,aJ,bo,cu,dC,jh⟩:=h;obtain ⟨av,adN,uA,os,out⟩:=w';simp only at h1 af aJ bo cu jh;subst h1 af aJ;unfold grow World.drewN;simp only [World.mk.injEq,true_and,and_true];refine ⟨?_,by omega⟩;apply Array.ext_getElem?;intro k;rw [Array.getElem?_append];by_cases hk:k<w.heap.size
 ·rw [if_pos hk]; exact cu k hk λh=>h
 ·rw [if_neg hk,Array.getElem?_extract];by_cases fk:k<av.size
  ·rw [if_pos (by omega),show w.heap.size+(k - w.heap.size)=k by omega]
  ·rw [if_neg (by omega),Array.getElem?_eq_none (by omega)]
theorem Yc {α:Type} [DecidableEq α] {lt:α->α->Bool}{l:List α}(h:Cw lt l=true):∀ a∈l,lt a a=false/\∀ b∈l,(lt a b=true\/lt b a=true\/a=b)/\∀ c∈l,((lt a b=true/\lt b c=true)->lt a c=true)/\(lt a b=true\/lt b c=true\/lt a c=false):=by
 intro a aQ;unfold Cw at h;have h1:=List.all_eq_true.1 h a aQ;simp only [Bool.and_eq_true,Bool.not_eq_true',List.all_eq_true,Bool.or_eq_true,decide_eq_true_eq] at h1;refine ⟨h1.1,λb au=>?_⟩;obtain ⟨af,aJ⟩:=h1.2 b au;refine ⟨by rcases af with (h | h) | h <;> simp [h],λc J=>?_⟩;obtain ⟨bo,cu⟩:=aJ c J;refine ⟨λ⟨x,y⟩=>?_,by rcases cu with (h | h) | h <;> simp [h]⟩;rcases bo with h | h
 ·rw [x,y] at h; cases h
 ·exact h
theorem Zk {α:Type} [DecidableEq α] {ho:α->α->Option Int}{l r:List α}(h:vD ho l=some r):(∀ a∈l,∀ b∈l,(ho a b).isSome=true)/\Cw (nL ho) l=true/\l.length<4611686018427387904/\r=jZ (nL ho) l:=by
 unfold vD at h
 split at h
 ·rename_i J;simp only [Bool.and_eq_true,List.all_eq_true,decide_eq_true_eq] at J;exact ⟨J.1.1,J.1.2,J.2,(Option.some.inj h).symm⟩
 ·cases h
theorem NK {α:Type} [Inhabited α] {enc:α->Value}{b n:Nat}{d:Array α}{os:Array Obj}{cur:Array Value}{e:TypeId}{ei:Nat × Nat}(au:w.heap[b]?=some (.cells cur e ei)) :
  (sortWorld enc w b 0 n d os).heap[b]?=some (.cells (putCells enc 0 d cur) e ei):=by
 have aN:b<w.heap.size:=(Array.getElem?_eq_some_iff.1 au).1;unfold sortWorld;rw [heap_grow_old _ _ (by rw [Go.Sort.size_putRow]; exact aN)];unfold putRow mapBlock;have qi:(Go.Sort.ahead w n).heap=w.heap:=rfl;simp only [qi,Array.getElem?_modify,if_true,au,Option.map_some,onCells]
theorem NL {α:Type} [Inhabited α] {enc:α->Value}{b n c:Nat}{d:Array α}{os:Array Obj}(J:c<w.heap.size) (cU:c≠b) :
  (sortWorld enc w b 0 n d os).heap[c]?=w.heap[c]?:=by
 unfold sortWorld;rw [heap_grow_old _ _ (by rw [Go.Sort.size_putRow]; exact J)];unfold putRow mapBlock;have qi:(Go.Sort.ahead w n).heap=w.heap:=rfl;simp only [qi,Array.getElem?_modify,if_neg (Ne.symm cU)]
theorem HC {α:Type} [Inhabited α] {enc:α->Value}{b n:Nat}{d:Array α}{os:Array Obj}{U:a6}(gg:U b):Fr w (sortWorld enc w b 0 n d os) U:=by
 refine ⟨rfl,rfl,rfl,?_,λc J az=>NL J λe=>az (e ▸ gg),λa aQ _=>?_,?_⟩
 ·unfold sortWorld; rw [size_grow,Go.Sort.size_putRow]; exact Nat.le_add_right _ _
 ·unfold sortWorld;rw [frozen?_grow _ _ _ (by rw [Go.Sort.size_putRow]; exact aQ),Go.Sort.frozen?_putRow]; rfl
 ·show w.drawn<=w.drawn+n;exact Nat.le_add_right _ _
theorem PE {α:Type} [Inhabited α] {enc:α->Value}{d:Array α}{cur:Array Value}(h:d.size<=cur.size):(putCells enc 0 d cur).toList.take d.size=d.toList.map enc:=by
 apply List.ext_getElem?;intro k;rw [List.getElem?_take,List.getElem?_map];by_cases hk:k<d.size
 ·rw [if_pos hk,Array.getElem?_toList,Array.getElem?_toList];have J:k<cur.size:=by omega
  simp only [putCells,Array.getElem?_mapIdx,Array.getElem?_eq_getElem J,Array.getElem?_eq_getElem hk,Option.map_some];rw [if_pos ⟨Nat.zero_le _,by omega⟩,Nat.sub_zero];simp [getElem!_pos,hk]
 ·rw [if_neg hk,Array.getElem?_toList,Array.getElem?_eq_none (by omega)]; rfl
end
end Go.Own
namespace Go.Own
open Go
set_option linter.unusedSectionVars false
variable [cw]
section
variable {α:Type}{P:Program}{N:cN}{g g1 g2 g3:aG}{ops:Array Oper}{a':List (List Nat)}{acc:Acc}{l:List Oper}{K:aG->Prop}{i d r:Nat}
def FD (p q:Place):Bool:=Nat.beq p.root q.root&&p.path == q.path
def Ff:List Place->Bool
 | []=>true
 | x::l=>l.all (λy=>!FD x y)&&Ff l
theorem O7:∀ {l:List Place},Ff l=true->l.Nodup
 | [],_=>List.nodup_nil
 | p::l,h=>by
  simp only [Ff,Bool.and_eq_true,List.all_eq_true] at h;refine List.nodup_cons.2 ⟨λhm=>?_,O7 h.2⟩;have:=h.1 p hm;simp [FD] at this
def XZ (p:Place) (acc:Acc):Bool:=acc.all λe=>match ke e with | some q=>!FD p q | none=>true
theorem X0 {p:Place}{G:List (Nat × ab)}{A:Nat->Bool}(h:XZ p acc=true) (cT:mD G=true):∀ t z n m new,c9 (get G) A acc t≠some (.bC z p n m new):=by
 intro t z n m new e;rcases tY e with ⟨bZ,he,h1,_,af⟩ | ⟨_,af⟩
 ·have:=List.all_eq_true.1 h bZ he;obtain ⟨k,d,x⟩:=bZ;simp only at af;subst af;simp [ke,FD] at this
 ·exact xd cT _ _ _ _ _ _ af
theorem O.LR {en:bz α}{L M r:List α}{y:ab}{e fq:Nat}{a b:Operand}{p:Place}{t ty:TypeId}(ax:Rd g a (.bn en.z p L.length)) (av:bu g p=some (ar en L)) (j:Rd g b y) (hm:nx g en y M) (ak:jt P t e en.z fq=true) (au:Nat.ble fq 128=true) (h:dP L M=some r) (eN:∀ t z n m new,g t≠some (.bC z p n m new)) :
  b5 P g (.call { callee:=.builtin .append,args:=#[a,b],argTypes:=#[t,t] }) ty (.bC en.z p L.length M.length (bw en M)):=by
 obtain ⟨h1,af,_⟩:=yj h au;exact .lj (.grow ax.bj (.inl ⟨_,av⟩) (λt br ck bm cK e=>eN _ _ _ _ _ e) j.bj hm.src ak h1 af)
theorem b1.Ax (bL:Nat) {G G2:List (Nat × ab)}{o:Oper}(he:nv P N (c9 (get G) (λm=>(a'.getD bL []).contains m) acc) o (get G2)) (aI:o.guard=none) (gS:Ff (acc.filterMap ke)=true) (fO:mD G=true) (ag:Nat.beq ops.size (bL+l.length+1)=true)
  (gg:acc.filter (λe=>!(a'.getD bL []).contains e.1)=[])
  (au:(List.range ops.size).all (λk=>Nat.ble k bL||(a'.getD k []).contains bL)=true) (hk:b1 P N ops a' (get G2) (bL+1) [] l K):b1 P N ops a' (get G) i acc (o::l) K:=by
 intro dM aa cV mx lE;have:=AN lE ag;subst this;obtain ⟨h1,af⟩:=drop_cons lE;obtain ⟨g',aj,dz⟩:=hk [] (aa+1) .nil .nil af;refine ⟨g',.yp (U:=[]) (rs:=rM []) mx (O7 gS) (xd fO) h1 ?_ he.v (λp av=>by simp [rM] at av) gg.symm (by simp) (by simp) (by simp) ?_ aj,dz⟩
 ·unfold h'; rw [aI]
 ·refine List.all_eq_true.2 λk hk=>?_;have:=List.all_eq_true.1 au k hk;simp only [Bool.or_eq_true,decide_eq_true_eq,Nat.ble_eq] at this ⊢;exact this
theorem nv.cell {o:Oper}{r k0:Nat}{y:ab}{cs:List ab}{g5:aG}(aj:g r=some (.obj cs)) (ai:cs[k0]?=some y) (wW:cE y)
  (uT:∀ v:Value,v.oneCell'=true->∃ g1 g4,gF (cc g ⟨r,[k0]⟩ (.lit v)) g1/\nv P N g1 o g4/\bu g4 ⟨r,[k0]⟩=some (.lit v)/\gF (cc g4 ⟨r,[k0]⟩ y) g5) (kR:∀ i,y≠.self i:=by exact λ_ h=>(by cases h)):pc P N (λp=>p∈[(⟨r,[k0]⟩:Place)]) g o g5:=by
 intro w I T Fs h a aQ a8 K Q dz;have l7:∀ z q n m new,y≠.bC z q n m new:=by rintro z q n m new rfl; cases wW
 have e5:bu g ⟨r,[k0]⟩=some y:=by simp [bu,aj,ab.at,ab.kids,ai]
 obtain ⟨v,cp,hv,dA,di,put⟩:=h.lO.part e5 l7;have my:v.oneCell'=true:=by
  obtain ⟨u,hu,mm⟩:=h.rel r _ aj;obtain ⟨b,tV,h1,af,aJ,bo,_⟩:=R.node (z:=0) (n:=0) (mm.fS (by simp)) (.inr rfl) ai;have:dN w T ⟨r,[k0]⟩=child w u k0:=by
   unfold dN;simp only [hu,walk];cases child w u k0 <;> rfl
  rw [this,aJ] at hv;cases hv;exact bo
 obtain ⟨fu,iU,yA,AZ⟩:=put (.lit v) cb (.lit my λ_ h=>h) (λ_ h=>h.elim) (λ_ h=>h.elim) (λ_ _ _ h=>h.elim) (λ_ h=>by cases h);obtain ⟨g1,g4,eM,dp,Ih,IS⟩:=uT v my;have rP:∀ t c,fu t c->Fs t c/\¬ cp c:=by
  intro t c J;by_cases ak:t=r
  ·subst ak;rcases (yA c).1 J with aL | aL
   ·exact aL
   ·exact aL.elim
  ·rw [AZ t ak] at J;exact ⟨J,λaU=>ak (h.et t r c J (di c aU))⟩
 have H9:=iU.keep eM;refine dp w I T _ H9 a aQ a8 K Q λb3 w' az nH=>?_;obtain ⟨bO,b7,I',bY,dU,bM⟩:=az;obtain ⟨v2,iu,qq,l4,UC,Ku⟩:=dU.lO.part Ih (by simp);have Jj:v2=v:=l4.gK.1;subst Jj;have HV:∀ c,cp c->¬ I c:=λc J=>h.bc r c (di c J);have wq:∀ c,cp c->c<w.heap.size:=λc J=>h.jm r c (di c J);have xh:∀ c,cp c->¬ ∃ t,(g1 t≠none/\fu t c):=λc J ⟨t,_,aL⟩=>(rP t c aL).2 J;have Cr:∀ t c,bY t c->¬ cp c:=by
  intro t c J aU;rcases bM.own c ⟨t,J⟩ with aL | aL
  ·exact xh c aU aL
  ·have:=wq c aU; omega
 have Ka:∀ c,cp c->¬ I' c:=by
  intro c J hi;rcases bM.new c hi with aL | aL | aL
  ·exact HV c J aL
  ·exact xh c J aL
  ·have:=wq c J; omega
 have KE:∀ c,cp c->w'.heap[c]?=w.heap[c]?:=λc J=>bM.ei.block c (wq c J) (xh c J);have qG:∀ c,I c->w'.heap[c]?=w.heap[c]?:=λc J=>bM.ei.block c (h.lt c J) λ⟨t,_,aL⟩=>h.bc t c (rP t c aL).1 J;have A2:R w' I' (fL w' b3.tmps) y v2 cp:=((dA.bd wW).frame qG bM.more (λ_ _ h=>h) KE);obtain ⟨Lp,Ia,HQ,HR⟩:=Ku y cp A2 (λc J aU=>(Cr _ c aU J).elim) (λc J=>Ka c J) (λt c _ J aU=>Cr t c aU J) (λi e=>absurd e (kR i));have sc:=Ia.keep IS;refine dz b3 w' ⟨bO,b7,I',_,sc,⟨?_,bM.more,λc J=>?_,λc J=>?_⟩⟩ nH λdk path av y' oe adl=>?_
 ·exact bM.ei.mono λb _ ⟨t,_,aL⟩=>⟨t,(rP t b aL).1⟩
 ·rcases bM.new c J with aL | ⟨t,_,aL⟩ | aL
  ·exact .inl aL
  ·exact .inr (.inl ⟨t,(rP t c aL).1⟩)
  ·exact .inr (.inr aL)
 ·obtain ⟨t,_,J⟩:=J;have:(∃ t,bY t c)\/cp c:=by
   by_cases ak:t=r
   ·subst ak;rcases (HQ c).1 J with ⟨aL,_⟩ | aL
    ·exact .inl ⟨_,aL⟩
    ·exact .inr aL
   ·rw [HR t ak] at J; exact .inl ⟨t,J⟩
  rcases this with aL | aL
  ·rcases bM.own c aL with ⟨t,_,fM⟩ | fM
   ·exact .inl ⟨t,(rP t c fM).1⟩
   ·exact .inr fM
  ·exact .inl ⟨r,di c aL⟩
 ·have av:(⟨dk,path⟩:Place)∈[(⟨r,[k0]⟩:Place)]:=av;have av:=List.mem_singleton.1 av;cases av;rw [hv,qq]
end
end Go.Own
namespace Go.Own
open Go
set_option linter.unusedSectionVars false
variable [cw]
section
variable {α:Type}{P:Program}{N:cN}{g:aG}{ops:Array Oper}{l:List Oper}{K:aG->Prop}{r n:Nat}{t e ty:TypeId}{a b:Operand}{m:Int}{en:bz α}{L:List α}{y y2:α}{k:IntKind}{pos:String}{after:Array Edge}
end
end Go.Own
namespace Go.Own
open Go Go.Proofs Go.Shelf Go.Lib Go.Sort
set_option linter.unusedSectionVars false
variable [cw]
section
variable {P:Program}{w:World}
class ko {α:Type}(e:bz α) where
 kZ:α->List Value
 cells:∀ a,e.cells a=(kZ a).map .lit
 one:∀ a,∀ v∈kZ a,v.oneCell'=true
variable {α:Type}{e:bz α}
theorem ko.len [h:ko e] (a:α):(h.kZ a).length=e.z:=by
 have:=e.len a;rw [h.cells,List.length_map] at this;exact this
def jV (e:bz α) [h:ko e] (l:List α):List Value:=l.flatMap h.kZ
theorem zP [h:ko e]:∀ l:List α,bw e l=(jV e l).map .lit
 | []=>rfl
 | a::l=>by
  have:bw e (a::l)=e.cells a++bw e l:=by simp [bw]
  rw [this,zP l,h.cells];simp [jV]
theorem wi [h:ko e] (l:List α):(jV e l).length=l.length * e.z:=by
 have:=nn e l;rw [zP,List.length_map] at this;exact this
theorem El [h:ko e] {l:List α}:∀ v∈jV e l,v.oneCell'=true:=by
 intro v hv;obtain ⟨a,_,hv⟩:=List.mem_flatMap.1 hv;exact h.one a v hv
theorem M7 [h:ko e]:∀ (l:List α) (i aa:Nat) (a:α),l[i]?=some a->aa<e.z->(jV e l)[i * e.z+aa]?=(h.kZ a)[aa]?
 | [],i,aa,a,aQ,_=>by simp at aQ
 | b::l,0,aa,a,aQ,ag=>by
  simp only [List.getElem?_cons_zero,Option.some.injEq] at aQ;subst aQ;simp only [jV,List.flatMap_cons,Nat.zero_mul,Nat.zero_add];rw [List.getElem?_append_left (by rw [ko.len]; exact ag)]
 | b::l,i+1,aa,a,aQ,ag=>by
  simp only [List.getElem?_cons_succ] at aQ;have:=M7 l i aa a aQ ag;simp only [jV,List.flatMap_cons] at this ⊢;rw [List.getElem?_append_right (by rw [ko.len,Nat.add_mul]; omega),ko.len,<- this];congr 1;rw [Nat.add_mul]; omega
theorem HA {β:Type} [Inhabited β] [h:ko e] (f:β->α) (d:Array β):(flatK (λx=>h.kZ (f x)) e.z d).toList=jV e (d.toList.map f):=by
 apply List.ext_getElem?;intro t;by_cases ak:t<d.size * e.z
 ·have aS:0<e.z:=by
   rcases Nat.eq_zero_or_pos e.z with aH | aH
   ·rw [aH] at ak; omega
   ·exact aH
  have h1:t / e.z<d.size:=Nat.div_lt_of_lt_mul (by rw [Nat.mul_comm]; exact ak);have af:t % e.z<e.z:=Nat.mod_lt _ aS;have aQ:(d.toList.map f)[t / e.z]?=some (f d[t / e.z]!):=by
   rw [List.getElem?_map,Array.getElem?_toList,Array.getElem?_eq_getElem h1,getElem!_pos d _ h1]; rfl
  have:=M7 (e:=e) _ (t / e.z) (t % e.z) _ aQ af;rw [Nat.mul_comm,Nat.div_add_mod] at this;rw [this,Array.getElem?_toList,Array.getElem?_eq_getElem (by simpa using ak),<- getElem!_pos (flatK (λx=>h.kZ (f x)) e.z d) t (by simpa using ak),get_flatK _ _ _ _ ak];have aJ:t % e.z<(h.kZ (f d[t / e.z]!)).length:=by rw [ko.len]; exact af
  rw [getElem!_pos (h.kZ (f d[t / e.z]!)) (t % e.z) aJ,List.getElem?_eq_getElem aJ]
 ·rw [List.getElem?_eq_none (by simp; omega),List.getElem?_eq_none (by rw [wi,List.length_map,Array.length_toList]; omega)]
theorem Ql [ji:ko e] {vs:List Value}{v0 v1:Value}(u4:vs=[v0,v1]) {I:a6}{Fs:Nat->a6}{g:aG}(a_:cB w I vs.toArray g Fs) {w':World}{t:TypeId}{r:List α}(aM:w'.ownsRow 0 t e.z v0 r.length (jV e r)) (aE:∀ c,Fs 0 c↔v0.ownBlock=some c) (fF:Fr w w' λc=>Fs 0 c) :
  ∃ v I' bY,Ending.returned (.tuple #[])=.returned v/\cB w' I' (vs++[v]).toArray (h5 [some (ar e r),none] (.bN [])) bY/\kp w I (λc=>∃ t,Fs t c) w' I' (λc=>∃ t,bY t c):=by
 subst u4;refine ⟨_,I,λt=>if t=0 then Fs 0 else cb,rfl,⟨λt x j=>?_,λt ak c J=>?_,λt t' c J dX=>?_,λt c J=>?_,λc J=>Nat.lt_of_lt_of_le (a_.lt c J) fF.size,λt t' z p n m new br ck bm cK h1 af=>?_,cw.keep a_.hd (λc J=>fF.block c (a_.lt c J) λh=>a_.bc 0 c h J) λ_ h=>h⟩,⟨?_,λc h=>h,λc h=>.inl h,λc J=>?_⟩⟩
 ·unfold h5 at j
  split at j
  ·rename_i ak;have ak:t=2:=ak;subst ak;cases j;exact ⟨.tuple #[],rfl,.tree (.bN (Fs:=λ_=>cb) rfl (λk x u h=>by simp at h) (λaa k c h=>by simp at h) (λc=>⟨λh=>h.elim,λ⟨k,h,_⟩=>by simp at h⟩))⟩
  ·match t,j with
   | 0,j =>
    cases j;refine ⟨v0,rfl,.tree ?_⟩;show R w' I _ (.own e.z r.length (bw e r)) v0 (Fs 0);rw [zP];refine .own (Fs:=λ_=>cb) aM (by simp) (λk u hu=>El u (List.mem_of_getElem? hu)) (λk x u j hu=>?_) (λ_ _ _ _ _ h=>h.elim) (λ_ _ _ h=>h.elim) (λc=>⟨λh=>.inl ((aE c).1 h),λh=>?_⟩)
    ·rw [List.getElem?_map,hu] at j;cases j;exact .lit (El u (List.mem_of_getElem? hu)) λ_ h=>h
    ·rcases h with h | ⟨_,_,h⟩
     ·exact (aE c).2 h
     ·exact h.elim
   | 1,j=>cases j
   | t+2,j=>cases j
 ·have aH:¬ t=0:=λe=>by subst e; exact absurd ak (by simp [h5])
  simp only [if_neg aH] at J;exact J
 ·have key:∀ {t:Nat},(if t=0 then Fs 0 else cb) c->t=0:=λ{t} h=>by
   by_cases aH:t=0
   ·exact aH
   ·rw [if_neg aH] at h; exact h.elim
  rw [key J,key dX]
 ·by_cases aH:t=0
  ·simp only [if_pos aH] at J; exact a_.bc 0 c J
  ·simp only [if_neg aH] at J; exact J.elim
 ·unfold h5 at h1
  split at h1
  ·cases h1
  ·match t,h1 with
   | 0,h1=>cases h1
   | 1,h1=>cases h1
   | t+2,h1=>cases h1
 ·exact fF.mono λb _ au=>⟨0,au⟩
 ·obtain ⟨t,ak⟩:=J;by_cases aH:t=0
  ·simp only [if_pos aH] at ak; exact .inl ⟨0,ak⟩
  ·simp only [if_neg aH] at ak; exact ak.elim
theorem bH.Zl [DecidableEq α] [l5:ko e] {ρ:Ren}(L:SlLaysF0.n6 P ρ) (Rk:∀ w,(isAgg (ρ.t 24)).run P w=.ok true w) (aai:∀ w,(Go.sizeOf (ρ.t 24)).run P w=.ok e.z w) {g:FuncId}{caps:List ab} [VD:df caps] (aI:gR P g=true) {l r:List α}{ho:α->α->Option Int}(h:vD ho l=some r)
  (J:∀ a b v,ho a b=some v->bH P g (.agg (e.cells a)::.agg (e.cells b)::caps) (none::none::caps.map λ_=>none) (ae v)) :
  bH P (ρ.f 6) [ar e l,.c7 (.func g) [] caps] [some (ar e r),none] (.bN []):=by
 refine ⟨rfl,λw I vs Fs ah a_=>?_⟩;obtain ⟨v0,v1,rfl⟩:∃ v0 v1,vs=[v0,v1]:=by
  match vs,ah with
  | [a,b],_=>exact ⟨a,b,rfl⟩
 obtain ⟨uW,la,Oa,rfl⟩:=Zk h;obtain ⟨u,hu,aV⟩:=a_.rel 0 (ar e l) rfl;obtain rfl:v0=u:=by simpa using hu
 replace aV:=aV.fS (by simp);obtain ⟨u,hu,q_⟩:=a_.rel 1 (.c7 (.func g) [] caps) rfl;obtain rfl:v1=u:=by simpa using hu
 replace q_:=q_.fS (by simp);rw [show ar e l=.own e.z l.length (bw e l) from rfl,zP] at aV
 cases aV with
 | ref j=>simp [ab.isRef] at j
 | @own _ _ _ _ t us bK _ aM wG fy aj aO au aE =>
 cases q_ with
 | ref j=>simp [ab.isRef] at j
 | @c7 _ _ _ aw po _ yA h1 af iX hU =>
 obtain rfl:aw=#[]:=Array.eq_empty_of_size_eq_zero (by simpa using h1.symm);have mU:∀ c,Fs 0 c↔v0.ownBlock=some c:=by
  intro c;refine ⟨λJ=>?_,λJ=>(aE c).2 (.inl J)⟩;rcases (aE c).1 J with h | ⟨k,hk,h⟩
  ·exact h
  ·have j:=List.getElem?_eq_getElem hk;have hu:=List.getElem?_eq_getElem (wG ▸ hk);have aV:=aj k _ _ j hu;rw [List.getElem_map] at aV;generalize us[k]=gi at aV;cases aV with
   | lit _ aU=>exact (aU c h).elim
   | ref j=>simp [ab.isRef] at j
 have ih:us=jV e l:=by
  apply List.ext_getElem?;intro k;by_cases hk:k<us.length
  ·have hS:k<((jV e l).map ab.lit).length:=wG.symm ▸ hk;have j:=List.getElem?_eq_getElem hS;have hu:=List.getElem?_eq_getElem hk;have aV:=aj k _ _ j hu;rw [List.getElem_map] at aV;rw [hu,aV.gK.1,List.getElem?_eq_getElem (by simpa using hS)]
  ·rw [List.getElem?_eq_none (by omega),List.getElem?_eq_none (by rw [List.length_map] at wG; omega)]
 subst ih;have Wk:=y5 (nL ho) l;have hlen:=Wk.length_eq;by_cases wH:l=[]
 ·subst wH;have iC:∃ p cap,v0=.slice p 0 cap:=by
   rcases aM.2 with ⟨rfl,_⟩ | ⟨b,cap,cur,rfl,_⟩
   ·exact ⟨_,_,rfl⟩
   ·exact ⟨_,_,rfl⟩
  obtain ⟨p,cap,rfl⟩:=iC;refine (AnyF.slices_SortFunc_none L p cap _ w).mono ?_;rintro bZ w' ⟨rfl,rfl⟩;exact Ql rfl a_ (t:=t) (r:=[]) aM mU (Fr.refl _ _)
 ·obtain ⟨NX,Iy⟩:=aM;rcases Iy with ⟨rfl,aH⟩ | ⟨b,cap,cur,rfl,_,tw,hle,I4,dL,hK⟩
  ·exact absurd (List.eq_nil_of_length_eq_zero aH) wH
  have tu:Fs 0 b:=(mU b).2 rfl;have yI:b<w.heap.size:=(Array.getElem?_eq_some_iff.1 tw).1;obtain ⟨a0,oQ⟩:=List.exists_mem_of_ne_nil l wH
  let β:={ x:α // x∈l }
  haveI:Inhabited β:=⟨⟨a0,oQ⟩⟩
  let enc:β->List Value:=λx=>l5.kZ x.1
  let q1:β->β->Int:=λx y=>(ho x.1 y.1).getD 0;have aN:∀ x y:β,ltOf q1 x y=nL ho x.1 y.1:=λx y=>rfl
  let d:Array β:=l.attach.toArray;have IC:d.toList.map Subtype.val=l:=by
   show (l.attach.toArray).toList.map Subtype.val=l;simp
  have sf:d.size=l.length:=by show (l.attach.toArray).size=l.length; rw [List.size_toArray,List.length_attach]
  have j':=Yc la;have hO:SWO (ltOf q1):=by
   refine ⟨λx=>by rw [aN]; exact (j' x.1 x.2).1,λx y z=>?_,λx y z=>?_⟩
   ·rw [aN,aN,aN];exact λp q=>(((j' x.1 x.2).2 y.1 y.2).2 z.1 z.2).1 ⟨p,q⟩
   ·rw [aN,aN,aN];intro p q;rcases (((j' x.1 x.2).2 y.1 y.2).2 z.1 z.2).2 with h | h | h
    ·rw [p] at h; cases h
    ·rw [q] at h; cases h
    ·exact h
  have dn:∀ x y:β,ltOf q1 x y=false->ltOf q1 y x=false->x=y:=by
   intro x y p q;rw [aN] at p q;rcases ((j' x.1 x.2).2 y.1 y.2).1 with h | h | h
   ·rw [p] at h; cases h
   ·rw [q] at h; cases h
   ·exact Subtype.ext h
  have pE:(flatK enc e.z d).toList=jV e l:=by
   have:=HA (e:=e) (λx:β=>x.1) d;rw [IC] at this;exact this
  have hH:HoldsK enc e.z w b 0 d:=by
   intro aa ag;have tx:aa<(jV e l).length:=by rw [<- pE,Array.length_toList]; exact ag
   refine ⟨?_,?_⟩
   ·unfold World.cell?;simp only [tw,Nat.zero_add];show cur[aa]?=_;have h1:=congrArg (λt=>t[aa]?) hK;have pH:aa<l.length * e.z:=by rw [<- wi (e:=e)]; exact tx
    simp only [List.getElem?_take,if_pos pH,Array.getElem?_toList] at h1;rw [h1,<- pE,Array.getElem?_toList,Array.getElem?_eq_getElem ag,getElem!_pos (flatK enc e.z d) aa ag];rfl
   ·unfold World.frozen?;simp only [tw];simp
  have TD:∀ args w,(callFunc g args).run P w=.ok (.enter g args) w:=λargs w=>AJ aI args;have Ny:∀ (W:World) (I:a6) (ρ':ab->Value->Prop) (a:α),R W I ρ' (.agg (e.cells a)) (.agg (l5.kZ a).toArray) λ_=>False:=by
   intro W I ρ' a;rw [l5.cells];refine .agg (Fs:=λ_=>cb) (by simp) (λk u hu=>l5.one a u ?_) (λk x u j hu=>?_) (λ_ _ _ _ _ h=>h.elim) (λc=>⟨λh=>h.elim,λ⟨_,_,h⟩=>h.elim⟩)
   ·rw [List.getElem?_toArray] at hu; exact List.mem_of_getElem? hu
   ·rw [List.getElem?_toArray] at hu;rw [List.getElem?_map,hu] at j;cases j;exact .lit (l5.one a u (List.mem_of_getElem? hu)) λ_ h=>h
  have VA:CmpLays P g po enc e.z q1 b 0 d.size w:=by
   intro m os iR Bk x y;have rk:=uW x.1 x.2 y.1 y.2;obtain ⟨v,hv⟩:=Option.isSome_iff_exists.1 rk;have Vy:q1 x y=v:=by show (ho x.1 y.1).getD 0=v; rw [hv]; rfl
   show Calls P g _ (sortWorld id w b 0 m (flatK enc e.z iR) os) λbZ w'=>_/\∃ q Ye,w'=grow ((sortWorld id w b 0 m (flatK enc e.z iR) os).drewN q) Ye;have U4:cB (sortWorld id w b 0 m (flatK enc e.z iR) os) I #[] (λ_=>none) (λ_=>cb):=by
    refine ⟨λ_ _ h=>(by cases h),λ_ _ _ h=>h,λ_ _ _ h=>h.elim,λ_ _ h=>h.elim,λc J=>?_,λ_ _ _ _ _ _ _ _ _ _ _ h=>(by cases h),cw.keep a_.hd (λc J=>(HC (U:=λc=>Fs 0 c) tu).block c (a_.lt c J) λh=>a_.bc 0 c h J) λ_ h=>h⟩;have:=a_.lt c J;unfold sortWorld;rw [size_grow,Go.Sort.size_putRow];exact Nat.lt_of_lt_of_le this (Nat.le_add_right _ _)
   have sd:=U4.args (I':=I) (λ_ h=>h) (λc h=>.inl h) (args:=.agg (e.cells x.1)::.agg (e.cells y.1)::caps) (vs:=.agg (enc x).toArray::.agg (enc y).toArray::po.toList) (by simp [af]) (λρ' k z u aS hu=>?_)
   ·have n9:=(J x.1 y.1 v hv).2 _ I (.agg (enc x).toArray::.agg (enc y).toArray::po.toList) _ (by simp [af]) sd;have jX:(.agg (enc x).toArray::.agg (enc y).toArray::po.toList).toArray=#[.agg (enc x).toArray,.agg (enc y).toArray]++po:=by
     apply Array.ext';simp
    rw [jX] at n9;refine n9.mono ?_;rintro bZ w' ⟨dJ,I',bY,rfl,dU,bM⟩;obtain ⟨u,hu,mn⟩:=dU.rel (caps.length+2) (ae v) (by simp [h5]);have WO:u=dJ:=by
     have:(Value.agg (enc x).toArray::.agg (enc y).toArray::po.toList).length=caps.length+2:=by simp [af]
     rw [List.getElem?_toArray,<- this] at hu;simpa using hu.symm
    subst WO;have oR:=(mn.fS (by simp)).gK.1;subst oR;refine ⟨by rw [Vy],?_⟩;exact T4 (bM.ei.mono λc _ ⟨_,bE⟩=>bE)
   ·match k,aS,hu with
    | 0,aS,hu=>cases aS; cases hu; exact Ny _ _ _ x.1
    | 1,aS,hu=>cases aS; cases hu; exact Ny _ _ _ y.1
    | k+2,aS,hu =>
     simp only [List.getElem?_cons_succ] at aS hu;have Ex:=(hU k z u aS (by simpa using hu)).bd (ρ':=ρ') (VD.bd z (List.mem_of_getElem? aS));refine Ex.frame (λc J=>?_) (λ_ h=>h) (λ_ _ h=>h) (λc h=>h.elim);exact NL (a_.lt c J) λe=>a_.bc 0 c (e ▸ tu) J
  have Bw:=AnyQ.slices_SortFunc_total L e.z Rk aai enc (λx=>ko.len x.1) (λx v hv=>l5.one x.1 v hv) q1 hO g po b 0 cap d w TD VA hH yI (by rw [sf]; exact Oa) dn;rw [sf] at Bw;refine Bw.mono ?_;rintro bZ w' ⟨rfl,n,os,rfl⟩;have nI:(d.toList.mergeSort λx y=>!ltOf q1 y x).map Subtype.val=jZ (nL ho) l:=by
   rw [XA hO dn];have hm:(jZ (ltOf q1) l.attach).map Subtype.val=jZ (nL ho) (l.attach.map Subtype.val):=OG (lt:=ltOf q1) (lt':=nL ho) (f:=Subtype.val) (λa b=>aN a b) l.attach;rw [List.attach_map_subtype_val] at hm;exact hm
  generalize I3:(d.toList.mergeSort λx y=>!ltOf q1 y x)=ms at nI;have V_:ms.length=l.length:=by rw [<- hlen,<- nI,List.length_map]
  have VQ:(flatK enc e.z ms.toArray).toList=jV e (jZ (nL ho) l):=by
   have:=HA (e:=e) (λx:β=>x.1) ms.toArray;rw [show (ms.toArray).toList.map (λx:β=>x.1)=jZ (nL ho) l from nI] at this
   exact this
  have Bo:(flatK enc e.z ms.toArray).size=l.length * e.z:=by rw [size_flatK,List.size_toArray,V_]
  refine Ql rfl a_ (t:=t) (r:=jZ (nL ho) l) ⟨wi _,.inr ⟨b,cap,_,by rw [hlen],Nat.zero_le _,NK (enc:=id) tw,by omega,I4,?_,?_⟩⟩ mU (HC (enc:=id) tu)
  ·rw [<- dL];simp [putCells]
  ·rw [hlen,<- Bo,PE (by rw [Bo,dL]; exact Nat.mul_le_mul_right _ hle),List.map_id,VQ]
end
end Go.Own
namespace Go.Own
open Go
set_option linter.unusedSectionVars false
variable [cw]
section
variable {α:Type}{P:Program}{N:cN}{g:aG}{d r:Nat}
theorem fp.tk {o:Oper}{x:Operand}{fI:Array TypeId}{f:FuncId}{res:ab}{en:bz α}{L:List α}{G2:List (Nat × ab)}(aM:o.op=.call { callee:=.value (.func f),args:=#[x],argTypes:=fI }) (aO:o.dst=some d) (j:Own.fZ g [x]=some [.bn en.z ⟨r,[]⟩ L.length])
  (ax:g r=some (ar en L)) (gp:bH P f [ar en L] [none] res) (aU:gR P f=true) [aj:b9 res]
  (cT:Trim false (cc g ⟨r,[]⟩ .dead) (get G2) G2) (aI:get G2 d=none) (a8:N.ok d=true) :
  fp P N g o d (get ((d,res)::G2)):=by
 have mu:∀ x∈bw en L,cE x:=by
  intro x j;obtain ⟨a,_,aQ⟩:=List.mem_flatMap.1 j;exact en.bd a x aQ
 have hK:(bw en L).take (L.length * en.z)=bw en L:=List.take_of_length_le (by rw [nn]; exact Nat.le_refl _);have tI:gF (cc g ⟨r,[]⟩ .dead) (get G2):=by
  refine ⟨λt x h=>?_,λt x h=>(cT.spec t x h).2.1,λt z q n m new h=>(cT.spec t _ h).2.2 _ _ _ _ _ rfl⟩;obtain ⟨⟨y,h1,_,aJ⟩,_⟩:=cT.spec t x h;rw [<- aJ rfl]; exact h1
 have tJ:gF (get G2) (get G2):=⟨λt x h=>h,λt x h=>(cT.spec t x h).2.1,λt z q n m new h=>(cT.spec t _ h).2.2 _ _ _ _ _ rfl⟩;have q3:get ((d,res)::G2)=cH (get G2) d res:=by
  funext t;rw [q7]
 rw [q3];refine x0.ok (first:=[]) (caps:=[]) (ys:=[.bn en.z ⟨r,[]⟩ L.length]) (tk:=λk=>k == 0) (vw:=false) (outs:=[none]) (g1:=cc g ⟨r,[]⟩ .dead) (g2:=get G2) (g4:=get G2) (l:=[]) (ks:=λ_=>0) (xs0:=[.bn en.z ⟨r,[]⟩ L.length]) (xs1:=[ar en L]) (args:=[ar en L]) (res:=res) aM aO rfl j
  ⟨aU,by simp,by simp,λk x h=>.inl h,?_,tI,λk x y j ai=>?_,gp,by simpa using aj.bd,λk x h=>?_,λaa p x ag=>by simp at ag,by simp,λi aa hi ag _=>by simp at hi,tJ⟩ aI a8 ug.refl
 ·have h1:Take (cc g ⟨r,[]⟩ .dead) ((bw en L).take (L.length * en.z)) (bw en L) (cc g ⟨r,[]⟩ .dead):=by rw [hK]; exact .bd mu
  exact .bn (N:=L.length) (by simp [bu,ax,ab.at]) (Nat.le_refl _) h1 (.bd λx j=>by simp at j)
 ·cases k with
  | zero=>simpa using ai
  | succ k=>simp at ai
 ·cases k with
  | zero=>simp at h
  | succ k=>simp at h
end
end Go.Own
namespace Go.Own
open Go Go.Proofs Go.Shelf Go.Lib Go.Sort
set_option linter.unusedSectionVars false
variable [cw]
section
variable {α:Type} [DecidableEq α]
def oL:Option α->List α->List α
 | _,[]=>[]
 | p,a::l=>if p=some a then oL (some a) l else a::oL (some a) l
def dedup (l:List α):List α:=oL none l
def yw (l:List α):Option (List α):=if l.length<4611686018427387904 then some (dedup l) else none
theorem SM [Inhabited α] (hM:List α):compactUpTo hM.toArray hM.toArray.size=dedup hM:=by
 have key:∀ k,k<=hM.length->compactUpTo hM.toArray k++oL (if k=0 then none else hM[k - 1]?) (hM.drop k)=oL none hM:=by
  intro k
  induction k with
  | zero=>intro _; simp [compactUpTo]
  | succ k aK =>
   intro hk;rw [<- aK (by omega),compactUpTo_succ];have aN:k<hM.length:=by omega
   rw [<- List.getElem_cons_drop aN,oL,List.append_assoc];congr 1;have bO:hM.toArray[k]! = hM[k]:=by rw [getElem!_pos hM.toArray k (by simpa using aN)]; simp
   have sn:(if k+1=0 then none else hM[k+1 - 1]?)=some hM[k]:=by simp [aN]
   have hk:keeps hM.toArray k=true↔(if k=0 then none else hM[k - 1]?)≠some hM[k]:=by
    unfold keeps;rw [decide_eq_true_eq,bO];by_cases aH:k=0
    ·simp [aH]
    ·have av:k - 1<hM.length:=by omega
     have b7:hM.toArray[k - 1]! = hM[k - 1]:=by rw [getElem!_pos hM.toArray (k - 1) (by simpa using av)]; simp
     rw [if_neg aH,b7,List.getElem?_eq_getElem av];constructor
     ·rintro (h | h) e
      ·exact aH h
      ·exact h (Option.some.inj e).symm
     ·exact λh=>.inr λe=>h (by rw [e])
   rw [sn,bO];by_cases h:(if k=0 then none else hM[k - 1]?)=some hM[k]
   ·rw [if_neg (λbE=>(hk.1 bE) h),if_pos h]; rfl
   ·rw [if_pos (hk.2 h),if_neg h]; rfl
 have:=key hM.length (Nat.le_refl _);rw [List.drop_length] at this;simp only [oL,List.append_nil] at this;show compactUpTo _ _=oL none hM;rw [<- this];simp
theorem MI:∀ (l:List α) (p:Option α),(oL p l).length<=l.length
 | [],_=>Nat.le_refl _
 | a::l,p=>by
  unfold oL;have:=MI l (some a);split
  ·simp; omega
  ·simp; omega
end
section
variable {α:Type}{e:bz α}{P:Program}{w:World}
theorem Mx [ji:ko e] {v0:Value}{I:a6}{Fs:Nat->a6}{g:aG}(a_:cB w I [v0].toArray g Fs) {w':World}{t:TypeId}{v:Value}{r:List α}(aM:w'.ownsRow 0 t e.z v r.length (jV e r)) (aE:∀ c,Fs 0 c↔v.ownBlock=some c) (fF:Fr w w' λc=>Fs 0 c) :
  ∃ dJ I' bY,Ending.returned v=.returned dJ/\cB w' I' ([v0]++[dJ]).toArray (h5 [none] (ar e r)) bY/\kp w I (λc=>∃ t,Fs t c) w' I' (λc=>∃ t,bY t c):=by
 refine ⟨v,I,λt=>if t=1 then Fs 0 else cb,rfl,⟨λt x j=>?_,λt ak c J=>?_,λt t' c J dX=>?_,λt c J=>?_,λc J=>Nat.lt_of_lt_of_le (a_.lt c J) fF.size,λt t' z p n m new br ck bm cK h1 af=>?_,cw.keep a_.hd (λc J=>fF.block c (a_.lt c J) λh=>a_.bc 0 c h J) λ_ h=>h⟩,⟨?_,λc h=>h,λc h=>.inl h,λc J=>?_⟩⟩
 ·unfold h5 at j
  split at j
  ·rename_i ak;have ak:t=1:=ak;subst ak;cases j;refine ⟨v,rfl,.tree ?_⟩;show R w' I _ (.own e.z r.length (bw e r)) v (Fs 0);rw [zP];refine .own (Fs:=λ_=>cb) aM (by simp) (λk u hu=>El u (List.mem_of_getElem? hu)) (λk x u j hu=>?_) (λ_ _ _ _ _ h=>h.elim) (λ_ _ _ h=>h.elim) (λc=>⟨λh=>.inl ((aE c).1 h),λh=>?_⟩)
   ·rw [List.getElem?_map,hu] at j;cases j;exact .lit (El u (List.mem_of_getElem? hu)) λ_ h=>h
   ·rcases h with h | ⟨_,_,h⟩
    ·exact (aE c).2 h
    ·exact h.elim
  ·match t,j with
   | 0,j=>cases j
   | t+1,j=>cases j
 ·have aH:¬ t=1:=λe=>by subst e; exact absurd ak (by simp [h5])
  simp only [if_neg aH] at J;exact J
 ·have key:∀ {t:Nat},(if t=1 then Fs 0 else cb) c->t=1:=λ{t} h=>by
   by_cases aH:t=1
   ·exact aH
   ·rw [if_neg aH] at h; exact h.elim
  rw [key J,key dX]
 ·by_cases aH:t=1
  ·simp only [if_pos aH] at J; exact a_.bc 0 c J
  ·simp only [if_neg aH] at J; exact J.elim
 ·unfold h5 at h1
  split at h1
  ·cases h1
  ·match t,h1 with
   | 0,h1=>cases h1
   | t+1,h1=>cases h1
 ·exact fF.mono λb _ au=>⟨0,au⟩
 ·obtain ⟨t,ak⟩:=J;by_cases aH:t=1
  ·simp only [if_pos aH] at ak; exact .inl ⟨0,ak⟩
  ·simp only [if_neg aH] at ak; exact ak.elim
variable [DecidableEq α] [Inhabited α]
theorem bH.SK [l5:ko e] {f:FuncId}
  (J:∀ (w:World) (b cap:Nat) (d:Array α),0<d.size->HoldsK l5.kZ e.z w b 0 d->b<w.heap.size->d.size<=cap->d.size<4611686018427387904 ->
   Calls P f #[.slice (some ⟨b,0,none⟩) d.size cap] w λbZ w'=>bZ=.returned (.slice (some ⟨b,0,none⟩) (compactUpTo d d.size).length cap)/\∃ q,w'=putRowK l5.kZ e.z (Sort.ahead w q) b 0 (compactUpTo d d.size++List.replicate (d.size - (compactUpTo d d.size).length) default).toArray)
  (az:∀ (w:World) (p:Option Addr) (cap:Nat),Calls P f #[.slice p 0 cap] w λbZ w'=>bZ=.returned (.slice p 0 cap)/\w'=w) {l r:List α}(h:yw l=some r) :
  bH P f [ar e l] [none] (ar e r):=by
 obtain ⟨Ez,rfl⟩:l.length<4611686018427387904/\r=dedup l:=by
  unfold yw at h
  split at h
  ·rename_i bE; exact ⟨bE,(Option.some.inj h).symm⟩
  ·cases h
 refine ⟨rfl,λw I vs Fs ah a_=>?_⟩;obtain ⟨v0,rfl⟩:∃ v0,vs=[v0]:=by
  match vs,ah with
  | [a],_=>exact ⟨a,rfl⟩
 obtain ⟨u,hu,aV⟩:=a_.rel 0 (ar e l) rfl;obtain rfl:v0=u:=by simpa using hu
 replace aV:=aV.fS (by simp);rw [show ar e l=.own e.z l.length (bw e l) from rfl,zP] at aV
 cases aV with
 | ref j=>simp [ab.isRef] at j
 | @own _ _ _ _ t us bK _ aM wG fy aj aO au aE =>
 have mU:∀ c,Fs 0 c↔v0.ownBlock=some c:=by
  intro c;refine ⟨λJ=>?_,λJ=>(aE c).2 (.inl J)⟩;rcases (aE c).1 J with h | ⟨k,hk,h⟩
  ·exact h
  ·have j:=List.getElem?_eq_getElem hk;have hu:=List.getElem?_eq_getElem (wG ▸ hk);have aV:=aj k _ _ j hu;rw [List.getElem_map] at aV;generalize us[k]=gi at aV;cases aV with
   | lit _ aU=>exact (aU c h).elim
   | ref j=>simp [ab.isRef] at j
 have ih:us=jV e l:=by
  apply List.ext_getElem?;intro k;by_cases hk:k<us.length
  ·have hS:k<((jV e l).map ab.lit).length:=wG.symm ▸ hk;have j:=List.getElem?_eq_getElem hS;have hu:=List.getElem?_eq_getElem hk;have aV:=aj k _ _ j hu;rw [List.getElem_map] at aV;rw [hu,aV.gK.1,List.getElem?_eq_getElem (by simpa using hS)]
  ·rw [List.getElem?_eq_none (by omega),List.getElem?_eq_none (by rw [List.length_map] at wG; omega)]
 subst ih;by_cases wH:l=[]
 ·subst wH;have iC:∃ p cap,v0=.slice p 0 cap:=by
   rcases aM.2 with ⟨rfl,_⟩ | ⟨b,cap,cur,rfl,_⟩
   ·exact ⟨_,_,rfl⟩
   ·exact ⟨_,_,rfl⟩
  obtain ⟨p,cap,rfl⟩:=iC;refine (az w p cap).mono ?_;rintro bZ w' ⟨rfl,rfl⟩;exact Mx a_ (t:=t) (r:=dedup []) aM mU (Fr.refl _ _)
 ·obtain ⟨NX,Iy⟩:=aM;rcases Iy with ⟨rfl,aH⟩ | ⟨b,cap,cur,rfl,_,tw,hle,I4,dL,hK⟩
  ·exact absurd (List.eq_nil_of_length_eq_zero aH) wH
  have tu:Fs 0 b:=(mU b).2 rfl;have yI:b<w.heap.size:=(Array.getElem?_eq_some_iff.1 tw).1;have sf:l.toArray.size=l.length:=by simp
  have pK:0<l.toArray.size:=by rw [sf]; exact List.length_pos_iff.2 wH
  have flat:∀ d:Array α,(flatK l5.kZ e.z d).toList=jV e d.toList:=λd=>by
   have:=HA (e:=e) (λx:α=>x) d;rw [List.map_id'] at this;exact this
  have pE:(flatK l5.kZ e.z l.toArray).toList=jV e l:=flat _;have hH:HoldsK l5.kZ e.z w b 0 l.toArray:=by
   intro aa ag;have tx:aa<(jV e l).length:=by rw [<- pE,Array.length_toList]; exact ag
   refine ⟨?_,?_⟩
   ·unfold World.cell?;simp only [tw,Nat.zero_add];show cur[aa]?=_;have h1:=congrArg (λt=>t[aa]?) hK;have pH:aa<l.length * e.z:=by rw [<- wi (e:=e)]; exact tx
    simp only [List.getElem?_take,if_pos pH,Array.getElem?_toList] at h1;rw [h1,<- pE,Array.getElem?_toList,Array.getElem?_eq_getElem ag,getElem!_pos (flatK l5.kZ e.z l.toArray) aa ag];rfl
   ·unfold World.frozen?;simp only [tw];simp
  have Bw:=J w b cap l.toArray pK hH yI (by rw [sf]; exact hle) (by rw [sf]; exact Ez);rw [SM,sf] at Bw;refine Bw.mono ?_;rintro bZ w' ⟨rfl,q,hw⟩;have IC:(dedup l).length<=l.length:=MI l none;generalize I3:(dedup l++List.replicate (l.length - (dedup l).length) default).toArray=ms at hw;have V':ms.size=l.length:=by rw [<- I3]; simp; omega
  have Bo:(flatK l5.kZ e.z ms).size=l.length * e.z:=by rw [size_flatK,V']
  have WU:w'=sortWorld id w b 0 q (flatK l5.kZ e.z ms) #[]:=by
   rw [hw];unfold putRowK sortWorld;rw [grow_empty]
  subst WU;have WC:(jV e ms.toList).take ((dedup l).length * e.z)=jV e (dedup l):=by
   rw [<- I3];simp only [jV,List.flatMap_append];rw [List.take_append_of_le_length,List.take_of_length_le]
   ·have:=wi (e:=e) (dedup l); unfold jV at this; omega
   ·have:=wi (e:=e) (dedup l); unfold jV at this; omega
  refine Mx a_ (t:=t) (r:=dedup l) ⟨wi _,.inr ⟨b,cap,_,rfl,Nat.zero_le _,NK (enc:=id) tw,by omega,I4,?_,?_⟩⟩ mU (HC (enc:=id) tu)
  ·rw [<- dL];simp [putCells]
  ·have h1:=PE (enc:=id) (d:=flatK l5.kZ e.z ms) (cur:=cur) (by rw [Bo,dL]; exact Nat.mul_le_mul_right _ hle);rw [List.map_id,flat ms] at h1;have af:(dedup l).length * e.z<=(flatK l5.kZ e.z ms).size:=by rw [Bo]; exact Nat.mul_le_mul_right _ IC
   rw [<- WC,<- h1,List.take_take,Nat.min_eq_left af]
end
end Go.Own
namespace Go.Proofs
open Go.Shelf Go.RowKit Go.Lib Go.Sort
set_option linter.unusedSectionVars false
variable {α:Type} [Inhabited α] [DecidableEq α]
omit [DecidableEq α] in
theorem Y' (enc:α->List Value) (d:Array α) (k:Nat) (xs:List α) (h:k+xs.length<=d.size):setMany (flatK enc 2 d) (k * 2) (flatK enc 2 xs.toArray).toList=flatK enc 2 (lay d k xs):=by
 have EF:(lay d k xs).size=d.size:=by
  have:∀ (xs:List α) (d:Array α) (k:Nat),(lay d k xs).size=d.size:=by
   intro xs
   induction xs with
   | nil=>intro d k; rfl
   | cons x xs aK=>intro d k; rw [lay,aK]; simp
  exact this xs d k
 refine ext_get! (by simp [EF]) λt ak=>?_;rw [size_setMany,size_flatK] at ak;have tC:(flatK enc 2 xs.toArray).toList.length=xs.length * 2:=by simp
 rw [get_setMany _ _ _ t (by rw [size_flatK]; exact ak),tC,get_flatK enc 2 (lay d k xs) t (by rw [EF]; exact ak),get_flatK enc 2 d t ak];have h1:t / 2<d.size:=by omega
 have aI:=lay_get? xs d k (t / 2) h;have bO:(lay d k xs)[t / 2]! = if k<=t / 2/\t / 2<k+xs.length then xs[t / 2 - k]! else d[t / 2]! := by
  rw [getElem!_pos (lay d k xs) (t / 2) (by omega)];rw [Array.getElem?_eq_getElem (by omega)] at aI;by_cases J:k<=t / 2/\t / 2<k+xs.length
  ·rw [if_pos J] at aI ⊢;have j:t / 2 - k<xs.length:=by omega
   rw [List.getElem?_eq_getElem j] at aI;rw [Option.some.inj aI,getElem!_pos xs (t / 2 - k) j]
  ·rw [if_neg J] at aI ⊢;rw [Array.getElem?_eq_getElem h1] at aI;rw [Option.some.inj aI,getElem!_pos d (t / 2) h1]
 rw [bO];by_cases J:k * 2<=t/\t<k * 2+xs.length * 2
 ·rw [if_pos J,if_pos (by omega)];have j:t - k * 2<xs.toArray.size * 2:=by simp; omega
  have b7:(flatK enc 2 xs.toArray).toList[t - k * 2]! = (flatK enc 2 xs.toArray)[t - k * 2]! := by
   rw [getElem!_pos (flatK enc 2 xs.toArray) _ (by simpa using j),getElem!_pos (flatK enc 2 xs.toArray).toList _ (by simpa using j)];simp
  rw [b7,get_flatK _ _ _ _ j,show (t - k * 2) / 2=t / 2 - k by omega,show (t - k * 2) % 2=t % 2 by omega];have gZ:t / 2 - k<xs.length:=by omega
  rw [getElem!_pos xs.toArray (t / 2 - k) (by simpa using gZ),getElem!_pos xs (t / 2 - k) gZ];simp
 ·rw [if_neg J,if_neg (by omega)]
omit [DecidableEq α] [Inhabited α] in
theorem XJ (d:Array α) (k:Nat) (x:α):lay d k [x]=d.setIfInBounds k x:=rfl
omit [DecidableEq α] in
theorem PF (enc:α->List Value) (w:World) (fD:Nat) (d:Array α) (k:Nat) (xs:List α) (h:k+xs.length<=d.size):(putRowK enc 2 w fD 0 d).setCells fD (k * 2) (flatK enc 2 xs.toArray).toList=putRowK enc 2 w fD 0 (lay d k xs):=by
 unfold putRowK;have:=setCells_putRow w fD 0 (flatK enc 2 xs.toArray).toList (k * 2) (flatK enc 2 d) (by simp; omega);rw [Nat.zero_add] at this;rw [this,Y' enc d k xs h]
omit [DecidableEq α] in
theorem TV (e0 bO:α->Value) (u:α):(flatK (λx=>[e0 x,bO x]) 2 [u].toArray).toList=[e0 u,bO u]:=by
 unfold flatK;rw [show Array.range ([u].toArray.size * 2)=#[0,1] from rfl]
 simp
theorem aaj (n:Nat) (z:Value):(Builtin.zeroCells #[z,z] n).toList=List.replicate (n * 2) z:=by
 apply List.ext_getElem
 ·simp [Builtin.zeroCells]
 ·intro i h1 af;simp only [Builtin.zeroCells,Array.getElem_toList,Array.getElem_map,Array.getElem_range,List.getElem_replicate];rw [show (#[z,z]:Array Value).size=2 from rfl]
  rcases Nat.mod_two_eq_zero_or_one i with e | e <;> rw [e] <;> rfl
omit [DecidableEq α] in
theorem M6 (enc:α->List Value) (n:Nat) (z:Value) (h:enc default=[z,z]):(flatK enc 2 (List.replicate n (default:α)).toArray).toList=List.replicate (n * 2) z:=by
 apply List.ext_getElem
 ·simp
 ·intro i h1 af;rw [List.length_replicate] at af;have aJ:i<((List.replicate n (default:α)).toArray).size * 2:=by simpa using af
  have bo:(flatK enc 2 (List.replicate n (default:α)).toArray)[i]! = z:=by
   rw [get_flatK _ _ _ i aJ];have cu:i / 2<n:=by omega
   rw [getElem!_pos ((List.replicate n (default:α)).toArray) (i / 2) (by simpa using cu)];simp only [List.getElem_toArray,List.getElem_replicate,h];rcases Nat.mod_two_eq_zero_or_one i with e | e <;> rw [e] <;> rfl
  rw [getElem!_pos _ i (by simpa using af)] at bo;simpa using bo
theorem YZ (P:Program) (w:World) (t e ty:TypeId) (z:Value) (ak:P.underlying t=some (.slice e)) (hv:∀ w,(zeroValue e).run P w=.ok z w) (b o n c:Nat) (vs:List Value) (aS:(Builtin.zeroCells z.cells n).toList=vs) (h1:∀ v∈vs,v.oneCell'=true) (az:0<n)
  (J:∀ aa,aa<vs.length->(w.cell? ⟨b,o+aa,none⟩).isSome=true) (aU:∀ aa,aa<vs.length->w.frozen? ⟨b,o+aa,none⟩=false) :
  (Builtin.clear_ #[t] ty #[.slice (some ⟨b,o,none⟩) n c]).run P w=.ok (.tuple #[]) (w.setCells b o vs):=by
 have bM:=run_storeCells_cells (P:=P) b o vs 0 w (by simpa using J) (by simpa using aU) h1;simp only [Nat.add_zero] at bM;obtain ⟨m,rfl⟩:∃ m,n=m+1:=⟨n - 1,by omega⟩;simp [Builtin.clear_,run_underlying ak,hv,aS,bM]
namespace Two
open Go.Own
variable [cw]
variable {P:Program}{t:TypeId}
theorem TE {xs bs:List Value}{sh:List lX}(aQ:xs.map kj=sh.map some) (au:bs.map kj=sh.map some) (ak:n4 P t sh=true) (w:World):(binOp .eql t (.agg xs.toArray) (.agg bs.toArray)).run P w=.ok (.bool (jT xs bs)) w:=by
 simp only [n4,Bool.and_eq_true,Bool.not_eq_true'] at ak;obtain ⟨⟨h1,af⟩,aJ⟩:=ak;have h:=C_ w 100 t sh h1 Op.maxDepth (by decide) xs bs aQ au
 split at af
 ·rename_i fs hu;simp only [pack,hu] at h;simp [binOp,Op.equal,h]
 ·cases af
theorem XX {xs bs:List Value}{sh:List lX}(aQ:xs.map kj=sh.map some) (au:bs.map kj=sh.map some) (ak:n4 P t sh=true) (w:World):(binOp .neq t (.agg xs.toArray) (.agg bs.toArray)).run P w=.ok (.bool (!jT xs bs)) w:=by
 simp only [n4,Bool.and_eq_true,Bool.not_eq_true'] at ak;obtain ⟨⟨h1,af⟩,aJ⟩:=ak;have h:=C_ w 100 t sh h1 Op.maxDepth (by decide) xs bs aQ au
 split at af
 ·rename_i fs hu;simp only [pack,hu] at h;simp [binOp,Op.equal,h]
 ·cases af
theorem T2 {sh:List lX}(ak:n4 P t sh=true) (op:BinOp) (a b:Operand) (x y:Array Value) (w:World):(eqGuard op t a b (.agg x) (.agg y)).run P w=.ok () w:=by
 simp only [n4,Bool.and_eq_true,Bool.not_eq_true'] at ak;simp [eqGuard,ak.2]
omit [Inhabited α] [DecidableEq α] in
theorem one (f:α->Int):OneCell λx=>Value.int .i64 (f x):=λ_=>rfl
end Two
end Go.Proofs
namespace Go.Own
open Go Go.Proofs Go.Shelf Go.Lib Go.Sort
set_option linter.unusedSectionVars false
variable [cw]
def qH (k:IntKind) (m n:Int):Int:=m.fdiv (2 ^ (min n.toNat k.bits))
theorem O.shr {P:Program}{g:aG}{t t2 ty:TypeId}{a b:Operand}{k kc:IntKind}{m n:Int}(j:Rd g a (.lit (.int k m))) (ai:Rd g b (.lit (.int kc n))) (h:decide (0<=n)=true):b5 P g (.binOp .shr t a b t2) ty (.lit (.int k (qH k m n))):=by
 have aH:¬ n<0:=by have:=of_decide_eq_true h; omega
 exact .ek (.bin j.bj ai.bj rfl λw=>by simp [eqGuard,binOp,Op.shift,aH,qH])
section
variable {α:Type}{e:bz α}{P:Program}{w:World}
end
end Go.Own
namespace Go.Own
open Go
set_option linter.unusedSectionVars false
variable [cw]
section
variable {α:Type}{P:Program}{N:cN}{g:aG}{d r:Nat}
end
end Go.Own
namespace Go.Own
open Go
set_option linter.unusedSectionVars false
variable [cw]
theorem q {α:Sort _}{a:α}:a=a:=rfl
abbrev bk:ByteArray:=⟨#[]⟩
theorem xg {p:Prop} [Decidable p] (h:decide p=true):p:=of_decide_eq_true h
theorem nr {b:Bool}{g h:aG}{eD s1:Nat}{ez aX:ab}(aH:g eD=some ez) [b9 ez] (h1:g s1=some aX) [b9 aX]:Trim b g h [(eD,ez),(s1,aX)]:=(.n aH (.n h1 .nil))
theorem sQ {b:Bool}{g h:aG}{eD s1 s2:Nat}{ez aX x2:ab}(aH:g eD=some ez) [b9 ez] (h1:g s1=some aX) [b9 aX] (af:g s2=some x2) [b9 x2]:Trim b g h [(eD,ez),(s1,aX),(s2,x2)]:=(.n aH (.n h1 (.n af .nil)))
theorem kE {b:Bool}{g h:aG}{eD s1 s2 dE:Nat}{ez aX x2 aZ:ab}(aH:g eD=some ez) [b9 ez] (h1:g s1=some aX) [b9 aX] (af:g s2=some x2) [b9 x2] (aJ:g dE=some aZ) [b9 aZ]:Trim b g h [(eD,ez),(s1,aX),(s2,x2),(dE,aZ)]:=(.n aH (.n h1 (.n af (.n aJ .nil))))
theorem kF {b:Bool}{g h:aG}{eD s1 s2 dE dd:Nat}{ez aX x2 aZ b4:ab}(aH:g eD=some ez) [b9 ez] (h1:g s1=some aX) [b9 aX] (af:g s2=some x2) [b9 x2] (aJ:g dE=some aZ) [b9 aZ] (bo:g dd=some b4) [b9 b4]:Trim b g h [(eD,ez),(s1,aX),(s2,x2),(dE,aZ),(dd,b4)]:=(.n aH (.n h1 (.n af (.n aJ (.n bo .nil)))))
theorem ns {b:Bool}{g h:aG}{eD s1 s2 dE dd dW:Nat}{ez aX x2 aZ b4 cd:ab}(aH:g eD=some ez) [b9 ez] (h1:g s1=some aX) [b9 aX] (af:g s2=some x2) [b9 x2] (aJ:g dE=some aZ) [b9 aZ] (bo:g dd=some b4) [b9 b4] (cu:g dW=some cd) [b9 cd]:Trim b g h [(eD,ez),(s1,aX),(s2,x2),(dE,aZ),(dd,b4),(dW,cd)]:=(.n aH (.n h1 (.n af (.n aJ (.n bo (.n cu .nil))))))
theorem zZ {b:Bool}{g h:aG}{eD s1 s2 dE dd dW cL:Nat}{ez aX x2 aZ b4 cd b2:ab}(aH:g eD=some ez) [b9 ez] (h1:g s1=some aX) [b9 aX] (af:g s2=some x2) [b9 x2] (aJ:g dE=some aZ) [b9 aZ] (bo:g dd=some b4) [b9 b4] (cu:g dW=some cd) [b9 cd] (dC:g cL=some b2) [b9 b2]:Trim b g h [(eD,ez),(s1,aX),(s2,x2),(dE,aZ),(dd,b4),(dW,cd),(cL,b2)]:=(.n aH (.n h1 (.n af (.n aJ (.n bo (.n cu (.n dC .nil)))))))
theorem ZP {b:Bool}{g h:aG}{eD s1 s2 dE dd dW cL hb:Nat}{ez aX x2 aZ b4 cd b2 bt:ab}(aH:g eD=some ez) [b9 ez] (h1:g s1=some aX) [b9 aX] (af:g s2=some x2) [b9 x2] (aJ:g dE=some aZ) [b9 aZ] (bo:g dd=some b4) [b9 b4] (cu:g dW=some cd) [b9 cd] (dC:g cL=some b2) [b9 b2] (jh:g hb=some bt) [b9 bt]:Trim b g h [(eD,ez),(s1,aX),(s2,x2),(dE,aZ),(dd,b4),(dW,cd),(cL,b2),(hb,bt)]:=(.n aH (.n h1 (.n af (.n aJ (.n bo (.n cu (.n dC (.n jh .nil))))))))
theorem ZQ {b:Bool}{g h:aG}{eD s1 s2 dE dd dW cL hb ct:Nat}{ez aX x2 aZ b4 cd b2 bt cf:ab}(aH:g eD=some ez) [b9 ez] (h1:g s1=some aX) [b9 aX] (af:g s2=some x2) [b9 x2] (aJ:g dE=some aZ) [b9 aZ] (bo:g dd=some b4) [b9 b4] (cu:g dW=some cd) [b9 cd] (dC:g cL=some b2) [b9 b2] (jh:g hb=some bt) [b9 bt] (pz:g ct=some cf) [b9 cf]:Trim b g h [(eD,ez),(s1,aX),(s2,x2),(dE,aZ),(dd,b4),(dW,cd),(cL,b2),(hb,bt),(ct,cf)]:=(.n aH (.n h1 (.n af (.n aJ (.n bo (.n cu (.n dC (.n jh (.n pz .nil)))))))))
theorem adL {b:Bool}{g h:aG}{eD s1 s2 dE dd dW cL hb ct nP:Nat}{ez aX x2 aZ b4 cd b2 bt cf cR:ab}(aH:g eD=some ez) [b9 ez] (h1:g s1=some aX) [b9 aX] (af:g s2=some x2) [b9 x2] (aJ:g dE=some aZ) [b9 aZ] (bo:g dd=some b4) [b9 b4] (cu:g dW=some cd) [b9 cd] (dC:g cL=some b2) [b9 b2] (jh:g hb=some bt) [b9 bt] (pz:g ct=some cf) [b9 cf] (wo:g nP=some cR) [b9 cR]:Trim b g h [(eD,ez),(s1,aX),(s2,x2),(dE,aZ),(dd,b4),(dW,cd),(cL,b2),(hb,bt),(ct,cf),(nP,cR)]:=(.n aH (.n h1 (.n af (.n aJ (.n bo (.n cu (.n dC (.n jh (.n pz (.n wo .nil))))))))))
theorem adM {b:Bool}{g h:aG}{eD s1 s2 dE dd dW cL hb ct nP f_:Nat}{ez aX x2 aZ b4 cd b2 bt cf cR bR:ab}(aH:g eD=some ez) [b9 ez] (h1:g s1=some aX) [b9 aX] (af:g s2=some x2) [b9 x2] (aJ:g dE=some aZ) [b9 aZ] (bo:g dd=some b4) [b9 b4] (cu:g dW=some cd) [b9 cd] (dC:g cL=some b2) [b9 b2] (jh:g hb=some bt) [b9 bt] (pz:g ct=some cf) [b9 cf] (wo:g nP=some cR) [b9 cR] (wm:g f_=some bR) [b9 bR]:Trim b g h [(eD,ez),(s1,aX),(s2,x2),(dE,aZ),(dd,b4),(dW,cd),(cL,b2),(hb,bt),(ct,cf),(nP,cR),(f_,bR)]:=(.n aH (.n h1 (.n af (.n aJ (.n bo (.n cu (.n dC (.n jh (.n pz (.n wo (.n wm .nil)))))))))))
section
variable {P:Program}{N:cN}{ops:Array Oper}{g:aG}{K:aG->Prop}{l:List Oper}{d t:Nat}{ty:TypeId}{pos:String}{after:Array Edge}{v:Value}
theorem iL {G1:List (Nat × ab)}(h:Trim true g (get G1) G1):aC P N ops [] g λg'=>jR g' (get G1):=.fin h
theorem cn (h:g t=some (.lit v)) (hk:aC P N ops l (cH g d (.lit v)) K) (a8:N.ok d=true:=by rfl) (aU:g d=none:=by rfl):aC P N ops (⟨some d,.move (.tmp t),ty,pos,after,none⟩::l) g K:=aq (O.a1 (.lit h)) hk a8 aU
theorem Ar (h:g t=some (.lit v)) (hk:aC P N ops l (cH g d (.lit v)) K) (a8:N.ok d=true:=by rfl) (aU:g d=none:=by rfl):aC P N ops (⟨some d,.assign (.tmp t),ty,pos,after,none⟩::l) g K:=aq (O.dK (.lit h)) hk a8 aU
theorem Ra (h:ofConst v=.lit v) (hk:aC P N ops l (cH g d (.lit v)) K) (a8:N.ok d=true:=by rfl) (aU:g d=none:=by rfl):aC P N ops (⟨some d,.assign (.const v),ty,pos,after,none⟩::l) g K:=aq (O.dK (.k h)) hk a8 aU
end
end Go.Own
namespace Go.Own
open Go
set_option linter.unusedSectionVars false
variable [cw]
section
variable {α:Type}{g:aG}
end
end Go.Own
namespace Go.Own
open Go
set_option linter.unusedSectionVars false
variable [cw]
section
variable {α:Type}{P:Program}{N:cN}{g:aG}{d r:Nat}
theorem fp.j2 {o:Oper}{xs:List Operand}{fI:Array TypeId}{f:FuncId}{ys:List ab}{res:ab}{en:bz α}{L:List α}{G2:List (Nat × ab)}(aM:o.op=.call { callee:=.value (.func f),args:=xs.toArray,argTypes:=fI }) (aO:o.dst=some d) (j:Own.fZ g xs=some (.bn en.z ⟨r,[]⟩ L.length::ys))
  (ax:g r=some (ar en L)) (gp:bH P f (ar en L::ys) (none::ys.map λ_=>none) res) (aU:gR P f=true) [aj:b9 res] [az:df ys]
  (cT:Trim false (cc g ⟨r,[]⟩ .dead) (get G2) G2) (aI:get G2 d=none) (a8:N.ok d=true) :
  fp P N g o d (get ((d,res)::G2)):=by
 have mu:∀ x∈bw en L,cE x:=by
  intro x j;obtain ⟨a,_,aQ⟩:=List.mem_flatMap.1 j;exact en.bd a x aQ
 have hK:(bw en L).take (L.length * en.z)=bw en L:=List.take_of_length_le (by rw [nn]; exact Nat.le_refl _);have tI:gF (cc g ⟨r,[]⟩ .dead) (get G2):=by
  refine ⟨λt x h=>?_,λt x h=>(cT.spec t x h).2.1,λt z q n m new h=>(cT.spec t _ h).2.2 _ _ _ _ _ rfl⟩;obtain ⟨⟨y,h1,_,aJ⟩,_⟩:=cT.spec t x h;rw [<- aJ rfl]; exact h1
 have tJ:gF (get G2) (get G2):=⟨λt x h=>h,λt x h=>(cT.spec t x h).2.1,λt z q n m new h=>(cT.spec t _ h).2.2 _ _ _ _ _ rfl⟩;have q3:get ((d,res)::G2)=cH (get G2) d res:=by
  funext t;rw [q7]
 rw [q3];refine x0.ok (first:=[]) (caps:=[]) (ys:=.bn en.z ⟨r,[]⟩ L.length::ys) (tk:=λ_=>true) (vw:=false) (outs:=none::ys.map λ_=>none) (g1:=cc g ⟨r,[]⟩ .dead) (g2:=get G2) (g4:=get G2) (l:=[]) (ks:=λ_=>0) (xs0:=.bn en.z ⟨r,[]⟩ L.length::ys) (xs1:=ar en L::ys) (args:=ar en L::ys) (res:=res) aM aO rfl (by simpa using j)
  ⟨aU,by simp,by simp,λk x h=>.inl (by simpa using h),?_,tI,λk x y j ai=>by simpa using ai,gp,by simpa using aj.bd,λk x h=>?_,λaa p x ag=>by simp at ag,by simp,λi aa hi ag _=>by simp at hi,tJ⟩ aI a8 ug.refl
 ·have h1:Take (cc g ⟨r,[]⟩ .dead) ((bw en L).take (L.length * en.z)) (bw en L) (cc g ⟨r,[]⟩ .dead):=by rw [hK]; exact .bd mu
  exact .bn (N:=L.length) (by simp [bu,ax,ab.at]) (Nat.le_refl _) h1 (.bd az.bd)
 ·cases k with
  | zero=>simp at h
  | succ k =>
   simp only [List.getElem?_cons_succ,List.getElem?_map] at h;cases aQ:ys[k]? <;> rw [aQ] at h <;> cases h
end
end Go.Own
namespace Go.Own
open Go
set_option linter.unusedSectionVars false
variable [cw]
class vS (x:ab):Prop where pl:pe x
class DN (cs:List ab):Prop where pl:∀ x∈cs,pe x
instance {v:Value}:vS (.lit v):=⟨.lit⟩
instance:vS .bf:=⟨.bf⟩
instance {z n:Nat}{cs:List ab} [h:df cs]:vS (.bc z n cs):=⟨.bc h.bd⟩
instance {α:Type}{e:bz α}{L:List α}:vS (ay e L):=⟨.bc (df.bd (cs:=bw e L))⟩
instance {cs:List ab} [h:DN cs]:vS (.agg cs):=⟨.agg h.pl⟩
instance:DN []:=⟨by simp⟩
instance {x:ab}{cs:List ab} [h:vS x] [aL:DN cs]:DN (x::cs):=⟨λy ai=>by
 rcases List.mem_cons.1 ai with rfl | ai
 ·exact h.pl
 ·exact aL.pl y ai⟩
class DL (G:List (Nat × ab)):Prop where bd:∀ t x,get G t=some x->cE x
instance:DL []:=⟨λt x h=>by cases h⟩
instance {s:Nat}{x:ab}{G:List (Nat × ab)} [h:b9 x] [aL:DL G]:DL ((s,x)::G):=⟨λt y ai=>by
 simp only [get] at ai
 split at ai
 ·cases ai; exact h.bd
 ·exact aL.bd t y ai⟩
class yb (acc:Acc):Prop where bd:∀ e∈acc,∀ x,e.2.2=some x->cE x
instance:yb []:=⟨by simp⟩
instance {k d:Nat}{x:ab}{acc:Acc} [h:b9 x] [aL:yb acc]:yb ((k,d,some x)::acc):=⟨λe he y ai=>by
 rcases List.mem_cons.1 he with rfl | he
 ·cases ai; exact h.bd
 ·exact aL.bd e he y ai⟩
instance {k d:Nat}{acc:Acc} [aL:yb acc]:yb ((k,d,none)::acc):=⟨λe he y ai=>by
 rcases List.mem_cons.1 he with rfl | he
 ·cases ai
 ·exact aL.bd e he y ai⟩
theorem SF {G:List (Nat × ab)}{A:Nat->Bool}{acc:Acc} [h:DL G] [aL:yb acc]:Gw (c9 (get G) A acc):=by
 have key:∀ t x,c9 (get G) A acc t=some x->cE x:=λt x j=>by
  rcases tY j with ⟨e,he,_,_,af⟩ | ⟨_,af⟩
  ·exact aL.bd e he x af
  ·exact h.bd t x af
 exact ⟨λt x j=>.bd (key t x j),λt z q n m new j=>by cases key t _ j⟩
end Go.Own
namespace Go.Own
open Go Go.MapKept Go.ChangeMaps
set_option linter.unusedSectionVars false
variable [cw]
section
variable {P:Program}{w:World}{I:a6}{T:Array Value}{g g2:aG}{Fs:Nat->a6}
end
end Go.Own
namespace Go.Own
open Go Go.MapKept Go.ChangeMaps Go.WideElems
set_option linter.unusedSectionVars false
variable [cw]
open Go.Maps (Keyed)
set_option linter.unusedVariables false
variable {km lR:Type}{P:Program}{k e:TypeId}
abbrev ye:Value->Option (DataW Value × List MemPlace):=λv=>some (.held v,[])
def rQ [DecidableEq km]:List (km × lR)->km->Option lR
 | [],_=>none
 | p::m,x=>if p.1=x then some p.2 else rQ m x
def O4 [DecidableEq km] (ok:km->Bool) (z:lR) (m:List (km × lR)) (x:km):Option lR:=if ok x then some ((rQ m x).getD z) else none
def O6 (ok:km->Bool) (m:List (km × lR)) (x:km) (y:lR):Option (List (km × lR)):=if ok x&&decide (m.length<=lim) then some ((x,y)::m) else none
structure Lx (P:Program) (k:TypeId) (km:Type) where
 qw:km->Value
 y6:km->Lit
 ON:km->ab
 ok:km->Bool
 keyed:Keyed P k
 key:∀ x,ok x=true->keyOf P k (qw x)=some (y6 x)
 inj:∀ x y,y6 x=y6 y->x=y
 L9:∀ (x:km) (w:World) (I:a6) (ρ:ab->Value->Prop) (v:Value),R w I ρ (ON x) v cb->v=qw x
structure Ly (P:Program) (e:TypeId) (lR:Type) where
 o7:lR->Value
 K0:lR->ab
 z:lR
 zero:∀ w,(zeroValue e).run P w=.ok (o7 z) w
 one:∀ x,(o7 x).oneCell'=true
 L9:∀ (x:lR) (w:World) (I:a6) (ρ:ab->Value->Prop) (v:Value),R w I ρ (K0 x) v cb->v=o7 x
 nt:∀ (x:lR) (w:World) (I:a6) (ρ:ab->Value->Prop),R w I ρ (K0 x) (o7 x) cb
def xJ (P:Program) (k:TypeId) (es:Array MapEntry):List (Lit × DataW Value):=(es.toList.map (rg P k ye)).foldr DataW.insert []
def sZ [DecidableEq km] (K:Lx P k km) (V:Ly P e lR) (m:List (km × lR)):Array MapEntry->Nat->Prop:=λes c=>Fit P k ye es c/\es.size<=m.length/\∀ x Gn,(DataW.map (xJ P k es)).atKey (K.y6 x) Gn=match rQ m x with | some y=>.held (V.o7 y) | none=>Gn
variable [DecidableEq km] {K:Lx P k km}{V:Ly P e lR}{m bm:List (km × lR)}{x:km}{y:lR}{t:TypeId}
theorem sZ.nil:sZ K V [] #[] 0:=⟨⟨by simp,stamped_empty 0,by simp⟩,Nat.le_refl _,λx Gn=>rfl⟩
theorem sZ.look (ok:Bool) (dp:K.ok x=true) (ak:P.underlying t=some (.map k e)) (w:World) (b:Nat) (es:Array MapEntry) (c:Nat) (au:w.heap[b]?=some (.map es c)) (h:sZ K V m es c) :
  (Instr.lookup t (.map (some b)) (K.qw x) ok).run P w=.ok (if ok then .tuple #[V.o7 ((rQ m x).getD V.z),.bool (rQ m x).isSome] else V.o7 ((rQ m x).getD V.z)) w:=by
 obtain ⟨F,_,e5⟩:=h;have e5:=e5 x;rcases Maps.fit_look ok K.keyed ak (V.zero w) au F (K.key x dp) with ⟨gY,_,af⟩ | ⟨e0,y,_,_,gY,ai,af,_⟩
 ·have:rQ m x=none:=by
   cases aI:rQ m x with
   | none=>rfl
   | some y =>
    have h1:=e5 .nil;rw [aI] at h1;have aJ:=af .nil;unfold xJ at h1;rw [h1] at aJ; cases aJ
  rw [gY,this]; rfl
 ·cases ai;cases aI:rQ m x with
  | none =>
   have h1:=e5 .nil;rw [aI] at h1;have aJ:=af .nil;unfold xJ at h1;rw [h1] at aJ; cases aJ
  | some y =>
   have h1:=e5 .nil;rw [aI] at h1;have aJ:=af .nil;unfold xJ at h1;rw [h1] at aJ;have bo:e0.val=V.o7 y:=by simpa using aJ.symm
   rw [gY,bo]; rfl
theorem sZ.put (aH:O6 K.ok m x y=some bm) (ak:P.underlying t=some (.map k e)) (w:World) (b:Nat) (es:Array MapEntry) (c:Nat) (au:w.heap[b]?=some (.map es c)) (h:sZ K V m es c) :
  ∃ wh ta,(Instr.mapUpdate t (.map (some b)) (K.qw x) (V.o7 y)).run P w=.ok () (setBlock w b (.map wh ta))/\sZ K V bm wh ta:=by
 unfold O6 at aH
 split at aH
 ·rename_i J;cases aH;simp only [Bool.and_eq_true,decide_eq_true_eq] at J;obtain ⟨dp,ah⟩:=J;obtain ⟨F,ax,e5⟩:=h;have NW:=K.key x dp;obtain ⟨wh,ta,gY,cM,l8,_⟩:=Maps.fit_store (R':=ye) K.keyed ak au F (by have:maxLen=9223372036854775807:=rfl; simp only [lim] at ah; omega) (λ_ _ _ _ aS=>aS) NW (rfl:ye (V.o7 y)=some (.held (V.o7 y),[]));refine ⟨wh,ta,gY,cM,?_,λx' Gn=>?_⟩
  ·have bO:wh.size=((wh.toList.map (rg P k ye)).foldr DataW.insert []).length:=by rw [length_sorted]; simp
   rw [bO,l8];unfold putKey;rw [length_insert];have b7:=List.length_filter_le (notKey (K.y6 x)) ((es.toList.map (rg P k ye)).foldr DataW.insert []);rw [length_sorted] at b7;simp at b7 ⊢;omega
  ·have e1:(DataW.map (xJ P k wh))=(DataW.map (xJ P k es)).put (K.y6 x) (.held (V.o7 y)):=by
    rw [DataW.put_eq]; unfold xJ; rw [l8]
   rw [e1];by_cases j:x=x'
   ·subst j;rw [Maps.atKey_put_same ⟨_,rfl⟩ (K.keyed.key NW)];simp [rQ]
   ·rw [Maps.atKey_put_other (λe=>j (K.inj _ _ e).symm),e5];simp [rQ,j]
 ·cases aH
section
variable {N:cN}{g:aG}{a b c:Operand}{p:Place}{ty:TypeId}
instance {q:Array MapEntry->Nat->Prop}:b9 (.mp q):=⟨.mp⟩
instance {q:Array MapEntry->Nat->Prop}:b9 (.imp q):=⟨.imp⟩
instance {q:Array MapEntry->Nat->Prop}:nY (.mp q):=⟨.mp⟩
theorem O.Cg {r:lR}{X Y:ab}(hm:Rd g a (.imp (sZ K V m))) (j:Rd g b Y) (Ic:K.ON x=Y) (ak:P.underlying t=some (.map k e)) (h:O4 K.ok V.z m x=some r) (wu:V.K0 r=X):b5 P g (.lookup t a b false) ty X:=by
 subst wu Ic;unfold O4 at h
 split at h
 ·rename_i dp;cases h;exact .ek (.Cg hm.bj j.bj (K.L9 x) (V.nt _) λw b es c au ba=>sZ.look false dp ak w b es c au ba)
 ·cases h
end
end Go.Own
namespace Go.Own
open Go
set_option linter.unusedSectionVars false
variable [cw]
section
variable {α:Type}{P:Program}{N:cN}{g:aG}{d r:Nat}{ty t t2 e:TypeId}{a b:Operand}{k kc:IntKind}{m n:Int}{p:Place}
def r2 (k:IntKind) (m n:Int):Int:=k.wrap ((BitVec.ofInt k.bits m &&& BitVec.ofInt k.bits n).toNat)
theorem O.and' (j:Rd g a (.lit (.int k m))) (ai:Rd g b (.lit (.int k n))):b5 P g (.binOp .and t a b t2) ty (.lit (.int k (r2 k m n))) :=
 .ek (.bin j.bj ai.bj rfl λw=>by simp [eqGuard,binOp,Op.intBits,r2])
theorem W.SB {x y:Code}{G:List (Nat × ab)}{Φ:Exit->aG->Prop}(h:W P N y (get G) Φ):W P N (.cond (.const (.bool false)) x y) (get G) Φ:=W.Hl rfl h
def vc (L:List α) (m:Int):Option Unit:=if 0<=m/\m<=L.length then some () else none
theorem Xt {L:List α}{u:Unit}(h:vc L m=some u):m.toNat<=L.length:=by
 grind [vc]
instance:ko aY:=⟨λx=>[.int .i64 x],λ_=>rfl,λx v hv=>by rw [List.mem_singleton.1 hv]; rfl⟩
theorem O.KM {en:bz α}{L:List α}{u:Unit}(j:Rd g a (.bn en.z p L.length)) (ah:Rd g b (.lit (.int k m))) (av:bu g p=some (ar en L)) (ak:e2 P t e en.z=true) (h:vc L m=some u):b5 P g (.slice t a (some b) none none) ty (.sub en.z p m.toNat (L.length - m.toNat)):=by
 unfold vc at h
 split at h
 ·rename_i J;obtain ⟨i,rfl⟩:=Int.eq_ofNat_of_zero_le J.1;exact .ek (.FW j.bj ⟨_,ah.bj⟩ rfl ak (by omega) (Nat.le_refl _) ⟨_,_,av,by omega⟩)
 ·cases h
theorem O.Zd {en:bz α}{L:List α}{u:Unit}(j:Rd g a (.bn en.z p L.length)) (bE:Rd g b (.lit (.int k m))) (av:bu g p=some (ar en L)) (ak:e2 P t e en.z=true) (h:vc L m=some u):b5 P g (.slice t a none (some b) none) ty (.bn en.z p m.toNat):=by
 unfold vc at h
 split at h
 ·rename_i J;obtain ⟨i,rfl⟩:=Int.eq_ofNat_of_zero_le J.1;exact .ek (.FX j.bj rfl ⟨_,bE.bj⟩ ak (by omega) (.inl ⟨_,_,av,by omega⟩))
 ·cases h
def Ea (lo nd:Nat) (L S:List α):Option (List α):=if 0<min S.length nd/\lo+nd<=L.length then some (L.take lo++S.take (min S.length nd)++L.drop (lo+min S.length nd)) else none
def Cj (e:bz α) [h:ko e] (L:List α):List Value:=L.flatMap h.kZ
theorem J3 (e:bz α) [h:ko e] (L:List α):bw e L=(Cj e L).map .lit:=by
 induction L with
 | nil=>rfl
 | cons x L aK =>
  have:bw e (x::L)=e.cells x++bw e L:=by simp [bw]
  rw [this,aK,h.cells];simp [Cj]
theorem GG.bc {en:bz α}{S:List α}:Src g (ay en S) en.z S.length (bw en S):=.bc
theorem GG.bn {en:bz α} [ko en] {L:List α}{q:Place}{n:Nat}(ba:bu g q=some (ar en L)) (az:n<=L.length):Src g (.bn en.z q n) en.z (L.take n).length (bw en (L.take n)):=by
 have h1:(L.take n).length=n:=by rw [List.length_take]; omega
 have af:bw en (L.take n)=(((bw en L).take (n * en.z)).mapIdx λi x=>fA 0 (q.push i) x):=by
  rw [xC,J3];apply List.ext_getElem?;intro aa;rw [List.getElem?_mapIdx];cases ag:((Cj en (L.take n)).map ab.lit)[aa]? with
  | none=>rfl
  | some y =>
   obtain ⟨v,_,rfl⟩:=List.mem_map.1 (List.mem_of_getElem? ag);rfl
 rw [h1,af];exact .bn ba az
theorem Zi {z:Nat}(h:e2 P t e z=true):(P.info? e).map (·.size)=some z:=by
 grind [e2]
theorem bF.bD {o:Oper}{en:bz α} [ah:ko en] {L S L':List α}{lo nd:Nat}{K7 o_:ab}{G2:List (Nat × ab)}(aM:o.op=.call { callee:=.builtin .copy,args:=#[a,b],argTypes:=#[t,t2] }) (aO:o.dst=some d) (aQ:bj g a=some K7) (Xe:K7=.sub en.z ⟨r,[]⟩ lo nd\/(K7=.bn en.z ⟨r,[]⟩ nd/\lo=0)) (au:bj g b=some o_)
  (rl:Src g o_ en.z S.length (bw en S)) (ax:g r=some (ar en L)) (sz:en.z=1) (ak:e2 P t e 1=true) (h:Ea lo nd L S=some L') (mw:(get G2 r).isSome=true) (cT:kM g (get G2) r (ar en L') G2) (re:get G2 d=none) (a8:N.ok d=true) :
  bF P N g o (get ((d,ae ((min S.length nd:Nat):Int))::G2)):=by
 unfold Ea at h;by_cases J:0<min S.length nd/\lo+nd<=L.length
 case neg=>rw [if_neg J] at h; cases h
 rw [if_pos J] at h;obtain ⟨jA,ac'⟩:=J;cases h;generalize hk:min S.length nd=k at *;have ac_:k<=S.length:=by omega
 have ada:k<=nd:=by omega
 refine .P6 λw I T Fs h b3 yG UT K Q Ev=>?_;obtain ⟨hu,he,dL⟩:=p5 (w:=w) ak;have av:bu g ⟨r,[]⟩=some (ar en L):=by simp [bu,ax,ab.at]
 have Nw:=kB h aQ yG;obtain ⟨v0,cp,iY,dA,di⟩:=h.part av (by simp);obtain ⟨a0,aaE,rfl,kv,hlen,qn,rk⟩:=dA.mE;have UO:0<L.length:=by omega
 cases a0 with
 | none=>have:=rk UO; simp at this
 | some LN =>
 obtain ⟨Bz,BA⟩:=qn LN rfl;obtain ⟨g0,adH,adJ⟩:=LN;simp only at Bz BA;subst Bz BA;have n5:cp g0:=dA.pX g0 rfl
 -- the target
 have ID:∃ cap,b3.eval a=.slice (some ⟨g0,lo,none⟩) nd cap:=by
  rcases Xe with rfl | ⟨rfl,rfl⟩
  ·obtain ⟨⟨k6,uk,AA,aw,c1,h1,af,_,_,cu⟩,_⟩:=Nw.wZ;rw [h1] at iY;cases iY;obtain ⟨ad,bO,b7⟩:=cu (by omega);cases bO;rw [af,b7,sz];exact ⟨c1,by simp⟩
  ·obtain ⟨⟨k6,uk,AA,h1,af,_⟩,_⟩:=Nw.mB;rw [h1] at iY;cases iY;exact ⟨_,af⟩
 obtain ⟨Tk,ID⟩:=ID
 -- the source
 obtain ⟨Db,Y9,news,u0,I6,BH,jy,h3,fy,aV⟩:=rl.sound h (kB h au yG);rw [sz,Nat.mul_one] at I6;cases Db with
 | none=>have:=BH (by omega) (by omega); simp at this
 | some PW =>
 have adm:news=Cj en S:=by
  rw [J3,List.length_map] at h3;apply List.ext_getElem h3.symm;intro aa h1 af;have:=(aV aa (.lit (Cj en S)[aa]) news[aa] (by rw [J3,List.getElem?_map,List.getElem?_eq_getElem af]; rfl) (List.getElem?_eq_getElem h1)).gK.1;exact this
 -- the block
 cases dA with
 | ref j=>simp [ab.isRef] at j
 | @own _ _ _ _ bZ us bK _ jB ht h1 aj pD iV aE =>
 obtain ⟨ih,bE⟩:=jB;rcases bE with ⟨bE,_⟩ | ⟨ix,cap,cur,bE,o2,jJ,rL,tR,zL,xy⟩
 ·cases bE
 cases bE;have NG:L.length<=cur.size:=by
  have wo:(cur.toList.take (L.length * en.z)).length=L.length * en.z:=by rw [xy,ih]
  rw [List.length_take,sz,Nat.mul_one,Array.length_toList] at wo;rw [sz] at zL;omega
 have EB:(news.take k).length=k:=by rw [List.length_take]; omega
 have gY:(execOp b3.eval o).run P w=.ok (.value (goInt k)) (w.setRow g0 (ew cur.toList lo (news.take k)).toArray):=by
  have pz:=run_copy_row (P:=P) w t t2 o.type e g0 lo nd Tk PW S.length Y9 cur bZ (news.take k) hu (Zi ak) jJ (by rw [EB]; exact hk.symm) (λaa v ag=>by
   rw [List.getElem?_take] at ag
   split at ag
   ·exact jy PW rfl aa v ag
   ·cases ag) (by rw [EB]; omega) (λv hv=>by
   obtain ⟨aa,ag⟩:=List.getElem?_of_mem (List.mem_of_mem_take hv);exact fy aa v ag)
  rw [EB] at pz;have q3:(cur.toList.take lo++news.take k++cur.toList.drop (lo+k))=ew cur.toList lo (news.take k):=by unfold ew; rw [EB]
  rw [q3] at pz;simp [execOp,aM,resolve,invoke,ID,u0,builtin,pz]
 -- the state
 have hrel:∀ (aa:Nat) (x:ab) (u:Value),((bw en S).take k)[aa]?=some x->(news.take k)[aa]?=some u->R w I (fL w T) x u cb:=λaa x u j hu=>by
  rw [List.getElem?_take] at j hu
  split at j
  ·rename_i ag;rw [if_pos ag] at hu;exact (aV aa x u j hu).frame (λ_ _=>rfl) (λ_ h=>h) (λ_ _ h=>h.1) λ_ _=>rfl
  ·cases j
 have hH:Hand w I (fL w T) Fs ((bw en S).take k) (news.take k) (λ_=>cb) :=
  ⟨by rw [List.length_take,List.length_take,h3],hrel,λ_ _ _ _ _ h=>h.elim,λ_ _ _ _ h=>h.elim,λ_ _ _ h=>h.elim⟩
 have NF:((bw en S).take k).length=k:=by rw [List.length_take,h3]; omega
 have UN:(bw en L).length=L.length:=by rw [nn,sz,Nat.mul_one]
 have ri:(ar en L).ew lo ((bw en S).take k)=ar en (L.take lo++S.take k++L.drop (lo+k)):=by
  show ab.own en.z L.length (ew (bw en L) lo ((bw en S).take k))=_;have bO:ew (bw en L) lo ((bw en S).take k)=bw en (L.take lo++S.take k++L.drop (lo+k)):=by
   unfold ew;rw [NF,FL,FL];have kg:=xC en L lo;have p1:=xC en S k;have C5:=zO en L (lo+k);rw [sz,Nat.mul_one] at kg p1 C5;rw [kg,p1,C5]
  unfold ar;rw [bO];congr 1;simp; omega
 have Wf:∀ (aa:Nat) (u:Value),(news.take k)[aa]?=some u->u.oneCell'=true:=λaa u hu=>by
  rw [List.getElem?_take] at hu
  split at hu
  ·exact fy aa u hu
  ·cases hu
 have c1:∀ t x,get G2 t=some x->cc g ⟨r,[]⟩ ((ar en L).ew lo ((bw en S).take k)) t=some x:=λt x j=>by
  rw [ri];rcases cT.spec t x j with ⟨h1,af,_⟩ | ⟨h1,af,_⟩
  ·rw [xF h1]; exact af
  ·subst h1 af; simp [cc,ax,ab.setAt]
 have c2:∀ t x,get G2 t=some x->∀ y,g t=some y->j7 (λq=>gG g q/\Clear ⟨r,[]⟩ lo ((bw en S).take k).length q/\gG (get G2) q) y:=λt x j y ai=>by
  rcases cT.spec t x j with ⟨h1,af,aJ⟩ | ⟨h1,af,aJ⟩
  ·rw [af] at ai; cases ai;rcases aJ with aJ | ⟨_,c2,Tw⟩
   ·exact aJ.Ky
   ·cases Tw
  ·subst h1; rw [ax] at ai; cases ai; exact .bd (.own (o4 en L))
 have j8:∀ t z q n m new,get G2 t≠some (.bC z q n m new):=λt z q n m new j=>by
  rcases cT.spec t _ j with ⟨_,_,aJ | ⟨aJ,_⟩⟩ | ⟨_,_,aJ⟩
  ·exact aJ.fg _ _ _ _ _ rfl
  ·exact aJ.fg _ _ _ _ _ rfl
  ·cases aJ
 obtain ⟨jr,hJ,fz⟩:=h.lO.store (g2:=get G2) av (.inl rfl) (k:=lo) (cs':=(bw en S).take k) (by rw [NF,UN]; omega) hH (λx j=>o4 en S x (List.mem_of_mem_take j)) (λh=>by cases h) Wf c1 c2 j8 (by intro e; rw [e] at mw; cases mw) iY rfl jJ;have l8:=hJ.sK (d:=d) (x:=ae (k:Int)) (v:=goInt k) (F:=cb) re (by rw [<- yG,UT]; exact cN.lt a8) (.tree (.lit rfl λ_ h=>h)) (λ_ _ h=>h.elim) (λ_ h=>h.elim) (by rintro z p n m new e; cases e);unfold Oper.wp Oper.upon;simp only [gY];have q3:get ((d,ae (k:Int))::G2)=cH (get G2) d (ae (k:Int)):=by
  funext t;rw [q7]
 rw [<- q3] at l8;have tu:∃ t,Fs t g0:=⟨_,di g0 n5⟩;refine Ev _ _ ⟨by rw [aO]; rfl,by rw [aO]; exact hn.put a8 _ _,I,_,by rw [aO]; simpa [Act.put,yG] using l8,⟨⟨rfl,rfl,rfl,by simp,λc _ J=>setRow_other w g0 c _ (λe=>J (e ▸ tu)),λa _ _=>Em w g0 _ a,Nat.le_refl _⟩,λ_ h=>h,λ_ h=>.inl h,λc J=>?_⟩⟩ λt ak=>by rw [aO]; simp only [Act.put]; rw [Array.getElem?_setIfInBounds_ne]; rintro rfl; exact ak aO
 obtain ⟨t,J⟩:=J;simp only [tW] at J
 split at J
 ·exact J.elim
 ·rcases fz t c J with fM | ⟨_,_,fM⟩
  ·exact .inl ⟨t,fM⟩
  ·exact fM.elim
end
end Go.Own
namespace Go.Own
open Go
set_option linter.unusedSectionVars false
variable [cw]
def FK (ed:List Nat) (o:Oper):Oper:=⟨o.dst,o.op,o.type,o.pos,o.after.map λe=>⟨ed.idxOf e.on,e.ground⟩,o.guard.map λp=>(ed.idxOf p.1,p.2)⟩
def kX (ed:List Nat) (l:List Oper):List Oper:=ed.map λk=>FK ed (l.getD k default)
def Kl (ed:List Nat) (n:Nat):Bool:=Nat.beq ed.length n&&(List.range n).all λk=>ed.contains k&&Nat.blt (ed.getD k n) n&&Nat.beq (ed.idxOf (ed.getD k n)) k
structure Perm (ed:List Nat) (n:Nat):Prop where
 len:ed.length=n
 mem:∀ k,k<n->ed.idxOf k<n/\ed.getD (ed.idxOf k) n=k
 lt:∀ aa,aa<n->ed.getD aa n<n/\ed.idxOf (ed.getD aa n)=aa
theorem Yu {ed:List Nat}{n:Nat}(h:Kl ed n=true):Perm ed n:=by
 unfold Kl at h;simp only [Bool.and_eq_true,Nat.beq_eq,List.all_eq_true,List.mem_range,Nat.blt_eq] at h;obtain ⟨ah,fN⟩:=h;refine ⟨ah,λk hk=>?_,λaa ag=>⟨(fN aa ag).1.2,(fN aa ag).2⟩⟩
 grind
section
variable {P:Program}{Q:Exit->Act->World->Prop}{ed:List Nat}{l:List Oper}
theorem Km (jE:Perm ed l.length) {aa:Nat}(ag:aa<l.length):(kX ed l).toArray[aa]?=some (FK ed (l.getD (ed.getD aa l.length) default))/\l.toArray[ed.getD aa l.length]?=some (l.getD (ed.getD aa l.length) default):=by
 have h1:aa<ed.length:=by rw [jE.len]; exact ag
 have af:=(jE.lt aa ag).1
 grind [kX]
theorem PA (jE:Perm ed l.length) {A B:Array Bool}(dm:A.size=l.length) (f':B.size=l.length) (r_:∀ aa,aa<l.length->B.getD aa true=A.getD (ed.getD aa l.length) true) {aa:Nat}(ag:aa<l.length) :
  ed.getD aa l.length∈Region.ready .any l.toArray A↔aa∈Region.ready .any (kX ed l).toArray B:=by
 obtain ⟨h1,af⟩:=Km jE ag;have adK:∀ {C:Array Bool}{k:Nat},k<C.size->C.getD k false=C.getD k true:=λ{C k} h=>by simp [Array.getD,h]
 have gone:∀ {C:Array Bool}{k:Nat},¬ k<C.size->C.getD k false=false:=λ{C k} h=>by simp [Array.getD,h]
 have MO:∀ m,A.getD m false=true↔B.getD (ed.idxOf m) false=true:=λm=>by
  by_cases hm:m<l.length
  ·obtain ⟨aJ,bo⟩:=jE.mem m hm
   grind
  ·have cu:¬ ed.idxOf m<l.length:=λh=>by
    have dC:=List.idxOf_lt_length_iff.1 (by rw [jE.len]; exact h);obtain ⟨i,hi,e⟩:=List.mem_iff_getElem.1 dC;have:=(jE.lt i (by rw [<- jE.len]; exact hi)).1
    grind
   grind
 rw [mem_ready,mem_ready,r_ aa ag];constructor
 ·rintro ⟨a,o,aM,h⟩;rw [af] at aM;cases aM;refine ⟨a,_,h1,λe he au=>?_⟩;obtain ⟨e0,VK,rfl⟩:=Array.mem_map.1 he;exact (MO _).1 (h e0 VK au)
 ·rintro ⟨a,o,aM,h⟩;rw [h1] at aM;cases aM;refine ⟨a,_,af,λe he au=>?_⟩;exact (MO _).2 (h ⟨ed.idxOf e.on,e.ground⟩ (Array.mem_map.2 ⟨e,he,rfl⟩) au)
theorem Yw (jE:Perm ed l.length) (o:Oper) (T:Array Value):Region.wanted (FK ed o) (yielded (kX ed l).toArray T)=Region.wanted o (yielded l.toArray T):=by
 unfold Region.wanted FK;cases aI:o.guard with
 | none=>rfl
 | some p =>
  obtain ⟨m,b⟩:=p;simp only [Option.map_some];have:yielded (kX ed l).toArray T (ed.idxOf m)=yielded l.toArray T m:=by
   unfold yielded;by_cases hm:m<l.length
   ·obtain ⟨aJ,bo⟩:=jE.mem m hm;obtain ⟨h1,af⟩:=Km jE aJ;rw [bo] at h1 af;rw [h1,af];rfl
   ·have cu:¬ ed.idxOf m<l.length:=λh=>by
     have dC:=List.idxOf_lt_length_iff.1 (by rw [jE.len]; exact h);obtain ⟨i,hi,e⟩:=List.mem_iff_getElem.1 dC;have:=(jE.lt i (by rw [<- jE.len]; exact hi)).1
     grind
    have bO:(kX ed l).toArray[ed.idxOf m]?=none:=by
     rw [List.getElem?_toArray];exact List.getElem?_eq_none (by simp [kX,jE.len]; omega)
    grind
  rw [this]
theorem Yv (jE:Perm ed l.length):∀ (fuel:Nat) (A B:Array Bool) (a:Act) (w:World),A.size=l.length->B.size=l.length->(∀ aa,aa<l.length->B.getD aa true=A.getD (ed.getD aa l.length) true) ->
  wpAny P .any (kX ed l).toArray Q fuel B a w->wpAny P .any l.toArray Q fuel A a w:=by
 have lift:∀ {A B:Array Bool},A.size=l.length->B.size=l.length->(∀ aa,aa<l.length->B.getD aa true=A.getD (ed.getD aa l.length) true)->∀ k,k∈Region.ready .any l.toArray A->∃ aa,aa<l.length/\ed.getD aa l.length=k/\aa∈Region.ready .any (kX ed l).toArray B:=λ{A B} dm f' r_ k hk=>by
  have dc:k<l.length:=by
   grind [mem_ready]
  obtain ⟨aJ,bo⟩:=jE.mem k dc
  grind [PA]
 have nil:∀ {A B:Array Bool},A.size=l.length->B.size=l.length->(∀ aa,aa<l.length->B.getD aa true=A.getD (ed.getD aa l.length) true)->Region.ready .any l.toArray A=[]->Region.ready .any (kX ed l).toArray B=[]:=λ{A B} dm f' r_ h=>by
  cases aj:Region.ready .any (kX ed l).toArray B with
  | nil=>rfl
  | cons aa r =>
   have ag:aa∈Region.ready .any (kX ed l).toArray B:=by rw [aj]; simp
   have eW:aa<l.length:=by
    grind [mem_ready]
   have:=(PA jE dm f' r_ eW).2 ag
   grind
 intro fuel
 induction fuel with
 | zero =>
  intro A B a w dm f' r_ h;refine ⟨?_,h.2⟩;cases aj:Region.ready .any l.toArray A with
  | nil=>rfl
  | cons k r =>
   obtain ⟨aa,_,_,ag⟩:=lift dm f' r_ k (by rw [aj]; simp);rw [h.1] at ag;cases ag
 | succ fuel aK =>
  intro A B a w dm f' r_ h;refine ⟨λaj=>h.1 (nil dm f' r_ aj),λk hk=>?_⟩;obtain ⟨aa,eW,rfl,ag⟩:=lift dm f' r_ k hk;have ax:=h.2 aa ag;obtain ⟨h1,af⟩:=Km jE eW;have Uu:∀ i,i<l.length->(B.setIfInBounds aa true).getD i true=(A.setIfInBounds (ed.getD aa l.length) true).getD (ed.getD i l.length) true:=λi hi=>by
   have aN:=(jE.lt aa eW).1;have wE:=(jE.lt i hi).1;have e:∀ (C:Array Bool) (p q:Nat),p<C.size->q<C.size->(C.setIfInBounds p true).getD q true=if q=p then true else C.getD q true:=λC p q av ba=>by
    by_cases h:q=p
    ·simp_all
    ·rw [if_neg h];simp [Array.getD,ba,Array.getElem_setIfInBounds_ne,Ne.symm h]
   rw [e B aa i (by omega) (by omega),e A _ _ (by omega) (by omega),r_ i hi];by_cases h:i=aa
   ·grind
   ·rw [if_neg h,if_neg];intro aL;have:=(jE.lt i hi).2;rw [aL,(jE.lt aa eW).2] at this
    grind
  have mono:∀ a w,wpAny P .any (kX ed l).toArray Q fuel (B.setIfInBounds aa true) a w->wpAny P .any l.toArray Q fuel (A.setIfInBounds (ed.getD aa l.length) true) a w:=λa w aL=>aK _ _ a w (by simpa using dm) (by simpa using f') Uu aL;unfold wpOp at ax ⊢;rw [af];rw [h1] at ax;simp only [Yw jE] at ax;show if Region.wanted (l.getD (ed.getD aa l.length) default) (yielded l.toArray a.tmps)=true then _ else _
  split
  ·rename_i hw;rw [if_pos hw] at ax;exact ax.imp (λaL=>Oper.wp_mono mono aL) id
  ·rename_i hw;rw [if_neg hw] at ax;exact mono _ _ ax
end
section
variable {P:Program}{N:cN}
theorem W.YH {id:Nat}{l:List Oper}{G:List (Nat × ab)}{Φ:Exit->aG->Prop}(ed:List Nat) (a':List (List Nat)) (G1:List (Nat × ab)) (hm:P.follows .mixedOrders=true) (dm:oI (kX ed l).toArray a'=true) (jE:Kl ed l.length=true)
  (h:b1 P N (kX ed l).toArray a' (get G) 0 [] (kX ed l) λg'=>jR g' (get G1)) (hk:aD .normal Φ G1):W P N (.region id l.toArray true) (get G) Φ:=by
 have av:=Yu jE;obtain ⟨g',h1,af⟩:=h [] 0 .nil .nil (by simp);have dL:(kX ed l).toArray.size=l.length:=by simp [kX,av.len]
 refine fK.w (g':=g') (e:=.normal) ?_ (hk g' (.ey af .hz));intro Q a w I Fs a_ a8 dD;refine wp_region_any hm ?_;have dU:cB w.drew I a.tmps (get G) Fs:=a_.world (λ_ _ _=>rfl) (λ_ _=>rfl) (Nat.le_refl _);have fN:∀ k,eB (Array.replicate (kX ed l).toArray.size false) k=false:=by
  intro k;unfold eB;rcases Nat.lt_or_ge k (kX ed l).toArray.size with h | h
  ·simp_all
  grind
 refine Yv av _ _ (Array.replicate l.length false) a w.drew (by simp) (by simp) (λaa ag=>?_) ?_
 ·have:=(av.lt aa ag).1
  simp_all
 have wo:=h1.sound dm .nil (kX ed l).toArray.size (Array.replicate (kX ed l).toArray.size false) a w.drew I Fs ?_ (by simp) (λk hk=>by omega) (λk _=>fN k) (λk hk=>by rw [fN] at hk; cases hk) dU a8 (λb3 w' az=>dD _ _ ?_)
 ·grind
 ·grind [gI]
 ·obtain ⟨bO,b7,I',bY,hJ,bM⟩:=az;exact ⟨bO,b7,I',bY,hJ,⟨⟨bM.ei.os,bM.ei.tape,bM.ei.output,bM.ei.size,bM.ei.block,bM.ei.eF,Nat.le_trans (Nat.le_succ _) bM.ei.uA⟩,bM.more,bM.new,bM.own⟩⟩
end
end Go.Own
namespace Go.Own
open Go
set_option linter.unusedSectionVars false
variable [cw]
section
variable {α:Type}{P:Program}{N:cN}{g:aG}{a b:Operand}{t:TypeId}{m i:Int}
theorem bF.Zt {gW:Oper}{en:bz α}{LL:List (List α)}{L:List α}{hL y2:α}{o r:Nat}{path:List Nat}{y:ab}{cs':List ab}{x2:ab}{G2:List (Nat × ab)}(aM:gW.op=.store t a b) (aO:gW.dst=none) (aQ:Rd g a (.ptr ⟨r,path++[i.toNat * (fw en).z+0]⟩ (m.toNat * en.z+o))) (au:Rd g b y)
  (av:bu g ⟨r,path⟩=some (ar (fw en) LL)) (hi:idx LL i=some L) (h:idx L m=some hL) (aS:hc P t cs'.length=true) (J:mQ y=some cs') (he:ew (en.cells hL) o cs'=en.cells y2) (hlen:Nat.ble (o+cs'.length) en.z=true) (aH:Nat.blt 0 cs'.length=true)
  (gZ:cc g ⟨r,path⟩ (ar (fw en) (LL.set i.toNat (L.set m.toNat y2))) r=some x2) (aj:(get G2 r).isSome=true) [az:b9 y] {y0:ab}(sx:g r=some y0) [eN:b9 y0] (cT:kM g (get G2) r x2 G2):bF P N g gW (get G2):=by
 have e5:bu g ⟨r,path++[i.toNat * (fw en).z+0]⟩=some (ar en L):=r4 (g:=g) (r:=r) (path:=path) av hi rfl;have uX:(bw (fw en) LL).set (i.toNat * (fw en).z+0) (ar en (L.set m.toNat y2))=bw (fw en) (LL.set i.toNat (L.set m.toNat y2)):=by
  have h1:=KA (fw en) (o:=0) (cs':=[ar en (L.set m.toNat y2)]) (y2:=L.set m.toNat y2) hi (by simp [ew,fw]) (by simp [fw]);rw [<- h1];unfold ew;have aN:i.toNat * (fw en).z+0<(bw (fw en) LL).length:=by
   obtain ⟨zH,kg,_⟩:=qu hi;rw [nn];show i.toNat * 1+0<LL.length * 1;omega
  rw [List.set_eq_take_append_cons_drop,if_pos aN];simp
 refine bF.xL (p:=⟨r,path++[i.toNat * (fw en).z+0]⟩) aM aO aQ au e5 h aS J he hlen aH (x2:=x2) ?_ aj sx cT;show cc g ⟨r,path++[i.toNat * (fw en).z+0]⟩ (ar en (L.set m.toNat y2)) r=some x2;rw [P_ _ av hi rfl,uX];have ah:(LL.set i.toNat (L.set m.toNat y2)).length=LL.length:=List.length_set;rw [<- gZ];unfold ar;rw [ah]
end
end Go.Own
namespace Go.Own
open Go
set_option linter.unusedSectionVars false
variable [cw]
section
variable {P:Program}{N:cN}{ops:Array Oper}{a':List (List Nat)}{g g0:aG}{K:aG->Prop}{l:List Oper}{acc:Acc}{d i aa t':Nat}{op:Op}{ty:TypeId}{pos:String}{after:Array Edge}{x:ab}{b c:Bool}
theorem gv (au:c=!b) (hk:aC P N ops l (cH g d (.bN [])) K) (h:(ops[aa]?).bind (·.dst)=some t':=by rfl) (aI:g t'=some (.lit (.bool c)):=by rfl) (a8:N.ok d=true:=by rfl) (aU:g d=none:=by rfl):aC P N ops (⟨some d,op,ty,pos,after,some (aa,b)⟩::l) g K:=.ps h aI au a8 aU hk
theorem DO (hk:aC P N ops l (cH g d (.bN [])) K) (h:(ops[aa]?).bind (·.dst)=some t':=by rfl) (aI:g t'=some (.bN []):=by rfl) (a8:N.ok d=true:=by rfl) (aU:g d=none:=by rfl):aC P N ops (⟨some d,op,ty,pos,after,some (aa,b)⟩::l) g K:=.pu h aI a8 aU hk
theorem b' (au:c=b) (av:b5 P g op ty x) (hk:aC P N ops l (cH g d x) K) (h:(ops[aa]?).bind (·.dst)=some t':=by rfl) (aI:g t'=some (.lit (.bool c)):=by rfl) (a8:N.ok d=true:=by rfl) (aU:g d=none:=by rfl):aC P N ops (⟨some d,op,ty,pos,after,some (aa,b)⟩::l) g K:=.v av a8 aU (.o_ h aI au) hk
theorem Q9 (hk:aC P N ops l (cH g d (.bN [])) K) (h:(ops[aa]?).bind (·.dst)=some t':=by rfl) (aI:g t'=some (.lit (.bool c)):=by rfl) (au:c=!b:=by assumption) (a8:N.ok d=true:=by rfl) (aU:g d=none:=by rfl):aC P N ops (⟨some d,op,ty,pos,after,some (aa,b)⟩::l) g K:=.ps h aI au a8 aU hk
theorem eU (av:b5 P g op ty x) (hk:aC P N ops l (cH g d x) K) (h:(ops[aa]?).bind (·.dst)=some t':=by rfl) (aI:g t'=some (.lit (.bool c)):=by rfl) (au:c=b:=by assumption) (a8:N.ok d=true:=by rfl) (aU:g d=none:=by rfl):aC P N ops (⟨some d,op,ty,pos,after,some (aa,b)⟩::l) g K:=.v av a8 aU (.o_ h aI au) hk
theorem vN (bL:Nat) (au:c=!b) (hk:b1 P N ops a' g0 i ((bL,d,some (.bN []))::acc) l K) (h:(ops[aa]?).bind (·.dst)=some t':=by rfl) (aI:jq a' g0 bL acc t'=some (bg c):=by rfl) (ag:Nat.beq ops.size (bL+l.length+1)=true:=by rfl) (aU:g0 d=none:=by rfl) (az:acc.all (λe=>!Nat.beq e.2.1 d)=true:=by rfl) (a8:N.ok d=true:=by rfl):b1 P N ops a' g0 i acc (⟨some d,op,ty,pos,after,some (aa,b)⟩::l) K:=.ps bL h aI au ag aU az a8 hk
theorem vO (bL:Nat) (au:c=b) (av:b5 P (jq a' g0 bL acc) op ty x) (hk:b1 P N ops a' g0 i ((bL,d,some x)::acc) l K) (h:(ops[aa]?).bind (·.dst)=some t':=by rfl) (aI:jq a' g0 bL acc t'=some (.lit (.bool c)):=by rfl) (ag:Nat.beq ops.size (bL+l.length+1)=true:=by rfl) (aU:g0 d=none:=by rfl) (az:acc.all (λe=>!Nat.beq e.2.1 d)=true:=by rfl) (a8:N.ok d=true:=by rfl):b1 P N ops a' g0 i acc (⟨some d,op,ty,pos,after,some (aa,b)⟩::l) K:=.v bL av ag aU az a8 (.o_ h aI au) hk
end
section
variable {P:Program}{N:cN}{ops:Array Oper}{g:aG}{K:aG->Prop}{l:List Oper}{A B:Code}{G G1:List (Nat × ab)}{Φ:Exit->aG->Prop}{t id:Nat}{b:Bool}{α:Type}{X Y o:α}
theorem W.cX (h:(bif b then X else Y)=o) (J:get G t=some (bg b)) (dn:b=true->X=o->W P N A (get G) Φ) (aE:b=false->Y=o->W P N B (get G) Φ):W P N (.cond (.tmp t) A B) (get G) Φ:=W.ic J (λe=>dn e (SH e h)) (λe=>aE e (SG e h))
def pick (g:aG):List Nat->Option (List (Nat × ab))
 | []=>some []
 | k::ks=>match g k with
  | some x=>match pick g ks with
   | some l=>some ((k,x)::l)
   | none=>none
  | none=>none
class hZ (l:List (Nat × ab)):Prop where p:∀ e∈l,cE e.2
instance:hZ []:=⟨λ_ h=>by cases h⟩
instance {k:Nat}{x:ab}{l:List (Nat × ab)} [h:b9 x] [ah:hZ l]:hZ ((k,x)::l):=⟨λe he=>by
 rcases List.mem_cons.1 he with rfl | he
 ·exact h.bd
 ·exact ah.p e he⟩
theorem tQ {c:Bool}{g g2:aG}:∀ {ks:List Nat}{G1:List (Nat × ab)},pick g ks=some G1->(∀ e∈G1,cE e.2)->Trim c g g2 G1
 | [],_,h,_=>by cases h; exact .nil
 | k::ks,G1,h,az=>by
  unfold pick at h
  split at h
  ·rename_i x j
   split at h
   ·rename_i l ah;cases h;have:b9 x:=⟨az (k,x) (by simp)⟩;exact .n j (tQ ah λe he=>az e (by simp [he]))
   ·cases h
  ·cases h
structure x8 (ks:List Nat) (G1:List (Nat × ab)) (g':aG):Prop where p:jR g' (get G1)
theorem bK {ks:List Nat}(h:pick g ks=some G1) [az:hZ G1]:aC P N ops [] g (x8 ks G1):=.nil ⟨(tQ (c:=true) (g2:=get G1) h az.p).ey⟩
theorem OQ {l:List Oper}{ks:List Nat}(h:aC P N l.toArray l g (x8 ks G1)):aC P N l.toArray l g λg'=>jR g' (get G1):=λi hi=>by
 obtain ⟨g',h1,af⟩:=h i hi;exact ⟨g',h1,af.p⟩
theorem aC.bW (ks:List Nat) (h:pick g ks=some G1) [az:hZ G1] (hk:aC P N ops l (get G1) K):aC P N ops l g K:=.C6 (tQ h az.p) hk
theorem W.bW {l:List Oper}(ks:List Nat) (h:aC P N l.toArray l (get G) (x8 ks G1)) (hk:aD .normal Φ G1):W P N (.region id l.toArray false) (get G) Φ:=W.rx G1 (OQ h) hk
theorem W.rs {l:List Oper}(G1:List (Nat × ab)) (h:aC P N l.toArray l (get G) λg'=>jR g' (get G1)) (hk:W P N B (get G1) Φ):W P N (.seq (.region id l.toArray false) B) (get G) Φ:=W.bV (W.rx G1 h (aD.bQ hk))
theorem W.cF {l:List Oper}(ks:List Nat) (h:aC P N l.toArray l (get G) (x8 ks G1)) (hk:W P N B (get G1) Φ):W P N (.seq (.region id l.toArray false) B) (get G) Φ:=W.rs G1 (OQ h) hk
end
end Go.Own
namespace Go.Own
open Go
set_option linter.unusedSectionVars false
variable [cw]
class fB (P:Program) (t:TypeId):Prop where p:jw P t=true:=by kernel_rfl
class iu (P:Program) (t:TypeId):Prop where p:nQ P t=true:=by kernel_rfl
class eg (P:Program) (t:TypeId) (e:outParam TypeId) (z:outParam Nat):Prop where p:e2 P t e z=true:=by kernel_rfl
class cY (P:Program) (s:TypeId) (f:Nat) (off:outParam Nat) (t:outParam TypeId):Prop where p:iy P s f off t=true:=by kernel_rfl
section
variable {P:Program}{N:cN}{ops:Array Oper}{g:aG}{K:aG->Prop}{l:List Oper}{ty t:TypeId}{a:Operand}{k r z n:Nat}{cs jg:List ab}
theorem O.oW {v:Value}(ax:g r=some (.obj cs)) (j:Rd g a (.ptr ⟨r,[]⟩ k)) (ak:jw P t=true) (J:cs[k]?=some (.lit v)):b5 P g (.load t a) ty (.lit v):=O.y7 ax j ak J rfl
theorem O.y8 (ax:g r=some (.obj cs)) (j:Rd g a (.ptr ⟨r,[]⟩ k)) (ak:jw P t=true) (J:cs[k]?=some (.bc z n jg)):b5 P g (.load t a) ty (.bc z n jg):=O.y7 ax j ak J rfl
theorem O.y9 (ax:g r=some (.obj cs)) (j:Rd g a (.ptr ⟨r,[]⟩ k)) (ak:jw P t=true) (J:cs[k]?=some (.own z n jg)):b5 P g (.load t a) ty (.bn z ⟨r,[k]⟩ n):=O.y7 ax j ak J rfl
end
section
variable {P:Program}{N:cN}{ops:Array Oper}{g:aG}{K:aG->Prop}{l:List Oper}{t0 d:Nat}{t1 t2 ty:TypeId}{aw a2 a3:Operand}{lh:Nat}{v0:Value}{pos:String}{after:Array Edge}{op:Op}{acy:Nat × Bool}
theorem aC.bI (op:Op) (u:Option (Nat × Bool)) (h:aC P N ops (⟨some d,op,ty,pos,after,u⟩::l) g K):aC P N ops (⟨some d,op,ty,pos,after,u⟩::l) g K:=h
theorem aC.nl (h:aC P N ops [] g K):aC P N ops [] g K:=h
theorem aC.RJ {o:Oper}{gy gz:List Oper}(h:aC P N ops (o::List.append gy gz) g K):aC P N ops (List.append (o::gy) gz) g K:=h
theorem aC.RK {gz:List Oper}(h:aC P N ops gz g K):aC P N ops (List.append [] gz) g K:=h
theorem aC.bp (h:aC P N ops l g K:=by
(repeat' (first
 | exact iL .nil
 | exact .nil
 | refine .n rfl ?_
 | (first
  | ((with_reducible apply aC.bI (.move (.tmp _)) none); (first | refine cn rfl ?_ | refine aq (O.a1 (.bc rfl)) ?_ | refine aq (O.a1 (.own rfl)) ?_ | refine aq (O.a1 (.obj rfl)) ?_ | refine aq (O.a1 (.cJ rfl)) ?_ | refine aq (O.a1 (.ptr rfl)) ?_ | refine aq (O.a1 (.bn rfl)) ?_))
  | ((with_reducible apply aC.bI (.load _ _) none); (first | refine aq (O.oW rfl (.ptr rfl) fB.p rfl) ?_ | refine aq (O.Cc (.cJ rfl) fB.p rfl) ?_ | refine aq (O.y8 rfl (.ptr rfl) fB.p rfl) ?_ | refine aq (O.oW rfl (.obj rfl) fB.p rfl) ?_ | refine aq (O.y8 rfl (.obj rfl) fB.p rfl) ?_ | refine aq (O.y9 rfl (.ptr rfl) fB.p rfl) ?_ | refine aq (O.y9 rfl (.obj rfl) fB.p rfl) ?_))
  | ((with_reducible apply aC.bI (.fieldAddr _ _ _) none); (first | refine aq (O.mR rfl (.obj rfl) cY.p rfl) ?_ | refine aq (O.AR (.cJ rfl) cY.p) ?_ | refine aq (O.mR rfl (.ptr rfl) cY.p rfl) ?_))
  | ((with_reducible apply aC.bI (.assign (.tmp _)) none); (first | refine Ar rfl ?_ | refine aq (O.dK (.bc rfl)) ?_ | refine aq (O.dK (.own rfl)) ?_ | refine aq (O.dK (.obj rfl)) ?_ | refine aq (O.dK (.cJ rfl)) ?_ | refine aq (O.dK (.ptr rfl)) ?_ | refine aq (O.dK (.bn rfl)) ?_))
  | ((with_reducible apply aC.bI (.assign (.const _)) none); (first | refine Ra rfl ?_ | refine aq (O.dK .w6) ?_))
  | ((with_reducible apply aC.bI (.indexAddr _ _ _) none); (first | refine aq (O.qv (.bc rfl) (.lit rfl) eg.p (by assumption)) ?_ | refine aq (O.qv (.bc rfl) (.k rfl) eg.p (by assumption)) ?_))
  | ((with_reducible apply aC.bI (.binOp .add _ _ _ _) none); (first | refine aq (O.add (.lit rfl) (.k rfl)) ?_ | refine aq (O.add (.lit rfl) (.lit rfl)) ?_ | refine aq (O.add (.k rfl) (.lit rfl)) ?_))
  | ((with_reducible apply aC.bI (.binOp .lss _ _ _ _) none); (first | refine aq (O.lss (.lit rfl) (.k rfl)) ?_ | refine aq (O.lss (.lit rfl) (.lit rfl)) ?_ | refine aq (O.lss (.k rfl) (.lit rfl)) ?_))
  | ((with_reducible apply aC.bI (.binOp .eql _ _ _ _) none); (first | refine aq (O.eql (.lit rfl) (.k rfl)) ?_ | refine aq (O.eql (.lit rfl) (.lit rfl)) ?_ | refine aq (O.eql (.k rfl) (.lit rfl)) ?_ | refine aq (O.px (.lit rfl) (.lit rfl)) ?_ | refine aq (O.px (.lit rfl) (.k rfl)) ?_))
  | ((with_reducible apply aC.bI (.binOp .neq _ _ _ _) none); (first | refine aq (O.neq (.lit rfl) (.k rfl)) ?_ | refine aq (O.neq (.lit rfl) (.lit rfl)) ?_ | refine aq (O.neq (.k rfl) (.lit rfl)) ?_ | refine aq (O.nN (.lit rfl) (.lit rfl)) ?_ | refine aq (O.nN (.lit rfl) (.k rfl)) ?_))
  | ((with_reducible apply aC.bI (.binOp .geq _ _ _ _) none); (first | refine aq (O.geq (.lit rfl) (.k rfl)) ?_ | refine aq (O.geq (.lit rfl) (.lit rfl)) ?_ | refine aq (O.geq (.k rfl) (.lit rfl)) ?_))
  | ((with_reducible apply aC.bI (.binOp .gtr _ _ _ _) none); (first | refine aq (O.gtr (.lit rfl) (.k rfl)) ?_ | refine aq (O.gtr (.lit rfl) (.lit rfl)) ?_ | refine aq (O.gtr (.k rfl) (.lit rfl)) ?_))
  | ((with_reducible apply aC.bI (.binOp .sub _ _ _ _) none); (first | refine aq (O.sub (.lit rfl) (.k rfl)) ?_ | refine aq (O.sub (.lit rfl) (.lit rfl)) ?_ | refine aq (O.sub (.k rfl) (.lit rfl)) ?_))
  | ((with_reducible apply aC.bI (.binOp .leq _ _ _ _) none); (first | refine aq (O.leq (.lit rfl) (.k rfl)) ?_ | refine aq (O.leq (.lit rfl) (.lit rfl)) ?_ | refine aq (O.leq (.k rfl) (.lit rfl)) ?_))
  | ((with_reducible apply aC.bI (.pick _ _ _) none); (first | refine aq (O.lJ (.lit rfl) rfl (.lit rfl)) ?_ | refine aq (O.nm (.lit rfl) rfl (.lit rfl)) ?_ | refine aq (O.lJ (.lit rfl) rfl (.k rfl)) ?_ | refine aq (O.nm (.lit rfl) rfl (.k rfl)) ?_ | refine aq (O.lJ (.lit rfl) (by assumption) (.lit rfl)) ?_ | refine aq (O.nm (.lit rfl) (by assumption) (.lit rfl)) ?_ | refine aq (O.lJ (.lit rfl) (by assumption) (.k rfl)) ?_ | refine aq (O.nm (.lit rfl) (by assumption) (.k rfl)) ?_))
  | ((with_reducible apply aC.bI (.call { callee:=.builtin .len,args:=#[_],argTypes:=#[_] }) none); (first | refine aq (O.tK (.bc rfl) eg.p) ?_ | refine aq (O.l9 (.bn rfl) eg.p) ?_ | refine aq (O.l9 (.own rfl) eg.p) ?_ | refine aq (O.qx (.lit rfl) iu.p) ?_))
  | ((with_reducible apply aC.bI (.unOp .not _ _) none); (first | refine aq (O.not (.lit rfl)) ?_))
  | ((with_reducible apply aC.bI (.nilCheck _) none); (first | refine aq (O.dV (.ptr rfl)) ?_ | refine aq (O.xb (.cJ rfl)) ?_ | refine aq (O.dV (.obj rfl)) ?_))
  | ((with_reducible apply aC.bI (.index _ _ _) none); (first | refine aq (O.at' (.lit rfl) (.lit rfl) iu.p (by assumption)) ?_))
  | ((with_reducible apply aC.bI (.move (.const _)) none); (first | refine aq (O.a1 (.k rfl)) ?_ | refine aq (O.a1 .w6) ?_)))
 | ((with_reducible apply aC.nl); first | exact bK rfl | refine iL ?_)
 | ((with_reducible apply aC.bI _ (some _)); first
  | (first | refine gv rfl ?_ | refine Q9 ?_ | refine DO ?_)
  | ((with_reducible apply aC.bI (.move (.tmp _)) (some _)); (first | refine b' rfl (O.a1 (.lit rfl)) ?_ | refine eU (O.a1 (.lit rfl)) ?_ | refine b' rfl (O.a1 (.bc rfl)) ?_ | refine eU (O.a1 (.bc rfl)) ?_ | refine b' rfl (O.a1 (.own rfl)) ?_ | refine eU (O.a1 (.own rfl)) ?_ | refine b' rfl (O.a1 (.obj rfl)) ?_ | refine eU (O.a1 (.obj rfl)) ?_ | refine b' rfl (O.a1 (.cJ rfl)) ?_ | refine eU (O.a1 (.cJ rfl)) ?_ | refine b' rfl (O.a1 (.ptr rfl)) ?_ | refine eU (O.a1 (.ptr rfl)) ?_ | refine b' rfl (O.a1 (.bn rfl)) ?_ | refine eU (O.a1 (.bn rfl)) ?_))
  | ((with_reducible apply aC.bI (.load _ _) (some _)); (first | refine b' rfl (O.oW rfl (.ptr rfl) fB.p rfl) ?_ | refine eU (O.oW rfl (.ptr rfl) fB.p rfl) ?_ | refine b' rfl (O.Cc (.cJ rfl) fB.p rfl) ?_ | refine eU (O.Cc (.cJ rfl) fB.p rfl) ?_ | refine b' rfl (O.y8 rfl (.ptr rfl) fB.p rfl) ?_ | refine eU (O.y8 rfl (.ptr rfl) fB.p rfl) ?_ | refine b' rfl (O.oW rfl (.obj rfl) fB.p rfl) ?_ | refine eU (O.oW rfl (.obj rfl) fB.p rfl) ?_ | refine b' rfl (O.y8 rfl (.obj rfl) fB.p rfl) ?_ | refine eU (O.y8 rfl (.obj rfl) fB.p rfl) ?_ | refine b' rfl (O.y9 rfl (.ptr rfl) fB.p rfl) ?_ | refine eU (O.y9 rfl (.ptr rfl) fB.p rfl) ?_ | refine b' rfl (O.y9 rfl (.obj rfl) fB.p rfl) ?_ | refine eU (O.y9 rfl (.obj rfl) fB.p rfl) ?_))
  | ((with_reducible apply aC.bI (.fieldAddr _ _ _) (some _)); (first | refine b' rfl (O.mR rfl (.obj rfl) cY.p rfl) ?_ | refine eU (O.mR rfl (.obj rfl) cY.p rfl) ?_ | refine b' rfl (O.AR (.cJ rfl) cY.p) ?_ | refine eU (O.AR (.cJ rfl) cY.p) ?_ | refine b' rfl (O.mR rfl (.ptr rfl) cY.p rfl) ?_ | refine eU (O.mR rfl (.ptr rfl) cY.p rfl) ?_))
  | ((with_reducible apply aC.bI (.indexAddr _ _ _) (some _)); (first | refine b' rfl (O.qv (.bc rfl) (.lit rfl) eg.p (by assumption)) ?_ | refine eU (O.qv (.bc rfl) (.lit rfl) eg.p (by assumption)) ?_ | refine b' rfl (O.qv (.bc rfl) (.k rfl) eg.p (by assumption)) ?_ | refine eU (O.qv (.bc rfl) (.k rfl) eg.p (by assumption)) ?_))
  | ((with_reducible apply aC.bI (.binOp .add _ _ _ _) (some _)); (first | refine b' rfl (O.add (.lit rfl) (.k rfl)) ?_ | refine eU (O.add (.lit rfl) (.k rfl)) ?_ | refine b' rfl (O.add (.lit rfl) (.lit rfl)) ?_ | refine eU (O.add (.lit rfl) (.lit rfl)) ?_ | refine b' rfl (O.add (.k rfl) (.lit rfl)) ?_ | refine eU (O.add (.k rfl) (.lit rfl)) ?_))
  | ((with_reducible apply aC.bI (.binOp .lss _ _ _ _) (some _)); (first | refine b' rfl (O.lss (.lit rfl) (.k rfl)) ?_ | refine eU (O.lss (.lit rfl) (.k rfl)) ?_ | refine b' rfl (O.lss (.lit rfl) (.lit rfl)) ?_ | refine eU (O.lss (.lit rfl) (.lit rfl)) ?_ | refine b' rfl (O.lss (.k rfl) (.lit rfl)) ?_ | refine eU (O.lss (.k rfl) (.lit rfl)) ?_))
  | ((with_reducible apply aC.bI (.binOp .eql _ _ _ _) (some _)); (first | refine b' rfl (O.eql (.lit rfl) (.k rfl)) ?_ | refine eU (O.eql (.lit rfl) (.k rfl)) ?_ | refine b' rfl (O.eql (.lit rfl) (.lit rfl)) ?_ | refine eU (O.eql (.lit rfl) (.lit rfl)) ?_ | refine b' rfl (O.eql (.k rfl) (.lit rfl)) ?_ | refine eU (O.eql (.k rfl) (.lit rfl)) ?_ | refine b' rfl (O.px (.lit rfl) (.lit rfl)) ?_ | refine eU (O.px (.lit rfl) (.lit rfl)) ?_ | refine b' rfl (O.px (.lit rfl) (.k rfl)) ?_ | refine eU (O.px (.lit rfl) (.k rfl)) ?_))
  | ((with_reducible apply aC.bI (.binOp .neq _ _ _ _) (some _)); (first | refine b' rfl (O.neq (.lit rfl) (.k rfl)) ?_ | refine eU (O.neq (.lit rfl) (.k rfl)) ?_ | refine b' rfl (O.neq (.lit rfl) (.lit rfl)) ?_ | refine eU (O.neq (.lit rfl) (.lit rfl)) ?_ | refine b' rfl (O.neq (.k rfl) (.lit rfl)) ?_ | refine eU (O.neq (.k rfl) (.lit rfl)) ?_ | refine b' rfl (O.nN (.lit rfl) (.lit rfl)) ?_ | refine eU (O.nN (.lit rfl) (.lit rfl)) ?_ | refine b' rfl (O.nN (.lit rfl) (.k rfl)) ?_ | refine eU (O.nN (.lit rfl) (.k rfl)) ?_))
  | ((with_reducible apply aC.bI (.binOp .geq _ _ _ _) (some _)); (first | refine b' rfl (O.geq (.lit rfl) (.k rfl)) ?_ | refine eU (O.geq (.lit rfl) (.k rfl)) ?_ | refine b' rfl (O.geq (.lit rfl) (.lit rfl)) ?_ | refine eU (O.geq (.lit rfl) (.lit rfl)) ?_ | refine b' rfl (O.geq (.k rfl) (.lit rfl)) ?_ | refine eU (O.geq (.k rfl) (.lit rfl)) ?_))
  | ((with_reducible apply aC.bI (.binOp .gtr _ _ _ _) (some _)); (first | refine b' rfl (O.gtr (.lit rfl) (.k rfl)) ?_ | refine eU (O.gtr (.lit rfl) (.k rfl)) ?_ | refine b' rfl (O.gtr (.lit rfl) (.lit rfl)) ?_ | refine eU (O.gtr (.lit rfl) (.lit rfl)) ?_ | refine b' rfl (O.gtr (.k rfl) (.lit rfl)) ?_ | refine eU (O.gtr (.k rfl) (.lit rfl)) ?_))
  | ((with_reducible apply aC.bI (.binOp .sub _ _ _ _) (some _)); (first | refine b' rfl (O.sub (.lit rfl) (.k rfl)) ?_ | refine eU (O.sub (.lit rfl) (.k rfl)) ?_ | refine b' rfl (O.sub (.lit rfl) (.lit rfl)) ?_ | refine eU (O.sub (.lit rfl) (.lit rfl)) ?_ | refine b' rfl (O.sub (.k rfl) (.lit rfl)) ?_ | refine eU (O.sub (.k rfl) (.lit rfl)) ?_))
  | ((with_reducible apply aC.bI (.binOp .leq _ _ _ _) (some _)); (first | refine b' rfl (O.leq (.lit rfl) (.k rfl)) ?_ | refine eU (O.leq (.lit rfl) (.k rfl)) ?_ | refine b' rfl (O.leq (.lit rfl) (.lit rfl)) ?_ | refine eU (O.leq (.lit rfl) (.lit rfl)) ?_ | refine b' rfl (O.leq (.k rfl) (.lit rfl)) ?_ | refine eU (O.leq (.k rfl) (.lit rfl)) ?_))
  | ((with_reducible apply aC.bI (.call { callee:=.builtin .len,args:=#[_],argTypes:=#[_] }) (some _)); (first | refine b' rfl (O.tK (.bc rfl) eg.p) ?_ | refine eU (O.tK (.bc rfl) eg.p) ?_ | refine b' rfl (O.l9 (.bn rfl) eg.p) ?_ | refine eU (O.l9 (.bn rfl) eg.p) ?_ | refine b' rfl (O.l9 (.own rfl) eg.p) ?_ | refine eU (O.l9 (.own rfl) eg.p) ?_ | refine b' rfl (O.qx (.lit rfl) iu.p) ?_ | refine eU (O.qx (.lit rfl) iu.p) ?_))
  | ((with_reducible apply aC.bI (.unOp .not _ _) (some _)); (first | refine b' rfl (O.not (.lit rfl)) ?_ | refine eU (O.not (.lit rfl)) ?_))
  | ((with_reducible apply aC.bI (.nilCheck _) (some _)); (first | refine b' rfl (O.dV (.ptr rfl)) ?_ | refine eU (O.dV (.ptr rfl)) ?_ | refine b' rfl (O.xb (.cJ rfl)) ?_ | refine eU (O.xb (.cJ rfl)) ?_ | refine b' rfl (O.dV (.obj rfl)) ?_ | refine eU (O.dV (.obj rfl)) ?_))
  | ((with_reducible apply aC.bI (.index _ _ _) (some _)); (first | refine b' rfl (O.at' (.lit rfl) (.lit rfl) iu.p (by assumption)) ?_ | refine eU (O.at' (.lit rfl) (.lit rfl) iu.p (by assumption)) ?_)))
 | with_reducible apply aC.RJ
 | with_reducible apply aC.RK))):aC P N ops l g K:=h
theorem W.Rz {id:Nat}{l:List Oper}{G G1:List (Nat × ab)}{Φ:Exit->aG->Prop}(ks:List Nat) (hk:aD .normal Φ G1) (h:aC P N l.toArray l (get G) (x8 ks G1):=by exact aC.bp):W P N (.region id l.toArray false) (get G) Φ:=W.bW ks h hk
theorem W.dK {id:Nat}{l:List Oper}{B:Code}{G:List (Nat × ab)}{Φ:Exit->aG->Prop}(G1:List (Nat × ab)) (hk:W P N B (get G1) Φ) (h:aC P N l.toArray l (get G) (λg'=>jR g' (get G1)):=by exact aC.bp):W P N (.seq (.region id l.toArray false) B) (get G) Φ:=W.rs G1 h hk
theorem W.cC {id:Nat}{l:List Oper}{B:Code}{G G1:List (Nat × ab)}{Φ:Exit->aG->Prop}(ks:List Nat) (hk:W P N B (get G1) Φ) (h:aC P N l.toArray l (get G) (x8 ks G1):=by exact aC.bp):W P N (.seq (.region id l.toArray false) B) (get G) Φ:=W.cF ks h hk
end
end Go.Own
namespace Go.Own
open Go
set_option linter.unusedSectionVars false
variable [cw]
section
variable {P:Program}{N:cN}{G:List (Nat × ab)}{g':aG}
theorem mg {rs:List ResultVar}{ys xs:List ab}{res:ab}{outs:List (Option ab)}{n:Nat}(h:jO P (get G) rs ys xs g') (he:ov xs=res:=by rfl) (aM:qd g' N.pins 0 outs:=by (repeat' first | exact .nil | refine .no ?_)) (ft:(rs.filterMap fun | .cell t _=>some t | _=>none).Nodup:=by exact of_decide_eq_true (by kernel_rfl)) (ah:outs.length=n:=by rfl):aD .ret (pd P N rs n outs res) G:=aD.fin (Fin.ro h he ft aM ah (.inr rfl))
end
end Go.Own
namespace Go.Own
open Go
set_option linter.unusedSectionVars false
variable [cw]
section
variable {P:Program}{N:cN}{G:List (Nat × ab)}{g':aG}{S R:Type}
theorem aP {α β:Type}{x:Option α}{f:α->Option β}{r:β}{G:Prop}(h:x.bind f=some r) (k:∀ a,x=some a->f a=some r->G):G:=by
 obtain ⟨a,h1,af⟩:=qg h
 grind
theorem Rd.bh {g:aG}{t:Nat}{v:Value}(h:g t=some (.lit v):=by rfl):Rd g (.tmp t) (.lit v):=.lit h
theorem Rd.z2 {g:aG}{t z n:Nat}{cs:List ab}(h:g t=some (.bc z n cs):=by rfl):Rd g (.tmp t) (.bc z n cs):=.bc h
theorem Rd.z3 {g:aG}{t z n:Nat}{cs:List ab}(h:g t=some (.own z n cs):=by rfl):Rd g (.tmp t) (.bn z ⟨t,[]⟩ n):=.own h
theorem Rd.z4 {g:aG}{t:Nat}{c:ab}{cs:List ab}(h:g t=some (.obj (c::cs)):=by rfl):Rd g (.tmp t) (.ptr ⟨t,[]⟩ 0):=.obj h
theorem Rd.z5 {g:aG}{t k:Nat}{p:Place}(h:g t=some (.ptr p k):=by rfl):Rd g (.tmp t) (.ptr p k):=.ptr h
theorem Rd.ec {g:aG}{t z n:Nat}{p:Place}(h:g t=some (.bn z p n):=by rfl):Rd g (.tmp t) (.bn z p n):=.bn h
theorem Rd.o' {g:aG}{t:Nat}{cs:List ab}(h:g t=some (.cJ cs):=by rfl):Rd g (.tmp t) (.cJ cs):=.cJ h
theorem Rd.cv {g:aG}{v:Value}(h:ofConst v=.lit v:=by rfl):Rd g (.const v) (.lit v):=.k h
theorem aD.dq {G1:List (Nat × ab)}(h:Trim true (get G) (get G1) G1:=by (repeat' first | exact .nil | refine .n rfl ?_)):aD .normal (λe g=>e=.normal/\hN g G1) G:=aD.ds h
theorem aD.gt {s:S}{F:S->List (Nat × ab)}{dZ:R->Exit->aG->Prop}(h:Trim true (get G) (get (F s)) (F s):=by (repeat' first | exact .nil | refine .n rfl ?_)):aD .normal (kL F dZ (.inl s)) G:=aD.go h
theorem aD.t1 {id:Nat}{r:R}{F:S->List (Nat × ab)}{lS:R->List (Nat × ab)}(h:Trim true (get G) (get (lS r)) (lS r):=by (repeat' first | exact .nil | refine .n rfl ?_)):aD (.exit id) (kL F (λr e g=>e=.exit id/\hN g (lS r)) (.inr r)) G:=aD.aX h
theorem uo {rs:List ResultVar}{ys xs:List ab}{res:ab}{outs:List (Option ab)}{n:Nat}(h:jO P (get G) rs ys xs g':=by exact .f rfl rfl .nil) (he:ov xs=res:=by rfl) (aM:qd g' N.pins 0 outs:=by (repeat' first | exact .nil | refine .no ?_)) (ft:(rs.filterMap fun | .cell t _=>some t | _=>none).Nodup:=by exact of_decide_eq_true (by kernel_rfl)) (ah:outs.length=n:=by rfl):aD .ret (pd P N rs n outs res) G:=by grind [mg]
end
end Go.Own
namespace Go.Own
open Go
set_option linter.unusedSectionVars false
variable [cw]
section
variable {α:Type}{P:Program}{g:aG}{ty t:TypeId}{a b:Operand}{k r z n:Nat}{cs cs':List ab}{x y:ab}{p:Place}{m:Int}{sA:IntKind}{e:TypeId}{N:cN}{ops:Array Oper}
theorem O.bS {cG f off:Nat} [h:cY P cG f off t] (j:Rd g a (.ptr ⟨r,[]⟩ k):=by exact .obj rfl) (ax:g r=some (.obj cs):=by rfl) (ah:Nat.blt (k+off) cs.length=true:=by rfl):b5 P g (.fieldAddr cG a f) ty (.ptr ⟨r,[]⟩ (k+off)):=O.mR ax j h.p ah
theorem O.y2 {cG f off:Nat} [h:cY P cG f off t] (j:Rd g a (.ptr ⟨r,[]⟩ k):=by exact .ptr rfl) (ax:g r=some (.obj cs):=by rfl) (ah:Nat.blt (k+off) cs.length=true:=by rfl):b5 P g (.fieldAddr cG a f) ty (.ptr ⟨r,[]⟩ (k+off)):=O.mR ax j h.p ah
theorem O.eb {v:Value} [h:fB P t] (j:Rd g a (.ptr ⟨r,[]⟩ k):=by exact .ptr rfl) (ax:g r=some (.obj cs):=by rfl) (J:cs[k]?=some (.lit v):=by rfl):b5 P g (.load t a) ty (.lit v):=O.oW ax j h.p J
theorem O.hl {en:bz α}{L:List α}{y:α}{br:Nat}(h:idx L m=some y) [aJ:eg P t e br] (j:Rd g a (.bc en.z L.length (bw en L)):=by exact .bc rfl) (ai:Rd g b (.lit (.int sA m)):=by exact .lit rfl) (aS:br=en.z:=by rfl):b5 P g (.indexAddr t a b) ty (.cJ (en.cells y++bw en (L.drop (m.toNat+1)))):=O.qv j ai (aS ▸ aJ.p) h
theorem O.dT [h:fB P t] (j:Rd g a (.ptr ⟨r,[]⟩ k):=by exact .ptr rfl) (ax:g r=some (.obj cs):=by rfl) (J:cs[k]?=some x:=by rfl) (ai:fA 0 ⟨r,[k]⟩ x=y:=by rfl):b5 P g (.load t a) ty y:=O.y7 ax j h.p J ai
theorem O.kH [h:fB P t] (j:Rd g a (.cJ cs):=by exact .cJ rfl) (J:cs.head?=some x:=by rfl):b5 P g (.load t a) ty x:=O.Cc j h.p J
theorem O.xS {cG f off:Nat} [h:cY P cG f off t] (j:Rd g a (.cJ cs):=by exact .cJ rfl):b5 P g (.fieldAddr cG a f) ty (.cJ (cs.drop off)):=O.AR j h.p
theorem O.iK {br:Nat} [h:eg P t e br] (j:Rd g a (.bc z n cs):=by exact .bc rfl):b5 P g (.call { callee:=.builtin .len,args:=#[a],argTypes:=#[t] }) ty (ae n):=O.tK j h.p
theorem c3.fR {xs:List Operand}{fI:Array TypeId}{f:FuncId}{ys:List ab}{outs:List (Option ab)}{res:ab}(j:qT g xs ys) (gp:bH P f ys outs res) [aj:b9 res] (aU:gR P f=true:=by kernel_rfl) (aM:sD outs=true:=by rfl):c3 P g (.call { callee:=.value (.func f),args:=xs.toArray,argTypes:=fI }) res:=by grind [c3.go]
theorem c3.rR {xs:List Operand}{fI:Array TypeId}{f:FuncId}{ys args:List ab}{outs:List (Option ab)}{res:ab}(j:fZ g xs=some ys) (hv:n1 g ys args) (gp:bH P f args outs res) [aj:nY res] (aU:gR P f=true:=by kernel_rfl) (aM:sD outs=true:=by rfl):c3 P g (.call { callee:=.value (.func f),args:=xs.toArray,argTypes:=fI }) res:=by grind [c3.vw]
end
section
variable {P:Program}{N:cN}{ops:Array Oper}{a':List (List Nat)}{K:aG->Prop}{i:Nat}{acc:Acc}{l:List Oper}{d:Nat}
theorem b1.ju (bL:Nat) {G G2:List (Nat × ab)}{o:Oper}(he:bF P N (c9 (get G) (λ_=>true) acc) o (get G2)) (hk:b1 P N ops a' (get G2) (bL+1) [] l K) (aI:o.guard=none:=by rfl) (gS:rF ((acc.filterMap ke).map Place.root)=true:=by rfl) (fO:mD G=true:=by rfl) (ag:Nat.beq ops.size (bL+l.length+1)=true:=by rfl) (aQ:(List.range bL).all (λk=>(a'.getD bL []).contains k)=true:=by kernel_rfl) (au:(List.range ops.size).all (λk=>Nat.ble k bL||(a'.getD k []).contains bL)=true:=by kernel_rfl):b1 P N ops a' (get G) i acc (o::l) K:=.v7 bL he aI gS fO ag aQ au hk
theorem b1.Mk (bL:Nat) {G G2:List (Nat × ab)}{o:Oper}{x:ab}(he:bF P N (c9 (get G) (λ_=>true) acc) o (cH (get G2) d x)) (hk:b1 P N ops a' (get ((d,x)::G2)) (bL+1) [] l K) (aI:o.guard=none:=by rfl) (gS:rF ((acc.filterMap ke).map Place.root)=true:=by rfl) (fO:mD G=true:=by rfl) (ag:Nat.beq ops.size (bL+l.length+1)=true:=by rfl) (aQ:(List.range bL).all (λk=>(a'.getD bL []).contains k)=true:=by kernel_rfl) (au:(List.range ops.size).all (λk=>Nat.ble k bL||(a'.getD k []).contains bL)=true:=by kernel_rfl):b1 P N ops a' (get G) i acc (o::l) K:=.bv bL he aI gS fO ag aQ au hk
end
end Go.Own
namespace Go.Own
open Go
set_option linter.unusedSectionVars false
variable [cw]
set_option linter.unusedVariables false
def ox:List ab->Nat->List ab->Option (List ab)
 | [],0,[]=>some []
 | [],_,_=>none
 | x::l,0,[]=>some (x::l)
 | _::l,0,y::c=>match ox l 0 c with
  | some r=>some (y::r)
  | none=>none
 | x::l,k+1,c=>match ox l k c with
  | some r=>some (x::r)
  | none=>none
theorem lp:∀ {l:List ab}{k:Nat}{c r:List ab},ox l k c=some r->ew l k c=r/\k+c.length<=l.length
 | [],0,[],r,h=>by cases h; exact ⟨rfl,Nat.le_refl _⟩
 | [],0,_::_,_,h=>by cases h
 | [],_+1,_,_,h=>by cases h
 | x::l,0,[],r,h=>by cases h; exact ⟨by simp [ew],by simp⟩
 | x::l,0,y::c,r,h=>by
  unfold ox at h
  split at h
  ·rename_i dk aj;cases h;obtain ⟨h1,af⟩:=lp aj;subst h1;exact ⟨by simp [ew],by simp at af ⊢; omega⟩
  ·cases h
 | x::l,k+1,c,r,h=>by
  unfold ox at h
  split at h
  ·rename_i dk aj;cases h;obtain ⟨h1,af⟩:=lp aj;subst h1;exact ⟨by simp [ew,Nat.add_right_comm],by simp; omega⟩
  ·cases h
theorem C4 {g g2:aG}{r:Nat}{cs2:List ab}:∀ {ks:List Nat}{G1:List (Nat × ab)},pick (cH g r (.obj cs2)) ks=some G1->(∀ e∈G1,cE e.2)->k5 g g2 r cs2 G1
 | [],_,h,_=>by cases h; exact .nil
 | k::ks,G1,h,az=>by
  unfold pick at h
  split at h
  ·rename_i x j
   split at h
   ·rename_i l ah;cases h;have ak:=C4 (g2:=g2) ah λe he=>az e (by simp [he]);by_cases e:k=r
    ·subst e;have e:x=.obj cs2:=by simpa [cH] using j.symm
     subst e;have j:cE (.obj cs2):=az (k,.obj cs2) (by simp);have:df cs2:=⟨by cases j; assumption⟩;exact .b rfl ak
    ·have:b9 x:=⟨az (k,x) (by simp)⟩;exact .n (by rw [<- Bool.not_eq_true,Nat.beq_eq]; exact e) (by simpa [cH,e] using j) ak
   ·cases h
  ·cases h
theorem Ks {g g2:aG}{ex:List Nat}:∀ {ks:List Nat}{G1:List (Nat × ab)},pick g ks=some G1->(ks.all λk=>!ex.elem k)=true->(∀ e∈G1,cE e.2)->mh ex g g2 G1
 | [],_,h,_,_=>by cases h; exact .nil
 | k::ks,G1,h,he,az=>by
  unfold pick at h;rw [List.all_cons,Bool.and_eq_true] at he
  split at h
  ·rename_i x j
   split at h
   ·rename_i l ah;cases h;have:b9 x:=⟨az (k,x) (by simp)⟩;exact .n (by simpa using he.1) j (Ks ah he.2 λe h=>az e (by simp [h]))
   ·cases h
  ·cases h
def Fi:List ab->Option (List ab)
 | []=>some []
 | x::l=>match Fi l with
  | some r=>some (x::r)
  | none=>none
theorem O9:∀ {l r:List ab},Fi l=some r->l=r
 | [],r,h=>by cases h; rfl
 | x::l,r,h=>by
  unfold Fi at h
  split at h
  ·rename_i dk aj;cases h; rw [O9 aj]
  ·cases h
def Fj:ab->Option ab
 | .obj cs=>match Fi cs with
  | some r=>some (.obj r)
  | none=>none
 | .own z n cs=>some (.own z n cs)
 | _=>none
theorem O_ {x y:ab}(h:Fj x=some y):x=y:=by
 unfold Fj at h
 grind [O9]
theorem Kt {g g2:aG}{r:Nat}{x2:ab}:∀ {ks:List Nat}{G1:List (Nat × ab)},pick (cH g r x2) ks=some G1->(∀ e∈G1,cE e.2)->kM g g2 r x2 G1
 | [],_,h,_=>by cases h; exact .nil
 | k::ks,G1,h,az=>by
  unfold pick at h
  split at h
  ·rename_i x j
   split at h
   ·rename_i l ah;cases h;have ak:=Kt (g2:=g2) ah λe he=>az e (by simp [he]);by_cases e:k=r
    ·subst e;have e:x=x2:=by simpa [cH] using j.symm
     subst e;have:b9 x:=⟨az (k,x) (by simp)⟩;exact .b rfl ak
    ·have:b9 x:=⟨az (k,x) (by simp)⟩;exact .n (by rw [<- Bool.not_eq_true,Nat.beq_eq]; exact e) (by simpa [cH,e] using j) ak
   ·cases h
  ·cases h
section
variable {P:Program}{N:cN}{ops:Array Oper}{g:aG}{K:aG->Prop}{l:List Oper}{d r k0:Nat}{ty t:TypeId}{pos:String}{after:Array Edge}{a b x:Operand}{cs cs' cs2:List ab}{y:ab}{G2:List (Nat × ab)}{u:Option (Nat × Bool)}{p q:Place}
theorem Rd.QF {α:Type}{en:bz α}{L:List α}{t:Nat}(h:g t=some (ay en L)):Rd g (.tmp t) (ay en L):=.bc h
theorem bF.jo (ks:List Nat) (aQ:Rd g a (.ptr ⟨r,[]⟩ k0):=by (first | exact .obj rfl | exact .ptr rfl)) (ax:g r=some (.obj cs):=by rfl) (au:Rd g b (.agg cs'):=by (first | exact .e4 rfl rfl | exact .JS rfl)) (he:ox cs k0 cs'=some cs2:=by rfl) (av:pick (cH g r (.obj cs2)) ks=some G2:=by rfl) (aS:hc P t cs'.length=true:=by kernel_rfl) (aH:Nat.blt 0 cs'.length=true:=by rfl) (aj:(get G2 r).isSome=true:=by rfl) [az:df cs'] [eN:df cs] [aI:hZ G2]:bF P N g ⟨none,.store t a b,ty,pos,after,none⟩ (get G2) :=
 .o6 rfl rfl ax aQ au rfl aS (Nat.ble_eq_true_of_le (lp he).2) aH (lp he).1 aj (C4 av aI.p)
theorem bF.qL (ks:List Nat) (aQ:Rd g a (.ptr ⟨r,[]⟩ k0):=by (first | exact .ptr rfl | exact .obj rfl)) (ax:g r=some (.obj cs):=by rfl) (au:Rd g b y:=by (first | exact .lit rfl | exact .k rfl | exact .QF rfl | exact .w6 | exact .bc rfl)) (J:mQ y=some [y]:=by rfl) (he:ox cs k0 [y]=some cs2:=by rfl) (av:pick (cH g r (.obj cs2)) ks=some G2:=by rfl) (aS:hc P t 1=true:=by kernel_rfl) (aj:(get G2 r).isSome=true:=by rfl) [az:b9 y] [eN:df cs] [aI:hZ G2]:bF P N g ⟨none,.store t a b,ty,pos,after,none⟩ (get G2) :=
 .o6 rfl rfl ax aQ au J aS (Nat.ble_eq_true_of_le (lp he).2) rfl (lp he).1 aj (C4 av aI.p)
theorem bF.oJ {α:Type}{en:bz α}{L:List α}(ks:List Nat) (j:Rd g x (.bn en.z p L.length):=by (first | exact .own rfl | exact .bn rfl)) (av:bu g p=some (ar en L):=by rfl) (hk:pick g ks=some G2:=by rfl) (cU:(ks.all λk=>![p.root].elem k)=true:=by rfl) (aI:get G2 d=none:=by rfl) (a8:N.ok d=true:=by rfl) [az:hZ G2]:bF P N g ⟨some d,.assign x,ty,pos,after,u⟩ (cH (get G2) d (ar en L)) :=
 .GM rfl rfl j av (Ks hk cU az.p) aI a8
theorem bF.vV {α:Type}{en:bz α}{L M:List α}{s:Nat}(ks:List Nat) (j:Rd g x (.bn en.z ⟨s,[]⟩ (L.length+M.length)):=by exact .bC rfl) (ax:g s=some (.bC en.z q L.length M.length (bw en M)):=by rfl) (av:bu g q=some (ar en L):=by rfl) (hk:pick g ks=some G2:=by rfl) (cU:(ks.all λk=>![s,q.root].elem k)=true:=by rfl) (ba:Nat.beq q.root s=false:=by rfl) (aI:get G2 d=none:=by rfl) (a8:N.ok d=true:=by rfl) [az:hZ G2]:bF P N g ⟨some d,.assign x,ty,pos,after,u⟩ (cH (get G2) d (ar en (L++M))) :=
 .GL rfl rfl j ax av ba (Ks hk cU az.p) aI a8
theorem bF.sp {α:Type}{en:bz α}{L M:List α}{s:Nat}{iQ:List ab}(ks:List Nat) (au:Rd g b (.bn en.z ⟨s,[]⟩ (L.length+M.length)):=by exact .bC rfl) (pL:g s=some (.bC en.z q L.length M.length (bw en M)):=by rfl) (av:bu g q=some (ar en L):=by rfl) (aQ:Rd g a (.ptr ⟨r,[]⟩ k0):=by (first | exact .ptr rfl | exact .obj rfl)) (ax:cc (cc g ⟨s,[]⟩ .dead) q .dead r=some (.obj iQ):=by rfl) (he:ox iQ k0 [ar en (L++M)]=some cs2:=by rfl) (hk:pick (cH (cc (cc g ⟨s,[]⟩ .dead) q .dead) r (.obj cs2)) ks=some G2:=by rfl) (ba:Nat.beq q.root s=false:=by rfl) (aS:hc P t 1=true:=by kernel_rfl) (aj:(get G2 r).isSome=true:=by rfl) [eN:df iQ] [aI:hZ G2]:bF P N g ⟨none,.store t a b,ty,pos,after,none⟩ (get G2) :=
 .zV rfl rfl aQ au pL av ba .l_ .hz rfl rfl aS ax (Nat.ble_eq_true_of_le (lp he).2) (lp he).1 aj (C4 hk aI.p)
theorem bF.zY {α:Type}{en:bz α}{L:List α}{iQ:List ab}(ks:List Nat) (au:Rd g b (.bn en.z p L.length):=by (first | exact .own rfl | exact .bn rfl)) (av:bu g p=some (ar en L):=by rfl) (aQ:Rd g a (.ptr ⟨r,[]⟩ k0):=by (first | exact .ptr rfl | exact .obj rfl)) (ax:cc g p .dead r=some (.obj iQ):=by rfl) (he:ox iQ k0 [ar en L]=some cs2:=by rfl) (hk:pick (cH (cc g p .dead) r (.obj cs2)) ks=some G2:=by rfl) (aS:hc P t 1=true:=by kernel_rfl) (aj:(get G2 r).isSome=true:=by rfl) [eN:df iQ] [aI:hZ G2]:bF P N g ⟨none,.store t a b,ty,pos,after,none⟩ (get G2) :=
 .xK rfl rfl aQ au (.r av .nil) .refl rfl aS ax (Nat.ble_eq_true_of_le (lp he).2) rfl (lp he).1 aj (C4 hk aI.p)
theorem bF.tS {α:Type}{en:bz α}{L:List α}{hL y2:α}{m:Int}{o:Nat}{ez x2 y0:ab}(ks:List Nat) (h:idx L m=some hL) (aQ:Rd g a (.ptr p (m.toNat * en.z+o)):=by exact .ptr rfl) (av:bu g p=some (ar en L):=by rfl) (au:Rd g b y:=by (first | exact .lit rfl | exact .k rfl | exact .QF rfl | exact .w6 | exact .bc rfl | exact .e4 rfl rfl)) (J:mQ y=some cs':=by rfl) (he:ew (en.cells hL) o cs'=en.cells y2:=by rfl) (jC:cc g p (ar en (L.set m.toNat y2)) p.root=some ez:=by rfl) (gZ:Fj ez=some x2:=by rfl) (hk:pick (cH g p.root x2) ks=some G2:=by rfl) (aS:hc P t cs'.length=true:=by kernel_rfl) (hlen:Nat.ble (o+cs'.length) en.z=true:=by rfl) (aH:Nat.blt 0 cs'.length=true:=by rfl) (aj:(get G2 p.root).isSome=true:=by rfl) (sx:g p.root=some y0:=by rfl) [az:b9 y] [eN:b9 y0] [aI:hZ G2]:bF P N g ⟨none,.store t a b,ty,pos,after,none⟩ (get G2) :=
 .xL rfl rfl aQ au av h aS J he hlen aH (by rw [jC,O_ gZ]) aj sx (Kt hk aI.p)
theorem aC.fX {o:Oper}(he:bF P N g o (get G2)) (hk:aC P N ops l (get G2) K) (aI:o.guard=none:=by rfl):aC P N ops (o::l) g K:=.hR aI he hk
theorem aC.b3 {o:Oper}(he:bF P N g o (cH (get G2) d y)) (hk:aC P N ops l (cH (get G2) d y) K) (aI:o.guard=none:=by rfl):aC P N ops (o::l) g K:=.qi aI he hk
end
section
variable {S R:Type}{P:Program}{N:cN}{A B c:Code}{G:List (Nat × ab)}{Φ:Exit->aG->Prop}{id:Nat}
theorem W.eX {G1:List (Nat × ab)}(ks:List Nat) (L:List (Nat × ab)) (h:W P N c (get G) λe g=>e=.normal/\hN g G1) (hk:aD .normal Φ G1) (av:pick (get (L++G)) ks=some G1:=by rfl):W P N c (get G) Φ:=W.ds _ h hk
theorem W.np {G1:List (Nat × ab)}{l:List Oper}(ks:List Nat) (L:List (Nat × ab)) (h:aC P N l.toArray l (get G) λg'=>jR g' (get G1)) (hk:W P N B (get G1) Φ) (av:pick (get (L++G)) ks=some G1:=by rfl):W P N (.seq (.region id l.toArray false) B) (get G) Φ:=W.rs _ h hk
theorem W.gy {f:S->Option (S ⊕ R)}{r:R}{cM:S->List (Nat × ab)}{lZ:R->List (Nat × ab)}(s:S) (F:S->List (Nat × ab)) (ks:List Nat) (id:Nat) (X:R->List (Nat × ab)) (rE:List Nat) (h:b0 f s=some r) (au:∀ s o,f s=some o->W P N c (get (cM s)) (kL cM (λr e g=>e=.exit id/\hN g (lZ r)) o)) (hk:aD (.exit id) Φ (lZ r))
  (aE:∀ s,pick (get (F s++G)) ks=some (cM s):=by intro s; rfl) (wu:∀ s,pick (get (X s++G)) rE=some (lZ s):=by intro s; rfl) (ak:Trim true (get G) (get (cM s)) (cM s):=by (repeat' first | exact .nil | refine .n rfl ?_ | refine .w rfl rfl .oq ?_ | refine .w rfl rfl .oX ?_ | refine .w rfl rfl (jS.obj (by (repeat' first | exact .nil | refine .f ?_ | refine .o ?_ | refine .i ?_))) ?_)):W P N (.loop c) (get G) Φ :=
 W.dr ak (W.Fb cM id lZ h au hk)
theorem W.gz {gw:Type}{f:S->Option (S ⊕ (R ⊕ gw))}{r:R ⊕ gw}{cM:S->List (Nat × ab)}{lZ:R->List (Nat × ab)}{s5:gw->List (Nat × ab)}(s:S) (F:S->List (Nat × ab)) (ks:List Nat) (id:Nat) (X:R->List (Nat × ab)) (rE:List Nat) (Y:gw->List (Nat × ab)) (Ca:List Nat) (h:b0 f s=some r)
  (au:∀ s o,f s=some o->W P N c (get (cM s)) (kL cM (λ(r:R ⊕ gw) e g=>match r with | .inl r=>e=.exit id/\hN g (lZ r) | .inr r=>e=.ret/\hN g (s5 r)) o))
  (j:∀ x,r=.inl x->aD (.exit id) Φ (lZ x)) (aj:∀ x,r=.inr x->aD .ret Φ (s5 x))
  (aE:∀ s,pick (get (F s++G)) ks=some (cM s):=by intro s; rfl) (wu:∀ s,pick (get (X s++G)) rE=some (lZ s):=by intro s; rfl) (Ic:∀ s,pick (get (Y s++G)) Ca=some (s5 s):=by intro s; rfl) (ak:Trim true (get G) (get (cM s)) (cM s):=by (repeat' first | exact .nil | refine .n rfl ?_ | refine .w rfl rfl .oq ?_ | refine .w rfl rfl .oX ?_ | refine .w rfl rfl (jS.obj (by (repeat' first | exact .nil | refine .f ?_ | refine .o ?_ | refine .i ?_))) ?_)):W P N (.loop c) (get G) Φ :=
 W.dr ak (W.O1 cM id lZ s5 h au j aj)
end
end Go.Own
namespace Go.Own
open Go
set_option linter.unusedSectionVars false
variable [cw]
set_option linter.unusedVariables false
inductive k3:Type 1
 | e
 | b (x y:k3)
 | eK {S R:Type}(F:S->List (Nat × ab)) (ks:List Nat) (id:Nat) (X:R->List (Nat × ab)) (rE:List Nat) (x y:k3)
 | gz {S R gw:Type}(F:S->List (Nat × ab)) (ks:List Nat) (id:Nat) (X:R->List (Nat × ab)) (rE:List Nat) (Y:gw->List (Nat × ab)) (Ca:List Nat) (x y z:k3)
 | ds {α:Type}(ks:List Nat) (L:α->List (Nat × ab)) (x y:k3)
 | eT {α:Type}(id:Nat) (ks:List Nat) (L:α->List (Nat × ab)) (y:k3)
 | rd (id:Nat) (a':List (List Nat)) (y:k3)
 | bW {α:Type}(id:Nat) (a':List (List Nat)) (ks:List Nat) (L:α->List (Nat × ab)) (y:k3)
 | p (y:k3)
 | eF {α:Type}(id s:Nat) (i:Option Nat) (en:bz α) (y:k3)
 | r8 {α:Type}(s:Nat) (i:Option Nat) (en:bz α) (y:k3)
def OO:ab->Bool
 | .lit _ | .bf | .bc .. | .own .. | .obj _ | .cJ _ | .c7 .. | .mp _ | .imp _=>true
 | .agg cs=>cs.all λx=>match x with | .ptr .. | .bn .. | .sub .. | .ha _ | .bC .. | .dead=>false | _=>true
 | _=>false
def sB (ex:List Nat):List (Nat × ab)->Option (List Nat)
 | []=>some []
 | (k,x)::l=>match sB (k::ex) l with
  | none=>none
  | some r=>match !ex.elem k&&OO x with
   | true=>some (k::r)
   | false=>some r
def JU (E ex:List Nat):List (Nat × ab)->Option (List Nat)
 | []=>some []
 | (k,x)::l=>match JU E (k::ex) l with
  | none=>none
  | some r=>match E.elem k&&(!ex.elem k&&OO x) with
   | true=>some (k::r)
   | false=>some r
def roots (G:List (Nat × ab)):Operand->List Nat
 | .tmp s=>match get G s with
  | some (.own ..)=>[s]
  | some (.obj _)=>[s]
  | some (.bn _ p _)=>[s,p.root]
  | some (.ptr p _)=>[s,p.root]
  | some (.bC _ q _ _ _)=>match get G q.root with
   | some (.bC _ p1 _ _ _)=>[s,q.root,p1.root]
   | _=>[s,q.root]
  | _=>[s]
 | _=>[]
def Pp (F:List (Nat × ab)) (s:Nat):Nat->List ab->Option (List ab)
 | _,[]=>some []
 | i,x::l=>match Pp F s (i+1) l with
  | none=>none
  | some r=>match get F (1000 * (i+1)+s) with
   | some y=>some (y::r)
   | none=>some (x::r)
def oZ (F G:List (Nat × ab)):aG:=λs=>match get F s with
 | some x=>some x
 | none=>match get G s with
  | some (.obj cs)=>match Pp F s 0 cs with
   | some r=>some (.obj r)
   | none=>none
  | x=>x
def cy (E:List Nat) (t:k3) (P:Program) (N:cN) (c:Code) (G:List (Nat × ab)) (Φ:Exit->aG->Prop):Prop:=W P N c (get G) Φ
def d' (E:List Nat) (t:k3) (e:Exit) (Φ:Exit->aG->Prop) (G:List (Nat × ab)):Prop:=aD e Φ G
def x7 (E:List Nat) (t:k3) (dZ:k3->List (Nat × ab)->Prop) (g':aG):Prop:=∃ G1,jR g' (get G1)/\dZ t G1
def qR {α:Type}(F:α->List (Nat × ab)) (aa:α) (e:Exit) (g:aG):Prop:=e=.normal/\hN g (F aa)
def Lw {R:Type}(id:Nat) (X:R->List (Nat × ab)) (r:R) (e:Exit) (g:aG):Prop:=e=.exit id/\hN g (X r)
def Ak {R gw:Type}(id:Nat) (X:R->List (Nat × ab)) (Y:gw->List (Nat × ab)) (r:R ⊕ gw) (e:Exit) (g:aG):Prop:=match r with | .inl r=>e=.exit id/\hN g (X r) | .inr r=>e=.ret/\hN g (Y r)
class bJ (P:Program) (f:FuncId) (p:Prop) (args:outParam (List ab)) (outs:outParam (List (Option ab))) (res:outParam ab):Prop where go:p->bH P f args outs res
section
variable {P:Program}{N:cN}{E:List Nat}{t x y z:k3}{A B c:Code}{G G1:List (Nat × ab)}{Φ nU:Exit->aG->Prop}{dZ:aG->Prop}{id k s:Nat}{b:Bool}{α β:Type}{l:List Oper}
theorem cy.rg (h:aC P N l.toArray l (get G) (x7 E t λt G1=>cy E t P N B G1 Φ)):cy E t P N (.seq (.region id l.toArray false) B) G Φ :=
 W.seq (W.zN λi hi=>by
  obtain ⟨g',h1,G1,af,aJ⟩:=h i hi;exact ⟨g',h1,W.weaken af aJ⟩)
theorem cy.rt (h:aC P N l.toArray l (get G) (x7 E t λt G1=>d' E t .normal Φ G1)):cy E t P N (.region id l.toArray false) G Φ :=
 W.zN λi hi=>by
  obtain ⟨g',h1,G1,af,aJ⟩:=h i hi;exact ⟨g',h1,aJ g' (.ey af .hz)⟩
theorem cy.bQ (h:cy E t P N A G (oz (λg1=>W P N B g1 Φ) Φ)):cy E t P N (.seq A B) G Φ:=W.seq h
theorem cy.cq (h:cy E t P N A G (lI id Φ)):cy E t P N (.block id A) G Φ:=W.cq h
theorem cy.v7 (h:cy E t P N A G (lI id Φ)):cy E (.p t) P N (.block id A) G Φ:=W.cq h
theorem cy.da (h:d' E t .normal Φ G):cy E t P N .skip G Φ:=W.da h
theorem cy.fJ (h:d' E t (.exit k) Φ G):cy E t P N (.exit k) G Φ:=W.fJ h
theorem cy.C6 (h:d' E t .ret Φ G):cy E t P N .ret G Φ:=W.rt h
theorem cy.cX {X Y o:α}(h:(bif b then X else Y)=o) (dn:b=true->X=o->cy E x P N A G Φ) (aE:b=false->Y=o->cy E y P N B G Φ) (J:get G s=some (bg b):=by rfl):cy E (.b x y) P N (.cond (.tmp s) A B) G Φ:=W.cX h J dn aE
theorem cy.ce {X Y o:α}(h:(bif b then X else Y)=o) (dn:b=true->X=o->cy E .e P N A G Φ) (aE:b=false->Y=o->cy E .e P N B G Φ) (J:get G s=some (bg b):=by rfl):cy E .e P N (.cond (.tmp s) A B) G Φ:=W.cX h J dn aE
theorem cy.Sx (h:cy E t P N A G Φ) (J:get G s=some (bg b):=by rfl) (au:b=true:=by (first | rfl | assumption)):cy E t P N (.cond (.tmp s) A B) G Φ:=W.ic J (λ_=>h) (λe=>by rw [au] at e; cases e)
theorem cy.Sw (h:cy E t P N B G Φ) (J:get G s=some (bg b):=by rfl) (au:b=false:=by (first | rfl | assumption)):cy E t P N (.cond (.tmp s) A B) G Φ:=W.ic J (λe=>by rw [au] at e; cases e) (λ_=>h)
theorem cy.XB {o:Operand}{m:Option α}{f:α->Option β}{r:β}{ks:List Nat}{L cM:α->List (Nat × ab)}(h:m.bind f=some r) (h1:∀ aa,m=some aa->cy E x P N (.cond o A B) G (qR cM aa)) (af:∀ aa,m=some aa->f aa=some r->d' E y .normal Φ (cM aa))
  (aE:∀ aa,pick (oZ (L aa) G) ks=some (cM aa):=by intro aa; rfl):cy E (.ds ks L x y) P N (.cond o A B) G Φ:=by
 obtain ⟨aa,ag,h⟩:=qg h;exact W.ds _ (h1 aa ag) (af aa ag h)
theorem cy.JQ {m:Option α}{f:α->Option β}{r:β}{ks:List Nat}{L cM:α->List (Nat × ab)}(h:m.bind f=some r) (h1:∀ aa,m=some aa->cy E x P N (.block id A) G (qR cM aa)) (af:∀ aa,m=some aa->f aa=some r->d' E y .normal Φ (cM aa))
  (aE:∀ aa,pick (oZ (L aa) G) ks=some (cM aa):=by intro aa; rfl):cy E (.ds ks L x y) P N (.block id A) G Φ:=by
 obtain ⟨aa,ag,h⟩:=qg h;exact W.ds _ (h1 aa ag) (af aa ag h)
theorem cy.eK {S R:Type}{f:S->Option (S ⊕ R)}{s:S}{g:R->Option β}{r:β}{F cM:S->List (Nat × ab)}{ks rE:List Nat}{X lZ:R->List (Nat × ab)}(h:(b0 f s).bind g=some r)
  (au:∀ s o,f s=some o->cy E x P N c (cM s) (kL cM (Lw id lZ) o)) (hk:∀ dk,b0 f s=some dk->g dk=some r->d' E y (.exit id) Φ (lZ dk))
  (aE:∀ s,pick (oZ (F s) G) ks=some (cM s):=by intro s; rfl) (wu:∀ s,pick (oZ (X s) G) rE=some (lZ s):=by intro s; rfl) (ak:Trim true (get G) (get (cM s)) (cM s):=by (repeat' first | exact .nil | refine .n rfl ?_ | refine .w rfl rfl .oq ?_ | refine .w rfl rfl .oX ?_ | refine .w rfl rfl (jS.obj (by (repeat' first | exact .nil | refine .f ?_ | refine .o ?_ | refine .i ?_))) ?_)) :
  cy E (.eK F ks id X rE x y) P N (.loop c) G Φ:=by
 obtain ⟨dk,ah,h⟩:=qg h;exact W.dr ak (W.Fb cM id lZ ah au (hk dk ah h))
theorem d'.bQ (h:cy E t P N B G Φ):d' E t .normal (oz (λg1=>W P N B g1 Φ) nU) G:=aD.bQ h
theorem d'.fH (h:d' E t (.exit k) Φ G):d' E t (.exit k) (oz dZ Φ) G:=aD.fH h
theorem d'.oy (h:d' E t .ret Φ G):d' E t .ret (oz dZ Φ) G:=aD.oy h
theorem d'.cq (h:d' E t .normal Φ G):d' E t .normal (lI id Φ) G:=aD.cq h
theorem d'.fC (h:d' E t .normal Φ G):d' E t (.exit id) (lI id Φ) G:=aD.fC h
theorem d'.GZ (h:d' E t (.exit k) Φ G) (hk:Nat.beq k id=false:=by rfl):d' E t (.exit k) (lI id Φ) G:=aD.GZ hk h
theorem d'.s_ (h:d' E t .ret Φ G):d' E t .ret (lI id Φ) G:=aD.s_ h
theorem d'.ds {F:α->List (Nat × ab)}{aa v:α}(h:some v=some aa) (ak:Trim true (get G) (get (F v)) (F v)):d' E t .normal (qR F aa) G:=by
 cases h; exact aD.ds ak
theorem d'.go {S R:Type}{s:S}{o:S ⊕ R}{F:S->List (Nat × ab)}{dZ:R->Exit->aG->Prop}(h:some (.inl s)=some o) (ak:Trim true (get G) (get (F s)) (F s)):d' E t .normal (kL F dZ o) G:=by
 cases h; exact aD.go ak
theorem d'.aX {S R:Type}{r:R}{o:S ⊕ R}{F:S->List (Nat × ab)}{X:R->List (Nat × ab)}(h:some (.inr r)=some o) (ak:Trim true (get G) (get (X r)) (X r)):d' E t (.exit id) (kL F (Lw id X) o) G:=by
 cases h; exact aD.aX ak
variable {ops:Array Oper}{K:aG->Prop}{d:Nat}{op:Op}{ty:TypeId}{pos:String}{after:Array Edge}{v v2:ab}{ks:List Nat}{g:aG}{aa cG:Nat}{c6:Bool}
theorem oN {G:List (Nat × ab)}{d:Nat}{v:ab}:cH (get G) d v=get ((d,v)::G):=q7.symm
theorem ea (av:b5 P (get G) op ty v) (hk:aC P N ops l (get ((d,v)::G)) K) (a8:N.ok d=true:=by rfl) (aU:get G d=none:=by rfl):aC P N ops (⟨some d,op,ty,pos,after,none⟩::l) (get G) K:=aq av (oN ▸ hk) a8 aU
theorem GI (jA:sB [d] G=some ks) (aI:pick (get G) ks=some G1) [az:hZ G1] (av:b5 P (get G1) op ty v) (hk:aC P N ops l (get ((d,v)::G1)) K) (a8:N.ok d=true:=by rfl) (aU:get G1 d=none:=by rfl):aC P N ops (⟨some d,op,ty,pos,after,none⟩::l) (get G) K:=aC.bW ks aI (aq av (oN ▸ hk) a8 aU)
theorem LJ (av:c3 P (get G) op v) (hk:aC P N ops l (get ((d,v)::G)) K) (a8:N.ok d=true:=by rfl) (aU:get G d=none:=by rfl):aC P N ops (⟨some d,op,ty,pos,after,none⟩::l) (get G) K:=hE av (oN ▸ hk) a8 aU
theorem eh (av:b5 P (get G) op ty v) (hk:aC P N ops l (get ((d,v)::G)) K) (h:(ops[aa]?).bind (·.dst)=some cG:=by rfl) (aI:get G cG=some (.lit (.bool c6)):=by rfl) (au:c6=b:=by (first | rfl | assumption)) (a8:N.ok d=true:=by rfl) (aU:get G d=none:=by rfl):aC P N ops (⟨some d,op,ty,pos,after,some (aa,b)⟩::l) (get G) K:=.v av a8 aU (.o_ h aI au) (oN ▸ hk)
theorem Ls (av:c3 P (get G) op v) (hk:aC P N ops l (get ((d,v)::G)) K) (h:(ops[aa]?).bind (·.dst)=some cG:=by rfl) (aI:get G cG=some (.lit (.bool c6)):=by rfl) (au:c6=b:=by (first | rfl | assumption)) (a8:N.ok d=true:=by rfl) (aU:get G d=none:=by rfl):aC P N ops (⟨some d,op,ty,pos,after,some (aa,b)⟩::l) (get G) K:=.c av a8 aU (.o_ h aI au) (oN ▸ hk)
theorem p' (hk:aC P N ops l (get ((d,.bN [])::G)) K) (h:(ops[aa]?).bind (·.dst)=some cG:=by rfl) (aI:get G cG=some (.lit (.bool c6)):=by rfl) (au:c6=!b:=by (first | rfl | assumption)) (a8:N.ok d=true:=by rfl) (aU:get G d=none:=by rfl):aC P N ops (⟨some d,op,ty,pos,after,some (aa,b)⟩::l) (get G) K:=.ps h aI au a8 aU (oN ▸ hk)
theorem Q5 (hk:aC P N ops l (get ((d,.bN [])::G)) K) (h:(ops[aa]?).bind (·.dst)=some cG:=by rfl) (aI:get G cG=some (.bN []):=by rfl) (a8:N.ok d=true:=by rfl) (aU:get G d=none:=by rfl):aC P N ops (⟨some d,op,ty,pos,after,some (aa,b)⟩::l) (get G) K:=.pu h aI a8 aU (oN ▸ hk)
theorem Hf {p:Prop}{X Y o:α}(h:(bif b then X else Y)=o) (dn:b=true->X=o->p) (aE:b=false->Y=o->p):p:=by
 cases b
 ·exact aE rfl h
 ·exact dn rfl h
theorem GC {DB:k3->List (Nat × ab)->Prop}(jA:JU E [] G=some ks) (av:pick (get G) ks=some G1) [az:hZ G1] (hk:DB t G1):aC P N ops [] (get G) (x7 E t DB):=.nil ⟨G1,(tQ (c:=true) (g2:=get G1) av az.p).ey,hk⟩
theorem cy.eT {m:Option α}{f:α->Option β}{r:β}{ks:List Nat}{L cM:α->List (Nat × ab)}(h:m.bind f=some r) (h1:∀ aa,m=some aa->aC P N l.toArray l (get G) (qR cM aa .normal)) (af:∀ aa,m=some aa->f aa=some r->cy E y P N B (cM aa) Φ)
  (aE:∀ aa,pick (oZ (L aa) G) ks=some (cM aa):=by intro aa; rfl):cy E (.eT id ks L y) P N (.seq (.region id l.toArray false) B) G Φ:=by
 obtain ⟨aa,ag,h⟩:=qg h;exact W.seq (W.zN λi hi=>by
  obtain ⟨g',bO,_,e1⟩:=h1 aa ag i hi;exact ⟨g',bO,W.be (af aa ag h) e1⟩)
theorem Q2 {F:α->List (Nat × ab)}{aa v:α}(h:some v=some aa) (ak:Trim true (get G) (get (F v)) (F v)):aC P N ops [] (get G) (qR F aa .normal):=by
 cases h; exact .nil ⟨rfl,.ey ak.ey .hz⟩
end
end Go.Own
namespace Go.Own
open Go Go.Lib
set_option linter.unusedSectionVars false
variable [cw]
section
variable {P:Program}{w:World}
theorem YX (t u ty e:TypeId) (i:TypeInfo) (ak:P.underlying t=some (.slice e)) (hu:P.underlying u=some .string) (hi:P.info? e=some i) (aS:i.zero=some (.int .u8 0)) (uY:i.size=1) (uM:i.bytes=1)
  {bv:Value}{n:Nat}{us:List Value}(iB:w.ownsRow 0 e 1 bv n us) (s:ByteArray) (mS:n+s.size<=maxLen) (wB:n+s.size<=140737488355328) :
  ∃ dJ w',(Builtin.append_ #[t,u] ty #[bv,.string s]).run P w=.ok dJ w'/\xV w w' bv dJ e e 1 n s.size us (strCells s):=by
 have ih:us.length=n:=by simpa using iB.1
 have ah:=strCells_length s;have Wv:n+s.size<=9223372036854775807:=by simp only [maxLen] at mS; omega
 have hlen:(us++strCells s).length=(n+s.size) * 1:=by rw [List.length_append,ih,ah,Nat.mul_one]
 have aU:=λw=>run_firstCells_string (P:=P) w 1 s;by_cases hm:s.size=0
 ·have az:strCells s=[]:=List.eq_nil_of_length_eq_zero (by rw [ah,hm]);refine ⟨bv,w,?_,.same iB (λ_ _=>rfl) (Nat.le_refl _) rfl rfl rfl (by simpa [hm,az] using iB) (λc J=>.inl J) λ_=>rfl⟩;have ql:=aU w;rw [hm] at ql;obtain ⟨_,bE⟩:=iB;rcases bE with ⟨rfl,rfl⟩ | ⟨b,cap,cur,rfl,_,aI,hle,_⟩
  ·simp [Builtin.append_,run_underlying ak,run_underlying hu,sizeOf,typeInfo,hi,uY,Builtin.lenOf,hm,ql]
  ·simp [Builtin.append_,run_underlying ak,run_underlying hu,sizeOf,typeInfo,hi,uY,Builtin.lenOf,hm,ql,az,hle,storeCells]
 have grown:∀ iF:Nat,iF<n+s.size ->
   (w.drew.alloc (.cells (us.toArray++(strCells s).toArray++Builtin.zeroCells (Value.int .u8 0).cells (grownCap w (n+s.size) iF e - (n+s.size))) e)).ownsRow 0 e 1
    (.slice (some ⟨w.heap.size,0,none⟩) (n+s.size) (grownCap w (n+s.size) iF e)) (n+s.size) (us++strCells s):=by
  intro iF aM;refine ⟨hlen,.inr ⟨w.heap.size,_,_,rfl,Nat.zero_le _,ph w.drew _,grownCap_ge w (n+s.size) iF e,grownCap_le_maxLen w (n+s.size) iF e mS,?_,?_⟩⟩
  ·have dY:=grownCap_ge w (n+s.size) iF e;have sz:(Value.int IntKind.u8 0).cells.size=1:=rfl;simp only [Array.size_append,List.size_toArray,size_zeroCells,sz,ih,ah];omega
  ·simp only [Array.toList_append,List.append_assoc];rw [<- List.append_assoc,<- hlen];exact List.take_left
 have wI:=iB;obtain ⟨_,bE⟩:=iB;rcases bE with ⟨rfl,rfl⟩ | ⟨b,cap,cur,rfl,_,aI,hle,rb,gl,yZ⟩
 ·have j:us=[]:=List.eq_nil_of_length_eq_zero ih;subst j;have aj:=run_append_nil_string (P:=P) w t u ty e i (.int .u8 0) ak hu hi aS s (by omega) (by omega) (by rw [uM]; omega);have nG:=grown 0 (by omega);simp only [Nat.zero_add,List.nil_append,Array.empty_append] at nG ⊢;have bO:(s.data.map λb=>Value.int .u8 b.toNat)=(strCells s).toArray:=by
   apply Array.ext';simp [strCells]
  rw [bO] at aj;exact ⟨_,_,aj,.same wI (λc J=>alloc_old w.drew _ c J) (by simp) rfl rfl rfl (by simpa using nG) (λc J=>.inr (by simp [Value.ownBlock] at J; omega)) (λa=>AW w.drew _ _ a)⟩
 ·have kP:cur.size=cap:=by simpa using gl
  have WB:cur.toList.take n=us:=by simpa using yZ
  by_cases uV:n+s.size<=cap
  ·have bM:=run_storeCells_at P b n e (strCells s) 0 cur w aI (by rw [ah]; omega) (strCells_oneCell s);simp only [Nat.add_zero,ah] at bM;have aj:(Builtin.append_ #[t,u] ty #[.slice (some ⟨b,0,none⟩) n cap,.string s]).run P w =
     .ok (.slice (some ⟨b,0,none⟩) (n+s.size) cap) (w.setRow b (cur.toList.take n++strCells s++cur.toList.drop (n+s.size)).toArray):=by
    simp [Builtin.append_,run_underlying ak,run_underlying hu,sizeOf,typeInfo,hi,uY,Builtin.lenOf,uV,aU,Addr.add_lit,bM]
   have dL:(cur.toList.take n++strCells s++cur.toList.drop (n+s.size)).toArray.size=cur.size:=by
    simp only [List.size_toArray,List.length_append,List.length_take,List.length_drop,Array.length_toList,ah];omega
   have hK:(cur.toList.take n++strCells s++cur.toList.drop (n+s.size)).take (n * 1)=cur.toList.take (n * 1):=by
    rw [List.append_assoc,Nat.mul_one];exact List.take_left' (by simp; omega)
   refine ⟨_,_,aj,⟨⟨by rw [ih,Nat.mul_one],.inr ⟨b,cap,_,rfl,Nat.zero_le _,setRow_heap w b cur _ e _ aI,hle,rb,dL.trans gl,?_⟩⟩,⟨hlen,.inr ⟨b,cap,_,rfl,Nat.zero_le _,setRow_heap w b cur _ e _ aI,uV,rb,dL.trans gl,?_⟩⟩,
    ⟨rfl,rfl,rfl,by simp,λk _ hk=>setRow_other w b k _ (λe=>hk (by simp [Value.ownBlock,e])),λa _ _=>Em w b _ a,Nat.le_refl _⟩,λc J=>.inl J,λc J=>?_⟩⟩
   ·rw [<- yZ]; exact hK
   ·rw [WB,<- hlen];exact List.take_left
   ·simp only [Value.ownBlock,Option.some.injEq] at J;subst J;exact ⟨cur,_,aI,setRow_heap w b cur _ e _ aI,dL,hK⟩
  ·have holds:∀ (aa:Nat) (u:Value),us[aa]?=some u->w.cell? ((⟨b,0,none⟩:Addr).add aa)=some u:=wI.cells (g:=b) rfl;have aj:=run_append_grow_string (P:=P) w t u ty e i (.int .u8 0) ak hu hi aS ⟨b,0,none⟩ n cap us (by rw [uY]; simpa using ih) holds s (by omega) (by omega) (by rw [uM]; exact growslice_fits (by omega) (by omega));have nG:=grown cap (by omega);exact ⟨_,_,aj,.same wI (λc J=>alloc_old w.drew _ c J) (by simp) rfl rfl rfl nG (λc J=>.inr (by simp [Value.ownBlock] at J; omega)) (λa=>AW w.drew _ _ a)⟩
theorem Z9 {ops:Array Oper}{rest:List Oper}{o:Oper}{a:Act}{Q:Exit->Act->World->Prop}(re:o.guard=none) (sO x:Operand) (t u:TypeId)
  (aM:o.op=.call { callee:=.builtin .append,args:=#[sO,x],argTypes:=#[t,u] }) 
  (e:TypeId) (i:TypeInfo) (ak:P.underlying t=some (.slice e)) (hu:P.underlying u=some .string) (hi:P.info? e=some i) (aS:i.zero=some (.int .u8 0)) (uY:i.size=1) (uM:i.bytes=1)
  (v:Value) (n:Nat) (xs:List Value) (ax:a.eval sO=v) (iW:w.ownsRow 0 e 1 v n xs) (s:ByteArray) (j:a.eval x=.string s) (mS:n+s.size<=maxLen) (wB:n+s.size<=140737488355328)
  (h:∀ dJ w',xV w w' v dJ e e 1 n s.size xs (strCells s)->wpList P ops Q rest (a.put o.dst dJ) w'):wpList P ops Q (o::rest) a w:=by
 refine wpList_plain re λK dz=>?_;obtain ⟨dJ,w',aj,af⟩:=YX (P:=P) (w:=w) t u o.type e i ak hu hi aS uY uM iW s mS wB;unfold Oper.wp execOp;simp only [aM,resolve,invoke,builtin,Sem.run_bind,Sem.run_pure,Result.andThen_ok,List.map_toArray,List.map_cons,List.map_nil,ax,j,aj];exact dz _ _ (h dJ w' af)
end
end Go.Own
