/- Parts of the proof that the last text states. -/
import Derived.Deep.Draws
import Derived.Deep.LoopGhost
import Derived.KernelRfl
import Derived.Laws.CopyRow
import Derived.Lib.SliceRun
import Derived.Lib.SlicesCompact
import Derived.Lib.Walk
import Derived.Maps.OwnIn
import Derived.Shelf.RegionOpenPlain
import Derived.Shelf.SlLaysQ
import Derived.Shelf.SlSortCmp.NoneTotal
import Derived.Shelf.SlicesE.Kit
import Derived.Shelf.SlicesQ.Load
import Derived.Shelf.Strings.BuilderK
import Derived.Sort.WalkB12
import Derived.StringKeys
import Derived.WalkKit
import Derived.Test.YtaddiiogopnkpaaGreatE4
set_option linter.unusedSectionVars false
set_option linter.unusedVariables false
namespace Go.Own
open Go Go.Proofs Go.Shelf Go.Lib Go.Sort
variable [cE]
section
variable {P:Program}{w:World}
def Ai {α:Type} [DecidableEq α] (lt:α->α->Bool) (l:List α):Bool :=
 l.all λa=>!lt a a&&l.all λb=>(lt a b||lt b a||decide (a=b))&&l.all λc=>(!(lt a b&&lt b c)||lt a c)&&(lt a b||lt b c||!lt a c)
def kG {α:Type}(fC:α->α->Option Int) (a b:α):Bool:=decide ((fC a b).getD 0<0)
def ins {α:Type}(lt:α->α->Bool) (x:α):List α->List α
 | []=>[x]
 | y::l=>if lt y x then y::ins lt x l else x::y::l
def h_ {α:Type}(lt:α->α->Bool):List α->List α
 | []=>[]
 | x::l=>ins lt x (h_ lt l)
theorem Kq {α:Type}(lt:α->α->Bool) (x:α):∀ l:List α,(ins lt x l).Perm (x::l)
 | []=>.refl _
 | y::l=>by
  unfold ins;split
  ·exact ((Kq lt x l).cons y).trans (.swap x y l)
  ·exact .refl _
theorem tc {α:Type}(lt:α->α->Bool):∀ l:List α,(h_ lt l).Perm l
 | []=>.refl _
 | x::l=>(Kq lt x _).trans ((tc lt l).cons x)
theorem Ph {α:Type}{lt:α->α->Bool}(bh:SWO lt) (x:α):∀ l:List α,l.Pairwise (λa b=>(!lt b a)=true)->(ins lt x l).Pairwise λa b=>(!lt b a)=true
 | [],_=>List.pairwise_singleton _ _
 | y::l,h=>by
  obtain ⟨h1,af⟩:=List.pairwise_cons.1 h;unfold ins;split
  ·rename_i aN;refine List.pairwise_cons.2 ⟨λz aX=>?_,Ph bh x l af⟩;rcases List.mem_cons.1 ((Kq lt x l).mem_iff.1 aX) with rfl | aX
   ·cases aa:lt z y with
    | false=>rfl
    | true=>have:=bh.trans _ _ _ aN aa; rw [bh.irrefl] at this; cases this
   ·exact h1 z aX
  ·rename_i aN;have aN:lt y x=false:=by simpa using aN
   refine List.pairwise_cons.2 ⟨λz aX=>?_,h⟩;rcases List.mem_cons.1 aX with rfl | aX
   ·rw [aN]; rfl
   ·have aX:=h1 z aX;simp only [Bool.not_eq_true'] at aX ⊢;exact bh.ntrans _ _ _ aX aN
theorem FQ {α:Type}{lt:α->α->Bool}(bh:SWO lt):∀ l:List α,(h_ lt l).Pairwise λa b=>(!lt b a)=true
 | []=>.nil
 | x::l=>Ph bh x _ (FQ bh l)
theorem Pp {α:Type}{lt:α->α->Bool}(bh:SWO lt) (cU:∀ x y,lt x y=false->lt y x=false->x=y) (l:List α):l.mergeSort (λx y=>!lt y x)=h_ lt l:=by
 refine List.Perm.eq_of_pairwise (le:=λx y=>(!lt y x)=true) (λa b _ _ h1 af=>?_) (List.pairwise_mergeSort (λa b c h1 af=>?_) (λa b=>?_) l) (FQ bh l) ((List.mergeSort_perm _ _).trans (tc lt l).symm)
 ·simp only [Bool.not_eq_true'] at h1 af;exact cU a b af h1
 ·simp only [Bool.not_eq_true'] at h1 af ⊢;exact bh.ntrans _ _ _ af h1
 ·cases h1:lt b a with
  | false=>rfl
  | true =>
   cases af:lt a b with
   | false=>rfl
   | true=>have:=bh.trans _ _ _ h1 af; rw [bh.irrefl] at this; cases this
theorem Pg {α β:Type}{lt:α->α->Bool}{lt':β->β->Bool}{f:α->β}(h:∀ a b,lt a b=lt' (f a) (f b)) (x:α):∀ l:List α,(ins lt x l).map f=ins lt' (f x) (l.map f)
 | []=>rfl
 | y::l=>by
  simp only [ins,List.map_cons,h];split
  ·rw [List.map_cons,Pg h x l]
  ·rfl
theorem FP {α β:Type}{lt:α->α->Bool}{lt':β->β->Bool}{f:α->β}(h:∀ a b,lt a b=lt' (f a) (f b)):∀ l:List α,(h_ lt l).map f=h_ lt' (l.map f)
 | []=>rfl
 | x::l=>by simp only [h_,List.map_cons,Pg h,FP h l]
def pZ {α:Type} [DecidableEq α] (fC:α->α->Option Int) (l:List α):Option (List α) :=
 if (l.all λa=>l.all λb=>(fC a b).isSome)&&Ai (kG fC) l&&decide (l.length<4611686018427387904) then some (h_ (kG fC) l) else none
theorem NR {w':World}(h:Fr w w' λ_=>False):∃ q os,w'=grow (w.drewN q) os:=by
 refine ⟨w'.drawn - w.drawn,w'.heap.extract w.heap.size w'.heap.size,?_⟩;obtain ⟨h1,af,aD,bm,b7,dp,kC⟩:=h;obtain ⟨aq,afD,zu,os,out⟩:=w';simp only at h1 af aD bm b7 kC;subst h1 af aD;unfold grow World.drewN;simp only [World.mk.injEq,true_and,and_true];refine ⟨?_,by omega⟩;apply Array.ext_getElem?;intro k;rw [Array.getElem?_append];by_cases hk:k<w.heap.size
 ·rw [if_pos hk]; exact b7 k hk λh=>h
 ·rw [if_neg hk,Array.getElem?_extract];by_cases fy:k<aq.size
  ·rw [if_pos (by omega),show w.heap.size+(k - w.heap.size)=k by omega]
  ·rw [if_neg (by omega),Array.getElem?_eq_none (by omega)]
theorem QK (l:List Int):bA ai l=l.map ae:=by
 induction l with
 | nil=>rfl
 | cons a l aM =>
  show ai.cells a++bA ai l=_;rw [aM]; rfl
theorem Rc {vs:List Value}{v0 v1:Value}(xz:vs=[v0,v1]) {I:a'}{Fs:Nat->a'}{g:aL}(bh:cA w I vs.toArray g Fs) {w':World}{e:TypeId}{r:List Int}(aW:w'.ownsRow 0 e 1 v0 r.length (r.map (Value.int .i64))) (aH:∀ c,Fs 0 c↔v0.ownBlock=some c) (kn:Fr w w' λc=>Fs 0 c) :
  ∃ v I' bV,Ending.returned (.tuple #[])=.returned v/\cA w' I' (vs++[v]).toArray (kH [some (aC ai r),none] (.bS [])) bV/\kS w I (λc=>∃ t,Fs t c) w' I' (λc=>∃ t,bV t c):=by
 subst xz;refine ⟨_,I,λt=>if t=0 then Fs 0 else cj,rfl,⟨λt x J=>?_,λt ar c aa=>?_,λt t' c aa ep=>?_,λt c aa=>?_,λc aa=>Nat.lt_of_lt_of_le (bh.lt c aa) kn.size,λt t' z p n m new bR cr m' cL h1 af=>?_,cE.keep bh.hP (λc aa=>kn.block c (bh.lt c aa) λh=>bh.bd 0 c h aa) λ_ h=>h⟩,⟨?_,λc h=>h,λc h=>.inl h,λc aa=>?_⟩⟩
 ·unfold kH at J
  split at J
  ·rename_i ar;have ar:t=2:=ar;subst ar;cases J;exact ⟨.tuple #[],rfl,.tree (.bS (Fs:=λ_=>cj) rfl (λk x u h=>by simp at h) (λj k c h=>by simp at h) (λc=>⟨λh=>h.elim,λ⟨k,h,_⟩=>by simp at h⟩))⟩
  ·match t,J with
   | 0,J =>
    cases J;refine ⟨v0,rfl,.tree ?_⟩;show R w' I _ (.own 1 r.length (bA ai r)) v0 (Fs 0);rw [QK];refine .own (Fs:=λ_=>cj) aW (by simp) (λk u hu=>?_) (λk x u J hu=>?_) (λ_ _ _ _ _ h=>h.elim) (λ_ _ _ h=>h.elim) (λc=>⟨λh=>.inl ((aH c).1 h),λh=>?_⟩)
    ·rw [List.getElem?_map] at hu;cases hk:r[k]? <;> rw [hk] at hu <;> cases hu;rfl
    ·rw [List.getElem?_map] at J hu;cases hk:r[k]? <;> rw [hk] at J hu <;> cases J <;> cases hu;exact .lit rfl λ_ h=>h
    ·rcases h with h | ⟨_,_,h⟩
     ·exact (aH c).2 h
     ·exact h.elim
   | 1,J=>cases J
   | t+2,J=>cases J
 ·have aK:¬ t=0:=λe=>by subst e; exact absurd ar (by simp [kH])
  simp only [if_neg aK] at aa;exact aa
 ·have key:∀ {t:Nat},(if t=0 then Fs 0 else cj) c->t=0:=λ{t} h=>by
   by_cases aK:t=0
   ·exact aK
   ·rw [if_neg aK] at h; exact h.elim
  rw [key aa,key ep]
 ·by_cases aK:t=0
  ·simp only [if_pos aK] at aa; exact bh.bd 0 c aa
  ·simp only [if_neg aK] at aa; exact aa.elim
 ·unfold kH at h1
  split at h1
  ·cases h1
  ·match t,h1 with
   | 0,h1=>cases h1
   | 1,h1=>cases h1
   | t+2,h1=>cases h1
 ·exact kn.mono λb _ au=>⟨0,au⟩
 ·obtain ⟨t,ar⟩:=aa;by_cases aK:t=0
  ·simp only [if_pos aK] at ar; exact .inl ⟨0,ar⟩
  ·simp only [if_neg aK] at ar; exact ar.elim
theorem Qc {α:Type} [DecidableEq α] {lt:α->α->Bool}{l:List α}(h:Ai lt l=true):∀ a∈l,lt a a=false/\∀ b∈l,(lt a b=true\/lt b a=true\/a=b)/\∀ c∈l,((lt a b=true/\lt b c=true)->lt a c=true)/\(lt a b=true\/lt b c=true\/lt a c=false):=by
 intro a aI;unfold Ai at h;have h1:=List.all_eq_true.1 h a aI;simp only [Bool.and_eq_true,Bool.not_eq_true',List.all_eq_true,Bool.or_eq_true,decide_eq_true_eq] at h1;refine ⟨h1.1,λb au=>?_⟩;obtain ⟨af,aD⟩:=h1.2 b au;refine ⟨by rcases af with (h | h) | h <;> simp [h],λc aa=>?_⟩;obtain ⟨bm,b7⟩:=aD c aa;refine ⟨λ⟨x,y⟩=>?_,by rcases b7 with (h | h) | h <;> simp [h]⟩;rcases bm with h | h
 ·rw [x,y] at h; cases h
 ·exact h
theorem Rb {α:Type} [DecidableEq α] {fC:α->α->Option Int}{l r:List α}(h:pZ fC l=some r):(∀ a∈l,∀ b∈l,(fC a b).isSome=true)/\Ai (kG fC) l=true/\l.length<4611686018427387904/\r=h_ (kG fC) l:=by
 unfold pZ at h
 split at h
 ·rename_i aa;simp only [Bool.and_eq_true,List.all_eq_true,decide_eq_true_eq] at aa;exact ⟨aa.1.1,aa.1.2,aa.2,(Option.some.inj h).symm⟩
 ·cases h
theorem Oq {α:Type} [Inhabited α] {enc:α->Value}{b n:Nat}{d:Array α}{os:Array Obj}{cur:Array Value}{e:TypeId}{dK:Nat × Nat}(au:w.heap[b]?=some (.cells cur e dK)) :
  (sortWorld enc w b 0 n d os).heap[b]?=some (.cells (putCells enc 0 d cur) e dK):=by
 have aN:b<w.heap.size:=(Array.getElem?_eq_some_iff.1 au).1;unfold sortWorld;rw [heap_grow_old _ _ (by rw [Go.Sort.size_putRow]; exact aN)];unfold putRow mapBlock;have q_:(Go.Sort.ahead w n).heap=w.heap:=rfl;simp only [q_,Array.getElem?_modify,if_true,au,Option.map_some,onCells]
theorem Jr {α:Type} [Inhabited α] {enc:α->Value}{b n c:Nat}{d:Array α}{os:Array Obj}(aa:c<w.heap.size) (cO:c≠b) :
  (sortWorld enc w b 0 n d os).heap[c]?=w.heap[c]?:=by
 unfold sortWorld;rw [heap_grow_old _ _ (by rw [Go.Sort.size_putRow]; exact aa)];unfold putRow mapBlock;have q_:(Go.Sort.ahead w n).heap=w.heap:=rfl;simp only [q_,Array.getElem?_modify,if_neg (Ne.symm cO)]
theorem E' {α:Type} [Inhabited α] {enc:α->Value}{b n:Nat}{d:Array α}{os:Array Obj}{U:a'}(fi:U b):Fr w (sortWorld enc w b 0 n d os) U:=by
 refine ⟨rfl,rfl,rfl,?_,λc aa aB=>Jr aa λe=>aB (e ▸ fi),λa aI _=>?_,?_⟩
 ·unfold sortWorld; rw [size_grow,Go.Sort.size_putRow]; exact Nat.le_add_right _ _
 ·unfold sortWorld;rw [frozen?_grow _ _ _ (by rw [Go.Sort.size_putRow]; exact aI),Go.Sort.frozen?_putRow]; rfl
 ·show w.drawn<=w.drawn+n;exact Nat.le_add_right _ _
theorem Qx {α:Type} [Inhabited α] {enc:α->Value}{d:Array α}{cur:Array Value}(h:d.size<=cur.size):(putCells enc 0 d cur).toList.take d.size=d.toList.map enc:=by
 apply List.ext_getElem?;intro k;rw [List.getElem?_take,List.getElem?_map];by_cases hk:k<d.size
 ·rw [if_pos hk,Array.getElem?_toList,Array.getElem?_toList];have aa:k<cur.size:=by omega
  simp only [putCells,Array.getElem?_mapIdx,Array.getElem?_eq_getElem aa,Array.getElem?_eq_getElem hk,Option.map_some];rw [if_pos ⟨Nat.zero_le _,by omega⟩,Nat.sub_zero];simp [getElem!_pos,hk]
 ·rw [if_neg hk,Array.getElem?_toList,Array.getElem?_eq_none (by omega)]; rfl
theorem bO.LB {ρ:Ren}(L:SlLaysF.n6 P ρ) {g:FuncId}{caps:List ab} [pJ:dk caps] (aP:hx P g=true) {l r:List Int}{fC:Int->Int->Option Int}(h:pZ fC l=some r)
  (aa:∀ a b v,fC a b=some v->bO P g (ae a::ae b::caps) (none::none::caps.map λ_=>none) (ae v)) :
  bO P (ρ.f 6) [aC ai l,.cD (.func g) [] caps] [some (aC ai r),none] (.bS []):=by
 refine ⟨rfl,λw I vs Fs ah bh=>?_⟩;obtain ⟨v0,v1,rfl⟩:∃ v0 v1,vs=[v0,v1]:=by
  match vs,ah with
  | [a,b],_=>exact ⟨a,b,rfl⟩
 obtain ⟨xv,j4,J1,rfl⟩:=Rb h;obtain ⟨u,hu,aY⟩:=bh.rel 0 (aC ai l) rfl;obtain rfl:v0=u:=by simpa using hu
 replace aY:=aY.gp (by simp);obtain ⟨u,hu,ql⟩:=bh.rel 1 (.cD (.func g) [] caps) rfl;obtain rfl:v1=u:=by simpa using hu
 replace ql:=ql.gp (by simp);rw [show aC ai l=.own 1 l.length (bA ai l) from rfl,QK] at aY
 cases aY with
 | ref J=>simp [ab.isRef] at J
 | @own _ _ _ _ e us bH _ aW xo hh hr aO au aH =>
 cases ql with
 | ref J=>simp [ab.isRef] at J
 | @cD _ _ _ av kf _ w6 h1 af iU hz =>
 obtain rfl:av=#[]:=Array.eq_empty_of_size_eq_zero (by simpa using h1.symm);have mG:∀ c,Fs 0 c↔v0.ownBlock=some c:=by
  intro c;refine ⟨λaa=>?_,λaa=>(aH c).2 (.inl aa)⟩;rcases (aH c).1 aa with h | ⟨k,hk,h⟩
  ·exact h
  ·have J:=List.getElem?_eq_getElem hk;have hu:=List.getElem?_eq_getElem (xo ▸ hk);have aY:=hr k _ _ J hu;rw [List.getElem_map] at aY;generalize us[k]=gq at aY;cases aY with
   | lit _ aT=>exact (aT c h).elim
   | ref J=>simp [ab.isRef] at J
 have ny:us=l.map (Value.int .i64):=by
  apply List.ext_getElem?;intro k;by_cases hk:k<us.length
  ·have ig:k<(l.map ae).length:=xo.symm ▸ hk;have J:=List.getElem?_eq_getElem ig;have hu:=List.getElem?_eq_getElem hk;have aY:=hr k _ _ J hu;rw [List.getElem_map] at aY;rw [hu,aY.hB.1,List.getElem?_map,List.getElem?_eq_getElem (by simpa using ig)]; rfl
  ·rw [List.getElem?_eq_none (by omega),List.getElem?_eq_none (by rw [List.length_map] at xo ⊢; omega)]
 subst ny;have Cy:=tc (kG fC) l;have hlen:=Cy.length_eq;by_cases xq:l=[]
 ·subst xq;have h9:∃ p cap,v0=.slice p 0 cap:=by
   rcases aW.2 with ⟨rfl,_⟩ | ⟨b,cap,cur,rfl,_⟩
   ·exact ⟨_,_,rfl⟩
   ·exact ⟨_,_,rfl⟩
  obtain ⟨p,cap,rfl⟩:=h9;refine (AnyF.slices_SortFunc_none { L with } p cap _ w).mono ?_;rintro b1 w' ⟨rfl,rfl⟩;exact Rc rfl bh (e:=e) (r:=[]) aW mG (Fr.refl _ _)
 ·obtain ⟨OE,Jl⟩:=aW;rcases Jl with ⟨rfl,aK⟩ | ⟨b,cap,cur,rfl,_,ue,hle,JS,fz,fA⟩
  ·exact absurd (List.eq_nil_of_length_eq_zero aK) xq
  rw [Nat.mul_one] at fz fA;have uc:Fs 0 b:=(mG b).2 rfl;have Ji:b<w.heap.size:=(Array.getElem?_eq_some_iff.1 ue).1;obtain ⟨a0,B8⟩:=List.exists_mem_of_ne_nil l xq
  let α:={ x:Int // x∈l }
  haveI:Inhabited α:=⟨⟨a0,B8⟩⟩
  let enc:α->Value:=λx=>.int .i64 x.1
  let kX:α->α->Int:=λx y=>(fC x.1 y.1).getD 0;have aN:∀ x y:α,ltOf kX x y=kG fC x.1 y.1:=λx y=>rfl
  let d:Array α:=l.attach.toArray;have zD:d.size=l.length:=by show (l.attach.toArray).size=l.length; rw [List.size_toArray,List.length_attach]
  have iV:=Qc j4;have hO:SWO (ltOf kX):=by
   refine ⟨λx=>by rw [aN]; exact (iV x.1 x.2).1,λx y z=>?_,λx y z=>?_⟩
   ·rw [aN,aN,aN];exact λp q=>(((iV x.1 x.2).2 y.1 y.2).2 z.1 z.2).1 ⟨p,q⟩
   ·rw [aN,aN,aN];intro p q;rcases (((iV x.1 x.2).2 y.1 y.2).2 z.1 z.2).2 with h | h | h
    ·rw [p] at h; cases h
    ·rw [q] at h; cases h
    ·exact h
  have cU:∀ x y:α,ltOf kX x y=false->ltOf kX y x=false->x=y:=by
   intro x y p q;rw [aN] at p q;rcases ((iV x.1 x.2).2 y.1 y.2).1 with h | h | h
   ·rw [p] at h; cases h
   ·rw [q] at h; cases h
   ·exact Subtype.ext h
  have mJ:∀ j,j<l.length->cur[j]?=some (.int .i64 l[j]!):=by
   intro j ag;have:=congrArg (λt=>t[j]?) fA;simp only [List.getElem?_take,if_pos ag,Array.getElem?_toList,List.getElem?_map,List.getElem?_eq_getElem ag,Option.map_some] at this;rw [this,getElem!_pos l j ag]
  have hH:Holds enc w b 0 d:=by
   intro j ag;rw [zD] at ag;refine ⟨?_,?_⟩
   ·unfold World.cell?;simp only [ue,Nat.zero_add];show cur[j]?=_;rw [mJ j ag];show some (Value.int .i64 l[j]!)=some (.int .i64 (d[j]!).1);have:(d[j]!).1=l[j]! := by
     rw [getElem!_pos d j (by omega),getElem!_pos l j ag];show (l.attach.toArray[j]'_).val=_;rw [List.getElem_toArray,List.getElem_attach]
    rw [this]
   ·unfold World.frozen?;simp only [ue];simp
  have Iv:∀ args w,(callFunc g args).run P w=.ok (.enter g args) w:=λargs w=>zp aP args;have Jo:CmpLays1 P g kf enc kX b 0 d.size w:=by
   intro m os BJ Ch x y;have sj:=xv x.1 x.2 y.1 y.2;obtain ⟨v,hv⟩:=Option.isSome_iff_exists.1 sj;have Jm:kX x y=v:=by show (fC x.1 y.1).getD 0=v; rw [hv]; rfl
   have I_:cA (sortWorld enc w b 0 m BJ os) I #[] (λ_=>none) (λ_=>cj):=by
    refine ⟨λ_ _ h=>(by cases h),λ_ _ _ h=>h,λ_ _ _ h=>h.elim,λ_ _ h=>h.elim,λc aa=>?_,λ_ _ _ _ _ _ _ _ _ _ _ h=>(by cases h),cE.keep bh.hP (λc aa=>(E' (U:=λc=>Fs 0 c) uc).block c (bh.lt c aa) λh=>bh.bd 0 c h aa) λ_ h=>h⟩;have:=bh.lt c aa;unfold sortWorld;rw [size_grow,Go.Sort.size_putRow];exact Nat.lt_of_lt_of_le this (Nat.le_add_right _ _)
   have jG:=I_.args (I':=I) (λ_ h=>h) (λc h=>.inl h) (args:=ae x.1::ae y.1::caps) (vs:=enc x::enc y::kf.toList) (by simp [af]) (λρ' k z u aX hu=>?_)
   ·have pI:=(aa x.1 y.1 v hv).2 _ I (enc x::enc y::kf.toList) _ (by simp [af]) jG;have kZ:(enc x::enc y::kf.toList).toArray=#[enc x,enc y]++kf:=by
     apply Array.ext';simp
    rw [kZ] at pI;refine pI.mono ?_;rintro b1 w' ⟨dH,I',bV,rfl,dM,bU⟩;obtain ⟨u,hu,nu⟩:=dM.rel (caps.length+2) (ae v) (by simp [kH]);have J_:u=dH:=by
     have:(enc x::enc y::kf.toList).length=caps.length+2:=by simp [af]
     rw [List.getElem?_toArray,<- this] at hu;simpa using hu.symm
    subst J_;have oF:=(nu.gp (by simp)).hB.1;subst oF;refine ⟨by rw [Jm],?_⟩;exact NR (bU.dK.mono λc _ ⟨_,bP⟩=>bP)
   ·match k,aX,hu with
    | 0,aX,hu=>cases aX; cases hu; exact .lit rfl λ_ h=>h
    | 1,aX,hu=>cases aX; cases hu; exact .lit rfl λ_ h=>h
    | k+2,aX,hu =>
     simp only [List.getElem?_cons_succ] at aX hu;have zy:=(hz k z u aX (by simpa using hu)).bk (ρ':=ρ') (pJ.bk z (List.mem_of_getElem? aX));refine zy.frame (λc aa=>?_) (λ_ h=>h) (λ_ _ h=>h) (λc h=>h.elim);exact Jr (bh.lt c aa) λe=>bh.bd 0 c (e ▸ uc) aa
  have Cp:=Any.slices_SortFunc_total L enc (λ_=>rfl) kX hO g kf b 0 cap d w Iv Jo hH Ji (by rw [zD]; exact J1) cU;rw [zD] at Cp;refine Cp.mono ?_;rintro b1 w' ⟨rfl,n,os,rfl⟩;have nz:(d.toList.mergeSort λx y=>!ltOf kX y x).map enc=(h_ (kG fC) l).map (Value.int .i64):=by
   rw [Pp hO cU];have hm:(h_ (ltOf kX) l.attach).map Subtype.val=h_ (kG fC) (l.attach.map Subtype.val):=FP (lt:=ltOf kX) (lt':=kG fC) (f:=Subtype.val) (λa b=>aN a b) l.attach;rw [List.attach_map_subtype_val] at hm;rw [<- hm,List.map_map];rfl
  have On:(d.toList.mergeSort λx y=>!ltOf kX y x).toArray.size=l.length:=by
   rw [List.size_toArray,(List.mergeSort_perm _ _).length_eq];show (l.attach.toArray).toList.length=l.length;simp
  refine Rc rfl bh (e:=e) (r:=h_ (kG fC) l) ⟨by simp,.inr ⟨b,cap,_,by rw [hlen],Nat.zero_le _,Oq ue,by omega,JS,?_,?_⟩⟩ mG (E' uc)
  ·rw [Nat.mul_one,<- fz];simp [putCells]
  ·rw [Nat.mul_one,hlen,<- On,Qx (by rw [On]; omega),<- nz]
end
end Go.Own
namespace Go.Own
open Go
variable [cE]
section
variable {α:Type}{P:Program}{N:cN}{g g1 g2 g3:aL}{ops:Array Oper}{bj:List (List Nat)}{acc:Acc}{l:List Oper}{K:aL->Prop}{i d r:Nat}
theorem cA.settle {w:World}{I:a'}{T:Array Value}{Fs:Nat->a'}(h:cA w I T g Fs) (a:Act) (aI:a.tmps=T) {ts:List Nat}{xs ys:List ab}(J:Own.hc g (ts.map Operand.tmp)=some xs) (ar:Take g xs ys g1) (eA:ts.Nodup) (ah:ys.length=ts.length) (aO:∀ t∈ts,g1 t=some .dead)
  (hk:il (qI g1 ((ts.map λt=>(⟨t,[]⟩:Place)).zip ys)) g2):∃ bV,cA w I T g2 bV/\∀ c,(∃ t,bV t c)->∃ t,Fs t c:=by
 obtain ⟨CT,Yz⟩:=Ah h aI J;have Yy:xs.length=ts.length:=by rw [CT,List.length_map]
 have hand:Hand w I (fh w T) Fs xs (ts.map λt=>a.eval (.tmp t)) (λ_=>cj):=by
  refine ⟨by rw [Yy,List.length_map],λk x u qA hu=>?_,λ_ _ _ _ _ h=>h.elim,λ_ _ _ _ h=>h.elim,λ_ _ _ h=>h.elim⟩;rw [List.getElem?_map] at hu;cases fA:ts[k]? with
  | none=>rw [fA] at hu; cases hu
  | some t =>
   rw [fA] at hu; cases hu;exact (Yz k x (.tmp t) qA (by rw [List.getElem?_map,fA]; rfl)).frame (λ_ _=>rfl) (λ_ h=>h) (λ_ _ h=>h.1) λ_ _=>rfl
 obtain ⟨fo,H1,iS,iw,hg⟩:=ar.sound h.mX hand;have uq:((ts.map λt=>(⟨t,[]⟩:Place)).zip ys).length=ts.length:=by rw [List.length_zip,List.length_map,ah]; exact Nat.min_self _
 obtain ⟨jc,h7,aH⟩:=jC.qI ((ts.map λt=>(⟨t,[]⟩:Place)).zip ys) H1 (λj=>((ts.map λt=>a.eval (.tmp t))[j]?).getD undef) iS (by
   rw [List.map_fst_zip (by rw [List.length_map,ah]; exact Nat.le_refl _)];exact List.Pairwise.map _ (λa b h e=>h (congrArg Place.root e)) eA) (λj p x ag=>by
   rw [List.getElem?_zip_eq_some] at ag;obtain ⟨h1,af⟩:=ag;rw [List.getElem?_map] at h1;cases fA:ts[j]? with
   | none=>rw [fA] at h1; cases h1
   | some t =>
    rw [fA] at h1; cases h1;have Oo:=aO t (List.mem_of_getElem? fA);obtain ⟨v,hv,_⟩:=iS.rel t .dead Oo;have sb:a.eval (.tmp t)=v:=by simp [Act.eval,aI,hv]
    have J8:(ts.map λt=>a.eval (.tmp t))[j]?=some v:=by rw [List.getElem?_map,fA]; simp [sb]
    refine ⟨by simp [bG,Oo,ab.at],?_,?_,λi e=>?_⟩
    ·rw [J8];show dx w T ⟨t,[]⟩=some v;unfold dx;simp only [hv,walk]
    ·rw [J8];exact iw.rel j x v af J8
    ·subst e; exact Qb J j i (ar.self j i af)) (λj t c ag aa=>iw.off j t c (by omega) aa) (λj c ag aa=>iw.bd j c (by omega) aa) (λi j c hi ag h1 af=>iw.d_ i j c (by omega) (by omega) h1 af)
 refine ⟨_,h7.keep hk,λc ⟨t,_,aa⟩=>?_⟩;have:lA fo ys.length H1 c:=by
  rcases aH t c aa with h | ⟨j,ag,h⟩
  ·exact .inl ⟨t,h⟩
  ·exact .inr ⟨j,by omega,h⟩
 rcases hg c this with h | ⟨_,_,h⟩
 ·exact h
 ·exact h.elim
theorem ht.settle {o:Oper}{ts:List Nat}{xs ys:List ab}(J:Own.hc g (ts.map Operand.tmp)=some xs) (ar:Take g xs ys g1) (eA:ts.Nodup) (ah:ys.length=ts.length) (aO:∀ t∈ts,g1 t=some .dead)
  (hk:il (qI g1 ((ts.map λt=>(⟨t,[]⟩:Place)).zip ys)) g2) (he:ht P N g2 o g3):ht P N g o g3:=by
 intro w I T Fs bh a aI bp K Q cZ;obtain ⟨bV,dM,fi⟩:=bh.settle a aI J ar eA ah aO hk;refine he w I T bV dM a aI bp K Q λb' w' aB ar=>cZ b' w' ?_ ar;obtain ⟨b9,b3,I',jc,h1,af⟩:=aB;exact ⟨b9,b3,I',jc,h1,kS.trans ⟨Fr.refl _ _,λ_ h=>h,λ_ h=>.inl h,λc h=>.inl (fi c h)⟩ af⟩
theorem SI {Q:Nat->Prop}{a:Nat}(aI:Q a):∀ t∈[a],Q t:=λt ar=>by rw [List.mem_singleton.1 ar]; exact aI
theorem ES {Q:Nat->Prop}{a b:Nat}(aI:Q a) (au:Q b):∀ t∈[a,b],Q t:=λt ar=>by
 rcases List.mem_cons.1 ar with rfl | ar
 ·exact aI
 ·rw [List.mem_singleton.1 ar]; exact au
def Gv (p q:Place):Bool:=Nat.beq p.root q.root&&p.path == q.path
def Da:List Place->Bool
 | []=>true
 | x::l=>l.all (λy=>!Gv x y)&&Da l
theorem PR:∀ {l:List Place},Da l=true->l.Nodup
 | [],_=>List.nodup_nil
 | p::l,h=>by
  simp only [Da,Bool.and_eq_true,List.all_eq_true] at h;refine List.nodup_cons.2 ⟨λhm=>?_,PR h.2⟩;have:=h.1 p hm;simp [Gv] at this
def Za (p:Place) (acc:Acc):Bool:=acc.all λe=>match k7 e with | some q=>!Gv p q | none=>true
theorem Df {p:Place}{G:List (Nat × ab)}{A:Nat->Bool}(h:Za p acc=true) (cY:n' G=true):∀ t z n m new,dr (get G) A acc t≠some (.bL z p n m new):=by
 intro t z n m new e;rcases uV e with ⟨b1,he,h1,_,af⟩ | ⟨_,af⟩
 ·have:=List.all_eq_true.1 h b1 he;obtain ⟨k,d,x⟩:=b1;simp only at af;subst af;simp [k7,Gv] at this
 ·exact xW cY _ _ _ _ _ _ af
theorem O.ET {en:bN α}{L M r:List α}{y:ab}{e fP:Nat}{a b:Operand}{p:Place}{t ty:TypeId}(aw:Rd g a (.a6 en.z p L.length)) (aq:bG g p=some (aC en L)) (J:Rd g b y) (hm:nm g en y M) (ar:h4 P t e en.z fP=true) (au:Nat.ble fP 128=true) (h:cT L M=some r) (eH:∀ t z n m new,g t≠some (.bL z p n m new)) :
  bT P g (.call { callee:=.builtin .append,args:=#[a,b],argTypes:=#[t,t] }) ty (.bL en.z p L.length M.length (bA en M)):=by
 obtain ⟨h1,af,_⟩:=u6 h au;exact .lX (.grow aw.bs (.inl ⟨_,aq⟩) (λt bR cr m' cL e=>eH _ _ _ _ _ e) J.bs hm.src ar h1 af)
theorem bC.Bw (bX:Nat) {G G2:List (Nat × ab)}{o:Oper}(he:ht P N (dr (get G) (λm=>(bj.getD bX []).contains m) acc) o (get G2)) (aP:o.guard=none) (gN:Da (acc.filterMap k7)=true) (fL:n' G=true) (ag:Nat.beq ops.size (bX+l.length+1)=true)
  (fi:acc.filter (λe=>!(bj.getD bX []).contains e.1)=[])
  (au:(List.range ops.size).all (λk=>Nat.ble k bX||(bj.getD k []).contains bX)=true) (hk:bC P N ops bj (get G2) (bX+1) [] l K):bC P N ops bj (get G) i acc (o::l) K:=by
 intro dA j bQ lR mc;have:=BK mc ag;subst this;obtain ⟨h1,af⟩:=drop_cons mc;obtain ⟨g',hr,cZ⟩:=hk [] (j+1) .nil .nil af;refine ⟨g',.Bs (U:=[]) (rs:=sC []) lR (PR gN) (xW fL) h1 ?_ he.v (λp aq=>by simp [sC] at aq) fi.symm (by simp) (by simp) (by simp) ?_ hr,cZ⟩
 ·unfold iE; rw [aP]
 ·refine List.all_eq_true.2 λk hk=>?_;have:=List.all_eq_true.1 au k hk;simp only [Bool.or_eq_true,decide_eq_true_eq,Nat.ble_eq] at this ⊢;exact this
theorem ht.cell {o:Oper}{r k0:Nat}{y:ab}{cs:List ab}{g5:aL}(hr:g r=some (.obj cs)) (ao:cs[k0]?=some y) (xF:cC y)
  (vB:∀ v:Value,v.oneCell'=true->∃ g1 g4,il (cn g ⟨r,[k0]⟩ (.lit v)) g1/\ht P N g1 o g4/\bG g4 ⟨r,[k0]⟩=some (.lit v)/\il (cn g4 ⟨r,[k0]⟩ y) g5) (ln:∀ i,y≠.self i:=by exact λ_ h=>(by cases h)):nf P N (λp=>p∈[(⟨r,[k0]⟩:Place)]) g o g5:=by
 intro w I T Fs h a aI bp K Q cZ;have ll:∀ z q n m new,y≠.bL z q n m new:=by rintro z q n m new rfl; cases xF
 have fD:bG g ⟨r,[k0]⟩=some y:=by simp [bG,hr,ab.at,ab.kids,ao]
 obtain ⟨v,cu,hv,ds,c_,put⟩:=h.mX.part fD ll;have qv:v.oneCell'=true:=by
  obtain ⟨u,hu,nt⟩:=h.rel r _ hr;obtain ⟨b,sK,h1,af,aD,bm,_⟩:=R.node (z:=0) (n:=0) (nt.gp (by simp)) (.inr rfl) ao;have:dx w T ⟨r,[k0]⟩=child w u k0:=by
   unfold dx;simp only [hu,walk];cases child w u k0 <;> rfl
  rw [this,aD] at hv;cases hv;exact bm
 obtain ⟨fo,iS,w6,BX⟩:=put (.lit v) cj (.lit qv λ_ h=>h) (λ_ h=>h.elim) (λ_ h=>h.elim) (λ_ _ _ h=>h.elim) (λ_ h=>by cases h);obtain ⟨g1,g4,gv,c7,Jc,JD⟩:=vB v qv;have sJ:∀ t c,fo t c->Fs t c/\¬ cu c:=by
  intro t c aa;by_cases ar:t=r
  ·subst ar;rcases (w6 c).1 aa with aJ | aJ
   ·exact aJ
   ·exact aJ.elim
  ·rw [BX t ar] at aa;exact ⟨aa,λaT=>ar (h.d_ t r c aa (c_ c aT))⟩
 have I6:=iS.keep gv;refine c7 w I T _ I6 a aI bp K Q λb' w' aB s8=>?_;obtain ⟨b9,b3,I',bV,dM,bU⟩:=aB;obtain ⟨v2,pw,s9,mI,V6,Le⟩:=dM.mX.part Jc (by simp);have J7:v2=v:=mI.hB.1;subst J7;have IX:∀ c,cu c->¬ I c:=λc aa=>h.bd r c (c_ c aa);have w8:∀ c,cu c->c<w.heap.size:=λc aa=>h.iX r c (c_ c aa);have xZ:∀ c,cu c->¬ ∃ t,(g1 t≠none/\fo t c):=λc aa ⟨t,_,aJ⟩=>(sJ t c aJ).2 aa;have Di:∀ t c,bV t c->¬ cu c:=by
  intro t c aa aT;rcases bU.own c ⟨t,aa⟩ with aJ | aJ
  ·exact xZ c aT aJ
  ·have:=w8 c aT; omega
 have K1:∀ c,cu c->¬ I' c:=by
  intro c aa hi;rcases bU.new c hi with aJ | aJ | aJ
  ·exact IX c aa aJ
  ·exact xZ c aa aJ
  ·have:=w8 c aa; omega
 have Lq:∀ c,cu c->w'.heap[c]?=w.heap[c]?:=λc aa=>bU.dK.block c (w8 c aa) (xZ c aa);have rK:∀ c,I c->w'.heap[c]?=w.heap[c]?:=λc aa=>bU.dK.block c (h.lt c aa) λ⟨t,_,aJ⟩=>h.bd t c (sJ t c aJ).1 aa;have B5:R w' I' (fh w' b'.tmps) y v2 cu:=((ds.bk xF).frame rK bU.more (λ_ _ h=>h) Lq);obtain ⟨Mb,I7,IS,IT⟩:=Le y cu B5 (λc aa aT=>(Di _ c aT aa).elim) (λc aa=>K1 c aa) (λt c _ aa aT=>Di t c aT aa) (λi e=>absurd e (ln i));have s3:=I7.keep JD;refine cZ b' w' ⟨b9,b3,I',_,s3,⟨?_,bU.more,λc aa=>?_,λc aa=>?_⟩⟩ s8 λc' path aq y' o9 afd=>?_
 ·exact bU.dK.mono λb _ ⟨t,_,aJ⟩=>⟨t,(sJ t b aJ).1⟩
 ·rcases bU.new c aa with aJ | ⟨t,_,aJ⟩ | aJ
  ·exact .inl aJ
  ·exact .inr (.inl ⟨t,(sJ t c aJ).1⟩)
  ·exact .inr (.inr aJ)
 ·obtain ⟨t,_,aa⟩:=aa;have:(∃ t,bV t c)\/cu c:=by
   by_cases ar:t=r
   ·subst ar;rcases (IS c).1 aa with ⟨aJ,_⟩ | aJ
    ·exact .inl ⟨_,aJ⟩
    ·exact .inr aJ
   ·rw [IT t ar] at aa; exact .inl ⟨t,aa⟩
  rcases this with aJ | aJ
  ·rcases bU.own c aJ with ⟨t,_,gV⟩ | gV
   ·exact .inl ⟨t,(sJ t c gV).1⟩
   ·exact .inr gV
  ·exact .inl ⟨r,c_ c aJ⟩
 ·have aq:(⟨c',path⟩:Place)∈[(⟨r,[k0]⟩:Place)]:=aq;have aq:=List.mem_singleton.1 aq;cases aq;rw [hv,s9]
end
section
variable {α:Type}{P:Program}{N:cN}{g:aL}{ops:Array Oper}{l:List Oper}{K:aL->Prop}{r n:Nat}{t e ty:TypeId}{a b:Operand}{m:Int}{en:bN α}{L:List α}{y y2:α}{k:IntKind}{pos:String}{after:Array Edge}
def xG {α:Type}(n:Nat) (l:List α) (i:Int):Option α:=if i<n then idx l i else none
theorem Km (h:xG n L m=some y):m<n/\idx L m=some y:=by
 unfold xG at h
 split at h
 ·exact ⟨by assumption,h⟩
 ·cases h
theorem S7 (aX:Nat.blt 0 en.z=true) (h:idx L m=some y):m.toNat * en.z<(bA en L).length:=by
 obtain ⟨aK,h1,_⟩:=mi h;rw [oR];exact Nat.mul_lt_mul_of_pos_right (by omega) (by simpa using aX)
theorem O.Ps (aw:g r=some (.obj (bA en L))) (aX:Nat.blt 0 en.z=true) (hi:Rd g b (.lit (.int k m))) (ar:zc P t e n en.z=true) (h:xG n L m=some y):bT P g (.indexAddr t (.tmp r) b) ty (.ptr ⟨r,[]⟩ (m.toNat * en.z)):=by
 obtain ⟨h1,af⟩:=Km h;have aN:=S7 aX af;obtain ⟨aK,_,_⟩:=mi af;have J:Own.bs g (.tmp r)=some (.ptr ⟨r,[]⟩ 0):=by
  cases aa:bA en L with
  | nil=>rw [aa] at aN; simp at aN
  | cons c cs=>simp [Own.bs,aw,aa,pg,fW]
 have hm:((m.toNat:Nat):Int)=m:=by omega
 have:=df.FJ (P:=P) (g:=g) (ty:=ty) (k:=0) (j:=m.toNat) J (by rw [hm]; exact hi.bs) ar (by omega) ⟨.obj (bA en L),by simp [bG,aw,ab.at],0,0,_,.inr rfl,by rw [Nat.zero_add]; exact aN⟩;rw [Nat.zero_add] at this;exact .ew this
theorem O.YV {x:ab}(aw:g r=some (.obj (bA en L))) (aI:Rd g a (.ptr ⟨r,[]⟩ (m.toNat * en.z))) (h:idx L m=some y) (J:(en.cells y)[0]?=some x) (ar:j0 P t=true) (aB:∀ p,fW 0 p x=x):bT P g (.load t a) ty x:=by
 have:=Ll en h J;rw [Nat.add_zero] at this;exact O.qC aw aI ar this (aB _)
theorem aE.aas {L1:ab}{cs':List ab}{G2:List (Nat × ab)}(aw:g r=some (.obj (bA en L))) (aX:Nat.blt 0 en.z=true) (aI:Rd g a (.ptr ⟨r,[]⟩ (m.toNat * en.z))) (au:Rd g b L1) [aB:b6 L1] (h:idx L m=some y) (aa:o1 L1=some cs') (eS:cs'=en.cells y2) (fz:hq P t cs'.length=true)
  (hr:(get G2 r).isSome=true) (cY:lh g (get G2) r (bA en (L.set m.toNat y2)) G2) (hk:aE P N ops l (get G2) K):aE P N ops (⟨none,.store t a b,ty,pos,after,none⟩::l) g K:=by
 have hlen:cs'.length=en.z:=by rw [eS,en.len]
 obtain ⟨aK,h1,_⟩:=mi h;refine .j_ aw aI au aa fz ?_ ?_ ?_ hr cY hk
 ·rw [hlen,oR];simp only [Nat.ble_eq];have:(m.toNat+1) * en.z<=L.length * en.z:=Nat.mul_le_mul_right _ (by omega);rw [Nat.add_mul,Nat.one_mul] at this;exact this
 ·rw [hlen]; exact aX
 ·have:=Lk en h (o:=0) (cs':=cs') (y2:=y2) (by
   subst eS;have ah:(en.cells y2).length=(en.cells y).length:=by rw [en.len,en.len]
   unfold eX;rw [List.take_zero,List.nil_append,Nat.zero_add,ah,List.drop_length,List.append_nil]) (by omega)
  rw [Nat.add_zero] at this;exact this
end
end Go.Own
namespace Go.Own
open Go Go.Proofs Go.Shelf Go.Lib Go.Sort
variable [cE]
section
variable {P:Program}{w:World}
class oo {α:Type}(e:bN α) where
 sM:α->List Value
 cells:∀ a,e.cells a=(sM a).map .lit
 one:∀ a,∀ v∈sM a,v.oneCell'=true
variable {α:Type}{e:bN α}
theorem oo.len [h:oo e] (a:α):(h.sM a).length=e.z:=by
 have:=e.len a;rw [h.cells,List.length_map] at this;exact this
def pC (e:bN α) [h:oo e] (l:List α):List Value:=l.flatMap h.sM
theorem GJ [h:oo e]:∀ l:List α,bA e l=(pC e l).map .lit
 | []=>rfl
 | a::l=>by
  have:bA e (a::l)=e.cells a++bA e l:=by simp [bA]
  rw [this,GJ l,h.cells];simp [pC]
theorem IE [h:oo e] (l:List α):(pC e l).length=l.length * e.z:=by
 have:=oR e l;rw [GJ,List.length_map] at this;exact this
theorem NI [h:oo e] {l:List α}:∀ v∈pC e l,v.oneCell'=true:=by
 intro v hv;obtain ⟨a,_,hv⟩:=List.mem_flatMap.1 hv;exact h.one a v hv
theorem NH [h:oo e]:∀ (l:List α) (i j:Nat) (a:α),l[i]?=some a->j<e.z->(pC e l)[i * e.z+j]?=(h.sM a)[j]?
 | [],i,j,a,aI,_=>by simp at aI
 | b::l,0,j,a,aI,ag=>by
  simp only [List.getElem?_cons_zero,Option.some.injEq] at aI;subst aI;simp only [pC,List.flatMap_cons,Nat.zero_mul,Nat.zero_add];rw [List.getElem?_append_left (by rw [oo.len]; exact ag)]
 | b::l,i+1,j,a,aI,ag=>by
  simp only [List.getElem?_cons_succ] at aI;have:=NH l i j a aI ag;simp only [pC,List.flatMap_cons] at this ⊢;rw [List.getElem?_append_right (by rw [oo.len,Nat.add_mul]; omega),oo.len,<- this];congr 1;rw [Nat.add_mul]; omega
theorem NG {β:Type} [Inhabited β] [h:oo e] (f:β->α) (d:Array β):(flatK (λx=>h.sM (f x)) e.z d).toList=pC e (d.toList.map f):=by
 apply List.ext_getElem?;intro t;by_cases ar:t<d.size * e.z
 ·have aX:0<e.z:=by
   rcases Nat.eq_zero_or_pos e.z with aK | aK
   ·rw [aK] at ar; omega
   ·exact aK
  have h1:t / e.z<d.size:=Nat.div_lt_of_lt_mul (by rw [Nat.mul_comm]; exact ar);have af:t % e.z<e.z:=Nat.mod_lt _ aX;have aI:(d.toList.map f)[t / e.z]?=some (f d[t / e.z]!):=by
   rw [List.getElem?_map,Array.getElem?_toList,Array.getElem?_eq_getElem h1,getElem!_pos d _ h1]; rfl
  have:=NH (e:=e) _ (t / e.z) (t % e.z) _ aI af;rw [Nat.mul_comm,Nat.div_add_mod] at this;rw [this,Array.getElem?_toList,Array.getElem?_eq_getElem (by simpa using ar),<- getElem!_pos (flatK (λx=>h.sM (f x)) e.z d) t (by simpa using ar),get_flatK _ _ _ _ ar];have aD:t % e.z<(h.sM (f d[t / e.z]!)).length:=by rw [oo.len]; exact af
  rw [getElem!_pos (h.sM (f d[t / e.z]!)) (t % e.z) aD,List.getElem?_eq_getElem aD]
 ·rw [List.getElem?_eq_none (by simp; omega),List.getElem?_eq_none (by rw [IE,List.length_map,Array.length_toList]; omega)]
theorem Re [fK:oo e] {vs:List Value}{v0 v1:Value}(xz:vs=[v0,v1]) {I:a'}{Fs:Nat->a'}{g:aL}(bh:cA w I vs.toArray g Fs) {w':World}{t:TypeId}{r:List α}(aW:w'.ownsRow 0 t e.z v0 r.length (pC e r)) (aH:∀ c,Fs 0 c↔v0.ownBlock=some c) (kn:Fr w w' λc=>Fs 0 c) :
  ∃ v I' bV,Ending.returned (.tuple #[])=.returned v/\cA w' I' (vs++[v]).toArray (kH [some (aC e r),none] (.bS [])) bV/\kS w I (λc=>∃ t,Fs t c) w' I' (λc=>∃ t,bV t c):=by
 subst xz;refine ⟨_,I,λt=>if t=0 then Fs 0 else cj,rfl,⟨λt x J=>?_,λt ar c aa=>?_,λt t' c aa ep=>?_,λt c aa=>?_,λc aa=>Nat.lt_of_lt_of_le (bh.lt c aa) kn.size,λt t' z p n m new bR cr m' cL h1 af=>?_,cE.keep bh.hP (λc aa=>kn.block c (bh.lt c aa) λh=>bh.bd 0 c h aa) λ_ h=>h⟩,⟨?_,λc h=>h,λc h=>.inl h,λc aa=>?_⟩⟩
 ·unfold kH at J
  split at J
  ·rename_i ar;have ar:t=2:=ar;subst ar;cases J;exact ⟨.tuple #[],rfl,.tree (.bS (Fs:=λ_=>cj) rfl (λk x u h=>by simp at h) (λj k c h=>by simp at h) (λc=>⟨λh=>h.elim,λ⟨k,h,_⟩=>by simp at h⟩))⟩
  ·match t,J with
   | 0,J =>
    cases J;refine ⟨v0,rfl,.tree ?_⟩;show R w' I _ (.own e.z r.length (bA e r)) v0 (Fs 0);rw [GJ];refine .own (Fs:=λ_=>cj) aW (by simp) (λk u hu=>NI u (List.mem_of_getElem? hu)) (λk x u J hu=>?_) (λ_ _ _ _ _ h=>h.elim) (λ_ _ _ h=>h.elim) (λc=>⟨λh=>.inl ((aH c).1 h),λh=>?_⟩)
    ·rw [List.getElem?_map,hu] at J;cases J;exact .lit (NI u (List.mem_of_getElem? hu)) λ_ h=>h
    ·rcases h with h | ⟨_,_,h⟩
     ·exact (aH c).2 h
     ·exact h.elim
   | 1,J=>cases J
   | t+2,J=>cases J
 ·have aK:¬ t=0:=λe=>by subst e; exact absurd ar (by simp [kH])
  simp only [if_neg aK] at aa;exact aa
 ·have key:∀ {t:Nat},(if t=0 then Fs 0 else cj) c->t=0:=λ{t} h=>by
   by_cases aK:t=0
   ·exact aK
   ·rw [if_neg aK] at h; exact h.elim
  rw [key aa,key ep]
 ·by_cases aK:t=0
  ·simp only [if_pos aK] at aa; exact bh.bd 0 c aa
  ·simp only [if_neg aK] at aa; exact aa.elim
 ·unfold kH at h1
  split at h1
  ·cases h1
  ·match t,h1 with
   | 0,h1=>cases h1
   | 1,h1=>cases h1
   | t+2,h1=>cases h1
 ·exact kn.mono λb _ au=>⟨0,au⟩
 ·obtain ⟨t,ar⟩:=aa;by_cases aK:t=0
  ·simp only [if_pos aK] at ar; exact .inl ⟨0,ar⟩
  ·simp only [if_neg aK] at ar; exact ar.elim
theorem bO.aaS [DecidableEq α] [vm:oo e] {ρ:Ren}(L:SlLaysF0.n6 P ρ) (Sy:∀ w,(isAgg (ρ.t 24)).run P w=.ok true w) (abY:∀ w,(Go.sizeOf (ρ.t 24)).run P w=.ok e.z w) {g:FuncId}{caps:List ab} [pJ:dk caps] (aP:hx P g=true) {l r:List α}{fC:α->α->Option Int}(h:pZ fC l=some r)
  (aa:∀ a b v,fC a b=some v->bO P g (.agg (e.cells a)::.agg (e.cells b)::caps) (none::none::caps.map λ_=>none) (ae v)) :
  bO P (ρ.f 6) [aC e l,.cD (.func g) [] caps] [some (aC e r),none] (.bS []):=by
 refine ⟨rfl,λw I vs Fs ah bh=>?_⟩;obtain ⟨v0,v1,rfl⟩:∃ v0 v1,vs=[v0,v1]:=by
  match vs,ah with
  | [a,b],_=>exact ⟨a,b,rfl⟩
 obtain ⟨xv,j4,J1,rfl⟩:=Rb h;obtain ⟨u,hu,aY⟩:=bh.rel 0 (aC e l) rfl;obtain rfl:v0=u:=by simpa using hu
 replace aY:=aY.gp (by simp);obtain ⟨u,hu,ql⟩:=bh.rel 1 (.cD (.func g) [] caps) rfl;obtain rfl:v1=u:=by simpa using hu
 replace ql:=ql.gp (by simp);rw [show aC e l=.own e.z l.length (bA e l) from rfl,GJ] at aY
 cases aY with
 | ref J=>simp [ab.isRef] at J
 | @own _ _ _ _ t us bH _ aW xo hh hr aO au aH =>
 cases ql with
 | ref J=>simp [ab.isRef] at J
 | @cD _ _ _ av kf _ w6 h1 af iU hz =>
 obtain rfl:av=#[]:=Array.eq_empty_of_size_eq_zero (by simpa using h1.symm);have mG:∀ c,Fs 0 c↔v0.ownBlock=some c:=by
  intro c;refine ⟨λaa=>?_,λaa=>(aH c).2 (.inl aa)⟩;rcases (aH c).1 aa with h | ⟨k,hk,h⟩
  ·exact h
  ·have J:=List.getElem?_eq_getElem hk;have hu:=List.getElem?_eq_getElem (xo ▸ hk);have aY:=hr k _ _ J hu;rw [List.getElem_map] at aY;generalize us[k]=gq at aY;cases aY with
   | lit _ aT=>exact (aT c h).elim
   | ref J=>simp [ab.isRef] at J
 have ny:us=pC e l:=by
  apply List.ext_getElem?;intro k;by_cases hk:k<us.length
  ·have ig:k<((pC e l).map ab.lit).length:=xo.symm ▸ hk;have J:=List.getElem?_eq_getElem ig;have hu:=List.getElem?_eq_getElem hk;have aY:=hr k _ _ J hu;rw [List.getElem_map] at aY;rw [hu,aY.hB.1,List.getElem?_eq_getElem (by simpa using ig)]
  ·rw [List.getElem?_eq_none (by omega),List.getElem?_eq_none (by rw [List.length_map] at xo; omega)]
 subst ny;have Cy:=tc (kG fC) l;have hlen:=Cy.length_eq;by_cases xq:l=[]
 ·subst xq;have h9:∃ p cap,v0=.slice p 0 cap:=by
   rcases aW.2 with ⟨rfl,_⟩ | ⟨b,cap,cur,rfl,_⟩
   ·exact ⟨_,_,rfl⟩
   ·exact ⟨_,_,rfl⟩
  obtain ⟨p,cap,rfl⟩:=h9;refine (AnyF.slices_SortFunc_none L p cap _ w).mono ?_;rintro b1 w' ⟨rfl,rfl⟩;exact Re rfl bh (t:=t) (r:=[]) aW mG (Fr.refl _ _)
 ·obtain ⟨OE,Jl⟩:=aW;rcases Jl with ⟨rfl,aK⟩ | ⟨b,cap,cur,rfl,_,ue,hle,JS,fz,fA⟩
  ·exact absurd (List.eq_nil_of_length_eq_zero aK) xq
  have uc:Fs 0 b:=(mG b).2 rfl;have Ji:b<w.heap.size:=(Array.getElem?_eq_some_iff.1 ue).1;obtain ⟨a0,B8⟩:=List.exists_mem_of_ne_nil l xq
  let β:={ x:α // x∈l }
  haveI:Inhabited β:=⟨⟨a0,B8⟩⟩
  let enc:β->List Value:=λx=>vm.sM x.1
  let kX:β->β->Int:=λx y=>(fC x.1 y.1).getD 0;have aN:∀ x y:β,ltOf kX x y=kG fC x.1 y.1:=λx y=>rfl
  let d:Array β:=l.attach.toArray;have Ol:d.toList.map Subtype.val=l:=by
   show (l.attach.toArray).toList.map Subtype.val=l;simp
  have zD:d.size=l.length:=by show (l.attach.toArray).size=l.length; rw [List.size_toArray,List.length_attach]
  have iV:=Qc j4;have hO:SWO (ltOf kX):=by
   refine ⟨λx=>by rw [aN]; exact (iV x.1 x.2).1,λx y z=>?_,λx y z=>?_⟩
   ·rw [aN,aN,aN];exact λp q=>(((iV x.1 x.2).2 y.1 y.2).2 z.1 z.2).1 ⟨p,q⟩
   ·rw [aN,aN,aN];intro p q;rcases (((iV x.1 x.2).2 y.1 y.2).2 z.1 z.2).2 with h | h | h
    ·rw [p] at h; cases h
    ·rw [q] at h; cases h
    ·exact h
  have cU:∀ x y:β,ltOf kX x y=false->ltOf kX y x=false->x=y:=by
   intro x y p q;rw [aN] at p q;rcases ((iV x.1 x.2).2 y.1 y.2).1 with h | h | h
   ·rw [p] at h; cases h
   ·rw [q] at h; cases h
   ·exact Subtype.ext h
  have mK:(flatK enc e.z d).toList=pC e l:=by
   have:=NG (e:=e) (λx:β=>x.1) d;rw [Ol] at this;exact this
  have hH:HoldsK enc e.z w b 0 d:=by
   intro j ag;have xm:j<(pC e l).length:=by rw [<- mK,Array.length_toList]; exact ag
   refine ⟨?_,?_⟩
   ·unfold World.cell?;simp only [ue,Nat.zero_add];show cur[j]?=_;have h1:=congrArg (λt=>t[j]?) fA;have zK:j<l.length * e.z:=by rw [<- IE (e:=e)]; exact xm
    simp only [List.getElem?_take,if_pos zK,Array.getElem?_toList] at h1;rw [h1,<- mK,Array.getElem?_toList,Array.getElem?_eq_getElem ag,getElem!_pos (flatK enc e.z d) j ag];rfl
   ·unfold World.frozen?;simp only [ue];simp
  have Iv:∀ args w,(callFunc g args).run P w=.ok (.enter g args) w:=λargs w=>zp aP args;have N_:∀ (W:World) (I:a') (ρ':ab->Value->Prop) (a:α),R W I ρ' (.agg (e.cells a)) (.agg (vm.sM a).toArray) λ_=>False:=by
   intro W I ρ' a;rw [vm.cells];refine .agg (Fs:=λ_=>cj) (by simp) (λk u hu=>vm.one a u ?_) (λk x u J hu=>?_) (λ_ _ _ _ _ h=>h.elim) (λc=>⟨λh=>h.elim,λ⟨_,_,h⟩=>h.elim⟩)
   ·rw [List.getElem?_toArray] at hu; exact List.mem_of_getElem? hu
   ·rw [List.getElem?_toArray] at hu;rw [List.getElem?_map,hu] at J;cases J;exact .lit (vm.one a u (List.mem_of_getElem? hu)) λ_ h=>h
  have Jo:CmpLays P g kf enc e.z kX b 0 d.size w:=by
   intro m os BJ Ch x y;have sj:=xv x.1 x.2 y.1 y.2;obtain ⟨v,hv⟩:=Option.isSome_iff_exists.1 sj;have Jm:kX x y=v:=by show (fC x.1 y.1).getD 0=v; rw [hv]; rfl
   show Calls P g _ (sortWorld id w b 0 m (flatK enc e.z BJ) os) λb1 w'=>_/\∃ q Zp,w'=grow ((sortWorld id w b 0 m (flatK enc e.z BJ) os).drewN q) Zp;have I_:cA (sortWorld id w b 0 m (flatK enc e.z BJ) os) I #[] (λ_=>none) (λ_=>cj):=by
    refine ⟨λ_ _ h=>(by cases h),λ_ _ _ h=>h,λ_ _ _ h=>h.elim,λ_ _ h=>h.elim,λc aa=>?_,λ_ _ _ _ _ _ _ _ _ _ _ h=>(by cases h),cE.keep bh.hP (λc aa=>(E' (U:=λc=>Fs 0 c) uc).block c (bh.lt c aa) λh=>bh.bd 0 c h aa) λ_ h=>h⟩;have:=bh.lt c aa;unfold sortWorld;rw [size_grow,Go.Sort.size_putRow];exact Nat.lt_of_lt_of_le this (Nat.le_add_right _ _)
   have jG:=I_.args (I':=I) (λ_ h=>h) (λc h=>.inl h) (args:=.agg (e.cells x.1)::.agg (e.cells y.1)::caps) (vs:=.agg (enc x).toArray::.agg (enc y).toArray::kf.toList) (by simp [af]) (λρ' k z u aX hu=>?_)
   ·have pI:=(aa x.1 y.1 v hv).2 _ I (.agg (enc x).toArray::.agg (enc y).toArray::kf.toList) _ (by simp [af]) jG;have kZ:(.agg (enc x).toArray::.agg (enc y).toArray::kf.toList).toArray=#[.agg (enc x).toArray,.agg (enc y).toArray]++kf:=by
     apply Array.ext';simp
    rw [kZ] at pI;refine pI.mono ?_;rintro b1 w' ⟨dH,I',bV,rfl,dM,bU⟩;obtain ⟨u,hu,nu⟩:=dM.rel (caps.length+2) (ae v) (by simp [kH]);have J_:u=dH:=by
     have:(Value.agg (enc x).toArray::.agg (enc y).toArray::kf.toList).length=caps.length+2:=by simp [af]
     rw [List.getElem?_toArray,<- this] at hu;simpa using hu.symm
    subst J_;have oF:=(nu.gp (by simp)).hB.1;subst oF;refine ⟨by rw [Jm],?_⟩;exact NR (bU.dK.mono λc _ ⟨_,bP⟩=>bP)
   ·match k,aX,hu with
    | 0,aX,hu=>cases aX; cases hu; exact N_ _ _ _ x.1
    | 1,aX,hu=>cases aX; cases hu; exact N_ _ _ _ y.1
    | k+2,aX,hu =>
     simp only [List.getElem?_cons_succ] at aX hu;have zy:=(hz k z u aX (by simpa using hu)).bk (ρ':=ρ') (pJ.bk z (List.mem_of_getElem? aX));refine zy.frame (λc aa=>?_) (λ_ h=>h) (λ_ _ h=>h) (λc h=>h.elim);exact Jr (bh.lt c aa) λe=>bh.bd 0 c (e ▸ uc) aa
  have Cp:=AnyQ.slices_SortFunc_total L e.z Sy abY enc (λx=>oo.len x.1) (λx v hv=>vm.one x.1 v hv) kX hO g kf b 0 cap d w Iv Jo hH Ji (by rw [zD]; exact J1) cU;rw [zD] at Cp;refine Cp.mono ?_;rintro b1 w' ⟨rfl,n,os,rfl⟩;have nz:(d.toList.mergeSort λx y=>!ltOf kX y x).map Subtype.val=h_ (kG fC) l:=by
   rw [Pp hO cU];have hm:(h_ (ltOf kX) l.attach).map Subtype.val=h_ (kG fC) (l.attach.map Subtype.val):=FP (lt:=ltOf kX) (lt':=kG fC) (f:=Subtype.val) (λa b=>aN a b) l.attach;rw [List.attach_map_subtype_val] at hm;exact hm
  generalize afb:(d.toList.mergeSort λx y=>!ltOf kX y x)=ms at nz;have XB:ms.length=l.length:=by rw [<- hlen,<- nz,List.length_map]
  have Ju:(flatK enc e.z ms.toArray).toList=pC e (h_ (kG fC) l):=by
   have:=NG (e:=e) (λx:β=>x.1) ms.toArray;rw [show (ms.toArray).toList.map (λx:β=>x.1)=h_ (kG fC) l from nz] at this
   exact this
  have s4:(flatK enc e.z ms.toArray).size=l.length * e.z:=by rw [size_flatK,List.size_toArray,XB]
  refine Re rfl bh (t:=t) (r:=h_ (kG fC) l) ⟨IE _,.inr ⟨b,cap,_,by rw [hlen],Nat.zero_le _,Oq (enc:=id) ue,by omega,JS,?_,?_⟩⟩ mG (E' (enc:=id) uc)
  ·rw [<- fz];simp [putCells]
  ·rw [hlen,<- s4,Qx (by rw [s4,fz]; exact Nat.mul_le_mul_right _ hle),List.map_id,Ju]
end
end Go.Own
namespace Go.Own
open Go
variable [cE]
section
variable {α:Type}{P:Program}{N:cN}{g:aL}{d r:Nat}
end
end Go.Own
namespace Go.Own
open Go Go.Proofs Go.Shelf Go.Lib Go.Sort
variable [cE]
section
variable {α:Type} [DecidableEq α]
end
section
variable {α:Type}{e:bN α}{P:Program}{w:World}
variable [DecidableEq α] [Inhabited α]
end
end Go.Own
namespace Go.Proofs
open Go.Shelf Go.RowKit Go.Lib Go.Sort
variable {α:Type} [Inhabited α] [DecidableEq α]
namespace Two
open Go.Own
variable [cE]
variable {P:Program}{t:TypeId}
end Two
end Go.Proofs
namespace Go.Own
open Go Go.Proofs Go.Shelf Go.Lib Go.Sort
variable [cE]
def yu (k:IntKind) (m n:Int):Int:=m.fdiv (2 ^ (min n.toNat k.bits))
theorem O.shr {P:Program}{g:aL}{t t2 ty:TypeId}{a b:Operand}{k j8:IntKind}{m n:Int}(J:Rd g a (.lit (.int k m))) (ao:Rd g b (.lit (.int j8 n))) (h:decide (0<=n)=true):bT P g (.binOp .shr t a b t2) ty (.lit (.int k (yu k m n))):=by
 have aK:¬ n<0:=by have:=of_decide_eq_true h; omega
 exact .ew (.bin J.bs ao.bs rfl λw=>by simp [eqGuard,binOp,Op.shift,aK,yu])
theorem abP {P:Program}{w:World}{ops:Array Oper}{rest:List Oper}{o:Oper}{a:Act}{Q:Exit->Act->World->Prop}(pK:o.guard=none) (s x:Operand) (t:TypeId)
  (aW:o.op=.call { callee:=.builtin .append,args:=#[s,x],argTypes:=#[t,t] }) (e:TypeId) (i:TypeInfo) (z:Value) (ar:P.underlying t=some (.slice e)) (hi:P.info? e=some i) (aX:i.zero=some z) (lT:z.cells.size=i.size) (fz:0<i.size)
  (v:Value) (n:Nat) (xs:List Value) (aw:a.eval s=v) (Cw:w.ownsRow 0 e i.size v n xs)
  (ad:Addr) (m c:Nat) (news:List Value) (J:a.eval x=.slice (some ad) m c) (ah:news.length=m * i.size) (sf:∀ j u,news[j]?=some u->w.cell? (ad.add j)=some u) (h1:∀ u∈news,u.oneCell'=true)
  (o3:n+m<=maxLen) (zB:(n+m) * i.bytes<=140737488355328)
  (h:∀ dH w' b3,A8 w w' v dH e b3 i.size n m xs news->wpList P ops Q rest (a.put o.dst dH) w'):wpList P ops Q (o::rest) a w :=
 wpList_plain pK λ_ cZ=>by
  obtain ⟨dH,w',b3,hr,dI⟩:=GK (P:=P) (w:=w) t o.type e e i z ar hi aX lT fz Cw (a:=some ad) (m:=m) (c:=c) (λ_=>rfl) ah (λMv e=>by cases e; exact sf) h1 o3 zB;unfold Oper.wp execOp;simp only [aW,resolve,invoke,builtin,Sem.run_bind,Sem.run_pure,Result.andThen_ok,List.map_toArray,List.map_cons,List.map_nil,aw,J,hr];exact cZ _ _ (h dH w' b3 dI)
def E4 {α:Type}(l:List α):Option (List α):=if l.length<=1000000000000 then some l else none
section
variable {α:Type}{e:bN α}{P:Program}{w:World}
end
end Go.Own
namespace Go.Own
open Go
variable [cE]
section
variable {α:Type}{P:Program}{N:cN}{g:aL}{d r:Nat}
end
theorem q {α:Sort _}{a:α}:a=a:=rfl
abbrev bn:ByteArray:=⟨#[]⟩
theorem pW {p:Prop} [Decidable p] (h:decide p=true):p:=of_decide_eq_true h
theorem l3 {b:Bool}{g h:aL}{e9 s1:Nat}{dU aR:ab}(aK:g e9=some dU) [b6 dU] (h1:g s1=some aR) [b6 aR]:Trim b g h [(e9,dU),(s1,aR)]:=(.n aK (.n h1 .nil))
theorem og {b:Bool}{g h:aL}{e9 s1 s2:Nat}{dU aR x2:ab}(aK:g e9=some dU) [b6 dU] (h1:g s1=some aR) [b6 aR] (af:g s2=some x2) [b6 x2]:Trim b g h [(e9,dU),(s1,aR),(s2,x2)]:=(.n aK (.n h1 (.n af .nil)))
theorem p0 {b:Bool}{g h:aL}{e9 s1 s2 eD:Nat}{dU aR x2 a7:ab}(aK:g e9=some dU) [b6 dU] (h1:g s1=some aR) [b6 aR] (af:g s2=some x2) [b6 x2] (aD:g eD=some a7) [b6 a7]:Trim b g h [(e9,dU),(s1,aR),(s2,x2),(eD,a7)]:=(.n aK (.n h1 (.n af (.n aD .nil))))
theorem l4 {b:Bool}{g h:aL}{e9 s1 s2 eD da:Nat}{dU aR x2 a7 bl:ab}(aK:g e9=some dU) [b6 dU] (h1:g s1=some aR) [b6 aR] (af:g s2=some x2) [b6 x2] (aD:g eD=some a7) [b6 a7] (bm:g da=some bl) [b6 bl]:Trim b g h [(e9,dU),(s1,aR),(s2,x2),(eD,a7),(da,bl)]:=(.n aK (.n h1 (.n af (.n aD (.n bm .nil)))))
theorem rP {b:Bool}{g h:aL}{e9 s1 s2 eD da b2:Nat}{dU aR x2 a7 bl bW:ab}(aK:g e9=some dU) [b6 dU] (h1:g s1=some aR) [b6 aR] (af:g s2=some x2) [b6 x2] (aD:g eD=some a7) [b6 a7] (bm:g da=some bl) [b6 bl] (b7:g b2=some bW) [b6 bW]:Trim b g h [(e9,dU),(s1,aR),(s2,x2),(eD,a7),(da,bl),(b2,bW)]:=(.n aK (.n h1 (.n af (.n aD (.n bm (.n b7 .nil))))))
theorem G6 {b:Bool}{g h:aL}{e9 s1 s2 eD da b2 cI:Nat}{dU aR x2 a7 bl bW bz:ab}(aK:g e9=some dU) [b6 dU] (h1:g s1=some aR) [b6 aR] (af:g s2=some x2) [b6 x2] (aD:g eD=some a7) [b6 a7] (bm:g da=some bl) [b6 bl] (b7:g b2=some bW) [b6 bW] (dp:g cI=some bz) [b6 bz]:Trim b g h [(e9,dU),(s1,aR),(s2,x2),(eD,a7),(da,bl),(b2,bW),(cI,bz)]:=(.n aK (.n h1 (.n af (.n aD (.n bm (.n b7 (.n dp .nil)))))))
theorem abj {b:Bool}{g h:aL}{e9 s1 s2 eD da b2 cI gb:Nat}{dU aR x2 a7 bl bW bz bq:ab}(aK:g e9=some dU) [b6 dU] (h1:g s1=some aR) [b6 aR] (af:g s2=some x2) [b6 x2] (aD:g eD=some a7) [b6 a7] (bm:g da=some bl) [b6 bl] (b7:g b2=some bW) [b6 bW] (dp:g cI=some bz) [b6 bz] (kC:g gb=some bq) [b6 bq]:Trim b g h [(e9,dU),(s1,aR),(s2,x2),(eD,a7),(da,bl),(b2,bW),(cI,bz),(gb,bq)]:=(.n aK (.n h1 (.n af (.n aD (.n bm (.n b7 (.n dp (.n kC .nil))))))))
theorem afC {b:Bool}{g h:aL}{e9 s1 s2 eD da b2 cI gb ei:Nat}{dU aR x2 a7 bl bW bz bq bE:ab}(aK:g e9=some dU) [b6 dU] (h1:g s1=some aR) [b6 aR] (af:g s2=some x2) [b6 x2] (aD:g eD=some a7) [b6 a7] (bm:g da=some bl) [b6 bl] (b7:g b2=some bW) [b6 bW] (dp:g cI=some bz) [b6 bz] (kC:g gb=some bq) [b6 bq] (w5:g ei=some bE) [b6 bE]:Trim b g h [(e9,dU),(s1,aR),(s2,x2),(eD,a7),(da,bl),(b2,bW),(cI,bz),(gb,bq),(ei,bE)]:=(.n aK (.n h1 (.n af (.n aD (.n bm (.n b7 (.n dp (.n kC (.n w5 .nil)))))))))
theorem abh {b:Bool}{g h:aL}{e9 s1 s2 eD da b2 cI gb ei oS:Nat}{dU aR x2 a7 bl bW bz bq bE cm:ab}(aK:g e9=some dU) [b6 dU] (h1:g s1=some aR) [b6 aR] (af:g s2=some x2) [b6 x2] (aD:g eD=some a7) [b6 a7] (bm:g da=some bl) [b6 bl] (b7:g b2=some bW) [b6 bW] (dp:g cI=some bz) [b6 bz] (kC:g gb=some bq) [b6 bq] (w5:g ei=some bE) [b6 bE] (BV:g oS=some cm) [b6 cm]:Trim b g h [(e9,dU),(s1,aR),(s2,x2),(eD,a7),(da,bl),(b2,bW),(cI,bz),(gb,bq),(ei,bE),(oS,cm)]:=(.n aK (.n h1 (.n af (.n aD (.n bm (.n b7 (.n dp (.n kC (.n w5 (.n BV .nil))))))))))
theorem abi {b:Bool}{g h:aL}{e9 s1 s2 eD da b2 cI gb ei oS eT:Nat}{dU aR x2 a7 bl bW bz bq bE cm b5:ab}(aK:g e9=some dU) [b6 dU] (h1:g s1=some aR) [b6 aR] (af:g s2=some x2) [b6 x2] (aD:g eD=some a7) [b6 a7] (bm:g da=some bl) [b6 bl] (b7:g b2=some bW) [b6 bW] (dp:g cI=some bz) [b6 bz] (kC:g gb=some bq) [b6 bq] (w5:g ei=some bE) [b6 bE] (BV:g oS=some cm) [b6 cm] (VE:g eT=some b5) [b6 b5]:Trim b g h [(e9,dU),(s1,aR),(s2,x2),(eD,a7),(da,bl),(b2,bW),(cI,bz),(gb,bq),(ei,bE),(oS,cm),(eT,b5)]:=(.n aK (.n h1 (.n af (.n aD (.n bm (.n b7 (.n dp (.n kC (.n w5 (.n BV (.n VE .nil)))))))))))
section
variable {P:Program}{N:cN}{ops:Array Oper}{g:aL}{K:aL->Prop}{l:List Oper}{d t:Nat}{ty:TypeId}{pos:String}{after:Array Edge}{v:Value}
theorem j' {G1:List (Nat × ab)}(h:Trim true g (get G1) G1):aE P N ops [] g λg'=>np g' (get G1):=.fin h
theorem cK (h:g t=some (.lit v)) (hk:aE P N ops l (cR g d (.lit v)) K) (bp:N.ok d=true:=by rfl) (aT:g d=none:=by rfl):aE P N ops (⟨some d,.move (.tmp t),ty,pos,after,none⟩::l) g K:=ak (O.aS (.lit h)) hk bp aT
theorem Hy (h:g t=some (.lit v)) (hk:aE P N ops l (cR g d (.lit v)) K) (bp:N.ok d=true:=by rfl) (aT:g d=none:=by rfl):aE P N ops (⟨some d,.assign (.tmp t),ty,pos,after,none⟩::l) g K:=ak (O.az (.lit h)) hk bp aT
theorem Ss (h:ofConst v=.lit v) (hk:aE P N ops l (cR g d (.lit v)) K) (bp:N.ok d=true:=by rfl) (aT:g d=none:=by rfl):aE P N ops (⟨some d,.assign (.const v),ty,pos,after,none⟩::l) g K:=ak (O.az (.k h)) hk bp aT
end
section
variable {α:Type}{g:aL}
end
section
variable {α:Type}{P:Program}{N:cN}{g:aL}{d r:Nat}
theorem kQ.k9 {o:Oper}{xs:List Operand}{fM:Array TypeId}{f:FuncId}{ys:List ab}{res:ab}{en:bN α}{L:List α}{G2:List (Nat × ab)}(aW:o.op=.call { callee:=.value (.func f),args:=xs.toArray,argTypes:=fM }) (aO:o.dst=some d) (J:Own.hc g xs=some (.a6 en.z ⟨r,[]⟩ L.length::ys))
  (aw:g r=some (aC en L)) (ha:bO P f (aC en L::ys) (none::ys.map λ_=>none) res) (aT:hx P f=true) [hr:b6 res] [aB:dk ys]
  (cY:Trim false (cn g ⟨r,[]⟩ .dead) (get G2) G2) (aP:get G2 d=none) (bp:N.ok d=true) :
  kQ P N g o d (get ((d,res)::G2)):=by
 have oG:∀ x∈bA en L,cC x:=by
  intro x J;obtain ⟨a,_,aI⟩:=List.mem_flatMap.1 J;exact en.bk a x aI
 have fA:(bA en L).take (L.length * en.z)=bA en L:=List.take_of_length_le (by rw [oR]; exact Nat.le_refl _);have C2:il (cn g ⟨r,[]⟩ .dead) (get G2):=by
  refine ⟨λt x h=>?_,λt x h=>(cY.spec t x h).2.1,λt z q n m new h=>(cY.spec t _ h).2.2 _ _ _ _ _ rfl⟩;obtain ⟨⟨y,h1,_,aD⟩,_⟩:=cY.spec t x h;rw [<- aD rfl]; exact h1
 have C3:il (get G2) (get G2):=⟨λt x h=>h,λt x h=>(cY.spec t x h).2.1,λt z q n m new h=>(cY.spec t _ h).2.2 _ _ _ _ _ rfl⟩;have tR:get ((d,res)::G2)=cR (get G2) d res:=by
  funext t;rw [r6]
 rw [tR];refine Ba.ok (first:=[]) (caps:=[]) (ys:=.a6 en.z ⟨r,[]⟩ L.length::ys) (tk:=λ_=>true) (vw:=false) (outs:=none::ys.map λ_=>none) (g1:=cn g ⟨r,[]⟩ .dead) (g2:=get G2) (g4:=get G2) (l:=[]) (ks:=λ_=>0) (xs0:=.a6 en.z ⟨r,[]⟩ L.length::ys) (xs1:=aC en L::ys) (args:=aC en L::ys) (res:=res) aW aO rfl (by simpa using J)
  ⟨aT,by simp,by simp,λk x h=>.inl (by simpa using h),?_,C2,λk x y J ao=>by simpa using ao,ha,by simpa using hr.bk,λk x h=>?_,λj p x ag=>by simp at ag,by simp,λi j hi ag _=>by simp at hi,C3⟩ aP bp yJ.refl
 ·have h1:Take (cn g ⟨r,[]⟩ .dead) ((bA en L).take (L.length * en.z)) (bA en L) (cn g ⟨r,[]⟩ .dead):=by rw [fA]; exact .bk oG
  exact .a6 (N:=L.length) (by simp [bG,aw,ab.at]) (Nat.le_refl _) h1 (.bk aB.bk)
 ·cases k with
  | zero=>simp at h
  | succ k =>
   simp only [List.getElem?_cons_succ,List.getElem?_map] at h;cases aI:ys[k]? <;> rw [aI] at h <;> cases h
end
class nj (x:ab):Prop where pl:p9 x
class EJ (cs:List ab):Prop where pl:∀ x∈cs,p9 x
instance {v:Value}:nj (.lit v):=⟨.lit⟩
instance {α:Type}{e:bN α}{L:List α}:nj (aj e L):=⟨.bd (dk.bk (cs:=bA e L))⟩
instance {cs:List ab} [h:EJ cs]:nj (.agg cs):=⟨.agg h.pl⟩
instance:EJ []:=⟨by simp⟩
instance {x:ab}{cs:List ab} [h:nj x] [aJ:EJ cs]:EJ (x::cs):=⟨λy ao=>by
 rcases List.mem_cons.1 ao with rfl | ao
 ·exact h.pl
 ·exact aJ.pl y ao⟩
class EH (G:List (Nat × ab)):Prop where bk:∀ t x,get G t=some x->cC x
instance:EH []:=⟨λt x h=>by cases h⟩
instance {s:Nat}{x:ab}{G:List (Nat × ab)} [h:b6 x] [aJ:EH G]:EH ((s,x)::G):=⟨λt y ao=>by
 simp only [get] at ao
 split at ao
 ·cases ao; exact h.bk
 ·exact aJ.bk t y ao⟩
class EG (acc:Acc):Prop where bk:∀ e∈acc,∀ x,e.2.2=some x->cC x
instance:EG []:=⟨by simp⟩
instance {k d:Nat}{x:ab}{acc:Acc} [h:b6 x] [aJ:EG acc]:EG ((k,d,some x)::acc):=⟨λe he y ao=>by
 rcases List.mem_cons.1 he with rfl | he
 ·cases ao; exact h.bk
 ·exact aJ.bk e he y ao⟩
theorem tP {G:List (Nat × ab)}{A:Nat->Bool}{acc:Acc} [h:EH G] [aJ:EG acc]:Hk (dr (get G) A acc):=by
 have key:∀ t x,dr (get G) A acc t=some x->cC x:=λt x J=>by
  rcases uV J with ⟨e,he,_,_,af⟩ | ⟨_,af⟩
  ·exact aJ.bk e he x af
  ·exact h.bk t x af
 exact ⟨λt x J=>.bk (key t x J),λt z q n m new J=>by cases key t _ J⟩
end Go.Own
namespace Go.Own
open Go Go.MapKept Go.ChangeMaps
variable [cE]
section
variable {P:Program}{w:World}{I:a'}{T:Array Value}{g g2:aL}{Fs:Nat->a'}
theorem TX {w:World}{b:Nat}{es hI:Array MapEntry}{c cg:Nat}(h:w.heap[b]?=some (.map es c)) (a:Addr):(setBlock w b (.map hI cg)).cell? a=w.cell? a:=by
 by_cases e:a.block=b
 ·have h1:(setBlock w b (.map hI cg)).heap[a.block]?=some (.map hI cg):=by rw [e]; exact heap_setBlock_same h _
  have af:w.heap[a.block]?=some (.map es c):=by rw [e]; exact h
  unfold World.cell?
  grind
 ·have h1:(setBlock w b (.map hI cg)).heap[a.block]?=w.heap[a.block]?:=heap_setBlock_other h _ e;unfold World.cell?;rw [h1]
theorem RF {w:World}{b:Nat}{es hI:Array MapEntry}{c cg:Nat}(h:w.heap[b]?=some (.map es c)):∀ (p:List Nat) (v:Value),walk (setBlock w b (.map hI cg)) v p=walk w v p
 | [],v=>rfl
 | k::p,v=>by
  have aa:child (setBlock w b (.map hI cg)) v k=child w v k:=by
   unfold child
   split <;> first | rfl | exact TX h _
  simp only [walk,aa];cases child w v k with
  | none=>rfl
  | some u=>exact RF h p u
theorem abv {w:World}{b:Nat}{es hI:Array MapEntry}{c cg:Nat}(h:w.heap[b]?=some (.map es c)) (T:Array Value) (p:Place):dx (setBlock w b (.map hI cg)) T p=dx w T p:=by
 grind [dx,RF]
theorem aaa {w:World}{b:Nat}{es hI:Array MapEntry}{c cg:Nat}(h:w.heap[b]?=some (.map es c)) {T:Array Value}{r:ab}{v:Value}(hr:fh w T r v):fh (setBlock w b (.map hI cg)) T r v:=by
 cases r <;> simp only [fh,abv h] at hr ⊢ <;> exact hr
theorem cA.Y8 (bh:cA w I T g Fs) {p:Place}{q fB:Array MapEntry->Nat->Prop}{b:Nat}{es hI:Array MapEntry}{c cg:Nat}(aq:bG g p=some (.mp q)) (hv:dx w T p=some (.map (some b))) (hm:w.heap[b]?=some (.map es c)) (a8:fB hI cg)
  (zE:∀ t x,g2 t=some x->cn g p (.mp fB) t=some x) (si:∀ t x,g2 t=some x->∀ y,g t=some y->jA (gA g2) y) (ll:∀ t z q n m new,g2 t≠some (.bL z q n m new)) (j3:g2 p.root≠none) :
  ∃ bV,cA (setBlock w b (.map hI cg)) I T g2 bV/\∀ t c,bV t c->Fs t c:=by
 have pq:∀ k,k≠b->(setBlock w b (.map hI cg)).heap[k]?=w.heap[k]?:=λk hk=>heap_setBlock_other hm _ hk;have Ek:(setBlock w b (.map hI cg)).heap[b]?=some (.map hI cg):=heap_setBlock_same hm _;have RD:(setBlock w b (.map hI cg)).heap.size=w.heap.size:=by simp [setBlock]
 have XO:∀ r v,fh w T r v->fh (setBlock w b (.map hI cg)) T r v:=λr v h=>aaa hm h;generalize vI:setBlock w b (.map hI cg)=w' at *;obtain ⟨dU,ix⟩:∃ dU,g p.root=some dU:=by
  unfold bG at aq;cases J:g p.root with
  | none=>rw [J] at aq; cases aq
  | some x=>exact ⟨x,rfl⟩
 have pG:dU.at p.path=some (.mp q):=by simpa [bG,ix] using aq
 obtain ⟨v0,ko,gn⟩:=bh.rel _ _ ix;have B3:=gn.gp (by rintro z q n m new rfl; cases (ab.sV pG).2);have nx:jA (gA g2) dU:=by
  cases af:g2 p.root with
  | none=>exact absurd af j3
  | some y=>exact si _ _ af _ ix
 have ql:=B3.wi nx;obtain ⟨hY,cu,hw,ds,c_,_,kr⟩:=R.focus p.path ql pG;have J':hY=.map (some b):=by
  simp only [dx,ko,hw,Option.some.injEq] at hv; exact hv
 subst J';obtain ⟨dR,aeq,c0,e,aW,_,mG⟩:=ds.Kr;cases e;have nY:cu b:=(mG b).2 rfl;have s0:∀ c,I c->w'.heap[c]?=w.heap[c]?:=λc aa=>pq c λe=>bh.bd _ b (c_ b nY) (e ▸ aa);have Fy:∀ t,t≠p.root->¬ Fs t b:=λt ar h=>ar (bh.d_ _ _ _ h (c_ b nY));have refs:∀ r u,(dy w T g r u/\gA g2 r)->dy w' T g2 r u:=λr u h=>⟨XO r u h.1.1,h.2⟩;obtain ⟨cQ,B4,oD⟩:=kr w' I (dy w' T g2) (.mp fB) cu ⟨s0,λc aa aB=>pq c λe=>aB (e ▸ nY),λ_ h=>h,refs⟩ (.mp Ek a8 mG) (λc h _=>h) λ_ h=>by cases h
 have BW:∀ c,cQ c->Fs p.root c:=λc aa=>by
  rcases (oD c).1 aa with h | h
  ·exact h.1
  ·exact c_ c h
 let bV:Nat->a':=λt c=>if t=p.root then cQ c else g2 t≠none/\Fs t c
 have pF:∀ t c,bV t c->Fs t c:=by
  intro t c aa;by_cases ar:t=p.root
  ·simp only [bV,if_pos ar] at aa; rw [ar]; exact BW c aa
  ·simp only [bV,if_neg ar] at aa; exact aa.2
 refine ⟨bV,⟨λt x J=>?_,λt ar c aa=>?_,λt t' c aa ep=>bh.d_ t t' c (pF t c aa) (pF t' c ep),λt c aa hi=>bh.bd t c (pF t c aa) hi,λc aa=>by rw [RD]; exact bh.lt c aa,λt t' z q n m new bR cr m' cL h1=>absurd h1 (ll _ _ _ _ _ _),cE.keep bh.hP s0 λ_ h=>h⟩,pF⟩
 ·have e8:=zE t x J;by_cases ar:t=p.root
  ·subst ar;have CS:dU.setAt p.path (.mp fB)=x:=by simpa [cn,ix] using e8
   refine ⟨v0,ko,.tree ?_⟩;have w7:bV p.root=cQ:=by funext c; simp [bV]
   rw [<- CS,w7]; exact B4
  ·rw [wo ar] at e8;obtain ⟨u,hu,aY⟩:=bh.rel t x e8;replace aY:=aY.gp (by rintro z q n m new rfl; exact ll _ _ _ _ _ _ J);have w7:bV t=Fs t:=by
    funext c;exact propext ⟨λh=>by simp only [bV,if_neg ar] at h; exact h.2,λh=>by simp only [bV,if_neg ar]; exact ⟨by rw [J]; simp,h⟩⟩
   refine ⟨u,hu,.tree ?_⟩;rw [w7];exact (aY.wi (si t x J x e8)).frame s0 (λ_ h=>h) refs λc aa=>pq c λe=>Fy t ar (e ▸ aa)
 ·by_cases hM:t=p.root
  ·exact j3 (hM ▸ ar)
  ·simp only [bV,if_neg hM] at aa; exact aa.1 ar
theorem Vw {w:World}{b:Nat}{es hI:Array MapEntry}{c cg:Nat}(h:w.heap[b]?=some (.map es c)) (a:Addr):(setBlock w b (.map hI cg)).frozen? a=w.frozen? a:=by
 unfold World.frozen?
 grind [heap_setBlock_same,heap_setBlock_other]
theorem bc.Y9 {N:cN}{o:Oper}{t:TypeId}{m x v:Operand}{p:Place}{q fB:Array MapEntry->Nat->Prop}{Y Z x2:ab}{oO cW:Value}{G2:List (Nat × ab)}(aW:o.op=.mapUpdate t m x v) (aO:o.dst=none) (hm:bs g m=some (.gj p)) (aq:bG g p=some (.mp q)) (J:bs g x=some Y) (ao:bs g v=some Z)
  (cZ:∀ (w:World) (I:a') (ρ:ab->Value->Prop) (v:Value),R w I ρ Y v cj->v=oO) (Ja:∀ (w:World) (I:a') (ρ:ab->Value->Prop) (v:Value),R w I ρ Z v cj->v=cW)
  (hr:∀ (w:World) (b:Nat) (es:Array MapEntry) (c:Nat),w.heap[b]?=some (.map es c)->q es c->∃ hI cg,(Instr.mapUpdate t (.map (some b)) oO cW).run P w=.ok () (setBlock w b (.map hI cg))/\fB hI cg)
  (gF:cn g p (.mp fB) p.root=some x2) (j3:(get G2 p.root).isSome=true) {y0:ab}(rr:g p.root=some y0) [eH:b6 y0] (cY:kT g (get G2) p.root x2 G2):bc P N g o (get G2):=by
 refine .GO λw I T Fs h a aI bp K Q zx=>?_;obtain ⟨⟨b,au,hv⟩,_⟩:=(j9 h hm aI).Pk;obtain ⟨dH,cu,ih,ds,c_⟩:=h.part aq (by simp);have jo:=au;rw [au] at ih;cases ih;obtain ⟨dR,es,c,e,bP,a8,mG⟩:=ds.Kr;cases e;obtain ⟨hI,cg,hj,zN⟩:=hr w dR es c bP a8;have XR:(execOp a.eval o).run P w=.ok .skip (setBlock w dR (.map hI cg)):=by
  simp [execOp,aW,hv,cZ _ _ _ _ (j9 h J aI),Ja _ _ _ _ (j9 h ao aI),hj]
 have c1:∀ t x,get G2 t=some x->cn g p (.mp fB) t=some x:=λt x J=>by
  rcases cY.spec t x J with ⟨h1,af,_⟩ | ⟨h1,af,_⟩
  ·rw [wo h1]; exact af
  ·subst h1 af; exact gF
 have c2:∀ t x,get G2 t=some x->∀ y,g t=some y->jA (gA (get G2)) y:=λt x J y ao=>by
  rcases cY.spec t x J with ⟨h1,af,aD⟩ | ⟨h1,af,aD⟩
  ·rw [af] at ao; cases ao;rcases aD with aD | ⟨aD,_⟩
   ·cases aD with
    | n h=>exact .bk h
    | p _ _ bm fy=>exact .ref rfl (uK bm fy)
    | r _ _ bm rh=>exact .ref rfl (AX bm rh)
   ·exact jA.ref (by cases aD; rfl) aD.Gf
  ·subst h1; rw [rr] at ao; cases ao; exact .bk eH.bk
 have kz:∀ t z q n m new,get G2 t≠some (.bL z q n m new):=λt z q n m new J=>by
  rcases cY.spec t _ J with ⟨_,_,aD | ⟨aD,_⟩⟩ | ⟨_,_,aD⟩
  ·exact aD.fE _ _ _ _ _ rfl
  ·exact aD.fE _ _ _ _ _ rfl
  ·cases aD
 obtain ⟨bV,dM,hA⟩:=h.Y8 (g2:=get G2) aq jo bP zN c1 c2 kz (by intro e; rw [e] at j3; cases j3);unfold Oper.wp Oper.upon;simp only [XR];refine zx _ _ ⟨by rw [aO]; rfl,by rw [aO]; exact ib.refl,I,bV,by rw [aO]; simpa [Act.put,aI] using dM,⟨⟨rfl,rfl,rfl,by simp [setBlock],λk _ hk=>heap_setBlock_other bP _ λe=>hk ⟨_,e ▸ c_ dR ((mG dR).2 rfl)⟩,λa _ _=>Vw bP a,Nat.le_refl _⟩,λ_ h=>h,λ_ h=>.inl h,λc ⟨t,aa⟩=>.inl ⟨t,hA t c aa⟩⟩⟩ λt _=>by rw [aO]; rfl
end
end Go.Own
namespace Go.Own
open Go Go.MapKept Go.ChangeMaps Go.WideElems
variable [cE]
open Go.Maps (Keyed)
variable {ku l6:Type}{P:Program}{k e:TypeId}
abbrev y8:Value->Option (DataW Value × List MemPlace):=λv=>some (.held v,[])
def pj [DecidableEq ku]:List (ku × l6)->ku->Option l6
 | [],_=>none
 | p::m,x=>if p.1=x then some p.2 else pj m x
def ux [DecidableEq ku] (ok:ku->Bool) (z:l6) (m:List (ku × l6)) (x:ku):Option l6:=if ok x then some ((pj m x).getD z) else none
def z' (ok:ku->Bool) (m:List (ku × l6)) (x:ku) (y:l6):Option (List (ku × l6)):=if ok x&&decide (m.length<=lim) then some ((x,y)::m) else none
structure Bg (P:Program) (k:TypeId) (ku:Type) where
 oO:ku->Value
 xO:ku->Lit
 FU:ku->ab
 ok:ku->Bool
 keyed:Keyed P k
 key:∀ x,ok x=true->keyOf P k (oO x)=some (xO x)
 inj:∀ x y,xO x=xO y->x=y
 zg:∀ (x:ku) (w:World) (I:a') (ρ:ab->Value->Prop) (v:Value),R w I ρ (FU x) v cj->v=oO x
structure Bh (P:Program) (e:TypeId) (l6:Type) where
 po:l6->Value
 Eg:l6->ab
 z:l6
 zero:∀ w,(zeroValue e).run P w=.ok (po z) w
 one:∀ x,(po x).oneCell'=true
 zg:∀ (x:l6) (w:World) (I:a') (ρ:ab->Value->Prop) (v:Value),R w I ρ (Eg x) v cj->v=po x
 nJ:∀ (x:l6) (w:World) (I:a') (ρ:ab->Value->Prop),R w I ρ (Eg x) (po x) cj
def yx (P:Program) (k:TypeId) (es:Array MapEntry):List (Lit × DataW Value):=(es.toList.map (rg P k y8)).foldr DataW.insert []
def mB [DecidableEq ku] (K:Bg P k ku) (V:Bh P e l6) (m:List (ku × l6)):Array MapEntry->Nat->Prop:=λes c=>Fit P k y8 es c/\es.size<=m.length/\∀ x Hc,(DataW.map (yx P k es)).atKey (K.xO x) Hc=match pj m x with | some y=>.held (V.po y) | none=>Hc
variable [DecidableEq ku] {K:Bg P k ku}{V:Bh P e l6}{m m':List (ku × l6)}{x:ku}{y:l6}{t:TypeId}
theorem mB.nil:mB K V [] #[] 0:=⟨⟨by simp,stamped_empty 0,by simp⟩,Nat.le_refl _,λx Hc=>rfl⟩
theorem mB.look (ok:Bool) (c7:K.ok x=true) (ar:P.underlying t=some (.map k e)) (w:World) (b:Nat) (es:Array MapEntry) (c:Nat) (au:w.heap[b]?=some (.map es c)) (h:mB K V m es c) :
  (Instr.lookup t (.map (some b)) (K.oO x) ok).run P w=.ok (if ok then .tuple #[V.po ((pj m x).getD V.z),.bool (pj m x).isSome] else V.po ((pj m x).getD V.z)) w:=by
 obtain ⟨F,_,fD⟩:=h;have fD:=fD x;rcases Maps.fit_look ok K.keyed ar (V.zero w) au F (K.key x c7) with ⟨hj,_,af⟩ | ⟨ft,y,_,_,hj,ao,af,_⟩
 ·have:pj m x=none:=by
   cases aP:pj m x with
   | none=>rfl
   | some y =>
    have h1:=fD .nil;rw [aP] at h1;have aD:=af .nil;unfold yx at h1;rw [h1] at aD; cases aD
  rw [hj,this]; rfl
 ·cases ao;cases aP:pj m x with
  | none =>
   have h1:=fD .nil;rw [aP] at h1;have aD:=af .nil;unfold yx at h1;rw [h1] at aD; cases aD
  | some y =>
   have h1:=fD .nil;rw [aP] at h1;have aD:=af .nil;unfold yx at h1;rw [h1] at aD;have bm:ft.val=V.po y:=by simpa using aD.symm
   rw [hj,bm]; rfl
theorem mB.put (aK:z' K.ok m x y=some m') (ar:P.underlying t=some (.map k e)) (w:World) (b:Nat) (es:Array MapEntry) (c:Nat) (au:w.heap[b]?=some (.map es c)) (h:mB K V m es c) :
  ∃ hI cg,(Instr.mapUpdate t (.map (some b)) (K.oO x) (V.po y)).run P w=.ok () (setBlock w b (.map hI cg))/\mB K V m' hI cg:=by
 unfold z' at aK
 split at aK
 ·rename_i aa;cases aK;simp only [Bool.and_eq_true,decide_eq_true_eq] at aa;obtain ⟨c7,ah⟩:=aa;obtain ⟨F,aw,fD⟩:=h;have OB:=K.key x c7;obtain ⟨hI,cg,hj,cQ,oH,_⟩:=Maps.fit_store (R':=y8) K.keyed ar au F (by have:maxLen=9223372036854775807:=rfl; simp only [lim] at ah; omega) (λ_ _ _ _ aX=>aX) OB (rfl:y8 (V.po y)=some (.held (V.po y),[]));refine ⟨hI,cg,hj,cQ,?_,λx' Hc=>?_⟩
  ·have b9:hI.size=((hI.toList.map (rg P k y8)).foldr DataW.insert []).length:=by rw [length_sorted]; simp
   rw [b9,oH];unfold putKey;rw [length_insert];have b3:=List.length_filter_le (notKey (K.xO x)) ((es.toList.map (rg P k y8)).foldr DataW.insert []);rw [length_sorted] at b3;simp at b3 ⊢;omega
  ·have eP:(DataW.map (yx P k hI))=(DataW.map (yx P k es)).put (K.xO x) (.held (V.po y)):=by
    rw [DataW.put_eq]; unfold yx; rw [oH]
   rw [eP];by_cases J:x=x'
   ·subst J;rw [Maps.atKey_put_same ⟨_,rfl⟩ (K.keyed.key OB)];simp [pj]
   ·rw [Maps.atKey_put_other (λe=>J (K.inj _ _ e).symm),fD];simp [pj,J]
 ·cases aK
section
variable {N:cN}{g:aL}{a b c:Operand}{p:Place}{ty:TypeId}
instance {q:Array MapEntry->Nat->Prop}:b6 (.mp q):=⟨.mp⟩
theorem O.Y7 (K:Bg P k ku) (V:Bh P e l6):bT P g (.makeMap t none) ty (.mp (mB K V [])):=.rB (.makeMap mB.nil)
theorem O.ry {r:l6}{X Y:ab}(hm:Rd g a (.gj p)) (aq:bG g p=some (.mp (mB K V m))) (J:Rd g b Y) (B7:K.FU x=Y) (ar:P.underlying t=some (.map k e)) (h:ux K.ok V.z m x=some r) (eg:V.Eg r=X):bT P g (.lookup t a b false) ty X:=by
 subst eg B7;unfold ux at h
 split at h
 ·rename_i c7;cases h;exact .ew (.F0 hm.bs aq J.bs (K.zg x) (V.nJ _) λw b es c au a8=>mB.look false c7 ar w b es c au a8)
 ·cases h
theorem bc.mt {o:Oper}{x2 y0 Y Z:ab}{G2:List (Nat × ab)}(aW:o.op=.mapUpdate t a b c) (aO:o.dst=none) (hm:Rd g a (.gj p)) (aq:bG g p=some (.mp (mB K V m))) (J:Rd g b Y) (B7:K.FU x=Y) (ao:Rd g c Z) (Ja:V.Eg y=Z) (ar:P.underlying t=some (.map k e)) (h:z' K.ok m x y=some m')
  (gF:cn g p (.mp (mB K V m')) p.root=some x2) (j3:(get G2 p.root).isSome=true) (rr:g p.root=some y0) [eH:b6 y0] (cY:kT g (get G2) p.root x2 G2):bc P N g o (get G2):=by
 subst B7 Ja;exact .Y9 aW aO hm.bs aq J.bs ao.bs (K.zg x) (V.zg y) (λw b es c au a8=>mB.put h ar w b es c au a8) gF j3 rr cY
end
def su (n:Int):Bool:=decide (-9223372036854775808<=n/\n<9223372036854775808)
def Sj (hk:P.underlying k=some (.int .i64)):Bg P k Int where
 oO n:=.int .i64 n
 xO n:=.int .i64 n
 FU n:=ae n
 ok:=su
 keyed:=Maps.int_keyed hk
 key n h:=Maps.keyOf_int_mk hk (by
  unfold su at h;have:=of_decide_eq_true h;unfold Lit.wf;rw [Bool.and_eq_true];refine ⟨decide_eq_true ?_,decide_eq_true ?_⟩
  ·show (-9223372036854775808:Int)<=n; omega
  ·show n<=(9223372036854775807:Int); omega)
 inj x y h:=by cases h; rfl
 zg x w I ρ v h:=h.hB.1
def Sk (aX:(P.info? e).bind (·.zero)=some (.int .i64 0)):Bh P e Int where
 po n:=.int .i64 n
 Eg n:=ae n
 z:=0
 zero w:=Bu aX w
 one _:=rfl
 zg x w I ρ v h:=h.hB.1
 nJ x w I ρ:=.lit rfl λ_ h=>h
end Go.Own
namespace Go.Own
open Go
variable [cE]
section
variable {α:Type}{P:Program}{N:cN}{g:aL}{d r:Nat}{ty t t2 e:TypeId}{a b:Operand}{k j8:IntKind}{m n:Int}{p:Place}
def lV (L:List α) (m:Int):Option Unit:=if 0<=m/\m<=L.length then some () else none
theorem xH {L:List α}{u:Unit}(h:lV L m=some u):m.toNat<=L.length:=by
 grind [lV]
theorem O.Lz {en:bN α}{L:List α}{u:Unit}(J:Rd g a (.a6 en.z p L.length)) (ah:Rd g b (.lit (.int k m))) (aq:bG g p=some (aC en L)) (ar:fk P t e en.z=true) (h:lV L m=some u):bT P g (.slice t a (some b) none none) ty (.sub en.z p m.toNat (L.length - m.toNat)):=by
 unfold lV at h
 split at h
 ·rename_i aa;obtain ⟨i,rfl⟩:=Int.eq_ofNat_of_zero_le aa.1;exact .ew (.GW J.bs ⟨_,ah.bs⟩ rfl ar (by omega) (Nat.le_refl _) ⟨_,_,aq,by omega⟩)
 ·cases h
theorem O.D' {en:bN α}{L:List α}{u:Unit}(J:Rd g a (.a6 en.z p L.length)) (bP:Rd g b (.lit (.int k m))) (aq:bG g p=some (aC en L)) (ar:fk P t e en.z=true) (h:lV L m=some u):bT P g (.slice t a none (some b) none) ty (.a6 en.z p m.toNat):=by
 unfold lV at h
 split at h
 ·rename_i aa;obtain ⟨i,rfl⟩:=Int.eq_ofNat_of_zero_le aa.1;exact .ew (.GX J.bs rfl ⟨_,bP.bs⟩ ar (by omega) (.inl ⟨_,_,aq,by omega⟩))
 ·cases h
end
def GH (dQ:List Nat) (o:Oper):Oper:=⟨o.dst,o.op,o.type,o.pos,o.after.map λe=>⟨dQ.idxOf e.on,e.ground⟩,o.guard.map λp=>(dQ.idxOf p.1,p.2)⟩
def lx (dQ:List Nat) (l:List Oper):List Oper:=dQ.map λk=>GH dQ (l.getD k default)
def K9 (dQ:List Nat) (n:Nat):Bool:=Nat.beq dQ.length n&&(List.range n).all λk=>dQ.contains k&&Nat.blt (dQ.getD k n) n&&Nat.beq (dQ.idxOf (dQ.getD k n)) k
structure Perm (dQ:List Nat) (n:Nat):Prop where
 len:dQ.length=n
 mem:∀ k,k<n->dQ.idxOf k<n/\dQ.getD (dQ.idxOf k) n=k
 lt:∀ j,j<n->dQ.getD j n<n/\dQ.idxOf (dQ.getD j n)=j
theorem ZJ {dQ:List Nat}{n:Nat}(h:K9 dQ n=true):Perm dQ n:=by
 unfold K9 at h;simp only [Bool.and_eq_true,Nat.beq_eq,List.all_eq_true,List.mem_range,Nat.blt_eq] at h;obtain ⟨ah,hg⟩:=h;refine ⟨ah,λk hk=>?_,λj ag=>⟨(hg j ag).1.2,(hg j ag).2⟩⟩
 grind
section
variable {P:Program}{Q:Exit->Act->World->Prop}{dQ:List Nat}{l:List Oper}
theorem K_ (j5:Perm dQ l.length) {j:Nat}(ag:j<l.length):(lx dQ l).toArray[j]?=some (GH dQ (l.getD (dQ.getD j l.length) default))/\l.toArray[dQ.getD j l.length]?=some (l.getD (dQ.getD j l.length) default):=by
 have h1:j<dQ.length:=by rw [j5.len]; exact ag
 have af:=(j5.lt j ag).1
 grind [lx]
theorem Qo (j5:Perm dQ l.length) {A B:Array Bool}(dI:A.size=l.length) (eV:B.size=l.length) (sZ:∀ j,j<l.length->B.getD j true=A.getD (dQ.getD j l.length) true) {j:Nat}(ag:j<l.length) :
  dQ.getD j l.length∈Region.ready .any l.toArray A↔j∈Region.ready .any (lx dQ l).toArray B:=by
 obtain ⟨h1,af⟩:=K_ j5 ag;have afB:∀ {C:Array Bool}{k:Nat},k<C.size->C.getD k false=C.getD k true:=λ{C k} h=>by simp [Array.getD,h]
 have gone:∀ {C:Array Bool}{k:Nat},¬ k<C.size->C.getD k false=false:=λ{C k} h=>by simp [Array.getD,h]
 have Nn:∀ m,A.getD m false=true↔B.getD (dQ.idxOf m) false=true:=λm=>by
  by_cases hm:m<l.length
  ·obtain ⟨aD,bm⟩:=j5.mem m hm
   grind
  ·have b7:¬ dQ.idxOf m<l.length:=λh=>by
    have dp:=List.idxOf_lt_length_iff.1 (by rw [j5.len]; exact h);obtain ⟨i,hi,e⟩:=List.mem_iff_getElem.1 dp;have:=(j5.lt i (by rw [<- j5.len]; exact hi)).1
    grind
   grind
 rw [mem_ready,mem_ready,sZ j ag];constructor
 ·rintro ⟨a,o,aW,h⟩;rw [af] at aW;cases aW;refine ⟨a,_,h1,λe he au=>?_⟩;obtain ⟨ft,Xd,rfl⟩:=Array.mem_map.1 he;exact (Nn _).1 (h ft Xd au)
 ·rintro ⟨a,o,aW,h⟩;rw [h1] at aW;cases aW;refine ⟨a,_,af,λe he au=>?_⟩;exact (Nn _).2 (h ⟨dQ.idxOf e.on,e.ground⟩ (Array.mem_map.2 ⟨e,he,rfl⟩) au)
theorem ZL (j5:Perm dQ l.length) (o:Oper) (T:Array Value):Region.wanted (GH dQ o) (yielded (lx dQ l).toArray T)=Region.wanted o (yielded l.toArray T):=by
 unfold Region.wanted GH;cases aP:o.guard with
 | none=>rfl
 | some p =>
  obtain ⟨m,b⟩:=p;simp only [Option.map_some];have:yielded (lx dQ l).toArray T (dQ.idxOf m)=yielded l.toArray T m:=by
   unfold yielded;by_cases hm:m<l.length
   ·obtain ⟨aD,bm⟩:=j5.mem m hm;obtain ⟨h1,af⟩:=K_ j5 aD;rw [bm] at h1 af;rw [h1,af];rfl
   ·have b7:¬ dQ.idxOf m<l.length:=λh=>by
     have dp:=List.idxOf_lt_length_iff.1 (by rw [j5.len]; exact h);obtain ⟨i,hi,e⟩:=List.mem_iff_getElem.1 dp;have:=(j5.lt i (by rw [<- j5.len]; exact hi)).1
     grind
    have b9:(lx dQ l).toArray[dQ.idxOf m]?=none:=by
     rw [List.getElem?_toArray];exact List.getElem?_eq_none (by simp [lx,j5.len]; omega)
    grind
  rw [this]
theorem ZK (j5:Perm dQ l.length):∀ (fuel:Nat) (A B:Array Bool) (a:Act) (w:World),A.size=l.length->B.size=l.length->(∀ j,j<l.length->B.getD j true=A.getD (dQ.getD j l.length) true) ->
  wpAny P .any (lx dQ l).toArray Q fuel B a w->wpAny P .any l.toArray Q fuel A a w:=by
 have lift:∀ {A B:Array Bool},A.size=l.length->B.size=l.length->(∀ j,j<l.length->B.getD j true=A.getD (dQ.getD j l.length) true)->∀ k,k∈Region.ready .any l.toArray A->∃ j,j<l.length/\dQ.getD j l.length=k/\j∈Region.ready .any (lx dQ l).toArray B:=λ{A B} dI eV sZ k hk=>by
  have dq:k<l.length:=by
   grind [mem_ready]
  obtain ⟨aD,bm⟩:=j5.mem k dq
  grind [Qo]
 have nil:∀ {A B:Array Bool},A.size=l.length->B.size=l.length->(∀ j,j<l.length->B.getD j true=A.getD (dQ.getD j l.length) true)->Region.ready .any l.toArray A=[]->Region.ready .any (lx dQ l).toArray B=[]:=λ{A B} dI eV sZ h=>by
  cases hr:Region.ready .any (lx dQ l).toArray B with
  | nil=>rfl
  | cons j r =>
   have ag:j∈Region.ready .any (lx dQ l).toArray B:=by rw [hr]; simp
   have ez:j<l.length:=by
    grind [mem_ready]
   have:=(Qo j5 dI eV sZ ez).2 ag
   grind
 intro fuel
 induction fuel with
 | zero =>
  intro A B a w dI eV sZ h;refine ⟨?_,h.2⟩;cases hr:Region.ready .any l.toArray A with
  | nil=>rfl
  | cons k r =>
   obtain ⟨j,_,_,ag⟩:=lift dI eV sZ k (by rw [hr]; simp);rw [h.1] at ag;cases ag
 | succ fuel aM =>
  intro A B a w dI eV sZ h;refine ⟨λhr=>h.1 (nil dI eV sZ hr),λk hk=>?_⟩;obtain ⟨j,ez,rfl,ag⟩:=lift dI eV sZ k hk;have aw:=h.2 j ag;obtain ⟨h1,af⟩:=K_ j5 ez;have VW:∀ i,i<l.length->(B.setIfInBounds j true).getD i true=(A.setIfInBounds (dQ.getD j l.length) true).getD (dQ.getD i l.length) true:=λi hi=>by
   have aN:=(j5.lt j ez).1;have JL:=(j5.lt i hi).1;have e:∀ (C:Array Bool) (p q:Nat),p<C.size->q<C.size->(C.setIfInBounds p true).getD q true=if q=p then true else C.getD q true:=λC p q aq a8=>by
    by_cases h:q=p
    ·simp_all
    ·rw [if_neg h];simp [Array.getD,a8,Array.getElem_setIfInBounds_ne,Ne.symm h]
   rw [e B j i (by omega) (by omega),e A _ _ (by omega) (by omega),sZ i hi];by_cases h:i=j
   ·grind
   ·rw [if_neg h,if_neg];intro aJ;have:=(j5.lt i hi).2;rw [aJ,(j5.lt j ez).2] at this
    grind
  have mono:∀ a w,wpAny P .any (lx dQ l).toArray Q fuel (B.setIfInBounds j true) a w->wpAny P .any l.toArray Q fuel (A.setIfInBounds (dQ.getD j l.length) true) a w:=λa w aJ=>aM _ _ a w (by simpa using dI) (by simpa using eV) VW aJ;unfold wpOp at aw ⊢;rw [af];rw [h1] at aw;simp only [ZL j5] at aw;show if Region.wanted (l.getD (dQ.getD j l.length) default) (yielded l.toArray a.tmps)=true then _ else _
  split
  ·rename_i hw;rw [if_pos hw] at aw;exact aw.imp (λaJ=>Oper.wp_mono mono aJ) id
  ·rename_i hw;rw [if_neg hw] at aw;exact mono _ _ aw
end
section
variable {P:Program}{N:cN}
theorem W.Qz {id:Nat}{l:List Oper}{G:List (Nat × ab)}{Φ:Exit->aL->Prop}(dQ:List Nat) (bj:List (List Nat)) (G1:List (Nat × ab)) (hm:P.follows .mixedOrders=true) (dI:qd (lx dQ l).toArray bj=true) (j5:K9 dQ l.length=true)
  (h:bC P N (lx dQ l).toArray bj (get G) 0 [] (lx dQ l) λg'=>np g' (get G1)) (hk:ax .normal Φ G1):W P N (.region id l.toArray true) (get G) Φ:=by
 have aq:=ZJ j5;obtain ⟨g',h1,af⟩:=h [] 0 .nil .nil (by simp);have fz:(lx dQ l).toArray.size=l.length:=by simp [lx,aq.len]
 refine lB.w (g':=g') (e:=.normal) ?_ (hk g' (.e5 af .hX));intro Q a w I Fs bh bp eu;refine wp_region_any hm ?_;have dM:cA w.drew I a.tmps (get G) Fs:=bh.world (λ_ _ _=>rfl) (λ_ _=>rfl) (Nat.le_refl _);have hg:∀ k,ek (Array.replicate (lx dQ l).toArray.size false) k=false:=by
  intro k;unfold ek;rcases Nat.lt_or_ge k (lx dQ l).toArray.size with h | h
  ·simp_all
  grind
 refine ZK aq _ _ (Array.replicate l.length false) a w.drew (by simp) (by simp) (λj ag=>?_) ?_
 ·have:=(aq.lt j ag).1
  simp_all
 have BV:=h1.sound dI .nil (lx dQ l).toArray.size (Array.replicate (lx dQ l).toArray.size false) a w.drew I Fs ?_ (by simp) (λk hk=>by omega) (λk _=>hg k) (λk hk=>by rw [hg] at hk; cases hk) dM bp (λb' w' aB=>eu _ _ ?_)
 ·grind
 ·grind [vc]
 ·obtain ⟨b9,b3,I',bV,h7,bU⟩:=aB;exact ⟨b9,b3,I',bV,h7,⟨⟨bU.dK.os,bU.dK.tape,bU.dK.output,bU.dK.size,bU.dK.block,bU.dK.dL,Nat.le_trans (Nat.le_succ _) bU.dK.zu⟩,bU.more,bU.new,bU.own⟩⟩
end
section
variable {α:Type}{P:Program}{N:cN}{g:aL}{a b:Operand}{t:TypeId}{m i:Int}
end
section
variable {P:Program}{N:cN}{ops:Array Oper}{bj:List (List Nat)}{g g0:aL}{K:aL->Prop}{l:List Oper}{acc:Acc}{d i j t':Nat}{op:Op}{ty:TypeId}{pos:String}{after:Array Edge}{x:ab}{b c:Bool}
theorem gl (au:c=!b) (hk:aE P N ops l (cR g d (.bS [])) K) (h:(ops[j]?).bind (·.dst)=some t':=by rfl) (aP:g t'=some (.lit (.bool c)):=by rfl) (bp:N.ok d=true:=by rfl) (aT:g d=none:=by rfl):aE P N ops (⟨some d,op,ty,pos,after,some (j,b)⟩::l) g K:=.ps h aP au bp aT hk
theorem EK (hk:aE P N ops l (cR g d (.bS [])) K) (h:(ops[j]?).bind (·.dst)=some t':=by rfl) (aP:g t'=some (.bS []):=by rfl) (bp:N.ok d=true:=by rfl) (aT:g d=none:=by rfl):aE P N ops (⟨some d,op,ty,pos,after,some (j,b)⟩::l) g K:=.pu h aP bp aT hk
theorem bu (au:c=b) (aq:bT P g op ty x) (hk:aE P N ops l (cR g d x) K) (h:(ops[j]?).bind (·.dst)=some t':=by rfl) (aP:g t'=some (.lit (.bool c)):=by rfl) (bp:N.ok d=true:=by rfl) (aT:g d=none:=by rfl):aE P N ops (⟨some d,op,ty,pos,after,some (j,b)⟩::l) g K:=.v aq bp aT (.na h aP au) hk
theorem Sm (hk:aE P N ops l (cR g d (.bS [])) K) (h:(ops[j]?).bind (·.dst)=some t':=by rfl) (aP:g t'=some (.lit (.bool c)):=by rfl) (au:c=!b:=by assumption) (bp:N.ok d=true:=by rfl) (aT:g d=none:=by rfl):aE P N ops (⟨some d,op,ty,pos,after,some (j,b)⟩::l) g K:=.ps h aP au bp aT hk
theorem eO (aq:bT P g op ty x) (hk:aE P N ops l (cR g d x) K) (h:(ops[j]?).bind (·.dst)=some t':=by rfl) (aP:g t'=some (.lit (.bool c)):=by rfl) (au:c=b:=by assumption) (bp:N.ok d=true:=by rfl) (aT:g d=none:=by rfl):aE P N ops (⟨some d,op,ty,pos,after,some (j,b)⟩::l) g K:=.v aq bp aT (.na h aP au) hk
theorem qU (bX:Nat) (au:c=!b) (hk:bC P N ops bj g0 i ((bX,d,some (.bS []))::acc) l K) (h:(ops[j]?).bind (·.dst)=some t':=by rfl) (aP:kK bj g0 bX acc t'=some (bg c):=by rfl) (ag:Nat.beq ops.size (bX+l.length+1)=true:=by rfl) (aT:g0 d=none:=by rfl) (aB:acc.all (λe=>!Nat.beq e.2.1 d)=true:=by rfl) (bp:N.ok d=true:=by rfl):bC P N ops bj g0 i acc (⟨some d,op,ty,pos,after,some (j,b)⟩::l) K:=.ps bX h aP au ag aT aB bp hk
theorem qV (bX:Nat) (au:c=b) (aq:bT P (kK bj g0 bX acc) op ty x) (hk:bC P N ops bj g0 i ((bX,d,some x)::acc) l K) (h:(ops[j]?).bind (·.dst)=some t':=by rfl) (aP:kK bj g0 bX acc t'=some (.lit (.bool c)):=by rfl) (ag:Nat.beq ops.size (bX+l.length+1)=true:=by rfl) (aT:g0 d=none:=by rfl) (aB:acc.all (λe=>!Nat.beq e.2.1 d)=true:=by rfl) (bp:N.ok d=true:=by rfl):bC P N ops bj g0 i acc (⟨some d,op,ty,pos,after,some (j,b)⟩::l) K:=.v bX aq ag aT aB bp (.na h aP au) hk
end
section
variable {P:Program}{N:cN}{ops:Array Oper}{g:aL}{K:aL->Prop}{l:List Oper}{A B:Code}{G G1:List (Nat × ab)}{Φ:Exit->aL->Prop}{t id:Nat}{b:Bool}{α:Type}{X Y o:α}
theorem W.bZ (h:(bif b then X else Y)=o) (aa:get G t=some (bg b)) (cU:b=true->X=o->W P N A (get G) Φ) (aH:b=false->Y=o->W P N B (get G) Φ):W P N (.cond (.tmp t) A B) (get G) Φ:=W.eU aa (λe=>cU e (T4 e h)) (λe=>aH e (T3 e h))
def pick (g:aL):List Nat->Option (List (Nat × ab))
 | []=>some []
 | k::ks=>match g k with
  | some x=>match pick g ks with
   | some l=>some ((k,x)::l)
   | none=>none
  | none=>none
class jU (l:List (Nat × ab)):Prop where p:∀ e∈l,cC e.2
instance:jU []:=⟨λ_ h=>by cases h⟩
instance {k:Nat}{x:ab}{l:List (Nat × ab)} [h:b6 x] [ah:jU l]:jU ((k,x)::l):=⟨λe he=>by
 rcases List.mem_cons.1 he with rfl | he
 ·exact h.bk
 ·exact ah.p e he⟩
theorem wc {c:Bool}{g g2:aL}:∀ {ks:List Nat}{G1:List (Nat × ab)},pick g ks=some G1->(∀ e∈G1,cC e.2)->Trim c g g2 G1
 | [],_,h,_=>by cases h; exact .nil
 | k::ks,G1,h,aB=>by
  unfold pick at h
  split at h
  ·rename_i x J
   split at h
   ·rename_i l ah;cases h;have:b6 x:=⟨aB (k,x) (by simp)⟩;exact .n J (wc ah λe he=>aB e (by simp [he]))
   ·cases h
  ·cases h
structure yZ (ks:List Nat) (G1:List (Nat × ab)) (g':aL):Prop where p:np g' (get G1)
theorem bH {ks:List Nat}(h:pick g ks=some G1) [aB:jU G1]:aE P N ops [] g (yZ ks G1):=.nil ⟨(wc (c:=true) (g2:=get G1) h aB.p).e5⟩
theorem Pz {l:List Oper}{ks:List Nat}(h:aE P N l.toArray l g (yZ ks G1)):aE P N l.toArray l g λg'=>np g' (get G1):=λi hi=>by
 obtain ⟨g',h1,af⟩:=h i hi;exact ⟨g',h1,af.p⟩
theorem aE.bY (ks:List Nat) (h:pick g ks=some G1) [aB:jU G1] (hk:aE P N ops l (get G1) K):aE P N ops l g K:=.GC (wc h aB.p) hk
theorem W.bY {l:List Oper}(ks:List Nat) (h:aE P N l.toArray l (get G) (yZ ks G1)) (hk:ax .normal Φ G1):W P N (.region id l.toArray false) (get G) Φ:=W.rx G1 (Pz h) hk
theorem W.rs {l:List Oper}(G1:List (Nat × ab)) (h:aE P N l.toArray l (get G) λg'=>np g' (get G1)) (hk:W P N B (get G1) Φ):W P N (.seq (.region id l.toArray false) B) (get G) Φ:=W.bJ (W.rx G1 h (ax.bI hk))
theorem W.ck {l:List Oper}(ks:List Nat) (h:aE P N l.toArray l (get G) (yZ ks G1)) (hk:W P N B (get G1) Φ):W P N (.seq (.region id l.toArray false) B) (get G) Φ:=W.rs G1 (Pz h) hk
end
class fg (P:Program) (t:TypeId):Prop where p:j0 P t=true:=by kernel_rfl
class pw (P:Program) (t:TypeId):Prop where p:sI P t=true:=by kernel_rfl
class eE (P:Program) (t:TypeId) (e:outParam TypeId) (z:outParam Nat):Prop where p:fk P t e z=true:=by kernel_rfl
class cx (P:Program) (s:TypeId) (f:Nat) (off:outParam Nat) (t:outParam TypeId):Prop where p:iR P s f off t=true:=by kernel_rfl
section
variable {P:Program}{N:cN}{ops:Array Oper}{g:aL}{K:aL->Prop}{l:List Oper}{ty t:TypeId}{a:Operand}{k r z n:Nat}{cs jE:List ab}
theorem O.pc {v:Value}(aw:g r=some (.obj cs)) (J:Rd g a (.ptr ⟨r,[]⟩ k)) (ar:j0 P t=true) (aa:cs[k]?=some (.lit v)):bT P g (.load t a) ty (.lit v):=O.qC aw J ar aa rfl
theorem O.zY (aw:g r=some (.obj cs)) (J:Rd g a (.ptr ⟨r,[]⟩ k)) (ar:j0 P t=true) (aa:cs[k]?=some (.bd z n jE)):bT P g (.load t a) ty (.bd z n jE):=O.qC aw J ar aa rfl
theorem O.zZ (aw:g r=some (.obj cs)) (J:Rd g a (.ptr ⟨r,[]⟩ k)) (ar:j0 P t=true) (aa:cs[k]?=some (.own z n jE)):bT P g (.load t a) ty (.a6 z ⟨r,[k]⟩ n):=O.qC aw J ar aa rfl
end
section
variable {P:Program}{N:cN}{ops:Array Oper}{g:aL}{K:aL->Prop}{l:List Oper}{t0 d:Nat}{t1 t2 ty:TypeId}{av a2 a3:Operand}{nF:Nat}{v0:Value}{pos:String}{after:Array Edge}{op:Op}{aer:Nat × Bool}
theorem aE.de (op:Op) (u:Option (Nat × Bool)) (h:aE P N ops (⟨some d,op,ty,pos,after,u⟩::l) g K):aE P N ops (⟨some d,op,ty,pos,after,u⟩::l) g K:=h
theorem aE.nl (h:aE P N ops [] g K):aE P N ops [] g K:=h
theorem aE.S1 {o:Oper}{gi fV:List Oper}(h:aE P N ops (o::List.append gi fV) g K):aE P N ops (List.append (o::gi) fV) g K:=h
theorem aE.S2 {fV:List Oper}(h:aE P N ops fV g K):aE P N ops (List.append [] fV) g K:=h
theorem aE.bo (h:aE P N ops l g K:=by
(repeat' (first
 | exact j' .nil
 | exact .nil
 | refine .n rfl ?_
 | (first
  | ((with_reducible apply aE.de (.move (.tmp _)) none); (first | refine cK rfl ?_ | refine ak (O.aS (.bd rfl)) ?_ | refine ak (O.aS (.own rfl)) ?_ | refine ak (O.aS (.obj rfl)) ?_ | refine ak (O.aS (.cw rfl)) ?_ | refine ak (O.aS (.ptr rfl)) ?_ | refine ak (O.aS (.a6 rfl)) ?_))
  | ((with_reducible apply aE.de (.load _ _) none); (first | refine ak (O.pc rfl (.ptr rfl) fg.p rfl) ?_ | refine ak (O.C7 (.cw rfl) fg.p rfl) ?_ | refine ak (O.zY rfl (.ptr rfl) fg.p rfl) ?_ | refine ak (O.pc rfl (.obj rfl) fg.p rfl) ?_ | refine ak (O.zY rfl (.obj rfl) fg.p rfl) ?_ | refine ak (O.zZ rfl (.ptr rfl) fg.p rfl) ?_ | refine ak (O.zZ rfl (.obj rfl) fg.p rfl) ?_))
  | ((with_reducible apply aE.de (.fieldAddr _ _ _) none); (first | refine ak (O.ns rfl (.obj rfl) cx.p rfl) ?_ | refine ak (O.BO (.cw rfl) cx.p) ?_ | refine ak (O.ns rfl (.ptr rfl) cx.p rfl) ?_))
  | ((with_reducible apply aE.de (.assign (.tmp _)) none); (first | refine Hy rfl ?_ | refine ak (O.az (.bd rfl)) ?_ | refine ak (O.az (.own rfl)) ?_ | refine ak (O.az (.obj rfl)) ?_ | refine ak (O.az (.cw rfl)) ?_ | refine ak (O.az (.ptr rfl)) ?_ | refine ak (O.az (.a6 rfl)) ?_))
  | ((with_reducible apply aE.de (.assign (.const _)) none); (first | refine Ss rfl ?_ | refine ak (O.az .xP) ?_))
  | ((with_reducible apply aE.de (.indexAddr _ _ _) none); (first | refine ak (O.o' (.bd rfl) (.lit rfl) eE.p (by assumption)) ?_ | refine ak (O.o' (.bd rfl) (.k rfl) eE.p (by assumption)) ?_))
  | ((with_reducible apply aE.de (.binOp .add _ _ _ _) none); (first | refine ak (O.add (.lit rfl) (.k rfl)) ?_ | refine ak (O.add (.lit rfl) (.lit rfl)) ?_ | refine ak (O.add (.k rfl) (.lit rfl)) ?_))
  | ((with_reducible apply aE.de (.binOp .lss _ _ _ _) none); (first | refine ak (O.lss (.lit rfl) (.k rfl)) ?_ | refine ak (O.lss (.lit rfl) (.lit rfl)) ?_ | refine ak (O.lss (.k rfl) (.lit rfl)) ?_))
  | ((with_reducible apply aE.de (.binOp .eql _ _ _ _) none); (first | refine ak (O.eql (.lit rfl) (.k rfl)) ?_ | refine ak (O.eql (.lit rfl) (.lit rfl)) ?_ | refine ak (O.eql (.k rfl) (.lit rfl)) ?_ | refine ak (O.sX (.lit rfl) (.lit rfl)) ?_ | refine ak (O.sX (.lit rfl) (.k rfl)) ?_))
  | ((with_reducible apply aE.de (.binOp .neq _ _ _ _) none); (first | refine ak (O.neq (.lit rfl) (.k rfl)) ?_ | refine ak (O.neq (.lit rfl) (.lit rfl)) ?_ | refine ak (O.neq (.k rfl) (.lit rfl)) ?_ | refine ak (O.qD (.lit rfl) (.lit rfl)) ?_ | refine ak (O.qD (.lit rfl) (.k rfl)) ?_))
  | ((with_reducible apply aE.de (.binOp .geq _ _ _ _) none); (first | refine ak (O.geq (.lit rfl) (.k rfl)) ?_ | refine ak (O.geq (.lit rfl) (.lit rfl)) ?_ | refine ak (O.geq (.k rfl) (.lit rfl)) ?_))
  | ((with_reducible apply aE.de (.binOp .gtr _ _ _ _) none); (first | refine ak (O.gtr (.lit rfl) (.k rfl)) ?_ | refine ak (O.gtr (.lit rfl) (.lit rfl)) ?_ | refine ak (O.gtr (.k rfl) (.lit rfl)) ?_))
  | ((with_reducible apply aE.de (.binOp .sub _ _ _ _) none); (first | refine ak (O.sub (.lit rfl) (.k rfl)) ?_ | refine ak (O.sub (.lit rfl) (.lit rfl)) ?_ | refine ak (O.sub (.k rfl) (.lit rfl)) ?_))
  | ((with_reducible apply aE.de (.binOp .leq _ _ _ _) none); (first | refine ak (O.leq (.lit rfl) (.k rfl)) ?_ | refine ak (O.leq (.lit rfl) (.lit rfl)) ?_ | refine ak (O.leq (.k rfl) (.lit rfl)) ?_))
  | ((with_reducible apply aE.de (.pick _ _ _) none); (first | refine ak (O.hN (.lit rfl) rfl (.lit rfl)) ?_ | refine ak (O.ml (.lit rfl) rfl (.lit rfl)) ?_ | refine ak (O.hN (.lit rfl) rfl (.k rfl)) ?_ | refine ak (O.ml (.lit rfl) rfl (.k rfl)) ?_ | refine ak (O.hN (.lit rfl) (by assumption) (.lit rfl)) ?_ | refine ak (O.ml (.lit rfl) (by assumption) (.lit rfl)) ?_ | refine ak (O.hN (.lit rfl) (by assumption) (.k rfl)) ?_ | refine ak (O.ml (.lit rfl) (by assumption) (.k rfl)) ?_))
  | ((with_reducible apply aE.de (.call { callee:=.builtin .len,args:=#[_],argTypes:=#[_] }) none); (first | refine ak (O.mT (.bd rfl) eE.p) ?_ | refine ak (O.lu (.a6 rfl) eE.p) ?_ | refine ak (O.lu (.own rfl) eE.p) ?_ | refine ak (O.z1 (.lit rfl) pw.p) ?_))
  | ((with_reducible apply aE.de (.unOp .not _ _) none); (first | refine ak (O.not (.lit rfl)) ?_))
  | ((with_reducible apply aE.de (.nilCheck _) none); (first | refine ak (O.cP (.ptr rfl)) ?_ | refine ak (O.Dd (.cw rfl)) ?_ | refine ak (O.cP (.obj rfl)) ?_))
  | ((with_reducible apply aE.de (.index _ _ _) none); (first | refine ak (O.oy (.lit rfl) (.lit rfl) pw.p (by assumption)) ?_))
  | ((with_reducible apply aE.de (.move (.const _)) none); (first | refine ak (O.aS (.k rfl)) ?_ | refine ak (O.aS .xP) ?_)))
 | ((with_reducible apply aE.nl); first | exact bH rfl | refine j' ?_)
 | ((with_reducible apply aE.de _ (some _)); first
  | (first | refine gl rfl ?_ | refine Sm ?_ | refine EK ?_)
  | ((with_reducible apply aE.de (.move (.tmp _)) (some _)); (first | refine bu rfl (O.aS (.lit rfl)) ?_ | refine eO (O.aS (.lit rfl)) ?_ | refine bu rfl (O.aS (.bd rfl)) ?_ | refine eO (O.aS (.bd rfl)) ?_ | refine bu rfl (O.aS (.own rfl)) ?_ | refine eO (O.aS (.own rfl)) ?_ | refine bu rfl (O.aS (.obj rfl)) ?_ | refine eO (O.aS (.obj rfl)) ?_ | refine bu rfl (O.aS (.cw rfl)) ?_ | refine eO (O.aS (.cw rfl)) ?_ | refine bu rfl (O.aS (.ptr rfl)) ?_ | refine eO (O.aS (.ptr rfl)) ?_ | refine bu rfl (O.aS (.a6 rfl)) ?_ | refine eO (O.aS (.a6 rfl)) ?_))
  | ((with_reducible apply aE.de (.load _ _) (some _)); (first | refine bu rfl (O.pc rfl (.ptr rfl) fg.p rfl) ?_ | refine eO (O.pc rfl (.ptr rfl) fg.p rfl) ?_ | refine bu rfl (O.C7 (.cw rfl) fg.p rfl) ?_ | refine eO (O.C7 (.cw rfl) fg.p rfl) ?_ | refine bu rfl (O.zY rfl (.ptr rfl) fg.p rfl) ?_ | refine eO (O.zY rfl (.ptr rfl) fg.p rfl) ?_ | refine bu rfl (O.pc rfl (.obj rfl) fg.p rfl) ?_ | refine eO (O.pc rfl (.obj rfl) fg.p rfl) ?_ | refine bu rfl (O.zY rfl (.obj rfl) fg.p rfl) ?_ | refine eO (O.zY rfl (.obj rfl) fg.p rfl) ?_ | refine bu rfl (O.zZ rfl (.ptr rfl) fg.p rfl) ?_ | refine eO (O.zZ rfl (.ptr rfl) fg.p rfl) ?_ | refine bu rfl (O.zZ rfl (.obj rfl) fg.p rfl) ?_ | refine eO (O.zZ rfl (.obj rfl) fg.p rfl) ?_))
  | ((with_reducible apply aE.de (.fieldAddr _ _ _) (some _)); (first | refine bu rfl (O.ns rfl (.obj rfl) cx.p rfl) ?_ | refine eO (O.ns rfl (.obj rfl) cx.p rfl) ?_ | refine bu rfl (O.BO (.cw rfl) cx.p) ?_ | refine eO (O.BO (.cw rfl) cx.p) ?_ | refine bu rfl (O.ns rfl (.ptr rfl) cx.p rfl) ?_ | refine eO (O.ns rfl (.ptr rfl) cx.p rfl) ?_))
  | ((with_reducible apply aE.de (.indexAddr _ _ _) (some _)); (first | refine bu rfl (O.o' (.bd rfl) (.lit rfl) eE.p (by assumption)) ?_ | refine eO (O.o' (.bd rfl) (.lit rfl) eE.p (by assumption)) ?_ | refine bu rfl (O.o' (.bd rfl) (.k rfl) eE.p (by assumption)) ?_ | refine eO (O.o' (.bd rfl) (.k rfl) eE.p (by assumption)) ?_))
  | ((with_reducible apply aE.de (.binOp .add _ _ _ _) (some _)); (first | refine bu rfl (O.add (.lit rfl) (.k rfl)) ?_ | refine eO (O.add (.lit rfl) (.k rfl)) ?_ | refine bu rfl (O.add (.lit rfl) (.lit rfl)) ?_ | refine eO (O.add (.lit rfl) (.lit rfl)) ?_ | refine bu rfl (O.add (.k rfl) (.lit rfl)) ?_ | refine eO (O.add (.k rfl) (.lit rfl)) ?_))
  | ((with_reducible apply aE.de (.binOp .lss _ _ _ _) (some _)); (first | refine bu rfl (O.lss (.lit rfl) (.k rfl)) ?_ | refine eO (O.lss (.lit rfl) (.k rfl)) ?_ | refine bu rfl (O.lss (.lit rfl) (.lit rfl)) ?_ | refine eO (O.lss (.lit rfl) (.lit rfl)) ?_ | refine bu rfl (O.lss (.k rfl) (.lit rfl)) ?_ | refine eO (O.lss (.k rfl) (.lit rfl)) ?_))
  | ((with_reducible apply aE.de (.binOp .eql _ _ _ _) (some _)); (first | refine bu rfl (O.eql (.lit rfl) (.k rfl)) ?_ | refine eO (O.eql (.lit rfl) (.k rfl)) ?_ | refine bu rfl (O.eql (.lit rfl) (.lit rfl)) ?_ | refine eO (O.eql (.lit rfl) (.lit rfl)) ?_ | refine bu rfl (O.eql (.k rfl) (.lit rfl)) ?_ | refine eO (O.eql (.k rfl) (.lit rfl)) ?_ | refine bu rfl (O.sX (.lit rfl) (.lit rfl)) ?_ | refine eO (O.sX (.lit rfl) (.lit rfl)) ?_ | refine bu rfl (O.sX (.lit rfl) (.k rfl)) ?_ | refine eO (O.sX (.lit rfl) (.k rfl)) ?_))
  | ((with_reducible apply aE.de (.binOp .neq _ _ _ _) (some _)); (first | refine bu rfl (O.neq (.lit rfl) (.k rfl)) ?_ | refine eO (O.neq (.lit rfl) (.k rfl)) ?_ | refine bu rfl (O.neq (.lit rfl) (.lit rfl)) ?_ | refine eO (O.neq (.lit rfl) (.lit rfl)) ?_ | refine bu rfl (O.neq (.k rfl) (.lit rfl)) ?_ | refine eO (O.neq (.k rfl) (.lit rfl)) ?_ | refine bu rfl (O.qD (.lit rfl) (.lit rfl)) ?_ | refine eO (O.qD (.lit rfl) (.lit rfl)) ?_ | refine bu rfl (O.qD (.lit rfl) (.k rfl)) ?_ | refine eO (O.qD (.lit rfl) (.k rfl)) ?_))
  | ((with_reducible apply aE.de (.binOp .geq _ _ _ _) (some _)); (first | refine bu rfl (O.geq (.lit rfl) (.k rfl)) ?_ | refine eO (O.geq (.lit rfl) (.k rfl)) ?_ | refine bu rfl (O.geq (.lit rfl) (.lit rfl)) ?_ | refine eO (O.geq (.lit rfl) (.lit rfl)) ?_ | refine bu rfl (O.geq (.k rfl) (.lit rfl)) ?_ | refine eO (O.geq (.k rfl) (.lit rfl)) ?_))
  | ((with_reducible apply aE.de (.binOp .gtr _ _ _ _) (some _)); (first | refine bu rfl (O.gtr (.lit rfl) (.k rfl)) ?_ | refine eO (O.gtr (.lit rfl) (.k rfl)) ?_ | refine bu rfl (O.gtr (.lit rfl) (.lit rfl)) ?_ | refine eO (O.gtr (.lit rfl) (.lit rfl)) ?_ | refine bu rfl (O.gtr (.k rfl) (.lit rfl)) ?_ | refine eO (O.gtr (.k rfl) (.lit rfl)) ?_))
  | ((with_reducible apply aE.de (.binOp .sub _ _ _ _) (some _)); (first | refine bu rfl (O.sub (.lit rfl) (.k rfl)) ?_ | refine eO (O.sub (.lit rfl) (.k rfl)) ?_ | refine bu rfl (O.sub (.lit rfl) (.lit rfl)) ?_ | refine eO (O.sub (.lit rfl) (.lit rfl)) ?_ | refine bu rfl (O.sub (.k rfl) (.lit rfl)) ?_ | refine eO (O.sub (.k rfl) (.lit rfl)) ?_))
  | ((with_reducible apply aE.de (.binOp .leq _ _ _ _) (some _)); (first | refine bu rfl (O.leq (.lit rfl) (.k rfl)) ?_ | refine eO (O.leq (.lit rfl) (.k rfl)) ?_ | refine bu rfl (O.leq (.lit rfl) (.lit rfl)) ?_ | refine eO (O.leq (.lit rfl) (.lit rfl)) ?_ | refine bu rfl (O.leq (.k rfl) (.lit rfl)) ?_ | refine eO (O.leq (.k rfl) (.lit rfl)) ?_))
  | ((with_reducible apply aE.de (.call { callee:=.builtin .len,args:=#[_],argTypes:=#[_] }) (some _)); (first | refine bu rfl (O.mT (.bd rfl) eE.p) ?_ | refine eO (O.mT (.bd rfl) eE.p) ?_ | refine bu rfl (O.lu (.a6 rfl) eE.p) ?_ | refine eO (O.lu (.a6 rfl) eE.p) ?_ | refine bu rfl (O.lu (.own rfl) eE.p) ?_ | refine eO (O.lu (.own rfl) eE.p) ?_ | refine bu rfl (O.z1 (.lit rfl) pw.p) ?_ | refine eO (O.z1 (.lit rfl) pw.p) ?_))
  | ((with_reducible apply aE.de (.unOp .not _ _) (some _)); (first | refine bu rfl (O.not (.lit rfl)) ?_ | refine eO (O.not (.lit rfl)) ?_))
  | ((with_reducible apply aE.de (.nilCheck _) (some _)); (first | refine bu rfl (O.cP (.ptr rfl)) ?_ | refine eO (O.cP (.ptr rfl)) ?_ | refine bu rfl (O.Dd (.cw rfl)) ?_ | refine eO (O.Dd (.cw rfl)) ?_ | refine bu rfl (O.cP (.obj rfl)) ?_ | refine eO (O.cP (.obj rfl)) ?_))
  | ((with_reducible apply aE.de (.index _ _ _) (some _)); (first | refine bu rfl (O.oy (.lit rfl) (.lit rfl) pw.p (by assumption)) ?_ | refine eO (O.oy (.lit rfl) (.lit rfl) pw.p (by assumption)) ?_)))
 | with_reducible apply aE.S1
 | with_reducible apply aE.S2))):aE P N ops l g K:=h
theorem W.SH {id:Nat}{l:List Oper}{G G1:List (Nat × ab)}{Φ:Exit->aL->Prop}(ks:List Nat) (hk:ax .normal Φ G1) (h:aE P N l.toArray l (get G) (yZ ks G1):=by exact aE.bo):W P N (.region id l.toArray false) (get G) Φ:=W.bY ks h hk
theorem W.az {id:Nat}{l:List Oper}{B:Code}{G:List (Nat × ab)}{Φ:Exit->aL->Prop}(G1:List (Nat × ab)) (hk:W P N B (get G1) Φ) (h:aE P N l.toArray l (get G) (λg'=>np g' (get G1)):=by exact aE.bo):W P N (.seq (.region id l.toArray false) B) (get G) Φ:=W.rs G1 h hk
theorem W.bK {id:Nat}{l:List Oper}{B:Code}{G G1:List (Nat × ab)}{Φ:Exit->aL->Prop}(ks:List Nat) (hk:W P N B (get G1) Φ) (h:aE P N l.toArray l (get G) (yZ ks G1):=by exact aE.bo):W P N (.seq (.region id l.toArray false) B) (get G) Φ:=W.ck ks h hk
end
section
variable {P:Program}{N:cN}{G:List (Nat × ab)}{g':aL}
theorem jz {rs:List ResultVar}{ys xs:List ab}{res:ab}{outs:List (Option ab)}{n:Nat}(h:kb P (get G) rs ys xs g') (he:pX xs=res:=by rfl) (aW:q4 g' N.pins 0 outs:=by (repeat' first | exact .nil | refine .no ?_)) (eA:(rs.filterMap fun | .cell t _=>some t | _=>none).Nodup:=by exact of_decide_eq_true (by kernel_rfl)) (ah:outs.length=n:=by rfl):ax .ret (p4 P N rs n outs res) G:=ax.fin (Fin.ro h he eA aW ah (.inr rfl))
end
section
variable {P:Program}{N:cN}{G:List (Nat × ab)}{g':aL}{S R:Type}
theorem aU {α β:Type}{x:Option α}{f:α->Option β}{r:β}{G:Prop}(h:x.bind f=some r) (k:∀ a,x=some a->f a=some r->G):G:=by
 obtain ⟨a,h1,af⟩:=u' h
 grind
theorem Rd.a_ {g:aL}{t:Nat}{v:Value}(h:g t=some (.lit v):=by rfl):Rd g (.tmp t) (.lit v):=.lit h
theorem Rd.z2 {g:aL}{t z n:Nat}{cs:List ab}(h:g t=some (.bd z n cs):=by rfl):Rd g (.tmp t) (.bd z n cs):=.bd h
theorem Rd.z3 {g:aL}{t z n:Nat}{cs:List ab}(h:g t=some (.own z n cs):=by rfl):Rd g (.tmp t) (.a6 z ⟨t,[]⟩ n):=.own h
theorem Rd.z4 {g:aL}{t:Nat}{c:ab}{cs:List ab}(h:g t=some (.obj (c::cs)):=by rfl):Rd g (.tmp t) (.ptr ⟨t,[]⟩ 0):=.obj h
theorem Rd.z5 {g:aL}{t k:Nat}{p:Place}(h:g t=some (.ptr p k):=by rfl):Rd g (.tmp t) (.ptr p k):=.ptr h
theorem Rd.c6 {g:aL}{t z n:Nat}{p:Place}(h:g t=some (.a6 z p n):=by rfl):Rd g (.tmp t) (.a6 z p n):=.a6 h
theorem Rd.my {g:aL}{t:Nat}{cs:List ab}(h:g t=some (.cw cs):=by rfl):Rd g (.tmp t) (.cw cs):=.cw h
theorem Rd.ch {g:aL}{v:Value}(h:ofConst v=.lit v:=by rfl):Rd g (.const v) (.lit v):=.k h
theorem ax.dg {G1:List (Nat × ab)}(h:Trim true (get G) (get G1) G1:=by (repeat' first | exact .nil | refine .n rfl ?_)):ax .normal (λe g=>e=.normal/\ia g G1) G:=ax.dB h
theorem ax.gt {s:S}{F:S->List (Nat × ab)}{Ψ:R->Exit->aL->Prop}(h:Trim true (get G) (get (F s)) (F s):=by (repeat' first | exact .nil | refine .n rfl ?_)):ax .normal (lg F Ψ (.inl s)) G:=ax.go h
theorem ax.t1 {id:Nat}{r:R}{F:S->List (Nat × ab)}{mA:R->List (Nat × ab)}(h:Trim true (get G) (get (mA r)) (mA r):=by (repeat' first | exact .nil | refine .n rfl ?_)):ax (.exit id) (lg F (λr e g=>e=.exit id/\ia g (mA r)) (.inr r)) G:=ax.aR h
theorem lE {rs:List ResultVar}{ys xs:List ab}{res:ab}{outs:List (Option ab)}{n:Nat}(h:kb P (get G) rs ys xs g':=by exact .f rfl rfl .nil) (he:pX xs=res:=by rfl) (aW:q4 g' N.pins 0 outs:=by (repeat' first | exact .nil | refine .no ?_)) (eA:(rs.filterMap fun | .cell t _=>some t | _=>none).Nodup:=by exact of_decide_eq_true (by kernel_rfl)) (ah:outs.length=n:=by rfl):ax .ret (p4 P N rs n outs res) G:=by grind [jz]
end
section
variable {α:Type}{P:Program}{g:aL}{ty t:TypeId}{a b:Operand}{k r z n:Nat}{cs cs':List ab}{x y:ab}{p:Place}{m:Int}{uw:IntKind}{e:TypeId}{N:cN}{ops:Array Oper}
theorem O.bB {cy f off:Nat} [h:cx P cy f off t] (J:Rd g a (.ptr ⟨r,[]⟩ k):=by exact .obj rfl) (aw:g r=some (.obj cs):=by rfl) (ah:Nat.blt (k+off) cs.length=true:=by rfl):bT P g (.fieldAddr cy a f) ty (.ptr ⟨r,[]⟩ (k+off)):=O.ns aw J h.p ah
theorem O.y2 {cy f off:Nat} [h:cx P cy f off t] (J:Rd g a (.ptr ⟨r,[]⟩ k):=by exact .ptr rfl) (aw:g r=some (.obj cs):=by rfl) (ah:Nat.blt (k+off) cs.length=true:=by rfl):bT P g (.fieldAddr cy a f) ty (.ptr ⟨r,[]⟩ (k+off)):=O.ns aw J h.p ah
theorem O.cV {v:Value} [h:fg P t] (J:Rd g a (.ptr ⟨r,[]⟩ k):=by exact .ptr rfl) (aw:g r=some (.obj cs):=by rfl) (aa:cs[k]?=some (.lit v):=by rfl):bT P g (.load t a) ty (.lit v):=O.pc aw J h.p aa
theorem O.gY {en:bN α}{L:List α}{y:α}{bR:Nat}(h:idx L m=some y) [aD:eE P t e bR] (J:Rd g a (.bd en.z L.length (bA en L)):=by exact .bd rfl) (ao:Rd g b (.lit (.int uw m)):=by exact .lit rfl) (aX:bR=en.z:=by rfl):bT P g (.indexAddr t a b) ty (.cw (en.cells y++bA en (L.drop (m.toNat+1)))):=O.o' J ao (aX ▸ aD.p) h
theorem O.cJ [h:fg P t] (J:Rd g a (.ptr ⟨r,[]⟩ k):=by exact .ptr rfl) (aw:g r=some (.obj cs):=by rfl) (aa:cs[k]?=some x:=by rfl) (ao:fW 0 ⟨r,[k]⟩ x=y:=by rfl):bT P g (.load t a) ty y:=O.qC aw J h.p aa ao
theorem O.iZ [h:fg P t] (J:Rd g a (.cw cs):=by exact .cw rfl) (aa:cs.head?=some x:=by rfl):bT P g (.load t a) ty x:=O.C7 J h.p aa
theorem O.rR {cy f off:Nat} [h:cx P cy f off t] (J:Rd g a (.cw cs):=by exact .cw rfl):bT P g (.fieldAddr cy a f) ty (.cw (cs.drop off)):=O.BO J h.p
theorem O.la {bR:Nat} [h:eE P t e bR] (J:Rd g a (.bd z n cs):=by exact .bd rfl):bT P g (.call { callee:=.builtin .len,args:=#[a],argTypes:=#[t] }) ty (ae n):=O.mT J h.p
theorem cd.dY {xs:List Operand}{fM:Array TypeId}{f:FuncId}{ys:List ab}{outs:List (Option ab)}{res:ab}(J:q3 g xs ys) (ha:bO P f ys outs res) [hr:b6 res] (aT:hx P f=true:=by kernel_rfl) (aW:uz outs=true:=by rfl):cd P g (.call { callee:=.value (.func f),args:=xs.toArray,argTypes:=fM }) res:=by grind [cd.go]
theorem cd.mu {xs:List Operand}{fM:Array TypeId}{f:FuncId}{ys args:List ab}{outs:List (Option ab)}{res:ab}(J:hc g xs=some ys) (hv:oZ g ys args) (ha:bO P f args outs res) [hr:p6 res] (aT:hx P f=true:=by kernel_rfl) (aW:uz outs=true:=by rfl):cd P g (.call { callee:=.value (.func f),args:=xs.toArray,argTypes:=fM }) res:=by grind [cd.vw]
end
section
variable {P:Program}{N:cN}{ops:Array Oper}{bj:List (List Nat)}{K:aL->Prop}{i:Nat}{acc:Acc}{l:List Oper}{d:Nat}
theorem bC.gS (bX:Nat) {G G2:List (Nat × ab)}{o:Oper}(he:bc P N (dr (get G) (λ_=>true) acc) o (get G2)) (hk:bC P N ops bj (get G2) (bX+1) [] l K) (aP:o.guard=none:=by rfl) (gN:sy ((acc.filterMap k7).map Place.root)=true:=by rfl) (fL:n' G=true:=by rfl) (ag:Nat.beq ops.size (bX+l.length+1)=true:=by rfl) (aI:(List.range bX).all (λk=>(bj.getD bX []).contains k)=true:=by kernel_rfl) (au:(List.range ops.size).all (λk=>Nat.ble k bX||(bj.getD k []).contains bX)=true:=by kernel_rfl):bC P N ops bj (get G) i acc (o::l) K:=.zi bX he aP gN fL ag aI au hk
theorem bC.HP (bX:Nat) {G G2:List (Nat × ab)}{o:Oper}{x:ab}(he:bc P N (dr (get G) (λ_=>true) acc) o (cR (get G2) d x)) (hk:bC P N ops bj (get ((d,x)::G2)) (bX+1) [] l K) (aP:o.guard=none:=by rfl) (gN:sy ((acc.filterMap k7).map Place.root)=true:=by rfl) (fL:n' G=true:=by rfl) (ag:Nat.beq ops.size (bX+l.length+1)=true:=by rfl) (aI:(List.range bX).all (λk=>(bj.getD bX []).contains k)=true:=by kernel_rfl) (au:(List.range ops.size).all (λk=>Nat.ble k bX||(bj.getD k []).contains bX)=true:=by kernel_rfl):bC P N ops bj (get G) i acc (o::l) K:=.bv bX he aP gN fL ag aI au hk
end
def qM:List ab->Nat->List ab->Option (List ab)
 | [],0,[]=>some []
 | [],_,_=>none
 | x::l,0,[]=>some (x::l)
 | _::l,0,y::c=>match qM l 0 c with
  | some r=>some (y::r)
  | none=>none
 | x::l,k+1,c=>match qM l k c with
  | some r=>some (x::r)
  | none=>none
theorem od:∀ {l:List ab}{k:Nat}{c r:List ab},qM l k c=some r->eX l k c=r/\k+c.length<=l.length
 | [],0,[],r,h=>by cases h; exact ⟨rfl,Nat.le_refl _⟩
 | [],0,_::_,_,h=>by cases h
 | [],_+1,_,_,h=>by cases h
 | x::l,0,[],r,h=>by cases h; exact ⟨by simp [eX],by simp⟩
 | x::l,0,y::c,r,h=>by
  unfold qM at h
  split at h
  ·rename_i c' hr;cases h;obtain ⟨h1,af⟩:=od hr;subst h1;exact ⟨by simp [eX],by simp at af ⊢; omega⟩
  ·cases h
 | x::l,k+1,c,r,h=>by
  unfold qM at h
  split at h
  ·rename_i c' hr;cases h;obtain ⟨h1,af⟩:=od hr;subst h1;exact ⟨by simp [eX,Nat.add_right_comm],by simp; omega⟩
  ·cases h
theorem DW {g g2:aL}{r:Nat}{cs2:List ab}:∀ {ks:List Nat}{G1:List (Nat × ab)},pick (cR g r (.obj cs2)) ks=some G1->(∀ e∈G1,cC e.2)->lh g g2 r cs2 G1
 | [],_,h,_=>by cases h; exact .nil
 | k::ks,G1,h,aB=>by
  unfold pick at h
  split at h
  ·rename_i x J
   split at h
   ·rename_i l ah;cases h;have ar:=DW (g2:=g2) ah λe he=>aB e (by simp [he]);by_cases e:k=r
    ·subst e;have e:x=.obj cs2:=by simpa [cR] using J.symm
     subst e;have J:cC (.obj cs2):=aB (k,.obj cs2) (by simp);have:dk cs2:=⟨by cases J; assumption⟩;exact .b rfl ar
    ·have:b6 x:=⟨aB (k,x) (by simp)⟩;exact .n (by rw [<- Bool.not_eq_true,Nat.beq_eq]; exact e) (by simpa [cR,e] using J) ar
   ·cases h
  ·cases h
theorem Lc {g g2:aL}{ex:List Nat}:∀ {ks:List Nat}{G1:List (Nat × ab)},pick g ks=some G1->(ks.all λk=>!ex.elem k)=true->(∀ e∈G1,cC e.2)->nn ex g g2 G1
 | [],_,h,_,_=>by cases h; exact .nil
 | k::ks,G1,h,he,aB=>by
  unfold pick at h;rw [List.all_cons,Bool.and_eq_true] at he
  split at h
  ·rename_i x J
   split at h
   ·rename_i l ah;cases h;have:b6 x:=⟨aB (k,x) (by simp)⟩;exact .n (by simpa using he.1) J (Lc ah he.2 λe h=>aB e (by simp [h]))
   ·cases h
  ·cases h
def F9:List ab->Option (List ab)
 | []=>some []
 | x::l=>match F9 l with
  | some r=>some (x::r)
  | none=>none
theorem PS:∀ {l r:List ab},F9 l=some r->l=r
 | [],r,h=>by cases h; rfl
 | x::l,r,h=>by
  unfold F9 at h
  split at h
  ·rename_i c' hr;cases h; rw [PS hr]
  ·cases h
def F_:ab->Option ab
 | .obj cs=>match F9 cs with
  | some r=>some (.obj r)
  | none=>none
 | .own z n cs=>some (.own z n cs)
 | _=>none
theorem PT {x y:ab}(h:F_ x=some y):x=y:=by
 unfold F_ at h
 grind [PS]
theorem Ld {g g2:aL}{r:Nat}{x2:ab}:∀ {ks:List Nat}{G1:List (Nat × ab)},pick (cR g r x2) ks=some G1->(∀ e∈G1,cC e.2)->kT g g2 r x2 G1
 | [],_,h,_=>by cases h; exact .nil
 | k::ks,G1,h,aB=>by
  unfold pick at h
  split at h
  ·rename_i x J
   split at h
   ·rename_i l ah;cases h;have ar:=Ld (g2:=g2) ah λe he=>aB e (by simp [he]);by_cases e:k=r
    ·subst e;have e:x=x2:=by simpa [cR] using J.symm
     subst e;have:b6 x:=⟨aB (k,x) (by simp)⟩;exact .b rfl ar
    ·have:b6 x:=⟨aB (k,x) (by simp)⟩;exact .n (by rw [<- Bool.not_eq_true,Nat.beq_eq]; exact e) (by simpa [cR,e] using J) ar
   ·cases h
  ·cases h
section
variable {P:Program}{N:cN}{ops:Array Oper}{g:aL}{K:aL->Prop}{l:List Oper}{d r k0:Nat}{ty t:TypeId}{pos:String}{after:Array Edge}{a b x:Operand}{cs cs' cs2:List ab}{y:ab}{G2:List (Nat × ab)}{u:Option (Nat × Bool)}{p q:Place}
theorem Rd.RT {α:Type}{en:bN α}{L:List α}{t:Nat}(h:g t=some (aj en L)):Rd g (.tmp t) (aj en L):=.bd h
theorem bc.ff (ks:List Nat) (aI:Rd g a (.ptr ⟨r,[]⟩ k0):=by (first | exact .obj rfl | exact .ptr rfl)) (aw:g r=some (.obj cs):=by rfl) (au:Rd g b (.agg cs'):=by (first | exact .dm rfl rfl | exact .KG rfl)) (he:qM cs k0 cs'=some cs2:=by rfl) (aq:pick (cR g r (.obj cs2)) ks=some G2:=by rfl) (aX:hq P t cs'.length=true:=by kernel_rfl) (aK:Nat.blt 0 cs'.length=true:=by rfl) (hr:(get G2 r).isSome=true:=by rfl) [aB:dk cs'] [eH:dk cs] [aP:jU G2]:bc P N g ⟨none,.store t a b,ty,pos,after,none⟩ (get G2) :=
 .j_ rfl rfl aw aI au rfl aX (Nat.ble_eq_true_of_le (od he).2) aK (od he).1 hr (DW aq aP.p)
theorem bc.l1 (ks:List Nat) (aI:Rd g a (.ptr ⟨r,[]⟩ k0):=by (first | exact .ptr rfl | exact .obj rfl)) (aw:g r=some (.obj cs):=by rfl) (au:Rd g b y:=by (first | exact .lit rfl | exact .k rfl | exact .RT rfl | exact .xP | exact .bd rfl)) (aa:o1 y=some [y]:=by rfl) (he:qM cs k0 [y]=some cs2:=by rfl) (aq:pick (cR g r (.obj cs2)) ks=some G2:=by rfl) (aX:hq P t 1=true:=by kernel_rfl) (hr:(get G2 r).isSome=true:=by rfl) [aB:b6 y] [eH:dk cs] [aP:jU G2]:bc P N g ⟨none,.store t a b,ty,pos,after,none⟩ (get G2) :=
 .j_ rfl rfl aw aI au aa aX (Nat.ble_eq_true_of_le (od he).2) rfl (od he).1 hr (DW aq aP.p)
theorem bc.kU {α:Type}{en:bN α}{L:List α}(ks:List Nat) (J:Rd g x (.a6 en.z p L.length):=by (first | exact .own rfl | exact .a6 rfl)) (aq:bG g p=some (aC en L):=by rfl) (hk:pick g ks=some G2:=by rfl) (cO:(ks.all λk=>![p.root].elem k)=true:=by rfl) (aP:get G2 d=none:=by rfl) (bp:N.ok d=true:=by rfl) [aB:jU G2]:bc P N g ⟨some d,.assign x,ty,pos,after,u⟩ (cR (get G2) d (aC en L)) :=
 .EO rfl rfl J aq (Lc hk cO aB.p) aP bp
theorem bc.wL {α:Type}{en:bN α}{L M:List α}{s:Nat}(ks:List Nat) (J:Rd g x (.a6 en.z ⟨s,[]⟩ (L.length+M.length)):=by exact .bL rfl) (aw:g s=some (.bL en.z q L.length M.length (bA en M)):=by rfl) (aq:bG g q=some (aC en L):=by rfl) (hk:pick g ks=some G2:=by rfl) (cO:(ks.all λk=>![s,q.root].elem k)=true:=by rfl) (a8:Nat.beq q.root s=false:=by rfl) (aP:get G2 d=none:=by rfl) (bp:N.ok d=true:=by rfl) [aB:jU G2]:bc P N g ⟨some d,.assign x,ty,pos,after,u⟩ (cR (get G2) d (aC en (L++M))) :=
 .Mu rfl rfl J aw aq a8 (Lc hk cO aB.p) aP bp
theorem bc.sp {α:Type}{en:bN α}{L M:List α}{s:Nat}{cs1:List ab}(ks:List Nat) (au:Rd g b (.a6 en.z ⟨s,[]⟩ (L.length+M.length)):=by exact .bL rfl) (qt:g s=some (.bL en.z q L.length M.length (bA en M)):=by rfl) (aq:bG g q=some (aC en L):=by rfl) (aI:Rd g a (.ptr ⟨r,[]⟩ k0):=by (first | exact .ptr rfl | exact .obj rfl)) (aw:cn (cn g ⟨s,[]⟩ .dead) q .dead r=some (.obj cs1):=by rfl) (he:qM cs1 k0 [aC en (L++M)]=some cs2:=by rfl) (hk:pick (cR (cn (cn g ⟨s,[]⟩ .dead) q .dead) r (.obj cs2)) ks=some G2:=by rfl) (a8:Nat.beq q.root s=false:=by rfl) (aX:hq P t 1=true:=by kernel_rfl) (hr:(get G2 r).isSome=true:=by rfl) [eH:dk cs1] [aP:jU G2]:bc P N g ⟨none,.store t a b,ty,pos,after,none⟩ (get G2) :=
 .GZ rfl rfl aI au qt aq a8 .js .hX rfl rfl aX aw (Nat.ble_eq_true_of_le (od he).2) (od he).1 hr (DW hk aP.p)
theorem bc.uT {α:Type}{en:bN α}{L:List α}{cs1:List ab}(ks:List Nat) (au:Rd g b (.a6 en.z p L.length):=by (first | exact .own rfl | exact .a6 rfl)) (aq:bG g p=some (aC en L):=by rfl) (aI:Rd g a (.ptr ⟨r,[]⟩ k0):=by (first | exact .ptr rfl | exact .obj rfl)) (aw:cn g p .dead r=some (.obj cs1):=by rfl) (he:qM cs1 k0 [aC en L]=some cs2:=by rfl) (hk:pick (cR (cn g p .dead) r (.obj cs2)) ks=some G2:=by rfl) (aX:hq P t 1=true:=by kernel_rfl) (hr:(get G2 r).isSome=true:=by rfl) [eH:dk cs1] [aP:jU G2]:bc P N g ⟨none,.store t a b,ty,pos,after,none⟩ (get G2) :=
 .tr rfl rfl aI au (.r aq .nil) .refl rfl aX aw (Nat.ble_eq_true_of_le (od he).2) rfl (od he).1 hr (DW hk aP.p)
theorem bc.uN {α:Type}{en:bN α}{L:List α}{iM y2:α}{m:Int}{o:Nat}{dU x2 y0:ab}(ks:List Nat) (h:idx L m=some iM) (aI:Rd g a (.ptr p (m.toNat * en.z+o)):=by exact .ptr rfl) (aq:bG g p=some (aC en L):=by rfl) (au:Rd g b y:=by (first | exact .lit rfl | exact .k rfl | exact .RT rfl | exact .xP | exact .bd rfl | exact .dm rfl rfl)) (aa:o1 y=some cs':=by rfl) (he:eX (en.cells iM) o cs'=en.cells y2:=by rfl) (ix:cn g p (aC en (L.set m.toNat y2)) p.root=some dU:=by rfl) (gF:F_ dU=some x2:=by rfl) (hk:pick (cR g p.root x2) ks=some G2:=by rfl) (aX:hq P t cs'.length=true:=by kernel_rfl) (hlen:Nat.ble (o+cs'.length) en.z=true:=by rfl) (aK:Nat.blt 0 cs'.length=true:=by rfl) (hr:(get G2 p.root).isSome=true:=by rfl) (rr:g p.root=some y0:=by rfl) [aB:b6 y] [eH:b6 y0] [aP:jU G2]:bc P N g ⟨none,.store t a b,ty,pos,after,none⟩ (get G2) :=
 .uS rfl rfl aI au aq h aX aa he hlen aK (by rw [ix,PT gF]) hr rr (Ld hk aP.p)
theorem aE.dE {o:Oper}(he:bc P N g o (get G2)) (hk:aE P N ops l (get G2) K) (aP:o.guard=none:=by rfl):aE P N ops (o::l) g K:=.ji aP he hk
theorem aE.b' {o:Oper}(he:bc P N g o (cR (get G2) d y)) (hk:aE P N ops l (cR (get G2) d y) K) (aP:o.guard=none:=by rfl):aE P N ops (o::l) g K:=.q_ aP he hk
end
section
variable {S R:Type}{P:Program}{N:cN}{A B c:Code}{G:List (Nat × ab)}{Φ:Exit->aL->Prop}{id:Nat}
theorem W.eI {G1:List (Nat × ab)}(ks:List Nat) (L:List (Nat × ab)) (h:W P N c (get G) λe g=>e=.normal/\ia g G1) (hk:ax .normal Φ G1) (aq:pick (get (L++G)) ks=some G1:=by rfl):W P N c (get G) Φ:=W.dB _ h hk
theorem W.k8 {G1:List (Nat × ab)}{l:List Oper}(ks:List Nat) (L:List (Nat × ab)) (h:aE P N l.toArray l (get G) λg'=>np g' (get G1)) (hk:W P N B (get G1) Φ) (aq:pick (get (L++G)) ks=some G1:=by rfl):W P N (.seq (.region id l.toArray false) B) (get G) Φ:=W.rs _ h hk
theorem W.gi {f:S->Option (S ⊕ R)}{r:R}{cQ:S->List (Nat × ab)}{mE:R->List (Nat × ab)}(s:S) (F:S->List (Nat × ab)) (ks:List Nat) (id:Nat) (X:R->List (Nat × ab)) (sv:List Nat) (h:cf f s=some r) (au:∀ s o,f s=some o->W P N c (get (cQ s)) (lg cQ (λr e g=>e=.exit id/\ia g (mE r)) o)) (hk:ax (.exit id) Φ (mE r))
  (aH:∀ s,pick (get (F s++G)) ks=some (cQ s):=by intro s; rfl) (eg:∀ s,pick (get (X s++G)) sv=some (mE s):=by intro s; rfl) (ar:Trim true (get G) (get (cQ s)) (cQ s):=by (repeat' first | exact .nil | refine .n rfl ?_ | refine .w rfl rfl .pV ?_ | refine .w rfl rfl .pU ?_ | refine .w rfl rfl (ke.obj (by (repeat' first | exact .nil | refine .f ?_ | refine .o ?_ | refine .i ?_))) ?_)):W P N (.loop c) (get G) Φ :=
 W.c5 ar (W.z7 cQ id mE h au hk)
theorem W.fV {gu:Type}{f:S->Option (S ⊕ (R ⊕ gu))}{r:R ⊕ gu}{cQ:S->List (Nat × ab)}{mE:R->List (Nat × ab)}{tI:gu->List (Nat × ab)}(s:S) (F:S->List (Nat × ab)) (ks:List Nat) (id:Nat) (X:R->List (Nat × ab)) (sv:List Nat) (Y:gu->List (Nat × ab)) (C5:List Nat) (h:cf f s=some r)
  (au:∀ s o,f s=some o->W P N c (get (cQ s)) (lg cQ (λ(r:R ⊕ gu) e g=>match r with | .inl r=>e=.exit id/\ia g (mE r) | .inr r=>e=.ret/\ia g (tI r)) o))
  (J:∀ x,r=.inl x->ax (.exit id) Φ (mE x)) (hr:∀ x,r=.inr x->ax .ret Φ (tI x))
  (aH:∀ s,pick (get (F s++G)) ks=some (cQ s):=by intro s; rfl) (eg:∀ s,pick (get (X s++G)) sv=some (mE s):=by intro s; rfl) (B7:∀ s,pick (get (Y s++G)) C5=some (tI s):=by intro s; rfl) (ar:Trim true (get G) (get (cQ s)) (cQ s):=by (repeat' first | exact .nil | refine .n rfl ?_ | refine .w rfl rfl .pV ?_ | refine .w rfl rfl .pU ?_ | refine .w rfl rfl (ke.obj (by (repeat' first | exact .nil | refine .f ?_ | refine .o ?_ | refine .i ?_))) ?_)):W P N (.loop c) (get G) Φ :=
 W.c5 ar (W.PD cQ id mE tI h au J hr)
end
section
variable {P:Program}{N:cN}{g g1 g2:aL}{d:Nat}{t e:TypeId}{s x:Operand}{z b n m:Nat}{p:Place}{y:ab}{cells cs':List ab}
theorem bc.ME {o:Oper}(aW:o.op=.call { callee:=.builtin .append,args:=#[s,x],argTypes:=#[t,t] }) (aO:o.dst=some d) (aw:bs g s=some (.a6 z p n))
  (J:bs g x=some y) (oJ:Src g y z m cells) (mK:∀ c∈cells,cC c) (ar:h4 P t e z b=true) (o3:n+m<=4611686018427387904) (au:(n+m) * b<=140737488355328)
  (cU:Take g [.a6 z p n] [.own z n cs'] g1) (hk:il g1 g2) (aP:g2 d=none) (bp:N.ok d=true):bc P N g o (cR g2 d (.own z (n+m) (cs'++cells))):=by
 refine .GO λw I T Fs h a aI Wh K Q cZ=>?_;have Wo:=j9 h aw aI;obtain ⟨i,cW,hu,hi,rfl,rfl,aK,aX,lT⟩:=EV ar;obtain ⟨yr,wm,news,rm,ah,xw,xx,eS⟩:=oJ.sound h (j9 h J aI);obtain ⟨fo,H1,rf,re,hg⟩:=cU.sound h.mX (Hand.one Wo);have xr:=cU.Ad _ (List.mem_singleton.2 rfl);have Wn:=re.GG;have o8:=re.off 0;have xl:=λc=>re.bd 0 c (by simp);have XG:∀ c∈cs',cC c:=by
  cases xr with | own h=>exact h
 generalize jo:a.eval s=bv at *;cases Wn with
 | ref J=>simp [ab.isRef] at J
 | @own _ _ _ _ b1 us bH _ kE zI h1 hr Fo gM aH =>
  obtain ⟨dH,w',b3,hj,A⟩:=GK (P:=P) (w:=w) t o.type e b1 i cW hu hi aX lT aK kE (a:=yr) (c:=wm) (m:=m) (news:=news) (λhm=>xw hm aK) ah xx (λu hu=>by
   obtain ⟨k,hk,rfl⟩:=List.mem_iff_getElem.1 hu;exact eS.2.1 k _ (List.getElem?_eq_getElem hk)) (by unfold maxLen; omega) au
  have I9:∀ t c,fo t c->∃ t,Fs t c:=λt c aa=>by
   rcases hg c (.inl ⟨t,aa⟩) with aJ | ⟨_,_,aJ⟩
   ·exact aJ
   ·exact aJ.elim
  have Fk:∀ c,H1 0 c->∃ t,Fs t c:=λc aa=>by
   rcases hg c (.inr ⟨0,by simp,aa⟩) with aJ | ⟨_,_,aJ⟩
   ·exact aJ
   ·exact aJ.elim
  have zA:∀ c,bv.ownBlock=some c->H1 0 c:=λc aa=>(aH c).2 (.inl aa);have JF:∀ k c,k<cs'.length->bH k c->H1 0 c:=λk c hk aa=>(aH c).2 (.inr ⟨k,hk,aa⟩);have aN:∀ c,(∃ t,Fs t c)->c<w.heap.size:=λc ⟨t,aa⟩=>h.iX t c aa;have h7:=(rf.keep hk).world (w':=w') (λt c aa=>A.dK.block c (aN c (I9 t c aa.2)) λau=>o8 t c (by simp) (zA c au) aa.2)
   (λc aa=>A.dK.block c (h.lt c aa) λau=>xl c (zA c au) aa) A.dK.size
  have h6:R w' I (dy w' T g2) (.own i.size (n+m) (cs'++cells)) dH (λc=>dH.ownBlock=some c\/∃ k,k<(cs'++cells).length/\(if k<cs'.length then bH k else cj) c):=by
   refine .own A.new (by rw [List.length_append,List.length_append,zI,eS.1]) (λk u hu=>?_) (λk x u J hu=>?_) (λj k c ag hk aa ep=>?_) (λk c hk aa=>?_) λc=>Iff.rfl
   ·by_cases hk:k<us.length
    ·rw [List.getElem?_append_left hk] at hu; exact h1 k u hu
    ·rw [List.getElem?_append_right (by omega)] at hu; exact eS.2.1 _ u hu
   ·by_cases hk:k<cs'.length
    ·rw [List.getElem?_append_left hk] at J;rw [List.getElem?_append_left (by omega)] at hu;rw [if_pos hk];refine (((hr k x u J hu).bk (XG x (List.mem_of_getElem? J))).frame (λc aa=>A.dK.block c (h.lt c aa) λau=>xl c (zA c au) aa) (λ_ h=>h) λ_ _ h=>h) λc aa=>A.dK.block c (aN c (Fk c (JF k c hk aa))) λau=>gM k c hk aa au
    ·rw [List.getElem?_append_right (by omega)] at J;rw [List.getElem?_append_right (by omega),<- zI] at hu;rw [if_neg hk];exact (((eS.2.2 _ x u J hu).bk (mK x (List.mem_of_getElem? J))).frame (λc aa=>A.dK.block c (h.lt c aa) λau=>xl c (zA c au) aa) (λ_ h=>h) λ_ _ h=>h) λc aa=>aa.elim
   ·split at aa
    ·rename_i jl
     split at ep
     ·rename_i IN;exact Fo j k c jl IN aa ep
     ·exact ep.elim
    ·exact aa.elim
   ·split at aa
    ·rename_i jl;intro au;rcases A.Bv c au with j2 | j2
     ·exact gM k c jl aa j2
     ·have:=aN c (Fk c (JF k c jl aa)); omega
    ·exact aa.elim
  have IU:∀ c,(dH.ownBlock=some c\/∃ k,k<(cs'++cells).length/\(if k<cs'.length then bH k else cj) c)->H1 0 c\/w.heap.size<=c:=by
   rintro c (aa | ⟨k,_,aa⟩)
   ·exact (A.Bv c aa).imp (zA c) id
   ·split at aa
    ·rename_i jl;exact .inl (JF k c jl aa)
    ·exact aa.elim
  have oH:=h7.uH (d:=d) (x:=.own i.size (n+m) (cs'++cells)) (v:=dH) aP (by rw [<- aI,Wh]; exact cN.lt bp) (.tree h6) (λt c aa aT=>by
   rcases IU c aa with aJ | aJ
   ·exact o8 t c (by simp) aJ aT.2
   ·have:=aN c (I9 t c aT.2); omega) (λc aa hi=>by
   rcases IU c aa with aJ | aJ
   ·exact xl c aJ hi
   ·have:=h.lt c hi; omega) (by intro z p n m new e; cases e)
  have XS:(execOp a.eval o).run P w=.ok (.value dH) w':=by simp [execOp,aW,resolve,invoke,builtin,jo,rm,hj]
  unfold Oper.wp Oper.upon;simp only [XS];refine cZ _ _ ⟨by rw [aO]; rfl,by rw [aO]; exact ib.put bp _ _,I,_,by rw [aO]; simpa [Act.put,aI] using oH,⟨A.dK.mono λc _ aa=>Fk c (zA c aa),λ_ h=>h,λ_ h=>.inl h,λc aa=>?_⟩⟩ λt ar=>by rw [aO]; simp only [Act.put]; rw [Array.getElem?_setIfInBounds_ne]; rintro rfl; exact ar aO
  rcases uU aa with ⟨t,_,aJ⟩ | aJ
  ·exact .inl (I9 t c aJ)
  ·exact (IU c (by rw [List.length_append]; exact aJ)).imp (Fk c) id
theorem Rp {α:Type}{en:bN α}{L:List α}{r f k:Nat}{cs:List ab}(hr:g r=some (.obj cs)) (aT:cs[f]?=some (aC en L)) (hk:k<=L.length) :
  Take g [.a6 en.z ⟨r,[f]⟩ k] [.own en.z k (bA en (L.take k))] (cn g ⟨r,[f]⟩ .dead):=by
 have aq:bG g ⟨r,[f]⟩=some (aC en L):=by simp [bG,hr,ab.at,ab.kids,aT]
 refine .a6 aq hk ?_ (.bk (by simp));rw [D4];exact .bk (oc en _)
theorem bc.MC {α:Type}{en:bN α}{L M hE:List α}{f k fP r:Nat}{cs cs2:List ab}{G2:List (Nat × ab)}{o:Oper}(aW:o.op=.call { callee:=.builtin .append,args:=#[s,x],argTypes:=#[t,t] }) (aO:o.dst=some d) (aw:Rd g s (.a6 en.z ⟨r,[f]⟩ k)) (hr:g r=some (.obj cs)) (aT:cs[f]?=some (aC en L)) (hk:k<=L.length)
  (J:Rd g x y) (hm:nm g en y M) (ar:h4 P t e en.z fP=true) (au:Nat.ble fP 128=true) (h:cT (L.take k) M=some hE) (he:cs.set f .dead=cs2) (cY:kT g (get G2) r (.obj cs2) G2) (pK:get G2 d=none) (bp:N.ok d=true):bc P N g o (get ((d,aC en hE)::G2)):=by
 have dq:(L.take k).length=k:=by rw [List.length_take]; omega
 obtain ⟨h1,af,aD⟩:=u6 h au;rw [dq] at h1 af;have JG:il (cn g ⟨r,[f]⟩ .dead) (get G2):=cY.keep (λt ar=>uO ar) (by rw [<- he]; simp [cn,hr,ab.setAt,ab.sG,ab.kids,aT]);have:=bc.ME (n:=k) (m:=M.length) aW aO aw.bs J.bs hm.src (oc en M) ar h1 af (Rp hr aT hk) JG pK bp;rw [r6] at this;subst aD;have e:ab.own en.z (k+M.length) (bA en (L.take k)++bA en M)=aC en (L.take k++M):=by
  rw [<- pe];show _=ab.own en.z ((L.take k).length+M.length) _;rw [dq]
 rw [e] at this;exact this
theorem bc.Ru {α:Type}{en:bN α}{L:List α}{f k r:Nat}{cs cs1 cs2:List ab}{G2:List (Nat × ab)}{o:Oper}(aW:o.op=.store t s x) (aO:o.dst=none) (aI:Rd g s (.ptr ⟨r,[]⟩ f)) (aw:Rd g x (.a6 en.z ⟨r,[f]⟩ k)) (hr:g r=some (.obj cs)) (aT:cs[f]?=some (aC en L)) (hk:k<=L.length)
  (aX:hq P t 1=true) (kl:cs.set f .dead=cs1) (he:eX cs1 f [aC en (L.take k)]=cs2) [eH:dk cs1] (j3:(get G2 r).isSome=true) (cY:lh (cn g ⟨r,[f]⟩ .dead) (get G2) r cs2 G2):bc P N g o (get G2):=by
 have dq:(L.take k).length=k:=by rw [List.length_take]; omega
 have h1:cn g ⟨r,[f]⟩ .dead r=some (.obj cs1):=by rw [<- kl]; simp [cn,hr,ab.setAt,ab.sG,ab.kids,aT]
 have aN:f<cs.length:=(List.getElem?_eq_some_iff.1 aT).1;have e:ab.own en.z k (bA en (L.take k))=aC en (L.take k):=by
  show _=ab.own en.z (L.take k).length _;rw [dq]
 subst he;refine .store aW aO aI.bs aw.bs (e ▸ Rp hr aT hk) .refl (cs':=[aC en (L.take k)]) rfl aX (p:=⟨r,[]⟩) (nd:=.obj cs1) (z:=0) (n:=0) (by simp [bG,h1,ab.at]) (.inr rfl) (by rw [<- kl]; simp; omega) (by simp) (λt x J=>?_) (λt x J y ao=>?_) (λt z q n m new J=>?_) (by intro e; rw [e] at j3; cases j3)
 ·rcases cY.spec t x J with ⟨h1,af,_⟩ | ⟨h1,af,_⟩
  all_goals grind [cn,ab.setAt,ab.eX]
 ·rcases cY.spec t x J with ⟨h1,af,aD⟩ | ⟨jl,af,aD⟩
  ·rw [af] at ao;cases ao;exact aD.wi
  ·subst jl;rw [h1] at ao;cases ao;exact .bk (.obj eH.bk)
 ·rcases cY.spec t _ J with ⟨_,_,aD⟩ | ⟨_,af,_⟩
  ·exact aD.fE _ _ _ _ _ rfl
  grind
theorem cS.Tq {α:Type}{en:bN α}{L:List α}(aq:bG g p=some (aC en L)) (aB:n<=L.length):cS g (.a6 en.z p n):=.ref rfl (.inl ⟨_,_,aq,aB⟩)
def zt (g:aL) (t:Nat):aL:=λs=>if s=t then none else g s
theorem abp {t:Nat}{x:ab}(aP:g t=some x):cR (zt g t) t x=g:=by
 funext s;unfold cR zt;by_cases e:s=t
 ·rw [if_pos e,e,aP]
 ·rw [if_neg e,if_neg e]
theorem nf.back {rs:Place->Prop}{t:Nat}{x:ab}{o:Oper}{G5:List (Nat × ab)}(h:nf P N rs (zt g t) o (get G5)) (lp:∀ p,rs p->zt g t p.root≠none) (aP:g t=some x) (Jv:get G5 t=none) (ar:o.dst≠some t) (J:wG rs (zt g t) (get G5) o x):nf P N rs g o (get ((t,x)::G5)):=by
 have:=h.extra lp (by simp [zt]) Jv ar J
 rwa [abp aP,r6] at this
end
end Go.Own
namespace Go.Own
open Go Go.Proofs Go.Shelf Go.Lib Go.Sort
variable [cE]
section
variable {α:Type}{e:bN α}{P:Program}{w:World}
theorem SK {l:List α}(h:∀ a,(e.cells a).all l'=true):(bA e l).all l'=true:=by
 rw [List.all_eq_true];intro x J;obtain ⟨a,_,aI⟩:=List.mem_flatMap.1 J;exact List.all_eq_true.1 (h a) x aI
end
end Go.Own
namespace Go.Own
open Go
variable [cE]
inductive lC:Type 1
 | e
 | b (x y:lC)
 | e3 {S R:Type}(F:S->List (Nat × ab)) (ks:List Nat) (id:Nat) (X:R->List (Nat × ab)) (sv:List Nat) (x y:lC)
 | fV {S R gu:Type}(F:S->List (Nat × ab)) (ks:List Nat) (id:Nat) (X:R->List (Nat × ab)) (sv:List Nat) (Y:gu->List (Nat × ab)) (C5:List Nat) (x y z:lC)
 | dB {α:Type}(ks:List Nat) (L:α->List (Nat × ab)) (x y:lC)
 | eK {α:Type}(id:Nat) (ks:List Nat) (L:α->List (Nat × ab)) (y:lC)
 | rd (id:Nat) (bj:List (List Nat)) (y:lC)
 | bY {α:Type}(id:Nat) (bj:List (List Nat)) (ks:List Nat) (L:α->List (Nat × ab)) (y:lC)
 | p (y:lC)
 | dL {α:Type}(id s:Nat) (i:Option Nat) (en:bN α) (y:lC)
 | hJ {α:Type}(s:Nat) (i:Option Nat) (en:bN α) (y:lC)
def Pw:ab->Bool
 | .lit _ | .aQ | .bd .. | .own .. | .obj _ | .cw _ | .cD .. | .mp _ | .imp _=>true
 | .agg cs=>cs.all λx=>match x with | .ptr .. | .a6 .. | .sub .. | .gj _ | .bL .. | .dead=>false | _=>true
 | _=>false
def vR (ex:List Nat):List (Nat × ab)->Option (List Nat)
 | []=>some []
 | (k,x)::l=>match vR (k::ex) l with
  | none=>none
  | some r=>match !ex.elem k&&Pw x with
   | true=>some (k::r)
   | false=>some r
def KI (E ex:List Nat):List (Nat × ab)->Option (List Nat)
 | []=>some []
 | (k,x)::l=>match KI E (k::ex) l with
  | none=>none
  | some r=>match E.elem k&&(!ex.elem k&&Pw x) with
   | true=>some (k::r)
   | false=>some r
def roots (G:List (Nat × ab)):Operand->List Nat
 | .tmp s=>match get G s with
  | some (.own ..)=>[s]
  | some (.obj _)=>[s]
  | some (.a6 _ p _)=>[s,p.root]
  | some (.ptr p _)=>[s,p.root]
  | some (.bL _ q _ _ _)=>match get G q.root with
   | some (.bL _ Qy _ _ _)=>[s,q.root,Qy.root]
   | _=>[s,q.root]
  | _=>[s]
 | _=>[]
def Qe (F:List (Nat × ab)) (s:Nat):Nat->List ab->Option (List ab)
 | _,[]=>some []
 | i,x::l=>match Qe F s (i+1) l with
  | none=>none
  | some r=>match get F (1000 * (i+1)+s) with
   | some y=>some (y::r)
   | none=>some (x::r)
def qF (F G:List (Nat × ab)):aL:=λs=>match get F s with
 | some x=>some x
 | none=>match get G s with
  | some (.obj cs)=>match Qe F s 0 cs with
   | some r=>some (.obj r)
   | none=>none
  | x=>x
def cH (E:List Nat) (t:lC) (P:Program) (N:cN) (c:Code) (G:List (Nat × ab)) (Φ:Exit->aL->Prop):Prop:=W P N c (get G) Φ
def dX (E:List Nat) (t:lC) (e:Exit) (Φ:Exit->aL->Prop) (G:List (Nat × ab)):Prop:=ax e Φ G
def yY (E:List Nat) (t:lC) (Ψ:lC->List (Nat × ab)->Prop) (g':aL):Prop:=∃ G1,np g' (get G1)/\Ψ t G1
def sQ {α:Type}(F:α->List (Nat × ab)) (j:α) (e:Exit) (g:aL):Prop:=e=.normal/\ia g (F j)
def Mg {R:Type}(id:Nat) (X:R->List (Nat × ab)) (r:R) (e:Exit) (g:aL):Prop:=e=.exit id/\ia g (X r)
def Bf {R gu:Type}(id:Nat) (X:R->List (Nat × ab)) (Y:gu->List (Nat × ab)) (r:R ⊕ gu) (e:Exit) (g:aL):Prop:=match r with | .inl r=>e=.exit id/\ia g (X r) | .inr r=>e=.ret/\ia g (Y r)
class bw (P:Program) (f:FuncId) (p:Prop) (args:outParam (List ab)) (outs:outParam (List (Option ab))) (res:outParam ab):Prop where go:p->bO P f args outs res
section
variable {P:Program}{N:cN}{E:List Nat}{t x y z:lC}{A B c:Code}{G G1:List (Nat × ab)}{Φ qT:Exit->aL->Prop}{Ψ:aL->Prop}{id k s:Nat}{b:Bool}{α β:Type}{l:List Oper}
theorem cH.rg (h:aE P N l.toArray l (get G) (yY E t λt G1=>cH E t P N B G1 Φ)):cH E t P N (.seq (.region id l.toArray false) B) G Φ :=
 W.seq (W.D1 λi hi=>by
  obtain ⟨g',h1,G1,af,aD⟩:=h i hi;exact ⟨g',h1,W.weaken af aD⟩)
theorem cH.rt (h:aE P N l.toArray l (get G) (yY E t λt G1=>dX E t .normal Φ G1)):cH E t P N (.region id l.toArray false) G Φ :=
 W.D1 λi hi=>by
  obtain ⟨g',h1,G1,af,aD⟩:=h i hi;exact ⟨g',h1,aD g' (.e5 af .hX)⟩
theorem cH.bI (h:cH E t P N A G (pk (λg1=>W P N B g1 Φ) Φ)):cH E t P N (.seq A B) G Φ:=W.seq h
theorem cH.ca (h:cH E t P N A G (mj id Φ)):cH E t P N (.block id A) G Φ:=W.ca h
theorem cH.zi (h:cH E t P N A G (mj id Φ)):cH E (.p t) P N (.block id A) G Φ:=W.ca h
theorem cH.cM (h:dX E t .normal Φ G):cH E t P N .skip G Φ:=W.cM h
theorem cH.fm (h:dX E t (.exit k) Φ G):cH E t P N (.exit k) G Φ:=W.fm h
theorem cH.bZ {X Y o:α}(h:(bif b then X else Y)=o) (cU:b=true->X=o->cH E x P N A G Φ) (aH:b=false->Y=o->cH E y P N B G Φ) (aa:get G s=some (bg b):=by rfl):cH E (.b x y) P N (.cond (.tmp s) A B) G Φ:=W.bZ h aa cU aH
theorem cH.ce {X Y o:α}(h:(bif b then X else Y)=o) (cU:b=true->X=o->cH E .e P N A G Φ) (aH:b=false->Y=o->cH E .e P N B G Φ) (aa:get G s=some (bg b):=by rfl):cH E .e P N (.cond (.tmp s) A B) G Φ:=W.bZ h aa cU aH
theorem cH.YS {o:Operand}{m:Option α}{f:α->Option β}{r:β}{ks:List Nat}{L cQ:α->List (Nat × ab)}(h:m.bind f=some r) (h1:∀ j,m=some j->cH E x P N (.cond o A B) G (sQ cQ j)) (af:∀ j,m=some j->f j=some r->dX E y .normal Φ (cQ j))
  (aH:∀ j,pick (qF (L j) G) ks=some (cQ j):=by intro j; rfl):cH E (.dB ks L x y) P N (.cond o A B) G Φ:=by
 obtain ⟨j,ag,h⟩:=u' h;exact W.dB _ (h1 j ag) (af j ag h)
theorem cH.KD {m:Option α}{f:α->Option β}{r:β}{ks:List Nat}{L cQ:α->List (Nat × ab)}(h:m.bind f=some r) (h1:∀ j,m=some j->cH E x P N (.block id A) G (sQ cQ j)) (af:∀ j,m=some j->f j=some r->dX E y .normal Φ (cQ j))
  (aH:∀ j,pick (qF (L j) G) ks=some (cQ j):=by intro j; rfl):cH E (.dB ks L x y) P N (.block id A) G Φ:=by
 obtain ⟨j,ag,h⟩:=u' h;exact W.dB _ (h1 j ag) (af j ag h)
theorem cH.e3 {S R:Type}{f:S->Option (S ⊕ R)}{s:S}{g:R->Option β}{r:β}{F cQ:S->List (Nat × ab)}{ks sv:List Nat}{X mE:R->List (Nat × ab)}(h:(cf f s).bind g=some r)
  (au:∀ s o,f s=some o->cH E x P N c (cQ s) (lg cQ (Mg id mE) o)) (hk:∀ c',cf f s=some c'->g c'=some r->dX E y (.exit id) Φ (mE c'))
  (aH:∀ s,pick (qF (F s) G) ks=some (cQ s):=by intro s; rfl) (eg:∀ s,pick (qF (X s) G) sv=some (mE s):=by intro s; rfl) (ar:Trim true (get G) (get (cQ s)) (cQ s):=by (repeat' first | exact .nil | refine .n rfl ?_ | refine .w rfl rfl .pV ?_ | refine .w rfl rfl .pU ?_ | refine .w rfl rfl (ke.obj (by (repeat' first | exact .nil | refine .f ?_ | refine .o ?_ | refine .i ?_))) ?_)) :
  cH E (.e3 F ks id X sv x y) P N (.loop c) G Φ:=by
 obtain ⟨c',ah,h⟩:=u' h;exact W.c5 ar (W.z7 cQ id mE ah au (hk c' ah h))
theorem dX.bI (h:cH E t P N B G Φ):dX E t .normal (pk (λg1=>W P N B g1 Φ) qT) G:=ax.bI h
theorem dX.fe (h:dX E t (.exit k) Φ G):dX E t (.exit k) (pk Ψ Φ) G:=ax.fe h
theorem dX.gy (h:dX E t .ret Φ G):dX E t .ret (pk Ψ Φ) G:=ax.gy h
theorem dX.ca (h:dX E t .normal Φ G):dX E t .normal (mj id Φ) G:=ax.ca h
theorem dX.fr (h:dX E t .normal Φ G):dX E t (.exit id) (mj id Φ) G:=ax.fr h
theorem dX.E0 (h:dX E t (.exit k) Φ G) (hk:Nat.beq k id=false:=by rfl):dX E t (.exit k) (mj id Φ) G:=ax.E0 hk h
theorem dX.lH (h:dX E t .ret Φ G):dX E t .ret (mj id Φ) G:=ax.lH h
theorem dX.dB {F:α->List (Nat × ab)}{j v:α}(h:some v=some j) (ar:Trim true (get G) (get (F v)) (F v)):dX E t .normal (sQ F j) G:=by
 cases h; exact ax.dB ar
theorem dX.go {S R:Type}{s:S}{o:S ⊕ R}{F:S->List (Nat × ab)}{Ψ:R->Exit->aL->Prop}(h:some (.inl s)=some o) (ar:Trim true (get G) (get (F s)) (F s)):dX E t .normal (lg F Ψ o) G:=by
 cases h; exact ax.go ar
theorem dX.aR {S R:Type}{r:R}{o:S ⊕ R}{F:S->List (Nat × ab)}{X:R->List (Nat × ab)}(h:some (.inr r)=some o) (ar:Trim true (get G) (get (X r)) (X r)):dX E t (.exit id) (lg F (Mg id X) o) G:=by
 cases h; exact ax.aR ar
variable {ops:Array Oper}{K:aL->Prop}{d:Nat}{op:Op}{ty:TypeId}{pos:String}{after:Array Edge}{v v2:ab}{ks:List Nat}{g:aL}{j cy:Nat}{b8:Bool}
theorem r7 {G:List (Nat × ab)}{d:Nat}{v:ab}:cR (get G) d v=get ((d,v)::G):=r6.symm
theorem Hz (aq:bT P (get G) op ty v) (hk:aE P N ops l (get ((d,v)::G)) K) (bp:N.ok d=true:=by rfl) (aT:get G d=none:=by rfl):aE P N ops (⟨some d,op,ty,pos,after,none⟩::l) (get G) K:=ak aq (r7 ▸ hk) bp aT
theorem Ms (aq:cd P (get G) op v) (hk:aE P N ops l (get ((d,v)::G)) K) (bp:N.ok d=true:=by rfl) (aT:get G d=none:=by rfl):aE P N ops (⟨some d,op,ty,pos,after,none⟩::l) (get G) K:=e0 aq (r7 ▸ hk) bp aT
theorem Hr (aq:bT P (get G) op ty v) (hk:aE P N ops l (get ((d,v)::G)) K) (h:(ops[j]?).bind (·.dst)=some cy:=by rfl) (aP:get G cy=some (.lit (.bool b8)):=by rfl) (au:b8=b:=by (first | rfl | assumption)) (bp:N.ok d=true:=by rfl) (aT:get G d=none:=by rfl):aE P N ops (⟨some d,op,ty,pos,after,some (j,b)⟩::l) (get G) K:=.v aq bp aT (.na h aP au) (r7 ▸ hk)
theorem Md (aq:cd P (get G) op v) (hk:aE P N ops l (get ((d,v)::G)) K) (h:(ops[j]?).bind (·.dst)=some cy:=by rfl) (aP:get G cy=some (.lit (.bool b8)):=by rfl) (au:b8=b:=by (first | rfl | assumption)) (bp:N.ok d=true:=by rfl) (aT:get G d=none:=by rfl):aE P N ops (⟨some d,op,ty,pos,after,some (j,b)⟩::l) (get G) K:=.c aq bp aT (.na h aP au) (r7 ▸ hk)
theorem qZ (hk:aE P N ops l (get ((d,.bS [])::G)) K) (h:(ops[j]?).bind (·.dst)=some cy:=by rfl) (aP:get G cy=some (.lit (.bool b8)):=by rfl) (au:b8=!b:=by (first | rfl | assumption)) (bp:N.ok d=true:=by rfl) (aT:get G d=none:=by rfl):aE P N ops (⟨some d,op,ty,pos,after,some (j,b)⟩::l) (get G) K:=.ps h aP au bp aT (r7 ▸ hk)
theorem Sf (hk:aE P N ops l (get ((d,.bS [])::G)) K) (h:(ops[j]?).bind (·.dst)=some cy:=by rfl) (aP:get G cy=some (.bS []):=by rfl) (bp:N.ok d=true:=by rfl) (aT:get G d=none:=by rfl):aE P N ops (⟨some d,op,ty,pos,after,some (j,b)⟩::l) (get G) K:=.pu h aP bp aT (r7 ▸ hk)
theorem H9 {p:Prop}{X Y o:α}(h:(bif b then X else Y)=o) (cU:b=true->X=o->p) (aH:b=false->Y=o->p):p:=by
 cases b
 ·exact aH rfl h
 ·exact cU rfl h
theorem Ho {Ev:lC->List (Nat × ab)->Prop}(nx:KI E [] G=some ks) (aq:pick (get G) ks=some G1) [aB:jU G1] (hk:Ev t G1):aE P N ops [] (get G) (yY E t Ev):=.nil ⟨G1,(wc (c:=true) (g2:=get G1) aq aB.p).e5,hk⟩
theorem cH.eK {m:Option α}{f:α->Option β}{r:β}{ks:List Nat}{L cQ:α->List (Nat × ab)}(h:m.bind f=some r) (h1:∀ j,m=some j->aE P N l.toArray l (get G) (sQ cQ j .normal)) (af:∀ j,m=some j->f j=some r->cH E y P N B (cQ j) Φ)
  (aH:∀ j,pick (qF (L j) G) ks=some (cQ j):=by intro j; rfl):cH E (.eK id ks L y) P N (.seq (.region id l.toArray false) B) G Φ:=by
 obtain ⟨j,ag,h⟩:=u' h;exact W.seq (W.D1 λi hi=>by
  obtain ⟨g',b9,_,eP⟩:=h1 j ag i hi;exact ⟨g',b9,W.be (af j ag h) eP⟩)
theorem Sc {F:α->List (Nat × ab)}{j v:α}(h:some v=some j) (ar:Trim true (get G) (get (F v)) (F v)):aE P N ops [] (get G) (sQ F j .normal):=by
 cases h; exact .nil ⟨rfl,.e5 ar.e5 .hX⟩
end
end Go.Own
namespace Go.Own
open Go Go.Lib
variable [cE]
section
variable {P:Program}{w:World}
end
end Go.Own
namespace Go.Proofs
open Go.Shelf Go.RowKit Go.Own
variable [cE]
variable {P:Program}{ρ:Ren}
end Go.Proofs
namespace Go.Own
open Go Go.Proofs Go.Shelf Go.Lib
variable [cE]
section
variable {P:Program}{ρ:Ren}
end
end Go.Own
