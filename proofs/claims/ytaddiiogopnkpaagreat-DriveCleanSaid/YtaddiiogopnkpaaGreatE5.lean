/- Parts of the proof that the last text states. -/
import Derived.Deep.Draws
import Derived.Deep.LoopGhost
import Derived.KernelRfl
import Derived.Laws.CopyRow
import Derived.Lib.SliceRun
import Derived.Lib.SlicesCompact
import Derived.Lib.Walk
import Derived.Maps.OwnIn
import Derived.Shelf.RegionOpenPlain
import Derived.Shelf.SlLaysQ
import Derived.Shelf.SlSortCmp.NoneTotal
import Derived.Shelf.SlicesE.Kit
import Derived.Shelf.SlicesQ.Load
import Derived.Shelf.Strings.BuilderK
import Derived.Sort.WalkB12
import Derived.StringKeys
import Derived.WalkKit
import Derived.Test.YtaddiiogopnkpaaGreatE4
set_option linter.unusedSectionVars false
set_option linter.unusedVariables false
namespace Go.Own
open Go Go.Proofs Go.Shelf Go.Lib Go.Sort
variable [cF]
section
variable {P:Program}{w:World}
def Am {α:Type} [DecidableEq α] (lt:α->α->Bool) (l:List α):Bool :=
 l.all λa=>!lt a a&&l.all λb=>(lt a b||lt b a||decide (a=b))&&l.all λc=>(!(lt a b&&lt b c)||lt a c)&&(lt a b||lt b c||!lt a c)
def kR {α:Type}(fH:α->α->Option Int) (a b:α):Bool:=decide ((fH a b).getD 0<0)
def ins {α:Type}(lt:α->α->Bool) (x:α):List α->List α
 | []=>[x]
 | y::l=>if lt y x then y::ins lt x l else x::y::l
def ia {α:Type}(lt:α->α->Bool):List α->List α
 | []=>[]
 | x::l=>ins lt x (ia lt l)
theorem KA {α:Type}(lt:α->α->Bool) (x:α):∀ l:List α,(ins lt x l).Perm (x::l)
 | []=>.refl _
 | y::l=>by
  unfold ins;split
  ·exact ((KA lt x l).cons y).trans (.swap x y l)
  ·exact .refl _
theorem th {α:Type}(lt:α->α->Bool):∀ l:List α,(ia lt l).Perm l
 | []=>.refl _
 | x::l=>(KA lt x _).trans ((th lt l).cons x)
theorem Po {α:Type}{lt:α->α->Bool}(bf:SWO lt) (x:α):∀ l:List α,l.Pairwise (λa b=>(!lt b a)=true)->(ins lt x l).Pairwise λa b=>(!lt b a)=true
 | [],_=>List.pairwise_singleton _ _
 | y::l,h=>by
  obtain ⟨h1,af⟩:=List.pairwise_cons.1 h;unfold ins;split
  ·rename_i aP;refine List.pairwise_cons.2 ⟨λz aW=>?_,Po bf x l af⟩;rcases List.mem_cons.1 ((KA lt x l).mem_iff.1 aW) with rfl | aW
   ·cases aa:lt z y with
    | false=>rfl
    | true=>have:=bf.trans _ _ _ aP aa; rw [bf.irrefl] at this; cases this
   ·exact h1 z aW
  ·rename_i aP;have aP:lt y x=false:=by simpa using aP
   refine List.pairwise_cons.2 ⟨λz aW=>?_,h⟩;rcases List.mem_cons.1 aW with rfl | aW
   ·rw [aP]; rfl
   ·have aW:=h1 z aW;simp only [Bool.not_eq_true'] at aW ⊢;exact bf.ntrans _ _ _ aW aP
theorem FZ {α:Type}{lt:α->α->Bool}(bf:SWO lt):∀ l:List α,(ia lt l).Pairwise λa b=>(!lt b a)=true
 | []=>.nil
 | x::l=>Po bf x _ (FZ bf l)
theorem Pv {α:Type}{lt:α->α->Bool}(bf:SWO lt) (cX:∀ x y,lt x y=false->lt y x=false->x=y) (l:List α):l.mergeSort (λx y=>!lt y x)=ia lt l:=by
 refine List.Perm.eq_of_pairwise (le:=λx y=>(!lt y x)=true) (λa b _ _ h1 af=>?_) (List.pairwise_mergeSort (λa b c h1 af=>?_) (λa b=>?_) l) (FZ bf l) ((List.mergeSort_perm _ _).trans (th lt l).symm)
 ·simp only [Bool.not_eq_true'] at h1 af;exact cX a b af h1
 ·simp only [Bool.not_eq_true'] at h1 af ⊢;exact bf.ntrans _ _ _ af h1
 ·cases h1:lt b a with
  | false=>rfl
  | true =>
   cases af:lt a b with
   | false=>rfl
   | true=>have:=bf.trans _ _ _ h1 af; rw [bf.irrefl] at this; cases this
theorem Pn {α β:Type}{lt:α->α->Bool}{lt':β->β->Bool}{f:α->β}(h:∀ a b,lt a b=lt' (f a) (f b)) (x:α):∀ l:List α,(ins lt x l).map f=ins lt' (f x) (l.map f)
 | []=>rfl
 | y::l=>by
  simp only [ins,List.map_cons,h];split
  ·rw [List.map_cons,Pn h x l]
  ·rfl
theorem FY {α β:Type}{lt:α->α->Bool}{lt':β->β->Bool}{f:α->β}(h:∀ a b,lt a b=lt' (f a) (f b)):∀ l:List α,(ia lt l).map f=ia lt' (l.map f)
 | []=>rfl
 | x::l=>by simp only [ia,List.map_cons,Pn h,FY h l]
def p4 {α:Type} [DecidableEq α] (fH:α->α->Option Int) (l:List α):Option (List α) :=
 if (l.all λa=>l.all λb=>(fH a b).isSome)&&Am (kR fH) l&&decide (l.length<4611686018427387904) then some (ia (kR fH) l) else none
theorem NV {w':World}(h:Fr w w' λ_=>False):∃ q os,w'=grow (w.drewN q) os:=by
 refine ⟨w'.drawn - w.drawn,w'.heap.extract w.heap.size w'.heap.size,?_⟩;obtain ⟨h1,af,aE,bm,b7,dr,kN⟩:=h;obtain ⟨aq,ae1,zx,os,out⟩:=w';simp only at h1 af aE bm b7 kN;subst h1 af aE;unfold grow World.drewN;simp only [World.mk.injEq,true_and,and_true];refine ⟨?_,by omega⟩;apply Array.ext_getElem?;intro k;rw [Array.getElem?_append];by_cases hk:k<w.heap.size
 ·rw [if_pos hk]; exact b7 k hk λh=>h
 ·rw [if_neg hk,Array.getElem?_extract];by_cases fF:k<aq.size
  ·rw [if_pos (by omega),show w.heap.size+(k - w.heap.size)=k by omega]
  ·rw [if_neg (by omega),Array.getElem?_eq_none (by omega)]
theorem QL (l:List Int):bB ai l=l.map ae:=by
 induction l with
 | nil=>rfl
 | cons a l aO =>
  show ai.cells a++bB ai l=_;rw [aO]; rfl
theorem Re {vs:List Value}{v0 v1:Value}(xD:vs=[v0,v1]) {I:a'}{Fs:Nat->a'}{g:aM}(bf:cB w I vs.toArray g Fs) {w':World}{e:TypeId}{r:List Int}(aX:w'.ownsRow 0 e 1 v0 r.length (r.map (Value.int .i64))) (aH:∀ c,Fs 0 c↔v0.ownBlock=some c) (kx:Fr w w' λc=>Fs 0 c) :
  ∃ v I' bW,Ending.returned (.tuple #[])=.returned v/\cB w' I' (vs++[v]).toArray (kS [some (aD ai r),none] (.bR [])) bW/\k3 w I (λc=>∃ t,Fs t c) w' I' (λc=>∃ t,bW t c):=by
 subst xD;refine ⟨_,I,λt=>if t=0 then Fs 0 else cg,rfl,⟨λt x J=>?_,λt au c aa=>?_,λt t' c aa et=>?_,λt c aa=>?_,λc aa=>Nat.lt_of_lt_of_le (bf.lt c aa) kx.size,λt t' z p n m new bQ cm m' cO h1 af=>?_,cF.keep bf.hW (λc aa=>kx.block c (bf.lt c aa) λh=>bf.bl 0 c h aa) λ_ h=>h⟩,⟨?_,λc h=>h,λc h=>.inl h,λc aa=>?_⟩⟩
 ·unfold kS at J
  split at J
  ·rename_i au;have au:t=2:=au;subst au;cases J;exact ⟨.tuple #[],rfl,.tree (.bR (Fs:=λ_=>cg) rfl (λk x u h=>by simp at h) (λj k c h=>by simp at h) (λc=>⟨λh=>h.elim,λ⟨k,h,_⟩=>by simp at h⟩))⟩
  ·match t,J with
   | 0,J =>
    cases J;refine ⟨v0,rfl,.tree ?_⟩;show R w' I _ (.own 1 r.length (bB ai r)) v0 (Fs 0);rw [QL];refine .own (Fs:=λ_=>cg) aX (by simp) (λk u hu=>?_) (λk x u J hu=>?_) (λ_ _ _ _ _ h=>h.elim) (λ_ _ _ h=>h.elim) (λc=>⟨λh=>.inl ((aH c).1 h),λh=>?_⟩)
    ·rw [List.getElem?_map] at hu;cases hk:r[k]? <;> rw [hk] at hu <;> cases hu;rfl
    ·rw [List.getElem?_map] at J hu;cases hk:r[k]? <;> rw [hk] at J hu <;> cases J <;> cases hu;exact .lit rfl λ_ h=>h
    ·rcases h with h | ⟨_,_,h⟩
     ·exact (aH c).2 h
     ·exact h.elim
   | 1,J=>cases J
   | t+2,J=>cases J
 ·have aK:¬ t=0:=λe=>by subst e; exact absurd au (by simp [kS])
  simp only [if_neg aK] at aa;exact aa
 ·have key:∀ {t:Nat},(if t=0 then Fs 0 else cg) c->t=0:=λ{t} h=>by
   by_cases aK:t=0
   ·exact aK
   ·rw [if_neg aK] at h; exact h.elim
  rw [key aa,key et]
 ·by_cases aK:t=0
  ·simp only [if_pos aK] at aa; exact bf.bl 0 c aa
  ·simp only [if_neg aK] at aa; exact aa.elim
 ·unfold kS at h1
  split at h1
  ·cases h1
  ·match t,h1 with
   | 0,h1=>cases h1
   | 1,h1=>cases h1
   | t+2,h1=>cases h1
 ·exact kx.mono λb _ ar=>⟨0,ar⟩
 ·obtain ⟨t,au⟩:=aa;by_cases aK:t=0
  ·simp only [if_pos aK] at au; exact .inl ⟨0,au⟩
  ·simp only [if_neg aK] at au; exact au.elim
theorem Qf {α:Type} [DecidableEq α] {lt:α->α->Bool}{l:List α}(h:Am lt l=true):∀ a∈l,lt a a=false/\∀ b∈l,(lt a b=true\/lt b a=true\/a=b)/\∀ c∈l,((lt a b=true/\lt b c=true)->lt a c=true)/\(lt a b=true\/lt b c=true\/lt a c=false):=by
 intro a aJ;unfold Am at h;have h1:=List.all_eq_true.1 h a aJ;simp only [Bool.and_eq_true,Bool.not_eq_true',List.all_eq_true,Bool.or_eq_true,decide_eq_true_eq] at h1;refine ⟨h1.1,λb ar=>?_⟩;obtain ⟨af,aE⟩:=h1.2 b ar;refine ⟨by rcases af with (h | h) | h <;> simp [h],λc aa=>?_⟩;obtain ⟨bm,b7⟩:=aE c aa;refine ⟨λ⟨x,y⟩=>?_,by rcases b7 with (h | h) | h <;> simp [h]⟩;rcases bm with h | h
 ·rw [x,y] at h; cases h
 ·exact h
theorem Rc {α:Type} [DecidableEq α] {fH:α->α->Option Int}{l r:List α}(h:p4 fH l=some r):(∀ a∈l,∀ b∈l,(fH a b).isSome=true)/\Am (kR fH) l=true/\l.length<4611686018427387904/\r=ia (kR fH) l:=by
 unfold p4 at h
 split at h
 ·rename_i aa;simp only [Bool.and_eq_true,List.all_eq_true,decide_eq_true_eq] at aa;exact ⟨aa.1.1,aa.1.2,aa.2,(Option.some.inj h).symm⟩
 ·cases h
theorem Oy {α:Type} [Inhabited α] {enc:α->Value}{b n:Nat}{d:Array α}{os:Array Obj}{cur:Array Value}{e:TypeId}{dM:Nat × Nat}(ar:w.heap[b]?=some (.cells cur e dM)) :
  (sortWorld enc w b 0 n d os).heap[b]?=some (.cells (putCells enc 0 d cur) e dM):=by
 have aP:b<w.heap.size:=(Array.getElem?_eq_some_iff.1 ar).1;unfold sortWorld;rw [heap_grow_old _ _ (by rw [Go.Sort.size_putRow]; exact aP)];unfold putRow mapBlock;have q_:(Go.Sort.ahead w n).heap=w.heap:=rfl;simp only [q_,Array.getElem?_modify,if_true,ar,Option.map_some,onCells]
theorem JD {α:Type} [Inhabited α] {enc:α->Value}{b n c:Nat}{d:Array α}{os:Array Obj}(aa:c<w.heap.size) (cS:c≠b) :
  (sortWorld enc w b 0 n d os).heap[c]?=w.heap[c]?:=by
 unfold sortWorld;rw [heap_grow_old _ _ (by rw [Go.Sort.size_putRow]; exact aa)];unfold putRow mapBlock;have q_:(Go.Sort.ahead w n).heap=w.heap:=rfl;simp only [q_,Array.getElem?_modify,if_neg (Ne.symm cS)]
theorem Fj {α:Type} [Inhabited α] {enc:α->Value}{b n:Nat}{d:Array α}{os:Array Obj}{U:a'}(fq:U b):Fr w (sortWorld enc w b 0 n d os) U:=by
 refine ⟨rfl,rfl,rfl,?_,λc aa aC=>JD aa λe=>aC (e ▸ fq),λa aJ _=>?_,?_⟩
 ·unfold sortWorld; rw [size_grow,Go.Sort.size_putRow]; exact Nat.le_add_right _ _
 ·unfold sortWorld;rw [frozen?_grow _ _ _ (by rw [Go.Sort.size_putRow]; exact aJ),Go.Sort.frozen?_putRow]; rfl
 ·show w.drawn<=w.drawn+n;exact Nat.le_add_right _ _
theorem Qz {α:Type} [Inhabited α] {enc:α->Value}{d:Array α}{cur:Array Value}(h:d.size<=cur.size):(putCells enc 0 d cur).toList.take d.size=d.toList.map enc:=by
 apply List.ext_getElem?;intro k;rw [List.getElem?_take,List.getElem?_map];by_cases hk:k<d.size
 ·rw [if_pos hk,Array.getElem?_toList,Array.getElem?_toList];have aa:k<cur.size:=by omega
  simp only [putCells,Array.getElem?_mapIdx,Array.getElem?_eq_getElem aa,Array.getElem?_eq_getElem hk,Option.map_some];rw [if_pos ⟨Nat.zero_le _,by omega⟩,Nat.sub_zero];simp [getElem!_pos,hk]
 ·rw [if_neg hk,Array.getElem?_toList,Array.getElem?_eq_none (by omega)]; rfl
theorem bS.LL {ρ:Ren}(L:SlLaysF.n6 P ρ) {g:FuncId}{caps:List ab} [pL:dp caps] (aN:hG P g=true) {l r:List Int}{fH:Int->Int->Option Int}(h:p4 fH l=some r)
  (aa:∀ a b v,fH a b=some v->bS P g (ae a::ae b::caps) (none::none::caps.map λ_=>none) (ae v)) :
  bS P (ρ.f 6) [aD ai l,.cD (.func g) [] caps] [some (aD ai r),none] (.bR []):=by
 refine ⟨rfl,λw I vs Fs ah bf=>?_⟩;obtain ⟨v0,v1,rfl⟩:∃ v0 v1,vs=[v0,v1]:=by
  match vs,ah with
  | [a,b],_=>exact ⟨a,b,rfl⟩
 obtain ⟨xz,j_,Ka,rfl⟩:=Rc h;obtain ⟨u,hu,aY⟩:=bf.rel 0 (aD ai l) rfl;obtain rfl:v0=u:=by simpa using hu
 replace aY:=aY.gw (by simp);obtain ⟨u,hu,qs⟩:=bf.rel 1 (.cD (.func g) [] caps) rfl;obtain rfl:v1=u:=by simpa using hu
 replace qs:=qs.gw (by simp);rw [show aD ai l=.own 1 l.length (bB ai l) from rfl,QL] at aY
 cases aY with
 | ref J=>simp [ab.isRef] at J
 | @own _ _ _ _ e us bD _ aX xu hz hr aQ ar aH =>
 cases qs with
 | ref J=>simp [ab.isRef] at J
 | @cD _ _ _ aw km _ xa h1 af i' hK =>
 obtain rfl:aw=#[]:=Array.eq_empty_of_size_eq_zero (by simpa using h1.symm);have mM:∀ c,Fs 0 c↔v0.ownBlock=some c:=by
  intro c;refine ⟨λaa=>?_,λaa=>(aH c).2 (.inl aa)⟩;rcases (aH c).1 aa with h | ⟨k,hk,h⟩
  ·exact h
  ·have J:=List.getElem?_eq_getElem hk;have hu:=List.getElem?_eq_getElem (xu ▸ hk);have aY:=hr k _ _ J hu;rw [List.getElem_map] at aY;generalize us[k]=gy at aY;cases aY with
   | lit _ aU=>exact (aU c h).elim
   | ref J=>simp [ab.isRef] at J
 have nz:us=l.map (Value.int .i64):=by
  apply List.ext_getElem?;intro k;by_cases hk:k<us.length
  ·have ih:k<(l.map ae).length:=xu.symm ▸ hk;have J:=List.getElem?_eq_getElem ih;have hu:=List.getElem?_eq_getElem hk;have aY:=hr k _ _ J hu;rw [List.getElem_map] at aY;rw [hu,aY.hM.1,List.getElem?_map,List.getElem?_eq_getElem (by simpa using ih)]; rfl
  ·rw [List.getElem?_eq_none (by omega),List.getElem?_eq_none (by rw [List.length_map] at xu ⊢; omega)]
 subst nz;have CC:=th (kR fH) l;have hlen:=CC.length_eq;by_cases xv:l=[]
 ·subst xv;have h':∃ p cap,v0=.slice p 0 cap:=by
   rcases aX.2 with ⟨rfl,_⟩ | ⟨b,cap,cur,rfl,_⟩
   ·exact ⟨_,_,rfl⟩
   ·exact ⟨_,_,rfl⟩
  obtain ⟨p,cap,rfl⟩:=h';refine (AnyF.slices_SortFunc_none { L with } p cap _ w).mono ?_;rintro b5 w' ⟨rfl,rfl⟩;exact Re rfl bf (e:=e) (r:=[]) aX mM (Fr.refl _ _)
 ·obtain ⟨OK,Jx⟩:=aX;rcases Jx with ⟨rfl,aK⟩ | ⟨b,cap,cur,rfl,_,ug,hle,J3,fr,fP⟩
  ·exact absurd (List.eq_nil_of_length_eq_zero aK) xv
  rw [Nat.mul_one] at fr fP;have ue:Fs 0 b:=(mM b).2 rfl;have Ju:b<w.heap.size:=(Array.getElem?_eq_some_iff.1 ug).1;obtain ⟨a0,Ca⟩:=List.exists_mem_of_ne_nil l xv
  let α:={ x:Int // x∈l }
  haveI:Inhabited α:=⟨⟨a0,Ca⟩⟩
  let enc:α->Value:=λx=>.int .i64 x.1
  let k8:α->α->Int:=λx y=>(fH x.1 y.1).getD 0;have aP:∀ x y:α,ltOf k8 x y=kR fH x.1 y.1:=λx y=>rfl
  let d:Array α:=l.attach.toArray;have zI:d.size=l.length:=by show (l.attach.toArray).size=l.length; rw [List.size_toArray,List.length_attach]
  have ja:=Qf j_;have hO:SWO (ltOf k8):=by
   refine ⟨λx=>by rw [aP]; exact (ja x.1 x.2).1,λx y z=>?_,λx y z=>?_⟩
   ·rw [aP,aP,aP];exact λp q=>(((ja x.1 x.2).2 y.1 y.2).2 z.1 z.2).1 ⟨p,q⟩
   ·rw [aP,aP,aP];intro p q;rcases (((ja x.1 x.2).2 y.1 y.2).2 z.1 z.2).2 with h | h | h
    ·rw [p] at h; cases h
    ·rw [q] at h; cases h
    ·exact h
  have cX:∀ x y:α,ltOf k8 x y=false->ltOf k8 y x=false->x=y:=by
   intro x y p q;rw [aP] at p q;rcases ((ja x.1 x.2).2 y.1 y.2).1 with h | h | h
   ·rw [p] at h; cases h
   ·rw [q] at h; cases h
   ·exact Subtype.ext h
  have mP:∀ j,j<l.length->cur[j]?=some (.int .i64 l[j]!):=by
   intro j ag;have:=congrArg (λt=>t[j]?) fP;simp only [List.getElem?_take,if_pos ag,Array.getElem?_toList,List.getElem?_map,List.getElem?_eq_getElem ag,Option.map_some] at this;rw [this,getElem!_pos l j ag]
  have hH:Holds enc w b 0 d:=by
   intro j ag;rw [zI] at ag;refine ⟨?_,?_⟩
   ·unfold World.cell?;simp only [ug,Nat.zero_add];show cur[j]?=_;rw [mP j ag];show some (Value.int .i64 l[j]!)=some (.int .i64 (d[j]!).1);have:(d[j]!).1=l[j]! := by
     rw [getElem!_pos d j (by omega),getElem!_pos l j ag];show (l.attach.toArray[j]'_).val=_;rw [List.getElem_toArray,List.getElem_attach]
    rw [this]
   ·unfold World.frozen?;simp only [ug];simp
  have IK:∀ args w,(callFunc g args).run P w=.ok (.enter g args) w:=λargs w=>zs aN args;have JA:CmpLays1 P g km enc k8 b 0 d.size w:=by
   intro m os BL zH x y;have sh:=xz x.1 x.2 y.1 y.2;obtain ⟨v,hv⟩:=Option.isSome_iff_exists.1 sh;have Jy:k8 x y=v:=by show (fH x.1 y.1).getD 0=v; rw [hv]; rfl
   have Jp:cB (sortWorld enc w b 0 m BL os) I #[] (λ_=>none) (λ_=>cg):=by
    refine ⟨λ_ _ h=>(by cases h),λ_ _ _ h=>h,λ_ _ _ h=>h.elim,λ_ _ h=>h.elim,λc aa=>?_,λ_ _ _ _ _ _ _ _ _ _ _ h=>(by cases h),cF.keep bf.hW (λc aa=>(Fj (U:=λc=>Fs 0 c) ue).block c (bf.lt c aa) λh=>bf.bl 0 c h aa) λ_ h=>h⟩;have:=bf.lt c aa;unfold sortWorld;rw [size_grow,Go.Sort.size_putRow];exact Nat.lt_of_lt_of_le this (Nat.le_add_right _ _)
   have jK:=Jp.args (I':=I) (λ_ h=>h) (λc h=>.inl h) (args:=ae x.1::ae y.1::caps) (vs:=enc x::enc y::km.toList) (by simp [af]) (λρ' k z u aW hu=>?_)
   ·have pK:=(aa x.1 y.1 v hv).2 _ I (enc x::enc y::km.toList) _ (by simp [af]) jK;have k_:(enc x::enc y::km.toList).toArray=#[enc x,enc y]++km:=by
     apply Array.ext';simp
    rw [k_] at pK;refine pK.mono ?_;rintro b5 w' ⟨dK,I',bW,rfl,d',bU⟩;obtain ⟨u,hu,nv⟩:=d'.rel (caps.length+2) (ae v) (by simp [kS]);have Kj:u=dK:=by
     have:(enc x::enc y::km.toList).length=caps.length+2:=by simp [af]
     rw [List.getElem?_toArray,<- this] at hu;simpa using hu.symm
    subst Kj;have oE:=(nv.gw (by simp)).hM.1;subst oE;refine ⟨by rw [Jy],?_⟩;exact NV (bU.dM.mono λc _ ⟨_,bO⟩=>bO)
   ·match k,aW,hu with
    | 0,aW,hu=>cases aW; cases hu; exact .lit rfl λ_ h=>h
    | 1,aW,hu=>cases aW; cases hu; exact .lit rfl λ_ h=>h
    | k+2,aW,hu =>
     simp only [List.getElem?_cons_succ] at aW hu;have zC:=(hK k z u aW (by simpa using hu)).bn (ρ':=ρ') (pL.bn z (List.mem_of_getElem? aW));refine zC.frame (λc aa=>?_) (λ_ h=>h) (λ_ _ h=>h) (λc h=>h.elim);exact JD (bf.lt c aa) λe=>bf.bl 0 c (e ▸ ue) aa
  have Ct:=Any.slices_SortFunc_total L enc (λ_=>rfl) k8 hO g km b 0 cap d w IK JA hH Ju (by rw [zI]; exact Ka) cX;rw [zI] at Ct;refine Ct.mono ?_;rintro b5 w' ⟨rfl,n,os,rfl⟩;have oK:(d.toList.mergeSort λx y=>!ltOf k8 y x).map enc=(ia (kR fH) l).map (Value.int .i64):=by
   rw [Pv hO cX];have hm:(ia (ltOf k8) l.attach).map Subtype.val=ia (kR fH) (l.attach.map Subtype.val):=FY (lt:=ltOf k8) (lt':=kR fH) (f:=Subtype.val) (λa b=>aP a b) l.attach;rw [List.attach_map_subtype_val] at hm;rw [<- hm,List.map_map];rfl
  have Ow:(d.toList.mergeSort λx y=>!ltOf k8 y x).toArray.size=l.length:=by
   rw [List.size_toArray,(List.mergeSort_perm _ _).length_eq];show (l.attach.toArray).toList.length=l.length;simp
  refine Re rfl bf (e:=e) (r:=ia (kR fH) l) ⟨by simp,.inr ⟨b,cap,_,by rw [hlen],Nat.zero_le _,Oy ug,by omega,J3,?_,?_⟩⟩ mM (Fj ue)
  ·rw [Nat.mul_one,<- fr];simp [putCells]
  ·rw [Nat.mul_one,hlen,<- Ow,Qz (by rw [Ow]; omega),<- oK]
end
end Go.Own
namespace Go.Own
open Go
variable [cF]
section
variable {α:Type}{P:Program}{N:cP}{g g1 g2 g3:aM}{ops:Array Oper}{bd:List (List Nat)}{acc:Acc}{l:List Oper}{K:aM->Prop}{i d r:Nat}
theorem cB.settle {w:World}{I:a'}{T:Array Value}{Fs:Nat->a'}(h:cB w I T g Fs) (a:Act) (aJ:a.tmps=T) {ts:List Nat}{xs ys:List ab}(J:Own.hn g (ts.map Operand.tmp)=some xs) (au:Take g xs ys g1) (eG:ts.Nodup) (ah:ys.length=ts.length) (aQ:∀ t∈ts,g1 t=some .dead)
  (hk:iE (qJ g1 ((ts.map λt=>(⟨t,[]⟩:Place)).zip ys)) g2):∃ bW,cB w I T g2 bW/\∀ c,(∃ t,bW t c)->∃ t,Fs t c:=by
 obtain ⟨CX,Yn⟩:=Al h aJ J;have Ym:xs.length=ts.length:=by rw [CX,List.length_map]
 have hand:Hand w I (fp w T) Fs xs (ts.map λt=>a.eval (.tmp t)) (λ_=>cg):=by
  refine ⟨by rw [Ym,List.length_map],λk x u qC hu=>?_,λ_ _ _ _ _ h=>h.elim,λ_ _ _ _ h=>h.elim,λ_ _ _ h=>h.elim⟩;rw [List.getElem?_map] at hu;cases fP:ts[k]? with
  | none=>rw [fP] at hu; cases hu
  | some t =>
   rw [fP] at hu; cases hu;exact (Yn k x (.tmp t) qC (by rw [List.getElem?_map,fP]; rfl)).frame (λ_ _=>rfl) (λ_ h=>h) (λ_ _ h=>h.1) λ_ _=>rfl
 obtain ⟨fx,H1,iZ,iv,hq⟩:=au.sound h.mZ hand;have uv:((ts.map λt=>(⟨t,[]⟩:Place)).zip ys).length=ts.length:=by rw [List.length_zip,List.length_map,ah]; exact Nat.min_self _
 obtain ⟨jY,iw,aH⟩:=jG.qJ ((ts.map λt=>(⟨t,[]⟩:Place)).zip ys) H1 (λj=>((ts.map λt=>a.eval (.tmp t))[j]?).getD undef) iZ (by
   rw [List.map_fst_zip (by rw [List.length_map,ah]; exact Nat.le_refl _)];exact List.Pairwise.map _ (λa b h e=>h (congrArg Place.root e)) eG) (λj p x ag=>by
   rw [List.getElem?_zip_eq_some] at ag;obtain ⟨h1,af⟩:=ag;rw [List.getElem?_map] at h1;cases fP:ts[j]? with
   | none=>rw [fP] at h1; cases h1
   | some t =>
    rw [fP] at h1; cases h1;have Ox:=aQ t (List.mem_of_getElem? fP);obtain ⟨v,hv,_⟩:=iZ.rel t .dead Ox;have sa:a.eval (.tmp t)=v:=by simp [Act.eval,aJ,hv]
    have Kh:(ts.map λt=>a.eval (.tmp t))[j]?=some v:=by rw [List.getElem?_map,fP]; simp [sa]
    refine ⟨by simp [bE,Ox,ab.at],?_,?_,λi e=>?_⟩
    ·rw [Kh];show dy w T ⟨t,[]⟩=some v;unfold dy;simp only [hv,walk]
    ·rw [Kh];exact iv.rel j x v af Kh
    ·subst e; exact Qe J j i (au.self j i af)) (λj t c ag aa=>iv.off j t c (by omega) aa) (λj c ag aa=>iv.bl j c (by omega) aa) (λi j c hi ag h1 af=>iv.ec i j c (by omega) (by omega) h1 af)
 refine ⟨_,iw.keep hk,λc ⟨t,_,aa⟩=>?_⟩;have:lI fx ys.length H1 c:=by
  rcases aH t c aa with h | ⟨j,ag,h⟩
  ·exact .inl ⟨t,h⟩
  ·exact .inr ⟨j,by omega,h⟩
 rcases hq c this with h | ⟨_,_,h⟩
 ·exact h
 ·exact h.elim
theorem h7.settle {o:Oper}{ts:List Nat}{xs ys:List ab}(J:Own.hn g (ts.map Operand.tmp)=some xs) (au:Take g xs ys g1) (eG:ts.Nodup) (ah:ys.length=ts.length) (aQ:∀ t∈ts,g1 t=some .dead)
  (hk:iE (qJ g1 ((ts.map λt=>(⟨t,[]⟩:Place)).zip ys)) g2) (he:h7 P N g2 o g3):h7 P N g o g3:=by
 intro w I T Fs bf a aJ bp K Q c5;obtain ⟨bW,d',fq⟩:=bf.settle a aJ J au eG ah aQ hk;refine he w I T bW d' a aJ bp K Q λca w' aC au=>c5 ca w' ?_ au;obtain ⟨b9,b3,I',jY,h1,af⟩:=aC;exact ⟨b9,b3,I',jY,h1,k3.trans ⟨Fr.refl _ _,λ_ h=>h,λ_ h=>.inl h,λc h=>.inl (fq c h)⟩ af⟩
theorem SG {Q:Nat->Prop}{a:Nat}(aJ:Q a):∀ t∈[a],Q t:=λt au=>by rw [List.mem_singleton.1 au]; exact aJ
theorem EY {Q:Nat->Prop}{a b:Nat}(aJ:Q a) (ar:Q b):∀ t∈[a,b],Q t:=λt au=>by
 rcases List.mem_cons.1 au with rfl | au
 ·exact aJ
 ·rw [List.mem_singleton.1 au]; exact ar
def GD (p q:Place):Bool:=Nat.beq p.root q.root&&p.path == q.path
def Dd:List Place->Bool
 | []=>true
 | x::l=>l.all (λy=>!GD x y)&&Dd l
theorem PV:∀ {l:List Place},Dd l=true->l.Nodup
 | [],_=>List.nodup_nil
 | p::l,h=>by
  simp only [Dd,Bool.and_eq_true,List.all_eq_true] at h;refine List.nodup_cons.2 ⟨λhm=>?_,PV h.2⟩;have:=h.1 p hm;simp [GD] at this
def Y0 (p:Place) (acc:Acc):Bool:=acc.all λe=>match lj e with | some q=>!GD p q | none=>true
theorem Di {p:Place}{G:List (Nat × ab)}{A:Nat->Bool}(h:Y0 p acc=true) (dh:oc G=true):∀ t z n m new,ds (get G) A acc t≠some (.bI z p n m new):=by
 intro t z n m new e;rcases u1 e with ⟨b5,he,h1,_,af⟩ | ⟨_,af⟩
 ·have:=List.all_eq_true.1 h b5 he;obtain ⟨k,d,x⟩:=b5;simp only at af;subst af;simp [lj,GD] at this
 ·exact x0 dh _ _ _ _ _ _ af
theorem O.EZ {en:bN α}{L M r:List α}{y:ab}{e gF:Nat}{a b:Operand}{p:Place}{t ty:TypeId}(av:Rd g a (.a6 en.z p L.length)) (aq:bE g p=some (aD en L)) (J:Rd g b y) (hm:ox g en y M) (au:im P t e en.z gF=true) (ar:Nat.ble gF 128=true) (h:c8 L M=some r) (eN:∀ t z n m new,g t≠some (.bI z p n m new)) :
  cf P g (.call { callee:=.builtin .append,args:=#[a,b],argTypes:=#[t,t] }) ty (.bI en.z p L.length M.length (bB en M)):=by
 obtain ⟨h1,af,_⟩:=wP h ar;exact .l4 (.grow av.bs (.inl ⟨_,aq⟩) (λt bQ cm m' cO e=>eN _ _ _ _ _ e) J.bs hm.src au h1 af)
theorem bx.BA (bV:Nat) {G G2:List (Nat × ab)}{o:Oper}(he:h7 P N (ds (get G) (λm=>(bd.getD bV []).contains m) acc) o (get G2)) (aN:o.guard=none) (gS:Dd (acc.filterMap lj)=true) (fO:oc G=true) (ag:Nat.beq ops.size (bV+l.length+1)=true)
  (fq:acc.filter (λe=>!(bd.getD bV []).contains e.1)=[])
  (ar:(List.range ops.size).all (λk=>Nat.ble k bV||(bd.getD k []).contains bV)=true) (hk:bx P N ops bd (get G2) (bV+1) [] l K):bx P N ops bd (get G) i acc (o::l) K:=by
 intro dE j bT lZ mh;have:=BM mh ag;subst this;obtain ⟨h1,af⟩:=drop_cons mh;obtain ⟨g',hr,c5⟩:=hk [] (j+1) .nil .nil af;refine ⟨g',.Bw (U:=[]) (rs:=sE []) lZ (PV gS) (x0 fO) h1 ?_ he.v (λp aq=>by simp [sE] at aq) fq.symm (by simp) (by simp) (by simp) ?_ hr,c5⟩
 ·unfold iH; rw [aN]
 ·refine List.all_eq_true.2 λk hk=>?_;have:=List.all_eq_true.1 ar k hk;simp only [Bool.or_eq_true,decide_eq_true_eq,Nat.ble_eq] at this ⊢;exact this
theorem h7.cell {o:Oper}{r k0:Nat}{y:ab}{cs:List ab}{g5:aM}(hr:g r=some (.obj cs)) (ao:cs[k0]?=some y) (xI:cG y)
  (vF:∀ v:Value,v.oneCell'=true->∃ g1 g4,iE (ct g ⟨r,[k0]⟩ (.lit v)) g1/\h7 P N g1 o g4/\bE g4 ⟨r,[k0]⟩=some (.lit v)/\iE (ct g4 ⟨r,[k0]⟩ y) g5) (ly:∀ i,y≠.self i:=by exact λ_ h=>(by cases h)):ng P N (λp=>p∈[(⟨r,[k0]⟩:Place)]) g o g5:=by
 intro w I T Fs h a aJ bp K Q c5;have lx:∀ z q n m new,y≠.bI z q n m new:=by rintro z q n m new rfl; cases xI
 have fI:bE g ⟨r,[k0]⟩=some y:=by simp [bE,hr,ab.at,ab.kids,ao]
 obtain ⟨v,cq,hv,dt,c_,put⟩:=h.mZ.part fI lx;have qA:v.oneCell'=true:=by
  obtain ⟨u,hu,nu⟩:=h.rel r _ hr;obtain ⟨b,sM,h1,af,aE,bm,_⟩:=R.node (z:=0) (n:=0) (nu.gw (by simp)) (.inr rfl) ao;have:dy w T ⟨r,[k0]⟩=child w u k0:=by
   unfold dy;simp only [hu,walk];cases child w u k0 <;> rfl
  rw [this,aE] at hv;cases hv;exact bm
 obtain ⟨fx,iZ,xa,B1⟩:=put (.lit v) cg (.lit qA λ_ h=>h) (λ_ h=>h.elim) (λ_ h=>h.elim) (λ_ _ _ h=>h.elim) (λ_ h=>by cases h);obtain ⟨g1,g4,gz,c6,Js,JP⟩:=vF v qA;have sK:∀ t c,fx t c->Fs t c/\¬ cq c:=by
  intro t c aa;by_cases au:t=r
  ·subst au;rcases (xa c).1 aa with aI | aI
   ·exact aI
   ·exact aI.elim
  ·rw [B1 t au] at aa;exact ⟨aa,λaU=>au (h.ec t r c aa (c_ c aU))⟩
 have Jl:=iZ.keep gz;refine c6 w I T _ Jl a aJ bp K Q λca w' aC ta=>?_;obtain ⟨b9,b3,I',bW,d',bU⟩:=aC;obtain ⟨v2,iT,tb,mO,VV,Ln⟩:=d'.mZ.part Js (by simp);have Kg:v2=v:=mO.hM.1;subst Kg;have Jc:∀ c,cq c->¬ I c:=λc aa=>h.bl r c (c_ c aa);have xc:∀ c,cq c->c<w.heap.size:=λc aa=>h.jc r c (c_ c aa);have x4:∀ c,cq c->¬ ∃ t,(g1 t≠none/\fx t c):=λc aa ⟨t,_,aI⟩=>(sK t c aI).2 aa;have Dl:∀ t c,bW t c->¬ cq c:=by
  intro t c aa aU;rcases bU.own c ⟨t,aa⟩ with aI | aI
  ·exact x4 c aU aI
  ·have:=xc c aU; omega
 have K_:∀ c,cq c->¬ I' c:=by
  intro c aa hi;rcases bU.new c hi with aI | aI | aI
  ·exact Jc c aa aI
  ·exact x4 c aa aI
  ·have:=xc c aa; omega
 have Lx:∀ c,cq c->w'.heap[c]?=w.heap[c]?:=λc aa=>bU.dM.block c (xc c aa) (x4 c aa);have rM:∀ c,I c->w'.heap[c]?=w.heap[c]?:=λc aa=>bU.dM.block c (h.lt c aa) λ⟨t,_,aI⟩=>h.bl t c (sK t c aI).1 aa;have B9:R w' I' (fp w' ca.tmps) y v2 cq:=((dt.bn xI).frame rM bU.more (λ_ _ h=>h) Lx);obtain ⟨Mj,Jm,I8,I9⟩:=Ln y cq B9 (λc aa aU=>(Dl _ c aU aa).elim) (λc aa=>K_ c aa) (λt c _ aa aU=>Dl t c aU aa) (λi e=>absurd e (ly i));have s4:=Jm.keep JP;refine c5 ca w' ⟨b9,b3,I',_,s4,⟨?_,bU.more,λc aa=>?_,λc aa=>?_⟩⟩ ta λc' path aq y' pd aeE=>?_
 ·exact bU.dM.mono λb _ ⟨t,_,aI⟩=>⟨t,(sK t b aI).1⟩
 ·rcases bU.new c aa with aI | ⟨t,_,aI⟩ | aI
  ·exact .inl aI
  ·exact .inr (.inl ⟨t,(sK t c aI).1⟩)
  ·exact .inr (.inr aI)
 ·obtain ⟨t,_,aa⟩:=aa;have:(∃ t,bW t c)\/cq c:=by
   by_cases au:t=r
   ·subst au;rcases (I8 c).1 aa with ⟨aI,_⟩ | aI
    ·exact .inl ⟨_,aI⟩
    ·exact .inr aI
   ·rw [I9 t au] at aa; exact .inl ⟨t,aa⟩
  rcases this with aI | aI
  ·rcases bU.own c aI with ⟨t,_,hb⟩ | hb
   ·exact .inl ⟨t,(sK t c hb).1⟩
   ·exact .inr hb
  ·exact .inl ⟨r,c_ c aI⟩
 ·have aq:(⟨c',path⟩:Place)∈[(⟨r,[k0]⟩:Place)]:=aq;have aq:=List.mem_singleton.1 aq;cases aq;rw [hv,tb]
end
section
variable {α:Type}{P:Program}{N:cP}{g:aM}{ops:Array Oper}{l:List Oper}{K:aM->Prop}{r n:Nat}{t e ty:TypeId}{a b:Operand}{m:Int}{en:bN α}{L:List α}{y y2:α}{k:IntKind}{pos:String}{after:Array Edge}
def xJ {α:Type}(n:Nat) (l:List α) (i:Int):Option α:=if i<n then idx l i else none
theorem Kw (h:xJ n L m=some y):m<n/\idx L m=some y:=by
 unfold xJ at h
 split at h
 ·exact ⟨by assumption,h⟩
 ·cases h
theorem S5 (aW:Nat.blt 0 en.z=true) (h:idx L m=some y):m.toNat * en.z<(bB en L).length:=by
 obtain ⟨aK,h1,_⟩:=mn h;rw [oR];exact Nat.mul_lt_mul_of_pos_right (by omega) (by simpa using aW)
theorem O.Py (av:g r=some (.obj (bB en L))) (aW:Nat.blt 0 en.z=true) (hi:Rd g b (.lit (.int k m))) (au:zh P t e n en.z=true) (h:xJ n L m=some y):cf P g (.indexAddr t (.tmp r) b) ty (.ptr ⟨r,[]⟩ (m.toNat * en.z)):=by
 obtain ⟨h1,af⟩:=Kw h;have aP:=S5 aW af;obtain ⟨aK,_,_⟩:=mn af;have J:Own.bs g (.tmp r)=some (.ptr ⟨r,[]⟩ 0):=by
  cases aa:bB en L with
  | nil=>rw [aa] at aP; simp at aP
  | cons c cs=>simp [Own.bs,av,aa,pn,fZ]
 have hm:((m.toNat:Nat):Int)=m:=by omega
 have:=dj.FR (P:=P) (g:=g) (ty:=ty) (k:=0) (j:=m.toNat) J (by rw [hm]; exact hi.bs) au (by omega) ⟨.obj (bB en L),by simp [bE,av,ab.at],0,0,_,.inr rfl,by rw [Nat.zero_add]; exact aP⟩;rw [Nat.zero_add] at this;exact .eD this
theorem O.YK {x:ab}(av:g r=some (.obj (bB en L))) (aJ:Rd g a (.ptr ⟨r,[]⟩ (m.toNat * en.z))) (h:idx L m=some y) (J:(en.cells y)[0]?=some x) (au:j6 P t=true) (aC:∀ p,fZ 0 p x=x):cf P g (.load t a) ty x:=by
 have:=Ls en h J;rw [Nat.add_zero] at this;exact O.qE av aJ au this (aC _)
theorem aA.aai {L9:ab}{cs':List ab}{G2:List (Nat × ab)}(av:g r=some (.obj (bB en L))) (aW:Nat.blt 0 en.z=true) (aJ:Rd g a (.ptr ⟨r,[]⟩ (m.toNat * en.z))) (ar:Rd g b L9) [aC:b6 L9] (h:idx L m=some y) (aa:o4 L9=some cs') (eY:cs'=en.cells y2) (fr:hF P t cs'.length=true)
  (hr:(get G2 r).isSome=true) (dh:lu g (get G2) r (bB en (L.set m.toNat y2)) G2) (hk:aA P N ops l (get G2) K):aA P N ops (⟨none,.store t a b,ty,pos,after,none⟩::l) g K:=by
 have hlen:cs'.length=en.z:=by rw [eY,en.len]
 obtain ⟨aK,h1,_⟩:=mn h;refine .ke av aJ ar aa fr ?_ ?_ ?_ hr dh hk
 ·rw [hlen,oR];simp only [Nat.ble_eq];have:(m.toNat+1) * en.z<=L.length * en.z:=Nat.mul_le_mul_right _ (by omega);rw [Nat.add_mul,Nat.one_mul] at this;exact this
 ·rw [hlen]; exact aW
 ·have:=Lr en h (o:=0) (cs':=cs') (y2:=y2) (by
   subst eY;have ah:(en.cells y2).length=(en.cells y).length:=by rw [en.len,en.len]
   unfold e4;rw [List.take_zero,List.nil_append,Nat.zero_add,ah,List.drop_length,List.append_nil]) (by omega)
  rw [Nat.add_zero] at this;exact this
end
end Go.Own
namespace Go.Own
open Go Go.Proofs Go.Shelf Go.Lib Go.Sort
variable [cF]
section
variable {P:Program}{w:World}
class ou {α:Type}(e:bN α) where
 sO:α->List Value
 cells:∀ a,e.cells a=(sO a).map .lit
 one:∀ a,∀ v∈sO a,v.oneCell'=true
variable {α:Type}{e:bN α}
theorem ou.len [h:ou e] (a:α):(h.sO a).length=e.z:=by
 have:=e.len a;rw [h.cells,List.length_map] at this;exact this
def pE (e:bN α) [h:ou e] (l:List α):List Value:=l.flatMap h.sO
theorem GQ [h:ou e]:∀ l:List α,bB e l=(pE e l).map .lit
 | []=>rfl
 | a::l=>by
  have:bB e (a::l)=e.cells a++bB e l:=by simp [bB]
  rw [this,GQ l,h.cells];simp [pE]
theorem IU [h:ou e] (l:List α):(pE e l).length=l.length * e.z:=by
 have:=oR e l;rw [GQ,List.length_map] at this;exact this
theorem NM [h:ou e] {l:List α}:∀ v∈pE e l,v.oneCell'=true:=by
 intro v hv;obtain ⟨a,_,hv⟩:=List.mem_flatMap.1 hv;exact h.one a v hv
theorem NL [h:ou e]:∀ (l:List α) (i j:Nat) (a:α),l[i]?=some a->j<e.z->(pE e l)[i * e.z+j]?=(h.sO a)[j]?
 | [],i,j,a,aJ,_=>by simp at aJ
 | b::l,0,j,a,aJ,ag=>by
  simp only [List.getElem?_cons_zero,Option.some.injEq] at aJ;subst aJ;simp only [pE,List.flatMap_cons,Nat.zero_mul,Nat.zero_add];rw [List.getElem?_append_left (by rw [ou.len]; exact ag)]
 | b::l,i+1,j,a,aJ,ag=>by
  simp only [List.getElem?_cons_succ] at aJ;have:=NL l i j a aJ ag;simp only [pE,List.flatMap_cons] at this ⊢;rw [List.getElem?_append_right (by rw [ou.len,Nat.add_mul]; omega),ou.len,<- this];congr 1;rw [Nat.add_mul]; omega
theorem NK {β:Type} [Inhabited β] [h:ou e] (f:β->α) (d:Array β):(flatK (λx=>h.sO (f x)) e.z d).toList=pE e (d.toList.map f):=by
 apply List.ext_getElem?;intro t;by_cases au:t<d.size * e.z
 ·have aW:0<e.z:=by
   rcases Nat.eq_zero_or_pos e.z with aK | aK
   ·rw [aK] at au; omega
   ·exact aK
  have h1:t / e.z<d.size:=Nat.div_lt_of_lt_mul (by rw [Nat.mul_comm]; exact au);have af:t % e.z<e.z:=Nat.mod_lt _ aW;have aJ:(d.toList.map f)[t / e.z]?=some (f d[t / e.z]!):=by
   rw [List.getElem?_map,Array.getElem?_toList,Array.getElem?_eq_getElem h1,getElem!_pos d _ h1]; rfl
  have:=NL (e:=e) _ (t / e.z) (t % e.z) _ aJ af;rw [Nat.mul_comm,Nat.div_add_mod] at this;rw [this,Array.getElem?_toList,Array.getElem?_eq_getElem (by simpa using au),<- getElem!_pos (flatK (λx=>h.sO (f x)) e.z d) t (by simpa using au),get_flatK _ _ _ _ au];have aE:t % e.z<(h.sO (f d[t / e.z]!)).length:=by rw [ou.len]; exact af
  rw [getElem!_pos (h.sO (f d[t / e.z]!)) (t % e.z) aE,List.getElem?_eq_getElem aE]
 ·rw [List.getElem?_eq_none (by simp; omega),List.getElem?_eq_none (by rw [IU,List.length_map,Array.length_toList]; omega)]
theorem Rf [fN:ou e] {vs:List Value}{v0 v1:Value}(xD:vs=[v0,v1]) {I:a'}{Fs:Nat->a'}{g:aM}(bf:cB w I vs.toArray g Fs) {w':World}{t:TypeId}{r:List α}(aX:w'.ownsRow 0 t e.z v0 r.length (pE e r)) (aH:∀ c,Fs 0 c↔v0.ownBlock=some c) (kx:Fr w w' λc=>Fs 0 c) :
  ∃ v I' bW,Ending.returned (.tuple #[])=.returned v/\cB w' I' (vs++[v]).toArray (kS [some (aD e r),none] (.bR [])) bW/\k3 w I (λc=>∃ t,Fs t c) w' I' (λc=>∃ t,bW t c):=by
 subst xD;refine ⟨_,I,λt=>if t=0 then Fs 0 else cg,rfl,⟨λt x J=>?_,λt au c aa=>?_,λt t' c aa et=>?_,λt c aa=>?_,λc aa=>Nat.lt_of_lt_of_le (bf.lt c aa) kx.size,λt t' z p n m new bQ cm m' cO h1 af=>?_,cF.keep bf.hW (λc aa=>kx.block c (bf.lt c aa) λh=>bf.bl 0 c h aa) λ_ h=>h⟩,⟨?_,λc h=>h,λc h=>.inl h,λc aa=>?_⟩⟩
 ·unfold kS at J
  split at J
  ·rename_i au;have au:t=2:=au;subst au;cases J;exact ⟨.tuple #[],rfl,.tree (.bR (Fs:=λ_=>cg) rfl (λk x u h=>by simp at h) (λj k c h=>by simp at h) (λc=>⟨λh=>h.elim,λ⟨k,h,_⟩=>by simp at h⟩))⟩
  ·match t,J with
   | 0,J =>
    cases J;refine ⟨v0,rfl,.tree ?_⟩;show R w' I _ (.own e.z r.length (bB e r)) v0 (Fs 0);rw [GQ];refine .own (Fs:=λ_=>cg) aX (by simp) (λk u hu=>NM u (List.mem_of_getElem? hu)) (λk x u J hu=>?_) (λ_ _ _ _ _ h=>h.elim) (λ_ _ _ h=>h.elim) (λc=>⟨λh=>.inl ((aH c).1 h),λh=>?_⟩)
    ·rw [List.getElem?_map,hu] at J;cases J;exact .lit (NM u (List.mem_of_getElem? hu)) λ_ h=>h
    ·rcases h with h | ⟨_,_,h⟩
     ·exact (aH c).2 h
     ·exact h.elim
   | 1,J=>cases J
   | t+2,J=>cases J
 ·have aK:¬ t=0:=λe=>by subst e; exact absurd au (by simp [kS])
  simp only [if_neg aK] at aa;exact aa
 ·have key:∀ {t:Nat},(if t=0 then Fs 0 else cg) c->t=0:=λ{t} h=>by
   by_cases aK:t=0
   ·exact aK
   ·rw [if_neg aK] at h; exact h.elim
  rw [key aa,key et]
 ·by_cases aK:t=0
  ·simp only [if_pos aK] at aa; exact bf.bl 0 c aa
  ·simp only [if_neg aK] at aa; exact aa.elim
 ·unfold kS at h1
  split at h1
  ·cases h1
  ·match t,h1 with
   | 0,h1=>cases h1
   | 1,h1=>cases h1
   | t+2,h1=>cases h1
 ·exact kx.mono λb _ ar=>⟨0,ar⟩
 ·obtain ⟨t,au⟩:=aa;by_cases aK:t=0
  ·simp only [if_pos aK] at au; exact .inl ⟨0,au⟩
  ·simp only [if_neg aK] at au; exact au.elim
theorem bS.aaI [DecidableEq α] [vp:ou e] {ρ:Ren}(L:SlLaysF0.n6 P ρ) (Sw:∀ w,(isAgg (ρ.t 24)).run P w=.ok true w) (abv:∀ w,(Go.sizeOf (ρ.t 24)).run P w=.ok e.z w) {g:FuncId}{caps:List ab} [pL:dp caps] (aN:hG P g=true) {l r:List α}{fH:α->α->Option Int}(h:p4 fH l=some r)
  (aa:∀ a b v,fH a b=some v->bS P g (.agg (e.cells a)::.agg (e.cells b)::caps) (none::none::caps.map λ_=>none) (ae v)) :
  bS P (ρ.f 6) [aD e l,.cD (.func g) [] caps] [some (aD e r),none] (.bR []):=by
 refine ⟨rfl,λw I vs Fs ah bf=>?_⟩;obtain ⟨v0,v1,rfl⟩:∃ v0 v1,vs=[v0,v1]:=by
  match vs,ah with
  | [a,b],_=>exact ⟨a,b,rfl⟩
 obtain ⟨xz,j_,Ka,rfl⟩:=Rc h;obtain ⟨u,hu,aY⟩:=bf.rel 0 (aD e l) rfl;obtain rfl:v0=u:=by simpa using hu
 replace aY:=aY.gw (by simp);obtain ⟨u,hu,qs⟩:=bf.rel 1 (.cD (.func g) [] caps) rfl;obtain rfl:v1=u:=by simpa using hu
 replace qs:=qs.gw (by simp);rw [show aD e l=.own e.z l.length (bB e l) from rfl,GQ] at aY
 cases aY with
 | ref J=>simp [ab.isRef] at J
 | @own _ _ _ _ t us bD _ aX xu hz hr aQ ar aH =>
 cases qs with
 | ref J=>simp [ab.isRef] at J
 | @cD _ _ _ aw km _ xa h1 af i' hK =>
 obtain rfl:aw=#[]:=Array.eq_empty_of_size_eq_zero (by simpa using h1.symm);have mM:∀ c,Fs 0 c↔v0.ownBlock=some c:=by
  intro c;refine ⟨λaa=>?_,λaa=>(aH c).2 (.inl aa)⟩;rcases (aH c).1 aa with h | ⟨k,hk,h⟩
  ·exact h
  ·have J:=List.getElem?_eq_getElem hk;have hu:=List.getElem?_eq_getElem (xu ▸ hk);have aY:=hr k _ _ J hu;rw [List.getElem_map] at aY;generalize us[k]=gy at aY;cases aY with
   | lit _ aU=>exact (aU c h).elim
   | ref J=>simp [ab.isRef] at J
 have nz:us=pE e l:=by
  apply List.ext_getElem?;intro k;by_cases hk:k<us.length
  ·have ih:k<((pE e l).map ab.lit).length:=xu.symm ▸ hk;have J:=List.getElem?_eq_getElem ih;have hu:=List.getElem?_eq_getElem hk;have aY:=hr k _ _ J hu;rw [List.getElem_map] at aY;rw [hu,aY.hM.1,List.getElem?_eq_getElem (by simpa using ih)]
  ·rw [List.getElem?_eq_none (by omega),List.getElem?_eq_none (by rw [List.length_map] at xu; omega)]
 subst nz;have CC:=th (kR fH) l;have hlen:=CC.length_eq;by_cases xv:l=[]
 ·subst xv;have h':∃ p cap,v0=.slice p 0 cap:=by
   rcases aX.2 with ⟨rfl,_⟩ | ⟨b,cap,cur,rfl,_⟩
   ·exact ⟨_,_,rfl⟩
   ·exact ⟨_,_,rfl⟩
  obtain ⟨p,cap,rfl⟩:=h';refine (AnyF.slices_SortFunc_none L p cap _ w).mono ?_;rintro b5 w' ⟨rfl,rfl⟩;exact Rf rfl bf (t:=t) (r:=[]) aX mM (Fr.refl _ _)
 ·obtain ⟨OK,Jx⟩:=aX;rcases Jx with ⟨rfl,aK⟩ | ⟨b,cap,cur,rfl,_,ug,hle,J3,fr,fP⟩
  ·exact absurd (List.eq_nil_of_length_eq_zero aK) xv
  have ue:Fs 0 b:=(mM b).2 rfl;have Ju:b<w.heap.size:=(Array.getElem?_eq_some_iff.1 ug).1;obtain ⟨a0,Ca⟩:=List.exists_mem_of_ne_nil l xv
  let β:={ x:α // x∈l }
  haveI:Inhabited β:=⟨⟨a0,Ca⟩⟩
  let enc:β->List Value:=λx=>vp.sO x.1
  let k8:β->β->Int:=λx y=>(fH x.1 y.1).getD 0;have aP:∀ x y:β,ltOf k8 x y=kR fH x.1 y.1:=λx y=>rfl
  let d:Array β:=l.attach.toArray;have Ou:d.toList.map Subtype.val=l:=by
   show (l.attach.toArray).toList.map Subtype.val=l;simp
  have zI:d.size=l.length:=by show (l.attach.toArray).size=l.length; rw [List.size_toArray,List.length_attach]
  have ja:=Qf j_;have hO:SWO (ltOf k8):=by
   refine ⟨λx=>by rw [aP]; exact (ja x.1 x.2).1,λx y z=>?_,λx y z=>?_⟩
   ·rw [aP,aP,aP];exact λp q=>(((ja x.1 x.2).2 y.1 y.2).2 z.1 z.2).1 ⟨p,q⟩
   ·rw [aP,aP,aP];intro p q;rcases (((ja x.1 x.2).2 y.1 y.2).2 z.1 z.2).2 with h | h | h
    ·rw [p] at h; cases h
    ·rw [q] at h; cases h
    ·exact h
  have cX:∀ x y:β,ltOf k8 x y=false->ltOf k8 y x=false->x=y:=by
   intro x y p q;rw [aP] at p q;rcases ((ja x.1 x.2).2 y.1 y.2).1 with h | h | h
   ·rw [p] at h; cases h
   ·rw [q] at h; cases h
   ·exact Subtype.ext h
  have mQ:(flatK enc e.z d).toList=pE e l:=by
   have:=NK (e:=e) (λx:β=>x.1) d;rw [Ou] at this;exact this
  have hH:HoldsK enc e.z w b 0 d:=by
   intro j ag;have xr:j<(pE e l).length:=by rw [<- mQ,Array.length_toList]; exact ag
   refine ⟨?_,?_⟩
   ·unfold World.cell?;simp only [ug,Nat.zero_add];show cur[j]?=_;have h1:=congrArg (λt=>t[j]?) fP;have zO:j<l.length * e.z:=by rw [<- IU (e:=e)]; exact xr
    simp only [List.getElem?_take,if_pos zO,Array.getElem?_toList] at h1;rw [h1,<- mQ,Array.getElem?_toList,Array.getElem?_eq_getElem ag,getElem!_pos (flatK enc e.z d) j ag];rfl
   ·unfold World.frozen?;simp only [ug];simp
  have IK:∀ args w,(callFunc g args).run P w=.ok (.enter g args) w:=λargs w=>zs aN args;have Od:∀ (W:World) (I:a') (ρ':ab->Value->Prop) (a:α),R W I ρ' (.agg (e.cells a)) (.agg (vp.sO a).toArray) λ_=>False:=by
   intro W I ρ' a;rw [vp.cells];refine .agg (Fs:=λ_=>cg) (by simp) (λk u hu=>vp.one a u ?_) (λk x u J hu=>?_) (λ_ _ _ _ _ h=>h.elim) (λc=>⟨λh=>h.elim,λ⟨_,_,h⟩=>h.elim⟩)
   ·rw [List.getElem?_toArray] at hu; exact List.mem_of_getElem? hu
   ·rw [List.getElem?_toArray] at hu;rw [List.getElem?_map,hu] at J;cases J;exact .lit (vp.one a u (List.mem_of_getElem? hu)) λ_ h=>h
  have JA:CmpLays P g km enc e.z k8 b 0 d.size w:=by
   intro m os BL zH x y;have sh:=xz x.1 x.2 y.1 y.2;obtain ⟨v,hv⟩:=Option.isSome_iff_exists.1 sh;have Jy:k8 x y=v:=by show (fH x.1 y.1).getD 0=v; rw [hv]; rfl
   show Calls P g _ (sortWorld id w b 0 m (flatK enc e.z BL) os) λb5 w'=>_/\∃ q Zd,w'=grow ((sortWorld id w b 0 m (flatK enc e.z BL) os).drewN q) Zd;have Jp:cB (sortWorld id w b 0 m (flatK enc e.z BL) os) I #[] (λ_=>none) (λ_=>cg):=by
    refine ⟨λ_ _ h=>(by cases h),λ_ _ _ h=>h,λ_ _ _ h=>h.elim,λ_ _ h=>h.elim,λc aa=>?_,λ_ _ _ _ _ _ _ _ _ _ _ h=>(by cases h),cF.keep bf.hW (λc aa=>(Fj (U:=λc=>Fs 0 c) ue).block c (bf.lt c aa) λh=>bf.bl 0 c h aa) λ_ h=>h⟩;have:=bf.lt c aa;unfold sortWorld;rw [size_grow,Go.Sort.size_putRow];exact Nat.lt_of_lt_of_le this (Nat.le_add_right _ _)
   have jK:=Jp.args (I':=I) (λ_ h=>h) (λc h=>.inl h) (args:=.agg (e.cells x.1)::.agg (e.cells y.1)::caps) (vs:=.agg (enc x).toArray::.agg (enc y).toArray::km.toList) (by simp [af]) (λρ' k z u aW hu=>?_)
   ·have pK:=(aa x.1 y.1 v hv).2 _ I (.agg (enc x).toArray::.agg (enc y).toArray::km.toList) _ (by simp [af]) jK;have k_:(.agg (enc x).toArray::.agg (enc y).toArray::km.toList).toArray=#[.agg (enc x).toArray,.agg (enc y).toArray]++km:=by
     apply Array.ext';simp
    rw [k_] at pK;refine pK.mono ?_;rintro b5 w' ⟨dK,I',bW,rfl,d',bU⟩;obtain ⟨u,hu,nv⟩:=d'.rel (caps.length+2) (ae v) (by simp [kS]);have Kj:u=dK:=by
     have:(Value.agg (enc x).toArray::.agg (enc y).toArray::km.toList).length=caps.length+2:=by simp [af]
     rw [List.getElem?_toArray,<- this] at hu;simpa using hu.symm
    subst Kj;have oE:=(nv.gw (by simp)).hM.1;subst oE;refine ⟨by rw [Jy],?_⟩;exact NV (bU.dM.mono λc _ ⟨_,bO⟩=>bO)
   ·match k,aW,hu with
    | 0,aW,hu=>cases aW; cases hu; exact Od _ _ _ x.1
    | 1,aW,hu=>cases aW; cases hu; exact Od _ _ _ y.1
    | k+2,aW,hu =>
     simp only [List.getElem?_cons_succ] at aW hu;have zC:=(hK k z u aW (by simpa using hu)).bn (ρ':=ρ') (pL.bn z (List.mem_of_getElem? aW));refine zC.frame (λc aa=>?_) (λ_ h=>h) (λ_ _ h=>h) (λc h=>h.elim);exact JD (bf.lt c aa) λe=>bf.bl 0 c (e ▸ ue) aa
  have Ct:=AnyQ.slices_SortFunc_total L e.z Sw abv enc (λx=>ou.len x.1) (λx v hv=>vp.one x.1 v hv) k8 hO g km b 0 cap d w IK JA hH Ju (by rw [zI]; exact Ka) cX;rw [zI] at Ct;refine Ct.mono ?_;rintro b5 w' ⟨rfl,n,os,rfl⟩;have oK:(d.toList.mergeSort λx y=>!ltOf k8 y x).map Subtype.val=ia (kR fH) l:=by
   rw [Pv hO cX];have hm:(ia (ltOf k8) l.attach).map Subtype.val=ia (kR fH) (l.attach.map Subtype.val):=FY (lt:=ltOf k8) (lt':=kR fH) (f:=Subtype.val) (λa b=>aP a b) l.attach;rw [List.attach_map_subtype_val] at hm;exact hm
  generalize aeC:(d.toList.mergeSort λx y=>!ltOf k8 y x)=ms at oK;have Xq:ms.length=l.length:=by rw [<- hlen,<- oK,List.length_map]
  have JG:(flatK enc e.z ms.toArray).toList=pE e (ia (kR fH) l):=by
   have:=NK (e:=e) (λx:β=>x.1) ms.toArray;rw [show (ms.toArray).toList.map (λx:β=>x.1)=ia (kR fH) l from oK] at this
   exact this
  have s5:(flatK enc e.z ms.toArray).size=l.length * e.z:=by rw [size_flatK,List.size_toArray,Xq]
  refine Rf rfl bf (t:=t) (r:=ia (kR fH) l) ⟨IU _,.inr ⟨b,cap,_,by rw [hlen],Nat.zero_le _,Oy (enc:=id) ug,by omega,J3,?_,?_⟩⟩ mM (Fj (enc:=id) ue)
  ·rw [<- fr];simp [putCells]
  ·rw [hlen,<- s5,Qz (by rw [s5,fr]; exact Nat.mul_le_mul_right _ hle),List.map_id,JG]
end
end Go.Own
namespace Go.Own
open Go
variable [cF]
section
variable {α:Type}{P:Program}{N:cP}{g:aM}{d r:Nat}
end
end Go.Own
namespace Go.Own
open Go Go.Proofs Go.Shelf Go.Lib Go.Sort
variable [cF]
section
variable {α:Type} [DecidableEq α]
end
section
variable {α:Type}{e:bN α}{P:Program}{w:World}
variable [DecidableEq α] [Inhabited α]
end
end Go.Own
namespace Go.Proofs
open Go.Shelf Go.RowKit Go.Lib Go.Sort
variable {α:Type} [Inhabited α] [DecidableEq α]
namespace Two
open Go.Own
variable [cF]
variable {P:Program}{t:TypeId}
end Two
end Go.Proofs
namespace Go.Own
open Go Go.Proofs Go.Shelf Go.Lib Go.Sort
variable [cF]
def yz (k:IntKind) (m n:Int):Int:=m.fdiv (2 ^ (min n.toNat k.bits))
theorem O.shr {P:Program}{g:aM}{t t2 ty:TypeId}{a b:Operand}{k kc:IntKind}{m n:Int}(J:Rd g a (.lit (.int k m))) (ao:Rd g b (.lit (.int kc n))) (h:decide (0<=n)=true):cf P g (.binOp .shr t a b t2) ty (.lit (.int k (yz k m n))):=by
 have aK:¬ n<0:=by have:=of_decide_eq_true h; omega
 exact .eD (.bin J.bs ao.bs rfl λw=>by simp [eqGuard,binOp,Op.shift,aK,yz])
theorem abq {P:Program}{w:World}{ops:Array Oper}{rest:List Oper}{o:Oper}{a:Act}{Q:Exit->Act->World->Prop}(s6:o.guard=none) (s x:Operand) (t:TypeId)
  (aX:o.op=.call { callee:=.builtin .append,args:=#[s,x],argTypes:=#[t,t] }) (e:TypeId) (i:TypeInfo) (z:Value) (au:P.underlying t=some (.slice e)) (hi:P.info? e=some i) (aW:i.zero=some z) (l0:z.cells.size=i.size) (fr:0<i.size)
  (v:Value) (n:Nat) (xs:List Value) (av:a.eval s=v) (CA:w.ownsRow 0 e i.size v n xs)
  (ad:Addr) (m c:Nat) (news:List Value) (J:a.eval x=.slice (some ad) m c) (ah:news.length=m * i.size) (se:∀ j u,news[j]?=some u->w.cell? (ad.add j)=some u) (h1:∀ u∈news,u.oneCell'=true)
  (o7:n+m<=maxLen) (zF:(n+m) * i.bytes<=140737488355328)
  (h:∀ dK w' b3,A' w w' v dK e b3 i.size n m xs news->wpList P ops Q rest (a.put o.dst dK) w'):wpList P ops Q (o::rest) a w :=
 wpList_plain s6 λ_ c5=>by
  obtain ⟨dK,w',b3,hr,dL⟩:=GS (P:=P) (w:=w) t o.type e e i z au hi aW l0 fr CA (a:=some ad) (m:=m) (c:=c) (λ_=>rfl) ah (λMD e=>by cases e; exact se) h1 o7 zF;unfold Oper.wp execOp;simp only [aX,resolve,invoke,builtin,Sem.run_bind,Sem.run_pure,Result.andThen_ok,List.map_toArray,List.map_cons,List.map_nil,av,J,hr];exact c5 _ _ (h dK w' b3 dL)
def E' {α:Type}(l:List α):Option (List α):=if l.length<=1000000000000 then some l else none
section
variable {α:Type}{e:bN α}{P:Program}{w:World}
end
end Go.Own
namespace Go.Own
open Go
variable [cF]
section
variable {α:Type}{P:Program}{N:cP}{g:aM}{d r:Nat}
end
theorem q {α:Sort _}{a:α}:a=a:=rfl
abbrev bk:ByteArray:=⟨#[]⟩
theorem p0 {p:Prop} [Decidable p] (h:decide p=true):p:=of_decide_eq_true h
theorem l8 {b:Bool}{g h:aM}{fl s1:Nat}{dU aR:ab}(aK:g fl=some dU) [b6 dU] (h1:g s1=some aR) [b6 aR]:Trim b g h [(fl,dU),(s1,aR)]:=(.n aK (.n h1 .nil))
theorem oi {b:Bool}{g h:aM}{fl s1 s2:Nat}{dU aR x2:ab}(aK:g fl=some dU) [b6 dU] (h1:g s1=some aR) [b6 aR] (af:g s2=some x2) [b6 x2]:Trim b g h [(fl,dU),(s1,aR),(s2,x2)]:=(.n aK (.n h1 (.n af .nil)))
theorem sL {b:Bool}{g h:aM}{fl s1 s2 eK:Nat}{dU aR x2 a8:ab}(aK:g fl=some dU) [b6 dU] (h1:g s1=some aR) [b6 aR] (af:g s2=some x2) [b6 x2] (aE:g eK=some a8) [b6 a8]:Trim b g h [(fl,dU),(s1,aR),(s2,x2),(eK,a8)]:=(.n aK (.n h1 (.n af (.n aE .nil))))
theorem mw {b:Bool}{g h:aM}{fl s1 s2 eK da:Nat}{dU aR x2 a8 bg:ab}(aK:g fl=some dU) [b6 dU] (h1:g s1=some aR) [b6 aR] (af:g s2=some x2) [b6 x2] (aE:g eK=some a8) [b6 a8] (bm:g da=some bg) [b6 bg]:Trim b g h [(fl,dU),(s1,aR),(s2,x2),(eK,a8),(da,bg)]:=(.n aK (.n h1 (.n af (.n aE (.n bm .nil)))))
theorem rQ {b:Bool}{g h:aM}{fl s1 s2 eK da b2:Nat}{dU aR x2 a8 bg b1:ab}(aK:g fl=some dU) [b6 dU] (h1:g s1=some aR) [b6 aR] (af:g s2=some x2) [b6 x2] (aE:g eK=some a8) [b6 a8] (bm:g da=some bg) [b6 bg] (b7:g b2=some b1) [b6 b1]:Trim b g h [(fl,dU),(s1,aR),(s2,x2),(eK,a8),(da,bg),(b2,b1)]:=(.n aK (.n h1 (.n af (.n aE (.n bm (.n b7 .nil))))))
theorem Ha {b:Bool}{g h:aM}{fl s1 s2 eK da b2 cK:Nat}{dU aR x2 a8 bg b1 bz:ab}(aK:g fl=some dU) [b6 dU] (h1:g s1=some aR) [b6 aR] (af:g s2=some x2) [b6 x2] (aE:g eK=some a8) [b6 a8] (bm:g da=some bg) [b6 bg] (b7:g b2=some b1) [b6 b1] (dr:g cK=some bz) [b6 bz]:Trim b g h [(fl,dU),(s1,aR),(s2,x2),(eK,a8),(da,bg),(b2,b1),(cK,bz)]:=(.n aK (.n h1 (.n af (.n aE (.n bm (.n b7 (.n dr .nil)))))))
theorem aa9 {b:Bool}{g h:aM}{fl s1 s2 eK da b2 cK gg:Nat}{dU aR x2 a8 bg b1 bz bq:ab}(aK:g fl=some dU) [b6 dU] (h1:g s1=some aR) [b6 aR] (af:g s2=some x2) [b6 x2] (aE:g eK=some a8) [b6 a8] (bm:g da=some bg) [b6 bg] (b7:g b2=some b1) [b6 b1] (dr:g cK=some bz) [b6 bz] (kN:g gg=some bq) [b6 bq]:Trim b g h [(fl,dU),(s1,aR),(s2,x2),(eK,a8),(da,bg),(b2,b1),(cK,bz),(gg,bq)]:=(.n aK (.n h1 (.n af (.n aE (.n bm (.n b7 (.n dr (.n kN .nil))))))))
theorem ae0 {b:Bool}{g h:aM}{fl s1 s2 eK da b2 cK gg ej:Nat}{dU aR x2 a8 bg b1 bz bq bM:ab}(aK:g fl=some dU) [b6 dU] (h1:g s1=some aR) [b6 aR] (af:g s2=some x2) [b6 x2] (aE:g eK=some a8) [b6 a8] (bm:g da=some bg) [b6 bg] (b7:g b2=some b1) [b6 b1] (dr:g cK=some bz) [b6 bz] (kN:g gg=some bq) [b6 bq] (w_:g ej=some bM) [b6 bM]:Trim b g h [(fl,dU),(s1,aR),(s2,x2),(eK,a8),(da,bg),(b2,b1),(cK,bz),(gg,bq),(ej,bM)]:=(.n aK (.n h1 (.n af (.n aE (.n bm (.n b7 (.n dr (.n kN (.n w_ .nil)))))))))
theorem aa7 {b:Bool}{g h:aM}{fl s1 s2 eK da b2 cK gg ej oS:Nat}{dU aR x2 a8 bg b1 bz bq bM cC:ab}(aK:g fl=some dU) [b6 dU] (h1:g s1=some aR) [b6 aR] (af:g s2=some x2) [b6 x2] (aE:g eK=some a8) [b6 a8] (bm:g da=some bg) [b6 bg] (b7:g b2=some b1) [b6 b1] (dr:g cK=some bz) [b6 bz] (kN:g gg=some bq) [b6 bq] (w_:g ej=some bM) [b6 bM] (BZ:g oS=some cC) [b6 cC]:Trim b g h [(fl,dU),(s1,aR),(s2,x2),(eK,a8),(da,bg),(b2,b1),(cK,bz),(gg,bq),(ej,bM),(oS,cC)]:=(.n aK (.n h1 (.n af (.n aE (.n bm (.n b7 (.n dr (.n kN (.n w_ (.n BZ .nil))))))))))
theorem aa8 {b:Bool}{g h:aM}{fl s1 s2 eK da b2 cK gg ej oS e2:Nat}{dU aR x2 a8 bg b1 bz bq bM cC ch:ab}(aK:g fl=some dU) [b6 dU] (h1:g s1=some aR) [b6 aR] (af:g s2=some x2) [b6 x2] (aE:g eK=some a8) [b6 a8] (bm:g da=some bg) [b6 bg] (b7:g b2=some b1) [b6 b1] (dr:g cK=some bz) [b6 bz] (kN:g gg=some bq) [b6 bq] (w_:g ej=some bM) [b6 bM] (BZ:g oS=some cC) [b6 cC] (Vt:g e2=some ch) [b6 ch]:Trim b g h [(fl,dU),(s1,aR),(s2,x2),(eK,a8),(da,bg),(b2,b1),(cK,bz),(gg,bq),(ej,bM),(oS,cC),(e2,ch)]:=(.n aK (.n h1 (.n af (.n aE (.n bm (.n b7 (.n dr (.n kN (.n w_ (.n BZ (.n Vt .nil)))))))))))
section
variable {P:Program}{N:cP}{ops:Array Oper}{g:aM}{K:aM->Prop}{l:List Oper}{d t:Nat}{ty:TypeId}{pos:String}{after:Array Edge}{v:Value}
theorem kg {G1:List (Nat × ab)}(h:Trim true g (get G1) G1):aA P N ops [] g λg'=>np g' (get G1):=.fin h
theorem cN (h:g t=some (.lit v)) (hk:aA P N ops l (cV g d (.lit v)) K) (bp:N.ok d=true:=by rfl) (aU:g d=none:=by rfl):aA P N ops (⟨some d,.move (.tmp t),ty,pos,after,none⟩::l) g K:=al (O.aT (.lit h)) hk bp aU
theorem HQ (h:g t=some (.lit v)) (hk:aA P N ops l (cV g d (.lit v)) K) (bp:N.ok d=true:=by rfl) (aU:g d=none:=by rfl):aA P N ops (⟨some d,.assign (.tmp t),ty,pos,after,none⟩::l) g K:=al (O.az (.lit h)) hk bp aU
theorem Sq (h:ofConst v=.lit v) (hk:aA P N ops l (cV g d (.lit v)) K) (bp:N.ok d=true:=by rfl) (aU:g d=none:=by rfl):aA P N ops (⟨some d,.assign (.const v),ty,pos,after,none⟩::l) g K:=al (O.az (.k h)) hk bp aU
end
section
variable {α:Type}{g:aM}
end
section
variable {α:Type}{P:Program}{N:cP}{g:aM}{d r:Nat}
theorem k1.lk {o:Oper}{xs:List Operand}{fR:Array TypeId}{f:FuncId}{ys:List ab}{res:ab}{en:bN α}{L:List α}{G2:List (Nat × ab)}(aX:o.op=.call { callee:=.value (.func f),args:=xs.toArray,argTypes:=fR }) (aQ:o.dst=some d) (J:Own.hn g xs=some (.a6 en.z ⟨r,[]⟩ L.length::ys))
  (av:g r=some (aD en L)) (hj:bS P f (aD en L::ys) (none::ys.map λ_=>none) res) (aU:hG P f=true) [hr:b6 res] [aC:dp ys]
  (dh:Trim false (ct g ⟨r,[]⟩ .dead) (get G2) G2) (aN:get G2 d=none) (bp:N.ok d=true) :
  k1 P N g o d (get ((d,res)::G2)):=by
 have oF:∀ x∈bB en L,cG x:=by
  intro x J;obtain ⟨a,_,aJ⟩:=List.mem_flatMap.1 J;exact en.bn a x aJ
 have fP:(bB en L).take (L.length * en.z)=bB en L:=List.take_of_length_le (by rw [oR]; exact Nat.le_refl _);have C4:iE (ct g ⟨r,[]⟩ .dead) (get G2):=by
  refine ⟨λt x h=>?_,λt x h=>(dh.spec t x h).2.1,λt z q n m new h=>(dh.spec t _ h).2.2 _ _ _ _ _ rfl⟩;obtain ⟨⟨y,h1,_,aE⟩,_⟩:=dh.spec t x h;rw [<- aE rfl]; exact h1
 have C5:iE (get G2) (get G2):=⟨λt x h=>h,λt x h=>(dh.spec t x h).2.1,λt z q n m new h=>(dh.spec t _ h).2.2 _ _ _ _ _ rfl⟩;have BN:get ((d,res)::G2)=cV (get G2) d res:=by
  funext t;rw [sZ]
 rw [BN];refine Bf.ok (first:=[]) (caps:=[]) (ys:=.a6 en.z ⟨r,[]⟩ L.length::ys) (tk:=λ_=>true) (vw:=false) (outs:=none::ys.map λ_=>none) (g1:=ct g ⟨r,[]⟩ .dead) (g2:=get G2) (g4:=get G2) (l:=[]) (ks:=λ_=>0) (xs0:=.a6 en.z ⟨r,[]⟩ L.length::ys) (xs1:=aD en L::ys) (args:=aD en L::ys) (res:=res) aX aQ rfl (by simpa using J)
  ⟨aU,by simp,by simp,λk x h=>.inl (by simpa using h),?_,C4,λk x y J ao=>by simpa using ao,hj,by simpa using hr.bn,λk x h=>?_,λj p x ag=>by simp at ag,by simp,λi j hi ag _=>by simp at hi,C5⟩ aN bp yQ.refl
 ·have h1:Take (ct g ⟨r,[]⟩ .dead) ((bB en L).take (L.length * en.z)) (bB en L) (ct g ⟨r,[]⟩ .dead):=by rw [fP]; exact .bn oF
  exact .a6 (N:=L.length) (by simp [bE,av,ab.at]) (Nat.le_refl _) h1 (.bn aC.bn)
 ·cases k with
  | zero=>simp at h
  | succ k =>
   simp only [List.getElem?_cons_succ,List.getElem?_map] at h;cases aJ:ys[k]? <;> rw [aJ] at h <;> cases h
end
class wH (x:ab):Prop where pl:qb x
class EO (cs:List ab):Prop where pl:∀ x∈cs,qb x
instance {v:Value}:wH (.lit v):=⟨.lit⟩
instance {α:Type}{e:bN α}{L:List α}:wH (ak e L):=⟨.bl (dp.bn (cs:=bB e L))⟩
instance {cs:List ab} [h:EO cs]:wH (.agg cs):=⟨.agg h.pl⟩
instance:EO []:=⟨by simp⟩
instance {x:ab}{cs:List ab} [h:wH x] [aI:EO cs]:EO (x::cs):=⟨λy ao=>by
 rcases List.mem_cons.1 ao with rfl | ao
 ·exact h.pl
 ·exact aI.pl y ao⟩
class EM (G:List (Nat × ab)):Prop where bn:∀ t x,get G t=some x->cG x
instance:EM []:=⟨λt x h=>by cases h⟩
instance {s:Nat}{x:ab}{G:List (Nat × ab)} [h:b6 x] [aI:EM G]:EM ((s,x)::G):=⟨λt y ao=>by
 simp only [get] at ao
 split at ao
 ·cases ao; exact h.bn
 ·exact aI.bn t y ao⟩
class EL (acc:Acc):Prop where bn:∀ e∈acc,∀ x,e.2.2=some x->cG x
instance:EL []:=⟨by simp⟩
instance {k d:Nat}{x:ab}{acc:Acc} [h:b6 x] [aI:EL acc]:EL ((k,d,some x)::acc):=⟨λe he y ao=>by
 rcases List.mem_cons.1 he with rfl | he
 ·cases ao; exact h.bn
 ·exact aI.bn e he y ao⟩
theorem It {G:List (Nat × ab)}{A:Nat->Bool}{acc:Acc} [h:EM G] [aI:EL acc]:HG (ds (get G) A acc):=by
 have key:∀ t x,ds (get G) A acc t=some x->cG x:=λt x J=>by
  rcases u1 J with ⟨e,he,_,_,af⟩ | ⟨_,af⟩
  ·exact aI.bn e he x af
  ·exact h.bn t x af
 exact ⟨λt x J=>.bn (key t x J),λt z q n m new J=>by cases key t _ J⟩
end Go.Own
namespace Go.Own
open Go Go.MapKept Go.ChangeMaps
variable [cF]
section
variable {P:Program}{w:World}{I:a'}{T:Array Value}{g g2:aM}{Fs:Nat->a'}
theorem TY {w:World}{b:Nat}{es hR:Array MapEntry}{c cc:Nat}(h:w.heap[b]?=some (.map es c)) (a:Addr):(setBlock w b (.map hR cc)).cell? a=w.cell? a:=by
 by_cases e:a.block=b
 ·have h1:(setBlock w b (.map hR cc)).heap[a.block]?=some (.map hR cc):=by rw [e]; exact heap_setBlock_same h _
  have af:w.heap[a.block]?=some (.map es c):=by rw [e]; exact h
  unfold World.cell?
  grind
 ·have h1:(setBlock w b (.map hR cc)).heap[a.block]?=w.heap[a.block]?:=heap_setBlock_other h _ e;unfold World.cell?;rw [h1]
theorem RF {w:World}{b:Nat}{es hR:Array MapEntry}{c cc:Nat}(h:w.heap[b]?=some (.map es c)):∀ (p:List Nat) (v:Value),walk (setBlock w b (.map hR cc)) v p=walk w v p
 | [],v=>rfl
 | k::p,v=>by
  have aa:child (setBlock w b (.map hR cc)) v k=child w v k:=by
   unfold child
   split <;> first | rfl | exact TY h _
  simp only [walk,aa];cases child w v k with
  | none=>rfl
  | some u=>exact RF h p u
theorem abj {w:World}{b:Nat}{es hR:Array MapEntry}{c cc:Nat}(h:w.heap[b]?=some (.map es c)) (T:Array Value) (p:Place):dy (setBlock w b (.map hR cc)) T p=dy w T p:=by
 grind [dy,RF]
theorem Z2 {w:World}{b:Nat}{es hR:Array MapEntry}{c cc:Nat}(h:w.heap[b]?=some (.map es c)) {T:Array Value}{r:ab}{v:Value}(hr:fp w T r v):fp (setBlock w b (.map hR cc)) T r v:=by
 cases r <;> simp only [fp,abj h] at hr ⊢ <;> exact hr
theorem cB.YW (bf:cB w I T g Fs) {p:Place}{q fG:Array MapEntry->Nat->Prop}{b:Nat}{es hR:Array MapEntry}{c cc:Nat}(aq:bE g p=some (.mp q)) (hv:dy w T p=some (.map (some b))) (hm:w.heap[b]?=some (.map es c)) (a_:fG hR cc)
  (zJ:∀ t x,g2 t=some x->ct g p (.mp fG) t=some x) (sg:∀ t x,g2 t=some x->∀ y,g t=some y->jE (gE g2) y) (lx:∀ t z q n m new,g2 t≠some (.bI z q n m new)) (j9:g2 p.root≠none) :
  ∃ bW,cB (setBlock w b (.map hR cc)) I T g2 bW/\∀ t c,bW t c->Fs t c:=by
 have px:∀ k,k≠b->(setBlock w b (.map hR cc)).heap[k]?=w.heap[k]?:=λk hk=>heap_setBlock_other hm _ hk;have En:(setBlock w b (.map hR cc)).heap[b]?=some (.map hR cc):=heap_setBlock_same hm _;have RD:(setBlock w b (.map hR cc)).heap.size=w.heap.size:=by simp [setBlock]
 have XC:∀ r v,fp w T r v->fp (setBlock w b (.map hR cc)) T r v:=λr v h=>Z2 hm h;generalize vM:setBlock w b (.map hR cc)=w' at *;obtain ⟨dU,ix⟩:∃ dU,g p.root=some dU:=by
  unfold bE at aq;cases J:g p.root with
  | none=>rw [J] at aq; cases aq
  | some x=>exact ⟨x,rfl⟩
 have pI:dU.at p.path=some (.mp q):=by simpa [bE,ix] using aq
 obtain ⟨v0,ky,gu⟩:=bf.rel _ _ ix;have B7:=gu.gw (by rintro z q n m new rfl; cases (ab.sX pI).2);have ny:jE (gE g2) dU:=by
  cases af:g2 p.root with
  | none=>exact absurd af j9
  | some y=>exact sg _ _ af _ ix
 have qs:=B7.wm ny;obtain ⟨h4,cq,hw,dt,c_,_,kD⟩:=R.focus p.path qs pI;have Kk:h4=.map (some b):=by
  simp only [dy,ky,hw,Option.some.injEq] at hv; exact hv
 subst Kk;obtain ⟨dR,adT,q7,e,aX,_,mM⟩:=dt.KB;cases e;have nY:cq b:=(mM b).2 rfl;have s3:∀ c,I c->w'.heap[c]?=w.heap[c]?:=λc aa=>px c λe=>bf.bl _ b (c_ b nY) (e ▸ aa);have FF:∀ t,t≠p.root->¬ Fs t b:=λt au h=>au (bf.ec _ _ _ h (c_ b nY));have refs:∀ r u,(dz w T g r u/\gE g2 r)->dz w' T g2 r u:=λr u h=>⟨XC r u h.1.1,h.2⟩;obtain ⟨cU,B8,oC⟩:=kD w' I (dz w' T g2) (.mp fG) cq ⟨s3,λc aa aC=>px c λe=>aC (e ▸ nY),λ_ h=>h,refs⟩ (.mp En a_ mM) (λc h _=>h) λ_ h=>by cases h
 have B0:∀ c,cU c->Fs p.root c:=λc aa=>by
  rcases (oC c).1 aa with h | h
  ·exact h.1
  ·exact c_ c h
 let bW:Nat->a':=λt c=>if t=p.root then cU c else g2 t≠none/\Fs t c
 have pH:∀ t c,bW t c->Fs t c:=by
  intro t c aa;by_cases au:t=p.root
  ·simp only [bW,if_pos au] at aa; rw [au]; exact B0 c aa
  ·simp only [bW,if_neg au] at aa; exact aa.2
 refine ⟨bW,⟨λt x J=>?_,λt au c aa=>?_,λt t' c aa et=>bf.ec t t' c (pH t c aa) (pH t' c et),λt c aa hi=>bf.bl t c (pH t c aa) hi,λc aa=>by rw [RD]; exact bf.lt c aa,λt t' z q n m new bQ cm m' cO h1=>absurd h1 (lx _ _ _ _ _ _),cF.keep bf.hW s3 λ_ h=>h⟩,pH⟩
 ·have fc:=zJ t x J;by_cases au:t=p.root
  ·subst au;have CW:dU.setAt p.path (.mp fG)=x:=by simpa [ct,ix] using fc
   refine ⟨v0,ky,.tree ?_⟩;have xb:bW p.root=cU:=by funext c; simp [bW]
   rw [<- CW,xb]; exact B8
  ·rw [wu au] at fc;obtain ⟨u,hu,aY⟩:=bf.rel t x fc;replace aY:=aY.gw (by rintro z q n m new rfl; exact lx _ _ _ _ _ _ J);have xb:bW t=Fs t:=by
    funext c;exact propext ⟨λh=>by simp only [bW,if_neg au] at h; exact h.2,λh=>by simp only [bW,if_neg au]; exact ⟨by rw [J]; simp,h⟩⟩
   refine ⟨u,hu,.tree ?_⟩;rw [xb];exact (aY.wm (sg t x J x fc)).frame s3 (λ_ h=>h) refs λc aa=>px c λe=>FF t au (e ▸ aa)
 ·by_cases hV:t=p.root
  ·exact j9 (hV ▸ au)
  ·simp only [bW,if_neg hV] at aa; exact aa.1 au
theorem Vl {w:World}{b:Nat}{es hR:Array MapEntry}{c cc:Nat}(h:w.heap[b]?=some (.map es c)) (a:Addr):(setBlock w b (.map hR cc)).frozen? a=w.frozen? a:=by
 unfold World.frozen?
 grind [heap_setBlock_same,heap_setBlock_other]
theorem bj.YX {N:cP}{o:Oper}{t:TypeId}{m x v:Operand}{p:Place}{q fG:Array MapEntry->Nat->Prop}{Y Z x2:ab}{oN cY:Value}{G2:List (Nat × ab)}(aX:o.op=.mapUpdate t m x v) (aQ:o.dst=none) (hm:bs g m=some (.gm p)) (aq:bE g p=some (.mp q)) (J:bs g x=some Y) (ao:bs g v=some Z)
  (c5:∀ (w:World) (I:a') (ρ:ab->Value->Prop) (v:Value),R w I ρ Y v cg->v=oN) (Jq:∀ (w:World) (I:a') (ρ:ab->Value->Prop) (v:Value),R w I ρ Z v cg->v=cY)
  (hr:∀ (w:World) (b:Nat) (es:Array MapEntry) (c:Nat),w.heap[b]?=some (.map es c)->q es c->∃ hR cc,(Instr.mapUpdate t (.map (some b)) oN cY).run P w=.ok () (setBlock w b (.map hR cc))/\fG hR cc)
  (gv:ct g p (.mp fG) p.root=some x2) (j9:(get G2 p.root).isSome=true) {y0:ab}(ru:g p.root=some y0) [eN:b6 y0] (dh:k4 g (get G2) p.root x2 G2):bj P N g o (get G2):=by
 refine .LD λw I T Fs h a aJ bp K Q zB=>?_;obtain ⟨⟨b,ar,hv⟩,_⟩:=(kd h hm aJ).Pq;obtain ⟨dK,cq,ij,dt,c_⟩:=h.part aq (by simp);have ju:=ar;rw [ar] at ij;cases ij;obtain ⟨dR,es,c,e,bO,a_,mM⟩:=dt.KB;cases e;obtain ⟨hR,cc,hA,zS⟩:=hr w dR es c bO a_;have XF:(execOp a.eval o).run P w=.ok .skip (setBlock w dR (.map hR cc)):=by
  simp [execOp,aX,hv,c5 _ _ _ _ (kd h J aJ),Jq _ _ _ _ (kd h ao aJ),hA]
 have c1:∀ t x,get G2 t=some x->ct g p (.mp fG) t=some x:=λt x J=>by
  rcases dh.spec t x J with ⟨h1,af,_⟩ | ⟨h1,af,_⟩
  ·rw [wu h1]; exact af
  ·subst h1 af; exact gv
 have c2:∀ t x,get G2 t=some x->∀ y,g t=some y->jE (gE (get G2)) y:=λt x J y ao=>by
  rcases dh.spec t x J with ⟨h1,af,aE⟩ | ⟨h1,af,aE⟩
  ·rw [af] at ao; cases ao;rcases aE with aE | ⟨aE,_⟩
   ·cases aE with
    | n h=>exact .bn h
    | p _ _ bm fF=>exact .ref rfl (uP bm fF)
    | r _ _ bm rh=>exact .ref rfl (AY bm rh)
   ·exact jE.ref (by cases aE; rfl) aE.Gn
  ·subst h1; rw [ru] at ao; cases ao; exact .bn eN.bn
 have kK:∀ t z q n m new,get G2 t≠some (.bI z q n m new):=λt z q n m new J=>by
  rcases dh.spec t _ J with ⟨_,_,aE | ⟨aE,_⟩⟩ | ⟨_,_,aE⟩
  ·exact aE.fJ _ _ _ _ _ rfl
  ·exact aE.fJ _ _ _ _ _ rfl
  ·cases aE
 obtain ⟨bW,d',hL⟩:=h.YW (g2:=get G2) aq ju bO zS c1 c2 kK (by intro e; rw [e] at j9; cases j9);unfold Oper.wp Oper.upon;simp only [XF];refine zB _ _ ⟨by rw [aQ]; rfl,by rw [aQ]; exact ic.refl,I,bW,by rw [aQ]; simpa [Act.put,aJ] using d',⟨⟨rfl,rfl,rfl,by simp [setBlock],λk _ hk=>heap_setBlock_other bO _ λe=>hk ⟨_,e ▸ c_ dR ((mM dR).2 rfl)⟩,λa _ _=>Vl bO a,Nat.le_refl _⟩,λ_ h=>h,λ_ h=>.inl h,λc ⟨t,aa⟩=>.inl ⟨t,hL t c aa⟩⟩⟩ λt _=>by rw [aQ]; rfl
end
end Go.Own
namespace Go.Own
open Go Go.MapKept Go.ChangeMaps Go.WideElems
variable [cF]
open Go.Maps (Keyed)
variable {kG l_:Type}{P:Program}{k e:TypeId}
abbrev zc:Value->Option (DataW Value × List MemPlace):=λv=>some (.held v,[])
def pq [DecidableEq kG]:List (kG × l_)->kG->Option l_
 | [],_=>none
 | p::m,x=>if p.1=x then some p.2 else pq m x
def uC [DecidableEq kG] (ok:kG->Bool) (z:l_) (m:List (kG × l_)) (x:kG):Option l_:=if ok x then some ((pq m x).getD z) else none
def Ad (ok:kG->Bool) (m:List (kG × l_)) (x:kG) (y:l_):Option (List (kG × l_)):=if ok x&&decide (m.length<=lim) then some ((x,y)::m) else none
structure Bl (P:Program) (k:TypeId) (kG:Type) where
 oN:kG->Value
 xS:kG->Lit
 F2:kG->ab
 ok:kG->Bool
 keyed:Keyed P k
 key:∀ x,ok x=true->keyOf P k (oN x)=some (xS x)
 inj:∀ x y,xS x=xS y->x=y
 zk:∀ (x:kG) (w:World) (I:a') (ρ:ab->Value->Prop) (v:Value),R w I ρ (F2 x) v cg->v=oN x
structure Bm (P:Program) (e:TypeId) (l_:Type) where
 pw:l_->Value
 Ej:l_->ab
 z:l_
 zero:∀ w,(zeroValue e).run P w=.ok (pw z) w
 one:∀ x,(pw x).oneCell'=true
 zk:∀ (x:l_) (w:World) (I:a') (ρ:ab->Value->Prop) (v:Value),R w I ρ (Ej x) v cg->v=pw x
 nI:∀ (x:l_) (w:World) (I:a') (ρ:ab->Value->Prop),R w I ρ (Ej x) (pw x) cg
def yE (P:Program) (k:TypeId) (es:Array MapEntry):List (Lit × DataW Value):=(es.toList.map (rg P k zc)).foldr DataW.insert []
def mG [DecidableEq kG] (K:Bl P k kG) (V:Bm P e l_) (m:List (kG × l_)):Array MapEntry->Nat->Prop:=λes c=>Fit P k zc es c/\es.size<=m.length/\∀ x Hz,(DataW.map (yE P k es)).atKey (K.xS x) Hz=match pq m x with | some y=>.held (V.pw y) | none=>Hz
variable [DecidableEq kG] {K:Bl P k kG}{V:Bm P e l_}{m m':List (kG × l_)}{x:kG}{y:l_}{t:TypeId}
theorem mG.nil:mG K V [] #[] 0:=⟨⟨by simp,stamped_empty 0,by simp⟩,Nat.le_refl _,λx Hz=>rfl⟩
theorem mG.look (ok:Bool) (c6:K.ok x=true) (au:P.underlying t=some (.map k e)) (w:World) (b:Nat) (es:Array MapEntry) (c:Nat) (ar:w.heap[b]?=some (.map es c)) (h:mG K V m es c) :
  (Instr.lookup t (.map (some b)) (K.oN x) ok).run P w=.ok (if ok then .tuple #[V.pw ((pq m x).getD V.z),.bool (pq m x).isSome] else V.pw ((pq m x).getD V.z)) w:=by
 obtain ⟨F,_,fI⟩:=h;have fI:=fI x;rcases Maps.fit_look ok K.keyed au (V.zero w) ar F (K.key x c6) with ⟨hA,_,af⟩ | ⟨fU,y,_,_,hA,ao,af,_⟩
 ·have:pq m x=none:=by
   cases aN:pq m x with
   | none=>rfl
   | some y =>
    have h1:=fI .nil;rw [aN] at h1;have aE:=af .nil;unfold yE at h1;rw [h1] at aE; cases aE
  rw [hA,this]; rfl
 ·cases ao;cases aN:pq m x with
  | none =>
   have h1:=fI .nil;rw [aN] at h1;have aE:=af .nil;unfold yE at h1;rw [h1] at aE; cases aE
  | some y =>
   have h1:=fI .nil;rw [aN] at h1;have aE:=af .nil;unfold yE at h1;rw [h1] at aE;have bm:fU.val=V.pw y:=by simpa using aE.symm
   rw [hA,bm]; rfl
theorem mG.put (aK:Ad K.ok m x y=some m') (au:P.underlying t=some (.map k e)) (w:World) (b:Nat) (es:Array MapEntry) (c:Nat) (ar:w.heap[b]?=some (.map es c)) (h:mG K V m es c) :
  ∃ hR cc,(Instr.mapUpdate t (.map (some b)) (K.oN x) (V.pw y)).run P w=.ok () (setBlock w b (.map hR cc))/\mG K V m' hR cc:=by
 unfold Ad at aK
 split at aK
 ·rename_i aa;cases aK;simp only [Bool.and_eq_true,decide_eq_true_eq] at aa;obtain ⟨c6,ah⟩:=aa;obtain ⟨F,av,fI⟩:=h;have OH:=K.key x c6;obtain ⟨hR,cc,hA,cU,oG,_⟩:=Maps.fit_store (R':=zc) K.keyed au ar F (by have:maxLen=9223372036854775807:=rfl; simp only [lim] at ah; omega) (λ_ _ _ _ aW=>aW) OH (rfl:zc (V.pw y)=some (.held (V.pw y),[]));refine ⟨hR,cc,hA,cU,?_,λx' Hz=>?_⟩
  ·have b9:hR.size=((hR.toList.map (rg P k zc)).foldr DataW.insert []).length:=by rw [length_sorted]; simp
   rw [b9,oG];unfold putKey;rw [length_insert];have b3:=List.length_filter_le (notKey (K.xS x)) ((es.toList.map (rg P k zc)).foldr DataW.insert []);rw [length_sorted] at b3;simp at b3 ⊢;omega
  ·have e7:(DataW.map (yE P k hR))=(DataW.map (yE P k es)).put (K.xS x) (.held (V.pw y)):=by
    rw [DataW.put_eq]; unfold yE; rw [oG]
   rw [e7];by_cases J:x=x'
   ·subst J;rw [Maps.atKey_put_same ⟨_,rfl⟩ (K.keyed.key OH)];simp [pq]
   ·rw [Maps.atKey_put_other (λe=>J (K.inj _ _ e).symm),fI];simp [pq,J]
 ·cases aK
section
variable {N:cP}{g:aM}{a b c:Operand}{p:Place}{ty:TypeId}
instance {q:Array MapEntry->Nat->Prop}:b6 (.mp q):=⟨.mp⟩
theorem O.YV (K:Bl P k kG) (V:Bm P e l_):cf P g (.makeMap t none) ty (.mp (mG K V [])):=.sC (.makeMap mG.nil)
theorem O.rz {r:l_}{X Y:ab}(hm:Rd g a (.gm p)) (aq:bE g p=some (.mp (mG K V m))) (J:Rd g b Y) (B':K.F2 x=Y) (au:P.underlying t=some (.map k e)) (h:uC K.ok V.z m x=some r) (eC:V.Ej r=X):cf P g (.lookup t a b false) ty X:=by
 subst eC B';unfold uC at h
 split at h
 ·rename_i c6;cases h;exact .eD (.F8 hm.bs aq J.bs (K.zk x) (V.nI _) λw b es c ar a_=>mG.look false c6 au w b es c ar a_)
 ·cases h
theorem bj.mt {o:Oper}{x2 y0 Y Z:ab}{G2:List (Nat × ab)}(aX:o.op=.mapUpdate t a b c) (aQ:o.dst=none) (hm:Rd g a (.gm p)) (aq:bE g p=some (.mp (mG K V m))) (J:Rd g b Y) (B':K.F2 x=Y) (ao:Rd g c Z) (Jq:V.Ej y=Z) (au:P.underlying t=some (.map k e)) (h:Ad K.ok m x y=some m')
  (gv:ct g p (.mp (mG K V m')) p.root=some x2) (j9:(get G2 p.root).isSome=true) (ru:g p.root=some y0) [eN:b6 y0] (dh:k4 g (get G2) p.root x2 G2):bj P N g o (get G2):=by
 subst B' Jq;exact .YX aX aQ hm.bs aq J.bs ao.bs (K.zk x) (V.zk y) (λw b es c ar a_=>mG.put h au w b es c ar a_) gv j9 ru dh
end
def sv (n:Int):Bool:=decide (-9223372036854775808<=n/\n<9223372036854775808)
def Sj (hk:P.underlying k=some (.int .i64)):Bl P k Int where
 oN n:=.int .i64 n
 xS n:=.int .i64 n
 F2 n:=ae n
 ok:=sv
 keyed:=Maps.int_keyed hk
 key n h:=Maps.keyOf_int_mk hk (by
  unfold sv at h;have:=of_decide_eq_true h;unfold Lit.wf;rw [Bool.and_eq_true];refine ⟨decide_eq_true ?_,decide_eq_true ?_⟩
  ·show (-9223372036854775808:Int)<=n; omega
  ·show n<=(9223372036854775807:Int); omega)
 inj x y h:=by cases h; rfl
 zk x w I ρ v h:=h.hM.1
def Sk (aW:(P.info? e).bind (·.zero)=some (.int .i64 0)):Bm P e Int where
 pw n:=.int .i64 n
 Ej n:=ae n
 z:=0
 zero w:=By aW w
 one _:=rfl
 zk x w I ρ v h:=h.hM.1
 nI x w I ρ:=.lit rfl λ_ h=>h
end Go.Own
namespace Go.Own
open Go
variable [cF]
section
variable {α:Type}{P:Program}{N:cP}{g:aM}{d r:Nat}{ty t t2 e:TypeId}{a b:Operand}{k kc:IntKind}{m n:Int}{p:Place}
def l2 (L:List α) (m:Int):Option Unit:=if 0<=m/\m<=L.length then some () else none
theorem xL {L:List α}{u:Unit}(h:l2 L m=some u):m.toNat<=L.length:=by
 grind [l2]
theorem O.LJ {en:bN α}{L:List α}{u:Unit}(J:Rd g a (.a6 en.z p L.length)) (ah:Rd g b (.lit (.int k m))) (aq:bE g p=some (aD en L)) (au:ft P t e en.z=true) (h:l2 L m=some u):cf P g (.slice t a (some b) none none) ty (.sub en.z p m.toNat (L.length - m.toNat)):=by
 unfold l2 at h
 split at h
 ·rename_i aa;obtain ⟨i,rfl⟩:=Int.eq_ofNat_of_zero_le aa.1;exact .eD (.G6 J.bs ⟨_,ah.bs⟩ rfl au (by omega) (Nat.le_refl _) ⟨_,_,aq,by omega⟩)
 ·cases h
theorem O.Eb {en:bN α}{L:List α}{u:Unit}(J:Rd g a (.a6 en.z p L.length)) (bO:Rd g b (.lit (.int k m))) (aq:bE g p=some (aD en L)) (au:ft P t e en.z=true) (h:l2 L m=some u):cf P g (.slice t a none (some b) none) ty (.a6 en.z p m.toNat):=by
 unfold l2 at h
 split at h
 ·rename_i aa;obtain ⟨i,rfl⟩:=Int.eq_ofNat_of_zero_le aa.1;exact .eD (.G7 J.bs rfl ⟨_,bO.bs⟩ au (by omega) (.inl ⟨_,_,aq,by omega⟩))
 ·cases h
end
def GO (dQ:List Nat) (o:Oper):Oper:=⟨o.dst,o.op,o.type,o.pos,o.after.map λe=>⟨dQ.idxOf e.on,e.ground⟩,o.guard.map λp=>(dQ.idxOf p.1,p.2)⟩
def lE (dQ:List Nat) (l:List Oper):List Oper:=dQ.map λk=>GO dQ (l.getD k default)
def Lg (dQ:List Nat) (n:Nat):Bool:=Nat.beq dQ.length n&&(List.range n).all λk=>dQ.contains k&&Nat.blt (dQ.getD k n) n&&Nat.beq (dQ.idxOf (dQ.getD k n)) k
structure Perm (dQ:List Nat) (n:Nat):Prop where
 len:dQ.length=n
 mem:∀ k,k<n->dQ.idxOf k<n/\dQ.getD (dQ.idxOf k) n=k
 lt:∀ j,j<n->dQ.getD j n<n/\dQ.idxOf (dQ.getD j n)=j
theorem Zx {dQ:List Nat}{n:Nat}(h:Lg dQ n=true):Perm dQ n:=by
 unfold Lg at h;simp only [Bool.and_eq_true,Nat.beq_eq,List.all_eq_true,List.mem_range,Nat.blt_eq] at h;obtain ⟨ah,hq⟩:=h;refine ⟨ah,λk hk=>?_,λj ag=>⟨(hq j ag).1.2,(hq j ag).2⟩⟩
 grind
section
variable {P:Program}{Q:Exit->Act->World->Prop}{dQ:List Nat}{l:List Oper}
theorem Lh (j':Perm dQ l.length) {j:Nat}(ag:j<l.length):(lE dQ l).toArray[j]?=some (GO dQ (l.getD (dQ.getD j l.length) default))/\l.toArray[dQ.getD j l.length]?=some (l.getD (dQ.getD j l.length) default):=by
 have h1:j<dQ.length:=by rw [j'.len]; exact ag
 have af:=(j'.lt j ag).1
 grind [lE]
theorem Qr (j':Perm dQ l.length) {A B:Array Bool}(dL:A.size=l.length) (eX:B.size=l.length) (s0:∀ j,j<l.length->B.getD j true=A.getD (dQ.getD j l.length) true) {j:Nat}(ag:j<l.length) :
  dQ.getD j l.length∈Region.ready .any l.toArray A↔j∈Region.ready .any (lE dQ l).toArray B:=by
 obtain ⟨h1,af⟩:=Lh j' ag;have aeZ:∀ {C:Array Bool}{k:Nat},k<C.size->C.getD k false=C.getD k true:=λ{C k} h=>by simp [Array.getD,h]
 have gone:∀ {C:Array Bool}{k:Nat},¬ k<C.size->C.getD k false=false:=λ{C k} h=>by simp [Array.getD,h]
 have Ns:∀ m,A.getD m false=true↔B.getD (dQ.idxOf m) false=true:=λm=>by
  by_cases hm:m<l.length
  ·obtain ⟨aE,bm⟩:=j'.mem m hm
   grind
  ·have b7:¬ dQ.idxOf m<l.length:=λh=>by
    have dr:=List.idxOf_lt_length_iff.1 (by rw [j'.len]; exact h);obtain ⟨i,hi,e⟩:=List.mem_iff_getElem.1 dr;have:=(j'.lt i (by rw [<- j'.len]; exact hi)).1
    grind
   grind
 rw [mem_ready,mem_ready,s0 j ag];constructor
 ·rintro ⟨a,o,aX,h⟩;rw [af] at aX;cases aX;refine ⟨a,_,h1,λe he ar=>?_⟩;obtain ⟨fU,W3,rfl⟩:=Array.mem_map.1 he;exact (Ns _).1 (h fU W3 ar)
 ·rintro ⟨a,o,aX,h⟩;rw [h1] at aX;cases aX;refine ⟨a,_,af,λe he ar=>?_⟩;exact (Ns _).2 (h ⟨dQ.idxOf e.on,e.ground⟩ (Array.mem_map.2 ⟨e,he,rfl⟩) ar)
theorem Zz (j':Perm dQ l.length) (o:Oper) (T:Array Value):Region.wanted (GO dQ o) (yielded (lE dQ l).toArray T)=Region.wanted o (yielded l.toArray T):=by
 unfold Region.wanted GO;cases aN:o.guard with
 | none=>rfl
 | some p =>
  obtain ⟨m,b⟩:=p;simp only [Option.map_some];have:yielded (lE dQ l).toArray T (dQ.idxOf m)=yielded l.toArray T m:=by
   unfold yielded;by_cases hm:m<l.length
   ·obtain ⟨aE,bm⟩:=j'.mem m hm;obtain ⟨h1,af⟩:=Lh j' aE;rw [bm] at h1 af;rw [h1,af];rfl
   ·have b7:¬ dQ.idxOf m<l.length:=λh=>by
     have dr:=List.idxOf_lt_length_iff.1 (by rw [j'.len]; exact h);obtain ⟨i,hi,e⟩:=List.mem_iff_getElem.1 dr;have:=(j'.lt i (by rw [<- j'.len]; exact hi)).1
     grind
    have b9:(lE dQ l).toArray[dQ.idxOf m]?=none:=by
     rw [List.getElem?_toArray];exact List.getElem?_eq_none (by simp [lE,j'.len]; omega)
    grind
  rw [this]
theorem Zy (j':Perm dQ l.length):∀ (fuel:Nat) (A B:Array Bool) (a:Act) (w:World),A.size=l.length->B.size=l.length->(∀ j,j<l.length->B.getD j true=A.getD (dQ.getD j l.length) true) ->
  wpAny P .any (lE dQ l).toArray Q fuel B a w->wpAny P .any l.toArray Q fuel A a w:=by
 have lift:∀ {A B:Array Bool},A.size=l.length->B.size=l.length->(∀ j,j<l.length->B.getD j true=A.getD (dQ.getD j l.length) true)->∀ k,k∈Region.ready .any l.toArray A->∃ j,j<l.length/\dQ.getD j l.length=k/\j∈Region.ready .any (lE dQ l).toArray B:=λ{A B} dL eX s0 k hk=>by
  have dv:k<l.length:=by
   grind [mem_ready]
  obtain ⟨aE,bm⟩:=j'.mem k dv
  grind [Qr]
 have nil:∀ {A B:Array Bool},A.size=l.length->B.size=l.length->(∀ j,j<l.length->B.getD j true=A.getD (dQ.getD j l.length) true)->Region.ready .any l.toArray A=[]->Region.ready .any (lE dQ l).toArray B=[]:=λ{A B} dL eX s0 h=>by
  cases hr:Region.ready .any (lE dQ l).toArray B with
  | nil=>rfl
  | cons j r =>
   have ag:j∈Region.ready .any (lE dQ l).toArray B:=by rw [hr]; simp
   have eF:j<l.length:=by
    grind [mem_ready]
   have:=(Qr j' dL eX s0 eF).2 ag
   grind
 intro fuel
 induction fuel with
 | zero =>
  intro A B a w dL eX s0 h;refine ⟨?_,h.2⟩;cases hr:Region.ready .any l.toArray A with
  | nil=>rfl
  | cons k r =>
   obtain ⟨j,_,_,ag⟩:=lift dL eX s0 k (by rw [hr]; simp);rw [h.1] at ag;cases ag
 | succ fuel aO =>
  intro A B a w dL eX s0 h;refine ⟨λhr=>h.1 (nil dL eX s0 hr),λk hk=>?_⟩;obtain ⟨j,eF,rfl,ag⟩:=lift dL eX s0 k hk;have av:=h.2 j ag;obtain ⟨h1,af⟩:=Lh j' eF;have VL:∀ i,i<l.length->(B.setIfInBounds j true).getD i true=(A.setIfInBounds (dQ.getD j l.length) true).getD (dQ.getD i l.length) true:=λi hi=>by
   have aP:=(j'.lt j eF).1;have JW:=(j'.lt i hi).1;have e:∀ (C:Array Bool) (p q:Nat),p<C.size->q<C.size->(C.setIfInBounds p true).getD q true=if q=p then true else C.getD q true:=λC p q aq a_=>by
    by_cases h:q=p
    ·simp_all
    ·rw [if_neg h];simp [Array.getD,a_,Array.getElem_setIfInBounds_ne,Ne.symm h]
   rw [e B j i (by omega) (by omega),e A _ _ (by omega) (by omega),s0 i hi];by_cases h:i=j
   ·grind
   ·rw [if_neg h,if_neg];intro aI;have:=(j'.lt i hi).2;rw [aI,(j'.lt j eF).2] at this
    grind
  have mono:∀ a w,wpAny P .any (lE dQ l).toArray Q fuel (B.setIfInBounds j true) a w->wpAny P .any l.toArray Q fuel (A.setIfInBounds (dQ.getD j l.length) true) a w:=λa w aI=>aO _ _ a w (by simpa using dL) (by simpa using eX) VL aI;unfold wpOp at av ⊢;rw [af];rw [h1] at av;simp only [Zz j'] at av;show if Region.wanted (l.getD (dQ.getD j l.length) default) (yielded l.toArray a.tmps)=true then _ else _
  split
  ·rename_i hw;rw [if_pos hw] at av;exact av.imp (λaI=>Oper.wp_mono mono aI) id
  ·rename_i hw;rw [if_neg hw] at av;exact mono _ _ av
end
section
variable {P:Program}{N:cP}
theorem W.ZY {id:Nat}{l:List Oper}{G:List (Nat × ab)}{Φ:Exit->aM->Prop}(dQ:List Nat) (bd:List (List Nat)) (G1:List (Nat × ab)) (hm:P.follows .mixedOrders=true) (dL:qg (lE dQ l).toArray bd=true) (j':Lg dQ l.length=true)
  (h:bx P N (lE dQ l).toArray bd (get G) 0 [] (lE dQ l) λg'=>np g' (get G1)) (hk:ay .normal Φ G1):W P N (.region id l.toArray true) (get G) Φ:=by
 have aq:=Zx j';obtain ⟨g',h1,af⟩:=h [] 0 .nil .nil (by simp);have fr:(lE dQ l).toArray.size=l.length:=by simp [lE,aq.len]
 refine lK.w (g':=g') (e:=.normal) ?_ (hk g' (.eP af .h3));intro Q a w I Fs bf bp ew;refine wp_region_any hm ?_;have d':cB w.drew I a.tmps (get G) Fs:=bf.world (λ_ _ _=>rfl) (λ_ _=>rfl) (Nat.le_refl _);have hq:∀ k,ep (Array.replicate (lE dQ l).toArray.size false) k=false:=by
  intro k;unfold ep;rcases Nat.lt_or_ge k (lE dQ l).toArray.size with h | h
  ·simp_all
  grind
 refine Zy aq _ _ (Array.replicate l.length false) a w.drew (by simp) (by simp) (λj ag=>?_) ?_
 ·have:=(aq.lt j ag).1
  simp_all
 have BZ:=h1.sound dL .nil (lE dQ l).toArray.size (Array.replicate (lE dQ l).toArray.size false) a w.drew I Fs ?_ (by simp) (λk hk=>by omega) (λk _=>hq k) (λk hk=>by rw [hq] at hk; cases hk) d' bp (λca w' aC=>ew _ _ ?_)
 ·grind
 ·grind [vh]
 ·obtain ⟨b9,b3,I',bW,iw,bU⟩:=aC;exact ⟨b9,b3,I',bW,iw,⟨⟨bU.dM.os,bU.dM.tape,bU.dM.output,bU.dM.size,bU.dM.block,bU.dM.dN,Nat.le_trans (Nat.le_succ _) bU.dM.zx⟩,bU.more,bU.new,bU.own⟩⟩
end
section
variable {α:Type}{P:Program}{N:cP}{g:aM}{a b:Operand}{t:TypeId}{m i:Int}
end
section
variable {P:Program}{N:cP}{ops:Array Oper}{bd:List (List Nat)}{g g0:aM}{K:aM->Prop}{l:List Oper}{acc:Acc}{d i j t':Nat}{op:Op}{ty:TypeId}{pos:String}{after:Array Edge}{x:ab}{b c:Bool}
theorem gq (ar:c=!b) (hk:aA P N ops l (cV g d (.bR [])) K) (h:(ops[j]?).bind (·.dst)=some t':=by rfl) (aN:g t'=some (.lit (.bool c)):=by rfl) (bp:N.ok d=true:=by rfl) (aU:g d=none:=by rfl):aA P N ops (⟨some d,op,ty,pos,after,some (j,b)⟩::l) g K:=.ps h aN ar bp aU hk
theorem EP (hk:aA P N ops l (cV g d (.bR [])) K) (h:(ops[j]?).bind (·.dst)=some t':=by rfl) (aN:g t'=some (.bR []):=by rfl) (bp:N.ok d=true:=by rfl) (aU:g d=none:=by rfl):aA P N ops (⟨some d,op,ty,pos,after,some (j,b)⟩::l) g K:=.pu h aN bp aU hk
theorem bP (ar:c=b) (aq:cf P g op ty x) (hk:aA P N ops l (cV g d x) K) (h:(ops[j]?).bind (·.dst)=some t':=by rfl) (aN:g t'=some (.lit (.bool c)):=by rfl) (bp:N.ok d=true:=by rfl) (aU:g d=none:=by rfl):aA P N ops (⟨some d,op,ty,pos,after,some (j,b)⟩::l) g K:=.v aq bp aU (.py h aN ar) hk
theorem Sl (hk:aA P N ops l (cV g d (.bR [])) K) (h:(ops[j]?).bind (·.dst)=some t':=by rfl) (aN:g t'=some (.lit (.bool c)):=by rfl) (ar:c=!b:=by assumption) (bp:N.ok d=true:=by rfl) (aU:g d=none:=by rfl):aA P N ops (⟨some d,op,ty,pos,after,some (j,b)⟩::l) g K:=.ps h aN ar bp aU hk
theorem eT (aq:cf P g op ty x) (hk:aA P N ops l (cV g d x) K) (h:(ops[j]?).bind (·.dst)=some t':=by rfl) (aN:g t'=some (.lit (.bool c)):=by rfl) (ar:c=b:=by assumption) (bp:N.ok d=true:=by rfl) (aU:g d=none:=by rfl):aA P N ops (⟨some d,op,ty,pos,after,some (j,b)⟩::l) g K:=.v aq bp aU (.py h aN ar) hk
theorem di (bV:Nat) (ar:c=!b) (hk:bx P N ops bd g0 i ((bV,d,some (.bR []))::acc) l K) (h:(ops[j]?).bind (·.dst)=some t':=by rfl) (aN:kE bd g0 bV acc t'=some (bh c):=by rfl) (ag:Nat.beq ops.size (bV+l.length+1)=true:=by rfl) (aU:g0 d=none:=by rfl) (aC:acc.all (λe=>!Nat.beq e.2.1 d)=true:=by rfl) (bp:N.ok d=true:=by rfl):bx P N ops bd g0 i acc (⟨some d,op,ty,pos,after,some (j,b)⟩::l) K:=.ps bV h aN ar ag aU aC bp hk
theorem de (bV:Nat) (hk:bx P N ops bd g0 i ((bV,d,some (.bR []))::acc) l K) (h:(ops[j]?).bind (·.dst)=some t':=by rfl) (aN:kE bd g0 bV acc t'=some (.bR []):=by rfl) (ag:Nat.beq ops.size (bV+l.length+1)=true:=by rfl) (aU:g0 d=none:=by rfl) (aC:acc.all (λe=>!Nat.beq e.2.1 d)=true:=by rfl) (bp:N.ok d=true:=by rfl):bx P N ops bd g0 i acc (⟨some d,op,ty,pos,after,some (j,b)⟩::l) K:=.pu bV h aN ag aU aC bp hk
theorem cT (bV:Nat) (ar:c=b) (aq:cf P (kE bd g0 bV acc) op ty x) (hk:bx P N ops bd g0 i ((bV,d,some x)::acc) l K) (h:(ops[j]?).bind (·.dst)=some t':=by rfl) (aN:kE bd g0 bV acc t'=some (.lit (.bool c)):=by rfl) (ag:Nat.beq ops.size (bV+l.length+1)=true:=by rfl) (aU:g0 d=none:=by rfl) (aC:acc.all (λe=>!Nat.beq e.2.1 d)=true:=by rfl) (bp:N.ok d=true:=by rfl):bx P N ops bd g0 i acc (⟨some d,op,ty,pos,after,some (j,b)⟩::l) K:=.v bV aq ag aU aC bp (.py h aN ar) hk
end
section
variable {P:Program}{N:cP}{ops:Array Oper}{g:aM}{K:aM->Prop}{l:List Oper}{A B:Code}{G G1:List (Nat × ab)}{Φ:Exit->aM->Prop}{t id:Nat}{b:Bool}{α:Type}{X Y o:α}
theorem W.bY (h:(bif b then X else Y)=o) (aa:get G t=some (bh b)) (cX:b=true->X=o->W P N A (get G) Φ) (aH:b=false->Y=o->W P N B (get G) Φ):W P N (.cond (.tmp t) A B) (get G) Φ:=W.eU aa (λe=>cX e (T5 e h)) (λe=>aH e (T4 e h))
def pick (g:aM):List Nat->Option (List (Nat × ab))
 | []=>some []
 | k::ks=>match g k with
  | some x=>match pick g ks with
   | some l=>some ((k,x)::l)
   | none=>none
  | none=>none
class j0 (l:List (Nat × ab)):Prop where p:∀ e∈l,cG e.2
instance:j0 []:=⟨λ_ h=>by cases h⟩
instance {k:Nat}{x:ab}{l:List (Nat × ab)} [h:b6 x] [ah:j0 l]:j0 ((k,x)::l):=⟨λe he=>by
 rcases List.mem_cons.1 he with rfl | he
 ·exact h.bn
 ·exact ah.p e he⟩
theorem wj {c:Bool}{g g2:aM}:∀ {ks:List Nat}{G1:List (Nat × ab)},pick g ks=some G1->(∀ e∈G1,cG e.2)->Trim c g g2 G1
 | [],_,h,_=>by cases h; exact .nil
 | k::ks,G1,h,aC=>by
  unfold pick at h
  split at h
  ·rename_i x J
   split at h
   ·rename_i l ah;cases h;have:b6 x:=⟨aC (k,x) (by simp)⟩;exact .n J (wj ah λe he=>aC e (by simp [he]))
   ·cases h
  ·cases h
structure y6 (ks:List Nat) (G1:List (Nat × ab)) (g':aM):Prop where p:np g' (get G1)
theorem bD {ks:List Nat}(h:pick g ks=some G1) [aC:j0 G1]:aA P N ops [] g (y6 ks G1):=.nil ⟨(wj (c:=true) (g2:=get G1) h aC.p).eP⟩
theorem PE {l:List Oper}{ks:List Nat}(h:aA P N l.toArray l g (y6 ks G1)):aA P N l.toArray l g λg'=>np g' (get G1):=λi hi=>by
 obtain ⟨g',h1,af⟩:=h i hi;exact ⟨g',h1,af.p⟩
theorem aA.b0 (ks:List Nat) (h:pick g ks=some G1) [aC:j0 G1] (hk:aA P N ops l (get G1) K):aA P N ops l g K:=.GK (wj h aC.p) hk
theorem W.b0 {l:List Oper}(ks:List Nat) (h:aA P N l.toArray l (get G) (y6 ks G1)) (hk:ay .normal Φ G1):W P N (.region id l.toArray false) (get G) Φ:=W.rx G1 (PE h) hk
theorem W.rs {l:List Oper}(G1:List (Nat × ab)) (h:aA P N l.toArray l (get G) λg'=>np g' (get G1)) (hk:W P N B (get G1) Φ):W P N (.seq (.region id l.toArray false) B) (get G) Φ:=W.bK (W.rx G1 h (ay.bG hk))
theorem W.cn {l:List Oper}(ks:List Nat) (h:aA P N l.toArray l (get G) (y6 ks G1)) (hk:W P N B (get G1) Φ):W P N (.seq (.region id l.toArray false) B) (get G) Φ:=W.rs G1 (PE h) hk
end
class fo (P:Program) (t:TypeId):Prop where p:j6 P t=true:=by kernel_rfl
class iT (P:Program) (t:TypeId):Prop where p:sJ P t=true:=by kernel_rfl
class ek (P:Program) (t:TypeId) (e:outParam TypeId) (z:outParam Nat):Prop where p:ft P t e z=true:=by kernel_rfl
class cy (P:Program) (s:TypeId) (f:Nat) (off:outParam Nat) (t:outParam TypeId):Prop where p:iY P s f off t=true:=by kernel_rfl
section
variable {P:Program}{N:cP}{ops:Array Oper}{g:aM}{K:aM->Prop}{l:List Oper}{ty t:TypeId}{a:Operand}{k r z n:Nat}{cs jI:List ab}
theorem O.ph {v:Value}(av:g r=some (.obj cs)) (J:Rd g a (.ptr ⟨r,[]⟩ k)) (au:j6 P t=true) (aa:cs[k]?=some (.lit v)):cf P g (.load t a) ty (.lit v):=O.qE av J au aa rfl
theorem O.z8 (av:g r=some (.obj cs)) (J:Rd g a (.ptr ⟨r,[]⟩ k)) (au:j6 P t=true) (aa:cs[k]?=some (.bl z n jI)):cf P g (.load t a) ty (.bl z n jI):=O.qE av J au aa rfl
theorem O.z_ (av:g r=some (.obj cs)) (J:Rd g a (.ptr ⟨r,[]⟩ k)) (au:j6 P t=true) (aa:cs[k]?=some (.own z n jI)):cf P g (.load t a) ty (.a6 z ⟨r,[k]⟩ n):=O.qE av J au aa rfl
end
section
variable {P:Program}{N:cP}{ops:Array Oper}{g:aM}{K:aM->Prop}{l:List Oper}{t0 d:Nat}{t1 t2 ty:TypeId}{aw a2 a3:Operand}{nE:Nat}{v0:Value}{pos:String}{after:Array Edge}{op:Op}{adU:Nat × Bool}
theorem aA.bL (op:Op) (u:Option (Nat × Bool)) (h:aA P N ops (⟨some d,op,ty,pos,after,u⟩::l) g K):aA P N ops (⟨some d,op,ty,pos,after,u⟩::l) g K:=h
theorem aA.nl (h:aA P N ops [] g K):aA P N ops [] g K:=h
theorem aA.SZ {o:Oper}{hD gl:List Oper}(h:aA P N ops (o::List.append hD gl) g K):aA P N ops (List.append (o::hD) gl) g K:=h
theorem aA.S0 {gl:List Oper}(h:aA P N ops gl g K):aA P N ops (List.append [] gl) g K:=h
theorem aA.br (h:aA P N ops l g K:=by
(repeat' (first
 | exact kg .nil
 | exact .nil
 | refine .n rfl ?_
 | (first
  | ((with_reducible apply aA.bL (.move (.tmp _)) none); (first | refine cN rfl ?_ | refine al (O.aT (.bl rfl)) ?_ | refine al (O.aT (.own rfl)) ?_ | refine al (O.aT (.obj rfl)) ?_ | refine al (O.aT (.cx rfl)) ?_ | refine al (O.aT (.ptr rfl)) ?_ | refine al (O.aT (.a6 rfl)) ?_))
  | ((with_reducible apply aA.bL (.load _ _) none); (first | refine al (O.ph rfl (.ptr rfl) fo.p rfl) ?_ | refine al (O.C9 (.cx rfl) fo.p rfl) ?_ | refine al (O.z8 rfl (.ptr rfl) fo.p rfl) ?_ | refine al (O.ph rfl (.obj rfl) fo.p rfl) ?_ | refine al (O.z8 rfl (.obj rfl) fo.p rfl) ?_ | refine al (O.z_ rfl (.ptr rfl) fo.p rfl) ?_ | refine al (O.z_ rfl (.obj rfl) fo.p rfl) ?_))
  | ((with_reducible apply aA.bL (.fieldAddr _ _ _) none); (first | refine al (O.nt rfl (.obj rfl) cy.p rfl) ?_ | refine al (O.BR (.cx rfl) cy.p) ?_ | refine al (O.nt rfl (.ptr rfl) cy.p rfl) ?_))
  | ((with_reducible apply aA.bL (.assign (.tmp _)) none); (first | refine HQ rfl ?_ | refine al (O.az (.bl rfl)) ?_ | refine al (O.az (.own rfl)) ?_ | refine al (O.az (.obj rfl)) ?_ | refine al (O.az (.cx rfl)) ?_ | refine al (O.az (.ptr rfl)) ?_ | refine al (O.az (.a6 rfl)) ?_))
  | ((with_reducible apply aA.bL (.assign (.const _)) none); (first | refine Sq rfl ?_ | refine al (O.az .xT) ?_))
  | ((with_reducible apply aA.bL (.indexAddr _ _ _) none); (first | refine al (O.n5 (.bl rfl) (.lit rfl) ek.p (by assumption)) ?_ | refine al (O.n5 (.bl rfl) (.k rfl) ek.p (by assumption)) ?_))
  | ((with_reducible apply aA.bL (.binOp .add _ _ _ _) none); (first | refine al (O.add (.lit rfl) (.k rfl)) ?_ | refine al (O.add (.lit rfl) (.lit rfl)) ?_ | refine al (O.add (.k rfl) (.lit rfl)) ?_))
  | ((with_reducible apply aA.bL (.binOp .lss _ _ _ _) none); (first | refine al (O.lss (.lit rfl) (.k rfl)) ?_ | refine al (O.lss (.lit rfl) (.lit rfl)) ?_ | refine al (O.lss (.k rfl) (.lit rfl)) ?_))
  | ((with_reducible apply aA.bL (.binOp .eql _ _ _ _) none); (first | refine al (O.eql (.lit rfl) (.k rfl)) ?_ | refine al (O.eql (.lit rfl) (.lit rfl)) ?_ | refine al (O.eql (.k rfl) (.lit rfl)) ?_ | refine al (O.qn (.lit rfl) (.lit rfl)) ?_ | refine al (O.qn (.lit rfl) (.k rfl)) ?_))
  | ((with_reducible apply aA.bL (.binOp .neq _ _ _ _) none); (first | refine al (O.neq (.lit rfl) (.k rfl)) ?_ | refine al (O.neq (.lit rfl) (.lit rfl)) ?_ | refine al (O.neq (.k rfl) (.lit rfl)) ?_ | refine al (O.oP (.lit rfl) (.lit rfl)) ?_ | refine al (O.oP (.lit rfl) (.k rfl)) ?_))
  | ((with_reducible apply aA.bL (.binOp .geq _ _ _ _) none); (first | refine al (O.geq (.lit rfl) (.k rfl)) ?_ | refine al (O.geq (.lit rfl) (.lit rfl)) ?_ | refine al (O.geq (.k rfl) (.lit rfl)) ?_))
  | ((with_reducible apply aA.bL (.binOp .gtr _ _ _ _) none); (first | refine al (O.gtr (.lit rfl) (.k rfl)) ?_ | refine al (O.gtr (.lit rfl) (.lit rfl)) ?_ | refine al (O.gtr (.k rfl) (.lit rfl)) ?_))
  | ((with_reducible apply aA.bL (.binOp .sub _ _ _ _) none); (first | refine al (O.sub (.lit rfl) (.k rfl)) ?_ | refine al (O.sub (.lit rfl) (.lit rfl)) ?_ | refine al (O.sub (.k rfl) (.lit rfl)) ?_))
  | ((with_reducible apply aA.bL (.binOp .leq _ _ _ _) none); (first | refine al (O.leq (.lit rfl) (.k rfl)) ?_ | refine al (O.leq (.lit rfl) (.lit rfl)) ?_ | refine al (O.leq (.k rfl) (.lit rfl)) ?_))
  | ((with_reducible apply aA.bL (.pick _ _ _) none); (first | refine al (O.fQ (.lit rfl) rfl (.lit rfl)) ?_ | refine al (O.gn (.lit rfl) rfl (.lit rfl)) ?_ | refine al (O.fQ (.lit rfl) rfl (.k rfl)) ?_ | refine al (O.gn (.lit rfl) rfl (.k rfl)) ?_ | refine al (O.fQ (.lit rfl) (by assumption) (.lit rfl)) ?_ | refine al (O.gn (.lit rfl) (by assumption) (.lit rfl)) ?_ | refine al (O.fQ (.lit rfl) (by assumption) (.k rfl)) ?_ | refine al (O.gn (.lit rfl) (by assumption) (.k rfl)) ?_))
  | ((with_reducible apply aA.bL (.call { callee:=.builtin .len,args:=#[_],argTypes:=#[_] }) none); (first | refine al (O.lC (.bl rfl) ek.p) ?_ | refine al (O.kB (.a6 rfl) ek.p) ?_ | refine al (O.kB (.own rfl) ek.p) ?_ | refine al (O.uB (.lit rfl) iT.p) ?_))
  | ((with_reducible apply aA.bL (.unOp .not _ _) none); (first | refine al (O.not (.lit rfl)) ?_))
  | ((with_reducible apply aA.bL (.nilCheck _) none); (first | refine al (O.cQ (.ptr rfl)) ?_ | refine al (O.vW (.cx rfl)) ?_ | refine al (O.cQ (.obj rfl)) ?_))
  | ((with_reducible apply aA.bL (.index _ _ _) none); (first | refine al (O.mL (.lit rfl) (.lit rfl) iT.p (by assumption)) ?_))
  | ((with_reducible apply aA.bL (.move (.const _)) none); (first | refine al (O.aT (.k rfl)) ?_ | refine al (O.aT .xT) ?_)))
 | ((with_reducible apply aA.nl); first | exact bD rfl | refine kg ?_)
 | ((with_reducible apply aA.bL _ (some _)); first
  | (first | refine gq rfl ?_ | refine Sl ?_ | refine EP ?_)
  | ((with_reducible apply aA.bL (.move (.tmp _)) (some _)); (first | refine bP rfl (O.aT (.lit rfl)) ?_ | refine eT (O.aT (.lit rfl)) ?_ | refine bP rfl (O.aT (.bl rfl)) ?_ | refine eT (O.aT (.bl rfl)) ?_ | refine bP rfl (O.aT (.own rfl)) ?_ | refine eT (O.aT (.own rfl)) ?_ | refine bP rfl (O.aT (.obj rfl)) ?_ | refine eT (O.aT (.obj rfl)) ?_ | refine bP rfl (O.aT (.cx rfl)) ?_ | refine eT (O.aT (.cx rfl)) ?_ | refine bP rfl (O.aT (.ptr rfl)) ?_ | refine eT (O.aT (.ptr rfl)) ?_ | refine bP rfl (O.aT (.a6 rfl)) ?_ | refine eT (O.aT (.a6 rfl)) ?_))
  | ((with_reducible apply aA.bL (.load _ _) (some _)); (first | refine bP rfl (O.ph rfl (.ptr rfl) fo.p rfl) ?_ | refine eT (O.ph rfl (.ptr rfl) fo.p rfl) ?_ | refine bP rfl (O.C9 (.cx rfl) fo.p rfl) ?_ | refine eT (O.C9 (.cx rfl) fo.p rfl) ?_ | refine bP rfl (O.z8 rfl (.ptr rfl) fo.p rfl) ?_ | refine eT (O.z8 rfl (.ptr rfl) fo.p rfl) ?_ | refine bP rfl (O.ph rfl (.obj rfl) fo.p rfl) ?_ | refine eT (O.ph rfl (.obj rfl) fo.p rfl) ?_ | refine bP rfl (O.z8 rfl (.obj rfl) fo.p rfl) ?_ | refine eT (O.z8 rfl (.obj rfl) fo.p rfl) ?_ | refine bP rfl (O.z_ rfl (.ptr rfl) fo.p rfl) ?_ | refine eT (O.z_ rfl (.ptr rfl) fo.p rfl) ?_ | refine bP rfl (O.z_ rfl (.obj rfl) fo.p rfl) ?_ | refine eT (O.z_ rfl (.obj rfl) fo.p rfl) ?_))
  | ((with_reducible apply aA.bL (.fieldAddr _ _ _) (some _)); (first | refine bP rfl (O.nt rfl (.obj rfl) cy.p rfl) ?_ | refine eT (O.nt rfl (.obj rfl) cy.p rfl) ?_ | refine bP rfl (O.BR (.cx rfl) cy.p) ?_ | refine eT (O.BR (.cx rfl) cy.p) ?_ | refine bP rfl (O.nt rfl (.ptr rfl) cy.p rfl) ?_ | refine eT (O.nt rfl (.ptr rfl) cy.p rfl) ?_))
  | ((with_reducible apply aA.bL (.indexAddr _ _ _) (some _)); (first | refine bP rfl (O.n5 (.bl rfl) (.lit rfl) ek.p (by assumption)) ?_ | refine eT (O.n5 (.bl rfl) (.lit rfl) ek.p (by assumption)) ?_ | refine bP rfl (O.n5 (.bl rfl) (.k rfl) ek.p (by assumption)) ?_ | refine eT (O.n5 (.bl rfl) (.k rfl) ek.p (by assumption)) ?_))
  | ((with_reducible apply aA.bL (.binOp .add _ _ _ _) (some _)); (first | refine bP rfl (O.add (.lit rfl) (.k rfl)) ?_ | refine eT (O.add (.lit rfl) (.k rfl)) ?_ | refine bP rfl (O.add (.lit rfl) (.lit rfl)) ?_ | refine eT (O.add (.lit rfl) (.lit rfl)) ?_ | refine bP rfl (O.add (.k rfl) (.lit rfl)) ?_ | refine eT (O.add (.k rfl) (.lit rfl)) ?_))
  | ((with_reducible apply aA.bL (.binOp .lss _ _ _ _) (some _)); (first | refine bP rfl (O.lss (.lit rfl) (.k rfl)) ?_ | refine eT (O.lss (.lit rfl) (.k rfl)) ?_ | refine bP rfl (O.lss (.lit rfl) (.lit rfl)) ?_ | refine eT (O.lss (.lit rfl) (.lit rfl)) ?_ | refine bP rfl (O.lss (.k rfl) (.lit rfl)) ?_ | refine eT (O.lss (.k rfl) (.lit rfl)) ?_))
  | ((with_reducible apply aA.bL (.binOp .eql _ _ _ _) (some _)); (first | refine bP rfl (O.eql (.lit rfl) (.k rfl)) ?_ | refine eT (O.eql (.lit rfl) (.k rfl)) ?_ | refine bP rfl (O.eql (.lit rfl) (.lit rfl)) ?_ | refine eT (O.eql (.lit rfl) (.lit rfl)) ?_ | refine bP rfl (O.eql (.k rfl) (.lit rfl)) ?_ | refine eT (O.eql (.k rfl) (.lit rfl)) ?_ | refine bP rfl (O.qn (.lit rfl) (.lit rfl)) ?_ | refine eT (O.qn (.lit rfl) (.lit rfl)) ?_ | refine bP rfl (O.qn (.lit rfl) (.k rfl)) ?_ | refine eT (O.qn (.lit rfl) (.k rfl)) ?_))
  | ((with_reducible apply aA.bL (.binOp .neq _ _ _ _) (some _)); (first | refine bP rfl (O.neq (.lit rfl) (.k rfl)) ?_ | refine eT (O.neq (.lit rfl) (.k rfl)) ?_ | refine bP rfl (O.neq (.lit rfl) (.lit rfl)) ?_ | refine eT (O.neq (.lit rfl) (.lit rfl)) ?_ | refine bP rfl (O.neq (.k rfl) (.lit rfl)) ?_ | refine eT (O.neq (.k rfl) (.lit rfl)) ?_ | refine bP rfl (O.oP (.lit rfl) (.lit rfl)) ?_ | refine eT (O.oP (.lit rfl) (.lit rfl)) ?_ | refine bP rfl (O.oP (.lit rfl) (.k rfl)) ?_ | refine eT (O.oP (.lit rfl) (.k rfl)) ?_))
  | ((with_reducible apply aA.bL (.binOp .geq _ _ _ _) (some _)); (first | refine bP rfl (O.geq (.lit rfl) (.k rfl)) ?_ | refine eT (O.geq (.lit rfl) (.k rfl)) ?_ | refine bP rfl (O.geq (.lit rfl) (.lit rfl)) ?_ | refine eT (O.geq (.lit rfl) (.lit rfl)) ?_ | refine bP rfl (O.geq (.k rfl) (.lit rfl)) ?_ | refine eT (O.geq (.k rfl) (.lit rfl)) ?_))
  | ((with_reducible apply aA.bL (.binOp .gtr _ _ _ _) (some _)); (first | refine bP rfl (O.gtr (.lit rfl) (.k rfl)) ?_ | refine eT (O.gtr (.lit rfl) (.k rfl)) ?_ | refine bP rfl (O.gtr (.lit rfl) (.lit rfl)) ?_ | refine eT (O.gtr (.lit rfl) (.lit rfl)) ?_ | refine bP rfl (O.gtr (.k rfl) (.lit rfl)) ?_ | refine eT (O.gtr (.k rfl) (.lit rfl)) ?_))
  | ((with_reducible apply aA.bL (.binOp .sub _ _ _ _) (some _)); (first | refine bP rfl (O.sub (.lit rfl) (.k rfl)) ?_ | refine eT (O.sub (.lit rfl) (.k rfl)) ?_ | refine bP rfl (O.sub (.lit rfl) (.lit rfl)) ?_ | refine eT (O.sub (.lit rfl) (.lit rfl)) ?_ | refine bP rfl (O.sub (.k rfl) (.lit rfl)) ?_ | refine eT (O.sub (.k rfl) (.lit rfl)) ?_))
  | ((with_reducible apply aA.bL (.binOp .leq _ _ _ _) (some _)); (first | refine bP rfl (O.leq (.lit rfl) (.k rfl)) ?_ | refine eT (O.leq (.lit rfl) (.k rfl)) ?_ | refine bP rfl (O.leq (.lit rfl) (.lit rfl)) ?_ | refine eT (O.leq (.lit rfl) (.lit rfl)) ?_ | refine bP rfl (O.leq (.k rfl) (.lit rfl)) ?_ | refine eT (O.leq (.k rfl) (.lit rfl)) ?_))
  | ((with_reducible apply aA.bL (.call { callee:=.builtin .len,args:=#[_],argTypes:=#[_] }) (some _)); (first | refine bP rfl (O.lC (.bl rfl) ek.p) ?_ | refine eT (O.lC (.bl rfl) ek.p) ?_ | refine bP rfl (O.kB (.a6 rfl) ek.p) ?_ | refine eT (O.kB (.a6 rfl) ek.p) ?_ | refine bP rfl (O.kB (.own rfl) ek.p) ?_ | refine eT (O.kB (.own rfl) ek.p) ?_ | refine bP rfl (O.uB (.lit rfl) iT.p) ?_ | refine eT (O.uB (.lit rfl) iT.p) ?_))
  | ((with_reducible apply aA.bL (.unOp .not _ _) (some _)); (first | refine bP rfl (O.not (.lit rfl)) ?_ | refine eT (O.not (.lit rfl)) ?_))
  | ((with_reducible apply aA.bL (.nilCheck _) (some _)); (first | refine bP rfl (O.cQ (.ptr rfl)) ?_ | refine eT (O.cQ (.ptr rfl)) ?_ | refine bP rfl (O.vW (.cx rfl)) ?_ | refine eT (O.vW (.cx rfl)) ?_ | refine bP rfl (O.cQ (.obj rfl)) ?_ | refine eT (O.cQ (.obj rfl)) ?_))
  | ((with_reducible apply aA.bL (.index _ _ _) (some _)); (first | refine bP rfl (O.mL (.lit rfl) (.lit rfl) iT.p (by assumption)) ?_ | refine eT (O.mL (.lit rfl) (.lit rfl) iT.p (by assumption)) ?_)))
 | with_reducible apply aA.SZ
 | with_reducible apply aA.S0))):aA P N ops l g K:=h
theorem W.SF {id:Nat}{l:List Oper}{G G1:List (Nat × ab)}{Φ:Exit->aM->Prop}(ks:List Nat) (hk:ay .normal Φ G1) (h:aA P N l.toArray l (get G) (y6 ks G1):=by exact aA.br):W P N (.region id l.toArray false) (get G) Φ:=W.b0 ks h hk
theorem W.az {id:Nat}{l:List Oper}{B:Code}{G:List (Nat × ab)}{Φ:Exit->aM->Prop}(G1:List (Nat × ab)) (hk:W P N B (get G1) Φ) (h:aA P N l.toArray l (get G) (λg'=>np g' (get G1)):=by exact aA.br):W P N (.seq (.region id l.toArray false) B) (get G) Φ:=W.rs G1 h hk
theorem W.bJ {id:Nat}{l:List Oper}{B:Code}{G G1:List (Nat × ab)}{Φ:Exit->aM->Prop}(ks:List Nat) (hk:W P N B (get G1) Φ) (h:aA P N l.toArray l (get G) (y6 ks G1):=by exact aA.br):W P N (.seq (.region id l.toArray false) B) (get G) Φ:=W.cn ks h hk
end
section
variable {P:Program}{N:cP}{G:List (Nat × ab)}{g':aM}
theorem jD {rs:List ResultVar}{ys xs:List ab}{res:ab}{outs:List (Option ab)}{n:Nat}(h:ki P (get G) rs ys xs g') (he:p2 xs=res:=by rfl) (aX:q2 g' N.pins 0 outs:=by (repeat' first | exact .nil | refine .no ?_)) (eG:(rs.filterMap fun | .cell t _=>some t | _=>none).Nodup:=by exact of_decide_eq_true (by kernel_rfl)) (ah:outs.length=n:=by rfl):ay .ret (p9 P N rs n outs res) G:=ay.fin (Fin.ro h he eG aX ah (.inr rfl))
end
section
variable {P:Program}{N:cP}{G:List (Nat × ab)}{g':aM}{S R:Type}
theorem aL {α β:Type}{x:Option α}{f:α->Option β}{r:β}{G:Prop}(h:x.bind f=some r) (k:∀ a,x=some a->f a=some r->G):G:=by
 obtain ⟨a,h1,af⟩:=ve h
 grind
theorem Rd.aZ {g:aM}{t:Nat}{v:Value}(h:g t=some (.lit v):=by rfl):Rd g (.tmp t) (.lit v):=.lit h
theorem Rd.z2 {g:aM}{t z n:Nat}{cs:List ab}(h:g t=some (.bl z n cs):=by rfl):Rd g (.tmp t) (.bl z n cs):=.bl h
theorem Rd.z3 {g:aM}{t z n:Nat}{cs:List ab}(h:g t=some (.own z n cs):=by rfl):Rd g (.tmp t) (.a6 z ⟨t,[]⟩ n):=.own h
theorem Rd.z4 {g:aM}{t:Nat}{c:ab}{cs:List ab}(h:g t=some (.obj (c::cs)):=by rfl):Rd g (.tmp t) (.ptr ⟨t,[]⟩ 0):=.obj h
theorem Rd.z5 {g:aM}{t k:Nat}{p:Place}(h:g t=some (.ptr p k):=by rfl):Rd g (.tmp t) (.ptr p k):=.ptr h
theorem Rd.c3 {g:aM}{t z n:Nat}{p:Place}(h:g t=some (.a6 z p n):=by rfl):Rd g (.tmp t) (.a6 z p n):=.a6 h
theorem Rd.nJ {g:aM}{t:Nat}{cs:List ab}(h:g t=some (.cx cs):=by rfl):Rd g (.tmp t) (.cx cs):=.cx h
theorem Rd.bX {g:aM}{v:Value}(h:ofConst v=.lit v:=by rfl):Rd g (.const v) (.lit v):=.k h
theorem ay.dn {G1:List (Nat × ab)}(h:Trim true (get G) (get G1) G1:=by (repeat' first | exact .nil | refine .n rfl ?_)):ay .normal (λe g=>e=.normal/\ib g G1) G:=ay.dG h
theorem ay.gt {s:S}{F:S->List (Nat × ab)}{Ψ:R->Exit->aM->Prop}(h:Trim true (get G) (get (F s)) (F s):=by (repeat' first | exact .nil | refine .n rfl ?_)):ay .normal (lr F Ψ (.inl s)) G:=ay.go h
theorem ay.t1 {id:Nat}{r:R}{F:S->List (Nat × ab)}{mF:R->List (Nat × ab)}(h:Trim true (get G) (get (mF r)) (mF r):=by (repeat' first | exact .nil | refine .n rfl ?_)):ay (.exit id) (lr F (λr e g=>e=.exit id/\ib g (mF r)) (.inr r)) G:=ay.aR h
theorem mH {rs:List ResultVar}{ys xs:List ab}{res:ab}{outs:List (Option ab)}{n:Nat}(h:ki P (get G) rs ys xs g':=by exact .f rfl rfl .nil) (he:p2 xs=res:=by rfl) (aX:q2 g' N.pins 0 outs:=by (repeat' first | exact .nil | refine .no ?_)) (eG:(rs.filterMap fun | .cell t _=>some t | _=>none).Nodup:=by exact of_decide_eq_true (by kernel_rfl)) (ah:outs.length=n:=by rfl):ay .ret (p9 P N rs n outs res) G:=by grind [jD]
end
section
variable {α:Type}{P:Program}{g:aM}{ty t:TypeId}{a b:Operand}{k r z n:Nat}{cs cs':List ab}{x y:ab}{p:Place}{m:Int}{uA:IntKind}{e:TypeId}{N:cP}{ops:Array Oper}
theorem O.bF {cz f off:Nat} [h:cy P cz f off t] (J:Rd g a (.ptr ⟨r,[]⟩ k):=by exact .obj rfl) (av:g r=some (.obj cs):=by rfl) (ah:Nat.blt (k+off) cs.length=true:=by rfl):cf P g (.fieldAddr cz a f) ty (.ptr ⟨r,[]⟩ (k+off)):=O.nt av J h.p ah
theorem O.y2 {cz f off:Nat} [h:cy P cz f off t] (J:Rd g a (.ptr ⟨r,[]⟩ k):=by exact .ptr rfl) (av:g r=some (.obj cs):=by rfl) (ah:Nat.blt (k+off) cs.length=true:=by rfl):cf P g (.fieldAddr cz a f) ty (.ptr ⟨r,[]⟩ (k+off)):=O.nt av J h.p ah
theorem O.dc {v:Value} [h:fo P t] (J:Rd g a (.ptr ⟨r,[]⟩ k):=by exact .ptr rfl) (av:g r=some (.obj cs):=by rfl) (aa:cs[k]?=some (.lit v):=by rfl):cf P g (.load t a) ty (.lit v):=O.ph av J h.p aa
theorem O.gV {en:bN α}{L:List α}{y:α}{bQ:Nat}(h:idx L m=some y) [aE:ek P t e bQ] (J:Rd g a (.bl en.z L.length (bB en L)):=by exact .bl rfl) (ao:Rd g b (.lit (.int uA m)):=by exact .lit rfl) (aW:bQ=en.z:=by rfl):cf P g (.indexAddr t a b) ty (.cx (en.cells y++bB en (L.drop (m.toNat+1)))):=O.n5 J ao (aW ▸ aE.p) h
theorem O.cM [h:fo P t] (J:Rd g a (.ptr ⟨r,[]⟩ k):=by exact .ptr rfl) (av:g r=some (.obj cs):=by rfl) (aa:cs[k]?=some x:=by rfl) (ao:fZ 0 ⟨r,[k]⟩ x=y:=by rfl):cf P g (.load t a) ty y:=O.qE av J h.p aa ao
theorem O.h5 [h:fo P t] (J:Rd g a (.cx cs):=by exact .cx rfl) (aa:cs.head?=some x:=by rfl):cf P g (.load t a) ty x:=O.C9 J h.p aa
theorem O.oj {cz f off:Nat} [h:cy P cz f off t] (J:Rd g a (.cx cs):=by exact .cx rfl):cf P g (.fieldAddr cz a f) ty (.cx (cs.drop off)):=O.BR J h.p
theorem O.kF {bQ:Nat} [h:ek P t e bQ] (J:Rd g a (.bl z n cs):=by exact .bl rfl):cf P g (.call { callee:=.builtin .len,args:=#[a],argTypes:=#[t] }) ty (ae n):=O.lC J h.p
theorem cp.ev {xs:List Operand}{fR:Array TypeId}{f:FuncId}{ys:List ab}{outs:List (Option ab)}{res:ab}(J:q1 g xs ys) (hj:bS P f ys outs res) [hr:b6 res] (aU:hG P f=true:=by kernel_rfl) (aX:uE outs=true:=by rfl):cp P g (.call { callee:=.value (.func f),args:=xs.toArray,argTypes:=fR }) res:=by grind [cp.go]
theorem cp.my {xs:List Operand}{fR:Array TypeId}{f:FuncId}{ys args:List ab}{outs:List (Option ab)}{res:ab}(J:hn g xs=some ys) (hv:o2 g ys args) (hj:bS P f args outs res) [hr:p' res] (aU:hG P f=true:=by kernel_rfl) (aX:uE outs=true:=by rfl):cp P g (.call { callee:=.value (.func f),args:=xs.toArray,argTypes:=fR }) res:=by grind [cp.vw]
end
section
variable {P:Program}{N:cP}{ops:Array Oper}{bd:List (List Nat)}{K:aM->Prop}{i:Nat}{acc:Acc}{l:List Oper}{d:Nat}
theorem bx.gZ (bV:Nat) {G G2:List (Nat × ab)}{o:Oper}(he:bj P N (ds (get G) (λ_=>true) acc) o (get G2)) (hk:bx P N ops bd (get G2) (bV+1) [] l K) (aN:o.guard=none:=by rfl) (gS:sz ((acc.filterMap lj).map Place.root)=true:=by rfl) (fO:oc G=true:=by rfl) (ag:Nat.beq ops.size (bV+l.length+1)=true:=by rfl) (aJ:(List.range bV).all (λk=>(bd.getD bV []).contains k)=true:=by kernel_rfl) (ar:(List.range ops.size).all (λk=>Nat.ble k bV||(bd.getD k []).contains bV)=true:=by kernel_rfl):bx P N ops bd (get G) i acc (o::l) K:=.zm bV he aN gS fO ag aJ ar hk
theorem bx.H6 (bV:Nat) {G G2:List (Nat × ab)}{o:Oper}{x:ab}(he:bj P N (ds (get G) (λ_=>true) acc) o (cV (get G2) d x)) (hk:bx P N ops bd (get ((d,x)::G2)) (bV+1) [] l K) (aN:o.guard=none:=by rfl) (gS:sz ((acc.filterMap lj).map Place.root)=true:=by rfl) (fO:oc G=true:=by rfl) (ag:Nat.beq ops.size (bV+l.length+1)=true:=by rfl) (aJ:(List.range bV).all (λk=>(bd.getD bV []).contains k)=true:=by kernel_rfl) (ar:(List.range ops.size).all (λk=>Nat.ble k bV||(bd.getD k []).contains bV)=true:=by kernel_rfl):bx P N ops bd (get G) i acc (o::l) K:=.bv bV he aN gS fO ag aJ ar hk
end
def qN:List ab->Nat->List ab->Option (List ab)
 | [],0,[]=>some []
 | [],_,_=>none
 | x::l,0,[]=>some (x::l)
 | _::l,0,y::c=>match qN l 0 c with
  | some r=>some (y::r)
  | none=>none
 | x::l,k+1,c=>match qN l k c with
  | some r=>some (x::r)
  | none=>none
theorem og:∀ {l:List ab}{k:Nat}{c r:List ab},qN l k c=some r->e4 l k c=r/\k+c.length<=l.length
 | [],0,[],r,h=>by cases h; exact ⟨rfl,Nat.le_refl _⟩
 | [],0,_::_,_,h=>by cases h
 | [],_+1,_,_,h=>by cases h
 | x::l,0,[],r,h=>by cases h; exact ⟨by simp [e4],by simp⟩
 | x::l,0,y::c,r,h=>by
  unfold qN at h
  split at h
  ·rename_i c' hr;cases h;obtain ⟨h1,af⟩:=og hr;subst h1;exact ⟨by simp [e4],by simp at af ⊢; omega⟩
  ·cases h
 | x::l,k+1,c,r,h=>by
  unfold qN at h
  split at h
  ·rename_i c' hr;cases h;obtain ⟨h1,af⟩:=og hr;subst h1;exact ⟨by simp [e4,Nat.add_right_comm],by simp; omega⟩
  ·cases h
theorem DZ {g g2:aM}{r:Nat}{cs2:List ab}:∀ {ks:List Nat}{G1:List (Nat × ab)},pick (cV g r (.obj cs2)) ks=some G1->(∀ e∈G1,cG e.2)->lu g g2 r cs2 G1
 | [],_,h,_=>by cases h; exact .nil
 | k::ks,G1,h,aC=>by
  unfold pick at h
  split at h
  ·rename_i x J
   split at h
   ·rename_i l ah;cases h;have au:=DZ (g2:=g2) ah λe he=>aC e (by simp [he]);by_cases e:k=r
    ·subst e;have e:x=.obj cs2:=by simpa [cV] using J.symm
     subst e;have J:cG (.obj cs2):=aC (k,.obj cs2) (by simp);have:dp cs2:=⟨by cases J; assumption⟩;exact .b rfl au
    ·have:b6 x:=⟨aC (k,x) (by simp)⟩;exact .n (by rw [<- Bool.not_eq_true,Nat.beq_eq]; exact e) (by simpa [cV,e] using J) au
   ·cases h
  ·cases h
theorem Ll {g g2:aM}{ex:List Nat}:∀ {ks:List Nat}{G1:List (Nat × ab)},pick g ks=some G1->(ks.all λk=>!ex.elem k)=true->(∀ e∈G1,cG e.2)->nn ex g g2 G1
 | [],_,h,_,_=>by cases h; exact .nil
 | k::ks,G1,h,he,aC=>by
  unfold pick at h;rw [List.all_cons,Bool.and_eq_true] at he
  split at h
  ·rename_i x J
   split at h
   ·rename_i l ah;cases h;have:b6 x:=⟨aC (k,x) (by simp)⟩;exact .n (by simpa using he.1) J (Ll ah he.2 λe h=>aC e (by simp [h]))
   ·cases h
  ·cases h
def Gf:List ab->Option (List ab)
 | []=>some []
 | x::l=>match Gf l with
  | some r=>some (x::r)
  | none=>none
theorem PW:∀ {l r:List ab},Gf l=some r->l=r
 | [],r,h=>by cases h; rfl
 | x::l,r,h=>by
  unfold Gf at h
  split at h
  ·rename_i c' hr;cases h; rw [PW hr]
  ·cases h
def Gg:ab->Option ab
 | .obj cs=>match Gf cs with
  | some r=>some (.obj r)
  | none=>none
 | .own z n cs=>some (.own z n cs)
 | _=>none
theorem PX {x y:ab}(h:Gg x=some y):x=y:=by
 unfold Gg at h
 grind [PW]
theorem Lm {g g2:aM}{r:Nat}{x2:ab}:∀ {ks:List Nat}{G1:List (Nat × ab)},pick (cV g r x2) ks=some G1->(∀ e∈G1,cG e.2)->k4 g g2 r x2 G1
 | [],_,h,_=>by cases h; exact .nil
 | k::ks,G1,h,aC=>by
  unfold pick at h
  split at h
  ·rename_i x J
   split at h
   ·rename_i l ah;cases h;have au:=Lm (g2:=g2) ah λe he=>aC e (by simp [he]);by_cases e:k=r
    ·subst e;have e:x=x2:=by simpa [cV] using J.symm
     subst e;have:b6 x:=⟨aC (k,x) (by simp)⟩;exact .b rfl au
    ·have:b6 x:=⟨aC (k,x) (by simp)⟩;exact .n (by rw [<- Bool.not_eq_true,Nat.beq_eq]; exact e) (by simpa [cV,e] using J) au
   ·cases h
  ·cases h
section
variable {P:Program}{N:cP}{ops:Array Oper}{g:aM}{K:aM->Prop}{l:List Oper}{d r k0:Nat}{ty t:TypeId}{pos:String}{after:Array Edge}{a b x:Operand}{cs cs' cs2:List ab}{y:ab}{G2:List (Nat × ab)}{u:Option (Nat × Bool)}{p q:Place}
theorem Rd.RT {α:Type}{en:bN α}{L:List α}{t:Nat}(h:g t=some (ak en L)):Rd g (.tmp t) (ak en L):=.bl h
theorem bj.fu (ks:List Nat) (aJ:Rd g a (.ptr ⟨r,[]⟩ k0):=by (first | exact .obj rfl | exact .ptr rfl)) (av:g r=some (.obj cs):=by rfl) (ar:Rd g b (.agg cs'):=by (first | exact .dI rfl rfl | exact .KQ rfl)) (he:qN cs k0 cs'=some cs2:=by rfl) (aq:pick (cV g r (.obj cs2)) ks=some G2:=by rfl) (aW:hF P t cs'.length=true:=by kernel_rfl) (aK:Nat.blt 0 cs'.length=true:=by rfl) (hr:(get G2 r).isSome=true:=by rfl) [aC:dp cs'] [eN:dp cs] [aN:j0 G2]:bj P N g ⟨none,.store t a b,ty,pos,after,none⟩ (get G2) :=
 .ke rfl rfl av aJ ar rfl aW (Nat.ble_eq_true_of_le (og he).2) aK (og he).1 hr (DZ aq aN.p)
theorem bj.l7 (ks:List Nat) (aJ:Rd g a (.ptr ⟨r,[]⟩ k0):=by (first | exact .ptr rfl | exact .obj rfl)) (av:g r=some (.obj cs):=by rfl) (ar:Rd g b y:=by (first | exact .lit rfl | exact .k rfl | exact .RT rfl | exact .xT | exact .bl rfl)) (aa:o4 y=some [y]:=by rfl) (he:qN cs k0 [y]=some cs2:=by rfl) (aq:pick (cV g r (.obj cs2)) ks=some G2:=by rfl) (aW:hF P t 1=true:=by kernel_rfl) (hr:(get G2 r).isSome=true:=by rfl) [aC:b6 y] [eN:dp cs] [aN:j0 G2]:bj P N g ⟨none,.store t a b,ty,pos,after,none⟩ (get G2) :=
 .ke rfl rfl av aJ ar aa aW (Nat.ble_eq_true_of_le (og he).2) rfl (og he).1 hr (DZ aq aN.p)
theorem bj.k5 {α:Type}{en:bN α}{L:List α}(ks:List Nat) (J:Rd g x (.a6 en.z p L.length):=by (first | exact .own rfl | exact .a6 rfl)) (aq:bE g p=some (aD en L):=by rfl) (hk:pick g ks=some G2:=by rfl) (cS:(ks.all λk=>![p.root].elem k)=true:=by rfl) (aN:get G2 d=none:=by rfl) (bp:N.ok d=true:=by rfl) [aC:j0 G2]:bj P N g ⟨some d,.assign x,ty,pos,after,u⟩ (cV (get G2) d (aD en L)) :=
 .EV rfl rfl J aq (Ll hk cS aC.p) aN bp
theorem bj.wQ {α:Type}{en:bN α}{L M:List α}{s:Nat}(ks:List Nat) (J:Rd g x (.a6 en.z ⟨s,[]⟩ (L.length+M.length)):=by exact .bI rfl) (av:g s=some (.bI en.z q L.length M.length (bB en M)):=by rfl) (aq:bE g q=some (aD en L):=by rfl) (hk:pick g ks=some G2:=by rfl) (cS:(ks.all λk=>![s,q.root].elem k)=true:=by rfl) (a_:Nat.beq q.root s=false:=by rfl) (aN:get G2 d=none:=by rfl) (bp:N.ok d=true:=by rfl) [aC:j0 G2]:bj P N g ⟨some d,.assign x,ty,pos,after,u⟩ (cV (get G2) d (aD en (L++M))) :=
 .MC rfl rfl J av aq a_ (Ll hk cS aC.p) aN bp
theorem bj.sp {α:Type}{en:bN α}{L M:List α}{s:Nat}{cs1:List ab}(ks:List Nat) (ar:Rd g b (.a6 en.z ⟨s,[]⟩ (L.length+M.length)):=by exact .bI rfl) (qy:g s=some (.bI en.z q L.length M.length (bB en M)):=by rfl) (aq:bE g q=some (aD en L):=by rfl) (aJ:Rd g a (.ptr ⟨r,[]⟩ k0):=by (first | exact .ptr rfl | exact .obj rfl)) (av:ct (ct g ⟨s,[]⟩ .dead) q .dead r=some (.obj cs1):=by rfl) (he:qN cs1 k0 [aD en (L++M)]=some cs2:=by rfl) (hk:pick (cV (ct (ct g ⟨s,[]⟩ .dead) q .dead) r (.obj cs2)) ks=some G2:=by rfl) (a_:Nat.beq q.root s=false:=by rfl) (aW:hF P t 1=true:=by kernel_rfl) (hr:(get G2 r).isSome=true:=by rfl) [eN:dp cs1] [aN:j0 G2]:bj P N g ⟨none,.store t a b,ty,pos,after,none⟩ (get G2) :=
 .G9 rfl rfl aJ ar qy aq a_ .jx .h3 rfl rfl aW av (Nat.ble_eq_true_of_le (og he).2) (og he).1 hr (DZ hk aN.p)
theorem bj.uY {α:Type}{en:bN α}{L:List α}{cs1:List ab}(ks:List Nat) (ar:Rd g b (.a6 en.z p L.length):=by (first | exact .own rfl | exact .a6 rfl)) (aq:bE g p=some (aD en L):=by rfl) (aJ:Rd g a (.ptr ⟨r,[]⟩ k0):=by (first | exact .ptr rfl | exact .obj rfl)) (av:ct g p .dead r=some (.obj cs1):=by rfl) (he:qN cs1 k0 [aD en L]=some cs2:=by rfl) (hk:pick (cV (ct g p .dead) r (.obj cs2)) ks=some G2:=by rfl) (aW:hF P t 1=true:=by kernel_rfl) (hr:(get G2 r).isSome=true:=by rfl) [eN:dp cs1] [aN:j0 G2]:bj P N g ⟨none,.store t a b,ty,pos,after,none⟩ (get G2) :=
 .tv rfl rfl aJ ar (.r aq .nil) .refl rfl aW av (Nat.ble_eq_true_of_le (og he).2) rfl (og he).1 hr (DZ hk aN.p)
theorem bj.uR {α:Type}{en:bN α}{L:List α}{iS y2:α}{m:Int}{o:Nat}{dU x2 y0:ab}(ks:List Nat) (h:idx L m=some iS) (aJ:Rd g a (.ptr p (m.toNat * en.z+o)):=by exact .ptr rfl) (aq:bE g p=some (aD en L):=by rfl) (ar:Rd g b y:=by (first | exact .lit rfl | exact .k rfl | exact .RT rfl | exact .xT | exact .bl rfl | exact .dI rfl rfl)) (aa:o4 y=some cs':=by rfl) (he:e4 (en.cells iS) o cs'=en.cells y2:=by rfl) (ix:ct g p (aD en (L.set m.toNat y2)) p.root=some dU:=by rfl) (gv:Gg dU=some x2:=by rfl) (hk:pick (cV g p.root x2) ks=some G2:=by rfl) (aW:hF P t cs'.length=true:=by kernel_rfl) (hlen:Nat.ble (o+cs'.length) en.z=true:=by rfl) (aK:Nat.blt 0 cs'.length=true:=by rfl) (hr:(get G2 p.root).isSome=true:=by rfl) (ru:g p.root=some y0:=by rfl) [aC:b6 y] [eN:b6 y0] [aN:j0 G2]:bj P N g ⟨none,.store t a b,ty,pos,after,none⟩ (get G2) :=
 .uX rfl rfl aJ ar aq h aW aa he hlen aK (by rw [ix,PX gv]) hr ru (Lm hk aN.p)
theorem aA.dJ {o:Oper}(he:bj P N g o (get G2)) (hk:aA P N ops l (get G2) K) (aN:o.guard=none:=by rfl):aA P N ops (o::l) g K:=.jn aN he hk
theorem aA.ca {o:Oper}(he:bj P N g o (cV (get G2) d y)) (hk:aA P N ops l (cV (get G2) d y) K) (aN:o.guard=none:=by rfl):aA P N ops (o::l) g K:=.q_ aN he hk
end
section
variable {S R:Type}{P:Program}{N:cP}{A B c:Code}{G:List (Nat × ab)}{Φ:Exit->aM->Prop}{id:Nat}
theorem W.eZ {G1:List (Nat × ab)}(ks:List Nat) (L:List (Nat × ab)) (h:W P N c (get G) λe g=>e=.normal/\ib g G1) (hk:ay .normal Φ G1) (aq:pick (get (L++G)) ks=some G1:=by rfl):W P N c (get G) Φ:=W.dG _ h hk
theorem W.lF {G1:List (Nat × ab)}{l:List Oper}(ks:List Nat) (L:List (Nat × ab)) (h:aA P N l.toArray l (get G) λg'=>np g' (get G1)) (hk:W P N B (get G1) Φ) (aq:pick (get (L++G)) ks=some G1:=by rfl):W P N (.seq (.region id l.toArray false) B) (get G) Φ:=W.rs _ h hk
theorem W.hD {f:S->Option (S ⊕ R)}{r:R}{cU:S->List (Nat × ab)}{mJ:R->List (Nat × ab)}(s:S) (F:S->List (Nat × ab)) (ks:List Nat) (id:Nat) (X:R->List (Nat × ab)) (sw:List Nat) (h:cd f s=some r) (ar:∀ s o,f s=some o->W P N c (get (cU s)) (lr cU (λr e g=>e=.exit id/\ib g (mJ r)) o)) (hk:ay (.exit id) Φ (mJ r))
  (aH:∀ s,pick (get (F s++G)) ks=some (cU s):=by intro s; rfl) (eC:∀ s,pick (get (X s++G)) sw=some (mJ s):=by intro s; rfl) (au:Trim true (get G) (get (cU s)) (cU s):=by (repeat' first | exact .nil | refine .n rfl ?_ | refine .w rfl rfl .pY ?_ | refine .w rfl rfl .pX ?_ | refine .w rfl rfl (kl.obj (by (repeat' first | exact .nil | refine .f ?_ | refine .o ?_ | refine .i ?_))) ?_)):W P N (.loop c) (get G) Φ :=
 W.c7 au (W.Aa cU id mJ h ar hk)
theorem W.gl {gQ:Type}{f:S->Option (S ⊕ (R ⊕ gQ))}{r:R ⊕ gQ}{cU:S->List (Nat × ab)}{mJ:R->List (Nat × ab)}{tM:gQ->List (Nat × ab)}(s:S) (F:S->List (Nat × ab)) (ks:List Nat) (id:Nat) (X:R->List (Nat × ab)) (sw:List Nat) (Y:gQ->List (Nat × ab)) (C7:List Nat) (h:cd f s=some r)
  (ar:∀ s o,f s=some o->W P N c (get (cU s)) (lr cU (λ(r:R ⊕ gQ) e g=>match r with | .inl r=>e=.exit id/\ib g (mJ r) | .inr r=>e=.ret/\ib g (tM r)) o))
  (J:∀ x,r=.inl x->ay (.exit id) Φ (mJ x)) (hr:∀ x,r=.inr x->ay .ret Φ (tM x))
  (aH:∀ s,pick (get (F s++G)) ks=some (cU s):=by intro s; rfl) (eC:∀ s,pick (get (X s++G)) sw=some (mJ s):=by intro s; rfl) (B':∀ s,pick (get (Y s++G)) C7=some (tM s):=by intro s; rfl) (au:Trim true (get G) (get (cU s)) (cU s):=by (repeat' first | exact .nil | refine .n rfl ?_ | refine .w rfl rfl .pY ?_ | refine .w rfl rfl .pX ?_ | refine .w rfl rfl (kl.obj (by (repeat' first | exact .nil | refine .f ?_ | refine .o ?_ | refine .i ?_))) ?_)):W P N (.loop c) (get G) Φ :=
 W.c7 au (W.PI cU id mJ tM h ar J hr)
end
section
variable {P:Program}{N:cP}{g g1 g2:aM}{d:Nat}{t e:TypeId}{s x:Operand}{z b n m:Nat}{p:Place}{y:ab}{cells cs':List ab}
theorem bj.SY {o:Oper}(aX:o.op=.call { callee:=.builtin .append,args:=#[s,x],argTypes:=#[t,t] }) (aQ:o.dst=some d) (av:bs g s=some (.a6 z p n))
  (J:bs g x=some y) (oI:Src g y z m cells) (mQ:∀ c∈cells,cG c) (au:im P t e z b=true) (o7:n+m<=4611686018427387904) (ar:(n+m) * b<=140737488355328)
  (cX:Take g [.a6 z p n] [.own z n cs'] g1) (hk:iE g1 g2) (aN:g2 d=none) (bp:N.ok d=true):bj P N g o (cV g2 d (.own z (n+m) (cs'++cells))):=by
 refine .LD λw I T Fs h a aJ V8 K Q c5=>?_;have Wd:=kd h av aJ;obtain ⟨i,cY,hu,hi,rfl,rfl,aK,aW,l0⟩:=E1 au;obtain ⟨yx,wq,news,rn,ah,xA,xB,eY⟩:=oI.sound h (kd h J aJ);obtain ⟨fx,H1,re,rb,hq⟩:=cX.sound h.mZ (Hand.one Wd);have xw:=cX.Ah _ (List.mem_singleton.2 rfl);have Wc:=rb.GN;have pb:=rb.off 0;have xq:=λc=>rb.bl 0 c (by simp);have Xv:∀ c∈cs',cG c:=by
  cases xw with | own h=>exact h
 generalize ju:a.eval s=bv at *;cases Wc with
 | ref J=>simp [ab.isRef] at J
 | @own _ _ _ _ b5 us bD _ kP zN h1 hr Fy kO aH =>
  obtain ⟨dK,w',b3,hA,A⟩:=GS (P:=P) (w:=w) t o.type e b5 i cY hu hi aW l0 aK kP (a:=yx) (c:=wq) (m:=m) (news:=news) (λhm=>xA hm aK) ah xB (λu hu=>by
   obtain ⟨k,hk,rfl⟩:=List.mem_iff_getElem.1 hu;exact eY.2.1 k _ (List.getElem?_eq_getElem hk)) (by unfold maxLen; omega) ar
  have Jo:∀ t c,fx t c->∃ t,Fs t c:=λt c aa=>by
   rcases hq c (.inl ⟨t,aa⟩) with aI | ⟨_,_,aI⟩
   ·exact aI
   ·exact aI.elim
  have Fv:∀ c,H1 0 c->∃ t,Fs t c:=λc aa=>by
   rcases hq c (.inr ⟨0,by simp,aa⟩) with aI | ⟨_,_,aI⟩
   ·exact aI
   ·exact aI.elim
  have zE:∀ c,bv.ownBlock=some c->H1 0 c:=λc aa=>(aH c).2 (.inl aa);have JR:∀ k c,k<cs'.length->bD k c->H1 0 c:=λk c hk aa=>(aH c).2 (.inr ⟨k,hk,aa⟩);have aP:∀ c,(∃ t,Fs t c)->c<w.heap.size:=λc ⟨t,aa⟩=>h.jc t c aa;have iw:=(re.keep hk).world (w':=w') (λt c aa=>A.dM.block c (aP c (Jo t c aa.2)) λar=>pb t c (by simp) (zE c ar) aa.2)
   (λc aa=>A.dM.block c (h.lt c aa) λar=>xq c (zE c ar) aa) A.dM.size
  have iL:R w' I (dz w' T g2) (.own i.size (n+m) (cs'++cells)) dK (λc=>dK.ownBlock=some c\/∃ k,k<(cs'++cells).length/\(if k<cs'.length then bD k else cg) c):=by
   refine .own A.new (by rw [List.length_append,List.length_append,zN,eY.1]) (λk u hu=>?_) (λk x u J hu=>?_) (λj k c ag hk aa et=>?_) (λk c hk aa=>?_) λc=>Iff.rfl
   ·by_cases hk:k<us.length
    ·rw [List.getElem?_append_left hk] at hu; exact h1 k u hu
    ·rw [List.getElem?_append_right (by omega)] at hu; exact eY.2.1 _ u hu
   ·by_cases hk:k<cs'.length
    ·rw [List.getElem?_append_left hk] at J;rw [List.getElem?_append_left (by omega)] at hu;rw [if_pos hk];refine (((hr k x u J hu).bn (Xv x (List.mem_of_getElem? J))).frame (λc aa=>A.dM.block c (h.lt c aa) λar=>xq c (zE c ar) aa) (λ_ h=>h) λ_ _ h=>h) λc aa=>A.dM.block c (aP c (Fv c (JR k c hk aa))) λar=>kO k c hk aa ar
    ·rw [List.getElem?_append_right (by omega)] at J;rw [List.getElem?_append_right (by omega),<- zN] at hu;rw [if_neg hk];exact (((eY.2.2 _ x u J hu).bn (mQ x (List.mem_of_getElem? J))).frame (λc aa=>A.dM.block c (h.lt c aa) λar=>xq c (zE c ar) aa) (λ_ h=>h) λ_ _ h=>h) λc aa=>aa.elim
   ·split at aa
    ·rename_i jr
     split at et
     ·rename_i I4;exact Fy j k c jr I4 aa et
     ·exact et.elim
    ·exact aa.elim
   ·split at aa
    ·rename_i jr;intro ar;rcases A.Bz c ar with j7 | j7
     ·exact kO k c jr aa j7
     ·have:=aP c (Fv c (JR k c jr aa)); omega
    ·exact aa.elim
  have I_:∀ c,(dK.ownBlock=some c\/∃ k,k<(cs'++cells).length/\(if k<cs'.length then bD k else cg) c)->H1 0 c\/w.heap.size<=c:=by
   rintro c (aa | ⟨k,_,aa⟩)
   ·exact (A.Bz c aa).imp (zE c) id
   ·split at aa
    ·rename_i jr;exact .inl (JR k c jr aa)
    ·exact aa.elim
  have oG:=iw.uN (d:=d) (x:=.own i.size (n+m) (cs'++cells)) (v:=dK) aN (by rw [<- aJ,V8]; exact cP.lt bp) (.tree iL) (λt c aa aU=>by
   rcases I_ c aa with aI | aI
   ·exact pb t c (by simp) aI aU.2
   ·have:=aP c (Jo t c aU.2); omega) (λc aa hi=>by
   rcases I_ c aa with aI | aI
   ·exact xq c aI hi
   ·have:=h.lt c hi; omega) (by intro z p n m new e; cases e)
  have XG:(execOp a.eval o).run P w=.ok (.value dK) w':=by simp [execOp,aX,resolve,invoke,builtin,ju,rn,hA]
  unfold Oper.wp Oper.upon;simp only [XG];refine c5 _ _ ⟨by rw [aQ]; rfl,by rw [aQ]; exact ic.put bp _ _,I,_,by rw [aQ]; simpa [Act.put,aJ] using oG,⟨A.dM.mono λc _ aa=>Fv c (zE c aa),λ_ h=>h,λ_ h=>.inl h,λc aa=>?_⟩⟩ λt au=>by rw [aQ]; simp only [Act.put]; rw [Array.getElem?_setIfInBounds_ne]; rintro rfl; exact au aQ
  rcases u0 aa with ⟨t,_,aI⟩ | aI
  ·exact .inl (Jo t c aI)
  ·exact (I_ c (by rw [List.length_append]; exact aI)).imp (Fv c) id
theorem Rq {α:Type}{en:bN α}{L:List α}{r f k:Nat}{cs:List ab}(hr:g r=some (.obj cs)) (aU:cs[f]?=some (aD en L)) (hk:k<=L.length) :
  Take g [.a6 en.z ⟨r,[f]⟩ k] [.own en.z k (bB en (L.take k))] (ct g ⟨r,[f]⟩ .dead):=by
 have aq:bE g ⟨r,[f]⟩=some (aD en L):=by simp [bE,hr,ab.at,ab.kids,aU]
 refine .a6 aq hk ?_ (.bn (by simp));rw [GR];exact .bn (po en _)
theorem bj.MK {α:Type}{en:bN α}{L M jy:List α}{f k gF r:Nat}{cs cs2:List ab}{G2:List (Nat × ab)}{o:Oper}(aX:o.op=.call { callee:=.builtin .append,args:=#[s,x],argTypes:=#[t,t] }) (aQ:o.dst=some d) (av:Rd g s (.a6 en.z ⟨r,[f]⟩ k)) (hr:g r=some (.obj cs)) (aU:cs[f]?=some (aD en L)) (hk:k<=L.length)
  (J:Rd g x y) (hm:ox g en y M) (au:im P t e en.z gF=true) (ar:Nat.ble gF 128=true) (h:c8 (L.take k) M=some jy) (he:cs.set f .dead=cs2) (dh:k4 g (get G2) r (.obj cs2) G2) (s6:get G2 d=none) (bp:N.ok d=true):bj P N g o (get ((d,aD en jy)::G2)):=by
 have dv:(L.take k).length=k:=by rw [List.length_take]; omega
 obtain ⟨h1,af,aE⟩:=wP h ar;rw [dv] at h1 af;have Xi:iE (ct g ⟨r,[f]⟩ .dead) (get G2):=dh.keep (λt au=>uS au) (by rw [<- he]; simp [ct,hr,ab.setAt,ab.sI,ab.kids,aU]);have:=bj.SY (n:=k) (m:=M.length) aX aQ av.bs J.bs hm.src (po en M) au h1 af (Rq hr aU hk) Xi s6 bp;rw [sZ] at this;subst aE;have e:ab.own en.z (k+M.length) (bB en (L.take k)++bB en M)=aD en (L.take k++M):=by
  rw [<- pZ];show _=ab.own en.z ((L.take k).length+M.length) _;rw [dv]
 rw [e] at this;exact this
theorem bj.Ru {α:Type}{en:bN α}{L:List α}{f k r:Nat}{cs cs1 cs2:List ab}{G2:List (Nat × ab)}{o:Oper}(aX:o.op=.store t s x) (aQ:o.dst=none) (aJ:Rd g s (.ptr ⟨r,[]⟩ f)) (av:Rd g x (.a6 en.z ⟨r,[f]⟩ k)) (hr:g r=some (.obj cs)) (aU:cs[f]?=some (aD en L)) (hk:k<=L.length)
  (aW:hF P t 1=true) (ku:cs.set f .dead=cs1) (he:e4 cs1 f [aD en (L.take k)]=cs2) [eN:dp cs1] (j9:(get G2 r).isSome=true) (dh:lu (ct g ⟨r,[f]⟩ .dead) (get G2) r cs2 G2):bj P N g o (get G2):=by
 have dv:(L.take k).length=k:=by rw [List.length_take]; omega
 have h1:ct g ⟨r,[f]⟩ .dead r=some (.obj cs1):=by rw [<- ku]; simp [ct,hr,ab.setAt,ab.sI,ab.kids,aU]
 have aP:f<cs.length:=(List.getElem?_eq_some_iff.1 aU).1;have e:ab.own en.z k (bB en (L.take k))=aD en (L.take k):=by
  show _=ab.own en.z (L.take k).length _;rw [dv]
 subst he;refine .store aX aQ aJ.bs av.bs (e ▸ Rq hr aU hk) .refl (cs':=[aD en (L.take k)]) rfl aW (p:=⟨r,[]⟩) (nd:=.obj cs1) (z:=0) (n:=0) (by simp [bE,h1,ab.at]) (.inr rfl) (by rw [<- ku]; simp; omega) (by simp) (λt x J=>?_) (λt x J y ao=>?_) (λt z q n m new J=>?_) (by intro e; rw [e] at j9; cases j9)
 ·rcases dh.spec t x J with ⟨h1,af,_⟩ | ⟨h1,af,_⟩
  all_goals grind [ct,ab.setAt,ab.e4]
 ·rcases dh.spec t x J with ⟨h1,af,aE⟩ | ⟨jr,af,aE⟩
  ·rw [af] at ao;cases ao;exact aE.wm
  ·subst jr;rw [h1] at ao;cases ao;exact .bn (.obj eN.bn)
 ·rcases dh.spec t _ J with ⟨_,_,aE⟩ | ⟨_,af,_⟩
  ·exact aE.fJ _ _ _ _ _ rfl
  grind
theorem cW.To {α:Type}{en:bN α}{L:List α}(aq:bE g p=some (aD en L)) (aC:n<=L.length):cW g (.a6 en.z p n):=.ref rfl (.inl ⟨_,_,aq,aC⟩)
def zw (g:aM) (t:Nat):aM:=λs=>if s=t then none else g s
theorem abe {t:Nat}{x:ab}(aN:g t=some x):cV (zw g t) t x=g:=by
 funext s;unfold cV zw;by_cases e:s=t
 ·rw [if_pos e,e,aN]
 ·rw [if_neg e,if_neg e]
theorem ng.back {rs:Place->Prop}{t:Nat}{x:ab}{o:Oper}{G5:List (Nat × ab)}(h:ng P N rs (zw g t) o (get G5)) (lz:∀ p,rs p->zw g t p.root≠none) (aN:g t=some x) (JH:get G5 t=none) (au:o.dst≠some t) (J:wK rs (zw g t) (get G5) o x):ng P N rs g o (get ((t,x)::G5)):=by
 have:=h.extra lz (by simp [zw]) JH au J
 rwa [abe aN,sZ] at this
end
end Go.Own
namespace Go.Own
open Go Go.Proofs Go.Shelf Go.Lib Go.Sort
variable [cF]
section
variable {α:Type}{e:bN α}{P:Program}{w:World}
theorem SI {l:List α}(h:∀ a,(e.cells a).all mc=true):(bB e l).all mc=true:=by
 rw [List.all_eq_true];intro x J;obtain ⟨a,_,aJ⟩:=List.mem_flatMap.1 J;exact List.all_eq_true.1 (h a) x aJ
end
end Go.Own
namespace Go.Own
open Go
variable [cF]
inductive lL:Type 1
 | e
 | b (x y:lL)
 | e' {S R:Type}(F:S->List (Nat × ab)) (ks:List Nat) (id:Nat) (X:R->List (Nat × ab)) (sw:List Nat) (x y:lL)
 | gl {S R gQ:Type}(F:S->List (Nat × ab)) (ks:List Nat) (id:Nat) (X:R->List (Nat × ab)) (sw:List Nat) (Y:gQ->List (Nat × ab)) (C7:List Nat) (x y z:lL)
 | dG {α:Type}(ks:List Nat) (L:α->List (Nat × ab)) (x y:lL)
 | eO {α:Type}(id:Nat) (ks:List Nat) (L:α->List (Nat × ab)) (y:lL)
 | rd (id:Nat) (bd:List (List Nat)) (y:lL)
 | b0 {α:Type}(id:Nat) (bd:List (List Nat)) (ks:List Nat) (L:α->List (Nat × ab)) (y:lL)
 | p (y:lL)
 | dN {α:Type}(id s:Nat) (i:Option Nat) (en:bN α) (y:lL)
 | iK {α:Type}(s:Nat) (i:Option Nat) (en:bN α) (y:lL)
def PB:ab->Bool
 | .lit _ | .aS | .bl .. | .own .. | .obj _ | .cx _ | .cD .. | .mp _ | .imp _=>true
 | .agg cs=>cs.all λx=>match x with | .ptr .. | .a6 .. | .sub .. | .gm _ | .bI .. | .dead=>false | _=>true
 | _=>false
def vV (ex:List Nat):List (Nat × ab)->Option (List Nat)
 | []=>some []
 | (k,x)::l=>match vV (k::ex) l with
  | none=>none
  | some r=>match !ex.elem k&&PB x with
   | true=>some (k::r)
   | false=>some r
def KS (E ex:List Nat):List (Nat × ab)->Option (List Nat)
 | []=>some []
 | (k,x)::l=>match KS E (k::ex) l with
  | none=>none
  | some r=>match E.elem k&&(!ex.elem k&&PB x) with
   | true=>some (k::r)
   | false=>some r
def roots (G:List (Nat × ab)):Operand->List Nat
 | .tmp s=>match get G s with
  | some (.own ..)=>[s]
  | some (.obj _)=>[s]
  | some (.a6 _ p _)=>[s,p.root]
  | some (.ptr p _)=>[s,p.root]
  | some (.bI _ q _ _ _)=>match get G q.root with
   | some (.bI _ ZN _ _ _)=>[s,q.root,ZN.root]
   | _=>[s,q.root]
  | _=>[s]
 | _=>[]
def Qh (F:List (Nat × ab)) (s:Nat):Nat->List ab->Option (List ab)
 | _,[]=>some []
 | i,x::l=>match Qh F s (i+1) l with
  | none=>none
  | some r=>match get F (1000 * (i+1)+s) with
   | some y=>some (y::r)
   | none=>some (x::r)
def qG (F G:List (Nat × ab)):aM:=λs=>match get F s with
 | some x=>some x
 | none=>match get G s with
  | some (.obj cs)=>match Qh F s 0 cs with
   | some r=>some (.obj r)
   | none=>none
  | x=>x
def cI (E:List Nat) (t:lL) (P:Program) (N:cP) (c:Code) (G:List (Nat × ab)) (Φ:Exit->aM->Prop):Prop:=W P N c (get G) Φ
def dZ (E:List Nat) (t:lL) (e:Exit) (Φ:Exit->aM->Prop) (G:List (Nat × ab)):Prop:=ay e Φ G
def y5 (E:List Nat) (t:lL) (Ψ:lL->List (Nat × ab)->Prop) (g':aM):Prop:=∃ G1,np g' (get G1)/\Ψ t G1
def sS {α:Type}(F:α->List (Nat × ab)) (j:α) (e:Exit) (g:aM):Prop:=e=.normal/\ib g (F j)
def Mo {R:Type}(id:Nat) (X:R->List (Nat × ab)) (r:R) (e:Exit) (g:aM):Prop:=e=.exit id/\ib g (X r)
def Bk {R gQ:Type}(id:Nat) (X:R->List (Nat × ab)) (Y:gQ->List (Nat × ab)) (r:R ⊕ gQ) (e:Exit) (g:aM):Prop:=match r with | .inl r=>e=.exit id/\ib g (X r) | .inr r=>e=.ret/\ib g (Y r)
class bw (P:Program) (f:FuncId) (p:Prop) (args:outParam (List ab)) (outs:outParam (List (Option ab))) (res:outParam ab):Prop where go:p->bS P f args outs res
section
variable {P:Program}{N:cP}{E:List Nat}{t x y z:lL}{A B c:Code}{G G1:List (Nat × ab)}{Φ qT:Exit->aM->Prop}{Ψ:aM->Prop}{id k s:Nat}{b:Bool}{α β:Type}{l:List Oper}
theorem cI.rg (h:aA P N l.toArray l (get G) (y5 E t λt G1=>cI E t P N B G1 Φ)):cI E t P N (.seq (.region id l.toArray false) B) G Φ :=
 W.seq (W.D4 λi hi=>by
  obtain ⟨g',h1,G1,af,aE⟩:=h i hi;exact ⟨g',h1,W.weaken af aE⟩)
theorem cI.rt (h:aA P N l.toArray l (get G) (y5 E t λt G1=>dZ E t .normal Φ G1)):cI E t P N (.region id l.toArray false) G Φ :=
 W.D4 λi hi=>by
  obtain ⟨g',h1,G1,af,aE⟩:=h i hi;exact ⟨g',h1,aE g' (.eP af .h3)⟩
theorem cI.bG (h:cI E t P N A G (pr (λg1=>W P N B g1 Φ) Φ)):cI E t P N (.seq A B) G Φ:=W.seq h
theorem cI.b_ (h:cI E t P N A G (mo id Φ)):cI E t P N (.block id A) G Φ:=W.b_ h
theorem cI.zm (h:cI E t P N A G (mo id Φ)):cI E (.p t) P N (.block id A) G Φ:=W.b_ h
theorem cI.cR (h:dZ E t .normal Φ G):cI E t P N .skip G Φ:=W.cR h
theorem cI.fw (h:dZ E t (.exit k) Φ G):cI E t P N (.exit k) G Φ:=W.fw h
theorem cI.bY {X Y o:α}(h:(bif b then X else Y)=o) (cX:b=true->X=o->cI E x P N A G Φ) (aH:b=false->Y=o->cI E y P N B G Φ) (aa:get G s=some (bh b):=by rfl):cI E (.b x y) P N (.cond (.tmp s) A B) G Φ:=W.bY h aa cX aH
theorem cI.ce {X Y o:α}(h:(bif b then X else Y)=o) (cX:b=true->X=o->cI E .e P N A G Φ) (aH:b=false->Y=o->cI E .e P N B G Φ) (aa:get G s=some (bh b):=by rfl):cI E .e P N (.cond (.tmp s) A B) G Φ:=W.bY h aa cX aH
theorem cI.YG {o:Operand}{m:Option α}{f:α->Option β}{r:β}{ks:List Nat}{L cU:α->List (Nat × ab)}(h:m.bind f=some r) (h1:∀ j,m=some j->cI E x P N (.cond o A B) G (sS cU j)) (af:∀ j,m=some j->f j=some r->dZ E y .normal Φ (cU j))
  (aH:∀ j,pick (qG (L j) G) ks=some (cU j):=by intro j; rfl):cI E (.dG ks L x y) P N (.cond o A B) G Φ:=by
 obtain ⟨j,ag,h⟩:=ve h;exact W.dG _ (h1 j ag) (af j ag h)
theorem cI.KN {m:Option α}{f:α->Option β}{r:β}{ks:List Nat}{L cU:α->List (Nat × ab)}(h:m.bind f=some r) (h1:∀ j,m=some j->cI E x P N (.block id A) G (sS cU j)) (af:∀ j,m=some j->f j=some r->dZ E y .normal Φ (cU j))
  (aH:∀ j,pick (qG (L j) G) ks=some (cU j):=by intro j; rfl):cI E (.dG ks L x y) P N (.block id A) G Φ:=by
 obtain ⟨j,ag,h⟩:=ve h;exact W.dG _ (h1 j ag) (af j ag h)
theorem cI.e' {S R:Type}{f:S->Option (S ⊕ R)}{s:S}{g:R->Option β}{r:β}{F cU:S->List (Nat × ab)}{ks sw:List Nat}{X mJ:R->List (Nat × ab)}(h:(cd f s).bind g=some r)
  (ar:∀ s o,f s=some o->cI E x P N c (cU s) (lr cU (Mo id mJ) o)) (hk:∀ c',cd f s=some c'->g c'=some r->dZ E y (.exit id) Φ (mJ c'))
  (aH:∀ s,pick (qG (F s) G) ks=some (cU s):=by intro s; rfl) (eC:∀ s,pick (qG (X s) G) sw=some (mJ s):=by intro s; rfl) (au:Trim true (get G) (get (cU s)) (cU s):=by (repeat' first | exact .nil | refine .n rfl ?_ | refine .w rfl rfl .pY ?_ | refine .w rfl rfl .pX ?_ | refine .w rfl rfl (kl.obj (by (repeat' first | exact .nil | refine .f ?_ | refine .o ?_ | refine .i ?_))) ?_)) :
  cI E (.e' F ks id X sw x y) P N (.loop c) G Φ:=by
 obtain ⟨c',ah,h⟩:=ve h;exact W.c7 au (W.Aa cU id mJ ah ar (hk c' ah h))
theorem dZ.bG (h:cI E t P N B G Φ):dZ E t .normal (pr (λg1=>W P N B g1 Φ) qT) G:=ay.bG h
theorem dZ.fm (h:dZ E t (.exit k) Φ G):dZ E t (.exit k) (pr Ψ Φ) G:=ay.fm h
theorem dZ.gC (h:dZ E t .ret Φ G):dZ E t .ret (pr Ψ Φ) G:=ay.gC h
theorem dZ.b_ (h:dZ E t .normal Φ G):dZ E t .normal (mo id Φ) G:=ay.b_ h
theorem dZ.fA (h:dZ E t .normal Φ G):dZ E t (.exit id) (mo id Φ) G:=ay.fA h
theorem dZ.E7 (h:dZ E t (.exit k) Φ G) (hk:Nat.beq k id=false:=by rfl):dZ E t (.exit k) (mo id Φ) G:=ay.E7 hk h
theorem dZ.lP (h:dZ E t .ret Φ G):dZ E t .ret (mo id Φ) G:=ay.lP h
theorem dZ.dG {F:α->List (Nat × ab)}{j v:α}(h:some v=some j) (au:Trim true (get G) (get (F v)) (F v)):dZ E t .normal (sS F j) G:=by
 cases h; exact ay.dG au
theorem dZ.go {S R:Type}{s:S}{o:S ⊕ R}{F:S->List (Nat × ab)}{Ψ:R->Exit->aM->Prop}(h:some (.inl s)=some o) (au:Trim true (get G) (get (F s)) (F s)):dZ E t .normal (lr F Ψ o) G:=by
 cases h; exact ay.go au
theorem dZ.aR {S R:Type}{r:R}{o:S ⊕ R}{F:S->List (Nat × ab)}{X:R->List (Nat × ab)}(h:some (.inr r)=some o) (au:Trim true (get G) (get (X r)) (X r)):dZ E t (.exit id) (lr F (Mo id X) o) G:=by
 cases h; exact ay.aR au
variable {ops:Array Oper}{K:aM->Prop}{d:Nat}{op:Op}{ty:TypeId}{pos:String}{after:Array Edge}{v v2:ab}{ks:List Nat}{g:aM}{j cz:Nat}{cr:Bool}
theorem r5 {G:List (Nat × ab)}{d:Nat}{v:ab}:cV (get G) d v=get ((d,v)::G):=sZ.symm
theorem d_ (aq:cf P (get G) op ty v) (hk:aA P N ops l (get ((d,v)::G)) K) (bp:N.ok d=true:=by rfl) (aU:get G d=none:=by rfl):aA P N ops (⟨some d,op,ty,pos,after,none⟩::l) (get G) K:=al aq (r5 ▸ hk) bp aU
theorem Mz (aq:cp P (get G) op v) (hk:aA P N ops l (get ((d,v)::G)) K) (bp:N.ok d=true:=by rfl) (aU:get G d=none:=by rfl):aA P N ops (⟨some d,op,ty,pos,after,none⟩::l) (get G) K:=e6 aq (r5 ▸ hk) bp aU
theorem dX (aq:cf P (get G) op ty v) (hk:aA P N ops l (get ((d,v)::G)) K) (h:(ops[j]?).bind (·.dst)=some cz:=by rfl) (aN:get G cz=some (.lit (.bool cr)):=by rfl) (ar:cr=b:=by (first | rfl | assumption)) (bp:N.ok d=true:=by rfl) (aU:get G d=none:=by rfl):aA P N ops (⟨some d,op,ty,pos,after,some (j,b)⟩::l) (get G) K:=.v aq bp aU (.py h aN ar) (r5 ▸ hk)
theorem Ml (aq:cp P (get G) op v) (hk:aA P N ops l (get ((d,v)::G)) K) (h:(ops[j]?).bind (·.dst)=some cz:=by rfl) (aN:get G cz=some (.lit (.bool cr)):=by rfl) (ar:cr=b:=by (first | rfl | assumption)) (bp:N.ok d=true:=by rfl) (aU:get G d=none:=by rfl):aA P N ops (⟨some d,op,ty,pos,after,some (j,b)⟩::l) (get G) K:=.c aq bp aU (.py h aN ar) (r5 ▸ hk)
theorem qX (hk:aA P N ops l (get ((d,.bR [])::G)) K) (h:(ops[j]?).bind (·.dst)=some cz:=by rfl) (aN:get G cz=some (.lit (.bool cr)):=by rfl) (ar:cr=!b:=by (first | rfl | assumption)) (bp:N.ok d=true:=by rfl) (aU:get G d=none:=by rfl):aA P N ops (⟨some d,op,ty,pos,after,some (j,b)⟩::l) (get G) K:=.ps h aN ar bp aU (r5 ▸ hk)
theorem Sf (hk:aA P N ops l (get ((d,.bR [])::G)) K) (h:(ops[j]?).bind (·.dst)=some cz:=by rfl) (aN:get G cz=some (.bR []):=by rfl) (bp:N.ok d=true:=by rfl) (aU:get G d=none:=by rfl):aA P N ops (⟨some d,op,ty,pos,after,some (j,b)⟩::l) (get G) K:=.pu h aN bp aU (r5 ▸ hk)
theorem Iq {p:Prop}{X Y o:α}(h:(bif b then X else Y)=o) (cX:b=true->X=o->p) (aH:b=false->Y=o->p):p:=by
 cases b
 ·exact aH rfl h
 ·exact cX rfl h
theorem HI {Ey:lL->List (Nat × ab)->Prop}(ny:KS E [] G=some ks) (aq:pick (get G) ks=some G1) [aC:j0 G1] (hk:Ey t G1):aA P N ops [] (get G) (y5 E t Ey):=.nil ⟨G1,(wj (c:=true) (g2:=get G1) aq aC.p).eP,hk⟩
theorem cI.eO {m:Option α}{f:α->Option β}{r:β}{ks:List Nat}{L cU:α->List (Nat × ab)}(h:m.bind f=some r) (h1:∀ j,m=some j->aA P N l.toArray l (get G) (sS cU j .normal)) (af:∀ j,m=some j->f j=some r->cI E y P N B (cU j) Φ)
  (aH:∀ j,pick (qG (L j) G) ks=some (cU j):=by intro j; rfl):cI E (.eO id ks L y) P N (.seq (.region id l.toArray false) B) G Φ:=by
 obtain ⟨j,ag,h⟩:=ve h;exact W.seq (W.D4 λi hi=>by
  obtain ⟨g',b9,_,e7⟩:=h1 j ag i hi;exact ⟨g',b9,W.be (af j ag h) e7⟩)
theorem Sc {F:α->List (Nat × ab)}{j v:α}(h:some v=some j) (au:Trim true (get G) (get (F v)) (F v)):aA P N ops [] (get G) (sS F j .normal):=by
 cases h; exact .nil ⟨rfl,.eP au.eP .h3⟩
end
end Go.Own
namespace Go.Own
open Go Go.Lib
variable [cF]
section
variable {P:Program}{w:World}
end
end Go.Own
namespace Go.Proofs
open Go.Shelf Go.RowKit Go.Own
variable [cF]
variable {P:Program}{ρ:Ren}
end Go.Proofs
namespace Go.Own
open Go Go.Proofs Go.Shelf Go.Lib
variable [cF]
section
variable {P:Program}{ρ:Ren}
end
end Go.Own
