/- Parts of the proof that the last text states. -/
import Derived.Deep.Draws
import Derived.Deep.LoopGhost
import Derived.KernelRfl
import Derived.Laws.CopyRow
import Derived.Lib.SliceRun
import Derived.Lib.SlicesCompact
import Derived.Lib.Walk
import Derived.Maps.OwnIn
import Derived.Shelf.RegionOpenPlain
import Derived.Shelf.SlLaysQ
import Derived.Shelf.SlSortCmp.NoneTotal
import Derived.Shelf.SlicesE.Kit
import Derived.Shelf.SlicesQ.Load
import Derived.Shelf.Strings.BuilderK
import Derived.Sort.WalkB12
import Derived.StringKeys
import Derived.WalkKit
import Derived.Test.YtaddiiogopnkpaaGreatE3
import Derived.Ground.SlsfProg
import Derived.Laws.Externs
import Derived.Shelf.SlGeneric
import Derived.Test.YtaddiiogopnkpaaGreatRows
set_option linter.unusedSectionVars false
set_option linter.unusedVariables false
namespace Go.Own
open Go Go.Proofs Go.Shelf Go.Lib Go.Sort
variable [cG]
section
variable {P:Program}{w:World}
def Aq {α:Type} [DecidableEq α] (lt:α->α->Bool) (l:List α):Bool :=
 l.all λa=>!lt a a&&l.all λb=>(lt a b||lt b a||decide (a=b))&&l.all λc=>(!(lt a b&&lt b c)||lt a c)&&(lt a b||lt b c||!lt a c)
def kN {α:Type}(fC:α->α->Option Int) (a b:α):Bool:=decide ((fC a b).getD 0<0)
def ins {α:Type}(lt:α->α->Bool) (x:α):List α->List α
 | []=>[x]
 | y::l=>if lt y x then y::ins lt x l else x::y::l
def h_ {α:Type}(lt:α->α->Bool):List α->List α
 | []=>[]
 | x::l=>ins lt x (h_ lt l)
theorem KA {α:Type}(lt:α->α->Bool) (x:α):∀ l:List α,(ins lt x l).Perm (x::l)
 | []=>.refl _
 | y::l=>by
  unfold ins;split
  ·exact ((KA lt x l).cons y).trans (.swap x y l)
  ·exact .refl _
theorem tu {α:Type}(lt:α->α->Bool):∀ l:List α,(h_ lt l).Perm l
 | []=>.refl _
 | x::l=>(KA lt x _).trans ((tu lt l).cons x)
theorem Pq {α:Type}{lt:α->α->Bool}(bg:SWO lt) (x:α):∀ l:List α,l.Pairwise (λa b=>(!lt b a)=true)->(ins lt x l).Pairwise λa b=>(!lt b a)=true
 | [],_=>List.pairwise_singleton _ _
 | y::l,h=>by
  obtain ⟨h1,af⟩:=List.pairwise_cons.1 h;unfold ins;split
  ·rename_i aN;refine List.pairwise_cons.2 ⟨λz aX=>?_,Pq bg x l af⟩;rcases List.mem_cons.1 ((KA lt x l).mem_iff.1 aX) with rfl | aX
   ·cases aa:lt z y with
    | false=>rfl
    | true=>have:=bg.trans _ _ _ aN aa; rw [bg.irrefl] at this; cases this
   ·exact h1 z aX
  ·rename_i aN;have aN:lt y x=false:=by simpa using aN
   refine List.pairwise_cons.2 ⟨λz aX=>?_,h⟩;rcases List.mem_cons.1 aX with rfl | aX
   ·rw [aN]; rfl
   ·have aX:=h1 z aX;simp only [Bool.not_eq_true'] at aX ⊢;exact bg.ntrans _ _ _ aX aN
theorem F1 {α:Type}{lt:α->α->Bool}(bg:SWO lt):∀ l:List α,(h_ lt l).Pairwise λa b=>(!lt b a)=true
 | []=>.nil
 | x::l=>Pq bg x _ (F1 bg l)
theorem Px {α:Type}{lt:α->α->Bool}(bg:SWO lt) (cV:∀ x y,lt x y=false->lt y x=false->x=y) (l:List α):l.mergeSort (λx y=>!lt y x)=h_ lt l:=by
 refine List.Perm.eq_of_pairwise (le:=λx y=>(!lt y x)=true) (λa b _ _ h1 af=>?_) (List.pairwise_mergeSort (λa b c h1 af=>?_) (λa b=>?_) l) (F1 bg l) ((List.mergeSort_perm _ _).trans (tu lt l).symm)
 ·simp only [Bool.not_eq_true'] at h1 af;exact cV a b af h1
 ·simp only [Bool.not_eq_true'] at h1 af ⊢;exact bg.ntrans _ _ _ af h1
 ·cases h1:lt b a with
  | false=>rfl
  | true =>
   cases af:lt a b with
   | false=>rfl
   | true=>have:=bg.trans _ _ _ h1 af; rw [bg.irrefl] at this; cases this
theorem Pp {α β:Type}{lt:α->α->Bool}{lt':β->β->Bool}{f:α->β}(h:∀ a b,lt a b=lt' (f a) (f b)) (x:α):∀ l:List α,(ins lt x l).map f=ins lt' (f x) (l.map f)
 | []=>rfl
 | y::l=>by
  simp only [ins,List.map_cons,h];split
  ·rw [List.map_cons,Pp h x l]
  ·rfl
theorem F0 {α β:Type}{lt:α->α->Bool}{lt':β->β->Bool}{f:α->β}(h:∀ a b,lt a b=lt' (f a) (f b)):∀ l:List α,(h_ lt l).map f=h_ lt' (l.map f)
 | []=>rfl
 | x::l=>by simp only [h_,List.map_cons,Pp h,F0 h l]
def p7 {α:Type} [DecidableEq α] (fC:α->α->Option Int) (l:List α):Option (List α) :=
 if (l.all λa=>l.all λb=>(fC a b).isSome)&&Aq (kN fC) l&&decide (l.length<4611686018427387904) then some (h_ (kN fC) l) else none
theorem N0 {w':World}(h:Fr w w' λ_=>False):∃ q os,w'=grow (w.drewN q) os:=by
 refine ⟨w'.drawn - w.drawn,w'.heap.extract w.heap.size w'.heap.size,?_⟩;obtain ⟨h1,af,aF,bh,b7,dp,kJ⟩:=h;obtain ⟨aq,afG,zB,os,out⟩:=w';simp only at h1 af aF bh b7 kJ;subst h1 af aF;unfold grow World.drewN;simp only [World.mk.injEq,true_and,and_true];refine ⟨?_,by omega⟩;apply Array.ext_getElem?;intro k;rw [Array.getElem?_append];by_cases hk:k<w.heap.size
 ·rw [if_pos hk]; exact b7 k hk λh=>h
 ·rw [if_neg hk,Array.getElem?_extract];by_cases fz:k<aq.size
  ·rw [if_pos (by omega),show w.heap.size+(k - w.heap.size)=k by omega]
  ·rw [if_neg (by omega),Array.getElem?_eq_none (by omega)]
theorem QP (l:List Int):bC ai l=l.map ae:=by
 induction l with
 | nil=>rfl
 | cons a l aM =>
  show ai.cells a++bC ai l=_;rw [aM]; rfl
theorem Rj {vs:List Value}{v0 v1:Value}(xI:vs=[v0,v1]) {I:a'}{Fs:Nat->a'}{g:aL}(bg:cB w I vs.toArray g Fs) {w':World}{e:TypeId}{r:List Int}(aW:w'.ownsRow 0 e 1 v0 r.length (r.map (Value.int .i64))) (aH:∀ c,Fs 0 c↔v0.ownBlock=some c) (kv:Fr w w' λc=>Fs 0 c) :
  ∃ v I' bW,Ending.returned (.tuple #[])=.returned v/\cB w' I' (vs++[v]).toArray (kO [some (aC ai r),none] (.bS [])) bW/\k4 w I (λc=>∃ t,Fs t c) w' I' (λc=>∃ t,bW t c):=by
 subst xI;refine ⟨_,I,λt=>if t=0 then Fs 0 else ck,rfl,⟨λt x J=>?_,λt au c aa=>?_,λt t' c aa dQ=>?_,λt c aa=>?_,λc aa=>Nat.lt_of_lt_of_le (bg.lt c aa) kv.size,λt t' z p n m new bR cq m' cN h1 af=>?_,cG.keep bg.hR (λc aa=>kv.block c (bg.lt c aa) λh=>bg.bc 0 c h aa) λ_ h=>h⟩,⟨?_,λc h=>h,λc h=>.inl h,λc aa=>?_⟩⟩
 ·unfold kO at J
  split at J
  ·rename_i au;have au:t=2:=au;subst au;cases J;exact ⟨.tuple #[],rfl,.tree (.bS (Fs:=λ_=>ck) rfl (λk x u h=>by simp at h) (λj k c h=>by simp at h) (λc=>⟨λh=>h.elim,λ⟨k,h,_⟩=>by simp at h⟩))⟩
  ·match t,J with
   | 0,J =>
    cases J;refine ⟨v0,rfl,.tree ?_⟩;show R w' I _ (.own 1 r.length (bC ai r)) v0 (Fs 0);rw [QP];refine .own (Fs:=λ_=>ck) aW (by simp) (λk u hu=>?_) (λk x u J hu=>?_) (λ_ _ _ _ _ h=>h.elim) (λ_ _ _ h=>h.elim) (λc=>⟨λh=>.inl ((aH c).1 h),λh=>?_⟩)
    ·rw [List.getElem?_map] at hu;cases hk:r[k]? <;> rw [hk] at hu <;> cases hu;rfl
    ·rw [List.getElem?_map] at J hu;cases hk:r[k]? <;> rw [hk] at J hu <;> cases J <;> cases hu;exact .lit rfl λ_ h=>h
    ·rcases h with h | ⟨_,_,h⟩
     ·exact (aH c).2 h
     ·exact h.elim
   | 1,J=>cases J
   | t+2,J=>cases J
 ·have aK:¬ t=0:=λe=>by subst e; exact absurd au (by simp [kO])
  simp only [if_neg aK] at aa;exact aa
 ·have key:∀ {t:Nat},(if t=0 then Fs 0 else ck) c->t=0:=λ{t} h=>by
   by_cases aK:t=0
   ·exact aK
   ·rw [if_neg aK] at h; exact h.elim
  rw [key aa,key dQ]
 ·by_cases aK:t=0
  ·simp only [if_pos aK] at aa; exact bg.bc 0 c aa
  ·simp only [if_neg aK] at aa; exact aa.elim
 ·unfold kO at h1
  split at h1
  ·cases h1
  ·match t,h1 with
   | 0,h1=>cases h1
   | 1,h1=>cases h1
   | t+2,h1=>cases h1
 ·exact kv.mono λb _ ar=>⟨0,ar⟩
 ·obtain ⟨t,au⟩:=aa;by_cases aK:t=0
  ·simp only [if_pos aK] at au; exact .inl ⟨0,au⟩
  ·simp only [if_neg aK] at au; exact au.elim
theorem Qj {α:Type} [DecidableEq α] {lt:α->α->Bool}{l:List α}(h:Aq lt l=true):∀ a∈l,lt a a=false/\∀ b∈l,(lt a b=true\/lt b a=true\/a=b)/\∀ c∈l,((lt a b=true/\lt b c=true)->lt a c=true)/\(lt a b=true\/lt b c=true\/lt a c=false):=by
 intro a aJ;unfold Aq at h;have h1:=List.all_eq_true.1 h a aJ;simp only [Bool.and_eq_true,Bool.not_eq_true',List.all_eq_true,Bool.or_eq_true,decide_eq_true_eq] at h1;refine ⟨h1.1,λb ar=>?_⟩;obtain ⟨af,aF⟩:=h1.2 b ar;refine ⟨by rcases af with (h | h) | h <;> simp [h],λc aa=>?_⟩;obtain ⟨bh,b7⟩:=aF c aa;refine ⟨λ⟨x,y⟩=>?_,by rcases b7 with (h | h) | h <;> simp [h]⟩;rcases bh with h | h
 ·rw [x,y] at h; cases h
 ·exact h
theorem Ri {α:Type} [DecidableEq α] {fC:α->α->Option Int}{l r:List α}(h:p7 fC l=some r):(∀ a∈l,∀ b∈l,(fC a b).isSome=true)/\Aq (kN fC) l=true/\l.length<4611686018427387904/\r=h_ (kN fC) l:=by
 unfold p7 at h
 split at h
 ·rename_i aa;simp only [Bool.and_eq_true,List.all_eq_true,decide_eq_true_eq] at aa;exact ⟨aa.1.1,aa.1.2,aa.2,(Option.some.inj h).symm⟩
 ·cases h
theorem OA {α:Type} [Inhabited α] {enc:α->Value}{b n:Nat}{d:Array α}{os:Array Obj}{cur:Array Value}{e:TypeId}{dN:Nat × Nat}(ar:w.heap[b]?=some (.cells cur e dN)) :
  (sortWorld enc w b 0 n d os).heap[b]?=some (.cells (putCells enc 0 d cur) e dN):=by
 have aN:b<w.heap.size:=(Array.getElem?_eq_some_iff.1 ar).1;unfold sortWorld;rw [heap_grow_old _ _ (by rw [Go.Sort.size_putRow]; exact aN)];unfold putRow mapBlock;have rh:(Go.Sort.ahead w n).heap=w.heap:=rfl;simp only [rh,Array.getElem?_modify,if_true,ar,Option.map_some,onCells]
theorem JC {α:Type} [Inhabited α] {enc:α->Value}{b n c:Nat}{d:Array α}{os:Array Obj}(aa:c<w.heap.size) (cQ:c≠b) :
  (sortWorld enc w b 0 n d os).heap[c]?=w.heap[c]?:=by
 unfold sortWorld;rw [heap_grow_old _ _ (by rw [Go.Sort.size_putRow]; exact aa)];unfold putRow mapBlock;have rh:(Go.Sort.ahead w n).heap=w.heap:=rfl;simp only [rh,Array.getElem?_modify,if_neg (Ne.symm cQ)]
theorem Fl {α:Type} [Inhabited α] {enc:α->Value}{b n:Nat}{d:Array α}{os:Array Obj}{U:a'}(fl:U b):Fr w (sortWorld enc w b 0 n d os) U:=by
 refine ⟨rfl,rfl,rfl,?_,λc aa aB=>JC aa λe=>aB (e ▸ fl),λa aJ _=>?_,?_⟩
 ·unfold sortWorld; rw [size_grow,Go.Sort.size_putRow]; exact Nat.le_add_right _ _
 ·unfold sortWorld;rw [frozen?_grow _ _ _ (by rw [Go.Sort.size_putRow]; exact aJ),Go.Sort.frozen?_putRow]; rfl
 ·show w.drawn<=w.drawn+n;exact Nat.le_add_right _ _
theorem QD {α:Type} [Inhabited α] {enc:α->Value}{d:Array α}{cur:Array Value}(h:d.size<=cur.size):(putCells enc 0 d cur).toList.take d.size=d.toList.map enc:=by
 apply List.ext_getElem?;intro k;rw [List.getElem?_take,List.getElem?_map];by_cases hk:k<d.size
 ·rw [if_pos hk,Array.getElem?_toList,Array.getElem?_toList];have aa:k<cur.size:=by omega
  simp only [putCells,Array.getElem?_mapIdx,Array.getElem?_eq_getElem aa,Array.getElem?_eq_getElem hk,Option.map_some];rw [if_pos ⟨Nat.zero_le _,by omega⟩,Nat.sub_zero];simp [getElem!_pos,hk]
 ·rw [if_neg hk,Array.getElem?_toList,Array.getElem?_eq_none (by omega)]; rfl
theorem bP.LP {ρ:Ren}(L:SlLaysF.n6 P ρ) {g:FuncId}{caps:List ab} [pQ:dm caps] (aQ:hA P g=true) {l r:List Int}{fC:Int->Int->Option Int}(h:p7 fC l=some r)
  (aa:∀ a b v,fC a b=some v->bP P g (ae a::ae b::caps) (none::none::caps.map λ_=>none) (ae v)) :
  bP P (ρ.f 6) [aC ai l,.cF (.func g) [] caps] [some (aC ai r),none] (.bS []):=by
 refine ⟨rfl,λw I vs Fs ah bg=>?_⟩;obtain ⟨v0,v1,rfl⟩:∃ v0 v1,vs=[v0,v1]:=by
  match vs,ah with
  | [a,b],_=>exact ⟨a,b,rfl⟩
 obtain ⟨xE,ka,J',rfl⟩:=Ri h;obtain ⟨u,hu,a1⟩:=bg.rel 0 (aC ai l) rfl;obtain rfl:v0=u:=by simpa using hu
 replace a1:=a1.gu (by simp);obtain ⟨u,hu,qt⟩:=bg.rel 1 (.cF (.func g) [] caps) rfl;obtain rfl:v1=u:=by simpa using hu
 replace qt:=qt.gu (by simp);rw [show aC ai l=.own 1 l.length (bC ai l) from rfl,QP] at a1
 cases a1 with
 | ref J=>simp [ab.isRef] at J
 | @own _ _ _ _ e us bG _ aW xy ho hr aR ar aH =>
 cases qt with
 | ref J=>simp [ab.isRef] at J
 | @cF _ _ _ aw km _ xe h1 af i' hC =>
 obtain rfl:aw=#[]:=Array.eq_empty_of_size_eq_zero (by simpa using h1.symm);have mN:∀ c,Fs 0 c↔v0.ownBlock=some c:=by
  intro c;refine ⟨λaa=>?_,λaa=>(aH c).2 (.inl aa)⟩;rcases (aH c).1 aa with h | ⟨k,hk,h⟩
  ·exact h
  ·have J:=List.getElem?_eq_getElem hk;have hu:=List.getElem?_eq_getElem (xy ▸ hk);have a1:=hr k _ _ J hu;rw [List.getElem_map] at a1;generalize us[k]=gv at a1;cases a1 with
   | lit _ aV=>exact (aV c h).elim
   | ref J=>simp [ab.isRef] at J
 have nC:us=l.map (Value.int .i64):=by
  apply List.ext_getElem?;intro k;by_cases hk:k<us.length
  ·have ig:k<(l.map ae).length:=xy.symm ▸ hk;have J:=List.getElem?_eq_getElem ig;have hu:=List.getElem?_eq_getElem hk;have a1:=hr k _ _ J hu;rw [List.getElem_map] at a1;rw [hu,a1.hE.1,List.getElem?_map,List.getElem?_eq_getElem (by simpa using ig)]; rfl
  ·rw [List.getElem?_eq_none (by omega),List.getElem?_eq_none (by rw [List.length_map] at xy ⊢; omega)]
 subst nC;have CH:=tu (kN fC) l;have hlen:=CH.length_eq;by_cases xA:l=[]
 ·subst xA;have h9:∃ p cap,v0=.slice p 0 cap:=by
   rcases aW.2 with ⟨rfl,_⟩ | ⟨b,cap,cur,rfl,_⟩
   ·exact ⟨_,_,rfl⟩
   ·exact ⟨_,_,rfl⟩
  obtain ⟨p,cap,rfl⟩:=h9;refine (AnyF.slices_SortFunc_none { L with } p cap _ w).mono ?_;rintro b4 w' ⟨rfl,rfl⟩;exact Rj rfl bg (e:=e) (r:=[]) aW mN (Fr.refl _ _)
 ·obtain ⟨OM,Jx⟩:=aW;rcases Jx with ⟨rfl,aK⟩ | ⟨b,cap,cur,rfl,_,uv,hle,J2,fA,fO⟩
  ·exact absurd (List.eq_nil_of_length_eq_zero aK) xA
  rw [Nat.mul_one] at fA fO;have ur:Fs 0 b:=(mN b).2 rfl;have Ju:b<w.heap.size:=(Array.getElem?_eq_some_iff.1 uv).1;obtain ⟨a0,Ce⟩:=List.exists_mem_of_ne_nil l xA
  let α:={ x:Int // x∈l }
  haveI:Inhabited α:=⟨⟨a0,Ce⟩⟩
  let enc:α->Value:=λx=>.int .i64 x.1
  let k9:α->α->Int:=λx y=>(fC x.1 y.1).getD 0;have aN:∀ x y:α,ltOf k9 x y=kN fC x.1 y.1:=λx y=>rfl
  let d:Array α:=l.attach.toArray;have zM:d.size=l.length:=by show (l.attach.toArray).size=l.length; rw [List.size_toArray,List.length_attach]
  have ja:=Qj ka;have hO:SWO (ltOf k9):=by
   refine ⟨λx=>by rw [aN]; exact (ja x.1 x.2).1,λx y z=>?_,λx y z=>?_⟩
   ·rw [aN,aN,aN];exact λp q=>(((ja x.1 x.2).2 y.1 y.2).2 z.1 z.2).1 ⟨p,q⟩
   ·rw [aN,aN,aN];intro p q;rcases (((ja x.1 x.2).2 y.1 y.2).2 z.1 z.2).2 with h | h | h
    ·rw [p] at h; cases h
    ·rw [q] at h; cases h
    ·exact h
  have cV:∀ x y:α,ltOf k9 x y=false->ltOf k9 y x=false->x=y:=by
   intro x y p q;rw [aN] at p q;rcases ((ja x.1 x.2).2 y.1 y.2).1 with h | h | h
   ·rw [p] at h; cases h
   ·rw [q] at h; cases h
   ·exact Subtype.ext h
  have mQ:∀ j,j<l.length->cur[j]?=some (.int .i64 l[j]!):=by
   intro j ag;have:=congrArg (λt=>t[j]?) fO;simp only [List.getElem?_take,if_pos ag,Array.getElem?_toList,List.getElem?_map,List.getElem?_eq_getElem ag,Option.map_some] at this;rw [this,getElem!_pos l j ag]
  have hH:Holds enc w b 0 d:=by
   intro j ag;rw [zM] at ag;refine ⟨?_,?_⟩
   ·unfold World.cell?;simp only [uv,Nat.zero_add];show cur[j]?=_;rw [mQ j ag];show some (Value.int .i64 l[j]!)=some (.int .i64 (d[j]!).1);have:(d[j]!).1=l[j]! := by
     rw [getElem!_pos d j (by omega),getElem!_pos l j ag];show (l.attach.toArray[j]'_).val=_;rw [List.getElem_toArray,List.getElem_attach]
    rw [this]
   ·unfold World.frozen?;simp only [uv];simp
  have IL:∀ args w,(callFunc g args).run P w=.ok (.enter g args) w:=λargs w=>zw aQ args;have zK:CmpLays1 P g km enc k9 b 0 d.size w:=by
   intro m os BR Cq x y;have su:=xE x.1 x.2 y.1 y.2;obtain ⟨v,hv⟩:=Option.isSome_iff_exists.1 su;have Jy:k9 x y=v:=by show (fC x.1 y.1).getD 0=v; rw [hv]; rfl
   have Jn:cB (sortWorld enc w b 0 m BR os) I #[] (λ_=>none) (λ_=>ck):=by
    refine ⟨λ_ _ h=>(by cases h),λ_ _ _ h=>h,λ_ _ _ h=>h.elim,λ_ _ h=>h.elim,λc aa=>?_,λ_ _ _ _ _ _ _ _ _ _ _ h=>(by cases h),cG.keep bg.hR (λc aa=>(Fl (U:=λc=>Fs 0 c) ur).block c (bg.lt c aa) λh=>bg.bc 0 c h aa) λ_ h=>h⟩;have:=bg.lt c aa;unfold sortWorld;rw [size_grow,Go.Sort.size_putRow];exact Nat.lt_of_lt_of_le this (Nat.le_add_right _ _)
   have jN:=Jn.args (I':=I) (λ_ h=>h) (λc h=>.inl h) (args:=ae x.1::ae y.1::caps) (vs:=enc x::enc y::km.toList) (by simp [af]) (λρ' k z u aX hu=>?_)
   ·have pP:=(aa x.1 y.1 v hv).2 _ I (enc x::enc y::km.toList) _ (by simp [af]) jN;have la:(enc x::enc y::km.toList).toArray=#[enc x,enc y]++km:=by
     apply Array.ext';simp
    rw [la] at pP;refine pP.mono ?_;rintro b4 w' ⟨dK,I',bW,rfl,dZ,bU⟩;obtain ⟨u,hu,nz⟩:=dZ.rel (caps.length+2) (ae v) (by simp [kO]);have Kh:u=dK:=by
     have:(enc x::enc y::km.toList).length=caps.length+2:=by simp [af]
     rw [List.getElem?_toArray,<- this] at hu;simpa using hu.symm
    subst Kh;have oE:=(nz.gu (by simp)).hE.1;subst oE;refine ⟨by rw [Jy],?_⟩;exact N0 (bU.dN.mono λc _ ⟨_,bQ⟩=>bQ)
   ·match k,aX,hu with
    | 0,aX,hu=>cases aX; cases hu; exact .lit rfl λ_ h=>h
    | 1,aX,hu=>cases aX; cases hu; exact .lit rfl λ_ h=>h
    | k+2,aX,hu =>
     simp only [List.getElem?_cons_succ] at aX hu;have zH:=(hC k z u aX (by simpa using hu)).bq (ρ':=ρ') (pQ.bq z (List.mem_of_getElem? aX));refine zH.frame (λc aa=>?_) (λ_ h=>h) (λ_ _ h=>h) (λc h=>h.elim);exact JC (bg.lt c aa) λe=>bg.bc 0 c (e ▸ ur) aa
  have Cy:=Any.slices_SortFunc_total L enc (λ_=>rfl) k9 hO g km b 0 cap d w IL zK hH Ju (by rw [zM]; exact J') cV;rw [zM] at Cy;refine Cy.mono ?_;rintro b4 w' ⟨rfl,n,os,rfl⟩;have mV:(d.toList.mergeSort λx y=>!ltOf k9 y x).map enc=(h_ (kN fC) l).map (Value.int .i64):=by
   rw [Px hO cV];have hm:(h_ (ltOf k9) l.attach).map Subtype.val=h_ (kN fC) (l.attach.map Subtype.val):=F0 (lt:=ltOf k9) (lt':=kN fC) (f:=Subtype.val) (λa b=>aN a b) l.attach;rw [List.attach_map_subtype_val] at hm;rw [<- hm,List.map_map];rfl
  have Oy:(d.toList.mergeSort λx y=>!ltOf k9 y x).toArray.size=l.length:=by
   rw [List.size_toArray,(List.mergeSort_perm _ _).length_eq];show (l.attach.toArray).toList.length=l.length;simp
  refine Rj rfl bg (e:=e) (r:=h_ (kN fC) l) ⟨by simp,.inr ⟨b,cap,_,by rw [hlen],Nat.zero_le _,OA uv,by omega,J2,?_,?_⟩⟩ mN (Fl ur)
  ·rw [Nat.mul_one,<- fA];simp [putCells]
  ·rw [Nat.mul_one,hlen,<- Oy,QD (by rw [Oy]; omega),<- mV]
end
end Go.Own
namespace Go.Own
open Go
variable [cG]
section
variable {α:Type}{P:Program}{N:cP}{g g1 g2 g3:aL}{ops:Array Oper}{bj:List (List Nat)}{acc:Acc}{l:List Oper}{K:aL->Prop}{i d r:Nat}
theorem cB.settle {w:World}{I:a'}{T:Array Value}{Fs:Nat->a'}(h:cB w I T g Fs) (a:Act) (aJ:a.tmps=T) {ts:List Nat}{xs ys:List ab}(J:Own.hh g (ts.map Operand.tmp)=some xs) (au:Take g xs ys g1) (eA:ts.Nodup) (ah:ys.length=ts.length) (aR:∀ t∈ts,g1 t=some .dead)
  (hk:iE (qO g1 ((ts.map λt=>(⟨t,[]⟩:Place)).zip ys)) g2):∃ bW,cB w I T g2 bW/\∀ c,(∃ t,bW t c)->∃ t,Fs t c:=by
 obtain ⟨C2,YF⟩:=Ap h aJ J;have YE:xs.length=ts.length:=by rw [C2,List.length_map]
 have hand:Hand w I (fk w T) Fs xs (ts.map λt=>a.eval (.tmp t)) (λ_=>ck):=by
  refine ⟨by rw [YE,List.length_map],λk x u qG hu=>?_,λ_ _ _ _ _ h=>h.elim,λ_ _ _ _ h=>h.elim,λ_ _ _ h=>h.elim⟩;rw [List.getElem?_map] at hu;cases fO:ts[k]? with
  | none=>rw [fO] at hu; cases hu
  | some t =>
   rw [fO] at hu; cases hu;exact (YF k x (.tmp t) qG (by rw [List.getElem?_map,fO]; rfl)).frame (λ_ _=>rfl) (λ_ h=>h) (λ_ _ h=>h.1) λ_ _=>rfl
 obtain ⟨fr,H1,iZ,iv,hn⟩:=au.sound h.nh hand;have uF:((ts.map λt=>(⟨t,[]⟩:Place)).zip ys).length=ts.length:=by rw [List.length_zip,List.length_map,ah]; exact Nat.min_self _
 obtain ⟨j2,iw,aH⟩:=jI.qO ((ts.map λt=>(⟨t,[]⟩:Place)).zip ys) H1 (λj=>((ts.map λt=>a.eval (.tmp t))[j]?).getD undef) iZ (by
   rw [List.map_fst_zip (by rw [List.length_map,ah]; exact Nat.le_refl _)];exact List.Pairwise.map _ (λa b h e=>h (congrArg Place.root e)) eA) (λj p x ag=>by
   rw [List.getElem?_zip_eq_some] at ag;obtain ⟨h1,af⟩:=ag;rw [List.getElem?_map] at h1;cases fO:ts[j]? with
   | none=>rw [fO] at h1; cases h1
   | some t =>
    rw [fO] at h1; cases h1;have Oz:=aR t (List.mem_of_getElem? fO);obtain ⟨v,hv,_⟩:=iZ.rel t .dead Oz;have sk:a.eval (.tmp t)=v:=by simp [Act.eval,aJ,hv]
    have Kf:(ts.map λt=>a.eval (.tmp t))[j]?=some v:=by rw [List.getElem?_map,fO]; simp [sk]
    refine ⟨by simp [bH,Oz,ab.at],?_,?_,λi e=>?_⟩
    ·rw [Kf];show dx w T ⟨t,[]⟩=some v;unfold dx;simp only [hv,walk]
    ·rw [Kf];exact iv.rel j x v af Kf
    ·subst e; exact Qi J j i (au.self j i af)) (λj t c ag aa=>iv.off j t c (by omega) aa) (λj c ag aa=>iv.bc j c (by omega) aa) (λi j c hi ag h1 af=>iv.ea i j c (by omega) (by omega) h1 af)
 refine ⟨_,iw.keep hk,λc ⟨t,_,aa⟩=>?_⟩;have:lJ fr ys.length H1 c:=by
  rcases aH t c aa with h | ⟨j,ag,h⟩
  ·exact .inl ⟨t,h⟩
  ·exact .inr ⟨j,by omega,h⟩
 rcases hn c this with h | ⟨_,_,h⟩
 ·exact h
 ·exact h.elim
theorem h3.settle {o:Oper}{ts:List Nat}{xs ys:List ab}(J:Own.hh g (ts.map Operand.tmp)=some xs) (au:Take g xs ys g1) (eA:ts.Nodup) (ah:ys.length=ts.length) (aR:∀ t∈ts,g1 t=some .dead)
  (hk:iE (qO g1 ((ts.map λt=>(⟨t,[]⟩:Place)).zip ys)) g2) (he:h3 P N g2 o g3):h3 P N g o g3:=by
 intro w I T Fs bg a aJ bt K Q c6;obtain ⟨bW,dZ,fl⟩:=bg.settle a aJ J au eA ah aR hk;refine he w I T bW dZ a aJ bt K Q λcd w' aB au=>c6 cd w' ?_ au;obtain ⟨ca,b6,I',j2,h1,af⟩:=aB;exact ⟨ca,b6,I',j2,h1,k4.trans ⟨Fr.refl _ _,λ_ h=>h,λ_ h=>.inl h,λc h=>.inl (fl c h)⟩ af⟩
theorem SO {Q:Nat->Prop}{a:Nat}(aJ:Q a):∀ t∈[a],Q t:=λt au=>by rw [List.mem_singleton.1 au]; exact aJ
theorem E1 {Q:Nat->Prop}{a b:Nat}(aJ:Q a) (ar:Q b):∀ t∈[a,b],Q t:=λt au=>by
 rcases List.mem_cons.1 au with rfl | au
 ·exact aJ
 ·rw [List.mem_singleton.1 au]; exact ar
def GF (p q:Place):Bool:=Nat.beq p.root q.root&&p.path == q.path
def Dj:List Place->Bool
 | []=>true
 | x::l=>l.all (λy=>!GF x y)&&Dj l
theorem PZ:∀ {l:List Place},Dj l=true->l.Nodup
 | [],_=>List.nodup_nil
 | p::l,h=>by
  simp only [Dj,Bool.and_eq_true,List.all_eq_true] at h;refine List.nodup_cons.2 ⟨λhm=>?_,PZ h.2⟩;have:=h.1 p hm;simp [GF] at this
def Ze (p:Place) (acc:Acc):Bool:=acc.all λe=>match lp e with | some q=>!GF p q | none=>true
theorem Dp {p:Place}{G:List (Nat × ab)}{A:Nat->Bool}(h:Ze p acc=true) (df:ob G=true):∀ t z n m new,dq (get G) A acc t≠some (.bM z p n m new):=by
 intro t z n m new e;rcases u7 e with ⟨b4,he,h1,_,af⟩ | ⟨_,af⟩
 ·have:=List.all_eq_true.1 h b4 he;obtain ⟨k,d,x⟩:=b4;simp only at af;subst af;simp [lp,GF] at this
 ·exact x6 df _ _ _ _ _ _ af
theorem O.E2 {en:bO α}{L M r:List α}{y:ab}{e gF:Nat}{a b:Operand}{p:Place}{t ty:TypeId}(ax:Rd g a (.a7 en.z p L.length)) (aq:bH g p=some (aC en L)) (J:Rd g b y) (hm:ov g en y M) (au:il P t e en.z gF=true) (ar:Nat.ble gF 128=true) (h:c8 L M=some r) (eL:∀ t z n m new,g t≠some (.bM z p n m new)) :
  bT P g (.call { callee:=.builtin .append,args:=#[a,b],argTypes:=#[t,t] }) ty (.bM en.z p L.length M.length (bC en M)):=by
 obtain ⟨h1,af,_⟩:=wR h ar;exact .je (.grow ax.bw (.inl ⟨_,aq⟩) (λt bR cq m' cN e=>eL _ _ _ _ _ e) J.bw hm.src au h1 af)
theorem bB.BD (bX:Nat) {G G2:List (Nat × ab)}{o:Oper}(he:h3 P N (dq (get G) (λm=>(bj.getD bX []).contains m) acc) o (get G2)) (aQ:o.guard=none) (gT:Dj (acc.filterMap lp)=true) (fN:ob G=true) (ag:Nat.beq ops.size (bX+l.length+1)=true)
  (fl:acc.filter (λe=>!(bj.getD bX []).contains e.1)=[])
  (ar:(List.range ops.size).all (λk=>Nat.ble k bX||(bj.getD k []).contains bX)=true) (hk:bB P N ops bj (get G2) (bX+1) [] l K):bB P N ops bj (get G) i acc (o::l) K:=by
 intro dB j bI l1 mj;have:=BS mj ag;subst this;obtain ⟨h1,af⟩:=drop_cons mj;obtain ⟨g',hr,c6⟩:=hk [] (j+1) .nil .nil af;refine ⟨g',.Bz (U:=[]) (rs:=sM []) l1 (PZ gT) (x6 fN) h1 ?_ he.v (λp aq=>by simp [sM] at aq) fl.symm (by simp) (by simp) (by simp) ?_ hr,c6⟩
 ·unfold iH; rw [aQ]
 ·refine List.all_eq_true.2 λk hk=>?_;have:=List.all_eq_true.1 ar k hk;simp only [Bool.or_eq_true,decide_eq_true_eq,Nat.ble_eq] at this ⊢;exact this
theorem h3.cell {o:Oper}{r k0:Nat}{y:ab}{cs:List ab}{g5:aL}(hr:g r=some (.obj cs)) (ao:cs[k0]?=some y) (xO:cE y)
  (vK:∀ v:Value,v.oneCell'=true->∃ g1 g4,iE (ct g ⟨r,[k0]⟩ (.lit v)) g1/\h3 P N g1 o g4/\bH g4 ⟨r,[k0]⟩=some (.lit v)/\iE (ct g4 ⟨r,[k0]⟩ y) g5) (lB:∀ i,y≠.self i:=by exact λ_ h=>(by cases h)):np P N (λp=>p∈[(⟨r,[k0]⟩:Place)]) g o g5:=by
 intro w I T Fs h a aJ bt K Q c6;have lA:∀ z q n m new,y≠.bM z q n m new:=by rintro z q n m new rfl; cases xO
 have fD:bH g ⟨r,[k0]⟩=some y:=by simp [bH,hr,ab.at,ab.kids,ao]
 obtain ⟨v,cr,hv,ds,c_,put⟩:=h.nh.part fD lA;have qC:v.oneCell'=true:=by
  obtain ⟨u,hu,ny⟩:=h.rel r _ hr;obtain ⟨b,sU,h1,af,aF,bh,_⟩:=R.node (z:=0) (n:=0) (ny.gu (by simp)) (.inr rfl) ao;have:dx w T ⟨r,[k0]⟩=child w u k0:=by
   unfold dx;simp only [hu,walk];cases child w u k0 <;> rfl
  rw [this,aF] at hv;cases hv;exact bh
 obtain ⟨fr,iZ,xe,B5⟩:=put (.lit v) ck (.lit qC λ_ h=>h) (λ_ h=>h.elim) (λ_ h=>h.elim) (λ_ _ _ h=>h.elim) (λ_ h=>by cases h);obtain ⟨g1,g4,gy,c7,Jq,JO⟩:=vK v qC;have sT:∀ t c,fr t c->Fs t c/\¬ cr c:=by
  intro t c aa;by_cases au:t=r
  ·subst au;rcases (xe c).1 aa with aI | aI
   ·exact aI
   ·exact aI.elim
  ·rw [B5 t au] at aa;exact ⟨aa,λaV=>au (h.ea t r c aa (c_ c aV))⟩
 have Jj:=iZ.keep gy;refine c7 w I T _ Jj a aJ bt K Q λcd w' aB tl=>?_;obtain ⟨ca,b6,I',bW,dZ,bU⟩:=aB;obtain ⟨v2,pA,tm,mP,Wb,Lq⟩:=dZ.nh.part Jq (by simp);have Ke:v2=v:=mP.hE.1;subst Ke;have Ja:∀ c,cr c->¬ I c:=λc aa=>h.bc r c (c_ c aa);have xg:∀ c,cr c->c<w.heap.size:=λc aa=>h.jd r c (c_ c aa);have x9:∀ c,cr c->¬ ∃ t,(g1 t≠none/\fr t c):=λc aa ⟨t,_,aI⟩=>(sT t c aI).2 aa;have Ds:∀ t c,bW t c->¬ cr c:=by
  intro t c aa aV;rcases bU.own c ⟨t,aa⟩ with aI | aI
  ·exact x9 c aV aI
  ·have:=xg c aV; omega
 have La:∀ c,cr c->¬ I' c:=by
  intro c aa hi;rcases bU.new c hi with aI | aI | aI
  ·exact Ja c aa aI
  ·exact x9 c aa aI
  ·have:=xg c aa; omega
 have LC:∀ c,cr c->w'.heap[c]?=w.heap[c]?:=λc aa=>bU.dN.block c (xg c aa) (x9 c aa);have rW:∀ c,I c->w'.heap[c]?=w.heap[c]?:=λc aa=>bU.dN.block c (h.lt c aa) λ⟨t,_,aI⟩=>h.bc t c (sT t c aI).1 aa;have Cb:R w' I' (fk w' cd.tmps) y v2 cr:=((ds.bq xO).frame rW bU.more (λ_ _ h=>h) LC);obtain ⟨Ml,Jk,I6,I7⟩:=Lq y cr Cb (λc aa aV=>(Ds _ c aV aa).elim) (λc aa=>La c aa) (λt c _ aa aV=>Ds t c aV aa) (λi e=>absurd e (lB i));have te:=Jk.keep JO;refine c6 cd w' ⟨ca,b6,I',_,te,⟨?_,bU.more,λc aa=>?_,λc aa=>?_⟩⟩ tl λc' path aq y' pa afe=>?_
 ·exact bU.dN.mono λb _ ⟨t,_,aI⟩=>⟨t,(sT t b aI).1⟩
 ·rcases bU.new c aa with aI | ⟨t,_,aI⟩ | aI
  ·exact .inl aI
  ·exact .inr (.inl ⟨t,(sT t c aI).1⟩)
  ·exact .inr (.inr aI)
 ·obtain ⟨t,_,aa⟩:=aa;have:(∃ t,bW t c)\/cr c:=by
   by_cases au:t=r
   ·subst au;rcases (I6 c).1 aa with ⟨aI,_⟩ | aI
    ·exact .inl ⟨_,aI⟩
    ·exact .inr aI
   ·rw [I7 t au] at aa; exact .inl ⟨t,aa⟩
  rcases this with aI | aI
  ·rcases bU.own c aI with ⟨t,_,gZ⟩ | gZ
   ·exact .inl ⟨t,(sT t c gZ).1⟩
   ·exact .inr gZ
  ·exact .inl ⟨r,c_ c aI⟩
 ·have aq:(⟨c',path⟩:Place)∈[(⟨r,[k0]⟩:Place)]:=aq;have aq:=List.mem_singleton.1 aq;cases aq;rw [hv,tm]
end
section
variable {α:Type}{P:Program}{N:cP}{g:aL}{ops:Array Oper}{l:List Oper}{K:aL->Prop}{r n:Nat}{t e ty:TypeId}{a b:Operand}{m:Int}{en:bO α}{L:List α}{y y2:α}{k:IntKind}{pos:String}{after:Array Edge}
def xP {α:Type}(n:Nat) (l:List α) (i:Int):Option α:=if i<n then idx l i else none
theorem Kv (h:xP n L m=some y):m<n/\idx L m=some y:=by
 unfold xP at h
 split at h
 ·exact ⟨by assumption,h⟩
 ·cases h
theorem Tb (aX:Nat.blt 0 en.z=true) (h:idx L m=some y):m.toNat * en.z<(bC en L).length:=by
 obtain ⟨aK,h1,_⟩:=mq h;rw [oQ];exact Nat.mul_lt_mul_of_pos_right (by omega) (by simpa using aX)
theorem O.PA (ax:g r=some (.obj (bC en L))) (aX:Nat.blt 0 en.z=true) (hi:Rd g b (.lit (.int k m))) (au:zl P t e n en.z=true) (h:xP n L m=some y):bT P g (.indexAddr t (.tmp r) b) ty (.ptr ⟨r,[]⟩ (m.toNat * en.z)):=by
 obtain ⟨h1,af⟩:=Kv h;have aN:=Tb aX af;obtain ⟨aK,_,_⟩:=mq af;have J:Own.bw g (.tmp r)=some (.ptr ⟨r,[]⟩ 0):=by
  cases aa:bC en L with
  | nil=>rw [aa] at aN; simp at aN
  | cons c cs=>simp [Own.bw,ax,aa,pn,fY]
 have hm:((m.toNat:Nat):Int)=m:=by omega
 have:=dh.FV (P:=P) (g:=g) (ty:=ty) (k:=0) (j:=m.toNat) J (by rw [hm]; exact hi.bw) au (by omega) ⟨.obj (bC en L),by simp [bH,ax,ab.at],0,0,_,.inr rfl,by rw [Nat.zero_add]; exact aN⟩;rw [Nat.zero_add] at this;exact .ew this
theorem O.Y1 {x:ab}(ax:g r=some (.obj (bC en L))) (aJ:Rd g a (.ptr ⟨r,[]⟩ (m.toNat * en.z))) (h:idx L m=some y) (J:(en.cells y)[0]?=some x) (au:jK P t=true) (aB:∀ p,fY 0 p x=x):bT P g (.load t a) ty x:=by
 have:=Lx en h J;rw [Nat.add_zero] at this;exact O.qI ax aJ au this (aB _)
theorem aE.aaw {Ma:ab}{cs':List ab}{G2:List (Nat × ab)}(ax:g r=some (.obj (bC en L))) (aX:Nat.blt 0 en.z=true) (aJ:Rd g a (.ptr ⟨r,[]⟩ (m.toNat * en.z))) (ar:Rd g b Ma) [aB:b9 Ma] (h:idx L m=some y) (aa:o2 Ma=some cs') (eV:cs'=en.cells y2) (fA:hy P t cs'.length=true)
  (hr:(get G2 r).isSome=true) (df:ly g (get G2) r (bC en (L.set m.toNat y2)) G2) (hk:aE P N ops l (get G2) K):aE P N ops (⟨none,.store t a b,ty,pos,after,none⟩::l) g K:=by
 have hlen:cs'.length=en.z:=by rw [eV,en.len]
 obtain ⟨aK,h1,_⟩:=mq h;refine .kf ax aJ ar aa fA ?_ ?_ ?_ hr df hk
 ·rw [hlen,oQ];simp only [Nat.ble_eq];have:(m.toNat+1) * en.z<=L.length * en.z:=Nat.mul_le_mul_right _ (by omega);rw [Nat.add_mul,Nat.one_mul] at this;exact this
 ·rw [hlen]; exact aX
 ·have:=Lw en h (o:=0) (cs':=cs') (y2:=y2) (by
   subst eV;have ah:(en.cells y2).length=(en.cells y).length:=by rw [en.len,en.len]
   unfold e0;rw [List.take_zero,List.nil_append,Nat.zero_add,ah,List.drop_length,List.append_nil]) (by omega)
  rw [Nat.add_zero] at this;exact this
end
end Go.Own
namespace Go.Own
open Go Go.Proofs Go.Shelf Go.Lib Go.Sort
variable [cG]
section
variable {P:Program}{w:World}
class oq {α:Type}(e:bO α) where
 sW:α->List Value
 cells:∀ a,e.cells a=(sW a).map .lit
 one:∀ a,∀ v∈sW a,v.oneCell'=true
variable {α:Type}{e:bO α}
theorem oq.len [h:oq e] (a:α):(h.sW a).length=e.z:=by
 have:=e.len a;rw [h.cells,List.length_map] at this;exact this
def pI (e:bO α) [h:oq e] (l:List α):List Value:=l.flatMap h.sW
theorem GS [h:oq e]:∀ l:List α,bC e l=(pI e l).map .lit
 | []=>rfl
 | a::l=>by
  have:bC e (a::l)=e.cells a++bC e l:=by simp [bC]
  rw [this,GS l,h.cells];simp [pI]
theorem IU [h:oq e] (l:List α):(pI e l).length=l.length * e.z:=by
 have:=oQ e l;rw [GS,List.length_map] at this;exact this
theorem NR [h:oq e] {l:List α}:∀ v∈pI e l,v.oneCell'=true:=by
 intro v hv;obtain ⟨a,_,hv⟩:=List.mem_flatMap.1 hv;exact h.one a v hv
theorem NQ [h:oq e]:∀ (l:List α) (i j:Nat) (a:α),l[i]?=some a->j<e.z->(pI e l)[i * e.z+j]?=(h.sW a)[j]?
 | [],i,j,a,aJ,_=>by simp at aJ
 | b::l,0,j,a,aJ,ag=>by
  simp only [List.getElem?_cons_zero,Option.some.injEq] at aJ;subst aJ;simp only [pI,List.flatMap_cons,Nat.zero_mul,Nat.zero_add];rw [List.getElem?_append_left (by rw [oq.len]; exact ag)]
 | b::l,i+1,j,a,aJ,ag=>by
  simp only [List.getElem?_cons_succ] at aJ;have:=NQ l i j a aJ ag;simp only [pI,List.flatMap_cons] at this ⊢;rw [List.getElem?_append_right (by rw [oq.len,Nat.add_mul]; omega),oq.len,<- this];congr 1;rw [Nat.add_mul]; omega
theorem NP {β:Type} [Inhabited β] [h:oq e] (f:β->α) (d:Array β):(flatK (λx=>h.sW (f x)) e.z d).toList=pI e (d.toList.map f):=by
 apply List.ext_getElem?;intro t;by_cases au:t<d.size * e.z
 ·have aX:0<e.z:=by
   rcases Nat.eq_zero_or_pos e.z with aK | aK
   ·rw [aK] at au; omega
   ·exact aK
  have h1:t / e.z<d.size:=Nat.div_lt_of_lt_mul (by rw [Nat.mul_comm]; exact au);have af:t % e.z<e.z:=Nat.mod_lt _ aX;have aJ:(d.toList.map f)[t / e.z]?=some (f d[t / e.z]!):=by
   rw [List.getElem?_map,Array.getElem?_toList,Array.getElem?_eq_getElem h1,getElem!_pos d _ h1]; rfl
  have:=NQ (e:=e) _ (t / e.z) (t % e.z) _ aJ af;rw [Nat.mul_comm,Nat.div_add_mod] at this;rw [this,Array.getElem?_toList,Array.getElem?_eq_getElem (by simpa using au),<- getElem!_pos (flatK (λx=>h.sW (f x)) e.z d) t (by simpa using au),get_flatK _ _ _ _ au];have aF:t % e.z<(h.sW (f d[t / e.z]!)).length:=by rw [oq.len]; exact af
  rw [getElem!_pos (h.sW (f d[t / e.z]!)) (t % e.z) aF,List.getElem?_eq_getElem aF]
 ·rw [List.getElem?_eq_none (by simp; omega),List.getElem?_eq_none (by rw [IU,List.length_map,Array.length_toList]; omega)]
theorem Rk [fM:oq e] {vs:List Value}{v0 v1:Value}(xI:vs=[v0,v1]) {I:a'}{Fs:Nat->a'}{g:aL}(bg:cB w I vs.toArray g Fs) {w':World}{t:TypeId}{r:List α}(aW:w'.ownsRow 0 t e.z v0 r.length (pI e r)) (aH:∀ c,Fs 0 c↔v0.ownBlock=some c) (kv:Fr w w' λc=>Fs 0 c) :
  ∃ v I' bW,Ending.returned (.tuple #[])=.returned v/\cB w' I' (vs++[v]).toArray (kO [some (aC e r),none] (.bS [])) bW/\k4 w I (λc=>∃ t,Fs t c) w' I' (λc=>∃ t,bW t c):=by
 subst xI;refine ⟨_,I,λt=>if t=0 then Fs 0 else ck,rfl,⟨λt x J=>?_,λt au c aa=>?_,λt t' c aa dQ=>?_,λt c aa=>?_,λc aa=>Nat.lt_of_lt_of_le (bg.lt c aa) kv.size,λt t' z p n m new bR cq m' cN h1 af=>?_,cG.keep bg.hR (λc aa=>kv.block c (bg.lt c aa) λh=>bg.bc 0 c h aa) λ_ h=>h⟩,⟨?_,λc h=>h,λc h=>.inl h,λc aa=>?_⟩⟩
 ·unfold kO at J
  split at J
  ·rename_i au;have au:t=2:=au;subst au;cases J;exact ⟨.tuple #[],rfl,.tree (.bS (Fs:=λ_=>ck) rfl (λk x u h=>by simp at h) (λj k c h=>by simp at h) (λc=>⟨λh=>h.elim,λ⟨k,h,_⟩=>by simp at h⟩))⟩
  ·match t,J with
   | 0,J =>
    cases J;refine ⟨v0,rfl,.tree ?_⟩;show R w' I _ (.own e.z r.length (bC e r)) v0 (Fs 0);rw [GS];refine .own (Fs:=λ_=>ck) aW (by simp) (λk u hu=>NR u (List.mem_of_getElem? hu)) (λk x u J hu=>?_) (λ_ _ _ _ _ h=>h.elim) (λ_ _ _ h=>h.elim) (λc=>⟨λh=>.inl ((aH c).1 h),λh=>?_⟩)
    ·rw [List.getElem?_map,hu] at J;cases J;exact .lit (NR u (List.mem_of_getElem? hu)) λ_ h=>h
    ·rcases h with h | ⟨_,_,h⟩
     ·exact (aH c).2 h
     ·exact h.elim
   | 1,J=>cases J
   | t+2,J=>cases J
 ·have aK:¬ t=0:=λe=>by subst e; exact absurd au (by simp [kO])
  simp only [if_neg aK] at aa;exact aa
 ·have key:∀ {t:Nat},(if t=0 then Fs 0 else ck) c->t=0:=λ{t} h=>by
   by_cases aK:t=0
   ·exact aK
   ·rw [if_neg aK] at h; exact h.elim
  rw [key aa,key dQ]
 ·by_cases aK:t=0
  ·simp only [if_pos aK] at aa; exact bg.bc 0 c aa
  ·simp only [if_neg aK] at aa; exact aa.elim
 ·unfold kO at h1
  split at h1
  ·cases h1
  ·match t,h1 with
   | 0,h1=>cases h1
   | 1,h1=>cases h1
   | t+2,h1=>cases h1
 ·exact kv.mono λb _ ar=>⟨0,ar⟩
 ·obtain ⟨t,au⟩:=aa;by_cases aK:t=0
  ·simp only [if_pos aK] at au; exact .inl ⟨0,au⟩
  ·simp only [if_neg aK] at au; exact au.elim
theorem bP.aaV [DecidableEq α] [vx:oq e] {ρ:Ren}(L:SlLaysF0.n6 P ρ) (SE:∀ w,(isAgg (ρ.t 24)).run P w=.ok true w) (abZ:∀ w,(Go.sizeOf (ρ.t 24)).run P w=.ok e.z w) {g:FuncId}{caps:List ab} [pQ:dm caps] (aQ:hA P g=true) {l r:List α}{fC:α->α->Option Int}(h:p7 fC l=some r)
  (aa:∀ a b v,fC a b=some v->bP P g (.agg (e.cells a)::.agg (e.cells b)::caps) (none::none::caps.map λ_=>none) (ae v)) :
  bP P (ρ.f 6) [aC e l,.cF (.func g) [] caps] [some (aC e r),none] (.bS []):=by
 refine ⟨rfl,λw I vs Fs ah bg=>?_⟩;obtain ⟨v0,v1,rfl⟩:∃ v0 v1,vs=[v0,v1]:=by
  match vs,ah with
  | [a,b],_=>exact ⟨a,b,rfl⟩
 obtain ⟨xE,ka,J',rfl⟩:=Ri h;obtain ⟨u,hu,a1⟩:=bg.rel 0 (aC e l) rfl;obtain rfl:v0=u:=by simpa using hu
 replace a1:=a1.gu (by simp);obtain ⟨u,hu,qt⟩:=bg.rel 1 (.cF (.func g) [] caps) rfl;obtain rfl:v1=u:=by simpa using hu
 replace qt:=qt.gu (by simp);rw [show aC e l=.own e.z l.length (bC e l) from rfl,GS] at a1
 cases a1 with
 | ref J=>simp [ab.isRef] at J
 | @own _ _ _ _ t us bG _ aW xy ho hr aR ar aH =>
 cases qt with
 | ref J=>simp [ab.isRef] at J
 | @cF _ _ _ aw km _ xe h1 af i' hC =>
 obtain rfl:aw=#[]:=Array.eq_empty_of_size_eq_zero (by simpa using h1.symm);have mN:∀ c,Fs 0 c↔v0.ownBlock=some c:=by
  intro c;refine ⟨λaa=>?_,λaa=>(aH c).2 (.inl aa)⟩;rcases (aH c).1 aa with h | ⟨k,hk,h⟩
  ·exact h
  ·have J:=List.getElem?_eq_getElem hk;have hu:=List.getElem?_eq_getElem (xy ▸ hk);have a1:=hr k _ _ J hu;rw [List.getElem_map] at a1;generalize us[k]=gv at a1;cases a1 with
   | lit _ aV=>exact (aV c h).elim
   | ref J=>simp [ab.isRef] at J
 have nC:us=pI e l:=by
  apply List.ext_getElem?;intro k;by_cases hk:k<us.length
  ·have ig:k<((pI e l).map ab.lit).length:=xy.symm ▸ hk;have J:=List.getElem?_eq_getElem ig;have hu:=List.getElem?_eq_getElem hk;have a1:=hr k _ _ J hu;rw [List.getElem_map] at a1;rw [hu,a1.hE.1,List.getElem?_eq_getElem (by simpa using ig)]
  ·rw [List.getElem?_eq_none (by omega),List.getElem?_eq_none (by rw [List.length_map] at xy; omega)]
 subst nC;have CH:=tu (kN fC) l;have hlen:=CH.length_eq;by_cases xA:l=[]
 ·subst xA;have h9:∃ p cap,v0=.slice p 0 cap:=by
   rcases aW.2 with ⟨rfl,_⟩ | ⟨b,cap,cur,rfl,_⟩
   ·exact ⟨_,_,rfl⟩
   ·exact ⟨_,_,rfl⟩
  obtain ⟨p,cap,rfl⟩:=h9;refine (AnyF.slices_SortFunc_none L p cap _ w).mono ?_;rintro b4 w' ⟨rfl,rfl⟩;exact Rk rfl bg (t:=t) (r:=[]) aW mN (Fr.refl _ _)
 ·obtain ⟨OM,Jx⟩:=aW;rcases Jx with ⟨rfl,aK⟩ | ⟨b,cap,cur,rfl,_,uv,hle,J2,fA,fO⟩
  ·exact absurd (List.eq_nil_of_length_eq_zero aK) xA
  have ur:Fs 0 b:=(mN b).2 rfl;have Ju:b<w.heap.size:=(Array.getElem?_eq_some_iff.1 uv).1;obtain ⟨a0,Ce⟩:=List.exists_mem_of_ne_nil l xA
  let β:={ x:α // x∈l }
  haveI:Inhabited β:=⟨⟨a0,Ce⟩⟩
  let enc:β->List Value:=λx=>vx.sW x.1
  let k9:β->β->Int:=λx y=>(fC x.1 y.1).getD 0;have aN:∀ x y:β,ltOf k9 x y=kN fC x.1 y.1:=λx y=>rfl
  let d:Array β:=l.attach.toArray;have Ow:d.toList.map Subtype.val=l:=by
   show (l.attach.toArray).toList.map Subtype.val=l;simp
  have zM:d.size=l.length:=by show (l.attach.toArray).size=l.length; rw [List.size_toArray,List.length_attach]
  have ja:=Qj ka;have hO:SWO (ltOf k9):=by
   refine ⟨λx=>by rw [aN]; exact (ja x.1 x.2).1,λx y z=>?_,λx y z=>?_⟩
   ·rw [aN,aN,aN];exact λp q=>(((ja x.1 x.2).2 y.1 y.2).2 z.1 z.2).1 ⟨p,q⟩
   ·rw [aN,aN,aN];intro p q;rcases (((ja x.1 x.2).2 y.1 y.2).2 z.1 z.2).2 with h | h | h
    ·rw [p] at h; cases h
    ·rw [q] at h; cases h
    ·exact h
  have cV:∀ x y:β,ltOf k9 x y=false->ltOf k9 y x=false->x=y:=by
   intro x y p q;rw [aN] at p q;rcases ((ja x.1 x.2).2 y.1 y.2).1 with h | h | h
   ·rw [p] at h; cases h
   ·rw [q] at h; cases h
   ·exact Subtype.ext h
  have mR:(flatK enc e.z d).toList=pI e l:=by
   have:=NP (e:=e) (λx:β=>x.1) d;rw [Ow] at this;exact this
  have hH:HoldsK enc e.z w b 0 d:=by
   intro j ag;have xw:j<(pI e l).length:=by rw [<- mR,Array.length_toList]; exact ag
   refine ⟨?_,?_⟩
   ·unfold World.cell?;simp only [uv,Nat.zero_add];show cur[j]?=_;have h1:=congrArg (λt=>t[j]?) fO;have zT:j<l.length * e.z:=by rw [<- IU (e:=e)]; exact xw
    simp only [List.getElem?_take,if_pos zT,Array.getElem?_toList] at h1;rw [h1,<- mR,Array.getElem?_toList,Array.getElem?_eq_getElem ag,getElem!_pos (flatK enc e.z d) j ag];rfl
   ·unfold World.frozen?;simp only [uv];simp
  have IL:∀ args w,(callFunc g args).run P w=.ok (.enter g args) w:=λargs w=>zw aQ args;have Oh:∀ (W:World) (I:a') (ρ':ab->Value->Prop) (a:α),R W I ρ' (.agg (e.cells a)) (.agg (vx.sW a).toArray) λ_=>False:=by
   intro W I ρ' a;rw [vx.cells];refine .agg (Fs:=λ_=>ck) (by simp) (λk u hu=>vx.one a u ?_) (λk x u J hu=>?_) (λ_ _ _ _ _ h=>h.elim) (λc=>⟨λh=>h.elim,λ⟨_,_,h⟩=>h.elim⟩)
   ·rw [List.getElem?_toArray] at hu; exact List.mem_of_getElem? hu
   ·rw [List.getElem?_toArray] at hu;rw [List.getElem?_map,hu] at J;cases J;exact .lit (vx.one a u (List.mem_of_getElem? hu)) λ_ h=>h
  have zK:CmpLays P g km enc e.z k9 b 0 d.size w:=by
   intro m os BR Cq x y;have su:=xE x.1 x.2 y.1 y.2;obtain ⟨v,hv⟩:=Option.isSome_iff_exists.1 su;have Jy:k9 x y=v:=by show (fC x.1 y.1).getD 0=v; rw [hv]; rfl
   show Calls P g _ (sortWorld id w b 0 m (flatK enc e.z BR) os) λb4 w'=>_/\∃ q Zs,w'=grow ((sortWorld id w b 0 m (flatK enc e.z BR) os).drewN q) Zs;have Jn:cB (sortWorld id w b 0 m (flatK enc e.z BR) os) I #[] (λ_=>none) (λ_=>ck):=by
    refine ⟨λ_ _ h=>(by cases h),λ_ _ _ h=>h,λ_ _ _ h=>h.elim,λ_ _ h=>h.elim,λc aa=>?_,λ_ _ _ _ _ _ _ _ _ _ _ h=>(by cases h),cG.keep bg.hR (λc aa=>(Fl (U:=λc=>Fs 0 c) ur).block c (bg.lt c aa) λh=>bg.bc 0 c h aa) λ_ h=>h⟩;have:=bg.lt c aa;unfold sortWorld;rw [size_grow,Go.Sort.size_putRow];exact Nat.lt_of_lt_of_le this (Nat.le_add_right _ _)
   have jN:=Jn.args (I':=I) (λ_ h=>h) (λc h=>.inl h) (args:=.agg (e.cells x.1)::.agg (e.cells y.1)::caps) (vs:=.agg (enc x).toArray::.agg (enc y).toArray::km.toList) (by simp [af]) (λρ' k z u aX hu=>?_)
   ·have pP:=(aa x.1 y.1 v hv).2 _ I (.agg (enc x).toArray::.agg (enc y).toArray::km.toList) _ (by simp [af]) jN;have la:(.agg (enc x).toArray::.agg (enc y).toArray::km.toList).toArray=#[.agg (enc x).toArray,.agg (enc y).toArray]++km:=by
     apply Array.ext';simp
    rw [la] at pP;refine pP.mono ?_;rintro b4 w' ⟨dK,I',bW,rfl,dZ,bU⟩;obtain ⟨u,hu,nz⟩:=dZ.rel (caps.length+2) (ae v) (by simp [kO]);have Kh:u=dK:=by
     have:(Value.agg (enc x).toArray::.agg (enc y).toArray::km.toList).length=caps.length+2:=by simp [af]
     rw [List.getElem?_toArray,<- this] at hu;simpa using hu.symm
    subst Kh;have oE:=(nz.gu (by simp)).hE.1;subst oE;refine ⟨by rw [Jy],?_⟩;exact N0 (bU.dN.mono λc _ ⟨_,bQ⟩=>bQ)
   ·match k,aX,hu with
    | 0,aX,hu=>cases aX; cases hu; exact Oh _ _ _ x.1
    | 1,aX,hu=>cases aX; cases hu; exact Oh _ _ _ y.1
    | k+2,aX,hu =>
     simp only [List.getElem?_cons_succ] at aX hu;have zH:=(hC k z u aX (by simpa using hu)).bq (ρ':=ρ') (pQ.bq z (List.mem_of_getElem? aX));refine zH.frame (λc aa=>?_) (λ_ h=>h) (λ_ _ h=>h) (λc h=>h.elim);exact JC (bg.lt c aa) λe=>bg.bc 0 c (e ▸ ur) aa
  have Cy:=AnyQ.slices_SortFunc_total L e.z SE abZ enc (λx=>oq.len x.1) (λx v hv=>vx.one x.1 v hv) k9 hO g km b 0 cap d w IL zK hH Ju (by rw [zM]; exact J') cV;rw [zM] at Cy;refine Cy.mono ?_;rintro b4 w' ⟨rfl,n,os,rfl⟩;have mV:(d.toList.mergeSort λx y=>!ltOf k9 y x).map Subtype.val=h_ (kN fC) l:=by
   rw [Px hO cV];have hm:(h_ (ltOf k9) l.attach).map Subtype.val=h_ (kN fC) (l.attach.map Subtype.val):=F0 (lt:=ltOf k9) (lt':=kN fC) (f:=Subtype.val) (λa b=>aN a b) l.attach;rw [List.attach_map_subtype_val] at hm;exact hm
  generalize afc:(d.toList.mergeSort λx y=>!ltOf k9 y x)=ms at mV;have XI:ms.length=l.length:=by rw [<- hlen,<- mV,List.length_map]
  have JF:(flatK enc e.z ms.toArray).toList=pI e (h_ (kN fC) l):=by
   have:=NP (e:=e) (λx:β=>x.1) ms.toArray;rw [show (ms.toArray).toList.map (λx:β=>x.1)=h_ (kN fC) l from mV] at this
   exact this
  have tf:(flatK enc e.z ms.toArray).size=l.length * e.z:=by rw [size_flatK,List.size_toArray,XI]
  refine Rk rfl bg (t:=t) (r:=h_ (kN fC) l) ⟨IU _,.inr ⟨b,cap,_,by rw [hlen],Nat.zero_le _,OA (enc:=id) uv,by omega,J2,?_,?_⟩⟩ mN (Fl (enc:=id) ur)
  ·rw [<- fA];simp [putCells]
  ·rw [hlen,<- tf,QD (by rw [tf,fA]; exact Nat.mul_le_mul_right _ hle),List.map_id,JF]
end
end Go.Own
namespace Go.Own
open Go
variable [cG]
section
variable {α:Type}{P:Program}{N:cP}{g:aL}{d r:Nat}
end
end Go.Own
namespace Go.Own
open Go Go.Proofs Go.Shelf Go.Lib Go.Sort
variable [cG]
section
variable {α:Type} [DecidableEq α]
end
section
variable {α:Type}{e:bO α}{P:Program}{w:World}
variable [DecidableEq α] [Inhabited α]
end
end Go.Own
namespace Go.Proofs
open Go.Shelf Go.RowKit Go.Lib Go.Sort
variable {α:Type} [Inhabited α] [DecidableEq α]
namespace Two
open Go.Own
variable [cG]
variable {P:Program}{t:TypeId}
end Two
end Go.Proofs
namespace Go.Own
open Go Go.Proofs Go.Shelf Go.Lib Go.Sort
variable [cG]
def yE (k:IntKind) (m n:Int):Int:=m.fdiv (2 ^ (min n.toNat k.bits))
theorem O.shr {P:Program}{g:aL}{t t2 ty:TypeId}{a b:Operand}{k kd:IntKind}{m n:Int}(J:Rd g a (.lit (.int k m))) (ao:Rd g b (.lit (.int kd n))) (h:decide (0<=n)=true):bT P g (.binOp .shr t a b t2) ty (.lit (.int k (yE k m n))):=by
 have aK:¬ n<0:=by have:=of_decide_eq_true h; omega
 exact .ew (.bin J.bw ao.bw rfl λw=>by simp [eqGuard,binOp,Op.shift,aK,yE])
theorem abQ {P:Program}{w:World}{ops:Array Oper}{rest:List Oper}{o:Oper}{a:Act}{Q:Exit->Act->World->Prop}(tg:o.guard=none) (s x:Operand) (t:TypeId)
  (aW:o.op=.call { callee:=.builtin .append,args:=#[s,x],argTypes:=#[t,t] }) (e:TypeId) (i:TypeInfo) (z:Value) (au:P.underlying t=some (.slice e)) (hi:P.info? e=some i) (aX:i.zero=some z) (l2:z.cells.size=i.size) (fA:0<i.size)
  (v:Value) (n:Nat) (xs:List Value) (ax:a.eval s=v) (CF:w.ownsRow 0 e i.size v n xs)
  (ad:Addr) (m c:Nat) (news:List Value) (J:a.eval x=.slice (some ad) m c) (ah:news.length=m * i.size) (so:∀ j u,news[j]?=some u->w.cell? (ad.add j)=some u) (h1:∀ u∈news,u.oneCell'=true)
  (o5:n+m<=maxLen) (zJ:(n+m) * i.bytes<=140737488355328)
  (h:∀ dK w' b6,Bc w w' v dK e b6 i.size n m xs news->wpList P ops Q rest (a.put o.dst dK) w'):wpList P ops Q (o::rest) a w :=
 wpList_plain tg λ_ c6=>by
  obtain ⟨dK,w',b6,hr,dC⟩:=GV (P:=P) (w:=w) t o.type e e i z au hi aX l2 fA CF (a:=some ad) (m:=m) (c:=c) (λ_=>rfl) ah (λMG e=>by cases e; exact so) h1 o5 zJ;unfold Oper.wp execOp;simp only [aW,resolve,invoke,builtin,Sem.run_bind,Sem.run_pure,Result.andThen_ok,List.map_toArray,List.map_cons,List.map_nil,ax,J,hr];exact c6 _ _ (h dK w' b6 dC)
def Fb {α:Type}(l:List α):Option (List α):=if l.length<=1000000000000 then some l else none
section
variable {α:Type}{e:bO α}{P:Program}{w:World}
end
end Go.Own
namespace Go.Own
open Go
variable [cG]
section
variable {α:Type}{P:Program}{N:cP}{g:aL}{d r:Nat}
end
theorem q {α:Sort _}{a:α}:a=a:=rfl
abbrev bo:ByteArray:=⟨#[]⟩
theorem p3 {p:Prop} [Decidable p] (h:decide p=true):p:=of_decide_eq_true h
theorem l_ {b:Bool}{g h:aL}{e6 s1:Nat}{dW aS:ab}(aK:g e6=some dW) [b9 dW] (h1:g s1=some aS) [b9 aS]:Trim b g h [(e6,dW),(s1,aS)]:=(.n aK (.n h1 .nil))
theorem oS {b:Bool}{g h:aL}{e6 s1 s2:Nat}{dW aS x2:ab}(aK:g e6=some dW) [b9 dW] (h1:g s1=some aS) [b9 aS] (af:g s2=some x2) [b9 x2]:Trim b g h [(e6,dW),(s1,aS),(s2,x2)]:=(.n aK (.n h1 (.n af .nil)))
theorem p8 {b:Bool}{g h:aL}{e6 s1 s2 eE:Nat}{dW aS x2 a8:ab}(aK:g e6=some dW) [b9 dW] (h1:g s1=some aS) [b9 aS] (af:g s2=some x2) [b9 x2] (aF:g eE=some a8) [b9 a8]:Trim b g h [(e6,dW),(s1,aS),(s2,x2),(eE,a8)]:=(.n aK (.n h1 (.n af (.n aF .nil))))
theorem l' {b:Bool}{g h:aL}{e6 s1 s2 eE da:Nat}{dW aS x2 a8 bk:ab}(aK:g e6=some dW) [b9 dW] (h1:g s1=some aS) [b9 aS] (af:g s2=some x2) [b9 x2] (aF:g eE=some a8) [b9 a8] (bh:g da=some bk) [b9 bk]:Trim b g h [(e6,dW),(s1,aS),(s2,x2),(eE,a8),(da,bk)]:=(.n aK (.n h1 (.n af (.n aF (.n bh .nil)))))
theorem qT {b:Bool}{g h:aL}{e6 s1 s2 eE da b3:Nat}{dW aS x2 a8 bk bV:ab}(aK:g e6=some dW) [b9 dW] (h1:g s1=some aS) [b9 aS] (af:g s2=some x2) [b9 x2] (aF:g eE=some a8) [b9 a8] (bh:g da=some bk) [b9 bk] (b7:g b3=some bV) [b9 bV]:Trim b g h [(e6,dW),(s1,aS),(s2,x2),(eE,a8),(da,bk),(b3,bV)]:=(.n aK (.n h1 (.n af (.n aF (.n bh (.n b7 .nil))))))
theorem Hf {b:Bool}{g h:aL}{e6 s1 s2 eE da b3 cK:Nat}{dW aS x2 a8 bk bV bA:ab}(aK:g e6=some dW) [b9 dW] (h1:g s1=some aS) [b9 aS] (af:g s2=some x2) [b9 x2] (aF:g eE=some a8) [b9 a8] (bh:g da=some bk) [b9 bk] (b7:g b3=some bV) [b9 bV] (dp:g cK=some bA) [b9 bA]:Trim b g h [(e6,dW),(s1,aS),(s2,x2),(eE,a8),(da,bk),(b3,bV),(cK,bA)]:=(.n aK (.n h1 (.n af (.n aF (.n bh (.n b7 (.n dp .nil)))))))
theorem abk {b:Bool}{g h:aL}{e6 s1 s2 eE da b3 cK gh:Nat}{dW aS x2 a8 bk bV bA bn:ab}(aK:g e6=some dW) [b9 dW] (h1:g s1=some aS) [b9 aS] (af:g s2=some x2) [b9 x2] (aF:g eE=some a8) [b9 a8] (bh:g da=some bk) [b9 bk] (b7:g b3=some bV) [b9 bV] (dp:g cK=some bA) [b9 bA] (kJ:g gh=some bn) [b9 bn]:Trim b g h [(e6,dW),(s1,aS),(s2,x2),(eE,a8),(da,bk),(b3,bV),(cK,bA),(gh,bn)]:=(.n aK (.n h1 (.n af (.n aF (.n bh (.n b7 (.n dp (.n kJ .nil))))))))
theorem afF {b:Bool}{g h:aL}{e6 s1 s2 eE da b3 cK gh ei:Nat}{dW aS x2 a8 bk bV bA bn bL:ab}(aK:g e6=some dW) [b9 dW] (h1:g s1=some aS) [b9 aS] (af:g s2=some x2) [b9 x2] (aF:g eE=some a8) [b9 a8] (bh:g da=some bk) [b9 bk] (b7:g b3=some bV) [b9 bV] (dp:g cK=some bA) [b9 bA] (kJ:g gh=some bn) [b9 bn] (xd:g ei=some bL) [b9 bL]:Trim b g h [(e6,dW),(s1,aS),(s2,x2),(eE,a8),(da,bk),(b3,bV),(cK,bA),(gh,bn),(ei,bL)]:=(.n aK (.n h1 (.n af (.n aF (.n bh (.n b7 (.n dp (.n kJ (.n xd .nil)))))))))
theorem abi {b:Bool}{g h:aL}{e6 s1 s2 eE da b3 cK gh ei oR:Nat}{dW aS x2 a8 bk bV bA bn bL cw:ab}(aK:g e6=some dW) [b9 dW] (h1:g s1=some aS) [b9 aS] (af:g s2=some x2) [b9 x2] (aF:g eE=some a8) [b9 a8] (bh:g da=some bk) [b9 bk] (b7:g b3=some bV) [b9 bV] (dp:g cK=some bA) [b9 bA] (kJ:g gh=some bn) [b9 bn] (xd:g ei=some bL) [b9 bL] (B3:g oR=some cw) [b9 cw]:Trim b g h [(e6,dW),(s1,aS),(s2,x2),(eE,a8),(da,bk),(b3,bV),(cK,bA),(gh,bn),(ei,bL),(oR,cw)]:=(.n aK (.n h1 (.n af (.n aF (.n bh (.n b7 (.n dp (.n kJ (.n xd (.n B3 .nil))))))))))
theorem abj {b:Bool}{g h:aL}{e6 s1 s2 eE da b3 cK gh ei oR eX:Nat}{dW aS x2 a8 bk bV bA bn bL cw ch:ab}(aK:g e6=some dW) [b9 dW] (h1:g s1=some aS) [b9 aS] (af:g s2=some x2) [b9 x2] (aF:g eE=some a8) [b9 a8] (bh:g da=some bk) [b9 bk] (b7:g b3=some bV) [b9 bV] (dp:g cK=some bA) [b9 bA] (kJ:g gh=some bn) [b9 bn] (xd:g ei=some bL) [b9 bL] (B3:g oR=some cw) [b9 cw] (VK:g eX=some ch) [b9 ch]:Trim b g h [(e6,dW),(s1,aS),(s2,x2),(eE,a8),(da,bk),(b3,bV),(cK,bA),(gh,bn),(ei,bL),(oR,cw),(eX,ch)]:=(.n aK (.n h1 (.n af (.n aF (.n bh (.n b7 (.n dp (.n kJ (.n xd (.n B3 (.n VK .nil)))))))))))
section
variable {P:Program}{N:cP}{ops:Array Oper}{g:aL}{K:aL->Prop}{l:List Oper}{d t:Nat}{ty:TypeId}{pos:String}{after:Array Edge}{v:Value}
theorem kg {G1:List (Nat × ab)}(h:Trim true g (get G1) G1):aE P N ops [] g λg'=>nu g' (get G1):=.fin h
theorem cI (h:g t=some (.lit v)) (hk:aE P N ops l (cT g d (.lit v)) K) (bt:N.ok d=true:=by rfl) (aV:g d=none:=by rfl):aE P N ops (⟨some d,.move (.tmp t),ty,pos,after,none⟩::l) g K:=aj (O.aO (.lit h)) hk bt aV
theorem HO (h:g t=some (.lit v)) (hk:aE P N ops l (cT g d (.lit v)) K) (bt:N.ok d=true:=by rfl) (aV:g d=none:=by rfl):aE P N ops (⟨some d,.assign (.tmp t),ty,pos,after,none⟩::l) g K:=aj (O.az (.lit h)) hk bt aV
theorem Sy (h:ofConst v=.lit v) (hk:aE P N ops l (cT g d (.lit v)) K) (bt:N.ok d=true:=by rfl) (aV:g d=none:=by rfl):aE P N ops (⟨some d,.assign (.const v),ty,pos,after,none⟩::l) g K:=aj (O.az (.k h)) hk bt aV
end
section
variable {α:Type}{g:aL}
end
section
variable {α:Type}{P:Program}{N:cP}{g:aL}{d r:Nat}
theorem k1.lq {o:Oper}{xs:List Operand}{fP:Array TypeId}{f:FuncId}{ys:List ab}{res:ab}{en:bO α}{L:List α}{G2:List (Nat × ab)}(aW:o.op=.call { callee:=.value (.func f),args:=xs.toArray,argTypes:=fP }) (aR:o.dst=some d) (J:Own.hh g xs=some (.a7 en.z ⟨r,[]⟩ L.length::ys))
  (ax:g r=some (aC en L)) (hf:bP P f (aC en L::ys) (none::ys.map λ_=>none) res) (aV:hA P f=true) [hr:b9 res] [aB:dm ys]
  (df:Trim false (ct g ⟨r,[]⟩ .dead) (get G2) G2) (aQ:get G2 d=none) (bt:N.ok d=true) :
  k1 P N g o d (get ((d,res)::G2)):=by
 have oF:∀ x∈bC en L,cE x:=by
  intro x J;obtain ⟨a,_,aJ⟩:=List.mem_flatMap.1 J;exact en.bq a x aJ
 have fO:(bC en L).take (L.length * en.z)=bC en L:=List.take_of_length_le (by rw [oQ]; exact Nat.le_refl _);have C':iE (ct g ⟨r,[]⟩ .dead) (get G2):=by
  refine ⟨λt x h=>?_,λt x h=>(df.spec t x h).2.1,λt z q n m new h=>(df.spec t _ h).2.2 _ _ _ _ _ rfl⟩;obtain ⟨⟨y,h1,_,aF⟩,_⟩:=df.spec t x h;rw [<- aF rfl]; exact h1
 have Da:iE (get G2) (get G2):=⟨λt x h=>h,λt x h=>(df.spec t x h).2.1,λt z q n m new h=>(df.spec t _ h).2.2 _ _ _ _ _ rfl⟩;have s_:get ((d,res)::G2)=cT (get G2) d res:=by
  funext t;rw [tb]
 rw [s_];refine Bg.ok (first:=[]) (caps:=[]) (ys:=.a7 en.z ⟨r,[]⟩ L.length::ys) (tk:=λ_=>true) (vw:=false) (outs:=none::ys.map λ_=>none) (g1:=ct g ⟨r,[]⟩ .dead) (g2:=get G2) (g4:=get G2) (l:=[]) (ks:=λ_=>0) (xs0:=.a7 en.z ⟨r,[]⟩ L.length::ys) (xs1:=aC en L::ys) (args:=aC en L::ys) (res:=res) aW aR rfl (by simpa using J)
  ⟨aV,by simp,by simp,λk x h=>.inl (by simpa using h),?_,C',λk x y J ao=>by simpa using ao,hf,by simpa using hr.bq,λk x h=>?_,λj p x ag=>by simp at ag,by simp,λi j hi ag _=>by simp at hi,Da⟩ aQ bt yU.refl
 ·have h1:Take (ct g ⟨r,[]⟩ .dead) ((bC en L).take (L.length * en.z)) (bC en L) (ct g ⟨r,[]⟩ .dead):=by rw [fO]; exact .bq oF
  exact .a7 (N:=L.length) (by simp [bH,ax,ab.at]) (Nat.le_refl _) h1 (.bq aB.bq)
 ·cases k with
  | zero=>simp at h
  | succ k =>
   simp only [List.getElem?_cons_succ,List.getElem?_map] at h;cases aJ:ys[k]? <;> rw [aJ] at h <;> cases h
end
class wL (x:ab):Prop where pl:qe x
class ES (cs:List ab):Prop where pl:∀ x∈cs,qe x
instance {v:Value}:wL (.lit v):=⟨.lit⟩
instance {α:Type}{e:bO α}{L:List α}:wL (ak e L):=⟨.bc (dm.bq (cs:=bC e L))⟩
instance {cs:List ab} [h:ES cs]:wL (.agg cs):=⟨.agg h.pl⟩
instance:ES []:=⟨by simp⟩
instance {x:ab}{cs:List ab} [h:wL x] [aI:ES cs]:ES (x::cs):=⟨λy ao=>by
 rcases List.mem_cons.1 ao with rfl | ao
 ·exact h.pl
 ·exact aI.pl y ao⟩
class EP (G:List (Nat × ab)):Prop where bq:∀ t x,get G t=some x->cE x
instance:EP []:=⟨λt x h=>by cases h⟩
instance {s:Nat}{x:ab}{G:List (Nat × ab)} [h:b9 x] [aI:EP G]:EP ((s,x)::G):=⟨λt y ao=>by
 simp only [get] at ao
 split at ao
 ·cases ao; exact h.bq
 ·exact aI.bq t y ao⟩
class EO (acc:Acc):Prop where bq:∀ e∈acc,∀ x,e.2.2=some x->cE x
instance:EO []:=⟨by simp⟩
instance {k d:Nat}{x:ab}{acc:Acc} [h:b9 x] [aI:EO acc]:EO ((k,d,some x)::acc):=⟨λe he y ao=>by
 rcases List.mem_cons.1 he with rfl | he
 ·cases ao; exact h.bq
 ·exact aI.bq e he y ao⟩
theorem Ir {G:List (Nat × ab)}{A:Nat->Bool}{acc:Acc} [h:EP G] [aI:EO acc]:Hx (dq (get G) A acc):=by
 have key:∀ t x,dq (get G) A acc t=some x->cE x:=λt x J=>by
  rcases u7 J with ⟨e,he,_,_,af⟩ | ⟨_,af⟩
  ·exact aI.bq e he x af
  ·exact h.bq t x af
 exact ⟨λt x J=>.bq (key t x J),λt z q n m new J=>by cases key t _ J⟩
end Go.Own
namespace Go.Own
open Go Go.MapKept Go.ChangeMaps
variable [cG]
section
variable {P:Program}{w:World}{I:a'}{T:Array Value}{g g2:aL}{Fs:Nat->a'}
theorem T5 {w:World}{b:Nat}{es hL:Array MapEntry}{c cj:Nat}(h:w.heap[b]?=some (.map es c)) (a:Addr):(setBlock w b (.map hL cj)).cell? a=w.cell? a:=by
 by_cases e:a.block=b
 ·have h1:(setBlock w b (.map hL cj)).heap[a.block]?=some (.map hL cj):=by rw [e]; exact heap_setBlock_same h _
  have af:w.heap[a.block]?=some (.map es c):=by rw [e]; exact h
  unfold World.cell?
  grind
 ·have h1:(setBlock w b (.map hL cj)).heap[a.block]?=w.heap[a.block]?:=heap_setBlock_other h _ e;unfold World.cell?;rw [h1]
theorem RK {w:World}{b:Nat}{es hL:Array MapEntry}{c cj:Nat}(h:w.heap[b]?=some (.map es c)):∀ (p:List Nat) (v:Value),walk (setBlock w b (.map hL cj)) v p=walk w v p
 | [],v=>rfl
 | k::p,v=>by
  have aa:child (setBlock w b (.map hL cj)) v k=child w v k:=by
   unfold child
   split <;> first | rfl | exact T5 h _
  simp only [walk,aa];cases child w v k with
  | none=>rfl
  | some u=>exact RK h p u
theorem abw {w:World}{b:Nat}{es hL:Array MapEntry}{c cj:Nat}(h:w.heap[b]?=some (.map es c)) (T:Array Value) (p:Place):dx (setBlock w b (.map hL cj)) T p=dx w T p:=by
 grind [dx,RK]
theorem aae {w:World}{b:Nat}{es hL:Array MapEntry}{c cj:Nat}(h:w.heap[b]?=some (.map es c)) {T:Array Value}{r:ab}{v:Value}(hr:fk w T r v):fk (setBlock w b (.map hL cj)) T r v:=by
 cases r <;> simp only [fk,abw h] at hr ⊢ <;> exact hr
theorem cB.Za (bg:cB w I T g Fs) {p:Place}{q fB:Array MapEntry->Nat->Prop}{b:Nat}{es hL:Array MapEntry}{c cj:Nat}(aq:bH g p=some (.mp q)) (hv:dx w T p=some (.map (some b))) (hm:w.heap[b]?=some (.map es c)) (a_:fB hL cj)
  (zN:∀ t x,g2 t=some x->ct g p (.mp fB) t=some x) (ss:∀ t x,g2 t=some x->∀ y,g t=some y->jG (gE g2) y) (lA:∀ t z q n m new,g2 t≠some (.bM z q n m new)) (j':g2 p.root≠none) :
  ∃ bW,cB (setBlock w b (.map hL cj)) I T g2 bW/\∀ t c,bW t c->Fs t c:=by
 have px:∀ k,k≠b->(setBlock w b (.map hL cj)).heap[k]?=w.heap[k]?:=λk hk=>heap_setBlock_other hm _ hk;have Et:(setBlock w b (.map hL cj)).heap[b]?=some (.map hL cj):=heap_setBlock_same hm _;have RI:(setBlock w b (.map hL cj)).heap.size=w.heap.size:=by simp [setBlock]
 have XU:∀ r v,fk w T r v->fk (setBlock w b (.map hL cj)) T r v:=λr v h=>aae hm h;generalize vR:setBlock w b (.map hL cj)=w' at *;obtain ⟨dW,ix⟩:∃ dW,g p.root=some dW:=by
  unfold bH at aq;cases J:g p.root with
  | none=>rw [J] at aq; cases aq
  | some x=>exact ⟨x,rfl⟩
 have pN:dW.at p.path=some (.mp q):=by simpa [bH,ix] using aq
 obtain ⟨v0,kx,gr⟩:=bg.rel _ _ ix;have B':=gr.gu (by rintro z q n m new rfl; cases (ab.s8 pN).2);have nB:jG (gE g2) dW:=by
  cases af:g2 p.root with
  | none=>exact absurd af j'
  | some y=>exact ss _ _ af _ ix
 have qt:=B'.wv nB;obtain ⟨h0,cr,hw,ds,c_,_,kz⟩:=R.focus p.path qt pN;have Ki:h0=.map (some b):=by
  simp only [dx,kx,hw,Option.some.injEq] at hv; exact hv
 subst Ki;obtain ⟨dU,aer,c0,e,aW,_,mN⟩:=ds.KB;cases e;have n1:cr b:=(mN b).2 rfl;have td:∀ c,I c->w'.heap[c]?=w.heap[c]?:=λc aa=>px c λe=>bg.bc _ b (c_ b n1) (e ▸ aa);have FJ:∀ t,t≠p.root->¬ Fs t b:=λt au h=>au (bg.ea _ _ _ h (c_ b n1));have refs:∀ r u,(dy w T g r u/\gE g2 r)->dy w' T g2 r u:=λr u h=>⟨XU r u h.1.1,h.2⟩;obtain ⟨cS,Ca,oC⟩:=kz w' I (dy w' T g2) (.mp fB) cr ⟨td,λc aa aB=>px c λe=>aB (e ▸ n1),λ_ h=>h,refs⟩ (.mp Et a_ mN) (λc h _=>h) λ_ h=>by cases h
 have B4:∀ c,cS c->Fs p.root c:=λc aa=>by
  rcases (oC c).1 aa with h | h
  ·exact h.1
  ·exact c_ c h
 let bW:Nat->a':=λt c=>if t=p.root then cS c else g2 t≠none/\Fs t c
 have pM:∀ t c,bW t c->Fs t c:=by
  intro t c aa;by_cases au:t=p.root
  ·simp only [bW,if_pos au] at aa; rw [au]; exact B4 c aa
  ·simp only [bW,if_neg au] at aa; exact aa.2
 refine ⟨bW,⟨λt x J=>?_,λt au c aa=>?_,λt t' c aa dQ=>bg.ea t t' c (pM t c aa) (pM t' c dQ),λt c aa hi=>bg.bc t c (pM t c aa) hi,λc aa=>by rw [RI]; exact bg.lt c aa,λt t' z q n m new bR cq m' cN h1=>absurd h1 (lA _ _ _ _ _ _),cG.keep bg.hR td λ_ h=>h⟩,pM⟩
 ·have e':=zN t x J;by_cases au:t=p.root
  ·subst au;have C1:dW.setAt p.path (.mp fB)=x:=by simpa [ct,ix] using e'
   refine ⟨v0,kx,.tree ?_⟩;have xf:bW p.root=cS:=by funext c; simp [bW]
   rw [<- C1,xf]; exact Ca
  ·rw [wz au] at e';obtain ⟨u,hu,a1⟩:=bg.rel t x e';replace a1:=a1.gu (by rintro z q n m new rfl; exact lA _ _ _ _ _ _ J);have xf:bW t=Fs t:=by
    funext c;exact propext ⟨λh=>by simp only [bW,if_neg au] at h; exact h.2,λh=>by simp only [bW,if_neg au]; exact ⟨by rw [J]; simp,h⟩⟩
   refine ⟨u,hu,.tree ?_⟩;rw [xf];exact (a1.wv (ss t x J x e')).frame td (λ_ h=>h) refs λc aa=>px c λe=>FJ t au (e ▸ aa)
 ·by_cases hQ:t=p.root
  ·exact j' (hQ ▸ au)
  ·simp only [bW,if_neg hQ] at aa; exact aa.1 au
theorem VC {w:World}{b:Nat}{es hL:Array MapEntry}{c cj:Nat}(h:w.heap[b]?=some (.map es c)) (a:Addr):(setBlock w b (.map hL cj)).frozen? a=w.frozen? a:=by
 unfold World.frozen?
 grind [heap_setBlock_same,heap_setBlock_other]
theorem bl.Zb {N:cP}{o:Oper}{t:TypeId}{m x v:Operand}{p:Place}{q fB:Array MapEntry->Nat->Prop}{Y Z x2:ab}{oN cW:Value}{G2:List (Nat × ab)}(aW:o.op=.mapUpdate t m x v) (aR:o.dst=none) (hm:bw g m=some (.gl p)) (aq:bH g p=some (.mp q)) (J:bw g x=some Y) (ao:bw g v=some Z)
  (c6:∀ (w:World) (I:a') (ρ:ab->Value->Prop) (v:Value),R w I ρ Y v ck->v=oN) (Jo:∀ (w:World) (I:a') (ρ:ab->Value->Prop) (v:Value),R w I ρ Z v ck->v=cW)
  (hr:∀ (w:World) (b:Nat) (es:Array MapEntry) (c:Nat),w.heap[b]?=some (.map es c)->q es c->∃ hL cj,(Instr.mapUpdate t (.map (some b)) oN cW).run P w=.ok () (setBlock w b (.map hL cj))/\fB hL cj)
  (gL:ct g p (.mp fB) p.root=some x2) (j':(get G2 p.root).isSome=true) {y0:ab}(rC:g p.root=some y0) [eL:b9 y0] (df:k5 g (get G2) p.root x2 G2):bl P N g o (get G2):=by
 refine .LJ λw I T Fs h a aJ bt K Q zF=>?_;obtain ⟨⟨b,ar,hv⟩,_⟩:=(ke h hm aJ).Ps;obtain ⟨dK,cr,ih,ds,c_⟩:=h.part aq (by simp);have jw:=ar;rw [ar] at ih;cases ih;obtain ⟨dU,es,c,e,bQ,a_,mN⟩:=ds.KB;cases e;obtain ⟨hL,cj,hp,zW⟩:=hr w dU es c bQ a_;have XX:(execOp a.eval o).run P w=.ok .skip (setBlock w dU (.map hL cj)):=by
  simp [execOp,aW,hv,c6 _ _ _ _ (ke h J aJ),Jo _ _ _ _ (ke h ao aJ),hp]
 have c1:∀ t x,get G2 t=some x->ct g p (.mp fB) t=some x:=λt x J=>by
  rcases df.spec t x J with ⟨h1,af,_⟩ | ⟨h1,af,_⟩
  ·rw [wz h1]; exact af
  ·subst h1 af; exact gL
 have c2:∀ t x,get G2 t=some x->∀ y,g t=some y->jG (gE (get G2)) y:=λt x J y ao=>by
  rcases df.spec t x J with ⟨h1,af,aF⟩ | ⟨h1,af,aF⟩
  ·rw [af] at ao; cases ao;rcases aF with aF | ⟨aF,_⟩
   ·cases aF with
    | n h=>exact .bq h
    | p _ _ bh fz=>exact .ref rfl (uX bh fz)
    | r _ _ bh rn=>exact .ref rfl (A2 bh rn)
   ·exact jG.ref (by cases aF; rfl) aF.Gq
  ·subst h1; rw [rC] at ao; cases ao; exact .bq eL.bq
 have kG:∀ t z q n m new,get G2 t≠some (.bM z q n m new):=λt z q n m new J=>by
  rcases df.spec t _ J with ⟨_,_,aF | ⟨aF,_⟩⟩ | ⟨_,_,aF⟩
  ·exact aF.fE _ _ _ _ _ rfl
  ·exact aF.fE _ _ _ _ _ rfl
  ·cases aF
 obtain ⟨bW,dZ,hD⟩:=h.Za (g2:=get G2) aq jw bQ zW c1 c2 kG (by intro e; rw [e] at j'; cases j');unfold Oper.wp Oper.upon;simp only [XX];refine zF _ _ ⟨by rw [aR]; rfl,by rw [aR]; exact ib.refl,I,bW,by rw [aR]; simpa [Act.put,aJ] using dZ,⟨⟨rfl,rfl,rfl,by simp [setBlock],λk _ hk=>heap_setBlock_other bQ _ λe=>hk ⟨_,e ▸ c_ dU ((mN dU).2 rfl)⟩,λa _ _=>VC bQ a,Nat.le_refl _⟩,λ_ h=>h,λ_ h=>.inl h,λc ⟨t,aa⟩=>.inl ⟨t,hD t c aa⟩⟩⟩ λt _=>by rw [aR]; rfl
end
end Go.Own
namespace Go.Own
open Go Go.MapKept Go.ChangeMaps Go.WideElems
variable [cG]
open Go.Maps (Keyed)
variable {kC ma:Type}{P:Program}{k e:TypeId}
abbrev zg:Value->Option (DataW Value × List MemPlace):=λv=>some (.held v,[])
def pq [DecidableEq kC]:List (kC × ma)->kC->Option ma
 | [],_=>none
 | p::m,x=>if p.1=x then some p.2 else pq m x
def uK [DecidableEq kC] (ok:kC->Bool) (z:ma) (m:List (kC × ma)) (x:kC):Option ma:=if ok x then some ((pq m x).getD z) else none
def Ah (ok:kC->Bool) (m:List (kC × ma)) (x:kC) (y:ma):Option (List (kC × ma)):=if ok x&&decide (m.length<=lim) then some ((x,y)::m) else none
structure Bm (P:Program) (k:TypeId) (kC:Type) where
 oN:kC->Value
 xX:kC->Lit
 F5:kC->ab
 ok:kC->Bool
 keyed:Keyed P k
 key:∀ x,ok x=true->keyOf P k (oN x)=some (xX x)
 inj:∀ x y,xX x=xX y->x=y
 zo:∀ (x:kC) (w:World) (I:a') (ρ:ab->Value->Prop) (v:Value),R w I ρ (F5 x) v ck->v=oN x
structure Bn (P:Program) (e:TypeId) (ma:Type) where
 pw:ma->Value
 Eo:ma->ab
 z:ma
 zero:∀ w,(zeroValue e).run P w=.ok (pw z) w
 one:∀ x,(pw x).oneCell'=true
 zo:∀ (x:ma) (w:World) (I:a') (ρ:ab->Value->Prop) (v:Value),R w I ρ (Eo x) v ck->v=pw x
 nM:∀ (x:ma) (w:World) (I:a') (ρ:ab->Value->Prop),R w I ρ (Eo x) (pw x) ck
def yH (P:Program) (k:TypeId) (es:Array MapEntry):List (Lit × DataW Value):=(es.toList.map (rg P k zg)).foldr DataW.insert []
def mH [DecidableEq kC] (K:Bm P k kC) (V:Bn P e ma) (m:List (kC × ma)):Array MapEntry->Nat->Prop:=λes c=>Fit P k zg es c/\es.size<=m.length/\∀ x Hp,(DataW.map (yH P k es)).atKey (K.xX x) Hp=match pq m x with | some y=>.held (V.pw y) | none=>Hp
variable [DecidableEq kC] {K:Bm P k kC}{V:Bn P e ma}{m m':List (kC × ma)}{x:kC}{y:ma}{t:TypeId}
theorem mH.nil:mH K V [] #[] 0:=⟨⟨by simp,stamped_empty 0,by simp⟩,Nat.le_refl _,λx Hp=>rfl⟩
theorem mH.look (ok:Bool) (c7:K.ok x=true) (au:P.underlying t=some (.map k e)) (w:World) (b:Nat) (es:Array MapEntry) (c:Nat) (ar:w.heap[b]?=some (.map es c)) (h:mH K V m es c) :
  (Instr.lookup t (.map (some b)) (K.oN x) ok).run P w=.ok (if ok then .tuple #[V.pw ((pq m x).getD V.z),.bool (pq m x).isSome] else V.pw ((pq m x).getD V.z)) w:=by
 obtain ⟨F,_,fD⟩:=h;have fD:=fD x;rcases Maps.fit_look ok K.keyed au (V.zero w) ar F (K.key x c7) with ⟨hp,_,af⟩ | ⟨ga,y,_,_,hp,ao,af,_⟩
 ·have:pq m x=none:=by
   cases aQ:pq m x with
   | none=>rfl
   | some y =>
    have h1:=fD .nil;rw [aQ] at h1;have aF:=af .nil;unfold yH at h1;rw [h1] at aF; cases aF
  rw [hp,this]; rfl
 ·cases ao;cases aQ:pq m x with
  | none =>
   have h1:=fD .nil;rw [aQ] at h1;have aF:=af .nil;unfold yH at h1;rw [h1] at aF; cases aF
  | some y =>
   have h1:=fD .nil;rw [aQ] at h1;have aF:=af .nil;unfold yH at h1;rw [h1] at aF;have bh:ga.val=V.pw y:=by simpa using aF.symm
   rw [hp,bh]; rfl
theorem mH.put (aK:Ah K.ok m x y=some m') (au:P.underlying t=some (.map k e)) (w:World) (b:Nat) (es:Array MapEntry) (c:Nat) (ar:w.heap[b]?=some (.map es c)) (h:mH K V m es c) :
  ∃ hL cj,(Instr.mapUpdate t (.map (some b)) (K.oN x) (V.pw y)).run P w=.ok () (setBlock w b (.map hL cj))/\mH K V m' hL cj:=by
 unfold Ah at aK
 split at aK
 ·rename_i aa;cases aK;simp only [Bool.and_eq_true,decide_eq_true_eq] at aa;obtain ⟨c7,ah⟩:=aa;obtain ⟨F,ax,fD⟩:=h;have OJ:=K.key x c7;obtain ⟨hL,cj,hp,cS,oG,_⟩:=Maps.fit_store (R':=zg) K.keyed au ar F (by have:maxLen=9223372036854775807:=rfl; simp only [lim] at ah; omega) (λ_ _ _ _ aX=>aX) OJ (rfl:zg (V.pw y)=some (.held (V.pw y),[]));refine ⟨hL,cj,hp,cS,?_,λx' Hp=>?_⟩
  ·have ca:hL.size=((hL.toList.map (rg P k zg)).foldr DataW.insert []).length:=by rw [length_sorted]; simp
   rw [ca,oG];unfold putKey;rw [length_insert];have b6:=List.length_filter_le (notKey (K.xX x)) ((es.toList.map (rg P k zg)).foldr DataW.insert []);rw [length_sorted] at b6;simp at b6 ⊢;omega
  ·have eI:(DataW.map (yH P k hL))=(DataW.map (yH P k es)).put (K.xX x) (.held (V.pw y)):=by
    rw [DataW.put_eq]; unfold yH; rw [oG]
   rw [eI];by_cases J:x=x'
   ·subst J;rw [Maps.atKey_put_same ⟨_,rfl⟩ (K.keyed.key OJ)];simp [pq]
   ·rw [Maps.atKey_put_other (λe=>J (K.inj _ _ e).symm),fD];simp [pq,J]
 ·cases aK
section
variable {N:cP}{g:aL}{a b c:Operand}{p:Place}{ty:TypeId}
instance {q:Array MapEntry->Nat->Prop}:b9 (.mp q):=⟨.mp⟩
theorem O.Y' (K:Bm P k kC) (V:Bn P e ma):bT P g (.makeMap t none) ty (.mp (mH K V [])):=.rK (.makeMap mH.nil)
theorem O.rG {r:ma}{X Y:ab}(hm:Rd g a (.gl p)) (aq:bH g p=some (.mp (mH K V m))) (J:Rd g b Y) (Cd:K.F5 x=Y) (au:P.underlying t=some (.map k e)) (h:uK K.ok V.z m x=some r) (eU:V.Eo r=X):bT P g (.lookup t a b false) ty X:=by
 subst eU Cd;unfold uK at h
 split at h
 ·rename_i c7;cases h;exact .ew (.F' hm.bw aq J.bw (K.zo x) (V.nM _) λw b es c ar a_=>mH.look false c7 au w b es c ar a_)
 ·cases h
theorem bl.mt {o:Oper}{x2 y0 Y Z:ab}{G2:List (Nat × ab)}(aW:o.op=.mapUpdate t a b c) (aR:o.dst=none) (hm:Rd g a (.gl p)) (aq:bH g p=some (.mp (mH K V m))) (J:Rd g b Y) (Cd:K.F5 x=Y) (ao:Rd g c Z) (Jo:V.Eo y=Z) (au:P.underlying t=some (.map k e)) (h:Ah K.ok m x y=some m')
  (gL:ct g p (.mp (mH K V m')) p.root=some x2) (j':(get G2 p.root).isSome=true) (rC:g p.root=some y0) [eL:b9 y0] (df:k5 g (get G2) p.root x2 G2):bl P N g o (get G2):=by
 subst Cd Jo;exact .Zb aW aR hm.bw aq J.bw ao.bw (K.zo x) (V.zo y) (λw b es c ar a_=>mH.put h au w b es c ar a_) gL j' rC df
end
def sE (n:Int):Bool:=decide (-9223372036854775808<=n/\n<9223372036854775808)
def Sp (hk:P.underlying k=some (.int .i64)):Bm P k Int where
 oN n:=.int .i64 n
 xX n:=.int .i64 n
 F5 n:=ae n
 ok:=sE
 keyed:=Maps.int_keyed hk
 key n h:=Maps.keyOf_int_mk hk (by
  unfold sE at h;have:=of_decide_eq_true h;unfold Lit.wf;rw [Bool.and_eq_true];refine ⟨decide_eq_true ?_,decide_eq_true ?_⟩
  ·show (-9223372036854775808:Int)<=n; omega
  ·show n<=(9223372036854775807:Int); omega)
 inj x y h:=by cases h; rfl
 zo x w I ρ v h:=h.hE.1
def Sq (aX:(P.info? e).bind (·.zero)=some (.int .i64 0)):Bn P e Int where
 pw n:=.int .i64 n
 Eo n:=ae n
 z:=0
 zero w:=BB aX w
 one _:=rfl
 zo x w I ρ v h:=h.hE.1
 nM x w I ρ:=.lit rfl λ_ h=>h
end Go.Own
namespace Go.Own
open Go
variable [cG]
section
variable {α:Type}{P:Program}{N:cP}{g:aL}{d r:Nat}{ty t t2 e:TypeId}{a b:Operand}{k kd:IntKind}{m n:Int}{p:Place}
def l4 (L:List α) (m:Int):Option Unit:=if 0<=m/\m<=L.length then some () else none
theorem xQ {L:List α}{u:Unit}(h:l4 L m=some u):m.toNat<=L.length:=by
 grind [l4]
theorem O.LN {en:bO α}{L:List α}{u:Unit}(J:Rd g a (.a7 en.z p L.length)) (ah:Rd g b (.lit (.int k m))) (aq:bH g p=some (aC en L)) (au:fo P t e en.z=true) (h:l4 L m=some u):bT P g (.slice t a (some b) none none) ty (.sub en.z p m.toNat (L.length - m.toNat)):=by
 unfold l4 at h
 split at h
 ·rename_i aa;obtain ⟨i,rfl⟩:=Int.eq_ofNat_of_zero_le aa.1;exact .ew (.G9 J.bw ⟨_,ah.bw⟩ rfl au (by omega) (Nat.le_refl _) ⟨_,_,aq,by omega⟩)
 ·cases h
theorem O.Eh {en:bO α}{L:List α}{u:Unit}(J:Rd g a (.a7 en.z p L.length)) (bQ:Rd g b (.lit (.int k m))) (aq:bH g p=some (aC en L)) (au:fo P t e en.z=true) (h:l4 L m=some u):bT P g (.slice t a none (some b) none) ty (.a7 en.z p m.toNat):=by
 unfold l4 at h
 split at h
 ·rename_i aa;obtain ⟨i,rfl⟩:=Int.eq_ofNat_of_zero_le aa.1;exact .ew (.G_ J.bw rfl ⟨_,bQ.bw⟩ au (by omega) (.inl ⟨_,_,aq,by omega⟩))
 ·cases h
end
def GQ (dT:List Nat) (o:Oper):Oper:=⟨o.dst,o.op,o.type,o.pos,o.after.map λe=>⟨dT.idxOf e.on,e.ground⟩,o.guard.map λp=>(dT.idxOf p.1,p.2)⟩
def lH (dT:List Nat) (l:List Oper):List Oper:=dT.map λk=>GQ dT (l.getD k default)
def Lj (dT:List Nat) (n:Nat):Bool:=Nat.beq dT.length n&&(List.range n).all λk=>dT.contains k&&Nat.blt (dT.getD k n) n&&Nat.beq (dT.idxOf (dT.getD k n)) k
structure Perm (dT:List Nat) (n:Nat):Prop where
 len:dT.length=n
 mem:∀ k,k<n->dT.idxOf k<n/\dT.getD (dT.idxOf k) n=k
 lt:∀ j,j<n->dT.getD j n<n/\dT.idxOf (dT.getD j n)=j
theorem ZM {dT:List Nat}{n:Nat}(h:Lj dT n=true):Perm dT n:=by
 unfold Lj at h;simp only [Bool.and_eq_true,Nat.beq_eq,List.all_eq_true,List.mem_range,Nat.blt_eq] at h;obtain ⟨ah,hn⟩:=h;refine ⟨ah,λk hk=>?_,λj ag=>⟨(hn j ag).1.2,(hn j ag).2⟩⟩
 grind
section
variable {P:Program}{Q:Exit->Act->World->Prop}{dT:List Nat}{l:List Oper}
theorem Lk (kb:Perm dT l.length) {j:Nat}(ag:j<l.length):(lH dT l).toArray[j]?=some (GQ dT (l.getD (dT.getD j l.length) default))/\l.toArray[dT.getD j l.length]?=some (l.getD (dT.getD j l.length) default):=by
 have h1:j<dT.length:=by rw [kb.len]; exact ag
 have af:=(kb.lt j ag).1
 grind [lH]
theorem Qv (kb:Perm dT l.length) {A B:Array Bool}(dC:A.size=l.length) (eY:B.size=l.length) (tc:∀ j,j<l.length->B.getD j true=A.getD (dT.getD j l.length) true) {j:Nat}(ag:j<l.length) :
  dT.getD j l.length∈Region.ready .any l.toArray A↔j∈Region.ready .any (lH dT l).toArray B:=by
 obtain ⟨h1,af⟩:=Lk kb ag;have afE:∀ {C:Array Bool}{k:Nat},k<C.size->C.getD k false=C.getD k true:=λ{C k} h=>by simp [Array.getD,h]
 have gone:∀ {C:Array Bool}{k:Nat},¬ k<C.size->C.getD k false=false:=λ{C k} h=>by simp [Array.getD,h]
 have Nw:∀ m,A.getD m false=true↔B.getD (dT.idxOf m) false=true:=λm=>by
  by_cases hm:m<l.length
  ·obtain ⟨aF,bh⟩:=kb.mem m hm
   grind
  ·have b7:¬ dT.idxOf m<l.length:=λh=>by
    have dp:=List.idxOf_lt_length_iff.1 (by rw [kb.len]; exact h);obtain ⟨i,hi,e⟩:=List.mem_iff_getElem.1 dp;have:=(kb.lt i (by rw [<- kb.len]; exact hi)).1
    grind
   grind
 rw [mem_ready,mem_ready,tc j ag];constructor
 ·rintro ⟨a,o,aW,h⟩;rw [af] at aW;cases aW;refine ⟨a,_,h1,λe he ar=>?_⟩;obtain ⟨ga,Xj,rfl⟩:=Array.mem_map.1 he;exact (Nw _).1 (h ga Xj ar)
 ·rintro ⟨a,o,aW,h⟩;rw [h1] at aW;cases aW;refine ⟨a,_,af,λe he ar=>?_⟩;exact (Nw _).2 (h ⟨dT.idxOf e.on,e.ground⟩ (Array.mem_map.2 ⟨e,he,rfl⟩) ar)
theorem ZO (kb:Perm dT l.length) (o:Oper) (T:Array Value):Region.wanted (GQ dT o) (yielded (lH dT l).toArray T)=Region.wanted o (yielded l.toArray T):=by
 unfold Region.wanted GQ;cases aQ:o.guard with
 | none=>rfl
 | some p =>
  obtain ⟨m,b⟩:=p;simp only [Option.map_some];have:yielded (lH dT l).toArray T (dT.idxOf m)=yielded l.toArray T m:=by
   unfold yielded;by_cases hm:m<l.length
   ·obtain ⟨aF,bh⟩:=kb.mem m hm;obtain ⟨h1,af⟩:=Lk kb aF;rw [bh] at h1 af;rw [h1,af];rfl
   ·have b7:¬ dT.idxOf m<l.length:=λh=>by
     have dp:=List.idxOf_lt_length_iff.1 (by rw [kb.len]; exact h);obtain ⟨i,hi,e⟩:=List.mem_iff_getElem.1 dp;have:=(kb.lt i (by rw [<- kb.len]; exact hi)).1
     grind
    have ca:(lH dT l).toArray[dT.idxOf m]?=none:=by
     rw [List.getElem?_toArray];exact List.getElem?_eq_none (by simp [lH,kb.len]; omega)
    grind
  rw [this]
theorem ZN (kb:Perm dT l.length):∀ (fuel:Nat) (A B:Array Bool) (a:Act) (w:World),A.size=l.length->B.size=l.length->(∀ j,j<l.length->B.getD j true=A.getD (dT.getD j l.length) true) ->
  wpAny P .any (lH dT l).toArray Q fuel B a w->wpAny P .any l.toArray Q fuel A a w:=by
 have lift:∀ {A B:Array Bool},A.size=l.length->B.size=l.length->(∀ j,j<l.length->B.getD j true=A.getD (dT.getD j l.length) true)->∀ k,k∈Region.ready .any l.toArray A->∃ j,j<l.length/\dT.getD j l.length=k/\j∈Region.ready .any (lH dT l).toArray B:=λ{A B} dC eY tc k hk=>by
  have du:k<l.length:=by
   grind [mem_ready]
  obtain ⟨aF,bh⟩:=kb.mem k du
  grind [Qv]
 have nil:∀ {A B:Array Bool},A.size=l.length->B.size=l.length->(∀ j,j<l.length->B.getD j true=A.getD (dT.getD j l.length) true)->Region.ready .any l.toArray A=[]->Region.ready .any (lH dT l).toArray B=[]:=λ{A B} dC eY tc h=>by
  cases hr:Region.ready .any (lH dT l).toArray B with
  | nil=>rfl
  | cons j r =>
   have ag:j∈Region.ready .any (lH dT l).toArray B:=by rw [hr]; simp
   have ez:j<l.length:=by
    grind [mem_ready]
   have:=(Qv kb dC eY tc ez).2 ag
   grind
 intro fuel
 induction fuel with
 | zero =>
  intro A B a w dC eY tc h;refine ⟨?_,h.2⟩;cases hr:Region.ready .any l.toArray A with
  | nil=>rfl
  | cons k r =>
   obtain ⟨j,_,_,ag⟩:=lift dC eY tc k (by rw [hr]; simp);rw [h.1] at ag;cases ag
 | succ fuel aM =>
  intro A B a w dC eY tc h;refine ⟨λhr=>h.1 (nil dC eY tc hr),λk hk=>?_⟩;obtain ⟨j,ez,rfl,ag⟩:=lift dC eY tc k hk;have ax:=h.2 j ag;obtain ⟨h1,af⟩:=Lk kb ez;have V3:∀ i,i<l.length->(B.setIfInBounds j true).getD i true=(A.setIfInBounds (dT.getD j l.length) true).getD (dT.getD i l.length) true:=λi hi=>by
   have aN:=(kb.lt j ez).1;have JV:=(kb.lt i hi).1;have e:∀ (C:Array Bool) (p q:Nat),p<C.size->q<C.size->(C.setIfInBounds p true).getD q true=if q=p then true else C.getD q true:=λC p q aq a_=>by
    by_cases h:q=p
    ·simp_all
    ·rw [if_neg h];simp [Array.getD,a_,Array.getElem_setIfInBounds_ne,Ne.symm h]
   rw [e B j i (by omega) (by omega),e A _ _ (by omega) (by omega),tc i hi];by_cases h:i=j
   ·grind
   ·rw [if_neg h,if_neg];intro aI;have:=(kb.lt i hi).2;rw [aI,(kb.lt j ez).2] at this
    grind
  have mono:∀ a w,wpAny P .any (lH dT l).toArray Q fuel (B.setIfInBounds j true) a w->wpAny P .any l.toArray Q fuel (A.setIfInBounds (dT.getD j l.length) true) a w:=λa w aI=>aM _ _ a w (by simpa using dC) (by simpa using eY) V3 aI;unfold wpOp at ax ⊢;rw [af];rw [h1] at ax;simp only [ZO kb] at ax;show if Region.wanted (l.getD (dT.getD j l.length) default) (yielded l.toArray a.tmps)=true then _ else _
  split
  ·rename_i hw;rw [if_pos hw] at ax;exact ax.imp (λaI=>Oper.wp_mono mono aI) id
  ·rename_i hw;rw [if_neg hw] at ax;exact mono _ _ ax
end
section
variable {P:Program}{N:cP}
theorem W.aaa {id:Nat}{l:List Oper}{G:List (Nat × ab)}{Φ:Exit->aL->Prop}(dT:List Nat) (bj:List (List Nat)) (G1:List (Nat × ab)) (hm:P.follows .mixedOrders=true) (dC:qk (lH dT l).toArray bj=true) (kb:Lj dT l.length=true)
  (h:bB P N (lH dT l).toArray bj (get G) 0 [] (lH dT l) λg'=>nu g' (get G1)) (hk:ay .normal Φ G1):W P N (.region id l.toArray true) (get G) Φ:=by
 have aq:=ZM kb;obtain ⟨g',h1,af⟩:=h [] 0 .nil .nil (by simp);have fA:(lH dT l).toArray.size=l.length:=by simp [lH,aq.len]
 refine lK.w (g':=g') (e:=.normal) ?_ (hk g' (.e7 af .hZ));intro Q a w I Fs bg bt eu;refine wp_region_any hm ?_;have dZ:cB w.drew I a.tmps (get G) Fs:=bg.world (λ_ _ _=>rfl) (λ_ _=>rfl) (Nat.le_refl _);have hn:∀ k,ek (Array.replicate (lH dT l).toArray.size false) k=false:=by
  intro k;unfold ek;rcases Nat.lt_or_ge k (lH dT l).toArray.size with h | h
  ·simp_all
  grind
 refine ZN aq _ _ (Array.replicate l.length false) a w.drew (by simp) (by simp) (λj ag=>?_) ?_
 ·have:=(aq.lt j ag).1
  simp_all
 have B3:=h1.sound dC .nil (lH dT l).toArray.size (Array.replicate (lH dT l).toArray.size false) a w.drew I Fs ?_ (by simp) (λk hk=>by omega) (λk _=>hn k) (λk hk=>by rw [hn] at hk; cases hk) dZ bt (λcd w' aB=>eu _ _ ?_)
 ·grind
 ·grind [vm]
 ·obtain ⟨ca,b6,I',bW,iw,bU⟩:=aB;exact ⟨ca,b6,I',bW,iw,⟨⟨bU.dN.os,bU.dN.tape,bU.dN.output,bU.dN.size,bU.dN.block,bU.dN.dP,Nat.le_trans (Nat.le_succ _) bU.dN.zB⟩,bU.more,bU.new,bU.own⟩⟩
end
section
variable {α:Type}{P:Program}{N:cP}{g:aL}{a b:Operand}{t:TypeId}{m i:Int}
end
section
variable {P:Program}{N:cP}{ops:Array Oper}{bj:List (List Nat)}{g g0:aL}{K:aL->Prop}{l:List Oper}{acc:Acc}{d i j t':Nat}{op:Op}{ty:TypeId}{pos:String}{after:Array Edge}{x:ab}{b c:Bool}
theorem e8 (ar:c=!b) (hk:aE P N ops l (cT g d (.bS [])) K) (h:(ops[j]?).bind (·.dst)=some t':=by rfl) (aQ:g t'=some (.lit (.bool c)):=by rfl) (bt:N.ok d=true:=by rfl) (aV:g d=none:=by rfl):aE P N ops (⟨some d,op,ty,pos,after,some (j,b)⟩::l) g K:=.ps h aQ ar bt aV hk
theorem ET (hk:aE P N ops l (cT g d (.bS [])) K) (h:(ops[j]?).bind (·.dst)=some t':=by rfl) (aQ:g t'=some (.bS []):=by rfl) (bt:N.ok d=true:=by rfl) (aV:g d=none:=by rfl):aE P N ops (⟨some d,op,ty,pos,after,some (j,b)⟩::l) g K:=.pu h aQ bt aV hk
theorem bp (ar:c=b) (aq:bT P g op ty x) (hk:aE P N ops l (cT g d x) K) (h:(ops[j]?).bind (·.dst)=some t':=by rfl) (aQ:g t'=some (.lit (.bool c)):=by rfl) (bt:N.ok d=true:=by rfl) (aV:g d=none:=by rfl):aE P N ops (⟨some d,op,ty,pos,after,some (j,b)⟩::l) g K:=.v aq bt aV (.kX h aQ ar) hk
theorem Ss (hk:aE P N ops l (cT g d (.bS [])) K) (h:(ops[j]?).bind (·.dst)=some t':=by rfl) (aQ:g t'=some (.lit (.bool c)):=by rfl) (ar:c=!b:=by assumption) (bt:N.ok d=true:=by rfl) (aV:g d=none:=by rfl):aE P N ops (⟨some d,op,ty,pos,after,some (j,b)⟩::l) g K:=.ps h aQ ar bt aV hk
theorem eR (aq:bT P g op ty x) (hk:aE P N ops l (cT g d x) K) (h:(ops[j]?).bind (·.dst)=some t':=by rfl) (aQ:g t'=some (.lit (.bool c)):=by rfl) (ar:c=b:=by assumption) (bt:N.ok d=true:=by rfl) (aV:g d=none:=by rfl):aE P N ops (⟨some d,op,ty,pos,after,some (j,b)⟩::l) g K:=.v aq bt aV (.kX h aQ ar) hk
theorem b8 (bX:Nat) (ar:c=!b) (hk:bB P N ops bj g0 i ((bX,d,some (.bS []))::acc) l K) (h:(ops[j]?).bind (·.dst)=some t':=by rfl) (aQ:kS bj g0 bX acc t'=some (bd c):=by rfl) (ag:Nat.beq ops.size (bX+l.length+1)=true:=by rfl) (aV:g0 d=none:=by rfl) (aB:acc.all (λe=>!Nat.beq e.2.1 d)=true:=by rfl) (bt:N.ok d=true:=by rfl):bB P N ops bj g0 i acc (⟨some d,op,ty,pos,after,some (j,b)⟩::l) K:=.ps bX h aQ ar ag aV aB bt hk
theorem fH (bX:Nat) (ar:c=b) (aq:bT P (kS bj g0 bX acc) op ty x) (hk:bB P N ops bj g0 i ((bX,d,some x)::acc) l K) (h:(ops[j]?).bind (·.dst)=some t':=by rfl) (aQ:kS bj g0 bX acc t'=some (.lit (.bool c)):=by rfl) (ag:Nat.beq ops.size (bX+l.length+1)=true:=by rfl) (aV:g0 d=none:=by rfl) (aB:acc.all (λe=>!Nat.beq e.2.1 d)=true:=by rfl) (bt:N.ok d=true:=by rfl):bB P N ops bj g0 i acc (⟨some d,op,ty,pos,after,some (j,b)⟩::l) K:=.v bX aq ag aV aB bt (.kX h aQ ar) hk
end
section
variable {P:Program}{N:cP}{ops:Array Oper}{g:aL}{K:aL->Prop}{l:List Oper}{A B:Code}{G G1:List (Nat × ab)}{Φ:Exit->aL->Prop}{t id:Nat}{b:Bool}{α:Type}{X Y o:α}
theorem W.bZ (h:(bif b then X else Y)=o) (aa:get G t=some (bd b)) (cV:b=true->X=o->W P N A (get G) Φ) (aH:b=false->Y=o->W P N B (get G) Φ):W P N (.cond (.tmp t) A B) (get G) Φ:=W.eg aa (λe=>cV e (Ub e h)) (λe=>aH e (Ua e h))
def pick (g:aL):List Nat->Option (List (Nat × ab))
 | []=>some []
 | k::ks=>match g k with
  | some x=>match pick g ks with
   | some l=>some ((k,x)::l)
   | none=>none
  | none=>none
class j4 (l:List (Nat × ab)):Prop where p:∀ e∈l,cE e.2
instance:j4 []:=⟨λ_ h=>by cases h⟩
instance {k:Nat}{x:ab}{l:List (Nat × ab)} [h:b9 x] [ah:j4 l]:j4 ((k,x)::l):=⟨λe he=>by
 rcases List.mem_cons.1 he with rfl | he
 ·exact h.bq
 ·exact ah.p e he⟩
theorem wo {c:Bool}{g g2:aL}:∀ {ks:List Nat}{G1:List (Nat × ab)},pick g ks=some G1->(∀ e∈G1,cE e.2)->Trim c g g2 G1
 | [],_,h,_=>by cases h; exact .nil
 | k::ks,G1,h,aB=>by
  unfold pick at h
  split at h
  ·rename_i x J
   split at h
   ·rename_i l ah;cases h;have:b9 x:=⟨aB (k,x) (by simp)⟩;exact .n J (wo ah λe he=>aB e (by simp [he]))
   ·cases h
  ·cases h
structure y_ (ks:List Nat) (G1:List (Nat × ab)) (g':aL):Prop where p:nu g' (get G1)
theorem bG {ks:List Nat}(h:pick g ks=some G1) [aB:j4 G1]:aE P N ops [] g (y_ ks G1):=.nil ⟨(wo (c:=true) (g2:=get G1) h aB.p).e7⟩
theorem PH {l:List Oper}{ks:List Nat}(h:aE P N l.toArray l g (y_ ks G1)):aE P N l.toArray l g λg'=>nu g' (get G1):=λi hi=>by
 obtain ⟨g',h1,af⟩:=h i hi;exact ⟨g',h1,af.p⟩
theorem aE.b0 (ks:List Nat) (h:pick g ks=some G1) [aB:j4 G1] (hk:aE P N ops l (get G1) K):aE P N ops l g K:=.GM (wo h aB.p) hk
theorem W.b0 {l:List Oper}(ks:List Nat) (h:aE P N l.toArray l (get G) (y_ ks G1)) (hk:ay .normal Φ G1):W P N (.region id l.toArray false) (get G) Φ:=W.rx G1 (PH h) hk
theorem W.rs {l:List Oper}(G1:List (Nat × ab)) (h:aE P N l.toArray l (get G) λg'=>nu g' (get G1)) (hk:W P N B (get G1) Φ):W P N (.seq (.region id l.toArray false) B) (get G) Φ:=W.bJ (W.rx G1 h (ay.bF hk))
theorem W.cm {l:List Oper}(ks:List Nat) (h:aE P N l.toArray l (get G) (y_ ks G1)) (hk:W P N B (get G1) Φ):W P N (.seq (.region id l.toArray false) B) (get G) Φ:=W.rs G1 (PH h) hk
end
class fj (P:Program) (t:TypeId):Prop where p:jK P t=true:=by kernel_rfl
class pA (P:Program) (t:TypeId):Prop where p:sS P t=true:=by kernel_rfl
class eG (P:Program) (t:TypeId) (e:outParam TypeId) (z:outParam Nat):Prop where p:fo P t e z=true:=by kernel_rfl
class cy (P:Program) (s:TypeId) (f:Nat) (off:outParam Nat) (t:outParam TypeId):Prop where p:iu P s f off t=true:=by kernel_rfl
section
variable {P:Program}{N:cP}{ops:Array Oper}{g:aL}{K:aL->Prop}{l:List Oper}{ty t:TypeId}{a:Operand}{k r z n:Nat}{cs jL:List ab}
theorem O.pf {v:Value}(ax:g r=some (.obj cs)) (J:Rd g a (.ptr ⟨r,[]⟩ k)) (au:jK P t=true) (aa:cs[k]?=some (.lit v)):bT P g (.load t a) ty (.lit v):=O.qI ax J au aa rfl
theorem O.Ab (ax:g r=some (.obj cs)) (J:Rd g a (.ptr ⟨r,[]⟩ k)) (au:jK P t=true) (aa:cs[k]?=some (.bc z n jL)):bT P g (.load t a) ty (.bc z n jL):=O.qI ax J au aa rfl
theorem O.Ac (ax:g r=some (.obj cs)) (J:Rd g a (.ptr ⟨r,[]⟩ k)) (au:jK P t=true) (aa:cs[k]?=some (.own z n jL)):bT P g (.load t a) ty (.a7 z ⟨r,[k]⟩ n):=O.qI ax J au aa rfl
end
section
variable {P:Program}{N:cP}{ops:Array Oper}{g:aL}{K:aL->Prop}{l:List Oper}{t0 d:Nat}{t1 t2 ty:TypeId}{aw a2 a3:Operand}{nI:Nat}{v0:Value}{pos:String}{after:Array Edge}{op:Op}{aes:Nat × Bool}
theorem aE.dg (op:Op) (u:Option (Nat × Bool)) (h:aE P N ops (⟨some d,op,ty,pos,after,u⟩::l) g K):aE P N ops (⟨some d,op,ty,pos,after,u⟩::l) g K:=h
theorem aE.nl (h:aE P N ops [] g K):aE P N ops [] g K:=h
theorem aE.S7 {o:Oper}{ht gg:List Oper}(h:aE P N ops (o::List.append ht gg) g K):aE P N ops (List.append (o::ht) gg) g K:=h
theorem aE.S8 {gg:List Oper}(h:aE P N ops gg g K):aE P N ops (List.append [] gg) g K:=h
theorem aE.bm (h:aE P N ops l g K:=by
(repeat' (first
 | exact kg .nil
 | exact .nil
 | refine .n rfl ?_
 | (first
  | ((with_reducible apply aE.dg (.move (.tmp _)) none); (first | refine cI rfl ?_ | refine aj (O.aO (.bc rfl)) ?_ | refine aj (O.aO (.own rfl)) ?_ | refine aj (O.aO (.obj rfl)) ?_ | refine aj (O.aO (.cx rfl)) ?_ | refine aj (O.aO (.ptr rfl)) ?_ | refine aj (O.aO (.a7 rfl)) ?_))
  | ((with_reducible apply aE.dg (.load _ _) none); (first | refine aj (O.pf rfl (.ptr rfl) fj.p rfl) ?_ | refine aj (O.De (.cx rfl) fj.p rfl) ?_ | refine aj (O.Ab rfl (.ptr rfl) fj.p rfl) ?_ | refine aj (O.pf rfl (.obj rfl) fj.p rfl) ?_ | refine aj (O.Ab rfl (.obj rfl) fj.p rfl) ?_ | refine aj (O.Ac rfl (.ptr rfl) fj.p rfl) ?_ | refine aj (O.Ac rfl (.obj rfl) fj.p rfl) ?_))
  | ((with_reducible apply aE.dg (.fieldAddr _ _ _) none); (first | refine aj (O.nx rfl (.obj rfl) cy.p rfl) ?_ | refine aj (O.BW (.cx rfl) cy.p) ?_ | refine aj (O.nx rfl (.ptr rfl) cy.p rfl) ?_))
  | ((with_reducible apply aE.dg (.assign (.tmp _)) none); (first | refine HO rfl ?_ | refine aj (O.az (.bc rfl)) ?_ | refine aj (O.az (.own rfl)) ?_ | refine aj (O.az (.obj rfl)) ?_ | refine aj (O.az (.cx rfl)) ?_ | refine aj (O.az (.ptr rfl)) ?_ | refine aj (O.az (.a7 rfl)) ?_))
  | ((with_reducible apply aE.dg (.assign (.const _)) none); (first | refine Sy rfl ?_ | refine aj (O.az .xY) ?_))
  | ((with_reducible apply aE.dg (.indexAddr _ _ _) none); (first | refine aj (O.pc (.bc rfl) (.lit rfl) eG.p (by assumption)) ?_ | refine aj (O.pc (.bc rfl) (.k rfl) eG.p (by assumption)) ?_))
  | ((with_reducible apply aE.dg (.binOp .add _ _ _ _) none); (first | refine aj (O.add (.lit rfl) (.k rfl)) ?_ | refine aj (O.add (.lit rfl) (.lit rfl)) ?_ | refine aj (O.add (.k rfl) (.lit rfl)) ?_))
  | ((with_reducible apply aE.dg (.binOp .lss _ _ _ _) none); (first | refine aj (O.lss (.lit rfl) (.k rfl)) ?_ | refine aj (O.lss (.lit rfl) (.lit rfl)) ?_ | refine aj (O.lss (.k rfl) (.lit rfl)) ?_))
  | ((with_reducible apply aE.dg (.binOp .eql _ _ _ _) none); (first | refine aj (O.eql (.lit rfl) (.k rfl)) ?_ | refine aj (O.eql (.lit rfl) (.lit rfl)) ?_ | refine aj (O.eql (.k rfl) (.lit rfl)) ?_ | refine aj (O.s' (.lit rfl) (.lit rfl)) ?_ | refine aj (O.s' (.lit rfl) (.k rfl)) ?_))
  | ((with_reducible apply aE.dg (.binOp .neq _ _ _ _) none); (first | refine aj (O.neq (.lit rfl) (.k rfl)) ?_ | refine aj (O.neq (.lit rfl) (.lit rfl)) ?_ | refine aj (O.neq (.k rfl) (.lit rfl)) ?_ | refine aj (O.qJ (.lit rfl) (.lit rfl)) ?_ | refine aj (O.qJ (.lit rfl) (.k rfl)) ?_))
  | ((with_reducible apply aE.dg (.binOp .geq _ _ _ _) none); (first | refine aj (O.geq (.lit rfl) (.k rfl)) ?_ | refine aj (O.geq (.lit rfl) (.lit rfl)) ?_ | refine aj (O.geq (.k rfl) (.lit rfl)) ?_))
  | ((with_reducible apply aE.dg (.binOp .gtr _ _ _ _) none); (first | refine aj (O.gtr (.lit rfl) (.k rfl)) ?_ | refine aj (O.gtr (.lit rfl) (.lit rfl)) ?_ | refine aj (O.gtr (.k rfl) (.lit rfl)) ?_))
  | ((with_reducible apply aE.dg (.binOp .sub _ _ _ _) none); (first | refine aj (O.sub (.lit rfl) (.k rfl)) ?_ | refine aj (O.sub (.lit rfl) (.lit rfl)) ?_ | refine aj (O.sub (.k rfl) (.lit rfl)) ?_))
  | ((with_reducible apply aE.dg (.binOp .leq _ _ _ _) none); (first | refine aj (O.leq (.lit rfl) (.k rfl)) ?_ | refine aj (O.leq (.lit rfl) (.lit rfl)) ?_ | refine aj (O.leq (.k rfl) (.lit rfl)) ?_))
  | ((with_reducible apply aE.dg (.pick _ _ _) none); (first | refine aj (O.gB (.lit rfl) rfl (.lit rfl)) ?_ | refine aj (O.gA (.lit rfl) rfl (.lit rfl)) ?_ | refine aj (O.gB (.lit rfl) rfl (.k rfl)) ?_ | refine aj (O.gA (.lit rfl) rfl (.k rfl)) ?_ | refine aj (O.gB (.lit rfl) (by assumption) (.lit rfl)) ?_ | refine aj (O.gA (.lit rfl) (by assumption) (.lit rfl)) ?_ | refine aj (O.gB (.lit rfl) (by assumption) (.k rfl)) ?_ | refine aj (O.gA (.lit rfl) (by assumption) (.k rfl)) ?_))
  | ((with_reducible apply aE.dg (.call { callee:=.builtin .len,args:=#[_],argTypes:=#[_] }) none); (first | refine aj (O.nb (.bc rfl) eG.p) ?_ | refine aj (O.lF (.a7 rfl) eG.p) ?_ | refine aj (O.lF (.own rfl) eG.p) ?_ | refine aj (O.Ad (.lit rfl) pA.p) ?_))
  | ((with_reducible apply aE.dg (.unOp .not _ _) none); (first | refine aj (O.not (.lit rfl)) ?_))
  | ((with_reducible apply aE.dg (.nilCheck _) none); (first | refine aj (O.cR (.ptr rfl)) ?_ | refine aj (O.Dm (.cx rfl)) ?_ | refine aj (O.cR (.obj rfl)) ?_))
  | ((with_reducible apply aE.dg (.index _ _ _) none); (first | refine aj (O.oy (.lit rfl) (.lit rfl) pA.p (by assumption)) ?_))
  | ((with_reducible apply aE.dg (.move (.const _)) none); (first | refine aj (O.aO (.k rfl)) ?_ | refine aj (O.aO .xY) ?_)))
 | ((with_reducible apply aE.nl); first | exact bG rfl | refine kg ?_)
 | ((with_reducible apply aE.dg _ (some _)); first
  | (first | refine e8 rfl ?_ | refine Ss ?_ | refine ET ?_)
  | ((with_reducible apply aE.dg (.move (.tmp _)) (some _)); (first | refine bp rfl (O.aO (.lit rfl)) ?_ | refine eR (O.aO (.lit rfl)) ?_ | refine bp rfl (O.aO (.bc rfl)) ?_ | refine eR (O.aO (.bc rfl)) ?_ | refine bp rfl (O.aO (.own rfl)) ?_ | refine eR (O.aO (.own rfl)) ?_ | refine bp rfl (O.aO (.obj rfl)) ?_ | refine eR (O.aO (.obj rfl)) ?_ | refine bp rfl (O.aO (.cx rfl)) ?_ | refine eR (O.aO (.cx rfl)) ?_ | refine bp rfl (O.aO (.ptr rfl)) ?_ | refine eR (O.aO (.ptr rfl)) ?_ | refine bp rfl (O.aO (.a7 rfl)) ?_ | refine eR (O.aO (.a7 rfl)) ?_))
  | ((with_reducible apply aE.dg (.load _ _) (some _)); (first | refine bp rfl (O.pf rfl (.ptr rfl) fj.p rfl) ?_ | refine eR (O.pf rfl (.ptr rfl) fj.p rfl) ?_ | refine bp rfl (O.De (.cx rfl) fj.p rfl) ?_ | refine eR (O.De (.cx rfl) fj.p rfl) ?_ | refine bp rfl (O.Ab rfl (.ptr rfl) fj.p rfl) ?_ | refine eR (O.Ab rfl (.ptr rfl) fj.p rfl) ?_ | refine bp rfl (O.pf rfl (.obj rfl) fj.p rfl) ?_ | refine eR (O.pf rfl (.obj rfl) fj.p rfl) ?_ | refine bp rfl (O.Ab rfl (.obj rfl) fj.p rfl) ?_ | refine eR (O.Ab rfl (.obj rfl) fj.p rfl) ?_ | refine bp rfl (O.Ac rfl (.ptr rfl) fj.p rfl) ?_ | refine eR (O.Ac rfl (.ptr rfl) fj.p rfl) ?_ | refine bp rfl (O.Ac rfl (.obj rfl) fj.p rfl) ?_ | refine eR (O.Ac rfl (.obj rfl) fj.p rfl) ?_))
  | ((with_reducible apply aE.dg (.fieldAddr _ _ _) (some _)); (first | refine bp rfl (O.nx rfl (.obj rfl) cy.p rfl) ?_ | refine eR (O.nx rfl (.obj rfl) cy.p rfl) ?_ | refine bp rfl (O.BW (.cx rfl) cy.p) ?_ | refine eR (O.BW (.cx rfl) cy.p) ?_ | refine bp rfl (O.nx rfl (.ptr rfl) cy.p rfl) ?_ | refine eR (O.nx rfl (.ptr rfl) cy.p rfl) ?_))
  | ((with_reducible apply aE.dg (.indexAddr _ _ _) (some _)); (first | refine bp rfl (O.pc (.bc rfl) (.lit rfl) eG.p (by assumption)) ?_ | refine eR (O.pc (.bc rfl) (.lit rfl) eG.p (by assumption)) ?_ | refine bp rfl (O.pc (.bc rfl) (.k rfl) eG.p (by assumption)) ?_ | refine eR (O.pc (.bc rfl) (.k rfl) eG.p (by assumption)) ?_))
  | ((with_reducible apply aE.dg (.binOp .add _ _ _ _) (some _)); (first | refine bp rfl (O.add (.lit rfl) (.k rfl)) ?_ | refine eR (O.add (.lit rfl) (.k rfl)) ?_ | refine bp rfl (O.add (.lit rfl) (.lit rfl)) ?_ | refine eR (O.add (.lit rfl) (.lit rfl)) ?_ | refine bp rfl (O.add (.k rfl) (.lit rfl)) ?_ | refine eR (O.add (.k rfl) (.lit rfl)) ?_))
  | ((with_reducible apply aE.dg (.binOp .lss _ _ _ _) (some _)); (first | refine bp rfl (O.lss (.lit rfl) (.k rfl)) ?_ | refine eR (O.lss (.lit rfl) (.k rfl)) ?_ | refine bp rfl (O.lss (.lit rfl) (.lit rfl)) ?_ | refine eR (O.lss (.lit rfl) (.lit rfl)) ?_ | refine bp rfl (O.lss (.k rfl) (.lit rfl)) ?_ | refine eR (O.lss (.k rfl) (.lit rfl)) ?_))
  | ((with_reducible apply aE.dg (.binOp .eql _ _ _ _) (some _)); (first | refine bp rfl (O.eql (.lit rfl) (.k rfl)) ?_ | refine eR (O.eql (.lit rfl) (.k rfl)) ?_ | refine bp rfl (O.eql (.lit rfl) (.lit rfl)) ?_ | refine eR (O.eql (.lit rfl) (.lit rfl)) ?_ | refine bp rfl (O.eql (.k rfl) (.lit rfl)) ?_ | refine eR (O.eql (.k rfl) (.lit rfl)) ?_ | refine bp rfl (O.s' (.lit rfl) (.lit rfl)) ?_ | refine eR (O.s' (.lit rfl) (.lit rfl)) ?_ | refine bp rfl (O.s' (.lit rfl) (.k rfl)) ?_ | refine eR (O.s' (.lit rfl) (.k rfl)) ?_))
  | ((with_reducible apply aE.dg (.binOp .neq _ _ _ _) (some _)); (first | refine bp rfl (O.neq (.lit rfl) (.k rfl)) ?_ | refine eR (O.neq (.lit rfl) (.k rfl)) ?_ | refine bp rfl (O.neq (.lit rfl) (.lit rfl)) ?_ | refine eR (O.neq (.lit rfl) (.lit rfl)) ?_ | refine bp rfl (O.neq (.k rfl) (.lit rfl)) ?_ | refine eR (O.neq (.k rfl) (.lit rfl)) ?_ | refine bp rfl (O.qJ (.lit rfl) (.lit rfl)) ?_ | refine eR (O.qJ (.lit rfl) (.lit rfl)) ?_ | refine bp rfl (O.qJ (.lit rfl) (.k rfl)) ?_ | refine eR (O.qJ (.lit rfl) (.k rfl)) ?_))
  | ((with_reducible apply aE.dg (.binOp .geq _ _ _ _) (some _)); (first | refine bp rfl (O.geq (.lit rfl) (.k rfl)) ?_ | refine eR (O.geq (.lit rfl) (.k rfl)) ?_ | refine bp rfl (O.geq (.lit rfl) (.lit rfl)) ?_ | refine eR (O.geq (.lit rfl) (.lit rfl)) ?_ | refine bp rfl (O.geq (.k rfl) (.lit rfl)) ?_ | refine eR (O.geq (.k rfl) (.lit rfl)) ?_))
  | ((with_reducible apply aE.dg (.binOp .gtr _ _ _ _) (some _)); (first | refine bp rfl (O.gtr (.lit rfl) (.k rfl)) ?_ | refine eR (O.gtr (.lit rfl) (.k rfl)) ?_ | refine bp rfl (O.gtr (.lit rfl) (.lit rfl)) ?_ | refine eR (O.gtr (.lit rfl) (.lit rfl)) ?_ | refine bp rfl (O.gtr (.k rfl) (.lit rfl)) ?_ | refine eR (O.gtr (.k rfl) (.lit rfl)) ?_))
  | ((with_reducible apply aE.dg (.binOp .sub _ _ _ _) (some _)); (first | refine bp rfl (O.sub (.lit rfl) (.k rfl)) ?_ | refine eR (O.sub (.lit rfl) (.k rfl)) ?_ | refine bp rfl (O.sub (.lit rfl) (.lit rfl)) ?_ | refine eR (O.sub (.lit rfl) (.lit rfl)) ?_ | refine bp rfl (O.sub (.k rfl) (.lit rfl)) ?_ | refine eR (O.sub (.k rfl) (.lit rfl)) ?_))
  | ((with_reducible apply aE.dg (.binOp .leq _ _ _ _) (some _)); (first | refine bp rfl (O.leq (.lit rfl) (.k rfl)) ?_ | refine eR (O.leq (.lit rfl) (.k rfl)) ?_ | refine bp rfl (O.leq (.lit rfl) (.lit rfl)) ?_ | refine eR (O.leq (.lit rfl) (.lit rfl)) ?_ | refine bp rfl (O.leq (.k rfl) (.lit rfl)) ?_ | refine eR (O.leq (.k rfl) (.lit rfl)) ?_))
  | ((with_reducible apply aE.dg (.call { callee:=.builtin .len,args:=#[_],argTypes:=#[_] }) (some _)); (first | refine bp rfl (O.nb (.bc rfl) eG.p) ?_ | refine eR (O.nb (.bc rfl) eG.p) ?_ | refine bp rfl (O.lF (.a7 rfl) eG.p) ?_ | refine eR (O.lF (.a7 rfl) eG.p) ?_ | refine bp rfl (O.lF (.own rfl) eG.p) ?_ | refine eR (O.lF (.own rfl) eG.p) ?_ | refine bp rfl (O.Ad (.lit rfl) pA.p) ?_ | refine eR (O.Ad (.lit rfl) pA.p) ?_))
  | ((with_reducible apply aE.dg (.unOp .not _ _) (some _)); (first | refine bp rfl (O.not (.lit rfl)) ?_ | refine eR (O.not (.lit rfl)) ?_))
  | ((with_reducible apply aE.dg (.nilCheck _) (some _)); (first | refine bp rfl (O.cR (.ptr rfl)) ?_ | refine eR (O.cR (.ptr rfl)) ?_ | refine bp rfl (O.Dm (.cx rfl)) ?_ | refine eR (O.Dm (.cx rfl)) ?_ | refine bp rfl (O.cR (.obj rfl)) ?_ | refine eR (O.cR (.obj rfl)) ?_))
  | ((with_reducible apply aE.dg (.index _ _ _) (some _)); (first | refine bp rfl (O.oy (.lit rfl) (.lit rfl) pA.p (by assumption)) ?_ | refine eR (O.oy (.lit rfl) (.lit rfl) pA.p (by assumption)) ?_)))
 | with_reducible apply aE.S7
 | with_reducible apply aE.S8))):aE P N ops l g K:=h
theorem W.SN {id:Nat}{l:List Oper}{G G1:List (Nat × ab)}{Φ:Exit->aL->Prop}(ks:List Nat) (hk:ay .normal Φ G1) (h:aE P N l.toArray l (get G) (y_ ks G1):=by exact aE.bm):W P N (.region id l.toArray false) (get G) Φ:=W.b0 ks h hk
theorem W.az {id:Nat}{l:List Oper}{B:Code}{G:List (Nat × ab)}{Φ:Exit->aL->Prop}(G1:List (Nat × ab)) (hk:W P N B (get G1) Φ) (h:aE P N l.toArray l (get G) (λg'=>nu g' (get G1)):=by exact aE.bm):W P N (.seq (.region id l.toArray false) B) (get G) Φ:=W.rs G1 h hk
theorem W.bK {id:Nat}{l:List Oper}{B:Code}{G G1:List (Nat × ab)}{Φ:Exit->aL->Prop}(ks:List Nat) (hk:W P N B (get G1) Φ) (h:aE P N l.toArray l (get G) (y_ ks G1):=by exact aE.bm):W P N (.seq (.region id l.toArray false) B) (get G) Φ:=W.cm ks h hk
end
section
variable {P:Program}{N:cP}{G:List (Nat × ab)}{g':aL}
theorem jF {rs:List ResultVar}{ys xs:List ab}{res:ab}{outs:List (Option ab)}{n:Nat}(h:ki P (get G) rs ys xs g') (he:p4 xs=res:=by rfl) (aW:q_ g' N.pins 0 outs:=by (repeat' first | exact .nil | refine .no ?_)) (eA:(rs.filterMap fun | .cell t _=>some t | _=>none).Nodup:=by exact of_decide_eq_true (by kernel_rfl)) (ah:outs.length=n:=by rfl):ay .ret (qa P N rs n outs res) G:=ay.fin (Fin.ro h he eA aW ah (.inr rfl))
end
section
variable {P:Program}{N:cP}{G:List (Nat × ab)}{g':aL}{S R:Type}
theorem aU {α β:Type}{x:Option α}{f:α->Option β}{r:β}{G:Prop}(h:x.bind f=some r) (k:∀ a,x=some a->f a=some r->G):G:=by
 obtain ⟨a,h1,af⟩:=vj h
 grind
theorem Rd.aZ {g:aL}{t:Nat}{v:Value}(h:g t=some (.lit v):=by rfl):Rd g (.tmp t) (.lit v):=.lit h
theorem Rd.z2 {g:aL}{t z n:Nat}{cs:List ab}(h:g t=some (.bc z n cs):=by rfl):Rd g (.tmp t) (.bc z n cs):=.bc h
theorem Rd.z3 {g:aL}{t z n:Nat}{cs:List ab}(h:g t=some (.own z n cs):=by rfl):Rd g (.tmp t) (.a7 z ⟨t,[]⟩ n):=.own h
theorem Rd.z4 {g:aL}{t:Nat}{c:ab}{cs:List ab}(h:g t=some (.obj (c::cs)):=by rfl):Rd g (.tmp t) (.ptr ⟨t,[]⟩ 0):=.obj h
theorem Rd.z5 {g:aL}{t k:Nat}{p:Place}(h:g t=some (.ptr p k):=by rfl):Rd g (.tmp t) (.ptr p k):=.ptr h
theorem Rd.c5 {g:aL}{t z n:Nat}{p:Place}(h:g t=some (.a7 z p n):=by rfl):Rd g (.tmp t) (.a7 z p n):=.a7 h
theorem Rd.mD {g:aL}{t:Nat}{cs:List ab}(h:g t=some (.cx cs):=by rfl):Rd g (.tmp t) (.cx cs):=.cx h
theorem Rd.b2 {g:aL}{v:Value}(h:ofConst v=.lit v:=by rfl):Rd g (.const v) (.lit v):=.k h
theorem ay.dk {G1:List (Nat × ab)}(h:Trim true (get G) (get G1) G1:=by (repeat' first | exact .nil | refine .n rfl ?_)):ay .normal (λe g=>e=.normal/\ia g G1) G:=ay.dD h
theorem ay.gt {s:S}{F:S->List (Nat × ab)}{Ψ:R->Exit->aL->Prop}(h:Trim true (get G) (get (F s)) (F s):=by (repeat' first | exact .nil | refine .n rfl ?_)):ay .normal (lx F Ψ (.inl s)) G:=ay.go h
theorem ay.t1 {id:Nat}{r:R}{F:S->List (Nat × ab)}{mG:R->List (Nat × ab)}(h:Trim true (get G) (get (mG r)) (mG r):=by (repeat' first | exact .nil | refine .n rfl ?_)):ay (.exit id) (lx F (λr e g=>e=.exit id/\ia g (mG r)) (.inr r)) G:=ay.aS h
theorem k2 {rs:List ResultVar}{ys xs:List ab}{res:ab}{outs:List (Option ab)}{n:Nat}(h:ki P (get G) rs ys xs g':=by exact .f rfl rfl .nil) (he:p4 xs=res:=by rfl) (aW:q_ g' N.pins 0 outs:=by (repeat' first | exact .nil | refine .no ?_)) (eA:(rs.filterMap fun | .cell t _=>some t | _=>none).Nodup:=by exact of_decide_eq_true (by kernel_rfl)) (ah:outs.length=n:=by rfl):ay .ret (qa P N rs n outs res) G:=by grind [jF]
end
section
variable {α:Type}{P:Program}{g:aL}{ty t:TypeId}{a b:Operand}{k r z n:Nat}{cs cs':List ab}{x y:ab}{p:Place}{m:Int}{uJ:IntKind}{e:TypeId}{N:cP}{ops:Array Oper}
theorem O.bz {cz f off:Nat} [h:cy P cz f off t] (J:Rd g a (.ptr ⟨r,[]⟩ k):=by exact .obj rfl) (ax:g r=some (.obj cs):=by rfl) (ah:Nat.blt (k+off) cs.length=true:=by rfl):bT P g (.fieldAddr cz a f) ty (.ptr ⟨r,[]⟩ (k+off)):=O.nx ax J h.p ah
theorem O.y2 {cz f off:Nat} [h:cy P cz f off t] (J:Rd g a (.ptr ⟨r,[]⟩ k):=by exact .ptr rfl) (ax:g r=some (.obj cs):=by rfl) (ah:Nat.blt (k+off) cs.length=true:=by rfl):bT P g (.fieldAddr cz a f) ty (.ptr ⟨r,[]⟩ (k+off)):=O.nx ax J h.p ah
theorem O.cM {v:Value} [h:fj P t] (J:Rd g a (.ptr ⟨r,[]⟩ k):=by exact .ptr rfl) (ax:g r=some (.obj cs):=by rfl) (aa:cs[k]?=some (.lit v):=by rfl):bT P g (.load t a) ty (.lit v):=O.pf ax J h.p aa
theorem O.hb {en:bO α}{L:List α}{y:α}{bR:Nat}(h:idx L m=some y) [aF:eG P t e bR] (J:Rd g a (.bc en.z L.length (bC en L)):=by exact .bc rfl) (ao:Rd g b (.lit (.int uJ m)):=by exact .lit rfl) (aX:bR=en.z:=by rfl):bT P g (.indexAddr t a b) ty (.cx (en.cells y++bC en (L.drop (m.toNat+1)))):=O.pc J ao (aX ▸ aF.p) h
theorem O.cD [h:fj P t] (J:Rd g a (.ptr ⟨r,[]⟩ k):=by exact .ptr rfl) (ax:g r=some (.obj cs):=by rfl) (aa:cs[k]?=some x:=by rfl) (ao:fY 0 ⟨r,[k]⟩ x=y:=by rfl):bT P g (.load t a) ty y:=O.qI ax J h.p aa ao
theorem O.jg [h:fj P t] (J:Rd g a (.cx cs):=by exact .cx rfl) (aa:cs.head?=some x:=by rfl):bT P g (.load t a) ty x:=O.De J h.p aa
theorem O.r2 {cz f off:Nat} [h:cy P cz f off t] (J:Rd g a (.cx cs):=by exact .cx rfl):bT P g (.fieldAddr cz a f) ty (.cx (cs.drop off)):=O.BW J h.p
theorem O.j1 {bR:Nat} [h:eG P t e bR] (J:Rd g a (.bc z n cs):=by exact .bc rfl):bT P g (.call { callee:=.builtin .len,args:=#[a],argTypes:=#[t] }) ty (ae n):=O.nb J h.p
theorem b_.dG {xs:List Operand}{fP:Array TypeId}{f:FuncId}{ys:List ab}{outs:List (Option ab)}{res:ab}(J:q9 g xs ys) (hf:bP P f ys outs res) [hr:b9 res] (aV:hA P f=true:=by kernel_rfl) (aW:uM outs=true:=by rfl):b_ P g (.call { callee:=.value (.func f),args:=xs.toArray,argTypes:=fP }) res:=by grind [b_.go]
theorem b_.mz {xs:List Operand}{fP:Array TypeId}{f:FuncId}{ys args:List ab}{outs:List (Option ab)}{res:ab}(J:hh g xs=some ys) (hv:o0 g ys args) (hf:bP P f args outs res) [hr:qc res] (aV:hA P f=true:=by kernel_rfl) (aW:uM outs=true:=by rfl):b_ P g (.call { callee:=.value (.func f),args:=xs.toArray,argTypes:=fP }) res:=by grind [b_.vw]
end
section
variable {P:Program}{N:cP}{ops:Array Oper}{bj:List (List Nat)}{K:aL->Prop}{i:Nat}{acc:Acc}{l:List Oper}{d:Nat}
theorem bB.gG (bX:Nat) {G G2:List (Nat × ab)}{o:Oper}(he:bl P N (dq (get G) (λ_=>true) acc) o (get G2)) (hk:bB P N ops bj (get G2) (bX+1) [] l K) (aQ:o.guard=none:=by rfl) (gT:sI ((acc.filterMap lp).map Place.root)=true:=by rfl) (fN:ob G=true:=by rfl) (ag:Nat.beq ops.size (bX+l.length+1)=true:=by rfl) (aJ:(List.range bX).all (λk=>(bj.getD bX []).contains k)=true:=by kernel_rfl) (ar:(List.range ops.size).all (λk=>Nat.ble k bX||(bj.getD k []).contains bX)=true:=by kernel_rfl):bB P N ops bj (get G) i acc (o::l) K:=.zq bX he aQ gT fN ag aJ ar hk
theorem bB.H5 (bX:Nat) {G G2:List (Nat × ab)}{o:Oper}{x:ab}(he:bl P N (dq (get G) (λ_=>true) acc) o (cT (get G2) d x)) (hk:bB P N ops bj (get ((d,x)::G2)) (bX+1) [] l K) (aQ:o.guard=none:=by rfl) (gT:sI ((acc.filterMap lp).map Place.root)=true:=by rfl) (fN:ob G=true:=by rfl) (ag:Nat.beq ops.size (bX+l.length+1)=true:=by rfl) (aJ:(List.range bX).all (λk=>(bj.getD bX []).contains k)=true:=by kernel_rfl) (ar:(List.range ops.size).all (λk=>Nat.ble k bX||(bj.getD k []).contains bX)=true:=by kernel_rfl):bB P N ops bj (get G) i acc (o::l) K:=.bv bX he aQ gT fN ag aJ ar hk
end
def qS:List ab->Nat->List ab->Option (List ab)
 | [],0,[]=>some []
 | [],_,_=>none
 | x::l,0,[]=>some (x::l)
 | _::l,0,y::c=>match qS l 0 c with
  | some r=>some (y::r)
  | none=>none
 | x::l,k+1,c=>match qS l k c with
  | some r=>some (x::r)
  | none=>none
theorem oe:∀ {l:List ab}{k:Nat}{c r:List ab},qS l k c=some r->e0 l k c=r/\k+c.length<=l.length
 | [],0,[],r,h=>by cases h; exact ⟨rfl,Nat.le_refl _⟩
 | [],0,_::_,_,h=>by cases h
 | [],_+1,_,_,h=>by cases h
 | x::l,0,[],r,h=>by cases h; exact ⟨by simp [e0],by simp⟩
 | x::l,0,y::c,r,h=>by
  unfold qS at h
  split at h
  ·rename_i c' hr;cases h;obtain ⟨h1,af⟩:=oe hr;subst h1;exact ⟨by simp [e0],by simp at af ⊢; omega⟩
  ·cases h
 | x::l,k+1,c,r,h=>by
  unfold qS at h
  split at h
  ·rename_i c' hr;cases h;obtain ⟨h1,af⟩:=oe hr;subst h1;exact ⟨by simp [e0,Nat.add_right_comm],by simp; omega⟩
  ·cases h
theorem D4 {g g2:aL}{r:Nat}{cs2:List ab}:∀ {ks:List Nat}{G1:List (Nat × ab)},pick (cT g r (.obj cs2)) ks=some G1->(∀ e∈G1,cE e.2)->ly g g2 r cs2 G1
 | [],_,h,_=>by cases h; exact .nil
 | k::ks,G1,h,aB=>by
  unfold pick at h
  split at h
  ·rename_i x J
   split at h
   ·rename_i l ah;cases h;have au:=D4 (g2:=g2) ah λe he=>aB e (by simp [he]);by_cases e:k=r
    ·subst e;have e:x=.obj cs2:=by simpa [cT] using J.symm
     subst e;have J:cE (.obj cs2):=aB (k,.obj cs2) (by simp);have:dm cs2:=⟨by cases J; assumption⟩;exact .b rfl au
    ·have:b9 x:=⟨aB (k,x) (by simp)⟩;exact .n (by rw [<- Bool.not_eq_true,Nat.beq_eq]; exact e) (by simpa [cT,e] using J) au
   ·cases h
  ·cases h
theorem Lo {g g2:aL}{ex:List Nat}:∀ {ks:List Nat}{G1:List (Nat × ab)},pick g ks=some G1->(ks.all λk=>!ex.elem k)=true->(∀ e∈G1,cE e.2)->nt ex g g2 G1
 | [],_,h,_,_=>by cases h; exact .nil
 | k::ks,G1,h,he,aB=>by
  unfold pick at h;rw [List.all_cons,Bool.and_eq_true] at he
  split at h
  ·rename_i x J
   split at h
   ·rename_i l ah;cases h;have:b9 x:=⟨aB (k,x) (by simp)⟩;exact .n (by simpa using he.1) J (Lo ah he.2 λe h=>aB e (by simp [h]))
   ·cases h
  ·cases h
def Gi:List ab->Option (List ab)
 | []=>some []
 | x::l=>match Gi l with
  | some r=>some (x::r)
  | none=>none
theorem P0:∀ {l r:List ab},Gi l=some r->l=r
 | [],r,h=>by cases h; rfl
 | x::l,r,h=>by
  unfold Gi at h
  split at h
  ·rename_i c' hr;cases h; rw [P0 hr]
  ·cases h
def Gj:ab->Option ab
 | .obj cs=>match Gi cs with
  | some r=>some (.obj r)
  | none=>none
 | .own z n cs=>some (.own z n cs)
 | _=>none
theorem P1 {x y:ab}(h:Gj x=some y):x=y:=by
 unfold Gj at h
 grind [P0]
theorem Lp {g g2:aL}{r:Nat}{x2:ab}:∀ {ks:List Nat}{G1:List (Nat × ab)},pick (cT g r x2) ks=some G1->(∀ e∈G1,cE e.2)->k5 g g2 r x2 G1
 | [],_,h,_=>by cases h; exact .nil
 | k::ks,G1,h,aB=>by
  unfold pick at h
  split at h
  ·rename_i x J
   split at h
   ·rename_i l ah;cases h;have au:=Lp (g2:=g2) ah λe he=>aB e (by simp [he]);by_cases e:k=r
    ·subst e;have e:x=x2:=by simpa [cT] using J.symm
     subst e;have:b9 x:=⟨aB (k,x) (by simp)⟩;exact .b rfl au
    ·have:b9 x:=⟨aB (k,x) (by simp)⟩;exact .n (by rw [<- Bool.not_eq_true,Nat.beq_eq]; exact e) (by simpa [cT,e] using J) au
   ·cases h
  ·cases h
section
variable {P:Program}{N:cP}{ops:Array Oper}{g:aL}{K:aL->Prop}{l:List Oper}{d r k0:Nat}{ty t:TypeId}{pos:String}{after:Array Edge}{a b x:Operand}{cs cs' cs2:List ab}{y:ab}{G2:List (Nat × ab)}{u:Option (Nat × Bool)}{p q:Place}
theorem Rd.RY {α:Type}{en:bO α}{L:List α}{t:Nat}(h:g t=some (ak en L)):Rd g (.tmp t) (ak en L):=.bc h
theorem bl.fa (ks:List Nat) (aJ:Rd g a (.ptr ⟨r,[]⟩ k0):=by (first | exact .obj rfl | exact .ptr rfl)) (ax:g r=some (.obj cs):=by rfl) (ar:Rd g b (.agg cs'):=by (first | exact .dd rfl rfl | exact .KP rfl)) (he:qS cs k0 cs'=some cs2:=by rfl) (aq:pick (cT g r (.obj cs2)) ks=some G2:=by rfl) (aX:hy P t cs'.length=true:=by kernel_rfl) (aK:Nat.blt 0 cs'.length=true:=by rfl) (hr:(get G2 r).isSome=true:=by rfl) [aB:dm cs'] [eL:dm cs] [aQ:j4 G2]:bl P N g ⟨none,.store t a b,ty,pos,after,none⟩ (get G2) :=
 .kf rfl rfl ax aJ ar rfl aX (Nat.ble_eq_true_of_le (oe he).2) aK (oe he).1 hr (D4 aq aQ.p)
theorem bl.l8 (ks:List Nat) (aJ:Rd g a (.ptr ⟨r,[]⟩ k0):=by (first | exact .ptr rfl | exact .obj rfl)) (ax:g r=some (.obj cs):=by rfl) (ar:Rd g b y:=by (first | exact .lit rfl | exact .k rfl | exact .RY rfl | exact .xY | exact .bc rfl)) (aa:o2 y=some [y]:=by rfl) (he:qS cs k0 [y]=some cs2:=by rfl) (aq:pick (cT g r (.obj cs2)) ks=some G2:=by rfl) (aX:hy P t 1=true:=by kernel_rfl) (hr:(get G2 r).isSome=true:=by rfl) [aB:b9 y] [eL:dm cs] [aQ:j4 G2]:bl P N g ⟨none,.store t a b,ty,pos,after,none⟩ (get G2) :=
 .kf rfl rfl ax aJ ar aa aX (Nat.ble_eq_true_of_le (oe he).2) rfl (oe he).1 hr (D4 aq aQ.p)
theorem bl.k6 {α:Type}{en:bO α}{L:List α}(ks:List Nat) (J:Rd g x (.a7 en.z p L.length):=by (first | exact .own rfl | exact .a7 rfl)) (aq:bH g p=some (aC en L):=by rfl) (hk:pick g ks=some G2:=by rfl) (cQ:(ks.all λk=>![p.root].elem k)=true:=by rfl) (aQ:get G2 d=none:=by rfl) (bt:N.ok d=true:=by rfl) [aB:j4 G2]:bl P N g ⟨some d,.assign x,ty,pos,after,u⟩ (cT (get G2) d (aC en L)) :=
 .EY rfl rfl J aq (Lo hk cQ aB.p) aQ bt
theorem bl.wS {α:Type}{en:bO α}{L M:List α}{s:Nat}(ks:List Nat) (J:Rd g x (.a7 en.z ⟨s,[]⟩ (L.length+M.length)):=by exact .bM rfl) (ax:g s=some (.bM en.z q L.length M.length (bC en M)):=by rfl) (aq:bH g q=some (aC en L):=by rfl) (hk:pick g ks=some G2:=by rfl) (cQ:(ks.all λk=>![s,q.root].elem k)=true:=by rfl) (a_:Nat.beq q.root s=false:=by rfl) (aQ:get G2 d=none:=by rfl) (bt:N.ok d=true:=by rfl) [aB:j4 G2]:bl P N g ⟨some d,.assign x,ty,pos,after,u⟩ (cT (get G2) d (aC en (L++M))) :=
 .MF rfl rfl J ax aq a_ (Lo hk cQ aB.p) aQ bt
theorem bl.sp {α:Type}{en:bO α}{L M:List α}{s:Nat}{cs1:List ab}(ks:List Nat) (ar:Rd g b (.a7 en.z ⟨s,[]⟩ (L.length+M.length)):=by exact .bM rfl) (qA:g s=some (.bM en.z q L.length M.length (bC en M)):=by rfl) (aq:bH g q=some (aC en L):=by rfl) (aJ:Rd g a (.ptr ⟨r,[]⟩ k0):=by (first | exact .ptr rfl | exact .obj rfl)) (ax:ct (ct g ⟨s,[]⟩ .dead) q .dead r=some (.obj cs1):=by rfl) (he:qS cs1 k0 [aC en (L++M)]=some cs2:=by rfl) (hk:pick (cT (ct (ct g ⟨s,[]⟩ .dead) q .dead) r (.obj cs2)) ks=some G2:=by rfl) (a_:Nat.beq q.root s=false:=by rfl) (aX:hy P t 1=true:=by kernel_rfl) (hr:(get G2 r).isSome=true:=by rfl) [eL:dm cs1] [aQ:j4 G2]:bl P N g ⟨none,.store t a b,ty,pos,after,none⟩ (get G2) :=
 .Hb rfl rfl aJ ar qA aq a_ .jz .hZ rfl rfl aX ax (Nat.ble_eq_true_of_le (oe he).2) (oe he).1 hr (D4 hk aQ.p)
theorem bl.u5 {α:Type}{en:bO α}{L:List α}{cs1:List ab}(ks:List Nat) (ar:Rd g b (.a7 en.z p L.length):=by (first | exact .own rfl | exact .a7 rfl)) (aq:bH g p=some (aC en L):=by rfl) (aJ:Rd g a (.ptr ⟨r,[]⟩ k0):=by (first | exact .ptr rfl | exact .obj rfl)) (ax:ct g p .dead r=some (.obj cs1):=by rfl) (he:qS cs1 k0 [aC en L]=some cs2:=by rfl) (hk:pick (cT (ct g p .dead) r (.obj cs2)) ks=some G2:=by rfl) (aX:hy P t 1=true:=by kernel_rfl) (hr:(get G2 r).isSome=true:=by rfl) [eL:dm cs1] [aQ:j4 G2]:bl P N g ⟨none,.store t a b,ty,pos,after,none⟩ (get G2) :=
 .tG rfl rfl aJ ar (.r aq .nil) .refl rfl aX ax (Nat.ble_eq_true_of_le (oe he).2) rfl (oe he).1 hr (D4 hk aQ.p)
theorem bl.u0 {α:Type}{en:bO α}{L:List α}{iT y2:α}{m:Int}{o:Nat}{dW x2 y0:ab}(ks:List Nat) (h:idx L m=some iT) (aJ:Rd g a (.ptr p (m.toNat * en.z+o)):=by exact .ptr rfl) (aq:bH g p=some (aC en L):=by rfl) (ar:Rd g b y:=by (first | exact .lit rfl | exact .k rfl | exact .RY rfl | exact .xY | exact .bc rfl | exact .dd rfl rfl)) (aa:o2 y=some cs':=by rfl) (he:e0 (en.cells iT) o cs'=en.cells y2:=by rfl) (ix:ct g p (aC en (L.set m.toNat y2)) p.root=some dW:=by rfl) (gL:Gj dW=some x2:=by rfl) (hk:pick (cT g p.root x2) ks=some G2:=by rfl) (aX:hy P t cs'.length=true:=by kernel_rfl) (hlen:Nat.ble (o+cs'.length) en.z=true:=by rfl) (aK:Nat.blt 0 cs'.length=true:=by rfl) (hr:(get G2 p.root).isSome=true:=by rfl) (rC:g p.root=some y0:=by rfl) [aB:b9 y] [eL:b9 y0] [aQ:j4 G2]:bl P N g ⟨none,.store t a b,ty,pos,after,none⟩ (get G2) :=
 .u4 rfl rfl aJ ar aq h aX aa he hlen aK (by rw [ix,P1 gL]) hr rC (Lp hk aQ.p)
theorem aE.dJ {o:Oper}(he:bl P N g o (get G2)) (hk:aE P N ops l (get G2) K) (aQ:o.guard=none:=by rfl):aE P N ops (o::l) g K:=.jq aQ he hk
theorem aE.cd {o:Oper}(he:bl P N g o (cT (get G2) d y)) (hk:aE P N ops l (cT (get G2) d y) K) (aQ:o.guard=none:=by rfl):aE P N ops (o::l) g K:=.rh aQ he hk
end
section
variable {S R:Type}{P:Program}{N:cP}{A B c:Code}{G:List (Nat × ab)}{Φ:Exit->aL->Prop}{id:Nat}
theorem W.eW {G1:List (Nat × ab)}(ks:List Nat) (L:List (Nat × ab)) (h:W P N c (get G) λe g=>e=.normal/\ia g G1) (hk:ay .normal Φ G1) (aq:pick (get (L++G)) ks=some G1:=by rfl):W P N c (get G) Φ:=W.dD _ h hk
theorem W.kQ {G1:List (Nat × ab)}{l:List Oper}(ks:List Nat) (L:List (Nat × ab)) (h:aE P N l.toArray l (get G) λg'=>nu g' (get G1)) (hk:W P N B (get G1) Φ) (aq:pick (get (L++G)) ks=some G1:=by rfl):W P N (.seq (.region id l.toArray false) B) (get G) Φ:=W.rs _ h hk
theorem W.ht {f:S->Option (S ⊕ R)}{r:R}{cS:S->List (Nat × ab)}{mK:R->List (Nat × ab)}(s:S) (F:S->List (Nat × ab)) (ks:List Nat) (id:Nat) (X:R->List (Nat × ab)) (sF:List Nat) (h:cg f s=some r) (ar:∀ s o,f s=some o->W P N c (get (cS s)) (lx cS (λr e g=>e=.exit id/\ia g (mK r)) o)) (hk:ay (.exit id) Φ (mK r))
  (aH:∀ s,pick (get (F s++G)) ks=some (cS s):=by intro s; rfl) (eU:∀ s,pick (get (X s++G)) sF=some (mK s):=by intro s; rfl) (au:Trim true (get G) (get (cS s)) (cS s):=by (repeat' first | exact .nil | refine .n rfl ?_ | refine .w rfl rfl .p1 ?_ | refine .w rfl rfl .p0 ?_ | refine .w rfl rfl (kl.obj (by (repeat' first | exact .nil | refine .f ?_ | refine .o ?_ | refine .i ?_))) ?_)):W P N (.loop c) (get G) Φ :=
 W.c3 au (W.Af cS id mK h ar hk)
theorem W.gg {gx:Type}{f:S->Option (S ⊕ (R ⊕ gx))}{r:R ⊕ gx}{cS:S->List (Nat × ab)}{mK:R->List (Nat × ab)}{tX:gx->List (Nat × ab)}(s:S) (F:S->List (Nat × ab)) (ks:List Nat) (id:Nat) (X:R->List (Nat × ab)) (sF:List Nat) (Y:gx->List (Nat × ab)) (Dc:List Nat) (h:cg f s=some r)
  (ar:∀ s o,f s=some o->W P N c (get (cS s)) (lx cS (λ(r:R ⊕ gx) e g=>match r with | .inl r=>e=.exit id/\ia g (mK r) | .inr r=>e=.ret/\ia g (tX r)) o))
  (J:∀ x,r=.inl x->ay (.exit id) Φ (mK x)) (hr:∀ x,r=.inr x->ay .ret Φ (tX x))
  (aH:∀ s,pick (get (F s++G)) ks=some (cS s):=by intro s; rfl) (eU:∀ s,pick (get (X s++G)) sF=some (mK s):=by intro s; rfl) (Cd:∀ s,pick (get (Y s++G)) Dc=some (tX s):=by intro s; rfl) (au:Trim true (get G) (get (cS s)) (cS s):=by (repeat' first | exact .nil | refine .n rfl ?_ | refine .w rfl rfl .p1 ?_ | refine .w rfl rfl .p0 ?_ | refine .w rfl rfl (kl.obj (by (repeat' first | exact .nil | refine .f ?_ | refine .o ?_ | refine .i ?_))) ?_)):W P N (.loop c) (get G) Φ :=
 W.c3 au (W.PL cS id mK tX h ar J hr)
end
section
variable {P:Program}{N:cP}{g g1 g2:aL}{d:Nat}{t e:TypeId}{s x:Operand}{z b n m:Nat}{p:Place}{y:ab}{cells cs':List ab}
theorem bl.S6 {o:Oper}(aW:o.op=.call { callee:=.builtin .append,args:=#[s,x],argTypes:=#[t,t] }) (aR:o.dst=some d) (ax:bw g s=some (.a7 z p n))
  (J:bw g x=some y) (oI:Src g y z m cells) (mR:∀ c∈cells,cE c) (au:il P t e z b=true) (o5:n+m<=4611686018427387904) (ar:(n+m) * b<=140737488355328)
  (cV:Take g [.a7 z p n] [.own z n cs'] g1) (hk:iE g1 g2) (aQ:g2 d=none) (bt:N.ok d=true):bl P N g o (cT g2 d (.own z (n+m) (cs'++cells))):=by
 refine .LJ λw I T Fs h a aJ Wo K Q c6=>?_;have Wv:=ke h ax aJ;obtain ⟨i,cW,hu,hi,rfl,rfl,aK,aX,l2⟩:=E4 au;obtain ⟨yC,wy,news,rv,ah,xF,xG,eV⟩:=oI.sound h (ke h J aJ);obtain ⟨fr,H1,rm,rl,hn⟩:=cV.sound h.nh (Hand.one Wv);have xB:=cV.Al _ (List.mem_singleton.2 rfl);have Wu:=rl.GP;have o_:=rl.off 0;have xv:=λc=>rl.bc 0 c (by simp);have XN:∀ c∈cs',cE c:=by
  cases xB with | own h=>exact h
 generalize jw:a.eval s=bv at *;cases Wu with
 | ref J=>simp [ab.isRef] at J
 | @own _ _ _ _ b4 us bG _ kK zR h1 hr FB gS aH =>
  obtain ⟨dK,w',b6,hp,A⟩:=GV (P:=P) (w:=w) t o.type e b4 i cW hu hi aX l2 aK kK (a:=yC) (c:=wy) (m:=m) (news:=news) (λhm=>xF hm aK) ah xG (λu hu=>by
   obtain ⟨k,hk,rfl⟩:=List.mem_iff_getElem.1 hu;exact eV.2.1 k _ (List.getElem?_eq_getElem hk)) (by unfold maxLen; omega) ar
  have Jm:∀ t c,fr t c->∃ t,Fs t c:=λt c aa=>by
   rcases hn c (.inl ⟨t,aa⟩) with aI | ⟨_,_,aI⟩
   ·exact aI
   ·exact aI.elim
  have Fy:∀ c,H1 0 c->∃ t,Fs t c:=λc aa=>by
   rcases hn c (.inr ⟨0,by simp,aa⟩) with aI | ⟨_,_,aI⟩
   ·exact aI
   ·exact aI.elim
  have zI:∀ c,bv.ownBlock=some c->H1 0 c:=λc aa=>(aH c).2 (.inl aa);have JQ:∀ k c,k<cs'.length->bG k c->H1 0 c:=λk c hk aa=>(aH c).2 (.inr ⟨k,hk,aa⟩);have aN:∀ c,(∃ t,Fs t c)->c<w.heap.size:=λc ⟨t,aa⟩=>h.jd t c aa;have iw:=(rm.keep hk).world (w':=w') (λt c aa=>A.dN.block c (aN c (Jm t c aa.2)) λar=>o_ t c (by simp) (zI c ar) aa.2)
   (λc aa=>A.dN.block c (h.lt c aa) λar=>xv c (zI c ar) aa) A.dN.size
  have iJ:R w' I (dy w' T g2) (.own i.size (n+m) (cs'++cells)) dK (λc=>dK.ownBlock=some c\/∃ k,k<(cs'++cells).length/\(if k<cs'.length then bG k else ck) c):=by
   refine .own A.new (by rw [List.length_append,List.length_append,zR,eV.1]) (λk u hu=>?_) (λk x u J hu=>?_) (λj k c ag hk aa dQ=>?_) (λk c hk aa=>?_) λc=>Iff.rfl
   ·by_cases hk:k<us.length
    ·rw [List.getElem?_append_left hk] at hu; exact h1 k u hu
    ·rw [List.getElem?_append_right (by omega)] at hu; exact eV.2.1 _ u hu
   ·by_cases hk:k<cs'.length
    ·rw [List.getElem?_append_left hk] at J;rw [List.getElem?_append_left (by omega)] at hu;rw [if_pos hk];refine (((hr k x u J hu).bq (XN x (List.mem_of_getElem? J))).frame (λc aa=>A.dN.block c (h.lt c aa) λar=>xv c (zI c ar) aa) (λ_ h=>h) λ_ _ h=>h) λc aa=>A.dN.block c (aN c (Fy c (JQ k c hk aa))) λar=>gS k c hk aa ar
    ·rw [List.getElem?_append_right (by omega)] at J;rw [List.getElem?_append_right (by omega),<- zR] at hu;rw [if_neg hk];exact (((eV.2.2 _ x u J hu).bq (mR x (List.mem_of_getElem? J))).frame (λc aa=>A.dN.block c (h.lt c aa) λar=>xv c (zI c ar) aa) (λ_ h=>h) λ_ _ h=>h) λc aa=>aa.elim
   ·split at aa
    ·rename_i jt
     split at dQ
     ·rename_i I3;exact FB j k c jt I3 aa dQ
     ·exact dQ.elim
    ·exact aa.elim
   ·split at aa
    ·rename_i jt;intro ar;rcases A.BC c ar with j_ | j_
     ·exact gS k c jt aa j_
     ·have:=aN c (Fy c (JQ k c jt aa)); omega
    ·exact aa.elim
  have I8:∀ c,(dK.ownBlock=some c\/∃ k,k<(cs'++cells).length/\(if k<cs'.length then bG k else ck) c)->H1 0 c\/w.heap.size<=c:=by
   rintro c (aa | ⟨k,_,aa⟩)
   ·exact (A.BC c aa).imp (zI c) id
   ·split at aa
    ·rename_i jt;exact .inl (JQ k c jt aa)
    ·exact aa.elim
  have oG:=iw.uT (d:=d) (x:=.own i.size (n+m) (cs'++cells)) (v:=dK) aQ (by rw [<- aJ,Wo]; exact cP.lt bt) (.tree iJ) (λt c aa aV=>by
   rcases I8 c aa with aI | aI
   ·exact o_ t c (by simp) aI aV.2
   ·have:=aN c (Jm t c aV.2); omega) (λc aa hi=>by
   rcases I8 c aa with aI | aI
   ·exact xv c aI hi
   ·have:=h.lt c hi; omega) (by intro z p n m new e; cases e)
  have XY:(execOp a.eval o).run P w=.ok (.value dK) w':=by simp [execOp,aW,resolve,invoke,builtin,jw,rv,hp]
  unfold Oper.wp Oper.upon;simp only [XY];refine c6 _ _ ⟨by rw [aR]; rfl,by rw [aR]; exact ib.put bt _ _,I,_,by rw [aR]; simpa [Act.put,aJ] using oG,⟨A.dN.mono λc _ aa=>Fy c (zI c aa),λ_ h=>h,λ_ h=>.inl h,λc aa=>?_⟩⟩ λt au=>by rw [aR]; simp only [Act.put]; rw [Array.getElem?_setIfInBounds_ne]; rintro rfl; exact au aR
  rcases u6 aa with ⟨t,_,aI⟩ | aI
  ·exact .inl (Jm t c aI)
  ·exact (I8 c (by rw [List.length_append]; exact aI)).imp (Fy c) id
theorem Rv {α:Type}{en:bO α}{L:List α}{r f k:Nat}{cs:List ab}(hr:g r=some (.obj cs)) (aV:cs[f]?=some (aC en L)) (hk:k<=L.length) :
  Take g [.a7 en.z ⟨r,[f]⟩ k] [.own en.z k (bC en (L.take k))] (ct g ⟨r,[f]⟩ .dead):=by
 have aq:bH g ⟨r,[f]⟩=some (aC en L):=by simp [bH,hr,ab.at,ab.kids,aV]
 refine .a7 aq hk ?_ (.bq (by simp));rw [GU];exact .bq (po en _)
theorem bl.MN {α:Type}{en:bO α}{L M iQ:List α}{f k gF r:Nat}{cs cs2:List ab}{G2:List (Nat × ab)}{o:Oper}(aW:o.op=.call { callee:=.builtin .append,args:=#[s,x],argTypes:=#[t,t] }) (aR:o.dst=some d) (ax:Rd g s (.a7 en.z ⟨r,[f]⟩ k)) (hr:g r=some (.obj cs)) (aV:cs[f]?=some (aC en L)) (hk:k<=L.length)
  (J:Rd g x y) (hm:ov g en y M) (au:il P t e en.z gF=true) (ar:Nat.ble gF 128=true) (h:c8 (L.take k) M=some iQ) (he:cs.set f .dead=cs2) (df:k5 g (get G2) r (.obj cs2) G2) (tg:get G2 d=none) (bt:N.ok d=true):bl P N g o (get ((d,aC en iQ)::G2)):=by
 have du:(L.take k).length=k:=by rw [List.length_take]; omega
 obtain ⟨h1,af,aF⟩:=wR h ar;rw [du] at h1 af;have XA:iE (ct g ⟨r,[f]⟩ .dead) (get G2):=df.keep (λt au=>u1 au) (by rw [<- he]; simp [ct,hr,ab.setAt,ab.sQ,ab.kids,aV]);have:=bl.S6 (n:=k) (m:=M.length) aW aR ax.bw J.bw hm.src (po en M) au h1 af (Rv hr aV hk) XA tg bt;rw [tb] at this;subst aF;have e:ab.own en.z (k+M.length) (bC en (L.take k)++bC en M)=aC en (L.take k++M):=by
  rw [<- p2];show _=ab.own en.z ((L.take k).length+M.length) _;rw [du]
 rw [e] at this;exact this
theorem bl.Rz {α:Type}{en:bO α}{L:List α}{f k r:Nat}{cs cs1 cs2:List ab}{G2:List (Nat × ab)}{o:Oper}(aW:o.op=.store t s x) (aR:o.dst=none) (aJ:Rd g s (.ptr ⟨r,[]⟩ f)) (ax:Rd g x (.a7 en.z ⟨r,[f]⟩ k)) (hr:g r=some (.obj cs)) (aV:cs[f]?=some (aC en L)) (hk:k<=L.length)
  (aX:hy P t 1=true) (kt:cs.set f .dead=cs1) (he:e0 cs1 f [aC en (L.take k)]=cs2) [eL:dm cs1] (j':(get G2 r).isSome=true) (df:ly (ct g ⟨r,[f]⟩ .dead) (get G2) r cs2 G2):bl P N g o (get G2):=by
 have du:(L.take k).length=k:=by rw [List.length_take]; omega
 have h1:ct g ⟨r,[f]⟩ .dead r=some (.obj cs1):=by rw [<- kt]; simp [ct,hr,ab.setAt,ab.sQ,ab.kids,aV]
 have aN:f<cs.length:=(List.getElem?_eq_some_iff.1 aV).1;have e:ab.own en.z k (bC en (L.take k))=aC en (L.take k):=by
  show _=ab.own en.z (L.take k).length _;rw [du]
 subst he;refine .store aW aR aJ.bw ax.bw (e ▸ Rv hr aV hk) .refl (cs':=[aC en (L.take k)]) rfl aX (p:=⟨r,[]⟩) (nd:=.obj cs1) (z:=0) (n:=0) (by simp [bH,h1,ab.at]) (.inr rfl) (by rw [<- kt]; simp; omega) (by simp) (λt x J=>?_) (λt x J y ao=>?_) (λt z q n m new J=>?_) (by intro e; rw [e] at j'; cases j')
 ·rcases df.spec t x J with ⟨h1,af,_⟩ | ⟨h1,af,_⟩
  all_goals grind [ct,ab.setAt,ab.e0]
 ·rcases df.spec t x J with ⟨h1,af,aF⟩ | ⟨jt,af,aF⟩
  ·rw [af] at ao;cases ao;exact aF.wv
  ·subst jt;rw [h1] at ao;cases ao;exact .bq (.obj eL.bq)
 ·rcases df.spec t _ J with ⟨_,_,aF⟩ | ⟨_,af,_⟩
  ·exact aF.fE _ _ _ _ _ rfl
  grind
theorem cU.Tw {α:Type}{en:bO α}{L:List α}(aq:bH g p=some (aC en L)) (aB:n<=L.length):cU g (.a7 en.z p n):=.ref rfl (.inl ⟨_,_,aq,aB⟩)
def zA (g:aL) (t:Nat):aL:=λs=>if s=t then none else g s
theorem abq {t:Nat}{x:ab}(aQ:g t=some x):cT (zA g t) t x=g:=by
 funext s;unfold cT zA;by_cases e:s=t
 ·rw [if_pos e,e,aQ]
 ·rw [if_neg e,if_neg e]
theorem np.back {rs:Place->Prop}{t:Nat}{x:ab}{o:Oper}{G5:List (Nat × ab)}(h:np P N rs (zA g t) o (get G5)) (lC:∀ p,rs p->zA g t p.root≠none) (aQ:g t=some x) (JG:get G5 t=none) (au:o.dst≠some t) (J:wM rs (zA g t) (get G5) o x):np P N rs g o (get ((t,x)::G5)):=by
 have:=h.extra lC (by simp [zA]) JG au J
 rwa [abq aQ,tb] at this
end
end Go.Own
namespace Go.Own
open Go Go.Proofs Go.Shelf Go.Lib Go.Sort
variable [cG]
section
variable {α:Type}{e:bO α}{P:Program}{w:World}
theorem SQ {l:List α}(h:∀ a,(e.cells a).all mg=true):(bC e l).all mg=true:=by
 rw [List.all_eq_true];intro x J;obtain ⟨a,_,aJ⟩:=List.mem_flatMap.1 J;exact List.all_eq_true.1 (h a) x aJ
end
end Go.Own
namespace Go.Own
open Go
variable [cG]
inductive lL:Type 1
 | e
 | b (x y:lL)
 | e5 {S R:Type}(F:S->List (Nat × ab)) (ks:List Nat) (id:Nat) (X:R->List (Nat × ab)) (sF:List Nat) (x y:lL)
 | gg {S R gx:Type}(F:S->List (Nat × ab)) (ks:List Nat) (id:Nat) (X:R->List (Nat × ab)) (sF:List Nat) (Y:gx->List (Nat × ab)) (Dc:List Nat) (x y z:lL)
 | dD {α:Type}(ks:List Nat) (L:α->List (Nat × ab)) (x y:lL)
 | eM {α:Type}(id:Nat) (ks:List Nat) (L:α->List (Nat × ab)) (y:lL)
 | rd (id:Nat) (bj:List (List Nat)) (y:lL)
 | b0 {α:Type}(id:Nat) (bj:List (List Nat)) (ks:List Nat) (L:α->List (Nat × ab)) (y:lL)
 | p (y:lL)
 | dP {α:Type}(id s:Nat) (i:Option Nat) (en:bO α) (y:lL)
 | hM {α:Type}(s:Nat) (i:Option Nat) (en:bO α) (y:lL)
def PE:ab->Bool
 | .lit _ | .aP | .bc .. | .own .. | .obj _ | .cx _ | .cF .. | .mp _ | .imp _=>true
 | .agg cs=>cs.all λx=>match x with | .ptr .. | .a7 .. | .sub .. | .gl _ | .bM .. | .dead=>false | _=>true
 | _=>false
def vX (ex:List Nat):List (Nat × ab)->Option (List Nat)
 | []=>some []
 | (k,x)::l=>match vX (k::ex) l with
  | none=>none
  | some r=>match !ex.elem k&&PE x with
   | true=>some (k::r)
   | false=>some r
def KR (E ex:List Nat):List (Nat × ab)->Option (List Nat)
 | []=>some []
 | (k,x)::l=>match KR E (k::ex) l with
  | none=>none
  | some r=>match E.elem k&&(!ex.elem k&&PE x) with
   | true=>some (k::r)
   | false=>some r
def roots (G:List (Nat × ab)):Operand->List Nat
 | .tmp s=>match get G s with
  | some (.own ..)=>[s]
  | some (.obj _)=>[s]
  | some (.a7 _ p _)=>[s,p.root]
  | some (.ptr p _)=>[s,p.root]
  | some (.bM _ q _ _ _)=>match get G q.root with
   | some (.bM _ QE _ _ _)=>[s,q.root,QE.root]
   | _=>[s,q.root]
  | _=>[s]
 | _=>[]
def Ql (F:List (Nat × ab)) (s:Nat):Nat->List ab->Option (List ab)
 | _,[]=>some []
 | i,x::l=>match Ql F s (i+1) l with
  | none=>none
  | some r=>match get F (1000 * (i+1)+s) with
   | some y=>some (y::r)
   | none=>some (x::r)
def qL (F G:List (Nat × ab)):aL:=λs=>match get F s with
 | some x=>some x
 | none=>match get G s with
  | some (.obj cs)=>match Ql F s 0 cs with
   | some r=>some (.obj r)
   | none=>none
  | x=>x
def cJ (E:List Nat) (t:lL) (P:Program) (N:cP) (c:Code) (G:List (Nat × ab)) (Φ:Exit->aL->Prop):Prop:=W P N c (get G) Φ
def dY (E:List Nat) (t:lL) (e:Exit) (Φ:Exit->aL->Prop) (G:List (Nat × ab)):Prop:=ay e Φ G
def y9 (E:List Nat) (t:lL) (Ψ:lL->List (Nat × ab)->Prop) (g':aL):Prop:=∃ G1,nu g' (get G1)/\Ψ t G1
def s0 {α:Type}(F:α->List (Nat × ab)) (j:α) (e:Exit) (g:aL):Prop:=e=.normal/\ia g (F j)
def Mq {R:Type}(id:Nat) (X:R->List (Nat × ab)) (r:R) (e:Exit) (g:aL):Prop:=e=.exit id/\ia g (X r)
def Bl {R gx:Type}(id:Nat) (X:R->List (Nat × ab)) (Y:gx->List (Nat × ab)) (r:R ⊕ gx) (e:Exit) (g:aL):Prop:=match r with | .inl r=>e=.exit id/\ia g (X r) | .inr r=>e=.ret/\ia g (Y r)
class bx (P:Program) (f:FuncId) (p:Prop) (args:outParam (List ab)) (outs:outParam (List (Option ab))) (res:outParam ab):Prop where go:p->bP P f args outs res
section
variable {P:Program}{N:cP}{E:List Nat}{t x y z:lL}{A B c:Code}{G G1:List (Nat × ab)}{Φ q0:Exit->aL->Prop}{Ψ:aL->Prop}{id k s:Nat}{b:Bool}{α β:Type}{l:List Oper}
theorem cJ.rg (h:aE P N l.toArray l (get G) (y9 E t λt G1=>cJ E t P N B G1 Φ)):cJ E t P N (.seq (.region id l.toArray false) B) G Φ :=
 W.seq (W.D_ λi hi=>by
  obtain ⟨g',h1,G1,af,aF⟩:=h i hi;exact ⟨g',h1,W.weaken af aF⟩)
theorem cJ.rt (h:aE P N l.toArray l (get G) (y9 E t λt G1=>dY E t .normal Φ G1)):cJ E t P N (.region id l.toArray false) G Φ :=
 W.D_ λi hi=>by
  obtain ⟨g',h1,G1,af,aF⟩:=h i hi;exact ⟨g',h1,aF g' (.e7 af .hZ)⟩
theorem cJ.bF (h:cJ E t P N A G (pr (λg1=>W P N B g1 Φ) Φ)):cJ E t P N (.seq A B) G Φ:=W.seq h
theorem cJ.cb (h:cJ E t P N A G (mr id Φ)):cJ E t P N (.block id A) G Φ:=W.cb h
theorem cJ.zq (h:cJ E t P N A G (mr id Φ)):cJ E (.p t) P N (.block id A) G Φ:=W.cb h
theorem cJ.cO (h:dY E t .normal Φ G):cJ E t P N .skip G Φ:=W.cO h
theorem cJ.fq (h:dY E t (.exit k) Φ G):cJ E t P N (.exit k) G Φ:=W.fq h
theorem cJ.bZ {X Y o:α}(h:(bif b then X else Y)=o) (cV:b=true->X=o->cJ E x P N A G Φ) (aH:b=false->Y=o->cJ E y P N B G Φ) (aa:get G s=some (bd b):=by rfl):cJ E (.b x y) P N (.cond (.tmp s) A B) G Φ:=W.bZ h aa cV aH
theorem cJ.ce {X Y o:α}(h:(bif b then X else Y)=o) (cV:b=true->X=o->cJ E .e P N A G Φ) (aH:b=false->Y=o->cJ E .e P N B G Φ) (aa:get G s=some (bd b):=by rfl):cJ E .e P N (.cond (.tmp s) A B) G Φ:=W.bZ h aa cV aH
theorem cJ.YY {o:Operand}{m:Option α}{f:α->Option β}{r:β}{ks:List Nat}{L cS:α->List (Nat × ab)}(h:m.bind f=some r) (h1:∀ j,m=some j->cJ E x P N (.cond o A B) G (s0 cS j)) (af:∀ j,m=some j->f j=some r->dY E y .normal Φ (cS j))
  (aH:∀ j,pick (qL (L j) G) ks=some (cS j):=by intro j; rfl):cJ E (.dD ks L x y) P N (.cond o A B) G Φ:=by
 obtain ⟨j,ag,h⟩:=vj h;exact W.dD _ (h1 j ag) (af j ag h)
theorem cJ.KN {m:Option α}{f:α->Option β}{r:β}{ks:List Nat}{L cS:α->List (Nat × ab)}(h:m.bind f=some r) (h1:∀ j,m=some j->cJ E x P N (.block id A) G (s0 cS j)) (af:∀ j,m=some j->f j=some r->dY E y .normal Φ (cS j))
  (aH:∀ j,pick (qL (L j) G) ks=some (cS j):=by intro j; rfl):cJ E (.dD ks L x y) P N (.block id A) G Φ:=by
 obtain ⟨j,ag,h⟩:=vj h;exact W.dD _ (h1 j ag) (af j ag h)
theorem cJ.e5 {S R:Type}{f:S->Option (S ⊕ R)}{s:S}{g:R->Option β}{r:β}{F cS:S->List (Nat × ab)}{ks sF:List Nat}{X mK:R->List (Nat × ab)}(h:(cg f s).bind g=some r)
  (ar:∀ s o,f s=some o->cJ E x P N c (cS s) (lx cS (Mq id mK) o)) (hk:∀ c',cg f s=some c'->g c'=some r->dY E y (.exit id) Φ (mK c'))
  (aH:∀ s,pick (qL (F s) G) ks=some (cS s):=by intro s; rfl) (eU:∀ s,pick (qL (X s) G) sF=some (mK s):=by intro s; rfl) (au:Trim true (get G) (get (cS s)) (cS s):=by (repeat' first | exact .nil | refine .n rfl ?_ | refine .w rfl rfl .p1 ?_ | refine .w rfl rfl .p0 ?_ | refine .w rfl rfl (kl.obj (by (repeat' first | exact .nil | refine .f ?_ | refine .o ?_ | refine .i ?_))) ?_)) :
  cJ E (.e5 F ks id X sF x y) P N (.loop c) G Φ:=by
 obtain ⟨c',ah,h⟩:=vj h;exact W.c3 au (W.Af cS id mK ah ar (hk c' ah h))
theorem dY.bF (h:cJ E t P N B G Φ):dY E t .normal (pr (λg1=>W P N B g1 Φ) q0) G:=ay.bF h
theorem dY.fi (h:dY E t (.exit k) Φ G):dY E t (.exit k) (pr Ψ Φ) G:=ay.fi h
theorem dY.gn (h:dY E t .ret Φ G):dY E t .ret (pr Ψ Φ) G:=ay.gn h
theorem dY.cb (h:dY E t .normal Φ G):dY E t .normal (mr id Φ) G:=ay.cb h
theorem dY.fu (h:dY E t .normal Φ G):dY E t (.exit id) (mr id Φ) G:=ay.fu h
theorem dY.E9 (h:dY E t (.exit k) Φ G) (hk:Nat.beq k id=false:=by rfl):dY E t (.exit k) (mr id Φ) G:=ay.E9 hk h
theorem dY.lP (h:dY E t .ret Φ G):dY E t .ret (mr id Φ) G:=ay.lP h
theorem dY.dD {F:α->List (Nat × ab)}{j v:α}(h:some v=some j) (au:Trim true (get G) (get (F v)) (F v)):dY E t .normal (s0 F j) G:=by
 cases h; exact ay.dD au
theorem dY.go {S R:Type}{s:S}{o:S ⊕ R}{F:S->List (Nat × ab)}{Ψ:R->Exit->aL->Prop}(h:some (.inl s)=some o) (au:Trim true (get G) (get (F s)) (F s)):dY E t .normal (lx F Ψ o) G:=by
 cases h; exact ay.go au
theorem dY.aS {S R:Type}{r:R}{o:S ⊕ R}{F:S->List (Nat × ab)}{X:R->List (Nat × ab)}(h:some (.inr r)=some o) (au:Trim true (get G) (get (X r)) (X r)):dY E t (.exit id) (lx F (Mq id X) o) G:=by
 cases h; exact ay.aS au
variable {ops:Array Oper}{K:aL->Prop}{d:Nat}{op:Op}{ty:TypeId}{pos:String}{after:Array Edge}{v v2:ab}{ks:List Nat}{g:aL}{j cz:Nat}{bY:Bool}
theorem sf {G:List (Nat × ab)}{d:Nat}{v:ab}:cT (get G) d v=get ((d,v)::G):=tb.symm
theorem HP (aq:bT P (get G) op ty v) (hk:aE P N ops l (get ((d,v)::G)) K) (bt:N.ok d=true:=by rfl) (aV:get G d=none:=by rfl):aE P N ops (⟨some d,op,ty,pos,after,none⟩::l) (get G) K:=aj aq (sf ▸ hk) bt aV
theorem MD (aq:b_ P (get G) op v) (hk:aE P N ops l (get ((d,v)::G)) K) (bt:N.ok d=true:=by rfl) (aV:get G d=none:=by rfl):aE P N ops (⟨some d,op,ty,pos,after,none⟩::l) (get G) K:=eO aq (sf ▸ hk) bt aV
theorem HG (aq:bT P (get G) op ty v) (hk:aE P N ops l (get ((d,v)::G)) K) (h:(ops[j]?).bind (·.dst)=some cz:=by rfl) (aQ:get G cz=some (.lit (.bool bY)):=by rfl) (ar:bY=b:=by (first | rfl | assumption)) (bt:N.ok d=true:=by rfl) (aV:get G d=none:=by rfl):aE P N ops (⟨some d,op,ty,pos,after,some (j,b)⟩::l) (get G) K:=.v aq bt aV (.kX h aQ ar) (sf ▸ hk)
theorem Mn (aq:b_ P (get G) op v) (hk:aE P N ops l (get ((d,v)::G)) K) (h:(ops[j]?).bind (·.dst)=some cz:=by rfl) (aQ:get G cz=some (.lit (.bool bY)):=by rfl) (ar:bY=b:=by (first | rfl | assumption)) (bt:N.ok d=true:=by rfl) (aV:get G d=none:=by rfl):aE P N ops (⟨some d,op,ty,pos,after,some (j,b)⟩::l) (get G) K:=.c aq bt aV (.kX h aQ ar) (sf ▸ hk)
theorem q5 (hk:aE P N ops l (get ((d,.bS [])::G)) K) (h:(ops[j]?).bind (·.dst)=some cz:=by rfl) (aQ:get G cz=some (.lit (.bool bY)):=by rfl) (ar:bY=!b:=by (first | rfl | assumption)) (bt:N.ok d=true:=by rfl) (aV:get G d=none:=by rfl):aE P N ops (⟨some d,op,ty,pos,after,some (j,b)⟩::l) (get G) K:=.ps h aQ ar bt aV (sf ▸ hk)
theorem Sk (hk:aE P N ops l (get ((d,.bS [])::G)) K) (h:(ops[j]?).bind (·.dst)=some cz:=by rfl) (aQ:get G cz=some (.bS []):=by rfl) (bt:N.ok d=true:=by rfl) (aV:get G d=none:=by rfl):aE P N ops (⟨some d,op,ty,pos,after,some (j,b)⟩::l) (get G) K:=.pu h aQ bt aV (sf ▸ hk)
theorem Io {p:Prop}{X Y o:α}(h:(bif b then X else Y)=o) (cV:b=true->X=o->p) (aH:b=false->Y=o->p):p:=by
 cases b
 ·exact aH rfl h
 ·exact cV rfl h
theorem HD {EC:lL->List (Nat × ab)->Prop}(nB:KR E [] G=some ks) (aq:pick (get G) ks=some G1) [aB:j4 G1] (hk:EC t G1):aE P N ops [] (get G) (y9 E t EC):=.nil ⟨G1,(wo (c:=true) (g2:=get G1) aq aB.p).e7,hk⟩
theorem cJ.eM {m:Option α}{f:α->Option β}{r:β}{ks:List Nat}{L cS:α->List (Nat × ab)}(h:m.bind f=some r) (h1:∀ j,m=some j->aE P N l.toArray l (get G) (s0 cS j .normal)) (af:∀ j,m=some j->f j=some r->cJ E y P N B (cS j) Φ)
  (aH:∀ j,pick (qL (L j) G) ks=some (cS j):=by intro j; rfl):cJ E (.eM id ks L y) P N (.seq (.region id l.toArray false) B) G Φ:=by
 obtain ⟨j,ag,h⟩:=vj h;exact W.seq (W.D_ λi hi=>by
  obtain ⟨g',ca,_,eI⟩:=h1 j ag i hi;exact ⟨g',ca,W.be (af j ag h) eI⟩)
theorem Sh {F:α->List (Nat × ab)}{j v:α}(h:some v=some j) (au:Trim true (get G) (get (F v)) (F v)):aE P N ops [] (get G) (s0 F j .normal):=by
 cases h; exact .nil ⟨rfl,.e7 au.e7 .hZ⟩
end
end Go.Own
namespace Go.Own
open Go Go.Lib
variable [cG]
section
variable {P:Program}{w:World}
end
end Go.Own
namespace Go.Proofs
open Go.Shelf Go.RowKit Go.Own
variable [cG]
variable {P:Program}{ρ:Ren}
end Go.Proofs
namespace Go.Own
open Go Go.Proofs Go.Shelf Go.Lib
variable [cG]
section
variable {P:Program}{ρ:Ren}
end
end Go.Own
namespace Go.Own
open Go
variable [cG]
def K9:ab->Option ab
 | .lit v=>some (.lit v)
 | .aP=>some .aP
 | .bc z n cs=>some (.bc z n cs)
 | .own z n cs=>some (.own z n cs)
 | .obj cs=>some (.obj cs)
 | .agg cs=>some (.agg cs)
 | .bS cs=>some (.bS cs)
 | .cx cs=>some (.cx cs)
 | .ptr p k=>some (.ptr p k)
 | .a7 z p n=>some (.a7 z p n)
 | .sub z p l n=>some (.sub z p l n)
 | .bM z p n m c=>some (.bM z p n m c)
 | .cF f a b=>some (.cF f a b)
 | .mp p=>some (.mp p)
 | .gl p=>some (.gl p)
 | .imp p=>some (.imp p)
 | .dead=>some .dead
 | .self k=>some (.self k)
 | .hV t us=>some (.hV t us)
theorem P3 {x y:ab}(h:K9 x=some y):x=y:=by cases x <;> (cases h; rfl)
def Gk:List ab->Option (List ab)
 | []=>some []
 | x::l=>match Gk l with
  | none=>none
  | some r=>match K9 x with
   | none=>none
   | some y=>some (y::r)
theorem P2:∀ {l r:List ab},Gk l=some r->l=r
 | [],r,h=>by cases h; rfl
 | x::l,r,h=>by
  unfold Gk at h
  split at h
  ·cases h
  ·rename_i c' hr
   split at h
   ·cases h
   ·rename_i y ao;cases h; rw [P2 hr,P3 ao]
def uL:ab->Option ab
 | .agg cs=>match Gk cs with
  | some r=>some (.agg r)
  | none=>none
 | x=>K9 x
theorem x5 {x y:ab}(h:uL x=some y):x=y:=by
 unfold uL at h
 split at h
 ·split at h
  ·rename_i hr;cases h; rw [P2 hr]
  ·cases h
 ·exact P3 h
def pg:List ab->Option (List ab)
 | []=>some []
 | x::l=>match pg l with
  | none=>none
  | some r=>match uL x with
   | none=>none
   | some y=>some (y::r)
theorem Ak:∀ {l r:List ab},pg l=some r->l=r
 | [],r,h=>by cases h; rfl
 | x::l,r,h=>by
  unfold pg at h
  split at h
  ·cases h
  ·rename_i c' hr
   split at h
   ·cases h
   ·rename_i y ao;cases h; rw [Ak hr,x5 ao]
def yA (f:Nat->ab->ab):Nat->List Nat->List ab->Option (List ab)
 | _,_,[]=>some []
 | _,[],_::_=>none
 | k,j::ev,x::l=>match yA f (k+1) ev l with
  | none=>none
  | some r=>match Nat.beq j k,uL (f j x) with
   | true,some y=>some (y::r)
   | _,_=>none
theorem D' {f:Nat->ab->ab}:∀ {l:List ab}{ev:List Nat}{k:Nat}{r:List ab},yA f k ev l=some r->(l.mapIdx λi x=>f (k+i) x)=r
 | [],ev,k,r,h=>by cases ev <;> (cases h; rfl)
 | x::l,[],k,r,h=>by cases h
 | x::l,j::ev,k,r,h=>by
  unfold yA at h
  split at h
  ·cases h
  ·rename_i c' hr
   split at h
   ·rename_i y ag ao;cases h;have:=Nat.eq_of_beq_eq_true ag;subst this;rw [List.mapIdx_cons,<- D' hr,<- x5 ao];simp [Nat.add_comm,Nat.add_left_comm]
   ·cases h
def num:List Nat:=0::1::2::3::4::5::6::7::8::9::10::11::12::13::14::15::16::17::18::19::20::21::22::23::24::25::26::27::28::29::30::31::32::33::34::35::36::37::38::39::40::41::42::43::44::45::46::47::48::49::50::51::52::53::54::55::56::57::58::59::60::61::62::63::64::65::66::67::68::69::70::71::72::73::74::75::76::77::78::79::[]
def GJ (g:aL):Operand->Option ab
 | .tmp t=>match g t with
  | some (.lit v)=>some (.lit v)
  | some .aP=>some .aP
  | some (.bc z n cs)=>some (.bc z n cs)
  | some (.own z n _)=>some (.a7 z ⟨t,[]⟩ n)
  | some (.obj (_::_))=>some (.ptr ⟨t,[]⟩ 0)
  | some (.cx cs)=>some (.cx cs)
  | some (.agg cs)=>match yA (λi x=>fY 1 ⟨t,[i]⟩ x) 0 num cs with
   | some r=>some (.agg r)
   | none=>none
  | some (.bS cs)=>match yA (λi x=>fY 1 ⟨t,[i]⟩ x) 0 num cs with
   | some r=>some (.bS r)
   | none=>none
  | some (.ptr p k)=>some (.ptr p k)
  | some (.a7 z p n)=>some (.a7 z p n)
  | some (.sub z p l n)=>some (.sub z p l n)
  | some (.bM z _ n m _)=>some (.a7 z ⟨t,[]⟩ (n+m))
  | some (.cF fn [] cs)=>some (.cF fn [] cs)
  | some (.mp _)=>some (.gl ⟨t,[]⟩)
  | some (.gl p)=>some (.gl p)
  | some (.imp q)=>some (.imp q)
  | _=>none
 | .const v=>match ofConst v with
  | .lit v=>some (.lit v)
  | .agg cs=>some (.agg cs)
  | .aP=>match v with
   | .slice none 0 0=>some .aP
   | _=>none
  | _=>none
 | .func f=>some (.cF (.func f) [] [])
 | .global _=>none
theorem Zi {v u:Value}(h:ofConst v=.lit u):u=v:=by
 cases v <;> simp only [ofConst,ky] at h <;> first | (cases h; rfl) | (split at h <;> cases h <;> rfl) | cases h
theorem Rd.q {g:aL}{a:Operand}{y:ab}(h:GJ g a=some y:=by rfl):Rd g a y:=by
 unfold GJ at h
 split at h
 ·split at h <;> first | (split at h <;> cases h <;> first | exact .agg ‹_› (by have:=D' ‹_›; simpa [Place.push] using this) | exact .bS ‹_› (by have:=D' ‹_›; simpa [Place.push] using this)) | skip
  all_goals cases h
  all_goals first | exact .lit ‹_› | exact .aP ‹_› | exact .bc ‹_› | exact .own ‹_› | exact .obj ‹_› | exact .cx ‹_› | exact .ptr ‹_› | exact .a7 ‹_› | exact .sub ‹_› | exact .bM ‹_› | exact .cF ‹_› | exact .mp ‹_› | exact .gl ‹_› | exact .imp ‹_›
 ·split at h
  ·rename_i e; cases h; have:=Zi e; subst this; exact .k e
  ·rename_i e; cases h; exact .KP e
  ·split at h <;> cases h
   exact .xY
  ·cases h
 ·cases h; exact .func
 ·cases h
def GL (g:aL) (t:Nat):Option ab :=
 match g t with
 | some (.lit v)=>some (.lit v)
 | some .aP=>some .aP
 | some (.bc z n cs)=>some (.bc z n cs)
 | some (.cx cs)=>some (.cx cs)
 | some (.cF fn [] cs)=>some (.cF fn [] cs)
 | some (.imp q)=>some (.imp q)
 | _=>none
theorem Rd.Lt {g:aL}{t:Nat}{y:ab}(h:GL g t=some y:=by rfl):Rd g (.tmp t) y:=by
 unfold GL at h
 split at h <;> cases h <;> first | exact .lit ‹_› | exact .aP ‹_› | exact .bc ‹_› | exact .cx ‹_› | exact .cF ‹_› | exact .imp ‹_›
class nn (P:Program) (t:TypeId) (α:outParam Type) (en:outParam (bO α)):Prop where p:True:=trivial
class EG {α:Type}(en:bO α) (cs:List ab) (y:outParam α):Prop where p:en.cells y=cs
instance {a:Int}:EG ai [ae a] a:=⟨rfl⟩
instance {a:Int}:EG se [r9 a] a:=⟨rfl⟩
class va {α:Type}(en:bO α) (ys:List ab) (L:outParam (List α)):Prop where p:o1 ys=some (bC en L)/\ys.all (λy=>match j9 y with | some c=>Nat.beq c.length en.z | none=>false)=true/\L.length=ys.length
instance {α:Type}{en:bO α}:va en [] []:=⟨⟨rfl,rfl,rfl⟩⟩
theorem va.cons {α:Type}{en:bO α}{y:ab}{cs:List ab}{ys:List ab}{a:α}{L:List α}(ar:j9 y=some cs) [h:EG en cs a] [ah:va en ys L]:va en (y::ys) (a::L):=by
 refine ⟨⟨?_,?_,?_⟩⟩
 ·simp [o1,ar,ah.p.1,bC,h.p]
 ·simp only [List.all_cons,ar,ah.p.2.1,Bool.and_true];rw [<- h.p,en.len]; exact Nat.beq_refl _
 ·simp [ah.p.2.2]
instance {α:Type}{en:bO α}{v:Value}{ys:List ab}{a:α}{L:List α} [h:EG en [.lit v] a] [ah:va en ys L]:va en (.lit v::ys) (a::L):=.cons rfl
def LI (d:Nat):List Oper->Bool
 | []=>false
 | o::l=>(match o.op with
  | .call { callee:=.value _,args:=xs,argTypes:=_ }=>xs.toList.any λx=>match x with | .tmp t=>Nat.beq t d | _=>false
  | .call { callee:=.builtin .append,args:=xs,argTypes:=_ }=>match xs.toList with | [_,.tmp t]=>Nat.beq t d | _=>false
  | .convert _ _ (.tmp t)=>Nat.beq t d
  | .build _ ps=>ps.toList.any λx=>match x.2 with | .tmp t=>Nat.beq t d | _=>false
  | .buildSlice _ _ ps=>ps.toList.any λx=>match x.2 with | .tmp t=>Nat.beq t d | _=>false
  | _=>false)||LI d l
class EI (P:Program):Prop where p:P.follows .mixedOrders=true:=by kernel_rfl
class mc (P:Program) (t:TypeId) (k:outParam Nat):Prop where p:h5 P t k=true:=by kernel_rfl
class mF (P:Program) (t:TypeId) (z:outParam Value):Prop where p:(P.info? t).bind (·.zero)=some z:=by kernel_rfl
class r4 (P:Program) (t:TypeId) (pl:outParam (List (Nat × Nat))):Prop where p:j0 P t pl=true:=by kernel_rfl
class p' (P:Program) (t:TypeId) (e z b:outParam Nat):Prop where p:il P t e z b=true:=by kernel_rfl
class Bi (P:Program) (t:TypeId) (k:outParam IntKind):Prop where p:uG P t k=true:=by kernel_rfl
class EJ (P:Program) (t:TypeId) (b:outParam Nat):Prop where p:(P.info? t).map (·.bytes)=some b:=by kernel_rfl
section
variable {α β:Type}{P:Program}{g:aL}{ty t t2:TypeId}{a b:Operand}{k r z n:Nat}{cs cs':List ab}{x y:ab}{p q:Place}{m:Int}{uJ KQ:IntKind}{e:TypeId}{N:cP}{ops:Array Oper}{gF:Nat}
theorem O.abz (J:Rd g a y:=by exact .q) (aa:(j9 y).bind pg=some cs:=by rfl):bT P g (.box e a) ty (.obj cs):=by
 cases ar:j9 y with
 | none=>rw [ar] at aa; cases aa
 | some c=>rw [ar] at aa; have:=Ak aa; subst this; exact O.box J ar
theorem O.ij {v:Value} [h:fj P t] (J:Rd g a (.ptr ⟨r,[]⟩ k):=by exact .q) (ax:g r=some (.obj cs):=by rfl) (aa:cs[k]?=some (.lit v):=by rfl):bT P g (.load t a) ty (.lit v):=O.pf ax J h.p aa
theorem O.hz [h:fj P t] (J:Rd g a (.cx cs):=by exact .q) (aa:cs.head?.bind uL=some x:=by rfl):bT P g (.load t a) ty x:=by
 cases ar:cs.head? with
 | none=>rw [ar] at aa; cases aa
 | some c=>rw [ar] at aa; have:=x5 aa; subst this; exact O.De J h.p ar
theorem O.L0 [h:fj P t] (J:Rd g a (.ptr ⟨r,[]⟩ k):=by exact .q) (ax:g r=some (.obj cs):=by rfl) (aa:cs[k]?=some x:=by rfl) (ao:uL (fY 0 ⟨r,[k]⟩ x)=some y:=by rfl):bT P g (.load t a) ty y:=O.qI ax J h.p aa (x5 ao)
theorem O.L1 [h:mc P t z] (J:Rd g a (.ptr ⟨r,[]⟩ k):=by exact .q) (ax:g r=some (.obj cs):=by rfl) (hk:Nat.ble (k+z) cs.length=true:=by rfl) (aa:yA (λi x=>fY 0 ⟨r,[i]⟩ x) k (num.drop k) ((cs.drop k).take z)=some cs':=by rfl):bT P g (.load t a) ty (.agg cs'):=O.dO ax J h.p hk (D' aa)
theorem O.abE [h:mc P t z] (J:Rd g a (.cx cs):=by exact .q) (aa:pg (cs.take z)=some cs':=by rfl) (aX:cs'.length=z:=by rfl):bT P g (.load t a) ty (.agg cs'):=O.na J h.p (Ak aa) aX
theorem O.abJ {en:bO α}{L:List α}{y:α}{o:Nat}{x x':ab} [au:fj P t] (J:Rd g a (.ptr p (m.toNat * en.z+o)):=by exact .q) (aq:bH g p=some (aC en L):=by rfl) (h:idx L m=some y:=by assumption) (aa:(en.cells y)[o]?=some x:=by rfl) (hr:uL (fY 0 (p.push (m.toNat * en.z+o)) x)=some x':=by rfl):bT P g (.load t a) ty x':=O.jV aq J au.p h aa (x5 hr)
theorem O.abB {cz f off:Nat} [h:cy P cz f off t] (J:Rd g a (.ptr ⟨r,[]⟩ k):=by exact .q) (ax:g r=some (.obj cs):=by rfl) (ah:Nat.blt (k+off) cs.length=true:=by rfl):bT P g (.fieldAddr cz a f) ty (.ptr ⟨r,[]⟩ (k+off)):=O.nx ax J h.p ah
theorem O.abC {cz f off:Nat} [h:cy P cz f off t] (J:Rd g a (.cx cs):=by exact .q):bT P g (.fieldAddr cz a f) ty (.cx (cs.drop off)):=O.BW J h.p
theorem O.abD {en:bO α}{L:List α}{y:α}{bR:Nat}(h:idx L m=some y) [aF:eG P t e bR] (J:Rd g a (.bc en.z L.length (bC en L)):=by exact .q) (ao:Rd g b (.lit (.int uJ m)):=by exact .q) (aX:bR=en.z:=by rfl):bT P g (.indexAddr t a b) ty (.cx (en.cells y++bC en (L.drop (m.toNat+1)))):=O.pc J ao (aX ▸ aF.p) h
theorem O.Hk {en:bO α}{L:List α}{y:α}{bR:Nat}(h:idx L m=some y) [aF:eG P t e bR] (J:Rd g a (.a7 en.z p L.length):=by exact .q) (aq:bH g p=some (aC en L):=by rfl) (ao:Rd g b (.lit (.int uJ m)):=by exact .q) (aX:bR=en.z:=by rfl) (aK:Nat.blt 0 en.z=true:=by rfl):bT P g (.indexAddr t a b) ty (.ptr p (m.toNat * en.z+0)):=O.gN aq J ao (aX ▸ aF.p) h aK
theorem O.abV {p i:Nat}{cs:List ab}{x y:ab}(J:g p=some (.bS cs):=by rfl) (ao:cs[i]?=some x:=by rfl) (hr:uL (fY 1 (Place.push ⟨p,[]⟩ i) x)=some y:=by rfl):bT P g (.extract (.tmp p) i) ty y:=O.ex J ao (x5 hr)
theorem O.abI [h1:Bi P t uJ] [af:Bi P t2 KQ] (J:Rd g a (.lit (.int uJ m)):=by exact .q):bT P g (.convert t t2 a) ty (.lit (.int KQ (KQ.wrap m))):=O.Iw J h1.p af.p
theorem O.abH {L:List Int}(J:Rd g a (.bc se.z L.length (bC se L)):=by exact .q) (au:zu P t t2=true:=by kernel_rfl):bT P g (.convert t t2 a) ty (a6 (strOfNums L)):=O.UW J au
theorem O.abF {cW:Value} [h:mF P e cW] (h1:cW.cells.toList.all Value.oneCell'=true:=by rfl) (aa:pg (cW.cells.toList.map ky)=some cs:=by rfl):bT P g (.alloc e) ty (.obj cs):=O.dz h.p h1 (Ak aa)
theorem O.abT {parts:Array (Nat × Operand)}{pl:List (Nat × Nat)}{cW:Value}{ps:List (Nat × List ab)} [au:r4 P t pl] [aX:mF P t cW] (h1:cW.cells.toList.all Value.oneCell'=true:=by rfl)
  (aq:rL g parts.toList=some ps:=by rfl) (aa:(vp (λi=>pl[i]?) (cW.cells.toList.map ky) ps).bind pg=some cs:=by rfl):bT P g (.build t parts) ty (.agg cs):=by
 cases ar:vp (λi=>pl[i]?) (cW.cells.toList.map ky) ps with
 | none=>rw [ar] at aa; cases aa
 | some c=>rw [ar] at aa; have:=Ak aa; subst this; exact O.d' au.p aX.p h1 aq ar
theorem O.wp {en:bO α}{L M r:List α}{bR:Nat}(h:c8 L M=some r) [au:p' P t e bR gF] (ax:Rd g a (.a7 en.z p L.length):=by exact .q) (aq:bH g p=some (aC en L):=by rfl) (J:Rd g b y:=by exact .q) (hm:ov g en y M:=by (first | exact .i | exact .n | exact .o rfl rfl)) (aX:bR=en.z:=by rfl) (ar:Nat.ble gF 128=true:=by rfl) [eL:r6 g]:bT P g (.call { callee:=.builtin .append,args:=#[a,b],argTypes:=#[t,t] }) ty (.bM en.z p L.length M.length (bC en M)) :=
 O.ap ax aq J hm (aX ▸ au.p) ar h
def x0:List ab->Option (List Value)
 | []=>some []
 | .lit v::l=>match x0 l with
  | some r=>some (v::r)
  | none=>none
 | _=>none
theorem Df:∀ {l:List ab}{r:List Value},x0 l=some r->l=r.map .lit
 | [],r,h=>by cases h; rfl
 | x::l,r,h=>by
  unfold x0 at h
  split at h
  ·rename_i e; cases e
  ·rename_i e;cases e
   split at h
   ·rename_i c' hr;cases h; rw [Df hr]; rfl
   ·cases h
  ·cases h
def yD:List Value->Option (List ou)
 | []=>some []
 | v::l=>match yD l,mw v with
  | some r,some u=>some (u::r)
  | _,_=>none
theorem Ef:∀ {l:List Value}{r:List ou},yD l=some r->l.map mw=r.map some
 | [],r,h=>by cases h; rfl
 | v::l,r,h=>by
  unfold yD at h
  split at h
  ·rename_i uV u hr ax;cases h; simp [Ef hr,ax]
  ·cases h
theorem O.qV {BI km:List ab}{nM pt:List Value}{dS:List ou}(J:Rd g a (.agg BI):=by exact .q) (ao:Rd g b (.agg km):=by exact .q) (z7:x0 BI=some nM:=by rfl) (CW:x0 km=some pt:=by rfl) (aJ:yD nM=some dS:=by rfl) (ar:yD pt=some dS:=by rfl) (au:vo P t dS=true:=by kernel_rfl):bT P g (.binOp .eql t a b t2) ty (bd (lS nM pt)):=O.Vl (Df z7 ▸ J) (Df CW ▸ ao) (Ef aJ) (Ef ar) au
theorem O.wn {BI km:List ab}{nM pt:List Value}{dS:List ou}(J:Rd g a (.agg BI):=by exact .q) (ao:Rd g b (.agg km):=by exact .q) (z7:x0 BI=some nM:=by rfl) (CW:x0 km=some pt:=by rfl) (aJ:yD nM=some dS:=by rfl) (ar:yD pt=some dS:=by rfl) (au:vo P t dS=true:=by kernel_rfl):bT P g (.binOp .neq t a b t2) ty (bd (!lS nM pt)):=O.Zd (Df z7 ▸ J) (Df CW ▸ ao) (Ef aJ) (Ef ar) au
theorem O.abO {en:bO α}{z0:α}{r:List α}{bR:Nat}{cW:Value}(h:oO m z0=some r) [het:nn P t α en] [au:eG P t e bR] [hzero:mF P e cW] [i_:EJ P e gF] (J:Rd g a (.lit (.int uJ m)):=by exact .q) (ao:Rd g b (.lit (.int .i64 m)):=by exact .q) (h1:cW.cells.toList.all Value.oneCell'=true:=by rfl) (aa:cW.cells.toList.map ky=en.cells z0:=by rfl) (aX:bR=en.z:=by rfl) (ar:Nat.ble gF 128=true:=by rfl):bT P g (.makeSlice t a b) ty (aC en r) :=
 O.mk (aX ▸ au.p) J ao hzero.p h1 aa h i_.p ar
theorem O.wl {en:bO α}{bR:Nat} [het:nn P t α en] [au:eG P t e bR] (aX:bR=en.z:=by rfl) (hzero:jh P e en.z=true:=by kernel_rfl):bT P g (.buildSlice t 0 #[]) ty (aC en ([]:List α)) :=
 O.de (ys:=[]) en [] (aX ▸ au.p) rfl rfl rfl rfl rfl rfl hzero (by rw [Nat.zero_mul]; rfl) rfl
theorem O.abP {en:bO α}{M r:List α}{bR:Nat}(h:c8 [] M=some r) [au:p' P t e bR gF] (ax:Rd g a .aP:=by exact .q) (J:Rd g b y:=by exact .q) (hm:ov g en y M:=by (first | exact .i | exact .n | exact .o rfl rfl)) (aX:bR=en.z:=by rfl) (ar:Nat.ble gF 128=true:=by rfl):bT P g (.call { callee:=.builtin .append,args:=#[a,b],argTypes:=#[t,t] }) ty (aC en M) :=
 O.S5 ax J hm (aX ▸ au.p) ar h
theorem O.abR {en:bO α}{L r:List α}{c:Operand}{n:Int}{k:IntKind}{bR:Nat}(h:og L 0 n=some r) [au:eG P t e bR] (J:Rd g a (.bc en.z L.length (bC en L)):=by exact .q) (bQ:Rd g c (.lit (.int k n)):=by exact .q) (aX:bR=en.z:=by rfl):bT P g (.slice t a none (some c) none) ty (ak en r):=O.Rf J bQ (aX ▸ au.p) h
theorem O.abS {en:bO α}{L r:List α}{k:IntKind}{bR:Nat}(h:og L m L.length=some r) [au:eG P t e bR] (J:Rd g a (.bc en.z L.length (bC en L)):=by exact .q) (ah:Rd g b (.lit (.int k m)):=by exact .q) (aX:bR=en.z:=by rfl):bT P g (.slice t a (some b) none none) ty (ak en r):=O.aaQ J ah (aX ▸ au.p) h
theorem O.abA {en:bO α}{L M M2 r:List α}{bR s:Nat}(h:c8 (L++M) M2=some r) [au:p' P t e bR gF] (ax:Rd g a (.a7 en.z ⟨s,[]⟩ (L.length+M.length)):=by exact .q) (qA:g s=some (.bM en.z q L.length M.length (bC en M)):=by rfl) (aq:bH g q=some (aC en L):=by rfl) (J:Rd g b y:=by exact .q) (hm:ov g en y M2:=by (first | exact .i | exact .n | exact .o rfl rfl)) (aX:bR=en.z:=by rfl) (ar:Nat.ble gF 128=true:=by rfl) [eL:HI s g]:bT P g (.call { callee:=.builtin .append,args:=#[a,b],argTypes:=#[t,t] }) ty (.bM en.z ⟨s,[]⟩ (L.length+M.length) M2.length (bC en M2)) :=
 O.E3 ax qA aq J hm (aX ▸ au.p) ar h
theorem O.abW {en:bO β}{r:List (List β)}{bR:Nat}{cW:Value}(h:oO m ([]:List β)=some r) [het:nn P t (List β) (bE en)] [au:eG P t e bR] [hzero:mF P e cW] [i_:EJ P e gF] (J:Rd g a (.lit (.int uJ m)):=by exact .q) (ao:Rd g b (.lit (.int .i64 m)):=by exact .q) (h1:cW.cells.toList.all Value.oneCell'=true:=by rfl) (aa:cW.cells.toList.map ky=[.aP]:=by rfl) (aX:bR=(bE en).z:=by rfl) (ar:Nat.ble gF 128=true:=by rfl):bT P g (.makeSlice t a b) ty (aC (bE en) r) :=
 O.Y_ (aX ▸ au.p) J ao hzero.p h1 aa h i_.p ar
theorem O.abK {en:bO α}{L:List α}{y:α}{bR:Nat} [aF:eG P t e bR] (J:Rd g a (.a7 en.z p L.length):=by exact .q) (aq:bH g p=some (aC en L):=by rfl) (ao:Rd g b (.lit (.int uJ m)):=by exact .q) (aX:bR=en.z:=by rfl) (aK:Nat.blt 0 en.z=true:=by rfl) (h:idx L m=some y:=by assumption):bT P g (.indexAddr t a b) ty (.ptr p (m.toNat * en.z+0)):=O.gN aq J ao (aX ▸ aF.p) h aK
end
def Db (HF:List (Nat × ab)) (ex:List Nat) (Rh:List Nat):List (Nat × ab)->Option (List Nat)
 | []=>some []
 | (k,x)::l=>match Db HF ex (k::Rh) l with
  | none=>none
  | some r=>match !ex.elem k&&!Rh.elem k&&(match x with | .ptr ⟨q,[]⟩ _=>!ex.elem q&&(match get HF q with | some (.obj _)=>true | _=>false) | _=>false) with
   | true=>some (k::r)
   | false=>some r
def rI (g g2:aL) (r:Nat):List (Nat × ab)->Bool
 | []=>true
 | (s,.ptr ⟨q,[]⟩ k)::l=>!Nat.beq s r&&(match g q,g2 q with | some (.obj cs),some (.obj kH)=>Nat.blt k cs.length&&Nat.blt k kH.length | _,_=>false)&&rI g g2 r l
 | _=>false
theorem Qf {g g2:aL}{r:Nat}{s:Nat}{x:ab}{l:List (Nat × ab)}(h:rI g g2 r ((s,x)::l)=true):(∃ q k cs kH,x=.ptr ⟨q,[]⟩ k/\Nat.beq s r=false/\g q=some (.obj cs)/\Nat.blt k cs.length=true/\g2 q=some (.obj kH)/\Nat.blt k kH.length=true)/\rI g g2 r l=true:=by
 unfold rI at h
 split at h
 ·rename_i e; cases e
 ·rename_i cz q k Aa e;cases e;rw [Bool.and_eq_true,Bool.and_eq_true] at h;obtain ⟨⟨h1,af⟩,aF⟩:=h
  split at af
  ·rename_i cs kH ca b6;rw [Bool.and_eq_true] at af;exact ⟨⟨q,k,cs,kH,rfl,by simpa using h1,ca,af.1,b6,af.2⟩,aF⟩
  ·cases af
 ·cases h
theorem NX {g:aL}{r s:Nat}{x y:ab}(h:Nat.beq s r=false) (J:cT g r x s=some y):g s=some y:=by
 unfold cT at J;rw [if_neg (by rintro rfl; rw [Nat.beq_refl] at h; cases h)] at J;exact J
theorem D3 {g:aL}{k:Nat}{ks:List Nat}{G1:List (Nat × ab)}(h:pick g (k::ks)=some G1):∃ x l,g k=some x/\pick g ks=some l/\G1=(k,x)::l:=by
 unfold pick at h
 split at h
 ·rename_i x J
  split at h
  ·rename_i l ah;cases h; exact ⟨x,l,J,ah,rfl⟩
  ·cases h
 ·cases h
theorem GC {g g2:aL}{r:Nat}{cs2:List ab}{T:List (Nat × ab)}(cV:ly g g2 r cs2 T):∀ {ks:List Nat}{G1:List (Nat × ab)},pick (cT g r (.obj cs2)) ks=some G1->(∀ e∈G1,cE e.2)->ly g g2 r cs2 (G1++T)
 | [],_,h,_=>by cases h; exact cV
 | k::ks,G1,h,aB=>by
  obtain ⟨x,l,J,ah,rfl⟩:=D3 h;have aM:=GC cV ah λe h=>aB e (by simp [h]);have e':=aB (k,x) (by simp);by_cases e:Nat.beq k r=true
  ·have:=Nat.eq_of_beq_eq_true e;subst this;simp only [cT,if_true] at J;cases J;have:dm cs2:=⟨by cases e' with | obj h=>exact h⟩;exact .b rfl aM
  ·have:b9 x:=⟨e'⟩;have e:=Bool.eq_false_iff.2 e;exact .n e (NX e J) aM
theorem GD {g g2:aL}{r:Nat}{cs2:List ab}:∀ {ks:List Nat}{G1:List (Nat × ab)},pick (cT g r (.obj cs2)) ks=some G1->rI g g2 r G1=true->ly g g2 r cs2 G1
 | [],_,h,_=>by cases h; exact .nil
 | k::ks,G1,h,aB=>by
  obtain ⟨x,l,J,ah,rfl⟩:=D3 h;obtain ⟨⟨q,j,cs,kH,rfl,h1,af,aF,bh,b7⟩,dp⟩:=Qf aB;exact .p h1 (NX h1 J) af aF bh b7 (GD ah dp)
theorem GA {g g2:aL}{ex:List Nat}{T:List (Nat × ab)}(cV:nt ex g g2 T):∀ {ks:List Nat}{G1:List (Nat × ab)},pick g ks=some G1->(ks.all λk=>!ex.elem k)=true->(∀ e∈G1,cE e.2)->nt ex g g2 (G1++T)
 | [],_,h,_,_=>by cases h; exact cV
 | k::ks,G1,h,he,aB=>by
  obtain ⟨x,l,J,ah,rfl⟩:=D3 h;rw [List.all_cons,Bool.and_eq_true] at he;have:b9 x:=⟨aB (k,x) (by simp)⟩;exact .n (by simpa using he.1) J (GA cV ah he.2 λe h=>aB e (by simp [h]))
theorem GB {g g2:aL}{ex:List Nat}{r:Nat}:∀ {ks:List Nat}{G1:List (Nat × ab)},pick g ks=some G1->(ks.all λk=>!ex.elem k)=true->rI g g2 r G1=true->nt ex g g2 G1
 | [],_,h,_,_=>by cases h; exact .nil
 | k::ks,G1,h,he,aB=>by
  obtain ⟨x,l,J,ah,rfl⟩:=D3 h;rw [List.all_cons,Bool.and_eq_true] at he;obtain ⟨⟨q,j,cs,kH,rfl,h1,af,aF,bh,b7⟩,dp⟩:=Qf aB;exact .p (by simpa using he.1) J bh b7 (GB ah he.2 dp)
def tY:List (Nat × ab)->List (Nat × ab)->Option (List (Nat × ab))
 | [],T=>some T
 | p::l,T=>match tY l T with
  | some r=>some (p::r)
  | none=>none
theorem wQ:∀ {l T r:List (Nat × ab)},tY l T=some r->r=l++T
 | [],_,_,h=>by cases h; rfl
 | p::l,T,r,h=>by
  unfold tY at h
  split at h
  ·rename_i c' hr;cases h; rw [wQ hr]; rfl
  ·cases h
theorem zp {m:Option (List ab)}{ys:List ab}(h:m.bind pg=some ys):m=some ys:=by
 cases ar:m with
 | none=>rw [ar] at h; cases h
 | some c=>rw [ar] at h; rw [Ak h]
theorem b_.nj {P:Program}{g:aL}{xs:List Operand}{fP:Array TypeId}{f:FuncId}{ys args:List ab}{outs:List (Option ab)}{res:ab}(J:(hh g xs).bind pg=some ys) (hv:o0 g ys args) (hf:bP P f args outs res) [hr:qc res] (aV:hA P f=true:=by kernel_rfl) (aW:uM outs=true:=by rfl):b_ P g (.call { callee:=.value (.func f),args:=xs.toArray,argTypes:=fP }) res:=b_.vw (zp J) hv hf aV aW
def q1 (ks iN:List Nat) (P:Program) (N:cP) (g:aL) (o:Oper) (g':aL):Prop:=bl P N g o g'
section
variable {α:Type}{P:Program}{N:cP}{ops:Array Oper}{g:aL}{K:aL->Prop}{l:List Oper}{d r k0 s:Nat}{ty t:TypeId}{pos:String}{after:Array Edge}{a b x:Operand}{cs cs' cs1 cs2:List ab}{y:ab}{G2 j3 jD:List (Nat × ab)}{u:Option (Nat × Bool)}{p q:Place}{ks iN:List Nat}{en:bO α}{L M:List α}
theorem fS.fa (aJ:Rd g a (.ptr ⟨r,[]⟩ k0):=by exact .q) (ax:g r=some (.obj cs):=by rfl) (ar:Rd g b (.agg cs'):=by exact .q) (he:qS cs k0 cs'=some cs2:=by rfl) (aq:pick (cT g r (.obj cs2)) ks=some j3:=by rfl) (a_:pick (cT g r (.obj cs2)) iN=some jD:=by rfl) (df:tY j3 jD=some G2:=by rfl) (c7:rI g (get G2) r jD=true:=by rfl) (aX:hy P t cs'.length=true:=by kernel_rfl) (aK:Nat.blt 0 cs'.length=true:=by rfl) (hr:(get G2 r).isSome=true:=by rfl) [aB:dm cs'] [eL:dm cs] [aQ:j4 j3]:q1 ks iN P N g ⟨none,.store t a b,ty,pos,after,none⟩ (get G2) :=
 .kf rfl rfl ax aJ ar rfl aX (Nat.ble_eq_true_of_le (oe he).2) aK (oe he).1 hr (by have:=wQ df; subst this; exact GC (GD a_ c7) aq aQ.p)
theorem fS.l8 (aJ:Rd g a (.ptr ⟨r,[]⟩ k0):=by exact .q) (ax:g r=some (.obj cs):=by rfl) (ar:Rd g b y:=by exact .q) (aa:o2 y=some [y]:=by rfl) (he:qS cs k0 [y]=some cs2:=by rfl) (aq:pick (cT g r (.obj cs2)) ks=some j3:=by rfl) (a_:pick (cT g r (.obj cs2)) iN=some jD:=by rfl) (df:tY j3 jD=some G2:=by rfl) (c7:rI g (get G2) r jD=true:=by rfl) (aX:hy P t 1=true:=by kernel_rfl) (hr:(get G2 r).isSome=true:=by rfl) [aB:b9 y] [eL:dm cs] [aQ:j4 j3]:q1 ks iN P N g ⟨none,.store t a b,ty,pos,after,none⟩ (get G2) :=
 .kf rfl rfl ax aJ ar aa aX (Nat.ble_eq_true_of_le (oe he).2) rfl (oe he).1 hr (by have:=wQ df; subst this; exact GC (GD a_ c7) aq aQ.p)
theorem fS.k6 (J:Rd g x (.a7 en.z p L.length):=by exact .q) (aq:bH g p=some (aC en L):=by rfl) (hk:pick g ks=some j3:=by rfl) (cQ:(ks.all λk=>![p.root].elem k)=true:=by rfl) (a_:pick g iN=some jD:=by rfl) (df:tY j3 jD=some G2:=by rfl) (CA:(iN.all λk=>![p.root].elem k)=true:=by rfl) (c7:rI g (get G2) 1000000 jD=true:=by rfl) (aQ:get G2 d=none:=by rfl) (bt:N.ok d=true:=by rfl) [aB:j4 j3]:q1 ks iN P N g ⟨some d,.assign x,ty,pos,after,u⟩ (cT (get G2) d (aC en L)) :=
 .EY rfl rfl J aq (by have:=wQ df; subst this; exact GA (GB a_ CA c7) hk cQ aB.p) aQ bt
theorem fS.SL (J:Rd g x y:=by exact .q) (hk:pick g ks=some G2:=by rfl) (aQ:get G2 d=none:=by rfl) (bt:N.ok d=true:=by rfl) [ao:b9 y] [aB:j4 G2]:q1 ks iN P N g ⟨some d,.assign x,ty,pos,after,u⟩ (cT (get G2) d y) :=
 .Bs rfl rfl J (.f .nil) .refl (wo hk aB.p) aQ bt
theorem fS.wS (J:Rd g x (.a7 en.z ⟨s,[]⟩ (L.length+M.length)):=by exact .q) (ax:g s=some (.bM en.z q L.length M.length (bC en M)):=by rfl) (aq:bH g q=some (aC en L):=by rfl) (hk:pick g ks=some j3:=by rfl) (cQ:(ks.all λk=>![s,q.root].elem k)=true:=by rfl) (J_:pick g iN=some jD:=by rfl) (df:tY j3 jD=some G2:=by rfl) (CA:(iN.all λk=>![s,q.root].elem k)=true:=by rfl) (c7:rI g (get G2) 1000000 jD=true:=by rfl) (a_:Nat.beq q.root s=false:=by rfl) (aQ:get G2 d=none:=by rfl) (bt:N.ok d=true:=by rfl) [aB:j4 j3]:q1 ks iN P N g ⟨some d,.assign x,ty,pos,after,u⟩ (cT (get G2) d (aC en (L++M))) :=
 .MF rfl rfl J ax aq a_ (by have:=wQ df; subst this; exact GA (GB J_ CA c7) hk cQ aB.p) aQ bt
theorem fS.u0 {iT y2:α}{m:Int}{o:Nat}{dW x2 y0:ab}(aJ:Rd g a (.ptr p (m.toNat * en.z+o)):=by exact .q) (aq:bH g p=some (aC en L):=by rfl) (h:idx L m=some iT:=by assumption) (ar:Rd g b y:=by exact .q) (aa:o2 y=some cs':=by rfl) (he:e0 (en.cells iT) o cs'=en.cells y2:=by rfl) (ix:ct g p (aC en (L.set m.toNat y2)) p.root=some dW:=by rfl) (gL:Gj dW=some x2:=by rfl) (hk:pick (cT g p.root x2) ks=some G2:=by rfl) (aX:hy P t cs'.length=true:=by kernel_rfl) (hlen:Nat.ble (o+cs'.length) en.z=true:=by rfl) (aK:Nat.blt 0 cs'.length=true:=by rfl) (hr:(get G2 p.root).isSome=true:=by rfl) (rC:g p.root=some y0:=by rfl) [aB:b9 y] [eL:b9 y0] [aQ:j4 G2]:q1 ks iN P N g ⟨none,.store t a b,ty,pos,after,none⟩ (get G2) :=
 .u4 rfl rfl aJ ar aq h aX aa he hlen aK (by rw [ix,P1 gL]) hr rC (Lp hk aQ.p)
theorem fS.E3 {M2:List α}{s2:Nat}(J:Rd g x (.a7 en.z ⟨s,[]⟩ (L.length+M2.length+M.length)):=by exact .q) (ax:g s=some (.bM en.z ⟨s2,[]⟩ (L.length+M2.length) M.length (bC en M)):=by rfl) (ka:g s2=some (.bM en.z q L.length M2.length (bC en M2)):=by rfl) (aq:bH g q=some (aC en L):=by rfl) (a_:Nat.beq q.root s=false:=by rfl) (rr:Nat.beq q.root s2=false:=by rfl) (CP:Nat.beq s s2=false:=by rfl) (hk:pick g ks=some j3:=by rfl) (cQ:(ks.all λk=>![s,s2,q.root].elem k)=true:=by rfl) (J_:pick g iN=some jD:=by rfl) (df:tY j3 jD=some G2:=by rfl) (CA:(iN.all λk=>![s,s2,q.root].elem k)=true:=by rfl) (c7:rI g (get G2) 1000000 jD=true:=by rfl) (aQ:get G2 d=none:=by rfl) (bt:N.ok d=true:=by rfl) [aB:j4 j3]:q1 ks iN P N g ⟨some d,.assign x,ty,pos,after,u⟩ (cT (get G2) d (aC en (L++M2++M))) :=
 .SH rfl rfl J ax ka aq a_ rr CP (by have:=wQ df; subst this; exact GA (GB J_ CA c7) hk cQ aB.p) aQ bt
theorem fS.sp (ar:Rd g b (.a7 en.z ⟨s,[]⟩ (L.length+M.length)):=by exact .q) (qA:g s=some (.bM en.z q L.length M.length (bC en M)):=by rfl) (aq:bH g q=some (aC en L):=by rfl) (aJ:Rd g a (.ptr ⟨r,[]⟩ k0):=by exact .q) (ax:ct (ct g ⟨s,[]⟩ .dead) q .dead r=some (.obj cs1):=by rfl) (he:qS cs1 k0 [aC en (L++M)]=some cs2:=by rfl) (hk:pick (cT (ct (ct g ⟨s,[]⟩ .dead) q .dead) r (.obj cs2)) ks=some j3:=by rfl) (fz:pick (cT (ct (ct g ⟨s,[]⟩ .dead) q .dead) r (.obj cs2)) iN=some jD:=by rfl) (df:tY j3 jD=some G2:=by rfl) (c7:rI (ct (ct g ⟨s,[]⟩ .dead) q .dead) (get G2) r jD=true:=by rfl) (a_:Nat.beq q.root s=false:=by rfl) (aX:hy P t 1=true:=by kernel_rfl) (hr:(get G2 r).isSome=true:=by rfl) [eL:dm cs1] [aQ:j4 j3]:q1 ks iN P N g ⟨none,.store t a b,ty,pos,after,none⟩ (get G2) :=
 .Hb rfl rfl aJ ar qA aq a_ .jz .hZ rfl rfl aX ax (Nat.ble_eq_true_of_le (oe he).2) (oe he).1 hr (by have:=wQ df; subst this; exact GC (GD fz c7) hk aQ.p)
end
def KU:Nat->List (Option ab)->Option (Nat × List ab)
 | _,[]=>none
 | k,some (.obj cs)::_=>some (k,cs)
 | k,none::l=>KU (k+1) l
 | _,_=>none
def PM (g:aL) (xs:List Operand) (k:Nat):Option Nat :=
 match xs[k]? with
 | some (.tmp t)=>match g t with
  | some (.ptr ⟨r,[]⟩ 0)=>some r
  | some (.obj _)=>some t
  | _=>none
 | _=>none
theorem fS.jW {P:Program}{N:cP}{g:aL}{d r k0:Nat}{ty:TypeId}{pos:String}{after:Array Edge}{u:Option (Nat × Bool)}{f:FuncId}{xs:List Operand}{fP:Array TypeId}{ys args cs cs':List ab}{outs:List (Option ab)}{res:ab}{ks:List Nat}{G2:List (Nat × ab)}
  (hf:bP P f args outs res) (ah:KU 0 outs=some (k0,cs')) (hr:PM g xs k0=some r) (aq:pick (ct g ⟨r,[]⟩ .dead) ks=some G2) (J:(hh g xs).bind pg=some ys) (aJ:om r cs k0 0 ys args) (ax:g r=some (.obj cs):=by rfl) (he:outs=v7 args.length k0 (.obj cs'):=by rfl) (nB:Nat.blt k0 ys.length=true:=by rfl) (aV:hA P f=true:=by kernel_rfl) (aQ:get G2 d=none:=by rfl) (uz:Nat.beq r d=false:=by rfl) (J6:pick (get ((r,.obj cs')::G2)) ks=some G2:=by rfl) (bt:N.ok d=true:=by rfl) [eL:dm cs] [dI:b9 res] [FH:dm cs'] [aB:j4 G2] :
  bl P N g ⟨some d,.call { callee:=.value (.func f),args:=xs.toArray,argTypes:=fP },ty,pos,after,u⟩ (get ((d,res)::(r,.obj cs')::G2)) :=
 .call rfl bt (k1.jW (A:=[]) rfl rfl (zp J) ax aJ nB (he ▸ hf) aV (wo aq aB.p) aQ uz (wo J6 aB.p) .nil bt)
def r_:Acc->List (Nat × ab)->List (Nat × ab)
 | [],G=>G
 | (_,d,some x)::acc,G=>(d,x)::r_ acc G
 | (_,_,none)::acc,G=>r_ acc G
def gw (ev:List Nat) (P:Program) (N:cP) (ops:Array Oper) (bj:List (List Nat)) (g0:aL) (i:Nat) (acc:Acc) (l:List Oper) (K:aL->Prop):Prop:=bB P N ops bj g0 i acc l K
section
variable {α β:Type}{P:Program}{N:cP}{ops:Array Oper}{bj:List (List Nat)}{acc:Acc}{E ks:List Nat}{t x y z:lL}{A B c:Code}{G G1 G2:List (Nat × ab)}{g:aL}{g':aL}{Φ q0:Exit->aL->Prop}{Ψ:aL->Prop}{K:aL->Prop}{id k s d i bX j cz:Nat}{b bY:Bool}{l:List Oper}{o:Oper}{op:Op}{ty yK:TypeId}{pos:String}{after:Array Edge}{v y':ab}{u:Option (Nat × Bool)}{a aw a2:Operand}
theorem cJ.aap (h:cJ E t P N .ret G Φ):cJ E t P N .ret G Φ:=h
theorem aE.ts (h:aE P N ops (⟨none,.store ty aw a2,yK,pos,after,u⟩::l) g K):aE P N ops (⟨none,.store ty aw a2,yK,pos,after,u⟩::l) g K:=h
theorem gw.ts {ev:List Nat}(h:gw ev P N ops bj g i acc (⟨none,.store ty aw a2,yK,pos,after,u⟩::l) K):gw ev P N ops bj g i acc (⟨none,.store ty aw a2,yK,pos,after,u⟩::l) K:=h
theorem gw.dg (op:Op) (u:Option (Nat × Bool)) {ev:List Nat}(h:gw ev P N ops bj g i acc (⟨some d,op,ty,pos,after,u⟩::l) K):gw ev P N ops bj g i acc (⟨some d,op,ty,pos,after,u⟩::l) K:=h
theorem gw.nl {ev:List Nat}(h:gw ev P N ops bj g i acc [] K):gw ev P N ops bj g i acc [] K:=h
def GK (g:aL) (d:Nat):Operand->Option ab
 | .tmp t=>bif Nat.beq t d then none else GL g t
 | .const v=>GJ g (.const v)
 | _=>none
theorem Rd.qL {g:aL}{a:Operand}{y:ab}(h:GK g d a=some y):Rd (del g d) a y:=by
 unfold GK at h
 split at h
 ·rename_i t;cases ar:Nat.beq t d with
  | true=>rw [ar] at h; cases h
  | false =>
   rw [ar] at h;have cQ:t≠d:=Nat.ne_of_beq_eq_false ar;refine Rd.Lt ?_;unfold GL at h ⊢;simpa [del,cQ] using h
 ·exact .q (by unfold GJ at h ⊢; exact h)
 ·cases h
theorem SB {y':ab}(J:GK (get G) d a=some v) (aV:get G d=some y') (ah:leaf y'=true) (hk:aE P N ops l (get ((d,v)::G)) K) (bt:N.ok d=true:=by rfl):aE P N ops (⟨some d,.assign a,ty,pos,after,none⟩::l) (get G) K:=.over (.assign (Rd.qL J).bw) bt aV ah (sf ▸ hk)
theorem SC {y':ab}(J:GK (get G) d a=some v) (aV:get G d=some y') (ah:leaf y'=true) (hk:aE P N ops l (get ((d,v)::G)) K) (bt:N.ok d=true:=by rfl):aE P N ops (⟨some d,.move a,ty,pos,after,none⟩::l) (get G) K:=.over (.move (Rd.qL J).bw) bt aV ah (sf ▸ hk)
theorem Sg {iN:List Nat}(nB:vX [] G=some ks) (gy:Db G [] [] G=some iN) (he:q1 ks iN P N (get G) o (get G2)) (hk:aE P N ops l (get G2) K) (aQ:o.guard=none:=by rfl):aE P N ops (o::l) (get G) K:=.jq aQ he hk
theorem Se {f:FuncId}{xs:List Operand}{fP:Array TypeId}{ys args cs cs':List ab}{outs:List (Option ab)}{res:ab}{r k0:Nat}(hf:bP P f args outs res) (ah:KU 0 outs=some (k0,cs')) (hr:PM (get G) xs k0=some r) (hk:vX [r,d] G=some ks) (aq:pick (ct (get G) ⟨r,[]⟩ .dead) ks=some G2) (J:(hh (get G) xs).bind pg=some ys) (aJ:om r cs k0 0 ys args) (c6:aE P N ops l (get ((d,res)::(r,.obj cs')::G2)) K) (ax:get G r=some (.obj cs):=by rfl) (he:outs=v7 args.length k0 (.obj cs'):=by rfl) (nB:Nat.blt k0 ys.length=true:=by rfl) (aV:hA P f=true:=by kernel_rfl) (aQ:get G2 d=none:=by rfl) (uz:Nat.beq r d=false:=by rfl) (J6:pick (get ((r,.obj cs')::G2)) ks=some G2:=by rfl) (bt:N.ok d=true:=by rfl) [eL:dm cs] [dI:b9 res] [FH:dm cs'] [aB:j4 G2] :
  aE P N ops (⟨some d,.call { callee:=.value (.func f),args:=xs.toArray,argTypes:=fP },ty,pos,after,none⟩::l) (get G) K:=.jq rfl (fS.jW hf ah hr aq J aJ ax he nB aV aQ uz J6 bt) c6
theorem Sf {iN:List Nat}(nB:vX (d::roots G a) G=some ks) (gy:Db G (d::roots G a) [] G=some iN) (he:q1 ks iN P N (get G) ⟨some d,.assign a,ty,pos,after,none⟩ (cT (get G2) d v)) (hk:aE P N ops l (get ((d,v)::G2)) K):aE P N ops (⟨some d,.assign a,ty,pos,after,none⟩::l) (get G) K:=.rh rfl he (sf ▸ hk)
theorem Sx {L:List α}{f:List α->Option β}{Lz:β}{M:List α}{e eZ bR:Nat}{my:TypeId}{parts:Array (Nat × Operand)}{ys:List ab}{en:bO α}(h:(c8 L M).bind f=some Lz) [het:nn P my α en] [au:eG P my e bR] (hk:aE P N ops l (get ((d,ak en M)::G)) K) (J:(hh (get G) (parts.toList.map (·.2))).bind pg=some ys:=by rfl) (aa:o1 ys=some (bC en M):=by rfl) (aX:ys.all (λy=>match j9 y with | some c=>Nat.beq c.length en.z | none=>false)=true:=by rfl) (aq:parts.toList=(parts.toList.map (·.2)).mapIdx (λi x=>(i,x)):=by rfl) (rp:(parts.toList.map (·.2)).length=eZ:=by rfl) (ah:M.length=eZ:=by rfl) (uu:bR=en.z:=by rfl) (hzero:jh P e en.z=true:=by kernel_rfl) (ar:Nat.ble (eZ * en.z) 16777216=true:=by rfl) (fm:Nat.ble eZ 16777216=true:=by rfl) [hv:j8 (aC en M) (ak en M)] (bt:N.ok d=true:=by rfl) (aV:get G d=none:=by rfl):aE P N ops (⟨some d,.buildSlice my eZ parts,ty,pos,after,none⟩::l) (get G) K :=
 .fb (O.de en M (uu ▸ au.p) (zp J) aa aX aq rp ah hzero ar fm) bt aV .none (sf ▸ hk)
theorem Sz {M:List α}{e eZ bR:Nat}{my:TypeId}{parts:Array (Nat × Operand)}{ys:List ab}{en:bO α}(ax:LI d l=true) [het:nn P my α en] [au:eG P my e bR] (hk:aE P N ops l (get ((d,ak en M)::G)) K) (J:(hh (get G) (parts.toList.map (·.2))).bind pg=some ys:=by rfl) [aR:va en ys M] (aq:parts.toList=(parts.toList.map (·.2)).mapIdx (λi x=>(i,x)):=by rfl) (rp:(parts.toList.map (·.2)).length=eZ:=by rfl) (ah:ys.length=eZ:=by rfl) (uu:bR=en.z:=by rfl) (hzero:jh P e en.z=true:=by kernel_rfl) (ar:Nat.ble (eZ * en.z) 16777216=true:=by rfl) (fm:Nat.ble eZ 16777216=true:=by rfl) [hv:j8 (aC en M) (ak en M)] (bt:N.ok d=true:=by rfl) (aV:get G d=none:=by rfl):aE P N ops (⟨some d,.buildSlice my eZ parts,ty,pos,after,none⟩::l) (get G) K :=
 .fb (O.de en M (uu ▸ au.p) (zp J) aR.p.1 aR.p.2.1 aq rp (aR.p.2.2.trans ah) hzero ar fm) bt aV .none (sf ▸ hk)
theorem HA {ev:List Nat}(aq:bT P (kS bj g bX acc) op ty v) (hk:gw ev P N ops bj g i ((bX,d,some v)::acc) l K) (ag:Nat.beq ops.size (bX+l.length+1)=true:=by rfl) (aV:g d=none:=by rfl) (aB:acc.all (λe=>!Nat.beq e.2.1 d)=true:=by rfl) (bt:N.ok d=true:=by rfl):gw (bX::ev) P N ops bj g i acc (⟨some d,op,ty,pos,after,none⟩::l) K:=av _ aq hk ag aV aB bt
theorem HB {ev:List Nat}(aq:bT P (kS bj g bX acc) op ty v) (hk:gw ev P N ops bj g i ((bX,d,some v)::acc) l K) (h:(ops[j]?).bind (·.dst)=some cz:=by rfl) (aQ:kS bj g bX acc cz=some (.lit (.bool bY)):=by rfl) (ar:bY=b:=by (first | rfl | assumption)) (ag:Nat.beq ops.size (bX+l.length+1)=true:=by rfl) (aV:g d=none:=by rfl) (aB:acc.all (λe=>!Nat.beq e.2.1 d)=true:=by rfl) (bt:N.ok d=true:=by rfl):gw (bX::ev) P N ops bj g i acc (⟨some d,op,ty,pos,after,some (j,b)⟩::l) K:=.v _ aq ag aV aB bt (.kX h aQ ar) hk
theorem Mj {ev:List Nat}(aq:b_ P (kS bj g bX acc) op v) (hk:gw ev P N ops bj g i ((bX,d,some v)::acc) l K) (ag:Nat.beq ops.size (bX+l.length+1)=true:=by rfl) (aV:g d=none:=by rfl) (aB:acc.all (λe=>!Nat.beq e.2.1 d)=true:=by rfl) (bt:N.ok d=true:=by rfl):gw (bX::ev) P N ops bj g i acc (⟨some d,op,ty,pos,after,none⟩::l) K:=.c _ aq ag aV aB bt .none hk
theorem Mi {ev:List Nat}(aq:b_ P (kS bj g bX acc) op v) (hk:gw ev P N ops bj g i ((bX,d,some v)::acc) l K) (h:(ops[j]?).bind (·.dst)=some cz:=by rfl) (aQ:kS bj g bX acc cz=some (.lit (.bool bY)):=by rfl) (ar:bY=b:=by (first | rfl | assumption)) (ag:Nat.beq ops.size (bX+l.length+1)=true:=by rfl) (aV:g d=none:=by rfl) (aB:acc.all (λe=>!Nat.beq e.2.1 d)=true:=by rfl) (bt:N.ok d=true:=by rfl):gw (bX::ev) P N ops bj g i acc (⟨some d,op,ty,pos,after,some (j,b)⟩::l) K:=.c _ aq ag aV aB bt (.kX h aQ ar) hk
theorem Sb {ev:List Nat}(hk:gw ev P N ops bj g i ((bX,d,some (.bS []))::acc) l K) (h:(ops[j]?).bind (·.dst)=some cz:=by rfl) (aQ:kS bj g bX acc cz=some (.lit (.bool bY)):=by rfl) (ar:bY=!b:=by (first | rfl | assumption)) (ag:Nat.beq ops.size (bX+l.length+1)=true:=by rfl) (aV:g d=none:=by rfl) (aB:acc.all (λe=>!Nat.beq e.2.1 d)=true:=by rfl) (bt:N.ok d=true:=by rfl):gw (bX::ev) P N ops bj g i acc (⟨some d,op,ty,pos,after,some (j,b)⟩::l) K:=.ps _ h aQ ar ag aV aB bt hk
theorem Sc {ev:List Nat}(hk:gw ev P N ops bj g i ((bX,d,some (.bS []))::acc) l K) (h:(ops[j]?).bind (·.dst)=some cz:=by rfl) (aQ:kS bj g bX acc cz=some (.bS []):=by rfl) (ag:Nat.beq ops.size (bX+l.length+1)=true:=by rfl) (aV:g d=none:=by rfl) (aB:acc.all (λe=>!Nat.beq e.2.1 d)=true:=by rfl) (bt:N.ok d=true:=by rfl):gw (bX::ev) P N ops bj g i acc (⟨some d,op,ty,pos,after,some (j,b)⟩::l) K:=.pu _ h aQ ag aV aB bt hk
theorem R8 {ev:List Nat}{L:List α}{f:List α->Option β}{Lz:β}{M:List α}{e eZ bR:Nat}{my:TypeId}{parts:Array (Nat × Operand)}{ys:List ab}{en:bO α}(h:(c8 L M).bind f=some Lz) [het:nn P my α en] [au:eG P my e bR] (hk:gw ev P N ops bj g i ((bX,d,some (ak en M))::acc) l K) (J:(hh (kS bj g bX acc) (parts.toList.map (·.2))).bind pg=some ys:=by rfl) (aa:o1 ys=some (bC en M):=by rfl) (aX:ys.all (λy=>match j9 y with | some c=>Nat.beq c.length en.z | none=>false)=true:=by rfl) (aq:parts.toList=(parts.toList.map (·.2)).mapIdx (λi x=>(i,x)):=by rfl) (rp:(parts.toList.map (·.2)).length=eZ:=by rfl) (ah:M.length=eZ:=by rfl) (uu:bR=en.z:=by rfl) (hzero:jh P e en.z=true:=by kernel_rfl) (ar:Nat.ble (eZ * en.z) 16777216=true:=by rfl) (fm:Nat.ble eZ 16777216=true:=by rfl) [hv:j8 (aC en M) (ak en M)] (ag:Nat.beq ops.size (bX+l.length+1)=true:=by rfl) (aV:g d=none:=by rfl) (aB:acc.all (λe=>!Nat.beq e.2.1 d)=true:=by rfl) (bt:N.ok d=true:=by rfl):gw (bX::ev) P N ops bj g i acc (⟨some d,.buildSlice my eZ parts,ty,pos,after,none⟩::l) K :=
 bB.fb bX (O.de en M (uu ▸ au.p) (zp J) aa aX aq rp ah hzero ar fm) ag aV aB bt .none hk
theorem R9 {ev:List Nat}{M:List α}{e eZ bR:Nat}{my:TypeId}{parts:Array (Nat × Operand)}{ys:List ab}{en:bO α}(ax:LI d l=true) [het:nn P my α en] [au:eG P my e bR] (hk:gw ev P N ops bj g i ((bX,d,some (ak en M))::acc) l K) (J:(hh (kS bj g bX acc) (parts.toList.map (·.2))).bind pg=some ys:=by rfl) [aR:va en ys M] (aq:parts.toList=(parts.toList.map (·.2)).mapIdx (λi x=>(i,x)):=by rfl) (rp:(parts.toList.map (·.2)).length=eZ:=by rfl) (ah:ys.length=eZ:=by rfl) (uu:bR=en.z:=by rfl) (hzero:jh P e en.z=true:=by kernel_rfl) (ar:Nat.ble (eZ * en.z) 16777216=true:=by rfl) (fm:Nat.ble eZ 16777216=true:=by rfl) [hv:j8 (aC en M) (ak en M)] (ag:Nat.beq ops.size (bX+l.length+1)=true:=by rfl) (aV:g d=none:=by rfl) (aB:acc.all (λe=>!Nat.beq e.2.1 d)=true:=by rfl) (bt:N.ok d=true:=by rfl):gw (bX::ev) P N ops bj g i acc (⟨some d,.buildSlice my eZ parts,ty,pos,after,none⟩::l) K :=
 bB.fb bX (O.de en M (uu ▸ au.p) (zp J) aR.p.1 aR.p.2.1 aq rp (aR.p.2.2.trans ah) hzero ar fm) ag aV aB bt .none hk
theorem Sa {ev:List Nat}{iN:List Nat}(nB:vX [] (r_ acc G)=some ks) (gy:Db (r_ acc G) [] [] (r_ acc G)=some iN) (he:q1 ks iN P N (dq (get G) (λ_=>true) acc) o (get G2)) (hk:gw ev P N ops bj (get G2) (bX+1) [] l K) (aQ:o.guard=none:=by rfl) (gT:sI ((acc.filterMap lp).map Place.root)=true:=by rfl) (fN:ob G=true:=by rfl) (ag:Nat.beq ops.size (bX+l.length+1)=true:=by rfl)
  (aJ:(List.range bX).all (λk=>(bj.getD bX []).contains k)=true:=by kernel_rfl) (ar:(List.range ops.size).all (λk=>Nat.ble k bX||(bj.getD k []).contains bX)=true:=by kernel_rfl):gw (bX::ev) P N ops bj (get G) i acc (o::l) K:=.zq _ he aQ gT fN ag aJ ar hk
theorem R_ {ev:List Nat}{iN:List Nat}(nB:vX (d::roots (r_ acc G) a) (r_ acc G)=some ks) (gy:Db (r_ acc G) (d::roots (r_ acc G) a) [] (r_ acc G)=some iN) (he:q1 ks iN P N (dq (get G) (λ_=>true) acc) ⟨some d,.assign a,ty,pos,after,none⟩ (cT (get G2) d v)) (hk:gw ev P N ops bj (get ((d,v)::G2)) (bX+1) [] l K) (gT:sI ((acc.filterMap lp).map Place.root)=true:=by rfl) (fN:ob G=true:=by rfl) (ag:Nat.beq ops.size (bX+l.length+1)=true:=by rfl)
  (aJ:(List.range bX).all (λk=>(bj.getD bX []).contains k)=true:=by kernel_rfl) (ar:(List.range ops.size).all (λk=>Nat.ble k bX||(bj.getD k []).contains bX)=true:=by kernel_rfl):gw (bX::ev) P N ops bj (get G) i acc (⟨some d,.assign a,ty,pos,after,none⟩::l) K:=.bv _ he rfl gT fN ag aJ ar hk
theorem bB.Nz {K:aL->Prop}(aX:x4 (acc.filterMap lp)=true) (fN:ob G=true) (hi:Nat.ble i ops.size=true) (c6:K (dq (get G) (λ_=>true) acc)):bB P N ops bj (get G) i acc [] K:=by
 intro dB j bI l1 mj;have ag:j=ops.size:=by
  have h1:ops.size<=j:=by
   have:=congrArg List.length mj;rw [List.length_drop,List.length_nil,Array.length_toList] at this;omega
  have aF:j<=ops.size:=by
   cases l1 with
   | nil=>exact Nat.le_of_ble_eq_true hi
   | step _ aW=>have:=(Array.getElem?_eq_some_iff.1 aW).1; omega
  omega
 subst ag;exact ⟨_,.fin l1 (K6 aX) (x6 fN),c6⟩
theorem R7 {ev:List Nat}{EC:lL->List (Nat × ab)->Prop}(nB:KR E [] (r_ acc G)=some ks) (aq:pick (dq (get G) (λ_=>true) acc) ks=some G1) [aB:j4 G1] (hk:EC t G1) (aX:x4 (acc.filterMap lp)=true:=by rfl) (fN:ob G=true:=by rfl) (hi:Nat.ble i ops.size=true:=by rfl):gw ev P N ops bj (get G) i acc [] (y9 E t EC) :=
 .Nz aX fN hi ⟨G1,(wo (c:=true) (g2:=get G1) aq aB.p).e7,hk⟩
theorem R6 {ev:List Nat}{F:α->List (Nat × ab)}{j v:α}(h:some v=some j) (au:Trim true (dq (get G) (λ_=>true) acc) (get (F v)) (F v)) (aX:x4 (acc.filterMap lp)=true:=by rfl) (fN:ob G=true:=by rfl) (hi:Nat.ble i ops.size=true:=by rfl):gw ev P N ops bj (get G) i acc [] (s0 F j .normal):=by
 cases h; exact .Nz aX fN hi ⟨rfl,.e7 au.e7 .hZ⟩
theorem cJ.rd [hm:EI P] (h:gw num P N l.toArray bj (get G) 0 [] l (y9 E y λt G1=>cJ E t P N B G1 Φ)) (dC:qk l.toArray bj=true:=by kernel_rfl):cJ E (.rd id bj y) P N (.seq (.region id l.toArray true) B) G Φ:=by
 obtain ⟨g',h1,G1,af,aF⟩:=h [] 0 .nil .nil (by simp);exact W.seq ((lK.draw hm.p dC h1).w (W.weaken af aF))
theorem cJ.b0 {m:Option α}{f:α->Option β}{r:β}{L cS:α->List (Nat × ab)} [hm:EI P] (h:m.bind f=some r) (h1:∀ j,m=some j->gw num P N l.toArray bj (get G) 0 [] l (s0 cS j .normal)) (af:∀ j,m=some j->f j=some r->cJ E y P N B (cS j) Φ)
  (aH:∀ j,pick (qL (L j) G) ks=some (cS j):=by intro j; rfl) (dC:qk l.toArray bj=true:=by kernel_rfl):cJ E (.b0 id bj ks L y) P N (.seq (.region id l.toArray true) B) G Φ:=by
 obtain ⟨j,ag,h⟩:=vj h;obtain ⟨g',ca,_,eI⟩:=h1 j ag [] 0 .nil .nil (by simp);exact W.seq ((lK.draw hm.p dC ca).w (W.be (af j ag h) eI))
theorem cJ.aab [hm:EI P] (h:gw num P N l.toArray bj (get G) 0 [] l (y9 E y λt G1=>dY E t .normal Φ G1)) (dC:qk l.toArray bj=true:=by kernel_rfl):cJ E (.rd id bj y) P N (.region id l.toArray true) G Φ:=by
 obtain ⟨g',h1,G1,af,aF⟩:=h [] 0 .nil .nil (by simp);exact (lK.draw hm.p dC h1).w (aF g' (.e7 af .hZ))
theorem cJ.aah {m:Option α}{f:α->Option β}{r:β}{L cS:α->List (Nat × ab)}(h:m.bind f=some r) (h1:∀ j,m=some j->aE P N l.toArray l (get G) (s0 cS j .normal)) (af:∀ j,m=some j->f j=some r->dY E y .normal Φ (cS j))
  (aH:∀ j,pick (qL (L j) G) ks=some (cS j):=by intro j; rfl):cJ E (.eM id ks L y) P N (.region id l.toArray false) G Φ:=by
 obtain ⟨j,ag,h⟩:=vj h;exact W.D_ λi hi=>by
  obtain ⟨g',ca,_,eI⟩:=h1 j ag i hi;exact ⟨g',ca,af j ag h _ eI⟩
theorem cJ.gg {S R gx:Type}{f:S->Option (S ⊕ (R ⊕ gx))}{s:S}{IZ:R ⊕ gx->Option β}{r:β}{F cS:S->List (Nat × ab)}{ks sF Dc:List Nat}{X mK:R->List (Nat × ab)}{Y tX:gx->List (Nat × ab)}(h:(cg f s).bind IZ=some r)
  (ar:∀ s o,f s=some o->cJ E x P N c (cS s) (lx cS (Bl id mK tX) o)) (J:∀ c',IZ (.inl c')=some r->dY E y (.exit id) Φ (mK c')) (ao:∀ c',IZ (.inr c')=some r->dY E z .ret Φ (tX c'))
  (aH:∀ s,pick (qL (F s) G) ks=some (cS s):=by intro s; rfl) (eU:∀ s,pick (qL (X s) G) sF=some (mK s):=by intro s; rfl) (Cd:∀ s,pick (qL (Y s) G) Dc=some (tX s):=by intro s; rfl) (au:Trim true (get G) (get (cS s)) (cS s):=by (repeat' first | exact .nil | refine .n rfl ?_ | refine .w rfl rfl .p1 ?_ | refine .w rfl rfl .p0 ?_ | refine .w rfl rfl (kl.obj (by (repeat' first | exact .nil | refine .f ?_ | refine .o ?_ | refine .i ?_))) ?_)) :
  cJ E (.gg F ks id X sF Y Dc x y z) P N (.loop c) G Φ:=by
 obtain ⟨c',ah,h⟩:=vj h;exact W.c3 au (W.PL cS id mK tX ah ar (λq e=>J q (e ▸ h)) (λq e=>ao q (e ▸ h)))
theorem dY.x2 {S R gx:Type}{r:R}{o:S ⊕ (R ⊕ gx)}{F:S->List (Nat × ab)}{X:R->List (Nat × ab)}{Y:gx->List (Nat × ab)}(h:some (.inr (.inl r))=some o) (au:Trim true (get G) (get (X r)) (X r)):dY E t (.exit id) (lx F (Bl id X Y) o) G:=by
 cases h; exact ay.x2 au
theorem dY.iQ {S R gx:Type}{r:gx}{o:S ⊕ (R ⊕ gx)}{F:S->List (Nat × ab)}{X:R->List (Nat × ab)}{Y:gx->List (Nat × ab)}(h:some (.inr (.inr r))=some o) (au:Trim true (get G) (get (Y r)) (Y r)):dY E t .ret (lx F (Bl id X Y) o) G:=by
 cases h; exact ay.iQ au
end
section
variable {P:Program}{N:cP}{E:List Nat}{t x y z:lL}{A B c:Code}{G:List (Nat × ab)}{Φ:Exit->aL->Prop}{id k s:Nat}{o:Operand}
theorem kk.dP {α:Type}{en:bO α}{i:Option Nat}(h:cJ E (.dP id s i en y) P N c G Φ):cJ E (.dP id s i en y) P N c G Φ:=h
theorem kk.hM {α:Type}{en:bO α}{i:Option Nat}(h:cJ E (.hM s i en y) P N c G Φ):cJ E (.hM s i en y) P N c G Φ:=h
theorem kk.eM {α:Type}{ks:List Nat}{L:α->List (Nat × ab)}(h:cJ E (.eM id ks L y) P N c G Φ):cJ E (.eM id ks L y) P N c G Φ:=h
theorem kk.b0 {α:Type}{bj:List (List Nat)}{ks:List Nat}{L:α->List (Nat × ab)}(h:cJ E (.b0 id bj ks L y) P N c G Φ):cJ E (.b0 id bj ks L y) P N c G Φ:=h
theorem kk.rd {bj:List (List Nat)}(h:cJ E (.rd id bj y) P N c G Φ):cJ E (.rd id bj y) P N c G Φ:=h
theorem kk.bN (h:cJ E t P N (.cond o A B) G Φ):cJ E t P N (.cond o A B) G Φ:=h
theorem kk.e5 (h:cJ E t P N (.loop A) G Φ):cJ E t P N (.loop A) G Φ:=h
theorem kk.KN {α:Type}{ks:List Nat}{L:α->List (Nat × ab)}(h:cJ E (.dD ks L x y) P N (.block id A) G Φ):cJ E (.dD ks L x y) P N (.block id A) G Φ:=h
theorem kk.rg {ops:Array Oper}{b:Bool}(h:cJ E t P N (.region id ops b) G Φ):cJ E t P N (.region id ops b) G Φ:=h
theorem kk.ZP {S R:Type}{F:S->List (Nat × ab)}{Ψ:R->Exit->aL->Prop}{o:S ⊕ R}{e:Exit}(h:dY E t e (lx F Ψ o) G):dY E t e (lx F Ψ o) G:=h
theorem kk.ZS {α:Type}{F:α->List (Nat × ab)}{j:α}{e:Exit}(h:dY E t e (s0 F j) G):dY E t e (s0 F j) G:=h
theorem kk.Tt (h:dY E t (.exit k) (mr id Φ) G):dY E t (.exit k) (mr id Φ) G:=h
theorem kk.rM {rs:List ResultVar}{n:Nat}{outs:List (Option ab)}{res:ab}{e:Exit}(h:dY E t e (qa P N rs n outs res) G):dY E t e (qa P N rs n outs res) G:=h
end
section
variable {P:Program}{N:cP}{E:List Nat}{t:lL}{G:List (Nat × ab)}{g':aL}{rs:List ResultVar}{ys xs:List ab}{res:ab}{outs:List (Option ab)}{n:Nat}
theorem ki.Ni {g xb:aL}{s z:Nat}{my:TypeId}{cs ys0:List ab}{rs:List ResultVar}{ys xs:List ab}(h:g s=some (.obj cs)) [au:mc P my z] (aX:cs.length=z) (aK:Nat.blt 0 z=true) (ao:yA (λi x=>fY 0 ⟨s,[i]⟩ x) 0 num cs=some ys0) (hk:nR s g 0 ys0 cs xb) (hr:ki P xb rs ys xs g'):ki P g (.cell s my::rs) (.agg ys0::ys) (.agg cs::xs) g':=.c h au.p aX aK (by have:=D' ao; simpa using this) hk hr
theorem dY.dN (h:ki P (get G) rs ys xs g':=by (repeat' first | exact .nil | (apply ki.f rfl rfl) | (apply ki.o rfl) | (apply ki.Ni rfl rfl rfl rfl) | (apply nR.f rfl) | (apply nR.o rfl))) (he:p4 xs=res:=by rfl) (aW:q_ g' N.pins 0 outs:=by (repeat' first | exact .nil | refine .no ?_ | refine .al rfl rfl ?_)) (eA:(rs.filterMap fun | .cell t _=>some t | _=>none).Nodup:=by exact of_decide_eq_true (by kernel_rfl)) (ah:outs.length=n:=by rfl):dY E t .ret (qa P N rs n outs res) G:=jF h he aW eA ah
theorem dY.fn (h:ki P (get G) rs ys xs g':=by (repeat' first | exact .nil | (apply ki.f rfl rfl) | (apply ki.o rfl) | (apply ki.Ni rfl rfl rfl rfl) | (apply nR.f rfl) | (apply nR.o rfl))) (he:p4 xs=res:=by rfl) (aW:q_ g' N.pins 0 outs:=by (repeat' first | exact .nil | refine .no ?_ | refine .al rfl rfl ?_)) (eA:(rs.filterMap fun | .cell t _=>some t | _=>none).Nodup:=by exact of_decide_eq_true (by kernel_rfl)) (ah:outs.length=n:=by rfl):dY E t .normal (qa P N rs n outs res) G:=ay.fin (Fin.ro h he eA aW ah (.inl rfl))
theorem bT.dg {P:Program}{g:aL}{ty:TypeId}{v:ab}(op:Op) (h:bT P g op ty v):bT P g op ty v:=h
theorem ps {P:Program}{g:aL}{op:Op}{ty:TypeId}{v:ab}(h:bT P g op ty v:=by (first
 | ((with_reducible apply bT.dg (.move _)); exact O.aO .q)
 | ((with_reducible apply bT.dg (.assign (.const _))); exact O.az .q)
 | ((with_reducible apply bT.dg (.assign (.tmp _))); exact O.az .Lt)
 | ((with_reducible apply bT.dg (.load _ _)); first | exact O.ij | exact O.hz | exact O.L0 | exact O.L1 | exact O.abE | exact O.abJ | exact O.afR)
 | ((with_reducible apply bT.dg (.fieldAddr _ _ _)); first | exact O.abB | exact O.abC | exact O.wf)
 | ((with_reducible apply bT.dg (.indexAddr _ _ _)); first | exact O.e7 | exact O.abK)
 | ((with_reducible apply bT.dg (.binOp .add _ _ _ _)); exact O.add .q .q)
 | ((with_reducible apply bT.dg (.binOp .sub _ _ _ _)); exact O.sub .q .q)
 | ((with_reducible apply bT.dg (.binOp .mul _ _ _ _)); exact O.mul .q .q)
 | ((with_reducible apply bT.dg (.binOp .lss _ _ _ _)); exact O.lss .q .q)
 | ((with_reducible apply bT.dg (.binOp .leq _ _ _ _)); exact O.leq .q .q)
 | ((with_reducible apply bT.dg (.binOp .gtr _ _ _ _)); exact O.gtr .q .q)
 | ((with_reducible apply bT.dg (.binOp .geq _ _ _ _)); exact O.geq .q .q)
 | ((with_reducible apply bT.dg (.binOp .eql _ _ _ _)); first | exact O.eql .q .q | exact O.s' .q .q | exact O.Vj .q .q (by kernel_rfl) | exact O.qV)
 | ((with_reducible apply bT.dg (.binOp .neq _ _ _ _)); first | exact O.neq .q .q | exact O.qJ .q .q | exact O.wn)
 | ((with_reducible apply bT.dg (.unOp .not _ _)); exact O.not .q)
 | ((with_reducible apply bT.dg (.unOp .neg _ _)); exact O.neg .q)
 | ((with_reducible apply bT.dg (.pick _ _ _)); first | exact O.gB .q (by first | rfl | assumption) .q | exact O.gA .q (by first | rfl | assumption) .q)
 | ((with_reducible apply bT.dg (.nilCheck _)); first | exact O.cR .q | exact O.Dm .q)
 | ((with_reducible apply bT.dg (.extract _ _)); exact O.abV)
 | ((with_reducible apply bT.dg (.convert _ _ _)); first | exact O.abI | exact O.abH)
 | ((with_reducible apply bT.dg (.box _ _)); exact O.abz)
 | ((with_reducible apply bT.dg (.alloc _)); first | exact O.afP | exact O.abF)
 | ((with_reducible apply bT.dg (.build _ _)); exact O.abT)
 | ((with_reducible apply bT.dg (.field _ _ _)); exact O.wd)
 | ((with_reducible apply bT.dg (.buildSlice _ 0 #[])); exact O.wl)
 | ((with_reducible apply bT.dg (.makeFunc _ _ _)); exact O.K2 rfl)
 | ((with_reducible apply bT.dg (.call { callee:=.builtin .len,args:=#[_],argTypes:=#[_] })); first | exact O.nb .q eG.p | exact O.lF .q eG.p | exact O.Ad .q pA.p))):bT P g op ty v:=h
theorem GG {P:Program}{g:aL}{op:Op}{ty:TypeId}{v:ab}(h:bT P g op ty v:=by (first
 | ((with_reducible apply bT.dg (.indexAddr _ _ _)); first | exact O.abD J | exact O.Hk J)
 | ((with_reducible apply bT.dg (.binOp .add _ _ _ _)); exact O.cat .q .q J)
 | ((with_reducible apply bT.dg (.binOp .quo _ _ _ _)); first | exact O.quo .q .q J | exact O.uU .q .q J)
 | ((with_reducible apply bT.dg (.binOp .rem _ _ _ _)); first | exact O.rem .q .q J | exact O.uY .q .q J)
 | ((with_reducible apply bT.dg (.index _ _ _)); exact O.oy .q .q pA.p J)
 | ((with_reducible apply bT.dg (.makeSlice _ _ _)); first | exact O.abO J | exact O.abW J)
 | ((with_reducible apply bT.dg (.slice _ _ _ _ _)); first | exact O.G3 .q .q .q pA.p J | exact O.afC .q .q pA.p J | exact O.afD .q .q pA.p J | exact O.afQ J | exact O.abR J | exact O.abS J)
 | ((with_reducible apply bT.dg (.call { callee:=.builtin .append,args:=#[_,_],argTypes:=#[_,_] })); first | exact O.wp J | exact O.abP J | exact O.abA J))):bT P g op ty v:=h
set_option maxRecDepth 1000000 in
/-- The walk: what it meets it does. -/
theorem dv {p:Prop}(h:p:=by
(repeat' (first
 | ((with_reducible apply aE.dg _ none); first
  | refine aU h λx J h=>HP GG ?_
  | refine aU h λx J h=>HP (O.wr J) ?_
  | refine HP ps ?_
  | ((with_reducible apply aE.dg (.call { callee:=.value _,args:=_,argTypes:=_ }) none); first | (refine aU h λx J h=>MD (b_.dG ?_ (bx.go J)) ?_; · (repeat' first | exact .nil | refine .bY .q ?_)) | (refine aU h λx J h=>MD (b_.nj rfl ?_ (bx.go J)) ?_; · (repeat' first | exact .nil | refine .s ?_ | refine .c (View.kP rfl rfl) ?_ | refine .c (.row rfl) ?_ | refine .c (View.nT ?_) ?_ | refine .c (View.cl ?_) ?_)) | (refine aU h λx J h=>Se (bx.go J) rfl rfl rfl rfl rfl (by repeat' first | exact .nil | refine .b rfl ?_ | refine .n rfl ?_) ?_))
  | ((with_reducible apply aE.dg (.buildSlice _ _ _) none); first | refine Sx h ?_ | refine Sz rfl ?_ | refine aco rfl ?_ | refine SA [_] rfl ?_ | refine SA [_,_] rfl ?_)
  | ((with_reducible apply aE.dg (.assign _) none); refine SB rfl rfl rfl ?_)
  | ((with_reducible apply aE.dg (.move _) none); refine SC rfl rfl rfl ?_)
  | ((with_reducible apply aE.dg (.move _) none); first | refine ME rfl rfl (O.aO .q) ?_)
  | ((with_reducible apply aE.dg (.assign (.const _)) none); first | refine ME rfl rfl (O.az .q) ?_)
  | ((with_reducible apply aE.dg (.assign (.tmp _)) none); first | refine ME rfl rfl (O.az .Lt) ?_)
  | ((with_reducible apply aE.dg (.assign (.tmp _)) none); refine Sf rfl rfl (by first | exact fS.k6 | exact fS.wS | exact fS.E3 | exact fS.nT .q (by repeat' first | exact eQ.nil | (apply eQ.f) | (apply eQ.r rfl) | (apply eQ.nT) | (apply eQ.b rfl))) ?_))
 | ((with_reducible apply aE.ts); refine Sg rfl rfl (by first | exact fS.fa | exact fS.l8 | exact fS.u5 | exact fS.sp | exact fS.u0 | exact fS.aaK .q (by repeat' first | exact eQ.nil | (apply eQ.f) | (apply eQ.r rfl) | (apply eQ.nT) | (apply eQ.b rfl))) ?_)
 | ((with_reducible apply aE.dg _ (some _)); first
  | refine q5 ?_
  | refine Sk ?_
  | refine aU h λx J h=>HG GG ?_
  | refine aU h λx J h=>HG (O.wr J) ?_
  | refine HG ps ?_
  | ((with_reducible apply aE.dg (.call { callee:=.value _,args:=_,argTypes:=_ }) (some _)); first | (refine aU h λx J h=>Mn (b_.dG ?_ (bx.go J)) ?_; · (repeat' first | exact .nil | refine .bY .q ?_)) | (refine aU h λx J h=>Mn (b_.nj rfl ?_ (bx.go J)) ?_; · (repeat' first | exact .nil | refine .s ?_ | refine .c (View.kP rfl rfl) ?_ | refine .c (.row rfl) ?_ | refine .c (View.nT ?_) ?_ | refine .c (View.cl ?_) ?_)))
  | refine Io h (λar h=>?_) (λar h=>?_))
 | ((with_reducible apply aE.nl); first | refine HD rfl rfl ?_ | refine Sh h (by (repeat' first | exact .nil | refine .n rfl ?_ | refine .w rfl rfl .p1 ?_ | refine .w rfl rfl .p0 ?_ | refine .w rfl rfl (kl.obj (by (repeat' first | exact .nil | refine .f ?_ | refine .o ?_ | refine .i ?_))) ?_)))
 | ((with_reducible apply gw.dg _ none); first
  | refine aU h λx J h=>HA GG ?_
  | refine aU h λx J h=>HA (O.abU J) ?_
  | refine HA ps ?_
  | ((with_reducible apply gw.dg (.call { callee:=.value _,args:=_,argTypes:=_ }) none); first | (refine aU h λx J h=>Mj (b_.dG ?_ (bx.go J)) ?_; · (repeat' first | exact .nil | refine .bY .q ?_)) | (refine aU h λx J h=>Mj (b_.nj rfl ?_ (bx.go J)) ?_; · (repeat' first | exact .nil | refine .s ?_ | refine .c (View.kP rfl rfl) ?_ | refine .c (.row rfl) ?_ | refine .c (View.nT ?_) ?_ | refine .c (View.cl ?_) ?_)) | (refine aU h λx J h=>aci (bx.go J) rfl rfl rfl rfl rfl (by repeat' first | exact .nil | refine .b rfl ?_ | refine .n rfl ?_) ?_))
  | ((with_reducible apply gw.dg (.buildSlice _ _ _) none); first | refine R8 h ?_ | refine R9 rfl ?_ | refine acj rfl ?_ | refine ack [_,_] rfl ?_ | refine Sd [_] rfl ?_ | refine Sd [_,_] rfl ?_)
  | ((with_reducible apply gw.dg (.assign _) none); refine R_ rfl rfl (by first | exact fS.k6 | exact fS.wS | exact fS.E3 | exact fS.SL | exact fS.nT .q (by repeat' first | exact eQ.nil | (apply eQ.f) | (apply eQ.r rfl) | (apply eQ.nT) | (apply eQ.b rfl))) ?_))
 | ((with_reducible apply gw.ts); refine Sa rfl rfl (by first | exact fS.fa | exact fS.l8 | exact fS.u5 | exact fS.sp | exact fS.u0 | exact fS.aaK .q (by repeat' first | exact eQ.nil | (apply eQ.f) | (apply eQ.r rfl) | (apply eQ.nT) | (apply eQ.b rfl))) ?_)
 | ((with_reducible apply gw.dg _ (some _)); first
  | refine Sb ?_
  | refine Sc ?_
  | refine aU h λx J h=>HB GG ?_
  | refine aU h λx J h=>HB (O.abU J) ?_
  | refine HB ps ?_
  | ((with_reducible apply gw.dg (.call { callee:=.value _,args:=_,argTypes:=_ }) (some _)); first | (refine aU h λx J h=>Mi (b_.dG ?_ (bx.go J)) ?_; · (repeat' first | exact .nil | refine .bY .q ?_)) | (refine aU h λx J h=>Mi (b_.nj rfl ?_ (bx.go J)) ?_; · (repeat' first | exact .nil | refine .s ?_ | refine .c (View.kP rfl rfl) ?_ | refine .c (.row rfl) ?_ | refine .c (View.nT ?_) ?_ | refine .c (View.cl ?_) ?_)))
  | refine Io h (λar h=>?_) (λar h=>?_))
 | ((with_reducible apply gw.nl); first | refine R7 rfl rfl ?_ | refine R6 h (by (repeat' first | exact .nil | refine .n rfl ?_ | refine .w rfl rfl .p1 ?_ | refine .w rfl rfl .p0 ?_ | refine .w rfl rfl (kl.obj (by (repeat' first | exact .nil | refine .f ?_ | refine .o ?_ | refine .i ?_))) ?_)))
 | ((with_reducible apply kk.dP); refine cJ.dP rfl (by first | exact .w | exact .n | exact .c rfl .w rfl | exact .c rfl .n rfl) rfl rfl ?_)
 | ((with_reducible apply kk.hM); refine cJ.hM rfl (by first | exact .w | exact .n | exact .c rfl .w rfl | exact .c rfl .n rfl) rfl rfl ?_)
 | ((with_reducible apply kk.eM); first | refine cJ.eM h (λj h=>?_) (λj ag h=>?_) | refine cJ.aah h (λj h=>?_) (λj ag h=>?_))
 | ((with_reducible apply kk.b0); first | refine cJ.b0 h (λj h=>?_) (λj ag h=>?_) | refine cJ.afB h (λj h=>?_) (λj ag h=>?_))
 | ((with_reducible apply kk.rd); first | refine cJ.rd ?_ | refine cJ.aab ?_)
 | (with_reducible apply cJ.rg)
 | (with_reducible apply cJ.bF)
 | ((with_reducible apply kk.bN); first
  | refine cJ.YY h (λj h=>?_) (λj ag h=>?_)
  | refine cJ.bZ h (λar h=>?_) (λar h=>?_)
  | refine cJ.ce h (λar h=>?_) (λar h=>?_)
  | refine cJ.acv ?_
  | refine cJ.acu ?_)
 | ((with_reducible apply kk.KN); refine cJ.KN h (λj h=>?_) (λj ag h=>?_))
 | (with_reducible apply cJ.zq)
 | (with_reducible apply cJ.cb)
 | (with_reducible apply cJ.cO)
 | (with_reducible apply cJ.fq)
 | ((with_reducible apply cJ.aap); first
  | (refine cJ.p5 h (by (repeat' first | exact .nil | refine .z rfl rfl ?_ ?_ | exact .refl | exact .Dl | exact gV.vw | refine fI.obj ?_ | refine .f ?_ | refine .o ?_ | refine .z ?_)) (by (repeat' first | exact .nil | refine .n rfl ?_ | refine .w rfl rfl .p1 ?_ | refine .w rfl rfl .p0 ?_ | refine .w rfl rfl (kl.obj (by (repeat' first | exact .nil | refine .f ?_ | refine .o ?_ | refine .i ?_))) ?_)))
  | (cases h; refine cJ.hZ rfl (by (repeat' first | exact .nil | refine .z rfl rfl ?_ ?_ | exact .refl | exact .Dl | exact gV.vw | refine fI.obj ?_ | refine .f ?_ | refine .o ?_ | refine .z ?_)) ?_; exact dY.dN)
  | refine cJ.GM ?_)
 | (with_reducible apply dY.bF)
 | (with_reducible apply dY.fi)
 | (with_reducible apply dY.gn)
 | (with_reducible apply dY.cb)
 | (with_reducible apply dY.fu)
 | (with_reducible apply dY.lP)
 | ((with_reducible apply kk.Tt); refine dY.E9 ?_)
 | ((with_reducible apply kk.ZP); first
  | refine dY.go h (by (repeat' first | exact .nil | refine .n rfl ?_ | refine .w rfl rfl .p1 ?_ | refine .w rfl rfl .p0 ?_ | refine .w rfl rfl (kl.obj (by (repeat' first | exact .nil | refine .f ?_ | refine .o ?_ | refine .i ?_))) ?_))
  | refine dY.aS h (by (repeat' first | exact .nil | refine .n rfl ?_ | refine .w rfl rfl .p1 ?_ | refine .w rfl rfl .p0 ?_ | refine .w rfl rfl (kl.obj (by (repeat' first | exact .nil | refine .f ?_ | refine .o ?_ | refine .i ?_))) ?_))
  | refine dY.x2 h (by (repeat' first | exact .nil | refine .n rfl ?_ | refine .w rfl rfl .p1 ?_ | refine .w rfl rfl .p0 ?_ | refine .w rfl rfl (kl.obj (by (repeat' first | exact .nil | refine .f ?_ | refine .o ?_ | refine .i ?_))) ?_))
  | refine dY.iQ h (by (repeat' first | exact .nil | refine .n rfl ?_ | refine .w rfl rfl .p1 ?_ | refine .w rfl rfl .p0 ?_ | refine .w rfl rfl (kl.obj (by (repeat' first | exact .nil | refine .f ?_ | refine .o ?_ | refine .i ?_))) ?_)))
 | ((with_reducible apply kk.ZS); refine dY.dD h (by (repeat' first | exact .nil | refine .n rfl ?_ | refine .w rfl rfl .p1 ?_ | refine .w rfl rfl .p0 ?_ | refine .w rfl rfl (kl.obj (by (repeat' first | exact .nil | refine .f ?_ | refine .o ?_ | refine .i ?_))) ?_)))
 | ((with_reducible apply kk.e5); first
  | refine cJ.e5 h (λs o h=>?_) (λr hr h=>?_)
  | refine cJ.gg h (λs o h=>?_) (λr h=>?_) (λr h=>?_))
 | ((with_reducible apply kk.rg); with_reducible apply cJ.rt)
 | ((with_reducible apply kk.rM); cases h; first | exact dY.dN | exact dY.fn)
 | refine Io h (λar h=>?_) (λar h=>?_)))):p:=h
class zf (P:Program) (N:cP) (Φ:Exit->aL->Prop) (rs:outParam (List ResultVar)) (n:outParam Nat) (outs:outParam (List (Option ab))) (res:outParam ab):Prop where p:∀ g,qa P N rs n outs res .ret g->Φ .ret g
instance:zf P N (qa P N rs n outs res) rs n outs res:=⟨λ_ h=>h⟩
instance {Ψ:aL->Prop}{Φ:Exit->aL->Prop} [h:zf P N Φ rs n outs res]:zf P N (pr Ψ Φ) rs n outs res:=⟨λg bQ=>h.p g bQ⟩
instance {id:Nat}{Φ:Exit->aL->Prop} [h:zf P N Φ rs n outs res]:zf P N (mr id Φ) rs n outs res:=⟨λg bQ=>h.p g bQ⟩
class ze {S R gx:Type}(Φ:Exit->aL->Prop) (F:outParam (S->List (Nat × ab))) (id:outParam Nat) (X:outParam (R->List (Nat × ab))) (Y:outParam (gx->List (Nat × ab))) (o:outParam (S ⊕ (R ⊕ gx))):Prop where p:∀ g,lx F (Bl id X Y) o .ret g->Φ .ret g
section
variable {S R gx:Type}{F:S->List (Nat × ab)}{id:Nat}{X:R->List (Nat × ab)}{Y:gx->List (Nat × ab)}{o:S ⊕ (R ⊕ gx)}{Φ:Exit->aL->Prop}
instance:ze (lx F (Bl id X Y) o) F id X Y o:=⟨λ_ h=>h⟩
instance {Ψ:aL->Prop} [h:ze Φ F id X Y o]:ze (pr Ψ Φ) F id X Y o:=⟨λg bQ=>h.p g bQ⟩
instance {i:Nat} [h:ze Φ F id X Y o]:ze (mr i Φ) F id X Y o:=⟨λg bQ=>h.p g bQ⟩
theorem cJ.p5 {v:gx} [a1:ze Φ F id X Y o] (h:some (.inr (.inr v))=some o) (aX:oZ ((Y v).map Prod.fst) (get G) (get (Y v)) (Y v)) (aq:Trim true (get (Y v)) (get (Y v)) (Y v)):cJ E t P N .ret G Φ:=by
 cases h;exact W.dP _ aX (W.rt λg ar=>a1.p g (ay.iQ aq g ar))
end
def aag:ResultVar->ab->Option (Nat × ab)
 | .tmp t,x=>some (t,x)
 | .cell s _,.agg cs=>some (s,.obj cs)
 | _,_=>none
def Lv:List ResultVar->List ab->List (Nat × ab)->Option (List (Nat × ab))
 | [],[],T=>some T
 | r::rs,x::xs,T=>match Lv rs xs T,aag r x with
  | some l,some p=>some (p::l)
  | _,_=>none
 | _,_,_=>none
def Le:List Nat->List (Option ab)->Option (List (Nat × ab))
 | _,[]=>some []
 | j::ev,none::l=>Le ev l
 | j::ev,some x::l=>match Le ev l with
  | some r=>some ((j,x)::r)
  | none=>none
 | _,_=>none
def aaf (rs:List ResultVar) (outs:List (Option ab)) (res:ab):Option (List (Nat × ab)) :=
 match Le num outs with
 | none=>none
 | some T=>match rs,res with
  | [r],x=>Lv [r] [x] T
  | rs,.bS xs=>Lv rs xs T
  | _,_=>none
theorem gV.vw {x y:ab} [aB:b9 x] [hv:j8 x y]:gV x y:=.pb aB.bq (hv.v _)
inductive q3 {α:Type}(en:bO α):Option Nat->ab->ab->Prop
 | w {Ff:bO α}{L:List α} [h:j8 (aC Ff L) (ak en L)]:q3 en none (aC Ff L) (ak en L)
 | n [h:j8 .aP (ak en ([]:List α))]:q3 en none .aP (ak en ([]:List α))
 | c {i:Nat}{cs cs':List ab}{x y:ab}(J:cs[i]?=some x) (h:q3 en none x y) (he:qS cs i [y]=some cs'):q3 en (some i) (.obj cs) (.obj cs')
theorem q3.one {α:Type}{en:bO α}{x y:ab}(h:q3 en none x y):gV x y/\qb y:=by
 cases h with
 | @w Ff L h=>exact ⟨.pb (.own (po Ff L)) (h.v _),⟨by intro _ _ _ _ _ e; cases e⟩⟩
 | @n h=>exact ⟨.pb .aP (h.v _),⟨by intro _ _ _ _ _ e; cases e⟩⟩
theorem q3.dP {α:Type}{en:bO α}{i:Option Nat}{x y:ab}(h:q3 en i x y):gV x y/\qb y:=by
 cases h with
 | w=>exact q3.one .w
 | n=>exact q3.one .n
 | @c i cs cs' x y J h he =>
  obtain ⟨h1,af⟩:=oe he;subst h1;refine ⟨.obj (by simp [e0] at af ⊢; omega) λk a b aJ ar=>?_,⟨by simp⟩⟩;unfold e0 at ar;simp only [List.length_singleton] at af ar;by_cases hk:k<i
  ·rw [List.append_assoc,List.getElem?_append_left (by simp; omega),List.getElem?_take,if_pos hk,aJ] at ar;cases ar; exact .refl
  ·by_cases fz:k=i
   ·subst fz;rw [List.append_assoc,List.getElem?_append_right (by rw [List.length_take]; exact Nat.min_le_left _ _),List.length_take,Nat.min_eq_left (by omega),Nat.sub_self] at ar;simp at ar;subst ar;rw [J] at aJ; cases aJ;exact h.one.1
   ·rw [List.getElem?_append_right (by simp; omega)] at ar;simp only [List.length_append,List.length_take,List.length_singleton,List.getElem?_drop] at ar;rw [show i+1+(k - (min i cs.length+1))=k by omega,aJ] at ar;cases ar; exact .refl
theorem Ln {g g2:aL}{s:Nat}:∀ {ks:List Nat}{G1:List (Nat × ab)},pick g ks=some G1->(ks.all λk=>![s].elem k)=true->(∀ e∈G1,cE e.2)->oZ [s] g g2 G1
 | [],_,h,_,_=>by cases h; exact .nil
 | k::ks,G1,h,he,aB=>by
  obtain ⟨x,l,J,ah,rfl⟩:=D3 h;rw [List.all_cons,Bool.and_eq_true] at he;have:b9 x:=⟨aB (k,x) (by simp)⟩;exact .n (by simpa using he.1) J (Ln ah he.2 λe h=>aB e (by simp [h]))
def YX (id:Nat):Code->Bool
 | .seq (.region k _ _) _=>Nat.beq k id
 | .region k _ _=>Nat.beq k id
 | _=>false
theorem cJ.dP {α:Type}{en:bO α}{id s:Nat}{i:Option Nat}{B:Code}{Φ:Exit->aL->Prop}{x y:ab}{ks:List Nat}{j3:List (Nat × ab)}(ax:get G s=some x) (ao:q3 en i x y) (hk:vX [s] G=some ks) (aq:pick (get G) ks=some j3) (h:cJ E t P N B ((s,y)::j3) Φ) (ae4:YX id B=true:=by rfl) (cQ:(ks.all λk=>![s].elem k)=true:=by rfl) [J:b9 x] [aB:j4 j3]:cJ E (.dP id s i en t) P N B G Φ :=
 have:=ao.dP.2
 W.dP [s] (.z (by simp) ax ao.dP.1 (Ln aq cQ aB.p)) h
theorem cJ.hM {α:Type}{en:bO α}{s:Nat}{i:Option Nat}{c:Code}{Φ:Exit->aL->Prop}{x y:ab}{ks:List Nat}{j3:List (Nat × ab)}(ax:get G s=some x) (ao:q3 en i x y) (hk:vX [s] G=some ks) (aq:pick (get G) ks=some j3) (h:cJ E t P N (.loop c) ((s,y)::j3) Φ) (cQ:(ks.all λk=>![s].elem k)=true:=by rfl) [J:b9 x] [aB:j4 j3]:cJ E (.hM s i en t) P N (.loop c) G Φ :=
 have:=ao.dP.2
 W.dP [s] (.z (by simp) ax ao.dP.1 (Ln aq cQ aB.p)) h
theorem cJ.hZ {Φ:Exit->aL->Prop}{G1:List (Nat × ab)} [a1:zf P N Φ rs n outs res] (df:aaf rs outs res=some G1) (aX:oZ (G1.map Prod.fst) (get G) (get G1) G1) (aq:dY E t .ret (qa P N rs n outs res) G1):cJ E t P N .ret G Φ :=
 W.dP _ aX (W.rt λg ar=>a1.p g (aq g ar))
def Gp:List Nat->Nat->List ab->Option (List (Nat × ab))
 | _,_,[]=>some []
 | [],_,_::_=>none
 | j::ev,k,x::l=>match Gp ev (k+1) l with
  | none=>none
  | some r=>match uL x,Nat.beq j k with
   | some y,true=>some ((j,y)::r)
   | _,_=>none
theorem P7:∀ {l:List ab}{ev:List Nat}{k:Nat}{r:List (Nat × ab)},Gp ev k l=some r->x8 k l=r
 | [],ev,k,r,h=>by cases ev <;> (cases h; rfl)
 | x::l,[],k,r,h=>by cases h
 | x::l,j::ev,k,r,h=>by
  unfold Gp at h
  split at h
  ·cases h
  ·rename_i c' hr
   split at h
   ·rename_i y ao ag;cases h; rw [<- P7 hr,<- x5 ao,Nat.eq_of_beq_eq_true ag]; rfl
   ·cases h
def lits:List Nat:=[0,1,2,3,4,5,6,7,8,9,10,11,12]
theorem bP.bm {f:FuncId}{fn:Func}{c:Code}{args:List ab}{outs:List (Option ab)}{res:ab}(E:List Nat) (t:lL) (aV:P.funcs[f]?=some fn) (ar:fn.body=some c) (bt:fn.ntmps=N.size) (aJ:Nat.ble args.length N.size=true) (hlen:outs.length=args.length) (df:Gp lits 0 args=some G) (hw:cJ E t P N c G (qa P N fn.results.toList args.length outs res)):bP P f args outs res:=bP.go aV ar bt aJ hlen (W.fin (by rw [P7 df]; exact hw))
end
structure s5 where
 n:Nat
 cs:List ab
 bq:∀ x∈cs,cE x
def GR:s5:=⟨0,[],λ_ h=>by cases h⟩
instance:Inhabited s5:=⟨GR⟩
def h' (z:Nat) (x:s5):ab:=.bc z x.n x.cs
def nf {α:Type}(e:bO α) (L:List α):s5:=⟨L.length,bC e L,po e L⟩
instance {z:Nat}{x:s5}:b9 (h' z x):=⟨.bc x.bq⟩
instance {z:Nat}{x:s5}:j8 (h' z x) (h' z x):=⟨λ_=>.self (.bc x.bq) (by simp [h']) (by simp [h']) (by simp [h']) (by simp [h']) (by simp [h'])⟩
instance {z:Nat}{α:Type}{e:bO α}:qc (h' z (nf e [])):=⟨.gM⟩
end Go.Own
namespace Go.Own
open Go
variable [cG]
variable {α:Type}{g:aL}{a:Operand}
theorem Rd.nf {z:Nat}{x:s5}{en:bO α}{L:List α}(h:Rd g a (h' z x)) (aX:z=en.z) (aR:x=nf en L):Rd g a (.bc en.z L.length (bC en L)):=by
 subst aR aX;exact h
section
variable {P:Program}{N:cP}{d:Nat}{t e:TypeId}{s x:Operand}{y:ab}
end
section
open Go.Proofs Go.Shelf Go.Lib Go.Sort
variable {e:bO α}{P:Program}{w:World}
theorem b_.T7 {g:aL}{m:Nat}{x:Operand}{fP:Array TypeId}{p:Place}{L r:List α}{f:FuncId}
  (aa:∀ (w:World) (ad:Addr) (n c:Nat) (news:List Value),news.length=n * e.z->n<=1000000000000->(∀ j u,news[j]?=some u->w.cell? (ad.add j)=some u)->(∀ u∈news,u.oneCell'=true) ->
   Calls P f #[.slice (some ad) n c] w λb4 w'=>∃ dK t,b4=.returned dK/\w'.ownsRow 0 t e.z dK n news/\(∀ c,dK.ownBlock=some c->w.heap.size<=c)/\Fr w w' λ_=>False)
  (aB:∀ (w:World) (n c:Nat),Calls P f #[.slice none n c] w λb4 w'=>b4=.returned (.slice none 0 0)/\w'=w)
  (J:Rd g x (.sub e.z p m (L.length - m))) (aq:bH g p=some (aC e L)) (hm:m<=L.length) (mR:(bC e (L.drop m)).all mg=true) (h:Fb (L.drop m)=some r) (aV:hA P f=true) (uu:Nat.blt 0 e.z=true) :
  b_ P g (.call { callee:=.value (.func f),args:=#[x],argTypes:=fP }) (aC e r):=by
 obtain ⟨xn,rfl⟩:(L.drop m).length<=1000000000000/\r=L.drop m:=by
  unfold Fb at h
  split at h
  ·rename_i bQ; exact ⟨bQ,(Option.some.inj h).symm⟩
  ·cases h
 have ux:(L.drop m).length=L.length - m:=List.length_drop ..;have Xf:((bC e L).drop (m * e.z)).take ((L.length - m) * e.z)=bC e (L.drop m):=by
  rw [Ea,<- ux,wx]
 have:=Src.sub (z:=e.z) (lo:=m) (m:=L.length - m) aq (by omega);rw [Xf,B0 mR] at this;rw [ux] at xn;show b_ P g _ (.own e.z (L.drop m).length (bC e (L.drop m)));rw [ux];exact .cl J.bw this (by simpa using uu) aV (po e _) xn aa aB
end
end Go.Own
namespace Go.Own
open Go
variable [cG]
section
variable {P:Program}{N:cP}{ops:Array Oper}{bj:List (List Nat)}{acc:Acc}{l:List Oper}{K:aL->Prop}{i d:Nat}
theorem bB.Tz (bX:Nat) {G G2:List (Nat × ab)}{o:Oper}{x:ab}(he:h3 P N (dq (get G) (λm=>(bj.getD bX []).contains m) acc) o (cT (get G2) d x)) (aQ:o.guard=none) (gT:Dj (acc.filterMap lp)=true) (fN:ob G=true) (ag:Nat.beq ops.size (bX+l.length+1)=true)
  (fl:acc.filter (λe=>!(bj.getD bX []).contains e.1)=[])
  (ar:(List.range ops.size).all (λk=>Nat.ble k bX||(bj.getD k []).contains bX)=true) (hk:bB P N ops bj (get ((d,x)::G2)) (bX+1) [] l K):bB P N ops bj (get G) i acc (o::l) K :=
 .BD bX (tb ▸ he) aQ gT fN ag fl ar hk
end
end Go.Own
namespace Go.Proofs
open Tryz
open Go Go.Own
instance:cG:=⟨λ_ _=>True,λ_ _ _=>trivial⟩
open Go Go.Shelf Go.RowKit Go.Lib Go.Sort Go.Own
def Tryz.aaX:Go.Shelf.Ren:=⟨fun | 6=>51 | 15=>91 | 14=>90 | 28=>121 | 29=>122 | 20=>113 | 21=>114 | 22=>115 | 23=>116 | 24=>117 | 25=>118 | 26=>119 | 27=>120 | 46=>141 | 47=>142 | 48=>143 | 49=>144 | 50=>145 | 57=>171 | n=>n,fun | 22=>46 | 24=>132 | 25=>134 | 3=>3 | 39=>178 | 0=>0 | 53=>215 | 55=>217 | 4=>4 | 46=>209 | 45=>208 | 50=>140 | 5=>5 | 9=>9 | 66=>238 | 70=>242 | 76=>269 | 77=>231 | n=>n,fun | n=>n⟩
theorem Tryz.aaW:Go.Proofs.SlLaysF0.n6 prog Tryz.aaX:={
 mixed:=by kernel_rfl
 f6:=⟨Tryz.f51.name,by decide,func51.trans (congrArg some (by kernel_rfl))⟩
 f14:=⟨Tryz.f90.name,by decide,func90.trans (congrArg some (by kernel_rfl))⟩
 f15:=func91.trans (congrArg some (by kernel_rfl))
 f20:=⟨Tryz.f113.name,by decide,func113.trans (congrArg some (by kernel_rfl))⟩
 f21:=⟨Tryz.f114.name,by decide,func114.trans (congrArg some (by kernel_rfl))⟩
 f22:=⟨Tryz.f115.name,by decide,func115.trans (congrArg some (by kernel_rfl))⟩
 f23:=⟨Tryz.f116.name,by decide,func116.trans (congrArg some (by kernel_rfl))⟩
 f24:=⟨Tryz.f117.name,by decide,func117.trans (congrArg some (by kernel_rfl))⟩
 f25:=⟨Tryz.f118.name,by decide,func118.trans (congrArg some (by kernel_rfl))⟩
 f26:=⟨Tryz.f119.name,by decide,func119.trans (congrArg some (by kernel_rfl))⟩
 f27:=⟨Tryz.f120.name,by decide,func120.trans (congrArg some (by kernel_rfl))⟩
 f28:=func121.trans (congrArg some (by kernel_rfl))
 f29:=func122.trans (congrArg some (by kernel_rfl))
 f46:=⟨Tryz.f141.name,by decide,func141.trans (congrArg some (by kernel_rfl))⟩
 f47:=func142.trans (congrArg some (by kernel_rfl))
 f48:=func143.trans (congrArg some (by kernel_rfl))
 f49:=⟨Tryz.f144.name,by decide,func144.trans (congrArg some (by kernel_rfl))⟩
 f50:=⟨Tryz.f145.name,by decide,func145.trans (congrArg some (by kernel_rfl))⟩
 f57:=⟨Tryz.f171.name,by decide,func171.trans (congrArg some (by kernel_rfl))⟩
 t0:=Tryz.underlying0
 a0:=Tryz.isAgg0
 z0:=Tryz.sizeOf0
 v0:=Tryz.zeroValue0
 t3:=Tryz.underlying3
 a3:=Tryz.isAgg3
 z3:=Tryz.sizeOf3
 v3:=Tryz.zeroValue3
 t4:=Tryz.underlying4
 a4:=Tryz.isAgg4
 z4:=Tryz.sizeOf4
 v4:=Tryz.zeroValue4
 t5:=Tryz.underlying5
 a5:=Tryz.isAgg5
 z5:=Tryz.sizeOf5
 v5:=Tryz.zeroValue5
 t9:=Tryz.underlying9
 a9:=Tryz.isAgg9
 z9:=Tryz.sizeOf9
 v9:=Tryz.zeroValue9
 t22:=Tryz.underlying46
 a22:=Tryz.isAgg46
 z22:=Tryz.sizeOf46
 v22:=Tryz.zeroValue46
 t25:=Tryz.underlying134
 a25:=Tryz.isAgg134
 z25:=Tryz.sizeOf134
 v25:=Tryz.zeroValue134
 t39:=Tryz.underlying178
 a39:=Tryz.isAgg178
 z39:=Tryz.sizeOf178
 v39:=Tryz.zeroValue178
 t45:=Tryz.underlying208
 a45:=Tryz.isAgg208
 z45:=Tryz.sizeOf208
 v45:=Tryz.zeroValue208
 t46:=Tryz.underlying209
 a46:=Tryz.isAgg209
 z46:=Tryz.sizeOf209
 v46:=Tryz.zeroValue209
 t50:=Tryz.underlying140
 a50:=Tryz.isAgg140
 z50:=Tryz.sizeOf140
 v50:=Tryz.zeroValue140
 t53:=Tryz.underlying215
 a53:=Tryz.isAgg215
 z53:=Tryz.sizeOf215
 v53:=Tryz.zeroValue215
 t55:=Tryz.underlying217
 a55:=Tryz.isAgg217
 z55:=Tryz.sizeOf217
 v55:=Tryz.zeroValue217
 t66:=Tryz.underlying238
 a66:=Tryz.isAgg238
 z66:=Tryz.sizeOf238
 v66:=Tryz.zeroValue238
 t70:=Tryz.underlying242
 a70:=Tryz.isAgg242
 z70:=Tryz.sizeOf242
 v70:=Tryz.zeroValue242
 t76:=Tryz.underlying269
 a76:=Tryz.isAgg269
 z76:=Tryz.sizeOf269
 v76:=Tryz.zeroValue269
 t77:=Tryz.underlying231
 a77:=Tryz.isAgg231
 z77:=Tryz.sizeOf231
 v77:=Tryz.zeroValue231 }
def Tryz.aaT:Go.Shelf.Ren:=⟨fun | 6=>109 | 15=>91 | 14=>138 | 28=>121 | 29=>122 | 20=>162 | 21=>163 | 22=>164 | 23=>165 | 24=>166 | 25=>167 | 26=>168 | 27=>169 | 46=>178 | 47=>142 | 48=>143 | 49=>179 | 50=>180 | 57=>185 | n=>n,fun | 22=>27 | 24=>3 | 25=>62 | 3=>3 | 39=>178 | 0=>0 | 53=>215 | 55=>217 | 4=>4 | 46=>209 | 45=>208 | 50=>140 | 5=>5 | 9=>9 | 66=>238 | 70=>242 | 76=>269 | 77=>231 | n=>n,fun | n=>n⟩
theorem Tryz.LP:Go.Proofs.SlLaysF.n6 prog Tryz.aaT:={
 mixed:=by kernel_rfl
 f6:=⟨Tryz.f109.name,by decide,func109.trans (congrArg some (by kernel_rfl))⟩
 f14:=⟨Tryz.f138.name,by decide,func138.trans (congrArg some (by kernel_rfl))⟩
 f15:=func91.trans (congrArg some (by kernel_rfl))
 f20:=⟨Tryz.f162.name,by decide,func162.trans (congrArg some (by kernel_rfl))⟩
 f21:=⟨Tryz.f163.name,by decide,func163.trans (congrArg some (by kernel_rfl))⟩
 f22:=⟨Tryz.f164.name,by decide,func164.trans (congrArg some (by kernel_rfl))⟩
 f23:=⟨Tryz.f165.name,by decide,func165.trans (congrArg some (by kernel_rfl))⟩
 f24:=⟨Tryz.f166.name,by decide,func166.trans (congrArg some (by kernel_rfl))⟩
 f25:=⟨Tryz.f167.name,by decide,func167.trans (congrArg some (by kernel_rfl))⟩
 f26:=⟨Tryz.f168.name,by decide,func168.trans (congrArg some (by kernel_rfl))⟩
 f27:=⟨Tryz.f169.name,by decide,func169.trans (congrArg some (by kernel_rfl))⟩
 f28:=func121.trans (congrArg some (by kernel_rfl))
 f29:=func122.trans (congrArg some (by kernel_rfl))
 f46:=⟨Tryz.f178.name,by decide,func178.trans (congrArg some (by kernel_rfl))⟩
 f47:=func142.trans (congrArg some (by kernel_rfl))
 f48:=func143.trans (congrArg some (by kernel_rfl))
 f49:=⟨Tryz.f179.name,by decide,func179.trans (congrArg some (by kernel_rfl))⟩
 f50:=⟨Tryz.f180.name,by decide,func180.trans (congrArg some (by kernel_rfl))⟩
 f57:=⟨Tryz.f185.name,by decide,func185.trans (congrArg some (by kernel_rfl))⟩
 t0:=Tryz.underlying0
 a0:=Tryz.isAgg0
 z0:=Tryz.sizeOf0
 v0:=Tryz.zeroValue0
 t3:=Tryz.underlying3
 a3:=Tryz.isAgg3
 z3:=Tryz.sizeOf3
 v3:=Tryz.zeroValue3
 t4:=Tryz.underlying4
 a4:=Tryz.isAgg4
 z4:=Tryz.sizeOf4
 v4:=Tryz.zeroValue4
 t5:=Tryz.underlying5
 a5:=Tryz.isAgg5
 z5:=Tryz.sizeOf5
 v5:=Tryz.zeroValue5
 t9:=Tryz.underlying9
 a9:=Tryz.isAgg9
 z9:=Tryz.sizeOf9
 v9:=Tryz.zeroValue9
 t22:=Tryz.underlying27
 a22:=Tryz.isAgg27
 z22:=Tryz.sizeOf27
 v22:=Tryz.zeroValue27
 a24:=Tryz.isAgg3
 z24:=Tryz.sizeOf3
 t25:=Tryz.underlying62
 a25:=Tryz.isAgg62
 z25:=Tryz.sizeOf62
 v25:=Tryz.zeroValue62
 t39:=Tryz.underlying178
 a39:=Tryz.isAgg178
 z39:=Tryz.sizeOf178
 v39:=Tryz.zeroValue178
 t45:=Tryz.underlying208
 a45:=Tryz.isAgg208
 z45:=Tryz.sizeOf208
 v45:=Tryz.zeroValue208
 t46:=Tryz.underlying209
 a46:=Tryz.isAgg209
 z46:=Tryz.sizeOf209
 v46:=Tryz.zeroValue209
 t50:=Tryz.underlying140
 a50:=Tryz.isAgg140
 z50:=Tryz.sizeOf140
 v50:=Tryz.zeroValue140
 t53:=Tryz.underlying215
 a53:=Tryz.isAgg215
 z53:=Tryz.sizeOf215
 v53:=Tryz.zeroValue215
 t55:=Tryz.underlying217
 a55:=Tryz.isAgg217
 z55:=Tryz.sizeOf217
 v55:=Tryz.zeroValue217
 t66:=Tryz.underlying238
 a66:=Tryz.isAgg238
 z66:=Tryz.sizeOf238
 v66:=Tryz.zeroValue238
 t70:=Tryz.underlying242
 a70:=Tryz.isAgg242
 z70:=Tryz.sizeOf242
 v70:=Tryz.zeroValue242
 t76:=Tryz.underlying269
 a76:=Tryz.isAgg269
 z76:=Tryz.sizeOf269
 v76:=Tryz.zeroValue269
 t77:=Tryz.underlying231
 a77:=Tryz.isAgg231
 z77:=Tryz.sizeOf231
 v77:=Tryz.zeroValue231 }
theorem aaR {g:FuncId}{caps:List ab} [pQ:dm caps] (aQ:hA prog g=true) {l r:List Int}{fC:Int->Int->Option Int}(h:p7 fC l=some r)
  (aa:∀ a b v,fC a b=some v->bP prog g (ae a::ae b::caps) (none::none::caps.map λ_=>none) (ae v)) :
  bP prog 109 [aC ai l,.cF (.func g) [] caps] [some (aC ai r),none] (.bS []):=bP.LP Tryz.LP aQ h aa
end Go.Proofs
section
namespace Go.Proofs
open Tryz
open Go Go.Shelf Go.RowKit Go.Lib Go.Sort Go.Own
set_option maxHeartbeats 4000000
set_option maxRecDepth 1000000
theorem T8 (w:World) (n c:Nat):Calls prog 101 #[.slice none n c] w λb4 w'=>b4=.returned (.slice none 0 0)/\w'=w:=by
 have Z2:∀ (w:World) (a:Option Addr) (n c cq cj:Nat),(binOp .eql 54 (.slice a n c) (.slice none cq cj)).run prog w=.ok (.bool a.isNone) w:=λw a n c cq cj=>Lib.run_eql_slice_nil w _ _ a n c cq cj Tryz.underlying54
 go_enter func101,Tryz.ntmps101
 go_wp2
 go_ret
 exact ⟨rfl,rfl⟩
theorem T9 (w:World) (ad:Addr) (n c:Nat) (news:List Value) (ah:news.length=n * 4) (aB:n<=1000000000000) (aa:∀ j u,news[j]?=some u->w.cell? (ad.add j)=some u) (h1:∀ u∈news,u.oneCell'=true) :
  Calls prog 101 #[.slice (some ad) n c] w λb4 w'=>∃ dK t,b4=.returned dK/\w'.ownsRow 0 t 4 dK n news/\(∀ c,dK.ownBlock=some c->w.heap.size<=c)/\Fr w w' λ_=>False:=by
 have Z2:∀ (w:World) (a:Option Addr) (n c cq cj:Nat),(binOp .eql 54 (.slice a n c) (.slice none cq cj)).run prog w=.ok (.bool a.isNone) w:=λw a n c cq cj=>Lib.run_eql_slice_nil w _ _ a n c cq cj Tryz.underlying54;obtain ⟨i,cW,au,hi,C5,fm,aK,aX,l2⟩:=E4 (P:=prog) (t:=54) (e:=56) (z:=4) (b:=48) (by kernel_rfl);have A:Aside (∀ j u,news[j]?=some u->w.cell? (ad.add j)=some u):=aa;clear aa
 go_enter func101,Tryz.ntmps101
 go_wp2_with (at_builtin; refine abQ rfl _ _ 54 rfl 56 i cW au hi aX (by rw [C5]; exact l2) (by rw [C5]; exact aK) _ 0 [] rfl ?Z3 ad n c news rfl ?Z4 ?Z5 ?Z6 ?Z7 ?Z8 ?_)
 case Z3=>rw [C5]; exact World.ownsRow_made w #[] 0 (Nat.zero_le _) (Nat.zero_le _) (by simp)
 case Z4=>rw [C5]; exact ah
 case Z5 =>
  intro j u ag;exact Lib.cell?_alloc_some _ (A.out j u ag)
 case Z6=>exact h1
 case Z7=>rw [Nat.zero_add]; simp only [maxLen]; omega
 case Z8=>rw [fm,Nat.zero_add]; omega
 intro dK ij b6 dC
 go_wp2
 go_ret
 obtain ⟨_,sn,kv,hblk,_⟩:=dC;refine ⟨dK,b6,rfl,by simpa [C5] using sn,λc aa=>?_,?_⟩
 ·rcases hblk c aa with h | h
  ·cases h; exact Nat.le_refl _
  ·exact Nat.le_trans (Fr.alloc w _ (λ_=>False) (.inl ⟨_,_,rfl⟩)).size h
 ·exact (Fr.alloc w _ _ (.inl ⟨_,_,rfl⟩)).trans kv λb ar hu=>by cases hu; exact absurd ar (Nat.lt_irrefl _)
end Go.Proofs
end
