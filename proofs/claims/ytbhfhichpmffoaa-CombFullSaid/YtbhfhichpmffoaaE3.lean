/-
  What is proved here: parts of the proof that the last text states: rules for walks through code, and of this program's functions what they answer. No condition of their own.
-/
import Derived.Deep.Draws
import Derived.Deep.LoopGhost
import Derived.Ground.SlsfProg
import Derived.KernelRfl
import Derived.Laws.CopyRow
import Derived.Lib.SliceRun
import Derived.Lib.SlicesCompact
import Derived.Lib.Walk
import Derived.Maps.OwnIn
import Derived.ProofKit
import Derived.RowKit3
import Derived.Shelf.RegionOpenPlain
import Derived.Shelf.SlGeneric
import Derived.Shelf.SlLaysQ
import Derived.Shelf.SlSortCmp.NoneTotal
import Derived.Shelf.SlicesE.Kit
import Derived.Shelf.SlicesQ.Load
import Derived.Sort.WalkB12
import Derived.StringKeys
import Derived.Test.YtbhfhichpmffoaaRows
import Derived.WalkKit
import Derived.Test.YtbhfhichpmffoaaE2
namespace Go.Own
open Go Go.Proofs Go.Shelf Go.Lib Go.Sort
section
variable {P:Program}{w:World}
def ordB {α:Type} [DecidableEq α] (lt:α->α->Bool) (l:List α):Bool :=
 l.all fun a=>!lt a a&&l.all fun b=>(lt a b||lt b a||decide (a=b))&&l.all fun c=>(!(lt a b&&lt b c)||lt a c)&&(lt a b||lt b c||!lt a c)
def ltO {α:Type}(cf:α->α->Option Int) (a b:α):Bool:=decide ((cf a b).getD 0<0)
def ins {α:Type}(lt:α->α->Bool) (x:α):List α->List α
 | []=>[x]
 | y::l=>if lt y x then y::ins lt x l else x::y::l
def isort {α:Type}(lt:α->α->Bool):List α->List α
 | []=>[]
 | x::l=>ins lt x (isort lt l)
theorem ins_perm {α:Type}(lt:α->α->Bool) (x:α):∀ l:List α,(ins lt x l).Perm (x::l)
 | []=>.refl _
 | y::l=>by
  unfold ins;split
  ·exact ((ins_perm lt x l).cons y).trans (.swap x y l)
  ·exact .refl _
theorem isort_perm {α:Type}(lt:α->α->Bool):∀ l:List α,(isort lt l).Perm l
 | []=>.refl _
 | x::l=>(ins_perm lt x _).trans ((isort_perm lt l).cons x)
theorem ins_sorted {α:Type}{lt:α->α->Bool}(hS:SWO lt) (x:α):∀ l:List α,l.Pairwise (fun a b=>(!lt b a)=true)->(ins lt x l).Pairwise fun a b=>(!lt b a)=true
 | [],_=>List.pairwise_singleton _ _
 | y::l,h=>by
  obtain ⟨h1,h2⟩:=List.pairwise_cons.1 h;unfold ins;split
  ·rename_i hlt;refine List.pairwise_cons.2 ⟨fun z hz=>?_,ins_sorted hS x l h2⟩;rcases List.mem_cons.1 ((ins_perm lt x l).mem_iff.1 hz) with rfl | hz
   ·cases hc:lt z y with
    | false=>rfl
    | true=>have:=hS.trans _ _ _ hlt hc; rw [hS.irrefl] at this; cases this
   ·exact h1 z hz
  ·rename_i hlt;have hlt:lt y x=false:=by simpa using hlt
   refine List.pairwise_cons.2 ⟨fun z hz=>?_,h⟩;rcases List.mem_cons.1 hz with rfl | hz
   ·rw [hlt]; rfl
   ·have hz:=h1 z hz;simp only [Bool.not_eq_true'] at hz ⊢;exact hS.ntrans _ _ _ hz hlt
theorem isort_sorted {α:Type}{lt:α->α->Bool}(hS:SWO lt):∀ l:List α,(isort lt l).Pairwise fun a b=>(!lt b a)=true
 | []=>.nil
 | x::l=>ins_sorted hS x _ (isort_sorted hS l)
theorem isort_merge {α:Type}{lt:α->α->Bool}(hS:SWO lt) (hT:∀ x y,lt x y=false->lt y x=false->x=y) (l:List α):l.mergeSort (fun x y=>!lt y x)=isort lt l:=by
 refine List.Perm.eq_of_pairwise (le:=fun x y=>(!lt y x)=true) (fun a b _ _ h1 h2=>?_) (List.pairwise_mergeSort (fun a b c h1 h2=>?_) (fun a b=>?_) l) (isort_sorted hS l) ((List.mergeSort_perm _ _).trans (isort_perm lt l).symm)
 ·simp only [Bool.not_eq_true'] at h1 h2;exact hT a b h2 h1
 ·simp only [Bool.not_eq_true'] at h1 h2 ⊢;exact hS.ntrans _ _ _ h2 h1
 ·cases h1:lt b a with
  | false=>rfl
  | true =>
   cases h2:lt a b with
   | false=>rfl
   | true=>have:=hS.trans _ _ _ h1 h2; rw [hS.irrefl] at this; cases this
theorem ins_map {α β:Type}{lt:α->α->Bool}{lt':β->β->Bool}{f:α->β}(h:∀ a b,lt a b=lt' (f a) (f b)) (x:α):∀ l:List α,(ins lt x l).map f=ins lt' (f x) (l.map f)
 | []=>rfl
 | y::l=>by
  simp only [ins,List.map_cons,h];split
  ·rw [List.map_cons,ins_map h x l]
  ·rfl
theorem isort_map {α β:Type}{lt:α->α->Bool}{lt':β->β->Bool}{f:α->β}(h:∀ a b,lt a b=lt' (f a) (f b)):∀ l:List α,(isort lt l).map f=isort lt' (l.map f)
 | []=>rfl
 | x::l=>by simp only [isort,List.map_cons,ins_map h,isort_map h l]
def sortO {α:Type} [DecidableEq α] (cf:α->α->Option Int) (l:List α):Option (List α) :=
 if (l.all fun a=>l.all fun b=>(cf a b).isSome)&&ordB (ltO cf) l&&decide (l.length<4611686018427387904) then some (isort (ltO cf) l) else none
theorem grow_of_fr {w':World}(h:Fr w w' fun _=>False):∃ q os,w'=grow (w.drewN q) os:=by
 refine ⟨w'.drawn - w.drawn,w'.heap.extract w.heap.size w'.heap.size,?_⟩;obtain ⟨h1,h2,h3,h4,h5,h6,h7⟩:=h;obtain ⟨hp,tp,dr,os,out⟩:=w';simp only at h1 h2 h3 h4 h5 h7;subst h1 h2 h3;unfold grow World.drewN;simp only [World.mk.injEq,true_and,and_true];refine ⟨?_,by omega⟩;apply Array.ext_getElem?;intro k;rw [Array.getElem?_append];by_cases hk:k<w.heap.size
 ·rw [if_pos hk]; exact h5 k hk fun h=>h
 ·rw [if_neg hk,Array.getElem?_extract];by_cases hk2:k<hp.size
  ·rw [if_pos (by omega),show w.heap.size+(k - w.heap.size)=k by omega]
  ·rw [if_neg (by omega),Array.getElem?_eq_none (by omega)]
theorem rowc_int (l:List Int):rowc eI l=l.map I64:=by
 induction l with
 | nil=>rfl
 | cons a l ih =>
  show eI.cells a++rowc eI l=_;rw [ih]; rfl
theorem sort_fin {vs:List Value}{v0 v1:Value}(hvs:vs=[v0,v1]) {I:BSet}{Fs:Nat->BSet}{g:Gst}(hS:SR w I vs.toArray g Fs) {w':World}{e:TypeId}{r:List Int}(ho:w'.ownsRow 0 e 1 v0 r.length (r.map (Value.int .i64))) (hF:∀ c,Fs 0 c↔v0.ownBlock=some c) (hfr:Fr w w' fun c=>Fs 0 c) :
  ∃ v I' Fs',Ending.returned (.tuple #[])=.returned v/\SR w' I' (vs++[v]).toArray (outG [some (oR eI r),none] (.tup [])) Fs'/\St w I (fun c=>∃ t,Fs t c) w' I' (fun c=>∃ t,Fs' t c):=by
 subst hvs;refine ⟨_,I,fun t=>if t=0 then Fs 0 else E0,rfl,⟨fun t x hx=>?_,fun t ht c hc=>?_,fun t t' c hc hc'=>?_,fun t c hc=>?_,fun c hc=>Nat.lt_of_lt_of_le (hS.lt c hc) hfr.size,fun t t' z p n m new z' n' m' new' h1 h2=>?_⟩,⟨?_,fun c h=>h,fun c h=>.inl h,fun c hc=>?_⟩⟩
 ·unfold outG at hx
  split at hx
  ·rename_i ht;have ht:t=2:=ht;subst ht;cases hx;exact ⟨.tuple #[],rfl,.tree (.tup (Fs:=fun _=>E0) rfl (fun k x u h=>by simp at h) (fun j k c h=>by simp at h) (fun c=>⟨fun h=>h.elim,fun ⟨k,h,_⟩=>by simp at h⟩))⟩
  ·match t,hx with
   | 0,hx =>
    cases hx;refine ⟨v0,rfl,.tree ?_⟩;show R w' I _ (.own 1 r.length (rowc eI r)) v0 (Fs 0);rw [rowc_int];refine .own (Fs:=fun _=>E0) ho (by simp) (fun k u hu=>?_) (fun k x u hx hu=>?_) (fun _ _ _ _ _ h=>h.elim) (fun _ _ _ h=>h.elim) (fun c=>⟨fun h=>.inl ((hF c).1 h),fun h=>?_⟩)
    ·rw [List.getElem?_map] at hu;cases hk:r[k]? <;> rw [hk] at hu <;> cases hu;rfl
    ·rw [List.getElem?_map] at hx hu;cases hk:r[k]? <;> rw [hk] at hx hu <;> cases hx <;> cases hu;exact .lit rfl fun _ h=>h
    ·rcases h with h | ⟨_,_,h⟩
     ·exact (hF c).2 h
     ·exact h.elim
   | 1,hx=>cases hx
   | t+2,hx=>cases hx
 ·have h0:¬ t=0:=fun e=>by subst e; exact absurd ht (by simp [outG])
  simp only [if_neg h0] at hc;exact hc
 ·have key:∀ {t:Nat},(if t=0 then Fs 0 else E0) c->t=0:=fun {t} h=>by
   by_cases h0:t=0
   ·exact h0
   ·rw [if_neg h0] at h; exact h.elim
  rw [key hc,key hc']
 ·by_cases h0:t=0
  ·simp only [if_pos h0] at hc; exact hS.imm 0 c hc
  ·simp only [if_neg h0] at hc; exact hc.elim
 ·unfold outG at h1
  split at h1
  ·cases h1
  ·match t,h1 with
   | 0,h1=>cases h1
   | 1,h1=>cases h1
   | t+2,h1=>cases h1
 ·exact hfr.mono fun b _ hb=>⟨0,hb⟩
 ·obtain ⟨t,ht⟩:=hc;by_cases h0:t=0
  ·simp only [if_pos h0] at ht; exact .inl ⟨0,ht⟩
  ·simp only [if_neg h0] at ht; exact ht.elim
theorem ordB_spec {α:Type} [DecidableEq α] {lt:α->α->Bool}{l:List α}(h:ordB lt l=true):∀ a∈l,lt a a=false/\∀ b∈l,(lt a b=true\/lt b a=true\/a=b)/\∀ c∈l,((lt a b=true/\lt b c=true)->lt a c=true)/\(lt a b=true\/lt b c=true\/lt a c=false):=by
 intro a ha;unfold ordB at h;have h1:=List.all_eq_true.1 h a ha;simp only [Bool.and_eq_true,Bool.not_eq_true',List.all_eq_true,Bool.or_eq_true,decide_eq_true_eq] at h1;refine ⟨h1.1,fun b hb=>?_⟩;obtain ⟨h2,h3⟩:=h1.2 b hb;refine ⟨by rcases h2 with (h | h) | h <;> simp [h],fun c hc=>?_⟩;obtain ⟨h4,h5⟩:=h3 c hc;refine ⟨fun ⟨x,y⟩=>?_,by rcases h5 with (h | h) | h <;> simp [h]⟩;rcases h4 with h | h
 ·rw [x,y] at h; cases h
 ·exact h
theorem sortO_spec {α:Type} [DecidableEq α] {cf:α->α->Option Int}{l r:List α}(h:sortO cf l=some r):(∀ a∈l,∀ b∈l,(cf a b).isSome=true)/\ordB (ltO cf) l=true/\l.length<4611686018427387904/\r=isort (ltO cf) l:=by
 unfold sortO at h
 split at h
 ·rename_i hc;simp only [Bool.and_eq_true,List.all_eq_true,decide_eq_true_eq] at hc;exact ⟨hc.1.1,hc.1.2,hc.2,(Option.some.inj h).symm⟩
 ·cases h
theorem heap_sortWorld {α:Type} [Inhabited α] {enc:α->Value}{b n:Nat}{d:Array α}{os:Array Obj}{cur:Array Value}{e:TypeId}{fr:Nat × Nat}(hb:w.heap[b]?=some (.cells cur e fr)) :
  (sortWorld enc w b 0 n d os).heap[b]?=some (.cells (putCells enc 0 d cur) e fr):=by
 have hlt:b<w.heap.size:=(Array.getElem?_eq_some_iff.1 hb).1;unfold sortWorld;rw [heap_grow_old _ _ (by rw [Go.Sort.size_putRow]; exact hlt)];unfold putRow mapBlock;have ea:(Go.Sort.ahead w n).heap=w.heap:=rfl;simp only [ea,Array.getElem?_modify,if_true,hb,Option.map_some,onCells]
theorem heap_sortWorld_other {α:Type} [Inhabited α] {enc:α->Value}{b n c:Nat}{d:Array α}{os:Array Obj}(hc:c<w.heap.size) (hne:c≠b) :
  (sortWorld enc w b 0 n d os).heap[c]?=w.heap[c]?:=by
 unfold sortWorld;rw [heap_grow_old _ _ (by rw [Go.Sort.size_putRow]; exact hc)];unfold putRow mapBlock;have ea:(Go.Sort.ahead w n).heap=w.heap:=rfl;simp only [ea,Array.getElem?_modify,if_neg (Ne.symm hne)]
theorem fr_sortWorld {α:Type} [Inhabited α] {enc:α->Value}{b n:Nat}{d:Array α}{os:Array Obj}{U:BSet}(hU:U b):Fr w (sortWorld enc w b 0 n d os) U:=by
 refine ⟨rfl,rfl,rfl,?_,fun c hc hn=>heap_sortWorld_other hc fun e=>hn (e ▸ hU),fun a ha=>?_,?_⟩
 ·unfold sortWorld; rw [size_grow,Go.Sort.size_putRow]; exact Nat.le_add_right _ _
 ·unfold sortWorld;rw [frozen?_grow _ _ _ (by rw [Go.Sort.size_putRow]; exact ha),Go.Sort.frozen?_putRow]; rfl
 ·show w.drawn<=w.drawn+n;exact Nat.le_add_right _ _
theorem putCells_take {α:Type} [Inhabited α] {enc:α->Value}{d:Array α}{cur:Array Value}(h:d.size<=cur.size):(putCells enc 0 d cur).toList.take d.size=d.toList.map enc:=by
 apply List.ext_getElem?;intro k;rw [List.getElem?_take,List.getElem?_map];by_cases hk:k<d.size
 ·rw [if_pos hk,Array.getElem?_toList,Array.getElem?_toList];have hc:k<cur.size:=by omega
  simp only [putCells,Array.getElem?_mapIdx,Array.getElem?_eq_getElem hc,Array.getElem?_eq_getElem hk,Option.map_some];rw [if_pos ⟨Nat.zero_le _,by omega⟩,Nat.sub_zero];simp [getElem!_pos,hk]
 ·rw [if_neg hk,Array.getElem?_toList,Array.getElem?_eq_none (by omega)]; rfl
theorem Con.sortI {ρ:Ren}(L:SlLaysF.n6 P ρ) {g:FuncId}{caps:List AV} [hcp:NRl caps] (hg:callT P g=true) {l r:List Int}{cf:Int->Int->Option Int}(h:sortO cf l=some r)
  (hc:∀ a b v,cf a b=some v->Con P g (I64 a::I64 b::caps) (none::none::caps.map fun _=>none) (I64 v)) :
  Con P (ρ.f 6) [oR eI l,.clo (.func g) [] caps] [some (oR eI r),none] (.tup []):=by
 refine ⟨rfl,fun w I vs Fs hl hS=>?_⟩;obtain ⟨v0,v1,rfl⟩:∃ v0 v1,vs=[v0,v1]:=by
  match vs,hl with
  | [a,b],_=>exact ⟨a,b,rfl⟩
 obtain ⟨hs1,hs2,hs3,rfl⟩:=sortO_spec h;obtain ⟨u,hu,hR⟩:=hS.rel 0 (oR eI l) rfl;obtain rfl:v0=u:=by simpa using hu
 replace hR:=hR.isTree (by simp);obtain ⟨u,hu,hR1⟩:=hS.rel 1 (.clo (.func g) [] caps) rfl;obtain rfl:v1=u:=by simpa using hu
 replace hR1:=hR1.isTree (by simp);rw [show oR eI l=.own 1 l.length (rowc eI l) from rfl,rowc_int] at hR
 cases hR with
 | ref hx=>simp [AV.isRef] at hx
 | @own _ _ _ _ e us Fk _ ho hlu hone hr hd hb hF =>
 cases hR1 with
 | ref hx=>simp [AV.isRef] at hx
 | @clo _ _ _ a1 cb _ hF1 h1 h2 hr1 hr2 =>
 obtain rfl:a1=#[]:=Array.eq_empty_of_size_eq_zero (by simpa using h1.symm);have hF0:∀ c,Fs 0 c↔v0.ownBlock=some c:=by
  intro c;refine ⟨fun hc=>?_,fun hc=>(hF c).2 (.inl hc)⟩;rcases (hF c).1 hc with h | ⟨k,hk,h⟩
  ·exact h
  ·have hx:=List.getElem?_eq_getElem hk;have hu:=List.getElem?_eq_getElem (hlu ▸ hk);have hR:=hr k _ _ hx hu;rw [List.getElem_map] at hR;generalize us[k]=uu at hR;cases hR with
   | lit _ hf=>exact (hf c h).elim
   | ref hx=>simp [AV.isRef] at hx
 have hus:us=l.map (Value.int .i64):=by
  apply List.ext_getElem?;intro k;by_cases hk:k<us.length
  ·have hk':k<(l.map I64).length:=hlu.symm ▸ hk;have hx:=List.getElem?_eq_getElem hk';have hu:=List.getElem?_eq_getElem hk;have hR:=hr k _ _ hx hu;rw [List.getElem_map] at hR;rw [hu,hR.inv_lit.1,List.getElem?_map,List.getElem?_eq_getElem (by simpa using hk')]; rfl
  ·rw [List.getElem?_eq_none (by omega),List.getElem?_eq_none (by rw [List.length_map] at hlu ⊢; omega)]
 subst hus;have hperm:=isort_perm (ltO cf) l;have hlen:=hperm.length_eq;by_cases hnil:l=[]
 ·subst hnil;have hsl:∃ p cap,v0=.slice p 0 cap:=by
   rcases ho.2 with ⟨rfl,_⟩ | ⟨b,cap,cur,rfl,_⟩
   ·exact ⟨_,_,rfl⟩
   ·exact ⟨_,_,rfl⟩
  obtain ⟨p,cap,rfl⟩:=hsl;refine (AnyF.slices_SortFunc_none { L with } p cap _ w).mono ?_;rintro e' w' ⟨rfl,rfl⟩;exact sort_fin rfl hS (e:=e) (r:=[]) ho hF0 (Fr.refl _ _)
 ·obtain ⟨hlen2,hcase⟩:=ho;rcases hcase with ⟨rfl,h0⟩ | ⟨b,cap,cur,rfl,_,hgb,hle,hmx,hsz,htk⟩
  ·exact absurd (List.eq_nil_of_length_eq_zero h0) hnil
  rw [Nat.mul_one] at hsz htk;have hbU:Fs 0 b:=(hF0 b).2 rfl;have hblt:b<w.heap.size:=(Array.getElem?_eq_some_iff.1 hgb).1;obtain ⟨a0,ha0⟩:=List.exists_mem_of_ne_nil l hnil
  let α:={ x:Int // x∈l }
  haveI:Inhabited α:=⟨⟨a0,ha0⟩⟩
  let enc:α->Value:=fun x=>.int .i64 x.1
  let cg:α->α->Int:=fun x y=>(cf x.1 y.1).getD 0;have hlt:∀ x y:α,ltOf cg x y=ltO cf x.1 y.1:=fun x y=>rfl
  let d:Array α:=l.attach.toArray;have hds:d.size=l.length:=by show (l.attach.toArray).size=l.length; rw [List.size_toArray,List.length_attach]
  have hsp:=ordB_spec hs2;have hO:SWO (ltOf cg):=by
   refine ⟨fun x=>by rw [hlt]; exact (hsp x.1 x.2).1,fun x y z=>?_,fun x y z=>?_⟩
   ·rw [hlt,hlt,hlt];exact fun p q=>(((hsp x.1 x.2).2 y.1 y.2).2 z.1 z.2).1 ⟨p,q⟩
   ·rw [hlt,hlt,hlt];intro p q;rcases (((hsp x.1 x.2).2 y.1 y.2).2 z.1 z.2).2 with h | h | h
    ·rw [p] at h; cases h
    ·rw [q] at h; cases h
    ·exact h
  have hT:∀ x y:α,ltOf cg x y=false->ltOf cg y x=false->x=y:=by
   intro x y p q;rw [hlt] at p q;rcases ((hsp x.1 x.2).2 y.1 y.2).1 with h | h | h
   ·rw [p] at h; cases h
   ·rw [q] at h; cases h
   ·exact Subtype.ext h
  have hcell:∀ j,j<l.length->cur[j]?=some (.int .i64 l[j]!):=by
   intro j hj;have:=congrArg (fun t=>t[j]?) htk;simp only [List.getElem?_take,if_pos hj,Array.getElem?_toList,List.getElem?_map,List.getElem?_eq_getElem hj,Option.map_some] at this;rw [this,getElem!_pos l j hj]
  have hH:Holds enc w b 0 d:=by
   intro j hj;rw [hds] at hj;refine ⟨?_,?_⟩
   ·unfold World.cell?;simp only [hgb,Nat.zero_add];show cur[j]?=_;rw [hcell j hj];show some (Value.int .i64 l[j]!)=some (.int .i64 (d[j]!).1);have:(d[j]!).1=l[j]! := by
     rw [getElem!_pos d j (by omega),getElem!_pos l j hj];show (l.attach.toArray[j]'_).val=_;rw [List.getElem_toArray,List.getElem_attach]
    rw [this]
   ·unfold World.frozen?;simp only [hgb];simp
  have eg:∀ args w,(callFunc g args).run P w=.ok (.enter g args) w:=fun args w=>callT_run hg args;have hcmp:CmpLays1 P g cb enc cg b 0 d.size w:=by
   intro m os dk hdk x y;have hsome:=hs1 x.1 x.2 y.1 y.2;obtain ⟨v,hv⟩:=Option.isSome_iff_exists.1 hsome;have hcg:cg x y=v:=by show (cf x.1 y.1).getD 0=v; rw [hv]; rfl
   have hW0:SR (sortWorld enc w b 0 m dk os) I #[] (fun _=>none) (fun _=>E0):=by
    refine ⟨fun _ _ h=>(by cases h),fun _ _ _ h=>h,fun _ _ _ h=>h.elim,fun _ _ h=>h.elim,fun c hc=>?_,fun _ _ _ _ _ _ _ _ _ _ _ h=>(by cases h)⟩;have:=hS.lt c hc;unfold sortWorld;rw [size_grow,Go.Sort.size_putRow];exact Nat.lt_of_lt_of_le this (Nat.le_add_right _ _)
   have hW:=hW0.args (I':=I) (fun c h=>.inl h) (args:=I64 x.1::I64 y.1::caps) (vs:=enc x::enc y::cb.toList) (by simp [h2]) (fun ρ' k z u hz hu=>?_)
   ·have hcall:=(hc x.1 y.1 v hv).2 _ I (enc x::enc y::cb.toList) _ (by simp [h2]) hW;have harr:(enc x::enc y::cb.toList).toArray=#[enc x,enc y]++cb:=by
     apply Array.ext';simp
    rw [harr] at hcall;refine hcall.mono ?_;rintro e' w' ⟨v',I',Fs',rfl,hS',hst⟩;obtain ⟨u,hu,hRv⟩:=hS'.rel (caps.length+2) (I64 v) (by simp [outG]);have hvu:u=v':=by
     have:(enc x::enc y::cb.toList).length=caps.length+2:=by simp [h2]
     rw [List.getElem?_toArray,<- this] at hu;simpa using hu.symm
    subst hvu;have hlit:=(hRv.isTree (by simp)).inv_lit.1;subst hlit;refine ⟨by rw [hcg],?_⟩;exact grow_of_fr (hst.fr.mono fun c _ ⟨_,hh⟩=>hh)
   ·match k,hz,hu with
    | 0,hz,hu=>cases hz; cases hu; exact .lit rfl fun _ h=>h
    | 1,hz,hu=>cases hz; cases hu; exact .lit rfl fun _ h=>h
    | k+2,hz,hu =>
     simp only [List.getElem?_cons_succ] at hz hu;have hRc:=(hr2 k z u hz (by simpa using hu)).nr (ρ':=ρ') (hcp.nr z (List.mem_of_getElem? hz));refine hRc.frame (fun c hc=>?_) (fun _ h=>h) (fun _ _ h=>h) (fun c h=>h.elim);exact heap_sortWorld_other (hS.lt c hc) fun e=>hS.imm 0 c (e ▸ hbU) hc
  have hmain:=Any.slices_SortFunc_total L enc (fun _=>rfl) cg hO g cb b 0 cap d w eg hcmp hH hblt (by rw [hds]; exact hs3) hT;rw [hds] at hmain;refine hmain.mono ?_;rintro e' w' ⟨rfl,n,os,rfl⟩;have hval:(d.toList.mergeSort fun x y=>!ltOf cg y x).map enc=(isort (ltO cf) l).map (Value.int .i64):=by
   rw [isort_merge hO hT];have hm:(isort (ltOf cg) l.attach).map Subtype.val=isort (ltO cf) (l.attach.map Subtype.val):=isort_map (lt:=ltOf cg) (lt':=ltO cf) (f:=Subtype.val) (fun a b=>hlt a b) l.attach;rw [List.attach_map_subtype_val] at hm;rw [<- hm,List.map_map];rfl
  have hdsz:(d.toList.mergeSort fun x y=>!ltOf cg y x).toArray.size=l.length:=by
   rw [List.size_toArray,(List.mergeSort_perm _ _).length_eq];show (l.attach.toArray).toList.length=l.length;simp
  refine sort_fin rfl hS (e:=e) (r:=isort (ltO cf) l) ⟨by simp,.inr ⟨b,cap,_,by rw [hlen],Nat.zero_le _,heap_sortWorld hgb,by omega,hmx,?_,?_⟩⟩ hF0 (fr_sortWorld hbU)
  ·rw [Nat.mul_one,<- hsz];simp [putCells]
  ·rw [Nat.mul_one,hlen,<- hdsz,putCells_take (by rw [hdsz]; omega),<- hval]
end
end Go.Own
namespace Go.Own
open Go
section
variable {α:Type}{P:Program}{N:Rm}{g g1 g2 g3:Gst}{ops:Array Oper}{AT:List (List Nat)}{acc:Acc}{l:List Oper}{K:Gst->Prop}{i d r:Nat}
theorem SR.settle {w:World}{I:BSet}{T:Array Value}{Fs:Nat->BSet}(h:SR w I T g Fs) (a:Act) (ha:a.tmps=T) {ts:List Nat}{xs ys:List AV}(hx:Own.opds g (ts.map Operand.tmp)=some xs) (ht:Take g xs ys g1) (hnd:ts.Nodup) (hl:ys.length=ts.length) (hd:∀ t∈ts,g1 t=some .dead)
  (hk:Keep (putAll g1 ((ts.map fun t=>(⟨t,[]⟩:Place)).zip ys)) g2):∃ Fs',SR w I T g2 Fs'/\∀ c,(∃ t,Fs' t c)->∃ t,Fs t c:=by
 obtain ⟨hxl,hxr⟩:=opds_sound h ha hx;have hxl':xs.length=ts.length:=by rw [hxl,List.length_map]
 have hand:Hand w I (RefAt w T) Fs xs (ts.map fun t=>a.eval (.tmp t)) (fun _=>E0):=by
  refine ⟨by rw [hxl',List.length_map],fun k x u hxk hu=>?_,fun _ _ _ _ _ h=>h.elim,fun _ _ _ _ h=>h.elim,fun _ _ _ h=>h.elim⟩;rw [List.getElem?_map] at hu;cases htk:ts[k]? with
  | none=>rw [htk] at hu; cases hu
  | some t =>
   rw [htk] at hu; cases hu;exact (hxr k x (.tmp t) hxk (by rw [List.getElem?_map,htk]; rfl)).frame (fun _ _=>rfl) (fun _ h=>h) (fun _ _ h=>h.1) fun _ _=>rfl
 obtain ⟨Fs1,H1,hS1,hH1,hall⟩:=ht.sound h.toC hand;have hzl:((ts.map fun t=>(⟨t,[]⟩:Place)).zip ys).length=ts.length:=by rw [List.length_zip,List.length_map,hl]; exact Nat.min_self _
 obtain ⟨Fs2,hS2,hF⟩:=SRc.putAll ((ts.map fun t=>(⟨t,[]⟩:Place)).zip ys) H1 (fun j=>((ts.map fun t=>a.eval (.tmp t))[j]?).getD undef) hS1 (by
   rw [List.map_fst_zip (by rw [List.length_map,hl]; exact Nat.le_refl _)];exact List.Pairwise.map _ (fun a b h e=>h (congrArg Place.root e)) hnd) (fun j p x hj=>by
   rw [List.getElem?_zip_eq_some] at hj;obtain ⟨h1,h2⟩:=hj;rw [List.getElem?_map] at h1;cases htk:ts[j]? with
   | none=>rw [htk] at h1; cases h1
   | some t =>
    rw [htk] at h1; cases h1;have hdt:=hd t (List.mem_of_getElem? htk);obtain ⟨v,hv,_⟩:=hS1.rel t .dead hdt;have hev:a.eval (.tmp t)=v:=by simp [Act.eval,ha,hv]
    have hvj:(ts.map fun t=>a.eval (.tmp t))[j]?=some v:=by rw [List.getElem?_map,htk]; simp [hev]
    refine ⟨by simp [atP,hdt,AV.at],?_,?_⟩
    ·rw [hvj];show valAt w T ⟨t,[]⟩=some v;unfold valAt;simp only [hv,walk]
    ·rw [hvj];exact hH1.rel j x v h2 hvj) (fun j t c hj hc=>hH1.off j t c (by omega) hc) (fun j c hj hc=>hH1.imm j c (by omega) hc) (fun i j c hi hj h1 h2=>hH1.dis i j c (by omega) (by omega) h1 h2)
 refine ⟨_,hS2.keep hk,fun c ⟨t,_,hc⟩=>?_⟩;have:AllB Fs1 ys.length H1 c:=by
  rcases hF t c hc with h | ⟨j,hj,h⟩
  ·exact .inl ⟨t,h⟩
  ·exact .inr ⟨j,by omega,h⟩
 rcases hall c this with h | ⟨_,_,h⟩
 ·exact h
 ·exact h.elim
theorem EffOk.settle {o:Oper}{ts:List Nat}{xs ys:List AV}(hx:Own.opds g (ts.map Operand.tmp)=some xs) (ht:Take g xs ys g1) (hnd:ts.Nodup) (hl:ys.length=ts.length) (hd:∀ t∈ts,g1 t=some .dead)
  (hk:Keep (putAll g1 ((ts.map fun t=>(⟨t,[]⟩:Place)).zip ys)) g2) (he:EffOk P N g2 o g3):EffOk P N g o g3:=by
 intro w I T Fs hS a ha hN K Q hK;obtain ⟨Fs',hS',hU⟩:=hS.settle a ha hx ht hnd hl hd hk;refine he w I T Fs' hS' a ha hN K Q fun a' w' hn ht=>hK a' w' ?_ ht;obtain ⟨e1,e2,I',Fs2,h1,h2⟩:=hn;exact ⟨e1,e2,I',Fs2,h1,St.trans ⟨Fr.refl _ _,fun _ h=>h,fun _ h=>.inl h,fun c h=>.inl (hU c h)⟩ h2⟩
theorem all2 {Q:Nat->Prop}{a b:Nat}(ha:Q a) (hb:Q b):∀ t∈[a,b],Q t:=fun t ht=>by
 rcases List.mem_cons.1 ht with rfl | ht
 ·exact ha
 ·rw [List.mem_singleton.1 ht]; exact hb
def plB (p q:Place):Bool:=Nat.beq p.root q.root&&p.path == q.path
def ndq:List Place->Bool
 | []=>true
 | x::l=>l.all (fun y=>!plB x y)&&ndq l
theorem ndq_spec:∀ {l:List Place},ndq l=true->l.Nodup
 | [],_=>List.nodup_nil
 | p::l,h=>by
  simp only [ndq,Bool.and_eq_true,List.all_eq_true] at h;refine List.nodup_cons.2 ⟨fun hm=>?_,ndq_spec h.2⟩;have:=h.1 p hm;simp [plB] at this
def noQ (p:Place) (acc:Acc):Bool:=acc.all fun e=>match pendPlace e with | some q=>!plB p q | none=>true
theorem noQ_spec {p:Place}{G:List (Nat × AV)}{A:Nat->Bool}(h:noQ p acc=true) (hG:npB G=true):∀ t z n m new,visG (get G) A acc t≠some (.pend z p n m new):=by
 intro t z n m new e;rcases visG_some e with ⟨e',he,h1,_,h2⟩ | ⟨_,h2⟩
 ·have:=List.all_eq_true.1 h e' he;obtain ⟨k,d,x⟩:=e';simp only at h2;subst h2;simp [pendPlace,plB] at this
 ·exact npB_spec hG _ _ _ _ _ _ h2
theorem O.ap' {en:En α}{L M r:List α}{y:AV}{e b0:Nat}{a b:Operand}{p:Place}{t ty:TypeId}(hs:Rd g a (.brw en.z p L.length)) (hp:atP g p=some (oR en L)) (hx:Rd g b y) (hm:Sr g en y M) (ht:appT P t e en.z b0=true) (hb:Nat.ble b0 128=true) (h:appO L M=some r) (hno:∀ t z n m new,g t≠some (.pend z p n m new)) :
  PS P g (.call { callee:=.builtin .append,args:=#[a,b],argTypes:=#[t,t] }) ty (.pend en.z p L.length M.length (rowc en M)):=by
 obtain ⟨h1,h2,_⟩:=app_bound h hb;exact .pa (.grow hs.opd (.inl ⟨_,hp⟩) (fun t z' n' m' new' e=>hno _ _ _ _ _ e) hx.opd hm.src ht h1 h2)
theorem DL.bw (j0:Nat) {G G2:List (Nat × AV)}{o:Oper}(he:EffOk P N (visG (get G) (fun m=>(AT.getD j0 []).contains m) acc) o (get G2)) (hg:o.guard=none) (hpd:ndq (acc.filterMap pendPlace)=true) (hp0:npB G=true) (hj:Nat.beq ops.size (j0+l.length+1)=true)
  (hU:acc.filter (fun e=>!(AT.getD j0 []).contains e.1)=[])
  (hb:(List.range ops.size).all (fun k=>Nat.ble k j0||(AT.getD k []).contains j0)=true) (hk:DL P N ops AT (get G2) (j0+1) [] l K):DL P N ops AT (get G) i acc (o::l) K:=by
 intro U0 j hP hseg hdrop;have:=drop_at hdrop hj;subst this;obtain ⟨h1,h2⟩:=drop_cons hdrop;obtain ⟨g',hr,hK⟩:=hk [] (j+1) .nil .nil h2;refine ⟨g',.bar (U:=[]) (rs:=rsV []) hseg (ndq_spec hpd) (npB_spec hp0) h1 ?_ he.v (fun p hp=>by simp [rsV] at hp) hU.symm (by simp) (by simp) (by simp) ?_ hr,hK⟩
 ·unfold Wanted; rw [hg]
 ·refine List.all_eq_true.2 fun k hk=>?_;have:=List.all_eq_true.1 hb k hk;simp only [Bool.or_eq_true,decide_eq_true_eq,Nat.ble_eq] at this ⊢;exact this
theorem EffOk.cell {o:Oper}{r k0:Nat}{y:AV}{cs:List AV}{g5:Gst}(hr:g r=some (.obj cs)) (hy:cs[k0]?=some y) (hyn:NR y)
  (hop:∀ v:Value,v.oneCell'=true->∃ g1 g4,Keep (setP g ⟨r,[k0]⟩ (.lit v)) g1/\EffOk P N g1 o g4/\atP g4 ⟨r,[k0]⟩=some (.lit v)/\Keep (setP g4 ⟨r,[k0]⟩ y) g5):EffV P N (fun p=>p∈[(⟨r,[k0]⟩:Place)]) g o g5:=by
 intro w I T Fs h a ha hN K Q hK;have hnp:∀ z q n m new,y≠.pend z q n m new:=by rintro z q n m new rfl; cases hyn
 have hat:atP g ⟨r,[k0]⟩=some y:=by simp [atP,hr,AV.at,AV.kids,hy]
 obtain ⟨v,Fy,hv,hRy,hFy,put⟩:=h.toC.part hat hnp;have hv1:v.oneCell'=true:=by
  obtain ⟨u,hu,hRu⟩:=h.rel r _ hr;obtain ⟨b,u',h1,h2,h3,h4,_⟩:=R.node (z:=0) (n:=0) (hRu.isTree (by simp)) (.inr rfl) hy;have:valAt w T ⟨r,[k0]⟩=child w u k0:=by
   unfold valAt;simp only [hu,walk];cases child w u k0 <;> rfl
  rw [this,h3] at hv;cases hv;exact h4
 obtain ⟨Fs1,hS1,hF1,hF2⟩:=put (.lit v) E0 (.lit hv1 fun _ h=>h) (fun _ h=>h.elim) (fun _ h=>h.elim) (fun _ _ _ h=>h.elim);obtain ⟨g1,g4,hk1,hok,hat4,hk4⟩:=hop v hv1;have sub1:∀ t c,Fs1 t c->Fs t c/\¬ Fy c:=by
  intro t c hc;by_cases ht:t=r
  ·subst ht;rcases (hF1 c).1 hc with h' | h'
   ·exact h'
   ·exact h'.elim
  ·rw [hF2 t ht] at hc;exact ⟨hc,fun hf=>ht (h.dis t r c hc (hFy c hf))⟩
 have hS1':=hS1.keep hk1;refine hok w I T _ hS1' a ha hN K Q fun a' w' hn htm=>?_;obtain ⟨e1,e2,I',Fs',hS',hst⟩:=hn;obtain ⟨v2,F2,hv2,hR2,hF2',put2⟩:=hS'.toC.part hat4 (by simp);have hv2':v2=v:=hR2.inv_lit.1;subst hv2';have hFyI:∀ c,Fy c->¬ I c:=fun c hc=>h.imm r c (hFy c hc);have hFylt:∀ c,Fy c->c<w.heap.size:=fun c hc=>h.ltF r c (hFy c hc);have offU:∀ c,Fy c->¬ ∃ t,(g1 t≠none/\Fs1 t c):=fun c hc ⟨t,_,h'⟩=>(sub1 t c h').2 hc;have offF':∀ t c,Fs' t c->¬ Fy c:=by
  intro t c hc hf;rcases hst.own c ⟨t,hc⟩ with h' | h'
  ·exact offU c hf h'
  ·have:=hFylt c hf; omega
 have offI':∀ c,Fy c->¬ I' c:=by
  intro c hc hi;rcases hst.new c hi with h' | h' | h'
  ·exact hFyI c hc h'
  ·exact offU c hc h'
  ·have:=hFylt c hc; omega
 have sameY:∀ c,Fy c->w'.heap[c]?=w.heap[c]?:=fun c hc=>hst.fr.block c (hFylt c hc) (offU c hc);have sameI:∀ c,I c->w'.heap[c]?=w.heap[c]?:=fun c hc=>hst.fr.block c (h.lt c hc) fun ⟨t,_,h'⟩=>h.imm t c (sub1 t c h').1 hc;have hRy':R w' I' (RefAt w' a'.tmps) y v2 Fy:=((hRy.nr hyn).frame sameI hst.more (fun _ _ h=>h) sameY);obtain ⟨Fs5,hS5,hF5,hF6⟩:=put2 y Fy hRy' (fun c hc hf=>(offF' _ c hf hc).elim) (fun c hc=>offI' c hc) (fun t c _ hc hf=>offF' t c hf hc);have hS6:=hS5.keep hk4;refine hK a' w' ⟨e1,e2,I',_,hS6,⟨?_,hst.more,fun c hc=>?_,fun c hc=>?_⟩⟩ htm fun r' path hp y' hy' hnp'=>?_
 ·exact hst.fr.mono fun b _ ⟨t,_,h'⟩=>⟨t,(sub1 t b h').1⟩
 ·rcases hst.new c hc with h' | ⟨t,_,h'⟩ | h'
  ·exact .inl h'
  ·exact .inr (.inl ⟨t,(sub1 t c h').1⟩)
  ·exact .inr (.inr h')
 ·obtain ⟨t,_,hc⟩:=hc;have:(∃ t,Fs' t c)\/Fy c:=by
   by_cases ht:t=r
   ·subst ht;rcases (hF5 c).1 hc with ⟨h',_⟩ | h'
    ·exact .inl ⟨_,h'⟩
    ·exact .inr h'
   ·rw [hF6 t ht] at hc; exact .inl ⟨t,hc⟩
  rcases this with h' | h'
  ·rcases hst.own c h' with ⟨t,_,h''⟩ | h''
   ·exact .inl ⟨t,(sub1 t c h'').1⟩
   ·exact .inr h''
  ·exact .inl ⟨r,hFy c h'⟩
 ·have hp:(⟨r',path⟩:Place)∈[(⟨r,[k0]⟩:Place)]:=hp;have hp:=List.mem_singleton.1 hp;cases hp;rw [hv,hv2]
end
end Go.Own
namespace Go.Own
open Go
section
variable {α:Type}{P:Program}{N:Rm}{g:Gst}{ops:Array Oper}{l:List Oper}{K:Gst->Prop}{r n:Nat}{t e ty:TypeId}{a b:Operand}{m:Int}{en:En α}{L:List α}{y y2:α}{k:IntKind}{pos:String}{after:Array Edge}
def idxA {α:Type}(n:Nat) (l:List α) (i:Int):Option α:=if i<n then idx l i else none
theorem idxA_spec (h:idxA n L m=some y):m<n/\idx L m=some y:=by
 unfold idxA at h
 split at h
 ·exact ⟨by assumption,h⟩
 ·cases h
theorem arr_lt (hz:Nat.blt 0 en.z=true) (h:idx L m=some y):m.toNat * en.z<(rowc en L).length:=by
 obtain ⟨h0,h1,_⟩:=idx_spec h;rw [rowc_len];exact Nat.mul_lt_mul_of_pos_right (by omega) (by simpa using hz)
theorem O.ixA (hs:g r=some (.obj (rowc en L))) (hz:Nat.blt 0 en.z=true) (hi:Rd g b (.lit (.int k m))) (ht:arrT P t e n en.z=true) (h:idxA n L m=some y):PS P g (.indexAddr t (.tmp r) b) ty (.ptr ⟨r,[]⟩ (m.toNat * en.z)):=by
 obtain ⟨h1,h2⟩:=idxA_spec h;have hlt:=arr_lt hz h2;obtain ⟨h0,_,_⟩:=idx_spec h2;have hx:Own.opd g (.tmp r)=some (.ptr ⟨r,[]⟩ 0):=by
  cases hc:rowc en L with
  | nil=>rw [hc] at hlt; simp at hlt
  | cons c cs=>simp [Own.opd,hs,hc,refTop,refIn]
 have hm:((m.toNat:Nat):Int)=m:=by omega
 have:=PS1.idxArrP (P:=P) (g:=g) (ty:=ty) (k:=0) (j:=m.toNat) hx (by rw [hm]; exact hi.opd) ht (by omega) ⟨.obj (rowc en L),by simp [atP,hs,AV.at],0,0,_,.inr rfl,by rw [Nat.zero_add]; exact hlt⟩;rw [Nat.zero_add] at this;exact .p1 this
theorem O.ldA {x:AV}(hs:g r=some (.obj (rowc en L))) (ha:Rd g a (.ptr ⟨r,[]⟩ (m.toNat * en.z))) (h:idx L m=some y) (hx:(en.cells y)[0]?=some x) (ht:cellT P t=true) (hn:∀ p,refIn 0 p x=x):PS P g (.load t a) ty x:=by
 have:=rowc_at en h hx;rw [Nat.add_zero] at this;exact O.ldO hs ha ht this (hn _)
theorem RunL.sA {yv:AV}{cs':List AV}{G2:List (Nat × AV)}(hs:g r=some (.obj (rowc en L))) (hz:Nat.blt 0 en.z=true) (ha:Rd g a (.ptr ⟨r,[]⟩ (m.toNat * en.z))) (hb:Rd g b yv) [hn:NRc yv] (h:idx L m=some y) (hc:cellsP yv=some cs') (hcs:cs'=en.cells y2) (hsz:sizeT P t cs'.length=true)
  (hr:(get G2 r).isSome=true) (hG:TrS g (get G2) r (rowc en (L.set m.toNat y2)) G2) (hk:RunL P N ops l (get G2) K):RunL P N ops (⟨none,.store t a b,ty,pos,after,none⟩::l) g K:=by
 have hlen:cs'.length=en.z:=by rw [hcs,en.len]
 obtain ⟨h0,h1,_⟩:=idx_spec h;refine .sO hs ha hb hc hsz ?_ ?_ ?_ hr hG hk
 ·rw [hlen,rowc_len];simp only [Nat.ble_eq];have:(m.toNat+1) * en.z<=L.length * en.z:=Nat.mul_le_mul_right _ (by omega);rw [Nat.add_mul,Nat.one_mul] at this;exact this
 ·rw [hlen]; exact hz
 ·have:=row_set en h (o:=0) (cs':=cs') (y2:=y2) (by
   subst hcs;have hl:(en.cells y2).length=(en.cells y).length:=by rw [en.len,en.len]
   unfold splice;rw [List.take_zero,List.nil_append,Nat.zero_add,hl,List.drop_length,List.append_nil]) (by omega)
  rw [Nat.add_zero] at this;exact this
end
end Go.Own
namespace Go.Own
open Go Go.Proofs Go.Shelf Go.Lib Go.Sort
section
variable {P:Program}{w:World}
class Lts {α:Type}(e:En α) where
 vals:α->List Value
 cells:∀ a,e.cells a=(vals a).map .lit
 one:∀ a,∀ v∈vals a,v.oneCell'=true
variable {α:Type}{e:En α}
theorem Lts.len [h:Lts e] (a:α):(h.vals a).length=e.z:=by
 have:=e.len a;rw [h.cells,List.length_map] at this;exact this
end
end Go.Own
namespace Go.Own
open Go
section
variable {α:Type}{P:Program}{N:Rm}{g:Gst}{d r:Nat}
end
end Go.Own
namespace Go.Own
open Go Go.Proofs Go.Shelf Go.Lib Go.Sort
section
variable {α:Type} [DecidableEq α]
end
section
variable {α:Type}{e:En α}{P:Program}{w:World}
variable [DecidableEq α] [Inhabited α]
end
end Go.Own
namespace Go.Proofs
open Go.Shelf Go.RowKit Go.Lib Go.Sort
variable {α:Type} [Inhabited α] [DecidableEq α]
namespace Two
open Go.Own
variable {P:Program}{t:TypeId}
omit [Inhabited α] [DecidableEq α] in
theorem one (f:α->Int):OneCell fun x=>Value.int .i64 (f x):=fun _=>rfl
end Two
end Go.Proofs
namespace Go.Own
open Go Go.Proofs Go.Shelf Go.Lib Go.Sort
section
variable {α:Type}{e:En α}{P:Program}{w:World}
end
end Go.Own
namespace Go.Own
open Go
section
variable {α:Type}{P:Program}{N:Rm}{g:Gst}{d r:Nat}
end
end Go.Own
namespace Go.Own
open Go
theorem q {α:Sort _}{a:α}:a=a:=rfl
abbrev S0:ByteArray:={ data:=#[] }
theorem ode {p:Prop} [Decidable p] (h:decide p=true):p:=of_decide_eq_true h
theorem tn2 {b:Bool}{g h:Gst}{s0 s1:Nat}{x0 x1:AV}(h0:g s0=some x0) [NRc x0] (h1:g s1=some x1) [NRc x1]:Trim b g h [(s0,x0),(s1,x1)]:=(.n h0 (.n h1 .nil))
theorem tn3 {b:Bool}{g h:Gst}{s0 s1 s2:Nat}{x0 x1 x2:AV}(h0:g s0=some x0) [NRc x0] (h1:g s1=some x1) [NRc x1] (h2:g s2=some x2) [NRc x2]:Trim b g h [(s0,x0),(s1,x1),(s2,x2)]:=(.n h0 (.n h1 (.n h2 .nil)))
theorem tn4 {b:Bool}{g h:Gst}{s0 s1 s2 s3:Nat}{x0 x1 x2 x3:AV}(h0:g s0=some x0) [NRc x0] (h1:g s1=some x1) [NRc x1] (h2:g s2=some x2) [NRc x2] (h3:g s3=some x3) [NRc x3]:Trim b g h [(s0,x0),(s1,x1),(s2,x2),(s3,x3)]:=(.n h0 (.n h1 (.n h2 (.n h3 .nil))))
theorem tn5 {b:Bool}{g h:Gst}{s0 s1 s2 s3 s4:Nat}{x0 x1 x2 x3 x4:AV}(h0:g s0=some x0) [NRc x0] (h1:g s1=some x1) [NRc x1] (h2:g s2=some x2) [NRc x2] (h3:g s3=some x3) [NRc x3] (h4:g s4=some x4) [NRc x4]:Trim b g h [(s0,x0),(s1,x1),(s2,x2),(s3,x3),(s4,x4)]:=(.n h0 (.n h1 (.n h2 (.n h3 (.n h4 .nil)))))
theorem tn6 {b:Bool}{g h:Gst}{s0 s1 s2 s3 s4 s5:Nat}{x0 x1 x2 x3 x4 x5:AV}(h0:g s0=some x0) [NRc x0] (h1:g s1=some x1) [NRc x1] (h2:g s2=some x2) [NRc x2] (h3:g s3=some x3) [NRc x3] (h4:g s4=some x4) [NRc x4] (h5:g s5=some x5) [NRc x5]:Trim b g h [(s0,x0),(s1,x1),(s2,x2),(s3,x3),(s4,x4),(s5,x5)]:=(.n h0 (.n h1 (.n h2 (.n h3 (.n h4 (.n h5 .nil))))))
theorem tn7 {b:Bool}{g h:Gst}{s0 s1 s2 s3 s4 s5 s6:Nat}{x0 x1 x2 x3 x4 x5 x6:AV}(h0:g s0=some x0) [NRc x0] (h1:g s1=some x1) [NRc x1] (h2:g s2=some x2) [NRc x2] (h3:g s3=some x3) [NRc x3] (h4:g s4=some x4) [NRc x4] (h5:g s5=some x5) [NRc x5] (h6:g s6=some x6) [NRc x6]:Trim b g h [(s0,x0),(s1,x1),(s2,x2),(s3,x3),(s4,x4),(s5,x5),(s6,x6)]:=(.n h0 (.n h1 (.n h2 (.n h3 (.n h4 (.n h5 (.n h6 .nil)))))))
theorem tn8 {b:Bool}{g h:Gst}{s0 s1 s2 s3 s4 s5 s6 s7:Nat}{x0 x1 x2 x3 x4 x5 x6 x7:AV}(h0:g s0=some x0) [NRc x0] (h1:g s1=some x1) [NRc x1] (h2:g s2=some x2) [NRc x2] (h3:g s3=some x3) [NRc x3] (h4:g s4=some x4) [NRc x4] (h5:g s5=some x5) [NRc x5] (h6:g s6=some x6) [NRc x6] (h7:g s7=some x7) [NRc x7]:Trim b g h [(s0,x0),(s1,x1),(s2,x2),(s3,x3),(s4,x4),(s5,x5),(s6,x6),(s7,x7)]:=(.n h0 (.n h1 (.n h2 (.n h3 (.n h4 (.n h5 (.n h6 (.n h7 .nil))))))))
theorem tn9 {b:Bool}{g h:Gst}{s0 s1 s2 s3 s4 s5 s6 s7 s8:Nat}{x0 x1 x2 x3 x4 x5 x6 x7 x8:AV}(h0:g s0=some x0) [NRc x0] (h1:g s1=some x1) [NRc x1] (h2:g s2=some x2) [NRc x2] (h3:g s3=some x3) [NRc x3] (h4:g s4=some x4) [NRc x4] (h5:g s5=some x5) [NRc x5] (h6:g s6=some x6) [NRc x6] (h7:g s7=some x7) [NRc x7] (h8:g s8=some x8) [NRc x8]:Trim b g h [(s0,x0),(s1,x1),(s2,x2),(s3,x3),(s4,x4),(s5,x5),(s6,x6),(s7,x7),(s8,x8)]:=(.n h0 (.n h1 (.n h2 (.n h3 (.n h4 (.n h5 (.n h6 (.n h7 (.n h8 .nil)))))))))
theorem tn10 {b:Bool}{g h:Gst}{s0 s1 s2 s3 s4 s5 s6 s7 s8 s9:Nat}{x0 x1 x2 x3 x4 x5 x6 x7 x8 x9:AV}(h0:g s0=some x0) [NRc x0] (h1:g s1=some x1) [NRc x1] (h2:g s2=some x2) [NRc x2] (h3:g s3=some x3) [NRc x3] (h4:g s4=some x4) [NRc x4] (h5:g s5=some x5) [NRc x5] (h6:g s6=some x6) [NRc x6] (h7:g s7=some x7) [NRc x7] (h8:g s8=some x8) [NRc x8] (h9:g s9=some x9) [NRc x9]:Trim b g h [(s0,x0),(s1,x1),(s2,x2),(s3,x3),(s4,x4),(s5,x5),(s6,x6),(s7,x7),(s8,x8),(s9,x9)]:=(.n h0 (.n h1 (.n h2 (.n h3 (.n h4 (.n h5 (.n h6 (.n h7 (.n h8 (.n h9 .nil))))))))))
theorem tn11 {b:Bool}{g h:Gst}{s0 s1 s2 s3 s4 s5 s6 s7 s8 s9 s10:Nat}{x0 x1 x2 x3 x4 x5 x6 x7 x8 x9 x10:AV}(h0:g s0=some x0) [NRc x0] (h1:g s1=some x1) [NRc x1] (h2:g s2=some x2) [NRc x2] (h3:g s3=some x3) [NRc x3] (h4:g s4=some x4) [NRc x4] (h5:g s5=some x5) [NRc x5] (h6:g s6=some x6) [NRc x6] (h7:g s7=some x7) [NRc x7] (h8:g s8=some x8) [NRc x8] (h9:g s9=some x9) [NRc x9] (h10:g s10=some x10) [NRc x10]:Trim b g h [(s0,x0),(s1,x1),(s2,x2),(s3,x3),(s4,x4),(s5,x5),(s6,x6),(s7,x7),(s8,x8),(s9,x9),(s10,x10)]:=(.n h0 (.n h1 (.n h2 (.n h3 (.n h4 (.n h5 (.n h6 (.n h7 (.n h8 (.n h9 (.n h10 .nil)))))))))))
section
variable {P:Program}{N:Rm}{ops:Array Oper}{g:Gst}{K:Gst->Prop}{l:List Oper}{d t:Nat}{ty:TypeId}{pos:String}{after:Array Edge}{v:Value}
theorem Fi {G1:List (Nat × AV)}(h:Trim true g (get G1) G1):RunL P N ops [] g fun g'=>Wk g' (get G1):=.fin h
theorem Vm (h:g t=some (.lit v)) (hk:RunL P N ops l (upd g d (.lit v)) K) (hN:N.ok d=true:=by rfl) (hf:g d=none:=by rfl):RunL P N ops (⟨some d,.move (.tmp t),ty,pos,after,none⟩::l) g K:=Rv (O.mv (.lit h)) hk hN hf
theorem Va (h:g t=some (.lit v)) (hk:RunL P N ops l (upd g d (.lit v)) K) (hN:N.ok d=true:=by rfl) (hf:g d=none:=by rfl):RunL P N ops (⟨some d,.assign (.tmp t),ty,pos,after,none⟩::l) g K:=Rv (O.az (.lit h)) hk hN hf
theorem Vk (h:ofConst v=.lit v) (hk:RunL P N ops l (upd g d (.lit v)) K) (hN:N.ok d=true:=by rfl) (hf:g d=none:=by rfl):RunL P N ops (⟨some d,.assign (.const v),ty,pos,after,none⟩::l) g K:=Rv (O.az (.k h)) hk hN hf
end
end Go.Own
namespace Go.Own
open Go
section
variable {α:Type}{g:Gst}
theorem View.pd {e e':En α}{L M:List α}{t:Nat}{q:Place} [h:Tw e e'] (ht:g t=some (.pend e.z q L.length M.length (rowc e M))) (hp:atP g q=some (oR e L)):View g (.brw e.z ⟨t,[]⟩ (L.length+M.length)) (iR e' (L++M)):=by
 have:=vws_rowc e e' (L++M);show View g _ (.imm e'.z (L++M).length (rowc e' (L++M)));rw [<- h.z,List.length_append];refine .rows (.pend ht (.own hp)) ?_ fun k x y hx hy=>?_
 ·rw [<- rowc_app]; exact this.1
 ·rw [<- rowc_app] at hx; exact this.2 g k x y hx hy
end
end Go.Own
namespace Go.Own
open Go
section
variable {α:Type}{P:Program}{N:Rm}{g:Gst}{d r:Nat}
end
end Go.Own
namespace Go.Own
open Go
class Plc (x:AV):Prop where pl:Pl x
class Pll (cs:List AV):Prop where pl:∀ x∈cs,Pl x
instance {v:Value}:Plc (.lit v):=⟨.lit⟩
instance:Plc .nils:=⟨.nils⟩
instance {z n:Nat}{cs:List AV} [h:NRl cs]:Plc (.imm z n cs):=⟨.imm h.nr⟩
instance {α:Type}{e:En α}{L:List α}:Plc (iR e L):=⟨.imm (NRl.nr (cs:=rowc e L))⟩
instance {cs:List AV} [h:Pll cs]:Plc (.agg cs):=⟨.agg h.pl⟩
instance:Pll []:=⟨by simp⟩
instance {x:AV}{cs:List AV} [h:Plc x] [h':Pll cs]:Pll (x::cs):=⟨fun y hy=>by
 rcases List.mem_cons.1 hy with rfl | hy
 ·exact h.pl
 ·exact h'.pl y hy⟩
class NRG (G:List (Nat × AV)):Prop where nr:∀ t x,get G t=some x->NR x
instance:NRG []:=⟨fun t x h=>by cases h⟩
instance {s:Nat}{x:AV}{G:List (Nat × AV)} [h:NRc x] [h':NRG G]:NRG ((s,x)::G):=⟨fun t y hy=>by
 simp only [get] at hy
 split at hy
 ·cases hy; exact h.nr
 ·exact h'.nr t y hy⟩
class NRA (acc:Acc):Prop where nr:∀ e∈acc,∀ x,e.2.2=some x->NR x
instance:NRA []:=⟨by simp⟩
instance {k d:Nat}{x:AV}{acc:Acc} [h:NRc x] [h':NRA acc]:NRA ((k,d,some x)::acc):=⟨fun e he y hy=>by
 rcases List.mem_cons.1 he with rfl | he
 ·cases hy; exact h.nr
 ·exact h'.nr e he y hy⟩
instance {k d:Nat}{acc:Acc} [h':NRA acc]:NRA ((k,d,none)::acc):=⟨fun e he y hy=>by
 rcases List.mem_cons.1 he with rfl | he
 ·cases hy
 ·exact h'.nr e he y hy⟩
end Go.Own
namespace Go.Own
open Go Go.MapKept Go.ChangeMaps
section
variable {P:Program}{w:World}{I:BSet}{T:Array Value}{g g2:Gst}{Fs:Nat->BSet}
end
end Go.Own
namespace Go.Own
open Go Go.MapKept Go.ChangeMaps Go.WideElems
open Go.Maps (Keyed)
set_option linter.unusedVariables false
variable {κ υ:Type}{P:Program}{k e:TypeId}
abbrev Rh:Value->Option (DataW Value × List MemPlace):=fun v=>some (.held v,[])
def tget [DecidableEq κ]:List (κ × υ)->κ->Option υ
 | [],_=>none
 | p::m,x=>if p.1=x then some p.2 else tget m x
def mgetO [DecidableEq κ] (ok:κ->Bool) (z:υ) (m:List (κ × υ)) (x:κ):Option υ:=if ok x then some ((tget m x).getD z) else none
def mputO (ok:κ->Bool) (m:List (κ × υ)) (x:κ) (y:υ):Option (List (κ × υ)):=if ok x&&decide (m.length<=lim) then some ((x,y)::m) else none
structure MK (P:Program) (k:TypeId) (κ:Type) where
 kv:κ->Value
 kf:κ->Lit
 kA:κ->AV
 ok:κ->Bool
 keyed:Keyed P k
 key:∀ x,ok x=true->keyOf P k (kv x)=some (kf x)
 inj:∀ x y,kf x=kf y->x=y
 av:∀ (x:κ) (w:World) (I:BSet) (ρ:AV->Value->Prop) (v:Value),R w I ρ (kA x) v E0->v=kv x
structure MV (P:Program) (e:TypeId) (υ:Type) where
 vv:υ->Value
 vA:υ->AV
 z:υ
 zero:∀ w,(zeroValue e).run P w=.ok (vv z) w
 one:∀ x,(vv x).oneCell'=true
 av:∀ (x:υ) (w:World) (I:BSet) (ρ:AV->Value->Prop) (v:Value),R w I ρ (vA x) v E0->v=vv x
 va:∀ (x:υ) (w:World) (I:BSet) (ρ:AV->Value->Prop),R w I ρ (vA x) (vv x) E0
def srt (P:Program) (k:TypeId) (es:Array MapEntry):List (Lit × DataW Value):=(es.toList.map (rg P k Rh)).foldr DataW.insert []
def MI [DecidableEq κ] (K:MK P k κ) (V:MV P e υ) (m:List (κ × υ)):Array MapEntry->Nat->Prop:=fun es c=>Fit P k Rh es c/\es.size<=m.length/\∀ x zd,(DataW.map (srt P k es)).atKey (K.kf x) zd=match tget m x with | some y=>.held (V.vv y) | none=>zd
variable [DecidableEq κ] {K:MK P k κ}{V:MV P e υ}{m m':List (κ × υ)}{x:κ}{y:υ}{t:TypeId}
theorem MI.nil:MI K V [] #[] 0:=⟨⟨by simp,stamped_empty 0,by simp⟩,Nat.le_refl _,fun x zd=>rfl⟩
theorem MI.look (ok:Bool) (hok:K.ok x=true) (ht:P.underlying t=some (.map k e)) (w:World) (b:Nat) (es:Array MapEntry) (c:Nat) (hb:w.heap[b]?=some (.map es c)) (h:MI K V m es c) :
  (Instr.lookup t (.map (some b)) (K.kv x) ok).run P w=.ok (if ok then .tuple #[V.vv ((tget m x).getD V.z),.bool (tget m x).isSome] else V.vv ((tget m x).getD V.z)) w:=by
 obtain ⟨F,_,hat⟩:=h;have hat:=hat x;rcases Maps.fit_look ok K.keyed ht (V.zero w) hb F (K.key x hok) with ⟨hrun,_,h2⟩ | ⟨e0,y,_,_,hrun,hy,h2,_⟩
 ·have:tget m x=none:=by
   cases hg:tget m x with
   | none=>rfl
   | some y =>
    have h1:=hat .nil;rw [hg] at h1;have h3:=h2 .nil;unfold srt at h1;rw [h1] at h3; cases h3
  rw [hrun,this]; rfl
 ·cases hy;cases hg:tget m x with
  | none =>
   have h1:=hat .nil;rw [hg] at h1;have h3:=h2 .nil;unfold srt at h1;rw [h1] at h3; cases h3
  | some y =>
   have h1:=hat .nil;rw [hg] at h1;have h3:=h2 .nil;unfold srt at h1;rw [h1] at h3;have h4:e0.val=V.vv y:=by simpa using h3.symm
   rw [hrun,h4]; rfl
theorem MI.put (h0:mputO K.ok m x y=some m') (ht:P.underlying t=some (.map k e)) (w:World) (b:Nat) (es:Array MapEntry) (c:Nat) (hb:w.heap[b]?=some (.map es c)) (h:MI K V m es c) :
  ∃ es' c',(Instr.mapUpdate t (.map (some b)) (K.kv x) (V.vv y)).run P w=.ok () (setBlock w b (.map es' c'))/\MI K V m' es' c':=by
 unfold mputO at h0
 split at h0
 ·rename_i hc;cases h0;simp only [Bool.and_eq_true,decide_eq_true_eq] at hc;obtain ⟨hok,hl⟩:=hc;obtain ⟨F,hs,hat⟩:=h;have hkey:=K.key x hok;obtain ⟨es',c',hrun,F',hput,_⟩:=Maps.fit_store (R':=Rh) K.keyed ht hb F (by have:maxLen=9223372036854775807:=rfl; simp only [lim] at hl; omega) (fun _ _ _ _ hz=>hz) hkey (rfl:Rh (V.vv y)=some (.held (V.vv y),[]));refine ⟨es',c',hrun,F',?_,fun x' zd=>?_⟩
  ·have e1:es'.size=((es'.toList.map (rg P k Rh)).foldr DataW.insert []).length:=by rw [length_sorted]; simp
   rw [e1,hput];unfold putKey;rw [length_insert];have e2:=List.length_filter_le (notKey (K.kf x)) ((es.toList.map (rg P k Rh)).foldr DataW.insert []);rw [length_sorted] at e2;simp at e2 ⊢;omega
  ·have e3:(DataW.map (srt P k es'))=(DataW.map (srt P k es)).put (K.kf x) (.held (V.vv y)):=by
    rw [DataW.put_eq]; unfold srt; rw [hput]
   rw [e3];by_cases hx:x=x'
   ·subst hx;rw [Maps.atKey_put_same ⟨_,rfl⟩ (K.keyed.key hkey)];simp [tget]
   ·rw [Maps.atKey_put_other (fun e=>hx (K.inj _ _ e).symm),hat];simp [tget,hx]
 ·cases h0
section
variable {N:Rm}{g:Gst}{a b c:Operand}{p:Place}{ty:TypeId}
instance {q:Array MapEntry->Nat->Prop}:NRc (.mp q):=⟨.mp⟩
instance {q:Array MapEntry->Nat->Prop}:NRc (.imp q):=⟨.imp⟩
instance {q:Array MapEntry->Nat->Prop}:OOc (.mp q):=⟨.mp⟩
theorem O.lkI {r:υ}{X Y:AV}(hm:Rd g a (.imp (MI K V m))) (hx:Rd g b Y) (hY:K.kA x=Y) (ht:P.underlying t=some (.map k e)) (h:mgetO K.ok V.z m x=some r) (hX:V.vA r=X):PS P g (.lookup t a b false) ty X:=by
 subst hX hY;unfold mgetO at h
 split at h
 ·rename_i hok;cases h;exact .p1 (.lkI hm.opd hx.opd (K.av x) (V.va _) fun w b es c hb hq=>MI.look false hok ht w b es c hb hq)
 ·cases h
end
end Go.Own
namespace Go.Own
open Go
section
variable {α:Type}{P:Program}{N:Rm}{g:Gst}{d r:Nat}{ty t t2 e:TypeId}{a b:Operand}{k k':IntKind}{m n:Int}{p:Place}
def inO (L:List α) (m:Int):Option Unit:=if 0<=m/\m<=L.length then some () else none
instance:Lts eI:=⟨fun x=>[.int .i64 x],fun _=>rfl,fun x v hv=>by rw [List.mem_singleton.1 hv]; rfl⟩
theorem O.slS {en:En α}{L:List α}{u:Unit}(hx:Rd g a (.brw en.z p L.length)) (hl:Rd g b (.lit (.int k m))) (hp:atP g p=some (oR en L)) (ht:slT P t e en.z=true) (h:inO L m=some u):PS P g (.slice t a (some b) none none) ty (.sub en.z p m.toNat (L.length - m.toNat)):=by
 unfold inO at h
 split at h
 ·rename_i hc;obtain ⟨i,rfl⟩:=Int.eq_ofNat_of_zero_le hc.1;exact .p1 (.sliceBrw hx.opd ⟨_,hl.opd⟩ rfl ht (by omega) (Nat.le_refl _) ⟨_,_,hp,by omega⟩)
 ·cases h
def cpO (lo nd:Nat) (L S:List α):Option (List α):=if 0<min S.length nd/\lo+nd<=L.length then some (L.take lo++S.take (min S.length nd)++L.drop (lo+min S.length nd)) else none
def ltv (e:En α) [h:Lts e] (L:List α):List Value:=L.flatMap h.vals
theorem ltv_rowc (e:En α) [h:Lts e] (L:List α):rowc e L=(ltv e L).map .lit:=by
 induction L with
 | nil=>rfl
 | cons x L ih =>
  have:rowc e (x::L)=e.cells x++rowc e L:=by simp [rowc]
  rw [this,ih,h.cells];simp [ltv]
theorem SrcP.imm {en:En α}{S:List α}:Src g (iR en S) en.z S.length (rowc en S):=.imm
theorem SrcP.brw {en:En α} [Lts en] {L:List α}{q:Place}{n:Nat}(hq:atP g q=some (oR en L)) (hn:n<=L.length):Src g (.brw en.z q n) en.z (L.take n).length (rowc en (L.take n)):=by
 have h1:(L.take n).length=n:=by rw [List.length_take]; omega
 have h2:rowc en (L.take n)=(((rowc en L).take (n * en.z)).mapIdx fun i x=>refIn 0 (q.push i) x):=by
  rw [rowc_take,ltv_rowc];apply List.ext_getElem?;intro j;rw [List.getElem?_mapIdx];cases hj:((ltv en (L.take n)).map AV.lit)[j]? with
  | none=>rfl
  | some y =>
   obtain ⟨v,_,rfl⟩:=List.mem_map.1 (List.mem_of_getElem? hj);rfl
 rw [h1,h2];exact .brw hq hn
theorem slT_info {z:Nat}(h:slT P t e z=true):(P.info? e).map (·.size)=some z:=by
 unfold slT at h;cases hu:P.underlying t with
 | none=>simp [hu] at h
 | some d =>
  cases hi:P.info? e with
  | none=>cases d <;> simp [hu,hi] at h
  | some i=>cases d <;> simp [hu,hi] at h; simp [h]
theorem EO.cp {o:Oper}{en:En α} [hl:Lts en] {L S L':List α}{lo nd:Nat}{ya yb:AV}{G2:List (Nat × AV)}(ho:o.op=.call { callee:=.builtin .copy,args:=#[a,b],argTypes:=#[t,t2] }) (hd:o.dst=some d) (ha:opd g a=some ya) (hya:ya=.sub en.z ⟨r,[]⟩ lo nd\/(ya=.brw en.z ⟨r,[]⟩ nd/\lo=0)) (hb:opd g b=some yb)
  (hsrc:Src g yb en.z S.length (rowc en S)) (hs:g r=some (oR en L)) (hz1:en.z=1) (ht:slT P t e 1=true) (h:cpO lo nd L S=some L') (hroot:(get G2 r).isSome=true) (hG:TrX g (get G2) r (oR en L') G2) (hgd:get G2 d=none) (hN:N.ok d=true) :
  EO P N g o (get ((d,I64 ((min S.length nd:Nat):Int))::G2)):=by
 unfold cpO at h;by_cases hc:0<min S.length nd/\lo+nd<=L.length
 case neg=>rw [if_neg hc] at h; cases h
 rw [if_pos hc] at h;obtain ⟨hk0,hkn⟩:=hc;cases h;generalize hk:min S.length nd=k at *;have hkS:k<=S.length:=by omega
 have hkn':k<=nd:=by omega
 refine .sem fun w I T Fs h a' ha' hNs K Q hK'=>?_;obtain ⟨hu,he,hsz⟩:=slT_spec (w:=w) ht;have hp:atP g ⟨r,[]⟩=some (oR en L):=by simp [atP,hs,AV.at]
 have hRa:=opd_sound h ha ha';obtain ⟨v0,Fy,hv0,hRy,hFy⟩:=h.part hp (by simp);obtain ⟨a0,cap0,rfl,hcap,hlen,hoff,hsome⟩:=hRy.own_slice;have hLpos:0<L.length:=by omega
 cases a0 with
 | none=>have:=hsome hLpos; simp at this
 | some ad0 =>
 obtain ⟨ho1,ho2⟩:=hoff ad0 rfl;obtain ⟨g0,of0,sp0⟩:=ad0;simp only at ho1 ho2;subst ho1 ho2;have hbF:Fy g0:=hRy.own_block g0 rfl
 -- the target
 have hdst:∃ cap,a'.eval a=.slice (some ⟨g0,lo,none⟩) nd cap:=by
  rcases hya with rfl | ⟨rfl,rfl⟩
  ·obtain ⟨⟨aa,N0,c0,a1,c1,h1,h2,_,_,h5⟩,_⟩:=hRa.inv_sub;rw [h1] at hv0;cases hv0;obtain ⟨ad,e1,e2⟩:=h5 (by omega);cases e1;rw [h2,e2,hz1];exact ⟨c1,by simp⟩
  ·obtain ⟨⟨aa,N0,c0,h1,h2,_⟩,_⟩:=hRa.inv_brw;rw [h1] at hv0;cases hv0;exact ⟨_,h2⟩
 obtain ⟨dcap,hdst⟩:=hdst
 -- the source
 obtain ⟨sa,scap,news,hsv,hnl,hsa,hcell,hcl,hone,hR⟩:=hsrc.sound h (opd_sound h hb ha');rw [hz1,Nat.mul_one] at hnl;cases sa with
 | none=>have:=hsa (by omega) (by omega); simp at this
 | some sad =>
 have hnv:news=ltv en S:=by
  rw [ltv_rowc,List.length_map] at hcl;apply List.ext_getElem hcl.symm;intro j h1 h2;have:=(hR j (.lit (ltv en S)[j]) news[j] (by rw [ltv_rowc,List.getElem?_map,List.getElem?_eq_getElem h2]; rfl) (List.getElem?_eq_getElem h1)).inv_lit.1;exact this
 -- the block
 cases hRy with
 | ref hx=>simp [AV.isRef] at hx
 | @own _ _ _ _ e' us Fk _ hrow hl' h1 hr hd' hbb hF =>
 obtain ⟨hus,hh⟩:=hrow;rcases hh with ⟨hh,_⟩ | ⟨b',cap,cur,hh,r1,r2,r3,r4,r5,r6⟩
 ·cases hh
 cases hh;have hcur:L.length<=cur.size:=by
  have h9:(cur.toList.take (L.length * en.z)).length=L.length * en.z:=by rw [r6,hus]
  rw [List.length_take,hz1,Nat.mul_one,Array.length_toList] at h9;rw [hz1] at r5;omega
 have hcsl:(news.take k).length=k:=by rw [List.length_take]; omega
 have hrun:(execOp a'.eval o).run P w=.ok (.value (goInt k)) (w.setRow g0 (splice cur.toList lo (news.take k)).toArray):=by
  have h8:=run_copy_row (P:=P) w t t2 o.type e g0 lo nd dcap sad S.length scap cur e' (news.take k) hu (slT_info ht) r2 (by rw [hcsl]; exact hk.symm) (fun j v hj=>by
   rw [List.getElem?_take] at hj
   split at hj
   ·exact hcell sad rfl j v hj
   ·cases hj) (by rw [hcsl]; omega) (fun v hv=>by
   obtain ⟨j,hj⟩:=List.getElem?_of_mem (List.mem_of_mem_take hv);exact hone j v hj)
  rw [hcsl] at h8;have e5:(cur.toList.take lo++news.take k++cur.toList.drop (lo+k))=splice cur.toList lo (news.take k):=by unfold splice; rw [hcsl]
  rw [e5] at h8;simp [execOp,ho,resolve,invoke,hdst,hsv,builtin,h8]
 -- the state
 have hrel:∀ (j:Nat) (x:AV) (u:Value),((rowc en S).take k)[j]?=some x->(news.take k)[j]?=some u->R w I (RefAt w T) x u E0:=fun j x u hx hu=>by
  rw [List.getElem?_take] at hx hu
  split at hx
  ·rename_i hj;rw [if_pos hj] at hu;exact (hR j x u hx hu).frame (fun _ _=>rfl) (fun _ h=>h) (fun _ _ h=>h.1) fun _ _=>rfl
  ·cases hx
 have hH:Hand w I (RefAt w T) Fs ((rowc en S).take k) (news.take k) (fun _=>E0) :=
  ⟨by rw [List.length_take,List.length_take,hcl],hrel,fun _ _ _ _ _ h=>h.elim,fun _ _ _ _ h=>h.elim,fun _ _ _ h=>h.elim⟩
 have hcl2:((rowc en S).take k).length=k:=by rw [List.length_take,hcl]; omega
 have hLl:(rowc en L).length=L.length:=by rw [rowc_len,hz1,Nat.mul_one]
 have hnew:(oR en L).splice lo ((rowc en S).take k)=oR en (L.take lo++S.take k++L.drop (lo+k)):=by
  show AV.own en.z L.length (splice (rowc en L) lo ((rowc en S).take k))=_;have e1:splice (rowc en L) lo ((rowc en S).take k)=rowc en (L.take lo++S.take k++L.drop (lo+k)):=by
   unfold splice;rw [hcl2,rowc_app,rowc_app];have q1:=rowc_take en L lo;have q2:=rowc_take en S k;have q3:=rowc_drop en L (lo+k);rw [hz1,Nat.mul_one] at q1 q2 q3;rw [q1,q2,q3]
  unfold oR;rw [e1];congr 1;simp; omega
 have hone2:∀ (j:Nat) (u:Value),(news.take k)[j]?=some u->u.oneCell'=true:=fun j u hu=>by
  rw [List.getElem?_take] at hu
  split at hu
  ·exact hone j u hu
  ·cases hu
 have c1:∀ t x,get G2 t=some x->setP g ⟨r,[]⟩ ((oR en L).splice lo ((rowc en S).take k)) t=some x:=fun t x hx=>by
  rw [hnew];rcases hG.spec t x hx with ⟨h1,h2,_⟩ | ⟨h1,h2,_⟩
  ·rw [setP_slot h1]; exact h2
  ·subst h1 h2; simp [setP,hs,AV.setAt]
 have c2:∀ t x,get G2 t=some x->∀ y,g t=some y->RKp (fun q=>RefOk g q/\Clear ⟨r,[]⟩ lo ((rowc en S).take k).length q/\RefOk (get G2) q) y:=fun t x hx y hy=>by
  rcases hG.spec t x hx with ⟨h1,h2,h3⟩ | ⟨h1,h2,h3⟩
  ·rw [h2] at hy; cases hy;rcases h3 with h3 | ⟨_,c2,e9⟩
   ·exact h3.rkq
   ·cases e9
  ·subst h1; rw [hs] at hy; cases hy; exact .nr (.own (rowc_nr en L))
 have c3:∀ t z q n m new,get G2 t≠some (.pend z q n m new):=fun t z q n m new hx=>by
  rcases hG.spec t _ hx with ⟨_,_,h3 | ⟨h3,_⟩⟩ | ⟨_,_,h3⟩
  ·exact h3.np _ _ _ _ _ rfl
  ·exact h3.np _ _ _ _ _ rfl
  ·cases h3
 obtain ⟨Fs2,hS2,hsub⟩:=h.toC.store (g2:=get G2) hp (.inl rfl) (k:=lo) (cs':=(rowc en S).take k) (by rw [hcl2,hLl]; omega) hH (fun x hx=>rowc_nr en S x (List.mem_of_mem_take hx)) hone2 c1 c2 c3 (by intro e; rw [e] at hroot; cases hroot) hv0 rfl r2;have hput:=hS2.put0 (d:=d) (x:=I64 (k:Int)) (v:=goInt k) (F:=E0) hgd (by rw [<- ha',hNs]; exact Rm.lt hN) (.tree (.lit rfl fun _ h=>h)) (fun _ _ h=>h.elim) (fun _ h=>h.elim) (by rintro z p n m new e; cases e);unfold Oper.wp Oper.upon;simp only [hrun];have e5:get ((d,I64 (k:Int))::G2)=upd (get G2) d (I64 (k:Int)):=by
  funext t;rw [get_cons]
 rw [<- e5] at hput;have hbU:∃ t,Fs t g0:=⟨_,hFy g0 hbF⟩;refine hK' _ _ ⟨by rw [hd]; rfl,by rw [hd]; exact Hold.put hN _ _,I,_,by rw [hd]; simpa [Act.put,ha'] using hput,⟨⟨rfl,rfl,rfl,by simp,fun c _ hc=>setRow_other w g0 c _ (fun e=>hc (e ▸ hbU)),fun a _=>fz_setRow w g0 _ a,Nat.le_refl _⟩,fun _ h=>h,fun _ h=>.inl h,fun c hc=>?_⟩⟩ fun t ht=>by rw [hd]; simp only [Act.put]; rw [Array.getElem?_setIfInBounds_ne]; rintro rfl; exact ht hd
 obtain ⟨t,hc⟩:=hc;simp only [updF] at hc
 split at hc
 ·exact hc.elim
 ·rcases hsub t c hc with h'' | ⟨_,_,h''⟩
  ·exact .inl ⟨t,h''⟩
  ·exact h''.elim
end
end Go.Own
namespace Go.Own
open Go
structure Perm (π:List Nat) (n:Nat):Prop where
 len:π.length=n
 mem:∀ k,k<n->π.idxOf k<n/\π.getD (π.idxOf k) n=k
 lt:∀ j,j<n->π.getD j n<n/\π.idxOf (π.getD j n)=j
section
variable {P:Program}{Q:Exit->Act->World->Prop}{π:List Nat}{l:List Oper}
end
section
variable {P:Program}{N:Rm}
end
end Go.Own
namespace Go.Own
open Go
section
variable {α:Type}{P:Program}{N:Rm}{g:Gst}{a b:Operand}{t:TypeId}{m i:Int}
end
end Go.Own
namespace Go.Proofs
open Go Go.Shelf Go.RowKit Go.Lib Go.Sort Go.Own
def Try.sortI_ren:Go.Shelf.Ren:=⟨fun | 6=>50 | 15=>80 | 14=>79 | 28=>109 | 29=>110 | 20=>101 | 21=>102 | 22=>103 | 23=>104 | 24=>105 | 25=>106 | 26=>107 | 27=>108 | 46=>131 | 47=>132 | 48=>133 | 49=>134 | 50=>135 | 57=>152 | n=>n,fun | 22=>33 | 24=>3 | 25=>55 | 3=>3 | 39=>135 | 0=>0 | 53=>162 | 55=>117 | 4=>4 | 46=>156 | 45=>155 | 50=>86 | 5=>5 | 9=>9 | 66=>180 | 70=>184 | 76=>196 | 77=>197 | n=>n,fun | n=>n⟩
theorem Try.sortI:Go.Proofs.SlLaysF.n6 Try.prog Try.sortI_ren:={
 mixed:=by kernel_rfl
 f6:=⟨Try.f50.name,by decide,Try.func50.trans (congrArg some (by kernel_rfl))⟩
 f14:=⟨Try.f79.name,by decide,Try.func79.trans (congrArg some (by kernel_rfl))⟩
 f15:=Try.func80.trans (congrArg some (by kernel_rfl))
 f20:=⟨Try.f101.name,by decide,Try.func101.trans (congrArg some (by kernel_rfl))⟩
 f21:=⟨Try.f102.name,by decide,Try.func102.trans (congrArg some (by kernel_rfl))⟩
 f22:=⟨Try.f103.name,by decide,Try.func103.trans (congrArg some (by kernel_rfl))⟩
 f23:=⟨Try.f104.name,by decide,Try.func104.trans (congrArg some (by kernel_rfl))⟩
 f24:=⟨Try.f105.name,by decide,Try.func105.trans (congrArg some (by kernel_rfl))⟩
 f25:=⟨Try.f106.name,by decide,Try.func106.trans (congrArg some (by kernel_rfl))⟩
 f26:=⟨Try.f107.name,by decide,Try.func107.trans (congrArg some (by kernel_rfl))⟩
 f27:=⟨Try.f108.name,by decide,Try.func108.trans (congrArg some (by kernel_rfl))⟩
 f28:=Try.func109.trans (congrArg some (by kernel_rfl))
 f29:=Try.func110.trans (congrArg some (by kernel_rfl))
 f46:=⟨Try.f131.name,by decide,Try.func131.trans (congrArg some (by kernel_rfl))⟩
 f47:=Try.func132.trans (congrArg some (by kernel_rfl))
 f48:=Try.func133.trans (congrArg some (by kernel_rfl))
 f49:=⟨Try.f134.name,by decide,Try.func134.trans (congrArg some (by kernel_rfl))⟩
 f50:=⟨Try.f135.name,by decide,Try.func135.trans (congrArg some (by kernel_rfl))⟩
 f57:=⟨Try.f152.name,by decide,Try.func152.trans (congrArg some (by kernel_rfl))⟩
 t0:=Try.underlying0
 a0:=Try.isAgg0
 z0:=Try.sizeOf0
 v0:=Try.zeroValue0
 t3:=Try.underlying3
 a3:=Try.isAgg3
 z3:=Try.sizeOf3
 v3:=Try.zeroValue3
 t4:=Try.underlying4
 a4:=Try.isAgg4
 z4:=Try.sizeOf4
 v4:=Try.zeroValue4
 t5:=Try.underlying5
 a5:=Try.isAgg5
 z5:=Try.sizeOf5
 v5:=Try.zeroValue5
 t9:=Try.underlying9
 a9:=Try.isAgg9
 z9:=Try.sizeOf9
 v9:=Try.zeroValue9
 t22:=Try.underlying33
 a22:=Try.isAgg33
 z22:=Try.sizeOf33
 v22:=Try.zeroValue33
 a24:=Try.isAgg3
 z24:=Try.sizeOf3
 t25:=Try.underlying55
 a25:=Try.isAgg55
 z25:=Try.sizeOf55
 v25:=Try.zeroValue55
 t39:=Try.underlying135
 a39:=Try.isAgg135
 z39:=Try.sizeOf135
 v39:=Try.zeroValue135
 t45:=Try.underlying155
 a45:=Try.isAgg155
 z45:=Try.sizeOf155
 v45:=Try.zeroValue155
 t46:=Try.underlying156
 a46:=Try.isAgg156
 z46:=Try.sizeOf156
 v46:=Try.zeroValue156
 t50:=Try.underlying86
 a50:=Try.isAgg86
 z50:=Try.sizeOf86
 v50:=Try.zeroValue86
 t53:=Try.underlying162
 a53:=Try.isAgg162
 z53:=Try.sizeOf162
 v53:=Try.zeroValue162
 t55:=Try.underlying117
 a55:=Try.isAgg117
 z55:=Try.sizeOf117
 v55:=Try.zeroValue117
 t66:=Try.underlying180
 a66:=Try.isAgg180
 z66:=Try.sizeOf180
 v66:=Try.zeroValue180
 t70:=Try.underlying184
 a70:=Try.isAgg184
 z70:=Try.sizeOf184
 v70:=Try.zeroValue184
 t76:=Try.underlying196
 a76:=Try.isAgg196
 z76:=Try.sizeOf196
 v76:=Try.zeroValue196
 t77:=Try.underlying197
 a77:=Try.isAgg197
 z77:=Try.sizeOf197
 v77:=Try.zeroValue197 }
theorem sort50 {g:FuncId}{caps:List AV} [hcp:NRl caps] (hg:callT Try.prog g=true) {l r:List Int}{cf:Int->Int->Option Int}(h:sortO cf l=some r)
  (hc:∀ a b v,cf a b=some v->Con Try.prog g (I64 a::I64 b::caps) (none::none::caps.map fun _=>none) (I64 v)) :
  Con Try.prog 50 [oR eI l,.clo (.func g) [] caps] [some (oR eI r),none] (.tup []):=Con.sortI Try.sortI hg h hc
open Go Go.Own
set_option maxRecDepth 100000
set_option linter.unusedVariables false
def pf48 (a0:(List Int)) (a1:(List Int)):Option (Bool) :=
 (bif !decide ((a0.length:Int)=(a1.length:Int)) then
 some false
 else
 (loopM (R:=(Unit) ⊕ (Bool)) (fun (s2:Int) =>
 (bif decide (s2<(a0.length:Int)) then
 (idx a0 s2).bind fun x7 =>
 (idx a1 s2).bind fun x8 =>
 (bif !decide (x7=x8) then
 some (.inr (.inr false))
 else
 some (.inl (w64 (s2+1))))
 else
 some (.inr (.inl ())))) 0).bind fun x3 =>
 (match x3 with
 | .inl x4 =>
 some true
 | .inr x5 =>
 some x5))
structure Comb where
 Base:(List Int)
 Val:(List Int)
 Chk:(List Int)
 deriving DecidableEq,Inhabited
def eComb_0:En Comb:=⟨3,fun x=>[iR eI x.Base,iR eI x.Val,iR eI x.Chk],fun _=>rfl,fun _=>NRl.nr⟩
instance:Flat eComb_0:=⟨fun _=>rfl⟩
instance:Tw eComb_0 eComb_0:=⟨rfl,fun x=>(inferInstance:Vws [iR eI x.Base,iR eI x.Val,iR eI x.Chk] [iR eI x.Base,iR eI x.Val,iR eI x.Chk])⟩
instance {x:Comb}:Vws (eComb_0.cells x) [iR eI x.Base,iR eI x.Val,iR eI x.Chk]:=(inferInstance:Vws [iR eI x.Base,iR eI x.Val,iR eI x.Chk] [iR eI x.Base,iR eI x.Val,iR eI x.Chk])
def pf40 (a0:Comb) (a1:Comb):Option (Bool) :=
 (((pf48 a0.Base a1.Base).bind fun x1=>(bif x1 then ((pf48 a0.Val a1.Val).bind fun x3=>(bif x3 then ((pf48 a0.Chk a1.Chk).bind fun x5=>some x5) else some false)) else some false))).bind fun c6 =>
 some c6
def pf91 (a0:Int):Option (Bool) :=
 some (!decide (a0=a0))
def pf62 (a0:Int) (a1:Int):Option (Int) :=
 (pf91 a0).bind fun x1 =>
 (pf91 a1).bind fun x2 =>
 (bif x1 then
 (bif x2 then
 some 0
 else
 some (-1))
 else
 (bif x2 then
 some 1
 else
 (bif decide (a0<a1) then
 some (-1)
 else
 (bif decide (a1<a0) then
 some 1
 else
 some 0))))
def pf67 (a0:(List Int)):Option (Int) :=
 (loopM (R:=(Unit) ⊕ (Int)) (fun (s1:Int) =>
 (bif decide (s1<(a0.length:Int)) then
 (idx a0 s1).bind fun x6 =>
 (bif !decide (x6=0) then
 some (.inr (.inr x6))
 else
 some (.inl (w64 (s1+1))))
 else
 some (.inr (.inl ())))) 0).bind fun x2 =>
 (match x2 with
 | .inl x3 =>
 some 0
 | .inr x4 =>
 some x4)
structure Pair where
 At:Int
 Val:Int
 deriving DecidableEq,Inhabited
def ePair:En Pair:=⟨2,fun x=>[I64 x.At,I64 x.Val],fun _=>rfl,fun _=>NRl.nr⟩
instance:Flat ePair:=⟨fun _=>rfl⟩
instance:OOe ePair:=⟨fun x=>(inferInstance:OOl [I64 x.At,I64 x.Val])⟩
instance:Tw ePair ePair:=⟨rfl,fun x=>(inferInstance:Vws [I64 x.At,I64 x.Val] [I64 x.At,I64 x.Val])⟩
def pf66 (a0:Int) (a1:Int) (c0:(List (List Pair))):Option (Int) :=
 (idx c0 a1).bind fun x1 =>
 (idx c0 a0).bind fun x2 =>
 (pf62 (x1.length:Int) (x2.length:Int)).bind fun x3 =>
 (pf62 a0 a1).bind fun x4 =>
 (pf67 [x3,x4]).bind fun x5 =>
 some x5
def pf65 (a0:(List (List Pair))):Option (Bool) :=
 (bif decide (400<(a0.length:Int)) then
 some false
 else
 (loopM (R:=(Unit) ⊕ (Bool)) (fun (s2:Int) =>
 (bif decide (s2<(a0.length:Int)) then
 (idx a0 s2).bind fun x7 =>
 (loopM (R:=(Unit) ⊕ (Bool)) (fun (s8:List Bool × Int) =>
 (bif decide (s8.2<(x7.length:Int)) then
 (idx x7 s8.2).bind fun x13 =>
 ((bif decide (x13.At<0) then some true else (bif decide (1000<=x13.At) then some true else ((idxA 1000 s8.1 x13.At).bind fun x16=>some x16)))).bind fun c17 =>
 (bif c17 then
 some (.inr (.inr false))
 else
 (idxA 1000 s8.1 x13.At).bind fun x19 =>
 some (.inl (s8.1.set x13.At.toNat true,w64 (s8.2+1))))
 else
 some (.inr (.inl ())))) ((List.replicate 1000 false),0)).bind fun x9 =>
 (match x9 with
 | .inl x10 =>
 some (.inl (w64 (s2+1)))
 | .inr x11 =>
 some (.inr (.inr x11)))
 else
 some (.inr (.inl ())))) 0).bind fun x3 =>
 (match x3 with
 | .inl x4 =>
 some true
 | .inr x5 =>
 some x5))
def pf93 (a0:Pair) (c0:Int) (c1:(List Int)):Option (Bool) :=
 ((bif decide (w64 (c0+a0.At)<(c1.length:Int)) then ((idx c1 (w64 (c0+a0.At))).bind fun x2=>some (!decide (x2=0))) else some false)).bind fun c3 =>
 some c3
def pf126_93 (a0:(List Pair)) (a1_0:Int) (a1_1:(List Int)):Option (Int) :=
 (loopM (R:=(Unit) ⊕ (Int)) (fun (s1:Int) =>
 (bif decide (s1<(a0.length:Int)) then
 (idx a0 s1).bind fun x6 =>
 (pf93 x6 a1_0 a1_1).bind fun x7 =>
 (bif x7 then
 some (.inr (.inr s1))
 else
 some (.inl (w64 (s1+1))))
 else
 some (.inr (.inl ())))) 0).bind fun x2 =>
 (match x2 with
 | .inl x3 =>
 some (-1)
 | .inr x4 =>
 some x4)
def pf92_93 (a0:(List Pair)) (a1_0:Int) (a1_1:(List Int)):Option (Bool) :=
 (pf126_93 a0 a1_0 a1_1).bind fun x1 =>
 some (decide (0<=x1))
def pf68 (a0:(List Int)) (a1:(List Pair)) (a2:Int):Option (Bool) :=
 (pf92_93 a1 a2 a0).bind fun x1 =>
 some (!x1)
def eComb_r:En Comb:=⟨3,fun x=>[oR eI x.Base,oR eI x.Val,oR eI x.Chk],fun _=>rfl,fun _=>NRl.nr⟩
instance:OOe eComb_r:=⟨fun x=>(inferInstance:OOl [oR eI x.Base,oR eI x.Val,oR eI x.Chk])⟩
instance {x:Comb}:Vws (eComb_r.cells x) [iR eI x.Base,iR eI x.Val,iR eI x.Chk]:=(inferInstance:Vws [oR eI x.Base,oR eI x.Val,oR eI x.Chk] [iR eI x.Base,iR eI x.Val,iR eI x.Chk])
def pf41 (a0:(List (List Pair))):Option (Comb) :=
 (pf65 a0).bind fun x1 =>
 (bif !x1 then
 some (⟨([]:List Int),([]:List Int),([]:List Int)⟩:Comb)
 else
 (mkO (a0.length:Int) 0).bind fun x3 =>
 (loopM (R:=List Int) (fun (s4:List Int × Int) =>
 (bif decide (s4.2<(a0.length:Int)) then
 ((idx a0 s4.2).bind fun x9 =>
 ((bif decide (0<(x9.length:Int)) then
 (appO s4.1 [s4.2]).bind fun x12 =>
 some (s4.1++[s4.2])
 else
 some s4.1)).bind fun j10 =>
 some j10).bind fun j8 =>
 some (.inl (j8,w64 (s4.2+1)))
 else
 some (.inr s4.1))) (([]:List Int),0)).bind fun x5 =>
 (sortO (fun a b=>pf66 a b a0) x5).bind fun x13 =>
 (loopM (R:=Comb) (fun (s14:Comb × Int) =>
 (bif decide (s14.2<(x13.length:Int)) then
 (idx x13 s14.2).bind fun x18 =>
 (loopM (R:=List Int) (fun (s19:List Int) =>
 (idx a0 x18).bind fun x22 =>
 (idx s19 x18).bind fun x23 =>
 (pf68 s14.1.Chk x22 x23).bind fun x24 =>
 (bif !x24 then
 (idx s19 x18).bind fun x26 =>
 some (.inl (s19.set x18.toNat (w64 (x26+1))))
 else
 some (.inr s19))) s14.1.Base).bind fun x20 =>
 (idx a0 x18).bind fun x27 =>
 (loopM (R:=List Int × List Int) (fun (s28:List Int × List Int × Int) =>
 (bif decide (s28.2.2<(x27.length:Int)) then
 (idx x27 s28.2.2).bind fun x32 =>
 (idx x20 x18).bind fun x33 =>
 (loopM (R:=List Int × List Int) (fun (s34:List Int × List Int) =>
 (bif decide ((s34.2.length:Int)<=w64 (x33+x32.At)) then
 (appO s34.2 [0]).bind fun x38 =>
 (appO s34.1 [0]).bind fun x39 =>
 some (.inl (s34.1++[0],s34.2++[0]))
 else
 some (.inr (s34.1,s34.2)))) (s28.1,s28.2.1)).bind fun x35 =>
 (idx x35.2 (w64 (x33+x32.At))).bind fun x40 =>
 (idx x35.1 (w64 (x33+x32.At))).bind fun x41 =>
 some (.inl (x35.1.set (w64 (x33+x32.At)).toNat x32.Val,x35.2.set (w64 (x33+x32.At)).toNat (w64 (x18+1)),w64 (s28.2.2+1)))
 else
 some (.inr (s28.1,s28.2.1)))) (s14.1.Val,s14.1.Chk,0)).bind fun x29 =>
 some (.inl ((⟨x20,x29.1,x29.2⟩:Comb),w64 (s14.2+1)))
 else
 some (.inr s14.1))) ((⟨x3,([]:List Int),([]:List Int)⟩:Comb),0)).bind fun x15 =>
 some x15)
def pf44 (a0:Comb) (a1:Int) (a2:Int):Option (Int × Bool) :=
 ((bif decide (a1<0) then some true else (bif decide ((a0.Base.length:Int)<=a1) then some true else (bif decide (a2<0) then some true else some (decide ((a0.Chk.length:Int)<=a2)))))).bind fun c4 =>
 (bif c4 then
 some (0,false)
 else
 (idx a0.Base a1).bind fun x6 =>
 ((bif decide ((a0.Chk.length:Int)<=w64 (x6+a2)) then some true else ((idx a0.Chk (w64 (x6+a2))).bind fun x8=>some (!decide (x8=w64 (a1+1)))))).bind fun c9 =>
 (bif c9 then
 some (0,false)
 else
 (idx a0.Val (w64 (x6+a2))).bind fun x11 =>
 some (x11,true)))
def pf30 (a0:Int) (a1:Int):Option (Int) :=
 (remO a0 a1).bind fun x1 =>
 ((bif decide (x1<0) then
 some (w64 (x1+a1))
 else
 some x1)).bind fun j2 =>
 some j2
def pf37 :Option (Bool) :=
 (pf41 [[(⟨0,5⟩:Pair),(⟨2,6⟩:Pair)],[(⟨1,7⟩:Pair)]]).bind fun x1 =>
 (pf44 x1 1 1).bind fun x2 =>
 (pf44 x1 1 0).bind fun x3 =>
 (((pf40 x1 (⟨[0,0],[5,7,6],[1,2,1]⟩:Comb)).bind fun x4=>(bif x4 then (bif decide (x2.1=7) then (bif x2.2 then some (!x3.2) else some false) else some false) else some false))).bind fun c8 =>
 some c8
def pf13 (a0:Int) (a1:Int) (a2:Int):Option (Bool) :=
 (pf37 ).bind fun x1 =>
 (bif !x1 then
 some false
 else
 (pf30 a0 5).bind fun x3 =>
 (pf30 a1 30).bind fun x4 =>
 (loopM (R:=List (List Pair)) (fun (s5:List (List Pair) × Int) =>
 (bif decide (s5.2<w64 (1+x3)) then
 (loopM (R:=List Pair) (fun (s9:List Pair × Int) =>
 (bif decide (s9.2<w64 (1+x4)) then
 (appO s9.1 [(⟨s9.2,w64 (-s5.2)⟩:Pair)]).bind fun x13 =>
 some (.inl (s9.1++[(⟨s9.2,w64 (-s5.2)⟩:Pair)],w64 (s9.2+1)))
 else
 some (.inr s9.1))) (([]:List Pair),0)).bind fun x10 =>
 (appO s5.1 [x10]).bind fun x14 =>
 some (.inl (s5.1++[x10],w64 (s5.2+1)))
 else
 some (.inr s5.1))) (([]:List (List Pair)),0)).bind fun x6 =>
 (pf41 x6).bind fun x15 =>
 ((bif !decide ((x15.Base.length:Int)=w64 (1+x3)) then some true else some (!decide ((x15.Chk.length:Int)=w64 ((w64 (1+x3)) * (w64 (1+x4))))))).bind fun c17 =>
 (bif c17 then
 some false
 else
 (loopM (R:=(Unit) ⊕ (Bool)) (fun (s19:Int) =>
 (bif decide (s19<w64 (1+x3)) then
 (idx x15.Base s19).bind fun x24 =>
 (bif !decide (x24=w64 (s19 * (w64 (1+x4)))) then
 some (.inr (.inr false))
 else
 some (.inl (w64 (s19+1))))
 else
 some (.inr (.inl ())))) 0).bind fun x20 =>
 (match x20 with
 | .inl x21 =>
 (loopM (R:=List (List Pair)) (fun (s26:List (List Pair)) =>
 (bif decide ((s26.length:Int)<399) then
 (appO s26 [([]:List Pair)]).bind fun x30 =>
 some (.inl (s26++[([]:List Pair)]))
 else
 some (.inr s26))) x6).bind fun x27 =>
 (pf30 a2 5).bind fun x31 =>
 (bif decide (x31=0) then
 (idx [(⟨999,1⟩:Pair)] 0).bind fun x33 =>
 (appO x27 [[(⟨999,1⟩:Pair)].set (0:Int).toNat (⟨1000,x33.Val⟩:Pair)]).bind fun x34 =>
 (pf41 (x27++[[(⟨999,1⟩:Pair)].set (0:Int).toNat (⟨1000,x33.Val⟩:Pair)])).bind fun x35 =>
 (pf40 x35 (⟨([]:List Int),([]:List Int),([]:List Int)⟩:Comb)).bind fun x36 =>
 some x36
 else
 (bif decide (x31=1) then
 (idx [(⟨999,1⟩:Pair)] 0).bind fun x38 =>
 (appO x27 [[(⟨999,1⟩:Pair)].set (0:Int).toNat (⟨(-1),x38.Val⟩:Pair)]).bind fun x39 =>
 (pf41 (x27++[[(⟨999,1⟩:Pair)].set (0:Int).toNat (⟨(-1),x38.Val⟩:Pair)])).bind fun x40 =>
 (pf40 x40 (⟨([]:List Int),([]:List Int),([]:List Int)⟩:Comb)).bind fun x41 =>
 some x41
 else
 (bif decide (x31=2) then
 (appO [(⟨999,1⟩:Pair)] [(⟨999,2⟩:Pair)]).bind fun x43 =>
 (appO x27 [[(⟨999,1⟩:Pair)]++[(⟨999,2⟩:Pair)]]).bind fun x44 =>
 (pf41 (x27++[[(⟨999,1⟩:Pair)]++[(⟨999,2⟩:Pair)]])).bind fun x45 =>
 (pf40 x45 (⟨([]:List Int),([]:List Int),([]:List Int)⟩:Comb)).bind fun x46 =>
 some x46
 else
 (bif decide (x31=3) then
 (appO x27 [([]:List Pair)]).bind fun x48 =>
 (appO (x27++[([]:List Pair)]) [[(⟨999,1⟩:Pair)]]).bind fun x49 =>
 (pf41 ((x27++[([]:List Pair)])++[[(⟨999,1⟩:Pair)]])).bind fun x50 =>
 (pf40 x50 (⟨([]:List Int),([]:List Int),([]:List Int)⟩:Comb)).bind fun x51 =>
 some x51
 else
 (appO x27 [[(⟨999,1⟩:Pair)]]).bind fun x52 =>
 (pf41 (x27++[[(⟨999,1⟩:Pair)]])).bind fun x53 =>
 ((bif decide ((x53.Base.length:Int)=400) then ((idx x53.Base 399).bind fun x55=>some (decide ((x53.Chk.length:Int)=max (w64 (1000+x55)) (w64 ((w64 (1+x3)) * (w64 (1+x4))))))) else some false)).bind fun c56 =>
 some c56))))
 | .inr x22 =>
 some x22)))
theorem w37:pf37=some true:=by kernel_rfl
end Go.Proofs
namespace Go.Own
open Go
variable {α β S R:Type}
abbrev LR (p:S->Prop) (q:R->Prop) (x:S ⊕ R):Prop:=Sum.elim p q x
def Tot (x:Option α) (Φ:α->Prop):Prop:=∃ a,x=some a/\Φ a
namespace Tot
variable {Φ Ψ:α->Prop}
theorem so {a:α}(h:Φ a):Tot (some a) Φ:=⟨a,rfl,h⟩
theorem bi {x:Option β}{f:β->Option α}(h:Tot x fun a=>Tot (f a) Φ):Tot (x.bind f) Φ:=by
 obtain ⟨a,rfl,b,hb,hΦ⟩:=h;exact ⟨b,hb,hΦ⟩
theorem sm {f:β->Option α}{a:β}(h:Tot (f a) Φ):Tot ((some a).bind f) Φ:=h
theorem use {x:Option α}(h:Tot x Ψ) (hi:∀ a,Ψ a->Φ a):Tot x Φ:=by
 obtain ⟨a,ha,hΨ⟩:=h;exact ⟨a,ha,hi a hΨ⟩
theorem by' {x:Option β}{f:β->Option α}{Ξ:β->Prop}(h:Tot x Ξ) (hk:∀ a,Ξ a->Tot (f a) Φ):Tot (x.bind f) Φ:=bi (h.use hk)
theorem cd {c:Bool}{a b:Option α}(ht:c=true->Tot a Φ) (hf:c=false->Tot b Φ):Tot (cond c a b) Φ:=by
 cases c
 ·exact hf rfl
 ·exact ht rfl
theorem cp {p:Prop} [Decidable p] {a b:Option α}(ht:p->Tot a Φ) (hf:¬ p->Tot b Φ):Tot (cond (decide p) a b) Φ :=
 cd (fun h=>ht (of_decide_eq_true h)) (fun h=>hf (of_decide_eq_false h))
theorem cn {p:Prop} [Decidable p] {a b:Option α}(ht:¬ p->Tot a Φ) (hf:p->Tot b Φ):Tot (cond (!decide p) a b) Φ :=
 cd (fun h=>ht (of_decide_eq_false (by simpa using h))) (fun h=>hf (of_decide_eq_true (by simpa using h)))
theorem ap {Φ:List α->Prop}{l m:List α}(h:l.length+m.length<=lim) (hk:Φ (l++m)):Tot (appO l m) Φ:=by
 refine ⟨l++m,?_,hk⟩;unfold appO;rw [if_pos h]
theorem loop {f:S->Option (S ⊕ R)}{s0:S}{Ψ:R->Prop}(Inv:S->Prop) (μ:S->Nat) (h0:Inv s0) (hμ:μ s0<fuel)
  (hs:∀ s,Inv s->Tot (f s) (LR (fun s'=>Inv s'/\μ s'<μ s) Ψ)):Tot (loopM f s0) Ψ:=by
 have key:∀ n s,Inv s->μ s<n->Tot (iter f n s) Ψ:=by
  intro n
  induction n with
  | zero=>intro s _ h; omega
  | succ n ih =>
   intro s hI hm;obtain ⟨x,hx,hP⟩:=hs s hI;cases x with
   | inl s' =>
    obtain ⟨h1,h2⟩:=hP;simp only [iter,hx];exact ih s' h1 (by omega)
   | inr r =>
    simp only [iter,hx];exact ⟨r,rfl,hP⟩
 exact key fuel s0 h0 hμ
theorem count {f:S->Option (S ⊕ R)}{s0:S}{Ψ:R->Prop}(i:S->Int) (n:Int) (Inv:S->Prop) (h0:Inv s0) (hn:n - i s0<1000000000000000000)
  (hs:∀ s,Inv s->Tot (f s) (LR (fun s'=>Inv s'/\i s<i s'/\i s'<=n) Ψ)):Tot (loopM f s0) Ψ:=by
 refine loop Inv (fun s=>(n - i s).toNat) h0 (by show (n - i s0).toNat<1000000000000000000; omega) fun s hI=>(hs s hI).use fun x hx=>?_;cases x with
 | inl s'=>exact ⟨hx.1,by have:=hx.2; show (n - i s').toNat<(n - i s).toNat; omega⟩
 | inr r=>exact hx
end Tot
theorem w64_eq (n:Int):w64 n=(n+9223372036854775808) % 18446744073709551616 - 9223372036854775808:=IntKind.wrap_i64 n
namespace Tot
theorem cut {Φ:ByteArray->Prop}{s:ByteArray}{m n:Int}(h:0<=m/\m<=n/\n<=s.size) (hk:Φ (cutS s m n)):Tot (cutO s m n) Φ:=by
 refine ⟨_,?_,hk⟩;unfold cutO;rw [if_pos h]
theorem sub {Φ:List α->Prop}{l:List α}{m n:Int}(h:0<=m/\m<=n/\n<=l.length) (hk:Φ ((l.drop m.toNat).take (n - m).toNat)):Tot (subO l m n) Φ:=by
 refine ⟨_,?_,hk⟩;unfold subO;rw [if_pos h]
theorem rem {Φ:Int->Prop}{m n:Int}(h:n≠0) (hk:Φ (m.tmod n)):Tot (remO m n) Φ:=by
 refine ⟨_,?_,hk⟩;unfold remO;rw [if_neg h]
theorem mk {Φ:List α->Prop}{m:Int}{z:α}(h:0<=m/\m<=lim) (hk:Φ (List.replicate m.toNat z)):Tot (mkO m z) Φ:=by
 refine ⟨_,?_,hk⟩;unfold mkO;rw [if_pos h]
theorem eq {x:Option α}{Φ:α->Prop}{a:α}(h:Tot x Φ) (e:x=some a):Φ a:=by
 obtain ⟨b,hb,hΦ⟩:=h;rw [e] at hb; cases hb; exact hΦ
theorem ex {x:Option α}{Φ:α->Prop}(h:Tot x Φ):∃ a,x=some a/\Φ a:=h
end Tot
namespace Tot
theorem scan {f:Int->Option (Int ⊕ (Unit ⊕ R))}(l:List β) (P:β->Prop) (Q:R->Prop) (hl:l.length<=100000000000000000)
  (hs:∀ (s:Int) (y:β),0<=s->s<l.length->idx l s=some y->y∈l->Tot (f s) (LR (fun s'=>s'=s+1/\P y) (LR (fun _=>False) Q)))
  (he:∀ s:Int,¬ s<l.length->f s=some (.inr (.inl ()))):Tot (loopM f 0) (LR (fun _=>∀ y∈l,P y) Q):=by
 refine count (fun s=>s) l.length (fun s=>0<=s/\s<=l.length/\∀ (j:Nat) (y:β),(j:Int)<s->l[j]?=some y->P y) ⟨by omega,by omega,fun j y h=>by omega⟩ (by show (l.length:Int) - 0<_; omega) fun s hI=>?_;obtain ⟨h0,h1,h2⟩:=hI;by_cases hlt:s<l.length
 ·have hlt':s.toNat<l.length:=by omega
  have hi:idx l s=some l[s.toNat]:=by simp [idx,h0,hlt']
  refine (hs s _ h0 hlt hi (List.getElem_mem hlt')).use fun x hx=>?_;rcases x with s' | ⟨⟨⟩⟩ | r
  ·obtain ⟨rfl,hP⟩:=hx;refine ⟨⟨by omega,by omega,fun j y hj hy=>?_⟩,by show s<s+1; omega,by show s+1<=_; omega⟩;by_cases hjs:(j:Int)<s
   ·exact h2 j y hjs hy
   ·have:j=s.toNat:=by omega
    subst this;rw [List.getElem?_eq_getElem hlt'] at hy;cases hy; exact hP
  ·exact hx.elim
  ·exact hx
 ·rw [he s hlt];refine so fun y hy=>?_;obtain ⟨j,hj,rfl⟩:=List.mem_iff_getElem.1 hy;exact h2 j _ (by omega) (List.getElem?_eq_getElem hj)
end Tot
end Go.Own
namespace Go.Proofs
open Go Go.Own
set_option maxRecDepth 100000
set_option linter.unusedVariables false
abbrev Rw:=List Pair
structure RowOk (r:Rw):Prop where
 at':∀ p∈r,0<=p.At/\p.At<=999
 nd:(r.map (·.At)).Nodup
def Fit (chk:List Int) (r:Rw) (b:Nat):Prop:=∀ p∈r,chk.getD (b+p.At.toNat) 0=0
theorem idx_nat {α:Type}{l:List α}{k:Nat}(h:k<l.length):idx l (k:Int)=some l[k]:=by simp [idx,h]
theorem c93 (p:Pair) (b:Nat) (chk:List Int) (hp:0<=p.At/\p.At<=999) (hb:b<=1000000000000) (hc:chk.length<=1000000000000):Tot (pf93 p b chk) fun c=>(c=true↔chk.getD (b+p.At.toNat) 0≠0):=by
 unfold pf93;have hw:w64 ((b:Int)+p.At)=((b+p.At.toNat:Nat):Int):=by rw [w64_eq]; omega
 rw [hw];refine .by' (Ξ:=fun c=>(c=true↔chk.getD (b+p.At.toNat) 0≠0)) (Tot.cp (fun h=>?_) (fun h=>.so ?_)) fun c hc=>.so hc
 ·have hl:b+p.At.toNat<chk.length:=by omega
  rw [idx_nat hl];refine Tot.sm (.so ?_);rw [List.getD_eq_getElem?_getD,List.getElem?_eq_getElem hl];simp
 ·have hl:¬ b+p.At.toNat<chk.length:=by omega
  rw [List.getD_eq_getElem?_getD,List.getElem?_eq_none (by omega)];simp
theorem c68 (chk:List Int) (r:Rw) (b:Nat) (hr:∀ p∈r,0<=p.At/\p.At<=999) (hl:r.length<=100000) (hb:b<=1000000000000) (hc:chk.length<=1000000000000):Tot (pf68 chk r b) fun c=>(c=true↔Fit chk r b):=by
 unfold pf68 pf92_93 pf126_93;refine .by' (Ξ:=fun x=>x=true↔¬ Fit chk r b) (.by' (Ξ:=fun x=>(x=-1/\Fit chk r b)\/(0<=x/\¬ Fit chk r b)) ?_ fun x hx=>.so ?_) fun x hx=>.so ?_
 ·refine Tot.by' (Tot.scan r (fun p=>chk.getD (b+p.At.toNat) 0=0) (fun x:Int=>0<=x/\¬ Fit chk r b) (by omega) (fun s y h0 h1 hi hm=>?_) (fun s hs=>by simp [hs])) fun x hx=>?_
  ·refine Tot.cp (fun _=>?_) (fun h=>absurd h1 h);rw [hi];refine Tot.sm (.by' (c93 y b chk (hr y hm) hb hc) fun c hcc=>Tot.cd (fun h=>.so ⟨h0,fun hf=>(hcc.1 h) (hf y hm)⟩) (fun h=>.so ⟨?_,?_⟩))
   ·rw [w64_eq]; omega
   ·exact Classical.byContradiction fun hn=>by rw [hcc.2 hn] at h; cases h
  ·rcases x with _ | x
   ·exact .so (.inl ⟨rfl,hx⟩)
   ·exact .so (.inr hx)
 ·rcases hx with ⟨rfl,hf⟩ | ⟨h0,hf⟩
  ·simp [hf]
  ·simp [h0,hf]
 ·cases x <;> simp_all
theorem c62 (a b:Int):pf62 a b=some (if a<b then -1 else if b<a then 1 else 0):=by
 unfold pf62;have h:∀ x,pf91 x=some false:=fun x=>by simp [pf91]
 rw [h,h];by_cases h1:a<b
 ·simp [h1]
 ·by_cases h2:b<a <;> simp [h1,h2]
theorem c67 (a b:Int):pf67 [a,b]=some (if a=0 then b else a):=by
 unfold pf67;have l1:∀ (f:Int->Option (Int ⊕ (Unit ⊕ Int))),f 0=(if a=0 then some (.inl 1) else some (.inr (.inr a)))->f 1=(if b=0 then some (.inl 2) else some (.inr (.inr b)))->f 2=some (.inr (.inl ()))->loopM f 0=some (if a=0 then (if b=0 then .inl () else .inr b) else .inr a):=by
  intro f x y z;show iter f (999999999999999997+1+1+1) _=_;by_cases ha:a=0
  ·by_cases hb:b=0 <;> simp only [iter,x,y,z,ha,hb,if_true,if_false]
  ·simp only [iter,x,ha,if_false]
 rw [l1 _ ?_ ?_ ?_]
 ·by_cases ha:a=0
  ·by_cases hb:b=0 <;> simp [ha,hb]
  ·simp [ha]
 ·show (bif decide ((0:Int)<2) then _ else _)=_;have e:idx [a,b] 0=some a:=rfl;simp only [e,Option.bind_some];by_cases ha:a=0 <;> simp [ha];rfl
 ·show (bif decide ((1:Int)<2) then _ else _)=_;have e:idx [a,b] 1=some b:=rfl;simp only [e,Option.bind_some];by_cases hb:b=0 <;> simp [hb];rfl
 ·rfl
def Bef (rows:List Rw) (a b:Int):Prop:=∃ x y,idx rows a=some x/\idx rows b=some y/\(y.length<x.length\/(x.length=y.length/\a<b))
theorem idx_some' {α:Type}{l:List α}{i:Int}(h0:0<=i) (h1:i<l.length):∃ y,idx l i=some y/\y∈l:=by
 have hlt:i.toNat<l.length:=by omega
 exact ⟨l[i.toNat],by simp [idx,h0,hlt],List.getElem_mem hlt⟩
theorem c66 (rows:List Rw) (a b:Int) (ha:0<=a/\a<rows.length) (hb:0<=b/\b<rows.length):∃ v,pf66 a b rows=some v/\(v<0↔Bef rows a b):=by
 obtain ⟨x,hx,_⟩:=idx_some' ha.1 ha.2;obtain ⟨y,hy,_⟩:=idx_some' hb.1 hb.2;unfold pf66;rw [hx,hy];simp only [Option.bind_some,c62,c67];have hB:Bef rows a b↔(y.length<x.length\/(x.length=y.length/\a<b)):=by
  unfold Bef;rw [hx,hy];constructor
  ·rintro ⟨x',y',e1,e2,h⟩;cases e1; cases e2; exact h
  ·intro h;exact ⟨x,y,rfl,rfl,h⟩
 refine ⟨_,rfl,?_⟩;rw [hB];by_cases h1:(y.length:Int)<x.length
 ·simp only [h1,if_true];rw [if_neg (by decide)];constructor
  ·intro _; exact .inl (by omega)
  ·intro _; decide
 ·by_cases h2:(x.length:Int)<y.length
  ·simp only [h1,h2,if_true,if_false];rw [if_neg (by decide)];constructor
   ·intro h; exact absurd h (by decide)
   ·rintro (h | ⟨h,_⟩) <;> omega
  ·simp only [h1,h2,if_false,if_true];by_cases h3:a<b
   ·simp only [h3,if_true];constructor
    ·intro _; exact .inr ⟨by omega,trivial⟩
    ·intro _; decide
   ·simp only [h3,if_false];constructor
    ·intro h
     split at h <;> omega
    ·rintro (h | ⟨_,h⟩)
     ·omega
     ·exact h.elim
structure Put (c:Comb) (r:Rw) (i b:Nat) (v ch:List Int):Prop where
 len:v.length=ch.length
 lo:c.Chk.length<=ch.length
 in':∀ p∈r,b+p.At.toNat<ch.length
 hi:ch.length=c.Chk.length\/∃ p∈r,ch.length=b+p.At.toNat+1
 chk:∀ p∈r,ch.getD (b+p.At.toNat) 0=(i:Int)+1
 chn:∀ k,(∀ p∈r,b+p.At.toNat≠k)->ch.getD k 0=c.Chk.getD k 0
 val:∀ p∈r,v.getD (b+p.At.toNat) 0=p.Val
 van:∀ k,(∀ p∈r,b+p.At.toNat≠k)->v.getD k 0=c.Val.getD k 0
structure Step (r:Rw) (i:Nat) (c c':Comb) (b:Nat):Prop where
 fit:Fit c.Chk r b
 least:∀ b',b'<b->¬ Fit c.Chk r b'
 base:c'.Base=c.Base.set i (b:Int)
 put:Put c r i b c'.Val c'.Chk
theorem Fit.same {chk:List Int}{r r':Rw}(h:∀ p,p∈r↔p∈r') {b:Nat}:Fit chk r b↔Fit chk r' b :=
 ⟨fun f p hp=>f p ((h p).2 hp),fun f p hp=>f p ((h p).1 hp)⟩
inductive Lst (rows:List Rw):List Nat->Comb->Prop
 | nil:Lst rows [] ⟨List.replicate rows.length 0,[],[]⟩
 | cons {i b:Nat}{l:List Nat}{c c':Comb}{r:Rw}(hr:rows[i]?=some r) (hi:i∉l) (h:Lst rows l c) (hs:Step r i c c' b):Lst rows (i::l) c'
theorem Lst.len {rows:List Rw}{l:List Nat}{c:Comb}(h:Lst rows l c):c.Val.length=c.Chk.length/\c.Base.length=rows.length:=by
 induction h with
 | nil=>simp
 | cons _ _ _ hs ih=>exact ⟨hs.put.len,by rw [hs.base,List.length_set]; exact ih.2⟩
theorem Lst.rest {rows:List Rw}{l:List Nat}{c:Comb}(h:Lst rows l c):∀ j,j<rows.length->j∉l->c.Base[j]?=some 0:=by
 induction h with
 | nil=>intro j hj _; simp [hj]
 | @cons i b l c c' r hr hi h hs ih =>
  intro j hj hn;rw [hs.base,List.getElem?_set_ne (by rintro rfl; exact hn (by simp))];exact ih j hj fun hh=>hn (by simp [hh])
theorem pad (x y:Int) (K:Nat) (hK:w64 (x+y)=(K:Int)) (hK2:K<=1000000000) (v ch:List Int) (hl:v.length=ch.length) (hb:ch.length<=1000000000) :
  Tot (loopM (R:=List Int × List Int) (fun (s:List Int × List Int) =>
(bif decide ((s.2.length:Int)<=w64 (x+y)) then
(appO s.2 [0]).bind fun x38 =>
(appO s.1 [0]).bind fun x39 =>
some (.inl (s.1++[0],s.2++[0]))
else
some (.inr (s.1,s.2)))) (v,ch)) fun r=>r.1.length=r.2.length/\r.2.length=max ch.length (K+1)/\(∀ k,r.1.getD k 0=v.getD k 0)/\∀ k,r.2.getD k 0=ch.getD k 0:=by
 have app:∀ (l:List Int) k,(l++[0]).getD k 0=l.getD k 0:=by
  intro l k;rw [List.getD_eq_getElem?_getD,List.getD_eq_getElem?_getD];by_cases hk:k<l.length
  ·rw [List.getElem?_append_left hk]
  ·rw [List.getElem?_append_right (by omega),List.getElem?_eq_none (l:=l) (by omega)];by_cases h0:k - l.length=0
   ·rw [h0]; rfl
   ·rw [List.getElem?_eq_none (by simp; omega)]
 refine Tot.loop (fun s=>s.1.length=s.2.length/\ch.length<=s.2.length/\s.2.length<=max ch.length (K+1)/\(∀ k,s.1.getD k 0=v.getD k 0)/\∀ k,s.2.getD k 0=ch.getD k 0) (fun s=>(K+1) - s.2.length) ⟨hl,Nat.le_refl _,Nat.le_max_left _ _,fun _=>rfl,fun _=>rfl⟩ (by show (K+1) - ch.length<1000000000000000000; omega) fun s hs=>?_;obtain ⟨h1,h2,h3,h4,h5⟩:=hs;rw [hK];refine Tot.cp (fun hle=>?_) (fun hgt=>.so ⟨h1,?_,h4,h5⟩)
 ·refine .by' (Ξ:=fun _=>True) (Tot.ap (by simp [lim]; omega) trivial) fun _ _=>.by' (Ξ:=fun _=>True) (Tot.ap (by simp [lim]; omega) trivial) fun _ _=>.so ⟨⟨?_,?_,?_,fun k=>?_,fun k=>?_⟩,?_⟩
  ·show (s.1++[0]).length=(s.2++[0]).length; simp [h1]
  ·show ch.length<=(s.2++[0]).length; simp; omega
  ·show (s.2++[0]).length<=_; simp; omega
  ·exact (app _ _).trans (h4 k)
  ·exact (app _ _).trans (h5 k)
  ·show (K+1) - (s.2++[0]).length<(K+1) - s.2.length;simp; omega
 ·show s.2.length=_; omega
theorem getD_set (l:List Int) (K k:Nat) (x:Int) (h:K<l.length):(l.set K x).getD k 0=if k=K then x else l.getD k 0:=by
 rw [List.getD_eq_getElem?_getD,List.getElem?_set];by_cases e:k=K
 ·subst e; simp [h]
 ·simp [e,Ne.symm e,List.getD_eq_getElem?_getD]
theorem Put.more {c:Comb}{r:Rw}{p:Pair}{i b:Nat}{v ch v' ch':List Int}(h:Put c r i b v ch) (hp:∀ q∈r,q.At.toNat≠p.At.toNat) (hl:v'.length=ch'.length) (hlen:ch'.length=max ch.length (b+p.At.toNat+1)) (hv:∀ k,v'.getD k 0=v.getD k 0) (hc:∀ k,ch'.getD k 0=ch.getD k 0) :
  Put c (r++[p]) i b (v'.set (b+p.At.toNat) p.Val) (ch'.set (b+p.At.toNat) ((i:Int)+1)):=by
 have hK:b+p.At.toNat<ch'.length:=by omega
 have mem:∀ {Q:Pair->Prop},(∀ q∈r,Q q)->Q p->∀ q∈r++[p],Q q:=fun h1 h2 q hq=>by
  rcases List.mem_append.1 hq with hq | hq
  ·exact h1 q hq
  ·rw [List.mem_singleton.1 hq]; exact h2
 refine ⟨by simp [hl],?_,mem (fun q hq=>?_) ?_,?_,mem (fun q hq=>?_) ?_,fun k hk=>?_,mem (fun q hq=>?_) ?_,fun k hk=>?_⟩
 ·rw [List.length_set]; have:=h.lo; omega
 ·rw [List.length_set]; have:=h.in' q hq; omega
 ·rw [List.length_set]; exact hK
 ·rw [List.length_set];by_cases hm:ch.length<=b+p.At.toNat+1
  ·exact .inr ⟨p,by simp,by omega⟩
  ·rcases h.hi with e | ⟨q,hq,e⟩
   ·exact .inl (by omega)
   ·exact .inr ⟨q,by simp [hq],by omega⟩
 ·rw [getD_set _ _ _ _ hK,if_neg (by have:=hp q hq; omega),hc]; exact h.chk q hq
 ·rw [getD_set _ _ _ _ hK,if_pos rfl]
 ·rw [getD_set _ _ _ _ hK,if_neg (fun e=>hk p (by simp) e.symm),hc]; exact h.chn k fun q hq=>hk q (by simp [hq])
 ·rw [getD_set _ _ _ _ (by rw [hl]; exact hK),if_neg (by have:=hp q hq; omega),hv]; exact h.val q hq
 ·rw [getD_set _ _ _ _ (by rw [hl]; exact hK),if_pos rfl]
 ·rw [getD_set _ _ _ _ (by rw [hl]; exact hK),if_neg (fun e=>hk p (by simp) e.symm),hv]; exact h.van k fun q hq=>hk q (by simp [hq])
theorem Put.nil (c:Comb) (i b:Nat) (hl:c.Val.length=c.Chk.length):Put c [] i b c.Val c.Chk :=
 ⟨hl,Nat.le_refl _,fun _ h=>absurd h (by simp),.inl rfl,fun _ h=>absurd h (by simp),fun _ _=>rfl,fun _ h=>absurd h (by simp),fun _ _=>rfl⟩
theorem Fit.far {chk:List Int}{r:Rw}{b:Nat}(h:chk.length<=b):Fit chk r b:=fun p _=>by
 rw [List.getD_eq_getElem?_getD,List.getElem?_eq_none (by omega)]; rfl
theorem set_nd {r:Rw}{k:Nat}(hr:RowOk r) (hk:k<r.length):∀ q∈r.take k,q.At.toNat≠(r[k]).At.toNat:=by
 intro q hq e;obtain ⟨j,hj,rfl⟩:=List.mem_iff_getElem.1 hq;rw [List.length_take] at hj;have hjl:j<r.length:=by omega
 rw [List.getElem_take] at e;have h1:=hr.at' _ (List.getElem_mem hjl);have h2:=hr.at' _ (List.getElem_mem hk);have hnd:=hr.nd;have:=(List.getElem_inj (h₀:=by simpa using hjl) (h₁:=by simpa using hk) hnd).1 (by simp only [List.getElem_map]; omega);omega
structure RowsOk (rows:List Rw):Prop where
 n:rows.length<=400
 rows:∀ r∈rows,RowOk r
structure RowsB (rows:List Rw):Prop where
 n:rows.length<=1000
 r:∀ r∈rows,r.length<=1000
theorem seek (rows:List Rw) (hB:RowsB rows) (i:Nat) (r:Rw) (hr:rows[i]?=some r) (hro:RowOk r) (c:Comb) (hc:c.Chk.length<=900000) (h0:c.Base[i]?=some 0) (fits:List Int->Rw->Int->Option Bool)
  (hf:∀ b:Nat,b<=1000000->Tot (fits c.Chk r b) fun x=>(x=true↔Fit c.Chk r b)) :
  Tot (loopM (R:=List Int) (fun (s19:List Int) =>
(idx rows (i:Int)).bind fun x22 =>
(idx s19 (i:Int)).bind fun x23 =>
(fits c.Chk x22 x23).bind fun x24 =>
(bif !x24 then
(idx s19 (i:Int)).bind fun x26 =>
some (.inl (s19.set (i:Int).toNat (w64 (x26+1))))
else
some (.inr s19))) c.Base) fun B=>∃ b:Nat,B=c.Base.set i (b:Int)/\Fit c.Chk r b/\(∀ b',b'<b->¬ Fit c.Chk r b')/\b<=c.Chk.length:=by
 have hil:i<c.Base.length:=(List.getElem?_eq_some_iff.1 h0).1;have hidx:idx rows (i:Int)=some r:=by simp [idx,hr]
 have hself:c.Base=c.Base.set i 0:=by
  apply List.ext_getElem?;intro k;rw [List.getElem?_set];by_cases e:i=k
  ·subst e; rw [h0]; simp [hil]
  ·simp [e]
 have key:Tot (loopM (R:=List Int) (fun (s19:List Int) =>
(idx rows (i:Int)).bind fun x22 =>
(idx s19 (i:Int)).bind fun x23 =>
(fits c.Chk x22 x23).bind fun x24 =>
(bif !x24 then
(idx s19 (i:Int)).bind fun x26 =>
some (.inl (s19.set (i:Int).toNat (w64 (x26+1))))
else
some (.inr s19))) (c.Base.set i 0)) fun B=>∃ b:Nat,B=c.Base.set i (b:Int)/\Fit c.Chk r b/\(∀ b',b'<b->¬ Fit c.Chk r b')/\b<=c.Chk.length:=by
  refine Tot.loop (fun s=>∃ b:Nat,s=c.Base.set i (b:Int)/\(∀ b',b'<b->¬ Fit c.Chk r b')/\b<=c.Chk.length) (fun s=>c.Chk.length+1 - (s.getD i 0).toNat) ⟨0,rfl,fun b' h=>absurd h (Nat.not_lt_zero _),Nat.zero_le _⟩ (by show c.Chk.length+1 - _<1000000000000000000; omega) fun s hs=>?_;obtain ⟨b,rfl,hl,hb⟩:=hs;have hsi:idx (c.Base.set i (b:Int)) (i:Int)=some (b:Int):=by
   simp [idx,hil]
  rw [hidx,hsi];refine Tot.sm (Tot.sm (.by' (hf b (by omega)) fun x hx=>?_));refine Tot.cd (fun h=>Tot.sm (.so ⟨⟨b+1,?_,fun b' hb'=>?_,?_⟩,?_⟩)) (fun h=>.so ⟨b,rfl,hx.1 (by simpa using h),hl,hb⟩)
  ·have hw:w64 ((b:Int)+1)=((b+1:Nat):Int):=by rw [w64_eq]; omega
   rw [hw];show (c.Base.set i (b:Int)).set i _=_;rw [List.set_set]
  ·by_cases e:b'=b
   ·subst e;intro hfit;rw [hx.2 hfit] at h; cases h
   ·exact hl b' (by omega)
  ·have:¬ c.Chk.length<=b:=fun h'=>by
    rw [hx.2 (Fit.far h')] at h; cases h
   omega
  ·have hw:w64 ((b:Int)+1)=((b+1:Nat):Int):=by rw [w64_eq]; omega
   rw [hw];show c.Chk.length+1 - ((((c.Base.set i (b:Int)).set i ((b+1:Nat):Int)).getD i 0).toNat)<c.Chk.length+1 - ((c.Base.set i (b:Int)).getD i 0).toNat;rw [List.set_set];have g:∀ x:Int,(c.Base.set i x).getD i 0=x:=fun x=>by simp [List.getD_eq_getElem?_getD,hil]
   rw [g,g];have:¬ c.Chk.length<=b:=fun h'=>by
    rw [hx.2 (Fit.far h')] at h; cases h
   omega
 rw [<- hself] at key;exact key
theorem putl (r:Rw) (hro:RowOk r) (hrl:r.length<=1000) (i b:Nat) (hi:i<=100000) (c:Comb) (hcl:c.Val.length=c.Chk.length) (hc:c.Chk.length<=900000) (hb:b<=c.Chk.length)
  (f:List Int × List Int × Int->Option ((List Int × List Int × Int) ⊕ (List Int × List Int)))
  (hf:∀ (v ch:List Int) (k:Nat) (hk:k<r.length),f (v,ch,(k:Int))=(loopM (R:=List Int × List Int) (fun (s:List Int × List Int) =>
(bif decide ((s.2.length:Int)<=w64 ((b:Int)+(r[k]).At)) then
(appO s.2 [0]).bind fun x38 =>
(appO s.1 [0]).bind fun x39 =>
some (.inl (s.1++[0],s.2++[0]))
else
some (.inr (s.1,s.2)))) (v,ch)).bind fun x35 =>
(idx x35.2 (w64 ((b:Int)+(r[k]).At))).bind fun x40 =>
(idx x35.1 (w64 ((b:Int)+(r[k]).At))).bind fun x41 =>
some (.inl (x35.1.set (w64 ((b:Int)+(r[k]).At)).toNat (r[k]).Val,x35.2.set (w64 ((b:Int)+(r[k]).At)).toNat (w64 ((i:Int)+1)),w64 ((k:Int)+1))))
  (he:∀ (v ch:List Int) (k:Int),¬ k<r.length->f (v,ch,k)=some (.inr (v,ch))) :
  Tot (loopM f (c.Val,c.Chk,0)) fun x=>Put c r i b x.1 x.2/\x.2.length<=c.Chk.length+1000:=by
 refine Tot.count (fun s=>s.2.2) r.length (fun s=>∃ k:Nat,k<=r.length/\s.2.2=(k:Int)/\Put c (r.take k) i b s.1 s.2.1) ⟨0,Nat.zero_le _,rfl,Put.nil c i b hcl⟩ (by show (r.length:Int) - 0<_; omega) fun s hs=>?_;obtain ⟨v,ch,k'⟩:=s;obtain ⟨k,hk,rfl,hP⟩:=hs;simp only at hP ⊢;by_cases hlt:k<r.length
 ·rw [hf v ch k hlt];have hp:=hro.at' _ (List.getElem_mem hlt);have hK:w64 ((b:Int)+(r[k]).At)=((b+(r[k]).At.toNat:Nat):Int):=by rw [w64_eq]; omega
  have hchl:ch.length<=1000000:=by
   rcases hP.hi with e | ⟨q,hq,e⟩
   ·omega
   ·have:=hro.at' q (List.mem_of_mem_take hq); omega
  refine .by' (pad _ _ _ hK (by omega) v ch hP.len (by omega)) fun x hx=>?_;obtain ⟨h1,h2,h3,h4⟩:=hx;rw [hK];have hlt2:b+(r[k]).At.toNat<x.2.length:=by omega
  have hlt1:b+(r[k]).At.toNat<x.1.length:=by omega
  rw [idx_nat hlt2,idx_nat hlt1];have hwi:w64 ((i:Int)+1)=(i:Int)+1:=by rw [w64_eq]; omega
  have hwk:w64 ((k:Int)+1)=((k+1:Nat):Int):=by rw [w64_eq]; omega
  rw [hwi,hwk];refine Tot.sm (Tot.sm (.so ⟨⟨k+1,by omega,rfl,?_⟩,?_,?_⟩))
  ·rw [List.take_add_one,List.getElem?_eq_getElem hlt];exact hP.more (set_nd hro hlt) h1 h2 h3 h4
  ·show (k:Int)<((k+1:Nat):Int); omega
  ·show ((k+1:Nat):Int)<=_; omega
 ·rw [he v ch k (by omega)];have:k=r.length:=by omega
  subst this;rw [List.take_length] at hP;refine .so ⟨hP,?_⟩;show ch.length<=c.Chk.length+1000;rcases hP.hi with e | ⟨q,hq,e⟩
  ·omega
  ·have:=hro.at' q hq; omega
theorem RowOk.snoc {r:Rw}{p:Pair}(h:RowOk r) (hp:0<=p.At/\p.At<=999) (hn:p.At∉r.map (·.At)):RowOk (r++[p]):=by
 refine ⟨fun q hq=>?_,?_⟩
 ·rcases List.mem_append.1 hq with hq | hq
  ·exact h.at' q hq
  ·rw [List.mem_singleton.1 hq]; exact hp
 ·rw [List.map_append,List.nodup_append];refine ⟨h.nd,by simp,fun a ha b hb e=>?_⟩;have hb:b∈[p.At]:=hb;rw [List.mem_singleton.1 hb] at e;exact hn (e ▸ ha)
theorem RowOk.nil:RowOk []:=⟨fun _ h=>absurd h (by simp),by simp⟩
theorem RowOk.bad {r:Rw}{k:Nat}(hk:k<r.length) (h:¬ (0<=(r[k]).At/\(r[k]).At<=999)\/(r[k]).At∈(r.take k).map (·.At)):¬ RowOk r:=by
 intro hr;rcases h with h | h
 ·exact h (hr.at' _ (List.getElem_mem hk))
 ·obtain ⟨q,hq,e⟩:=List.mem_map.1 h;exact set_nd hr hk q hq (by have e:q.At=(r[k]).At:=e; rw [e])
theorem rows_bad {rows:List Rw}{r:Rw}(hr:r∈rows) (h:¬ RowOk r):¬ RowsOk rows:=fun hh=>h (hh.rows r hr)
theorem take_snoc {r:Rw}{k:Nat}(h:k<r.length):r.take (k+1)=r.take k++[r[k]]:=by
 rw [List.take_add_one,List.getElem?_eq_getElem h]; rfl
theorem c65 (rows:List Rw) (hB:RowsB rows):Tot (pf65 rows) fun c=>(c=true↔RowsOk rows):=by
 unfold pf65;have hn:=hB.n;refine Tot.cp (fun h=>.so ⟨fun h=>(by cases h),fun hh=>by have:=hh.n; omega⟩) (fun h400=>?_);refine Tot.by' (Tot.scan rows RowOk (fun x:Bool=>x=false/\¬ RowsOk rows) (by omega) (fun s r h0 h1 hi hm=>?_) (fun s hs=>by simp [hs])) fun x hx=>?_
 ·refine Tot.cp (fun _=>?_) (fun h=>absurd h1 h);rw [hi];have hrl:=hB.r r hm;refine Tot.sm (.by' (Ξ:=LR (fun _=>RowOk r) (fun x:Bool=>x=false/\¬ RowsOk rows)) ?_ fun x hx=>?_)
  ·refine Tot.count (fun s=>s.2) r.length (fun s=>∃ k:Nat,k<=r.length/\s.2=(k:Int)/\s.1.length=1000/\RowOk (r.take k)/\∀ j,j<1000->(s.1.getD j false=true↔(j:Int)∈(r.take k).map (·.At))) ⟨0,Nat.zero_le _,rfl,List.length_replicate ..,RowOk.nil,fun j hj=>by
   show ((List.replicate 1000 false).getD j false=true↔_);rw [List.getD_eq_getElem?_getD,List.getElem?_replicate,if_pos hj];simp⟩ (by show (r.length:Int) - 0<_; omega) fun s hs=>?_
   obtain ⟨met,k'⟩:=s;obtain ⟨k,hk,rfl,hml,hok,hmet⟩:=hs;simp only at hml hmet ⊢;refine Tot.cp (fun hlt=>?_) (fun hge=>.so ?_)
   ·have hlt:k<r.length:=by omega
    rw [idx_nat hlt];have hw:w64 ((k:Int)+1)=((k+1:Nat):Int):=by rw [w64_eq]; omega
    rw [hw];have hA:0<=(r[k]).At/\(r[k]).At<=999->idxA 1000 met (r[k]).At=some (met.getD (r[k]).At.toNat false):=by
     intro h;unfold idxA;rw [if_pos (by omega)];have:(r[k]).At.toNat<met.length:=by omega
     simp [idx,h.1,this,List.getD_eq_getElem?_getD]
    refine Tot.sm (.by' (Ξ:=fun c=>(c=true↔(¬ (0<=(r[k]).At/\(r[k]).At<=999)\/(r[k]).At∈(r.take k).map (·.At)))) ?_ fun c hc=>Tot.cd (fun h=>.so ⟨rfl,rows_bad hm (RowOk.bad hlt (hc.1 h))⟩) (fun h=>?_))
    ·refine Tot.cp (fun h=>.so ⟨fun _=>.inl (by omega),fun _=>rfl⟩) (fun h=>Tot.cp (fun h'=>.so ⟨fun _=>.inl (by omega),fun _=>rfl⟩) (fun h'=>?_));have hp:0<=(r[k]).At/\(r[k]).At<=999:=by omega
     rw [hA hp];refine Tot.sm (.so ?_);rw [hmet _ (by omega)];have e:(((r[k]).At.toNat:Nat):Int)=(r[k]).At:=by omega
     rw [e];exact ⟨fun h=>.inr h,fun h=>h.resolve_left fun hn=>hn hp⟩
    ·have hgood:(0<=(r[k]).At/\(r[k]).At<=999)/\(r[k]).At∉(r.take k).map (·.At):=by
      refine ⟨Classical.byContradiction fun hn=>?_,fun hn=>?_⟩
      ·rw [hc.2 (.inl hn)] at h; cases h
      ·rw [hc.2 (.inr hn)] at h; cases h
     obtain ⟨hp,hn⟩:=hgood;rw [hA hp];refine Tot.sm (.so ⟨⟨k+1,by omega,rfl,by show (met.set _ _).length=_; simp [hml],?_,fun j hj=>?_⟩,?_,?_⟩)
     ·rw [take_snoc hlt]; exact hok.snoc hp hn
     ·show ((met.set (r[k]).At.toNat true).getD j false=true↔_);rw [take_snoc hlt,List.map_append,List.mem_append,List.getD_eq_getElem?_getD,List.getElem?_set];by_cases e:(r[k]).At.toNat=j
      ·subst e;have hl:(r[k]).At.toNat<met.length:=by omega
       have e2:(((r[k]).At.toNat:Nat):Int)=(r[k]).At:=by omega
       rw [if_pos rfl,if_pos hl,e2];simp
      ·rw [if_neg e,<- List.getD_eq_getElem?_getD,hmet j hj];constructor
       ·exact .inl
       ·rintro (h | h)
        ·exact h
        ·have h:(j:Int)∈[(r[k]).At]:=h;have:=List.mem_singleton.1 h;omega
     ·show (k:Int)<((k+1:Nat):Int); omega
     ·show ((k+1:Nat):Int)<=_; omega
   ·have:k=r.length:=by omega
    subst this;rw [List.take_length] at hok;exact hok
  ·rcases x with _ | x
   ·exact .so ⟨by rw [w64_eq]; omega,hx⟩
   ·exact .so hx
 ·rcases x with _ | x
  ·have hx:∀ r∈rows,RowOk r:=hx;exact .so ⟨fun _=>⟨by omega,hx⟩,fun _=>rfl⟩
  ·obtain ⟨rfl,hb⟩:x=false/\¬ RowsOk rows:=hx;exact .so ⟨fun h=>(by cases h),fun h=>absurd h hb⟩
open Go Go.Own Go.Sort
def lenI (rows:List Rw) (a:Int):Nat:=((idx rows a).map List.length).getD 0
def ltK (rows:List Rw) (a b:Int):Bool:=decide (lenI rows b<lenI rows a\/(lenI rows a=lenI rows b/\a<b))
theorem ltK_iff {rows:List Rw}{a b:Int}:ltK rows a b=true↔(lenI rows b<lenI rows a\/(lenI rows a=lenI rows b/\a<b)):=by simp [ltK]
theorem ltK_not {rows:List Rw}{a b:Int}:ltK rows a b=false↔¬ (lenI rows b<lenI rows a\/(lenI rows a=lenI rows b/\a<b)):=by simp [ltK]
theorem ltK_swo (rows:List Rw):SWO (ltK rows) where
 irrefl x:=by rw [ltK_not]; omega
 trans x y z h1 h2:=by rw [ltK_iff] at *; omega
 ntrans x y z h1 h2:=by rw [ltK_not] at *; omega
theorem ltK_tot {rows:List Rw}{a b:Int}(h1:ltK rows a b=false) (h2:ltK rows b a=false):a=b:=by
 rw [ltK_not] at *; omega
theorem c66' (rows:List Rw) (a b:Int) (ha:0<=a/\a<rows.length) (hb:0<=b/\b<rows.length):∃ v,pf66 a b rows=some v/\(v<0↔ltK rows a b=true):=by
 obtain ⟨v,hv,h⟩:=c66 rows a b ha hb;refine ⟨v,hv,h.trans ?_⟩;obtain ⟨x,hx,_⟩:=idx_some' ha.1 ha.2;obtain ⟨y,hy,_⟩:=idx_some' hb.1 hb.2;rw [ltK_iff];unfold Bef lenI;rw [hx,hy];constructor
 ·rintro ⟨x',y',e1,e2,h⟩;cases e1; cases e2; exact h
 ·intro h;exact ⟨x,y,rfl,rfl,h⟩
theorem ins_congr {α:Type}{lt lt':α->α->Bool}(x:α):∀ l:List α,(∀ y∈l,lt y x=lt' y x)->ins lt x l=ins lt' x l
 | [],_=>rfl
 | y::l,h=>by
  simp only [ins,h y (by simp)];rw [ins_congr x l fun z hz=>h z (by simp [hz])]
theorem isort_congr {α:Type}{lt lt':α->α->Bool}:∀ l:List α,(∀ a∈l,∀ b∈l,lt a b=lt' a b)->isort lt l=isort lt' l
 | [],_=>rfl
 | x::l,h=>by
  simp only [isort];rw [isort_congr l fun a ha b hb=>h a (by simp [ha]) b (by simp [hb])];exact ins_congr x _ fun y hy=>h y (by simp [(isort_perm lt' l).mem_iff.1 hy]) x (by simp)
structure Ordr (rows:List Rw) (o:List Nat):Prop where
 mem:∀ i,i∈o↔∃ r,rows[i]?=some r/\r≠[]
 nd:o.Nodup
 pw:o.Pairwise fun (a b:Nat)=>ltK rows (b:Int) (a:Int)=false
theorem Ordr.uniq {rows:List Rw}{o o':List Nat}(h:Ordr rows o) (h':Ordr rows o'):o=o' :=
 List.Perm.eq_of_pairwise (le:=fun (a b:Nat)=>ltK rows (b:Int) (a:Int)=false) (fun a b _ _ h1 h2=>by have:=ltK_tot h2 h1; omega) h.pw h'.pw ((List.perm_ext_iff_of_nodup h.nd h'.nd).2 fun i=>(h.mem i).trans (h'.mem i).symm)
theorem Ordr.lt {rows:List Rw}{o:List Nat}(h:Ordr rows o) {i:Nat}(hi:i∈o):i<rows.length:=by
 obtain ⟨r,hr,_⟩:=(h.mem i).1 hi;exact (List.getElem?_eq_some_iff.1 hr).1
theorem Ordr.len {rows:List Rw}{o:List Nat}(h:Ordr rows o):o.length<=rows.length:=by
 have:∀ (l m:List Nat),l.Nodup->(∀ x∈l,x∈m)->l.length<=m.length:=by
  intro l
  induction l with
  | nil=>intro m _ _; exact Nat.zero_le _
  | cons x l ih =>
   intro m hd hm;have hx:=hm x (by simp);have hd':=List.nodup_cons.1 hd;have:=ih (m.erase x) hd'.2 fun y hy=>(List.mem_erase_of_ne (fun e=>hd'.1 (by rw [<- e]; exact hy))).2 (hm y (by simp [hy]));have hl:=List.length_erase_of_mem hx;have hp:=List.length_pos_of_mem hx;simp only [List.length_cons];omega
 have:=this o (List.range rows.length) h.nd fun x hx=>by simpa using h.lt hx
 simpa using this
theorem sortK (rows:List Rw) (l:List Int) (hl:∀ a∈l,0<=a/\a<rows.length) (hn:l.length<=100000):sortO (fun a b=>pf66 a b rows) l=some (isort (ltK rows) l):=by
 have hlt:∀ a∈l,∀ b∈l,ltO (fun a b=>pf66 a b rows) a b=ltK rows a b:=by
  intro a ha b hb;obtain ⟨v,hv,h⟩:=c66' rows a b (hl a ha) (hl b hb);unfold ltO;simp only [hv,Option.getD_some];cases hk:ltK rows a b with
  | true=>exact decide_eq_true (h.2 hk)
  | false=>exact decide_eq_false fun hh=>by rw [h.1 hh] at hk; cases hk
 unfold sortO;rw [if_pos]
 ·rw [isort_congr l hlt]
 ·simp only [Bool.and_eq_true,decide_eq_true_eq,List.all_eq_true];refine ⟨⟨fun a ha b hb=>?_,?_⟩,by omega⟩
  ·obtain ⟨v,hv,_⟩:=c66' rows a b (hl a ha) (hl b hb);rw [hv]; rfl
  ·unfold ordB;simp only [List.all_eq_true,Bool.and_eq_true,Bool.or_eq_true,Bool.not_eq_true',decide_eq_true_eq];have hS:=ltK_swo rows;intro a ha;refine ⟨by rw [hlt a ha a ha]; exact hS.irrefl a,fun b hb=>⟨?_,fun c hc=>⟨?_,?_⟩⟩⟩
   ·rw [hlt a ha b hb,hlt b hb a ha];cases h1:ltK rows a b with
    | true=>exact .inl (.inl rfl)
    | false =>
     cases h2:ltK rows b a with
     | true=>exact .inl (.inr rfl)
     | false=>exact .inr (ltK_tot h1 h2)
   ·rw [hlt a ha b hb,hlt b hb c hc,hlt a ha c hc];cases h1:ltK rows a b with
    | false=>exact .inl rfl
    | true =>
     cases h2:ltK rows b c with
     | false=>exact .inl rfl
     | true=>exact .inr (hS.trans _ _ _ h1 h2)
   ·rw [hlt a ha b hb,hlt b hb c hc,hlt a ha c hc];cases h1:ltK rows a b with
    | true=>exact .inl (.inl rfl)
    | false =>
     cases h2:ltK rows b c with
     | true=>exact .inl (.inr rfl)
     | false=>exact .inr (hS.ntrans _ _ _ h1 h2)
theorem c41 (rows:List Rw) (hB:RowsB rows):Tot (pf41 rows) fun c=>(¬ RowsOk rows->c=⟨[],[],[]⟩)/\(RowsOk rows->c.Chk.length<=900000/\∃ o,Ordr rows o/\Lst rows o.reverse c):=by
 unfold pf41;refine .by' (c65 rows hB) fun x1 h1=>Tot.cd (fun h=>.so ⟨fun _=>rfl,fun hok=>by rw [h1.2 hok] at h; cases h⟩) (fun h=>?_);have hok:RowsOk rows:=h1.1 (by simpa using h);refine Tot.use (Φ:=fun c=>(¬ RowsOk rows->c=⟨[],[],[]⟩)/\(RowsOk rows->c.Chk.length<=900000/\∃ o,Ordr rows o/\Lst rows o.reverse c)) (Ψ:=fun c=>c.Chk.length<=900000/\∃ o,Ordr rows o/\Lst rows o.reverse c) ?_ fun c hc=>⟨fun hn=>absurd hok hn,fun _=>hc⟩;have hn:=hok.n;refine .by' (Ξ:=fun l=>l=List.replicate rows.length 0) (Tot.mk (by simp [lim]; omega) (by simp)) fun x3 h3=>?_;subst h3;refine .by' (Ξ:=fun l=>∃ o:List Nat,l=o.map (fun (j:Nat)=>(j:Int))/\o.Nodup/\o.length<=400/\∀ j,j∈o↔∃ r,rows[j]?=some r/\r≠[]) ?_ fun x5 h5=>?_
 ·refine Tot.count (fun s=>s.2) rows.length (fun s=>∃ k:Nat,k<=rows.length/\s.2=(k:Int)/\∃ o:List Nat,s.1=o.map (fun (j:Nat)=>(j:Int))/\o.Nodup/\o.length<=k/\∀ j,j∈o↔j<k/\∃ r,rows[j]?=some r/\r≠[]) ⟨0,Nat.zero_le _,rfl,[],rfl,List.nodup_nil,Nat.le_refl 0,fun j=>by simp⟩ (by show (rows.length:Int) - 0<_; omega) fun s hs=>?_;obtain ⟨l,k'⟩:=s;obtain ⟨k,hk,rfl,o,rfl,hnd,hol,hm⟩:=hs;simp only;have hw:w64 ((k:Int)+1)=((k+1:Nat):Int):=by rw [w64_eq]; omega
  rw [hw];refine Tot.cp (fun hlt=>?_) (fun hge=>.so ⟨o,rfl,hnd,by omega,fun j=>?_⟩)
  ·have hlt:k<rows.length:=by omega
   rw [idx_nat hlt];have hrk:rows[k]?=some rows[k]:=List.getElem?_eq_getElem hlt;have hko:k∉o:=fun h=>by have:=((hm k).1 h).1; omega
   refine .by' (Ξ:=fun l=>∃ o':List Nat,l=o'.map (fun (j:Nat)=>(j:Int))/\o'.Nodup/\o'.length<=k+1/\∀ j,j∈o'↔j<k+1/\∃ r,rows[j]?=some r/\r≠[]) ?_ fun l hl=>.so ⟨⟨k+1,by omega,rfl,hl⟩,?_,?_⟩
   ·refine Tot.sm (.by' (Ξ:=fun l=>∃ o':List Nat,l=o'.map (fun (j:Nat)=>(j:Int))/\o'.Nodup/\o'.length<=k+1/\∀ j,j∈o'↔j<k+1/\∃ r,rows[j]?=some r/\r≠[]) ?_ fun l hl=>.so hl);refine Tot.cp (fun hp=>?_) (fun hp=>.so ⟨o,rfl,hnd,by omega,fun j=>?_⟩)
    ·refine .by' (Ξ:=fun _=>True) (Tot.ap (by simp [lim]; omega) trivial) fun _ _=>.so ⟨o++[k],by simp,?_,by simp; omega,fun j=>?_⟩
     ·rw [List.nodup_append];exact ⟨hnd,by simp,fun a ha b hb e=>hko (by rw [<- List.mem_singleton.1 hb,<- e]; exact ha)⟩
     ·rw [List.mem_append,hm j,List.mem_singleton];constructor
      ·rintro (⟨h1,h2⟩ | rfl)
       ·exact ⟨by omega,h2⟩
       ·exact ⟨by omega,_,hrk,fun e=>by rw [e] at hp; simp at hp⟩
      ·rintro ⟨h1,h2⟩;by_cases e:j=k
       ·exact .inr e
       ·exact .inl ⟨by omega,h2⟩
    ·rw [hm j];constructor
     ·rintro ⟨h1,h2⟩;exact ⟨by omega,h2⟩
     ·rintro ⟨h1,r,h2,h3⟩;refine ⟨?_,r,h2,h3⟩;have:j≠k:=by
       rintro rfl;rw [hrk] at h2; cases h2;have:(rows[j]).length≠0:=fun e=>h3 (List.eq_nil_of_length_eq_zero e);omega
      omega
   ·show (k:Int)<((k+1:Nat):Int); omega
   ·show ((k+1:Nat):Int)<=_; omega
  ·have:k=rows.length:=by omega
   subst this;rw [hm j];constructor
   ·exact fun h=>h.2
   ·rintro ⟨r,hr,h⟩;exact ⟨(List.getElem?_eq_some_iff.1 hr).1,r,hr,h⟩
 obtain ⟨o1,rfl,hnd1,hol1,hm1⟩:=h5;have hin:∀ a∈o1.map (fun (j:Nat)=>(j:Int)),0<=a/\a<rows.length:=by
  intro a ha;obtain ⟨j,hj,rfl⟩:=List.mem_map.1 ha;obtain ⟨r,hr,_⟩:=(hm1 j).1 hj;have:=(List.getElem?_eq_some_iff.1 hr).1;omega
 rw [sortK rows _ hin (by simp; omega)];refine Tot.sm ?_
 -- the order, az places
 obtain ⟨o,ho,hOr⟩:∃ o:List Nat,isort (ltK rows) (o1.map fun (j:Nat)=>(j:Int))=o.map (fun (j:Nat)=>(j:Int))/\Ordr rows o:=by
  refine ⟨isort (fun a b:Nat=>ltK rows (a:Int) (b:Int)) o1,?_,?_⟩
  ·exact (isort_map (lt:=fun a b:Nat=>ltK rows (a:Int) (b:Int)) (lt':=ltK rows) (f:=fun (j:Nat)=>(j:Int)) (fun a b=>rfl) o1).symm
  ·have hS:=ltK_swo rows;have hp:=isort_perm (fun a b:Nat=>ltK rows (a:Int) (b:Int)) o1;refine ⟨fun i=>(hp.mem_iff).trans (hm1 i),hp.nodup_iff.2 hnd1,?_⟩;have hs:=isort_sorted (lt:=fun a b:Nat=>ltK rows (a:Int) (b:Int)) ⟨fun x=>hS.irrefl _,fun x y z=>hS.trans _ _ _,fun x y z=>hS.ntrans _ _ _⟩ o1;exact hs.imp fun h=>by simpa using h
 rw [ho];have hol:=hOr.len;refine .by' (Ξ:=fun c=>c.Chk.length<=900000/\∃ o,Ordr rows o/\Lst rows o.reverse c) ?_ fun c hc=>.so hc;refine Tot.count (fun s=>s.2) o.length (fun s=>∃ k:Nat,k<=o.length/\s.2=(k:Int)/\s.1.Chk.length<=1000 * k/\Lst rows (o.take k).reverse s.1) ⟨0,Nat.zero_le _,rfl,Nat.le_refl 0,.nil⟩ (by show (o.length:Int) - 0<_; omega) fun s hs=>?_;obtain ⟨c,k'⟩:=s;obtain ⟨k,hk,rfl,hcl,hL⟩:=hs;simp only at hcl hL ⊢;have hw:w64 ((k:Int)+1)=((k+1:Nat):Int):=by rw [w64_eq]; omega
 rw [hw];refine Tot.cp (fun hlt=>?_) (fun hge=>.so ⟨by show c.Chk.length<=900000; omega,o,hOr,?_⟩)
 ·rw [List.length_map] at hlt;have hlt:k<o.length:=by omega
  have hik:idx (o.map fun (j:Nat)=>(j:Int)) (k:Int)=some ((o[k]:Nat):Int):=by
   rw [idx_nat (by simpa using hlt)]; simp
  rw [hik];generalize hi:o[k]=i;have him:i∈o:=by rw [<- hi]; exact List.getElem_mem hlt
  obtain ⟨r,hr,hrne⟩:=(hOr.mem i).1 him;have hilt:=hOr.lt him;have hrm:r∈rows:=List.mem_of_getElem? hr;have hro:=hok.rows r hrm;have hrl:=hB.r r hrm;have hnot:i∉(o.take k).reverse:=by
   rw [List.mem_reverse];intro h;obtain ⟨j,hj,e⟩:=List.mem_iff_getElem.1 h;rw [List.length_take] at hj;rw [List.getElem_take] at e;have:=(List.getElem_inj (i:=j) (j:=k) (h₀:=by omega) (h₁:=hlt) hOr.nd).1 (by rw [e,hi]);omega
  have hlen:=hL.len;refine Tot.sm (.by' (seek rows hB i r hr hro c (by omega) (hL.rest i hilt hnot) pf68 fun b hb=>c68 c.Chk r b hro.at' (by omega) (by omega) (by omega)) fun B hBs=>?_);obtain ⟨b,rfl,hfit,hleast,hbc⟩:=hBs;have hidx:idx rows (i:Int)=some r:=by simp [idx,hr]
  rw [hidx];refine Tot.sm (.by' (putl r hro hrl i b (by omega) c hlen.1 (by omega) hbc _ (fun v ch k hk=>?_) (fun v ch k hk=>?_)) fun x hx=>?_)
  ·have hbi:idx (c.Base.set i (b:Int)) (i:Int)=some (b:Int):=by
    have:i<c.Base.length:=by omega
    simp [idx,this]
   have hd:decide ((k:Int)<(r.length:Int))=true:=decide_eq_true (by omega);simp only [hd,cond_true,idx_nat hk,hbi,Option.bind_some]
  ·have hd:decide ((k:Int)<(r.length:Int))=false:=decide_eq_false hk;simp only [hd,cond_false]
  ·obtain ⟨hP,hl⟩:=hx;refine .so ⟨⟨k+1,by omega,rfl,?_,?_⟩,?_,?_⟩
   ·show x.2.length<=1000 * (k+1); omega
   ·rw [List.take_add_one,List.getElem?_eq_getElem hlt,hi];show Lst rows ((o.take k)++[i]).reverse _;rw [List.reverse_append];exact .cons hr hnot hL ⟨hfit,hleast,rfl,hP⟩
   ·show (k:Int)<((k+1:Nat):Int); omega
   ·show ((k+1:Nat):Int)<=_; omega
 ·rw [List.length_map] at hge;have:k=o.length:=by omega
  subst this;rw [List.take_length] at hL;exact hL
def rowW (w i:Nat):Rw:=(List.range w).map fun k:Nat=>⟨(k:Int),-(i:Int)⟩
theorem mem_rowW {w i:Nat}{p:Pair}:p∈rowW w i↔∃ k:Nat,k<w/\p=⟨(k:Int),-(i:Int)⟩:=by
 unfold rowW;rw [List.mem_map];constructor
 ·rintro ⟨k,hk,rfl⟩; exact ⟨k,List.mem_range.1 hk,rfl⟩
 ·rintro ⟨k,hk,rfl⟩; exact ⟨k,List.mem_range.2 hk,rfl⟩
theorem rowW_len (w i:Nat):(rowW w i).length=w:=by simp [rowW]
theorem rowW_ok {w:Nat}(hw:w<=1000) (i:Nat):RowOk (rowW w i):=by
 refine ⟨fun p hp=>?_,?_⟩
 ·obtain ⟨k,hk,rfl⟩:=mem_rowW.1 hp;exact ⟨by show (0:Int)<=k; omega,by show (k:Int)<=999; omega⟩
 ·unfold rowW;rw [List.map_map];exact List.pairwise_map.2 ((List.nodup_range (n:=w)).imp fun {a b} h e=>h (by simp at e; omega))
structure Q (w k:Nat) (c:Comb):Prop where
 n:c.Chk.length=k * w
 z:∀ j,j<k * w->c.Chk.getD j 0≠0
 b:∀ i,i<k->c.Base[i]?=some ((i * w:Nat):Int)
theorem q_of {rows:List Rw}{w:Nat}(hw:0<w):∀ (k:Nat) (c:Comb),(∀ i,i<k->rows[i]?=some (rowW w i))->Lst rows (List.range k).reverse c->Q w k c
 | 0,c,_,h=>by
  have h:Lst rows [] c:=h;cases h with
  | nil=>exact ⟨by simp,fun j hj=>by omega,fun i hi=>by omega⟩
 | k+1,c,hr,h=>by
  rw [List.range_succ,List.reverse_append] at h;have h:Lst rows (k::(List.range k).reverse) c:=h;cases h with
  | @cons _ b _ c0 _ r hrk hi h hs =>
   have hq:=q_of hw k c0 (fun i hi=>hr i (by omega)) h;have hlen:=h.len;have e:=hr k (by omega);rw [hrk] at e;cases e;have hkl:k<rows.length:=(List.getElem?_eq_some_iff.1 hrk).1;have hb:b=k * w:=by
    have h1:¬ b<k * w:=fun hlt=>by
     have:=hs.fit ⟨((0:Nat):Int),-(k:Int)⟩ (mem_rowW.2 ⟨0,hw,rfl⟩);exact hq.z b hlt this
    have h2:¬ k * w<b:=fun hlt=>hs.least _ hlt (Fit.far (by rw [hq.n]; exact Nat.le_refl _));omega
   subst hb;have hmul:(k+1) * w=k * w+w:=Nat.succ_mul k w;have hp:=hs.put;have hin:=hp.in' ⟨((w - 1:Nat):Int),-(k:Int)⟩ (mem_rowW.2 ⟨w - 1,by omega,rfl⟩);have hin:k * w+(w - 1)<c.Chk.length:=hin;have hn:c.Chk.length=(k+1) * w:=by
    rcases hp.hi with e | ⟨p,hpm,e⟩
    ·rw [hq.n] at e; omega
    ·obtain ⟨j,hj,rfl⟩:=mem_rowW.1 hpm;have e:c.Chk.length=k * w+j+1:=e;omega
   refine ⟨hn,fun j hj=>?_,fun i hi=>?_⟩
   ·by_cases hjk:j<k * w
    ·rw [hp.chn j fun p hpm=>?_]
     ·exact hq.z j hjk
     ·obtain ⟨m,hm,rfl⟩:=mem_rowW.1 hpm;show k * w+m≠j;omega
    ·have:=hp.chk ⟨((j - k * w:Nat):Int),-(k:Int)⟩ (mem_rowW.2 ⟨j - k * w,by omega,rfl⟩);have:c.Chk.getD (k * w+(j - k * w)) 0=(k:Int)+1:=this;rw [show k * w+(j - k * w)=j by omega] at this;rw [this]; omega
   ·rw [hs.base,List.getElem?_set];by_cases e:k=i
    ·subst e;rw [if_pos rfl,if_pos (by rw [hlen.2]; exact hkl)]
    ·rw [if_neg e]; exact hq.b i (by omega)
theorem lenI_at {rows:List Rw}{i:Nat}{r:Rw}(h:rows[i]?=some r):lenI rows (i:Int)=r.length:=by
 unfold lenI idx;rw [if_pos (by omega),Int.toNat_natCast,h]; rfl
theorem ordr_range {rows:List Rw}{w k:Nat}(hw:0<w) (h1:∀ i,i<k->rows[i]?=some (rowW w i)) (h2:∀ i,k<=i->∀ r,rows[i]?=some r->r=[]):Ordr rows (List.range k):=by
 refine ⟨fun i=>?_,List.nodup_range,?_⟩
 ·rw [List.mem_range];constructor
  ·intro hi;exact ⟨_,h1 i hi,fun e=>by have:=rowW_len w i; rw [e] at this; simp at this; omega⟩
  ·rintro ⟨r,hr,hne⟩;by_cases hi:i<k
   ·exact hi
   ·exact absurd (h2 i (by omega) r hr) hne
 ·refine (List.pairwise_lt_range (n:=k)).imp_of_mem fun {a b} ha hb hlt=>?_;rw [List.mem_range] at ha hb;rw [ltK_not,lenI_at (h1 a ha),lenI_at (h1 b hb),rowW_len,rowW_len];omega
theorem ordr_one {rows:List Rw}{w k m:Nat}{p:Pair}(hw:0<w) (hkm:k<=m) (h1:∀ i,i<k->rows[i]?=some (rowW w i)) (hm:rows[m]?=some [p]) (h2:∀ i,k<=i->i≠m->∀ r,rows[i]?=some r->r=[]):Ordr rows (List.range k++[m]):=by
 refine ⟨fun i=>?_,?_,?_⟩
 ·rw [List.mem_append,List.mem_range,List.mem_singleton];constructor
  ·rintro (hi | rfl)
   ·exact ⟨_,h1 i hi,fun e=>by have:=rowW_len w i; rw [e] at this; simp at this; omega⟩
   ·exact ⟨_,hm,by simp⟩
  ·rintro ⟨r,hr,hne⟩;by_cases hi:i<k
   ·exact .inl hi
   ·by_cases e:i=m
    ·exact .inr e
    ·exact absurd (h2 i (by omega) e r hr) hne
 ·rw [List.nodup_append];refine ⟨List.nodup_range,by simp,fun a ha b hb=>?_⟩;rw [List.mem_range] at ha;rw [List.mem_singleton] at hb;omega
 ·rw [List.pairwise_append];refine ⟨(List.pairwise_lt_range (n:=k)).imp_of_mem fun {a b} ha hb hlt=>?_,by simp,fun a ha b hb=>?_⟩
  ·rw [List.mem_range] at ha hb;rw [ltK_not,lenI_at (h1 a ha),lenI_at (h1 b hb),rowW_len,rowW_len];omega
  ·rw [List.mem_range] at ha;rw [List.mem_singleton.1 hb,ltK_not,lenI_at (h1 a ha),lenI_at hm,rowW_len];simp only [List.length_singleton];omega
end Go.Proofs
namespace Go.Own
open Go
variable {α β S R:Type}
def Par (x:Option α) (Φ:α->Prop):Prop:=∀ a,x=some a->Φ a
set_option linter.unusedVariables false
namespace Par
variable {Φ Ψ:α->Prop}
theorem so {a:α}(h:Φ a):Par (some a) Φ:=fun b e=>by cases e; exact h
theorem no:Par (none:Option α) Φ:=fun b e=>by cases e
theorem use {x:Option α}(h:Par x Ψ) (hi:∀ a,Ψ a->Φ a):Par x Φ:=fun a e=>hi a (h a e)
theorem by' {x:Option β}{f:β->Option α}{Ξ:β->Prop}(h:Par x Ξ) (hk:∀ a,Ξ a->Par (f a) Φ):Par (x.bind f) Φ:=fun a e=>by
 cases x with
 | none=>cases e
 | some b=>exact hk b (h b rfl) a e
theorem go {x:Option β}{f:β->Option α}(hk:∀ a,x=some a->Par (f a) Φ):Par (x.bind f) Φ:=fun a e=>by
 cases x with
 | none=>cases e
 | some b=>exact hk b rfl a e
theorem cd {c:Bool}{a b:Option α}(ht:c=true->Par a Φ) (hf:c=false->Par b Φ):Par (cond c a b) Φ:=by
 cases c
 ·exact hf rfl
 ·exact ht rfl
theorem cp {p:Prop} [Decidable p] {a b:Option α}(ht:p->Par a Φ) (hf:¬ p->Par b Φ):Par (cond (decide p) a b) Φ :=
 cd (fun h=>ht (of_decide_eq_true h)) (fun h=>hf (of_decide_eq_false h))
theorem cn {p:Prop} [Decidable p] {a b:Option α}(ht:¬ p->Par a Φ) (hf:p->Par b Φ):Par (cond (!decide p) a b) Φ :=
 cd (fun h=>ht (of_decide_eq_false (by simpa using h))) (fun h=>hf (of_decide_eq_true (by simpa using h)))
theorem ap {l m:List β}{f:List β->Option α}(hk:l.length+m.length<=lim->Par (f (l++m)) Φ):Par ((appO l m).bind f) Φ:=by
 unfold appO;split
 ·rename_i h; exact hk h
 ·exact no
theorem loop {f:S->Option (S ⊕ R)}{s0:S}{Ψ:R->Prop}(Inv:S->Prop) (h0:Inv s0) (hs:∀ s,Inv s->Par (f s) (LR Inv Ψ)):Par (loopM f s0) Ψ:=by
 have key:∀ n s,Inv s->Par (iter f n s) Ψ:=by
  intro n
  induction n with
  | zero=>intro s _ a e; cases e
  | succ n ih =>
   intro s hI a e;simp only [iter] at e;cases hx:f s with
   | none=>rw [hx] at e; cases e
   | some x =>
    have hP:=hs s hI x hx;rw [hx] at e;cases x with
    | inl s'=>exact ih s' hP a e
    | inr r=>cases e; exact hP
 exact key fuel s0 h0
theorem of {x:Option α}(h:Tot x Φ):Par x Φ:=fun a e=>h.eq e
theorem scan {f:Int->Option (Int ⊕ (Unit ⊕ R))}(l:List β) (hl:l.length<=100000000000000000) (P:β->Prop) (Q:R->Prop)
  (hs:∀ (s:Int) (y:β),0<=s->s<l.length->idx l s=some y->y∈l->Par (f s) (LR (fun s'=>s'=s+1/\P y) (LR (fun _=>False) Q)))
  (he:∀ s:Int,¬ s<l.length->f s=some (.inr (.inl ()))):Par (loopM f 0) (LR (fun _=>∀ y∈l,P y) Q):=by
 refine loop (fun s=>0<=s/\s<=l.length/\∀ (j:Nat) (y:β),(j:Int)<s->l[j]?=some y->P y) ⟨by omega,by omega,fun j y h=>by omega⟩ fun s hI=>?_;obtain ⟨h0,h1,h2⟩:=hI;by_cases hlt:s<l.length
 ·have hlt':s.toNat<l.length:=by omega
  have hi:idx l s=some l[s.toNat]:=by simp [idx,h0,hlt']
  refine (hs s _ h0 hlt hi (List.getElem_mem hlt')).use fun x hx=>?_;rcases x with s' | ⟨⟨⟩⟩ | r
  ·obtain ⟨rfl,hP⟩:=hx;refine ⟨by omega,by omega,fun j y hj hy=>?_⟩;by_cases hjs:(j:Int)<s
   ·exact h2 j y hjs hy
   ·have:j=s.toNat:=by omega
    subst this;rw [List.getElem?_eq_getElem hlt'] at hy;cases hy; exact hP
  ·exact hx.elim
  ·exact hx
 ·rw [he s hlt];refine so fun y hy=>?_;obtain ⟨j,hj,rfl⟩:=List.mem_iff_getElem.1 hy;exact h2 j _ (by omega) (List.getElem?_eq_getElem hj)
end Par
end Go.Own
namespace Go.Own
open Go
variable {α β S R:Type}
namespace Tot
theorem upto {f:S->Option (S ⊕ R)}{s0:S}{Ψ:R->Prop}(i:S->Int) (n:Nat) (Inv:Nat->S->Prop) (hi:i s0=0) (hn:n<=100000000000000000) (h0:Inv 0 s0)
  (hs:∀ (k:Nat) (s:S),k<=n->i s=(k:Int)->Inv k s->Tot (f s) (LR (fun s'=>k<n/\i s'=((k+1:Nat):Int)/\Inv (k+1) s') Ψ)):Tot (loopM f s0) Ψ:=by
 refine count i n (fun s=>∃ k:Nat,k<=n/\i s=(k:Int)/\Inv k s) ⟨0,Nat.zero_le _,hi,h0⟩ (by rw [hi]; omega) fun s ⟨k,hk,he,hI⟩=>(hs k s hk he hI).use fun x hx=>?_;rcases x with s' | r
 ·obtain ⟨h1,h2,h3⟩:=hx;exact ⟨⟨k+1,by omega,h2,h3⟩,by omega,by omega⟩
 ·exact hx
end Tot
namespace Par
theorem upto {f:S->Option (S ⊕ R)}{s0:S}{Ψ:R->Prop}(i:S->Int) (n:Nat) (Inv:Nat->S->Prop) (hi:i s0=0) (h0:Inv 0 s0)
  (hs:∀ (k:Nat) (s:S),k<=n->i s=(k:Int)->Inv k s->Par (f s) (LR (fun s'=>k<n/\i s'=((k+1:Nat):Int)/\Inv (k+1) s') Ψ)):Par (loopM f s0) Ψ:=by
 refine loop (fun s=>∃ k:Nat,k<=n/\i s=(k:Int)/\Inv k s) ⟨0,Nat.zero_le _,hi,h0⟩ fun s ⟨k,hk,he,hI⟩=>(hs k s hk he hI).use fun x hx=>?_;rcases x with s' | r
 ·obtain ⟨h1,h2,h3⟩:=hx;exact ⟨k+1,by omega,h2,h3⟩
 ·exact hx
end Par
theorem w64c (k:Nat) (h:k<=1000000000000000000):w64 ((k:Int)+1)=((k+1:Nat):Int):=by rw [w64_eq]; omega
end Go.Own
namespace Go.Proofs
open Go Go.Own Go.Sort
set_option maxRecDepth 100000
set_option linter.unusedVariables false
theorem c30 (a n:Int) (h:0<n) (hn:n<=9223372036854775807):Tot (pf30 a n) fun r=>0<=r/\r<n:=by
 unfold pf30;have h1:-n<a.tmod n:=by
  by_cases ha:0<=a
  ·have:=Int.tmod_nonneg n ha; omega
  ·have h2:(-a).tmod n<n:=Int.tmod_lt_of_pos _ h;rw [Int.neg_tmod] at h2;omega
 have h2:a.tmod n<n:=Int.tmod_lt_of_pos a h;refine .by' (Ξ:=fun x=>x=a.tmod n) (Tot.rem (by omega) rfl) fun x hx=>?_;subst hx;refine Tot.by' (Ξ:=fun r=>0<=r/\r<n) (Tot.cp (fun h3=>.so ?_) (fun h3=>.so (by omega))) fun r hr=>.so hr;rw [w64_eq]; omega
theorem rowW_succ (j i:Nat):rowW (j+1) i=rowW j i++[⟨(j:Int),-(i:Int)⟩]:=by
 unfold rowW;rw [List.range_succ,List.map_append]; rfl
def rowsN (n w:Nat):List Rw:=(List.range n).map (rowW w)
theorem rowsN_len (n w:Nat):(rowsN n w).length=n:=by simp [rowsN]
theorem rowsN_get {n w i:Nat}(h:i<n):(rowsN n w)[i]?=some (rowW w i):=by
 unfold rowsN;rw [List.getElem?_map,List.getElem?_range h]; rfl
theorem mem_rowsN {n w:Nat}{r:Rw}(h:r∈rowsN n w):∃ i,r=rowW w i:=by
 unfold rowsN at h;obtain ⟨i,_,rfl⟩:=List.mem_map.1 h;exact ⟨i,rfl⟩
def rowsE (n w k:Nat):List Rw:=rowsN n w++List.replicate k []
theorem rowsE_len (n w k:Nat):(rowsE n w k).length=n+k:=by simp [rowsE,rowsN_len]
theorem rowsE_get {n w k i:Nat}(h:i<n):(rowsE n w k)[i]?=some (rowW w i):=by
 unfold rowsE;rw [List.getElem?_append_left (by rw [rowsN_len]; exact h)];exact rowsN_get h
theorem rowsE_out {n w k i:Nat}(h:n<=i) {r:Rw}(hr:(rowsE n w k)[i]?=some r):r=[]:=by
 unfold rowsE at hr;rw [List.getElem?_append_right (by rw [rowsN_len]; exact h)] at hr;exact List.eq_of_mem_replicate (List.mem_of_getElem? hr)
theorem rowsE_b {n w k:Nat}(hw:w<=1000) {r:Rw}(h:r∈rowsE n w k):RowOk r/\r.length<=1000:=by
 rcases List.mem_append.1 h with h | h
 ·obtain ⟨i,rfl⟩:=mem_rowsN h;exact ⟨rowW_ok hw i,by rw [rowW_len]; exact hw⟩
 ·rw [List.eq_of_mem_replicate h];exact ⟨RowOk.nil,Nat.zero_le _⟩
theorem bad41 (rows:List Rw) (hB:RowsB rows) (h:¬ RowsOk rows):Tot ((pf41 rows).bind fun x=>(pf40 x (⟨([]:List Int),([]:List Int),([]:List Int)⟩:Comb)).bind fun y=>some y) fun r=>r=true:=by
 refine .by' (c41 rows hB) fun c hc=>?_;rw [hc.1 h];exact ⟨true,by kernel_rfl,rfl⟩
theorem t13 (a0 a1 a2:Int):pf13 a0 a1 a2=some true:=by
 suffices h:Tot (pf13 a0 a1 a2) fun r=>r=true by
  obtain ⟨r,hr,e⟩:=h; rw [hr,e]
 unfold pf13;rw [w37];refine Tot.sm (.by' (c30 a0 5 (by decide) (by decide)) fun x3 h3=>.by' (c30 a1 30 (by decide) (by decide)) fun x4 h4=>?_);obtain ⟨n,hn⟩:∃ n:Nat,w64 (1+x3)=(n:Int)/\1<=n/\n<=5:=⟨(1+x3).toNat,by rw [w64_eq]; omega,by omega,by omega⟩;obtain ⟨w,hw⟩:∃ w:Nat,w64 (1+x4)=(w:Int)/\1<=w/\w<=30:=⟨(1+x4).toNat,by rw [w64_eq]; omega,by omega,by omega⟩;rw [hn.1,hw.1];obtain ⟨_,hn1,hn5⟩:=hn;obtain ⟨_,hw1,hw30⟩:=hw;have hmul:n * w<=5 * 30:=Nat.mul_le_mul hn5 hw30;have hwm:w64 ((n:Int) * (w:Int))=((n * w:Nat):Int):=by rw [<- Int.natCast_mul,w64_eq]; omega
 refine .by' (Ξ:=fun r=>r=rowsN n w) ?_ fun x6 h6=>?_
 ·refine Tot.upto (fun s=>s.2) n (fun k s=>s.1=rowsN k w) rfl (by omega) rfl fun k s hk he hI=>?_;obtain ⟨L,i⟩:=s;simp only at he hI ⊢;subst he hI;rw [w64c k (by omega)];refine Tot.cp (fun hlt=>?_) (fun hge=>.so ?_)
  ·refine .by' (Ξ:=fun r=>r=rowW w k) ?_ fun r hr=>?_
   ·refine Tot.upto (fun s=>s.2) w (fun j s=>s.1=rowW j k) rfl (by omega) rfl fun j s hj he hI=>?_;obtain ⟨r,i⟩:=s;simp only at he hI ⊢;subst he hI;rw [w64c j (by omega)];refine Tot.cp (fun hltj=>?_) (fun hge=>.so ?_)
    ·refine .by' (Ξ:=fun _=>True) (Tot.ap (by rw [rowW_len]; simp [lim]; omega) trivial) fun _ _=>.so ⟨by omega,rfl,?_⟩;have:w64 (-(k:Int))=-(k:Int):=by rw [w64_eq]; omega
     show rowW j k++[_]=_;rw [this,rowW_succ]
    ·obtain rfl:j=w:=by omega
     rfl
   ·subst hr;refine .by' (Ξ:=fun _=>True) (Tot.ap (by rw [rowsN_len]; simp [lim]; omega) trivial) fun _ _=>.so ⟨by omega,rfl,?_⟩;show rowsN k w++[_]=_;unfold rowsN;rw [List.range_succ,List.map_append]; rfl
  ·obtain rfl:k=n:=by omega
   rfl
 subst h6;have hE0:rowsN n w=rowsE n w 0:=by simp [rowsE]
 have hokE:∀ k,n+k<=400->RowsOk (rowsE n w k):=fun k hk=>⟨by rw [rowsE_len]; exact hk,fun r hr=>(rowsE_b (by omega) hr).1⟩;have hBE:∀ k,n+k<=400->RowsB (rowsE n w k):=fun k hk=>⟨by rw [rowsE_len]; omega,fun r hr=>(rowsE_b (by omega) hr).2⟩;rw [hE0];refine .by' (c41 _ (hBE 0 (by omega))) fun c hc=>?_;obtain ⟨_,o,hO,hL⟩:=hc.2 (hokE 0 (by omega));obtain rfl:=hO.uniq (ordr_range hw1 (fun i hi=>rowsE_get hi) fun i hi r hr=>rowsE_out hi hr);have hQ:=q_of hw1 n c (fun i hi=>rowsE_get hi) hL;have hbl:=hL.len.2;rw [rowsE_len] at hbl;rw [hwm];refine .by' (Ξ:=fun c=>c=false) (Tot.cn (fun h=>absurd (by omega) h) (fun _=>.so (by rw [hQ.n]; simp))) fun cc hcc=>?_;subst hcc;refine Tot.sm (.by' (Ξ:=LR (fun _=>True) (fun _:Bool=>False)) ?_ fun x hx=>?_)
 ·refine Tot.upto (fun s=>s) n (fun _ _=>True) rfl (by omega) trivial fun k s hk he _=>?_;subst he;rw [w64c k (by omega)];refine Tot.cp (fun hlt=>?_) (fun _=>.so trivial);have hlt:k<n:=by omega
  have hb:=hQ.b k hlt;have:idx c.Base (k:Int)=some ((k * w:Nat):Int):=by simp only [idx,if_pos (show (0:Int)<=(k:Int) by omega),Int.toNat_natCast]; exact hb
  rw [this];have hkw:k * w<=5 * 30:=Nat.mul_le_mul (by omega) hw30;have hw2:w64 ((k:Int) * (w:Int))=((k * w:Nat):Int):=by rw [<- Int.natCast_mul,w64_eq]; omega
  rw [hw2];refine Tot.sm ?_;refine Tot.cn (fun h=>absurd rfl h) (fun _=>.so ⟨hlt,rfl,trivial⟩)
 rcases x with x | x
 ·refine .by' (Ξ:=fun r=>r=rowsE n w (399 - n)) ?_ fun x27 h27=>?_
  ·refine Tot.loop (fun s=>∃ k,n+k<=399/\s=rowsE n w k) (fun s=>399 - s.length) ⟨0,by omega,rfl⟩ (by show 399 - _<1000000000000000000; omega) fun s hs=>?_;obtain ⟨k,hk,rfl⟩:=hs;have hl:=rowsE_len n w k;refine Tot.cp (fun hlt=>?_) (fun hge=>.so ?_)
   ·refine .by' (Ξ:=fun _=>True) (Tot.ap (by rw [hl]; simp [lim]; omega) trivial) fun _ _=>.so ⟨⟨k+1,by omega,?_⟩,?_⟩
    ·unfold rowsE;rw [List.append_assoc,List.replicate_succ']
    ·show 399 - (rowsE n w k++[_]).length<399 - (rowsE n w k).length;rw [List.length_append,hl,List.length_singleton]; omega
   ·have:k=399 - n:=by omega
    rw [this]; rfl
  subst h27;have hl:=rowsE_len n w (399 - n);have hap:∀ {r:Rw},appO (rowsE n w (399 - n)) [r]=some (rowsE n w (399 - n)++[r]):=fun {r}=>by
   unfold appO; rw [if_pos (by rw [hl]; simp [lim]; omega)]
  have hB2:∀ {r:Rw},r.length<=1000->RowsB (rowsE n w (399 - n)++[r]):=fun {r} hr=>⟨by rw [List.length_append,hl,List.length_singleton]; omega,fun q hq=>by
   rcases List.mem_append.1 hq with hq | hq
   ·exact (rowsE_b (by omega) hq).2
   ·rw [List.mem_singleton.1 hq]; exact hr⟩
  have hbad:∀ {r:Rw},¬ RowOk r->¬ RowsOk (rowsE n w (399 - n)++[r]):=fun {r} hr=>rows_bad (by simp) hr;refine .by' (c30 a2 5 (by decide) (by decide)) fun x31 h31=>?_;refine Tot.cp (fun _=>?_) (fun _=>Tot.cp (fun _=>?_) (fun _=>Tot.cp (fun _=>?_) (fun _=>Tot.cp (fun _=>?_) (fun _=>?_))))
  ·have i0:idx [(⟨999,1⟩:Pair)] 0=some ⟨999,1⟩:=rfl;rw [i0];refine Tot.sm ?_;rw [hap];exact Tot.sm (bad41 _ (hB2 (by show 1<=1000; decide)) (hbad fun h=>absurd (h.at' ⟨1000,1⟩ (by show (⟨1000,1⟩:Pair)∈[_]; exact List.mem_singleton.2 rfl)).2 (by decide)))
  ·have i0:idx [(⟨999,1⟩:Pair)] 0=some ⟨999,1⟩:=rfl;rw [i0];refine Tot.sm ?_;rw [hap];exact Tot.sm (bad41 _ (hB2 (by show 1<=1000; decide)) (hbad fun h=>absurd (h.at' ⟨-1,1⟩ (by show (⟨-1,1⟩:Pair)∈[_]; exact List.mem_singleton.2 rfl)).1 (by decide)))
  ·have a0:appO [(⟨999,1⟩:Pair)] [(⟨999,2⟩:Pair)]=some [⟨999,1⟩,⟨999,2⟩]:=by kernel_rfl
   rw [a0];refine Tot.sm ?_;have:[(⟨999,1⟩:Pair)]++[(⟨999,2⟩:Pair)]=[⟨999,1⟩,⟨999,2⟩]:=rfl;rw [this,hap];exact Tot.sm (bad41 _ (hB2 (by show 2<=1000; decide)) (hbad fun h=>absurd h.nd (by decide)))
  ·rw [hap];refine Tot.sm ?_;have hap2:appO (rowsE n w (399 - n)++[([]:List Pair)]) [[(⟨999,1⟩:Pair)]]=some ((rowsE n w (399 - n)++[([]:List Pair)])++[[(⟨999,1⟩:Pair)]]):=by
    unfold appO; rw [if_pos (by rw [List.length_append,hl]; simp [lim]; omega)]
   rw [hap2];refine Tot.sm (bad41 _ ⟨by rw [List.length_append,List.length_append,hl]; simp; omega,fun q hq=>?_⟩ fun h=>absurd h.n (by rw [List.length_append,List.length_append,hl]; simp; omega));rcases List.mem_append.1 hq with hq | hq
   ·exact (hB2 (r:=[]) (Nat.zero_le _)).r q hq
   ·rw [List.mem_singleton.1 hq]; show 1<=1000; decide
  ·rw [hap];have hone:RowOk [(⟨999,1⟩:Pair)]:=⟨fun p hp=>by rw [List.mem_singleton.1 hp]; exact ⟨by decide,by decide⟩,by simp⟩;have hok:RowsOk (rowsE n w (399 - n)++[[(⟨999,1⟩:Pair)]]):=⟨by rw [List.length_append,hl,List.length_singleton]; omega,fun q hq=>by
    rcases List.mem_append.1 hq with hq | hq
    ·exact (rowsE_b (by omega) hq).1
    ·rw [List.mem_singleton.1 hq]; exact hone⟩
   refine Tot.sm (.by' (c41 _ (hB2 (by show 1<=1000; decide))) fun d hd=>?_);obtain ⟨_,o,hO,hL⟩:=hd.2 hok;have g1:∀ i,i<n->(rowsE n w (399 - n)++[[(⟨999,1⟩:Pair)]])[i]?=some (rowW w i):=fun i hi=>by
    rw [List.getElem?_append_left (by rw [hl]; omega)]; exact rowsE_get hi
   have g2:(rowsE n w (399 - n)++[[(⟨999,1⟩:Pair)]])[399]?=some [⟨999,1⟩]:=by
    rw [List.getElem?_append_right (by rw [hl]; omega),hl,show 399 - (n+(399 - n))=0 by omega]; rfl
   have g3:∀ i,n<=i->i≠399->∀ r,(rowsE n w (399 - n)++[[(⟨999,1⟩:Pair)]])[i]?=some r->r=[]:=fun i hi hne r hr=>by
    by_cases hlt:i<n+(399 - n)
    ·rw [List.getElem?_append_left (by rw [hl]; exact hlt)] at hr;exact rowsE_out hi hr
    ·rw [List.getElem?_eq_none (by rw [List.length_append,hl,List.length_singleton]; omega)] at hr;cases hr
   obtain rfl:=hO.uniq (ordr_one (m:=399) hw1 (by omega) g1 g2 g3)
   ·rw [List.reverse_append] at hL;have hL:Lst (rowsE n w (399 - n)++[[(⟨999,1⟩:Pair)]]) (399::(List.range n).reverse) d:=hL;have hbl:=hL.len.2;rw [List.length_append,hl,List.length_singleton] at hbl;cases hL with
    | @cons _ b _ c0 _ r hrk hi h hs =>
     rw [g2] at hrk;cases hrk;have hq:=q_of hw1 n c0 g1 h;have h0l:=h.len.2;rw [List.length_append,hl,List.length_singleton] at h0l;have hb:b=0:=by
      refine Classical.byContradiction fun hb=>hs.least 0 (by omega) fun p hp=>?_;rw [List.mem_singleton.1 hp];show c0.Chk.getD (0+999) 0=0;rw [List.getD_eq_getElem?_getD,List.getElem?_eq_none (by rw [hq.n]; omega)]; rfl
     subst hb;have hin:=hs.put.in' ⟨999,1⟩ (List.mem_singleton.2 rfl);have hin:0+999<d.Chk.length:=hin;have hcl:d.Chk.length=1000:=by
      rcases hs.put.hi with e | ⟨p,hp,e⟩
      ·rw [hq.n] at e; omega
      ·rw [List.mem_singleton.1 hp] at e;have e:d.Chk.length=0+999+1:=e;omega
     have hb9:idx d.Base 399=some 0:=by
      rw [hs.base];have:(c0.Base.set 399 ((0:Nat):Int))[399]?=some 0:=by
       rw [List.getElem?_set,if_pos rfl,if_pos (by omega)]; rfl
      exact this
     refine .by' (Ξ:=fun c=>c=true) ?_ fun c hc=>.so hc;refine Tot.cp (fun _=>?_) (fun h=>absurd (by omega) h);rw [hb9,hcl];refine Tot.sm (.so (decide_eq_true ?_));have:w64 (1000+0)=1000:=by decide
     rw [this];show ((1000:Nat):Int)=max (1000:Int) ((n * w:Nat):Int);omega
 ·exact hx.elim
open Go Go.Own
theorem sl33:slT Try.prog 33 3 1=true:=by kernel_rfl
theorem ct3:cellT Try.prog 3=true:=by kernel_rfl
theorem mixo:Try.prog.follows .mixedOrders=true:=by kernel_rfl
theorem fd83_0:fldT Try.prog 83 0 0 33=true:=by kernel_rfl
theorem ct33:cellT Try.prog 33=true:=by kernel_rfl
theorem call48:callT Try.prog 48=true:=by kernel_rfl
theorem fd83_1:fldT Try.prog 83 1 1 33=true:=by kernel_rfl
theorem fd83_2:fldT Try.prog 83 2 2 33=true:=by kernel_rfl
theorem call91:callT Try.prog 91=true:=by kernel_rfl
theorem ct78:cellT Try.prog 78=true:=by kernel_rfl
theorem sl78:slT Try.prog 78 53 1=true:=by kernel_rfl
theorem ct53:cellT Try.prog 53=true:=by kernel_rfl
theorem sl53:slT Try.prog 53 61 2=true:=by kernel_rfl
theorem call62:callT Try.prog 62=true:=by kernel_rfl
theorem zt3:zeroT Try.prog 3 1=true:=by kernel_rfl
theorem call67:callT Try.prog 67=true:=by kernel_rfl
theorem ze146:(Try.prog.info? 146).bind (·.zero)=some (.agg (List.replicate 1000 (Value.bool false)).toArray):=by kernel_rfl
theorem at61:aggT Try.prog 61 2=true:=by kernel_rfl
theorem ze61:(Try.prog.info? 61).bind (·.zero)=some (.agg #[.int .i64 0,.int .i64 0]):=by kernel_rfl
theorem sz61:sizeT Try.prog 61 2=true:=by kernel_rfl
theorem fd61_0:fldT Try.prog 61 0 0 3=true:=by kernel_rfl
theorem ar146:arrT Try.prog 146 4 1000 1=true:=by kernel_rfl
theorem ct4:cellT Try.prog 4=true:=by kernel_rfl
theorem sz4:sizeT Try.prog 4 1=true:=by kernel_rfl
theorem call93:callT Try.prog 93=true:=by kernel_rfl
theorem call126:callT Try.prog 126=true:=by kernel_rfl
theorem call92:callT Try.prog 92=true:=by kernel_rfl
theorem ze83:(Try.prog.info? 83).bind (·.zero)=some (.agg #[.slice none 0 0,.slice none 0 0,.slice none 0 0]):=by kernel_rfl
theorem call65:callT Try.prog 65=true:=by kernel_rfl
theorem sc83:structT Try.prog 83 [(0,1),(1,1),(2,1)]=true:=by kernel_rfl
theorem sz83:sizeT Try.prog 83 3=true:=by kernel_rfl
theorem at83:aggT Try.prog 83 3=true:=by kernel_rfl
theorem ze3:(Try.prog.info? 3).bind (·.zero)=some (.int .i64 0):=by kernel_rfl
theorem bb3:(Try.prog.info? 3).map (·.bytes)=some 8:=by kernel_rfl
theorem ap33:appT Try.prog 33 3 1 8=true:=by kernel_rfl
theorem call50:callT Try.prog 50=true:=by kernel_rfl
theorem call66:callT Try.prog 66=true:=by kernel_rfl
theorem call68:callT Try.prog 68=true:=by kernel_rfl
theorem sz3:sizeT Try.prog 3 1=true:=by kernel_rfl
theorem sz33:sizeT Try.prog 33 1=true:=by kernel_rfl
theorem fd61_1:fldT Try.prog 61 1 1 3=true:=by kernel_rfl
theorem call30:callT Try.prog 30=true:=by kernel_rfl
theorem sc61:structT Try.prog 61 [(0,1),(1,1)]=true:=by kernel_rfl
theorem zt61:zeroT Try.prog 61 2=true:=by kernel_rfl
theorem ap53:appT Try.prog 53 61 2 16=true:=by kernel_rfl
theorem zt53:zeroT Try.prog 53 1=true:=by kernel_rfl
theorem ap78:appT Try.prog 78 53 1 24=true:=by kernel_rfl
theorem call41:callT Try.prog 41=true:=by kernel_rfl
theorem call44:callT Try.prog 44=true:=by kernel_rfl
theorem call40:callT Try.prog 40=true:=by kernel_rfl
theorem call37:callT Try.prog 37=true:=by kernel_rfl
theorem con48 (a0:(List Int)) (a1:(List Int)) (r:Bool) (h:pf48 a0 a1=some r):Con Try.prog 48 [iR eI a0,iR eI a1] [none,none] (BB r):=by
 unfold pf48 at h;refine Con.go (N:=⟨26,[]⟩) Try.func48 q q q q (W.fin ?_);refine W.st [(0,iR eI a0),(1,iR eI a1)] ?_;refine W.sq'<|W.rx [(0,_),(1,_)] (Vk q<|Fi (tn2 q q)) ?_;refine Px.sq<|W.sq' ?_;refine W.sq'<|W.rx [(0,_),(1,_),(10,_)] (Rv (O.mv (.imm q))<|Rv (O.lenI (.imm q) sl33)<|Rv (O.mv (.imm q))<|Rv (O.lenI (.imm q) sl33)<|Rv (O.neq (.lit q) (.lit q))<|Fi (tn3 q q q)) ?_;refine Px.sq<|W.cnd q (fun hb1=>?_) (fun hb1=>?_)
 ·replace h:=cndT hb1 h;refine W.sq'<|W.rx [(4,_)] (Vk q<|Fi (.n q .nil)) ?_;refine Px.sq<|W.rt ?_;refine Px.sqR ?_;obtain rfl:=sm h;exact Px.fin (Fin.ro (.f q q .nil) q (ode (by kernel_rfl)) (.no (.no .nil)) q (.inr q))
 ·replace h:=cndF hb1 h;refine W.sk<|Px.sq ?_;refine W.sq'<|W.sq' ?_;refine W.rx [(0,_),(1,_),(5,_)] (Vk q<|Fi (tn3 q q q)) ?_;refine Px.sq<|W.bk ?_;obtain ⟨x3,hl,h⟩:=bnd h;refine W.tr (G1:=[(0,_),(1,_),(5,_)]) (tn3 q q q) ?_;refine W.lp2 (s:=0) (fun (s2:Int)=>[(0,iR eI a0),(1,iR eI a1),(5,I64 s2)]) 0 (fun (x4:Unit)=>[]) (fun (x5:Bool)=>[(4,BB x5)]) hl (fun s2 o h=>?_) (fun x4 hx=>?_) (fun x5 hx=>?_)
  ·clear hl;refine W.sq'<|W.sq' ?_;refine W.rx [(0,_),(1,_),(5,_),(14,_)] (Vm q<|Rv (O.mv (.imm q))<|Rv (O.lenI (.imm q) sl33)<|Rv (O.lss (.lit q) (.lit q))<|Fi (tn4 q q q q)) ?_;refine Px.sq<|W.cnd q (fun hb6=>?_) (fun hb6=>?_)
   ·replace h:=cndT hb6 h;refine W.sk<|Px.sq ?_;refine W.sq'<|W.bk ?_;refine W.sq' ?_;obtain ⟨x7,hx7,h⟩:=bnd h;obtain ⟨x8,hx8,h⟩:=bnd h;refine W.rd [[],[],[0,1],[0,1,2],[],[],[4,5],[4,5,6],rn 0 8 []] [(0,_),(1,_),(5,_),(25,_)] mixo (by kernel_rfl) (Dv 0 (O.mv (.imm q))<|Dv 1 (O.mv (.lit q))<|Dv 2 (O.ixI (.imm q) (.lit q) sl33 hx7)<|Dv 3 (O.ldI (x:=I64 x7) (.iptr q) ct3 q)<|Dv 4 (O.mv (.imm q))<|Dv 5 (O.mv (.lit q))<|Dv 6 (O.ixI (.imm q) (.lit q) sl33 hx8)<|Dv 7 (O.ldI (x:=I64 x8) (.iptr q) ct3 q)<|Dv 8 (O.neq (.lit q) (.lit q))<|DL.fin q q q (tn4 q q q q)) ?_;refine Px.sq<|W.cnd q (fun hb9=>?_) (fun hb9=>?_)
    ·replace h:=cndT hb9 h;refine W.sq'<|W.rx [(4,_)] (Vk q<|Fi (.n q .nil)) ?_;refine Px.sq<|W.rt ?_;refine Px.bkR ?_;refine Px.sqR ?_;obtain rfl:=sm h;exact Px.r2 (.n q .nil)
    ·replace h:=cndF hb9 h;refine W.sk<|Px.bk ?_;refine Px.sq<|W.rx [(0,_),(1,_),(5,_)] (Vm q<|Rv (O.add (.lit q) (.k q))<|RunL.re (G1:=[(0,_),(1,_),(16,_)]) (tn3 q q q)<|Va q<|Fi (tn3 q q q)) ?_;obtain rfl:=sm h;exact Px.go (tn3 q q q)
   ·replace h:=cndF hb6 h;refine W.xi ?_;refine Px.sqE ?_;obtain rfl:=sm h;exact Px.x2 .nil
  ·subst hx;refine Px.bkH ?_;refine Px.sq<|W.sq' ?_;refine W.rx [(4,_)] (Vk q<|Fi (.n q .nil)) ?_;refine Px.sq<|W.rt ?_;obtain rfl:=sm h;exact Px.fin (Fin.ro (.f q q .nil) q (ode (by kernel_rfl)) (.no (.no .nil)) q (.inr q))
  ·subst hx;refine Px.bkR ?_;refine Px.sqR ?_;obtain rfl:=sm h;exact Px.fin (Fin.ro (.f q q .nil) q (ode (by kernel_rfl)) (.no (.no .nil)) q (.inr q))
theorem con40 (a0:Comb) (a1:Comb) (r:Bool) (h:pf40 a0 a1=some r):Con Try.prog 40 [.agg (eComb_0.cells a0),.agg (eComb_0.cells a1)] [none,none] (BB r):=by
 unfold pf40 at h;refine Con.go (N:=⟨24,[]⟩) Try.func40 q q q q (W.fin ?_);refine W.st [(0,.agg (eComb_0.cells a0)),(1,.agg (eComb_0.cells a1))] ?_;refine W.sq'<|W.rx [(2,_),(3,_)] (Rv (O.box (.aggF q q) q)<|Rv (O.box (.aggF q q) q)<|Vk q<|Fi (tn2 q q)) ?_;refine Px.sq<|W.sq' ?_;obtain ⟨c6,hj,h⟩:=bnd h;refine W.rx [(4,BB c6)] ?_ ?_
 ·refine Rv (O.fO q (.obj q) fd83_0 q)<|Rv (O.ldO (y:=iR eI a0.Base) q (.ptr q) ct33 q q)<|Rv (O.fO q (.obj q) fd83_0 q)<|Rv (O.ldO (y:=iR eI a1.Base) q (.ptr q) ct33 q q) ?_;obtain ⟨x1,hx1,hj⟩:=bnd hj;refine Rc (PC.go (.cc (.imm q) (.cc (.imm q) .nil)) (con48 a0.Base a1.Base _ hx1) call48 q)<|Rv (O.mv (.lit q)) ?_;rcases cnd hj with ⟨hb2,hj⟩ | ⟨hb2,hj⟩
  ·refine RunL.v (O.fO q (.obj q) fd83_1 q) q q (.yb q q hb2)<|RunL.v (O.ldO (y:=iR eI a0.Val) q (.ptr q) ct33 q q) q q (.yb q q hb2)<|RunL.v (O.fO q (.obj q) fd83_1 q) q q (.yb q q hb2)<|RunL.v (O.ldO (y:=iR eI a1.Val) q (.ptr q) ct33 q q) q q (.yb q q hb2) ?_;obtain ⟨x3,hx3,hj⟩:=bnd hj;refine RunL.c (PC.go (.cc (.imm q) (.cc (.imm q) .nil)) (con48 a0.Val a1.Val _ hx3) call48 q) q q (.yb q q hb2)<|Rv (O.pkT (.lit q) hb2 (.lit q))<|Rv (O.mv (.lit q)) ?_;rcases cnd hj with ⟨hb4,hj⟩ | ⟨hb4,hj⟩
   ·refine RunL.v (O.fO q (.obj q) fd83_2 q) q q (.yb q q hb4)<|RunL.v (O.ldO (y:=iR eI a0.Chk) q (.ptr q) ct33 q q) q q (.yb q q hb4)<|RunL.v (O.fO q (.obj q) fd83_2 q) q q (.yb q q hb4)<|RunL.v (O.ldO (y:=iR eI a1.Chk) q (.ptr q) ct33 q q) q q (.yb q q hb4) ?_;obtain ⟨x5,hx5,hj⟩:=bnd hj;obtain rfl:=sm hj;exact RunL.c (PC.go (.cc (.imm q) (.cc (.imm q) .nil)) (con48 a0.Chk a1.Chk _ hx5) call48 q) q q (.yb q q hb4)<|Rv (O.pkT (.lit q) hb4 (.lit q))<|Va q<|Fi (.n q .nil)
   ·obtain rfl:=sm hj;exact RunL.ps q q hb4 q q<|RunL.ps q q hb4 q q<|RunL.ps q q hb4 q q<|RunL.ps q q hb4 q q<|RunL.ps q q hb4 q q<|Rv (O.pkF (.lit q) hb4 (.k q))<|Va q<|Fi (.n q .nil)
  ·obtain rfl:=sm hj;exact RunL.ps q q hb2 q q<|RunL.ps q q hb2 q q<|RunL.ps q q hb2 q q<|RunL.ps q q hb2 q q<|RunL.ps q q hb2 q q<|Rv (O.pkF (.lit q) hb2 (.k q))<|Vm q<|RunL.ps q q q q q<|RunL.ps q q q q q<|RunL.ps q q q q q<|RunL.ps q q q q q<|RunL.ps q q q q q<|Rv (O.pkF (.lit q) q (.k q))<|Va q<|Fi (.n q .nil)
 refine Px.sq<|W.rt ?_;obtain rfl:=sm h;exact Px.fin (Fin.ro (.f q q .nil) q (ode (by kernel_rfl)) (.no (.no .nil)) q (.inr q))
theorem con91 (a0:Int) (r:Bool) (h:pf91 a0=some r):Con Try.prog 91 [I64 a0] [none] (BB r):=by
 unfold pf91 at h;refine Con.go (N:=⟨6,[]⟩) Try.func91 q q q q (W.fin ?_);refine W.st [(0,I64 a0)] ?_;refine W.sq'<|W.rx [(0,_)] (Vk q<|Fi (.n q .nil)) ?_;refine Px.sq<|W.sq' ?_;refine W.rx [(2,_)] (Vm q<|Vm q<|Rv (O.neq (.lit q) (.lit q))<|Va q<|Fi (.n q .nil)) ?_;refine Px.sq<|W.rt ?_;obtain rfl:=sm h;exact Px.fin (Fin.ro (.f q q .nil) q (ode (by kernel_rfl)) (.no .nil) q (.inr q))
theorem con62 (a0:Int) (a1:Int) (r:Int) (h:pf62 a0 a1=some r):Con Try.prog 62 [I64 a0,I64 a1] [none,none] (I64 r):=by
 unfold pf62 at h;refine Con.go (N:=⟨20,[]⟩) Try.func62 q q q q (W.fin ?_);refine W.st [(0,I64 a0),(1,I64 a1)] ?_;refine W.sq'<|W.rx [(0,_),(1,_)] (Vk q<|Fi (tn2 q q)) ?_;refine Px.sq<|W.sq' ?_;obtain ⟨x1,hx1,h⟩:=bnd h;refine W.rx [(0,_),(1,_),(5,_)] (Vm q<|Rc (PC.go (.cc (.lit q) .nil) (con91 a0 _ hx1) call91 q)<|Va q<|Fi (tn3 q q q)) ?_;refine Px.sq<|W.sq' ?_;obtain ⟨x2,hx2,h⟩:=bnd h;refine W.rx [(0,_),(1,_),(5,_),(6,_)] (Vm q<|Rc (PC.go (.cc (.lit q) .nil) (con91 a1 _ hx2) call91 q)<|Va q<|Fi (tn4 q q q q)) ?_;refine Px.sq<|W.sq' ?_;refine W.sq'<|W.rx [(0,_),(1,_),(6,_),(11,_)] (Vm q<|Fi (tn4 q q q q)) ?_;refine Px.sq<|W.cnd q (fun hb3=>?_) (fun hb3=>?_)
 ·replace h:=cndT hb3 h;refine W.sq'<|W.sq' ?_;refine W.rx [(12,_)] (Vm q<|Fi (.n q .nil)) ?_;refine Px.sq<|W.cnd q (fun hb4=>?_) (fun hb4=>?_)
  ·replace h:=cndT hb4 h;refine W.sq'<|W.rx [(4,_)] (Vk q<|Fi (.n q .nil)) ?_;refine Px.sq<|W.rt ?_;refine Px.sqR ?_;refine Px.sqR ?_;obtain rfl:=sm h;exact Px.fin (Fin.ro (.f q q .nil) q (ode (by kernel_rfl)) (.no (.no .nil)) q (.inr q))
  ·replace h:=cndF hb4 h;refine W.sk<|Px.sq ?_;refine W.sq'<|W.rx [(4,_)] (Vk q<|Fi (.n q .nil)) ?_;refine Px.sq<|W.rt ?_;refine Px.sqR ?_;obtain rfl:=sm h;exact Px.fin (Fin.ro (.f q q .nil) q (ode (by kernel_rfl)) (.no (.no .nil)) q (.inr q))
 ·replace h:=cndF hb3 h;refine W.sk<|Px.sq ?_;refine W.sq'<|W.sq' ?_;refine W.rx [(0,_),(1,_),(13,_)] (Vm q<|Fi (tn3 q q q)) ?_;refine Px.sq<|W.cnd q (fun hb5=>?_) (fun hb5=>?_)
  ·replace h:=cndT hb5 h;refine W.sq'<|W.rx [(4,_)] (Vk q<|Fi (.n q .nil)) ?_;refine Px.sq<|W.rt ?_;refine Px.sqR ?_;obtain rfl:=sm h;exact Px.fin (Fin.ro (.f q q .nil) q (ode (by kernel_rfl)) (.no (.no .nil)) q (.inr q))
  ·replace h:=cndF hb5 h;refine W.sk<|Px.sq ?_;refine W.sq'<|W.sq' ?_;refine W.rx [(0,_),(1,_),(16,_)] (Vm q<|Vm q<|Rv (O.lss (.lit q) (.lit q))<|Fi (tn3 q q q)) ?_;refine Px.sq<|W.cnd q (fun hb6=>?_) (fun hb6=>?_)
   ·replace h:=cndT hb6 h;refine W.sq'<|W.rx [(4,_)] (Vk q<|Fi (.n q .nil)) ?_;refine Px.sq<|W.rt ?_;refine Px.sqR ?_;obtain rfl:=sm h;exact Px.fin (Fin.ro (.f q q .nil) q (ode (by kernel_rfl)) (.no (.no .nil)) q (.inr q))
   ·replace h:=cndF hb6 h;refine W.sk<|Px.sq ?_;refine W.sq'<|W.sq' ?_;refine W.rx [(19,_)] (Vm q<|Vm q<|Rv (O.gtr (.lit q) (.lit q))<|Fi (.n q .nil)) ?_;refine Px.sq<|W.cnd q (fun hb7=>?_) (fun hb7=>?_)
    ·replace h:=cndT hb7 h;refine W.sq'<|W.rx [(4,_)] (Vk q<|Fi (.n q .nil)) ?_;refine Px.sq<|W.rt ?_;refine Px.sqR ?_;obtain rfl:=sm h;exact Px.fin (Fin.ro (.f q q .nil) q (ode (by kernel_rfl)) (.no (.no .nil)) q (.inr q))
    ·replace h:=cndF hb7 h;refine W.sk<|Px.sq ?_;refine W.sq'<|W.rx [(4,_)] (Vk q<|Fi (.n q .nil)) ?_;refine Px.sq<|W.rt ?_;obtain rfl:=sm h;exact Px.fin (Fin.ro (.f q q .nil) q (ode (by kernel_rfl)) (.no (.no .nil)) q (.inr q))
theorem con67 (a0:(List Int)) (r:Int) (h:pf67 a0=some r):Con Try.prog 67 [iR eI a0] [none] (I64 r):=by
 unfold pf67 at h;refine Con.go (N:=⟨18,[]⟩) Try.func67 q q q q (W.fin ?_);refine W.st [(0,iR eI a0)] ?_;refine W.sq'<|W.rx [(0,_)] (Vk q<|Fi (.n q .nil)) ?_;refine Px.sq<|W.sq' ?_;refine W.rx [(0,_),(3,_)] (Vk q<|Fi (tn2 q q)) ?_;refine Px.sq<|W.sq' ?_;refine W.sq'<|W.rx [(3,_),(6,_),(7,_),(8,_)] (Rv (O.mv (.imm q))<|Rv (O.lenI (.imm q) sl33)<|Rv (O.mv (.k q))<|Fi (tn4 q q q q)) ?_;refine Px.sq<|W.bk ?_;obtain ⟨x2,hl,h⟩:=bnd h;refine W.tr (G1:=[(3,_),(6,_),(7,_),(8,_)]) (tn4 q q q q) ?_;refine W.lp2 (s:=0) (fun (s1:Int)=>[(3,I64 0),(6,iR eI a0),(7,I64 (a0.length:Int)),(8,I64 s1)]) 0 (fun (x3:Unit)=>[(3,I64 0)]) (fun (x4:Int)=>[(2,I64 x4)]) hl (fun s1 o h=>?_) (fun x3 hx=>?_) (fun x4 hx=>?_)
 ·clear hl;refine W.sq'<|W.rx [(3,_),(6,_),(7,_),(8,_),(9,_)] (Rv (O.lss (.lit q) (.lit q))<|Fi (tn5 q q q q q)) ?_;refine Px.sq<|W.sq' ?_;refine W.cnd q (fun hb5=>?_) (fun hb5=>?_)
  ·replace h:=cndT hb5 h;refine W.sk<|Px.sq ?_;refine W.sq'<|W.bk ?_;refine W.sq' ?_;obtain ⟨x6,hx6,h⟩:=bnd h;refine W.rx [(3,_),(5,_),(6,_),(7,_),(8,_)] (Rv (O.ixI (.imm q) (.lit q) sl33 hx6)<|Rv (O.ldI (x:=I64 x6) (.iptr q) ct3 q)<|Va q<|Fi (tn5 q q q q q)) ?_;refine Px.sq<|W.sq' ?_;refine W.rx [(3,_),(5,_),(6,_),(7,_),(8,_),(14,_)] (Vm q<|Vm q<|Rv (O.neq (.lit q) (.lit q))<|Fi (tn6 q q q q q q)) ?_;refine Px.sq<|W.cnd q (fun hb7=>?_) (fun hb7=>?_)
   ·replace h:=cndT hb7 h;refine W.sq'<|W.rx [(2,_)] (Vm q<|Va q<|Fi (.n q .nil)) ?_;refine Px.sq<|W.rt ?_;refine Px.bkR ?_;refine Px.sqR ?_;obtain rfl:=sm h;exact Px.r2 (.n q .nil)
   ·replace h:=cndF hb7 h;refine W.sk<|Px.bk ?_;refine Px.sq<|W.rx [(3,_),(6,_),(7,_),(8,_)] (Rv (O.add (.lit q) (.k q))<|RunL.re (G1:=[(3,_),(6,_),(7,_),(16,_)]) (tn4 q q q q)<|Vm q<|Fi (tn4 q q q q)) ?_;obtain rfl:=sm h;exact Px.go (tn4 q q q q)
  ·replace h:=cndF hb5 h;refine W.xi ?_;refine Px.sqE ?_;obtain rfl:=sm h;exact Px.x2 (.n q .nil)
 ·subst hx;refine Px.bkH ?_;refine Px.sq<|W.sq' ?_;refine W.rx [(2,_)] (Vm q<|Va q<|Fi (.n q .nil)) ?_;refine Px.sq<|W.rt ?_;obtain rfl:=sm h;exact Px.fin (Fin.ro (.f q q .nil) q (ode (by kernel_rfl)) (.no .nil) q (.inr q))
 ·subst hx;refine Px.bkR ?_;refine Px.sqR ?_;obtain rfl:=sm h;exact Px.fin (Fin.ro (.f q q .nil) q (ode (by kernel_rfl)) (.no .nil) q (.inr q))
theorem con66 (a0:Int) (a1:Int) (c0:(List (List Pair))) (r:Int) (h:pf66 a0 a1 c0=some r):Con Try.prog 66 [I64 a0,I64 a1,.iptr ([iR (eM ePair) c0])] [none,none,none] (I64 r):=by
 unfold pf66 at h;refine Con.go (N:=⟨22,[]⟩) Try.func66 q q q q (W.fin ?_);refine W.st [(0,I64 a0),(1,I64 a1),(2,.iptr ([iR (eM ePair) c0]))] ?_;refine W.sq'<|W.rx [(0,_),(1,_),(2,_)] (Vk q<|Fi (tn3 q q q)) ?_;refine Px.sq<|W.sq' ?_;obtain ⟨x1,hx1,h⟩:=bnd h;obtain ⟨x2,hx2,h⟩:=bnd h;obtain ⟨x3,hx3,h⟩:=bnd h;obtain ⟨x4,hx4,h⟩:=bnd h;obtain ⟨x5,hx5,h⟩:=bnd h;refine W.rd [[],[],[0,1],[0,1,2],[0,1,2,3],[],[],[5,6],[5,6,7],[5,6,7,8],rn 0 10 [],[],[],rn 0 13 [],rn 0 14 [],rn 0 15 [],rn 0 16 []] [(5,_)] mixo (by kernel_rfl) (Dv 0 (O.ldI (x:=iR (eM ePair) c0) (.iptr q) ct78 q)<|Dv 1 (O.mv (.lit q))<|Dv 2 (O.ixI (.imm q) (.lit q) sl78 hx1)<|Dv 3 (O.ldI (x:=iR ePair x1) (.iptr q) ct53 q)<|Dv 4 (O.lenI (.imm q) sl53)<|Dv 5 (O.ldI (x:=iR (eM ePair) c0) (.iptr q) ct78 q)<|Dv 6 (O.mv (.lit q))<|Dv 7 (O.ixI (.imm q) (.lit q) sl78 hx2)<|Dv 8 (O.ldI (x:=iR ePair x2) (.iptr q) ct53 q)<|Dv 9 (O.lenI (.imm q) sl53)<|Dc 10 (PC.go (.cc (.lit q) (.cc (.lit q) .nil)) (con62 (x1.length:Int) (x2.length:Int) _ hx3) call62 q)<|Dv 11 (O.mv (.lit q))<|Dv 12 (O.mv (.lit q))<|Dc 13 (PC.go (.cc (.lit q) (.cc (.lit q) .nil)) (con62 a0 a1 _ hx4) call62 q)<|DL.vi 14 (x:=iR eI [x3,x4]) (O.bs (ys:=[I64 x3,I64 x4]) eI [x3,x4] sl33 q q q q q q zt3 q q) q q q q .none<|Dc 15 (PC.go (.cc (.imm q) .nil) (con67 [x3,x4] _ hx5) call67 q)<|Dv 16 (O.az (.lit q))<|DL.fin q q q (.n q .nil)) ?_;refine Px.sq<|W.rt ?_;obtain rfl:=sm h;exact Px.fin (Fin.ro (.f q q .nil) q (ode (by kernel_rfl)) (.no (.no (.no .nil))) q (.inr q))
theorem con65 (a0:(List (List Pair))) (r:Bool) (h:pf65 a0=some r):Con Try.prog 65 [iR (eM ePair) a0] [none] (BB r):=by
 unfold pf65 at h;refine Con.go (N:=⟨42,[]⟩) Try.func65 q q q q (W.fin ?_);refine W.st [(0,iR (eM ePair) a0)] ?_;refine W.sq'<|W.rx [(0,_)] (Vk q<|Fi (.n q .nil)) ?_;refine Px.sq<|W.sq' ?_;refine W.sq'<|W.rx [(0,_),(10,_)] (Rv (O.mv (.imm q))<|Rv (O.lenI (.imm q) sl78)<|Rv (O.gtr (.lit q) (.k q))<|Fi (tn2 q q)) ?_;refine Px.sq<|W.cnd q (fun hb1=>?_) (fun hb1=>?_)
 ·replace h:=cndT hb1 h;refine W.sq'<|W.rx [(2,_)] (Vk q<|Fi (.n q .nil)) ?_;refine Px.sq<|W.rt ?_;refine Px.sqR ?_;obtain rfl:=sm h;exact Px.fin (Fin.ro (.f q q .nil) q (ode (by kernel_rfl)) (.no .nil) q (.inr q))
 ·replace h:=cndF hb1 h;refine W.sk<|Px.sq ?_;refine W.sq'<|W.sq' ?_;refine W.rx [(11,_),(12,_),(13,_)] (Rv (O.mv (.imm q))<|Rv (O.lenI (.imm q) sl78)<|Rv (O.mv (.k q))<|Fi (tn3 q q q)) ?_;refine Px.sq<|W.bk ?_;obtain ⟨x3,hl,h⟩:=bnd h;refine W.tr (G1:=[(11,_),(12,_),(13,_)]) (tn3 q q q) ?_;refine W.lp2 (s:=0) (fun (s2:Int)=>[(11,iR (eM ePair) a0),(12,I64 (a0.length:Int)),(13,I64 s2)]) 0 (fun (x4:Unit)=>[]) (fun (x5:Bool)=>[(2,BB x5)]) hl (fun s2 o h=>?_) (fun x4 hx=>?_) (fun x5 hx=>?_)
  ·clear hl;refine W.sq'<|W.rx [(11,_),(12,_),(13,_),(14,_)] (Rv (O.lss (.lit q) (.lit q))<|Fi (tn4 q q q q)) ?_;refine Px.sq<|W.sq' ?_;refine W.cnd q (fun hb6=>?_) (fun hb6=>?_)
   ·replace h:=cndT hb6 h;refine W.sk<|Px.sq ?_;refine W.sq'<|W.bk ?_;refine W.sq' ?_;obtain ⟨x7,hx7,h⟩:=bnd h;refine W.rx [(4,_),(11,_),(12,_),(13,_)] (Rv (O.ixI (.imm q) (.lit q) sl78 hx7)<|Rv (O.ldI (x:=iR ePair x7) (.iptr q) ct53 q)<|Rv (O.az (.imm q))<|Fi (tn4 q q q q)) ?_;refine Px.sq<|W.sq' ?_;refine W.rx [(4,_),(5,_),(11,_),(12,_),(13,_)] (Rv (O.al (cs:=rowc eB (List.replicate 1000 false)) ze146 (by kernel_rfl) (by kernel_rfl))<|Fi (tn5 q q q q q)) ?_;refine Px.sq<|W.sq' ?_;refine W.rx [(5,_),(11,_),(12,_),(13,_),(17,_),(18,_),(19,_)] (Rv (O.mv (.imm q))<|Rv (O.lenI (.imm q) sl53)<|Rv (O.mv (.k q))<|Fi (tn7 q q q q q q q)) ?_;refine Px.sq<|W.bk ?_;obtain ⟨x9,hl,h⟩:=bnd h;refine W.tr (G1:=[(5,_),(11,_),(12,_),(13,_),(17,_),(18,_),(19,_)]) (tn7 q q q q q q q) ?_;refine W.lp2 (s:=((List.replicate 1000 false),0)) (fun (s8:List Bool × Int)=>[(5,.obj (rowc eB s8.1)),(11,iR (eM ePair) a0),(12,I64 (a0.length:Int)),(13,I64 s2),(17,iR ePair x7),(18,I64 (x7.length:Int)),(19,I64 s8.2)]) 2 (fun (x10:Unit)=>[(11,iR (eM ePair) a0),(12,I64 (a0.length:Int)),(13,I64 s2)]) (fun (x11:Bool)=>[(2,BB x11)]) hl (fun s8 o h=>?_) (fun x10 hx=>?_) (fun x11 hx=>?_)
    ·clear hl;refine W.sq'<|W.rx [(5,_),(11,_),(12,_),(13,_),(17,_),(18,_),(19,_),(20,_)] (Rv (O.lss (.lit q) (.lit q))<|Fi (tn8 q q q q q q q q)) ?_;refine Px.sq<|W.sq' ?_;refine W.cnd q (fun hb12=>?_) (fun hb12=>?_)
     ·replace h:=cndT hb12 h;refine W.sk<|Px.sq ?_;refine W.sq'<|W.bk ?_;refine W.sq' ?_;obtain ⟨x13,hx13,h⟩:=bnd h;refine W.rx [(5,_),(7,_),(11,_),(12,_),(13,_),(17,_),(18,_),(19,_)] (Rv (O.ixI (.imm q) (.lit q) sl53 hx13)<|Rv (O.ldIN (cs':=[I64 x13.At,I64 x13.Val]) (.iptr q) at61 q q)<|Rv (O.al (cs:=[I64 0,I64 0]) ze61 q q)<|RunL.sO (G2:=[(5,_),(7,_),(11,_),(12,_),(13,_),(17,_),(18,_),(19,_)]) (cs2:=[I64 x13.At,I64 x13.Val]) q (.obj q) (.aggF q q) q sz61 q q q q (.n q q (.b q (.n q q (.n q q (.n q q (.n q q (.n q q (.n q q .nil))))))))<|Fi (tn8 q q q q q q q q)) ?_;refine Px.sq<|W.sq' ?_;refine W.sq' ?_;obtain ⟨c17,hj,h⟩:=bnd h;refine W.rx [(5,.obj (rowc eB s8.1)),(7,.obj [I64 x13.At,I64 x13.Val]),(11,iR (eM ePair) a0),(12,I64 (a0.length:Int)),(13,I64 s2),(17,iR ePair x7),(18,I64 (x7.length:Int)),(19,I64 s8.2),(36,BB c17)] ?_ ?_
      ·refine Rv (O.fO q (.obj q) fd61_0 q)<|Rv (O.ldO (y:=I64 x13.At) q (.ptr q) ct3 q q)<|Rv (O.lss (.lit q) (.k q))<|Rv (O.mv (.lit q)) ?_;rcases cnd hj with ⟨hb14,hj⟩ | ⟨hb14,hj⟩
       ·obtain rfl:=sm hj;exact RunL.ps q q hb14 q q<|RunL.ps q q hb14 q q<|RunL.ps q q hb14 q q<|Rv (O.pkT (.lit q) hb14 (.k q))<|Vm q<|RunL.ps q q q q q<|RunL.ps q q q q q<|RunL.ps q q q q q<|RunL.ps q q q q q<|Rv (O.pkT (.lit q) q (.k q))<|Fi (tn9 q q q q q q q q q)
       ·refine RunL.v (O.fO q (.obj q) fd61_0 q) q q (.yb q q hb14)<|RunL.v (O.ldO (y:=I64 x13.At) q (.ptr q) ct3 q q) q q (.yb q q hb14)<|RunL.v (O.geq (.lit q) (.k q)) q q (.yb q q hb14)<|Rv (O.pkF (.lit q) hb14 (.lit q))<|Rv (O.mv (.lit q)) ?_;rcases cnd hj with ⟨hb15,hj⟩ | ⟨hb15,hj⟩
        ·obtain rfl:=sm hj;exact RunL.ps q q hb15 q q<|RunL.ps q q hb15 q q<|RunL.ps q q hb15 q q<|RunL.ps q q hb15 q q<|Rv (O.pkT (.lit q) hb15 (.k q))<|Fi (tn9 q q q q q q q q q)
        ·refine RunL.v (O.fO q (.obj q) fd61_0 q) q q (.yb q q hb15)<|RunL.v (O.ldO (y:=I64 x13.At) q (.ptr q) ct3 q q) q q (.yb q q hb15) ?_;obtain ⟨x16,hx16,hj⟩:=bnd hj;obtain rfl:=sm hj;exact RunL.v (O.ixA (en:=eB) (L:=s8.1) q q (.lit q) ar146 hx16) q q (.yb q q hb15)<|RunL.v (O.ldA (en:=eB) (L:=s8.1) q (.ptr q) (idxA_spec hx16).2 q ct4 (fun _=>q)) q q (.yb q q hb15)<|Rv (O.pkF (.lit q) hb15 (.lit q))<|Fi (tn9 q q q q q q q q q)
      refine Px.sq<|W.cnd q (fun hb18=>?_) (fun hb18=>?_)
      ·replace h:=cndT hb18 h;refine W.sq'<|W.rx [(2,_)] (Vk q<|Fi (.n q .nil)) ?_;refine Px.sq<|W.rt ?_;refine Px.sqR ?_;refine Px.bkR ?_;refine Px.sqR ?_;obtain rfl:=sm h;exact Px.r2 (.n q .nil)
      ·replace h:=cndF hb18 h;refine W.sk<|Px.sq ?_;obtain ⟨x19,hx19,h⟩:=bnd h;refine W.rx [(5,_),(11,_),(12,_),(13,_),(17,_),(18,_),(19,_)] (Rv (O.fO q (.obj q) fd61_0 q)<|Rv (O.ldO (y:=I64 x13.At) q (.ptr q) ct3 q q)<|Rv (O.ixA (en:=eB) (L:=s8.1) q q (.lit q) ar146 hx19)<|RunL.sA (G2:=[(5,.obj (rowc eB (s8.1.set x13.At.toNat true))),(11,iR (eM ePair) a0),(12,I64 (a0.length:Int)),(13,I64 s2),(17,iR ePair x7),(18,I64 (x7.length:Int)),(19,I64 s8.2)]) (en:=eB) (L:=s8.1) (y2:=true) q q (.ptr q) (.k q) (idxA_spec hx19).2 q q sz4 q (.b q (.n q q (.n q q (.n q q (.n q q (.n q q (.n q q .nil)))))))<|Fi (tn7 q q q q q q q)) ?_;refine Px.bk ?_;refine Px.sq<|W.rx [(5,_),(11,_),(12,_),(13,_),(17,_),(18,_),(19,_)] (Rv (O.add (.lit q) (.k q))<|RunL.re (G1:=[(5,_),(11,_),(12,_),(13,_),(17,_),(18,_),(40,_)]) (tn7 q q q q q q q)<|Vm q<|Fi (tn7 q q q q q q q)) ?_;obtain rfl:=sm h;exact Px.go (tn7 q q q q q q q)
     ·replace h:=cndF hb12 h;refine W.xi ?_;refine Px.sqE ?_;obtain rfl:=sm h;exact Px.x2 (tn3 q q q)
    ·subst hx;refine Px.bkH ?_;refine Px.bk ?_;refine Px.sq<|W.rx [(11,_),(12,_),(13,_)] (Rv (O.add (.lit q) (.k q))<|RunL.re (G1:=[(11,_),(12,_),(41,_)]) (tn3 q q q)<|Vm q<|Fi (tn3 q q q)) ?_;obtain rfl:=sm h;exact Px.go (tn3 q q q)
    ·subst hx;refine Px.bkR ?_;refine Px.bkR ?_;refine Px.sqR ?_;obtain rfl:=sm h;exact Px.r2 (.n q .nil)
   ·replace h:=cndF hb6 h;refine W.xi ?_;refine Px.sqE ?_;obtain rfl:=sm h;exact Px.x2 .nil
  ·subst hx;refine Px.bkH ?_;refine Px.sq<|W.sq' ?_;refine W.rx [(2,_)] (Vk q<|Fi (.n q .nil)) ?_;refine Px.sq<|W.rt ?_;obtain rfl:=sm h;exact Px.fin (Fin.ro (.f q q .nil) q (ode (by kernel_rfl)) (.no .nil) q (.inr q))
  ·subst hx;refine Px.bkR ?_;refine Px.sqR ?_;obtain rfl:=sm h;exact Px.fin (Fin.ro (.f q q .nil) q (ode (by kernel_rfl)) (.no .nil) q (.inr q))
theorem con93 (a0:Pair) (c0:Int) (c1:(List Int)) (r:Bool) (h:pf93 a0 c0 c1=some r):Con Try.prog 93 [.agg [I64 a0.At,I64 a0.Val],.iptr ([I64 c0]),.iptr ([iR eI c1])] [none,none,none] (BB r):=by
 unfold pf93 at h;refine Con.go (N:=⟨22,[]⟩) Try.func93 q q q q (W.fin ?_);refine W.st [(0,.agg [I64 a0.At,I64 a0.Val]),(1,.iptr ([I64 c0])),(2,.iptr ([iR eI c1]))] ?_;refine W.sq'<|W.rx [(1,_),(2,_),(3,_)] (Rv (O.box (.aggF q q) q)<|Vk q<|Fi (tn3 q q q)) ?_;refine Px.sq<|W.sq' ?_;obtain ⟨c3,hj,h⟩:=bnd h;refine W.rx [(4,BB c3)] ?_ ?_
 ·refine Rv (O.ldI (x:=I64 c0) (.iptr q) ct3 q)<|Rv (O.fO q (.obj q) fd61_0 q)<|Rv (O.ldO (y:=I64 a0.At) q (.ptr q) ct3 q q)<|Rv (O.add (.lit q) (.lit q))<|Rv (O.ldI (x:=iR eI c1) (.iptr q) ct33 q)<|Rv (O.lenI (.imm q) sl33)<|Rv (O.lss (.lit q) (.lit q))<|Rv (O.mv (.lit q)) ?_;rcases cnd hj with ⟨hb1,hj⟩ | ⟨hb1,hj⟩
  ·refine RunL.v (O.ldI (x:=iR eI c1) (.iptr q) ct33 q) q q (.yb q q hb1)<|RunL.v (O.ldI (x:=I64 c0) (.iptr q) ct3 q) q q (.yb q q hb1)<|RunL.v (O.fO q (.obj q) fd61_0 q) q q (.yb q q hb1)<|RunL.v (O.ldO (y:=I64 a0.At) q (.ptr q) ct3 q q) q q (.yb q q hb1)<|RunL.v (O.add (.lit q) (.lit q)) q q (.yb q q hb1) ?_;obtain ⟨x2,hx2,hj⟩:=bnd hj;obtain rfl:=sm hj;exact RunL.v (O.ixI (.imm q) (.lit q) sl33 hx2) q q (.yb q q hb1)<|RunL.v (O.ldI (x:=I64 x2) (.iptr q) ct3 q) q q (.yb q q hb1)<|RunL.v (O.neq (.lit q) (.k q)) q q (.yb q q hb1)<|Rv (O.pkT (.lit q) hb1 (.lit q))<|Va q<|Fi (.n q .nil)
  ·obtain rfl:=sm hj;exact RunL.ps q q hb1 q q<|RunL.ps q q hb1 q q<|RunL.ps q q hb1 q q<|RunL.ps q q hb1 q q<|RunL.ps q q hb1 q q<|RunL.ps q q hb1 q q<|RunL.ps q q hb1 q q<|RunL.ps q q hb1 q q<|Rv (O.pkF (.lit q) hb1 (.k q))<|Va q<|Fi (.n q .nil)
 refine Px.sq<|W.rt ?_;obtain rfl:=sm h;exact Px.fin (Fin.ro (.f q q .nil) q (ode (by kernel_rfl)) (.no (.no (.no .nil))) q (.inr q))
theorem con126_93 (a0:(List Pair)) (a1_0:Int) (a1_1:(List Int)) (r:Int) (h:pf126_93 a0 a1_0 a1_1=some r):Con Try.prog 126 [iR ePair a0,.clo (.func 93) [] [.iptr ([I64 a1_0]),.iptr ([iR eI a1_1])]] [none,none] (I64 r):=by
 unfold pf126_93 at h;refine Con.go (N:=⟨19,[]⟩) Try.func126 q q q q (W.fin ?_);refine W.st [(0,iR ePair a0),(1,.clo (.func 93) [] [.iptr ([I64 a1_0]),.iptr ([iR eI a1_1])])] ?_;refine W.sq'<|W.rx [(0,_),(1,_)] (Vk q<|Fi (tn2 q q)) ?_;refine Px.sq<|W.sq' ?_;refine W.sq'<|W.rx [(0,_),(1,_),(7,_),(8,_)] (Rv (O.mv (.imm q))<|Rv (O.lenI (.imm q) sl53)<|Rv (O.mv (.k q))<|Fi (tn4 q q q q)) ?_;refine Px.sq<|W.bk ?_;obtain ⟨x2,hl,h⟩:=bnd h;refine W.tr (G1:=[(0,_),(1,_),(7,_),(8,_)]) (tn4 q q q q) ?_;refine W.lp2 (s:=0) (fun (s1:Int)=>[(0,iR ePair a0),(1,.clo (.func 93) [] [.iptr ([I64 a1_0]),.iptr ([iR eI a1_1])]),(7,I64 (a0.length:Int)),(8,I64 s1)]) 0 (fun (x3:Unit)=>[]) (fun (x4:Int)=>[(4,I64 x4)]) hl (fun s1 o h=>?_) (fun x3 hx=>?_) (fun x4 hx=>?_)
 ·clear hl;refine W.sq'<|W.rx [(0,_),(1,_),(7,_),(8,_),(9,_)] (Rv (O.lss (.lit q) (.lit q))<|Fi (tn5 q q q q q)) ?_;refine Px.sq<|W.sq' ?_;refine W.cnd q (fun hb5=>?_) (fun hb5=>?_)
  ·replace h:=cndT hb5 h;refine W.sk<|Px.sq ?_;refine W.sq'<|W.bk ?_;refine W.sq'<|W.rx [(0,_),(1,_),(5,_),(7,_),(8,_)] (Vm q<|Va q<|Fi (tn5 q q q q q)) ?_;refine Px.sq<|W.sq' ?_;obtain ⟨x6,hx6,h⟩:=bnd h;obtain ⟨x7,hx7,h⟩:=bnd h;refine W.rx [(0,_),(1,_),(5,_),(7,_),(8,_),(16,_)] (Rv (O.mv (.clo q))<|Rv (O.mv (.imm q))<|Vm q<|Rv (O.ixI (.imm q) (.lit q) sl53 hx6)<|Rv (O.ldIN (cs':=[I64 x6.At,I64 x6.Val]) (.iptr q) at61 q q)<|Rc (PC.gc (.clo q) (.cc (.aggF q q) .nil) (con93 x6 a1_0 a1_1 _ hx7) call93 q)<|Fi (tn6 q q q q q q)) ?_;refine Px.sq<|W.cnd q (fun hb8=>?_) (fun hb8=>?_)
   ·replace h:=cndT hb8 h;refine W.sq'<|W.rx [(4,_)] (Vm q<|Va q<|Fi (.n q .nil)) ?_;refine Px.sq<|W.rt ?_;refine Px.bkR ?_;refine Px.sqR ?_;obtain rfl:=sm h;exact Px.r2 (.n q .nil)
   ·replace h:=cndF hb8 h;refine W.sk<|Px.bk ?_;refine Px.sq<|W.rx [(0,_),(1,_),(7,_),(8,_)] (Rv (O.add (.lit q) (.k q))<|RunL.re (G1:=[(0,_),(1,_),(7,_),(18,_)]) (tn4 q q q q)<|Vm q<|Fi (tn4 q q q q)) ?_;obtain rfl:=sm h;exact Px.go (tn4 q q q q)
  ·replace h:=cndF hb5 h;refine W.xi ?_;refine Px.sqE ?_;obtain rfl:=sm h;exact Px.x2 .nil
 ·subst hx;refine Px.bkH ?_;refine Px.sq<|W.sq' ?_;refine W.rx [(4,_)] (Vk q<|Fi (.n q .nil)) ?_;refine Px.sq<|W.rt ?_;obtain rfl:=sm h;exact Px.fin (Fin.ro (.f q q .nil) q (ode (by kernel_rfl)) (.no (.no .nil)) q (.inr q))
 ·subst hx;refine Px.bkR ?_;refine Px.sqR ?_;obtain rfl:=sm h;exact Px.fin (Fin.ro (.f q q .nil) q (ode (by kernel_rfl)) (.no (.no .nil)) q (.inr q))
theorem con92_93 (a0:(List Pair)) (a1_0:Int) (a1_1:(List Int)) (r:Bool) (h:pf92_93 a0 a1_0 a1_1=some r):Con Try.prog 92 [iR ePair a0,.clo (.func 93) [] [.iptr ([I64 a1_0]),.iptr ([iR eI a1_1])]] [none,none] (BB r):=by
 unfold pf92_93 at h;refine Con.go (N:=⟨9,[]⟩) Try.func92 q q q q (W.fin ?_);refine W.st [(0,iR ePair a0),(1,.clo (.func 93) [] [.iptr ([I64 a1_0]),.iptr ([iR eI a1_1])])] ?_;refine W.sq'<|W.rx [(0,_),(1,_)] (Vk q<|Fi (tn2 q q)) ?_;refine Px.sq<|W.sq' ?_;obtain ⟨x1,hx1,h⟩:=bnd h;refine W.rx [(4,_)] (Rv (O.mv (.imm q))<|Rv (O.mv (.clo q))<|Rc (PC.go (.cc (.imm q) (.cc (.clo q) .nil)) (con126_93 a0 a1_0 a1_1 _ hx1) call126 q)<|Rv (O.geq (.lit q) (.k q))<|Va q<|Fi (.n q .nil)) ?_;refine Px.sq<|W.rt ?_;obtain rfl:=sm h;exact Px.fin (Fin.ro (.f q q .nil) q (ode (by kernel_rfl)) (.no (.no .nil)) q (.inr q))
theorem con68 (a0:(List Int)) (a1:(List Pair)) (a2:Int) (r:Bool) (h:pf68 a0 a1 a2=some r):Con Try.prog 68 [iR eI a0,iR ePair a1,I64 a2] [none,none,none] (BB r):=by
 unfold pf68 at h;refine Con.go (N:=⟨11,[]⟩) Try.func68 q q q q (W.fin ?_);refine W.st [(0,iR eI a0),(1,iR ePair a1),(2,I64 a2)] ?_;refine W.sq'<|W.rx [(1,_),(3,_),(5,_)] (Rv (O.box (.imm q) q)<|Rv (O.box (.lit q) q)<|Vk q<|Fi (tn3 q q q)) ?_;refine Px.sq<|W.sq' ?_;obtain ⟨x1,hx1,h⟩:=bnd h;refine W.rx [(6,_)] (Rv (O.mv (.imm q))<|Rv (O.mf q)<|Rc (PC.vw (ys:=[iR ePair a1,.clo (.func 93) [] [.ptr ⟨5,[]⟩ 0,.ptr ⟨3,[]⟩ 0]]) q (.s (.c (View.cl (.c (View.p0 q q) (.c (View.p0 q q) .nil))) .nil)) (con92_93 a1 a2 a0 _ hx1) call92 q)<|Rv (O.not (.lit q))<|Va q<|Fi (.n q .nil)) ?_;refine Px.sq<|W.rt ?_;obtain rfl:=sm h;exact Px.fin (Fin.ro (.f q q .nil) q (ode (by kernel_rfl)) (.no (.no (.no .nil))) q (.inr q))
theorem con41 (a0:(List (List Pair))) (r:Comb) (h:pf41 a0=some r):Con Try.prog 41 [iR (eM ePair) a0] [none] (.agg (eComb_r.cells r)):=by
 unfold pf41 at h;refine Con.go (N:=⟨111,[]⟩) Try.func41 q q q q (W.fin ?_);refine W.st [(0,iR (eM ePair) a0)] ?_;refine W.sq'<|W.rx [(1,_),(2,_)] (Rv (O.box (.imm q) q)<|Rv (O.al (cs:=[.nils,.nils,.nils]) ze83 q q)<|Fi (tn2 q q)) ?_;refine Px.sq<|W.sq' ?_;refine W.sq' ?_;obtain ⟨x1,hx1,h⟩:=bnd h;refine W.rx [(1,_),(2,_),(13,_)] (Rv (O.ldO (y:=iR (eM ePair) a0) q (.obj q) ct78 q q)<|Rc (PC.go (.cc (.imm q) .nil) (con65 a0 _ hx1) call65 q)<|Rv (O.not (.lit q))<|Fi (tn3 q q q)) ?_;refine Px.sq<|W.cnd q (fun hb2=>?_) (fun hb2=>?_)
 ·replace h:=cndT hb2 h;refine W.sq'<|W.rx [(2,_)] (Rv (O.bu (cs:=[.nils,.nils,.nils]) sc83 ze83 q q q)<|RunL.sO (G2:=[(2,_)]) (cs2:=[.nils,.nils,.nils]) q (.obj q) (.aggF q q) q sz83 q q q q (.b q .nil)<|Fi (.n q .nil)) ?_;refine Px.sq<|W.fz (G1:=[(2,.obj [oR eI ([]:List Int),oR eI ([]:List Int),oR eI ([]:List Int)])]) [2] (.z q q (FzL.obj (.o (.o (.o .nil)))) .nil) ?_;refine W.rt ?_;refine Px.sqR ?_;obtain rfl:=sm h;exact Px.fin (Fin.ro (.c (ys0:=[.brw eI.z ⟨2,[0]⟩ ([]:List Int).length,.brw eI.z ⟨2,[1]⟩ ([]:List Int).length,.brw eI.z ⟨2,[2]⟩ ([]:List Int).length]) q at83 q q q (.o q (.o q (.o q .nil))) .nil) q (ode (by kernel_rfl)) (.no .nil) q (.inr q))
 ·replace h:=cndF hb2 h;refine W.sk<|Px.sq ?_;refine W.sq' ?_;obtain ⟨x3,hx3,h⟩:=bnd h;refine W.rx [(1,_),(2,_),(3,_)] (Rv (O.ldO (y:=iR (eM ePair) a0) q (.obj q) ct78 q q)<|Rv (O.lenI (.imm q) sl78)<|Rv (O.mk (en:=eI) (z0:=0) sl33 (.lit q) (.lit q) ze3 q q hx3 bb3 q)<|Rv (O.bu (cs:=[.brw eI.z ⟨17,[]⟩ x3.length,.nils,.nils]) sc83 ze83 q q q)<|Rv (O.al (cs:=[.nils,.nils,.nils]) ze83 q q)<|RunL.ef (G2:=[(1,.obj [iR (eM ePair) a0]),(2,.obj [.nils,.nils,.nils]),(3,.obj [oR eI x3,oR eI ([]:List Int),oR eI ([]:List Int)])]) q (EO.stB (y':=.agg [oR eI x3,oR eI ([]:List Int),oR eI ([]:List Int)]) (cs2:=[oR eI x3,oR eI ([]:List Int),oR eI ([]:List Int)]) q q (.obj q) (.aggF q q) (.ag (.r q (.f (.f .nil))) .nil) (FzL.agg (.f (.o (.o .nil)))) q sz83 q q q q q (.n q q (.n q q (.b q .nil))))<|Fi (tn3 q q q)) ?_;refine Px.sq<|W.sq' ?_;refine W.rx [(1,_),(2,_),(3,_),(4,_)] (Rv (O.az .knil)<|Fi (tn4 q q q q)) ?_;refine Px.sq<|W.sq' ?_;refine W.sq'<|W.rx [(1,_),(2,_),(3,_),(4,_),(20,_),(21,_)] (Rv (O.ldO (y:=iR (eM ePair) a0) q (.obj q) ct78 q q)<|Rv (O.lenI (.imm q) sl78)<|Rv (O.mv (.k q))<|Fi (tn6 q q q q q q)) ?_;refine Px.sq<|W.bk ?_;obtain ⟨x5,hl,h⟩:=bnd h;refine W.tr (G1:=[(1,_),(2,_),(3,_),(4,oR eI ([]:List Int)),(20,_),(21,_)]) (.n q (.n q (.n q (.w q q .nilOwn (tn2 q q))))) ?_;refine W.lp1 (s:=(([]:List Int),0)) (fun (s4:List Int × Int)=>[(1,.obj [iR (eM ePair) a0]),(2,.obj [.nils,.nils,.nils]),(3,.obj [oR eI x3,oR eI ([]:List Int),oR eI ([]:List Int)]),(4,oR eI s4.1),(20,I64 (a0.length:Int)),(21,I64 s4.2)]) 0 (fun (x5:List Int)=>[(1,.obj [iR (eM ePair) a0]),(2,.obj [.nils,.nils,.nils]),(3,.obj [oR eI x3,oR eI ([]:List Int),oR eI ([]:List Int)]),(4,oR eI x5)]) hl (fun s4 o h=>?_) ?_
  ·clear hl;refine W.sq'<|W.rx [(1,_),(2,_),(3,_),(4,_),(20,_),(21,_),(22,_)] (Rv (O.lss (.lit q) (.lit q))<|Fi (tn7 q q q q q q q)) ?_;refine Px.sq<|W.sq' ?_;refine W.cnd q (fun hb7=>?_) (fun hb7=>?_)
   ·replace h:=cndT hb7 h;refine W.sk<|Px.sq ?_;refine W.sq' ?_;obtain ⟨j8,hj,h⟩:=bnd h;refine W.jn [(1,.obj [iR (eM ePair) a0]),(2,.obj [.nils,.nils,.nils]),(3,.obj [oR eI x3,oR eI ([]:List Int),oR eI ([]:List Int)]),(4,oR eI j8),(20,I64 (a0.length:Int)),(21,I64 s4.2)] ?_ ?_
    ·clear h; have h:=hj; clear hj;refine W.bk<|W.sq' ?_;refine W.rx [(1,_),(2,_),(3,_),(4,_),(5,_),(20,_),(21,_)] (Vm q<|Va q<|Fi (tn7 q q q q q q q)) ?_;refine Px.sq<|W.sq' ?_;obtain ⟨x9,hx9,h⟩:=bnd h;refine W.rx [(1,_),(2,_),(3,_),(4,_),(5,_),(20,_),(21,_),(29,_)] (Rv (O.ldO (y:=iR (eM ePair) a0) q (.obj q) ct78 q q)<|Vm q<|Rv (O.ixI (.imm q) (.lit q) sl78 hx9)<|Rv (O.ldI (x:=iR ePair x9) (.iptr q) ct53 q)<|Rv (O.lenI (.imm q) sl53)<|Rv (O.gtr (.lit q) (.k q))<|Fi (tn8 q q q q q q q q)) ?_;refine Px.sq ?_;obtain ⟨j10,hj,h⟩:=bnd h;refine W.jn [(1,.obj [iR (eM ePair) a0]),(2,.obj [.nils,.nils,.nils]),(3,.obj [oR eI x3,oR eI ([]:List Int),oR eI ([]:List Int)]),(4,oR eI j10),(20,I64 (a0.length:Int)),(21,I64 s4.2)] ?_ ?_
     ·clear h; have h:=hj; clear hj;refine W.cnd q (fun hb11=>?_) (fun hb11=>?_)
      ·replace h:=cndT hb11 h;obtain ⟨x12,hx12,h⟩:=bnd h;refine W.rx [(1,_),(2,_),(3,_),(4,_),(20,_),(21,_)] (Rv (O.mv (.own q))<|Vm q<|RunL.vi (x:=iR eI [s4.2]) (O.bs (ys:=[I64 s4.2]) eI [s4.2] sl33 q q q q q q zt3 q q) q q .none<|Rv (O.ap (en:=eI) (r:=x12) (.brw q) q (.imm q) .i ap33 q hx12)<|RunL.ea (G2:=[(1,.obj [iR (eM ePair) a0]),(2,.obj [.nils,.nils,.nils]),(3,.obj [oR eI x3,oR eI ([]:List Int),oR eI ([]:List Int)]),(20,I64 (a0.length:Int)),(21,I64 s4.2)]) q (EO.aP q q (.pend q) q q q (.n q q (.n q q (.n q q (.n q q (.n q q .nil))))) q q)<|Fi (tn6 q q q q q q)) ?_;obtain rfl:=sm h;exact Px.jn (tn6 q q q q q q)
      ·replace h:=cndF hb11 h;refine W.sk ?_;obtain rfl:=sm h;exact Px.jn (tn6 q q q q q q)
     refine Px.bk ?_;obtain rfl:=sm h;exact Px.jn (tn6 q q q q q q)
    refine Px.sq<|W.rx [(1,_),(2,_),(3,_),(4,_),(20,_),(21,_)] (Rv (O.add (.lit q) (.k q))<|RunL.re (G1:=[(1,_),(2,_),(3,_),(4,_),(20,_),(34,_)]) (tn6 q q q q q q)<|Vm q<|Fi (tn6 q q q q q q)) ?_;obtain rfl:=sm h;exact Px.go (tn6 q q q q q q)
   ·replace h:=cndF hb7 h;refine W.xi ?_;refine Px.sqE ?_;obtain rfl:=sm h;exact Px.x1 (tn4 q q q q)
  refine Px.bkH ?_;refine Px.sq<|W.sq' ?_;obtain ⟨x13,hx13,h⟩:=bnd h;refine W.rx [(1,_),(2,_),(3,_),(4,_)] (Rv (O.mv (.own q))<|Rv (O.mf q)<|RunL.ef q (EO.call q q (CallOk.lv (en:=eI) (L:=x5) (L':=x13) (G2:=[(1,.obj [iR (eM ePair) a0]),(2,.obj [.nils,.nils,.nils]),(3,.obj [oR eI x3,oR eI ([]:List Int),oR eI ([]:List Int)])]) (ys:=[.clo (.func 66) [] [.ptr ⟨1,[]⟩ 0]]) (args:=[.clo (.func 66) [] [.iptr ([iR (eM ePair) a0])]]) q q q q (.c (View.cl (.c (View.p0 q q) .nil)) .nil) (sort50 call66 hx13 (fun a b v h=>con66 a b a0 v h)) call50 (tn3 q q q) q q (tn3 q q q) q))<|Fi (tn4 q q q q)) ?_;refine Px.sq<|W.sq' ?_;refine W.sq'<|W.rx [(1,_),(2,_),(3,_),(4,_),(38,.brw eI.z ⟨4,[]⟩ x13.length),(39,_),(40,_)] (Rv (O.mv (.own q))<|Rv (O.lenO (.brw q) sl33)<|Rv (O.mv (.k q))<|Fi (.n q (.n q (.n q (.n q (.r q (RK.brw (en:=eI) q) npBrw (tn2 q q))))))) ?_;refine Px.sq<|W.bk ?_;obtain ⟨x15,hl,h⟩:=bnd h;refine W.tr (G1:=[(1,_),(2,_),(3,.obj [oR eI ((⟨x3,([]:List Int),([]:List Int)⟩:Comb).Base),oR eI ((⟨x3,([]:List Int),([]:List Int)⟩:Comb).Val),oR eI ((⟨x3,([]:List Int),([]:List Int)⟩:Comb).Chk)]),(4,_),(38,.brw eI.z ⟨4,[]⟩ x13.length),(39,_),(40,_)]) (.n q (.n q (.n q (.n q (.r q (RK.brw (en:=eI) q) npBrw (tn2 q q)))))) ?_;refine W.lp1 (s:=((⟨x3,([]:List Int),([]:List Int)⟩:Comb),0)) (fun (s14:Comb × Int)=>[(1,.obj [iR (eM ePair) a0]),(2,.obj [.nils,.nils,.nils]),(3,.obj (eComb_r.cells s14.1)),(4,oR eI x13),(38,.brw eI.z ⟨4,[]⟩ x13.length),(39,I64 (x13.length:Int)),(40,I64 s14.2)]) 2 (fun (x15:Comb)=>[(2,.obj [.nils,.nils,.nils]),(3,.obj (eComb_r.cells x15))]) hl (fun s14 o h=>?_) ?_
  ·clear hl;refine W.sq'<|W.rx [(1,_),(2,_),(3,_),(4,_),(38,.brw eI.z ⟨4,[]⟩ x13.length),(39,_),(40,_),(41,_)] (Rv (O.lss (.lit q) (.lit q))<|Fi (.n q (.n q (.n q (.n q (.r q (RK.brw (en:=eI) q) npBrw (tn3 q q q))))))) ?_;refine Px.sq<|W.sq' ?_;refine W.cnd q (fun hb17=>?_) (fun hb17=>?_)
   ·replace h:=cndT hb17 h;refine W.sk<|Px.sq ?_;refine W.sq'<|W.bk ?_;refine W.sq' ?_;obtain ⟨x18,hx18,h⟩:=bnd h;refine W.rx [(1,_),(2,_),(3,_),(4,_),(7,_),(38,.brw eI.z ⟨4,[]⟩ x13.length),(39,_),(40,_)] (Rv (O.ixO (en:=eI) q (.brw q) (.lit q) sl33 hx18 q)<|Rv (O.ldE (en:=eI) (x':=I64 x18) q (.ptr q) ct3 hx18 q q)<|Va q<|Fi (.n q (.n q (.n q (.n q (.n q (.r q (RK.brw (en:=eI) q) npBrw (tn2 q q)))))))) ?_;refine Px.sq<|W.sq' ?_;refine W.bk ?_;obtain ⟨x20,hl,h⟩:=bnd h;refine W.tr (G1:=[(1,_),(2,_),(3,_),(4,_),(7,_),(38,.brw eI.z ⟨4,[]⟩ x13.length),(39,_),(40,_)]) (.n q (.n q (.n q (.n q (.n q (.r q (RK.brw (en:=eI) q) npBrw (tn2 q q))))))) ?_;refine W.lp1 (s:=s14.1.Base) (fun (s19:List Int)=>[(1,.obj [iR (eM ePair) a0]),(2,.obj [.nils,.nils,.nils]),(3,.obj [oR eI s19,oR eI s14.1.Val,oR eI s14.1.Chk]),(4,oR eI x13),(7,I64 x18),(38,.brw eI.z ⟨4,[]⟩ x13.length),(39,I64 (x13.length:Int)),(40,I64 s14.2)]) 4 (fun (x20:List Int)=>[(1,.obj [iR (eM ePair) a0]),(2,.obj [.nils,.nils,.nils]),(3,.obj [oR eI x20,oR eI s14.1.Val,oR eI s14.1.Chk]),(4,oR eI x13),(7,I64 x18),(38,.brw eI.z ⟨4,[]⟩ x13.length),(39,I64 (x13.length:Int)),(40,I64 s14.2)]) hl (fun s19 o h=>?_) ?_
    ·clear hl;refine W.sq'<|W.sq' ?_;obtain ⟨x22,hx22,h⟩:=bnd h;obtain ⟨x23,hx23,h⟩:=bnd h;obtain ⟨x24,hx24,h⟩:=bnd h;refine W.rd [[],[0],[],[],[2,3],[2,3,4],[],[6],[],[6,7,8],[6,7,8,9],rn 0 11 [],rn 0 12 []] [(1,_),(2,_),(3,_),(4,_),(7,_),(38,.brw eI.z ⟨4,[]⟩ x13.length),(39,_),(40,_),(56,_)] mixo (by kernel_rfl) (Dv 0 (O.fO q (.obj q) fd83_2 q)<|Dv 1 (O.ldO (y:=.brw eI.z ⟨3,[2]⟩ s14.1.Chk.length) q (.ptr q) ct33 q q)<|Dv 2 (O.ldO (y:=iR (eM ePair) a0) q (.obj q) ct78 q q)<|Dv 3 (O.mv (.lit q))<|Dv 4 (O.ixI (.imm q) (.lit q) sl78 hx22)<|Dv 5 (O.ldI (x:=iR ePair x22) (.iptr q) ct53 q)<|Dv 6 (O.fO q (.obj q) fd83_0 q)<|Dv 7 (O.ldO (y:=.brw eI.z ⟨3,[0]⟩ s19.length) q (.ptr q) ct33 q q)<|Dv 8 (O.mv (.lit q))<|Dv 9 (O.ixO (en:=eI) q (.brw q) (.lit q) sl33 hx23 q)<|Dv 10 (O.ldE (en:=eI) (x':=I64 x23) q (.ptr q) ct3 hx23 q q)<|Dc 11 (PC.vw (ys:=[.brw eI.z ⟨3,[2]⟩ s14.1.Chk.length,iR ePair x22,I64 x23]) q (.c (.row q) (.s (.s .nil))) (con68 s14.1.Chk x22 x23 _ hx24) call68 q)<|Dv 12 (O.not (.lit q))<|DL.fin q q q (.n q (.n q (.n q (.n q (.n q (.r q (RK.brw (en:=eI) q) npBrw (tn3 q q q)))))))) ?_;refine Px.sq<|W.cnd q (fun hb25=>?_) (fun hb25=>?_)
     ·replace h:=cndT hb25 h;refine W.sk<|Px.sq ?_;refine W.bk ?_;obtain ⟨x26,hx26,h⟩:=bnd h;refine W.rx [(1,_),(2,_),(3,_),(4,_),(7,_),(38,.brw eI.z ⟨4,[]⟩ x13.length),(39,_),(40,_)] (Rv (O.fO q (.obj q) fd83_0 q)<|Rv (O.ldO (y:=.brw eI.z ⟨3,[0]⟩ s19.length) q (.ptr q) ct33 q q)<|Vm q<|Rv (O.ixO (en:=eI) q (.brw q) (.lit q) sl33 hx26 q)<|Rv (O.ldE (en:=eI) (x':=I64 x26) q (.ptr q) ct3 hx26 q q)<|Rv (O.add (.lit q) (.k q))<|Rv (O.ixO (en:=eI) q (.brw q) (.lit q) sl33 hx26 q)<|RunL.ef (G2:=[(1,.obj [iR (eM ePair) a0]),(2,.obj [.nils,.nils,.nils]),(3,.obj [oR eI (s19.set x18.toNat (w64 (x26+1))),oR eI s14.1.Val,oR eI s14.1.Chk]),(4,oR eI x13),(7,I64 x18),(38,.brw eI.z ⟨4,[]⟩ x13.length),(39,I64 (x13.length:Int)),(40,I64 s14.2)]) q (EO.stE (en:=eI) (y2:=w64 (x26+1)) (cs':=[I64 (w64 (x26+1))]) (x2:=.obj [oR eI (s19.set x18.toNat (w64 (x26+1))),oR eI s14.1.Val,oR eI s14.1.Chk]) q q (.ptr q) (.lit q) q hx26 sz3 q q q q q q q (.n q q (.n q q (.b q (.n q q (.n q q (.w (en:=eI) q q q q (.n q q (.n q q .nil)))))))))<|Fi (.n q (.n q (.n q (.n q (.n q (.r q (RK.brw (en:=eI) q) npBrw (tn2 q q)))))))) ?_;refine Px.bk ?_;obtain rfl:=sm h;exact Px.go (.n q (.n q (.n q (.n q (.n q (.r q (RK.brw (en:=eI) q) npBrw (tn2 q q)))))))
     ·replace h:=cndF hb25 h;refine W.xi ?_;refine Px.sqE ?_;obtain rfl:=sm h;exact Px.x1 (.n q (.n q (.n q (.n q (.n q (.r q (RK.brw (en:=eI) q) npBrw (tn2 q q)))))))
    refine Px.bkH ?_;refine Px.sq<|W.sq' ?_;obtain ⟨x27,hx27,h⟩:=bnd h;refine W.rx [(1,_),(2,_),(3,_),(4,_),(7,_),(38,.brw eI.z ⟨4,[]⟩ x13.length),(39,_),(40,_),(67,_),(68,_),(69,_)] (Rv (O.ldO (y:=iR (eM ePair) a0) q (.obj q) ct78 q q)<|Vm q<|Rv (O.ixI (.imm q) (.lit q) sl78 hx27)<|Rv (O.ldI (x:=iR ePair x27) (.iptr q) ct53 q)<|Rv (O.lenI (.imm q) sl53)<|Rv (O.mv (.k q))<|Fi (.n q (.n q (.n q (.n q (.n q (.r q (RK.brw (en:=eI) q) npBrw (tn5 q q q q q)))))))) ?_;refine Px.sq<|W.bk ?_;obtain ⟨x29,hl,h⟩:=bnd h;refine W.tr (G1:=[(1,_),(2,_),(3,_),(4,_),(7,_),(38,.brw eI.z ⟨4,[]⟩ x13.length),(39,_),(40,_),(67,_),(68,_),(69,_)]) (.n q (.n q (.n q (.n q (.n q (.r q (RK.brw (en:=eI) q) npBrw (tn5 q q q q q))))))) ?_;refine W.lp1 (s:=(s14.1.Val,s14.1.Chk,0)) (fun (s28:List Int × List Int × Int)=>[(1,.obj [iR (eM ePair) a0]),(2,.obj [.nils,.nils,.nils]),(3,.obj [oR eI x20,oR eI s28.1,oR eI s28.2.1]),(4,oR eI x13),(7,I64 x18),(38,.brw eI.z ⟨4,[]⟩ x13.length),(39,I64 (x13.length:Int)),(40,I64 s14.2),(67,iR ePair x27),(68,I64 (x27.length:Int)),(69,I64 s28.2.2)]) 6 (fun (x29:List Int × List Int)=>[(1,.obj [iR (eM ePair) a0]),(2,.obj [.nils,.nils,.nils]),(3,.obj [oR eI x20,oR eI x29.1,oR eI x29.2]),(4,oR eI x13),(38,.brw eI.z ⟨4,[]⟩ x13.length),(39,I64 (x13.length:Int)),(40,I64 s14.2)]) hl (fun s28 o h=>?_) ?_
    ·clear hl;refine W.sq'<|W.rx [(1,_),(2,_),(3,_),(4,_),(7,_),(38,.brw eI.z ⟨4,[]⟩ x13.length),(39,_),(40,_),(67,_),(68,_),(69,_),(70,_)] (Rv (O.lss (.lit q) (.lit q))<|Fi (.n q (.n q (.n q (.n q (.n q (.r q (RK.brw (en:=eI) q) npBrw (tn6 q q q q q q)))))))) ?_;refine Px.sq<|W.sq' ?_;refine W.cnd q (fun hb31=>?_) (fun hb31=>?_)
     ·replace h:=cndT hb31 h;refine W.sk<|Px.sq ?_;refine W.sq'<|W.bk ?_;refine W.sq' ?_;obtain ⟨x32,hx32,h⟩:=bnd h;refine W.rx [(1,_),(2,_),(3,_),(4,_),(7,_),(9,_),(38,.brw eI.z ⟨4,[]⟩ x13.length),(39,_),(40,_),(67,_),(68,_),(69,_)] (Rv (O.ixI (.imm q) (.lit q) sl53 hx32)<|Rv (O.ldIN (cs':=[I64 x32.At,I64 x32.Val]) (.iptr q) at61 q q)<|Rv (O.al (cs:=[I64 0,I64 0]) ze61 q q)<|RunL.sO (G2:=[(1,_),(2,_),(3,_),(4,_),(7,_),(9,_),(38,.brw eI.z ⟨4,[]⟩ x13.length),(39,_),(40,_),(67,_),(68,_),(69,_)]) (cs2:=[I64 x32.At,I64 x32.Val]) q (.obj q) (.aggF q q) q sz61 q q q q (.n q q (.n q q (.n q q (.n q q (.n q q (.b q (.w (en:=eI) q q q q (.n q q (.n q q (.n q q (.n q q (.n q q .nil))))))))))))<|Fi (.n q (.n q (.n q (.n q (.n q (.n q (.r q (RK.brw (en:=eI) q) npBrw (tn5 q q q q q))))))))) ?_;refine Px.sq<|W.sq' ?_;obtain ⟨x33,hx33,h⟩:=bnd h;refine W.rd [[],[0],[],[0,1,2],[0,1,2,3],[],[5],rn 0 7 [],rn 0 8 []] [(1,_),(2,_),(3,_),(4,_),(7,_),(9,_),(10,_),(38,.brw eI.z ⟨4,[]⟩ x13.length),(39,_),(40,_),(67,_),(68,_),(69,_)] mixo (by kernel_rfl) (Dv 0 (O.fO q (.obj q) fd83_0 q)<|Dv 1 (O.ldO (y:=.brw eI.z ⟨3,[0]⟩ x20.length) q (.ptr q) ct33 q q)<|Dv 2 (O.mv (.lit q))<|Dv 3 (O.ixO (en:=eI) q (.brw q) (.lit q) sl33 hx33 q)<|Dv 4 (O.ldE (en:=eI) (x':=I64 x33) q (.ptr q) ct3 hx33 q q)<|Dv 5 (O.fO q (.obj q) fd61_0 q)<|Dv 6 (O.ldO (y:=I64 x32.At) q (.ptr q) ct3 q q)<|Dv 7 (O.add (.lit q) (.lit q))<|Dv 8 (O.az (.lit q))<|DL.fin q q q (.n q (.n q (.n q (.n q (.n q (.n q (.n q (.r q (RK.brw (en:=eI) q) npBrw (tn5 q q q q q)))))))))) ?_;refine Px.sq<|W.sq' ?_;refine W.bk ?_;obtain ⟨x35,hl,h⟩:=bnd h;refine W.tr (G1:=[(1,_),(2,_),(3,_),(4,_),(7,_),(9,_),(10,_),(38,.brw eI.z ⟨4,[]⟩ x13.length),(39,_),(40,_),(67,_),(68,_),(69,_)]) (.n q (.n q (.n q (.n q (.n q (.n q (.n q (.r q (RK.brw (en:=eI) q) npBrw (tn5 q q q q q))))))))) ?_;refine W.lp1 (s:=(s28.1,s28.2.1)) (fun (s34:List Int × List Int)=>[(1,.obj [iR (eM ePair) a0]),(2,.obj [.nils,.nils,.nils]),(3,.obj [oR eI x20,oR eI s34.1,oR eI s34.2]),(4,oR eI x13),(7,I64 x18),(9,.obj [I64 x32.At,I64 x32.Val]),(10,I64 (w64 (x33+x32.At))),(38,.brw eI.z ⟨4,[]⟩ x13.length),(39,I64 (x13.length:Int)),(40,I64 s14.2),(67,iR ePair x27),(68,I64 (x27.length:Int)),(69,I64 s28.2.2)]) 8 (fun (x35:List Int × List Int)=>[(1,.obj [iR (eM ePair) a0]),(2,.obj [.nils,.nils,.nils]),(3,.obj [oR eI x20,oR eI x35.1,oR eI x35.2]),(4,oR eI x13),(7,I64 x18),(9,.obj [I64 x32.At,I64 x32.Val]),(10,I64 (w64 (x33+x32.At))),(38,.brw eI.z ⟨4,[]⟩ x13.length),(39,I64 (x13.length:Int)),(40,I64 s14.2),(67,iR ePair x27),(68,I64 (x27.length:Int)),(69,I64 s28.2.2)]) hl (fun s34 o h=>?_) ?_
      ·clear hl;refine W.sq'<|W.sq' ?_;refine W.rx [(1,_),(2,_),(3,_),(4,_),(7,_),(9,_),(10,_),(38,.brw eI.z ⟨4,[]⟩ x13.length),(39,_),(40,_),(67,_),(68,_),(69,_),(85,_)] (Rv (O.fO q (.obj q) fd83_2 q)<|Rv (O.ldO (y:=.brw eI.z ⟨3,[2]⟩ s34.2.length) q (.ptr q) ct33 q q)<|Rv (O.lenO (.brw q) sl33)<|Vm q<|Rv (O.leq (.lit q) (.lit q))<|Fi (.n q (.n q (.n q (.n q (.n q (.n q (.n q (.r q (RK.brw (en:=eI) q) npBrw (tn6 q q q q q q)))))))))) ?_;refine Px.sq<|W.cnd q (fun hb37=>?_) (fun hb37=>?_)
       ·replace h:=cndT hb37 h;refine W.sk<|Px.sq ?_;refine W.bk ?_;obtain ⟨x38,hx38,h⟩:=bnd h;obtain ⟨x39,hx39,h⟩:=bnd h;refine W.rd [[],[0],[],[0,1,2],[],[4],[],rn 0 7 [],rn 0 6 [],rn 0 9 [],rn 0 10 [],rn 0 11 []] [(1,_),(2,_),(3,_),(4,_),(7,_),(9,_),(10,_),(38,.brw eI.z ⟨4,[]⟩ x13.length),(39,_),(40,_),(67,_),(68,_),(69,_)] mixo (by kernel_rfl) (Dv 0 (O.fO q (.obj q) fd83_2 q)<|Dv 1 (O.ldO (y:=.brw eI.z ⟨3,[2]⟩ s34.2.length) q (.ptr q) ct33 q q)<|DL.vi 2 (x:=iR eI [0]) (O.bs (ys:=[I64 0]) eI [0] sl33 q q q q q q zt3 q q) q q q q .none<|Dv 3 (O.ap (en:=eI) (r:=x38) (.brw q) q (.imm q) .i ap33 q hx38)<|Dv 4 (O.fO q (.obj q) fd83_1 q)<|Dv 5 (O.ldO (y:=.brw eI.z ⟨3,[1]⟩ s34.1.length) q (.ptr q) ct33 q q)<|DL.vi 6 (x:=iR eI [0]) (O.bs (ys:=[I64 0]) eI [0] sl33 q q q q q q zt3 q q) q q q q .none<|Dv 7 (O.ap' (en:=eI) (r:=x39) (.brw q) q (.imm q) .i ap33 q hx39 (noQ_spec (by kernel_rfl) (by kernel_rfl)))<|Dv 8 (O.fO q (.obj q) fd83_2 q)<|DL.bw 9 (G2:=[(1,.obj [iR (eM ePair) a0]),(2,.obj [.nils,.nils,.nils]),(3,.obj [oR eI x20,.dead,oR eI (s34.2++[0])]),(4,oR eI x13),(7,I64 x18),(9,.obj [I64 x32.At,I64 x32.Val]),(10,I64 (w64 (x33+x32.At))),(38,.brw eI.z ⟨4,[]⟩ x13.length),(39,I64 (x13.length:Int)),(40,I64 s14.2),(67,iR ePair x27),(68,I64 (x27.length:Int)),(69,I64 s28.2.2),(93,oR eI (s34.1++[0]))]) (EffOk.settle (ts:=[89,93]) (xs:=[.brw eI.z ⟨89,[]⟩ (s34.2.length+[0].length),.brw eI.z ⟨93,[]⟩ (s34.1.length+[0].length)]) (ys:=[.own eI.z (s34.2.length+[0].length) (rowc eI s34.2++rowc eI [0]),.own eI.z (s34.1.length+[0].length) (rowc eI s34.1++rowc eI [0])]) (g2:=get [(1,.obj [iR (eM ePair) a0]),(2,.obj [.nils,.nils,.nils]),(3,.obj [oR eI x20,.dead,.dead]),(4,oR eI x13),(7,I64 x18),(9,.obj [I64 x32.At,I64 x32.Val]),(10,I64 (w64 (x33+x32.At))),(38,.brw eI.z ⟨4,[]⟩ x13.length),(39,I64 (x13.length:Int)),(40,I64 s14.2),(67,iR ePair x27),(68,I64 (x27.length:Int)),(69,I64 s28.2.2),(89,oR eI (s34.2++[0])),(93,oR eI (s34.1++[0])),(94,.ptr ⟨3,[]⟩ 2)]) q (TkL.take (.pn q q q .ns (.pn q q q .ns .nil))) (by decide) q (all2 q q) (Trim.keep (.n q (.n q (.n q (.n q (.n q (.n q (.n q (.r q (RK.brw (en:=eI) q) npBrw (.n q (.n q (.n q (.n q (.n q (.e q (oR_app _ _ _) (.e q (oR_app _ _ _) (.q q q q .nil))))))))))))))))) (EO.eff (EO.stB (y':=oR eI (s34.2++[0])) (cs2:=[oR eI x20,.dead,oR eI (s34.2++[0])]) q q (.ptr q) (.own q) (.r q .nil) .refl q sz33 q q q q q (.n q q (.n q q (.b q (.n q q (.n q q (.n q q (.n q q (.w (en:=eI) q q q q (.n q q (.n q q (.n q q (.n q q (.n q q (.n q q .nil))))))))))))))))) q q (by kernel_rfl) q q (by kernel_rfl)<|Dv 10 (O.fO q (.obj q) fd83_1 q)<|DL.bp 11 (G2:=[(1,.obj [iR (eM ePair) a0]),(2,.obj [.nils,.nils,.nils]),(3,.obj [oR eI x20,oR eI (s34.1++[0]),oR eI (s34.2++[0])]),(4,oR eI x13),(7,I64 x18),(9,.obj [I64 x32.At,I64 x32.Val]),(10,I64 (w64 (x33+x32.At))),(38,.brw eI.z ⟨4,[]⟩ x13.length),(39,I64 (x13.length:Int)),(40,I64 s14.2),(67,iR ePair x27),(68,I64 (x27.length:Int)),(69,I64 s28.2.2)]) (EO.stB (y':=oR eI (s34.1++[0])) (cs2:=[oR eI x20,oR eI (s34.1++[0]),oR eI (s34.2++[0])]) q q (.ptr q) (.own q) (.r q .nil) .refl q sz33 q q q q q (.n q q (.n q q (.b q (.n q q (.n q q (.n q q (.n q q (.w (en:=eI) q q q q (.n q q (.n q q (.n q q (.n q q (.n q q .nil)))))))))))))) q q q q (by kernel_rfl) (by kernel_rfl)<|DL.fin q q q (.n q (.n q (.n q (.n q (.n q (.n q (.n q (.r q (RK.brw (en:=eI) q) npBrw (tn5 q q q q q)))))))))) ?_;refine Px.bk ?_;obtain rfl:=sm h;exact Px.go (.n q (.n q (.n q (.n q (.n q (.n q (.n q (.r q (RK.brw (en:=eI) q) npBrw (tn5 q q q q q)))))))))
       ·replace h:=cndF hb37 h;refine W.xi ?_;refine Px.sqE ?_;obtain rfl:=sm h;exact Px.x1 (.n q (.n q (.n q (.n q (.n q (.n q (.n q (.r q (RK.brw (en:=eI) q) npBrw (tn5 q q q q q)))))))))
      refine Px.bkH ?_;refine Px.sq ?_;obtain ⟨x40,hx40,h⟩:=bnd h;obtain ⟨x41,hx41,h⟩:=bnd h;refine W.rd [[],[0],[],[],[3],[],[],[6],[],[8],[0,1,2,6,7],[0,1,2,6,7,10],rn 0 12 [],rn 0 13 []] [(1,_),(2,_),(3,_),(4,_),(7,_),(38,.brw eI.z ⟨4,[]⟩ x13.length),(39,_),(40,_),(67,_),(68,_),(69,_)] mixo (by kernel_rfl) (Dv 0 (O.fO q (.obj q) fd83_2 q)<|Dv 1 (O.ldO (y:=.brw eI.z ⟨3,[2]⟩ x35.2.length) q (.ptr q) ct33 q q)<|Dv 2 (O.mv (.lit q))<|Dv 3 (O.fO q (.obj q) fd83_1 q)<|Dv 4 (O.ldO (y:=.brw eI.z ⟨3,[1]⟩ x35.1.length) q (.ptr q) ct33 q q)<|Dv 5 (O.mv (.lit q))<|Dv 6 (O.mv (.lit q))<|Dv 7 (O.add (.lit q) (.k q))<|Dv 8 (O.fO q (.obj q) fd61_1 q)<|Dv 9 (O.ldO (y:=I64 x32.Val) q (.ptr q) ct3 q q)<|Dv 10 (O.ixO (en:=eI) q (.brw q) (.lit q) sl33 hx40 q)<|DL.bz 11 (G2:=[(1,.obj [iR (eM ePair) a0]),(2,.obj [.nils,.nils,.nils]),(3,.obj [oR eI x20,oR eI x35.1,oR eI (x35.2.set (w64 (x33+x32.At)).toNat (w64 (x18+1)))]),(4,oR eI x13),(7,I64 x18),(9,.obj [I64 x32.At,I64 x32.Val]),(10,I64 (w64 (x33+x32.At))),(38,.brw eI.z ⟨4,[]⟩ x13.length),(39,I64 (x13.length:Int)),(40,I64 s14.2),(67,iR ePair x27),(68,I64 (x27.length:Int)),(69,I64 s28.2.2)]) (U:=[(9,105,some (I64 x32.Val)),(8,104,some (.ptr ⟨9,[]⟩ 1)),(5,101,some (I64 (w64 (x33+x32.At)))),(4,100,some (.brw eI.z ⟨3,[1]⟩ x35.1.length)),(3,99,some (.ptr ⟨3,[]⟩ 1))]) (ps:=[⟨3,[1]⟩]) (EffOk.cell (r:=3) (k0:=1) (y:=oR eI x35.1) (g5:=get [(1,.obj [iR (eM ePair) a0]),(2,.obj [.nils,.nils,.nils]),(3,.obj [oR eI x20,oR eI x35.1,oR eI (x35.2.set (w64 (x33+x32.At)).toNat (w64 (x18+1)))]),(4,oR eI x13),(7,I64 x18),(9,.obj [I64 x32.At,I64 x32.Val]),(10,I64 (w64 (x33+x32.At))),(38,.brw eI.z ⟨4,[]⟩ x13.length),(39,I64 (x13.length:Int)),(40,I64 s14.2),(67,iR ePair x27),(68,I64 (x27.length:Int)),(69,I64 s28.2.2)]) q q NRc.nr (fun v _=>⟨get [(1,.obj [iR (eM ePair) a0]),(2,.obj [.nils,.nils,.nils]),(3,.obj [oR eI x20,.lit v,oR eI x35.2]),(4,oR eI x13),(7,I64 x18),(9,.obj [I64 x32.At,I64 x32.Val]),(10,I64 (w64 (x33+x32.At))),(38,.brw eI.z ⟨4,[]⟩ x13.length),(39,I64 (x13.length:Int)),(40,I64 s14.2),(67,iR ePair x27),(68,I64 (x27.length:Int)),(69,I64 s28.2.2),(103,I64 (w64 (x18+1))),(106,.ptr ⟨3,[2]⟩ ((w64 (x33+x32.At)).toNat * eI.z+0))],get [(1,.obj [iR (eM ePair) a0]),(2,.obj [.nils,.nils,.nils]),(3,.obj [oR eI x20,.lit v,oR eI (x35.2.set (w64 (x33+x32.At)).toNat (w64 (x18+1)))]),(4,oR eI x13),(7,I64 x18),(9,.obj [I64 x32.At,I64 x32.Val]),(10,I64 (w64 (x33+x32.At))),(38,.brw eI.z ⟨4,[]⟩ x13.length),(39,I64 (x13.length:Int)),(40,I64 s14.2),(67,iR ePair x27),(68,I64 (x27.length:Int)),(69,I64 s28.2.2)],Trim.keep (.n q (.n q (.n q (.n q (.n q (.n q (.n q (.r q (RK.brw (en:=eI) q) npBrw (.n q (.n q (.n q (.n q (.n q (.n q (.r q (RK.el (en:=eI) q hx40 q) npPtr .nil))))))))))))))),EO.eff (EO.stE (en:=eI) (y2:=w64 (x18+1)) (cs':=[I64 (w64 (x18+1))]) (x2:=.obj [oR eI x20,.lit v,oR eI (x35.2.set (w64 (x33+x32.At)).toNat (w64 (x18+1)))]) q q (.ptr q) (.lit q) q hx40 sz3 q q q q q q q (.n q q (.n q q (.b q (.n q q (.n q q (.n q q (.n q q (.w (en:=eI) q q q q (.n q q (.n q q (.n q q (.n q q (.n q q .nil)))))))))))))),q,Trim.keep (.n q (.n q (.n q (.n q (.n q (.n q (.n q (.r q (RK.brw (en:=eI) q) npBrw (tn5 q q q q q)))))))))⟩)) q q (by kernel_rfl) q q q (.c (.inr (.inl ⟨_,q⟩)) q q q q q (Gd.wanted .none) (O.ldO (y:=I64 x32.Val) q (.ptr q) ct3 q q) (.c (.inr (.inr (.inr (.inl ⟨9,_,_,q,q,of_blt q,by simp,_,q,of_blt q⟩)))) q q q q q (Gd.wanted .none) (O.fO q (.obj q) fd61_1 q) (.c (.inr (.inl ⟨_,q⟩)) q q q q q (Gd.wanted .none) (O.mv (.lit q)) (.c (.inl ⟨3,[1],_,_,_,_,q,by simp,q,q,Nat.le_refl _⟩) q q q q q (Gd.wanted .none) (O.ldO (y:=.brw eI.z ⟨3,[1]⟩ x35.1.length) q (.ptr q) ct33 q q) (.c (.inr (.inr (.inr (.inl ⟨3,_,_,q,q,of_blt q,by simp,_,q,of_blt q⟩)))) q q q q q (Gd.wanted .none) (O.fO q (.obj q) fd83_1 q) .nil))))) (by kernel_rfl)<|Dv 12 (O.ixO (en:=eI) q (.brw q) (.lit q) sl33 hx41 q)<|DL.bp 13 (G2:=[(1,.obj [iR (eM ePair) a0]),(2,.obj [.nils,.nils,.nils]),(3,.obj [oR eI x20,oR eI (x35.1.set (w64 (x33+x32.At)).toNat x32.Val),oR eI (x35.2.set (w64 (x33+x32.At)).toNat (w64 (x18+1)))]),(4,oR eI x13),(7,I64 x18),(38,.brw eI.z ⟨4,[]⟩ x13.length),(39,I64 (x13.length:Int)),(40,I64 s14.2),(67,iR ePair x27),(68,I64 (x27.length:Int)),(69,I64 s28.2.2)]) (EO.stE (en:=eI) (y2:=x32.Val) (cs':=[I64 x32.Val]) (x2:=.obj [oR eI x20,oR eI (x35.1.set (w64 (x33+x32.At)).toNat x32.Val),oR eI (x35.2.set (w64 (x33+x32.At)).toNat (w64 (x18+1)))]) q q (.ptr q) (.lit q) q hx41 sz3 q q q q q q q (.n q q (.n q q (.b q (.n q q (.n q q (.w (en:=eI) q q q q (.n q q (.n q q (.n q q (.n q q (.n q q .nil)))))))))))) q q q q (by kernel_rfl) (by kernel_rfl)<|DL.fin q q q (.n q (.n q (.n q (.n q (.n q (.r q (RK.brw (en:=eI) q) npBrw (tn5 q q q q q)))))))) ?_;refine Px.bk ?_;refine Px.sq<|W.rx [(1,_),(2,_),(3,_),(4,_),(7,_),(38,.brw eI.z ⟨4,[]⟩ x13.length),(39,_),(40,_),(67,_),(68,_),(69,_)] (Rv (O.add (.lit q) (.k q))<|RunL.re (G1:=[(1,_),(2,_),(3,_),(4,_),(7,_),(38,.brw eI.z ⟨4,[]⟩ x13.length),(39,_),(40,_),(67,_),(68,_),(108,_)]) (.n q (.n q (.n q (.n q (.n q (.r q (RK.brw (en:=eI) q) npBrw (tn5 q q q q q)))))))<|Vm q<|Fi (.n q (.n q (.n q (.n q (.n q (.r q (RK.brw (en:=eI) q) npBrw (tn5 q q q q q)))))))) ?_;obtain rfl:=sm h;exact Px.go (.n q (.n q (.n q (.n q (.n q (.r q (RK.brw (en:=eI) q) npBrw (tn5 q q q q q)))))))
     ·replace h:=cndF hb31 h;refine W.xi ?_;refine Px.sqE ?_;obtain rfl:=sm h;exact Px.x1 (.n q (.n q (.n q (.n q (.r q (RK.brw (en:=eI) q) npBrw (tn2 q q))))))
    refine Px.bkH ?_;refine Px.bk ?_;refine Px.sq<|W.rx [(1,_),(2,_),(3,_),(4,_),(38,.brw eI.z ⟨4,[]⟩ x13.length),(39,_),(40,_)] (Rv (O.add (.lit q) (.k q))<|RunL.re (G1:=[(1,_),(2,_),(3,_),(4,_),(38,.brw eI.z ⟨4,[]⟩ x13.length),(39,_),(109,_)]) (.n q (.n q (.n q (.n q (.r q (RK.brw (en:=eI) q) npBrw (tn2 q q))))))<|Vm q<|Fi (.n q (.n q (.n q (.n q (.r q (RK.brw (en:=eI) q) npBrw (tn2 q q))))))) ?_;obtain rfl:=sm h;exact Px.go (.n q (.n q (.n q (.n q (.r q (RK.brw (en:=eI) q) npBrw (tn2 q q))))))
   ·replace h:=cndF hb17 h;refine W.xi ?_;refine Px.sqE ?_;obtain rfl:=sm h;exact Px.x1 (tn2 q q)
  refine Px.bkH ?_;refine Px.sq<|W.sq' ?_;refine W.rx [(2,_)] (Rv (O.ldON (cs':=[.brw eI.z ⟨3,[0]⟩ x15.Base.length,.brw eI.z ⟨3,[1]⟩ x15.Val.length,.brw eI.z ⟨3,[2]⟩ x15.Chk.length]) q (.obj q) at83 q q)<|RunL.ef (G2:=[(2,.obj (eComb_r.cells x15))]) q (EO.stB (y':=.agg [oR eI x15.Base,oR eI x15.Val,oR eI x15.Chk]) (cs2:=[oR eI x15.Base,oR eI x15.Val,oR eI x15.Chk]) q q (.obj q) (.aggF q q) (.ag (.r q (.r q (.r q .nil))) .nil) (FzL.agg (.f (.f (.f .nil)))) q sz83 q q q q q (.b q .nil))<|Fi (.n q .nil)) ?_;refine Px.sq<|W.rt ?_;obtain rfl:=sm h;exact Px.fin (Fin.ro (.c (ys0:=[.brw eI.z ⟨2,[0]⟩ x15.Base.length,.brw eI.z ⟨2,[1]⟩ x15.Val.length,.brw eI.z ⟨2,[2]⟩ x15.Chk.length]) q at83 q q q (.o q (.o q (.o q .nil))) .nil) q (ode (by kernel_rfl)) (.no .nil) q (.inr q))
theorem con44 (a0:Comb) (a1:Int) (a2:Int) (r:Int × Bool) (h:pf44 a0 a1 a2=some r):Con Try.prog 44 [.agg (eComb_0.cells a0),I64 a1,I64 a2] [none,none,none] (.tup [I64 r.1,BB r.2]):=by
 unfold pf44 at h;refine Con.go (N:=⟨56,[]⟩) Try.func44 q q q q (W.fin ?_);refine W.st [(0,.agg (eComb_0.cells a0)),(1,I64 a1),(2,I64 a2)] ?_;refine W.sq'<|W.rx [(1,_),(2,_),(3,_)] (Rv (O.box (.aggF q q) q)<|Vk q<|Vk q<|Fi (tn3 q q q)) ?_;refine Px.sq<|W.sq' ?_;refine W.sq' ?_;obtain ⟨c4,hj,h⟩:=bnd h;refine W.rx [(1,I64 a1),(2,I64 a2),(3,.obj (eComb_0.cells a0)),(28,BB c4)] ?_ ?_
 ·refine Vm q<|Rv (O.lss (.lit q) (.k q))<|Rv (O.mv (.lit q)) ?_;rcases cnd hj with ⟨hb1,hj⟩ | ⟨hb1,hj⟩
  ·obtain rfl:=sm hj;exact RunL.ps q q hb1 q q<|RunL.ps q q hb1 q q<|RunL.ps q q hb1 q q<|RunL.ps q q hb1 q q<|RunL.ps q q hb1 q q<|Rv (O.pkT (.lit q) hb1 (.k q))<|Vm q<|RunL.ps q q q q q<|RunL.ps q q q q q<|Rv (O.pkT (.lit q) q (.k q))<|Vm q<|RunL.ps q q q q q<|RunL.ps q q q q q<|RunL.ps q q q q q<|RunL.ps q q q q q<|RunL.ps q q q q q<|Rv (O.pkT (.lit q) q (.k q))<|Fi (tn4 q q q q)
  ·refine RunL.v (O.mv (.lit q)) q q (.yb q q hb1)<|RunL.v (O.fO q (.obj q) fd83_0 q) q q (.yb q q hb1)<|RunL.v (O.ldO (y:=iR eI a0.Base) q (.ptr q) ct33 q q) q q (.yb q q hb1)<|RunL.v (O.lenI (.imm q) sl33) q q (.yb q q hb1)<|RunL.v (O.geq (.lit q) (.lit q)) q q (.yb q q hb1)<|Rv (O.pkF (.lit q) hb1 (.lit q))<|Rv (O.mv (.lit q)) ?_;rcases cnd hj with ⟨hb2,hj⟩ | ⟨hb2,hj⟩
   ·obtain rfl:=sm hj;exact RunL.ps q q hb2 q q<|RunL.ps q q hb2 q q<|Rv (O.pkT (.lit q) hb2 (.k q))<|Vm q<|RunL.ps q q q q q<|RunL.ps q q q q q<|RunL.ps q q q q q<|RunL.ps q q q q q<|RunL.ps q q q q q<|Rv (O.pkT (.lit q) q (.k q))<|Fi (tn4 q q q q)
   ·refine RunL.v (O.mv (.lit q)) q q (.yb q q hb2)<|RunL.v (O.lss (.lit q) (.k q)) q q (.yb q q hb2)<|Rv (O.pkF (.lit q) hb2 (.lit q))<|Rv (O.mv (.lit q)) ?_;rcases cnd hj with ⟨hb3,hj⟩ | ⟨hb3,hj⟩
    ·obtain rfl:=sm hj;exact RunL.ps q q hb3 q q<|RunL.ps q q hb3 q q<|RunL.ps q q hb3 q q<|RunL.ps q q hb3 q q<|RunL.ps q q hb3 q q<|Rv (O.pkT (.lit q) hb3 (.k q))<|Fi (tn4 q q q q)
    ·obtain rfl:=sm hj;exact RunL.v (O.mv (.lit q)) q q (.yb q q hb3)<|RunL.v (O.fO q (.obj q) fd83_2 q) q q (.yb q q hb3)<|RunL.v (O.ldO (y:=iR eI a0.Chk) q (.ptr q) ct33 q q) q q (.yb q q hb3)<|RunL.v (O.lenI (.imm q) sl33) q q (.yb q q hb3)<|RunL.v (O.geq (.lit q) (.lit q)) q q (.yb q q hb3)<|Rv (O.pkF (.lit q) hb3 (.lit q))<|Fi (tn4 q q q q)
 refine Px.sq<|W.cnd q (fun hb5=>?_) (fun hb5=>?_)
 ·replace h:=cndT hb5 h;refine W.sq'<|W.rx [(6,_),(7,_)] (Vk q<|Vk q<|Fi (tn2 q q)) ?_;refine Px.sq<|W.rt ?_;refine Px.sqR ?_;obtain rfl:=sm h;exact Px.fin (Fin.ro (.f q q (.f q q .nil)) q (ode (by kernel_rfl)) (.no (.no (.no .nil))) q (.inr q))
 ·replace h:=cndF hb5 h;refine W.sk<|Px.sq ?_;refine W.sq' ?_;obtain ⟨x6,hx6,h⟩:=bnd h;refine W.rx [(1,_),(3,_),(8,_)] (Rv (O.fO q (.obj q) fd83_0 q)<|Rv (O.ldO (y:=iR eI a0.Base) q (.ptr q) ct33 q q)<|Vm q<|Rv (O.ixI (.imm q) (.lit q) sl33 hx6)<|Rv (O.ldI (x:=I64 x6) (.iptr q) ct3 q)<|Vm q<|Rv (O.add (.lit q) (.lit q))<|Va q<|Fi (tn3 q q q)) ?_;refine Px.sq<|W.sq' ?_;refine W.sq' ?_;obtain ⟨c9,hj,h⟩:=bnd h;refine W.rx [(3,.obj (eComb_0.cells a0)),(8,I64 (w64 (x6+a2))),(50,BB c9)] ?_ ?_
  ·refine Vm q<|Rv (O.fO q (.obj q) fd83_2 q)<|Rv (O.ldO (y:=iR eI a0.Chk) q (.ptr q) ct33 q q)<|Rv (O.lenI (.imm q) sl33)<|Rv (O.geq (.lit q) (.lit q))<|Rv (O.mv (.lit q)) ?_;rcases cnd hj with ⟨hb7,hj⟩ | ⟨hb7,hj⟩
   ·obtain rfl:=sm hj;exact RunL.ps q q hb7 q q<|RunL.ps q q hb7 q q<|RunL.ps q q hb7 q q<|RunL.ps q q hb7 q q<|RunL.ps q q hb7 q q<|RunL.ps q q hb7 q q<|RunL.ps q q hb7 q q<|RunL.ps q q hb7 q q<|Rv (O.pkT (.lit q) hb7 (.k q))<|Fi (tn3 q q q)
   ·refine RunL.v (O.fO q (.obj q) fd83_2 q) q q (.yb q q hb7)<|RunL.v (O.ldO (y:=iR eI a0.Chk) q (.ptr q) ct33 q q) q q (.yb q q hb7)<|RunL.v (O.mv (.lit q)) q q (.yb q q hb7) ?_;obtain ⟨x8,hx8,hj⟩:=bnd hj;obtain rfl:=sm hj;exact RunL.v (O.ixI (.imm q) (.lit q) sl33 hx8) q q (.yb q q hb7)<|RunL.v (O.ldI (x:=I64 x8) (.iptr q) ct3 q) q q (.yb q q hb7)<|RunL.v (O.mv (.lit q)) q q (.yb q q hb7)<|RunL.v (O.add (.lit q) (.k q)) q q (.yb q q hb7)<|RunL.v (O.neq (.lit q) (.lit q)) q q (.yb q q hb7)<|Rv (O.pkF (.lit q) hb7 (.lit q))<|Fi (tn3 q q q)
  refine Px.sq<|W.cnd q (fun hb10=>?_) (fun hb10=>?_)
  ·replace h:=cndT hb10 h;refine W.sq'<|W.rx [(6,_),(7,_)] (Vk q<|Vk q<|Fi (tn2 q q)) ?_;refine Px.sq<|W.rt ?_;refine Px.sqR ?_;obtain rfl:=sm h;exact Px.fin (Fin.ro (.f q q (.f q q .nil)) q (ode (by kernel_rfl)) (.no (.no (.no .nil))) q (.inr q))
  ·replace h:=cndF hb10 h;refine W.sk<|Px.sq ?_;refine W.sq' ?_;obtain ⟨x11,hx11,h⟩:=bnd h;refine W.rx [(6,_),(7,_)] (Rv (O.fO q (.obj q) fd83_1 q)<|Rv (O.ldO (y:=iR eI a0.Val) q (.ptr q) ct33 q q)<|Vm q<|Rv (O.ixI (.imm q) (.lit q) sl33 hx11)<|Rv (O.ldI (x:=I64 x11) (.iptr q) ct3 q)<|Va q<|Vk q<|Fi (tn2 q q)) ?_;refine Px.sq<|W.rt ?_;obtain rfl:=sm h;exact Px.fin (Fin.ro (.f q q (.f q q .nil)) q (ode (by kernel_rfl)) (.no (.no (.no .nil))) q (.inr q))
theorem con30 (a0:Int) (a1:Int) (r:Int) (h:pf30 a0 a1=some r):Con Try.prog 30 [I64 a0,I64 a1] [none,none] (I64 r):=by
 unfold pf30 at h;refine Con.go (N:=⟨15,[]⟩) Try.func30 q q q q (W.fin ?_);refine W.st [(0,I64 a0),(1,I64 a1)] ?_;refine W.sq'<|W.rx [(0,_),(1,_)] (Vk q<|Fi (tn2 q q)) ?_;refine Px.sq<|W.sq' ?_;obtain ⟨x1,hx1,h⟩:=bnd h;refine W.rx [(1,_),(5,_)] (Vm q<|Vm q<|Rv (O.rem (.lit q) (.lit q) hx1)<|Va q<|Fi (tn2 q q)) ?_;refine Px.sq<|W.sq' ?_;refine W.sq'<|W.rx [(1,_),(5,_),(10,_)] (Vm q<|Rv (O.lss (.lit q) (.k q))<|Fi (tn3 q q q)) ?_;refine Px.sq ?_;obtain ⟨j2,hj,h⟩:=bnd h;refine W.jn [(5,I64 j2)] ?_ ?_
 ·clear h; have h:=hj; clear hj;refine W.cnd q (fun hb3=>?_) (fun hb3=>?_)
  ·replace h:=cndT hb3 h;refine W.rx [(5,_)] (Vm q<|Vm q<|Rv (O.add (.lit q) (.lit q))<|RunL.re (G1:=[(13,_)]) (.n q .nil)<|Va q<|Fi (.n q .nil)) ?_;obtain rfl:=sm h;exact Px.jn (.n q .nil)
  ·replace h:=cndF hb3 h;refine W.sk ?_;obtain rfl:=sm h;exact Px.jn (.n q .nil)
 refine Px.sq<|W.sq' ?_;refine W.rx [(4,_)] (Vm q<|Va q<|Fi (.n q .nil)) ?_;refine Px.sq<|W.rt ?_;obtain rfl:=sm h;exact Px.fin (Fin.ro (.f q q .nil) q (ode (by kernel_rfl)) (.no (.no .nil)) q (.inr q))
theorem con37  (r:Bool) (h:pf37 =some r):Con Try.prog 37 [] [] (BB r):=by
 unfold pf37 at h;refine Con.go (N:=⟨40,[]⟩) Try.func37 q q q q (W.fin ?_);refine W.st [] ?_;refine W.sq'<|W.rx [] (Vk q<|Fi .nil) ?_;refine Px.sq<|W.sq' ?_;obtain ⟨x1,hx1,h⟩:=bnd h;refine W.rx [(1,_)] (Rv (O.bu (cs:=[I64 0,I64 5]) sc61 ze61 q q q)<|Rv (O.bu (cs:=[I64 2,I64 6]) sc61 ze61 q q q)<|RunL.vi (x:=iR ePair [(⟨0,5⟩:Pair),(⟨2,6⟩:Pair)]) (O.bs (ys:=[.agg [I64 0,I64 5],.agg [I64 2,I64 6]]) ePair [(⟨0,5⟩:Pair),(⟨2,6⟩:Pair)] sl53 q q q q q q zt61 q q) q q .none<|Rv (O.bu (cs:=[I64 1,I64 7]) sc61 ze61 q q q)<|RunL.vi (x:=iR ePair [(⟨1,7⟩:Pair)]) (O.bs (ys:=[.agg [I64 1,I64 7]]) ePair [(⟨1,7⟩:Pair)] sl53 q q q q q q zt61 q q) q q .none<|RunL.vi (x:=iR (eM ePair) [[(⟨0,5⟩:Pair),(⟨2,6⟩:Pair)],[(⟨1,7⟩:Pair)]]) (O.bs (ys:=[iR ePair [(⟨0,5⟩:Pair),(⟨2,6⟩:Pair)],iR ePair [(⟨1,7⟩:Pair)]]) (eM ePair) [[(⟨0,5⟩:Pair),(⟨2,6⟩:Pair)],[(⟨1,7⟩:Pair)]] sl78 q q q q q q zt53 q q) q q .none<|Rc (PC.go (.cc (.imm q) .nil) (con41 [[(⟨0,5⟩:Pair),(⟨2,6⟩:Pair)],[(⟨1,7⟩:Pair)]] _ hx1) call41 q)<|Rv (O.al (cs:=[.nils,.nils,.nils]) ze83 q q)<|RunL.ef (G2:=[(1,.obj (eComb_0.cells x1))]) q (EO.stB (y':=.agg [iR eI x1.Base,iR eI x1.Val,iR eI x1.Chk]) (cs2:=[iR eI x1.Base,iR eI x1.Val,iR eI x1.Chk]) q q (.obj q) (.agg q q) (.ag (.r q (.r q (.r q .nil))) .nil) (FzL.agg (.z (.z (.z .nil)))) q sz83 q q q q q (.b q .nil))<|Fi (.n q .nil)) ?_;refine Px.sq<|W.sq' ?_;obtain ⟨x2,hx2,h⟩:=bnd h;refine W.rx [(1,_),(2,_),(3,_)] (Rv (O.ldON (cs':=[iR eI x1.Base,iR eI x1.Val,iR eI x1.Chk]) q (.obj q) at83 q q)<|Rc (PC.go (.cc (.aggF q q) (.cc (.k q) (.cc (.k q) .nil))) (con44 x1 1 1 _ hx2) call44 q)<|Rv (O.mv (.tupF q q))<|Rv (O.ex (y:=I64 x2.1) q q q)<|Rv (O.ex (y:=BB x2.2) q q q)<|Va q<|Va q<|Fi (tn3 q q q)) ?_;refine Px.sq<|W.sq' ?_;obtain ⟨x3,hx3,h⟩:=bnd h;refine W.rx [(1,_),(2,_),(3,_),(5,_)] (Rv (O.ldON (cs':=[iR eI x1.Base,iR eI x1.Val,iR eI x1.Chk]) q (.obj q) at83 q q)<|Rc (PC.go (.cc (.aggF q q) (.cc (.k q) (.cc (.k q) .nil))) (con44 x1 1 0 _ hx3) call44 q)<|Rv (O.mv (.tupF q q))<|Rv (O.ex (y:=I64 x3.1) q q q)<|Rv (O.ex (y:=BB x3.2) q q q)<|Va q<|Va q<|Fi (tn4 q q q q)) ?_;refine Px.sq<|W.sq' ?_;obtain ⟨c8,hj,h⟩:=bnd h;refine W.rx [(0,BB c8)] ?_ ?_
 ·refine Rv (O.ldON (cs':=[iR eI x1.Base,iR eI x1.Val,iR eI x1.Chk]) q (.obj q) at83 q q)<|RunL.vi (x:=iR eI [0,0]) (O.bs (ys:=[I64 0,I64 0]) eI [0,0] sl33 q q q q q q zt3 q q) q q .none<|RunL.vi (x:=iR eI [5,7,6]) (O.bs (ys:=[I64 5,I64 7,I64 6]) eI [5,7,6] sl33 q q q q q q zt3 q q) q q .none<|RunL.vi (x:=iR eI [1,2,1]) (O.bs (ys:=[I64 1,I64 2,I64 1]) eI [1,2,1] sl33 q q q q q q zt3 q q) q q .none<|Rv (O.bu (cs:=[iR eI [0,0],iR eI [5,7,6],iR eI [1,2,1]]) sc83 ze83 q q q) ?_;obtain ⟨x4,hx4,hj⟩:=bnd hj;refine Rc (PC.go (.cc (.aggF q q) (.cc (.aggF q q) .nil)) (con40 x1 (⟨[0,0],[5,7,6],[1,2,1]⟩:Comb) _ hx4) call40 q)<|Rv (O.mv (.lit q)) ?_;rcases cnd hj with ⟨hb5,hj⟩ | ⟨hb5,hj⟩
  ·refine RunL.v (O.mv (.lit q)) q q (.yb q q hb5)<|RunL.v (O.eql (.lit q) (.k q)) q q (.yb q q hb5)<|Rv (O.pkT (.lit q) hb5 (.lit q))<|Rv (O.mv (.lit q)) ?_;rcases cnd hj with ⟨hb6,hj⟩ | ⟨hb6,hj⟩
   ·refine RunL.v (O.mv (.lit q)) q q (.yb q q hb6)<|Rv (O.pkT (.lit q) hb6 (.lit q))<|Rv (O.mv (.lit q)) ?_;rcases cnd hj with ⟨hb7,hj⟩ | ⟨hb7,hj⟩
    ·obtain rfl:=sm hj;exact RunL.v (O.mv (.lit q)) q q (.yb q q hb7)<|RunL.v (O.not (.lit q)) q q (.yb q q hb7)<|Rv (O.pkT (.lit q) hb7 (.lit q))<|Va q<|Fi (.n q .nil)
    ·obtain rfl:=sm hj;exact RunL.ps q q hb7 q q<|RunL.ps q q hb7 q q<|Rv (O.pkF (.lit q) hb7 (.k q))<|Va q<|Fi (.n q .nil)
   ·obtain rfl:=sm hj;exact RunL.ps q q hb6 q q<|Rv (O.pkF (.lit q) hb6 (.k q))<|Vm q<|RunL.ps q q q q q<|RunL.ps q q q q q<|Rv (O.pkF (.lit q) q (.k q))<|Va q<|Fi (.n q .nil)
  ·obtain rfl:=sm hj;exact RunL.ps q q hb5 q q<|RunL.ps q q hb5 q q<|Rv (O.pkF (.lit q) hb5 (.k q))<|Vm q<|RunL.ps q q q q q<|Rv (O.pkF (.lit q) q (.k q))<|Vm q<|RunL.ps q q q q q<|RunL.ps q q q q q<|Rv (O.pkF (.lit q) q (.k q))<|Va q<|Fi (.n q .nil)
 refine Px.sq<|W.rt ?_;obtain rfl:=sm h;exact Px.fin (Fin.ro (.f q q .nil) q (ode (by kernel_rfl)) .nil q (.inr q))
theorem con13 (a0:Int) (a1:Int) (a2:Int) (r:Bool) (h:pf13 a0 a1 a2=some r):Con Try.prog 13 [I64 a0,I64 a1,I64 a2] [none,none,none] (BB r):=by
 unfold pf13 at h;refine Con.go (N:=⟨135,[]⟩) Try.func13 q q q q (W.fin ?_);refine W.st [(0,I64 a0),(1,I64 a1),(2,I64 a2)] ?_;refine W.sq'<|W.rx [(0,_),(1,_),(2,_)] (Vk q<|Fi (tn3 q q q)) ?_;refine Px.sq<|W.sq' ?_;refine W.sq' ?_;obtain ⟨x1,hx1,h⟩:=bnd h;refine W.rx [(0,_),(1,_),(2,_),(15,_)] (Rc (PC.go .nil (con37  _ hx1) call37 q)<|Rv (O.not (.lit q))<|Fi (tn4 q q q q)) ?_;refine Px.sq<|W.cnd q (fun hb2=>?_) (fun hb2=>?_)
 ·replace h:=cndT hb2 h;refine W.sq'<|W.rx [(6,_)] (Vk q<|Fi (.n q .nil)) ?_;refine Px.sq<|W.rt ?_;refine Px.sqR ?_;obtain rfl:=sm h;exact Px.fin (Fin.ro (.f q q .nil) q (ode (by kernel_rfl)) (.no (.no (.no .nil))) q (.inr q))
 ·replace h:=cndF hb2 h;refine W.sk<|Px.sq ?_;refine W.sq' ?_;obtain ⟨x3,hx3,h⟩:=bnd h;obtain ⟨x4,hx4,h⟩:=bnd h;refine W.rx [(0,_),(1,_),(2,_)] (Vm q<|Rc (PC.go (.cc (.lit q) (.cc (.k q) .nil)) (con30 a0 5 _ hx3) call30 q)<|Rv (O.add (.k q) (.lit q))<|Vm q<|Rc (PC.go (.cc (.lit q) (.cc (.k q) .nil)) (con30 a1 30 _ hx4) call30 q)<|Rv (O.add (.k q) (.lit q))<|RunL.re (G1:=[(2,_),(18,_),(21,_)]) (tn3 q q q)<|Va q<|Va q<|Fi (tn3 q q q)) ?_;refine Px.sq<|W.sq' ?_;refine W.rx [(0,_),(1,_),(2,_),(7,_)] (Rv (O.az .knil)<|Fi (tn4 q q q q)) ?_;refine Px.sq<|W.sq' ?_;refine W.sq'<|W.rx [(0,_),(1,_),(2,_),(7,_),(8,_)] (Vk q<|Fi (tn5 q q q q q)) ?_;refine Px.sq<|W.bk ?_;obtain ⟨x6,hl,h⟩:=bnd h;refine W.tr (G1:=[(0,_),(1,_),(2,_),(7,oR (eM ePair) ([]:List (List Pair))),(8,_)]) (.n q (.n q (.n q (.w q q .nilOwn (.n q .nil))))) ?_;refine W.lp1 (s:=(([]:List (List Pair)),0)) (fun (s5:List (List Pair) × Int)=>[(0,I64 (w64 (1+x3))),(1,I64 (w64 (1+x4))),(2,I64 a2),(7,oR (eM ePair) s5.1),(8,I64 s5.2)]) 0 (fun (x6:List (List Pair))=>[(0,I64 (w64 (1+x3))),(1,I64 (w64 (1+x4))),(2,I64 a2),(7,oR (eM ePair) x6)]) hl (fun s5 o h=>?_) ?_
  ·clear hl;refine W.sq'<|W.sq' ?_;refine W.rx [(0,_),(1,_),(2,_),(7,_),(8,_),(24,_)] (Vm q<|Vm q<|Rv (O.lss (.lit q) (.lit q))<|Fi (tn6 q q q q q q)) ?_;refine Px.sq<|W.cnd q (fun hb8=>?_) (fun hb8=>?_)
   ·replace h:=cndT hb8 h;refine W.sk<|Px.sq ?_;refine W.sq'<|W.bk ?_;refine W.sq'<|W.rx [(0,_),(1,_),(2,_),(7,_),(8,_),(9,_)] (Rv (O.az .knil)<|Fi (tn6 q q q q q q)) ?_;refine Px.sq<|W.sq' ?_;refine W.sq'<|W.rx [(0,_),(1,_),(2,_),(7,_),(8,_),(9,_),(10,_)] (Vk q<|Fi (tn7 q q q q q q q)) ?_;refine Px.sq<|W.bk ?_;obtain ⟨x10,hl,h⟩:=bnd h;refine W.tr (G1:=[(0,_),(1,_),(2,_),(7,_),(8,_),(9,oR ePair ([]:List Pair)),(10,_)]) (.n q (.n q (.n q (.n q (.n q (.w q q .nilOwn (.n q .nil))))))) ?_;refine W.lp1 (s:=(([]:List Pair),0)) (fun (s9:List Pair × Int)=>[(0,I64 (w64 (1+x3))),(1,I64 (w64 (1+x4))),(2,I64 a2),(7,oR (eM ePair) s5.1),(8,I64 s5.2),(9,oR ePair s9.1),(10,I64 s9.2)]) 2 (fun (x10:List Pair)=>[(0,I64 (w64 (1+x3))),(1,I64 (w64 (1+x4))),(2,I64 a2),(7,oR (eM ePair) s5.1),(8,I64 s5.2),(9,oR ePair x10)]) hl (fun s9 o h=>?_) ?_
    ·clear hl;refine W.sq'<|W.sq' ?_;refine W.rx [(0,_),(1,_),(2,_),(7,_),(8,_),(9,_),(10,_),(29,_)] (Vm q<|Vm q<|Rv (O.lss (.lit q) (.lit q))<|Fi (tn8 q q q q q q q q)) ?_;refine Px.sq<|W.cnd q (fun hb12=>?_) (fun hb12=>?_)
     ·replace h:=cndT hb12 h;refine W.sk<|Px.sq ?_;refine W.sq'<|W.bk ?_;obtain ⟨x13,hx13,h⟩:=bnd h;refine W.rx [(0,_),(1,_),(2,_),(7,_),(8,_),(9,_),(10,_)] (Rv (O.mv (.own q))<|Vm q<|Vm q<|Rv (O.neg (.lit q))<|Rv (O.bu (cs:=[I64 s9.2,I64 (w64 (-s5.2))]) sc61 ze61 q q q)<|RunL.vi (x:=iR ePair [(⟨s9.2,w64 (-s5.2)⟩:Pair)]) (O.bs (ys:=[.agg [I64 s9.2,I64 (w64 (-s5.2))]]) ePair [(⟨s9.2,w64 (-s5.2)⟩:Pair)] sl53 q q q q q q zt61 q q) q q .none<|Rv (O.ap (en:=ePair) (r:=x13) (.brw q) q (.imm q) .i ap53 q hx13)<|RunL.ea (G2:=[(0,I64 (w64 (1+x3))),(1,I64 (w64 (1+x4))),(2,I64 a2),(7,oR (eM ePair) s5.1),(8,I64 s5.2),(10,I64 s9.2)]) q (EO.aP q q (.pend q) q q q (.n q q (.n q q (.n q q (.n q q (.n q q (.n q q .nil)))))) q q)<|Fi (tn7 q q q q q q q)) ?_;refine Px.bk ?_;refine Px.sq<|W.rx [(0,_),(1,_),(2,_),(7,_),(8,_),(9,_),(10,_)] (Vm q<|Rv (O.add (.lit q) (.k q))<|RunL.re (G1:=[(0,_),(1,_),(2,_),(7,_),(8,_),(9,_),(31,_)]) (tn7 q q q q q q q)<|Va q<|Fi (tn7 q q q q q q q)) ?_;obtain rfl:=sm h;exact Px.go (tn7 q q q q q q q)
     ·replace h:=cndF hb12 h;refine W.xi ?_;refine Px.sqE ?_;obtain rfl:=sm h;exact Px.x1 (tn6 q q q q q q)
    refine Px.bkH ?_;refine Px.sq ?_;obtain ⟨x14,hx14,h⟩:=bnd h;refine W.rx [(0,_),(1,_),(2,_),(7,_),(8,_)] (Rv (O.mv (.own q))<|Rv (O.mv (.own q))<|Rv (O.bsL (ys:=[.brw ePair.z ⟨9,[]⟩ x10.length]) (cs:=[.brw ePair.z ⟨9,[]⟩ x10.length]) sl78 q q q q q zt53 q q)<|Rv (O.apL (en:=(eM ePair)) (M:=[x10]) (r:=x14) (.brw q) q (.own q) q q q q ap78 q hx14)<|RunL.ea (G2:=[(0,I64 (w64 (1+x3))),(1,I64 (w64 (1+x4))),(2,I64 a2),(8,I64 s5.2)]) q (EO.apG (M:=[x10]) q q (.pend q) q q q (.r q .nil) (.z .nil) q q (tn4 q q q q) q q)<|Fi (tn5 q q q q q)) ?_;refine Px.bk ?_;refine Px.sq<|W.rx [(0,_),(1,_),(2,_),(7,_),(8,_)] (Vm q<|Rv (O.add (.lit q) (.k q))<|RunL.re (G1:=[(0,_),(1,_),(2,_),(7,_),(26,_)]) (tn5 q q q q q)<|Va q<|Fi (tn5 q q q q q)) ?_;obtain rfl:=sm h;exact Px.go (tn5 q q q q q)
   ·replace h:=cndF hb8 h;refine W.xi ?_;refine Px.sqE ?_;obtain rfl:=sm h;exact Px.x1 (tn4 q q q q)
  refine Px.bkH ?_;refine Px.sq<|W.sq' ?_;obtain ⟨x15,hx15,h⟩:=bnd h;refine W.rx [(0,_),(1,_),(2,_),(7,_),(11,_)] (Rv (O.mv (.own q))<|Rc (PC.vw (ys:=[.brw (eM ePair).z ⟨7,[]⟩ x6.length]) q (.c (.row q) .nil) (con41 x6 _ hx15) call41 q)<|Rv (O.al (cs:=[.nils,.nils,.nils]) ze83 q q)<|RunL.ef (G2:=[(0,I64 (w64 (1+x3))),(1,I64 (w64 (1+x4))),(2,I64 a2),(7,oR (eM ePair) x6),(11,.obj (eComb_0.cells x15))]) q (EO.stB (y':=.agg [iR eI x15.Base,iR eI x15.Val,iR eI x15.Chk]) (cs2:=[iR eI x15.Base,iR eI x15.Val,iR eI x15.Chk]) q q (.obj q) (.agg q q) (.ag (.r q (.r q (.r q .nil))) .nil) (FzL.agg (.z (.z (.z .nil)))) q sz83 q q q q q (.n q q (.n q q (.n q q (.n q q (.b q .nil))))))<|Fi (tn5 q q q q q)) ?_;refine Px.sq<|W.sq' ?_;refine W.sq' ?_;obtain ⟨c17,hj,h⟩:=bnd h;refine W.rx [(0,I64 (w64 (1+x3))),(1,I64 (w64 (1+x4))),(2,I64 a2),(7,oR (eM ePair) x6),(11,.obj (eComb_0.cells x15)),(58,BB c17)] ?_ ?_
  ·refine Rv (O.fO q (.obj q) fd83_0 q)<|Rv (O.ldO (y:=iR eI x15.Base) q (.ptr q) ct33 q q)<|Rv (O.lenI (.imm q) sl33)<|Vm q<|Rv (O.neq (.lit q) (.lit q))<|Rv (O.mv (.lit q)) ?_;rcases cnd hj with ⟨hb16,hj⟩ | ⟨hb16,hj⟩
   ·obtain rfl:=sm hj;exact RunL.ps q q hb16 q q<|RunL.ps q q hb16 q q<|RunL.ps q q hb16 q q<|RunL.ps q q hb16 q q<|RunL.ps q q hb16 q q<|RunL.ps q q hb16 q q<|RunL.ps q q hb16 q q<|Rv (O.pkT (.lit q) hb16 (.k q))<|Fi (tn6 q q q q q q)
   ·obtain rfl:=sm hj;exact RunL.v (O.fO q (.obj q) fd83_2 q) q q (.yb q q hb16)<|RunL.v (O.ldO (y:=iR eI x15.Chk) q (.ptr q) ct33 q q) q q (.yb q q hb16)<|RunL.v (O.lenI (.imm q) sl33) q q (.yb q q hb16)<|RunL.v (O.mv (.lit q)) q q (.yb q q hb16)<|RunL.v (O.mv (.lit q)) q q (.yb q q hb16)<|RunL.v (O.mul (.lit q) (.lit q)) q q (.yb q q hb16)<|RunL.v (O.neq (.lit q) (.lit q)) q q (.yb q q hb16)<|Rv (O.pkF (.lit q) hb16 (.lit q))<|Fi (tn6 q q q q q q)
  refine Px.sq<|W.cnd q (fun hb18=>?_) (fun hb18=>?_)
  ·replace h:=cndT hb18 h;refine W.sq'<|W.rx [(6,_)] (Vk q<|Fi (.n q .nil)) ?_;refine Px.sq<|W.rt ?_;refine Px.sqR ?_;obtain rfl:=sm h;exact Px.fin (Fin.ro (.f q q .nil) q (ode (by kernel_rfl)) (.no (.no (.no .nil))) q (.inr q))
  ·replace h:=cndF hb18 h;refine W.sk<|Px.sq ?_;refine W.sq'<|W.sq' ?_;refine W.rx [(0,_),(1,_),(2,_),(7,_),(11,_),(12,_)] (Vk q<|Fi (tn6 q q q q q q)) ?_;refine Px.sq<|W.bk ?_;obtain ⟨x20,hl,h⟩:=bnd h;refine W.tr (G1:=[(0,_),(1,_),(2,_),(7,_),(11,_),(12,_)]) (tn6 q q q q q q) ?_;refine W.lp2 (s:=0) (fun (s19:Int)=>[(0,I64 (w64 (1+x3))),(1,I64 (w64 (1+x4))),(2,I64 a2),(7,oR (eM ePair) x6),(11,.obj (eComb_0.cells x15)),(12,I64 s19)]) 4 (fun (x21:Unit)=>[(0,I64 (w64 (1+x3))),(1,I64 (w64 (1+x4))),(2,I64 a2),(7,oR (eM ePair) x6),(11,.obj (eComb_0.cells x15))]) (fun (x22:Bool)=>[(6,BB x22)]) hl (fun s19 o h=>?_) (fun x21 hx=>?_) (fun x22 hx=>?_)
   ·clear hl;refine W.sq'<|W.sq' ?_;refine W.rx [(0,_),(1,_),(2,_),(7,_),(11,_),(12,_),(61,_)] (Vm q<|Vm q<|Rv (O.lss (.lit q) (.lit q))<|Fi (tn7 q q q q q q q)) ?_;refine Px.sq<|W.cnd q (fun hb23=>?_) (fun hb23=>?_)
    ·replace h:=cndT hb23 h;refine W.sk<|Px.sq ?_;refine W.sq'<|W.bk ?_;refine W.sq' ?_;obtain ⟨x24,hx24,h⟩:=bnd h;refine W.rx [(0,_),(1,_),(2,_),(7,_),(11,_),(12,_),(72,_)] (Rv (O.fO q (.obj q) fd83_0 q)<|Rv (O.ldO (y:=iR eI x15.Base) q (.ptr q) ct33 q q)<|Vm q<|Rv (O.ixI (.imm q) (.lit q) sl33 hx24)<|Rv (O.ldI (x:=I64 x24) (.iptr q) ct3 q)<|Vm q<|Vm q<|Rv (O.mul (.lit q) (.lit q))<|Rv (O.neq (.lit q) (.lit q))<|Fi (tn7 q q q q q q q)) ?_;refine Px.sq<|W.cnd q (fun hb25=>?_) (fun hb25=>?_)
     ·replace h:=cndT hb25 h;refine W.sq'<|W.rx [(6,_)] (Vk q<|Fi (.n q .nil)) ?_;refine Px.sq<|W.rt ?_;refine Px.bkR ?_;refine Px.sqR ?_;obtain rfl:=sm h;exact Px.r2 (.n q .nil)
     ·replace h:=cndF hb25 h;refine W.sk<|Px.bk ?_;refine Px.sq<|W.rx [(0,_),(1,_),(2,_),(7,_),(11,_),(12,_)] (Vm q<|Rv (O.add (.lit q) (.k q))<|RunL.re (G1:=[(0,_),(1,_),(2,_),(7,_),(11,_),(63,_)]) (tn6 q q q q q q)<|Va q<|Fi (tn6 q q q q q q)) ?_;obtain rfl:=sm h;exact Px.go (tn6 q q q q q q)
    ·replace h:=cndF hb23 h;refine W.xi ?_;refine Px.sqE ?_;obtain rfl:=sm h;exact Px.x2 (tn5 q q q q q)
   ·subst hx;refine Px.bkH ?_;refine Px.sq<|W.sq' ?_;refine W.bk ?_;obtain ⟨x27,hl,h⟩:=bnd h;refine W.tr (G1:=[(0,_),(1,_),(2,_),(7,_),(11,_)]) (tn5 q q q q q) ?_;refine W.lp1 (s:=x6) (fun (s26:List (List Pair))=>[(0,I64 (w64 (1+x3))),(1,I64 (w64 (1+x4))),(2,I64 a2),(7,oR (eM ePair) s26),(11,.obj (eComb_0.cells x15))]) 6 (fun (x27:List (List Pair))=>[(0,I64 (w64 (1+x3))),(1,I64 (w64 (1+x4))),(2,I64 a2),(7,oR (eM ePair) x27),(11,.obj (eComb_0.cells x15))]) hl (fun s26 o h=>?_) ?_
    ·clear hl;refine W.sq'<|W.sq' ?_;refine W.rx [(0,_),(1,_),(2,_),(7,_),(11,_),(75,_)] (Rv (O.mv (.own q))<|Rv (O.lenO (.brw q) sl78)<|Rv (O.lss (.lit q) (.k q))<|Fi (tn6 q q q q q q)) ?_;refine Px.sq<|W.cnd q (fun hb29=>?_) (fun hb29=>?_)
     ·replace h:=cndT hb29 h;refine W.sk<|Px.sq ?_;refine W.bk ?_;obtain ⟨x30,hx30,h⟩:=bnd h;refine W.rx [(0,_),(1,_),(2,_),(7,_),(11,_)] (Rv (O.mv (.own q))<|Rv (O.bsL (ys:=[.nils]) (cs:=[.nils]) sl78 q q q q q zt53 q q)<|Rv (O.apL (en:=(eM ePair)) (M:=[([]:List Pair)]) (r:=x30) (.brw q) q (.own q) q q q q ap78 q hx30)<|RunL.ea (G2:=[(0,I64 (w64 (1+x3))),(1,I64 (w64 (1+x4))),(2,I64 a2),(11,.obj (eComb_0.cells x15))]) q (EO.apG (M:=[([]:List Pair)]) q q (.pend q) q q q (.f .nil) (.z .nil) q q (tn4 q q q q) q q)<|Fi (tn5 q q q q q)) ?_;refine Px.bk ?_;obtain rfl:=sm h;exact Px.go (tn5 q q q q q)
     ·replace h:=cndF hb29 h;refine W.xi ?_;refine Px.sqE ?_;obtain rfl:=sm h;exact Px.x1 (tn5 q q q q q)
    refine Px.bkH ?_;refine Px.sq<|W.sq' ?_;refine W.rx [(0,_),(1,_),(2,_),(7,_),(11,_),(13,_)] (Rv (O.bu (cs:=[I64 999,I64 1]) sc61 ze61 q q q)<|Rv (O.bs (ys:=[.agg [I64 999,I64 1]]) ePair [(⟨999,1⟩:Pair)] sl53 q q q q q q zt61 q q)<|RunL.ea (G2:=[(0,I64 (w64 (1+x3))),(1,I64 (w64 (1+x4))),(2,I64 a2),(7,oR (eM ePair) x27),(11,.obj (eComb_0.cells x15))]) q (EO.aR q q (.own q) q (.n q q (.n q q (.n q q (.n q q (.n q q .nil))))) q q)<|Fi (tn6 q q q q q q)) ?_;refine Px.sq<|W.sq' ?_;refine W.sq' ?_;obtain ⟨x31,hx31,h⟩:=bnd h;refine W.rx [(0,_),(1,_),(7,_),(11,_),(13,_),(82,_)] (Vm q<|Rc (PC.go (.cc (.lit q) (.cc (.k q) .nil)) (con30 a2 5 _ hx31) call30 q)<|Fi (tn6 q q q q q q)) ?_;refine Px.sq<|W.bk ?_;refine W.sq'<|W.rx [(0,_),(1,_),(7,_),(11,_),(13,_),(82,_),(107,_)] (Rv (O.eql (.lit q) (.k q))<|Va q<|Fi (tn7 q q q q q q q)) ?_;refine Px.sq<|W.cnd q (fun hb32=>?_) (fun hb32=>?_)
    ·replace h:=cndT hb32 h;obtain ⟨x33,hx33,h⟩:=bnd h;refine W.rx [(7,_),(13,_)] (Rv (O.mv (.own q))<|Rv (O.ixO (en:=ePair) q (.brw q) (.k q) sl53 hx33 q)<|Rv (O.fE (en:=ePair) q (.ptr q) fd61_0 hx33 q q)<|RunL.ef (G2:=[(7,oR (eM ePair) x27),(13,oR ePair ([(⟨999,1⟩:Pair)].set (0:Int).toNat (⟨1000,x33.Val⟩:Pair)))]) q (EO.stE (en:=ePair) (y2:=(⟨1000,x33.Val⟩:Pair)) (cs':=[I64 1000]) (x2:=oR ePair ([(⟨999,1⟩:Pair)].set (0:Int).toNat (⟨1000,x33.Val⟩:Pair))) q q (.ptr q) (.k q) q hx33 sz3 q q q q q q q (.n q q (.b q .nil)))<|Fi (tn2 q q)) ?_;refine Px.bk ?_;refine Px.sq<|W.sq' ?_;refine W.fz (G1:=[(7,_),(13,iR ePair ([(⟨999,1⟩:Pair)].set (0:Int).toNat (⟨1000,x33.Val⟩:Pair)))]) [13] (.n q q (.z q q .zz .nil)) ?_;obtain ⟨x34,hx34,h⟩:=bnd h;obtain ⟨x35,hx35,h⟩:=bnd h;obtain ⟨x36,hx36,h⟩:=bnd h;refine W.rx [(6,_)] (Rv (O.mv (.own q))<|Rv (O.mv (.imm q))<|RunL.vi (x:=iR (eM ePair) [[(⟨999,1⟩:Pair)].set (0:Int).toNat (⟨1000,x33.Val⟩:Pair)]) (O.bs (ys:=[iR ePair ([(⟨999,1⟩:Pair)].set (0:Int).toNat (⟨1000,x33.Val⟩:Pair))]) (eM ePair) [[(⟨999,1⟩:Pair)].set (0:Int).toNat (⟨1000,x33.Val⟩:Pair)] sl78 q q q q q q zt53 q q) q q .none<|Rv (O.ap (en:=(eM ePair)) (r:=x34) (.brw q) q (.imm q) .i ap78 q hx34)<|Rc (PC.vw (ys:=[.brw (eM ePair).z ⟨131,[]⟩ (x27.length+[[(⟨999,1⟩:Pair)].set (0:Int).toNat (⟨1000,x33.Val⟩:Pair)].length)]) q (.c (View.pd (e:=(eM ePair)) (L:=x27) (M:=[[(⟨999,1⟩:Pair)].set (0:Int).toNat (⟨1000,x33.Val⟩:Pair)]) q q) .nil) (con41 (x27++[[(⟨999,1⟩:Pair)].set (0:Int).toNat (⟨1000,x33.Val⟩:Pair)]) _ hx35) call41 q)<|RunL.vi (x:=.agg [iR eI ([]:List Int),iR eI ([]:List Int),iR eI ([]:List Int)]) (O.bu (cs:=[.nils,.nils,.nils]) sc83 ze83 q q q) q q .none<|Rc (PC.vw (ys:=[.agg [.brw eI.z ⟨132,[0]⟩ x35.Base.length,.brw eI.z ⟨132,[1]⟩ x35.Val.length,.brw eI.z ⟨132,[2]⟩ x35.Chk.length],.agg [iR eI ([]:List Int),iR eI ([]:List Int),iR eI ([]:List Int)]]) q (.c (.ag (.c (.row q) (.c (.row q) (.c (.row q) .nil)))) (.c (.ag (.s (.s (.s .nil)))) .nil)) (con40 x35 (⟨([]:List Int),([]:List Int),([]:List Int)⟩:Comb) _ hx36) call40 q)<|Va q<|Fi (.n q .nil)) ?_;refine Px.sq<|W.rt ?_;obtain rfl:=sm h;exact Px.fin (Fin.ro (.f q q .nil) q (ode (by kernel_rfl)) (.no (.no (.no .nil))) q (.inr q))
    ·replace h:=cndF hb32 h;refine W.sq'<|W.rx [(0,_),(1,_),(7,_),(11,_),(13,_),(82,_),(112,_)] (Rv (O.eql (.lit q) (.k q))<|Va q<|Fi (tn7 q q q q q q q)) ?_;refine Px.sq<|W.cnd q (fun hb37=>?_) (fun hb37=>?_)
     ·replace h:=cndT hb37 h;obtain ⟨x38,hx38,h⟩:=bnd h;refine W.rx [(7,_),(13,_)] (Rv (O.mv (.own q))<|Rv (O.ixO (en:=ePair) q (.brw q) (.k q) sl53 hx38 q)<|Rv (O.fE (en:=ePair) q (.ptr q) fd61_0 hx38 q q)<|RunL.ef (G2:=[(7,oR (eM ePair) x27),(13,oR ePair ([(⟨999,1⟩:Pair)].set (0:Int).toNat (⟨(-1),x38.Val⟩:Pair)))]) q (EO.stE (en:=ePair) (y2:=(⟨(-1),x38.Val⟩:Pair)) (cs':=[I64 (-1)]) (x2:=oR ePair ([(⟨999,1⟩:Pair)].set (0:Int).toNat (⟨(-1),x38.Val⟩:Pair))) q q (.ptr q) (.k q) q hx38 sz3 q q q q q q q (.n q q (.b q .nil)))<|Fi (tn2 q q)) ?_;refine Px.bk ?_;refine Px.sq<|W.sq' ?_;refine W.fz (G1:=[(7,_),(13,iR ePair ([(⟨999,1⟩:Pair)].set (0:Int).toNat (⟨(-1),x38.Val⟩:Pair)))]) [13] (.n q q (.z q q .zz .nil)) ?_;obtain ⟨x39,hx39,h⟩:=bnd h;obtain ⟨x40,hx40,h⟩:=bnd h;obtain ⟨x41,hx41,h⟩:=bnd h;refine W.rx [(6,_)] (Rv (O.mv (.own q))<|Rv (O.mv (.imm q))<|RunL.vi (x:=iR (eM ePair) [[(⟨999,1⟩:Pair)].set (0:Int).toNat (⟨(-1),x38.Val⟩:Pair)]) (O.bs (ys:=[iR ePair ([(⟨999,1⟩:Pair)].set (0:Int).toNat (⟨(-1),x38.Val⟩:Pair))]) (eM ePair) [[(⟨999,1⟩:Pair)].set (0:Int).toNat (⟨(-1),x38.Val⟩:Pair)] sl78 q q q q q q zt53 q q) q q .none<|Rv (O.ap (en:=(eM ePair)) (r:=x39) (.brw q) q (.imm q) .i ap78 q hx39)<|Rc (PC.vw (ys:=[.brw (eM ePair).z ⟨131,[]⟩ (x27.length+[[(⟨999,1⟩:Pair)].set (0:Int).toNat (⟨(-1),x38.Val⟩:Pair)].length)]) q (.c (View.pd (e:=(eM ePair)) (L:=x27) (M:=[[(⟨999,1⟩:Pair)].set (0:Int).toNat (⟨(-1),x38.Val⟩:Pair)]) q q) .nil) (con41 (x27++[[(⟨999,1⟩:Pair)].set (0:Int).toNat (⟨(-1),x38.Val⟩:Pair)]) _ hx40) call41 q)<|RunL.vi (x:=.agg [iR eI ([]:List Int),iR eI ([]:List Int),iR eI ([]:List Int)]) (O.bu (cs:=[.nils,.nils,.nils]) sc83 ze83 q q q) q q .none<|Rc (PC.vw (ys:=[.agg [.brw eI.z ⟨132,[0]⟩ x40.Base.length,.brw eI.z ⟨132,[1]⟩ x40.Val.length,.brw eI.z ⟨132,[2]⟩ x40.Chk.length],.agg [iR eI ([]:List Int),iR eI ([]:List Int),iR eI ([]:List Int)]]) q (.c (.ag (.c (.row q) (.c (.row q) (.c (.row q) .nil)))) (.c (.ag (.s (.s (.s .nil)))) .nil)) (con40 x40 (⟨([]:List Int),([]:List Int),([]:List Int)⟩:Comb) _ hx41) call40 q)<|Va q<|Fi (.n q .nil)) ?_;refine Px.sq<|W.rt ?_;obtain rfl:=sm h;exact Px.fin (Fin.ro (.f q q .nil) q (ode (by kernel_rfl)) (.no (.no (.no .nil))) q (.inr q))
     ·replace h:=cndF hb37 h;refine W.sq'<|W.rx [(0,_),(1,_),(7,_),(11,_),(13,_),(82,_),(117,_)] (Rv (O.eql (.lit q) (.k q))<|Va q<|Fi (tn7 q q q q q q q)) ?_;refine Px.sq<|W.cnd q (fun hb42=>?_) (fun hb42=>?_)
      ·replace h:=cndT hb42 h;obtain ⟨x43,hx43,h⟩:=bnd h;refine W.rx [(7,_),(13,_)] (Rv (O.mv (.own q))<|Rv (O.bu (cs:=[I64 999,I64 2]) sc61 ze61 q q q)<|RunL.vi (x:=iR ePair [(⟨999,2⟩:Pair)]) (O.bs (ys:=[.agg [I64 999,I64 2]]) ePair [(⟨999,2⟩:Pair)] sl53 q q q q q q zt61 q q) q q .none<|Rv (O.ap (en:=ePair) (r:=x43) (.brw q) q (.imm q) .i ap53 q hx43)<|RunL.ea (G2:=[(7,oR (eM ePair) x27)]) q (EO.aP q q (.pend q) q q q (.n q q .nil) q q)<|Fi (tn2 q q)) ?_;refine Px.bk ?_;refine Px.sq<|W.sq' ?_;refine W.fz (G1:=[(7,_),(13,iR ePair ([(⟨999,1⟩:Pair)]++[(⟨999,2⟩:Pair)]))]) [13] (.n q q (.z q q .zz .nil)) ?_;obtain ⟨x44,hx44,h⟩:=bnd h;obtain ⟨x45,hx45,h⟩:=bnd h;obtain ⟨x46,hx46,h⟩:=bnd h;refine W.rx [(6,_)] (Rv (O.mv (.own q))<|Rv (O.mv (.imm q))<|RunL.vi (x:=iR (eM ePair) [[(⟨999,1⟩:Pair)]++[(⟨999,2⟩:Pair)]]) (O.bs (ys:=[iR ePair ([(⟨999,1⟩:Pair)]++[(⟨999,2⟩:Pair)])]) (eM ePair) [[(⟨999,1⟩:Pair)]++[(⟨999,2⟩:Pair)]] sl78 q q q q q q zt53 q q) q q .none<|Rv (O.ap (en:=(eM ePair)) (r:=x44) (.brw q) q (.imm q) .i ap78 q hx44)<|Rc (PC.vw (ys:=[.brw (eM ePair).z ⟨131,[]⟩ (x27.length+[[(⟨999,1⟩:Pair)]++[(⟨999,2⟩:Pair)]].length)]) q (.c (View.pd (e:=(eM ePair)) (L:=x27) (M:=[[(⟨999,1⟩:Pair)]++[(⟨999,2⟩:Pair)]]) q q) .nil) (con41 (x27++[[(⟨999,1⟩:Pair)]++[(⟨999,2⟩:Pair)]]) _ hx45) call41 q)<|RunL.vi (x:=.agg [iR eI ([]:List Int),iR eI ([]:List Int),iR eI ([]:List Int)]) (O.bu (cs:=[.nils,.nils,.nils]) sc83 ze83 q q q) q q .none<|Rc (PC.vw (ys:=[.agg [.brw eI.z ⟨132,[0]⟩ x45.Base.length,.brw eI.z ⟨132,[1]⟩ x45.Val.length,.brw eI.z ⟨132,[2]⟩ x45.Chk.length],.agg [iR eI ([]:List Int),iR eI ([]:List Int),iR eI ([]:List Int)]]) q (.c (.ag (.c (.row q) (.c (.row q) (.c (.row q) .nil)))) (.c (.ag (.s (.s (.s .nil)))) .nil)) (con40 x45 (⟨([]:List Int),([]:List Int),([]:List Int)⟩:Comb) _ hx46) call40 q)<|Va q<|Fi (.n q .nil)) ?_;refine Px.sq<|W.rt ?_;obtain rfl:=sm h;exact Px.fin (Fin.ro (.f q q .nil) q (ode (by kernel_rfl)) (.no (.no (.no .nil))) q (.inr q))
      ·replace h:=cndF hb42 h;refine W.sq'<|W.rx [(0,_),(1,_),(7,_),(11,_),(13,_),(123,_)] (Rv (O.eql (.lit q) (.k q))<|Va q<|Fi (tn6 q q q q q q)) ?_;refine Px.sq<|W.cnd q (fun hb47=>?_) (fun hb47=>?_)
       ·replace h:=cndT hb47 h;obtain ⟨x48,hx48,h⟩:=bnd h;refine W.rx [(7,_),(13,_)] (Rv (O.mv (.own q))<|Rv (O.bsL (ys:=[.nils]) (cs:=[.nils]) sl78 q q q q q zt53 q q)<|Rv (O.apL (en:=(eM ePair)) (M:=[([]:List Pair)]) (r:=x48) (.brw q) q (.own q) q q q q ap78 q hx48)<|RunL.ea (G2:=[(13,oR ePair [(⟨999,1⟩:Pair)])]) q (EO.apG (M:=[([]:List Pair)]) q q (.pend q) q q q (.f .nil) (.z .nil) q q (.n q .nil) q q)<|Fi (tn2 q q)) ?_;refine Px.bk ?_;refine Px.sq<|W.sq' ?_;refine W.fz (G1:=[(7,_),(13,iR ePair [(⟨999,1⟩:Pair)])]) [13] (.n q q (.z q q .zz .nil)) ?_;obtain ⟨x49,hx49,h⟩:=bnd h;obtain ⟨x50,hx50,h⟩:=bnd h;obtain ⟨x51,hx51,h⟩:=bnd h;refine W.rx [(6,_)] (Rv (O.mv (.own q))<|Rv (O.mv (.imm q))<|RunL.vi (x:=iR (eM ePair) [[(⟨999,1⟩:Pair)]]) (O.bs (ys:=[iR ePair [(⟨999,1⟩:Pair)]]) (eM ePair) [[(⟨999,1⟩:Pair)]] sl78 q q q q q q zt53 q q) q q .none<|Rv (O.ap (en:=(eM ePair)) (r:=x49) (.brw q) q (.imm q) .i ap78 q hx49)<|Rc (PC.vw (ys:=[.brw (eM ePair).z ⟨131,[]⟩ ((x27++[([]:List Pair)]).length+[[(⟨999,1⟩:Pair)]].length)]) q (.c (View.pd (e:=(eM ePair)) (L:=(x27++[([]:List Pair)])) (M:=[[(⟨999,1⟩:Pair)]]) q q) .nil) (con41 ((x27++[([]:List Pair)])++[[(⟨999,1⟩:Pair)]]) _ hx50) call41 q)<|RunL.vi (x:=.agg [iR eI ([]:List Int),iR eI ([]:List Int),iR eI ([]:List Int)]) (O.bu (cs:=[.nils,.nils,.nils]) sc83 ze83 q q q) q q .none<|Rc (PC.vw (ys:=[.agg [.brw eI.z ⟨132,[0]⟩ x50.Base.length,.brw eI.z ⟨132,[1]⟩ x50.Val.length,.brw eI.z ⟨132,[2]⟩ x50.Chk.length],.agg [iR eI ([]:List Int),iR eI ([]:List Int),iR eI ([]:List Int)]]) q (.c (.ag (.c (.row q) (.c (.row q) (.c (.row q) .nil)))) (.c (.ag (.s (.s (.s .nil)))) .nil)) (con40 x50 (⟨([]:List Int),([]:List Int),([]:List Int)⟩:Comb) _ hx51) call40 q)<|Va q<|Fi (.n q .nil)) ?_;refine Px.sq<|W.rt ?_;obtain rfl:=sm h;exact Px.fin (Fin.ro (.f q q .nil) q (ode (by kernel_rfl)) (.no (.no (.no .nil))) q (.inr q))
       ·replace h:=cndF hb47 h;refine W.sq'<|W.fz (G1:=[(0,_),(1,_),(7,_),(11,_),(13,iR ePair [(⟨999,1⟩:Pair)]),(123,_)]) [13] (.n q q (.n q q (.n q q (.n q q (.z q q .zz (.n q q .nil)))))) ?_;obtain ⟨x52,hx52,h⟩:=bnd h;obtain ⟨x53,hx53,h⟩:=bnd h;refine W.rx [(0,_),(1,_),(11,_)] (Rv (O.mv (.own q))<|Rv (O.mv (.imm q))<|RunL.vi (x:=iR (eM ePair) [[(⟨999,1⟩:Pair)]]) (O.bs (ys:=[iR ePair [(⟨999,1⟩:Pair)]]) (eM ePair) [[(⟨999,1⟩:Pair)]] sl78 q q q q q q zt53 q q) q q .none<|Rv (O.ap (en:=(eM ePair)) (r:=x52) (.brw q) q (.imm q) .i ap78 q hx52)<|Rc (PC.vw (ys:=[.brw (eM ePair).z ⟨86,[]⟩ (x27.length+[[(⟨999,1⟩:Pair)]].length)]) q (.c (View.pd (e:=(eM ePair)) (L:=x27) (M:=[[(⟨999,1⟩:Pair)]]) q q) .nil) (con41 (x27++[[(⟨999,1⟩:Pair)]]) _ hx53) call41 q)<|RunL.ef (G2:=[(0,I64 (w64 (1+x3))),(1,I64 (w64 (1+x4))),(11,.obj (eComb_0.cells x53))]) q (EO.stB (y':=.agg [iR eI x53.Base,iR eI x53.Val,iR eI x53.Chk]) (cs2:=[iR eI x53.Base,iR eI x53.Val,iR eI x53.Chk]) q q (.obj q) (.agg q q) (.ag (.r q (.r q (.r q .nil))) .nil) (FzL.agg (.z (.z (.z .nil)))) q sz83 q q q q q (.n q q (.n q q (.b q .nil))))<|Fi (tn3 q q q)) ?_;refine Px.sq<|W.sq' ?_;obtain ⟨c56,hj,h⟩:=bnd h;refine W.rd [[],[0],[0,1],[0,1,2],[0,1,2,3],rn 0 5 [],rn 0 6 [],rn 0 7 [],rn 0 5 [],rn 0 5 [8],rn 0 5 [8,9],rn 0 5 [8,9,10],rn 0 5 [8,9,10,11],rn 0 5 [],rn 0 5 [],rn 0 5 [13,14],rn 0 5 (rn 8 8 []),rn 0 17 [],rn 0 18 [],rn 0 19 []] [(6,BB c56)] mixo (by kernel_rfl) ?_ ?_
        ·refine Dv 0 (O.fO q (.obj q) fd83_0 q)<|Dv 1 (O.ldO (y:=iR eI x53.Base) q (.ptr q) ct33 q q)<|Dv 2 (O.lenI (.imm q) sl33)<|Dv 3 (O.eql (.lit q) (.k q))<|Dv 4 (O.mv (.lit q)) ?_;rcases cnd hj with ⟨hb54,hj⟩ | ⟨hb54,hj⟩
         ·refine DL.v 5 (O.fO q (.obj q) fd83_2 q) q q q q (.yb q q hb54)<|DL.v 6 (O.ldO (y:=iR eI x53.Chk) q (.ptr q) ct33 q q) q q q q (.yb q q hb54)<|DL.v 7 (O.lenI (.imm q) sl33) q q q q (.yb q q hb54)<|DL.v 8 (O.fO q (.obj q) fd83_0 q) q q q q (.yb q q hb54)<|DL.v 9 (O.ldO (y:=iR eI x53.Base) q (.ptr q) ct33 q q) q q q q (.yb q q hb54) ?_;obtain ⟨x55,hx55,hj⟩:=bnd hj;obtain rfl:=sm hj;exact DL.v 10 (O.ixI (.imm q) (.k q) sl33 hx55) q q q q (.yb q q hb54)<|DL.v 11 (O.ldI (x:=I64 x55) (.iptr q) ct3 q) q q q q (.yb q q hb54)<|DL.v 12 (O.add (.k q) (.lit q)) q q q q (.yb q q hb54)<|DL.v 13 (O.mv (.lit q)) q q q q (.yb q q hb54)<|DL.v 14 (O.mv (.lit q)) q q q q (.yb q q hb54)<|DL.v 15 (O.mul (.lit q) (.lit q)) q q q q (.yb q q hb54)<|DL.v 16 (O.max' (.lit q) (.lit q)) q q q q (.yb q q hb54)<|DL.v 17 (O.eql (.lit q) (.lit q)) q q q q (.yb q q hb54)<|Dv 18 (O.pkT (.lit q) hb54 (.lit q))<|Dv 19 (O.az (.lit q))<|DL.fin q q q (.n q .nil)
         ·obtain rfl:=sm hj;exact DL.ps 5 q q hb54 q q q q<|DL.ps 6 q q hb54 q q q q<|DL.ps 7 q q hb54 q q q q<|DL.ps 8 q q hb54 q q q q<|DL.ps 9 q q hb54 q q q q<|DL.ps 10 q q hb54 q q q q<|DL.ps 11 q q hb54 q q q q<|DL.ps 12 q q hb54 q q q q<|DL.ps 13 q q hb54 q q q q<|DL.ps 14 q q hb54 q q q q<|DL.ps 15 q q hb54 q q q q<|DL.ps 16 q q hb54 q q q q<|DL.ps 17 q q hb54 q q q q<|Dv 18 (O.pkF (.lit q) hb54 (.k q))<|Dv 19 (O.az (.lit q))<|DL.fin q q q (.n q .nil)
        refine Px.sq<|W.rt ?_;refine Px.bkR ?_;refine Px.sqR ?_;obtain rfl:=sm h;exact Px.fin (Fin.ro (.f q q .nil) q (ode (by kernel_rfl)) (.no (.no (.no .nil))) q (.inr q))
   ·subst hx;refine Px.bkR ?_;refine Px.sqR ?_;obtain rfl:=sm h;exact Px.fin (Fin.ro (.f q q .nil) q (ode (by kernel_rfl)) (.no (.no (.no .nil))) q (.inr q))
end Go.Proofs
namespace Go.Own
open Go Go.ChangeShapes Go.WideShapes Go.ChangeAt Go.RowKit
variable {H:Type}{enc:TypeId × Value->H}{P:Program}
theorem post_old {f:Func}{s:ChangeSpec}{apart fresh handsOn again:Bool}{W W':World}{args:Array Value}{v:Value}{ds gs:List (DataW H)}{before pa pv:List MemPlace}
  (hW:DataW.Whole enc P f.params.toList s.vars apart W args.toList ds gs before) (hk:Kp W W') (hps:before=pa++pv)
  (hres:∀ (b:Nat) (sp:Nat->Bool) (hd:Bool),DataW.TrodAll enc P W' b sp hd f.resultTypes.toList (v.resultList f.resultTypes.size) (s.fn H (ds++gs)).results [])
  (hargs:∀ sp:Nat->Bool,(∀ p∈before,sp p.block=true)->DataW.TrodAll enc P W' 0 sp true f.params.toList args.toList (s.fn H (ds++gs)).args pa)
  (hvars:∀ sp:Nat->Bool,(∀ p∈before,sp p.block=true)->DataW.TrodVars enc P W' sp s.vars (s.fn H (ds++gs)).vars pv)
  (hok:∀ (j:Nat) (t:TypeId) (r:Value),f.resultTypes[j]?=some t->(v.resultList f.resultTypes.size)[j]?=some r->Value.okWide P W' .any 0 t r) :
  s.post enc P f apart fresh handsOn again W args v W':=by
 subst hps;have hlt:∀ p∈pa++pv,p.block<W.heap.size:=fun p hp=>hW.lt p hp;have hsp:∀ p∈pa++pv,(fun b=>decide (b<W.heap.size)) p.block=true:=fun p hp=>decide_eq_true (hlt p hp);have hWh:=hW;obtain ⟨_,_,_,_,_,hz,hn⟩:=hWh;have ht:=trodAll_append (hargs (fun _=>true) (fun _ _=>rfl)) (hres 0 (fun _=>true) true);refine ⟨ds,gs,pa++pv,[],pa,pv,hW,hres _ _ _,hargs _ hsp,hvars _ hsp,hk.kept _,fun _=>⟨hok,_,_,pa++pv,⟨_,pv,ht,hvars _ (fun _ _=>rfl),rfl,fun b off hp=>?_,hn⟩,fun p hp _=>hp⟩⟩;rw [hk.fz _ (hlt _ hp)];exact hz b off hp
end Go.Own
namespace Go.Proofs
open Go Go.Own
set_option maxRecDepth 100000
theorem uI:Try.prog.underlying 3=some (.int .i64):=by kernel_rfl
def okI (n:Int):Prop:=(Lit.int .i64 n).wf=true
theorem aI:Ar Try.prog eI 3 okI:=.int uI (by kernel_rfl) fun _=>rfl
theorem pLaid:laidOutB Try.prog=true:=by kernel_rfl
theorem pMaps:mapsRowed Try.prog=true:=by kernel_rfl
theorem pFull:((List.range Try.prog.types.size).all fun t=>match Try.prog.underlying t with | some (.slice e)=>decide (0<Try.prog.cellsOf e) | _=>true)=true:=by kernel_rfl
end Go.Proofs
