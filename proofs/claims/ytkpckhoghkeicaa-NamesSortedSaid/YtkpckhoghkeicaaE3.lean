/- Parts of the proof that the last text states. -/
import Derived.Deep.Draws
import Derived.Deep.LoopGhost
import Derived.Ground.SlsfProg
import Derived.KernelRfl
import Derived.Laws.CopyRow
import Derived.Laws.Externs
import Derived.Lib.Bytealg
import Derived.Lib.SliceRun
import Derived.Lib.SlicesCompact
import Derived.Lib.Walk
import Derived.Maps.OwnIn
import Derived.ProofKit
import Derived.RowKit3
import Derived.Shelf.RegionOpenPlain
import Derived.Shelf.SlGeneric
import Derived.Shelf.SlLaysQ
import Derived.Shelf.SlSortCmp.NoneTotal
import Derived.Shelf.SlicesE.Kit
import Derived.Shelf.SlicesQ.Load
import Derived.Sort.WalkB12
import Derived.StringKeys
import Derived.Test.YtkpckhoghkeicaaRows
import Derived.WalkKit
import Derived.Test.YtkpckhoghkeicaaE2
namespace Go.Own
open Go Go.Proofs Go.Shelf Go.Lib Go.Sort
set_option linter.unusedSectionVars false
variable [TB]
section
variable {P:Program}{w:World}
def ordB {α:Type} [DecidableEq α] (lt:α->α->Bool) (l:List α):Bool :=
 l.all fun a=>!lt a a&&l.all fun b=>(lt a b||lt b a||decide (a=b))&&l.all fun c=>(!(lt a b&&lt b c)||lt a c)&&(lt a b||lt b c||!lt a c)
def ltO {α:Type}(cf:α->α->Option Int) (a b:α):Bool:=decide ((cf a b).getD 0<0)
def ins {α:Type}(lt:α->α->Bool) (x:α):List α->List α
 | []=>[x]
 | y::l=>if lt y x then y::ins lt x l else x::y::l
def isort {α:Type}(lt:α->α->Bool):List α->List α
 | []=>[]
 | x::l=>ins lt x (isort lt l)
theorem ins_perm {α:Type}(lt:α->α->Bool) (x:α):∀ l:List α,(ins lt x l).Perm (x::l)
 | []=>.refl _
 | y::l=>by
  unfold ins
  split
  ·exact ((ins_perm lt x l).cons y).trans (.swap x y l)
  ·exact .refl _
theorem isort_perm {α:Type}(lt:α->α->Bool):∀ l:List α,(isort lt l).Perm l
 | []=>.refl _
 | x::l=>(ins_perm lt x _).trans ((isort_perm lt l).cons x)
theorem ins_sorted {α:Type}{lt:α->α->Bool}(hS:SWO lt) (x:α):∀ l:List α,l.Pairwise (fun a b=>(!lt b a)=true)->(ins lt x l).Pairwise fun a b=>(!lt b a)=true
 | [],_=>List.pairwise_singleton _ _
 | y::l,h=>by
  obtain ⟨h1,h2⟩:=List.pairwise_cons.1 h
  unfold ins
  split
  ·rename_i hlt
   refine List.pairwise_cons.2 ⟨fun z hz=>?_,ins_sorted hS x l h2⟩
   rcases List.mem_cons.1 ((ins_perm lt x l).mem_iff.1 hz) with rfl | hz
   ·cases hc:lt z y with
    | false=>rfl
    | true=>have:=hS.trans _ _ _ hlt hc; rw [hS.irrefl] at this; cases this
   ·exact h1 z hz
  ·rename_i hlt
   have hlt:lt y x=false:=by simpa using hlt
   refine List.pairwise_cons.2 ⟨fun z hz=>?_,h⟩
   rcases List.mem_cons.1 hz with rfl | hz
   ·rw [hlt]; rfl
   ·have hz:=h1 z hz
    simp only [Bool.not_eq_true'] at hz ⊢
    exact hS.ntrans _ _ _ hz hlt
theorem isort_sorted {α:Type}{lt:α->α->Bool}(hS:SWO lt):∀ l:List α,(isort lt l).Pairwise fun a b=>(!lt b a)=true
 | []=>.nil
 | x::l=>ins_sorted hS x _ (isort_sorted hS l)
theorem isort_merge {α:Type}{lt:α->α->Bool}(hS:SWO lt) (hT:∀ x y,lt x y=false->lt y x=false->x=y) (l:List α):l.mergeSort (fun x y=>!lt y x)=isort lt l:=by
 refine List.Perm.eq_of_pairwise (le:=fun x y=>(!lt y x)=true) (fun a b _ _ h1 h2=>?_) (List.pairwise_mergeSort (fun a b c h1 h2=>?_) (fun a b=>?_) l) (isort_sorted hS l) ((List.mergeSort_perm _ _).trans (isort_perm lt l).symm)
 ·simp only [Bool.not_eq_true'] at h1 h2
  exact hT a b h2 h1
 ·simp only [Bool.not_eq_true'] at h1 h2 ⊢
  exact hS.ntrans _ _ _ h2 h1
 ·cases h1:lt b a with
  | false=>rfl
  | true =>
   cases h2:lt a b with
   | false=>rfl
   | true=>have:=hS.trans _ _ _ h1 h2; rw [hS.irrefl] at this; cases this
theorem ins_map {α β:Type}{lt:α->α->Bool}{lt':β->β->Bool}{f:α->β}(h:∀ a b,lt a b=lt' (f a) (f b)) (x:α):∀ l:List α,(ins lt x l).map f=ins lt' (f x) (l.map f)
 | []=>rfl
 | y::l=>by
  simp only [ins,List.map_cons,h]
  split
  ·rw [List.map_cons,ins_map h x l]
  ·rfl
theorem isort_map {α β:Type}{lt:α->α->Bool}{lt':β->β->Bool}{f:α->β}(h:∀ a b,lt a b=lt' (f a) (f b)):∀ l:List α,(isort lt l).map f=isort lt' (l.map f)
 | []=>rfl
 | x::l=>by simp only [isort,List.map_cons,ins_map h,isort_map h l]
def sortO {α:Type} [DecidableEq α] (cf:α->α->Option Int) (l:List α):Option (List α) :=
 if (l.all fun a=>l.all fun b=>(cf a b).isSome)&&ordB (ltO cf) l&&decide (l.length<4611686018427387904) then some (isort (ltO cf) l) else none
theorem grow_of_fr {w':World}(h:Fr w w' fun _=>False):∃ q os,w'=grow (w.drewN q) os:=by
 refine ⟨w'.drawn - w.drawn,w'.heap.extract w.heap.size w'.heap.size,?_⟩
 obtain ⟨h1,h2,h3,h4,h5,h6,h7⟩:=h
 obtain ⟨hp,tp,dr,os,out⟩:=w'
 simp only at h1 h2 h3 h4 h5 h7
 subst h1 h2 h3
 unfold grow World.drewN
 simp only [World.mk.injEq,true_and,and_true]
 refine ⟨?_,by omega⟩
 apply Array.ext_getElem?
 intro k
 rw [Array.getElem?_append]
 by_cases hk:k<w.heap.size
 ·rw [if_pos hk]; exact h5 k hk fun h=>h
 ·rw [if_neg hk,Array.getElem?_extract]
  by_cases hk2:k<hp.size
  ·rw [if_pos (by omega),show w.heap.size+(k - w.heap.size)=k by omega]
  ·rw [if_neg (by omega),Array.getElem?_eq_none (by omega)]
theorem rowc_int (l:List Int):rowc eI l=l.map I64:=by
 induction l with
 | nil=>rfl
 | cons a l ih =>
  show eI.cells a++rowc eI l=_
  rw [ih]; rfl
theorem sort_fin {vs:List Value}{v0 v1:Value}(hvs:vs=[v0,v1]) {I:BSet}{Fs:Nat->BSet}{g:Gst}(hS:SR w I vs.toArray g Fs) {w':World}{e:TypeId}{r:List Int}(ho:w'.ownsRow 0 e 1 v0 r.length (r.map (Value.int .i64))) (hF:∀ c,Fs 0 c↔v0.ownBlock=some c) (hfr:Fr w w' fun c=>Fs 0 c) :
  ∃ v I' Fs',Ending.returned (.tuple #[])=.returned v/\SR w' I' (vs++[v]).toArray (outG [some (oR eI r),none] (.tup [])) Fs'/\St w I (fun c=>∃ t,Fs t c) w' I' (fun c=>∃ t,Fs' t c):=by
 subst hvs
 refine ⟨_,I,fun t=>if t=0 then Fs 0 else E0,rfl,⟨fun t x hx=>?_,fun t ht c hc=>?_,fun t t' c hc hc'=>?_,fun t c hc=>?_,fun c hc=>Nat.lt_of_lt_of_le (hS.lt c hc) hfr.size,fun t t' z p n m new z' n' m' new' h1 h2=>?_,TB.keep hS.tb (fun c hc=>hfr.block c (hS.lt c hc) fun h=>hS.imm 0 c h hc) fun _ h=>h⟩,⟨?_,fun c h=>h,fun c h=>.inl h,fun c hc=>?_⟩⟩
 ·unfold outG at hx
  split at hx
  ·rename_i ht
   have ht:t=2:=ht
   subst ht
   cases hx
   exact ⟨.tuple #[],rfl,.tree (.tup (Fs:=fun _=>E0) rfl (fun k x u h=>by simp at h) (fun j k c h=>by simp at h) (fun c=>⟨fun h=>h.elim,fun ⟨k,h,_⟩=>by simp at h⟩))⟩
  ·match t,hx with
   | 0,hx =>
    cases hx
    refine ⟨v0,rfl,.tree ?_⟩
    show R w' I _ (.own 1 r.length (rowc eI r)) v0 (Fs 0)
    rw [rowc_int]
    refine .own (Fs:=fun _=>E0) ho (by simp) (fun k u hu=>?_) (fun k x u hx hu=>?_) (fun _ _ _ _ _ h=>h.elim) (fun _ _ _ h=>h.elim) (fun c=>⟨fun h=>.inl ((hF c).1 h),fun h=>?_⟩)
    ·rw [List.getElem?_map] at hu
     cases hk:r[k]? <;> rw [hk] at hu <;> cases hu
     rfl
    ·rw [List.getElem?_map] at hx hu
     cases hk:r[k]? <;> rw [hk] at hx hu <;> cases hx <;> cases hu
     exact .lit rfl fun _ h=>h
    ·rcases h with h | ⟨_,_,h⟩
     ·exact (hF c).2 h
     ·exact h.elim
   | 1,hx=>cases hx
   | t+2,hx=>cases hx
 ·have h0:¬ t=0:=fun e=>by subst e; exact absurd ht (by simp [outG])
  simp only [if_neg h0] at hc
  exact hc
 ·have key:∀ {t:Nat},(if t=0 then Fs 0 else E0) c->t=0:=fun {t} h=>by
   by_cases h0:t=0
   ·exact h0
   ·rw [if_neg h0] at h; exact h.elim
  rw [key hc,key hc']
 ·by_cases h0:t=0
  ·simp only [if_pos h0] at hc; exact hS.imm 0 c hc
  ·simp only [if_neg h0] at hc; exact hc.elim
 ·unfold outG at h1
  split at h1
  ·cases h1
  ·match t,h1 with
   | 0,h1=>cases h1
   | 1,h1=>cases h1
   | t+2,h1=>cases h1
 ·exact hfr.mono fun b _ hb=>⟨0,hb⟩
 ·obtain ⟨t,ht⟩:=hc
  by_cases h0:t=0
  ·simp only [if_pos h0] at ht; exact .inl ⟨0,ht⟩
  ·simp only [if_neg h0] at ht; exact ht.elim
theorem ordB_spec {α:Type} [DecidableEq α] {lt:α->α->Bool}{l:List α}(h:ordB lt l=true):∀ a∈l,lt a a=false/\∀ b∈l,(lt a b=true\/lt b a=true\/a=b)/\∀ c∈l,((lt a b=true/\lt b c=true)->lt a c=true)/\(lt a b=true\/lt b c=true\/lt a c=false):=by
 intro a ha
 unfold ordB at h
 have h1:=List.all_eq_true.1 h a ha
 simp only [Bool.and_eq_true,Bool.not_eq_true',List.all_eq_true,Bool.or_eq_true,decide_eq_true_eq] at h1
 refine ⟨h1.1,fun b hb=>?_⟩
 obtain ⟨h2,h3⟩:=h1.2 b hb
 refine ⟨by rcases h2 with (h | h) | h <;> simp [h],fun c hc=>?_⟩
 obtain ⟨h4,h5⟩:=h3 c hc
 refine ⟨fun ⟨x,y⟩=>?_,by rcases h5 with (h | h) | h <;> simp [h]⟩
 rcases h4 with h | h
 ·rw [x,y] at h; cases h
 ·exact h
theorem sortO_spec {α:Type} [DecidableEq α] {cf:α->α->Option Int}{l r:List α}(h:sortO cf l=some r):(∀ a∈l,∀ b∈l,(cf a b).isSome=true)/\ordB (ltO cf) l=true/\l.length<4611686018427387904/\r=isort (ltO cf) l:=by
 unfold sortO at h
 split at h
 ·rename_i hc
  simp only [Bool.and_eq_true,List.all_eq_true,decide_eq_true_eq] at hc
  exact ⟨hc.1.1,hc.1.2,hc.2,(Option.some.inj h).symm⟩
 ·cases h
theorem heap_sortWorld {α:Type} [Inhabited α] {enc:α->Value}{b n:Nat}{d:Array α}{os:Array Obj}{cur:Array Value}{e:TypeId}{fr:Nat × Nat}(hb:w.heap[b]?=some (.cells cur e fr)) :
  (sortWorld enc w b 0 n d os).heap[b]?=some (.cells (putCells enc 0 d cur) e fr):=by
 have hlt:b<w.heap.size:=(Array.getElem?_eq_some_iff.1 hb).1
 unfold sortWorld
 rw [heap_grow_old _ _ (by rw [Go.Sort.size_putRow]; exact hlt)]
 unfold putRow mapBlock
 have ea:(Go.Sort.ahead w n).heap=w.heap:=rfl
 simp only [ea,Array.getElem?_modify,if_true,hb,Option.map_some,onCells]
theorem heap_sortWorld_other {α:Type} [Inhabited α] {enc:α->Value}{b n c:Nat}{d:Array α}{os:Array Obj}(hc:c<w.heap.size) (hne:c≠b) :
  (sortWorld enc w b 0 n d os).heap[c]?=w.heap[c]?:=by
 unfold sortWorld
 rw [heap_grow_old _ _ (by rw [Go.Sort.size_putRow]; exact hc)]
 unfold putRow mapBlock
 have ea:(Go.Sort.ahead w n).heap=w.heap:=rfl
 simp only [ea,Array.getElem?_modify,if_neg (Ne.symm hne)]
theorem fr_sortWorld {α:Type} [Inhabited α] {enc:α->Value}{b n:Nat}{d:Array α}{os:Array Obj}{U:BSet}(hU:U b):Fr w (sortWorld enc w b 0 n d os) U:=by
 refine ⟨rfl,rfl,rfl,?_,fun c hc hn=>heap_sortWorld_other hc fun e=>hn (e ▸ hU),fun a ha _=>?_,?_⟩
 ·unfold sortWorld; rw [size_grow,Go.Sort.size_putRow]; exact Nat.le_add_right _ _
 ·unfold sortWorld
  rw [frozen?_grow _ _ _ (by rw [Go.Sort.size_putRow]; exact ha),Go.Sort.frozen?_putRow]; rfl
 ·show w.drawn<=w.drawn+n
  exact Nat.le_add_right _ _
theorem putCells_take {α:Type} [Inhabited α] {enc:α->Value}{d:Array α}{cur:Array Value}(h:d.size<=cur.size):(putCells enc 0 d cur).toList.take d.size=d.toList.map enc:=by
 apply List.ext_getElem?
 intro k
 rw [List.getElem?_take,List.getElem?_map]
 by_cases hk:k<d.size
 ·rw [if_pos hk,Array.getElem?_toList,Array.getElem?_toList]
  have hc:k<cur.size:=by omega
  simp only [putCells,Array.getElem?_mapIdx,Array.getElem?_eq_getElem hc,Array.getElem?_eq_getElem hk,Option.map_some]
  rw [if_pos ⟨Nat.zero_le _,by omega⟩,Nat.sub_zero]
  simp [getElem!_pos,hk]
 ·rw [if_neg hk,Array.getElem?_toList,Array.getElem?_eq_none (by omega)]; rfl
theorem Con.sortI {ρ:Ren}(L:SlLaysF.n6 P ρ) {g:FuncId}{caps:List AV} [hcp:NRl caps] (hg:callT P g=true) {l r:List Int}{cf:Int->Int->Option Int}(h:sortO cf l=some r)
  (hc:∀ a b v,cf a b=some v->Con P g (I64 a::I64 b::caps) (none::none::caps.map fun _=>none) (I64 v)) :
  Con P (ρ.f 6) [oR eI l,.clo (.func g) [] caps] [some (oR eI r),none] (.tup []):=by
 refine ⟨rfl,fun w I vs Fs hl hS=>?_⟩
 obtain ⟨v0,v1,rfl⟩:∃ v0 v1,vs=[v0,v1]:=by
  match vs,hl with
  | [a,b],_=>exact ⟨a,b,rfl⟩
 obtain ⟨hs1,hs2,hs3,rfl⟩:=sortO_spec h
 obtain ⟨u,hu,hR⟩:=hS.rel 0 (oR eI l) rfl
 obtain rfl:v0=u:=by simpa using hu
 replace hR:=hR.isTree (by simp)
 obtain ⟨u,hu,hR1⟩:=hS.rel 1 (.clo (.func g) [] caps) rfl
 obtain rfl:v1=u:=by simpa using hu
 replace hR1:=hR1.isTree (by simp)
 rw [show oR eI l=.own 1 l.length (rowc eI l) from rfl,rowc_int] at hR
 cases hR with
 | ref hx=>simp [AV.isRef] at hx
 | @own _ _ _ _ e us Fk _ ho hlu hone hr hd hb hF =>
 cases hR1 with
 | ref hx=>simp [AV.isRef] at hx
 | @clo _ _ _ a1 cb _ hF1 h1 h2 hr1 hr2 =>
 obtain rfl:a1=#[]:=Array.eq_empty_of_size_eq_zero (by simpa using h1.symm)
 have hF0:∀ c,Fs 0 c↔v0.ownBlock=some c:=by
  intro c
  refine ⟨fun hc=>?_,fun hc=>(hF c).2 (.inl hc)⟩
  rcases (hF c).1 hc with h | ⟨k,hk,h⟩
  ·exact h
  ·have hx:=List.getElem?_eq_getElem hk
   have hu:=List.getElem?_eq_getElem (hlu ▸ hk)
   have hR:=hr k _ _ hx hu
   rw [List.getElem_map] at hR
   generalize us[k]=uu at hR
   cases hR with
   | lit _ hf=>exact (hf c h).elim
   | ref hx=>simp [AV.isRef] at hx
 have hus:us=l.map (Value.int .i64):=by
  apply List.ext_getElem?
  intro k
  by_cases hk:k<us.length
  ·have hk':k<(l.map I64).length:=hlu.symm ▸ hk
   have hx:=List.getElem?_eq_getElem hk'
   have hu:=List.getElem?_eq_getElem hk
   have hR:=hr k _ _ hx hu
   rw [List.getElem_map] at hR
   rw [hu,hR.inv_lit.1,List.getElem?_map,List.getElem?_eq_getElem (by simpa using hk')]; rfl
  ·rw [List.getElem?_eq_none (by omega),List.getElem?_eq_none (by rw [List.length_map] at hlu ⊢; omega)]
 subst hus
 have hperm:=isort_perm (ltO cf) l
 have hlen:=hperm.length_eq
 by_cases hnil:l=[]
 ·subst hnil
  have hsl:∃ p cap,v0=.slice p 0 cap:=by
   rcases ho.2 with ⟨rfl,_⟩ | ⟨b,cap,cur,rfl,_⟩
   ·exact ⟨_,_,rfl⟩
   ·exact ⟨_,_,rfl⟩
  obtain ⟨p,cap,rfl⟩:=hsl
  refine (AnyF.slices_SortFunc_none { L with } p cap _ w).mono ?_
  rintro e' w' ⟨rfl,rfl⟩
  exact sort_fin rfl hS (e:=e) (r:=[]) ho hF0 (Fr.refl _ _)
 ·obtain ⟨hlen2,hcase⟩:=ho
  rcases hcase with ⟨rfl,h0⟩ | ⟨b,cap,cur,rfl,_,hgb,hle,hmx,hsz,htk⟩
  ·exact absurd (List.eq_nil_of_length_eq_zero h0) hnil
  rw [Nat.mul_one] at hsz htk
  have hbU:Fs 0 b:=(hF0 b).2 rfl
  have hblt:b<w.heap.size:=(Array.getElem?_eq_some_iff.1 hgb).1
  obtain ⟨a0,ha0⟩:=List.exists_mem_of_ne_nil l hnil
  let α:={ x:Int // x∈l }
  haveI:Inhabited α:=⟨⟨a0,ha0⟩⟩
  let enc:α->Value:=fun x=>.int .i64 x.1
  let cg:α->α->Int:=fun x y=>(cf x.1 y.1).getD 0
  have hlt:∀ x y:α,ltOf cg x y=ltO cf x.1 y.1:=fun x y=>rfl
  let d:Array α:=l.attach.toArray
  have hds:d.size=l.length:=by show (l.attach.toArray).size=l.length; rw [List.size_toArray,List.length_attach]
  have hsp:=ordB_spec hs2
  have hO:SWO (ltOf cg):=by
   refine ⟨fun x=>by rw [hlt]; exact (hsp x.1 x.2).1,fun x y z=>?_,fun x y z=>?_⟩
   ·rw [hlt,hlt,hlt]
    exact fun p q=>(((hsp x.1 x.2).2 y.1 y.2).2 z.1 z.2).1 ⟨p,q⟩
   ·rw [hlt,hlt,hlt]
    intro p q
    rcases (((hsp x.1 x.2).2 y.1 y.2).2 z.1 z.2).2 with h | h | h
    ·rw [p] at h; cases h
    ·rw [q] at h; cases h
    ·exact h
  have hT:∀ x y:α,ltOf cg x y=false->ltOf cg y x=false->x=y:=by
   intro x y p q
   rw [hlt] at p q
   rcases ((hsp x.1 x.2).2 y.1 y.2).1 with h | h | h
   ·rw [p] at h; cases h
   ·rw [q] at h; cases h
   ·exact Subtype.ext h
  have hcell:∀ j,j<l.length->cur[j]?=some (.int .i64 l[j]!):=by
   intro j hj
   have:=congrArg (fun t=>t[j]?) htk
   simp only [List.getElem?_take,if_pos hj,Array.getElem?_toList,List.getElem?_map,List.getElem?_eq_getElem hj,Option.map_some] at this
   rw [this,getElem!_pos l j hj]
  have hH:Holds enc w b 0 d:=by
   intro j hj
   rw [hds] at hj
   refine ⟨?_,?_⟩
   ·unfold World.cell?
    simp only [hgb,Nat.zero_add]
    show cur[j]?=_
    rw [hcell j hj]
    show some (Value.int .i64 l[j]!)=some (.int .i64 (d[j]!).1)
    have:(d[j]!).1=l[j]! := by
     rw [getElem!_pos d j (by omega),getElem!_pos l j hj]
     show (l.attach.toArray[j]'_).val=_
     rw [List.getElem_toArray,List.getElem_attach]
    rw [this]
   ·unfold World.frozen?
    simp only [hgb]
    simp
  have eg:∀ args w,(callFunc g args).run P w=.ok (.enter g args) w:=fun args w=>callT_run hg args
  have hcmp:CmpLays1 P g cb enc cg b 0 d.size w:=by
   intro m os dk hdk x y
   have hsome:=hs1 x.1 x.2 y.1 y.2
   obtain ⟨v,hv⟩:=Option.isSome_iff_exists.1 hsome
   have hcg:cg x y=v:=by show (cf x.1 y.1).getD 0=v; rw [hv]; rfl
   have hW0:SR (sortWorld enc w b 0 m dk os) I #[] (fun _=>none) (fun _=>E0):=by
    refine ⟨fun _ _ h=>(by cases h),fun _ _ _ h=>h,fun _ _ _ h=>h.elim,fun _ _ h=>h.elim,fun c hc=>?_,fun _ _ _ _ _ _ _ _ _ _ _ h=>(by cases h),TB.keep hS.tb (fun c hc=>(fr_sortWorld (U:=fun c=>Fs 0 c) hbU).block c (hS.lt c hc) fun h=>hS.imm 0 c h hc) fun _ h=>h⟩
    have:=hS.lt c hc
    unfold sortWorld
    rw [size_grow,Go.Sort.size_putRow]
    exact Nat.lt_of_lt_of_le this (Nat.le_add_right _ _)
   have hW:=hW0.args (I':=I) (fun _ h=>h) (fun c h=>.inl h) (args:=I64 x.1::I64 y.1::caps) (vs:=enc x::enc y::cb.toList) (by simp [h2]) (fun ρ' k z u hz hu=>?_)
   ·have hcall:=(hc x.1 y.1 v hv).2 _ I (enc x::enc y::cb.toList) _ (by simp [h2]) hW
    have harr:(enc x::enc y::cb.toList).toArray=#[enc x,enc y]++cb:=by
     apply Array.ext'
     simp
    rw [harr] at hcall
    refine hcall.mono ?_
    rintro e' w' ⟨v',I',Fs',rfl,hS',hst⟩
    obtain ⟨u,hu,hRv⟩:=hS'.rel (caps.length+2) (I64 v) (by simp [outG])
    have hvu:u=v':=by
     have:(enc x::enc y::cb.toList).length=caps.length+2:=by simp [h2]
     rw [List.getElem?_toArray,<- this] at hu
     simpa using hu.symm
    subst hvu
    have hlit:=(hRv.isTree (by simp)).inv_lit.1
    subst hlit
    refine ⟨by rw [hcg],?_⟩
    exact grow_of_fr (hst.fr.mono fun c _ ⟨_,hh⟩=>hh)
   ·match k,hz,hu with
    | 0,hz,hu=>cases hz; cases hu; exact .lit rfl fun _ h=>h
    | 1,hz,hu=>cases hz; cases hu; exact .lit rfl fun _ h=>h
    | k+2,hz,hu =>
     simp only [List.getElem?_cons_succ] at hz hu
     have hRc:=(hr2 k z u hz (by simpa using hu)).nr (ρ':=ρ') (hcp.nr z (List.mem_of_getElem? hz))
     refine hRc.frame (fun c hc=>?_) (fun _ h=>h) (fun _ _ h=>h) (fun c h=>h.elim)
     exact heap_sortWorld_other (hS.lt c hc) fun e=>hS.imm 0 c (e ▸ hbU) hc
  have hmain:=Any.slices_SortFunc_total L enc (fun _=>rfl) cg hO g cb b 0 cap d w eg hcmp hH hblt (by rw [hds]; exact hs3) hT
  rw [hds] at hmain
  refine hmain.mono ?_
  rintro e' w' ⟨rfl,n,os,rfl⟩
  have hval:(d.toList.mergeSort fun x y=>!ltOf cg y x).map enc=(isort (ltO cf) l).map (Value.int .i64):=by
   rw [isort_merge hO hT]
   have hm:(isort (ltOf cg) l.attach).map Subtype.val=isort (ltO cf) (l.attach.map Subtype.val):=isort_map (lt:=ltOf cg) (lt':=ltO cf) (f:=Subtype.val) (fun a b=>hlt a b) l.attach
   rw [List.attach_map_subtype_val] at hm
   rw [<- hm,List.map_map]
   rfl
  have hdsz:(d.toList.mergeSort fun x y=>!ltOf cg y x).toArray.size=l.length:=by
   rw [List.size_toArray,(List.mergeSort_perm _ _).length_eq]
   show (l.attach.toArray).toList.length=l.length
   simp
  refine sort_fin rfl hS (e:=e) (r:=isort (ltO cf) l) ⟨by simp,.inr ⟨b,cap,_,by rw [hlen],Nat.zero_le _,heap_sortWorld hgb,by omega,hmx,?_,?_⟩⟩ hF0 (fr_sortWorld hbU)
  ·rw [Nat.mul_one,<- hsz]
   simp [putCells]
  ·rw [Nat.mul_one,hlen,<- hdsz,putCells_take (by rw [hdsz]; omega),<- hval]
end
end Go.Own
namespace Go.Own
open Go
set_option linter.unusedSectionVars false
variable [TB]
section
variable {α:Type}{P:Program}{N:Rm}{g g1 g2 g3:Gst}{ops:Array Oper}{AT:List (List Nat)}{acc:Acc}{l:List Oper}{K:Gst->Prop}{i d r:Nat}
theorem EffOk.cell {o:Oper}{r k0:Nat}{y:AV}{cs:List AV}{g5:Gst}(hr:g r=some (.obj cs)) (hy:cs[k0]?=some y) (hyn:NR y)
  (hop:∀ v:Value,v.oneCell'=true->∃ g1 g4,Keep (setP g ⟨r,[k0]⟩ (.lit v)) g1/\EffOk P N g1 o g4/\atP g4 ⟨r,[k0]⟩=some (.lit v)/\Keep (setP g4 ⟨r,[k0]⟩ y) g5) (hns:∀ i,y≠.self i:=by exact fun _ h=>(by cases h)):EffV P N (fun p=>p∈[(⟨r,[k0]⟩:Place)]) g o g5:=by
 intro w I T Fs h a ha hN K Q hK
 have hnp:∀ z q n m new,y≠.pend z q n m new:=by rintro z q n m new rfl; cases hyn
 have hat:atP g ⟨r,[k0]⟩=some y:=by simp [atP,hr,AV.at,AV.kids,hy]
 obtain ⟨v,Fy,hv,hRy,hFy,put⟩:=h.toC.part hat hnp
 have hv1:v.oneCell'=true:=by
  obtain ⟨u,hu,hRu⟩:=h.rel r _ hr
  obtain ⟨b,u',h1,h2,h3,h4,_⟩:=R.node (z:=0) (n:=0) (hRu.isTree (by simp)) (.inr rfl) hy
  have:valAt w T ⟨r,[k0]⟩=child w u k0:=by
   unfold valAt
   simp only [hu,walk]
   cases child w u k0 <;> rfl
  rw [this,h3] at hv
  cases hv
  exact h4
 obtain ⟨Fs1,hS1,hF1,hF2⟩:=put (.lit v) E0 (.lit hv1 fun _ h=>h) (fun _ h=>h.elim) (fun _ h=>h.elim) (fun _ _ _ h=>h.elim) (fun _ h=>by cases h)
 obtain ⟨g1,g4,hk1,hok,hat4,hk4⟩:=hop v hv1
 have sub1:∀ t c,Fs1 t c->Fs t c/\¬ Fy c:=by
  intro t c hc
  by_cases ht:t=r
  ·subst ht
   rcases (hF1 c).1 hc with h' | h'
   ·exact h'
   ·exact h'.elim
  ·rw [hF2 t ht] at hc
   exact ⟨hc,fun hf=>ht (h.dis t r c hc (hFy c hf))⟩
 have hS1':=hS1.keep hk1
 refine hok w I T _ hS1' a ha hN K Q fun a' w' hn htm=>?_
 obtain ⟨e1,e2,I',Fs',hS',hst⟩:=hn
 obtain ⟨v2,F2,hv2,hR2,hF2',put2⟩:=hS'.toC.part hat4 (by simp)
 have hv2':v2=v:=hR2.inv_lit.1
 subst hv2'
 have hFyI:∀ c,Fy c->¬ I c:=fun c hc=>h.imm r c (hFy c hc)
 have hFylt:∀ c,Fy c->c<w.heap.size:=fun c hc=>h.ltF r c (hFy c hc)
 have offU:∀ c,Fy c->¬ ∃ t,(g1 t≠none/\Fs1 t c):=fun c hc ⟨t,_,h'⟩=>(sub1 t c h').2 hc
 have offF':∀ t c,Fs' t c->¬ Fy c:=by
  intro t c hc hf
  rcases hst.own c ⟨t,hc⟩ with h' | h'
  ·exact offU c hf h'
  ·have:=hFylt c hf; omega
 have offI':∀ c,Fy c->¬ I' c:=by
  intro c hc hi
  rcases hst.new c hi with h' | h' | h'
  ·exact hFyI c hc h'
  ·exact offU c hc h'
  ·have:=hFylt c hc; omega
 have sameY:∀ c,Fy c->w'.heap[c]?=w.heap[c]?:=fun c hc=>hst.fr.block c (hFylt c hc) (offU c hc)
 have sameI:∀ c,I c->w'.heap[c]?=w.heap[c]?:=fun c hc=>hst.fr.block c (h.lt c hc) fun ⟨t,_,h'⟩=>h.imm t c (sub1 t c h').1 hc
 have hRy':R w' I' (RefAt w' a'.tmps) y v2 Fy:=((hRy.nr hyn).frame sameI hst.more (fun _ _ h=>h) sameY)
 obtain ⟨Fs5,hS5,hF5,hF6⟩:=put2 y Fy hRy' (fun c hc hf=>(offF' _ c hf hc).elim) (fun c hc=>offI' c hc) (fun t c _ hc hf=>offF' t c hf hc) (fun i e=>absurd e (hns i))
 have hS6:=hS5.keep hk4
 refine hK a' w' ⟨e1,e2,I',_,hS6,⟨?_,hst.more,fun c hc=>?_,fun c hc=>?_⟩⟩ htm fun r' path hp y' hy' hnp'=>?_
 ·exact hst.fr.mono fun b _ ⟨t,_,h'⟩=>⟨t,(sub1 t b h').1⟩
 ·rcases hst.new c hc with h' | ⟨t,_,h'⟩ | h'
  ·exact .inl h'
  ·exact .inr (.inl ⟨t,(sub1 t c h').1⟩)
  ·exact .inr (.inr h')
 ·obtain ⟨t,_,hc⟩:=hc
  have:(∃ t,Fs' t c)\/Fy c:=by
   by_cases ht:t=r
   ·subst ht
    rcases (hF5 c).1 hc with ⟨h',_⟩ | h'
    ·exact .inl ⟨_,h'⟩
    ·exact .inr h'
   ·rw [hF6 t ht] at hc; exact .inl ⟨t,hc⟩
  rcases this with h' | h'
  ·rcases hst.own c h' with ⟨t,_,h''⟩ | h''
   ·exact .inl ⟨t,(sub1 t c h'').1⟩
   ·exact .inr h''
  ·exact .inl ⟨r,hFy c h'⟩
 ·have hp:(⟨r',path⟩:Place)∈[(⟨r,[k0]⟩:Place)]:=hp
  have hp:=List.mem_singleton.1 hp
  cases hp
  rw [hv,hv2]
end
end Go.Own
namespace Go.Own
open Go
set_option linter.unusedSectionVars false
variable [TB]
section
variable {α:Type}{P:Program}{N:Rm}{g:Gst}{ops:Array Oper}{l:List Oper}{K:Gst->Prop}{r n:Nat}{t e ty:TypeId}{a b:Operand}{m:Int}{en:En α}{L:List α}{y y2:α}{k:IntKind}{pos:String}{after:Array Edge}
end
end Go.Own
namespace Go.Own
open Go Go.Proofs Go.Shelf Go.Lib Go.Sort
set_option linter.unusedSectionVars false
variable [TB]
section
variable {P:Program}{w:World}
class Lts {α:Type}(e:En α) where
 vals:α->List Value
 cells:∀ a,e.cells a=(vals a).map .lit
 one:∀ a,∀ v∈vals a,v.oneCell'=true
variable {α:Type}{e:En α}
theorem Lts.len [h:Lts e] (a:α):(h.vals a).length=e.z:=by
 have:=e.len a
 rw [h.cells,List.length_map] at this
 exact this
end
end Go.Own
namespace Go.Own
open Go
set_option linter.unusedSectionVars false
variable [TB]
section
variable {α:Type}{P:Program}{N:Rm}{g:Gst}{d r:Nat}
end
end Go.Own
namespace Go.Own
open Go Go.Proofs Go.Shelf Go.Lib Go.Sort
set_option linter.unusedSectionVars false
variable [TB]
section
variable {α:Type} [DecidableEq α]
end
section
variable {α:Type}{e:En α}{P:Program}{w:World}
variable [DecidableEq α] [Inhabited α]
end
end Go.Own
namespace Go.Proofs
open Go.Shelf Go.RowKit Go.Lib Go.Sort
set_option linter.unusedSectionVars false
variable {α:Type} [Inhabited α] [DecidableEq α]
namespace Two
open Go.Own
variable [TB]
variable {P:Program}{t:TypeId}
omit [Inhabited α] [DecidableEq α] in
theorem one (f:α->Int):OneCell fun x=>Value.int .i64 (f x):=fun _=>rfl
end Two
end Go.Proofs
namespace Go.Own
open Go Go.Proofs Go.Shelf Go.Lib Go.Sort
set_option linter.unusedSectionVars false
variable [TB]
section
variable {α:Type}{e:En α}{P:Program}{w:World}
end
end Go.Own
namespace Go.Own
open Go
set_option linter.unusedSectionVars false
variable [TB]
section
variable {α:Type}{P:Program}{N:Rm}{g:Gst}{d r:Nat}
end
end Go.Own
namespace Go.Own
open Go
set_option linter.unusedSectionVars false
variable [TB]
theorem q {α:Sort _}{a:α}:a=a:=rfl
abbrev S0:ByteArray:={ data:=#[] }
theorem ode {p:Prop} [Decidable p] (h:decide p=true):p:=of_decide_eq_true h
theorem tn2 {b:Bool}{g h:Gst}{s0 s1:Nat}{x0 x1:AV}(h0:g s0=some x0) [NRc x0] (h1:g s1=some x1) [NRc x1]:Trim b g h [(s0,x0),(s1,x1)]:=(.n h0 (.n h1 .nil))
theorem tn3 {b:Bool}{g h:Gst}{s0 s1 s2:Nat}{x0 x1 x2:AV}(h0:g s0=some x0) [NRc x0] (h1:g s1=some x1) [NRc x1] (h2:g s2=some x2) [NRc x2]:Trim b g h [(s0,x0),(s1,x1),(s2,x2)]:=(.n h0 (.n h1 (.n h2 .nil)))
theorem tn4 {b:Bool}{g h:Gst}{s0 s1 s2 s3:Nat}{x0 x1 x2 x3:AV}(h0:g s0=some x0) [NRc x0] (h1:g s1=some x1) [NRc x1] (h2:g s2=some x2) [NRc x2] (h3:g s3=some x3) [NRc x3]:Trim b g h [(s0,x0),(s1,x1),(s2,x2),(s3,x3)]:=(.n h0 (.n h1 (.n h2 (.n h3 .nil))))
theorem tn5 {b:Bool}{g h:Gst}{s0 s1 s2 s3 s4:Nat}{x0 x1 x2 x3 x4:AV}(h0:g s0=some x0) [NRc x0] (h1:g s1=some x1) [NRc x1] (h2:g s2=some x2) [NRc x2] (h3:g s3=some x3) [NRc x3] (h4:g s4=some x4) [NRc x4]:Trim b g h [(s0,x0),(s1,x1),(s2,x2),(s3,x3),(s4,x4)]:=(.n h0 (.n h1 (.n h2 (.n h3 (.n h4 .nil)))))
theorem tn6 {b:Bool}{g h:Gst}{s0 s1 s2 s3 s4 s5:Nat}{x0 x1 x2 x3 x4 x5:AV}(h0:g s0=some x0) [NRc x0] (h1:g s1=some x1) [NRc x1] (h2:g s2=some x2) [NRc x2] (h3:g s3=some x3) [NRc x3] (h4:g s4=some x4) [NRc x4] (h5:g s5=some x5) [NRc x5]:Trim b g h [(s0,x0),(s1,x1),(s2,x2),(s3,x3),(s4,x4),(s5,x5)]:=(.n h0 (.n h1 (.n h2 (.n h3 (.n h4 (.n h5 .nil))))))
theorem tn7 {b:Bool}{g h:Gst}{s0 s1 s2 s3 s4 s5 s6:Nat}{x0 x1 x2 x3 x4 x5 x6:AV}(h0:g s0=some x0) [NRc x0] (h1:g s1=some x1) [NRc x1] (h2:g s2=some x2) [NRc x2] (h3:g s3=some x3) [NRc x3] (h4:g s4=some x4) [NRc x4] (h5:g s5=some x5) [NRc x5] (h6:g s6=some x6) [NRc x6]:Trim b g h [(s0,x0),(s1,x1),(s2,x2),(s3,x3),(s4,x4),(s5,x5),(s6,x6)]:=(.n h0 (.n h1 (.n h2 (.n h3 (.n h4 (.n h5 (.n h6 .nil)))))))
theorem tn8 {b:Bool}{g h:Gst}{s0 s1 s2 s3 s4 s5 s6 s7:Nat}{x0 x1 x2 x3 x4 x5 x6 x7:AV}(h0:g s0=some x0) [NRc x0] (h1:g s1=some x1) [NRc x1] (h2:g s2=some x2) [NRc x2] (h3:g s3=some x3) [NRc x3] (h4:g s4=some x4) [NRc x4] (h5:g s5=some x5) [NRc x5] (h6:g s6=some x6) [NRc x6] (h7:g s7=some x7) [NRc x7]:Trim b g h [(s0,x0),(s1,x1),(s2,x2),(s3,x3),(s4,x4),(s5,x5),(s6,x6),(s7,x7)]:=(.n h0 (.n h1 (.n h2 (.n h3 (.n h4 (.n h5 (.n h6 (.n h7 .nil))))))))
theorem tn9 {b:Bool}{g h:Gst}{s0 s1 s2 s3 s4 s5 s6 s7 s8:Nat}{x0 x1 x2 x3 x4 x5 x6 x7 x8:AV}(h0:g s0=some x0) [NRc x0] (h1:g s1=some x1) [NRc x1] (h2:g s2=some x2) [NRc x2] (h3:g s3=some x3) [NRc x3] (h4:g s4=some x4) [NRc x4] (h5:g s5=some x5) [NRc x5] (h6:g s6=some x6) [NRc x6] (h7:g s7=some x7) [NRc x7] (h8:g s8=some x8) [NRc x8]:Trim b g h [(s0,x0),(s1,x1),(s2,x2),(s3,x3),(s4,x4),(s5,x5),(s6,x6),(s7,x7),(s8,x8)]:=(.n h0 (.n h1 (.n h2 (.n h3 (.n h4 (.n h5 (.n h6 (.n h7 (.n h8 .nil)))))))))
theorem tn10 {b:Bool}{g h:Gst}{s0 s1 s2 s3 s4 s5 s6 s7 s8 s9:Nat}{x0 x1 x2 x3 x4 x5 x6 x7 x8 x9:AV}(h0:g s0=some x0) [NRc x0] (h1:g s1=some x1) [NRc x1] (h2:g s2=some x2) [NRc x2] (h3:g s3=some x3) [NRc x3] (h4:g s4=some x4) [NRc x4] (h5:g s5=some x5) [NRc x5] (h6:g s6=some x6) [NRc x6] (h7:g s7=some x7) [NRc x7] (h8:g s8=some x8) [NRc x8] (h9:g s9=some x9) [NRc x9]:Trim b g h [(s0,x0),(s1,x1),(s2,x2),(s3,x3),(s4,x4),(s5,x5),(s6,x6),(s7,x7),(s8,x8),(s9,x9)]:=(.n h0 (.n h1 (.n h2 (.n h3 (.n h4 (.n h5 (.n h6 (.n h7 (.n h8 (.n h9 .nil))))))))))
theorem tn11 {b:Bool}{g h:Gst}{s0 s1 s2 s3 s4 s5 s6 s7 s8 s9 s10:Nat}{x0 x1 x2 x3 x4 x5 x6 x7 x8 x9 x10:AV}(h0:g s0=some x0) [NRc x0] (h1:g s1=some x1) [NRc x1] (h2:g s2=some x2) [NRc x2] (h3:g s3=some x3) [NRc x3] (h4:g s4=some x4) [NRc x4] (h5:g s5=some x5) [NRc x5] (h6:g s6=some x6) [NRc x6] (h7:g s7=some x7) [NRc x7] (h8:g s8=some x8) [NRc x8] (h9:g s9=some x9) [NRc x9] (h10:g s10=some x10) [NRc x10]:Trim b g h [(s0,x0),(s1,x1),(s2,x2),(s3,x3),(s4,x4),(s5,x5),(s6,x6),(s7,x7),(s8,x8),(s9,x9),(s10,x10)]:=(.n h0 (.n h1 (.n h2 (.n h3 (.n h4 (.n h5 (.n h6 (.n h7 (.n h8 (.n h9 (.n h10 .nil)))))))))))
section
variable {P:Program}{N:Rm}{ops:Array Oper}{g:Gst}{K:Gst->Prop}{l:List Oper}{d t:Nat}{ty:TypeId}{pos:String}{after:Array Edge}{v:Value}
theorem Fi {G1:List (Nat × AV)}(h:Trim true g (get G1) G1):RunL P N ops [] g fun g'=>Wk g' (get G1):=.fin h
theorem Vm (h:g t=some (.lit v)) (hk:RunL P N ops l (upd g d (.lit v)) K) (hN:N.ok d=true:=by rfl) (hf:g d=none:=by rfl):RunL P N ops (⟨some d,.move (.tmp t),ty,pos,after,none⟩::l) g K:=Rv (O.mv (.lit h)) hk hN hf
theorem Va (h:g t=some (.lit v)) (hk:RunL P N ops l (upd g d (.lit v)) K) (hN:N.ok d=true:=by rfl) (hf:g d=none:=by rfl):RunL P N ops (⟨some d,.assign (.tmp t),ty,pos,after,none⟩::l) g K:=Rv (O.az (.lit h)) hk hN hf
theorem Vk (h:ofConst v=.lit v) (hk:RunL P N ops l (upd g d (.lit v)) K) (hN:N.ok d=true:=by rfl) (hf:g d=none:=by rfl):RunL P N ops (⟨some d,.assign (.const v),ty,pos,after,none⟩::l) g K:=Rv (O.az (.k h)) hk hN hf
end
end Go.Own
namespace Go.Own
open Go
set_option linter.unusedSectionVars false
variable [TB]
section
variable {α:Type}{g:Gst}
end
end Go.Own
namespace Go.Own
open Go
set_option linter.unusedSectionVars false
variable [TB]
section
variable {α:Type}{P:Program}{N:Rm}{g:Gst}{d r:Nat}
end
end Go.Own
namespace Go.Own
open Go
set_option linter.unusedSectionVars false
variable [TB]
class Plc (x:AV):Prop where pl:Pl x
class Pll (cs:List AV):Prop where pl:∀ x∈cs,Pl x
instance {v:Value}:Plc (.lit v):=⟨.lit⟩
instance:Plc .nils:=⟨.nils⟩
instance {z n:Nat}{cs:List AV} [h:NRl cs]:Plc (.imm z n cs):=⟨.imm h.nr⟩
instance {α:Type}{e:En α}{L:List α}:Plc (iR e L):=⟨.imm (NRl.nr (cs:=rowc e L))⟩
instance {cs:List AV} [h:Pll cs]:Plc (.agg cs):=⟨.agg h.pl⟩
instance:Pll []:=⟨by simp⟩
instance {x:AV}{cs:List AV} [h:Plc x] [h':Pll cs]:Pll (x::cs):=⟨fun y hy=>by
 rcases List.mem_cons.1 hy with rfl | hy
 ·exact h.pl
 ·exact h'.pl y hy⟩
class NRG (G:List (Nat × AV)):Prop where nr:∀ t x,get G t=some x->NR x
instance:NRG []:=⟨fun t x h=>by cases h⟩
instance {s:Nat}{x:AV}{G:List (Nat × AV)} [h:NRc x] [h':NRG G]:NRG ((s,x)::G):=⟨fun t y hy=>by
 simp only [get] at hy
 split at hy
 ·cases hy; exact h.nr
 ·exact h'.nr t y hy⟩
class NRA (acc:Acc):Prop where nr:∀ e∈acc,∀ x,e.2.2=some x->NR x
instance:NRA []:=⟨by simp⟩
instance {k d:Nat}{x:AV}{acc:Acc} [h:NRc x] [h':NRA acc]:NRA ((k,d,some x)::acc):=⟨fun e he y hy=>by
 rcases List.mem_cons.1 he with rfl | he
 ·cases hy; exact h.nr
 ·exact h'.nr e he y hy⟩
instance {k d:Nat}{acc:Acc} [h':NRA acc]:NRA ((k,d,none)::acc):=⟨fun e he y hy=>by
 rcases List.mem_cons.1 he with rfl | he
 ·cases hy
 ·exact h'.nr e he y hy⟩
end Go.Own
namespace Go.Own
open Go Go.MapKept Go.ChangeMaps
set_option linter.unusedSectionVars false
variable [TB]
section
variable {P:Program}{w:World}{I:BSet}{T:Array Value}{g g2:Gst}{Fs:Nat->BSet}
theorem cell_setMap {w:World}{b:Nat}{es es':Array MapEntry}{c c':Nat}(h:w.heap[b]?=some (.map es c)) (a:Addr):(setBlock w b (.map es' c')).cell? a=w.cell? a:=by
 by_cases e:a.block=b
 ·have h1:(setBlock w b (.map es' c')).heap[a.block]?=some (.map es' c'):=by rw [e]; exact heap_setBlock_same h _
  have h2:w.heap[a.block]?=some (.map es c):=by rw [e]; exact h
  unfold World.cell?
  rw [h1,h2]
 ·have h1:(setBlock w b (.map es' c')).heap[a.block]?=w.heap[a.block]?:=heap_setBlock_other h _ e
  unfold World.cell?
  rw [h1]
theorem walk_setMap {w:World}{b:Nat}{es es':Array MapEntry}{c c':Nat}(h:w.heap[b]?=some (.map es c)):∀ (p:List Nat) (v:Value),walk (setBlock w b (.map es' c')) v p=walk w v p
 | [],v=>rfl
 | k::p,v=>by
  have hc:child (setBlock w b (.map es' c')) v k=child w v k:=by
   unfold child
   split <;> first | rfl | exact cell_setMap h _
  simp only [walk,hc]
  cases child w v k with
  | none=>rfl
  | some u=>exact walk_setMap h p u
theorem val_setMap {w:World}{b:Nat}{es es':Array MapEntry}{c c':Nat}(h:w.heap[b]?=some (.map es c)) (T:Array Value) (p:Place):valAt (setBlock w b (.map es' c')) T p=valAt w T p:=by
 unfold valAt
 cases T[p.root]? with
 | none=>rfl
 | some v=>exact walk_setMap h _ v
theorem ref_setMap {w:World}{b:Nat}{es es':Array MapEntry}{c c':Nat}(h:w.heap[b]?=some (.map es c)) {T:Array Value}{r:AV}{v:Value}(hr:RefAt w T r v):RefAt (setBlock w b (.map es' c')) T r v:=by
 cases r <;> simp only [RefAt,val_setMap h] at hr ⊢ <;> exact hr
theorem SR.mput (hS:SR w I T g Fs) {p:Place}{q q':Array MapEntry->Nat->Prop}{b:Nat}{es es':Array MapEntry}{c c':Nat}(hp:atP g p=some (.mp q)) (hv:valAt w T p=some (.map (some b))) (hm:w.heap[b]?=some (.map es c)) (hq:q' es' c')
  (hg2:∀ t x,g2 t=some x->setP g p (.mp q') t=some x) (hrk:∀ t x,g2 t=some x->∀ y,g t=some y->RKp (RefOk g2) y) (hnp:∀ t z q n m new,g2 t≠some (.pend z q n m new)) (hroot:g2 p.root≠none) :
  ∃ Fs',SR (setBlock w b (.map es' c')) I T g2 Fs'/\∀ t c,Fs' t c->Fs t c:=by
 have w'o:∀ k,k≠b->(setBlock w b (.map es' c')).heap[k]?=w.heap[k]?:=fun k hk=>heap_setBlock_other hm _ hk
 have w'b:(setBlock w b (.map es' c')).heap[b]?=some (.map es' c'):=heap_setBlock_same hm _
 have w's:(setBlock w b (.map es' c')).heap.size=w.heap.size:=by simp [setBlock]
 have href:∀ r v,RefAt w T r v->RefAt (setBlock w b (.map es' c')) T r v:=fun r v h=>ref_setMap hm h
 generalize hw':setBlock w b (.map es' c')=w' at *
 obtain ⟨x0,hx0⟩:∃ x0,g p.root=some x0:=by
  unfold atP at hp
  cases hx:g p.root with
  | none=>rw [hx] at hp; cases hp
  | some x=>exact ⟨x,rfl⟩
 have hat0:x0.at p.path=some (.mp q):=by simpa [atP,hx0] using hp
 obtain ⟨v0,hv0,hR0⟩:=hS.rel _ _ hx0
 have hR0':=hR0.isTree (by rintro z q n m new rfl; cases (AV.at_pend hat0).2)
 have hk0:RKp (RefOk g2) x0:=by
  cases h2:g2 p.root with
  | none=>exact absurd h2 hroot
  | some y=>exact hrk _ _ h2 _ hx0
 have hR1:=hR0'.rkp hk0
 obtain ⟨vy,Fy,hw,hRy,hFy,_,rebuild⟩:=R.focus p.path hR1 hat0
 have hvy:vy=.map (some b):=by
  simp only [valAt,hv0,hw,Option.some.injEq] at hv; exact hv
 subst hvy
 obtain ⟨b',es0,c0,e,ho,_,hF0⟩:=hRy.inv_mp
 cases e
 have hbF:Fy b:=(hF0 b).2 rfl
 have hIb:∀ c,I c->w'.heap[c]?=w.heap[c]?:=fun c hc=>w'o c fun e=>hS.imm _ b (hFy b hbF) (e ▸ hc)
 have hother:∀ t,t≠p.root->¬ Fs t b:=fun t ht h=>ht (hS.dis _ _ _ h (hFy b hbF))
 have refs:∀ r u,(RG w T g r u/\RefOk g2 r)->RG w' T g2 r u:=fun r u h=>⟨href r u h.1.1,h.2⟩
 obtain ⟨F',hRF,hF'⟩:=rebuild w' I (RG w' T g2) (.mp q') Fy ⟨hIb,fun c hc hn=>w'o c fun e=>hn (e ▸ hbF),fun _ h=>h,refs⟩ (.mp w'b hq hF0) (fun c h _=>h) fun _ h=>by cases h
 have hF'':∀ c,F' c->Fs p.root c:=fun c hc=>by
  rcases (hF' c).1 hc with h | h
  ·exact h.1
  ·exact hFy c h
 let Fs':Nat->BSet:=fun t c=>if t=p.root then F' c else g2 t≠none/\Fs t c
 have hFs':∀ t c,Fs' t c->Fs t c:=by
  intro t c hc
  by_cases ht:t=p.root
  ·simp only [Fs',if_pos ht] at hc; rw [ht]; exact hF'' c hc
  ·simp only [Fs',if_neg ht] at hc; exact hc.2
 refine ⟨Fs',⟨fun t x hx=>?_,fun t ht c hc=>?_,fun t t' c hc hc'=>hS.dis t t' c (hFs' t c hc) (hFs' t' c hc'),fun t c hc hi=>hS.imm t c (hFs' t c hc) hi,fun c hc=>by rw [w's]; exact hS.lt c hc,fun t t' z q n m new z' n' m' new' h1=>absurd h1 (hnp _ _ _ _ _ _),TB.keep hS.tb hIb fun _ h=>h⟩,hFs'⟩
 ·have hx':=hg2 t x hx
  by_cases ht:t=p.root
  ·subst ht
   have hxe:x0.setAt p.path (.mp q')=x:=by simpa [setP,hx0] using hx'
   refine ⟨v0,hv0,.tree ?_⟩
   have hFe:Fs' p.root=F':=by funext c; simp [Fs']
   rw [<- hxe,hFe]; exact hRF
  ·rw [setP_slot ht] at hx'
   obtain ⟨u,hu,hR⟩:=hS.rel t x hx'
   replace hR:=hR.isTree (by rintro z q n m new rfl; exact hnp _ _ _ _ _ _ hx)
   have hFe:Fs' t=Fs t:=by
    funext c
    exact propext ⟨fun h=>by simp only [Fs',if_neg ht] at h; exact h.2,fun h=>by simp only [Fs',if_neg ht]; exact ⟨by rw [hx]; simp,h⟩⟩
   refine ⟨u,hu,.tree ?_⟩
   rw [hFe]
   exact (hR.rkp (hrk t x hx x hx')).frame hIb (fun _ h=>h) refs fun c hc=>w'o c fun e=>hother t ht (e ▸ hc)
 ·by_cases htr:t=p.root
  ·exact hroot (htr ▸ ht)
  ·simp only [Fs',if_neg htr] at hc; exact hc.1 ht
theorem fz_setMap {w:World}{b:Nat}{es es':Array MapEntry}{c c':Nat}(h:w.heap[b]?=some (.map es c)) (a:Addr):(setBlock w b (.map es' c')).frozen? a=w.frozen? a:=by
 unfold World.frozen?
 by_cases e:a.block=b
 ·have h1:(setBlock w b (.map es' c')).heap[a.block]?=some (.map es' c'):=by rw [e]; exact heap_setBlock_same h _
  have h2:w.heap[a.block]?=some (.map es c):=by rw [e]; exact h
  rw [h1,h2]
 ·rw [heap_setBlock_other h _ e]
theorem EO.mu {N:Rm}{o:Oper}{t:TypeId}{m x v:Operand}{p:Place}{q q':Array MapEntry->Nat->Prop}{Y Z x2:AV}{kv zv:Value}{G2:List (Nat × AV)}(ho:o.op=.mapUpdate t m x v) (hd:o.dst=none) (hm:opd g m=some (.mref p)) (hp:atP g p=some (.mp q)) (hx:opd g x=some Y) (hy:opd g v=some Z)
  (hK:∀ (w:World) (I:BSet) (ρ:AV->Value->Prop) (v:Value),R w I ρ Y v E0->v=kv) (hZ:∀ (w:World) (I:BSet) (ρ:AV->Value->Prop) (v:Value),R w I ρ Z v E0->v=zv)
  (hr:∀ (w:World) (b:Nat) (es:Array MapEntry) (c:Nat),w.heap[b]?=some (.map es c)->q es c->∃ es' c',(Instr.mapUpdate t (.map (some b)) kv zv).run P w=.ok () (setBlock w b (.map es' c'))/\q' es' c')
  (hx2:setP g p (.mp q') p.root=some x2) (hroot:(get G2 p.root).isSome=true) {y0:AV}(hy0:g p.root=some y0) [hno:NRc y0] (hG:TrX g (get G2) p.root x2 G2):EO P N g o (get G2):=by
 refine .sem fun w I T Fs h a ha hN K Q hK'=>?_
 obtain ⟨⟨b,hb,hv⟩,_⟩:=(opd_sound h hm ha).inv_mref
 obtain ⟨v',Fy,hv',hRy,hFy⟩:=h.part hp (by simp)
 have hbv:=hb
 rw [hb] at hv'
 cases hv'
 obtain ⟨b',es,c,e,hh,hq,hF0⟩:=hRy.inv_mp
 cases e
 obtain ⟨es',c',hrun,hq'⟩:=hr w b' es c hh hq
 have hrun':(execOp a.eval o).run P w=.ok .skip (setBlock w b' (.map es' c')):=by
  simp [execOp,ho,hv,hK _ _ _ _ (opd_sound h hx ha),hZ _ _ _ _ (opd_sound h hy ha),hrun]
 have c1:∀ t x,get G2 t=some x->setP g p (.mp q') t=some x:=fun t x hx=>by
  rcases hG.spec t x hx with ⟨h1,h2,_⟩ | ⟨h1,h2,_⟩
  ·rw [setP_slot h1]; exact h2
  ·subst h1 h2; exact hx2
 have c2:∀ t x,get G2 t=some x->∀ y,g t=some y->RKp (RefOk (get G2)) y:=fun t x hx y hy=>by
  rcases hG.spec t x hx with ⟨h1,h2,h3⟩ | ⟨h1,h2,h3⟩
  ·rw [h2] at hy; cases hy
   rcases h3 with h3 | ⟨h3,_⟩
   ·cases h3 with
    | n h=>exact .nr h
    | p _ _ h4 hk2=>exact .ref rfl (refOk_obj h4 hk2)
    | r _ _ h4 hn2=>exact .ref rfl (refOk_own h4 hn2)
   ·exact RKp.ref (by cases h3; rfl) h3.ok2
  ·subst h1; rw [hy0] at hy; cases hy; exact .nr hno.nr
 have c3:∀ t z q n m new,get G2 t≠some (.pend z q n m new):=fun t z q n m new hx=>by
  rcases hG.spec t _ hx with ⟨_,_,h3 | ⟨h3,_⟩⟩ | ⟨_,_,h3⟩
  ·exact h3.np _ _ _ _ _ rfl
  ·exact h3.np _ _ _ _ _ rfl
  ·cases h3
 obtain ⟨Fs',hS',hsub⟩:=h.mput (g2:=get G2) hp hbv hh hq' c1 c2 c3 (by intro e; rw [e] at hroot; cases hroot)
 unfold Oper.wp Oper.upon
 simp only [hrun']
 refine hK' _ _ ⟨by rw [hd]; rfl,by rw [hd]; exact Hold.refl,I,Fs',by rw [hd]; simpa [Act.put,ha] using hS',⟨⟨rfl,rfl,rfl,by simp [setBlock],fun k _ hk=>heap_setBlock_other hh _ fun e=>hk ⟨_,e ▸ hFy b' ((hF0 b').2 rfl)⟩,fun a _ _=>fz_setMap hh a,Nat.le_refl _⟩,fun _ h=>h,fun _ h=>.inl h,fun c ⟨t,hc⟩=>.inl ⟨t,hsub t c hc⟩⟩⟩ fun t _=>by rw [hd]; rfl
end
end Go.Own
namespace Go.Own
open Go Go.MapKept Go.ChangeMaps Go.WideElems
set_option linter.unusedSectionVars false
variable [TB]
open Go.Maps (Keyed)
set_option linter.unusedVariables false
variable {κ υ:Type}{P:Program}{k e:TypeId}
abbrev Rh:Value->Option (DataW Value × List MemPlace):=fun v=>some (.held v,[])
def tget [DecidableEq κ]:List (κ × υ)->κ->Option υ
 | [],_=>none
 | p::m,x=>if p.1=x then some p.2 else tget m x
def mgetO [DecidableEq κ] (ok:κ->Bool) (z:υ) (m:List (κ × υ)) (x:κ):Option υ:=if ok x then some ((tget m x).getD z) else none
def mget2 [DecidableEq κ] (ok:κ->Bool) (z:υ) (m:List (κ × υ)) (x:κ):Option (υ × Bool):=if ok x then some ((tget m x).getD z,(tget m x).isSome) else none
def mputO (ok:κ->Bool) (m:List (κ × υ)) (x:κ) (y:υ):Option (List (κ × υ)):=if ok x&&decide (m.length<=lim) then some ((x,y)::m) else none
structure MK (P:Program) (k:TypeId) (κ:Type) where
 kv:κ->Value
 kf:κ->Lit
 kA:κ->AV
 ok:κ->Bool
 keyed:Keyed P k
 key:∀ x,ok x=true->keyOf P k (kv x)=some (kf x)
 inj:∀ x y,kf x=kf y->x=y
 av:∀ (x:κ) (w:World) (I:BSet) (ρ:AV->Value->Prop) (v:Value),R w I ρ (kA x) v E0->v=kv x
structure MV (P:Program) (e:TypeId) (υ:Type) where
 vv:υ->Value
 vA:υ->AV
 z:υ
 zero:∀ w,(zeroValue e).run P w=.ok (vv z) w
 one:∀ x,(vv x).oneCell'=true
 av:∀ (x:υ) (w:World) (I:BSet) (ρ:AV->Value->Prop) (v:Value),R w I ρ (vA x) v E0->v=vv x
 va:∀ (x:υ) (w:World) (I:BSet) (ρ:AV->Value->Prop),R w I ρ (vA x) (vv x) E0
def srt (P:Program) (k:TypeId) (es:Array MapEntry):List (Lit × DataW Value):=(es.toList.map (rg P k Rh)).foldr DataW.insert []
def MI [DecidableEq κ] (K:MK P k κ) (V:MV P e υ) (m:List (κ × υ)):Array MapEntry->Nat->Prop:=fun es c=>Fit P k Rh es c/\es.size<=m.length/\∀ x zd,(DataW.map (srt P k es)).atKey (K.kf x) zd=match tget m x with | some y=>.held (V.vv y) | none=>zd
variable [DecidableEq κ] {K:MK P k κ}{V:MV P e υ}{m m':List (κ × υ)}{x:κ}{y:υ}{t:TypeId}
theorem MI.nil:MI K V [] #[] 0:=⟨⟨by simp,stamped_empty 0,by simp⟩,Nat.le_refl _,fun x zd=>rfl⟩
theorem MI.look (ok:Bool) (hok:K.ok x=true) (ht:P.underlying t=some (.map k e)) (w:World) (b:Nat) (es:Array MapEntry) (c:Nat) (hb:w.heap[b]?=some (.map es c)) (h:MI K V m es c) :
  (Instr.lookup t (.map (some b)) (K.kv x) ok).run P w=.ok (if ok then .tuple #[V.vv ((tget m x).getD V.z),.bool (tget m x).isSome] else V.vv ((tget m x).getD V.z)) w:=by
 obtain ⟨F,_,hat⟩:=h
 have hat:=hat x
 rcases Maps.fit_look ok K.keyed ht (V.zero w) hb F (K.key x hok) with ⟨hrun,_,h2⟩ | ⟨e0,y,_,_,hrun,hy,h2,_⟩
 ·have:tget m x=none:=by
   cases hg:tget m x with
   | none=>rfl
   | some y =>
    have h1:=hat .nil
    rw [hg] at h1
    have h3:=h2 .nil
    unfold srt at h1
    rw [h1] at h3; cases h3
  rw [hrun,this]; rfl
 ·cases hy
  cases hg:tget m x with
  | none =>
   have h1:=hat .nil
   rw [hg] at h1
   have h3:=h2 .nil
   unfold srt at h1
   rw [h1] at h3; cases h3
  | some y =>
   have h1:=hat .nil
   rw [hg] at h1
   have h3:=h2 .nil
   unfold srt at h1
   rw [h1] at h3
   have h4:e0.val=V.vv y:=by simpa using h3.symm
   rw [hrun,h4]; rfl
theorem MI.put (h0:mputO K.ok m x y=some m') (ht:P.underlying t=some (.map k e)) (w:World) (b:Nat) (es:Array MapEntry) (c:Nat) (hb:w.heap[b]?=some (.map es c)) (h:MI K V m es c) :
  ∃ es' c',(Instr.mapUpdate t (.map (some b)) (K.kv x) (V.vv y)).run P w=.ok () (setBlock w b (.map es' c'))/\MI K V m' es' c':=by
 unfold mputO at h0
 split at h0
 ·rename_i hc
  cases h0
  simp only [Bool.and_eq_true,decide_eq_true_eq] at hc
  obtain ⟨hok,hl⟩:=hc
  obtain ⟨F,hs,hat⟩:=h
  have hkey:=K.key x hok
  obtain ⟨es',c',hrun,F',hput,_⟩:=Maps.fit_store (R':=Rh) K.keyed ht hb F (by have:maxLen=9223372036854775807:=rfl; simp only [lim] at hl; omega) (fun _ _ _ _ hz=>hz) hkey (rfl:Rh (V.vv y)=some (.held (V.vv y),[]))
  refine ⟨es',c',hrun,F',?_,fun x' zd=>?_⟩
  ·have e1:es'.size=((es'.toList.map (rg P k Rh)).foldr DataW.insert []).length:=by rw [length_sorted]; simp
   rw [e1,hput]
   unfold putKey
   rw [length_insert]
   have e2:=List.length_filter_le (notKey (K.kf x)) ((es.toList.map (rg P k Rh)).foldr DataW.insert [])
   rw [length_sorted] at e2
   simp at e2 ⊢
   omega
  ·have e3:(DataW.map (srt P k es'))=(DataW.map (srt P k es)).put (K.kf x) (.held (V.vv y)):=by
    rw [DataW.put_eq]; unfold srt; rw [hput]
   rw [e3]
   by_cases hx:x=x'
   ·subst hx
    rw [Maps.atKey_put_same ⟨_,rfl⟩ (K.keyed.key hkey)]
    simp [tget]
   ·rw [Maps.atKey_put_other (fun e=>hx (K.inj _ _ e).symm),hat]
    simp [tget,hx]
 ·cases h0
section
variable {N:Rm}{g:Gst}{a b c:Operand}{p:Place}{ty:TypeId}
instance {q:Array MapEntry->Nat->Prop}:NRc (.mp q):=⟨.mp⟩
instance {q:Array MapEntry->Nat->Prop}:Vw (.mp q) (.imp q):=⟨fun _=>.mp⟩
instance {q:Array MapEntry->Nat->Prop}:Vw (.imp q) (.imp q):=⟨fun _=>.self .imp (by simp) (by simp) (by simp) (by simp) (by simp)⟩
def cmpB (a b:ByteArray):Int:=Lib.compareBytes a.data.toList b.data.toList
instance {q:Array MapEntry->Nat->Prop}:NRc (.imp q):=⟨.imp⟩
instance {q:Array MapEntry->Nat->Prop}:OOc (.mp q):=⟨.mp⟩
theorem O.mkm (K:MK P k κ) (V:MV P e υ):PS P g (.makeMap t none) ty (.mp (MI K V [])):=.p2 (.makeMap MI.nil)
theorem O.lkI {r:υ}{X Y:AV}(hm:Rd g a (.imp (MI K V m))) (hx:Rd g b Y) (hY:K.kA x=Y) (ht:P.underlying t=some (.map k e)) (h:mgetO K.ok V.z m x=some r) (hX:V.vA r=X):PS P g (.lookup t a b false) ty X:=by
 subst hX hY
 unfold mgetO at h
 split at h
 ·rename_i hok
  cases h
  exact .p1 (.lkI hm.opd hx.opd (K.av x) (V.va _) fun w b es c hb hq=>MI.look false hok ht w b es c hb hq)
 ·cases h
theorem tup2 {w:World}{I:BSet}{ρ:AV->Value->Prop}{X:AV}{v:Value}(h:R w I ρ X v E0) (q:Bool):R w I ρ (.tup [X,BB q]) (.tuple #[v,.bool q]) E0:=by
 refine .tup (Fs:=fun _=>E0) rfl (fun k x u hx hu=>?_) (fun _ _ _ _ _ h=>h.elim) fun c=>⟨fun h=>h.elim,fun ⟨_,_,h⟩=>h⟩
 match k with
 | 0=>simp at hx hu; subst hx hu; exact h
 | 1=>simp at hx hu; subst hx hu; exact .lit rfl fun _ h=>h
 | k+2=>simp at hx
theorem O.lk2 {r:υ × Bool}{X Y:AV}(hm:Rd g a (.mref p)) (hp:atP g p=some (.mp (MI K V m))) (hx:Rd g b Y) (hY:K.kA x=Y) (ht:P.underlying t=some (.map k e)) (h:mget2 K.ok V.z m x=some r) (hX:V.vA r.1=X):PS P g (.lookup t a b true) ty (.tup [X,BB r.2]):=by
 subst hX hY
 unfold mget2 at h
 split at h
 ·rename_i hok
  cases h
  exact .p1 (.lkM hm.opd hp hx.opd (K.av x) (fun w I ρ=>tup2 (V.va _ w I ρ) _) fun w b es c hb hq=>MI.look true hok ht w b es c hb hq)
 ·cases h
theorem O.lk2I {r:υ × Bool}{X Y:AV}(hm:Rd g a (.imp (MI K V m))) (hx:Rd g b Y) (hY:K.kA x=Y) (ht:P.underlying t=some (.map k e)) (h:mget2 K.ok V.z m x=some r) (hX:V.vA r.1=X):PS P g (.lookup t a b true) ty (.tup [X,BB r.2]):=by
 subst hX hY
 unfold mget2 at h
 split at h
 ·rename_i hok
  cases h
  exact .p1 (.lkI hm.opd hx.opd (K.av x) (fun w I ρ=>tup2 (V.va _ w I ρ) _) fun w b es c hb hq=>MI.look true hok ht w b es c hb hq)
 ·cases h
theorem EO.mt {o:Oper}{x2 y0 Y Z:AV}{G2:List (Nat × AV)}(ho:o.op=.mapUpdate t a b c) (hd:o.dst=none) (hm:Rd g a (.mref p)) (hp:atP g p=some (.mp (MI K V m))) (hx:Rd g b Y) (hY:K.kA x=Y) (hy:Rd g c Z) (hZ:V.vA y=Z) (ht:P.underlying t=some (.map k e)) (h:mputO K.ok m x y=some m')
  (hx2:setP g p (.mp (MI K V m')) p.root=some x2) (hroot:(get G2 p.root).isSome=true) (hy0:g p.root=some y0) [hno:NRc y0] (hG:TrX g (get G2) p.root x2 G2):EO P N g o (get G2):=by
 subst hY hZ
 exact .mu ho hd hm.opd hp hx.opd hy.opd (K.av x) (V.av y) (fun w b es c hb hq=>MI.put h ht w b es c hb hq) hx2 hroot hy0 hG
end
def kStr (s:ByteArray):Bool:=decide (s.size<=9223372036854775807)
def MKS (hk:P.underlying k=some .string):MK P k ByteArray where
 kv s:=.string s
 kf s:=.string s.data.toList
 kA s:=SS s
 ok:=kStr
 keyed:=Maps.string_keyed hk
 key s h:=WideMaps.keyOf_string_mk hk (by
  unfold kStr at h
  have:=of_decide_eq_true h
  have e:maxLen=9223372036854775807:=rfl
  omega)
 inj x y h:=by
  cases x; cases y
  simp only [Lit.string.injEq] at h
  simp only [ByteArray.mk.injEq]
  exact Array.toList_inj.1 h
 av x w I ρ v h:=h.inv_lit.1
def MVI (hz:(P.info? e).bind (·.zero)=some (.int .i64 0)):MV P e Int where
 vv n:=.int .i64 n
 vA n:=I64 n
 z:=0
 zero w:=bind_zero hz w
 one _:=rfl
 av x w I ρ v h:=h.inv_lit.1
 va x w I ρ:=.lit rfl fun _ h=>h
end Go.Own
namespace Go.Own
open Go
set_option linter.unusedSectionVars false
variable [TB]
section
variable {α:Type}{P:Program}{N:Rm}{g:Gst}{d r:Nat}{ty t t2 e:TypeId}{a b:Operand}{k k':IntKind}{m n:Int}{p:Place}
def inO (L:List α) (m:Int):Option Unit:=if 0<=m/\m<=L.length then some () else none
instance:Lts eI:=⟨fun x=>[.int .i64 x],fun _=>rfl,fun x v hv=>by rw [List.mem_singleton.1 hv]; rfl⟩
theorem O.slS {en:En α}{L:List α}{u:Unit}(hx:Rd g a (.brw en.z p L.length)) (hl:Rd g b (.lit (.int k m))) (hp:atP g p=some (oR en L)) (ht:slT P t e en.z=true) (h:inO L m=some u):PS P g (.slice t a (some b) none none) ty (.sub en.z p m.toNat (L.length - m.toNat)):=by
 unfold inO at h
 split at h
 ·rename_i hc
  obtain ⟨i,rfl⟩:=Int.eq_ofNat_of_zero_le hc.1
  exact .p1 (.sliceBrw hx.opd ⟨_,hl.opd⟩ rfl ht (by omega) (Nat.le_refl _) ⟨_,_,hp,by omega⟩)
 ·cases h
def cpO (lo nd:Nat) (L S:List α):Option (List α):=if 0<min S.length nd/\lo+nd<=L.length then some (L.take lo++S.take (min S.length nd)++L.drop (lo+min S.length nd)) else none
def ltv (e:En α) [h:Lts e] (L:List α):List Value:=L.flatMap h.vals
theorem ltv_rowc (e:En α) [h:Lts e] (L:List α):rowc e L=(ltv e L).map .lit:=by
 induction L with
 | nil=>rfl
 | cons x L ih =>
  have:rowc e (x::L)=e.cells x++rowc e L:=by simp [rowc]
  rw [this,ih,h.cells]
  simp [ltv]
theorem SrcP.imm {en:En α}{S:List α}:Src g (iR en S) en.z S.length (rowc en S):=.imm
theorem SrcP.brw {en:En α} [Lts en] {L:List α}{q:Place}{n:Nat}(hq:atP g q=some (oR en L)) (hn:n<=L.length):Src g (.brw en.z q n) en.z (L.take n).length (rowc en (L.take n)):=by
 have h1:(L.take n).length=n:=by rw [List.length_take]; omega
 have h2:rowc en (L.take n)=(((rowc en L).take (n * en.z)).mapIdx fun i x=>refIn 0 (q.push i) x):=by
  rw [rowc_take,ltv_rowc]
  apply List.ext_getElem?
  intro j
  rw [List.getElem?_mapIdx]
  cases hj:((ltv en (L.take n)).map AV.lit)[j]? with
  | none=>rfl
  | some y =>
   obtain ⟨v,_,rfl⟩:=List.mem_map.1 (List.mem_of_getElem? hj)
   rfl
 rw [h1,h2]
 exact .brw hq hn
theorem slT_info {z:Nat}(h:slT P t e z=true):(P.info? e).map (·.size)=some z:=by
 unfold slT at h
 cases hu:P.underlying t with
 | none=>simp [hu] at h
 | some d =>
  cases hi:P.info? e with
  | none=>cases d <;> simp [hu,hi] at h
  | some i=>cases d <;> simp [hu,hi] at h; simp [h]
theorem EO.cp {o:Oper}{en:En α} [hl:Lts en] {L S L':List α}{lo nd:Nat}{ya yb:AV}{G2:List (Nat × AV)}(ho:o.op=.call { callee:=.builtin .copy,args:=#[a,b],argTypes:=#[t,t2] }) (hd:o.dst=some d) (ha:opd g a=some ya) (hya:ya=.sub en.z ⟨r,[]⟩ lo nd\/(ya=.brw en.z ⟨r,[]⟩ nd/\lo=0)) (hb:opd g b=some yb)
  (hsrc:Src g yb en.z S.length (rowc en S)) (hs:g r=some (oR en L)) (hz1:en.z=1) (ht:slT P t e 1=true) (h:cpO lo nd L S=some L') (hroot:(get G2 r).isSome=true) (hG:TrX g (get G2) r (oR en L') G2) (hgd:get G2 d=none) (hN:N.ok d=true) :
  EO P N g o (get ((d,I64 ((min S.length nd:Nat):Int))::G2)):=by
 unfold cpO at h
 by_cases hc:0<min S.length nd/\lo+nd<=L.length
 case neg=>rw [if_neg hc] at h; cases h
 rw [if_pos hc] at h
 obtain ⟨hk0,hkn⟩:=hc
 cases h
 generalize hk:min S.length nd=k at *
 have hkS:k<=S.length:=by omega
 have hkn':k<=nd:=by omega
 refine .sem fun w I T Fs h a' ha' hNs K Q hK'=>?_
 obtain ⟨hu,he,hsz⟩:=slT_spec (w:=w) ht
 have hp:atP g ⟨r,[]⟩=some (oR en L):=by simp [atP,hs,AV.at]
 have hRa:=opd_sound h ha ha'
 obtain ⟨v0,Fy,hv0,hRy,hFy⟩:=h.part hp (by simp)
 obtain ⟨a0,cap0,rfl,hcap,hlen,hoff,hsome⟩:=hRy.own_slice
 have hLpos:0<L.length:=by omega
 cases a0 with
 | none=>have:=hsome hLpos; simp at this
 | some ad0 =>
 obtain ⟨ho1,ho2⟩:=hoff ad0 rfl
 obtain ⟨g0,of0,sp0⟩:=ad0
 simp only at ho1 ho2
 subst ho1 ho2
 have hbF:Fy g0:=hRy.own_block g0 rfl
 -- the target
 have hdst:∃ cap,a'.eval a=.slice (some ⟨g0,lo,none⟩) nd cap:=by
  rcases hya with rfl | ⟨rfl,rfl⟩
  ·obtain ⟨⟨aa,N0,c0,a1,c1,h1,h2,_,_,h5⟩,_⟩:=hRa.inv_sub
   rw [h1] at hv0
   cases hv0
   obtain ⟨ad,e1,e2⟩:=h5 (by omega)
   cases e1
   rw [h2,e2,hz1]
   exact ⟨c1,by simp⟩
  ·obtain ⟨⟨aa,N0,c0,h1,h2,_⟩,_⟩:=hRa.inv_brw
   rw [h1] at hv0
   cases hv0
   exact ⟨_,h2⟩
 obtain ⟨dcap,hdst⟩:=hdst
 -- the source
 obtain ⟨sa,scap,news,hsv,hnl,hsa,hcell,hcl,hone,hR⟩:=hsrc.sound h (opd_sound h hb ha')
 rw [hz1,Nat.mul_one] at hnl
 cases sa with
 | none=>have:=hsa (by omega) (by omega); simp at this
 | some sad =>
 have hnv:news=ltv en S:=by
  rw [ltv_rowc,List.length_map] at hcl
  apply List.ext_getElem hcl.symm
  intro j h1 h2
  have:=(hR j (.lit (ltv en S)[j]) news[j] (by rw [ltv_rowc,List.getElem?_map,List.getElem?_eq_getElem h2]; rfl) (List.getElem?_eq_getElem h1)).inv_lit.1
  exact this
 -- the block
 cases hRy with
 | ref hx=>simp [AV.isRef] at hx
 | @own _ _ _ _ e' us Fk _ hrow hl' h1 hr hd' hbb hF =>
 obtain ⟨hus,hh⟩:=hrow
 rcases hh with ⟨hh,_⟩ | ⟨b',cap,cur,hh,r1,r2,r3,r4,r5,r6⟩
 ·cases hh
 cases hh
 have hcur:L.length<=cur.size:=by
  have h9:(cur.toList.take (L.length * en.z)).length=L.length * en.z:=by rw [r6,hus]
  rw [List.length_take,hz1,Nat.mul_one,Array.length_toList] at h9
  rw [hz1] at r5
  omega
 have hcsl:(news.take k).length=k:=by rw [List.length_take]; omega
 have hrun:(execOp a'.eval o).run P w=.ok (.value (goInt k)) (w.setRow g0 (splice cur.toList lo (news.take k)).toArray):=by
  have h8:=run_copy_row (P:=P) w t t2 o.type e g0 lo nd dcap sad S.length scap cur e' (news.take k) hu (slT_info ht) r2 (by rw [hcsl]; exact hk.symm) (fun j v hj=>by
   rw [List.getElem?_take] at hj
   split at hj
   ·exact hcell sad rfl j v hj
   ·cases hj) (by rw [hcsl]; omega) (fun v hv=>by
   obtain ⟨j,hj⟩:=List.getElem?_of_mem (List.mem_of_mem_take hv)
   exact hone j v hj)
  rw [hcsl] at h8
  have e5:(cur.toList.take lo++news.take k++cur.toList.drop (lo+k))=splice cur.toList lo (news.take k):=by unfold splice; rw [hcsl]
  rw [e5] at h8
  simp [execOp,ho,resolve,invoke,hdst,hsv,builtin,h8]
 -- the state
 have hrel:∀ (j:Nat) (x:AV) (u:Value),((rowc en S).take k)[j]?=some x->(news.take k)[j]?=some u->R w I (RefAt w T) x u E0:=fun j x u hx hu=>by
  rw [List.getElem?_take] at hx hu
  split at hx
  ·rename_i hj
   rw [if_pos hj] at hu
   exact (hR j x u hx hu).frame (fun _ _=>rfl) (fun _ h=>h) (fun _ _ h=>h.1) fun _ _=>rfl
  ·cases hx
 have hH:Hand w I (RefAt w T) Fs ((rowc en S).take k) (news.take k) (fun _=>E0) :=
  ⟨by rw [List.length_take,List.length_take,hcl],hrel,fun _ _ _ _ _ h=>h.elim,fun _ _ _ _ h=>h.elim,fun _ _ _ h=>h.elim⟩
 have hcl2:((rowc en S).take k).length=k:=by rw [List.length_take,hcl]; omega
 have hLl:(rowc en L).length=L.length:=by rw [rowc_len,hz1,Nat.mul_one]
 have hnew:(oR en L).splice lo ((rowc en S).take k)=oR en (L.take lo++S.take k++L.drop (lo+k)):=by
  show AV.own en.z L.length (splice (rowc en L) lo ((rowc en S).take k))=_
  have e1:splice (rowc en L) lo ((rowc en S).take k)=rowc en (L.take lo++S.take k++L.drop (lo+k)):=by
   unfold splice
   rw [hcl2,rowc_app,rowc_app]
   have q1:=rowc_take en L lo
   have q2:=rowc_take en S k
   have q3:=rowc_drop en L (lo+k)
   rw [hz1,Nat.mul_one] at q1 q2 q3
   rw [q1,q2,q3]
  unfold oR
  rw [e1]
  congr 1
  simp; omega
 have hone2:∀ (j:Nat) (u:Value),(news.take k)[j]?=some u->u.oneCell'=true:=fun j u hu=>by
  rw [List.getElem?_take] at hu
  split at hu
  ·exact hone j u hu
  ·cases hu
 have c1:∀ t x,get G2 t=some x->setP g ⟨r,[]⟩ ((oR en L).splice lo ((rowc en S).take k)) t=some x:=fun t x hx=>by
  rw [hnew]
  rcases hG.spec t x hx with ⟨h1,h2,_⟩ | ⟨h1,h2,_⟩
  ·rw [setP_slot h1]; exact h2
  ·subst h1 h2; simp [setP,hs,AV.setAt]
 have c2:∀ t x,get G2 t=some x->∀ y,g t=some y->RKp (fun q=>RefOk g q/\Clear ⟨r,[]⟩ lo ((rowc en S).take k).length q/\RefOk (get G2) q) y:=fun t x hx y hy=>by
  rcases hG.spec t x hx with ⟨h1,h2,h3⟩ | ⟨h1,h2,h3⟩
  ·rw [h2] at hy; cases hy
   rcases h3 with h3 | ⟨_,c2,e9⟩
   ·exact h3.rkq
   ·cases e9
  ·subst h1; rw [hs] at hy; cases hy; exact .nr (.own (rowc_nr en L))
 have c3:∀ t z q n m new,get G2 t≠some (.pend z q n m new):=fun t z q n m new hx=>by
  rcases hG.spec t _ hx with ⟨_,_,h3 | ⟨h3,_⟩⟩ | ⟨_,_,h3⟩
  ·exact h3.np _ _ _ _ _ rfl
  ·exact h3.np _ _ _ _ _ rfl
  ·cases h3
 obtain ⟨Fs2,hS2,hsub⟩:=h.toC.store (g2:=get G2) hp (.inl rfl) (k:=lo) (cs':=(rowc en S).take k) (by rw [hcl2,hLl]; omega) hH (fun x hx=>rowc_nr en S x (List.mem_of_mem_take hx)) (fun h=>by cases h) hone2 c1 c2 c3 (by intro e; rw [e] at hroot; cases hroot) hv0 rfl r2
 have hput:=hS2.put0 (d:=d) (x:=I64 (k:Int)) (v:=goInt k) (F:=E0) hgd (by rw [<- ha',hNs]; exact Rm.lt hN) (.tree (.lit rfl fun _ h=>h)) (fun _ _ h=>h.elim) (fun _ h=>h.elim) (by rintro z p n m new e; cases e)
 unfold Oper.wp Oper.upon
 simp only [hrun]
 have e5:get ((d,I64 (k:Int))::G2)=upd (get G2) d (I64 (k:Int)):=by
  funext t
  rw [get_cons]
 rw [<- e5] at hput
 have hbU:∃ t,Fs t g0:=⟨_,hFy g0 hbF⟩
 refine hK' _ _ ⟨by rw [hd]; rfl,by rw [hd]; exact Hold.put hN _ _,I,_,by rw [hd]; simpa [Act.put,ha'] using hput,⟨⟨rfl,rfl,rfl,by simp,fun c _ hc=>setRow_other w g0 c _ (fun e=>hc (e ▸ hbU)),fun a _ _=>fz_setRow w g0 _ a,Nat.le_refl _⟩,fun _ h=>h,fun _ h=>.inl h,fun c hc=>?_⟩⟩ fun t ht=>by rw [hd]; simp only [Act.put]; rw [Array.getElem?_setIfInBounds_ne]; rintro rfl; exact ht hd
 obtain ⟨t,hc⟩:=hc
 simp only [updF] at hc
 split at hc
 ·exact hc.elim
 ·rcases hsub t c hc with h'' | ⟨_,_,h''⟩
  ·exact .inl ⟨t,h''⟩
  ·exact h''.elim
end
end Go.Own
namespace Go.Own
open Go
set_option linter.unusedSectionVars false
variable [TB]
structure Perm (π:List Nat) (n:Nat):Prop where
 len:π.length=n
 mem:∀ k,k<n->π.idxOf k<n/\π.getD (π.idxOf k) n=k
 lt:∀ j,j<n->π.getD j n<n/\π.idxOf (π.getD j n)=j
section
variable {P:Program}{Q:Exit->Act->World->Prop}{π:List Nat}{l:List Oper}
end
section
variable {P:Program}{N:Rm}
end
end Go.Own
namespace Go.Own
open Go
set_option linter.unusedSectionVars false
variable [TB]
section
variable {α:Type}{P:Program}{N:Rm}{g:Gst}{a b:Operand}{t:TypeId}{m i:Int}
end
end Go.Own
namespace Go.Own
open Go
set_option linter.unusedSectionVars false
variable [TB]
section
variable {P:Program}{N:Rm}{ops:Array Oper}{AT:List (List Nat)}{g g0:Gst}{K:Gst->Prop}{l:List Oper}{acc:Acc}{d i j t':Nat}{op:Op}{ty:TypeId}{pos:String}{after:Array Edge}{x:AV}{b c:Bool}
end
section
variable {P:Program}{N:Rm}{ops:Array Oper}{g:Gst}{K:Gst->Prop}{l:List Oper}{A B:Code}{G G1:List (Nat × AV)}{Φ:Exit->Gst->Prop}{t id:Nat}{b:Bool}{α:Type}{X Y o:α}
def pick (g:Gst):List Nat->Option (List (Nat × AV))
 | []=>some []
 | k::ks=>match g k with
  | some x=>match pick g ks with
   | some l=>some ((k,x)::l)
   | none=>none
  | none=>none
class NRg (l:List (Nat × AV)):Prop where p:∀ e∈l,NR e.2
instance:NRg []:=⟨fun _ h=>by cases h⟩
instance {k:Nat}{x:AV}{l:List (Nat × AV)} [h:NRc x] [hl:NRg l]:NRg ((k,x)::l):=⟨fun e he=>by
 rcases List.mem_cons.1 he with rfl | he
 ·exact h.nr
 ·exact hl.p e he⟩
theorem pick_trim {c:Bool}{g g2:Gst}:∀ {ks:List Nat}{G1:List (Nat × AV)},pick g ks=some G1->(∀ e∈G1,NR e.2)->Trim c g g2 G1
 | [],_,h,_=>by cases h; exact .nil
 | k::ks,G1,h,hn=>by
  unfold pick at h
  split at h
  ·rename_i x hx
   split at h
   ·rename_i l hl
    cases h
    have:NRc x:=⟨hn (k,x) (by simp)⟩
    exact .n hx (pick_trim hl fun e he=>hn e (by simp [he]))
   ·cases h
  ·cases h
structure Kk (ks:List Nat) (G1:List (Nat × AV)) (g':Gst):Prop where p:Wk g' (get G1)
theorem Fk {ks:List Nat}(h:pick g ks=some G1) [hn:NRg G1]:RunL P N ops [] g (Kk ks G1):=.nil ⟨(pick_trim (c:=true) (g2:=get G1) h hn.p).wk⟩
theorem kkW {l:List Oper}{ks:List Nat}(h:RunL P N l.toArray l g (Kk ks G1)):RunL P N l.toArray l g fun g'=>Wk g' (get G1):=fun i hi=>by
 obtain ⟨g',h1,h2⟩:=h i hi
 exact ⟨g',h1,h2.p⟩
theorem RunL.rk (ks:List Nat) (h:pick g ks=some G1) [hn:NRg G1] (hk:RunL P N ops l (get G1) K):RunL P N ops l g K:=.re (pick_trim h hn.p) hk
theorem W.rk {l:List Oper}(ks:List Nat) (h:RunL P N l.toArray l (get G) (Kk ks G1)) (hk:Px .normal Φ G1):W P N (.region id l.toArray false) (get G) Φ:=W.rx G1 (kkW h) hk
end
end Go.Own
namespace Go.Own
open Go
set_option linter.unusedSectionVars false
variable [TB]
class F1 (P:Program) (t:TypeId):Prop where p:cellT P t=true:=by kernel_rfl
class F2 (P:Program) (t:TypeId):Prop where p:strT P t=true:=by kernel_rfl
class F3 (P:Program) (t:TypeId) (e:outParam TypeId) (z:outParam Nat):Prop where p:slT P t e z=true:=by kernel_rfl
class F4 (P:Program) (s:TypeId) (f:Nat) (off:outParam Nat) (t:outParam TypeId):Prop where p:fldT P s f off t=true:=by kernel_rfl
section
variable {P:Program}{N:Rm}{ops:Array Oper}{g:Gst}{K:Gst->Prop}{l:List Oper}{ty t:TypeId}{a:Operand}{k r z n:Nat}{cs ds:List AV}
end
section
variable {P:Program}{N:Rm}{ops:Array Oper}{g:Gst}{K:Gst->Prop}{l:List Oper}{t0 d:Nat}{t1 t2 ty:TypeId}{a1 a2 a3:Operand}{n1:Nat}{v0:Value}{pos:String}{after:Array Edge}{op:Op}{gu:Nat × Bool}
end
end Go.Own
namespace Go.Own
open Go
set_option linter.unusedSectionVars false
variable [TB]
section
variable {P:Program}{N:Rm}{G:List (Nat × AV)}{g':Gst}
end
end Go.Own
namespace Go.Own
open Go
set_option linter.unusedSectionVars false
variable [TB]
section
variable {P:Program}{N:Rm}{G:List (Nat × AV)}{g':Gst}{S R:Type}
end
end Go.Own
namespace Go.Own
open Go
set_option linter.unusedSectionVars false
variable [TB]
section
variable {α:Type}{P:Program}{g:Gst}{ty t:TypeId}{a b:Operand}{k r z n:Nat}{cs cs':List AV}{x y:AV}{p:Place}{m:Int}{ki:IntKind}{e:TypeId}{N:Rm}{ops:Array Oper}
end
section
variable {P:Program}{N:Rm}{ops:Array Oper}{AT:List (List Nat)}{K:Gst->Prop}{i:Nat}{acc:Acc}{l:List Oper}{d:Nat}
end
end Go.Own
namespace Go.Own
open Go
set_option linter.unusedSectionVars false
variable [TB]
set_option linter.unusedVariables false
def splo:List AV->Nat->List AV->Option (List AV)
 | [],0,[]=>some []
 | [],_,_=>none
 | x::l,0,[]=>some (x::l)
 | _::l,0,y::c=>match splo l 0 c with
  | some r=>some (y::r)
  | none=>none
 | x::l,k+1,c=>match splo l k c with
  | some r=>some (x::r)
  | none=>none
theorem splo_eq:∀ {l:List AV}{k:Nat}{c r:List AV},splo l k c=some r->splice l k c=r/\k+c.length<=l.length
 | [],0,[],r,h=>by cases h; exact ⟨rfl,Nat.le_refl _⟩
 | [],0,_::_,_,h=>by cases h
 | [],_+1,_,_,h=>by cases h
 | x::l,0,[],r,h=>by cases h; exact ⟨by simp [splice],by simp⟩
 | x::l,0,y::c,r,h=>by
  unfold splo at h
  split at h
  ·rename_i r' hr
   cases h
   obtain ⟨h1,h2⟩:=splo_eq hr
   subst h1
   exact ⟨by simp [splice],by simp at h2 ⊢; omega⟩
  ·cases h
 | x::l,k+1,c,r,h=>by
  unfold splo at h
  split at h
  ·rename_i r' hr
   cases h
   obtain ⟨h1,h2⟩:=splo_eq hr
   subst h1
   exact ⟨by simp [splice,Nat.add_right_comm],by simp; omega⟩
  ·cases h
theorem pick_trS {g g2:Gst}{r:Nat}{cs2:List AV}:∀ {ks:List Nat}{G1:List (Nat × AV)},pick (upd g r (.obj cs2)) ks=some G1->(∀ e∈G1,NR e.2)->TrS g g2 r cs2 G1
 | [],_,h,_=>by cases h; exact .nil
 | k::ks,G1,h,hn=>by
  unfold pick at h
  split at h
  ·rename_i x hx
   split at h
   ·rename_i l hl
    cases h
    have ht:=pick_trS (g2:=g2) hl fun e he=>hn e (by simp [he])
    by_cases e:k=r
    ·subst e
     have e:x=.obj cs2:=by simpa [upd] using hx.symm
     subst e
     have hx:NR (.obj cs2):=hn (k,.obj cs2) (by simp)
     have:NRl cs2:=⟨by cases hx; assumption⟩
     exact .b rfl ht
    ·have:NRc x:=⟨hn (k,x) (by simp)⟩
     exact .n (by rw [<- Bool.not_eq_true,Nat.beq_eq]; exact e) (by simpa [upd,e] using hx) ht
   ·cases h
  ·cases h
section
variable {P:Program}{N:Rm}{ops:Array Oper}{g:Gst}{K:Gst->Prop}{l:List Oper}{d r k0:Nat}{ty t:TypeId}{pos:String}{after:Array Edge}{a b x:Operand}{cs cs' cs2:List AV}{y:AV}{G2:List (Nat × AV)}{u:Option (Nat × Bool)}{p q:Place}
theorem EO.sp {α:Type}{en:En α}{L M:List α}{s:Nat}{cs1:List AV}(ks:List Nat) (hb:Rd g b (.brw en.z ⟨s,[]⟩ (L.length+M.length)):=by exact .pend rfl) (hps:g s=some (.pend en.z q L.length M.length (rowc en M)):=by rfl) (hp:atP g q=some (oR en L):=by rfl) (ha:Rd g a (.ptr ⟨r,[]⟩ k0):=by (first | exact .ptr rfl | exact .obj rfl)) (hs:setP (setP g ⟨s,[]⟩ .dead) q .dead r=some (.obj cs1):=by rfl) (he:splo cs1 k0 [oR en (L++M)]=some cs2:=by rfl) (hk:pick (upd (setP (setP g ⟨s,[]⟩ .dead) q .dead) r (.obj cs2)) ks=some G2:=by rfl) (hq:Nat.beq q.root s=false:=by rfl) (hz:sizeT P t 1=true:=by kernel_rfl) (hr:(get G2 r).isSome=true:=by rfl) [hno:NRl cs1] [hg:NRg G2]:EO P N g ⟨none,.store t a b,ty,pos,after,none⟩ (get G2) :=
 .stP rfl rfl ha hb hps hp hq .ns .rf rfl rfl hz hs (Nat.ble_eq_true_of_le (splo_eq he).2) (splo_eq he).1 hr (pick_trS hk hg.p)
end
section
variable {S R:Type}{P:Program}{N:Rm}{A B c:Code}{G:List (Nat × AV)}{Φ:Exit->Gst->Prop}{id:Nat}
end
end Go.Own
namespace Go.Proofs
open Go Go.Shelf Go.RowKit Go.Lib Go.Sort Go.Own
def Try.sortI_ren:Go.Shelf.Ren:=⟨fun | 6=>17 | 15=>21 | 14=>20 | 28=>31 | 29=>32 | 20=>23 | 21=>24 | 22=>25 | 23=>26 | 24=>27 | 25=>28 | 26=>29 | 27=>30 | 46=>34 | 47=>35 | 48=>36 | 49=>37 | 50=>38 | 57=>39 | n=>n,fun | 22=>33 | 24=>3 | 25=>44 | 3=>3 | 39=>47 | 0=>0 | 53=>56 | 55=>58 | 4=>4 | 46=>50 | 45=>49 | 50=>41 | 5=>5 | 9=>9 | 66=>59 | 70=>63 | 76=>65 | 77=>66 | n=>n,fun | n=>n⟩
theorem Try.sortI:Go.Proofs.SlLaysF.n6 Try.prog Try.sortI_ren:={
 mixed:=by kernel_rfl
 f6:=⟨Try.f17.name,by decide,Try.func17.trans (congrArg some (by kernel_rfl))⟩
 f14:=⟨Try.f20.name,by decide,Try.func20.trans (congrArg some (by kernel_rfl))⟩
 f15:=Try.func21.trans (congrArg some (by kernel_rfl))
 f20:=⟨Try.f23.name,by decide,Try.func23.trans (congrArg some (by kernel_rfl))⟩
 f21:=⟨Try.f24.name,by decide,Try.func24.trans (congrArg some (by kernel_rfl))⟩
 f22:=⟨Try.f25.name,by decide,Try.func25.trans (congrArg some (by kernel_rfl))⟩
 f23:=⟨Try.f26.name,by decide,Try.func26.trans (congrArg some (by kernel_rfl))⟩
 f24:=⟨Try.f27.name,by decide,Try.func27.trans (congrArg some (by kernel_rfl))⟩
 f25:=⟨Try.f28.name,by decide,Try.func28.trans (congrArg some (by kernel_rfl))⟩
 f26:=⟨Try.f29.name,by decide,Try.func29.trans (congrArg some (by kernel_rfl))⟩
 f27:=⟨Try.f30.name,by decide,Try.func30.trans (congrArg some (by kernel_rfl))⟩
 f28:=Try.func31.trans (congrArg some (by kernel_rfl))
 f29:=Try.func32.trans (congrArg some (by kernel_rfl))
 f46:=⟨Try.f34.name,by decide,Try.func34.trans (congrArg some (by kernel_rfl))⟩
 f47:=Try.func35.trans (congrArg some (by kernel_rfl))
 f48:=Try.func36.trans (congrArg some (by kernel_rfl))
 f49:=⟨Try.f37.name,by decide,Try.func37.trans (congrArg some (by kernel_rfl))⟩
 f50:=⟨Try.f38.name,by decide,Try.func38.trans (congrArg some (by kernel_rfl))⟩
 f57:=⟨Try.f39.name,by decide,Try.func39.trans (congrArg some (by kernel_rfl))⟩
 t0:=Try.underlying0
 a0:=Try.isAgg0
 z0:=Try.sizeOf0
 v0:=Try.zeroValue0
 t3:=Try.underlying3
 a3:=Try.isAgg3
 z3:=Try.sizeOf3
 v3:=Try.zeroValue3
 t4:=Try.underlying4
 a4:=Try.isAgg4
 z4:=Try.sizeOf4
 v4:=Try.zeroValue4
 t5:=Try.underlying5
 a5:=Try.isAgg5
 z5:=Try.sizeOf5
 v5:=Try.zeroValue5
 t9:=Try.underlying9
 a9:=Try.isAgg9
 z9:=Try.sizeOf9
 v9:=Try.zeroValue9
 t22:=Try.underlying33
 a22:=Try.isAgg33
 z22:=Try.sizeOf33
 v22:=Try.zeroValue33
 a24:=Try.isAgg3
 z24:=Try.sizeOf3
 t25:=Try.underlying44
 a25:=Try.isAgg44
 z25:=Try.sizeOf44
 v25:=Try.zeroValue44
 t39:=Try.underlying47
 a39:=Try.isAgg47
 z39:=Try.sizeOf47
 v39:=Try.zeroValue47
 t45:=Try.underlying49
 a45:=Try.isAgg49
 z45:=Try.sizeOf49
 v45:=Try.zeroValue49
 t46:=Try.underlying50
 a46:=Try.isAgg50
 z46:=Try.sizeOf50
 v46:=Try.zeroValue50
 t50:=Try.underlying41
 a50:=Try.isAgg41
 z50:=Try.sizeOf41
 v50:=Try.zeroValue41
 t53:=Try.underlying56
 a53:=Try.isAgg56
 z53:=Try.sizeOf56
 v53:=Try.zeroValue56
 t55:=Try.underlying58
 a55:=Try.isAgg58
 z55:=Try.sizeOf58
 v55:=Try.zeroValue58
 t66:=Try.underlying59
 a66:=Try.isAgg59
 z66:=Try.sizeOf59
 v66:=Try.zeroValue59
 t70:=Try.underlying63
 a70:=Try.isAgg63
 z70:=Try.sizeOf63
 v70:=Try.zeroValue63
 t76:=Try.underlying65
 a76:=Try.isAgg65
 z76:=Try.sizeOf65
 v76:=Try.zeroValue65
 t77:=Try.underlying66
 a77:=Try.isAgg66
 z77:=Try.sizeOf66
 v77:=Try.zeroValue66 }
instance:TB:=⟨fun _ _=>True,fun _ _ _=>trivial⟩
theorem sort17 {g:FuncId}{caps:List AV} [hcp:NRl caps] (hg:callT Try.prog g=true) {l r:List Int}{cf:Int->Int->Option Int}(h:sortO cf l=some r)
  (hc:∀ a b v,cf a b=some v->Con Try.prog g (I64 a::I64 b::caps) (none::none::caps.map fun _=>none) (I64 v)) :
  Con Try.prog 17 [oR eI l,.clo (.func g) [] caps] [some (oR eI r),none] (.tup []):=Con.sortI Try.sortI hg h hc
open Go Go.Own
set_option maxRecDepth 100000
set_option linter.unusedVariables false
def pf22 (a0:ByteArray) (a1:ByteArray):Option (Int) :=
 some (cmpB a0 a1)
def pf19 (a0:ByteArray) (a1:ByteArray):Option (Int) :=
 (pf22 a0 a1).bind fun x1 =>
 some x1
def pf10 (a0:(List ByteArray)) (a1:ByteArray):Option (Int) :=
 (loopM (R:=(Unit) ⊕ (Int)) (fun (s1:Int) =>
 (bif decide (s1<(a0.length:Int)) then
 (idx a0 s1).bind fun x6 =>
 (bif decide (x6=a1) then
 some (.inr (.inr s1))
 else
 some (.inl (w64 (s1+1))))
 else
 some (.inr (.inl ())))) 0).bind fun x2 =>
 (match x2 with
 | .inl x3 =>
 some (-1)
 | .inr x4 =>
 some x4)
def pf7 (a0:(List ByteArray)):Option ((List ByteArray)) :=
 (loopM (R:=List ByteArray) (fun (s1:List ByteArray × Int) =>
 (bif decide (s1.2<(a0.length:Int)) then
 ((idx a0 s1.2).bind fun x6 =>
 (pf10 s1.1 x6).bind fun x7 =>
 ((bif decide (x7<0) then
 (idx a0 s1.2).bind fun x10 =>
 (appO s1.1 [x10]).bind fun x11 =>
 some (s1.1++[x10])
 else
 some s1.1)).bind fun j8 =>
 some j8).bind fun j5 =>
 some (.inl (j5,w64 (s1.2+1)))
 else
 some (.inr s1.1))) (([]:List ByteArray),0)).bind fun x2 =>
 some x2
def pf16 (a0:ByteArray) (a1:Int):Option (ByteArray) :=
 (bif decide (a1<(a0.size:Int)) then
 (cutO a0 0 a1).bind fun x2 =>
 some x2
 else
 some a0)
def pf6 (a0:(List ByteArray)):Option ((List ByteArray)) :=
 (loopM (R:=List ByteArray) (fun (s1:List ByteArray × Int) =>
 ((bif decide (s1.2<(a0.length:Int)) then some (decide (s1.2<40)) else some false)).bind fun c5 =>
 (bif c5 then
 (idx a0 s1.2).bind fun x7 =>
 (pf16 x7 30).bind fun x8 =>
 (appO s1.1 [x8]).bind fun x9 =>
 some (.inl (s1.1++[x8],w64 (s1.2+1)))
 else
 some (.inr s1.1))) (([]:List ByteArray),0)).bind fun x2 =>
 some x2
structure names_Names where
 f_list:(List ByteArray)
 f_of:(List (ByteArray × Int))
 deriving DecidableEq,Inhabited
theorem un9:Try.prog.underlying 9=some (.string):=by kernel_rfl
noncomputable abbrev mk9:MK Try.prog 9 ByteArray:=MKS un9
theorem zv3:(Try.prog.info? 3).bind (·.zero)=some (.int .i64 0):=by kernel_rfl
noncomputable abbrev mv3:MV Try.prog 3 Int:=MVI zv3
noncomputable def enames_Names_0:En names_Names:=⟨2,fun x=>[iR eS x.f_list,.imp (MI mk9 mv3 x.f_of)],fun _=>rfl,fun _=>NRl.nr⟩
instance:Flat enames_Names_0:=⟨fun _=>rfl⟩
instance:Tw enames_Names_0 enames_Names_0:=⟨rfl,fun x=>(inferInstance:Vws [iR eS x.f_list,.imp (MI mk9 mv3 x.f_of)] [iR eS x.f_list,.imp (MI mk9 mv3 x.f_of)])⟩
noncomputable def enames_Names_r:En names_Names:=⟨2,fun x=>[oR eS x.f_list,.mp (MI mk9 mv3 x.f_of)],fun _=>rfl,fun _=>NRl.nr⟩
def pf8 :Option (names_Names) :=
 some (⟨([]:List ByteArray),([]:List (ByteArray × Int))⟩:names_Names)
def pf9 (a0:names_Names) (a1:ByteArray):Option (Int × names_Names) :=
 (mget2 kStr 0 a0.f_of a1).bind fun x1 =>
 (bif x1.2 then
 some (x1.1,a0)
 else
 (appO a0.f_list [a1]).bind fun x3 =>
 (mputO kStr a0.f_of a1 (w64 (((a0.f_list++[a1]).length:Int) - 1))).bind fun x4 =>
 some (w64 (((a0.f_list++[a1]).length:Int) - 1),(⟨a0.f_list++[a1],x4⟩:names_Names)))
def pf11 (a0:names_Names) (a1:Int):Option (ByteArray × Bool) :=
 ((bif decide (a1<0) then some true else some (decide ((a0.f_list.length:Int)<=a1)))).bind fun c2 =>
 (bif c2 then
 some ({ data:=#[] },false)
 else
 (idx a0.f_list a1).bind fun x4 =>
 some (x4,true))
def pf12 (a0:names_Names):Option (Int) :=
 some (a0.f_list.length:Int)
def pf13 (a0:names_Names) (a1:ByteArray):Option (Int) :=
 (mget2 kStr 0 a0.f_of a1).bind fun x1 =>
 (bif x1.2 then
 some x1.1
 else
 some (-1))
def pf15 (a0:(List Int)) (a1:(List Int)):Option (Bool) :=
 (bif !decide ((a0.length:Int)=(a1.length:Int)) then
 some false
 else
 (loopM (R:=(Unit) ⊕ (Bool)) (fun (s2:Int) =>
 (bif decide (s2<(a0.length:Int)) then
 (idx a0 s2).bind fun x7 =>
 (idx a1 s2).bind fun x8 =>
 (bif !decide (x7=x8) then
 some (.inr (.inr false))
 else
 some (.inl (w64 (s2+1))))
 else
 some (.inr (.inl ())))) 0).bind fun x3 =>
 (match x3 with
 | .inl x4 =>
 some true
 | .inr x5 =>
 some x5))
def pf18 (a0:Int) (a1:Int) (c0:names_Names):Option (Int) :=
 (idx c0.f_list a0).bind fun x1 =>
 (idx c0.f_list a1).bind fun x2 =>
 (pf19 x1 x2).bind fun x3 =>
 some x3
def pf14 (a0:names_Names):Option ((List Int)) :=
 (loopM (R:=List Int) (fun (s1:List Int × Int) =>
 (bif decide (s1.2<(a0.f_list.length:Int)) then
 (appO s1.1 [s1.2]).bind fun x5 =>
 some (.inl (s1.1++[s1.2],w64 (s1.2+1)))
 else
 some (.inr s1.1))) (([]:List Int),0)).bind fun x2 =>
 (sortO (fun a b=>pf18 a b a0) x2).bind fun x6 =>
 some x6
def pf5 :Option (Bool) :=
 (pf8 ).bind fun x1 =>
 (bif false then
 some false
 else
 (pf9 x1 ({ data:=#[98] })).bind fun x3 =>
 (pf9 x3.2 ({ data:=#[97] })).bind fun x4 =>
 (pf9 x4.2 ({ data:=#[98] })).bind fun x5 =>
 (pf11 x5.2 1).bind fun x6 =>
 (pf11 x5.2 2).bind fun x7 =>
 ((bif decide (x3.1=0) then (bif decide (x4.1=1) then (bif decide (x5.1=0) then (bif decide (x6.1={ data:=#[97] }) then (bif x6.2 then (bif !x7.2 then ((pf13 x5.2 ({ data:=#[99] })).bind fun x14=>(bif decide (x14=(-1)) then ((pf12 x5.2).bind fun x16=>(bif decide (x16=2) then ((pf14 x5.2).bind fun x18=>((pf15 x18 [1,0]).bind fun x19=>some x19)) else some false)) else some false)) else some false) else some false) else some false) else some false) else some false) else some false)).bind fun c20 =>
 some c20)
def pf3 (a0:(List ByteArray)) (a1:ByteArray):Option (Bool) :=
 (pf5 ).bind fun x1 =>
 (bif !x1 then
 some false
 else
 (pf6 a0).bind fun x3 =>
 (pf7 x3).bind fun x4 =>
 (pf8 ).bind fun x5 =>
 (loopM (R:=(List ByteArray × (List (ByteArray × Int))) ⊕ (Bool)) (fun (s6:Int × List ByteArray × (List (ByteArray × Int))) =>
 (bif decide (s6.1<(x3.length:Int)) then
 (idx x3 s6.1).bind fun x11 =>
 (idx x3 s6.1).bind fun x12 =>
 (pf9 (⟨s6.2.1,s6.2.2⟩:names_Names) x11).bind fun x13 =>
 (pf10 x4 x12).bind fun x14 =>
 (bif !decide (x13.1=x14) then
 some (.inr (.inr false))
 else
 some (.inl (w64 (s6.1+1),x13.2.f_list,x13.2.f_of)))
 else
 some (.inr (.inl (s6.2.1,s6.2.2))))) (0,x5.f_list,x5.f_of)).bind fun x7 =>
 (match x7 with
 | .inl x8 =>
 (loopM (R:=(Unit) ⊕ (Bool)) (fun (s16:Int) =>
 (bif decide (s16<=(x4.length:Int)) then
 (pf11 (⟨x8.1,x8.2⟩:names_Names) s16).bind fun x21 =>
 ((bif decide (0<=s16) then (bif !(x21.2 == (decide (s16<(x4.length:Int)))) then some true else (bif x21.2 then ((idx x4 s16).bind fun x25=>(bif !decide (x21.1=x25) then some true else (bif !x21.2 then some (!decide (x21.1={ data:=#[] })) else some false))) else (bif !x21.2 then some (!decide (x21.1={ data:=#[] })) else some false))) else (bif !(x21.2 == false) then some true else (bif x21.2 then ((idx x4 s16).bind fun x31=>(bif !decide (x21.1=x31) then some true else (bif !x21.2 then some (!decide (x21.1={ data:=#[] })) else some false))) else (bif !x21.2 then some (!decide (x21.1={ data:=#[] })) else some false))))).bind fun c35 =>
 (bif c35 then
 some (.inr (.inr false))
 else
 some (.inl (w64 (s16+1))))
 else
 some (.inr (.inl ())))) (-1)).bind fun x17 =>
 (match x17 with
 | .inl x18 =>
 (((pf12 (⟨x8.1,x8.2⟩:names_Names)).bind fun x37=>(bif decide (x37=(x4.length:Int)) then ((pf13 (⟨x8.1,x8.2⟩:names_Names) a1).bind fun x39=>((pf10 x4 a1).bind fun x40=>some (decide (x39=x40)))) else some false))).bind fun c41 =>
 some c41
 | .inr x19 =>
 some x19)
 | .inr x9 =>
 some x9))
def pf4 (a0:(List ByteArray)):Option (Bool) :=
 (pf5 ).bind fun x1 =>
 (bif !x1 then
 some false
 else
 (pf8 ).bind fun x3 =>
 (pf6 a0).bind fun x4 =>
 (loopM (R:=List ByteArray × (List (ByteArray × Int))) (fun (s5:Int × List ByteArray × (List (ByteArray × Int))) =>
 (bif decide (s5.1<(x4.length:Int)) then
 (idx x4 s5.1).bind fun x9 =>
 (pf9 (⟨s5.2.1,s5.2.2⟩:names_Names) x9).bind fun x10 =>
 some (.inl (w64 (s5.1+1),x10.2.f_list,x10.2.f_of))
 else
 some (.inr (s5.2.1,s5.2.2)))) (0,x3.f_list,x3.f_of)).bind fun x6 =>
 (pf14 (⟨x6.1,x6.2⟩:names_Names)).bind fun x11 =>
 (((pf12 (⟨x6.1,x6.2⟩:names_Names)).bind fun x12=>(bif !decide ((x11.length:Int)=x12) then some true else ((pf12 (⟨x6.1,x6.2⟩:names_Names)).bind fun x14=>((pf7 x4).bind fun x15=>some (!decide (x14=(x15.length:Int)))))))).bind fun c16 =>
 (bif c16 then
 some false
 else
 (loopM (R:=(Unit) ⊕ (Bool)) (fun (s18:Int) =>
 (bif decide (s18<(x11.length:Int)) then
 (idx x11 (w64 (s18 - 1))).bind fun x23 =>
 (pf11 (⟨x6.1,x6.2⟩:names_Names) x23).bind fun x24 =>
 (idx x11 s18).bind fun x25 =>
 (pf11 (⟨x6.1,x6.2⟩:names_Names) x25).bind fun x26 =>
 ((bif !x24.2 then some true else (bif !x26.2 then some true else some (!Op.bytesLess x24.1.toList x26.1.toList)))).bind fun c29 =>
 (bif c29 then
 some (.inr (.inr false))
 else
 some (.inl (w64 (s18+1))))
 else
 some (.inr (.inl ())))) 1).bind fun x19 =>
 (match x19 with
 | .inl x20 =>
 some true
 | .inr x21 =>
 some x21)))
end Go.Proofs
namespace Go.Own
open Go
variable {α β S R:Type}
abbrev LR (p:S->Prop) (q:R->Prop) (x:S ⊕ R):Prop:=Sum.elim p q x
def Tot (x:Option α) (Φ:α->Prop):Prop:=∃ a,x=some a/\Φ a
namespace Tot
variable {Φ Ψ:α->Prop}
theorem so {a:α}(h:Φ a):Tot (some a) Φ:=⟨a,rfl,h⟩
theorem bi {x:Option β}{f:β->Option α}(h:Tot x fun a=>Tot (f a) Φ):Tot (x.bind f) Φ:=by
 obtain ⟨a,rfl,b,hb,hΦ⟩:=h
 exact ⟨b,hb,hΦ⟩
theorem sm {f:β->Option α}{a:β}(h:Tot (f a) Φ):Tot ((some a).bind f) Φ:=h
theorem use {x:Option α}(h:Tot x Ψ) (hi:∀ a,Ψ a->Φ a):Tot x Φ:=by
 obtain ⟨a,ha,hΨ⟩:=h
 exact ⟨a,ha,hi a hΨ⟩
theorem by' {x:Option β}{f:β->Option α}{Ξ:β->Prop}(h:Tot x Ξ) (hk:∀ a,Ξ a->Tot (f a) Φ):Tot (x.bind f) Φ:=bi (h.use hk)
theorem cd {c:Bool}{a b:Option α}(ht:c=true->Tot a Φ) (hf:c=false->Tot b Φ):Tot (cond c a b) Φ:=by
 cases c
 ·exact hf rfl
 ·exact ht rfl
theorem cp {p:Prop} [Decidable p] {a b:Option α}(ht:p->Tot a Φ) (hf:¬ p->Tot b Φ):Tot (cond (decide p) a b) Φ :=
 cd (fun h=>ht (of_decide_eq_true h)) (fun h=>hf (of_decide_eq_false h))
theorem ix {l:List α}{i:Int}(h0:0<=i) (h1:i<l.length) (hk:∀ y,idx l i=some y->y∈l->Φ y):Tot (idx l i) Φ:=by
 have hlt:i.toNat<l.length:=by omega
 have:idx l i=some l[i.toNat]:=by simp [idx,h0,hlt]
 exact ⟨_,this,hk _ this (List.getElem_mem hlt)⟩
theorem ap {Φ:List α->Prop}{l m:List α}(h:l.length+m.length<=lim) (hk:Φ (l++m)):Tot (appO l m) Φ:=by
 refine ⟨l++m,?_,hk⟩
 unfold appO
 rw [if_pos h]
theorem loop {f:S->Option (S ⊕ R)}{s0:S}{Ψ:R->Prop}(Inv:S->Prop) (μ:S->Nat) (h0:Inv s0) (hμ:μ s0<fuel)
  (hs:∀ s,Inv s->Tot (f s) (LR (fun s'=>Inv s'/\μ s'<μ s) Ψ)):Tot (loopM f s0) Ψ:=by
 have key:∀ n s,Inv s->μ s<n->Tot (iter f n s) Ψ:=by
  intro n
  induction n with
  | zero=>intro s _ h; omega
  | succ n ih =>
   intro s hI hm
   obtain ⟨x,hx,hP⟩:=hs s hI
   cases x with
   | inl s' =>
    obtain ⟨h1,h2⟩:=hP
    simp only [iter,hx]
    exact ih s' h1 (by omega)
   | inr r =>
    simp only [iter,hx]
    exact ⟨r,rfl,hP⟩
 exact key fuel s0 h0 hμ
theorem count {f:S->Option (S ⊕ R)}{s0:S}{Ψ:R->Prop}(i:S->Int) (n:Int) (Inv:S->Prop) (h0:Inv s0) (hn:n - i s0<1000000000000000000)
  (hs:∀ s,Inv s->Tot (f s) (LR (fun s'=>Inv s'/\i s<i s'/\i s'<=n) Ψ)):Tot (loopM f s0) Ψ:=by
 refine loop Inv (fun s=>(n - i s).toNat) h0 (by show (n - i s0).toNat<1000000000000000000; omega) fun s hI=>(hs s hI).use fun x hx=>?_
 cases x with
 | inl s'=>exact ⟨hx.1,by have:=hx.2; show (n - i s').toNat<(n - i s).toNat; omega⟩
 | inr r=>exact hx
end Tot
theorem w64_id {n:Int}(h0:-9223372036854775808<=n) (h1:n<=9223372036854775807):w64 n=n:=by
 show IntKind.i64.wrap n=n
 rw [IntKind.wrap_i64]; omega
namespace Tot
theorem cut {Φ:ByteArray->Prop}{s:ByteArray}{m n:Int}(h:0<=m/\m<=n/\n<=s.size) (hk:Φ (cutS s m n)):Tot (cutO s m n) Φ:=by
 refine ⟨_,?_,hk⟩
 unfold cutO
 rw [if_pos h]
theorem sub {Φ:List α->Prop}{l:List α}{m n:Int}(h:0<=m/\m<=n/\n<=l.length) (hk:Φ ((l.drop m.toNat).take (n - m).toNat)):Tot (subO l m n) Φ:=by
 refine ⟨_,?_,hk⟩
 unfold subO
 rw [if_pos h]
theorem mk {Φ:List α->Prop}{m:Int}{z:α}(h:0<=m/\m<=lim) (hk:Φ (List.replicate m.toNat z)):Tot (mkO m z) Φ:=by
 refine ⟨_,?_,hk⟩
 unfold mkO
 rw [if_pos h]
theorem ex {x:Option α}{Φ:α->Prop}(h:Tot x Φ):∃ a,x=some a/\Φ a:=h
end Tot
namespace Tot
theorem scan {f:Int->Option (Int ⊕ (Unit ⊕ R))}(l:List β) (P:β->Prop) (Q:R->Prop) (hl:l.length<=100000000000000000)
  (hs:∀ (s:Int) (y:β),0<=s->s<l.length->idx l s=some y->y∈l->Tot (f s) (LR (fun s'=>s'=s+1/\P y) (LR (fun _=>False) Q)))
  (he:∀ s:Int,¬ s<l.length->f s=some (.inr (.inl ()))):Tot (loopM f 0) (LR (fun _=>∀ y∈l,P y) Q):=by
 refine count (fun s=>s) l.length (fun s=>0<=s/\s<=l.length/\∀ (j:Nat) (y:β),(j:Int)<s->l[j]?=some y->P y) ⟨by omega,by omega,fun j y h=>by omega⟩ (by show (l.length:Int) - 0<_; omega) fun s hI=>?_
 obtain ⟨h0,h1,h2⟩:=hI
 by_cases hlt:s<l.length
 ·have hlt':s.toNat<l.length:=by omega
  have hi:idx l s=some l[s.toNat]:=by simp [idx,h0,hlt']
  refine (hs s _ h0 hlt hi (List.getElem_mem hlt')).use fun x hx=>?_
  rcases x with s' | ⟨⟨⟩⟩ | r
  ·obtain ⟨rfl,hP⟩:=hx
   refine ⟨⟨by omega,by omega,fun j y hj hy=>?_⟩,by show s<s+1; omega,by show s+1<=_; omega⟩
   by_cases hjs:(j:Int)<s
   ·exact h2 j y hjs hy
   ·have:j=s.toNat:=by omega
    subst this
    rw [List.getElem?_eq_getElem hlt'] at hy
    cases hy; exact hP
  ·exact hx.elim
  ·exact hx
 ·rw [he s hlt]
  refine so fun y hy=>?_
  obtain ⟨j,hj,rfl⟩:=List.mem_iff_getElem.1 hy
  exact h2 j _ (by omega) (List.getElem?_eq_getElem hj)
end Tot
end Go.Own
namespace Go.Proofs
open Go Go.Own Go.Sort
set_option maxRecDepth 100000
set_option linter.unusedVariables false
def fi:List ByteArray->ByteArray->Option Nat
 | [],_=>none
 | y::l,s=>if y=s then some 0 else (fi l s).map (·+1)
theorem fi_none {s:ByteArray}:∀ {l:List ByteArray},fi l s=none↔s∉l
 | []=>by simp [fi]
 | y::l=>by
  unfold fi
  by_cases h:y=s
  ·simp [h]
  ·rw [if_neg h,Option.map_eq_none_iff,fi_none (l:=l)]
   simp only [List.mem_cons,not_or]
   exact ⟨fun h2=>⟨fun e=>h e.symm,h2⟩,fun h2=>h2.2⟩
theorem fi_get {s:ByteArray}:∀ {l:List ByteArray}{i:Nat},fi l s=some i->l[i]?=some s
 | [],i,h=>by cases h
 | y::l,i,h=>by
  unfold fi at h
  split at h
  ·rename_i e
   cases h; rw [e]; rfl
  ·obtain ⟨j,hj,rfl⟩:=Option.map_eq_some_iff.1 h
   rw [List.getElem?_cons_succ]; exact fi_get hj
theorem fi_nd {s:ByteArray}:∀ {l:List ByteArray}{i:Nat},l.Nodup->l[i]?=some s->fi l s=some i
 | [],i,_,h=>by cases h
 | y::l,0,_,h=>by cases h; simp [fi]
 | y::l,i+1,hd,h=>by
  obtain ⟨h1,h2⟩:=List.nodup_cons.1 hd
  have h:l[i]?=some s:=by simpa using h
  have hn:y≠s:=by rintro rfl; exact h1 (List.mem_of_getElem? h)
  unfold fi
  rw [if_neg hn,fi_nd h2 h]; rfl
theorem fi_app {s:ByteArray}{m:List ByteArray}:∀ {l:List ByteArray},fi (l++m) s=match fi l s with | some i=>some i | none=>(fi m s).map (·+l.length)
 | []=>by simp [fi]
 | y::l=>by
  simp only [List.cons_append,fi]
  by_cases h:y=s
  ·simp [h]
  ·rw [if_neg h,if_neg h,fi_app (l:=l)]
   cases fi l s with
   | some i=>rfl
   | none =>
    simp only [Option.map_map,Option.map_none]
    congr 1
noncomputable def put (o:List ByteArray) (s:ByteArray):List ByteArray:=@ite _ (s∈o) (Classical.propDecidable _) o (o++[s])
theorem put_pre (o:List ByteArray) (s:ByteArray):∃ m,put o s=o++m:=by
 unfold put
 split
 ·exact ⟨[],by simp⟩
 ·exact ⟨[s],rfl⟩
theorem fold_pre:∀ (l o:List ByteArray),∃ m,l.foldl put o=o++m
 | [],o=>⟨[],by simp⟩
 | s::l,o=>by
  obtain ⟨m,hm⟩:=fold_pre l (put o s)
  obtain ⟨m',hm'⟩:=put_pre o s
  exact ⟨m'++m,by rw [List.foldl_cons,hm,hm',List.append_assoc]⟩
theorem put_nd {o:List ByteArray}{s:ByteArray}(h:o.Nodup):(put o s).Nodup:=by
 unfold put
 split
 ·exact h
 ·rename_i hs
  rw [List.nodup_append]
  refine ⟨h,by simp,fun a ha b hb=>?_⟩
  rw [List.mem_singleton.1 hb]
  exact fun e=>hs (e ▸ ha)
theorem put_mem {o:List ByteArray}{s:ByteArray}:s∈put o s:=by
 unfold put
 split
 ·assumption
 ·simp
theorem put_len (o:List ByteArray) (s:ByteArray):(put o s).length<=o.length+1:=by
 unfold put
 split <;> simp
theorem fold_nd:∀ (l:List ByteArray) {o:List ByteArray},o.Nodup->(l.foldl put o).Nodup
 | [],_,h=>h
 | s::l,_,h=>fold_nd l (put_nd h)
theorem fold_len:∀ (l o:List ByteArray),(l.foldl put o).length<=o.length+l.length
 | [],o=>Nat.le_refl _
 | s::l,o=>by
  have h1:=fold_len l (put o s)
  have h2:=put_len o s
  rw [List.foldl_cons,List.length_cons]; omega
theorem fold_take {l:List ByteArray}{k:Nat}{y:ByteArray}(h:l[k]?=some y):(l.take (k+1)).foldl put []=put ((l.take k).foldl put []) y:=by
 rw [List.take_add_one,h,List.foldl_append]; rfl
theorem c16 (s:ByteArray):Tot (pf16 s 30) fun r=>r.size<=30:=by
 unfold pf16
 refine .cp (fun h=>?_) (fun h=>.so (by omega))
 refine .by' (Tot.cut (Φ:=fun r=>r.size<=30) ⟨by decide,by decide,by omega⟩ ?_) fun x hx=>.so hx
 show (cutS s 0 30).size<=30
 unfold cutS
 rw [ByteArray.size_extract]; omega
theorem c6 (l:List ByteArray):Tot (pf6 l) fun r=>r.length<=40/\∀ x∈r,x.size<=30:=by
 unfold pf6
 refine .by' (Tot.count (fun s=>s.2) 40 (fun s=>0<=s.2/\s.2<=40/\s.1.length=s.2.toNat/\∀ x∈s.1,x.size<=30) ⟨by decide,by decide,rfl,by simp⟩ (by decide) fun s hs=>?_) fun x hx=>.so hx
 obtain ⟨o,k⟩:=s
 obtain ⟨h0,h1,h2,h3⟩:=hs
 simp only at h0 h1 h2 h3 ⊢
 have hc:∀ b:Bool,(bif decide (k<(l.length:Int)) then some (decide (k<40)) else some false)=some b->(b=true->k<l.length/\k<40):=by
  intro b hb e
  subst e
  by_cases hk:k<(l.length:Int)
  ·simp [hk] at hb; exact ⟨hk,hb⟩
  ·simp [hk] at hb
 have ht:Tot (bif decide (k<(l.length:Int)) then some (decide (k<40)) else some false) fun b=>b=true->k<l.length/\k<40:=by
  refine .cp (fun h=>.so fun e=>⟨h,of_decide_eq_true e⟩) (fun h=>.so fun e=>by cases e)
 refine .by' ht fun b hb=>.cd (fun e=>?_) (fun e=>.so ⟨by rw [h2]; omega,h3⟩)
 obtain ⟨hk,hk4⟩:=hb e
 refine .bi (Tot.ix h0 hk fun y hy hm=>?_)
 refine .by' (c16 y) fun x hx=>?_
 refine .bi (Tot.ap ?_ ?_)
 ·show o.length+1<=lim
  rw [h2]; have:lim=1099511627776:=rfl
  omega
 ·have hw:w64 (k+1)=k+1:=w64_id (by omega) (by omega)
  refine .so ⟨⟨?_,?_,?_,?_⟩,?_,?_⟩
  ·show 0<=w64 (k+1); omega
  ·show w64 (k+1)<=40; omega
  ·show (o++[x]).length=(w64 (k+1)).toNat
   rw [hw,List.length_append,h2]; simp; omega
  ·intro z hz
   rcases List.mem_append.1 hz with hz | hz
   ·exact h3 z hz
   ·rw [List.mem_singleton.1 hz]; exact hx
  ·show k<w64 (k+1); omega
  ·show w64 (k+1)<=40; omega
theorem c10 (l:List ByteArray) (s:ByteArray) (hl:l.length<=1000):Tot (pf10 l s) fun r=>(s∉l/\r=-1)\/∃ i:Nat,r=i/\l[i]?=some s:=by
 unfold pf10
 refine .by' (Tot.scan l (fun y=>y≠s) (fun r=>∃ i:Nat,r=(i:Int)/\l[i]?=some s) (by omega) (fun k y h0 h1 hi hy=>?_) (fun k hk=>?_)) fun x hx=>?_
 ·rw [decide_eq_true h1,hi]
  simp only [cond_true,Option.bind_some]
  refine .cp (fun e=>.so ⟨k.toNat,by omega,?_⟩) (fun e=>.so ⟨w64_id (by omega) (by omega),e⟩)
  rw [(idx_spec hi).2.2,e]
 ·rw [decide_eq_false hk]; rfl
 ·rcases x with ⟨⟩ | r
  ·exact .so (.inl ⟨fun h=>hx s h rfl,rfl⟩)
  ·exact .so (.inr hx)
def fz (l:List ByteArray) (s:ByteArray):Int:=match fi l s with | some i=>i | none=>-1
theorem e10 {l:List ByteArray}(s:ByteArray) (hl:l.length<=1000) (hd:l.Nodup):pf10 l s=some (fz l s):=by
 obtain ⟨r,hr,h⟩:=c10 l s hl
 rw [hr]
 unfold fz
 rcases h with ⟨h,rfl⟩ | ⟨i,rfl,h⟩
 ·rw [fi_none.2 h]
 ·rw [fi_nd hd h]
theorem e7 (l:List ByteArray) (hl:l.length<=40):pf7 l=some (l.foldl put []):=by
 have:Tot (pf7 l) fun r=>r=l.foldl put []:=by
  unfold pf7
  refine .by' (Tot.count (fun s=>s.2) l.length (fun s=>0<=s.2/\s.2<=l.length/\s.1=(l.take s.2.toNat).foldl put []) ⟨by decide,by show (0:Int)<=_; omega,rfl⟩ (by show (l.length:Int) - 0<_; omega) fun s hs=>?_) fun x hx=>.so hx
  obtain ⟨o,k⟩:=s
  obtain ⟨h0,h1,h2⟩:=hs
  simp only at h0 h1 h2 ⊢
  have ho:o.length<=40:=by
   have:=fold_len (l.take k.toNat) []
   rw [<- h2,List.length_take] at this
   simp at this; omega
  have hn:o.Nodup:=by rw [h2]; exact fold_nd _ (by simp)
  refine .cp (fun hk=>?_) (fun hk=>.so ?_)
  ·obtain ⟨y,hy⟩:∃ y,l[k.toNat]?=some y:=⟨_,List.getElem?_eq_getElem (by omega:k.toNat<l.length)⟩
   have hi:idx l k=some y:=by unfold idx; rw [if_pos h0,hy]
   have hw:w64 (k+1)=k+1:=w64_id (by omega) (by omega)
   have hT:(k+1).toNat=k.toNat+1:=by omega
   refine .by' (Ξ:=fun j=>j=put o y) ?_ fun j hj=>.so ⟨⟨?_,?_,?_⟩,?_,?_⟩
   ·rw [hi]
    simp only [Option.bind_some]
    refine .by' (c10 o y (by omega)) fun r hr=>.by' (Ξ:=fun j=>j=put o y) (.cp (fun hr0=>?_) (fun hr0=>.so ?_)) fun j hj=>.so hj
    ·rcases hr with ⟨h,_⟩ | ⟨i,rfl,_⟩
     ·refine .bi (Tot.ap ?_ (.so ?_))
      ·show o.length+1<=lim
       have:lim=1099511627776:=rfl
       omega
      ·unfold put; rw [if_neg h]
     ·omega
    ·rcases hr with ⟨_,rfl⟩ | ⟨i,rfl,h⟩
     ·omega
     ·unfold put; rw [if_pos (List.mem_of_getElem? h)]
   ·show 0<=w64 (k+1); omega
   ·show w64 (k+1)<=(l.length:Int); omega
   ·show j=_
    rw [hj,hw,hT,fold_take hy,<- h2]
   ·show k<w64 (k+1); omega
   ·show w64 (k+1)<=(l.length:Int); omega
  ·show o=_
   rw [h2,List.take_of_length_le (by omega)]
 obtain ⟨r,hr,rfl⟩:=this
 exact hr
structure NOk (n:names_Names) (o:List ByteArray):Prop where
 li:n.f_list=o
 nd:o.Nodup
 of:∀ s,tget n.f_of s=(fi o s).map Int.ofNat
 le:n.f_of.length<=o.length
theorem nok8:Tot pf8 fun n=>NOk n []:=.so ⟨rfl,by simp,fun s=>rfl,Nat.le_refl _⟩
theorem ks {s:ByteArray}(h:s.size<=9223372036854775807):kStr s=true:=by unfold kStr; simpa using h
theorem c9 {n:names_Names}{o:List ByteArray}{s:ByteArray}(h:NOk n o) (hl:o.length<=1000) (hs:s.size<=30):Tot (pf9 n s) fun r=>r.1=fz (put o s) s/\NOk r.2 (put o s):=by
 unfold pf9
 have hk:kStr s=true:=ks (by omega)
 obtain ⟨rfl,hnd,hof,hle⟩:=h
 have hm:mget2 kStr 0 n.f_of s=some ((tget n.f_of s).getD 0,(tget n.f_of s).isSome):=by unfold mget2; rw [if_pos hk]
 rw [hm,hof]
 simp only [Option.bind_some]
 cases hf:fi n.f_list s with
 | some i =>
  have hmem:s∈n.f_list:=List.mem_of_getElem? (fi_get hf)
  have hp:put n.f_list s=n.f_list:=by unfold put; rw [if_pos hmem]
  rw [hp]
  refine .so ⟨?_,rfl,hnd,hof,hle⟩
  unfold fz; rw [hf]; rfl
 | none =>
  have hmem:=fi_none.1 hf
  have hp:put n.f_list s=n.f_list++[s]:=by unfold put; rw [if_neg hmem]
  have hlim:lim=1099511627776:=rfl
  simp only [Option.map_none,Option.isSome_none,cond_false]
  refine .bi (Tot.ap (by show _+1<=lim; omega) ?_)
  have hw:w64 (((n.f_list++[s]).length:Int) - 1)=(n.f_list.length:Int):=by
   rw [w64_id (by omega) (by simp; omega)]; simp
  rw [hw]
  have hq:mputO kStr n.f_of s (n.f_list.length:Int)=some ((s,(n.f_list.length:Int))::n.f_of):=by
   unfold mputO; rw [hk,if_pos]; simp; omega
  rw [hq]
  have hfa:∀ x,fi (n.f_list++[s]) x=if s=x then some n.f_list.length else fi n.f_list x:=by
   intro x
   rw [fi_app]
   by_cases e:s=x
   ·subst e; rw [hf]; simp [fi]
   ·cases hx:fi n.f_list x with
    | some j=>simp [e]
    | none=>simp [fi,e]
  rw [hp]
  refine .so ⟨?_,rfl,hp ▸ put_nd hnd,fun x=>?_,?_⟩
  ·show (n.f_list.length:Int)=_
   unfold fz; rw [hfa,if_pos rfl]
  ·show tget ((s,(n.f_list.length:Int))::n.f_of) x=_
   rw [hfa]
   unfold tget
   by_cases e:s=x
   ·simp [e]
   ·simp only [if_neg e]; exact hof x
  ·simp; omega
theorem fz_pre {o m:List ByteArray}{s:ByteArray}(h:s∈o):fz (o++m) s=fz o s:=by
 unfold fz
 rw [fi_app]
 cases hf:fi o s with
 | some i=>rfl
 | none=>exact absurd h (fi_none.1 hf)
theorem c11 {n:names_Names}{o:List ByteArray}(h:NOk n o) (i:Int):Tot (pf11 n i) fun r=>(0<=i/\i<o.length/\r.2=true/\o[i.toNat]?=some r.1)\/(¬ (0<=i/\i<o.length)/\r=({ data:=#[] },false)):=by
 unfold pf11
 obtain ⟨rfl,_,_,_⟩:=h
 refine .by' (Ξ:=fun c=>c=true↔¬ (0<=i/\i<n.f_list.length)) (.cp (fun h=>.so (by simp; omega)) (fun h=>.so (by simp; omega))) fun c hc=>.cd (fun e=>.so (.inr ⟨hc.1 e,rfl⟩)) (fun e=>?_)
 have h2:0<=i/\i<n.f_list.length:=by
  refine Classical.not_not.1 fun h=>?_
  rw [hc.2 h] at e; cases e
 refine .bi (Tot.ix h2.1 h2.2 fun y hy _=>.so (.inl ⟨h2.1,h2.2,rfl,?_⟩))
 exact (idx_spec hy).2.2
theorem c13 {n:names_Names}{o:List ByteArray}(h:NOk n o) {s:ByteArray}(hs:s.size<=9223372036854775807):pf13 n s=some (fz o s):=by
 unfold pf13
 have hm:mget2 kStr 0 n.f_of s=some ((tget n.f_of s).getD 0,(tget n.f_of s).isSome):=by unfold mget2; rw [if_pos (ks hs)]
 rw [hm,h.of]
 unfold fz
 cases fi o s <;> rfl
theorem bl_cons {a b:UInt8}{x y:List UInt8}:Op.bytesLess (a::x) (b::y)=true↔a.toNat<b.toNat\/(a.toNat=b.toNat/\Op.bytesLess x y=true):=by
 show (decide (a<b)||(a == b&&Op.bytesLess x y))=true↔_
 simp only [Bool.or_eq_true,Bool.and_eq_true,decide_eq_true_eq,beq_iff_eq,UInt8.lt_iff_toNat_lt,UInt8.toNat_inj]
theorem bl_irr:∀ x:List UInt8,Op.bytesLess x x=false
 | []=>rfl
 | a::x=>by
  have h:=bl_irr x
  cases hc:Op.bytesLess (a::x) (a::x) with
  | false=>rfl
  | true =>
   rcases bl_cons.1 hc with h1 | ⟨_,h1⟩
   ·omega
   ·rw [h] at h1; cases h1
theorem bl_tr:∀ {x y z:List UInt8},Op.bytesLess x y=true->Op.bytesLess y z=true->Op.bytesLess x z=true
 | _,[],_,h,_=>by unfold Op.bytesLess at h; cases h
 | _,_::_,[],_,h=>by unfold Op.bytesLess at h; cases h
 | [],_::_,_::_,_,_=>rfl
 | a::x,b::y,c::z,h1,h2=>by
  rw [bl_cons] at h1 h2 ⊢
  rcases h1 with h1 | ⟨h1,h3⟩ <;> rcases h2 with h2 | ⟨h2,h4⟩
  ·left; omega
  ·left; omega
  ·left; omega
  ·right; exact ⟨by omega,bl_tr h3 h4⟩
theorem bl_tri:∀ x y:List UInt8,Op.bytesLess x y=true\/Op.bytesLess y x=true\/x=y
 | [],[]=>.inr (.inr rfl)
 | [],_::_=>.inl rfl
 | _::_,[]=>.inr (.inl rfl)
 | a::x,b::y=>by
  rw [bl_cons,bl_cons]
  rcases Nat.lt_trichotomy a.toNat b.toNat with h | h | h
  ·exact .inl (.inl h)
  ·rcases bl_tri x y with h2 | h2 | h2
   ·exact .inl (.inr ⟨h,h2⟩)
   ·exact .inr (.inl (.inr ⟨h.symm,h2⟩))
   ·exact .inr (.inr (by rw [UInt8.toNat_inj.1 h,h2]))
  ·exact .inr (.inl (.inl h))
theorem cmp_bl:∀ x y:List UInt8,Lib.compareBytes x y<0↔Op.bytesLess x y=true
 | [],[]=>by simp [Lib.compareBytes,Op.bytesLess]
 | [],_::_=>by simp [Lib.compareBytes,Op.bytesLess]
 | _::_,[]=>by simp [Lib.compareBytes,Op.bytesLess]
 | a::x,b::y=>by
  rw [bl_cons]
  unfold Lib.compareBytes
  simp only [UInt8.lt_iff_toNat_lt]
  by_cases h1:a.toNat<b.toNat
  ·simp [h1]
  ·rw [if_neg h1]
   by_cases h2:b.toNat<a.toNat
   ·rw [if_pos h2]
    simp [h1]; omega
   ·rw [if_neg h2,cmp_bl x y]
    have:a.toNat=b.toNat:=by omega
    simp [this]
def ls (a b:ByteArray):Bool:=Op.bytesLess a.toList b.toList
theorem cmpB_ls (a b:ByteArray):decide (cmpB a b<0)=ls a b:=by
 unfold cmpB ls
 rw [ByteArray.toList_eq,ByteArray.toList_eq]
 cases h:Op.bytesLess a.data.toList b.data.toList with
 | true=>rw [decide_eq_true_eq]; exact (cmp_bl _ _).2 h
 | false =>
  rw [decide_eq_false_iff_not]
  intro h2
  rw [(cmp_bl _ _).1 h2] at h; cases h
theorem ls_irr (a:ByteArray):ls a a=false:=bl_irr _
theorem ls_tr {a b c:ByteArray}(h1:ls a b=true) (h2:ls b c=true):ls a c=true:=bl_tr h1 h2
theorem ls_tri (a b:ByteArray):ls a b=true\/ls b a=true\/a=b:=by
 rcases bl_tri a.toList b.toList with h | h | h
 ·exact .inl h
 ·exact .inr (.inl h)
 ·exact .inr (.inr (bytes_ext h))
theorem isort_pw {α:Type} [DecidableEq α] {lt:α->α->Bool}{l:List α}(h:ordB lt l=true):(isort lt l).Pairwise fun a b=>(!lt b a)=true:=by
 have hsp:=ordB_spec h
 have hO:SWO (fun x y:{ x:α // x∈l }=>lt x.1 y.1):=by
  refine ⟨fun x=>(hsp x.1 x.2).1,fun x y z p q=>(((hsp x.1 x.2).2 y.1 y.2).2 z.1 z.2).1 ⟨p,q⟩,fun x y z p q=>?_⟩
  rcases (((hsp x.1 x.2).2 y.1 y.2).2 z.1 z.2).2 with h | h | h
  ·have p:lt x.1 y.1=false:=p
   rw [p] at h; cases h
  ·have q:lt y.1 z.1=false:=q
   rw [q] at h; cases h
  ·exact h
 have hs:=isort_sorted hO l.attach
 have hm:(isort (fun x y:{ x:α // x∈l }=>lt x.1 y.1) l.attach).map Subtype.val=isort lt (l.attach.map Subtype.val):=isort_map (lt':=lt) (f:=Subtype.val) (fun a b=>rfl) l.attach
 rw [List.attach_map_subtype_val] at hm
 rw [<- hm,List.pairwise_map]
 exact hs
theorem c18 {n:names_Names}{i j:Nat}{a b:ByteArray}(ha:n.f_list[i]?=some a) (hb:n.f_list[j]?=some b):pf18 i j n=some (cmpB a b):=by
 unfold pf18 pf19 pf22 idx
 simp [ha,hb]
theorem c14 {n:names_Names}{o:List ByteArray}(h:NOk n o) (hl:o.length<=1000):Tot (pf14 n) fun s=>s.length=o.length/\∀ (k:Nat) (i j:Int),s[k]?=some i->s[k+1]?=some j->∃ a b,(0<=i/\i<o.length)/\(0<=j/\j<o.length)/\o[i.toNat]?=some a/\o[j.toNat]?=some b/\ls a b=true:=by
 unfold pf14
 obtain ⟨rfl,hnd,_,_⟩:=h
 refine .by' (Tot.count (fun s=>s.2) n.f_list.length (fun s=>0<=s.2/\s.2<=n.f_list.length/\s.1=(List.range s.2.toNat).map Int.ofNat) ⟨by decide,by show (0:Int)<=_; omega,rfl⟩ (by show (n.f_list.length:Int) - 0<_; omega) (Ψ:=fun r=>r=(List.range n.f_list.length).map Int.ofNat) fun s hs=>?_) fun x hx=>?_
 ·obtain ⟨o,k⟩:=s
  obtain ⟨h0,h1,h2⟩:=hs
  simp only at h0 h1 h2 ⊢
  refine .cp (fun hk=>?_) (fun hk=>.so ?_)
  ·have hw:w64 (k+1)=k+1:=w64_id (by omega) (by omega)
   have hT:(k+1).toNat=k.toNat+1:=by omega
   have hol:o.length=k.toNat:=by rw [h2]; simp
   refine .bi (Tot.ap ?_ (.so ⟨⟨?_,?_,?_⟩,?_,?_⟩))
   ·show o.length+1<=lim
    have:lim=1099511627776:=rfl
    omega
   ·show 0<=w64 (k+1); omega
   ·show w64 (k+1)<=(n.f_list.length:Int); omega
   ·show o++[k]=_
    rw [hw,hT,List.range_succ,List.map_append,<- h2]
    simp; omega
   ·show k<w64 (k+1); omega
   ·show w64 (k+1)<=(n.f_list.length:Int); omega
  ·show o=_
   rw [h2]; congr 2; omega
 ·subst hx
  generalize hL:(List.range n.f_list.length).map Int.ofNat=L
  have mem:∀ a∈L,∃ i:Nat,a=i/\∃ x,n.f_list[i]?=some x:=by
   intro a ha
   rw [<- hL] at ha
   obtain ⟨i,hi,rfl⟩:=List.mem_map.1 ha
   have hi:=List.mem_range.1 hi
   exact ⟨i,rfl,_,List.getElem?_eq_getElem hi⟩
  let cf:Int->Int->Option Int:=fun a b=>pf18 a b n
  have hcf:∀ {i j:Nat}{a b:ByteArray},n.f_list[i]?=some a->n.f_list[j]?=some b->ltO cf i j=ls a b:=by
   intro i j a b ha hb
   unfold ltO
   show decide (((pf18 i j n).getD 0)<0)=_
   rw [c18 ha hb]; exact cmpB_ls a b
  have hord:ordB (ltO cf) L=true:=by
   unfold ordB
   refine List.all_eq_true.2 fun x hx=>?_
   obtain ⟨i,rfl,a,ha⟩:=mem x hx
   rw [hcf ha ha,ls_irr,Bool.not_false,Bool.true_and]
   refine List.all_eq_true.2 fun y hy=>?_
   obtain ⟨j,rfl,b,hb⟩:=mem y hy
   rw [hcf ha hb,hcf hb ha,Bool.and_eq_true]
   refine ⟨?_,List.all_eq_true.2 fun z hz=>?_⟩
   ·rcases ls_tri a b with h | h | h
    ·simp [h]
    ·simp [h]
    ·subst h
     have h1:=fi_nd hnd ha
     have h2:=fi_nd hnd hb
     rw [h1] at h2
     cases h2; simp
   ·obtain ⟨m,rfl,c,hc⟩:=mem z hz
    rw [hcf hb hc,hcf ha hc]
    cases h1:ls a b <;> cases h2:ls b c <;> cases h3:ls a c <;> simp
    ·rcases ls_tri a b with h | h | h
     ·rw [h1] at h; cases h
     ·have:=ls_tr h h3; rw [h2] at this; cases this
     ·subst h; rw [h2] at h3; cases h3
    ·have:=ls_tr h1 h2; rw [h3] at this; cases this
  have hsort:sortO cf L=some (isort (ltO cf) L):=by
   unfold sortO
   rw [if_pos]
   rw [Bool.and_eq_true,Bool.and_eq_true]
   refine ⟨⟨List.all_eq_true.2 fun x hx=>List.all_eq_true.2 fun y hy=>?_,hord⟩,?_⟩
   ·obtain ⟨i,rfl,a,ha⟩:=mem x hx
    obtain ⟨j,rfl,b,hb⟩:=mem y hy
    show (pf18 i j n).isSome=true
    rw [c18 ha hb]; rfl
   ·rw [<- hL]; simp; omega
  refine .bi ⟨_,hsort,.so ⟨?_,fun k i j hi hj=>?_⟩⟩
  ·rw [(isort_perm _ L).length_eq,<- hL]; simp
  ·have hp:=isort_pw hord
   have hperm:=isort_perm (ltO cf) L
   have hndL:(isort (ltO cf) L).Nodup:=hperm.nodup_iff.2 (by
    rw [<- hL]
    exact List.pairwise_map.2 (List.Pairwise.imp (fun {a b} h e=>h (Int.ofNat.inj e)) List.nodup_range))
   obtain ⟨hk1,e1⟩:=List.getElem?_eq_some_iff.1 hi
   obtain ⟨hk2,e2⟩:=List.getElem?_eq_some_iff.1 hj
   have hle:=List.pairwise_iff_getElem.1 hp k (k+1) hk1 hk2 (by omega)
   have hne:i≠j:=by
    rw [<- e1,<- e2]
    exact List.pairwise_iff_getElem.1 hndL k (k+1) hk1 hk2 (by omega)
   rw [e1,e2] at hle
   obtain ⟨p,rfl,a,ha⟩:=mem i (hperm.mem_iff.1 (e1 ▸ List.getElem_mem hk1))
   obtain ⟨q,rfl,b,hb⟩:=mem j (hperm.mem_iff.1 (e2 ▸ List.getElem_mem hk2))
   have lp:=(List.getElem?_eq_some_iff.1 ha).1
   have lq:=(List.getElem?_eq_some_iff.1 hb).1
   refine ⟨a,b,⟨by omega,by omega⟩,⟨by omega,by omega⟩,by simpa using ha,by simpa using hb,?_⟩
   rw [hcf hb ha] at hle
   rcases ls_tri a b with h | h | h
   ·exact h
   ·rw [h] at hle; cases hle
   ·subst h
    have h1:=fi_nd hnd ha
    have h2:=fi_nd hnd hb
    rw [h1] at h2
    cases h2; exact absurd rfl hne
theorem w5:pf5=some true:=by kernel_rfl
theorem fold_cut (l:List ByteArray) (k:Nat):l.foldl put []=(l.drop k).foldl put ((l.take k).foldl put []):=by
 rw [<- List.foldl_append,List.take_append_drop]
theorem c12 {n:names_Names}{o:List ByteArray}(h:NOk n o):pf12 n=some (o.length:Int):=by
 unfold pf12; rw [h.li]
theorem puts {S:Type}{l:List ByteArray}{f:Int × List ByteArray × (List (ByteArray × Int))->Option ((Int × List ByteArray × (List (ByteArray × Int))) ⊕ S)}{Ψ:S->Prop}{n0:names_Names}(hl:l.length<=40) (h0:NOk n0 [])
  (hb:∀ (k:Int) (n:names_Names) (y:ByteArray),0<=k->k<l.length->NOk n ((l.take k.toNat).foldl put [])->((l.take k.toNat).foldl put []).length<=40->idx l k=some y->l[k.toNat]?=some y->Tot (f (k,n.f_list,n.f_of)) (LR (fun s=>∃ n',s=(k+1,n'.f_list,n'.f_of)/\NOk n' (put ((l.take k.toNat).foldl put []) y)) Ψ))
  (he:∀ n:names_Names,NOk n (l.foldl put [])->Tot (f ((l.length:Int),n.f_list,n.f_of)) (LR (fun _=>False) Ψ)):Tot (loopM f (0,n0.f_list,n0.f_of)) Ψ:=by
 refine Tot.count (fun s=>s.1) l.length (fun s=>0<=s.1/\s.1<=l.length/\NOk ⟨s.2.1,s.2.2⟩ ((l.take s.1.toNat).foldl put [])) ⟨Int.le_refl 0,by show (0:Int)<=_; omega,h0⟩ (by show (l.length:Int) - 0<_; omega) fun s hs=>?_
 obtain ⟨k,a,b⟩:=s
 obtain ⟨h1,h2,h3⟩:=hs
 simp only at h1 h2 h3 ⊢
 by_cases hk:k<l.length
 ·obtain ⟨y,hy⟩:∃ y,l[k.toNat]?=some y:=⟨_,List.getElem?_eq_getElem (by omega:k.toNat<l.length)⟩
  have hi:idx l k=some y:=by unfold idx; rw [if_pos h1,hy]
  have hlen:((l.take k.toNat).foldl put []).length<=40:=by
   have:=fold_len (l.take k.toNat) []
   rw [List.length_take] at this
   simp at this; omega
  refine (hb k ⟨a,b⟩ y h1 hk h3 hlen hi hy).use fun x hx=>?_
  rcases x with s' | r
  ·obtain ⟨n',rfl,hn⟩:=hx
   have hT:(k+1).toNat=k.toNat+1:=by omega
   refine ⟨⟨?_,?_,?_⟩,?_,?_⟩
   ·show 0<=k+1; omega
   ·show k+1<=(l.length:Int); omega
   ·show NOk n' ((l.take (k+1).toNat).foldl put [])
    rw [hT,fold_take hy]; exact hn
   ·show k<k+1; omega
   ·show k+1<=(l.length:Int); omega
  ·exact hx
 ·have e:k=l.length:=by omega
  subst e
  rw [List.take_of_length_le (by omega)] at h3
  refine (he ⟨a,b⟩ h3).use fun x hx=>?_
  rcases x with s' | r
  ·exact hx.elim
  ·exact hx
theorem t3 (l:List ByteArray) (ask:ByteArray) (hs:ask.size<=9223372036854775807):pf3 l ask=some true:=by
 have:Tot (pf3 l ask) fun r=>r=true:=by
  unfold pf3
  rw [w5]
  simp only [Option.bind_some,Bool.not_true,cond_false]
  refine .by' (c6 l) fun x hx=>?_
  obtain ⟨hlen,hsz⟩:=hx
  rw [e7 x hlen]
  simp only [Option.bind_some]
  refine .by' nok8 fun n0 hn0=>?_
  have hwl:(x.foldl put []).length<=40:=by
   have:=fold_len x []
   simp at this; omega
  have hwn:(x.foldl put []).Nodup:=fold_nd _ (by simp)
  generalize hW:x.foldl put []=want at hwl hwn ⊢
  refine .by' (puts (Ψ:=LR (fun s:List ByteArray × (List (ByteArray × Int))=>NOk ⟨s.1,s.2⟩ want) (fun _:Bool=>False)) hlen hn0 (fun k n y h0 hk hn hlo hi hy=>?_) (fun n hn=>?_)) fun r hr=>?_
  ·rw [decide_eq_true hk]
   simp only [hi,Option.bind_some,cond_true]
   refine .by' (c9 (n:=n) hn (by omega) (hsz y (List.mem_of_getElem? hy))) fun p hp=>?_
   obtain ⟨hp1,hp2⟩:=hp
   rw [e10 y (by omega) hwn]
   simp only [Option.bind_some]
   have e:p.1=fz want y:=by
    rw [hp1,<- hW,fold_cut x (k.toNat+1),fold_take hy]
    obtain ⟨m,hm⟩:=fold_pre (x.drop (k.toNat+1)) (put ((x.take k.toNat).foldl put []) y)
    rw [hm,fz_pre put_mem]
   rw [decide_eq_true e]
   refine .so ⟨p.2,?_,hp2⟩
   rw [w64_id (by omega) (by omega)]
  ·rw [decide_eq_false (by omega)]
   rw [hW] at hn
   exact .so hn
  ·rcases r with ⟨a,b⟩ | r
   ·have hn:NOk ⟨a,b⟩ want:=hr
    refine .by' (Tot.count (fun s=>s) (want.length+1) (Ψ:=LR (fun _=>True) (fun _=>False)) (fun s=>-1<=s/\s<=want.length+1) ⟨by decide,by omega⟩ (by show (want.length+1:Int) - (-1)<_; omega) fun k hk=>?_) fun q hq=>?_
    ·obtain ⟨hk0,hk1⟩:=hk
     refine .cp (fun hk=>?_) (fun hk=>.so trivial)
     refine .by' (c11 hn k) fun v hv=>?_
     have hw:w64 (k+1)=k+1:=w64_id (by omega) (by omega)
     rcases hv with ⟨h0,hlt,ht,hg⟩ | ⟨hn',rfl⟩
     ·have hi:idx want k=some v.1:=by unfold idx; rw [if_pos h0,hg]
      simp only [decide_eq_true h0,decide_eq_true hlt,ht,hi,cond_true,cond_false,Option.bind_some,Bool.not_true,beq_self_eq_true,decide_true]
      refine .so ⟨⟨?_,?_⟩,?_,?_⟩
      ·show -1<=w64 (k+1); omega
      ·show w64 (k+1)<=(want.length:Int)+1; omega
      ·show k<w64 (k+1); omega
      ·show w64 (k+1)<=(want.length:Int)+1; omega
     ·have hc:(bif decide (0<=k) then (bif !(false == (decide (k<(want.length:Int)))) then some true else some false) else some false)=some false:=by
       by_cases h0:0<=k
       ·have:¬ k<(want.length:Int):=fun h=>hn' ⟨h0,h⟩
        simp [this]
       ·simp [h0]
      have hb:∀ {α:Type}(c:Bool) (x y:Option α),(bif c then x else y)=if c then x else y:=fun c x y=>by cases c <;> rfl
      refine .by' (Ξ:=fun c=>c=false) ?_ fun c hc=>?_
      ·by_cases h0:0<=k
       ·have:¬ k<(want.length:Int):=fun h=>hn' ⟨h0,h⟩
        simp only [decide_eq_true h0,decide_eq_false this,cond_true,cond_false,beq_self_eq_true,Bool.not_true,Bool.not_false,decide_true]
        exact .so rfl
       ·simp only [decide_eq_false h0,cond_true,cond_false,beq_self_eq_true,Bool.not_true,Bool.not_false,decide_true]
        exact .so rfl
      ·subst hc
       refine .so ⟨⟨?_,?_⟩,?_,?_⟩
       ·show -1<=w64 (k+1); omega
       ·show w64 (k+1)<=(want.length:Int)+1; omega
       ·show k<w64 (k+1); omega
       ·show w64 (k+1)<=(want.length:Int)+1; omega
    ·rcases q with ⟨⟩ | q
     ·simp only [c12 hn,c13 hn hs,e10 ask (by omega) hwn,Option.bind_some,decide_true,cond_true]
      exact .so rfl
     ·exact hq.elim
   ·exact hr.elim
 obtain ⟨r,hr,rfl⟩:=this
 exact hr
theorem t4 (l:List ByteArray):pf4 l=some true:=by
 have:Tot (pf4 l) fun r=>r=true:=by
  unfold pf4
  rw [w5]
  simp only [Option.bind_some,Bool.not_true,cond_false]
  refine .by' nok8 fun n0 hn0=>?_
  refine .by' (c6 l) fun x hx=>?_
  obtain ⟨hlen,hsz⟩:=hx
  have hwl:(x.foldl put []).length<=40:=by
   have:=fold_len x []
   simp at this; omega
  have e7':=e7 x hlen
  generalize hW:x.foldl put []=want at hwl e7'
  refine .by' (puts (Ψ:=fun s:List ByteArray × (List (ByteArray × Int))=>NOk ⟨s.1,s.2⟩ want) hlen hn0 (fun k n y h0 hk hn hlo hi hy=>?_) (fun n hn=>?_)) fun r hr=>?_
  ·rw [decide_eq_true hk]
   simp only [hi,Option.bind_some,cond_true]
   refine .by' (c9 (n:=n) hn (by omega) (hsz y (List.mem_of_getElem? hy))) fun p hp=>?_
   refine .so ⟨p.2,?_,hp.2⟩
   rw [w64_id (by omega) (by omega)]
  ·rw [decide_eq_false (by omega)]
   rw [hW] at hn
   exact .so hn
  ·have hn:NOk ⟨r.1,r.2⟩ want:=hr
   refine .by' (c14 hn (by omega)) fun s hs=>?_
   obtain ⟨hsl,hso⟩:=hs
   simp only [c12 hn,e7',hsl,Option.bind_some,decide_true,Bool.not_true,cond_false]
   refine .by' (Tot.count (fun s=>s) (want.length+1) (Ψ:=LR (fun _=>True) (fun _=>False)) (fun k=>1<=k/\k<=want.length+1) ⟨by decide,by omega⟩ (by show (want.length+1:Int) - 1<_; omega) fun k hk=>?_) fun q hq=>?_
   ·obtain ⟨hk0,hk1⟩:=hk
    refine .cp (fun hk=>?_) (fun hk=>.so trivial)
    have hw:w64 (k+1)=k+1:=w64_id (by omega) (by omega)
    have hw2:w64 (k - 1)=k - 1:=w64_id (by omega) (by omega)
    rw [hw2]
    obtain ⟨i,hi⟩:∃ i,s[(k - 1).toNat]?=some i:=⟨_,List.getElem?_eq_getElem (by omega:(k - 1).toNat<s.length)⟩
    obtain ⟨j,hj⟩:∃ j,s[k.toNat]?=some j:=⟨_,List.getElem?_eq_getElem (by omega:k.toNat<s.length)⟩
    have hkk:k.toNat=(k - 1).toNat+1:=by omega
    obtain ⟨a,b,ha0,hb0,ha,hb,hlt⟩:=hso (k - 1).toNat i j hi (hkk ▸ hj)
    have xi:idx s (k - 1)=some i:=by unfold idx; rw [if_pos (by omega),hi]
    have xj:idx s k=some j:=by unfold idx; rw [if_pos (by omega),hj]
    rw [xi]
    simp only [Option.bind_some]
    refine .by' (c11 hn i) fun v hv=>?_
    rw [xj]
    simp only [Option.bind_some]
    refine .by' (c11 hn j) fun u hu=>?_
    rcases hv with ⟨_,_,hv2,hv1⟩ | ⟨hv,_⟩
    ·rcases hu with ⟨_,_,hu2,hu1⟩ | ⟨hu,_⟩
     ·rw [ha] at hv1
      rw [hb] at hu1
      cases hv1
      cases hu1
      unfold ls at hlt
      simp only [hv2,hu2,hlt,Bool.not_true,cond_false,Option.bind_some]
      refine .so ⟨⟨?_,?_⟩,?_,?_⟩
      ·show 1<=w64 (k+1); omega
      ·show w64 (k+1)<=(want.length:Int)+1; omega
      ·show k<w64 (k+1); omega
      ·show w64 (k+1)<=(want.length:Int)+1; omega
     ·exact absurd hb0 hu
    ·exact absurd ha0 hv
   ·rcases q with ⟨⟩ | q
    ·exact .so rfl
    ·exact hq.elim
 obtain ⟨r,hr,rfl⟩:=this
 exact hr
open Go Go.Own
theorem ext33 (s t:ByteArray) (w:World):(callFunc 33 [Value.string s,.string t].toArray).run Try.prog w=.ok (.value (.int .i64 (cmpB s t))) w:=by
 have hn:Extern.findNext Try.f33=none:=by kernel_rfl
 have he:Extern.find Try.f33=some Extern.BytealgCompare.compare:=by kernel_rfl
 rw [run_callFunc_extern Try.func33 rfl rfl hn he]
 have:=Lib.run_compareString (P:=Try.prog) s t w
 simp [this,cmpB]
theorem call22:callT Try.prog 22=true:=by kernel_rfl
theorem sl22:slT Try.prog 22 9 1=true:=by kernel_rfl
theorem ct9:cellT Try.prog 9=true:=by kernel_rfl
theorem call10:callT Try.prog 10=true:=by kernel_rfl
theorem zt9:zeroT Try.prog 9 1=true:=by kernel_rfl
theorem ap22:appT Try.prog 22 9 1 16=true:=by kernel_rfl
theorem st9:strT Try.prog 9=true:=by kernel_rfl
theorem call16:callT Try.prog 16=true:=by kernel_rfl
theorem um38:Try.prog.underlying 38=some (.map 9 3):=by kernel_rfl
theorem ze40:(Try.prog.info? 40).bind (·.zero)=some (.agg #[.slice none 0 0,.map none]):=by kernel_rfl
theorem sc40:structT Try.prog 40 [(0,1),(1,1)]=true:=by kernel_rfl
theorem fd40_1:fldT Try.prog 40 1 1 38=true:=by kernel_rfl
theorem ct38:cellT Try.prog 38=true:=by kernel_rfl
theorem fd40_0:fldT Try.prog 40 0 0 22=true:=by kernel_rfl
theorem ct22:cellT Try.prog 22=true:=by kernel_rfl
theorem sz22:sizeT Try.prog 22 1=true:=by kernel_rfl
theorem mixo:Try.prog.follows .mixedOrders=true:=by kernel_rfl
theorem sl33:slT Try.prog 33 3 1=true:=by kernel_rfl
theorem ct3:cellT Try.prog 3=true:=by kernel_rfl
theorem ct25:cellT Try.prog 25=true:=by kernel_rfl
theorem call19:callT Try.prog 19=true:=by kernel_rfl
theorem zt3:zeroT Try.prog 3 1=true:=by kernel_rfl
theorem ap33:appT Try.prog 33 3 1 8=true:=by kernel_rfl
theorem call17:callT Try.prog 17=true:=by kernel_rfl
theorem call18:callT Try.prog 18=true:=by kernel_rfl
theorem call8:callT Try.prog 8=true:=by kernel_rfl
theorem pt25:ptrT Try.prog 25=true:=by kernel_rfl
theorem call9:callT Try.prog 9=true:=by kernel_rfl
theorem call11:callT Try.prog 11=true:=by kernel_rfl
theorem call13:callT Try.prog 13=true:=by kernel_rfl
theorem call12:callT Try.prog 12=true:=by kernel_rfl
theorem call14:callT Try.prog 14=true:=by kernel_rfl
theorem call15:callT Try.prog 15=true:=by kernel_rfl
theorem call5:callT Try.prog 5=true:=by kernel_rfl
theorem call6:callT Try.prog 6=true:=by kernel_rfl
theorem call7:callT Try.prog 7=true:=by kernel_rfl
theorem con22 (a0:ByteArray) (a1:ByteArray) (r:Int) (h:pf22 a0 a1=some r):Con Try.prog 22 [SS a0,SS a1] [none,none] (I64 r):=by
 unfold pf22 at h
 refine Con.go (N:=⟨8,[]⟩) Try.func22 q q q q (W.fin ?_)
 refine W.st [(0,SS a0),(1,SS a1)] ?_
 refine W.sq'<|W.rx [(0,_),(1,_)] (Vk q<|Fi (tn2 q q)) ?_
 refine Px.sq<|W.sq' ?_
 refine W.rx [(4,_)] (Vm q<|Vm q<|Rv ((.p1 (.extL (ext33 _ _) q (.cons (.lit q) (.cons (.lit q) .nil)))))<|Va q<|Fi (.n q .nil)) ?_
 refine Px.sq<|W.rt ?_
 obtain rfl:=sm h
 exact Px.fin (Fin.ro (.f q q .nil) q (ode (by kernel_rfl)) (.no (.no .nil)) q (.inr q))
theorem con19 (a0:ByteArray) (a1:ByteArray) (r:Int) (h:pf19 a0 a1=some r):Con Try.prog 19 [SS a0,SS a1] [none,none] (I64 r):=by
 unfold pf19 at h
 refine Con.go (N:=⟨8,[]⟩) Try.func19 q q q q (W.fin ?_)
 refine W.st [(0,SS a0),(1,SS a1)] ?_
 refine W.sq'<|W.rx [(0,_),(1,_)] (Vk q<|Fi (tn2 q q)) ?_
 refine Px.sq<|W.sq' ?_
 obtain ⟨x1,hx1,h⟩:=bnd h
 refine W.rx [(4,_)] (Vm q<|Vm q<|Rc (PC.go (.cc (.lit q) (.cc (.lit q) .nil)) (con22 a0 a1 _ hx1) call22 q)<|Va q<|Fi (.n q .nil)) ?_
 refine Px.sq<|W.rt ?_
 obtain rfl:=sm h
 exact Px.fin (Fin.ro (.f q q .nil) q (ode (by kernel_rfl)) (.no (.no .nil)) q (.inr q))
theorem con10 (a0:(List ByteArray)) (a1:ByteArray) (r:Int) (h:pf10 a0 a1=some r):Con Try.prog 10 [iR eS a0,SS a1] [none,none] (I64 r):=by
 unfold pf10 at h
 refine Con.go (N:=⟨19,[]⟩) Try.func10 q q q q (W.fin ?_)
 refine W.st [(0,iR eS a0),(1,SS a1)] ?_
 refine W.sq'<|W.rx [(0,_),(1,_)] (Vk q<|Fi (tn2 q q)) ?_
 refine Px.sq<|W.sq' ?_
 refine W.sq'<|W.rx [(0,_),(1,_),(5,_)] (Vk q<|Fi (tn3 q q q)) ?_
 refine Px.sq<|W.bk ?_
 obtain ⟨x2,hl,h⟩:=bnd h
 refine W.tr (G1:=[(0,_),(1,_),(5,_)]) (tn3 q q q) ?_
 refine W.lp2 (s:=0) (fun (s1:Int)=>[(0,iR eS a0),(1,SS a1),(5,I64 s1)]) 0 (fun (x3:Unit)=>[]) (fun (x4:Int)=>[(4,I64 x4)]) hl (fun s1 o h=>?_) (fun x3 hx=>?_) (fun x4 hx=>?_)
 ·clear hl
  refine W.sq'<|W.sq' ?_
  refine W.rx [(0,_),(1,_),(5,_),(9,_)] (Vm q<|Rv (O.mv (.imm q))<|Rv (O.lenI (.imm q) sl22)<|Rv (O.lss (.lit q) (.lit q))<|Fi (tn4 q q q q)) ?_
  refine Px.sq<|W.cnd q (fun hb5=>?_) (fun hb5=>?_)
  ·replace h:=cndT hb5 h
   refine W.sk<|Px.sq ?_
   refine W.sq'<|W.bk ?_
   refine W.sq' ?_
   obtain ⟨x6,hx6,h⟩:=bnd h
   refine W.rx [(0,_),(1,_),(5,_),(17,_)] (Rv (O.mv (.imm q))<|Vm q<|Rv (O.ixI (.imm q) (.lit q) sl22 hx6)<|Rv (O.ldI (x:=SS x6) (.iptr q) ct9 q)<|Vm q<|Rv (O.eqS (.lit q) (.lit q))<|Fi (tn4 q q q q)) ?_
   refine Px.sq<|W.cnd q (fun hb7=>?_) (fun hb7=>?_)
   ·replace h:=cndT hb7 h
    refine W.sq'<|W.rx [(4,_)] (Vm q<|Va q<|Fi (.n q .nil)) ?_
    refine Px.sq<|W.rt ?_
    refine Px.bkR ?_
    refine Px.sqR ?_
    obtain rfl:=sm h
    exact Px.r2 (.n q .nil)
   ·replace h:=cndF hb7 h
    refine W.sk<|Px.bk ?_
    refine Px.sq<|W.rx [(0,_),(1,_),(5,_)] (Vm q<|Rv (O.add (.lit q) (.k q))<|RunL.re (G1:=[(0,_),(1,_),(11,_)]) (tn3 q q q)<|Va q<|Fi (tn3 q q q)) ?_
    obtain rfl:=sm h
    exact Px.go (tn3 q q q)
  ·replace h:=cndF hb5 h
   refine W.xi ?_
   refine Px.sqE ?_
   obtain rfl:=sm h
   exact Px.x2 .nil
 ·subst hx
  refine Px.bkH ?_
  refine Px.sq<|W.sq' ?_
  refine W.rx [(4,_)] (Vk q<|Fi (.n q .nil)) ?_
  refine Px.sq<|W.rt ?_
  obtain rfl:=sm h
  exact Px.fin (Fin.ro (.f q q .nil) q (ode (by kernel_rfl)) (.no (.no .nil)) q (.inr q))
 ·subst hx
  refine Px.bkR ?_
  refine Px.sqR ?_
  obtain rfl:=sm h
  exact Px.fin (Fin.ro (.f q q .nil) q (ode (by kernel_rfl)) (.no (.no .nil)) q (.inr q))
theorem con7 (a0:(List ByteArray)) (r:(List ByteArray)) (h:pf7 a0=some r):Con Try.prog 7 [iR eS a0] [none] (iR eS r):=by
 unfold pf7 at h
 refine Con.go (N:=⟨26,[]⟩) Try.func7 q q q q (W.fin ?_)
 refine W.st [(0,iR eS a0)] ?_
 refine W.sq'<|W.rx [(0,_)] (Rv (O.az .knil)<|Fi (.n q .nil)) ?_
 refine Px.sq<|W.sq' ?_
 refine W.rx [(0,_),(3,_)] (Rv (O.az .knil)<|Fi (tn2 q q)) ?_
 refine Px.sq<|W.sq' ?_
 refine W.sq'<|W.rx [(0,_),(3,_),(4,_)] (Vk q<|Fi (tn3 q q q)) ?_
 refine Px.sq<|W.bk ?_
 obtain ⟨x2,hl,h⟩:=bnd h
 refine W.tr (G1:=[(0,_),(3,oR eS ([]:List ByteArray)),(4,_)]) (.n q (.w q q .nilOwn (.n q .nil))) ?_
 refine W.lp1 (s:=(([]:List ByteArray),0)) (fun (s1:List ByteArray × Int)=>[(0,iR eS a0),(3,oR eS s1.1),(4,I64 s1.2)]) 0 (fun (x2:List ByteArray)=>[(3,oR eS x2)]) hl (fun s1 o h=>?_) ?_
 ·clear hl
  refine W.sq'<|W.sq' ?_
  refine W.rx [(0,_),(3,_),(4,_),(8,_)] (Vm q<|Rv (O.mv (.imm q))<|Rv (O.lenI (.imm q) sl22)<|Rv (O.lss (.lit q) (.lit q))<|Fi (tn4 q q q q)) ?_
  refine Px.sq<|W.cnd q (fun hb4=>?_) (fun hb4=>?_)
  ·replace h:=cndT hb4 h
   refine W.sk<|Px.sq ?_
   refine W.sq' ?_
   obtain ⟨j5,hj,h⟩:=bnd h
   refine W.jn [(0,iR eS a0),(3,oR eS j5),(4,I64 s1.2)] ?_ ?_
   ·clear h; have h:=hj; clear hj
    refine W.bk<|W.sq' ?_
    obtain ⟨x6,hx6,h⟩:=bnd h
    obtain ⟨x7,hx7,h⟩:=bnd h
    refine W.rx [(0,_),(3,_),(4,_),(17,_)] (Rv (O.mv (.own q))<|Rv (O.mv (.imm q))<|Vm q<|Rv (O.ixI (.imm q) (.lit q) sl22 hx6)<|Rv (O.ldI (x:=SS x6) (.iptr q) ct9 q)<|Rc (PC.vw (ys:=[.brw eS.z ⟨3,[]⟩ s1.1.length,SS x6]) q (.c (.row q) (.s .nil)) (con10 s1.1 x6 _ hx7) call10 q)<|Rv (O.lss (.lit q) (.k q))<|Fi (tn4 q q q q)) ?_
    refine Px.sq ?_
    obtain ⟨j8,hj,h⟩:=bnd h
    refine W.jn [(0,iR eS a0),(3,oR eS j8),(4,I64 s1.2)] ?_ ?_
    ·clear h; have h:=hj; clear hj
     refine W.cnd q (fun hb9=>?_) (fun hb9=>?_)
     ·replace h:=cndT hb9 h
      obtain ⟨x10,hx10,h⟩:=bnd h
      obtain ⟨x11,hx11,h⟩:=bnd h
      refine W.rx [(0,_),(3,_),(4,_)] (Rv (O.mv (.own q))<|Rv (O.mv (.imm q))<|Vm q<|Rv (O.ixI (.imm q) (.lit q) sl22 hx10)<|Rv (O.ldI (x:=SS x10) (.iptr q) ct9 q)<|RunL.vi (x:=iR eS [x10]) (O.bs (ys:=[SS x10]) eS [x10] sl22 q q q q q q zt9 q q) q q .none<|Rv (O.ap (en:=eS) (r:=x11) (.brw q) q (.imm q) .i ap22 q hx11)<|RunL.ea (G2:=[(0,iR eS a0),(4,I64 s1.2)]) q (EO.aP q q (.pend q) q q q (.n q q (.n q q .nil)) q q)<|Fi (tn3 q q q)) ?_
      obtain rfl:=sm h
      exact Px.jn (tn3 q q q)
     ·replace h:=cndF hb9 h
      refine W.sk ?_
      obtain rfl:=sm h
      exact Px.jn (tn3 q q q)
    refine Px.bk ?_
    obtain rfl:=sm h
    exact Px.jn (tn3 q q q)
   refine Px.sq<|W.rx [(0,_),(3,_),(4,_)] (Vm q<|Rv (O.add (.lit q) (.k q))<|RunL.re (G1:=[(0,_),(3,_),(10,_)]) (tn3 q q q)<|Va q<|Fi (tn3 q q q)) ?_
   obtain rfl:=sm h
   exact Px.go (tn3 q q q)
  ·replace h:=cndF hb4 h
   refine W.xi ?_
   refine Px.sqE ?_
   obtain rfl:=sm h
   exact Px.x1 (.n q .nil)
 refine Px.bkH ?_
 refine Px.sq<|W.sq' ?_
 refine W.rx [(2,_)] (Rv (O.mv (.own q))<|RunL.ea (G2:=[]) q (EO.aR q q (.brw q) q .nil q q)<|Fi (.n q .nil)) ?_
 refine Px.sq<|W.fz (G1:=[(2,iR eS x2)]) [2] (.z q q .zz .nil) ?_
 refine W.rt ?_
 obtain rfl:=sm h
 exact Px.fin (Fin.ro (.f q q .nil) q (ode (by kernel_rfl)) (.no .nil) q (.inr q))
theorem con16 (a0:ByteArray) (a1:Int) (r:ByteArray) (h:pf16 a0 a1=some r):Con Try.prog 16 [SS a0,I64 a1] [none,none] (SS r):=by
 unfold pf16 at h
 refine Con.go (N:=⟨13,[]⟩) Try.func16 q q q q (W.fin ?_)
 refine W.st [(0,SS a0),(1,I64 a1)] ?_
 refine W.sq'<|W.rx [(0,_),(1,_)] (Vk q<|Fi (tn2 q q)) ?_
 refine Px.sq<|W.sq' ?_
 refine W.sq'<|W.rx [(0,_),(1,_),(8,_)] (Vm q<|Rv (O.lenS (.lit q) st9)<|Vm q<|Rv (O.gtr (.lit q) (.lit q))<|Fi (tn3 q q q)) ?_
 refine Px.sq<|W.cnd q (fun hb1=>?_) (fun hb1=>?_)
 ·replace h:=cndT hb1 h
  refine W.sq' ?_
  obtain ⟨x2,hx2,h⟩:=bnd h
  refine W.rx [(4,_)] (Vm q<|Vm q<|Rv (O.sl0 (.lit q) (.lit q) st9 hx2)<|Va q<|Fi (.n q .nil)) ?_
  refine Px.sq<|W.rt ?_
  refine Px.sqR ?_
  obtain rfl:=sm h
  exact Px.fin (Fin.ro (.f q q .nil) q (ode (by kernel_rfl)) (.no (.no .nil)) q (.inr q))
 ·replace h:=cndF hb1 h
  refine W.sk<|Px.sq ?_
  refine W.sq'<|W.rx [(4,_)] (Vm q<|Va q<|Fi (.n q .nil)) ?_
  refine Px.sq<|W.rt ?_
  obtain rfl:=sm h
  exact Px.fin (Fin.ro (.f q q .nil) q (ode (by kernel_rfl)) (.no (.no .nil)) q (.inr q))
theorem con6 (a0:(List ByteArray)) (r:(List ByteArray)) (h:pf6 a0=some r):Con Try.prog 6 [iR eS a0] [none] (iR eS r):=by
 unfold pf6 at h
 refine Con.go (N:=⟨24,[]⟩) Try.func6 q q q q (W.fin ?_)
 refine W.st [(0,iR eS a0)] ?_
 refine W.sq'<|W.rx [(0,_)] (Rv (O.az .knil)<|Fi (.n q .nil)) ?_
 refine Px.sq<|W.sq' ?_
 refine W.rx [(0,_),(3,_)] (Rv (O.az .knil)<|Fi (tn2 q q)) ?_
 refine Px.sq<|W.sq' ?_
 refine W.sq'<|W.rx [(0,_),(3,_),(4,_)] (Vk q<|Fi (tn3 q q q)) ?_
 refine Px.sq<|W.bk ?_
 obtain ⟨x2,hl,h⟩:=bnd h
 refine W.tr (G1:=[(0,_),(3,oR eS ([]:List ByteArray)),(4,_)]) (.n q (.w q q .nilOwn (.n q .nil))) ?_
 refine W.lp1 (s:=(([]:List ByteArray),0)) (fun (s1:List ByteArray × Int)=>[(0,iR eS a0),(3,oR eS s1.1),(4,I64 s1.2)]) 0 (fun (x2:List ByteArray)=>[(3,oR eS x2)]) hl (fun s1 o h=>?_) ?_
 ·clear hl
  refine W.sq'<|W.sq' ?_
  obtain ⟨c5,hj,h⟩:=bnd h
  refine W.rx [(0,iR eS a0),(3,oR eS s1.1),(4,I64 s1.2),(12,BB c5)] ?_ ?_
  ·refine Vm q<|Rv (O.mv (.imm q))<|Rv (O.lenI (.imm q) sl22)<|Rv (O.lss (.lit q) (.lit q))<|Rv (O.mv (.lit q)) ?_
   rcases cnd hj with ⟨hb4,hj⟩ | ⟨hb4,hj⟩
   ·obtain rfl:=sm hj
    exact RunL.v (O.mv (.lit q)) q q (.yb q q hb4)<|RunL.v (O.lss (.lit q) (.k q)) q q (.yb q q hb4)<|Rv (O.pkT (.lit q) hb4 (.lit q))<|Fi (tn4 q q q q)
   ·obtain rfl:=sm hj
    exact RunL.ps q q hb4 q q<|RunL.ps q q hb4 q q<|Rv (O.pkF (.lit q) hb4 (.k q))<|Fi (tn4 q q q q)
  refine Px.sq<|W.cnd q (fun hb6=>?_) (fun hb6=>?_)
  ·replace h:=cndT hb6 h
   refine W.sk<|Px.sq ?_
   refine W.sq'<|W.bk ?_
   obtain ⟨x7,hx7,h⟩:=bnd h
   obtain ⟨x8,hx8,h⟩:=bnd h
   obtain ⟨x9,hx9,h⟩:=bnd h
   refine W.rx [(0,_),(3,_),(4,_)] (Rv (O.mv (.own q))<|Rv (O.mv (.imm q))<|Vm q<|Rv (O.ixI (.imm q) (.lit q) sl22 hx7)<|Rv (O.ldI (x:=SS x7) (.iptr q) ct9 q)<|Rc (PC.go (.cc (.lit q) (.cc (.k q) .nil)) (con16 x7 30 _ hx8) call16 q)<|RunL.vi (x:=iR eS [x8]) (O.bs (ys:=[SS x8]) eS [x8] sl22 q q q q q q zt9 q q) q q .none<|Rv (O.ap (en:=eS) (r:=x9) (.brw q) q (.imm q) .i ap22 q hx9)<|RunL.ea (G2:=[(0,iR eS a0),(4,I64 s1.2)]) q (EO.aP q q (.pend q) q q q (.n q q (.n q q .nil)) q q)<|Fi (tn3 q q q)) ?_
   refine Px.bk ?_
   refine Px.sq<|W.rx [(0,_),(3,_),(4,_)] (Vm q<|Rv (O.add (.lit q) (.k q))<|RunL.re (G1:=[(0,_),(3,_),(14,_)]) (tn3 q q q)<|Va q<|Fi (tn3 q q q)) ?_
   obtain rfl:=sm h
   exact Px.go (tn3 q q q)
  ·replace h:=cndF hb6 h
   refine W.xi ?_
   refine Px.sqE ?_
   obtain rfl:=sm h
   exact Px.x1 (.n q .nil)
 refine Px.bkH ?_
 refine Px.sq<|W.sq' ?_
 refine W.rx [(2,_)] (Rv (O.mv (.own q))<|RunL.ea (G2:=[]) q (EO.aR q q (.brw q) q .nil q q)<|Fi (.n q .nil)) ?_
 refine Px.sq<|W.fz (G1:=[(2,iR eS x2)]) [2] (.z q q .zz .nil) ?_
 refine W.rt ?_
 obtain rfl:=sm h
 exact Px.fin (Fin.ro (.f q q .nil) q (ode (by kernel_rfl)) (.no .nil) q (.inr q))
theorem con8  (r:names_Names) (h:pf8 =some r):Con Try.prog 8 [] [] (.obj [oR eS r.f_list,.mp (MI mk9 mv3 r.f_of)]):=by
 unfold pf8 at h
 refine Con.go (N:=⟨4,[]⟩) Try.func8 q q q q (W.fin ?_)
 refine W.st [] ?_
 refine W.sq'<|W.rx [] (Vk q<|Fi .nil) ?_
 refine Px.sq<|W.sq' ?_
 refine W.rx [(0,_)] (Rv (O.mkm mk9 mv3)<|Rv (O.bu (cs:=[.nils,.mref ⟨1,[]⟩]) sc40 ze40 q q q)<|Rv (O.box (.aggF q q) q)<|RunL.ea (G2:=[]) q (EO.aG (y':=.obj [.nils,.mp (MI mk9 mv3 ([]:List (ByteArray × Int)))]) q q (.obj q) (.b q (.f (.m q .nil)) .nil) .refl .nil q q)<|Fi (.n q .nil)) ?_
 refine Px.sq<|W.tr (G1:=[(0,.obj [oR eS ([]:List ByteArray),.mp (MI mk9 mv3 ([]:List (ByteArray × Int)))])]) (.w q q (WkL.obj (.o (.f .nil))) .nil) ?_
 refine W.rt ?_
 obtain rfl:=sm h
 exact Px.fin (Fin.ob0 q q (by simp) q (.inr q))
theorem con9 (a0:names_Names) (a1:ByteArray) (r:Int × names_Names) (h:pf9 a0 a1=some r):Con Try.prog 9 [.obj [oR eS a0.f_list,.mp (MI mk9 mv3 a0.f_of)],SS a1] [some (.obj [oR eS r.2.f_list,.mp (MI mk9 mv3 r.2.f_of)]),none] (I64 r.1):=by
 unfold pf9 at h
 refine Con.go (N:=⟨45,[0]⟩) Try.func9 q q q q (W.fin ?_)
 refine W.st [(0,.obj [oR eS a0.f_list,.mp (MI mk9 mv3 a0.f_of)]),(1,SS a1)] ?_
 refine W.sq'<|W.rx [(0,_),(1,_)] (Vk q<|Fi (tn2 q q)) ?_
 refine Px.sq<|W.sq' ?_
 refine W.sq' ?_
 obtain ⟨x1,hx1,h⟩:=bnd h
 refine W.rx [(0,_),(1,_),(5,_),(6,_)] (Rv (O.mv (.obj q))<|Rv (O.nlP (.ptr q))<|Rv (O.fO q (.ptr q) fd40_1 q)<|Rv (O.ldO (y:=.mref ⟨0,[1]⟩) q (.ptr q) ct38 q q)<|Vm q<|Rv (O.lk2 (K:=mk9) (V:=mv3) (m:=a0.f_of) (x:=a1) (Y:=SS a1) (X:=I64 x1.1) (.mref q) q (.lit q) q um38 hx1 q)<|Rv (O.mv (.tupF q q))<|Rv (O.ex (y:=I64 x1.1) q q q)<|Rv (O.ex (y:=BB x1.2) q q q)<|Va q<|Va q<|Fi (tn4 q q q q)) ?_
 refine Px.sq<|W.sq' ?_
 refine W.rx [(0,_),(1,_),(5,_),(16,_)] (Vm q<|Fi (tn4 q q q q)) ?_
 refine Px.sq<|W.cnd q (fun hb2=>?_) (fun hb2=>?_)
 ·replace h:=cndT hb2 h
  refine W.sq'<|W.rx [(0,_),(4,_)] (Vm q<|Va q<|Fi (tn2 q q)) ?_
  refine Px.sq<|W.rt ?_
  refine Px.sqR ?_
  obtain rfl:=sm h
  exact Px.fin (Fin.ro (.f q q .nil) q (ode (by kernel_rfl)) (.so q q (.no .nil)) q (.inr q))
 ·replace h:=cndF hb2 h
  refine W.sk<|Px.sq ?_
  refine W.sq' ?_
  obtain ⟨x3,hx3,h⟩:=bnd h
  refine W.rx [(0,_),(1,_)] (Rv (O.mv (.obj q))<|Rv (O.mv (.obj q))<|Rv (O.nlP (.ptr q))<|Rv (O.fO q (.ptr q) fd40_0 q)<|Rv (O.ldO (y:=.brw eS.z ⟨0,[0]⟩ a0.f_list.length) q (.ptr q) ct22 q q)<|Vm q<|RunL.vi (x:=iR eS [a1]) (O.bs (ys:=[SS a1]) eS [a1] sl22 q q q q q q zt9 q q) q q .none<|Rv (O.ap (en:=eS) (r:=x3) (.brw q) q (.imm q) .i ap22 q hx3)<|Rv (O.nlP (.ptr q))<|Rv (O.fO q (.ptr q) fd40_0 q)<|RunL.ef (G2:=[(0,.obj [oR eS (a0.f_list++[a1]),.mp (MI mk9 mv3 a0.f_of)]),(1,SS a1)]) q (EO.stP (g1:=_) (en:=eS) (M:=[a1]) (cs2:=[oR eS (a0.f_list++[a1]),.mp (MI mk9 mv3 a0.f_of)]) q q (.ptr q) (.pend q) q q q .ns .rf q q sz22 q q q q (.b q (.n q q .nil)))<|Fi (tn2 q q)) ?_
  refine Px.sq<|W.sq' ?_
  obtain ⟨x4,hx4,h⟩:=bnd h
  refine W.rd [[],[0],[0,1],[0,1,2],[],[],[5],[5,6],[5,6,7],[5,6,7,8],rn 5 5 [],rn 0 11 []] [(0,_)] mixo (by kernel_rfl) (Dv 0 (O.mv (.obj q))<|Dv 1 (O.nlP (.ptr q))<|Dv 2 (O.fO q (.ptr q) fd40_1 q)<|Dv 3 (O.ldO (y:=.mref ⟨0,[1]⟩) q (.ptr q) ct38 q q)<|Dv 4 (O.mv (.lit q))<|Dv 5 (O.mv (.obj q))<|Dv 6 (O.nlP (.ptr q))<|Dv 7 (O.fO q (.ptr q) fd40_0 q)<|Dv 8 (O.ldO (y:=.brw eS.z ⟨0,[0]⟩ (a0.f_list++[a1]).length) q (.ptr q) ct22 q q)<|Dv 9 (O.lenO (.brw q) sl22)<|Dv 10 (O.sub (.lit q) (.k q))<|DL.bp 11 (G2:=[(0,.obj [oR eS (a0.f_list++[a1]),.mp (MI mk9 mv3 x4)])]) (EO.mt (K:=mk9) (V:=mv3) (m:=a0.f_of) (m':=x4) (x:=a1) (y:=w64 (((a0.f_list++[a1]).length:Int) - 1)) (Y:=SS a1) (Z:=I64 (w64 (((a0.f_list++[a1]).length:Int) - 1))) (p:=⟨0,[1]⟩) (x2:=.obj [oR eS (a0.f_list++[a1]),.mp (MI mk9 mv3 x4)]) q q (.mref q) q (.lit q) q (.lit q) q um38 hx4 q q q (.b q .nil)) q q q q (by kernel_rfl) (by kernel_rfl)<|DL.fin q q q (.n q .nil)) ?_
  refine Px.sq<|W.sq' ?_
  refine W.rx [(0,_),(4,_)] (Rv (O.mv (.obj q))<|Rv (O.nlP (.ptr q))<|Rv (O.fO q (.ptr q) fd40_0 q)<|Rv (O.ldO (y:=.brw eS.z ⟨0,[0]⟩ (a0.f_list++[a1]).length) q (.ptr q) ct22 q q)<|Rv (O.lenO (.brw q) sl22)<|Rv (O.sub (.lit q) (.k q))<|Va q<|Fi (tn2 q q)) ?_
  refine Px.sq<|W.rt ?_
  obtain rfl:=sm h
  exact Px.fin (Fin.ro (.f q q .nil) q (ode (by kernel_rfl)) (.so q q (.no .nil)) q (.inr q))
theorem con11 (a0:names_Names) (a1:Int) (r:ByteArray × Bool) (h:pf11 a0 a1=some r):Con Try.prog 11 [.iptr ([iR eS a0.f_list,.imp (MI mk9 mv3 a0.f_of)]),I64 a1] [none,none] (.tup [SS r.1,BB r.2]):=by
 unfold pf11 at h
 refine Con.go (N:=⟨24,[]⟩) Try.func11 q q q q (W.fin ?_)
 refine W.st [(0,.iptr ([iR eS a0.f_list,.imp (MI mk9 mv3 a0.f_of)])),(1,I64 a1)] ?_
 refine W.sq'<|W.rx [(0,_),(1,_)] (Vk q<|Vk q<|Fi (tn2 q q)) ?_
 refine Px.sq<|W.sq' ?_
 refine W.sq' ?_
 obtain ⟨c2,hj,h⟩:=bnd h
 refine W.rx [(0,.iptr ([iR eS a0.f_list,.imp (MI mk9 mv3 a0.f_of)])),(1,I64 a1),(16,BB c2)] ?_ ?_
 ·refine Vm q<|Rv (O.lss (.lit q) (.k q))<|Rv (O.mv (.lit q)) ?_
  rcases cnd hj with ⟨hb1,hj⟩ | ⟨hb1,hj⟩
  ·obtain rfl:=sm hj
   exact RunL.ps q q hb1 q q<|RunL.ps q q hb1 q q<|RunL.ps q q hb1 q q<|RunL.ps q q hb1 q q<|RunL.ps q q hb1 q q<|RunL.ps q q hb1 q q<|RunL.ps q q hb1 q q<|Rv (O.pkT (.lit q) hb1 (.k q))<|Fi (tn3 q q q)
  ·obtain rfl:=sm hj
   exact RunL.v (O.mv (.lit q)) q q (.yb q q hb1)<|RunL.v (O.mv (.iptr q)) q q (.yb q q hb1)<|RunL.v (O.nlI (.iptr q)) q q (.yb q q hb1)<|RunL.v (O.fI (.iptr q) fd40_0) q q (.yb q q hb1)<|RunL.v (O.ldI (x:=iR eS a0.f_list) (.iptr q) ct22 q) q q (.yb q q hb1)<|RunL.v (O.lenI (.imm q) sl22) q q (.yb q q hb1)<|RunL.v (O.geq (.lit q) (.lit q)) q q (.yb q q hb1)<|Rv (O.pkF (.lit q) hb1 (.lit q))<|Fi (tn3 q q q)
 refine Px.sq<|W.cnd q (fun hb3=>?_) (fun hb3=>?_)
 ·replace h:=cndT hb3 h
  refine W.sq'<|W.rx [(4,_),(5,_)] (Vk q<|Vk q<|Fi (tn2 q q)) ?_
  refine Px.sq<|W.rt ?_
  refine Px.sqR ?_
  obtain rfl:=sm h
  exact Px.fin (Fin.ro (.f q q (.f q q .nil)) q (ode (by kernel_rfl)) (.no (.no .nil)) q (.inr q))
 ·replace h:=cndF hb3 h
  refine W.sk<|Px.sq ?_
  refine W.sq' ?_
  obtain ⟨x4,hx4,h⟩:=bnd h
  refine W.rx [(4,_),(5,_)] (Rv (O.mv (.iptr q))<|Rv (O.nlI (.iptr q))<|Rv (O.fI (.iptr q) fd40_0)<|Rv (O.ldI (x:=iR eS a0.f_list) (.iptr q) ct22 q)<|Vm q<|Rv (O.ixI (.imm q) (.lit q) sl22 hx4)<|Rv (O.ldI (x:=SS x4) (.iptr q) ct9 q)<|Va q<|Vk q<|Fi (tn2 q q)) ?_
  refine Px.sq<|W.rt ?_
  obtain rfl:=sm h
  exact Px.fin (Fin.ro (.f q q (.f q q .nil)) q (ode (by kernel_rfl)) (.no (.no .nil)) q (.inr q))
theorem con12 (a0:names_Names) (r:Int) (h:pf12 a0=some r):Con Try.prog 12 [.iptr ([iR eS a0.f_list,.imp (MI mk9 mv3 a0.f_of)])] [none] (I64 r):=by
 unfold pf12 at h
 refine Con.go (N:=⟨8,[]⟩) Try.func12 q q q q (W.fin ?_)
 refine W.st [(0,.iptr ([iR eS a0.f_list,.imp (MI mk9 mv3 a0.f_of)]))] ?_
 refine W.sq'<|W.rx [(0,_)] (Vk q<|Fi (.n q .nil)) ?_
 refine Px.sq<|W.sq' ?_
 refine W.rx [(2,_)] (Rv (O.mv (.iptr q))<|Rv (O.nlI (.iptr q))<|Rv (O.fI (.iptr q) fd40_0)<|Rv (O.ldI (x:=iR eS a0.f_list) (.iptr q) ct22 q)<|Rv (O.lenI (.imm q) sl22)<|Va q<|Fi (.n q .nil)) ?_
 refine Px.sq<|W.rt ?_
 obtain rfl:=sm h
 exact Px.fin (Fin.ro (.f q q .nil) q (ode (by kernel_rfl)) (.no .nil) q (.inr q))
theorem con13 (a0:names_Names) (a1:ByteArray) (r:Int) (h:pf13 a0 a1=some r):Con Try.prog 13 [.iptr ([iR eS a0.f_list,.imp (MI mk9 mv3 a0.f_of)]),SS a1] [none,none] (I64 r):=by
 unfold pf13 at h
 refine Con.go (N:=⟨18,[]⟩) Try.func13 q q q q (W.fin ?_)
 refine W.st [(0,.iptr ([iR eS a0.f_list,.imp (MI mk9 mv3 a0.f_of)])),(1,SS a1)] ?_
 refine W.sq'<|W.rx [(0,_),(1,_)] (Vk q<|Fi (tn2 q q)) ?_
 refine Px.sq<|W.sq' ?_
 refine W.sq' ?_
 obtain ⟨x1,hx1,h⟩:=bnd h
 refine W.rx [(5,_),(6,_)] (Rv (O.mv (.iptr q))<|Rv (O.nlI (.iptr q))<|Rv (O.fI (.iptr q) fd40_1)<|Rv (O.ldI (x:=.imp (MI mk9 mv3 a0.f_of)) (.iptr q) ct38 q)<|Vm q<|Rv (O.lk2I (K:=mk9) (V:=mv3) (m:=a0.f_of) (x:=a1) (Y:=SS a1) (X:=I64 x1.1) (.imp q) (.lit q) q um38 hx1 q)<|Rv (O.mv (.tupF q q))<|Rv (O.ex (y:=I64 x1.1) q q q)<|Rv (O.ex (y:=BB x1.2) q q q)<|Va q<|Va q<|Fi (tn2 q q)) ?_
 refine Px.sq<|W.sq' ?_
 refine W.rx [(5,_),(16,_)] (Vm q<|Fi (tn2 q q)) ?_
 refine Px.sq<|W.cnd q (fun hb2=>?_) (fun hb2=>?_)
 ·replace h:=cndT hb2 h
  refine W.sq'<|W.rx [(4,_)] (Vm q<|Va q<|Fi (.n q .nil)) ?_
  refine Px.sq<|W.rt ?_
  refine Px.sqR ?_
  obtain rfl:=sm h
  exact Px.fin (Fin.ro (.f q q .nil) q (ode (by kernel_rfl)) (.no (.no .nil)) q (.inr q))
 ·replace h:=cndF hb2 h
  refine W.sk<|Px.sq ?_
  refine W.sq'<|W.rx [(4,_)] (Vk q<|Fi (.n q .nil)) ?_
  refine Px.sq<|W.rt ?_
  obtain rfl:=sm h
  exact Px.fin (Fin.ro (.f q q .nil) q (ode (by kernel_rfl)) (.no (.no .nil)) q (.inr q))
theorem con15 (a0:(List Int)) (a1:(List Int)) (r:Bool) (h:pf15 a0 a1=some r):Con Try.prog 15 [iR eI a0,iR eI a1] [none,none] (BB r):=by
 unfold pf15 at h
 refine Con.go (N:=⟨26,[]⟩) Try.func15 q q q q (W.fin ?_)
 refine W.st [(0,iR eI a0),(1,iR eI a1)] ?_
 refine W.sq'<|W.rx [(0,_),(1,_)] (Vk q<|Fi (tn2 q q)) ?_
 refine Px.sq<|W.sq' ?_
 refine W.sq'<|W.rx [(0,_),(1,_),(10,_)] (Rv (O.mv (.imm q))<|Rv (O.lenI (.imm q) sl33)<|Rv (O.mv (.imm q))<|Rv (O.lenI (.imm q) sl33)<|Rv (O.neq (.lit q) (.lit q))<|Fi (tn3 q q q)) ?_
 refine Px.sq<|W.cnd q (fun hb1=>?_) (fun hb1=>?_)
 ·replace h:=cndT hb1 h
  refine W.sq'<|W.rx [(4,_)] (Vk q<|Fi (.n q .nil)) ?_
  refine Px.sq<|W.rt ?_
  refine Px.sqR ?_
  obtain rfl:=sm h
  exact Px.fin (Fin.ro (.f q q .nil) q (ode (by kernel_rfl)) (.no (.no .nil)) q (.inr q))
 ·replace h:=cndF hb1 h
  refine W.sk<|Px.sq ?_
  refine W.sq'<|W.sq' ?_
  refine W.rx [(0,_),(1,_),(5,_)] (Vk q<|Fi (tn3 q q q)) ?_
  refine Px.sq<|W.bk ?_
  obtain ⟨x3,hl,h⟩:=bnd h
  refine W.tr (G1:=[(0,_),(1,_),(5,_)]) (tn3 q q q) ?_
  refine W.lp2 (s:=0) (fun (s2:Int)=>[(0,iR eI a0),(1,iR eI a1),(5,I64 s2)]) 0 (fun (x4:Unit)=>[]) (fun (x5:Bool)=>[(4,BB x5)]) hl (fun s2 o h=>?_) (fun x4 hx=>?_) (fun x5 hx=>?_)
  ·clear hl
   refine W.sq'<|W.sq' ?_
   refine W.rx [(0,_),(1,_),(5,_),(14,_)] (Vm q<|Rv (O.mv (.imm q))<|Rv (O.lenI (.imm q) sl33)<|Rv (O.lss (.lit q) (.lit q))<|Fi (tn4 q q q q)) ?_
   refine Px.sq<|W.cnd q (fun hb6=>?_) (fun hb6=>?_)
   ·replace h:=cndT hb6 h
    refine W.sk<|Px.sq ?_
    refine W.sq'<|W.bk ?_
    refine W.sq' ?_
    obtain ⟨x7,hx7,h⟩:=bnd h
    obtain ⟨x8,hx8,h⟩:=bnd h
    refine W.rd [[],[],[0,1],[0,1,2],[],[],[4,5],[4,5,6],rn 0 8 []] [(0,_),(1,_),(5,_),(25,_)] mixo (by kernel_rfl) (Dv 0 (O.mv (.imm q))<|Dv 1 (O.mv (.lit q))<|Dv 2 (O.ixI (.imm q) (.lit q) sl33 hx7)<|Dv 3 (O.ldI (x:=I64 x7) (.iptr q) ct3 q)<|Dv 4 (O.mv (.imm q))<|Dv 5 (O.mv (.lit q))<|Dv 6 (O.ixI (.imm q) (.lit q) sl33 hx8)<|Dv 7 (O.ldI (x:=I64 x8) (.iptr q) ct3 q)<|Dv 8 (O.neq (.lit q) (.lit q))<|DL.fin q q q (tn4 q q q q)) ?_
    refine Px.sq<|W.cnd q (fun hb9=>?_) (fun hb9=>?_)
    ·replace h:=cndT hb9 h
     refine W.sq'<|W.rx [(4,_)] (Vk q<|Fi (.n q .nil)) ?_
     refine Px.sq<|W.rt ?_
     refine Px.bkR ?_
     refine Px.sqR ?_
     obtain rfl:=sm h
     exact Px.r2 (.n q .nil)
    ·replace h:=cndF hb9 h
     refine W.sk<|Px.bk ?_
     refine Px.sq<|W.rx [(0,_),(1,_),(5,_)] (Vm q<|Rv (O.add (.lit q) (.k q))<|RunL.re (G1:=[(0,_),(1,_),(16,_)]) (tn3 q q q)<|Va q<|Fi (tn3 q q q)) ?_
     obtain rfl:=sm h
     exact Px.go (tn3 q q q)
   ·replace h:=cndF hb6 h
    refine W.xi ?_
    refine Px.sqE ?_
    obtain rfl:=sm h
    exact Px.x2 .nil
  ·subst hx
   refine Px.bkH ?_
   refine Px.sq<|W.sq' ?_
   refine W.rx [(4,_)] (Vk q<|Fi (.n q .nil)) ?_
   refine Px.sq<|W.rt ?_
   obtain rfl:=sm h
   exact Px.fin (Fin.ro (.f q q .nil) q (ode (by kernel_rfl)) (.no (.no .nil)) q (.inr q))
  ·subst hx
   refine Px.bkR ?_
   refine Px.sqR ?_
   obtain rfl:=sm h
   exact Px.fin (Fin.ro (.f q q .nil) q (ode (by kernel_rfl)) (.no (.no .nil)) q (.inr q))
theorem con18 (a0:Int) (a1:Int) (c0:names_Names) (r:Int) (h:pf18 a0 a1 c0=some r):Con Try.prog 18 [I64 a0,I64 a1,.iptr ([.iptr ([iR eS c0.f_list,.imp (MI mk9 mv3 c0.f_of)])])] [none,none,none] (I64 r):=by
 unfold pf18 at h
 refine Con.go (N:=⟨21,[]⟩) Try.func18 q q q q (W.fin ?_)
 refine W.st [(0,I64 a0),(1,I64 a1),(2,.iptr ([.iptr ([iR eS c0.f_list,.imp (MI mk9 mv3 c0.f_of)])]))] ?_
 refine W.sq'<|W.rx [(0,_),(1,_),(2,_)] (Vk q<|Fi (tn3 q q q)) ?_
 refine Px.sq<|W.sq' ?_
 obtain ⟨x1,hx1,h⟩:=bnd h
 obtain ⟨x2,hx2,h⟩:=bnd h
 obtain ⟨x3,hx3,h⟩:=bnd h
 refine W.rd [[],[0],[0,1],[0,1,2],[],rn 0 5 [],rn 0 6 [],[],[7],[7,8],[7,8,9],[],rn 7 5 [],rn 7 6 [],rn 0 14 [],rn 0 15 []] [(5,_)] mixo (by kernel_rfl) (Dv 0 (O.ldI (x:=.iptr ([iR eS c0.f_list,.imp (MI mk9 mv3 c0.f_of)])) (.iptr q) ct25 q)<|Dv 1 (O.nlI (.iptr q))<|Dv 2 (O.fI (.iptr q) fd40_0)<|Dv 3 (O.ldI (x:=iR eS c0.f_list) (.iptr q) ct22 q)<|Dv 4 (O.mv (.lit q))<|Dv 5 (O.ixI (.imm q) (.lit q) sl22 hx1)<|Dv 6 (O.ldI (x:=SS x1) (.iptr q) ct9 q)<|Dv 7 (O.ldI (x:=.iptr ([iR eS c0.f_list,.imp (MI mk9 mv3 c0.f_of)])) (.iptr q) ct25 q)<|Dv 8 (O.nlI (.iptr q))<|Dv 9 (O.fI (.iptr q) fd40_0)<|Dv 10 (O.ldI (x:=iR eS c0.f_list) (.iptr q) ct22 q)<|Dv 11 (O.mv (.lit q))<|Dv 12 (O.ixI (.imm q) (.lit q) sl22 hx2)<|Dv 13 (O.ldI (x:=SS x2) (.iptr q) ct9 q)<|Dc 14 (PC.go (.cc (.lit q) (.cc (.lit q) .nil)) (con19 x1 x2 _ hx3) call19 q)<|Dv 15 (O.az (.lit q))<|DL.fin q q q (.n q .nil)) ?_
 refine Px.sq<|W.rt ?_
 obtain rfl:=sm h
 exact Px.fin (Fin.ro (.f q q .nil) q (ode (by kernel_rfl)) (.no (.no (.no .nil))) q (.inr q))
theorem con14 (a0:names_Names) (r:(List Int)) (h:pf14 a0=some r):Con Try.prog 14 [.iptr ([iR eS a0.f_list,.imp (MI mk9 mv3 a0.f_of)])] [none] (oR eI r):=by
 unfold pf14 at h
 refine Con.go (N:=⟨22,[]⟩) Try.func14 q q q q (W.fin ?_)
 refine W.st [(0,.iptr ([iR eS a0.f_list,.imp (MI mk9 mv3 a0.f_of)]))] ?_
 refine W.sq'<|W.rx [(1,_)] (Rv (O.box (.iptr q) q)<|Rv (O.az .knil)<|Fi (.n q .nil)) ?_
 refine Px.sq<|W.sq' ?_
 refine W.rx [(1,_),(3,_)] (Rv (O.az .knil)<|Fi (tn2 q q)) ?_
 refine Px.sq<|W.sq' ?_
 refine W.sq'<|W.rx [(1,_),(3,_),(9,_),(10,_)] (Rv (O.ldO (y:=.iptr ([iR eS a0.f_list,.imp (MI mk9 mv3 a0.f_of)])) q (.obj q) ct25 q q)<|Rv (O.nlI (.iptr q))<|Rv (O.fI (.iptr q) fd40_0)<|Rv (O.ldI (x:=iR eS a0.f_list) (.iptr q) ct22 q)<|Rv (O.lenI (.imm q) sl22)<|Rv (O.mv (.k q))<|Fi (tn4 q q q q)) ?_
 refine Px.sq<|W.bk ?_
 obtain ⟨x2,hl,h⟩:=bnd h
 refine W.tr (G1:=[(1,_),(3,oR eI ([]:List Int)),(9,_),(10,_)]) (.n q (.w q q .nilOwn (tn2 q q))) ?_
 refine W.lp1 (s:=(([]:List Int),0)) (fun (s1:List Int × Int)=>[(1,.obj [.iptr ([iR eS a0.f_list,.imp (MI mk9 mv3 a0.f_of)])]),(3,oR eI s1.1),(9,I64 (a0.f_list.length:Int)),(10,I64 s1.2)]) 0 (fun (x2:List Int)=>[(1,.obj [.iptr ([iR eS a0.f_list,.imp (MI mk9 mv3 a0.f_of)])]),(3,oR eI x2)]) hl (fun s1 o h=>?_) ?_
 ·clear hl
  refine W.sq'<|W.rx [(1,_),(3,_),(9,_),(10,_),(11,_)] (Rv (O.lss (.lit q) (.lit q))<|Fi (tn5 q q q q q)) ?_
  refine Px.sq<|W.sq' ?_
  refine W.cnd q (fun hb4=>?_) (fun hb4=>?_)
  ·replace h:=cndT hb4 h
   refine W.sk<|Px.sq ?_
   refine W.sq'<|W.bk ?_
   refine W.sq'<|W.rx [(1,_),(3,_),(4,_),(9,_),(10,_)] (Vm q<|Va q<|Fi (tn5 q q q q q)) ?_
   refine Px.sq ?_
   obtain ⟨x5,hx5,h⟩:=bnd h
   refine W.rx [(1,_),(3,_),(9,_),(10,_)] (Rv (O.mv (.own q))<|Vm q<|RunL.vi (x:=iR eI [s1.2]) (O.bs (ys:=[I64 s1.2]) eI [s1.2] sl33 q q q q q q zt3 q q) q q .none<|Rv (O.ap (en:=eI) (r:=x5) (.brw q) q (.imm q) .i ap33 q hx5)<|RunL.ea (G2:=[(1,.obj [.iptr ([iR eS a0.f_list,.imp (MI mk9 mv3 a0.f_of)])]),(9,I64 (a0.f_list.length:Int)),(10,I64 s1.2)]) q (EO.aP q q (.pend q) q q q (.n q q (.n q q (.n q q .nil))) q q)<|Fi (tn4 q q q q)) ?_
   refine Px.bk ?_
   refine Px.sq<|W.rx [(1,_),(3,_),(9,_),(10,_)] (Rv (O.add (.lit q) (.k q))<|RunL.re (G1:=[(1,_),(3,_),(9,_),(17,_)]) (tn4 q q q q)<|Vm q<|Fi (tn4 q q q q)) ?_
   obtain rfl:=sm h
   exact Px.go (tn4 q q q q)
  ·replace h:=cndF hb4 h
   refine W.xi ?_
   refine Px.sqE ?_
   obtain rfl:=sm h
   exact Px.x1 (tn2 q q)
 refine Px.bkH ?_
 refine Px.sq<|W.sq' ?_
 obtain ⟨x6,hx6,h⟩:=bnd h
 refine W.rx [(3,_)] (Rv (O.mv (.own q))<|Rv (O.mf q)<|RunL.ef q (EO.call q q (CallOk.lv (en:=eI) (L:=x2) (L':=x6) (G2:=[(1,.obj [.iptr ([iR eS a0.f_list,.imp (MI mk9 mv3 a0.f_of)])])]) (ys:=[.clo (.func 18) [] [.ptr ⟨1,[]⟩ 0]]) (args:=[.clo (.func 18) [] [.iptr ([.iptr ([iR eS a0.f_list,.imp (MI mk9 mv3 a0.f_of)])])]]) q q q q (.c (View.cl (.c (View.p0 q q) .nil)) .nil) (sort17 call18 hx6 (fun a b v h=>con18 a b a0 v h)) call17 (.n q .nil) q q (.n q .nil) q))<|Fi (.n q .nil)) ?_
 refine Px.sq<|W.sq' ?_
 refine W.rx [(2,_)] (Rv (O.mv (.own q))<|RunL.ea (G2:=[]) q (EO.aR q q (.brw q) q .nil q q)<|Fi (.n q .nil)) ?_
 refine Px.sq<|W.rt ?_
 obtain rfl:=sm h
 exact Px.fin (Fin.ro (.o q .nil) q (ode (by kernel_rfl)) (.no .nil) q (.inr q))
theorem con5  (r:Bool) (h:pf5 =some r):Con Try.prog 5 [] [] (BB r):=by
 unfold pf5 at h
 refine Con.go (N:=⟨65,[]⟩) Try.func5 q q q q (W.fin ?_)
 refine W.st [] ?_
 refine W.sq'<|W.rx [] (Vk q<|Fi .nil) ?_
 refine Px.sq<|W.sq' ?_
 obtain ⟨x1,hx1,h⟩:=bnd h
 refine W.rx [(1,.ptr ⟨9,[]⟩ 0),(9,_)] (Rc (PC.go .nil (con8  _ hx1) call8 q)<|Rv (O.az (.obj q))<|Fi (.q q q q (.n q .nil))) ?_
 refine Px.sq<|W.sq' ?_
 refine W.sq'<|W.rx [(1,.ptr ⟨9,[]⟩ 0),(9,_),(11,_)] (Rv (O.mv (.ptr q))<|Rv (O.eqP (.ptr q) (.k q) pt25)<|Fi (.q q q q (tn2 q q))) ?_
 refine Px.sq<|W.cnd q (fun hb2=>?_) (fun hb2=>?_)
 ·replace h:=cndT hb2 h
  refine W.sq'<|W.rx [(0,_)] (Vk q<|Fi (.n q .nil)) ?_
  refine Px.sq<|W.rt ?_
  refine Px.sqR ?_
  obtain rfl:=sm h
  exact Px.fin (Fin.ro (.f q q .nil) q (ode (by kernel_rfl)) .nil q (.inr q))
 ·replace h:=cndF hb2 h
  refine W.sk<|Px.sq ?_
  refine W.sq' ?_
  obtain ⟨x3,hx3,h⟩:=bnd h
  obtain ⟨x4,hx4,h⟩:=bnd h
  obtain ⟨x5,hx5,h⟩:=bnd h
  refine W.rx [(1,.ptr ⟨9,[]⟩ 0),(2,_),(3,_),(4,_),(9,_)] (Rv (O.mv (.ptr q))<|RunL.ef q (EO.call q q (CallOk.ln (G2:=[]) (A:=[(1,.ptr ⟨9,[]⟩ 0)]) (ys:=[.ptr ⟨9,[]⟩ 0,SS ({ data:=#[98] })]) (args:=[.obj [oR eS x1.f_list,.mp (MI mk9 mv3 x1.f_of)],SS ({ data:=#[98] })]) (cs':=[oR eS x3.2.f_list,.mp (MI mk9 mv3 x3.2.f_of)]) (k0:=0) q q q q (.b q (.n q .nil)) q (con9 x1 ({ data:=#[98] }) _ hx3) call9 .nil q q .nil (.c q q q q .nil) q))<|Rv (O.mv (.ptr q))<|RunL.ef q (EO.call q q (CallOk.ln (G2:=[(13,I64 x3.1)]) (A:=[(1,.ptr ⟨9,[]⟩ 0)]) (ys:=[.ptr ⟨9,[]⟩ 0,SS ({ data:=#[97] })]) (args:=[.obj [oR eS x3.2.f_list,.mp (MI mk9 mv3 x3.2.f_of)],SS ({ data:=#[97] })]) (cs':=[oR eS x4.2.f_list,.mp (MI mk9 mv3 x4.2.f_of)]) (k0:=0) q q q q (.b q (.n q .nil)) q (con9 x3.2 ({ data:=#[97] }) _ hx4) call9 (.n q .nil) q q (.n q .nil) (.c q q q q .nil) q))<|Rv (O.mv (.ptr q))<|RunL.ef q (EO.call q q (CallOk.ln (G2:=[(13,I64 x3.1),(15,I64 x4.1)]) (A:=[(1,.ptr ⟨9,[]⟩ 0)]) (ys:=[.ptr ⟨9,[]⟩ 0,SS ({ data:=#[98] })]) (args:=[.obj [oR eS x4.2.f_list,.mp (MI mk9 mv3 x4.2.f_of)],SS ({ data:=#[98] })]) (cs':=[oR eS x5.2.f_list,.mp (MI mk9 mv3 x5.2.f_of)]) (k0:=0) q q q q (.b q (.n q .nil)) q (con9 x4.2 ({ data:=#[98] }) _ hx5) call9 (tn2 q q) q q (tn2 q q) (.c q q q q .nil) q))<|Va q<|Va q<|Va q<|Fi (.q q q q (tn4 q q q q))) ?_
  refine Px.sq<|W.sq' ?_
  obtain ⟨x6,hx6,h⟩:=bnd h
  refine W.rx [(1,.ptr ⟨9,[]⟩ 0),(2,_),(3,_),(4,_),(5,_),(6,_),(9,_)] (Rv (O.mv (.ptr q))<|Rc (PC.vw (ys:=[.ptr ⟨9,[]⟩ 0,I64 1]) q (.c (View.p0 q q) (.s .nil)) (con11 x5.2 1 _ hx6) call11 q)<|Rv (O.mv (.tupF q q))<|Rv (O.ex (y:=SS x6.1) q q q)<|Rv (O.ex (y:=BB x6.2) q q q)<|Va q<|Va q<|Fi (.q q q q (tn6 q q q q q q))) ?_
  refine Px.sq<|W.sq' ?_
  obtain ⟨x7,hx7,h⟩:=bnd h
  refine W.rx [(1,.ptr ⟨9,[]⟩ 0),(2,_),(3,_),(4,_),(5,_),(6,_),(8,_),(9,_)] (Rv (O.mv (.ptr q))<|Rc (PC.vw (ys:=[.ptr ⟨9,[]⟩ 0,I64 2]) q (.c (View.p0 q q) (.s .nil)) (con11 x5.2 2 _ hx7) call11 q)<|Rv (O.mv (.tupF q q))<|Rv (O.ex (y:=SS x7.1) q q q)<|Rv (O.ex (y:=BB x7.2) q q q)<|Va q<|Va q<|Fi (.q q q q (tn7 q q q q q q q))) ?_
  refine Px.sq<|W.sq' ?_
  obtain ⟨c20,hj,h⟩:=bnd h
  refine W.rx [(0,BB c20)] ?_ ?_
  ·refine Vm q<|Rv (O.eql (.lit q) (.k q))<|Rv (O.mv (.lit q)) ?_
   rcases cnd hj with ⟨hb8,hj⟩ | ⟨hb8,hj⟩
   ·refine RunL.v (O.mv (.lit q)) q q (.yb q q hb8)<|RunL.v (O.eql (.lit q) (.k q)) q q (.yb q q hb8)<|Rv (O.pkT (.lit q) hb8 (.lit q))<|Rv (O.mv (.lit q)) ?_
    rcases cnd hj with ⟨hb9,hj⟩ | ⟨hb9,hj⟩
    ·refine RunL.v (O.mv (.lit q)) q q (.yb q q hb9)<|RunL.v (O.eql (.lit q) (.k q)) q q (.yb q q hb9)<|Rv (O.pkT (.lit q) hb9 (.lit q))<|Rv (O.mv (.lit q)) ?_
     rcases cnd hj with ⟨hb10,hj⟩ | ⟨hb10,hj⟩
     ·refine RunL.v (O.mv (.lit q)) q q (.yb q q hb10)<|RunL.v (O.eqS (.lit q) (.k q)) q q (.yb q q hb10)<|Rv (O.pkT (.lit q) hb10 (.lit q))<|Rv (O.mv (.lit q)) ?_
      rcases cnd hj with ⟨hb11,hj⟩ | ⟨hb11,hj⟩
      ·refine RunL.v (O.mv (.lit q)) q q (.yb q q hb11)<|Rv (O.pkT (.lit q) hb11 (.lit q))<|Rv (O.mv (.lit q)) ?_
       rcases cnd hj with ⟨hb12,hj⟩ | ⟨hb12,hj⟩
       ·refine RunL.v (O.mv (.lit q)) q q (.yb q q hb12)<|RunL.v (O.not (.lit q)) q q (.yb q q hb12)<|Rv (O.pkT (.lit q) hb12 (.lit q))<|Rv (O.mv (.lit q)) ?_
        rcases cnd hj with ⟨hb13,hj⟩ | ⟨hb13,hj⟩
        ·refine RunL.v (O.mv (.ptr q)) q q (.yb q q hb13) ?_
         obtain ⟨x14,hx14,hj⟩:=bnd hj
         refine RunL.c (PC.vw (ys:=[.ptr ⟨9,[]⟩ 0,SS ({ data:=#[99] })]) q (.c (View.p0 q q) (.s .nil)) (con13 x5.2 ({ data:=#[99] }) _ hx14) call13 q) q q (.yb q q hb13)<|RunL.v (O.eql (.lit q) (.k q)) q q (.yb q q hb13)<|Rv (O.pkT (.lit q) hb13 (.lit q))<|Rv (O.mv (.lit q)) ?_
         rcases cnd hj with ⟨hb15,hj⟩ | ⟨hb15,hj⟩
         ·refine RunL.v (O.mv (.ptr q)) q q (.yb q q hb15) ?_
          obtain ⟨x16,hx16,hj⟩:=bnd hj
          refine RunL.c (PC.vw (ys:=[.ptr ⟨9,[]⟩ 0]) q (.c (View.p0 q q) .nil) (con12 x5.2 _ hx16) call12 q) q q (.yb q q hb15)<|RunL.v (O.eql (.lit q) (.k q)) q q (.yb q q hb15)<|Rv (O.pkT (.lit q) hb15 (.lit q))<|Rv (O.mv (.lit q)) ?_
          rcases cnd hj with ⟨hb17,hj⟩ | ⟨hb17,hj⟩
          ·refine RunL.v (O.mv (.ptr q)) q q (.yb q q hb17) ?_
           obtain ⟨x18,hx18,hj⟩:=bnd hj
           refine RunL.c (PC.vw (ys:=[.ptr ⟨9,[]⟩ 0]) q (.c (View.p0 q q) .nil) (con14 x5.2 _ hx18) call14 q) q q (.yb q q hb17)<|RunL.vi (x:=iR eI [1,0]) (O.bs (ys:=[I64 1,I64 0]) eI [1,0] sl33 q q q q q q zt3 q q) q q (.yb q q hb17) ?_
           obtain ⟨x19,hx19,hj⟩:=bnd hj
           obtain rfl:=sm hj
           exact RunL.c (PC.vw (ys:=[.brw eI.z ⟨61,[]⟩ x18.length,iR eI [1,0]]) q (.c (.row q) (.s .nil)) (con15 x18 [1,0] _ hx19) call15 q) q q (.yb q q hb17)<|Rv (O.pkT (.lit q) hb17 (.lit q))<|Va q<|Fi (.n q .nil)
          ·obtain rfl:=sm hj
           exact RunL.ps q q hb17 q q<|RunL.ps q q hb17 q q<|RunL.ps q q hb17 q q<|RunL.ps q q hb17 q q<|Rv (O.pkF (.lit q) hb17 (.k q))<|Va q<|Fi (.n q .nil)
         ·obtain rfl:=sm hj
          exact RunL.ps q q hb15 q q<|RunL.ps q q hb15 q q<|RunL.ps q q hb15 q q<|Rv (O.pkF (.lit q) hb15 (.k q))<|Vm q<|RunL.ps q q q q q<|RunL.ps q q q q q<|RunL.ps q q q q q<|RunL.ps q q q q q<|Rv (O.pkF (.lit q) q (.k q))<|Va q<|Fi (.n q .nil)
        ·obtain rfl:=sm hj
         exact RunL.ps q q hb13 q q<|RunL.ps q q hb13 q q<|RunL.ps q q hb13 q q<|Rv (O.pkF (.lit q) hb13 (.k q))<|Vm q<|RunL.ps q q q q q<|RunL.ps q q q q q<|RunL.ps q q q q q<|Rv (O.pkF (.lit q) q (.k q))<|Vm q<|RunL.ps q q q q q<|RunL.ps q q q q q<|RunL.ps q q q q q<|RunL.ps q q q q q<|Rv (O.pkF (.lit q) q (.k q))<|Va q<|Fi (.n q .nil)
       ·obtain rfl:=sm hj
        exact RunL.ps q q hb12 q q<|RunL.ps q q hb12 q q<|Rv (O.pkF (.lit q) hb12 (.k q))<|Vm q<|RunL.ps q q q q q<|RunL.ps q q q q q<|RunL.ps q q q q q<|Rv (O.pkF (.lit q) q (.k q))<|Vm q<|RunL.ps q q q q q<|RunL.ps q q q q q<|RunL.ps q q q q q<|Rv (O.pkF (.lit q) q (.k q))<|Vm q<|RunL.ps q q q q q<|RunL.ps q q q q q<|RunL.ps q q q q q<|RunL.ps q q q q q<|Rv (O.pkF (.lit q) q (.k q))<|Va q<|Fi (.n q .nil)
      ·obtain rfl:=sm hj
       exact RunL.ps q q hb11 q q<|Rv (O.pkF (.lit q) hb11 (.k q))<|Vm q<|RunL.ps q q q q q<|RunL.ps q q q q q<|Rv (O.pkF (.lit q) q (.k q))<|Vm q<|RunL.ps q q q q q<|RunL.ps q q q q q<|RunL.ps q q q q q<|Rv (O.pkF (.lit q) q (.k q))<|Vm q<|RunL.ps q q q q q<|RunL.ps q q q q q<|RunL.ps q q q q q<|Rv (O.pkF (.lit q) q (.k q))<|Vm q<|RunL.ps q q q q q<|RunL.ps q q q q q<|RunL.ps q q q q q<|RunL.ps q q q q q<|Rv (O.pkF (.lit q) q (.k q))<|Va q<|Fi (.n q .nil)
     ·obtain rfl:=sm hj
      exact RunL.ps q q hb10 q q<|RunL.ps q q hb10 q q<|Rv (O.pkF (.lit q) hb10 (.k q))<|Vm q<|RunL.ps q q q q q<|Rv (O.pkF (.lit q) q (.k q))<|Vm q<|RunL.ps q q q q q<|RunL.ps q q q q q<|Rv (O.pkF (.lit q) q (.k q))<|Vm q<|RunL.ps q q q q q<|RunL.ps q q q q q<|RunL.ps q q q q q<|Rv (O.pkF (.lit q) q (.k q))<|Vm q<|RunL.ps q q q q q<|RunL.ps q q q q q<|RunL.ps q q q q q<|Rv (O.pkF (.lit q) q (.k q))<|Vm q<|RunL.ps q q q q q<|RunL.ps q q q q q<|RunL.ps q q q q q<|RunL.ps q q q q q<|Rv (O.pkF (.lit q) q (.k q))<|Va q<|Fi (.n q .nil)
    ·obtain rfl:=sm hj
     exact RunL.ps q q hb9 q q<|RunL.ps q q hb9 q q<|Rv (O.pkF (.lit q) hb9 (.k q))<|Vm q<|RunL.ps q q q q q<|RunL.ps q q q q q<|Rv (O.pkF (.lit q) q (.k q))<|Vm q<|RunL.ps q q q q q<|Rv (O.pkF (.lit q) q (.k q))<|Vm q<|RunL.ps q q q q q<|RunL.ps q q q q q<|Rv (O.pkF (.lit q) q (.k q))<|Vm q<|RunL.ps q q q q q<|RunL.ps q q q q q<|RunL.ps q q q q q<|Rv (O.pkF (.lit q) q (.k q))<|Vm q<|RunL.ps q q q q q<|RunL.ps q q q q q<|RunL.ps q q q q q<|Rv (O.pkF (.lit q) q (.k q))<|Vm q<|RunL.ps q q q q q<|RunL.ps q q q q q<|RunL.ps q q q q q<|RunL.ps q q q q q<|Rv (O.pkF (.lit q) q (.k q))<|Va q<|Fi (.n q .nil)
   ·obtain rfl:=sm hj
    exact RunL.ps q q hb8 q q<|RunL.ps q q hb8 q q<|Rv (O.pkF (.lit q) hb8 (.k q))<|Vm q<|RunL.ps q q q q q<|RunL.ps q q q q q<|Rv (O.pkF (.lit q) q (.k q))<|Vm q<|RunL.ps q q q q q<|RunL.ps q q q q q<|Rv (O.pkF (.lit q) q (.k q))<|Vm q<|RunL.ps q q q q q<|Rv (O.pkF (.lit q) q (.k q))<|Vm q<|RunL.ps q q q q q<|RunL.ps q q q q q<|Rv (O.pkF (.lit q) q (.k q))<|Vm q<|RunL.ps q q q q q<|RunL.ps q q q q q<|RunL.ps q q q q q<|Rv (O.pkF (.lit q) q (.k q))<|Vm q<|RunL.ps q q q q q<|RunL.ps q q q q q<|RunL.ps q q q q q<|Rv (O.pkF (.lit q) q (.k q))<|Vm q<|RunL.ps q q q q q<|RunL.ps q q q q q<|RunL.ps q q q q q<|RunL.ps q q q q q<|Rv (O.pkF (.lit q) q (.k q))<|Va q<|Fi (.n q .nil)
  refine Px.sq<|W.rt ?_
  obtain rfl:=sm h
  exact Px.fin (Fin.ro (.f q q .nil) q (ode (by kernel_rfl)) .nil q (.inr q))
theorem con4 (a0:(List ByteArray)) (r:Bool) (h:pf4 a0=some r):Con Try.prog 4 [iR eS a0] [none] (BB r):=by
 unfold pf4 at h
 refine Con.go (N:=⟨79,[]⟩) Try.func4 q q q q (W.fin ?_)
 refine W.st [(0,iR eS a0)] ?_
 refine W.sq'<|W.rx [(0,_)] (Vk q<|Fi (.n q .nil)) ?_
 refine Px.sq<|W.sq' ?_
 refine W.sq' ?_
 obtain ⟨x1,hx1,h⟩:=bnd h
 refine W.rx [(0,_),(12,_)] (Rc (PC.go .nil (con5  _ hx1) call5 q)<|Rv (O.not (.lit q))<|Fi (tn2 q q)) ?_
 refine Px.sq<|W.cnd q (fun hb2=>?_) (fun hb2=>?_)
 ·replace h:=cndT hb2 h
  refine W.sq'<|W.rx [(2,_)] (Vk q<|Fi (.n q .nil)) ?_
  refine Px.sq<|W.rt ?_
  refine Px.sqR ?_
  obtain rfl:=sm h
  exact Px.fin (Fin.ro (.f q q .nil) q (ode (by kernel_rfl)) (.no .nil) q (.inr q))
 ·replace h:=cndF hb2 h
  refine W.sk<|Px.sq ?_
  refine W.sq' ?_
  obtain ⟨x3,hx3,h⟩:=bnd h
  refine W.rx [(0,_),(3,.ptr ⟨13,[]⟩ 0),(13,_)] (Rc (PC.go .nil (con8  _ hx3) call8 q)<|Rv (O.az (.obj q))<|Fi (.n q (.q q q q (.n q .nil)))) ?_
  refine Px.sq<|W.sq' ?_
  obtain ⟨x4,hx4,h⟩:=bnd h
  refine W.rx [(0,_),(3,.ptr ⟨13,[]⟩ 0),(13,_)] (Rv (O.mv (.imm q))<|Rc (PC.go (.cc (.imm q) .nil) (con6 a0 _ hx4) call6 q)<|RunL.re (G1:=[(3,.ptr ⟨13,[]⟩ 0),(13,_),(15,_)]) (.q q q q (tn2 q q))<|Rv (O.az (.imm q))<|Fi (.n q (.q q q q (.n q .nil)))) ?_
  refine Px.sq<|W.sq' ?_
  refine W.sq'<|W.rx [(0,_),(3,.ptr ⟨13,[]⟩ 0),(4,_),(13,_)] (Vk q<|Fi (.n q (.q q q q (tn2 q q)))) ?_
  refine Px.sq<|W.bk ?_
  obtain ⟨x6,hl,h⟩:=bnd h
  refine W.tr (G1:=[(0,_),(3,.ptr ⟨13,[]⟩ 0),(4,_),(13,_)]) (.n q (.q q q q (tn2 q q))) ?_
  refine W.lp1 (s:=(0,x3.f_list,x3.f_of)) (fun (s5:Int × List ByteArray × (List (ByteArray × Int)))=>[(0,iR eS x4),(3,.ptr ⟨13,[]⟩ 0),(4,I64 s5.1),(13,.obj [oR eS s5.2.1,.mp (MI mk9 mv3 s5.2.2)])]) 0 (fun (x6:List ByteArray × (List (ByteArray × Int)))=>[(0,iR eS x4),(3,.ptr ⟨13,[]⟩ 0),(13,.obj [oR eS x6.1,.mp (MI mk9 mv3 x6.2)])]) hl (fun s5 o h=>?_) ?_
  ·clear hl
   refine W.sq'<|W.sq' ?_
   refine W.rx [(0,_),(3,.ptr ⟨13,[]⟩ 0),(4,_),(13,_),(19,_)] (Vm q<|Rv (O.mv (.imm q))<|Rv (O.lenI (.imm q) sl22)<|Rv (O.lss (.lit q) (.lit q))<|Fi (.n q (.q q q q (tn3 q q q)))) ?_
   refine Px.sq<|W.cnd q (fun hb8=>?_) (fun hb8=>?_)
   ·replace h:=cndT hb8 h
    refine W.sk<|Px.sq ?_
    refine W.sq'<|W.bk ?_
    obtain ⟨x9,hx9,h⟩:=bnd h
    obtain ⟨x10,hx10,h⟩:=bnd h
    refine W.rx [(0,_),(3,.ptr ⟨13,[]⟩ 0),(4,_),(13,_)] (Rv (O.mv (.ptr q))<|Rv (O.mv (.imm q))<|Vm q<|Rv (O.ixI (.imm q) (.lit q) sl22 hx9)<|Rv (O.ldI (x:=SS x9) (.iptr q) ct9 q)<|RunL.ef q (EO.call q q (CallOk.ln (G2:=[(0,iR eS x4),(4,I64 s5.1)]) (A:=[(3,.ptr ⟨13,[]⟩ 0)]) (ys:=[.ptr ⟨13,[]⟩ 0,SS x9]) (args:=[.obj [oR eS s5.2.1,.mp (MI mk9 mv3 s5.2.2)],SS x9]) (cs':=[oR eS x10.2.f_list,.mp (MI mk9 mv3 x10.2.f_of)]) (k0:=0) q q q q (.b q (.n q .nil)) q (con9 (⟨s5.2.1,s5.2.2⟩:names_Names) x9 _ hx10) call9 (tn2 q q) q q (tn2 q q) (.c q q q q .nil) q))<|Fi (.n q (.q q q q (tn2 q q)))) ?_
    refine Px.bk ?_
    refine Px.sq<|W.rx [(0,_),(3,.ptr ⟨13,[]⟩ 0),(4,_),(13,_)] (Vm q<|Rv (O.add (.lit q) (.k q))<|RunL.re (G1:=[(0,_),(3,.ptr ⟨13,[]⟩ 0),(13,_),(21,_)]) (.n q (.q q q q (tn2 q q)))<|Va q<|Fi (.n q (.q q q q (tn2 q q)))) ?_
    obtain rfl:=sm h
    exact Px.go (.n q (.q q q q (tn2 q q)))
   ·replace h:=cndF hb8 h
    refine W.xi ?_
    refine Px.sqE ?_
    obtain rfl:=sm h
    exact Px.x1 (.n q (.q q q q (.n q .nil)))
  refine Px.bkH ?_
  refine Px.sq<|W.sq' ?_
  obtain ⟨x11,hx11,h⟩:=bnd h
  refine W.rx [(0,_),(3,.ptr ⟨13,[]⟩ 0),(5,_),(13,_)] (Rv (O.mv (.ptr q))<|Rc (PC.vw (ys:=[.ptr ⟨13,[]⟩ 0]) q (.c (View.p0 q q) .nil) (con14 (⟨x6.1,x6.2⟩:names_Names) _ hx11) call14 q)<|RunL.ea (G2:=[(0,iR eS x4),(3,.ptr ⟨13,[]⟩ 0),(13,.obj [oR eS x6.1,.mp (MI mk9 mv3 x6.2)])]) q (EO.aR q q (.own q) q (.n q q (.p q q q q (.n q q .nil))) q q)<|Fi (.n q (.q q q q (tn2 q q)))) ?_
  refine Px.sq<|W.sq' ?_
  refine W.sq' ?_
  obtain ⟨c16,hj,h⟩:=bnd h
  refine W.rx [(3,.ptr ⟨13,[]⟩ 0),(5,oR eI x11),(13,.obj [oR eS x6.1,.mp (MI mk9 mv3 x6.2)]),(42,BB c16)] ?_ ?_
  ·refine Rv (O.mv (.own q))<|Rv (O.lenO (.brw q) sl33)<|Rv (O.mv (.ptr q)) ?_
   obtain ⟨x12,hx12,hj⟩:=bnd hj
   refine Rc (PC.vw (ys:=[.ptr ⟨13,[]⟩ 0]) q (.c (View.p0 q q) .nil) (con12 (⟨x6.1,x6.2⟩:names_Names) _ hx12) call12 q)<|Rv (O.neq (.lit q) (.lit q))<|Rv (O.mv (.lit q)) ?_
   rcases cnd hj with ⟨hb13,hj⟩ | ⟨hb13,hj⟩
   ·obtain rfl:=sm hj
    exact RunL.ps q q hb13 q q<|RunL.ps q q hb13 q q<|RunL.ps q q hb13 q q<|RunL.ps q q hb13 q q<|RunL.ps q q hb13 q q<|RunL.ps q q hb13 q q<|Rv (O.pkT (.lit q) hb13 (.k q))<|Fi (.q q q q (tn3 q q q))
   ·refine RunL.v (O.mv (.ptr q)) q q (.yb q q hb13) ?_
    obtain ⟨x14,hx14,hj⟩:=bnd hj
    refine RunL.c (PC.vw (ys:=[.ptr ⟨13,[]⟩ 0]) q (.c (View.p0 q q) .nil) (con12 (⟨x6.1,x6.2⟩:names_Names) _ hx14) call12 q) q q (.yb q q hb13)<|RunL.v (O.mv (.imm q)) q q (.yb q q hb13) ?_
    obtain ⟨x15,hx15,hj⟩:=bnd hj
    obtain rfl:=sm hj
    exact RunL.c (PC.go (.cc (.imm q) .nil) (con7 x4 _ hx15) call7 q) q q (.yb q q hb13)<|RunL.v (O.lenI (.imm q) sl22) q q (.yb q q hb13)<|RunL.v (O.neq (.lit q) (.lit q)) q q (.yb q q hb13)<|Rv (O.pkF (.lit q) hb13 (.lit q))<|Fi (.q q q q (tn3 q q q))
  refine Px.sq<|W.cnd q (fun hb17=>?_) (fun hb17=>?_)
  ·replace h:=cndT hb17 h
   refine W.sq'<|W.rx [(2,_)] (Vk q<|Fi (.n q .nil)) ?_
   refine Px.sq<|W.rt ?_
   refine Px.sqR ?_
   obtain rfl:=sm h
   exact Px.fin (Fin.ro (.f q q .nil) q (ode (by kernel_rfl)) (.no .nil) q (.inr q))
  ·replace h:=cndF hb17 h
   refine W.sk<|Px.sq ?_
   refine W.sq'<|W.sq' ?_
   refine W.rx [(3,.ptr ⟨13,[]⟩ 0),(5,_),(6,_),(13,_)] (Vk q<|Fi (.q q q q (tn3 q q q))) ?_
   refine Px.sq<|W.bk ?_
   obtain ⟨x19,hl,h⟩:=bnd h
   refine W.tr (G1:=[(3,.ptr ⟨13,[]⟩ 0),(5,_),(6,_),(13,_)]) (.q q q q (tn3 q q q)) ?_
   refine W.lp2 (s:=1) (fun (s18:Int)=>[(3,.ptr ⟨13,[]⟩ 0),(5,oR eI x11),(6,I64 s18),(13,.obj [oR eS x6.1,.mp (MI mk9 mv3 x6.2)])]) 2 (fun (x20:Unit)=>[]) (fun (x21:Bool)=>[(2,BB x21)]) hl (fun s18 o h=>?_) (fun x20 hx=>?_) (fun x21 hx=>?_)
   ·clear hl
    refine W.sq'<|W.sq' ?_
    refine W.rx [(3,.ptr ⟨13,[]⟩ 0),(5,_),(6,_),(13,_),(46,_)] (Vm q<|Rv (O.mv (.own q))<|Rv (O.lenO (.brw q) sl33)<|Rv (O.lss (.lit q) (.lit q))<|Fi (.q q q q (tn4 q q q q))) ?_
    refine Px.sq<|W.cnd q (fun hb22=>?_) (fun hb22=>?_)
    ·replace h:=cndT hb22 h
     refine W.sk<|Px.sq ?_
     refine W.sq'<|W.bk ?_
     refine W.sq' ?_
     obtain ⟨x23,hx23,h⟩:=bnd h
     obtain ⟨x24,hx24,h⟩:=bnd h
     refine W.rx [(3,.ptr ⟨13,[]⟩ 0),(5,_),(6,_),(7,_),(8,_),(13,_)] (Rv (O.mv (.ptr q))<|Rv (O.mv (.own q))<|Vm q<|Rv (O.sub (.lit q) (.k q))<|Rv (O.ixO (en:=eI) q (.brw q) (.lit q) sl33 hx23 q)<|Rv (O.ldE (en:=eI) (x':=I64 x23) q (.ptr q) ct3 hx23 q q)<|Rc (PC.vw (ys:=[.ptr ⟨13,[]⟩ 0,I64 x23]) q (.c (View.p0 q q) (.s .nil)) (con11 (⟨x6.1,x6.2⟩:names_Names) x23 _ hx24) call11 q)<|Rv (O.mv (.tupF q q))<|Rv (O.ex (y:=SS x24.1) q q q)<|Rv (O.ex (y:=BB x24.2) q q q)<|Va q<|Va q<|Fi (.q q q q (tn5 q q q q q))) ?_
     refine Px.sq<|W.sq' ?_
     obtain ⟨x25,hx25,h⟩:=bnd h
     obtain ⟨x26,hx26,h⟩:=bnd h
     refine W.rx [(3,.ptr ⟨13,[]⟩ 0),(5,_),(6,_),(7,_),(8,_),(9,_),(10,_),(13,_)] (Rv (O.mv (.ptr q))<|Rv (O.mv (.own q))<|Vm q<|Rv (O.ixO (en:=eI) q (.brw q) (.lit q) sl33 hx25 q)<|Rv (O.ldE (en:=eI) (x':=I64 x25) q (.ptr q) ct3 hx25 q q)<|Rc (PC.vw (ys:=[.ptr ⟨13,[]⟩ 0,I64 x25]) q (.c (View.p0 q q) (.s .nil)) (con11 (⟨x6.1,x6.2⟩:names_Names) x25 _ hx26) call11 q)<|Rv (O.mv (.tupF q q))<|Rv (O.ex (y:=SS x26.1) q q q)<|Rv (O.ex (y:=BB x26.2) q q q)<|Va q<|Va q<|Fi (.q q q q (tn7 q q q q q q q))) ?_
     refine Px.sq<|W.sq' ?_
     obtain ⟨c29,hj,h⟩:=bnd h
     refine W.rx [(3,.ptr ⟨13,[]⟩ 0),(5,oR eI x11),(6,I64 s18),(13,.obj [oR eS x6.1,.mp (MI mk9 mv3 x6.2)]),(78,BB c29)] ?_ ?_
     ·refine Vm q<|Rv (O.not (.lit q))<|Rv (O.mv (.lit q)) ?_
      rcases cnd hj with ⟨hb27,hj⟩ | ⟨hb27,hj⟩
      ·obtain rfl:=sm hj
       exact RunL.ps q q hb27 q q<|RunL.ps q q hb27 q q<|Rv (O.pkT (.lit q) hb27 (.k q))<|Vm q<|RunL.ps q q q q q<|RunL.ps q q q q q<|RunL.ps q q q q q<|Rv (O.pkT (.lit q) q (.k q))<|Fi (.q q q q (tn4 q q q q))
      ·refine RunL.v (O.mv (.lit q)) q q (.yb q q hb27)<|RunL.v (O.not (.lit q)) q q (.yb q q hb27)<|Rv (O.pkF (.lit q) hb27 (.lit q))<|Rv (O.mv (.lit q)) ?_
       rcases cnd hj with ⟨hb28,hj⟩ | ⟨hb28,hj⟩
       ·obtain rfl:=sm hj
        exact RunL.ps q q hb28 q q<|RunL.ps q q hb28 q q<|RunL.ps q q hb28 q q<|Rv (O.pkT (.lit q) hb28 (.k q))<|Fi (.q q q q (tn4 q q q q))
       ·obtain rfl:=sm hj
        exact RunL.v (O.mv (.lit q)) q q (.yb q q hb28)<|RunL.v (O.mv (.lit q)) q q (.yb q q hb28)<|RunL.v (O.geS (.lit q) (.lit q)) q q (.yb q q hb28)<|Rv (O.pkF (.lit q) hb28 (.lit q))<|Fi (.q q q q (tn4 q q q q))
     refine Px.sq<|W.cnd q (fun hb30=>?_) (fun hb30=>?_)
     ·replace h:=cndT hb30 h
      refine W.sq'<|W.rx [(2,_)] (Vk q<|Fi (.n q .nil)) ?_
      refine Px.sq<|W.rt ?_
      refine Px.bkR ?_
      refine Px.sqR ?_
      obtain rfl:=sm h
      exact Px.r2 (.n q .nil)
     ·replace h:=cndF hb30 h
      refine W.sk<|Px.bk ?_
      refine Px.sq<|W.rx [(3,.ptr ⟨13,[]⟩ 0),(5,_),(6,_),(13,_)] (Vm q<|Rv (O.add (.lit q) (.k q))<|RunL.re (G1:=[(3,.ptr ⟨13,[]⟩ 0),(5,_),(13,_),(48,_)]) (.q q q q (tn3 q q q))<|Va q<|Fi (.q q q q (tn3 q q q))) ?_
      obtain rfl:=sm h
      exact Px.go (.q q q q (tn3 q q q))
    ·replace h:=cndF hb22 h
     refine W.xi ?_
     refine Px.sqE ?_
     obtain rfl:=sm h
     exact Px.x2 .nil
   ·subst hx
    refine Px.bkH ?_
    refine Px.sq<|W.sq' ?_
    refine W.rx [(2,_)] (Vk q<|Fi (.n q .nil)) ?_
    refine Px.sq<|W.rt ?_
    obtain rfl:=sm h
    exact Px.fin (Fin.ro (.f q q .nil) q (ode (by kernel_rfl)) (.no .nil) q (.inr q))
   ·subst hx
    refine Px.bkR ?_
    refine Px.sqR ?_
    obtain rfl:=sm h
    exact Px.fin (Fin.ro (.f q q .nil) q (ode (by kernel_rfl)) (.no .nil) q (.inr q))
end Go.Proofs
namespace Go.Own
open Go Go.ChangeShapes Go.WideShapes Go.ChangeAt Go.RowKit
variable {H:Type}{enc:TypeId × Value->H}{P:Program}
theorem post_old {f:Func}{s:ChangeSpec}{apart fresh handsOn again:Bool}{W W':World}{args:Array Value}{v:Value}{ds gs:List (DataW H)}{before pa pv:List MemPlace}
  (hW:DataW.Whole enc P f.params.toList s.vars apart W args.toList ds gs before) (hk:Kp W W') (hps:before=pa++pv)
  (hres:∀ (b:Nat) (sp:Nat->Bool) (hd:Bool),DataW.TrodAll enc P W' b sp hd f.resultTypes.toList (v.resultList f.resultTypes.size) (s.fn H (ds++gs)).results [])
  (hargs:∀ sp:Nat->Bool,(∀ p∈before,sp p.block=true)->DataW.TrodAll enc P W' 0 sp true f.params.toList args.toList (s.fn H (ds++gs)).args pa)
  (hvars:∀ sp:Nat->Bool,(∀ p∈before,sp p.block=true)->DataW.TrodVars enc P W' sp s.vars (s.fn H (ds++gs)).vars pv)
  (hok:∀ (j:Nat) (t:TypeId) (r:Value),f.resultTypes[j]?=some t->(v.resultList f.resultTypes.size)[j]?=some r->Value.okWide P W' .any 0 t r) :
  s.post enc P f apart fresh handsOn again W args v W':=by
 subst hps
 have hlt:∀ p∈pa++pv,p.block<W.heap.size:=fun p hp=>hW.lt p hp
 have hsp:∀ p∈pa++pv,(fun b=>decide (b<W.heap.size)) p.block=true:=fun p hp=>decide_eq_true (hlt p hp)
 have hWh:=hW
 obtain ⟨_,_,_,_,_,hz,hn⟩:=hWh
 have ht:=trodAll_append (hargs (fun _=>true) (fun _ _=>rfl)) (hres 0 (fun _=>true) true)
 refine ⟨ds,gs,pa++pv,[],pa,pv,hW,hres _ _ _,hargs _ hsp,hvars _ hsp,hk.kept _,fun _=>⟨hok,_,_,pa++pv,⟨_,pv,ht,hvars _ (fun _ _=>rfl),rfl,fun b off hp=>?_,hn⟩,fun p hp _=>hp⟩⟩
 rw [hk.fz _ (hlt _ hp)]
 exact hz b off hp
end Go.Own
namespace Go.Proofs
open Go Go.Own
set_option maxRecDepth 100000
theorem uS:Try.prog.underlying 9=some .string:=by kernel_rfl
def okS (s:ByteArray):Prop:=s.size<=maxLen
def okL {α:Type}(p:α->Prop) (l:List α):Prop:=l.length<=maxLen/\∀ x∈l,p x
theorem aS:Ar Try.prog eS 9 okS:=.str uS (by kernel_rfl) fun _=>rfl
theorem uLS:Try.prog.underlying 22=some (.slice 9):=by kernel_rfl
theorem aLS:Ar Try.prog (eM eS) 22 (okL okS):=aS.slice (t:=22) uLS (by kernel_rfl) (by decide)
theorem pLaid:laidOutB Try.prog=true:=by kernel_rfl
theorem pMaps:mapsRowed Try.prog=true:=by kernel_rfl
theorem pFull:((List.range Try.prog.types.size).all fun t=>match Try.prog.underlying t with | some (.slice e)=>decide (0<Try.prog.cellsOf e) | _=>true)=true:=by kernel_rfl
end Go.Proofs
