/-
  What is proved here: parts of the proof that the last text states: rules for walks through code, and of this program's functions what they answer. No condition of their own.
-/
import Derived.ChangeAt
import Derived.ChangeOld
import Derived.ChangeSame
import Derived.Deep.Draws
import Derived.Deep.LoopGhost
import Derived.Deep.Slices
import Derived.KernelRfl
import Derived.Laws.CopyRow
import Derived.Lib.SliceRun
import Derived.Lib.SlicesCompact
import Derived.Lib.Walk
import Derived.Maps.OwnIn
import Derived.ReadAgain
import Derived.RowKit3
import Derived.Shelf.RegionOpenPlain
import Derived.Shelf.SlLaysQ
import Derived.Shelf.SlSortCmp.NoneTotal
import Derived.Shelf.SlicesE.Kit
import Derived.Shelf.SlicesQ.Load
import Derived.Sort.WalkB12
import Derived.StringKeys
import Derived.Test.YtbcajhiedeghlaaRows
import Derived.WalkKit
import Derived.WideShapes
import Derived.Test.YtbcajhiedeghlaaE2
namespace Go.Own
open Go Go.RowKit Go.ChangeShapes Go.WideShapes Go.Deep
variable {α β σ:Type}{P:Program}
abbrev R0 (w:World) (y:AV) (u:Value):Prop:=R w (fun b=>b<w.heap.size) (fun _ _=>False) y u (fun _=>False)
def RL (w:World) (ys:List AV) (cs:List Value):Prop :=
 ys.length=cs.length/\∀ (k:Nat) (y:AV) (u:Value),ys[k]?=some y->cs[k]?=some u->u.oneCell'=true/\R0 w y u
theorem RL.nil {w:World}:RL w [] []:=⟨rfl,fun _ _ _ h=>by simp at h⟩
theorem RL.one {w:World}{y:AV}{u:Value}(h1:u.oneCell'=true) (h:R0 w y u):RL w [y] [u] :=
 ⟨rfl,fun k y' u' hy hu=>by
  cases k with
  | zero=>simp at hy hu; subst hy hu; exact ⟨h1,h⟩
  | succ k=>simp at hy⟩
theorem RL.app {w:World}{ys zs:List AV}{cs ds:List Value}(h:RL w ys cs) (h2:RL w zs ds):RL w (ys++zs) (cs++ds):=by
 refine ⟨by simp [h.1,h2.1],fun k y u hy hu=>?_⟩
 by_cases hk:k<ys.length
 ·rw [List.getElem?_append_left hk] at hy
  rw [List.getElem?_append_left (h.1 ▸ hk)] at hu
  exact h.2 k y u hy hu
 ·rw [List.getElem?_append_right (by omega)] at hy
  rw [List.getElem?_append_right (by have:=h.1; omega),<- h.1] at hu
  exact h2.2 _ y u hy hu
structure Ar (P:Program) (e:En α) (t:TypeId) (ok:α->Prop):Prop where
 z:P.cellsOf t=e.z
 go:∀ {H:Type}{enc:TypeId × Value->H}{w:World}{n:Nat}{cs:List Value}{x:DataW H × List MemPlace},
  DataW.trod enc P w 0 (fun _=>true) true n t cs=some x->∃ a,ok a/\RL w (e.cells a) cs
theorem Ar.int {e:En Int}{t:TypeId}{k:IntKind}(ht:P.underlying t=some (.int k)) (hz:P.cellsOf t=e.z) (he:∀ n,e.cells n=[.lit (.int k n)]) :
  Ar P e t (fun n=>(Lit.int k n).wf=true):=by
 refine ⟨hz,fun h=>?_⟩
 obtain ⟨n,rfl,_,hw⟩:=DataW.trod_int ht h
 exact ⟨n,hw,he n ▸ RL.one rfl (.lit rfl fun _ h=>h)⟩
theorem Ar.bool {e:En Bool}{t:TypeId}(ht:P.underlying t=some .bool) (hz:P.cellsOf t=e.z) (he:∀ n,e.cells n=[.lit (.bool n)]) :
  Ar P e t (fun _=>True):=by
 refine ⟨hz,fun h=>?_⟩
 obtain ⟨n,rfl,_⟩:=DataW.trod_bool ht h
 exact ⟨n,trivial,he n ▸ RL.one rfl (.lit rfl fun _ h=>h)⟩
theorem rowc_nth (e:En α) (hz:0<e.z):∀ (l:List α) (k:Nat) (y:AV),(rowc e l)[k]?=some y->∃ a,l[k / e.z]?=some a/\(e.cells a)[k % e.z]?=some y
 | [],k,y,h=>by simp [rowc] at h
 | a::l,k,y,h=>by
  have he:rowc e (a::l)=e.cells a++rowc e l:=by simp [rowc]
  rw [he] at h
  by_cases hk:k<e.z
  ·rw [List.getElem?_append_left (by rw [e.len]; exact hk)] at h
   exact ⟨a,by simp [Nat.div_eq_of_lt hk],by rw [Nat.mod_eq_of_lt hk]; exact h⟩
  ·rw [List.getElem?_append_right (by rw [e.len]; omega),e.len] at h
   obtain ⟨b,h1,h2⟩:=rowc_nth e hz l (k - e.z) y h
   have hd:k / e.z=(k - e.z) / e.z+1:=by rw [Nat.div_eq_sub_div hz (by omega)]
   refine ⟨b,by rw [hd]; simpa using h1,?_⟩
   rw [Nat.mod_eq_sub_mod (by omega)]; exact h2
theorem Ar.slice {e:En α}{t te:TypeId}{ok:α->Prop}(h:Ar P e te ok) (ht:P.underlying t=some (.slice te)) (hz:P.cellsOf t=1) (hpos:0<e.z) :
  Ar P (eM e) t (fun l=>l.length<=maxLen/\∀ x∈l,ok x):=by
 classical
 refine ⟨hz,fun {H enc w n cs x} hr=>?_⟩
 rcases open_slice ht hr with ⟨rfl,rfl⟩ | ⟨a,len,cap,m,n',D,Pl,rfl,hb,hl,hm,hmm,rfl,hx⟩
 ·exact ⟨[],⟨by simp,by simp⟩,RL.one rfl (.imm0 fun _ h=>h)⟩
 ·have hmc:m=cap:=by simpa using hmm
  subst hmc
  have hex:∀ i,i<len->∃ q:α × List Value,ok q.1/\RL w (e.cells q.1) q.2/\w.cells? 0 (a.add (i * P.cellsOf te)) (P.cellsOf te)=some q.2:=fun i hi=>by
   obtain ⟨cs',h1,h2⟩:=hx i (by omega)
   obtain ⟨b,hb1,hb2⟩:=h.go h2
   exact ⟨(b,cs'),hb1,hb2,h1⟩
  by_cases h0:len=0
  ·subst h0
   exact ⟨[],⟨by simp,by simp⟩,RL.one rfl (.imm0 fun _ h=>h)⟩
  ·obtain ⟨q0,_⟩:=hex 0 (by omega)
   haveI:Inhabited (α × List Value):=⟨q0⟩
   obtain ⟨f,hf⟩:=choose_lt hex
   have hlen:((List.range len).map fun i=>(f i).1).length=len:=by simp
   have hget:∀ (i:Nat) (b:α),((List.range len).map fun i=>(f i).1)[i]?=some b->i<len/\b=(f i).1:=fun i b hi=>by
    have hlt:=(List.getElem?_eq_some_iff.1 hi).1
    simp at hlt
    simp [hlt] at hi
    exact ⟨hlt,hi.symm⟩
   have hsp:a.spot=none/\a.block<w.heap.size:=by
    obtain ⟨_,_,h3⟩:=hf 0 (by omega)
    obtain ⟨_,hl3,h5⟩:=World.cells?_some h3
    have h6:=h5 0 (by rw [h.z]; exact hpos)
    simp only [Nat.zero_mul,Addr.add,if_true] at h6
    have:0<(f 0).2.length:=by rw [hl3,h.z]; exact hpos
    rw [List.getElem?_eq_getElem this] at h6
    unfold World.cell? at h6
    split at h6
    ·rename_i hh
     refine ⟨?_,(Array.getElem?_eq_some_iff.1 hh).1⟩
     cases hs:a.spot with
     | none=>rfl
     | some s=>simp [hs] at h6
    ·cases h6
   have key:∀ (k:Nat) (y:AV),(rowc e ((List.range len).map fun i=>(f i).1))[k]?=some y->∃ u,w.cell? ⟨a.block,a.off+k,none⟩=some u/\u.oneCell'=true/\R0 w y u:=fun k y hk=>by
    obtain ⟨b,hb1,hb2⟩:=rowc_nth e hpos _ k y hk
    obtain ⟨hi,rfl⟩:=hget _ _ hb1
    obtain ⟨_,h2,h3⟩:=hf _ hi
    obtain ⟨_,hl3,h5⟩:=World.cells?_some h3
    have hmod:k % e.z<e.z:=Nat.mod_lt _ hpos
    have h6:=h5 (k % e.z) (by rw [h.z]; exact hmod)
    rw [Deep.add_add,h.z] at h6
    have hk2:k / e.z * e.z+k % e.z=k:=by rw [Nat.mul_comm]; exact Nat.div_add_mod k e.z
    rw [hk2] at h6
    have hlt:k % e.z<(f (k / e.z)).2.length:=by rw [hl3,h.z]; exact hmod
    rw [List.getElem?_eq_getElem hlt] at h6
    have ha:a.add k=⟨a.block,a.off+k,none⟩:=by
     unfold Addr.add
     split
     ·rename_i h00; subst h00; cases a; simp at hsp ⊢; exact hsp.1
     ·rfl
    rw [ha] at h6
    exact ⟨_,h6,h2.2 _ _ _ hb2 (List.getElem?_eq_getElem hlt)⟩
   refine ⟨(List.range len).map fun i=>(f i).1,⟨by rw [hlen]; omega,fun y hy=>?_⟩,RL.one rfl ?_⟩
   ·obtain ⟨i,hi,rfl⟩:=List.mem_map.1 hy
    exact (hf i (List.mem_range.1 hi)).1
   ·show R0 w (.imm e.z _ _) _
    rw [hlen]
    refine .imm (us:=fun k=>(w.cell? ⟨a.block,a.off+k,none⟩).getD .nilFunc) (fun _ h=>h) hl hsp.2 hsp.1 (by rw [rowc_len,hlen]) (fun k y hk=>?_) (fun k y hk=>?_) (fun k y hk=>?_)
    ·obtain ⟨u,h1,h2,h3⟩:=key k y hk
     simp only [h1,Option.getD_some]; exact h2
    ·obtain ⟨u,h1,h2,h3⟩:=key k y hk
     simp only [h1,Option.getD_some]
    ·obtain ⟨u,h1,h2,h3⟩:=key k y hk
     simp only [h1,Option.getD_some]; exact h3
def fieldsB (P:Program):Nat->List Field->List TypeId->Bool
 | _,[],[]=>true
 | off,f::fs,t::ts=>decide (f.type=t)&&decide (f.offset=off)&&fieldsB P (off+P.cellsOf t) fs ts
 | _,_,_=>false
def strB (P:Program) (t:TypeId) (ts:List TypeId):Bool :=
 match P.underlying t with
 | some (.struct fs)=>fieldsB P 0 fs.toList ts&&decide (P.cellsOf t=(ts.map P.cellsOf).sum)
 | _=>false
structure ArL (P:Program) (cells:β->List AV) (ts:List TypeId) (ok:β->Prop):Prop where
 go:∀ {H:Type}{enc:TypeId × Value->H}{w:World}{n:Nat}{cs:List Value}{fs:List Field}{off:Nat},fieldsB P off fs ts=true->cs.length=off+(ts.map P.cellsOf).sum ->
  (∀ (i:Nat) (f:Field),fs[i]?=some f->∃ x,DataW.trod enc P w 0 (fun _=>true) true n f.type ((cs.drop f.offset).take (P.cellsOf f.type))=some x) ->
  ∃ b,ok b/\RL w (cells b) (cs.drop off)
theorem ArL.nil:ArL P (fun _:Unit=>[]) [] (fun _=>True) :=
 ⟨fun {H enc w n cs fs off} _ hl _=>⟨(),trivial,by rw [List.drop_eq_nil_of_le (by simp at hl; omega)]; exact RL.nil⟩⟩
theorem ArL.cons {e:En α}{t:TypeId}{ts:List TypeId}{ok:α->Prop}{cells:β->List AV}{okl:β->Prop}(h:Ar P e t ok) (hl:ArL P cells ts okl) :
  ArL P (fun p:α × β=>e.cells p.1++cells p.2) (t::ts) (fun p=>ok p.1/\okl p.2):=by
 refine ⟨fun {H enc w n cs fs off} hB hlen hr=>?_⟩
 cases fs with
 | nil=>simp [fieldsB] at hB
 | cons f fs =>
  simp only [fieldsB,Bool.and_eq_true,decide_eq_true_eq] at hB
  obtain ⟨⟨rfl,rfl⟩,hB⟩:=hB
  obtain ⟨x,hx⟩:=hr 0 f rfl
  obtain ⟨a,ha,hR⟩:=h.go hx
  obtain ⟨b,hb,hRb⟩:=hl.go (off:=f.offset+P.cellsOf f.type) (cs:=cs) hB (by rw [hlen]; simp [Nat.add_assoc]) (fun i f' hf'=>hr (i+1) f' (by simpa using hf'))
  refine ⟨(a,b),⟨ha,hb⟩,?_⟩
  have:cs.drop f.offset=(cs.drop f.offset).take (P.cellsOf f.type)++cs.drop (f.offset+P.cellsOf f.type):=by
   rw [<- List.drop_drop]; exact (List.take_append_drop _ _).symm
  rw [this]
  exact hR.app hRb
theorem Ar.struct {e:En σ}{t:TypeId}{ts:List TypeId}{cells:β->List AV}{ok:β->Prop}(h:ArL P cells ts ok) (mk:β->σ) (un:σ->β) (hun:∀ b,un (mk b)=b) (hc:∀ b,e.cells (mk b)=cells b) (ht:strB P t ts=true) (hz:P.cellsOf t=e.z) :
  Ar P e t (fun s=>ok (un s)):=by
 refine ⟨hz,fun {H enc w n cs x} hr=>?_⟩
 unfold strB at ht
 split at ht
 ·rename_i fs hu
  simp only [Bool.and_eq_true,decide_eq_true_eq] at ht
  obtain ⟨xs,n',rfl,rfl,hl,hxl,hx⟩:=DataW.trod_struct hu hr
  obtain ⟨b,hb,hR⟩:=h.go (w:=w) (off:=0) (cs:=cs) (fs:=fs.toList) (n:=n') (enc:=enc) ht.1 (by rw [hl,ht.2]; simp) (fun i f hf=>by
   have hf':fs[i]?=some f:=by simpa using hf
   have hi:i<xs.length:=by rw [hxl]; exact (Array.getElem?_eq_some_iff.1 hf').1
   exact ⟨xs[i],by rw [hx i f hf',List.getElem?_eq_getElem hi]⟩)
  exact ⟨mk b,by rw [hun]; exact hb,by rw [hc]; simpa using hR⟩
 ·cases ht
inductive ArgR (w:World):AV->Value->Prop
 | mk {y:AV}{v:Value}(h:R0 w y v):ArgR w y v
theorem Ar.one {e:En α}{t:TypeId}{ok:α->Prop}{g:α->AV}(h:Ar P e t ok) (he:∀ a,e.cells a=[g a]) {H:Type}{enc:TypeId × Value->H}{w:World}{v:Value}{d:DataW H}{p:List MemPlace}(hv:v.cells.toList=[v])
  (ht:DataW.Trod enc P w 0 (fun _=>true) true t v d p):∃ a,ok a/\ArgR w (g a) v:=by
 obtain ⟨n,hn⟩:=ht
 obtain ⟨a,ha,hR⟩:=h.go hn
 refine ⟨a,ha,.mk ?_⟩
 rw [hv,he] at hR
 exact (hR.2 0 _ _ rfl rfl).2
theorem Ar.oneI {e:En Int}{t:TypeId}{k:IntKind}{ok:Int->Prop}{g:Int->AV}(h:Ar P e t ok) (he:∀ a,e.cells a=[g a]) (hu:P.underlying t=some (.int k)) {H:Type}{enc:TypeId × Value->H}{w:World}{v:Value}{d:DataW H}{p:List MemPlace}{base:Nat}(hv:Value.okWide P w .any base t v)
  (ht:DataW.Trod enc P w 0 (fun _=>true) true t v d p):∃ a,ok a/\ArgR w (g a) v:=by
 obtain ⟨n,rfl⟩:=okWide_int hu hv
 exact h.one he rfl ht
theorem Ar.oneA {e:En α}{t:TypeId}{ok:α->Prop}{ts:List TypeId}(h:Ar P e t ok) (hB:strB P t ts=true) {H:Type}{enc:TypeId × Value->H}{w:World}{v:Value}{d:DataW H}{p:List MemPlace}{base:Nat}(hv:Value.okWide P w .any base t v)
  (ht:DataW.Trod enc P w 0 (fun _=>true) true t v d p):∃ a,ok a/\ArgR w (.agg (e.cells a)) v:=by
 have hu:∃ fs,P.underlying t=some (.struct fs):=by
  unfold strB at hB
  split at hB
  ·exact ⟨_,by assumption⟩
  ·cases hB
 obtain ⟨fs,hu⟩:=hu
 obtain ⟨cs,rfl,hcs⟩:=okWide_struct hu hv
 obtain ⟨n,hn⟩:=ht
 obtain ⟨a,ha,hR⟩:=h.go hn
 refine ⟨a,ha,.mk ?_⟩
 have hR':RL w (e.cells a) cs.toList:=hR
 refine .agg (Fs:=fun _ _=>False) (by simpa using hR'.1) (fun k u hu=>?_) (fun k x u hx hu=>(hR'.2 k x u hx (by simpa using hu)).2) (fun _ _ _ _ _ h=>h.elim) (fun c=>⟨fun h=>h.elim,fun ⟨_,_,h⟩=>h⟩)
 have hk:k<(e.cells a).length:=by rw [hR'.1]; simpa using (Array.getElem?_eq_some_iff.1 hu).1
 exact (hR'.2 k _ u (List.getElem?_eq_getElem hk) (by simpa using hu)).1
inductive ArgsR (w:World):List AV->List Value->Prop
 | nil:ArgsR w [] []
 | cons {y:AV}{v:Value}{ys:List AV}{vs:List Value}(h:ArgR w y v) (hs:ArgsR w ys vs):ArgsR w (y::ys) (v::vs)
theorem ArgsR.get {w:World}{ys:List AV}{vs:List Value}(h:ArgsR w ys vs):ys.length=vs.length/\∀ (k:Nat) (y:AV),ys[k]?=some y->∃ v,vs[k]?=some v/\R0 w y v:=by
 induction h with
 | nil=>exact ⟨rfl,fun k y h=>by simp at h⟩
 | cons h _ ih =>
  refine ⟨by simp [ih.1],fun k y hy=>?_⟩
  cases k with
  | zero =>
   simp at hy; subst hy
   obtain ⟨h⟩:=h
   exact ⟨_,rfl,h⟩
  | succ k=>simpa using ih.2 k y (by simpa using hy)
theorem ArgsR.sr {w:World}{ys:List AV}{vs:List Value}(h:ArgsR w ys vs) (hp:ys.all (fun y=>match y with | .pend ..=>false | _=>true)=true) :
  SR w (fun b=>b<w.heap.size) vs.toArray (argG ys) (fun _=>E0):=by
 refine ⟨fun t x hx=>?_,fun _ _ _ h=>h,fun _ _ _ h=>h.elim,fun _ _ h=>h.elim,fun _ h=>h,fun t t' z p n m new z' n' m' new' h1 _=>?_⟩
 ·obtain ⟨v,hv,hR⟩:=h.get.2 t x hx
  exact ⟨v,by simpa using hv,.tree (hR.frame (fun _ _=>rfl) (fun _ h=>h) (fun _ _ h=>h.elim) (fun _ _=>rfl))⟩
 ·have:=List.all_eq_true.1 hp _ (List.mem_of_getElem? h1)
  cases this
structure Kp (w w':World):Prop where
 kept:∀ may:MemPlace->Prop,w.keptBut w' may
 fz:∀ a,a.block<w.heap.size->w'.frozen? a=w.frozen? a
theorem Con.walkA {f:FuncId}{ys:List AV}{vs:List Value}{outs:List (Option AV)}{r:Value}(hc:Con P f ys outs (.lit r)) (w:World) (h:ArgsR w ys vs) (hp:ys.all (fun y=>match y with | .pend ..=>false | _=>true)=true) :
  Calls P f vs.toArray w fun e w'=>e=.returned r/\Kp w w'/\∀ i:Nat,i<w.heap.size->w'.heap[i]?=w.heap[i]?:=by
 have:=hc.2 w _ vs _ h.get.1.symm (h.sr hp)
 refine this.mono ?_
 rintro e w' ⟨v,I',Fs',rfl,hS,hst⟩
 obtain ⟨u,hu,hR⟩:=hS.rel outs.length (.lit r) (by simp [outG])
 have hl:outs.length=vs.length:=by rw [hc.1]; exact h.get.1
 have huv:u=v:=by
  rw [hl] at hu
  simpa using hu.symm
 subst huv
 have hv:=(hR.isTree (by simp)).inv_lit.1
 subst hv
 have hb:∀ i:Nat,i<w.heap.size->w'.heap[i]?=w.heap[i]?:=fun i hi=>hst.fr.block i hi fun ⟨_,h⟩=>h
 have hk:World.keptBut w w' (fun _=>False):=⟨hst.fr.os,hst.fr.output,fun i hi=>by
  rw [hb i hi]
  exact (World.keptBut_refl w (fun _=>False)).2.2 i hi⟩
 exact ⟨rfl,⟨fun may=>World.keptBut_mono (fun _ f=>f.elim) hk,hst.fr.fz⟩,hb⟩
theorem trodAll_old {H:Type}{enc:TypeId × Value->H}{w w':World}{base:Nat}{sp:Nat->Bool}{held:Bool}(hb:∀ i:Nat,i<w.heap.size->w'.heap[i]?=w.heap[i]?) :
  ∀ {ts:List TypeId}{vs:List Value}{ds:List (DataW H)}{ps:List MemPlace},DataW.TrodAll enc P w base sp held ts vs ds ps->DataW.TrodAll enc P w' base sp held ts vs ds ps
 | [],[],[],_,h=>h
 | _::_,_::_,_::_,_,⟨p,q,⟨n,hn⟩,h2,e⟩=>by
  refine ⟨p,q,⟨n,DataW.trod_carry n _ _ _ hn fun x hx=>?_⟩,trodAll_old hb h2,e⟩
  have hlt:=DataW.trod_lt n _ _ _ hn x hx
  cases x with
  | cell b off =>
   show w'.cell? _=w.cell? _
   exact World.cell?_of_block (hb b hlt)
  | map b=>exact hb b hlt
theorem args_again {H:Type}{enc:TypeId × Value->H}{w w':World}(hl:laidOutB P=true) (hm:mapsRowed P=true)
  (hz:((List.range P.types.size).all fun t=>match P.underlying t with | some (.slice e)=>decide (0<P.cellsOf e) | _=>true)=true)
  (hb:∀ i:Nat,i<w.heap.size->w'.heap[i]?=w.heap[i]?) {ts:List TypeId}{vs:List Value}{ds:List (DataW H)}{ps:List MemPlace}(ht:ts.all (fun t=>decide (t<P.types.size))=true)
  (h:DataW.TrodAll enc P w 0 (fun _=>true) true ts vs ds ps) {sp:Nat->Bool}(hsp:∀ p∈ps,sp p.block=true):DataW.TrodAll enc P w' 0 sp true ts vs ds ps :=
 (trodAll_old hb h).respare (kids_rows hl hm) (slices_full_of P hz) (fun t h=>of_decide_eq_true (List.all_eq_true.1 ht t h)) hsp
end Go.Own
namespace Go.Own
open Go
section
variable {α β:Type}{P:Program}{N:Rm}{g g1:Gst}{p:Place}{m:Int}{a b:Operand}{t:TypeId}
theorem AV.at_app1:∀ (l:List Nat) {x nd:AV}{k:Nat}{c:AV},x.at l=some nd->nd.kids[k]?=some c->x.at (l++[k])=some c
 | [],x,nd,k,c,h,hk=>by
  simp only [AV.at,Option.some.injEq] at h
  subst h
  simp [AV.at,hk]
 | j::l,x,nd,k,c,h,hk=>by
  simp only [AV.at] at h
  cases hj:x.kids[j]? with
  | none=>rw [hj] at h; cases h
  | some y =>
   rw [hj] at h
   simp only [List.cons_append,AV.at,hj]
   exact AV.at_app1 l h hk
theorem AV.setAt_app:∀ (l:List Nat) {x nd:AV}{k:Nat}{c:AV}(y:AV),x.at l=some nd->nd.kids[k]?=some c->x.setAt (l++[k]) y=x.setAt l (nd.setKid k y)
 | [],x,nd,k,c,y,h,hk=>by
  simp only [AV.at,Option.some.injEq] at h
  subst h
  simp [AV.setAt,hk]
 | j::l,x,nd,k,c,y,h,hk=>by
  simp only [AV.at] at h
  cases hj:x.kids[j]? with
  | none=>rw [hj] at h; cases h
  | some z =>
   rw [hj] at h
   simp only [List.cons_append,AV.setAt,hj]
   rw [AV.setAt_app l y h hk]
theorem el_cell {en:En α}{L:List α}{yy:α}{o:Nat}{c:AV}(h:idx L m=some yy) (hc:(en.cells yy)[o]?=some c):(oR en L).kids[m.toNat * en.z+o]?=some c:=rowc_at en h hc
theorem atP_el {en:En α}{L:List α}{yy:α}{r o:Nat}{path:List Nat}{c:AV}(hp:atP g ⟨r,path⟩=some (oR en L)) (h:idx L m=some yy) (hc:(en.cells yy)[o]?=some c):atP g ⟨r,path++[m.toNat * en.z+o]⟩=some c:=by
 unfold atP at hp ⊢
 simp only at hp ⊢
 cases hx:g r with
 | none=>rw [hx] at hp; cases hp
 | some x =>
  rw [hx] at hp
  exact AV.at_app1 path hp (el_cell h hc)
theorem setP_el {en:En α}{L:List α}{yy:α}{r o:Nat}{path:List Nat}{c:AV}(y:AV) (hp:atP g ⟨r,path⟩=some (oR en L)) (h:idx L m=some yy) (hc:(en.cells yy)[o]?=some c) :
  setP g ⟨r,path++[m.toNat * en.z+o]⟩ y=setP g ⟨r,path⟩ (.own en.z L.length ((rowc en L).set (m.toNat * en.z+o) y)):=by
 funext s
 unfold setP
 simp only
 split
 ·rename_i e
  subst e
  unfold atP at hp
  simp only at hp
  cases hx:g s with
  | none=>rfl
  | some x =>
   rw [hx] at hp
   simp only [Option.map_some,Option.some.injEq]
   rw [AV.setAt_app path y hp (el_cell h hc)]
   rfl
 ·rfl
theorem splice_set (l:List AV) (k:Nat) (x c:AV):splice (l.set k x) k [c]=splice l k [c]:=by
 unfold splice
 simp only [List.length_singleton]
 rw [List.take_set,List.drop_set]
 rw [List.set_eq_of_length_le (by simp; omega)]
 simp
theorem EO.stEP {o':Oper}{en:En α}{en2:En β}{L:List α}{yy y2:α}{Ls M R:List β}{o s mm:Nat}{new new':List AV}{x2 y0:AV}{G2:List (Nat × AV)}
  (ho:o'.op=.store t a b) (hd:o'.dst=none) (ha:Rd g a (.ptr p (m.toNat * en.z+o))) (hb:Rd g b (.brw en2.z ⟨s,[]⟩ (Ls.length+mm)))
  (hps:g s=some (.pend en2.z ⟨p.root,p.path++[m.toNat * en.z+o]⟩ Ls.length mm new)) (hp:atP g p=some (oR en L)) (h:idx L m=some yy) (hcell:(en.cells yy)[o]?=some (oR en2 Ls)) (hq:Nat.beq p.root s=false)
  (h1:TkL (setP (setP g ⟨s,[]⟩ .dead) p (.own en.z L.length ((rowc en L).set (m.toNat * en.z+o) .dead))) new new' g1)
  (hfz:FzL new' (rowc en2 M)) (hm:M.length=mm) (hR:Ls++M=R) (hz:sizeT P t 1=true)
  (hp1:atP g1 p=some (.own en.z L.length ((rowc en L).set (m.toNat * en.z+o) .dead)))
  (he:splice (en.cells yy) o [oR en2 R]=en.cells y2) (hlen:Nat.ble (o+1) en.z=true)
  (hx2:setP g1 p (oR en (L.set m.toNat y2)) p.root=some x2) (hr:(get G2 p.root).isSome=true) (hy0:g1 p.root=some y0) [hno:NRc y0] (hG:TrX g1 (get G2) p.root x2 G2):EO P N g o' (get G2):=by
 subst hm hR
 have hlen':=Nat.le_of_ble_eq_true hlen
 have hsp:=row_set en (cs':=[oR en2 (Ls++M)]) h he (by simpa using hlen')
 have hl2:(L.set m.toNat y2).length=L.length:=List.length_set
 have hqr:=Nat.ne_of_beq_eq_false hq
 have hatq:atP g ⟨p.root,p.path++[m.toNat * en.z+o]⟩=some (oR en2 Ls):=atP_el (g:=g) (r:=p.root) (path:=p.path) hp h hcell
 have hpS:atP (setP g ⟨s,[]⟩ .dead) p=some (oR en L):=by
  unfold atP at hp ⊢
  rw [setP_slot (p:=⟨s,[]⟩) (fun e=>hqr e)]; exact hp
 have ht:TkL g [.brw en2.z ⟨s,[]⟩ (Ls.length+M.length)] [.own en2.z (Ls.length+M.length) (rowc en2 Ls++new')] g1:=by
  refine .pn hps hatq hq ?_ .nil
  rw [setP_el .dead (r:=p.root) (path:=p.path) hpS h hcell]
  exact h1
 have hk:m.toNat * en.z+o+1<=L.length * en.z:=by
  obtain ⟨q0,q1,_⟩:=idx_spec h
  have h2:m.toNat+1<=L.length:=by omega
  calc m.toNat * en.z+o+1<=m.toNat * en.z+en.z:=by omega
   _=(m.toNat+1) * en.z:=by rw [Nat.add_mul]; omega
   _<=L.length * en.z:=Nat.mul_le_mul_right _ h2
 refine .store ho hd ha.opd hb.opd ht.take (y':=oR en2 (Ls++M)) ?_ rfl hz (p:=p) (nd:=.own en.z L.length ((rowc en L).set (m.toNat * en.z+o) .dead)) (z:=en.z) (n:=L.length) (cs:=(rowc en L).set (m.toNat * en.z+o) .dead) hp1 (.inl rfl) ?_ (by simp) (fun t x hx=>?_) (fun t x hx y hy=>?_) (fun t z q n m new hx=>?_) (by intro e; rw [e] at hr; cases hr)
 ·rw [<- oR_app]; exact (hfz.pre _).own
 ·simp only [List.length_singleton,List.length_set,rowc_len]; exact hk
 ·have hnd:(AV.own en.z L.length ((rowc en L).set (m.toNat * en.z+o) .dead)).splice (m.toNat * en.z+o) [oR en2 (Ls++M)]=oR en (L.set m.toNat y2):=by
   show AV.own en.z L.length (splice ((rowc en L).set (m.toNat * en.z+o) .dead) (m.toNat * en.z+o) [oR en2 (Ls++M)])=_
   unfold oR at hsp ⊢
   rw [splice_set,hsp,hl2]
  rw [hnd]
  rcases hG.spec t x hx with ⟨h1,h2,_⟩ | ⟨h1,h2,_⟩
  ·rw [setP_slot h1]; exact h2
  ·subst h1 h2; exact hx2
 ·rcases hG.spec t x hx with ⟨h1,h2,h3⟩ | ⟨h1,h2,h3⟩
  ·rw [h2] at hy; cases hy
   rcases h3 with h3 | ⟨h3,c2,rfl⟩
   ·exact h3.rkq
   ·refine RKp.ref (by cases h3; rfl) ⟨h3.ok1,h3.clear ?_,h3.ok2⟩
    intro e
    obtain ⟨pr,pp⟩:=p
    simp only at e
    subst e
    simp only [setP,if_true,hy0,Option.map_some,AV.setAt,Option.some.injEq] at hx2
    cases hx2
  ·subst h1; rw [hy0] at hy; cases hy; exact .nr hno.nr
 ·rcases hG.spec t _ hx with ⟨_,_,h3 | ⟨h3,_⟩⟩ | ⟨_,_,h3⟩
  ·exact h3.np _ _ _ _ _ rfl
  ·exact h3.np _ _ _ _ _ rfl
  ·cases h3
end
end Go.Own
/- Short forms for printed walks. -/
namespace Go.Own
open Go
section
variable {P:Program}{N:Rm}{ops:Array Oper}{AT:List (List Nat)}{g g0:Gst}{K:Gst->Prop}{l:List Oper}{acc:Acc}{d i:Nat}{op:Op}{ty:TypeId}{pos:String}{after:Array Edge}{x:AV}
theorem Rv (hp:PS P g op ty x) (hk:RunL P N ops l (upd g d x) K) (hN:N.ok d=true:=by rfl) (hf:g d=none:=by rfl):RunL P N ops (⟨some d,op,ty,pos,after,none⟩::l) g K:=.v hp hN hf .none hk
theorem Rc (hp:PC P g op x) (hk:RunL P N ops l (upd g d x) K) (hN:N.ok d=true:=by rfl) (hf:g d=none:=by rfl):RunL P N ops (⟨some d,op,ty,pos,after,none⟩::l) g K:=.c hp hN hf .none hk
theorem Dv (j0:Nat) (hp:PS P (vis AT g0 j0 acc) op ty x) (hk:DL P N ops AT g0 i ((j0,d,some x)::acc) l K) (hj:Nat.beq ops.size (j0+l.length+1)=true:=by rfl) (hf:g0 d=none:=by rfl) (hn:acc.all (fun e=>!Nat.beq e.2.1 d)=true:=by rfl) (hN:N.ok d=true:=by rfl) :
  DL P N ops AT g0 i acc (⟨some d,op,ty,pos,after,none⟩::l) K:=.v j0 hp hj hf hn hN .none hk
theorem Dc (j0:Nat) (hp:PC P (vis AT g0 j0 acc) op x) (hk:DL P N ops AT g0 i ((j0,d,some x)::acc) l K) (hj:Nat.beq ops.size (j0+l.length+1)=true:=by rfl) (hf:g0 d=none:=by rfl) (hn:acc.all (fun e=>!Nat.beq e.2.1 d)=true:=by rfl) (hN:N.ok d=true:=by rfl) :
  DL P N ops AT g0 i acc (⟨some d,op,ty,pos,after,none⟩::l) K:=.c j0 hp hj hf hn hN .none hk
end
instance {z n:Nat}{cs:List AV}:NPc (.own z n cs):=⟨by simp⟩
def rn (a n:Nat) (l:List Nat):List Nat:=List.range' a n++l
end Go.Own
namespace Go.Own
open Go
section
variable {α:Type}{P:Program}{N:Rm}{g:Gst}{d r:Nat}{ty:TypeId}
instance {fn:Fn}{cs:List AV} [h:NRl cs]:NRc (.clo fn [] cs):=⟨.clo (by simp) h.nr⟩
end
end Go.Own
namespace Go.Own
open Go Go.Proofs Go.Shelf Go.Lib Go.Sort
section
variable {P:Program}{w:World}
end
end Go.Own
namespace Go.Own
open Go
section
variable {α:Type}{P:Program}{N:Rm}{g g1 g2 g3:Gst}{ops:Array Oper}{AT:List (List Nat)}{acc:Acc}{l:List Oper}{K:Gst->Prop}{i d r:Nat}
theorem SR.settle {w:World}{I:BSet}{T:Array Value}{Fs:Nat->BSet}(h:SR w I T g Fs) (a:Act) (ha:a.tmps=T) {ts:List Nat}{xs ys:List AV}(hx:Own.opds g (ts.map Operand.tmp)=some xs) (ht:Take g xs ys g1) (hnd:ts.Nodup) (hl:ys.length=ts.length) (hd:∀ t∈ts,g1 t=some .dead)
  (hk:Keep (putAll g1 ((ts.map fun t=>(⟨t,[]⟩:Place)).zip ys)) g2):∃ Fs',SR w I T g2 Fs'/\∀ c,(∃ t,Fs' t c)->∃ t,Fs t c:=by
 obtain ⟨hxl,hxr⟩:=opds_sound h ha hx
 have hxl':xs.length=ts.length:=by rw [hxl,List.length_map]
 have hand:Hand w I (RefAt w T) Fs xs (ts.map fun t=>a.eval (.tmp t)) (fun _=>E0):=by
  refine ⟨by rw [hxl',List.length_map],fun k x u hxk hu=>?_,fun _ _ _ _ _ h=>h.elim,fun _ _ _ _ h=>h.elim,fun _ _ _ h=>h.elim⟩
  rw [List.getElem?_map] at hu
  cases htk:ts[k]? with
  | none=>rw [htk] at hu; cases hu
  | some t =>
   rw [htk] at hu; cases hu
   exact (hxr k x (.tmp t) hxk (by rw [List.getElem?_map,htk]; rfl)).frame (fun _ _=>rfl) (fun _ h=>h) (fun _ _ h=>h.1) fun _ _=>rfl
 obtain ⟨Fs1,H1,hS1,hH1,hall⟩:=ht.sound h.toC hand
 have hzl:((ts.map fun t=>(⟨t,[]⟩:Place)).zip ys).length=ts.length:=by rw [List.length_zip,List.length_map,hl]; exact Nat.min_self _
 obtain ⟨Fs2,hS2,hF⟩:=SRc.putAll ((ts.map fun t=>(⟨t,[]⟩:Place)).zip ys) H1 (fun j=>((ts.map fun t=>a.eval (.tmp t))[j]?).getD undef) hS1 (by
   rw [List.map_fst_zip (by rw [List.length_map,hl]; exact Nat.le_refl _)]
   exact List.Pairwise.map _ (fun a b h e=>h (congrArg Place.root e)) hnd) (fun j p x hj=>by
   rw [List.getElem?_zip_eq_some] at hj
   obtain ⟨h1,h2⟩:=hj
   rw [List.getElem?_map] at h1
   cases htk:ts[j]? with
   | none=>rw [htk] at h1; cases h1
   | some t =>
    rw [htk] at h1; cases h1
    have hdt:=hd t (List.mem_of_getElem? htk)
    obtain ⟨v,hv,_⟩:=hS1.rel t .dead hdt
    have hev:a.eval (.tmp t)=v:=by simp [Act.eval,ha,hv]
    have hvj:(ts.map fun t=>a.eval (.tmp t))[j]?=some v:=by rw [List.getElem?_map,htk]; simp [hev]
    refine ⟨by simp [atP,hdt,AV.at],?_,?_⟩
    ·rw [hvj]
     show valAt w T ⟨t,[]⟩=some v
     unfold valAt
     simp only [hv,walk]
    ·rw [hvj]
     exact hH1.rel j x v h2 hvj) (fun j t c hj hc=>hH1.off j t c (by omega) hc) (fun j c hj hc=>hH1.imm j c (by omega) hc) (fun i j c hi hj h1 h2=>hH1.dis i j c (by omega) (by omega) h1 h2)
 refine ⟨_,hS2.keep hk,fun c ⟨t,_,hc⟩=>?_⟩
 have:AllB Fs1 ys.length H1 c:=by
  rcases hF t c hc with h | ⟨j,hj,h⟩
  ·exact .inl ⟨t,h⟩
  ·exact .inr ⟨j,by omega,h⟩
 rcases hall c this with h | ⟨_,_,h⟩
 ·exact h
 ·exact h.elim
theorem EffOk.settle {o:Oper}{ts:List Nat}{xs ys:List AV}(hx:Own.opds g (ts.map Operand.tmp)=some xs) (ht:Take g xs ys g1) (hnd:ts.Nodup) (hl:ys.length=ts.length) (hd:∀ t∈ts,g1 t=some .dead)
  (hk:Keep (putAll g1 ((ts.map fun t=>(⟨t,[]⟩:Place)).zip ys)) g2) (he:EffOk P N g2 o g3):EffOk P N g o g3:=by
 intro w I T Fs hS a ha hN K Q hK
 obtain ⟨Fs',hS',hU⟩:=hS.settle a ha hx ht hnd hl hd hk
 refine he w I T Fs' hS' a ha hN K Q fun a' w' hn ht=>hK a' w' ?_ ht
 obtain ⟨e1,e2,I',Fs2,h1,h2⟩:=hn
 exact ⟨e1,e2,I',Fs2,h1,St.trans ⟨Fr.refl _ _,fun _ h=>h,fun _ h=>.inl h,fun c h=>.inl (hU c h)⟩ h2⟩
theorem all1 {Q:Nat->Prop}{a:Nat}(ha:Q a):∀ t∈[a],Q t:=fun t ht=>by rw [List.mem_singleton.1 ht]; exact ha
theorem all2 {Q:Nat->Prop}{a b:Nat}(ha:Q a) (hb:Q b):∀ t∈[a,b],Q t:=fun t ht=>by
 rcases List.mem_cons.1 ht with rfl | ht
 ·exact ha
 ·rw [List.mem_singleton.1 ht]; exact hb
def plB (p q:Place):Bool:=Nat.beq p.root q.root&&p.path == q.path
def ndq:List Place->Bool
 | []=>true
 | x::l=>l.all (fun y=>!plB x y)&&ndq l
theorem ndq_spec:∀ {l:List Place},ndq l=true->l.Nodup
 | [],_=>List.nodup_nil
 | p::l,h=>by
  simp only [ndq,Bool.and_eq_true,List.all_eq_true] at h
  refine List.nodup_cons.2 ⟨fun hm=>?_,ndq_spec h.2⟩
  have:=h.1 p hm
  simp [plB] at this
def noQ (p:Place) (acc:Acc):Bool:=acc.all fun e=>match pendPlace e with | some q=>!plB p q | none=>true
theorem noQ_spec {p:Place}{G:List (Nat × AV)}{A:Nat->Bool}(h:noQ p acc=true) (hG:npB G=true):∀ t z n m new,visG (get G) A acc t≠some (.pend z p n m new):=by
 intro t z n m new e
 rcases visG_some e with ⟨e',he,h1,_,h2⟩ | ⟨_,h2⟩
 ·have:=List.all_eq_true.1 h e' he
  obtain ⟨k,d,x⟩:=e'
  simp only at h2
  subst h2
  simp [pendPlace,plB] at this
 ·exact npB_spec hG _ _ _ _ _ _ h2
theorem O.ap' {en:En α}{L M r:List α}{y:AV}{e b0:Nat}{a b:Operand}{p:Place}{t ty:TypeId}(hs:Rd g a (.brw en.z p L.length)) (hp:atP g p=some (oR en L)) (hx:Rd g b y) (hm:Sr g en y M) (ht:appT P t e en.z b0=true) (hb:Nat.ble b0 128=true) (h:appO L M=some r) (hno:∀ t z n m new,g t≠some (.pend z p n m new)) :
  PS P g (.call { callee:=.builtin .append,args:=#[a,b],argTypes:=#[t,t] }) ty (.pend en.z p L.length M.length (rowc en M)):=by
 obtain ⟨h1,h2,_⟩:=app_bound h hb
 exact .pa (.grow hs.opd (.inl ⟨_,hp⟩) (fun t z' n' m' new' e=>hno _ _ _ _ _ e) hx.opd hm.src ht h1 h2)
theorem DL.bw (j0:Nat) {G G2:List (Nat × AV)}{o:Oper}(he:EffOk P N (visG (get G) (fun m=>(AT.getD j0 []).contains m) acc) o (get G2)) (hg:o.guard=none) (hpd:ndq (acc.filterMap pendPlace)=true) (hp0:npB G=true) (hj:Nat.beq ops.size (j0+l.length+1)=true)
  (hU:acc.filter (fun e=>!(AT.getD j0 []).contains e.1)=[])
  (hb:(List.range ops.size).all (fun k=>Nat.ble k j0||(AT.getD k []).contains j0)=true) (hk:DL P N ops AT (get G2) (j0+1) [] l K):DL P N ops AT (get G) i acc (o::l) K:=by
 intro U0 j hP hseg hdrop
 have:=drop_at hdrop hj
 subst this
 obtain ⟨h1,h2⟩:=drop_cons hdrop
 obtain ⟨g',hr,hK⟩:=hk [] (j+1) .nil .nil h2
 refine ⟨g',.bar (U:=[]) (rs:=rsV []) hseg (ndq_spec hpd) (npB_spec hp0) h1 ?_ he.v (fun p hp=>by simp [rsV] at hp) hU.symm (by simp) (by simp) (by simp) ?_ hr,hK⟩
 ·unfold Wanted; rw [hg]
 ·refine List.all_eq_true.2 fun k hk=>?_
  have:=List.all_eq_true.1 hb k hk
  simp only [Bool.or_eq_true,decide_eq_true_eq,Nat.ble_eq] at this ⊢
  exact this
theorem EffOk.cell {o:Oper}{r k0:Nat}{y:AV}{cs:List AV}{g5:Gst}(hr:g r=some (.obj cs)) (hy:cs[k0]?=some y) (hyn:NR y)
  (hop:∀ v:Value,v.oneCell'=true->∃ g1 g4,Keep (setP g ⟨r,[k0]⟩ (.lit v)) g1/\EffOk P N g1 o g4/\atP g4 ⟨r,[k0]⟩=some (.lit v)/\Keep (setP g4 ⟨r,[k0]⟩ y) g5):EffV P N (fun p=>p∈[(⟨r,[k0]⟩:Place)]) g o g5:=by
 intro w I T Fs h a ha hN K Q hK
 have hnp:∀ z q n m new,y≠.pend z q n m new:=by rintro z q n m new rfl; cases hyn
 have hat:atP g ⟨r,[k0]⟩=some y:=by simp [atP,hr,AV.at,AV.kids,hy]
 obtain ⟨v,Fy,hv,hRy,hFy,put⟩:=h.toC.part hat hnp
 have hv1:v.oneCell'=true:=by
  obtain ⟨u,hu,hRu⟩:=h.rel r _ hr
  obtain ⟨b,u',h1,h2,h3,h4,_⟩:=R.node (z:=0) (n:=0) (hRu.isTree (by simp)) (.inr rfl) hy
  have:valAt w T ⟨r,[k0]⟩=child w u k0:=by
   unfold valAt
   simp only [hu,walk]
   cases child w u k0 <;> rfl
  rw [this,h3] at hv
  cases hv
  exact h4
 obtain ⟨Fs1,hS1,hF1,hF2⟩:=put (.lit v) E0 (.lit hv1 fun _ h=>h) (fun _ h=>h.elim) (fun _ h=>h.elim) (fun _ _ _ h=>h.elim)
 obtain ⟨g1,g4,hk1,hok,hat4,hk4⟩:=hop v hv1
 have sub1:∀ t c,Fs1 t c->Fs t c/\¬ Fy c:=by
  intro t c hc
  by_cases ht:t=r
  ·subst ht
   rcases (hF1 c).1 hc with h' | h'
   ·exact h'
   ·exact h'.elim
  ·rw [hF2 t ht] at hc
   exact ⟨hc,fun hf=>ht (h.dis t r c hc (hFy c hf))⟩
 have hS1':=hS1.keep hk1
 refine hok w I T _ hS1' a ha hN K Q fun a' w' hn htm=>?_
 obtain ⟨e1,e2,I',Fs',hS',hst⟩:=hn
 obtain ⟨v2,F2,hv2,hR2,hF2',put2⟩:=hS'.toC.part hat4 (by simp)
 have hv2':v2=v:=hR2.inv_lit.1
 subst hv2'
 have hFyI:∀ c,Fy c->¬ I c:=fun c hc=>h.imm r c (hFy c hc)
 have hFylt:∀ c,Fy c->c<w.heap.size:=fun c hc=>h.ltF r c (hFy c hc)
 have offU:∀ c,Fy c->¬ ∃ t,(g1 t≠none/\Fs1 t c):=fun c hc ⟨t,_,h'⟩=>(sub1 t c h').2 hc
 have offF':∀ t c,Fs' t c->¬ Fy c:=by
  intro t c hc hf
  rcases hst.own c ⟨t,hc⟩ with h' | h'
  ·exact offU c hf h'
  ·have:=hFylt c hf; omega
 have offI':∀ c,Fy c->¬ I' c:=by
  intro c hc hi
  rcases hst.new c hi with h' | h' | h'
  ·exact hFyI c hc h'
  ·exact offU c hc h'
  ·have:=hFylt c hc; omega
 have sameY:∀ c,Fy c->w'.heap[c]?=w.heap[c]?:=fun c hc=>hst.fr.block c (hFylt c hc) (offU c hc)
 have sameI:∀ c,I c->w'.heap[c]?=w.heap[c]?:=fun c hc=>hst.fr.block c (h.lt c hc) fun ⟨t,_,h'⟩=>h.imm t c (sub1 t c h').1 hc
 have hRy':R w' I' (RefAt w' a'.tmps) y v2 Fy:=((hRy.nr hyn).frame sameI hst.more (fun _ _ h=>h) sameY)
 obtain ⟨Fs5,hS5,hF5,hF6⟩:=put2 y Fy hRy' (fun c hc hf=>(offF' _ c hf hc).elim) (fun c hc=>offI' c hc) (fun t c _ hc hf=>offF' t c hf hc)
 have hS6:=hS5.keep hk4
 refine hK a' w' ⟨e1,e2,I',_,hS6,⟨?_,hst.more,fun c hc=>?_,fun c hc=>?_⟩⟩ htm fun r' path hp y' hy' hnp'=>?_
 ·exact hst.fr.mono fun b _ ⟨t,_,h'⟩=>⟨t,(sub1 t b h').1⟩
 ·rcases hst.new c hc with h' | ⟨t,_,h'⟩ | h'
  ·exact .inl h'
  ·exact .inr (.inl ⟨t,(sub1 t c h').1⟩)
  ·exact .inr (.inr h')
 ·obtain ⟨t,_,hc⟩:=hc
  have:(∃ t,Fs' t c)\/Fy c:=by
   by_cases ht:t=r
   ·subst ht
    rcases (hF5 c).1 hc with ⟨h',_⟩ | h'
    ·exact .inl ⟨_,h'⟩
    ·exact .inr h'
   ·rw [hF6 t ht] at hc; exact .inl ⟨t,hc⟩
  rcases this with h' | h'
  ·rcases hst.own c h' with ⟨t,_,h''⟩ | h''
   ·exact .inl ⟨t,(sub1 t c h'').1⟩
   ·exact .inr h''
  ·exact .inl ⟨r,hFy c h'⟩
 ·have hp:(⟨r',path⟩:Place)∈[(⟨r,[k0]⟩:Place)]:=hp
  have hp:=List.mem_singleton.1 hp
  cases hp
  rw [hv,hv2]
end
end Go.Own
namespace Go.Own
open Go
section
variable {α:Type}{P:Program}{N:Rm}{g:Gst}{ops:Array Oper}{l:List Oper}{K:Gst->Prop}{r n:Nat}{t e ty:TypeId}{a b:Operand}{m:Int}{en:En α}{L:List α}{y y2:α}{k:IntKind}{pos:String}{after:Array Edge}
end
end Go.Own
namespace Go.Own
open Go Go.Proofs Go.Shelf Go.Lib Go.Sort
section
variable {P:Program}{w:World}
class Lts {α:Type}(e:En α) where
 vals:α->List Value
 cells:∀ a,e.cells a=(vals a).map .lit
 one:∀ a,∀ v∈vals a,v.oneCell'=true
variable {α:Type}{e:En α}
theorem Lts.len [h:Lts e] (a:α):(h.vals a).length=e.z:=by
 have:=e.len a
 rw [h.cells,List.length_map] at this
 exact this
end
end Go.Own
namespace Go.Own
open Go
section
variable {α:Type}{P:Program}{N:Rm}{g:Gst}{d r:Nat}
end
end Go.Own
namespace Go.Own
open Go Go.Proofs Go.Shelf Go.Lib Go.Sort
section
variable {α:Type} [DecidableEq α]
end
section
variable {α:Type}{e:En α}{P:Program}{w:World}
variable [DecidableEq α] [Inhabited α]
end
end Go.Own
namespace Go.Proofs
open Go.Shelf Go.RowKit Go.Lib Go.Sort
variable {α:Type} [Inhabited α] [DecidableEq α]
namespace Two
open Go.Own
variable {P:Program}{t:TypeId}
omit [Inhabited α] [DecidableEq α] in
theorem one (f:α->Int):OneCell fun x=>Value.int .i64 (f x):=fun _=>rfl
end Two
end Go.Proofs
namespace Go.Own
open Go Go.Proofs Go.Shelf Go.Lib Go.Sort
section
variable {α:Type}{e:En α}{P:Program}{w:World}
end
end Go.Own
namespace Go.Own
open Go
section
variable {α:Type}{P:Program}{N:Rm}{g:Gst}{d r:Nat}
end
end Go.Own
namespace Go.Own
open Go
theorem q {α:Sort _}{a:α}:a=a:=rfl
abbrev S0:ByteArray:={ data:=#[] }
theorem ode {p:Prop} [Decidable p] (h:decide p=true):p:=of_decide_eq_true h
theorem tn2 {b:Bool}{g h:Gst}{s0 s1:Nat}{x0 x1:AV}(h0:g s0=some x0) [NRc x0] (h1:g s1=some x1) [NRc x1]:Trim b g h [(s0,x0),(s1,x1)]:=(.n h0 (.n h1 .nil))
theorem tn3 {b:Bool}{g h:Gst}{s0 s1 s2:Nat}{x0 x1 x2:AV}(h0:g s0=some x0) [NRc x0] (h1:g s1=some x1) [NRc x1] (h2:g s2=some x2) [NRc x2]:Trim b g h [(s0,x0),(s1,x1),(s2,x2)]:=(.n h0 (.n h1 (.n h2 .nil)))
theorem tn4 {b:Bool}{g h:Gst}{s0 s1 s2 s3:Nat}{x0 x1 x2 x3:AV}(h0:g s0=some x0) [NRc x0] (h1:g s1=some x1) [NRc x1] (h2:g s2=some x2) [NRc x2] (h3:g s3=some x3) [NRc x3]:Trim b g h [(s0,x0),(s1,x1),(s2,x2),(s3,x3)]:=(.n h0 (.n h1 (.n h2 (.n h3 .nil))))
theorem tn5 {b:Bool}{g h:Gst}{s0 s1 s2 s3 s4:Nat}{x0 x1 x2 x3 x4:AV}(h0:g s0=some x0) [NRc x0] (h1:g s1=some x1) [NRc x1] (h2:g s2=some x2) [NRc x2] (h3:g s3=some x3) [NRc x3] (h4:g s4=some x4) [NRc x4]:Trim b g h [(s0,x0),(s1,x1),(s2,x2),(s3,x3),(s4,x4)]:=(.n h0 (.n h1 (.n h2 (.n h3 (.n h4 .nil)))))
theorem tn6 {b:Bool}{g h:Gst}{s0 s1 s2 s3 s4 s5:Nat}{x0 x1 x2 x3 x4 x5:AV}(h0:g s0=some x0) [NRc x0] (h1:g s1=some x1) [NRc x1] (h2:g s2=some x2) [NRc x2] (h3:g s3=some x3) [NRc x3] (h4:g s4=some x4) [NRc x4] (h5:g s5=some x5) [NRc x5]:Trim b g h [(s0,x0),(s1,x1),(s2,x2),(s3,x3),(s4,x4),(s5,x5)]:=(.n h0 (.n h1 (.n h2 (.n h3 (.n h4 (.n h5 .nil))))))
theorem tn7 {b:Bool}{g h:Gst}{s0 s1 s2 s3 s4 s5 s6:Nat}{x0 x1 x2 x3 x4 x5 x6:AV}(h0:g s0=some x0) [NRc x0] (h1:g s1=some x1) [NRc x1] (h2:g s2=some x2) [NRc x2] (h3:g s3=some x3) [NRc x3] (h4:g s4=some x4) [NRc x4] (h5:g s5=some x5) [NRc x5] (h6:g s6=some x6) [NRc x6]:Trim b g h [(s0,x0),(s1,x1),(s2,x2),(s3,x3),(s4,x4),(s5,x5),(s6,x6)]:=(.n h0 (.n h1 (.n h2 (.n h3 (.n h4 (.n h5 (.n h6 .nil)))))))
theorem tn8 {b:Bool}{g h:Gst}{s0 s1 s2 s3 s4 s5 s6 s7:Nat}{x0 x1 x2 x3 x4 x5 x6 x7:AV}(h0:g s0=some x0) [NRc x0] (h1:g s1=some x1) [NRc x1] (h2:g s2=some x2) [NRc x2] (h3:g s3=some x3) [NRc x3] (h4:g s4=some x4) [NRc x4] (h5:g s5=some x5) [NRc x5] (h6:g s6=some x6) [NRc x6] (h7:g s7=some x7) [NRc x7]:Trim b g h [(s0,x0),(s1,x1),(s2,x2),(s3,x3),(s4,x4),(s5,x5),(s6,x6),(s7,x7)]:=(.n h0 (.n h1 (.n h2 (.n h3 (.n h4 (.n h5 (.n h6 (.n h7 .nil))))))))
theorem tn9 {b:Bool}{g h:Gst}{s0 s1 s2 s3 s4 s5 s6 s7 s8:Nat}{x0 x1 x2 x3 x4 x5 x6 x7 x8:AV}(h0:g s0=some x0) [NRc x0] (h1:g s1=some x1) [NRc x1] (h2:g s2=some x2) [NRc x2] (h3:g s3=some x3) [NRc x3] (h4:g s4=some x4) [NRc x4] (h5:g s5=some x5) [NRc x5] (h6:g s6=some x6) [NRc x6] (h7:g s7=some x7) [NRc x7] (h8:g s8=some x8) [NRc x8]:Trim b g h [(s0,x0),(s1,x1),(s2,x2),(s3,x3),(s4,x4),(s5,x5),(s6,x6),(s7,x7),(s8,x8)]:=(.n h0 (.n h1 (.n h2 (.n h3 (.n h4 (.n h5 (.n h6 (.n h7 (.n h8 .nil)))))))))
theorem tn10 {b:Bool}{g h:Gst}{s0 s1 s2 s3 s4 s5 s6 s7 s8 s9:Nat}{x0 x1 x2 x3 x4 x5 x6 x7 x8 x9:AV}(h0:g s0=some x0) [NRc x0] (h1:g s1=some x1) [NRc x1] (h2:g s2=some x2) [NRc x2] (h3:g s3=some x3) [NRc x3] (h4:g s4=some x4) [NRc x4] (h5:g s5=some x5) [NRc x5] (h6:g s6=some x6) [NRc x6] (h7:g s7=some x7) [NRc x7] (h8:g s8=some x8) [NRc x8] (h9:g s9=some x9) [NRc x9]:Trim b g h [(s0,x0),(s1,x1),(s2,x2),(s3,x3),(s4,x4),(s5,x5),(s6,x6),(s7,x7),(s8,x8),(s9,x9)]:=(.n h0 (.n h1 (.n h2 (.n h3 (.n h4 (.n h5 (.n h6 (.n h7 (.n h8 (.n h9 .nil))))))))))
theorem tn11 {b:Bool}{g h:Gst}{s0 s1 s2 s3 s4 s5 s6 s7 s8 s9 s10:Nat}{x0 x1 x2 x3 x4 x5 x6 x7 x8 x9 x10:AV}(h0:g s0=some x0) [NRc x0] (h1:g s1=some x1) [NRc x1] (h2:g s2=some x2) [NRc x2] (h3:g s3=some x3) [NRc x3] (h4:g s4=some x4) [NRc x4] (h5:g s5=some x5) [NRc x5] (h6:g s6=some x6) [NRc x6] (h7:g s7=some x7) [NRc x7] (h8:g s8=some x8) [NRc x8] (h9:g s9=some x9) [NRc x9] (h10:g s10=some x10) [NRc x10]:Trim b g h [(s0,x0),(s1,x1),(s2,x2),(s3,x3),(s4,x4),(s5,x5),(s6,x6),(s7,x7),(s8,x8),(s9,x9),(s10,x10)]:=(.n h0 (.n h1 (.n h2 (.n h3 (.n h4 (.n h5 (.n h6 (.n h7 (.n h8 (.n h9 (.n h10 .nil)))))))))))
section
variable {P:Program}{N:Rm}{ops:Array Oper}{g:Gst}{K:Gst->Prop}{l:List Oper}{d t:Nat}{ty:TypeId}{pos:String}{after:Array Edge}{v:Value}
theorem Fi {G1:List (Nat × AV)}(h:Trim true g (get G1) G1):RunL P N ops [] g fun g'=>Wk g' (get G1):=.fin h
theorem Vm (h:g t=some (.lit v)) (hk:RunL P N ops l (upd g d (.lit v)) K) (hN:N.ok d=true:=by rfl) (hf:g d=none:=by rfl):RunL P N ops (⟨some d,.move (.tmp t),ty,pos,after,none⟩::l) g K:=Rv (O.mv (.lit h)) hk hN hf
theorem Va (h:g t=some (.lit v)) (hk:RunL P N ops l (upd g d (.lit v)) K) (hN:N.ok d=true:=by rfl) (hf:g d=none:=by rfl):RunL P N ops (⟨some d,.assign (.tmp t),ty,pos,after,none⟩::l) g K:=Rv (O.az (.lit h)) hk hN hf
theorem Vk (h:ofConst v=.lit v) (hk:RunL P N ops l (upd g d (.lit v)) K) (hN:N.ok d=true:=by rfl) (hf:g d=none:=by rfl):RunL P N ops (⟨some d,.assign (.const v),ty,pos,after,none⟩::l) g K:=Rv (O.az (.k h)) hk hN hf
end
end Go.Own
namespace Go.Own
open Go
section
variable {α:Type}{g:Gst}
end
end Go.Own
namespace Go.Own
open Go
section
variable {α:Type}{P:Program}{N:Rm}{g:Gst}{d r:Nat}
theorem CallOk.tn {o:Oper}{xs:List Operand}{tys:Array TypeId}{f:FuncId}{ys:List AV}{res:AV}{en:En α}{L:List α}{G2:List (Nat × AV)}(ho:o.op=.call { callee:=.value (.func f),args:=xs.toArray,argTypes:=tys }) (hd:o.dst=some d) (hx:Own.opds g xs=some (.brw en.z ⟨r,[]⟩ L.length::ys))
  (hs:g r=some (oR en L)) (hcon:Con P f (oR en L::ys) (none::ys.map fun _=>none) res) (hf:callT P f=true) [hr:NRc res] [hn:NRl ys]
  (hG:Trim false (setP g ⟨r,[]⟩ .dead) (get G2) G2) (hg:get G2 d=none) (hN:N.ok d=true) :
  CallOk P N g o d (get ((d,res)::G2)):=by
 have hnr:∀ x∈rowc en L,NR x:=by
  intro x hx
  obtain ⟨a,_,ha⟩:=List.mem_flatMap.1 hx
  exact en.nr a x ha
 have htk:(rowc en L).take (L.length * en.z)=rowc en L:=List.take_of_length_le (by rw [rowc_len]; exact Nat.le_refl _)
 have keep2:Keep (setP g ⟨r,[]⟩ .dead) (get G2):=by
  refine ⟨fun t x h=>?_,fun t x h=>(hG.spec t x h).2.1,fun t z q n m new h=>(hG.spec t _ h).2.2 _ _ _ _ _ rfl⟩
  obtain ⟨⟨y,h1,_,h3⟩,_⟩:=hG.spec t x h
  rw [<- h3 rfl]; exact h1
 have keep4:Keep (get G2) (get G2):=⟨fun t x h=>h,fun t x h=>(hG.spec t x h).2.1,fun t z q n m new h=>(hG.spec t _ h).2.2 _ _ _ _ _ rfl⟩
 have e5:get ((d,res)::G2)=upd (get G2) d res:=by
  funext t
  rw [get_cons]
 rw [e5]
 refine ECall.ok (first:=[]) (caps:=[]) (ys:=.brw en.z ⟨r,[]⟩ L.length::ys) (tk:=fun _=>true) (vw:=false) (outs:=none::ys.map fun _=>none) (g1:=setP g ⟨r,[]⟩ .dead) (g2:=get G2) (g4:=get G2) (l:=[]) (ks:=fun _=>0) (xs0:=.brw en.z ⟨r,[]⟩ L.length::ys) (xs1:=oR en L::ys) (args:=oR en L::ys) (res:=res) ho hd rfl (by simpa using hx)
  ⟨hf,by simp,by simp,fun k x h=>.inl (by simpa using h),?_,keep2,fun k x y hx hy=>by simpa using hy,hcon,by simpa using hr.nr,fun k x h=>?_,fun j p x hj=>by simp at hj,by simp,fun i j hi hj _=>by simp at hi,keep4⟩ hg hN Bk.refl
 ·have h1:Take (setP g ⟨r,[]⟩ .dead) ((rowc en L).take (L.length * en.z)) (rowc en L) (setP g ⟨r,[]⟩ .dead):=by rw [htk]; exact .nr hnr
  exact .brw (N:=L.length) (by simp [atP,hs,AV.at]) (Nat.le_refl _) h1 (.nr hn.nr)
 ·cases k with
  | zero=>simp at h
  | succ k =>
   simp only [List.getElem?_cons_succ,List.getElem?_map] at h
   cases ha:ys[k]? <;> rw [ha] at h <;> cases h
end
end Go.Own
namespace Go.Own
open Go
class Plc (x:AV):Prop where pl:Pl x
class Pll (cs:List AV):Prop where pl:∀ x∈cs,Pl x
instance {v:Value}:Plc (.lit v):=⟨.lit⟩
instance:Plc .nils:=⟨.nils⟩
instance {z n:Nat}{cs:List AV} [h:NRl cs]:Plc (.imm z n cs):=⟨.imm h.nr⟩
instance {α:Type}{e:En α}{L:List α}:Plc (iR e L):=⟨.imm (NRl.nr (cs:=rowc e L))⟩
instance {cs:List AV} [h:Pll cs]:Plc (.agg cs):=⟨.agg h.pl⟩
instance:Pll []:=⟨by simp⟩
instance {x:AV}{cs:List AV} [h:Plc x] [h':Pll cs]:Pll (x::cs):=⟨fun y hy=>by
 rcases List.mem_cons.1 hy with rfl | hy
 ·exact h.pl
 ·exact h'.pl y hy⟩
class NRG (G:List (Nat × AV)):Prop where nr:∀ t x,get G t=some x->NR x
instance:NRG []:=⟨fun t x h=>by cases h⟩
instance {s:Nat}{x:AV}{G:List (Nat × AV)} [h:NRc x] [h':NRG G]:NRG ((s,x)::G):=⟨fun t y hy=>by
 simp only [get] at hy
 split at hy
 ·cases hy; exact h.nr
 ·exact h'.nr t y hy⟩
class NRA (acc:Acc):Prop where nr:∀ e∈acc,∀ x,e.2.2=some x->NR x
instance:NRA []:=⟨by simp⟩
instance {k d:Nat}{x:AV}{acc:Acc} [h:NRc x] [h':NRA acc]:NRA ((k,d,some x)::acc):=⟨fun e he y hy=>by
 rcases List.mem_cons.1 he with rfl | he
 ·cases hy; exact h.nr
 ·exact h'.nr e he y hy⟩
instance {k d:Nat}{acc:Acc} [h':NRA acc]:NRA ((k,d,none)::acc):=⟨fun e he y hy=>by
 rcases List.mem_cons.1 he with rfl | he
 ·cases hy
 ·exact h'.nr e he y hy⟩
theorem cloN {G:List (Nat × AV)}{A:Nat->Bool}{acc:Acc} [h:NRG G] [h':NRA acc]:Clo (visG (get G) A acc):=by
 have key:∀ t x,visG (get G) A acc t=some x->NR x:=fun t x hx=>by
  rcases visG_some hx with ⟨e,he,_,_,h2⟩ | ⟨_,h2⟩
  ·exact h'.nr e he x h2
  ·exact h.nr t x h2
 exact ⟨fun t x hx=>.nr (key t x hx),fun t z q n m new hx=>by cases key t _ hx⟩
end Go.Own
namespace Go.Own
open Go Go.MapKept Go.ChangeMaps
section
variable {P:Program}{w:World}{I:BSet}{T:Array Value}{g g2:Gst}{Fs:Nat->BSet}
theorem cell_setMap {w:World}{b:Nat}{es es':Array MapEntry}{c c':Nat}(h:w.heap[b]?=some (.map es c)) (a:Addr):(setBlock w b (.map es' c')).cell? a=w.cell? a:=by
 by_cases e:a.block=b
 ·have h1:(setBlock w b (.map es' c')).heap[a.block]?=some (.map es' c'):=by rw [e]; exact heap_setBlock_same h _
  have h2:w.heap[a.block]?=some (.map es c):=by rw [e]; exact h
  unfold World.cell?
  rw [h1,h2]
 ·have h1:(setBlock w b (.map es' c')).heap[a.block]?=w.heap[a.block]?:=heap_setBlock_other h _ e
  unfold World.cell?
  rw [h1]
theorem walk_setMap {w:World}{b:Nat}{es es':Array MapEntry}{c c':Nat}(h:w.heap[b]?=some (.map es c)):∀ (p:List Nat) (v:Value),walk (setBlock w b (.map es' c')) v p=walk w v p
 | [],v=>rfl
 | k::p,v=>by
  have hc:child (setBlock w b (.map es' c')) v k=child w v k:=by
   unfold child
   split <;> first | rfl | exact cell_setMap h _
  simp only [walk,hc]
  cases child w v k with
  | none=>rfl
  | some u=>exact walk_setMap h p u
theorem val_setMap {w:World}{b:Nat}{es es':Array MapEntry}{c c':Nat}(h:w.heap[b]?=some (.map es c)) (T:Array Value) (p:Place):valAt (setBlock w b (.map es' c')) T p=valAt w T p:=by
 unfold valAt
 cases T[p.root]? with
 | none=>rfl
 | some v=>exact walk_setMap h _ v
theorem ref_setMap {w:World}{b:Nat}{es es':Array MapEntry}{c c':Nat}(h:w.heap[b]?=some (.map es c)) {T:Array Value}{r:AV}{v:Value}(hr:RefAt w T r v):RefAt (setBlock w b (.map es' c')) T r v:=by
 cases r <;> simp only [RefAt,val_setMap h] at hr ⊢ <;> exact hr
theorem SR.mput (hS:SR w I T g Fs) {p:Place}{q q':Array MapEntry->Nat->Prop}{b:Nat}{es es':Array MapEntry}{c c':Nat}(hp:atP g p=some (.mp q)) (hv:valAt w T p=some (.map (some b))) (hm:w.heap[b]?=some (.map es c)) (hq:q' es' c')
  (hg2:∀ t x,g2 t=some x->setP g p (.mp q') t=some x) (hrk:∀ t x,g2 t=some x->∀ y,g t=some y->RKp (RefOk g2) y) (hnp:∀ t z q n m new,g2 t≠some (.pend z q n m new)) (hroot:g2 p.root≠none) :
  ∃ Fs',SR (setBlock w b (.map es' c')) I T g2 Fs'/\∀ t c,Fs' t c->Fs t c:=by
 have w'o:∀ k,k≠b->(setBlock w b (.map es' c')).heap[k]?=w.heap[k]?:=fun k hk=>heap_setBlock_other hm _ hk
 have w'b:(setBlock w b (.map es' c')).heap[b]?=some (.map es' c'):=heap_setBlock_same hm _
 have w's:(setBlock w b (.map es' c')).heap.size=w.heap.size:=by simp [setBlock]
 have href:∀ r v,RefAt w T r v->RefAt (setBlock w b (.map es' c')) T r v:=fun r v h=>ref_setMap hm h
 generalize hw':setBlock w b (.map es' c')=w' at *
 obtain ⟨x0,hx0⟩:∃ x0,g p.root=some x0:=by
  unfold atP at hp
  cases hx:g p.root with
  | none=>rw [hx] at hp; cases hp
  | some x=>exact ⟨x,rfl⟩
 have hat0:x0.at p.path=some (.mp q):=by simpa [atP,hx0] using hp
 obtain ⟨v0,hv0,hR0⟩:=hS.rel _ _ hx0
 have hR0':=hR0.isTree (by rintro z q n m new rfl; cases (AV.at_pend hat0).2)
 have hk0:RKp (RefOk g2) x0:=by
  cases h2:g2 p.root with
  | none=>exact absurd h2 hroot
  | some y=>exact hrk _ _ h2 _ hx0
 have hR1:=hR0'.rkp hk0
 obtain ⟨vy,Fy,hw,hRy,hFy,_,rebuild⟩:=R.focus p.path hR1 hat0
 have hvy:vy=.map (some b):=by
  simp only [valAt,hv0,hw,Option.some.injEq] at hv; exact hv
 subst hvy
 obtain ⟨b',es0,c0,e,ho,_,hF0⟩:=hRy.inv_mp
 cases e
 have hbF:Fy b:=(hF0 b).2 rfl
 have hIb:∀ c,I c->w'.heap[c]?=w.heap[c]?:=fun c hc=>w'o c fun e=>hS.imm _ b (hFy b hbF) (e ▸ hc)
 have hother:∀ t,t≠p.root->¬ Fs t b:=fun t ht h=>ht (hS.dis _ _ _ h (hFy b hbF))
 have refs:∀ r u,(RG w T g r u/\RefOk g2 r)->RG w' T g2 r u:=fun r u h=>⟨href r u h.1.1,h.2⟩
 obtain ⟨F',hRF,hF'⟩:=rebuild w' I (RG w' T g2) (.mp q') Fy ⟨hIb,fun c hc hn=>w'o c fun e=>hn (e ▸ hbF),fun _ h=>h,refs⟩ (.mp w'b hq hF0) fun c h _=>h
 have hF'':∀ c,F' c->Fs p.root c:=fun c hc=>by
  rcases (hF' c).1 hc with h | h
  ·exact h.1
  ·exact hFy c h
 let Fs':Nat->BSet:=fun t c=>if t=p.root then F' c else g2 t≠none/\Fs t c
 have hFs':∀ t c,Fs' t c->Fs t c:=by
  intro t c hc
  by_cases ht:t=p.root
  ·simp only [Fs',if_pos ht] at hc; rw [ht]; exact hF'' c hc
  ·simp only [Fs',if_neg ht] at hc; exact hc.2
 refine ⟨Fs',⟨fun t x hx=>?_,fun t ht c hc=>?_,fun t t' c hc hc'=>hS.dis t t' c (hFs' t c hc) (hFs' t' c hc'),fun t c hc hi=>hS.imm t c (hFs' t c hc) hi,fun c hc=>by rw [w's]; exact hS.lt c hc,fun t t' z q n m new z' n' m' new' h1=>absurd h1 (hnp _ _ _ _ _ _)⟩,hFs'⟩
 ·have hx':=hg2 t x hx
  by_cases ht:t=p.root
  ·subst ht
   have hxe:x0.setAt p.path (.mp q')=x:=by simpa [setP,hx0] using hx'
   refine ⟨v0,hv0,.tree ?_⟩
   have hFe:Fs' p.root=F':=by funext c; simp [Fs']
   rw [<- hxe,hFe]; exact hRF
  ·rw [setP_slot ht] at hx'
   obtain ⟨u,hu,hR⟩:=hS.rel t x hx'
   replace hR:=hR.isTree (by rintro z q n m new rfl; exact hnp _ _ _ _ _ _ hx)
   have hFe:Fs' t=Fs t:=by
    funext c
    exact propext ⟨fun h=>by simp only [Fs',if_neg ht] at h; exact h.2,fun h=>by simp only [Fs',if_neg ht]; exact ⟨by rw [hx]; simp,h⟩⟩
   refine ⟨u,hu,.tree ?_⟩
   rw [hFe]
   exact (hR.rkp (hrk t x hx x hx')).frame hIb (fun _ h=>h) refs fun c hc=>w'o c fun e=>hother t ht (e ▸ hc)
 ·by_cases htr:t=p.root
  ·exact hroot (htr ▸ ht)
  ·simp only [Fs',if_neg htr] at hc; exact hc.1 ht
theorem fz_setMap {w:World}{b:Nat}{es es':Array MapEntry}{c c':Nat}(h:w.heap[b]?=some (.map es c)) (a:Addr):(setBlock w b (.map es' c')).frozen? a=w.frozen? a:=by
 unfold World.frozen?
 by_cases e:a.block=b
 ·have h1:(setBlock w b (.map es' c')).heap[a.block]?=some (.map es' c'):=by rw [e]; exact heap_setBlock_same h _
  have h2:w.heap[a.block]?=some (.map es c):=by rw [e]; exact h
  rw [h1,h2]
 ·rw [heap_setBlock_other h _ e]
theorem EO.mu {N:Rm}{o:Oper}{t:TypeId}{m x v:Operand}{p:Place}{q q':Array MapEntry->Nat->Prop}{Y Z x2:AV}{kv zv:Value}{G2:List (Nat × AV)}(ho:o.op=.mapUpdate t m x v) (hd:o.dst=none) (hm:opd g m=some (.mref p)) (hp:atP g p=some (.mp q)) (hx:opd g x=some Y) (hy:opd g v=some Z)
  (hK:∀ (w:World) (I:BSet) (ρ:AV->Value->Prop) (v:Value),R w I ρ Y v E0->v=kv) (hZ:∀ (w:World) (I:BSet) (ρ:AV->Value->Prop) (v:Value),R w I ρ Z v E0->v=zv)
  (hr:∀ (w:World) (b:Nat) (es:Array MapEntry) (c:Nat),w.heap[b]?=some (.map es c)->q es c->∃ es' c',(Instr.mapUpdate t (.map (some b)) kv zv).run P w=.ok () (setBlock w b (.map es' c'))/\q' es' c')
  (hx2:setP g p (.mp q') p.root=some x2) (hroot:(get G2 p.root).isSome=true) {y0:AV}(hy0:g p.root=some y0) [hno:NRc y0] (hG:TrX g (get G2) p.root x2 G2):EO P N g o (get G2):=by
 refine .sem fun w I T Fs h a ha hN K Q hK'=>?_
 obtain ⟨⟨b,hb,hv⟩,_⟩:=(opd_sound h hm ha).inv_mref
 obtain ⟨v',Fy,hv',hRy,hFy⟩:=h.part hp (by simp)
 have hbv:=hb
 rw [hb] at hv'
 cases hv'
 obtain ⟨b',es,c,e,hh,hq,hF0⟩:=hRy.inv_mp
 cases e
 obtain ⟨es',c',hrun,hq'⟩:=hr w b' es c hh hq
 have hrun':(execOp a.eval o).run P w=.ok .skip (setBlock w b' (.map es' c')):=by
  simp [execOp,ho,hv,hK _ _ _ _ (opd_sound h hx ha),hZ _ _ _ _ (opd_sound h hy ha),hrun]
 have c1:∀ t x,get G2 t=some x->setP g p (.mp q') t=some x:=fun t x hx=>by
  rcases hG.spec t x hx with ⟨h1,h2,_⟩ | ⟨h1,h2,_⟩
  ·rw [setP_slot h1]; exact h2
  ·subst h1 h2; exact hx2
 have c2:∀ t x,get G2 t=some x->∀ y,g t=some y->RKp (RefOk (get G2)) y:=fun t x hx y hy=>by
  rcases hG.spec t x hx with ⟨h1,h2,h3⟩ | ⟨h1,h2,h3⟩
  ·rw [h2] at hy; cases hy
   rcases h3 with h3 | ⟨h3,_⟩
   ·cases h3 with
    | n h=>exact .nr h
    | p _ _ h4 hk2=>exact .ref rfl (refOk_obj h4 hk2)
    | r _ _ h4 hn2=>exact .ref rfl (refOk_own h4 hn2)
   ·exact RKp.ref (by cases h3; rfl) h3.ok2
  ·subst h1; rw [hy0] at hy; cases hy; exact .nr hno.nr
 have c3:∀ t z q n m new,get G2 t≠some (.pend z q n m new):=fun t z q n m new hx=>by
  rcases hG.spec t _ hx with ⟨_,_,h3 | ⟨h3,_⟩⟩ | ⟨_,_,h3⟩
  ·exact h3.np _ _ _ _ _ rfl
  ·exact h3.np _ _ _ _ _ rfl
  ·cases h3
 obtain ⟨Fs',hS',hsub⟩:=h.mput (g2:=get G2) hp hbv hh hq' c1 c2 c3 (by intro e; rw [e] at hroot; cases hroot)
 unfold Oper.wp Oper.upon
 simp only [hrun']
 refine hK' _ _ ⟨by rw [hd]; rfl,by rw [hd]; exact Hold.refl,I,Fs',by rw [hd]; simpa [Act.put,ha] using hS',⟨⟨rfl,rfl,rfl,by simp [setBlock],fun k _ hk=>heap_setBlock_other hh _ fun e=>hk ⟨_,e ▸ hFy b' ((hF0 b').2 rfl)⟩,fun a _=>fz_setMap hh a,Nat.le_refl _⟩,fun _ h=>h,fun _ h=>.inl h,fun c ⟨t,hc⟩=>.inl ⟨t,hsub t c hc⟩⟩⟩ fun t _=>by rw [hd]; rfl
end
end Go.Own
namespace Go.Own
open Go Go.MapKept Go.ChangeMaps Go.WideElems
open Go.Maps (Keyed)
set_option linter.unusedVariables false
variable {κ υ:Type}{P:Program}{k e:TypeId}
abbrev Rh:Value->Option (DataW Value × List MemPlace):=fun v=>some (.held v,[])
def tget [DecidableEq κ]:List (κ × υ)->κ->Option υ
 | [],_=>none
 | p::m,x=>if p.1=x then some p.2 else tget m x
def mgetO [DecidableEq κ] (ok:κ->Bool) (z:υ) (m:List (κ × υ)) (x:κ):Option υ:=if ok x then some ((tget m x).getD z) else none
def mputO (ok:κ->Bool) (m:List (κ × υ)) (x:κ) (y:υ):Option (List (κ × υ)):=if ok x&&decide (m.length<=lim) then some ((x,y)::m) else none
structure MK (P:Program) (k:TypeId) (κ:Type) where
 kv:κ->Value
 kf:κ->Lit
 kA:κ->AV
 ok:κ->Bool
 keyed:Keyed P k
 key:∀ x,ok x=true->keyOf P k (kv x)=some (kf x)
 inj:∀ x y,kf x=kf y->x=y
 av:∀ (x:κ) (w:World) (I:BSet) (ρ:AV->Value->Prop) (v:Value),R w I ρ (kA x) v E0->v=kv x
structure MV (P:Program) (e:TypeId) (υ:Type) where
 vv:υ->Value
 vA:υ->AV
 z:υ
 zero:∀ w,(zeroValue e).run P w=.ok (vv z) w
 one:∀ x,(vv x).oneCell'=true
 av:∀ (x:υ) (w:World) (I:BSet) (ρ:AV->Value->Prop) (v:Value),R w I ρ (vA x) v E0->v=vv x
 va:∀ (x:υ) (w:World) (I:BSet) (ρ:AV->Value->Prop),R w I ρ (vA x) (vv x) E0
def srt (P:Program) (k:TypeId) (es:Array MapEntry):List (Lit × DataW Value):=(es.toList.map (rg P k Rh)).foldr DataW.insert []
def MI [DecidableEq κ] (K:MK P k κ) (V:MV P e υ) (m:List (κ × υ)):Array MapEntry->Nat->Prop:=fun es c=>Fit P k Rh es c/\es.size<=m.length/\∀ x zd,(DataW.map (srt P k es)).atKey (K.kf x) zd=match tget m x with | some y=>.held (V.vv y) | none=>zd
variable [DecidableEq κ] {K:MK P k κ}{V:MV P e υ}{m m':List (κ × υ)}{x:κ}{y:υ}{t:TypeId}
theorem MI.nil:MI K V [] #[] 0:=⟨⟨by simp,stamped_empty 0,by simp⟩,Nat.le_refl _,fun x zd=>rfl⟩
theorem MI.look (ok:Bool) (hok:K.ok x=true) (ht:P.underlying t=some (.map k e)) (w:World) (b:Nat) (es:Array MapEntry) (c:Nat) (hb:w.heap[b]?=some (.map es c)) (h:MI K V m es c) :
  (Instr.lookup t (.map (some b)) (K.kv x) ok).run P w=.ok (if ok then .tuple #[V.vv ((tget m x).getD V.z),.bool (tget m x).isSome] else V.vv ((tget m x).getD V.z)) w:=by
 obtain ⟨F,_,hat⟩:=h
 have hat:=hat x
 rcases Maps.fit_look ok K.keyed ht (V.zero w) hb F (K.key x hok) with ⟨hrun,_,h2⟩ | ⟨e0,y,_,_,hrun,hy,h2,_⟩
 ·have:tget m x=none:=by
   cases hg:tget m x with
   | none=>rfl
   | some y =>
    have h1:=hat .nil
    rw [hg] at h1
    have h3:=h2 .nil
    unfold srt at h1
    rw [h1] at h3; cases h3
  rw [hrun,this]; rfl
 ·cases hy
  cases hg:tget m x with
  | none =>
   have h1:=hat .nil
   rw [hg] at h1
   have h3:=h2 .nil
   unfold srt at h1
   rw [h1] at h3; cases h3
  | some y =>
   have h1:=hat .nil
   rw [hg] at h1
   have h3:=h2 .nil
   unfold srt at h1
   rw [h1] at h3
   have h4:e0.val=V.vv y:=by simpa using h3.symm
   rw [hrun,h4]; rfl
theorem MI.put (h0:mputO K.ok m x y=some m') (ht:P.underlying t=some (.map k e)) (w:World) (b:Nat) (es:Array MapEntry) (c:Nat) (hb:w.heap[b]?=some (.map es c)) (h:MI K V m es c) :
  ∃ es' c',(Instr.mapUpdate t (.map (some b)) (K.kv x) (V.vv y)).run P w=.ok () (setBlock w b (.map es' c'))/\MI K V m' es' c':=by
 unfold mputO at h0
 split at h0
 ·rename_i hc
  cases h0
  simp only [Bool.and_eq_true,decide_eq_true_eq] at hc
  obtain ⟨hok,hl⟩:=hc
  obtain ⟨F,hs,hat⟩:=h
  have hkey:=K.key x hok
  obtain ⟨es',c',hrun,F',hput,_⟩:=Maps.fit_store (R':=Rh) K.keyed ht hb F (by have:maxLen=9223372036854775807:=rfl; simp only [lim] at hl; omega) (fun _ _ _ _ hz=>hz) hkey (rfl:Rh (V.vv y)=some (.held (V.vv y),[]))
  refine ⟨es',c',hrun,F',?_,fun x' zd=>?_⟩
  ·have e1:es'.size=((es'.toList.map (rg P k Rh)).foldr DataW.insert []).length:=by rw [length_sorted]; simp
   rw [e1,hput]
   unfold putKey
   rw [length_insert]
   have e2:=List.length_filter_le (notKey (K.kf x)) ((es.toList.map (rg P k Rh)).foldr DataW.insert [])
   rw [length_sorted] at e2
   simp at e2 ⊢
   omega
  ·have e3:(DataW.map (srt P k es'))=(DataW.map (srt P k es)).put (K.kf x) (.held (V.vv y)):=by
    rw [DataW.put_eq]; unfold srt; rw [hput]
   rw [e3]
   by_cases hx:x=x'
   ·subst hx
    rw [Maps.atKey_put_same ⟨_,rfl⟩ (K.keyed.key hkey)]
    simp [tget]
   ·rw [Maps.atKey_put_other (fun e=>hx (K.inj _ _ e).symm),hat]
    simp [tget,hx]
 ·cases h0
section
variable {N:Rm}{g:Gst}{a b c:Operand}{p:Place}{ty:TypeId}
instance {q:Array MapEntry->Nat->Prop}:NRc (.mp q):=⟨.mp⟩
instance {q:Array MapEntry->Nat->Prop}:NRc (.imp q):=⟨.imp⟩
instance {q:Array MapEntry->Nat->Prop}:OOc (.mp q):=⟨.mp⟩
theorem O.mkm (K:MK P k κ) (V:MV P e υ):PS P g (.makeMap t none) ty (.mp (MI K V [])):=.p2 (.makeMap MI.nil)
theorem O.lk {r:υ}{X Y:AV}(hm:Rd g a (.mref p)) (hp:atP g p=some (.mp (MI K V m))) (hx:Rd g b Y) (hY:K.kA x=Y) (ht:P.underlying t=some (.map k e)) (h:mgetO K.ok V.z m x=some r) (hX:V.vA r=X):PS P g (.lookup t a b false) ty X:=by
 subst hX hY
 unfold mgetO at h
 split at h
 ·rename_i hok
  cases h
  exact .p1 (.lkM hm.opd hp hx.opd (K.av x) (V.va _) fun w b es c hb hq=>MI.look false hok ht w b es c hb hq)
 ·cases h
theorem O.lkI {r:υ}{X Y:AV}(hm:Rd g a (.imp (MI K V m))) (hx:Rd g b Y) (hY:K.kA x=Y) (ht:P.underlying t=some (.map k e)) (h:mgetO K.ok V.z m x=some r) (hX:V.vA r=X):PS P g (.lookup t a b false) ty X:=by
 subst hX hY
 unfold mgetO at h
 split at h
 ·rename_i hok
  cases h
  exact .p1 (.lkI hm.opd hx.opd (K.av x) (V.va _) fun w b es c hb hq=>MI.look false hok ht w b es c hb hq)
 ·cases h
theorem EO.mt {o:Oper}{x2 y0 Y Z:AV}{G2:List (Nat × AV)}(ho:o.op=.mapUpdate t a b c) (hd:o.dst=none) (hm:Rd g a (.mref p)) (hp:atP g p=some (.mp (MI K V m))) (hx:Rd g b Y) (hY:K.kA x=Y) (hy:Rd g c Z) (hZ:V.vA y=Z) (ht:P.underlying t=some (.map k e)) (h:mputO K.ok m x y=some m')
  (hx2:setP g p (.mp (MI K V m')) p.root=some x2) (hroot:(get G2 p.root).isSome=true) (hy0:g p.root=some y0) [hno:NRc y0] (hG:TrX g (get G2) p.root x2 G2):EO P N g o (get G2):=by
 subst hY hZ
 exact .mu ho hd hm.opd hp hx.opd hy.opd (K.av x) (V.av y) (fun w b es c hb hq=>MI.put h ht w b es c hb hq) hx2 hroot hy0 hG
end
def kI64 (n:Int):Bool:=decide (-9223372036854775808<=n/\n<9223372036854775808)
def MKI (hk:P.underlying k=some (.int .i64)):MK P k Int where
 kv n:=.int .i64 n
 kf n:=.int .i64 n
 kA n:=I64 n
 ok:=kI64
 keyed:=Maps.int_keyed hk
 key n h:=Maps.keyOf_int_mk hk (by
  unfold kI64 at h
  have:=of_decide_eq_true h
  unfold Lit.wf
  rw [Bool.and_eq_true]
  refine ⟨decide_eq_true ?_,decide_eq_true ?_⟩
  ·show (-9223372036854775808:Int)<=n; omega
  ·show n<=(9223372036854775807:Int); omega)
 inj x y h:=by cases h; rfl
 av x w I ρ v h:=h.inv_lit.1
def MVI (hz:(P.info? e).bind (·.zero)=some (.int .i64 0)):MV P e Int where
 vv n:=.int .i64 n
 vA n:=I64 n
 z:=0
 zero w:=bind_zero hz w
 one _:=rfl
 av x w I ρ v h:=h.inv_lit.1
 va x w I ρ:=.lit rfl fun _ h=>h
end Go.Own
namespace Go.Own
open Go
section
variable {α:Type}{P:Program}{N:Rm}{g:Gst}{d r:Nat}{ty t t2 e:TypeId}{a b:Operand}{k k':IntKind}{m n:Int}{p:Place}
def inO (L:List α) (m:Int):Option Unit:=if 0<=m/\m<=L.length then some () else none
instance:Lts eI:=⟨fun x=>[.int .i64 x],fun _=>rfl,fun x v hv=>by rw [List.mem_singleton.1 hv]; rfl⟩
theorem O.slS {en:En α}{L:List α}{u:Unit}(hx:Rd g a (.brw en.z p L.length)) (hl:Rd g b (.lit (.int k m))) (hp:atP g p=some (oR en L)) (ht:slT P t e en.z=true) (h:inO L m=some u):PS P g (.slice t a (some b) none none) ty (.sub en.z p m.toNat (L.length - m.toNat)):=by
 unfold inO at h
 split at h
 ·rename_i hc
  obtain ⟨i,rfl⟩:=Int.eq_ofNat_of_zero_le hc.1
  exact .p1 (.sliceBrw hx.opd ⟨_,hl.opd⟩ rfl ht (by omega) (Nat.le_refl _) ⟨_,_,hp,by omega⟩)
 ·cases h
def ltv (e:En α) [h:Lts e] (L:List α):List Value:=L.flatMap h.vals
theorem ltv_rowc (e:En α) [h:Lts e] (L:List α):rowc e L=(ltv e L).map .lit:=by
 induction L with
 | nil=>rfl
 | cons x L ih =>
  have:rowc e (x::L)=e.cells x++rowc e L:=by simp [rowc]
  rw [this,ih,h.cells]
  simp [ltv]
theorem SrcP.imm {en:En α}{S:List α}:Src g (iR en S) en.z S.length (rowc en S):=.imm
theorem SrcP.brw {en:En α} [Lts en] {L:List α}{q:Place}{n:Nat}(hq:atP g q=some (oR en L)) (hn:n<=L.length):Src g (.brw en.z q n) en.z (L.take n).length (rowc en (L.take n)):=by
 have h1:(L.take n).length=n:=by rw [List.length_take]; omega
 have h2:rowc en (L.take n)=(((rowc en L).take (n * en.z)).mapIdx fun i x=>refIn 0 (q.push i) x):=by
  rw [rowc_take,ltv_rowc]
  apply List.ext_getElem?
  intro j
  rw [List.getElem?_mapIdx]
  cases hj:((ltv en (L.take n)).map AV.lit)[j]? with
  | none=>rfl
  | some y =>
   obtain ⟨v,_,rfl⟩:=List.mem_map.1 (List.mem_of_getElem? hj)
   rfl
 rw [h1,h2]
 exact .brw hq hn
end
end Go.Own
namespace Go.Own
open Go
def relab (π:List Nat) (o:Oper):Oper:=⟨o.dst,o.op,o.type,o.pos,o.after.map fun e=>⟨π.idxOf e.on,e.ground⟩,o.guard.map fun p=>(π.idxOf p.1,p.2)⟩
def permO (π:List Nat) (l:List Oper):List Oper:=π.map fun k=>relab π (l.getD k default)
def permB (π:List Nat) (n:Nat):Bool:=Nat.beq π.length n&&(List.range n).all fun k=>π.contains k&&Nat.blt (π.getD k n) n&&Nat.beq (π.idxOf (π.getD k n)) k
structure Perm (π:List Nat) (n:Nat):Prop where
 len:π.length=n
 mem:∀ k,k<n->π.idxOf k<n/\π.getD (π.idxOf k) n=k
 lt:∀ j,j<n->π.getD j n<n/\π.idxOf (π.getD j n)=j
theorem permB_spec {π:List Nat}{n:Nat}(h:permB π n=true):Perm π n:=by
 unfold permB at h
 simp only [Bool.and_eq_true,Nat.beq_eq,List.all_eq_true,List.mem_range,Nat.blt_eq] at h
 obtain ⟨hl,hall⟩:=h
 refine ⟨hl,fun k hk=>?_,fun j hj=>⟨(hall j hj).1.2,(hall j hj).2⟩⟩
 have hm:k∈π:=by have:=(hall k hk).1.1; simpa using this
 have h1:=List.idxOf_lt_length_iff.2 hm
 refine ⟨by omega,?_⟩
 rw [List.getD_eq_getElem?_getD,List.getElem?_eq_getElem h1,List.getElem_idxOf]
 rfl
section
variable {P:Program}{Q:Exit->Act->World->Prop}{π:List Nat}{l:List Oper}
theorem permO_at (hπ:Perm π l.length) {j:Nat}(hj:j<l.length):(permO π l).toArray[j]?=some (relab π (l.getD (π.getD j l.length) default))/\l.toArray[π.getD j l.length]?=some (l.getD (π.getD j l.length) default):=by
 have h1:j<π.length:=by rw [hπ.len]; exact hj
 have h2:=(hπ.lt j hj).1
 constructor
 ·simp only [permO,List.getElem?_toArray,List.getElem?_map,List.getD_eq_getElem?_getD,List.getElem?_eq_getElem h1,Option.map_some,Option.getD_some]
 ·rw [List.getElem?_toArray,List.getD_eq_getElem?_getD (l:=l),List.getElem?_eq_getElem h2]; rfl
theorem perm_ready (hπ:Perm π l.length) {A B:Array Bool}(hA:A.size=l.length) (hB:B.size=l.length) (hAB:∀ j,j<l.length->B.getD j true=A.getD (π.getD j l.length) true) {j:Nat}(hj:j<l.length) :
  π.getD j l.length∈Region.ready .any l.toArray A↔j∈Region.ready .any (permO π l).toArray B:=by
 obtain ⟨h1,h2⟩:=permO_at hπ hj
 have tf:∀ {C:Array Bool}{k:Nat},k<C.size->C.getD k false=C.getD k true:=fun {C k} h=>by simp [Array.getD,h]
 have gone:∀ {C:Array Bool}{k:Nat},¬ k<C.size->C.getD k false=false:=fun {C k} h=>by simp [Array.getD,h]
 have edge:∀ m,A.getD m false=true↔B.getD (π.idxOf m) false=true:=fun m=>by
  by_cases hm:m<l.length
  ·obtain ⟨h3,h4⟩:=hπ.mem m hm
   rw [tf (by omega),tf (by omega),hAB _ h3,h4]
  ·have h5:¬ π.idxOf m<l.length:=fun h=>by
    have h6:=List.idxOf_lt_length_iff.1 (by rw [hπ.len]; exact h)
    obtain ⟨i,hi,e⟩:=List.mem_iff_getElem.1 h6
    have:=(hπ.lt i (by rw [<- hπ.len]; exact hi)).1
    rw [List.getD_eq_getElem?_getD,List.getElem?_eq_getElem hi] at this
    simp only [Option.getD_some] at this
    omega
   rw [gone (by omega),gone (by omega)]
 rw [mem_ready,mem_ready,hAB j hj]
 constructor
 ·rintro ⟨a,o,ho,h⟩
  rw [h2] at ho
  cases ho
  refine ⟨a,_,h1,fun e he hb=>?_⟩
  obtain ⟨e0,he0,rfl⟩:=Array.mem_map.1 he
  exact (edge _).1 (h e0 he0 hb)
 ·rintro ⟨a,o,ho,h⟩
  rw [h1] at ho
  cases ho
  refine ⟨a,_,h2,fun e he hb=>?_⟩
  exact (edge _).2 (h ⟨π.idxOf e.on,e.ground⟩ (Array.mem_map.2 ⟨e,he,rfl⟩) hb)
theorem perm_wanted (hπ:Perm π l.length) (o:Oper) (T:Array Value):Region.wanted (relab π o) (yielded (permO π l).toArray T)=Region.wanted o (yielded l.toArray T):=by
 unfold Region.wanted relab
 cases hg:o.guard with
 | none=>rfl
 | some p =>
  obtain ⟨m,b⟩:=p
  simp only [Option.map_some]
  have:yielded (permO π l).toArray T (π.idxOf m)=yielded l.toArray T m:=by
   unfold yielded
   by_cases hm:m<l.length
   ·obtain ⟨h3,h4⟩:=hπ.mem m hm
    obtain ⟨h1,h2⟩:=permO_at hπ h3
    rw [h4] at h1 h2
    rw [h1,h2]
    rfl
   ·have h5:¬ π.idxOf m<l.length:=fun h=>by
     have h6:=List.idxOf_lt_length_iff.1 (by rw [hπ.len]; exact h)
     obtain ⟨i,hi,e⟩:=List.mem_iff_getElem.1 h6
     have:=(hπ.lt i (by rw [<- hπ.len]; exact hi)).1
     rw [List.getD_eq_getElem?_getD,List.getElem?_eq_getElem hi] at this
     simp only [Option.getD_some] at this
     omega
    have e1:(permO π l).toArray[π.idxOf m]?=none:=by
     rw [List.getElem?_toArray]; exact List.getElem?_eq_none (by simp [permO,hπ.len]; omega)
    have e2:l.toArray[m]?=none:=by rw [List.getElem?_toArray]; exact List.getElem?_eq_none (by omega)
    rw [e1,e2]
  rw [this]
theorem perm_any (hπ:Perm π l.length):∀ (fuel:Nat) (A B:Array Bool) (a:Act) (w:World),A.size=l.length->B.size=l.length->(∀ j,j<l.length->B.getD j true=A.getD (π.getD j l.length) true) ->
  wpAny P .any (permO π l).toArray Q fuel B a w->wpAny P .any l.toArray Q fuel A a w:=by
 have lift:∀ {A B:Array Bool},A.size=l.length->B.size=l.length->(∀ j,j<l.length->B.getD j true=A.getD (π.getD j l.length) true)->∀ k,k∈Region.ready .any l.toArray A->∃ j,j<l.length/\π.getD j l.length=k/\j∈Region.ready .any (permO π l).toArray B:=fun {A B} hA hB hAB k hk=>by
  have hkl:k<l.length:=by
   obtain ⟨_,o,ho,_⟩:=mem_ready.1 hk
   have:=(Array.getElem?_eq_some_iff.1 ho).1
   simpa using this
  obtain ⟨h3,h4⟩:=hπ.mem k hkl
  exact ⟨_,h3,h4,(perm_ready hπ hA hB hAB h3).1 (by rw [h4]; exact hk)⟩
 have nil:∀ {A B:Array Bool},A.size=l.length->B.size=l.length->(∀ j,j<l.length->B.getD j true=A.getD (π.getD j l.length) true)->Region.ready .any l.toArray A=[]->Region.ready .any (permO π l).toArray B=[]:=fun {A B} hA hB hAB h=>by
  cases hr:Region.ready .any (permO π l).toArray B with
  | nil=>rfl
  | cons j r =>
   have hj:j∈Region.ready .any (permO π l).toArray B:=by rw [hr]; simp
   have hjl:j<l.length:=by
    obtain ⟨_,o,ho,_⟩:=mem_ready.1 hj
    have:=(Array.getElem?_eq_some_iff.1 ho).1
    simpa [permO,hπ.len] using this
   have:=(perm_ready hπ hA hB hAB hjl).2 hj
   rw [h] at this; cases this
 intro fuel
 induction fuel with
 | zero =>
  intro A B a w hA hB hAB h
  refine ⟨?_,h.2⟩
  cases hr:Region.ready .any l.toArray A with
  | nil=>rfl
  | cons k r =>
   obtain ⟨j,_,_,hj⟩:=lift hA hB hAB k (by rw [hr]; simp)
   rw [h.1] at hj; cases hj
 | succ fuel ih =>
  intro A B a w hA hB hAB h
  refine ⟨fun hr=>h.1 (nil hA hB hAB hr),fun k hk=>?_⟩
  obtain ⟨j,hjl,rfl,hj⟩:=lift hA hB hAB k hk
  have hs:=h.2 j hj
  obtain ⟨h1,h2⟩:=permO_at hπ hjl
  have hAB':∀ i,i<l.length->(B.setIfInBounds j true).getD i true=(A.setIfInBounds (π.getD j l.length) true).getD (π.getD i l.length) true:=fun i hi=>by
   have hlt:=(hπ.lt j hjl).1
   have hlti:=(hπ.lt i hi).1
   have e:∀ (C:Array Bool) (p q:Nat),p<C.size->q<C.size->(C.setIfInBounds p true).getD q true=if q=p then true else C.getD q true:=fun C p q hp hq=>by
    by_cases h:q=p
    ·subst h; simp [Array.getD,hq]
    ·rw [if_neg h]; simp [Array.getD,hq,Array.getElem_setIfInBounds_ne,Ne.symm h]
   rw [e B j i (by omega) (by omega),e A _ _ (by omega) (by omega),hAB i hi]
   by_cases h:i=j
   ·subst h; simp
   ·rw [if_neg h,if_neg]
    intro h'
    have:=(hπ.lt i hi).2
    rw [h',(hπ.lt j hjl).2] at this
    exact h this.symm
  have mono:∀ a w,wpAny P .any (permO π l).toArray Q fuel (B.setIfInBounds j true) a w->wpAny P .any l.toArray Q fuel (A.setIfInBounds (π.getD j l.length) true) a w:=fun a w h'=>ih _ _ a w (by simpa using hA) (by simpa using hB) hAB' h'
  unfold wpOp at hs ⊢
  rw [h2]
  rw [h1] at hs
  simp only [perm_wanted hπ] at hs
  show if Region.wanted (l.getD (π.getD j l.length) default) (yielded l.toArray a.tmps)=true then _ else _
  split
  ·rename_i hw
   rw [if_pos hw] at hs
   exact hs.imp (fun h'=>Oper.wp_mono mono h') id
  ·rename_i hw
   rw [if_neg hw] at hs
   exact mono _ _ hs
end
section
variable {P:Program}{N:Rm}
theorem W.rdp {id:Nat}{l:List Oper}{G:List (Nat × AV)}{Φ:Exit->Gst->Prop}(π:List Nat) (AT:List (List Nat)) (G1:List (Nat × AV)) (hm:P.follows .mixedOrders=true) (hA:ancOk (permO π l).toArray AT=true) (hπ:permB π l.length=true)
  (h:DL P N (permO π l).toArray AT (get G) 0 [] (permO π l) fun g'=>Wk g' (get G1)) (hk:Px .normal Φ G1):W P N (.region id l.toArray true) (get G) Φ:=by
 have hp:=permB_spec hπ
 obtain ⟨g',h1,h2⟩:=h [] 0 .nil .nil (by simp)
 have hsz:(permO π l).toArray.size=l.length:=by simp [permO,hp.len]
 refine Ev.w (g':=g') (e:=.normal) ?_ (hk g' (.wk h2 .rf))
 intro Q a w I Fs hS hN hQ
 refine wp_region_any hm ?_
 have hS':SR w.drew I a.tmps (get G) Fs:=hS.world (fun _ _ _=>rfl) (fun _ _=>rfl) (Nat.le_refl _)
 have hall:∀ k,Lst (Array.replicate (permO π l).toArray.size false) k=false:=by
  intro k
  unfold Lst
  rcases Nat.lt_or_ge k (permO π l).toArray.size with h | h
  ·simp only [hsz] at h ⊢; simp [h]
  ·simp only [hsz] at h ⊢; simp [Array.getElem?_eq_none (show (Array.replicate l.length false).size<=k by simpa using h)]
 refine perm_any hp _ _ (Array.replicate l.length false) a w.drew (by simp) (by simp) (fun j hj=>?_) ?_
 ·have:=(hp.lt j hj).1
  rw [List.getD_eq_getElem?_getD] at this
  simp [Array.getD,hj]
  exact this
 have h9:=h1.sound hA .nil (permO π l).toArray.size (Array.replicate (permO π l).toArray.size false) a w.drew I Fs ?_ (by simp) (fun k hk=>by omega) (fun k _=>hall k) (fun k hk=>by rw [hall] at hk; cases hk) hS' hN (fun a' w' hn=>hQ _ _ ?_)
 ·simpa [hsz] using h9
 ·unfold cnt
  exact Nat.le_trans (List.length_filter_le _ _) (by simp)
 ·obtain ⟨e1,e2,I',Fs',hS2,hst⟩:=hn
  exact ⟨e1,e2,I',Fs',hS2,⟨⟨hst.fr.os,hst.fr.tape,hst.fr.output,hst.fr.size,hst.fr.block,hst.fr.fz,Nat.le_trans (Nat.le_succ _) hst.fr.dr⟩,hst.more,hst.new,hst.own⟩⟩
end
end Go.Own
namespace Go.Own
open Go
section
variable {α:Type}{P:Program}{N:Rm}{g:Gst}{a b:Operand}{t:TypeId}{m i:Int}
end
end Go.Own
namespace Go.Proofs
open Go Go.Own
set_option maxRecDepth 100000
set_option linter.unusedVariables false
structure Act where
 Kind:Int
 N:Int
 deriving DecidableEq,Inhabited
def pf15 (a0:Act):Option (Int) :=
 ((bif decide (a0.Kind=1) then (bif decide (0<=a0.N) then some (decide (a0.N<20000)) else some false) else some false)).bind fun c3 =>
 (bif c3 then
 some (w64 (a0.N+1))
 else
 ((bif decide (a0.Kind=2) then (bif decide (0<a0.N) then some (decide (a0.N<20000)) else some false) else some false)).bind fun c7 =>
 (bif c7 then
 some (w64 (-a0.N))
 else
 ((bif decide (a0.Kind=3) then some (decide (a0.N=0)) else some false)).bind fun c10 =>
 (bif c10 then
 some 20001
 else
 ((bif decide (a0.Kind=4) then some (decide (a0.N=0)) else some false)).bind fun c13 =>
 (bif c13 then
 some 20002
 else
 some 0))))
def pf17 (a0:Int):Option (Act) :=
 ((bif decide (0<a0) then some (decide (a0<=20000)) else some false)).bind fun c2 =>
 (bif c2 then
 some (⟨1,w64 (a0 - 1)⟩:Act)
 else
 ((bif decide (a0<0) then some (decide ((-20000)<a0)) else some false)).bind fun c5 =>
 (bif c5 then
 some (⟨2,w64 (-a0)⟩:Act)
 else
 (bif decide (a0=20001) then
 some (⟨3,0⟩:Act)
 else
 (bif decide (a0=20002) then
 some (⟨4,0⟩:Act)
 else
 some (⟨0,0⟩:Act)))))
def pf121 (a0:Int):Option (Bool) :=
 ((bif decide (97<=a0) then (bif decide (a0<=122) then some true else (bif decide (65<=a0) then (bif decide (a0<=90) then some true else some (decide (a0=95))) else some (decide (a0=95)))) else (bif decide (65<=a0) then (bif decide (a0<=90) then some true else some (decide (a0=95))) else some (decide (a0=95))))).bind fun c7 =>
 some c7
def pf122 (a0:Int):Option (Bool) :=
 ((bif decide (48<=a0) then some (decide (a0<=57)) else some false)).bind fun c2 =>
 some c2
def pf117 (a0:ByteArray) (a1:Int):Option (Int) :=
 (loopM (R:=Int) (fun (s1:Int) =>
 ((bif decide (w64 (a1+s1)<(a0.size:Int)) then ((bidx a0 (w64 (a1+s1))).bind fun x5=>((pf121 x5).bind fun x6=>(bif x6 then some true else (bif decide (0<s1) then ((bidx a0 (w64 (a1+s1))).bind fun x9=>((pf122 x9).bind fun x10=>(bif x10 then some true else ((bidx a0 (w64 (a1+s1))).bind fun x12=>some (decide (x12=46)))))) else some false)))) else some false)).bind fun c13 =>
 (bif c13 then
 some (.inl (w64 (s1+1)))
 else
 some (.inr s1))) 0).bind fun x2 =>
 some x2
def pf111 (a0:ByteArray):Option (Bool) :=
 ((bif decide (1<=(a0.size:Int)) then (bif decide ((a0.size:Int)<=20) then ((pf117 a0 0).bind fun x3=>some (decide (x3=(a0.size:Int)))) else some false) else some false)).bind fun c4 =>
 some c4
def pf120 (a0:Int):Option (Int × Bool) :=
 (bif decide (a0=10) then
 some (110,true)
 else
 (bif decide (a0=9) then
 some (116,true)
 else
 (bif decide (a0=13) then
 some (114,true)
 else
 ((bif decide (a0=92) then
 some (decide (a0=92))
 else
 some (decide (a0=39)))).bind fun j4 =>
 (bif j4 then
 some (a0,true)
 else
 ((bif decide (32<=a0) then some (0,decide (a0<=126)) else some (0,false))).bind fun c8 =>
 some (c8.1,c8.2)))))
structure Sym where
 Name:ByteArray
 Lit:Bool
 Num:Int
 At:Int
 deriving DecidableEq,Inhabited
def eSym:En Sym:=⟨4,fun x=>[SS x.Name,BB x.Lit,I64 x.Num,I64 x.At],fun _=>rfl,fun _=>NRl.nr⟩
instance:Flat eSym:=⟨fun _=>rfl⟩
instance:OOe eSym:=⟨fun x=>(inferInstance:OOl [SS x.Name,BB x.Lit,I64 x.Num,I64 x.At])⟩
instance:Tw eSym eSym:=⟨rfl,fun x=>(inferInstance:Vws [SS x.Name,BB x.Lit,I64 x.Num,I64 x.At] [SS x.Name,BB x.Lit,I64 x.Num,I64 x.At])⟩
instance {x:Sym}:Vws (eSym.cells x) [SS x.Name,BB x.Lit,I64 x.Num,I64 x.At]:=(inferInstance:Vws [SS x.Name,BB x.Lit,I64 x.Num,I64 x.At] [SS x.Name,BB x.Lit,I64 x.Num,I64 x.At])
def pf116 (a0:Sym) (a1:Bool) (a2:Bool):Option (Bool) :=
 (bif a0.Lit then
 ((bif !a2 then some true else (bif !decide ((a0.Name.size:Int)=1) then some true else some (!decide (a0.Num=0))))).bind fun c4 =>
 (bif c4 then
 some false
 else
 (bidx a0.Name 0).bind fun x6 =>
 (pf120 x6).bind fun x7 =>
 some x7.2)
 else
 (((pf111 a0.Name).bind fun x8=>(bif x8 then (bif decide (a0.Num=0) then some true else (bif a1 then (bif decide (1<=a0.Num) then some (decide (a0.Num<=50000)) else some false) else some false)) else some false))).bind fun c13 =>
 some c13)
structure Decl where
 Kind:Int
 Tag:ByteArray
 Syms:(List Sym)
 At:Int
 deriving DecidableEq,Inhabited
def eDecl_0:En Decl:=⟨4,fun x=>[I64 x.Kind,SS x.Tag,iR eSym x.Syms,I64 x.At],fun _=>rfl,fun _=>NRl.nr⟩
instance:Flat eDecl_0:=⟨fun _=>rfl⟩
instance:Tw eDecl_0 eDecl_0:=⟨rfl,fun x=>(inferInstance:Vws [I64 x.Kind,SS x.Tag,iR eSym x.Syms,I64 x.At] [I64 x.Kind,SS x.Tag,iR eSym x.Syms,I64 x.At])⟩
instance {x:Decl}:Vws (eDecl_0.cells x) [I64 x.Kind,SS x.Tag,iR eSym x.Syms,I64 x.At]:=(inferInstance:Vws [I64 x.Kind,SS x.Tag,iR eSym x.Syms,I64 x.At] [I64 x.Kind,SS x.Tag,iR eSym x.Syms,I64 x.At])
def pf110 (a0:Decl):Option (Bool) :=
 ((bif decide (a0.Kind<1) then some true else (bif decide (6<a0.Kind) then some true else (bif decide ((a0.Syms.length:Int)=0) then some true else (bif decide (a0.Kind=6) then (bif !decide ((a0.Syms.length:Int)=1) then some true else (bif !decide (a0.Tag={ data:=#[] }) then some true else (bif decide (a0.Kind=5) then (bif decide (a0.Tag={ data:=#[] }) then some true else some false) else some false))) else (bif decide (a0.Kind=5) then (bif decide (a0.Tag={ data:=#[] }) then some true else (bif !decide (a0.Tag={ data:=#[] }) then ((pf111 a0.Tag).bind fun x12=>some (!x12)) else some false)) else (bif !decide (a0.Tag={ data:=#[] }) then ((pf111 a0.Tag).bind fun x14=>some (!x14)) else some false))))))).bind fun c15 =>
 (bif c15 then
 some false
 else
 (loopM (R:=(Unit) ⊕ (Bool)) (fun (s17:Int) =>
 (bif decide (s17<(a0.Syms.length:Int)) then
 (idx a0.Syms s17).bind fun x22 =>
 (pf116 x22 (decide (a0.Kind=1)) (decide (a0.Kind<5))).bind fun x23 =>
 (bif !x23 then
 some (.inr (.inr false))
 else
 some (.inl (w64 (s17+1))))
 else
 some (.inr (.inl ())))) 0).bind fun x18 =>
 (match x18 with
 | .inl x19 =>
 some true
 | .inr x20 =>
 some x20))
def pf118 (a0:Sym):Option (Bool) :=
 ((bif decide (a0.Name={ data:=#[] }) then (bif !a0.Lit then some (decide (a0.Num=0)) else some false) else some false)).bind fun c3 =>
 some c3
def pf124 (a0:ByteArray) (a1:Int) (a2:ByteArray):Option (Bool) :=
 ((bif decide ((a2.size:Int)<=w64 ((a0.size:Int) - a1)) then ((cutO a0 a1 (w64 (a1+(a2.size:Int)))).bind fun x2=>some (decide (x2=a2))) else some false)).bind fun c3 =>
 some c3
def pf123 (a0:ByteArray) (a1:Int):Option (Int) :=
 (((bidx a0 a1).bind fun x1=>(bif decide (x1=34) then some true else ((bidx a0 a1).bind fun x3=>some (decide (x3=39)))))).bind fun c4 =>
 (bif c4 then
 (loopM (R:=(Unit) ⊕ (Int)) (fun (s6:Int) =>
 ((bif decide (s6<(a0.size:Int)) then ((bidx a0 s6).bind fun x11=>some (!decide (x11=10))) else some false)).bind fun c12 =>
 (bif c12 then
 (bidx a0 s6).bind fun x14 =>
 (bidx a0 a1).bind fun x15 =>
 (bif decide (x14=x15) then
 some (.inr (.inr (w64 (s6+1))))
 else
 (bidx a0 s6).bind fun x17 =>
 (bif decide (x17=92) then
 ((bif decide (w64 (s6+1)<(a0.size:Int)) then ((bidx a0 (w64 (s6+1))).bind fun x20=>some (decide (x20=10))) else some false)).bind fun c21 =>
 (bif c21 then
 some (.inr (.inr (-1)))
 else
 some (.inl (w64 ((w64 (s6+1))+1))))
 else
 some (.inl (w64 (s6+1)))))
 else
 some (.inr (.inl ())))) (w64 (a1+1))).bind fun x7 =>
 (match x7 with
 | .inl x8 =>
 some (-1)
 | .inr x9 =>
 some x9)
 else
 (bidx a0 a1).bind fun x23 =>
 (bif decide (x23=96) then
 (loopM (R:=(Unit) ⊕ (Int)) (fun (s25:Int) =>
 (bif decide (s25<(a0.size:Int)) then
 (bidx a0 s25).bind fun x30 =>
 (bif decide (x30=96) then
 some (.inr (.inr (w64 (s25+1))))
 else
 some (.inl (w64 (s25+1))))
 else
 some (.inr (.inl ())))) (w64 (a1+1))).bind fun x26 =>
 (match x26 with
 | .inl x27 =>
 some (-1)
 | .inr x28 =>
 some x28)
 else
 (pf124 a0 a1 ({ data:=#[47,47] })).bind fun x32 =>
 (bif x32 then
 (loopM (R:=Int) (fun (s34:Int) =>
 ((bif decide (s34<(a0.size:Int)) then ((bidx a0 s34).bind fun x38=>some (!decide (x38=10))) else some false)).bind fun c39 =>
 (bif c39 then
 some (.inl (w64 (s34+1)))
 else
 some (.inr s34))) a1).bind fun x35 =>
 some x35
 else
 (pf124 a0 a1 ({ data:=#[47,42] })).bind fun x41 =>
 (bif x41 then
 (loopM (R:=(Unit) ⊕ (Int)) (fun (s43:Int) =>
 (bif decide (s43<(a0.size:Int)) then
 (pf124 a0 s43 ({ data:=#[42,47] })).bind fun x48 =>
 (bif x48 then
 some (.inr (.inr (w64 (s43+2))))
 else
 some (.inl (w64 (s43+1))))
 else
 some (.inr (.inl ())))) (w64 (a1+2))).bind fun x44 =>
 (match x44 with
 | .inl x45 =>
 some (-1)
 | .inr x46 =>
 some x46)
 else
 some a1))))
def pf119 (a0:ByteArray) (a1:Int):Option (Int) :=
 ((bif decide (a1<0) then some true else (bif decide ((a0.size:Int)<=a1) then some true else ((bidx a0 a1).bind fun x3=>some (!decide (x3=123)))))).bind fun c4 =>
 (bif c4 then
 some (-1)
 else
 (loopM (R:=(Unit) ⊕ (Int)) (fun (s6:Int × Int) =>
 (bif decide (s6.2<(a0.size:Int)) then
 (pf123 a0 s6.2).bind fun x11 =>
 (bif decide (x11<0) then
 some (.inr (.inr (-1)))
 else
 (bif decide (s6.2<x11) then
 some (.inl (s6.1,x11))
 else
 (bidx a0 s6.2).bind fun x14 =>
 ((bif decide (x14=123) then
 some (w64 (s6.1+1))
 else
 some s6.1)).bind fun j15 =>
 (bidx a0 s6.2).bind fun x17 =>
 ((bif decide (x17=125) then
 some (w64 (j15 - 1))
 else
 some j15)).bind fun j18 =>
 (bif decide (j18=0) then
 some (.inr (.inr (w64 (s6.2+1))))
 else
 some (.inl (j18,w64 (s6.2+1))))))
 else
 some (.inr (.inl ())))) (0,a1)).bind fun x7 =>
 (match x7 with
 | .inl x8 =>
 some (-1)
 | .inr x9 =>
 some x9))
structure Part where
 Sym:Sym
 Code:ByteArray
 At:Int
 deriving DecidableEq,Inhabited
structure Alt where
 Parts:(List Part)
 Prec:Sym
 At:Int
 deriving DecidableEq,Inhabited
def ePart:En Part:=⟨6,fun x=>[SS x.Sym.Name,BB x.Sym.Lit,I64 x.Sym.Num,I64 x.Sym.At,SS x.Code,I64 x.At],fun _=>rfl,fun _=>NRl.nr⟩
instance:Flat ePart:=⟨fun _=>rfl⟩
instance:OOe ePart:=⟨fun x=>(inferInstance:OOl [SS x.Sym.Name,BB x.Sym.Lit,I64 x.Sym.Num,I64 x.Sym.At,SS x.Code,I64 x.At])⟩
instance:Tw ePart ePart:=⟨rfl,fun x=>(inferInstance:Vws [SS x.Sym.Name,BB x.Sym.Lit,I64 x.Sym.Num,I64 x.Sym.At,SS x.Code,I64 x.At] [SS x.Sym.Name,BB x.Sym.Lit,I64 x.Sym.Num,I64 x.Sym.At,SS x.Code,I64 x.At])⟩
instance {x:Part}:Vws (ePart.cells x) [SS x.Sym.Name,BB x.Sym.Lit,I64 x.Sym.Num,I64 x.Sym.At,SS x.Code,I64 x.At]:=(inferInstance:Vws [SS x.Sym.Name,BB x.Sym.Lit,I64 x.Sym.Num,I64 x.Sym.At,SS x.Code,I64 x.At] [SS x.Sym.Name,BB x.Sym.Lit,I64 x.Sym.Num,I64 x.Sym.At,SS x.Code,I64 x.At])
def eAlt_0:En Alt:=⟨6,fun x=>[iR ePart x.Parts,SS x.Prec.Name,BB x.Prec.Lit,I64 x.Prec.Num,I64 x.Prec.At,I64 x.At],fun _=>rfl,fun _=>NRl.nr⟩
instance:Flat eAlt_0:=⟨fun _=>rfl⟩
instance:Tw eAlt_0 eAlt_0:=⟨rfl,fun x=>(inferInstance:Vws [iR ePart x.Parts,SS x.Prec.Name,BB x.Prec.Lit,I64 x.Prec.Num,I64 x.Prec.At,I64 x.At] [iR ePart x.Parts,SS x.Prec.Name,BB x.Prec.Lit,I64 x.Prec.Num,I64 x.Prec.At,I64 x.At])⟩
instance {x:Alt}:Vws (eAlt_0.cells x) [iR ePart x.Parts,SS x.Prec.Name,BB x.Prec.Lit,I64 x.Prec.Num,I64 x.Prec.At,I64 x.At]:=(inferInstance:Vws [iR ePart x.Parts,SS x.Prec.Name,BB x.Prec.Lit,I64 x.Prec.Num,I64 x.Prec.At,I64 x.At] [iR ePart x.Parts,SS x.Prec.Name,BB x.Prec.Lit,I64 x.Prec.Num,I64 x.Prec.At,I64 x.At])
def pf112 (a0:Alt):Option (Bool) :=
 (loopM (R:=(Unit) ⊕ (Bool)) (fun (s1:Int) =>
 (bif decide (s1<(a0.Parts.length:Int)) then
 (idx a0.Parts s1).bind fun x6 =>
 ((bif decide (x6.Code={ data:=#[] }) then ((pf116 x6.Sym false true).bind fun x8=>(bif !x8 then some true else (bif !decide (x6.Code={ data:=#[] }) then ((pf118 x6.Sym).bind fun x11=>(bif !x11 then some true else ((pf119 x6.Code 0).bind fun x13=>some (!decide (x13=(x6.Code.size:Int)))))) else some false))) else (bif !decide (x6.Code={ data:=#[] }) then ((pf118 x6.Sym).bind fun x15=>(bif !x15 then some true else ((pf119 x6.Code 0).bind fun x17=>some (!decide (x17=(x6.Code.size:Int)))))) else some false))).bind fun c18 =>
 (bif c18 then
 some (.inr (.inr false))
 else
 some (.inl (w64 (s1+1))))
 else
 some (.inr (.inl ())))) 0).bind fun x2 =>
 (match x2 with
 | .inl x3 =>
 (((pf118 a0.Prec).bind fun x20=>(bif x20 then some true else ((pf116 a0.Prec false true).bind fun x22=>some x22)))).bind fun c23 =>
 some c23
 | .inr x4 =>
 some x4)
structure Rule where
 Left:ByteArray
 Alts:(List Alt)
 At:Int
 deriving DecidableEq,Inhabited
structure Source where
 Pro:ByteArray
 Decls:(List Decl)
 Rules:(List Rule)
 Tail:ByteArray
 deriving DecidableEq,Inhabited
def eRule_0:En Rule:=⟨3,fun x=>[SS x.Left,iR eAlt_0 x.Alts,I64 x.At],fun _=>rfl,fun _=>NRl.nr⟩
instance:Flat eRule_0:=⟨fun _=>rfl⟩
instance:Tw eRule_0 eRule_0:=⟨rfl,fun x=>(inferInstance:Vws [SS x.Left,iR eAlt_0 x.Alts,I64 x.At] [SS x.Left,iR eAlt_0 x.Alts,I64 x.At])⟩
instance {x:Rule}:Vws (eRule_0.cells x) [SS x.Left,iR eAlt_0 x.Alts,I64 x.At]:=(inferInstance:Vws [SS x.Left,iR eAlt_0 x.Alts,I64 x.At] [SS x.Left,iR eAlt_0 x.Alts,I64 x.At])
def eSource_0:En Source:=⟨4,fun x=>[SS x.Pro,iR eDecl_0 x.Decls,iR eRule_0 x.Rules,SS x.Tail],fun _=>rfl,fun _=>NRl.nr⟩
instance:Flat eSource_0:=⟨fun _=>rfl⟩
instance:Tw eSource_0 eSource_0:=⟨rfl,fun x=>(inferInstance:Vws [SS x.Pro,iR eDecl_0 x.Decls,iR eRule_0 x.Rules,SS x.Tail] [SS x.Pro,iR eDecl_0 x.Decls,iR eRule_0 x.Rules,SS x.Tail])⟩
instance {x:Source}:Vws (eSource_0.cells x) [SS x.Pro,iR eDecl_0 x.Decls,iR eRule_0 x.Rules,SS x.Tail]:=(inferInstance:Vws [SS x.Pro,iR eDecl_0 x.Decls,iR eRule_0 x.Rules,SS x.Tail] [SS x.Pro,iR eDecl_0 x.Decls,iR eRule_0 x.Rules,SS x.Tail])
def pf92 (a0:Source):Option (Bool) :=
 (loopM (R:=(Unit) ⊕ (Bool)) (fun (s1:Int) =>
 (bif decide (w64 (s1+1)<(a0.Pro.size:Int)) then
 (cutO a0.Pro s1 (w64 (s1+2))).bind fun x6 =>
 (bif decide (x6={ data:=#[37,125] }) then
 some (.inr (.inr false))
 else
 some (.inl (w64 (s1+1))))
 else
 some (.inr (.inl ())))) 0).bind fun x2 =>
 (match x2 with
 | .inl x3 =>
 (loopM (R:=(Unit) ⊕ (Bool)) (fun (s8:Int) =>
 (bif decide (s8<(a0.Decls.length:Int)) then
 (idx a0.Decls s8).bind fun x13 =>
 (pf110 x13).bind fun x14 =>
 (bif !x14 then
 some (.inr (.inr false))
 else
 some (.inl (w64 (s8+1))))
 else
 some (.inr (.inl ())))) 0).bind fun x9 =>
 (match x9 with
 | .inl x10 =>
 (loopM (R:=(Unit) ⊕ (Bool)) (fun (s16:Int) =>
 (bif decide (s16<(a0.Rules.length:Int)) then
 (idx a0.Rules s16).bind fun x21 =>
 (((pf111 x21.Left).bind fun x22=>(bif !x22 then some true else some (decide ((x21.Alts.length:Int)=0))))).bind fun c24 =>
 (bif c24 then
 some (.inr (.inr false))
 else
 (loopM (R:=(Unit) ⊕ (Bool)) (fun (s26:Int) =>
 (bif decide (s26<(x21.Alts.length:Int)) then
 (idx x21.Alts s26).bind fun x31 =>
 (pf112 x31).bind fun x32 =>
 (bif !x32 then
 some (.inr (.inr false))
 else
 some (.inl (w64 (s26+1))))
 else
 some (.inr (.inl ())))) 0).bind fun x27 =>
 (match x27 with
 | .inl x28 =>
 some (.inl (w64 (s16+1)))
 | .inr x29 =>
 some (.inr (.inr x29))))
 else
 some (.inr (.inl ())))) 0).bind fun x17 =>
 (match x17 with
 | .inl x18 =>
 some (decide (0<(a0.Rules.length:Int)))
 | .inr x19 =>
 some x19)
 | .inr x11 =>
 some x11)
 | .inr x4 =>
 some x4)
structure Tok where
 Name:ByteArray
 Lit:Bool
 Num:Int
 Level:Int
 Assoc:Int
 Tag:ByteArray
 deriving DecidableEq,Inhabited
structure Non where
 Name:ByteArray
 Tag:ByteArray
 deriving DecidableEq,Inhabited
structure Prod where
 Left:Int
 Right:(List Int)
 Prec:Int
 Code:ByteArray
 Args:(List Int)
 At:Int
 deriving DecidableEq,Inhabited
structure Grammar where
 Toks:(List Tok)
 Nons:(List Non)
 Prods:(List Prod)
 Pro:ByteArray
 Tail:ByteArray
 deriving DecidableEq,Inhabited
structure yuccaref9_maker where
 f_g:Grammar
 f_given:(List Bool)
 f_types:(List Non)
 f_lefts:(List ByteArray)
 f_e:Int
 f_at:Int
 f_name:ByteArray
 f_level:Int
 f_inner:Int
 deriving DecidableEq,Inhabited
def eTok:En Tok:=⟨6,fun x=>[SS x.Name,BB x.Lit,I64 x.Num,I64 x.Level,I64 x.Assoc,SS x.Tag],fun _=>rfl,fun _=>NRl.nr⟩
instance:Flat eTok:=⟨fun _=>rfl⟩
instance:OOe eTok:=⟨fun x=>(inferInstance:OOl [SS x.Name,BB x.Lit,I64 x.Num,I64 x.Level,I64 x.Assoc,SS x.Tag])⟩
instance:Tw eTok eTok:=⟨rfl,fun x=>(inferInstance:Vws [SS x.Name,BB x.Lit,I64 x.Num,I64 x.Level,I64 x.Assoc,SS x.Tag] [SS x.Name,BB x.Lit,I64 x.Num,I64 x.Level,I64 x.Assoc,SS x.Tag])⟩
instance {x:Tok}:Vws (eTok.cells x) [SS x.Name,BB x.Lit,I64 x.Num,I64 x.Level,I64 x.Assoc,SS x.Tag]:=(inferInstance:Vws [SS x.Name,BB x.Lit,I64 x.Num,I64 x.Level,I64 x.Assoc,SS x.Tag] [SS x.Name,BB x.Lit,I64 x.Num,I64 x.Level,I64 x.Assoc,SS x.Tag])
def eNon:En Non:=⟨2,fun x=>[SS x.Name,SS x.Tag],fun _=>rfl,fun _=>NRl.nr⟩
instance:Flat eNon:=⟨fun _=>rfl⟩
instance:OOe eNon:=⟨fun x=>(inferInstance:OOl [SS x.Name,SS x.Tag])⟩
instance:Tw eNon eNon:=⟨rfl,fun x=>(inferInstance:Vws [SS x.Name,SS x.Tag] [SS x.Name,SS x.Tag])⟩
def eProd_0:En Prod:=⟨6,fun x=>[I64 x.Left,iR eI x.Right,I64 x.Prec,SS x.Code,iR eI x.Args,I64 x.At],fun _=>rfl,fun _=>NRl.nr⟩
instance:Flat eProd_0:=⟨fun _=>rfl⟩
instance:Tw eProd_0 eProd_0:=⟨rfl,fun x=>(inferInstance:Vws [I64 x.Left,iR eI x.Right,I64 x.Prec,SS x.Code,iR eI x.Args,I64 x.At] [I64 x.Left,iR eI x.Right,I64 x.Prec,SS x.Code,iR eI x.Args,I64 x.At])⟩
instance {x:Prod}:Vws (eProd_0.cells x) [I64 x.Left,iR eI x.Right,I64 x.Prec,SS x.Code,iR eI x.Args,I64 x.At]:=(inferInstance:Vws [I64 x.Left,iR eI x.Right,I64 x.Prec,SS x.Code,iR eI x.Args,I64 x.At] [I64 x.Left,iR eI x.Right,I64 x.Prec,SS x.Code,iR eI x.Args,I64 x.At])
def eGrammar_0:En Grammar:=⟨5,fun x=>[iR eTok x.Toks,iR eNon x.Nons,iR eProd_0 x.Prods,SS x.Pro,SS x.Tail],fun _=>rfl,fun _=>NRl.nr⟩
instance:Flat eGrammar_0:=⟨fun _=>rfl⟩
instance:Tw eGrammar_0 eGrammar_0:=⟨rfl,fun x=>(inferInstance:Vws [iR eTok x.Toks,iR eNon x.Nons,iR eProd_0 x.Prods,SS x.Pro,SS x.Tail] [iR eTok x.Toks,iR eNon x.Nons,iR eProd_0 x.Prods,SS x.Pro,SS x.Tail])⟩
instance {x:Grammar}:Vws (eGrammar_0.cells x) [iR eTok x.Toks,iR eNon x.Nons,iR eProd_0 x.Prods,SS x.Pro,SS x.Tail]:=(inferInstance:Vws [iR eTok x.Toks,iR eNon x.Nons,iR eProd_0 x.Prods,SS x.Pro,SS x.Tail] [iR eTok x.Toks,iR eNon x.Nons,iR eProd_0 x.Prods,SS x.Pro,SS x.Tail])
def eyuccaref9_maker_0:En yuccaref9_maker:=⟨13,fun x=>[iR eTok x.f_g.Toks,iR eNon x.f_g.Nons,iR eProd_0 x.f_g.Prods,SS x.f_g.Pro,SS x.f_g.Tail,iR eB x.f_given,iR eNon x.f_types,iR eS x.f_lefts,I64 x.f_e,I64 x.f_at,SS x.f_name,I64 x.f_level,I64 x.f_inner],fun _=>rfl,fun _=>NRl.nr⟩
instance:Flat eyuccaref9_maker_0:=⟨fun _=>rfl⟩
instance:Tw eyuccaref9_maker_0 eyuccaref9_maker_0:=⟨rfl,fun x=>(inferInstance:Vws [iR eTok x.f_g.Toks,iR eNon x.f_g.Nons,iR eProd_0 x.f_g.Prods,SS x.f_g.Pro,SS x.f_g.Tail,iR eB x.f_given,iR eNon x.f_types,iR eS x.f_lefts,I64 x.f_e,I64 x.f_at,SS x.f_name,I64 x.f_level,I64 x.f_inner] [iR eTok x.f_g.Toks,iR eNon x.f_g.Nons,iR eProd_0 x.f_g.Prods,SS x.f_g.Pro,SS x.f_g.Tail,iR eB x.f_given,iR eNon x.f_types,iR eS x.f_lefts,I64 x.f_e,I64 x.f_at,SS x.f_name,I64 x.f_level,I64 x.f_inner])⟩
instance {x:yuccaref9_maker}:Vws (eyuccaref9_maker_0.cells x) [iR eTok x.f_g.Toks,iR eNon x.f_g.Nons,iR eProd_0 x.f_g.Prods,SS x.f_g.Pro,SS x.f_g.Tail,iR eB x.f_given,iR eNon x.f_types,iR eS x.f_lefts,I64 x.f_e,I64 x.f_at,SS x.f_name,I64 x.f_level,I64 x.f_inner]:=(inferInstance:Vws [iR eTok x.f_g.Toks,iR eNon x.f_g.Nons,iR eProd_0 x.f_g.Prods,SS x.f_g.Pro,SS x.f_g.Tail,iR eB x.f_given,iR eNon x.f_types,iR eS x.f_lefts,I64 x.f_e,I64 x.f_at,SS x.f_name,I64 x.f_level,I64 x.f_inner] [iR eTok x.f_g.Toks,iR eNon x.f_g.Nons,iR eProd_0 x.f_g.Prods,SS x.f_g.Pro,SS x.f_g.Tail,iR eB x.f_given,iR eNon x.f_types,iR eS x.f_lefts,I64 x.f_e,I64 x.f_at,SS x.f_name,I64 x.f_level,I64 x.f_inner])
def eGrammar_1:En Grammar:=⟨5,fun x=>[oR eTok x.Toks,oR eNon x.Nons,oR eProd_0 x.Prods,SS x.Pro,SS x.Tail],fun _=>rfl,fun _=>NRl.nr⟩
instance:Tw eGrammar_1 eGrammar_0:=⟨rfl,fun x=>(inferInstance:Vws [oR eTok x.Toks,oR eNon x.Nons,oR eProd_0 x.Prods,SS x.Pro,SS x.Tail] [iR eTok x.Toks,iR eNon x.Nons,iR eProd_0 x.Prods,SS x.Pro,SS x.Tail])⟩
instance {x:Grammar}:Vws (eGrammar_1.cells x) [iR eTok x.Toks,iR eNon x.Nons,iR eProd_0 x.Prods,SS x.Pro,SS x.Tail]:=(inferInstance:Vws [oR eTok x.Toks,oR eNon x.Nons,oR eProd_0 x.Prods,SS x.Pro,SS x.Tail] [iR eTok x.Toks,iR eNon x.Nons,iR eProd_0 x.Prods,SS x.Pro,SS x.Tail])
def eyuccaref9_maker_r:En yuccaref9_maker:=⟨13,fun x=>[oR eTok x.f_g.Toks,oR eNon x.f_g.Nons,oR eProd_0 x.f_g.Prods,SS x.f_g.Pro,SS x.f_g.Tail,oR eB x.f_given,oR eNon x.f_types,oR eS x.f_lefts,I64 x.f_e,I64 x.f_at,SS x.f_name,I64 x.f_level,I64 x.f_inner],fun _=>rfl,fun _=>NRl.nr⟩
instance {x:yuccaref9_maker}:Vws (eyuccaref9_maker_r.cells x) [iR eTok x.f_g.Toks,iR eNon x.f_g.Nons,iR eProd_0 x.f_g.Prods,SS x.f_g.Pro,SS x.f_g.Tail,iR eB x.f_given,iR eNon x.f_types,iR eS x.f_lefts,I64 x.f_e,I64 x.f_at,SS x.f_name,I64 x.f_level,I64 x.f_inner]:=(inferInstance:Vws [oR eTok x.f_g.Toks,oR eNon x.f_g.Nons,oR eProd_0 x.f_g.Prods,SS x.f_g.Pro,SS x.f_g.Tail,oR eB x.f_given,oR eNon x.f_types,oR eS x.f_lefts,I64 x.f_e,I64 x.f_at,SS x.f_name,I64 x.f_level,I64 x.f_inner] [iR eTok x.f_g.Toks,iR eNon x.f_g.Nons,iR eProd_0 x.f_g.Prods,SS x.f_g.Pro,SS x.f_g.Tail,iR eB x.f_given,iR eNon x.f_types,iR eS x.f_lefts,I64 x.f_e,I64 x.f_at,SS x.f_name,I64 x.f_level,I64 x.f_inner])
def pf94 (a0:yuccaref9_maker) (a1:Int) (a2:ByteArray):Option (yuccaref9_maker) :=
 ((bif decide (a0.f_e=0) then
 some (⟨a0.f_g,a0.f_given,a0.f_types,a0.f_lefts,3,a1,a2,a0.f_level,a0.f_inner⟩:yuccaref9_maker)
 else
 some a0)).bind fun j1 =>
 some j1
def pf98 (a0:yuccaref9_maker) (a1:ByteArray):Option (Int) :=
 (loopM (R:=(Unit) ⊕ (Int)) (fun (s1:Int) =>
 (bif decide (s1<(a0.f_types.length:Int)) then
 (idx a0.f_types s1).bind fun x6 =>
 (bif decide (x6.Name=a1) then
 some (.inr (.inr s1))
 else
 some (.inl (w64 (s1+1))))
 else
 some (.inr (.inl ())))) 0).bind fun x2 =>
 (match x2 with
 | .inl x3 =>
 some (-1)
 | .inr x4 =>
 some x4)
def pf95 (a0:yuccaref9_maker) (a1:Sym):Option (Int) :=
 (loopM (R:=(Unit) ⊕ (Int)) (fun (s1:Int) =>
 (bif decide (s1<(a0.f_g.Toks.length:Int)) then
 (((idx a0.f_g.Toks s1).bind fun x6=>(bif decide (x6.Name=a1.Name) then ((idx a0.f_g.Toks s1).bind fun x8=>(bif (x8.Lit == a1.Lit) then some (!decide (s1=2)) else some false)) else some false))).bind fun c10 =>
 (bif c10 then
 some (.inr (.inr s1))
 else
 some (.inl (w64 (s1+1))))
 else
 some (.inr (.inl ())))) 1).bind fun x2 =>
 (match x2 with
 | .inl x3 =>
 some (-1)
 | .inr x4 =>
 some x4)
def pf114 (a0:yuccaref9_maker) (a1:Int):Option (Int) :=
 (loopM (R:=(Unit) ⊕ (Int)) (fun (s1:Int) =>
 (bif decide (s1<(a0.f_g.Toks.length:Int)) then
 (idx a0.f_g.Toks s1).bind fun x6 =>
 (bif decide (x6.Num=a1) then
 some (.inr (.inr s1))
 else
 some (.inl (w64 (s1+1))))
 else
 some (.inr (.inl ())))) 3).bind fun x2 =>
 (match x2 with
 | .inl x3 =>
 some (-1)
 | .inr x4 =>
 some x4)
def pf113 (a0:yuccaref9_maker) (a1:Sym):Option (Int × yuccaref9_maker) :=
 (pf95 a0 a1).bind fun x1 =>
 (bif decide (0<=x1) then
 some (x1,a0)
 else
 ((bif a1.Lit then
 (bidx a1.Name 0).bind fun x5 =>
 (pf114 a0 (w64 x5)).bind fun x6 =>
 ((bif decide (0<=x6) then
 (pf94 a0 a1.At a1.Name).bind fun x9 =>
 some x9
 else
 some a0)).bind fun j7 =>
 some (j7,w64 x5)
 else
 some (a0,0))).bind fun j3 =>
 (appO j3.1.f_g.Toks [(⟨a1.Name,a1.Lit,j3.2,0,0,{ data:=#[] }⟩:Tok)]).bind fun x10 =>
 (appO j3.1.f_given [a1.Lit]).bind fun x11 =>
 some (w64 (((j3.1.f_g.Toks++[(⟨a1.Name,a1.Lit,j3.2,0,0,{ data:=#[] }⟩:Tok)]).length:Int) - 1),(⟨(⟨j3.1.f_g.Toks++[(⟨a1.Name,a1.Lit,j3.2,0,0,{ data:=#[] }⟩:Tok)],j3.1.f_g.Nons,j3.1.f_g.Prods,j3.1.f_g.Pro,j3.1.f_g.Tail⟩:Grammar),j3.1.f_given++[a1.Lit],j3.1.f_types,j3.1.f_lefts,j3.1.f_e,j3.1.f_at,j3.1.f_name,j3.1.f_level,j3.1.f_inner⟩:yuccaref9_maker)))
def pf93 (a0:yuccaref9_maker) (a1:Decl) (a2:Sym):Option (yuccaref9_maker) :=
 (bif decide (a1.Kind=5) then
 (pf98 a0 a2.Name).bind fun x2 =>
 ((bif decide (x2<0) then
 (appO a0.f_types [(⟨a2.Name,a1.Tag⟩:Non)]).bind fun x5 =>
 some (⟨a0.f_g,a0.f_given,a0.f_types++[(⟨a2.Name,a1.Tag⟩:Non)],a0.f_lefts,a0.f_e,a0.f_at,a0.f_name,a0.f_level,a0.f_inner⟩:yuccaref9_maker)
 else
 (idx a0.f_types x2).bind fun x6 =>
 ((bif !decide (x6.Tag=a1.Tag) then
 (pf94 a0 a2.At a2.Name).bind fun x9 =>
 some x9
 else
 some a0)).bind fun j7 =>
 some j7)).bind fun j3 =>
 some j3
 else
 (pf113 a0 a2).bind fun x10 =>
 (idx x10.2.f_g.Toks x10.1).bind fun x11 =>
 ((bif !decide (a1.Kind=1) then
 ((bif decide (0<x11.Level) then
 (pf94 x10.2 a2.At a2.Name).bind fun x16 =>
 some (⟨(⟨x10.2.f_g.Toks,x16.f_g.Nons,x16.f_g.Prods,x16.f_g.Pro,x16.f_g.Tail⟩:Grammar),x16.f_given,x16.f_types,x16.f_lefts,x16.f_e,x16.f_at,x16.f_name,x16.f_level,x16.f_inner⟩:yuccaref9_maker)
 else
 some x10.2)).bind fun j14 =>
 (idx j14.f_g.Toks x10.1).bind fun x17 =>
 some (⟨(⟨(j14.f_g.Toks.set x10.1.toNat (⟨x17.Name,x17.Lit,x17.Num,j14.f_level,x17.Assoc,x17.Tag⟩:Tok)).set x10.1.toNat (⟨(⟨x17.Name,x17.Lit,x17.Num,j14.f_level,x17.Assoc,x17.Tag⟩:Tok).Name,(⟨x17.Name,x17.Lit,x17.Num,j14.f_level,x17.Assoc,x17.Tag⟩:Tok).Lit,(⟨x17.Name,x17.Lit,x17.Num,j14.f_level,x17.Assoc,x17.Tag⟩:Tok).Num,(⟨x17.Name,x17.Lit,x17.Num,j14.f_level,x17.Assoc,x17.Tag⟩:Tok).Level,w64 (a1.Kind - 1),(⟨x17.Name,x17.Lit,x17.Num,j14.f_level,x17.Assoc,x17.Tag⟩:Tok).Tag⟩:Tok),j14.f_g.Nons,j14.f_g.Prods,j14.f_g.Pro,j14.f_g.Tail⟩:Grammar),j14.f_given,j14.f_types,j14.f_lefts,j14.f_e,j14.f_at,j14.f_name,j14.f_level,j14.f_inner⟩:yuccaref9_maker)
 else
 some x10.2)).bind fun j12 =>
 (idx j12.f_g.Toks x10.1).bind fun x18 =>
 ((bif decide (0<a2.Num) then
 ((bif decide (x10.1=1) then some true else ((idx j12.f_given x10.1).bind fun x22=>(bif x22 then some true else ((pf114 j12 a2.Num).bind fun x24=>some (decide (0<=x24))))))).bind fun c25 =>
 ((bif c25 then
 (pf94 j12 a2.At a2.Name).bind fun x28 =>
 some (⟨(⟨j12.f_g.Toks,x28.f_g.Nons,x28.f_g.Prods,x28.f_g.Pro,x28.f_g.Tail⟩:Grammar),x28.f_given,x28.f_types,x28.f_lefts,x28.f_e,x28.f_at,x28.f_name,x28.f_level,x28.f_inner⟩:yuccaref9_maker)
 else
 some j12)).bind fun j26 =>
 (idx j26.f_g.Toks x10.1).bind fun x29 =>
 (idx j26.f_given x10.1).bind fun x30 =>
 some (⟨(⟨j26.f_g.Toks.set x10.1.toNat (⟨x29.Name,x29.Lit,a2.Num,x29.Level,x29.Assoc,x29.Tag⟩:Tok),j26.f_g.Nons,j26.f_g.Prods,j26.f_g.Pro,j26.f_g.Tail⟩:Grammar),j26.f_given.set x10.1.toNat true,j26.f_types,j26.f_lefts,j26.f_e,j26.f_at,j26.f_name,j26.f_level,j26.f_inner⟩:yuccaref9_maker)
 else
 some j12)).bind fun j19 =>
 (idx j19.f_g.Toks x10.1).bind fun x31 =>
 ((bif !decide (a1.Tag={ data:=#[] }) then
 ((bif !decide (x31.Tag={ data:=#[] }) then some (!decide (x31.Tag=a1.Tag)) else some false)).bind fun c35 =>
 ((bif c35 then
 (pf94 j19 a2.At a2.Name).bind fun x38 =>
 some (⟨(⟨j19.f_g.Toks,x38.f_g.Nons,x38.f_g.Prods,x38.f_g.Pro,x38.f_g.Tail⟩:Grammar),x38.f_given,x38.f_types,x38.f_lefts,x38.f_e,x38.f_at,x38.f_name,x38.f_level,x38.f_inner⟩:yuccaref9_maker)
 else
 some j19)).bind fun j36 =>
 (idx j36.f_g.Toks x10.1).bind fun x39 =>
 some (⟨(⟨j36.f_g.Toks.set x10.1.toNat (⟨x39.Name,x39.Lit,x39.Num,x39.Level,x39.Assoc,a1.Tag⟩:Tok),j36.f_g.Nons,j36.f_g.Prods,j36.f_g.Pro,j36.f_g.Tail⟩:Grammar),j36.f_given,j36.f_types,j36.f_lefts,j36.f_e,j36.f_at,j36.f_name,j36.f_level,j36.f_inner⟩:yuccaref9_maker)
 else
 some j19)).bind fun j32 =>
 some j32)
def pf96 (a0:yuccaref9_maker) (a1:ByteArray):Option (Int) :=
 (loopM (R:=(Unit) ⊕ (Int)) (fun (s1:Int) =>
 (bif decide (s1<(a0.f_lefts.length:Int)) then
 (idx a0.f_lefts s1).bind fun x6 =>
 (bif decide (x6=a1) then
 some (.inr (.inr s1))
 else
 some (.inl (w64 (s1+1))))
 else
 some (.inr (.inl ())))) 0).bind fun x2 =>
 (match x2 with
 | .inl x3 =>
 some (-1)
 | .inr x4 =>
 some x4)
def pf115 (a0:yuccaref9_maker) (a1:Sym):Option (Int × yuccaref9_maker) :=
 (bif a1.Lit then
 (pf113 a0 a1).bind fun x2 =>
 some (x2.1,x2.2)
 else
 (pf96 a0 a1.Name).bind fun x3 =>
 (bif decide (0<=x3) then
 some (w64 (1001+x3),a0)
 else
 (pf95 a0 a1).bind fun x5 =>
 (bif decide (x5<0) then
 (pf94 a0 a1.At a1.Name).bind fun x7 =>
 some (0,x7)
 else
 some (x5,a0))))
def pf97 (a0:yuccaref9_maker) (a1:ByteArray) (a2:Alt):Option (yuccaref9_maker) :=
 (pf96 a0 a1).bind fun x1 =>
 (loopM (R:=yuccaref9_maker × List Int × ByteArray × Int) (fun (s2:yuccaref9_maker × List Int × ByteArray × Int × Int) =>
 (bif decide (s2.2.2.2.2<(a2.Parts.length:Int)) then
 ((idx a2.Parts s2.2.2.2.2).bind fun x7 =>
 (((bif decide (x7.Code={ data:=#[] }) then
 (pf115 s2.1 x7.Sym).bind fun x11 =>
 (appO s2.2.1 [x11.1]).bind fun x12 =>
 some (x11.2,s2.2.1++[x11.1],s2.2.2.1,s2.2.2.2.1)
 else
 ((bif decide (w64 (s2.2.2.2.2+1)=(a2.Parts.length:Int)) then
 some (s2.1.f_g.Prods,s2.1.f_inner,s2.2.1,x7.Code,x7.At)
 else
 (appO ([]:List Int) s2.2.1).bind fun x15 =>
 (appO s2.1.f_g.Prods [(⟨w64 ((s2.1.f_lefts.length:Int)+(w64 (s2.1.f_inner+1))),([]:List Int),(-1),x7.Code,([]:List Int)++s2.2.1,x7.At⟩:Prod)]).bind fun x16 =>
 (appO s2.2.1 [w64 ((w64 (1000+(s2.1.f_lefts.length:Int)))+(w64 (s2.1.f_inner+1)))]).bind fun x17 =>
 some (s2.1.f_g.Prods++[(⟨w64 ((s2.1.f_lefts.length:Int)+(w64 (s2.1.f_inner+1))),([]:List Int),(-1),x7.Code,([]:List Int)++s2.2.1,x7.At⟩:Prod)],w64 (s2.1.f_inner+1),s2.2.1++[w64 ((w64 (1000+(s2.1.f_lefts.length:Int)))+(w64 (s2.1.f_inner+1)))],s2.2.2.1,s2.2.2.2.1))).bind fun j13 =>
 some ((⟨(⟨s2.1.f_g.Toks,s2.1.f_g.Nons,j13.1,s2.1.f_g.Pro,s2.1.f_g.Tail⟩:Grammar),s2.1.f_given,s2.1.f_types,s2.1.f_lefts,s2.1.f_e,s2.1.f_at,s2.1.f_name,s2.1.f_level,j13.2.1⟩:yuccaref9_maker),j13.2.2.1,j13.2.2.2.1,j13.2.2.2.2))).bind fun j9 =>
 some (j9.1,j9.2.1,j9.2.2.1,j9.2.2.2)).bind fun j8 =>
 some (j8.1,j8.2.1,j8.2.2.1,j8.2.2.2)).bind fun j6 =>
 some (.inl (j6.1,j6.2.1,j6.2.2.1,j6.2.2.2,w64 (s2.2.2.2.2+1)))
 else
 some (.inr (s2.1,s2.2.1,s2.2.2.1,s2.2.2.2.1)))) (a0,([]:List Int),{ data:=#[] },a2.At,0)).bind fun x3 =>
 (loopM (R:=Int) (fun (s18:Int × Int) =>
 (bif decide (s18.2<(x3.2.1.length:Int)) then
 ((idx x3.2.1 s18.2).bind fun x23 =>
 ((bif decide (x23<1000) then
 (idx x3.2.1 s18.2).bind fun x26 =>
 some x26
 else
 some s18.1)).bind fun j24 =>
 some j24).bind fun j22 =>
 some (.inl (j22,w64 (s18.2+1)))
 else
 some (.inr s18.1))) ((-1),0)).bind fun x19 =>
 ((bif !decide (a2.Prec.Name={ data:=#[] }) then
 ((bif a2.Prec.Lit then some true else ((pf96 x3.1 a2.Prec.Name).bind fun x30=>some (decide (x30<0))))).bind fun c31 =>
 ((bif c31 then
 (pf115 x3.1 a2.Prec).bind fun x34 =>
 some (x34.2,x34.1)
 else
 (pf94 x3.1 a2.Prec.At a2.Prec.Name).bind fun x35 =>
 some (x35,(-1)))).bind fun j32 =>
 some (j32.1,j32.2)
 else
 some (x3.1,x19))).bind fun j27 =>
 (appO ([]:List Int) x3.2.1).bind fun x36 =>
 (appO j27.1.f_g.Prods [(⟨w64 (1+x1),x3.2.1,j27.2,x3.2.2.1,([]:List Int)++x3.2.1,x3.2.2.2⟩:Prod)]).bind fun x37 =>
 some (⟨(⟨j27.1.f_g.Toks,j27.1.f_g.Nons,j27.1.f_g.Prods++[(⟨w64 (1+x1),x3.2.1,j27.2,x3.2.2.1,([]:List Int)++x3.2.1,x3.2.2.2⟩:Prod)],j27.1.f_g.Pro,j27.1.f_g.Tail⟩:Grammar),j27.1.f_given,j27.1.f_types,j27.1.f_lefts,j27.1.f_e,j27.1.f_at,j27.1.f_name,j27.1.f_level,j27.1.f_inner⟩:yuccaref9_maker)
def pf99 (a0:Int):Option (ByteArray) :=
 ((bif decide (a0<0) then
 some (IntKind.u64.wrap (-(IntKind.u64.wrap a0)))
 else
 some (IntKind.u64.wrap a0))).bind fun j1 =>
 (loopM (R:=ByteArray) (fun (s3:Int × ByteArray) =>
 ((bif decide (0<s3.1) then some true else some (decide (s3.2={ data:=#[] })))).bind fun c7 =>
 (bif c7 then
 (remU s3.1 10).bind fun x9 =>
 (catO (strOfNums [w8 (IntKind.u64.wrap (48+x9))]) s3.2).bind fun x10 =>
 (quoU s3.1 10).bind fun x11 =>
 some (.inl (x11,x10))
 else
 some (.inr s3.2))) (j1,{ data:=#[] })).bind fun x4 =>
 (bif decide (a0<0) then
 (catO ({ data:=#[45] }) x4).bind fun x13 =>
 some x13
 else
 some x4)
def pf78 (a0:Source):Option (Grammar × Int × Int × ByteArray) :=
 (pf92 a0).bind fun x1 =>
 (bif !x1 then
 some ((⟨([]:List Tok),([]:List Non),([]:List Prod),{ data:=#[] },{ data:=#[] }⟩:Grammar),1,0,{ data:=#[] })
 else
 (mkO 3 false).bind fun x3 =>
 (loopM (R:=yuccaref9_maker × ByteArray) (fun (s4:yuccaref9_maker × ByteArray × Int) =>
 (bif decide (s4.2.2<(a0.Decls.length:Int)) then
 (idx a0.Decls s4.2.2).bind fun x8 =>
 ((bif decide (2<=x8.Kind) then some (decide (x8.Kind<=4)) else some false)).bind fun c10 =>
 ((bif c10 then
 some (w64 (s4.1.f_level+1))
 else
 some s4.1.f_level)).bind fun j11 =>
 (loopM (R:=yuccaref9_maker × ByteArray) (fun (s13:yuccaref9_maker × ByteArray × Int) =>
 (bif decide (s13.2.2<(x8.Syms.length:Int)) then
 ((bif !decide (x8.Kind=6) then
 (idx x8.Syms s13.2.2).bind fun x19 =>
 (pf93 s13.1 x8 x19).bind fun x20 =>
 some (x20,s13.2.1)
 else
 ((bif !decide (s13.2.1={ data:=#[] }) then
 (idx x8.Syms s13.2.2).bind fun x23 =>
 (idx x8.Syms s13.2.2).bind fun x24 =>
 (pf94 s13.1 x23.At x24.Name).bind fun x25 =>
 some x25
 else
 some s13.1)).bind fun j21 =>
 (idx x8.Syms s13.2.2).bind fun x26 =>
 some (j21,x26.Name))).bind fun j17 =>
 some (.inl (j17.1,j17.2,w64 (s13.2.2+1)))
 else
 some (.inr (s13.1,s13.2.1)))) ((⟨s4.1.f_g,s4.1.f_given,s4.1.f_types,s4.1.f_lefts,s4.1.f_e,s4.1.f_at,s4.1.f_name,j11,s4.1.f_inner⟩:yuccaref9_maker),s4.2.1,0)).bind fun x14 =>
 some (.inl (x14.1,x14.2,w64 (s4.2.2+1)))
 else
 some (.inr (s4.1,s4.2.1)))) ((⟨(⟨[(⟨{ data:=#[36,101,110,100] },false,0,0,0,{ data:=#[] }⟩:Tok),(⟨{ data:=#[101,114,114,111,114] },false,(-1),0,0,{ data:=#[] }⟩:Tok),(⟨{ data:=#[36,117,110,107] },false,(-1),0,0,{ data:=#[] }⟩:Tok)],[],[],{ data:=#[] },{ data:=#[] }⟩:Grammar),x3,[],[],0,0,{ data:=#[] },0,0⟩:yuccaref9_maker),{ data:=#[] },0)).bind fun x5 =>
 (loopM (R:=yuccaref9_maker) (fun (s27:yuccaref9_maker × Int) =>
 (bif decide (s27.2<(a0.Rules.length:Int)) then
 ((idx a0.Rules s27.2).bind fun x32 =>
 (pf95 s27.1 (⟨x32.Left,false,0,0⟩:Sym)).bind fun x33 =>
 ((bif decide (0<=x33) then
 (pf94 s27.1 x32.At x32.Left).bind fun x36 =>
 some x36
 else
 some s27.1)).bind fun j34 =>
 (pf96 j34 x32.Left).bind fun x37 =>
 ((bif decide (x37<0) then
 (appO j34.f_lefts [x32.Left]).bind fun x40 =>
 some (j34.f_lefts++[x32.Left])
 else
 some j34.f_lefts)).bind fun j38 =>
 some (⟨j34.f_g,j34.f_given,j34.f_types,j38,j34.f_e,j34.f_at,j34.f_name,j34.f_level,j34.f_inner⟩:yuccaref9_maker)).bind fun j31 =>
 some (.inl (j31,w64 (s27.2+1)))
 else
 some (.inr s27.1))) (x5.1,0)).bind fun x28 =>
 (loopM (R:=yuccaref9_maker) (fun (s41:yuccaref9_maker × Int) =>
 (bif decide (s41.2<(a0.Decls.length:Int)) then
 (loopM (R:=yuccaref9_maker) (fun (s45:yuccaref9_maker × Int) =>
 (idx a0.Decls s41.2).bind fun x48 =>
 (bif decide (s45.2<(x48.Syms.length:Int)) then
 ((idx a0.Decls s41.2).bind fun x51 =>
 (idx x51.Syms s45.2).bind fun x52 =>
 (((idx a0.Decls s41.2).bind fun x53=>(bif decide (5<=x53.Kind) then ((pf96 s45.1 x52.Name).bind fun x55=>some (decide (x55<0))) else some false))).bind fun c56 =>
 ((bif c56 then
 (pf94 s45.1 x52.At x52.Name).bind fun x59 =>
 some x59
 else
 some s45.1)).bind fun j57 =>
 some j57).bind fun j50 =>
 some (.inl (j50,w64 (s45.2+1)))
 else
 some (.inr s45.1))) (s41.1,0)).bind fun x46 =>
 some (.inl (x46,w64 (s41.2+1)))
 else
 some (.inr s41.1))) (x28,0)).bind fun x42 =>
 ((bif decide (x5.2={ data:=#[] }) then
 (idx a0.Rules 0).bind fun x62 =>
 some x62.Left
 else
 some x5.2)).bind fun j60 =>
 (pf96 x42 j60).bind fun x63 =>
 (loopM (R:=yuccaref9_maker) (fun (s64:yuccaref9_maker × Int) =>
 (bif decide (s64.2<(a0.Rules.length:Int)) then
 (loopM (R:=yuccaref9_maker) (fun (s68:yuccaref9_maker × Int) =>
 (idx a0.Rules s64.2).bind fun x71 =>
 (bif decide (s68.2<(x71.Alts.length:Int)) then
 (idx a0.Rules s64.2).bind fun x73 =>
 (idx a0.Rules s64.2).bind fun x74 =>
 (idx x74.Alts s68.2).bind fun x75 =>
 (pf97 s68.1 x73.Left x75).bind fun x76 =>
 some (.inl (x76,w64 (s68.2+1)))
 else
 some (.inr s68.1))) (s64.1,0)).bind fun x69 =>
 some (.inl (x69,w64 (s64.2+1)))
 else
 some (.inr s64.1))) ((⟨(⟨x42.f_g.Toks,x42.f_g.Nons,[(⟨0,[w64 (1001+x63)],(-1),{ data:=#[] },([]:List Int),0⟩:Prod)],x42.f_g.Pro,x42.f_g.Tail⟩:Grammar),x42.f_given,x42.f_types,x42.f_lefts,x42.f_e,x42.f_at,x42.f_name,x42.f_level,x42.f_inner⟩:yuccaref9_maker),0)).bind fun x65 =>
 (bif !decide (x65.f_e=0) then
 some ((⟨([]:List Tok),([]:List Non),([]:List Prod),{ data:=#[] },{ data:=#[] }⟩:Grammar),x65.f_e,x65.f_at,x65.f_name)
 else
 (loopM (R:=List Non) (fun (s78:List Non × Int) =>
 (bif decide (s78.2<(x65.f_lefts.length:Int)) then
 (idx x65.f_lefts s78.2).bind fun x82 =>
 (pf98 (⟨(⟨x65.f_g.Toks,s78.1,x65.f_g.Prods,x65.f_g.Pro,x65.f_g.Tail⟩:Grammar),x65.f_given,x65.f_types,x65.f_lefts,x65.f_e,x65.f_at,x65.f_name,x65.f_level,x65.f_inner⟩:yuccaref9_maker) x82).bind fun x83 =>
 ((bif decide (0<=x83) then
 (idx x65.f_types x83).bind fun x86 =>
 some x86.Tag
 else
 some ({ data:=#[] }))).bind fun j84 =>
 (appO s78.1 [(⟨x82,j84⟩:Non)]).bind fun x87 =>
 some (.inl (s78.1++[(⟨x82,j84⟩:Non)],w64 (s78.2+1)))
 else
 some (.inr s78.1))) ([(⟨{ data:=#[36,97,99,99,101,112,116] },{ data:=#[] }⟩:Non)],0)).bind fun x79 =>
 (loopM (R:=List Non) (fun (s88:List Non × Int) =>
 (bif decide (s88.2<=x65.f_inner) then
 (pf99 s88.2).bind fun x92 =>
 (catO ({ data:=#[64] }) x92).bind fun x93 =>
 (appO s88.1 [(⟨x93,{ data:=#[] }⟩:Non)]).bind fun x94 =>
 some (.inl (s88.1++[(⟨x93,{ data:=#[] }⟩:Non)],w64 (s88.2+1)))
 else
 some (.inr s88.1))) (x79,1)).bind fun x89 =>
 (loopM (R:=List Tok) (fun (s95:List Tok × Int × Int) =>
 (bif decide (s95.2.2<(s95.1.length:Int)) then
 ((idx x65.f_given s95.2.2).bind fun x100 =>
 ((bif !x100 then
 (idx s95.1 s95.2.2).bind fun x103 =>
 some (s95.1.set s95.2.2.toNat (⟨x103.Name,x103.Lit,s95.2.1,x103.Level,x103.Assoc,x103.Tag⟩:Tok),w64 (s95.2.1+1))
 else
 some (s95.1,s95.2.1))).bind fun j101 =>
 some (j101.1,j101.2)).bind fun j99 =>
 some (.inl (j99.1,j99.2,w64 (s95.2.2+1)))
 else
 some (.inr s95.1))) (x65.f_g.Toks,57346,3)).bind fun x96 =>
 ((bif decide (40<(x96.length:Int)) then some true else (bif decide (24<(x89.length:Int)) then some true else some (decide (60<(x65.f_g.Prods.length:Int)))))).bind fun c106 =>
 (loopM (R:=Bool) (fun (s107:Bool × Int) =>
 (bif decide (s107.2<(x65.f_g.Prods.length:Int)) then
 ((bif s107.1 then some true else ((idx x65.f_g.Prods s107.2).bind fun x112=>some (decide (8<(x112.Right.length:Int)))))).bind fun c113 =>
 some (.inl (c113,w64 (s107.2+1)))
 else
 some (.inr s107.1))) (c106,0)).bind fun x108 =>
 (bif x108 then
 some ((⟨([]:List Tok),([]:List Non),([]:List Prod),{ data:=#[] },{ data:=#[] }⟩:Grammar),4,0,{ data:=#[] })
 else
 some ((⟨x96,x89,x65.f_g.Prods,a0.Pro,a0.Tail⟩:Grammar),0,0,{ data:=#[] }))))
def pf68 (a0:Source):Option (Grammar × Bool) :=
 (pf78 a0).bind fun x1 =>
 some (x1.1,decide (x1.2.1=0))
def pf67 (a0:(List Int)) (a1:Int):Option ((List Int)) :=
 (loopM (R:=Int) (fun (s1:Int) =>
 ((bif decide (0<s1) then ((idx a0 (w64 (s1 - 1))).bind fun x5=>some (decide (a1<x5))) else some false)).bind fun c6 =>
 (bif c6 then
 some (.inl (w64 (s1 - 1)))
 else
 some (.inr s1))) (a0.length:Int)).bind fun x2 =>
 ((bif decide (0<x2) then ((idx a0 (w64 (x2 - 1))).bind fun x9=>some (decide (x9=a1))) else some false)).bind fun c10 =>
 (bif c10 then
 some a0
 else
 (subO a0 0 x2).bind fun x12 =>
 (appO ([]:List Int) x12).bind fun x13 =>
 (appO (([]:List Int)++x12) [a1]).bind fun x14 =>
 (subO a0 x2 a0.length).bind fun x15 =>
 (appO ((([]:List Int)++x12)++[a1]) x15).bind fun x16 =>
 some ((([]:List Int)++x12)++[a1]++x15))
def pf70 (a0:(List Int)) (a1:Int):Option (Bool) :=
 (loopM (R:=(Unit) ⊕ (Bool)) (fun (s1:Int) =>
 (bif decide (s1<(a0.length:Int)) then
 (idx a0 s1).bind fun x6 =>
 (bif decide (x6=a1) then
 some (.inr (.inr true))
 else
 some (.inl (w64 (s1+1))))
 else
 some (.inr (.inl ())))) 0).bind fun x2 =>
 (match x2 with
 | .inl x3 =>
 some false
 | .inr x4 =>
 some x4)
def pf79 (a0:Grammar):Option ((List Int)) :=
 (loopM (R:=List Int) (fun (s1:List Int × Int) =>
 (bif decide (s1.2<(a0.Toks.length:Int)) then
 (appO s1.1 [s1.2]).bind fun x5 =>
 some (.inl (s1.1++[s1.2],w64 (s1.2+1)))
 else
 some (.inr s1.1))) (([]:List Int),0)).bind fun x2 =>
 (loopM (R:=List Int) (fun (s6:List Int × Int) =>
 (bif decide (s6.2<(a0.Nons.length:Int)) then
 (appO s6.1 [w64 (1000+s6.2)]).bind fun x10 =>
 some (.inl (s6.1++[w64 (1000+s6.2)],w64 (s6.2+1)))
 else
 some (.inr s6.1))) (x2,0)).bind fun x7 =>
 some x7
structure Item where
 Prod:Int
 Dot:Int
 deriving DecidableEq,Inhabited
def pf102 (a0:Grammar) (a1:Item):Option (Bool) :=
 ((bif decide (0<=a1.Prod) then (bif decide (a1.Prod<(a0.Prods.length:Int)) then (bif decide (0<=a1.Dot) then ((idx a0.Prods a1.Prod).bind fun x4=>some (decide (a1.Dot<=(x4.Right.length:Int)))) else some false) else some false) else some false)).bind fun c5 =>
 some c5
def pf81 (a0:Grammar) (a1:Item):Option (Int) :=
 (((pf102 a0 a1).bind fun x1=>(bif !x1 then some true else ((idx a0.Prods a1.Prod).bind fun x3=>some (decide (a1.Dot=(x3.Right.length:Int))))))).bind fun c4 =>
 (bif c4 then
 some (-1)
 else
 (idx a0.Prods a1.Prod).bind fun x6 =>
 (idx x6.Right a1.Dot).bind fun x7 =>
 some x7)
def eItem:En Item:=⟨2,fun x=>[I64 x.Prod,I64 x.Dot],fun _=>rfl,fun _=>NRl.nr⟩
instance:Flat eItem:=⟨fun _=>rfl⟩
instance:OOe eItem:=⟨fun x=>(inferInstance:OOl [I64 x.Prod,I64 x.Dot])⟩
instance:Tw eItem eItem:=⟨rfl,fun x=>(inferInstance:Vws [I64 x.Prod,I64 x.Dot] [I64 x.Prod,I64 x.Dot])⟩
def pf101 (a0:(List Item)) (a1:Item):Option ((List Item)) :=
 (loopM (R:=Int) (fun (s1:Int) =>
 ((bif decide (0<s1) then ((idx a0 (w64 (s1 - 1))).bind fun x5=>(bif decide (a1.Prod<x5.Prod) then some true else ((idx a0 (w64 (s1 - 1))).bind fun x7=>(bif decide (x7.Prod=a1.Prod) then ((idx a0 (w64 (s1 - 1))).bind fun x9=>some (decide (a1.Dot<x9.Dot))) else some false)))) else some false)).bind fun c10 =>
 (bif c10 then
 some (.inl (w64 (s1 - 1)))
 else
 some (.inr s1))) (a0.length:Int)).bind fun x2 =>
 ((bif decide (0<x2) then ((idx a0 (w64 (x2 - 1))).bind fun x13=>some (decide (x13.Prod=a1.Prod)&&(decide (x13.Dot=a1.Dot)&&true))) else some false)).bind fun c14 =>
 (bif c14 then
 some a0
 else
 (subO a0 0 x2).bind fun x16 =>
 (appO ([]:List Item) x16).bind fun x17 =>
 (appO (([]:List Item)++x16) [a1]).bind fun x18 =>
 (subO a0 x2 a0.length).bind fun x19 =>
 (appO ((([]:List Item)++x16)++[a1]) x19).bind fun x20 =>
 some ((([]:List Item)++x16)++[a1]++x19))
def pf100 (a0:Grammar) (a1:(List Item)):Option ((List Item)) :=
 (loopM (R:=List Item) (fun (s1:List Item × Int) =>
 (bif decide (s1.2<(a1.length:Int)) then
 ((idx a1 s1.2).bind fun x6 =>
 (pf102 a0 x6).bind fun x7 =>
 ((bif x7 then
 (idx a1 s1.2).bind fun x10 =>
 (pf101 s1.1 x10).bind fun x11 =>
 some x11
 else
 some s1.1)).bind fun j8 =>
 some j8).bind fun j5 =>
 some (.inl (j5,w64 (s1.2+1)))
 else
 some (.inr s1.1))) (([]:List Item),0)).bind fun x2 =>
 some x2
def pf80 (a0:Grammar) (a1:(List Item)):Option ((List Item)) :=
 (pf100 a0 a1).bind fun x1 =>
 (loopM (R:=List Item) (fun (s2:List Item × Int) =>
 (bif !decide (s2.2=(s2.1.length:Int)) then
 (((loopM (R:=List Item) (fun (s8:List Item × Int) =>
 (bif decide (s8.2<(s2.1.length:Int)) then
 (idx s8.1 s8.2).bind fun x12 =>
 (pf81 a0 x12).bind fun x13 =>
 (loopM (R:=List Item) (fun (s14:List Item × Int) =>
 ((bif decide (s14.2<(a0.Prods.length:Int)) then some (decide (1000<=x13)) else some false)).bind fun c18 =>
 (bif c18 then
 ((idx a0.Prods s14.2).bind fun x21 =>
 ((bif decide (x21.Left=w64 (x13 - 1000)) then
 (pf101 s14.1 (⟨s14.2,0⟩:Item)).bind fun x24 =>
 some x24
 else
 some s14.1)).bind fun j22 =>
 some j22).bind fun j20 =>
 some (.inl (j20,w64 (s14.2+1)))
 else
 some (.inr s14.1))) (s8.1,0)).bind fun x15 =>
 (bif !decide ((x15.length:Int)=(s2.1.length:Int)) then
 some (.inr x15)
 else
 some (.inl (x15,w64 (s8.2+1))))
 else
 some (.inr s8.1))) (s2.1,0)).bind fun x9 =>
 some x9).bind fun j7 =>
 some (j7,(s2.1.length:Int))).bind fun j6 =>
 some (.inl (j6.1,j6.2))
 else
 some (.inr s2.1))) (x1,(-1))).bind fun x3 =>
 some x3
def pf82 (a0:Grammar) (a1:(List Item)) (a2:Int):Option ((List Item)) :=
 (pf80 a0 a1).bind fun x1 =>
 (loopM (R:=List Item) (fun (s2:List Item × Int) =>
 (bif decide (s2.2<(x1.length:Int)) then
 ((idx x1 s2.2).bind fun x7 =>
 (pf81 a0 x7).bind fun x8 =>
 ((bif decide (0<=x8) then some (decide (x8=a2)) else some false)).bind fun c10 =>
 ((bif c10 then
 (idx x1 s2.2).bind fun x13 =>
 (idx x1 s2.2).bind fun x14 =>
 (pf101 s2.1 (⟨x13.Prod,w64 (x14.Dot+1)⟩:Item)).bind fun x15 =>
 some x15
 else
 some s2.1)).bind fun j11 =>
 some j11).bind fun j6 =>
 some (.inl (j6,w64 (s2.2+1)))
 else
 some (.inr s2.1))) (([]:List Item),0)).bind fun x3 =>
 some x3
def pf103 (a0:(List Item)) (a1:(List Item)):Option (Bool) :=
 (bif !decide ((a0.length:Int)=(a1.length:Int)) then
 some false
 else
 (loopM (R:=(Unit) ⊕ (Bool)) (fun (s2:Int) =>
 (bif decide (s2<(a0.length:Int)) then
 (idx a0 s2).bind fun x7 =>
 (idx a1 s2).bind fun x8 =>
 (bif !(decide (x7.Prod=x8.Prod)&&(decide (x7.Dot=x8.Dot)&&true)) then
 some (.inr (.inr false))
 else
 some (.inl (w64 (s2+1))))
 else
 some (.inr (.inl ())))) 0).bind fun x3 =>
 (match x3 with
 | .inl x4 =>
 some true
 | .inr x5 =>
 some x5))
structure Move where
 Sym:Int
 To:Int
 deriving DecidableEq,Inhabited
structure State where
 Kernel:(List Item)
 Moves:(List Move)
 deriving DecidableEq,Inhabited
def eMove:En Move:=⟨2,fun x=>[I64 x.Sym,I64 x.To],fun _=>rfl,fun _=>NRl.nr⟩
instance:Flat eMove:=⟨fun _=>rfl⟩
instance:OOe eMove:=⟨fun x=>(inferInstance:OOl [I64 x.Sym,I64 x.To])⟩
instance:Tw eMove eMove:=⟨rfl,fun x=>(inferInstance:Vws [I64 x.Sym,I64 x.To] [I64 x.Sym,I64 x.To])⟩
def eState_0:En State:=⟨2,fun x=>[iR eItem x.Kernel,iR eMove x.Moves],fun _=>rfl,fun _=>NRl.nr⟩
instance:Flat eState_0:=⟨fun _=>rfl⟩
instance:Tw eState_0 eState_0:=⟨rfl,fun x=>(inferInstance:Vws [iR eItem x.Kernel,iR eMove x.Moves] [iR eItem x.Kernel,iR eMove x.Moves])⟩
def pf83 (a0:(List State)) (a1:(List Item)):Option (Int) :=
 (loopM (R:=(Unit) ⊕ (Int)) (fun (s1:Int) =>
 (bif decide (s1<(a0.length:Int)) then
 (idx a0 s1).bind fun x6 =>
 (pf103 x6.Kernel a1).bind fun x7 =>
 (bif x7 then
 some (.inr (.inr s1))
 else
 some (.inl (w64 (s1+1))))
 else
 some (.inr (.inl ())))) 0).bind fun x2 =>
 (match x2 with
 | .inl x3 =>
 some (-1)
 | .inr x4 =>
 some x4)
def eState_m:En State:=⟨2,fun x=>[iR eItem x.Kernel,oR eMove x.Moves],fun _=>rfl,fun _=>NRl.nr⟩
instance:Tw eState_m eState_0:=⟨rfl,fun x=>(inferInstance:Vws [iR eItem x.Kernel,oR eMove x.Moves] [iR eItem x.Kernel,iR eMove x.Moves])⟩
def pf69 (a0:Grammar):Option ((List State) × Int) :=
 (pf79 a0).bind fun x1 =>
 (loopM (R:=(List State) ⊕ (List State × Int)) (fun (s2:List State × Int) =>
 (bif decide (s2.2<(s2.1.length:Int)) then
 (idx s2.1 s2.2).bind fun x7 =>
 (pf80 a0 x7.Kernel).bind fun x8 =>
 (loopM (R:=List Int) (fun (s9:List Int × Int) =>
 (bif decide (s9.2<(x8.length:Int)) then
 ((idx x8 s9.2).bind fun x14 =>
 (pf81 a0 x14).bind fun x15 =>
 ((bif decide (0<=x15) then
 (pf67 s9.1 x15).bind fun x18 =>
 some x18
 else
 some s9.1)).bind fun j16 =>
 some j16).bind fun j13 =>
 some (.inl (j13,w64 (s9.2+1)))
 else
 some (.inr s9.1))) (([]:List Int),0)).bind fun x10 =>
 (loopM (R:=(List State) ⊕ (List State × Int)) (fun (s19:List State × Int) =>
 (bif decide (s19.2<(x1.length:Int)) then
 (idx x1 s19.2).bind fun x24 =>
 (pf70 x10 x24).bind fun x25 =>
 (bif !x25 then
 some (.inl (s19.1,w64 (s19.2+1)))
 else
 (idx s19.1 s2.2).bind fun x27 =>
 (idx x1 s19.2).bind fun x28 =>
 (pf82 a0 x27.Kernel x28).bind fun x29 =>
 (pf83 s19.1 x29).bind fun x30 =>
 (bif decide (x30<0) then
 (bif decide ((s19.1.length:Int)=150) then
 some (.inr (.inr (([]:List State),4)))
 else
 (appO s19.1 [(⟨x29,([]:List Move)⟩:State)]).bind fun x33 =>
 (idx (s19.1++[(⟨x29,([]:List Move)⟩:State)]) s2.2).bind fun x34 =>
 (idx x1 s19.2).bind fun x35 =>
 (appO x34.Moves [(⟨x35,(s19.1.length:Int)⟩:Move)]).bind fun x36 =>
 some (.inl ((s19.1++[(⟨x29,([]:List Move)⟩:State)]).set s2.2.toNat (⟨x34.Kernel,x34.Moves++[(⟨x35,(s19.1.length:Int)⟩:Move)]⟩:State),w64 (s19.2+1))))
 else
 (idx s19.1 s2.2).bind fun x37 =>
 (idx x1 s19.2).bind fun x38 =>
 (appO x37.Moves [(⟨x38,x30⟩:Move)]).bind fun x39 =>
 some (.inl (s19.1.set s2.2.toNat (⟨x37.Kernel,x37.Moves++[(⟨x38,x30⟩:Move)]⟩:State),w64 (s19.2+1)))))
 else
 some (.inr (.inl s19.1)))) (s2.1,0)).bind fun x20 =>
 (match x20 with
 | .inl x21 =>
 some (.inl (x21,w64 (s2.2+1)))
 | .inr x22 =>
 some (.inr (.inr (x22.1,x22.2))))
 else
 some (.inr (.inl s2.1)))) ([(⟨[(⟨0,0⟩:Item)],([]:List Move)⟩:State)],0)).bind fun x3 =>
 (match x3 with
 | .inl x4 =>
 some (x4,0)
 | .inr x5 =>
 some (x5.1,x5.2))
def pf52 (a0:Source):Option (Grammar × (List State) × Bool) :=
 (pf68 a0).bind fun x1 =>
 (bif !x1.2 then
 some (x1.1,([]:List State),false)
 else
 (pf69 x1.1).bind fun x3 =>
 some (x1.1,x3.1,decide (x3.2=0)))
def pf59 (a0:(List State)) (a1:Int) (a2:Int):Option (Int) :=
 (loopM (R:=(Unit) ⊕ (Int)) (fun (s1:Int) =>
 ((bif decide (0<=a1) then (bif decide (a1<(a0.length:Int)) then ((idx a0 a1).bind fun x7=>some (decide (s1<(x7.Moves.length:Int)))) else some false) else some false)).bind fun c8 =>
 (bif c8 then
 (idx a0 a1).bind fun x10 =>
 (idx x10.Moves s1).bind fun x11 =>
 (bif decide (x11.Sym=a2) then
 (idx a0 a1).bind fun x13 =>
 (idx x13.Moves s1).bind fun x14 =>
 some (.inr (.inr x14.To))
 else
 some (.inl (w64 (s1+1))))
 else
 some (.inr (.inl ())))) 0).bind fun x2 =>
 (match x2 with
 | .inl x3 =>
 some (-1)
 | .inr x4 =>
 some x4)
structure Cell where
 State:Int
 Tok:Int
 Shift:Int
 Accept:Bool
 Prods:(List Int)
 deriving DecidableEq,Inhabited
def eCell_0:En Cell:=⟨5,fun x=>[I64 x.State,I64 x.Tok,I64 x.Shift,BB x.Accept,iR eI x.Prods],fun _=>rfl,fun _=>NRl.nr⟩
instance:Flat eCell_0:=⟨fun _=>rfl⟩
instance:Tw eCell_0 eCell_0:=⟨rfl,fun x=>(inferInstance:Vws [I64 x.State,I64 x.Tok,I64 x.Shift,BB x.Accept,iR eI x.Prods] [I64 x.State,I64 x.Tok,I64 x.Shift,BB x.Accept,iR eI x.Prods])⟩
instance {x:Cell}:Vws (eCell_0.cells x) [I64 x.State,I64 x.Tok,I64 x.Shift,BB x.Accept,iR eI x.Prods]:=(inferInstance:Vws [I64 x.State,I64 x.Tok,I64 x.Shift,BB x.Accept,iR eI x.Prods] [I64 x.State,I64 x.Tok,I64 x.Shift,BB x.Accept,iR eI x.Prods])
def pf66 (a0:Cell):Option (Int) :=
 ((bif decide (0<=a0.Shift) then
 some (w64 ((a0.Prods.length:Int)+1))
 else
 some (a0.Prods.length:Int))).bind fun j1 =>
 ((bif a0.Accept then
 some (w64 (j1+1))
 else
 some j1)).bind fun j3 =>
 some j3
structure Look where
 State:Int
 Prod:Int
 Toks:(List Int)
 deriving DecidableEq,Inhabited
def eLook_0:En Look:=⟨3,fun x=>[I64 x.State,I64 x.Prod,iR eI x.Toks],fun _=>rfl,fun _=>NRl.nr⟩
instance:Flat eLook_0:=⟨fun _=>rfl⟩
instance:Tw eLook_0 eLook_0:=⟨rfl,fun x=>(inferInstance:Vws [I64 x.State,I64 x.Prod,iR eI x.Toks] [I64 x.State,I64 x.Prod,iR eI x.Toks])⟩
instance {x:Look}:Vws (eLook_0.cells x) [I64 x.State,I64 x.Prod,iR eI x.Toks]:=(inferInstance:Vws [I64 x.State,I64 x.Prod,iR eI x.Toks] [I64 x.State,I64 x.Prod,iR eI x.Toks])
def pf53 (a0:Grammar) (a1:(List State)) (a2:(List Look)):Option ((List Cell)) :=
 (loopM (R:=List Cell) (fun (s1:List Cell × Int) =>
 (bif decide (s1.2<(a1.length:Int)) then
 (loopM (R:=List Cell) (fun (s5:List Cell × Int) =>
 (bif decide (s5.2<(a0.Toks.length:Int)) then
 ((pf59 a1 s1.2 s5.2).bind fun x10 =>
 (loopM (R:=Bool) (fun (s11:Bool × Int) =>
 (idx a1 s1.2).bind fun x14 =>
 (bif decide (s11.2<(x14.Kernel.length:Int)) then
 (idx a1 s1.2).bind fun x16 =>
 (idx x16.Kernel s11.2).bind fun x17 =>
 ((bif s11.1 then some true else (bif decide (s5.2=0) then (bif decide (x17.Prod=0) then some (decide (x17.Dot=1)) else some false) else some false))).bind fun c21 =>
 some (.inl (c21,w64 (s11.2+1)))
 else
 some (.inr s11.1))) (false,0)).bind fun x12 =>
 (loopM (R:=List Int) (fun (s22:List Int × Int) =>
 (bif decide (s22.2<(a2.length:Int)) then
 ((((idx a2 s22.2).bind fun x27=>(bif decide (x27.State=s1.2) then ((idx a2 s22.2).bind fun x29=>((pf70 x29.Toks s5.2).bind fun x30=>some x30)) else some false))).bind fun c31 =>
 ((bif c31 then
 (idx a2 s22.2).bind fun x34 =>
 (pf67 s22.1 x34.Prod).bind fun x35 =>
 some x35
 else
 some s22.1)).bind fun j32 =>
 some j32).bind fun j26 =>
 some (.inl (j26,w64 (s22.2+1)))
 else
 some (.inr s22.1))) (([]:List Int),0)).bind fun x23 =>
 (pf66 (⟨s1.2,s5.2,x10,x12,x23⟩:Cell)).bind fun x36 =>
 ((bif decide (0<x36) then
 (appO s5.1 [(⟨s1.2,s5.2,x10,x12,x23⟩:Cell)]).bind fun x39 =>
 some (s5.1++[(⟨s1.2,s5.2,x10,x12,x23⟩:Cell)])
 else
 some s5.1)).bind fun j37 =>
 some j37).bind fun j9 =>
 some (.inl (j9,w64 (s5.2+1)))
 else
 some (.inr s5.1))) (s1.1,0)).bind fun x6 =>
 some (.inl (x6,w64 (s1.2+1)))
 else
 some (.inr s1.1))) (([]:List Cell),0)).bind fun x2 =>
 some x2
def pf84 (a0:(List (List Int))) (a1:(List (List Int))):Option ((List (List Int))) :=
 (loopM (R:=List (List Int)) (fun (s1:List (List Int) × Bool) =>
 (bif s1.2 then
 (loopM (R:=List (List Int) × Bool) (fun (s5:List (List Int) × Bool × Int) =>
 (bif decide (s5.2.2<(s5.1.length:Int)) then
 (idx a1 s5.2.2).bind fun x9 =>
 (idx s5.1 s5.2.2).bind fun x10 =>
 (loopM (R:=List (List Int)) (fun (s11:List (List Int) × Int) =>
 (bif decide (s11.2<(x9.length:Int)) then
 (loopM (R:=List (List Int)) (fun (s15:List (List Int) × Int) =>
 (idx x9 s11.2).bind fun x18 =>
 (idx s15.1 x18).bind fun x19 =>
 (bif decide (s15.2<(x19.length:Int)) then
 (idx s15.1 s5.2.2).bind fun x21 =>
 (idx x9 s11.2).bind fun x22 =>
 (idx s15.1 x22).bind fun x23 =>
 (idx x23 s15.2).bind fun x24 =>
 (pf67 x21 x24).bind fun x25 =>
 some (.inl (s15.1.set s5.2.2.toNat x25,w64 (s15.2+1)))
 else
 some (.inr s15.1))) (s11.1,0)).bind fun x16 =>
 some (.inl (x16,w64 (s11.2+1)))
 else
 some (.inr s11.1))) (s5.1,0)).bind fun x12 =>
 ((bif s5.2.1 then some true else ((idx x12 s5.2.2).bind fun x27=>some (!decide ((x27.length:Int)=(x10.length:Int)))))).bind fun c28 =>
 some (.inl (x12,c28,w64 (s5.2.2+1)))
 else
 some (.inr (s5.1,s5.2.1)))) (s1.1,false,0)).bind fun x6 =>
 some (.inl (x6.1,x6.2))
 else
 some (.inr s1.1))) (a0,true)).bind fun x2 =>
 some x2
structure Trans where
 State:Int
 Non:Int
 deriving DecidableEq,Inhabited
def eTrans:En Trans:=⟨2,fun x=>[I64 x.State,I64 x.Non],fun _=>rfl,fun _=>NRl.nr⟩
instance:Flat eTrans:=⟨fun _=>rfl⟩
instance:OOe eTrans:=⟨fun x=>(inferInstance:OOl [I64 x.State,I64 x.Non])⟩
instance:Tw eTrans eTrans:=⟨rfl,fun x=>(inferInstance:Vws [I64 x.State,I64 x.Non] [I64 x.State,I64 x.Non])⟩
def pf88 (a0:(List State)):Option ((List Trans)) :=
 (loopM (R:=List Trans) (fun (s1:List Trans × Int) =>
 (bif decide (s1.2<(a0.length:Int)) then
 (loopM (R:=List Trans) (fun (s5:List Trans × Int) =>
 (idx a0 s1.2).bind fun x8 =>
 (bif decide (s5.2<(x8.Moves.length:Int)) then
 ((idx a0 s1.2).bind fun x11 =>
 (idx x11.Moves s5.2).bind fun x12 =>
 ((bif decide (1000<=x12.Sym) then
 (idx a0 s1.2).bind fun x15 =>
 (idx x15.Moves s5.2).bind fun x16 =>
 (appO s5.1 [(⟨s1.2,x16.Sym⟩:Trans)]).bind fun x17 =>
 some (s5.1++[(⟨s1.2,x16.Sym⟩:Trans)])
 else
 some s5.1)).bind fun j13 =>
 some j13).bind fun j10 =>
 some (.inl (j10,w64 (s5.2+1)))
 else
 some (.inr s5.1))) (s1.1,0)).bind fun x6 =>
 some (.inl (x6,w64 (s1.2+1)))
 else
 some (.inr s1.1))) (([]:List Trans),0)).bind fun x2 =>
 some x2
def pf104 (a0:(List Item)):Option (Bool) :=
 (loopM (R:=(Unit) ⊕ (Bool)) (fun (s1:Int) =>
 (bif decide (s1<(a0.length:Int)) then
 (((idx a0 s1).bind fun x6=>(bif decide (x6.Prod=0) then ((idx a0 s1).bind fun x8=>some (decide (x8.Dot=1))) else some false))).bind fun c9 =>
 (bif c9 then
 some (.inr (.inr true))
 else
 some (.inl (w64 (s1+1))))
 else
 some (.inr (.inl ())))) 0).bind fun x2 =>
 (match x2 with
 | .inl x3 =>
 some false
 | .inr x4 =>
 some x4)
def pf85 (a0:(List State)):Option ((List (List Int))) :=
 (pf88 a0).bind fun x1 =>
 (loopM (R:=List (List Int)) (fun (s2:List (List Int) × Int) =>
 (bif decide (s2.2<(x1.length:Int)) then
 (idx x1 s2.2).bind fun x6 =>
 (idx x1 s2.2).bind fun x7 =>
 (pf59 a0 x6.State x7.Non).bind fun x8 =>
 (idx a0 x8).bind fun x9 =>
 (pf104 x9.Kernel).bind fun x10 =>
 ((bif x10 then
 (appO ([]:List Int) [0]).bind fun x13 =>
 some [0]
 else
 some ([]:List Int))).bind fun j11 =>
 (loopM (R:=List Int) (fun (s14:List Int × Int) =>
 (idx a0 x8).bind fun x17 =>
 (bif decide (s14.2<(x17.Moves.length:Int)) then
 ((idx a0 x8).bind fun x20 =>
 (idx x20.Moves s14.2).bind fun x21 =>
 ((bif decide (x21.Sym<1000) then
 (idx a0 x8).bind fun x24 =>
 (idx x24.Moves s14.2).bind fun x25 =>
 (pf67 s14.1 x25.Sym).bind fun x26 =>
 some x26
 else
 some s14.1)).bind fun j22 =>
 some j22).bind fun j19 =>
 some (.inl (j19,w64 (s14.2+1)))
 else
 some (.inr s14.1))) (j11,0)).bind fun x15 =>
 (appO s2.1 [x15]).bind fun x27 =>
 some (.inl (s2.1++[x15],w64 (s2.2+1)))
 else
 some (.inr s2.1))) (([]:List (List Int)),0)).bind fun x3 =>
 some x3
def pf107 (a0:(List Bool)) (a1:(List Int)):Option (Bool) :=
 (loopM (R:=(Unit) ⊕ (Bool)) (fun (s1:Int) =>
 (bif decide (s1<(a1.length:Int)) then
 (((idx a1 s1).bind fun x6=>(bif decide (x6<1000) then some true else ((idx a1 s1).bind fun x8=>((idx a0 (w64 (x8 - 1000))).bind fun x9=>some (!x9)))))).bind fun c10 =>
 (bif c10 then
 some (.inr (.inr false))
 else
 some (.inl (w64 (s1+1))))
 else
 some (.inr (.inl ())))) 0).bind fun x2 =>
 (match x2 with
 | .inl x3 =>
 some true
 | .inr x4 =>
 some x4)
def pf105 (a0:Grammar):Option ((List Bool)) :=
 (mkO (a0.Nons.length:Int) false).bind fun x1 =>
 (loopM (R:=List Bool) (fun (s2:List Bool × Bool) =>
 (bif s2.2 then
 (loopM (R:=List Bool × Bool) (fun (s6:List Bool × Bool × Int) =>
 (bif decide (s6.2.2<(a0.Prods.length:Int)) then
 ((idx a0.Prods s6.2.2).bind fun x11 =>
 (((idx s6.1 x11.Left).bind fun x12=>(bif !x12 then ((pf107 s6.1 x11.Right).bind fun x14=>some x14) else some false))).bind fun c15 =>
 ((bif c15 then
 (idx s6.1 x11.Left).bind fun x18 =>
 some (s6.1.set x11.Left.toNat true,true)
 else
 some (s6.1,s6.2.1))).bind fun j16 =>
 some (j16.1,j16.2)).bind fun j10 =>
 some (.inl (j10.1,j10.2,w64 (s6.2.2+1)))
 else
 some (.inr (s6.1,s6.2.1)))) (s2.1,false,0)).bind fun x7 =>
 some (.inl (x7.1,x7.2))
 else
 some (.inr s2.1))) (x1,true)).bind fun x3 =>
 some x3
def pf106 (a0:(List Trans)) (a1:Int) (a2:Int):Option (Int) :=
 (loopM (R:=(Unit) ⊕ (Int)) (fun (s1:Int) =>
 (bif decide (s1<(a0.length:Int)) then
 (((idx a0 s1).bind fun x6=>(bif decide (x6.State=a1) then ((idx a0 s1).bind fun x8=>some (decide (x8.Non=a2))) else some false))).bind fun c9 =>
 (bif c9 then
 some (.inr (.inr s1))
 else
 some (.inl (w64 (s1+1))))
 else
 some (.inr (.inl ())))) 0).bind fun x2 =>
 (match x2 with
 | .inl x3 =>
 some (-1)
 | .inr x4 =>
 some x4)
def pf86 (a0:Grammar) (a1:(List State)):Option ((List (List Int))) :=
 (pf88 a1).bind fun x1 =>
 (pf105 a0).bind fun x2 =>
 (loopM (R:=List (List Int)) (fun (s3:List (List Int) × Int) =>
 (bif decide (s3.2<(x1.length:Int)) then
 (idx x1 s3.2).bind fun x7 =>
 (idx x1 s3.2).bind fun x8 =>
 (pf59 a1 x7.State x8.Non).bind fun x9 =>
 (loopM (R:=List Int) (fun (s10:List Int × Int) =>
 (idx a1 x9).bind fun x13 =>
 (bif decide (s10.2<(x13.Moves.length:Int)) then
 ((idx a1 x9).bind fun x16 =>
 (idx x16.Moves s10.2).bind fun x17 =>
 ((bif decide (1000<=x17.Sym) then ((idx x2 (w64 (x17.Sym - 1000))).bind fun x19=>some x19) else some false)).bind fun c20 =>
 ((bif c20 then
 (pf106 x1 x9 x17.Sym).bind fun x23 =>
 (pf67 s10.1 x23).bind fun x24 =>
 some x24
 else
 some s10.1)).bind fun j21 =>
 some j21).bind fun j15 =>
 some (.inl (j15,w64 (s10.2+1)))
 else
 some (.inr s10.1))) (([]:List Int),0)).bind fun x11 =>
 (appO s3.1 [x11]).bind fun x25 =>
 some (.inl (s3.1++[x11],w64 (s3.2+1)))
 else
 some (.inr s3.1))) (([]:List (List Int)),0)).bind fun x4 =>
 some x4
def pf89 (a0:(List State)) (a1:Int) (a2:(List Int)):Option (Int) :=
 (loopM (R:=Int) (fun (s1:Int × Int) =>
 ((bif decide (s1.2<(a2.length:Int)) then some (decide (0<=s1.1)) else some false)).bind fun c5 =>
 (bif c5 then
 (idx a2 s1.2).bind fun x7 =>
 (pf59 a0 s1.1 x7).bind fun x8 =>
 some (.inl (x8,w64 (s1.2+1)))
 else
 some (.inr s1.1))) (a1,0)).bind fun x2 =>
 some x2
def pf87 (a0:Grammar) (a1:(List State)):Option ((List (List Int))) :=
 (pf88 a1).bind fun x1 =>
 (pf105 a0).bind fun x2 =>
 (mkO (x1.length:Int) ([]:List Int)).bind fun x3 =>
 (loopM (R:=List (List Int)) (fun (s4:List (List Int) × Int) =>
 (bif decide (s4.2<(x1.length:Int)) then
 (loopM (R:=List (List Int)) (fun (s8:List (List Int) × Int) =>
 (bif decide (s8.2<(a0.Prods.length:Int)) then
 ((idx a0.Prods s8.2).bind fun x13 =>
 (idx a0.Prods s8.2).bind fun x14 =>
 (idx x1 s4.2).bind fun x15 =>
 (bif !decide (w64 (1000+x14.Left)=x15.Non) then
 some s8.1
 else
 (loopM (R:=List (List Int)) (fun (s17:List (List Int) × Int) =>
 (bif decide (s17.2<(x13.Right.length:Int)) then
 ((((idx x13.Right s17.2).bind fun x22=>(bif decide (x22<1000) then some true else ((subO x13.Right (w64 (s17.2+1)) x13.Right.length).bind fun x24=>((pf107 x2 x24).bind fun x25=>some (!x25)))))).bind fun c26 =>
 (bif c26 then
 some s17.1
 else
 (idx x1 s4.2).bind fun x28 =>
 (subO x13.Right 0 s17.2).bind fun x29 =>
 (pf89 a1 x28.State x29).bind fun x30 =>
 ((bif decide (0<=x30) then
 (idx x13.Right s17.2).bind fun x33 =>
 (pf106 x1 x30 x33).bind fun x34 =>
 ((bif decide (0<=x34) then
 (idx s17.1 x34).bind fun x37 =>
 (pf67 x37 s4.2).bind fun x38 =>
 some (s17.1.set x34.toNat x38)
 else
 some s17.1)).bind fun j35 =>
 some j35
 else
 some s17.1)).bind fun j31 =>
 some j31)).bind fun j21 =>
 some (.inl (j21,w64 (s17.2+1)))
 else
 some (.inr s17.1))) (s8.1,0)).bind fun x18 =>
 some x18)).bind fun j12 =>
 some (.inl (j12,w64 (s8.2+1)))
 else
 some (.inr s8.1))) (s4.1,0)).bind fun x9 =>
 some (.inl (x9,w64 (s4.2+1)))
 else
 some (.inr s4.1))) (x3,0)).bind fun x5 =>
 some x5
def pf71 (a0:Grammar) (a1:(List State)):Option ((List (List Int))) :=
 (pf85 a1).bind fun x1 =>
 (pf86 a0 a1).bind fun x2 =>
 (pf84 x1 x2).bind fun x3 =>
 (pf87 a0 a1).bind fun x4 =>
 (pf84 x3 x4).bind fun x5 =>
 some x5
def pf72 (a0:Grammar) (a1:(List Item)):Option ((List Int)) :=
 (pf80 a0 a1).bind fun x1 =>
 (loopM (R:=List Int) (fun (s2:List Int × Int) =>
 (bif decide (s2.2<(x1.length:Int)) then
 ((((idx x1 s2.2).bind fun x7=>(bif decide (0<x7.Prod) then ((idx x1 s2.2).bind fun x9=>((idx x1 s2.2).bind fun x10=>((idx a0.Prods x10.Prod).bind fun x11=>some (decide (x9.Dot=(x11.Right.length:Int)))))) else some false))).bind fun c12 =>
 ((bif c12 then
 (idx x1 s2.2).bind fun x15 =>
 (appO s2.1 [x15.Prod]).bind fun x16 =>
 some (s2.1++[x15.Prod])
 else
 some s2.1)).bind fun j13 =>
 some j13).bind fun j6 =>
 some (.inl (j6,w64 (s2.2+1)))
 else
 some (.inr s2.1))) (([]:List Int),0)).bind fun x3 =>
 some x3
def pf73 (a0:Grammar) (a1:(List State)) (a2:Int) (a3:Int):Option ((List Int)) :=
 ((bif decide (a2<0) then some true else (bif decide ((a1.length:Int)<=a2) then some true else (bif decide (a3<1) then some true else some (decide ((a0.Prods.length:Int)<=a3)))))).bind fun c4 =>
 (bif c4 then
 some ([]:List Int)
 else
 (pf88 a1).bind fun x6 =>
 (loopM (R:=List Int) (fun (s7:List Int × Int) =>
 (bif decide (s7.2<(x6.length:Int)) then
 ((((idx x6 s7.2).bind fun x12=>((idx a0.Prods a3).bind fun x13=>(bif decide (x12.Non=w64 (1000+x13.Left)) then ((idx x6 s7.2).bind fun x15=>((idx a0.Prods a3).bind fun x16=>((pf89 a1 x15.State x16.Right).bind fun x17=>some (decide (x17=a2))))) else some false)))).bind fun c18 =>
 ((bif c18 then
 (appO s7.1 [s7.2]).bind fun x21 =>
 some (s7.1++[s7.2])
 else
 some s7.1)).bind fun j19 =>
 some j19).bind fun j11 =>
 some (.inl (j11,w64 (s7.2+1)))
 else
 some (.inr s7.1))) (([]:List Int),0)).bind fun x8 =>
 some x8)
def pf54 (a0:Grammar) (a1:(List State)):Option ((List Look)) :=
 (pf71 a0 a1).bind fun x1 =>
 (loopM (R:=List Look) (fun (s2:List Look × Int) =>
 (bif decide (s2.2<(a1.length:Int)) then
 (idx a1 s2.2).bind fun x6 =>
 (pf72 a0 x6.Kernel).bind fun x7 =>
 (loopM (R:=List Look) (fun (s8:List Look × Int) =>
 (bif decide (s8.2<(x7.length:Int)) then
 (idx x7 s8.2).bind fun x12 =>
 (idx x7 s8.2).bind fun x13 =>
 (pf73 a0 a1 s2.2 x13).bind fun x14 =>
 (loopM (R:=List Int) (fun (s15:List Int × Int) =>
 (bif decide (s15.2<(x14.length:Int)) then
 (loopM (R:=List Int) (fun (s19:List Int × Int) =>
 (idx x14 s15.2).bind fun x22 =>
 (idx x1 x22).bind fun x23 =>
 (bif decide (s19.2<(x23.length:Int)) then
 (idx x14 s15.2).bind fun x25 =>
 (idx x1 x25).bind fun x26 =>
 (idx x26 s19.2).bind fun x27 =>
 (pf67 s19.1 x27).bind fun x28 =>
 some (.inl (x28,w64 (s19.2+1)))
 else
 some (.inr s19.1))) (s15.1,0)).bind fun x20 =>
 some (.inl (x20,w64 (s15.2+1)))
 else
 some (.inr s15.1))) (([]:List Int),0)).bind fun x16 =>
 (appO s8.1 [(⟨s2.2,x12,x16⟩:Look)]).bind fun x29 =>
 some (.inl (s8.1++[(⟨s2.2,x12,x16⟩:Look)],w64 (s8.2+1)))
 else
 some (.inr s8.1))) (s2.1,0)).bind fun x9 =>
 some (.inl (x9,w64 (s2.2+1)))
 else
 some (.inr s2.1))) (([]:List Look),0)).bind fun x3 =>
 some x3
def pf30 (a0:Source):Option (Grammar × (List State) × (List Cell) × Bool) :=
 (pf52 a0).bind fun x1 =>
 (bif !x1.2.2 then
 some (x1.1,([]:List State),([]:List Cell),false)
 else
 (pf54 x1.1 x1.2.1).bind fun x3 =>
 (pf53 x1.1 x1.2.1 x3).bind fun x4 =>
 some (x1.1,x1.2.1,x4,true))
def pf91 (a0:Grammar) (a1:Int):Option (Int × Int) :=
 ((bif decide (a1<0) then some true else (bif decide ((a0.Prods.length:Int)<=a1) then some true else ((idx a0.Prods a1).bind fun x3=>some (decide (x3.Prec<0)))))).bind fun c4 =>
 (bif c4 then
 some (0,0)
 else
 (idx a0.Prods a1).bind fun x6 =>
 (idx a0.Toks x6.Prec).bind fun x7 =>
 some (x7.Level,x7.Assoc))
def pf75 (a0:Grammar) (a1:Int) (a2:Int):Option (Int) :=
 (pf91 a0 a1).bind fun x1 =>
 ((bif decide (x1.1=0) then some true else (bif decide (a2<0) then some true else (bif decide ((a0.Toks.length:Int)<=a2) then some true else ((idx a0.Toks a2).bind fun x5=>some (decide (x5.Level=0))))))).bind fun c6 =>
 (bif c6 then
 some 0
 else
 (idx a0.Toks a2).bind fun x8 =>
 (bif decide (x1.1<x8.Level) then
 some 1
 else
 (bif decide (x8.Level<x1.1) then
 some 2
 else
 (bif decide (x8.Assoc=1) then
 some 2
 else
 (bif decide (x8.Assoc=2) then
 some 1
 else
 some 3)))))
structure Clash where
 State:Int
 Tok:Int
 Keep:Int
 Drop:Int
 deriving DecidableEq,Inhabited
def eClash:En Clash:=⟨4,fun x=>[I64 x.State,I64 x.Tok,I64 x.Keep,I64 x.Drop],fun _=>rfl,fun _=>NRl.nr⟩
instance:Flat eClash:=⟨fun _=>rfl⟩
instance:OOe eClash:=⟨fun x=>(inferInstance:OOl [I64 x.State,I64 x.Tok,I64 x.Keep,I64 x.Drop])⟩
instance:Tw eClash eClash:=⟨rfl,fun x=>(inferInstance:Vws [I64 x.State,I64 x.Tok,I64 x.Keep,I64 x.Drop] [I64 x.State,I64 x.Tok,I64 x.Keep,I64 x.Drop])⟩
instance {x:Clash}:Vws (eClash.cells x) [I64 x.State,I64 x.Tok,I64 x.Keep,I64 x.Drop]:=(inferInstance:Vws [I64 x.State,I64 x.Tok,I64 x.Keep,I64 x.Drop] [I64 x.State,I64 x.Tok,I64 x.Keep,I64 x.Drop])
def pf58 (a0:Grammar) (a1:Cell):Option (Act × (List Clash)) :=
 (loopM (R:=List Clash) (fun (s1:List Clash × Int) =>
 (bif decide (s1.2<(a1.Prods.length:Int)) then
 (idx a1.Prods 0).bind fun x5 =>
 (idx a1.Prods s1.2).bind fun x6 =>
 (appO s1.1 [(⟨a1.State,a1.Tok,x5,x6⟩:Clash)]).bind fun x7 =>
 some (.inl (s1.1++[(⟨a1.State,a1.Tok,x5,x6⟩:Clash)],w64 (s1.2+1)))
 else
 some (.inr s1.1))) (([]:List Clash),1)).bind fun x2 =>
 ((bif a1.Accept then
 some (3,0)
 else
 some (1,a1.Shift))).bind fun j8 =>
 (bif decide ((a1.Prods.length:Int)=0) then
 some ((⟨j8.1,j8.2⟩:Act),x2)
 else
 (idx a1.Prods 0).bind fun x11 =>
 ((bif decide (a1.Shift<0) then some (!a1.Accept) else some false)).bind fun c13 =>
 (bif c13 then
 some ((⟨2,x11⟩:Act),x2)
 else
 (pf75 a0 x11 a1.Tok).bind fun x15 =>
 ((bif a1.Accept then some true else some (decide (x15=0)))).bind fun c17 =>
 (bif c17 then
 (appO x2 [(⟨a1.State,a1.Tok,(-1),x11⟩:Clash)]).bind fun x19 =>
 some ((⟨j8.1,j8.2⟩:Act),x2++[(⟨a1.State,a1.Tok,(-1),x11⟩:Clash)])
 else
 (bif decide (x15=2) then
 some ((⟨2,x11⟩:Act),x2)
 else
 (bif decide (x15=3) then
 some ((⟨4,0⟩:Act),x2)
 else
 some ((⟨j8.1,j8.2⟩:Act),x2))))))
structure Dense where
 Acts:(List (List Act))
 Gotos:(List (List Int))
 deriving DecidableEq,Inhabited
def eAct:En Act:=⟨2,fun x=>[I64 x.Kind,I64 x.N],fun _=>rfl,fun _=>NRl.nr⟩
instance:Flat eAct:=⟨fun _=>rfl⟩
instance:OOe eAct:=⟨fun x=>(inferInstance:OOl [I64 x.Kind,I64 x.N])⟩
instance:Tw eAct eAct:=⟨rfl,fun x=>(inferInstance:Vws [I64 x.Kind,I64 x.N] [I64 x.Kind,I64 x.N])⟩
def pf32 (a0:Grammar) (a1:(List State)) (a2:(List Cell)):Option (Dense × (List Clash)) :=
 (loopM (R:=List (List Act) × List (List Int) × List Clash) (fun (s1:List (List Act) × List (List Int) × List Clash × Int) =>
 (bif decide (s1.2.2.2<(a1.length:Int)) then
 (mkO (a0.Toks.length:Int) (⟨0,0⟩:Act)).bind fun x5 =>
 (loopM (R:=List Clash × List Act) (fun (s6:List Clash × List Act × Int) =>
 (bif decide (s6.2.2<(a2.length:Int)) then
 ((idx a2 s6.2.2).bind fun x11 =>
 ((bif decide (x11.State=s1.2.2.2) then
 (idx a2 s6.2.2).bind fun x14 =>
 (pf58 a0 x14).bind fun x15 =>
 (idx a2 s6.2.2).bind fun x16 =>
 (idx s6.2.1 x16.Tok).bind fun x17 =>
 (appO s6.1 x15.2).bind fun x18 =>
 some (s6.1++x15.2,s6.2.1.set x16.Tok.toNat x15.1)
 else
 some (s6.1,s6.2.1))).bind fun j12 =>
 some (j12.1,j12.2)).bind fun j10 =>
 some (.inl (j10.1,j10.2,w64 (s6.2.2+1)))
 else
 some (.inr (s6.1,s6.2.1)))) (s1.2.2.1,x5,0)).bind fun x7 =>
 (mkO (a0.Nons.length:Int) 0).bind fun x19 =>
 (loopM (R:=List Int) (fun (s20:List Int × Int) =>
 (bif decide (s20.2<(s20.1.length:Int)) then
 (pf59 a1 s1.2.2.2 (w64 (1000+s20.2))).bind fun x24 =>
 (idx s20.1 s20.2).bind fun x25 =>
 some (.inl (s20.1.set s20.2.toNat x24,w64 (s20.2+1)))
 else
 some (.inr s20.1))) (x19,0)).bind fun x21 =>
 (appO s1.1 [x7.2]).bind fun x26 =>
 (appO s1.2.1 [x21]).bind fun x27 =>
 some (.inl (s1.1++[x7.2],s1.2.1++[x21],x7.1,w64 (s1.2.2.2+1)))
 else
 some (.inr (s1.1,s1.2.1,s1.2.2.1)))) (([]:List (List Act)),([]:List (List Int)),([]:List Clash),0)).bind fun x2 =>
 some ((⟨x2.1,x2.2.1⟩:Dense),x2.2.2)
def pf48 (a0:(List Cell)):Option (Int) :=
 (loopM (R:=Int) (fun (s1:Int × Int) =>
 (bif decide (s1.2<(a0.length:Int)) then
 ((idx a0 s1.2).bind fun x6 =>
 (pf66 x6).bind fun x7 =>
 ((bif decide (1<x7) then
 some (w64 (s1.1+1))
 else
 some s1.1)).bind fun j8 =>
 some j8).bind fun j5 =>
 some (.inl (j5,w64 (s1.2+1)))
 else
 some (.inr s1.1))) (0,0)).bind fun x2 =>
 some x2
def pf21 (a0:Source):Option (Grammar × Dense × Int × Bool) :=
 (pf30 a0).bind fun x1 =>
 (bif !x1.2.2.2 then
 some (x1.1,(⟨([]:List (List Act)),([]:List (List Int))⟩:Dense),0,false)
 else
 (pf32 x1.1 x1.2.1 x1.2.2.1).bind fun x3 =>
 (pf48 x1.2.2.1).bind fun x4 =>
 some (x1.1,x3.1,x4,true))
structure Pair where
 At:Int
 Val:Int
 deriving DecidableEq,Inhabited
def ePair:En Pair:=⟨2,fun x=>[I64 x.At,I64 x.Val],fun _=>rfl,fun _=>NRl.nr⟩
instance:Flat ePair:=⟨fun _=>rfl⟩
instance:OOe ePair:=⟨fun x=>(inferInstance:OOl [I64 x.At,I64 x.Val])⟩
instance:Tw ePair ePair:=⟨rfl,fun x=>(inferInstance:Vws [I64 x.At,I64 x.Val] [I64 x.At,I64 x.Val])⟩
def pf49 (a0:(List Pair)) (a1:(List Pair)):Option (Bool) :=
 (bif !decide ((a0.length:Int)=(a1.length:Int)) then
 some false
 else
 (loopM (R:=(Unit) ⊕ (Bool)) (fun (s2:Int) =>
 (bif decide (s2<(a0.length:Int)) then
 (idx a0 s2).bind fun x7 =>
 (idx a1 s2).bind fun x8 =>
 (bif !(decide (x7.At=x8.At)&&(decide (x7.Val=x8.Val)&&true)) then
 some (.inr (.inr false))
 else
 some (.inl (w64 (s2+1))))
 else
 some (.inr (.inl ())))) 0).bind fun x3 =>
 (match x3 with
 | .inl x4 =>
 some true
 | .inr x5 =>
 some x5))
structure Row where
 Def:Int
 Pairs:(List Pair)
 deriving DecidableEq,Inhabited
def eRow_0:En Row:=⟨2,fun x=>[I64 x.Def,iR ePair x.Pairs],fun _=>rfl,fun _=>NRl.nr⟩
instance:Flat eRow_0:=⟨fun _=>rfl⟩
instance:Tw eRow_0 eRow_0:=⟨rfl,fun x=>(inferInstance:Vws [I64 x.Def,iR ePair x.Pairs] [I64 x.Def,iR ePair x.Pairs])⟩
def pf22 (a0:(List Row)) (a1:(List Row)):Option (Bool) :=
 (bif !decide ((a0.length:Int)=(a1.length:Int)) then
 some false
 else
 (loopM (R:=(Unit) ⊕ (Bool)) (fun (s2:Int) =>
 (bif decide (s2<(a0.length:Int)) then
 (((idx a0 s2).bind fun x7=>((idx a1 s2).bind fun x8=>(bif !decide (x7.Def=x8.Def) then some true else ((idx a0 s2).bind fun x10=>((idx a1 s2).bind fun x11=>((pf49 x10.Pairs x11.Pairs).bind fun x12=>some (!x12)))))))).bind fun c13 =>
 (bif c13 then
 some (.inr (.inr false))
 else
 some (.inl (w64 (s2+1))))
 else
 some (.inr (.inl ())))) 0).bind fun x3 =>
 (match x3 with
 | .inl x4 =>
 some true
 | .inr x5 =>
 some x5))
def pf50 (a0:(List Int)):Option (Int) :=
 (loopM (R:=Int) (fun (s1:(List (Int × Int)) × Int × Int) =>
 (bif decide (s1.2.2<(a0.length:Int)) then
 ((idx a0 s1.2.2).bind fun x6 =>
 (mgetO kI64 0 s1.1 x6).bind fun x7 =>
 (mputO kI64 s1.1 x6 (w64 (x7+1))).bind fun x8 =>
 (mgetO kI64 0 x8 x6).bind fun x9 =>
 (mgetO kI64 0 x8 s1.2.1).bind fun x10 =>
 ((bif decide (s1.2.1<0) then some true else (bif decide (0<w64 (x9 - x10)) then some true else (bif decide (w64 (x9 - x10)=0) then some (decide (x6<s1.2.1)) else some false)))).bind fun c14 =>
 ((bif c14 then
 some x6
 else
 some s1.2.1)).bind fun j15 =>
 some (x8,j15)).bind fun j5 =>
 some (.inl (j5.1,j5.2,w64 (s1.2.2+1)))
 else
 some (.inr s1.2.1))) (([]:List (Int × Int)),(-1),0)).bind fun x2 =>
 some x2
def pf23 (a0:Dense):Option ((List Row)) :=
 (loopM (R:=List Row) (fun (s1:List Row × Int) =>
 (bif decide (s1.2<(a0.Acts.length:Int)) then
 (idx a0.Acts s1.2).bind fun x5 =>
 (loopM (R:=List Int) (fun (s6:List Int × Int) =>
 (bif decide (s6.2<(x5.length:Int)) then
 ((idx x5 s6.2).bind fun x11 =>
 ((bif decide (x11.Kind=2) then
 (appO s6.1 [x11.N]).bind fun x14 =>
 some (s6.1++[x11.N])
 else
 some s6.1)).bind fun j12 =>
 some j12).bind fun j10 =>
 some (.inl (j10,w64 (s6.2+1)))
 else
 some (.inr s6.1))) (([]:List Int),0)).bind fun x7 =>
 (pf50 x7).bind fun x15 =>
 (loopM (R:=List Pair) (fun (s16:List Pair × Int) =>
 (bif decide (s16.2<(x5.length:Int)) then
 ((idx x5 s16.2).bind fun x21 =>
 ((bif !decide (x21.Kind=0) then (bif !decide (x21.Kind=2) then some true else some (!decide (x21.N=x15))) else some false)).bind fun c24 =>
 ((bif c24 then
 (pf15 x21).bind fun x27 =>
 (appO s16.1 [(⟨s16.2,x27⟩:Pair)]).bind fun x28 =>
 some (s16.1++[(⟨s16.2,x27⟩:Pair)])
 else
 some s16.1)).bind fun j25 =>
 some j25).bind fun j20 =>
 some (.inl (j20,w64 (s16.2+1)))
 else
 some (.inr s16.1))) (([]:List Pair),0)).bind fun x17 =>
 (appO s1.1 [(⟨x15,x17⟩:Row)]).bind fun x29 =>
 some (.inl (s1.1++[(⟨x15,x17⟩:Row)],w64 (s1.2+1)))
 else
 some (.inr s1.1))) (([]:List Row),0)).bind fun x2 =>
 some x2
def pf25 (a0:Dense):Option ((List Row)) :=
 (bif decide ((a0.Gotos.length:Int)=0) then
 some ([]:List Row)
 else
 (idx a0.Gotos 0).bind fun x2 =>
 (loopM (R:=List Row) (fun (s3:List Row × Int) =>
 (bif decide (s3.2<(x2.length:Int)) then
 (loopM (R:=List Int) (fun (s7:List Int × Int) =>
 (bif decide (s7.2<(a0.Gotos.length:Int)) then
 ((idx a0.Gotos s7.2).bind fun x12 =>
 (idx x12 s3.2).bind fun x13 =>
 ((bif decide (0<=x13) then
 (idx x12 s3.2).bind fun x16 =>
 (appO s7.1 [x16]).bind fun x17 =>
 some (s7.1++[x16])
 else
 some s7.1)).bind fun j14 =>
 some j14).bind fun j11 =>
 some (.inl (j11,w64 (s7.2+1)))
 else
 some (.inr s7.1))) (([]:List Int),0)).bind fun x8 =>
 (pf50 x8).bind fun x18 =>
 (loopM (R:=List Pair) (fun (s19:List Pair × Int) =>
 (bif decide (s19.2<(a0.Gotos.length:Int)) then
 ((idx a0.Gotos s19.2).bind fun x24 =>
 (((idx x24 s3.2).bind fun x25=>(bif decide (0<=x25) then ((idx x24 s3.2).bind fun x27=>some (!decide (x27=x18))) else some false))).bind fun c28 =>
 ((bif c28 then
 (idx x24 s3.2).bind fun x31 =>
 (appO s19.1 [(⟨s19.2,x31⟩:Pair)]).bind fun x32 =>
 some (s19.1++[(⟨s19.2,x31⟩:Pair)])
 else
 some s19.1)).bind fun j29 =>
 some j29).bind fun j23 =>
 some (.inl (j23,w64 (s19.2+1)))
 else
 some (.inr s19.1))) (([]:List Pair),0)).bind fun x20 =>
 (appO s3.1 [(⟨x18,x20⟩:Row)]).bind fun x33 =>
 some (.inl (s3.1++[(⟨x18,x20⟩:Row)],w64 (s3.2+1)))
 else
 some (.inr s3.1))) (([]:List Row),0)).bind fun x4 =>
 some x4)
def pf13 :Option (Bool) :=
 (pf21 (⟨{ data:=#[] },([]:List Decl),[(⟨{ data:=#[101] },[(⟨[(⟨(⟨{ data:=#[101] },false,0,0⟩:Sym),{ data:=#[] },0⟩:Part),(⟨(⟨{ data:=#[43] },true,0,0⟩:Sym),{ data:=#[] },0⟩:Part),(⟨(⟨{ data:=#[120] },true,0,0⟩:Sym),{ data:=#[] },0⟩:Part)],(⟨{ data:=#[] },false,0,0⟩:Sym),0⟩:Alt),(⟨[(⟨(⟨{ data:=#[120] },true,0,0⟩:Sym),{ data:=#[] },0⟩:Part)],(⟨{ data:=#[] },false,0,0⟩:Sym),0⟩:Alt)],0⟩:Rule)],{ data:=#[] }⟩:Source)).bind fun x1 =>
 ((bif x1.2.2.2 then ((pf23 x1.2.1).bind fun x3=>((pf22 x3 [(⟨(-1),[(⟨4,2⟩:Pair)]⟩:Row),(⟨2,([]:List Pair)⟩:Row),(⟨(-1),[(⟨0,20001⟩:Pair),(⟨3,4⟩:Pair)]⟩:Row),(⟨(-1),[(⟨4,5⟩:Pair)]⟩:Row),(⟨1,([]:List Pair)⟩:Row)]).bind fun x4=>(bif x4 then ((pf25 x1.2.1).bind fun x6=>((pf22 x6 [(⟨(-1),([]:List Pair)⟩:Row),(⟨2,([]:List Pair)⟩:Row)]).bind fun x7=>(bif x7 then ((pf15 (⟨1,4⟩:Act)).bind fun x9=>(bif decide (x9=5) then ((pf17 (-3)).bind fun x11=>some (decide (x11.Kind=2)&&(decide (x11.N=3)&&true))) else some false)) else some false))) else some false))) else some false)).bind fun c12 =>
 some c12
def pf14 (a0:Int) (a1:Int):Option (Int) :=
 (remO a0 a1).bind fun x1 =>
 ((bif decide (x1<0) then
 some (w64 (x1+a1))
 else
 some x1)).bind fun j2 =>
 some j2
def pf16 (a0:Act):Option (Int) :=
 ((bif decide (a0.Kind=1) then (bif decide (0<=a0.N) then some (decide (a0.N<=19999)) else some false) else some false)).bind fun c3 =>
 (bif c3 then
 some (w64 (a0.N+1))
 else
 ((bif decide (a0.Kind=2) then (bif decide (1<=a0.N) then some (decide (a0.N<=19999)) else some false) else some false)).bind fun c7 =>
 (bif c7 then
 some (w64 (-a0.N))
 else
 ((bif decide (a0.Kind=3) then some (decide (a0.N=0)) else some false)).bind fun c10 =>
 (bif c10 then
 some 20001
 else
 ((bif decide (a0.Kind=4) then some (decide (a0.N=0)) else some false)).bind fun c13 =>
 (bif c13 then
 some 20002
 else
 some 0))))
def pf18 (a0:Int):Option (Act) :=
 ((bif decide (1<=a0) then some (decide (a0<=20000)) else some false)).bind fun c2 =>
 (bif c2 then
 some (⟨1,w64 (a0 - 1)⟩:Act)
 else
 ((bif decide (a0<=(-1)) then some (decide ((-19999)<=a0)) else some false)).bind fun c5 =>
 (bif c5 then
 some (⟨2,w64 (-a0)⟩:Act)
 else
 (bif decide (a0=20001) then
 some (⟨3,0⟩:Act)
 else
 (bif decide (a0=20002) then
 some (⟨4,0⟩:Act)
 else
 some (⟨0,0⟩:Act)))))
def pf3 (a0:Act) (a1:Int) (a2:Int):Option (Bool) :=
 (pf13 ).bind fun x1 =>
 (bif !x1 then
 some false
 else
 (pf14 a2 40100).bind fun x3 =>
 (pf14 a0.Kind 6).bind fun x4 =>
 (((pf15 a0).bind fun x5=>((pf16 a0).bind fun x6=>(bif decide (x5=x6) then ((pf15 (⟨x4,w64 (x3 - 20050)⟩:Act)).bind fun x8=>((pf16 (⟨x4,w64 (x3 - 20050)⟩:Act)).bind fun x9=>(bif decide (x8=x9) then ((pf17 a1).bind fun x11=>((pf18 a1).bind fun x12=>(bif (decide (x11.Kind=x12.Kind)&&(decide (x11.N=x12.N)&&true)) then ((pf17 (w64 (x3 - 20050))).bind fun x14=>((pf18 (w64 (x3 - 20050))).bind fun x15=>some (decide (x14.Kind=x15.Kind)&&(decide (x14.N=x15.N)&&true)))) else some false))) else some false))) else some false)))).bind fun c16 =>
 some c16)
def pf4 (a0:Act) (a1:Int) (a2:Int):Option (Bool) :=
 (pf13 ).bind fun x1 =>
 (bif !x1 then
 some false
 else
 (pf14 a2 40100).bind fun x3 =>
 (loopM (R:=(Unit) ⊕ (Bool)) (fun (s4:Int) =>
 (bif decide (s4<([a1,w64 (x3 - 20050)].length:Int)) then
 (idx [a1,w64 (x3 - 20050)] s4).bind fun x9 =>
 (pf17 x9).bind fun x10 =>
 (pf15 x10).bind fun x11 =>
 (((idx [a1,w64 (x3 - 20050)] s4).bind fun x12=>(bif !decide (x11=x12) then (bif !decide (x11=0) then some true else some (!(decide (x10.Kind=0)&&(decide (x10.N=0)&&true)))) else some false))).bind fun c15 =>
 (bif c15 then
 some (.inr (.inr false))
 else
 some (.inl (w64 (s4+1))))
 else
 some (.inr (.inl ())))) 0).bind fun x5 =>
 (match x5 with
 | .inl x6 =>
 (pf15 a0).bind fun x17 =>
 ((bif decide (x17=0) then some true else ((pf17 x17).bind fun x19=>some (decide (x19.Kind=a0.Kind)&&(decide (x19.N=a0.N)&&true))))).bind fun c20 =>
 some c20
 | .inr x7 =>
 some x7))
def eDecl_1:En Decl:=⟨4,fun x=>[I64 x.Kind,SS x.Tag,oR eSym x.Syms,I64 x.At],fun _=>rfl,fun _=>NRl.nr⟩
instance:Tw eDecl_1 eDecl_0:=⟨rfl,fun x=>(inferInstance:Vws [I64 x.Kind,SS x.Tag,oR eSym x.Syms,I64 x.At] [I64 x.Kind,SS x.Tag,iR eSym x.Syms,I64 x.At])⟩
instance {x:Decl}:Vws (eDecl_1.cells x) [I64 x.Kind,SS x.Tag,iR eSym x.Syms,I64 x.At]:=(inferInstance:Vws [I64 x.Kind,SS x.Tag,oR eSym x.Syms,I64 x.At] [I64 x.Kind,SS x.Tag,iR eSym x.Syms,I64 x.At])
structure yuccalaw0_Gr where
 Nons:Int
 Rules:(List (List Int))
 Levels:(List Int)
 Inner:(List Int)
 Bare:Bool
 deriving DecidableEq,Inhabited
def eyuccalaw0_Gr_0:En yuccalaw0_Gr:=⟨5,fun x=>[I64 x.Nons,iR (eM eI) x.Rules,iR eI x.Levels,iR eI x.Inner,BB x.Bare],fun _=>rfl,fun _=>NRl.nr⟩
instance:Flat eyuccalaw0_Gr_0:=⟨fun _=>rfl⟩
instance:Tw eyuccalaw0_Gr_0 eyuccalaw0_Gr_0:=⟨rfl,fun x=>(inferInstance:Vws [I64 x.Nons,iR (eM eI) x.Rules,iR eI x.Levels,iR eI x.Inner,BB x.Bare] [I64 x.Nons,iR (eM eI) x.Rules,iR eI x.Levels,iR eI x.Inner,BB x.Bare])⟩
instance {x:yuccalaw0_Gr}:Vws (eyuccalaw0_Gr_0.cells x) [I64 x.Nons,iR (eM eI) x.Rules,iR eI x.Levels,iR eI x.Inner,BB x.Bare]:=(inferInstance:Vws [I64 x.Nons,iR (eM eI) x.Rules,iR eI x.Levels,iR eI x.Inner,BB x.Bare] [I64 x.Nons,iR (eM eI) x.Rules,iR eI x.Levels,iR eI x.Inner,BB x.Bare])
def eRule_1:En Rule:=⟨3,fun x=>[SS x.Left,oR eAlt_0 x.Alts,I64 x.At],fun _=>rfl,fun _=>NRl.nr⟩
instance:Tw eRule_1 eRule_0:=⟨rfl,fun x=>(inferInstance:Vws [SS x.Left,oR eAlt_0 x.Alts,I64 x.At] [SS x.Left,iR eAlt_0 x.Alts,I64 x.At])⟩
instance {x:Rule}:Vws (eRule_1.cells x) [SS x.Left,iR eAlt_0 x.Alts,I64 x.At]:=(inferInstance:Vws [SS x.Left,oR eAlt_0 x.Alts,I64 x.At] [SS x.Left,iR eAlt_0 x.Alts,I64 x.At])
theorem w13:pf13=some true:=by kernel_rfl
end Go.Proofs
namespace Go.Own
open Go
variable {α β S R:Type}
abbrev LR (p:S->Prop) (q:R->Prop) (x:S ⊕ R):Prop:=Sum.elim p q x
def Tot (x:Option α) (Φ:α->Prop):Prop:=∃ a,x=some a/\Φ a
namespace Tot
variable {Φ Ψ:α->Prop}
theorem so {a:α}(h:Φ a):Tot (some a) Φ:=⟨a,rfl,h⟩
theorem bi {x:Option β}{f:β->Option α}(h:Tot x fun a=>Tot (f a) Φ):Tot (x.bind f) Φ:=by
 obtain ⟨a,rfl,b,hb,hΦ⟩:=h
 exact ⟨b,hb,hΦ⟩
theorem sm {f:β->Option α}{a:β}(h:Tot (f a) Φ):Tot ((some a).bind f) Φ:=h
theorem use {x:Option α}(h:Tot x Ψ) (hi:∀ a,Ψ a->Φ a):Tot x Φ:=by
 obtain ⟨a,ha,hΨ⟩:=h
 exact ⟨a,ha,hi a hΨ⟩
theorem by' {x:Option β}{f:β->Option α}{Ξ:β->Prop}(h:Tot x Ξ) (hk:∀ a,Ξ a->Tot (f a) Φ):Tot (x.bind f) Φ:=bi (h.use hk)
theorem cd {c:Bool}{a b:Option α}(ht:c=true->Tot a Φ) (hf:c=false->Tot b Φ):Tot (cond c a b) Φ:=by
 cases c
 ·exact hf rfl
 ·exact ht rfl
theorem ap {Φ:List α->Prop}{l m:List α}(h:l.length+m.length<=lim) (hk:Φ (l++m)):Tot (appO l m) Φ:=by
 refine ⟨l++m,?_,hk⟩
 unfold appO
 rw [if_pos h]
theorem loop {f:S->Option (S ⊕ R)}{s0:S}{Ψ:R->Prop}(Inv:S->Prop) (μ:S->Nat) (h0:Inv s0) (hμ:μ s0<fuel)
  (hs:∀ s,Inv s->Tot (f s) (LR (fun s'=>Inv s'/\μ s'<μ s) Ψ)):Tot (loopM f s0) Ψ:=by
 have key:∀ n s,Inv s->μ s<n->Tot (iter f n s) Ψ:=by
  intro n
  induction n with
  | zero=>intro s _ h; omega
  | succ n ih =>
   intro s hI hm
   obtain ⟨x,hx,hP⟩:=hs s hI
   cases x with
   | inl s' =>
    obtain ⟨h1,h2⟩:=hP
    simp only [iter,hx]
    exact ih s' h1 (by omega)
   | inr r =>
    simp only [iter,hx]
    exact ⟨r,rfl,hP⟩
 exact key fuel s0 h0 hμ
theorem count {f:S->Option (S ⊕ R)}{s0:S}{Ψ:R->Prop}(i:S->Int) (n:Int) (Inv:S->Prop) (h0:Inv s0) (hn:n - i s0<1000000000000000000)
  (hs:∀ s,Inv s->Tot (f s) (LR (fun s'=>Inv s'/\i s<i s'/\i s'<=n) Ψ)):Tot (loopM f s0) Ψ:=by
 refine loop Inv (fun s=>(n - i s).toNat) h0 (by show (n - i s0).toNat<1000000000000000000; omega) fun s hI=>(hs s hI).use fun x hx=>?_
 cases x with
 | inl s'=>exact ⟨hx.1,by have:=hx.2; show (n - i s').toNat<(n - i s).toNat; omega⟩
 | inr r=>exact hx
end Tot
theorem w64_eq (n:Int):w64 n=(n+9223372036854775808) % 18446744073709551616 - 9223372036854775808:=IntKind.wrap_i64 n
namespace Tot
theorem cat {Φ:ByteArray->Prop}{s u:ByteArray}(h:s.size+u.size<=4611686018427387904) (hk:Φ (s++u)):Tot (catO s u) Φ:=by
 refine ⟨s++u,?_,hk⟩
 unfold catO
 rw [if_pos h]
theorem cut {Φ:ByteArray->Prop}{s:ByteArray}{m n:Int}(h:0<=m/\m<=n/\n<=s.size) (hk:Φ (cutS s m n)):Tot (cutO s m n) Φ:=by
 refine ⟨_,?_,hk⟩
 unfold cutO
 rw [if_pos h]
theorem sub {Φ:List α->Prop}{l:List α}{m n:Int}(h:0<=m/\m<=n/\n<=l.length) (hk:Φ ((l.drop m.toNat).take (n - m).toNat)):Tot (subO l m n) Φ:=by
 refine ⟨_,?_,hk⟩
 unfold subO
 rw [if_pos h]
theorem rem {Φ:Int->Prop}{m n:Int}(h:n≠0) (hk:Φ (m.tmod n)):Tot (remO m n) Φ:=by
 refine ⟨_,?_,hk⟩
 unfold remO
 rw [if_neg h]
theorem quo {Φ:Int->Prop}{m n:Int}(h:n≠0) (hk:Φ (w64 (m.tdiv n))):Tot (quoO m n) Φ:=by
 refine ⟨_,?_,hk⟩
 unfold quoO
 rw [if_neg h]
theorem remU {Φ:Int->Prop}{m n:Int}(h:n≠0) (hk:Φ (m.tmod n)):Tot (Own.remU m n) Φ:=by
 refine ⟨_,?_,hk⟩
 unfold Own.remU
 rw [if_neg h]
theorem quoU {Φ:Int->Prop}{m n:Int}(h:n≠0) (hk:Φ (IntKind.u64.wrap (m.tdiv n))):Tot (Own.quoU m n) Φ:=by
 refine ⟨_,?_,hk⟩
 unfold Own.quoU
 rw [if_neg h]
theorem mk {Φ:List α->Prop}{m:Int}{z:α}(h:0<=m/\m<=lim) (hk:Φ (List.replicate m.toNat z)):Tot (mkO m z) Φ:=by
 refine ⟨_,?_,hk⟩
 unfold mkO
 rw [if_pos h]
theorem ex {x:Option α}{Φ:α->Prop}(h:Tot x Φ):∃ a,x=some a/\Φ a:=h
end Tot
namespace Tot
theorem scan {f:Int->Option (Int ⊕ (Unit ⊕ R))}(l:List β) (P:β->Prop) (Q:R->Prop) (hl:l.length<=100000000000000000)
  (hs:∀ (s:Int) (y:β),0<=s->s<l.length->idx l s=some y->y∈l->Tot (f s) (LR (fun s'=>s'=s+1/\P y) (LR (fun _=>False) Q)))
  (he:∀ s:Int,¬ s<l.length->f s=some (.inr (.inl ()))):Tot (loopM f 0) (LR (fun _=>∀ y∈l,P y) Q):=by
 refine count (fun s=>s) l.length (fun s=>0<=s/\s<=l.length/\∀ (j:Nat) (y:β),(j:Int)<s->l[j]?=some y->P y) ⟨by omega,by omega,fun j y h=>by omega⟩ (by show (l.length:Int) - 0<_; omega) fun s hI=>?_
 obtain ⟨h0,h1,h2⟩:=hI
 by_cases hlt:s<l.length
 ·have hlt':s.toNat<l.length:=by omega
  have hi:idx l s=some l[s.toNat]:=by simp [idx,h0,hlt']
  refine (hs s _ h0 hlt hi (List.getElem_mem hlt')).use fun x hx=>?_
  rcases x with s' | ⟨⟨⟩⟩ | r
  ·obtain ⟨rfl,hP⟩:=hx
   refine ⟨⟨by omega,by omega,fun j y hj hy=>?_⟩,by show s<s+1; omega,by show s+1<=_; omega⟩
   by_cases hjs:(j:Int)<s
   ·exact h2 j y hjs hy
   ·have:j=s.toNat:=by omega
    subst this
    rw [List.getElem?_eq_getElem hlt'] at hy
    cases hy; exact hP
  ·exact hx.elim
  ·exact hx
 ·rw [he s hlt]
  refine so fun y hy=>?_
  obtain ⟨j,hj,rfl⟩:=List.mem_iff_getElem.1 hy
  exact h2 j _ (by omega) (List.getElem?_eq_getElem hj)
end Tot
end Go.Own
namespace Go.Proofs
open Go Go.Own
set_option maxRecDepth 100000
set_option linter.unusedVariables false
theorem e15 (a:Act):pf15 a=pf16 a:=by
 have h1:decide (a.N<20000)=decide (a.N<=19999):=decide_eq_decide.2 (by omega)
 have h2:decide (0<a.N)=decide (1<=a.N):=decide_eq_decide.2 (by omega)
 unfold pf15 pf16
 rw [h1,h2]
theorem e17 (n:Int):pf17 n=pf18 n:=by
 have h1:decide (0<n)=decide (1<=n):=decide_eq_decide.2 (by omega)
 have h2:decide (n<0)=decide (n<=-1):=decide_eq_decide.2 (by omega)
 have h3:decide (-20000<n)=decide (-19999<=n):=decide_eq_decide.2 (by omega)
 unfold pf17 pf18
 rw [h1,h2,h3]
theorem t16 (a:Act):Tot (pf16 a) fun _=>True:=by
 unfold pf16
 repeat' first | apply Tot.bi | refine Tot.cd (fun _=>?_) (fun _=>?_) | exact Tot.so trivial | apply Tot.so
theorem t18 (n:Int):Tot (pf18 n) fun _=>True:=by
 unfold pf18
 repeat' first | apply Tot.bi | refine Tot.cd (fun _=>?_) (fun _=>?_) | exact Tot.so trivial | apply Tot.so
theorem t14 (i n:Int) (h:n≠0):Tot (pf14 i n) fun _=>True:=by
 unfold pf14
 refine .by' (Ξ:=fun _=>True) (Tot.rem h trivial) fun x _=>?_
 repeat' first | apply Tot.bi | refine Tot.cd (fun _=>?_) (fun _=>?_) | exact Tot.so trivial | apply Tot.so
theorem t3 (a:Act) (n k:Int):pf3 a n k=some true:=by
 unfold pf3
 rw [w13]
 obtain ⟨x3,e3,_⟩:=t14 k 40100 (by decide)
 obtain ⟨x4,e4,_⟩:=t14 a.Kind 6 (by decide)
 simp only [Option.bind_some,Bool.not_true,cond_false,e3,e4,e15,e17]
 obtain ⟨x5,e5,_⟩:=t16 a
 obtain ⟨x6,e6,_⟩:=t16 ⟨x4,w64 (x3 - 20050)⟩
 obtain ⟨x7,e7,_⟩:=t18 n
 obtain ⟨x8,e8,_⟩:=t18 (w64 (x3 - 20050))
 simp [e5,e6,e7,e8]
theorem c17 (n:Int):∃ b c,pf18 n=some b/\pf16 b=some c/\(c=n\/(c=0/\b=⟨0,0⟩)):=by
 by_cases h1:1<=n/\n<=20000
 ·have e:w64 (n - 1)=n - 1:=by rw [w64_eq]; omega
  have e2:w64 (n - 1+1)=n:=by rw [w64_eq]; omega
  refine ⟨⟨1,n - 1⟩,n,?_,?_,.inl rfl⟩
  ·simp [pf18,h1,e]
  ·have:0<=n - 1/\n - 1<=19999:=by omega
   have e3:w64 n=n:=by rw [w64_eq]; omega
   simp [pf16,h1,this,e3]
 ·by_cases h2:n<=-1/\-19999<=n
  ·have e:w64 (-n)=-n:=by rw [w64_eq]; omega
   have e2:w64 n=n:=by rw [w64_eq]; omega
   have h3:¬ 1<=n:=by omega
   refine ⟨⟨2,-n⟩,n,?_,?_,.inl rfl⟩
   ·simp [pf18,h2,h3,e]
   ·have:1<=-n/\-n<=19999:=by omega
    simp [pf16,this,e2]
  ·by_cases h3:n=20001
   ·subst h3; exact ⟨⟨3,0⟩,20001,by decide,by decide,.inl rfl⟩
   ·by_cases h4:n=20002
    ·subst h4; exact ⟨⟨4,0⟩,20002,by decide,by decide,.inl rfl⟩
    ·refine ⟨⟨0,0⟩,0,?_,by decide,.inr ⟨rfl,rfl⟩⟩
     have f1:(decide (1<=n)&&decide (n<=20000))=false:=by simp; omega
     have f2:(decide (n<=-1)&&decide (-19999<=n))=false:=by simp; omega
     have g1:(bif decide (1<=n) then some (decide (n<=20000)) else some false)=some (decide (1<=n)&&decide (n<=20000)):=by cases decide (1<=n) <;> rfl
     have g2:(bif decide (n<=-1) then some (decide (-19999<=n)) else some false)=some (decide (n<=-1)&&decide (-19999<=n)):=by cases decide (n<=-1) <;> rfl
     unfold pf18
     rw [g1,f1,g2,f2]
     simp [h3,h4]
theorem c15 (a:Act):∃ c,pf16 a=some c/\(c=0\/pf18 c=some a):=by
 obtain ⟨c,hc,_⟩:=t16 a
 refine ⟨c,hc,?_⟩
 obtain ⟨K,N⟩:=a
 have g:∀ p q:Prop,∀ [Decidable p] [Decidable q],(bif decide p then some (decide q) else some false)=some (decide (p/\q)):=fun p q _ _=>by
  by_cases hp:p <;> simp [hp]
 by_cases h1:K=1/\0<=N/\N<=19999
 ·obtain ⟨rfl,h1⟩:=h1
  have e:w64 (N+1)=N+1:=by rw [w64_eq]; omega
  have e2:w64 (N+1 - 1)=N:=by rw [w64_eq]; omega
  simp [pf16,h1,e] at hc
  subst hc
  have h2:1<=N+1/\N+1<=20000:=by omega
  have e3:w64 N=N:=by rw [w64_eq]; omega
  exact .inr (by simp [pf18,h2,e3])
 ·by_cases h2:K=2/\1<=N/\N<=19999
  ·obtain ⟨rfl,h2⟩:=h2
   have e:w64 (-N)=-N:=by rw [w64_eq]; omega
   have e2:w64 N=N:=by rw [w64_eq]; omega
   simp [pf16,h2,e] at hc
   subst hc
   have h3:¬ 1<=-N:=by omega
   have h4:-N<=-1/\-19999<=-N:=by omega
   exact .inr (by simp [pf18,h3,h4,e2])
  ·by_cases h3:K=3/\N=0
   ·obtain ⟨rfl,rfl⟩:=h3
    have:pf16 ⟨3,0⟩=some 20001:=by decide
    rw [this] at hc; cases hc
    exact .inr (by decide)
   ·by_cases h4:K=4/\N=0
    ·obtain ⟨rfl,rfl⟩:=h4
     have:pf16 ⟨4,0⟩=some 20002:=by decide
     rw [this] at hc; cases hc
     exact .inr (by decide)
    ·refine .inl ?_
     have k1:(bif decide (K=1) then (bif decide (0<=N) then some (decide (N<=19999)) else some false) else some false)=some false:=by
      rw [g]; by_cases h:K=1
      ·have:=fun h'=>h1 ⟨h,h'⟩
       simp [h]; omega
      ·simp [h]
     have k2:(bif decide (K=2) then (bif decide (1<=N) then some (decide (N<=19999)) else some false) else some false)=some false:=by
      rw [g]; by_cases h:K=2
      ·have:=fun h'=>h2 ⟨h,h'⟩
       simp [h]; omega
      ·simp [h]
     have k3:(bif decide (K=3) then some (decide (N=0)) else some false)=some false:=by rw [g]; simp [h3]
     have k4:(bif decide (K=4) then some (decide (N=0)) else some false)=some false:=by rw [g]; simp [h4]
     unfold pf16 at hc
     rw [k1,k2,k3,k4] at hc
     simpa using hc.symm
theorem t4 (a:Act) (n k:Int):pf4 a n k=some true:=by
 unfold pf4
 rw [w13]
 obtain ⟨x3,e3,_⟩:=t14 k 40100 (by decide)
 simp only [Option.bind_some,Bool.not_true,cond_false,e3]
 generalize w64 (x3 - 20050)=m
 have one:∀ y:Int,∃ b c,pf17 y=some b/\pf15 b=some c/\((bif !decide (c=y) then (bif !decide (c=0) then some true else some (!(decide (b.Kind=0)&&(decide (b.N=0)&&true)))) else some false):Option Bool)=some false:=fun y=>by
  obtain ⟨b,c,h1,h2,h3⟩:=c17 y
  refine ⟨b,c,by rw [e17,h1],by rw [e15,h2],?_⟩
  rcases h3 with rfl | ⟨rfl,rfl⟩
  ·simp
  ·by_cases h:(0:Int)=y <;> simp [h]
 obtain ⟨b1,c1,p1,q1,r1⟩:=one n
 obtain ⟨b2,c2,p2,q2,r2⟩:=one m
 obtain ⟨c,hc,hd⟩:=c15 a
 have w1:w64 (0+1)=1:=by decide
 have w2:w64 (1+1)=2:=by decide
 have hl:Tot (loopM (R:=Unit ⊕ Bool) (fun s4:Int=>(bif decide (s4<([n,m].length:Int)) then
   (idx [n,m] s4).bind fun x9=>(pf17 x9).bind fun x10=>(pf15 x10).bind fun x11 =>
   (((idx [n,m] s4).bind fun x12=>(bif !decide (x11=x12) then (bif !decide (x11=0) then some true else some (!(decide (x10.Kind=0)&&(decide (x10.N=0)&&true)))) else some false))).bind fun c15 =>
   (bif c15 then some (.inr (.inr false)) else some (.inl (w64 (s4+1))))
  else some (.inr (.inl ())))) 0) (LR (fun _=>∀ y∈[n,m],True) fun _=>False):=by
  refine Tot.scan [n,m] (fun _=>True) (fun _=>False) (by simp) (fun s y h0 h1 hi _=>?_) (fun s h=>by rw [decide_eq_false h]; rfl)
  obtain ⟨b,c,p,q,r⟩:=one y
  have e:w64 (s+1)=s+1:=by
   have:s<2:=h1
   rw [w64_eq]; omega
  rw [decide_eq_true h1,hi]
  simp only [cond_true,Option.bind_some,p,q,r,cond_false,e]
  exact .so ⟨rfl,trivial⟩
 obtain ⟨x,hx,hq⟩:=hl
 rw [hx]
 rcases x with x | x
 case inr=>exact hq.elim
 simp only [Option.bind_some,e15,hc,e17]
 rcases hd with rfl | hd
 ·rfl
 ·rw [hd]
  cases decide (c=0) <;> simp
end Go.Proofs
