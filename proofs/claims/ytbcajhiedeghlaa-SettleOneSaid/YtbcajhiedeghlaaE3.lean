/-
  What is proved here: parts of the proof that the last text states: rules for walks through code, and of this program's functions what they answer. No condition of their own.
-/
import Derived.ChangeAt
import Derived.ChangeOld
import Derived.ChangeSame
import Derived.Deep.Draws
import Derived.Deep.LoopGhost
import Derived.Deep.Slices
import Derived.KernelRfl
import Derived.Laws.CopyRow
import Derived.Lib.SliceRun
import Derived.Lib.SlicesCompact
import Derived.Lib.Walk
import Derived.Maps.OwnIn
import Derived.ReadAgain
import Derived.RowKit3
import Derived.Shelf.RegionOpenPlain
import Derived.Shelf.SlLaysQ
import Derived.Shelf.SlSortCmp.NoneTotal
import Derived.Shelf.SlicesE.Kit
import Derived.Shelf.SlicesQ.Load
import Derived.Sort.WalkB12
import Derived.StringKeys
import Derived.Test.YtbcajhiedeghlaaRows
import Derived.WalkKit
import Derived.WideShapes
import Derived.Test.YtbcajhiedeghlaaE2
namespace Go.Own
open Go Go.RowKit Go.ChangeShapes Go.WideShapes Go.Deep
variable {α β HQ:Type}{P:Program}
abbrev qQ (w:World) (y:ag) (u:Value):Prop:=R w (λb=>b<w.heap.size) (λ_ _=>False) y u (λ_=>False)
def l3 (w:World) (ys:List ag) (cs:List Value):Prop :=
 ys.length=cs.length/\∀ (k:Nat) (y:ag) (u:Value),ys[k]?=some y->cs[k]?=some u->u.oneCell'=true/\qQ w y u
theorem l3.nil {w:World}:l3 w [] []:=⟨rfl,λ_ _ _ h=>by simp at h⟩
theorem l3.one {w:World}{y:ag}{u:Value}(h1:u.oneCell'=true) (h:qQ w y u):l3 w [y] [u] :=
 ⟨rfl,λk y' sM ay hu=>by
  cases k with
  | zero=>simp at ay hu; subst ay hu; exact ⟨h1,h⟩
  | succ k=>simp at ay⟩
theorem l3.app {w:World}{ys v':List ag}{cs jz:List Value}(h:l3 w ys cs) (al:l3 w v' jz):l3 w (ys++v') (cs++jz):=by
 refine ⟨by simp [h.1,al.1],λk y u ay hu=>?_⟩
 by_cases hk:k<ys.length
 ·rw [List.getElem?_append_left hk] at ay
  rw [List.getElem?_append_left (h.1 ▸ hk)] at hu
  exact h.2 k y u ay hu
 ·rw [List.getElem?_append_right (by omega)] at ay
  rw [List.getElem?_append_right (by have:=h.1; omega),<- h.1] at hu
  exact al.2 _ y u ay hu
structure lA (P:Program) (e:cx α) (t:TypeId) (ok:α->Prop):Prop where
 z:P.cellsOf t=e.z
 go:∀ {H:Type}{enc:TypeId × Value->H}{w:World}{n:Nat}{cs:List Value}{x:DataW H × List MemPlace},
  DataW.trod enc P w 0 (λ_=>true) true n t cs=some x->∃ a,ok a/\l3 w (e.cells a) cs
theorem lA.int {e:cx Int}{t:TypeId}{k:IntKind}(aG:P.underlying t=some (.int k)) (bG:P.cellsOf t=e.z) (he:∀ n,e.cells n=[.lit (.int k n)]) :
  lA P e t (λn=>(Lit.int k n).wf=true):=by
 refine ⟨bG,λh=>?_⟩
 obtain ⟨n,rfl,_,hw⟩:=DataW.trod_int aG h
 exact ⟨n,hw,he n ▸ l3.one rfl (.lit rfl λ_ h=>h)⟩
theorem lA.bool {e:cx Bool}{t:TypeId}(aG:P.underlying t=some .bool) (bG:P.cellsOf t=e.z) (he:∀ n,e.cells n=[.lit (.bool n)]) :
  lA P e t (λ_=>True):=by
 refine ⟨bG,λh=>?_⟩
 obtain ⟨n,rfl,_⟩:=DataW.trod_bool aG h
 exact ⟨n,trivial,he n ▸ l3.one rfl (.lit rfl λ_ h=>h)⟩
theorem LU (e:cx α) (bG:0<e.z):∀ (l:List α) (k:Nat) (y:ag),(cf e l)[k]?=some y->∃ a,l[k / e.z]?=some a/\(e.cells a)[k % e.z]?=some y
 | [],k,y,h=>by simp [cf] at h
 | a::l,k,y,h=>by
  have he:cf e (a::l)=e.cells a++cf e l:=by simp [cf]
  rw [he] at h
  by_cases hk:k<e.z
  ·rw [List.getElem?_append_left (by rw [e.len]; exact hk)] at h
   exact ⟨a,by simp [Nat.div_eq_of_lt hk],by rw [Nat.mod_eq_of_lt hk]; exact h⟩
  ·rw [List.getElem?_append_right (by rw [e.len]; omega),e.len] at h
   obtain ⟨b,h1,al⟩:=LU e bG l (k - e.z) y h
   have aV:k / e.z=(k - e.z) / e.z+1:=by rw [Nat.div_eq_sub_div bG (by omega)]
   refine ⟨b,by rw [aV]; simpa using h1,?_⟩
   rw [Nat.mod_eq_sub_mod (by omega)]; exact al
theorem lA.slice {e:cx α}{t Di:TypeId}{ok:α->Prop}(h:lA P e Di ok) (aG:P.underlying t=some (.slice Di)) (bG:P.cellsOf t=1) (tB:0<e.z) :
  lA P (b5 e) t (λl=>l.length<=maxLen/\∀ x∈l,ok x):=by
 classical
 refine ⟨bG,λ{H enc w n cs x} aw=>?_⟩
 rcases open_slice aG aw with ⟨rfl,rfl⟩ | ⟨a,len,cap,m,cT,D,oA,rfl,aI,ao,hm,FD,rfl,J⟩
 ·exact ⟨[],⟨by simp,by simp⟩,l3.one rfl (.hM λ_ h=>h)⟩
 ·have RG:m=cap:=by simpa using FD
  subst RG
  have hex:∀ i,i<len->∃ q:α × List Value,ok q.1/\l3 w (e.cells q.1) q.2/\w.cells? 0 (a.add (i * P.cellsOf Di)) (P.cellsOf Di)=some q.2:=λi hi=>by
   obtain ⟨cs',h1,al⟩:=J i (by omega)
   obtain ⟨b,ds,cX⟩:=h.go al
   exact ⟨(b,cs'),ds,cX,h1⟩
  by_cases bc:len=0
  ·subst bc
   exact ⟨[],⟨by simp,by simp⟩,l3.one rfl (.hM λ_ h=>h)⟩
  ·obtain ⟨tT,_⟩:=hex 0 (by omega)
   haveI:Inhabited (α × List Value):=⟨tT⟩
   obtain ⟨f,bj⟩:=choose_lt hex
   have hlen:((List.range len).map λi=>(f i).1).length=len:=by simp
   have oS:∀ (i:Nat) (b:α),((List.range len).map λi=>(f i).1)[i]?=some b->i<len/\b=(f i).1:=λi b hi=>by
    have bd:=(List.getElem?_eq_some_iff.1 hi).1
    simp at bd
    simp [bd] at hi
    exact ⟨bd,hi.symm⟩
   have kO:a.spot=none/\a.block<w.heap.size:=by
    obtain ⟨_,_,aR⟩:=bj 0 (by omega)
    obtain ⟨_,Fy,c3⟩:=World.cells?_some aR
    have eg:=c3 0 (by rw [h.z]; exact tB)
    simp only [Nat.zero_mul,Addr.add,if_true] at eg
    have:0<(f 0).2.length:=by rw [Fy,h.z]; exact tB
    rw [List.getElem?_eq_getElem this] at eg
    unfold World.cell? at eg
    split at eg
    ·rename_i b9
     refine ⟨?_,(Array.getElem?_eq_some_iff.1 b9).1⟩
     cases aP:a.spot with
     | none=>rfl
     | some s=>simp [aP] at eg
    ·cases eg
   have key:∀ (k:Nat) (y:ag),(cf e ((List.range len).map λi=>(f i).1))[k]?=some y->∃ u,w.cell? ⟨a.block,a.off+k,none⟩=some u/\u.oneCell'=true/\qQ w y u:=λk y hk=>by
    obtain ⟨b,ds,cX⟩:=LU e tB _ k y hk
    obtain ⟨hi,rfl⟩:=oS _ _ ds
    obtain ⟨_,al,aR⟩:=bj _ hi
    obtain ⟨_,Fy,c3⟩:=World.cells?_some aR
    have Kz:k % e.z<e.z:=Nat.mod_lt _ tB
    have eg:=c3 (k % e.z) (by rw [h.z]; exact Kz)
    rw [Deep.add_add,h.z] at eg
    have gQ:k / e.z * e.z+k % e.z=k:=by rw [Nat.mul_comm]; exact Nat.div_add_mod k e.z
    rw [gQ] at eg
    have bd:k % e.z<(f (k / e.z)).2.length:=by rw [Fy,h.z]; exact Kz
    rw [List.getElem?_eq_getElem bd] at eg
    have bg:a.add k=⟨a.block,a.off+k,none⟩:=by
     unfold Addr.add
     split
     ·rename_i PO; subst PO; cases a; simp at kO ⊢; exact kO.1
     ·rfl
    rw [bg] at eg
    exact ⟨_,eg,al.2 _ _ _ cX (List.getElem?_eq_getElem bd)⟩
   refine ⟨(List.range len).map λi=>(f i).1,⟨by rw [hlen]; omega,λy ay=>?_⟩,l3.one rfl ?_⟩
   ·obtain ⟨i,hi,rfl⟩:=List.mem_map.1 ay
    exact (bj i (List.mem_range.1 hi)).1
   ·show qQ w (.aD e.z _ _) _
    rw [hlen]
    refine .aD (us:=λk=>(w.cell? ⟨a.block,a.off+k,none⟩).getD .nilFunc) (λ_ h=>h) ao kO.2 kO.1 (by rw [nI,hlen]) (λk y hk=>?_) (λk y hk=>?_) (λk y hk=>?_)
    ·obtain ⟨u,h1,al,aR⟩:=key k y hk
     simp only [h1,Option.getD_some]; exact al
    ·obtain ⟨u,h1,al,aR⟩:=key k y hk
     simp only [h1,Option.getD_some]
    ·obtain ⟨u,h1,al,aR⟩:=key k y hk
     simp only [h1,Option.getD_some]; exact aR
def yM (P:Program):Nat->List Field->List TypeId->Bool
 | _,[],[]=>true
 | off,f::fs,t::gG=>decide (f.type=t)&&decide (f.offset=off)&&yM P (off+P.cellsOf t) fs gG
 | _,_,_=>false
def AO (P:Program) (t:TypeId) (gG:List TypeId):Bool :=
 match P.underlying t with
 | some (.struct fs)=>yM P 0 fs.toList gG&&decide (P.cellsOf t=(gG.map P.cellsOf).sum)
 | _=>false
structure wa (P:Program) (cells:β->List ag) (gG:List TypeId) (ok:β->Prop):Prop where
 go:∀ {H:Type}{enc:TypeId × Value->H}{w:World}{n:Nat}{cs:List Value}{fs:List Field}{off:Nat},yM P off fs gG=true->cs.length=off+(gG.map P.cellsOf).sum ->
  (∀ (i:Nat) (f:Field),fs[i]?=some f->∃ x,DataW.trod enc P w 0 (λ_=>true) true n f.type ((cs.drop f.offset).take (P.cellsOf f.type))=some x) ->
  ∃ b,ok b/\l3 w (cells b) (cs.drop off)
theorem wa.nil:wa P (λ_:Unit=>[]) [] (λ_=>True) :=
 ⟨λ{H enc w n cs fs off} _ ao _=>⟨(),trivial,by rw [List.drop_eq_nil_of_le (by simp at ao; omega)]; exact l3.nil⟩⟩
theorem wa.cons {e:cx α}{t:TypeId}{gG:List TypeId}{ok:α->Prop}{cells:β->List ag}{Lo:β->Prop}(h:lA P e t ok) (ao:wa P cells gG Lo) :
  wa P (λp:α × β=>e.cells p.1++cells p.2) (t::gG) (λp=>ok p.1/\Lo p.2):=by
 refine ⟨λ{H enc w n cs fs off} ij hlen aw=>?_⟩
 cases fs with
 | nil=>simp [yM] at ij
 | cons f fs =>
  simp only [yM,Bool.and_eq_true,decide_eq_true_eq] at ij
  obtain ⟨⟨rfl,rfl⟩,ij⟩:=ij
  obtain ⟨x,J⟩:=aw 0 f rfl
  obtain ⟨a,bg,bh⟩:=h.go J
  obtain ⟨b,aI,Qx⟩:=ao.go (off:=f.offset+P.cellsOf f.type) (cs:=cs) ij (by rw [hlen]; simp [Nat.add_assoc]) (λi PB tr=>aw (i+1) PB (by simpa using tr))
  refine ⟨(a,b),⟨bg,aI⟩,?_⟩
  have:cs.drop f.offset=(cs.drop f.offset).take (P.cellsOf f.type)++cs.drop (f.offset+P.cellsOf f.type):=by
   rw [<- List.drop_drop]; exact (List.take_append_drop _ _).symm
  rw [this]
  exact bh.app Qx
theorem lA.struct {e:cx HQ}{t:TypeId}{gG:List TypeId}{cells:β->List ag}{ok:β->Prop}(h:wa P cells gG ok) (mk:β->HQ) (un:HQ->β) (KQ:∀ b,un (mk b)=b) (ab:∀ b,e.cells (mk b)=cells b) (aG:AO P t gG=true) (bG:P.cellsOf t=e.z) :
  lA P e t (λs=>ok (un s)):=by
 refine ⟨bG,λ{H enc w n cs x} aw=>?_⟩
 unfold AO at aG
 split at aG
 ·rename_i fs hu
  simp only [Bool.and_eq_true,decide_eq_true_eq] at aG
  obtain ⟨xs,cT,rfl,rfl,ao,F4,J⟩:=DataW.trod_struct hu aw
  obtain ⟨b,aI,bh⟩:=h.go (w:=w) (off:=0) (cs:=cs) (fs:=fs.toList) (n:=cT) (enc:=enc) aG.1 (by rw [ao,aG.2]; simp) (λi f bj=>by
   have tr:fs[i]?=some f:=by simpa using bj
   have hi:i<xs.length:=by rw [F4]; exact (Array.getElem?_eq_some_iff.1 tr).1
   exact ⟨xs[i],by rw [J i f tr,List.getElem?_eq_getElem hi]⟩)
  exact ⟨mk b,by rw [KQ]; exact aI,by rw [ab]; simpa using bh⟩
 ·cases aG
inductive A6 (w:World):ag->Value->Prop
 | mk {y:ag}{v:Value}(h:qQ w y v):A6 w y v
theorem lA.one {e:cx α}{t:TypeId}{ok:α->Prop}{g:α->ag}(h:lA P e t ok) (he:∀ a,e.cells a=[g a]) {H:Type}{enc:TypeId × Value->H}{w:World}{v:Value}{d:DataW H}{p:List MemPlace}(hv:v.cells.toList=[v])
  (aG:DataW.Trod enc P w 0 (λ_=>true) true t v d p):∃ a,ok a/\A6 w (g a) v:=by
 obtain ⟨n,aN⟩:=aG
 obtain ⟨a,bg,bh⟩:=h.go aN
 refine ⟨a,bg,.mk ?_⟩
 rw [hv,he] at bh
 exact (bh.2 0 _ _ rfl rfl).2
theorem lA.Tj {e:cx α}{t:TypeId}{ok:α->Prop}{gG:List TypeId}(h:lA P e t ok) (ij:AO P t gG=true) {H:Type}{enc:TypeId × Value->H}{w:World}{v:Value}{d:DataW H}{p:List MemPlace}{base:Nat}(hv:Value.okWide P w .any base t v)
  (aG:DataW.Trod enc P w 0 (λ_=>true) true t v d p):∃ a,ok a/\A6 w (.agg (e.cells a)) v:=by
 have hu:∃ fs,P.underlying t=some (.struct fs):=by
  unfold AO at ij
  split at ij
  ·exact ⟨_,by assumption⟩
  ·cases ij
 obtain ⟨fs,hu⟩:=hu
 obtain ⟨cs,rfl,hx⟩:=okWide_struct hu hv
 obtain ⟨n,aN⟩:=aG
 obtain ⟨a,bg,bh⟩:=h.go aN
 refine ⟨a,bg,.mk ?_⟩
 have jg:l3 w (e.cells a) cs.toList:=bh
 refine .agg (Fs:=λ_ _=>False) (by simpa using jg.1) (λk u hu=>?_) (λk x u J hu=>(jg.2 k x u J (by simpa using hu)).2) (λ_ _ _ _ _ h=>h.elim) (λc=>⟨λh=>h.elim,λ⟨_,_,h⟩=>h⟩)
 have hk:k<(e.cells a).length:=by rw [jg.1]; simpa using (Array.getElem?_eq_some_iff.1 hu).1
 exact (jg.2 k _ u (List.getElem?_eq_getElem hk) (by simpa using hu)).1
inductive sT (w:World):List ag->List Value->Prop
 | nil:sT w [] []
 | cons {y:ag}{v:Value}{ys:List ag}{vs:List Value}(h:A6 w y v) (aP:sT w ys vs):sT w (y::ys) (v::vs)
theorem sT.get {w:World}{ys:List ag}{vs:List Value}(h:sT w ys vs):ys.length=vs.length/\∀ (k:Nat) (y:ag),ys[k]?=some y->∃ v,vs[k]?=some v/\qQ w y v:=by
 induction h with
 | nil=>exact ⟨rfl,λk y h=>by simp at h⟩
 | cons h _ aS =>
  refine ⟨by simp [aS.1],λk y ay=>?_⟩
  cases k with
  | zero =>
   simp at ay; subst ay
   obtain ⟨h⟩:=h
   exact ⟨_,rfl,h⟩
  | succ k=>simpa using aS.2 k y (by simpa using ay)
theorem sT.T4 {w:World}{ys:List ag}{vs:List Value}(h:sT w ys vs) (aF:ys.all (λy=>match y with | .b2 ..=>false | _=>true)=true) :
  cW w (λb=>b<w.heap.size) vs.toArray (oH ys) (λ_=>cS):=by
 refine ⟨λt x J=>?_,λ_ _ _ h=>h,λ_ _ _ h=>h.elim,λ_ _ h=>h.elim,λ_ h=>h,λt dh z p n m new cG cT b7 da h1 _=>?_⟩
 ·obtain ⟨v,hv,bh⟩:=h.get.2 t x J
  exact ⟨v,by simpa using hv,.tree (bh.frame (λ_ _=>rfl) (λ_ h=>h) (λ_ _ h=>h.elim) (λ_ _=>rfl))⟩
 ·have:=List.all_eq_true.1 aF _ (List.mem_of_getElem? h1)
  cases this
structure HV (w w':World):Prop where
 kept:∀ may:MemPlace->Prop,w.keptBut w' may
 fE:∀ a,a.block<w.heap.size->w'.frozen? a=w.frozen? a
theorem b_.UG {f:FuncId}{ys:List ag}{vs:List Value}{outs:List (Option ag)}{r:Value}(ab:b_ P f ys outs (.lit r)) (w:World) (h:sT w ys vs) (aF:ys.all (λy=>match y with | .b2 ..=>false | _=>true)=true) :
  Calls P f vs.toArray w λe w'=>e=.returned r/\HV w w'/\∀ i:Nat,i<w.heap.size->w'.heap[i]?=w.heap[i]?:=by
 have:=ab.2 w _ vs _ h.get.1.symm (h.T4 aF)
 refine this.mono ?_
 rintro e w' ⟨v,I',cq,rfl,b1,cd⟩
 obtain ⟨u,hu,bh⟩:=b1.rel outs.length (.lit r) (by simp [oj])
 have ao:outs.length=vs.length:=by rw [ab.1]; exact h.get.1
 have Cq:u=v:=by
  rw [ao] at hu
  simpa using hu.symm
 subst Cq
 have hv:=(bh.hT (by simp)).h9.1
 subst hv
 have aI:∀ i:Nat,i<w.heap.size->w'.heap[i]?=w.heap[i]?:=λi hi=>cd.fy.block i hi λ⟨_,h⟩=>h
 have hk:World.keptBut w w' (λ_=>False):=⟨cd.fy.os,cd.fy.output,λi hi=>by
  rw [aI i hi]
  exact (World.keptBut_refl w (λ_=>False)).2.2 i hi⟩
 exact ⟨rfl,⟨λmay=>World.keptBut_mono (λ_ f=>f.elim) hk,cd.fy.fE⟩,aI⟩
theorem Mu {H:Type}{enc:TypeId × Value->H}{w w':World}{base:Nat}{sp:Nat->Bool}{held:Bool}(aI:∀ i:Nat,i<w.heap.size->w'.heap[i]?=w.heap[i]?) :
  ∀ {gG:List TypeId}{vs:List Value}{jz:List (DataW H)}{ps:List MemPlace},DataW.TrodAll enc P w base sp held gG vs jz ps->DataW.TrodAll enc P w' base sp held gG vs jz ps
 | [],[],[],_,h=>h
 | _::_,_::_,_::_,_,⟨p,q,⟨n,aN⟩,al,e⟩=>by
  refine ⟨p,q,⟨n,DataW.trod_carry n _ _ _ aN λx J=>?_⟩,Mu aI al,e⟩
  have bd:=DataW.trod_lt n _ _ _ aN x J
  cases x with
  | cell b off =>
   show w'.cell? _=w.cell? _
   exact World.cell?_of_block (aI b bd)
  | map b=>exact aI b bd
theorem Nq {H:Type}{enc:TypeId × Value->H}{w w':World}(ao:laidOutB P=true) (hm:mapsRowed P=true)
  (bG:((List.range P.types.size).all λt=>match P.underlying t with | some (.slice e)=>decide (0<P.cellsOf e) | _=>true)=true)
  (aI:∀ i:Nat,i<w.heap.size->w'.heap[i]?=w.heap[i]?) {gG:List TypeId}{vs:List Value}{jz:List (DataW H)}{ps:List MemPlace}(aG:gG.all (λt=>decide (t<P.types.size))=true)
  (h:DataW.TrodAll enc P w 0 (λ_=>true) true gG vs jz ps) {sp:Nat->Bool}(kO:∀ p∈ps,sp p.block=true):DataW.TrodAll enc P w' 0 sp true gG vs jz ps :=
 (Mu aI h).respare (kids_rows ao hm) (slices_full_of P bG) (λt h=>of_decide_eq_true (List.all_eq_true.1 aG t h)) kO
end Go.Own
namespace Go.Own
open Go
section
variable {α β:Type}{P:Program}{N:dE}{g g1:aU}{p:Place}{m:Int}{a b:Operand}{t:TypeId}
theorem ag.Is:∀ (l:List Nat) {x nd:ag}{k:Nat}{c:ag},x.at l=some nd->nd.kids[k]?=some c->x.at (l++[k])=some c
 | [],x,nd,k,c,h,hk=>by
  simp only [ag.at,Option.some.injEq] at h
  subst h
  simp [ag.at,hk]
 | ae::l,x,nd,k,c,h,hk=>by
  simp only [ag.at] at h
  cases aa:x.kids[ae]? with
  | none=>rw [aa] at h; cases h
  | some y =>
   rw [aa] at h
   simp only [List.cons_append,ag.at,aa]
   exact ag.Is l h hk
theorem ag.L_:∀ (l:List Nat) {x nd:ag}{k:Nat}{c:ag}(y:ag),x.at l=some nd->nd.kids[k]?=some c->x.setAt (l++[k]) y=x.setAt l (nd.ua k y)
 | [],x,nd,k,c,y,h,hk=>by
  simp only [ag.at,Option.some.injEq] at h
  subst h
  simp [ag.setAt,hk]
 | ae::l,x,nd,k,c,y,h,hk=>by
  simp only [ag.at] at h
  cases aa:x.kids[ae]? with
  | none=>rw [aa] at h; cases h
  | some z =>
   rw [aa] at h
   simp only [List.cons_append,ag.setAt,aa]
   rw [ag.L_ l y h hk]
theorem Jd {en:cx α}{L:List α}{jF:α}{o:Nat}{c:ag}(h:idx L m=some jF) (ab:(en.cells jF)[o]?=some c):(ak en L).kids[m.toNat * en.z+o]?=some c:=LQ en h ab
theorem qW {en:cx α}{L:List α}{jF:α}{r o:Nat}{path:List Nat}{c:ag}(aF:b8 g ⟨r,path⟩=some (ak en L)) (h:idx L m=some jF) (ab:(en.cells jF)[o]?=some c):b8 g ⟨r,path++[m.toNat * en.z+o]⟩=some c:=by
 unfold b8 at aF ⊢
 simp only at aF ⊢
 cases J:g r with
 | none=>rw [J] at aF; cases aF
 | some x =>
  rw [J] at aF
  exact ag.Is path aF (Jd h ab)
theorem Mc {en:cx α}{L:List α}{jF:α}{r o:Nat}{path:List Nat}{c:ag}(y:ag) (aF:b8 g ⟨r,path⟩=some (ak en L)) (h:idx L m=some jF) (ab:(en.cells jF)[o]?=some c) :
  c5 g ⟨r,path++[m.toNat * en.z+o]⟩ y=c5 g ⟨r,path⟩ (.own en.z L.length ((cf en L).set (m.toNat * en.z+o) y)):=by
 funext s
 unfold c5
 simp only
 split
 ·rename_i e
  subst e
  unfold b8 at aF
  simp only at aF
  cases J:g s with
  | none=>rfl
  | some x =>
   rw [J] at aF
   simp only [Option.map_some,Option.some.injEq]
   rw [ag.L_ path y aF (Jd h ab)]
   rfl
 ·rfl
theorem T2 (l:List ag) (k:Nat) (x c:ag):fB (l.set k x) k [c]=fB l k [c]:=by
 unfold fB
 simp only [List.length_singleton]
 rw [List.take_set,List.drop_set]
 rw [List.set_eq_of_length_le (by simp; omega)]
 simp
theorem cm.AN {hA:Oper}{en:cx α}{en2:cx β}{L:List α}{jF y2:α}{ph M R:List β}{o s GC:Nat}{new da:List ag}{x2 y0:ag}{G2:List (Nat × ag)}
  (bf:hA.op=.store t a b) (aV:hA.dst=none) (bg:Rd g a (.ptr p (m.toNat * en.z+o))) (aI:Rd g b (.bm en2.z ⟨s,[]⟩ (ph.length+GC)))
  (sg:g s=some (.b2 en2.z ⟨p.root,p.path++[m.toNat * en.z+o]⟩ ph.length GC new)) (aF:b8 g p=some (ak en L)) (h:idx L m=some jF) (ll:(en.cells jF)[o]?=some (ak en2 ph)) (bP:Nat.beq p.root s=false)
  (h1:iG (c5 (c5 g ⟨s,[]⟩ .dead) p (.own en.z L.length ((cf en L).set (m.toNat * en.z+o) .dead))) new da g1)
  (pG:gu da (cf en2 M)) (hm:M.length=GC) (bh:ph++M=R) (bG:gp P t 1=true)
  (tA:b8 g1 p=some (.own en.z L.length ((cf en L).set (m.toNat * en.z+o) .dead)))
  (he:fB (en.cells jF) o [ak en2 R]=en.cells y2) (hlen:Nat.ble (o+1) en.z=true)
  (ho:c5 g1 p (ak en (L.set m.toNat y2)) p.root=some x2) (aw:(get G2 p.root).isSome=true) (vd:g1 p.root=some y0) [gY:cP y0] (eh:kY g1 (get G2) p.root x2 G2):cm P N g hA (get G2):=by
 subst hm bh
 have za:=Nat.le_of_ble_eq_true hlen
 have kO:=G' en (cs':=[ak en2 (ph++M)]) h he (by simpa using za)
 have Fx:(L.set m.toNat y2).length=L.length:=List.length_set
 have Cm:=Nat.ne_of_beq_eq_false bP
 have y3:b8 g ⟨p.root,p.path++[m.toNat * en.z+o]⟩=some (ak en2 ph):=qW (g:=g) (r:=p.root) (path:=p.path) aF h ll
 have RM:b8 (c5 g ⟨s,[]⟩ .dead) p=some (ak en L):=by
  unfold b8 at aF ⊢
  rw [sE (p:=⟨s,[]⟩) (λe=>Cm e)]; exact aF
 have aG:iG g [.bm en2.z ⟨s,[]⟩ (ph.length+M.length)] [.own en2.z (ph.length+M.length) (cf en2 ph++da)] g1:=by
  refine .mS sg y3 bP ?_ .nil
  rw [Mc .dead (r:=p.root) (path:=p.path) RM h ll]
  exact h1
 have hk:m.toNat * en.z+o+1<=L.length * en.z:=by
  obtain ⟨tT,jQ,_⟩:=pM h
  have al:m.toNat+1<=L.length:=by omega
  calc m.toNat * en.z+o+1<=m.toNat * en.z+en.z:=by omega
   _=(m.toNat+1) * en.z:=by rw [Nat.add_mul]; omega
   _<=L.length * en.z:=Nat.mul_le_mul_right _ al
 refine .store bf aV bg.bL aI.bL aG.take (y':=ak en2 (ph++M)) ?_ rfl bG (p:=p) (nd:=.own en.z L.length ((cf en L).set (m.toNat * en.z+o) .dead)) (z:=en.z) (n:=L.length) (cs:=(cf en L).set (m.toNat * en.z+o) .dead) tA (.inl rfl) ?_ (by simp) (λt x J=>?_) (λt x J y ay=>?_) (λt z q n m new J=>?_) (by intro e; rw [e] at aw; cases aw)
 ·rw [<- CO]; exact (pG.pre _).own
 ·simp only [List.length_singleton,List.length_set,nI]; exact hk
 ·have ga:(ag.own en.z L.length ((cf en L).set (m.toNat * en.z+o) .dead)).fB (m.toNat * en.z+o) [ak en2 (ph++M)]=ak en (L.set m.toNat y2):=by
   show ag.own en.z L.length (fB ((cf en L).set (m.toNat * en.z+o) .dead) (m.toNat * en.z+o) [ak en2 (ph++M)])=_
   unfold ak at kO ⊢
   rw [T2,kO,Fx]
  rw [ga]
  rcases eh.spec t x J with ⟨h1,al,_⟩ | ⟨h1,al,_⟩
  ·rw [sE h1]; exact al
  ·subst h1 al; exact ho
 ·rcases eh.spec t x J with ⟨h1,al,aR⟩ | ⟨h1,al,aR⟩
  ·rw [al] at ay; cases ay
   rcases aR with aR | ⟨aR,c2,rfl⟩
   ·exact aR.G9
   ·refine j7.ref (by cases aR; rfl) ⟨aR.Ln,aR.clear ?_,aR.GJ⟩
    intro e
    obtain ⟨hq,pp⟩:=p
    simp only at e
    subst e
    simp only [c5,if_true,vd,Option.map_some,ag.setAt,Option.some.injEq] at ho
    cases ho
  ·subst h1; rw [vd] at ay; cases ay; exact .bI gY.bI
 ·rcases eh.spec t _ J with ⟨_,_,aR | ⟨aR,_⟩⟩ | ⟨_,_,aR⟩
  ·exact aR.fP _ _ _ _ _ rfl
  ·exact aR.fP _ _ _ _ _ rfl
  ·cases aR
end
end Go.Own
/- Short forms for printed walks. -/
namespace Go.Own
open Go
section
variable {P:Program}{N:dE}{ops:Array Oper}{cc:List (List Nat)}{g g0:aU}{K:aU->Prop}{l:List Oper}{acc:Acc}{d i:Nat}{op:Op}{ty:TypeId}{pos:String}{after:Array Edge}{x:ag}
theorem ah (aF:dr P g op ty x) (hk:ar P N ops l (e2 g d x) K) (bY:N.ok d=true:=by rfl) (bj:g d=none:=by rfl):ar P N ops (⟨some d,op,ty,pos,after,none⟩::l) g K:=.v aF bY bj .none hk
theorem dL (aF:cu P g op x) (hk:ar P N ops l (e2 g d x) K) (bY:N.ok d=true:=by rfl) (bj:g d=none:=by rfl):ar P N ops (⟨some d,op,ty,pos,after,none⟩::l) g K:=.c aF bY bj .none hk
theorem au (dp:Nat) (aF:dr P (nN cc g0 dp acc) op ty x) (hk:bV P N ops cc g0 i ((dp,d,some x)::acc) l K) (aa:Nat.beq ops.size (dp+l.length+1)=true:=by rfl) (bj:g0 d=none:=by rfl) (aN:acc.all (λe=>!Nat.beq e.2.1 d)=true:=by rfl) (bY:N.ok d=true:=by rfl) :
  bV P N ops cc g0 i acc (⟨some d,op,ty,pos,after,none⟩::l) K:=.v dp aF aa bj aN bY .none hk
theorem iM (dp:Nat) (aF:cu P (nN cc g0 dp acc) op x) (hk:bV P N ops cc g0 i ((dp,d,some x)::acc) l K) (aa:Nat.beq ops.size (dp+l.length+1)=true:=by rfl) (bj:g0 d=none:=by rfl) (aN:acc.all (λe=>!Nat.beq e.2.1 d)=true:=by rfl) (bY:N.ok d=true:=by rfl) :
  bV P N ops cc g0 i acc (⟨some d,op,ty,pos,after,none⟩::l) K:=.c dp aF aa bj aN bY .none hk
end
instance {z n:Nat}{cs:List ag}:nU (.own z n cs):=⟨by simp⟩
def aO (a n:Nat) (l:List Nat):List Nat:=List.range' a n++l
end Go.Own
namespace Go.Own
open Go
section
variable {α:Type}{P:Program}{N:dE}{g:aU}{d r:Nat}{ty:TypeId}
instance {fn:Fn}{cs:List ag} [h:eR cs]:cP (.ef fn [] cs):=⟨.ef (by simp) h.bI⟩
theorem hQ.jO {o:Oper}{xs:List Operand}{ir:Array TypeId}{f:FuncId}{ys args:List ag}{res:ag}{en:cx α}{L L':List α}{G2:List (Nat × ag)}(bf:o.op=.call { callee:=.value (.func f),args:=xs.toArray,argTypes:=ir }) (aV:o.dst=some d) (J:Own.iz g xs=some (.bm en.z ⟨r,[]⟩ L.length::ys))
  (aP:g r=some (ak en L)) (hv:pr (get ((r,.dead)::G2)) ys args) (iT:b_ P f (ak en L::args) (some (ak en L')::args.map λ_=>none) res) (bj:dw P f=true) [aw:p1 res] [u4:p1 (ak en L')]
  (eh:Trim false (c5 g ⟨r,[]⟩ .dead) (get ((r,.dead)::G2)) G2) (a7:get G2 d=none) (zk:Nat.beq r d=false) (yV:Trim false (get ((r,ak en L')::G2)) (get ((r,ak en L')::G2)) G2) (bY:N.ok d=true) :
  hQ P N g o d (get ((d,res)::(r,ak en L')::G2)):=by
 have zl:r≠d:=Nat.ne_of_beq_eq_false zk
 have Eh:get ((r,ag.dead)::G2) r=some .dead:=by simp [get]
 have l':∀ x∈cf en L,c' x:=by
  intro x J
  obtain ⟨a,_,bg⟩:=List.mem_flatMap.1 J
  exact en.bI a x bg
 have fT:(cf en L).take (L.length * en.z)=cf en L:=List.take_of_length_le (by rw [nI]; exact Nat.le_refl _)
 have vn:gd (c5 g ⟨r,[]⟩ .dead) (get ((r,.dead)::G2)):=by
  refine ⟨λt x h=>?_,λt x h=>?_,λt z q n m new h=>?_⟩
  all_goals
   simp only [get] at h
   split at h
  ·rename_i e; subst e; cases h; simp [c5,aP,ag.setAt]
  ·obtain ⟨⟨y,h1,_,aR⟩,_⟩:=eh.spec t x h; rw [<- aR rfl]; exact h1
  ·cases h; exact .bI .dead
  ·exact (eh.spec t x h).2.1
  ·cases h
  ·exact (eh.spec t _ h).2.2 _ _ _ _ _ rfl
 have put:o8 (get ((r,.dead)::G2)) [(⟨r,[]⟩,ak en L')]=get ((r,ak en L')::G2):=by
  funext t
  simp only [o8,c5,get]
  by_cases h:t=r
  ·simp [h,ag.setAt]
  ·simp [h]
 have vo:gd (get ((r,ak en L')::G2)) (get ((r,ak en L')::G2)):=by
  refine ⟨λt x h=>h,λt x h=>?_,λt z q n m new h=>?_⟩
  all_goals
   simp only [get] at h
   split at h
  ·cases h; exact .bI u4.kS.bI
  ·exact (yV.spec t x h).2.1
  ·cases h
  ·exact (yV.spec t _ h).2.2 _ _ _ _ _ rfl
 have ao:=hv.len
 have p_:get ((d,res)::(r,ak en L')::G2)=e2 (get ((r,ak en L')::G2)) d res:=by
  funext t
  rw [te]
 rw [p_]
 refine wi.ok (first:=[]) (caps:=[]) (ys:=.bm en.z ⟨r,[]⟩ L.length::ys) (tk:=λk=>k == 0) (vw:=true) (outs:=some (ak en L')::args.map λ_=>none) (g1:=c5 g ⟨r,[]⟩ .dead) (g2:=get ((r,.dead)::G2)) (g4:=get ((r,ak en L')::G2)) (l:=[(⟨r,[]⟩,ak en L')]) (ks:=λ_=>0) (xs0:=.bm en.z ⟨r,[]⟩ L.length::ys.map λ_=>.dead) (xs1:=ak en L::ys.map λ_=>.dead) (args:=ak en L::args) (res:=res) bf aV rfl (by simpa using J)
  ⟨bj,by simp,by simpa using ao,λk x h=>?_,?_,vn,λk x y J ay=>?_,iT,by simpa using aw.kS,λk x h=>?_,λae p x aa=>?_,by simp,λi ae hi aa _=>by simp at hi aa; omega,by rw [put]; exact vo⟩ ?_ bY ug.refl
 ·simp only [List.nil_append,List.append_nil] at h
  cases k with
  | zero=>exact .inl h
  | succ k =>
   refine .inr ?_
   simp only [List.getElem?_cons_succ] at h ⊢
   rw [List.getElem?_map,h]; rfl
 ·have h1:Take (c5 g ⟨r,[]⟩ .dead) ((cf en L).take (L.length * en.z)) (cf en L) (c5 g ⟨r,[]⟩ .dead):=by rw [fT]; exact .bI l'
  refine .bm (N:=L.length) (by simp [b8,aP,ag.at]) (Nat.le_refl _) h1 (.bI λx J=>?_)
  obtain ⟨_,_,rfl⟩:=List.mem_map.1 J
  exact .dead
 ·simp only [List.nil_append,List.append_nil] at J
  cases k with
  | zero=>simpa using ay
  | succ k =>
   simp only [List.getElem?_cons_succ] at J ay
   exact ⟨rfl,hv.get k x y J ay⟩
 ·cases k with
  | zero=>simp only [List.getElem?_cons_zero,Option.some.injEq] at h; subst h; exact u4.kS
  | succ k =>
   simp only [List.getElem?_cons_succ,List.getElem?_map] at h
   cases bg:args[k]? <;> rw [bg] at h <;> cases h
 ·cases ae with
  | succ ae=>simp at aa
  | zero =>
   simp only [List.getElem?_cons_zero,Option.some.injEq,Prod.mk.injEq] at aa
   obtain ⟨rfl,rfl⟩:=aa
   exact ⟨rfl,by simp [b8,Eh,ag.at],.inl ⟨en.z,L.length,cf en L,rfl,by simp [b8,aP,ag.at]⟩⟩
 ·simp only [get,if_neg (Ne.symm zl)]; exact a7
end
end Go.Own
namespace Go.Own
open Go Go.Proofs Go.Shelf Go.Lib Go.Sort
section
variable {P:Program}{w:World}
end
end Go.Own
namespace Go.Own
open Go
section
variable {α:Type}{P:Program}{N:dE}{g g1 g2 g3:aU}{ops:Array Oper}{cc:List (List Nat)}{acc:Acc}{l:List Oper}{K:aU->Prop}{i d r:Nat}
theorem cW.settle {w:World}{I:bt}{T:Array Value}{Fs:Nat->bt}(h:cW w I T g Fs) (a:Act) (bg:a.tmps=T) {gG:List Nat}{xs ys:List ag}(J:Own.iz g (gG.map Operand.tmp)=some xs) (aG:Take g xs ys g1) (ga:gG.Nodup) (ao:ys.length=gG.length) (aV:∀ t∈gG,g1 t=some .dead)
  (hk:gd (o8 g1 ((gG.map λt=>(⟨t,[]⟩:Place)).zip ys)) g2):∃ cq,cW w I T g2 cq/\∀ c,(∃ t,cq t c)->∃ t,Fs t c:=by
 obtain ⟨F4,Sz⟩:=xu h bg J
 have Sy:xs.length=gG.length:=by rw [F4,List.length_map]
 have hand:Hand w I (f_ w T) Fs xs (gG.map λt=>a.eval (.tmp t)) (λ_=>cS):=by
  refine ⟨by rw [Sy,List.length_map],λk x u oY hu=>?_,λ_ _ _ _ _ h=>h.elim,λ_ _ _ _ h=>h.elim,λ_ _ _ h=>h.elim⟩
  rw [List.getElem?_map] at hu
  cases fT:gG[k]? with
  | none=>rw [fT] at hu; cases hu
  | some t =>
   rw [fT] at hu; cases hu
   exact (Sz k x (.tmp t) oY (by rw [List.getElem?_map,fT]; rfl)).frame (λ_ _=>rfl) (λ_ h=>h) (λ_ _ h=>h.1) λ_ _=>rfl
 obtain ⟨fY,H1,iR,iv,hf⟩:=aG.sound h.lY hand
 have sm:((gG.map λt=>(⟨t,[]⟩:Place)).zip ys).length=gG.length:=by rw [List.length_zip,List.length_map,ao]; exact Nat.min_self _
 obtain ⟨iN,h5,aQ⟩:=jy.o8 ((gG.map λt=>(⟨t,[]⟩:Place)).zip ys) H1 (λae=>((gG.map λt=>a.eval (.tmp t))[ae]?).getD undef) iR (by
   rw [List.map_fst_zip (by rw [List.length_map,ao]; exact Nat.le_refl _)]
   exact List.Pairwise.map _ (λa b h e=>h (congrArg Place.root e)) ga) (λae p x aa=>by
   rw [List.getElem?_zip_eq_some] at aa
   obtain ⟨h1,al⟩:=aa
   rw [List.getElem?_map] at h1
   cases fT:gG[ae]? with
   | none=>rw [fT] at h1; cases h1
   | some t =>
    rw [fT] at h1; cases h1
    have Kf:=aV t (List.mem_of_getElem? fT)
    obtain ⟨v,hv,_⟩:=iR.rel t .dead Kf
    have pF:a.eval (.tmp t)=v:=by simp [Act.eval,bg,hv]
    have FV:(gG.map λt=>a.eval (.tmp t))[ae]?=some v:=by rw [List.getElem?_map,fT]; simp [pF]
    refine ⟨by simp [b8,Kf,ag.at],?_,?_⟩
    ·rw [FV]
     show ep w T ⟨t,[]⟩=some v
     unfold ep
     simp only [hv,walk]
    ·rw [FV]
     exact iv.rel ae x v al FV) (λae t c aa ab=>iv.off ae t c (by omega) ab) (λae c aa ab=>iv.aD ae c (by omega) ab) (λi ae c hi aa h1 al=>iv.e8 i ae c (by omega) (by omega) h1 al)
 refine ⟨_,h5.keep hk,λc ⟨t,_,ab⟩=>?_⟩
 have:kW fY ys.length H1 c:=by
  rcases aQ t c ab with h | ⟨ae,aa,h⟩
  ·exact .inl ⟨t,h⟩
  ·exact .inr ⟨ae,by omega,h⟩
 rcases hf c this with h | ⟨_,_,h⟩
 ·exact h
 ·exact h.elim
theorem l1.settle {o:Oper}{gG:List Nat}{xs ys:List ag}(J:Own.iz g (gG.map Operand.tmp)=some xs) (aG:Take g xs ys g1) (ga:gG.Nodup) (ao:ys.length=gG.length) (aV:∀ t∈gG,g1 t=some .dead)
  (hk:gd (o8 g1 ((gG.map λt=>(⟨t,[]⟩:Place)).zip ys)) g2) (he:l1 P N g2 o g3):l1 P N g o g3:=by
 intro w I T Fs b1 a bg bY K Q eC
 obtain ⟨cq,eD,gO⟩:=b1.settle a bg J aG ga ao aV hk
 refine he w I T cq eD a bg bY K Q λcy w' aN aG=>eC cy w' ?_ aG
 obtain ⟨dn,cZ,I',iN,h1,al⟩:=aN
 exact ⟨dn,cZ,I',iN,h1,kE.trans ⟨Fr.refl _ _,λ_ h=>h,λ_ h=>.inl h,λc h=>.inl (gO c h)⟩ al⟩
def LC (p q:Place):Bool:=Nat.beq p.root q.root&&p.path == q.path
def S_ (p:Place) (acc:Acc):Bool:=acc.all λe=>match mr e with | some q=>!LC p q | none=>true
theorem S' {p:Place}{G:List (Nat × ag)}{A:Nat->Bool}(h:S_ p acc=true) (eh:su G=true):∀ t z n m new,ed (get G) A acc t≠some (.b2 z p n m new):=by
 intro t z n m new e
 rcases sO e with ⟨cQ,he,h1,_,al⟩ | ⟨_,al⟩
 ·have:=List.all_eq_true.1 h cQ he
  obtain ⟨k,d,x⟩:=cQ
  simp only at al
  subst al
  simp [mr,LC] at this
 ·exact zP eh _ _ _ _ _ _ al
theorem l1.cell {o:Oper}{r k0:Nat}{y:ag}{cs:List ag}{g5:aU}(aw:g r=some (.obj cs)) (ay:cs[k0]?=some y) (ve:c' y)
  (tz:∀ v:Value,v.oneCell'=true->∃ g1 g4,gd (c5 g ⟨r,[k0]⟩ (.lit v)) g1/\l1 P N g1 o g4/\b8 g4 ⟨r,[k0]⟩=some (.lit v)/\gd (c5 g4 ⟨r,[k0]⟩ y) g5):oy P N (λp=>p∈[(⟨r,[k0]⟩:Place)]) g o g5:=by
 intro w I T Fs h a bg bY K Q eC
 have lN:∀ z q n m new,y≠.b2 z q n m new:=by rintro z q n m new rfl; cases ve
 have fS:b8 g ⟨r,[k0]⟩=some y:=by simp [b8,aw,ag.at,ag.kids,ay]
 obtain ⟨v,cJ,hv,dQ,dz,put⟩:=h.lY.part fS lN
 have oc:v.oneCell'=true:=by
  obtain ⟨u,hu,l7⟩:=h.rel r _ aw
  obtain ⟨b,sM,h1,al,aR,b3,_⟩:=R.node (z:=0) (n:=0) (l7.hT (by simp)) (.inr rfl) ay
  have:ep w T ⟨r,[k0]⟩=child w u k0:=by
   unfold ep
   simp only [hu,walk]
   cases child w u k0 <;> rfl
  rw [this,aR] at hv
  cases hv
  exact b3
 obtain ⟨fY,iR,yS,yT⟩:=put (.lit v) cS (.lit oc λ_ h=>h) (λ_ h=>h.elim) (λ_ h=>h.elim) (λ_ _ _ h=>h.elim)
 obtain ⟨g1,g4,hl,eA,E4,Fp⟩:=tz v oc
 have qG:∀ t c,fY t c->Fs t c/\¬ cJ c:=by
  intro t c ab
  by_cases aG:t=r
  ·subst aG
   rcases (yS c).1 ab with aT | aT
   ·exact aT
   ·exact aT.elim
  ·rw [yT t aG] at ab
   exact ⟨ab,λbj=>aG (h.e8 t r c ab (dz c bj))⟩
 have EW:=iR.keep hl
 refine eA w I T _ EW a bg bY K Q λcy w' aN rj=>?_
 obtain ⟨dn,cZ,I',cq,eD,cd⟩:=aN
 obtain ⟨v2,rF,pK,lJ,Qh,G3⟩:=eD.lY.part E4 (by simp)
 have FU:v2=v:=lJ.h9.1
 subst FU
 have EJ:∀ c,cJ c->¬ I c:=λc ab=>h.aD r c (dz c ab)
 have uW:∀ c,cJ c->c<w.heap.size:=λc ab=>h.jN r c (dz c ab)
 have vv:∀ c,cJ c->¬ ∃ t,(g1 t≠none/\fY t c):=λc ab ⟨t,_,aT⟩=>(qG t c aT).2 ab
 have zS:∀ t c,cq t c->¬ cJ c:=by
  intro t c ab bj
  rcases cd.own c ⟨t,ab⟩ with aT | aT
  ·exact vv c bj aT
  ·have:=uW c bj; omega
 have GI:∀ c,cJ c->¬ I' c:=by
  intro c ab hi
  rcases cd.new c hi with aT | aT | aT
  ·exact EJ c ab aT
  ·exact vv c ab aT
  ·have:=uW c ab; omega
 have Hc:∀ c,cJ c->w'.heap[c]?=w.heap[c]?:=λc ab=>cd.fy.block c (uW c ab) (vv c ab)
 have qB:∀ c,I c->w'.heap[c]?=w.heap[c]?:=λc ab=>cd.fy.block c (h.lt c ab) λ⟨t,_,aT⟩=>h.aD t c (qG t c aT).1 ab
 have yY:R w' I' (f_ w' cy.tmps) y v2 cJ:=((dQ.bI ve).frame qB cd.more (λ_ _ h=>h) Hc)
 obtain ⟨HU,EY,EE,EF⟩:=G3 y cJ yY (λc ab bj=>(zS _ c bj ab).elim) (λc ab=>GI c ab) (λt c _ ab bj=>zS t c bj ab)
 have r8:=EY.keep Fp
 refine eC cy w' ⟨dn,cZ,I',_,r8,⟨?_,cd.more,λc ab=>?_,λc ab=>?_⟩⟩ rj λe5 path aF y' mi VT=>?_
 ·exact cd.fy.mono λb _ ⟨t,_,aT⟩=>⟨t,(qG t b aT).1⟩
 ·rcases cd.new c ab with aT | ⟨t,_,aT⟩ | aT
  ·exact .inl aT
  ·exact .inr (.inl ⟨t,(qG t c aT).1⟩)
  ·exact .inr (.inr aT)
 ·obtain ⟨t,_,ab⟩:=ab
  have:(∃ t,cq t c)\/cJ c:=by
   by_cases aG:t=r
   ·subst aG
    rcases (EE c).1 ab with ⟨aT,_⟩ | aT
    ·exact .inl ⟨_,aT⟩
    ·exact .inr aT
   ·rw [EF t aG] at ab; exact .inl ⟨t,ab⟩
  rcases this with aT | aT
  ·rcases cd.own c aT with ⟨t,_,gD⟩ | gD
   ·exact .inl ⟨t,(qG t c gD).1⟩
   ·exact .inr gD
  ·exact .inl ⟨r,dz c aT⟩
 ·have aF:(⟨e5,path⟩:Place)∈[(⟨r,[k0]⟩:Place)]:=aF
  have aF:=List.mem_singleton.1 aF
  cases aF
  rw [hv,pK]
end
end Go.Own
namespace Go.Own
open Go
section
variable {α:Type}{P:Program}{N:dE}{g:aU}{ops:Array Oper}{l:List Oper}{K:aU->Prop}{r n:Nat}{t e ty:TypeId}{a b:Operand}{m:Int}{en:cx α}{L:List α}{y y2:α}{k:IntKind}{pos:String}{after:Array Edge}
end
end Go.Own
namespace Go.Own
open Go Go.Proofs Go.Shelf Go.Lib Go.Sort
section
variable {P:Program}{w:World}
class um {α:Type}(e:cx α) where
 Dk:α->List Value
 cells:∀ a,e.cells a=(Dk a).map .lit
 one:∀ a,∀ v∈Dk a,v.oneCell'=true
variable {α:Type}{e:cx α}
theorem um.len [h:um e] (a:α):(h.Dk a).length=e.z:=by
 have:=e.len a
 rw [h.cells,List.length_map] at this
 exact this
end
end Go.Own
namespace Go.Own
open Go
section
variable {α:Type}{P:Program}{N:dE}{g:aU}{d r:Nat}
theorem hQ.tk {o:Oper}{x:Operand}{ir:Array TypeId}{f:FuncId}{res:ag}{en:cx α}{L:List α}{G2:List (Nat × ag)}(bf:o.op=.call { callee:=.value (.func f),args:=#[x],argTypes:=ir }) (aV:o.dst=some d) (J:Own.iz g [x]=some [.bm en.z ⟨r,[]⟩ L.length])
  (aP:g r=some (ak en L)) (iT:b_ P f [ak en L] [none] res) (bj:dw P f=true) [aw:cP res]
  (eh:Trim false (c5 g ⟨r,[]⟩ .dead) (get G2) G2) (a7:get G2 d=none) (bY:N.ok d=true) :
  hQ P N g o d (get ((d,res)::G2)):=by
 have l':∀ x∈cf en L,c' x:=by
  intro x J
  obtain ⟨a,_,bg⟩:=List.mem_flatMap.1 J
  exact en.bI a x bg
 have fT:(cf en L).take (L.length * en.z)=cf en L:=List.take_of_length_le (by rw [nI]; exact Nat.le_refl _)
 have vn:gd (c5 g ⟨r,[]⟩ .dead) (get G2):=by
  refine ⟨λt x h=>?_,λt x h=>(eh.spec t x h).2.1,λt z q n m new h=>(eh.spec t _ h).2.2 _ _ _ _ _ rfl⟩
  obtain ⟨⟨y,h1,_,aR⟩,_⟩:=eh.spec t x h
  rw [<- aR rfl]; exact h1
 have vo:gd (get G2) (get G2):=⟨λt x h=>h,λt x h=>(eh.spec t x h).2.1,λt z q n m new h=>(eh.spec t _ h).2.2 _ _ _ _ _ rfl⟩
 have p_:get ((d,res)::G2)=e2 (get G2) d res:=by
  funext t
  rw [te]
 rw [p_]
 refine wi.ok (first:=[]) (caps:=[]) (ys:=[.bm en.z ⟨r,[]⟩ L.length]) (tk:=λk=>k == 0) (vw:=false) (outs:=[none]) (g1:=c5 g ⟨r,[]⟩ .dead) (g2:=get G2) (g4:=get G2) (l:=[]) (ks:=λ_=>0) (xs0:=[.bm en.z ⟨r,[]⟩ L.length]) (xs1:=[ak en L]) (args:=[ak en L]) (res:=res) bf aV rfl J
  ⟨bj,by simp,by simp,λk x h=>.inl h,?_,vn,λk x y J ay=>?_,iT,by simpa using aw.bI,λk x h=>?_,λae p x aa=>by simp at aa,by simp,λi ae hi aa _=>by simp at hi,vo⟩ a7 bY ug.refl
 ·have h1:Take (c5 g ⟨r,[]⟩ .dead) ((cf en L).take (L.length * en.z)) (cf en L) (c5 g ⟨r,[]⟩ .dead):=by rw [fT]; exact .bI l'
  exact .bm (N:=L.length) (by simp [b8,aP,ag.at]) (Nat.le_refl _) h1 (.bI λx J=>by simp at J)
 ·cases k with
  | zero=>simpa using ay
  | succ k=>simp at ay
 ·cases k with
  | zero=>simp at h
  | succ k=>simp at h
end
end Go.Own
namespace Go.Own
open Go Go.Proofs Go.Shelf Go.Lib Go.Sort
section
variable {α:Type} [DecidableEq α]
end
section
variable {α:Type}{e:cx α}{P:Program}{w:World}
variable [DecidableEq α] [Inhabited α]
end
end Go.Own
namespace Go.Proofs
open Go.Shelf Go.RowKit Go.Lib Go.Sort
variable {α:Type} [Inhabited α] [DecidableEq α]
namespace Two
open Go.Own
variable {P:Program}{t:TypeId}
omit [Inhabited α] [DecidableEq α] in
theorem one (f:α->Int):OneCell λx=>Value.int .i64 (f x):=λ_=>rfl
end Two
end Go.Proofs
namespace Go.Own
open Go Go.Proofs Go.Shelf Go.Lib Go.Sort
def qC (k:IntKind) (m n:Int):Int:=m.fdiv (2 ^ (min n.toNat k.bits))
theorem O.shr {P:Program}{g:aU}{t t2 ty:TypeId}{a b:Operand}{k k':IntKind}{m n:Int}(J:Rd g a (.lit (.int k m))) (ay:Rd g b (.lit (.int k' n))) (h:decide (0<=n)=true):dr P g (.binOp .shr t a b t2) ty (.lit (.int k (qC k m n))):=by
 have bc:¬ n<0:=by have:=of_decide_eq_true h; omega
 exact .fk (.bin J.bL ay.bL rfl λw=>by simp [eqGuard,binOp,Op.shift,bc,qC])
section
variable {α:Type}{e:cx α}{P:Program}{w:World}
end
end Go.Own
namespace Go.Own
open Go
section
variable {α:Type}{P:Program}{N:dE}{g:aU}{d r:Nat}
end
end Go.Own
namespace Go.Own
open Go
theorem q {α:Sort _}{a:α}:a=a:=rfl
abbrev aC:ByteArray:={ data:=#[] }
theorem oi {p:Prop} [Decidable p] (h:decide p=true):p:=of_decide_eq_true h
theorem fe {b:Bool}{g h:aU}{fl s1:Nat}{fv aE:ag}(bc:g fl=some fv) [cP fv] (h1:g s1=some aE) [cP aE]:Trim b g h [(fl,fv),(s1,aE)]:=(.n bc (.n h1 .nil))
theorem dB {b:Bool}{g h:aU}{fl s1 s2:Nat}{fv aE x2:ag}(bc:g fl=some fv) [cP fv] (h1:g s1=some aE) [cP aE] (al:g s2=some x2) [cP x2]:Trim b g h [(fl,fv),(s1,aE),(s2,x2)]:=(.n bc (.n h1 (.n al .nil)))
theorem dA {b:Bool}{g h:aU}{fl s1 s2 dX:Nat}{fv aE x2 aX:ag}(bc:g fl=some fv) [cP fv] (h1:g s1=some aE) [cP aE] (al:g s2=some x2) [cP x2] (aR:g dX=some aX) [cP aX]:Trim b g h [(fl,fv),(s1,aE),(s2,x2),(dX,aX)]:=(.n bc (.n h1 (.n al (.n aR .nil))))
theorem e' {b:Bool}{g h:aU}{fl s1 s2 dX bK:Nat}{fv aE x2 aX bN:ag}(bc:g fl=some fv) [cP fv] (h1:g s1=some aE) [cP aE] (al:g s2=some x2) [cP x2] (aR:g dX=some aX) [cP aX] (b3:g bK=some bN) [cP bN]:Trim b g h [(fl,fv),(s1,aE),(s2,x2),(dX,aX),(bK,bN)]:=(.n bc (.n h1 (.n al (.n aR (.n b3 .nil)))))
theorem fC {b:Bool}{g h:aU}{fl s1 s2 dX bK cD:Nat}{fv aE x2 aX bN ck:ag}(bc:g fl=some fv) [cP fv] (h1:g s1=some aE) [cP aE] (al:g s2=some x2) [cP x2] (aR:g dX=some aX) [cP aX] (b3:g bK=some bN) [cP bN] (c3:g cD=some ck) [cP ck]:Trim b g h [(fl,fv),(s1,aE),(s2,x2),(dX,aX),(bK,bN),(cD,ck)]:=(.n bc (.n h1 (.n al (.n aR (.n b3 (.n c3 .nil))))))
theorem hg {b:Bool}{g h:aU}{fl s1 s2 dX bK cD cY:Nat}{fv aE x2 aX bN ck bu:ag}(bc:g fl=some fv) [cP fv] (h1:g s1=some aE) [cP aE] (al:g s2=some x2) [cP x2] (aR:g dX=some aX) [cP aX] (b3:g bK=some bN) [cP bN] (c3:g cD=some ck) [cP ck] (eg:g cY=some bu) [cP bu]:Trim b g h [(fl,fv),(s1,aE),(s2,x2),(dX,aX),(bK,bN),(cD,ck),(cY,bu)]:=(.n bc (.n h1 (.n al (.n aR (.n b3 (.n c3 (.n eg .nil)))))))
theorem mx {b:Bool}{g h:aU}{fl s1 s2 dX bK cD cY eU:Nat}{fv aE x2 aX bN ck bu bl:ag}(bc:g fl=some fv) [cP fv] (h1:g s1=some aE) [cP aE] (al:g s2=some x2) [cP x2] (aR:g dX=some aX) [cP aX] (b3:g bK=some bN) [cP bN] (c3:g cD=some ck) [cP ck] (eg:g cY=some bu) [cP bu] (kn:g eU=some bl) [cP bl]:Trim b g h [(fl,fv),(s1,aE),(s2,x2),(dX,aX),(bK,bN),(cD,ck),(cY,bu),(eU,bl)]:=(.n bc (.n h1 (.n al (.n aR (.n b3 (.n c3 (.n eg (.n kn .nil))))))))
theorem ot {b:Bool}{g h:aU}{fl s1 s2 dX bK cD cY eU cL:Nat}{fv aE x2 aX bN ck bu bl bT:ag}(bc:g fl=some fv) [cP fv] (h1:g s1=some aE) [cP aE] (al:g s2=some x2) [cP x2] (aR:g dX=some aX) [cP aX] (b3:g bK=some bN) [cP bN] (c3:g cD=some ck) [cP ck] (eg:g cY=some bu) [cP bu] (kn:g eU=some bl) [cP bl] (p':g cL=some bT) [cP bT]:Trim b g h [(fl,fv),(s1,aE),(s2,x2),(dX,aX),(bK,bN),(cD,ck),(cY,bu),(eU,bl),(cL,bT)]:=(.n bc (.n h1 (.n al (.n aR (.n b3 (.n c3 (.n eg (.n kn (.n p' .nil)))))))))
theorem pc {b:Bool}{g h:aU}{fl s1 s2 dX bK cD cY eU cL hB:Nat}{fv aE x2 aX bN ck bu bl bT ct:ag}(bc:g fl=some fv) [cP fv] (h1:g s1=some aE) [cP aE] (al:g s2=some x2) [cP x2] (aR:g dX=some aX) [cP aX] (b3:g bK=some bN) [cP bN] (c3:g cD=some ck) [cP ck] (eg:g cY=some bu) [cP bu] (kn:g eU=some bl) [cP bl] (p':g cL=some bT) [cP bT] (tg:g hB=some ct) [cP ct]:Trim b g h [(fl,fv),(s1,aE),(s2,x2),(dX,aX),(bK,bN),(cD,ck),(cY,bu),(eU,bl),(cL,bT),(hB,ct)]:=(.n bc (.n h1 (.n al (.n aR (.n b3 (.n c3 (.n eg (.n kn (.n p' (.n tg .nil))))))))))
theorem Hv {b:Bool}{g h:aU}{fl s1 s2 dX bK cD cY eU cL hB dg:Nat}{fv aE x2 aX bN ck bu bl bT ct bQ:ag}(bc:g fl=some fv) [cP fv] (h1:g s1=some aE) [cP aE] (al:g s2=some x2) [cP x2] (aR:g dX=some aX) [cP aX] (b3:g bK=some bN) [cP bN] (c3:g cD=some ck) [cP ck] (eg:g cY=some bu) [cP bu] (kn:g eU=some bl) [cP bl] (p':g cL=some bT) [cP bT] (tg:g hB=some ct) [cP ct] (PQ:g dg=some bQ) [cP bQ]:Trim b g h [(fl,fv),(s1,aE),(s2,x2),(dX,aX),(bK,bN),(cD,ck),(cY,bu),(eU,bl),(cL,bT),(hB,ct),(dg,bQ)]:=(.n bc (.n h1 (.n al (.n aR (.n b3 (.n c3 (.n eg (.n kn (.n p' (.n tg (.n PQ .nil)))))))))))
section
variable {P:Program}{N:dE}{ops:Array Oper}{g:aU}{K:aU->Prop}{l:List Oper}{d t:Nat}{ty:TypeId}{pos:String}{after:Array Edge}{v:Value}
theorem np {G1:List (Nat × ag)}(h:Trim true g (get G1) G1):ar P N ops [] g λg'=>kF g' (get G1):=.fin h
theorem br (h:g t=some (.lit v)) (hk:ar P N ops l (e2 g d (.lit v)) K) (bY:N.ok d=true:=by rfl) (bj:g d=none:=by rfl):ar P N ops (⟨some d,.move (.tmp t),ty,pos,after,none⟩::l) g K:=ah (O.aA (.lit h)) hk bY bj
theorem MY (h:g t=some (.lit v)) (hk:ar P N ops l (e2 g d (.lit v)) K) (bY:N.ok d=true:=by rfl) (bj:g d=none:=by rfl):ar P N ops (⟨some d,.assign (.tmp t),ty,pos,after,none⟩::l) g K:=ah (O.dv (.lit h)) hk bY bj
theorem MZ (h:ofConst v=.lit v) (hk:ar P N ops l (e2 g d (.lit v)) K) (bY:N.ok d=true:=by rfl) (bj:g d=none:=by rfl):ar P N ops (⟨some d,.assign (.const v),ty,pos,after,none⟩::l) g K:=ah (O.dv (.k h)) hk bY bj
end
end Go.Own
namespace Go.Own
open Go
section
variable {α:Type}{g:aU}
end
end Go.Own
namespace Go.Own
open Go
section
variable {α:Type}{P:Program}{N:dE}{g:aU}{d r:Nat}
theorem hQ.kA {o:Oper}{xs:List Operand}{ir:Array TypeId}{f:FuncId}{ys:List ag}{res:ag}{en:cx α}{L:List α}{G2:List (Nat × ag)}(bf:o.op=.call { callee:=.value (.func f),args:=xs.toArray,argTypes:=ir }) (aV:o.dst=some d) (J:Own.iz g xs=some (.bm en.z ⟨r,[]⟩ L.length::ys))
  (aP:g r=some (ak en L)) (iT:b_ P f (ak en L::ys) (none::ys.map λ_=>none) res) (bj:dw P f=true) [aw:cP res] [aN:eR ys]
  (eh:Trim false (c5 g ⟨r,[]⟩ .dead) (get G2) G2) (a7:get G2 d=none) (bY:N.ok d=true) :
  hQ P N g o d (get ((d,res)::G2)):=by
 have l':∀ x∈cf en L,c' x:=by
  intro x J
  obtain ⟨a,_,bg⟩:=List.mem_flatMap.1 J
  exact en.bI a x bg
 have fT:(cf en L).take (L.length * en.z)=cf en L:=List.take_of_length_le (by rw [nI]; exact Nat.le_refl _)
 have vn:gd (c5 g ⟨r,[]⟩ .dead) (get G2):=by
  refine ⟨λt x h=>?_,λt x h=>(eh.spec t x h).2.1,λt z q n m new h=>(eh.spec t _ h).2.2 _ _ _ _ _ rfl⟩
  obtain ⟨⟨y,h1,_,aR⟩,_⟩:=eh.spec t x h
  rw [<- aR rfl]; exact h1
 have vo:gd (get G2) (get G2):=⟨λt x h=>h,λt x h=>(eh.spec t x h).2.1,λt z q n m new h=>(eh.spec t _ h).2.2 _ _ _ _ _ rfl⟩
 have p_:get ((d,res)::G2)=e2 (get G2) d res:=by
  funext t
  rw [te]
 rw [p_]
 refine wi.ok (first:=[]) (caps:=[]) (ys:=.bm en.z ⟨r,[]⟩ L.length::ys) (tk:=λ_=>true) (vw:=false) (outs:=none::ys.map λ_=>none) (g1:=c5 g ⟨r,[]⟩ .dead) (g2:=get G2) (g4:=get G2) (l:=[]) (ks:=λ_=>0) (xs0:=.bm en.z ⟨r,[]⟩ L.length::ys) (xs1:=ak en L::ys) (args:=ak en L::ys) (res:=res) bf aV rfl (by simpa using J)
  ⟨bj,by simp,by simp,λk x h=>.inl (by simpa using h),?_,vn,λk x y J ay=>by simpa using ay,iT,by simpa using aw.bI,λk x h=>?_,λae p x aa=>by simp at aa,by simp,λi ae hi aa _=>by simp at hi,vo⟩ a7 bY ug.refl
 ·have h1:Take (c5 g ⟨r,[]⟩ .dead) ((cf en L).take (L.length * en.z)) (cf en L) (c5 g ⟨r,[]⟩ .dead):=by rw [fT]; exact .bI l'
  exact .bm (N:=L.length) (by simp [b8,aP,ag.at]) (Nat.le_refl _) h1 (.bI aN.bI)
 ·cases k with
  | zero=>simp at h
  | succ k =>
   simp only [List.getElem?_cons_succ,List.getElem?_map] at h
   cases bg:ys[k]? <;> rw [bg] at h <;> cases h
end
end Go.Own
namespace Go.Own
open Go
class uq (x:ag):Prop where pl:oA x
class Bg (cs:List ag):Prop where pl:∀ x∈cs,oA x
instance {v:Value}:uq (.lit v):=⟨.lit⟩
instance:uq .aJ:=⟨.aJ⟩
instance {z n:Nat}{cs:List ag} [h:eR cs]:uq (.aD z n cs):=⟨.aD h.bI⟩
instance {α:Type}{e:cx α}{L:List α}:uq (aj e L):=⟨.aD (eR.bI (cs:=cf e L))⟩
instance {cs:List ag} [h:Bg cs]:uq (.agg cs):=⟨.agg h.pl⟩
instance:Bg []:=⟨by simp⟩
instance {x:ag}{cs:List ag} [h:uq x] [aT:Bg cs]:Bg (x::cs):=⟨λy ay=>by
 rcases List.mem_cons.1 ay with rfl | ay
 ·exact h.pl
 ·exact aT.pl y ay⟩
class Be (G:List (Nat × ag)):Prop where bI:∀ t x,get G t=some x->c' x
instance:Be []:=⟨λt x h=>by cases h⟩
instance {s:Nat}{x:ag}{G:List (Nat × ag)} [h:cP x] [aT:Be G]:Be ((s,x)::G):=⟨λt y ay=>by
 simp only [get] at ay
 split at ay
 ·cases ay; exact h.bI
 ·exact aT.bI t y ay⟩
class wz (acc:Acc):Prop where bI:∀ e∈acc,∀ x,e.2.2=some x->c' x
instance:wz []:=⟨by simp⟩
instance {k d:Nat}{x:ag}{acc:Acc} [h:cP x] [aT:wz acc]:wz ((k,d,some x)::acc):=⟨λe he y ay=>by
 rcases List.mem_cons.1 he with rfl | he
 ·cases ay; exact h.bI
 ·exact aT.bI e he y ay⟩
instance {k d:Nat}{acc:Acc} [aT:wz acc]:wz ((k,d,none)::acc):=⟨λe he y ay=>by
 rcases List.mem_cons.1 he with rfl | he
 ·cases ay
 ·exact aT.bI e he y ay⟩
theorem Oa {G:List (Nat × ag)}{A:Nat->Bool}{acc:Acc} [h:Be G] [aT:wz acc]:Dw (ed (get G) A acc):=by
 have key:∀ t x,ed (get G) A acc t=some x->c' x:=λt x J=>by
  rcases sO J with ⟨e,he,_,_,al⟩ | ⟨_,al⟩
  ·exact aT.bI e he x al
  ·exact h.bI t x al
 exact ⟨λt x J=>.bI (key t x J),λt z q n m new J=>by cases key t _ J⟩
end Go.Own
namespace Go.Own
open Go Go.MapKept Go.ChangeMaps
section
variable {P:Program}{w:World}{I:bt}{T:Array Value}{g g2:aU}{Fs:Nat->bt}
end
end Go.Own
namespace Go.Own
open Go Go.MapKept Go.ChangeMaps Go.WideElems
open Go.Maps (Keyed)
set_option linter.unusedVariables false
variable {kf lz:Type}{P:Program}{k e:TypeId}
abbrev wA:Value->Option (DataW Value × List MemPlace):=λv=>some (.held v,[])
def nM [DecidableEq kf]:List (kf × lz)->kf->Option lz
 | [],_=>none
 | p::m,x=>if p.1=x then some p.2 else nM m x
def ss [DecidableEq kf] (ok:kf->Bool) (z:lz) (m:List (kf × lz)) (x:kf):Option lz:=if ok x then some ((nM m x).getD z) else none
def zL (ok:kf->Bool) (m:List (kf × lz)) (x:kf) (y:lz):Option (List (kf × lz)):=if ok x&&decide (m.length<=lim) then some ((x,y)::m) else none
structure Bb (P:Program) (k:TypeId) (kf:Type) where
 o1:kf->Value
 vp:kf->Lit
 Gq:kf->ag
 ok:kf->Bool
 keyed:Keyed P k
 key:∀ x,ok x=true->keyOf P k (o1 x)=some (vp x)
 inj:∀ x y,vp x=vp y->x=y
 Bp:∀ (x:kf) (w:World) (I:bt) (ρ:ag->Value->Prop) (v:Value),R w I ρ (Gq x) v cS->v=o1 x
structure Bc (P:Program) (e:TypeId) (lz:Type) where
 nO:lz->Value
 Dj:lz->ag
 z:lz
 zero:∀ w,(zeroValue e).run P w=.ok (nO z) w
 one:∀ x,(nO x).oneCell'=true
 Bp:∀ (x:lz) (w:World) (I:bt) (ρ:ag->Value->Prop) (v:Value),R w I ρ (Dj x) v cS->v=nO x
 va:∀ (x:lz) (w:World) (I:bt) (ρ:ag->Value->Prop),R w I ρ (Dj x) (nO x) cS
def vT (P:Program) (k:TypeId) (es:Array MapEntry):List (Lit × DataW Value):=(es.toList.map (rg P k wA)).foldr DataW.insert []
def rJ [DecidableEq kf] (K:Bb P k kf) (V:Bc P e lz) (m:List (kf × lz)):Array MapEntry->Nat->Prop:=λes c=>Fit P k wA es c/\es.size<=m.length/\∀ x Dp,(DataW.map (vT P k es)).atKey (K.vp x) Dp=match nM m x with | some y=>.held (V.nO y) | none=>Dp
variable [DecidableEq kf] {K:Bb P k kf}{V:Bc P e lz}{m b7:List (kf × lz)}{x:kf}{y:lz}{t:TypeId}
theorem rJ.nil:rJ K V [] #[] 0:=⟨⟨by simp,stamped_empty 0,by simp⟩,Nat.le_refl _,λx Dp=>rfl⟩
theorem rJ.look (ok:Bool) (eA:K.ok x=true) (aG:P.underlying t=some (.map k e)) (w:World) (b:Nat) (es:Array MapEntry) (c:Nat) (aI:w.heap[b]?=some (.map es c)) (h:rJ K V m es c) :
  (Instr.lookup t (.map (some b)) (K.o1 x) ok).run P w=.ok (if ok then .tuple #[V.nO ((nM m x).getD V.z),.bool (nM m x).isSome] else V.nO ((nM m x).getD V.z)) w:=by
 obtain ⟨F,_,fS⟩:=h
 have fS:=fS x
 rcases Maps.fit_look ok K.keyed aG (V.zero w) aI F (K.key x eA) with ⟨h7,_,al⟩ | ⟨kl,y,_,_,h7,ay,al,_⟩
 ·have:nM m x=none:=by
   cases a7:nM m x with
   | none=>rfl
   | some y =>
    have h1:=fS .nil
    rw [a7] at h1
    have aR:=al .nil
    unfold vT at h1
    rw [h1] at aR; cases aR
  rw [h7,this]; rfl
 ·cases ay
  cases a7:nM m x with
  | none =>
   have h1:=fS .nil
   rw [a7] at h1
   have aR:=al .nil
   unfold vT at h1
   rw [h1] at aR; cases aR
  | some y =>
   have h1:=fS .nil
   rw [a7] at h1
   have aR:=al .nil
   unfold vT at h1
   rw [h1] at aR
   have b3:kl.val=V.nO y:=by simpa using aR.symm
   rw [h7,b3]; rfl
theorem rJ.put (bc:zL K.ok m x y=some b7) (aG:P.underlying t=some (.map k e)) (w:World) (b:Nat) (es:Array MapEntry) (c:Nat) (aI:w.heap[b]?=some (.map es c)) (h:rJ K V m es c) :
  ∃ uN uz,(Instr.mapUpdate t (.map (some b)) (K.o1 x) (V.nO y)).run P w=.ok () (setBlock w b (.map uN uz))/\rJ K V b7 uN uz:=by
 unfold zL at bc
 split at bc
 ·rename_i ab
  cases bc
  simp only [Bool.and_eq_true,decide_eq_true_eq] at ab
  obtain ⟨eA,ao⟩:=ab
  obtain ⟨F,aP,fS⟩:=h
  have Kr:=K.key x eA
  obtain ⟨uN,uz,h7,fU,mG,_⟩:=Maps.fit_store (R':=wA) K.keyed aG aI F (by have:maxLen=9223372036854775807:=rfl; simp only [lim] at ao; omega) (λ_ _ _ _ bG=>bG) Kr (rfl:wA (V.nO y)=some (.held (V.nO y),[]))
  refine ⟨uN,uz,h7,fU,?_,λx' Dp=>?_⟩
  ·have dn:uN.size=((uN.toList.map (rg P k wA)).foldr DataW.insert []).length:=by rw [length_sorted]; simp
   rw [dn,mG]
   unfold putKey
   rw [length_insert]
   have cZ:=List.length_filter_le (notKey (K.vp x)) ((es.toList.map (rg P k wA)).foldr DataW.insert [])
   rw [length_sorted] at cZ
   simp at cZ ⊢
   omega
  ·have jV:(DataW.map (vT P k uN))=(DataW.map (vT P k es)).put (K.vp x) (.held (V.nO y)):=by
    rw [DataW.put_eq]; unfold vT; rw [mG]
   rw [jV]
   by_cases J:x=x'
   ·subst J
    rw [Maps.atKey_put_same ⟨_,rfl⟩ (K.keyed.key Kr)]
    simp [nM]
   ·rw [Maps.atKey_put_other (λe=>J (K.inj _ _ e).symm),fS]
    simp [nM,J]
 ·cases bc
section
variable {N:dE}{g:aU}{a b c:Operand}{p:Place}{ty:TypeId}
instance {q:Array MapEntry->Nat->Prop}:cP (.mp q):=⟨.mp⟩
instance {q:Array MapEntry->Nat->Prop}:cP (.imp q):=⟨.imp⟩
instance {q:Array MapEntry->Nat->Prop}:p1 (.mp q):=⟨.mp⟩
theorem O.zG {r:lz}{X Y:ag}(hm:Rd g a (.imp (rJ K V m))) (J:Rd g b Y) (QI:K.Gq x=Y) (aG:P.underlying t=some (.map k e)) (h:ss K.ok V.z m x=some r) (E0:V.Dj r=X):dr P g (.lookup t a b false) ty X:=by
 subst E0 QI
 unfold ss at h
 split at h
 ·rename_i eA
  cases h
  exact .fk (.zG hm.bL J.bL (K.Bp x) (V.va _) λw b es c aI bP=>rJ.look false eA aG w b es c aI bP)
 ·cases h
end
def qw (n:Int):Bool:=decide (-9223372036854775808<=n/\n<9223372036854775808)
def MU (hk:P.underlying k=some (.int .i64)):Bb P k Int where
 o1 n:=.int .i64 n
 vp n:=.int .i64 n
 Gq n:=j n
 ok:=qw
 keyed:=Maps.int_keyed hk
 key n h:=Maps.keyOf_int_mk hk (by
  unfold qw at h
  have:=of_decide_eq_true h
  unfold Lit.wf
  rw [Bool.and_eq_true]
  refine ⟨decide_eq_true ?_,decide_eq_true ?_⟩
  ·show (-9223372036854775808:Int)<=n; omega
  ·show n<=(9223372036854775807:Int); omega)
 inj x y h:=by cases h; rfl
 Bp x w I ρ v h:=h.h9.1
def MV (bG:(P.info? e).bind (·.zero)=some (.int .i64 0)):Bc P e Int where
 nO n:=.int .i64 n
 Dj n:=j n
 z:=0
 zero w:=DR bG w
 one _:=rfl
 Bp x w I ρ v h:=h.h9.1
 va x w I ρ:=.lit rfl λ_ h=>h
end Go.Own
namespace Go.Own
open Go
section
variable {α:Type}{P:Program}{N:dE}{g:aU}{d r:Nat}{ty t t2 e:TypeId}{a b:Operand}{k k':IntKind}{m n:Int}{p:Place}
def qU (k:IntKind) (m n:Int):Int:=k.wrap ((BitVec.ofInt k.bits m &&& BitVec.ofInt k.bits n).toNat)
theorem O.and' (J:Rd g a (.lit (.int k m))) (ay:Rd g b (.lit (.int k n))):dr P g (.binOp .and t a b t2) ty (.lit (.int k (qU k m n))) :=
 .fk (.bin J.bL ay.bL rfl λw=>by simp [eqGuard,binOp,Op.intBits,qU])
theorem W.N_ {x y:Code}{G:List (Nat × ag)}{Φ:Exit->aU->Prop}(h:W P N y (get G) Φ):W P N (.cond (.const (.bool false)) x y) (get G) Φ:=W.Ee rfl h
def tJ (L:List α) (m:Int):Option Unit:=if 0<=m/\m<=L.length then some () else none
theorem SP {L:List α}{u:Unit}(h:tJ L m=some u):m.toNat<=L.length:=by
 unfold tJ at h
 split at h
 ·omega
 ·cases h
instance:um aL:=⟨λx=>[.int .i64 x],λ_=>rfl,λx v hv=>by rw [List.mem_singleton.1 hv]; rfl⟩
theorem O.Hl {en:cx α}{L:List α}{u:Unit}(J:Rd g a (.bm en.z p L.length)) (ao:Rd g b (.lit (.int k m))) (aF:b8 g p=some (ak en L)) (aG:fm P t e en.z=true) (h:tJ L m=some u):dr P g (.slice t a (some b) none none) ty (.sub en.z p m.toNat (L.length - m.toNat)):=by
 unfold tJ at h
 split at h
 ·rename_i ab
  obtain ⟨i,rfl⟩:=Int.eq_ofNat_of_zero_le ab.1
  exact .fk (.Db J.bL ⟨_,ao.bL⟩ rfl aG (by omega) (Nat.le_refl _) ⟨_,_,aF,by omega⟩)
 ·cases h
theorem O.T0 {en:cx α}{L:List α}{u:Unit}(J:Rd g a (.bm en.z p L.length)) (b9:Rd g b (.lit (.int k m))) (aF:b8 g p=some (ak en L)) (aG:fm P t e en.z=true) (h:tJ L m=some u):dr P g (.slice t a none (some b) none) ty (.bm en.z p m.toNat):=by
 unfold tJ at h
 split at h
 ·rename_i ab
  obtain ⟨i,rfl⟩:=Int.eq_ofNat_of_zero_le ab.1
  exact .fk (.Dc J.bL rfl ⟨_,b9.bL⟩ aG (by omega) (.inl ⟨_,_,aF,by omega⟩))
 ·cases h
def BJ (lo nd:Nat) (L S:List α):Option (List α):=if 0<min S.length nd/\lo+nd<=L.length then some (L.take lo++S.take (min S.length nd)++L.drop (lo+min S.length nd)) else none
def zJ (e:cx α) [h:um e] (L:List α):List Value:=L.flatMap h.Dk
theorem GB (e:cx α) [h:um e] (L:List α):cf e L=(zJ e L).map .lit:=by
 induction L with
 | nil=>rfl
 | cons x L aS =>
  have:cf e (x::L)=e.cells x++cf e L:=by simp [cf]
  rw [this,aS,h.cells]
  simp [zJ]
theorem DC.aD {en:cx α}{S:List α}:Src g (aj en S) en.z S.length (cf en S):=.aD
theorem DC.bm {en:cx α} [um en] {L:List α}{q:Place}{n:Nat}(bP:b8 g q=some (ak en L)) (aN:n<=L.length):Src g (.bm en.z q n) en.z (L.take n).length (cf en (L.take n)):=by
 have h1:(L.take n).length=n:=by rw [List.length_take]; omega
 have al:cf en (L.take n)=(((cf en L).take (n * en.z)).mapIdx λi x=>h_ 0 (q.push i) x):=by
  rw [xQ,GB]
  apply List.ext_getElem?
  intro ae
  rw [List.getElem?_mapIdx]
  cases aa:((zJ en (L.take n)).map ag.lit)[ae]? with
  | none=>rfl
  | some y =>
   obtain ⟨v,_,rfl⟩:=List.mem_map.1 (List.mem_of_getElem? aa)
   rfl
 rw [h1,al]
 exact .bm bP aN
theorem T1 {z:Nat}(h:fm P t e z=true):(P.info? e).map (·.size)=some z:=by
 unfold fm at h
 cases hu:P.underlying t with
 | none=>simp [hu] at h
 | some d =>
  cases hi:P.info? e with
  | none=>cases d <;> simp [hu,hi] at h
  | some i=>cases d <;> simp [hu,hi] at h; simp [h]
theorem cm.b6 {o:Oper}{en:cx α} [ao:um en] {L S L':List α}{lo nd:Nat}{HE jS:ag}{G2:List (Nat × ag)}(bf:o.op=.call { callee:=.builtin .copy,args:=#[a,b],argTypes:=#[t,t2] }) (aV:o.dst=some d) (bg:bL g a=some HE) (SB:HE=.sub en.z ⟨r,[]⟩ lo nd\/(HE=.bm en.z ⟨r,[]⟩ nd/\lo=0)) (aI:bL g b=some jS)
  (qk:Src g jS en.z S.length (cf en S)) (aP:g r=some (ak en L)) (xh:en.z=1) (aG:fm P t e 1=true) (h:BJ lo nd L S=some L') (me:(get G2 r).isSome=true) (eh:kY g (get G2) r (ak en L') G2) (tt:get G2 d=none) (bY:N.ok d=true) :
  cm P N g o (get ((d,j ((min S.length nd:Nat):Int))::G2)):=by
 unfold BJ at h
 by_cases ab:0<min S.length nd/\lo+nd<=L.length
 case neg=>rw [if_neg ab] at h; cases h
 rw [if_pos ab] at h
 obtain ⟨w7,VK⟩:=ab
 cases h
 generalize hk:min S.length nd=k at *
 have VJ:k<=S.length:=by omega
 have VL:k<=nd:=by omega
 refine .L9 λw I T Fs h cy B8 Qv K Q B6=>?_
 obtain ⟨hu,he,gh⟩:=pa (w:=w) aG
 have aF:b8 g ⟨r,[]⟩=some (ak en L):=by simp [b8,aP,ag.at]
 have J2:=kT h bg B8
 obtain ⟨v0,cJ,jj,dQ,dz⟩:=h.part aF (by simp)
 obtain ⟨a0,U5,rfl,kM,hlen,pH,rh⟩:=dQ.mq
 have Qr:0<L.length:=by omega
 cases a0 with
 | none=>have:=rh Qr; simp at this
 | some H8 =>
 obtain ⟨zd,ze⟩:=pH H8 rfl
 obtain ⟨g0,V_,Wa⟩:=H8
 simp only at zd ze
 subst zd ze
 have ny:cJ g0:=dQ.o5 g0 rfl
 -- the target
 have Fb:∃ cap,cy.eval a=.slice (some ⟨g0,lo,none⟩) nd cap:=by
  rcases SB with rfl | ⟨rfl,rfl⟩
  ·obtain ⟨⟨kH,sW,NQ,av,c1,h1,al,_,_,c3⟩,_⟩:=J2.vh
   rw [h1] at jj
   cases jj
   obtain ⟨ad,dn,cZ⟩:=c3 (by omega)
   cases dn
   rw [al,cZ,xh]
   exact ⟨c1,by simp⟩
  ·obtain ⟨⟨kH,sW,NQ,h1,al,_⟩,_⟩:=J2.mj
   rw [h1] at jj
   cases jj
   exact ⟨_,al⟩
 obtain ⟨Pb,Fb⟩:=Fb
 -- the source
 obtain ⟨AI,TU,news,sh,FF,zo,ll,hK,gx,bh⟩:=qk.sound h (kT h aI B8)
 rw [xh,Nat.mul_one] at FF
 cases AI with
 | none=>have:=zo (by omega) (by omega); simp at this
 | some L2 =>
 have VU:news=zJ en S:=by
  rw [GB,List.length_map] at hK
  apply List.ext_getElem hK.symm
  intro ae h1 al
  have:=(bh ae (.lit (zJ en S)[ae]) news[ae] (by rw [GB,List.getElem?_map,List.getElem?_eq_getElem al]; rfl) (List.getElem?_eq_getElem h1)).h9.1
  exact this
 -- the block
 cases dQ with
 | ref J=>simp [ag.isRef] at J
 | @own _ _ _ _ cQ us bR _ n_ hY h1 aw nz jY aQ =>
 obtain ⟨mf,b9⟩:=n_
 rcases b9 with ⟨b9,_⟩ | ⟨iI,cap,cur,b9,sy,gm,tU,rr,tV,sz⟩
 ·cases b9
 cases b9
 have Kb:L.length<=cur.size:=by
  have tg:(cur.toList.take (L.length * en.z)).length=L.length * en.z:=by rw [sz,mf]
  rw [List.length_take,xh,Nat.mul_one,Array.length_toList] at tg
  rw [xh] at tV
  omega
 have B':(news.take k).length=k:=by rw [List.length_take]; omega
 have h7:(execOp cy.eval o).run P w=.ok (.value (goInt k)) (w.setRow g0 (fB cur.toList lo (news.take k)).toArray):=by
  have p':=run_copy_row (P:=P) w t t2 o.type e g0 lo nd Pb L2 S.length TU cur cQ (news.take k) hu (T1 aG) gm (by rw [B']; exact hk.symm) (λae v aa=>by
   rw [List.getElem?_take] at aa
   split at aa
   ·exact ll L2 rfl ae v aa
   ·cases aa) (by rw [B']; omega) (λv hv=>by
   obtain ⟨ae,aa⟩:=List.getElem?_of_mem (List.mem_of_mem_take hv)
   exact gx ae v aa)
  rw [B'] at p'
  have p_:(cur.toList.take lo++news.take k++cur.toList.drop (lo+k))=fB cur.toList lo (news.take k):=by unfold fB; rw [B']
  rw [p_] at p'
  simp [execOp,bf,resolve,invoke,Fb,sh,builtin,p']
 -- the state
 have RR:∀ (ae:Nat) (x:ag) (u:Value),((cf en S).take k)[ae]?=some x->(news.take k)[ae]?=some u->R w I (f_ w T) x u cS:=λae x u J hu=>by
  rw [List.getElem?_take] at J hu
  split at J
  ·rename_i aa
   rw [if_pos aa] at hu
   exact (bh ae x u J hu).frame (λ_ _=>rfl) (λ_ h=>h) (λ_ _ h=>h.1) λ_ _=>rfl
  ·cases J
 have hH:Hand w I (f_ w T) Fs ((cf en S).take k) (news.take k) (λ_=>cS) :=
  ⟨by rw [List.length_take,List.length_take,hK],RR,λ_ _ _ _ _ h=>h.elim,λ_ _ _ _ h=>h.elim,λ_ _ _ h=>h.elim⟩
 have Ka:((cf en S).take k).length=k:=by rw [List.length_take,hK]; omega
 have Qq:(cf en L).length=L.length:=by rw [nI,xh,Nat.mul_one]
 have qi:(ak en L).fB lo ((cf en S).take k)=ak en (L.take lo++S.take k++L.drop (lo+k)):=by
  show ag.own en.z L.length (fB (cf en L) lo ((cf en S).take k))=_
  have dn:fB (cf en L) lo ((cf en S).take k)=cf en (L.take lo++S.take k++L.drop (lo+k)):=by
   unfold fB
   rw [Ka,vN,vN]
   have jQ:=xQ en L lo
   have C1:=xQ en S k
   have AE:=AH en L (lo+k)
   rw [xh,Nat.mul_one] at jQ C1 AE
   rw [jQ,C1,AE]
  unfold ak
  rw [dn]
  congr 1
  simp; omega
 have RK:∀ (ae:Nat) (u:Value),(news.take k)[ae]?=some u->u.oneCell'=true:=λae u hu=>by
  rw [List.getElem?_take] at hu
  split at hu
  ·exact gx ae u hu
  ·cases hu
 have c1:∀ t x,get G2 t=some x->c5 g ⟨r,[]⟩ ((ak en L).fB lo ((cf en S).take k)) t=some x:=λt x J=>by
  rw [qi]
  rcases eh.spec t x J with ⟨h1,al,_⟩ | ⟨h1,al,_⟩
  ·rw [sE h1]; exact al
  ·subst h1 al; simp [c5,aP,ag.setAt]
 have c2:∀ t x,get G2 t=some x->∀ y,g t=some y->j7 (λq=>hc g q/\Clear ⟨r,[]⟩ lo ((cf en S).take k).length q/\hc (get G2) q) y:=λt x J y ay=>by
  rcases eh.spec t x J with ⟨h1,al,aR⟩ | ⟨h1,al,aR⟩
  ·rw [al] at ay; cases ay
   rcases aR with aR | ⟨_,c2,Po⟩
   ·exact aR.G9
   ·cases Po
  ·subst h1; rw [aP] at ay; cases ay; exact .bI (.own (nJ en L))
 have l4:∀ t z q n m new,get G2 t≠some (.b2 z q n m new):=λt z q n m new J=>by
  rcases eh.spec t _ J with ⟨_,_,aR | ⟨aR,_⟩⟩ | ⟨_,_,aR⟩
  ·exact aR.fP _ _ _ _ _ rfl
  ·exact aR.fP _ _ _ _ _ rfl
  ·cases aR
 obtain ⟨iN,h5,gJ⟩:=h.lY.store (g2:=get G2) aF (.inl rfl) (k:=lo) (cs':=(cf en S).take k) (by rw [Ka,Qq]; omega) hH (λx J=>nJ en S x (List.mem_of_mem_take J)) RK c1 c2 l4 (by intro e; rw [e] at me; cases me) jj rfl gm
 have mG:=h5.sw (d:=d) (x:=j (k:Int)) (v:=goInt k) (F:=cS) tt (by rw [<- B8,Qv]; exact dE.lt bY) (.tree (.lit rfl λ_ h=>h)) (λ_ _ h=>h.elim) (λ_ h=>h.elim) (by rintro z p n m new e; cases e)
 unfold Oper.wp Oper.upon
 simp only [h7]
 have p_:get ((d,j (k:Int))::G2)=e2 (get G2) d (j (k:Int)):=by
  funext t
  rw [te]
 rw [<- p_] at mG
 have E8:∃ t,Fs t g0:=⟨_,dz g0 ny⟩
 refine B6 _ _ ⟨by rw [aV]; rfl,by rw [aV]; exact hR.put bY _ _,I,_,by rw [aV]; simpa [Act.put,B8] using mG,⟨⟨rfl,rfl,rfl,by simp,λc _ ab=>setRow_other w g0 c _ (λe=>ab (e ▸ E8)),λa _=>Ez w g0 _ a,Nat.le_refl _⟩,λ_ h=>h,λ_ h=>.inl h,λc ab=>?_⟩⟩ λt aG=>by rw [aV]; simp only [Act.put]; rw [Array.getElem?_setIfInBounds_ne]; rintro rfl; exact aG aV
 obtain ⟨t,ab⟩:=ab
 simp only [sN] at ab
 split at ab
 ·exact ab.elim
 ·rcases gJ t c ab with gD | ⟨_,_,gD⟩
  ·exact .inl ⟨t,gD⟩
  ·exact gD.elim
end
end Go.Own
namespace Go.Own
open Go
def C6 (eL:List Nat) (o:Oper):Oper:=⟨o.dst,o.op,o.type,o.pos,o.after.map λe=>⟨eL.idxOf e.on,e.ground⟩,o.guard.map λp=>(eL.idxOf p.1,p.2)⟩
def ku (eL:List Nat) (l:List Oper):List Oper:=eL.map λk=>C6 eL (l.getD k default)
def GM (eL:List Nat) (n:Nat):Bool:=Nat.beq eL.length n&&(List.range n).all λk=>eL.contains k&&Nat.blt (eL.getD k n) n&&Nat.beq (eL.idxOf (eL.getD k n)) k
structure Perm (eL:List Nat) (n:Nat):Prop where
 len:eL.length=n
 mem:∀ k,k<n->eL.idxOf k<n/\eL.getD (eL.idxOf k) n=k
 lt:∀ ae,ae<n->eL.getD ae n<n/\eL.idxOf (eL.getD ae n)=ae
theorem Tt {eL:List Nat}{n:Nat}(h:GM eL n=true):Perm eL n:=by
 unfold GM at h
 simp only [Bool.and_eq_true,Nat.beq_eq,List.all_eq_true,List.mem_range,Nat.blt_eq] at h
 obtain ⟨ao,hf⟩:=h
 refine ⟨ao,λk hk=>?_,λae aa=>⟨(hf ae aa).1.2,(hf ae aa).2⟩⟩
 have hm:k∈eL:=by have:=(hf k hk).1.1; simpa using this
 have h1:=List.idxOf_lt_length_iff.2 hm
 refine ⟨by omega,?_⟩
 rw [List.getD_eq_getElem?_getD,List.getElem?_eq_getElem h1,List.getElem_idxOf]
 rfl
section
variable {P:Program}{Q:Exit->Act->World->Prop}{eL:List Nat}{l:List Oper}
theorem GN (jl:Perm eL l.length) {ae:Nat}(aa:ae<l.length):(ku eL l).toArray[ae]?=some (C6 eL (l.getD (eL.getD ae l.length) default))/\l.toArray[eL.getD ae l.length]?=some (l.getD (eL.getD ae l.length) default):=by
 have h1:ae<eL.length:=by rw [jl.len]; exact aa
 have al:=(jl.lt ae aa).1
 constructor
 ·simp only [ku,List.getElem?_toArray,List.getElem?_map,List.getD_eq_getElem?_getD,List.getElem?_eq_getElem h1,Option.map_some,Option.getD_some]
 ·rw [List.getElem?_toArray,List.getD_eq_getElem?_getD (l:=l),List.getElem?_eq_getElem al]; rfl
theorem Lv (jl:Perm eL l.length) {A B:Array Bool}(dW:A.size=l.length) (ij:B.size=l.length) (pC:∀ ae,ae<l.length->B.getD ae true=A.getD (eL.getD ae l.length) true) {ae:Nat}(aa:ae<l.length) :
  eL.getD ae l.length∈Region.ready .any l.toArray A↔ae∈Region.ready .any (ku eL l).toArray B:=by
 obtain ⟨h1,al⟩:=GN jl aa
 have Mp:∀ {C:Array Bool}{k:Nat},k<C.size->C.getD k false=C.getD k true:=λ{C k} h=>by simp [Array.getD,h]
 have gone:∀ {C:Array Bool}{k:Nat},¬ k<C.size->C.getD k false=false:=λ{C k} h=>by simp [Array.getD,h]
 have Jb:∀ m,A.getD m false=true↔B.getD (eL.idxOf m) false=true:=λm=>by
  by_cases hm:m<l.length
  ·obtain ⟨aR,b3⟩:=jl.mem m hm
   rw [Mp (by omega),Mp (by omega),pC _ aR,b3]
  ·have c3:¬ eL.idxOf m<l.length:=λh=>by
    have eg:=List.idxOf_lt_length_iff.1 (by rw [jl.len]; exact h)
    obtain ⟨i,hi,e⟩:=List.mem_iff_getElem.1 eg
    have:=(jl.lt i (by rw [<- jl.len]; exact hi)).1
    rw [List.getD_eq_getElem?_getD,List.getElem?_eq_getElem hi] at this
    simp only [Option.getD_some] at this
    omega
   rw [gone (by omega),gone (by omega)]
 rw [mem_ready,mem_ready,pC ae aa]
 constructor
 ·rintro ⟨a,o,bf,h⟩
  rw [al] at bf
  cases bf
  refine ⟨a,_,h1,λe he aI=>?_⟩
  obtain ⟨kl,Rj,rfl⟩:=Array.mem_map.1 he
  exact (Jb _).1 (h kl Rj aI)
 ·rintro ⟨a,o,bf,h⟩
  rw [h1] at bf
  cases bf
  refine ⟨a,_,al,λe he aI=>?_⟩
  exact (Jb _).2 (h ⟨eL.idxOf e.on,e.ground⟩ (Array.mem_map.2 ⟨e,he,rfl⟩) aI)
theorem Tv (jl:Perm eL l.length) (o:Oper) (T:Array Value):Region.wanted (C6 eL o) (yielded (ku eL l).toArray T)=Region.wanted o (yielded l.toArray T):=by
 unfold Region.wanted C6
 cases a7:o.guard with
 | none=>rfl
 | some p =>
  obtain ⟨m,b⟩:=p
  simp only [Option.map_some]
  have:yielded (ku eL l).toArray T (eL.idxOf m)=yielded l.toArray T m:=by
   unfold yielded
   by_cases hm:m<l.length
   ·obtain ⟨aR,b3⟩:=jl.mem m hm
    obtain ⟨h1,al⟩:=GN jl aR
    rw [b3] at h1 al
    rw [h1,al]
    rfl
   ·have c3:¬ eL.idxOf m<l.length:=λh=>by
     have eg:=List.idxOf_lt_length_iff.1 (by rw [jl.len]; exact h)
     obtain ⟨i,hi,e⟩:=List.mem_iff_getElem.1 eg
     have:=(jl.lt i (by rw [<- jl.len]; exact hi)).1
     rw [List.getD_eq_getElem?_getD,List.getElem?_eq_getElem hi] at this
     simp only [Option.getD_some] at this
     omega
    have dn:(ku eL l).toArray[eL.idxOf m]?=none:=by
     rw [List.getElem?_toArray]; exact List.getElem?_eq_none (by simp [ku,jl.len]; omega)
    have cZ:l.toArray[m]?=none:=by rw [List.getElem?_toArray]; exact List.getElem?_eq_none (by omega)
    rw [dn,cZ]
  rw [this]
theorem Tu (jl:Perm eL l.length):∀ (fuel:Nat) (A B:Array Bool) (a:Act) (w:World),A.size=l.length->B.size=l.length->(∀ ae,ae<l.length->B.getD ae true=A.getD (eL.getD ae l.length) true) ->
  wpAny P .any (ku eL l).toArray Q fuel B a w->wpAny P .any l.toArray Q fuel A a w:=by
 have lift:∀ {A B:Array Bool},A.size=l.length->B.size=l.length->(∀ ae,ae<l.length->B.getD ae true=A.getD (eL.getD ae l.length) true)->∀ k,k∈Region.ready .any l.toArray A->∃ ae,ae<l.length/\eL.getD ae l.length=k/\ae∈Region.ready .any (ku eL l).toArray B:=λ{A B} dW ij pC k hk=>by
  have dS:k<l.length:=by
   obtain ⟨_,o,bf,_⟩:=mem_ready.1 hk
   have:=(Array.getElem?_eq_some_iff.1 bf).1
   simpa using this
  obtain ⟨aR,b3⟩:=jl.mem k dS
  exact ⟨_,aR,b3,(Lv jl dW ij pC aR).1 (by rw [b3]; exact hk)⟩
 have nil:∀ {A B:Array Bool},A.size=l.length->B.size=l.length->(∀ ae,ae<l.length->B.getD ae true=A.getD (eL.getD ae l.length) true)->Region.ready .any l.toArray A=[]->Region.ready .any (ku eL l).toArray B=[]:=λ{A B} dW ij pC h=>by
  cases aw:Region.ready .any (ku eL l).toArray B with
  | nil=>rfl
  | cons ae r =>
   have aa:ae∈Region.ready .any (ku eL l).toArray B:=by rw [aw]; simp
   have fg:ae<l.length:=by
    obtain ⟨_,o,bf,_⟩:=mem_ready.1 aa
    have:=(Array.getElem?_eq_some_iff.1 bf).1
    simpa [ku,jl.len] using this
   have:=(Lv jl dW ij pC fg).2 aa
   rw [h] at this; cases this
 intro fuel
 induction fuel with
 | zero =>
  intro A B a w dW ij pC h
  refine ⟨?_,h.2⟩
  cases aw:Region.ready .any l.toArray A with
  | nil=>rfl
  | cons k r =>
   obtain ⟨ae,_,_,aa⟩:=lift dW ij pC k (by rw [aw]; simp)
   rw [h.1] at aa; cases aa
 | succ fuel aS =>
  intro A B a w dW ij pC h
  refine ⟨λaw=>h.1 (nil dW ij pC aw),λk hk=>?_⟩
  obtain ⟨ae,fg,rfl,aa⟩:=lift dW ij pC k hk
  have aP:=h.2 ae aa
  obtain ⟨h1,al⟩:=GN jl fg
  have P_:∀ i,i<l.length->(B.setIfInBounds ae true).getD i true=(A.setIfInBounds (eL.getD ae l.length) true).getD (eL.getD i l.length) true:=λi hi=>by
   have bd:=(jl.lt ae fg).1
   have FA:=(jl.lt i hi).1
   have e:∀ (C:Array Bool) (p q:Nat),p<C.size->q<C.size->(C.setIfInBounds p true).getD q true=if q=p then true else C.getD q true:=λC p q aF bP=>by
    by_cases h:q=p
    ·subst h; simp [Array.getD,bP]
    ·rw [if_neg h]; simp [Array.getD,bP,Array.getElem_setIfInBounds_ne,Ne.symm h]
   rw [e B ae i (by omega) (by omega),e A _ _ (by omega) (by omega),pC i hi]
   by_cases h:i=ae
   ·subst h; simp
   ·rw [if_neg h,if_neg]
    intro aT
    have:=(jl.lt i hi).2
    rw [aT,(jl.lt ae fg).2] at this
    exact h this.symm
  have mono:∀ a w,wpAny P .any (ku eL l).toArray Q fuel (B.setIfInBounds ae true) a w->wpAny P .any l.toArray Q fuel (A.setIfInBounds (eL.getD ae l.length) true) a w:=λa w aT=>aS _ _ a w (by simpa using dW) (by simpa using ij) P_ aT
  unfold wpOp at aP ⊢
  rw [al]
  rw [h1] at aP
  simp only [Tv jl] at aP
  show if Region.wanted (l.getD (eL.getD ae l.length) default) (yielded l.toArray a.tmps)=true then _ else _
  split
  ·rename_i hw
   rw [if_pos hw] at aP
   exact aP.imp (λaT=>Oper.wp_mono mono aT) id
  ·rename_i hw
   rw [if_neg hw] at aP
   exact mono _ _ aP
end
section
variable {P:Program}{N:dE}
theorem W.TC {id:Nat}{l:List Oper}{G:List (Nat × ag)}{Φ:Exit->aU->Prop}(eL:List Nat) (cc:List (List Nat)) (G1:List (Nat × ag)) (hm:P.follows .mixedOrders=true) (dW:qT (ku eL l).toArray cc=true) (jl:GM eL l.length=true)
  (h:bV P N (ku eL l).toArray cc (get G) 0 [] (ku eL l) λg'=>kF g' (get G1)) (hk:ai .normal Φ G1):W P N (.region id l.toArray true) (get G) Φ:=by
 have aF:=Tt jl
 obtain ⟨g',h1,al⟩:=h [] 0 .nil .nil (by simp)
 have gh:(ku eL l).toArray.size=l.length:=by simp [ku,aF.len]
 refine gB.w (g':=g') (e:=.normal) ?_ (hk g' (.fW al .gZ))
 intro Q a w I Fs b1 bY dP
 refine wp_region_any hm ?_
 have eD:cW w.drew I a.tmps (get G) Fs:=b1.world (λ_ _ _=>rfl) (λ_ _=>rfl) (Nat.le_refl _)
 have hf:∀ k,e4 (Array.replicate (ku eL l).toArray.size false) k=false:=by
  intro k
  unfold e4
  rcases Nat.lt_or_ge k (ku eL l).toArray.size with h | h
  ·simp only [gh] at h ⊢; simp [h]
  ·simp only [gh] at h ⊢; simp [Array.getElem?_eq_none (show (Array.replicate l.length false).size<=k by simpa using h)]
 refine Tu aF _ _ (Array.replicate l.length false) a w.drew (by simp) (by simp) (λae aa=>?_) ?_
 ·have:=(aF.lt ae aa).1
  rw [List.getD_eq_getElem?_getD] at this
  simp [Array.getD,aa]
  exact this
 have tg:=h1.sound dW .nil (ku eL l).toArray.size (Array.replicate (ku eL l).toArray.size false) a w.drew I Fs ?_ (by simp) (λk hk=>by omega) (λk _=>hf k) (λk hk=>by rw [hf] at hk; cases hk) eD bY (λcy w' aN=>dP _ _ ?_)
 ·simpa [gh] using tg
 ·unfold hF
  exact Nat.le_trans (List.length_filter_le _ _) (by simp)
 ·obtain ⟨dn,cZ,I',cq,h5,cd⟩:=aN
  exact ⟨dn,cZ,I',cq,h5,⟨⟨cd.fy.os,cd.fy.tape,cd.fy.output,cd.fy.size,cd.fy.block,cd.fy.fE,Nat.le_trans (Nat.le_succ _) cd.fy.wS⟩,cd.more,cd.new,cd.own⟩⟩
end
end Go.Own
namespace Go.Own
open Go
section
variable {α:Type}{P:Program}{N:dE}{g:aU}{a b:Operand}{t:TypeId}{m i:Int}
theorem cm.T5 {hA:Oper}{en:cx α}{LL:List (List α)}{L:List α}{jF y2:α}{o r:Nat}{path:List Nat}{y:ag}{cs':List ag}{x2:ag}{G2:List (Nat × ag)}(bf:hA.op=.store t a b) (aV:hA.dst=none) (bg:Rd g a (.ptr ⟨r,path++[i.toNat * (fa en).z+0]⟩ (m.toNat * en.z+o))) (aI:Rd g b y)
  (aF:b8 g ⟨r,path⟩=some (ak (fa en) LL)) (hi:idx LL i=some L) (h:idx L m=some jF) (bG:gp P t cs'.length=true) (ab:qY y=some cs') (he:fB (en.cells jF) o cs'=en.cells y2) (hlen:Nat.ble (o+cs'.length) en.z=true) (bc:Nat.blt 0 cs'.length=true)
  (ho:c5 g ⟨r,path⟩ (ak (fa en) (LL.set i.toNat (L.set m.toNat y2))) r=some x2) (aw:(get G2 r).isSome=true) [aN:cP y] {y0:ag}(vd:g r=some y0) [gY:cP y0] (eh:kY g (get G2) r x2 G2):cm P N g hA (get G2):=by
 have fS:b8 g ⟨r,path++[i.toNat * (fa en).z+0]⟩=some (ak en L):=qW (g:=g) (r:=r) (path:=path) aF hi rfl
 have tC:(cf (fa en) LL).set (i.toNat * (fa en).z+0) (ak en (L.set m.toNat y2))=cf (fa en) (LL.set i.toNat (L.set m.toNat y2)):=by
  have h1:=G' (fa en) (o:=0) (cs':=[ak en (L.set m.toNat y2)]) (y2:=L.set m.toNat y2) hi (by simp [fB,fa]) (by simp [fa])
  rw [<- h1]
  unfold fB
  have bd:i.toNat * (fa en).z+0<(cf (fa en) LL).length:=by
   obtain ⟨tT,jQ,_⟩:=pM hi
   rw [nI]
   show i.toNat * 1+0<LL.length * 1
   omega
  rw [List.set_eq_take_append_cons_drop,if_pos bd]
  simp
 refine cm.pb (p:=⟨r,path++[i.toNat * (fa en).z+0]⟩) bf aV bg aI fS h bG ab he hlen bc (x2:=x2) ?_ aw vd eh
 show c5 g ⟨r,path++[i.toNat * (fa en).z+0]⟩ (ak en (L.set m.toNat y2)) r=some x2
 rw [Mc _ aF hi rfl,tC]
 have ao:(LL.set i.toNat (L.set m.toNat y2)).length=LL.length:=List.length_set
 rw [<- ho]
 unfold ak
 rw [ao]
end
end Go.Own
namespace Go.Proofs
open Go Go.Own
set_option maxRecDepth 100000
set_option linter.unusedVariables false
structure Act where
 Kind:Int
 N:Int
 deriving DecidableEq,Inhabited
def CU (a0:Act):Option (Int) :=
 ((bif decide (a0.Kind=1) then (bif decide (0<=a0.N) then some (decide (a0.N<20000)) else some false) else some false)).bind λl4 =>
 (bif l4 then
 some (aM (a0.N+1))
 else
 ((bif decide (a0.Kind=2) then (bif decide (0<a0.N) then some (decide (a0.N<20000)) else some false) else some false)).bind λp7 =>
 (bif p7 then
 some (aM (-a0.N))
 else
 ((bif decide (a0.Kind=3) then some (decide (a0.N=0)) else some false)).bind λje =>
 (bif je then
 some 20001
 else
 ((bif decide (a0.Kind=4) then some (decide (a0.N=0)) else some false)).bind λmC =>
 (bif mC then
 some 20002
 else
 some 0))))
def z7 (a0:Int):Option (Bool) :=
 ((bif decide (97<=a0) then (bif decide (a0<=122) then some true else (bif decide (65<=a0) then (bif decide (a0<=90) then some true else some (decide (a0=95))) else some (decide (a0=95)))) else (bif decide (65<=a0) then (bif decide (a0<=90) then some true else some (decide (a0=95))) else some (decide (a0=95))))).bind λp7 =>
 some p7
def z8 (a0:Int):Option (Bool) :=
 ((bif decide (48<=a0) then some (decide (a0<=57)) else some false)).bind λc2 =>
 some c2
def z1 (a0:ByteArray) (av:Int):Option (Int) :=
 (cK (R:=Int) (λ(s1:Int) =>
 ((bif decide (aM (av+s1)<(a0.size:Int)) then ((kI a0 (aM (av+s1))).bind λck=>((z7 ck).bind λbu=>(bif bu then some true else (bif decide (0<s1) then ((kI a0 (aM (av+s1))).bind λct=>((z8 ct).bind λbQ=>(bif bQ then some true else ((kI a0 (aM (av+s1))).bind λcO=>some (decide (cO=46)))))) else some false)))) else some false)).bind λmC =>
 (bif mC then
 some (.inl (aM (s1+1)))
 else
 some (.inr s1))) 0).bind λx2 =>
 some x2
def tP (a0:ByteArray):Option (Bool) :=
 ((bif decide (1<=(a0.size:Int)) then (bif decide ((a0.size:Int)<=20) then ((z1 a0 0).bind λaX=>some (decide (aX=(a0.size:Int)))) else some false) else some false)).bind λc4 =>
 some c4
def z6 (a0:Int):Option (Int × Bool) :=
 (bif decide (a0=10) then
 some (110,true)
 else
 (bif decide (a0=9) then
 some (116,true)
 else
 (bif decide (a0=13) then
 some (114,true)
 else
 ((bif decide (a0=92) then
 some (decide (a0=92))
 else
 some (decide (a0=39)))).bind λGi =>
 (bif Gi then
 some (a0,true)
 else
 ((bif decide (32<=a0) then some (0,decide (a0<=126)) else some (0,false))).bind λoL =>
 some (oL.1,oL.2)))))
structure Sym where
 Name:ByteArray
 Lit:Bool
 c0:Int
 At:Int
 deriving DecidableEq,Inhabited
def dq:cx Sym:=⟨4,λx=>[af x.Name,ba x.Lit,j x.c0,j x.At],λ_=>rfl,λ_=>eR.bI⟩
instance:Flat dq:=⟨λ_=>rfl⟩
instance:lD dq:=⟨λx=>(inferInstance:jH [af x.Name,ba x.Lit,j x.c0,j x.At])⟩
instance:hd dq dq:=⟨rfl,λx=>(inferInstance:dJ [af x.Name,ba x.Lit,j x.c0,j x.At] [af x.Name,ba x.Lit,j x.c0,j x.At])⟩
instance {x:Sym}:dJ (dq.cells x) [af x.Name,ba x.Lit,j x.c0,j x.At]:=(inferInstance:dJ [af x.Name,ba x.Lit,j x.c0,j x.At] [af x.Name,ba x.Lit,j x.c0,j x.At])
def vB (a0:Sym) (av:Bool) (a2:Bool):Option (Bool) :=
 (bif a0.Lit then
 ((bif !a2 then some true else (bif !decide ((a0.Name.size:Int)=1) then some true else some (!decide (a0.c0=0))))).bind λc4 =>
 (bif c4 then
 some false
 else
 (kI a0.Name 0).bind λbu =>
 (z6 bu).bind λbl =>
 some bl.2)
 else
 (((tP a0.Name).bind λbT=>(bif bT then (bif decide (a0.c0=0) then some true else (bif av then (bif decide (1<=a0.c0) then some (decide (a0.c0<=50000)) else some false) else some false)) else some false))).bind λmC =>
 some mC)
structure Decl where
 Kind:Int
 Tag:ByteArray
 fc:(List Sym)
 At:Int
 deriving DecidableEq,Inhabited
def cM:cx Decl:=⟨4,λx=>[j x.Kind,af x.Tag,aj dq x.fc,j x.At],λ_=>rfl,λ_=>eR.bI⟩
instance:Flat cM:=⟨λ_=>rfl⟩
instance:hd cM cM:=⟨rfl,λx=>(inferInstance:dJ [j x.Kind,af x.Tag,aj dq x.fc,j x.At] [j x.Kind,af x.Tag,aj dq x.fc,j x.At])⟩
instance {x:Decl}:dJ (cM.cells x) [j x.Kind,af x.Tag,aj dq x.fc,j x.At]:=(inferInstance:dJ [j x.Kind,af x.Tag,aj dq x.fc,j x.At] [j x.Kind,af x.Tag,aj dq x.fc,j x.At])
def zY (a0:Decl):Option (Bool) :=
 ((bif decide (a0.Kind<1) then some true else (bif decide (6<a0.Kind) then some true else (bif decide ((a0.fc.length:Int)=0) then some true else (bif decide (a0.Kind=6) then (bif !decide ((a0.fc.length:Int)=1) then some true else (bif !decide (a0.Tag={ data:=#[] }) then some true else (bif decide (a0.Kind=5) then (bif decide (a0.Tag={ data:=#[] }) then some true else some false) else some false))) else (bif decide (a0.Kind=5) then (bif decide (a0.Tag={ data:=#[] }) then some true else (bif !decide (a0.Tag={ data:=#[] }) then ((tP a0.Tag).bind λcO=>some (!cO)) else some false)) else (bif !decide (a0.Tag={ data:=#[] }) then ((tP a0.Tag).bind λd'=>some (!d')) else some false))))))).bind λs5 =>
 (bif s5 then
 some false
 else
 (cK (R:=(Unit) ⊕ (Bool)) (λ(iA:Int) =>
 (bif decide (iA<(a0.fc.length:Int)) then
 (idx a0.fc iA).bind λgi =>
 (vB gi (decide (a0.Kind=1)) (decide (a0.Kind<5))).bind λeK =>
 (bif !eK then
 some (.inr (.inr false))
 else
 some (.inl (aM (iA+1))))
 else
 some (.inr (.inl ())))) 0).bind λeJ =>
 (match eJ with
 | .inl fL =>
 some true
 | .inr eB =>
 some eB))
def vC (a0:Sym):Option (Bool) :=
 ((bif decide (a0.Name={ data:=#[] }) then (bif !a0.Lit then some (decide (a0.c0=0)) else some false) else some false)).bind λl4 =>
 some l4
def vD (a0:ByteArray) (av:Int) (a2:ByteArray):Option (Bool) :=
 ((bif decide ((a2.size:Int)<=aM ((a0.size:Int) - av)) then ((uJ a0 av (aM (av+(a2.size:Int)))).bind λx2=>some (decide (x2=a2))) else some false)).bind λl4 =>
 some l4
def z_ (a0:ByteArray) (av:Int):Option (Int) :=
 (((kI a0 av).bind λaE=>(bif decide (aE=34) then some true else ((kI a0 av).bind λaX=>some (decide (aX=39)))))).bind λc4 =>
 (bif c4 then
 (cK (R:=(Unit) ⊕ (Int)) (λ(cY:Int) =>
 ((bif decide (cY<(a0.size:Int)) then ((kI a0 cY).bind λcp=>some (!decide (cp=10))) else some false)).bind λuA =>
 (bif uA then
 (kI a0 cY).bind λd' =>
 (kI a0 av).bind λdt =>
 (bif decide (d'=dt) then
 some (.inr (.inr (aM (cY+1))))
 else
 (kI a0 cY).bind λb4 =>
 (bif decide (b4=92) then
 ((bif decide (aM (cY+1)<(a0.size:Int)) then ((kI a0 (aM (cY+1))).bind λeB=>some (decide (eB=10))) else some false)).bind λs6 =>
 (bif s6 then
 some (.inr (.inr (-1)))
 else
 some (.inl (aM ((aM (cY+1))+1))))
 else
 some (.inl (aM (cY+1)))))
 else
 some (.inr (.inl ())))) (aM (av+1))).bind λbl =>
 (match bl with
 | .inl bT =>
 some (-1)
 | .inr ct =>
 some ct)
 else
 (kI a0 av).bind λeK =>
 (bif decide (eK=96) then
 (cK (R:=(Unit) ⊕ (Int)) (λ(vP:Int) =>
 (bif decide (vP<(a0.size:Int)) then
 (kI a0 vP).bind λha =>
 (bif decide (ha=96) then
 some (.inr (.inr (aM (vP+1))))
 else
 some (.inl (aM (vP+1))))
 else
 some (.inr (.inl ())))) (aM (av+1))).bind λib =>
 (match ib with
 | .inl gr =>
 some (-1)
 | .inr cV =>
 some cV)
 else
 (vD a0 av ({ data:=#[47,47] })).bind λdH =>
 (bif dH then
 (cK (R:=Int) (λ(t_:Int) =>
 ((bif decide (t_<(a0.size:Int)) then ((kI a0 t_).bind λc7=>some (!decide (c7=10))) else some false)).bind λym =>
 (bif ym then
 some (.inl (aM (t_+1)))
 else
 some (.inr t_))) av).bind λgL =>
 some gL
 else
 (vD a0 av ({ data:=#[47,42] })).bind λMB =>
 (bif MB then
 (cK (R:=(Unit) ⊕ (Int)) (λ(t':Int) =>
 (bif decide (t'<(a0.size:Int)) then
 (vD a0 t' ({ data:=#[42,47] })).bind λAX =>
 (bif AX then
 some (.inr (.inr (aM (t'+2))))
 else
 some (.inl (aM (t'+1))))
 else
 some (.inr (.inl ())))) (aM (av+2))).bind λAW =>
 (match AW with
 | .inl MC =>
 some (-1)
 | .inr ow =>
 some ow)
 else
 some av))))
def xD (a0:ByteArray) (av:Int):Option (Int) :=
 ((bif decide (av<0) then some true else (bif decide ((a0.size:Int)<=av) then some true else ((kI a0 av).bind λaX=>some (!decide (aX=123)))))).bind λc4 =>
 (bif c4 then
 some (-1)
 else
 (cK (R:=(Unit) ⊕ (Int)) (λ(cY:Int × Int) =>
 (bif decide (cY.2<(a0.size:Int)) then
 (z_ a0 cY.2).bind λcp =>
 (bif decide (cp<0) then
 some (.inr (.inr (-1)))
 else
 (bif decide (cY.2<cp) then
 some (.inl (cY.1,cp))
 else
 (kI a0 cY.2).bind λd' =>
 ((bif decide (d'=123) then
 some (aM (cY.1+1))
 else
 some cY.1)).bind λmm =>
 (kI a0 cY.2).bind λb4 =>
 ((bif decide (b4=125) then
 some (aM (mm - 1))
 else
 some mm)).bind λCC =>
 (bif decide (CC=0) then
 some (.inr (.inr (aM (cY.2+1))))
 else
 some (.inl (CC,aM (cY.2+1))))))
 else
 some (.inr (.inl ())))) (0,av)).bind λbl =>
 (match bl with
 | .inl bT =>
 some (-1)
 | .inr ct =>
 some ct))
structure Part where
 Sym:Sym
 Code:ByteArray
 At:Int
 deriving DecidableEq,Inhabited
structure Alt where
 jw:(List Part)
 Prec:Sym
 At:Int
 deriving DecidableEq,Inhabited
def fj:cx Part:=⟨6,λx=>[af x.Sym.Name,ba x.Sym.Lit,j x.Sym.c0,j x.Sym.At,af x.Code,j x.At],λ_=>rfl,λ_=>eR.bI⟩
instance:Flat fj:=⟨λ_=>rfl⟩
instance:lD fj:=⟨λx=>(inferInstance:jH [af x.Sym.Name,ba x.Sym.Lit,j x.Sym.c0,j x.Sym.At,af x.Code,j x.At])⟩
instance:hd fj fj:=⟨rfl,λx=>(inferInstance:dJ [af x.Sym.Name,ba x.Sym.Lit,j x.Sym.c0,j x.Sym.At,af x.Code,j x.At] [af x.Sym.Name,ba x.Sym.Lit,j x.Sym.c0,j x.Sym.At,af x.Code,j x.At])⟩
instance {x:Part}:dJ (fj.cells x) [af x.Sym.Name,ba x.Sym.Lit,j x.Sym.c0,j x.Sym.At,af x.Code,j x.At]:=(inferInstance:dJ [af x.Sym.Name,ba x.Sym.Lit,j x.Sym.c0,j x.Sym.At,af x.Code,j x.At] [af x.Sym.Name,ba x.Sym.Lit,j x.Sym.c0,j x.Sym.At,af x.Code,j x.At])
def dY:cx Alt:=⟨6,λx=>[aj fj x.jw,af x.Prec.Name,ba x.Prec.Lit,j x.Prec.c0,j x.Prec.At,j x.At],λ_=>rfl,λ_=>eR.bI⟩
instance:Flat dY:=⟨λ_=>rfl⟩
instance:hd dY dY:=⟨rfl,λx=>(inferInstance:dJ [aj fj x.jw,af x.Prec.Name,ba x.Prec.Lit,j x.Prec.c0,j x.Prec.At,j x.At] [aj fj x.jw,af x.Prec.Name,ba x.Prec.Lit,j x.Prec.c0,j x.Prec.At,j x.At])⟩
instance {x:Alt}:dJ (dY.cells x) [aj fj x.jw,af x.Prec.Name,ba x.Prec.Lit,j x.Prec.c0,j x.Prec.At,j x.At]:=(inferInstance:dJ [aj fj x.jw,af x.Prec.Name,ba x.Prec.Lit,j x.Prec.c0,j x.Prec.At,j x.At] [aj fj x.jw,af x.Prec.Name,ba x.Prec.Lit,j x.Prec.c0,j x.Prec.At,j x.At])
def zZ (a0:Alt):Option (Bool) :=
 (cK (R:=(Unit) ⊕ (Bool)) (λ(s1:Int) =>
 (bif decide (s1<(a0.jw.length:Int)) then
 (idx a0.jw s1).bind λbu =>
 ((bif decide (bu.Code={ data:=#[] }) then ((vB bu.Sym false true).bind λbT=>(bif !bT then some true else (bif !decide (bu.Code={ data:=#[] }) then ((vC bu.Sym).bind λcp=>(bif !cp then some true else ((xD bu.Code 0).bind λdR=>some (!decide (dR=(bu.Code.size:Int)))))) else some false))) else (bif !decide (bu.Code={ data:=#[] }) then ((vC bu.Sym).bind λdt=>(bif !dt then some true else ((xD bu.Code 0).bind λb4=>some (!decide (b4=(bu.Code.size:Int)))))) else some false))).bind λp5 =>
 (bif p5 then
 some (.inr (.inr false))
 else
 some (.inl (aM (s1+1))))
 else
 some (.inr (.inl ())))) 0).bind λx2 =>
 (match x2 with
 | .inl aX =>
 (((vC a0.Prec).bind λeB=>(bif eB then some true else ((vB a0.Prec false true).bind λgi=>some gi)))).bind λBu =>
 some Bu
 | .inr bN =>
 some bN)
structure fV where
 Left:ByteArray
 fM:(List Alt)
 At:Int
 deriving DecidableEq,Inhabited
structure Source where
 bz:ByteArray
 Decls:(List Decl)
 ea:(List fV)
 bA:ByteArray
 deriving DecidableEq,Inhabited
def gN:cx fV:=⟨3,λx=>[af x.Left,aj dY x.fM,j x.At],λ_=>rfl,λ_=>eR.bI⟩
instance:Flat gN:=⟨λ_=>rfl⟩
instance:hd gN gN:=⟨rfl,λx=>(inferInstance:dJ [af x.Left,aj dY x.fM,j x.At] [af x.Left,aj dY x.fM,j x.At])⟩
instance {x:fV}:dJ (gN.cells x) [af x.Left,aj dY x.fM,j x.At]:=(inferInstance:dJ [af x.Left,aj dY x.fM,j x.At] [af x.Left,aj dY x.fM,j x.At])
def dU:cx Source:=⟨4,λx=>[af x.bz,aj cM x.Decls,aj gN x.ea,af x.bA],λ_=>rfl,λ_=>eR.bI⟩
instance:Flat dU:=⟨λ_=>rfl⟩
instance:hd dU dU:=⟨rfl,λx=>(inferInstance:dJ [af x.bz,aj cM x.Decls,aj gN x.ea,af x.bA] [af x.bz,aj cM x.Decls,aj gN x.ea,af x.bA])⟩
instance {x:Source}:dJ (dU.cells x) [af x.bz,aj cM x.Decls,aj gN x.ea,af x.bA]:=(inferInstance:dJ [af x.bz,aj cM x.Decls,aj gN x.ea,af x.bA] [af x.bz,aj cM x.Decls,aj gN x.ea,af x.bA])
def Az (a0:Source):Option (Bool) :=
 (cK (R:=(Unit) ⊕ (Bool)) (λ(s1:Int) =>
 (bif decide (aM (s1+1)<(a0.bz.size:Int)) then
 (uJ a0.bz s1 (aM (s1+2))).bind λbu =>
 (bif decide (bu={ data:=#[37,125] }) then
 some (.inr (.inr false))
 else
 some (.inl (aM (s1+1))))
 else
 some (.inr (.inl ())))) 0).bind λx2 =>
 (match x2 with
 | .inl aX =>
 (cK (R:=(Unit) ⊕ (Bool)) (λ(cL:Int) =>
 (bif decide (cL<(a0.Decls.length:Int)) then
 (idx a0.Decls cL).bind λdR =>
 (zY dR).bind λd' =>
 (bif !d' then
 some (.inr (.inr false))
 else
 some (.inl (aM (cL+1))))
 else
 some (.inr (.inl ())))) 0).bind λct =>
 (match ct with
 | .inl bQ =>
 (cK (R:=(Unit) ⊕ (Bool)) (λ(lT:Int) =>
 (bif decide (lT<(a0.ea.length:Int)) then
 (idx a0.ea lT).bind λdO =>
 (((tP dO.Left).bind λgi=>(bif !gi then some true else some (decide ((dO.fM.length:Int)=0))))).bind λwL =>
 (bif wL then
 some (.inr (.inr false))
 else
 (cK (R:=(Unit) ⊕ (Bool)) (λ(xS:Int) =>
 (bif decide (xS<(dO.fM.length:Int)) then
 (idx dO.fM xS).bind λi_ =>
 (zZ i_).bind λdH =>
 (bif !dH then
 some (.inr (.inr false))
 else
 some (.inl (aM (xS+1))))
 else
 some (.inr (.inl ())))) 0).bind λgr =>
 (match gr with
 | .inl cV =>
 some (.inl (aM (lT+1)))
 | .inr ev =>
 some (.inr (.inr ev))))
 else
 some (.inr (.inl ())))) 0).bind λb4 =>
 (match b4 with
 | .inl eJ =>
 some (decide (0<(a0.ea.length:Int)))
 | .inr fL =>
 some fL)
 | .inr cp =>
 some cp)
 | .inr bN =>
 some bN)
structure bJ where
 Name:ByteArray
 Lit:Bool
 c0:Int
 Level:Int
 fi:Int
 Tag:ByteArray
 deriving DecidableEq,Inhabited
structure eW where
 Name:ByteArray
 Tag:ByteArray
 deriving DecidableEq,Inhabited
structure Prod where
 Left:Int
 fo:(List Int)
 Prec:Int
 Code:ByteArray
 sS:(List Int)
 At:Int
 deriving DecidableEq,Inhabited
structure bZ where
 a':(List bJ)
 bw:(List eW)
 aY:(List Prod)
 bz:ByteArray
 bA:ByteArray
 deriving DecidableEq,Inhabited
structure cN where
 aq:bZ
 b0:(List Bool)
 bW:(List eW)
 bD:(List ByteArray)
 ca:Int
 cb:Int
 b':ByteArray
 bU:Int
 bB:Int
 deriving DecidableEq,Inhabited
def bo:cx bJ:=⟨6,λx=>[af x.Name,ba x.Lit,j x.c0,j x.Level,j x.fi,af x.Tag],λ_=>rfl,λ_=>eR.bI⟩
instance:Flat bo:=⟨λ_=>rfl⟩
instance:lD bo:=⟨λx=>(inferInstance:jH [af x.Name,ba x.Lit,j x.c0,j x.Level,j x.fi,af x.Tag])⟩
instance:hd bo bo:=⟨rfl,λx=>(inferInstance:dJ [af x.Name,ba x.Lit,j x.c0,j x.Level,j x.fi,af x.Tag] [af x.Name,ba x.Lit,j x.c0,j x.Level,j x.fi,af x.Tag])⟩
instance {x:bJ}:dJ (bo.cells x) [af x.Name,ba x.Lit,j x.c0,j x.Level,j x.fi,af x.Tag]:=(inferInstance:dJ [af x.Name,ba x.Lit,j x.c0,j x.Level,j x.fi,af x.Tag] [af x.Name,ba x.Lit,j x.c0,j x.Level,j x.fi,af x.Tag])
def a8:cx eW:=⟨2,λx=>[af x.Name,af x.Tag],λ_=>rfl,λ_=>eR.bI⟩
instance:Flat a8:=⟨λ_=>rfl⟩
instance:lD a8:=⟨λx=>(inferInstance:jH [af x.Name,af x.Tag])⟩
instance:hd a8 a8:=⟨rfl,λx=>(inferInstance:dJ [af x.Name,af x.Tag] [af x.Name,af x.Tag])⟩
def bE:cx Prod:=⟨6,λx=>[j x.Left,aj aL x.fo,j x.Prec,af x.Code,aj aL x.sS,j x.At],λ_=>rfl,λ_=>eR.bI⟩
instance:Flat bE:=⟨λ_=>rfl⟩
instance:hd bE bE:=⟨rfl,λx=>(inferInstance:dJ [j x.Left,aj aL x.fo,j x.Prec,af x.Code,aj aL x.sS,j x.At] [j x.Left,aj aL x.fo,j x.Prec,af x.Code,aj aL x.sS,j x.At])⟩
instance {x:Prod}:dJ (bE.cells x) [j x.Left,aj aL x.fo,j x.Prec,af x.Code,aj aL x.sS,j x.At]:=(inferInstance:dJ [j x.Left,aj aL x.fo,j x.Prec,af x.Code,aj aL x.sS,j x.At] [j x.Left,aj aL x.fo,j x.Prec,af x.Code,aj aL x.sS,j x.At])
def ch:cx bZ:=⟨5,λx=>[aj bo x.a',aj a8 x.bw,aj bE x.aY,af x.bz,af x.bA],λ_=>rfl,λ_=>eR.bI⟩
instance:Flat ch:=⟨λ_=>rfl⟩
instance:hd ch ch:=⟨rfl,λx=>(inferInstance:dJ [aj bo x.a',aj a8 x.bw,aj bE x.aY,af x.bz,af x.bA] [aj bo x.a',aj a8 x.bw,aj bE x.aY,af x.bz,af x.bA])⟩
instance {x:bZ}:dJ (ch.cells x) [aj bo x.a',aj a8 x.bw,aj bE x.aY,af x.bz,af x.bA]:=(inferInstance:dJ [aj bo x.a',aj a8 x.bw,aj bE x.aY,af x.bz,af x.bA] [aj bo x.a',aj a8 x.bw,aj bE x.aY,af x.bz,af x.bA])
def BO:cx cN:=⟨13,λx=>[aj bo x.aq.a',aj a8 x.aq.bw,aj bE x.aq.aY,af x.aq.bz,af x.aq.bA,aj bF x.b0,aj a8 x.bW,aj cr x.bD,j x.ca,j x.cb,af x.b',j x.bU,j x.bB],λ_=>rfl,λ_=>eR.bI⟩
instance:Flat BO:=⟨λ_=>rfl⟩
instance:hd BO BO:=⟨rfl,λx=>(inferInstance:dJ [aj bo x.aq.a',aj a8 x.aq.bw,aj bE x.aq.aY,af x.aq.bz,af x.aq.bA,aj bF x.b0,aj a8 x.bW,aj cr x.bD,j x.ca,j x.cb,af x.b',j x.bU,j x.bB] [aj bo x.aq.a',aj a8 x.aq.bw,aj bE x.aq.aY,af x.aq.bz,af x.aq.bA,aj bF x.b0,aj a8 x.bW,aj cr x.bD,j x.ca,j x.cb,af x.b',j x.bU,j x.bB])⟩
instance {x:cN}:dJ (BO.cells x) [aj bo x.aq.a',aj a8 x.aq.bw,aj bE x.aq.aY,af x.aq.bz,af x.aq.bA,aj bF x.b0,aj a8 x.bW,aj cr x.bD,j x.ca,j x.cb,af x.b',j x.bU,j x.bB]:=(inferInstance:dJ [aj bo x.aq.a',aj a8 x.aq.bw,aj bE x.aq.aY,af x.aq.bz,af x.aq.bA,aj bF x.b0,aj a8 x.bW,aj cr x.bD,j x.ca,j x.cb,af x.b',j x.bU,j x.bB] [aj bo x.aq.a',aj a8 x.aq.bw,aj bE x.aq.aY,af x.aq.bz,af x.aq.bA,aj bF x.b0,aj a8 x.bW,aj cr x.bD,j x.ca,j x.cb,af x.b',j x.bU,j x.bB])
def Ja:cx bZ:=⟨5,λx=>[ak bo x.a',ak a8 x.bw,ak bE x.aY,af x.bz,af x.bA],λ_=>rfl,λ_=>eR.bI⟩
instance:hd Ja ch:=⟨rfl,λx=>(inferInstance:dJ [ak bo x.a',ak a8 x.bw,ak bE x.aY,af x.bz,af x.bA] [aj bo x.a',aj a8 x.bw,aj bE x.aY,af x.bz,af x.bA])⟩
instance {x:bZ}:dJ (Ja.cells x) [aj bo x.a',aj a8 x.bw,aj bE x.aY,af x.bz,af x.bA]:=(inferInstance:dJ [ak bo x.a',ak a8 x.bw,ak bE x.aY,af x.bz,af x.bA] [aj bo x.a',aj a8 x.bw,aj bE x.aY,af x.bz,af x.bA])
def dV:cx cN:=⟨13,λx=>[ak bo x.aq.a',ak a8 x.aq.bw,ak bE x.aq.aY,af x.aq.bz,af x.aq.bA,ak bF x.b0,ak a8 x.bW,ak cr x.bD,j x.ca,j x.cb,af x.b',j x.bU,j x.bB],λ_=>rfl,λ_=>eR.bI⟩
instance {x:cN}:dJ (dV.cells x) [aj bo x.aq.a',aj a8 x.aq.bw,aj bE x.aq.aY,af x.aq.bz,af x.aq.bA,aj bF x.b0,aj a8 x.bW,aj cr x.bD,j x.ca,j x.cb,af x.b',j x.bU,j x.bB]:=(inferInstance:dJ [ak bo x.aq.a',ak a8 x.aq.bw,ak bE x.aq.aY,af x.aq.bz,af x.aq.bA,ak bF x.b0,ak a8 x.bW,ak cr x.bD,j x.ca,j x.cb,af x.b',j x.bU,j x.bB] [aj bo x.aq.a',aj a8 x.aq.bw,aj bE x.aq.aY,af x.aq.bz,af x.aq.bA,aj bF x.b0,aj a8 x.bW,aj cr x.bD,j x.ca,j x.cb,af x.b',j x.bU,j x.bB])
def nh (a0:cN) (av:Int) (a2:ByteArray):Option (cN) :=
 ((bif decide (a0.ca=0) then
 some (⟨a0.aq,a0.b0,a0.bW,a0.bD,3,av,a2,a0.bU,a0.bB⟩:cN)
 else
 some a0)).bind λh0 =>
 some h0
def xM (a0:cN) (av:ByteArray):Option (Int) :=
 (cK (R:=(Unit) ⊕ (Int)) (λ(s1:Int) =>
 (bif decide (s1<(a0.bW.length:Int)) then
 (idx a0.bW s1).bind λbu =>
 (bif decide (bu.Name=av) then
 some (.inr (.inr s1))
 else
 some (.inl (aM (s1+1))))
 else
 some (.inr (.inl ())))) 0).bind λx2 =>
 (match x2 with
 | .inl aX =>
 some (-1)
 | .inr bN =>
 some bN)
def vJ (a0:cN) (av:Sym):Option (Int) :=
 (cK (R:=(Unit) ⊕ (Int)) (λ(s1:Int) =>
 (bif decide (s1<(a0.aq.a'.length:Int)) then
 (((idx a0.aq.a' s1).bind λbu=>(bif decide (bu.Name=av.Name) then ((idx a0.aq.a' s1).bind λbT=>(bif (bT.Lit == av.Lit) then some (!decide (s1=2)) else some false)) else some false))).bind λje =>
 (bif je then
 some (.inr (.inr s1))
 else
 some (.inl (aM (s1+1))))
 else
 some (.inr (.inl ())))) 1).bind λx2 =>
 (match x2 with
 | .inl aX =>
 some (-1)
 | .inr bN =>
 some bN)
def xC (a0:cN) (av:Int):Option (Int) :=
 (cK (R:=(Unit) ⊕ (Int)) (λ(s1:Int) =>
 (bif decide (s1<(a0.aq.a'.length:Int)) then
 (idx a0.aq.a' s1).bind λbu =>
 (bif decide (bu.c0=av) then
 some (.inr (.inr s1))
 else
 some (.inl (aM (s1+1))))
 else
 some (.inr (.inl ())))) 3).bind λx2 =>
 (match x2 with
 | .inl aX =>
 some (-1)
 | .inr bN =>
 some bN)
def xB (a0:cN) (av:Sym):Option (Int × cN) :=
 (vJ a0 av).bind λaE =>
 (bif decide (0<=aE) then
 some (aE,a0)
 else
 ((bif av.Lit then
 (kI av.Name 0).bind λck =>
 (xC a0 (aM ck)).bind λbu =>
 ((bif decide (0<=bu) then
 (nh a0 av.At av.Name).bind λct =>
 some ct
 else
 some a0)).bind λlQ =>
 some (lQ,aM ck)
 else
 some (a0,0))).bind λdm =>
 (eo dm.1.aq.a' [(⟨av.Name,av.Lit,dm.2,0,0,{ data:=#[] }⟩:bJ)]).bind λbQ =>
 (eo dm.1.b0 [av.Lit]).bind λcp =>
 some (aM (((dm.1.aq.a'++[(⟨av.Name,av.Lit,dm.2,0,0,{ data:=#[] }⟩:bJ)]).length:Int) - 1),(⟨(⟨dm.1.aq.a'++[(⟨av.Name,av.Lit,dm.2,0,0,{ data:=#[] }⟩:bJ)],dm.1.aq.bw,dm.1.aq.aY,dm.1.aq.bz,dm.1.aq.bA⟩:bZ),dm.1.b0++[av.Lit],dm.1.bW,dm.1.bD,dm.1.ca,dm.1.cb,dm.1.b',dm.1.bU,dm.1.bB⟩:cN)))
def AA (a0:cN) (av:Decl) (a2:Sym):Option (cN) :=
 (bif decide (av.Kind=5) then
 (xM a0 a2.Name).bind λx2 =>
 ((bif decide (x2<0) then
 (eo a0.bW [(⟨a2.Name,av.Tag⟩:eW)]).bind λck =>
 some (⟨a0.aq,a0.b0,a0.bW++[(⟨a2.Name,av.Tag⟩:eW)],a0.bD,a0.ca,a0.cb,a0.b',a0.bU,a0.bB⟩:cN)
 else
 (idx a0.bW x2).bind λbu =>
 ((bif !decide (bu.Tag=av.Tag) then
 (nh a0 a2.At a2.Name).bind λct =>
 some ct
 else
 some a0)).bind λlQ =>
 some lQ)).bind λdm =>
 some dm
 else
 (xB a0 a2).bind λbQ =>
 (idx bQ.2.aq.a' bQ.1).bind λcp =>
 ((bif !decide (av.Kind=1) then
 ((bif decide (0<cp.Level) then
 (nh bQ.2 a2.At a2.Name).bind λcn =>
 some (⟨(⟨bQ.2.aq.a',cn.aq.bw,cn.aq.aY,cn.aq.bz,cn.aq.bA⟩:bZ),cn.b0,cn.bW,cn.bD,cn.ca,cn.cb,cn.b',cn.bU,cn.bB⟩:cN)
 else
 some bQ.2)).bind λdk =>
 (idx dk.aq.a' bQ.1).bind λb4 =>
 some (⟨(⟨(dk.aq.a'.set bQ.1.toNat (⟨b4.Name,b4.Lit,b4.c0,dk.bU,b4.fi,b4.Tag⟩:bJ)).set bQ.1.toNat (⟨(⟨b4.Name,b4.Lit,b4.c0,dk.bU,b4.fi,b4.Tag⟩:bJ).Name,(⟨b4.Name,b4.Lit,b4.c0,dk.bU,b4.fi,b4.Tag⟩:bJ).Lit,(⟨b4.Name,b4.Lit,b4.c0,dk.bU,b4.fi,b4.Tag⟩:bJ).c0,(⟨b4.Name,b4.Lit,b4.c0,dk.bU,b4.fi,b4.Tag⟩:bJ).Level,aM (av.Kind - 1),(⟨b4.Name,b4.Lit,b4.c0,dk.bU,b4.fi,b4.Tag⟩:bJ).Tag⟩:bJ),dk.aq.bw,dk.aq.aY,dk.aq.bz,dk.aq.bA⟩:bZ),dk.b0,dk.bW,dk.bD,dk.ca,dk.cb,dk.b',dk.bU,dk.bB⟩:cN)
 else
 some bQ.2)).bind λfz =>
 (idx fz.aq.a' bQ.1).bind λeJ =>
 ((bif decide (0<a2.c0) then
 ((bif decide (bQ.1=1) then some true else ((idx fz.b0 bQ.1).bind λgi=>(bif gi then some true else ((xC fz a2.c0).bind λgj=>some (decide (0<=gj))))))).bind λBv =>
 ((bif Bv then
 (nh fz a2.At a2.Name).bind λcV =>
 some (⟨(⟨fz.aq.a',cV.aq.bw,cV.aq.aY,cV.aq.bz,cV.aq.bA⟩:bZ),cV.b0,cV.bW,cV.bD,cV.ca,cV.cb,cV.b',cV.bU,cV.bB⟩:cN)
 else
 some fz)).bind λec =>
 (idx ec.aq.a' bQ.1).bind λev =>
 (idx ec.b0 bQ.1).bind λha =>
 some (⟨(⟨ec.aq.a'.set bQ.1.toNat (⟨ev.Name,ev.Lit,a2.c0,ev.Level,ev.fi,ev.Tag⟩:bJ),ec.aq.bw,ec.aq.aY,ec.aq.bz,ec.aq.bA⟩:bZ),ec.b0.set bQ.1.toNat true,ec.bW,ec.bD,ec.ca,ec.cb,ec.b',ec.bU,ec.bB⟩:cN)
 else
 some fz)).bind λe_ =>
 (idx e_.aq.a' bQ.1).bind λi_ =>
 ((bif !decide (av.Tag={ data:=#[] }) then
 ((bif !decide (i_.Tag={ data:=#[] }) then some (!decide (i_.Tag=av.Tag)) else some false)).bind λp6 =>
 ((bif p6 then
 (nh e_ a2.At a2.Name).bind λc7 =>
 some (⟨(⟨e_.aq.a',c7.aq.bw,c7.aq.aY,c7.aq.bz,c7.aq.bA⟩:bZ),c7.b0,c7.bW,c7.bD,c7.ca,c7.cb,c7.b',c7.bU,c7.bB⟩:cN)
 else
 some e_)).bind λgy =>
 (idx gy.aq.a' bQ.1).bind λhW =>
 some (⟨(⟨gy.aq.a'.set bQ.1.toNat (⟨hW.Name,hW.Lit,hW.c0,hW.Level,hW.fi,av.Tag⟩:bJ),gy.aq.bw,gy.aq.aY,gy.aq.bz,gy.aq.bA⟩:bZ),gy.b0,gy.bW,gy.bD,gy.ca,gy.cb,gy.b',gy.bU,gy.bB⟩:cN)
 else
 some e_)).bind λoe =>
 some oe)
def rp (a0:cN) (av:ByteArray):Option (Int) :=
 (cK (R:=(Unit) ⊕ (Int)) (λ(s1:Int) =>
 (bif decide (s1<(a0.bD.length:Int)) then
 (idx a0.bD s1).bind λbu =>
 (bif decide (bu=av) then
 some (.inr (.inr s1))
 else
 some (.inl (aM (s1+1))))
 else
 some (.inr (.inl ())))) 0).bind λx2 =>
 (match x2 with
 | .inl aX =>
 some (-1)
 | .inr bN =>
 some bN)
def tQ (a0:cN) (av:Sym):Option (Int × cN) :=
 (bif av.Lit then
 (xB a0 av).bind λx2 =>
 some (x2.1,x2.2)
 else
 (rp a0 av.Name).bind λaX =>
 (bif decide (0<=aX) then
 some (aM (1001+aX),a0)
 else
 (vJ a0 av).bind λck =>
 (bif decide (ck<0) then
 (nh a0 av.At av.Name).bind λbl =>
 some (0,bl)
 else
 some (ck,a0))))
def AB (a0:cN) (av:ByteArray) (a2:Alt):Option (cN) :=
 (rp a0 av).bind λaE =>
 (cK (R:=cN × List Int × ByteArray × Int) (λ(s2:cN × List Int × ByteArray × Int × Int) =>
 (bif decide (s2.2.2.2.2<(a2.jw.length:Int)) then
 ((idx a2.jw s2.2.2.2.2).bind λbl =>
 (((bif decide (bl.Code={ data:=#[] }) then
 (tQ s2.1 bl.Sym).bind λcp =>
 (eo s2.2.1 [cp.1]).bind λcO =>
 some (cp.2,s2.2.1++[cp.1],s2.2.2.1,s2.2.2.2.1)
 else
 ((bif decide (aM (s2.2.2.2.2+1)=(a2.jw.length:Int)) then
 some (s2.1.aq.aY,s2.1.bB,s2.2.1,bl.Code,bl.At)
 else
 (eo ([]:List Int) s2.2.1).bind λdt =>
 (eo s2.1.aq.aY [(⟨aM ((s2.1.bD.length:Int)+(aM (s2.1.bB+1))),([]:List Int),(-1),bl.Code,([]:List Int)++s2.2.1,bl.At⟩:Prod)]).bind λcn =>
 (eo s2.2.1 [aM ((aM (1000+(s2.1.bD.length:Int)))+(aM (s2.1.bB+1)))]).bind λb4 =>
 some (s2.1.aq.aY++[(⟨aM ((s2.1.bD.length:Int)+(aM (s2.1.bB+1))),([]:List Int),(-1),bl.Code,([]:List Int)++s2.2.1,bl.At⟩:Prod)],aM (s2.1.bB+1),s2.2.1++[aM ((aM (1000+(s2.1.bD.length:Int)))+(aM (s2.1.bB+1)))],s2.2.2.1,s2.2.2.2.1))).bind λiX =>
 some ((⟨(⟨s2.1.aq.a',s2.1.aq.bw,iX.1,s2.1.aq.bz,s2.1.aq.bA⟩:bZ),s2.1.b0,s2.1.bW,s2.1.bD,s2.1.ca,s2.1.cb,s2.1.b',s2.1.bU,iX.2.1⟩:cN),iX.2.2.1,iX.2.2.2.1,iX.2.2.2.2))).bind λoZ =>
 some (oZ.1,oZ.2.1,oZ.2.2.1,oZ.2.2.2)).bind λjm =>
 some (jm.1,jm.2.1,jm.2.2.1,jm.2.2.2)).bind λiY =>
 some (.inl (iY.1,iY.2.1,iY.2.2.1,iY.2.2.2,aM (s2.2.2.2.2+1)))
 else
 some (.inr (s2.1,s2.2.1,s2.2.2.1,s2.2.2.2.1)))) (a0,([]:List Int),{ data:=#[] },a2.At,0)).bind λaX =>
 (cK (R:=Int) (λ(pT:Int × Int) =>
 (bif decide (pT.2<(aX.2.1.length:Int)) then
 ((idx aX.2.1 pT.2).bind λeK =>
 ((bif decide (eK<1000) then
 (idx aX.2.1 pT.2).bind λib =>
 some ib
 else
 some pT.1)).bind λzA =>
 some zA).bind λnF =>
 some (.inl (nF,aM (pT.2+1)))
 else
 some (.inr pT.1))) ((-1),0)).bind λfL =>
 ((bif !decide (a2.Prec.Name={ data:=#[] }) then
 ((bif a2.Prec.Lit then some true else ((rp aX.1 a2.Prec.Name).bind λha=>some (decide (ha<0))))).bind λrS =>
 ((bif rS then
 (tQ aX.1 a2.Prec).bind λgK =>
 some (gK.2,gK.1)
 else
 (nh aX.1 a2.Prec.At a2.Prec.Name).bind λgL =>
 some (gL,(-1)))).bind λoe =>
 some (oe.1,oe.2)
 else
 some (aX.1,fL))).bind λfr =>
 (eo ([]:List Int) aX.2.1).bind λiD =>
 (eo fr.1.aq.aY [(⟨aM (1+aE),aX.2.1,fr.2,aX.2.2.1,([]:List Int)++aX.2.1,aX.2.2.2⟩:Prod)]).bind λj3 =>
 some (⟨(⟨fr.1.aq.a',fr.1.aq.bw,fr.1.aq.aY++[(⟨aM (1+aE),aX.2.1,fr.2,aX.2.2.1,([]:List Int)++aX.2.1,aX.2.2.2⟩:Prod)],fr.1.aq.bz,fr.1.aq.bA⟩:bZ),fr.1.b0,fr.1.bW,fr.1.bD,fr.1.ca,fr.1.cb,fr.1.b',fr.1.bU,fr.1.bB⟩:cN)
def AD (a0:Int):Option (ByteArray) :=
 ((bif decide (a0<0) then
 some (IntKind.u64.wrap (-(IntKind.u64.wrap a0)))
 else
 some (IntKind.u64.wrap a0))).bind λh0 =>
 (cK (R:=ByteArray) (λ(dX:Int × ByteArray) =>
 ((bif decide (0<dX.1) then some true else some (decide (dX.2={ data:=#[] })))).bind λp7 =>
 (bif p7 then
 (sA dX.1 10).bind λct =>
 (rU (strOfNums [g_ (IntKind.u64.wrap (48+ct))]) dX.2).bind λbQ =>
 (sx dX.1 10).bind λcp =>
 some (.inl (cp,bQ))
 else
 some (.inr dX.2))) (h0,{ data:=#[] })).bind λbN =>
 (bif decide (a0<0) then
 (rU ({ data:=#[45] }) bN).bind λdR =>
 some dR
 else
 some bN)
def Ar (a0:Source):Option (bZ × Int × Int × ByteArray) :=
 (Az a0).bind λaE =>
 (bif !aE then
 some ((⟨([]:List bJ),([]:List eW),([]:List Prod),{ data:=#[] },{ data:=#[] }⟩:bZ),1,0,{ data:=#[] })
 else
 (og 3 false).bind λaX =>
 (cK (R:=cN × ByteArray) (λ(bK:cN × ByteArray × Int) =>
 (bif decide (bK.2.2<(a0.Decls.length:Int)) then
 (idx a0.Decls bK.2.2).bind λbT =>
 ((bif decide (2<=bT.Kind) then some (decide (bT.Kind<=4)) else some false)).bind λje =>
 ((bif je then
 some (aM (bK.1.bU+1))
 else
 some bK.1.bU)).bind λgT =>
 (cK (R:=cN × ByteArray) (λ(gn:cN × ByteArray × Int) =>
 (bif decide (gn.2.2<(bT.fc.length:Int)) then
 ((bif !decide (bT.Kind=6) then
 (idx bT.fc gn.2.2).bind λfL =>
 (AA gn.1 bT fL).bind λeB =>
 some (eB,gn.2.1)
 else
 ((bif !decide (gn.2.1={ data:=#[] }) then
 (idx bT.fc gn.2.2).bind λeK =>
 (idx bT.fc gn.2.2).bind λgj =>
 (nh gn.1 eK.At gj.Name).bind λe3 =>
 some e3
 else
 some gn.1)).bind λod =>
 (idx bT.fc gn.2.2).bind λib =>
 some (od,ib.Name))).bind λso =>
 some (.inl (so.1,so.2,aM (gn.2.2+1)))
 else
 some (.inr (gn.1,gn.2.1)))) ((⟨bK.1.aq,bK.1.b0,bK.1.bW,bK.1.bD,bK.1.ca,bK.1.cb,bK.1.b',gT,bK.1.bB⟩:cN),bK.2.1,0)).bind λd' =>
 some (.inl (d'.1,d'.2,aM (bK.2.2+1)))
 else
 some (.inr (bK.1,bK.2.1)))) ((⟨(⟨[(⟨{ data:=#[36,101,110,100] },false,0,0,0,{ data:=#[] }⟩:bJ),(⟨{ data:=#[101,114,114,111,114] },false,(-1),0,0,{ data:=#[] }⟩:bJ),(⟨{ data:=#[36,117,110,107] },false,(-1),0,0,{ data:=#[] }⟩:bJ)],[],[],{ data:=#[] },{ data:=#[] }⟩:bZ),aX,[],[],0,0,{ data:=#[] },0,0⟩:cN),{ data:=#[] },0)).bind λck =>
 (cK (R:=cN) (λ(lU:cN × Int) =>
 (bif decide (lU.2<(a0.ea.length:Int)) then
 ((idx a0.ea lU.2).bind λdH =>
 (vJ lU.1 (⟨dH.Left,false,0,0⟩:Sym)).bind λmT =>
 ((bif decide (0<=mT) then
 (nh lU.1 dH.At dH.Left).bind λiD =>
 some iD
 else
 some lU.1)).bind λfA =>
 (rp fA dH.Left).bind λj3 =>
 ((bif decide (j3<0) then
 (eo fA.bD [dH.Left]).bind λsP =>
 some (fA.bD++[dH.Left])
 else
 some fA.bD)).bind λGh =>
 some (⟨fA.aq,fA.b0,fA.bW,Gh,fA.ca,fA.cb,fA.b',fA.bU,fA.bB⟩:cN)).bind λvk =>
 some (.inl (vk,aM (lU.2+1)))
 else
 some (.inr lU.1))) (ck.1,0)).bind λcV =>
 (cK (R:=cN) (λ(mu:cN × Int) =>
 (bif decide (mu.2<(a0.Decls.length:Int)) then
 (cK (R:=cN) (λ(lV:cN × Int) =>
 (idx a0.Decls mu.2).bind λAX =>
 (bif decide (lV.2<(AX.fc.length:Int)) then
 ((idx a0.Decls mu.2).bind λxW =>
 (idx xW.fc lV.2).bind λj4 =>
 (((idx a0.Decls mu.2).bind λHB=>(bif decide (5<=HB.Kind) then ((rp lV.1 j4.Name).bind λly=>some (decide (ly<0))) else some false))).bind λDZ =>
 ((bif DZ then
 (nh lV.1 j4.At j4.Name).bind λnP =>
 some nP
 else
 some lV.1)).bind λGl =>
 some Gl).bind λGk =>
 some (.inl (Gk,aM (lV.2+1)))
 else
 some (.inr lV.1))) (mu.1,0)).bind λow =>
 some (.inl (ow,aM (mu.2+1)))
 else
 some (.inr mu.1))) (cV,0)).bind λbS =>
 ((bif decide (ck.2={ data:=#[] }) then
 (idx a0.ea 0).bind λuf =>
 some uf.Left
 else
 some ck.2)).bind λvl =>
 (rp bS vl).bind λh3 =>
 (cK (R:=cN) (λ(ni:cN × Int) =>
 (bif decide (ni.2<(a0.ea.length:Int)) then
 (cK (R:=cN) (λ(o9:cN × Int) =>
 (idx a0.ea ni.2).bind λAY =>
 (bif decide (o9.2<(AY.fM.length:Int)) then
 (idx a0.ea ni.2).bind λxX =>
 (idx a0.ea ni.2).bind λHD =>
 (idx HD.fM o9.2).bind λqJ =>
 (AB o9.1 xX.Left qJ).bind λjr =>
 some (.inl (jr,aM (o9.2+1)))
 else
 some (.inr o9.1))) (ni.1,0)).bind λkc =>
 some (.inl (kc,aM (ni.2+1)))
 else
 some (.inr ni.1))) ((⟨(⟨bS.aq.a',bS.aq.bw,[(⟨0,[aM (1001+h3)],(-1),{ data:=#[] },([]:List Int),0⟩:Prod)],bS.aq.bz,bS.aq.bA⟩:bZ),bS.b0,bS.bW,bS.bD,bS.ca,bS.cb,bS.b',bS.bU,bS.bB⟩:cN),0)).bind λa6 =>
 (bif !decide (a6.ca=0) then
 some ((⟨([]:List bJ),([]:List eW),([]:List Prod),{ data:=#[] },{ data:=#[] }⟩:bZ),a6.ca,a6.cb,a6.b')
 else
 (cK (R:=List eW) (λ(mv:List eW × Int) =>
 (bif decide (mv.2<(a6.bD.length:Int)) then
 (idx a6.bD mv.2).bind λlZ =>
 (xM (⟨(⟨a6.aq.a',mv.1,a6.aq.aY,a6.aq.bz,a6.aq.bA⟩:bZ),a6.b0,a6.bW,a6.bD,a6.ca,a6.cb,a6.b',a6.bU,a6.bB⟩:cN) lZ).bind λv8 =>
 ((bif decide (0<=v8) then
 (idx a6.bW v8).bind λDm =>
 some Dm.Tag
 else
 some ({ data:=#[] }))).bind λpN =>
 (eo mv.1 [(⟨lZ,pN⟩:eW)]).bind λMF =>
 some (.inl (mv.1++[(⟨lZ,pN⟩:eW)],aM (mv.2+1)))
 else
 some (.inr mv.1))) ([(⟨{ data:=#[36,97,99,99,101,112,116] },{ data:=#[] }⟩:eW)],0)).bind λv7 =>
 (cK (R:=List eW) (λ(nK:List eW × Int) =>
 (bif decide (nK.2<=a6.bB) then
 (AD nK.2).bind λDn =>
 (rU ({ data:=#[64] }) Dn).bind λqK =>
 (eo nK.1 [(⟨qK,{ data:=#[] }⟩:eW)]).bind λMG =>
 some (.inl (nK.1++[(⟨qK,{ data:=#[] }⟩:eW)],aM (nK.2+1)))
 else
 some (.inr nK.1))) (v7,1)).bind λi' =>
 (cK (R:=List bJ) (λ(iB:List bJ × Int × Int) =>
 (bif decide (iB.2.2<(iB.1.length:Int)) then
 ((idx a6.b0 iB.2.2).bind λHz =>
 ((bif !Hz then
 (idx iB.1 iB.2.2).bind λlg =>
 some (iB.1.set iB.2.2.toNat (⟨lg.Name,lg.Lit,iB.2.1,lg.Level,lg.fi,lg.Tag⟩:bJ),aM (iB.2.1+1))
 else
 some (iB.1,iB.2.1))).bind λzy =>
 some (zy.1,zy.2)).bind λzB =>
 some (.inl (zB.1,zB.2,aM (iB.2.2+1)))
 else
 some (.inr iB.1))) (a6.aq.a',57346,3)).bind λkB =>
 ((bif decide (40<(kB.length:Int)) then some true else (bif decide (24<(i'.length:Int)) then some true else some (decide (60<(a6.aq.aY.length:Int)))))).bind λqX =>
 (cK (R:=Bool) (λ(ru:Bool × Int) =>
 (bif decide (ru.2<(a6.aq.aY.length:Int)) then
 ((bif ru.1 then some true else ((idx a6.aq.aY ru.2).bind λHA=>some (decide (8<(HA.fo.length:Int)))))).bind λDV =>
 some (.inl (DV,aM (ru.2+1)))
 else
 some (.inr ru.1))) (qX,0)).bind λAV =>
 (bif AV then
 some ((⟨([]:List bJ),([]:List eW),([]:List Prod),{ data:=#[] },{ data:=#[] }⟩:bZ),4,0,{ data:=#[] })
 else
 some ((⟨kB,i',a6.aq.aY,a0.bz,a0.bA⟩:bZ),0,0,{ data:=#[] }))))
def Am (a0:Source):Option (bZ × Bool) :=
 (Ar a0).bind λaE =>
 some (aE.1,decide (aE.2.1=0))
def o6 (a0:(List Int)) (av:Int):Option ((List Int)) :=
 (cK (R:=Int) (λ(s1:Int) =>
 ((bif decide (0<s1) then ((idx a0 (aM (s1 - 1))).bind λck=>some (decide (av<ck))) else some false)).bind λuB =>
 (bif uB then
 some (.inl (aM (s1 - 1)))
 else
 some (.inr s1))) (a0.length:Int)).bind λx2 =>
 ((bif decide (0<x2) then ((idx a0 (aM (x2 - 1))).bind λct=>some (decide (ct=av))) else some false)).bind λje =>
 (bif je then
 some a0
 else
 (pX a0 0 x2).bind λcO =>
 (eo ([]:List Int) cO).bind λdR =>
 (eo (([]:List Int)++cO) [av]).bind λd' =>
 (pX a0 x2 a0.length).bind λdt =>
 (eo ((([]:List Int)++cO)++[av]) dt).bind λcn =>
 some ((([]:List Int)++cO)++[av]++dt))
def xJ (a0:(List Int)) (av:Int):Option (Bool) :=
 (cK (R:=(Unit) ⊕ (Bool)) (λ(s1:Int) =>
 (bif decide (s1<(a0.length:Int)) then
 (idx a0 s1).bind λbu =>
 (bif decide (bu=av) then
 some (.inr (.inr true))
 else
 some (.inl (aM (s1+1))))
 else
 some (.inr (.inl ())))) 0).bind λx2 =>
 (match x2 with
 | .inl aX =>
 some false
 | .inr bN =>
 some bN)
def As (a0:bZ):Option ((List Int)) :=
 (cK (R:=List Int) (λ(s1:List Int × Int) =>
 (bif decide (s1.2<(a0.a'.length:Int)) then
 (eo s1.1 [s1.2]).bind λck =>
 some (.inl (s1.1++[s1.2],aM (s1.2+1)))
 else
 some (.inr s1.1))) (([]:List Int),0)).bind λx2 =>
 (cK (R:=List Int) (λ(cY:List Int × Int) =>
 (bif decide (cY.2<(a0.bw.length:Int)) then
 (eo cY.1 [aM (1000+cY.2)]).bind λbQ =>
 some (.inl (cY.1++[aM (1000+cY.2)],aM (cY.2+1)))
 else
 some (.inr cY.1))) (x2,0)).bind λbl =>
 some bl
structure Item where
 Prod:Int
 dC:Int
 deriving DecidableEq,Inhabited
def xx (a0:bZ) (av:Item):Option (Bool) :=
 ((bif decide (0<=av.Prod) then (bif decide (av.Prod<(a0.aY.length:Int)) then (bif decide (0<=av.dC) then ((idx a0.aY av.Prod).bind λbN=>some (decide (av.dC<=(bN.fo.length:Int)))) else some false) else some false) else some false)).bind λkk =>
 some kk
def vI (a0:bZ) (av:Item):Option (Int) :=
 (((xx a0 av).bind λaE=>(bif !aE then some true else ((idx a0.aY av.Prod).bind λaX=>some (decide (av.dC=(aX.fo.length:Int))))))).bind λc4 =>
 (bif c4 then
 some (-1)
 else
 (idx a0.aY av.Prod).bind λbu =>
 (idx bu.fo av.dC).bind λbl =>
 some bl)
def db:cx Item:=⟨2,λx=>[j x.Prod,j x.dC],λ_=>rfl,λ_=>eR.bI⟩
instance:Flat db:=⟨λ_=>rfl⟩
instance:lD db:=⟨λx=>(inferInstance:jH [j x.Prod,j x.dC])⟩
instance:hd db db:=⟨rfl,λx=>(inferInstance:dJ [j x.Prod,j x.dC] [j x.Prod,j x.dC])⟩
def vA (a0:(List Item)) (av:Item):Option ((List Item)) :=
 (cK (R:=Int) (λ(s1:Int) =>
 ((bif decide (0<s1) then ((idx a0 (aM (s1 - 1))).bind λck=>(bif decide (av.Prod<ck.Prod) then some true else ((idx a0 (aM (s1 - 1))).bind λbl=>(bif decide (bl.Prod=av.Prod) then ((idx a0 (aM (s1 - 1))).bind λct=>some (decide (av.dC<ct.dC))) else some false)))) else some false)).bind λje =>
 (bif je then
 some (.inl (aM (s1 - 1)))
 else
 some (.inr s1))) (a0.length:Int)).bind λx2 =>
 ((bif decide (0<x2) then ((idx a0 (aM (x2 - 1))).bind λdR=>some (decide (dR.Prod=av.Prod)&&(decide (dR.dC=av.dC)&&true))) else some false)).bind λrR =>
 (bif rR then
 some a0
 else
 (pX a0 0 x2).bind λcn =>
 (eo ([]:List Item) cn).bind λb4 =>
 (eo (([]:List Item)++cn) [av]).bind λeJ =>
 (pX a0 x2 a0.length).bind λfL =>
 (eo ((([]:List Item)++cn)++[av]) fL).bind λeB =>
 some ((([]:List Item)++cn)++[av]++fL))
def zU (a0:bZ) (av:(List Item)):Option ((List Item)) :=
 (cK (R:=List Item) (λ(s1:List Item × Int) =>
 (bif decide (s1.2<(av.length:Int)) then
 ((idx av s1.2).bind λbu =>
 (xx a0 bu).bind λbl =>
 ((bif bl then
 (idx av s1.2).bind λbQ =>
 (vA s1.1 bQ).bind λcp =>
 some cp
 else
 some s1.1)).bind λjm =>
 some jm).bind λlr =>
 some (.inl (lr,aM (s1.2+1)))
 else
 some (.inr s1.1))) (([]:List Item),0)).bind λx2 =>
 some x2
def vH (a0:bZ) (av:(List Item)):Option ((List Item)) :=
 (zU a0 av).bind λaE =>
 (cK (R:=List Item) (λ(s2:List Item × Int) =>
 (bif !decide (s2.2=(s2.1.length:Int)) then
 (((cK (R:=List Item) (λ(cL:List Item × Int) =>
 (bif decide (cL.2<(s2.1.length:Int)) then
 (idx cL.1 cL.2).bind λcO =>
 (vI a0 cO).bind λdR =>
 (cK (R:=List Item) (λ(h':List Item × Int) =>
 ((bif decide (h'.2<(a0.aY.length:Int)) then some (decide (1000<=dR)) else some false)).bind λp5 =>
 (bif p5 then
 ((idx a0.aY h'.2).bind λdO =>
 ((bif decide (dO.Left=aM (dR - 1000)) then
 (vA h'.1 (⟨h'.2,0⟩:Item)).bind λgj =>
 some gj
 else
 some h'.1)).bind λnF =>
 some nF).bind λzz =>
 some (.inl (zz,aM (h'.2+1)))
 else
 some (.inr h'.1))) (cL.1,0)).bind λdt =>
 (bif !decide ((dt.length:Int)=(s2.1.length:Int)) then
 some (.inr dt)
 else
 some (.inl (dt,aM (cL.2+1))))
 else
 some (.inr cL.1))) (s2.1,0)).bind λct =>
 some ct).bind λlQ =>
 some (lQ,(s2.1.length:Int))).bind λiY =>
 some (.inl (iY.1,iY.2))
 else
 some (.inr s2.1))) (aE,(-1))).bind λaX =>
 some aX
def Au (a0:bZ) (av:(List Item)) (a2:Int):Option ((List Item)) :=
 (vH a0 av).bind λaE =>
 (cK (R:=List Item) (λ(s2:List Item × Int) =>
 (bif decide (s2.2<(aE.length:Int)) then
 ((idx aE s2.2).bind λbl =>
 (vI a0 bl).bind λbT =>
 ((bif decide (0<=bT) then some (decide (bT=a2)) else some false)).bind λje =>
 ((bif je then
 (idx aE s2.2).bind λdR =>
 (idx aE s2.2).bind λd' =>
 (vA s2.1 (⟨dR.Prod,aM (d'.dC+1)⟩:Item)).bind λdt =>
 some dt
 else
 some s2.1)).bind λgT =>
 some gT).bind λiY =>
 some (.inl (iY,aM (s2.2+1)))
 else
 some (.inr s2.1))) (([]:List Item),0)).bind λaX =>
 some aX
def zV (a0:(List Item)) (av:(List Item)):Option (Bool) :=
 (bif !decide ((a0.length:Int)=(av.length:Int)) then
 some false
 else
 (cK (R:=(Unit) ⊕ (Bool)) (λ(s2:Int) =>
 (bif decide (s2<(a0.length:Int)) then
 (idx a0 s2).bind λbl =>
 (idx av s2).bind λbT =>
 (bif !(decide (bl.Prod=bT.Prod)&&(decide (bl.dC=bT.dC)&&true)) then
 some (.inr (.inr false))
 else
 some (.inl (aM (s2+1))))
 else
 some (.inr (.inl ())))) 0).bind λaX =>
 (match aX with
 | .inl bN =>
 some true
 | .inr ck =>
 some ck))
structure Move where
 Sym:Int
 hh:Int
 deriving DecidableEq,Inhabited
structure State where
 Kernel:(List Item)
 di:(List Move)
 deriving DecidableEq,Inhabited
def ie:cx Move:=⟨2,λx=>[j x.Sym,j x.hh],λ_=>rfl,λ_=>eR.bI⟩
instance:Flat ie:=⟨λ_=>rfl⟩
instance:lD ie:=⟨λx=>(inferInstance:jH [j x.Sym,j x.hh])⟩
instance:hd ie ie:=⟨rfl,λx=>(inferInstance:dJ [j x.Sym,j x.hh] [j x.Sym,j x.hh])⟩
def cF:cx State:=⟨2,λx=>[aj db x.Kernel,aj ie x.di],λ_=>rfl,λ_=>eR.bI⟩
instance:Flat cF:=⟨λ_=>rfl⟩
instance:hd cF cF:=⟨rfl,λx=>(inferInstance:dJ [aj db x.Kernel,aj ie x.di] [aj db x.Kernel,aj ie x.di])⟩
def Av (a0:(List State)) (av:(List Item)):Option (Int) :=
 (cK (R:=(Unit) ⊕ (Int)) (λ(s1:Int) =>
 (bif decide (s1<(a0.length:Int)) then
 (idx a0 s1).bind λbu =>
 (zV bu.Kernel av).bind λbl =>
 (bif bl then
 some (.inr (.inr s1))
 else
 some (.inl (aM (s1+1))))
 else
 some (.inr (.inl ())))) 0).bind λx2 =>
 (match x2 with
 | .inl aX =>
 some (-1)
 | .inr bN =>
 some bN)
def gw:cx State:=⟨2,λx=>[aj db x.Kernel,ak ie x.di],λ_=>rfl,λ_=>eR.bI⟩
instance:hd gw cF:=⟨rfl,λx=>(inferInstance:dJ [aj db x.Kernel,ak ie x.di] [aj db x.Kernel,aj ie x.di])⟩
def An (a0:bZ):Option ((List State) × Int) :=
 (As a0).bind λaE =>
 (cK (R:=(List State) ⊕ (List State × Int)) (λ(s2:List State × Int) =>
 (bif decide (s2.2<(s2.1.length:Int)) then
 (idx s2.1 s2.2).bind λbl =>
 (vH a0 bl.Kernel).bind λbT =>
 (cK (R:=List Int) (λ(hB:List Int × Int) =>
 (bif decide (hB.2<(bT.length:Int)) then
 ((idx bT hB.2).bind λd' =>
 (vI a0 d').bind λdt =>
 ((bif decide (0<=dt) then
 (o6 hB.1 dt).bind λeJ =>
 some eJ
 else
 some hB.1)).bind λmO =>
 some mO).bind λiX =>
 some (.inl (iX,aM (hB.2+1)))
 else
 some (.inr hB.1))) (([]:List Int),0)).bind λbQ =>
 (cK (R:=(List State) ⊕ (List State × Int)) (λ(d_:List State × Int) =>
 (bif decide (d_.2<(aE.length:Int)) then
 (idx aE d_.2).bind λgj =>
 (xJ bQ gj).bind λe3 =>
 (bif !e3 then
 some (.inl (d_.1,aM (d_.2+1)))
 else
 (idx d_.1 s2.2).bind λgr =>
 (idx aE d_.2).bind λcV =>
 (Au a0 gr.Kernel cV).bind λev =>
 (Av d_.1 ev).bind λha =>
 (bif decide (ha<0) then
 (bif decide ((d_.1.length:Int)=150) then
 some (.inr (.inr (([]:List State),4)))
 else
 (eo d_.1 [(⟨ev,([]:List Move)⟩:State)]).bind λmT =>
 (idx (d_.1++[(⟨ev,([]:List Move)⟩:State)]) s2.2).bind λgK =>
 (idx aE d_.2).bind λgL =>
 (eo gK.di [(⟨gL,(d_.1.length:Int)⟩:Move)]).bind λiD =>
 some (.inl ((d_.1++[(⟨ev,([]:List Move)⟩:State)]).set s2.2.toNat (⟨gK.Kernel,gK.di++[(⟨gL,(d_.1.length:Int)⟩:Move)]⟩:State),aM (d_.2+1))))
 else
 (idx d_.1 s2.2).bind λj3 =>
 (idx aE d_.2).bind λc7 =>
 (eo j3.di [(⟨c7,ha⟩:Move)]).bind λhW =>
 some (.inl (d_.1.set s2.2.toNat (⟨j3.Kernel,j3.di++[(⟨c7,ha⟩:Move)]⟩:State),aM (d_.2+1)))))
 else
 some (.inr (.inl d_.1)))) (s2.1,0)).bind λeB =>
 (match eB with
 | .inl dO =>
 some (.inl (dO,aM (s2.2+1)))
 | .inr gi =>
 some (.inr (.inr (gi.1,gi.2))))
 else
 some (.inr (.inl s2.1)))) ([(⟨[(⟨0,0⟩:Item)],([]:List Move)⟩:State)],0)).bind λaX =>
 (match aX with
 | .inl bN =>
 some (bN,0)
 | .inr ck =>
 some (ck.1,ck.2))
def Ag (a0:Source):Option (bZ × (List State) × Bool) :=
 (Am a0).bind λaE =>
 (bif !aE.2 then
 some (aE.1,([]:List State),false)
 else
 (An aE.1).bind λaX =>
 some (aE.1,aX.1,decide (aX.2=0)))
def pP (a0:(List State)) (av:Int) (a2:Int):Option (Int) :=
 (cK (R:=(Unit) ⊕ (Int)) (λ(s1:Int) =>
 ((bif decide (0<=av) then (bif decide (av<(a0.length:Int)) then ((idx a0 av).bind λbl=>some (decide (s1<(bl.di.length:Int)))) else some false) else some false)).bind λoL =>
 (bif oL then
 (idx a0 av).bind λbQ =>
 (idx bQ.di s1).bind λcp =>
 (bif decide (cp.Sym=a2) then
 (idx a0 av).bind λdR =>
 (idx dR.di s1).bind λd' =>
 some (.inr (.inr d'.hh))
 else
 some (.inl (aM (s1+1))))
 else
 some (.inr (.inl ())))) 0).bind λx2 =>
 (match x2 with
 | .inl aX =>
 some (-1)
 | .inr bN =>
 some bN)
structure Cell where
 State:Int
 bJ:Int
 ff:Int
 hD:Bool
 aY:(List Int)
 deriving DecidableEq,Inhabited
def eT:cx Cell:=⟨5,λx=>[j x.State,j x.bJ,j x.ff,ba x.hD,aj aL x.aY],λ_=>rfl,λ_=>eR.bI⟩
instance:Flat eT:=⟨λ_=>rfl⟩
instance:hd eT eT:=⟨rfl,λx=>(inferInstance:dJ [j x.State,j x.bJ,j x.ff,ba x.hD,aj aL x.aY] [j x.State,j x.bJ,j x.ff,ba x.hD,aj aL x.aY])⟩
instance {x:Cell}:dJ (eT.cells x) [j x.State,j x.bJ,j x.ff,ba x.hD,aj aL x.aY]:=(inferInstance:dJ [j x.State,j x.bJ,j x.ff,ba x.hD,aj aL x.aY] [j x.State,j x.bJ,j x.ff,ba x.hD,aj aL x.aY])
def xI (a0:Cell):Option (Int) :=
 ((bif decide (0<=a0.ff) then
 some (aM ((a0.aY.length:Int)+1))
 else
 some (a0.aY.length:Int))).bind λh0 =>
 ((bif a0.hD then
 some (aM (h0+1))
 else
 some h0)).bind λdm =>
 some dm
structure jU where
 State:Int
 Prod:Int
 a':(List Int)
 deriving DecidableEq,Inhabited
def hG:cx jU:=⟨3,λx=>[j x.State,j x.Prod,aj aL x.a'],λ_=>rfl,λ_=>eR.bI⟩
instance:Flat hG:=⟨λ_=>rfl⟩
instance:hd hG hG:=⟨rfl,λx=>(inferInstance:dJ [j x.State,j x.Prod,aj aL x.a'] [j x.State,j x.Prod,aj aL x.a'])⟩
instance {x:jU}:dJ (hG.cells x) [j x.State,j x.Prod,aj aL x.a']:=(inferInstance:dJ [j x.State,j x.Prod,aj aL x.a'] [j x.State,j x.Prod,aj aL x.a'])
def Ah (a0:bZ) (av:(List State)) (a2:(List jU)):Option ((List Cell)) :=
 (cK (R:=List Cell) (λ(s1:List Cell × Int) =>
 (bif decide (s1.2<(av.length:Int)) then
 (cK (R:=List Cell) (λ(cD:List Cell × Int) =>
 (bif decide (cD.2<(a0.a'.length:Int)) then
 ((pP av s1.2 cD.2).bind λbQ =>
 (cK (R:=Bool) (λ(j0:Bool × Int) =>
 (idx av s1.2).bind λd' =>
 (bif decide (j0.2<(d'.Kernel.length:Int)) then
 (idx av s1.2).bind λcn =>
 (idx cn.Kernel j0.2).bind λb4 =>
 ((bif j0.1 then some true else (bif decide (cD.2=0) then (bif decide (b4.Prod=0) then some (decide (b4.dC=1)) else some false) else some false))).bind λs6 =>
 some (.inl (s6,aM (j0.2+1)))
 else
 some (.inr j0.1))) (false,0)).bind λcO =>
 (cK (R:=List Int) (λ(fI:List Int × Int) =>
 (bif decide (fI.2<(a2.length:Int)) then
 ((((idx a2 fI.2).bind λgr=>(bif decide (gr.State=s1.2) then ((idx a2 fI.2).bind λev=>((xJ ev.a' cD.2).bind λha=>some ha)) else some false))).bind λrS =>
 ((bif rS then
 (idx a2 fI.2).bind λgK =>
 (o6 fI.1 gK.Prod).bind λgL =>
 some gL
 else
 some fI.1)).bind λoe =>
 some oe).bind λec =>
 some (.inl (ec,aM (fI.2+1)))
 else
 some (.inr fI.1))) (([]:List Int),0)).bind λeK =>
 (xI (⟨s1.2,cD.2,bQ,cO,eK⟩:Cell)).bind λiD =>
 ((bif decide (0<iD) then
 (eo cD.1 [(⟨s1.2,cD.2,bQ,cO,eK⟩:Cell)]).bind λhW =>
 some (cD.1++[(⟨s1.2,cD.2,bQ,cO,eK⟩:Cell)])
 else
 some cD.1)).bind λGg =>
 some Gg).bind λoZ =>
 some (.inl (oZ,aM (cD.2+1)))
 else
 some (.inr cD.1))) (s1.1,0)).bind λbu =>
 some (.inl (bu,aM (s1.2+1)))
 else
 some (.inr s1.1))) (([]:List Cell),0)).bind λx2 =>
 some x2
def xK (a0:(List (List Int))) (av:(List (List Int))):Option ((List (List Int))) :=
 (cK (R:=List (List Int)) (λ(s1:List (List Int) × Bool) =>
 (bif s1.2 then
 (cK (R:=List (List Int) × Bool) (λ(cD:List (List Int) × Bool × Int) =>
 (bif decide (cD.2.2<(cD.1.length:Int)) then
 (idx av cD.2.2).bind λct =>
 (idx cD.1 cD.2.2).bind λbQ =>
 (cK (R:=List (List Int)) (λ(j0:List (List Int) × Int) =>
 (bif decide (j0.2<(ct.length:Int)) then
 (cK (R:=List (List Int)) (λ(iL:List (List Int) × Int) =>
 (idx ct j0.2).bind λeJ =>
 (idx iL.1 eJ).bind λfL =>
 (bif decide (iL.2<(fL.length:Int)) then
 (idx iL.1 cD.2.2).bind λdO =>
 (idx ct j0.2).bind λgi =>
 (idx iL.1 gi).bind λeK =>
 (idx eK iL.2).bind λgj =>
 (o6 dO gj).bind λe3 =>
 some (.inl (iL.1.set cD.2.2.toNat e3,aM (iL.2+1)))
 else
 some (.inr iL.1))) (j0.1,0)).bind λcn =>
 some (.inl (cn,aM (j0.2+1)))
 else
 some (.inr j0.1))) (cD.1,0)).bind λcO =>
 ((bif cD.2.1 then some true else ((idx cO cD.2.2).bind λgr=>some (!decide ((gr.length:Int)=(bQ.length:Int)))))).bind λwM =>
 some (.inl (cO,wM,aM (cD.2.2+1)))
 else
 some (.inr (cD.1,cD.2.1)))) (s1.1,false,0)).bind λbu =>
 some (.inl (bu.1,bu.2))
 else
 some (.inr s1.1))) (a0,true)).bind λx2 =>
 some x2
structure Trans where
 State:Int
 eW:Int
 deriving DecidableEq,Inhabited
def fO:cx Trans:=⟨2,λx=>[j x.State,j x.eW],λ_=>rfl,λ_=>eR.bI⟩
instance:Flat fO:=⟨λ_=>rfl⟩
instance:lD fO:=⟨λx=>(inferInstance:jH [j x.State,j x.eW])⟩
instance:hd fO fO:=⟨rfl,λx=>(inferInstance:dJ [j x.State,j x.eW] [j x.State,j x.eW])⟩
def o7 (a0:(List State)):Option ((List Trans)) :=
 (cK (R:=List Trans) (λ(s1:List Trans × Int) =>
 (bif decide (s1.2<(a0.length:Int)) then
 (cK (R:=List Trans) (λ(cD:List Trans × Int) =>
 (idx a0 s1.2).bind λbT =>
 (bif decide (cD.2<(bT.di.length:Int)) then
 ((idx a0 s1.2).bind λcp =>
 (idx cp.di cD.2).bind λcO =>
 ((bif decide (1000<=cO.Sym) then
 (idx a0 s1.2).bind λdt =>
 (idx dt.di cD.2).bind λcn =>
 (eo cD.1 [(⟨s1.2,cn.Sym⟩:Trans)]).bind λb4 =>
 some (cD.1++[(⟨s1.2,cn.Sym⟩:Trans)])
 else
 some cD.1)).bind λiX =>
 some iX).bind λml =>
 some (.inl (ml,aM (cD.2+1)))
 else
 some (.inr cD.1))) (s1.1,0)).bind λbu =>
 some (.inl (bu,aM (s1.2+1)))
 else
 some (.inr s1.1))) (([]:List Trans),0)).bind λx2 =>
 some x2
def zW (a0:(List Item)):Option (Bool) :=
 (cK (R:=(Unit) ⊕ (Bool)) (λ(s1:Int) =>
 (bif decide (s1<(a0.length:Int)) then
 (((idx a0 s1).bind λbu=>(bif decide (bu.Prod=0) then ((idx a0 s1).bind λbT=>some (decide (bT.dC=1))) else some false))).bind λrT =>
 (bif rT then
 some (.inr (.inr true))
 else
 some (.inl (aM (s1+1))))
 else
 some (.inr (.inl ())))) 0).bind λx2 =>
 (match x2 with
 | .inl aX =>
 some false
 | .inr bN =>
 some bN)
def Aw (a0:(List State)):Option ((List (List Int))) :=
 (o7 a0).bind λaE =>
 (cK (R:=List (List Int)) (λ(s2:List (List Int) × Int) =>
 (bif decide (s2.2<(aE.length:Int)) then
 (idx aE s2.2).bind λbu =>
 (idx aE s2.2).bind λbl =>
 (pP a0 bu.State bl.eW).bind λbT =>
 (idx a0 bT).bind λct =>
 (zW ct.Kernel).bind λbQ =>
 ((bif bQ then
 (eo ([]:List Int) [0]).bind λdR =>
 some [0]
 else
 some ([]:List Int))).bind λgT =>
 (cK (R:=List Int) (λ(h':List Int × Int) =>
 (idx a0 bT).bind λb4 =>
 (bif decide (h'.2<(b4.di.length:Int)) then
 ((idx a0 bT).bind λeB =>
 (idx eB.di h'.2).bind λdO =>
 ((bif decide (dO.Sym<1000) then
 (idx a0 bT).bind λgj =>
 (idx gj.di h'.2).bind λe3 =>
 (o6 h'.1 e3.Sym).bind λib =>
 some ib
 else
 some h'.1)).bind λnF =>
 some nF).bind λe_ =>
 some (.inl (e_,aM (h'.2+1)))
 else
 some (.inr h'.1))) (gT,0)).bind λdt =>
 (eo s2.1 [dt]).bind λgr =>
 some (.inl (s2.1++[dt],aM (s2.2+1)))
 else
 some (.inr s2.1))) (([]:List (List Int)),0)).bind λaX =>
 some aX
def xA (a0:(List Bool)) (av:(List Int)):Option (Bool) :=
 (cK (R:=(Unit) ⊕ (Bool)) (λ(s1:Int) =>
 (bif decide (s1<(av.length:Int)) then
 (((idx av s1).bind λbu=>(bif decide (bu<1000) then some true else ((idx av s1).bind λbT=>((idx a0 (aM (bT - 1000))).bind λct=>some (!ct)))))).bind λje =>
 (bif je then
 some (.inr (.inr false))
 else
 some (.inl (aM (s1+1))))
 else
 some (.inr (.inl ())))) 0).bind λx2 =>
 (match x2 with
 | .inl aX =>
 some true
 | .inr bN =>
 some bN)
def xy (a0:bZ):Option ((List Bool)) :=
 (og (a0.bw.length:Int) false).bind λaE =>
 (cK (R:=List Bool) (λ(s2:List Bool × Bool) =>
 (bif s2.2 then
 (cK (R:=List Bool × Bool) (λ(cY:List Bool × Bool × Int) =>
 (bif decide (cY.2.2<(a0.aY.length:Int)) then
 ((idx a0.aY cY.2.2).bind λcp =>
 (((idx cY.1 cp.Left).bind λcO=>(bif !cO then ((xA cY.1 cp.fo).bind λd'=>some d') else some false))).bind λs5 =>
 ((bif s5 then
 (idx cY.1 cp.Left).bind λeJ =>
 some (cY.1.set cp.Left.toNat true,true)
 else
 some (cY.1,cY.2.1))).bind λmO =>
 some (mO.1,mO.2)).bind λml =>
 some (.inl (ml.1,ml.2,aM (cY.2.2+1)))
 else
 some (.inr (cY.1,cY.2.1)))) (s2.1,false,0)).bind λbl =>
 some (.inl (bl.1,bl.2))
 else
 some (.inr s2.1))) (aE,true)).bind λaX =>
 some aX
def xz (a0:(List Trans)) (av:Int) (a2:Int):Option (Int) :=
 (cK (R:=(Unit) ⊕ (Int)) (λ(s1:Int) =>
 (bif decide (s1<(a0.length:Int)) then
 (((idx a0 s1).bind λbu=>(bif decide (bu.State=av) then ((idx a0 s1).bind λbT=>some (decide (bT.eW=a2))) else some false))).bind λrT =>
 (bif rT then
 some (.inr (.inr s1))
 else
 some (.inl (aM (s1+1))))
 else
 some (.inr (.inl ())))) 0).bind λx2 =>
 (match x2 with
 | .inl aX =>
 some (-1)
 | .inr bN =>
 some bN)
def Ax (a0:bZ) (av:(List State)):Option ((List (List Int))) :=
 (o7 av).bind λaE =>
 (xy a0).bind λx2 =>
 (cK (R:=List (List Int)) (λ(dX:List (List Int) × Int) =>
 (bif decide (dX.2<(aE.length:Int)) then
 (idx aE dX.2).bind λbl =>
 (idx aE dX.2).bind λbT =>
 (pP av bl.State bT.eW).bind λct =>
 (cK (R:=List Int) (λ(dg:List Int × Int) =>
 (idx av ct).bind λdR =>
 (bif decide (dg.2<(dR.di.length:Int)) then
 ((idx av ct).bind λcn =>
 (idx cn.di dg.2).bind λb4 =>
 ((bif decide (1000<=b4.Sym) then ((idx x2 (aM (b4.Sym - 1000))).bind λfL=>some fL) else some false)).bind λDX =>
 ((bif DX then
 (xz aE ct b4.Sym).bind λeK =>
 (o6 dg.1 eK).bind λgj =>
 some gj
 else
 some dg.1)).bind λod =>
 some od).bind λmm =>
 some (.inl (mm,aM (dg.2+1)))
 else
 some (.inr dg.1))) (([]:List Int),0)).bind λcp =>
 (eo dX.1 [cp]).bind λe3 =>
 some (.inl (dX.1++[cp],aM (dX.2+1)))
 else
 some (.inr dX.1))) (([]:List (List Int)),0)).bind λbN =>
 some bN
def xL (a0:(List State)) (av:Int) (a2:(List Int)):Option (Int) :=
 (cK (R:=Int) (λ(s1:Int × Int) =>
 ((bif decide (s1.2<(a2.length:Int)) then some (decide (0<=s1.1)) else some false)).bind λkk =>
 (bif kk then
 (idx a2 s1.2).bind λbl =>
 (pP a0 s1.1 bl).bind λbT =>
 some (.inl (bT,aM (s1.2+1)))
 else
 some (.inr s1.1))) (av,0)).bind λx2 =>
 some x2
def Ay (a0:bZ) (av:(List State)):Option ((List (List Int))) :=
 (o7 av).bind λaE =>
 (xy a0).bind λx2 =>
 (og (aE.length:Int) ([]:List Int)).bind λaX =>
 (cK (R:=List (List Int)) (λ(bK:List (List Int) × Int) =>
 (bif decide (bK.2<(aE.length:Int)) then
 (cK (R:=List (List Int)) (λ(cL:List (List Int) × Int) =>
 (bif decide (cL.2<(a0.aY.length:Int)) then
 ((idx a0.aY cL.2).bind λdR =>
 (idx a0.aY cL.2).bind λd' =>
 (idx aE bK.2).bind λdt =>
 (bif !decide (aM (1000+d'.Left)=dt.eW) then
 some cL.1
 else
 (cK (R:=List (List Int)) (λ(iA:List (List Int) × Int) =>
 (bif decide (iA.2<(dR.fo.length:Int)) then
 ((((idx dR.fo iA.2).bind λgi=>(bif decide (gi<1000) then some true else ((pX dR.fo (aM (iA.2+1)) dR.fo.length).bind λgj=>((xA x2 gj).bind λe3=>some (!e3)))))).bind λBw =>
 (bif Bw then
 some iA.1
 else
 (idx aE bK.2).bind λcV =>
 (pX dR.fo 0 iA.2).bind λev =>
 (xL av cV.State ev).bind λha =>
 ((bif decide (0<=ha) then
 (idx dR.fo iA.2).bind λmT =>
 (xz aE ha mT).bind λgK =>
 ((bif decide (0<=gK) then
 (idx iA.1 gK).bind λj3 =>
 (o6 j3 bK.2).bind λc7 =>
 some (iA.1.set gK.toNat c7)
 else
 some iA.1)).bind λGf =>
 some Gf
 else
 some iA.1)).bind λvk =>
 some vk)).bind λod =>
 some (.inl (od,aM (iA.2+1)))
 else
 some (.inr iA.1))) (cL.1,0)).bind λeJ =>
 some eJ)).bind λfz =>
 some (.inl (fz,aM (cL.2+1)))
 else
 some (.inr cL.1))) (bK.1,0)).bind λct =>
 some (.inl (ct,aM (bK.2+1)))
 else
 some (.inr bK.1))) (aX,0)).bind λck =>
 some ck
def Ao (a0:bZ) (av:(List State)):Option ((List (List Int))) :=
 (Aw av).bind λaE =>
 (Ax a0 av).bind λx2 =>
 (xK aE x2).bind λaX =>
 (Ay a0 av).bind λbN =>
 (xK aX bN).bind λck =>
 some ck
def Ap (a0:bZ) (av:(List Item)):Option ((List Int)) :=
 (vH a0 av).bind λaE =>
 (cK (R:=List Int) (λ(s2:List Int × Int) =>
 (bif decide (s2.2<(aE.length:Int)) then
 ((((idx aE s2.2).bind λbl=>(bif decide (0<bl.Prod) then ((idx aE s2.2).bind λct=>((idx aE s2.2).bind λbQ=>((idx a0.aY bQ.Prod).bind λcp=>some (decide (ct.dC=(cp.fo.length:Int)))))) else some false))).bind λuA =>
 ((bif uA then
 (idx aE s2.2).bind λdt =>
 (eo s2.1 [dt.Prod]).bind λcn =>
 some (s2.1++[dt.Prod])
 else
 some s2.1)).bind λiX =>
 some iX).bind λiY =>
 some (.inl (iY,aM (s2.2+1)))
 else
 some (.inr s2.1))) (([]:List Int),0)).bind λaX =>
 some aX
def Aq (a0:bZ) (av:(List State)) (a2:Int) (a3:Int):Option ((List Int)) :=
 ((bif decide (a2<0) then some true else (bif decide ((av.length:Int)<=a2) then some true else (bif decide (a3<1) then some true else some (decide ((a0.aY.length:Int)<=a3)))))).bind λc4 =>
 (bif c4 then
 some ([]:List Int)
 else
 (o7 av).bind λbu =>
 (cK (R:=List Int) (λ(eU:List Int × Int) =>
 (bif decide (eU.2<(bu.length:Int)) then
 ((((idx bu eU.2).bind λcO=>((idx a0.aY a3).bind λdR=>(bif decide (cO.eW=aM (1000+dR.Left)) then ((idx bu eU.2).bind λdt=>((idx a0.aY a3).bind λcn=>((xL av dt.State cn.fo).bind λb4=>some (decide (b4=a2))))) else some false)))).bind λp5 =>
 ((bif p5 then
 (eo eU.1 [eU.2]).bind λdO =>
 some (eU.1++[eU.2])
 else
 some eU.1)).bind λe_ =>
 some e_).bind λgT =>
 some (.inl (gT,aM (eU.2+1)))
 else
 some (.inr eU.1))) (([]:List Int),0)).bind λbT =>
 some bT)
def Ai (a0:bZ) (av:(List State)):Option ((List jU)) :=
 (Ao a0 av).bind λaE =>
 (cK (R:=List jU) (λ(s2:List jU × Int) =>
 (bif decide (s2.2<(av.length:Int)) then
 (idx av s2.2).bind λbu =>
 (Ap a0 bu.Kernel).bind λbl =>
 (cK (R:=List jU) (λ(cL:List jU × Int) =>
 (bif decide (cL.2<(bl.length:Int)) then
 (idx bl cL.2).bind λcO =>
 (idx bl cL.2).bind λdR =>
 (Aq a0 av s2.2 dR).bind λd' =>
 (cK (R:=List Int) (λ(iL:List Int × Int) =>
 (bif decide (iL.2<(d'.length:Int)) then
 (cK (R:=List Int) (λ(d_:List Int × Int) =>
 (idx d' iL.2).bind λgi =>
 (idx aE gi).bind λeK =>
 (bif decide (d_.2<(eK.length:Int)) then
 (idx d' iL.2).bind λe3 =>
 (idx aE e3).bind λib =>
 (idx ib d_.2).bind λgr =>
 (o6 d_.1 gr).bind λcV =>
 some (.inl (cV,aM (d_.2+1)))
 else
 some (.inr d_.1))) (iL.1,0)).bind λeB =>
 some (.inl (eB,aM (iL.2+1)))
 else
 some (.inr iL.1))) (([]:List Int),0)).bind λcn =>
 (eo cL.1 [(⟨s2.2,cO,cn⟩:jU)]).bind λev =>
 some (.inl (cL.1++[(⟨s2.2,cO,cn⟩:jU)],aM (cL.2+1)))
 else
 some (.inr cL.1))) (s2.1,0)).bind λct =>
 some (.inl (ct,aM (s2.2+1)))
 else
 some (.inr s2.1))) (([]:List jU),0)).bind λaX =>
 some aX
def tR (a0:Source):Option (bZ × (List State) × (List Cell) × Bool) :=
 (Ag a0).bind λaE =>
 (bif !aE.2.2 then
 some (aE.1,([]:List State),([]:List Cell),false)
 else
 (Ai aE.1 aE.2.1).bind λaX =>
 (Ah aE.1 aE.2.1 aX).bind λbN =>
 some (aE.1,aE.2.1,bN,true))
def GZ (a0:bZ) (av:Int):Option (Int × Int) :=
 ((bif decide (av<0) then some true else (bif decide ((a0.aY.length:Int)<=av) then some true else ((idx a0.aY av).bind λaX=>some (decide (aX.Prec<0)))))).bind λc4 =>
 (bif c4 then
 some (0,0)
 else
 (idx a0.aY av).bind λbu =>
 (idx a0.a' bu.Prec).bind λbl =>
 some (bl.Level,bl.fi))
def GW (a0:bZ) (av:Int) (a2:Int):Option (Int) :=
 (GZ a0 av).bind λaE =>
 ((bif decide (aE.1=0) then some true else (bif decide (a2<0) then some true else (bif decide ((a0.a'.length:Int)<=a2) then some true else ((idx a0.a' a2).bind λck=>some (decide (ck.Level=0))))))).bind λuB =>
 (bif uB then
 some 0
 else
 (idx a0.a' a2).bind λbT =>
 (bif decide (aE.1<bT.Level) then
 some 1
 else
 (bif decide (bT.Level<aE.1) then
 some 2
 else
 (bif decide (bT.fi=1) then
 some 2
 else
 (bif decide (bT.fi=2) then
 some 1
 else
 some 3)))))
structure eF where
 State:Int
 bJ:Int
 gd:Int
 Drop:Int
 deriving DecidableEq,Inhabited
def gC:cx eF:=⟨4,λx=>[j x.State,j x.bJ,j x.gd,j x.Drop],λ_=>rfl,λ_=>eR.bI⟩
instance:Flat gC:=⟨λ_=>rfl⟩
instance:lD gC:=⟨λx=>(inferInstance:jH [j x.State,j x.bJ,j x.gd,j x.Drop])⟩
instance:hd gC gC:=⟨rfl,λx=>(inferInstance:dJ [j x.State,j x.bJ,j x.gd,j x.Drop] [j x.State,j x.bJ,j x.gd,j x.Drop])⟩
instance {x:eF}:dJ (gC.cells x) [j x.State,j x.bJ,j x.gd,j x.Drop]:=(inferInstance:dJ [j x.State,j x.bJ,j x.gd,j x.Drop] [j x.State,j x.bJ,j x.gd,j x.Drop])
def CX (a0:bZ) (av:Cell):Option (Act × (List eF)) :=
 (cK (R:=List eF) (λ(s1:List eF × Int) =>
 (bif decide (s1.2<(av.aY.length:Int)) then
 (idx av.aY 0).bind λck =>
 (idx av.aY s1.2).bind λbu =>
 (eo s1.1 [(⟨av.State,av.bJ,ck,bu⟩:eF)]).bind λbl =>
 some (.inl (s1.1++[(⟨av.State,av.bJ,ck,bu⟩:eF)],aM (s1.2+1)))
 else
 some (.inr s1.1))) (([]:List eF),1)).bind λx2 =>
 ((bif av.hD then
 some (3,0)
 else
 some (1,av.ff))).bind λjm =>
 (bif decide ((av.aY.length:Int)=0) then
 some ((⟨jm.1,jm.2⟩:Act),x2)
 else
 (idx av.aY 0).bind λcp =>
 ((bif decide (av.ff<0) then some (!av.hD) else some false)).bind λmC =>
 (bif mC then
 some ((⟨2,cp⟩:Act),x2)
 else
 (GW a0 cp av.bJ).bind λdt =>
 ((bif av.hD then some true else some (decide (dt=0)))).bind λIC =>
 (bif IC then
 (eo x2 [(⟨av.State,av.bJ,(-1),cp⟩:eF)]).bind λfL =>
 some ((⟨jm.1,jm.2⟩:Act),x2++[(⟨av.State,av.bJ,(-1),cp⟩:eF)])
 else
 (bif decide (dt=2) then
 some ((⟨2,cp⟩:Act),x2)
 else
 (bif decide (dt=3) then
 some ((⟨4,0⟩:Act),x2)
 else
 some ((⟨jm.1,jm.2⟩:Act),x2))))))
structure jG where
 eV:(List (List Act))
 dG:(List (List Int))
 deriving DecidableEq,Inhabited
def dM:cx Act:=⟨2,λx=>[j x.Kind,j x.N],λ_=>rfl,λ_=>eR.bI⟩
instance:Flat dM:=⟨λ_=>rfl⟩
instance:lD dM:=⟨λx=>(inferInstance:jH [j x.Kind,j x.N])⟩
instance:hd dM dM:=⟨rfl,λx=>(inferInstance:dJ [j x.Kind,j x.N] [j x.Kind,j x.N])⟩
def GQ (a0:bZ) (av:(List State)) (a2:(List Cell)):Option (jG × (List eF)) :=
 (cK (R:=List (List Act) × List (List Int) × List eF) (λ(s1:List (List Act) × List (List Int) × List eF × Int) =>
 (bif decide (s1.2.2.2<(av.length:Int)) then
 (og (a0.a'.length:Int) (⟨0,0⟩:Act)).bind λck =>
 (cK (R:=List eF × List Act) (λ(cY:List eF × List Act × Int) =>
 (bif decide (cY.2.2<(a2.length:Int)) then
 ((idx a2 cY.2.2).bind λcp =>
 ((bif decide (cp.State=s1.2.2.2) then
 (idx a2 cY.2.2).bind λd' =>
 (CX a0 d').bind λdt =>
 (idx a2 cY.2.2).bind λcn =>
 (idx cY.2.1 cn.bJ).bind λb4 =>
 (eo cY.1 dt.2).bind λeJ =>
 some (cY.1++dt.2,cY.2.1.set cn.bJ.toNat dt.1)
 else
 some (cY.1,cY.2.1))).bind λfz =>
 some (fz.1,fz.2)).bind λml =>
 some (.inl (ml.1,ml.2,aM (cY.2.2+1)))
 else
 some (.inr (cY.1,cY.2.1)))) (s1.2.2.1,ck,0)).bind λbl =>
 (og (a0.bw.length:Int) 0).bind λfL =>
 (cK (R:=List Int) (λ(sC:List Int × Int) =>
 (bif decide (sC.2<(sC.1.length:Int)) then
 (pP av s1.2.2.2 (aM (1000+sC.2))).bind λgj =>
 (idx sC.1 sC.2).bind λe3 =>
 some (.inl (sC.1.set sC.2.toNat gj,aM (sC.2+1)))
 else
 some (.inr sC.1))) (fL,0)).bind λdO =>
 (eo s1.1 [bl.2]).bind λib =>
 (eo s1.2.1 [dO]).bind λgr =>
 some (.inl (s1.1++[bl.2],s1.2.1++[dO],bl.1,aM (s1.2.2.2+1)))
 else
 some (.inr (s1.1,s1.2.1,s1.2.2.1)))) (([]:List (List Act)),([]:List (List Int)),([]:List eF),0)).bind λx2 =>
 some ((⟨x2.1,x2.2.1⟩:jG),x2.2.2)
def GS (a0:(List Cell)):Option (Int) :=
 (cK (R:=Int) (λ(s1:Int × Int) =>
 (bif decide (s1.2<(a0.length:Int)) then
 ((idx a0 s1.2).bind λbu =>
 (xI bu).bind λbl =>
 ((bif decide (1<bl) then
 some (aM (s1.1+1))
 else
 some s1.1)).bind λjm =>
 some jm).bind λlr =>
 some (.inl (lr,aM (s1.2+1)))
 else
 some (.inr s1.1))) (0,0)).bind λx2 =>
 some x2
def Lw (a0:Source):Option (bZ × jG × Int × Bool) :=
 (tR a0).bind λaE =>
 (bif !aE.2.2.2 then
 some (aE.1,(⟨([]:List (List Act)),([]:List (List Int))⟩:jG),0,false)
 else
 (GQ aE.1 aE.2.1 aE.2.2.1).bind λaX =>
 (GS aE.2.2.1).bind λbN =>
 some (aE.1,aX.1,bN,true))
structure fZ where
 At:Int
 wD:Int
 deriving DecidableEq,Inhabited
def uM:cx fZ:=⟨2,λx=>[j x.At,j x.wD],λ_=>rfl,λ_=>eR.bI⟩
instance:Flat uM:=⟨λ_=>rfl⟩
instance:lD uM:=⟨λx=>(inferInstance:jH [j x.At,j x.wD])⟩
instance:hd uM uM:=⟨rfl,λx=>(inferInstance:dJ [j x.At,j x.wD] [j x.At,j x.wD])⟩
structure Row where
 Def:Int
 Dz:(List fZ)
 deriving DecidableEq,Inhabited
def El:cx Row:=⟨2,λx=>[j x.Def,aj uM x.Dz],λ_=>rfl,λ_=>eR.bI⟩
instance:Flat El:=⟨λ_=>rfl⟩
instance:hd El El:=⟨rfl,λx=>(inferInstance:dJ [j x.Def,aj uM x.Dz] [j x.Def,aj uM x.Dz])⟩
def Af (a0:(List Int)):Option (Int) :=
 (cK (R:=Int) (λ(s1:(List (Int × Int)) × Int × Int) =>
 (bif decide (s1.2.2<(a0.length:Int)) then
 ((idx a0 s1.2.2).bind λbu =>
 (ss qw 0 s1.1 bu).bind λbl =>
 (zL qw s1.1 bu (aM (bl+1))).bind λbT =>
 (ss qw 0 bT bu).bind λct =>
 (ss qw 0 bT s1.2.1).bind λbQ =>
 ((bif decide (s1.2.1<0) then some true else (bif decide (0<aM (ct - bQ)) then some true else (bif decide (aM (ct - bQ)=0) then some (decide (bu<s1.2.1)) else some false)))).bind λrR =>
 ((bif rR then
 some bu
 else
 some s1.2.1)).bind λmm =>
 some (bT,mm)).bind λlr =>
 some (.inl (lr.1,lr.2,aM (s1.2.2+1)))
 else
 some (.inr s1.2.1))) (([]:List (Int × Int)),(-1),0)).bind λx2 =>
 some x2
def Lx (a0:jG):Option ((List Row)) :=
 (cK (R:=List Row) (λ(s1:List Row × Int) =>
 (bif decide (s1.2<(a0.eV.length:Int)) then
 (idx a0.eV s1.2).bind λck =>
 (cK (R:=List Int) (λ(cY:List Int × Int) =>
 (bif decide (cY.2<(ck.length:Int)) then
 ((idx ck cY.2).bind λcp =>
 ((bif decide (cp.Kind=2) then
 (eo cY.1 [cp.N]).bind λd' =>
 some (cY.1++[cp.N])
 else
 some cY.1)).bind λfz =>
 some fz).bind λml =>
 some (.inl (ml,aM (cY.2+1)))
 else
 some (.inr cY.1))) (([]:List Int),0)).bind λbl =>
 (Af bl).bind λdt =>
 (cK (R:=List fZ) (λ(lT:List fZ × Int) =>
 (bif decide (lT.2<(ck.length:Int)) then
 ((idx ck lT.2).bind λdO =>
 ((bif !decide (dO.Kind=0) then (bif !decide (dO.Kind=2) then some true else some (!decide (dO.N=dt))) else some false)).bind λwL =>
 ((bif wL then
 (CU dO).bind λgr =>
 (eo lT.1 [(⟨lT.2,gr⟩:fZ)]).bind λcV =>
 some (lT.1++[(⟨lT.2,gr⟩:fZ)])
 else
 some lT.1)).bind λGd =>
 some Gd).bind λzz =>
 some (.inl (zz,aM (lT.2+1)))
 else
 some (.inr lT.1))) (([]:List fZ),0)).bind λb4 =>
 (eo s1.1 [(⟨dt,b4⟩:Row)]).bind λev =>
 some (.inl (s1.1++[(⟨dt,b4⟩:Row)],aM (s1.2+1)))
 else
 some (.inr s1.1))) (([]:List Row),0)).bind λx2 =>
 some x2
def Lz (a0:jG):Option ((List Row)) :=
 (bif decide ((a0.dG.length:Int)=0) then
 some ([]:List Row)
 else
 (idx a0.dG 0).bind λx2 =>
 (cK (R:=List Row) (λ(dX:List Row × Int) =>
 (bif decide (dX.2<(x2.length:Int)) then
 (cK (R:=List Int) (λ(eU:List Int × Int) =>
 (bif decide (eU.2<(a0.dG.length:Int)) then
 ((idx a0.dG eU.2).bind λcO =>
 (idx cO dX.2).bind λdR =>
 ((bif decide (0<=dR) then
 (idx cO dX.2).bind λcn =>
 (eo eU.1 [cn]).bind λb4 =>
 some (eU.1++[cn])
 else
 some eU.1)).bind λdk =>
 some dk).bind λgT =>
 some (.inl (gT,aM (eU.2+1)))
 else
 some (.inr eU.1))) (([]:List Int),0)).bind λbT =>
 (Af bT).bind λeJ =>
 (cK (R:=List fZ) (λ(d_:List fZ × Int) =>
 (bif decide (d_.2<(a0.dG.length:Int)) then
 ((idx a0.dG d_.2).bind λgj =>
 (((idx gj dX.2).bind λe3=>(bif decide (0<=e3) then ((idx gj dX.2).bind λgr=>some (!decide (gr=eJ))) else some false))).bind λwM =>
 ((bif wM then
 (idx gj dX.2).bind λi_ =>
 (eo d_.1 [(⟨d_.2,i_⟩:fZ)]).bind λdH =>
 some (d_.1++[(⟨d_.2,i_⟩:fZ)])
 else
 some d_.1)).bind λvj =>
 some vj).bind λSX =>
 some (.inl (SX,aM (d_.2+1)))
 else
 some (.inr d_.1))) (([]:List fZ),0)).bind λeB =>
 (eo dX.1 [(⟨eJ,eB⟩:Row)]).bind λmT =>
 some (.inl (dX.1++[(⟨eJ,eB⟩:Row)],aM (dX.2+1)))
 else
 some (.inr dX.1))) (([]:List Row),0)).bind λbN =>
 some bN)
def sv (a0:Int) (av:Int):Option (Int) :=
 (pR a0 av).bind λaE =>
 ((bif decide (aE<0) then
 some (aM (aE+av))
 else
 some aE)).bind λGc =>
 some Gc
def ng (a0:Act):Option (Int) :=
 ((bif decide (a0.Kind=1) then (bif decide (0<=a0.N) then some (decide (a0.N<=19999)) else some false) else some false)).bind λl4 =>
 (bif l4 then
 some (aM (a0.N+1))
 else
 ((bif decide (a0.Kind=2) then (bif decide (1<=a0.N) then some (decide (a0.N<=19999)) else some false) else some false)).bind λp7 =>
 (bif p7 then
 some (aM (-a0.N))
 else
 ((bif decide (a0.Kind=3) then some (decide (a0.N=0)) else some false)).bind λje =>
 (bif je then
 some 20001
 else
 ((bif decide (a0.Kind=4) then some (decide (a0.N=0)) else some false)).bind λmC =>
 (bif mC then
 some 20002
 else
 some 0))))
def vE (a0:Int):Option (Act) :=
 ((bif decide (1<=a0) then some (decide (a0<=20000)) else some false)).bind λc2 =>
 (bif c2 then
 some (⟨1,aM (a0 - 1)⟩:Act)
 else
 ((bif decide (a0<=(-1)) then some (decide ((-19999)<=a0)) else some false)).bind λkk =>
 (bif kk then
 some (⟨2,aM (-a0)⟩:Act)
 else
 (bif decide (a0=20001) then
 some (⟨3,0⟩:Act)
 else
 (bif decide (a0=20002) then
 some (⟨4,0⟩:Act)
 else
 some (⟨0,0⟩:Act)))))
def GV :Option (ByteArray) :=
 some ({ data:=#[112,113,114,115] })
def tS (a0:Int):Option (Sym) :=
 (GV ).bind λaE =>
 (pR a0 4).bind λx2 =>
 (pR a0 4).bind λaX =>
 (uJ aE x2 (aM (aX+1))).bind λbN =>
 some (⟨bN,true,0,0⟩:Sym)
def kJ:cx Decl:=⟨4,λx=>[j x.Kind,af x.Tag,ak dq x.fc,j x.At],λ_=>rfl,λ_=>eR.bI⟩
instance:hd kJ cM:=⟨rfl,λx=>(inferInstance:dJ [j x.Kind,af x.Tag,ak dq x.fc,j x.At] [j x.Kind,af x.Tag,aj dq x.fc,j x.At])⟩
instance {x:Decl}:dJ (kJ.cells x) [j x.Kind,af x.Tag,aj dq x.fc,j x.At]:=(inferInstance:dJ [j x.Kind,af x.Tag,ak dq x.fc,j x.At] [j x.Kind,af x.Tag,aj dq x.fc,j x.At])
def Ad (a0:(List Int)):Option ((List Decl)) :=
 (cK (R:=List Decl) (λ(s1:List Decl × Int) =>
 ((bif decide (s1.2<(a0.length:Int)) then some (decide (s1.2<4)) else some false)).bind λkk =>
 (bif kk then
 ((idx a0 s1.2).bind λbT =>
 (sv bT 8).bind λct =>
 (pR ct 4).bind λbQ =>
 (bif decide (bQ=0) then
 some s1.1
 else
 ((bif decide (4<ct) then some (decide (0<(s1.1.length:Int))) else some false)).bind λmC =>
 (bif mC then
 (idx s1.1 (aM ((s1.1.length:Int) - 1))).bind λdt =>
 (tS s1.2).bind λcn =>
 (eo dt.fc [cn]).bind λb4 =>
 some (s1.1.set (aM ((s1.1.length:Int) - 1)).toNat (⟨dt.Kind,dt.Tag,dt.fc++[cn],dt.At⟩:Decl))
 else
 (pR ct 4).bind λeJ =>
 (tS s1.2).bind λfL =>
 (eo s1.1 [(⟨aM (1+eJ),{ data:=#[] },[fL],0⟩:Decl)]).bind λeB =>
 some (s1.1++[(⟨aM (1+eJ),{ data:=#[] },[fL],0⟩:Decl)])))).bind λlQ =>
 some (.inl (lQ,aM (s1.2+1)))
 else
 some (.inr s1.1))) (([]:List Decl),0)).bind λx2 =>
 some x2
def xF (a0:Int):Option (ByteArray) :=
 some (strOfNums [g_ (aM (97+a0))])
def Ae (a0:Int) (av:Int):Option (Sym) :=
 (sv a0 14).bind λaE =>
 (bif decide (aE<5) then
 (pR aE av).bind λaX =>
 (xF aX).bind λbN =>
 some (⟨bN,false,0,0⟩:Sym)
 else
 (bif decide (aE=13) then
 some (⟨{ data:=#[101,114,114,111,114] },false,0,0⟩:Sym)
 else
 (tS (aM (aE - 5))).bind λbu =>
 some bu))
structure qL where
 bw:Int
 ea:(List (List Int))
 nS:(List Int)
 l2:(List Int)
 pZ:Bool
 deriving DecidableEq,Inhabited
def ht:cx qL:=⟨5,λx=>[j x.bw,aj (b5 aL) x.ea,aj aL x.nS,aj aL x.l2,ba x.pZ],λ_=>rfl,λ_=>eR.bI⟩
instance:Flat ht:=⟨λ_=>rfl⟩
instance:hd ht ht:=⟨rfl,λx=>(inferInstance:dJ [j x.bw,aj (b5 aL) x.ea,aj aL x.nS,aj aL x.l2,ba x.pZ] [j x.bw,aj (b5 aL) x.ea,aj aL x.nS,aj aL x.l2,ba x.pZ])⟩
instance {x:qL}:dJ (ht.cells x) [j x.bw,aj (b5 aL) x.ea,aj aL x.nS,aj aL x.l2,ba x.pZ]:=(inferInstance:dJ [j x.bw,aj (b5 aL) x.ea,aj aL x.nS,aj aL x.l2,ba x.pZ] [j x.bw,aj (b5 aL) x.ea,aj aL x.nS,aj aL x.l2,ba x.pZ])
def eO:cx fV:=⟨3,λx=>[af x.Left,ak dY x.fM,j x.At],λ_=>rfl,λ_=>eR.bI⟩
instance:hd eO gN:=⟨rfl,λx=>(inferInstance:dJ [af x.Left,ak dY x.fM,j x.At] [af x.Left,aj dY x.fM,j x.At])⟩
instance {x:fV}:dJ (eO.cells x) [af x.Left,aj dY x.fM,j x.At]:=(inferInstance:dJ [af x.Left,ak dY x.fM,j x.At] [af x.Left,aj dY x.fM,j x.At])
def z' (a0:qL):Option (Source) :=
 (sv a0.bw 4).bind λaE =>
 (Ad a0.nS).bind λx2 =>
 (og (aM (1+aE)) false).bind λaX =>
 (cK (R:=List fV) (λ(bK:List fV × Int) =>
 (bif decide (bK.2<aM (1+aE)) then
 (xF bK.2).bind λbT =>
 (eo bK.1 [(⟨bT,([]:List Alt),0⟩:fV)]).bind λct =>
 some (.inl (bK.1++[(⟨bT,([]:List Alt),0⟩:fV)],aM (bK.2+1)))
 else
 some (.inr bK.1))) (([]:List fV),0)).bind λck =>
 (cK (R:=List fV × List Bool) (λ(dg:List fV × List Bool × Int) =>
 ((bif decide (dg.2.2<(a0.ea.length:Int)) then some (decide (dg.2.2<9)) else some false)).bind λrR =>
 (bif rR then
 ((idx a0.ea dg.2.2).bind λb4 =>
 (bif decide ((b4.length:Int)=0) then
 some (dg.1,dg.2.1)
 else
 (idx a0.ea dg.2.2).bind λfL =>
 (idx fL 0).bind λeB =>
 (sv eB (aM (1+aE))).bind λdO =>
 (cK (R:=List Part × Bool) (λ(fI:List Part × Bool × Int) =>
 (((idx a0.ea dg.2.2).bind λe3=>(bif decide (fI.2.2<(e3.length:Int)) then some (decide (fI.2.2<5)) else some false))).bind λBx =>
 (bif Bx then
 ((idx a0.ea dg.2.2).bind λha =>
 (idx ha fI.2.2).bind λi_ =>
 (Ae i_ (aM (1+aE))).bind λdH =>
 ((bif fI.2.1 then (bif dH.Lit then some true else some (decide (dH.Name={ data:=#[101,114,114,111,114] }))) else some false)).bind λp6 =>
 (eo fI.1 [(⟨dH,{ data:=#[] },0⟩:Part)]).bind λiD =>
 ((bif decide (dg.2.2<(a0.l2.length:Int)) then (bif decide (fI.2.2=1) then ((idx a0.l2 dg.2.2).bind λhW=>((pR hW 3).bind λsP=>some (decide (sP=1)))) else some false) else some false)).bind λs7 =>
 ((bif s7 then
 (eo (fI.1++[(⟨dH,{ data:=#[] },0⟩:Part)]) [(⟨(⟨{ data:=#[] },false,0,0⟩:Sym),{ data:=#[123,36,36,32,61,32,36,49,125] },0⟩:Part)]).bind λAW =>
 some ((fI.1++[(⟨dH,{ data:=#[] },0⟩:Part)])++[(⟨(⟨{ data:=#[] },false,0,0⟩:Sym),{ data:=#[123,36,36,32,61,32,36,49,125] },0⟩:Part)])
 else
 some (fI.1++[(⟨dH,{ data:=#[] },0⟩:Part)]))).bind λGj =>
 some (Gj,p6)).bind λvj =>
 some (.inl (vj.1,vj.2,aM (fI.2.2+1)))
 else
 some (.inr (fI.1,fI.2.1)))) (([]:List Part),true,1)).bind λeK =>
 ((bif decide (dg.2.2<(a0.l2.length:Int)) then ((idx a0.l2 dg.2.2).bind λow=>((pR ow 2).bind λMD=>some (!decide (MD=0)))) else some false)).bind λyn =>
 ((bif yn then
 (eo eK.1 [(⟨(⟨{ data:=#[] },false,0,0⟩:Sym),{ data:=#[123,102,40,36,36,41,125] },0⟩:Part)]).bind λxW =>
 some (eK.1++[(⟨(⟨{ data:=#[] },false,0,0⟩:Sym),{ data:=#[123,102,40,36,36,41,125] },0⟩:Part)])
 else
 some eK.1)).bind λmn =>
 (((idx dg.2.1 dO).bind λj4=>(bif j4 then some (dg.2.1.set dO.toNat true) else some (dg.2.1.set dO.toNat eK.2)))).bind λwN =>
 (idx dg.1 dO).bind λly =>
 (eo ly.fM [(⟨mn,(⟨{ data:=#[] },false,0,0⟩:Sym),0⟩:Alt)]).bind λME =>
 some (dg.1.set dO.toNat (⟨ly.Left,ly.fM++[(⟨mn,(⟨{ data:=#[] },false,0,0⟩:Sym),0⟩:Alt)],ly.At⟩:fV),wN))).bind λmO =>
 some (.inl (mO.1,mO.2,aM (dg.2.2+1)))
 else
 some (.inr (dg.1,dg.2.1)))) (ck,aX,0)).bind λcp =>
 (cK (R:=List fV) (λ(h2:List fV × Int) =>
 (bif decide (h2.2<aM (1+aE)) then
 ((((idx h2.1 h2.2).bind λuf=>(bif decide ((uf.fM.length:Int)=0) then some true else ((idx cp.2 h2.2).bind λHC=>(bif !HC then some (!a0.pZ) else some false))))).bind λD0 =>
 ((bif D0 then
 (idx h2.1 h2.2).bind λkc =>
 (tS h2.2).bind λkd =>
 (eo kc.fM [(⟨[(⟨kd,{ data:=#[] },0⟩:Part)],(⟨{ data:=#[] },false,0,0⟩:Sym),0⟩:Alt)]).bind λAY =>
 some (h2.1.set h2.2.toNat (⟨kc.Left,kc.fM++[(⟨[(⟨kd,{ data:=#[] },0⟩:Part)],(⟨{ data:=#[] },false,0,0⟩:Sym),0⟩:Alt)],kc.At⟩:fV))
 else
 some h2.1)).bind λGn =>
 some Gn).bind λGm =>
 some (.inl (Gm,aM (h2.2+1)))
 else
 some (.inr h2.1))) (cp.1,0)).bind λrC =>
 some (⟨{ data:=#[] },x2,rC,{ data:=#[] }⟩:Source)
def xG (a0:(List Int)):Option (Int) :=
 (cK (R:=List Int) (λ(s1:List Int × Int) =>
 (bif decide (s1.2<(a0.length:Int)) then
 (idx a0 s1.2).bind λck =>
 (o6 s1.1 ck).bind λbu =>
 some (.inl (bu,aM (s1.2+1)))
 else
 some (.inr s1.1))) (([]:List Int),0)).bind λx2 =>
 (cK (R:=Int) (λ(eU:Int × Int × Int) =>
 (bif decide (eU.2.2<(x2.length:Int)) then
 ((cK (R:=Int) (λ(xR:Int × Int) =>
 (bif decide (xR.2<(a0.length:Int)) then
 ((idx a0 xR.2).bind λb4 =>
 (idx x2 eU.2.2).bind λeJ =>
 ((bif decide (b4=eJ) then
 some (aM (xR.1+1))
 else
 some xR.1)).bind λe_ =>
 some e_).bind λmO =>
 some (.inl (mO,aM (xR.2+1)))
 else
 some (.inr xR.1))) (0,0)).bind λdR =>
 ((bif decide (eU.2.1<dR) then
 (idx x2 eU.2.2).bind λeK =>
 some (eK,dR)
 else
 some (eU.1,eU.2.1))).bind λod =>
 some (od.1,od.2)).bind λgT =>
 some (.inl (gT.1,gT.2,aM (eU.2.2+1)))
 else
 some (.inr eU.1))) ((-1),0,0)).bind λbT =>
 some bT
def Ly (a0:jG):Option ((List Row)) :=
 (cK (R:=List Row) (λ(s1:List Row × Int) =>
 (bif decide (s1.2<(a0.eV.length:Int)) then
 (cK (R:=List Int) (λ(cD:List Int × Int) =>
 (idx a0.eV s1.2).bind λbT =>
 (bif decide (cD.2<(bT.length:Int)) then
 ((idx a0.eV s1.2).bind λcp =>
 (idx cp cD.2).bind λcO =>
 ((bif decide (cO.Kind=2) then
 (idx a0.eV s1.2).bind λdt =>
 (idx dt cD.2).bind λcn =>
 (eo cD.1 [cn.N]).bind λb4 =>
 some (cD.1++[cn.N])
 else
 some cD.1)).bind λiX =>
 some iX).bind λml =>
 some (.inl (ml,aM (cD.2+1)))
 else
 some (.inr cD.1))) (([]:List Int),0)).bind λbu =>
 (xG bu).bind λeJ =>
 (cK (R:=List fZ) (λ(d_:List fZ × Int) =>
 (idx a0.eV s1.2).bind λgi =>
 (bif decide (d_.2<(gi.length:Int)) then
 ((idx a0.eV s1.2).bind λe3 =>
 (idx e3 d_.2).bind λib =>
 ((bif !decide (ib.Kind=0) then (bif !decide (ib.Kind=2) then some true else some (!decide (ib.N=eJ))) else some false)).bind λDY =>
 ((bif DY then
 (ng ib).bind λdH =>
 (eo d_.1 [(⟨d_.2,dH⟩:fZ)]).bind λmT =>
 some (d_.1++[(⟨d_.2,dH⟩:fZ)])
 else
 some d_.1)).bind λGe =>
 some Ge).bind λzA =>
 some (.inl (zA,aM (d_.2+1)))
 else
 some (.inr d_.1))) (([]:List fZ),0)).bind λeB =>
 (eo s1.1 [(⟨eJ,eB⟩:Row)]).bind λgK =>
 some (.inl (s1.1++[(⟨eJ,eB⟩:Row)],aM (s1.2+1)))
 else
 some (.inr s1.1))) (([]:List Row),0)).bind λx2 =>
 some x2
def LA (a0:jG):Option ((List Row)) :=
 (cK (R:=List Row) (λ(s1:List Row × Int) =>
 ((bif decide (0<(a0.dG.length:Int)) then ((idx a0.dG 0).bind λck=>some (decide (s1.2<(ck.length:Int)))) else some false)).bind λuB =>
 (bif uB then
 (cK (R:=List Int) (λ(cL:List Int × Int) =>
 (bif decide (cL.2<(a0.dG.length:Int)) then
 ((idx a0.dG cL.2).bind λdR =>
 (idx dR s1.2).bind λd' =>
 ((bif decide (0<=d') then
 (idx a0.dG cL.2).bind λb4 =>
 (idx b4 s1.2).bind λeJ =>
 (eo cL.1 [eJ]).bind λfL =>
 some (cL.1++[eJ])
 else
 some cL.1)).bind λmm =>
 some mm).bind λfz =>
 some (.inl (fz,aM (cL.2+1)))
 else
 some (.inr cL.1))) (([]:List Int),0)).bind λct =>
 (xG ct).bind λeB =>
 (cK (R:=List fZ) (λ(sD:List fZ × Int) =>
 (bif decide (sD.2<(a0.dG.length:Int)) then
 ((idx a0.dG sD.2).bind λib =>
 (idx ib s1.2).bind λgr =>
 ((bif decide (0<=gr) then some (!decide (gr=eB)) else some false)).bind λDY =>
 ((bif DY then
 (eo sD.1 [(⟨sD.2,gr⟩:fZ)]).bind λdH =>
 some (sD.1++[(⟨sD.2,gr⟩:fZ)])
 else
 some sD.1)).bind λGe =>
 some Ge).bind λGd =>
 some (.inl (Gd,aM (sD.2+1)))
 else
 some (.inr sD.1))) (([]:List fZ),0)).bind λgi =>
 (eo s1.1 [(⟨eB,gi⟩:Row)]).bind λmT =>
 some (.inl (s1.1++[(⟨eB,gi⟩:Row)],aM (s1.2+1)))
 else
 some (.inr s1.1))) (([]:List Row),0)).bind λx2 =>
 some x2
def LB (a0:(List fZ)) (av:Int):Option (Int × Bool) :=
 (cK (R:=(Unit) ⊕ (Int × Bool)) (λ(s1:Int) =>
 (bif decide (s1<(a0.length:Int)) then
 (idx a0 s1).bind λbu =>
 (bif decide (bu.At=av) then
 (idx a0 s1).bind λbT =>
 some (.inr (.inr (bT.wD,true)))
 else
 some (.inl (aM (s1+1))))
 else
 some (.inr (.inl ())))) 0).bind λx2 =>
 (match x2 with
 | .inl aX =>
 some (0,false)
 | .inr bN =>
 some (bN.1,bN.2))
def GP (a0:(List Act)) (av:Int):Option (Int) :=
 (cK (R:=Int) (λ(s1:Int × Int) =>
 (bif decide (s1.2<(a0.length:Int)) then
 ((((idx a0 s1.2).bind λbu=>(bif decide (bu.Kind=2) then ((idx a0 s1.2).bind λbT=>some (decide (bT.N=av))) else some false))).bind λrT =>
 ((bif rT then
 some (aM (s1.1+1))
 else
 some s1.1)).bind λml =>
 some ml).bind λlr =>
 some (.inl (lr,aM (s1.2+1)))
 else
 some (.inr s1.1))) (0,0)).bind λx2 =>
 some x2
def GO (a0:Int) (av:Int):Option (Int × Int) :=
 some (IntKind.u64.wrap ((IntKind.u64.wrap ((IntKind.u64.wrap ((qC .u64 a0 32) * (qC .u64 av 32)))+(qC .u64 (IntKind.u64.wrap ((IntKind.u64.wrap ((qC .u64 a0 32) * (qU .u64 av 4294967295)))+(qC .u64 (IntKind.u64.wrap ((qU .u64 a0 4294967295) * (qU .u64 av 4294967295))) 32))) 32)))+(qC .u64 (IntKind.u64.wrap ((qU .u64 (IntKind.u64.wrap ((IntKind.u64.wrap ((qC .u64 a0 32) * (qU .u64 av 4294967295)))+(qC .u64 (IntKind.u64.wrap ((qU .u64 a0 4294967295) * (qU .u64 av 4294967295))) 32))) 4294967295)+(IntKind.u64.wrap ((qU .u64 a0 4294967295) * (qC .u64 av 32))))) 32)),IntKind.u64.wrap (a0 * av))
def GY (a0:Int) (av:Int):Option (Int × Int) :=
 (GO a0 av).bind λaE =>
 some (aE.1,aE.2)
def CY (a0:(List Int)) (av:Int):Option ((List Int)) :=
 (bif decide (av<0) then
 none
 else
 (GY (IntKind.u64.wrap (a0.length:Int)) (IntKind.u64.wrap av)).bind λx2 =>
 ((bif decide (0<x2.1) then some true else some (decide (9223372036854775807<x2.2)))).bind λc4 =>
 (bif c4 then
 none
 else
 (og (aM x2.2) 0).bind λbu =>
 (BJ 0 bu.length bu a0).bind λbl =>
 (cK (R:=List Int) (λ(cL:List Int × Int) =>
 (bif decide (cL.2<(cL.1.length:Int)) then
 (tJ cL.1 cL.2).bind λcO =>
 (tJ cL.1 cL.2).bind λdR =>
 (BJ cL.2.toNat (cL.1.length - cL.2.toNat) cL.1 (cL.1.take cL.2.toNat)).bind λd' =>
 some (.inl (d',aM (cL.2+((min (cL.1.take cL.2.toNat).length (cL.1.length - cL.2.toNat):Nat):Int))))
 else
 some (.inr cL.1))) (bl,((min a0.length bu.length:Nat):Int))).bind λct =>
 some ct))
def Aj (a0:bZ) (av:(List State)):Option (jG) :=
 (cK (R:=List (List Act) × List (List Int)) (λ(s1:List (List Act) × List (List Int) × Int) =>
 (bif decide (s1.2.2<(av.length:Int)) then
 (idx av s1.2.2).bind λck =>
 (CY [(-1)] (a0.bw.length:Int)).bind λbu =>
 (cK (R:=List Int) (λ(eU:List Int × Int) =>
 (bif decide (eU.2<(ck.di.length:Int)) then
 ((idx ck.di eU.2).bind λcO =>
 ((bif decide (1000<=cO.Sym) then
 (idx eU.1 (aM (cO.Sym - 1000))).bind λdt =>
 some (eU.1.set (aM (cO.Sym - 1000)).toNat cO.hh)
 else
 some eU.1)).bind λiX =>
 some iX).bind λgT =>
 some (.inl (gT,aM (eU.2+1)))
 else
 some (.inr eU.1))) (bu,0)).bind λbT =>
 (eo s1.2.1 [bT]).bind λcn =>
 (og (a0.a'.length:Int) (⟨0,0⟩:Act)).bind λb4 =>
 (eo s1.1 [b4]).bind λeJ =>
 some (.inl (s1.1++[b4],s1.2.1++[bT],aM (s1.2.2+1)))
 else
 some (.inr (s1.1,s1.2.1)))) (([]:List (List Act)),([]:List (List Int)),0)).bind λx2 =>
 some (⟨x2.1,x2.2⟩:jG)
def xH (a0:bZ) (av:Int):Option (Int × Int) :=
 ((bif decide (av<0) then some true else some (decide ((a0.a'.length:Int)<=av)))).bind λc2 =>
 (bif c2 then
 some (0,0)
 else
 (idx a0.a' av).bind λbN =>
 (idx a0.a' av).bind λck =>
 some (bN.Level,ck.fi))
def Al (a0:bZ) (av:Int):Option (Int × Int) :=
 ((bif decide (av<0) then some true else some (decide ((a0.aY.length:Int)<=av)))).bind λc2 =>
 (bif c2 then
 some (0,0)
 else
 (idx a0.aY av).bind λbN =>
 (xH a0 bN.Prec).bind λck =>
 some (ck.1,ck.2))
def Ab (a0:bZ) (av:Int) (a2:Int):Option (Int) :=
 (Al a0 av).bind λaE =>
 (xH a0 a2).bind λx2 =>
 ((bif decide (aE.1=0) then some true else some (decide (x2.1=0)))).bind λc4 =>
 (bif c4 then
 some 0
 else
 ((bif decide (aE.1<x2.1) then some true else (bif decide (x2.1=aE.1) then some (decide (x2.2=2)) else some false))).bind λoL =>
 (bif oL then
 some 1
 else
 ((bif decide (x2.1<aE.1) then some true else some (decide (x2.2=1)))).bind λDU =>
 (bif DU then
 some 2
 else
 some 3)))
def vG (a0:(List Int)):Option (Int) :=
 (bif decide ((a0.length:Int)<1) then
 none
 else
 (idx a0 0).bind λx2 =>
 (cK (R:=Int) (λ(dX:Int × Int) =>
 (bif decide (dX.2<(a0.length:Int)) then
 (idx a0 dX.2).bind λbl =>
 some (.inl (min dX.1 bl,aM (dX.2+1)))
 else
 some (.inr dX.1))) (x2,1)).bind λbN =>
 some bN)
def Ak (a0:bZ) (av:Cell):Option (Act × Bool) :=
 (bif decide ((av.aY.length:Int)=0) then
 (bif av.hD then
 some ((⟨3,0⟩:Act),false)
 else
 some ((⟨1,av.ff⟩:Act),false))
 else
 (vG av.aY).bind λaX =>
 (bif av.hD then
 some ((⟨3,0⟩:Act),true)
 else
 (bif decide (av.ff<0) then
 some ((⟨2,aX⟩:Act),false)
 else
 (Ab a0 aX av.bJ).bind λbu =>
 (bif decide (bu=2) then
 some ((⟨2,aX⟩:Act),false)
 else
 (bif decide (bu=3) then
 some ((⟨4,0⟩:Act),false)
 else
 (bif decide (bu=1) then
 some ((⟨1,av.ff⟩:Act),false)
 else
 some ((⟨1,av.ff⟩:Act),true)))))))
def vF (a0:bZ) (av:(List State)) (a2:(List Cell)):Option (jG × (List eF)) :=
 (Aj a0 av).bind λaE =>
 (cK (R:=List (List Act) × List eF) (λ(s2:List (List Act) × List eF × Int) =>
 (bif decide (s2.2.2<(a2.length:Int)) then
 ((idx a2 s2.2.2).bind λbl =>
 (Ak a0 bl).bind λbT =>
 (idx s2.1 bl.State).bind λct =>
 (idx ct bl.bJ).bind λbQ =>
 (bif decide ((bl.aY.length:Int)=0) then
 some (s2.1.set bl.State.toNat (ct.set bl.bJ.toNat bT.1),s2.2.1)
 else
 (vG bl.aY).bind λcO =>
 (cK (R:=List eF) (λ(gn:List eF × Int) =>
 (bif decide (gn.2<(bl.aY.length:Int)) then
 ((idx bl.aY gn.2).bind λeJ =>
 ((bif !decide (eJ=cO) then
 (eo gn.1 [(⟨bl.State,bl.bJ,cO,eJ⟩:eF)]).bind λdO =>
 some (gn.1++[(⟨bl.State,bl.bJ,cO,eJ⟩:eF)])
 else
 some gn.1)).bind λe_ =>
 some e_).bind λso =>
 some (.inl (so,aM (gn.2+1)))
 else
 some (.inr gn.1))) (s2.2.1,0)).bind λd' =>
 ((bif bT.2 then
 (eo d' [(⟨bl.State,bl.bJ,(-1),cO⟩:eF)]).bind λgj =>
 some (d'++[(⟨bl.State,bl.bJ,(-1),cO⟩:eF)])
 else
 some d')).bind λnF =>
 some (s2.1.set bl.State.toNat (ct.set bl.bJ.toNat bT.1),nF))).bind λiY =>
 some (.inl (iY.1,iY.2,aM (s2.2.2+1)))
 else
 some (.inr (s2.1,s2.2.1)))) (aE.eV,([]:List eF),0)).bind λaX =>
 some ((⟨aX.1,aE.dG⟩:jG),aX.2)
def xE (a0:(List eF)):Option (Int × Int) :=
 (cK (R:=Int) (λ(s1:Int × Int) =>
 (bif decide (s1.2<(a0.length:Int)) then
 ((idx a0 s1.2).bind λbu =>
 ((bif decide (bu.gd=(-1)) then
 some (aM (s1.1+1))
 else
 some s1.1)).bind λlQ =>
 some lQ).bind λlr =>
 some (.inl (lr,aM (s1.2+1)))
 else
 some (.inr s1.1))) (0,0)).bind λx2 =>
 some (x2,aM ((a0.length:Int) - x2))
def GR (a0:(List Int)):Option (Source) :=
 (cK (R:=List Alt × List Decl) (λ(s1:List Alt × List Decl × Int) =>
 ((bif decide (s1.2.2<(a0.length:Int)) then some (decide (s1.2.2<7)) else some false)).bind λkk =>
 (bif kk then
 (idx a0 s1.2.2).bind λbl =>
 (sv bl 3).bind λbT =>
 (eo s1.2.1 [(⟨aM (2+bT),{ data:=#[] },[(⟨strOfNums [g_ (aM (65+s1.2.2))],true,0,0⟩:Sym)],0⟩:Decl)]).bind λct =>
 (eo s1.1 [(⟨[(⟨(⟨{ data:=#[101] },false,0,0⟩:Sym),{ data:=#[] },0⟩:Part),(⟨(⟨strOfNums [g_ (aM (65+s1.2.2))],true,0,0⟩:Sym),{ data:=#[] },0⟩:Part),(⟨(⟨{ data:=#[101] },false,0,0⟩:Sym),{ data:=#[] },0⟩:Part)],(⟨{ data:=#[] },false,0,0⟩:Sym),0⟩:Alt)]).bind λbQ =>
 some (.inl (s1.1++[(⟨[(⟨(⟨{ data:=#[101] },false,0,0⟩:Sym),{ data:=#[] },0⟩:Part),(⟨(⟨strOfNums [g_ (aM (65+s1.2.2))],true,0,0⟩:Sym),{ data:=#[] },0⟩:Part),(⟨(⟨{ data:=#[101] },false,0,0⟩:Sym),{ data:=#[] },0⟩:Part)],(⟨{ data:=#[] },false,0,0⟩:Sym),0⟩:Alt)],s1.2.1++[(⟨aM (2+bT),{ data:=#[] },[(⟨strOfNums [g_ (aM (65+s1.2.2))],true,0,0⟩:Sym)],0⟩:Decl)],aM (s1.2.2+1)))
 else
 some (.inr (s1.1,s1.2.1)))) ([(⟨[(⟨(⟨{ data:=#[120] },true,0,0⟩:Sym),{ data:=#[] },0⟩:Part)],(⟨{ data:=#[] },false,0,0⟩:Sym),0⟩:Alt)],([]:List Decl),0)).bind λx2 =>
 some (⟨{ data:=#[] },x2.2,[(⟨{ data:=#[101] },x2.1,0⟩:fV)],{ data:=#[] }⟩:Source)
def GX (a0:(List State)) (av:Int) (a2:Int):Option (Int) :=
 (idx a0 av).bind λaE =>
 (cK (R:=(Unit) ⊕ (Int)) (λ(s2:Int) =>
 (bif decide (s2<(aE.di.length:Int)) then
 (idx aE.di s2).bind λbl =>
 (bif decide (bl.Sym=a2) then
 some (.inr (.inr bl.hh))
 else
 some (.inl (aM (s2+1))))
 else
 some (.inr (.inl ())))) 0).bind λaX =>
 (match aX with
 | .inl bN =>
 some (-1)
 | .inr ck =>
 some ck)
def GU (a0:(List State)) (av:Int) (a2:(List Int)):Option (Int) :=
 (cK (R:=(Int) ⊕ (Int)) (λ(s1:Int × Int) =>
 (bif decide (s1.2<(a2.length:Int)) then
 (idx a2 s1.2).bind λbu =>
 (GX a0 s1.1 bu).bind λbl =>
 (bif decide (bl<0) then
 some (.inr (.inr (-1)))
 else
 some (.inl (bl,aM (s1.2+1))))
 else
 some (.inr (.inl s1.1)))) (av,0)).bind λx2 =>
 (match x2 with
 | .inl aX =>
 some aX
 | .inr bN =>
 some bN)
def CW (a0:(List State)) (av:(List Int)):Option (Int) :=
 (GU a0 0 av).bind λaE =>
 some aE
def CV :Option (Bool) :=
 (GR [0]).bind λaE =>
 (tR aE).bind λx2 =>
 (vF x2.1 x2.2.1 x2.2.2.1).bind λaX =>
 (tR (⟨aE.bz,([]:List Decl),aE.ea,aE.bA⟩:Source)).bind λbN =>
 (vF bN.1 bN.2.1 bN.2.2.1).bind λck =>
 (xE ck.2).bind λbu =>
 ((bif !x2.2.2.2 then some true else (bif !bN.2.2.2 then some true else (bif !decide ((aX.2.length:Int)=0) then some true else (bif !decide ((ck.2.length:Int)=1) then some true else ((idx ck.2 0).bind λcp=>(bif !decide (cp.gd=(-1)) then some true else ((idx ck.2 0).bind λdR=>(bif !decide (dR.Drop=2) then some true else (bif !decide (bu.1=1) then some true else some (!decide (bu.2=0)))))))))))).bind λDW =>
 (bif DW then
 some false
 else
 (CW x2.2.1 [1001,3,1001]).bind λeJ =>
 ((bif decide (0<=eJ) then (bif decide (eJ<(aX.1.eV.length:Int)) then ((idx aX.1.eV eJ).bind λdO=>(bif decide ((dO.length:Int)=5) then ((idx aX.1.eV eJ).bind λeK=>((idx eK 3).bind λgj=>(bif decide (gj.Kind=2) then ((idx aX.1.eV eJ).bind λib=>((idx ib 3).bind λgr=>(bif decide (gr.N=2) then ((idx aX.1.eV eJ).bind λev=>((idx ev 4).bind λha=>(bif decide (ha.Kind=0) then (bif decide ((aX.1.dG.length:Int)=(x2.2.1.length:Int)) then ((idx aX.1.dG 0).bind λmT=>(bif decide ((mT.length:Int)=2) then ((idx aX.1.dG 0).bind λgL=>((idx gL 1).bind λiD=>((CW x2.2.1 [1001]).bind λj3=>(bif decide (iD=j3) then ((idx aX.1.dG 0).bind λhW=>((idx hW 0).bind λsP=>some (decide (sP=(-1))))) else some false)))) else some false)) else some false) else some false))) else some false))) else some false))) else some false)) else some false) else some false)).bind λs7 =>
 some s7)
def Aa (a0:Cell):Option (Int) :=
 ((bif decide (0<=a0.ff) then
 some (aM ((a0.aY.length:Int)+1))
 else
 some (a0.aY.length:Int))).bind λh0 =>
 ((bif a0.hD then
 some (aM (h0+1))
 else
 some h0)).bind λdm =>
 some dm
def Ac (a0:(List Cell)):Option (Int) :=
 (cK (R:=Int) (λ(s1:Int × Int) =>
 (bif decide (s1.2<(a0.length:Int)) then
 ((idx a0 s1.2).bind λbu =>
 (Aa bu).bind λbl =>
 ((bif decide (1<bl) then
 some (aM (s1.1+1))
 else
 some s1.1)).bind λjm =>
 some jm).bind λlr =>
 some (.inl (lr,aM (s1.2+1)))
 else
 some (.inr s1.1))) (0,0)).bind λx2 =>
 some x2
def zX (a0:qL):Option (Bool) :=
 (CV ).bind λaE =>
 (bif !aE then
 some false
 else
 (z' a0).bind λaX =>
 (tR aX).bind λbN =>
 (bif !bN.2.2.2 then
 some true
 else
 (vF bN.1 bN.2.1 bN.2.2.1).bind λbu =>
 (Ac bN.2.2.1).bind λbl =>
 (bif decide (0<bl) then
 some (decide ((bu.1.eV.length:Int)=(bN.2.1.length:Int)))
 else
 (cK (R:=(Unit) ⊕ (Bool)) (λ(hB:Int) =>
 (bif decide (hB<(bN.2.2.1.length:Int)) then
 (idx bN.2.2.1 hB).bind λd' =>
 ((bif decide (0<=d'.ff) then
 (idx bN.2.2.1 hB).bind λb4 =>
 some (1,b4.ff)
 else
 some (3,0))).bind λmm =>
 (idx bN.2.2.1 hB).bind λeJ =>
 ((bif decide (0<(eJ.aY.length:Int)) then
 (idx bN.2.2.1 hB).bind λdO =>
 (idx dO.aY 0).bind λgi =>
 some (2,gi)
 else
 some (mm.1,mm.2))).bind λe_ =>
 (((idx bN.2.2.1 hB).bind λeK=>(bif decide ((bu.1.eV.length:Int)<=eK.State) then some true else ((idx bN.2.2.1 hB).bind λe3=>((idx bN.2.2.1 hB).bind λib=>((idx bu.1.eV ib.State).bind λgr=>(bif decide ((gr.length:Int)<=e3.bJ) then some true else ((idx bN.2.2.1 hB).bind λev=>((idx bu.1.eV ev.State).bind λha=>((idx bN.2.2.1 hB).bind λi_=>((idx ha i_.bJ).bind λdH=>some (!(decide (dH.Kind=e_.1)&&(decide (dH.N=e_.2)&&true)))))))))))))).bind λBy =>
 (bif By then
 some (.inr (.inr false))
 else
 some (.inl (aM (hB+1))))
 else
 some (.inr (.inl ())))) 0).bind λbQ =>
 (match bQ with
 | .inl cp =>
 some (decide ((bu.2.length:Int)=0))
 | .inr cO =>
 some cO))))
theorem UD:CV=some true:=by kernel_rfl
end Go.Proofs
namespace Go.Own
open Go
variable {α β S R:Type}
abbrev jv (p:S->Prop) (q:R->Prop) (x:S ⊕ R):Prop:=Sum.elim p q x
def Tot (x:Option α) (Φ:α->Prop):Prop:=∃ a,x=some a/\Φ a
namespace Tot
variable {Φ fJ:α->Prop}
theorem az {a:α}(h:Φ a):Tot (some a) Φ:=⟨a,rfl,h⟩
theorem bi {x:Option β}{f:β->Option α}(h:Tot x λa=>Tot (f a) Φ):Tot (x.bind f) Φ:=by
 obtain ⟨a,rfl,b,aI,m'⟩:=h
 exact ⟨b,aI,m'⟩
theorem ax {f:β->Option α}{a:β}(h:Tot (f a) Φ):Tot ((some a).bind f) Φ:=h
theorem use {x:Option α}(h:Tot x fJ) (hi:∀ a,fJ a->Φ a):Tot x Φ:=by
 obtain ⟨a,bg,F8⟩:=h
 exact ⟨a,bg,hi a F8⟩
theorem aK {x:Option β}{f:β->Option α}{Ξ:β->Prop}(h:Tot x Ξ) (hk:∀ a,Ξ a->Tot (f a) Φ):Tot (x.bind f) Φ:=bi (h.use hk)
theorem cv {c:Bool}{a b:Option α}(aG:c=true->Tot a Φ) (bj:c=false->Tot b Φ):Tot (cond c a b) Φ:=by
 cases c
 ·exact bj rfl
 ·exact aG rfl
theorem b6 {p:Prop} [Decidable p] {a b:Option α}(aG:p->Tot a Φ) (bj:¬ p->Tot b Φ):Tot (cond (decide p) a b) Φ :=
 cv (λh=>aG (of_decide_eq_true h)) (λh=>bj (of_decide_eq_false h))
theorem qZ {p:Prop} [Decidable p] {a b:Option α}(aG:¬ p->Tot a Φ) (bj:p->Tot b Φ):Tot (cond (!decide p) a b) Φ :=
 cv (λh=>aG (of_decide_eq_false (by simpa using h))) (λh=>bj (of_decide_eq_true (by simpa using h)))
theorem hz {l:List α}{i:Int}(bc:0<=i) (h1:i<l.length) (hk:∀ y,idx l i=some y->y∈l->Φ y):Tot (idx l i) Φ:=by
 have bd:i.toNat<l.length:=by omega
 have:idx l i=some l[i.toNat]:=by simp [idx,bc,bd]
 exact ⟨_,this,hk _ this (List.getElem_mem bd)⟩
theorem ap {Φ:List α->Prop}{l m:List α}(h:l.length+m.length<=lim) (hk:Φ (l++m)):Tot (eo l m) Φ:=by
 refine ⟨l++m,?_,hk⟩
 unfold eo
 rw [if_pos h]
theorem loop {f:S->Option (S ⊕ R)}{fl:S}{fJ:R->Prop}(Inv:S->Prop) (sR:S->Nat) (bc:Inv fl) (F9:sR fl<fuel)
  (aP:∀ s,Inv s->Tot (f s) (jv (λe6=>Inv e6/\sR e6<sR s) fJ)):Tot (cK f fl) fJ:=by
 have key:∀ n s,Inv s->sR s<n->Tot (iter f n s) fJ:=by
  intro n
  induction n with
  | zero=>intro s _ h; omega
  | succ n aS =>
   intro s bs hm
   obtain ⟨x,J,c6⟩:=aP s bs
   cases x with
   | inl e6 =>
    obtain ⟨h1,al⟩:=c6
    simp only [iter,J]
    exact aS e6 h1 (by omega)
   | inr r =>
    simp only [iter,J]
    exact ⟨r,rfl,c6⟩
 exact key fuel fl bc F9
theorem count {f:S->Option (S ⊕ R)}{fl:S}{fJ:R->Prop}(i:S->Int) (n:Int) (Inv:S->Prop) (bc:Inv fl) (aN:n - i fl<1000000000000000000)
  (aP:∀ s,Inv s->Tot (f s) (jv (λe6=>Inv e6/\i s<i e6/\i e6<=n) fJ)):Tot (cK f fl) fJ:=by
 refine loop Inv (λs=>(n - i s).toNat) bc (by show (n - i fl).toNat<1000000000000000000; omega) λs bs=>(aP s bs).use λx J=>?_
 cases x with
 | inl e6=>exact ⟨J.1,by have:=J.2; show (n - i e6).toNat<(n - i s).toNat; omega⟩
 | inr r=>exact J
end Tot
theorem dx (n:Int):aM n=(n+9223372036854775808) % 18446744073709551616 - 9223372036854775808:=IntKind.wrap_i64 n
namespace Tot
theorem cat {Φ:ByteArray->Prop}{s u:ByteArray}(h:s.size+u.size<=4611686018427387904) (hk:Φ (s++u)):Tot (rU s u) Φ:=by
 refine ⟨s++u,?_,hk⟩
 unfold rU
 rw [if_pos h]
theorem cut {Φ:ByteArray->Prop}{s:ByteArray}{m n:Int}(h:0<=m/\m<=n/\n<=s.size) (hk:Φ (uK s m n)):Tot (uJ s m n) Φ:=by
 refine ⟨_,?_,hk⟩
 unfold uJ
 rw [if_pos h]
theorem mW {Φ:Int->Prop}{s:ByteArray}{m:Int}(h:0<=m/\m<s.size) (hk:Φ (yl s m)):Tot (kI s m) Φ:=by
 refine ⟨_,?_,hk⟩
 unfold kI
 rw [if_pos h]
theorem sub {Φ:List α->Prop}{l:List α}{m n:Int}(h:0<=m/\m<=n/\n<=l.length) (hk:Φ ((l.drop m.toNat).take (n - m).toNat)):Tot (pX l m n) Φ:=by
 refine ⟨_,?_,hk⟩
 unfold pX
 rw [if_pos h]
theorem rem {Φ:Int->Prop}{m n:Int}(h:n≠0) (hk:Φ (m.tmod n)):Tot (pR m n) Φ:=by
 refine ⟨_,?_,hk⟩
 unfold pR
 rw [if_neg h]
theorem quo {Φ:Int->Prop}{m n:Int}(h:n≠0) (hk:Φ (aM (m.tdiv n))):Tot (C2 m n) Φ:=by
 refine ⟨_,?_,hk⟩
 unfold C2
 rw [if_neg h]
theorem sA {Φ:Int->Prop}{m n:Int}(h:n≠0) (hk:Φ (m.tmod n)):Tot (Own.sA m n) Φ:=by
 refine ⟨_,?_,hk⟩
 unfold Own.sA
 rw [if_neg h]
theorem sx {Φ:Int->Prop}{m n:Int}(h:n≠0) (hk:Φ (IntKind.u64.wrap (m.tdiv n))):Tot (Own.sx m n) Φ:=by
 refine ⟨_,?_,hk⟩
 unfold Own.sx
 rw [if_neg h]
theorem mk {Φ:List α->Prop}{m:Int}{z:α}(h:0<=m/\m<=lim) (hk:Φ (List.replicate m.toNat z)):Tot (og m z) Φ:=by
 refine ⟨_,?_,hk⟩
 unfold og
 rw [if_pos h]
theorem eq {x:Option α}{Φ:α->Prop}{a:α}(h:Tot x Φ) (e:x=some a):Φ a:=by
 obtain ⟨b,aI,m'⟩:=h
 rw [e] at aI; cases aI; exact m'
theorem ex {x:Option α}{Φ:α->Prop}(h:Tot x Φ):∃ a,x=some a/\Φ a:=h
end Tot
namespace Tot
theorem scan {f:Int->Option (Int ⊕ (Unit ⊕ R))}(l:List β) (P:β->Prop) (Q:R->Prop) (ao:l.length<=100000000000000000)
  (aP:∀ (s:Int) (y:β),0<=s->s<l.length->idx l s=some y->y∈l->Tot (f s) (jv (λe6=>e6=s+1/\P y) (jv (λ_=>False) Q)))
  (he:∀ s:Int,¬ s<l.length->f s=some (.inr (.inl ()))):Tot (cK f 0) (jv (λ_=>∀ y∈l,P y) Q):=by
 refine count (λs=>s) l.length (λs=>0<=s/\s<=l.length/\∀ (ae:Nat) (y:β),(ae:Int)<s->l[ae]?=some y->P y) ⟨by omega,by omega,λae y h=>by omega⟩ (by show (l.length:Int) - 0<_; omega) λs bs=>?_
 obtain ⟨bc,h1,al⟩:=bs
 by_cases bd:s<l.length
 ·have nB:s.toNat<l.length:=by omega
  have hi:idx l s=some l[s.toNat]:=by simp [idx,bc,nB]
  refine (aP s _ bc bd hi (List.getElem_mem nB)).use λx J=>?_
  rcases x with e6 | ⟨⟨⟩⟩ | r
  ·obtain ⟨rfl,c6⟩:=J
   refine ⟨⟨by omega,by omega,λae y aa ay=>?_⟩,by show s<s+1; omega,by show s+1<=_; omega⟩
   by_cases w6:(ae:Int)<s
   ·exact al ae y w6 ay
   ·have:ae=s.toNat:=by omega
    subst this
    rw [List.getElem?_eq_getElem nB] at ay
    cases ay; exact c6
  ·exact J.elim
  ·exact J
 ·rw [he s bd]
  refine az λy ay=>?_
  obtain ⟨ae,aa,rfl⟩:=List.mem_iff_getElem.1 ay
  exact al ae _ (by omega) (List.getElem?_eq_getElem aa)
end Tot
end Go.Own
namespace Go.Own
open Go
variable {α β S R:Type}
def Par (x:Option α) (Φ:α->Prop):Prop:=∀ a,x=some a->Φ a
set_option linter.unusedVariables false
namespace Par
variable {Φ fJ:α->Prop}
theorem az {a:α}(h:Φ a):Par (some a) Φ:=λb e=>by cases e; exact h
theorem no:Par (none:Option α) Φ:=λb e=>by cases e
theorem use {x:Option α}(h:Par x fJ) (hi:∀ a,fJ a->Φ a):Par x Φ:=λa e=>hi a (h a e)
theorem aK {x:Option β}{f:β->Option α}{Ξ:β->Prop}(h:Par x Ξ) (hk:∀ a,Ξ a->Par (f a) Φ):Par (x.bind f) Φ:=λa e=>by
 cases x with
 | none=>cases e
 | some b=>exact hk b (h b rfl) a e
theorem go {x:Option β}{f:β->Option α}(hk:∀ a,x=some a->Par (f a) Φ):Par (x.bind f) Φ:=λa e=>by
 cases x with
 | none=>cases e
 | some b=>exact hk b rfl a e
theorem cv {c:Bool}{a b:Option α}(aG:c=true->Par a Φ) (bj:c=false->Par b Φ):Par (cond c a b) Φ:=by
 cases c
 ·exact bj rfl
 ·exact aG rfl
theorem b6 {p:Prop} [Decidable p] {a b:Option α}(aG:p->Par a Φ) (bj:¬ p->Par b Φ):Par (cond (decide p) a b) Φ :=
 cv (λh=>aG (of_decide_eq_true h)) (λh=>bj (of_decide_eq_false h))
theorem qZ {p:Prop} [Decidable p] {a b:Option α}(aG:¬ p->Par a Φ) (bj:p->Par b Φ):Par (cond (!decide p) a b) Φ :=
 cv (λh=>aG (of_decide_eq_false (by simpa using h))) (λh=>bj (of_decide_eq_true (by simpa using h)))
theorem ap {l m:List β}{f:List β->Option α}(hk:l.length+m.length<=lim->Par (f (l++m)) Φ):Par ((eo l m).bind f) Φ:=by
 unfold eo
 split
 ·rename_i h; exact hk h
 ·exact no
theorem cat {s u:ByteArray}{f:ByteArray->Option α}(hk:Par (f (s++u)) Φ):Par ((rU s u).bind f) Φ:=by
 unfold rU
 split
 ·exact hk
 ·exact no
theorem loop {f:S->Option (S ⊕ R)}{fl:S}{fJ:R->Prop}(Inv:S->Prop) (bc:Inv fl) (aP:∀ s,Inv s->Par (f s) (jv Inv fJ)):Par (cK f fl) fJ:=by
 have key:∀ n s,Inv s->Par (iter f n s) fJ:=by
  intro n
  induction n with
  | zero=>intro s _ a e; cases e
  | succ n aS =>
   intro s bs a e
   simp only [iter] at e
   cases J:f s with
   | none=>rw [J] at e; cases e
   | some x =>
    have c6:=aP s bs x J
    rw [J] at e
    cases x with
    | inl e6=>exact aS e6 c6 a e
    | inr r=>cases e; exact c6
 exact key fuel fl bc
theorem jR {x:Option α}(h:Tot x Φ) (aT:Par x fJ):Tot x λa=>Φ a/\fJ a:=by
 obtain ⟨a,bg,m'⟩:=h
 exact ⟨a,bg,m',aT a bg⟩
theorem of {x:Option α}(h:Tot x Φ):Par x Φ:=λa e=>h.eq e
theorem scan {f:Int->Option (Int ⊕ (Unit ⊕ R))}(l:List β) (ao:l.length<=100000000000000000) (P:β->Prop) (Q:R->Prop)
  (aP:∀ (s:Int) (y:β),0<=s->s<l.length->idx l s=some y->y∈l->Par (f s) (jv (λe6=>e6=s+1/\P y) (jv (λ_=>False) Q)))
  (he:∀ s:Int,¬ s<l.length->f s=some (.inr (.inl ()))):Par (cK f 0) (jv (λ_=>∀ y∈l,P y) Q):=by
 refine loop (λs=>0<=s/\s<=l.length/\∀ (ae:Nat) (y:β),(ae:Int)<s->l[ae]?=some y->P y) ⟨by omega,by omega,λae y h=>by omega⟩ λs bs=>?_
 obtain ⟨bc,h1,al⟩:=bs
 by_cases bd:s<l.length
 ·have nB:s.toNat<l.length:=by omega
  have hi:idx l s=some l[s.toNat]:=by simp [idx,bc,nB]
  refine (aP s _ bc bd hi (List.getElem_mem nB)).use λx J=>?_
  rcases x with e6 | ⟨⟨⟩⟩ | r
  ·obtain ⟨rfl,c6⟩:=J
   refine ⟨by omega,by omega,λae y aa ay=>?_⟩
   by_cases w6:(ae:Int)<s
   ·exact al ae y w6 ay
   ·have:ae=s.toNat:=by omega
    subst this
    rw [List.getElem?_eq_getElem nB] at ay
    cases ay; exact c6
  ·exact J.elim
  ·exact J
 ·rw [he s bd]
  refine az λy ay=>?_
  obtain ⟨ae,aa,rfl⟩:=List.mem_iff_getElem.1 ay
  exact al ae _ (by omega) (List.getElem?_eq_getElem aa)
end Par
end Go.Own
namespace Go.Own
open Go
variable {α β S R:Type}
namespace Tot
theorem upto {f:S->Option (S ⊕ R)}{fl:S}{fJ:R->Prop}(i:S->Int) (n:Nat) (Inv:Nat->S->Prop) (hi:i fl=0) (aN:n<=100000000000000000) (bc:Inv 0 fl)
  (aP:∀ (k:Nat) (s:S),k<=n->i s=(k:Int)->Inv k s->Tot (f s) (jv (λe6=>k<n/\i e6=((k+1:Nat):Int)/\Inv (k+1) e6) fJ)):Tot (cK f fl) fJ:=by
 refine count i n (λs=>∃ k:Nat,k<=n/\i s=(k:Int)/\Inv k s) ⟨0,Nat.zero_le _,hi,bc⟩ (by rw [hi]; omega) λs ⟨k,hk,he,bs⟩=>(aP k s hk he bs).use λx J=>?_
 rcases x with e6 | r
 ·obtain ⟨h1,al,aR⟩:=J
  exact ⟨⟨k+1,by omega,al,aR⟩,by omega,by omega⟩
 ·exact J
end Tot
namespace Par
theorem upto {f:S->Option (S ⊕ R)}{fl:S}{fJ:R->Prop}(i:S->Int) (n:Nat) (Inv:Nat->S->Prop) (hi:i fl=0) (bc:Inv 0 fl)
  (aP:∀ (k:Nat) (s:S),k<=n->i s=(k:Int)->Inv k s->Par (f s) (jv (λe6=>k<n/\i e6=((k+1:Nat):Int)/\Inv (k+1) e6) fJ)):Par (cK f fl) fJ:=by
 refine loop (λs=>∃ k:Nat,k<=n/\i s=(k:Int)/\Inv k s) ⟨0,Nat.zero_le _,hi,bc⟩ λs ⟨k,hk,he,bs⟩=>(aP k s hk he bs).use λx J=>?_
 rcases x with e6 | r
 ·obtain ⟨h1,al,aR⟩:=J
  exact ⟨k+1,by omega,al,aR⟩
 ·exact J
end Par
theorem eN (k:Nat) (h:k<=1000000000000000000):aM ((k:Int)+1)=((k+1:Nat):Int):=by rw [dx]; omega
end Go.Own
namespace Go.Own
open Go
variable {α β x0 x1 S T R Q:Type}
def Rel (x:Option α) (y:Option β) (Φ:α->β->Prop):Prop:=∃ a b,x=some a/\y=some b/\Φ a b
abbrev LL (p:S->T->Prop) (q:R->Q->Prop):S ⊕ R->T ⊕ Q->Prop
 | .inl a,.inl b=>p a b
 | .inr a,.inr b=>q a b
 | _,_=>False
namespace Rel
variable {Φ fJ:α->β->Prop}
theorem az {a:α}{b:β}(h:Φ a b):Rel (some a) (some b) Φ:=⟨a,b,rfl,rfl,h⟩
theorem use {x:Option α}{y:Option β}(h:Rel x y fJ) (hi:∀ a b,fJ a b->Φ a b):Rel x y Φ:=by
 obtain ⟨a,b,bg,aI,F8⟩:=h
 exact ⟨a,b,bg,aI,hi a b F8⟩
theorem aK {x:Option x0}{y:Option x1}{f:x0->Option α}{g:x1->Option β}{Ξ:x0->x1->Prop}(h:Rel x y Ξ) (hk:∀ a b,Ξ a b->Rel (f a) (g b) Φ):Rel (x.bind f) (y.bind g) Φ:=by
 obtain ⟨a,b,rfl,rfl,zw⟩:=h
 exact hk a b zw
theorem l {x:Option x0}{y:Option β}{f:x0->Option α}{Ξ:x0->Prop}(h:Tot x Ξ) (hk:∀ a,Ξ a->Rel (f a) y Φ):Rel (x.bind f) y Φ:=by
 obtain ⟨a,rfl,zw⟩:=h
 exact hk a zw
theorem r {x:Option α}{y:Option x1}{g:x1->Option β}{Ξ:x1->Prop}(h:Tot y Ξ) (hk:∀ a,Ξ a->Rel x (g a) Φ):Rel x (y.bind g) Φ:=by
 obtain ⟨a,rfl,zw⟩:=h
 exact hk a zw
theorem cv {c d:Bool}{a b:Option α}{cy iI:Option β}(ab:c=d) (aG:c=true->Rel a cy Φ) (bj:c=false->Rel b iI Φ):Rel (cond c a b) (cond d cy iI) Φ:=by
 subst ab
 cases c
 ·exact bj rfl
 ·exact aG rfl
theorem jR {x:Option α}{y:Option β}{P:α->Prop}{Q:β->Prop}(h:Tot x P) (aT:Tot y Q) (hi:∀ a b,P a->Q b->Φ a b):Rel x y Φ:=by
 obtain ⟨a,bg,c6⟩:=h
 obtain ⟨b,aI,dP⟩:=aT
 exact ⟨a,b,bg,aI,hi a b c6 dP⟩
theorem loop {f:S->Option (S ⊕ R)}{g:T->Option (T ⊕ Q)}{fl:S}{t0:T}{fJ:R->Q->Prop}(Inv:S->T->Prop) (sR:S->Nat) (bc:Inv fl t0) (F9:sR fl<fuel)
  (aP:∀ s t,Inv s t->Rel (f s) (g t) (LL (λe6 dh=>Inv e6 dh/\sR e6<sR s) fJ)):Rel (cK f fl) (cK g t0) fJ:=by
 have key:∀ n s t,Inv s t->sR s<n->Rel (iter f n s) (iter g n t) fJ:=by
  intro n
  induction n with
  | zero=>intro s t _ h; omega
  | succ n aS =>
   intro s t bs hm
   obtain ⟨x,y,J,ay,c6⟩:=aP s t bs
   rcases x with e6 | r <;> rcases y with dh | q
   ·obtain ⟨h1,al⟩:=c6
    simp only [iter,J,ay]
    exact aS e6 dh h1 (by omega)
   ·exact c6.elim
   ·exact c6.elim
   ·simp only [iter,J,ay]
    exact ⟨r,q,rfl,rfl,c6⟩
 exact key fuel fl t0 bc F9
theorem upto {f:S->Option (S ⊕ R)}{g:T->Option (T ⊕ Q)}{fl:S}{t0:T}{fJ:R->Q->Prop}(i:S->Int) (n:Nat) (Inv:Nat->S->T->Prop) (hi:i fl=0) (aN:n<=100000000000000000) (bc:Inv 0 fl t0)
  (aP:∀ (k:Nat) (s:S) (t:T),k<=n->i s=(k:Int)->Inv k s t->Rel (f s) (g t) (LL (λe6 dh=>k<n/\i e6=((k+1:Nat):Int)/\Inv (k+1) e6 dh) fJ)):Rel (cK f fl) (cK g t0) fJ:=by
 refine loop (λs t=>∃ k:Nat,k<=n/\i s=(k:Int)/\Inv k s t) (λs=>(n - (i s).toNat)) ⟨0,Nat.zero_le _,hi,bc⟩ (by rw [hi]; show n - 0<1000000000000000000; omega) λs t ⟨k,hk,he,bs⟩=>(aP k s t hk he bs).use λx y Cs=>?_
 rcases x with e6 | r <;> rcases y with dh | q
 ·obtain ⟨h1,al,aR⟩:=Cs
  refine ⟨⟨k+1,by omega,al,aR⟩,?_⟩
  show n - (i e6).toNat<n - (i s).toNat
  rw [al,he]; omega
 ·exact Cs
 ·exact Cs
 ·exact Cs
end Rel
end Go.Own

namespace Go.Proofs
open Go Go.Own
set_option maxRecDepth 100000
set_option linter.unusedVariables false
theorem t121 (c:Int):Tot (z7 c) λ_=>True:=by
 unfold z7
 repeat' first | apply Tot.bi | refine Tot.cv (λ_=>?_) (λ_=>?_) | exact Tot.az trivial | apply Tot.az
theorem t122 (c:Int):Tot (z8 c) λ_=>True:=by
 unfold z8
 repeat' first | apply Tot.bi | refine Tot.cv (λ_=>?_) (λ_=>?_) | exact Tot.az trivial | apply Tot.az
theorem t120 (c:Int):Tot (z6 c) λ_=>True:=by
 unfold z6
 repeat' first | apply Tot.bi | refine Tot.cv (λ_=>?_) (λ_=>?_) | exact Tot.az trivial | apply Tot.az
theorem t118 (x:Sym):Tot (vC x) λr=>r=true->x.Name={ data:=#[] }/\x.Lit=false:=by
 unfold vC
 apply Tot.bi
 refine Tot.b6 (λh=>Tot.cv (λal=>?_) (λal=>?_)) (λh=>?_) <;> apply Tot.az <;> apply Tot.az
 ·exact λ_=>⟨h,by simpa using al⟩
 ·exact λh=>by cases h
 ·exact λh=>by cases h
abbrev e7:Nat:=1000000000000
theorem t117 (s:ByteArray) (h:s.size<=e7):Tot (z1 s 0) λn=>0<=n/\n<=s.size:=by
 unfold z1
 refine Tot.aK (Ξ:=λn=>0<=n/\n<=s.size) ?_ λa bg=>.az bg
 refine Tot.count (λi=>i) s.size (λi=>0<=i/\i<=s.size) ⟨by omega,by omega⟩ (by show (s.size:Int) - 0<_; simp only [e7] at h; omega) λi ⟨bc,h1⟩=>?_
 simp only [e7] at h
 have e:aM (0+i)=i:=by rw [dx]; omega
 rw [e]
 have go:∀ c:Bool,(c=true->i<s.size)->Tot (bif c then some (.inl (aM (i+1))) else some (.inr i)) (jv (λe6:Int=>(0<=e6/\e6<=s.size)/\i<e6/\e6<=s.size) (λr:Int=>0<=r/\r<=s.size)):=by
  intro c ab
  refine Tot.cv (λal=>.az ?_) (λ_=>.az ⟨bc,h1⟩)
  have:=ab al
  have e:aM (i+1)=i+1:=by rw [dx]; omega
  show (0<=aM (i+1)/\aM (i+1)<=s.size)/\i<aM (i+1)/\aM (i+1)<=s.size
  rw [e]; omega
 apply Tot.bi
 refine Tot.b6 (λal=>?_) (λal=>.az (go false (by simp)))
 apply Tot.bi
 refine Tot.mW ⟨bc,al⟩ (Tot.aK (t121 _) λc _=>?_)
 refine Tot.cv (λ_=>.az (go _ λ_=>al)) (λ_=>Tot.cv (λ_=>?_) (λ_=>.az (go _ λ_=>al)))
 apply Tot.bi
 refine Tot.mW ⟨bc,al⟩ (Tot.aK (t122 _) λc _=>?_)
 refine Tot.cv (λ_=>.az (go _ λ_=>al)) (λ_=>?_)
 apply Tot.bi
 exact Tot.mW ⟨bc,al⟩ (.az (go _ λ_=>al))
theorem t111 (s:ByteArray) (h:s.size<=e7):Tot (tP s) λr=>r=true->1<=s.size/\s.size<=20:=by
 unfold tP
 apply Tot.bi
 refine Tot.b6 (λh1=>Tot.b6 (λal=>?_) (λal=>?_)) (λh1=>?_)
 ·exact .aK (t117 s h) λn aN=>.az (.az λ_=>by omega)
 ·exact .az (.az λh=>by cases h)
 ·exact .az (.az λh=>by cases h)
theorem t124 (s:ByteArray) (i:Int) (t:ByteArray) (h:s.size<=e7) (bc:0<=i) (h1:i<=4 * e7) (aG:t.size<=e7):Tot (vD s i t) λr=>r=true->i+t.size<=s.size:=by
 unfold vD
 simp only [e7] at *
 apply Tot.bi
 refine Tot.b6 (λal=>?_) (λal=>.az (.az λh=>by cases h))
 apply Tot.bi
 rw [dx] at al
 have e:aM (i+t.size)=i+t.size:=by rw [dx]; omega
 refine Tot.cut (by rw [e]; omega) (.az (.az λ_=>by omega))
theorem t123 (s:ByteArray) (i:Int) (h:s.size<=e7) (bc:0<=i) (h1:i<s.size):Tot (z_ s i) λr=>r<=s.size:=by
 unfold z_
 have aI:(s.size:Int)<=1000000000000:=by simp only [e7] at h; omega
 have dn:aM (i+1)=i+1:=by rw [dx]; omega
 have cZ:aM (i+2)=i+2:=by rw [dx]; omega
 rw [dn,cZ]
 have u0:=Tot.mW (Φ:=λ_=>True) (s:=s) (m:=i) ⟨bc,h1⟩ trivial
 refine Tot.aK (Ξ:=λ_=>True) ?_ λc _=>Tot.cv (λ_=>?_) (λ_=>?_)
 ·refine Tot.aK u0 λ_ _=>Tot.cv (λ_=>.az trivial) (λ_=>Tot.aK u0 λ_ _=>.az trivial)
 ·refine Tot.aK (Ξ:=jv (λ_=>True) (λr=>r<=s.size)) ?_ λx J=>?_
  ·refine Tot.count (λae=>ae) (s.size+1) (λae=>0<=ae) (by show (0:Int)<=i+1; omega) (by show (s.size:Int)+1 - (i+1)<_; omega) λae aa=>?_
   refine Tot.aK (Ξ:=λc=>c=true->ae<s.size) ?_ λc ab=>Tot.cv (λal=>?_) (λ_=>.az trivial)
   ·refine Tot.b6 (λal=>?_) (λ_=>.az λh=>by cases h)
    exact .aK (Ξ:=λ_=>True) (Tot.mW ⟨aa,al⟩ trivial) λ_ _=>.az λ_=>al
   ·have Rt:=ab al
    have B9:=Tot.mW (Φ:=λ_=>True) (s:=s) (m:=ae) ⟨aa,Rt⟩ trivial
    have jV:aM (ae+1)=ae+1:=by rw [dx]; omega
    have q4:aM (ae+1+1)=ae+1+1:=by rw [dx]; omega
    rw [jV,q4]
    refine .aK B9 λ_ _=>.aK u0 λ_ _=>Tot.cv (λ_=>.az ?_) (λ_=>.aK B9 λ_ _=>Tot.cv (λ_=>?_) (λ_=>.az ?_))
    ·show ae+1<=s.size; omega
    ·refine Tot.aK (Ξ:=λ_=>True) ?_ λc _=>Tot.cv (λ_=>.az ?_) (λ_=>.az ?_)
     ·refine Tot.b6 (λaR=>?_) (λ_=>.az trivial)
      exact .aK (Ξ:=λ_=>True) (Tot.mW ⟨by omega,aR⟩ trivial) λ_ _=>.az trivial
     ·show (-1:Int)<=s.size; omega
     ·show (0:Int)<=ae+1+1/\ae<ae+1+1/\ae+1+1<=s.size+1; omega
    ·show (0:Int)<=ae+1/\ae<ae+1/\ae+1<=s.size+1; omega
  ·rcases x with _ | r
   ·exact .az (by show (-1:Int)<=s.size; omega)
   ·exact .az J
 ·refine .aK u0 λ_ _=>Tot.cv (λ_=>?_) (λ_=>?_)
  ·refine Tot.aK (Ξ:=jv (λ_=>True) (λr=>r<=s.size)) ?_ λx J=>?_
   ·refine Tot.count (λae=>ae) (s.size+1) (λae=>0<=ae) (by show (0:Int)<=i+1; omega) (by show (s.size:Int)+1 - (i+1)<_; omega) λae aa=>?_
    refine Tot.b6 (λal=>?_) (λ_=>.az trivial)
    have jV:aM (ae+1)=ae+1:=by rw [dx]; omega
    rw [jV]
    refine .aK (Ξ:=λ_=>True) (Tot.mW ⟨aa,al⟩ trivial) λ_ _=>Tot.cv (λ_=>.az ?_) (λ_=>.az ?_)
    ·show ae+1<=s.size; omega
    ·show (0:Int)<=ae+1/\ae<ae+1/\ae+1<=s.size+1; omega
   ·rcases x with _ | r
    ·exact .az (by show (-1:Int)<=s.size; omega)
    ·exact .az J
  ·refine .aK (t124 s i _ h bc (by simp only [e7]; omega) (by decide)) λc _=>Tot.cv (λ_=>?_) (λ_=>?_)
   ·refine Tot.aK (Ξ:=λr=>r<=s.size) ?_ λx J=>.az J
    refine Tot.count (λae=>ae) s.size (λae=>0<=ae/\ae<=s.size) ⟨bc,by omega⟩ (by show (s.size:Int) - i<_; omega) λae aa=>?_
    refine Tot.aK (Ξ:=λc=>c=true->ae<s.size) ?_ λc ab=>Tot.cv (λal=>?_) (λ_=>.az aa.2)
    ·refine Tot.b6 (λal=>?_) (λ_=>.az λh=>by cases h)
     exact .aK (Ξ:=λ_=>True) (Tot.mW ⟨aa.1,al⟩ trivial) λ_ _=>.az λ_=>al
    ·have:=ab al
     have jV:aM (ae+1)=ae+1:=by rw [dx]; omega
     rw [jV]
     exact .az (by show ((0:Int)<=ae+1/\ae+1<=s.size)/\ae<ae+1/\ae+1<=s.size; omega)
   ·refine .aK (t124 s i _ h bc (by simp only [e7]; omega) (by decide)) λc ab=>Tot.cv (λlk=>?_) (λ_=>.az (by omega))
    refine Tot.aK (Ξ:=jv (λ_=>True) (λr=>r<=s.size)) ?_ λx J=>?_
    ·refine Tot.count (λae=>ae) (s.size+1) (λae=>0<=ae) (by show (0:Int)<=i+2; omega) (by show (s.size:Int)+1 - (i+2)<_; omega) λae aa=>?_
     refine Tot.b6 (λal=>?_) (λ_=>.az trivial)
     have jV:aM (ae+1)=ae+1:=by rw [dx]; omega
     have q4:aM (ae+2)=ae+2:=by rw [dx]; omega
     rw [jV,q4]
     refine .aK (t124 s ae _ h aa (by simp only [e7]; omega) (by decide)) λc ab=>Tot.cv (λsb=>.az ?_) (λ_=>.az ?_)
     ·have:=ab sb
      have p_:({ data:=#[42,47] }:ByteArray).size=2:=rfl
      rw [p_] at this
      show ae+2<=s.size; omega
     ·show (0:Int)<=ae+1/\ae<ae+1/\ae+1<=s.size+1; omega
    ·rcases x with _ | r
     ·exact .az (by show (-1:Int)<=s.size; omega)
     ·exact .az J
theorem t119 (s:ByteArray) (h:s.size<=e7):Tot (xD s 0) λ_=>True:=by
 unfold xD
 have aI:(s.size:Int)<=1000000000000:=by simp only [e7] at h; omega
 refine Tot.aK (Ξ:=λ_=>True) ?_ λc _=>Tot.cv (λ_=>.az trivial) (λ_=>?_)
 ·refine Tot.b6 (λh=>.az trivial) (λbc=>Tot.b6 (λh=>.az trivial) (λal=>?_))
  exact .aK (Ξ:=λ_=>True) (Tot.mW (by omega) trivial) λ_ _=>.az trivial
 ·refine Tot.aK (Ξ:=λ_=>True) ?_ λx _=>by rcases x with _ | r <;> exact .az trivial
  refine Tot.count (λae=>ae.2) s.size (λae=>0<=ae.2/\ae.2<=s.size) ⟨by show (0:Int)<=0; omega,by show (0:Int)<=s.size; omega⟩ (by show (s.size:Int) - 0<_; omega) λae aa=>?_
  refine Tot.b6 (λal=>?_) (λ_=>.az trivial)
  refine .aK (t123 s ae.2 h aa.1 al) λn aN=>Tot.b6 (λ_=>.az trivial) (λaR=>Tot.b6 (λb3=>.az ?_) (λb3=>?_))
  ·show ((0:Int)<=n/\n<=s.size)/\ae.2<n/\n<=s.size; omega
  ·have u0:=Tot.mW (Φ:=λ_=>True) (s:=s) (m:=ae.2) ⟨aa.1,al⟩ trivial
   have jV:aM (ae.2+1)=ae.2+1:=by rw [dx]; omega
   rw [jV]
   refine .aK u0 λ_ _=>.aK (Ξ:=λ_=>True) (Tot.cv (λ_=>.az trivial) (λ_=>.az trivial)) λ_ _=>.aK u0 λ_ _=>.aK (Ξ:=λ_=>True) (Tot.cv (λ_=>.az trivial) (λ_=>.az trivial)) λ_ _=>Tot.cv (λ_=>.az trivial) (λ_=>.az ?_)
   show ((0:Int)<=ae.2+1/\ae.2+1<=s.size)/\ae.2<ae.2+1/\ae.2+1<=s.size; omega
def lh (x:Sym):Prop:=x.Lit=true->x.Name.size=1
structure HR (d:Decl):Prop where
 tag:d.Tag.size<=e7
 n:d.fc.length<=1000
 syms:∀ x∈d.fc,x.Name.size<=e7
structure x4 (a:Alt):Prop where
 n:a.jw.length<=1000
 parts:∀ p∈a.jw,p.Sym.Name.size<=e7/\p.Code.size<=e7
 prec:a.Prec.Name.size<=e7
structure MX (r:fV):Prop where
 left:r.Left.size<=e7
 n:r.fM.length<=1000
 alts:∀ a∈r.fM,x4 a
structure ur (s:Source):Prop where
 TA:s.bz.size<=e7
 Ei:s.Decls.length<=1000
 decls:∀ d∈s.Decls,HR d
 aO:s.ea.length<=1000
 rules:∀ r∈s.ea,MX r
theorem t116 (x:Sym) (a b:Bool) (h:x.Name.size<=e7):Tot (vB x a b) λr=>r=true->lh x:=by
 unfold vB
 refine Tot.cv (λao=>?_) (λao=>?_)
 ·refine Tot.aK (Ξ:=λc=>c=false->x.Name.size=1) ?_ λc ab=>Tot.cv (λ_=>.az λh=>by cases h) (λal=>?_)
  ·refine Tot.cv (λ_=>.az λh=>by cases h) (λ_=>Tot.qZ (λ_=>.az λh=>by cases h) (λh1=>.az λ_=>by omega))
  ·have h1:=ab al
   refine .aK (Ξ:=λ_=>True) (Tot.mW (by omega) trivial) λ_ _=>.aK (t120 _) λ_ _=>.az λ_ _=>h1
 ·have eA:lh x:=λh=>by rw [ao] at h; cases h
  refine Tot.aK (Ξ:=λ_=>True) ?_ λc ab=>.az λ_=>eA
  refine .aK (t111 _ h) λc _=>?_
  repeat' first | refine Tot.cv (λ_=>?_) (λ_=>?_) | exact Tot.az trivial
theorem t110 (d:Decl) (h:HR d):Tot (zY d) λr=>r=true->∀ x∈d.fc,lh x:=by
 unfold zY
 refine Tot.aK (Ξ:=λ_=>True) ?_ λc _=>Tot.cv (λ_=>.az λh=>by cases h) (λ_=>?_)
 ·have aG:=(t111 _ h.tag).use (Φ:=λ_=>True) λ_ _=>trivial
  repeat' first | refine Tot.cv (λ_=>?_) (λ_=>?_) | exact Tot.az trivial | refine .aK aG λ_ _=>?_
 ·refine Tot.aK (Tot.scan d.fc (λx=>lh x) (λr=>r=false) (by have:=h.n; omega) (λs y bc h1 hi hm=>?_) (λs aP=>by simp [aP])) λx J=>?_
  ·refine Tot.b6 (λ_=>?_) (λh=>absurd h1 h)
   rw [hi]
   refine Tot.ax ?_
   refine .aK (t116 _ _ _ (h.syms _ hm)) λc ab=>Tot.cv (λ_=>.az rfl) (λal=>.az ⟨?_,ab (by simpa using al)⟩)
   have:=h.n
   rw [dx]; omega
  ·rcases x with _ | r
   ·exact .az λ_=>J
   ·exact .az λh=>by have:r=false:=J; rw [this] at h; cases h
theorem t112 (a:Alt) (h:x4 a):Tot (zZ a) λr=>r=true->(∀ p∈a.jw,lh p.Sym)/\lh a.Prec:=by
 unfold zZ
 refine Tot.aK (Tot.scan a.jw (λp=>lh p.Sym) (λr=>r=false) (by have:=h.n; omega) (λs y bc h1 hi hm=>?_) (λs aP=>by simp [aP])) λx J=>?_
 ·refine Tot.b6 (λ_=>?_) (λh=>absurd h1 h)
  rw [hi]
  refine Tot.ax ?_
  have aF:=h.parts _ hm
  have t1:=t116 y.Sym false true aF.1
  have t2:=t118 y.Sym
  have Mo:=t119 y.Code aF.2
  have hw:aM (s+1)=s+1:=by have:=h.n; rw [dx]; omega
  rw [hw]
  have n118:(y.Sym.Name={ data:=#[] }/\y.Sym.Lit=false)->lh y.Sym:=λh ao=>by rw [h.2] at ao; cases ao
  refine Tot.aK (Ξ:=λc=>c=false->lh y.Sym) ?_ λc ab=>Tot.cv (λ_=>.az rfl) (λal=>.az ⟨rfl,ab al⟩)
  refine Tot.b6 (λ_=>?_) (λez=>?_)
  ·refine .aK t1 λc ab=>Tot.cv (λ_=>.az λh=>by cases h) (λal=>?_)
   have eA:=ab (by simpa using al)
   refine Tot.cv (λ_=>?_) (λ_=>.az λ_=>eA)
   refine .aK t2 λc _=>Tot.cv (λ_=>.az λ_=>eA) (λ_=>?_)
   exact .aK Mo λ_ _=>.az λ_=>eA
  ·refine Tot.qZ (λ_=>?_) (λh=>.az λ_=>?_)
   ·refine .aK t2 λc ab=>Tot.cv (λ_=>.az λh=>by cases h) (λal=>?_)
    have eA:=n118 (ab (by simpa using al))
    exact .aK Mo λ_ _=>.az λ_=>eA
   ·exact absurd h ez
 ·rcases x with _ | r
  ·have J:∀ p∈a.jw,lh p.Sym:=J
   refine Tot.aK (Ξ:=λc=>c=true->lh a.Prec) ?_ λc ab=>.az λh=>⟨J,ab h⟩
   refine .aK (t118 _) λc ab=>Tot.cv (λal=>.az λ_=>?_) (λ_=>.aK (t116 _ _ _ h.prec) λc ab=>.az ab)
   intro ao; rw [(ab al).2] at ao; cases ao
  ·exact .az λh=>by have:r=false:=J; rw [this] at h; cases h
structure A4 (a:Alt):Prop where
 parts:∀ p∈a.jw,lh p.Sym
 prec:lh a.Prec
structure H2 (s:Source):Prop where
 decls:∀ d∈s.Decls,∀ x∈d.fc,lh x
 rules:∀ r∈s.ea,∀ a∈r.fM,A4 a
 pos:0<s.ea.length
theorem t92 (s:Source) (h:ur s):Tot (Az s) λr=>r=true->H2 s:=by
 unfold Az
 refine Tot.aK (Ξ:=jv (λ_=>True) (λr=>r=false)) ?_ λx J=>?_
 ·have aF:(s.bz.size:Int)<=1000000000000:=by have:=h.TA; simp only [e7] at this; omega
  refine Tot.count (λae=>ae) s.bz.size (λae=>0<=ae/\ae<=s.bz.size) ⟨by omega,by omega⟩ (by show (s.bz.size:Int) - 0<_; omega) λae aa=>?_
  have dn:aM (ae+1)=ae+1:=by rw [dx]; omega
  have cZ:aM (ae+2)=ae+2:=by rw [dx]; omega
  rw [dn,cZ]
  refine Tot.b6 (λal=>?_) (λ_=>.az trivial)
  refine .aK (Ξ:=λ_=>True) (Tot.cut (by omega) trivial) λ_ _=>Tot.cv (λ_=>.az rfl) (λ_=>.az ?_)
  show ((0:Int)<=ae+1/\ae+1<=s.bz.size)/\ae<ae+1/\ae+1<=s.bz.size; omega
 ·rcases x with _ | r
  ·refine Tot.aK (Tot.scan s.Decls (λd=>∀ x∈d.fc,lh x) (λr=>r=false) (by have:=h.Ei; omega) (λi y bc h1 hi hm=>?_) (λs aP=>by simp [aP])) λx J=>?_
   ·refine Tot.b6 (λ_=>?_) (λh=>absurd h1 h)
    rw [hi]
    refine Tot.ax ?_
    refine .aK (t110 _ (h.decls _ hm)) λc ab=>Tot.cv (λ_=>.az rfl) (λal=>.az ⟨?_,ab (by simpa using al)⟩)
    have:=h.Ei
    rw [dx]; omega
   ·rcases x with _ | r
    ·have J:∀ d∈s.Decls,∀ x∈d.fc,lh x:=J
     refine Tot.aK (Tot.scan s.ea (λr=>∀ a∈r.fM,A4 a) (λr=>r=false) (by have:=h.aO; omega) (λi y bc h1 hi hm=>?_) (λs aP=>by simp [aP])) λx ho=>?_
     ·refine Tot.b6 (λ_=>?_) (λh=>absurd h1 h)
      rw [hi]
      refine Tot.ax ?_
      have aw:=h.rules _ hm
      have hw:aM (i+1)=i+1:=by have:=h.aO; rw [dx]; omega
      rw [hw]
      refine .aK (Ξ:=λ_=>True) (.aK (t111 _ aw.left) λc _=>Tot.cv (λ_=>.az trivial) (λ_=>.az trivial)) λc _=>Tot.cv (λ_=>.az rfl) (λ_=>?_)
      refine Tot.aK (Tot.scan y.fM A4 (λr=>r=false) (by have:=aw.n; omega) (λk a bc h1 hi hm=>?_) (λs aP=>by simp [aP])) λx hL=>?_
      ·refine Tot.b6 (λ_=>?_) (λh=>absurd h1 h)
       rw [hi]
       refine Tot.ax ?_
       refine .aK (t112 _ (aw.alts _ hm)) λc ab=>Tot.cv (λ_=>.az rfl) (λal=>.az ⟨?_,⟨(ab (by simpa using al)).1,(ab (by simpa using al)).2⟩⟩)
       have:=aw.n
       rw [dx]; omega
      ·rcases x with _ | r
       ·exact .az ⟨rfl,hL⟩
       ·exact .az hL
     ·rcases x with _ | r
      ·exact .az λh=>⟨J,ho,by have:=of_decide_eq_true h; omega⟩
      ·exact .az λh=>by have:r=false:=ho; rw [this] at h; cases h
    ·exact .az λh=>by have:r=false:=J; rw [this] at h; cases h
  ·exact .az λh=>by have:r=false:=J; rw [this] at h; cases h
abbrev jb:=cN
structure s0 (m b7:jb):Prop where
 g:b7.aq=m.aq
 ih:b7.b0=m.b0
 ty:b7.bW=m.bW
 hN:b7.bD=m.bD
 jO:b7.bU=m.bU
 hy:b7.bB=m.bB
theorem t94 (m:jb) (a:Int) (n:ByteArray):Tot (nh m a n) λb7=>s0 m b7/\b7.ca≠0:=by
 unfold nh
 apply Tot.bi
 refine Tot.b6 (λ_=>.az (.az ⟨⟨rfl,rfl,rfl,rfl,rfl,rfl⟩,?_⟩)) (λh=>.az (.az ⟨⟨rfl,rfl,rfl,rfl,rfl,rfl⟩,h⟩))
 show (3:Int)≠0; decide
theorem t98 (m:jb) (n:ByteArray) (h:m.bW.length<=e7):Tot (xM m n) λr=>r=-1\/(0<=r/\r<m.bW.length):=by
 unfold xM
 simp only [e7] at h
 refine Tot.aK (Tot.scan m.bW (λ_=>True) (λr:Int=>0<=r/\r<m.bW.length) (by omega) (λs y bc h1 hi hm=>?_) (λs aP=>by simp [aP])) λx J=>?_
 ·refine Tot.b6 (λ_=>?_) (λh=>absurd h1 h)
  rw [hi]
  refine Tot.ax ?_
  refine Tot.cv (λ_=>.az ⟨bc,h1⟩) (λ_=>.az ⟨?_,trivial⟩)
  rw [dx]; omega
 ·rcases x with _ | r
  ·exact .az (.inl rfl)
  ·exact .az (.inr J)
theorem t96 (m:jb) (n:ByteArray) (h:m.bD.length<=e7):Tot (rp m n) λr=>(r=-1/\∀ x∈m.bD,x≠n)\/(0<=r/\r<m.bD.length/\m.bD[r.toNat]?=some n):=by
 unfold rp
 simp only [e7] at h
 refine Tot.aK (Tot.scan m.bD (λx=>x≠n) (λr:Int=>0<=r/\r<m.bD.length/\m.bD[r.toNat]?=some n) (by omega) (λs y bc h1 hi hm=>?_) (λs aP=>by simp [aP])) λx J=>?_
 ·refine Tot.b6 (λ_=>?_) (λh=>absurd h1 h)
  rw [hi]
  refine Tot.ax ?_
  refine Tot.b6 (λe=>.az ⟨bc,h1,by rw [<- e]; exact (pM hi).2.2⟩) (λe=>.az ⟨?_,e⟩)
  rw [dx]; omega
 ·rcases x with _ | r
  ·exact .az (.inl ⟨rfl,J⟩)
  ·exact .az (.inr J)
theorem t95 (m:jb) (x:Sym) (h:m.aq.a'.length<=e7):Tot (vJ m x) λr=>r=-1\/(1<=r/\r<m.aq.a'.length):=by
 unfold vJ
 simp only [e7] at h
 refine Tot.aK (Ξ:=jv (λ_=>True) (λr=>1<=r/\r<m.aq.a'.length)) ?_ λx J=>?_
 ·refine Tot.count (λae=>ae) m.aq.a'.length (λae=>1<=ae) (by omega) (by show (m.aq.a'.length:Int) - 1<_; omega) λae aa=>?_
  refine Tot.b6 (λal=>?_) (λ_=>.az trivial)
  have e:aM (ae+1)=ae+1:=by rw [dx]; omega
  rw [e]
  refine .aK (Ξ:=λ_=>True) ?_ λc _=>Tot.cv (λ_=>.az ⟨aa,al⟩) (λ_=>.az ?_)
  ·refine .aK (Ξ:=λ_=>True) (Tot.hz (by omega) al λ_ _ _=>trivial) λ_ _=>Tot.cv (λ_=>?_) (λ_=>.az trivial)
   exact .aK (Ξ:=λ_=>True) (Tot.hz (by omega) al λ_ _ _=>trivial) λ_ _=>Tot.cv (λ_=>.az trivial) (λ_=>.az trivial)
  ·show (1:Int)<=ae+1/\ae<ae+1/\ae+1<=m.aq.a'.length; omega
 ·rcases x with _ | r
  ·exact .az (.inl rfl)
  ·exact .az (.inr J)
theorem t114 (m:jb) (n:Int) (h:m.aq.a'.length<=e7):Tot (xC m n) λ_=>True:=by
 unfold xC
 simp only [e7] at h
 refine Tot.aK (Ξ:=λ_=>True) ?_ λx J=>?_
 ·refine Tot.count (λae=>ae) m.aq.a'.length (λae=>1<=ae) (by decide) (by show (m.aq.a'.length:Int) - 3<_; omega) λae aa=>?_
  refine Tot.b6 (λal=>?_) (λ_=>.az trivial)
  have e:aM (ae+1)=ae+1:=by rw [dx]; omega
  rw [e]
  refine .aK (Ξ:=λ_=>True) (Tot.hz (by omega) al λ_ _ _=>trivial) λc _=>Tot.cv (λ_=>.az trivial) (λ_=>.az ?_)
  show (1:Int)<=ae+1/\ae<ae+1/\ae+1<=m.aq.a'.length; omega
 ·rcases x with _ | r <;> exact .az trivial
structure Grow (m b7:jb) (k:Nat):Prop where
 ih:b7.b0.length=b7.aq.a'.length
 lo:m.aq.a'.length<=b7.aq.a'.length
 hi:b7.aq.a'.length<=m.aq.a'.length+k
 ty:b7.bW.length<=m.bW.length+k
 hN:b7.bD=m.bD
 hq:b7.aq.aY=m.aq.aY
 hy:b7.bB=m.bB
 lvl:b7.bU=m.bU
 jO:0<=m.bU->(∀ t∈m.aq.a',0<=t.Level)->∀ t∈b7.aq.a',0<=t.Level
theorem s0.grow {m b7:jb}(h:s0 m b7) (a7:m.b0.length=m.aq.a'.length) (k:Nat):Grow m b7 k:=by
 obtain ⟨h1,al,aR,b3,c3,eg⟩:=h
 exact ⟨by rw [h1,al]; exact a7,by rw [h1]; omega,by rw [h1]; omega,by rw [aR]; omega,b3,by rw [h1],eg,c3,by rw [h1]; exact λ_ h=>h⟩
theorem t113 (m:jb) (x:Sym) (a7:m.b0.length=m.aq.a'.length) (h:m.aq.a'.length<=100000000000) (J:lh x) :
  Tot (xB m x) λr=>Grow m r.2 1/\0<=r.1/\r.1<r.2.aq.a'.length:=by
 unfold xB
 refine .aK (t95 m x (by simp only [e7]; omega)) λt aG=>Tot.b6 (λbc=>.az ⟨⟨a7,Nat.le_refl _,Nat.le_succ _,Nat.le_succ _,rfl,rfl,rfl,rfl,λ_ h=>h⟩,bc,?_⟩) (λ_=>?_)
 ·rcases aG with rfl | aG
  ·exact absurd bc (by decide)
  ·exact aG.2
 ·refine Tot.aK (Ξ:=λae=>s0 m ae.1) ?_ λae aa=>?_
  ·refine Tot.cv (λao=>?_) (λ_=>.az ⟨rfl,rfl,rfl,rfl,rfl,rfl⟩)
   have:=J ao
   refine .aK (Ξ:=λ_=>True) (Tot.mW (by omega) trivial) λb _=>.aK (t114 m _ (by simp only [e7]; omega)) λo _=>?_
   refine Tot.aK (Ξ:=λae=>s0 m ae) ?_ λae aa=>.az aa
   exact Tot.cv (λ_=>.aK (t94 m _ _) λb7 hm=>.az hm.1) (λ_=>.az ⟨rfl,rfl,rfl,rfl,rfl,rfl⟩)
  ·obtain ⟨h1,al,aR,b3,c3,eg⟩:=aa
   have bd:ae.1.aq.a'.length=m.aq.a'.length:=by rw [h1]
   have Ks:ae.1.b0.length=m.b0.length:=by rw [al]
   refine .aK (Ξ:=λ_=>True) (Tot.ap (by rw [bd]; simp [lim]; omega) trivial) λ_ _=>.aK (Ξ:=λ_=>True) (Tot.ap (by rw [Ks]; simp [lim]; omega) trivial) λ_ _=>.az ?_
   refine ⟨⟨?_,?_,?_,?_,b3,by show ae.1.aq.aY=_; rw [h1],eg,c3,?_⟩,?_,?_⟩
   ·show (ae.1.b0++[x.Lit]).length=(ae.1.aq.a'++[_]).length
    simp [bd,Ks,a7]
   ·show _<=(ae.1.aq.a'++[_]).length
    simp [bd]
   ·show (ae.1.aq.a'++[_]).length<=_
    simp [bd]
   ·show ae.1.bW.length<=_
    rw [aR]; omega
   ·intro _ ao t aG
    rcases List.mem_append.1 aG with aG | aG
    ·rw [h1] at aG; exact ao t aG
    ·rw [List.mem_singleton.1 aG]; exact Int.le_refl 0
   ·show 0<=aM (((ae.1.aq.a'++[_]).length:Int) - 1)
    rw [dx]; simp [bd]; omega
   ·show aM (((ae.1.aq.a'++[_]).length:Int) - 1)<((ae.1.aq.a'++[_]).length:Int)
    rw [dx]; simp [bd]; omega
structure mV (m b7:jb):Prop where
 tk:b7.aq.a'.length=m.aq.a'.length
 ih:b7.b0.length=m.b0.length
 ty:b7.bW=m.bW
 hN:b7.bD=m.bD
 hq:b7.aq.aY=m.aq.aY
 hy:b7.bB=m.bB
 lvl:b7.bU=m.bU
 jO:0<=m.bU->(∀ t∈m.aq.a',0<=t.Level)->∀ t∈b7.aq.a',0<=t.Level
theorem mV.refl (m:jb):mV m m:=⟨rfl,rfl,rfl,rfl,rfl,rfl,rfl,λ_ h=>h⟩
theorem mV.trans {m b7 zK:jb}(h:mV m b7) (aT:mV b7 zK):mV m zK:=⟨aT.tk.trans h.tk,aT.ih.trans h.ih,aT.ty.trans h.ty,aT.hN.trans h.hN,aT.hq.trans h.hq,aT.hy.trans h.hy,aT.lvl.trans h.lvl,λbc ao=>aT.jO (by rw [h.lvl]; exact bc) (h.jO bc ao)⟩
theorem s0.tk {m b7:jb}(h:s0 m b7):mV m b7:=⟨by rw [h.g],by rw [h.ih],h.ty,h.hN,by rw [h.g],h.hy,h.jO,by rw [h.g]; exact λ_ h=>h⟩
theorem Grow.tk {m b7 zK:jb}{k:Nat}(h:Grow m b7 k) (aT:mV b7 zK):Grow m zK k :=
 ⟨by rw [aT.ih,aT.tk]; exact h.ih,by rw [aT.tk]; exact h.lo,by rw [aT.tk]; exact h.hi,by rw [aT.ty]; exact h.ty,aT.hN.trans h.hN,aT.hq.trans h.hq,aT.hy.trans h.hy,aT.lvl.trans h.lvl,λbc ao=>aT.jO (by rw [h.lvl]; exact bc) (h.jO bc ao)⟩
theorem vr {α:Type}{l:List α}{i:Nat}{x y:α}(h:y∈l.set i x):y∈l\/y=x:=List.mem_or_eq_of_mem_set h
theorem t93 (m:jb) (d:Decl) (x:Sym) (a7:m.b0.length=m.aq.a'.length) (h:m.aq.a'.length<=100000000000) (aG:m.bW.length<=100000000000) (J:lh x) :
  Tot (AA m d x) λb7=>Grow m b7 1:=by
 unfold AA
 refine Tot.cv (λ_=>?_) (λ_=>?_)
 ·refine .aK (t98 m x.Name (by simp only [e7]; omega)) λk hk=>Tot.aK (Ξ:=λb7=>Grow m b7 1) ?_ λb7 hm=>.az hm
  refine Tot.b6 (λ_=>?_) (λbc=>?_)
  ·refine .aK (Ξ:=λ_=>True) (Tot.ap (by simp [lim]; omega) trivial) λ_ _=>.az ⟨a7,Nat.le_refl _,Nat.le_succ _,?_,rfl,rfl,rfl,rfl,λ_ h=>h⟩
   show (m.bW++[_]).length<=_
   simp
  ·refine .aK (Ξ:=λ_=>True) (Tot.hz (by omega) (by omega) λ_ _ _=>trivial) λ_ _=>Tot.aK (Ξ:=λb7=>Grow m b7 1) ?_ λb7 hm=>.az hm
   exact Tot.cv (λ_=>.aK (t94 m _ _) λb7 hm=>.az (hm.1.grow a7 1)) (λ_=>.az ⟨a7,Nat.le_refl _,Nat.le_succ _,Nat.le_succ _,rfl,rfl,rfl,rfl,λ_ h=>h⟩)
 ·refine .aK (t113 m x a7 h J) λr ⟨aw,bc,h1⟩=>?_
  have hz:∀ {b7:jb},mV r.2 b7->Tot (idx b7.aq.a' r.1) λy=>y∈b7.aq.a':=λhm=>Tot.hz bc (by rw [hm.tk]; exact h1) λ_ _ h=>h
  have K_:∀ {b7:jb},mV r.2 b7->Tot (idx b7.b0 r.1) λ_=>True:=λhm=>Tot.hz bc (by rw [hm.ih,aw.ih]; exact h1) λ_ _ _=>trivial
  refine .aK (hz (.refl _)) λy _=>?_
  refine Tot.aK (Ξ:=λb7=>mV r.2 b7) ?_ λfz wZ=>?_
  ·refine Tot.cv (λ_=>?_) (λ_=>.az (.refl _))
   refine Tot.aK (Ξ:=λb7=>mV r.2 b7) ?_ λdk yP=>?_
   ·exact Tot.cv (λ_=>.aK (t94 r.2 _ _) λb7 hm=>.az ⟨rfl,hm.1.tk.ih,hm.1.tk.ty,hm.1.tk.hN,hm.1.tk.hq,hm.1.tk.hy,hm.1.tk.lvl,λ_ h=>h⟩) (λ_=>.az (.refl _))
   ·refine .aK (hz yP) λ_ _=>.az (yP.trans ⟨?_,rfl,rfl,rfl,rfl,rfl,rfl,λao aG t b9=>?_⟩)
    ·show ((dk.aq.a'.set _ _).set _ _).length=_
     simp
    ·rcases vr b9 with b9 | rfl
     ·rcases vr b9 with b9 | rfl
      ·exact aG t b9
      ·exact ao
     ·exact ao
  ·refine .aK (hz wZ) λ_ _=>?_
   refine Tot.aK (Ξ:=λb7=>mV r.2 b7) ?_ λe_ B1=>?_
   ·refine Tot.cv (λ_=>?_) (λ_=>.az wZ)
    refine .aK (Ξ:=λ_=>True) ?_ λc _=>?_
    ·refine Tot.cv (λ_=>.az trivial) (λ_=>.aK (K_ wZ) λ_ _=>Tot.cv (λ_=>.az trivial) (λ_=>.aK (t114 fz _ ?_) λ_ _=>.az trivial))
     have:=wZ.tk; have:=aw.hi; simp only [e7]; omega
    ·refine Tot.aK (Ξ:=λb7=>mV r.2 b7) ?_ λec EB=>?_
     ·exact Tot.cv (λ_=>.aK (t94 fz _ _) λb7 hm=>.az (wZ.trans ⟨rfl,hm.1.tk.ih,hm.1.tk.ty,hm.1.tk.hN,hm.1.tk.hq,hm.1.tk.hy,hm.1.tk.lvl,λ_ h=>h⟩)) (λ_=>.az wZ)
     ·refine .aK (hz EB) λy ay=>.aK (K_ EB) λ_ _=>.az (EB.trans ⟨?_,?_,rfl,rfl,rfl,rfl,rfl,λao aG t b9=>?_⟩)
      ·show (ec.aq.a'.set _ _).length=_; simp
      ·show (ec.b0.set _ _).length=_; simp
      ·rcases vr b9 with b9 | rfl
       ·exact aG t b9
       ·exact (aG y ay:0<=y.Level)
   ·refine .aK (hz B1) λ_ _=>?_
    refine Tot.aK (Ξ:=λb7=>mV r.2 b7) ?_ λoe JN=>.az (aw.tk JN)
    refine Tot.cv (λ_=>?_) (λ_=>.az B1)
    refine .aK (Ξ:=λ_=>True) (Tot.cv (λ_=>.az trivial) (λ_=>.az trivial)) λc _=>?_
    refine Tot.aK (Ξ:=λb7=>mV r.2 b7) ?_ λgy JO=>?_
    ·exact Tot.cv (λ_=>.aK (t94 e_ _ _) λb7 hm=>.az (B1.trans ⟨rfl,hm.1.tk.ih,hm.1.tk.ty,hm.1.tk.hN,hm.1.tk.hq,hm.1.tk.hy,hm.1.tk.lvl,λ_ h=>h⟩)) (λ_=>.az B1)
    ·refine .aK (hz JO) λy ay=>.az (JO.trans ⟨?_,rfl,rfl,rfl,rfl,rfl,rfl,λao aG t b9=>?_⟩)
     ·show (gy.aq.a'.set _ _).length=_; simp
     ·rcases vr b9 with b9 | rfl
      ·exact aG t b9
      ·exact (aG y ay:0<=y.Level)
def pn (T:Nat) (N:Int) (s:Int):Prop:=(0<=s/\s<T)\/(1000<=s/\s<=1000+N)
theorem pn.mono {T T':Nat}{N iO s:Int}(h:pn T N s) (fF:T<=T') (bY:N<=iO):pn T' iO s:=by
 rcases h with h | h
 ·exact .inl (by omega)
 ·exact .inr (by omega)
theorem t115 (m:jb) (x:Sym) (a7:m.b0.length=m.aq.a'.length) (aR:3<=m.aq.a'.length) (h:m.aq.a'.length<=100000000000) (ao:m.bD.length<=100000000000) (J:lh x) :
  Tot (tQ m x) λr=>Grow m r.2 1/\pn r.2.aq.a'.length m.bD.length r.1:=by
 unfold tQ
 have qf:Grow m m 1:=⟨a7,Nat.le_refl _,Nat.le_succ _,Nat.le_succ _,rfl,rfl,rfl,rfl,λ_ h=>h⟩
 refine Tot.cv (λ_=>?_) (λ_=>?_)
 ·exact .aK (t113 m x a7 h J) λr ⟨aw,bc,h1⟩=>.az ⟨aw,.inl ⟨bc,h1⟩⟩
 ·refine .aK (t96 m x.Name (by simp only [e7]; omega)) λk hk=>Tot.b6 (λbc=>.az ⟨qf,.inr ?_⟩) (λ_=>?_)
  ·show 1000<=aM (1001+k)/\aM (1001+k)<=1000+(m.bD.length:Int)
   rw [dx]
   rcases hk with hk | hk <;> omega
  ·refine .aK (t95 m x (by simp only [e7]; omega)) λt aG=>Tot.b6 (λ_=>?_) (λbc=>.az ⟨qf,.inl ?_⟩)
   ·refine .aK (t94 m _ _) λb7 hm=>.az ⟨hm.1.grow a7 1,.inl ⟨Int.le_refl 0,?_⟩⟩
    show (0:Int)<(b7.aq.a'.length:Int)
    rw [hm.1.g]; omega
   ·show 0<=t/\t<(m.aq.a'.length:Int)
    rcases aG with aG | aG <;> omega
theorem Ul (m:jb) (x:Sym) (a7:m.b0.length=m.aq.a'.length) (aR:3<=m.aq.a'.length) (h:m.aq.a'.length<=100000000000) (ao:m.bD.length<=100000000000) (J:lh x) (aG:x.Lit=true\/∀ y∈m.bD,y≠x.Name) :
  Tot (tQ m x) λr=>Grow m r.2 1/\0<=r.1/\r.1<r.2.aq.a'.length:=by
 unfold tQ
 have qf:Grow m m 1:=⟨a7,Nat.le_refl _,Nat.le_succ _,Nat.le_succ _,rfl,rfl,rfl,rfl,λ_ h=>h⟩
 refine Tot.cv (λ_=>?_) (λRC=>?_)
 ·exact .aK (t113 m x a7 h J) λr ⟨aw,bc,h1⟩=>.az ⟨aw,bc,h1⟩
 ·have aG:∀ y∈m.bD,y≠x.Name:=aG.resolve_left (by rw [RC]; decide)
  refine .aK (t96 m x.Name (by simp only [e7]; omega)) λk hk=>Tot.b6 (λbc=>?_) (λ_=>?_)
  ·rcases hk with ⟨rfl,_⟩ | ⟨h1,al,aR⟩
   ·exact absurd bc (by decide)
   ·exact absurd rfl (aG _ (List.mem_of_getElem? aR))
  ·refine .aK (t95 m x (by simp only [e7]; omega)) λt aG=>Tot.b6 (λ_=>?_) (λbc=>.az ⟨qf,?_⟩)
   ·refine .aK (t94 m _ _) λb7 hm=>.az ⟨hm.1.grow a7 1,Int.le_refl 0,?_⟩
    show (0:Int)<(b7.aq.a'.length:Int)
    rw [hm.1.g]; omega
   ·show 0<=t/\t<(m.aq.a'.length:Int)
    rcases aG with aG | aG <;> omega
structure ya (T:Nat) (N:Int) (p:Prod):Prop where
 left:0<=p.Left/\p.Left<=N
 right:∀ s∈p.fo,pn T N s
 prec:-1<=p.Prec/\p.Prec<T
theorem ya.mono {T T':Nat}{N iO:Int}{p:Prod}(h:ya T N p) (fF:T<=T') (bY:N<=iO):ya T' iO p :=
 ⟨⟨h.left.1,by have:=h.left.2; omega⟩,λs aP=>(h.right s aP).mono fF bY,⟨h.prec.1,by have:=h.prec.2; omega⟩⟩
structure kD (m:jb) (T L I Q:Nat):Prop where
 ih:m.b0.length=m.aq.a'.length
 lo:3<=m.aq.a'.length
 hi:m.aq.a'.length<=T
 ty:m.bW.length<=T
 hN:m.bD.length=L
 hy:0<=m.bB/\m.bB<=I
 xN:m.aq.aY.length<=Q
 hq:∀ p∈m.aq.aY,ya m.aq.a'.length (L+m.bB) p
 lvl:0<=m.bU
 jO:∀ t∈m.aq.a',0<=t.Level
theorem kD.mono {m:jb}{T L I Q T' I' HY:Nat}(h:kD m T L I Q) (fF:T<=T') (bs:I<=I') (dP:Q<=HY):kD m T' L I' HY :=
 ⟨h.ih,h.lo,by have:=h.hi; omega,by have:=h.ty; omega,h.hN,⟨h.hy.1,by have:=h.hy.2; omega⟩,by have:=h.xN; omega,h.hq,h.lvl,h.jO⟩
theorem kD.grow {m b7:jb}{T L I Q k:Nat}(h:kD m T L I Q) (g:Grow m b7 k):kD b7 (T+k) L I Q :=
 ⟨g.ih,by have:=h.lo; have:=g.lo; omega,by have:=h.hi; have:=g.hi; omega,by have:=h.ty; have:=g.ty; omega,by rw [g.hN]; exact h.hN,by rw [g.hy]; exact h.hy,by rw [g.hq]; exact h.xN,
  by rw [g.hq,g.hy]; exact λp aF=>(h.hq p aF).mono g.lo (by omega),by rw [g.lvl]; exact h.lvl,g.jO h.lvl h.jO⟩
theorem t97 (m:jb) (left:ByteArray) (a:Alt) {T L I Q:Nat}(hm:kD m T L I Q) (fF:T<=10000000000) (jA:L<=10000000000) (bs:I<=10000000000) (dP:Q<=10000000000) (aI:x4 a) (eA:A4 a) :
  Tot (AB m left a) λb7=>kD b7 (T+1001) L (I+1000) (Q+1001)/\1<=b7.aq.aY.length:=by
 unfold AB
 have aN:=aI.n
 refine .aK (t96 m left (by rw [hm.hN]; simp only [e7]; omega)) λaE fp=>?_
 have VZ:-1<=aE/\aE<L:=by rw [<- hm.hN]; rcases fp with h | h <;> omega
 refine Tot.aK (Ξ:=λaX=>kD aX.1 (T+1000) L (I+1000) (Q+1000)/\(∀ s∈aX.2.1,pn aX.1.aq.a'.length (L+aX.1.bB) s)/\aX.2.1.length<=1000) ?_ λaX hL=>?_
 ·refine Tot.count (λs=>s.2.2.2.2) a.jw.length (λs=>0<=s.2.2.2.2/\s.2.2.2.2<=a.jw.length/\kD s.1 (T+s.2.2.2.2.toNat) L (I+s.2.2.2.2.toNat) (Q+s.2.2.2.2.toNat)/\(∀ y∈s.2.1,pn s.1.aq.a'.length (L+s.1.bB) y)/\s.2.1.length<=s.2.2.2.2.toNat) ⟨by show (0:Int)<=0; omega,by show (0:Int)<=_; omega,hm,by simp,Nat.le_refl 0⟩ (by show (a.jw.length:Int) - 0<_; omega) λs aP=>?_
  obtain ⟨m1,rt,cv,at_,i⟩:=s
  obtain ⟨bc,h1,aa,aw,ao⟩:=aP
  simp only at bc h1 aa aw ao ⊢
  have hw:aM (i+1)=i+1:=by rw [dx]; omega
  have dn:(i+1).toNat=i.toNat+1:=by omega
  refine Tot.b6 (λbd=>?_) (λ_=>.az ⟨aa.mono (by omega) (by omega) (by omega),aw,by show rt.length<=1000; omega⟩)
  refine Tot.aK (Ξ:=λae=>kD ae.1 (T+(i.toNat+1)) L (I+(i.toNat+1)) (Q+(i.toNat+1))/\(∀ y∈ae.2.1,pn ae.1.aq.a'.length (L+ae.1.bB) y)/\ae.2.1.length<=i.toNat+1) ?_ λae Fl=>?_
  ·refine Tot.aK (Tot.hz (Φ:=λy=>y∈a.jw) bc bd λy _ ay=>ay) λy ay=>?_
   refine Tot.aK (Ξ:=λae=>kD ae.1 (T+(i.toNat+1)) L (I+(i.toNat+1)) (Q+(i.toNat+1))/\(∀ y∈ae.2.1,pn ae.1.aq.a'.length (L+ae.1.bB) y)/\ae.2.1.length<=i.toNat+1) ?_ λae Fm=>.az Fm
   refine Tot.aK (Ξ:=λae=>kD ae.1 (T+(i.toNat+1)) L (I+(i.toNat+1)) (Q+(i.toNat+1))/\(∀ y∈ae.2.1,pn ae.1.aq.a'.length (L+ae.1.bB) y)/\ae.2.1.length<=i.toNat+1) ?_ λae Fm=>.az Fm
   refine Tot.cv (λ_=>?_) (λ_=>?_)
   ·have b9:=aa.hi
    refine .aK (t115 m1 y.Sym aa.ih aa.lo (by omega) (by rw [aa.hN]; omega) (eA.parts y ay)) λr ⟨a7,KM⟩=>?_
    refine .aK (Ξ:=λ_=>True) (Tot.ap (by simp [lim]; omega) trivial) λ_ _=>.az ⟨(aa.grow a7).mono (by omega) (by omega) (by omega),λz bG=>?_,by simp; omega⟩
    rcases List.mem_append.1 bG with bG | bG
    ·exact (aw z bG).mono a7.lo (by show (L:Int)+m1.bB<=L+r.2.bB; rw [a7.hy]; omega)
    ·rw [List.mem_singleton.1 bG]
     rw [aa.hN] at KM
     exact KM.mono (Nat.le_refl _) (by show (L:Int)<=L+r.2.bB; rw [a7.hy]; have:=aa.hy.1; omega)
   ·refine Tot.aK (Ξ:=λae=>kD (⟨(⟨m1.aq.a',m1.aq.bw,ae.1,m1.aq.bz,m1.aq.bA⟩:bZ),m1.b0,m1.bW,m1.bD,m1.ca,m1.cb,m1.b',m1.bU,ae.2.1⟩:cN) (T+(i.toNat+1)) L (I+(i.toNat+1)) (Q+(i.toNat+1))/\(∀ y∈ae.2.2.1,pn m1.aq.a'.length (L+ae.2.1) y)/\ae.2.2.1.length<=i.toNat+1) ?_ λae Ru=>.az Ru
    refine Tot.cv (λ_=>.az ⟨⟨aa.ih,aa.lo,by have:=aa.hi; show m1.aq.a'.length<=_; omega,by have:=aa.ty; show m1.bW.length<=_; omega,aa.hN,⟨aa.hy.1,by have:=aa.hy.2; show m1.bB<=_; omega⟩,by have:=aa.xN; show m1.aq.aY.length<=_; omega,aa.hq,aa.lvl,aa.jO⟩,aw,by show rt.length<=_; omega⟩) (λ_=>?_)
    have Cd:=aa.hy
    have w8:=aa.hN
    have zh:=aa.xN
    have jq:aM (m1.bB+1)=m1.bB+1:=by rw [dx]; omega
    have ia:aM (((m1.bD.length:Int))+(m1.bB+1))=L+(m1.bB+1):=by rw [dx,w8]; omega
    have UE:aM (1000+(m1.bD.length:Int))=1000+L:=by rw [dx,w8]; omega
    have UF:aM (1000+(L:Int)+(m1.bB+1))=1000+(L:Int)+(m1.bB+1):=by rw [dx]; omega
    rw [jq,ia,UE,UF]
    refine .aK (Ξ:=λ_=>True) (Tot.ap (by simp [lim]; omega) trivial) λ_ _=>.aK (Ξ:=λ_=>True) (Tot.ap (by simp [lim]; omega) trivial) λ_ _=>.aK (Ξ:=λ_=>True) (Tot.ap (by simp [lim]; omega) trivial) λ_ _=>.az ⟨⟨aa.ih,aa.lo,?_,?_,aa.hN,?_,?_,?_,aa.lvl,aa.jO⟩,?_,?_⟩
    ·have:=aa.hi; show m1.aq.a'.length<=_; omega
    ·have:=aa.ty; show m1.bW.length<=_; omega
    ·show 0<=m1.bB+1/\m1.bB+1<=((I+(i.toNat+1):Nat):Int); omega
    ·show (m1.aq.aY++[_]).length<=_; simp; omega
    ·intro p aF
     rcases List.mem_append.1 aF with aF | aF
     ·exact (aa.hq p aF).mono (Nat.le_refl _) (by show (L:Int)+m1.bB<=L+(m1.bB+1); omega)
     ·rw [List.mem_singleton.1 aF]
      refine ⟨?_,by simp,?_⟩
      ·show 0<=(L:Int)+(m1.bB+1)/\(L:Int)+(m1.bB+1)<=L+(m1.bB+1); omega
      ·have:=aa.lo; show (-1:Int)<=-1/\(-1:Int)<(m1.aq.a'.length:Int); omega
    ·intro z bG
     rcases List.mem_append.1 bG with bG | bG
     ·exact (aw z bG).mono (Nat.le_refl _) (by show (L:Int)+m1.bB<=L+(m1.bB+1); omega)
     ·rw [List.mem_singleton.1 bG]
      exact .inr (by show 1000<=1000+(L:Int)+(m1.bB+1)/\1000+(L:Int)+(m1.bB+1)<=1000+((L:Int)+(m1.bB+1)); omega)
    ·show (rt++[_]).length<=_; simp; omega
  ·rw [hw]
   refine .az ⟨⟨?_,?_,?_,Fl.2.1,?_⟩,?_,?_⟩
   ·show (0:Int)<=i+1; omega
   ·show i+1<=(a.jw.length:Int); omega
   ·show kD ae.1 (T+(i+1).toNat) L (I+(i+1).toNat) (Q+(i+1).toNat)
    rw [dn]; exact Fl.1
   ·show ae.2.1.length<=(i+1).toNat
    rw [dn]; exact Fl.2.2
   ·show i<i+1; omega
   ·show i+1<=(a.jw.length:Int); omega
 ·obtain ⟨aa,aw,ao⟩:=hL
  have l9:=aa.lo
  have Cd:=aa.hy
  refine Tot.aK (Ξ:=λp=>-1<=p/\p<(aX.1.aq.a'.length:Int)) ?_ λhq FK=>?_
  ·refine Tot.count (λs=>s.2) aX.2.1.length (λs=>0<=s.2/\s.2<=aX.2.1.length/\-1<=s.1/\s.1<(aX.1.aq.a'.length:Int)) ⟨by show (0:Int)<=0; omega,by show (0:Int)<=_; omega,by show (-1:Int)<=-1; omega,by show (-1:Int)<_; omega⟩ (by show (aX.2.1.length:Int) - 0<_; omega) λs aP=>?_
   obtain ⟨bc,h1,al,aR⟩:=aP
   have hw:aM (s.2+1)=s.2+1:=by rw [dx]; omega
   rw [hw]
   refine Tot.b6 (λbd=>?_) (λ_=>.az ⟨al,aR⟩)
   refine Tot.aK (Ξ:=λp=>-1<=p/\p<(aX.1.aq.a'.length:Int)) ?_ λp aF=>.az ⟨⟨?_,?_,aF.1,aF.2⟩,?_,?_⟩
   ·refine .aK (Tot.hz (Φ:=λy=>idx aX.2.1 s.2=some y/\y∈aX.2.1) bc bd λy h1 al=>⟨h1,al⟩) λy ay=>?_
    refine .aK (Ξ:=λp=>-1<=p/\p<(aX.1.aq.a'.length:Int)) ?_ λp aF=>.az aF
    refine Tot.b6 (λbd=>?_) (λ_=>.az ⟨al,aR⟩)
    rw [ay.1]
    refine Tot.ax (.az ?_)
    rcases aw y ay.2 with h | h
    ·omega
    ·omega
   ·show (0:Int)<=s.2+1; omega
   ·show s.2+1<=(aX.2.1.length:Int); omega
   ·show s.2<s.2+1; omega
   ·show s.2+1<=(aX.2.1.length:Int); omega
  ·refine Tot.aK (Ξ:=λae=>Grow aX.1 ae.1 1/\-1<=ae.2/\ae.2<(ae.1.aq.a'.length:Int)) ?_ λae Ce=>?_
   ·have qf:Grow aX.1 aX.1 1:=⟨aa.ih,Nat.le_refl _,Nat.le_succ _,Nat.le_succ _,rfl,rfl,rfl,rfl,λ_ h=>h⟩
    refine Tot.cv (λ_=>?_) (λ_=>.az ⟨qf,FK⟩)
    refine Tot.aK (Ξ:=λc=>c=true->a.Prec.Lit=true\/∀ y∈aX.1.bD,y≠a.Prec.Name) ?_ λc ab=>?_
    ·refine Tot.cv (λh=>.az λ_=>.inl h) (λ_=>?_)
     refine .aK (t96 aX.1 a.Prec.Name (by rw [aa.hN]; simp only [e7]; omega)) λk hk=>.az λbd=>?_
     have bd:=of_decide_eq_true bd
     rcases hk with ⟨_,h⟩ | h
     ·exact .inr h
     ·omega
    ·refine Tot.aK (Ξ:=λae=>Grow aX.1 ae.1 1/\-1<=ae.2/\ae.2<(ae.1.aq.a'.length:Int)) ?_ λae aa=>.az aa
     have b9:=aa.hi
     refine Tot.cv (λh=>?_) (λ_=>?_)
     ·refine .aK (Ul aX.1 a.Prec aa.ih aa.lo (by omega) (by rw [aa.hN]; omega) eA.prec (ab h)) λr aw=>.az ⟨aw.1,?_,aw.2.2⟩
      have:=aw.2.1; show -1<=r.1; omega
     ·refine .aK (t94 aX.1 _ _) λb7 ka=>.az ⟨ka.1.grow aa.ih 1,by show (-1:Int)<=-1; omega,?_⟩
      show (-1:Int)<(b7.aq.a'.length:Int); omega
   ·have ka:=aa.grow Ce.1
    have zh:=ka.xN
    refine .aK (Ξ:=λ_=>True) (Tot.ap (by simp [lim]; omega) trivial) λ_ _=>.aK (Ξ:=λ_=>True) (Tot.ap (by simp [lim]; omega) trivial) λ_ _=>.az ⟨⟨ka.ih,ka.lo,?_,?_,ka.hN,⟨ka.hy.1,?_⟩,?_,?_,ka.lvl,ka.jO⟩,by simp⟩
    ·have:=ka.hi; show ae.1.aq.a'.length<=_; omega
    ·have:=ka.ty; show ae.1.bW.length<=_; omega
    ·have:=ka.hy.2; show ae.1.bB<=_; omega
    ·show (ae.1.aq.aY++[_]).length<=_; simp; omega
    ·intro p aF
     rcases List.mem_append.1 aF with aF | aF
     ·exact ka.hq p aF
     ·rw [List.mem_singleton.1 aF]
      have VG:=ka.hy
      refine ⟨?_,λz bG=>?_,Ce.2⟩
      ·show 0<=aM (1+aE)/\aM (1+aE)<=(L:Int)+ae.1.bB
       rw [dx]; omega
      ·exact (aw z bG).mono Ce.1.lo (by show (L:Int)+aX.1.bB<=L+ae.1.bB; rw [Ce.1.hy]; omega)
theorem Hi (l:List Int):(strOfNums l).size=l.length:=strOfNums_size ..
theorem t99 (n:Int) (bc:0<=n) (h1:n<=1000000000000):Tot (AD n) λs=>s.size<=2000000000000:=by
 unfold AD
 have hu:IntKind.u64.wrap n=n:=by rw [IntKind.wrap_u64]; omega
 refine Tot.aK (Ξ:=λae=>ae=n) (Tot.b6 (λh=>absurd h (by omega)) (λ_=>.az hu)) λae aa=>?_
 subst aa
 refine Tot.aK (Ξ:=λs=>s.size<=1000000000001) ?_ λs aP=>Tot.b6 (λh=>absurd h (by omega)) (λ_=>.az (by omega))
 refine Tot.loop (λs=>0<=s.1/\s.1+s.2.size<=1000000000000+1/\(s.2.size=0->s.1<=1000000000000)) (λs=>s.1.toNat+(if s.2.size=0 then 1 else 0)) ⟨bc,by show ae+((0:Nat):Int)<=_; omega,λ_=>h1⟩ (by show ae.toNat+(if (0:Nat)=0 then 1 else 0)<1000000000000000000; simp; omega) λs aP=>?_
 obtain ⟨m,t⟩:=s
 obtain ⟨g0,g1,g2⟩:=aP
 simp only at g0 g1 g2 ⊢
 refine Tot.aK (Ξ:=λc=>c=true->0<m\/t.size=0) ?_ λc ab=>Tot.cv (λlk=>?_) (λ_=>.az ?_)
 ·refine Tot.b6 (λh=>.az λ_=>.inl h) (λ_=>.az λh=>.inr ?_)
  have:=of_decide_eq_true h
  rw [this]; rfl
 ·have ab:=ab lk
  refine .aK (Ξ:=λx=>x=m.tmod 10) (Tot.sA (by decide) rfl) λx J=>?_
  refine .aK (Ξ:=λy=>y.size=t.size+1) (Tot.cat ?_ ?_) λy ay=>.aK (Ξ:=λz=>z=m / 10) (Tot.sx (by decide) ?_) λz bG=>.az ?_
  ·rw [Hi]; simp; omega
  ·rw [ByteArray.size_append,Hi]; simp; omega
  ·rw [Int.tdiv_eq_ediv_of_nonneg g0,IntKind.wrap_u64]; omega
  ·subst bG
   refine ⟨⟨?_,?_,?_⟩,?_⟩
   ·show 0<=m / 10; omega
   ·show m / 10+(y.size:Int)<=_; rw [ay]; omega
   ·intro h; have h:y.size=0:=h; omega
   ·show (m / 10).toNat+(if y.size=0 then 1 else 0)<m.toNat+(if t.size=0 then 1 else 0)
    rw [if_neg (by omega)]
    split <;> omega
 ·show t.size<=1000000000001; omega
structure gH (g:bZ):Prop where
 kA:3<=g.a'.length/\g.a'.length<=40
 hU:1<=g.bw.length/\g.bw.length<=24
 mS:1<=g.aY.length/\g.aY.length<=60
 hq:∀ p∈g.aY,ya g.a'.length (g.bw.length - 1) p
 aO:∀ p∈g.aY,p.fo.length<=8
 jO:∀ t∈g.a',0<=t.Level
structure iE (m:jb) (T L:Nat):Prop where
 ih:m.b0.length=m.aq.a'.length
 lo:3<=m.aq.a'.length
 hi:m.aq.a'.length<=3+T
 ty:m.bW.length<=T
 hN:m.bD.length<=L
 hq:m.aq.aY=[]
 hy:m.bB=0
 lvl:0<=m.bU
 jO:∀ t∈m.aq.a',0<=t.Level
theorem iE.mono {m:jb}{T L T' L':Nat}(h:iE m T L) (fF:T<=T') (jA:L<=L'):iE m T' L' :=
 ⟨h.ih,h.lo,by have:=h.hi; omega,by have:=h.ty; omega,by have:=h.hN; omega,h.hq,h.hy,h.lvl,h.jO⟩
theorem iE.grow {m b7:jb}{T L k:Nat}(h:iE m T L) (g:Grow m b7 k):iE b7 (T+k) L :=
 ⟨g.ih,by have:=h.lo; have:=g.lo; omega,by have:=h.hi; have:=g.hi; omega,by have:=h.ty; have:=g.ty; omega,by rw [g.hN]; exact h.hN,g.hq.trans h.hq,g.hy.trans h.hy,by rw [g.lvl]; exact h.lvl,g.jO h.lvl h.jO⟩
theorem iE.same {m b7:jb}{T L:Nat}(h:iE m T L) (g:s0 m b7):iE b7 T L:=by
 have:=h.grow (g.grow h.ih 0)
 exact this
theorem t14 (a n:Int) (h:0<n) (aN:n<=9223372036854775807):Tot (sv a n) λr=>0<=r/\r<n:=by
 unfold sv
 have h1:-n<a.tmod n:=by
  by_cases bg:0<=a
  ·have:=Int.tmod_nonneg n bg; omega
  ·have al:(-a).tmod n<n:=Int.tmod_lt_of_pos _ h
   rw [Int.neg_tmod] at al
   omega
 have al:a.tmod n<n:=Int.tmod_lt_of_pos a h
 refine .aK (Ξ:=λx=>x=a.tmod n) (Tot.rem (by omega) rfl) λx J=>?_
 subst J
 refine Tot.aK (Ξ:=λr=>0<=r/\r<n) (Tot.b6 (λaR=>.az ?_) (λaR=>.az (by omega))) λr aw=>.az aw
 rw [dx]; omega
theorem t47 (k:Int) (h:0<=k):Tot (tS k) λx=>x.Name.size=1/\x.Lit=true/\x.c0=0:=by
 unfold tS
 refine .aK (Ξ:=λx=>x.size=4) (.az rfl) λaE h1=>.aK (Ξ:=λr=>r=k.tmod 4) (Tot.rem (by decide) rfl) λx2 al=>.aK (Ξ:=λr=>r=k.tmod 4) (Tot.rem (by decide) rfl) λaX aR=>?_
 subst al aR
 have e:k.tmod 4=k % 4:=Int.tmod_eq_emod_of_nonneg h
 rw [e]
 have hw:aM (k % 4+1)=k % 4+1:=by rw [dx]; omega
 rw [hw]
 refine .aK (Ξ:=λx=>x.size=1) (Tot.cut (by rw [h1]; omega) ?_) λbN b3=>.az ⟨b3,rfl,rfl⟩
 have:=O_ (s:=aE) (m:=k % 4) (n:=k % 4+1) (by rw [h1]; omega)
 omega
theorem t45 (k:Int):Tot (xF k) λx=>x.size=1:=by
 unfold xF
 exact .az (by rw [Hi]; rfl)
theorem t46 (k n:Int) (h:0<n) (aN:n<=100):Tot (Ae k n) λx=>x.Name.size<=5:=by
 unfold Ae
 refine .aK (t14 k 14 (by decide) (by decide)) λaE h1=>Tot.b6 (λc3=>?_) (λc3=>Tot.cv (λ_=>.az ?_) (λ_=>?_))
 ·refine .aK (Ξ:=λ_=>True) (Tot.rem (by omega) trivial) λaX _=>.aK (t45 aX) λbN b3=>.az ?_
  show bN.size<=5; omega
 ·show (5:Nat)<=5; omega
 ·refine .aK (t47 _ ?_) λx J=>.az (by omega)
  rw [dx]; omega
structure wg (n:Nat) (d:Decl):Prop where
 tag:d.Tag.size=0
 n:d.fc.length<=n
 syms:∀ x∈d.fc,x.Name.size<=e7
theorem t44 (l:List Int):Tot (Ad l) λr=>r.length<=4/\∀ d∈r,wg 10 d:=by
 unfold Ad
 refine Tot.aK (Ξ:=λr=>r.length<=4/\∀ d∈r,wg 10 d) ?_ λr aw=>.az aw
 refine Tot.count (λs=>s.2) 4 (λs=>0<=s.2/\s.2<=4/\s.1.length<=s.2.toNat/\∀ d∈s.1,wg (1+s.2.toNat) d) ⟨Int.le_refl 0,by decide,Nat.le_refl 0,λd aV=>absurd aV (by simp)⟩ (by decide) λs aP=>?_
 obtain ⟨r,i⟩:=s
 obtain ⟨bc,b3,ao,aV⟩:=aP
 simp only at bc b3 ao aV ⊢
 have hw:aM (i+1)=i+1:=by rw [dx]; omega
 rw [hw]
 refine .aK (Ξ:=λc=>c=true->i<l.length/\i<4) (Tot.b6 (λh=>.az λal=>⟨h,of_decide_eq_true al⟩) (λ_=>.az λh=>by cases h)) λc ab=>Tot.cv (λlk=>?_) (λ_=>.az ⟨by omega,λd ln=>⟨(aV d ln).tag,by have:=(aV d ln).n; omega,(aV d ln).syms⟩⟩)
 obtain ⟨hi,VE⟩:=ab lk
 refine Tot.aK (Ξ:=λae=>ae.length<=i.toNat+1/\∀ d∈ae,wg (1+(i.toNat+1)) d) ?_ λae aa=>.az ⟨⟨?_,?_,?_,?_⟩,?_,?_⟩
 ·refine .aK (Tot.hz (Φ:=λ_=>True) bc hi λ_ _ _=>trivial) λbT _=>.aK (t14 bT 8 (by decide) (by decide)) λct tg=>.aK (Ξ:=λ_=>True) (Tot.rem (by decide) trivial) λbQ _=>?_
  have nz:∀ d∈r,wg (1+(i.toNat+1)) d:=λd ln=>⟨(aV d ln).tag,by have:=(aV d ln).n; omega,(aV d ln).syms⟩
  refine Tot.cv (λ_=>.az ⟨by omega,nz⟩) (λ_=>?_)
  refine .aK (Ξ:=λc=>c=true->0<(r.length:Int)) (Tot.cv (λ_=>.az λh=>of_decide_eq_true h) (λ_=>.az λh=>by cases h)) λc ab=>Tot.cv (λsb=>?_) (λ_=>?_)
  ·have tB:=ab sb
   have Sc:aM ((r.length:Int) - 1)=(r.length:Int) - 1:=by rw [dx]; omega
   rw [Sc]
   refine .aK (Tot.hz (Φ:=λy=>y∈r) (by omega) (by omega) λ_ _ h=>h) λd ln=>.aK (t47 i bc) λx J=>.aK (Ξ:=λ_=>True) (Tot.ap (by have:=(aV d ln).n; simp [lim]; omega) trivial) λ_ _=>.az ⟨by simp; omega,λBK Fa=>?_⟩
   rcases vr Fa with h | rfl
   ·exact nz BK h
   ·refine ⟨(aV d ln).tag,?_,λy ay=>?_⟩
    ·have:=(aV d ln).n; show (d.fc++[x]).length<=_; simp; omega
    ·rcases List.mem_append.1 ay with ay | ay
     ·exact (aV d ln).syms y ay
     ·rw [List.mem_singleton.1 ay,J.1]; decide
  ·refine .aK (Ξ:=λ_=>True) (Tot.rem (by decide) trivial) λeJ _=>.aK (t47 i bc) λx J=>.aK (Ξ:=λ_=>True) (Tot.ap (by simp [lim]; omega) trivial) λ_ _=>.az ⟨by simp; omega,λBK Fa=>?_⟩
   rcases List.mem_append.1 Fa with h | h
   ·exact nz BK h
   ·rw [List.mem_singleton.1 h]
    refine ⟨rfl,by show 1<=_; omega,λy ay=>?_⟩
    have ay:y∈[x]:=ay
    rw [List.mem_singleton.1 ay,J.1]; decide
 ·show 0<=i+1; omega
 ·show i+1<=4; omega
 ·show ae.length<=(i+1).toNat; omega
 ·intro d ln
  have e:(i+1).toNat=i.toNat+1:=by omega
  show wg (1+(i+1).toNat) d
  rw [e]; exact aa.2 d ln
 ·show i<i+1; omega
 ·show i+1<=4; omega
structure kX (n:Nat) (r:fV):Prop where
 left:r.Left.size<=e7
 n:r.fM.length<=n
 alts:∀ a∈r.fM,x4 a
theorem kX.mono {n m:Nat}{r:fV}(h:kX n r) (hm:n<=m):kX m r:=⟨h.left,Nat.le_trans h.n hm,h.alts⟩
theorem kX.add {n:Nat}{r:fV}{a:Alt}(h:kX n r) (bg:x4 a):kX (n+1) (⟨r.Left,r.fM++[a],r.At⟩:fV):=by
 refine ⟨h.left,by have:=h.n; show (r.fM++[a]).length<=_; simp; omega,λb aI=>?_⟩
 rcases List.mem_append.1 aI with aI | aI
 ·exact h.alts b aI
 ·rw [List.mem_singleton.1 aI]; exact bg
theorem H' {l:List fV}{i n:Nat}{r:fV}(h:∀ x∈l,kX n x) (aw:kX n r):∀ x∈l.set i r,kX n x:=λx J=>by
 rcases vr J with aT | rfl
 ·exact h x aT
 ·exact aw
theorem t20 (x:qL):Tot (z' x) ur:=by
 unfold z'
 refine .aK (t14 x.bw 4 (by decide) (by decide)) λaE h1=>.aK (t44 x.nS) λx2 al=>?_
 have sj:aM (1+aE)=1+aE:=by rw [dx]; omega
 rw [sj]
 refine .aK (Ξ:=λl=>l=List.replicate (1+aE).toNat false) (Tot.mk (by simp [lim]; omega) rfl) λaX aR=>?_
 have Va:aX.length=(1+aE).toNat:=by rw [aR]; simp
 refine Tot.aK (Ξ:=λl=>(l.length:Int)=1+aE/\∀ r∈l,kX 0 r) ?_ λck c3=>?_
 ·refine Tot.count (λs=>s.2) (1+aE) (λs=>0<=s.2/\s.2<=1+aE/\(s.1.length:Int)=s.2/\∀ r∈s.1,kX 0 r) ⟨Int.le_refl 0,by show 0<=1+aE; omega,rfl,λd aV=>absurd aV (by simp)⟩ (by show 1+aE - 0<_; omega) λs aP=>?_
  obtain ⟨l,i⟩:=s
  obtain ⟨g0,g1,ao,c6⟩:=aP
  simp only at g0 g1 ao c6 ⊢
  have hw:aM (i+1)=i+1:=by rw [dx]; omega
  rw [hw]
  refine Tot.b6 (λbd=>?_) (λ_=>.az ⟨by omega,c6⟩)
  refine .aK (t45 i) λbT p'=>.aK (Ξ:=λ_=>True) (Tot.ap (by simp [lim]; omega) trivial) λ_ _=>.az ⟨⟨?_,?_,?_,λr aw=>?_⟩,?_,?_⟩
  ·show 0<=i+1; omega
  ·show i+1<=1+aE; omega
  ·show ((l++[_]).length:Int)=i+1
   simp; omega
  ·rcases List.mem_append.1 aw with aw | aw
   ·exact c6 r aw
   ·rw [List.mem_singleton.1 aw]
    exact ⟨by show bT.size<=_; rw [p']; decide,Nat.le_refl 0,λa bg=>absurd bg (by simp)⟩
  ·show i<i+1; omega
  ·show i+1<=1+aE; omega
 refine Tot.aK (Ξ:=λr=>(r.1.length:Int)=1+aE/\(r.2.length:Int)=1+aE/\∀ y∈r.1,kX 9 y) ?_ λcp yO=>?_
 ·refine Tot.count (λs=>s.2.2) 9 (λs=>0<=s.2.2/\s.2.2<=9/\(s.1.length:Int)=1+aE/\(s.2.1.length:Int)=1+aE/\∀ y∈s.1,kX s.2.2.toNat y) ⟨Int.le_refl 0,by show (0:Int)<=9; decide,c3.1,by show (aX.length:Int)=_; omega,c3.2⟩ (by show (9:Int) - 0<_; decide) λs aP=>?_
  obtain ⟨l,aI,i⟩:=s
  obtain ⟨g0,g1,ao,Fj,c6⟩:=aP
  simp only at g0 g1 ao Fj c6 ⊢
  have hw:aM (i+1)=i+1:=by rw [dx]; omega
  rw [hw]
  refine .aK (Ξ:=λc=>c=true->i<x.ea.length/\i<9) (Tot.b6 (λh=>.az λal=>⟨h,of_decide_eq_true al⟩) (λ_=>.az λh=>by cases h)) λc ab=>Tot.cv (λlk=>?_) (λ_=>.az ⟨ao,Fj,λy ay=>(c6 y ay).mono (by omega)⟩)
  obtain ⟨hi,VF⟩:=ab lk
  have nB:i.toNat<x.ea.length:=by omega
  have Rs:idx x.ea i=some x.ea[i.toNat]:=by simp [idx,g0,nB]
  rw [Rs]
  generalize x.ea[i.toNat]=d
  have J1:∀ y∈l,kX (i.toNat+1) y:=λy ay=>(c6 y ay).mono (by omega)
  refine Tot.aK (Ξ:=λae=>(ae.1.length:Int)=1+aE/\(ae.2.length:Int)=1+aE/\∀ y∈ae.1,kX (i.toNat+1) y) ?_ λae aa=>.az ⟨⟨?_,?_,aa.1,aa.2.1,?_⟩,?_,?_⟩
  ·refine Tot.ax (Tot.b6 (λ_=>.az ⟨ao,Fj,J1⟩) (λez=>Tot.ax ?_))
   refine .aK (Tot.hz (Φ:=λ_=>True) (by decide) (by omega) λ_ _ _=>trivial) λeB _=>.aK (t14 eB (1+aE) (by omega) (by omega)) λdO JL=>?_
   have mW:∀ c:ByteArray,c.size<=e7->((⟨(⟨{ data:=#[] },false,0,0⟩:Sym),c,0⟩:Part).Sym.Name.size<=e7/\(⟨(⟨{ data:=#[] },false,0,0⟩:Sym),c,0⟩:Part).Code.size<=e7):=λc ab=>⟨by show 0<=_; exact Nat.zero_le _,ab⟩
   refine Tot.aK (Ξ:=λr=>r.1.length<=10/\∀ p∈r.1,p.Sym.Name.size<=e7/\p.Code.size<=e7) ?_ λeK JM=>?_
   ·refine Tot.count (λs=>s.2.2) 5 (λs=>1<=s.2.2/\s.2.2<=5/\(s.1.length:Int)<=2 * (s.2.2 - 1)/\∀ p∈s.1,p.Sym.Name.size<=e7/\p.Code.size<=e7) ⟨Int.le_refl 1,by decide,by decide,λp aF=>absurd aF (by simp)⟩ (by decide) λs aP=>?_
    obtain ⟨ps,pl,k⟩:=s
    obtain ⟨k0,vm,S0,Gs⟩:=aP
    simp only at k0 vm S0 Gs ⊢
    have u7:aM (k+1)=k+1:=by rw [dx]; omega
    rw [u7]
    refine .aK (Ξ:=λc=>c=true->k<d.length/\k<5) (Tot.ax (Tot.b6 (λh=>.az λal=>⟨h,of_decide_eq_true al⟩) (λ_=>.az λh=>by cases h))) λc ab=>Tot.cv (λlk=>?_) (λ_=>.az ⟨by show ps.length<=10; omega,Gs⟩)
    obtain ⟨hk,VI⟩:=ab lk
    refine Tot.aK (Ξ:=λae=>(ae.1.length:Int)<=2 * k/\∀ p∈ae.1,p.Sym.Name.size<=e7/\p.Code.size<=e7) ?_ λae aa=>.az ⟨⟨?_,?_,?_,aa.2⟩,?_,?_⟩
    ·refine Tot.ax (.aK (Tot.hz (Φ:=λ_=>True) (by omega) hk λ_ _ _=>trivial) λi_ _=>.aK (t46 i_ (1+aE) (by omega) (by omega)) λdH JN=>?_)
     refine .aK (Ξ:=λ_=>True) (Tot.cv (λ_=>Tot.cv (λ_=>.az trivial) (λ_=>.az trivial)) (λ_=>.az trivial)) λ_ _=>.aK (Ξ:=λ_=>True) (Tot.ap (by simp [lim]; omega) trivial) λ_ _=>?_
     have bP:∀ p∈ps++[(⟨dH,{ data:=#[] },0⟩:Part)],p.Sym.Name.size<=e7/\p.Code.size<=e7:=λp aF=>by
      rcases List.mem_append.1 aF with aF | aF
      ·exact Gs p aF
      ·rw [List.mem_singleton.1 aF]
       exact ⟨by show dH.Name.size<=1000000000000; omega,Nat.zero_le _⟩
     refine .aK (Ξ:=λ_=>True) ?_ λs7 _=>?_
     ·refine Tot.b6 (λh=>Tot.cv (λ_=>.aK (Tot.hz (Φ:=λ_=>True) g0 h λ_ _ _=>trivial) λ_ _=>.aK (Ξ:=λ_=>True) (Tot.rem (by decide) trivial) λ_ _=>.az trivial) (λ_=>.az trivial)) (λ_=>.az trivial)
     ·refine Tot.aK (Ξ:=λl=>(l.length:Int)<=2 * k/\∀ p∈l,p.Sym.Name.size<=e7/\p.Code.size<=e7) ?_ λae aa=>.az aa
      refine Tot.cv (λ_=>?_) (λ_=>.az ⟨by simp; omega,bP⟩)
      refine .aK (Ξ:=λ_=>True) (Tot.ap (by simp [lim]; omega) trivial) λ_ _=>.az ⟨by simp; omega,λp aF=>?_⟩
      rcases List.mem_append.1 aF with aF | aF
      ·exact bP p aF
      ·rw [List.mem_singleton.1 aF]; exact mW _ (by decide)
    ·show 1<=k+1; omega
    ·show k+1<=5; omega
    ·show (ae.1.length:Int)<=2 * (k+1 - 1); omega
    ·show k<k+1; omega
    ·show k+1<=5; omega
   ·refine .aK (Ξ:=λ_=>True) (Tot.b6 (λh=>.aK (Tot.hz (Φ:=λ_=>True) g0 h λ_ _ _=>trivial) λ_ _=>.aK (Ξ:=λ_=>True) (Tot.rem (by decide) trivial) λ_ _=>.az trivial) (λ_=>.az trivial)) λU3 _=>?_
    refine Tot.aK (Ξ:=λl=>l.length<=20/\∀ p∈l,p.Sym.Name.size<=e7/\p.Code.size<=e7) ?_ λmn PY=>?_
    ·refine Tot.cv (λ_=>?_) (λ_=>.az ⟨by omega,JM.2⟩)
     refine .aK (Ξ:=λ_=>True) (Tot.ap (by simp [lim]; omega) trivial) λ_ _=>.az ⟨by simp; omega,λp aF=>?_⟩
     rcases List.mem_append.1 aF with aF | aF
     ·exact JM.2 p aF
     ·rw [List.mem_singleton.1 aF]; exact mW _ (by decide)
    ·refine Tot.aK (Ξ:=λl=>(l.length:Int)=1+aE) ?_ λIG P0=>?_
     ·refine .aK (Tot.hz (Φ:=λ_=>True) JL.1 (by omega) λ_ _ _=>trivial) λ_ _=>Tot.cv (λ_=>.az (by simp; omega)) (λ_=>.az (by simp; omega))
     ·refine .aK (Tot.hz (Φ:=λy=>y∈l) JL.1 (by omega) λ_ _ h=>h) λly P1=>?_
      have pL:=c6 ly P1
      refine .aK (Ξ:=λ_=>True) (Tot.ap (by have:=pL.n; simp [lim]; omega) trivial) λ_ _=>.az ⟨by show ((l.set _ _).length:Int)=_; simp; omega,P0,H' J1 (pL.add ⟨by show mn.length<=_; omega,PY.2,Nat.zero_le _⟩)⟩
  ·show 0<=i+1; omega
  ·show i+1<=9; omega
  ·intro y ay
   have e:(i+1).toNat=i.toNat+1:=by omega
   show kX (i+1).toNat y
   rw [e]; exact aa.2.2 y ay
  ·show i<i+1; omega
  ·show i+1<=9; omega
 refine Tot.aK (Ξ:=λl=>(l.length:Int)=1+aE/\∀ y∈l,kX 20 y) ?_ λrC P2=>.az ⟨Nat.zero_le _,?_,λd aV=>?_,?_,λr aw=>?_⟩
 ·refine Tot.count (λs=>s.2) (1+aE) (λs=>0<=s.2/\s.2<=1+aE/\(s.1.length:Int)=1+aE/\∀ y∈s.1,kX (9+s.2.toNat) y) ⟨Int.le_refl 0,by show 0<=1+aE; omega,yO.1,yO.2.2⟩ (by show 1+aE - 0<_; omega) λs aP=>?_
  obtain ⟨l,i⟩:=s
  obtain ⟨g0,g1,ao,c6⟩:=aP
  simp only at g0 g1 ao c6 ⊢
  have hw:aM (i+1)=i+1:=by rw [dx]; omega
  rw [hw]
  refine Tot.b6 (λbd=>?_) (λ_=>.az ⟨ao,λy ay=>(c6 y ay).mono (by omega)⟩)
  refine Tot.aK (Ξ:=λl=>(l.length:Int)=1+aE/\∀ y∈l,kX (9+i.toNat+1) y) ?_ λae aa=>.az ⟨⟨?_,?_,aa.1,?_⟩,?_,?_⟩
  ·refine .aK (Ξ:=λ_=>True) ?_ λU4 _=>?_
   ·refine .aK (Tot.hz (Φ:=λ_=>True) g0 (by omega) λ_ _ _=>trivial) λuf _=>Tot.cv (λ_=>.az trivial) (λ_=>.aK (Tot.hz (Φ:=λ_=>True) g0 (by omega) λ_ _ _=>trivial) λ_ _=>Tot.cv (λ_=>.az trivial) (λ_=>.az trivial))
   ·refine Tot.aK (Ξ:=λl=>(l.length:Int)=1+aE/\∀ y∈l,kX (9+i.toNat+1) y) ?_ λae aa=>.az aa
    refine Tot.cv (λ_=>?_) (λ_=>.az ⟨ao,λy ay=>(c6 y ay).mono (by omega)⟩)
    refine .aK (Tot.hz (Φ:=λy=>y∈l) g0 (by omega) λ_ _ h=>h) λkc B2=>.aK (t47 i g0) λkd Vg=>?_
    have J:=c6 kc B2
    refine .aK (Ξ:=λ_=>True) (Tot.ap (by have:=J.n; simp [lim]; omega) trivial) λ_ _=>.az ⟨by simp; omega,H' (λy ay=>(c6 y ay).mono (by omega)) (J.add ⟨by show 1<=_; omega,λp aF=>?_,Nat.zero_le _⟩)⟩
    have aF:p∈[(⟨kd,{ data:=#[] },0⟩:Part)]:=aF
    rw [List.mem_singleton.1 aF]
    exact ⟨by show kd.Name.size<=1000000000000; omega,Nat.zero_le _⟩
  ·show 0<=i+1; omega
  ·show i+1<=1+aE; omega
  ·intro y ay
   have e:9+(i+1).toNat=9+i.toNat+1:=by omega
   show kX (9+(i+1).toNat) y
   rw [e]; exact aa.2 y ay
  ·show i<i+1; omega
  ·show i+1<=1+aE; omega
 ·have:=al.1; show x2.length<=1000; omega
 ·have:=al.2 d aV
  exact ⟨by rw [this.tag]; exact Nat.zero_le _,by have:=this.n; omega,this.syms⟩
 ·show rC.length<=1000; omega
 ·have:=P2.2 r aw
  exact ⟨this.left,by have:=this.n; omega,this.alts⟩
end Go.Proofs
namespace Go.Own
open Go Go.Sort
variable {α:Type} [DecidableEq α]
structure Ord (lt:α->α->Bool):Prop where
 swo:SWO lt
 jR:∀ x y,lt x y=false->lt y x=false->x=y
def fX (lt:α->α->Bool) (l:List α):Prop:=l.Pairwise λa b=>lt a b=true
omit [DecidableEq α] in
theorem fX.nd {lt:α->α->Bool}(h:Ord lt) {l:List α}(ao:fX lt l):l.Nodup:=ao.imp λ{a b} J5 e=>by
 subst e
 rw [h.swo.irrefl] at J5; cases J5
omit [DecidableEq α] in
theorem fX.uniq {lt:α->α->Bool}(h:Ord lt) {l m:List α}(ao:fX lt l) (hm:fX lt m) (he:∀ x,x∈l↔x∈m):l=m :=
 List.Perm.eq_of_pairwise (le:=λa b=>lt a b=true) (λa b _ _ h1 al=>by have:=h.swo.trans _ _ _ h1 al; rw [h.swo.irrefl] at this; cases this) ao hm ((List.perm_ext_iff_of_nodup (ao.nd h) (hm.nd h)).2 he)
omit [DecidableEq α] in
theorem xn {l m:List α}(aV:l.Nodup) (hm:∀ x∈l,x∈m):l.length<=m.length:=by
 classical
 induction l generalizing m with
 | nil=>exact Nat.zero_le _
 | cons x l aS =>
  have J:=hm x (by simp)
  have nz:=List.nodup_cons.1 aV
  have:=aS (m:=m.erase x) nz.2 λy ay=>(List.mem_erase_of_ne (λe=>nz.1 (by rw [<- e]; exact ay))).2 (hm y (by simp [ay]))
  have ao:=List.length_erase_of_mem J
  have aF:=List.length_pos_of_mem J
  simp only [List.length_cons]
  omega
end Go.Own
namespace Go.Proofs
open Go Go.Own Go.Sort
set_option maxRecDepth 100000
set_option linter.unusedVariables false
def gU (a b:Item):Bool:=decide (a.Prod<b.Prod\/(a.Prod=b.Prod/\a.dC<b.dC))
theorem Gy {a b:Item}:gU a b=true↔(a.Prod<b.Prod\/(a.Prod=b.Prod/\a.dC<b.dC)):=by simp [gU]
theorem zI {a b:Item}:gU a b=false↔¬ (a.Prod<b.Prod\/(a.Prod=b.Prod/\a.dC<b.dC)):=by simp [gU]
theorem tN:Ord gU where
 swo:=⟨λx=>by rw [zI]; omega,λx y z h1 al=>by rw [Gy] at *; omega,λx y z h1 al=>by rw [zI] at *; omega⟩
 jR x y h1 al:=by
  rw [zI] at h1 al
  obtain ⟨aE,x2⟩:=x
  obtain ⟨j6,y2⟩:=y
  simp only at h1 al
  have:aE=j6:=by omega
  have:x2=y2:=by omega
  subst_vars; rfl
def iW (g:bZ) (x:Item):Prop:=∃ q,idx g.aY x.Prod=some q/\0<=x.dC/\x.dC<=q.fo.length
def hV (g:bZ) (x:Item):Int:=match idx g.aY x.Prod with
 | some q=>(idx q.fo x.dC).getD (-1)
 | none=>-1
theorem na {α:Type}{l:List α}{i:Int}{y:α}(h:idx l i=some y):0<=i/\i<l.length/\y∈l:=by
 unfold idx at h
 split at h
 ·rename_i bc
  obtain ⟨h1,al⟩:=List.getElem?_eq_some_iff.1 h
  exact ⟨bc,by omega,List.mem_of_getElem? h⟩
 ·cases h
theorem vf {α:Type}{l:List α}{i:Int}(h:i<0\/(l.length:Int)<=i):idx l i=none:=by
 unfold idx
 split
 ·exact List.getElem?_eq_none (by omega)
 ·rfl
theorem k_ {α:Type}{l:List α}{i:Int}(bc:0<=i) (h1:i<l.length):∃ y,idx l i=some y/\y∈l:=by
 have bd:i.toNat<l.length:=by omega
 exact ⟨l[i.toNat],by simp [idx,bc,bd],List.getElem_mem bd⟩
theorem et {α:Type}{l:List α}{k:Nat}(h:k<l.length):idx l (k:Int)=some l[k]:=by simp [idx,h]
theorem I7 (g:bZ) (x:Item):∃ c,xx g x=some c/\(c=true↔iW g x):=by
 unfold xx
 by_cases bc:0<=x.Prod
 ·by_cases h1:x.Prod<g.aY.length
  ·obtain ⟨q,bP,_⟩:=k_ bc h1
   by_cases al:0<=x.dC
   ·refine ⟨decide (x.dC<=(q.fo.length:Int)),by simp [bc,h1,al,bP],?_⟩
    rw [decide_eq_true_eq]
    exact ⟨λh=>⟨q,bP,al,h⟩,λ⟨gV,Cl,_,h⟩=>by rw [bP] at Cl; cases Cl; exact h⟩
   ·exact ⟨false,by simp [bc,h1,al],λh=>(by cases h),λ⟨_,_,h,_⟩=>absurd h al⟩
  ·exact ⟨false,by simp [bc,h1],λh=>(by cases h),λ⟨_,h,_⟩=>absurd (na h).2.1 h1⟩
 ·exact ⟨false,by simp [bc],λh=>(by cases h),λ⟨_,h,_⟩=>absurd (na h).1 bc⟩
theorem Ek (g:bZ) (x:Item):vI g x=some (hV g x):=by
 unfold vI hV
 obtain ⟨c,ab,hi⟩:=I7 g x
 rw [ab]
 simp only [Option.bind_some]
 cases c with
 | false =>
  have aN:¬ iW g x:=λh=>by have:=hi.2 h; cases this
  simp only [Bool.not_false,cond_true,Option.bind_some]
  cases bP:idx g.aY x.Prod with
  | none=>rfl
  | some q =>
   have:idx q.fo x.dC=none:=vf (by
    by_cases bc:0<=x.dC
    ·right
     by_cases h1:x.dC<=q.fo.length
     ·exact absurd ⟨q,bP,bc,h1⟩ aN
     ·omega
    ·left; omega)
   simp [this]
 | true =>
  obtain ⟨q,bP,bc,h1⟩:=hi.1 rfl
  simp only [Bool.not_true,cond_false,bP,Option.bind_some]
  by_cases he:x.dC=q.fo.length
  ·rw [vf (.inr (by omega))]
   simp [he]
  ·obtain ⟨s,aP,_⟩:=k_ (l:=q.fo) (i:=x.dC) bc (by omega)
   simp [he,aP]
theorem Lh {g:bZ}(a7:gH g) {x:Item}(h:0<=hV g x):iW g x/\pn g.a'.length (g.bw.length - 1) (hV g x)/\∃ q,idx g.aY x.Prod=some q/\idx q.fo x.dC=some (hV g x):=by
 cases bP:idx g.aY x.Prod with
 | none =>
  have:hV g x=-1:=by unfold hV; rw [bP]
  rw [this] at h; exact absurd h (by decide)
 | some q =>
  cases aP:idx q.fo x.dC with
  | none =>
   have:hV g x=-1:=by unfold hV; rw [bP]; simp [aP]
   rw [this] at h; exact absurd h (by decide)
  | some s =>
   have e:hV g x=s:=by unfold hV; rw [bP]; simp [aP]
   rw [e]
   obtain ⟨bc,h1,hm⟩:=na aP
   exact ⟨⟨q,bP,bc,by omega⟩,(a7.hq q (na bP).2.2).right s hm,q,rfl,aP⟩
inductive mU (g:bZ) (l:List Item):Item->Prop
 | base {x:Item}(h:x∈l) (hi:iW g x):mU g l x
 | step {x:Item}{q:Prod}{p:Nat}(h:mU g l x) (aF:g.aY[p]?=some q) (aN:hV g x=1000+q.Left) (bc:1000<=hV g x):mU g l ⟨p,0⟩
theorem K8 {g:bZ}{p:Nat}{q:Prod}(aF:g.aY[p]?=some q):iW g ⟨p,0⟩:=⟨q,by simp [idx,aF],Int.le_refl _,by show (0:Int)<=_; omega⟩
theorem mU.iW {g:bZ}{l:List Item}{x:Item}(h:mU g l x):iW g x:=by
 cases h with
 | base _ hi=>exact hi
 | step _ aF _ _=>exact K8 aF
theorem Tc {g:bZ}(a7:gH g) (x:Item):-1<=hV g x/\hV g x<=1023:=by
 by_cases h:0<=hV g x
 ·obtain ⟨_,aP,_⟩:=Lh a7 h
  have:=a7.hU
  have:=a7.kA
  rcases aP with aP | aP <;> omega
 ·refine ⟨?_,by omega⟩
  revert h
  unfold hV
  cases bP:idx g.aY x.Prod with
  | none=>intro _; exact Int.le_refl _
  | some q =>
   cases aP:idx q.fo x.dC with
   | none=>intro _; simp [aP]
   | some s =>
    intro h
    have hm:=(a7.hq q (na bP).2.2).right s (na aP).2.2
    simp only [aP,Option.getD_some] at h ⊢
    rcases hm with hm | hm <;> omega
def hF (m:List Bool):Nat:=(m.filter λb=>b).length
theorem uD:∀ (m:List Bool) (i:Nat),i<m.length->m.getD i false=false->hF (m.set i true)=hF m+1
 | [],i,h,_=>by simp at h
 | b::m,0,_,h=>by
  have:b=false:=by simpa using h
  subst this
  simp [hF]
 | b::m,i+1,h,bc=>by
  have:=uD m i (by simpa using h) (by simpa using bc)
  unfold hF at this ⊢
  simp only [List.set_cons_succ,List.filter_cons]
  cases b <;> simp [this]
theorem Od (m:List Bool):hF m<=m.length:=List.length_filter_le _ _
theorem kb {α:Type}{r:List α}{k:Nat}(h:k<r.length):r.take (k+1)=r.take k++[r[k]]:=by
 rw [List.take_add_one,List.getElem?_eq_getElem h]; rfl
theorem Dl (k:Nat) (h:k<=1000000000000):aM ((k:Int)+1)=((k+1:Nat):Int):=by rw [dx]; omega
def allI (g:bZ):List Item:=(List.range g.aY.length).flatMap λp=>(List.range 9).map λd=>(⟨(p:Nat),(d:Nat)⟩:Item)
theorem M9 (g:bZ):(allI g).length=g.aY.length * 9:=by
 have:∀ l:List Nat,(l.map λ_=>9).sum=l.length * 9:=λl=>by
  induction l with
  | nil=>rfl
  | cons a l aS=>simp only [List.map_cons,List.sum_cons,aS,List.length_cons]; omega
 simp [allI,List.length_flatMap,this]
theorem S4 {g:bZ}(a7:gH g) {x:Item}(h:iW g x):x∈allI g:=by
 obtain ⟨q,bP,bc,h1⟩:=h
 obtain ⟨al,aR,b3⟩:=na bP
 have:=a7.aO q b3
 refine List.mem_flatMap.2 ⟨x.Prod.toNat,by simp; omega,List.mem_map.2 ⟨x.dC.toNat,by simp; omega,?_⟩⟩
 obtain ⟨a,b⟩:=x
 simp only at bc al ⊢
 congr 1 <;> omega
theorem rO {g:bZ}(a7:gH g) {l:List Item}(ao:fX gU l) (hi:∀ x∈l,iW g x):l.length<=540:=by
 have:=xn (ao.nd tN) λx J=>S4 a7 (hi x J)
 rw [M9] at this
 have:=a7.mS
 omega
theorem Nr {l:List Item}(ao:fX gU l) {i ae:Nat}(hi:i<l.length) (aa:ae<l.length) (h:i<ae):gU l[i] l[ae]=true:=List.pairwise_iff_getElem.1 ao i ae hi aa h
theorem DT (l:List Item) (x:Item) (ao:fX gU l) (aN:l.length<=100000):Tot (vA l x) λr=>fX gU r/\(∀ y,y∈r↔y∈l\/y=x):=by
 unfold vA
 refine .aK (Ξ:=λz:Int=>∃ k:Nat,z=(k:Int)/\k<=l.length/\(∀ (i:Nat) (h:i<l.length),k<=i->gU x l[i]=true)/\∀ (h:0<k),gU x (l[k - 1]?.getD default)=false) ?_ λz bG=>?_
 ·refine Tot.count (λs=>-s) 1 (λs=>∃ k:Nat,s=(k:Int)/\k<=l.length/\∀ (i:Nat) (h:i<l.length),k<=i->gU x l[i]=true) ⟨l.length,rfl,Nat.le_refl _,λi h hk=>by omega⟩ (by show 1 - -(l.length:Int)<_; omega) λs aP=>?_
  obtain ⟨k,rfl,hk,qm⟩:=aP
  refine .aK (Ξ:=λc:Bool=>(c=true->0<k/\gU x (l[k - 1]?.getD default)=true)/\(c=false->∀ (h:0<k),gU x (l[k - 1]?.getD default)=false)) ?_ λc ab=>Tot.cv (λh=>?_) (λh=>.az ⟨k,rfl,hk,qm,ab.2 h⟩)
  ·refine Tot.b6 (λh=>?_) (λh=>.az ⟨λaT=>(by cases aT),λ_ aT=>by omega⟩)
   have hl:k - 1<l.length:=by omega
   have hw:aM ((k:Int) - 1)=((k - 1:Nat):Int):=by rw [dx]; omega
   rw [hw,et hl,List.getElem?_eq_getElem hl]
   simp only [Option.bind_some,Option.getD_some]
   generalize l[k - 1]=y
   refine Tot.b6 (λh1=>.az ⟨λ_=>⟨by omega,Gy.2 (.inl h1)⟩,λaT=>(by cases aT)⟩) (λh1=>Tot.b6 (λal=>.az ⟨λaR=>⟨by omega,Gy.2 (.inr ⟨al.symm,of_decide_eq_true aR⟩)⟩,λaR _=>?_⟩) (λal=>.az ⟨λaT=>(by cases aT),λ_ _=>?_⟩))
   ·have:=of_decide_eq_false aR
    rw [zI]; omega
   ·rw [zI]; omega
  ·obtain ⟨bc,h1⟩:=ab.1 h
   refine .az ⟨⟨k - 1,by rw [dx]; omega,by omega,λi hi Rz=>?_⟩,by show -(k:Int) < -aM _; rw [dx]; omega,by show -aM _<=1; rw [dx]; omega⟩
   by_cases e:i=k - 1
   ·subst e
    rw [List.getElem?_eq_getElem hi] at h1
    exact h1
   ·exact qm i hi (by omega)
 ·obtain ⟨k,rfl,hk,qm,l9⟩:=bG
  refine .aK (Ξ:=λc:Bool=>(c=true↔(0<k/\l[k - 1]?.getD default=x))) ?_ λc ab=>Tot.cv (λh=>?_) (λh=>?_)
  ·refine Tot.b6 (λh=>?_) (λh=>.az ⟨λaT=>(by cases aT),λaT=>by omega⟩)
   have hl:k - 1<l.length:=by omega
   have hw:aM ((k:Int) - 1)=((k - 1:Nat):Int):=by rw [dx]; omega
   rw [hw,et hl,List.getElem?_eq_getElem hl]
   simp only [Option.bind_some,Option.getD_some]
   generalize l[k - 1]=y
   refine .az ?_
   obtain ⟨j6,y2⟩:=y
   obtain ⟨aE,x2⟩:=x
   simp only [Bool.and_true,Bool.and_eq_true,decide_eq_true_eq,Item.mk.injEq]
   exact ⟨λaT=>⟨by omega,aT⟩,λaT=>aT.2⟩
  ·obtain ⟨bc,h1⟩:=ab.1 h
   have hl:k - 1<l.length:=by omega
   rw [List.getElem?_eq_getElem hl] at h1
   have J:x∈l:=by rw [<- h1]; exact List.getElem_mem hl
   exact .az ⟨ao,λy=>⟨.inl,λh=>h.elim id λe=>e ▸ J⟩⟩
  ·have ez:∀ (i:Nat) (hi:i<l.length),i<k->gU l[i] x=true:=by
    intro i hi tv
    have hl:k - 1<l.length:=by omega
    have l9:=l9 (by omega)
    have aN:l[k - 1]?.getD default≠x:=λe=>by rw [ab.2 ⟨by omega,e⟩] at h; cases h
    rw [List.getElem?_eq_getElem hl] at l9 aN
    simp only [Option.getD_some] at l9 aN
    have gQ:gU l[k - 1] x=true:=by
     cases b9:gU l[k - 1] x with
     | true=>rfl
     | false=>exact absurd (tN.jR _ _ b9 l9) aN
    by_cases e:i=k - 1
    ·subst e; exact gQ
    ·exact tN.swo.trans _ _ _ (Nr ao hi hl (by omega)) gQ
   refine .aK (Ξ:=λz=>z=l.take k) (Tot.sub ⟨by omega,by omega,by omega⟩ (by simp)) λz bG=>?_
   subst bG
   refine .aK (Ξ:=λ_=>True) (Tot.ap (by simp [lim]; omega) trivial) λ_ _=>.aK (Ξ:=λ_=>True) (Tot.ap (by simp [lim]; omega) trivial) λ_ _=>?_
   refine .aK (Ξ:=λz=>z=l.drop k) (Tot.sub ⟨by omega,by omega,by omega⟩ ?_) λz bG=>?_
   ·rw [List.take_of_length_le]
    ·congr 1
    ·rw [List.length_drop]; omega
   subst bG
   refine .aK (Ξ:=λ_=>True) (Tot.ap (by simp [lim]; omega) trivial) λ_ _=>.az ?_
   rw [List.nil_append]
   constructor
   ·have h1:∀ a∈l.take k,gU a x=true:=by
     intro a bg
     obtain ⟨i,hi,rfl⟩:=List.mem_iff_getElem.1 bg
     rw [List.length_take] at hi
     rw [List.getElem_take]
     exact ez i (by omega) (by omega)
    have al:∀ a∈l.drop k,gU x a=true:=by
     intro a bg
     obtain ⟨i,hi,rfl⟩:=List.mem_iff_getElem.1 bg
     rw [List.length_drop] at hi
     rw [List.getElem_drop]
     exact qm (k+i) (by omega) (by omega)
    unfold fX
    rw [List.append_assoc,List.pairwise_append]
    refine ⟨List.Pairwise.sublist (List.take_sublist k l) ao,?_,λa bg b aI=>?_⟩
    ·rw [List.singleton_append,List.pairwise_cons]
     exact ⟨al,List.Pairwise.sublist (List.drop_sublist k l) ao⟩
    ·rcases List.mem_append.1 aI with aI | aI
     ·rw [List.mem_singleton.1 aI]; exact h1 a bg
     ·exact tN.swo.trans _ _ _ (h1 a bg) (al b aI)
   ·intro y
    rw [List.append_assoc,List.mem_append,List.mem_append,List.mem_singleton]
    have hm:y∈l↔y∈l.take k\/y∈l.drop k:=by
     rw [<- List.mem_append,List.take_append_drop]
    rw [hm]
    constructor
    ·rintro (h | h | h)
     ·exact .inl (.inl h)
     ·exact .inr h
     ·exact .inl (.inr h)
    ·rintro ((h | h) | h)
     ·exact .inl h
     ·exact .inr (.inr h)
     ·exact .inr (.inl h)
theorem NR (g:bZ) (a7:gH g) (l:List Item) (ao:l.length<=1000000):Tot (zU g l) λr=>fX gU r/\∀ x,x∈r↔x∈l/\iW g x:=by
 unfold zU
 refine .aK (Ξ:=λr=>fX gU r/\∀ x,x∈r↔x∈l/\iW g x) ?_ λr aw=>.az aw
 refine Tot.count (λs=>s.2) l.length (λs=>∃ k:Nat,k<=l.length/\s.2=(k:Int)/\fX gU s.1/\∀ x,x∈s.1↔x∈l.take k/\iW g x) ⟨0,Nat.zero_le _,rfl,List.Pairwise.nil,λx=>by simp⟩ (by show (l.length:Int) - 0<_; omega) λs aP=>?_
 obtain ⟨out,k'⟩:=s
 obtain ⟨k,hk,rfl,bg,hm⟩:=aP
 simp only at bg hm ⊢
 rw [Dl k (by omega)]
 refine Tot.b6 (λbd=>?_) (λeb=>.az ?_)
 ·have bd:k<l.length:=by omega
  rw [et bd]
  refine .aK (Ξ:=λo:List Item=>fX gU o/\∀ x,x∈o↔x∈l.take (k+1)/\iW g x) ?_ λo bf=>.az ⟨⟨k+1,by omega,rfl,bf⟩,by show (k:Int)<((k+1:Nat):Int); omega,by show ((k+1:Nat):Int)<=_; omega⟩
  obtain ⟨c,ab,hi⟩:=I7 g l[k]
  rw [kb bd]
  refine Tot.ax ?_
  rw [ab]
  refine Tot.ax (.aK (Ξ:=λo:List Item=>fX gU o/\∀ x,x∈o↔x∈l.take k++[l[k]]/\iW g x) (Tot.cv (λh=>?_) (λh=>.az ⟨bg,λx=>?_⟩)) λo bf=>.az bf)
  ·have KC:=rO a7 bg λx J=>((hm x).1 J).2
   refine Tot.ax (.aK (DT out _ bg (by omega)) λo bf=>.az ⟨bf.1,λx=>?_⟩)
   rw [bf.2 x,List.mem_append,List.mem_singleton,hm x]
   constructor
   ·rintro (⟨h1,al⟩ | rfl)
    ·exact ⟨.inl h1,al⟩
    ·exact ⟨.inr rfl,hi.1 h⟩
   ·rintro ⟨h1 | rfl,al⟩
    ·exact .inl ⟨h1,al⟩
    ·exact .inr rfl
  ·rw [List.mem_append,List.mem_singleton,hm x]
   constructor
   ·rintro ⟨h1,al⟩
    exact ⟨.inl h1,al⟩
   ·rintro ⟨h1 | rfl,al⟩
    ·exact ⟨h1,al⟩
    ·rw [hi.2 al] at h; cases h
 ·have:k=l.length:=by omega
  subst this
  rw [List.take_length] at hm
  exact ⟨bg,hm⟩
def uh (g:bZ) (out:List Item) (x:Item):Prop:=1000<=hV g x->∀ (p:Nat) (q:Prod),g.aY[p]?=some q->q.Left=hV g x - 1000->(⟨p,0⟩:Item)∈out
theorem D1 (g:bZ) (a7:gH g) (l:List Item) (ao:l.length<=1000000):Tot (vH g l) λr=>fX gU r/\∀ x,x∈r↔mU g l x:=by
 have zh:=a7.mS
 unfold vH
 refine .aK (NR g a7 l ao) λaE h1=>.aK (Ξ:=λr=>fX gU r/\∀ x,x∈r↔mU g l x) ?_ λr aw=>.az aw
 obtain ⟨QJ,FC⟩:=h1
 refine Tot.loop (λs=>fX gU s.1/\(∀ x∈s.1,mU g l x)/\(∀ x∈l,iW g x->x∈s.1)/\(s.2=(s.1.length:Int)->∀ x∈s.1,uh g s.1 x)) (λs=>2 * (1000 - s.1.length)+(if s.2=(s.1.length:Int) then 0 else 1)) ⟨QJ,λx J=>.base ((FC x).1 J).1 ((FC x).1 J).2,λx J hi=>(FC x).2 ⟨J,hi⟩,λh=>by have h:(-1:Int)=_:=h; omega⟩ (by
  show 2 * (1000 - aE.length)+(if (-1:Int)=_ then 0 else 1)<1000000000000000000
  split <;> omega) λs aP=>?_
 obtain ⟨out,n⟩:=s
 obtain ⟨bg,gJ,tm,hK⟩:=aP
 simp only at bg gJ tm hK ⊢
 have KC:=rO a7 bg λx J=>(gJ x J).iW
 refine Tot.qZ (λez=>?_) (λhe=>.az ⟨bg,λx=>⟨gJ x,λJ=>?_⟩⟩)
 ·refine .aK (Ξ:=λae:List Item × Int=>ae.2=(out.length:Int)/\fX gU ae.1/\(∀ x∈ae.1,mU g l x)/\(∀ x∈out,x∈ae.1)/\(ae.1.length=out.length->∀ x∈ae.1,uh g ae.1 x)) ?_ λae aa=>?_
  ·refine .aK (Ξ:=λr:List Item=>fX gU r/\(∀ x∈r,mU g l x)/\(∀ x∈out,x∈r)/\(r.length=out.length->∀ x∈r,uh g r x)) ?_ λr aw=>.az ⟨rfl,aw⟩
   refine .aK (Ξ:=λr:List Item=>fX gU r/\(∀ x∈r,mU g l x)/\(∀ x∈out,x∈r)/\(r.length=out.length->∀ x∈r,uh g r x)) ?_ λr aw=>.az aw
   refine Tot.count (λs=>s.2) out.length (λs=>∃ k:Nat,k<=out.length/\s.2=(k:Int)/\s.1=out/\∀ (ae:Nat) (h:ae<out.length),ae<k->uh g out out[ae]) ⟨0,Nat.zero_le _,rfl,rfl,λae _ aa=>absurd aa (Nat.not_lt_zero _)⟩ (by show (out.length:Int) - 0<_; omega) λs aP=>?_
   obtain ⟨cur,k'⟩:=s
   obtain ⟨k,hk,rfl,rfl,Ke⟩:=aP
   simp only
   rw [Dl k (by omega)]
   refine Tot.b6 (λbd=>?_) (λeb=>.az ⟨bg,gJ,λ_ h=>h,λ_ x J=>?_⟩)
   ·have bd:k<cur.length:=by omega
    rw [et bd]
    have F5:=gJ _ (List.getElem_mem bd)
    have F3:∀ P:Item->Prop,P cur[k]->∀ (ae:Nat) (h:ae<cur.length),ae=k->P cur[ae]:=λP c6 ae h e=>by subst e; exact c6
    generalize J:cur[k]=x at *
    have VP:=Tc a7 x
    have hw:aM (hV g x - 1000)=hV g x - 1000:=by rw [dx]; omega
    simp only [Option.bind_some,Ek g x,hw]
    refine (.aK (Ξ:=λr:List Item=>fX gU r/\(∀ x∈r,mU g l x)/\(∀ x∈cur,x∈r)/\uh g r x) ?_ λr aw=>?_)
    ·refine Tot.count (λs=>s.2) g.aY.length (λs=>∃ i:Nat,i<=g.aY.length/\s.2=(i:Int)/\fX gU s.1/\(∀ x∈s.1,mU g l x)/\(∀ x∈cur,x∈s.1)/\∀ (p:Nat) (q:Prod),p<i->g.aY[p]?=some q->q.Left=hV g x - 1000->(⟨p,0⟩:Item)∈s.1) ⟨0,Nat.zero_le _,rfl,bg,gJ,λ_ h=>h,λp q aF=>absurd aF (Nat.not_lt_zero _)⟩ (by show (g.aY.length:Int) - 0<_; omega) λs aP=>?_
     obtain ⟨o,xi⟩:=s
     obtain ⟨i,hi,rfl,qj,zf,Cj,tz⟩:=aP
     simp only at qj zf Cj tz ⊢
     rw [Dl i (by omega)]
     refine .aK (Ξ:=λc:Bool=>(c=true->i<g.aY.length/\1000<=hV g x)/\(c=false->g.aY.length<=i\/hV g x<1000)) (Tot.b6 (λh=>.az ⟨λaT=>⟨by omega,of_decide_eq_true aT⟩,λaT=>.inr (by have:=of_decide_eq_false aT; omega)⟩) (λh=>.az ⟨λaT=>(by cases aT),λ_=>.inl (by omega)⟩)) λc ab=>Tot.cv (λh=>?_) (λh=>.az ⟨qj,zf,Cj,λbc p q aF=>?_⟩)
     ·obtain ⟨FA,bc⟩:=ab.1 h
      have KG:g.aY[i]?=some g.aY[i]:=List.getElem?_eq_getElem FA
      rw [et FA]
      refine .aK (Ξ:=λo:List Item=>fX gU o/\(∀ x∈o,mU g l x)/\(∀ x∈cur,x∈o)/\∀ (p:Nat) (q:Prod),p<i+1->g.aY[p]?=some q->q.Left=hV g x - 1000->(⟨p,0⟩:Item)∈o) ?_ λo bf=>.az ⟨⟨i+1,by omega,rfl,bf⟩,by show (i:Int)<((i+1:Nat):Int); omega,by show ((i+1:Nat):Int)<=_; omega⟩
      refine Tot.ax (.aK (Ξ:=λo:List Item=>fX gU o/\(∀ x∈o,mU g l x)/\(∀ x∈cur,x∈o)/\∀ (p:Nat) (q:Prod),p<i+1->g.aY[p]?=some q->q.Left=hV g x - 1000->(⟨p,0⟩:Item)∈o) (Tot.b6 (λh=>?_) (λh=>.az ⟨qj,zf,Cj,λp q aF zi bP=>?_⟩)) λo bf=>.az bf)
      ·have RE:=rO a7 qj λx J=>(zf x J).iW
       refine .aK (DT o ⟨(i:Nat),0⟩ qj (by omega)) λr aw=>.az ⟨aw.1,λy ay=>?_,λy ay=>(aw.2 y).2 (.inl (Cj y ay)),λp q aF zi bP=>?_⟩
       ·rcases (aw.2 y).1 ay with ay | rfl
        ·exact zf y ay
        ·exact .step F5 KG (by omega) bc
       ·by_cases dn:p=i
        ·subst dn; exact (aw.2 _).2 (.inr rfl)
        ·exact (aw.2 _).2 (.inl (tz p q (by omega) zi bP))
      ·by_cases dn:p=i
       ·subst dn
        rw [KG] at zi; cases zi
        exact absurd bP h
       ·exact tz p q (by omega) zi bP
     ·rcases ab.2 h with h1 | h1
      ·exact tz p q (by have:=(List.getElem?_eq_some_iff.1 aF).1; omega) aF
      ·omega
    ·obtain ⟨xc,RQ,lp,RU⟩:=aw
     have hle:cur.length<=r.length:=xn (bg.nd tN) lp
     refine Tot.qZ (λFF=>.az ⟨xc,RQ,lp,λe=>absurd (by omega) FF⟩) (λheq=>?_)
     have nC:r.length=cur.length:=by omega
     have RV:r=cur:=by
      have l_:∀ y,y∈cur↔y∈r:=by
       intro y
       refine ⟨lp y,λay=>Classical.byContradiction λaN=>?_⟩
       have:=xn (l:=y::cur) (m:=r) (List.nodup_cons.2 ⟨aN,bg.nd tN⟩) λz bG=>by
        rcases List.mem_cons.1 bG with rfl | bG
        ·exact ay
        ·exact lp z bG
       simp at this
       omega
      exact (fX.uniq tN bg xc l_).symm
     subst RV
     refine .az ⟨⟨k+1,by omega,rfl,rfl,λae aa eM=>?_⟩,by show (k:Int)<((k+1:Nat):Int); omega,by show ((k+1:Nat):Int)<=_; omega⟩
     by_cases dn:ae=k
     ·exact F3 (uh g r) RU ae aa dn
     ·exact Ke ae aa (by omega)
   ·obtain ⟨ae,aa,rfl⟩:=List.mem_iff_getElem.1 J
    exact Ke ae aa (by omega)
  ·obtain ⟨h1,al,aR,b3,c3⟩:=aa
   have hle:out.length<=ae.1.length:=xn (bg.nd tN) b3
   have fg:=rO a7 al λx J=>(aR x J).iW
   refine .az ⟨⟨al,aR,λx J hi=>b3 x (tm x J hi),λe=>c3 (by show ae.1.length=_; have e:ae.2=(ae.1.length:Int):=e; omega)⟩,?_⟩
   show 2 * (1000 - ae.1.length)+(if ae.2=(ae.1.length:Int) then 0 else 1)<2 * (1000 - out.length)+(if n=(out.length:Int) then 0 else 1)
   rw [if_neg ez]
   split
   ·omega
   ·have:ae.1.length≠out.length:=λe=>by omega
    omega
 ·have ab:=hK he
  induction J with
  | base h hi=>exact tm _ h hi
  | @step x q p h aF aN bc aS=>exact ab x aS bc p q aF (by omega)
def Bf (g:bZ) (l:List Item) (a:Int) (y:Item):Prop:=∃ x,mU g l x/\hV g x=a/\0<=a/\y=⟨x.Prod,x.dC+1⟩
theorem K7 {g:bZ}(a7:gH g) {x:Item}(h:0<=hV g x):iW g ⟨x.Prod,x.dC+1⟩:=by
 obtain ⟨_,_,q,bP,aP⟩:=Lh a7 h
 obtain ⟨bc,h1,_⟩:=na aP
 exact ⟨q,bP,by show 0<=x.dC+1; omega,by show x.dC+1<=_; omega⟩
theorem SV {g:bZ}(a7:gH g) {x:Item}(h:iW g x):0<=x.dC/\x.dC<=8:=by
 obtain ⟨q,bP,bc,h1⟩:=h
 have:=a7.aO q (na bP).2.2
 omega
theorem Bf.iW {g:bZ}(a7:gH g) {l:List Item}{a:Int}{y:Item}(h:Bf g l a y):iW g y:=by
 obtain ⟨x,_,h1,al,rfl⟩:=h
 exact K7 a7 (by omega)
theorem N4 (g:bZ) (a7:gH g) (l:List Item) (a:Int) (ao:l.length<=1000000):Tot (Au g l a) λr=>fX gU r/\∀ y,y∈r↔Bf g l a y:=by
 unfold Au
 refine .aK (D1 g a7 l ao) λc ab=>.aK (Ξ:=λr=>fX gU r/\∀ y,y∈r↔Bf g l a y) ?_ λr aw=>.az aw
 have hK:=rO a7 ab.1 λx J=>((ab.2 x).1 J).iW
 refine Tot.count (λs=>s.2) c.length (λs=>∃ k:Nat,k<=c.length/\s.2=(k:Int)/\fX gU s.1/\∀ y,y∈s.1↔∃ x∈c.take k,hV g x=a/\0<=a/\y=⟨x.Prod,x.dC+1⟩) ⟨0,Nat.zero_le _,rfl,List.Pairwise.nil,λy=>by simp⟩ (by show (c.length:Int) - 0<_; omega) λs aP=>?_
 obtain ⟨o,k'⟩:=s
 obtain ⟨k,hk,rfl,qj,zg⟩:=aP
 simp only at qj zg ⊢
 rw [Dl k (by omega)]
 refine Tot.b6 (λbd=>?_) (λeb=>.az ⟨qj,λy=>?_⟩)
 ·have bd:k<c.length:=by omega
  have Sx:=((ab.2 _).1 (List.getElem_mem bd)).iW
  have fT:c.take (k+1)=c.take k++[c[k]]:=kb bd
  rw [et bd]
  generalize c[k]=x at *
  have aV:=SV a7 Sx
  have hw:aM (x.dC+1)=x.dC+1:=by rw [dx]; omega
  refine .aK (Ξ:=λo:List Item=>fX gU o/\∀ y,y∈o↔∃ x∈c.take (k+1),hV g x=a/\0<=a/\y=⟨x.Prod,x.dC+1⟩) ?_ λo bf=>.az ⟨⟨k+1,by omega,rfl,bf⟩,by show (k:Int)<((k+1:Nat):Int); omega,by show ((k+1:Nat):Int)<=_; omega⟩
  have l_:∀ y,(∃ z∈c.take (k+1),hV g z=a/\0<=a/\y=(⟨z.Prod,z.dC+1⟩:Item))↔(y∈o\/(hV g x=a/\0<=a/\y=⟨x.Prod,x.dC+1⟩)):=by
   intro y
   rw [zg y,fT]
   constructor
   ·rintro ⟨z,bG,h⟩
    rcases List.mem_append.1 bG with bG | bG
    ·exact .inl ⟨z,bG,h⟩
    ·rw [List.mem_singleton.1 bG] at h; exact .inr h
   ·rintro (⟨z,bG,h⟩ | h)
    ·exact ⟨z,by simp [bG],h⟩
    ·exact ⟨x,by simp,h⟩
  simp only [Option.bind_some,Ek g x,hw]
  refine (.aK (Ξ:=λb:Bool=>b=decide (0<=hV g x/\hV g x=a)) (Tot.b6 (λh=>.az (by simp [h])) (λh=>.az (by simp [h]))) λb aI=>?_)
  subst aI
  refine .aK (Ξ:=λo:List Item=>fX gU o/\∀ y,y∈o↔∃ x∈c.take (k+1),hV g x=a/\0<=a/\y=⟨x.Prod,x.dC+1⟩) (Tot.b6 (λh=>?_) (λh=>.az ⟨qj,λy=>?_⟩)) λo bf=>.az bf
  ·have KC:=rO a7 qj λy ay=>by
    obtain ⟨z,_,h1,al,rfl⟩:=(zg y).1 ay
    exact K7 a7 (by omega)
   refine (.aK (DT o _ qj (by omega)) λr aw=>.az ⟨aw.1,λy=>?_⟩)
   rw [aw.2 y,l_ y]
   constructor
   ·rintro (h1 | h1)
    ·exact .inl h1
    ·exact .inr ⟨h.2,by omega,h1⟩
   ·rintro (h1 | h1)
    ·exact .inl h1
    ·exact .inr h1.2.2
  ·rw [l_ y]
   exact ⟨.inl,λaT=>aT.elim id λaT=>absurd ⟨by omega,aT.1⟩ h⟩
 ·have:k=c.length:=by omega
  subst this
  rw [List.take_length] at zg
  rw [zg y]
  constructor
  ·rintro ⟨x,J,h⟩
   exact ⟨x,(ab.2 x).1 J,h⟩
  ·rintro ⟨x,J,h⟩
   exact ⟨x,(ab.2 x).2 J,h⟩
def iq (a b:Int):Bool:=decide (a<b)
theorem Gz {a b:Int}:iq a b=true↔a<b:=by simp [iq]
theorem GA {a b:Int}:iq a b=false↔¬ a<b:=by simp [iq]
theorem zT:Ord iq where
 swo:=⟨λx=>by rw [GA]; omega,λx y z h1 al=>by rw [Gz] at *; omega,λx y z h1 al=>by rw [GA] at *; omega⟩
 jR:=λx y h1 al=>by rw [GA] at *; omega
theorem Im {l:List Int}(ao:fX iq l) {i ae:Nat}(hi:i<l.length) (aa:ae<l.length) (h:i<ae):iq l[i] l[ae]=true:=List.pairwise_iff_getElem.1 ao i ae hi aa h
theorem BA (l:List Int) (x:Int) (ao:fX iq l) (aN:l.length<=100000):Tot (o6 l x) λr=>fX iq r/\r.length<=l.length+1/\(∀ y,y∈r↔y∈l\/y=x):=by
 unfold o6
 refine .aK (Ξ:=λz:Int=>∃ k:Nat,z=(k:Int)/\k<=l.length/\(∀ (i:Nat) (h:i<l.length),k<=i->iq x l[i]=true)/\∀ (h:0<k),iq x (l[k - 1]?.getD default)=false) ?_ λz bG=>?_
 ·refine Tot.count (λs=>-s) 1 (λs=>∃ k:Nat,s=(k:Int)/\k<=l.length/\∀ (i:Nat) (h:i<l.length),k<=i->iq x l[i]=true) ⟨l.length,rfl,Nat.le_refl _,λi h hk=>by omega⟩ (by show 1 - -(l.length:Int)<_; omega) λs aP=>?_
  obtain ⟨k,rfl,hk,qm⟩:=aP
  refine .aK (Ξ:=λc:Bool=>(c=true->0<k/\iq x (l[k - 1]?.getD default)=true)/\(c=false->∀ (h:0<k),iq x (l[k - 1]?.getD default)=false)) ?_ λc ab=>Tot.cv (λh=>?_) (λh=>.az ⟨k,rfl,hk,qm,ab.2 h⟩)
  ·refine Tot.b6 (λh=>?_) (λh=>.az ⟨λaT=>(by cases aT),λ_ aT=>by omega⟩)
   have hl:k - 1<l.length:=by omega
   have hw:aM ((k:Int) - 1)=((k - 1:Nat):Int):=by rw [dx]; omega
   rw [hw,et hl,List.getElem?_eq_getElem hl]
   simp only [Option.bind_some,Option.getD_some]
   exact .az ⟨λaT=>⟨by omega,aT⟩,λaT _=>aT⟩
  ·obtain ⟨bc,h1⟩:=ab.1 h
   refine .az ⟨⟨k - 1,by rw [dx]; omega,by omega,λi hi Rz=>?_⟩,by show -(k:Int) < -aM _; rw [dx]; omega,by show -aM _<=1; rw [dx]; omega⟩
   by_cases e:i=k - 1
   ·subst e
    rw [List.getElem?_eq_getElem hi] at h1
    exact h1
   ·exact qm i hi (by omega)
 ·obtain ⟨k,rfl,hk,qm,l9⟩:=bG
  refine .aK (Ξ:=λc:Bool=>(c=true↔(0<k/\l[k - 1]?.getD default=x))) ?_ λc ab=>Tot.cv (λh=>?_) (λh=>?_)
  ·refine Tot.b6 (λh=>?_) (λh=>.az ⟨λaT=>(by cases aT),λaT=>by omega⟩)
   have hl:k - 1<l.length:=by omega
   have hw:aM ((k:Int) - 1)=((k - 1:Nat):Int):=by rw [dx]; omega
   rw [hw,et hl,List.getElem?_eq_getElem hl]
   simp only [Option.bind_some,Option.getD_some]
   generalize l[k - 1]=y
   refine .az ?_
   exact ⟨λaT=>⟨by omega,of_decide_eq_true aT⟩,λaT=>decide_eq_true aT.2⟩
  ·obtain ⟨bc,h1⟩:=ab.1 h
   have hl:k - 1<l.length:=by omega
   rw [List.getElem?_eq_getElem hl] at h1
   have J:x∈l:=by rw [<- h1]; exact List.getElem_mem hl
   exact .az ⟨ao,by omega,λy=>⟨.inl,λh=>h.elim id λe=>e ▸ J⟩⟩
  ·have ez:∀ (i:Nat) (hi:i<l.length),i<k->iq l[i] x=true:=by
    intro i hi tv
    have hl:k - 1<l.length:=by omega
    have l9:=l9 (by omega)
    have aN:l[k - 1]?.getD default≠x:=λe=>by rw [ab.2 ⟨by omega,e⟩] at h; cases h
    rw [List.getElem?_eq_getElem hl] at l9 aN
    simp only [Option.getD_some] at l9 aN
    have gQ:iq l[k - 1] x=true:=by
     cases b9:iq l[k - 1] x with
     | true=>rfl
     | false=>exact absurd (zT.jR _ _ b9 l9) aN
    by_cases e:i=k - 1
    ·subst e; exact gQ
    ·exact zT.swo.trans _ _ _ (Im ao hi hl (by omega)) gQ
   refine .aK (Ξ:=λz=>z=l.take k) (Tot.sub ⟨by omega,by omega,by omega⟩ (by simp)) λz bG=>?_
   subst bG
   refine .aK (Ξ:=λ_=>True) (Tot.ap (by simp [lim]; omega) trivial) λ_ _=>.aK (Ξ:=λ_=>True) (Tot.ap (by simp [lim]; omega) trivial) λ_ _=>?_
   refine .aK (Ξ:=λz=>z=l.drop k) (Tot.sub ⟨by omega,by omega,by omega⟩ ?_) λz bG=>?_
   ·rw [List.take_of_length_le]
    ·congr 1
    ·rw [List.length_drop]; omega
   subst bG
   refine .aK (Ξ:=λ_=>True) (Tot.ap (by simp [lim]; omega) trivial) λ_ _=>.az ?_
   rw [List.nil_append]
   refine ⟨?_,?_,?_⟩
   ·have h1:∀ a∈l.take k,iq a x=true:=by
     intro a bg
     obtain ⟨i,hi,rfl⟩:=List.mem_iff_getElem.1 bg
     rw [List.length_take] at hi
     rw [List.getElem_take]
     exact ez i (by omega) (by omega)
    have al:∀ a∈l.drop k,iq x a=true:=by
     intro a bg
     obtain ⟨i,hi,rfl⟩:=List.mem_iff_getElem.1 bg
     rw [List.length_drop] at hi
     rw [List.getElem_drop]
     exact qm (k+i) (by omega) (by omega)
    unfold fX
    rw [List.append_assoc,List.pairwise_append]
    refine ⟨List.Pairwise.sublist (List.take_sublist k l) ao,?_,λa bg b aI=>?_⟩
    ·rw [List.singleton_append,List.pairwise_cons]
     exact ⟨al,List.Pairwise.sublist (List.drop_sublist k l) ao⟩
    ·rcases List.mem_append.1 aI with aI | aI
     ·rw [List.mem_singleton.1 aI]; exact h1 a bg
     ·exact zT.swo.trans _ _ _ (h1 a bg) (al b aI)
   ·simp only [List.length_append,List.length_take,List.length_drop,List.length_cons,List.length_nil]; omega
   ·intro y
    rw [List.append_assoc,List.mem_append,List.mem_append,List.mem_singleton]
    have hm:y∈l↔y∈l.take k\/y∈l.drop k:=by
     rw [<- List.mem_append,List.take_append_drop]
    rw [hm]
    constructor
    ·rintro (h | h | h)
     ·exact .inl (.inl h)
     ·exact .inr h
     ·exact .inl (.inr h)
    ·rintro ((h | h) | h)
     ·exact .inl h
     ·exact .inr (.inr h)
     ·exact .inr (.inl h)
end Go.Proofs
