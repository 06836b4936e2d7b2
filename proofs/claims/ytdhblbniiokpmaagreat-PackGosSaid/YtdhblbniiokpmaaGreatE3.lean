/-
  Parts of the proof that the last text states. No condition of their own.
-/
import Derived.ChangeAt
import Derived.ChangeOld
import Derived.ChangeSame
import Derived.Deep.Draws
import Derived.Deep.LoopGhost
import Derived.Deep.Slices
import Derived.Ground.SlsfProg
import Derived.KernelRfl
import Derived.Laws.CopyRow
import Derived.Laws.Externs
import Derived.Lib.SliceRun
import Derived.Lib.SlicesCompact
import Derived.Lib.Walk
import Derived.Maps.OwnIn
import Derived.ReadAgain
import Derived.RowKit3
import Derived.Shelf.RegionOpenPlain
import Derived.Shelf.SlGeneric
import Derived.Shelf.SlLaysQ
import Derived.Shelf.SlSortCmp.NoneTotal
import Derived.Shelf.SlicesE.Kit
import Derived.Shelf.SlicesQ.Load
import Derived.Sort.WalkB12
import Derived.StringKeys
import Derived.Test.YtdhblbniiokpmaaGreatRows
import Derived.WalkKit
import Derived.WideShapes
import Derived.Test.YtdhblbniiokpmaaGreatE2
namespace Go.Own
open Go Go.RowKit Go.ChangeShapes Go.WideShapes Go.Deep
variable {α β K4:Type}{P:Program}
abbrev tq (w:World) (y:ab) (u:Value):Prop:=R w (λb=>b<w.heap.size) (λ_ _=>False) y u (λ_=>False)
def mM (w:World) (ys:List ab) (cs:List Value):Prop :=
 ys.length=cs.length/\∀ (k:Nat) (y:ab) (u:Value),ys[k]?=some y->cs[k]?=some u->u.oneCell'=true/\tq w y u
theorem mM.nil {w:World}:mM w [] []:=⟨rfl,λ_ _ _ h=>by simp at h⟩
theorem mM.one {w:World}{y:ab}{u:Value}(h1:u.oneCell'=true) (h:tq w y u):mM w [y] [u] :=
 ⟨rfl,λk y' wb ax hu=>by
  cases k with
  | zero=>simp at ax hu; subst ax hu; exact ⟨h1,h⟩
  | succ k=>simp at ax⟩
theorem mM.app {w:World}{ys yv:List ab}{cs jI:List Value}(h:mM w ys cs) (af:mM w yv jI):mM w (ys++yv) (cs++jI):=by
 refine ⟨by simp [h.1,af.1],λk y u ax hu=>?_⟩;by_cases hk:k<ys.length
 ·rw [List.getElem?_append_left hk] at ax;rw [List.getElem?_append_left (h.1 ▸ hk)] at hu;exact h.2 k y u ax hu
 ·rw [List.getElem?_append_right (by omega)] at ax;rw [List.getElem?_append_right (by have:=h.1; omega),<- h.1] at hu;exact af.2 _ y u ax hu
structure lv (P:Program) (e:bJ α) (t:TypeId) (ok:α->Prop):Prop where
 z:P.cellsOf t=e.z
 go:∀ {H:Type}{enc:TypeId × Value->H}{w:World}{n:Nat}{cs:List Value}{x:DataW H × List MemPlace},
  DataW.trod enc P w 0 (λ_=>true) true n t cs=some x->∃ a,ok a/\mM w (e.cells a) cs
theorem lv.int {e:bJ Int}{t:TypeId}{k:IntKind}(aw:P.underlying t=some (.int k)) (aY:P.cellsOf t=e.z) (he:∀ n,e.cells n=[.lit (.int k n)]) :
  lv P e t (λn=>(Lit.int k n).wf=true):=by
 refine ⟨aY,λh=>?_⟩;obtain ⟨n,rfl,_,hw⟩:=DataW.trod_int aw h;exact ⟨n,hw,he n ▸ mM.one rfl (.lit rfl λ_ h=>h)⟩
theorem lv.bool {e:bJ Bool}{t:TypeId}(aw:P.underlying t=some .bool) (aY:P.cellsOf t=e.z) (he:∀ n,e.cells n=[.lit (.bool n)]) :
  lv P e t (λ_=>True):=by
 refine ⟨aY,λh=>?_⟩;obtain ⟨n,rfl,_⟩:=DataW.trod_bool aw h;exact ⟨n,trivial,he n ▸ mM.one rfl (.lit rfl λ_ h=>h)⟩
theorem PE (e:bJ α) (aY:0<e.z):∀ (l:List α) (k:Nat) (y:ab),(bo e l)[k]?=some y->∃ a,l[k / e.z]?=some a/\(e.cells a)[k % e.z]?=some y
 | [],k,y,h=>by simp [bo] at h
 | a::l,k,y,h=>by
  have he:bo e (a::l)=e.cells a++bo e l:=by simp [bo]
  rw [he] at h;by_cases hk:k<e.z
  ·rw [List.getElem?_append_left (by rw [e.len]; exact hk)] at h;exact ⟨a,by simp [Nat.div_eq_of_lt hk],by rw [Nat.mod_eq_of_lt hk]; exact h⟩
  ·rw [List.getElem?_append_right (by rw [e.len]; omega),e.len] at h;obtain ⟨b,h1,af⟩:=PE e aY l (k - e.z) y h;have aS:k / e.z=(k - e.z) / e.z+1:=by rw [Nat.div_eq_sub_div aY (by omega)]
   refine ⟨b,by rw [aS]; simpa using h1,?_⟩;rw [Nat.mod_eq_sub_mod (by omega)]; exact af
theorem lv.slice {e:bJ α}{t F8:TypeId}{ok:α->Prop}(h:lv P e F8 ok) (aw:P.underlying t=some (.slice F8)) (aY:P.cellsOf t=1) (sQ:0<e.z) :
  lv P (bp e) t (λl=>l.length<=maxLen/\∀ x∈l,ok x):=by
 classical
 refine ⟨aY,λ{H enc w n cs x} ao=>?_⟩;rcases open_slice aw ao with ⟨rfl,rfl⟩ | ⟨a,len,cap,m,cF,D,p_,rfl,av,ak,hm,IH,rfl,J⟩
 ·exact ⟨[],⟨by simp,by simp⟩,mM.one rfl (.hF λ_ h=>h)⟩
 ·have Vy:m=cap:=by simpa using IH
  subst Vy;have hex:∀ i,i<len->∃ q:α × List Value,ok q.1/\mM w (e.cells q.1) q.2/\w.cells? 0 (a.add (i * P.cellsOf F8)) (P.cellsOf F8)=some q.2:=λi hi=>by
   obtain ⟨cs',h1,af⟩:=J i (by omega);obtain ⟨b,nC,gH⟩:=h.go af;exact ⟨(b,cs'),nC,gH,h1⟩
  by_cases aR:len=0
  ·subst aR;exact ⟨[],⟨by simp,by simp⟩,mM.one rfl (.hF λ_ h=>h)⟩
  ·obtain ⟨De,_⟩:=hex 0 (by omega)
   haveI:Inhabited (α × List Value):=⟨De⟩
   obtain ⟨f,aW⟩:=choose_lt hex;have hlen:((List.range len).map λi=>(f i).1).length=len:=by simp
   have oc:∀ (i:Nat) (b:α),((List.range len).map λi=>(f i).1)[i]?=some b->i<len/\b=(f i).1:=λi b hi=>by
    have aT:=(List.getElem?_eq_some_iff.1 hi).1;simp at aT;simp [aT] at hi;exact ⟨aT,hi.symm⟩
   have je:a.spot=none/\a.block<w.heap.size:=by
    obtain ⟨_,_,aI⟩:=aW 0 (by omega);obtain ⟨_,ID,cH⟩:=World.cells?_some aI;have ei:=cH 0 (by rw [h.z]; exact sQ);simp only [Nat.zero_mul,Addr.add,if_true] at ei;have:0<(f 0).2.length:=by rw [ID,h.z]; exact sQ
    rw [List.getElem?_eq_getElem this] at ei;unfold World.cell? at ei
    split at ei
    ·rename_i bY;refine ⟨?_,(Array.getElem?_eq_some_iff.1 bY).1⟩;cases aC:a.spot with
     | none=>rfl
     | some s=>simp [aC] at ei
    ·cases ei
   have key:∀ (k:Nat) (y:ab),(bo e ((List.range len).map λi=>(f i).1))[k]?=some y->∃ u,w.cell? ⟨a.block,a.off+k,none⟩=some u/\u.oneCell'=true/\tq w y u:=λk y hk=>by
    obtain ⟨b,nC,gH⟩:=PE e sQ _ k y hk;obtain ⟨hi,rfl⟩:=oc _ _ nC;obtain ⟨_,af,aI⟩:=aW _ hi;obtain ⟨_,ID,cH⟩:=World.cells?_some aI;have NU:k % e.z<e.z:=Nat.mod_lt _ sQ;have ei:=cH (k % e.z) (by rw [h.z]; exact NU);rw [Deep.add_add,h.z] at ei;have fW:k / e.z * e.z+k % e.z=k:=by rw [Nat.mul_comm]; exact Nat.div_add_mod k e.z
    rw [fW] at ei;have aT:k % e.z<(f (k / e.z)).2.length:=by rw [ID,h.z]; exact NU
    rw [List.getElem?_eq_getElem aT] at ei;have aP:a.add k=⟨a.block,a.off+k,none⟩:=by
     unfold Addr.add;split
     ·rename_i TC; subst TC; cases a; simp at je ⊢; exact je.1
     ·rfl
    rw [aP] at ei;exact ⟨_,ei,af.2 _ _ _ gH (List.getElem?_eq_getElem aT)⟩
   refine ⟨(List.range len).map λi=>(f i).1,⟨by rw [hlen]; omega,λy ax=>?_⟩,mM.one rfl ?_⟩
   ·obtain ⟨i,hi,rfl⟩:=List.mem_map.1 ax;exact (aW i (List.mem_range.1 hi)).1
   ·show tq w (.bm e.z _ _) _;rw [hlen];refine .bm (us:=λk=>(w.cell? ⟨a.block,a.off+k,none⟩).getD .nilFunc) (λ_ h=>h) ak je.2 je.1 (by rw [nm,hlen]) (λk y hk=>?_) (λk y hk=>?_) (λk y hk=>?_)
    ·obtain ⟨u,h1,af,aI⟩:=key k y hk;simp only [h1,Option.getD_some]; exact af
    ·obtain ⟨u,h1,af,aI⟩:=key k y hk;simp only [h1,Option.getD_some]
    ·obtain ⟨u,h1,af,aI⟩:=key k y hk;simp only [h1,Option.getD_some]; exact aI
def Bp (P:Program):Nat->List Field->List TypeId->Bool
 | _,[],[]=>true
 | off,f::fs,t::ts=>decide (f.type=t)&&decide (f.offset=off)&&Bp P (off+P.cellsOf t) fs ts
 | _,_,_=>false
def Ds (P:Program) (t:TypeId) (ts:List TypeId):Bool :=
 match P.underlying t with
 | some (.struct fs)=>Bp P 0 fs.toList ts&&decide (P.cellsOf t=(ts.map P.cellsOf).sum)
 | _=>false
structure yx (P:Program) (cells:β->List ab) (ts:List TypeId) (ok:β->Prop):Prop where
 go:∀ {H:Type}{enc:TypeId × Value->H}{w:World}{n:Nat}{cs:List Value}{fs:List Field}{off:Nat},Bp P off fs ts=true->cs.length=off+(ts.map P.cellsOf).sum ->
  (∀ (i:Nat) (f:Field),fs[i]?=some f->∃ x,DataW.trod enc P w 0 (λ_=>true) true n f.type ((cs.drop f.offset).take (P.cellsOf f.type))=some x) ->
  ∃ b,ok b/\mM w (cells b) (cs.drop off)
theorem yx.nil:yx P (λ_:Unit=>[]) [] (λ_=>True) :=
 ⟨λ{H enc w n cs fs off} _ ak _=>⟨(),trivial,by rw [List.drop_eq_nil_of_le (by simp at ak; omega)]; exact mM.nil⟩⟩
theorem yx.cons {e:bJ α}{t:TypeId}{ts:List TypeId}{ok:α->Prop}{cells:β->List ab}{O8:β->Prop}(h:lv P e t ok) (ak:yx P cells ts O8) :
  yx P (λp:α × β=>e.cells p.1++cells p.2) (t::ts) (λp=>ok p.1/\O8 p.2):=by
 refine ⟨λ{H enc w n cs fs off} fm hlen ao=>?_⟩;cases fs with
 | nil=>simp [Bp] at fm
 | cons f fs =>
  simp only [Bp,Bool.and_eq_true,decide_eq_true_eq] at fm;obtain ⟨⟨rfl,rfl⟩,fm⟩:=fm;obtain ⟨x,J⟩:=ao 0 f rfl;obtain ⟨a,aP,aZ⟩:=h.go J;obtain ⟨b,av,Uo⟩:=ak.go (off:=f.offset+P.cellsOf f.type) (cs:=cs) fm (by rw [hlen]; simp [Nat.add_assoc]) (λi eD vg=>ao (i+1) eD (by simpa using vg));refine ⟨(a,b),⟨aP,av⟩,?_⟩;have:cs.drop f.offset=(cs.drop f.offset).take (P.cellsOf f.type)++cs.drop (f.offset+P.cellsOf f.type):=by
   rw [<- List.drop_drop]; exact (List.take_append_drop _ _).symm
  rw [this];exact aZ.app Uo
theorem lv.struct {e:bJ K4}{t:TypeId}{ts:List TypeId}{cells:β->List ab}{ok:β->Prop}(h:yx P cells ts ok) (mk:β->K4) (un:K4->β) (N_:∀ b,un (mk b)=b) (aa:∀ b,e.cells (mk b)=cells b) (aw:Ds P t ts=true) (aY:P.cellsOf t=e.z) :
  lv P e t (λs=>ok (un s)):=by
 refine ⟨aY,λ{H enc w n cs x} ao=>?_⟩;unfold Ds at aw
 split at aw
 ·rename_i fs hu;simp only [Bool.and_eq_true,decide_eq_true_eq] at aw;obtain ⟨xs,cF,rfl,rfl,ak,Jd,J⟩:=DataW.trod_struct hu ao;obtain ⟨b,av,aZ⟩:=h.go (w:=w) (off:=0) (cs:=cs) (fs:=fs.toList) (n:=cF) (enc:=enc) aw.1 (by rw [ak,aw.2]; simp) (λi f aW=>by
   have vg:fs[i]?=some f:=by simpa using aW
   have hi:i<xs.length:=by rw [Jd]; exact (Array.getElem?_eq_some_iff.1 vg).1
   exact ⟨xs[i],by rw [J i f vg,List.getElem?_eq_getElem hi]⟩)
  exact ⟨mk b,by rw [N_]; exact av,by rw [aa]; simpa using aZ⟩
 ·cases aw
inductive AO (w:World):ab->Value->Prop
 | mk {y:ab}{v:Value}(h:tq w y v):AO w y v
theorem lv.one {e:bJ α}{t:TypeId}{ok:α->Prop}{g:α->ab}(h:lv P e t ok) (he:∀ a,e.cells a=[g a]) {H:Type}{enc:TypeId × Value->H}{w:World}{v:Value}{d:DataW H}{p:List MemPlace}(hv:v.cells.toList=[v])
  (aw:DataW.Trod enc P w 0 (λ_=>true) true t v d p):∃ a,ok a/\AO w (g a) v:=by
 obtain ⟨n,aF⟩:=aw;obtain ⟨a,aP,aZ⟩:=h.go aF;refine ⟨a,aP,.mk ?_⟩;rw [hv,he] at aZ;exact (aZ.2 0 _ _ rfl rfl).2
theorem lv.O9 {e:bJ Int}{t:TypeId}{k:IntKind}{ok:Int->Prop}{g:Int->ab}(h:lv P e t ok) (he:∀ a,e.cells a=[g a]) (hu:P.underlying t=some (.int k)) {H:Type}{enc:TypeId × Value->H}{w:World}{v:Value}{d:DataW H}{p:List MemPlace}{base:Nat}(hv:Value.okWide P w .any base t v)
  (aw:DataW.Trod enc P w 0 (λ_=>true) true t v d p):∃ a,ok a/\AO w (g a) v:=by
 obtain ⟨n,rfl⟩:=okWide_int hu hv;exact h.one he rfl aw
theorem lv.Xn {e:bJ α}{t:TypeId}{ok:α->Prop}{ts:List TypeId}(h:lv P e t ok) (fm:Ds P t ts=true) {H:Type}{enc:TypeId × Value->H}{w:World}{v:Value}{d:DataW H}{p:List MemPlace}{base:Nat}(hv:Value.okWide P w .any base t v)
  (aw:DataW.Trod enc P w 0 (λ_=>true) true t v d p):∃ a,ok a/\AO w (.agg (e.cells a)) v:=by
 have hu:∃ fs,P.underlying t=some (.struct fs):=by
  unfold Ds at fm
  split at fm
  ·exact ⟨_,by assumption⟩
  ·cases fm
 obtain ⟨fs,hu⟩:=hu;obtain ⟨cs,rfl,hE⟩:=okWide_struct hu hv;obtain ⟨n,aF⟩:=aw;obtain ⟨a,aP,aZ⟩:=h.go aF;refine ⟨a,aP,.mk ?_⟩;have jM:mM w (e.cells a) cs.toList:=aZ;refine .agg (Fs:=λ_ _=>False) (by simpa using jM.1) (λk u hu=>?_) (λk x u J hu=>(jM.2 k x u J (by simpa using hu)).2) (λ_ _ _ _ _ h=>h.elim) (λc=>⟨λh=>h.elim,λ⟨_,_,h⟩=>h⟩);have hk:k<(e.cells a).length:=by rw [jM.1]; simpa using (Array.getElem?_eq_some_iff.1 hu).1
 exact (jM.2 k _ u (List.getElem?_eq_getElem hk) (by simpa using hu)).1
inductive uR (w:World):List ab->List Value->Prop
 | nil:uR w [] []
 | cons {y:ab}{v:Value}{ys:List ab}{vs:List Value}(h:AO w y v) (aC:uR w ys vs):uR w (y::ys) (v::vs)
theorem uR.get {w:World}{ys:List ab}{vs:List Value}(h:uR w ys vs):ys.length=vs.length/\∀ (k:Nat) (y:ab),ys[k]?=some y->∃ v,vs[k]?=some v/\tq w y v:=by
 induction h with
 | nil=>exact ⟨rfl,λk y h=>by simp at h⟩
 | cons h _ aU =>
  refine ⟨by simp [aU.1],λk y ax=>?_⟩;cases k with
  | zero =>
   simp at ax; subst ax;obtain ⟨h⟩:=h;exact ⟨_,rfl,h⟩
  | succ k=>simpa using aU.2 k y (by simpa using ax)
theorem uR.YM {w:World}{ys:List ab}{vs:List Value}(h:uR w ys vs) (au:ys.all (λy=>match y with | .bM ..=>false | _=>true)=true) :
  cG w (λb=>b<w.heap.size) vs.toArray (qc ys) (λ_=>cy):=by
 refine ⟨λt x J=>?_,λ_ _ _ h=>h,λ_ _ _ h=>h.elim,λ_ _ h=>h.elim,λ_ h=>h,λt t' z p n m new bE cF m' c5 h1 _=>?_⟩
 ·obtain ⟨v,hv,aZ⟩:=h.get.2 t x J;exact ⟨v,by simpa using hv,.tree (aZ.frame (λ_ _=>rfl) (λ_ h=>h) (λ_ _ h=>h.elim) (λ_ _=>rfl))⟩
 ·have:=List.all_eq_true.1 au _ (List.mem_of_getElem? h1);cases this
structure Lc (w w':World):Prop where
 kept:∀ may:MemPlace->Prop,w.keptBut w' may
 dN:∀ a,a.block<w.heap.size->w'.frozen? a=w.frozen? a
theorem bV.Zj {f:FuncId}{ys:List ab}{vs:List Value}{outs:List (Option ab)}{r:Value}(aa:bV P f ys outs (.lit r)) (w:World) (h:uR w ys vs) (au:ys.all (λy=>match y with | .bM ..=>false | _=>true)=true) :
  Calls P f vs.toArray w λe w'=>e=.returned r/\Lc w w'/\∀ i:Nat,i<w.heap.size->w'.heap[i]?=w.heap[i]?:=by
 have:=aa.2 w _ vs _ h.get.1.symm (h.YM au);refine this.mono ?_;rintro e w' ⟨v,I',b7,rfl,bl,b1⟩;obtain ⟨u,hu,aZ⟩:=bl.rel outs.length (.lit r) (by simp [kV]);have ak:outs.length=vs.length:=by rw [aa.1]; exact h.get.1
 have EP:u=v:=by
  rw [ak] at hu;simpa using hu.symm
 subst EP;have hv:=(aZ.gJ (by simp)).hA.1;subst hv;have av:∀ i:Nat,i<w.heap.size->w'.heap[i]?=w.heap[i]?:=λi hi=>b1.eS.block i hi λ⟨_,h⟩=>h;have hk:World.keptBut w w' (λ_=>False):=⟨b1.eS.os,b1.eS.output,λi hi=>by
  rw [av i hi];exact (World.keptBut_refl w (λ_=>False)).2.2 i hi⟩
 exact ⟨rfl,⟨λmay=>World.keptBut_mono (λ_ f=>f.elim) hk,b1.eS.dN⟩,av⟩
theorem Qn {H:Type}{enc:TypeId × Value->H}{w w':World}{base:Nat}{sp:Nat->Bool}{held:Bool}(av:∀ i:Nat,i<w.heap.size->w'.heap[i]?=w.heap[i]?) :
  ∀ {ts:List TypeId}{vs:List Value}{jI:List (DataW H)}{ps:List MemPlace},DataW.TrodAll enc P w base sp held ts vs jI ps->DataW.TrodAll enc P w' base sp held ts vs jI ps
 | [],[],[],_,h=>h
 | _::_,_::_,_::_,_,⟨p,q,⟨n,aF⟩,af,e⟩=>by
  refine ⟨p,q,⟨n,DataW.trod_carry n _ _ _ aF λx J=>?_⟩,Qn av af,e⟩;have aT:=DataW.trod_lt n _ _ _ aF x J;cases x with
  | cell b off =>
   show w'.cell? _=w.cell? _;exact World.cell?_of_block (av b aT)
  | map b=>exact av b aT
theorem RA {H:Type}{enc:TypeId × Value->H}{w w':World}(ak:laidOutB P=true) (hm:mapsRowed P=true)
  (aY:((List.range P.types.size).all λt=>match P.underlying t with | some (.slice e)=>decide (0<P.cellsOf e) | _=>true)=true)
  (av:∀ i:Nat,i<w.heap.size->w'.heap[i]?=w.heap[i]?) {ts:List TypeId}{vs:List Value}{jI:List (DataW H)}{ps:List MemPlace}(aw:ts.all (λt=>decide (t<P.types.size))=true)
  (h:DataW.TrodAll enc P w 0 (λ_=>true) true ts vs jI ps) {sp:Nat->Bool}(je:∀ p∈ps,sp p.block=true):DataW.TrodAll enc P w' 0 sp true ts vs jI ps :=
 (Qn av h).respare (kids_rows ak hm) (slices_full_of P aY) (λt h=>of_decide_eq_true (List.all_eq_true.1 aw t h)) je
end Go.Own
namespace Go.Own
open Go
section
variable {α β:Type}{P:Program}{N:c6}{g g1:aM}{p:Place}{m:Int}{a b:Operand}{t:TypeId}
theorem ab.LN:∀ (l:List Nat) {x nd:ab}{k:Nat}{c:ab},x.at l=some nd->nd.kids[k]?=some c->x.at (l++[k])=some c
 | [],x,nd,k,c,h,hk=>by
  simp only [ab.at,Option.some.injEq] at h;subst h;simp [ab.at,hk]
 | j::l,x,nd,k,c,h,hk=>by
  simp only [ab.at] at h;cases ah:x.kids[j]? with
  | none=>rw [ah] at h; cases h
  | some y =>
   rw [ah] at h;simp only [List.cons_append,ab.at,ah];exact ab.LN l h hk
theorem ab.PT:∀ (l:List Nat) {x nd:ab}{k:Nat}{c:ab}(y:ab),x.at l=some nd->nd.kids[k]?=some c->x.setAt (l++[k]) y=x.setAt l (nd.v' k y)
 | [],x,nd,k,c,y,h,hk=>by
  simp only [ab.at,Option.some.injEq] at h;subst h;simp [ab.setAt,hk]
 | j::l,x,nd,k,c,y,h,hk=>by
  simp only [ab.at] at h;cases ah:x.kids[j]? with
  | none=>rw [ah] at h; cases h
  | some z =>
   rw [ah] at h;simp only [List.cons_append,ab.setAt,ah];rw [ab.PT l y h hk]
theorem Mu {en:bJ α}{L:List α}{jj:α}{o:Nat}{c:ab}(h:idx L m=some jj) (aa:(en.cells jj)[o]?=some c):(aj en L).kids[m.toNat * en.z+o]?=some c:=Kj en h aa
theorem u0 {en:bJ α}{L:List α}{jj:α}{r o:Nat}{path:List Nat}{c:ab}(au:bD g ⟨r,path⟩=some (aj en L)) (h:idx L m=some jj) (aa:(en.cells jj)[o]?=some c):bD g ⟨r,path++[m.toNat * en.z+o]⟩=some c:=by
 unfold bD at au ⊢;simp only at au ⊢;cases J:g r with
 | none=>rw [J] at au; cases au
 | some x =>
  rw [J] at au;exact ab.LN path au (Mu h aa)
theorem Yq {en:bJ α}{L:List α}{jj:α}{r o:Nat}{path:List Nat}{c:ab}(y:ab) (au:bD g ⟨r,path⟩=some (aj en L)) (h:idx L m=some jj) (aa:(en.cells jj)[o]?=some c) :
  cv g ⟨r,path++[m.toNat * en.z+o]⟩ y=cv g ⟨r,path⟩ (.own en.z L.length ((bo en L).set (m.toNat * en.z+o) y)):=by
 funext s;unfold cv;simp only;split
 ·rename_i e;subst e;unfold bD at au;simp only at au;cases J:g s with
  | none=>rfl
  | some x =>
   rw [J] at au;simp only [Option.map_some,Option.some.injEq];rw [ab.PT path y au (Mu h aa)];rfl
 ·rfl
theorem YK (l:List ab) (k:Nat) (x c:ab):e5 (l.set k x) k [c]=e5 l k [c]:=by
 unfold e5;simp only [List.length_singleton];rw [List.take_set,List.drop_set];rw [List.set_eq_of_length_le (by simp; omega)];simp
theorem bk.Dr {gj:Oper}{en:bJ α}{en2:bJ β}{L:List α}{jj y2:α}{qX M R:List β}{o s JQ:Nat}{new c5:List ab}{x2 y0:ab}{G2:List (Nat × ab)}
  (a1:gj.op=.store t a b) (aS:gj.dst=none) (aP:Rd g a (.ptr p (m.toNat * en.z+o))) (av:Rd g b (.a6 en2.z ⟨s,[]⟩ (qX.length+JQ)))
  (qt:g s=some (.bM en2.z ⟨p.root,p.path++[m.toNat * en.z+o]⟩ qX.length JQ new)) (au:bD g p=some (aj en L)) (h:idx L m=some jj) (l6:(en.cells jj)[o]?=some (aj en2 qX)) (bg:Nat.beq p.root s=false)
  (h1:e6 (cv (cv g ⟨s,[]⟩ .dead) p (.own en.z L.length ((bo en L).set (m.toNat * en.z+o) .dead))) new c5 g1)
  (re:fo c5 (bo en2 M)) (hm:M.length=JQ) (aZ:qX++M=R) (aY:hl P t 1=true)
  (vn:bD g1 p=some (.own en.z L.length ((bo en L).set (m.toNat * en.z+o) .dead)))
  (he:e5 (en.cells jj) o [aj en2 R]=en.cells y2) (hlen:Nat.ble (o+1) en.z=true)
  (iu:cv g1 p (aj en (L.set m.toNat y2)) p.root=some x2) (ao:(get G2 p.root).isSome=true) (rk:g1 p.root=some y0) [e9:cg y0] (c_:kG g1 (get G2) p.root x2 G2):bk P N g gj (get G2):=by
 subst hm aZ;have BP:=Nat.le_of_ble_eq_true hlen;have je:=Ki en (cs':=[aj en2 (qX++M)]) h he (by simpa using BP);have NP:(L.set m.toNat y2).length=L.length:=List.length_set;have EL:=Nat.ne_of_beq_eq_false bg;have BF:bD g ⟨p.root,p.path++[m.toNat * en.z+o]⟩=some (aj en2 qX):=u0 (g:=g) (r:=p.root) (path:=p.path) au h l6;have VH:bD (cv g ⟨s,[]⟩ .dead) p=some (aj en L):=by
  unfold bD at au ⊢;rw [uG (p:=⟨s,[]⟩) (λe=>EL e)]; exact au
 have aw:e6 g [.a6 en2.z ⟨s,[]⟩ (qX.length+M.length)] [.own en2.z (qX.length+M.length) (bo en2 qX++c5)] g1:=by
  refine .h' qt BF bg ?_ .nil;rw [Yq .dead (r:=p.root) (path:=p.path) VH h l6];exact h1
 have hk:m.toNat * en.z+o+1<=L.length * en.z:=by
  obtain ⟨De,ln,_⟩:=pL h;have af:m.toNat+1<=L.length:=by omega
  calc m.toNat * en.z+o+1<=m.toNat * en.z+en.z:=by omega
   _=(m.toNat+1) * en.z:=by rw [Nat.add_mul]; omega
   _<=L.length * en.z:=Nat.mul_le_mul_right _ af
 refine .store a1 aS aP.bt av.bt aw.take (y':=aj en2 (qX++M)) ?_ rfl aY (p:=p) (nd:=.own en.z L.length ((bo en L).set (m.toNat * en.z+o) .dead)) (z:=en.z) (n:=L.length) (cs:=(bo en L).set (m.toNat * en.z+o) .dead) vn (.inl rfl) ?_ (by simp) (λt x J=>?_) (λt x J y ax=>?_) (λt z q n m new J=>?_) (by intro e; rw [e] at ao; cases ao)
 ·rw [<- mC]; exact (re.pre _).own
 ·simp only [List.length_singleton,List.length_set,nm]; exact hk
 ·have ft:(ab.own en.z L.length ((bo en L).set (m.toNat * en.z+o) .dead)).e5 (m.toNat * en.z+o) [aj en2 (qX++M)]=aj en (L.set m.toNat y2):=by
   show ab.own en.z L.length (e5 ((bo en L).set (m.toNat * en.z+o) .dead) (m.toNat * en.z+o) [aj en2 (qX++M)])=_;unfold aj at je ⊢;rw [YK,je,NP]
  rw [ft];rcases c_.spec t x J with ⟨h1,af,_⟩ | ⟨h1,af,_⟩
  ·rw [uG h1]; exact af
  ·subst h1 af; exact iu
 ·rcases c_.spec t x J with ⟨h1,af,aI⟩ | ⟨h1,af,aI⟩
  ·rw [af] at ax; cases ax;rcases aI with aI | ⟨aI,c2,rfl⟩
   ·exact aI.Kg
   ·refine jm.ref (by cases aI; rfl) ⟨aI.O6,aI.clear ?_,aI.Ft⟩;intro e;obtain ⟨hq,pp⟩:=p;simp only at e;subst e;simp only [cv,if_true,rk,Option.map_some,ab.setAt,Option.some.injEq] at iu;cases iu
  ·subst h1; rw [rk] at ax; cases ax; exact .bn e9.bn
 ·rcases c_.spec t _ J with ⟨_,_,aI | ⟨aI,_⟩⟩ | ⟨_,_,aI⟩
  ·exact aI.fA _ _ _ _ _ rfl
  ·exact aI.fA _ _ _ _ _ rfl
  ·cases aI
end
end Go.Own
/- Short forms for printed walks. -/
namespace Go.Own
open Go
section
variable {P:Program}{N:c6}{ops:Array Oper}{bd:List (List Nat)}{g g0:aM}{K:aM->Prop}{l:List Oper}{acc:Acc}{d i:Nat}{op:Op}{ty:TypeId}{pos:String}{after:Array Edge}{x:ab}
theorem al (au:ch P g op ty x) (hk:ar P N ops l (cV g d x) K) (bc:N.ok d=true:=by rfl) (aW:g d=none:=by rfl):ar P N ops (⟨some d,op,ty,pos,after,none⟩::l) g K:=.v au bc aW .none hk
theorem gr (au:cB P g op x) (hk:ar P N ops l (cV g d x) K) (bc:N.ok d=true:=by rfl) (aW:g d=none:=by rfl):ar P N ops (⟨some d,op,ty,pos,after,none⟩::l) g K:=.c au bc aW .none hk
theorem aD (bG:Nat) (au:ch P (jA bd g0 bG acc) op ty x) (hk:bz P N ops bd g0 i ((bG,d,some x)::acc) l K) (ah:Nat.beq ops.size (bG+l.length+1)=true:=by rfl) (aW:g0 d=none:=by rfl) (aF:acc.all (λe=>!Nat.beq e.2.1 d)=true:=by rfl) (bc:N.ok d=true:=by rfl) :
  bz P N ops bd g0 i acc (⟨some d,op,ty,pos,after,none⟩::l) K:=.v bG au ah aW aF bc .none hk
theorem iW (bG:Nat) (au:cB P (jA bd g0 bG acc) op x) (hk:bz P N ops bd g0 i ((bG,d,some x)::acc) l K) (ah:Nat.beq ops.size (bG+l.length+1)=true:=by rfl) (aW:g0 d=none:=by rfl) (aF:acc.all (λe=>!Nat.beq e.2.1 d)=true:=by rfl) (bc:N.ok d=true:=by rfl) :
  bz P N ops bd g0 i acc (⟨some d,op,ty,pos,after,none⟩::l) K:=.c bG au ah aW aF bc .none hk
end
instance {z n:Nat}{cs:List ab}:nt (.own z n cs):=⟨by simp⟩
def aH (a n:Nat) (l:List Nat):List Nat:=List.range' a n++l
end Go.Own
namespace Go.Own
open Go
section
variable {α:Type}{P:Program}{N:c6}{g:aM}{d r:Nat}{ty:TypeId}
instance {fn:Fn}{cs:List ab} [h:dp cs]:cg (.cW fn [] cs):=⟨.cW (by simp) h.bn⟩
theorem O.zM {fn:Fn}{caps:List Operand}{b:List ab}(av:Own.gn g caps=some b):ch P g (.makeFunc fn #[] caps.toArray) ty (.cW fn [] b):=.CJ (.makeFunc rfl (by simpa using av))
theorem View.cl {fn:Fn}{cs cs':List ab}(h:oG g cs cs'):View g (.cW fn [] cs) (.cW fn [] cs'):=.cW h.len h.get
theorem cB.gc {c:Operand}{xs:List Operand}{gq:Array TypeId}{f:FuncId}{ys caps:List ab}{outs:List (Option ab)}{res:ab}(aa:Rd g c (.cW (.func f) [] caps)) (J:qZ g xs ys) (gQ:bV P f (ys++caps) outs res) (aW:gN P f=true) (a1:sm outs=true) [w8:dp caps] [ao:cg res] :
  cB P g (.call { callee:=.value c,args:=xs.toArray,argTypes:=gq }) res:=by
 have e:=OY a1 gQ.1;refine .plain (first:=[]) (caps:=caps) (ys:=ys) aa.bt (by simpa using J.spec.1) aW (λy ax=>?_) ?_ ao.bn
 ·rw [List.nil_append] at ax;rcases List.mem_append.1 ax with h | h
  ·exact J.spec.2 y h
  ·exact w8.bn y h
 ·rw [List.nil_append,<- e]; exact gQ
theorem hJ.jw {o:Oper}{xs:List Operand}{gq:Array TypeId}{f:FuncId}{ys args:List ab}{res:ab}{en:bJ α}{L L':List α}{G2:List (Nat × ab)}(a1:o.op=.call { callee:=.value (.func f),args:=xs.toArray,argTypes:=gq }) (aS:o.dst=some d) (J:Own.gn g xs=some (.a6 en.z ⟨r,[]⟩ L.length::ys))
  (aC:g r=some (aj en L)) (hv:oG (get ((r,.dead)::G2)) ys args) (gQ:bV P f (aj en L::args) (some (aj en L')::args.map λ_=>none) res) (aW:gN P f=true) [ao:p7 res] [lM:p7 (aj en L')]
  (c_:Trim false (cv g ⟨r,[]⟩ .dead) (get ((r,.dead)::G2)) G2) (aO:get G2 d=none) (r9:Nat.beq r d=false) (Bw:Trim false (get ((r,aj en L')::G2)) (get ((r,aj en L')::G2)) G2) (bc:N.ok d=true) :
  hJ P N g o d (get ((d,res)::(r,aj en L')::G2)):=by
 have IS:r≠d:=Nat.ne_of_beq_eq_false r9;have Hn:get ((r,ab.dead)::G2) r=some .dead:=by simp [get]
 have mY:∀ x∈bo en L,cU x:=by
  intro x J;obtain ⟨a,_,aP⟩:=List.mem_flatMap.1 J;exact en.bn a x aP
 have gm:(bo en L).take (L.length * en.z)=bo en L:=List.take_of_length_le (by rw [nm]; exact Nat.le_refl _);have xA:hC (cv g ⟨r,[]⟩ .dead) (get ((r,.dead)::G2)):=by
  refine ⟨λt x h=>?_,λt x h=>?_,λt z q n m new h=>?_⟩
  all_goals
   simp only [get] at h
   split at h
  ·rename_i e; subst e; cases h; simp [cv,aC,ab.setAt]
  ·obtain ⟨⟨y,h1,_,aI⟩,_⟩:=c_.spec t x h; rw [<- aI rfl]; exact h1
  ·cases h; exact .bn .dead
  ·exact (c_.spec t x h).2.1
  ·cases h
  ·exact (c_.spec t _ h).2.2 _ _ _ _ _ rfl
 have put:qI (get ((r,.dead)::G2)) [(⟨r,[]⟩,aj en L')]=get ((r,aj en L')::G2):=by
  funext t;simp only [qI,cv,get];by_cases h:t=r
  ·simp [h,ab.setAt]
  ·simp [h]
 have xB:hC (get ((r,aj en L')::G2)) (get ((r,aj en L')::G2)):=by
  refine ⟨λt x h=>h,λt x h=>?_,λt z q n m new h=>?_⟩
  all_goals
   simp only [get] at h
   split at h
  ·cases h; exact .bn lM.lk.bn
  ·exact (Bw.spec t x h).2.1
  ·cases h
  ·exact (Bw.spec t _ h).2.2 _ _ _ _ _ rfl
 have ak:=hv.len;have rT:get ((d,res)::(r,aj en L')::G2)=cV (get ((r,aj en L')::G2)) d res:=by
  funext t;rw [sF]
 rw [rT];refine yD.ok (first:=[]) (caps:=[]) (ys:=.a6 en.z ⟨r,[]⟩ L.length::ys) (tk:=λk=>k == 0) (vw:=true) (outs:=some (aj en L')::args.map λ_=>none) (g1:=cv g ⟨r,[]⟩ .dead) (g2:=get ((r,.dead)::G2)) (g4:=get ((r,aj en L')::G2)) (l:=[(⟨r,[]⟩,aj en L')]) (ks:=λ_=>0) (xs0:=.a6 en.z ⟨r,[]⟩ L.length::ys.map λ_=>.dead) (xs1:=aj en L::ys.map λ_=>.dead) (args:=aj en L::args) (res:=res) a1 aS rfl (by simpa using J)
  ⟨aW,by simp,by simpa using ak,λk x h=>?_,?_,xA,λk x y J ax=>?_,gQ,by simpa using ao.lk,λk x h=>?_,λj p x ah=>?_,by simp,λi j hi ah _=>by simp at hi ah; omega,by rw [put]; exact xB⟩ ?_ bc wm.refl
 ·simp only [List.nil_append,List.append_nil] at h;cases k with
  | zero=>exact .inl h
  | succ k =>
   refine .inr ?_;simp only [List.getElem?_cons_succ] at h ⊢;rw [List.getElem?_map,h]; rfl
 ·have h1:Take (cv g ⟨r,[]⟩ .dead) ((bo en L).take (L.length * en.z)) (bo en L) (cv g ⟨r,[]⟩ .dead):=by rw [gm]; exact .bn mY
  refine .a6 (N:=L.length) (by simp [bD,aC,ab.at]) (Nat.le_refl _) h1 (.bn λx J=>?_);obtain ⟨_,_,rfl⟩:=List.mem_map.1 J;exact .dead
 ·simp only [List.nil_append,List.append_nil] at J;cases k with
  | zero=>simpa using ax
  | succ k =>
   simp only [List.getElem?_cons_succ] at J ax;exact ⟨rfl,hv.get k x y J ax⟩
 ·cases k with
  | zero=>simp only [List.getElem?_cons_zero,Option.some.injEq] at h; subst h; exact lM.lk
  | succ k =>
   simp only [List.getElem?_cons_succ,List.getElem?_map] at h;cases aP:args[k]? <;> rw [aP] at h <;> cases h
 ·cases j with
  | succ j=>simp at ah
  | zero =>
   simp only [List.getElem?_cons_zero,Option.some.injEq,Prod.mk.injEq] at ah;obtain ⟨rfl,rfl⟩:=ah;exact ⟨rfl,by simp [bD,Hn,ab.at],.inl ⟨en.z,L.length,bo en L,rfl,by simp [bD,aC,ab.at]⟩⟩
 ·simp only [get,if_neg (Ne.symm IS)]; exact aO
end
end Go.Own
namespace Go.Own
open Go Go.Proofs Go.Shelf Go.Lib Go.Sort
section
variable {P:Program}{w:World}
def zU {α:Type} [DecidableEq α] (lt:α->α->Bool) (l:List α):Bool :=
 l.all λa=>!lt a a&&l.all λb=>(lt a b||lt b a||decide (a=b))&&l.all λc=>(!(lt a b&&lt b c)||lt a c)&&(lt a b||lt b c||!lt a c)
def kx {α:Type}(fT:α->α->Option Int) (a b:α):Bool:=decide ((fT a b).getD 0<0)
def ins {α:Type}(lt:α->α->Bool) (x:α):List α->List α
 | []=>[x]
 | y::l=>if lt y x then y::ins lt x l else x::y::l
def h_ {α:Type}(lt:α->α->Bool):List α->List α
 | []=>[]
 | x::l=>ins lt x (h_ lt l)
theorem Jm {α:Type}(lt:α->α->Bool) (x:α):∀ l:List α,(ins lt x l).Perm (x::l)
 | []=>.refl _
 | y::l=>by
  unfold ins;split
  ·exact ((Jm lt x l).cons y).trans (.swap x y l)
  ·exact .refl _
theorem sX {α:Type}(lt:α->α->Bool):∀ l:List α,(h_ lt l).Perm l
 | []=>.refl _
 | x::l=>(Jm lt x _).trans ((sX lt l).cons x)
theorem Ou {α:Type}{lt:α->α->Bool}(bl:SWO lt) (x:α):∀ l:List α,l.Pairwise (λa b=>(!lt b a)=true)->(ins lt x l).Pairwise λa b=>(!lt b a)=true
 | [],_=>List.pairwise_singleton _ _
 | y::l,h=>by
  obtain ⟨h1,af⟩:=List.pairwise_cons.1 h;unfold ins;split
  ·rename_i aT;refine List.pairwise_cons.2 ⟨λz aY=>?_,Ou bl x l af⟩;rcases List.mem_cons.1 ((Jm lt x l).mem_iff.1 aY) with rfl | aY
   ·cases aa:lt z y with
    | false=>rfl
    | true=>have:=bl.trans _ _ _ aT aa; rw [bl.irrefl] at this; cases this
   ·exact h1 z aY
  ·rename_i aT;have aT:lt y x=false:=by simpa using aT
   refine List.pairwise_cons.2 ⟨λz aY=>?_,h⟩;rcases List.mem_cons.1 aY with rfl | aY
   ·rw [aT]; rfl
   ·have aY:=h1 z aY;simp only [Bool.not_eq_true'] at aY ⊢;exact bl.ntrans _ _ _ aY aT
theorem E4 {α:Type}{lt:α->α->Bool}(bl:SWO lt):∀ l:List α,(h_ lt l).Pairwise λa b=>(!lt b a)=true
 | []=>.nil
 | x::l=>Ou bl x _ (E4 bl l)
theorem Oz {α:Type}{lt:α->α->Bool}(bl:SWO lt) (dL:∀ x y,lt x y=false->lt y x=false->x=y) (l:List α):l.mergeSort (λx y=>!lt y x)=h_ lt l:=by
 refine List.Perm.eq_of_pairwise (le:=λx y=>(!lt y x)=true) (λa b _ _ h1 af=>?_) (List.pairwise_mergeSort (λa b c h1 af=>?_) (λa b=>?_) l) (E4 bl l) ((List.mergeSort_perm _ _).trans (sX lt l).symm)
 ·simp only [Bool.not_eq_true'] at h1 af;exact dL a b af h1
 ·simp only [Bool.not_eq_true'] at h1 af ⊢;exact bl.ntrans _ _ _ af h1
 ·cases h1:lt b a with
  | false=>rfl
  | true =>
   cases af:lt a b with
   | false=>rfl
   | true=>have:=bl.trans _ _ _ h1 af; rw [bl.irrefl] at this; cases this
theorem Ot {α β:Type}{lt:α->α->Bool}{lt':β->β->Bool}{f:α->β}(h:∀ a b,lt a b=lt' (f a) (f b)) (x:α):∀ l:List α,(ins lt x l).map f=ins lt' (f x) (l.map f)
 | []=>rfl
 | y::l=>by
  simp only [ins,List.map_cons,h];split
  ·rw [List.map_cons,Ot h x l]
  ·rfl
theorem E3 {α β:Type}{lt:α->α->Bool}{lt':β->β->Bool}{f:α->β}(h:∀ a b,lt a b=lt' (f a) (f b)):∀ l:List α,(h_ lt l).map f=h_ lt' (l.map f)
 | []=>rfl
 | x::l=>by simp only [h_,List.map_cons,Ot h,E3 h l]
def pX {α:Type} [DecidableEq α] (fT:α->α->Option Int) (l:List α):Option (List α) :=
 if (l.all λa=>l.all λb=>(fT a b).isSome)&&zU (kx fT) l&&decide (l.length<4611686018427387904) then some (h_ (kx fT) l) else none
theorem MT {w':World}(h:Fr w w' λ_=>False):∃ q os,w'=grow (w.drewN q) os:=by
 refine ⟨w'.drawn - w.drawn,w'.heap.extract w.heap.size w'.heap.size,?_⟩;obtain ⟨h1,af,aI,bK,cH,ei,mT⟩:=h;obtain ⟨au,acZ,wT,os,out⟩:=w';simp only at h1 af aI bK cH mT;subst h1 af aI;unfold grow World.drewN;simp only [World.mk.injEq,true_and,and_true];refine ⟨?_,by omega⟩;apply Array.ext_getElem?;intro k;rw [Array.getElem?_append];by_cases hk:k<w.heap.size
 ·rw [if_pos hk]; exact cH k hk λh=>h
 ·rw [if_neg hk,Array.getElem?_extract];by_cases fW:k<au.size
  ·rw [if_pos (by omega),show w.heap.size+(k - w.heap.size)=k by omega]
  ·rw [if_neg (by omega),Array.getElem?_eq_none (by omega)]
theorem PC (l:List Int):bo ai l=l.map ae:=by
 induction l with
 | nil=>rfl
 | cons a l aU =>
  show ai.cells a++bo ai l=_;rw [aU]; rfl
theorem P_ {vs:List Value}{v0 v1:Value}(xi:vs=[v0,v1]) {I:bb}{Fs:Nat->bb}{g:aM}(bl:cG w I vs.toArray g Fs) {w':World}{e:TypeId}{r:List Int}(a1:w'.ownsRow 0 e 1 v0 r.length (r.map (Value.int .i64))) (aN:∀ c,Fs 0 c↔v0.ownBlock=some c) (oP:Fr w w' λc=>Fs 0 c) :
  ∃ v I' b7,Ending.returned (.tuple #[])=.returned v/\cG w' I' (vs++[v]).toArray (kV [some (aj ai r),none] (.bW [])) b7/\ko w I (λc=>∃ t,Fs t c) w' I' (λc=>∃ t,b7 t c):=by
 subst xi;refine ⟨_,I,λt=>if t=0 then Fs 0 else cy,rfl,⟨λt x J=>?_,λt aw c aa=>?_,λt t' c aa fr=>?_,λt c aa=>?_,λc aa=>Nat.lt_of_lt_of_le (bl.lt c aa) oP.size,λt t' z p n m new bE cF m' c5 h1 af=>?_⟩,⟨?_,λc h=>h,λc h=>.inl h,λc aa=>?_⟩⟩
 ·unfold kV at J
  split at J
  ·rename_i aw;have aw:t=2:=aw;subst aw;cases J;exact ⟨.tuple #[],rfl,.tree (.bW (Fs:=λ_=>cy) rfl (λk x u h=>by simp at h) (λj k c h=>by simp at h) (λc=>⟨λh=>h.elim,λ⟨k,h,_⟩=>by simp at h⟩))⟩
  ·match t,J with
   | 0,J =>
    cases J;refine ⟨v0,rfl,.tree ?_⟩;show R w' I _ (.own 1 r.length (bo ai r)) v0 (Fs 0);rw [PC];refine .own (Fs:=λ_=>cy) a1 (by simp) (λk u hu=>?_) (λk x u J hu=>?_) (λ_ _ _ _ _ h=>h.elim) (λ_ _ _ h=>h.elim) (λc=>⟨λh=>.inl ((aN c).1 h),λh=>?_⟩)
    ·rw [List.getElem?_map] at hu;cases hk:r[k]? <;> rw [hk] at hu <;> cases hu;rfl
    ·rw [List.getElem?_map] at J hu;cases hk:r[k]? <;> rw [hk] at J hu <;> cases J <;> cases hu;exact .lit rfl λ_ h=>h
    ·rcases h with h | ⟨_,_,h⟩
     ·exact (aN c).2 h
     ·exact h.elim
   | 1,J=>cases J
   | t+2,J=>cases J
 ·have aR:¬ t=0:=λe=>by subst e; exact absurd aw (by simp [kV])
  simp only [if_neg aR] at aa;exact aa
 ·have key:∀ {t:Nat},(if t=0 then Fs 0 else cy) c->t=0:=λ{t} h=>by
   by_cases aR:t=0
   ·exact aR
   ·rw [if_neg aR] at h; exact h.elim
  rw [key aa,key fr]
 ·by_cases aR:t=0
  ·simp only [if_pos aR] at aa; exact bl.bm 0 c aa
  ·simp only [if_neg aR] at aa; exact aa.elim
 ·unfold kV at h1
  split at h1
  ·cases h1
  ·match t,h1 with
   | 0,h1=>cases h1
   | 1,h1=>cases h1
   | t+2,h1=>cases h1
 ·exact oP.mono λb _ av=>⟨0,av⟩
 ·obtain ⟨t,aw⟩:=aa;by_cases aR:t=0
  ·simp only [if_pos aR] at aw; exact .inl ⟨0,aw⟩
  ·simp only [if_neg aR] at aw; exact aw.elim
theorem O_ {α:Type} [DecidableEq α] {lt:α->α->Bool}{l:List α}(h:zU lt l=true):∀ a∈l,lt a a=false/\∀ b∈l,(lt a b=true\/lt b a=true\/a=b)/\∀ c∈l,((lt a b=true/\lt b c=true)->lt a c=true)/\(lt a b=true\/lt b c=true\/lt a c=false):=by
 intro a aP;unfold zU at h;have h1:=List.all_eq_true.1 h a aP;simp only [Bool.and_eq_true,Bool.not_eq_true',List.all_eq_true,Bool.or_eq_true,decide_eq_true_eq] at h1;refine ⟨h1.1,λb av=>?_⟩;obtain ⟨af,aI⟩:=h1.2 b av;refine ⟨by rcases af with (h | h) | h <;> simp [h],λc aa=>?_⟩;obtain ⟨bK,cH⟩:=aI c aa;refine ⟨λ⟨x,y⟩=>?_,by rcases cH with (h | h) | h <;> simp [h]⟩;rcases bK with h | h
 ·rw [x,y] at h; cases h
 ·exact h
theorem P9 {α:Type} [DecidableEq α] {fT:α->α->Option Int}{l r:List α}(h:pX fT l=some r):(∀ a∈l,∀ b∈l,(fT a b).isSome=true)/\zU (kx fT) l=true/\l.length<4611686018427387904/\r=h_ (kx fT) l:=by
 unfold pX at h
 split at h
 ·rename_i aa;simp only [Bool.and_eq_true,List.all_eq_true,decide_eq_true_eq] at aa;exact ⟨aa.1.1,aa.1.2,aa.2,(Option.some.inj h).symm⟩
 ·cases h
theorem NA {α:Type} [Inhabited α] {enc:α->Value}{b n:Nat}{d:Array α}{os:Array Obj}{cur:Array Value}{e:TypeId}{eS:Nat × Nat}(av:w.heap[b]?=some (.cells cur e eS)) :
  (sortWorld enc w b 0 n d os).heap[b]?=some (.cells (putCells enc 0 d cur) e eS):=by
 have aT:b<w.heap.size:=(Array.getElem?_eq_some_iff.1 av).1;unfold sortWorld;rw [heap_grow_old _ _ (by rw [Go.Sort.size_putRow]; exact aT)];unfold putRow mapBlock;have q9:(Go.Sort.ahead w n).heap=w.heap:=rfl;simp only [q9,Array.getElem?_modify,if_true,av,Option.map_some,onCells]
theorem Il {α:Type} [Inhabited α] {enc:α->Value}{b n c:Nat}{d:Array α}{os:Array Obj}(aa:c<w.heap.size) (dq:c≠b) :
  (sortWorld enc w b 0 n d os).heap[c]?=w.heap[c]?:=by
 unfold sortWorld;rw [heap_grow_old _ _ (by rw [Go.Sort.size_putRow]; exact aa)];unfold putRow mapBlock;have q9:(Go.Sort.ahead w n).heap=w.heap:=rfl;simp only [q9,Array.getElem?_modify,if_neg (Ne.symm dq)]
theorem MO {α:Type} [Inhabited α] {enc:α->Value}{b n:Nat}{d:Array α}{os:Array Obj}{U:bb}(ga:U b):Fr w (sortWorld enc w b 0 n d os) U:=by
 refine ⟨rfl,rfl,rfl,?_,λc aa aF=>Il aa λe=>aF (e ▸ ga),λa aP=>?_,?_⟩
 ·unfold sortWorld; rw [size_grow,Go.Sort.size_putRow]; exact Nat.le_add_right _ _
 ·unfold sortWorld;rw [frozen?_grow _ _ _ (by rw [Go.Sort.size_putRow]; exact aP),Go.Sort.frozen?_putRow]; rfl
 ·show w.drawn<=w.drawn+n;exact Nat.le_add_right _ _
theorem Pu {α:Type} [Inhabited α] {enc:α->Value}{d:Array α}{cur:Array Value}(h:d.size<=cur.size):(putCells enc 0 d cur).toList.take d.size=d.toList.map enc:=by
 apply List.ext_getElem?;intro k;rw [List.getElem?_take,List.getElem?_map];by_cases hk:k<d.size
 ·rw [if_pos hk,Array.getElem?_toList,Array.getElem?_toList];have aa:k<cur.size:=by omega
  simp only [putCells,Array.getElem?_mapIdx,Array.getElem?_eq_getElem aa,Array.getElem?_eq_getElem hk,Option.map_some];rw [if_pos ⟨Nat.zero_le _,by omega⟩,Nat.sub_zero];simp [getElem!_pos,hk]
 ·rw [if_neg hk,Array.getElem?_toList,Array.getElem?_eq_none (by omega)]; rfl
theorem bV.KA {ρ:Ren}(L:SlLaysF.n6 P ρ) {g:FuncId}{caps:List ab} [w8:dp caps] (aO:gN P g=true) {l r:List Int}{fT:Int->Int->Option Int}(h:pX fT l=some r)
  (aa:∀ a b v,fT a b=some v->bV P g (ae a::ae b::caps) (none::none::caps.map λ_=>none) (ae v)) :
  bV P (ρ.f 6) [aj ai l,.cW (.func g) [] caps] [some (aj ai r),none] (.bW []):=by
 refine ⟨rfl,λw I vs Fs ak bl=>?_⟩;obtain ⟨v0,v1,rfl⟩:∃ v0 v1,vs=[v0,v1]:=by
  match vs,ak with
  | [a,b],_=>exact ⟨a,b,rfl⟩
 obtain ⟨xg,lf,IT,rfl⟩:=P9 h;obtain ⟨u,hu,aZ⟩:=bl.rel 0 (aj ai l) rfl;obtain rfl:v0=u:=by simpa using hu
 replace aZ:=aZ.gJ (by simp);obtain ⟨u,hu,qn⟩:=bl.rel 1 (.cW (.func g) [] caps) rfl;obtain rfl:v1=u:=by simpa using hu
 replace qn:=qn.gJ (by simp);rw [show aj ai l=.own 1 l.length (bo ai l) from rfl,PC] at aZ
 cases aZ with
 | ref J=>simp [ab.isRef] at J
 | @own _ _ _ _ e us bL _ a1 xc hp ao aS av aN =>
 cases qn with
 | ref J=>simp [ab.isRef] at J
 | @cW _ _ _ aE j_ _ zf h1 af ku iP =>
 obtain rfl:aE=#[]:=Array.eq_empty_of_size_eq_zero (by simpa using h1.symm);have mo:∀ c,Fs 0 c↔v0.ownBlock=some c:=by
  intro c;refine ⟨λaa=>?_,λaa=>(aN c).2 (.inl aa)⟩;rcases (aN c).1 aa with h | ⟨k,hk,h⟩
  ·exact h
  ·have J:=List.getElem?_eq_getElem hk;have hu:=List.getElem?_eq_getElem (xc ▸ hk);have aZ:=ao k _ _ J hu;rw [List.getElem_map] at aZ;generalize us[k]=gZ at aZ;cases aZ with
   | lit _ aW=>exact (aW c h).elim
   | ref J=>simp [ab.isRef] at J
 have l_:us=l.map (Value.int .i64):=by
  apply List.ext_getElem?;intro k;by_cases hk:k<us.length
  ·have h9:k<(l.map ae).length:=xc.symm ▸ hk;have J:=List.getElem?_eq_getElem h9;have hu:=List.getElem?_eq_getElem hk;have aZ:=ao k _ _ J hu;rw [List.getElem_map] at aZ;rw [hu,aZ.hA.1,List.getElem?_map,List.getElem?_eq_getElem (by simpa using h9)]; rfl
  ·rw [List.getElem?_eq_none (by omega),List.getElem?_eq_none (by rw [List.length_map] at xc ⊢; omega)]
 subst l_;have B1:=sX (kx fT) l;have hlen:=B1.length_eq;by_cases xe:l=[]
 ·subst xe;have jd:∃ p cap,v0=.slice p 0 cap:=by
   rcases a1.2 with ⟨rfl,_⟩ | ⟨b,cap,cur,rfl,_⟩
   ·exact ⟨_,_,rfl⟩
   ·exact ⟨_,_,rfl⟩
  obtain ⟨p,cap,rfl⟩:=jd;refine (AnyF.slices_SortFunc_none { L with } p cap _ w).mono ?_;rintro cj w' ⟨rfl,rfl⟩;exact P_ rfl bl (e:=e) (r:=[]) a1 mo (Fr.refl _ _)
 ·obtain ⟨NQ,Ic⟩:=a1;rcases Ic with ⟨rfl,aR⟩ | ⟨b,cap,cur,rfl,_,tZ,hle,II,fX,gm⟩
  ·exact absurd (List.eq_nil_of_length_eq_zero aR) xe
  rw [Nat.mul_one] at fX gm;have tW:Fs 0 b:=(mo b).2 rfl;have H':b<w.heap.size:=(Array.getElem?_eq_some_iff.1 tZ).1;obtain ⟨a0,w0⟩:=List.exists_mem_of_ne_nil l xe
  let α:={ x:Int // x∈l }
  haveI:Inhabited α:=⟨⟨a0,w0⟩⟩
  let enc:α->Value:=λx=>.int .i64 x.1
  let kK:α->α->Int:=λx y=>(fT x.1 y.1).getD 0;have aT:∀ x y:α,ltOf kK x y=kx fT x.1 y.1:=λx y=>rfl
  let d:Array α:=l.attach.toArray;have zm:d.size=l.length:=by show (l.attach.toArray).size=l.length; rw [List.size_toArray,List.length_attach]
  have je:=O_ lf;have hO:SWO (ltOf kK):=by
   refine ⟨λx=>by rw [aT]; exact (je x.1 x.2).1,λx y z=>?_,λx y z=>?_⟩
   ·rw [aT,aT,aT];exact λp q=>(((je x.1 x.2).2 y.1 y.2).2 z.1 z.2).1 ⟨p,q⟩
   ·rw [aT,aT,aT];intro p q;rcases (((je x.1 x.2).2 y.1 y.2).2 z.1 z.2).2 with h | h | h
    ·rw [p] at h; cases h
    ·rw [q] at h; cases h
    ·exact h
  have dL:∀ x y:α,ltOf kK x y=false->ltOf kK y x=false->x=y:=by
   intro x y p q;rw [aT] at p q;rcases ((je x.1 x.2).2 y.1 y.2).1 with h | h | h
   ·rw [p] at h; cases h
   ·rw [q] at h; cases h
   ·exact Subtype.ext h
  have l6:∀ j,j<l.length->cur[j]?=some (.int .i64 l[j]!):=by
   intro j ah;have:=congrArg (λt=>t[j]?) gm;simp only [List.getElem?_take,if_pos ah,Array.getElem?_toList,List.getElem?_map,List.getElem?_eq_getElem ah,Option.map_some] at this;rw [this,getElem!_pos l j ah]
  have hH:Holds enc w b 0 d:=by
   intro j ah;rw [zm] at ah;refine ⟨?_,?_⟩
   ·unfold World.cell?;simp only [tZ,Nat.zero_add];show cur[j]?=_;rw [l6 j ah];show some (Value.int .i64 l[j]!)=some (.int .i64 (d[j]!).1);have:(d[j]!).1=l[j]! := by
     rw [getElem!_pos d j (by omega),getElem!_pos l j ah];show (l.attach.toArray[j]'_).val=_;rw [List.getElem_toArray,List.getElem_attach]
    rw [this]
   ·unfold World.frozen?;simp only [tZ];simp
  have Hs:∀ args w,(callFunc g args).run P w=.ok (.enter g args) w:=λargs w=>Bc aO args;have Ih:CmpLays1 P g j_ enc kK b 0 d.size w:=by
   intro m os Bg zl x y;have rh:=xg x.1 x.2 y.1 y.2;obtain ⟨v,hv⟩:=Option.isSome_iff_exists.1 rh;have Ie:kK x y=v:=by show (fT x.1 y.1).getD 0=v; rw [hv]; rfl
   have H2:cG (sortWorld enc w b 0 m Bg os) I #[] (λ_=>none) (λ_=>cy):=by
    refine ⟨λ_ _ h=>(by cases h),λ_ _ _ h=>h,λ_ _ _ h=>h.elim,λ_ _ h=>h.elim,λc aa=>?_,λ_ _ _ _ _ _ _ _ _ _ _ h=>(by cases h)⟩;have:=bl.lt c aa;unfold sortWorld;rw [size_grow,Go.Sort.size_putRow];exact Nat.lt_of_lt_of_le this (Nat.le_add_right _ _)
   have sK:=H2.args (I':=I) (λc h=>.inl h) (args:=ae x.1::ae y.1::caps) (vs:=enc x::enc y::j_.toList) (by simp [af]) (λρ' k z u aY hu=>?_)
   ·have pA:=(aa x.1 y.1 v hv).2 _ I (enc x::enc y::j_.toList) _ (by simp [af]) sK;have kb:(enc x::enc y::j_.toList).toArray=#[enc x,enc y]++j_:=by
     apply Array.ext';simp
    rw [kb] at pA;refine pA.mono ?_;rintro cj w' ⟨gz,I',b7,rfl,dY,b1⟩;obtain ⟨u,hu,mV⟩:=dY.rel (caps.length+2) (ae v) (by simp [kV]);have I0:u=gz:=by
     have:(enc x::enc y::j_.toList).length=caps.length+2:=by simp [af]
     rw [List.getElem?_toArray,<- this] at hu;simpa using hu.symm
    subst I0;have od:=(mV.gJ (by simp)).hA.1;subst od;refine ⟨by rw [Ie],?_⟩;exact MT (b1.eS.mono λc _ ⟨_,bY⟩=>bY)
   ·match k,aY,hu with
    | 0,aY,hu=>cases aY; cases hu; exact .lit rfl λ_ h=>h
    | 1,aY,hu=>cases aY; cases hu; exact .lit rfl λ_ h=>h
    | k+2,aY,hu =>
     simp only [List.getElem?_cons_succ] at aY hu;have zh:=(iP k z u aY (by simpa using hu)).bn (ρ':=ρ') (w8.bn z (List.mem_of_getElem? aY));refine zh.frame (λc aa=>?_) (λ_ h=>h) (λ_ _ h=>h) (λc h=>h.elim);exact Il (bl.lt c aa) λe=>bl.bm 0 c (e ▸ tW) aa
  have BQ:=Any.slices_SortFunc_total L enc (λ_=>rfl) kK hO g j_ b 0 cap d w Hs Ih hH H' (by rw [zm]; exact IT) dL;rw [zm] at BQ;refine BQ.mono ?_;rintro cj w' ⟨rfl,n,os,rfl⟩;have oh:(d.toList.mergeSort λx y=>!ltOf kK y x).map enc=(h_ (kx fT) l).map (Value.int .i64):=by
   rw [Oz hO dL];have hm:(h_ (ltOf kK) l.attach).map Subtype.val=h_ (kx fT) (l.attach.map Subtype.val):=E3 (lt:=ltOf kK) (lt':=kx fT) (f:=Subtype.val) (λa b=>aT a b) l.attach;rw [List.attach_map_subtype_val] at hm;rw [<- hm,List.map_map];rfl
  have Ny:(d.toList.mergeSort λx y=>!ltOf kK y x).toArray.size=l.length:=by
   rw [List.size_toArray,(List.mergeSort_perm _ _).length_eq];show (l.attach.toArray).toList.length=l.length;simp
  refine P_ rfl bl (e:=e) (r:=h_ (kx fT) l) ⟨by simp,.inr ⟨b,cap,_,by rw [hlen],Nat.zero_le _,NA tZ,by omega,II,?_,?_⟩⟩ mo (MO tW)
  ·rw [Nat.mul_one,<- fX];simp [putCells]
  ·rw [Nat.mul_one,hlen,<- Ny,Pu (by rw [Ny]; omega),<- oh]
end
end Go.Own
namespace Go.Own
open Go
section
variable {α:Type}{P:Program}{N:c6}{g g1 g2 g3:aM}{ops:Array Oper}{bd:List (List Nat)}{acc:Acc}{l:List Oper}{K:aM->Prop}{i d r:Nat}
theorem cG.settle {w:World}{I:bb}{T:Array Value}{Fs:Nat->bb}(h:cG w I T g Fs) (a:Act) (aP:a.tmps=T) {ts:List Nat}{xs ys:List ab}(J:Own.gn g (ts.map Operand.tmp)=some xs) (aw:Take g xs ys g1) (ft:ts.Nodup) (ak:ys.length=ts.length) (aS:∀ t∈ts,g1 t=some .dead)
  (hk:hC (qI g1 ((ts.map λt=>(⟨t,[]⟩:Place)).zip ys)) g2):∃ b7,cG w I T g2 b7/\∀ c,(∃ t,b7 t c)->∃ t,Fs t c:=by
 obtain ⟨Jd,WG⟩:=zT h aP J;have WE:xs.length=ts.length:=by rw [Jd,List.length_map]
 have hand:Hand w I (fD w T) Fs xs (ts.map λt=>a.eval (.tmp t)) (λ_=>cy):=by
  refine ⟨by rw [WE,List.length_map],λk x u qA hu=>?_,λ_ _ _ _ _ h=>h.elim,λ_ _ _ _ h=>h.elim,λ_ _ _ h=>h.elim⟩;rw [List.getElem?_map] at hu;cases gm:ts[k]? with
  | none=>rw [gm] at hu; cases hu
  | some t =>
   rw [gm] at hu; cases hu;exact (WG k x (.tmp t) qA (by rw [List.getElem?_map,gm]; rfl)).frame (λ_ _=>rfl) (λ_ h=>h) (λ_ _ h=>h.1) λ_ _=>rfl
 obtain ⟨f_,H1,jc,iN,hN⟩:=aw.sound h.mE hand;have vy:((ts.map λt=>(⟨t,[]⟩:Place)).zip ys).length=ts.length:=by rw [List.length_zip,List.length_map,ak]; exact Nat.min_self _
 obtain ⟨iY,h7,aN⟩:=jE.qI ((ts.map λt=>(⟨t,[]⟩:Place)).zip ys) H1 (λj=>((ts.map λt=>a.eval (.tmp t))[j]?).getD undef) jc (by
   rw [List.map_fst_zip (by rw [List.length_map,ak]; exact Nat.le_refl _)];exact List.Pairwise.map _ (λa b h e=>h (congrArg Place.root e)) ft) (λj p x ah=>by
   rw [List.getElem?_zip_eq_some] at ah;obtain ⟨h1,af⟩:=ah;rw [List.getElem?_map] at h1;cases gm:ts[j]? with
   | none=>rw [gm] at h1; cases h1
   | some t =>
    rw [gm] at h1; cases h1;have Nz:=aS t (List.mem_of_getElem? gm);obtain ⟨v,hv,_⟩:=jc.rel t .dead Nz;have tY:a.eval (.tmp t)=v:=by simp [Act.eval,aP,hv]
    have IZ:(ts.map λt=>a.eval (.tmp t))[j]?=some v:=by rw [List.getElem?_map,gm]; simp [tY]
    refine ⟨by simp [bD,Nz,ab.at],?_,?_⟩
    ·rw [IZ];show dW w T ⟨t,[]⟩=some v;unfold dW;simp only [hv,walk]
    ·rw [IZ];exact iN.rel j x v af IZ) (λj t c ah aa=>iN.off j t c (by omega) aa) (λj c ah aa=>iN.bm j c (by omega) aa) (λi j c hi ah h1 af=>iN.eJ i j c (by omega) (by omega) h1 af)
 refine ⟨_,h7.keep hk,λc ⟨t,_,aa⟩=>?_⟩;have:lu f_ ys.length H1 c:=by
  rcases aN t c aa with h | ⟨j,ah,h⟩
  ·exact .inl ⟨t,h⟩
  ·exact .inr ⟨j,by omega,h⟩
 rcases hN c this with h | ⟨_,_,h⟩
 ·exact h
 ·exact h.elim
theorem iz.settle {o:Oper}{ts:List Nat}{xs ys:List ab}(J:Own.gn g (ts.map Operand.tmp)=some xs) (aw:Take g xs ys g1) (ft:ts.Nodup) (ak:ys.length=ts.length) (aS:∀ t∈ts,g1 t=some .dead)
  (hk:hC (qI g1 ((ts.map λt=>(⟨t,[]⟩:Place)).zip ys)) g2) (he:iz P N g2 o g3):iz P N g o g3:=by
 intro w I T Fs bl a aP bc K Q dj;obtain ⟨b7,dY,ga⟩:=bl.settle a aP J aw ft ak aS hk;refine he w I T b7 dY a aP bc K Q λb' w' aF aw=>dj b' w' ?_ aw;obtain ⟨cz,cf,I',iY,h1,af⟩:=aF;exact ⟨cz,cf,I',iY,h1,ko.trans ⟨Fr.refl _ _,λ_ h=>h,λ_ h=>.inl h,λc h=>.inl (ga c h)⟩ af⟩
theorem Ro {Q:Nat->Prop}{a:Nat}(aP:Q a):∀ t∈[a],Q t:=λt aw=>by rw [List.mem_singleton.1 aw]; exact aP
theorem wy {Q:Nat->Prop}{a b:Nat}(aP:Q a) (av:Q b):∀ t∈[a,b],Q t:=λt aw=>by
 rcases List.mem_cons.1 aw with rfl | aw
 ·exact aP
 ·rw [List.mem_singleton.1 aw]; exact av
def FD (p q:Place):Bool:=Nat.beq p.root q.root&&p.path == q.path
def CA:List Place->Bool
 | []=>true
 | x::l=>l.all (λy=>!FD x y)&&CA l
theorem OQ:∀ {l:List Place},CA l=true->l.Nodup
 | [],_=>List.nodup_nil
 | p::l,h=>by
  simp only [CA,Bool.and_eq_true,List.all_eq_true] at h;refine List.nodup_cons.2 ⟨λhm=>?_,OQ h.2⟩;have:=h.1 p hm;simp [FD] at this
def Xe (p:Place) (acc:Acc):Bool:=acc.all λe=>match j0 e with | some q=>!FD p q | none=>true
theorem vF {p:Place}{G:List (Nat × ab)}{A:Nat->Bool}(h:Xe p acc=true) (c_:mb G=true):∀ t z n m new,dh (get G) A acc t≠some (.bM z p n m new):=by
 intro t z n m new e;rcases uM e with ⟨cj,he,h1,_,af⟩ | ⟨_,af⟩
 ·have:=List.all_eq_true.1 h cj he;obtain ⟨k,d,x⟩:=cj;simp only at af;subst af;simp [j0,FD] at this
 ·exact vH c_ _ _ _ _ _ _ af
theorem O.tv {en:bJ α}{L M r:List α}{y:ab}{e gM:Nat}{a b:Operand}{p:Place}{t ty:TypeId}(aC:Rd g a (.a6 en.z p L.length)) (au:bD g p=some (aj en L)) (J:Rd g b y) (hm:n4 g en y M) (aw:jG P t e en.z gM=true) (av:Nat.ble gM 128=true) (h:da L M=some r) (e9:∀ t z n m new,g t≠some (.bM z p n m new)) :
  ch P g (.call { callee:=.builtin .append,args:=#[a,b],argTypes:=#[t,t] }) ty (.bM en.z p L.length M.length (bo en M)):=by
 obtain ⟨h1,af,_⟩:=yX h av;exact .lS (.grow aC.bt (.inl ⟨_,au⟩) (λt bE cF m' c5 e=>e9 _ _ _ _ _ e) J.bt hm.src aw h1 af)
theorem bz.wH (bG:Nat) {G G2:List (Nat × ab)}{o:Oper}(he:iz P N (dh (get G) (λm=>(bd.getD bG []).contains m) acc) o (get G2)) (aO:o.guard=none) (gR:CA (acc.filterMap j0)=true) (fH:mb G=true) (ah:Nat.beq ops.size (bG+l.length+1)=true)
  (ga:acc.filter (λe=>!(bd.getD bG []).contains e.1)=[])
  (av:(List.range ops.size).all (λk=>Nat.ble k bG||(bd.getD k []).contains bG)=true) (hk:bz P N ops bd (get G2) (bG+1) [] l K):bz P N ops bd (get G) i acc (o::l) K:=by
 intro dV j cx kP k_;have:=zb k_ ah;subst this;obtain ⟨h1,af⟩:=drop_cons k_;obtain ⟨g',ao,dj⟩:=hk [] (j+1) .nil .nil af;refine ⟨g',.wD (U:=[]) (rs:=so []) kP (OQ gR) (vH fH) h1 ?_ he.v (λp au=>by simp [so] at au) ga.symm (by simp) (by simp) (by simp) ?_ ao,dj⟩
 ·unfold iB; rw [aO]
 ·refine List.all_eq_true.2 λk hk=>?_;have:=List.all_eq_true.1 av k hk;simp only [Bool.or_eq_true,decide_eq_true_eq,Nat.ble_eq] at this ⊢;exact this
theorem iz.cell {o:Oper}{r k0:Nat}{y:ab}{cs:List ab}{g5:aM}(ao:g r=some (.obj cs)) (ax:cs[k0]?=some y) (xp:cU y)
  (vm:∀ v:Value,v.oneCell'=true->∃ g1 g4,hC (cv g ⟨r,[k0]⟩ (.lit v)) g1/\iz P N g1 o g4/\bD g4 ⟨r,[k0]⟩=some (.lit v)/\hC (cv g4 ⟨r,[k0]⟩ y) g5):o_ P N (λp=>p∈[(⟨r,[k0]⟩:Place)]) g o g5:=by
 intro w I T Fs h a aP bc K Q dj;have la:∀ z q n m new,y≠.bM z q n m new:=by rintro z q n m new rfl; cases xp
 have gu:bD g ⟨r,[k0]⟩=some y:=by simp [bD,ao,ab.at,ab.kids,ax]
 obtain ⟨v,cA,hv,dI,dy,put⟩:=h.mE.part gu la;have uh:v.oneCell'=true:=by
  obtain ⟨u,hu,mU⟩:=h.rel r _ ao;obtain ⟨b,wb,h1,af,aI,bK,_⟩:=R.node (z:=0) (n:=0) (mU.gJ (by simp)) (.inr rfl) ax;have:dW w T ⟨r,[k0]⟩=child w u k0:=by
   unfold dW;simp only [hu,walk];cases child w u k0 <;> rfl
  rw [this,aI] at hv;cases hv;exact bK
 obtain ⟨f_,jc,zf,Bs⟩:=put (.lit v) cy (.lit uh λ_ h=>h) (λ_ h=>h.elim) (λ_ h=>h.elim) (λ_ _ _ h=>h.elim);obtain ⟨g1,g4,hb,dd,H6,Iw⟩:=vm v uh;have uJ:∀ t c,f_ t c->Fs t c/\¬ cA c:=by
  intro t c aa;by_cases aw:t=r
  ·subst aw;rcases (zf c).1 aa with aQ | aQ
   ·exact aQ
   ·exact aQ.elim
  ·rw [Bs t aw] at aa;exact ⟨aa,λaW=>aw (h.eJ t r c aa (dy c aW))⟩
 have HW:=jc.keep hb;refine dd w I T _ HW a aP bc K Q λb' w' aF sT=>?_;obtain ⟨cz,cf,I',b7,dY,b1⟩:=aF;obtain ⟨v2,iX,B',mr,T8,Ka⟩:=dY.mE.part H6 (by simp);have IY:v2=v:=mr.hA.1;subst IY;have M4:∀ c,cA c->¬ I c:=λc aa=>h.bm r c (dy c aa);have Bu:∀ c,cA c->c<w.heap.size:=λc aa=>h.jZ r c (dy c aa);have CI:∀ c,cA c->¬ ∃ t,(g1 t≠none/\f_ t c):=λc aa ⟨t,_,aQ⟩=>(uJ t c aQ).2 aa;have CH:∀ t c,b7 t c->¬ cA c:=by
  intro t c aa aW;rcases b1.own c ⟨t,aa⟩ with aQ | aQ
  ·exact CI c aW aQ
  ·have:=Bu c aW; omega
 have JV:∀ c,cA c->¬ I' c:=by
  intro c aa hi;rcases b1.new c hi with aQ | aQ | aQ
  ·exact M4 c aa aQ
  ·exact CI c aa aQ
  ·have:=Bu c aa; omega
 have Ko:∀ c,cA c->w'.heap[c]?=w.heap[c]?:=λc aa=>b1.eS.block c (Bu c aa) (CI c aa);have sr:∀ c,I c->w'.heap[c]?=w.heap[c]?:=λc aa=>b1.eS.block c (h.lt c aa) λ⟨t,_,aQ⟩=>h.bm t c (uJ t c aQ).1 aa;have BA:R w' I' (fD w' b'.tmps) y v2 cA:=((dI.bn xp).frame sr b1.more (λ_ _ h=>h) Ko);obtain ⟨K',HY,M0,HO⟩:=Ka y cA BA (λc aa aW=>(CH _ c aW aa).elim) (λc aa=>JV c aa) (λt c _ aa aW=>CH t c aW aa);have tO:=HY.keep Iw;refine dj b' w' ⟨cz,cf,I',_,tO,⟨?_,b1.more,λc aa=>?_,λc aa=>?_⟩⟩ sT λdm path au y' oU acA=>?_
 ·exact b1.eS.mono λb _ ⟨t,_,aQ⟩=>⟨t,(uJ t b aQ).1⟩
 ·rcases b1.new c aa with aQ | ⟨t,_,aQ⟩ | aQ
  ·exact .inl aQ
  ·exact .inr (.inl ⟨t,(uJ t c aQ).1⟩)
  ·exact .inr (.inr aQ)
 ·obtain ⟨t,_,aa⟩:=aa;have:(∃ t,b7 t c)\/cA c:=by
   by_cases aw:t=r
   ·subst aw;rcases (M0 c).1 aa with ⟨aQ,_⟩ | aQ
    ·exact .inl ⟨_,aQ⟩
    ·exact .inr aQ
   ·rw [HO t aw] at aa; exact .inl ⟨t,aa⟩
  rcases this with aQ | aQ
  ·rcases b1.own c aQ with ⟨t,_,jb⟩ | jb
   ·exact .inl ⟨t,(uJ t c jb).1⟩
   ·exact .inr jb
  ·exact .inl ⟨r,dy c aQ⟩
 ·have au:(⟨dm,path⟩:Place)∈[(⟨r,[k0]⟩:Place)]:=au;have au:=List.mem_singleton.1 au;cases au;rw [hv,B']
end
end Go.Own
namespace Go.Own
open Go
section
variable {α:Type}{P:Program}{N:c6}{g:aM}{ops:Array Oper}{l:List Oper}{K:aM->Prop}{r n:Nat}{t e ty:TypeId}{a b:Operand}{m:Int}{en:bJ α}{L:List α}{y y2:α}{k:IntKind}{pos:String}{after:Array Edge}
def xq {α:Type}(n:Nat) (l:List α) (i:Int):Option α:=if i<n then idx l i else none
theorem Ji (h:xq n L m=some y):m<n/\idx L m=some y:=by
 unfold xq at h
 split at h
 ·exact ⟨by assumption,h⟩
 ·cases h
theorem RB (aY:Nat.blt 0 en.z=true) (h:idx L m=some y):m.toNat * en.z<(bo en L).length:=by
 obtain ⟨aR,h1,_⟩:=pL h;rw [nm];exact Nat.mul_lt_mul_of_pos_right (by omega) (by simpa using aY)
theorem O.OA (aC:g r=some (.obj (bo en L))) (aY:Nat.blt 0 en.z=true) (hi:Rd g b (.lit (.int k m))) (aw:yY P t e n en.z=true) (h:xq n L m=some y):ch P g (.indexAddr t (.tmp r) b) ty (.ptr ⟨r,[]⟩ (m.toNat * en.z)):=by
 obtain ⟨h1,af⟩:=Ji h;have aT:=RB aY af;obtain ⟨aR,_,_⟩:=pL af;have J:Own.bt g (.tmp r)=some (.ptr ⟨r,[]⟩ 0):=by
  cases aa:bo en L with
  | nil=>rw [aa] at aT; simp at aT
  | cons c cs=>simp [Own.bt,aC,aa,ry,gx]
 have hm:((m.toNat:Nat):Int)=m:=by omega
 have:=c8.EX (P:=P) (g:=g) (ty:=ty) (k:=0) (j:=m.toNat) J (by rw [hm]; exact hi.bt) aw (by omega) ⟨.obj (bo en L),by simp [bD,aC,ab.at],0,0,_,.inr rfl,by rw [Nat.zero_add]; exact aT⟩;rw [Nat.zero_add] at this;exact .eU this
theorem O.W2 {x:ab}(aC:g r=some (.obj (bo en L))) (aP:Rd g a (.ptr ⟨r,[]⟩ (m.toNat * en.z))) (h:idx L m=some y) (J:(en.cells y)[0]?=some x) (aw:jq P t=true) (aF:∀ p,gx 0 p x=x):ch P g (.load t a) ty x:=by
 have:=Kj en h J;rw [Nat.add_zero] at this;exact O.mA aC aP aw this (aF _)
theorem ar.Yh {KV:ab}{cs':List ab}{G2:List (Nat × ab)}(aC:g r=some (.obj (bo en L))) (aY:Nat.blt 0 en.z=true) (aP:Rd g a (.ptr ⟨r,[]⟩ (m.toNat * en.z))) (av:Rd g b KV) [aF:cg KV] (h:idx L m=some y) (aa:oL KV=some cs') (hE:cs'=en.cells y2) (fX:hl P t cs'.length=true)
  (ao:(get G2 r).isSome=true) (c_:k5 g (get G2) r (bo en (L.set m.toNat y2)) G2) (hk:ar P N ops l (get G2) K):ar P N ops (⟨none,.store t a b,ty,pos,after,none⟩::l) g K:=by
 have hlen:cs'.length=en.z:=by rw [hE,en.len]
 obtain ⟨aR,h1,_⟩:=pL h;refine .jh aC aP av aa fX ?_ ?_ ?_ ao c_ hk
 ·rw [hlen,nm];simp only [Nat.ble_eq];have:(m.toNat+1) * en.z<=L.length * en.z:=Nat.mul_le_mul_right _ (by omega);rw [Nat.add_mul,Nat.one_mul] at this;exact this
 ·rw [hlen]; exact aY
 ·have:=Ki en h (o:=0) (cs':=cs') (y2:=y2) (by
   subst hE;have ak:(en.cells y2).length=(en.cells y).length:=by rw [en.len,en.len]
   unfold e5;rw [List.take_zero,List.nil_append,Nat.zero_add,ak,List.drop_length,List.append_nil]) (by omega)
  rw [Nat.add_zero] at this;exact this
end
end Go.Own
namespace Go.Own
open Go Go.Proofs Go.Shelf Go.Lib Go.Sort
section
variable {P:Program}{w:World}
class ly {α:Type}(e:bJ α) where
 rI:α->List Value
 cells:∀ a,e.cells a=(rI a).map .lit
 one:∀ a,∀ v∈rI a,v.oneCell'=true
variable {α:Type}{e:bJ α}
theorem ly.len [h:ly e] (a:α):(h.rI a).length=e.z:=by
 have:=e.len a;rw [h.cells,List.length_map] at this;exact this
def pj (e:bJ α) [h:ly e] (l:List α):List Value:=l.flatMap h.rI
theorem FP [h:ly e]:∀ l:List α,bo e l=(pj e l).map .lit
 | []=>rfl
 | a::l=>by
  have:bo e (a::l)=e.cells a++bo e l:=by simp [bo]
  rw [this,FP l,h.cells];simp [pj]
theorem Hy [h:ly e] (l:List α):(pj e l).length=l.length * e.z:=by
 have:=nm e l;rw [FP,List.length_map] at this;exact this
theorem MM [h:ly e] {l:List α}:∀ v∈pj e l,v.oneCell'=true:=by
 intro v hv;obtain ⟨a,_,hv⟩:=List.mem_flatMap.1 hv;exact h.one a v hv
theorem ML [h:ly e]:∀ (l:List α) (i j:Nat) (a:α),l[i]?=some a->j<e.z->(pj e l)[i * e.z+j]?=(h.rI a)[j]?
 | [],i,j,a,aP,_=>by simp at aP
 | b::l,0,j,a,aP,ah=>by
  simp only [List.getElem?_cons_zero,Option.some.injEq] at aP;subst aP;simp only [pj,List.flatMap_cons,Nat.zero_mul,Nat.zero_add];rw [List.getElem?_append_left (by rw [ly.len]; exact ah)]
 | b::l,i+1,j,a,aP,ah=>by
  simp only [List.getElem?_cons_succ] at aP;have:=ML l i j a aP ah;simp only [pj,List.flatMap_cons] at this ⊢;rw [List.getElem?_append_right (by rw [ly.len,Nat.add_mul]; omega),ly.len,<- this];congr 1;rw [Nat.add_mul]; omega
theorem MK {β:Type} [Inhabited β] [h:ly e] (f:β->α) (d:Array β):(flatK (λx=>h.rI (f x)) e.z d).toList=pj e (d.toList.map f):=by
 apply List.ext_getElem?;intro t;by_cases aw:t<d.size * e.z
 ·have aY:0<e.z:=by
   rcases Nat.eq_zero_or_pos e.z with aR | aR
   ·rw [aR] at aw; omega
   ·exact aR
  have h1:t / e.z<d.size:=Nat.div_lt_of_lt_mul (by rw [Nat.mul_comm]; exact aw);have af:t % e.z<e.z:=Nat.mod_lt _ aY;have aP:(d.toList.map f)[t / e.z]?=some (f d[t / e.z]!):=by
   rw [List.getElem?_map,Array.getElem?_toList,Array.getElem?_eq_getElem h1,getElem!_pos d _ h1]; rfl
  have:=ML (e:=e) _ (t / e.z) (t % e.z) _ aP af;rw [Nat.mul_comm,Nat.div_add_mod] at this;rw [this,Array.getElem?_toList,Array.getElem?_eq_getElem (by simpa using aw),<- getElem!_pos (flatK (λx=>h.rI (f x)) e.z d) t (by simpa using aw),get_flatK _ _ _ _ aw];have aI:t % e.z<(h.rI (f d[t / e.z]!)).length:=by rw [ly.len]; exact af
  rw [getElem!_pos (h.rI (f d[t / e.z]!)) (t % e.z) aI,List.getElem?_eq_getElem aI]
 ·rw [List.getElem?_eq_none (by simp; omega),List.getElem?_eq_none (by rw [Hy,List.length_map,Array.length_toList]; omega)]
theorem P' [h6:ly e] {vs:List Value}{v0 v1:Value}(xi:vs=[v0,v1]) {I:bb}{Fs:Nat->bb}{g:aM}(bl:cG w I vs.toArray g Fs) {w':World}{t:TypeId}{r:List α}(a1:w'.ownsRow 0 t e.z v0 r.length (pj e r)) (aN:∀ c,Fs 0 c↔v0.ownBlock=some c) (oP:Fr w w' λc=>Fs 0 c) :
  ∃ v I' b7,Ending.returned (.tuple #[])=.returned v/\cG w' I' (vs++[v]).toArray (kV [some (aj e r),none] (.bW [])) b7/\ko w I (λc=>∃ t,Fs t c) w' I' (λc=>∃ t,b7 t c):=by
 subst xi;refine ⟨_,I,λt=>if t=0 then Fs 0 else cy,rfl,⟨λt x J=>?_,λt aw c aa=>?_,λt t' c aa fr=>?_,λt c aa=>?_,λc aa=>Nat.lt_of_lt_of_le (bl.lt c aa) oP.size,λt t' z p n m new bE cF m' c5 h1 af=>?_⟩,⟨?_,λc h=>h,λc h=>.inl h,λc aa=>?_⟩⟩
 ·unfold kV at J
  split at J
  ·rename_i aw;have aw:t=2:=aw;subst aw;cases J;exact ⟨.tuple #[],rfl,.tree (.bW (Fs:=λ_=>cy) rfl (λk x u h=>by simp at h) (λj k c h=>by simp at h) (λc=>⟨λh=>h.elim,λ⟨k,h,_⟩=>by simp at h⟩))⟩
  ·match t,J with
   | 0,J =>
    cases J;refine ⟨v0,rfl,.tree ?_⟩;show R w' I _ (.own e.z r.length (bo e r)) v0 (Fs 0);rw [FP];refine .own (Fs:=λ_=>cy) a1 (by simp) (λk u hu=>MM u (List.mem_of_getElem? hu)) (λk x u J hu=>?_) (λ_ _ _ _ _ h=>h.elim) (λ_ _ _ h=>h.elim) (λc=>⟨λh=>.inl ((aN c).1 h),λh=>?_⟩)
    ·rw [List.getElem?_map,hu] at J;cases J;exact .lit (MM u (List.mem_of_getElem? hu)) λ_ h=>h
    ·rcases h with h | ⟨_,_,h⟩
     ·exact (aN c).2 h
     ·exact h.elim
   | 1,J=>cases J
   | t+2,J=>cases J
 ·have aR:¬ t=0:=λe=>by subst e; exact absurd aw (by simp [kV])
  simp only [if_neg aR] at aa;exact aa
 ·have key:∀ {t:Nat},(if t=0 then Fs 0 else cy) c->t=0:=λ{t} h=>by
   by_cases aR:t=0
   ·exact aR
   ·rw [if_neg aR] at h; exact h.elim
  rw [key aa,key fr]
 ·by_cases aR:t=0
  ·simp only [if_pos aR] at aa; exact bl.bm 0 c aa
  ·simp only [if_neg aR] at aa; exact aa.elim
 ·unfold kV at h1
  split at h1
  ·cases h1
  ·match t,h1 with
   | 0,h1=>cases h1
   | 1,h1=>cases h1
   | t+2,h1=>cases h1
 ·exact oP.mono λb _ av=>⟨0,av⟩
 ·obtain ⟨t,aw⟩:=aa;by_cases aR:t=0
  ·simp only [if_pos aR] at aw; exact .inl ⟨0,aw⟩
  ·simp only [if_neg aR] at aw; exact aw.elim
theorem bV.YF [DecidableEq α] [u':ly e] {ρ:Ren}(L:SlLaysF0.n6 P ρ) (Re:∀ w,(isAgg (ρ.t 24)).run P w=.ok true w) (Zn:∀ w,(Go.sizeOf (ρ.t 24)).run P w=.ok e.z w) {g:FuncId}{caps:List ab} [w8:dp caps] (aO:gN P g=true) {l r:List α}{fT:α->α->Option Int}(h:pX fT l=some r)
  (aa:∀ a b v,fT a b=some v->bV P g (.agg (e.cells a)::.agg (e.cells b)::caps) (none::none::caps.map λ_=>none) (ae v)) :
  bV P (ρ.f 6) [aj e l,.cW (.func g) [] caps] [some (aj e r),none] (.bW []):=by
 refine ⟨rfl,λw I vs Fs ak bl=>?_⟩;obtain ⟨v0,v1,rfl⟩:∃ v0 v1,vs=[v0,v1]:=by
  match vs,ak with
  | [a,b],_=>exact ⟨a,b,rfl⟩
 obtain ⟨xg,lf,IT,rfl⟩:=P9 h;obtain ⟨u,hu,aZ⟩:=bl.rel 0 (aj e l) rfl;obtain rfl:v0=u:=by simpa using hu
 replace aZ:=aZ.gJ (by simp);obtain ⟨u,hu,qn⟩:=bl.rel 1 (.cW (.func g) [] caps) rfl;obtain rfl:v1=u:=by simpa using hu
 replace qn:=qn.gJ (by simp);rw [show aj e l=.own e.z l.length (bo e l) from rfl,FP] at aZ
 cases aZ with
 | ref J=>simp [ab.isRef] at J
 | @own _ _ _ _ t us bL _ a1 xc hp ao aS av aN =>
 cases qn with
 | ref J=>simp [ab.isRef] at J
 | @cW _ _ _ aE j_ _ zf h1 af ku iP =>
 obtain rfl:aE=#[]:=Array.eq_empty_of_size_eq_zero (by simpa using h1.symm);have mo:∀ c,Fs 0 c↔v0.ownBlock=some c:=by
  intro c;refine ⟨λaa=>?_,λaa=>(aN c).2 (.inl aa)⟩;rcases (aN c).1 aa with h | ⟨k,hk,h⟩
  ·exact h
  ·have J:=List.getElem?_eq_getElem hk;have hu:=List.getElem?_eq_getElem (xc ▸ hk);have aZ:=ao k _ _ J hu;rw [List.getElem_map] at aZ;generalize us[k]=gZ at aZ;cases aZ with
   | lit _ aW=>exact (aW c h).elim
   | ref J=>simp [ab.isRef] at J
 have l_:us=pj e l:=by
  apply List.ext_getElem?;intro k;by_cases hk:k<us.length
  ·have h9:k<((pj e l).map ab.lit).length:=xc.symm ▸ hk;have J:=List.getElem?_eq_getElem h9;have hu:=List.getElem?_eq_getElem hk;have aZ:=ao k _ _ J hu;rw [List.getElem_map] at aZ;rw [hu,aZ.hA.1,List.getElem?_eq_getElem (by simpa using h9)]
  ·rw [List.getElem?_eq_none (by omega),List.getElem?_eq_none (by rw [List.length_map] at xc; omega)]
 subst l_;have B1:=sX (kx fT) l;have hlen:=B1.length_eq;by_cases xe:l=[]
 ·subst xe;have jd:∃ p cap,v0=.slice p 0 cap:=by
   rcases a1.2 with ⟨rfl,_⟩ | ⟨b,cap,cur,rfl,_⟩
   ·exact ⟨_,_,rfl⟩
   ·exact ⟨_,_,rfl⟩
  obtain ⟨p,cap,rfl⟩:=jd;refine (AnyF.slices_SortFunc_none L p cap _ w).mono ?_;rintro cj w' ⟨rfl,rfl⟩;exact P' rfl bl (t:=t) (r:=[]) a1 mo (Fr.refl _ _)
 ·obtain ⟨NQ,Ic⟩:=a1;rcases Ic with ⟨rfl,aR⟩ | ⟨b,cap,cur,rfl,_,tZ,hle,II,fX,gm⟩
  ·exact absurd (List.eq_nil_of_length_eq_zero aR) xe
  have tW:Fs 0 b:=(mo b).2 rfl;have H':b<w.heap.size:=(Array.getElem?_eq_some_iff.1 tZ).1;obtain ⟨a0,w0⟩:=List.exists_mem_of_ne_nil l xe
  let β:={ x:α // x∈l }
  haveI:Inhabited β:=⟨⟨a0,w0⟩⟩
  let enc:β->List Value:=λx=>u'.rI x.1
  let kK:β->β->Int:=λx y=>(fT x.1 y.1).getD 0;have aT:∀ x y:β,ltOf kK x y=kx fT x.1 y.1:=λx y=>rfl
  let d:Array β:=l.attach.toArray;have Nw:d.toList.map Subtype.val=l:=by
   show (l.attach.toArray).toList.map Subtype.val=l;simp
  have zm:d.size=l.length:=by show (l.attach.toArray).size=l.length; rw [List.size_toArray,List.length_attach]
  have je:=O_ lf;have hO:SWO (ltOf kK):=by
   refine ⟨λx=>by rw [aT]; exact (je x.1 x.2).1,λx y z=>?_,λx y z=>?_⟩
   ·rw [aT,aT,aT];exact λp q=>(((je x.1 x.2).2 y.1 y.2).2 z.1 z.2).1 ⟨p,q⟩
   ·rw [aT,aT,aT];intro p q;rcases (((je x.1 x.2).2 y.1 y.2).2 z.1 z.2).2 with h | h | h
    ·rw [p] at h; cases h
    ·rw [q] at h; cases h
    ·exact h
  have dL:∀ x y:β,ltOf kK x y=false->ltOf kK y x=false->x=y:=by
   intro x y p q;rw [aT] at p q;rcases ((je x.1 x.2).2 y.1 y.2).1 with h | h | h
   ·rw [p] at h; cases h
   ·rw [q] at h; cases h
   ·exact Subtype.ext h
  have sL:(flatK enc e.z d).toList=pj e l:=by
   have:=MK (e:=e) (λx:β=>x.1) d;rw [Nw] at this;exact this
  have hH:HoldsK enc e.z w b 0 d:=by
   intro j ah;have w_:j<(pj e l).length:=by rw [<- sL,Array.length_toList]; exact ah
   refine ⟨?_,?_⟩
   ·unfold World.cell?;simp only [tZ,Nat.zero_add];show cur[j]?=_;have h1:=congrArg (λt=>t[j]?) gm;have zp:j<l.length * e.z:=by rw [<- Hy (e:=e)]; exact w_
    simp only [List.getElem?_take,if_pos zp,Array.getElem?_toList] at h1;rw [h1,<- sL,Array.getElem?_toList,Array.getElem?_eq_getElem ah,getElem!_pos (flatK enc e.z d) j ah];rfl
   ·unfold World.frozen?;simp only [tZ];simp
  have Hs:∀ args w,(callFunc g args).run P w=.ok (.enter g args) w:=λargs w=>Bc aO args;have Ng:∀ (W:World) (I:bb) (ρ':ab->Value->Prop) (a:α),R W I ρ' (.agg (e.cells a)) (.agg (u'.rI a).toArray) λ_=>False:=by
   intro W I ρ' a;rw [u'.cells];refine .agg (Fs:=λ_=>cy) (by simp) (λk u hu=>u'.one a u ?_) (λk x u J hu=>?_) (λ_ _ _ _ _ h=>h.elim) (λc=>⟨λh=>h.elim,λ⟨_,_,h⟩=>h.elim⟩)
   ·rw [List.getElem?_toArray] at hu; exact List.mem_of_getElem? hu
   ·rw [List.getElem?_toArray] at hu;rw [List.getElem?_map,hu] at J;cases J;exact .lit (u'.one a u (List.mem_of_getElem? hu)) λ_ h=>h
  have Ih:CmpLays P g j_ enc e.z kK b 0 d.size w:=by
   intro m os Bg zl x y;have rh:=xg x.1 x.2 y.1 y.2;obtain ⟨v,hv⟩:=Option.isSome_iff_exists.1 rh;have Ie:kK x y=v:=by show (fT x.1 y.1).getD 0=v; rw [hv]; rfl
   show Calls P g _ (sortWorld id w b 0 m (flatK enc e.z Bg) os) λcj w'=>_/\∃ q Xo,w'=grow ((sortWorld id w b 0 m (flatK enc e.z Bg) os).drewN q) Xo;have H2:cG (sortWorld id w b 0 m (flatK enc e.z Bg) os) I #[] (λ_=>none) (λ_=>cy):=by
    refine ⟨λ_ _ h=>(by cases h),λ_ _ _ h=>h,λ_ _ _ h=>h.elim,λ_ _ h=>h.elim,λc aa=>?_,λ_ _ _ _ _ _ _ _ _ _ _ h=>(by cases h)⟩;have:=bl.lt c aa;unfold sortWorld;rw [size_grow,Go.Sort.size_putRow];exact Nat.lt_of_lt_of_le this (Nat.le_add_right _ _)
   have sK:=H2.args (I':=I) (λc h=>.inl h) (args:=.agg (e.cells x.1)::.agg (e.cells y.1)::caps) (vs:=.agg (enc x).toArray::.agg (enc y).toArray::j_.toList) (by simp [af]) (λρ' k z u aY hu=>?_)
   ·have pA:=(aa x.1 y.1 v hv).2 _ I (.agg (enc x).toArray::.agg (enc y).toArray::j_.toList) _ (by simp [af]) sK;have kb:(.agg (enc x).toArray::.agg (enc y).toArray::j_.toList).toArray=#[.agg (enc x).toArray,.agg (enc y).toArray]++j_:=by
     apply Array.ext';simp
    rw [kb] at pA;refine pA.mono ?_;rintro cj w' ⟨gz,I',b7,rfl,dY,b1⟩;obtain ⟨u,hu,mV⟩:=dY.rel (caps.length+2) (ae v) (by simp [kV]);have I0:u=gz:=by
     have:(Value.agg (enc x).toArray::.agg (enc y).toArray::j_.toList).length=caps.length+2:=by simp [af]
     rw [List.getElem?_toArray,<- this] at hu;simpa using hu.symm
    subst I0;have od:=(mV.gJ (by simp)).hA.1;subst od;refine ⟨by rw [Ie],?_⟩;exact MT (b1.eS.mono λc _ ⟨_,bY⟩=>bY)
   ·match k,aY,hu with
    | 0,aY,hu=>cases aY; cases hu; exact Ng _ _ _ x.1
    | 1,aY,hu=>cases aY; cases hu; exact Ng _ _ _ y.1
    | k+2,aY,hu =>
     simp only [List.getElem?_cons_succ] at aY hu;have zh:=(iP k z u aY (by simpa using hu)).bn (ρ':=ρ') (w8.bn z (List.mem_of_getElem? aY));refine zh.frame (λc aa=>?_) (λ_ h=>h) (λ_ _ h=>h) (λc h=>h.elim);exact Il (bl.lt c aa) λe=>bl.bm 0 c (e ▸ tW) aa
  have BQ:=AnyQ.slices_SortFunc_total L e.z Re Zn enc (λx=>ly.len x.1) (λx v hv=>u'.one x.1 v hv) kK hO g j_ b 0 cap d w Hs Ih hH H' (by rw [zm]; exact IT) dL;rw [zm] at BQ;refine BQ.mono ?_;rintro cj w' ⟨rfl,n,os,rfl⟩;have oh:(d.toList.mergeSort λx y=>!ltOf kK y x).map Subtype.val=h_ (kx fT) l:=by
   rw [Oz hO dL];have hm:(h_ (ltOf kK) l.attach).map Subtype.val=h_ (kx fT) (l.attach.map Subtype.val):=E3 (lt:=ltOf kK) (lt':=kx fT) (f:=Subtype.val) (λa b=>aT a b) l.attach;rw [List.attach_map_subtype_val] at hm;exact hm
  generalize acx:(d.toList.mergeSort λx y=>!ltOf kK y x)=ms at oh;have Vz:ms.length=l.length:=by rw [<- hlen,<- oh,List.length_map]
  have Ip:(flatK enc e.z ms.toArray).toList=pj e (h_ (kx fT) l):=by
   have:=MK (e:=e) (λx:β=>x.1) ms.toArray;rw [show (ms.toArray).toList.map (λx:β=>x.1)=h_ (kx fT) l from oh] at this
   exact this
  have sM:(flatK enc e.z ms.toArray).size=l.length * e.z:=by rw [size_flatK,List.size_toArray,Vz]
  refine P' rfl bl (t:=t) (r:=h_ (kx fT) l) ⟨Hy _,.inr ⟨b,cap,_,by rw [hlen],Nat.zero_le _,NA (enc:=id) tZ,by omega,II,?_,?_⟩⟩ mo (MO (enc:=id) tW)
  ·rw [<- fX];simp [putCells]
  ·rw [hlen,<- sM,Pu (by rw [sM,fX]; exact Nat.mul_le_mul_right _ hle),List.map_id,Ip]
end
end Go.Own
namespace Go.Own
open Go
section
variable {α:Type}{P:Program}{N:c6}{g:aM}{d r:Nat}
theorem hJ.tk {o:Oper}{x:Operand}{gq:Array TypeId}{f:FuncId}{res:ab}{en:bJ α}{L:List α}{G2:List (Nat × ab)}(a1:o.op=.call { callee:=.value (.func f),args:=#[x],argTypes:=gq }) (aS:o.dst=some d) (J:Own.gn g [x]=some [.a6 en.z ⟨r,[]⟩ L.length])
  (aC:g r=some (aj en L)) (gQ:bV P f [aj en L] [none] res) (aW:gN P f=true) [ao:cg res]
  (c_:Trim false (cv g ⟨r,[]⟩ .dead) (get G2) G2) (aO:get G2 d=none) (bc:N.ok d=true) :
  hJ P N g o d (get ((d,res)::G2)):=by
 have mY:∀ x∈bo en L,cU x:=by
  intro x J;obtain ⟨a,_,aP⟩:=List.mem_flatMap.1 J;exact en.bn a x aP
 have gm:(bo en L).take (L.length * en.z)=bo en L:=List.take_of_length_le (by rw [nm]; exact Nat.le_refl _);have xA:hC (cv g ⟨r,[]⟩ .dead) (get G2):=by
  refine ⟨λt x h=>?_,λt x h=>(c_.spec t x h).2.1,λt z q n m new h=>(c_.spec t _ h).2.2 _ _ _ _ _ rfl⟩;obtain ⟨⟨y,h1,_,aI⟩,_⟩:=c_.spec t x h;rw [<- aI rfl]; exact h1
 have xB:hC (get G2) (get G2):=⟨λt x h=>h,λt x h=>(c_.spec t x h).2.1,λt z q n m new h=>(c_.spec t _ h).2.2 _ _ _ _ _ rfl⟩;have rT:get ((d,res)::G2)=cV (get G2) d res:=by
  funext t;rw [sF]
 rw [rT];refine yD.ok (first:=[]) (caps:=[]) (ys:=[.a6 en.z ⟨r,[]⟩ L.length]) (tk:=λk=>k == 0) (vw:=false) (outs:=[none]) (g1:=cv g ⟨r,[]⟩ .dead) (g2:=get G2) (g4:=get G2) (l:=[]) (ks:=λ_=>0) (xs0:=[.a6 en.z ⟨r,[]⟩ L.length]) (xs1:=[aj en L]) (args:=[aj en L]) (res:=res) a1 aS rfl J
  ⟨aW,by simp,by simp,λk x h=>.inl h,?_,xA,λk x y J ax=>?_,gQ,by simpa using ao.bn,λk x h=>?_,λj p x ah=>by simp at ah,by simp,λi j hi ah _=>by simp at hi,xB⟩ aO bc wm.refl
 ·have h1:Take (cv g ⟨r,[]⟩ .dead) ((bo en L).take (L.length * en.z)) (bo en L) (cv g ⟨r,[]⟩ .dead):=by rw [gm]; exact .bn mY
  exact .a6 (N:=L.length) (by simp [bD,aC,ab.at]) (Nat.le_refl _) h1 (.bn λx J=>by simp at J)
 ·cases k with
  | zero=>simpa using ax
  | succ k=>simp at ax
 ·cases k with
  | zero=>simp at h
  | succ k=>simp at h
end
end Go.Own
namespace Go.Own
open Go Go.Proofs Go.Shelf Go.Lib Go.Sort
section
variable {α:Type} [DecidableEq α]
end
section
variable {α:Type}{e:bJ α}{P:Program}{w:World}
variable [DecidableEq α] [Inhabited α]
end
end Go.Own
namespace Go.Proofs
open Tryz
open Go.Shelf Go.RowKit Go.Lib Go.Sort
variable {α:Type} [Inhabited α] [DecidableEq α]
namespace Two
open Go.Own
variable {P:Program}{t:TypeId}
omit [Inhabited α] [DecidableEq α] in
theorem one (f:α->Int):OneCell λx=>Value.int .i64 (f x):=λ_=>rfl
end Two
end Go.Proofs
namespace Go.Own
open Go Go.Proofs Go.Shelf Go.Lib Go.Sort
section
variable {α:Type}{e:bJ α}{P:Program}{w:World}
end
end Go.Own
namespace Go.Own
open Go
section
variable {α:Type}{P:Program}{N:c6}{g:aM}{d r:Nat}
end
end Go.Own
namespace Go.Own
open Go
theorem q {α:Sort _}{a:α}:a=a:=rfl
abbrev a':ByteArray:=⟨#[]⟩
theorem CF {p:Prop} [Decidable p] (h:decide p=true):p:=of_decide_eq_true h
theorem kX {b:Bool}{g h:aM}{e0 s1:Nat}{eA a8:ab}(aR:g e0=some eA) [cg eA] (h1:g s1=some a8) [cg a8]:Trim b g h [(e0,eA),(s1,a8)]:=(.n aR (.n h1 .nil))
theorem o4 {b:Bool}{g h:aM}{e0 s1 s2:Nat}{eA a8 x2:ab}(aR:g e0=some eA) [cg eA] (h1:g s1=some a8) [cg a8] (af:g s2=some x2) [cg x2]:Trim b g h [(e0,eA),(s1,a8),(s2,x2)]:=(.n aR (.n h1 (.n af .nil)))
theorem ox {b:Bool}{g h:aM}{e0 s1 s2 ea:Nat}{eA a8 x2 a7:ab}(aR:g e0=some eA) [cg eA] (h1:g s1=some a8) [cg a8] (af:g s2=some x2) [cg x2] (aI:g ea=some a7) [cg a7]:Trim b g h [(e0,eA),(s1,a8),(s2,x2),(ea,a7)]:=(.n aR (.n h1 (.n af (.n aI .nil))))
theorem jR {b:Bool}{g h:aM}{e0 s1 s2 ea cY:Nat}{eA a8 x2 a7 bs:ab}(aR:g e0=some eA) [cg eA] (h1:g s1=some a8) [cg a8] (af:g s2=some x2) [cg x2] (aI:g ea=some a7) [cg a7] (bK:g cY=some bs) [cg bs]:Trim b g h [(e0,eA),(s1,a8),(s2,x2),(ea,a7),(cY,bs)]:=(.n aR (.n h1 (.n af (.n aI (.n bK .nil)))))
theorem nX {b:Bool}{g h:aM}{e0 s1 s2 ea cY cn:Nat}{eA a8 x2 a7 bs bT:ab}(aR:g e0=some eA) [cg eA] (h1:g s1=some a8) [cg a8] (af:g s2=some x2) [cg x2] (aI:g ea=some a7) [cg a7] (bK:g cY=some bs) [cg bs] (cH:g cn=some bT) [cg bT]:Trim b g h [(e0,eA),(s1,a8),(s2,x2),(ea,a7),(cY,bs),(cn,bT)]:=(.n aR (.n h1 (.n af (.n aI (.n bK (.n cH .nil))))))
theorem ss {b:Bool}{g h:aM}{e0 s1 s2 ea cY cn db:Nat}{eA a8 x2 a7 bs bT bC:ab}(aR:g e0=some eA) [cg eA] (h1:g s1=some a8) [cg a8] (af:g s2=some x2) [cg x2] (aI:g ea=some a7) [cg a7] (bK:g cY=some bs) [cg bs] (cH:g cn=some bT) [cg bT] (ei:g db=some bC) [cg bC]:Trim b g h [(e0,eA),(s1,a8),(s2,x2),(ea,a7),(cY,bs),(cn,bT),(db,bC)]:=(.n aR (.n h1 (.n af (.n aI (.n bK (.n cH (.n ei .nil)))))))
theorem KF {b:Bool}{g h:aM}{e0 s1 s2 ea cY cn db du:Nat}{eA a8 x2 a7 bs bT bC bQ:ab}(aR:g e0=some eA) [cg eA] (h1:g s1=some a8) [cg a8] (af:g s2=some x2) [cg x2] (aI:g ea=some a7) [cg a7] (bK:g cY=some bs) [cg bs] (cH:g cn=some bT) [cg bT] (ei:g db=some bC) [cg bC] (mT:g du=some bQ) [cg bQ]:Trim b g h [(e0,eA),(s1,a8),(s2,x2),(ea,a7),(cY,bs),(cn,bT),(db,bC),(du,bQ)]:=(.n aR (.n h1 (.n af (.n aI (.n bK (.n cH (.n ei (.n mT .nil))))))))
theorem Y6 {b:Bool}{g h:aM}{e0 s1 s2 ea cY cn db du dw:Nat}{eA a8 x2 a7 bs bT bC bQ b6:ab}(aR:g e0=some eA) [cg eA] (h1:g s1=some a8) [cg a8] (af:g s2=some x2) [cg x2] (aI:g ea=some a7) [cg a7] (bK:g cY=some bs) [cg bs] (cH:g cn=some bT) [cg bT] (ei:g db=some bC) [cg bC] (mT:g du=some bQ) [cg bQ] (rX:g dw=some b6) [cg b6]:Trim b g h [(e0,eA),(s1,a8),(s2,x2),(ea,a7),(cY,bs),(cn,bT),(db,bC),(du,bQ),(dw,b6)]:=(.n aR (.n h1 (.n af (.n aI (.n bK (.n cH (.n ei (.n mT (.n rX .nil)))))))))
theorem Qk {b:Bool}{g h:aM}{e0 s1 s2 ea cY cn db du dw ia:Nat}{eA a8 x2 a7 bs bT bC bQ b6 cw:ab}(aR:g e0=some eA) [cg eA] (h1:g s1=some a8) [cg a8] (af:g s2=some x2) [cg x2] (aI:g ea=some a7) [cg a7] (bK:g cY=some bs) [cg bs] (cH:g cn=some bT) [cg bT] (ei:g db=some bC) [cg bC] (mT:g du=some bQ) [cg bQ] (rX:g dw=some b6) [cg b6] (wY:g ia=some cw) [cg cw]:Trim b g h [(e0,eA),(s1,a8),(s2,x2),(ea,a7),(cY,bs),(cn,bT),(db,bC),(du,bQ),(dw,b6),(ia,cw)]:=(.n aR (.n h1 (.n af (.n aI (.n bK (.n cH (.n ei (.n mT (.n rX (.n wY .nil))))))))))
theorem Y5 {b:Bool}{g h:aM}{e0 s1 s2 ea cY cn db du dw ia gy:Nat}{eA a8 x2 a7 bs bT bC bQ b6 cw bI:ab}(aR:g e0=some eA) [cg eA] (h1:g s1=some a8) [cg a8] (af:g s2=some x2) [cg x2] (aI:g ea=some a7) [cg a7] (bK:g cY=some bs) [cg bs] (cH:g cn=some bT) [cg bT] (ei:g db=some bC) [cg bC] (mT:g du=some bQ) [cg bQ] (rX:g dw=some b6) [cg b6] (wY:g ia=some cw) [cg cw] (TD:g gy=some bI) [cg bI]:Trim b g h [(e0,eA),(s1,a8),(s2,x2),(ea,a7),(cY,bs),(cn,bT),(db,bC),(du,bQ),(dw,b6),(ia,cw),(gy,bI)]:=(.n aR (.n h1 (.n af (.n aI (.n bK (.n cH (.n ei (.n mT (.n rX (.n wY (.n TD .nil)))))))))))
section
variable {P:Program}{N:c6}{ops:Array Oper}{g:aM}{K:aM->Prop}{l:List Oper}{d t:Nat}{ty:TypeId}{pos:String}{after:Array Edge}{v:Value}
theorem gT {G1:List (Nat × ab)}(h:Trim true g (get G1) G1):ar P N ops [] g λg'=>kp g' (get G1):=.fin h
theorem bZ (h:g t=some (.lit v)) (hk:ar P N ops l (cV g d (.lit v)) K) (bc:N.ok d=true:=by rfl) (aW:g d=none:=by rfl):ar P N ops (⟨some d,.move (.tmp t),ty,pos,after,none⟩::l) g K:=al (O.aX (.lit h)) hk bc aW
theorem nw (h:g t=some (.lit v)) (hk:ar P N ops l (cV g d (.lit v)) K) (bc:N.ok d=true:=by rfl) (aW:g d=none:=by rfl):ar P N ops (⟨some d,.assign (.tmp t),ty,pos,after,none⟩::l) g K:=al (O.az (.lit h)) hk bc aW
theorem Lq (h:ofConst v=.lit v) (hk:ar P N ops l (cV g d (.lit v)) K) (bc:N.ok d=true:=by rfl) (aW:g d=none:=by rfl):ar P N ops (⟨some d,.assign (.const v),ty,pos,after,none⟩::l) g K:=al (O.az (.k h)) hk bc aW
end
end Go.Own
namespace Go.Own
open Go
section
variable {α:Type}{g:aM}
end
end Go.Own
namespace Go.Own
open Go
section
variable {α:Type}{P:Program}{N:c6}{g:aM}{d r:Nat}
theorem hJ.kW {o:Oper}{xs:List Operand}{gq:Array TypeId}{f:FuncId}{ys:List ab}{res:ab}{en:bJ α}{L:List α}{G2:List (Nat × ab)}(a1:o.op=.call { callee:=.value (.func f),args:=xs.toArray,argTypes:=gq }) (aS:o.dst=some d) (J:Own.gn g xs=some (.a6 en.z ⟨r,[]⟩ L.length::ys))
  (aC:g r=some (aj en L)) (gQ:bV P f (aj en L::ys) (none::ys.map λ_=>none) res) (aW:gN P f=true) [ao:cg res] [aF:dp ys]
  (c_:Trim false (cv g ⟨r,[]⟩ .dead) (get G2) G2) (aO:get G2 d=none) (bc:N.ok d=true) :
  hJ P N g o d (get ((d,res)::G2)):=by
 have mY:∀ x∈bo en L,cU x:=by
  intro x J;obtain ⟨a,_,aP⟩:=List.mem_flatMap.1 J;exact en.bn a x aP
 have gm:(bo en L).take (L.length * en.z)=bo en L:=List.take_of_length_le (by rw [nm]; exact Nat.le_refl _);have xA:hC (cv g ⟨r,[]⟩ .dead) (get G2):=by
  refine ⟨λt x h=>?_,λt x h=>(c_.spec t x h).2.1,λt z q n m new h=>(c_.spec t _ h).2.2 _ _ _ _ _ rfl⟩;obtain ⟨⟨y,h1,_,aI⟩,_⟩:=c_.spec t x h;rw [<- aI rfl]; exact h1
 have xB:hC (get G2) (get G2):=⟨λt x h=>h,λt x h=>(c_.spec t x h).2.1,λt z q n m new h=>(c_.spec t _ h).2.2 _ _ _ _ _ rfl⟩;have rT:get ((d,res)::G2)=cV (get G2) d res:=by
  funext t;rw [sF]
 rw [rT];refine yD.ok (first:=[]) (caps:=[]) (ys:=.a6 en.z ⟨r,[]⟩ L.length::ys) (tk:=λ_=>true) (vw:=false) (outs:=none::ys.map λ_=>none) (g1:=cv g ⟨r,[]⟩ .dead) (g2:=get G2) (g4:=get G2) (l:=[]) (ks:=λ_=>0) (xs0:=.a6 en.z ⟨r,[]⟩ L.length::ys) (xs1:=aj en L::ys) (args:=aj en L::ys) (res:=res) a1 aS rfl (by simpa using J)
  ⟨aW,by simp,by simp,λk x h=>.inl (by simpa using h),?_,xA,λk x y J ax=>by simpa using ax,gQ,by simpa using ao.bn,λk x h=>?_,λj p x ah=>by simp at ah,by simp,λi j hi ah _=>by simp at hi,xB⟩ aO bc wm.refl
 ·have h1:Take (cv g ⟨r,[]⟩ .dead) ((bo en L).take (L.length * en.z)) (bo en L) (cv g ⟨r,[]⟩ .dead):=by rw [gm]; exact .bn mY
  exact .a6 (N:=L.length) (by simp [bD,aC,ab.at]) (Nat.le_refl _) h1 (.bn aF.bn)
 ·cases k with
  | zero=>simp at h
  | succ k =>
   simp only [List.getElem?_cons_succ,List.getElem?_map] at h;cases aP:ys[k]? <;> rw [aP] at h <;> cases h
end
end Go.Own
namespace Go.Own
open Go
class uW (x:ab):Prop where pl:p_ x
class DV (cs:List ab):Prop where pl:∀ x∈cs,p_ x
instance {v:Value}:uW (.lit v):=⟨.lit⟩
instance:uW .aK:=⟨.aK⟩
instance {z n:Nat}{cs:List ab} [h:dp cs]:uW (.bm z n cs):=⟨.bm h.bn⟩
instance {α:Type}{e:bJ α}{L:List α}:uW (ag e L):=⟨.bm (dp.bn (cs:=bo e L))⟩
instance {cs:List ab} [h:DV cs]:uW (.agg cs):=⟨.agg h.pl⟩
instance:DV []:=⟨by simp⟩
instance {x:ab}{cs:List ab} [h:uW x] [aQ:DV cs]:DV (x::cs):=⟨λy ax=>by
 rcases List.mem_cons.1 ax with rfl | ax
 ·exact h.pl
 ·exact aQ.pl y ax⟩
class DT (G:List (Nat × ab)):Prop where bn:∀ t x,get G t=some x->cU x
instance:DT []:=⟨λt x h=>by cases h⟩
instance {s:Nat}{x:ab}{G:List (Nat × ab)} [h:cg x] [aQ:DT G]:DT ((s,x)::G):=⟨λt y ax=>by
 simp only [get] at ax
 split at ax
 ·cases ax; exact h.bn
 ·exact aQ.bn t y ax⟩
class yQ (acc:Acc):Prop where bn:∀ e∈acc,∀ x,e.2.2=some x->cU x
instance:yQ []:=⟨by simp⟩
instance {k d:Nat}{x:ab}{acc:Acc} [h:cg x] [aQ:yQ acc]:yQ ((k,d,some x)::acc):=⟨λe he y ax=>by
 rcases List.mem_cons.1 he with rfl | he
 ·cases ax; exact h.bn
 ·exact aQ.bn e he y ax⟩
instance {k d:Nat}{acc:Acc} [aQ:yQ acc]:yQ ((k,d,none)::acc):=⟨λe he y ax=>by
 rcases List.mem_cons.1 he with rfl | he
 ·cases ax
 ·exact aQ.bn e he y ax⟩
theorem L9 {G:List (Nat × ab)}{A:Nat->Bool}{acc:Acc} [h:DT G] [aQ:yQ acc]:GC (dh (get G) A acc):=by
 have key:∀ t x,dh (get G) A acc t=some x->cU x:=λt x J=>by
  rcases uM J with ⟨e,he,_,_,af⟩ | ⟨_,af⟩
  ·exact aQ.bn e he x af
  ·exact h.bn t x af
 exact ⟨λt x J=>.bn (key t x J),λt z q n m new J=>by cases key t _ J⟩
end Go.Own
namespace Go.Own
open Go Go.MapKept Go.ChangeMaps
section
variable {P:Program}{w:World}{I:bb}{T:Array Value}{g g2:aM}{Fs:Nat->bb}
theorem Sn {w:World}{b:Nat}{es hL:Array MapEntry}{c fS:Nat}(h:w.heap[b]?=some (.map es c)) (a:Addr):(setBlock w b (.map hL fS)).cell? a=w.cell? a:=by
 by_cases e:a.block=b
 ·have h1:(setBlock w b (.map hL fS)).heap[a.block]?=some (.map hL fS):=by rw [e]; exact heap_setBlock_same h _
  have af:w.heap[a.block]?=some (.map es c):=by rw [e]; exact h
  unfold World.cell?
  grind
 ·have h1:(setBlock w b (.map hL fS)).heap[a.block]?=w.heap[a.block]?:=heap_setBlock_other h _ e;unfold World.cell?;rw [h1]
theorem Qu {w:World}{b:Nat}{es hL:Array MapEntry}{c fS:Nat}(h:w.heap[b]?=some (.map es c)):∀ (p:List Nat) (v:Value),walk (setBlock w b (.map hL fS)) v p=walk w v p
 | [],v=>rfl
 | k::p,v=>by
  have aa:child (setBlock w b (.map hL fS)) v k=child w v k:=by
   unfold child
   split <;> first | rfl | exact Sn h _
  simp only [walk,aa];cases child w v k with
  | none=>rfl
  | some u=>exact Qu h p u
theorem Zg {w:World}{b:Nat}{es hL:Array MapEntry}{c fS:Nat}(h:w.heap[b]?=some (.map es c)) (T:Array Value) (p:Place):dW (setBlock w b (.map hL fS)) T p=dW w T p:=by
 grind [dW,Qu]
theorem X0 {w:World}{b:Nat}{es hL:Array MapEntry}{c fS:Nat}(h:w.heap[b]?=some (.map es c)) {T:Array Value}{r:ab}{v:Value}(ao:fD w T r v):fD (setBlock w b (.map hL fS)) T r v:=by
 cases r <;> simp only [fD,Zg h] at ao ⊢ <;> exact ao
theorem cG.Xa (bl:cG w I T g Fs) {p:Place}{q fQ:Array MapEntry->Nat->Prop}{b:Nat}{es hL:Array MapEntry}{c fS:Nat}(au:bD g p=some (.mp q)) (hv:dW w T p=some (.map (some b))) (hm:w.heap[b]?=some (.map es c)) (bg:fQ hL fS)
  (zn:∀ t x,g2 t=some x->cv g p (.mp fQ) t=some x) (r_:∀ t x,g2 t=some x->∀ y,g t=some y->jm (gE g2) y) (la:∀ t z q n m new,g2 t≠some (.bM z q n m new)) (ke:g2 p.root≠none) :
  ∃ b7,cG (setBlock w b (.map hL fS)) I T g2 b7/\∀ t c,b7 t c->Fs t c:=by
 have o6:∀ k,k≠b->(setBlock w b (.map hL fS)).heap[k]?=w.heap[k]?:=λk hk=>heap_setBlock_other hm _ hk;have Dy:(setBlock w b (.map hL fS)).heap[b]?=some (.map hL fS):=heap_setBlock_same hm _;have Qr:(setBlock w b (.map hL fS)).heap.size=w.heap.size:=by simp [setBlock]
 have VN:∀ r v,fD w T r v->fD (setBlock w b (.map hL fS)) T r v:=λr v h=>X0 hm h;generalize vt:setBlock w b (.map hL fS)=w' at *;obtain ⟨eA,iH⟩:∃ eA,g p.root=some eA:=by
  grind [bD]
 have px:eA.at p.path=some (.mp q):=by simpa [bD,iH] using au
 obtain ⟨v0,iQ,gG⟩:=bl.rel _ _ iH;have Bz:=gG.gJ (by rintro z q n m new rfl; cases (ab.sC px).2);have lL:jm (gE g2) eA:=by
  cases af:g2 p.root with
  | none=>exact absurd af ke
  | some y=>exact r_ _ _ af _ iH
 have qn:=Bz.yc lL;obtain ⟨h0,cA,hw,dI,dy,_,kg⟩:=R.focus p.path qn px;have I1:h0=.map (some b):=by
  grind [dW]
 subst I1;obtain ⟨eC,abC,pg,e,a1,_,mo⟩:=dI.Jn;cases e;have mw:cA b:=(mo b).2 rfl;have u_:∀ c,I c->w'.heap[c]?=w.heap[c]?:=λc aa=>o6 c λe=>bl.bm _ b (dy b mw) (e ▸ aa);have EI:∀ t,t≠p.root->¬ Fs t b:=λt aw h=>aw (bl.eJ _ _ _ h (dy b mw));have refs:∀ r u,(dT w T g r u/\gE g2 r)->dT w' T g2 r u:=λr u h=>⟨VN r u h.1.1,h.2⟩;obtain ⟨c9,Ev,pq⟩:=kg w' I (dT w' T g2) (.mp fQ) cA ⟨u_,λc aa aF=>o6 c λe=>aF (e ▸ mw),λ_ h=>h,refs⟩ (.mp Dy bg mo) λc h _=>h;have Es:∀ c,c9 c->Fs p.root c:=λc aa=>by
  grind
 let b7:Nat->bb:=λt c=>if t=p.root then c9 c else g2 t≠none/\Fs t c
 have pr:∀ t c,b7 t c->Fs t c:=by
  grind
 refine ⟨b7,⟨λt x J=>?_,λt aw c aa=>?_,λt t' c aa fr=>bl.eJ t t' c (pr t c aa) (pr t' c fr),λt c aa hi=>bl.bm t c (pr t c aa) hi,λc aa=>by rw [Qr]; exact bl.lt c aa,λt t' z q n m new bE cF m' c5 h1=>absurd h1 (la _ _ _ _ _ _)⟩,pr⟩
 ·have gh:=zn t x J;by_cases aw:t=p.root
  ·subst aw;have ES:eA.setAt p.path (.mp fQ)=x:=by simpa [cv,iH] using gh
   refine ⟨v0,iQ,.tree ?_⟩
   grind
  ·rw [uG aw] at gh;obtain ⟨u,hu,aZ⟩:=bl.rel t x gh;replace aZ:=aZ.gJ (by rintro z q n m new rfl; exact la _ _ _ _ _ _ J);have Bt:b7 t=Fs t:=by
    grind
   refine ⟨u,hu,.tree ?_⟩;rw [Bt];exact (aZ.yc (r_ t x J x gh)).frame u_ (λ_ h=>h) refs λc aa=>o6 c λe=>EI t aw (e ▸ aa)
 grind
theorem Ty {w:World}{b:Nat}{es hL:Array MapEntry}{c fS:Nat}(h:w.heap[b]?=some (.map es c)) (a:Addr):(setBlock w b (.map hL fS)).frozen? a=w.frozen? a:=by
 unfold World.frozen?
 grind [heap_setBlock_same,heap_setBlock_other]
theorem bk.Xb {N:c6}{o:Oper}{t:TypeId}{m x v:Operand}{p:Place}{q fQ:Array MapEntry->Nat->Prop}{Y Z x2:ab}{ot dJ:Value}{G2:List (Nat × ab)}(a1:o.op=.mapUpdate t m x v) (aS:o.dst=none) (hm:bt g m=some (.gB p)) (au:bD g p=some (.mp q)) (J:bt g x=some Y) (ax:bt g v=some Z)
  (dj:∀ (w:World) (I:bb) (ρ:ab->Value->Prop) (v:Value),R w I ρ Y v cy->v=ot) (H3:∀ (w:World) (I:bb) (ρ:ab->Value->Prop) (v:Value),R w I ρ Z v cy->v=dJ)
  (ao:∀ (w:World) (b:Nat) (es:Array MapEntry) (c:Nat),w.heap[b]?=some (.map es c)->q es c->∃ hL fS,(Instr.mapUpdate t (.map (some b)) ot dJ).run P w=.ok () (setBlock w b (.map hL fS))/\fQ hL fS)
  (iu:cv g p (.mp fQ) p.root=some x2) (ke:(get G2 p.root).isSome=true) {y0:ab}(rk:g p.root=some y0) [e9:cg y0] (c_:kG g (get G2) p.root x2 G2):bk P N g o (get G2):=by
 refine .Kv λw I T Fs h a aP bc K Q zg=>?_;obtain ⟨⟨b,av,hv⟩,_⟩:=(kf h hm aP).Ow;obtain ⟨gz,cA,ir,dI,dy⟩:=h.part au (by simp);have jV:=av;rw [av] at ir;cases ir;obtain ⟨eC,es,c,e,bY,bg,mo⟩:=dI.Jn;cases e;obtain ⟨hL,fS,hP,zt⟩:=ao w eC es c bY bg;have VR:(execOp a.eval o).run P w=.ok .skip (setBlock w eC (.map hL fS)):=by
  simp [execOp,a1,hv,dj _ _ _ _ (kf h J aP),H3 _ _ _ _ (kf h ax aP),hP]
 have c1:∀ t x,get G2 t=some x->cv g p (.mp fQ) t=some x:=λt x J=>by
  rcases c_.spec t x J with ⟨h1,af,_⟩ | ⟨h1,af,_⟩
  ·grind [uG]
  grind
 have c2:∀ t x,get G2 t=some x->∀ y,g t=some y->jm (gE (get G2)) y:=λt x J y ax=>by
  rcases c_.spec t x J with ⟨h1,af,aI⟩ | ⟨h1,af,aI⟩
  ·rw [af] at ax;cases ax;rcases aI with aI | ⟨aI,_⟩
   ·cases aI with
    | n h=>exact .bn h
    | p _ _ bK fW=>exact .ref rfl (uD bK fW)
    | r _ _ bK oe=>exact .ref rfl (Av bK oe)
   ·exact jm.ref (by cases aI; rfl) aI.Ft
  ·subst h1;rw [rk] at ax;cases ax;exact .bn e9.bn
 have jU:∀ t z q n m new,get G2 t≠some (.bM z q n m new):=λt z q n m new J=>by
  rcases c_.spec t _ J with ⟨_,_,aI | ⟨aI,_⟩⟩ | ⟨_,_,aI⟩
  ·exact aI.fA _ _ _ _ _ rfl
  ·exact aI.fA _ _ _ _ _ rfl
  ·cases aI
 obtain ⟨b7,dY,gI⟩:=h.Xa (g2:=get G2) au jV bY zt c1 c2 jU (by intro e; rw [e] at ke; cases ke);unfold Oper.wp Oper.upon;simp only [VR];refine zg _ _ ⟨by rw [aS]; rfl,by rw [aS]; exact hB.refl,I,b7,by rw [aS]; simpa [Act.put,aP] using dY,⟨⟨rfl,rfl,rfl,by simp [setBlock],λk _ hk=>heap_setBlock_other bY _ λe=>hk ⟨_,e ▸ dy eC ((mo eC).2 rfl)⟩,λa _=>Ty bY a,Nat.le_refl _⟩,λ_ h=>h,λ_ h=>.inl h,λc ⟨t,aa⟩=>.inl ⟨t,gI t c aa⟩⟩⟩ λt _=>by rw [aS]; rfl
end
end Go.Own
namespace Go.Own
open Go Go.MapKept Go.ChangeMaps Go.WideElems
open Go.Maps (Keyed)
set_option linter.unusedVariables false
variable {kk lr:Type}{P:Program}{k e:TypeId}
abbrev yT:Value->Option (DataW Value × List MemPlace):=λv=>some (.held v,[])
def o2 [DecidableEq kk]:List (kk × lr)->kk->Option lr
 | [],_=>none
 | p::m,x=>if p.1=x then some p.2 else o2 m x
def sl [DecidableEq kk] (ok:kk->Bool) (z:lr) (m:List (kk × lr)) (x:kk):Option lr:=if ok x then some ((o2 m x).getD z) else none
def zN (ok:kk->Bool) (m:List (kk × lr)) (x:kk) (y:lr):Option (List (kk × lr)):=if ok x&&decide (m.length<=lim) then some ((x,y)::m) else none
structure AX (P:Program) (k:TypeId) (kk:Type) where
 ot:kk->Value
 xC:kk->Lit
 Cn:kk->ab
 ok:kk->Bool
 keyed:Keyed P k
 key:∀ x,ok x=true->keyOf P k (ot x)=some (xC x)
 inj:∀ x y,xC x=xC y->x=y
 wB:∀ (x:kk) (w:World) (I:bb) (ρ:ab->Value->Prop) (v:Value),R w I ρ (Cn x) v cy->v=ot x
structure AY (P:Program) (e:TypeId) (lr:Type) where
 o5:lr->Value
 AE:lr->ab
 z:lr
 zero:∀ w,(zeroValue e).run P w=.ok (o5 z) w
 one:∀ x,(o5 x).oneCell'=true
 wB:∀ (x:lr) (w:World) (I:bb) (ρ:ab->Value->Prop) (v:Value),R w I ρ (AE x) v cy->v=o5 x
 va:∀ (x:lr) (w:World) (I:bb) (ρ:ab->Value->Prop),R w I ρ (AE x) (o5 x) cy
def yl (P:Program) (k:TypeId) (es:Array MapEntry):List (Lit × DataW Value):=(es.toList.map (rg P k yT)).foldr DataW.insert []
def lz [DecidableEq kk] (K:AX P k kk) (V:AY P e lr) (m:List (kk × lr)):Array MapEntry->Nat->Prop:=λes c=>Fit P k yT es c/\es.size<=m.length/\∀ x Gw,(DataW.map (yl P k es)).atKey (K.xC x) Gw=match o2 m x with | some y=>.held (V.o5 y) | none=>Gw
variable [DecidableEq kk] {K:AX P k kk}{V:AY P e lr}{m m':List (kk × lr)}{x:kk}{y:lr}{t:TypeId}
theorem lz.nil:lz K V [] #[] 0:=⟨⟨by simp,stamped_empty 0,by simp⟩,Nat.le_refl _,λx Gw=>rfl⟩
theorem lz.look (ok:Bool) (dd:K.ok x=true) (aw:P.underlying t=some (.map k e)) (w:World) (b:Nat) (es:Array MapEntry) (c:Nat) (av:w.heap[b]?=some (.map es c)) (h:lz K V m es c) :
  (Instr.lookup t (.map (some b)) (K.ot x) ok).run P w=.ok (if ok then .tuple #[V.o5 ((o2 m x).getD V.z),.bool (o2 m x).isSome] else V.o5 ((o2 m x).getD V.z)) w:=by
 obtain ⟨F,_,gu⟩:=h;have gu:=gu x;rcases Maps.fit_look ok K.keyed aw (V.zero w) av F (K.key x dd) with ⟨hP,_,af⟩ | ⟨hy,y,_,_,hP,ax,af,_⟩
 ·have:o2 m x=none:=by
   cases aO:o2 m x with
   | none=>rfl
   | some y =>
    have h1:=gu .nil;rw [aO] at h1;have aI:=af .nil;unfold yl at h1;rw [h1] at aI; cases aI
  rw [hP,this]; rfl
 ·cases ax;cases aO:o2 m x with
  | none =>
   have h1:=gu .nil;rw [aO] at h1;have aI:=af .nil;unfold yl at h1;rw [h1] at aI; cases aI
  | some y =>
   have h1:=gu .nil;rw [aO] at h1;have aI:=af .nil;unfold yl at h1;rw [h1] at aI;have bK:hy.val=V.o5 y:=by simpa using aI.symm
   rw [hP,bK]; rfl
theorem lz.put (aR:zN K.ok m x y=some m') (aw:P.underlying t=some (.map k e)) (w:World) (b:Nat) (es:Array MapEntry) (c:Nat) (av:w.heap[b]?=some (.map es c)) (h:lz K V m es c) :
  ∃ hL fS,(Instr.mapUpdate t (.map (some b)) (K.ot x) (V.o5 y)).run P w=.ok () (setBlock w b (.map hL fS))/\lz K V m' hL fS:=by
 unfold zN at aR
 split at aR
 ·rename_i aa;cases aR;simp only [Bool.and_eq_true,decide_eq_true_eq] at aa;obtain ⟨dd,ak⟩:=aa;obtain ⟨F,aC,gu⟩:=h;have NO:=K.key x dd;obtain ⟨hL,fS,hP,c9,nL,_⟩:=Maps.fit_store (R':=yT) K.keyed aw av F (by have:maxLen=9223372036854775807:=rfl; simp only [lim] at ak; omega) (λ_ _ _ _ aY=>aY) NO (rfl:yT (V.o5 y)=some (.held (V.o5 y),[]));refine ⟨hL,fS,hP,c9,?_,λx' Gw=>?_⟩
  ·have cz:hL.size=((hL.toList.map (rg P k yT)).foldr DataW.insert []).length:=by rw [length_sorted]; simp
   rw [cz,nL];unfold putKey;rw [length_insert];have cf:=List.length_filter_le (notKey (K.xC x)) ((es.toList.map (rg P k yT)).foldr DataW.insert []);rw [length_sorted] at cf;simp at cf ⊢;omega
  ·have fO:(DataW.map (yl P k hL))=(DataW.map (yl P k es)).put (K.xC x) (.held (V.o5 y)):=by
    rw [DataW.put_eq]; unfold yl; rw [nL]
   rw [fO];by_cases J:x=x'
   ·subst J;rw [Maps.atKey_put_same ⟨_,rfl⟩ (K.keyed.key NO)];simp [o2]
   ·rw [Maps.atKey_put_other (λe=>J (K.inj _ _ e).symm),gu];simp [o2,J]
 ·cases aR
section
variable {N:c6}{g:aM}{a b c:Operand}{p:Place}{ty:TypeId}
instance {q:Array MapEntry->Nat->Prop}:cg (.mp q):=⟨.mp⟩
instance {q:Array MapEntry->Nat->Prop}:cg (.imp q):=⟨.imp⟩
instance {q:Array MapEntry->Nat->Prop}:p7 (.mp q):=⟨.mp⟩
theorem O.W' (K:AX P k kk) (V:AY P e lr):ch P g (.makeMap t none) ty (.mp (lz K V [])):=.qG (.makeMap lz.nil)
theorem O.qD {r:lr}{X Y:ab}(hm:Rd g a (.gB p)) (au:bD g p=some (.mp (lz K V m))) (J:Rd g b Y) (wZ:K.Cn x=Y) (aw:P.underlying t=some (.map k e)) (h:sl K.ok V.z m x=some r) (tP:V.AE r=X):ch P g (.lookup t a b false) ty X:=by
 subst tP wZ;unfold sl at h
 split at h
 ·rename_i dd;cases h;exact .eU (.Fa hm.bt au J.bt (K.wB x) (V.va _) λw b es c av bg=>lz.look false dd aw w b es c av bg)
 ·cases h
theorem O.Cv {r:lr}{X Y:ab}(hm:Rd g a (.imp (lz K V m))) (J:Rd g b Y) (wZ:K.Cn x=Y) (aw:P.underlying t=some (.map k e)) (h:sl K.ok V.z m x=some r) (tP:V.AE r=X):ch P g (.lookup t a b false) ty X:=by
 subst tP wZ;unfold sl at h
 split at h
 ·rename_i dd;cases h;exact .eU (.Cv hm.bt J.bt (K.wB x) (V.va _) λw b es c av bg=>lz.look false dd aw w b es c av bg)
 ·cases h
theorem bk.mt {o:Oper}{x2 y0 Y Z:ab}{G2:List (Nat × ab)}(a1:o.op=.mapUpdate t a b c) (aS:o.dst=none) (hm:Rd g a (.gB p)) (au:bD g p=some (.mp (lz K V m))) (J:Rd g b Y) (wZ:K.Cn x=Y) (ax:Rd g c Z) (H3:V.AE y=Z) (aw:P.underlying t=some (.map k e)) (h:zN K.ok m x y=some m')
  (iu:cv g p (.mp (lz K V m')) p.root=some x2) (ke:(get G2 p.root).isSome=true) (rk:g p.root=some y0) [e9:cg y0] (c_:kG g (get G2) p.root x2 G2):bk P N g o (get G2):=by
 subst wZ H3;exact .Xb a1 aS hm.bt au J.bt ax.bt (K.wB x) (V.wB y) (λw b es c av bg=>lz.put h aw w b es c av bg) iu ke rk c_
end
def sj (n:Int):Bool:=decide (-9223372036854775808<=n/\n<9223372036854775808)
def Q4 (hk:P.underlying k=some (.int .i64)):AX P k Int where
 ot n:=.int .i64 n
 xC n:=.int .i64 n
 Cn n:=ae n
 ok:=sj
 keyed:=Maps.int_keyed hk
 key n h:=Maps.keyOf_int_mk hk (by
  unfold sj at h;have:=of_decide_eq_true h;unfold Lit.wf;rw [Bool.and_eq_true];refine ⟨decide_eq_true ?_,decide_eq_true ?_⟩
  ·show (-9223372036854775808:Int)<=n; omega
  ·show n<=(9223372036854775807:Int); omega)
 inj x y h:=by cases h; rfl
 wB x w I ρ v h:=h.hA.1
def Q5 (aY:(P.info? e).bind (·.zero)=some (.int .i64 0)):AY P e Int where
 o5 n:=.int .i64 n
 AE n:=ae n
 z:=0
 zero w:=G0 aY w
 one _:=rfl
 wB x w I ρ v h:=h.hA.1
 va x w I ρ:=.lit rfl λ_ h=>h
end Go.Own
namespace Go.Own
open Go
section
variable {α:Type}{P:Program}{N:c6}{g:aM}{d r:Nat}{ty t t2 e:TypeId}{a b:Operand}{k kT:IntKind}{m n:Int}{p:Place}
def Oq (L:List α) (m:Int):Option Unit:=if 0<=m/\m<=L.length then some () else none
instance:ly ai:=⟨λx=>[.int .i64 x],λ_=>rfl,λx v hv=>by rw [List.mem_singleton.1 hv]; rfl⟩
theorem O.P6 {en:bJ α}{L:List α}{u:Unit}(J:Rd g a (.a6 en.z p L.length)) (ak:Rd g b (.lit (.int k m))) (au:bD g p=some (aj en L)) (aw:fu P t e en.z=true) (h:Oq L m=some u):ch P g (.slice t a (some b) none none) ty (.sub en.z p m.toNat (L.length - m.toNat)):=by
 unfold Oq at h
 split at h
 ·rename_i aa;obtain ⟨i,rfl⟩:=Int.eq_ofNat_of_zero_le aa.1;exact .eU (.F4 J.bt ⟨_,ak.bt⟩ rfl aw (by omega) (Nat.le_refl _) ⟨_,_,au,by omega⟩)
 ·cases h
def Me (lo nd:Nat) (L S:List α):Option (List α):=if 0<min S.length nd/\lo+nd<=L.length then some (L.take lo++S.take (min S.length nd)++L.drop (lo+min S.length nd)) else none
def Cy (e:bJ α) [h:ly e] (L:List α):List Value:=L.flatMap h.rI
theorem JO (e:bJ α) [h:ly e] (L:List α):bo e L=(Cy e L).map .lit:=by
 induction L with
 | nil=>rfl
 | cons x L aU =>
  have:bo e (x::L)=e.cells x++bo e L:=by simp [bo]
  rw [this,aU,h.cells];simp [Cy]
theorem Q8.bm {en:bJ α}{S:List α}:Src g (ag en S) en.z S.length (bo en S):=.bm
theorem Q8.a6 {en:bJ α} [ly en] {L:List α}{q:Place}{n:Nat}(bg:bD g q=some (aj en L)) (aF:n<=L.length):Src g (.a6 en.z q n) en.z (L.take n).length (bo en (L.take n)):=by
 have h1:(L.take n).length=n:=by rw [List.length_take]; omega
 have af:bo en (L.take n)=(((bo en L).take (n * en.z)).mapIdx λi x=>gx 0 (q.push i) x):=by
  rw [yd,JO];apply List.ext_getElem?;intro j;rw [List.getElem?_mapIdx];cases ah:((Cy en (L.take n)).map ab.lit)[j]? with
  | none=>rfl
  | some y =>
   obtain ⟨v,_,rfl⟩:=List.mem_map.1 (List.mem_of_getElem? ah);rfl
 rw [h1,af];exact .a6 bg aF
theorem YA {z:Nat}(h:fu P t e z=true):(P.info? e).map (·.size)=some z:=by
 grind [fu]
theorem bk.br {o:Oper}{en:bJ α} [ak:ly en] {L S L':List α}{lo nd:Nat}{KU fi:ab}{G2:List (Nat × ab)}(a1:o.op=.call { callee:=.builtin .copy,args:=#[a,b],argTypes:=#[t,t2] }) (aS:o.dst=some d) (aP:bt g a=some KU) (WH:KU=.sub en.z ⟨r,[]⟩ lo nd\/(KU=.a6 en.z ⟨r,[]⟩ nd/\lo=0)) (av:bt g b=some fi)
  (r':Src g fi en.z S.length (bo en S)) (aC:g r=some (aj en L)) (zF:en.z=1) (aw:fu P t e 1=true) (h:Me lo nd L S=some L') (ke:(get G2 r).isSome=true) (c_:kG g (get G2) r (aj en L') G2) (vh:get G2 d=none) (bc:N.ok d=true) :
  bk P N g o (get ((d,ae ((min S.length nd:Nat):Int))::G2)):=by
 unfold Me at h;by_cases aa:0<min S.length nd/\lo+nd<=L.length
 case neg=>rw [if_neg aa] at h; cases h
 rw [if_pos aa] at h;obtain ⟨lL,aco⟩:=aa;cases h;generalize hk:min S.length nd=k at *;have acn:k<=S.length:=by omega
 have acp:k<=nd:=by omega
 refine .Kv λw I T Fs h b' zi Ul K Q zg=>?_;obtain ⟨hu,he,fX⟩:=qO (w:=w) aw;have au:bD g ⟨r,[]⟩=some (aj en L):=by simp [bD,aC,ab.at]
 have Nc:=kf h aP zi;obtain ⟨v0,cA,iQ,dI,dy⟩:=h.part au (by simp);obtain ⟨a0,ZH,rfl,k9,hlen,rf,rh⟩:=dI.nk;have Uh:0<L.length:=by omega
 cases a0 with
 | none=>have:=rh Uh; simp at this
 | some Lt =>
 obtain ⟨BV,BW⟩:=rf Lt rfl;obtain ⟨g0,acV,acX⟩:=Lt;simp only at BV BW;subst BV BW;have mw:cA g0:=dI.qF g0 rfl
 -- the target
 have Ij:∃ cap,b'.eval a=.slice (some ⟨g0,lo,none⟩) nd cap:=by
  rcases WH with rfl | ⟨rfl,rfl⟩
  ·obtain ⟨⟨lB,uU,pg,aE,c1,h1,af,_,_,cH⟩,_⟩:=Nc.xv;rw [h1] at iQ;cases iQ;obtain ⟨ad,cz,cf⟩:=cH (by omega);cases cz;rw [af,cf,zF];exact ⟨c1,by simp⟩
  ·obtain ⟨⟨lB,uU,pg,h1,af,_⟩,_⟩:=Nc.nc;rw [h1] at iQ;cases iQ;exact ⟨_,af⟩
 obtain ⟨S4,Ij⟩:=Ij
 -- the source
 obtain ⟨Dm,Ym,news,vo,IK,B6,l6,ha,hp,aZ⟩:=r'.sound h (kf h av zi);rw [zF,Nat.mul_one] at IK;cases Dm with
 | none=>have:=B6 (by omega) (by omega); simp at this
 | some PM =>
 have acB:news=Cy en S:=by
  rw [JO,List.length_map] at ha;apply List.ext_getElem ha.symm;intro j h1 af;have:=(aZ j (.lit (Cy en S)[j]) news[j] (by rw [JO,List.getElem?_map,List.getElem?_eq_getElem af]; rfl) (List.getElem?_eq_getElem h1)).hA.1;exact this
 -- the block
 cases dI with
 | ref J=>simp [ab.isRef] at J
 | @own _ _ _ _ cj us bL _ qu hU h1 ao ob iO aN =>
 obtain ⟨l_,bY⟩:=qu;rcases bY with ⟨bY,_⟩ | ⟨eC,cap,cur,bY,s',j1,Au,x9,Dh,Di⟩
 ·cases bY
 cases bY;have Ns:L.length<=cur.size:=by
  have wY:(cur.toList.take (L.length * en.z)).length=L.length * en.z:=by rw [Di,l_]
  rw [List.length_take,zF,Nat.mul_one,Array.length_toList] at wY;rw [zF] at Dh;omega
 have Ez:(news.take k).length=k:=by rw [List.length_take]; omega
 have hP:(execOp b'.eval o).run P w=.ok (.value (goInt k)) (w.setRow g0 (e5 cur.toList lo (news.take k)).toArray):=by
  have rX:=run_copy_row (P:=P) w t t2 o.type e g0 lo nd S4 PM S.length Ym cur cj (news.take k) hu (YA aw) j1 (by rw [Ez]; exact hk.symm) (λj v ah=>by
   rw [List.getElem?_take] at ah
   split at ah
   ·exact l6 PM rfl j v ah
   ·cases ah) (by rw [Ez]; omega) (λv hv=>by
   obtain ⟨j,ah⟩:=List.getElem?_of_mem (List.mem_of_mem_take hv);exact hp j v ah)
  rw [Ez] at rX;have rT:(cur.toList.take lo++news.take k++cur.toList.drop (lo+k))=e5 cur.toList lo (news.take k):=by unfold e5; rw [Ez]
  rw [rT] at rX;simp [execOp,a1,resolve,invoke,Ij,vo,builtin,rX]
 -- the state
 have VO:∀ (j:Nat) (x:ab) (u:Value),((bo en S).take k)[j]?=some x->(news.take k)[j]?=some u->R w I (fD w T) x u cy:=λj x u J hu=>by
  rw [List.getElem?_take] at J hu
  split at J
  ·rename_i ah;rw [if_pos ah] at hu;exact (aZ j x u J hu).frame (λ_ _=>rfl) (λ_ h=>h) (λ_ _ h=>h.1) λ_ _=>rfl
  ·cases J
 have hH:Hand w I (fD w T) Fs ((bo en S).take k) (news.take k) (λ_=>cy) :=
  ⟨by rw [List.length_take,List.length_take,ha],VO,λ_ _ _ _ _ h=>h.elim,λ_ _ _ _ h=>h.elim,λ_ _ _ h=>h.elim⟩
 have Nr:((bo en S).take k).length=k:=by rw [List.length_take,ha]; omega
 have Ug:(bo en L).length=L.length:=by rw [nm,zF,Nat.mul_one]
 have r6:(aj en L).e5 lo ((bo en S).take k)=aj en (L.take lo++S.take k++L.drop (lo+k)):=by
  show ab.own en.z L.length (e5 (bo en L) lo ((bo en S).take k))=_;have cz:e5 (bo en L) lo ((bo en S).take k)=bo en (L.take lo++S.take k++L.drop (lo+k)):=by
   unfold e5;rw [Nr,FO,FO];have ln:=yd en L lo;have Df:=yd en S k;have Dg:=Ay en L (lo+k);rw [zF,Nat.mul_one] at ln Df Dg;rw [ln,Df,Dg]
  unfold aj;rw [cz];congr 1;simp; omega
 have VF:∀ (j:Nat) (u:Value),(news.take k)[j]?=some u->u.oneCell'=true:=λj u hu=>by
  rw [List.getElem?_take] at hu
  split at hu
  ·exact hp j u hu
  ·cases hu
 have c1:∀ t x,get G2 t=some x->cv g ⟨r,[]⟩ ((aj en L).e5 lo ((bo en S).take k)) t=some x:=λt x J=>by
  rw [r6];rcases c_.spec t x J with ⟨h1,af,_⟩ | ⟨h1,af,_⟩
  ·rw [uG h1]; exact af
  ·subst h1 af; simp [cv,aC,ab.setAt]
 have c2:∀ t x,get G2 t=some x->∀ y,g t=some y->jm (λq=>gE g q/\Clear ⟨r,[]⟩ lo ((bo en S).take k).length q/\gE (get G2) q) y:=λt x J y ax=>by
  rcases c_.spec t x J with ⟨h1,af,aI⟩ | ⟨h1,af,aI⟩
  ·rw [af] at ax; cases ax;rcases aI with aI | ⟨_,c2,Ta⟩
   ·exact aI.Kg
   ·cases Ta
  ·subst h1; rw [aC] at ax; cases ax; exact .bn (.own (pV en L))
 have jU:∀ t z q n m new,get G2 t≠some (.bM z q n m new):=λt z q n m new J=>by
  rcases c_.spec t _ J with ⟨_,_,aI | ⟨aI,_⟩⟩ | ⟨_,_,aI⟩
  ·exact aI.fA _ _ _ _ _ rfl
  ·exact aI.fA _ _ _ _ _ rfl
  ·cases aI
 obtain ⟨iY,h7,gI⟩:=h.mE.store (g2:=get G2) au (.inl rfl) (k:=lo) (cs':=(bo en S).take k) (by rw [Nr,Ug]; omega) hH (λx J=>pV en S x (List.mem_of_mem_take J)) VF c1 c2 jU (by intro e; rw [e] at ke; cases ke) iQ rfl j1;have nL:=h7.uC (d:=d) (x:=ae (k:Int)) (v:=goInt k) (F:=cy) vh (by rw [<- zi,Ul]; exact c6.lt bc) (.tree (.lit rfl λ_ h=>h)) (λ_ _ h=>h.elim) (λ_ h=>h.elim) (by rintro z p n m new e; cases e);unfold Oper.wp Oper.upon;simp only [hP];have rT:get ((d,ae (k:Int))::G2)=cV (get G2) d (ae (k:Int)):=by
  funext t;rw [sF]
 rw [<- rT] at nL;have tW:∃ t,Fs t g0:=⟨_,dy g0 mw⟩;refine zg _ _ ⟨by rw [aS]; rfl,by rw [aS]; exact hB.put bc _ _,I,_,by rw [aS]; simpa [Act.put,zi] using nL,⟨⟨rfl,rfl,rfl,by simp,λc _ aa=>setRow_other w g0 c _ (λe=>aa (e ▸ tW)),λa _=>HC w g0 _ a,Nat.le_refl _⟩,λ_ h=>h,λ_ h=>.inl h,λc aa=>?_⟩⟩ λt aw=>by rw [aS]; simp only [Act.put]; rw [Array.getElem?_setIfInBounds_ne]; rintro rfl; exact aw aS
 obtain ⟨t,aa⟩:=aa;simp only [uL] at aa
 split at aa
 ·exact aa.elim
 ·rcases gI t c aa with jb | ⟨_,_,jb⟩
  ·exact .inl ⟨t,jb⟩
  ·exact jb.elim
end
end Go.Own
namespace Go.Own
open Go
def FN (ew:List Nat) (o:Oper):Oper:=⟨o.dst,o.op,o.type,o.pos,o.after.map λe=>⟨ew.idxOf e.on,e.ground⟩,o.guard.map λp=>(ew.idxOf p.1,p.2)⟩
def ll (ew:List Nat) (l:List Oper):List Oper:=ew.map λk=>FN ew (l.getD k default)
def J0 (ew:List Nat) (n:Nat):Bool:=Nat.beq ew.length n&&(List.range n).all λk=>ew.contains k&&Nat.blt (ew.getD k n) n&&Nat.beq (ew.idxOf (ew.getD k n)) k
structure Perm (ew:List Nat) (n:Nat):Prop where
 len:ew.length=n
 mem:∀ k,k<n->ew.idxOf k<n/\ew.getD (ew.idxOf k) n=k
 lt:∀ j,j<n->ew.getD j n<n/\ew.idxOf (ew.getD j n)=j
theorem XI {ew:List Nat}{n:Nat}(h:J0 ew n=true):Perm ew n:=by
 unfold J0 at h;simp only [Bool.and_eq_true,Nat.beq_eq,List.all_eq_true,List.mem_range,Nat.blt_eq] at h;obtain ⟨ak,hN⟩:=h;refine ⟨ak,λk hk=>?_,λj ah=>⟨(hN j ah).1.2,(hN j ah).2⟩⟩
 grind
section
variable {P:Program}{Q:Exit->Act->World->Prop}{ew:List Nat}{l:List Oper}
theorem J1 (jX:Perm ew l.length) {j:Nat}(ah:j<l.length):(ll ew l).toArray[j]?=some (FN ew (l.getD (ew.getD j l.length) default))/\l.toArray[ew.getD j l.length]?=some (l.getD (ew.getD j l.length) default):=by
 have h1:j<ew.length:=by rw [jX.len]; exact ah
 have af:=(jX.lt j ah).1
 grind [ll]
theorem Pl (jX:Perm ew l.length) {A B:Array Bool}(et:A.size=l.length) (fm:B.size=l.length) (sI:∀ j,j<l.length->B.getD j true=A.getD (ew.getD j l.length) true) {j:Nat}(ah:j<l.length) :
  ew.getD j l.length∈Region.ready .any l.toArray A↔j∈Region.ready .any (ll ew l).toArray B:=by
 obtain ⟨h1,af⟩:=J1 jX ah;have acY:∀ {C:Array Bool}{k:Nat},k<C.size->C.getD k false=C.getD k true:=λ{C k} h=>by simp [Array.getD,h]
 have gone:∀ {C:Array Bool}{k:Nat},¬ k<C.size->C.getD k false=false:=λ{C k} h=>by simp [Array.getD,h]
 have Ms:∀ m,A.getD m false=true↔B.getD (ew.idxOf m) false=true:=λm=>by
  by_cases hm:m<l.length
  ·obtain ⟨aI,bK⟩:=jX.mem m hm
   grind
  ·have cH:¬ ew.idxOf m<l.length:=λh=>by
    have ei:=List.idxOf_lt_length_iff.1 (by rw [jX.len]; exact h);obtain ⟨i,hi,e⟩:=List.mem_iff_getElem.1 ei;have:=(jX.lt i (by rw [<- jX.len]; exact hi)).1
    grind
   grind
 rw [mem_ready,mem_ready,sI j ah];constructor
 ·rintro ⟨a,o,a1,h⟩;rw [af] at a1;cases a1;refine ⟨a,_,h1,λe he av=>?_⟩;obtain ⟨hy,U',rfl⟩:=Array.mem_map.1 he;exact (Ms _).1 (h hy U' av)
 ·rintro ⟨a,o,a1,h⟩;rw [h1] at a1;cases a1;refine ⟨a,_,af,λe he av=>?_⟩;exact (Ms _).2 (h ⟨ew.idxOf e.on,e.ground⟩ (Array.mem_map.2 ⟨e,he,rfl⟩) av)
theorem XK (jX:Perm ew l.length) (o:Oper) (T:Array Value):Region.wanted (FN ew o) (yielded (ll ew l).toArray T)=Region.wanted o (yielded l.toArray T):=by
 unfold Region.wanted FN;cases aO:o.guard with
 | none=>rfl
 | some p =>
  obtain ⟨m,b⟩:=p;simp only [Option.map_some];have:yielded (ll ew l).toArray T (ew.idxOf m)=yielded l.toArray T m:=by
   unfold yielded;by_cases hm:m<l.length
   ·obtain ⟨aI,bK⟩:=jX.mem m hm;obtain ⟨h1,af⟩:=J1 jX aI;rw [bK] at h1 af;rw [h1,af];rfl
   ·have cH:¬ ew.idxOf m<l.length:=λh=>by
     have ei:=List.idxOf_lt_length_iff.1 (by rw [jX.len]; exact h);obtain ⟨i,hi,e⟩:=List.mem_iff_getElem.1 ei;have:=(jX.lt i (by rw [<- jX.len]; exact hi)).1
     grind
    have cz:(ll ew l).toArray[ew.idxOf m]?=none:=by
     rw [List.getElem?_toArray];exact List.getElem?_eq_none (by simp [ll,jX.len]; omega)
    grind
  rw [this]
theorem XJ (jX:Perm ew l.length):∀ (fuel:Nat) (A B:Array Bool) (a:Act) (w:World),A.size=l.length->B.size=l.length->(∀ j,j<l.length->B.getD j true=A.getD (ew.getD j l.length) true) ->
  wpAny P .any (ll ew l).toArray Q fuel B a w->wpAny P .any l.toArray Q fuel A a w:=by
 have lift:∀ {A B:Array Bool},A.size=l.length->B.size=l.length->(∀ j,j<l.length->B.getD j true=A.getD (ew.getD j l.length) true)->∀ k,k∈Region.ready .any l.toArray A->∃ j,j<l.length/\ew.getD j l.length=k/\j∈Region.ready .any (ll ew l).toArray B:=λ{A B} et fm sI k hk=>by
  have fy:k<l.length:=by
   grind [mem_ready]
  obtain ⟨aI,bK⟩:=jX.mem k fy
  grind [Pl]
 have nil:∀ {A B:Array Bool},A.size=l.length->B.size=l.length->(∀ j,j<l.length->B.getD j true=A.getD (ew.getD j l.length) true)->Region.ready .any l.toArray A=[]->Region.ready .any (ll ew l).toArray B=[]:=λ{A B} et fm sI h=>by
  cases ao:Region.ready .any (ll ew l).toArray B with
  | nil=>rfl
  | cons j r =>
   have ah:j∈Region.ready .any (ll ew l).toArray B:=by rw [ao]; simp
   have eZ:j<l.length:=by
    grind [mem_ready]
   have:=(Pl jX et fm sI eZ).2 ah
   grind
 intro fuel
 induction fuel with
 | zero =>
  intro A B a w et fm sI h;refine ⟨?_,h.2⟩;cases ao:Region.ready .any l.toArray A with
  | nil=>rfl
  | cons k r =>
   obtain ⟨j,_,_,ah⟩:=lift et fm sI k (by rw [ao]; simp);rw [h.1] at ah;cases ah
 | succ fuel aU =>
  intro A B a w et fm sI h;refine ⟨λao=>h.1 (nil et fm sI ao),λk hk=>?_⟩;obtain ⟨j,eZ,rfl,ah⟩:=lift et fm sI k hk;have aC:=h.2 j ah;obtain ⟨h1,af⟩:=J1 jX eZ;have TY:∀ i,i<l.length->(B.setIfInBounds j true).getD i true=(A.setIfInBounds (ew.getD j l.length) true).getD (ew.getD i l.length) true:=λi hi=>by
   have aT:=(jX.lt j eZ).1;have IE:=(jX.lt i hi).1;have e:∀ (C:Array Bool) (p q:Nat),p<C.size->q<C.size->(C.setIfInBounds p true).getD q true=if q=p then true else C.getD q true:=λC p q au bg=>by
    by_cases h:q=p
    ·simp_all
    ·rw [if_neg h];simp [Array.getD,bg,Array.getElem_setIfInBounds_ne,Ne.symm h]
   rw [e B j i (by omega) (by omega),e A _ _ (by omega) (by omega),sI i hi];by_cases h:i=j
   ·grind
   ·rw [if_neg h,if_neg];intro aQ;have:=(jX.lt i hi).2;rw [aQ,(jX.lt j eZ).2] at this
    grind
  have mono:∀ a w,wpAny P .any (ll ew l).toArray Q fuel (B.setIfInBounds j true) a w->wpAny P .any l.toArray Q fuel (A.setIfInBounds (ew.getD j l.length) true) a w:=λa w aQ=>aU _ _ a w (by simpa using et) (by simpa using fm) TY aQ;unfold wpOp at aC ⊢;rw [af];rw [h1] at aC;simp only [XK jX] at aC;show if Region.wanted (l.getD (ew.getD j l.length) default) (yielded l.toArray a.tmps)=true then _ else _
  split
  ·rename_i hw;rw [if_pos hw] at aC;exact aC.imp (λaQ=>Oper.wp_mono mono aQ) id
  ·rename_i hw;rw [if_neg hw] at aC;exact mono _ _ aC
end
section
variable {P:Program}{N:c6}
theorem W.XY {id:Nat}{l:List Oper}{G:List (Nat × ab)}{Φ:Exit->aM->Prop}(ew:List Nat) (bd:List (List Nat)) (G1:List (Nat × ab)) (hm:P.follows .mixedOrders=true) (et:pf (ll ew l).toArray bd=true) (jX:J0 ew l.length=true)
  (h:bz P N (ll ew l).toArray bd (get G) 0 [] (ll ew l) λg'=>kp g' (get G1)) (hk:aA .normal Φ G1):W P N (.region id l.toArray true) (get G) Φ:=by
 have au:=XI jX;obtain ⟨g',h1,af⟩:=h [] 0 .nil .nil (by simp);have fX:(ll ew l).toArray.size=l.length:=by simp [ll,au.len]
 refine gf.w (g':=g') (e:=.normal) ?_ (hk g' (.eW af .hX));intro Q a w I Fs bl bc dO;refine wp_region_any hm ?_;have dY:cG w.drew I a.tmps (get G) Fs:=bl.world (λ_ _ _=>rfl) (λ_ _=>rfl) (Nat.le_refl _);have hN:∀ k,dQ (Array.replicate (ll ew l).toArray.size false) k=false:=by
  intro k;unfold dQ;rcases Nat.lt_or_ge k (ll ew l).toArray.size with h | h
  ·simp_all
  grind
 refine XJ au _ _ (Array.replicate l.length false) a w.drew (by simp) (by simp) (λj ah=>?_) ?_
 ·have:=(au.lt j ah).1
  simp_all
 have wY:=h1.sound et .nil (ll ew l).toArray.size (Array.replicate (ll ew l).toArray.size false) a w.drew I Fs ?_ (by simp) (λk hk=>by omega) (λk _=>hN k) (λk hk=>by rw [hN] at hk; cases hk) dY bc (λb' w' aF=>dO _ _ ?_)
 ·grind
 ·grind [hn]
 ·obtain ⟨cz,cf,I',b7,h7,b1⟩:=aF;exact ⟨cz,cf,I',b7,h7,⟨⟨b1.eS.os,b1.eS.tape,b1.eS.output,b1.eS.size,b1.eS.block,b1.eS.dN,Nat.le_trans (Nat.le_succ _) b1.eS.wT⟩,b1.more,b1.new,b1.own⟩⟩
end
end Go.Own
namespace Go.Own
open Go
section
variable {α:Type}{P:Program}{N:c6}{g:aM}{a b:Operand}{t:TypeId}{m i:Int}
end
end Go.Own
namespace Go.Own
open Go
section
variable {P:Program}{N:c6}{ops:Array Oper}{bd:List (List Nat)}{acc:Acc}{l:List Oper}{K:aM->Prop}{i d:Nat}
theorem bz.LU (bG:Nat) {G G2:List (Nat × ab)}{o:Oper}{x:ab}(he:iz P N (dh (get G) (λm=>(bd.getD bG []).contains m) acc) o (cV (get G2) d x)) (aO:o.guard=none) (gR:CA (acc.filterMap j0)=true) (fH:mb G=true) (ah:Nat.beq ops.size (bG+l.length+1)=true)
  (ga:acc.filter (λe=>!(bd.getD bG []).contains e.1)=[])
  (av:(List.range ops.size).all (λk=>Nat.ble k bG||(bd.getD k []).contains bG)=true) (hk:bz P N ops bd (get ((d,x)::G2)) (bG+1) [] l K):bz P N ops bd (get G) i acc (o::l) K :=
 .wH bG (sF ▸ he) aO gR fH ah ga av hk
end
end Go.Own
namespace Go.Proofs
open Tryz
open Go Go.Shelf Go.RowKit Go.Lib Go.Sort Go.Own
def Tryz.YH:Go.Shelf.Ren:=⟨fun | 6=>56 | 15=>75 | 14=>74 | 28=>101 | 29=>102 | 20=>93 | 21=>94 | 22=>95 | 23=>96 | 24=>97 | 25=>98 | 26=>99 | 27=>100 | 46=>128 | 47=>129 | 48=>130 | 49=>131 | 50=>132 | 57=>142 | n=>n,fun | 22=>47 | 24=>111 | 25=>130 | 3=>3 | 39=>160 | 0=>0 | 53=>190 | 55=>192 | 4=>4 | 46=>184 | 45=>183 | 50=>59 | 5=>5 | 9=>9 | 66=>217 | 70=>221 | 76=>230 | 77=>176 | n=>n,fun | n=>n⟩
theorem Tryz.YG:Go.Proofs.SlLaysF0.n6 prog Tryz.YH:={
 mixed:=by kernel_rfl
 f6:=⟨Tryz.f56.name,by decide,func56.trans (congrArg some (by kernel_rfl))⟩
 f14:=⟨Tryz.f74.name,by decide,func74.trans (congrArg some (by kernel_rfl))⟩
 f15:=func75.trans (congrArg some (by kernel_rfl))
 f20:=⟨Tryz.f93.name,by decide,func93.trans (congrArg some (by kernel_rfl))⟩
 f21:=⟨Tryz.f94.name,by decide,func94.trans (congrArg some (by kernel_rfl))⟩
 f22:=⟨Tryz.f95.name,by decide,func95.trans (congrArg some (by kernel_rfl))⟩
 f23:=⟨Tryz.f96.name,by decide,func96.trans (congrArg some (by kernel_rfl))⟩
 f24:=⟨Tryz.f97.name,by decide,func97.trans (congrArg some (by kernel_rfl))⟩
 f25:=⟨Tryz.f98.name,by decide,func98.trans (congrArg some (by kernel_rfl))⟩
 f26:=⟨Tryz.f99.name,by decide,func99.trans (congrArg some (by kernel_rfl))⟩
 f27:=⟨Tryz.f100.name,by decide,func100.trans (congrArg some (by kernel_rfl))⟩
 f28:=func101.trans (congrArg some (by kernel_rfl))
 f29:=func102.trans (congrArg some (by kernel_rfl))
 f46:=⟨Tryz.f128.name,by decide,func128.trans (congrArg some (by kernel_rfl))⟩
 f47:=func129.trans (congrArg some (by kernel_rfl))
 f48:=func130.trans (congrArg some (by kernel_rfl))
 f49:=⟨Tryz.f131.name,by decide,func131.trans (congrArg some (by kernel_rfl))⟩
 f50:=⟨Tryz.f132.name,by decide,func132.trans (congrArg some (by kernel_rfl))⟩
 f57:=⟨Tryz.f142.name,by decide,func142.trans (congrArg some (by kernel_rfl))⟩
 t0:=Tryz.underlying0
 a0:=Tryz.isAgg0
 z0:=Tryz.sizeOf0
 v0:=Tryz.zeroValue0
 t3:=Tryz.underlying3
 a3:=Tryz.isAgg3
 z3:=Tryz.sizeOf3
 v3:=Tryz.zeroValue3
 t4:=Tryz.underlying4
 a4:=Tryz.isAgg4
 z4:=Tryz.sizeOf4
 v4:=Tryz.zeroValue4
 t5:=Tryz.underlying5
 a5:=Tryz.isAgg5
 z5:=Tryz.sizeOf5
 v5:=Tryz.zeroValue5
 t9:=Tryz.underlying9
 a9:=Tryz.isAgg9
 z9:=Tryz.sizeOf9
 v9:=Tryz.zeroValue9
 t22:=Tryz.underlying47
 a22:=Tryz.isAgg47
 z22:=Tryz.sizeOf47
 v22:=Tryz.zeroValue47
 t25:=Tryz.underlying130
 a25:=Tryz.isAgg130
 z25:=Tryz.sizeOf130
 v25:=Tryz.zeroValue130
 t39:=Tryz.underlying160
 a39:=Tryz.isAgg160
 z39:=Tryz.sizeOf160
 v39:=Tryz.zeroValue160
 t45:=Tryz.underlying183
 a45:=Tryz.isAgg183
 z45:=Tryz.sizeOf183
 v45:=Tryz.zeroValue183
 t46:=Tryz.underlying184
 a46:=Tryz.isAgg184
 z46:=Tryz.sizeOf184
 v46:=Tryz.zeroValue184
 t50:=Tryz.underlying59
 a50:=Tryz.isAgg59
 z50:=Tryz.sizeOf59
 v50:=Tryz.zeroValue59
 t53:=Tryz.underlying190
 a53:=Tryz.isAgg190
 z53:=Tryz.sizeOf190
 v53:=Tryz.zeroValue190
 t55:=Tryz.underlying192
 a55:=Tryz.isAgg192
 z55:=Tryz.sizeOf192
 v55:=Tryz.zeroValue192
 t66:=Tryz.underlying217
 a66:=Tryz.isAgg217
 z66:=Tryz.sizeOf217
 v66:=Tryz.zeroValue217
 t70:=Tryz.underlying221
 a70:=Tryz.isAgg221
 z70:=Tryz.sizeOf221
 v70:=Tryz.zeroValue221
 t76:=Tryz.underlying230
 a76:=Tryz.isAgg230
 z76:=Tryz.sizeOf230
 v76:=Tryz.zeroValue230
 t77:=Tryz.underlying176
 a77:=Tryz.isAgg176
 z77:=Tryz.sizeOf176
 v77:=Tryz.zeroValue176 }
def Tryz.YD:Go.Shelf.Ren:=⟨fun | 6=>70 | 15=>75 | 14=>90 | 28=>101 | 29=>102 | 20=>119 | 21=>120 | 22=>121 | 23=>122 | 24=>123 | 25=>124 | 26=>125 | 27=>126 | 46=>139 | 47=>129 | 48=>130 | 49=>140 | 50=>141 | 57=>147 | n=>n,fun | 22=>27 | 24=>3 | 25=>85 | 3=>3 | 39=>160 | 0=>0 | 53=>190 | 55=>192 | 4=>4 | 46=>184 | 45=>183 | 50=>59 | 5=>5 | 9=>9 | 66=>217 | 70=>221 | 76=>230 | 77=>176 | n=>n,fun | n=>n⟩
theorem Tryz.KA:Go.Proofs.SlLaysF.n6 prog Tryz.YD:={
 mixed:=by kernel_rfl
 f6:=⟨Tryz.f70.name,by decide,func70.trans (congrArg some (by kernel_rfl))⟩
 f14:=⟨Tryz.f90.name,by decide,func90.trans (congrArg some (by kernel_rfl))⟩
 f15:=func75.trans (congrArg some (by kernel_rfl))
 f20:=⟨Tryz.f119.name,by decide,func119.trans (congrArg some (by kernel_rfl))⟩
 f21:=⟨Tryz.f120.name,by decide,func120.trans (congrArg some (by kernel_rfl))⟩
 f22:=⟨Tryz.f121.name,by decide,func121.trans (congrArg some (by kernel_rfl))⟩
 f23:=⟨Tryz.f122.name,by decide,func122.trans (congrArg some (by kernel_rfl))⟩
 f24:=⟨Tryz.f123.name,by decide,func123.trans (congrArg some (by kernel_rfl))⟩
 f25:=⟨Tryz.f124.name,by decide,func124.trans (congrArg some (by kernel_rfl))⟩
 f26:=⟨Tryz.f125.name,by decide,func125.trans (congrArg some (by kernel_rfl))⟩
 f27:=⟨Tryz.f126.name,by decide,func126.trans (congrArg some (by kernel_rfl))⟩
 f28:=func101.trans (congrArg some (by kernel_rfl))
 f29:=func102.trans (congrArg some (by kernel_rfl))
 f46:=⟨Tryz.f139.name,by decide,func139.trans (congrArg some (by kernel_rfl))⟩
 f47:=func129.trans (congrArg some (by kernel_rfl))
 f48:=func130.trans (congrArg some (by kernel_rfl))
 f49:=⟨Tryz.f140.name,by decide,func140.trans (congrArg some (by kernel_rfl))⟩
 f50:=⟨Tryz.f141.name,by decide,func141.trans (congrArg some (by kernel_rfl))⟩
 f57:=⟨Tryz.f147.name,by decide,func147.trans (congrArg some (by kernel_rfl))⟩
 t0:=Tryz.underlying0
 a0:=Tryz.isAgg0
 z0:=Tryz.sizeOf0
 v0:=Tryz.zeroValue0
 t3:=Tryz.underlying3
 a3:=Tryz.isAgg3
 z3:=Tryz.sizeOf3
 v3:=Tryz.zeroValue3
 t4:=Tryz.underlying4
 a4:=Tryz.isAgg4
 z4:=Tryz.sizeOf4
 v4:=Tryz.zeroValue4
 t5:=Tryz.underlying5
 a5:=Tryz.isAgg5
 z5:=Tryz.sizeOf5
 v5:=Tryz.zeroValue5
 t9:=Tryz.underlying9
 a9:=Tryz.isAgg9
 z9:=Tryz.sizeOf9
 v9:=Tryz.zeroValue9
 t22:=Tryz.underlying27
 a22:=Tryz.isAgg27
 z22:=Tryz.sizeOf27
 v22:=Tryz.zeroValue27
 a24:=Tryz.isAgg3
 z24:=Tryz.sizeOf3
 t25:=Tryz.underlying85
 a25:=Tryz.isAgg85
 z25:=Tryz.sizeOf85
 v25:=Tryz.zeroValue85
 t39:=Tryz.underlying160
 a39:=Tryz.isAgg160
 z39:=Tryz.sizeOf160
 v39:=Tryz.zeroValue160
 t45:=Tryz.underlying183
 a45:=Tryz.isAgg183
 z45:=Tryz.sizeOf183
 v45:=Tryz.zeroValue183
 t46:=Tryz.underlying184
 a46:=Tryz.isAgg184
 z46:=Tryz.sizeOf184
 v46:=Tryz.zeroValue184
 t50:=Tryz.underlying59
 a50:=Tryz.isAgg59
 z50:=Tryz.sizeOf59
 v50:=Tryz.zeroValue59
 t53:=Tryz.underlying190
 a53:=Tryz.isAgg190
 z53:=Tryz.sizeOf190
 v53:=Tryz.zeroValue190
 t55:=Tryz.underlying192
 a55:=Tryz.isAgg192
 z55:=Tryz.sizeOf192
 v55:=Tryz.zeroValue192
 t66:=Tryz.underlying217
 a66:=Tryz.isAgg217
 z66:=Tryz.sizeOf217
 v66:=Tryz.zeroValue217
 t70:=Tryz.underlying221
 a70:=Tryz.isAgg221
 z70:=Tryz.sizeOf221
 v70:=Tryz.zeroValue221
 t76:=Tryz.underlying230
 a76:=Tryz.isAgg230
 z76:=Tryz.sizeOf230
 v76:=Tryz.zeroValue230
 t77:=Tryz.underlying176
 a77:=Tryz.isAgg176
 z77:=Tryz.sizeOf176
 v77:=Tryz.zeroValue176 }
theorem YC {g:FuncId}{caps:List ab} [w8:dp caps] (aO:gN prog g=true) {l r:List Int}{fT:Int->Int->Option Int}(h:pX fT l=some r)
  (aa:∀ a b v,fT a b=some v->bV prog g (ae a::ae b::caps) (none::none::caps.map λ_=>none) (ae v)) :
  bV prog 70 [aj ai l,.cW (.func g) [] caps] [some (aj ai r),none] (.bW []):=bV.KA Tryz.KA aO h aa
open Go Go.Own
set_option maxRecDepth 100000
set_option linter.unusedVariables false
def CP (a0:Int):Option (Bool) :=
 ((bif decide (97<=a0) then (bif decide (a0<=122) then some true else (bif decide (65<=a0) then (bif decide (a0<=90) then some true else some (decide (a0=95))) else some (decide (a0=95)))) else (bif decide (65<=a0) then (bif decide (a0<=90) then some true else some (decide (a0=95))) else some (decide (a0=95))))).bind λkJ =>
 some kJ
def CQ (a0:Int):Option (Bool) :=
 ((bif decide (48<=a0) then some (decide (a0<=57)) else some false)).bind λc2 =>
 some c2
def CO (a0:ByteArray) (aE:Int):Option (Int) :=
 (b4 (R:=Int) (λ(s1:Int) =>
 ((bif decide (aL (aE+s1)<(a0.size:Int)) then ((kq a0 (aL (aE+s1))).bind λbT=>((CP bT).bind λbC=>(bif bC then some true else (bif decide (0<s1) then ((kq a0 (aL (aE+s1))).bind λcw=>((CQ cw).bind λbI=>(bif bI then some true else ((kq a0 (aL (aE+s1))).bind λeF=>some (decide (eF=46)))))) else some false)))) else some false)).bind λjT =>
 (bif jT then
 some (.inl (aL (s1+1)))
 else
 some (.inr s1))) 0).bind λx2 =>
 some x2
def vN (a0:ByteArray):Option (Bool) :=
 ((bif decide (1<=(a0.size:Int)) then (bif decide ((a0.size:Int)<=20) then ((CO a0 0).bind λa7=>some (decide (a7=(a0.size:Int)))) else some false) else some false)).bind λc4 =>
 some c4
def z7 (a0:Int):Option (Int × Bool) :=
 (bif decide (a0=10) then
 some (110,true)
 else
 (bif decide (a0=9) then
 some (116,true)
 else
 (bif decide (a0=13) then
 some (114,true)
 else
 ((bif decide (a0=92) then
 some (decide (a0=92))
 else
 some (decide (a0=39)))).bind λJt =>
 (bif Jt then
 some (a0,true)
 else
 ((bif decide (32<=a0) then some (0,decide (a0<=126)) else some (0,false))).bind λtE =>
 some (tE.1,tE.2)))))
structure Sym where
 Name:ByteArray
 Lit:Bool
 bR:Int
 At:Int
 deriving DecidableEq,Inhabited
def dE:bJ Sym:=⟨4,λx=>[ay x.Name,a_ x.Lit,ae x.bR,ae x.At],λ_=>rfl,λ_=>dp.bn⟩
instance:Flat dE:=⟨λ_=>rfl⟩
instance:l1 dE:=⟨λx=>(inferInstance:jC [ay x.Name,a_ x.Lit,ae x.bR,ae x.At])⟩
instance:gU dE dE:=⟨rfl,λx=>(inferInstance:dr [ay x.Name,a_ x.Lit,ae x.bR,ae x.At] [ay x.Name,a_ x.Lit,ae x.bR,ae x.At])⟩
instance {x:Sym}:dr (dE.cells x) [ay x.Name,a_ x.Lit,ae x.bR,ae x.At]:=(inferInstance:dr [ay x.Name,a_ x.Lit,ae x.bR,ae x.At] [ay x.Name,a_ x.Lit,ae x.bR,ae x.At])
def uw (a0:Sym) (aE:Bool) (a2:Bool):Option (Bool) :=
 (bif a0.Lit then
 ((bif !a2 then some true else (bif !decide ((a0.Name.size:Int)=1) then some true else some (!decide (a0.bR=0))))).bind λc4 =>
 (bif c4 then
 some false
 else
 (kq a0.Name 0).bind λbC =>
 (z7 bC).bind λbQ =>
 some bQ.2)
 else
 (((vN a0.Name).bind λb6=>(bif b6 then (bif decide (a0.bR=0) then some true else (bif aE then (bif decide (1<=a0.bR) then some (decide (a0.bR<=50000)) else some false) else some false)) else some false))).bind λjT =>
 some jT)
structure Decl where
 Kind:Int
 Tag:ByteArray
 eM:(List Sym)
 At:Int
 deriving DecidableEq,Inhabited
def dB:bJ Decl:=⟨4,λx=>[ae x.Kind,ay x.Tag,ag dE x.eM,ae x.At],λ_=>rfl,λ_=>dp.bn⟩
instance:Flat dB:=⟨λ_=>rfl⟩
instance:gU dB dB:=⟨rfl,λx=>(inferInstance:dr [ae x.Kind,ay x.Tag,ag dE x.eM,ae x.At] [ae x.Kind,ay x.Tag,ag dE x.eM,ae x.At])⟩
instance {x:Decl}:dr (dB.cells x) [ae x.Kind,ay x.Tag,ag dE x.eM,ae x.At]:=(inferInstance:dr [ae x.Kind,ay x.Tag,ag dE x.eM,ae x.At] [ae x.Kind,ay x.Tag,ag dE x.eM,ae x.At])
def xT (a0:Decl):Option (Bool) :=
 ((bif decide (a0.Kind<1) then some true else (bif decide (6<a0.Kind) then some true else (bif decide ((a0.eM.length:Int)=0) then some true else (bif decide (a0.Kind=6) then (bif !decide ((a0.eM.length:Int)=1) then some true else (bif !decide (a0.Tag=⟨#[]⟩) then some true else (bif decide (a0.Kind=5) then (bif decide (a0.Tag=⟨#[]⟩) then some true else some false) else some false))) else (bif decide (a0.Kind=5) then (bif decide (a0.Tag=⟨#[]⟩) then some true else (bif !decide (a0.Tag=⟨#[]⟩) then ((vN a0.Tag).bind λeF=>some (!eF)) else some false)) else (bif !decide (a0.Tag=⟨#[]⟩) then ((vN a0.Tag).bind λeg=>some (!eg)) else some false))))))).bind λtB =>
 (bif tB then
 some false
 else
 (b4 (R:=(Unit) ⊕ (Bool)) (λ(lU:Int) =>
 (bif decide (lU<(a0.eM.length:Int)) then
 (idx a0.eM lU).bind λfZ =>
 (uw fZ (decide (a0.Kind=1)) (decide (a0.Kind<5))).bind λfB =>
 (bif !fB then
 some (.inr (.inr false))
 else
 some (.inl (aL (lU+1))))
 else
 some (.inr (.inl ())))) 0).bind λdP =>
 (match dP with
 | .inl eX =>
 some true
 | .inr dM =>
 some dM))
def ux (a0:Sym):Option (Bool) :=
 ((bif decide (a0.Name=⟨#[]⟩) then (bif !a0.Lit then some (decide (a0.bR=0)) else some false) else some false)).bind λjU =>
 some jU
def xV (a0:ByteArray) (aE:Int) (a2:ByteArray):Option (Bool) :=
 ((bif decide ((a2.size:Int)<=aL ((a0.size:Int) - aE)) then ((q8 a0 aE (aL (aE+(a2.size:Int)))).bind λx2=>some (decide (x2=a2))) else some false)).bind λjU =>
 some jU
def CR (a0:ByteArray) (aE:Int):Option (Int) :=
 (((kq a0 aE).bind λa8=>(bif decide (a8=34) then some true else ((kq a0 aE).bind λa7=>some (decide (a7=39)))))).bind λc4 =>
 (bif c4 then
 (b4 (R:=(Unit) ⊕ (Int)) (λ(db:Int) =>
 ((bif decide (db<(a0.size:Int)) then ((kq a0 db).bind λcq=>some (!decide (cq=10))) else some false)).bind λwJ =>
 (bif wJ then
 (kq a0 db).bind λeg =>
 (kq a0 aE).bind λcQ =>
 (bif decide (eg=cQ) then
 some (.inr (.inr (aL (db+1))))
 else
 (kq a0 db).bind λbU =>
 (bif decide (bU=92) then
 ((bif decide (aL (db+1)<(a0.size:Int)) then ((kq a0 (aL (db+1))).bind λdM=>some (decide (dM=10))) else some false)).bind λq7 =>
 (bif q7 then
 some (.inr (.inr (-1)))
 else
 some (.inl (aL ((aL (db+1))+1))))
 else
 some (.inl (aL (db+1)))))
 else
 some (.inr (.inl ())))) (aL (aE+1))).bind λbQ =>
 (match bQ with
 | .inl b6 =>
 some (-1)
 | .inr cw =>
 some cw)
 else
 (kq a0 aE).bind λfB =>
 (bif decide (fB=96) then
 (b4 (R:=(Unit) ⊕ (Int)) (λ(ki:Int) =>
 (bif decide (ki<(a0.size:Int)) then
 (kq a0 ki).bind λhI =>
 (bif decide (hI=96) then
 some (.inr (.inr (aL (ki+1))))
 else
 some (.inl (aL (ki+1))))
 else
 some (.inr (.inl ())))) (aL (aE+1))).bind λgC =>
 (match gC with
 | .inl dX =>
 some (-1)
 | .inr cX =>
 some cX)
 else
 (xV a0 aE (⟨#[47,47]⟩)).bind λcR =>
 (bif cR then
 (b4 (R:=Int) (λ(d_:Int) =>
 ((bif decide (d_<(a0.size:Int)) then ((kq a0 d_).bind λc0=>some (!decide (c0=10))) else some false)).bind λwM =>
 (bif wM then
 some (.inl (aL (d_+1)))
 else
 some (.inr d_))) aE).bind λeo =>
 some eo
 else
 (xV a0 aE (⟨#[47,42]⟩)).bind λjB =>
 (bif jB then
 (b4 (R:=(Unit) ⊕ (Int)) (λ(Az:Int) =>
 (bif decide (Az<(a0.size:Int)) then
 (xV a0 Az (⟨#[42,47]⟩)).bind λwg =>
 (bif wg then
 some (.inr (.inr (aL (Az+2))))
 else
 some (.inl (aL (Az+1))))
 else
 some (.inr (.inl ())))) (aL (aE+2))).bind λwe =>
 (match we with
 | .inl p2 =>
 some (-1)
 | .inr oz =>
 some oz)
 else
 some aE))))
def z6 (a0:ByteArray) (aE:Int):Option (Int) :=
 ((bif decide (aE<0) then some true else (bif decide ((a0.size:Int)<=aE) then some true else ((kq a0 aE).bind λa7=>some (!decide (a7=123)))))).bind λc4 =>
 (bif c4 then
 some (-1)
 else
 (b4 (R:=(Unit) ⊕ (Int)) (λ(db:Int × Int) =>
 (bif decide (db.2<(a0.size:Int)) then
 (CR a0 db.2).bind λcq =>
 (bif decide (cq<0) then
 some (.inr (.inr (-1)))
 else
 (bif decide (db.2<cq) then
 some (.inl (db.1,cq))
 else
 (kq a0 db.2).bind λeg =>
 ((bif decide (eg=123) then
 some (aL (db.1+1))
 else
 some db.1)).bind λoq =>
 (kq a0 db.2).bind λbU =>
 ((bif decide (bU=125) then
 some (aL (oq - 1))
 else
 some oq)).bind λE6 =>
 (bif decide (E6=0) then
 some (.inr (.inr (aL (db.2+1))))
 else
 some (.inl (E6,aL (db.2+1))))))
 else
 some (.inr (.inl ())))) (0,aE)).bind λbQ =>
 (match bQ with
 | .inl b6 =>
 some (-1)
 | .inr cw =>
 some cw))
structure Part where
 Sym:Sym
 Code:ByteArray
 At:Int
 deriving DecidableEq,Inhabited
structure Alt where
 ht:(List Part)
 Prec:Sym
 At:Int
 deriving DecidableEq,Inhabited
def e7:bJ Part:=⟨6,λx=>[ay x.Sym.Name,a_ x.Sym.Lit,ae x.Sym.bR,ae x.Sym.At,ay x.Code,ae x.At],λ_=>rfl,λ_=>dp.bn⟩
instance:Flat e7:=⟨λ_=>rfl⟩
instance:l1 e7:=⟨λx=>(inferInstance:jC [ay x.Sym.Name,a_ x.Sym.Lit,ae x.Sym.bR,ae x.Sym.At,ay x.Code,ae x.At])⟩
instance:gU e7 e7:=⟨rfl,λx=>(inferInstance:dr [ay x.Sym.Name,a_ x.Sym.Lit,ae x.Sym.bR,ae x.Sym.At,ay x.Code,ae x.At] [ay x.Sym.Name,a_ x.Sym.Lit,ae x.Sym.bR,ae x.Sym.At,ay x.Code,ae x.At])⟩
instance {x:Part}:dr (e7.cells x) [ay x.Sym.Name,a_ x.Sym.Lit,ae x.Sym.bR,ae x.Sym.At,ay x.Code,ae x.At]:=(inferInstance:dr [ay x.Sym.Name,a_ x.Sym.Lit,ae x.Sym.bR,ae x.Sym.At,ay x.Code,ae x.At] [ay x.Sym.Name,a_ x.Sym.Lit,ae x.Sym.bR,ae x.Sym.At,ay x.Code,ae x.At])
def e2:bJ Alt:=⟨6,λx=>[ag e7 x.ht,ay x.Prec.Name,a_ x.Prec.Lit,ae x.Prec.bR,ae x.Prec.At,ae x.At],λ_=>rfl,λ_=>dp.bn⟩
instance:Flat e2:=⟨λ_=>rfl⟩
instance:gU e2 e2:=⟨rfl,λx=>(inferInstance:dr [ag e7 x.ht,ay x.Prec.Name,a_ x.Prec.Lit,ae x.Prec.bR,ae x.Prec.At,ae x.At] [ag e7 x.ht,ay x.Prec.Name,a_ x.Prec.Lit,ae x.Prec.bR,ae x.Prec.At,ae x.At])⟩
instance {x:Alt}:dr (e2.cells x) [ag e7 x.ht,ay x.Prec.Name,a_ x.Prec.Lit,ae x.Prec.bR,ae x.Prec.At,ae x.At]:=(inferInstance:dr [ag e7 x.ht,ay x.Prec.Name,a_ x.Prec.Lit,ae x.Prec.bR,ae x.Prec.At,ae x.At] [ag e7 x.ht,ay x.Prec.Name,a_ x.Prec.Lit,ae x.Prec.bR,ae x.Prec.At,ae x.At])
def xU (a0:Alt):Option (Bool) :=
 (b4 (R:=(Unit) ⊕ (Bool)) (λ(s1:Int) =>
 (bif decide (s1<(a0.ht.length:Int)) then
 (idx a0.ht s1).bind λbC =>
 ((bif decide (bC.Code=⟨#[]⟩) then ((uw bC.Sym false true).bind λb6=>(bif !b6 then some true else (bif !decide (bC.Code=⟨#[]⟩) then ((ux bC.Sym).bind λcq=>(bif !cq then some true else ((z6 bC.Code 0).bind λck=>some (!decide (ck=(bC.Code.size:Int)))))) else some false))) else (bif !decide (bC.Code=⟨#[]⟩) then ((ux bC.Sym).bind λcQ=>(bif !cQ then some true else ((z6 bC.Code 0).bind λbU=>some (!decide (bU=(bC.Code.size:Int)))))) else some false))).bind λnz =>
 (bif nz then
 some (.inr (.inr false))
 else
 some (.inl (aL (s1+1))))
 else
 some (.inr (.inl ())))) 0).bind λx2 =>
 (match x2 with
 | .inl a7 =>
 (((ux a0.Prec).bind λdM=>(bif dM then some true else ((uw a0.Prec false true).bind λfZ=>some fZ)))).bind λG' =>
 some G'
 | .inr bs =>
 some bs)
structure fk where
 Left:ByteArray
 eL:(List Alt)
 At:Int
 deriving DecidableEq,Inhabited
structure Source where
 cC:ByteArray
 Decls:(List Decl)
 dG:(List fk)
 cK:ByteArray
 deriving DecidableEq,Inhabited
def gO:bJ fk:=⟨3,λx=>[ay x.Left,ag e2 x.eL,ae x.At],λ_=>rfl,λ_=>dp.bn⟩
instance:Flat gO:=⟨λ_=>rfl⟩
instance:gU gO gO:=⟨rfl,λx=>(inferInstance:dr [ay x.Left,ag e2 x.eL,ae x.At] [ay x.Left,ag e2 x.eL,ae x.At])⟩
instance {x:fk}:dr (gO.cells x) [ay x.Left,ag e2 x.eL,ae x.At]:=(inferInstance:dr [ay x.Left,ag e2 x.eL,ae x.At] [ay x.Left,ag e2 x.eL,ae x.At])
def hh:bJ Source:=⟨4,λx=>[ay x.cC,ag dB x.Decls,ag gO x.dG,ay x.cK],λ_=>rfl,λ_=>dp.bn⟩
instance:Flat hh:=⟨λ_=>rfl⟩
instance:gU hh hh:=⟨rfl,λx=>(inferInstance:dr [ay x.cC,ag dB x.Decls,ag gO x.dG,ay x.cK] [ay x.cC,ag dB x.Decls,ag gO x.dG,ay x.cK])⟩
instance {x:Source}:dr (hh.cells x) [ay x.cC,ag dB x.Decls,ag gO x.dG,ay x.cK]:=(inferInstance:dr [ay x.cC,ag dB x.Decls,ag gO x.dG,ay x.cK] [ay x.cC,ag dB x.Decls,ag gO x.dG,ay x.cK])
def xR (a0:Source):Option (Bool) :=
 (b4 (R:=(Unit) ⊕ (Bool)) (λ(s1:Int) =>
 (bif decide (aL (s1+1)<(a0.cC.size:Int)) then
 (q8 a0.cC s1 (aL (s1+2))).bind λbC =>
 (bif decide (bC=⟨#[37,125]⟩) then
 some (.inr (.inr false))
 else
 some (.inl (aL (s1+1))))
 else
 some (.inr (.inl ())))) 0).bind λx2 =>
 (match x2 with
 | .inl a7 =>
 (b4 (R:=(Unit) ⊕ (Bool)) (λ(dw:Int) =>
 (bif decide (dw<(a0.Decls.length:Int)) then
 (idx a0.Decls dw).bind λck =>
 (xT ck).bind λeg =>
 (bif !eg then
 some (.inr (.inr false))
 else
 some (.inl (aL (dw+1))))
 else
 some (.inr (.inl ())))) 0).bind λcw =>
 (match cw with
 | .inl bI =>
 (b4 (R:=(Unit) ⊕ (Bool)) (λ(nn:Int) =>
 (bif decide (nn<(a0.dG.length:Int)) then
 (idx a0.dG nn).bind λeB =>
 (((vN eB.Left).bind λfZ=>(bif !fZ then some true else some (decide ((eB.eL.length:Int)=0))))).bind λoI =>
 (bif oI then
 some (.inr (.inr false))
 else
 (b4 (R:=(Unit) ⊕ (Bool)) (λ(oZ:Int) =>
 (bif decide (oZ<(eB.eL.length:Int)) then
 (idx eB.eL oZ).bind λkY =>
 (xU kY).bind λcR =>
 (bif !cR then
 some (.inr (.inr false))
 else
 some (.inl (aL (oZ+1))))
 else
 some (.inr (.inl ())))) 0).bind λdX =>
 (match dX with
 | .inl cX =>
 some (.inl (aL (nn+1)))
 | .inr eb =>
 some (.inr (.inr eb))))
 else
 some (.inr (.inl ())))) 0).bind λbU =>
 (match bU with
 | .inl dP =>
 some (decide (0<(a0.dG.length:Int)))
 | .inr eX =>
 some eX)
 | .inr cq =>
 some cq)
 | .inr bs =>
 some bs)
structure bX where
 Name:ByteArray
 Lit:Bool
 bR:Int
 Level:Int
 fv:Int
 Tag:ByteArray
 deriving DecidableEq,Inhabited
structure fF where
 Name:ByteArray
 Tag:ByteArray
 deriving DecidableEq,Inhabited
structure Prod where
 Left:Int
 eI:(List Int)
 Prec:Int
 Code:ByteArray
 yy:(List Int)
 At:Int
 deriving DecidableEq,Inhabited
structure bO where
 ba:(List bX)
 b3:(List fF)
 bj:(List Prod)
 cC:ByteArray
 cK:ByteArray
 deriving DecidableEq,Inhabited
structure dv where
 aG:bO
 cu:(List Bool)
 cL:(List fF)
 cb:(List ByteArray)
 c3:Int
 dn:Int
 dk:ByteArray
 ct:Int
 b_:Int
 deriving DecidableEq,Inhabited
def b0:bJ bX:=⟨6,λx=>[ay x.Name,a_ x.Lit,ae x.bR,ae x.Level,ae x.fv,ay x.Tag],λ_=>rfl,λ_=>dp.bn⟩
instance:Flat b0:=⟨λ_=>rfl⟩
instance:l1 b0:=⟨λx=>(inferInstance:jC [ay x.Name,a_ x.Lit,ae x.bR,ae x.Level,ae x.fv,ay x.Tag])⟩
instance:gU b0 b0:=⟨rfl,λx=>(inferInstance:dr [ay x.Name,a_ x.Lit,ae x.bR,ae x.Level,ae x.fv,ay x.Tag] [ay x.Name,a_ x.Lit,ae x.bR,ae x.Level,ae x.fv,ay x.Tag])⟩
instance {x:bX}:dr (b0.cells x) [ay x.Name,a_ x.Lit,ae x.bR,ae x.Level,ae x.fv,ay x.Tag]:=(inferInstance:dr [ay x.Name,a_ x.Lit,ae x.bR,ae x.Level,ae x.fv,ay x.Tag] [ay x.Name,a_ x.Lit,ae x.bR,ae x.Level,ae x.fv,ay x.Tag])
def bH:bJ fF:=⟨2,λx=>[ay x.Name,ay x.Tag],λ_=>rfl,λ_=>dp.bn⟩
instance:Flat bH:=⟨λ_=>rfl⟩
instance:l1 bH:=⟨λx=>(inferInstance:jC [ay x.Name,ay x.Tag])⟩
instance:gU bH bH:=⟨rfl,λx=>(inferInstance:dr [ay x.Name,ay x.Tag] [ay x.Name,ay x.Tag])⟩
def cE:bJ Prod:=⟨6,λx=>[ae x.Left,ag ai x.eI,ae x.Prec,ay x.Code,ag ai x.yy,ae x.At],λ_=>rfl,λ_=>dp.bn⟩
instance:Flat cE:=⟨λ_=>rfl⟩
instance:gU cE cE:=⟨rfl,λx=>(inferInstance:dr [ae x.Left,ag ai x.eI,ae x.Prec,ay x.Code,ag ai x.yy,ae x.At] [ae x.Left,ag ai x.eI,ae x.Prec,ay x.Code,ag ai x.yy,ae x.At])⟩
instance {x:Prod}:dr (cE.cells x) [ae x.Left,ag ai x.eI,ae x.Prec,ay x.Code,ag ai x.yy,ae x.At]:=(inferInstance:dr [ae x.Left,ag ai x.eI,ae x.Prec,ay x.Code,ag ai x.yy,ae x.At] [ae x.Left,ag ai x.eI,ae x.Prec,ay x.Code,ag ai x.yy,ae x.At])
def dt:bJ bO:=⟨5,λx=>[ag b0 x.ba,ag bH x.b3,ag cE x.bj,ay x.cC,ay x.cK],λ_=>rfl,λ_=>dp.bn⟩
instance:Flat dt:=⟨λ_=>rfl⟩
instance:gU dt dt:=⟨rfl,λx=>(inferInstance:dr [ag b0 x.ba,ag bH x.b3,ag cE x.bj,ay x.cC,ay x.cK] [ag b0 x.ba,ag bH x.b3,ag cE x.bj,ay x.cC,ay x.cK])⟩
instance {x:bO}:dr (dt.cells x) [ag b0 x.ba,ag bH x.b3,ag cE x.bj,ay x.cC,ay x.cK]:=(inferInstance:dr [ag b0 x.ba,ag bH x.b3,ag cE x.bj,ay x.cC,ay x.cK] [ag b0 x.ba,ag bH x.b3,ag cE x.bj,ay x.cC,ay x.cK])
def Ei:bJ dv:=⟨13,λx=>[ag b0 x.aG.ba,ag bH x.aG.b3,ag cE x.aG.bj,ay x.aG.cC,ay x.aG.cK,ag cr x.cu,ag bH x.cL,ag dx x.cb,ae x.c3,ae x.dn,ay x.dk,ae x.ct,ae x.b_],λ_=>rfl,λ_=>dp.bn⟩
instance:Flat Ei:=⟨λ_=>rfl⟩
instance:gU Ei Ei:=⟨rfl,λx=>(inferInstance:dr [ag b0 x.aG.ba,ag bH x.aG.b3,ag cE x.aG.bj,ay x.aG.cC,ay x.aG.cK,ag cr x.cu,ag bH x.cL,ag dx x.cb,ae x.c3,ae x.dn,ay x.dk,ae x.ct,ae x.b_] [ag b0 x.aG.ba,ag bH x.aG.b3,ag cE x.aG.bj,ay x.aG.cC,ay x.aG.cK,ag cr x.cu,ag bH x.cL,ag dx x.cb,ae x.c3,ae x.dn,ay x.dk,ae x.ct,ae x.b_])⟩
instance {x:dv}:dr (Ei.cells x) [ag b0 x.aG.ba,ag bH x.aG.b3,ag cE x.aG.bj,ay x.aG.cC,ay x.aG.cK,ag cr x.cu,ag bH x.cL,ag dx x.cb,ae x.c3,ae x.dn,ay x.dk,ae x.ct,ae x.b_]:=(inferInstance:dr [ag b0 x.aG.ba,ag bH x.aG.b3,ag cE x.aG.bj,ay x.aG.cC,ay x.aG.cK,ag cr x.cu,ag bH x.cL,ag dx x.cb,ae x.c3,ae x.dn,ay x.dk,ae x.ct,ae x.b_] [ag b0 x.aG.ba,ag bH x.aG.b3,ag cE x.aG.bj,ay x.aG.cC,ay x.aG.cK,ag cr x.cu,ag bH x.cL,ag dx x.cb,ae x.c3,ae x.dn,ay x.dk,ae x.ct,ae x.b_])
def Mq:bJ bO:=⟨5,λx=>[aj b0 x.ba,aj bH x.b3,aj cE x.bj,ay x.cC,ay x.cK],λ_=>rfl,λ_=>dp.bn⟩
instance:gU Mq dt:=⟨rfl,λx=>(inferInstance:dr [aj b0 x.ba,aj bH x.b3,aj cE x.bj,ay x.cC,ay x.cK] [ag b0 x.ba,ag bH x.b3,ag cE x.bj,ay x.cC,ay x.cK])⟩
instance {x:bO}:dr (Mq.cells x) [ag b0 x.ba,ag bH x.b3,ag cE x.bj,ay x.cC,ay x.cK]:=(inferInstance:dr [aj b0 x.ba,aj bH x.b3,aj cE x.bj,ay x.cC,ay x.cK] [ag b0 x.ba,ag bH x.b3,ag cE x.bj,ay x.cC,ay x.cK])
def dR:bJ dv:=⟨13,λx=>[aj b0 x.aG.ba,aj bH x.aG.b3,aj cE x.aG.bj,ay x.aG.cC,ay x.aG.cK,aj cr x.cu,aj bH x.cL,aj dx x.cb,ae x.c3,ae x.dn,ay x.dk,ae x.ct,ae x.b_],λ_=>rfl,λ_=>dp.bn⟩
instance {x:dv}:dr (dR.cells x) [ag b0 x.aG.ba,ag bH x.aG.b3,ag cE x.aG.bj,ay x.aG.cC,ay x.aG.cK,ag cr x.cu,ag bH x.cL,ag dx x.cb,ae x.c3,ae x.dn,ay x.dk,ae x.ct,ae x.b_]:=(inferInstance:dr [aj b0 x.aG.ba,aj bH x.aG.b3,aj cE x.aG.bj,ay x.aG.cC,ay x.aG.cK,aj cr x.cu,aj bH x.cL,aj dx x.cb,ae x.c3,ae x.dn,ay x.dk,ae x.ct,ae x.b_] [ag b0 x.aG.ba,ag bH x.aG.b3,ag cE x.aG.bj,ay x.aG.cC,ay x.aG.cK,ag cr x.cu,ag bH x.cL,ag dx x.cb,ae x.c3,ae x.dn,ay x.dk,ae x.ct,ae x.b_])
def nV (a0:dv) (aE:Int) (a2:ByteArray):Option (dv) :=
 ((bif decide (a0.c3=0) then
 some (⟨a0.aG,a0.cu,a0.cL,a0.cb,3,aE,a2,a0.ct,a0.b_⟩:dv)
 else
 some a0)).bind λjt =>
 some jt
def zW (a0:dv) (aE:ByteArray):Option (Int) :=
 (b4 (R:=(Unit) ⊕ (Int)) (λ(s1:Int) =>
 (bif decide (s1<(a0.cL.length:Int)) then
 (idx a0.cL s1).bind λbC =>
 (bif decide (bC.Name=aE) then
 some (.inr (.inr s1))
 else
 some (.inl (aL (s1+1))))
 else
 some (.inr (.inl ())))) 0).bind λx2 =>
 (match x2 with
 | .inl a7 =>
 some (-1)
 | .inr bs =>
 some bs)
def uv (a0:dv) (aE:Sym):Option (Int) :=
 (b4 (R:=(Unit) ⊕ (Int)) (λ(s1:Int) =>
 (bif decide (s1<(a0.aG.ba.length:Int)) then
 (((idx a0.aG.ba s1).bind λbC=>(bif decide (bC.Name=aE.Name) then ((idx a0.aG.ba s1).bind λb6=>(bif (b6.Lit == aE.Lit) then some (!decide (s1=2)) else some false)) else some false))).bind λik =>
 (bif ik then
 some (.inr (.inr s1))
 else
 some (.inl (aL (s1+1))))
 else
 some (.inr (.inl ())))) 1).bind λx2 =>
 (match x2 with
 | .inl a7 =>
 some (-1)
 | .inr bs =>
 some bs)
def vP (a0:dv) (aE:Int):Option (Int) :=
 (b4 (R:=(Unit) ⊕ (Int)) (λ(s1:Int) =>
 (bif decide (s1<(a0.aG.ba.length:Int)) then
 (idx a0.aG.ba s1).bind λbC =>
 (bif decide (bC.bR=aE) then
 some (.inr (.inr s1))
 else
 some (.inl (aL (s1+1))))
 else
 some (.inr (.inl ())))) 3).bind λx2 =>
 (match x2 with
 | .inl a7 =>
 some (-1)
 | .inr bs =>
 some bs)
def vO (a0:dv) (aE:Sym):Option (Int × dv) :=
 (uv a0 aE).bind λa8 =>
 (bif decide (0<=a8) then
 some (a8,a0)
 else
 ((bif aE.Lit then
 (kq aE.Name 0).bind λbT =>
 (vP a0 (aL bT)).bind λbC =>
 ((bif decide (0<=bC) then
 (nV a0 aE.At aE.Name).bind λcw =>
 some cw
 else
 some a0)).bind λkS =>
 some (kS,aL bT)
 else
 some (a0,0))).bind λiv =>
 (da iv.1.aG.ba [(⟨aE.Name,aE.Lit,iv.2,0,0,⟨#[]⟩⟩:bX)]).bind λbI =>
 (da iv.1.cu [aE.Lit]).bind λcq =>
 some (aL (((iv.1.aG.ba++[(⟨aE.Name,aE.Lit,iv.2,0,0,⟨#[]⟩⟩:bX)]).length:Int) - 1),(⟨(⟨iv.1.aG.ba++[(⟨aE.Name,aE.Lit,iv.2,0,0,⟨#[]⟩⟩:bX)],iv.1.aG.b3,iv.1.aG.bj,iv.1.aG.cC,iv.1.aG.cK⟩:bO),iv.1.cu++[aE.Lit],iv.1.cL,iv.1.cb,iv.1.c3,iv.1.dn,iv.1.dk,iv.1.ct,iv.1.b_⟩:dv)))
def vK (a0:dv) (aE:Decl) (a2:Sym):Option (dv) :=
 (bif decide (aE.Kind=5) then
 (zW a0 a2.Name).bind λx2 =>
 ((bif decide (x2<0) then
 (da a0.cL [(⟨a2.Name,aE.Tag⟩:fF)]).bind λbT =>
 some (⟨a0.aG,a0.cu,a0.cL++[(⟨a2.Name,aE.Tag⟩:fF)],a0.cb,a0.c3,a0.dn,a0.dk,a0.ct,a0.b_⟩:dv)
 else
 (idx a0.cL x2).bind λbC =>
 ((bif !decide (bC.Tag=aE.Tag) then
 (nV a0 a2.At a2.Name).bind λcw =>
 some cw
 else
 some a0)).bind λkS =>
 some kS)).bind λiv =>
 some iv
 else
 (vO a0 a2).bind λbI =>
 (idx bI.2.aG.ba bI.1).bind λcq =>
 ((bif !decide (aE.Kind=1) then
 ((bif decide (0<cq.Level) then
 (nV bI.2 a2.At a2.Name).bind λcd =>
 some (⟨(⟨bI.2.aG.ba,cd.aG.b3,cd.aG.bj,cd.aG.cC,cd.aG.cK⟩:bO),cd.cu,cd.cL,cd.cb,cd.c3,cd.dn,cd.dk,cd.ct,cd.b_⟩:dv)
 else
 some bI.2)).bind λde =>
 (idx de.aG.ba bI.1).bind λbU =>
 some (⟨(⟨(de.aG.ba.set bI.1.toNat (⟨bU.Name,bU.Lit,bU.bR,de.ct,bU.fv,bU.Tag⟩:bX)).set bI.1.toNat (⟨(⟨bU.Name,bU.Lit,bU.bR,de.ct,bU.fv,bU.Tag⟩:bX).Name,(⟨bU.Name,bU.Lit,bU.bR,de.ct,bU.fv,bU.Tag⟩:bX).Lit,(⟨bU.Name,bU.Lit,bU.bR,de.ct,bU.fv,bU.Tag⟩:bX).bR,(⟨bU.Name,bU.Lit,bU.bR,de.ct,bU.fv,bU.Tag⟩:bX).Level,aL (aE.Kind - 1),(⟨bU.Name,bU.Lit,bU.bR,de.ct,bU.fv,bU.Tag⟩:bX).Tag⟩:bX),de.aG.b3,de.aG.bj,de.aG.cC,de.aG.cK⟩:bO),de.cu,de.cL,de.cb,de.c3,de.dn,de.dk,de.ct,de.b_⟩:dv)
 else
 some bI.2)).bind λeO =>
 (idx eO.aG.ba bI.1).bind λdP =>
 ((bif decide (0<a2.bR) then
 ((bif decide (bI.1=1) then some true else ((idx eO.cu bI.1).bind λfZ=>(bif fZ then some true else ((vP eO a2.bR).bind λgb=>some (decide (0<=gb))))))).bind λHa =>
 ((bif Ha then
 (nV eO a2.At a2.Name).bind λcX =>
 some (⟨(⟨eO.aG.ba,cX.aG.b3,cX.aG.bj,cX.aG.cC,cX.aG.cK⟩:bO),cX.cu,cX.cL,cX.cb,cX.c3,cX.dn,cX.dk,cX.ct,cX.b_⟩:dv)
 else
 some eO)).bind λdZ =>
 (idx dZ.aG.ba bI.1).bind λeb =>
 (idx dZ.cu bI.1).bind λhI =>
 some (⟨(⟨dZ.aG.ba.set bI.1.toNat (⟨eb.Name,eb.Lit,a2.bR,eb.Level,eb.fv,eb.Tag⟩:bX),dZ.aG.b3,dZ.aG.bj,dZ.aG.cC,dZ.aG.cK⟩:bO),dZ.cu.set bI.1.toNat true,dZ.cL,dZ.cb,dZ.c3,dZ.dn,dZ.dk,dZ.ct,dZ.b_⟩:dv)
 else
 some eO)).bind λfc =>
 (idx fc.aG.ba bI.1).bind λkY =>
 ((bif !decide (aE.Tag=⟨#[]⟩) then
 ((bif !decide (kY.Tag=⟨#[]⟩) then some (!decide (kY.Tag=aE.Tag)) else some false)).bind λtD =>
 ((bif tD then
 (nV fc a2.At a2.Name).bind λc0 =>
 some (⟨(⟨fc.aG.ba,c0.aG.b3,c0.aG.bj,c0.aG.cC,c0.aG.cK⟩:bO),c0.cu,c0.cL,c0.cb,c0.c3,c0.dn,c0.dk,c0.ct,c0.b_⟩:dv)
 else
 some fc)).bind λnf =>
 (idx nf.aG.ba bI.1).bind λgl =>
 some (⟨(⟨nf.aG.ba.set bI.1.toNat (⟨gl.Name,gl.Lit,gl.bR,gl.Level,gl.fv,aE.Tag⟩:bX),nf.aG.b3,nf.aG.bj,nf.aG.cC,nf.aG.cK⟩:bO),nf.cu,nf.cL,nf.cb,nf.c3,nf.dn,nf.dk,nf.ct,nf.b_⟩:dv)
 else
 some fc)).bind λpM =>
 some pM)
def s6 (a0:dv) (aE:ByteArray):Option (Int) :=
 (b4 (R:=(Unit) ⊕ (Int)) (λ(s1:Int) =>
 (bif decide (s1<(a0.cb.length:Int)) then
 (idx a0.cb s1).bind λbC =>
 (bif decide (bC=aE) then
 some (.inr (.inr s1))
 else
 some (.inl (aL (s1+1))))
 else
 some (.inr (.inl ())))) 0).bind λx2 =>
 (match x2 with
 | .inl a7 =>
 some (-1)
 | .inr bs =>
 some bs)
def s8 (a0:dv) (aE:Sym):Option (Int × dv) :=
 (bif aE.Lit then
 (vO a0 aE).bind λx2 =>
 some (x2.1,x2.2)
 else
 (s6 a0 aE.Name).bind λa7 =>
 (bif decide (0<=a7) then
 some (aL (1001+a7),a0)
 else
 (uv a0 aE).bind λbT =>
 (bif decide (bT<0) then
 (nV a0 aE.At aE.Name).bind λbQ =>
 some (0,bQ)
 else
 some (bT,a0))))
def vL (a0:dv) (aE:ByteArray) (a2:Alt):Option (dv) :=
 (s6 a0 aE).bind λa8 =>
 (b4 (R:=dv × List Int × ByteArray × Int) (λ(s2:dv × List Int × ByteArray × Int × Int) =>
 (bif decide (s2.2.2.2.2<(a2.ht.length:Int)) then
 ((idx a2.ht s2.2.2.2.2).bind λbQ =>
 (((bif decide (bQ.Code=⟨#[]⟩) then
 (s8 s2.1 bQ.Sym).bind λcq =>
 (da s2.2.1 [cq.1]).bind λeF =>
 some (cq.2,s2.2.1++[cq.1],s2.2.2.1,s2.2.2.2.1)
 else
 ((bif decide (aL (s2.2.2.2.2+1)=(a2.ht.length:Int)) then
 some (s2.1.aG.bj,s2.1.b_,s2.2.1,bQ.Code,bQ.At)
 else
 (da ([]:List Int) s2.2.1).bind λcQ =>
 (da s2.1.aG.bj [(⟨aL ((s2.1.cb.length:Int)+(aL (s2.1.b_+1))),([]:List Int),(-1),bQ.Code,([]:List Int)++s2.2.1,bQ.At⟩:Prod)]).bind λcd =>
 (da s2.2.1 [aL ((aL (1000+(s2.1.cb.length:Int)))+(aL (s2.1.b_+1)))]).bind λbU =>
 some (s2.1.aG.bj++[(⟨aL ((s2.1.cb.length:Int)+(aL (s2.1.b_+1))),([]:List Int),(-1),bQ.Code,([]:List Int)++s2.2.1,bQ.At⟩:Prod)],aL (s2.1.b_+1),s2.2.1++[aL ((aL (1000+(s2.1.cb.length:Int)))+(aL (s2.1.b_+1)))],s2.2.2.1,s2.2.2.2.1))).bind λiI =>
 some ((⟨(⟨s2.1.aG.ba,s2.1.aG.b3,iI.1,s2.1.aG.cC,s2.1.aG.cK⟩:bO),s2.1.cu,s2.1.cL,s2.1.cb,s2.1.c3,s2.1.dn,s2.1.dk,s2.1.ct,iI.2.1⟩:dv),iI.2.2.1,iI.2.2.2.1,iI.2.2.2.2))).bind λqB =>
 some (qB.1,qB.2.1,qB.2.2.1,qB.2.2.2)).bind λff =>
 some (ff.1,ff.2.1,ff.2.2.1,ff.2.2.2)).bind λkR =>
 some (.inl (kR.1,kR.2.1,kR.2.2.1,kR.2.2.2,aL (s2.2.2.2.2+1)))
 else
 some (.inr (s2.1,s2.2.1,s2.2.2.1,s2.2.2.2.1)))) (a0,([]:List Int),⟨#[]⟩,a2.At,0)).bind λa7 =>
 (b4 (R:=Int) (λ(np:Int × Int) =>
 (bif decide (np.2<(a7.2.1.length:Int)) then
 ((idx a7.2.1 np.2).bind λfB =>
 ((bif decide (fB<1000) then
 (idx a7.2.1 np.2).bind λgC =>
 some gC
 else
 some np.1)).bind λxx =>
 some xx).bind λmz =>
 some (.inl (mz,aL (np.2+1)))
 else
 some (.inr np.1))) ((-1),0)).bind λeX =>
 ((bif !decide (a2.Prec.Name=⟨#[]⟩) then
 ((bif a2.Prec.Lit then some true else ((s6 a7.1 a2.Prec.Name).bind λhI=>some (decide (hI<0))))).bind λtC =>
 ((bif tC then
 (s8 a7.1 a2.Prec).bind λj2 =>
 some (j2.2,j2.1)
 else
 (nV a7.1 a2.Prec.At a2.Prec.Name).bind λeo =>
 some (eo,(-1)))).bind λpM =>
 some (pM.1,pM.2)
 else
 some (a7.1,eX))).bind λjY =>
 (da ([]:List Int) a7.2.1).bind λp1 =>
 (da jY.1.aG.bj [(⟨aL (1+a8),a7.2.1,jY.2,a7.2.2.1,([]:List Int)++a7.2.1,a7.2.2.2⟩:Prod)]).bind λj3 =>
 some (⟨(⟨jY.1.aG.ba,jY.1.aG.b3,jY.1.aG.bj++[(⟨aL (1+a8),a7.2.1,jY.2,a7.2.2.1,([]:List Int)++a7.2.1,a7.2.2.2⟩:Prod)],jY.1.aG.cC,jY.1.aG.cK⟩:bO),jY.1.cu,jY.1.cL,jY.1.cb,jY.1.c3,jY.1.dn,jY.1.dk,jY.1.ct,jY.1.b_⟩:dv)
def CK (a0:Int):Option (ByteArray) :=
 ((bif decide (a0<0) then
 some (IntKind.u64.wrap (-(IntKind.u64.wrap a0)))
 else
 some (IntKind.u64.wrap a0))).bind λjt =>
 (b4 (R:=ByteArray) (λ(ea:Int × ByteArray) =>
 ((bif decide (0<ea.1) then some true else some (decide (ea.2=⟨#[]⟩)))).bind λkJ =>
 (bif kJ then
 (rA ea.1 10).bind λcw =>
 (tF (strOfNums [yq (IntKind.u64.wrap (48+cw))]) ea.2).bind λbI =>
 (rv ea.1 10).bind λcq =>
 some (.inl (cq,bI))
 else
 some (.inr ea.2))) (jt,⟨#[]⟩)).bind λbs =>
 (bif decide (a0<0) then
 (tF (⟨#[45]⟩) bs).bind λck =>
 some ck
 else
 some bs)
def vY (a0:Source):Option (bO × Int × Int × ByteArray) :=
 (xR a0).bind λa8 =>
 (bif !a8 then
 some ((⟨([]:List bX),([]:List fF),([]:List Prod),⟨#[]⟩,⟨#[]⟩⟩:bO),1,0,⟨#[]⟩)
 else
 (ni 3 false).bind λa7 =>
 (b4 (R:=dv × ByteArray) (λ(cY:dv × ByteArray × Int) =>
 (bif decide (cY.2.2<(a0.Decls.length:Int)) then
 (idx a0.Decls cY.2.2).bind λb6 =>
 ((bif decide (2<=b6.Kind) then some (decide (b6.Kind<=4)) else some false)).bind λik =>
 ((bif ik then
 some (aL (cY.1.ct+1))
 else
 some cY.1.ct)).bind λju =>
 (b4 (R:=dv × ByteArray) (λ(e_:dv × ByteArray × Int) =>
 (bif decide (e_.2.2<(b6.eM.length:Int)) then
 ((bif !decide (b6.Kind=6) then
 (idx b6.eM e_.2.2).bind λeX =>
 (vK e_.1 b6 eX).bind λdM =>
 some (dM,e_.2.1)
 else
 ((bif !decide (e_.2.1=⟨#[]⟩) then
 (idx b6.eM e_.2.2).bind λfB =>
 (idx b6.eM e_.2.2).bind λgb =>
 (nV e_.1 fB.At gb.Name).bind λhS =>
 some hS
 else
 some e_.1)).bind λnR =>
 (idx b6.eM e_.2.2).bind λgC =>
 some (nR,gC.Name))).bind λCl =>
 some (.inl (Cl.1,Cl.2,aL (e_.2.2+1)))
 else
 some (.inr (e_.1,e_.2.1)))) ((⟨cY.1.aG,cY.1.cu,cY.1.cL,cY.1.cb,cY.1.c3,cY.1.dn,cY.1.dk,ju,cY.1.b_⟩:dv),cY.2.1,0)).bind λeg =>
 some (.inl (eg.1,eg.2,aL (cY.2.2+1)))
 else
 some (.inr (cY.1,cY.2.1)))) ((⟨(⟨[(⟨⟨#[36,101,110,100]⟩,false,0,0,0,⟨#[]⟩⟩:bX),(⟨⟨#[101,114,114,111,114]⟩,false,(-1),0,0,⟨#[]⟩⟩:bX),(⟨⟨#[36,117,110,107]⟩,false,(-1),0,0,⟨#[]⟩⟩:bX)],[],[],⟨#[]⟩,⟨#[]⟩⟩:bO),a7,[],[],0,0,⟨#[]⟩,0,0⟩:dv),⟨#[]⟩,0)).bind λbT =>
 (b4 (R:=dv) (λ(qL:dv × Int) =>
 (bif decide (qL.2<(a0.dG.length:Int)) then
 ((idx a0.dG qL.2).bind λcR =>
 (uv qL.1 (⟨cR.Left,false,0,0⟩:Sym)).bind λfa =>
 ((bif decide (0<=fa) then
 (nV qL.1 cR.At cR.Left).bind λp1 =>
 some p1
 else
 some qL.1)).bind λiR =>
 (s6 iR cR.Left).bind λj3 =>
 ((bif decide (j3<0) then
 (da iR.cb [cR.Left]).bind λrJ =>
 some (iR.cb++[cR.Left])
 else
 some iR.cb)).bind λJs =>
 some (⟨iR.aG,iR.cu,iR.cL,Js,iR.c3,iR.dn,iR.dk,iR.ct,iR.b_⟩:dv)).bind λsi =>
 some (.inl (si,aL (qL.2+1)))
 else
 some (.inr qL.1))) (bT.1,0)).bind λcX =>
 (b4 (R:=dv) (λ(qM:dv × Int) =>
 (bif decide (qM.2<(a0.Decls.length:Int)) then
 (b4 (R:=dv) (λ(qN:dv × Int) =>
 (idx a0.Decls qM.2).bind λwg =>
 (bif decide (qN.2<(wg.eM.length:Int)) then
 ((idx a0.Decls qM.2).bind λwh =>
 (idx wh.eM qN.2).bind λp3 =>
 (((idx a0.Decls qM.2).bind λKP=>(bif decide (5<=KP.Kind) then ((s6 qN.1 p3.Name).bind λkB=>some (decide (kB<0))) else some false))).bind λHf =>
 ((bif Hf then
 (nV qN.1 p3.At p3.Name).bind λAI =>
 some AI
 else
 some qN.1)).bind λJw =>
 some Jw).bind λJv =>
 some (.inl (Jv,aL (qN.2+1)))
 else
 some (.inr qN.1))) (qM.1,0)).bind λoz =>
 some (.inl (oz,aL (qM.2+1)))
 else
 some (.inr qM.1))) (cX,0)).bind λhd =>
 ((bif decide (bT.2=⟨#[]⟩) then
 (idx a0.dG 0).bind λwi =>
 some wi.Left
 else
 some bT.2)).bind λxz =>
 (s6 hd xz).bind λmH =>
 (b4 (R:=dv) (λ(pW:dv × Int) =>
 (bif decide (pW.2<(a0.dG.length:Int)) then
 (b4 (R:=dv) (λ(rD:dv × Int) =>
 (idx a0.dG pW.2).bind λDC =>
 (bif decide (rD.2<(DC.eL.length:Int)) then
 (idx a0.dG pW.2).bind λDD =>
 (idx a0.dG pW.2).bind λKS =>
 (idx KS.eL rD.2).bind λDE =>
 (vL rD.1 DD.Left DE).bind λGu =>
 some (.inl (Gu,aL (rD.2+1)))
 else
 some (.inr rD.1))) (pW.1,0)).bind λkC =>
 some (.inl (kC,aL (pW.2+1)))
 else
 some (.inr pW.1))) ((⟨(⟨hd.aG.ba,hd.aG.b3,[(⟨0,[aL (1001+mH)],(-1),⟨#[]⟩,([]:List Int),0⟩:Prod)],hd.aG.cC,hd.aG.cK⟩:bO),hd.cu,hd.cL,hd.cb,hd.c3,hd.dn,hd.dk,hd.ct,hd.b_⟩:dv),0)).bind λbu =>
 (bif !decide (bu.c3=0) then
 some ((⟨([]:List bX),([]:List fF),([]:List Prod),⟨#[]⟩,⟨#[]⟩⟩:bO),bu.c3,bu.dn,bu.dk)
 else
 (b4 (R:=List fF) (λ(rE:List fF × Int) =>
 (bif decide (rE.2<(bu.cb.length:Int)) then
 (idx bu.cb rE.2).bind λqQ =>
 (zW (⟨(⟨bu.aG.ba,rE.1,bu.aG.bj,bu.aG.cC,bu.aG.cK⟩:bO),bu.cu,bu.cL,bu.cb,bu.c3,bu.dn,bu.dk,bu.ct,bu.b_⟩:dv) qQ).bind λyr =>
 ((bif decide (0<=yr) then
 (idx bu.cL yr).bind λKT =>
 some KT.Tag
 else
 some (⟨#[]⟩))).bind λuq =>
 (da rE.1 [(⟨qQ,uq⟩:fF)]).bind λQy =>
 some (.inl (rE.1++[(⟨qQ,uq⟩:fF)],aL (rE.2+1)))
 else
 some (.inr rE.1))) ([(⟨⟨#[36,97,99,99,101,112,116]⟩,⟨#[]⟩⟩:fF)],0)).bind λuN =>
 (b4 (R:=List fF) (λ(sq:List fF × Int) =>
 (bif decide (sq.2<=bu.b_) then
 (CK sq.2).bind λGv =>
 (tF (⟨#[64]⟩) Gv).bind λwj =>
 (da sq.1 [(⟨wj,⟨#[]⟩⟩:fF)]).bind λQz =>
 some (.inl (sq.1++[(⟨wj,⟨#[]⟩⟩:fF)],aL (sq.2+1)))
 else
 some (.inr sq.1))) (uN,1)).bind λkZ =>
 (b4 (R:=List bX) (λ(mc:List bX × Int × Int) =>
 (bif decide (mc.2.2<(mc.1.length:Int)) then
 ((idx bu.cu mc.2.2).bind λKN =>
 ((bif !KN then
 (idx mc.1 mc.2.2).bind λsu =>
 some (mc.1.set mc.2.2.toNat (⟨su.Name,su.Lit,mc.2.1,su.Level,su.fv,su.Tag⟩:bX),aL (mc.2.1+1))
 else
 some (mc.1,mc.2.1))).bind λCk =>
 some (Ck.1,Ck.2)).bind λCm =>
 some (.inl (Cm.1,Cm.2,aL (mc.2.2+1)))
 else
 some (.inr mc.1))) (bu.aG.ba,57346,3)).bind λmf =>
 ((bif decide (40<(mf.length:Int)) then some true else (bif decide (24<(kZ.length:Int)) then some true else some (decide (60<(bu.aG.bj.length:Int)))))).bind λu2 =>
 (b4 (R:=Bool) (λ(ta:Bool × Int) =>
 (bif decide (ta.2<(bu.aG.bj.length:Int)) then
 ((bif ta.1 then some true else ((idx bu.aG.bj ta.2).bind λKO=>some (decide (8<(KO.eI.length:Int)))))).bind λG8 =>
 some (.inl (G8,aL (ta.2+1)))
 else
 some (.inr ta.1))) (u2,0)).bind λAH =>
 (bif AH then
 some ((⟨([]:List bX),([]:List fF),([]:List Prod),⟨#[]⟩,⟨#[]⟩⟩:bO),4,0,⟨#[]⟩)
 else
 some ((⟨mf,kZ,bu.aG.bj,a0.cC,a0.cK⟩:bO),0,0,⟨#[]⟩))))
def x3 (a0:Source):Option (bO × Bool) :=
 (vY a0).bind λa8 =>
 some (a8.1,decide (a8.2.1=0))
def pU (a0:(List Int)) (aE:Int):Option ((List Int)) :=
 (b4 (R:=Int) (λ(s1:Int) =>
 ((bif decide (0<s1) then ((idx a0 (aL (s1 - 1))).bind λbT=>some (decide (aE<bT))) else some false)).bind λoJ =>
 (bif oJ then
 some (.inl (aL (s1 - 1)))
 else
 some (.inr s1))) (a0.length:Int)).bind λx2 =>
 ((bif decide (0<x2) then ((idx a0 (aL (x2 - 1))).bind λcw=>some (decide (cw=aE))) else some false)).bind λik =>
 (bif ik then
 some a0
 else
 (nW a0 0 x2).bind λeF =>
 (da ([]:List Int) eF).bind λck =>
 (da (([]:List Int)++eF) [aE]).bind λeg =>
 (nW a0 x2 a0.length).bind λcQ =>
 (da ((([]:List Int)++eF)++[aE]) cQ).bind λcd =>
 some ((([]:List Int)++eF)++[aE]++cQ))
def x4 (a0:(List Int)) (aE:Int):Option (Bool) :=
 (b4 (R:=(Unit) ⊕ (Bool)) (λ(s1:Int) =>
 (bif decide (s1<(a0.length:Int)) then
 (idx a0 s1).bind λbC =>
 (bif decide (bC=aE) then
 some (.inr (.inr true))
 else
 some (.inl (aL (s1+1))))
 else
 some (.inr (.inl ())))) 0).bind λx2 =>
 (match x2 with
 | .inl a7 =>
 some false
 | .inr bs =>
 some bs)
def C5 (a0:bO):Option ((List Int)) :=
 (b4 (R:=List Int) (λ(s1:List Int × Int) =>
 (bif decide (s1.2<(a0.ba.length:Int)) then
 (da s1.1 [s1.2]).bind λbT =>
 some (.inl (s1.1++[s1.2],aL (s1.2+1)))
 else
 some (.inr s1.1))) (([]:List Int),0)).bind λx2 =>
 (b4 (R:=List Int) (λ(db:List Int × Int) =>
 (bif decide (db.2<(a0.b3.length:Int)) then
 (da db.1 [aL (1000+db.2)]).bind λbI =>
 some (.inl (db.1++[aL (1000+db.2)],aL (db.2+1)))
 else
 some (.inr db.1))) (x2,0)).bind λbQ =>
 some bQ
structure Item where
 Prod:Int
 fe:Int
 deriving DecidableEq,Inhabited
def zX (a0:bO) (aE:Item):Option (Bool) :=
 ((bif decide (0<=aE.Prod) then (bif decide (aE.Prod<(a0.bj.length:Int)) then (bif decide (0<=aE.fe) then ((idx a0.bj aE.Prod).bind λbs=>some (decide (aE.fe<=(bs.eI.length:Int)))) else some false) else some false) else some false)).bind λkI =>
 some kI
def x7 (a0:bO) (aE:Item):Option (Int) :=
 (((zX a0 aE).bind λa8=>(bif !a8 then some true else ((idx a0.bj aE.Prod).bind λa7=>some (decide (aE.fe=(a7.eI.length:Int))))))).bind λc4 =>
 (bif c4 then
 some (-1)
 else
 (idx a0.bj aE.Prod).bind λbC =>
 (idx bC.eI aE.fe).bind λbQ =>
 some bQ)
def fU:bJ Item:=⟨2,λx=>[ae x.Prod,ae x.fe],λ_=>rfl,λ_=>dp.bn⟩
instance:Flat fU:=⟨λ_=>rfl⟩
instance:l1 fU:=⟨λx=>(inferInstance:jC [ae x.Prod,ae x.fe])⟩
instance:gU fU fU:=⟨rfl,λx=>(inferInstance:dr [ae x.Prod,ae x.fe] [ae x.Prod,ae x.fe])⟩
def xS (a0:(List Item)) (aE:Item):Option ((List Item)) :=
 (b4 (R:=Int) (λ(s1:Int) =>
 ((bif decide (0<s1) then ((idx a0 (aL (s1 - 1))).bind λbT=>(bif decide (aE.Prod<bT.Prod) then some true else ((idx a0 (aL (s1 - 1))).bind λbQ=>(bif decide (bQ.Prod=aE.Prod) then ((idx a0 (aL (s1 - 1))).bind λcw=>some (decide (aE.fe<cw.fe))) else some false)))) else some false)).bind λik =>
 (bif ik then
 some (.inl (aL (s1 - 1)))
 else
 some (.inr s1))) (a0.length:Int)).bind λx2 =>
 ((bif decide (0<x2) then ((idx a0 (aL (x2 - 1))).bind λck=>some (decide (ck.Prod=aE.Prod)&&(decide (ck.fe=aE.fe)&&true))) else some false)).bind λoH =>
 (bif oH then
 some a0
 else
 (nW a0 0 x2).bind λcd =>
 (da ([]:List Item) cd).bind λbU =>
 (da (([]:List Item)++cd) [aE]).bind λdP =>
 (nW a0 x2 a0.length).bind λeX =>
 (da ((([]:List Item)++cd)++[aE]) eX).bind λdM =>
 some ((([]:List Item)++cd)++[aE]++eX))
def CL (a0:bO) (aE:(List Item)):Option ((List Item)) :=
 (b4 (R:=List Item) (λ(s1:List Item × Int) =>
 (bif decide (s1.2<(aE.length:Int)) then
 ((idx aE s1.2).bind λbC =>
 (zX a0 bC).bind λbQ =>
 ((bif bQ then
 (idx aE s1.2).bind λbI =>
 (xS s1.1 bI).bind λcq =>
 some cq
 else
 some s1.1)).bind λff =>
 some ff).bind λkQ =>
 some (.inl (kQ,aL (s1.2+1)))
 else
 some (.inr s1.1))) (([]:List Item),0)).bind λx2 =>
 some x2
def x6 (a0:bO) (aE:(List Item)):Option ((List Item)) :=
 (CL a0 aE).bind λa8 =>
 (b4 (R:=List Item) (λ(s2:List Item × Int) =>
 (bif !decide (s2.2=(s2.1.length:Int)) then
 (((b4 (R:=List Item) (λ(dw:List Item × Int) =>
 (bif decide (dw.2<(s2.1.length:Int)) then
 (idx dw.1 dw.2).bind λeF =>
 (x7 a0 eF).bind λck =>
 (b4 (R:=List Item) (λ(e1:List Item × Int) =>
 ((bif decide (e1.2<(a0.bj.length:Int)) then some (decide (1000<=ck)) else some false)).bind λnz =>
 (bif nz then
 ((idx a0.bj e1.2).bind λeB =>
 ((bif decide (eB.Left=aL (ck - 1000)) then
 (xS e1.1 (⟨e1.2,0⟩:Item)).bind λgb =>
 some gb
 else
 some e1.1)).bind λmz =>
 some mz).bind λxw =>
 some (.inl (xw,aL (e1.2+1)))
 else
 some (.inr e1.1))) (dw.1,0)).bind λcQ =>
 (bif !decide ((cQ.length:Int)=(s2.1.length:Int)) then
 some (.inr cQ)
 else
 some (.inl (cQ,aL (dw.2+1))))
 else
 some (.inr dw.1))) (s2.1,0)).bind λcw =>
 some cw).bind λkS =>
 some (kS,(s2.1.length:Int))).bind λkR =>
 some (.inl (kR.1,kR.2))
 else
 some (.inr s2.1))) (a8,(-1))).bind λa7 =>
 some a7
def C6 (a0:bO) (aE:(List Item)) (a2:Int):Option ((List Item)) :=
 (x6 a0 aE).bind λa8 =>
 (b4 (R:=List Item) (λ(s2:List Item × Int) =>
 (bif decide (s2.2<(a8.length:Int)) then
 ((idx a8 s2.2).bind λbQ =>
 (x7 a0 bQ).bind λb6 =>
 ((bif decide (0<=b6) then some (decide (b6=a2)) else some false)).bind λik =>
 ((bif ik then
 (idx a8 s2.2).bind λck =>
 (idx a8 s2.2).bind λeg =>
 (xS s2.1 (⟨ck.Prod,aL (eg.fe+1)⟩:Item)).bind λcQ =>
 some cQ
 else
 some s2.1)).bind λju =>
 some ju).bind λkR =>
 some (.inl (kR,aL (s2.2+1)))
 else
 some (.inr s2.1))) (([]:List Item),0)).bind λa7 =>
 some a7
def CM (a0:(List Item)) (aE:(List Item)):Option (Bool) :=
 (bif !decide ((a0.length:Int)=(aE.length:Int)) then
 some false
 else
 (b4 (R:=(Unit) ⊕ (Bool)) (λ(s2:Int) =>
 (bif decide (s2<(a0.length:Int)) then
 (idx a0 s2).bind λbQ =>
 (idx aE s2).bind λb6 =>
 (bif !(decide (bQ.Prod=b6.Prod)&&(decide (bQ.fe=b6.fe)&&true)) then
 some (.inr (.inr false))
 else
 some (.inl (aL (s2+1))))
 else
 some (.inr (.inl ())))) 0).bind λa7 =>
 (match a7 with
 | .inl bs =>
 some true
 | .inr bT =>
 some bT))
structure Move where
 Sym:Int
 jF:Int
 deriving DecidableEq,Inhabited
structure State where
 Kernel:(List Item)
 eV:(List Move)
 deriving DecidableEq,Inhabited
def lF:bJ Move:=⟨2,λx=>[ae x.Sym,ae x.jF],λ_=>rfl,λ_=>dp.bn⟩
instance:Flat lF:=⟨λ_=>rfl⟩
instance:l1 lF:=⟨λx=>(inferInstance:jC [ae x.Sym,ae x.jF])⟩
instance:gU lF lF:=⟨rfl,λx=>(inferInstance:dr [ae x.Sym,ae x.jF] [ae x.Sym,ae x.jF])⟩
def gP:bJ State:=⟨2,λx=>[ag fU x.Kernel,ag lF x.eV],λ_=>rfl,λ_=>dp.bn⟩
instance:Flat gP:=⟨λ_=>rfl⟩
instance:gU gP gP:=⟨rfl,λx=>(inferInstance:dr [ag fU x.Kernel,ag lF x.eV] [ag fU x.Kernel,ag lF x.eV])⟩
def C7 (a0:(List State)) (aE:(List Item)):Option (Int) :=
 (b4 (R:=(Unit) ⊕ (Int)) (λ(s1:Int) =>
 (bif decide (s1<(a0.length:Int)) then
 (idx a0 s1).bind λbC =>
 (CM bC.Kernel aE).bind λbQ =>
 (bif bQ then
 some (.inr (.inr s1))
 else
 some (.inl (aL (s1+1))))
 else
 some (.inr (.inl ())))) 0).bind λx2 =>
 (match x2 with
 | .inl a7 =>
 some (-1)
 | .inr bs =>
 some bs)
def g_:bJ State:=⟨2,λx=>[ag fU x.Kernel,aj lF x.eV],λ_=>rfl,λ_=>dp.bn⟩
instance:gU g_ gP:=⟨rfl,λx=>(inferInstance:dr [ag fU x.Kernel,aj lF x.eV] [ag fU x.Kernel,ag lF x.eV])⟩
def Ai (a0:bO):Option ((List State) × Int) :=
 (C5 a0).bind λa8 =>
 (b4 (R:=(List State) ⊕ (List State × Int)) (λ(s2:List State × Int) =>
 (bif decide (s2.2<(s2.1.length:Int)) then
 (idx s2.1 s2.2).bind λbQ =>
 (x6 a0 bQ.Kernel).bind λb6 =>
 (b4 (R:=List Int) (λ(ia:List Int × Int) =>
 (bif decide (ia.2<(b6.length:Int)) then
 ((idx b6 ia.2).bind λeg =>
 (x7 a0 eg).bind λcQ =>
 ((bif decide (0<=cQ) then
 (pU ia.1 cQ).bind λdP =>
 some dP
 else
 some ia.1)).bind λmy =>
 some my).bind λiI =>
 some (.inl (iI,aL (ia.2+1)))
 else
 some (.inr ia.1))) (([]:List Int),0)).bind λbI =>
 (b4 (R:=(List State) ⊕ (List State × Int)) (λ(df:List State × Int) =>
 (bif decide (df.2<(a8.length:Int)) then
 (idx a8 df.2).bind λgb =>
 (x4 bI gb).bind λhS =>
 (bif !hS then
 some (.inl (df.1,aL (df.2+1)))
 else
 (idx df.1 s2.2).bind λdX =>
 (idx a8 df.2).bind λcX =>
 (C6 a0 dX.Kernel cX).bind λeb =>
 (C7 df.1 eb).bind λhI =>
 (bif decide (hI<0) then
 (bif decide ((df.1.length:Int)=150) then
 some (.inr (.inr (([]:List State),4)))
 else
 (da df.1 [(⟨eb,([]:List Move)⟩:State)]).bind λfa =>
 (idx (df.1++[(⟨eb,([]:List Move)⟩:State)]) s2.2).bind λj2 =>
 (idx a8 df.2).bind λeo =>
 (da j2.eV [(⟨eo,(df.1.length:Int)⟩:Move)]).bind λp1 =>
 some (.inl ((df.1++[(⟨eb,([]:List Move)⟩:State)]).set s2.2.toNat (⟨j2.Kernel,j2.eV++[(⟨eo,(df.1.length:Int)⟩:Move)]⟩:State),aL (df.2+1))))
 else
 (idx df.1 s2.2).bind λj3 =>
 (idx a8 df.2).bind λc0 =>
 (da j3.eV [(⟨c0,hI⟩:Move)]).bind λgl =>
 some (.inl (df.1.set s2.2.toNat (⟨j3.Kernel,j3.eV++[(⟨c0,hI⟩:Move)]⟩:State),aL (df.2+1)))))
 else
 some (.inr (.inl df.1)))) (s2.1,0)).bind λdM =>
 (match dM with
 | .inl eB =>
 some (.inl (eB,aL (s2.2+1)))
 | .inr fZ =>
 some (.inr (.inr (fZ.1,fZ.2))))
 else
 some (.inr (.inl s2.1)))) ([(⟨[(⟨0,0⟩:Item)],([]:List Move)⟩:State)],0)).bind λa7 =>
 (match a7 with
 | .inl bs =>
 some (bs,0)
 | .inr bT =>
 some (bT.1,bT.2))
def x0 (a0:Source):Option (bO × (List State) × Bool) :=
 (x3 a0).bind λa8 =>
 (bif !a8.2 then
 some (a8.1,([]:List State),false)
 else
 (Ai a8.1).bind λa7 =>
 some (a8.1,a7.1,decide (a7.2=0)))
def rr (a0:(List State)) (aE:Int) (a2:Int):Option (Int) :=
 (b4 (R:=(Unit) ⊕ (Int)) (λ(s1:Int) =>
 ((bif decide (0<=aE) then (bif decide (aE<(a0.length:Int)) then ((idx a0 aE).bind λbQ=>some (decide (s1<(bQ.eV.length:Int)))) else some false) else some false)).bind λtE =>
 (bif tE then
 (idx a0 aE).bind λbI =>
 (idx bI.eV s1).bind λcq =>
 (bif decide (cq.Sym=a2) then
 (idx a0 aE).bind λck =>
 (idx ck.eV s1).bind λeg =>
 some (.inr (.inr eg.jF))
 else
 some (.inl (aL (s1+1))))
 else
 some (.inr (.inl ())))) 0).bind λx2 =>
 (match x2 with
 | .inl a7 =>
 some (-1)
 | .inr bs =>
 some bs)
structure Cell where
 State:Int
 bX:Int
 j6:Int
 lY:Bool
 bj:(List Int)
 deriving DecidableEq,Inhabited
def iF:bJ Cell:=⟨5,λx=>[ae x.State,ae x.bX,ae x.j6,a_ x.lY,ag ai x.bj],λ_=>rfl,λ_=>dp.bn⟩
instance:Flat iF:=⟨λ_=>rfl⟩
instance:gU iF iF:=⟨rfl,λx=>(inferInstance:dr [ae x.State,ae x.bX,ae x.j6,a_ x.lY,ag ai x.bj] [ae x.State,ae x.bX,ae x.j6,a_ x.lY,ag ai x.bj])⟩
instance {x:Cell}:dr (iF.cells x) [ae x.State,ae x.bX,ae x.j6,a_ x.lY,ag ai x.bj]:=(inferInstance:dr [ae x.State,ae x.bX,ae x.j6,a_ x.lY,ag ai x.bj] [ae x.State,ae x.bX,ae x.j6,a_ x.lY,ag ai x.bj])
def Af (a0:Cell):Option (Int) :=
 ((bif decide (0<=a0.j6) then
 some (aL ((a0.bj.length:Int)+1))
 else
 some (a0.bj.length:Int))).bind λjt =>
 ((bif a0.lY then
 some (aL (jt+1))
 else
 some jt)).bind λiv =>
 some iv
structure k2 where
 State:Int
 Prod:Int
 ba:(List Int)
 deriving DecidableEq,Inhabited
def rV:bJ k2:=⟨3,λx=>[ae x.State,ae x.Prod,ag ai x.ba],λ_=>rfl,λ_=>dp.bn⟩
instance:Flat rV:=⟨λ_=>rfl⟩
instance:gU rV rV:=⟨rfl,λx=>(inferInstance:dr [ae x.State,ae x.Prod,ag ai x.ba] [ae x.State,ae x.Prod,ag ai x.ba])⟩
instance {x:k2}:dr (rV.cells x) [ae x.State,ae x.Prod,ag ai x.ba]:=(inferInstance:dr [ae x.State,ae x.Prod,ag ai x.ba] [ae x.State,ae x.Prod,ag ai x.ba])
def CY (a0:bO) (aE:(List State)) (a2:(List k2)):Option ((List Cell)) :=
 (b4 (R:=List Cell) (λ(s1:List Cell × Int) =>
 (bif decide (s1.2<(aE.length:Int)) then
 (b4 (R:=List Cell) (λ(cn:List Cell × Int) =>
 (bif decide (cn.2<(a0.ba.length:Int)) then
 ((rr aE s1.2 cn.2).bind λbI =>
 (b4 (R:=Bool) (λ(jz:Bool × Int) =>
 (idx aE s1.2).bind λeg =>
 (bif decide (jz.2<(eg.Kernel.length:Int)) then
 (idx aE s1.2).bind λcd =>
 (idx cd.Kernel jz.2).bind λbU =>
 ((bif jz.1 then some true else (bif decide (cn.2=0) then (bif decide (bU.Prod=0) then some (decide (bU.fe=1)) else some false) else some false))).bind λq7 =>
 some (.inl (q7,aL (jz.2+1)))
 else
 some (.inr jz.1))) (false,0)).bind λeF =>
 (b4 (R:=List Int) (λ(iJ:List Int × Int) =>
 (bif decide (iJ.2<(a2.length:Int)) then
 ((((idx a2 iJ.2).bind λdX=>(bif decide (dX.State=s1.2) then ((idx a2 iJ.2).bind λeb=>((x4 eb.ba cn.2).bind λhI=>some hI)) else some false))).bind λtC =>
 ((bif tC then
 (idx a2 iJ.2).bind λj2 =>
 (pU iJ.1 j2.Prod).bind λeo =>
 some eo
 else
 some iJ.1)).bind λpM =>
 some pM).bind λdZ =>
 some (.inl (dZ,aL (iJ.2+1)))
 else
 some (.inr iJ.1))) (([]:List Int),0)).bind λfB =>
 (Af (⟨s1.2,cn.2,bI,eF,fB⟩:Cell)).bind λp1 =>
 ((bif decide (0<p1) then
 (da cn.1 [(⟨s1.2,cn.2,bI,eF,fB⟩:Cell)]).bind λgl =>
 some (cn.1++[(⟨s1.2,cn.2,bI,eF,fB⟩:Cell)])
 else
 some cn.1)).bind λJr =>
 some Jr).bind λqB =>
 some (.inl (qB,aL (cn.2+1)))
 else
 some (.inr cn.1))) (s1.1,0)).bind λbC =>
 some (.inl (bC,aL (s1.2+1)))
 else
 some (.inr s1.1))) (([]:List Cell),0)).bind λx2 =>
 some x2
def Am (a0:(List (List Int))) (aE:(List (List Int))):Option ((List (List Int))) :=
 (b4 (R:=List (List Int)) (λ(s1:List (List Int) × Bool) =>
 (bif s1.2 then
 (b4 (R:=List (List Int) × Bool) (λ(cn:List (List Int) × Bool × Int) =>
 (bif decide (cn.2.2<(cn.1.length:Int)) then
 (idx aE cn.2.2).bind λcw =>
 (idx cn.1 cn.2.2).bind λbI =>
 (b4 (R:=List (List Int)) (λ(jz:List (List Int) × Int) =>
 (bif decide (jz.2<(cw.length:Int)) then
 (b4 (R:=List (List Int)) (λ(hY:List (List Int) × Int) =>
 (idx cw jz.2).bind λdP =>
 (idx hY.1 dP).bind λeX =>
 (bif decide (hY.2<(eX.length:Int)) then
 (idx hY.1 cn.2.2).bind λeB =>
 (idx cw jz.2).bind λfZ =>
 (idx hY.1 fZ).bind λfB =>
 (idx fB hY.2).bind λgb =>
 (pU eB gb).bind λhS =>
 some (.inl (hY.1.set cn.2.2.toNat hS,aL (hY.2+1)))
 else
 some (.inr hY.1))) (jz.1,0)).bind λcd =>
 some (.inl (cd,aL (jz.2+1)))
 else
 some (.inr jz.1))) (cn.1,0)).bind λeF =>
 ((bif cn.2.1 then some true else ((idx eF cn.2.2).bind λdX=>some (!decide ((dX.length:Int)=(bI.length:Int)))))).bind λwL =>
 some (.inl (eF,wL,aL (cn.2.2+1)))
 else
 some (.inr (cn.1,cn.2.1)))) (s1.1,false,0)).bind λbC =>
 some (.inl (bC.1,bC.2))
 else
 some (.inr s1.1))) (a0,true)).bind λx2 =>
 some x2
structure Trans where
 State:Int
 fF:Int
 deriving DecidableEq,Inhabited
def qh:bJ Trans:=⟨2,λx=>[ae x.State,ae x.fF],λ_=>rfl,λ_=>dp.bn⟩
instance:Flat qh:=⟨λ_=>rfl⟩
instance:l1 qh:=⟨λx=>(inferInstance:jC [ae x.State,ae x.fF])⟩
instance:gU qh qh:=⟨rfl,λx=>(inferInstance:dr [ae x.State,ae x.fF] [ae x.State,ae x.fF])⟩
def qH (a0:(List State)):Option ((List Trans)) :=
 (b4 (R:=List Trans) (λ(s1:List Trans × Int) =>
 (bif decide (s1.2<(a0.length:Int)) then
 (b4 (R:=List Trans) (λ(cn:List Trans × Int) =>
 (idx a0 s1.2).bind λb6 =>
 (bif decide (cn.2<(b6.eV.length:Int)) then
 ((idx a0 s1.2).bind λcq =>
 (idx cq.eV cn.2).bind λeF =>
 ((bif decide (1000<=eF.Sym) then
 (idx a0 s1.2).bind λcQ =>
 (idx cQ.eV cn.2).bind λcd =>
 (da cn.1 [(⟨s1.2,cd.Sym⟩:Trans)]).bind λbU =>
 some (cn.1++[(⟨s1.2,cd.Sym⟩:Trans)])
 else
 some cn.1)).bind λiI =>
 some iI).bind λjQ =>
 some (.inl (jQ,aL (cn.2+1)))
 else
 some (.inr cn.1))) (s1.1,0)).bind λbC =>
 some (.inl (bC,aL (s1.2+1)))
 else
 some (.inr s1.1))) (([]:List Trans),0)).bind λx2 =>
 some x2
def CN (a0:(List Item)):Option (Bool) :=
 (b4 (R:=(Unit) ⊕ (Bool)) (λ(s1:Int) =>
 (bif decide (s1<(a0.length:Int)) then
 (((idx a0 s1).bind λbC=>(bif decide (bC.Prod=0) then ((idx a0 s1).bind λb6=>some (decide (b6.fe=1))) else some false))).bind λoK =>
 (bif oK then
 some (.inr (.inr true))
 else
 some (.inl (aL (s1+1))))
 else
 some (.inr (.inl ())))) 0).bind λx2 =>
 (match x2 with
 | .inl a7 =>
 some false
 | .inr bs =>
 some bs)
def C8 (a0:(List State)):Option ((List (List Int))) :=
 (qH a0).bind λa8 =>
 (b4 (R:=List (List Int)) (λ(s2:List (List Int) × Int) =>
 (bif decide (s2.2<(a8.length:Int)) then
 (idx a8 s2.2).bind λbC =>
 (idx a8 s2.2).bind λbQ =>
 (rr a0 bC.State bQ.fF).bind λb6 =>
 (idx a0 b6).bind λcw =>
 (CN cw.Kernel).bind λbI =>
 ((bif bI then
 (da ([]:List Int) [0]).bind λck =>
 some [0]
 else
 some ([]:List Int))).bind λju =>
 (b4 (R:=List Int) (λ(e1:List Int × Int) =>
 (idx a0 b6).bind λbU =>
 (bif decide (e1.2<(bU.eV.length:Int)) then
 ((idx a0 b6).bind λdM =>
 (idx dM.eV e1.2).bind λeB =>
 ((bif decide (eB.Sym<1000) then
 (idx a0 b6).bind λgb =>
 (idx gb.eV e1.2).bind λhS =>
 (pU e1.1 hS.Sym).bind λgC =>
 some gC
 else
 some e1.1)).bind λmz =>
 some mz).bind λfc =>
 some (.inl (fc,aL (e1.2+1)))
 else
 some (.inr e1.1))) (ju,0)).bind λcQ =>
 (da s2.1 [cQ]).bind λdX =>
 some (.inl (s2.1++[cQ],aL (s2.2+1)))
 else
 some (.inr s2.1))) (([]:List (List Int)),0)).bind λa7 =>
 some a7
def z1 (a0:(List Bool)) (aE:(List Int)):Option (Bool) :=
 (b4 (R:=(Unit) ⊕ (Bool)) (λ(s1:Int) =>
 (bif decide (s1<(aE.length:Int)) then
 (((idx aE s1).bind λbC=>(bif decide (bC<1000) then some true else ((idx aE s1).bind λb6=>((idx a0 (aL (b6 - 1000))).bind λcw=>some (!cw)))))).bind λik =>
 (bif ik then
 some (.inr (.inr false))
 else
 some (.inl (aL (s1+1))))
 else
 some (.inr (.inl ())))) 0).bind λx2 =>
 (match x2 with
 | .inl a7 =>
 some true
 | .inr bs =>
 some bs)
def zY (a0:bO):Option ((List Bool)) :=
 (ni (a0.b3.length:Int) false).bind λa8 =>
 (b4 (R:=List Bool) (λ(s2:List Bool × Bool) =>
 (bif s2.2 then
 (b4 (R:=List Bool × Bool) (λ(db:List Bool × Bool × Int) =>
 (bif decide (db.2.2<(a0.bj.length:Int)) then
 ((idx a0.bj db.2.2).bind λcq =>
 (((idx db.1 cq.Left).bind λeF=>(bif !eF then ((z1 db.1 cq.eI).bind λeg=>some eg) else some false))).bind λtB =>
 ((bif tB then
 (idx db.1 cq.Left).bind λdP =>
 some (db.1.set cq.Left.toNat true,true)
 else
 some (db.1,db.2.1))).bind λmy =>
 some (my.1,my.2)).bind λjQ =>
 some (.inl (jQ.1,jQ.2,aL (db.2.2+1)))
 else
 some (.inr (db.1,db.2.1)))) (s2.1,false,0)).bind λbQ =>
 some (.inl (bQ.1,bQ.2))
 else
 some (.inr s2.1))) (a8,true)).bind λa7 =>
 some a7
def zZ (a0:(List Trans)) (aE:Int) (a2:Int):Option (Int) :=
 (b4 (R:=(Unit) ⊕ (Int)) (λ(s1:Int) =>
 (bif decide (s1<(a0.length:Int)) then
 (((idx a0 s1).bind λbC=>(bif decide (bC.State=aE) then ((idx a0 s1).bind λb6=>some (decide (b6.fF=a2))) else some false))).bind λoK =>
 (bif oK then
 some (.inr (.inr s1))
 else
 some (.inl (aL (s1+1))))
 else
 some (.inr (.inl ())))) 0).bind λx2 =>
 (match x2 with
 | .inl a7 =>
 some (-1)
 | .inr bs =>
 some bs)
def C9 (a0:bO) (aE:(List State)):Option ((List (List Int))) :=
 (qH aE).bind λa8 =>
 (zY a0).bind λx2 =>
 (b4 (R:=List (List Int)) (λ(ea:List (List Int) × Int) =>
 (bif decide (ea.2<(a8.length:Int)) then
 (idx a8 ea.2).bind λbQ =>
 (idx a8 ea.2).bind λb6 =>
 (rr aE bQ.State b6.fF).bind λcw =>
 (b4 (R:=List Int) (λ(gy:List Int × Int) =>
 (idx aE cw).bind λck =>
 (bif decide (gy.2<(ck.eV.length:Int)) then
 ((idx aE cw).bind λcd =>
 (idx cd.eV gy.2).bind λbU =>
 ((bif decide (1000<=bU.Sym) then ((idx x2 (aL (bU.Sym - 1000))).bind λeX=>some eX) else some false)).bind λG9 =>
 ((bif G9 then
 (zZ a8 cw bU.Sym).bind λfB =>
 (pU gy.1 fB).bind λgb =>
 some gb
 else
 some gy.1)).bind λnR =>
 some nR).bind λoq =>
 some (.inl (oq,aL (gy.2+1)))
 else
 some (.inr gy.1))) (([]:List Int),0)).bind λcq =>
 (da ea.1 [cq]).bind λhS =>
 some (.inl (ea.1++[cq],aL (ea.2+1)))
 else
 some (.inr ea.1))) (([]:List (List Int)),0)).bind λbs =>
 some bs
def An (a0:(List State)) (aE:Int) (a2:(List Int)):Option (Int) :=
 (b4 (R:=Int) (λ(s1:Int × Int) =>
 ((bif decide (s1.2<(a2.length:Int)) then some (decide (0<=s1.1)) else some false)).bind λkI =>
 (bif kI then
 (idx a2 s1.2).bind λbQ =>
 (rr a0 s1.1 bQ).bind λb6 =>
 some (.inl (b6,aL (s1.2+1)))
 else
 some (.inr s1.1))) (aE,0)).bind λx2 =>
 some x2
def C_ (a0:bO) (aE:(List State)):Option ((List (List Int))) :=
 (qH aE).bind λa8 =>
 (zY a0).bind λx2 =>
 (ni (a8.length:Int) ([]:List Int)).bind λa7 =>
 (b4 (R:=List (List Int)) (λ(cY:List (List Int) × Int) =>
 (bif decide (cY.2<(a8.length:Int)) then
 (b4 (R:=List (List Int)) (λ(dw:List (List Int) × Int) =>
 (bif decide (dw.2<(a0.bj.length:Int)) then
 ((idx a0.bj dw.2).bind λck =>
 (idx a0.bj dw.2).bind λeg =>
 (idx a8 cY.2).bind λcQ =>
 (bif !decide (aL (1000+eg.Left)=cQ.fF) then
 some dw.1
 else
 (b4 (R:=List (List Int)) (λ(lU:List (List Int) × Int) =>
 (bif decide (lU.2<(ck.eI.length:Int)) then
 ((((idx ck.eI lU.2).bind λfZ=>(bif decide (fZ<1000) then some true else ((nW ck.eI (aL (lU.2+1)) ck.eI.length).bind λgb=>((z1 x2 gb).bind λhS=>some (!hS)))))).bind λHb =>
 (bif Hb then
 some lU.1
 else
 (idx a8 cY.2).bind λcX =>
 (nW ck.eI 0 lU.2).bind λeb =>
 (An aE cX.State eb).bind λhI =>
 ((bif decide (0<=hI) then
 (idx ck.eI lU.2).bind λfa =>
 (zZ a8 hI fa).bind λj2 =>
 ((bif decide (0<=j2) then
 (idx lU.1 j2).bind λj3 =>
 (pU j3 cY.2).bind λc0 =>
 some (lU.1.set j2.toNat c0)
 else
 some lU.1)).bind λJq =>
 some Jq
 else
 some lU.1)).bind λsi =>
 some si)).bind λnR =>
 some (.inl (nR,aL (lU.2+1)))
 else
 some (.inr lU.1))) (dw.1,0)).bind λdP =>
 some dP)).bind λeO =>
 some (.inl (eO,aL (dw.2+1)))
 else
 some (.inr dw.1))) (cY.1,0)).bind λcw =>
 some (.inl (cw,aL (cY.2+1)))
 else
 some (.inr cY.1))) (a7,0)).bind λbT =>
 some bT
def Aj (a0:bO) (aE:(List State)):Option ((List (List Int))) :=
 (C8 aE).bind λa8 =>
 (C9 a0 aE).bind λx2 =>
 (Am a8 x2).bind λa7 =>
 (C_ a0 aE).bind λbs =>
 (Am a7 bs).bind λbT =>
 some bT
def C1 (a0:bO) (aE:(List Item)):Option ((List Int)) :=
 (x6 a0 aE).bind λa8 =>
 (b4 (R:=List Int) (λ(s2:List Int × Int) =>
 (bif decide (s2.2<(a8.length:Int)) then
 ((((idx a8 s2.2).bind λbQ=>(bif decide (0<bQ.Prod) then ((idx a8 s2.2).bind λcw=>((idx a8 s2.2).bind λbI=>((idx a0.bj bI.Prod).bind λcq=>some (decide (cw.fe=(cq.eI.length:Int)))))) else some false))).bind λwJ =>
 ((bif wJ then
 (idx a8 s2.2).bind λcQ =>
 (da s2.1 [cQ.Prod]).bind λcd =>
 some (s2.1++[cQ.Prod])
 else
 some s2.1)).bind λiI =>
 some iI).bind λkR =>
 some (.inl (kR,aL (s2.2+1)))
 else
 some (.inr s2.1))) (([]:List Int),0)).bind λa7 =>
 some a7
def C2 (a0:bO) (aE:(List State)) (a2:Int) (a3:Int):Option ((List Int)) :=
 ((bif decide (a2<0) then some true else (bif decide ((aE.length:Int)<=a2) then some true else (bif decide (a3<1) then some true else some (decide ((a0.bj.length:Int)<=a3)))))).bind λc4 =>
 (bif c4 then
 some ([]:List Int)
 else
 (qH aE).bind λbC =>
 (b4 (R:=List Int) (λ(du:List Int × Int) =>
 (bif decide (du.2<(bC.length:Int)) then
 ((((idx bC du.2).bind λeF=>((idx a0.bj a3).bind λck=>(bif decide (eF.fF=aL (1000+ck.Left)) then ((idx bC du.2).bind λcQ=>((idx a0.bj a3).bind λcd=>((An aE cQ.State cd.eI).bind λbU=>some (decide (bU=a2))))) else some false)))).bind λnz =>
 ((bif nz then
 (da du.1 [du.2]).bind λeB =>
 some (du.1++[du.2])
 else
 some du.1)).bind λfc =>
 some fc).bind λju =>
 some (.inl (ju,aL (du.2+1)))
 else
 some (.inr du.1))) (([]:List Int),0)).bind λb6 =>
 some b6)
def CZ (a0:bO) (aE:(List State)):Option ((List k2)) :=
 (Aj a0 aE).bind λa8 =>
 (b4 (R:=List k2) (λ(s2:List k2 × Int) =>
 (bif decide (s2.2<(aE.length:Int)) then
 (idx aE s2.2).bind λbC =>
 (C1 a0 bC.Kernel).bind λbQ =>
 (b4 (R:=List k2) (λ(dw:List k2 × Int) =>
 (bif decide (dw.2<(bQ.length:Int)) then
 (idx bQ dw.2).bind λeF =>
 (idx bQ dw.2).bind λck =>
 (C2 a0 aE s2.2 ck).bind λeg =>
 (b4 (R:=List Int) (λ(hY:List Int × Int) =>
 (bif decide (hY.2<(eg.length:Int)) then
 (b4 (R:=List Int) (λ(df:List Int × Int) =>
 (idx eg hY.2).bind λfZ =>
 (idx a8 fZ).bind λfB =>
 (bif decide (df.2<(fB.length:Int)) then
 (idx eg hY.2).bind λhS =>
 (idx a8 hS).bind λgC =>
 (idx gC df.2).bind λdX =>
 (pU df.1 dX).bind λcX =>
 some (.inl (cX,aL (df.2+1)))
 else
 some (.inr df.1))) (hY.1,0)).bind λdM =>
 some (.inl (dM,aL (hY.2+1)))
 else
 some (.inr hY.1))) (([]:List Int),0)).bind λcd =>
 (da dw.1 [(⟨s2.2,eF,cd⟩:k2)]).bind λeb =>
 some (.inl (dw.1++[(⟨s2.2,eF,cd⟩:k2)],aL (dw.2+1)))
 else
 some (.inr dw.1))) (s2.1,0)).bind λcw =>
 some (.inl (cw,aL (s2.2+1)))
 else
 some (.inr s2.1))) (([]:List k2),0)).bind λa7 =>
 some a7
def vT (a0:Source):Option (bO × (List State) × (List Cell) × Bool) :=
 (x0 a0).bind λa8 =>
 (bif !a8.2.2 then
 some (a8.1,([]:List State),([]:List Cell),false)
 else
 (CZ a8.1 a8.2.1).bind λa7 =>
 (CY a8.1 a8.2.1 a7).bind λbs =>
 some (a8.1,a8.2.1,bs,true))
def C' (a0:bO) (aE:Int):Option (Int × Int) :=
 ((bif decide (aE<0) then some true else (bif decide ((a0.bj.length:Int)<=aE) then some true else ((idx a0.bj aE).bind λa7=>some (decide (a7.Prec<0)))))).bind λc4 =>
 (bif c4 then
 some (0,0)
 else
 (idx a0.bj aE).bind λbC =>
 (idx a0.ba bC.Prec).bind λbQ =>
 some (bQ.Level,bQ.fv))
def C3 (a0:bO) (aE:Int) (a2:Int):Option (Int) :=
 (C' a0 aE).bind λa8 =>
 ((bif decide (a8.1=0) then some true else (bif decide (a2<0) then some true else (bif decide ((a0.ba.length:Int)<=a2) then some true else ((idx a0.ba a2).bind λbT=>some (decide (bT.Level=0))))))).bind λoJ =>
 (bif oJ then
 some 0
 else
 (idx a0.ba a2).bind λb6 =>
 (bif decide (a8.1<b6.Level) then
 some 1
 else
 (bif decide (b6.Level<a8.1) then
 some 2
 else
 (bif decide (b6.fv=1) then
 some 2
 else
 (bif decide (b6.fv=2) then
 some 1
 else
 some 3)))))
structure fj where
 State:Int
 bX:Int
 hC:Int
 Drop:Int
 deriving DecidableEq,Inhabited
structure Act where
 Kind:Int
 N:Int
 deriving DecidableEq,Inhabited
def e3:bJ fj:=⟨4,λx=>[ae x.State,ae x.bX,ae x.hC,ae x.Drop],λ_=>rfl,λ_=>dp.bn⟩
instance:Flat e3:=⟨λ_=>rfl⟩
instance:l1 e3:=⟨λx=>(inferInstance:jC [ae x.State,ae x.bX,ae x.hC,ae x.Drop])⟩
instance:gU e3 e3:=⟨rfl,λx=>(inferInstance:dr [ae x.State,ae x.bX,ae x.hC,ae x.Drop] [ae x.State,ae x.bX,ae x.hC,ae x.Drop])⟩
instance {x:fj}:dr (e3.cells x) [ae x.State,ae x.bX,ae x.hC,ae x.Drop]:=(inferInstance:dr [ae x.State,ae x.bX,ae x.hC,ae x.Drop] [ae x.State,ae x.bX,ae x.hC,ae x.Drop])
def x1 (a0:bO) (aE:Cell):Option (Act × (List fj)) :=
 (b4 (R:=List fj) (λ(s1:List fj × Int) =>
 (bif decide (s1.2<(aE.bj.length:Int)) then
 (idx aE.bj 0).bind λbT =>
 (idx aE.bj s1.2).bind λbC =>
 (da s1.1 [(⟨aE.State,aE.bX,bT,bC⟩:fj)]).bind λbQ =>
 some (.inl (s1.1++[(⟨aE.State,aE.bX,bT,bC⟩:fj)],aL (s1.2+1)))
 else
 some (.inr s1.1))) (([]:List fj),1)).bind λx2 =>
 ((bif aE.lY then
 some (3,0)
 else
 some (1,aE.j6))).bind λff =>
 (bif decide ((aE.bj.length:Int)=0) then
 some ((⟨ff.1,ff.2⟩:Act),x2)
 else
 (idx aE.bj 0).bind λcq =>
 ((bif decide (aE.j6<0) then some (!aE.lY) else some false)).bind λjT =>
 (bif jT then
 some ((⟨2,cq⟩:Act),x2)
 else
 (C3 a0 cq aE.bX).bind λcQ =>
 ((bif aE.lY then some true else some (decide (cQ=0)))).bind λwK =>
 (bif wK then
 (da x2 [(⟨aE.State,aE.bX,(-1),cq⟩:fj)]).bind λeX =>
 some ((⟨ff.1,ff.2⟩:Act),x2++[(⟨aE.State,aE.bX,(-1),cq⟩:fj)])
 else
 (bif decide (cQ=2) then
 some ((⟨2,cq⟩:Act),x2)
 else
 (bif decide (cQ=3) then
 some ((⟨4,0⟩:Act),x2)
 else
 some ((⟨ff.1,ff.2⟩:Act),x2))))))
structure gS where
 cO:(List (List Act))
 d':(List (List Int))
 deriving DecidableEq,Inhabited
def eh:bJ Act:=⟨2,λx=>[ae x.Kind,ae x.N],λ_=>rfl,λ_=>dp.bn⟩
instance:Flat eh:=⟨λ_=>rfl⟩
instance:l1 eh:=⟨λx=>(inferInstance:jC [ae x.Kind,ae x.N])⟩
instance:gU eh eh:=⟨rfl,λx=>(inferInstance:dr [ae x.Kind,ae x.N] [ae x.Kind,ae x.N])⟩
def Ab (a0:bO) (aE:(List State)) (a2:(List Cell)):Option (gS × (List fj)) :=
 (b4 (R:=List (List Act) × List (List Int) × List fj) (λ(s1:List (List Act) × List (List Int) × List fj × Int) =>
 (bif decide (s1.2.2.2<(aE.length:Int)) then
 (ni (a0.ba.length:Int) (⟨0,0⟩:Act)).bind λbT =>
 (b4 (R:=List fj × List Act) (λ(db:List fj × List Act × Int) =>
 (bif decide (db.2.2<(a2.length:Int)) then
 ((idx a2 db.2.2).bind λcq =>
 ((bif decide (cq.State=s1.2.2.2) then
 (idx a2 db.2.2).bind λeg =>
 (x1 a0 eg).bind λcQ =>
 (idx a2 db.2.2).bind λcd =>
 (idx db.2.1 cd.bX).bind λbU =>
 (da db.1 cQ.2).bind λdP =>
 some (db.1++cQ.2,db.2.1.set cd.bX.toNat cQ.1)
 else
 some (db.1,db.2.1))).bind λeO =>
 some (eO.1,eO.2)).bind λjQ =>
 some (.inl (jQ.1,jQ.2,aL (db.2.2+1)))
 else
 some (.inr (db.1,db.2.1)))) (s1.2.2.1,bT,0)).bind λbQ =>
 (ni (a0.b3.length:Int) 0).bind λeX =>
 (b4 (R:=List Int) (λ(qK:List Int × Int) =>
 (bif decide (qK.2<(qK.1.length:Int)) then
 (rr aE s1.2.2.2 (aL (1000+qK.2))).bind λgb =>
 (idx qK.1 qK.2).bind λhS =>
 some (.inl (qK.1.set qK.2.toNat gb,aL (qK.2+1)))
 else
 some (.inr qK.1))) (eX,0)).bind λeB =>
 (da s1.1 [bQ.2]).bind λgC =>
 (da s1.2.1 [eB]).bind λdX =>
 some (.inl (s1.1++[bQ.2],s1.2.1++[eB],bQ.1,aL (s1.2.2.2+1)))
 else
 some (.inr (s1.1,s1.2.1,s1.2.2.1)))) (([]:List (List Act)),([]:List (List Int)),([]:List fj),0)).bind λx2 =>
 some ((⟨x2.1,x2.2.1⟩:gS),x2.2.2)
def CT (a0:(List Cell)):Option (Int) :=
 (b4 (R:=Int) (λ(s1:Int × Int) =>
 (bif decide (s1.2<(a0.length:Int)) then
 ((idx a0 s1.2).bind λbC =>
 (Af bC).bind λbQ =>
 ((bif decide (1<bQ) then
 some (aL (s1.1+1))
 else
 some s1.1)).bind λff =>
 some ff).bind λkQ =>
 some (.inl (kQ,aL (s1.2+1)))
 else
 some (.inr s1.1))) (0,0)).bind λx2 =>
 some x2
def s7 (a0:Source):Option (bO × gS × Int × Bool) :=
 (vT a0).bind λa8 =>
 (bif !a8.2.2.2 then
 some (a8.1,(⟨([]:List (List Act)),([]:List (List Int))⟩:gS),0,false)
 else
 (Ab a8.1 a8.2.1 a8.2.2.1).bind λa7 =>
 (CT a8.2.2.1).bind λbs =>
 some (a8.1,a7.1,bs,true))
structure ca where
 At:Int
 b9:Int
 deriving DecidableEq,Inhabited
def bP:bJ ca:=⟨2,λx=>[ae x.At,ae x.b9],λ_=>rfl,λ_=>dp.bn⟩
instance:Flat bP:=⟨λ_=>rfl⟩
instance:l1 bP:=⟨λx=>(inferInstance:jC [ae x.At,ae x.b9])⟩
instance:gU bP bP:=⟨rfl,λx=>(inferInstance:dr [ae x.At,ae x.b9] [ae x.At,ae x.b9])⟩
def Ak (a0:(List (List ca))):Option (Bool) :=
 (bif decide (400<(a0.length:Int)) then
 some false
 else
 (b4 (R:=(Unit) ⊕ (Bool)) (λ(s2:Int) =>
 (bif decide (s2<(a0.length:Int)) then
 (idx a0 s2).bind λbQ =>
 (b4 (R:=(Unit) ⊕ (Bool)) (λ(dw:List Bool × Int) =>
 (bif decide (dw.2<(bQ.length:Int)) then
 (idx bQ dw.2).bind λck =>
 ((bif decide (ck.At<0) then some true else (bif decide (1000<=ck.At) then some true else ((xq 1000 dw.1 ck.At).bind λcd=>some cd)))).bind λwK =>
 (bif wK then
 some (.inr (.inr false))
 else
 (xq 1000 dw.1 ck.At).bind λeX =>
 some (.inl (dw.1.set ck.At.toNat true,aL (dw.2+1))))
 else
 some (.inr (.inl ())))) ((List.replicate 1000 false),0)).bind λcw =>
 (match cw with
 | .inl bI =>
 some (.inl (aL (s2+1)))
 | .inr cq =>
 some (.inr (.inr cq)))
 else
 some (.inr (.inl ())))) 0).bind λa7 =>
 (match a7 with
 | .inl bs =>
 some true
 | .inr bT =>
 some bT))
def vX (a0:Int):Option (Bool) :=
 some (!decide (a0=a0))
def uA (a0:Int) (aE:Int):Option (Int) :=
 (vX a0).bind λa8 =>
 (vX aE).bind λx2 =>
 (bif a8 then
 (bif x2 then
 some 0
 else
 some (-1))
 else
 (bif x2 then
 some 1
 else
 (bif decide (a0<aE) then
 some (-1)
 else
 (bif decide (aE<a0) then
 some 1
 else
 some 0))))
def C4 (a0:(List Int)):Option (Int) :=
 (b4 (R:=(Unit) ⊕ (Int)) (λ(s1:Int) =>
 (bif decide (s1<(a0.length:Int)) then
 (idx a0 s1).bind λbC =>
 (bif !decide (bC=0) then
 some (.inr (.inr bC))
 else
 some (.inl (aL (s1+1))))
 else
 some (.inr (.inl ())))) 0).bind λx2 =>
 (match x2 with
 | .inl a7 =>
 some 0
 | .inr bs =>
 some bs)
def vW (a0:Int) (aE:Int) (pg:(List (List ca))):Option (Int) :=
 (idx pg aE).bind λa8 =>
 (idx pg a0).bind λx2 =>
 (uA (a8.length:Int) (x2.length:Int)).bind λa7 =>
 (uA a0 aE).bind λbs =>
 (C4 [a7,bs]).bind λbT =>
 some bT
def Db (a0:ca) (pg:Int) (c1:(List Int)):Option (Bool) :=
 ((bif decide (aL (pg+a0.At)<(c1.length:Int)) then ((idx c1 (aL (pg+a0.At))).bind λx2=>some (!decide (x2=0))) else some false)).bind λjU =>
 some jU
def Fy (a0:(List ca)) (q4:Int) (q5:(List Int)):Option (Int) :=
 (b4 (R:=(Unit) ⊕ (Int)) (λ(s1:Int) =>
 (bif decide (s1<(a0.length:Int)) then
 (idx a0 s1).bind λbC =>
 (Db bC q4 q5).bind λbQ =>
 (bif bQ then
 some (.inr (.inr s1))
 else
 some (.inl (aL (s1+1))))
 else
 some (.inr (.inl ())))) 0).bind λx2 =>
 (match x2 with
 | .inl a7 =>
 some (-1)
 | .inr bs =>
 some bs)
def FA (a0:(List ca)) (q4:Int) (q5:(List Int)):Option (Bool) :=
 (Fy a0 q4 q5).bind λa8 =>
 some (decide (0<=a8))
def x5 (a0:(List Int)) (aE:(List ca)) (a2:Int):Option (Bool) :=
 (FA aE a2 a0).bind λa8 =>
 some (!a8)
structure fC where
 cS:(List Int)
 b9:(List Int)
 b5:(List Int)
 deriving DecidableEq,Inhabited
def lE:bJ fC:=⟨3,λx=>[ag ai x.cS,ag ai x.b9,ag ai x.b5],λ_=>rfl,λ_=>dp.bn⟩
instance:Flat lE:=⟨λ_=>rfl⟩
instance:gU lE lE:=⟨rfl,λx=>(inferInstance:dr [ag ai x.cS,ag ai x.b9,ag ai x.b5] [ag ai x.cS,ag ai x.b9,ag ai x.b5])⟩
instance {x:fC}:dr (lE.cells x) [ag ai x.cS,ag ai x.b9,ag ai x.b5]:=(inferInstance:dr [ag ai x.cS,ag ai x.b9,ag ai x.b5] [ag ai x.cS,ag ai x.b9,ag ai x.b5])
def rU:bJ fC:=⟨3,λx=>[aj ai x.cS,aj ai x.b9,aj ai x.b5],λ_=>rfl,λ_=>dp.bn⟩
instance:l1 rU:=⟨λx=>(inferInstance:jC [aj ai x.cS,aj ai x.b9,aj ai x.b5])⟩
instance {x:fC}:dr (rU.cells x) [ag ai x.cS,ag ai x.b9,ag ai x.b5]:=(inferInstance:dr [aj ai x.cS,aj ai x.b9,aj ai x.b5] [ag ai x.cS,ag ai x.b9,ag ai x.b5])
def Ag (a0:(List (List ca))):Option (fC) :=
 (Ak a0).bind λa8 =>
 (bif !a8 then
 some (⟨([]:List Int),([]:List Int),([]:List Int)⟩:fC)
 else
 (ni (a0.length:Int) 0).bind λa7 =>
 (b4 (R:=List Int) (λ(cY:List Int × Int) =>
 (bif decide (cY.2<(a0.length:Int)) then
 ((idx a0 cY.2).bind λcw =>
 ((bif decide (0<(cw.length:Int)) then
 (da cY.1 [cY.2]).bind λeF =>
 some (cY.1++[cY.2])
 else
 some cY.1)).bind λjQ =>
 some jQ).bind λff =>
 some (.inl (ff,aL (cY.2+1)))
 else
 some (.inr cY.1))) (([]:List Int),0)).bind λbT =>
 (pX (λa b=>vW a b a0) bT).bind λck =>
 (b4 (R:=fC) (λ(e1:fC × Int) =>
 (bif decide (e1.2<(ck.length:Int)) then
 (idx ck e1.2).bind λdP =>
 (b4 (R:=List Int) (λ(df:List Int) =>
 (idx a0 dP).bind λfZ =>
 (idx df dP).bind λfB =>
 (x5 e1.1.b5 fZ fB).bind λgb =>
 (bif !gb then
 (idx df dP).bind λgC =>
 some (.inl (df.set dP.toNat (aL (gC+1))))
 else
 some (.inr df))) e1.1.cS).bind λdM =>
 (idx a0 dP).bind λdX =>
 (b4 (R:=List Int × List Int) (λ(kz:List Int × List Int × Int) =>
 (bif decide (kz.2.2<(dX.length:Int)) then
 (idx dX kz.2.2).bind λcR =>
 (idx dM dP).bind λfa =>
 (b4 (R:=List Int × List Int) (λ(d_:List Int × List Int) =>
 (bif decide ((d_.2.length:Int)<=aL (fa+cR.At)) then
 (da d_.2 [0]).bind λc0 =>
 (da d_.1 [0]).bind λgl =>
 some (.inl (d_.1++[0],d_.2++[0]))
 else
 some (.inr (d_.1,d_.2)))) (kz.1,kz.2.1)).bind λeo =>
 (idx eo.2 (aL (fa+cR.At))).bind λrJ =>
 (idx eo.1 (aL (fa+cR.At))).bind λjB =>
 some (.inl (eo.1.set (aL (fa+cR.At)).toNat cR.b9,eo.2.set (aL (fa+cR.At)).toNat (aL (dP+1)),aL (kz.2.2+1)))
 else
 some (.inr (kz.1,kz.2.1)))) (e1.1.b9,e1.1.b5,0)).bind λeb =>
 some (.inl ((⟨dM,eb.1,eb.2⟩:fC),aL (e1.2+1)))
 else
 some (.inr e1.1))) ((⟨a7,([]:List Int),([]:List Int)⟩:fC),0)).bind λcQ =>
 some cQ)
structure Row where
 Def:Int
 fx:(List ca)
 deriving DecidableEq,Inhabited
def jJ:bJ Row:=⟨2,λx=>[ae x.Def,ag bP x.fx],λ_=>rfl,λ_=>dp.bn⟩
instance:Flat jJ:=⟨λ_=>rfl⟩
instance:gU jJ jJ:=⟨rfl,λx=>(inferInstance:dr [ae x.Def,ag bP x.fx] [ae x.Def,ag bP x.fx])⟩
def xY (a0:(List Row)):Option ((List Int) × fC) :=
 (b4 (R:=List Int × List (List ca)) (λ(s1:List Int × List (List ca) × Int) =>
 (bif decide (s1.2.2<(a0.length:Int)) then
 (idx a0 s1.2.2).bind λbT =>
 (da s1.1 [bT.Def]).bind λbC =>
 (da s1.2.1 [bT.fx]).bind λbQ =>
 some (.inl (s1.1++[bT.Def],s1.2.1++[bT.fx],aL (s1.2.2+1)))
 else
 some (.inr (s1.1,s1.2.1)))) (([]:List Int),([]:List (List ca)),0)).bind λx2 =>
 (Ag x2.2).bind λb6 =>
 some (x2.1,b6)
def vV (a0:(List Int)):Option (Int) :=
 (b4 (R:=Int) (λ(s1:(List (Int × Int)) × Int × Int) =>
 (bif decide (s1.2.2<(a0.length:Int)) then
 ((idx a0 s1.2.2).bind λbC =>
 (sl sj 0 s1.1 bC).bind λbQ =>
 (zN sj s1.1 bC (aL (bQ+1))).bind λb6 =>
 (sl sj 0 b6 bC).bind λcw =>
 (sl sj 0 b6 s1.2.1).bind λbI =>
 ((bif decide (s1.2.1<0) then some true else (bif decide (0<aL (cw - bI)) then some true else (bif decide (aL (cw - bI)=0) then some (decide (bC<s1.2.1)) else some false)))).bind λoH =>
 ((bif oH then
 some bC
 else
 some s1.2.1)).bind λoq =>
 some (b6,oq)).bind λkQ =>
 some (.inl (kQ.1,kQ.2,aL (s1.2.2+1)))
 else
 some (.inr s1.2.1))) (([]:List (Int × Int)),(-1),0)).bind λx2 =>
 some x2
def Ah (a0:Act):Option (Int) :=
 ((bif decide (a0.Kind=1) then (bif decide (0<=a0.N) then some (decide (a0.N<20000)) else some false) else some false)).bind λjU =>
 (bif jU then
 some (aL (a0.N+1))
 else
 ((bif decide (a0.Kind=2) then (bif decide (0<a0.N) then some (decide (a0.N<20000)) else some false) else some false)).bind λkJ =>
 (bif kJ then
 some (aL (-a0.N))
 else
 ((bif decide (a0.Kind=3) then some (decide (a0.N=0)) else some false)).bind λik =>
 (bif ik then
 some 20001
 else
 ((bif decide (a0.Kind=4) then some (decide (a0.N=0)) else some false)).bind λjT =>
 (bif jT then
 some 20002
 else
 some 0))))
def CU (a0:gS):Option ((List Row)) :=
 (b4 (R:=List Row) (λ(s1:List Row × Int) =>
 (bif decide (s1.2<(a0.cO.length:Int)) then
 (idx a0.cO s1.2).bind λbT =>
 (b4 (R:=List Int) (λ(db:List Int × Int) =>
 (bif decide (db.2<(bT.length:Int)) then
 ((idx bT db.2).bind λcq =>
 ((bif decide (cq.Kind=2) then
 (da db.1 [cq.N]).bind λeg =>
 some (db.1++[cq.N])
 else
 some db.1)).bind λeO =>
 some eO).bind λjQ =>
 some (.inl (jQ,aL (db.2+1)))
 else
 some (.inr db.1))) (([]:List Int),0)).bind λbQ =>
 (vV bQ).bind λcQ =>
 (b4 (R:=List ca) (λ(nn:List ca × Int) =>
 (bif decide (nn.2<(bT.length:Int)) then
 ((idx bT nn.2).bind λeB =>
 ((bif !decide (eB.Kind=0) then (bif !decide (eB.Kind=2) then some true else some (!decide (eB.N=cQ))) else some false)).bind λoI =>
 ((bif oI then
 (Ah eB).bind λdX =>
 (da nn.1 [(⟨nn.2,dX⟩:ca)]).bind λcX =>
 some (nn.1++[(⟨nn.2,dX⟩:ca)])
 else
 some nn.1)).bind λsh =>
 some sh).bind λxw =>
 some (.inl (xw,aL (nn.2+1)))
 else
 some (.inr nn.1))) (([]:List ca),0)).bind λbU =>
 (da s1.1 [(⟨cQ,bU⟩:Row)]).bind λeb =>
 some (.inl (s1.1++[(⟨cQ,bU⟩:Row)],aL (s1.2+1)))
 else
 some (.inr s1.1))) (([]:List Row),0)).bind λx2 =>
 some x2
def CV (a0:gS):Option ((List Row)) :=
 (bif decide ((a0.d'.length:Int)=0) then
 some ([]:List Row)
 else
 (idx a0.d' 0).bind λx2 =>
 (b4 (R:=List Row) (λ(ea:List Row × Int) =>
 (bif decide (ea.2<(x2.length:Int)) then
 (b4 (R:=List Int) (λ(du:List Int × Int) =>
 (bif decide (du.2<(a0.d'.length:Int)) then
 ((idx a0.d' du.2).bind λeF =>
 (idx eF ea.2).bind λck =>
 ((bif decide (0<=ck) then
 (idx eF ea.2).bind λcd =>
 (da du.1 [cd]).bind λbU =>
 some (du.1++[cd])
 else
 some du.1)).bind λde =>
 some de).bind λju =>
 some (.inl (ju,aL (du.2+1)))
 else
 some (.inr du.1))) (([]:List Int),0)).bind λb6 =>
 (vV b6).bind λdP =>
 (b4 (R:=List ca) (λ(df:List ca × Int) =>
 (bif decide (df.2<(a0.d'.length:Int)) then
 ((idx a0.d' df.2).bind λgb =>
 (((idx gb ea.2).bind λhS=>(bif decide (0<=hS) then ((idx gb ea.2).bind λdX=>some (!decide (dX=dP))) else some false))).bind λwL =>
 ((bif wL then
 (idx gb ea.2).bind λkY =>
 (da df.1 [(⟨df.2,kY⟩:ca)]).bind λcR =>
 some (df.1++[(⟨df.2,kY⟩:ca)])
 else
 some df.1)).bind λuo =>
 some uo).bind λJp =>
 some (.inl (Jp,aL (df.2+1)))
 else
 some (.inr df.1))) (([]:List ca),0)).bind λdM =>
 (da ea.1 [(⟨dP,dM⟩:Row)]).bind λfa =>
 some (.inl (ea.1++[(⟨dP,dM⟩:Row)],aL (ea.2+1)))
 else
 some (.inr ea.1))) (([]:List Row),0)).bind λbs =>
 some bs)
def C0 (a0:ca) (aE:ca):Option (Int) :=
 (uA a0.At aE.At).bind λa8 =>
 some a8
def Ac (a0:bO):Option ((List ca)) :=
 (b4 (R:=List ca) (λ(s1:List ca × Int) =>
 (bif decide (s1.2<(a0.ba.length:Int)) then
 ((idx a0.ba s1.2).bind λbC =>
 ((bif decide (0<bC.bR) then
 (da s1.1 [(⟨bC.bR,s1.2⟩:ca)]).bind λcw =>
 some (s1.1++[(⟨bC.bR,s1.2⟩:ca)])
 else
 some s1.1)).bind λkS =>
 some kS).bind λkQ =>
 some (.inl (kQ,aL (s1.2+1)))
 else
 some (.inr s1.1))) (([]:List ca),0)).bind λx2 =>
 (pX (λa b=>C0 a b) x2).bind λbI =>
 some bI
structure Tables where
 Def:(List Int)
 cO:fC
 kn:(List Int)
 gD:fC
 Left:(List Int)
 mJ:(List Int)
 nu:(List ca)
 deriving DecidableEq,Inhabited
def oM:bJ Tables:=⟨11,λx=>[ag ai x.Def,ag ai x.cO.cS,ag ai x.cO.b9,ag ai x.cO.b5,ag ai x.kn,ag ai x.gD.cS,ag ai x.gD.b9,ag ai x.gD.b5,ag ai x.Left,ag ai x.mJ,ag bP x.nu],λ_=>rfl,λ_=>dp.bn⟩
instance:Flat oM:=⟨λ_=>rfl⟩
instance:gU oM oM:=⟨rfl,λx=>(inferInstance:dr [ag ai x.Def,ag ai x.cO.cS,ag ai x.cO.b9,ag ai x.cO.b5,ag ai x.kn,ag ai x.gD.cS,ag ai x.gD.b9,ag ai x.gD.b5,ag ai x.Left,ag ai x.mJ,ag bP x.nu] [ag ai x.Def,ag ai x.cO.cS,ag ai x.cO.b9,ag ai x.cO.b5,ag ai x.kn,ag ai x.gD.cS,ag ai x.gD.b9,ag ai x.gD.b5,ag ai x.Left,ag ai x.mJ,ag bP x.nu])⟩
instance {x:Tables}:dr (oM.cells x) [ag ai x.Def,ag ai x.cO.cS,ag ai x.cO.b9,ag ai x.cO.b5,ag ai x.kn,ag ai x.gD.cS,ag ai x.gD.b9,ag ai x.gD.b5,ag ai x.Left,ag ai x.mJ,ag bP x.nu]:=(inferInstance:dr [ag ai x.Def,ag ai x.cO.cS,ag ai x.cO.b9,ag ai x.cO.b5,ag ai x.kn,ag ai x.gD.cS,ag ai x.gD.b9,ag ai x.gD.b5,ag ai x.Left,ag ai x.mJ,ag bP x.nu] [ag ai x.Def,ag ai x.cO.cS,ag ai x.cO.b9,ag ai x.cO.b5,ag ai x.kn,ag ai x.gD.cS,ag ai x.gD.b9,ag ai x.gD.b5,ag ai x.Left,ag ai x.mJ,ag bP x.nu])
def vM (a0:bO) (aE:gS):Option (Tables) :=
 (CU aE).bind λa8 =>
 (xY a8).bind λx2 =>
 (CV aE).bind λa7 =>
 (xY a7).bind λbs =>
 (b4 (R:=List Int × List Int) (λ(cn:List Int × List Int × Int) =>
 (bif decide (cn.2.2<(a0.bj.length:Int)) then
 (idx a0.bj cn.2.2).bind λcw =>
 (da cn.1 [cw.Left]).bind λbI =>
 (da cn.2.1 [(cw.eI.length:Int)]).bind λcq =>
 some (.inl (cn.1++[cw.Left],cn.2.1++[(cw.eI.length:Int)],aL (cn.2.2+1)))
 else
 some (.inr (cn.1,cn.2.1)))) (([]:List Int),([]:List Int),0)).bind λbC =>
 (Ac a0).bind λeF =>
 some (⟨x2.1,x2.2,bs.1,bs.2,bC.1,bC.2,eF⟩:Tables)
def rq (a0:fC) (aE:Int) (a2:Int):Option (Int × Bool) :=
 ((bif decide (aE<0) then some true else (bif decide ((a0.cS.length:Int)<=aE) then some true else (bif decide (a2<0) then some true else some (decide ((a0.b5.length:Int)<=a2)))))).bind λc4 =>
 (bif c4 then
 some (0,false)
 else
 (idx a0.cS aE).bind λbC =>
 ((bif decide ((a0.b5.length:Int)<=aL (bC+a2)) then some true else ((idx a0.b5 (aL (bC+a2))).bind λb6=>some (!decide (b6=aL (aE+1)))))).bind λoK =>
 (bif oK then
 some (0,false)
 else
 (idx a0.b9 (aL (bC+a2))).bind λcq =>
 some (cq,true)))
def Ad (a0:Int):Option (Act) :=
 ((bif decide (0<a0) then some (decide (a0<=20000)) else some false)).bind λc2 =>
 (bif c2 then
 some (⟨1,aL (a0 - 1)⟩:Act)
 else
 ((bif decide (a0<0) then some (decide ((-20000)<a0)) else some false)).bind λkI =>
 (bif kI then
 some (⟨2,aL (-a0)⟩:Act)
 else
 (bif decide (a0=20001) then
 some (⟨3,0⟩:Act)
 else
 (bif decide (a0=20002) then
 some (⟨4,0⟩:Act)
 else
 some (⟨0,0⟩:Act)))))
def pT (a0:Tables) (aE:Int) (a2:Int):Option (Act) :=
 (rq a0.cO aE a2).bind λa8 =>
 (bif a8.2 then
 (Ad a8.1).bind λa7 =>
 some a7
 else
 ((bif decide (aE<0) then some true else (bif decide ((a0.Def.length:Int)<=aE) then some true else ((idx a0.Def aE).bind λbC=>some (decide (bC<0)))))).bind λkJ =>
 (bif kJ then
 some (⟨0,0⟩:Act)
 else
 (idx a0.Def aE).bind λcw =>
 some (⟨2,cw⟩:Act)))
def uy (a0:Tables) (aE:Int) (a2:Int):Option (Int) :=
 (rq a0.gD a2 aE).bind λa8 =>
 (bif a8.2 then
 some a8.1
 else
 ((bif decide (a2<0) then some true else some (decide ((a0.kn.length:Int)<=a2)))).bind λc4 =>
 (bif c4 then
 some (-1)
 else
 (idx a0.kn a2).bind λbC =>
 some bC))
def oY (a0:(List Int)) (aE:(List Int)):Option (Bool) :=
 (bif !decide ((a0.length:Int)=(aE.length:Int)) then
 some false
 else
 (b4 (R:=(Unit) ⊕ (Bool)) (λ(s2:Int) =>
 (bif decide (s2<(a0.length:Int)) then
 (idx a0 s2).bind λbQ =>
 (idx aE s2).bind λb6 =>
 (bif !decide (bQ=b6) then
 some (.inr (.inr false))
 else
 some (.inl (aL (s2+1))))
 else
 some (.inr (.inl ())))) 0).bind λa7 =>
 (match a7 with
 | .inl bs =>
 some true
 | .inr bT =>
 some bT))
def Al :Option (Bool) :=
 (s7 (⟨⟨#[]⟩,([]:List Decl),[(⟨⟨#[101]⟩,[(⟨[(⟨(⟨⟨#[101]⟩,false,0,0⟩:Sym),⟨#[]⟩,0⟩:Part),(⟨(⟨⟨#[43]⟩,true,0,0⟩:Sym),⟨#[]⟩,0⟩:Part),(⟨(⟨⟨#[120]⟩,true,0,0⟩:Sym),⟨#[]⟩,0⟩:Part)],(⟨⟨#[]⟩,false,0,0⟩:Sym),0⟩:Alt),(⟨[(⟨(⟨⟨#[120]⟩,true,0,0⟩:Sym),⟨#[]⟩,0⟩:Part)],(⟨⟨#[]⟩,false,0,0⟩:Sym),0⟩:Alt)],0⟩:fk)],⟨#[]⟩⟩:Source)).bind λa8 =>
 (vM a8.1 a8.2.1).bind λx2 =>
 ((bif a8.2.2.2 then ((oY x2.Def [(-1),2,(-1),(-1),1]).bind λbs=>(bif bs then ((oY x2.kn [(-1),2]).bind λbC=>(bif bC then ((oY x2.Left [0,1,1]).bind λb6=>(bif b6 then ((oY x2.mJ [1,3,1]).bind λbI=>(bif bI then (bif decide ((x2.nu.length:Int)=2) then ((pT x2 1 4).bind λck=>(bif (decide (ck.Kind=2)&&(decide (ck.N=2)&&true)) then ((pT x2 0 4).bind λcQ=>(bif (decide (cQ.Kind=1)&&(decide (cQ.N=1)&&true)) then ((pT x2 0 3).bind λbU=>(bif (decide (bU.Kind=0)&&(decide (bU.N=0)&&true)) then ((pT x2 9 0).bind λeX=>(bif (decide (eX.Kind=0)&&(decide (eX.N=0)&&true)) then ((uy x2 0 1).bind λeB=>(bif decide (eB=2) then ((uy x2 0 7).bind λfB=>some (decide (fB=(-1)))) else some false)) else some false)) else some false)) else some false)) else some false)) else some false) else some false)) else some false)) else some false)) else some false)) else some false)).bind λoI =>
 some oI
def s9 (a0:ByteArray) (aE:Int):Option (ByteArray) :=
 (bif decide (aE<(a0.size:Int)) then
 (q8 a0 0 aE).bind λx2 =>
 some x2
 else
 some a0)
def xX (a0:Sym):Option (Sym) :=
 (s9 a0.Name 25).bind λa8 =>
 some (⟨a8,a0.Lit,a0.bR,a0.At⟩:Sym)
def Da (a0:Source):Option (Source) :=
 (s9 a0.cC 40).bind λa8 =>
 (s9 a0.cK 40).bind λx2 =>
 (b4 (R:=List Decl) (λ(ea:List Decl × Int) =>
 ((bif decide (ea.2<(a0.Decls.length:Int)) then some (decide (ea.2<8)) else some false)).bind λkJ =>
 (bif kJ then
 (idx a0.Decls ea.2).bind λcw =>
 (idx a0.Decls ea.2).bind λbI =>
 (s9 bI.Tag 25).bind λcq =>
 (idx a0.Decls ea.2).bind λeF =>
 (b4 (R:=List Sym) (λ(e_:List Sym × Int) =>
 (((idx a0.Decls ea.2).bind λcd=>(bif decide (e_.2<(cd.eM.length:Int)) then some (decide (e_.2<6)) else some false))).bind λnz =>
 (bif nz then
 (idx a0.Decls ea.2).bind λdM =>
 (idx dM.eM e_.2).bind λeB =>
 (xX eB).bind λfZ =>
 (da e_.1 [fZ]).bind λfB =>
 some (.inl (e_.1++[fZ],aL (e_.2+1)))
 else
 some (.inr e_.1))) (([]:List Sym),0)).bind λeg =>
 (da ea.1 [(⟨cw.Kind,cq,eg,eF.At⟩:Decl)]).bind λgb =>
 some (.inl (ea.1++[(⟨cw.Kind,cq,eg,eF.At⟩:Decl)],aL (ea.2+1)))
 else
 some (.inr ea.1))) (([]:List Decl),0)).bind λbs =>
 (b4 (R:=List fk) (λ(ki:List fk × Int) =>
 ((bif decide (ki.2<(a0.dG.length:Int)) then some (decide (ki.2<6)) else some false)).bind λqf =>
 (bif qf then
 (idx a0.dG ki.2).bind λkY =>
 (s9 kY.Left 25).bind λcR =>
 (idx a0.dG ki.2).bind λfa =>
 (b4 (R:=List Alt) (λ(d_:List Alt × Int) =>
 (((idx a0.dG ki.2).bind λj3=>(bif decide (d_.2<(j3.eL.length:Int)) then some (decide (d_.2<5)) else some false))).bind λwM =>
 (bif wM then
 (idx a0.dG ki.2).bind λjB =>
 (idx jB.eL d_.2).bind λhd =>
 (xX hd.Prec).bind λfM =>
 (idx a0.dG ki.2).bind λwe =>
 (idx we.eL d_.2).bind λp2 =>
 (b4 (R:=List Part) (λ(rC:List Part × Int) =>
 (((idx a0.dG ki.2).bind λrK=>((idx rK.eL d_.2).bind λDB=>(bif decide (rC.2<(DB.ht.length:Int)) then some (decide (rC.2<6)) else some false)))).bind λHe =>
 (bif He then
 (idx a0.dG ki.2).bind λKQ =>
 (idx KQ.eL d_.2).bind λkB =>
 (idx kB.ht rC.2).bind λnZ =>
 (xX nZ.Sym).bind λp4 =>
 (s9 nZ.Code 60).bind λn0 =>
 (da rC.1 [(⟨p4,n0,nZ.At⟩:Part)]).bind λAI =>
 some (.inl (rC.1++[(⟨p4,n0,nZ.At⟩:Part)],aL (rC.2+1)))
 else
 some (.inr rC.1))) (([]:List Part),0)).bind λnY =>
 (da d_.1 [(⟨nY,fM,p2.At⟩:Alt)]).bind λQw =>
 some (.inl (d_.1++[(⟨nY,fM,p2.At⟩:Alt)],aL (d_.2+1)))
 else
 some (.inr d_.1))) (([]:List Alt),0)).bind λeo =>
 (da ki.1 [(⟨cR,eo,fa.At⟩:fk)]).bind λQx =>
 some (.inl (ki.1++[(⟨cR,eo,fa.At⟩:fk)],aL (ki.2+1)))
 else
 some (.inr ki.1))) (([]:List fk),0)).bind λgC =>
 some (⟨a8,bs,gC,x2⟩:Source)
def vR (a0:Int) (aE:Int):Option (Int) :=
 (rz a0 aE).bind λa8 =>
 ((bif decide (a8<0) then
 some (aL (a8+aE))
 else
 some a8)).bind λJo =>
 some Jo
def J6 :Option (ByteArray) :=
 some (⟨#[112,113,114,115]⟩)
def vS (a0:Int):Option (Sym) :=
 (J6 ).bind λa8 =>
 (rz a0 4).bind λx2 =>
 (rz a0 4).bind λa7 =>
 (q8 a8 x2 (aL (a7+1))).bind λbs =>
 some (⟨bs,true,0,0⟩:Sym)
def mn:bJ Decl:=⟨4,λx=>[ae x.Kind,ay x.Tag,aj dE x.eM,ae x.At],λ_=>rfl,λ_=>dp.bn⟩
instance:gU mn dB:=⟨rfl,λx=>(inferInstance:dr [ae x.Kind,ay x.Tag,aj dE x.eM,ae x.At] [ae x.Kind,ay x.Tag,ag dE x.eM,ae x.At])⟩
instance {x:Decl}:dr (mn.cells x) [ae x.Kind,ay x.Tag,ag dE x.eM,ae x.At]:=(inferInstance:dr [ae x.Kind,ay x.Tag,aj dE x.eM,ae x.At] [ae x.Kind,ay x.Tag,ag dE x.eM,ae x.At])
def z' (a0:(List Int)):Option ((List Decl)) :=
 (b4 (R:=List Decl) (λ(s1:List Decl × Int) =>
 ((bif decide (s1.2<(a0.length:Int)) then some (decide (s1.2<4)) else some false)).bind λkI =>
 (bif kI then
 ((idx a0 s1.2).bind λb6 =>
 (vR b6 8).bind λcw =>
 (rz cw 4).bind λbI =>
 (bif decide (bI=0) then
 some s1.1
 else
 ((bif decide (4<cw) then some (decide (0<(s1.1.length:Int))) else some false)).bind λjT =>
 (bif jT then
 (idx s1.1 (aL ((s1.1.length:Int) - 1))).bind λcQ =>
 (vS s1.2).bind λcd =>
 (da cQ.eM [cd]).bind λbU =>
 some (s1.1.set (aL ((s1.1.length:Int) - 1)).toNat (⟨cQ.Kind,cQ.Tag,cQ.eM++[cd],cQ.At⟩:Decl))
 else
 (rz cw 4).bind λdP =>
 (vS s1.2).bind λeX =>
 (da s1.1 [(⟨aL (1+dP),⟨#[]⟩,[eX],0⟩:Decl)]).bind λdM =>
 some (s1.1++[(⟨aL (1+dP),⟨#[]⟩,[eX],0⟩:Decl)])))).bind λkS =>
 some (.inl (kS,aL (s1.2+1)))
 else
 some (.inr s1.1))) (([]:List Decl),0)).bind λx2 =>
 some x2
def Aa (a0:Int):Option (ByteArray) :=
 some (strOfNums [yq (aL (97+a0))])
def CS (a0:Int) (aE:Int):Option (Sym) :=
 (vR a0 14).bind λa8 =>
 (bif decide (a8<5) then
 (rz a8 aE).bind λa7 =>
 (Aa a7).bind λbs =>
 some (⟨bs,false,0,0⟩:Sym)
 else
 (bif decide (a8=13) then
 some (⟨⟨#[101,114,114,111,114]⟩,false,0,0⟩:Sym)
 else
 (vS (aL (a8 - 5))).bind λbC =>
 some bC))
structure o7 where
 b3:Int
 dG:(List (List Int))
 qW:(List Int)
 nr:(List Int)
 sw:Bool
 deriving DecidableEq,Inhabited
def ph:bJ o7:=⟨5,λx=>[ae x.b3,ag (bp ai) x.dG,ag ai x.qW,ag ai x.nr,a_ x.sw],λ_=>rfl,λ_=>dp.bn⟩
instance:Flat ph:=⟨λ_=>rfl⟩
instance:gU ph ph:=⟨rfl,λx=>(inferInstance:dr [ae x.b3,ag (bp ai) x.dG,ag ai x.qW,ag ai x.nr,a_ x.sw] [ae x.b3,ag (bp ai) x.dG,ag ai x.qW,ag ai x.nr,a_ x.sw])⟩
instance {x:o7}:dr (ph.cells x) [ae x.b3,ag (bp ai) x.dG,ag ai x.qW,ag ai x.nr,a_ x.sw]:=(inferInstance:dr [ae x.b3,ag (bp ai) x.dG,ag ai x.qW,ag ai x.nr,a_ x.sw] [ae x.b3,ag (bp ai) x.dG,ag ai x.qW,ag ai x.nr,a_ x.sw])
def fK:bJ fk:=⟨3,λx=>[ay x.Left,aj e2 x.eL,ae x.At],λ_=>rfl,λ_=>dp.bn⟩
instance:gU fK gO:=⟨rfl,λx=>(inferInstance:dr [ay x.Left,aj e2 x.eL,ae x.At] [ay x.Left,ag e2 x.eL,ae x.At])⟩
instance {x:fk}:dr (fK.cells x) [ay x.Left,ag e2 x.eL,ae x.At]:=(inferInstance:dr [ay x.Left,aj e2 x.eL,ae x.At] [ay x.Left,ag e2 x.eL,ae x.At])
def xQ (a0:o7):Option (Source) :=
 (vR a0.b3 4).bind λa8 =>
 (z' a0.qW).bind λx2 =>
 (ni (aL (1+a8)) false).bind λa7 =>
 (b4 (R:=List fk) (λ(cY:List fk × Int) =>
 (bif decide (cY.2<aL (1+a8)) then
 (Aa cY.2).bind λb6 =>
 (da cY.1 [(⟨b6,([]:List Alt),0⟩:fk)]).bind λcw =>
 some (.inl (cY.1++[(⟨b6,([]:List Alt),0⟩:fk)],aL (cY.2+1)))
 else
 some (.inr cY.1))) (([]:List fk),0)).bind λbT =>
 (b4 (R:=List fk × List Bool) (λ(gy:List fk × List Bool × Int) =>
 ((bif decide (gy.2.2<(a0.dG.length:Int)) then some (decide (gy.2.2<9)) else some false)).bind λoH =>
 (bif oH then
 ((idx a0.dG gy.2.2).bind λbU =>
 (bif decide ((bU.length:Int)=0) then
 some (gy.1,gy.2.1)
 else
 (idx a0.dG gy.2.2).bind λeX =>
 (idx eX 0).bind λdM =>
 (vR dM (aL (1+a8))).bind λeB =>
 (b4 (R:=List Part × Bool) (λ(iJ:List Part × Bool × Int) =>
 (((idx a0.dG gy.2.2).bind λhS=>(bif decide (iJ.2.2<(hS.length:Int)) then some (decide (iJ.2.2<5)) else some false))).bind λHc =>
 (bif Hc then
 ((idx a0.dG gy.2.2).bind λhI =>
 (idx hI iJ.2.2).bind λkY =>
 (CS kY (aL (1+a8))).bind λcR =>
 ((bif iJ.2.1 then (bif cR.Lit then some true else some (decide (cR.Name=⟨#[101,114,114,111,114]⟩))) else some false)).bind λtD =>
 (da iJ.1 [(⟨cR,⟨#[]⟩,0⟩:Part)]).bind λp1 =>
 ((bif decide (gy.2.2<(a0.nr.length:Int)) then (bif decide (iJ.2.2=1) then ((idx a0.nr gy.2.2).bind λgl=>((rz gl 3).bind λrJ=>some (decide (rJ=1)))) else some false) else some false)).bind λy6 =>
 ((bif y6 then
 (da (iJ.1++[(⟨cR,⟨#[]⟩,0⟩:Part)]) [(⟨(⟨⟨#[]⟩,false,0,0⟩:Sym),⟨#[123,36,36,32,61,32,36,49,125]⟩,0⟩:Part)]).bind λwe =>
 some ((iJ.1++[(⟨cR,⟨#[]⟩,0⟩:Part)])++[(⟨(⟨⟨#[]⟩,false,0,0⟩:Sym),⟨#[123,36,36,32,61,32,36,49,125]⟩,0⟩:Part)])
 else
 some (iJ.1++[(⟨cR,⟨#[]⟩,0⟩:Part)]))).bind λJu =>
 some (Ju,tD)).bind λuo =>
 some (.inl (uo.1,uo.2,aL (iJ.2.2+1)))
 else
 some (.inr (iJ.1,iJ.2.1)))) (([]:List Part),true,1)).bind λfB =>
 ((bif decide (gy.2.2<(a0.nr.length:Int)) then ((idx a0.nr gy.2.2).bind λoz=>((rz oz 2).bind λnY=>some (!decide (nY=0)))) else some false)).bind λA' =>
 ((bif A' then
 (da fB.1 [(⟨(⟨⟨#[]⟩,false,0,0⟩:Sym),⟨#[123,102,40,36,36,41,125]⟩,0⟩:Part)]).bind λwh =>
 some (fB.1++[(⟨(⟨⟨#[]⟩,false,0,0⟩:Sym),⟨#[123,102,40,36,36,41,125]⟩,0⟩:Part)])
 else
 some fB.1)).bind λoV =>
 (((idx gy.2.1 eB).bind λp3=>(bif p3 then some (gy.2.1.set eB.toNat true) else some (gy.2.1.set eB.toNat fB.2)))).bind λy7 =>
 (idx gy.1 eB).bind λkB =>
 (da kB.eL [(⟨oV,(⟨⟨#[]⟩,false,0,0⟩:Sym),0⟩:Alt)]).bind λnZ =>
 some (gy.1.set eB.toNat (⟨kB.Left,kB.eL++[(⟨oV,(⟨⟨#[]⟩,false,0,0⟩:Sym),0⟩:Alt)],kB.At⟩:fk),y7))).bind λmy =>
 some (.inl (my.1,my.2,aL (gy.2.2+1)))
 else
 some (.inr (gy.1,gy.2.1)))) (bT,a7,0)).bind λcq =>
 (b4 (R:=List fk) (λ(jg:List fk × Int) =>
 (bif decide (jg.2<aL (1+a8)) then
 ((((idx jg.1 jg.2).bind λwi=>(bif decide ((wi.eL.length:Int)=0) then some true else ((idx cq.2 jg.2).bind λKR=>(bif !KR then some (!a0.sw) else some false))))).bind λBa =>
 ((bif Ba then
 (idx jg.1 jg.2).bind λkC =>
 (vS jg.2).bind λkD =>
 (da kC.eL [(⟨[(⟨kD,⟨#[]⟩,0⟩:Part)],(⟨⟨#[]⟩,false,0,0⟩:Sym),0⟩:Alt)]).bind λDC =>
 some (jg.1.set jg.2.toNat (⟨kC.Left,kC.eL++[(⟨[(⟨kD,⟨#[]⟩,0⟩:Part)],(⟨⟨#[]⟩,false,0,0⟩:Sym),0⟩:Alt)],kC.At⟩:fk))
 else
 some jg.1)).bind λJy =>
 some Jy).bind λJx =>
 some (.inl (Jx,aL (jg.2+1)))
 else
 some (.inr jg.1))) (cq.1,0)).bind λn0 =>
 some (⟨⟨#[]⟩,x2,n0,⟨#[]⟩⟩:Source)
def Fz (a0:fC) (aE:fC):Option (Bool) :=
 (((oY a0.cS aE.cS).bind λa8=>(bif a8 then ((oY a0.b9 aE.b9).bind λa7=>(bif a7 then ((oY a0.b5 aE.b5).bind λbT=>some bT) else some false)) else some false))).bind λoJ =>
 some oJ
def J3 (a0:(List ca)) (aE:(List ca)):Option (Bool) :=
 (bif !decide ((a0.length:Int)=(aE.length:Int)) then
 some false
 else
 (b4 (R:=(Unit) ⊕ (Bool)) (λ(s2:Int) =>
 (bif decide (s2<(a0.length:Int)) then
 (idx a0 s2).bind λbQ =>
 (idx aE s2).bind λb6 =>
 (bif !(decide (bQ.At=b6.At)&&(decide (bQ.b9=b6.b9)&&true)) then
 some (.inr (.inr false))
 else
 some (.inl (aL (s2+1))))
 else
 some (.inr (.inl ())))) 0).bind λa7 =>
 (match a7 with
 | .inl bs =>
 some true
 | .inr bT =>
 some bT))
def Pm (a0:Tables) (aE:Tables):Option (Bool) :=
 (((oY a0.Def aE.Def).bind λa8=>(bif a8 then ((Fz a0.cO aE.cO).bind λa7=>(bif a7 then ((oY a0.kn aE.kn).bind λbT=>(bif bT then ((Fz a0.gD aE.gD).bind λbQ=>(bif bQ then ((oY a0.Left aE.Left).bind λcw=>(bif cw then ((oY a0.mJ aE.mJ).bind λcq=>(bif cq then ((J3 a0.nu aE.nu).bind λck=>some ck) else some false)) else some false)) else some false)) else some false)) else some false)) else some false))).bind λoH =>
 some oH
def vU (a0:(List Int)):Option (Int) :=
 (b4 (R:=List Int) (λ(s1:List Int × Int) =>
 (bif decide (s1.2<(a0.length:Int)) then
 (idx a0 s1.2).bind λbT =>
 (pU s1.1 bT).bind λbC =>
 some (.inl (bC,aL (s1.2+1)))
 else
 some (.inr s1.1))) (([]:List Int),0)).bind λx2 =>
 (b4 (R:=Int) (λ(du:Int × Int × Int) =>
 (bif decide (du.2.2<(x2.length:Int)) then
 ((b4 (R:=Int) (λ(uE:Int × Int) =>
 (bif decide (uE.2<(a0.length:Int)) then
 ((idx a0 uE.2).bind λbU =>
 (idx x2 du.2.2).bind λdP =>
 ((bif decide (bU=dP) then
 some (aL (uE.1+1))
 else
 some uE.1)).bind λfc =>
 some fc).bind λmy =>
 some (.inl (my,aL (uE.2+1)))
 else
 some (.inr uE.1))) (0,0)).bind λck =>
 ((bif decide (du.2.1<ck) then
 (idx x2 du.2.2).bind λfB =>
 some (fB,ck)
 else
 some (du.1,du.2.1))).bind λnR =>
 some (nR.1,nR.2)).bind λju =>
 some (.inl (ju.1,ju.2,aL (du.2.2+1)))
 else
 some (.inr du.1))) ((-1),0,0)).bind λb6 =>
 some b6
def uz (a0:Act):Option (Int) :=
 ((bif decide (a0.Kind=1) then (bif decide (0<=a0.N) then some (decide (a0.N<=19999)) else some false) else some false)).bind λjU =>
 (bif jU then
 some (aL (a0.N+1))
 else
 ((bif decide (a0.Kind=2) then (bif decide (1<=a0.N) then some (decide (a0.N<=19999)) else some false) else some false)).bind λkJ =>
 (bif kJ then
 some (aL (-a0.N))
 else
 ((bif decide (a0.Kind=3) then some (decide (a0.N=0)) else some false)).bind λik =>
 (bif ik then
 some 20001
 else
 ((bif decide (a0.Kind=4) then some (decide (a0.N=0)) else some false)).bind λjT =>
 (bif jT then
 some 20002
 else
 some 0))))
def z8 (a0:gS):Option ((List Row)) :=
 (b4 (R:=List Row) (λ(s1:List Row × Int) =>
 (bif decide (s1.2<(a0.cO.length:Int)) then
 (b4 (R:=List Int) (λ(cn:List Int × Int) =>
 (idx a0.cO s1.2).bind λb6 =>
 (bif decide (cn.2<(b6.length:Int)) then
 ((idx a0.cO s1.2).bind λcq =>
 (idx cq cn.2).bind λeF =>
 ((bif decide (eF.Kind=2) then
 (idx a0.cO s1.2).bind λcQ =>
 (idx cQ cn.2).bind λcd =>
 (da cn.1 [cd.N]).bind λbU =>
 some (cn.1++[cd.N])
 else
 some cn.1)).bind λiI =>
 some iI).bind λjQ =>
 some (.inl (jQ,aL (cn.2+1)))
 else
 some (.inr cn.1))) (([]:List Int),0)).bind λbC =>
 (vU bC).bind λdP =>
 (b4 (R:=List ca) (λ(df:List ca × Int) =>
 (idx a0.cO s1.2).bind λfZ =>
 (bif decide (df.2<(fZ.length:Int)) then
 ((idx a0.cO s1.2).bind λhS =>
 (idx hS df.2).bind λgC =>
 ((bif !decide (gC.Kind=0) then (bif !decide (gC.Kind=2) then some true else some (!decide (gC.N=dP))) else some false)).bind λqf =>
 ((bif qf then
 (uz gC).bind λcR =>
 (da df.1 [(⟨df.2,cR⟩:ca)]).bind λfa =>
 some (df.1++[(⟨df.2,cR⟩:ca)])
 else
 some df.1)).bind λxy =>
 some xy).bind λxx =>
 some (.inl (xx,aL (df.2+1)))
 else
 some (.inr df.1))) (([]:List ca),0)).bind λdM =>
 (da s1.1 [(⟨dP,dM⟩:Row)]).bind λj2 =>
 some (.inl (s1.1++[(⟨dP,dM⟩:Row)],aL (s1.2+1)))
 else
 some (.inr s1.1))) (([]:List Row),0)).bind λx2 =>
 some x2
def z_ (a0:gS):Option ((List Row)) :=
 (b4 (R:=List Row) (λ(s1:List Row × Int) =>
 ((bif decide (0<(a0.d'.length:Int)) then ((idx a0.d' 0).bind λbT=>some (decide (s1.2<(bT.length:Int)))) else some false)).bind λoJ =>
 (bif oJ then
 (b4 (R:=List Int) (λ(dw:List Int × Int) =>
 (bif decide (dw.2<(a0.d'.length:Int)) then
 ((idx a0.d' dw.2).bind λck =>
 (idx ck s1.2).bind λeg =>
 ((bif decide (0<=eg) then
 (idx a0.d' dw.2).bind λbU =>
 (idx bU s1.2).bind λdP =>
 (da dw.1 [dP]).bind λeX =>
 some (dw.1++[dP])
 else
 some dw.1)).bind λoq =>
 some oq).bind λeO =>
 some (.inl (eO,aL (dw.2+1)))
 else
 some (.inr dw.1))) (([]:List Int),0)).bind λcw =>
 (vU cw).bind λdM =>
 (b4 (R:=List ca) (λ(rB:List ca × Int) =>
 (bif decide (rB.2<(a0.d'.length:Int)) then
 ((idx a0.d' rB.2).bind λgC =>
 (idx gC s1.2).bind λdX =>
 ((bif decide (0<=dX) then some (!decide (dX=dM)) else some false)).bind λqf =>
 ((bif qf then
 (da rB.1 [(⟨rB.2,dX⟩:ca)]).bind λcR =>
 some (rB.1++[(⟨rB.2,dX⟩:ca)])
 else
 some rB.1)).bind λxy =>
 some xy).bind λsh =>
 some (.inl (sh,aL (rB.2+1)))
 else
 some (.inr rB.1))) (([]:List ca),0)).bind λfZ =>
 (da s1.1 [(⟨dM,fZ⟩:Row)]).bind λfa =>
 some (.inl (s1.1++[(⟨dM,fZ⟩:Row)],aL (s1.2+1)))
 else
 some (.inr s1.1))) (([]:List Row),0)).bind λx2 =>
 some x2
def CW (a0:(List Row)):Option ((List Int) × (List (List ca))) :=
 (b4 (R:=List Int × List (List ca)) (λ(s1:List Int × List (List ca) × Int) =>
 (bif decide (s1.2.2<(a0.length:Int)) then
 (idx a0 s1.2.2).bind λbT =>
 (da s1.1 [bT.Def]).bind λbC =>
 (idx a0 s1.2.2).bind λbQ =>
 (da s1.2.1 [bQ.fx]).bind λb6 =>
 some (.inl (s1.1++[bT.Def],s1.2.1++[bQ.fx],aL (s1.2.2+1)))
 else
 some (.inr (s1.1,s1.2.1)))) (([]:List Int),([]:List (List ca)),0)).bind λx2 =>
 some (x2.1,x2.2)
def J7 (a0:(List (List ca))):Option (Bool) :=
 (bif decide (400<(a0.length:Int)) then
 some false
 else
 (b4 (R:=(Unit) ⊕ (Bool)) (λ(s2:Int) =>
 (bif decide (s2<(a0.length:Int)) then
 (b4 (R:=(Unit) ⊕ (Bool)) (λ(du:List Int × Int) =>
 (idx a0 s2).bind λcq =>
 (bif decide (du.2<(cq.length:Int)) then
 (((idx a0 s2).bind λck=>((idx ck du.2).bind λeg=>(bif decide (eg.At<0) then some true else ((idx a0 s2).bind λcd=>((idx cd du.2).bind λbU=>(bif decide (999<bU.At) then some true else ((idx a0 s2).bind λeX=>((idx eX du.2).bind λdM=>((x4 du.1 dM.At).bind λeB=>some eB)))))))))).bind λG_ =>
 (bif G_ then
 some (.inr (.inr false))
 else
 (idx a0 s2).bind λgb =>
 (idx gb du.2).bind λhS =>
 (da du.1 [hS.At]).bind λgC =>
 some (.inl (du.1++[hS.At],aL (du.2+1))))
 else
 some (.inr (.inl ())))) (([]:List Int),0)).bind λb6 =>
 (match b6 with
 | .inl cw =>
 some (.inl (aL (s2+1)))
 | .inr bI =>
 some (.inr (.inr bI)))
 else
 some (.inr (.inl ())))) 0).bind λa7 =>
 (match a7 with
 | .inl bs =>
 some true
 | .inr bT =>
 some bT))
def J8 (a0:(List Int)) (aE:(List ca)) (a2:Int):Option (Bool) :=
 (b4 (R:=(Unit) ⊕ (Bool)) (λ(s1:Int) =>
 (bif decide (s1<(aE.length:Int)) then
 (idx aE s1).bind λbC =>
 ((bif decide (aL (a2+bC.At)<(a0.length:Int)) then ((idx a0 (aL (a2+bC.At))).bind λb6=>some (!decide (b6=0))) else some false)).bind λoK =>
 (bif oK then
 some (.inr (.inr false))
 else
 some (.inl (aL (s1+1))))
 else
 some (.inr (.inl ())))) 0).bind λx2 =>
 (match x2 with
 | .inl a7 =>
 some true
 | .inr bs =>
 some bs)
def CX (a0:(List (List ca))):Option (fC) :=
 (J7 a0).bind λa8 =>
 (bif !a8 then
 some (⟨([]:List Int),([]:List Int),([]:List Int)⟩:fC)
 else
 (ni (a0.length:Int) 0).bind λa7 =>
 (ni (a0.length:Int) false).bind λbs =>
 (b4 (R:=(Unit) ⊕ (fC)) (λ(cn:fC × List Bool) =>
 (b4 (R:=Int) (λ(ia:Int × Int) =>
 (bif decide (ia.2<(a0.length:Int)) then
 ((((idx cn.2 ia.2).bind λeg=>(bif !eg then ((idx a0 ia.2).bind λcd=>(bif decide (0<(cd.length:Int)) then (bif decide (ia.1<0) then some true else ((idx a0 ia.2).bind λeX=>((idx a0 ia.1).bind λdM=>some (decide ((dM.length:Int)<(eX.length:Int)))))) else some false)) else some false))).bind λq7 =>
 ((bif q7 then
 some ia.2
 else
 some ia.1)).bind λmz =>
 some mz).bind λiI =>
 some (.inl (iI,aL (ia.2+1)))
 else
 some (.inr ia.1))) ((-1),0)).bind λbI =>
 (bif decide (bI<0) then
 some (.inr (.inr cn.1))
 else
 (idx cn.2 bI).bind λhS =>
 (b4 (R:=List Int) (λ(oZ:List Int) =>
 (idx a0 bI).bind λeb =>
 (idx oZ bI).bind λhI =>
 (J8 cn.1.b5 eb hI).bind λkY =>
 (bif !kY then
 (idx oZ bI).bind λfa =>
 some (.inl (oZ.set bI.toNat (aL (fa+1))))
 else
 some (.inr oZ))) cn.1.cS).bind λdX =>
 (b4 (R:=List Int × List Int) (λ(d_:List Int × List Int × Int) =>
 (idx a0 bI).bind λj3 =>
 (bif decide (d_.2.2<(j3.length:Int)) then
 (idx dX bI).bind λgl =>
 (idx a0 bI).bind λrJ =>
 (idx rJ d_.2.2).bind λjB =>
 (b4 (R:=List Int × List Int) (λ(kj:List Int × List Int) =>
 (bif decide ((kj.2.length:Int)<=aL (gl+jB.At)) then
 (da kj.2 [0]).bind λoz =>
 (da kj.1 [0]).bind λnY =>
 some (.inl (kj.1++[0],kj.2++[0]))
 else
 some (.inr (kj.1,kj.2)))) (d_.1,d_.2.1)).bind λfM =>
 (idx a0 bI).bind λwg =>
 (idx wg d_.2.2).bind λrK =>
 (idx fM.2 (aL (gl+jB.At))).bind λDB =>
 (idx fM.1 (aL (gl+jB.At))).bind λwh =>
 some (.inl (fM.1.set (aL (gl+jB.At)).toNat rK.b9,fM.2.set (aL (gl+jB.At)).toNat (aL (bI+1)),aL (d_.2.2+1)))
 else
 some (.inr (d_.1,d_.2.1)))) (cn.1.b9,cn.1.b5,0)).bind λeo =>
 some (.inl ((⟨dX,eo.1,eo.2⟩:fC),cn.2.set bI.toNat true)))) ((⟨a7,([]:List Int),([]:List Int)⟩:fC),bs)).bind λbC =>
 (match bC with
 | .inl bQ =>
 none
 | .inr b6 =>
 some b6))
def J5 (a0:bO):Option ((List ca)) :=
 (b4 (R:=List Int) (λ(s1:List Int × Int) =>
 (bif decide (s1.2<(a0.ba.length:Int)) then
 ((idx a0.ba s1.2).bind λbC =>
 ((bif decide (0<bC.bR) then
 (idx a0.ba s1.2).bind λcw =>
 (pU s1.1 cw.bR).bind λbI =>
 some bI
 else
 some s1.1)).bind λkS =>
 some kS).bind λkQ =>
 some (.inl (kQ,aL (s1.2+1)))
 else
 some (.inr s1.1))) (([]:List Int),0)).bind λx2 =>
 (b4 (R:=List ca) (λ(jz:List ca × Int) =>
 (bif decide (jz.2<(x2.length:Int)) then
 (b4 (R:=List ca) (λ(hY:List ca × Int) =>
 (bif decide (hY.2<(a0.ba.length:Int)) then
 ((idx a0.ba hY.2).bind λdM =>
 (idx x2 jz.2).bind λeB =>
 ((bif decide (dM.bR=eB) then
 (idx x2 jz.2).bind λgb =>
 (da hY.1 [(⟨gb,hY.2⟩:ca)]).bind λhS =>
 some (hY.1++[(⟨gb,hY.2⟩:ca)])
 else
 some hY.1)).bind λmz =>
 some mz).bind λfc =>
 some (.inl (fc,aL (hY.2+1)))
 else
 some (.inr hY.1))) (jz.1,0)).bind λcd =>
 some (.inl (cd,aL (jz.2+1)))
 else
 some (.inr jz.1))) (([]:List ca),0)).bind λeF =>
 some eF
def J2 (a0:bO) (aE:gS):Option (Tables) :=
 (z8 aE).bind λa8 =>
 (CW a8).bind λx2 =>
 (CX x2.2).bind λa7 =>
 (z_ aE).bind λbs =>
 (CW bs).bind λbT =>
 (CX bT.2).bind λbC =>
 (b4 (R:=List Int × List Int) (λ(du:List Int × List Int × Int) =>
 (bif decide (du.2.2<(a0.bj.length:Int)) then
 (idx a0.bj du.2.2).bind λcq =>
 (da du.1 [cq.Left]).bind λeF =>
 (idx a0.bj du.2.2).bind λck =>
 (da du.2.1 [(ck.eI.length:Int)]).bind λeg =>
 some (.inl (du.1++[cq.Left],du.2.1++[(ck.eI.length:Int)],aL (du.2.2+1)))
 else
 some (.inr (du.1,du.2.1)))) (([]:List Int),([]:List Int),0)).bind λb6 =>
 (J5 a0).bind λcQ =>
 some (⟨x2.1,a7,bT.1,bC,b6.1,b6.2,cQ⟩:Tables)
def xW (a0:(List ca)) (aE:Int):Option (Int × Bool) :=
 (b4 (R:=(Unit) ⊕ (Int × Bool)) (λ(s1:Int) =>
 (bif decide (s1<(a0.length:Int)) then
 (idx a0 s1).bind λbC =>
 (bif decide (bC.At=aE) then
 (idx a0 s1).bind λb6 =>
 some (.inr (.inr (b6.b9,true)))
 else
 some (.inl (aL (s1+1))))
 else
 some (.inr (.inl ())))) 0).bind λx2 =>
 (match x2 with
 | .inl a7 =>
 some (0,false)
 | .inr bs =>
 some (bs.1,bs.2))
def xZ (a0:Int):Option (Act) :=
 ((bif decide (1<=a0) then some (decide (a0<=20000)) else some false)).bind λc2 =>
 (bif c2 then
 some (⟨1,aL (a0 - 1)⟩:Act)
 else
 ((bif decide (a0<=(-1)) then some (decide ((-19999)<=a0)) else some false)).bind λkI =>
 (bif kI then
 some (⟨2,aL (-a0)⟩:Act)
 else
 (bif decide (a0=20001) then
 some (⟨3,0⟩:Act)
 else
 (bif decide (a0=20002) then
 some (⟨4,0⟩:Act)
 else
 some (⟨0,0⟩:Act)))))
def vQ (a0:gS) (aE:(List Row)) (a2:Int) (a3:Int):Option (Act) :=
 ((bif decide (a2<0) then some true else some (decide ((aE.length:Int)<=a2)))).bind λc2 =>
 (bif c2 then
 some (⟨0,0⟩:Act)
 else
 (idx aE a2).bind λbs =>
 (xW bs.fx a3).bind λbT =>
 (bif bT.2 then
 (xZ bT.1).bind λbQ =>
 some bQ
 else
 (idx aE a2).bind λb6 =>
 (bif decide (0<=b6.Def) then
 (idx aE a2).bind λbI =>
 some (⟨2,bI.Def⟩:Act)
 else
 some (⟨0,0⟩:Act))))
def J4 (a0:o7) (aE:Int) (a2:Int):Option (Bool) :=
 (Al ).bind λa8 =>
 (bif !a8 then
 some false
 else
 (xQ a0).bind λa7 =>
 (s7 a7).bind λbs =>
 (bif !bs.2.2.2 then
 some true
 else
 (vM bs.1 bs.2.1).bind λbC =>
 (z8 bs.2.1).bind λbQ =>
 (b4 (R:=(Unit) ⊕ (Bool)) (λ(dw:Int) =>
 (bif decide (dw<=(bs.2.1.cO.length:Int)) then
 (b4 (R:=(Unit) ⊕ (Bool)) (λ(e_:Int) =>
 (bif decide (e_<=aL ((bs.1.ba.length:Int)+2)) then
 (pT bC dw e_).bind λdP =>
 (vQ bs.2.1 bQ dw e_).bind λeX =>
 (bif !(decide (dP.Kind=eX.Kind)&&(decide (dP.N=eX.N)&&true)) then
 some (.inr (.inr false))
 else
 some (.inl (aL (e_+1))))
 else
 some (.inr (.inl ())))) (-2)).bind λeg =>
 (match eg with
 | .inl cQ =>
 (pT bC dw a2).bind λeB =>
 (vQ bs.2.1 bQ dw a2).bind λfZ =>
 (bif !(decide (eB.Kind=fZ.Kind)&&(decide (eB.N=fZ.N)&&true)) then
 some (.inr (.inr false))
 else
 some (.inl (aL (dw+1))))
 | .inr cd =>
 some (.inr (.inr cd)))
 else
 some (.inr (.inl ())))) (-1)).bind λcw =>
 (match cw with
 | .inl bI =>
 (pT bC aE a2).bind λgb =>
 (vQ bs.2.1 bQ aE a2).bind λhS =>
 some (decide (gb.Kind=hS.Kind)&&(decide (gb.N=hS.N)&&true))
 | .inr cq =>
 some cq)))
def Ae (a0:o7) (aE:Int) (a2:Int):Option (Bool) :=
 (Al ).bind λa8 =>
 (bif !a8 then
 some false
 else
 (xQ a0).bind λa7 =>
 (s7 a7).bind λbs =>
 (bif !bs.2.2.2 then
 some true
 else
 (vM bs.1 bs.2.1).bind λbC =>
 (z_ bs.2.1).bind λbQ =>
 (b4 (R:=(Unit) ⊕ (Bool)) (λ(dw:Int) =>
 (bif decide (dw<=(bQ.length:Int)) then
 (b4 (R:=List Int) (λ(e_:List Int × Int) =>
 (bif decide (e_.2<(bs.2.1.cO.length:Int)) then
 (da e_.1 [e_.2]).bind λbU =>
 some (.inl (e_.1++[e_.2],aL (e_.2+1)))
 else
 some (.inr e_.1))) ([aE,(-1),(bs.2.1.cO.length:Int)],0)).bind λeg =>
 (b4 (R:=(Unit) ⊕ (Bool)) (λ(np:Int) =>
 (bif decide (np<(eg.length:Int)) then
 ((bif decide (0<=dw) then some (decide (dw<(bQ.length:Int))) else some false)).bind λoI =>
 ((bif oI then
 (idx bQ dw).bind λdX =>
 (idx eg np).bind λcX =>
 (xW dX.fx cX).bind λeb =>
 (idx bQ dw).bind λhI =>
 ((bif eb.2 then
 some eb.1
 else
 some hI.Def)).bind λsi =>
 some si
 else
 some (-1))).bind λsh =>
 (idx eg np).bind λfa =>
 (uy bC fa dw).bind λj2 =>
 (bif !decide (j2=sh) then
 some (.inr (.inr false))
 else
 some (.inl (aL (np+1))))
 else
 some (.inr (.inl ())))) 0).bind λeX =>
 (match eX with
 | .inl dM =>
 some (.inl (aL (dw+1)))
 | .inr eB =>
 some (.inr (.inr eB)))
 else
 some (.inr (.inl ())))) (-1)).bind λcw =>
 (match cw with
 | .inl bI =>
 ((bif decide (0<=a2) then (bif decide (a2<(bQ.length:Int)) then some true else ((uy bC aE a2).bind λc0=>some (decide (c0=(-1))))) else ((uy bC aE a2).bind λgl=>some (decide (gl=(-1)))))).bind λHd =>
 some Hd
 | .inr cq =>
 some cq)))
end Go.Proofs
namespace Go.Own
open Go
variable {α β S R:Type}
abbrev hK (p:S->Prop) (q:R->Prop) (x:S ⊕ R):Prop:=Sum.elim p q x
def Tot (x:Option α) (Φ:α->Prop):Prop:=∃ a,x=some a/\Φ a
namespace Tot
variable {Φ Ψ:α->Prop}
theorem aq {a:α}(h:Φ a):Tot (some a) Φ:=⟨a,rfl,h⟩
theorem bi {x:Option β}{f:β->Option α}(h:Tot x λa=>Tot (f a) Φ):Tot (x.bind f) Φ:=by
 obtain ⟨a,rfl,b,av,nP⟩:=h;exact ⟨b,av,nP⟩
theorem aV {f:β->Option α}{a:β}(h:Tot (f a) Φ):Tot ((some a).bind f) Φ:=h
theorem use {x:Option α}(h:Tot x Ψ) (hi:∀ a,Ψ a->Φ a):Tot x Φ:=by
 obtain ⟨a,aP,Jg⟩:=h;exact ⟨a,aP,hi a Jg⟩
theorem aB {x:Option β}{f:β->Option α}{Ξ:β->Prop}(h:Tot x Ξ) (hk:∀ a,Ξ a->Tot (f a) Φ):Tot (x.bind f) Φ:=bi (h.use hk)
theorem bF {c:Bool}{a b:Option α}(aw:c=true->Tot a Φ) (aW:c=false->Tot b Φ):Tot (cond c a b) Φ:=by
 grind
theorem br {p:Prop} [Decidable p] {a b:Option α}(aw:p->Tot a Φ) (aW:¬ p->Tot b Φ):Tot (cond (decide p) a b) Φ:=by grind
theorem qg {p:Prop} [Decidable p] {a b:Option α}(aw:¬ p->Tot a Φ) (aW:p->Tot b Φ):Tot (cond (!decide p) a b) Φ:=by grind
theorem hj {l:List α}{i:Int}(aR:0<=i) (h1:i<l.length) (hk:∀ y,idx l i=some y->y∈l->Φ y):Tot (idx l i) Φ:=by
 have aT:i.toNat<l.length:=by omega
 have:idx l i=some l[i.toNat]:=by simp [idx,aR,aT]
 exact ⟨_,this,hk _ this (List.getElem_mem aT)⟩
theorem ap {Φ:List α->Prop}{l m:List α}(h:l.length+m.length<=lim) (hk:Φ (l++m)):Tot (da l m) Φ:=by
 refine ⟨l++m,?_,hk⟩
 grind [da]
theorem loop {f:S->Option (S ⊕ R)}{e0:S}{Ψ:R->Prop}(Inv:S->Prop) (uQ:S->Nat) (aR:Inv e0) (Jh:uQ e0<fuel)
  (aC:∀ s,Inv s->Tot (f s) (hK (λcT=>Inv cT/\uQ cT<uQ s) Ψ)):Tot (b4 f e0) Ψ:=by
 have key:∀ n s,Inv s->uQ s<n->Tot (iter f n s) Ψ:=by
  intro n
  induction n with
  | zero=>intro s _ h; omega
  | succ n aU =>
   intro s bf hm;obtain ⟨x,J,cx⟩:=aC s bf;cases x with
   | inl cT =>
    grind [iter]
   | inr r =>
    simp only [iter,J];exact ⟨r,rfl,cx⟩
 exact key fuel e0 aR Jh
theorem count {f:S->Option (S ⊕ R)}{e0:S}{Ψ:R->Prop}(i:S->Int) (n:Int) (Inv:S->Prop) (aR:Inv e0) (aF:n - i e0<1000000000000000000)
  (aC:∀ s,Inv s->Tot (f s) (hK (λcT=>Inv cT/\i s<i cT/\i cT<=n) Ψ)):Tot (b4 f e0) Ψ:=by
 refine loop Inv (λs=>(n - i s).toNat) aR (by show (n - i e0).toNat<1000000000000000000; omega) λs bf=>(aC s bf).use λx J=>?_
 grind
end Tot
theorem cJ (n:Int):aL n=(n+9223372036854775808) % 18446744073709551616 - 9223372036854775808:=IntKind.wrap_i64 n
namespace Tot
theorem cat {Φ:ByteArray->Prop}{s u:ByteArray}(h:s.size+u.size<=4611686018427387904) (hk:Φ (s++u)):Tot (tF s u) Φ:=by
 refine ⟨s++u,?_,hk⟩
 grind [tF]
theorem cut {Φ:ByteArray->Prop}{s:ByteArray}{m n:Int}(h:0<=m/\m<=n/\n<=s.size) (hk:Φ (rS s m n)):Tot (q8 s m n) Φ:=by
 refine ⟨_,?_,hk⟩
 grind [q8]
theorem n' {Φ:Int->Prop}{s:ByteArray}{m:Int}(h:0<=m/\m<s.size) (hk:Φ (lD s m)):Tot (kq s m) Φ:=by
 refine ⟨_,?_,hk⟩
 grind [kq]
theorem sub {Φ:List α->Prop}{l:List α}{m n:Int}(h:0<=m/\m<=n/\n<=l.length) (hk:Φ ((l.drop m.toNat).take (n - m).toNat)):Tot (nW l m n) Φ:=by
 refine ⟨_,?_,hk⟩
 grind [nW]
theorem rem {Φ:Int->Prop}{m n:Int}(h:n≠0) (hk:Φ (m.tmod n)):Tot (rz m n) Φ:=by
 refine ⟨_,?_,hk⟩
 grind [rz]
theorem quo {Φ:Int->Prop}{m n:Int}(h:n≠0) (hk:Φ (aL (m.tdiv n))):Tot (FG m n) Φ:=by
 refine ⟨_,?_,hk⟩
 grind [FG]
theorem rA {Φ:Int->Prop}{m n:Int}(h:n≠0) (hk:Φ (m.tmod n)):Tot (Own.rA m n) Φ:=by
 refine ⟨_,?_,hk⟩
 grind [Own.rA]
theorem rv {Φ:Int->Prop}{m n:Int}(h:n≠0) (hk:Φ (IntKind.u64.wrap (m.tdiv n))):Tot (Own.rv m n) Φ:=by
 refine ⟨_,?_,hk⟩
 grind [Own.rv]
theorem mk {Φ:List α->Prop}{m:Int}{z:α}(h:0<=m/\m<=lim) (hk:Φ (List.replicate m.toNat z)):Tot (ni m z) Φ:=by
 refine ⟨_,?_,hk⟩
 grind [ni]
theorem eq {x:Option α}{Φ:α->Prop}{a:α}(h:Tot x Φ) (e:x=some a):Φ a:=by
 obtain ⟨b,av,nP⟩:=h
 grind
theorem ex {x:Option α}{Φ:α->Prop}(h:Tot x Φ):∃ a,x=some a/\Φ a:=h
end Tot
namespace Tot
theorem scan {f:Int->Option (Int ⊕ (Unit ⊕ R))}(l:List β) (P:β->Prop) (Q:R->Prop) (ak:l.length<=100000000000000000)
  (aC:∀ (s:Int) (y:β),0<=s->s<l.length->idx l s=some y->y∈l->Tot (f s) (hK (λcT=>cT=s+1/\P y) (hK (λ_=>False) Q)))
  (he:∀ s:Int,¬ s<l.length->f s=some (.inr (.inl ()))):Tot (b4 f 0) (hK (λ_=>∀ y∈l,P y) Q):=by
 refine count (λs=>s) l.length (λs=>0<=s/\s<=l.length/\∀ (j:Nat) (y:β),(j:Int)<s->l[j]?=some y->P y) ⟨by omega,by omega,λj y h=>by omega⟩ (by show (l.length:Int) - 0<_; omega) λs bf=>?_;obtain ⟨aR,h1,af⟩:=bf;by_cases aT:s<l.length
 ·have mX:s.toNat<l.length:=by omega
  have hi:idx l s=some l[s.toNat]:=by simp [idx,aR,mX]
  refine (aC s _ aR aT hi (List.getElem_mem mX)).use λx J=>?_;rcases x with cT | ⟨⟨⟩⟩ | r
  ·obtain ⟨rfl,cx⟩:=J
   grind
  ·grind
  grind
 ·rw [he s aT];refine aq λy ax=>?_;obtain ⟨j,ah,rfl⟩:=List.mem_iff_getElem.1 ax;exact af j _ (by omega) (List.getElem?_eq_getElem ah)
end Tot
end Go.Own
namespace Go.Own
open Go
variable {α β S R:Type}
def Par (x:Option α) (Φ:α->Prop):Prop:=∀ a,x=some a->Φ a
set_option linter.unusedVariables false
namespace Par
variable {Φ Ψ:α->Prop}
theorem aq {a:α}(h:Φ a):Par (some a) Φ:=λb e=>by cases e; exact h
theorem no:Par (none:Option α) Φ:=λb e=>by cases e
theorem use {x:Option α}(h:Par x Ψ) (hi:∀ a,Ψ a->Φ a):Par x Φ:=λa e=>hi a (h a e)
theorem aB {x:Option β}{f:β->Option α}{Ξ:β->Prop}(h:Par x Ξ) (hk:∀ a,Ξ a->Par (f a) Φ):Par (x.bind f) Φ:=λa e=>by
 cases x with
 | none=>cases e
 | some b=>exact hk b (h b rfl) a e
theorem go {x:Option β}{f:β->Option α}(hk:∀ a,x=some a->Par (f a) Φ):Par (x.bind f) Φ:=λa e=>by
 cases x with
 | none=>cases e
 | some b=>exact hk b rfl a e
theorem bF {c:Bool}{a b:Option α}(aw:c=true->Par a Φ) (aW:c=false->Par b Φ):Par (cond c a b) Φ:=by
 cases c
 ·exact aW rfl
 ·exact aw rfl
theorem br {p:Prop} [Decidable p] {a b:Option α}(aw:p->Par a Φ) (aW:¬ p->Par b Φ):Par (cond (decide p) a b) Φ :=
 bF (λh=>aw (of_decide_eq_true h)) (λh=>aW (of_decide_eq_false h))
theorem qg {p:Prop} [Decidable p] {a b:Option α}(aw:¬ p->Par a Φ) (aW:p->Par b Φ):Par (cond (!decide p) a b) Φ :=
 bF (λh=>aw (of_decide_eq_false (by simpa using h))) (λh=>aW (of_decide_eq_true (by simpa using h)))
theorem ap {l m:List β}{f:List β->Option α}(hk:l.length+m.length<=lim->Par (f (l++m)) Φ):Par ((da l m).bind f) Φ:=by
 unfold da;split
 ·rename_i h; exact hk h
 ·exact no
theorem cat {s u:ByteArray}{f:ByteArray->Option α}(hk:Par (f (s++u)) Φ):Par ((tF s u).bind f) Φ:=by
 unfold tF;split
 ·exact hk
 ·exact no
theorem loop {f:S->Option (S ⊕ R)}{e0:S}{Ψ:R->Prop}(Inv:S->Prop) (aR:Inv e0) (aC:∀ s,Inv s->Par (f s) (hK Inv Ψ)):Par (b4 f e0) Ψ:=by
 have key:∀ n s,Inv s->Par (iter f n s) Ψ:=by
  intro n
  induction n with
  | zero=>intro s _ a e; cases e
  | succ n aU =>
   intro s bf a e;simp only [iter] at e;cases J:f s with
   | none=>rw [J] at e; cases e
   | some x =>
    have cx:=aC s bf x J;rw [J] at e;cases x with
    | inl cT=>exact aU cT cx a e
    | inr r=>cases e; exact cx
 exact key fuel e0 aR
theorem ji {x:Option α}(h:Tot x Φ) (aQ:Par x Ψ):Tot x λa=>Φ a/\Ψ a:=by
 obtain ⟨a,aP,nP⟩:=h;exact ⟨a,aP,nP,aQ a aP⟩
theorem of {x:Option α}(h:Tot x Φ):Par x Φ:=λa e=>h.eq e
theorem scan {f:Int->Option (Int ⊕ (Unit ⊕ R))}(l:List β) (ak:l.length<=100000000000000000) (P:β->Prop) (Q:R->Prop)
  (aC:∀ (s:Int) (y:β),0<=s->s<l.length->idx l s=some y->y∈l->Par (f s) (hK (λcT=>cT=s+1/\P y) (hK (λ_=>False) Q)))
  (he:∀ s:Int,¬ s<l.length->f s=some (.inr (.inl ()))):Par (b4 f 0) (hK (λ_=>∀ y∈l,P y) Q):=by
 refine loop (λs=>0<=s/\s<=l.length/\∀ (j:Nat) (y:β),(j:Int)<s->l[j]?=some y->P y) ⟨by omega,by omega,λj y h=>by omega⟩ λs bf=>?_;obtain ⟨aR,h1,af⟩:=bf;by_cases aT:s<l.length
 ·have mX:s.toNat<l.length:=by omega
  have hi:idx l s=some l[s.toNat]:=by simp [idx,aR,mX]
  refine (aC s _ aR aT hi (List.getElem_mem mX)).use λx J=>?_;rcases x with cT | ⟨⟨⟩⟩ | r
  ·obtain ⟨rfl,cx⟩:=J;refine ⟨by omega,by omega,λj y ah ax=>?_⟩;by_cases EC:(j:Int)<s
   ·exact af j y EC ax
   ·have:j=s.toNat:=by omega
    subst this;rw [List.getElem?_eq_getElem mX] at ax;cases ax; exact cx
  ·exact J.elim
  ·exact J
 ·rw [he s aT];refine aq λy ax=>?_;obtain ⟨j,ah,rfl⟩:=List.mem_iff_getElem.1 ax;exact af j _ (by omega) (List.getElem?_eq_getElem ah)
end Par
end Go.Own
namespace Go.Own
open Go
variable {α β S R:Type}
namespace Tot
theorem upto {f:S->Option (S ⊕ R)}{e0:S}{Ψ:R->Prop}(i:S->Int) (n:Nat) (Inv:Nat->S->Prop) (hi:i e0=0) (aF:n<=100000000000000000) (aR:Inv 0 e0)
  (aC:∀ (k:Nat) (s:S),k<=n->i s=(k:Int)->Inv k s->Tot (f s) (hK (λcT=>k<n/\i cT=((k+1:Nat):Int)/\Inv (k+1) cT) Ψ)):Tot (b4 f e0) Ψ:=by
 refine count i n (λs=>∃ k:Nat,k<=n/\i s=(k:Int)/\Inv k s) ⟨0,Nat.zero_le _,hi,aR⟩ (by rw [hi]; omega) λs ⟨k,hk,he,bf⟩=>(aC k s hk he bf).use λx J=>?_;rcases x with cT | r
 ·obtain ⟨h1,af,aI⟩:=J;exact ⟨⟨k+1,by omega,af,aI⟩,by omega,by omega⟩
 ·exact J
end Tot
namespace Par
theorem upto {f:S->Option (S ⊕ R)}{e0:S}{Ψ:R->Prop}(i:S->Int) (n:Nat) (Inv:Nat->S->Prop) (hi:i e0=0) (aR:Inv 0 e0)
  (aC:∀ (k:Nat) (s:S),k<=n->i s=(k:Int)->Inv k s->Par (f s) (hK (λcT=>k<n/\i cT=((k+1:Nat):Int)/\Inv (k+1) cT) Ψ)):Par (b4 f e0) Ψ:=by
 refine loop (λs=>∃ k:Nat,k<=n/\i s=(k:Int)/\Inv k s) ⟨0,Nat.zero_le _,hi,aR⟩ λs ⟨k,hk,he,bf⟩=>(aC k s hk he bf).use λx J=>?_;rcases x with cT | r
 ·obtain ⟨h1,af,aI⟩:=J;exact ⟨k+1,by omega,af,aI⟩
 ·exact J
end Par
theorem eR (k:Nat) (h:k<=1000000000000000000):aL ((k:Int)+1)=((k+1:Nat):Int):=by rw [cJ]; omega
end Go.Own
namespace Go.Own
open Go
variable {α β AM AN S T R Q:Type}
def Rel (x:Option α) (y:Option β) (Φ:α->β->Prop):Prop:=∃ a b,x=some a/\y=some b/\Φ a b
abbrev Le (p:S->T->Prop) (q:R->Q->Prop):S ⊕ R->T ⊕ Q->Prop
 | .inl a,.inl b=>p a b
 | .inr a,.inr b=>q a b
 | _,_=>False
namespace Rel
variable {Φ Ψ:α->β->Prop}
theorem aq {a:α}{b:β}(h:Φ a b):Rel (some a) (some b) Φ:=⟨a,b,rfl,rfl,h⟩
theorem use {x:Option α}{y:Option β}(h:Rel x y Ψ) (hi:∀ a b,Ψ a b->Φ a b):Rel x y Φ:=by
 obtain ⟨a,b,aP,av,Jg⟩:=h;exact ⟨a,b,aP,av,hi a b Jg⟩
theorem aB {x:Option AM}{y:Option AN}{f:AM->Option α}{g:AN->Option β}{Ξ:AM->AN->Prop}(h:Rel x y Ξ) (hk:∀ a b,Ξ a b->Rel (f a) (g b) Φ):Rel (x.bind f) (y.bind g) Φ:=by
 obtain ⟨a,b,rfl,rfl,Cg⟩:=h;exact hk a b Cg
theorem l {x:Option AM}{y:Option β}{f:AM->Option α}{Ξ:AM->Prop}(h:Tot x Ξ) (hk:∀ a,Ξ a->Rel (f a) y Φ):Rel (x.bind f) y Φ:=by
 obtain ⟨a,rfl,Cg⟩:=h;exact hk a Cg
theorem r {x:Option α}{y:Option AN}{g:AN->Option β}{Ξ:AN->Prop}(h:Tot y Ξ) (hk:∀ a,Ξ a->Rel x (g a) Φ):Rel x (y.bind g) Φ:=by
 obtain ⟨a,rfl,Cg⟩:=h;exact hk a Cg
theorem bF {c d:Bool}{a b:Option α}{b' eC:Option β}(aa:c=d) (aw:c=true->Rel a b' Φ) (aW:c=false->Rel b eC Φ):Rel (cond c a b) (cond d b' eC) Φ:=by
 subst aa;cases c
 ·exact aW rfl
 ·exact aw rfl
theorem cl {c:Bool}{a b:Option α}{y:Option β}(aw:c=true->Rel a y Φ) (aW:c=false->Rel b y Φ):Rel (cond c a b) y Φ:=by
 cases c
 ·exact aW rfl
 ·exact aw rfl
theorem ji {x:Option α}{y:Option β}{P:α->Prop}{Q:β->Prop}(h:Tot x P) (aQ:Tot y Q) (hi:∀ a b,P a->Q b->Φ a b):Rel x y Φ:=by
 obtain ⟨a,aP,cx⟩:=h;obtain ⟨b,av,dO⟩:=aQ;exact ⟨a,b,aP,av,hi a b cx dO⟩
theorem fst {x:Option α}{y:Option β}(h:Rel x y Φ):Tot x λa=>∃ b,y=some b/\Φ a b:=by
 obtain ⟨a,b,aP,av,nP⟩:=h;exact ⟨a,aP,b,av,nP⟩
theorem loop {f:S->Option (S ⊕ R)}{g:T->Option (T ⊕ Q)}{e0:S}{t0:T}{Ψ:R->Q->Prop}(Inv:S->T->Prop) (uQ:S->Nat) (aR:Inv e0 t0) (Jh:uQ e0<fuel)
  (aC:∀ s t,Inv s t->Rel (f s) (g t) (Le (λcT t'=>Inv cT t'/\uQ cT<uQ s) Ψ)):Rel (b4 f e0) (b4 g t0) Ψ:=by
 have key:∀ n s t,Inv s t->uQ s<n->Rel (iter f n s) (iter g n t) Ψ:=by
  intro n
  induction n with
  | zero=>intro s t _ h; omega
  | succ n aU =>
   intro s t bf hm;obtain ⟨x,y,J,ax,cx⟩:=aC s t bf;rcases x with cT | r <;> rcases y with t' | q
   ·obtain ⟨h1,af⟩:=cx;simp only [iter,J,ax];exact aU cT t' h1 (by omega)
   ·exact cx.elim
   ·exact cx.elim
   ·simp only [iter,J,ax];exact ⟨r,q,rfl,rfl,cx⟩
 exact key fuel e0 t0 aR Jh
theorem upto {f:S->Option (S ⊕ R)}{g:T->Option (T ⊕ Q)}{e0:S}{t0:T}{Ψ:R->Q->Prop}(i:S->Int) (n:Nat) (Inv:Nat->S->T->Prop) (hi:i e0=0) (aF:n<=100000000000000000) (aR:Inv 0 e0 t0)
  (aC:∀ (k:Nat) (s:S) (t:T),k<=n->i s=(k:Int)->Inv k s t->Rel (f s) (g t) (Le (λcT t'=>k<n/\i cT=((k+1:Nat):Int)/\Inv (k+1) cT t') Ψ)):Rel (b4 f e0) (b4 g t0) Ψ:=by
 refine loop (λs t=>∃ k:Nat,k<=n/\i s=(k:Int)/\Inv k s t) (λs=>(n - (i s).toNat)) ⟨0,Nat.zero_le _,hi,aR⟩ (by rw [hi]; show n - 0<1000000000000000000; omega) λs t ⟨k,hk,he,bf⟩=>(aC k s t hk he bf).use λx y ET=>?_;rcases x with cT | r <;> rcases y with t' | q
 ·obtain ⟨h1,af,aI⟩:=ET;refine ⟨⟨k+1,by omega,af,aI⟩,?_⟩;show n - (i cT).toNat<n - (i s).toNat;rw [af,he]; omega
 ·exact ET
 ·exact ET
 ·exact ET
end Rel
end Go.Own

namespace Go.Proofs
open Tryz
open Go Go.Own
set_option maxRecDepth 100000
set_option linter.unusedVariables false
theorem t149 (c:Int):Tot (CP c) λ_=>True:=by
 unfold CP
 repeat' first | apply Tot.bi | refine Tot.bF (λ_=>?_) (λ_=>?_) | exact Tot.aq trivial | apply Tot.aq
theorem t150 (c:Int):Tot (CQ c) λ_=>True:=by
 unfold CQ
 repeat' first | apply Tot.bi | refine Tot.bF (λ_=>?_) (λ_=>?_) | exact Tot.aq trivial | apply Tot.aq
theorem t148 (c:Int):Tot (z7 c) λ_=>True:=by
 unfold z7
 repeat' first | apply Tot.bi | refine Tot.bF (λ_=>?_) (λ_=>?_) | exact Tot.aq trivial | apply Tot.aq
theorem t145 (x:Sym):Tot (ux x) λr=>r=true->x.Name=⟨#[]⟩/\x.Lit=false:=by
 unfold ux;apply Tot.bi;refine Tot.br (λh=>Tot.bF (λaf=>?_) (λaf=>?_)) (λh=>?_) <;> apply Tot.aq <;> apply Tot.aq
 ·exact λ_=>⟨h,by simpa using af⟩
 ·exact λh=>by cases h
 ·exact λh=>by cases h
abbrev dK:Nat:=1000000000000
theorem t144 (s:ByteArray) (h:s.size<=dK):Tot (CO s 0) λn=>0<=n/\n<=s.size:=by
 unfold CO;refine Tot.aB (Ξ:=λn=>0<=n/\n<=s.size) ?_ λa aP=>.aq aP;refine Tot.count (λi=>i) s.size (λi=>0<=i/\i<=s.size) ⟨by omega,by omega⟩ (by show (s.size:Int) - 0<_; simp only [dK] at h; omega) λi ⟨aR,h1⟩=>?_;simp only [dK] at h;have e:aL (0+i)=i:=by rw [cJ]; omega
 rw [e];have go:∀ c:Bool,(c=true->i<s.size)->Tot (bif c then some (.inl (aL (i+1))) else some (.inr i)) (hK (λcT:Int=>(0<=cT/\cT<=s.size)/\i<cT/\cT<=s.size) (λr:Int=>0<=r/\r<=s.size)):=by
  intro c aa;refine Tot.bF (λaf=>.aq ?_) (λ_=>.aq ⟨aR,h1⟩);have:=aa af;have e:aL (i+1)=i+1:=by rw [cJ]; omega
  show (0<=aL (i+1)/\aL (i+1)<=s.size)/\i<aL (i+1)/\aL (i+1)<=s.size;rw [e]; omega
 apply Tot.bi;refine Tot.br (λaf=>?_) (λaf=>.aq (go false (by simp)));apply Tot.bi;refine Tot.n' ⟨aR,af⟩ (Tot.aB (t149 _) λc _=>?_);refine Tot.bF (λ_=>.aq (go _ λ_=>af)) (λ_=>Tot.bF (λ_=>?_) (λ_=>.aq (go _ λ_=>af)));apply Tot.bi;refine Tot.n' ⟨aR,af⟩ (Tot.aB (t150 _) λc _=>?_);refine Tot.bF (λ_=>.aq (go _ λ_=>af)) (λ_=>?_);apply Tot.bi;exact Tot.n' ⟨aR,af⟩ (.aq (go _ λ_=>af))
theorem t134 (s:ByteArray) (h:s.size<=dK):Tot (vN s) λr=>r=true->1<=s.size/\s.size<=20:=by
 unfold vN;apply Tot.bi;refine Tot.br (λh1=>Tot.br (λaf=>?_) (λaf=>?_)) (λh1=>?_)
 ·exact .aB (t144 s h) λn aF=>.aq (.aq λ_=>by omega)
 ·exact .aq (.aq λh=>by cases h)
 ·exact .aq (.aq λh=>by cases h)
theorem t152 (s:ByteArray) (i:Int) (t:ByteArray) (h:s.size<=dK) (aR:0<=i) (h1:i<=4 * dK) (aw:t.size<=dK):Tot (xV s i t) λr=>r=true->i+t.size<=s.size:=by
 unfold xV;simp only [dK] at *;apply Tot.bi;refine Tot.br (λaf=>?_) (λaf=>.aq (.aq λh=>by cases h));apply Tot.bi;rw [cJ] at af;have e:aL (i+t.size)=i+t.size:=by rw [cJ]; omega
 refine Tot.cut (by rw [e]; omega) (.aq (.aq λ_=>by omega))
theorem t151 (s:ByteArray) (i:Int) (h:s.size<=dK) (aR:0<=i) (h1:i<s.size):Tot (CR s i) λr=>r<=s.size:=by
 unfold CR;have av:(s.size:Int)<=1000000000000:=by simp only [dK] at h; omega
 have cz:aL (i+1)=i+1:=by rw [cJ]; omega
 have cf:aL (i+2)=i+2:=by rw [cJ]; omega
 rw [cz,cf];have w6:=Tot.n' (Φ:=λ_=>True) (s:=s) (m:=i) ⟨aR,h1⟩ trivial;refine Tot.aB (Ξ:=λ_=>True) ?_ λc _=>Tot.bF (λ_=>?_) (λ_=>?_)
 ·refine Tot.aB w6 λ_ _=>Tot.bF (λ_=>.aq trivial) (λ_=>Tot.aB w6 λ_ _=>.aq trivial)
 ·refine Tot.aB (Ξ:=hK (λ_=>True) (λr=>r<=s.size)) ?_ λx J=>?_
  ·refine Tot.count (λj=>j) (s.size+1) (λj=>0<=j) (by show (0:Int)<=i+1; omega) (by show (s.size:Int)+1 - (i+1)<_; omega) λj ah=>?_;refine Tot.aB (Ξ:=λc=>c=true->j<s.size) ?_ λc aa=>Tot.bF (λaf=>?_) (λ_=>.aq trivial)
   ·refine Tot.br (λaf=>?_) (λ_=>.aq λh=>by cases h);exact .aB (Ξ:=λ_=>True) (Tot.n' ⟨ah,af⟩ trivial) λ_ _=>.aq λ_=>af
   ·have Vk:=aa af;have w4:=Tot.n' (Φ:=λ_=>True) (s:=s) (m:=j) ⟨ah,Vk⟩ trivial;have fO:aL (j+1)=j+1:=by rw [cJ]; omega
    have mR:aL (j+1+1)=j+1+1:=by rw [cJ]; omega
    rw [fO,mR];refine .aB w4 λ_ _=>.aB w6 λ_ _=>Tot.bF (λ_=>.aq ?_) (λ_=>.aB w4 λ_ _=>Tot.bF (λ_=>?_) (λ_=>.aq ?_))
    ·show j+1<=s.size; omega
    ·refine Tot.aB (Ξ:=λ_=>True) ?_ λc _=>Tot.bF (λ_=>.aq ?_) (λ_=>.aq ?_)
     ·refine Tot.br (λaI=>?_) (λ_=>.aq trivial);exact .aB (Ξ:=λ_=>True) (Tot.n' ⟨by omega,aI⟩ trivial) λ_ _=>.aq trivial
     ·show (-1:Int)<=s.size; omega
     ·show (0:Int)<=j+1+1/\j<j+1+1/\j+1+1<=s.size+1; omega
    ·show (0:Int)<=j+1/\j<j+1/\j+1<=s.size+1; omega
  ·rcases x with _ | r
   ·exact .aq (by show (-1:Int)<=s.size; omega)
   ·exact .aq J
 ·refine .aB w6 λ_ _=>Tot.bF (λ_=>?_) (λ_=>?_)
  ·refine Tot.aB (Ξ:=hK (λ_=>True) (λr=>r<=s.size)) ?_ λx J=>?_
   ·refine Tot.count (λj=>j) (s.size+1) (λj=>0<=j) (by show (0:Int)<=i+1; omega) (by show (s.size:Int)+1 - (i+1)<_; omega) λj ah=>?_;refine Tot.br (λaf=>?_) (λ_=>.aq trivial);have fO:aL (j+1)=j+1:=by rw [cJ]; omega
    rw [fO];refine .aB (Ξ:=λ_=>True) (Tot.n' ⟨ah,af⟩ trivial) λ_ _=>Tot.bF (λ_=>.aq ?_) (λ_=>.aq ?_)
    ·show j+1<=s.size; omega
    ·show (0:Int)<=j+1/\j<j+1/\j+1<=s.size+1; omega
   ·rcases x with _ | r
    ·exact .aq (by show (-1:Int)<=s.size; omega)
    ·exact .aq J
  ·refine .aB (t152 s i _ h aR (by simp only [dK]; omega) (by decide)) λc _=>Tot.bF (λ_=>?_) (λ_=>?_)
   ·refine Tot.aB (Ξ:=λr=>r<=s.size) ?_ λx J=>.aq J;refine Tot.count (λj=>j) s.size (λj=>0<=j/\j<=s.size) ⟨aR,by omega⟩ (by show (s.size:Int) - i<_; omega) λj ah=>?_;refine Tot.aB (Ξ:=λc=>c=true->j<s.size) ?_ λc aa=>Tot.bF (λaf=>?_) (λ_=>.aq ah.2)
    ·refine Tot.br (λaf=>?_) (λ_=>.aq λh=>by cases h);exact .aB (Ξ:=λ_=>True) (Tot.n' ⟨ah.1,af⟩ trivial) λ_ _=>.aq λ_=>af
    ·have:=aa af;have fO:aL (j+1)=j+1:=by rw [cJ]; omega
     rw [fO];exact .aq (by show ((0:Int)<=j+1/\j+1<=s.size)/\j<j+1/\j+1<=s.size; omega)
   ·refine .aB (t152 s i _ h aR (by simp only [dK]; omega) (by decide)) λc aa=>Tot.bF (λim=>?_) (λ_=>.aq (by omega));refine Tot.aB (Ξ:=hK (λ_=>True) (λr=>r<=s.size)) ?_ λx J=>?_
    ·refine Tot.count (λj=>j) (s.size+1) (λj=>0<=j) (by show (0:Int)<=i+2; omega) (by show (s.size:Int)+1 - (i+2)<_; omega) λj ah=>?_;refine Tot.br (λaf=>?_) (λ_=>.aq trivial);have fO:aL (j+1)=j+1:=by rw [cJ]; omega
     have mR:aL (j+2)=j+2:=by rw [cJ]; omega
     rw [fO,mR];refine .aB (t152 s j _ h ah (by simp only [dK]; omega) (by decide)) λc aa=>Tot.bF (λtX=>.aq ?_) (λ_=>.aq ?_)
     ·have:=aa tX;have rT:(⟨#[42,47]⟩:ByteArray).size=2:=rfl;rw [rT] at this;show j+2<=s.size; omega
     ·show (0:Int)<=j+1/\j<j+1/\j+1<=s.size+1; omega
    ·rcases x with _ | r
     ·exact .aq (by show (-1:Int)<=s.size; omega)
     ·exact .aq J
theorem t146 (s:ByteArray) (h:s.size<=dK):Tot (z6 s 0) λ_=>True:=by
 unfold z6;have av:(s.size:Int)<=1000000000000:=by simp only [dK] at h; omega
 refine Tot.aB (Ξ:=λ_=>True) ?_ λc _=>Tot.bF (λ_=>.aq trivial) (λ_=>?_)
 ·refine Tot.br (λh=>.aq trivial) (λaR=>Tot.br (λh=>.aq trivial) (λaf=>?_));exact .aB (Ξ:=λ_=>True) (Tot.n' (by omega) trivial) λ_ _=>.aq trivial
 ·refine Tot.aB (Ξ:=λ_=>True) ?_ λx _=>by rcases x with _ | r <;> exact .aq trivial
  refine Tot.count (λj=>j.2) s.size (λj=>0<=j.2/\j.2<=s.size) ⟨by show (0:Int)<=0; omega,by show (0:Int)<=s.size; omega⟩ (by show (s.size:Int) - 0<_; omega) λj ah=>?_;refine Tot.br (λaf=>?_) (λ_=>.aq trivial);refine .aB (t151 s j.2 h ah.1 af) λn aF=>Tot.br (λ_=>.aq trivial) (λaI=>Tot.br (λbK=>.aq ?_) (λbK=>?_))
  ·show ((0:Int)<=n/\n<=s.size)/\j.2<n/\n<=s.size; omega
  ·have w6:=Tot.n' (Φ:=λ_=>True) (s:=s) (m:=j.2) ⟨ah.1,af⟩ trivial;have fO:aL (j.2+1)=j.2+1:=by rw [cJ]; omega
   rw [fO];refine .aB w6 λ_ _=>.aB (Ξ:=λ_=>True) (Tot.bF (λ_=>.aq trivial) (λ_=>.aq trivial)) λ_ _=>.aB w6 λ_ _=>.aB (Ξ:=λ_=>True) (Tot.bF (λ_=>.aq trivial) (λ_=>.aq trivial)) λ_ _=>Tot.bF (λ_=>.aq trivial) (λ_=>.aq ?_);show ((0:Int)<=j.2+1/\j.2+1<=s.size)/\j.2<j.2+1/\j.2+1<=s.size; omega
def l0 (x:Sym):Prop:=x.Lit=true->x.Name.size=1
structure GD (d:Decl):Prop where
 tag:d.Tag.size<=dK
 n:d.eM.length<=1000
 syms:∀ x∈d.eM,x.Name.size<=dK
structure wk (a:Alt):Prop where
 n:a.ht.length<=1000
 parts:∀ p∈a.ht,p.Sym.Name.size<=dK/\p.Code.size<=dK
 prec:a.Prec.Name.size<=dK
structure Li (r:fk):Prop where
 left:r.Left.size<=dK
 n:r.eL.length<=1000
 alts:∀ a∈r.eL,wk a
structure rO (s:Source):Prop where
 XS:s.cC.size<=dK
 za:s.Decls.length<=1000
 decls:∀ d∈s.Decls,GD d
 aH:s.dG.length<=1000
 rules:∀ r∈s.dG,Li r
theorem t143 (x:Sym) (a b:Bool) (h:x.Name.size<=dK):Tot (uw x a b) λr=>r=true->l0 x:=by
 unfold uw;refine Tot.bF (λak=>?_) (λak=>?_)
 ·refine Tot.aB (Ξ:=λc=>c=false->x.Name.size=1) ?_ λc aa=>Tot.bF (λ_=>.aq λh=>by cases h) (λaf=>?_)
  ·refine Tot.bF (λ_=>.aq λh=>by cases h) (λ_=>Tot.qg (λ_=>.aq λh=>by cases h) (λh1=>.aq λ_=>by omega))
  ·have h1:=aa af;refine .aB (Ξ:=λ_=>True) (Tot.n' (by omega) trivial) λ_ _=>.aB (t148 _) λ_ _=>.aq λ_ _=>h1
 ·have dd:l0 x:=λh=>by rw [ak] at h; cases h
  refine Tot.aB (Ξ:=λ_=>True) ?_ λc aa=>.aq λ_=>dd;refine .aB (t134 _ h) λc _=>?_
  repeat' first | refine Tot.bF (λ_=>?_) (λ_=>?_) | exact Tot.aq trivial
theorem t133 (d:Decl) (h:GD d):Tot (xT d) λr=>r=true->∀ x∈d.eM,l0 x:=by
 unfold xT;refine Tot.aB (Ξ:=λ_=>True) ?_ λc _=>Tot.bF (λ_=>.aq λh=>by cases h) (λ_=>?_)
 ·have aw:=(t134 _ h.tag).use (Φ:=λ_=>True) λ_ _=>trivial
  repeat' first | refine Tot.bF (λ_=>?_) (λ_=>?_) | exact Tot.aq trivial | refine .aB aw λ_ _=>?_
 ·refine Tot.aB (Tot.scan d.eM (λx=>l0 x) (λr=>r=false) (by have:=h.n; omega) (λs y aR h1 hi hm=>?_) (λs aC=>by simp [aC])) λx J=>?_
  ·refine Tot.br (λ_=>?_) (λh=>absurd h1 h);rw [hi];refine Tot.aV ?_;refine .aB (t143 _ _ _ (h.syms _ hm)) λc aa=>Tot.bF (λ_=>.aq rfl) (λaf=>.aq ⟨?_,aa (by simpa using af)⟩);have:=h.n;rw [cJ]; omega
  ·rcases x with _ | r
   ·exact .aq λ_=>J
   ·exact .aq λh=>by have:r=false:=J; rw [this] at h; cases h
theorem t135 (a:Alt) (h:wk a):Tot (xU a) λr=>r=true->(∀ p∈a.ht,l0 p.Sym)/\l0 a.Prec:=by
 unfold xU;refine Tot.aB (Tot.scan a.ht (λp=>l0 p.Sym) (λr=>r=false) (by have:=h.n; omega) (λs y aR h1 hi hm=>?_) (λs aC=>by simp [aC])) λx J=>?_
 ·refine Tot.br (λ_=>?_) (λh=>absurd h1 h);rw [hi];refine Tot.aV ?_;have au:=h.parts _ hm;have t1:=t143 y.Sym false true au.1;have t2:=t145 y.Sym;have Qi:=t146 y.Code au.2;have hw:aL (s+1)=s+1:=by have:=h.n; rw [cJ]; omega
  rw [hw];have n118:(y.Sym.Name=⟨#[]⟩/\y.Sym.Lit=false)->l0 y.Sym:=λh ak=>by rw [h.2] at ak; cases ak
  refine Tot.aB (Ξ:=λc=>c=false->l0 y.Sym) ?_ λc aa=>Tot.bF (λ_=>.aq rfl) (λaf=>.aq ⟨rfl,aa af⟩);refine Tot.br (λ_=>?_) (λdq=>?_)
  ·refine .aB t1 λc aa=>Tot.bF (λ_=>.aq λh=>by cases h) (λaf=>?_);have dd:=aa (by simpa using af);refine Tot.bF (λ_=>?_) (λ_=>.aq λ_=>dd);refine .aB t2 λc _=>Tot.bF (λ_=>.aq λ_=>dd) (λ_=>?_);exact .aB Qi λ_ _=>.aq λ_=>dd
  ·refine Tot.qg (λ_=>?_) (λh=>.aq λ_=>?_)
   ·refine .aB t2 λc aa=>Tot.bF (λ_=>.aq λh=>by cases h) (λaf=>?_);have dd:=n118 (aa (by simpa using af));exact .aB Qi λ_ _=>.aq λ_=>dd
   ·exact absurd h dq
 ·rcases x with _ | r
  ·have J:∀ p∈a.ht,l0 p.Sym:=J;refine Tot.aB (Ξ:=λc=>c=true->l0 a.Prec) ?_ λc aa=>.aq λh=>⟨J,aa h⟩;refine .aB (t145 _) λc aa=>Tot.bF (λaf=>.aq λ_=>?_) (λ_=>.aB (t143 _ _ _ h.prec) λc aa=>.aq aa);intro ak; rw [(aa af).2] at ak; cases ak
  ·exact .aq λh=>by have:r=false:=J; rw [this] at h; cases h
structure DK (a:Alt):Prop where
 parts:∀ p∈a.ht,l0 p.Sym
 prec:l0 a.Prec
structure Ll (s:Source):Prop where
 decls:∀ d∈s.Decls,∀ x∈d.eM,l0 x
 rules:∀ r∈s.dG,∀ a∈r.eL,DK a
 pos:0<s.dG.length
theorem t103 (s:Source) (h:rO s):Tot (xR s) λr=>r=true->Ll s:=by
 unfold xR;refine Tot.aB (Ξ:=hK (λ_=>True) (λr=>r=false)) ?_ λx J=>?_
 ·have au:(s.cC.size:Int)<=1000000000000:=by have:=h.XS; simp only [dK] at this; omega
  refine Tot.count (λj=>j) s.cC.size (λj=>0<=j/\j<=s.cC.size) ⟨by omega,by omega⟩ (by show (s.cC.size:Int) - 0<_; omega) λj ah=>?_;have cz:aL (j+1)=j+1:=by rw [cJ]; omega
  have cf:aL (j+2)=j+2:=by rw [cJ]; omega
  rw [cz,cf];refine Tot.br (λaf=>?_) (λ_=>.aq trivial);refine .aB (Ξ:=λ_=>True) (Tot.cut (by omega) trivial) λ_ _=>Tot.bF (λ_=>.aq rfl) (λ_=>.aq ?_);show ((0:Int)<=j+1/\j+1<=s.cC.size)/\j<j+1/\j+1<=s.cC.size; omega
 ·rcases x with _ | r
  ·refine Tot.aB (Tot.scan s.Decls (λd=>∀ x∈d.eM,l0 x) (λr=>r=false) (by have:=h.za; omega) (λi y aR h1 hi hm=>?_) (λs aC=>by simp [aC])) λx J=>?_
   ·refine Tot.br (λ_=>?_) (λh=>absurd h1 h);rw [hi];refine Tot.aV ?_;refine .aB (t133 _ (h.decls _ hm)) λc aa=>Tot.bF (λ_=>.aq rfl) (λaf=>.aq ⟨?_,aa (by simpa using af)⟩);have:=h.za;rw [cJ]; omega
   ·rcases x with _ | r
    ·have J:∀ d∈s.Decls,∀ x∈d.eM,l0 x:=J;refine Tot.aB (Tot.scan s.dG (λr=>∀ a∈r.eL,DK a) (λr=>r=false) (by have:=h.aH; omega) (λi y aR h1 hi hm=>?_) (λs aC=>by simp [aC])) λx iu=>?_
     ·refine Tot.br (λ_=>?_) (λh=>absurd h1 h);rw [hi];refine Tot.aV ?_;have ao:=h.rules _ hm;have hw:aL (i+1)=i+1:=by have:=h.aH; rw [cJ]; omega
      rw [hw];refine .aB (Ξ:=λ_=>True) (.aB (t134 _ ao.left) λc _=>Tot.bF (λ_=>.aq trivial) (λ_=>.aq trivial)) λc _=>Tot.bF (λ_=>.aq rfl) (λ_=>?_);refine Tot.aB (Tot.scan y.eL DK (λr=>r=false) (by have:=ao.n; omega) (λk a aR h1 hi hm=>?_) (λs aC=>by simp [aC])) λx js=>?_
      ·refine Tot.br (λ_=>?_) (λh=>absurd h1 h);rw [hi];refine Tot.aV ?_;refine .aB (t135 _ (ao.alts _ hm)) λc aa=>Tot.bF (λ_=>.aq rfl) (λaf=>.aq ⟨?_,⟨(aa (by simpa using af)).1,(aa (by simpa using af)).2⟩⟩);have:=ao.n;rw [cJ]; omega
      ·rcases x with _ | r
       ·exact .aq ⟨rfl,js⟩
       ·exact .aq js
     ·rcases x with _ | r
      ·exact .aq λh=>⟨J,iu,by have:=of_decide_eq_true h; omega⟩
      ·exact .aq λh=>by have:r=false:=iu; rw [this] at h; cases h
    ·exact .aq λh=>by have:r=false:=J; rw [this] at h; cases h
  ·exact .aq λh=>by have:r=false:=J; rw [this] at h; cases h
abbrev fJ:=dv
structure rN (m m':fJ):Prop where
 g:m'.aG=m.aG
 gF:m'.cu=m.cu
 ty:m'.cL=m.cL
 fz:m'.cb=m.cb
 jw:m'.ct=m.ct
 hz:m'.b_=m.b_
theorem t105 (m:fJ) (a:Int) (n:ByteArray):Tot (nV m a n) λm'=>rN m m'/\m'.c3≠0:=by
 unfold nV;apply Tot.bi;refine Tot.br (λ_=>.aq (.aq ⟨⟨rfl,rfl,rfl,rfl,rfl,rfl⟩,?_⟩)) (λh=>.aq (.aq ⟨⟨rfl,rfl,rfl,rfl,rfl,rfl⟩,h⟩))
 grind
theorem t109 (m:fJ) (n:ByteArray) (h:m.cL.length<=dK):Tot (zW m n) λr=>r=-1\/(0<=r/\r<m.cL.length):=by
 unfold zW;simp only [dK] at h;refine Tot.aB (Tot.scan m.cL (λ_=>True) (λr:Int=>0<=r/\r<m.cL.length) (by omega) (λs y aR h1 hi hm=>?_) (λs aC=>by simp [aC])) λx J=>?_
 ·refine Tot.br (λ_=>?_) (λh=>absurd h1 h);rw [hi];refine Tot.aV ?_;refine Tot.bF (λ_=>.aq ⟨aR,h1⟩) (λ_=>.aq ⟨?_,trivial⟩)
  grind [cJ]
 ·rcases x with _ | r
  ·exact .aq (.inl rfl)
  ·exact .aq (.inr J)
theorem t107 (m:fJ) (n:ByteArray) (h:m.cb.length<=dK):Tot (s6 m n) λr=>(r=-1/\∀ x∈m.cb,x≠n)\/(0<=r/\r<m.cb.length/\m.cb[r.toNat]?=some n):=by
 unfold s6;simp only [dK] at h;refine Tot.aB (Tot.scan m.cb (λx=>x≠n) (λr:Int=>0<=r/\r<m.cb.length/\m.cb[r.toNat]?=some n) (by omega) (λs y aR h1 hi hm=>?_) (λs aC=>by simp [aC])) λx J=>?_
 ·refine Tot.br (λ_=>?_) (λh=>absurd h1 h);rw [hi];refine Tot.aV ?_;refine Tot.br (λe=>.aq ⟨aR,h1,by rw [<- e]; exact (pL hi).2.2⟩) (λe=>.aq ⟨?_,e⟩)
  grind [cJ]
 ·rcases x with _ | r
  ·exact .aq (.inl ⟨rfl,J⟩)
  ·exact .aq (.inr J)
theorem t106 (m:fJ) (x:Sym) (h:m.aG.ba.length<=dK):Tot (uv m x) λr=>r=-1\/(1<=r/\r<m.aG.ba.length):=by
 unfold uv;simp only [dK] at h;refine Tot.aB (Ξ:=hK (λ_=>True) (λr=>1<=r/\r<m.aG.ba.length)) ?_ λx J=>?_
 ·refine Tot.count (λj=>j) m.aG.ba.length (λj=>1<=j) (by omega) (by show (m.aG.ba.length:Int) - 1<_; omega) λj ah=>?_;refine Tot.br (λaf=>?_) (λ_=>.aq trivial);have e:aL (j+1)=j+1:=by rw [cJ]; omega
  rw [e];refine .aB (Ξ:=λ_=>True) ?_ λc _=>Tot.bF (λ_=>.aq ⟨ah,af⟩) (λ_=>.aq ?_)
  ·refine .aB (Ξ:=λ_=>True) (Tot.hj (by omega) af λ_ _ _=>trivial) λ_ _=>Tot.bF (λ_=>?_) (λ_=>.aq trivial);exact .aB (Ξ:=λ_=>True) (Tot.hj (by omega) af λ_ _ _=>trivial) λ_ _=>Tot.bF (λ_=>.aq trivial) (λ_=>.aq trivial)
  grind
 ·rcases x with _ | r
  ·exact .aq (.inl rfl)
  ·exact .aq (.inr J)
theorem t137 (m:fJ) (n:Int) (h:m.aG.ba.length<=dK):Tot (vP m n) λ_=>True:=by
 unfold vP;simp only [dK] at h;refine Tot.aB (Ξ:=λ_=>True) ?_ λx J=>?_
 ·refine Tot.count (λj=>j) m.aG.ba.length (λj=>1<=j) (by decide) (by show (m.aG.ba.length:Int) - 3<_; omega) λj ah=>?_;refine Tot.br (λaf=>?_) (λ_=>.aq trivial);have e:aL (j+1)=j+1:=by rw [cJ]; omega
  rw [e];refine .aB (Ξ:=λ_=>True) (Tot.hj (by omega) af λ_ _ _=>trivial) λc _=>Tot.bF (λ_=>.aq trivial) (λ_=>.aq ?_)
  grind
 ·rcases x with _ | r <;> exact .aq trivial
structure Grow (m m':fJ) (k:Nat):Prop where
 gF:m'.cu.length=m'.aG.ba.length
 lo:m.aG.ba.length<=m'.aG.ba.length
 hi:m'.aG.ba.length<=m.aG.ba.length+k
 ty:m'.cL.length<=m.cL.length+k
 fz:m'.cb=m.cb
 hq:m'.aG.bj=m.aG.bj
 hz:m'.b_=m.b_
 lvl:m'.ct=m.ct
 jw:0<=m.ct->(∀ t∈m.aG.ba,0<=t.Level)->∀ t∈m'.aG.ba,0<=t.Level
theorem rN.grow {m m':fJ}(h:rN m m') (aO:m.cu.length=m.aG.ba.length) (k:Nat):Grow m m' k:=by
 obtain ⟨h1,af,aI,bK,cH,ei⟩:=h;exact ⟨by rw [h1,af]; exact aO,by rw [h1]; omega,by rw [h1]; omega,by rw [aI]; omega,bK,by rw [h1],ei,cH,by rw [h1]; exact λ_ h=>h⟩
theorem t136 (m:fJ) (x:Sym) (aO:m.cu.length=m.aG.ba.length) (h:m.aG.ba.length<=100000000000) (J:l0 x) :
  Tot (vO m x) λr=>Grow m r.2 1/\0<=r.1/\r.1<r.2.aG.ba.length:=by
 unfold vO;refine .aB (t106 m x (by simp only [dK]; omega)) λt aw=>Tot.br (λaR=>.aq ⟨⟨aO,Nat.le_refl _,Nat.le_succ _,Nat.le_succ _,rfl,rfl,rfl,rfl,λ_ h=>h⟩,aR,?_⟩) (λ_=>?_)
 ·grind
 ·refine Tot.aB (Ξ:=λj=>rN m j.1) ?_ λj ah=>?_
  ·refine Tot.bF (λak=>?_) (λ_=>.aq ⟨rfl,rfl,rfl,rfl,rfl,rfl⟩);have:=J ak;refine .aB (Ξ:=λ_=>True) (Tot.n' (by omega) trivial) λb _=>.aB (t137 m _ (by simp only [dK]; omega)) λo _=>?_;refine Tot.aB (Ξ:=λj=>rN m j) ?_ λj ah=>.aq ah;exact Tot.bF (λ_=>.aB (t105 m _ _) λm' hm=>.aq hm.1) (λ_=>.aq ⟨rfl,rfl,rfl,rfl,rfl,rfl⟩)
  ·obtain ⟨h1,af,aI,bK,cH,ei⟩:=ah;have aT:j.1.aG.ba.length=m.aG.ba.length:=by rw [h1]
   have Vu:j.1.cu.length=m.cu.length:=by rw [af]
   refine .aB (Ξ:=λ_=>True) (Tot.ap (by rw [aT]; simp [lim]; omega) trivial) λ_ _=>.aB (Ξ:=λ_=>True) (Tot.ap (by rw [Vu]; simp [lim]; omega) trivial) λ_ _=>.aq ?_;refine ⟨⟨?_,?_,?_,?_,bK,by show j.1.aG.bj=_; rw [h1],ei,cH,?_⟩,?_,?_⟩
   all_goals grind [cJ]
structure n5 (m m':fJ):Prop where
 tk:m'.aG.ba.length=m.aG.ba.length
 gF:m'.cu.length=m.cu.length
 ty:m'.cL=m.cL
 fz:m'.cb=m.cb
 hq:m'.aG.bj=m.aG.bj
 hz:m'.b_=m.b_
 lvl:m'.ct=m.ct
 jw:0<=m.ct->(∀ t∈m.aG.ba,0<=t.Level)->∀ t∈m'.aG.ba,0<=t.Level
theorem n5.refl (m:fJ):n5 m m:=⟨rfl,rfl,rfl,rfl,rfl,rfl,rfl,λ_ h=>h⟩
theorem n5.trans {m m' Cz:fJ}(h:n5 m m') (aQ:n5 m' Cz):n5 m Cz:=⟨aQ.tk.trans h.tk,aQ.gF.trans h.gF,aQ.ty.trans h.ty,aQ.fz.trans h.fz,aQ.hq.trans h.hq,aQ.hz.trans h.hz,aQ.lvl.trans h.lvl,λaR ak=>aQ.jw (by rw [h.lvl]; exact aR) (h.jw aR ak)⟩
theorem rN.tk {m m':fJ}(h:rN m m'):n5 m m':=⟨by rw [h.g],by rw [h.gF],h.ty,h.fz,by rw [h.g],h.hz,h.jw,by rw [h.g]; exact λ_ h=>h⟩
theorem Grow.tk {m m' Cz:fJ}{k:Nat}(h:Grow m m' k) (aQ:n5 m' Cz):Grow m Cz k :=
 ⟨by rw [aQ.gF,aQ.tk]; exact h.gF,by rw [aQ.tk]; exact h.lo,by rw [aQ.tk]; exact h.hi,by rw [aQ.ty]; exact h.ty,aQ.fz.trans h.fz,aQ.hq.trans h.hq,aQ.hz.trans h.hz,aQ.lvl.trans h.lvl,λaR ak=>aQ.jw (by rw [h.lvl]; exact aR) (h.jw aR ak)⟩
theorem ON {α:Type}{l:List α}{i:Nat}{x y:α}(h:y∈l.set i x):y∈l\/y=x:=List.mem_or_eq_of_mem_set h
theorem t104 (m:fJ) (d:Decl) (x:Sym) (aO:m.cu.length=m.aG.ba.length) (h:m.aG.ba.length<=100000000000) (aw:m.cL.length<=100000000000) (J:l0 x) :
  Tot (vK m d x) λm'=>Grow m m' 1:=by
 unfold vK;refine Tot.bF (λ_=>?_) (λ_=>?_)
 ·refine .aB (t109 m x.Name (by simp only [dK]; omega)) λk hk=>Tot.aB (Ξ:=λm'=>Grow m m' 1) ?_ λm' hm=>.aq hm;refine Tot.br (λ_=>?_) (λaR=>?_)
  ·refine .aB (Ξ:=λ_=>True) (Tot.ap (by simp [lim]; omega) trivial) λ_ _=>.aq ⟨aO,Nat.le_refl _,Nat.le_succ _,?_,rfl,rfl,rfl,rfl,λ_ h=>h⟩
   grind
  ·refine .aB (Ξ:=λ_=>True) (Tot.hj (by omega) (by omega) λ_ _ _=>trivial) λ_ _=>Tot.aB (Ξ:=λm'=>Grow m m' 1) ?_ λm' hm=>.aq hm;exact Tot.bF (λ_=>.aB (t105 m _ _) λm' hm=>.aq (hm.1.grow aO 1)) (λ_=>.aq ⟨aO,Nat.le_refl _,Nat.le_succ _,Nat.le_succ _,rfl,rfl,rfl,rfl,λ_ h=>h⟩)
 ·refine .aB (t136 m x aO h J) λr ⟨ao,aR,h1⟩=>?_;have hj:∀ {m':fJ},n5 r.2 m'->Tot (idx m'.aG.ba r.1) λy=>y∈m'.aG.ba:=λhm=>Tot.hj aR (by rw [hm.tk]; exact h1) λ_ _ h=>h;have OB:∀ {m':fJ},n5 r.2 m'->Tot (idx m'.cu r.1) λ_=>True:=λhm=>Tot.hj aR (by rw [hm.gF,ao.gF]; exact h1) λ_ _ _=>trivial;refine .aB (hj (.refl _)) λy _=>?_;refine Tot.aB (Ξ:=λm'=>n5 r.2 m') ?_ λeO q'=>?_
  ·refine Tot.bF (λ_=>?_) (λ_=>.aq (.refl _));refine Tot.aB (Ξ:=λm'=>n5 r.2 m') ?_ λde sH=>?_
   ·exact Tot.bF (λ_=>.aB (t105 r.2 _ _) λm' hm=>.aq ⟨rfl,hm.1.tk.gF,hm.1.tk.ty,hm.1.tk.fz,hm.1.tk.hq,hm.1.tk.hz,hm.1.tk.lvl,λ_ h=>h⟩) (λ_=>.aq (.refl _))
   ·refine .aB (hj sH) λ_ _=>.aq (sH.trans ⟨?_,rfl,rfl,rfl,rfl,rfl,rfl,λak aw t bY=>?_⟩)
    ·grind
    grind
  ·refine .aB (hj q') λ_ _=>?_;refine Tot.aB (Ξ:=λm'=>n5 r.2 m') ?_ λfc u7=>?_
   ·refine Tot.bF (λ_=>?_) (λ_=>.aq q');refine .aB (Ξ:=λ_=>True) ?_ λc _=>?_
    ·refine Tot.bF (λ_=>.aq trivial) (λ_=>.aB (OB q') λ_ _=>Tot.bF (λ_=>.aq trivial) (λ_=>.aB (t137 eO _ ?_) λ_ _=>.aq trivial));have:=q'.tk;have:=ao.hi
     grind
    ·refine Tot.aB (Ξ:=λm'=>n5 r.2 m') ?_ λdZ rW=>?_
     ·exact Tot.bF (λ_=>.aB (t105 eO _ _) λm' hm=>.aq (q'.trans ⟨rfl,hm.1.tk.gF,hm.1.tk.ty,hm.1.tk.fz,hm.1.tk.hq,hm.1.tk.hz,hm.1.tk.lvl,λ_ h=>h⟩)) (λ_=>.aq q')
     ·refine .aB (hj rW) λy ax=>.aB (OB rW) λ_ _=>.aq (rW.trans ⟨?_,?_,rfl,rfl,rfl,rfl,rfl,λak aw t bY=>?_⟩)
      all_goals grind
   ·refine .aB (hj u7) λ_ _=>?_;refine Tot.aB (Ξ:=λm'=>n5 r.2 m') ?_ λpM HL=>.aq (ao.tk HL);refine Tot.bF (λ_=>?_) (λ_=>.aq u7);refine .aB (Ξ:=λ_=>True) (Tot.bF (λ_=>.aq trivial) (λ_=>.aq trivial)) λc _=>?_;refine Tot.aB (Ξ:=λm'=>n5 r.2 m') ?_ λnf Br=>?_
    ·exact Tot.bF (λ_=>.aB (t105 fc _ _) λm' hm=>.aq (u7.trans ⟨rfl,hm.1.tk.gF,hm.1.tk.ty,hm.1.tk.fz,hm.1.tk.hq,hm.1.tk.hz,hm.1.tk.lvl,λ_ h=>h⟩)) (λ_=>.aq u7)
    ·refine .aB (hj Br) λy ax=>.aq (Br.trans ⟨?_,rfl,rfl,rfl,rfl,rfl,rfl,λak aw t bY=>?_⟩)
     ·grind
     grind
def q2 (T:Nat) (N:Int) (s:Int):Prop:=(0<=s/\s<T)\/(1000<=s/\s<=1000+N)
theorem q2.mono {T T':Nat}{N iZ s:Int}(h:q2 T N s) (dL:T<=T') (bc:N<=iZ):q2 T' iZ s:=by
 rcases h with h | h
 ·exact .inl (by omega)
 ·exact .inr (by omega)
theorem t138 (m:fJ) (x:Sym) (aO:m.cu.length=m.aG.ba.length) (aI:3<=m.aG.ba.length) (h:m.aG.ba.length<=100000000000) (ak:m.cb.length<=100000000000) (J:l0 x) :
  Tot (s8 m x) λr=>Grow m r.2 1/\q2 r.2.aG.ba.length m.cb.length r.1:=by
 unfold s8;have r4:Grow m m 1:=⟨aO,Nat.le_refl _,Nat.le_succ _,Nat.le_succ _,rfl,rfl,rfl,rfl,λ_ h=>h⟩;refine Tot.bF (λ_=>?_) (λ_=>?_)
 ·exact .aB (t136 m x aO h J) λr ⟨ao,aR,h1⟩=>.aq ⟨ao,.inl ⟨aR,h1⟩⟩
 ·refine .aB (t107 m x.Name (by simp only [dK]; omega)) λk hk=>Tot.br (λaR=>.aq ⟨r4,.inr ?_⟩) (λ_=>?_)
  ·grind [cJ]
  ·refine .aB (t106 m x (by simp only [dK]; omega)) λt aw=>Tot.br (λ_=>?_) (λaR=>.aq ⟨r4,.inl ?_⟩)
   ·refine .aB (t105 m _ _) λm' hm=>.aq ⟨hm.1.grow aO 1,.inl ⟨Int.le_refl 0,?_⟩⟩;show (0:Int)<(m'.aG.ba.length:Int);rw [hm.1.g];omega
   grind
end Go.Proofs
