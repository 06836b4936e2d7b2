/-
  Parts of the proof that the last text states. No condition of their own.
-/
import Derived.ChangeAt
import Derived.ChangeOld
import Derived.ChangeSame
import Derived.Deep.Draws
import Derived.Deep.LoopGhost
import Derived.Deep.Slices
import Derived.Ground.SlsfProg
import Derived.KernelRfl
import Derived.Laws.CopyRow
import Derived.Laws.Externs
import Derived.Lib.SliceRun
import Derived.Lib.SlicesCompact
import Derived.Lib.Walk
import Derived.Maps.OwnIn
import Derived.ReadAgain
import Derived.RowKit3
import Derived.Shelf.RegionOpenPlain
import Derived.Shelf.SlGeneric
import Derived.Shelf.SlLaysQ
import Derived.Shelf.SlSortCmp.NoneTotal
import Derived.Shelf.SlicesE.Kit
import Derived.Shelf.SlicesQ.Load
import Derived.Sort.WalkB12
import Derived.StringKeys
import Derived.Test.YtdhblbniiokpmaaGreatRows
import Derived.WalkKit
import Derived.WideShapes
import Derived.Test.YtdhblbniiokpmaaGreatE2
namespace Go.Own
open Go Go.RowKit Go.ChangeShapes Go.WideShapes Go.Deep
variable {α β K1:Type}{P:Program}
abbrev tj (w:World) (y:ab) (u:Value):Prop:=R w (λb=>b<w.heap.size) (λ_ _=>False) y u (λ_=>False)
def mM (w:World) (ys:List ab) (cs:List Value):Prop :=
 ys.length=cs.length/\∀ (k:Nat) (y:ab) (u:Value),ys[k]?=some y->cs[k]?=some u->u.oneCell'=true/\tj w y u
theorem mM.nil {w:World}:mM w [] []:=⟨rfl,λ_ _ _ h=>by simp at h⟩
theorem mM.one {w:World}{y:ab}{u:Value}(h1:u.oneCell'=true) (h:tj w y u):mM w [y] [u] :=
 ⟨rfl,λk y' v' ax hu=>by
  cases k with
  | zero=>simp at ax hu; subst ax hu; exact ⟨h1,h⟩
  | succ k=>simp at ax⟩
theorem mM.app {w:World}{ys yw:List ab}{cs jH:List Value}(h:mM w ys cs) (af:mM w yw jH):mM w (ys++yw) (cs++jH):=by
 refine ⟨by simp [h.1,af.1],λk y u ax hu=>?_⟩;by_cases hk:k<ys.length
 ·rw [List.getElem?_append_left hk] at ax;rw [List.getElem?_append_left (h.1 ▸ hk)] at hu;exact h.2 k y u ax hu
 ·rw [List.getElem?_append_right (by omega)] at ax;rw [List.getElem?_append_right (by have:=h.1; omega),<- h.1] at hu;exact af.2 _ y u ax hu
structure lr (P:Program) (e:bJ α) (t:TypeId) (ok:α->Prop):Prop where
 z:P.cellsOf t=e.z
 go:∀ {H:Type}{enc:TypeId × Value->H}{w:World}{n:Nat}{cs:List Value}{x:DataW H × List MemPlace},
  DataW.trod enc P w 0 (λ_=>true) true n t cs=some x->∃ a,ok a/\mM w (e.cells a) cs
theorem lr.int {e:bJ Int}{t:TypeId}{k:IntKind}(aw:P.underlying t=some (.int k)) (aY:P.cellsOf t=e.z) (he:∀ n,e.cells n=[.lit (.int k n)]) :
  lr P e t (λn=>(Lit.int k n).wf=true):=by
 refine ⟨aY,λh=>?_⟩;obtain ⟨n,rfl,_,hw⟩:=DataW.trod_int aw h;exact ⟨n,hw,he n ▸ mM.one rfl (.lit rfl λ_ h=>h)⟩
theorem lr.bool {e:bJ Bool}{t:TypeId}(aw:P.underlying t=some .bool) (aY:P.cellsOf t=e.z) (he:∀ n,e.cells n=[.lit (.bool n)]) :
  lr P e t (λ_=>True):=by
 refine ⟨aY,λh=>?_⟩;obtain ⟨n,rfl,_⟩:=DataW.trod_bool aw h;exact ⟨n,trivial,he n ▸ mM.one rfl (.lit rfl λ_ h=>h)⟩
theorem PB (e:bJ α) (aY:0<e.z):∀ (l:List α) (k:Nat) (y:ab),(bp e l)[k]?=some y->∃ a,l[k / e.z]?=some a/\(e.cells a)[k % e.z]?=some y
 | [],k,y,h=>by simp [bp] at h
 | a::l,k,y,h=>by
  have he:bp e (a::l)=e.cells a++bp e l:=by simp [bp]
  rw [he] at h;by_cases hk:k<e.z
  ·rw [List.getElem?_append_left (by rw [e.len]; exact hk)] at h;exact ⟨a,by simp [Nat.div_eq_of_lt hk],by rw [Nat.mod_eq_of_lt hk]; exact h⟩
  ·rw [List.getElem?_append_right (by rw [e.len]; omega),e.len] at h;obtain ⟨b,h1,af⟩:=PB e aY l (k - e.z) y h;have aS:k / e.z=(k - e.z) / e.z+1:=by rw [Nat.div_eq_sub_div aY (by omega)]
   refine ⟨b,by rw [aS]; simpa using h1,?_⟩;rw [Nat.mod_eq_sub_mod (by omega)]; exact af
theorem lr.slice {e:bJ α}{t F4:TypeId}{ok:α->Prop}(h:lr P e F4 ok) (aw:P.underlying t=some (.slice F4)) (aY:P.cellsOf t=1) (sL:0<e.z) :
  lr P (bo e) t (λl=>l.length<=maxLen/\∀ x∈l,ok x):=by
 classical
 refine ⟨aY,λ{H enc w n cs x} ao=>?_⟩;rcases open_slice aw ao with ⟨rfl,rfl⟩ | ⟨a,len,cap,m,cE,D,p8,rfl,av,ak,hm,IE,rfl,J⟩
 ·exact ⟨[],⟨by simp,by simp⟩,mM.one rfl (.hG λ_ h=>h)⟩
 ·have Vx:m=cap:=by simpa using IE
  subst Vx;have hex:∀ i,i<len->∃ q:α × List Value,ok q.1/\mM w (e.cells q.1) q.2/\w.cells? 0 (a.add (i * P.cellsOf F4)) (P.cellsOf F4)=some q.2:=λi hi=>by
   obtain ⟨cs',h1,af⟩:=J i (by omega);obtain ⟨b,nA,gG⟩:=h.go af;exact ⟨(b,cs'),nA,gG,h1⟩
  by_cases aR:len=0
  ·subst aR;exact ⟨[],⟨by simp,by simp⟩,mM.one rfl (.hG λ_ h=>h)⟩
  ·obtain ⟨Db,_⟩:=hex 0 (by omega)
   haveI:Inhabited (α × List Value):=⟨Db⟩
   obtain ⟨f,aW⟩:=choose_lt hex;have hlen:((List.range len).map λi=>(f i).1).length=len:=by simp
   have ob:∀ (i:Nat) (b:α),((List.range len).map λi=>(f i).1)[i]?=some b->i<len/\b=(f i).1:=λi b hi=>by
    have aT:=(List.getElem?_eq_some_iff.1 hi).1;simp at aT;simp [aT] at hi;exact ⟨aT,hi.symm⟩
   have je:a.spot=none/\a.block<w.heap.size:=by
    obtain ⟨_,_,aI⟩:=aW 0 (by omega);obtain ⟨_,IA,cG⟩:=World.cells?_some aI;have eh:=cG 0 (by rw [h.z]; exact sL);simp only [Nat.zero_mul,Addr.add,if_true] at eh;have:0<(f 0).2.length:=by rw [IA,h.z]; exact sL
    rw [List.getElem?_eq_getElem this] at eh;unfold World.cell? at eh
    split at eh
    ·rename_i bY;refine ⟨?_,(Array.getElem?_eq_some_iff.1 bY).1⟩;cases aC:a.spot with
     | none=>rfl
     | some s=>simp [aC] at eh
    ·cases eh
   have key:∀ (k:Nat) (y:ab),(bp e ((List.range len).map λi=>(f i).1))[k]?=some y->∃ u,w.cell? ⟨a.block,a.off+k,none⟩=some u/\u.oneCell'=true/\tj w y u:=λk y hk=>by
    obtain ⟨b,nA,gG⟩:=PB e sL _ k y hk;obtain ⟨hi,rfl⟩:=ob _ _ nA;obtain ⟨_,af,aI⟩:=aW _ hi;obtain ⟨_,IA,cG⟩:=World.cells?_some aI;have NR:k % e.z<e.z:=Nat.mod_lt _ sL;have eh:=cG (k % e.z) (by rw [h.z]; exact NR);rw [Deep.add_add,h.z] at eh;have fX:k / e.z * e.z+k % e.z=k:=by rw [Nat.mul_comm]; exact Nat.div_add_mod k e.z
    rw [fX] at eh;have aT:k % e.z<(f (k / e.z)).2.length:=by rw [IA,h.z]; exact NR
    rw [List.getElem?_eq_getElem aT] at eh;have aP:a.add k=⟨a.block,a.off+k,none⟩:=by
     unfold Addr.add;split
     ·rename_i TA; subst TA; cases a; simp at je ⊢; exact je.1
     ·rfl
    rw [aP] at eh;exact ⟨_,eh,af.2 _ _ _ gG (List.getElem?_eq_getElem aT)⟩
   refine ⟨(List.range len).map λi=>(f i).1,⟨by rw [hlen]; omega,λy ax=>?_⟩,mM.one rfl ?_⟩
   ·obtain ⟨i,hi,rfl⟩:=List.mem_map.1 ax;exact (aW i (List.mem_range.1 hi)).1
   ·show tj w (.bj e.z _ _) _;rw [hlen];refine .bj (us:=λk=>(w.cell? ⟨a.block,a.off+k,none⟩).getD .nilFunc) (λ_ h=>h) ak je.2 je.1 (by rw [nm,hlen]) (λk y hk=>?_) (λk y hk=>?_) (λk y hk=>?_)
    ·obtain ⟨u,h1,af,aI⟩:=key k y hk;simp only [h1,Option.getD_some]; exact af
    ·obtain ⟨u,h1,af,aI⟩:=key k y hk;simp only [h1,Option.getD_some]
    ·obtain ⟨u,h1,af,aI⟩:=key k y hk;simp only [h1,Option.getD_some]; exact aI
def Bo (P:Program):Nat->List Field->List TypeId->Bool
 | _,[],[]=>true
 | off,f::fs,t::ts=>decide (f.type=t)&&decide (f.offset=off)&&Bo P (off+P.cellsOf t) fs ts
 | _,_,_=>false
def Dp (P:Program) (t:TypeId) (ts:List TypeId):Bool :=
 match P.underlying t with
 | some (.struct fs)=>Bo P 0 fs.toList ts&&decide (P.cellsOf t=(ts.map P.cellsOf).sum)
 | _=>false
structure yy (P:Program) (cells:β->List ab) (ts:List TypeId) (ok:β->Prop):Prop where
 go:∀ {H:Type}{enc:TypeId × Value->H}{w:World}{n:Nat}{cs:List Value}{fs:List Field}{off:Nat},Bo P off fs ts=true->cs.length=off+(ts.map P.cellsOf).sum ->
  (∀ (i:Nat) (f:Field),fs[i]?=some f->∃ x,DataW.trod enc P w 0 (λ_=>true) true n f.type ((cs.drop f.offset).take (P.cellsOf f.type))=some x) ->
  ∃ b,ok b/\mM w (cells b) (cs.drop off)
theorem yy.nil:yy P (λ_:Unit=>[]) [] (λ_=>True) :=
 ⟨λ{H enc w n cs fs off} _ ak _=>⟨(),trivial,by rw [List.drop_eq_nil_of_le (by simp at ak; omega)]; exact mM.nil⟩⟩
theorem yy.cons {e:bJ α}{t:TypeId}{ts:List TypeId}{ok:α->Prop}{cells:β->List ab}{O5:β->Prop}(h:lr P e t ok) (ak:yy P cells ts O5) :
  yy P (λp:α × β=>e.cells p.1++cells p.2) (t::ts) (λp=>ok p.1/\O5 p.2):=by
 refine ⟨λ{H enc w n cs fs off} fj hlen ao=>?_⟩;cases fs with
 | nil=>simp [Bo] at fj
 | cons f fs =>
  simp only [Bo,Bool.and_eq_true,decide_eq_true_eq] at fj;obtain ⟨⟨rfl,rfl⟩,fj⟩:=fj;obtain ⟨x,J⟩:=ao 0 f rfl;obtain ⟨a,aP,aZ⟩:=h.go J;obtain ⟨b,av,Um⟩:=ak.go (off:=f.offset+P.cellsOf f.type) (cs:=cs) fj (by rw [hlen]; simp [Nat.add_assoc]) (λi eD vd=>ao (i+1) eD (by simpa using vd));refine ⟨(a,b),⟨aP,av⟩,?_⟩;have:cs.drop f.offset=(cs.drop f.offset).take (P.cellsOf f.type)++cs.drop (f.offset+P.cellsOf f.type):=by
   rw [<- List.drop_drop]; exact (List.take_append_drop _ _).symm
  rw [this];exact aZ.app Um
theorem lr.struct {e:bJ K1}{t:TypeId}{ts:List TypeId}{cells:β->List ab}{ok:β->Prop}(h:yy P cells ts ok) (mk:β->K1) (un:K1->β) (N7:∀ b,un (mk b)=b) (aa:∀ b,e.cells (mk b)=cells b) (aw:Dp P t ts=true) (aY:P.cellsOf t=e.z) :
  lr P e t (λs=>ok (un s)):=by
 refine ⟨aY,λ{H enc w n cs x} ao=>?_⟩;unfold Dp at aw
 split at aw
 ·rename_i fs hu;simp only [Bool.and_eq_true,decide_eq_true_eq] at aw;obtain ⟨xs,cE,rfl,rfl,ak,Jb,J⟩:=DataW.trod_struct hu ao;obtain ⟨b,av,aZ⟩:=h.go (w:=w) (off:=0) (cs:=cs) (fs:=fs.toList) (n:=cE) (enc:=enc) aw.1 (by rw [ak,aw.2]; simp) (λi f aW=>by
   have vd:fs[i]?=some f:=by simpa using aW
   have hi:i<xs.length:=by rw [Jb]; exact (Array.getElem?_eq_some_iff.1 vd).1
   exact ⟨xs[i],by rw [J i f vd,List.getElem?_eq_getElem hi]⟩)
  exact ⟨mk b,by rw [N7]; exact av,by rw [aa]; simpa using aZ⟩
 ·cases aw
inductive AO (w:World):ab->Value->Prop
 | mk {y:ab}{v:Value}(h:tj w y v):AO w y v
theorem lr.one {e:bJ α}{t:TypeId}{ok:α->Prop}{g:α->ab}(h:lr P e t ok) (he:∀ a,e.cells a=[g a]) {H:Type}{enc:TypeId × Value->H}{w:World}{v:Value}{d:DataW H}{p:List MemPlace}(hv:v.cells.toList=[v])
  (aw:DataW.Trod enc P w 0 (λ_=>true) true t v d p):∃ a,ok a/\AO w (g a) v:=by
 obtain ⟨n,aF⟩:=aw;obtain ⟨a,aP,aZ⟩:=h.go aF;refine ⟨a,aP,.mk ?_⟩;rw [hv,he] at aZ;exact (aZ.2 0 _ _ rfl rfl).2
theorem lr.O6 {e:bJ Int}{t:TypeId}{k:IntKind}{ok:Int->Prop}{g:Int->ab}(h:lr P e t ok) (he:∀ a,e.cells a=[g a]) (hu:P.underlying t=some (.int k)) {H:Type}{enc:TypeId × Value->H}{w:World}{v:Value}{d:DataW H}{p:List MemPlace}{base:Nat}(hv:Value.okWide P w .any base t v)
  (aw:DataW.Trod enc P w 0 (λ_=>true) true t v d p):∃ a,ok a/\AO w (g a) v:=by
 obtain ⟨n,rfl⟩:=okWide_int hu hv;exact h.one he rfl aw
theorem lr.Xl {e:bJ α}{t:TypeId}{ok:α->Prop}{ts:List TypeId}(h:lr P e t ok) (fj:Dp P t ts=true) {H:Type}{enc:TypeId × Value->H}{w:World}{v:Value}{d:DataW H}{p:List MemPlace}{base:Nat}(hv:Value.okWide P w .any base t v)
  (aw:DataW.Trod enc P w 0 (λ_=>true) true t v d p):∃ a,ok a/\AO w (.agg (e.cells a)) v:=by
 have hu:∃ fs,P.underlying t=some (.struct fs):=by
  unfold Dp at fj
  split at fj
  ·exact ⟨_,by assumption⟩
  ·cases fj
 obtain ⟨fs,hu⟩:=hu;obtain ⟨cs,rfl,hF⟩:=okWide_struct hu hv;obtain ⟨n,aF⟩:=aw;obtain ⟨a,aP,aZ⟩:=h.go aF;refine ⟨a,aP,.mk ?_⟩;have jL:mM w (e.cells a) cs.toList:=aZ;refine .agg (Fs:=λ_ _=>False) (by simpa using jL.1) (λk u hu=>?_) (λk x u J hu=>(jL.2 k x u J (by simpa using hu)).2) (λ_ _ _ _ _ h=>h.elim) (λc=>⟨λh=>h.elim,λ⟨_,_,h⟩=>h⟩);have hk:k<(e.cells a).length:=by rw [jL.1]; simpa using (Array.getElem?_eq_some_iff.1 hu).1
 exact (jL.2 k _ u (List.getElem?_eq_getElem hk) (by simpa using hu)).1
inductive uO (w:World):List ab->List Value->Prop
 | nil:uO w [] []
 | cons {y:ab}{v:Value}{ys:List ab}{vs:List Value}(h:AO w y v) (aC:uO w ys vs):uO w (y::ys) (v::vs)
theorem uO.get {w:World}{ys:List ab}{vs:List Value}(h:uO w ys vs):ys.length=vs.length/\∀ (k:Nat) (y:ab),ys[k]?=some y->∃ v,vs[k]?=some v/\tj w y v:=by
 induction h with
 | nil=>exact ⟨rfl,λk y h=>by simp at h⟩
 | cons h _ aU =>
  refine ⟨by simp [aU.1],λk y ax=>?_⟩;cases k with
  | zero =>
   simp at ax; subst ax;obtain ⟨h⟩:=h;exact ⟨_,rfl,h⟩
  | succ k=>simpa using aU.2 k y (by simpa using ax)
theorem uO.YK {w:World}{ys:List ab}{vs:List Value}(h:uO w ys vs) (au:ys.all (λy=>match y with | .bL ..=>false | _=>true)=true) :
  cF w (λb=>b<w.heap.size) vs.toArray (qa ys) (λ_=>cy):=by
 refine ⟨λt x J=>?_,λ_ _ _ h=>h,λ_ _ _ h=>h.elim,λ_ _ h=>h.elim,λ_ h=>h,λt t' z p n m new bE cE m' c3 h1 _=>?_⟩
 ·obtain ⟨v,hv,aZ⟩:=h.get.2 t x J;exact ⟨v,by simpa using hv,.tree (aZ.frame (λ_ _=>rfl) (λ_ h=>h) (λ_ _ h=>h.elim) (λ_ _=>rfl))⟩
 ·have:=List.all_eq_true.1 au _ (List.mem_of_getElem? h1);cases this
structure K' (w w':World):Prop where
 kept:∀ may:MemPlace->Prop,w.keptBut w' may
 dN:∀ a,a.block<w.heap.size->w'.frozen? a=w.frozen? a
theorem bT.Zi {f:FuncId}{ys:List ab}{vs:List Value}{outs:List (Option ab)}{r:Value}(aa:bT P f ys outs (.lit r)) (w:World) (h:uO w ys vs) (au:ys.all (λy=>match y with | .bL ..=>false | _=>true)=true) :
  Calls P f vs.toArray w λe w'=>e=.returned r/\K' w w'/\∀ i:Nat,i<w.heap.size->w'.heap[i]?=w.heap[i]?:=by
 have:=aa.2 w _ vs _ h.get.1.symm (h.YK au);refine this.mono ?_;rintro e w' ⟨v,I',b7,rfl,bk,b0⟩;obtain ⟨u,hu,aZ⟩:=bk.rel outs.length (.lit r) (by simp [kV]);have ak:outs.length=vs.length:=by rw [aa.1]; exact h.get.1
 have EL:u=v:=by
  rw [ak] at hu;simpa using hu.symm
 subst EL;have hv:=(aZ.gI (by simp)).hB.1;subst hv;have av:∀ i:Nat,i<w.heap.size->w'.heap[i]?=w.heap[i]?:=λi hi=>b0.eT.block i hi λ⟨_,h⟩=>h;have hk:World.keptBut w w' (λ_=>False):=⟨b0.eT.os,b0.eT.output,λi hi=>by
  rw [av i hi];exact (World.keptBut_refl w (λ_=>False)).2.2 i hi⟩
 exact ⟨rfl,⟨λmay=>World.keptBut_mono (λ_ f=>f.elim) hk,b0.eT.dN⟩,av⟩
theorem Qj {H:Type}{enc:TypeId × Value->H}{w w':World}{base:Nat}{sp:Nat->Bool}{held:Bool}(av:∀ i:Nat,i<w.heap.size->w'.heap[i]?=w.heap[i]?) :
  ∀ {ts:List TypeId}{vs:List Value}{jH:List (DataW H)}{ps:List MemPlace},DataW.TrodAll enc P w base sp held ts vs jH ps->DataW.TrodAll enc P w' base sp held ts vs jH ps
 | [],[],[],_,h=>h
 | _::_,_::_,_::_,_,⟨p,q,⟨n,aF⟩,af,e⟩=>by
  refine ⟨p,q,⟨n,DataW.trod_carry n _ _ _ aF λx J=>?_⟩,Qj av af,e⟩;have aT:=DataW.trod_lt n _ _ _ aF x J;cases x with
  | cell b off =>
   show w'.cell? _=w.cell? _;exact World.cell?_of_block (av b aT)
  | map b=>exact av b aT
theorem Rx {H:Type}{enc:TypeId × Value->H}{w w':World}(ak:laidOutB P=true) (hm:mapsRowed P=true)
  (aY:((List.range P.types.size).all λt=>match P.underlying t with | some (.slice e)=>decide (0<P.cellsOf e) | _=>true)=true)
  (av:∀ i:Nat,i<w.heap.size->w'.heap[i]?=w.heap[i]?) {ts:List TypeId}{vs:List Value}{jH:List (DataW H)}{ps:List MemPlace}(aw:ts.all (λt=>decide (t<P.types.size))=true)
  (h:DataW.TrodAll enc P w 0 (λ_=>true) true ts vs jH ps) {sp:Nat->Bool}(je:∀ p∈ps,sp p.block=true):DataW.TrodAll enc P w' 0 sp true ts vs jH ps :=
 (Qj av h).respare (kids_rows ak hm) (slices_full_of P aY) (λt h=>of_decide_eq_true (List.all_eq_true.1 aw t h)) je
end Go.Own
namespace Go.Own
open Go
section
variable {α β:Type}{P:Program}{N:c6}{g g1:aM}{p:Place}{m:Int}{a b:Operand}{t:TypeId}
theorem ab.LK:∀ (l:List Nat) {x nd:ab}{k:Nat}{c:ab},x.at l=some nd->nd.kids[k]?=some c->x.at (l++[k])=some c
 | [],x,nd,k,c,h,hk=>by
  simp only [ab.at,Option.some.injEq] at h;subst h;simp [ab.at,hk]
 | j::l,x,nd,k,c,h,hk=>by
  simp only [ab.at] at h;cases ah:x.kids[j]? with
  | none=>rw [ah] at h; cases h
  | some y =>
   rw [ah] at h;simp only [List.cons_append,ab.at,ah];exact ab.LK l h hk
theorem ab.PQ:∀ (l:List Nat) {x nd:ab}{k:Nat}{c:ab}(y:ab),x.at l=some nd->nd.kids[k]?=some c->x.setAt (l++[k]) y=x.setAt l (nd.v8 k y)
 | [],x,nd,k,c,y,h,hk=>by
  simp only [ab.at,Option.some.injEq] at h;subst h;simp [ab.setAt,hk]
 | j::l,x,nd,k,c,y,h,hk=>by
  simp only [ab.at] at h;cases ah:x.kids[j]? with
  | none=>rw [ah] at h; cases h
  | some z =>
   rw [ah] at h;simp only [List.cons_append,ab.setAt,ah];rw [ab.PQ l y h hk]
theorem Mr {en:bJ α}{L:List α}{jj:α}{o:Nat}{c:ab}(h:idx L m=some jj) (aa:(en.cells jj)[o]?=some c):(aj en L).kids[m.toNat * en.z+o]?=some c:=Ki en h aa
theorem uW {en:bJ α}{L:List α}{jj:α}{r o:Nat}{path:List Nat}{c:ab}(au:bD g ⟨r,path⟩=some (aj en L)) (h:idx L m=some jj) (aa:(en.cells jj)[o]?=some c):bD g ⟨r,path++[m.toNat * en.z+o]⟩=some c:=by
 unfold bD at au ⊢;simp only at au ⊢;cases J:g r with
 | none=>rw [J] at au; cases au
 | some x =>
  rw [J] at au;exact ab.LK path au (Mr h aa)
theorem Yo {en:bJ α}{L:List α}{jj:α}{r o:Nat}{path:List Nat}{c:ab}(y:ab) (au:bD g ⟨r,path⟩=some (aj en L)) (h:idx L m=some jj) (aa:(en.cells jj)[o]?=some c) :
  cv g ⟨r,path++[m.toNat * en.z+o]⟩ y=cv g ⟨r,path⟩ (.own en.z L.length ((bp en L).set (m.toNat * en.z+o) y)):=by
 funext s;unfold cv;simp only;split
 ·rename_i e;subst e;unfold bD at au;simp only at au;cases J:g s with
  | none=>rfl
  | some x =>
   rw [J] at au;simp only [Option.map_some,Option.some.injEq];rw [ab.PQ path y au (Mr h aa)];rfl
 ·rfl
theorem YI (l:List ab) (k:Nat) (x c:ab):e5 (l.set k x) k [c]=e5 l k [c]:=by
 unfold e5;simp only [List.length_singleton];rw [List.take_set,List.drop_set];rw [List.set_eq_of_length_le (by simp; omega)];simp
theorem bl.Dn {gi:Oper}{en:bJ α}{en2:bJ β}{L:List α}{jj y2:α}{qW M R:List β}{o s JO:Nat}{new c3:List ab}{x2 y0:ab}{G2:List (Nat × ab)}
  (a1:gi.op=.store t a b) (aS:gi.dst=none) (aP:Rd g a (.ptr p (m.toNat * en.z+o))) (av:Rd g b (.a6 en2.z ⟨s,[]⟩ (qW.length+JO)))
  (qo:g s=some (.bL en2.z ⟨p.root,p.path++[m.toNat * en.z+o]⟩ qW.length JO new)) (au:bD g p=some (aj en L)) (h:idx L m=some jj) (l5:(en.cells jj)[o]?=some (aj en2 qW)) (bg:Nat.beq p.root s=false)
  (h1:e6 (cv (cv g ⟨s,[]⟩ .dead) p (.own en.z L.length ((bp en L).set (m.toNat * en.z+o) .dead))) new c3 g1)
  (rb:fl c3 (bp en2 M)) (hm:M.length=JO) (aZ:qW++M=R) (aY:hl P t 1=true)
  (vk:bD g1 p=some (.own en.z L.length ((bp en L).set (m.toNat * en.z+o) .dead)))
  (he:e5 (en.cells jj) o [aj en2 R]=en.cells y2) (hlen:Nat.ble (o+1) en.z=true)
  (iv:cv g1 p (aj en (L.set m.toNat y2)) p.root=some x2) (ao:(get G2 p.root).isSome=true) (ri:g1 p.root=some y0) [e8:cg y0] (c_:kF g1 (get G2) p.root x2 G2):bl P N g gi (get G2):=by
 subst hm aZ;have BM:=Nat.le_of_ble_eq_true hlen;have je:=Kh en (cs':=[aj en2 (qW++M)]) h he (by simpa using BM);have NM:(L.set m.toNat y2).length=L.length:=List.length_set;have EH:=Nat.ne_of_beq_eq_false bg;have BE:bD g ⟨p.root,p.path++[m.toNat * en.z+o]⟩=some (aj en2 qW):=uW (g:=g) (r:=p.root) (path:=p.path) au h l5;have VG:bD (cv g ⟨s,[]⟩ .dead) p=some (aj en L):=by
  unfold bD at au ⊢;rw [uD (p:=⟨s,[]⟩) (λe=>EH e)]; exact au
 have aw:e6 g [.a6 en2.z ⟨s,[]⟩ (qW.length+M.length)] [.own en2.z (qW.length+M.length) (bp en2 qW++c3)] g1:=by
  refine .ia qo BE bg ?_ .nil;rw [Yo .dead (r:=p.root) (path:=p.path) VG h l5];exact h1
 have hk:m.toNat * en.z+o+1<=L.length * en.z:=by
  obtain ⟨Db,ll,_⟩:=pJ h;have af:m.toNat+1<=L.length:=by omega
  calc m.toNat * en.z+o+1<=m.toNat * en.z+en.z:=by omega
   _=(m.toNat+1) * en.z:=by rw [Nat.add_mul]; omega
   _<=L.length * en.z:=Nat.mul_le_mul_right _ af
 refine .store a1 aS aP.bs av.bs aw.take (y':=aj en2 (qW++M)) ?_ rfl aY (p:=p) (nd:=.own en.z L.length ((bp en L).set (m.toNat * en.z+o) .dead)) (z:=en.z) (n:=L.length) (cs:=(bp en L).set (m.toNat * en.z+o) .dead) vk (.inl rfl) ?_ (by simp) (λt x J=>?_) (λt x J y ax=>?_) (λt z q n m new J=>?_) (by intro e; rw [e] at ao; cases ao)
 ·rw [<- mC]; exact (rb.pre _).own
 ·simp only [List.length_singleton,List.length_set,nm]; exact hk
 ·have fp:(ab.own en.z L.length ((bp en L).set (m.toNat * en.z+o) .dead)).e5 (m.toNat * en.z+o) [aj en2 (qW++M)]=aj en (L.set m.toNat y2):=by
   show ab.own en.z L.length (e5 ((bp en L).set (m.toNat * en.z+o) .dead) (m.toNat * en.z+o) [aj en2 (qW++M)])=_;unfold aj at je ⊢;rw [YI,je,NM]
  rw [fp];rcases c_.spec t x J with ⟨h1,af,_⟩ | ⟨h1,af,_⟩
  ·rw [uD h1]; exact af
  ·subst h1 af; exact iv
 ·rcases c_.spec t x J with ⟨h1,af,aI⟩ | ⟨h1,af,aI⟩
  ·rw [af] at ax; cases ax;rcases aI with aI | ⟨aI,c2,rfl⟩
   ·exact aI.Kf
   ·refine jm.ref (by cases aI; rfl) ⟨aI.O3,aI.clear ?_,aI.Fm⟩;intro e;obtain ⟨hq,pp⟩:=p;simp only at e;subst e;simp only [cv,if_true,ri,Option.map_some,ab.setAt,Option.some.injEq] at iv;cases iv
  ·subst h1; rw [ri] at ax; cases ax; exact .bm e8.bm
 ·rcases c_.spec t _ J with ⟨_,_,aI | ⟨aI,_⟩⟩ | ⟨_,_,aI⟩
  ·exact aI.fy _ _ _ _ _ rfl
  ·exact aI.fy _ _ _ _ _ rfl
  ·cases aI
end
end Go.Own
/- Short forms for printed walks. -/
namespace Go.Own
open Go
section
variable {P:Program}{N:c6}{ops:Array Oper}{bd:List (List Nat)}{g g0:aM}{K:aM->Prop}{l:List Oper}{acc:Acc}{d i:Nat}{op:Op}{ty:TypeId}{pos:String}{after:Array Edge}{x:ab}
theorem al (au:ch P g op ty x) (hk:ar P N ops l (cV g d x) K) (bc:N.ok d=true:=by rfl) (aW:g d=none:=by rfl):ar P N ops (⟨some d,op,ty,pos,after,none⟩::l) g K:=.v au bc aW .none hk
theorem gp (au:cz P g op x) (hk:ar P N ops l (cV g d x) K) (bc:N.ok d=true:=by rfl) (aW:g d=none:=by rfl):ar P N ops (⟨some d,op,ty,pos,after,none⟩::l) g K:=.c au bc aW .none hk
theorem aD (bG:Nat) (au:ch P (jA bd g0 bG acc) op ty x) (hk:bA P N ops bd g0 i ((bG,d,some x)::acc) l K) (ah:Nat.beq ops.size (bG+l.length+1)=true:=by rfl) (aW:g0 d=none:=by rfl) (aF:acc.all (λe=>!Nat.beq e.2.1 d)=true:=by rfl) (bc:N.ok d=true:=by rfl) :
  bA P N ops bd g0 i acc (⟨some d,op,ty,pos,after,none⟩::l) K:=.v bG au ah aW aF bc .none hk
theorem h2 (bG:Nat) (au:cz P (jA bd g0 bG acc) op x) (hk:bA P N ops bd g0 i ((bG,d,some x)::acc) l K) (ah:Nat.beq ops.size (bG+l.length+1)=true:=by rfl) (aW:g0 d=none:=by rfl) (aF:acc.all (λe=>!Nat.beq e.2.1 d)=true:=by rfl) (bc:N.ok d=true:=by rfl) :
  bA P N ops bd g0 i acc (⟨some d,op,ty,pos,after,none⟩::l) K:=.c bG au ah aW aF bc .none hk
end
instance {z n:Nat}{cs:List ab}:ns (.own z n cs):=⟨by simp⟩
def aH (a n:Nat) (l:List Nat):List Nat:=List.range' a n++l
end Go.Own
namespace Go.Own
open Go
section
variable {α:Type}{P:Program}{N:c6}{g:aM}{d r:Nat}{ty:TypeId}
instance {fn:Fn}{cs:List ab} [h:dq cs]:cg (.cW fn [] cs):=⟨.cW (by simp) h.bm⟩
theorem O.zM {fn:Fn}{caps:List Operand}{b:List ab}(av:Own.gk g caps=some b):ch P g (.makeFunc fn #[] caps.toArray) ty (.cW fn [] b):=.CG (.makeFunc rfl (by simpa using av))
theorem View.cl {fn:Fn}{cs cs':List ab}(h:oC g cs cs'):View g (.cW fn [] cs) (.cW fn [] cs'):=.cW h.len h.get
theorem cz.gc {c:Operand}{xs:List Operand}{gm:Array TypeId}{f:FuncId}{ys caps:List ab}{outs:List (Option ab)}{res:ab}(aa:Rd g c (.cW (.func f) [] caps)) (J:qY g xs ys) (gP:bT P f (ys++caps) outs res) (aW:gM P f=true) (a1:si outs=true) [w8:dq caps] [ao:cg res] :
  cz P g (.call { callee:=.value c,args:=xs.toArray,argTypes:=gm }) res:=by
 have e:=OV a1 gP.1;refine .plain (first:=[]) (caps:=caps) (ys:=ys) aa.bs (by simpa using J.spec.1) aW (λy ax=>?_) ?_ ao.bm
 ·rw [List.nil_append] at ax;rcases List.mem_append.1 ax with h | h
  ·exact J.spec.2 y h
  ·exact w8.bm y h
 ·rw [List.nil_append,<- e]; exact gP
theorem hJ.jw {o:Oper}{xs:List Operand}{gm:Array TypeId}{f:FuncId}{ys args:List ab}{res:ab}{en:bJ α}{L L':List α}{G2:List (Nat × ab)}(a1:o.op=.call { callee:=.value (.func f),args:=xs.toArray,argTypes:=gm }) (aS:o.dst=some d) (J:Own.gk g xs=some (.a6 en.z ⟨r,[]⟩ L.length::ys))
  (aC:g r=some (aj en L)) (hv:oC (get ((r,.dead)::G2)) ys args) (gP:bT P f (aj en L::args) (some (aj en L')::args.map λ_=>none) res) (aW:gM P f=true) [ao:p5 res] [lL:p5 (aj en L')]
  (c_:Trim false (cv g ⟨r,[]⟩ .dead) (get ((r,.dead)::G2)) G2) (aO:get G2 d=none) (r8:Nat.beq r d=false) (Bv:Trim false (get ((r,aj en L')::G2)) (get ((r,aj en L')::G2)) G2) (bc:N.ok d=true) :
  hJ P N g o d (get ((d,res)::(r,aj en L')::G2)):=by
 have IN:r≠d:=Nat.ne_of_beq_eq_false r8;have Hj:get ((r,ab.dead)::G2) r=some .dead:=by simp [get]
 have mY:∀ x∈bp en L,cU x:=by
  intro x J;obtain ⟨a,_,aP⟩:=List.mem_flatMap.1 J;exact en.bm a x aP
 have gj:(bp en L).take (L.length * en.z)=bp en L:=List.take_of_length_le (by rw [nm]; exact Nat.le_refl _);have xB:hD (cv g ⟨r,[]⟩ .dead) (get ((r,.dead)::G2)):=by
  refine ⟨λt x h=>?_,λt x h=>?_,λt z q n m new h=>?_⟩
  all_goals
   simp only [get] at h
   split at h
  ·rename_i e; subst e; cases h; simp [cv,aC,ab.setAt]
  ·obtain ⟨⟨y,h1,_,aI⟩,_⟩:=c_.spec t x h; rw [<- aI rfl]; exact h1
  ·cases h; exact .bm .dead
  ·exact (c_.spec t x h).2.1
  ·cases h
  ·exact (c_.spec t _ h).2.2 _ _ _ _ _ rfl
 have put:qH (get ((r,.dead)::G2)) [(⟨r,[]⟩,aj en L')]=get ((r,aj en L')::G2):=by
  funext t;simp only [qH,cv,get];by_cases h:t=r
  ·simp [h,ab.setAt]
  ·simp [h]
 have xC:hD (get ((r,aj en L')::G2)) (get ((r,aj en L')::G2)):=by
  refine ⟨λt x h=>h,λt x h=>?_,λt z q n m new h=>?_⟩
  all_goals
   simp only [get] at h
   split at h
  ·cases h; exact .bm lL.lj.bm
  ·exact (Bv.spec t x h).2.1
  ·cases h
  ·exact (Bv.spec t _ h).2.2 _ _ _ _ _ rfl
 have ak:=hv.len;have rS:get ((d,res)::(r,aj en L')::G2)=cV (get ((r,aj en L')::G2)) d res:=by
  funext t;rw [sA]
 rw [rS];refine yE.ok (first:=[]) (caps:=[]) (ys:=.a6 en.z ⟨r,[]⟩ L.length::ys) (tk:=λk=>k == 0) (vw:=true) (outs:=some (aj en L')::args.map λ_=>none) (g1:=cv g ⟨r,[]⟩ .dead) (g2:=get ((r,.dead)::G2)) (g4:=get ((r,aj en L')::G2)) (l:=[(⟨r,[]⟩,aj en L')]) (ks:=λ_=>0) (xs0:=.a6 en.z ⟨r,[]⟩ L.length::ys.map λ_=>.dead) (xs1:=aj en L::ys.map λ_=>.dead) (args:=aj en L::args) (res:=res) a1 aS rfl (by simpa using J)
  ⟨aW,by simp,by simpa using ak,λk x h=>?_,?_,xB,λk x y J ax=>?_,gP,by simpa using ao.lj,λk x h=>?_,λj p x ah=>?_,by simp,λi j hi ah _=>by simp at hi ah; omega,by rw [put]; exact xC⟩ ?_ bc wj.refl
 ·simp only [List.nil_append,List.append_nil] at h;cases k with
  | zero=>exact .inl h
  | succ k =>
   refine .inr ?_;simp only [List.getElem?_cons_succ] at h ⊢;rw [List.getElem?_map,h]; rfl
 ·have h1:Take (cv g ⟨r,[]⟩ .dead) ((bp en L).take (L.length * en.z)) (bp en L) (cv g ⟨r,[]⟩ .dead):=by rw [gj]; exact .bm mY
  refine .a6 (N:=L.length) (by simp [bD,aC,ab.at]) (Nat.le_refl _) h1 (.bm λx J=>?_);obtain ⟨_,_,rfl⟩:=List.mem_map.1 J;exact .dead
 ·simp only [List.nil_append,List.append_nil] at J;cases k with
  | zero=>simpa using ax
  | succ k =>
   simp only [List.getElem?_cons_succ] at J ax;exact ⟨rfl,hv.get k x y J ax⟩
 ·cases k with
  | zero=>simp only [List.getElem?_cons_zero,Option.some.injEq] at h; subst h; exact lL.lj
  | succ k =>
   simp only [List.getElem?_cons_succ,List.getElem?_map] at h;cases aP:args[k]? <;> rw [aP] at h <;> cases h
 ·cases j with
  | succ j=>simp at ah
  | zero =>
   simp only [List.getElem?_cons_zero,Option.some.injEq,Prod.mk.injEq] at ah;obtain ⟨rfl,rfl⟩:=ah;exact ⟨rfl,by simp [bD,Hj,ab.at],.inl ⟨en.z,L.length,bp en L,rfl,by simp [bD,aC,ab.at]⟩⟩
 ·simp only [get,if_neg (Ne.symm IN)]; exact aO
end
end Go.Own
namespace Go.Own
open Go Go.Proofs Go.Shelf Go.Lib Go.Sort
section
variable {P:Program}{w:World}
def zU {α:Type} [DecidableEq α] (lt:α->α->Bool) (l:List α):Bool :=
 l.all λa=>!lt a a&&l.all λb=>(lt a b||lt b a||decide (a=b))&&l.all λc=>(!(lt a b&&lt b c)||lt a c)&&(lt a b||lt b c||!lt a c)
def kv {α:Type}(fU:α->α->Option Int) (a b:α):Bool:=decide ((fU a b).getD 0<0)
def ins {α:Type}(lt:α->α->Bool) (x:α):List α->List α
 | []=>[x]
 | y::l=>if lt y x then y::ins lt x l else x::y::l
def h' {α:Type}(lt:α->α->Bool):List α->List α
 | []=>[]
 | x::l=>ins lt x (h' lt l)
theorem Jk {α:Type}(lt:α->α->Bool) (x:α):∀ l:List α,(ins lt x l).Perm (x::l)
 | []=>.refl _
 | y::l=>by
  unfold ins;split
  ·exact ((Jk lt x l).cons y).trans (.swap x y l)
  ·exact .refl _
theorem sS {α:Type}(lt:α->α->Bool):∀ l:List α,(h' lt l).Perm l
 | []=>.refl _
 | x::l=>(Jk lt x _).trans ((sS lt l).cons x)
theorem Oo {α:Type}{lt:α->α->Bool}(bk:SWO lt) (x:α):∀ l:List α,l.Pairwise (λa b=>(!lt b a)=true)->(ins lt x l).Pairwise λa b=>(!lt b a)=true
 | [],_=>List.pairwise_singleton _ _
 | y::l,h=>by
  obtain ⟨h1,af⟩:=List.pairwise_cons.1 h;unfold ins;split
  ·rename_i aT;refine List.pairwise_cons.2 ⟨λz aY=>?_,Oo bk x l af⟩;rcases List.mem_cons.1 ((Jk lt x l).mem_iff.1 aY) with rfl | aY
   ·cases aa:lt z y with
    | false=>rfl
    | true=>have:=bk.trans _ _ _ aT aa; rw [bk.irrefl] at this; cases this
   ·exact h1 z aY
  ·rename_i aT;have aT:lt y x=false:=by simpa using aT
   refine List.pairwise_cons.2 ⟨λz aY=>?_,h⟩;rcases List.mem_cons.1 aY with rfl | aY
   ·rw [aT]; rfl
   ·have aY:=h1 z aY;simp only [Bool.not_eq_true'] at aY ⊢;exact bk.ntrans _ _ _ aY aT
theorem E0 {α:Type}{lt:α->α->Bool}(bk:SWO lt):∀ l:List α,(h' lt l).Pairwise λa b=>(!lt b a)=true
 | []=>.nil
 | x::l=>Oo bk x _ (E0 bk l)
theorem Ow {α:Type}{lt:α->α->Bool}(bk:SWO lt) (dL:∀ x y,lt x y=false->lt y x=false->x=y) (l:List α):l.mergeSort (λx y=>!lt y x)=h' lt l:=by
 refine List.Perm.eq_of_pairwise (le:=λx y=>(!lt y x)=true) (λa b _ _ h1 af=>?_) (List.pairwise_mergeSort (λa b c h1 af=>?_) (λa b=>?_) l) (E0 bk l) ((List.mergeSort_perm _ _).trans (sS lt l).symm)
 ·simp only [Bool.not_eq_true'] at h1 af;exact dL a b af h1
 ·simp only [Bool.not_eq_true'] at h1 af ⊢;exact bk.ntrans _ _ _ af h1
 ·cases h1:lt b a with
  | false=>rfl
  | true =>
   cases af:lt a b with
   | false=>rfl
   | true=>have:=bk.trans _ _ _ h1 af; rw [bk.irrefl] at this; cases this
theorem On {α β:Type}{lt:α->α->Bool}{lt':β->β->Bool}{f:α->β}(h:∀ a b,lt a b=lt' (f a) (f b)) (x:α):∀ l:List α,(ins lt x l).map f=ins lt' (f x) (l.map f)
 | []=>rfl
 | y::l=>by
  simp only [ins,List.map_cons,h];split
  ·rw [List.map_cons,On h x l]
  ·rfl
theorem EZ {α β:Type}{lt:α->α->Bool}{lt':β->β->Bool}{f:α->β}(h:∀ a b,lt a b=lt' (f a) (f b)):∀ l:List α,(h' lt l).map f=h' lt' (l.map f)
 | []=>rfl
 | x::l=>by simp only [h',List.map_cons,On h,EZ h l]
def pV {α:Type} [DecidableEq α] (fU:α->α->Option Int) (l:List α):Option (List α) :=
 if (l.all λa=>l.all λb=>(fU a b).isSome)&&zU (kv fU) l&&decide (l.length<4611686018427387904) then some (h' (kv fU) l) else none
theorem MQ {w':World}(h:Fr w w' λ_=>False):∃ q os,w'=grow (w.drewN q) os:=by
 refine ⟨w'.drawn - w.drawn,w'.heap.extract w.heap.size w'.heap.size,?_⟩;obtain ⟨h1,af,aI,bK,cG,eh,mT⟩:=h;obtain ⟨au,acY,wS,os,out⟩:=w';simp only at h1 af aI bK cG mT;subst h1 af aI;unfold grow World.drewN;simp only [World.mk.injEq,true_and,and_true];refine ⟨?_,by omega⟩;apply Array.ext_getElem?;intro k;rw [Array.getElem?_append];by_cases hk:k<w.heap.size
 ·rw [if_pos hk]; exact cG k hk λh=>h
 ·rw [if_neg hk,Array.getElem?_extract];by_cases fX:k<au.size
  ·rw [if_pos (by omega),show w.heap.size+(k - w.heap.size)=k by omega]
  ·rw [if_neg (by omega),Array.getElem?_eq_none (by omega)]
theorem Pz (l:List Int):bp ai l=l.map ae:=by
 induction l with
 | nil=>rfl
 | cons a l aU =>
  show ai.cells a++bp ai l=_;rw [aU]; rfl
theorem P7 {vs:List Value}{v0 v1:Value}(xi:vs=[v0,v1]) {I:bb}{Fs:Nat->bb}{g:aM}(bk:cF w I vs.toArray g Fs) {w':World}{e:TypeId}{r:List Int}(a1:w'.ownsRow 0 e 1 v0 r.length (r.map (Value.int .i64))) (aN:∀ c,Fs 0 c↔v0.ownBlock=some c) (oN:Fr w w' λc=>Fs 0 c) :
  ∃ v I' b7,Ending.returned (.tuple #[])=.returned v/\cF w' I' (vs++[v]).toArray (kV [some (aj ai r),none] (.bW [])) b7/\kn w I (λc=>∃ t,Fs t c) w' I' (λc=>∃ t,b7 t c):=by
 subst xi;refine ⟨_,I,λt=>if t=0 then Fs 0 else cy,rfl,⟨λt x J=>?_,λt aw c aa=>?_,λt t' c aa fo=>?_,λt c aa=>?_,λc aa=>Nat.lt_of_lt_of_le (bk.lt c aa) oN.size,λt t' z p n m new bE cE m' c3 h1 af=>?_⟩,⟨?_,λc h=>h,λc h=>.inl h,λc aa=>?_⟩⟩
 ·unfold kV at J
  split at J
  ·rename_i aw;have aw:t=2:=aw;subst aw;cases J;exact ⟨.tuple #[],rfl,.tree (.bW (Fs:=λ_=>cy) rfl (λk x u h=>by simp at h) (λj k c h=>by simp at h) (λc=>⟨λh=>h.elim,λ⟨k,h,_⟩=>by simp at h⟩))⟩
  ·match t,J with
   | 0,J =>
    cases J;refine ⟨v0,rfl,.tree ?_⟩;show R w' I _ (.own 1 r.length (bp ai r)) v0 (Fs 0);rw [Pz];refine .own (Fs:=λ_=>cy) a1 (by simp) (λk u hu=>?_) (λk x u J hu=>?_) (λ_ _ _ _ _ h=>h.elim) (λ_ _ _ h=>h.elim) (λc=>⟨λh=>.inl ((aN c).1 h),λh=>?_⟩)
    ·rw [List.getElem?_map] at hu;cases hk:r[k]? <;> rw [hk] at hu <;> cases hu;rfl
    ·rw [List.getElem?_map] at J hu;cases hk:r[k]? <;> rw [hk] at J hu <;> cases J <;> cases hu;exact .lit rfl λ_ h=>h
    ·rcases h with h | ⟨_,_,h⟩
     ·exact (aN c).2 h
     ·exact h.elim
   | 1,J=>cases J
   | t+2,J=>cases J
 ·have aR:¬ t=0:=λe=>by subst e; exact absurd aw (by simp [kV])
  simp only [if_neg aR] at aa;exact aa
 ·have key:∀ {t:Nat},(if t=0 then Fs 0 else cy) c->t=0:=λ{t} h=>by
   by_cases aR:t=0
   ·exact aR
   ·rw [if_neg aR] at h; exact h.elim
  rw [key aa,key fo]
 ·by_cases aR:t=0
  ·simp only [if_pos aR] at aa; exact bk.bj 0 c aa
  ·simp only [if_neg aR] at aa; exact aa.elim
 ·unfold kV at h1
  split at h1
  ·cases h1
  ·match t,h1 with
   | 0,h1=>cases h1
   | 1,h1=>cases h1
   | t+2,h1=>cases h1
 ·exact oN.mono λb _ av=>⟨0,av⟩
 ·obtain ⟨t,aw⟩:=aa;by_cases aR:t=0
  ·simp only [if_pos aR] at aw; exact .inl ⟨0,aw⟩
  ·simp only [if_neg aR] at aw; exact aw.elim
theorem O7 {α:Type} [DecidableEq α] {lt:α->α->Bool}{l:List α}(h:zU lt l=true):∀ a∈l,lt a a=false/\∀ b∈l,(lt a b=true\/lt b a=true\/a=b)/\∀ c∈l,((lt a b=true/\lt b c=true)->lt a c=true)/\(lt a b=true\/lt b c=true\/lt a c=false):=by
 intro a aP;unfold zU at h;have h1:=List.all_eq_true.1 h a aP;simp only [Bool.and_eq_true,Bool.not_eq_true',List.all_eq_true,Bool.or_eq_true,decide_eq_true_eq] at h1;refine ⟨h1.1,λb av=>?_⟩;obtain ⟨af,aI⟩:=h1.2 b av;refine ⟨by rcases af with (h | h) | h <;> simp [h],λc aa=>?_⟩;obtain ⟨bK,cG⟩:=aI c aa;refine ⟨λ⟨x,y⟩=>?_,by rcases cG with (h | h) | h <;> simp [h]⟩;rcases bK with h | h
 ·rw [x,y] at h; cases h
 ·exact h
theorem P6 {α:Type} [DecidableEq α] {fU:α->α->Option Int}{l r:List α}(h:pV fU l=some r):(∀ a∈l,∀ b∈l,(fU a b).isSome=true)/\zU (kv fU) l=true/\l.length<4611686018427387904/\r=h' (kv fU) l:=by
 unfold pV at h
 split at h
 ·rename_i aa;simp only [Bool.and_eq_true,List.all_eq_true,decide_eq_true_eq] at aa;exact ⟨aa.1.1,aa.1.2,aa.2,(Option.some.inj h).symm⟩
 ·cases h
theorem Nx {α:Type} [Inhabited α] {enc:α->Value}{b n:Nat}{d:Array α}{os:Array Obj}{cur:Array Value}{e:TypeId}{eT:Nat × Nat}(av:w.heap[b]?=some (.cells cur e eT)) :
  (sortWorld enc w b 0 n d os).heap[b]?=some (.cells (putCells enc 0 d cur) e eT):=by
 have aT:b<w.heap.size:=(Array.getElem?_eq_some_iff.1 av).1;unfold sortWorld;rw [heap_grow_old _ _ (by rw [Go.Sort.size_putRow]; exact aT)];unfold putRow mapBlock;have q8:(Go.Sort.ahead w n).heap=w.heap:=rfl;simp only [q8,Array.getElem?_modify,if_true,av,Option.map_some,onCells]
theorem Ii {α:Type} [Inhabited α] {enc:α->Value}{b n c:Nat}{d:Array α}{os:Array Obj}(aa:c<w.heap.size) (dr:c≠b) :
  (sortWorld enc w b 0 n d os).heap[c]?=w.heap[c]?:=by
 unfold sortWorld;rw [heap_grow_old _ _ (by rw [Go.Sort.size_putRow]; exact aa)];unfold putRow mapBlock;have q8:(Go.Sort.ahead w n).heap=w.heap:=rfl;simp only [q8,Array.getElem?_modify,if_neg (Ne.symm dr)]
theorem ML {α:Type} [Inhabited α] {enc:α->Value}{b n:Nat}{d:Array α}{os:Array Obj}{U:bb}(ga:U b):Fr w (sortWorld enc w b 0 n d os) U:=by
 refine ⟨rfl,rfl,rfl,?_,λc aa aF=>Ii aa λe=>aF (e ▸ ga),λa aP=>?_,?_⟩
 ·unfold sortWorld; rw [size_grow,Go.Sort.size_putRow]; exact Nat.le_add_right _ _
 ·unfold sortWorld;rw [frozen?_grow _ _ _ (by rw [Go.Sort.size_putRow]; exact aP),Go.Sort.frozen?_putRow]; rfl
 ·show w.drawn<=w.drawn+n;exact Nat.le_add_right _ _
theorem Pr {α:Type} [Inhabited α] {enc:α->Value}{d:Array α}{cur:Array Value}(h:d.size<=cur.size):(putCells enc 0 d cur).toList.take d.size=d.toList.map enc:=by
 apply List.ext_getElem?;intro k;rw [List.getElem?_take,List.getElem?_map];by_cases hk:k<d.size
 ·rw [if_pos hk,Array.getElem?_toList,Array.getElem?_toList];have aa:k<cur.size:=by omega
  simp only [putCells,Array.getElem?_mapIdx,Array.getElem?_eq_getElem aa,Array.getElem?_eq_getElem hk,Option.map_some];rw [if_pos ⟨Nat.zero_le _,by omega⟩,Nat.sub_zero];simp [getElem!_pos,hk]
 ·rw [if_neg hk,Array.getElem?_toList,Array.getElem?_eq_none (by omega)]; rfl
theorem bT.Kz {ρ:Ren}(L:SlLaysF.n6 P ρ) {g:FuncId}{caps:List ab} [w8:dq caps] (aO:gM P g=true) {l r:List Int}{fU:Int->Int->Option Int}(h:pV fU l=some r)
  (aa:∀ a b v,fU a b=some v->bT P g (ae a::ae b::caps) (none::none::caps.map λ_=>none) (ae v)) :
  bT P (ρ.f 6) [aj ai l,.cW (.func g) [] caps] [some (aj ai r),none] (.bW []):=by
 refine ⟨rfl,λw I vs Fs ak bk=>?_⟩;obtain ⟨v0,v1,rfl⟩:∃ v0 v1,vs=[v0,v1]:=by
  match vs,ak with
  | [a,b],_=>exact ⟨a,b,rfl⟩
 obtain ⟨xg,lf,IP,rfl⟩:=P6 h;obtain ⟨u,hu,aZ⟩:=bk.rel 0 (aj ai l) rfl;obtain rfl:v0=u:=by simpa using hu
 replace aZ:=aZ.gI (by simp);obtain ⟨u,hu,ql⟩:=bk.rel 1 (.cW (.func g) [] caps) rfl;obtain rfl:v1=u:=by simpa using hu
 replace ql:=ql.gI (by simp);rw [show aj ai l=.own 1 l.length (bp ai l) from rfl,Pz] at aZ
 cases aZ with
 | ref J=>simp [ab.isRef] at J
 | @own _ _ _ _ e us bM _ a1 xc hp ao aS av aN =>
 cases ql with
 | ref J=>simp [ab.isRef] at J
 | @cW _ _ _ aE j9 _ zh h1 af kt iN =>
 obtain rfl:aE=#[]:=Array.eq_empty_of_size_eq_zero (by simpa using h1.symm);have mr:∀ c,Fs 0 c↔v0.ownBlock=some c:=by
  intro c;refine ⟨λaa=>?_,λaa=>(aN c).2 (.inl aa)⟩;rcases (aN c).1 aa with h | ⟨k,hk,h⟩
  ·exact h
  ·have J:=List.getElem?_eq_getElem hk;have hu:=List.getElem?_eq_getElem (xc ▸ hk);have aZ:=ao k _ _ J hu;rw [List.getElem_map] at aZ;generalize us[k]=gZ at aZ;cases aZ with
   | lit _ aW=>exact (aW c h).elim
   | ref J=>simp [ab.isRef] at J
 have l9:us=l.map (Value.int .i64):=by
  apply List.ext_getElem?;intro k;by_cases hk:k<us.length
  ·have h_:k<(l.map ae).length:=xc.symm ▸ hk;have J:=List.getElem?_eq_getElem h_;have hu:=List.getElem?_eq_getElem hk;have aZ:=ao k _ _ J hu;rw [List.getElem_map] at aZ;rw [hu,aZ.hB.1,List.getElem?_map,List.getElem?_eq_getElem (by simpa using h_)]; rfl
  ·rw [List.getElem?_eq_none (by omega),List.getElem?_eq_none (by rw [List.length_map] at xc ⊢; omega)]
 subst l9;have BY:=sS (kv fU) l;have hlen:=BY.length_eq;by_cases xe:l=[]
 ·subst xe;have jd:∃ p cap,v0=.slice p 0 cap:=by
   rcases a1.2 with ⟨rfl,_⟩ | ⟨b,cap,cur,rfl,_⟩
   ·exact ⟨_,_,rfl⟩
   ·exact ⟨_,_,rfl⟩
  obtain ⟨p,cap,rfl⟩:=jd;refine (AnyF.slices_SortFunc_none { L with } p cap _ w).mono ?_;rintro cj w' ⟨rfl,rfl⟩;exact P7 rfl bk (e:=e) (r:=[]) a1 mr (Fr.refl _ _)
 ·obtain ⟨NN,H'⟩:=a1;rcases H' with ⟨rfl,aR⟩ | ⟨b,cap,cur,rfl,_,tU,hle,IF,fY,gj⟩
  ·exact absurd (List.eq_nil_of_length_eq_zero aR) xe
  rw [Nat.mul_one] at fY gj;have tR:Fs 0 b:=(mr b).2 rfl;have H8:b<w.heap.size:=(Array.getElem?_eq_some_iff.1 tU).1;obtain ⟨a0,w0⟩:=List.exists_mem_of_ne_nil l xe
  let α:={ x:Int // x∈l }
  haveI:Inhabited α:=⟨⟨a0,w0⟩⟩
  let enc:α->Value:=λx=>.int .i64 x.1
  let kK:α->α->Int:=λx y=>(fU x.1 y.1).getD 0;have aT:∀ x y:α,ltOf kK x y=kv fU x.1 y.1:=λx y=>rfl
  let d:Array α:=l.attach.toArray;have zo:d.size=l.length:=by show (l.attach.toArray).size=l.length; rw [List.size_toArray,List.length_attach]
  have je:=O7 lf;have hO:SWO (ltOf kK):=by
   refine ⟨λx=>by rw [aT]; exact (je x.1 x.2).1,λx y z=>?_,λx y z=>?_⟩
   ·rw [aT,aT,aT];exact λp q=>(((je x.1 x.2).2 y.1 y.2).2 z.1 z.2).1 ⟨p,q⟩
   ·rw [aT,aT,aT];intro p q;rcases (((je x.1 x.2).2 y.1 y.2).2 z.1 z.2).2 with h | h | h
    ·rw [p] at h; cases h
    ·rw [q] at h; cases h
    ·exact h
  have dL:∀ x y:α,ltOf kK x y=false->ltOf kK y x=false->x=y:=by
   intro x y p q;rw [aT] at p q;rcases ((je x.1 x.2).2 y.1 y.2).1 with h | h | h
   ·rw [p] at h; cases h
   ·rw [q] at h; cases h
   ·exact Subtype.ext h
  have l5:∀ j,j<l.length->cur[j]?=some (.int .i64 l[j]!):=by
   intro j ah;have:=congrArg (λt=>t[j]?) gj;simp only [List.getElem?_take,if_pos ah,Array.getElem?_toList,List.getElem?_map,List.getElem?_eq_getElem ah,Option.map_some] at this;rw [this,getElem!_pos l j ah]
  have hH:Holds enc w b 0 d:=by
   intro j ah;rw [zo] at ah;refine ⟨?_,?_⟩
   ·unfold World.cell?;simp only [tU,Nat.zero_add];show cur[j]?=_;rw [l5 j ah];show some (Value.int .i64 l[j]!)=some (.int .i64 (d[j]!).1);have:(d[j]!).1=l[j]! := by
     rw [getElem!_pos d j (by omega),getElem!_pos l j ah];show (l.attach.toArray[j]'_).val=_;rw [List.getElem_toArray,List.getElem_attach]
    rw [this]
   ·unfold World.frozen?;simp only [tU];simp
  have Ho:∀ args w,(callFunc g args).run P w=.ok (.enter g args) w:=λargs w=>Bc aO args;have Ic:CmpLays1 P g j9 enc kK b 0 d.size w:=by
   intro m os Bg zn x y;have rf:=xg x.1 x.2 y.1 y.2;obtain ⟨v,hv⟩:=Option.isSome_iff_exists.1 rf;have Ia:kK x y=v:=by show (fU x.1 y.1).getD 0=v; rw [hv]; rfl
   have HW:cF (sortWorld enc w b 0 m Bg os) I #[] (λ_=>none) (λ_=>cy):=by
    refine ⟨λ_ _ h=>(by cases h),λ_ _ _ h=>h,λ_ _ _ h=>h.elim,λ_ _ h=>h.elim,λc aa=>?_,λ_ _ _ _ _ _ _ _ _ _ _ h=>(by cases h)⟩;have:=bk.lt c aa;unfold sortWorld;rw [size_grow,Go.Sort.size_putRow];exact Nat.lt_of_lt_of_le this (Nat.le_add_right _ _)
   have sF:=HW.args (I':=I) (λc h=>.inl h) (args:=ae x.1::ae y.1::caps) (vs:=enc x::enc y::j9.toList) (by simp [af]) (λρ' k z u aY hu=>?_)
   ·have py:=(aa x.1 y.1 v hv).2 _ I (enc x::enc y::j9.toList) _ (by simp [af]) sF;have ka:(enc x::enc y::j9.toList).toArray=#[enc x,enc y]++j9:=by
     apply Array.ext';simp
    rw [ka] at py;refine py.mono ?_;rintro cj w' ⟨gx,I',b7,rfl,dX,b0⟩;obtain ⟨u,hu,mV⟩:=dX.rel (caps.length+2) (ae v) (by simp [kV]);have IX:u=gx:=by
     have:(enc x::enc y::j9.toList).length=caps.length+2:=by simp [af]
     rw [List.getElem?_toArray,<- this] at hu;simpa using hu.symm
    subst IX;have oc:=(mV.gI (by simp)).hB.1;subst oc;refine ⟨by rw [Ia],?_⟩;exact MQ (b0.eT.mono λc _ ⟨_,bY⟩=>bY)
   ·match k,aY,hu with
    | 0,aY,hu=>cases aY; cases hu; exact .lit rfl λ_ h=>h
    | 1,aY,hu=>cases aY; cases hu; exact .lit rfl λ_ h=>h
    | k+2,aY,hu =>
     simp only [List.getElem?_cons_succ] at aY hu;have zj:=(iN k z u aY (by simpa using hu)).bm (ρ':=ρ') (w8.bm z (List.mem_of_getElem? aY));refine zj.frame (λc aa=>?_) (λ_ h=>h) (λ_ _ h=>h) (λc h=>h.elim);exact Ii (bk.lt c aa) λe=>bk.bj 0 c (e ▸ tR) aa
  have BN:=Any.slices_SortFunc_total L enc (λ_=>rfl) kK hO g j9 b 0 cap d w Ho Ic hH H8 (by rw [zo]; exact IP) dL;rw [zo] at BN;refine BN.mono ?_;rintro cj w' ⟨rfl,n,os,rfl⟩;have og:(d.toList.mergeSort λx y=>!ltOf kK y x).map enc=(h' (kv fU) l).map (Value.int .i64):=by
   rw [Ow hO dL];have hm:(h' (ltOf kK) l.attach).map Subtype.val=h' (kv fU) (l.attach.map Subtype.val):=EZ (lt:=ltOf kK) (lt':=kv fU) (f:=Subtype.val) (λa b=>aT a b) l.attach;rw [List.attach_map_subtype_val] at hm;rw [<- hm,List.map_map];rfl
  have Nv:(d.toList.mergeSort λx y=>!ltOf kK y x).toArray.size=l.length:=by
   rw [List.size_toArray,(List.mergeSort_perm _ _).length_eq];show (l.attach.toArray).toList.length=l.length;simp
  refine P7 rfl bk (e:=e) (r:=h' (kv fU) l) ⟨by simp,.inr ⟨b,cap,_,by rw [hlen],Nat.zero_le _,Nx tU,by omega,IF,?_,?_⟩⟩ mr (ML tR)
  ·rw [Nat.mul_one,<- fY];simp [putCells]
  ·rw [Nat.mul_one,hlen,<- Nv,Pr (by rw [Nv]; omega),<- og]
end
end Go.Own
namespace Go.Own
open Go
section
variable {α:Type}{P:Program}{N:c6}{g g1 g2 g3:aM}{ops:Array Oper}{bd:List (List Nat)}{acc:Acc}{l:List Oper}{K:aM->Prop}{i d r:Nat}
theorem cF.settle {w:World}{I:bb}{T:Array Value}{Fs:Nat->bb}(h:cF w I T g Fs) (a:Act) (aP:a.tmps=T) {ts:List Nat}{xs ys:List ab}(J:Own.gk g (ts.map Operand.tmp)=some xs) (aw:Take g xs ys g1) (fp:ts.Nodup) (ak:ys.length=ts.length) (aS:∀ t∈ts,g1 t=some .dead)
  (hk:hD (qH g1 ((ts.map λt=>(⟨t,[]⟩:Place)).zip ys)) g2):∃ b7,cF w I T g2 b7/\∀ c,(∃ t,b7 t c)->∃ t,Fs t c:=by
 obtain ⟨Jb,WE⟩:=zT h aP J;have WD:xs.length=ts.length:=by rw [Jb,List.length_map]
 have hand:Hand w I (fC w T) Fs xs (ts.map λt=>a.eval (.tmp t)) (λ_=>cy):=by
  refine ⟨by rw [WD,List.length_map],λk x u qz hu=>?_,λ_ _ _ _ _ h=>h.elim,λ_ _ _ _ h=>h.elim,λ_ _ _ h=>h.elim⟩;rw [List.getElem?_map] at hu;cases gj:ts[k]? with
  | none=>rw [gj] at hu; cases hu
  | some t =>
   rw [gj] at hu; cases hu;exact (WE k x (.tmp t) qz (by rw [List.getElem?_map,gj]; rfl)).frame (λ_ _=>rfl) (λ_ h=>h) (λ_ _ h=>h.1) λ_ _=>rfl
 obtain ⟨f_,H1,jc,iL,hN⟩:=aw.sound h.mE hand;have vv:((ts.map λt=>(⟨t,[]⟩:Place)).zip ys).length=ts.length:=by rw [List.length_zip,List.length_map,ak]; exact Nat.min_self _
 obtain ⟨iY,h8,aN⟩:=jE.qH ((ts.map λt=>(⟨t,[]⟩:Place)).zip ys) H1 (λj=>((ts.map λt=>a.eval (.tmp t))[j]?).getD undef) jc (by
   rw [List.map_fst_zip (by rw [List.length_map,ak]; exact Nat.le_refl _)];exact List.Pairwise.map _ (λa b h e=>h (congrArg Place.root e)) fp) (λj p x ah=>by
   rw [List.getElem?_zip_eq_some] at ah;obtain ⟨h1,af⟩:=ah;rw [List.getElem?_map] at h1;cases gj:ts[j]? with
   | none=>rw [gj] at h1; cases h1
   | some t =>
    rw [gj] at h1; cases h1;have Nw:=aS t (List.mem_of_getElem? gj);obtain ⟨v,hv,_⟩:=jc.rel t .dead Nw;have tT:a.eval (.tmp t)=v:=by simp [Act.eval,aP,hv]
    have IW:(ts.map λt=>a.eval (.tmp t))[j]?=some v:=by rw [List.getElem?_map,gj]; simp [tT]
    refine ⟨by simp [bD,Nw,ab.at],?_,?_⟩
    ·rw [IW];show dW w T ⟨t,[]⟩=some v;unfold dW;simp only [hv,walk]
    ·rw [IW];exact iL.rel j x v af IW) (λj t c ah aa=>iL.off j t c (by omega) aa) (λj c ah aa=>iL.bj j c (by omega) aa) (λi j c hi ah h1 af=>iL.eJ i j c (by omega) (by omega) h1 af)
 refine ⟨_,h8.keep hk,λc ⟨t,_,aa⟩=>?_⟩;have:lq f_ ys.length H1 c:=by
  rcases aN t c aa with h | ⟨j,ah,h⟩
  ·exact .inl ⟨t,h⟩
  ·exact .inr ⟨j,by omega,h⟩
 rcases hN c this with h | ⟨_,_,h⟩
 ·exact h
 ·exact h.elim
theorem iy.settle {o:Oper}{ts:List Nat}{xs ys:List ab}(J:Own.gk g (ts.map Operand.tmp)=some xs) (aw:Take g xs ys g1) (fp:ts.Nodup) (ak:ys.length=ts.length) (aS:∀ t∈ts,g1 t=some .dead)
  (hk:hD (qH g1 ((ts.map λt=>(⟨t,[]⟩:Place)).zip ys)) g2) (he:iy P N g2 o g3):iy P N g o g3:=by
 intro w I T Fs bk a aP bc K Q dj;obtain ⟨b7,dX,ga⟩:=bk.settle a aP J aw fp ak aS hk;refine he w I T b7 dX a aP bc K Q λb' w' aF aw=>dj b' w' ?_ aw;obtain ⟨cA,cf,I',iY,h1,af⟩:=aF;exact ⟨cA,cf,I',iY,h1,kn.trans ⟨Fr.refl _ _,λ_ h=>h,λ_ h=>.inl h,λc h=>.inl (ga c h)⟩ af⟩
theorem Rl {Q:Nat->Prop}{a:Nat}(aP:Q a):∀ t∈[a],Q t:=λt aw=>by rw [List.mem_singleton.1 aw]; exact aP
theorem wv {Q:Nat->Prop}{a b:Nat}(aP:Q a) (av:Q b):∀ t∈[a,b],Q t:=λt aw=>by
 rcases List.mem_cons.1 aw with rfl | aw
 ·exact aP
 ·rw [List.mem_singleton.1 aw]; exact av
def Fz (p q:Place):Bool:=Nat.beq p.root q.root&&p.path == q.path
def Cx:List Place->Bool
 | []=>true
 | x::l=>l.all (λy=>!Fz x y)&&Cx l
theorem ON:∀ {l:List Place},Cx l=true->l.Nodup
 | [],_=>List.nodup_nil
 | p::l,h=>by
  simp only [Cx,Bool.and_eq_true,List.all_eq_true] at h;refine List.nodup_cons.2 ⟨λhm=>?_,ON h.2⟩;have:=h.1 p hm;simp [Fz] at this
def Xc (p:Place) (acc:Acc):Bool:=acc.all λe=>match j1 e with | some q=>!Fz p q | none=>true
theorem vD {p:Place}{G:List (Nat × ab)}{A:Nat->Bool}(h:Xc p acc=true) (c_:mc G=true):∀ t z n m new,dh (get G) A acc t≠some (.bL z p n m new):=by
 intro t z n m new e;rcases uJ e with ⟨cj,he,h1,_,af⟩ | ⟨_,af⟩
 ·have:=List.all_eq_true.1 h cj he;obtain ⟨k,d,x⟩:=cj;simp only at af;subst af;simp [j1,Fz] at this
 ·exact vF c_ _ _ _ _ _ _ af
theorem O.tp {en:bJ α}{L M r:List α}{y:ab}{e gL:Nat}{a b:Operand}{p:Place}{t ty:TypeId}(aC:Rd g a (.a6 en.z p L.length)) (au:bD g p=some (aj en L)) (J:Rd g b y) (hm:n3 g en y M) (aw:jG P t e en.z gL=true) (av:Nat.ble gL 128=true) (h:db L M=some r) (e8:∀ t z n m new,g t≠some (.bL z p n m new)) :
  ch P g (.call { callee:=.builtin .append,args:=#[a,b],argTypes:=#[t,t] }) ty (.bL en.z p L.length M.length (bp en M)):=by
 obtain ⟨h1,af,_⟩:=yY h av;exact .lR (.grow aC.bs (.inl ⟨_,au⟩) (λt bE cE m' c3 e=>e8 _ _ _ _ _ e) J.bs hm.src aw h1 af)
theorem bA.wG (bG:Nat) {G G2:List (Nat × ab)}{o:Oper}(he:iy P N (dh (get G) (λm=>(bd.getD bG []).contains m) acc) o (get G2)) (aO:o.guard=none) (gQ:Cx (acc.filterMap j1)=true) (fH:mc G=true) (ah:Nat.beq ops.size (bG+l.length+1)=true)
  (ga:acc.filter (λe=>!(bd.getD bG []).contains e.1)=[])
  (av:(List.range ops.size).all (λk=>Nat.ble k bG||(bd.getD k []).contains bG)=true) (hk:bA P N ops bd (get G2) (bG+1) [] l K):bA P N ops bd (get G) i acc (o::l) K:=by
 intro dV j cx kP k_;have:=zc k_ ah;subst this;obtain ⟨h1,af⟩:=drop_cons k_;obtain ⟨g',ao,dj⟩:=hk [] (j+1) .nil .nil af;refine ⟨g',.wC (U:=[]) (rs:=sk []) kP (ON gQ) (vF fH) h1 ?_ he.v (λp au=>by simp [sk] at au) ga.symm (by simp) (by simp) (by simp) ?_ ao,dj⟩
 ·unfold iA; rw [aO]
 ·refine List.all_eq_true.2 λk hk=>?_;have:=List.all_eq_true.1 av k hk;simp only [Bool.or_eq_true,decide_eq_true_eq,Nat.ble_eq] at this ⊢;exact this
theorem iy.cell {o:Oper}{r k0:Nat}{y:ab}{cs:List ab}{g5:aM}(ao:g r=some (.obj cs)) (ax:cs[k0]?=some y) (xq:cU y)
  (vj:∀ v:Value,v.oneCell'=true->∃ g1 g4,hD (cv g ⟨r,[k0]⟩ (.lit v)) g1/\iy P N g1 o g4/\bD g4 ⟨r,[k0]⟩=some (.lit v)/\hD (cv g4 ⟨r,[k0]⟩ y) g5):o9 P N (λp=>p∈[(⟨r,[k0]⟩:Place)]) g o g5:=by
 intro w I T Fs h a aP bc K Q dj;have la:∀ z q n m new,y≠.bL z q n m new:=by rintro z q n m new rfl; cases xq
 have gq:bD g ⟨r,[k0]⟩=some y:=by simp [bD,ao,ab.at,ab.kids,ax]
 obtain ⟨v,cB,hv,dI,dy,put⟩:=h.mE.part gq la;have uc:v.oneCell'=true:=by
  obtain ⟨u,hu,mU⟩:=h.rel r _ ao;obtain ⟨b,v',h1,af,aI,bK,_⟩:=R.node (z:=0) (n:=0) (mU.gI (by simp)) (.inr rfl) ax;have:dW w T ⟨r,[k0]⟩=child w u k0:=by
   unfold dW;simp only [hu,walk];cases child w u k0 <;> rfl
  rw [this,aI] at hv;cases hv;exact bK
 obtain ⟨f_,jc,zh,Br⟩:=put (.lit v) cy (.lit uc λ_ h=>h) (λ_ h=>h.elim) (λ_ h=>h.elim) (λ_ _ _ h=>h.elim);obtain ⟨g1,g4,hb,dd,H2,It⟩:=vj v uc;have uG:∀ t c,f_ t c->Fs t c/\¬ cB c:=by
  intro t c aa;by_cases aw:t=r
  ·subst aw;rcases (zh c).1 aa with aQ | aQ
   ·exact aQ
   ·exact aQ.elim
  ·rw [Br t aw] at aa;exact ⟨aa,λaW=>aw (h.eJ t r c aa (dy c aW))⟩
 have HS:=jc.keep hb;refine dd w I T _ HS a aP bc K Q λb' w' aF sO=>?_;obtain ⟨cA,cf,I',b7,dX,b0⟩:=aF;obtain ⟨v2,iX,B8,mv,T6,J'⟩:=dX.mE.part H2 (by simp);have IV:v2=v:=mv.hB.1;subst IV;have M0:∀ c,cB c->¬ I c:=λc aa=>h.bj r c (dy c aa);have Bt:∀ c,cB c->c<w.heap.size:=λc aa=>h.j0 r c (dy c aa);have CF:∀ c,cB c->¬ ∃ t,(g1 t≠none/\f_ t c):=λc aa ⟨t,_,aQ⟩=>(uG t c aQ).2 aa;have CE:∀ t c,b7 t c->¬ cB c:=by
  intro t c aa aW;rcases b0.own c ⟨t,aa⟩ with aQ | aQ
  ·exact CF c aW aQ
  ·have:=Bt c aW; omega
 have JU:∀ c,cB c->¬ I' c:=by
  intro c aa hi;rcases b0.new c hi with aQ | aQ | aQ
  ·exact M0 c aa aQ
  ·exact CF c aa aQ
  ·have:=Bt c aa; omega
 have Kn:∀ c,cB c->w'.heap[c]?=w.heap[c]?:=λc aa=>b0.eT.block c (Bt c aa) (CF c aa);have sm:∀ c,I c->w'.heap[c]?=w.heap[c]?:=λc aa=>b0.eT.block c (h.lt c aa) λ⟨t,_,aQ⟩=>h.bj t c (uG t c aQ).1 aa;have Bz:R w' I' (fC w' b'.tmps) y v2 cB:=((dI.bm xq).frame sm b0.more (λ_ _ h=>h) Kn);obtain ⟨K8,HU,MX,HK⟩:=J' y cB Bz (λc aa aW=>(CE _ c aW aa).elim) (λc aa=>JU c aa) (λt c _ aa aW=>CE t c aW aa);have tJ:=HU.keep It;refine dj b' w' ⟨cA,cf,I',_,tJ,⟨?_,b0.more,λc aa=>?_,λc aa=>?_⟩⟩ sO λdn path au y' oR acz=>?_
 ·exact b0.eT.mono λb _ ⟨t,_,aQ⟩=>⟨t,(uG t b aQ).1⟩
 ·rcases b0.new c aa with aQ | ⟨t,_,aQ⟩ | aQ
  ·exact .inl aQ
  ·exact .inr (.inl ⟨t,(uG t c aQ).1⟩)
  ·exact .inr (.inr aQ)
 ·obtain ⟨t,_,aa⟩:=aa;have:(∃ t,b7 t c)\/cB c:=by
   by_cases aw:t=r
   ·subst aw;rcases (MX c).1 aa with ⟨aQ,_⟩ | aQ
    ·exact .inl ⟨_,aQ⟩
    ·exact .inr aQ
   ·rw [HK t aw] at aa; exact .inl ⟨t,aa⟩
  rcases this with aQ | aQ
  ·rcases b0.own c aQ with ⟨t,_,jb⟩ | jb
   ·exact .inl ⟨t,(uG t c jb).1⟩
   ·exact .inr jb
  ·exact .inl ⟨r,dy c aQ⟩
 ·have au:(⟨dn,path⟩:Place)∈[(⟨r,[k0]⟩:Place)]:=au;have au:=List.mem_singleton.1 au;cases au;rw [hv,B8]
end
end Go.Own
namespace Go.Own
open Go
section
variable {α:Type}{P:Program}{N:c6}{g:aM}{ops:Array Oper}{l:List Oper}{K:aM->Prop}{r n:Nat}{t e ty:TypeId}{a b:Operand}{m:Int}{en:bJ α}{L:List α}{y y2:α}{k:IntKind}{pos:String}{after:Array Edge}
def xr {α:Type}(n:Nat) (l:List α) (i:Int):Option α:=if i<n then idx l i else none
theorem Jg (h:xr n L m=some y):m<n/\idx L m=some y:=by
 unfold xr at h
 split at h
 ·exact ⟨by assumption,h⟩
 ·cases h
theorem Ry (aY:Nat.blt 0 en.z=true) (h:idx L m=some y):m.toNat * en.z<(bp en L).length:=by
 obtain ⟨aR,h1,_⟩:=pJ h;rw [nm];exact Nat.mul_lt_mul_of_pos_right (by omega) (by simpa using aY)
theorem O.Ox (aC:g r=some (.obj (bp en L))) (aY:Nat.blt 0 en.z=true) (hi:Rd g b (.lit (.int k m))) (aw:yZ P t e n en.z=true) (h:xr n L m=some y):ch P g (.indexAddr t (.tmp r) b) ty (.ptr ⟨r,[]⟩ (m.toNat * en.z)):=by
 obtain ⟨h1,af⟩:=Jg h;have aT:=Ry aY af;obtain ⟨aR,_,_⟩:=pJ af;have J:Own.bs g (.tmp r)=some (.ptr ⟨r,[]⟩ 0):=by
  cases aa:bp en L with
  | nil=>rw [aa] at aT; simp at aT
  | cons c cs=>simp [Own.bs,aC,aa,ru,gv]
 have hm:((m.toNat:Nat):Int)=m:=by omega
 have:=c7.ET (P:=P) (g:=g) (ty:=ty) (k:=0) (j:=m.toNat) J (by rw [hm]; exact hi.bs) aw (by omega) ⟨.obj (bp en L),by simp [bD,aC,ab.at],0,0,_,.inr rfl,by rw [Nat.zero_add]; exact aT⟩;rw [Nat.zero_add] at this;exact .eW this
theorem O.W1 {x:ab}(aC:g r=some (.obj (bp en L))) (aP:Rd g a (.ptr ⟨r,[]⟩ (m.toNat * en.z))) (h:idx L m=some y) (J:(en.cells y)[0]?=some x) (aw:jq P t=true) (aF:∀ p,gv 0 p x=x):ch P g (.load t a) ty x:=by
 have:=Ki en h J;rw [Nat.add_zero] at this;exact O.mA aC aP aw this (aF _)
theorem ar.Yf {KS:ab}{cs':List ab}{G2:List (Nat × ab)}(aC:g r=some (.obj (bp en L))) (aY:Nat.blt 0 en.z=true) (aP:Rd g a (.ptr ⟨r,[]⟩ (m.toNat * en.z))) (av:Rd g b KS) [aF:cg KS] (h:idx L m=some y) (aa:oH KS=some cs') (hF:cs'=en.cells y2) (fY:hl P t cs'.length=true)
  (ao:(get G2 r).isSome=true) (c_:k6 g (get G2) r (bp en (L.set m.toNat y2)) G2) (hk:ar P N ops l (get G2) K):ar P N ops (⟨none,.store t a b,ty,pos,after,none⟩::l) g K:=by
 have hlen:cs'.length=en.z:=by rw [hF,en.len]
 obtain ⟨aR,h1,_⟩:=pJ h;refine .jh aC aP av aa fY ?_ ?_ ?_ ao c_ hk
 ·rw [hlen,nm];simp only [Nat.ble_eq];have:(m.toNat+1) * en.z<=L.length * en.z:=Nat.mul_le_mul_right _ (by omega);rw [Nat.add_mul,Nat.one_mul] at this;exact this
 ·rw [hlen]; exact aY
 ·have:=Kh en h (o:=0) (cs':=cs') (y2:=y2) (by
   subst hF;have ak:(en.cells y2).length=(en.cells y).length:=by rw [en.len,en.len]
   unfold e5;rw [List.take_zero,List.nil_append,Nat.zero_add,ak,List.drop_length,List.append_nil]) (by omega)
  rw [Nat.add_zero] at this;exact this
end
end Go.Own
namespace Go.Own
open Go Go.Proofs Go.Shelf Go.Lib Go.Sort
section
variable {P:Program}{w:World}
class lv {α:Type}(e:bJ α) where
 rH:α->List Value
 cells:∀ a,e.cells a=(rH a).map .lit
 one:∀ a,∀ v∈rH a,v.oneCell'=true
variable {α:Type}{e:bJ α}
theorem lv.len [h:lv e] (a:α):(h.rH a).length=e.z:=by
 have:=e.len a;rw [h.cells,List.length_map] at this;exact this
def ph (e:bJ α) [h:lv e] (l:List α):List Value:=l.flatMap h.rH
theorem FL [h:lv e]:∀ l:List α,bp e l=(ph e l).map .lit
 | []=>rfl
 | a::l=>by
  have:bp e (a::l)=e.cells a++bp e l:=by simp [bp]
  rw [this,FL l,h.cells];simp [ph]
theorem Hu [h:lv e] (l:List α):(ph e l).length=l.length * e.z:=by
 have:=nm e l;rw [FL,List.length_map] at this;exact this
theorem MJ [h:lv e] {l:List α}:∀ v∈ph e l,v.oneCell'=true:=by
 intro v hv;obtain ⟨a,_,hv⟩:=List.mem_flatMap.1 hv;exact h.one a v hv
theorem MI [h:lv e]:∀ (l:List α) (i j:Nat) (a:α),l[i]?=some a->j<e.z->(ph e l)[i * e.z+j]?=(h.rH a)[j]?
 | [],i,j,a,aP,_=>by simp at aP
 | b::l,0,j,a,aP,ah=>by
  simp only [List.getElem?_cons_zero,Option.some.injEq] at aP;subst aP;simp only [ph,List.flatMap_cons,Nat.zero_mul,Nat.zero_add];rw [List.getElem?_append_left (by rw [lv.len]; exact ah)]
 | b::l,i+1,j,a,aP,ah=>by
  simp only [List.getElem?_cons_succ] at aP;have:=MI l i j a aP ah;simp only [ph,List.flatMap_cons] at this ⊢;rw [List.getElem?_append_right (by rw [lv.len,Nat.add_mul]; omega),lv.len,<- this];congr 1;rw [Nat.add_mul]; omega
theorem MH {β:Type} [Inhabited β] [h:lv e] (f:β->α) (d:Array β):(flatK (λx=>h.rH (f x)) e.z d).toList=ph e (d.toList.map f):=by
 apply List.ext_getElem?;intro t;by_cases aw:t<d.size * e.z
 ·have aY:0<e.z:=by
   rcases Nat.eq_zero_or_pos e.z with aR | aR
   ·rw [aR] at aw; omega
   ·exact aR
  have h1:t / e.z<d.size:=Nat.div_lt_of_lt_mul (by rw [Nat.mul_comm]; exact aw);have af:t % e.z<e.z:=Nat.mod_lt _ aY;have aP:(d.toList.map f)[t / e.z]?=some (f d[t / e.z]!):=by
   rw [List.getElem?_map,Array.getElem?_toList,Array.getElem?_eq_getElem h1,getElem!_pos d _ h1]; rfl
  have:=MI (e:=e) _ (t / e.z) (t % e.z) _ aP af;rw [Nat.mul_comm,Nat.div_add_mod] at this;rw [this,Array.getElem?_toList,Array.getElem?_eq_getElem (by simpa using aw),<- getElem!_pos (flatK (λx=>h.rH (f x)) e.z d) t (by simpa using aw),get_flatK _ _ _ _ aw];have aI:t % e.z<(h.rH (f d[t / e.z]!)).length:=by rw [lv.len]; exact af
  rw [getElem!_pos (h.rH (f d[t / e.z]!)) (t % e.z) aI,List.getElem?_eq_getElem aI]
 ·rw [List.getElem?_eq_none (by simp; omega),List.getElem?_eq_none (by rw [Hu,List.length_map,Array.length_toList]; omega)]
theorem P8 [h7:lv e] {vs:List Value}{v0 v1:Value}(xi:vs=[v0,v1]) {I:bb}{Fs:Nat->bb}{g:aM}(bk:cF w I vs.toArray g Fs) {w':World}{t:TypeId}{r:List α}(a1:w'.ownsRow 0 t e.z v0 r.length (ph e r)) (aN:∀ c,Fs 0 c↔v0.ownBlock=some c) (oN:Fr w w' λc=>Fs 0 c) :
  ∃ v I' b7,Ending.returned (.tuple #[])=.returned v/\cF w' I' (vs++[v]).toArray (kV [some (aj e r),none] (.bW [])) b7/\kn w I (λc=>∃ t,Fs t c) w' I' (λc=>∃ t,b7 t c):=by
 subst xi;refine ⟨_,I,λt=>if t=0 then Fs 0 else cy,rfl,⟨λt x J=>?_,λt aw c aa=>?_,λt t' c aa fo=>?_,λt c aa=>?_,λc aa=>Nat.lt_of_lt_of_le (bk.lt c aa) oN.size,λt t' z p n m new bE cE m' c3 h1 af=>?_⟩,⟨?_,λc h=>h,λc h=>.inl h,λc aa=>?_⟩⟩
 ·unfold kV at J
  split at J
  ·rename_i aw;have aw:t=2:=aw;subst aw;cases J;exact ⟨.tuple #[],rfl,.tree (.bW (Fs:=λ_=>cy) rfl (λk x u h=>by simp at h) (λj k c h=>by simp at h) (λc=>⟨λh=>h.elim,λ⟨k,h,_⟩=>by simp at h⟩))⟩
  ·match t,J with
   | 0,J =>
    cases J;refine ⟨v0,rfl,.tree ?_⟩;show R w' I _ (.own e.z r.length (bp e r)) v0 (Fs 0);rw [FL];refine .own (Fs:=λ_=>cy) a1 (by simp) (λk u hu=>MJ u (List.mem_of_getElem? hu)) (λk x u J hu=>?_) (λ_ _ _ _ _ h=>h.elim) (λ_ _ _ h=>h.elim) (λc=>⟨λh=>.inl ((aN c).1 h),λh=>?_⟩)
    ·rw [List.getElem?_map,hu] at J;cases J;exact .lit (MJ u (List.mem_of_getElem? hu)) λ_ h=>h
    ·rcases h with h | ⟨_,_,h⟩
     ·exact (aN c).2 h
     ·exact h.elim
   | 1,J=>cases J
   | t+2,J=>cases J
 ·have aR:¬ t=0:=λe=>by subst e; exact absurd aw (by simp [kV])
  simp only [if_neg aR] at aa;exact aa
 ·have key:∀ {t:Nat},(if t=0 then Fs 0 else cy) c->t=0:=λ{t} h=>by
   by_cases aR:t=0
   ·exact aR
   ·rw [if_neg aR] at h; exact h.elim
  rw [key aa,key fo]
 ·by_cases aR:t=0
  ·simp only [if_pos aR] at aa; exact bk.bj 0 c aa
  ·simp only [if_neg aR] at aa; exact aa.elim
 ·unfold kV at h1
  split at h1
  ·cases h1
  ·match t,h1 with
   | 0,h1=>cases h1
   | 1,h1=>cases h1
   | t+2,h1=>cases h1
 ·exact oN.mono λb _ av=>⟨0,av⟩
 ·obtain ⟨t,aw⟩:=aa;by_cases aR:t=0
  ·simp only [if_pos aR] at aw; exact .inl ⟨0,aw⟩
  ·simp only [if_neg aR] at aw; exact aw.elim
theorem bT.YD [DecidableEq α] [u6:lv e] {ρ:Ren}(L:SlLaysF0.n6 P ρ) (Ra:∀ w,(isAgg (ρ.t 24)).run P w=.ok true w) (Zm:∀ w,(Go.sizeOf (ρ.t 24)).run P w=.ok e.z w) {g:FuncId}{caps:List ab} [w8:dq caps] (aO:gM P g=true) {l r:List α}{fU:α->α->Option Int}(h:pV fU l=some r)
  (aa:∀ a b v,fU a b=some v->bT P g (.agg (e.cells a)::.agg (e.cells b)::caps) (none::none::caps.map λ_=>none) (ae v)) :
  bT P (ρ.f 6) [aj e l,.cW (.func g) [] caps] [some (aj e r),none] (.bW []):=by
 refine ⟨rfl,λw I vs Fs ak bk=>?_⟩;obtain ⟨v0,v1,rfl⟩:∃ v0 v1,vs=[v0,v1]:=by
  match vs,ak with
  | [a,b],_=>exact ⟨a,b,rfl⟩
 obtain ⟨xg,lf,IP,rfl⟩:=P6 h;obtain ⟨u,hu,aZ⟩:=bk.rel 0 (aj e l) rfl;obtain rfl:v0=u:=by simpa using hu
 replace aZ:=aZ.gI (by simp);obtain ⟨u,hu,ql⟩:=bk.rel 1 (.cW (.func g) [] caps) rfl;obtain rfl:v1=u:=by simpa using hu
 replace ql:=ql.gI (by simp);rw [show aj e l=.own e.z l.length (bp e l) from rfl,FL] at aZ
 cases aZ with
 | ref J=>simp [ab.isRef] at J
 | @own _ _ _ _ t us bM _ a1 xc hp ao aS av aN =>
 cases ql with
 | ref J=>simp [ab.isRef] at J
 | @cW _ _ _ aE j9 _ zh h1 af kt iN =>
 obtain rfl:aE=#[]:=Array.eq_empty_of_size_eq_zero (by simpa using h1.symm);have mr:∀ c,Fs 0 c↔v0.ownBlock=some c:=by
  intro c;refine ⟨λaa=>?_,λaa=>(aN c).2 (.inl aa)⟩;rcases (aN c).1 aa with h | ⟨k,hk,h⟩
  ·exact h
  ·have J:=List.getElem?_eq_getElem hk;have hu:=List.getElem?_eq_getElem (xc ▸ hk);have aZ:=ao k _ _ J hu;rw [List.getElem_map] at aZ;generalize us[k]=gZ at aZ;cases aZ with
   | lit _ aW=>exact (aW c h).elim
   | ref J=>simp [ab.isRef] at J
 have l9:us=ph e l:=by
  apply List.ext_getElem?;intro k;by_cases hk:k<us.length
  ·have h_:k<((ph e l).map ab.lit).length:=xc.symm ▸ hk;have J:=List.getElem?_eq_getElem h_;have hu:=List.getElem?_eq_getElem hk;have aZ:=ao k _ _ J hu;rw [List.getElem_map] at aZ;rw [hu,aZ.hB.1,List.getElem?_eq_getElem (by simpa using h_)]
  ·rw [List.getElem?_eq_none (by omega),List.getElem?_eq_none (by rw [List.length_map] at xc; omega)]
 subst l9;have BY:=sS (kv fU) l;have hlen:=BY.length_eq;by_cases xe:l=[]
 ·subst xe;have jd:∃ p cap,v0=.slice p 0 cap:=by
   rcases a1.2 with ⟨rfl,_⟩ | ⟨b,cap,cur,rfl,_⟩
   ·exact ⟨_,_,rfl⟩
   ·exact ⟨_,_,rfl⟩
  obtain ⟨p,cap,rfl⟩:=jd;refine (AnyF.slices_SortFunc_none L p cap _ w).mono ?_;rintro cj w' ⟨rfl,rfl⟩;exact P8 rfl bk (t:=t) (r:=[]) a1 mr (Fr.refl _ _)
 ·obtain ⟨NN,H'⟩:=a1;rcases H' with ⟨rfl,aR⟩ | ⟨b,cap,cur,rfl,_,tU,hle,IF,fY,gj⟩
  ·exact absurd (List.eq_nil_of_length_eq_zero aR) xe
  have tR:Fs 0 b:=(mr b).2 rfl;have H8:b<w.heap.size:=(Array.getElem?_eq_some_iff.1 tU).1;obtain ⟨a0,w0⟩:=List.exists_mem_of_ne_nil l xe
  let β:={ x:α // x∈l }
  haveI:Inhabited β:=⟨⟨a0,w0⟩⟩
  let enc:β->List Value:=λx=>u6.rH x.1
  let kK:β->β->Int:=λx y=>(fU x.1 y.1).getD 0;have aT:∀ x y:β,ltOf kK x y=kv fU x.1 y.1:=λx y=>rfl
  let d:Array β:=l.attach.toArray;have Nt:d.toList.map Subtype.val=l:=by
   show (l.attach.toArray).toList.map Subtype.val=l;simp
  have zo:d.size=l.length:=by show (l.attach.toArray).size=l.length; rw [List.size_toArray,List.length_attach]
  have je:=O7 lf;have hO:SWO (ltOf kK):=by
   refine ⟨λx=>by rw [aT]; exact (je x.1 x.2).1,λx y z=>?_,λx y z=>?_⟩
   ·rw [aT,aT,aT];exact λp q=>(((je x.1 x.2).2 y.1 y.2).2 z.1 z.2).1 ⟨p,q⟩
   ·rw [aT,aT,aT];intro p q;rcases (((je x.1 x.2).2 y.1 y.2).2 z.1 z.2).2 with h | h | h
    ·rw [p] at h; cases h
    ·rw [q] at h; cases h
    ·exact h
  have dL:∀ x y:β,ltOf kK x y=false->ltOf kK y x=false->x=y:=by
   intro x y p q;rw [aT] at p q;rcases ((je x.1 x.2).2 y.1 y.2).1 with h | h | h
   ·rw [p] at h; cases h
   ·rw [q] at h; cases h
   ·exact Subtype.ext h
  have sG:(flatK enc e.z d).toList=ph e l:=by
   have:=MH (e:=e) (λx:β=>x.1) d;rw [Nt] at this;exact this
  have hH:HoldsK enc e.z w b 0 d:=by
   intro j ah;have w_:j<(ph e l).length:=by rw [<- sG,Array.length_toList]; exact ah
   refine ⟨?_,?_⟩
   ·unfold World.cell?;simp only [tU,Nat.zero_add];show cur[j]?=_;have h1:=congrArg (λt=>t[j]?) gj;have zr:j<l.length * e.z:=by rw [<- Hu (e:=e)]; exact w_
    simp only [List.getElem?_take,if_pos zr,Array.getElem?_toList] at h1;rw [h1,<- sG,Array.getElem?_toList,Array.getElem?_eq_getElem ah,getElem!_pos (flatK enc e.z d) j ah];rfl
   ·unfold World.frozen?;simp only [tU];simp
  have Ho:∀ args w,(callFunc g args).run P w=.ok (.enter g args) w:=λargs w=>Bc aO args;have Nc:∀ (W:World) (I:bb) (ρ':ab->Value->Prop) (a:α),R W I ρ' (.agg (e.cells a)) (.agg (u6.rH a).toArray) λ_=>False:=by
   intro W I ρ' a;rw [u6.cells];refine .agg (Fs:=λ_=>cy) (by simp) (λk u hu=>u6.one a u ?_) (λk x u J hu=>?_) (λ_ _ _ _ _ h=>h.elim) (λc=>⟨λh=>h.elim,λ⟨_,_,h⟩=>h.elim⟩)
   ·rw [List.getElem?_toArray] at hu; exact List.mem_of_getElem? hu
   ·rw [List.getElem?_toArray] at hu;rw [List.getElem?_map,hu] at J;cases J;exact .lit (u6.one a u (List.mem_of_getElem? hu)) λ_ h=>h
  have Ic:CmpLays P g j9 enc e.z kK b 0 d.size w:=by
   intro m os Bg zn x y;have rf:=xg x.1 x.2 y.1 y.2;obtain ⟨v,hv⟩:=Option.isSome_iff_exists.1 rf;have Ia:kK x y=v:=by show (fU x.1 y.1).getD 0=v; rw [hv]; rfl
   show Calls P g _ (sortWorld id w b 0 m (flatK enc e.z Bg) os) λcj w'=>_/\∃ q Xm,w'=grow ((sortWorld id w b 0 m (flatK enc e.z Bg) os).drewN q) Xm;have HW:cF (sortWorld id w b 0 m (flatK enc e.z Bg) os) I #[] (λ_=>none) (λ_=>cy):=by
    refine ⟨λ_ _ h=>(by cases h),λ_ _ _ h=>h,λ_ _ _ h=>h.elim,λ_ _ h=>h.elim,λc aa=>?_,λ_ _ _ _ _ _ _ _ _ _ _ h=>(by cases h)⟩;have:=bk.lt c aa;unfold sortWorld;rw [size_grow,Go.Sort.size_putRow];exact Nat.lt_of_lt_of_le this (Nat.le_add_right _ _)
   have sF:=HW.args (I':=I) (λc h=>.inl h) (args:=.agg (e.cells x.1)::.agg (e.cells y.1)::caps) (vs:=.agg (enc x).toArray::.agg (enc y).toArray::j9.toList) (by simp [af]) (λρ' k z u aY hu=>?_)
   ·have py:=(aa x.1 y.1 v hv).2 _ I (.agg (enc x).toArray::.agg (enc y).toArray::j9.toList) _ (by simp [af]) sF;have ka:(.agg (enc x).toArray::.agg (enc y).toArray::j9.toList).toArray=#[.agg (enc x).toArray,.agg (enc y).toArray]++j9:=by
     apply Array.ext';simp
    rw [ka] at py;refine py.mono ?_;rintro cj w' ⟨gx,I',b7,rfl,dX,b0⟩;obtain ⟨u,hu,mV⟩:=dX.rel (caps.length+2) (ae v) (by simp [kV]);have IX:u=gx:=by
     have:(Value.agg (enc x).toArray::.agg (enc y).toArray::j9.toList).length=caps.length+2:=by simp [af]
     rw [List.getElem?_toArray,<- this] at hu;simpa using hu.symm
    subst IX;have oc:=(mV.gI (by simp)).hB.1;subst oc;refine ⟨by rw [Ia],?_⟩;exact MQ (b0.eT.mono λc _ ⟨_,bY⟩=>bY)
   ·match k,aY,hu with
    | 0,aY,hu=>cases aY; cases hu; exact Nc _ _ _ x.1
    | 1,aY,hu=>cases aY; cases hu; exact Nc _ _ _ y.1
    | k+2,aY,hu =>
     simp only [List.getElem?_cons_succ] at aY hu;have zj:=(iN k z u aY (by simpa using hu)).bm (ρ':=ρ') (w8.bm z (List.mem_of_getElem? aY));refine zj.frame (λc aa=>?_) (λ_ h=>h) (λ_ _ h=>h) (λc h=>h.elim);exact Ii (bk.lt c aa) λe=>bk.bj 0 c (e ▸ tR) aa
  have BN:=AnyQ.slices_SortFunc_total L e.z Ra Zm enc (λx=>lv.len x.1) (λx v hv=>u6.one x.1 v hv) kK hO g j9 b 0 cap d w Ho Ic hH H8 (by rw [zo]; exact IP) dL;rw [zo] at BN;refine BN.mono ?_;rintro cj w' ⟨rfl,n,os,rfl⟩;have og:(d.toList.mergeSort λx y=>!ltOf kK y x).map Subtype.val=h' (kv fU) l:=by
   rw [Ow hO dL];have hm:(h' (ltOf kK) l.attach).map Subtype.val=h' (kv fU) (l.attach.map Subtype.val):=EZ (lt:=ltOf kK) (lt':=kv fU) (f:=Subtype.val) (λa b=>aT a b) l.attach;rw [List.attach_map_subtype_val] at hm;exact hm
  generalize acw:(d.toList.mergeSort λx y=>!ltOf kK y x)=ms at og;have Vy:ms.length=l.length:=by rw [<- hlen,<- og,List.length_map]
  have Il:(flatK enc e.z ms.toArray).toList=ph e (h' (kv fU) l):=by
   have:=MH (e:=e) (λx:β=>x.1) ms.toArray;rw [show (ms.toArray).toList.map (λx:β=>x.1)=h' (kv fU) l from og] at this
   exact this
  have sH:(flatK enc e.z ms.toArray).size=l.length * e.z:=by rw [size_flatK,List.size_toArray,Vy]
  refine P8 rfl bk (t:=t) (r:=h' (kv fU) l) ⟨Hu _,.inr ⟨b,cap,_,by rw [hlen],Nat.zero_le _,Nx (enc:=id) tU,by omega,IF,?_,?_⟩⟩ mr (ML (enc:=id) tR)
  ·rw [<- fY];simp [putCells]
  ·rw [hlen,<- sH,Pr (by rw [sH,fY]; exact Nat.mul_le_mul_right _ hle),List.map_id,Il]
end
end Go.Own
namespace Go.Own
open Go
section
variable {α:Type}{P:Program}{N:c6}{g:aM}{d r:Nat}
theorem hJ.tk {o:Oper}{x:Operand}{gm:Array TypeId}{f:FuncId}{res:ab}{en:bJ α}{L:List α}{G2:List (Nat × ab)}(a1:o.op=.call { callee:=.value (.func f),args:=#[x],argTypes:=gm }) (aS:o.dst=some d) (J:Own.gk g [x]=some [.a6 en.z ⟨r,[]⟩ L.length])
  (aC:g r=some (aj en L)) (gP:bT P f [aj en L] [none] res) (aW:gM P f=true) [ao:cg res]
  (c_:Trim false (cv g ⟨r,[]⟩ .dead) (get G2) G2) (aO:get G2 d=none) (bc:N.ok d=true) :
  hJ P N g o d (get ((d,res)::G2)):=by
 have mY:∀ x∈bp en L,cU x:=by
  intro x J;obtain ⟨a,_,aP⟩:=List.mem_flatMap.1 J;exact en.bm a x aP
 have gj:(bp en L).take (L.length * en.z)=bp en L:=List.take_of_length_le (by rw [nm]; exact Nat.le_refl _);have xB:hD (cv g ⟨r,[]⟩ .dead) (get G2):=by
  refine ⟨λt x h=>?_,λt x h=>(c_.spec t x h).2.1,λt z q n m new h=>(c_.spec t _ h).2.2 _ _ _ _ _ rfl⟩;obtain ⟨⟨y,h1,_,aI⟩,_⟩:=c_.spec t x h;rw [<- aI rfl]; exact h1
 have xC:hD (get G2) (get G2):=⟨λt x h=>h,λt x h=>(c_.spec t x h).2.1,λt z q n m new h=>(c_.spec t _ h).2.2 _ _ _ _ _ rfl⟩;have rS:get ((d,res)::G2)=cV (get G2) d res:=by
  funext t;rw [sA]
 rw [rS];refine yE.ok (first:=[]) (caps:=[]) (ys:=[.a6 en.z ⟨r,[]⟩ L.length]) (tk:=λk=>k == 0) (vw:=false) (outs:=[none]) (g1:=cv g ⟨r,[]⟩ .dead) (g2:=get G2) (g4:=get G2) (l:=[]) (ks:=λ_=>0) (xs0:=[.a6 en.z ⟨r,[]⟩ L.length]) (xs1:=[aj en L]) (args:=[aj en L]) (res:=res) a1 aS rfl J
  ⟨aW,by simp,by simp,λk x h=>.inl h,?_,xB,λk x y J ax=>?_,gP,by simpa using ao.bm,λk x h=>?_,λj p x ah=>by simp at ah,by simp,λi j hi ah _=>by simp at hi,xC⟩ aO bc wj.refl
 ·have h1:Take (cv g ⟨r,[]⟩ .dead) ((bp en L).take (L.length * en.z)) (bp en L) (cv g ⟨r,[]⟩ .dead):=by rw [gj]; exact .bm mY
  exact .a6 (N:=L.length) (by simp [bD,aC,ab.at]) (Nat.le_refl _) h1 (.bm λx J=>by simp at J)
 ·cases k with
  | zero=>simpa using ax
  | succ k=>simp at ax
 ·cases k with
  | zero=>simp at h
  | succ k=>simp at h
end
end Go.Own
namespace Go.Own
open Go Go.Proofs Go.Shelf Go.Lib Go.Sort
section
variable {α:Type} [DecidableEq α]
end
section
variable {α:Type}{e:bJ α}{P:Program}{w:World}
variable [DecidableEq α] [Inhabited α]
end
end Go.Own
namespace Go.Proofs
open Tryz
open Go.Shelf Go.RowKit Go.Lib Go.Sort
variable {α:Type} [Inhabited α] [DecidableEq α]
namespace Two
open Go.Own
variable {P:Program}{t:TypeId}
omit [Inhabited α] [DecidableEq α] in
theorem one (f:α->Int):OneCell λx=>Value.int .i64 (f x):=λ_=>rfl
end Two
end Go.Proofs
namespace Go.Own
open Go Go.Proofs Go.Shelf Go.Lib Go.Sort
section
variable {α:Type}{e:bJ α}{P:Program}{w:World}
end
end Go.Own
namespace Go.Own
open Go
section
variable {α:Type}{P:Program}{N:c6}{g:aM}{d r:Nat}
end
end Go.Own
namespace Go.Own
open Go
theorem q {α:Sort _}{a:α}:a=a:=rfl
abbrev a':ByteArray:=⟨#[]⟩
theorem CC {p:Prop} [Decidable p] (h:decide p=true):p:=of_decide_eq_true h
theorem kY {b:Bool}{g h:aM}{e0 s1:Nat}{eA a8:ab}(aR:g e0=some eA) [cg eA] (h1:g s1=some a8) [cg a8]:Trim b g h [(e0,eA),(s1,a8)]:=(.n aR (.n h1 .nil))
theorem o2 {b:Bool}{g h:aM}{e0 s1 s2:Nat}{eA a8 x2:ab}(aR:g e0=some eA) [cg eA] (h1:g s1=some a8) [cg a8] (af:g s2=some x2) [cg x2]:Trim b g h [(e0,eA),(s1,a8),(s2,x2)]:=(.n aR (.n h1 (.n af .nil)))
theorem o3 {b:Bool}{g h:aM}{e0 s1 s2 d':Nat}{eA a8 x2 a7:ab}(aR:g e0=some eA) [cg eA] (h1:g s1=some a8) [cg a8] (af:g s2=some x2) [cg x2] (aI:g d'=some a7) [cg a7]:Trim b g h [(e0,eA),(s1,a8),(s2,x2),(d',a7)]:=(.n aR (.n h1 (.n af (.n aI .nil))))
theorem jR {b:Bool}{g h:aM}{e0 s1 s2 d' cX:Nat}{eA a8 x2 a7 bq:ab}(aR:g e0=some eA) [cg eA] (h1:g s1=some a8) [cg a8] (af:g s2=some x2) [cg x2] (aI:g d'=some a7) [cg a7] (bK:g cX=some bq) [cg bq]:Trim b g h [(e0,eA),(s1,a8),(s2,x2),(d',a7),(cX,bq)]:=(.n aR (.n h1 (.n af (.n aI (.n bK .nil)))))
theorem nW {b:Bool}{g h:aM}{e0 s1 s2 d' cX cn:Nat}{eA a8 x2 a7 bq bS:ab}(aR:g e0=some eA) [cg eA] (h1:g s1=some a8) [cg a8] (af:g s2=some x2) [cg x2] (aI:g d'=some a7) [cg a7] (bK:g cX=some bq) [cg bq] (cG:g cn=some bS) [cg bS]:Trim b g h [(e0,eA),(s1,a8),(s2,x2),(d',a7),(cX,bq),(cn,bS)]:=(.n aR (.n h1 (.n af (.n aI (.n bK (.n cG .nil))))))
theorem rG {b:Bool}{g h:aM}{e0 s1 s2 d' cX cn dc:Nat}{eA a8 x2 a7 bq bS bB:ab}(aR:g e0=some eA) [cg eA] (h1:g s1=some a8) [cg a8] (af:g s2=some x2) [cg x2] (aI:g d'=some a7) [cg a7] (bK:g cX=some bq) [cg bq] (cG:g cn=some bS) [cg bS] (eh:g dc=some bB) [cg bB]:Trim b g h [(e0,eA),(s1,a8),(s2,x2),(d',a7),(cX,bq),(cn,bS),(dc,bB)]:=(.n aR (.n h1 (.n af (.n aI (.n bK (.n cG (.n eh .nil)))))))
theorem F5 {b:Bool}{g h:aM}{e0 s1 s2 d' cX cn dc du:Nat}{eA a8 x2 a7 bq bS bB bP:ab}(aR:g e0=some eA) [cg eA] (h1:g s1=some a8) [cg a8] (af:g s2=some x2) [cg x2] (aI:g d'=some a7) [cg a7] (bK:g cX=some bq) [cg bq] (cG:g cn=some bS) [cg bS] (eh:g dc=some bB) [cg bB] (mT:g du=some bP) [cg bP]:Trim b g h [(e0,eA),(s1,a8),(s2,x2),(d',a7),(cX,bq),(cn,bS),(dc,bB),(du,bP)]:=(.n aR (.n h1 (.n af (.n aI (.n bK (.n cG (.n eh (.n mT .nil))))))))
theorem Y5 {b:Bool}{g h:aM}{e0 s1 s2 d' cX cn dc du dw:Nat}{eA a8 x2 a7 bq bS bB bP b6:ab}(aR:g e0=some eA) [cg eA] (h1:g s1=some a8) [cg a8] (af:g s2=some x2) [cg x2] (aI:g d'=some a7) [cg a7] (bK:g cX=some bq) [cg bq] (cG:g cn=some bS) [cg bS] (eh:g dc=some bB) [cg bB] (mT:g du=some bP) [cg bP] (rW:g dw=some b6) [cg b6]:Trim b g h [(e0,eA),(s1,a8),(s2,x2),(d',a7),(cX,bq),(cn,bS),(dc,bB),(du,bP),(dw,b6)]:=(.n aR (.n h1 (.n af (.n aI (.n bK (.n cG (.n eh (.n mT (.n rW .nil)))))))))
theorem Y3 {b:Bool}{g h:aM}{e0 s1 s2 d' cX cn dc du dw ib:Nat}{eA a8 x2 a7 bq bS bB bP b6 cw:ab}(aR:g e0=some eA) [cg eA] (h1:g s1=some a8) [cg a8] (af:g s2=some x2) [cg x2] (aI:g d'=some a7) [cg a7] (bK:g cX=some bq) [cg bq] (cG:g cn=some bS) [cg bS] (eh:g dc=some bB) [cg bB] (mT:g du=some bP) [cg bP] (rW:g dw=some b6) [cg b6] (wY:g ib=some cw) [cg cw]:Trim b g h [(e0,eA),(s1,a8),(s2,x2),(d',a7),(cX,bq),(cn,bS),(dc,bB),(du,bP),(dw,b6),(ib,cw)]:=(.n aR (.n h1 (.n af (.n aI (.n bK (.n cG (.n eh (.n mT (.n rW (.n wY .nil))))))))))
theorem Y4 {b:Bool}{g h:aM}{e0 s1 s2 d' cX cn dc du dw ib gw:Nat}{eA a8 x2 a7 bq bS bB bP b6 cw bI:ab}(aR:g e0=some eA) [cg eA] (h1:g s1=some a8) [cg a8] (af:g s2=some x2) [cg x2] (aI:g d'=some a7) [cg a7] (bK:g cX=some bq) [cg bq] (cG:g cn=some bS) [cg bS] (eh:g dc=some bB) [cg bB] (mT:g du=some bP) [cg bP] (rW:g dw=some b6) [cg b6] (wY:g ib=some cw) [cg cw] (TB:g gw=some bI) [cg bI]:Trim b g h [(e0,eA),(s1,a8),(s2,x2),(d',a7),(cX,bq),(cn,bS),(dc,bB),(du,bP),(dw,b6),(ib,cw),(gw,bI)]:=(.n aR (.n h1 (.n af (.n aI (.n bK (.n cG (.n eh (.n mT (.n rW (.n wY (.n TB .nil)))))))))))
section
variable {P:Program}{N:c6}{ops:Array Oper}{g:aM}{K:aM->Prop}{l:List Oper}{d t:Nat}{ty:TypeId}{pos:String}{after:Array Edge}{v:Value}
theorem gT {G1:List (Nat × ab)}(h:Trim true g (get G1) G1):ar P N ops [] g λg'=>ko g' (get G1):=.fin h
theorem b2 (h:g t=some (.lit v)) (hk:ar P N ops l (cV g d (.lit v)) K) (bc:N.ok d=true:=by rfl) (aW:g d=none:=by rfl):ar P N ops (⟨some d,.move (.tmp t),ty,pos,after,none⟩::l) g K:=al (O.aX (.lit h)) hk bc aW
theorem nv (h:g t=some (.lit v)) (hk:ar P N ops l (cV g d (.lit v)) K) (bc:N.ok d=true:=by rfl) (aW:g d=none:=by rfl):ar P N ops (⟨some d,.assign (.tmp t),ty,pos,after,none⟩::l) g K:=al (O.az (.lit h)) hk bc aW
theorem Ln (h:ofConst v=.lit v) (hk:ar P N ops l (cV g d (.lit v)) K) (bc:N.ok d=true:=by rfl) (aW:g d=none:=by rfl):ar P N ops (⟨some d,.assign (.const v),ty,pos,after,none⟩::l) g K:=al (O.az (.k h)) hk bc aW
end
end Go.Own
namespace Go.Own
open Go
section
variable {α:Type}{g:aM}
end
end Go.Own
namespace Go.Own
open Go
section
variable {α:Type}{P:Program}{N:c6}{g:aM}{d r:Nat}
theorem hJ.kX {o:Oper}{xs:List Operand}{gm:Array TypeId}{f:FuncId}{ys:List ab}{res:ab}{en:bJ α}{L:List α}{G2:List (Nat × ab)}(a1:o.op=.call { callee:=.value (.func f),args:=xs.toArray,argTypes:=gm }) (aS:o.dst=some d) (J:Own.gk g xs=some (.a6 en.z ⟨r,[]⟩ L.length::ys))
  (aC:g r=some (aj en L)) (gP:bT P f (aj en L::ys) (none::ys.map λ_=>none) res) (aW:gM P f=true) [ao:cg res] [aF:dq ys]
  (c_:Trim false (cv g ⟨r,[]⟩ .dead) (get G2) G2) (aO:get G2 d=none) (bc:N.ok d=true) :
  hJ P N g o d (get ((d,res)::G2)):=by
 have mY:∀ x∈bp en L,cU x:=by
  intro x J;obtain ⟨a,_,aP⟩:=List.mem_flatMap.1 J;exact en.bm a x aP
 have gj:(bp en L).take (L.length * en.z)=bp en L:=List.take_of_length_le (by rw [nm]; exact Nat.le_refl _);have xB:hD (cv g ⟨r,[]⟩ .dead) (get G2):=by
  refine ⟨λt x h=>?_,λt x h=>(c_.spec t x h).2.1,λt z q n m new h=>(c_.spec t _ h).2.2 _ _ _ _ _ rfl⟩;obtain ⟨⟨y,h1,_,aI⟩,_⟩:=c_.spec t x h;rw [<- aI rfl]; exact h1
 have xC:hD (get G2) (get G2):=⟨λt x h=>h,λt x h=>(c_.spec t x h).2.1,λt z q n m new h=>(c_.spec t _ h).2.2 _ _ _ _ _ rfl⟩;have rS:get ((d,res)::G2)=cV (get G2) d res:=by
  funext t;rw [sA]
 rw [rS];refine yE.ok (first:=[]) (caps:=[]) (ys:=.a6 en.z ⟨r,[]⟩ L.length::ys) (tk:=λ_=>true) (vw:=false) (outs:=none::ys.map λ_=>none) (g1:=cv g ⟨r,[]⟩ .dead) (g2:=get G2) (g4:=get G2) (l:=[]) (ks:=λ_=>0) (xs0:=.a6 en.z ⟨r,[]⟩ L.length::ys) (xs1:=aj en L::ys) (args:=aj en L::ys) (res:=res) a1 aS rfl (by simpa using J)
  ⟨aW,by simp,by simp,λk x h=>.inl (by simpa using h),?_,xB,λk x y J ax=>by simpa using ax,gP,by simpa using ao.bm,λk x h=>?_,λj p x ah=>by simp at ah,by simp,λi j hi ah _=>by simp at hi,xC⟩ aO bc wj.refl
 ·have h1:Take (cv g ⟨r,[]⟩ .dead) ((bp en L).take (L.length * en.z)) (bp en L) (cv g ⟨r,[]⟩ .dead):=by rw [gj]; exact .bm mY
  exact .a6 (N:=L.length) (by simp [bD,aC,ab.at]) (Nat.le_refl _) h1 (.bm aF.bm)
 ·cases k with
  | zero=>simp at h
  | succ k =>
   simp only [List.getElem?_cons_succ,List.getElem?_map] at h;cases aP:ys[k]? <;> rw [aP] at h <;> cases h
end
end Go.Own
namespace Go.Own
open Go
class uT (x:ab):Prop where pl:p8 x
class DS (cs:List ab):Prop where pl:∀ x∈cs,p8 x
instance {v:Value}:uT (.lit v):=⟨.lit⟩
instance:uT .aJ:=⟨.aJ⟩
instance {z n:Nat}{cs:List ab} [h:dq cs]:uT (.bj z n cs):=⟨.bj h.bm⟩
instance {α:Type}{e:bJ α}{L:List α}:uT (ag e L):=⟨.bj (dq.bm (cs:=bp e L))⟩
instance {cs:List ab} [h:DS cs]:uT (.agg cs):=⟨.agg h.pl⟩
instance:DS []:=⟨by simp⟩
instance {x:ab}{cs:List ab} [h:uT x] [aQ:DS cs]:DS (x::cs):=⟨λy ax=>by
 rcases List.mem_cons.1 ax with rfl | ax
 ·exact h.pl
 ·exact aQ.pl y ax⟩
class DQ (G:List (Nat × ab)):Prop where bm:∀ t x,get G t=some x->cU x
instance:DQ []:=⟨λt x h=>by cases h⟩
instance {s:Nat}{x:ab}{G:List (Nat × ab)} [h:cg x] [aQ:DQ G]:DQ ((s,x)::G):=⟨λt y ax=>by
 simp only [get] at ax
 split at ax
 ·cases ax; exact h.bm
 ·exact aQ.bm t y ax⟩
class yR (acc:Acc):Prop where bm:∀ e∈acc,∀ x,e.2.2=some x->cU x
instance:yR []:=⟨by simp⟩
instance {k d:Nat}{x:ab}{acc:Acc} [h:cg x] [aQ:yR acc]:yR ((k,d,some x)::acc):=⟨λe he y ax=>by
 rcases List.mem_cons.1 he with rfl | he
 ·cases ax; exact h.bm
 ·exact aQ.bm e he y ax⟩
instance {k d:Nat}{acc:Acc} [aQ:yR acc]:yR ((k,d,none)::acc):=⟨λe he y ax=>by
 rcases List.mem_cons.1 he with rfl | he
 ·cases ax
 ·exact aQ.bm e he y ax⟩
theorem L6 {G:List (Nat × ab)}{A:Nat->Bool}{acc:Acc} [h:DQ G] [aQ:yR acc]:Gz (dh (get G) A acc):=by
 have key:∀ t x,dh (get G) A acc t=some x->cU x:=λt x J=>by
  rcases uJ J with ⟨e,he,_,_,af⟩ | ⟨_,af⟩
  ·exact aQ.bm e he x af
  ·exact h.bm t x af
 exact ⟨λt x J=>.bm (key t x J),λt z q n m new J=>by cases key t _ J⟩
end Go.Own
namespace Go.Own
open Go Go.MapKept Go.ChangeMaps
section
variable {P:Program}{w:World}{I:bb}{T:Array Value}{g g2:aM}{Fs:Nat->bb}
theorem Sl {w:World}{b:Nat}{es hL:Array MapEntry}{c fT:Nat}(h:w.heap[b]?=some (.map es c)) (a:Addr):(setBlock w b (.map hL fT)).cell? a=w.cell? a:=by
 by_cases e:a.block=b
 ·have h1:(setBlock w b (.map hL fT)).heap[a.block]?=some (.map hL fT):=by rw [e]; exact heap_setBlock_same h _
  have af:w.heap[a.block]?=some (.map es c):=by rw [e]; exact h
  unfold World.cell?
  grind
 ·have h1:(setBlock w b (.map hL fT)).heap[a.block]?=w.heap[a.block]?:=heap_setBlock_other h _ e;unfold World.cell?;rw [h1]
theorem Qr {w:World}{b:Nat}{es hL:Array MapEntry}{c fT:Nat}(h:w.heap[b]?=some (.map es c)):∀ (p:List Nat) (v:Value),walk (setBlock w b (.map hL fT)) v p=walk w v p
 | [],v=>rfl
 | k::p,v=>by
  have aa:child (setBlock w b (.map hL fT)) v k=child w v k:=by
   unfold child
   split <;> first | rfl | exact Sl h _
  simp only [walk,aa];cases child w v k with
  | none=>rfl
  | some u=>exact Qr h p u
theorem Zf {w:World}{b:Nat}{es hL:Array MapEntry}{c fT:Nat}(h:w.heap[b]?=some (.map es c)) (T:Array Value) (p:Place):dW (setBlock w b (.map hL fT)) T p=dW w T p:=by
 grind [dW,Qr]
theorem XY {w:World}{b:Nat}{es hL:Array MapEntry}{c fT:Nat}(h:w.heap[b]?=some (.map es c)) {T:Array Value}{r:ab}{v:Value}(ao:fC w T r v):fC (setBlock w b (.map hL fT)) T r v:=by
 cases r <;> simp only [fC,Zf h] at ao ⊢ <;> exact ao
theorem cF.W' (bk:cF w I T g Fs) {p:Place}{q fR:Array MapEntry->Nat->Prop}{b:Nat}{es hL:Array MapEntry}{c fT:Nat}(au:bD g p=some (.mp q)) (hv:dW w T p=some (.map (some b))) (hm:w.heap[b]?=some (.map es c)) (bg:fR hL fT)
  (zp:∀ t x,g2 t=some x->cv g p (.mp fR) t=some x) (r9:∀ t x,g2 t=some x->∀ y,g t=some y->jm (gD g2) y) (la:∀ t z q n m new,g2 t≠some (.bL z q n m new)) (kd:g2 p.root≠none) :
  ∃ b7,cF (setBlock w b (.map hL fT)) I T g2 b7/\∀ t c,b7 t c->Fs t c:=by
 have o5:∀ k,k≠b->(setBlock w b (.map hL fT)).heap[k]?=w.heap[k]?:=λk hk=>heap_setBlock_other hm _ hk;have Dv:(setBlock w b (.map hL fT)).heap[b]?=some (.map hL fT):=heap_setBlock_same hm _;have Qo:(setBlock w b (.map hL fT)).heap.size=w.heap.size:=by simp [setBlock]
 have VM:∀ r v,fC w T r v->fC (setBlock w b (.map hL fT)) T r v:=λr v h=>XY hm h;generalize vp:setBlock w b (.map hL fT)=w' at *;obtain ⟨eA,iG⟩:∃ eA,g p.root=some eA:=by
  grind [bD]
 have pw:eA.at p.path=some (.mp q):=by simpa [bD,iG] using au
 obtain ⟨v0,iO,gF⟩:=bk.rel _ _ iG;have By:=gF.gI (by rintro z q n m new rfl; cases (ab.sx pw).2);have lK:jm (gD g2) eA:=by
  cases af:g2 p.root with
  | none=>exact absurd af kd
  | some y=>exact r9 _ _ af _ iG
 have ql:=By.yd lK;obtain ⟨h0,cB,hw,dI,dy,_,kf⟩:=R.focus p.path ql pw;have IY:h0=.map (some b):=by
  grind [dW]
 subst IY;obtain ⟨eC,abB,pf,e,a1,_,mr⟩:=dI.Jl;cases e;have mw:cB b:=(mr b).2 rfl;have u5:∀ c,I c->w'.heap[c]?=w.heap[c]?:=λc aa=>o5 c λe=>bk.bj _ b (dy b mw) (e ▸ aa);have EE:∀ t,t≠p.root->¬ Fs t b:=λt aw h=>aw (bk.eJ _ _ _ h (dy b mw));have refs:∀ r u,(dT w T g r u/\gD g2 r)->dT w' T g2 r u:=λr u h=>⟨VM r u h.1.1,h.2⟩;obtain ⟨c9,Er,po⟩:=kf w' I (dT w' T g2) (.mp fR) cB ⟨u5,λc aa aF=>o5 c λe=>aF (e ▸ mw),λ_ h=>h,refs⟩ (.mp Dv bg mr) λc h _=>h;have En:∀ c,c9 c->Fs p.root c:=λc aa=>by
  grind
 let b7:Nat->bb:=λt c=>if t=p.root then c9 c else g2 t≠none/\Fs t c
 have pq:∀ t c,b7 t c->Fs t c:=by
  grind
 refine ⟨b7,⟨λt x J=>?_,λt aw c aa=>?_,λt t' c aa fo=>bk.eJ t t' c (pq t c aa) (pq t' c fo),λt c aa hi=>bk.bj t c (pq t c aa) hi,λc aa=>by rw [Qo]; exact bk.lt c aa,λt t' z q n m new bE cE m' c3 h1=>absurd h1 (la _ _ _ _ _ _)⟩,pq⟩
 ·have gf:=zp t x J;by_cases aw:t=p.root
  ·subst aw;have EN:eA.setAt p.path (.mp fR)=x:=by simpa [cv,iG] using gf
   refine ⟨v0,iO,.tree ?_⟩
   grind
  ·rw [uD aw] at gf;obtain ⟨u,hu,aZ⟩:=bk.rel t x gf;replace aZ:=aZ.gI (by rintro z q n m new rfl; exact la _ _ _ _ _ _ J);have Bs:b7 t=Fs t:=by
    grind
   refine ⟨u,hu,.tree ?_⟩;rw [Bs];exact (aZ.yd (r9 t x J x gf)).frame u5 (λ_ h=>h) refs λc aa=>o5 c λe=>EE t aw (e ▸ aa)
 grind
theorem Tw {w:World}{b:Nat}{es hL:Array MapEntry}{c fT:Nat}(h:w.heap[b]?=some (.map es c)) (a:Addr):(setBlock w b (.map hL fT)).frozen? a=w.frozen? a:=by
 unfold World.frozen?
 grind [heap_setBlock_same,heap_setBlock_other]
theorem bl.Xa {N:c6}{o:Oper}{t:TypeId}{m x v:Operand}{p:Place}{q fR:Array MapEntry->Nat->Prop}{Y Z x2:ab}{om dJ:Value}{G2:List (Nat × ab)}(a1:o.op=.mapUpdate t m x v) (aS:o.dst=none) (hm:bs g m=some (.gz p)) (au:bD g p=some (.mp q)) (J:bs g x=some Y) (ax:bs g v=some Z)
  (dj:∀ (w:World) (I:bb) (ρ:ab->Value->Prop) (v:Value),R w I ρ Y v cy->v=om) (HX:∀ (w:World) (I:bb) (ρ:ab->Value->Prop) (v:Value),R w I ρ Z v cy->v=dJ)
  (ao:∀ (w:World) (b:Nat) (es:Array MapEntry) (c:Nat),w.heap[b]?=some (.map es c)->q es c->∃ hL fT,(Instr.mapUpdate t (.map (some b)) om dJ).run P w=.ok () (setBlock w b (.map hL fT))/\fR hL fT)
  (iv:cv g p (.mp fR) p.root=some x2) (kd:(get G2 p.root).isSome=true) {y0:ab}(ri:g p.root=some y0) [e8:cg y0] (c_:kF g (get G2) p.root x2 G2):bl P N g o (get G2):=by
 refine .Ku λw I T Fs h a aP bc K Q zi=>?_;obtain ⟨⟨b,av,hv⟩,_⟩:=(ke h hm aP).Ot;obtain ⟨gx,cB,iu,dI,dy⟩:=h.part au (by simp);have jW:=av;rw [av] at iu;cases iu;obtain ⟨eC,es,c,e,bY,bg,mr⟩:=dI.Jl;cases e;obtain ⟨hL,fT,hP,zv⟩:=ao w eC es c bY bg;have VQ:(execOp a.eval o).run P w=.ok .skip (setBlock w eC (.map hL fT)):=by
  simp [execOp,a1,hv,dj _ _ _ _ (ke h J aP),HX _ _ _ _ (ke h ax aP),hP]
 have c1:∀ t x,get G2 t=some x->cv g p (.mp fR) t=some x:=λt x J=>by
  rcases c_.spec t x J with ⟨h1,af,_⟩ | ⟨h1,af,_⟩
  ·grind [uD]
  grind
 have c2:∀ t x,get G2 t=some x->∀ y,g t=some y->jm (gD (get G2)) y:=λt x J y ax=>by
  rcases c_.spec t x J with ⟨h1,af,aI⟩ | ⟨h1,af,aI⟩
  ·rw [af] at ax;cases ax;rcases aI with aI | ⟨aI,_⟩
   ·cases aI with
    | n h=>exact .bm h
    | p _ _ bK fX=>exact .ref rfl (uA bK fX)
    | r _ _ bK od=>exact .ref rfl (Av bK od)
   ·exact jm.ref (by cases aI; rfl) aI.Fm
  ·subst h1;rw [ri] at ax;cases ax;exact .bm e8.bm
 have jV:∀ t z q n m new,get G2 t≠some (.bL z q n m new):=λt z q n m new J=>by
  rcases c_.spec t _ J with ⟨_,_,aI | ⟨aI,_⟩⟩ | ⟨_,_,aI⟩
  ·exact aI.fy _ _ _ _ _ rfl
  ·exact aI.fy _ _ _ _ _ rfl
  ·cases aI
 obtain ⟨b7,dX,gH⟩:=h.W' (g2:=get G2) au jW bY zv c1 c2 jV (by intro e; rw [e] at kd; cases kd);unfold Oper.wp Oper.upon;simp only [VQ];refine zi _ _ ⟨by rw [aS]; rfl,by rw [aS]; exact hC.refl,I,b7,by rw [aS]; simpa [Act.put,aP] using dX,⟨⟨rfl,rfl,rfl,by simp [setBlock],λk _ hk=>heap_setBlock_other bY _ λe=>hk ⟨_,e ▸ dy eC ((mr eC).2 rfl)⟩,λa _=>Tw bY a,Nat.le_refl _⟩,λ_ h=>h,λ_ h=>.inl h,λc ⟨t,aa⟩=>.inl ⟨t,gH t c aa⟩⟩⟩ λt _=>by rw [aS]; rfl
end
end Go.Own
namespace Go.Own
open Go Go.MapKept Go.ChangeMaps Go.WideElems
open Go.Maps (Keyed)
set_option linter.unusedVariables false
variable {kj lp:Type}{P:Program}{k e:TypeId}
abbrev yU:Value->Option (DataW Value × List MemPlace):=λv=>some (.held v,[])
def o0 [DecidableEq kj]:List (kj × lp)->kj->Option lp
 | [],_=>none
 | p::m,x=>if p.1=x then some p.2 else o0 m x
def sh [DecidableEq kj] (ok:kj->Bool) (z:lp) (m:List (kj × lp)) (x:kj):Option lp:=if ok x then some ((o0 m x).getD z) else none
def zN (ok:kj->Bool) (m:List (kj × lp)) (x:kj) (y:lp):Option (List (kj × lp)):=if ok x&&decide (m.length<=lim) then some ((x,y)::m) else none
structure AX (P:Program) (k:TypeId) (kj:Type) where
 om:kj->Value
 xD:kj->Lit
 Ck:kj->ab
 ok:kj->Bool
 keyed:Keyed P k
 key:∀ x,ok x=true->keyOf P k (om x)=some (xD x)
 inj:∀ x y,xD x=xD y->x=y
 wA:∀ (x:kj) (w:World) (I:bb) (ρ:ab->Value->Prop) (v:Value),R w I ρ (Ck x) v cy->v=om x
structure AY (P:Program) (e:TypeId) (lp:Type) where
 o4:lp->Value
 AE:lp->ab
 z:lp
 zero:∀ w,(zeroValue e).run P w=.ok (o4 z) w
 one:∀ x,(o4 x).oneCell'=true
 wA:∀ (x:lp) (w:World) (I:bb) (ρ:ab->Value->Prop) (v:Value),R w I ρ (AE x) v cy->v=o4 x
 va:∀ (x:lp) (w:World) (I:bb) (ρ:ab->Value->Prop),R w I ρ (AE x) (o4 x) cy
def ym (P:Program) (k:TypeId) (es:Array MapEntry):List (Lit × DataW Value):=(es.toList.map (rg P k yU)).foldr DataW.insert []
def lx [DecidableEq kj] (K:AX P k kj) (V:AY P e lp) (m:List (kj × lp)):Array MapEntry->Nat->Prop:=λes c=>Fit P k yU es c/\es.size<=m.length/\∀ x Gt,(DataW.map (ym P k es)).atKey (K.xD x) Gt=match o0 m x with | some y=>.held (V.o4 y) | none=>Gt
variable [DecidableEq kj] {K:AX P k kj}{V:AY P e lp}{m m':List (kj × lp)}{x:kj}{y:lp}{t:TypeId}
theorem lx.nil:lx K V [] #[] 0:=⟨⟨by simp,stamped_empty 0,by simp⟩,Nat.le_refl _,λx Gt=>rfl⟩
theorem lx.look (ok:Bool) (dd:K.ok x=true) (aw:P.underlying t=some (.map k e)) (w:World) (b:Nat) (es:Array MapEntry) (c:Nat) (av:w.heap[b]?=some (.map es c)) (h:lx K V m es c) :
  (Instr.lookup t (.map (some b)) (K.om x) ok).run P w=.ok (if ok then .tuple #[V.o4 ((o0 m x).getD V.z),.bool (o0 m x).isSome] else V.o4 ((o0 m x).getD V.z)) w:=by
 obtain ⟨F,_,gq⟩:=h;have gq:=gq x;rcases Maps.fit_look ok K.keyed aw (V.zero w) av F (K.key x dd) with ⟨hP,_,af⟩ | ⟨hz,y,_,_,hP,ax,af,_⟩
 ·have:o0 m x=none:=by
   cases aO:o0 m x with
   | none=>rfl
   | some y =>
    have h1:=gq .nil;rw [aO] at h1;have aI:=af .nil;unfold ym at h1;rw [h1] at aI; cases aI
  rw [hP,this]; rfl
 ·cases ax;cases aO:o0 m x with
  | none =>
   have h1:=gq .nil;rw [aO] at h1;have aI:=af .nil;unfold ym at h1;rw [h1] at aI; cases aI
  | some y =>
   have h1:=gq .nil;rw [aO] at h1;have aI:=af .nil;unfold ym at h1;rw [h1] at aI;have bK:hz.val=V.o4 y:=by simpa using aI.symm
   rw [hP,bK]; rfl
theorem lx.put (aR:zN K.ok m x y=some m') (aw:P.underlying t=some (.map k e)) (w:World) (b:Nat) (es:Array MapEntry) (c:Nat) (av:w.heap[b]?=some (.map es c)) (h:lx K V m es c) :
  ∃ hL fT,(Instr.mapUpdate t (.map (some b)) (K.om x) (V.o4 y)).run P w=.ok () (setBlock w b (.map hL fT))/\lx K V m' hL fT:=by
 unfold zN at aR
 split at aR
 ·rename_i aa;cases aR;simp only [Bool.and_eq_true,decide_eq_true_eq] at aa;obtain ⟨dd,ak⟩:=aa;obtain ⟨F,aC,gq⟩:=h;have NL:=K.key x dd;obtain ⟨hL,fT,hP,c9,nK,_⟩:=Maps.fit_store (R':=yU) K.keyed aw av F (by have:maxLen=9223372036854775807:=rfl; simp only [lim] at ak; omega) (λ_ _ _ _ aY=>aY) NL (rfl:yU (V.o4 y)=some (.held (V.o4 y),[]));refine ⟨hL,fT,hP,c9,?_,λx' Gt=>?_⟩
  ·have cA:hL.size=((hL.toList.map (rg P k yU)).foldr DataW.insert []).length:=by rw [length_sorted]; simp
   rw [cA,nK];unfold putKey;rw [length_insert];have cf:=List.length_filter_le (notKey (K.xD x)) ((es.toList.map (rg P k yU)).foldr DataW.insert []);rw [length_sorted] at cf;simp at cf ⊢;omega
  ·have fP:(DataW.map (ym P k hL))=(DataW.map (ym P k es)).put (K.xD x) (.held (V.o4 y)):=by
    rw [DataW.put_eq]; unfold ym; rw [nK]
   rw [fP];by_cases J:x=x'
   ·subst J;rw [Maps.atKey_put_same ⟨_,rfl⟩ (K.keyed.key NL)];simp [o0]
   ·rw [Maps.atKey_put_other (λe=>J (K.inj _ _ e).symm),gq];simp [o0,J]
 ·cases aR
section
variable {N:c6}{g:aM}{a b c:Operand}{p:Place}{ty:TypeId}
instance {q:Array MapEntry->Nat->Prop}:cg (.mp q):=⟨.mp⟩
instance {q:Array MapEntry->Nat->Prop}:cg (.imp q):=⟨.imp⟩
instance {q:Array MapEntry->Nat->Prop}:p5 (.mp q):=⟨.mp⟩
theorem O.W_ (K:AX P k kj) (V:AY P e lp):ch P g (.makeMap t none) ty (.mp (lx K V [])):=.qF (.makeMap lx.nil)
theorem O.qC {r:lp}{X Y:ab}(hm:Rd g a (.gz p)) (au:bD g p=some (.mp (lx K V m))) (J:Rd g b Y) (wZ:K.Ck x=Y) (aw:P.underlying t=some (.map k e)) (h:sh K.ok V.z m x=some r) (tK:V.AE r=X):ch P g (.lookup t a b false) ty X:=by
 subst tK wZ;unfold sh at h
 split at h
 ·rename_i dd;cases h;exact .eW (.E8 hm.bs au J.bs (K.wA x) (V.va _) λw b es c av bg=>lx.look false dd aw w b es c av bg)
 ·cases h
theorem O.Cs {r:lp}{X Y:ab}(hm:Rd g a (.imp (lx K V m))) (J:Rd g b Y) (wZ:K.Ck x=Y) (aw:P.underlying t=some (.map k e)) (h:sh K.ok V.z m x=some r) (tK:V.AE r=X):ch P g (.lookup t a b false) ty X:=by
 subst tK wZ;unfold sh at h
 split at h
 ·rename_i dd;cases h;exact .eW (.Cs hm.bs J.bs (K.wA x) (V.va _) λw b es c av bg=>lx.look false dd aw w b es c av bg)
 ·cases h
theorem bl.mt {o:Oper}{x2 y0 Y Z:ab}{G2:List (Nat × ab)}(a1:o.op=.mapUpdate t a b c) (aS:o.dst=none) (hm:Rd g a (.gz p)) (au:bD g p=some (.mp (lx K V m))) (J:Rd g b Y) (wZ:K.Ck x=Y) (ax:Rd g c Z) (HX:V.AE y=Z) (aw:P.underlying t=some (.map k e)) (h:zN K.ok m x y=some m')
  (iv:cv g p (.mp (lx K V m')) p.root=some x2) (kd:(get G2 p.root).isSome=true) (ri:g p.root=some y0) [e8:cg y0] (c_:kF g (get G2) p.root x2 G2):bl P N g o (get G2):=by
 subst wZ HX;exact .Xa a1 aS hm.bs au J.bs ax.bs (K.wA x) (V.wA y) (λw b es c av bg=>lx.put h aw w b es c av bg) iv kd ri c_
end
def sf (n:Int):Bool:=decide (-9223372036854775808<=n/\n<9223372036854775808)
def Q1 (hk:P.underlying k=some (.int .i64)):AX P k Int where
 om n:=.int .i64 n
 xD n:=.int .i64 n
 Ck n:=ae n
 ok:=sf
 keyed:=Maps.int_keyed hk
 key n h:=Maps.keyOf_int_mk hk (by
  unfold sf at h;have:=of_decide_eq_true h;unfold Lit.wf;rw [Bool.and_eq_true];refine ⟨decide_eq_true ?_,decide_eq_true ?_⟩
  ·show (-9223372036854775808:Int)<=n; omega
  ·show n<=(9223372036854775807:Int); omega)
 inj x y h:=by cases h; rfl
 wA x w I ρ v h:=h.hB.1
def Q2 (aY:(P.info? e).bind (·.zero)=some (.int .i64 0)):AY P e Int where
 o4 n:=.int .i64 n
 AE n:=ae n
 z:=0
 zero w:=GX aY w
 one _:=rfl
 wA x w I ρ v h:=h.hB.1
 va x w I ρ:=.lit rfl λ_ h=>h
end Go.Own
namespace Go.Own
open Go
section
variable {α:Type}{P:Program}{N:c6}{g:aM}{d r:Nat}{ty t t2 e:TypeId}{a b:Operand}{k kT:IntKind}{m n:Int}{p:Place}
def Om (L:List α) (m:Int):Option Unit:=if 0<=m/\m<=L.length then some () else none
instance:lv ai:=⟨λx=>[.int .i64 x],λ_=>rfl,λx v hv=>by rw [List.mem_singleton.1 hv]; rfl⟩
theorem O.P3 {en:bJ α}{L:List α}{u:Unit}(J:Rd g a (.a6 en.z p L.length)) (ak:Rd g b (.lit (.int k m))) (au:bD g p=some (aj en L)) (aw:fr P t e en.z=true) (h:Om L m=some u):ch P g (.slice t a (some b) none none) ty (.sub en.z p m.toNat (L.length - m.toNat)):=by
 unfold Om at h
 split at h
 ·rename_i aa;obtain ⟨i,rfl⟩:=Int.eq_ofNat_of_zero_le aa.1;exact .eW (.F0 J.bs ⟨_,ak.bs⟩ rfl aw (by omega) (Nat.le_refl _) ⟨_,_,au,by omega⟩)
 ·cases h
def Mb (lo nd:Nat) (L S:List α):Option (List α):=if 0<min S.length nd/\lo+nd<=L.length then some (L.take lo++S.take (min S.length nd)++L.drop (lo+min S.length nd)) else none
def Cv (e:bJ α) [h:lv e] (L:List α):List Value:=L.flatMap h.rH
theorem JM (e:bJ α) [h:lv e] (L:List α):bp e L=(Cv e L).map .lit:=by
 induction L with
 | nil=>rfl
 | cons x L aU =>
  have:bp e (x::L)=e.cells x++bp e L:=by simp [bp]
  rw [this,aU,h.cells];simp [Cv]
theorem Q5.bj {en:bJ α}{S:List α}:Src g (ag en S) en.z S.length (bp en S):=.bj
theorem Q5.a6 {en:bJ α} [lv en] {L:List α}{q:Place}{n:Nat}(bg:bD g q=some (aj en L)) (aF:n<=L.length):Src g (.a6 en.z q n) en.z (L.take n).length (bp en (L.take n)):=by
 have h1:(L.take n).length=n:=by rw [List.length_take]; omega
 have af:bp en (L.take n)=(((bp en L).take (n * en.z)).mapIdx λi x=>gv 0 (q.push i) x):=by
  rw [ye,JM];apply List.ext_getElem?;intro j;rw [List.getElem?_mapIdx];cases ah:((Cv en (L.take n)).map ab.lit)[j]? with
  | none=>rfl
  | some y =>
   obtain ⟨v,_,rfl⟩:=List.mem_map.1 (List.mem_of_getElem? ah);rfl
 rw [h1,af];exact .a6 bg aF
theorem Yy {z:Nat}(h:fr P t e z=true):(P.info? e).map (·.size)=some z:=by
 grind [fr]
theorem bl.br {o:Oper}{en:bJ α} [ak:lv en] {L S L':List α}{lo nd:Nat}{KR ft:ab}{G2:List (Nat × ab)}(a1:o.op=.call { callee:=.builtin .copy,args:=#[a,b],argTypes:=#[t,t2] }) (aS:o.dst=some d) (aP:bs g a=some KR) (WG:KR=.sub en.z ⟨r,[]⟩ lo nd\/(KR=.a6 en.z ⟨r,[]⟩ nd/\lo=0)) (av:bs g b=some ft)
  (r_:Src g ft en.z S.length (bp en S)) (aC:g r=some (aj en L)) (zF:en.z=1) (aw:fr P t e 1=true) (h:Mb lo nd L S=some L') (kd:(get G2 r).isSome=true) (c_:kF g (get G2) r (aj en L') G2) (ve:get G2 d=none) (bc:N.ok d=true) :
  bl P N g o (get ((d,ae ((min S.length nd:Nat):Int))::G2)):=by
 unfold Mb at h;by_cases aa:0<min S.length nd/\lo+nd<=L.length
 case neg=>rw [if_neg aa] at h; cases h
 rw [if_pos aa] at h;obtain ⟨lK,acn⟩:=aa;cases h;generalize hk:min S.length nd=k at *;have acm:k<=S.length:=by omega
 have aco:k<=nd:=by omega
 refine .Ku λw I T Fs h b' zk Uj K Q zi=>?_;obtain ⟨hu,he,fY⟩:=qN (w:=w) aw;have au:bD g ⟨r,[]⟩=some (aj en L):=by simp [bD,aC,ab.at]
 have M':=ke h aP zk;obtain ⟨v0,cB,iO,dI,dy⟩:=h.part au (by simp);obtain ⟨a0,ZG,rfl,k9,hlen,re,rf⟩:=dI.nk;have Uf:0<L.length:=by omega
 cases a0 with
 | none=>have:=rf Uf; simp at this
 | some Lq =>
 obtain ⟨BS,BT⟩:=re Lq rfl;obtain ⟨g0,acU,acW⟩:=Lq;simp only at BS BT;subst BS BT;have mw:cB g0:=dI.qE g0 rfl
 -- the target
 have Ig:∃ cap,b'.eval a=.slice (some ⟨g0,lo,none⟩) nd cap:=by
  rcases WG with rfl | ⟨rfl,rfl⟩
  ·obtain ⟨⟨lz,uR,pf,aE,c1,h1,af,_,_,cG⟩,_⟩:=M'.xw;rw [h1] at iO;cases iO;obtain ⟨ad,cA,cf⟩:=cG (by omega);cases cA;rw [af,cf,zF];exact ⟨c1,by simp⟩
  ·obtain ⟨⟨lz,uR,pf,h1,af,_⟩,_⟩:=M'.nc;rw [h1] at iO;cases iO;exact ⟨_,af⟩
 obtain ⟨S2,Ig⟩:=Ig
 -- the source
 obtain ⟨Dj,Yk,news,vl,IH,B3,l5,ha,hp,aZ⟩:=r_.sound h (ke h av zk);rw [zF,Nat.mul_one] at IH;cases Dj with
 | none=>have:=B3 (by omega) (by omega); simp at this
 | some PJ =>
 have acA:news=Cv en S:=by
  rw [JM,List.length_map] at ha;apply List.ext_getElem ha.symm;intro j h1 af;have:=(aZ j (.lit (Cv en S)[j]) news[j] (by rw [JM,List.getElem?_map,List.getElem?_eq_getElem af]; rfl) (List.getElem?_eq_getElem h1)).hB.1;exact this
 -- the block
 cases dI with
 | ref J=>simp [ab.isRef] at J
 | @own _ _ _ _ cj us bM _ qp hV h1 ao oa iM aN =>
 obtain ⟨l9,bY⟩:=qp;rcases bY with ⟨bY,_⟩ | ⟨eC,cap,cur,bY,s6,jQ,Au,x_,De,Df⟩
 ·cases bY
 cases bY;have Np:L.length<=cur.size:=by
  have wY:(cur.toList.take (L.length * en.z)).length=L.length * en.z:=by rw [Df,l9]
  rw [List.length_take,zF,Nat.mul_one,Array.length_toList] at wY;rw [zF] at De;omega
 have Ev:(news.take k).length=k:=by rw [List.length_take]; omega
 have hP:(execOp b'.eval o).run P w=.ok (.value (goInt k)) (w.setRow g0 (e5 cur.toList lo (news.take k)).toArray):=by
  have rW:=run_copy_row (P:=P) w t t2 o.type e g0 lo nd S2 PJ S.length Yk cur cj (news.take k) hu (Yy aw) jQ (by rw [Ev]; exact hk.symm) (λj v ah=>by
   rw [List.getElem?_take] at ah
   split at ah
   ·exact l5 PJ rfl j v ah
   ·cases ah) (by rw [Ev]; omega) (λv hv=>by
   obtain ⟨j,ah⟩:=List.getElem?_of_mem (List.mem_of_mem_take hv);exact hp j v ah)
  rw [Ev] at rW;have rS:(cur.toList.take lo++news.take k++cur.toList.drop (lo+k))=e5 cur.toList lo (news.take k):=by unfold e5; rw [Ev]
  rw [rS] at rW;simp [execOp,a1,resolve,invoke,Ig,vl,builtin,rW]
 -- the state
 have VN:∀ (j:Nat) (x:ab) (u:Value),((bp en S).take k)[j]?=some x->(news.take k)[j]?=some u->R w I (fC w T) x u cy:=λj x u J hu=>by
  rw [List.getElem?_take] at J hu
  split at J
  ·rename_i ah;rw [if_pos ah] at hu;exact (aZ j x u J hu).frame (λ_ _=>rfl) (λ_ h=>h) (λ_ _ h=>h.1) λ_ _=>rfl
  ·cases J
 have hH:Hand w I (fC w T) Fs ((bp en S).take k) (news.take k) (λ_=>cy) :=
  ⟨by rw [List.length_take,List.length_take,ha],VN,λ_ _ _ _ _ h=>h.elim,λ_ _ _ _ h=>h.elim,λ_ _ _ h=>h.elim⟩
 have Nn:((bp en S).take k).length=k:=by rw [List.length_take,ha]; omega
 have Ue:(bp en L).length=L.length:=by rw [nm,zF,Nat.mul_one]
 have r5:(aj en L).e5 lo ((bp en S).take k)=aj en (L.take lo++S.take k++L.drop (lo+k)):=by
  show ab.own en.z L.length (e5 (bp en L) lo ((bp en S).take k))=_;have cA:e5 (bp en L) lo ((bp en S).take k)=bp en (L.take lo++S.take k++L.drop (lo+k)):=by
   unfold e5;rw [Nn,FK,FK];have ll:=ye en L lo;have Dc:=ye en S k;have Dd:=Ay en L (lo+k);rw [zF,Nat.mul_one] at ll Dc Dd;rw [ll,Dc,Dd]
  unfold aj;rw [cA];congr 1;simp; omega
 have VE:∀ (j:Nat) (u:Value),(news.take k)[j]?=some u->u.oneCell'=true:=λj u hu=>by
  rw [List.getElem?_take] at hu
  split at hu
  ·exact hp j u hu
  ·cases hu
 have c1:∀ t x,get G2 t=some x->cv g ⟨r,[]⟩ ((aj en L).e5 lo ((bp en S).take k)) t=some x:=λt x J=>by
  rw [r5];rcases c_.spec t x J with ⟨h1,af,_⟩ | ⟨h1,af,_⟩
  ·rw [uD h1]; exact af
  ·subst h1 af; simp [cv,aC,ab.setAt]
 have c2:∀ t x,get G2 t=some x->∀ y,g t=some y->jm (λq=>gD g q/\Clear ⟨r,[]⟩ lo ((bp en S).take k).length q/\gD (get G2) q) y:=λt x J y ax=>by
  rcases c_.spec t x J with ⟨h1,af,aI⟩ | ⟨h1,af,aI⟩
  ·rw [af] at ax; cases ax;rcases aI with aI | ⟨_,c2,S_⟩
   ·exact aI.Kf
   ·cases S_
  ·subst h1; rw [aC] at ax; cases ax; exact .bm (.own (pT en L))
 have jV:∀ t z q n m new,get G2 t≠some (.bL z q n m new):=λt z q n m new J=>by
  rcases c_.spec t _ J with ⟨_,_,aI | ⟨aI,_⟩⟩ | ⟨_,_,aI⟩
  ·exact aI.fy _ _ _ _ _ rfl
  ·exact aI.fy _ _ _ _ _ rfl
  ·cases aI
 obtain ⟨iY,h8,gH⟩:=h.mE.store (g2:=get G2) au (.inl rfl) (k:=lo) (cs':=(bp en S).take k) (by rw [Nn,Ue]; omega) hH (λx J=>pT en S x (List.mem_of_mem_take J)) VE c1 c2 jV (by intro e; rw [e] at kd; cases kd) iO rfl jQ;have nK:=h8.uz (d:=d) (x:=ae (k:Int)) (v:=goInt k) (F:=cy) ve (by rw [<- zk,Uj]; exact c6.lt bc) (.tree (.lit rfl λ_ h=>h)) (λ_ _ h=>h.elim) (λ_ h=>h.elim) (by rintro z p n m new e; cases e);unfold Oper.wp Oper.upon;simp only [hP];have rS:get ((d,ae (k:Int))::G2)=cV (get G2) d (ae (k:Int)):=by
  funext t;rw [sA]
 rw [<- rS] at nK;have tR:∃ t,Fs t g0:=⟨_,dy g0 mw⟩;refine zi _ _ ⟨by rw [aS]; rfl,by rw [aS]; exact hC.put bc _ _,I,_,by rw [aS]; simpa [Act.put,zk] using nK,⟨⟨rfl,rfl,rfl,by simp,λc _ aa=>setRow_other w g0 c _ (λe=>aa (e ▸ tR)),λa _=>Hy w g0 _ a,Nat.le_refl _⟩,λ_ h=>h,λ_ h=>.inl h,λc aa=>?_⟩⟩ λt aw=>by rw [aS]; simp only [Act.put]; rw [Array.getElem?_setIfInBounds_ne]; rintro rfl; exact aw aS
 obtain ⟨t,aa⟩:=aa;simp only [uI] at aa
 split at aa
 ·exact aa.elim
 ·rcases gH t c aa with jb | ⟨_,_,jb⟩
  ·exact .inl ⟨t,jb⟩
  ·exact jb.elim
end
end Go.Own
namespace Go.Own
open Go
def FJ (ew:List Nat) (o:Oper):Oper:=⟨o.dst,o.op,o.type,o.pos,o.after.map λe=>⟨ew.idxOf e.on,e.ground⟩,o.guard.map λp=>(ew.idxOf p.1,p.2)⟩
def lk (ew:List Nat) (l:List Oper):List Oper:=ew.map λk=>FJ ew (l.getD k default)
def JZ (ew:List Nat) (n:Nat):Bool:=Nat.beq ew.length n&&(List.range n).all λk=>ew.contains k&&Nat.blt (ew.getD k n) n&&Nat.beq (ew.idxOf (ew.getD k n)) k
structure Perm (ew:List Nat) (n:Nat):Prop where
 len:ew.length=n
 mem:∀ k,k<n->ew.idxOf k<n/\ew.getD (ew.idxOf k) n=k
 lt:∀ j,j<n->ew.getD j n<n/\ew.idxOf (ew.getD j n)=j
theorem XG {ew:List Nat}{n:Nat}(h:JZ ew n=true):Perm ew n:=by
 unfold JZ at h;simp only [Bool.and_eq_true,Nat.beq_eq,List.all_eq_true,List.mem_range,Nat.blt_eq] at h;obtain ⟨ak,hN⟩:=h;refine ⟨ak,λk hk=>?_,λj ah=>⟨(hN j ah).1.2,(hN j ah).2⟩⟩
 grind
section
variable {P:Program}{Q:Exit->Act->World->Prop}{ew:List Nat}{l:List Oper}
theorem J0 (jY:Perm ew l.length) {j:Nat}(ah:j<l.length):(lk ew l).toArray[j]?=some (FJ ew (l.getD (ew.getD j l.length) default))/\l.toArray[ew.getD j l.length]?=some (l.getD (ew.getD j l.length) default):=by
 have h1:j<ew.length:=by rw [jY.len]; exact ah
 have af:=(jY.lt j ah).1
 grind [lk]
theorem Ph (jY:Perm ew l.length) {A B:Array Bool}(et:A.size=l.length) (fj:B.size=l.length) (sD:∀ j,j<l.length->B.getD j true=A.getD (ew.getD j l.length) true) {j:Nat}(ah:j<l.length) :
  ew.getD j l.length∈Region.ready .any l.toArray A↔j∈Region.ready .any (lk ew l).toArray B:=by
 obtain ⟨h1,af⟩:=J0 jY ah;have acX:∀ {C:Array Bool}{k:Nat},k<C.size->C.getD k false=C.getD k true:=λ{C k} h=>by simp [Array.getD,h]
 have gone:∀ {C:Array Bool}{k:Nat},¬ k<C.size->C.getD k false=false:=λ{C k} h=>by simp [Array.getD,h]
 have Mp:∀ m,A.getD m false=true↔B.getD (ew.idxOf m) false=true:=λm=>by
  by_cases hm:m<l.length
  ·obtain ⟨aI,bK⟩:=jY.mem m hm
   grind
  ·have cG:¬ ew.idxOf m<l.length:=λh=>by
    have eh:=List.idxOf_lt_length_iff.1 (by rw [jY.len]; exact h);obtain ⟨i,hi,e⟩:=List.mem_iff_getElem.1 eh;have:=(jY.lt i (by rw [<- jY.len]; exact hi)).1
    grind
   grind
 rw [mem_ready,mem_ready,sD j ah];constructor
 ·rintro ⟨a,o,a1,h⟩;rw [af] at a1;cases a1;refine ⟨a,_,h1,λe he av=>?_⟩;obtain ⟨hz,U_,rfl⟩:=Array.mem_map.1 he;exact (Mp _).1 (h hz U_ av)
 ·rintro ⟨a,o,a1,h⟩;rw [h1] at a1;cases a1;refine ⟨a,_,af,λe he av=>?_⟩;exact (Mp _).2 (h ⟨ew.idxOf e.on,e.ground⟩ (Array.mem_map.2 ⟨e,he,rfl⟩) av)
theorem XI (jY:Perm ew l.length) (o:Oper) (T:Array Value):Region.wanted (FJ ew o) (yielded (lk ew l).toArray T)=Region.wanted o (yielded l.toArray T):=by
 unfold Region.wanted FJ;cases aO:o.guard with
 | none=>rfl
 | some p =>
  obtain ⟨m,b⟩:=p;simp only [Option.map_some];have:yielded (lk ew l).toArray T (ew.idxOf m)=yielded l.toArray T m:=by
   unfold yielded;by_cases hm:m<l.length
   ·obtain ⟨aI,bK⟩:=jY.mem m hm;obtain ⟨h1,af⟩:=J0 jY aI;rw [bK] at h1 af;rw [h1,af];rfl
   ·have cG:¬ ew.idxOf m<l.length:=λh=>by
     have eh:=List.idxOf_lt_length_iff.1 (by rw [jY.len]; exact h);obtain ⟨i,hi,e⟩:=List.mem_iff_getElem.1 eh;have:=(jY.lt i (by rw [<- jY.len]; exact hi)).1
     grind
    have cA:(lk ew l).toArray[ew.idxOf m]?=none:=by
     rw [List.getElem?_toArray];exact List.getElem?_eq_none (by simp [lk,jY.len]; omega)
    grind
  rw [this]
theorem XH (jY:Perm ew l.length):∀ (fuel:Nat) (A B:Array Bool) (a:Act) (w:World),A.size=l.length->B.size=l.length->(∀ j,j<l.length->B.getD j true=A.getD (ew.getD j l.length) true) ->
  wpAny P .any (lk ew l).toArray Q fuel B a w->wpAny P .any l.toArray Q fuel A a w:=by
 have lift:∀ {A B:Array Bool},A.size=l.length->B.size=l.length->(∀ j,j<l.length->B.getD j true=A.getD (ew.getD j l.length) true)->∀ k,k∈Region.ready .any l.toArray A->∃ j,j<l.length/\ew.getD j l.length=k/\j∈Region.ready .any (lk ew l).toArray B:=λ{A B} et fj sD k hk=>by
  have fw:k<l.length:=by
   grind [mem_ready]
  obtain ⟨aI,bK⟩:=jY.mem k fw
  grind [Ph]
 have nil:∀ {A B:Array Bool},A.size=l.length->B.size=l.length->(∀ j,j<l.length->B.getD j true=A.getD (ew.getD j l.length) true)->Region.ready .any l.toArray A=[]->Region.ready .any (lk ew l).toArray B=[]:=λ{A B} et fj sD h=>by
  cases ao:Region.ready .any (lk ew l).toArray B with
  | nil=>rfl
  | cons j r =>
   have ah:j∈Region.ready .any (lk ew l).toArray B:=by rw [ao]; simp
   have eZ:j<l.length:=by
    grind [mem_ready]
   have:=(Ph jY et fj sD eZ).2 ah
   grind
 intro fuel
 induction fuel with
 | zero =>
  intro A B a w et fj sD h;refine ⟨?_,h.2⟩;cases ao:Region.ready .any l.toArray A with
  | nil=>rfl
  | cons k r =>
   obtain ⟨j,_,_,ah⟩:=lift et fj sD k (by rw [ao]; simp);rw [h.1] at ah;cases ah
 | succ fuel aU =>
  intro A B a w et fj sD h;refine ⟨λao=>h.1 (nil et fj sD ao),λk hk=>?_⟩;obtain ⟨j,eZ,rfl,ah⟩:=lift et fj sD k hk;have aC:=h.2 j ah;obtain ⟨h1,af⟩:=J0 jY eZ;have TW:∀ i,i<l.length->(B.setIfInBounds j true).getD i true=(A.setIfInBounds (ew.getD j l.length) true).getD (ew.getD i l.length) true:=λi hi=>by
   have aT:=(jY.lt j eZ).1;have IB:=(jY.lt i hi).1;have e:∀ (C:Array Bool) (p q:Nat),p<C.size->q<C.size->(C.setIfInBounds p true).getD q true=if q=p then true else C.getD q true:=λC p q au bg=>by
    by_cases h:q=p
    ·simp_all
    ·rw [if_neg h];simp [Array.getD,bg,Array.getElem_setIfInBounds_ne,Ne.symm h]
   rw [e B j i (by omega) (by omega),e A _ _ (by omega) (by omega),sD i hi];by_cases h:i=j
   ·grind
   ·rw [if_neg h,if_neg];intro aQ;have:=(jY.lt i hi).2;rw [aQ,(jY.lt j eZ).2] at this
    grind
  have mono:∀ a w,wpAny P .any (lk ew l).toArray Q fuel (B.setIfInBounds j true) a w->wpAny P .any l.toArray Q fuel (A.setIfInBounds (ew.getD j l.length) true) a w:=λa w aQ=>aU _ _ a w (by simpa using et) (by simpa using fj) TW aQ;unfold wpOp at aC ⊢;rw [af];rw [h1] at aC;simp only [XI jY] at aC;show if Region.wanted (l.getD (ew.getD j l.length) default) (yielded l.toArray a.tmps)=true then _ else _
  split
  ·rename_i hw;rw [if_pos hw] at aC;exact aC.imp (λaQ=>Oper.wp_mono mono aQ) id
  ·rename_i hw;rw [if_neg hw] at aC;exact mono _ _ aC
end
section
variable {P:Program}{N:c6}
theorem W.XW {id:Nat}{l:List Oper}{G:List (Nat × ab)}{Φ:Exit->aM->Prop}(ew:List Nat) (bd:List (List Nat)) (G1:List (Nat × ab)) (hm:P.follows .mixedOrders=true) (et:pe (lk ew l).toArray bd=true) (jY:JZ ew l.length=true)
  (h:bA P N (lk ew l).toArray bd (get G) 0 [] (lk ew l) λg'=>ko g' (get G1)) (hk:aA .normal Φ G1):W P N (.region id l.toArray true) (get G) Φ:=by
 have au:=XG jY;obtain ⟨g',h1,af⟩:=h [] 0 .nil .nil (by simp);have fY:(lk ew l).toArray.size=l.length:=by simp [lk,au.len]
 refine gb.w (g':=g') (e:=.normal) ?_ (hk g' (.eY af .hY));intro Q a w I Fs bk bc dO;refine wp_region_any hm ?_;have dX:cF w.drew I a.tmps (get G) Fs:=bk.world (λ_ _ _=>rfl) (λ_ _=>rfl) (Nat.le_refl _);have hN:∀ k,dQ (Array.replicate (lk ew l).toArray.size false) k=false:=by
  intro k;unfold dQ;rcases Nat.lt_or_ge k (lk ew l).toArray.size with h | h
  ·simp_all
  grind
 refine XH au _ _ (Array.replicate l.length false) a w.drew (by simp) (by simp) (λj ah=>?_) ?_
 ·have:=(au.lt j ah).1
  simp_all
 have wY:=h1.sound et .nil (lk ew l).toArray.size (Array.replicate (lk ew l).toArray.size false) a w.drew I Fs ?_ (by simp) (λk hk=>by omega) (λk _=>hN k) (λk hk=>by rw [hN] at hk; cases hk) dX bc (λb' w' aF=>dO _ _ ?_)
 ·grind
 ·grind [hn]
 ·obtain ⟨cA,cf,I',b7,h8,b0⟩:=aF;exact ⟨cA,cf,I',b7,h8,⟨⟨b0.eT.os,b0.eT.tape,b0.eT.output,b0.eT.size,b0.eT.block,b0.eT.dN,Nat.le_trans (Nat.le_succ _) b0.eT.wS⟩,b0.more,b0.new,b0.own⟩⟩
end
end Go.Own
namespace Go.Own
open Go
section
variable {α:Type}{P:Program}{N:c6}{g:aM}{a b:Operand}{t:TypeId}{m i:Int}
end
end Go.Own
namespace Go.Own
open Go
section
variable {P:Program}{N:c6}{ops:Array Oper}{bd:List (List Nat)}{acc:Acc}{l:List Oper}{K:aM->Prop}{i d:Nat}
theorem bA.LQ (bG:Nat) {G G2:List (Nat × ab)}{o:Oper}{x:ab}(he:iy P N (dh (get G) (λm=>(bd.getD bG []).contains m) acc) o (cV (get G2) d x)) (aO:o.guard=none) (gQ:Cx (acc.filterMap j1)=true) (fH:mc G=true) (ah:Nat.beq ops.size (bG+l.length+1)=true)
  (ga:acc.filter (λe=>!(bd.getD bG []).contains e.1)=[])
  (av:(List.range ops.size).all (λk=>Nat.ble k bG||(bd.getD k []).contains bG)=true) (hk:bA P N ops bd (get ((d,x)::G2)) (bG+1) [] l K):bA P N ops bd (get G) i acc (o::l) K :=
 .wG bG (sA ▸ he) aO gQ fH ah ga av hk
end
end Go.Own
namespace Go.Proofs
open Tryz
open Go Go.Shelf Go.RowKit Go.Lib Go.Sort Go.Own
def Tryz.YF:Go.Shelf.Ren:=⟨fun | 6=>56 | 15=>75 | 14=>74 | 28=>101 | 29=>102 | 20=>93 | 21=>94 | 22=>95 | 23=>96 | 24=>97 | 25=>98 | 26=>99 | 27=>100 | 46=>128 | 47=>129 | 48=>130 | 49=>131 | 50=>132 | 57=>142 | n=>n,fun | 22=>47 | 24=>111 | 25=>130 | 3=>3 | 39=>160 | 0=>0 | 53=>190 | 55=>192 | 4=>4 | 46=>184 | 45=>183 | 50=>59 | 5=>5 | 9=>9 | 66=>217 | 70=>221 | 76=>230 | 77=>176 | n=>n,fun | n=>n⟩
theorem Tryz.YE:Go.Proofs.SlLaysF0.n6 prog Tryz.YF:={
 mixed:=by kernel_rfl
 f6:=⟨Tryz.f56.name,by decide,func56.trans (congrArg some (by kernel_rfl))⟩
 f14:=⟨Tryz.f74.name,by decide,func74.trans (congrArg some (by kernel_rfl))⟩
 f15:=func75.trans (congrArg some (by kernel_rfl))
 f20:=⟨Tryz.f93.name,by decide,func93.trans (congrArg some (by kernel_rfl))⟩
 f21:=⟨Tryz.f94.name,by decide,func94.trans (congrArg some (by kernel_rfl))⟩
 f22:=⟨Tryz.f95.name,by decide,func95.trans (congrArg some (by kernel_rfl))⟩
 f23:=⟨Tryz.f96.name,by decide,func96.trans (congrArg some (by kernel_rfl))⟩
 f24:=⟨Tryz.f97.name,by decide,func97.trans (congrArg some (by kernel_rfl))⟩
 f25:=⟨Tryz.f98.name,by decide,func98.trans (congrArg some (by kernel_rfl))⟩
 f26:=⟨Tryz.f99.name,by decide,func99.trans (congrArg some (by kernel_rfl))⟩
 f27:=⟨Tryz.f100.name,by decide,func100.trans (congrArg some (by kernel_rfl))⟩
 f28:=func101.trans (congrArg some (by kernel_rfl))
 f29:=func102.trans (congrArg some (by kernel_rfl))
 f46:=⟨Tryz.f128.name,by decide,func128.trans (congrArg some (by kernel_rfl))⟩
 f47:=func129.trans (congrArg some (by kernel_rfl))
 f48:=func130.trans (congrArg some (by kernel_rfl))
 f49:=⟨Tryz.f131.name,by decide,func131.trans (congrArg some (by kernel_rfl))⟩
 f50:=⟨Tryz.f132.name,by decide,func132.trans (congrArg some (by kernel_rfl))⟩
 f57:=⟨Tryz.f142.name,by decide,func142.trans (congrArg some (by kernel_rfl))⟩
 t0:=Tryz.underlying0
 a0:=Tryz.isAgg0
 z0:=Tryz.sizeOf0
 v0:=Tryz.zeroValue0
 t3:=Tryz.underlying3
 a3:=Tryz.isAgg3
 z3:=Tryz.sizeOf3
 v3:=Tryz.zeroValue3
 t4:=Tryz.underlying4
 a4:=Tryz.isAgg4
 z4:=Tryz.sizeOf4
 v4:=Tryz.zeroValue4
 t5:=Tryz.underlying5
 a5:=Tryz.isAgg5
 z5:=Tryz.sizeOf5
 v5:=Tryz.zeroValue5
 t9:=Tryz.underlying9
 a9:=Tryz.isAgg9
 z9:=Tryz.sizeOf9
 v9:=Tryz.zeroValue9
 t22:=Tryz.underlying47
 a22:=Tryz.isAgg47
 z22:=Tryz.sizeOf47
 v22:=Tryz.zeroValue47
 t25:=Tryz.underlying130
 a25:=Tryz.isAgg130
 z25:=Tryz.sizeOf130
 v25:=Tryz.zeroValue130
 t39:=Tryz.underlying160
 a39:=Tryz.isAgg160
 z39:=Tryz.sizeOf160
 v39:=Tryz.zeroValue160
 t45:=Tryz.underlying183
 a45:=Tryz.isAgg183
 z45:=Tryz.sizeOf183
 v45:=Tryz.zeroValue183
 t46:=Tryz.underlying184
 a46:=Tryz.isAgg184
 z46:=Tryz.sizeOf184
 v46:=Tryz.zeroValue184
 t50:=Tryz.underlying59
 a50:=Tryz.isAgg59
 z50:=Tryz.sizeOf59
 v50:=Tryz.zeroValue59
 t53:=Tryz.underlying190
 a53:=Tryz.isAgg190
 z53:=Tryz.sizeOf190
 v53:=Tryz.zeroValue190
 t55:=Tryz.underlying192
 a55:=Tryz.isAgg192
 z55:=Tryz.sizeOf192
 v55:=Tryz.zeroValue192
 t66:=Tryz.underlying217
 a66:=Tryz.isAgg217
 z66:=Tryz.sizeOf217
 v66:=Tryz.zeroValue217
 t70:=Tryz.underlying221
 a70:=Tryz.isAgg221
 z70:=Tryz.sizeOf221
 v70:=Tryz.zeroValue221
 t76:=Tryz.underlying230
 a76:=Tryz.isAgg230
 z76:=Tryz.sizeOf230
 v76:=Tryz.zeroValue230
 t77:=Tryz.underlying176
 a77:=Tryz.isAgg176
 z77:=Tryz.sizeOf176
 v77:=Tryz.zeroValue176 }
def Tryz.YB:Go.Shelf.Ren:=⟨fun | 6=>70 | 15=>75 | 14=>90 | 28=>101 | 29=>102 | 20=>119 | 21=>120 | 22=>121 | 23=>122 | 24=>123 | 25=>124 | 26=>125 | 27=>126 | 46=>139 | 47=>129 | 48=>130 | 49=>140 | 50=>141 | 57=>147 | n=>n,fun | 22=>27 | 24=>3 | 25=>85 | 3=>3 | 39=>160 | 0=>0 | 53=>190 | 55=>192 | 4=>4 | 46=>184 | 45=>183 | 50=>59 | 5=>5 | 9=>9 | 66=>217 | 70=>221 | 76=>230 | 77=>176 | n=>n,fun | n=>n⟩
theorem Tryz.Kz:Go.Proofs.SlLaysF.n6 prog Tryz.YB:={
 mixed:=by kernel_rfl
 f6:=⟨Tryz.f70.name,by decide,func70.trans (congrArg some (by kernel_rfl))⟩
 f14:=⟨Tryz.f90.name,by decide,func90.trans (congrArg some (by kernel_rfl))⟩
 f15:=func75.trans (congrArg some (by kernel_rfl))
 f20:=⟨Tryz.f119.name,by decide,func119.trans (congrArg some (by kernel_rfl))⟩
 f21:=⟨Tryz.f120.name,by decide,func120.trans (congrArg some (by kernel_rfl))⟩
 f22:=⟨Tryz.f121.name,by decide,func121.trans (congrArg some (by kernel_rfl))⟩
 f23:=⟨Tryz.f122.name,by decide,func122.trans (congrArg some (by kernel_rfl))⟩
 f24:=⟨Tryz.f123.name,by decide,func123.trans (congrArg some (by kernel_rfl))⟩
 f25:=⟨Tryz.f124.name,by decide,func124.trans (congrArg some (by kernel_rfl))⟩
 f26:=⟨Tryz.f125.name,by decide,func125.trans (congrArg some (by kernel_rfl))⟩
 f27:=⟨Tryz.f126.name,by decide,func126.trans (congrArg some (by kernel_rfl))⟩
 f28:=func101.trans (congrArg some (by kernel_rfl))
 f29:=func102.trans (congrArg some (by kernel_rfl))
 f46:=⟨Tryz.f139.name,by decide,func139.trans (congrArg some (by kernel_rfl))⟩
 f47:=func129.trans (congrArg some (by kernel_rfl))
 f48:=func130.trans (congrArg some (by kernel_rfl))
 f49:=⟨Tryz.f140.name,by decide,func140.trans (congrArg some (by kernel_rfl))⟩
 f50:=⟨Tryz.f141.name,by decide,func141.trans (congrArg some (by kernel_rfl))⟩
 f57:=⟨Tryz.f147.name,by decide,func147.trans (congrArg some (by kernel_rfl))⟩
 t0:=Tryz.underlying0
 a0:=Tryz.isAgg0
 z0:=Tryz.sizeOf0
 v0:=Tryz.zeroValue0
 t3:=Tryz.underlying3
 a3:=Tryz.isAgg3
 z3:=Tryz.sizeOf3
 v3:=Tryz.zeroValue3
 t4:=Tryz.underlying4
 a4:=Tryz.isAgg4
 z4:=Tryz.sizeOf4
 v4:=Tryz.zeroValue4
 t5:=Tryz.underlying5
 a5:=Tryz.isAgg5
 z5:=Tryz.sizeOf5
 v5:=Tryz.zeroValue5
 t9:=Tryz.underlying9
 a9:=Tryz.isAgg9
 z9:=Tryz.sizeOf9
 v9:=Tryz.zeroValue9
 t22:=Tryz.underlying27
 a22:=Tryz.isAgg27
 z22:=Tryz.sizeOf27
 v22:=Tryz.zeroValue27
 a24:=Tryz.isAgg3
 z24:=Tryz.sizeOf3
 t25:=Tryz.underlying85
 a25:=Tryz.isAgg85
 z25:=Tryz.sizeOf85
 v25:=Tryz.zeroValue85
 t39:=Tryz.underlying160
 a39:=Tryz.isAgg160
 z39:=Tryz.sizeOf160
 v39:=Tryz.zeroValue160
 t45:=Tryz.underlying183
 a45:=Tryz.isAgg183
 z45:=Tryz.sizeOf183
 v45:=Tryz.zeroValue183
 t46:=Tryz.underlying184
 a46:=Tryz.isAgg184
 z46:=Tryz.sizeOf184
 v46:=Tryz.zeroValue184
 t50:=Tryz.underlying59
 a50:=Tryz.isAgg59
 z50:=Tryz.sizeOf59
 v50:=Tryz.zeroValue59
 t53:=Tryz.underlying190
 a53:=Tryz.isAgg190
 z53:=Tryz.sizeOf190
 v53:=Tryz.zeroValue190
 t55:=Tryz.underlying192
 a55:=Tryz.isAgg192
 z55:=Tryz.sizeOf192
 v55:=Tryz.zeroValue192
 t66:=Tryz.underlying217
 a66:=Tryz.isAgg217
 z66:=Tryz.sizeOf217
 v66:=Tryz.zeroValue217
 t70:=Tryz.underlying221
 a70:=Tryz.isAgg221
 z70:=Tryz.sizeOf221
 v70:=Tryz.zeroValue221
 t76:=Tryz.underlying230
 a76:=Tryz.isAgg230
 z76:=Tryz.sizeOf230
 v76:=Tryz.zeroValue230
 t77:=Tryz.underlying176
 a77:=Tryz.isAgg176
 z77:=Tryz.sizeOf176
 v77:=Tryz.zeroValue176 }
theorem YA {g:FuncId}{caps:List ab} [w8:dq caps] (aO:gM prog g=true) {l r:List Int}{fU:Int->Int->Option Int}(h:pV fU l=some r)
  (aa:∀ a b v,fU a b=some v->bT prog g (ae a::ae b::caps) (none::none::caps.map λ_=>none) (ae v)) :
  bT prog 70 [aj ai l,.cW (.func g) [] caps] [some (aj ai r),none] (.bW []):=bT.Kz Tryz.Kz aO h aa
open Go Go.Own
set_option maxRecDepth 100000
set_option linter.unusedVariables false
def CM (a0:Int):Option (Bool) :=
 ((bif decide (97<=a0) then (bif decide (a0<=122) then some true else (bif decide (65<=a0) then (bif decide (a0<=90) then some true else some (decide (a0=95))) else some (decide (a0=95)))) else (bif decide (65<=a0) then (bif decide (a0<=90) then some true else some (decide (a0=95))) else some (decide (a0=95))))).bind λkJ =>
 some kJ
def CN (a0:Int):Option (Bool) :=
 ((bif decide (48<=a0) then some (decide (a0<=57)) else some false)).bind λc2 =>
 some c2
def CL (a0:ByteArray) (aE:Int):Option (Int) :=
 (b4 (R:=Int) (λ(s1:Int) =>
 ((bif decide (aK (aE+s1)<(a0.size:Int)) then ((kp a0 (aK (aE+s1))).bind λbS=>((CM bS).bind λbB=>(bif bB then some true else (bif decide (0<s1) then ((kp a0 (aK (aE+s1))).bind λcw=>((CN cw).bind λbI=>(bif bI then some true else ((kp a0 (aK (aE+s1))).bind λeF=>some (decide (eF=46)))))) else some false)))) else some false)).bind λjU =>
 (bif jU then
 some (.inl (aK (s1+1)))
 else
 some (.inr s1))) 0).bind λx2 =>
 some x2
def vL (a0:ByteArray):Option (Bool) :=
 ((bif decide (1<=(a0.size:Int)) then (bif decide ((a0.size:Int)<=20) then ((CL a0 0).bind λa7=>some (decide (a7=(a0.size:Int)))) else some false) else some false)).bind λc4 =>
 some c4
def z7 (a0:Int):Option (Int × Bool) :=
 (bif decide (a0=10) then
 some (110,true)
 else
 (bif decide (a0=9) then
 some (116,true)
 else
 (bif decide (a0=13) then
 some (114,true)
 else
 ((bif decide (a0=92) then
 some (decide (a0=92))
 else
 some (decide (a0=39)))).bind λJr =>
 (bif Jr then
 some (a0,true)
 else
 ((bif decide (32<=a0) then some (0,decide (a0<=126)) else some (0,false))).bind λtz =>
 some (tz.1,tz.2)))))
structure Sym where
 Name:ByteArray
 Lit:Bool
 bR:Int
 At:Int
 deriving DecidableEq,Inhabited
def dE:bJ Sym:=⟨4,λx=>[ay x.Name,a_ x.Lit,ae x.bR,ae x.At],λ_=>rfl,λ_=>dq.bm⟩
instance:Flat dE:=⟨λ_=>rfl⟩
instance:l0 dE:=⟨λx=>(inferInstance:jC [ay x.Name,a_ x.Lit,ae x.bR,ae x.At])⟩
instance:gU dE dE:=⟨rfl,λx=>(inferInstance:ds [ay x.Name,a_ x.Lit,ae x.bR,ae x.At] [ay x.Name,a_ x.Lit,ae x.bR,ae x.At])⟩
instance {x:Sym}:ds (dE.cells x) [ay x.Name,a_ x.Lit,ae x.bR,ae x.At]:=(inferInstance:ds [ay x.Name,a_ x.Lit,ae x.bR,ae x.At] [ay x.Name,a_ x.Lit,ae x.bR,ae x.At])
def ur (a0:Sym) (aE:Bool) (a2:Bool):Option (Bool) :=
 (bif a0.Lit then
 ((bif !a2 then some true else (bif !decide ((a0.Name.size:Int)=1) then some true else some (!decide (a0.bR=0))))).bind λc4 =>
 (bif c4 then
 some false
 else
 (kp a0.Name 0).bind λbB =>
 (z7 bB).bind λbP =>
 some bP.2)
 else
 (((vL a0.Name).bind λb6=>(bif b6 then (bif decide (a0.bR=0) then some true else (bif aE then (bif decide (1<=a0.bR) then some (decide (a0.bR<=50000)) else some false) else some false)) else some false))).bind λjU =>
 some jU)
structure Decl where
 Kind:Int
 Tag:ByteArray
 eL:(List Sym)
 At:Int
 deriving DecidableEq,Inhabited
def dA:bJ Decl:=⟨4,λx=>[ae x.Kind,ay x.Tag,ag dE x.eL,ae x.At],λ_=>rfl,λ_=>dq.bm⟩
instance:Flat dA:=⟨λ_=>rfl⟩
instance:gU dA dA:=⟨rfl,λx=>(inferInstance:ds [ae x.Kind,ay x.Tag,ag dE x.eL,ae x.At] [ae x.Kind,ay x.Tag,ag dE x.eL,ae x.At])⟩
instance {x:Decl}:ds (dA.cells x) [ae x.Kind,ay x.Tag,ag dE x.eL,ae x.At]:=(inferInstance:ds [ae x.Kind,ay x.Tag,ag dE x.eL,ae x.At] [ae x.Kind,ay x.Tag,ag dE x.eL,ae x.At])
def xU (a0:Decl):Option (Bool) :=
 ((bif decide (a0.Kind<1) then some true else (bif decide (6<a0.Kind) then some true else (bif decide ((a0.eL.length:Int)=0) then some true else (bif decide (a0.Kind=6) then (bif !decide ((a0.eL.length:Int)=1) then some true else (bif !decide (a0.Tag=⟨#[]⟩) then some true else (bif decide (a0.Kind=5) then (bif decide (a0.Tag=⟨#[]⟩) then some true else some false) else some false))) else (bif decide (a0.Kind=5) then (bif decide (a0.Tag=⟨#[]⟩) then some true else (bif !decide (a0.Tag=⟨#[]⟩) then ((vL a0.Tag).bind λeF=>some (!eF)) else some false)) else (bif !decide (a0.Tag=⟨#[]⟩) then ((vL a0.Tag).bind λek=>some (!ek)) else some false))))))).bind λtv =>
 (bif tv then
 some false
 else
 (b4 (R:=(Unit) ⊕ (Bool)) (λ(lT:Int) =>
 (bif decide (lT<(a0.eL.length:Int)) then
 (idx a0.eL lT).bind λfI =>
 (ur fI (decide (a0.Kind=1)) (decide (a0.Kind<5))).bind λfz =>
 (bif !fz then
 some (.inr (.inr false))
 else
 some (.inl (aK (lT+1))))
 else
 some (.inr (.inl ())))) 0).bind λdM =>
 (match dM with
 | .inl eR =>
 some true
 | .inr dP =>
 some dP))
def uu (a0:Sym):Option (Bool) :=
 ((bif decide (a0.Name=⟨#[]⟩) then (bif !a0.Lit then some (decide (a0.bR=0)) else some false) else some false)).bind λjV =>
 some jV
def xW (a0:ByteArray) (aE:Int) (a2:ByteArray):Option (Bool) :=
 ((bif decide ((a2.size:Int)<=aK ((a0.size:Int) - aE)) then ((q7 a0 aE (aK (aE+(a2.size:Int)))).bind λx2=>some (decide (x2=a2))) else some false)).bind λjV =>
 some jV
def CO (a0:ByteArray) (aE:Int):Option (Int) :=
 (((kp a0 aE).bind λa8=>(bif decide (a8=34) then some true else ((kp a0 aE).bind λa7=>some (decide (a7=39)))))).bind λc4 =>
 (bif c4 then
 (b4 (R:=(Unit) ⊕ (Int)) (λ(dc:Int) =>
 ((bif decide (dc<(a0.size:Int)) then ((kp a0 dc).bind λcp=>some (!decide (cp=10))) else some false)).bind λwI =>
 (bif wI then
 (kp a0 dc).bind λek =>
 (kp a0 aE).bind λcO =>
 (bif decide (ek=cO) then
 some (.inr (.inr (aK (dc+1))))
 else
 (kp a0 dc).bind λbU =>
 (bif decide (bU=92) then
 ((bif decide (aK (dc+1)<(a0.size:Int)) then ((kp a0 (aK (dc+1))).bind λdP=>some (decide (dP=10))) else some false)).bind λq6 =>
 (bif q6 then
 some (.inr (.inr (-1)))
 else
 some (.inl (aK ((aK (dc+1))+1))))
 else
 some (.inl (aK (dc+1)))))
 else
 some (.inr (.inl ())))) (aK (aE+1))).bind λbP =>
 (match bP with
 | .inl b6 =>
 some (-1)
 | .inr cw =>
 some cw)
 else
 (kp a0 aE).bind λfz =>
 (bif decide (fz=96) then
 (b4 (R:=(Unit) ⊕ (Int)) (λ(kg:Int) =>
 (bif decide (kg<(a0.size:Int)) then
 (kp a0 kg).bind λhT =>
 (bif decide (hT=96) then
 some (.inr (.inr (aK (kg+1))))
 else
 some (.inl (aK (kg+1))))
 else
 some (.inr (.inl ())))) (aK (aE+1))).bind λgA =>
 (match gA with
 | .inl ea =>
 some (-1)
 | .inr cY =>
 some cY)
 else
 (xW a0 aE (⟨#[47,47]⟩)).bind λcR =>
 (bif cR then
 (b4 (R:=Int) (λ(dZ:Int) =>
 ((bif decide (dZ<(a0.size:Int)) then ((kp a0 dZ).bind λc0=>some (!decide (c0=10))) else some false)).bind λwL =>
 (bif wL then
 some (.inl (aK (dZ+1)))
 else
 some (.inr dZ))) aE).bind λeo =>
 some eo
 else
 (xW a0 aE (⟨#[47,42]⟩)).bind λjB =>
 (bif jB then
 (b4 (R:=(Unit) ⊕ (Int)) (λ(Az:Int) =>
 (bif decide (Az<(a0.size:Int)) then
 (xW a0 Az (⟨#[42,47]⟩)).bind λwc =>
 (bif wc then
 some (.inr (.inr (aK (Az+2))))
 else
 some (.inl (aK (Az+1))))
 else
 some (.inr (.inl ())))) (aK (aE+2))).bind λwb =>
 (match wb with
 | .inl p0 =>
 some (-1)
 | .inr ov =>
 some ov)
 else
 some aE))))
def z6 (a0:ByteArray) (aE:Int):Option (Int) :=
 ((bif decide (aE<0) then some true else (bif decide ((a0.size:Int)<=aE) then some true else ((kp a0 aE).bind λa7=>some (!decide (a7=123)))))).bind λc4 =>
 (bif c4 then
 some (-1)
 else
 (b4 (R:=(Unit) ⊕ (Int)) (λ(dc:Int × Int) =>
 (bif decide (dc.2<(a0.size:Int)) then
 (CO a0 dc.2).bind λcp =>
 (bif decide (cp<0) then
 some (.inr (.inr (-1)))
 else
 (bif decide (dc.2<cp) then
 some (.inl (dc.1,cp))
 else
 (kp a0 dc.2).bind λek =>
 ((bif decide (ek=123) then
 some (aK (dc.1+1))
 else
 some dc.1)).bind λoj =>
 (kp a0 dc.2).bind λbU =>
 ((bif decide (bU=125) then
 some (aK (oj - 1))
 else
 some oj)).bind λE2 =>
 (bif decide (E2=0) then
 some (.inr (.inr (aK (dc.2+1))))
 else
 some (.inl (E2,aK (dc.2+1))))))
 else
 some (.inr (.inl ())))) (0,aE)).bind λbP =>
 (match bP with
 | .inl b6 =>
 some (-1)
 | .inr cw =>
 some cw))
structure Part where
 Sym:Sym
 Code:ByteArray
 At:Int
 deriving DecidableEq,Inhabited
structure Alt where
 hx:(List Part)
 Prec:Sym
 At:Int
 deriving DecidableEq,Inhabited
def e7:bJ Part:=⟨6,λx=>[ay x.Sym.Name,a_ x.Sym.Lit,ae x.Sym.bR,ae x.Sym.At,ay x.Code,ae x.At],λ_=>rfl,λ_=>dq.bm⟩
instance:Flat e7:=⟨λ_=>rfl⟩
instance:l0 e7:=⟨λx=>(inferInstance:jC [ay x.Sym.Name,a_ x.Sym.Lit,ae x.Sym.bR,ae x.Sym.At,ay x.Code,ae x.At])⟩
instance:gU e7 e7:=⟨rfl,λx=>(inferInstance:ds [ay x.Sym.Name,a_ x.Sym.Lit,ae x.Sym.bR,ae x.Sym.At,ay x.Code,ae x.At] [ay x.Sym.Name,a_ x.Sym.Lit,ae x.Sym.bR,ae x.Sym.At,ay x.Code,ae x.At])⟩
instance {x:Part}:ds (e7.cells x) [ay x.Sym.Name,a_ x.Sym.Lit,ae x.Sym.bR,ae x.Sym.At,ay x.Code,ae x.At]:=(inferInstance:ds [ay x.Sym.Name,a_ x.Sym.Lit,ae x.Sym.bR,ae x.Sym.At,ay x.Code,ae x.At] [ay x.Sym.Name,a_ x.Sym.Lit,ae x.Sym.bR,ae x.Sym.At,ay x.Code,ae x.At])
def e2:bJ Alt:=⟨6,λx=>[ag e7 x.hx,ay x.Prec.Name,a_ x.Prec.Lit,ae x.Prec.bR,ae x.Prec.At,ae x.At],λ_=>rfl,λ_=>dq.bm⟩
instance:Flat e2:=⟨λ_=>rfl⟩
instance:gU e2 e2:=⟨rfl,λx=>(inferInstance:ds [ag e7 x.hx,ay x.Prec.Name,a_ x.Prec.Lit,ae x.Prec.bR,ae x.Prec.At,ae x.At] [ag e7 x.hx,ay x.Prec.Name,a_ x.Prec.Lit,ae x.Prec.bR,ae x.Prec.At,ae x.At])⟩
instance {x:Alt}:ds (e2.cells x) [ag e7 x.hx,ay x.Prec.Name,a_ x.Prec.Lit,ae x.Prec.bR,ae x.Prec.At,ae x.At]:=(inferInstance:ds [ag e7 x.hx,ay x.Prec.Name,a_ x.Prec.Lit,ae x.Prec.bR,ae x.Prec.At,ae x.At] [ag e7 x.hx,ay x.Prec.Name,a_ x.Prec.Lit,ae x.Prec.bR,ae x.Prec.At,ae x.At])
def xV (a0:Alt):Option (Bool) :=
 (b4 (R:=(Unit) ⊕ (Bool)) (λ(s1:Int) =>
 (bif decide (s1<(a0.hx.length:Int)) then
 (idx a0.hx s1).bind λbB =>
 ((bif decide (bB.Code=⟨#[]⟩) then ((ur bB.Sym false true).bind λb6=>(bif !b6 then some true else (bif !decide (bB.Code=⟨#[]⟩) then ((uu bB.Sym).bind λcp=>(bif !cp then some true else ((z6 bB.Code 0).bind λck=>some (!decide (ck=(bB.Code.size:Int)))))) else some false))) else (bif !decide (bB.Code=⟨#[]⟩) then ((uu bB.Sym).bind λcO=>(bif !cO then some true else ((z6 bB.Code 0).bind λbU=>some (!decide (bU=(bB.Code.size:Int)))))) else some false))).bind λny =>
 (bif ny then
 some (.inr (.inr false))
 else
 some (.inl (aK (s1+1))))
 else
 some (.inr (.inl ())))) 0).bind λx2 =>
 (match x2 with
 | .inl a7 =>
 (((uu a0.Prec).bind λdP=>(bif dP then some true else ((ur a0.Prec false true).bind λfI=>some fI)))).bind λG8 =>
 some G8
 | .inr bq =>
 some bq)
structure fh where
 Left:ByteArray
 eK:(List Alt)
 At:Int
 deriving DecidableEq,Inhabited
structure Source where
 cC:ByteArray
 Decls:(List Decl)
 dG:(List fh)
 cK:ByteArray
 deriving DecidableEq,Inhabited
def gN:bJ fh:=⟨3,λx=>[ay x.Left,ag e2 x.eK,ae x.At],λ_=>rfl,λ_=>dq.bm⟩
instance:Flat gN:=⟨λ_=>rfl⟩
instance:gU gN gN:=⟨rfl,λx=>(inferInstance:ds [ay x.Left,ag e2 x.eK,ae x.At] [ay x.Left,ag e2 x.eK,ae x.At])⟩
instance {x:fh}:ds (gN.cells x) [ay x.Left,ag e2 x.eK,ae x.At]:=(inferInstance:ds [ay x.Left,ag e2 x.eK,ae x.At] [ay x.Left,ag e2 x.eK,ae x.At])
def hh:bJ Source:=⟨4,λx=>[ay x.cC,ag dA x.Decls,ag gN x.dG,ay x.cK],λ_=>rfl,λ_=>dq.bm⟩
instance:Flat hh:=⟨λ_=>rfl⟩
instance:gU hh hh:=⟨rfl,λx=>(inferInstance:ds [ay x.cC,ag dA x.Decls,ag gN x.dG,ay x.cK] [ay x.cC,ag dA x.Decls,ag gN x.dG,ay x.cK])⟩
instance {x:Source}:ds (hh.cells x) [ay x.cC,ag dA x.Decls,ag gN x.dG,ay x.cK]:=(inferInstance:ds [ay x.cC,ag dA x.Decls,ag gN x.dG,ay x.cK] [ay x.cC,ag dA x.Decls,ag gN x.dG,ay x.cK])
def xS (a0:Source):Option (Bool) :=
 (b4 (R:=(Unit) ⊕ (Bool)) (λ(s1:Int) =>
 (bif decide (aK (s1+1)<(a0.cC.size:Int)) then
 (q7 a0.cC s1 (aK (s1+2))).bind λbB =>
 (bif decide (bB=⟨#[37,125]⟩) then
 some (.inr (.inr false))
 else
 some (.inl (aK (s1+1))))
 else
 some (.inr (.inl ())))) 0).bind λx2 =>
 (match x2 with
 | .inl a7 =>
 (b4 (R:=(Unit) ⊕ (Bool)) (λ(dw:Int) =>
 (bif decide (dw<(a0.Decls.length:Int)) then
 (idx a0.Decls dw).bind λck =>
 (xU ck).bind λek =>
 (bif !ek then
 some (.inr (.inr false))
 else
 some (.inl (aK (dw+1))))
 else
 some (.inr (.inl ())))) 0).bind λcw =>
 (match cw with
 | .inl bI =>
 (b4 (R:=(Unit) ⊕ (Bool)) (λ(nn:Int) =>
 (bif decide (nn<(a0.dG.length:Int)) then
 (idx a0.dG nn).bind λeB =>
 (((vL eB.Left).bind λfI=>(bif !fI then some true else some (decide ((eB.eK.length:Int)=0))))).bind λqc =>
 (bif qc then
 some (.inr (.inr false))
 else
 (b4 (R:=(Unit) ⊕ (Bool)) (λ(oX:Int) =>
 (bif decide (oX<(eB.eK.length:Int)) then
 (idx eB.eK oX).bind λkZ =>
 (xV kZ).bind λcR =>
 (bif !cR then
 some (.inr (.inr false))
 else
 some (.inl (aK (oX+1))))
 else
 some (.inr (.inl ())))) 0).bind λea =>
 (match ea with
 | .inl cY =>
 some (.inl (aK (nn+1)))
 | .inr ei =>
 some (.inr (.inr ei))))
 else
 some (.inr (.inl ())))) 0).bind λbU =>
 (match bU with
 | .inl dM =>
 some (decide (0<(a0.dG.length:Int)))
 | .inr eR =>
 some eR)
 | .inr cp =>
 some cp)
 | .inr bq =>
 some bq)
structure bX where
 Name:ByteArray
 Lit:Bool
 bR:Int
 Level:Int
 fu:Int
 Tag:ByteArray
 deriving DecidableEq,Inhabited
structure fE where
 Name:ByteArray
 Tag:ByteArray
 deriving DecidableEq,Inhabited
structure Prod where
 Left:Int
 eI:(List Int)
 Prec:Int
 Code:ByteArray
 yz:(List Int)
 At:Int
 deriving DecidableEq,Inhabited
structure bO where
 ba:(List bX)
 b1:(List fE)
 bh:(List Prod)
 cC:ByteArray
 cK:ByteArray
 deriving DecidableEq,Inhabited
structure dv where
 aG:bO
 cu:(List Bool)
 cL:(List fE)
 cb:(List ByteArray)
 cZ:Int
 dp:Int
 dm:ByteArray
 cr:Int
 b_:Int
 deriving DecidableEq,Inhabited
def bZ:bJ bX:=⟨6,λx=>[ay x.Name,a_ x.Lit,ae x.bR,ae x.Level,ae x.fu,ay x.Tag],λ_=>rfl,λ_=>dq.bm⟩
instance:Flat bZ:=⟨λ_=>rfl⟩
instance:l0 bZ:=⟨λx=>(inferInstance:jC [ay x.Name,a_ x.Lit,ae x.bR,ae x.Level,ae x.fu,ay x.Tag])⟩
instance:gU bZ bZ:=⟨rfl,λx=>(inferInstance:ds [ay x.Name,a_ x.Lit,ae x.bR,ae x.Level,ae x.fu,ay x.Tag] [ay x.Name,a_ x.Lit,ae x.bR,ae x.Level,ae x.fu,ay x.Tag])⟩
instance {x:bX}:ds (bZ.cells x) [ay x.Name,a_ x.Lit,ae x.bR,ae x.Level,ae x.fu,ay x.Tag]:=(inferInstance:ds [ay x.Name,a_ x.Lit,ae x.bR,ae x.Level,ae x.fu,ay x.Tag] [ay x.Name,a_ x.Lit,ae x.bR,ae x.Level,ae x.fu,ay x.Tag])
def bH:bJ fE:=⟨2,λx=>[ay x.Name,ay x.Tag],λ_=>rfl,λ_=>dq.bm⟩
instance:Flat bH:=⟨λ_=>rfl⟩
instance:l0 bH:=⟨λx=>(inferInstance:jC [ay x.Name,ay x.Tag])⟩
instance:gU bH bH:=⟨rfl,λx=>(inferInstance:ds [ay x.Name,ay x.Tag] [ay x.Name,ay x.Tag])⟩
def cD:bJ Prod:=⟨6,λx=>[ae x.Left,ag ai x.eI,ae x.Prec,ay x.Code,ag ai x.yz,ae x.At],λ_=>rfl,λ_=>dq.bm⟩
instance:Flat cD:=⟨λ_=>rfl⟩
instance:gU cD cD:=⟨rfl,λx=>(inferInstance:ds [ae x.Left,ag ai x.eI,ae x.Prec,ay x.Code,ag ai x.yz,ae x.At] [ae x.Left,ag ai x.eI,ae x.Prec,ay x.Code,ag ai x.yz,ae x.At])⟩
instance {x:Prod}:ds (cD.cells x) [ae x.Left,ag ai x.eI,ae x.Prec,ay x.Code,ag ai x.yz,ae x.At]:=(inferInstance:ds [ae x.Left,ag ai x.eI,ae x.Prec,ay x.Code,ag ai x.yz,ae x.At] [ae x.Left,ag ai x.eI,ae x.Prec,ay x.Code,ag ai x.yz,ae x.At])
def dt:bJ bO:=⟨5,λx=>[ag bZ x.ba,ag bH x.b1,ag cD x.bh,ay x.cC,ay x.cK],λ_=>rfl,λ_=>dq.bm⟩
instance:Flat dt:=⟨λ_=>rfl⟩
instance:gU dt dt:=⟨rfl,λx=>(inferInstance:ds [ag bZ x.ba,ag bH x.b1,ag cD x.bh,ay x.cC,ay x.cK] [ag bZ x.ba,ag bH x.b1,ag cD x.bh,ay x.cC,ay x.cK])⟩
instance {x:bO}:ds (dt.cells x) [ag bZ x.ba,ag bH x.b1,ag cD x.bh,ay x.cC,ay x.cK]:=(inferInstance:ds [ag bZ x.ba,ag bH x.b1,ag cD x.bh,ay x.cC,ay x.cK] [ag bZ x.ba,ag bH x.b1,ag cD x.bh,ay x.cC,ay x.cK])
def Ee:bJ dv:=⟨13,λx=>[ag bZ x.aG.ba,ag bH x.aG.b1,ag cD x.aG.bh,ay x.aG.cC,ay x.aG.cK,ag cq x.cu,ag bH x.cL,ag dx x.cb,ae x.cZ,ae x.dp,ay x.dm,ae x.cr,ae x.b_],λ_=>rfl,λ_=>dq.bm⟩
instance:Flat Ee:=⟨λ_=>rfl⟩
instance:gU Ee Ee:=⟨rfl,λx=>(inferInstance:ds [ag bZ x.aG.ba,ag bH x.aG.b1,ag cD x.aG.bh,ay x.aG.cC,ay x.aG.cK,ag cq x.cu,ag bH x.cL,ag dx x.cb,ae x.cZ,ae x.dp,ay x.dm,ae x.cr,ae x.b_] [ag bZ x.aG.ba,ag bH x.aG.b1,ag cD x.aG.bh,ay x.aG.cC,ay x.aG.cK,ag cq x.cu,ag bH x.cL,ag dx x.cb,ae x.cZ,ae x.dp,ay x.dm,ae x.cr,ae x.b_])⟩
instance {x:dv}:ds (Ee.cells x) [ag bZ x.aG.ba,ag bH x.aG.b1,ag cD x.aG.bh,ay x.aG.cC,ay x.aG.cK,ag cq x.cu,ag bH x.cL,ag dx x.cb,ae x.cZ,ae x.dp,ay x.dm,ae x.cr,ae x.b_]:=(inferInstance:ds [ag bZ x.aG.ba,ag bH x.aG.b1,ag cD x.aG.bh,ay x.aG.cC,ay x.aG.cK,ag cq x.cu,ag bH x.cL,ag dx x.cb,ae x.cZ,ae x.dp,ay x.dm,ae x.cr,ae x.b_] [ag bZ x.aG.ba,ag bH x.aG.b1,ag cD x.aG.bh,ay x.aG.cC,ay x.aG.cK,ag cq x.cu,ag bH x.cL,ag dx x.cb,ae x.cZ,ae x.dp,ay x.dm,ae x.cr,ae x.b_])
def Mn:bJ bO:=⟨5,λx=>[aj bZ x.ba,aj bH x.b1,aj cD x.bh,ay x.cC,ay x.cK],λ_=>rfl,λ_=>dq.bm⟩
instance:gU Mn dt:=⟨rfl,λx=>(inferInstance:ds [aj bZ x.ba,aj bH x.b1,aj cD x.bh,ay x.cC,ay x.cK] [ag bZ x.ba,ag bH x.b1,ag cD x.bh,ay x.cC,ay x.cK])⟩
instance {x:bO}:ds (Mn.cells x) [ag bZ x.ba,ag bH x.b1,ag cD x.bh,ay x.cC,ay x.cK]:=(inferInstance:ds [aj bZ x.ba,aj bH x.b1,aj cD x.bh,ay x.cC,ay x.cK] [ag bZ x.ba,ag bH x.b1,ag cD x.bh,ay x.cC,ay x.cK])
def dR:bJ dv:=⟨13,λx=>[aj bZ x.aG.ba,aj bH x.aG.b1,aj cD x.aG.bh,ay x.aG.cC,ay x.aG.cK,aj cq x.cu,aj bH x.cL,aj dx x.cb,ae x.cZ,ae x.dp,ay x.dm,ae x.cr,ae x.b_],λ_=>rfl,λ_=>dq.bm⟩
instance {x:dv}:ds (dR.cells x) [ag bZ x.aG.ba,ag bH x.aG.b1,ag cD x.aG.bh,ay x.aG.cC,ay x.aG.cK,ag cq x.cu,ag bH x.cL,ag dx x.cb,ae x.cZ,ae x.dp,ay x.dm,ae x.cr,ae x.b_]:=(inferInstance:ds [aj bZ x.aG.ba,aj bH x.aG.b1,aj cD x.aG.bh,ay x.aG.cC,ay x.aG.cK,aj cq x.cu,aj bH x.cL,aj dx x.cb,ae x.cZ,ae x.dp,ay x.dm,ae x.cr,ae x.b_] [ag bZ x.aG.ba,ag bH x.aG.b1,ag cD x.aG.bh,ay x.aG.cC,ay x.aG.cK,ag cq x.cu,ag bH x.cL,ag dx x.cb,ae x.cZ,ae x.dp,ay x.dm,ae x.cr,ae x.b_])
def nU (a0:dv) (aE:Int) (a2:ByteArray):Option (dv) :=
 ((bif decide (a0.cZ=0) then
 some (⟨a0.aG,a0.cu,a0.cL,a0.cb,3,aE,a2,a0.cr,a0.b_⟩:dv)
 else
 some a0)).bind λjt =>
 some jt
def zW (a0:dv) (aE:ByteArray):Option (Int) :=
 (b4 (R:=(Unit) ⊕ (Int)) (λ(s1:Int) =>
 (bif decide (s1<(a0.cL.length:Int)) then
 (idx a0.cL s1).bind λbB =>
 (bif decide (bB.Name=aE) then
 some (.inr (.inr s1))
 else
 some (.inl (aK (s1+1))))
 else
 some (.inr (.inl ())))) 0).bind λx2 =>
 (match x2 with
 | .inl a7 =>
 some (-1)
 | .inr bq =>
 some bq)
def uq (a0:dv) (aE:Sym):Option (Int) :=
 (b4 (R:=(Unit) ⊕ (Int)) (λ(s1:Int) =>
 (bif decide (s1<(a0.aG.ba.length:Int)) then
 (((idx a0.aG.ba s1).bind λbB=>(bif decide (bB.Name=aE.Name) then ((idx a0.aG.ba s1).bind λb6=>(bif (b6.Lit == aE.Lit) then some (!decide (s1=2)) else some false)) else some false))).bind λil =>
 (bif il then
 some (.inr (.inr s1))
 else
 some (.inl (aK (s1+1))))
 else
 some (.inr (.inl ())))) 1).bind λx2 =>
 (match x2 with
 | .inl a7 =>
 some (-1)
 | .inr bq =>
 some bq)
def vN (a0:dv) (aE:Int):Option (Int) :=
 (b4 (R:=(Unit) ⊕ (Int)) (λ(s1:Int) =>
 (bif decide (s1<(a0.aG.ba.length:Int)) then
 (idx a0.aG.ba s1).bind λbB =>
 (bif decide (bB.bR=aE) then
 some (.inr (.inr s1))
 else
 some (.inl (aK (s1+1))))
 else
 some (.inr (.inl ())))) 3).bind λx2 =>
 (match x2 with
 | .inl a7 =>
 some (-1)
 | .inr bq =>
 some bq)
def vM (a0:dv) (aE:Sym):Option (Int × dv) :=
 (uq a0 aE).bind λa8 =>
 (bif decide (0<=a8) then
 some (a8,a0)
 else
 ((bif aE.Lit then
 (kp aE.Name 0).bind λbS =>
 (vN a0 (aK bS)).bind λbB =>
 ((bif decide (0<=bB) then
 (nU a0 aE.At aE.Name).bind λcw =>
 some cw
 else
 some a0)).bind λkS =>
 some (kS,aK bS)
 else
 some (a0,0))).bind λiw =>
 (db iw.1.aG.ba [(⟨aE.Name,aE.Lit,iw.2,0,0,⟨#[]⟩⟩:bX)]).bind λbI =>
 (db iw.1.cu [aE.Lit]).bind λcp =>
 some (aK (((iw.1.aG.ba++[(⟨aE.Name,aE.Lit,iw.2,0,0,⟨#[]⟩⟩:bX)]).length:Int) - 1),(⟨(⟨iw.1.aG.ba++[(⟨aE.Name,aE.Lit,iw.2,0,0,⟨#[]⟩⟩:bX)],iw.1.aG.b1,iw.1.aG.bh,iw.1.aG.cC,iw.1.aG.cK⟩:bO),iw.1.cu++[aE.Lit],iw.1.cL,iw.1.cb,iw.1.cZ,iw.1.dp,iw.1.dm,iw.1.cr,iw.1.b_⟩:dv)))
def vI (a0:dv) (aE:Decl) (a2:Sym):Option (dv) :=
 (bif decide (aE.Kind=5) then
 (zW a0 a2.Name).bind λx2 =>
 ((bif decide (x2<0) then
 (db a0.cL [(⟨a2.Name,aE.Tag⟩:fE)]).bind λbS =>
 some (⟨a0.aG,a0.cu,a0.cL++[(⟨a2.Name,aE.Tag⟩:fE)],a0.cb,a0.cZ,a0.dp,a0.dm,a0.cr,a0.b_⟩:dv)
 else
 (idx a0.cL x2).bind λbB =>
 ((bif !decide (bB.Tag=aE.Tag) then
 (nU a0 a2.At a2.Name).bind λcw =>
 some cw
 else
 some a0)).bind λkS =>
 some kS)).bind λiw =>
 some iw
 else
 (vM a0 a2).bind λbI =>
 (idx bI.2.aG.ba bI.1).bind λcp =>
 ((bif !decide (aE.Kind=1) then
 ((bif decide (0<cp.Level) then
 (nU bI.2 a2.At a2.Name).bind λcc =>
 some (⟨(⟨bI.2.aG.ba,cc.aG.b1,cc.aG.bh,cc.aG.cC,cc.aG.cK⟩:bO),cc.cu,cc.cL,cc.cb,cc.cZ,cc.dp,cc.dm,cc.cr,cc.b_⟩:dv)
 else
 some bI.2)).bind λde =>
 (idx de.aG.ba bI.1).bind λbU =>
 some (⟨(⟨(de.aG.ba.set bI.1.toNat (⟨bU.Name,bU.Lit,bU.bR,de.cr,bU.fu,bU.Tag⟩:bX)).set bI.1.toNat (⟨(⟨bU.Name,bU.Lit,bU.bR,de.cr,bU.fu,bU.Tag⟩:bX).Name,(⟨bU.Name,bU.Lit,bU.bR,de.cr,bU.fu,bU.Tag⟩:bX).Lit,(⟨bU.Name,bU.Lit,bU.bR,de.cr,bU.fu,bU.Tag⟩:bX).bR,(⟨bU.Name,bU.Lit,bU.bR,de.cr,bU.fu,bU.Tag⟩:bX).Level,aK (aE.Kind - 1),(⟨bU.Name,bU.Lit,bU.bR,de.cr,bU.fu,bU.Tag⟩:bX).Tag⟩:bX),de.aG.b1,de.aG.bh,de.aG.cC,de.aG.cK⟩:bO),de.cu,de.cL,de.cb,de.cZ,de.dp,de.dm,de.cr,de.b_⟩:dv)
 else
 some bI.2)).bind λeN =>
 (idx eN.aG.ba bI.1).bind λdM =>
 ((bif decide (0<a2.bR) then
 ((bif decide (bI.1=1) then some true else ((idx eN.cu bI.1).bind λfI=>(bif fI then some true else ((vN eN a2.bR).bind λfL=>some (decide (0<=fL))))))).bind λG9 =>
 ((bif G9 then
 (nU eN a2.At a2.Name).bind λcY =>
 some (⟨(⟨eN.aG.ba,cY.aG.b1,cY.aG.bh,cY.aG.cC,cY.aG.cK⟩:bO),cY.cu,cY.cL,cY.cb,cY.cZ,cY.dp,cY.dm,cY.cr,cY.b_⟩:dv)
 else
 some eN)).bind λdY =>
 (idx dY.aG.ba bI.1).bind λei =>
 (idx dY.cu bI.1).bind λhT =>
 some (⟨(⟨dY.aG.ba.set bI.1.toNat (⟨ei.Name,ei.Lit,a2.bR,ei.Level,ei.fu,ei.Tag⟩:bX),dY.aG.b1,dY.aG.bh,dY.aG.cC,dY.aG.cK⟩:bO),dY.cu.set bI.1.toNat true,dY.cL,dY.cb,dY.cZ,dY.dp,dY.dm,dY.cr,dY.b_⟩:dv)
 else
 some eN)).bind λe_ =>
 (idx e_.aG.ba bI.1).bind λkZ =>
 ((bif !decide (aE.Tag=⟨#[]⟩) then
 ((bif !decide (kZ.Tag=⟨#[]⟩) then some (!decide (kZ.Tag=aE.Tag)) else some false)).bind λtx =>
 ((bif tx then
 (nU e_ a2.At a2.Name).bind λc0 =>
 some (⟨(⟨e_.aG.ba,c0.aG.b1,c0.aG.bh,c0.aG.cC,c0.aG.cK⟩:bO),c0.cu,c0.cL,c0.cb,c0.cZ,c0.dp,c0.dm,c0.cr,c0.b_⟩:dv)
 else
 some e_)).bind λnf =>
 (idx nf.aG.ba bI.1).bind λgn =>
 some (⟨(⟨nf.aG.ba.set bI.1.toNat (⟨gn.Name,gn.Lit,gn.bR,gn.Level,gn.fu,aE.Tag⟩:bX),nf.aG.b1,nf.aG.bh,nf.aG.cC,nf.aG.cK⟩:bO),nf.cu,nf.cL,nf.cb,nf.cZ,nf.dp,nf.dm,nf.cr,nf.b_⟩:dv)
 else
 some e_)).bind λpK =>
 some pK)
def sZ (a0:dv) (aE:ByteArray):Option (Int) :=
 (b4 (R:=(Unit) ⊕ (Int)) (λ(s1:Int) =>
 (bif decide (s1<(a0.cb.length:Int)) then
 (idx a0.cb s1).bind λbB =>
 (bif decide (bB=aE) then
 some (.inr (.inr s1))
 else
 some (.inl (aK (s1+1))))
 else
 some (.inr (.inl ())))) 0).bind λx2 =>
 (match x2 with
 | .inl a7 =>
 some (-1)
 | .inr bq =>
 some bq)
def s3 (a0:dv) (aE:Sym):Option (Int × dv) :=
 (bif aE.Lit then
 (vM a0 aE).bind λx2 =>
 some (x2.1,x2.2)
 else
 (sZ a0 aE.Name).bind λa7 =>
 (bif decide (0<=a7) then
 some (aK (1001+a7),a0)
 else
 (uq a0 aE).bind λbS =>
 (bif decide (bS<0) then
 (nU a0 aE.At aE.Name).bind λbP =>
 some (0,bP)
 else
 some (bS,a0))))
def vJ (a0:dv) (aE:ByteArray) (a2:Alt):Option (dv) :=
 (sZ a0 aE).bind λa8 =>
 (b4 (R:=dv × List Int × ByteArray × Int) (λ(s2:dv × List Int × ByteArray × Int × Int) =>
 (bif decide (s2.2.2.2.2<(a2.hx.length:Int)) then
 ((idx a2.hx s2.2.2.2.2).bind λbP =>
 (((bif decide (bP.Code=⟨#[]⟩) then
 (s3 s2.1 bP.Sym).bind λcp =>
 (db s2.2.1 [cp.1]).bind λeF =>
 some (cp.2,s2.2.1++[cp.1],s2.2.2.1,s2.2.2.2.1)
 else
 ((bif decide (aK (s2.2.2.2.2+1)=(a2.hx.length:Int)) then
 some (s2.1.aG.bh,s2.1.b_,s2.2.1,bP.Code,bP.At)
 else
 (db ([]:List Int) s2.2.1).bind λcO =>
 (db s2.1.aG.bh [(⟨aK ((s2.1.cb.length:Int)+(aK (s2.1.b_+1))),([]:List Int),(-1),bP.Code,([]:List Int)++s2.2.1,bP.At⟩:Prod)]).bind λcc =>
 (db s2.2.1 [aK ((aK (1000+(s2.1.cb.length:Int)))+(aK (s2.1.b_+1)))]).bind λbU =>
 some (s2.1.aG.bh++[(⟨aK ((s2.1.cb.length:Int)+(aK (s2.1.b_+1))),([]:List Int),(-1),bP.Code,([]:List Int)++s2.2.1,bP.At⟩:Prod)],aK (s2.1.b_+1),s2.2.1++[aK ((aK (1000+(s2.1.cb.length:Int)))+(aK (s2.1.b_+1)))],s2.2.2.1,s2.2.2.2.1))).bind λiH =>
 some ((⟨(⟨s2.1.aG.ba,s2.1.aG.b1,iH.1,s2.1.aG.cC,s2.1.aG.cK⟩:bO),s2.1.cu,s2.1.cL,s2.1.cb,s2.1.cZ,s2.1.dp,s2.1.dm,s2.1.cr,iH.2.1⟩:dv),iH.2.2.1,iH.2.2.2.1,iH.2.2.2.2))).bind λqA =>
 some (qA.1,qA.2.1,qA.2.2.1,qA.2.2.2)).bind λfe =>
 some (fe.1,fe.2.1,fe.2.2.1,fe.2.2.2)).bind λkR =>
 some (.inl (kR.1,kR.2.1,kR.2.2.1,kR.2.2.2,aK (s2.2.2.2.2+1)))
 else
 some (.inr (s2.1,s2.2.1,s2.2.2.1,s2.2.2.2.1)))) (a0,([]:List Int),⟨#[]⟩,a2.At,0)).bind λa7 =>
 (b4 (R:=Int) (λ(oW:Int × Int) =>
 (bif decide (oW.2<(a7.2.1.length:Int)) then
 ((idx a7.2.1 oW.2).bind λfz =>
 ((bif decide (fz<1000) then
 (idx a7.2.1 oW.2).bind λgA =>
 some gA
 else
 some oW.1)).bind λxy =>
 some xy).bind λmz =>
 some (.inl (mz,aK (oW.2+1)))
 else
 some (.inr oW.1))) ((-1),0)).bind λeR =>
 ((bif !decide (a2.Prec.Name=⟨#[]⟩) then
 ((bif a2.Prec.Lit then some true else ((sZ a7.1 a2.Prec.Name).bind λhT=>some (decide (hT<0))))).bind λtw =>
 ((bif tw then
 (s3 a7.1 a2.Prec).bind λki =>
 some (ki.2,ki.1)
 else
 (nU a7.1 a2.Prec.At a2.Prec.Name).bind λeo =>
 some (eo,(-1)))).bind λpK =>
 some (pK.1,pK.2)
 else
 some (a7.1,eR))).bind λjZ =>
 (db ([]:List Int) a7.2.1).bind λpZ =>
 (db jZ.1.aG.bh [(⟨aK (1+a8),a7.2.1,jZ.2,a7.2.2.1,([]:List Int)++a7.2.1,a7.2.2.2⟩:Prod)]).bind λj2 =>
 some (⟨(⟨jZ.1.aG.ba,jZ.1.aG.b1,jZ.1.aG.bh++[(⟨aK (1+a8),a7.2.1,jZ.2,a7.2.2.1,([]:List Int)++a7.2.1,a7.2.2.2⟩:Prod)],jZ.1.aG.cC,jZ.1.aG.cK⟩:bO),jZ.1.cu,jZ.1.cL,jZ.1.cb,jZ.1.cZ,jZ.1.dp,jZ.1.dm,jZ.1.cr,jZ.1.b_⟩:dv)
def CH (a0:Int):Option (ByteArray) :=
 ((bif decide (a0<0) then
 some (IntKind.u64.wrap (-(IntKind.u64.wrap a0)))
 else
 some (IntKind.u64.wrap a0))).bind λjt =>
 (b4 (R:=ByteArray) (λ(d':Int × ByteArray) =>
 ((bif decide (0<d'.1) then some true else some (decide (d'.2=⟨#[]⟩)))).bind λkJ =>
 (bif kJ then
 (ry d'.1 10).bind λcw =>
 (tA (strOfNums [yr (IntKind.u64.wrap (48+cw))]) d'.2).bind λbI =>
 (rr d'.1 10).bind λcp =>
 some (.inl (cp,bI))
 else
 some (.inr d'.2))) (jt,⟨#[]⟩)).bind λbq =>
 (bif decide (a0<0) then
 (tA (⟨#[45]⟩) bq).bind λck =>
 some ck
 else
 some bq)
def vW (a0:Source):Option (bO × Int × Int × ByteArray) :=
 (xS a0).bind λa8 =>
 (bif !a8 then
 some ((⟨([]:List bX),([]:List fE),([]:List Prod),⟨#[]⟩,⟨#[]⟩⟩:bO),1,0,⟨#[]⟩)
 else
 (ni 3 false).bind λa7 =>
 (b4 (R:=dv × ByteArray) (λ(cX:dv × ByteArray × Int) =>
 (bif decide (cX.2.2<(a0.Decls.length:Int)) then
 (idx a0.Decls cX.2.2).bind λb6 =>
 ((bif decide (2<=b6.Kind) then some (decide (b6.Kind<=4)) else some false)).bind λil =>
 ((bif il then
 some (aK (cX.1.cr+1))
 else
 some cX.1.cr)).bind λju =>
 (b4 (R:=dv × ByteArray) (λ(fq:dv × ByteArray × Int) =>
 (bif decide (fq.2.2<(b6.eL.length:Int)) then
 ((bif !decide (b6.Kind=6) then
 (idx b6.eL fq.2.2).bind λeR =>
 (vI fq.1 b6 eR).bind λdP =>
 some (dP,fq.2.1)
 else
 ((bif !decide (fq.2.1=⟨#[]⟩) then
 (idx b6.eL fq.2.2).bind λfz =>
 (idx b6.eL fq.2.2).bind λfL =>
 (nU fq.1 fz.At fL.Name).bind λhs =>
 some hs
 else
 some fq.1)).bind λnQ =>
 (idx b6.eL fq.2.2).bind λgA =>
 some (nQ,gA.Name))).bind λCi =>
 some (.inl (Ci.1,Ci.2,aK (fq.2.2+1)))
 else
 some (.inr (fq.1,fq.2.1)))) ((⟨cX.1.aG,cX.1.cu,cX.1.cL,cX.1.cb,cX.1.cZ,cX.1.dp,cX.1.dm,ju,cX.1.b_⟩:dv),cX.2.1,0)).bind λek =>
 some (.inl (ek.1,ek.2,aK (cX.2.2+1)))
 else
 some (.inr (cX.1,cX.2.1)))) ((⟨(⟨[(⟨⟨#[36,101,110,100]⟩,false,0,0,0,⟨#[]⟩⟩:bX),(⟨⟨#[101,114,114,111,114]⟩,false,(-1),0,0,⟨#[]⟩⟩:bX),(⟨⟨#[36,117,110,107]⟩,false,(-1),0,0,⟨#[]⟩⟩:bX)],[],[],⟨#[]⟩,⟨#[]⟩⟩:bO),a7,[],[],0,0,⟨#[]⟩,0,0⟩:dv),⟨#[]⟩,0)).bind λbS =>
 (b4 (R:=dv) (λ(qK:dv × Int) =>
 (bif decide (qK.2<(a0.dG.length:Int)) then
 ((idx a0.dG qK.2).bind λcR =>
 (uq qK.1 (⟨cR.Left,false,0,0⟩:Sym)).bind λff =>
 ((bif decide (0<=ff) then
 (nU qK.1 cR.At cR.Left).bind λpZ =>
 some pZ
 else
 some qK.1)).bind λiP =>
 (sZ iP cR.Left).bind λj2 =>
 ((bif decide (j2<0) then
 (db iP.cb [cR.Left]).bind λrI =>
 some (iP.cb++[cR.Left])
 else
 some iP.cb)).bind λJq =>
 some (⟨iP.aG,iP.cu,iP.cL,Jq,iP.cZ,iP.dp,iP.dm,iP.cr,iP.b_⟩:dv)).bind λuj =>
 some (.inl (uj,aK (qK.2+1)))
 else
 some (.inr qK.1))) (bS.1,0)).bind λcY =>
 (b4 (R:=dv) (λ(qL:dv × Int) =>
 (bif decide (qL.2<(a0.Decls.length:Int)) then
 (b4 (R:=dv) (λ(qM:dv × Int) =>
 (idx a0.Decls qL.2).bind λwc =>
 (bif decide (qM.2<(wc.eL.length:Int)) then
 ((idx a0.Decls qL.2).bind λwe =>
 (idx we.eL qM.2).bind λp1 =>
 (((idx a0.Decls qL.2).bind λKM=>(bif decide (5<=KM.Kind) then ((sZ qM.1 p1.Name).bind λkA=>some (decide (kA<0))) else some false))).bind λHb =>
 ((bif Hb then
 (nU qM.1 p1.At p1.Name).bind λAI =>
 some AI
 else
 some qM.1)).bind λJu =>
 some Ju).bind λJt =>
 some (.inl (Jt,aK (qM.2+1)))
 else
 some (.inr qM.1))) (qL.1,0)).bind λov =>
 some (.inl (ov,aK (qL.2+1)))
 else
 some (.inr qL.1))) (cY,0)).bind λhd =>
 ((bif decide (bS.2=⟨#[]⟩) then
 (idx a0.dG 0).bind λwg =>
 some wg.Left
 else
 some bS.2)).bind λxA =>
 (sZ hd xA).bind λmH =>
 (b4 (R:=dv) (λ(pU:dv × Int) =>
 (bif decide (pU.2<(a0.dG.length:Int)) then
 (b4 (R:=dv) (λ(rB:dv × Int) =>
 (idx a0.dG pU.2).bind λDz =>
 (bif decide (rB.2<(Dz.eK.length:Int)) then
 (idx a0.dG pU.2).bind λDA =>
 (idx a0.dG pU.2).bind λKP =>
 (idx KP.eK rB.2).bind λDB =>
 (vJ rB.1 DA.Left DB).bind λGr =>
 some (.inl (Gr,aK (rB.2+1)))
 else
 some (.inr rB.1))) (pU.1,0)).bind λkB =>
 some (.inl (kB,aK (pU.2+1)))
 else
 some (.inr pU.1))) ((⟨(⟨hd.aG.ba,hd.aG.b1,[(⟨0,[aK (1001+mH)],(-1),⟨#[]⟩,([]:List Int),0⟩:Prod)],hd.aG.cC,hd.aG.cK⟩:bO),hd.cu,hd.cL,hd.cb,hd.cZ,hd.dp,hd.dm,hd.cr,hd.b_⟩:dv),0)).bind λbu =>
 (bif !decide (bu.cZ=0) then
 some ((⟨([]:List bX),([]:List fE),([]:List Prod),⟨#[]⟩,⟨#[]⟩⟩:bO),bu.cZ,bu.dp,bu.dm)
 else
 (b4 (R:=List fE) (λ(rC:List fE × Int) =>
 (bif decide (rC.2<(bu.cb.length:Int)) then
 (idx bu.cb rC.2).bind λqP =>
 (zW (⟨(⟨bu.aG.ba,rC.1,bu.aG.bh,bu.aG.cC,bu.aG.cK⟩:bO),bu.cu,bu.cL,bu.cb,bu.cZ,bu.dp,bu.dm,bu.cr,bu.b_⟩:dv) qP).bind λyt =>
 ((bif decide (0<=yt) then
 (idx bu.cL yt).bind λKQ =>
 some KQ.Tag
 else
 some (⟨#[]⟩))).bind λuk =>
 (db rC.1 [(⟨qP,uk⟩:fE)]).bind λQv =>
 some (.inl (rC.1++[(⟨qP,uk⟩:fE)],aK (rC.2+1)))
 else
 some (.inr rC.1))) ([(⟨⟨#[36,97,99,99,101,112,116]⟩,⟨#[]⟩⟩:fE)],0)).bind λuK =>
 (b4 (R:=List fE) (λ(sl:List fE × Int) =>
 (bif decide (sl.2<=bu.b_) then
 (CH sl.2).bind λGs =>
 (tA (⟨#[64]⟩) Gs).bind λwh =>
 (db sl.1 [(⟨wh,⟨#[]⟩⟩:fE)]).bind λQw =>
 some (.inl (sl.1++[(⟨wh,⟨#[]⟩⟩:fE)],aK (sl.2+1)))
 else
 some (.inr sl.1))) (uK,1)).bind λk1 =>
 (b4 (R:=List bX) (λ(me:List bX × Int × Int) =>
 (bif decide (me.2.2<(me.1.length:Int)) then
 ((idx bu.cu me.2.2).bind λKK =>
 ((bif !KK then
 (idx me.1 me.2.2).bind λsn =>
 some (me.1.set me.2.2.toNat (⟨sn.Name,sn.Lit,me.2.1,sn.Level,sn.fu,sn.Tag⟩:bX),aK (me.2.1+1))
 else
 some (me.1,me.2.1))).bind λCh =>
 some (Ch.1,Ch.2)).bind λCj =>
 some (.inl (Cj.1,Cj.2,aK (me.2.2+1)))
 else
 some (.inr me.1))) (bu.aG.ba,57346,3)).bind λmg =>
 ((bif decide (40<(mg.length:Int)) then some true else (bif decide (24<(k1.length:Int)) then some true else some (decide (60<(bu.aG.bh.length:Int)))))).bind λuY =>
 (b4 (R:=Bool) (λ(s7:Bool × Int) =>
 (bif decide (s7.2<(bu.aG.bh.length:Int)) then
 ((bif s7.1 then some true else ((idx bu.aG.bh s7.2).bind λKL=>some (decide (8<(KL.eI.length:Int)))))).bind λG3 =>
 some (.inl (G3,aK (s7.2+1)))
 else
 some (.inr s7.1))) (uY,0)).bind λAH =>
 (bif AH then
 some ((⟨([]:List bX),([]:List fE),([]:List Prod),⟨#[]⟩,⟨#[]⟩⟩:bO),4,0,⟨#[]⟩)
 else
 some ((⟨mg,k1,bu.aG.bh,a0.cC,a0.cK⟩:bO),0,0,⟨#[]⟩))))
def x4 (a0:Source):Option (bO × Bool) :=
 (vW a0).bind λa8 =>
 some (a8.1,decide (a8.2.1=0))
def pS (a0:(List Int)) (aE:Int):Option ((List Int)) :=
 (b4 (R:=Int) (λ(s1:Int) =>
 ((bif decide (0<s1) then ((idx a0 (aK (s1 - 1))).bind λbS=>some (decide (aE<bS))) else some false)).bind λoF =>
 (bif oF then
 some (.inl (aK (s1 - 1)))
 else
 some (.inr s1))) (a0.length:Int)).bind λx2 =>
 ((bif decide (0<x2) then ((idx a0 (aK (x2 - 1))).bind λcw=>some (decide (cw=aE))) else some false)).bind λil =>
 (bif il then
 some a0
 else
 (nV a0 0 x2).bind λeF =>
 (db ([]:List Int) eF).bind λck =>
 (db (([]:List Int)++eF) [aE]).bind λek =>
 (nV a0 x2 a0.length).bind λcO =>
 (db ((([]:List Int)++eF)++[aE]) cO).bind λcc =>
 some ((([]:List Int)++eF)++[aE]++cO))
def x5 (a0:(List Int)) (aE:Int):Option (Bool) :=
 (b4 (R:=(Unit) ⊕ (Bool)) (λ(s1:Int) =>
 (bif decide (s1<(a0.length:Int)) then
 (idx a0 s1).bind λbB =>
 (bif decide (bB=aE) then
 some (.inr (.inr true))
 else
 some (.inl (aK (s1+1))))
 else
 some (.inr (.inl ())))) 0).bind λx2 =>
 (match x2 with
 | .inl a7 =>
 some false
 | .inr bq =>
 some bq)
def C2 (a0:bO):Option ((List Int)) :=
 (b4 (R:=List Int) (λ(s1:List Int × Int) =>
 (bif decide (s1.2<(a0.ba.length:Int)) then
 (db s1.1 [s1.2]).bind λbS =>
 some (.inl (s1.1++[s1.2],aK (s1.2+1)))
 else
 some (.inr s1.1))) (([]:List Int),0)).bind λx2 =>
 (b4 (R:=List Int) (λ(dc:List Int × Int) =>
 (bif decide (dc.2<(a0.b1.length:Int)) then
 (db dc.1 [aK (1000+dc.2)]).bind λbI =>
 some (.inl (dc.1++[aK (1000+dc.2)],aK (dc.2+1)))
 else
 some (.inr dc.1))) (x2,0)).bind λbP =>
 some bP
structure Item where
 Prod:Int
 fc:Int
 deriving DecidableEq,Inhabited
def zX (a0:bO) (aE:Item):Option (Bool) :=
 ((bif decide (0<=aE.Prod) then (bif decide (aE.Prod<(a0.bh.length:Int)) then (bif decide (0<=aE.fc) then ((idx a0.bh aE.Prod).bind λbq=>some (decide (aE.fc<=(bq.eI.length:Int)))) else some false) else some false) else some false)).bind λkI =>
 some kI
def x8 (a0:bO) (aE:Item):Option (Int) :=
 (((zX a0 aE).bind λa8=>(bif !a8 then some true else ((idx a0.bh aE.Prod).bind λa7=>some (decide (aE.fc=(a7.eI.length:Int))))))).bind λc4 =>
 (bif c4 then
 some (-1)
 else
 (idx a0.bh aE.Prod).bind λbB =>
 (idx bB.eI aE.fc).bind λbP =>
 some bP)
def fV:bJ Item:=⟨2,λx=>[ae x.Prod,ae x.fc],λ_=>rfl,λ_=>dq.bm⟩
instance:Flat fV:=⟨λ_=>rfl⟩
instance:l0 fV:=⟨λx=>(inferInstance:jC [ae x.Prod,ae x.fc])⟩
instance:gU fV fV:=⟨rfl,λx=>(inferInstance:ds [ae x.Prod,ae x.fc] [ae x.Prod,ae x.fc])⟩
def xT (a0:(List Item)) (aE:Item):Option ((List Item)) :=
 (b4 (R:=Int) (λ(s1:Int) =>
 ((bif decide (0<s1) then ((idx a0 (aK (s1 - 1))).bind λbS=>(bif decide (aE.Prod<bS.Prod) then some true else ((idx a0 (aK (s1 - 1))).bind λbP=>(bif decide (bP.Prod=aE.Prod) then ((idx a0 (aK (s1 - 1))).bind λcw=>some (decide (aE.fc<cw.fc))) else some false)))) else some false)).bind λil =>
 (bif il then
 some (.inl (aK (s1 - 1)))
 else
 some (.inr s1))) (a0.length:Int)).bind λx2 =>
 ((bif decide (0<x2) then ((idx a0 (aK (x2 - 1))).bind λck=>some (decide (ck.Prod=aE.Prod)&&(decide (ck.fc=aE.fc)&&true))) else some false)).bind λoE =>
 (bif oE then
 some a0
 else
 (nV a0 0 x2).bind λcc =>
 (db ([]:List Item) cc).bind λbU =>
 (db (([]:List Item)++cc) [aE]).bind λdM =>
 (nV a0 x2 a0.length).bind λeR =>
 (db ((([]:List Item)++cc)++[aE]) eR).bind λdP =>
 some ((([]:List Item)++cc)++[aE]++eR))
def CI (a0:bO) (aE:(List Item)):Option ((List Item)) :=
 (b4 (R:=List Item) (λ(s1:List Item × Int) =>
 (bif decide (s1.2<(aE.length:Int)) then
 ((idx aE s1.2).bind λbB =>
 (zX a0 bB).bind λbP =>
 ((bif bP then
 (idx aE s1.2).bind λbI =>
 (xT s1.1 bI).bind λcp =>
 some cp
 else
 some s1.1)).bind λfe =>
 some fe).bind λkQ =>
 some (.inl (kQ,aK (s1.2+1)))
 else
 some (.inr s1.1))) (([]:List Item),0)).bind λx2 =>
 some x2
def x7 (a0:bO) (aE:(List Item)):Option ((List Item)) :=
 (CI a0 aE).bind λa8 =>
 (b4 (R:=List Item) (λ(s2:List Item × Int) =>
 (bif !decide (s2.2=(s2.1.length:Int)) then
 (((b4 (R:=List Item) (λ(dw:List Item × Int) =>
 (bif decide (dw.2<(s2.1.length:Int)) then
 (idx dw.1 dw.2).bind λeF =>
 (x8 a0 eF).bind λck =>
 (b4 (R:=List Item) (λ(e1:List Item × Int) =>
 ((bif decide (e1.2<(a0.bh.length:Int)) then some (decide (1000<=ck)) else some false)).bind λny =>
 (bif ny then
 ((idx a0.bh e1.2).bind λeB =>
 ((bif decide (eB.Left=aK (ck - 1000)) then
 (xT e1.1 (⟨e1.2,0⟩:Item)).bind λfL =>
 some fL
 else
 some e1.1)).bind λmz =>
 some mz).bind λxx =>
 some (.inl (xx,aK (e1.2+1)))
 else
 some (.inr e1.1))) (dw.1,0)).bind λcO =>
 (bif !decide ((cO.length:Int)=(s2.1.length:Int)) then
 some (.inr cO)
 else
 some (.inl (cO,aK (dw.2+1))))
 else
 some (.inr dw.1))) (s2.1,0)).bind λcw =>
 some cw).bind λkS =>
 some (kS,(s2.1.length:Int))).bind λkR =>
 some (.inl (kR.1,kR.2))
 else
 some (.inr s2.1))) (a8,(-1))).bind λa7 =>
 some a7
def C3 (a0:bO) (aE:(List Item)) (a2:Int):Option ((List Item)) :=
 (x7 a0 aE).bind λa8 =>
 (b4 (R:=List Item) (λ(s2:List Item × Int) =>
 (bif decide (s2.2<(a8.length:Int)) then
 ((idx a8 s2.2).bind λbP =>
 (x8 a0 bP).bind λb6 =>
 ((bif decide (0<=b6) then some (decide (b6=a2)) else some false)).bind λil =>
 ((bif il then
 (idx a8 s2.2).bind λck =>
 (idx a8 s2.2).bind λek =>
 (xT s2.1 (⟨ck.Prod,aK (ek.fc+1)⟩:Item)).bind λcO =>
 some cO
 else
 some s2.1)).bind λju =>
 some ju).bind λkR =>
 some (.inl (kR,aK (s2.2+1)))
 else
 some (.inr s2.1))) (([]:List Item),0)).bind λa7 =>
 some a7
def CJ (a0:(List Item)) (aE:(List Item)):Option (Bool) :=
 (bif !decide ((a0.length:Int)=(aE.length:Int)) then
 some false
 else
 (b4 (R:=(Unit) ⊕ (Bool)) (λ(s2:Int) =>
 (bif decide (s2<(a0.length:Int)) then
 (idx a0 s2).bind λbP =>
 (idx aE s2).bind λb6 =>
 (bif !(decide (bP.Prod=b6.Prod)&&(decide (bP.fc=b6.fc)&&true)) then
 some (.inr (.inr false))
 else
 some (.inl (aK (s2+1))))
 else
 some (.inr (.inl ())))) 0).bind λa7 =>
 (match a7 with
 | .inl bq =>
 some true
 | .inr bS =>
 some bS))
structure Move where
 Sym:Int
 jF:Int
 deriving DecidableEq,Inhabited
structure State where
 Kernel:(List Item)
 eX:(List Move)
 deriving DecidableEq,Inhabited
def lD:bJ Move:=⟨2,λx=>[ae x.Sym,ae x.jF],λ_=>rfl,λ_=>dq.bm⟩
instance:Flat lD:=⟨λ_=>rfl⟩
instance:l0 lD:=⟨λx=>(inferInstance:jC [ae x.Sym,ae x.jF])⟩
instance:gU lD lD:=⟨rfl,λx=>(inferInstance:ds [ae x.Sym,ae x.jF] [ae x.Sym,ae x.jF])⟩
def gO:bJ State:=⟨2,λx=>[ag fV x.Kernel,ag lD x.eX],λ_=>rfl,λ_=>dq.bm⟩
instance:Flat gO:=⟨λ_=>rfl⟩
instance:gU gO gO:=⟨rfl,λx=>(inferInstance:ds [ag fV x.Kernel,ag lD x.eX] [ag fV x.Kernel,ag lD x.eX])⟩
def C4 (a0:(List State)) (aE:(List Item)):Option (Int) :=
 (b4 (R:=(Unit) ⊕ (Int)) (λ(s1:Int) =>
 (bif decide (s1<(a0.length:Int)) then
 (idx a0 s1).bind λbB =>
 (CJ bB.Kernel aE).bind λbP =>
 (bif bP then
 some (.inr (.inr s1))
 else
 some (.inl (aK (s1+1))))
 else
 some (.inr (.inl ())))) 0).bind λx2 =>
 (match x2 with
 | .inl a7 =>
 some (-1)
 | .inr bq =>
 some bq)
def g_:bJ State:=⟨2,λx=>[ag fV x.Kernel,aj lD x.eX],λ_=>rfl,λ_=>dq.bm⟩
instance:gU g_ gO:=⟨rfl,λx=>(inferInstance:ds [ag fV x.Kernel,aj lD x.eX] [ag fV x.Kernel,ag lD x.eX])⟩
def Ai (a0:bO):Option ((List State) × Int) :=
 (C2 a0).bind λa8 =>
 (b4 (R:=(List State) ⊕ (List State × Int)) (λ(s2:List State × Int) =>
 (bif decide (s2.2<(s2.1.length:Int)) then
 (idx s2.1 s2.2).bind λbP =>
 (x7 a0 bP.Kernel).bind λb6 =>
 (b4 (R:=List Int) (λ(ib:List Int × Int) =>
 (bif decide (ib.2<(b6.length:Int)) then
 ((idx b6 ib.2).bind λek =>
 (x8 a0 ek).bind λcO =>
 ((bif decide (0<=cO) then
 (pS ib.1 cO).bind λdM =>
 some dM
 else
 some ib.1)).bind λmy =>
 some my).bind λiH =>
 some (.inl (iH,aK (ib.2+1)))
 else
 some (.inr ib.1))) (([]:List Int),0)).bind λbI =>
 (b4 (R:=(List State) ⊕ (List State × Int)) (λ(df:List State × Int) =>
 (bif decide (df.2<(a8.length:Int)) then
 (idx a8 df.2).bind λfL =>
 (x5 bI fL).bind λhs =>
 (bif !hs then
 some (.inl (df.1,aK (df.2+1)))
 else
 (idx df.1 s2.2).bind λea =>
 (idx a8 df.2).bind λcY =>
 (C3 a0 ea.Kernel cY).bind λei =>
 (C4 df.1 ei).bind λhT =>
 (bif decide (hT<0) then
 (bif decide ((df.1.length:Int)=150) then
 some (.inr (.inr (([]:List State),4)))
 else
 (db df.1 [(⟨ei,([]:List Move)⟩:State)]).bind λff =>
 (idx (df.1++[(⟨ei,([]:List Move)⟩:State)]) s2.2).bind λki =>
 (idx a8 df.2).bind λeo =>
 (db ki.eX [(⟨eo,(df.1.length:Int)⟩:Move)]).bind λpZ =>
 some (.inl ((df.1++[(⟨ei,([]:List Move)⟩:State)]).set s2.2.toNat (⟨ki.Kernel,ki.eX++[(⟨eo,(df.1.length:Int)⟩:Move)]⟩:State),aK (df.2+1))))
 else
 (idx df.1 s2.2).bind λj2 =>
 (idx a8 df.2).bind λc0 =>
 (db j2.eX [(⟨c0,hT⟩:Move)]).bind λgn =>
 some (.inl (df.1.set s2.2.toNat (⟨j2.Kernel,j2.eX++[(⟨c0,hT⟩:Move)]⟩:State),aK (df.2+1)))))
 else
 some (.inr (.inl df.1)))) (s2.1,0)).bind λdP =>
 (match dP with
 | .inl eB =>
 some (.inl (eB,aK (s2.2+1)))
 | .inr fI =>
 some (.inr (.inr (fI.1,fI.2))))
 else
 some (.inr (.inl s2.1)))) ([(⟨[(⟨0,0⟩:Item)],([]:List Move)⟩:State)],0)).bind λa7 =>
 (match a7 with
 | .inl bq =>
 some (bq,0)
 | .inr bS =>
 some (bS.1,bS.2))
def x1 (a0:Source):Option (bO × (List State) × Bool) :=
 (x4 a0).bind λa8 =>
 (bif !a8.2 then
 some (a8.1,([]:List State),false)
 else
 (Ai a8.1).bind λa7 =>
 some (a8.1,a7.1,decide (a7.2=0)))
def rp (a0:(List State)) (aE:Int) (a2:Int):Option (Int) :=
 (b4 (R:=(Unit) ⊕ (Int)) (λ(s1:Int) =>
 ((bif decide (0<=aE) then (bif decide (aE<(a0.length:Int)) then ((idx a0 aE).bind λbP=>some (decide (s1<(bP.eX.length:Int)))) else some false) else some false)).bind λtz =>
 (bif tz then
 (idx a0 aE).bind λbI =>
 (idx bI.eX s1).bind λcp =>
 (bif decide (cp.Sym=a2) then
 (idx a0 aE).bind λck =>
 (idx ck.eX s1).bind λek =>
 some (.inr (.inr ek.jF))
 else
 some (.inl (aK (s1+1))))
 else
 some (.inr (.inl ())))) 0).bind λx2 =>
 (match x2 with
 | .inl a7 =>
 some (-1)
 | .inr bq =>
 some bq)
structure Cell where
 State:Int
 bX:Int
 j5:Int
 lX:Bool
 bh:(List Int)
 deriving DecidableEq,Inhabited
def iE:bJ Cell:=⟨5,λx=>[ae x.State,ae x.bX,ae x.j5,a_ x.lX,ag ai x.bh],λ_=>rfl,λ_=>dq.bm⟩
instance:Flat iE:=⟨λ_=>rfl⟩
instance:gU iE iE:=⟨rfl,λx=>(inferInstance:ds [ae x.State,ae x.bX,ae x.j5,a_ x.lX,ag ai x.bh] [ae x.State,ae x.bX,ae x.j5,a_ x.lX,ag ai x.bh])⟩
instance {x:Cell}:ds (iE.cells x) [ae x.State,ae x.bX,ae x.j5,a_ x.lX,ag ai x.bh]:=(inferInstance:ds [ae x.State,ae x.bX,ae x.j5,a_ x.lX,ag ai x.bh] [ae x.State,ae x.bX,ae x.j5,a_ x.lX,ag ai x.bh])
def Af (a0:Cell):Option (Int) :=
 ((bif decide (0<=a0.j5) then
 some (aK ((a0.bh.length:Int)+1))
 else
 some (a0.bh.length:Int))).bind λjt =>
 ((bif a0.lX then
 some (aK (jt+1))
 else
 some jt)).bind λiw =>
 some iw
structure k3 where
 State:Int
 Prod:Int
 ba:(List Int)
 deriving DecidableEq,Inhabited
def rU:bJ k3:=⟨3,λx=>[ae x.State,ae x.Prod,ag ai x.ba],λ_=>rfl,λ_=>dq.bm⟩
instance:Flat rU:=⟨λ_=>rfl⟩
instance:gU rU rU:=⟨rfl,λx=>(inferInstance:ds [ae x.State,ae x.Prod,ag ai x.ba] [ae x.State,ae x.Prod,ag ai x.ba])⟩
instance {x:k3}:ds (rU.cells x) [ae x.State,ae x.Prod,ag ai x.ba]:=(inferInstance:ds [ae x.State,ae x.Prod,ag ai x.ba] [ae x.State,ae x.Prod,ag ai x.ba])
def CV (a0:bO) (aE:(List State)) (a2:(List k3)):Option ((List Cell)) :=
 (b4 (R:=List Cell) (λ(s1:List Cell × Int) =>
 (bif decide (s1.2<(aE.length:Int)) then
 (b4 (R:=List Cell) (λ(cn:List Cell × Int) =>
 (bif decide (cn.2<(a0.ba.length:Int)) then
 ((rp aE s1.2 cn.2).bind λbI =>
 (b4 (R:=Bool) (λ(jz:Bool × Int) =>
 (idx aE s1.2).bind λek =>
 (bif decide (jz.2<(ek.Kernel.length:Int)) then
 (idx aE s1.2).bind λcc =>
 (idx cc.Kernel jz.2).bind λbU =>
 ((bif jz.1 then some true else (bif decide (cn.2=0) then (bif decide (bU.Prod=0) then some (decide (bU.fc=1)) else some false) else some false))).bind λq6 =>
 some (.inl (q6,aK (jz.2+1)))
 else
 some (.inr jz.1))) (false,0)).bind λeF =>
 (b4 (R:=List Int) (λ(iI:List Int × Int) =>
 (bif decide (iI.2<(a2.length:Int)) then
 ((((idx a2 iI.2).bind λea=>(bif decide (ea.State=s1.2) then ((idx a2 iI.2).bind λei=>((x5 ei.ba cn.2).bind λhT=>some hT)) else some false))).bind λtw =>
 ((bif tw then
 (idx a2 iI.2).bind λki =>
 (pS iI.1 ki.Prod).bind λeo =>
 some eo
 else
 some iI.1)).bind λpK =>
 some pK).bind λdY =>
 some (.inl (dY,aK (iI.2+1)))
 else
 some (.inr iI.1))) (([]:List Int),0)).bind λfz =>
 (Af (⟨s1.2,cn.2,bI,eF,fz⟩:Cell)).bind λpZ =>
 ((bif decide (0<pZ) then
 (db cn.1 [(⟨s1.2,cn.2,bI,eF,fz⟩:Cell)]).bind λgn =>
 some (cn.1++[(⟨s1.2,cn.2,bI,eF,fz⟩:Cell)])
 else
 some cn.1)).bind λJp =>
 some Jp).bind λqA =>
 some (.inl (qA,aK (cn.2+1)))
 else
 some (.inr cn.1))) (s1.1,0)).bind λbB =>
 some (.inl (bB,aK (s1.2+1)))
 else
 some (.inr s1.1))) (([]:List Cell),0)).bind λx2 =>
 some x2
def Am (a0:(List (List Int))) (aE:(List (List Int))):Option ((List (List Int))) :=
 (b4 (R:=List (List Int)) (λ(s1:List (List Int) × Bool) =>
 (bif s1.2 then
 (b4 (R:=List (List Int) × Bool) (λ(cn:List (List Int) × Bool × Int) =>
 (bif decide (cn.2.2<(cn.1.length:Int)) then
 (idx aE cn.2.2).bind λcw =>
 (idx cn.1 cn.2.2).bind λbI =>
 (b4 (R:=List (List Int)) (λ(jz:List (List Int) × Int) =>
 (bif decide (jz.2<(cw.length:Int)) then
 (b4 (R:=List (List Int)) (λ(hZ:List (List Int) × Int) =>
 (idx cw jz.2).bind λdM =>
 (idx hZ.1 dM).bind λeR =>
 (bif decide (hZ.2<(eR.length:Int)) then
 (idx hZ.1 cn.2.2).bind λeB =>
 (idx cw jz.2).bind λfI =>
 (idx hZ.1 fI).bind λfz =>
 (idx fz hZ.2).bind λfL =>
 (pS eB fL).bind λhs =>
 some (.inl (hZ.1.set cn.2.2.toNat hs,aK (hZ.2+1)))
 else
 some (.inr hZ.1))) (jz.1,0)).bind λcc =>
 some (.inl (cc,aK (jz.2+1)))
 else
 some (.inr jz.1))) (cn.1,0)).bind λeF =>
 ((bif cn.2.1 then some true else ((idx eF cn.2.2).bind λea=>some (!decide ((ea.length:Int)=(bI.length:Int)))))).bind λwK =>
 some (.inl (eF,wK,aK (cn.2.2+1)))
 else
 some (.inr (cn.1,cn.2.1)))) (s1.1,false,0)).bind λbB =>
 some (.inl (bB.1,bB.2))
 else
 some (.inr s1.1))) (a0,true)).bind λx2 =>
 some x2
structure Trans where
 State:Int
 fE:Int
 deriving DecidableEq,Inhabited
def qf:bJ Trans:=⟨2,λx=>[ae x.State,ae x.fE],λ_=>rfl,λ_=>dq.bm⟩
instance:Flat qf:=⟨λ_=>rfl⟩
instance:l0 qf:=⟨λx=>(inferInstance:jC [ae x.State,ae x.fE])⟩
instance:gU qf qf:=⟨rfl,λx=>(inferInstance:ds [ae x.State,ae x.fE] [ae x.State,ae x.fE])⟩
def qG (a0:(List State)):Option ((List Trans)) :=
 (b4 (R:=List Trans) (λ(s1:List Trans × Int) =>
 (bif decide (s1.2<(a0.length:Int)) then
 (b4 (R:=List Trans) (λ(cn:List Trans × Int) =>
 (idx a0 s1.2).bind λb6 =>
 (bif decide (cn.2<(b6.eX.length:Int)) then
 ((idx a0 s1.2).bind λcp =>
 (idx cp.eX cn.2).bind λeF =>
 ((bif decide (1000<=eF.Sym) then
 (idx a0 s1.2).bind λcO =>
 (idx cO.eX cn.2).bind λcc =>
 (db cn.1 [(⟨s1.2,cc.Sym⟩:Trans)]).bind λbU =>
 some (cn.1++[(⟨s1.2,cc.Sym⟩:Trans)])
 else
 some cn.1)).bind λiH =>
 some iH).bind λjP =>
 some (.inl (jP,aK (cn.2+1)))
 else
 some (.inr cn.1))) (s1.1,0)).bind λbB =>
 some (.inl (bB,aK (s1.2+1)))
 else
 some (.inr s1.1))) (([]:List Trans),0)).bind λx2 =>
 some x2
def CK (a0:(List Item)):Option (Bool) :=
 (b4 (R:=(Unit) ⊕ (Bool)) (λ(s1:Int) =>
 (bif decide (s1<(a0.length:Int)) then
 (((idx a0 s1).bind λbB=>(bif decide (bB.Prod=0) then ((idx a0 s1).bind λb6=>some (decide (b6.fc=1))) else some false))).bind λoG =>
 (bif oG then
 some (.inr (.inr true))
 else
 some (.inl (aK (s1+1))))
 else
 some (.inr (.inl ())))) 0).bind λx2 =>
 (match x2 with
 | .inl a7 =>
 some false
 | .inr bq =>
 some bq)
def C5 (a0:(List State)):Option ((List (List Int))) :=
 (qG a0).bind λa8 =>
 (b4 (R:=List (List Int)) (λ(s2:List (List Int) × Int) =>
 (bif decide (s2.2<(a8.length:Int)) then
 (idx a8 s2.2).bind λbB =>
 (idx a8 s2.2).bind λbP =>
 (rp a0 bB.State bP.fE).bind λb6 =>
 (idx a0 b6).bind λcw =>
 (CK cw.Kernel).bind λbI =>
 ((bif bI then
 (db ([]:List Int) [0]).bind λck =>
 some [0]
 else
 some ([]:List Int))).bind λju =>
 (b4 (R:=List Int) (λ(e1:List Int × Int) =>
 (idx a0 b6).bind λbU =>
 (bif decide (e1.2<(bU.eX.length:Int)) then
 ((idx a0 b6).bind λdP =>
 (idx dP.eX e1.2).bind λeB =>
 ((bif decide (eB.Sym<1000) then
 (idx a0 b6).bind λfL =>
 (idx fL.eX e1.2).bind λhs =>
 (pS e1.1 hs.Sym).bind λgA =>
 some gA
 else
 some e1.1)).bind λmz =>
 some mz).bind λe_ =>
 some (.inl (e_,aK (e1.2+1)))
 else
 some (.inr e1.1))) (ju,0)).bind λcO =>
 (db s2.1 [cO]).bind λea =>
 some (.inl (s2.1++[cO],aK (s2.2+1)))
 else
 some (.inr s2.1))) (([]:List (List Int)),0)).bind λa7 =>
 some a7
def z1 (a0:(List Bool)) (aE:(List Int)):Option (Bool) :=
 (b4 (R:=(Unit) ⊕ (Bool)) (λ(s1:Int) =>
 (bif decide (s1<(aE.length:Int)) then
 (((idx aE s1).bind λbB=>(bif decide (bB<1000) then some true else ((idx aE s1).bind λb6=>((idx a0 (aK (b6 - 1000))).bind λcw=>some (!cw)))))).bind λil =>
 (bif il then
 some (.inr (.inr false))
 else
 some (.inl (aK (s1+1))))
 else
 some (.inr (.inl ())))) 0).bind λx2 =>
 (match x2 with
 | .inl a7 =>
 some true
 | .inr bq =>
 some bq)
def zY (a0:bO):Option ((List Bool)) :=
 (ni (a0.b1.length:Int) false).bind λa8 =>
 (b4 (R:=List Bool) (λ(s2:List Bool × Bool) =>
 (bif s2.2 then
 (b4 (R:=List Bool × Bool) (λ(dc:List Bool × Bool × Int) =>
 (bif decide (dc.2.2<(a0.bh.length:Int)) then
 ((idx a0.bh dc.2.2).bind λcp =>
 (((idx dc.1 cp.Left).bind λeF=>(bif !eF then ((z1 dc.1 cp.eI).bind λek=>some ek) else some false))).bind λtv =>
 ((bif tv then
 (idx dc.1 cp.Left).bind λdM =>
 some (dc.1.set cp.Left.toNat true,true)
 else
 some (dc.1,dc.2.1))).bind λmy =>
 some (my.1,my.2)).bind λjP =>
 some (.inl (jP.1,jP.2,aK (dc.2.2+1)))
 else
 some (.inr (dc.1,dc.2.1)))) (s2.1,false,0)).bind λbP =>
 some (.inl (bP.1,bP.2))
 else
 some (.inr s2.1))) (a8,true)).bind λa7 =>
 some a7
def zZ (a0:(List Trans)) (aE:Int) (a2:Int):Option (Int) :=
 (b4 (R:=(Unit) ⊕ (Int)) (λ(s1:Int) =>
 (bif decide (s1<(a0.length:Int)) then
 (((idx a0 s1).bind λbB=>(bif decide (bB.State=aE) then ((idx a0 s1).bind λb6=>some (decide (b6.fE=a2))) else some false))).bind λoG =>
 (bif oG then
 some (.inr (.inr s1))
 else
 some (.inl (aK (s1+1))))
 else
 some (.inr (.inl ())))) 0).bind λx2 =>
 (match x2 with
 | .inl a7 =>
 some (-1)
 | .inr bq =>
 some bq)
def C6 (a0:bO) (aE:(List State)):Option ((List (List Int))) :=
 (qG aE).bind λa8 =>
 (zY a0).bind λx2 =>
 (b4 (R:=List (List Int)) (λ(d':List (List Int) × Int) =>
 (bif decide (d'.2<(a8.length:Int)) then
 (idx a8 d'.2).bind λbP =>
 (idx a8 d'.2).bind λb6 =>
 (rp aE bP.State b6.fE).bind λcw =>
 (b4 (R:=List Int) (λ(gw:List Int × Int) =>
 (idx aE cw).bind λck =>
 (bif decide (gw.2<(ck.eX.length:Int)) then
 ((idx aE cw).bind λcc =>
 (idx cc.eX gw.2).bind λbU =>
 ((bif decide (1000<=bU.Sym) then ((idx x2 (aK (bU.Sym - 1000))).bind λeR=>some eR) else some false)).bind λG6 =>
 ((bif G6 then
 (zZ a8 cw bU.Sym).bind λfz =>
 (pS gw.1 fz).bind λfL =>
 some fL
 else
 some gw.1)).bind λnQ =>
 some nQ).bind λoj =>
 some (.inl (oj,aK (gw.2+1)))
 else
 some (.inr gw.1))) (([]:List Int),0)).bind λcp =>
 (db d'.1 [cp]).bind λhs =>
 some (.inl (d'.1++[cp],aK (d'.2+1)))
 else
 some (.inr d'.1))) (([]:List (List Int)),0)).bind λbq =>
 some bq
def An (a0:(List State)) (aE:Int) (a2:(List Int)):Option (Int) :=
 (b4 (R:=Int) (λ(s1:Int × Int) =>
 ((bif decide (s1.2<(a2.length:Int)) then some (decide (0<=s1.1)) else some false)).bind λkI =>
 (bif kI then
 (idx a2 s1.2).bind λbP =>
 (rp a0 s1.1 bP).bind λb6 =>
 some (.inl (b6,aK (s1.2+1)))
 else
 some (.inr s1.1))) (aE,0)).bind λx2 =>
 some x2
def C7 (a0:bO) (aE:(List State)):Option ((List (List Int))) :=
 (qG aE).bind λa8 =>
 (zY a0).bind λx2 =>
 (ni (a8.length:Int) ([]:List Int)).bind λa7 =>
 (b4 (R:=List (List Int)) (λ(cX:List (List Int) × Int) =>
 (bif decide (cX.2<(a8.length:Int)) then
 (b4 (R:=List (List Int)) (λ(dw:List (List Int) × Int) =>
 (bif decide (dw.2<(a0.bh.length:Int)) then
 ((idx a0.bh dw.2).bind λck =>
 (idx a0.bh dw.2).bind λek =>
 (idx a8 cX.2).bind λcO =>
 (bif !decide (aK (1000+ek.Left)=cO.fE) then
 some dw.1
 else
 (b4 (R:=List (List Int)) (λ(lT:List (List Int) × Int) =>
 (bif decide (lT.2<(ck.eI.length:Int)) then
 ((((idx ck.eI lT.2).bind λfI=>(bif decide (fI<1000) then some true else ((nV ck.eI (aK (lT.2+1)) ck.eI.length).bind λfL=>((z1 x2 fL).bind λhs=>some (!hs)))))).bind λG_ =>
 (bif G_ then
 some lT.1
 else
 (idx a8 cX.2).bind λcY =>
 (nV ck.eI 0 lT.2).bind λei =>
 (An aE cY.State ei).bind λhT =>
 ((bif decide (0<=hT) then
 (idx ck.eI lT.2).bind λff =>
 (zZ a8 hT ff).bind λki =>
 ((bif decide (0<=ki) then
 (idx lT.1 ki).bind λj2 =>
 (pS j2 cX.2).bind λc0 =>
 some (lT.1.set ki.toNat c0)
 else
 some lT.1)).bind λJo =>
 some Jo
 else
 some lT.1)).bind λuj =>
 some uj)).bind λnQ =>
 some (.inl (nQ,aK (lT.2+1)))
 else
 some (.inr lT.1))) (dw.1,0)).bind λdM =>
 some dM)).bind λeN =>
 some (.inl (eN,aK (dw.2+1)))
 else
 some (.inr dw.1))) (cX.1,0)).bind λcw =>
 some (.inl (cw,aK (cX.2+1)))
 else
 some (.inr cX.1))) (a7,0)).bind λbS =>
 some bS
def Aj (a0:bO) (aE:(List State)):Option ((List (List Int))) :=
 (C5 aE).bind λa8 =>
 (C6 a0 aE).bind λx2 =>
 (Am a8 x2).bind λa7 =>
 (C7 a0 aE).bind λbq =>
 (Am a7 bq).bind λbS =>
 some bS
def CY (a0:bO) (aE:(List Item)):Option ((List Int)) :=
 (x7 a0 aE).bind λa8 =>
 (b4 (R:=List Int) (λ(s2:List Int × Int) =>
 (bif decide (s2.2<(a8.length:Int)) then
 ((((idx a8 s2.2).bind λbP=>(bif decide (0<bP.Prod) then ((idx a8 s2.2).bind λcw=>((idx a8 s2.2).bind λbI=>((idx a0.bh bI.Prod).bind λcp=>some (decide (cw.fc=(cp.eI.length:Int)))))) else some false))).bind λwI =>
 ((bif wI then
 (idx a8 s2.2).bind λcO =>
 (db s2.1 [cO.Prod]).bind λcc =>
 some (s2.1++[cO.Prod])
 else
 some s2.1)).bind λiH =>
 some iH).bind λkR =>
 some (.inl (kR,aK (s2.2+1)))
 else
 some (.inr s2.1))) (([]:List Int),0)).bind λa7 =>
 some a7
def CZ (a0:bO) (aE:(List State)) (a2:Int) (a3:Int):Option ((List Int)) :=
 ((bif decide (a2<0) then some true else (bif decide ((aE.length:Int)<=a2) then some true else (bif decide (a3<1) then some true else some (decide ((a0.bh.length:Int)<=a3)))))).bind λc4 =>
 (bif c4 then
 some ([]:List Int)
 else
 (qG aE).bind λbB =>
 (b4 (R:=List Int) (λ(du:List Int × Int) =>
 (bif decide (du.2<(bB.length:Int)) then
 ((((idx bB du.2).bind λeF=>((idx a0.bh a3).bind λck=>(bif decide (eF.fE=aK (1000+ck.Left)) then ((idx bB du.2).bind λcO=>((idx a0.bh a3).bind λcc=>((An aE cO.State cc.eI).bind λbU=>some (decide (bU=a2))))) else some false)))).bind λny =>
 ((bif ny then
 (db du.1 [du.2]).bind λeB =>
 some (du.1++[du.2])
 else
 some du.1)).bind λe_ =>
 some e_).bind λju =>
 some (.inl (ju,aK (du.2+1)))
 else
 some (.inr du.1))) (([]:List Int),0)).bind λb6 =>
 some b6)
def CW (a0:bO) (aE:(List State)):Option ((List k3)) :=
 (Aj a0 aE).bind λa8 =>
 (b4 (R:=List k3) (λ(s2:List k3 × Int) =>
 (bif decide (s2.2<(aE.length:Int)) then
 (idx aE s2.2).bind λbB =>
 (CY a0 bB.Kernel).bind λbP =>
 (b4 (R:=List k3) (λ(dw:List k3 × Int) =>
 (bif decide (dw.2<(bP.length:Int)) then
 (idx bP dw.2).bind λeF =>
 (idx bP dw.2).bind λck =>
 (CZ a0 aE s2.2 ck).bind λek =>
 (b4 (R:=List Int) (λ(hZ:List Int × Int) =>
 (bif decide (hZ.2<(ek.length:Int)) then
 (b4 (R:=List Int) (λ(df:List Int × Int) =>
 (idx ek hZ.2).bind λfI =>
 (idx a8 fI).bind λfz =>
 (bif decide (df.2<(fz.length:Int)) then
 (idx ek hZ.2).bind λhs =>
 (idx a8 hs).bind λgA =>
 (idx gA df.2).bind λea =>
 (pS df.1 ea).bind λcY =>
 some (.inl (cY,aK (df.2+1)))
 else
 some (.inr df.1))) (hZ.1,0)).bind λdP =>
 some (.inl (dP,aK (hZ.2+1)))
 else
 some (.inr hZ.1))) (([]:List Int),0)).bind λcc =>
 (db dw.1 [(⟨s2.2,eF,cc⟩:k3)]).bind λei =>
 some (.inl (dw.1++[(⟨s2.2,eF,cc⟩:k3)],aK (dw.2+1)))
 else
 some (.inr dw.1))) (s2.1,0)).bind λcw =>
 some (.inl (cw,aK (s2.2+1)))
 else
 some (.inr s2.1))) (([]:List k3),0)).bind λa7 =>
 some a7
def vR (a0:Source):Option (bO × (List State) × (List Cell) × Bool) :=
 (x1 a0).bind λa8 =>
 (bif !a8.2.2 then
 some (a8.1,([]:List State),([]:List Cell),false)
 else
 (CW a8.1 a8.2.1).bind λa7 =>
 (CV a8.1 a8.2.1 a7).bind λbq =>
 some (a8.1,a8.2.1,bq,true))
def C8 (a0:bO) (aE:Int):Option (Int × Int) :=
 ((bif decide (aE<0) then some true else (bif decide ((a0.bh.length:Int)<=aE) then some true else ((idx a0.bh aE).bind λa7=>some (decide (a7.Prec<0)))))).bind λc4 =>
 (bif c4 then
 some (0,0)
 else
 (idx a0.bh aE).bind λbB =>
 (idx a0.ba bB.Prec).bind λbP =>
 some (bP.Level,bP.fu))
def C0 (a0:bO) (aE:Int) (a2:Int):Option (Int) :=
 (C8 a0 aE).bind λa8 =>
 ((bif decide (a8.1=0) then some true else (bif decide (a2<0) then some true else (bif decide ((a0.ba.length:Int)<=a2) then some true else ((idx a0.ba a2).bind λbS=>some (decide (bS.Level=0))))))).bind λoF =>
 (bif oF then
 some 0
 else
 (idx a0.ba a2).bind λb6 =>
 (bif decide (a8.1<b6.Level) then
 some 1
 else
 (bif decide (b6.Level<a8.1) then
 some 2
 else
 (bif decide (b6.fu=1) then
 some 2
 else
 (bif decide (b6.fu=2) then
 some 1
 else
 some 3)))))
structure fg where
 State:Int
 bX:Int
 hD:Int
 Drop:Int
 deriving DecidableEq,Inhabited
structure Act where
 Kind:Int
 N:Int
 deriving DecidableEq,Inhabited
def e3:bJ fg:=⟨4,λx=>[ae x.State,ae x.bX,ae x.hD,ae x.Drop],λ_=>rfl,λ_=>dq.bm⟩
instance:Flat e3:=⟨λ_=>rfl⟩
instance:l0 e3:=⟨λx=>(inferInstance:jC [ae x.State,ae x.bX,ae x.hD,ae x.Drop])⟩
instance:gU e3 e3:=⟨rfl,λx=>(inferInstance:ds [ae x.State,ae x.bX,ae x.hD,ae x.Drop] [ae x.State,ae x.bX,ae x.hD,ae x.Drop])⟩
instance {x:fg}:ds (e3.cells x) [ae x.State,ae x.bX,ae x.hD,ae x.Drop]:=(inferInstance:ds [ae x.State,ae x.bX,ae x.hD,ae x.Drop] [ae x.State,ae x.bX,ae x.hD,ae x.Drop])
def x3 (a0:bO) (aE:Cell):Option (Act × (List fg)) :=
 (b4 (R:=List fg) (λ(s1:List fg × Int) =>
 (bif decide (s1.2<(aE.bh.length:Int)) then
 (idx aE.bh 0).bind λbS =>
 (idx aE.bh s1.2).bind λbB =>
 (db s1.1 [(⟨aE.State,aE.bX,bS,bB⟩:fg)]).bind λbP =>
 some (.inl (s1.1++[(⟨aE.State,aE.bX,bS,bB⟩:fg)],aK (s1.2+1)))
 else
 some (.inr s1.1))) (([]:List fg),1)).bind λx2 =>
 ((bif aE.lX then
 some (3,0)
 else
 some (1,aE.j5))).bind λfe =>
 (bif decide ((aE.bh.length:Int)=0) then
 some ((⟨fe.1,fe.2⟩:Act),x2)
 else
 (idx aE.bh 0).bind λcp =>
 ((bif decide (aE.j5<0) then some (!aE.lX) else some false)).bind λjU =>
 (bif jU then
 some ((⟨2,cp⟩:Act),x2)
 else
 (C0 a0 cp aE.bX).bind λcO =>
 ((bif aE.lX then some true else some (decide (cO=0)))).bind λwJ =>
 (bif wJ then
 (db x2 [(⟨aE.State,aE.bX,(-1),cp⟩:fg)]).bind λeR =>
 some ((⟨fe.1,fe.2⟩:Act),x2++[(⟨aE.State,aE.bX,(-1),cp⟩:fg)])
 else
 (bif decide (cO=2) then
 some ((⟨2,cp⟩:Act),x2)
 else
 (bif decide (cO=3) then
 some ((⟨4,0⟩:Act),x2)
 else
 some ((⟨fe.1,fe.2⟩:Act),x2))))))
structure gS where
 cP:(List (List Act))
 dS:(List (List Int))
 deriving DecidableEq,Inhabited
def eb:bJ Act:=⟨2,λx=>[ae x.Kind,ae x.N],λ_=>rfl,λ_=>dq.bm⟩
instance:Flat eb:=⟨λ_=>rfl⟩
instance:l0 eb:=⟨λx=>(inferInstance:jC [ae x.Kind,ae x.N])⟩
instance:gU eb eb:=⟨rfl,λx=>(inferInstance:ds [ae x.Kind,ae x.N] [ae x.Kind,ae x.N])⟩
def Ab (a0:bO) (aE:(List State)) (a2:(List Cell)):Option (gS × (List fg)) :=
 (b4 (R:=List (List Act) × List (List Int) × List fg) (λ(s1:List (List Act) × List (List Int) × List fg × Int) =>
 (bif decide (s1.2.2.2<(aE.length:Int)) then
 (ni (a0.ba.length:Int) (⟨0,0⟩:Act)).bind λbS =>
 (b4 (R:=List fg × List Act) (λ(dc:List fg × List Act × Int) =>
 (bif decide (dc.2.2<(a2.length:Int)) then
 ((idx a2 dc.2.2).bind λcp =>
 ((bif decide (cp.State=s1.2.2.2) then
 (idx a2 dc.2.2).bind λek =>
 (x3 a0 ek).bind λcO =>
 (idx a2 dc.2.2).bind λcc =>
 (idx dc.2.1 cc.bX).bind λbU =>
 (db dc.1 cO.2).bind λdM =>
 some (dc.1++cO.2,dc.2.1.set cc.bX.toNat cO.1)
 else
 some (dc.1,dc.2.1))).bind λeN =>
 some (eN.1,eN.2)).bind λjP =>
 some (.inl (jP.1,jP.2,aK (dc.2.2+1)))
 else
 some (.inr (dc.1,dc.2.1)))) (s1.2.2.1,bS,0)).bind λbP =>
 (ni (a0.b1.length:Int) 0).bind λeR =>
 (b4 (R:=List Int) (λ(qJ:List Int × Int) =>
 (bif decide (qJ.2<(qJ.1.length:Int)) then
 (rp aE s1.2.2.2 (aK (1000+qJ.2))).bind λfL =>
 (idx qJ.1 qJ.2).bind λhs =>
 some (.inl (qJ.1.set qJ.2.toNat fL,aK (qJ.2+1)))
 else
 some (.inr qJ.1))) (eR,0)).bind λeB =>
 (db s1.1 [bP.2]).bind λgA =>
 (db s1.2.1 [eB]).bind λea =>
 some (.inl (s1.1++[bP.2],s1.2.1++[eB],bP.1,aK (s1.2.2.2+1)))
 else
 some (.inr (s1.1,s1.2.1,s1.2.2.1)))) (([]:List (List Act)),([]:List (List Int)),([]:List fg),0)).bind λx2 =>
 some ((⟨x2.1,x2.2.1⟩:gS),x2.2.2)
def CQ (a0:(List Cell)):Option (Int) :=
 (b4 (R:=Int) (λ(s1:Int × Int) =>
 (bif decide (s1.2<(a0.length:Int)) then
 ((idx a0 s1.2).bind λbB =>
 (Af bB).bind λbP =>
 ((bif decide (1<bP) then
 some (aK (s1.1+1))
 else
 some s1.1)).bind λfe =>
 some fe).bind λkQ =>
 some (.inl (kQ,aK (s1.2+1)))
 else
 some (.inr s1.1))) (0,0)).bind λx2 =>
 some x2
def s0 (a0:Source):Option (bO × gS × Int × Bool) :=
 (vR a0).bind λa8 =>
 (bif !a8.2.2.2 then
 some (a8.1,(⟨([]:List (List Act)),([]:List (List Int))⟩:gS),0,false)
 else
 (Ab a8.1 a8.2.1 a8.2.2.1).bind λa7 =>
 (CQ a8.2.2.1).bind λbq =>
 some (a8.1,a7.1,bq,true))
structure ca where
 At:Int
 b8:Int
 deriving DecidableEq,Inhabited
def bQ:bJ ca:=⟨2,λx=>[ae x.At,ae x.b8],λ_=>rfl,λ_=>dq.bm⟩
instance:Flat bQ:=⟨λ_=>rfl⟩
instance:l0 bQ:=⟨λx=>(inferInstance:jC [ae x.At,ae x.b8])⟩
instance:gU bQ bQ:=⟨rfl,λx=>(inferInstance:ds [ae x.At,ae x.b8] [ae x.At,ae x.b8])⟩
def Ak (a0:(List (List ca))):Option (Bool) :=
 (bif decide (400<(a0.length:Int)) then
 some false
 else
 (b4 (R:=(Unit) ⊕ (Bool)) (λ(s2:Int) =>
 (bif decide (s2<(a0.length:Int)) then
 (idx a0 s2).bind λbP =>
 (b4 (R:=(Unit) ⊕ (Bool)) (λ(dw:List Bool × Int) =>
 (bif decide (dw.2<(bP.length:Int)) then
 (idx bP dw.2).bind λck =>
 ((bif decide (ck.At<0) then some true else (bif decide (1000<=ck.At) then some true else ((xr 1000 dw.1 ck.At).bind λcc=>some cc)))).bind λwJ =>
 (bif wJ then
 some (.inr (.inr false))
 else
 (xr 1000 dw.1 ck.At).bind λeR =>
 some (.inl (dw.1.set ck.At.toNat true,aK (dw.2+1))))
 else
 some (.inr (.inl ())))) ((List.replicate 1000 false),0)).bind λcw =>
 (match cw with
 | .inl bI =>
 some (.inl (aK (s2+1)))
 | .inr cp =>
 some (.inr (.inr cp)))
 else
 some (.inr (.inl ())))) 0).bind λa7 =>
 (match a7 with
 | .inl bq =>
 some true
 | .inr bS =>
 some bS))
def vV (a0:Int):Option (Bool) :=
 some (!decide (a0=a0))
def ux (a0:Int) (aE:Int):Option (Int) :=
 (vV a0).bind λa8 =>
 (vV aE).bind λx2 =>
 (bif a8 then
 (bif x2 then
 some 0
 else
 some (-1))
 else
 (bif x2 then
 some 1
 else
 (bif decide (a0<aE) then
 some (-1)
 else
 (bif decide (aE<a0) then
 some 1
 else
 some 0))))
def C1 (a0:(List Int)):Option (Int) :=
 (b4 (R:=(Unit) ⊕ (Int)) (λ(s1:Int) =>
 (bif decide (s1<(a0.length:Int)) then
 (idx a0 s1).bind λbB =>
 (bif !decide (bB=0) then
 some (.inr (.inr bB))
 else
 some (.inl (aK (s1+1))))
 else
 some (.inr (.inl ())))) 0).bind λx2 =>
 (match x2 with
 | .inl a7 =>
 some 0
 | .inr bq =>
 some bq)
def vU (a0:Int) (aE:Int) (pf:(List (List ca))):Option (Int) :=
 (idx pf aE).bind λa8 =>
 (idx pf a0).bind λx2 =>
 (ux (a8.length:Int) (x2.length:Int)).bind λa7 =>
 (ux a0 aE).bind λbq =>
 (C1 [a7,bq]).bind λbS =>
 some bS
def C_ (a0:ca) (pf:Int) (c1:(List Int)):Option (Bool) :=
 ((bif decide (aK (pf+a0.At)<(c1.length:Int)) then ((idx c1 (aK (pf+a0.At))).bind λx2=>some (!decide (x2=0))) else some false)).bind λjV =>
 some jV
def Fu (a0:(List ca)) (q3:Int) (q4:(List Int)):Option (Int) :=
 (b4 (R:=(Unit) ⊕ (Int)) (λ(s1:Int) =>
 (bif decide (s1<(a0.length:Int)) then
 (idx a0 s1).bind λbB =>
 (C_ bB q3 q4).bind λbP =>
 (bif bP then
 some (.inr (.inr s1))
 else
 some (.inl (aK (s1+1))))
 else
 some (.inr (.inl ())))) 0).bind λx2 =>
 (match x2 with
 | .inl a7 =>
 some (-1)
 | .inr bq =>
 some bq)
def Fw (a0:(List ca)) (q3:Int) (q4:(List Int)):Option (Bool) :=
 (Fu a0 q3 q4).bind λa8 =>
 some (decide (0<=a8))
def x6 (a0:(List Int)) (aE:(List ca)) (a2:Int):Option (Bool) :=
 (Fw aE a2 a0).bind λa8 =>
 some (!a8)
structure fA where
 cS:(List Int)
 b8:(List Int)
 b5:(List Int)
 deriving DecidableEq,Inhabited
def lC:bJ fA:=⟨3,λx=>[ag ai x.cS,ag ai x.b8,ag ai x.b5],λ_=>rfl,λ_=>dq.bm⟩
instance:Flat lC:=⟨λ_=>rfl⟩
instance:gU lC lC:=⟨rfl,λx=>(inferInstance:ds [ag ai x.cS,ag ai x.b8,ag ai x.b5] [ag ai x.cS,ag ai x.b8,ag ai x.b5])⟩
instance {x:fA}:ds (lC.cells x) [ag ai x.cS,ag ai x.b8,ag ai x.b5]:=(inferInstance:ds [ag ai x.cS,ag ai x.b8,ag ai x.b5] [ag ai x.cS,ag ai x.b8,ag ai x.b5])
def rT:bJ fA:=⟨3,λx=>[aj ai x.cS,aj ai x.b8,aj ai x.b5],λ_=>rfl,λ_=>dq.bm⟩
instance:l0 rT:=⟨λx=>(inferInstance:jC [aj ai x.cS,aj ai x.b8,aj ai x.b5])⟩
instance {x:fA}:ds (rT.cells x) [ag ai x.cS,ag ai x.b8,ag ai x.b5]:=(inferInstance:ds [aj ai x.cS,aj ai x.b8,aj ai x.b5] [ag ai x.cS,ag ai x.b8,ag ai x.b5])
def Ag (a0:(List (List ca))):Option (fA) :=
 (Ak a0).bind λa8 =>
 (bif !a8 then
 some (⟨([]:List Int),([]:List Int),([]:List Int)⟩:fA)
 else
 (ni (a0.length:Int) 0).bind λa7 =>
 (b4 (R:=List Int) (λ(cX:List Int × Int) =>
 (bif decide (cX.2<(a0.length:Int)) then
 ((idx a0 cX.2).bind λcw =>
 ((bif decide (0<(cw.length:Int)) then
 (db cX.1 [cX.2]).bind λeF =>
 some (cX.1++[cX.2])
 else
 some cX.1)).bind λjP =>
 some jP).bind λfe =>
 some (.inl (fe,aK (cX.2+1)))
 else
 some (.inr cX.1))) (([]:List Int),0)).bind λbS =>
 (pV (λa b=>vU a b a0) bS).bind λck =>
 (b4 (R:=fA) (λ(e1:fA × Int) =>
 (bif decide (e1.2<(ck.length:Int)) then
 (idx ck e1.2).bind λdM =>
 (b4 (R:=List Int) (λ(df:List Int) =>
 (idx a0 dM).bind λfI =>
 (idx df dM).bind λfz =>
 (x6 e1.1.b5 fI fz).bind λfL =>
 (bif !fL then
 (idx df dM).bind λgA =>
 some (.inl (df.set dM.toNat (aK (gA+1))))
 else
 some (.inr df))) e1.1.cS).bind λdP =>
 (idx a0 dM).bind λea =>
 (b4 (R:=List Int × List Int) (λ(ky:List Int × List Int × Int) =>
 (bif decide (ky.2.2<(ea.length:Int)) then
 (idx ea ky.2.2).bind λcR =>
 (idx dP dM).bind λff =>
 (b4 (R:=List Int × List Int) (λ(dZ:List Int × List Int) =>
 (bif decide ((dZ.2.length:Int)<=aK (ff+cR.At)) then
 (db dZ.2 [0]).bind λc0 =>
 (db dZ.1 [0]).bind λgn =>
 some (.inl (dZ.1++[0],dZ.2++[0]))
 else
 some (.inr (dZ.1,dZ.2)))) (ky.1,ky.2.1)).bind λeo =>
 (idx eo.2 (aK (ff+cR.At))).bind λrI =>
 (idx eo.1 (aK (ff+cR.At))).bind λjB =>
 some (.inl (eo.1.set (aK (ff+cR.At)).toNat cR.b8,eo.2.set (aK (ff+cR.At)).toNat (aK (dM+1)),aK (ky.2.2+1)))
 else
 some (.inr (ky.1,ky.2.1)))) (e1.1.b8,e1.1.b5,0)).bind λei =>
 some (.inl ((⟨dP,ei.1,ei.2⟩:fA),aK (e1.2+1)))
 else
 some (.inr e1.1))) ((⟨a7,([]:List Int),([]:List Int)⟩:fA),0)).bind λcO =>
 some cO)
structure Row where
 Def:Int
 fB:(List ca)
 deriving DecidableEq,Inhabited
def jI:bJ Row:=⟨2,λx=>[ae x.Def,ag bQ x.fB],λ_=>rfl,λ_=>dq.bm⟩
instance:Flat jI:=⟨λ_=>rfl⟩
instance:gU jI jI:=⟨rfl,λx=>(inferInstance:ds [ae x.Def,ag bQ x.fB] [ae x.Def,ag bQ x.fB])⟩
def xZ (a0:(List Row)):Option ((List Int) × fA) :=
 (b4 (R:=List Int × List (List ca)) (λ(s1:List Int × List (List ca) × Int) =>
 (bif decide (s1.2.2<(a0.length:Int)) then
 (idx a0 s1.2.2).bind λbS =>
 (db s1.1 [bS.Def]).bind λbB =>
 (db s1.2.1 [bS.fB]).bind λbP =>
 some (.inl (s1.1++[bS.Def],s1.2.1++[bS.fB],aK (s1.2.2+1)))
 else
 some (.inr (s1.1,s1.2.1)))) (([]:List Int),([]:List (List ca)),0)).bind λx2 =>
 (Ag x2.2).bind λb6 =>
 some (x2.1,b6)
def vT (a0:(List Int)):Option (Int) :=
 (b4 (R:=Int) (λ(s1:(List (Int × Int)) × Int × Int) =>
 (bif decide (s1.2.2<(a0.length:Int)) then
 ((idx a0 s1.2.2).bind λbB =>
 (sh sf 0 s1.1 bB).bind λbP =>
 (zN sf s1.1 bB (aK (bP+1))).bind λb6 =>
 (sh sf 0 b6 bB).bind λcw =>
 (sh sf 0 b6 s1.2.1).bind λbI =>
 ((bif decide (s1.2.1<0) then some true else (bif decide (0<aK (cw - bI)) then some true else (bif decide (aK (cw - bI)=0) then some (decide (bB<s1.2.1)) else some false)))).bind λoE =>
 ((bif oE then
 some bB
 else
 some s1.2.1)).bind λoj =>
 some (b6,oj)).bind λkQ =>
 some (.inl (kQ.1,kQ.2,aK (s1.2.2+1)))
 else
 some (.inr s1.2.1))) (([]:List (Int × Int)),(-1),0)).bind λx2 =>
 some x2
def Ah (a0:Act):Option (Int) :=
 ((bif decide (a0.Kind=1) then (bif decide (0<=a0.N) then some (decide (a0.N<20000)) else some false) else some false)).bind λjV =>
 (bif jV then
 some (aK (a0.N+1))
 else
 ((bif decide (a0.Kind=2) then (bif decide (0<a0.N) then some (decide (a0.N<20000)) else some false) else some false)).bind λkJ =>
 (bif kJ then
 some (aK (-a0.N))
 else
 ((bif decide (a0.Kind=3) then some (decide (a0.N=0)) else some false)).bind λil =>
 (bif il then
 some 20001
 else
 ((bif decide (a0.Kind=4) then some (decide (a0.N=0)) else some false)).bind λjU =>
 (bif jU then
 some 20002
 else
 some 0))))
def CR (a0:gS):Option ((List Row)) :=
 (b4 (R:=List Row) (λ(s1:List Row × Int) =>
 (bif decide (s1.2<(a0.cP.length:Int)) then
 (idx a0.cP s1.2).bind λbS =>
 (b4 (R:=List Int) (λ(dc:List Int × Int) =>
 (bif decide (dc.2<(bS.length:Int)) then
 ((idx bS dc.2).bind λcp =>
 ((bif decide (cp.Kind=2) then
 (db dc.1 [cp.N]).bind λek =>
 some (dc.1++[cp.N])
 else
 some dc.1)).bind λeN =>
 some eN).bind λjP =>
 some (.inl (jP,aK (dc.2+1)))
 else
 some (.inr dc.1))) (([]:List Int),0)).bind λbP =>
 (vT bP).bind λcO =>
 (b4 (R:=List ca) (λ(nn:List ca × Int) =>
 (bif decide (nn.2<(bS.length:Int)) then
 ((idx bS nn.2).bind λeB =>
 ((bif !decide (eB.Kind=0) then (bif !decide (eB.Kind=2) then some true else some (!decide (eB.N=cO))) else some false)).bind λqc =>
 ((bif qc then
 (Ah eB).bind λea =>
 (db nn.1 [(⟨nn.2,ea⟩:ca)]).bind λcY =>
 some (nn.1++[(⟨nn.2,ea⟩:ca)])
 else
 some nn.1)).bind λuh =>
 some uh).bind λxx =>
 some (.inl (xx,aK (nn.2+1)))
 else
 some (.inr nn.1))) (([]:List ca),0)).bind λbU =>
 (db s1.1 [(⟨cO,bU⟩:Row)]).bind λei =>
 some (.inl (s1.1++[(⟨cO,bU⟩:Row)],aK (s1.2+1)))
 else
 some (.inr s1.1))) (([]:List Row),0)).bind λx2 =>
 some x2
def CS (a0:gS):Option ((List Row)) :=
 (bif decide ((a0.dS.length:Int)=0) then
 some ([]:List Row)
 else
 (idx a0.dS 0).bind λx2 =>
 (b4 (R:=List Row) (λ(d':List Row × Int) =>
 (bif decide (d'.2<(x2.length:Int)) then
 (b4 (R:=List Int) (λ(du:List Int × Int) =>
 (bif decide (du.2<(a0.dS.length:Int)) then
 ((idx a0.dS du.2).bind λeF =>
 (idx eF d'.2).bind λck =>
 ((bif decide (0<=ck) then
 (idx eF d'.2).bind λcc =>
 (db du.1 [cc]).bind λbU =>
 some (du.1++[cc])
 else
 some du.1)).bind λde =>
 some de).bind λju =>
 some (.inl (ju,aK (du.2+1)))
 else
 some (.inr du.1))) (([]:List Int),0)).bind λb6 =>
 (vT b6).bind λdM =>
 (b4 (R:=List ca) (λ(df:List ca × Int) =>
 (bif decide (df.2<(a0.dS.length:Int)) then
 ((idx a0.dS df.2).bind λfL =>
 (((idx fL d'.2).bind λhs=>(bif decide (0<=hs) then ((idx fL d'.2).bind λea=>some (!decide (ea=dM))) else some false))).bind λwK =>
 ((bif wK then
 (idx fL d'.2).bind λkZ =>
 (db df.1 [(⟨df.2,kZ⟩:ca)]).bind λcR =>
 some (df.1++[(⟨df.2,kZ⟩:ca)])
 else
 some df.1)).bind λui =>
 some ui).bind λJn =>
 some (.inl (Jn,aK (df.2+1)))
 else
 some (.inr df.1))) (([]:List ca),0)).bind λdP =>
 (db d'.1 [(⟨dM,dP⟩:Row)]).bind λff =>
 some (.inl (d'.1++[(⟨dM,dP⟩:Row)],aK (d'.2+1)))
 else
 some (.inr d'.1))) (([]:List Row),0)).bind λbq =>
 some bq)
def CX (a0:ca) (aE:ca):Option (Int) :=
 (ux a0.At aE.At).bind λa8 =>
 some a8
def Ac (a0:bO):Option ((List ca)) :=
 (b4 (R:=List ca) (λ(s1:List ca × Int) =>
 (bif decide (s1.2<(a0.ba.length:Int)) then
 ((idx a0.ba s1.2).bind λbB =>
 ((bif decide (0<bB.bR) then
 (db s1.1 [(⟨bB.bR,s1.2⟩:ca)]).bind λcw =>
 some (s1.1++[(⟨bB.bR,s1.2⟩:ca)])
 else
 some s1.1)).bind λkS =>
 some kS).bind λkQ =>
 some (.inl (kQ,aK (s1.2+1)))
 else
 some (.inr s1.1))) (([]:List ca),0)).bind λx2 =>
 (pV (λa b=>CX a b) x2).bind λbI =>
 some bI
structure Tables where
 Def:(List Int)
 cP:fA
 km:(List Int)
 gB:fA
 Left:(List Int)
 mJ:(List Int)
 nt:(List ca)
 deriving DecidableEq,Inhabited
def oJ:bJ Tables:=⟨11,λx=>[ag ai x.Def,ag ai x.cP.cS,ag ai x.cP.b8,ag ai x.cP.b5,ag ai x.km,ag ai x.gB.cS,ag ai x.gB.b8,ag ai x.gB.b5,ag ai x.Left,ag ai x.mJ,ag bQ x.nt],λ_=>rfl,λ_=>dq.bm⟩
instance:Flat oJ:=⟨λ_=>rfl⟩
instance:gU oJ oJ:=⟨rfl,λx=>(inferInstance:ds [ag ai x.Def,ag ai x.cP.cS,ag ai x.cP.b8,ag ai x.cP.b5,ag ai x.km,ag ai x.gB.cS,ag ai x.gB.b8,ag ai x.gB.b5,ag ai x.Left,ag ai x.mJ,ag bQ x.nt] [ag ai x.Def,ag ai x.cP.cS,ag ai x.cP.b8,ag ai x.cP.b5,ag ai x.km,ag ai x.gB.cS,ag ai x.gB.b8,ag ai x.gB.b5,ag ai x.Left,ag ai x.mJ,ag bQ x.nt])⟩
instance {x:Tables}:ds (oJ.cells x) [ag ai x.Def,ag ai x.cP.cS,ag ai x.cP.b8,ag ai x.cP.b5,ag ai x.km,ag ai x.gB.cS,ag ai x.gB.b8,ag ai x.gB.b5,ag ai x.Left,ag ai x.mJ,ag bQ x.nt]:=(inferInstance:ds [ag ai x.Def,ag ai x.cP.cS,ag ai x.cP.b8,ag ai x.cP.b5,ag ai x.km,ag ai x.gB.cS,ag ai x.gB.b8,ag ai x.gB.b5,ag ai x.Left,ag ai x.mJ,ag bQ x.nt] [ag ai x.Def,ag ai x.cP.cS,ag ai x.cP.b8,ag ai x.cP.b5,ag ai x.km,ag ai x.gB.cS,ag ai x.gB.b8,ag ai x.gB.b5,ag ai x.Left,ag ai x.mJ,ag bQ x.nt])
def vK (a0:bO) (aE:gS):Option (Tables) :=
 (CR aE).bind λa8 =>
 (xZ a8).bind λx2 =>
 (CS aE).bind λa7 =>
 (xZ a7).bind λbq =>
 (b4 (R:=List Int × List Int) (λ(cn:List Int × List Int × Int) =>
 (bif decide (cn.2.2<(a0.bh.length:Int)) then
 (idx a0.bh cn.2.2).bind λcw =>
 (db cn.1 [cw.Left]).bind λbI =>
 (db cn.2.1 [(cw.eI.length:Int)]).bind λcp =>
 some (.inl (cn.1++[cw.Left],cn.2.1++[(cw.eI.length:Int)],aK (cn.2.2+1)))
 else
 some (.inr (cn.1,cn.2.1)))) (([]:List Int),([]:List Int),0)).bind λbB =>
 (Ac a0).bind λeF =>
 some (⟨x2.1,x2.2,bq.1,bq.2,bB.1,bB.2,eF⟩:Tables)
def rn (a0:fA) (aE:Int) (a2:Int):Option (Int × Bool) :=
 ((bif decide (aE<0) then some true else (bif decide ((a0.cS.length:Int)<=aE) then some true else (bif decide (a2<0) then some true else some (decide ((a0.b5.length:Int)<=a2)))))).bind λc4 =>
 (bif c4 then
 some (0,false)
 else
 (idx a0.cS aE).bind λbB =>
 ((bif decide ((a0.b5.length:Int)<=aK (bB+a2)) then some true else ((idx a0.b5 (aK (bB+a2))).bind λb6=>some (!decide (b6=aK (aE+1)))))).bind λoG =>
 (bif oG then
 some (0,false)
 else
 (idx a0.b8 (aK (bB+a2))).bind λcp =>
 some (cp,true)))
def Ae (a0:Int):Option (Act) :=
 ((bif decide (0<a0) then some (decide (a0<=20000)) else some false)).bind λc2 =>
 (bif c2 then
 some (⟨1,aK (a0 - 1)⟩:Act)
 else
 ((bif decide (a0<0) then some (decide ((-20000)<a0)) else some false)).bind λkI =>
 (bif kI then
 some (⟨2,aK (-a0)⟩:Act)
 else
 (bif decide (a0=20001) then
 some (⟨3,0⟩:Act)
 else
 (bif decide (a0=20002) then
 some (⟨4,0⟩:Act)
 else
 some (⟨0,0⟩:Act)))))
def pR (a0:Tables) (aE:Int) (a2:Int):Option (Act) :=
 (rn a0.cP aE a2).bind λa8 =>
 (bif a8.2 then
 (Ae a8.1).bind λa7 =>
 some a7
 else
 ((bif decide (aE<0) then some true else (bif decide ((a0.Def.length:Int)<=aE) then some true else ((idx a0.Def aE).bind λbB=>some (decide (bB<0)))))).bind λkJ =>
 (bif kJ then
 some (⟨0,0⟩:Act)
 else
 (idx a0.Def aE).bind λcw =>
 some (⟨2,cw⟩:Act)))
def uv (a0:Tables) (aE:Int) (a2:Int):Option (Int) :=
 (rn a0.gB a2 aE).bind λa8 =>
 (bif a8.2 then
 some a8.1
 else
 ((bif decide (a2<0) then some true else some (decide ((a0.km.length:Int)<=a2)))).bind λc4 =>
 (bif c4 then
 some (-1)
 else
 (idx a0.km a2).bind λbB =>
 some bB))
def oV (a0:(List Int)) (aE:(List Int)):Option (Bool) :=
 (bif !decide ((a0.length:Int)=(aE.length:Int)) then
 some false
 else
 (b4 (R:=(Unit) ⊕ (Bool)) (λ(s2:Int) =>
 (bif decide (s2<(a0.length:Int)) then
 (idx a0 s2).bind λbP =>
 (idx aE s2).bind λb6 =>
 (bif !decide (bP=b6) then
 some (.inr (.inr false))
 else
 some (.inl (aK (s2+1))))
 else
 some (.inr (.inl ())))) 0).bind λa7 =>
 (match a7 with
 | .inl bq =>
 some true
 | .inr bS =>
 some bS))
def Al :Option (Bool) :=
 (s0 (⟨⟨#[]⟩,([]:List Decl),[(⟨⟨#[101]⟩,[(⟨[(⟨(⟨⟨#[101]⟩,false,0,0⟩:Sym),⟨#[]⟩,0⟩:Part),(⟨(⟨⟨#[43]⟩,true,0,0⟩:Sym),⟨#[]⟩,0⟩:Part),(⟨(⟨⟨#[120]⟩,true,0,0⟩:Sym),⟨#[]⟩,0⟩:Part)],(⟨⟨#[]⟩,false,0,0⟩:Sym),0⟩:Alt),(⟨[(⟨(⟨⟨#[120]⟩,true,0,0⟩:Sym),⟨#[]⟩,0⟩:Part)],(⟨⟨#[]⟩,false,0,0⟩:Sym),0⟩:Alt)],0⟩:fh)],⟨#[]⟩⟩:Source)).bind λa8 =>
 (vK a8.1 a8.2.1).bind λx2 =>
 ((bif a8.2.2.2 then ((oV x2.Def [(-1),2,(-1),(-1),1]).bind λbq=>(bif bq then ((oV x2.km [(-1),2]).bind λbB=>(bif bB then ((oV x2.Left [0,1,1]).bind λb6=>(bif b6 then ((oV x2.mJ [1,3,1]).bind λbI=>(bif bI then (bif decide ((x2.nt.length:Int)=2) then ((pR x2 1 4).bind λck=>(bif (decide (ck.Kind=2)&&(decide (ck.N=2)&&true)) then ((pR x2 0 4).bind λcO=>(bif (decide (cO.Kind=1)&&(decide (cO.N=1)&&true)) then ((pR x2 0 3).bind λbU=>(bif (decide (bU.Kind=0)&&(decide (bU.N=0)&&true)) then ((pR x2 9 0).bind λeR=>(bif (decide (eR.Kind=0)&&(decide (eR.N=0)&&true)) then ((uv x2 0 1).bind λeB=>(bif decide (eB=2) then ((uv x2 0 7).bind λfz=>some (decide (fz=(-1)))) else some false)) else some false)) else some false)) else some false)) else some false)) else some false) else some false)) else some false)) else some false)) else some false)) else some false)).bind λqc =>
 some qc
def s4 (a0:ByteArray) (aE:Int):Option (ByteArray) :=
 (bif decide (aE<(a0.size:Int)) then
 (q7 a0 0 aE).bind λx2 =>
 some x2
 else
 some a0)
def xY (a0:Sym):Option (Sym) :=
 (s4 a0.Name 25).bind λa8 =>
 some (⟨a8,a0.Lit,a0.bR,a0.At⟩:Sym)
def C9 (a0:Source):Option (Source) :=
 (s4 a0.cC 40).bind λa8 =>
 (s4 a0.cK 40).bind λx2 =>
 (b4 (R:=List Decl) (λ(d':List Decl × Int) =>
 ((bif decide (d'.2<(a0.Decls.length:Int)) then some (decide (d'.2<8)) else some false)).bind λkJ =>
 (bif kJ then
 (idx a0.Decls d'.2).bind λcw =>
 (idx a0.Decls d'.2).bind λbI =>
 (s4 bI.Tag 25).bind λcp =>
 (idx a0.Decls d'.2).bind λeF =>
 (b4 (R:=List Sym) (λ(fq:List Sym × Int) =>
 (((idx a0.Decls d'.2).bind λcc=>(bif decide (fq.2<(cc.eL.length:Int)) then some (decide (fq.2<6)) else some false))).bind λny =>
 (bif ny then
 (idx a0.Decls d'.2).bind λdP =>
 (idx dP.eL fq.2).bind λeB =>
 (xY eB).bind λfI =>
 (db fq.1 [fI]).bind λfz =>
 some (.inl (fq.1++[fI],aK (fq.2+1)))
 else
 some (.inr fq.1))) (([]:List Sym),0)).bind λek =>
 (db d'.1 [(⟨cw.Kind,cp,ek,eF.At⟩:Decl)]).bind λfL =>
 some (.inl (d'.1++[(⟨cw.Kind,cp,ek,eF.At⟩:Decl)],aK (d'.2+1)))
 else
 some (.inr d'.1))) (([]:List Decl),0)).bind λbq =>
 (b4 (R:=List fh) (λ(kg:List fh × Int) =>
 ((bif decide (kg.2<(a0.dG.length:Int)) then some (decide (kg.2<6)) else some false)).bind λqd =>
 (bif qd then
 (idx a0.dG kg.2).bind λkZ =>
 (s4 kZ.Left 25).bind λcR =>
 (idx a0.dG kg.2).bind λff =>
 (b4 (R:=List Alt) (λ(dZ:List Alt × Int) =>
 (((idx a0.dG kg.2).bind λj2=>(bif decide (dZ.2<(j2.eK.length:Int)) then some (decide (dZ.2<5)) else some false))).bind λwL =>
 (bif wL then
 (idx a0.dG kg.2).bind λjB =>
 (idx jB.eK dZ.2).bind λhd =>
 (xY hd.Prec).bind λfM =>
 (idx a0.dG kg.2).bind λwb =>
 (idx wb.eK dZ.2).bind λp0 =>
 (b4 (R:=List Part) (λ(rA:List Part × Int) =>
 (((idx a0.dG kg.2).bind λrJ=>((idx rJ.eK dZ.2).bind λDy=>(bif decide (rA.2<(Dy.hx.length:Int)) then some (decide (rA.2<6)) else some false)))).bind λHa =>
 (bif Ha then
 (idx a0.dG kg.2).bind λKN =>
 (idx KN.eK dZ.2).bind λkA =>
 (idx kA.hx rA.2).bind λnY =>
 (xY nY.Sym).bind λp2 =>
 (s4 nY.Code 60).bind λnZ =>
 (db rA.1 [(⟨p2,nZ,nY.At⟩:Part)]).bind λAI =>
 some (.inl (rA.1++[(⟨p2,nZ,nY.At⟩:Part)],aK (rA.2+1)))
 else
 some (.inr rA.1))) (([]:List Part),0)).bind λnX =>
 (db dZ.1 [(⟨nX,fM,p0.At⟩:Alt)]).bind λQt =>
 some (.inl (dZ.1++[(⟨nX,fM,p0.At⟩:Alt)],aK (dZ.2+1)))
 else
 some (.inr dZ.1))) (([]:List Alt),0)).bind λeo =>
 (db kg.1 [(⟨cR,eo,ff.At⟩:fh)]).bind λQu =>
 some (.inl (kg.1++[(⟨cR,eo,ff.At⟩:fh)],aK (kg.2+1)))
 else
 some (.inr kg.1))) (([]:List fh),0)).bind λgA =>
 some (⟨a8,bq,gA,x2⟩:Source)
def vP (a0:Int) (aE:Int):Option (Int) :=
 (rv a0 aE).bind λa8 =>
 ((bif decide (a8<0) then
 some (aK (a8+aE))
 else
 some a8)).bind λJm =>
 some Jm
def J4 :Option (ByteArray) :=
 some (⟨#[112,113,114,115]⟩)
def vQ (a0:Int):Option (Sym) :=
 (J4 ).bind λa8 =>
 (rv a0 4).bind λx2 =>
 (rv a0 4).bind λa7 =>
 (q7 a8 x2 (aK (a7+1))).bind λbq =>
 some (⟨bq,true,0,0⟩:Sym)
def mq:bJ Decl:=⟨4,λx=>[ae x.Kind,ay x.Tag,aj dE x.eL,ae x.At],λ_=>rfl,λ_=>dq.bm⟩
instance:gU mq dA:=⟨rfl,λx=>(inferInstance:ds [ae x.Kind,ay x.Tag,aj dE x.eL,ae x.At] [ae x.Kind,ay x.Tag,ag dE x.eL,ae x.At])⟩
instance {x:Decl}:ds (mq.cells x) [ae x.Kind,ay x.Tag,ag dE x.eL,ae x.At]:=(inferInstance:ds [ae x.Kind,ay x.Tag,aj dE x.eL,ae x.At] [ae x.Kind,ay x.Tag,ag dE x.eL,ae x.At])
def z' (a0:(List Int)):Option ((List Decl)) :=
 (b4 (R:=List Decl) (λ(s1:List Decl × Int) =>
 ((bif decide (s1.2<(a0.length:Int)) then some (decide (s1.2<4)) else some false)).bind λkI =>
 (bif kI then
 ((idx a0 s1.2).bind λb6 =>
 (vP b6 8).bind λcw =>
 (rv cw 4).bind λbI =>
 (bif decide (bI=0) then
 some s1.1
 else
 ((bif decide (4<cw) then some (decide (0<(s1.1.length:Int))) else some false)).bind λjU =>
 (bif jU then
 (idx s1.1 (aK ((s1.1.length:Int) - 1))).bind λcO =>
 (vQ s1.2).bind λcc =>
 (db cO.eL [cc]).bind λbU =>
 some (s1.1.set (aK ((s1.1.length:Int) - 1)).toNat (⟨cO.Kind,cO.Tag,cO.eL++[cc],cO.At⟩:Decl))
 else
 (rv cw 4).bind λdM =>
 (vQ s1.2).bind λeR =>
 (db s1.1 [(⟨aK (1+dM),⟨#[]⟩,[eR],0⟩:Decl)]).bind λdP =>
 some (s1.1++[(⟨aK (1+dM),⟨#[]⟩,[eR],0⟩:Decl)])))).bind λkS =>
 some (.inl (kS,aK (s1.2+1)))
 else
 some (.inr s1.1))) (([]:List Decl),0)).bind λx2 =>
 some x2
def Aa (a0:Int):Option (ByteArray) :=
 some (strOfNums [yr (aK (97+a0))])
def CP (a0:Int) (aE:Int):Option (Sym) :=
 (vP a0 14).bind λa8 =>
 (bif decide (a8<5) then
 (rv a8 aE).bind λa7 =>
 (Aa a7).bind λbq =>
 some (⟨bq,false,0,0⟩:Sym)
 else
 (bif decide (a8=13) then
 some (⟨⟨#[101,114,114,111,114]⟩,false,0,0⟩:Sym)
 else
 (vQ (aK (a8 - 5))).bind λbB =>
 some bB))
structure o6 where
 b1:Int
 dG:(List (List Int))
 qV:(List Int)
 nq:(List Int)
 sq:Bool
 deriving DecidableEq,Inhabited
def pg:bJ o6:=⟨5,λx=>[ae x.b1,ag (bo ai) x.dG,ag ai x.qV,ag ai x.nq,a_ x.sq],λ_=>rfl,λ_=>dq.bm⟩
instance:Flat pg:=⟨λ_=>rfl⟩
instance:gU pg pg:=⟨rfl,λx=>(inferInstance:ds [ae x.b1,ag (bo ai) x.dG,ag ai x.qV,ag ai x.nq,a_ x.sq] [ae x.b1,ag (bo ai) x.dG,ag ai x.qV,ag ai x.nq,a_ x.sq])⟩
instance {x:o6}:ds (pg.cells x) [ae x.b1,ag (bo ai) x.dG,ag ai x.qV,ag ai x.nq,a_ x.sq]:=(inferInstance:ds [ae x.b1,ag (bo ai) x.dG,ag ai x.qV,ag ai x.nq,a_ x.sq] [ae x.b1,ag (bo ai) x.dG,ag ai x.qV,ag ai x.nq,a_ x.sq])
def fK:bJ fh:=⟨3,λx=>[ay x.Left,aj e2 x.eK,ae x.At],λ_=>rfl,λ_=>dq.bm⟩
instance:gU fK gN:=⟨rfl,λx=>(inferInstance:ds [ay x.Left,aj e2 x.eK,ae x.At] [ay x.Left,ag e2 x.eK,ae x.At])⟩
instance {x:fh}:ds (fK.cells x) [ay x.Left,ag e2 x.eK,ae x.At]:=(inferInstance:ds [ay x.Left,aj e2 x.eK,ae x.At] [ay x.Left,ag e2 x.eK,ae x.At])
def xR (a0:o6):Option (Source) :=
 (vP a0.b1 4).bind λa8 =>
 (z' a0.qV).bind λx2 =>
 (ni (aK (1+a8)) false).bind λa7 =>
 (b4 (R:=List fh) (λ(cX:List fh × Int) =>
 (bif decide (cX.2<aK (1+a8)) then
 (Aa cX.2).bind λb6 =>
 (db cX.1 [(⟨b6,([]:List Alt),0⟩:fh)]).bind λcw =>
 some (.inl (cX.1++[(⟨b6,([]:List Alt),0⟩:fh)],aK (cX.2+1)))
 else
 some (.inr cX.1))) (([]:List fh),0)).bind λbS =>
 (b4 (R:=List fh × List Bool) (λ(gw:List fh × List Bool × Int) =>
 ((bif decide (gw.2.2<(a0.dG.length:Int)) then some (decide (gw.2.2<9)) else some false)).bind λoE =>
 (bif oE then
 ((idx a0.dG gw.2.2).bind λbU =>
 (bif decide ((bU.length:Int)=0) then
 some (gw.1,gw.2.1)
 else
 (idx a0.dG gw.2.2).bind λeR =>
 (idx eR 0).bind λdP =>
 (vP dP (aK (1+a8))).bind λeB =>
 (b4 (R:=List Part × Bool) (λ(iI:List Part × Bool × Int) =>
 (((idx a0.dG gw.2.2).bind λhs=>(bif decide (iI.2.2<(hs.length:Int)) then some (decide (iI.2.2<5)) else some false))).bind λG' =>
 (bif G' then
 ((idx a0.dG gw.2.2).bind λhT =>
 (idx hT iI.2.2).bind λkZ =>
 (CP kZ (aK (1+a8))).bind λcR =>
 ((bif iI.2.1 then (bif cR.Lit then some true else some (decide (cR.Name=⟨#[101,114,114,111,114]⟩))) else some false)).bind λtx =>
 (db iI.1 [(⟨cR,⟨#[]⟩,0⟩:Part)]).bind λpZ =>
 ((bif decide (gw.2.2<(a0.nq.length:Int)) then (bif decide (iI.2.2=1) then ((idx a0.nq gw.2.2).bind λgn=>((rv gn 3).bind λrI=>some (decide (rI=1)))) else some false) else some false)).bind λy7 =>
 ((bif y7 then
 (db (iI.1++[(⟨cR,⟨#[]⟩,0⟩:Part)]) [(⟨(⟨⟨#[]⟩,false,0,0⟩:Sym),⟨#[123,36,36,32,61,32,36,49,125]⟩,0⟩:Part)]).bind λwb =>
 some ((iI.1++[(⟨cR,⟨#[]⟩,0⟩:Part)])++[(⟨(⟨⟨#[]⟩,false,0,0⟩:Sym),⟨#[123,36,36,32,61,32,36,49,125]⟩,0⟩:Part)])
 else
 some (iI.1++[(⟨cR,⟨#[]⟩,0⟩:Part)]))).bind λJs =>
 some (Js,tx)).bind λui =>
 some (.inl (ui.1,ui.2,aK (iI.2.2+1)))
 else
 some (.inr (iI.1,iI.2.1)))) (([]:List Part),true,1)).bind λfz =>
 ((bif decide (gw.2.2<(a0.nq.length:Int)) then ((idx a0.nq gw.2.2).bind λov=>((rv ov 2).bind λnX=>some (!decide (nX=0)))) else some false)).bind λA' =>
 ((bif A' then
 (db fz.1 [(⟨(⟨⟨#[]⟩,false,0,0⟩:Sym),⟨#[123,102,40,36,36,41,125]⟩,0⟩:Part)]).bind λwe =>
 some (fz.1++[(⟨(⟨⟨#[]⟩,false,0,0⟩:Sym),⟨#[123,102,40,36,36,41,125]⟩,0⟩:Part)])
 else
 some fz.1)).bind λoS =>
 (((idx gw.2.1 eB).bind λp1=>(bif p1 then some (gw.2.1.set eB.toNat true) else some (gw.2.1.set eB.toNat fz.2)))).bind λy8 =>
 (idx gw.1 eB).bind λkA =>
 (db kA.eK [(⟨oS,(⟨⟨#[]⟩,false,0,0⟩:Sym),0⟩:Alt)]).bind λnY =>
 some (gw.1.set eB.toNat (⟨kA.Left,kA.eK++[(⟨oS,(⟨⟨#[]⟩,false,0,0⟩:Sym),0⟩:Alt)],kA.At⟩:fh),y8))).bind λmy =>
 some (.inl (my.1,my.2,aK (gw.2.2+1)))
 else
 some (.inr (gw.1,gw.2.1)))) (bS,a7,0)).bind λcp =>
 (b4 (R:=List fh) (λ(jg:List fh × Int) =>
 (bif decide (jg.2<aK (1+a8)) then
 ((((idx jg.1 jg.2).bind λwg=>(bif decide ((wg.eK.length:Int)=0) then some true else ((idx cp.2 jg.2).bind λKO=>(bif !KO then some (!a0.sq) else some false))))).bind λBa =>
 ((bif Ba then
 (idx jg.1 jg.2).bind λkB =>
 (vQ jg.2).bind λkC =>
 (db kB.eK [(⟨[(⟨kC,⟨#[]⟩,0⟩:Part)],(⟨⟨#[]⟩,false,0,0⟩:Sym),0⟩:Alt)]).bind λDz =>
 some (jg.1.set jg.2.toNat (⟨kB.Left,kB.eK++[(⟨[(⟨kC,⟨#[]⟩,0⟩:Part)],(⟨⟨#[]⟩,false,0,0⟩:Sym),0⟩:Alt)],kB.At⟩:fh))
 else
 some jg.1)).bind λJw =>
 some Jw).bind λJv =>
 some (.inl (Jv,aK (jg.2+1)))
 else
 some (.inr jg.1))) (cp.1,0)).bind λnZ =>
 some (⟨⟨#[]⟩,x2,nZ,⟨#[]⟩⟩:Source)
def Fv (a0:fA) (aE:fA):Option (Bool) :=
 (((oV a0.cS aE.cS).bind λa8=>(bif a8 then ((oV a0.b8 aE.b8).bind λa7=>(bif a7 then ((oV a0.b5 aE.b5).bind λbS=>some bS) else some false)) else some false))).bind λoF =>
 some oF
def J2 (a0:(List ca)) (aE:(List ca)):Option (Bool) :=
 (bif !decide ((a0.length:Int)=(aE.length:Int)) then
 some false
 else
 (b4 (R:=(Unit) ⊕ (Bool)) (λ(s2:Int) =>
 (bif decide (s2<(a0.length:Int)) then
 (idx a0 s2).bind λbP =>
 (idx aE s2).bind λb6 =>
 (bif !(decide (bP.At=b6.At)&&(decide (bP.b8=b6.b8)&&true)) then
 some (.inr (.inr false))
 else
 some (.inl (aK (s2+1))))
 else
 some (.inr (.inl ())))) 0).bind λa7 =>
 (match a7 with
 | .inl bq =>
 some true
 | .inr bS =>
 some bS))
def Pj (a0:Tables) (aE:Tables):Option (Bool) :=
 (((oV a0.Def aE.Def).bind λa8=>(bif a8 then ((Fv a0.cP aE.cP).bind λa7=>(bif a7 then ((oV a0.km aE.km).bind λbS=>(bif bS then ((Fv a0.gB aE.gB).bind λbP=>(bif bP then ((oV a0.Left aE.Left).bind λcw=>(bif cw then ((oV a0.mJ aE.mJ).bind λcp=>(bif cp then ((J2 a0.nt aE.nt).bind λck=>some ck) else some false)) else some false)) else some false)) else some false)) else some false)) else some false))).bind λoE =>
 some oE
def vS (a0:(List Int)):Option (Int) :=
 (b4 (R:=List Int) (λ(s1:List Int × Int) =>
 (bif decide (s1.2<(a0.length:Int)) then
 (idx a0 s1.2).bind λbS =>
 (pS s1.1 bS).bind λbB =>
 some (.inl (bB,aK (s1.2+1)))
 else
 some (.inr s1.1))) (([]:List Int),0)).bind λx2 =>
 (b4 (R:=Int) (λ(du:Int × Int × Int) =>
 (bif decide (du.2.2<(x2.length:Int)) then
 ((b4 (R:=Int) (λ(uB:Int × Int) =>
 (bif decide (uB.2<(a0.length:Int)) then
 ((idx a0 uB.2).bind λbU =>
 (idx x2 du.2.2).bind λdM =>
 ((bif decide (bU=dM) then
 some (aK (uB.1+1))
 else
 some uB.1)).bind λe_ =>
 some e_).bind λmy =>
 some (.inl (my,aK (uB.2+1)))
 else
 some (.inr uB.1))) (0,0)).bind λck =>
 ((bif decide (du.2.1<ck) then
 (idx x2 du.2.2).bind λfz =>
 some (fz,ck)
 else
 some (du.1,du.2.1))).bind λnQ =>
 some (nQ.1,nQ.2)).bind λju =>
 some (.inl (ju.1,ju.2,aK (du.2.2+1)))
 else
 some (.inr du.1))) ((-1),0,0)).bind λb6 =>
 some b6
def uw (a0:Act):Option (Int) :=
 ((bif decide (a0.Kind=1) then (bif decide (0<=a0.N) then some (decide (a0.N<=19999)) else some false) else some false)).bind λjV =>
 (bif jV then
 some (aK (a0.N+1))
 else
 ((bif decide (a0.Kind=2) then (bif decide (1<=a0.N) then some (decide (a0.N<=19999)) else some false) else some false)).bind λkJ =>
 (bif kJ then
 some (aK (-a0.N))
 else
 ((bif decide (a0.Kind=3) then some (decide (a0.N=0)) else some false)).bind λil =>
 (bif il then
 some 20001
 else
 ((bif decide (a0.Kind=4) then some (decide (a0.N=0)) else some false)).bind λjU =>
 (bif jU then
 some 20002
 else
 some 0))))
def z8 (a0:gS):Option ((List Row)) :=
 (b4 (R:=List Row) (λ(s1:List Row × Int) =>
 (bif decide (s1.2<(a0.cP.length:Int)) then
 (b4 (R:=List Int) (λ(cn:List Int × Int) =>
 (idx a0.cP s1.2).bind λb6 =>
 (bif decide (cn.2<(b6.length:Int)) then
 ((idx a0.cP s1.2).bind λcp =>
 (idx cp cn.2).bind λeF =>
 ((bif decide (eF.Kind=2) then
 (idx a0.cP s1.2).bind λcO =>
 (idx cO cn.2).bind λcc =>
 (db cn.1 [cc.N]).bind λbU =>
 some (cn.1++[cc.N])
 else
 some cn.1)).bind λiH =>
 some iH).bind λjP =>
 some (.inl (jP,aK (cn.2+1)))
 else
 some (.inr cn.1))) (([]:List Int),0)).bind λbB =>
 (vS bB).bind λdM =>
 (b4 (R:=List ca) (λ(df:List ca × Int) =>
 (idx a0.cP s1.2).bind λfI =>
 (bif decide (df.2<(fI.length:Int)) then
 ((idx a0.cP s1.2).bind λhs =>
 (idx hs df.2).bind λgA =>
 ((bif !decide (gA.Kind=0) then (bif !decide (gA.Kind=2) then some true else some (!decide (gA.N=dM))) else some false)).bind λqd =>
 ((bif qd then
 (uw gA).bind λcR =>
 (db df.1 [(⟨df.2,cR⟩:ca)]).bind λff =>
 some (df.1++[(⟨df.2,cR⟩:ca)])
 else
 some df.1)).bind λxz =>
 some xz).bind λxy =>
 some (.inl (xy,aK (df.2+1)))
 else
 some (.inr df.1))) (([]:List ca),0)).bind λdP =>
 (db s1.1 [(⟨dM,dP⟩:Row)]).bind λki =>
 some (.inl (s1.1++[(⟨dM,dP⟩:Row)],aK (s1.2+1)))
 else
 some (.inr s1.1))) (([]:List Row),0)).bind λx2 =>
 some x2
def z_ (a0:gS):Option ((List Row)) :=
 (b4 (R:=List Row) (λ(s1:List Row × Int) =>
 ((bif decide (0<(a0.dS.length:Int)) then ((idx a0.dS 0).bind λbS=>some (decide (s1.2<(bS.length:Int)))) else some false)).bind λoF =>
 (bif oF then
 (b4 (R:=List Int) (λ(dw:List Int × Int) =>
 (bif decide (dw.2<(a0.dS.length:Int)) then
 ((idx a0.dS dw.2).bind λck =>
 (idx ck s1.2).bind λek =>
 ((bif decide (0<=ek) then
 (idx a0.dS dw.2).bind λbU =>
 (idx bU s1.2).bind λdM =>
 (db dw.1 [dM]).bind λeR =>
 some (dw.1++[dM])
 else
 some dw.1)).bind λoj =>
 some oj).bind λeN =>
 some (.inl (eN,aK (dw.2+1)))
 else
 some (.inr dw.1))) (([]:List Int),0)).bind λcw =>
 (vS cw).bind λdP =>
 (b4 (R:=List ca) (λ(rz:List ca × Int) =>
 (bif decide (rz.2<(a0.dS.length:Int)) then
 ((idx a0.dS rz.2).bind λgA =>
 (idx gA s1.2).bind λea =>
 ((bif decide (0<=ea) then some (!decide (ea=dP)) else some false)).bind λqd =>
 ((bif qd then
 (db rz.1 [(⟨rz.2,ea⟩:ca)]).bind λcR =>
 some (rz.1++[(⟨rz.2,ea⟩:ca)])
 else
 some rz.1)).bind λxz =>
 some xz).bind λuh =>
 some (.inl (uh,aK (rz.2+1)))
 else
 some (.inr rz.1))) (([]:List ca),0)).bind λfI =>
 (db s1.1 [(⟨dP,fI⟩:Row)]).bind λff =>
 some (.inl (s1.1++[(⟨dP,fI⟩:Row)],aK (s1.2+1)))
 else
 some (.inr s1.1))) (([]:List Row),0)).bind λx2 =>
 some x2
def CT (a0:(List Row)):Option ((List Int) × (List (List ca))) :=
 (b4 (R:=List Int × List (List ca)) (λ(s1:List Int × List (List ca) × Int) =>
 (bif decide (s1.2.2<(a0.length:Int)) then
 (idx a0 s1.2.2).bind λbS =>
 (db s1.1 [bS.Def]).bind λbB =>
 (idx a0 s1.2.2).bind λbP =>
 (db s1.2.1 [bP.fB]).bind λb6 =>
 some (.inl (s1.1++[bS.Def],s1.2.1++[bP.fB],aK (s1.2.2+1)))
 else
 some (.inr (s1.1,s1.2.1)))) (([]:List Int),([]:List (List ca)),0)).bind λx2 =>
 some (x2.1,x2.2)
def J6 (a0:(List (List ca))):Option (Bool) :=
 (bif decide (400<(a0.length:Int)) then
 some false
 else
 (b4 (R:=(Unit) ⊕ (Bool)) (λ(s2:Int) =>
 (bif decide (s2<(a0.length:Int)) then
 (b4 (R:=(Unit) ⊕ (Bool)) (λ(du:List Int × Int) =>
 (idx a0 s2).bind λcp =>
 (bif decide (du.2<(cp.length:Int)) then
 (((idx a0 s2).bind λck=>((idx ck du.2).bind λek=>(bif decide (ek.At<0) then some true else ((idx a0 s2).bind λcc=>((idx cc du.2).bind λbU=>(bif decide (999<bU.At) then some true else ((idx a0 s2).bind λeR=>((idx eR du.2).bind λdP=>((x5 du.1 dP.At).bind λeB=>some eB)))))))))).bind λG7 =>
 (bif G7 then
 some (.inr (.inr false))
 else
 (idx a0 s2).bind λfL =>
 (idx fL du.2).bind λhs =>
 (db du.1 [hs.At]).bind λgA =>
 some (.inl (du.1++[hs.At],aK (du.2+1))))
 else
 some (.inr (.inl ())))) (([]:List Int),0)).bind λb6 =>
 (match b6 with
 | .inl cw =>
 some (.inl (aK (s2+1)))
 | .inr bI =>
 some (.inr (.inr bI)))
 else
 some (.inr (.inl ())))) 0).bind λa7 =>
 (match a7 with
 | .inl bq =>
 some true
 | .inr bS =>
 some bS))
def J7 (a0:(List Int)) (aE:(List ca)) (a2:Int):Option (Bool) :=
 (b4 (R:=(Unit) ⊕ (Bool)) (λ(s1:Int) =>
 (bif decide (s1<(aE.length:Int)) then
 (idx aE s1).bind λbB =>
 ((bif decide (aK (a2+bB.At)<(a0.length:Int)) then ((idx a0 (aK (a2+bB.At))).bind λb6=>some (!decide (b6=0))) else some false)).bind λoG =>
 (bif oG then
 some (.inr (.inr false))
 else
 some (.inl (aK (s1+1))))
 else
 some (.inr (.inl ())))) 0).bind λx2 =>
 (match x2 with
 | .inl a7 =>
 some true
 | .inr bq =>
 some bq)
def CU (a0:(List (List ca))):Option (fA) :=
 (J6 a0).bind λa8 =>
 (bif !a8 then
 some (⟨([]:List Int),([]:List Int),([]:List Int)⟩:fA)
 else
 (ni (a0.length:Int) 0).bind λa7 =>
 (ni (a0.length:Int) false).bind λbq =>
 (b4 (R:=(Unit) ⊕ (fA)) (λ(cn:fA × List Bool) =>
 (b4 (R:=Int) (λ(ib:Int × Int) =>
 (bif decide (ib.2<(a0.length:Int)) then
 ((((idx cn.2 ib.2).bind λek=>(bif !ek then ((idx a0 ib.2).bind λcc=>(bif decide (0<(cc.length:Int)) then (bif decide (ib.1<0) then some true else ((idx a0 ib.2).bind λeR=>((idx a0 ib.1).bind λdP=>some (decide ((dP.length:Int)<(eR.length:Int)))))) else some false)) else some false))).bind λq6 =>
 ((bif q6 then
 some ib.2
 else
 some ib.1)).bind λmz =>
 some mz).bind λiH =>
 some (.inl (iH,aK (ib.2+1)))
 else
 some (.inr ib.1))) ((-1),0)).bind λbI =>
 (bif decide (bI<0) then
 some (.inr (.inr cn.1))
 else
 (idx cn.2 bI).bind λhs =>
 (b4 (R:=List Int) (λ(oX:List Int) =>
 (idx a0 bI).bind λei =>
 (idx oX bI).bind λhT =>
 (J7 cn.1.b5 ei hT).bind λkZ =>
 (bif !kZ then
 (idx oX bI).bind λff =>
 some (.inl (oX.set bI.toNat (aK (ff+1))))
 else
 some (.inr oX))) cn.1.cS).bind λea =>
 (b4 (R:=List Int × List Int) (λ(dZ:List Int × List Int × Int) =>
 (idx a0 bI).bind λj2 =>
 (bif decide (dZ.2.2<(j2.length:Int)) then
 (idx ea bI).bind λgn =>
 (idx a0 bI).bind λrI =>
 (idx rI dZ.2.2).bind λjB =>
 (b4 (R:=List Int × List Int) (λ(kh:List Int × List Int) =>
 (bif decide ((kh.2.length:Int)<=aK (gn+jB.At)) then
 (db kh.2 [0]).bind λov =>
 (db kh.1 [0]).bind λnX =>
 some (.inl (kh.1++[0],kh.2++[0]))
 else
 some (.inr (kh.1,kh.2)))) (dZ.1,dZ.2.1)).bind λfM =>
 (idx a0 bI).bind λwc =>
 (idx wc dZ.2.2).bind λrJ =>
 (idx fM.2 (aK (gn+jB.At))).bind λDy =>
 (idx fM.1 (aK (gn+jB.At))).bind λwe =>
 some (.inl (fM.1.set (aK (gn+jB.At)).toNat rJ.b8,fM.2.set (aK (gn+jB.At)).toNat (aK (bI+1)),aK (dZ.2.2+1)))
 else
 some (.inr (dZ.1,dZ.2.1)))) (cn.1.b8,cn.1.b5,0)).bind λeo =>
 some (.inl ((⟨ea,eo.1,eo.2⟩:fA),cn.2.set bI.toNat true)))) ((⟨a7,([]:List Int),([]:List Int)⟩:fA),bq)).bind λbB =>
 (match bB with
 | .inl bP =>
 none
 | .inr b6 =>
 some b6))
def J3 (a0:bO):Option ((List ca)) :=
 (b4 (R:=List Int) (λ(s1:List Int × Int) =>
 (bif decide (s1.2<(a0.ba.length:Int)) then
 ((idx a0.ba s1.2).bind λbB =>
 ((bif decide (0<bB.bR) then
 (idx a0.ba s1.2).bind λcw =>
 (pS s1.1 cw.bR).bind λbI =>
 some bI
 else
 some s1.1)).bind λkS =>
 some kS).bind λkQ =>
 some (.inl (kQ,aK (s1.2+1)))
 else
 some (.inr s1.1))) (([]:List Int),0)).bind λx2 =>
 (b4 (R:=List ca) (λ(jz:List ca × Int) =>
 (bif decide (jz.2<(x2.length:Int)) then
 (b4 (R:=List ca) (λ(hZ:List ca × Int) =>
 (bif decide (hZ.2<(a0.ba.length:Int)) then
 ((idx a0.ba hZ.2).bind λdP =>
 (idx x2 jz.2).bind λeB =>
 ((bif decide (dP.bR=eB) then
 (idx x2 jz.2).bind λfL =>
 (db hZ.1 [(⟨fL,hZ.2⟩:ca)]).bind λhs =>
 some (hZ.1++[(⟨fL,hZ.2⟩:ca)])
 else
 some hZ.1)).bind λmz =>
 some mz).bind λe_ =>
 some (.inl (e_,aK (hZ.2+1)))
 else
 some (.inr hZ.1))) (jz.1,0)).bind λcc =>
 some (.inl (cc,aK (jz.2+1)))
 else
 some (.inr jz.1))) (([]:List ca),0)).bind λeF =>
 some eF
def J1 (a0:bO) (aE:gS):Option (Tables) :=
 (z8 aE).bind λa8 =>
 (CT a8).bind λx2 =>
 (CU x2.2).bind λa7 =>
 (z_ aE).bind λbq =>
 (CT bq).bind λbS =>
 (CU bS.2).bind λbB =>
 (b4 (R:=List Int × List Int) (λ(du:List Int × List Int × Int) =>
 (bif decide (du.2.2<(a0.bh.length:Int)) then
 (idx a0.bh du.2.2).bind λcp =>
 (db du.1 [cp.Left]).bind λeF =>
 (idx a0.bh du.2.2).bind λck =>
 (db du.2.1 [(ck.eI.length:Int)]).bind λek =>
 some (.inl (du.1++[cp.Left],du.2.1++[(ck.eI.length:Int)],aK (du.2.2+1)))
 else
 some (.inr (du.1,du.2.1)))) (([]:List Int),([]:List Int),0)).bind λb6 =>
 (J3 a0).bind λcO =>
 some (⟨x2.1,a7,bS.1,bB,b6.1,b6.2,cO⟩:Tables)
def xX (a0:(List ca)) (aE:Int):Option (Int × Bool) :=
 (b4 (R:=(Unit) ⊕ (Int × Bool)) (λ(s1:Int) =>
 (bif decide (s1<(a0.length:Int)) then
 (idx a0 s1).bind λbB =>
 (bif decide (bB.At=aE) then
 (idx a0 s1).bind λb6 =>
 some (.inr (.inr (b6.b8,true)))
 else
 some (.inl (aK (s1+1))))
 else
 some (.inr (.inl ())))) 0).bind λx2 =>
 (match x2 with
 | .inl a7 =>
 some (0,false)
 | .inr bq =>
 some (bq.1,bq.2))
def x0 (a0:Int):Option (Act) :=
 ((bif decide (1<=a0) then some (decide (a0<=20000)) else some false)).bind λc2 =>
 (bif c2 then
 some (⟨1,aK (a0 - 1)⟩:Act)
 else
 ((bif decide (a0<=(-1)) then some (decide ((-19999)<=a0)) else some false)).bind λkI =>
 (bif kI then
 some (⟨2,aK (-a0)⟩:Act)
 else
 (bif decide (a0=20001) then
 some (⟨3,0⟩:Act)
 else
 (bif decide (a0=20002) then
 some (⟨4,0⟩:Act)
 else
 some (⟨0,0⟩:Act)))))
def vO (a0:gS) (aE:(List Row)) (a2:Int) (a3:Int):Option (Act) :=
 ((bif decide (a2<0) then some true else some (decide ((aE.length:Int)<=a2)))).bind λc2 =>
 (bif c2 then
 some (⟨0,0⟩:Act)
 else
 (idx aE a2).bind λbq =>
 (xX bq.fB a3).bind λbS =>
 (bif bS.2 then
 (x0 bS.1).bind λbP =>
 some bP
 else
 (idx aE a2).bind λb6 =>
 (bif decide (0<=b6.Def) then
 (idx aE a2).bind λbI =>
 some (⟨2,bI.Def⟩:Act)
 else
 some (⟨0,0⟩:Act))))
def Ad (a0:o6) (aE:Int) (a2:Int):Option (Bool) :=
 (Al ).bind λa8 =>
 (bif !a8 then
 some false
 else
 (xR a0).bind λa7 =>
 (s0 a7).bind λbq =>
 (bif !bq.2.2.2 then
 some true
 else
 (vK bq.1 bq.2.1).bind λbB =>
 (z8 bq.2.1).bind λbP =>
 (b4 (R:=(Unit) ⊕ (Bool)) (λ(dw:Int) =>
 (bif decide (dw<=(bq.2.1.cP.length:Int)) then
 (b4 (R:=(Unit) ⊕ (Bool)) (λ(fq:Int) =>
 (bif decide (fq<=aK ((bq.1.ba.length:Int)+2)) then
 (pR bB dw fq).bind λdM =>
 (vO bq.2.1 bP dw fq).bind λeR =>
 (bif !(decide (dM.Kind=eR.Kind)&&(decide (dM.N=eR.N)&&true)) then
 some (.inr (.inr false))
 else
 some (.inl (aK (fq+1))))
 else
 some (.inr (.inl ())))) (-2)).bind λek =>
 (match ek with
 | .inl cO =>
 (pR bB dw a2).bind λeB =>
 (vO bq.2.1 bP dw a2).bind λfI =>
 (bif !(decide (eB.Kind=fI.Kind)&&(decide (eB.N=fI.N)&&true)) then
 some (.inr (.inr false))
 else
 some (.inl (aK (dw+1))))
 | .inr cc =>
 some (.inr (.inr cc)))
 else
 some (.inr (.inl ())))) (-1)).bind λcw =>
 (match cw with
 | .inl bI =>
 (pR bB aE a2).bind λfL =>
 (vO bq.2.1 bP aE a2).bind λhs =>
 some (decide (fL.Kind=hs.Kind)&&(decide (fL.N=hs.N)&&true))
 | .inr cp =>
 some cp)))
def J5 (a0:o6) (aE:Int) (a2:Int):Option (Bool) :=
 (Al ).bind λa8 =>
 (bif !a8 then
 some false
 else
 (xR a0).bind λa7 =>
 (s0 a7).bind λbq =>
 (bif !bq.2.2.2 then
 some true
 else
 (vK bq.1 bq.2.1).bind λbB =>
 (z_ bq.2.1).bind λbP =>
 (b4 (R:=(Unit) ⊕ (Bool)) (λ(dw:Int) =>
 (bif decide (dw<=(bP.length:Int)) then
 (b4 (R:=List Int) (λ(fq:List Int × Int) =>
 (bif decide (fq.2<(bq.2.1.cP.length:Int)) then
 (db fq.1 [fq.2]).bind λbU =>
 some (.inl (fq.1++[fq.2],aK (fq.2+1)))
 else
 some (.inr fq.1))) ([aE,(-1),(bq.2.1.cP.length:Int)],0)).bind λek =>
 (b4 (R:=(Unit) ⊕ (Bool)) (λ(oW:Int) =>
 (bif decide (oW<(ek.length:Int)) then
 ((bif decide (0<=dw) then some (decide (dw<(bP.length:Int))) else some false)).bind λqc =>
 ((bif qc then
 (idx bP dw).bind λea =>
 (idx ek oW).bind λcY =>
 (xX ea.fB cY).bind λei =>
 (idx bP dw).bind λhT =>
 ((bif ei.2 then
 some ei.1
 else
 some hT.Def)).bind λuj =>
 some uj
 else
 some (-1))).bind λuh =>
 (idx ek oW).bind λff =>
 (uv bB ff dw).bind λki =>
 (bif !decide (ki=uh) then
 some (.inr (.inr false))
 else
 some (.inl (aK (oW+1))))
 else
 some (.inr (.inl ())))) 0).bind λeR =>
 (match eR with
 | .inl dP =>
 some (.inl (aK (dw+1)))
 | .inr eB =>
 some (.inr (.inr eB)))
 else
 some (.inr (.inl ())))) (-1)).bind λcw =>
 (match cw with
 | .inl bI =>
 ((bif decide (0<=a2) then (bif decide (a2<(bP.length:Int)) then some true else ((uv bB aE a2).bind λc0=>some (decide (c0=(-1))))) else ((uv bB aE a2).bind λgn=>some (decide (gn=(-1)))))).bind λR0 =>
 some R0
 | .inr cp =>
 some cp)))
end Go.Proofs
namespace Go.Own
open Go
variable {α β S R:Type}
abbrev hK (p:S->Prop) (q:R->Prop) (x:S ⊕ R):Prop:=Sum.elim p q x
def Tot (x:Option α) (Φ:α->Prop):Prop:=∃ a,x=some a/\Φ a
namespace Tot
variable {Φ Ψ:α->Prop}
theorem aq {a:α}(h:Φ a):Tot (some a) Φ:=⟨a,rfl,h⟩
theorem bi {x:Option β}{f:β->Option α}(h:Tot x λa=>Tot (f a) Φ):Tot (x.bind f) Φ:=by
 obtain ⟨a,rfl,b,av,nO⟩:=h;exact ⟨b,av,nO⟩
theorem aV {f:β->Option α}{a:β}(h:Tot (f a) Φ):Tot ((some a).bind f) Φ:=h
theorem use {x:Option α}(h:Tot x Ψ) (hi:∀ a,Ψ a->Φ a):Tot x Φ:=by
 obtain ⟨a,aP,Je⟩:=h;exact ⟨a,aP,hi a Je⟩
theorem aB {x:Option β}{f:β->Option α}{Ξ:β->Prop}(h:Tot x Ξ) (hk:∀ a,Ξ a->Tot (f a) Φ):Tot (x.bind f) Φ:=bi (h.use hk)
theorem bF {c:Bool}{a b:Option α}(aw:c=true->Tot a Φ) (aW:c=false->Tot b Φ):Tot (cond c a b) Φ:=by
 grind
theorem br {p:Prop} [Decidable p] {a b:Option α}(aw:p->Tot a Φ) (aW:¬ p->Tot b Φ):Tot (cond (decide p) a b) Φ:=by grind
theorem qe {p:Prop} [Decidable p] {a b:Option α}(aw:¬ p->Tot a Φ) (aW:p->Tot b Φ):Tot (cond (!decide p) a b) Φ:=by grind
theorem hj {l:List α}{i:Int}(aR:0<=i) (h1:i<l.length) (hk:∀ y,idx l i=some y->y∈l->Φ y):Tot (idx l i) Φ:=by
 have aT:i.toNat<l.length:=by omega
 have:idx l i=some l[i.toNat]:=by simp [idx,aR,aT]
 exact ⟨_,this,hk _ this (List.getElem_mem aT)⟩
theorem ap {Φ:List α->Prop}{l m:List α}(h:l.length+m.length<=lim) (hk:Φ (l++m)):Tot (db l m) Φ:=by
 refine ⟨l++m,?_,hk⟩
 grind [db]
theorem loop {f:S->Option (S ⊕ R)}{e0:S}{Ψ:R->Prop}(Inv:S->Prop) (uN:S->Nat) (aR:Inv e0) (Jf:uN e0<fuel)
  (aC:∀ s,Inv s->Tot (f s) (hK (λcT=>Inv cT/\uN cT<uN s) Ψ)):Tot (b4 f e0) Ψ:=by
 have key:∀ n s,Inv s->uN s<n->Tot (iter f n s) Ψ:=by
  intro n
  induction n with
  | zero=>intro s _ h; omega
  | succ n aU =>
   intro s bf hm;obtain ⟨x,J,cx⟩:=aC s bf;cases x with
   | inl cT =>
    grind [iter]
   | inr r =>
    simp only [iter,J];exact ⟨r,rfl,cx⟩
 exact key fuel e0 aR Jf
theorem count {f:S->Option (S ⊕ R)}{e0:S}{Ψ:R->Prop}(i:S->Int) (n:Int) (Inv:S->Prop) (aR:Inv e0) (aF:n - i e0<1000000000000000000)
  (aC:∀ s,Inv s->Tot (f s) (hK (λcT=>Inv cT/\i s<i cT/\i cT<=n) Ψ)):Tot (b4 f e0) Ψ:=by
 refine loop Inv (λs=>(n - i s).toNat) aR (by show (n - i e0).toNat<1000000000000000000; omega) λs bf=>(aC s bf).use λx J=>?_
 grind
end Tot
theorem cI (n:Int):aK n=(n+9223372036854775808) % 18446744073709551616 - 9223372036854775808:=IntKind.wrap_i64 n
namespace Tot
theorem cat {Φ:ByteArray->Prop}{s u:ByteArray}(h:s.size+u.size<=4611686018427387904) (hk:Φ (s++u)):Tot (tA s u) Φ:=by
 refine ⟨s++u,?_,hk⟩
 grind [tA]
theorem cut {Φ:ByteArray->Prop}{s:ByteArray}{m n:Int}(h:0<=m/\m<=n/\n<=s.size) (hk:Φ (rR s m n)):Tot (q7 s m n) Φ:=by
 refine ⟨_,?_,hk⟩
 grind [q7]
theorem n_ {Φ:Int->Prop}{s:ByteArray}{m:Int}(h:0<=m/\m<s.size) (hk:Φ (lB s m)):Tot (kp s m) Φ:=by
 refine ⟨_,?_,hk⟩
 grind [kp]
theorem sub {Φ:List α->Prop}{l:List α}{m n:Int}(h:0<=m/\m<=n/\n<=l.length) (hk:Φ ((l.drop m.toNat).take (n - m).toNat)):Tot (nV l m n) Φ:=by
 refine ⟨_,?_,hk⟩
 grind [nV]
theorem rem {Φ:Int->Prop}{m n:Int}(h:n≠0) (hk:Φ (m.tmod n)):Tot (rv m n) Φ:=by
 refine ⟨_,?_,hk⟩
 grind [rv]
theorem quo {Φ:Int->Prop}{m n:Int}(h:n≠0) (hk:Φ (aK (m.tdiv n))):Tot (FC m n) Φ:=by
 refine ⟨_,?_,hk⟩
 grind [FC]
theorem ry {Φ:Int->Prop}{m n:Int}(h:n≠0) (hk:Φ (m.tmod n)):Tot (Own.ry m n) Φ:=by
 refine ⟨_,?_,hk⟩
 grind [Own.ry]
theorem rr {Φ:Int->Prop}{m n:Int}(h:n≠0) (hk:Φ (IntKind.u64.wrap (m.tdiv n))):Tot (Own.rr m n) Φ:=by
 refine ⟨_,?_,hk⟩
 grind [Own.rr]
theorem mk {Φ:List α->Prop}{m:Int}{z:α}(h:0<=m/\m<=lim) (hk:Φ (List.replicate m.toNat z)):Tot (ni m z) Φ:=by
 refine ⟨_,?_,hk⟩
 grind [ni]
theorem eq {x:Option α}{Φ:α->Prop}{a:α}(h:Tot x Φ) (e:x=some a):Φ a:=by
 obtain ⟨b,av,nO⟩:=h
 grind
theorem ex {x:Option α}{Φ:α->Prop}(h:Tot x Φ):∃ a,x=some a/\Φ a:=h
end Tot
namespace Tot
theorem scan {f:Int->Option (Int ⊕ (Unit ⊕ R))}(l:List β) (P:β->Prop) (Q:R->Prop) (ak:l.length<=100000000000000000)
  (aC:∀ (s:Int) (y:β),0<=s->s<l.length->idx l s=some y->y∈l->Tot (f s) (hK (λcT=>cT=s+1/\P y) (hK (λ_=>False) Q)))
  (he:∀ s:Int,¬ s<l.length->f s=some (.inr (.inl ()))):Tot (b4 f 0) (hK (λ_=>∀ y∈l,P y) Q):=by
 refine count (λs=>s) l.length (λs=>0<=s/\s<=l.length/\∀ (j:Nat) (y:β),(j:Int)<s->l[j]?=some y->P y) ⟨by omega,by omega,λj y h=>by omega⟩ (by show (l.length:Int) - 0<_; omega) λs bf=>?_;obtain ⟨aR,h1,af⟩:=bf;by_cases aT:s<l.length
 ·have mX:s.toNat<l.length:=by omega
  have hi:idx l s=some l[s.toNat]:=by simp [idx,aR,mX]
  refine (aC s _ aR aT hi (List.getElem_mem mX)).use λx J=>?_;rcases x with cT | ⟨⟨⟩⟩ | r
  ·obtain ⟨rfl,cx⟩:=J
   grind
  ·grind
  grind
 ·rw [he s aT];refine aq λy ax=>?_;obtain ⟨j,ah,rfl⟩:=List.mem_iff_getElem.1 ax;exact af j _ (by omega) (List.getElem?_eq_getElem ah)
end Tot
end Go.Own
namespace Go.Own
open Go
variable {α β S R:Type}
def Par (x:Option α) (Φ:α->Prop):Prop:=∀ a,x=some a->Φ a
set_option linter.unusedVariables false
namespace Par
variable {Φ Ψ:α->Prop}
theorem aq {a:α}(h:Φ a):Par (some a) Φ:=λb e=>by cases e; exact h
theorem no:Par (none:Option α) Φ:=λb e=>by cases e
theorem use {x:Option α}(h:Par x Ψ) (hi:∀ a,Ψ a->Φ a):Par x Φ:=λa e=>hi a (h a e)
theorem aB {x:Option β}{f:β->Option α}{Ξ:β->Prop}(h:Par x Ξ) (hk:∀ a,Ξ a->Par (f a) Φ):Par (x.bind f) Φ:=λa e=>by
 cases x with
 | none=>cases e
 | some b=>exact hk b (h b rfl) a e
theorem go {x:Option β}{f:β->Option α}(hk:∀ a,x=some a->Par (f a) Φ):Par (x.bind f) Φ:=λa e=>by
 cases x with
 | none=>cases e
 | some b=>exact hk b rfl a e
theorem bF {c:Bool}{a b:Option α}(aw:c=true->Par a Φ) (aW:c=false->Par b Φ):Par (cond c a b) Φ:=by
 cases c
 ·exact aW rfl
 ·exact aw rfl
theorem br {p:Prop} [Decidable p] {a b:Option α}(aw:p->Par a Φ) (aW:¬ p->Par b Φ):Par (cond (decide p) a b) Φ :=
 bF (λh=>aw (of_decide_eq_true h)) (λh=>aW (of_decide_eq_false h))
theorem qe {p:Prop} [Decidable p] {a b:Option α}(aw:¬ p->Par a Φ) (aW:p->Par b Φ):Par (cond (!decide p) a b) Φ :=
 bF (λh=>aw (of_decide_eq_false (by simpa using h))) (λh=>aW (of_decide_eq_true (by simpa using h)))
theorem ap {l m:List β}{f:List β->Option α}(hk:l.length+m.length<=lim->Par (f (l++m)) Φ):Par ((db l m).bind f) Φ:=by
 unfold db;split
 ·rename_i h; exact hk h
 ·exact no
theorem cat {s u:ByteArray}{f:ByteArray->Option α}(hk:Par (f (s++u)) Φ):Par ((tA s u).bind f) Φ:=by
 unfold tA;split
 ·exact hk
 ·exact no
theorem loop {f:S->Option (S ⊕ R)}{e0:S}{Ψ:R->Prop}(Inv:S->Prop) (aR:Inv e0) (aC:∀ s,Inv s->Par (f s) (hK Inv Ψ)):Par (b4 f e0) Ψ:=by
 have key:∀ n s,Inv s->Par (iter f n s) Ψ:=by
  intro n
  induction n with
  | zero=>intro s _ a e; cases e
  | succ n aU =>
   intro s bf a e;simp only [iter] at e;cases J:f s with
   | none=>rw [J] at e; cases e
   | some x =>
    have cx:=aC s bf x J;rw [J] at e;cases x with
    | inl cT=>exact aU cT cx a e
    | inr r=>cases e; exact cx
 exact key fuel e0 aR
theorem ji {x:Option α}(h:Tot x Φ) (aQ:Par x Ψ):Tot x λa=>Φ a/\Ψ a:=by
 obtain ⟨a,aP,nO⟩:=h;exact ⟨a,aP,nO,aQ a aP⟩
theorem of {x:Option α}(h:Tot x Φ):Par x Φ:=λa e=>h.eq e
theorem scan {f:Int->Option (Int ⊕ (Unit ⊕ R))}(l:List β) (ak:l.length<=100000000000000000) (P:β->Prop) (Q:R->Prop)
  (aC:∀ (s:Int) (y:β),0<=s->s<l.length->idx l s=some y->y∈l->Par (f s) (hK (λcT=>cT=s+1/\P y) (hK (λ_=>False) Q)))
  (he:∀ s:Int,¬ s<l.length->f s=some (.inr (.inl ()))):Par (b4 f 0) (hK (λ_=>∀ y∈l,P y) Q):=by
 refine loop (λs=>0<=s/\s<=l.length/\∀ (j:Nat) (y:β),(j:Int)<s->l[j]?=some y->P y) ⟨by omega,by omega,λj y h=>by omega⟩ λs bf=>?_;obtain ⟨aR,h1,af⟩:=bf;by_cases aT:s<l.length
 ·have mX:s.toNat<l.length:=by omega
  have hi:idx l s=some l[s.toNat]:=by simp [idx,aR,mX]
  refine (aC s _ aR aT hi (List.getElem_mem mX)).use λx J=>?_;rcases x with cT | ⟨⟨⟩⟩ | r
  ·obtain ⟨rfl,cx⟩:=J;refine ⟨by omega,by omega,λj y ah ax=>?_⟩;by_cases Ey:(j:Int)<s
   ·exact af j y Ey ax
   ·have:j=s.toNat:=by omega
    subst this;rw [List.getElem?_eq_getElem mX] at ax;cases ax; exact cx
  ·exact J.elim
  ·exact J
 ·rw [he s aT];refine aq λy ax=>?_;obtain ⟨j,ah,rfl⟩:=List.mem_iff_getElem.1 ax;exact af j _ (by omega) (List.getElem?_eq_getElem ah)
end Par
end Go.Own
namespace Go.Own
open Go
variable {α β S R:Type}
namespace Tot
theorem upto {f:S->Option (S ⊕ R)}{e0:S}{Ψ:R->Prop}(i:S->Int) (n:Nat) (Inv:Nat->S->Prop) (hi:i e0=0) (aF:n<=100000000000000000) (aR:Inv 0 e0)
  (aC:∀ (k:Nat) (s:S),k<=n->i s=(k:Int)->Inv k s->Tot (f s) (hK (λcT=>k<n/\i cT=((k+1:Nat):Int)/\Inv (k+1) cT) Ψ)):Tot (b4 f e0) Ψ:=by
 refine count i n (λs=>∃ k:Nat,k<=n/\i s=(k:Int)/\Inv k s) ⟨0,Nat.zero_le _,hi,aR⟩ (by rw [hi]; omega) λs ⟨k,hk,he,bf⟩=>(aC k s hk he bf).use λx J=>?_;rcases x with cT | r
 ·obtain ⟨h1,af,aI⟩:=J;exact ⟨⟨k+1,by omega,af,aI⟩,by omega,by omega⟩
 ·exact J
end Tot
namespace Par
theorem upto {f:S->Option (S ⊕ R)}{e0:S}{Ψ:R->Prop}(i:S->Int) (n:Nat) (Inv:Nat->S->Prop) (hi:i e0=0) (aR:Inv 0 e0)
  (aC:∀ (k:Nat) (s:S),k<=n->i s=(k:Int)->Inv k s->Par (f s) (hK (λcT=>k<n/\i cT=((k+1:Nat):Int)/\Inv (k+1) cT) Ψ)):Par (b4 f e0) Ψ:=by
 refine loop (λs=>∃ k:Nat,k<=n/\i s=(k:Int)/\Inv k s) ⟨0,Nat.zero_le _,hi,aR⟩ λs ⟨k,hk,he,bf⟩=>(aC k s hk he bf).use λx J=>?_;rcases x with cT | r
 ·obtain ⟨h1,af,aI⟩:=J;exact ⟨k+1,by omega,af,aI⟩
 ·exact J
end Par
theorem eQ (k:Nat) (h:k<=1000000000000000000):aK ((k:Int)+1)=((k+1:Nat):Int):=by rw [cI]; omega
end Go.Own
namespace Go.Own
open Go
variable {α β AM AN S T R Q:Type}
def Rel (x:Option α) (y:Option β) (Φ:α->β->Prop):Prop:=∃ a b,x=some a/\y=some b/\Φ a b
abbrev Lb (p:S->T->Prop) (q:R->Q->Prop):S ⊕ R->T ⊕ Q->Prop
 | .inl a,.inl b=>p a b
 | .inr a,.inr b=>q a b
 | _,_=>False
namespace Rel
variable {Φ Ψ:α->β->Prop}
theorem aq {a:α}{b:β}(h:Φ a b):Rel (some a) (some b) Φ:=⟨a,b,rfl,rfl,h⟩
theorem use {x:Option α}{y:Option β}(h:Rel x y Ψ) (hi:∀ a b,Ψ a b->Φ a b):Rel x y Φ:=by
 obtain ⟨a,b,aP,av,Je⟩:=h;exact ⟨a,b,aP,av,hi a b Je⟩
theorem aB {x:Option AM}{y:Option AN}{f:AM->Option α}{g:AN->Option β}{Ξ:AM->AN->Prop}(h:Rel x y Ξ) (hk:∀ a b,Ξ a b->Rel (f a) (g b) Φ):Rel (x.bind f) (y.bind g) Φ:=by
 obtain ⟨a,b,rfl,rfl,Cd⟩:=h;exact hk a b Cd
theorem l {x:Option AM}{y:Option β}{f:AM->Option α}{Ξ:AM->Prop}(h:Tot x Ξ) (hk:∀ a,Ξ a->Rel (f a) y Φ):Rel (x.bind f) y Φ:=by
 obtain ⟨a,rfl,Cd⟩:=h;exact hk a Cd
theorem r {x:Option α}{y:Option AN}{g:AN->Option β}{Ξ:AN->Prop}(h:Tot y Ξ) (hk:∀ a,Ξ a->Rel x (g a) Φ):Rel x (y.bind g) Φ:=by
 obtain ⟨a,rfl,Cd⟩:=h;exact hk a Cd
theorem bF {c d:Bool}{a b:Option α}{b' eC:Option β}(aa:c=d) (aw:c=true->Rel a b' Φ) (aW:c=false->Rel b eC Φ):Rel (cond c a b) (cond d b' eC) Φ:=by
 subst aa;cases c
 ·exact aW rfl
 ·exact aw rfl
theorem cl {c:Bool}{a b:Option α}{y:Option β}(aw:c=true->Rel a y Φ) (aW:c=false->Rel b y Φ):Rel (cond c a b) y Φ:=by
 cases c
 ·exact aW rfl
 ·exact aw rfl
theorem ji {x:Option α}{y:Option β}{P:α->Prop}{Q:β->Prop}(h:Tot x P) (aQ:Tot y Q) (hi:∀ a b,P a->Q b->Φ a b):Rel x y Φ:=by
 obtain ⟨a,aP,cx⟩:=h;obtain ⟨b,av,dO⟩:=aQ;exact ⟨a,b,aP,av,hi a b cx dO⟩
theorem fst {x:Option α}{y:Option β}(h:Rel x y Φ):Tot x λa=>∃ b,y=some b/\Φ a b:=by
 obtain ⟨a,b,aP,av,nO⟩:=h;exact ⟨a,aP,b,av,nO⟩
theorem loop {f:S->Option (S ⊕ R)}{g:T->Option (T ⊕ Q)}{e0:S}{t0:T}{Ψ:R->Q->Prop}(Inv:S->T->Prop) (uN:S->Nat) (aR:Inv e0 t0) (Jf:uN e0<fuel)
  (aC:∀ s t,Inv s t->Rel (f s) (g t) (Lb (λcT t'=>Inv cT t'/\uN cT<uN s) Ψ)):Rel (b4 f e0) (b4 g t0) Ψ:=by
 have key:∀ n s t,Inv s t->uN s<n->Rel (iter f n s) (iter g n t) Ψ:=by
  intro n
  induction n with
  | zero=>intro s t _ h; omega
  | succ n aU =>
   intro s t bf hm;obtain ⟨x,y,J,ax,cx⟩:=aC s t bf;rcases x with cT | r <;> rcases y with t' | q
   ·obtain ⟨h1,af⟩:=cx;simp only [iter,J,ax];exact aU cT t' h1 (by omega)
   ·exact cx.elim
   ·exact cx.elim
   ·simp only [iter,J,ax];exact ⟨r,q,rfl,rfl,cx⟩
 exact key fuel e0 t0 aR Jf
theorem upto {f:S->Option (S ⊕ R)}{g:T->Option (T ⊕ Q)}{e0:S}{t0:T}{Ψ:R->Q->Prop}(i:S->Int) (n:Nat) (Inv:Nat->S->T->Prop) (hi:i e0=0) (aF:n<=100000000000000000) (aR:Inv 0 e0 t0)
  (aC:∀ (k:Nat) (s:S) (t:T),k<=n->i s=(k:Int)->Inv k s t->Rel (f s) (g t) (Lb (λcT t'=>k<n/\i cT=((k+1:Nat):Int)/\Inv (k+1) cT t') Ψ)):Rel (b4 f e0) (b4 g t0) Ψ:=by
 refine loop (λs t=>∃ k:Nat,k<=n/\i s=(k:Int)/\Inv k s t) (λs=>(n - (i s).toNat)) ⟨0,Nat.zero_le _,hi,aR⟩ (by rw [hi]; show n - 0<1000000000000000000; omega) λs t ⟨k,hk,he,bf⟩=>(aC k s t hk he bf).use λx y EO=>?_;rcases x with cT | r <;> rcases y with t' | q
 ·obtain ⟨h1,af,aI⟩:=EO;refine ⟨⟨k+1,by omega,af,aI⟩,?_⟩;show n - (i cT).toNat<n - (i s).toNat;rw [af,he]; omega
 ·exact EO
 ·exact EO
 ·exact EO
end Rel
end Go.Own

namespace Go.Proofs
open Tryz
open Go Go.Own
set_option maxRecDepth 100000
set_option linter.unusedVariables false
theorem t149 (c:Int):Tot (CM c) λ_=>True:=by
 unfold CM
 repeat' first | apply Tot.bi | refine Tot.bF (λ_=>?_) (λ_=>?_) | exact Tot.aq trivial | apply Tot.aq
theorem t150 (c:Int):Tot (CN c) λ_=>True:=by
 unfold CN
 repeat' first | apply Tot.bi | refine Tot.bF (λ_=>?_) (λ_=>?_) | exact Tot.aq trivial | apply Tot.aq
theorem t148 (c:Int):Tot (z7 c) λ_=>True:=by
 unfold z7
 repeat' first | apply Tot.bi | refine Tot.bF (λ_=>?_) (λ_=>?_) | exact Tot.aq trivial | apply Tot.aq
theorem t145 (x:Sym):Tot (uu x) λr=>r=true->x.Name=⟨#[]⟩/\x.Lit=false:=by
 unfold uu;apply Tot.bi;refine Tot.br (λh=>Tot.bF (λaf=>?_) (λaf=>?_)) (λh=>?_) <;> apply Tot.aq <;> apply Tot.aq
 ·exact λ_=>⟨h,by simpa using af⟩
 ·exact λh=>by cases h
 ·exact λh=>by cases h
abbrev dK:Nat:=1000000000000
theorem t144 (s:ByteArray) (h:s.size<=dK):Tot (CL s 0) λn=>0<=n/\n<=s.size:=by
 unfold CL;refine Tot.aB (Ξ:=λn=>0<=n/\n<=s.size) ?_ λa aP=>.aq aP;refine Tot.count (λi=>i) s.size (λi=>0<=i/\i<=s.size) ⟨by omega,by omega⟩ (by show (s.size:Int) - 0<_; simp only [dK] at h; omega) λi ⟨aR,h1⟩=>?_;simp only [dK] at h;have e:aK (0+i)=i:=by rw [cI]; omega
 rw [e];have go:∀ c:Bool,(c=true->i<s.size)->Tot (bif c then some (.inl (aK (i+1))) else some (.inr i)) (hK (λcT:Int=>(0<=cT/\cT<=s.size)/\i<cT/\cT<=s.size) (λr:Int=>0<=r/\r<=s.size)):=by
  intro c aa;refine Tot.bF (λaf=>.aq ?_) (λ_=>.aq ⟨aR,h1⟩);have:=aa af;have e:aK (i+1)=i+1:=by rw [cI]; omega
  show (0<=aK (i+1)/\aK (i+1)<=s.size)/\i<aK (i+1)/\aK (i+1)<=s.size;rw [e]; omega
 apply Tot.bi;refine Tot.br (λaf=>?_) (λaf=>.aq (go false (by simp)));apply Tot.bi;refine Tot.n_ ⟨aR,af⟩ (Tot.aB (t149 _) λc _=>?_);refine Tot.bF (λ_=>.aq (go _ λ_=>af)) (λ_=>Tot.bF (λ_=>?_) (λ_=>.aq (go _ λ_=>af)));apply Tot.bi;refine Tot.n_ ⟨aR,af⟩ (Tot.aB (t150 _) λc _=>?_);refine Tot.bF (λ_=>.aq (go _ λ_=>af)) (λ_=>?_);apply Tot.bi;exact Tot.n_ ⟨aR,af⟩ (.aq (go _ λ_=>af))
theorem t134 (s:ByteArray) (h:s.size<=dK):Tot (vL s) λr=>r=true->1<=s.size/\s.size<=20:=by
 unfold vL;apply Tot.bi;refine Tot.br (λh1=>Tot.br (λaf=>?_) (λaf=>?_)) (λh1=>?_)
 ·exact .aB (t144 s h) λn aF=>.aq (.aq λ_=>by omega)
 ·exact .aq (.aq λh=>by cases h)
 ·exact .aq (.aq λh=>by cases h)
theorem t152 (s:ByteArray) (i:Int) (t:ByteArray) (h:s.size<=dK) (aR:0<=i) (h1:i<=4 * dK) (aw:t.size<=dK):Tot (xW s i t) λr=>r=true->i+t.size<=s.size:=by
 unfold xW;simp only [dK] at *;apply Tot.bi;refine Tot.br (λaf=>?_) (λaf=>.aq (.aq λh=>by cases h));apply Tot.bi;rw [cI] at af;have e:aK (i+t.size)=i+t.size:=by rw [cI]; omega
 refine Tot.cut (by rw [e]; omega) (.aq (.aq λ_=>by omega))
theorem t151 (s:ByteArray) (i:Int) (h:s.size<=dK) (aR:0<=i) (h1:i<s.size):Tot (CO s i) λr=>r<=s.size:=by
 unfold CO;have av:(s.size:Int)<=1000000000000:=by simp only [dK] at h; omega
 have cA:aK (i+1)=i+1:=by rw [cI]; omega
 have cf:aK (i+2)=i+2:=by rw [cI]; omega
 rw [cA,cf];have w6:=Tot.n_ (Φ:=λ_=>True) (s:=s) (m:=i) ⟨aR,h1⟩ trivial;refine Tot.aB (Ξ:=λ_=>True) ?_ λc _=>Tot.bF (λ_=>?_) (λ_=>?_)
 ·refine Tot.aB w6 λ_ _=>Tot.bF (λ_=>.aq trivial) (λ_=>Tot.aB w6 λ_ _=>.aq trivial)
 ·refine Tot.aB (Ξ:=hK (λ_=>True) (λr=>r<=s.size)) ?_ λx J=>?_
  ·refine Tot.count (λj=>j) (s.size+1) (λj=>0<=j) (by show (0:Int)<=i+1; omega) (by show (s.size:Int)+1 - (i+1)<_; omega) λj ah=>?_;refine Tot.aB (Ξ:=λc=>c=true->j<s.size) ?_ λc aa=>Tot.bF (λaf=>?_) (λ_=>.aq trivial)
   ·refine Tot.br (λaf=>?_) (λ_=>.aq λh=>by cases h);exact .aB (Ξ:=λ_=>True) (Tot.n_ ⟨ah,af⟩ trivial) λ_ _=>.aq λ_=>af
   ·have Vj:=aa af;have w4:=Tot.n_ (Φ:=λ_=>True) (s:=s) (m:=j) ⟨ah,Vj⟩ trivial;have fP:aK (j+1)=j+1:=by rw [cI]; omega
    have mR:aK (j+1+1)=j+1+1:=by rw [cI]; omega
    rw [fP,mR];refine .aB w4 λ_ _=>.aB w6 λ_ _=>Tot.bF (λ_=>.aq ?_) (λ_=>.aB w4 λ_ _=>Tot.bF (λ_=>?_) (λ_=>.aq ?_))
    ·show j+1<=s.size; omega
    ·refine Tot.aB (Ξ:=λ_=>True) ?_ λc _=>Tot.bF (λ_=>.aq ?_) (λ_=>.aq ?_)
     ·refine Tot.br (λaI=>?_) (λ_=>.aq trivial);exact .aB (Ξ:=λ_=>True) (Tot.n_ ⟨by omega,aI⟩ trivial) λ_ _=>.aq trivial
     ·show (-1:Int)<=s.size; omega
     ·show (0:Int)<=j+1+1/\j<j+1+1/\j+1+1<=s.size+1; omega
    ·show (0:Int)<=j+1/\j<j+1/\j+1<=s.size+1; omega
  ·rcases x with _ | r
   ·exact .aq (by show (-1:Int)<=s.size; omega)
   ·exact .aq J
 ·refine .aB w6 λ_ _=>Tot.bF (λ_=>?_) (λ_=>?_)
  ·refine Tot.aB (Ξ:=hK (λ_=>True) (λr=>r<=s.size)) ?_ λx J=>?_
   ·refine Tot.count (λj=>j) (s.size+1) (λj=>0<=j) (by show (0:Int)<=i+1; omega) (by show (s.size:Int)+1 - (i+1)<_; omega) λj ah=>?_;refine Tot.br (λaf=>?_) (λ_=>.aq trivial);have fP:aK (j+1)=j+1:=by rw [cI]; omega
    rw [fP];refine .aB (Ξ:=λ_=>True) (Tot.n_ ⟨ah,af⟩ trivial) λ_ _=>Tot.bF (λ_=>.aq ?_) (λ_=>.aq ?_)
    ·show j+1<=s.size; omega
    ·show (0:Int)<=j+1/\j<j+1/\j+1<=s.size+1; omega
   ·rcases x with _ | r
    ·exact .aq (by show (-1:Int)<=s.size; omega)
    ·exact .aq J
  ·refine .aB (t152 s i _ h aR (by simp only [dK]; omega) (by decide)) λc _=>Tot.bF (λ_=>?_) (λ_=>?_)
   ·refine Tot.aB (Ξ:=λr=>r<=s.size) ?_ λx J=>.aq J;refine Tot.count (λj=>j) s.size (λj=>0<=j/\j<=s.size) ⟨aR,by omega⟩ (by show (s.size:Int) - i<_; omega) λj ah=>?_;refine Tot.aB (Ξ:=λc=>c=true->j<s.size) ?_ λc aa=>Tot.bF (λaf=>?_) (λ_=>.aq ah.2)
    ·refine Tot.br (λaf=>?_) (λ_=>.aq λh=>by cases h);exact .aB (Ξ:=λ_=>True) (Tot.n_ ⟨ah.1,af⟩ trivial) λ_ _=>.aq λ_=>af
    ·have:=aa af;have fP:aK (j+1)=j+1:=by rw [cI]; omega
     rw [fP];exact .aq (by show ((0:Int)<=j+1/\j+1<=s.size)/\j<j+1/\j+1<=s.size; omega)
   ·refine .aB (t152 s i _ h aR (by simp only [dK]; omega) (by decide)) λc aa=>Tot.bF (λiq=>?_) (λ_=>.aq (by omega));refine Tot.aB (Ξ:=hK (λ_=>True) (λr=>r<=s.size)) ?_ λx J=>?_
    ·refine Tot.count (λj=>j) (s.size+1) (λj=>0<=j) (by show (0:Int)<=i+2; omega) (by show (s.size:Int)+1 - (i+2)<_; omega) λj ah=>?_;refine Tot.br (λaf=>?_) (λ_=>.aq trivial);have fP:aK (j+1)=j+1:=by rw [cI]; omega
     have mR:aK (j+2)=j+2:=by rw [cI]; omega
     rw [fP,mR];refine .aB (t152 s j _ h ah (by simp only [dK]; omega) (by decide)) λc aa=>Tot.bF (λtS=>.aq ?_) (λ_=>.aq ?_)
     ·have:=aa tS;have rS:(⟨#[42,47]⟩:ByteArray).size=2:=rfl;rw [rS] at this;show j+2<=s.size; omega
     ·show (0:Int)<=j+1/\j<j+1/\j+1<=s.size+1; omega
    ·rcases x with _ | r
     ·exact .aq (by show (-1:Int)<=s.size; omega)
     ·exact .aq J
theorem t146 (s:ByteArray) (h:s.size<=dK):Tot (z6 s 0) λ_=>True:=by
 unfold z6;have av:(s.size:Int)<=1000000000000:=by simp only [dK] at h; omega
 refine Tot.aB (Ξ:=λ_=>True) ?_ λc _=>Tot.bF (λ_=>.aq trivial) (λ_=>?_)
 ·refine Tot.br (λh=>.aq trivial) (λaR=>Tot.br (λh=>.aq trivial) (λaf=>?_));exact .aB (Ξ:=λ_=>True) (Tot.n_ (by omega) trivial) λ_ _=>.aq trivial
 ·refine Tot.aB (Ξ:=λ_=>True) ?_ λx _=>by rcases x with _ | r <;> exact .aq trivial
  refine Tot.count (λj=>j.2) s.size (λj=>0<=j.2/\j.2<=s.size) ⟨by show (0:Int)<=0; omega,by show (0:Int)<=s.size; omega⟩ (by show (s.size:Int) - 0<_; omega) λj ah=>?_;refine Tot.br (λaf=>?_) (λ_=>.aq trivial);refine .aB (t151 s j.2 h ah.1 af) λn aF=>Tot.br (λ_=>.aq trivial) (λaI=>Tot.br (λbK=>.aq ?_) (λbK=>?_))
  ·show ((0:Int)<=n/\n<=s.size)/\j.2<n/\n<=s.size; omega
  ·have w6:=Tot.n_ (Φ:=λ_=>True) (s:=s) (m:=j.2) ⟨ah.1,af⟩ trivial;have fP:aK (j.2+1)=j.2+1:=by rw [cI]; omega
   rw [fP];refine .aB w6 λ_ _=>.aB (Ξ:=λ_=>True) (Tot.bF (λ_=>.aq trivial) (λ_=>.aq trivial)) λ_ _=>.aB w6 λ_ _=>.aB (Ξ:=λ_=>True) (Tot.bF (λ_=>.aq trivial) (λ_=>.aq trivial)) λ_ _=>Tot.bF (λ_=>.aq trivial) (λ_=>.aq ?_);show ((0:Int)<=j.2+1/\j.2+1<=s.size)/\j.2<j.2+1/\j.2+1<=s.size; omega
def lZ (x:Sym):Prop:=x.Lit=true->x.Name.size=1
structure GA (d:Decl):Prop where
 tag:d.Tag.size<=dK
 n:d.eL.length<=1000
 syms:∀ x∈d.eL,x.Name.size<=dK
structure wi (a:Alt):Prop where
 n:a.hx.length<=1000
 parts:∀ p∈a.hx,p.Sym.Name.size<=dK/\p.Code.size<=dK
 prec:a.Prec.Name.size<=dK
structure Lf (r:fh):Prop where
 left:r.Left.size<=dK
 n:r.eK.length<=1000
 alts:∀ a∈r.eK,wi a
structure rN (s:Source):Prop where
 XQ:s.cC.size<=dK
 zb:s.Decls.length<=1000
 decls:∀ d∈s.Decls,GA d
 aH:s.dG.length<=1000
 rules:∀ r∈s.dG,Lf r
theorem t143 (x:Sym) (a b:Bool) (h:x.Name.size<=dK):Tot (ur x a b) λr=>r=true->lZ x:=by
 unfold ur;refine Tot.bF (λak=>?_) (λak=>?_)
 ·refine Tot.aB (Ξ:=λc=>c=false->x.Name.size=1) ?_ λc aa=>Tot.bF (λ_=>.aq λh=>by cases h) (λaf=>?_)
  ·refine Tot.bF (λ_=>.aq λh=>by cases h) (λ_=>Tot.qe (λ_=>.aq λh=>by cases h) (λh1=>.aq λ_=>by omega))
  ·have h1:=aa af;refine .aB (Ξ:=λ_=>True) (Tot.n_ (by omega) trivial) λ_ _=>.aB (t148 _) λ_ _=>.aq λ_ _=>h1
 ·have dd:lZ x:=λh=>by rw [ak] at h; cases h
  refine Tot.aB (Ξ:=λ_=>True) ?_ λc aa=>.aq λ_=>dd;refine .aB (t134 _ h) λc _=>?_
  repeat' first | refine Tot.bF (λ_=>?_) (λ_=>?_) | exact Tot.aq trivial
theorem t133 (d:Decl) (h:GA d):Tot (xU d) λr=>r=true->∀ x∈d.eL,lZ x:=by
 unfold xU;refine Tot.aB (Ξ:=λ_=>True) ?_ λc _=>Tot.bF (λ_=>.aq λh=>by cases h) (λ_=>?_)
 ·have aw:=(t134 _ h.tag).use (Φ:=λ_=>True) λ_ _=>trivial
  repeat' first | refine Tot.bF (λ_=>?_) (λ_=>?_) | exact Tot.aq trivial | refine .aB aw λ_ _=>?_
 ·refine Tot.aB (Tot.scan d.eL (λx=>lZ x) (λr=>r=false) (by have:=h.n; omega) (λs y aR h1 hi hm=>?_) (λs aC=>by simp [aC])) λx J=>?_
  ·refine Tot.br (λ_=>?_) (λh=>absurd h1 h);rw [hi];refine Tot.aV ?_;refine .aB (t143 _ _ _ (h.syms _ hm)) λc aa=>Tot.bF (λ_=>.aq rfl) (λaf=>.aq ⟨?_,aa (by simpa using af)⟩);have:=h.n;rw [cI]; omega
  ·rcases x with _ | r
   ·exact .aq λ_=>J
   ·exact .aq λh=>by have:r=false:=J; rw [this] at h; cases h
theorem t135 (a:Alt) (h:wi a):Tot (xV a) λr=>r=true->(∀ p∈a.hx,lZ p.Sym)/\lZ a.Prec:=by
 unfold xV;refine Tot.aB (Tot.scan a.hx (λp=>lZ p.Sym) (λr=>r=false) (by have:=h.n; omega) (λs y aR h1 hi hm=>?_) (λs aC=>by simp [aC])) λx J=>?_
 ·refine Tot.br (λ_=>?_) (λh=>absurd h1 h);rw [hi];refine Tot.aV ?_;have au:=h.parts _ hm;have t1:=t143 y.Sym false true au.1;have t2:=t145 y.Sym;have Qf:=t146 y.Code au.2;have hw:aK (s+1)=s+1:=by have:=h.n; rw [cI]; omega
  rw [hw];have n118:(y.Sym.Name=⟨#[]⟩/\y.Sym.Lit=false)->lZ y.Sym:=λh ak=>by rw [h.2] at ak; cases ak
  refine Tot.aB (Ξ:=λc=>c=false->lZ y.Sym) ?_ λc aa=>Tot.bF (λ_=>.aq rfl) (λaf=>.aq ⟨rfl,aa af⟩);refine Tot.br (λ_=>?_) (λdr=>?_)
  ·refine .aB t1 λc aa=>Tot.bF (λ_=>.aq λh=>by cases h) (λaf=>?_);have dd:=aa (by simpa using af);refine Tot.bF (λ_=>?_) (λ_=>.aq λ_=>dd);refine .aB t2 λc _=>Tot.bF (λ_=>.aq λ_=>dd) (λ_=>?_);exact .aB Qf λ_ _=>.aq λ_=>dd
  ·refine Tot.qe (λ_=>?_) (λh=>.aq λ_=>?_)
   ·refine .aB t2 λc aa=>Tot.bF (λ_=>.aq λh=>by cases h) (λaf=>?_);have dd:=n118 (aa (by simpa using af));exact .aB Qf λ_ _=>.aq λ_=>dd
   ·exact absurd h dr
 ·rcases x with _ | r
  ·have J:∀ p∈a.hx,lZ p.Sym:=J;refine Tot.aB (Ξ:=λc=>c=true->lZ a.Prec) ?_ λc aa=>.aq λh=>⟨J,aa h⟩;refine .aB (t145 _) λc aa=>Tot.bF (λaf=>.aq λ_=>?_) (λ_=>.aB (t143 _ _ _ h.prec) λc aa=>.aq aa);intro ak; rw [(aa af).2] at ak; cases ak
  ·exact .aq λh=>by have:r=false:=J; rw [this] at h; cases h
structure DH (a:Alt):Prop where
 parts:∀ p∈a.hx,lZ p.Sym
 prec:lZ a.Prec
structure Li (s:Source):Prop where
 decls:∀ d∈s.Decls,∀ x∈d.eL,lZ x
 rules:∀ r∈s.dG,∀ a∈r.eK,DH a
 pos:0<s.dG.length
theorem t103 (s:Source) (h:rN s):Tot (xS s) λr=>r=true->Li s:=by
 unfold xS;refine Tot.aB (Ξ:=hK (λ_=>True) (λr=>r=false)) ?_ λx J=>?_
 ·have au:(s.cC.size:Int)<=1000000000000:=by have:=h.XQ; simp only [dK] at this; omega
  refine Tot.count (λj=>j) s.cC.size (λj=>0<=j/\j<=s.cC.size) ⟨by omega,by omega⟩ (by show (s.cC.size:Int) - 0<_; omega) λj ah=>?_;have cA:aK (j+1)=j+1:=by rw [cI]; omega
  have cf:aK (j+2)=j+2:=by rw [cI]; omega
  rw [cA,cf];refine Tot.br (λaf=>?_) (λ_=>.aq trivial);refine .aB (Ξ:=λ_=>True) (Tot.cut (by omega) trivial) λ_ _=>Tot.bF (λ_=>.aq rfl) (λ_=>.aq ?_);show ((0:Int)<=j+1/\j+1<=s.cC.size)/\j<j+1/\j+1<=s.cC.size; omega
 ·rcases x with _ | r
  ·refine Tot.aB (Tot.scan s.Decls (λd=>∀ x∈d.eL,lZ x) (λr=>r=false) (by have:=h.zb; omega) (λi y aR h1 hi hm=>?_) (λs aC=>by simp [aC])) λx J=>?_
   ·refine Tot.br (λ_=>?_) (λh=>absurd h1 h);rw [hi];refine Tot.aV ?_;refine .aB (t133 _ (h.decls _ hm)) λc aa=>Tot.bF (λ_=>.aq rfl) (λaf=>.aq ⟨?_,aa (by simpa using af)⟩);have:=h.zb;rw [cI]; omega
   ·rcases x with _ | r
    ·have J:∀ d∈s.Decls,∀ x∈d.eL,lZ x:=J;refine Tot.aB (Tot.scan s.dG (λr=>∀ a∈r.eK,DH a) (λr=>r=false) (by have:=h.aH; omega) (λi y aR h1 hi hm=>?_) (λs aC=>by simp [aC])) λx iv=>?_
     ·refine Tot.br (λ_=>?_) (λh=>absurd h1 h);rw [hi];refine Tot.aV ?_;have ao:=h.rules _ hm;have hw:aK (i+1)=i+1:=by have:=h.aH; rw [cI]; omega
      rw [hw];refine .aB (Ξ:=λ_=>True) (.aB (t134 _ ao.left) λc _=>Tot.bF (λ_=>.aq trivial) (λ_=>.aq trivial)) λc _=>Tot.bF (λ_=>.aq rfl) (λ_=>?_);refine Tot.aB (Tot.scan y.eK DH (λr=>r=false) (by have:=ao.n; omega) (λk a aR h1 hi hm=>?_) (λs aC=>by simp [aC])) λx js=>?_
      ·refine Tot.br (λ_=>?_) (λh=>absurd h1 h);rw [hi];refine Tot.aV ?_;refine .aB (t135 _ (ao.alts _ hm)) λc aa=>Tot.bF (λ_=>.aq rfl) (λaf=>.aq ⟨?_,⟨(aa (by simpa using af)).1,(aa (by simpa using af)).2⟩⟩);have:=ao.n;rw [cI]; omega
      ·rcases x with _ | r
       ·exact .aq ⟨rfl,js⟩
       ·exact .aq js
     ·rcases x with _ | r
      ·exact .aq λh=>⟨J,iv,by have:=of_decide_eq_true h; omega⟩
      ·exact .aq λh=>by have:r=false:=iv; rw [this] at h; cases h
    ·exact .aq λh=>by have:r=false:=J; rw [this] at h; cases h
  ·exact .aq λh=>by have:r=false:=J; rw [this] at h; cases h
abbrev fJ:=dv
structure rM (m m':fJ):Prop where
 g:m'.aG=m.aG
 gE:m'.cu=m.cu
 ty:m'.cL=m.cL
 fx:m'.cb=m.cb
 jw:m'.cr=m.cr
 hA:m'.b_=m.b_
theorem t105 (m:fJ) (a:Int) (n:ByteArray):Tot (nU m a n) λm'=>rM m m'/\m'.cZ≠0:=by
 unfold nU;apply Tot.bi;refine Tot.br (λ_=>.aq (.aq ⟨⟨rfl,rfl,rfl,rfl,rfl,rfl⟩,?_⟩)) (λh=>.aq (.aq ⟨⟨rfl,rfl,rfl,rfl,rfl,rfl⟩,h⟩))
 grind
theorem t109 (m:fJ) (n:ByteArray) (h:m.cL.length<=dK):Tot (zW m n) λr=>r=-1\/(0<=r/\r<m.cL.length):=by
 unfold zW;simp only [dK] at h;refine Tot.aB (Tot.scan m.cL (λ_=>True) (λr:Int=>0<=r/\r<m.cL.length) (by omega) (λs y aR h1 hi hm=>?_) (λs aC=>by simp [aC])) λx J=>?_
 ·refine Tot.br (λ_=>?_) (λh=>absurd h1 h);rw [hi];refine Tot.aV ?_;refine Tot.bF (λ_=>.aq ⟨aR,h1⟩) (λ_=>.aq ⟨?_,trivial⟩)
  grind [cI]
 ·rcases x with _ | r
  ·exact .aq (.inl rfl)
  ·exact .aq (.inr J)
theorem t107 (m:fJ) (n:ByteArray) (h:m.cb.length<=dK):Tot (sZ m n) λr=>(r=-1/\∀ x∈m.cb,x≠n)\/(0<=r/\r<m.cb.length/\m.cb[r.toNat]?=some n):=by
 unfold sZ;simp only [dK] at h;refine Tot.aB (Tot.scan m.cb (λx=>x≠n) (λr:Int=>0<=r/\r<m.cb.length/\m.cb[r.toNat]?=some n) (by omega) (λs y aR h1 hi hm=>?_) (λs aC=>by simp [aC])) λx J=>?_
 ·refine Tot.br (λ_=>?_) (λh=>absurd h1 h);rw [hi];refine Tot.aV ?_;refine Tot.br (λe=>.aq ⟨aR,h1,by rw [<- e]; exact (pJ hi).2.2⟩) (λe=>.aq ⟨?_,e⟩)
  grind [cI]
 ·rcases x with _ | r
  ·exact .aq (.inl ⟨rfl,J⟩)
  ·exact .aq (.inr J)
theorem t106 (m:fJ) (x:Sym) (h:m.aG.ba.length<=dK):Tot (uq m x) λr=>r=-1\/(1<=r/\r<m.aG.ba.length):=by
 unfold uq;simp only [dK] at h;refine Tot.aB (Ξ:=hK (λ_=>True) (λr=>1<=r/\r<m.aG.ba.length)) ?_ λx J=>?_
 ·refine Tot.count (λj=>j) m.aG.ba.length (λj=>1<=j) (by omega) (by show (m.aG.ba.length:Int) - 1<_; omega) λj ah=>?_;refine Tot.br (λaf=>?_) (λ_=>.aq trivial);have e:aK (j+1)=j+1:=by rw [cI]; omega
  rw [e];refine .aB (Ξ:=λ_=>True) ?_ λc _=>Tot.bF (λ_=>.aq ⟨ah,af⟩) (λ_=>.aq ?_)
  ·refine .aB (Ξ:=λ_=>True) (Tot.hj (by omega) af λ_ _ _=>trivial) λ_ _=>Tot.bF (λ_=>?_) (λ_=>.aq trivial);exact .aB (Ξ:=λ_=>True) (Tot.hj (by omega) af λ_ _ _=>trivial) λ_ _=>Tot.bF (λ_=>.aq trivial) (λ_=>.aq trivial)
  grind
 ·rcases x with _ | r
  ·exact .aq (.inl rfl)
  ·exact .aq (.inr J)
theorem t137 (m:fJ) (n:Int) (h:m.aG.ba.length<=dK):Tot (vN m n) λ_=>True:=by
 unfold vN;simp only [dK] at h;refine Tot.aB (Ξ:=λ_=>True) ?_ λx J=>?_
 ·refine Tot.count (λj=>j) m.aG.ba.length (λj=>1<=j) (by decide) (by show (m.aG.ba.length:Int) - 3<_; omega) λj ah=>?_;refine Tot.br (λaf=>?_) (λ_=>.aq trivial);have e:aK (j+1)=j+1:=by rw [cI]; omega
  rw [e];refine .aB (Ξ:=λ_=>True) (Tot.hj (by omega) af λ_ _ _=>trivial) λc _=>Tot.bF (λ_=>.aq trivial) (λ_=>.aq ?_)
  grind
 ·rcases x with _ | r <;> exact .aq trivial
structure Grow (m m':fJ) (k:Nat):Prop where
 gE:m'.cu.length=m'.aG.ba.length
 lo:m.aG.ba.length<=m'.aG.ba.length
 hi:m'.aG.ba.length<=m.aG.ba.length+k
 ty:m'.cL.length<=m.cL.length+k
 fx:m'.cb=m.cb
 hq:m'.aG.bh=m.aG.bh
 hA:m'.b_=m.b_
 lvl:m'.cr=m.cr
 jw:0<=m.cr->(∀ t∈m.aG.ba,0<=t.Level)->∀ t∈m'.aG.ba,0<=t.Level
theorem rM.grow {m m':fJ}(h:rM m m') (aO:m.cu.length=m.aG.ba.length) (k:Nat):Grow m m' k:=by
 obtain ⟨h1,af,aI,bK,cG,eh⟩:=h;exact ⟨by rw [h1,af]; exact aO,by rw [h1]; omega,by rw [h1]; omega,by rw [aI]; omega,bK,by rw [h1],eh,cG,by rw [h1]; exact λ_ h=>h⟩
theorem t136 (m:fJ) (x:Sym) (aO:m.cu.length=m.aG.ba.length) (h:m.aG.ba.length<=100000000000) (J:lZ x) :
  Tot (vM m x) λr=>Grow m r.2 1/\0<=r.1/\r.1<r.2.aG.ba.length:=by
 unfold vM;refine .aB (t106 m x (by simp only [dK]; omega)) λt aw=>Tot.br (λaR=>.aq ⟨⟨aO,Nat.le_refl _,Nat.le_succ _,Nat.le_succ _,rfl,rfl,rfl,rfl,λ_ h=>h⟩,aR,?_⟩) (λ_=>?_)
 ·grind
 ·refine Tot.aB (Ξ:=λj=>rM m j.1) ?_ λj ah=>?_
  ·refine Tot.bF (λak=>?_) (λ_=>.aq ⟨rfl,rfl,rfl,rfl,rfl,rfl⟩);have:=J ak;refine .aB (Ξ:=λ_=>True) (Tot.n_ (by omega) trivial) λb _=>.aB (t137 m _ (by simp only [dK]; omega)) λo _=>?_;refine Tot.aB (Ξ:=λj=>rM m j) ?_ λj ah=>.aq ah;exact Tot.bF (λ_=>.aB (t105 m _ _) λm' hm=>.aq hm.1) (λ_=>.aq ⟨rfl,rfl,rfl,rfl,rfl,rfl⟩)
  ·obtain ⟨h1,af,aI,bK,cG,eh⟩:=ah;have aT:j.1.aG.ba.length=m.aG.ba.length:=by rw [h1]
   have Vt:j.1.cu.length=m.cu.length:=by rw [af]
   refine .aB (Ξ:=λ_=>True) (Tot.ap (by rw [aT]; simp [lim]; omega) trivial) λ_ _=>.aB (Ξ:=λ_=>True) (Tot.ap (by rw [Vt]; simp [lim]; omega) trivial) λ_ _=>.aq ?_;refine ⟨⟨?_,?_,?_,?_,bK,by show j.1.aG.bh=_; rw [h1],eh,cG,?_⟩,?_,?_⟩
   all_goals grind [cI]
structure n4 (m m':fJ):Prop where
 tk:m'.aG.ba.length=m.aG.ba.length
 gE:m'.cu.length=m.cu.length
 ty:m'.cL=m.cL
 fx:m'.cb=m.cb
 hq:m'.aG.bh=m.aG.bh
 hA:m'.b_=m.b_
 lvl:m'.cr=m.cr
 jw:0<=m.cr->(∀ t∈m.aG.ba,0<=t.Level)->∀ t∈m'.aG.ba,0<=t.Level
theorem n4.refl (m:fJ):n4 m m:=⟨rfl,rfl,rfl,rfl,rfl,rfl,rfl,λ_ h=>h⟩
theorem n4.trans {m m' Cw:fJ}(h:n4 m m') (aQ:n4 m' Cw):n4 m Cw:=⟨aQ.tk.trans h.tk,aQ.gE.trans h.gE,aQ.ty.trans h.ty,aQ.fx.trans h.fx,aQ.hq.trans h.hq,aQ.hA.trans h.hA,aQ.lvl.trans h.lvl,λaR ak=>aQ.jw (by rw [h.lvl]; exact aR) (h.jw aR ak)⟩
theorem rM.tk {m m':fJ}(h:rM m m'):n4 m m':=⟨by rw [h.g],by rw [h.gE],h.ty,h.fx,by rw [h.g],h.hA,h.jw,by rw [h.g]; exact λ_ h=>h⟩
theorem Grow.tk {m m' Cw:fJ}{k:Nat}(h:Grow m m' k) (aQ:n4 m' Cw):Grow m Cw k :=
 ⟨by rw [aQ.gE,aQ.tk]; exact h.gE,by rw [aQ.tk]; exact h.lo,by rw [aQ.tk]; exact h.hi,by rw [aQ.ty]; exact h.ty,aQ.fx.trans h.fx,aQ.hq.trans h.hq,aQ.hA.trans h.hA,aQ.lvl.trans h.lvl,λaR ak=>aQ.jw (by rw [h.lvl]; exact aR) (h.jw aR ak)⟩
theorem OK {α:Type}{l:List α}{i:Nat}{x y:α}(h:y∈l.set i x):y∈l\/y=x:=List.mem_or_eq_of_mem_set h
theorem t104 (m:fJ) (d:Decl) (x:Sym) (aO:m.cu.length=m.aG.ba.length) (h:m.aG.ba.length<=100000000000) (aw:m.cL.length<=100000000000) (J:lZ x) :
  Tot (vI m d x) λm'=>Grow m m' 1:=by
 unfold vI;refine Tot.bF (λ_=>?_) (λ_=>?_)
 ·refine .aB (t109 m x.Name (by simp only [dK]; omega)) λk hk=>Tot.aB (Ξ:=λm'=>Grow m m' 1) ?_ λm' hm=>.aq hm;refine Tot.br (λ_=>?_) (λaR=>?_)
  ·refine .aB (Ξ:=λ_=>True) (Tot.ap (by simp [lim]; omega) trivial) λ_ _=>.aq ⟨aO,Nat.le_refl _,Nat.le_succ _,?_,rfl,rfl,rfl,rfl,λ_ h=>h⟩
   grind
  ·refine .aB (Ξ:=λ_=>True) (Tot.hj (by omega) (by omega) λ_ _ _=>trivial) λ_ _=>Tot.aB (Ξ:=λm'=>Grow m m' 1) ?_ λm' hm=>.aq hm;exact Tot.bF (λ_=>.aB (t105 m _ _) λm' hm=>.aq (hm.1.grow aO 1)) (λ_=>.aq ⟨aO,Nat.le_refl _,Nat.le_succ _,Nat.le_succ _,rfl,rfl,rfl,rfl,λ_ h=>h⟩)
 ·refine .aB (t136 m x aO h J) λr ⟨ao,aR,h1⟩=>?_;have hj:∀ {m':fJ},n4 r.2 m'->Tot (idx m'.aG.ba r.1) λy=>y∈m'.aG.ba:=λhm=>Tot.hj aR (by rw [hm.tk]; exact h1) λ_ _ h=>h;have Oy:∀ {m':fJ},n4 r.2 m'->Tot (idx m'.cu r.1) λ_=>True:=λhm=>Tot.hj aR (by rw [hm.gE,ao.gE]; exact h1) λ_ _ _=>trivial;refine .aB (hj (.refl _)) λy _=>?_;refine Tot.aB (Ξ:=λm'=>n4 r.2 m') ?_ λeN q_=>?_
  ·refine Tot.bF (λ_=>?_) (λ_=>.aq (.refl _));refine Tot.aB (Ξ:=λm'=>n4 r.2 m') ?_ λde sC=>?_
   ·exact Tot.bF (λ_=>.aB (t105 r.2 _ _) λm' hm=>.aq ⟨rfl,hm.1.tk.gE,hm.1.tk.ty,hm.1.tk.fx,hm.1.tk.hq,hm.1.tk.hA,hm.1.tk.lvl,λ_ h=>h⟩) (λ_=>.aq (.refl _))
   ·refine .aB (hj sC) λ_ _=>.aq (sC.trans ⟨?_,rfl,rfl,rfl,rfl,rfl,rfl,λak aw t bY=>?_⟩)
    ·grind
    grind
  ·refine .aB (hj q_) λ_ _=>?_;refine Tot.aB (Ξ:=λm'=>n4 r.2 m') ?_ λe_ u3=>?_
   ·refine Tot.bF (λ_=>?_) (λ_=>.aq q_);refine .aB (Ξ:=λ_=>True) ?_ λc _=>?_
    ·refine Tot.bF (λ_=>.aq trivial) (λ_=>.aB (Oy q_) λ_ _=>Tot.bF (λ_=>.aq trivial) (λ_=>.aB (t137 eN _ ?_) λ_ _=>.aq trivial));have:=q_.tk;have:=ao.hi
     grind
    ·refine Tot.aB (Ξ:=λm'=>n4 r.2 m') ?_ λdY rV=>?_
     ·exact Tot.bF (λ_=>.aB (t105 eN _ _) λm' hm=>.aq (q_.trans ⟨rfl,hm.1.tk.gE,hm.1.tk.ty,hm.1.tk.fx,hm.1.tk.hq,hm.1.tk.hA,hm.1.tk.lvl,λ_ h=>h⟩)) (λ_=>.aq q_)
     ·refine .aB (hj rV) λy ax=>.aB (Oy rV) λ_ _=>.aq (rV.trans ⟨?_,?_,rfl,rfl,rfl,rfl,rfl,λak aw t bY=>?_⟩)
      all_goals grind
   ·refine .aB (hj u3) λ_ _=>?_;refine Tot.aB (Ξ:=λm'=>n4 r.2 m') ?_ λpK HH=>.aq (ao.tk HH);refine Tot.bF (λ_=>?_) (λ_=>.aq u3);refine .aB (Ξ:=λ_=>True) (Tot.bF (λ_=>.aq trivial) (λ_=>.aq trivial)) λc _=>?_;refine Tot.aB (Ξ:=λm'=>n4 r.2 m') ?_ λnf Bq=>?_
    ·exact Tot.bF (λ_=>.aB (t105 e_ _ _) λm' hm=>.aq (u3.trans ⟨rfl,hm.1.tk.gE,hm.1.tk.ty,hm.1.tk.fx,hm.1.tk.hq,hm.1.tk.hA,hm.1.tk.lvl,λ_ h=>h⟩)) (λ_=>.aq u3)
    ·refine .aB (hj Bq) λy ax=>.aq (Bq.trans ⟨?_,rfl,rfl,rfl,rfl,rfl,rfl,λak aw t bY=>?_⟩)
     ·grind
     grind
def q1 (T:Nat) (N:Int) (s:Int):Prop:=(0<=s/\s<T)\/(1000<=s/\s<=1000+N)
theorem q1.mono {T T':Nat}{N iZ s:Int}(h:q1 T N s) (dL:T<=T') (bc:N<=iZ):q1 T' iZ s:=by
 rcases h with h | h
 ·exact .inl (by omega)
 ·exact .inr (by omega)
theorem t138 (m:fJ) (x:Sym) (aO:m.cu.length=m.aG.ba.length) (aI:3<=m.aG.ba.length) (h:m.aG.ba.length<=100000000000) (ak:m.cb.length<=100000000000) (J:lZ x) :
  Tot (s3 m x) λr=>Grow m r.2 1/\q1 r.2.aG.ba.length m.cb.length r.1:=by
 unfold s3;have r3:Grow m m 1:=⟨aO,Nat.le_refl _,Nat.le_succ _,Nat.le_succ _,rfl,rfl,rfl,rfl,λ_ h=>h⟩;refine Tot.bF (λ_=>?_) (λ_=>?_)
 ·exact .aB (t136 m x aO h J) λr ⟨ao,aR,h1⟩=>.aq ⟨ao,.inl ⟨aR,h1⟩⟩
 ·refine .aB (t107 m x.Name (by simp only [dK]; omega)) λk hk=>Tot.br (λaR=>.aq ⟨r3,.inr ?_⟩) (λ_=>?_)
  ·grind [cI]
  ·refine .aB (t106 m x (by simp only [dK]; omega)) λt aw=>Tot.br (λ_=>?_) (λaR=>.aq ⟨r3,.inl ?_⟩)
   ·refine .aB (t105 m _ _) λm' hm=>.aq ⟨hm.1.grow aO 1,.inl ⟨Int.le_refl 0,?_⟩⟩;show (0:Int)<(m'.aG.ba.length:Int);rw [hm.1.g];omega
   grind
end Go.Proofs
