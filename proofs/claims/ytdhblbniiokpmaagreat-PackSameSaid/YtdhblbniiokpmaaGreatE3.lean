/-
  Parts of the proof that the last text states. No condition of their own.
-/
import Derived.ChangeAt
import Derived.ChangeOld
import Derived.ChangeSame
import Derived.Deep.Draws
import Derived.Deep.LoopGhost
import Derived.Deep.Slices
import Derived.Ground.SlsfProg
import Derived.KernelRfl
import Derived.Laws.CopyRow
import Derived.Laws.Externs
import Derived.Lib.SliceRun
import Derived.Lib.SlicesCompact
import Derived.Lib.Walk
import Derived.Maps.OwnIn
import Derived.ReadAgain
import Derived.RowKit3
import Derived.Shelf.RegionOpenPlain
import Derived.Shelf.SlGeneric
import Derived.Shelf.SlLaysQ
import Derived.Shelf.SlSortCmp.NoneTotal
import Derived.Shelf.SlicesE.Kit
import Derived.Shelf.SlicesQ.Load
import Derived.Sort.WalkB12
import Derived.StringKeys
import Derived.Test.YtdhblbniiokpmaaGreatRows
import Derived.WalkKit
import Derived.WideShapes
import Derived.Test.YtdhblbniiokpmaaGreatE2
namespace Go.Own
open Go Go.RowKit Go.ChangeShapes Go.WideShapes Go.Deep
variable {α β Lj:Type}{P:Program}
abbrev tt (w:World) (y:ab) (u:Value):Prop:=R w (λb=>b<w.heap.size) (λ_ _=>False) y u (λ_=>False)
def mh (w:World) (ys:List ab) (cs:List Value):Prop :=
 ys.length=cs.length/\∀ (k:Nat) (y:ab) (u:Value),ys[k]?=some y->cs[k]?=some u->u.oneCell'=true/\tt w y u
theorem mh.nil {w:World}:mh w [] []:=⟨rfl,λ_ _ _ h=>by simp at h⟩
theorem mh.one {w:World}{y:ab}{u:Value}(h1:u.oneCell'=true) (h:tt w y u):mh w [y] [u] :=
 ⟨rfl,λk y' wi ax hu=>by
  cases k with
  | zero=>simp at ax hu; subst ax hu; exact ⟨h1,h⟩
  | succ k=>simp at ax⟩
theorem mh.app {w:World}{ys yA:List ab}{cs jL:List Value}(h:mh w ys cs) (af:mh w yA jL):mh w (ys++yA) (cs++jL):=by
 refine ⟨by simp [h.1,af.1],λk y u ax hu=>?_⟩;by_cases hk:k<ys.length
 ·rw [List.getElem?_append_left hk] at ax;rw [List.getElem?_append_left (h.1 ▸ hk)] at hu;exact h.2 k y u ax hu
 ·rw [List.getElem?_append_right (by omega)] at ax;rw [List.getElem?_append_right (by have:=h.1; omega),<- h.1] at hu;exact af.2 _ y u ax hu
structure iI (P:Program) (e:bK α) (t:TypeId) (ok:α->Prop):Prop where
 z:P.cellsOf t=e.z
 go:∀ {H:Type}{enc:TypeId × Value->H}{w:World}{n:Nat}{cs:List Value}{x:DataW H × List MemPlace},
  DataW.trod enc P w 0 (λ_=>true) true n t cs=some x->∃ a,ok a/\mh w (e.cells a) cs
theorem iI.int {e:bK Int}{t:TypeId}{k:IntKind}(aw:P.underlying t=some (.int k)) (aX:P.cellsOf t=e.z) (he:∀ n,e.cells n=[.lit (.int k n)]) :
  iI P e t (λn=>(Lit.int k n).wf=true):=by
 refine ⟨aX,λh=>?_⟩;obtain ⟨n,rfl,_,hw⟩:=DataW.trod_int aw h;exact ⟨n,hw,he n ▸ mh.one rfl (.lit rfl λ_ h=>h)⟩
theorem iI.bool {e:bK Bool}{t:TypeId}(aw:P.underlying t=some .bool) (aX:P.cellsOf t=e.z) (he:∀ n,e.cells n=[.lit (.bool n)]) :
  iI P e t (λ_=>True):=by
 refine ⟨aX,λh=>?_⟩;obtain ⟨n,rfl,_⟩:=DataW.trod_bool aw h;exact ⟨n,trivial,he n ▸ mh.one rfl (.lit rfl λ_ h=>h)⟩
theorem iI.str {e:bK ByteArray}{t:TypeId}(aw:P.underlying t=some .string) (aX:P.cellsOf t=e.z) (he:∀ n,e.cells n=[.lit (.string n)]) :
  iI P e t (λs=>s.size<=maxLen):=by
 refine ⟨aX,λh=>?_⟩;obtain ⟨n,rfl,_,hw⟩:=DataW.trod_string aw h;exact ⟨n,hw,he n ▸ mh.one rfl (.lit rfl λ_ h=>h)⟩
theorem PR (e:bK α) (aX:0<e.z):∀ (l:List α) (k:Nat) (y:ab),(bo e l)[k]?=some y->∃ a,l[k / e.z]?=some a/\(e.cells a)[k % e.z]?=some y
 | [],k,y,h=>by simp [bo] at h
 | a::l,k,y,h=>by
  have he:bo e (a::l)=e.cells a++bo e l:=by simp [bo]
  rw [he] at h;by_cases hk:k<e.z
  ·rw [List.getElem?_append_left (by rw [e.len]; exact hk)] at h;exact ⟨a,by simp [Nat.div_eq_of_lt hk],by rw [Nat.mod_eq_of_lt hk]; exact h⟩
  ·rw [List.getElem?_append_right (by rw [e.len]; omega),e.len] at h;obtain ⟨b,h1,af⟩:=PR e aX l (k - e.z) y h;have aS:k / e.z=(k - e.z) / e.z+1:=by rw [Nat.div_eq_sub_div aX (by omega)]
   refine ⟨b,by rw [aS]; simpa using h1,?_⟩;rw [Nat.mod_eq_sub_mod (by omega)]; exact af
theorem iI.slice {e:bK α}{t Ga:TypeId}{ok:α->Prop}(h:iI P e Ga ok) (aw:P.underlying t=some (.slice Ga)) (aX:P.cellsOf t=1) (sO:0<e.z) :
  iI P (bq e) t (λl=>l.length<=maxLen/\∀ x∈l,ok x):=by
 classical
 refine ⟨aX,λ{H enc w n cs x} ao=>?_⟩;rcases open_slice aw ao with ⟨rfl,rfl⟩ | ⟨a,len,cap,m,cH,D,p9,rfl,av,aj,hm,IT,rfl,J⟩
 ·exact ⟨[],⟨by simp,by simp⟩,mh.one rfl (.hK λ_ h=>h)⟩
 ·have V0:m=cap:=by simpa using IT
  subst V0;have hex:∀ i,i<len->∃ q:α × List Value,ok q.1/\mh w (e.cells q.1) q.2/\w.cells? 0 (a.add (i * P.cellsOf Ga)) (P.cellsOf Ga)=some q.2:=λi hi=>by
   obtain ⟨cs',h1,af⟩:=J i (by omega);obtain ⟨b,nB,gW⟩:=h.go af;exact ⟨(b,cs'),nB,gW,h1⟩
  by_cases aQ:len=0
  ·subst aQ;exact ⟨[],⟨by simp,by simp⟩,mh.one rfl (.hK λ_ h=>h)⟩
  ·obtain ⟨Dh,_⟩:=hex 0 (by omega)
   haveI:Inhabited (α × List Value):=⟨Dh⟩
   obtain ⟨f,aW⟩:=choose_lt hex;have hlen:((List.range len).map λi=>(f i).1).length=len:=by simp
   have n':∀ (i:Nat) (b:α),((List.range len).map λi=>(f i).1)[i]?=some b->i<len/\b=(f i).1:=λi b hi=>by
    have aT:=(List.getElem?_eq_some_iff.1 hi).1;simp at aT;simp [aT] at hi;exact ⟨aT,hi.symm⟩
   have je:a.spot=none/\a.block<w.heap.size:=by
    obtain ⟨_,_,aI⟩:=aW 0 (by omega);obtain ⟨_,IM,cG⟩:=World.cells?_some aI;have eh:=cG 0 (by rw [h.z]; exact sO);simp only [Nat.zero_mul,Addr.add,if_true] at eh;have:0<(f 0).2.length:=by rw [IM,h.z]; exact sO
    rw [List.getElem?_eq_getElem this] at eh;unfold World.cell? at eh
    split at eh
    ·rename_i bY;refine ⟨?_,(Array.getElem?_eq_some_iff.1 bY).1⟩;cases aB:a.spot with
     | none=>rfl
     | some s=>simp [aB] at eh
    ·cases eh
   have key:∀ (k:Nat) (y:ab),(bo e ((List.range len).map λi=>(f i).1))[k]?=some y->∃ u,w.cell? ⟨a.block,a.off+k,none⟩=some u/\u.oneCell'=true/\tt w y u:=λk y hk=>by
    obtain ⟨b,nB,gW⟩:=PR e sO _ k y hk;obtain ⟨hi,rfl⟩:=n' _ _ nB;obtain ⟨_,af,aI⟩:=aW _ hi;obtain ⟨_,IM,cG⟩:=World.cells?_some aI;have N5:k % e.z<e.z:=Nat.mod_lt _ sO;have eh:=cG (k % e.z) (by rw [h.z]; exact N5);rw [Deep.add_add,h.z] at eh;have fW:k / e.z * e.z+k % e.z=k:=by rw [Nat.mul_comm]; exact Nat.div_add_mod k e.z
    rw [fW] at eh;have aT:k % e.z<(f (k / e.z)).2.length:=by rw [IM,h.z]; exact N5
    rw [List.getElem?_eq_getElem aT] at eh;have aP:a.add k=⟨a.block,a.off+k,none⟩:=by
     unfold Addr.add;split
     ·rename_i TZ; subst TZ; cases a; simp at je ⊢; exact je.1
     ·rfl
    rw [aP] at eh;exact ⟨_,eh,af.2 _ _ _ gW (List.getElem?_eq_getElem aT)⟩
   refine ⟨(List.range len).map λi=>(f i).1,⟨by rw [hlen]; omega,λy ax=>?_⟩,mh.one rfl ?_⟩
   ·obtain ⟨i,hi,rfl⟩:=List.mem_map.1 ax;exact (aW i (List.mem_range.1 hi)).1
   ·show tt w (.bk e.z _ _) _;rw [hlen];refine .bk (us:=λk=>(w.cell? ⟨a.block,a.off+k,none⟩).getD .nilFunc) (λ_ h=>h) aj je.2 je.1 (by rw [nn,hlen]) (λk y hk=>?_) (λk y hk=>?_) (λk y hk=>?_)
    ·obtain ⟨u,h1,af,aI⟩:=key k y hk;simp only [h1,Option.getD_some]; exact af
    ·obtain ⟨u,h1,af,aI⟩:=key k y hk;simp only [h1,Option.getD_some]
    ·obtain ⟨u,h1,af,aI⟩:=key k y hk;simp only [h1,Option.getD_some]; exact aI
def Br (P:Program):Nat->List Field->List TypeId->Bool
 | _,[],[]=>true
 | off,f::fs,t::ts=>decide (f.type=t)&&decide (f.offset=off)&&Br P (off+P.cellsOf t) fs ts
 | _,_,_=>false
def Dt (P:Program) (t:TypeId) (ts:List TypeId):Bool :=
 match P.underlying t with
 | some (.struct fs)=>Br P 0 fs.toList ts&&decide (P.cellsOf t=(ts.map P.cellsOf).sum)
 | _=>false
structure yC (P:Program) (cells:β->List ab) (ts:List TypeId) (ok:β->Prop):Prop where
 go:∀ {H:Type}{enc:TypeId × Value->H}{w:World}{n:Nat}{cs:List Value}{fs:List Field}{off:Nat},Br P off fs ts=true->cs.length=off+(ts.map P.cellsOf).sum ->
  (∀ (i:Nat) (f:Field),fs[i]?=some f->∃ x,DataW.trod enc P w 0 (λ_=>true) true n f.type ((cs.drop f.offset).take (P.cellsOf f.type))=some x) ->
  ∃ b,ok b/\mh w (cells b) (cs.drop off)
theorem yC.nil:yC P (λ_:Unit=>[]) [] (λ_=>True) :=
 ⟨λ{H enc w n cs fs off} _ aj _=>⟨(),trivial,by rw [List.drop_eq_nil_of_le (by simp at aj; omega)]; exact mh.nil⟩⟩
theorem yC.cons {e:bK α}{t:TypeId}{ts:List TypeId}{ok:α->Prop}{cells:β->List ab}{Pm:β->Prop}(h:iI P e t ok) (aj:yC P cells ts Pm) :
  yC P (λp:α × β=>e.cells p.1++cells p.2) (t::ts) (λp=>ok p.1/\Pm p.2):=by
 refine ⟨λ{H enc w n cs fs off} ff hlen ao=>?_⟩;cases fs with
 | nil=>simp [Br] at ff
 | cons f fs =>
  simp only [Br,Bool.and_eq_true,decide_eq_true_eq] at ff;obtain ⟨⟨rfl,rfl⟩,ff⟩:=ff;obtain ⟨x,J⟩:=ao 0 f rfl;obtain ⟨a,aP,aY⟩:=h.go J;obtain ⟨b,av,UN⟩:=aj.go (off:=f.offset+P.cellsOf f.type) (cs:=cs) ff (by rw [hlen]; simp [Nat.add_assoc]) (λi eL vj=>ao (i+1) eL (by simpa using vj));refine ⟨(a,b),⟨aP,av⟩,?_⟩;have:cs.drop f.offset=(cs.drop f.offset).take (P.cellsOf f.type)++cs.drop (f.offset+P.cellsOf f.type):=by
   rw [<- List.drop_drop]; exact (List.take_append_drop _ _).symm
  rw [this];exact aY.app UN
theorem iI.struct {e:bK Lj}{t:TypeId}{ts:List TypeId}{cells:β->List ab}{ok:β->Prop}(h:yC P cells ts ok) (mk:β->Lj) (un:Lj->β) (On:∀ b,un (mk b)=b) (aa:∀ b,e.cells (mk b)=cells b) (aw:Dt P t ts=true) (aX:P.cellsOf t=e.z) :
  iI P e t (λs=>ok (un s)):=by
 refine ⟨aX,λ{H enc w n cs x} ao=>?_⟩;unfold Dt at aw
 split at aw
 ·rename_i fs hu;simp only [Bool.and_eq_true,decide_eq_true_eq] at aw;obtain ⟨xs,cH,rfl,rfl,aj,Jo,J⟩:=DataW.trod_struct hu ao;obtain ⟨b,av,aY⟩:=h.go (w:=w) (off:=0) (cs:=cs) (fs:=fs.toList) (n:=cH) (enc:=enc) aw.1 (by rw [aj,aw.2]; simp) (λi f aW=>by
   have vj:fs[i]?=some f:=by simpa using aW
   have hi:i<xs.length:=by rw [Jo]; exact (Array.getElem?_eq_some_iff.1 vj).1
   exact ⟨xs[i],by rw [J i f vj,List.getElem?_eq_getElem hi]⟩)
  exact ⟨mk b,by rw [On]; exact av,by rw [aa]; simpa using aY⟩
 ·cases aw
inductive DO (w:World):ab->Value->Prop
 | mk {y:ab}{v:Value}(h:tt w y v):DO w y v
theorem iI.one {e:bK α}{t:TypeId}{ok:α->Prop}{g:α->ab}(h:iI P e t ok) (he:∀ a,e.cells a=[g a]) {H:Type}{enc:TypeId × Value->H}{w:World}{v:Value}{d:DataW H}{p:List MemPlace}(hv:v.cells.toList=[v])
  (aw:DataW.Trod enc P w 0 (λ_=>true) true t v d p):∃ a,ok a/\DO w (g a) v:=by
 obtain ⟨n,aF⟩:=aw;obtain ⟨a,aP,aY⟩:=h.go aF;refine ⟨a,aP,.mk ?_⟩;rw [hv,he] at aY;exact (aY.2 0 _ _ rfl rfl).2
theorem iI.XS {e:bK α}{t:TypeId}{ok:α->Prop}{ts:List TypeId}(h:iI P e t ok) (ff:Dt P t ts=true) {H:Type}{enc:TypeId × Value->H}{w:World}{v:Value}{d:DataW H}{p:List MemPlace}{base:Nat}(hv:Value.okWide P w .any base t v)
  (aw:DataW.Trod enc P w 0 (λ_=>true) true t v d p):∃ a,ok a/\DO w (.agg (e.cells a)) v:=by
 have hu:∃ fs,P.underlying t=some (.struct fs):=by
  unfold Dt at ff
  split at ff
  ·exact ⟨_,by assumption⟩
  ·cases ff
 obtain ⟨fs,hu⟩:=hu;obtain ⟨cs,rfl,hJ⟩:=okWide_struct hu hv;obtain ⟨n,aF⟩:=aw;obtain ⟨a,aP,aY⟩:=h.go aF;refine ⟨a,aP,.mk ?_⟩;have jO:mh w (e.cells a) cs.toList:=aY;refine .agg (Fs:=λ_ _=>False) (by simpa using jO.1) (λk u hu=>?_) (λk x u J hu=>(jO.2 k x u J (by simpa using hu)).2) (λ_ _ _ _ _ h=>h.elim) (λc=>⟨λh=>h.elim,λ⟨_,_,h⟩=>h⟩);have hk:k<(e.cells a).length:=by rw [jO.1]; simpa using (Array.getElem?_eq_some_iff.1 hu).1
 exact (jO.2 k _ u (List.getElem?_eq_getElem hk) (by simpa using hu)).1
inductive uT (w:World):List ab->List Value->Prop
 | nil:uT w [] []
 | cons {y:ab}{v:Value}{ys:List ab}{vs:List Value}(h:DO w y v) (aB:uT w ys vs):uT w (y::ys) (v::vs)
theorem uT.get {w:World}{ys:List ab}{vs:List Value}(h:uT w ys vs):ys.length=vs.length/\∀ (k:Nat) (y:ab),ys[k]?=some y->∃ v,vs[k]?=some v/\tt w y v:=by
 induction h with
 | nil=>exact ⟨rfl,λk y h=>by simp at h⟩
 | cons h _ aU =>
  refine ⟨by simp [aU.1],λk y ax=>?_⟩;cases k with
  | zero =>
   simp at ax; subst ax;obtain ⟨h⟩:=h;exact ⟨_,rfl,h⟩
  | succ k=>simpa using aU.2 k y (by simpa using ax)
theorem uT.Zh {w:World}{ys:List ab}{vs:List Value}(h:uT w ys vs) (au:ys.all (λy=>match y with | .bL ..=>false | _=>true)=true) :
  cI w (λb=>b<w.heap.size) vs.toArray (qb ys) (λ_=>cw):=by
 refine ⟨λt x J=>?_,λ_ _ _ h=>h,λ_ _ _ h=>h.elim,λ_ _ h=>h.elim,λ_ h=>h,λt t' z p n m new bC cH m' c3 h1 _=>?_⟩
 ·obtain ⟨v,hv,aY⟩:=h.get.2 t x J;exact ⟨v,by simpa using hv,.tree (aY.frame (λ_ _=>rfl) (λ_ h=>h) (λ_ _ h=>h.elim) (λ_ _=>rfl))⟩
 ·have:=List.all_eq_true.1 au _ (List.mem_of_getElem? h1);cases this
structure Lt (w w':World):Prop where
 kept:∀ may:MemPlace->Prop,w.keptBut w' may
 dO:∀ a,a.block<w.heap.size->w'.frozen? a=w.frozen? a
theorem bU.ZQ {f:FuncId}{ys:List ab}{vs:List Value}{outs:List (Option ab)}{r:Value}(aa:bU P f ys outs (.lit r)) (w:World) (h:uT w ys vs) (au:ys.all (λy=>match y with | .bL ..=>false | _=>true)=true) :
  Calls P f vs.toArray w λe w'=>e=.returned r/\Lt w w'/\∀ i:Nat,i<w.heap.size->w'.heap[i]?=w.heap[i]?:=by
 have:=aa.2 w _ vs _ h.get.1.symm (h.Zh au);refine this.mono ?_;rintro e w' ⟨v,I',b7,rfl,bj,b1⟩;obtain ⟨u,hu,aY⟩:=bj.rel outs.length (.lit r) (by simp [k3]);have aj:outs.length=vs.length:=by rw [aa.1]; exact h.get.1
 have EV:u=v:=by
  rw [aj] at hu;simpa using hu.symm
 subst EV;have hv:=(aY.gI (by simp)).hD.1;subst hv;have av:∀ i:Nat,i<w.heap.size->w'.heap[i]?=w.heap[i]?:=λi hi=>b1.eR.block i hi λ⟨_,h⟩=>h;have hk:World.keptBut w w' (λ_=>False):=⟨b1.eR.os,b1.eR.output,λi hi=>by
  rw [av i hi];exact (World.keptBut_refl w (λ_=>False)).2.2 i hi⟩
 exact ⟨rfl,⟨λmay=>World.keptBut_mono (λ_ f=>f.elim) hk,b1.eR.dO⟩,av⟩
theorem Qy {H:Type}{enc:TypeId × Value->H}{w w':World}{base:Nat}{sp:Nat->Bool}{held:Bool}(av:∀ i:Nat,i<w.heap.size->w'.heap[i]?=w.heap[i]?) :
  ∀ {ts:List TypeId}{vs:List Value}{jL:List (DataW H)}{ps:List MemPlace},DataW.TrodAll enc P w base sp held ts vs jL ps->DataW.TrodAll enc P w' base sp held ts vs jL ps
 | [],[],[],_,h=>h
 | _::_,_::_,_::_,_,⟨p,q,⟨n,aF⟩,af,e⟩=>by
  refine ⟨p,q,⟨n,DataW.trod_carry n _ _ _ aF λx J=>?_⟩,Qy av af,e⟩;have aT:=DataW.trod_lt n _ _ _ aF x J;cases x with
  | cell b off =>
   show w'.cell? _=w.cell? _;exact World.cell?_of_block (av b aT)
  | map b=>exact av b aT
theorem RU {H:Type}{enc:TypeId × Value->H}{w w':World}(aj:laidOutB P=true) (hm:mapsRowed P=true)
  (aX:((List.range P.types.size).all λt=>match P.underlying t with | some (.slice e)=>decide (0<P.cellsOf e) | _=>true)=true)
  (av:∀ i:Nat,i<w.heap.size->w'.heap[i]?=w.heap[i]?) {ts:List TypeId}{vs:List Value}{jL:List (DataW H)}{ps:List MemPlace}(aw:ts.all (λt=>decide (t<P.types.size))=true)
  (h:DataW.TrodAll enc P w 0 (λ_=>true) true ts vs jL ps) {sp:Nat->Bool}(je:∀ p∈ps,sp p.block=true):DataW.TrodAll enc P w' 0 sp true ts vs jL ps :=
 (Qy av h).respare (kids_rows aj hm) (slices_full_of P aX) (λt h=>of_decide_eq_true (List.all_eq_true.1 aw t h)) je
end Go.Own
namespace Go.Own
open Go
section
variable {α β:Type}{P:Program}{N:c5}{g g1:aK}{p:Place}{m:Int}{a b:Operand}{t:TypeId}
theorem ab.L5:∀ (l:List Nat) {x nd:ab}{k:Nat}{c:ab},x.at l=some nd->nd.kids[k]?=some c->x.at (l++[k])=some c
 | [],x,nd,k,c,h,hk=>by
  simp only [ab.at,Option.some.injEq] at h;subst h;simp [ab.at,hk]
 | j::l,x,nd,k,c,h,hk=>by
  simp only [ab.at] at h;cases ah:x.kids[j]? with
  | none=>rw [ah] at h; cases h
  | some y =>
   rw [ah] at h;simp only [List.cons_append,ab.at,ah];exact ab.L5 l h hk
theorem ab.P5:∀ (l:List Nat) {x nd:ab}{k:Nat}{c:ab}(y:ab),x.at l=some nd->nd.kids[k]?=some c->x.setAt (l++[k]) y=x.setAt l (nd.wg k y)
 | [],x,nd,k,c,y,h,hk=>by
  simp only [ab.at,Option.some.injEq] at h;subst h;simp [ab.setAt,hk]
 | j::l,x,nd,k,c,y,h,hk=>by
  simp only [ab.at] at h;cases ah:x.kids[j]? with
  | none=>rw [ah] at h; cases h
  | some z =>
   rw [ah] at h;simp only [List.cons_append,ab.setAt,ah];rw [ab.P5 l y h hk]
theorem MG {en:bK α}{L:List α}{jk:α}{o:Nat}{c:ab}(h:idx L m=some jk) (aa:(en.cells jk)[o]?=some c):(ak en L).kids[m.toNat * en.z+o]?=some c:=KB en h aa
theorem u1 {en:bK α}{L:List α}{jk:α}{r o:Nat}{path:List Nat}{c:ab}(au:bB g ⟨r,path⟩=some (ak en L)) (h:idx L m=some jk) (aa:(en.cells jk)[o]?=some c):bB g ⟨r,path++[m.toNat * en.z+o]⟩=some c:=by
 unfold bB at au ⊢;simp only at au ⊢;cases J:g r with
 | none=>rw [J] at au; cases au
 | some x =>
  rw [J] at au;exact ab.L5 path au (MG h aa)
theorem YX {en:bK α}{L:List α}{jk:α}{r o:Nat}{path:List Nat}{c:ab}(y:ab) (au:bB g ⟨r,path⟩=some (ak en L)) (h:idx L m=some jk) (aa:(en.cells jk)[o]?=some c) :
  cu g ⟨r,path++[m.toNat * en.z+o]⟩ y=cu g ⟨r,path⟩ (.own en.z L.length ((bo en L).set (m.toNat * en.z+o) y)):=by
 funext s;unfold cu;simp only;split
 ·rename_i e;subst e;unfold bB at au;simp only at au;cases J:g s with
  | none=>rfl
  | some x =>
   rw [J] at au;simp only [Option.map_some,Option.some.injEq];rw [ab.P5 path y au (MG h aa)];rfl
 ·rfl
theorem Zf (l:List ab) (k:Nat) (x c:ab):e5 (l.set k x) k [c]=e5 l k [c]:=by
 unfold e5;simp only [List.length_singleton];rw [List.take_set,List.drop_set];rw [List.set_eq_of_length_le (by simp; omega)];simp
theorem bm.Ds {gm:Oper}{en:bK α}{en2:bK β}{L:List α}{jk y2:α}{qS M R:List β}{o s J1:Nat}{new c3:List ab}{x2 y0:ab}{G2:List (Nat × ab)}
  (a1:gm.op=.store t a b) (aS:gm.dst=none) (aP:Rd g a (.ptr p (m.toNat * en.z+o))) (av:Rd g b (.a6 en2.z ⟨s,[]⟩ (qS.length+J1)))
  (qo:g s=some (.bL en2.z ⟨p.root,p.path++[m.toNat * en.z+o]⟩ qS.length J1 new)) (au:bB g p=some (ak en L)) (h:idx L m=some jk) (l5:(en.cells jk)[o]?=some (ak en2 qS)) (bg:Nat.beq p.root s=false)
  (h1:e7 (cu (cu g ⟨s,[]⟩ .dead) p (.own en.z L.length ((bo en L).set (m.toNat * en.z+o) .dead))) new c3 g1)
  (q_:fl c3 (bo en2 M)) (hm:M.length=J1) (aY:qS++M=R) (aX:hs P t 1=true)
  (vq:bB g1 p=some (.own en.z L.length ((bo en L).set (m.toNat * en.z+o) .dead)))
  (he:e5 (en.cells jk) o [ak en2 R]=en.cells y2) (hlen:Nat.ble (o+1) en.z=true)
  (iu:cu g1 p (ak en (L.set m.toNat y2)) p.root=some x2) (ao:(get G2 p.root).isSome=true) (rf:g1 p.root=some y0) [e8:cf y0] (c9:kN g1 (get G2) p.root x2 G2):bm P N g gm (get G2):=by
 subst hm aY;have BQ:=Nat.le_of_ble_eq_true hlen;have je:=KA en (cs':=[ak en2 (qS++M)]) h he (by simpa using BQ);have N0:(L.set m.toNat y2).length=L.length:=List.length_set;have ER:=Nat.ne_of_beq_eq_false bg;have BH:bB g ⟨p.root,p.path++[m.toNat * en.z+o]⟩=some (ak en2 qS):=u1 (g:=g) (r:=p.root) (path:=p.path) au h l5;have V9:bB (cu g ⟨s,[]⟩ .dead) p=some (ak en L):=by
  unfold bB at au ⊢;rw [uH (p:=⟨s,[]⟩) (λe=>ER e)]; exact au
 have aw:e7 g [.a6 en2.z ⟨s,[]⟩ (qS.length+M.length)] [.own en2.z (qS.length+M.length) (bo en2 qS++c3)] g1:=by
  refine .h0 qo BH bg ?_ .nil;rw [YX .dead (r:=p.root) (path:=p.path) V9 h l5];exact h1
 have hk:m.toNat * en.z+o+1<=L.length * en.z:=by
  obtain ⟨Dh,lT,_⟩:=pM h;have af:m.toNat+1<=L.length:=by omega
  calc m.toNat * en.z+o+1<=m.toNat * en.z+en.z:=by omega
   _=(m.toNat+1) * en.z:=by rw [Nat.add_mul]; omega
   _<=L.length * en.z:=Nat.mul_le_mul_right _ af
 refine .store a1 aS aP.br av.br aw.take (y':=ak en2 (qS++M)) ?_ rfl aX (p:=p) (nd:=.own en.z L.length ((bo en L).set (m.toNat * en.z+o) .dead)) (z:=en.z) (n:=L.length) (cs:=(bo en L).set (m.toNat * en.z+o) .dead) vq (.inl rfl) ?_ (by simp) (λt x J=>?_) (λt x J y ax=>?_) (λt z q n m new J=>?_) (by intro e; rw [e] at ao; cases ao)
 ·rw [<- mC]; exact (q_.pre _).own
 ·simp only [List.length_singleton,List.length_set,nn]; exact hk
 ·have fp:(ab.own en.z L.length ((bo en L).set (m.toNat * en.z+o) .dead)).e5 (m.toNat * en.z+o) [ak en2 (qS++M)]=ak en (L.set m.toNat y2):=by
   show ab.own en.z L.length (e5 ((bo en L).set (m.toNat * en.z+o) .dead) (m.toNat * en.z+o) [ak en2 (qS++M)])=_;unfold ak at je ⊢;rw [Zf,je,N0]
  rw [fp];rcases c9.spec t x J with ⟨h1,af,_⟩ | ⟨h1,af,_⟩
  ·rw [uH h1]; exact af
  ·subst h1 af; exact iu
 ·rcases c9.spec t x J with ⟨h1,af,aI⟩ | ⟨h1,af,aI⟩
  ·rw [af] at ax; cases ax;rcases aI with aI | ⟨aI,c2,rfl⟩
   ·exact aI.Ky
   ·refine jo.ref (by cases aI; rfl) ⟨aI.Pk,aI.clear ?_,aI.Fx⟩;intro e;obtain ⟨hz,pp⟩:=p;simp only at e;subst e;simp only [cu,if_true,rf,Option.map_some,ab.setAt,Option.some.injEq] at iu;cases iu
  ·subst h1; rw [rf] at ax; cases ax; exact .bl e8.bl
 ·rcases c9.spec t _ J with ⟨_,_,aI | ⟨aI,_⟩⟩ | ⟨_,_,aI⟩
  ·exact aI.fy _ _ _ _ _ rfl
  ·exact aI.fy _ _ _ _ _ rfl
  ·cases aI
end
end Go.Own
/- Short forms for printed walks. -/
namespace Go.Own
open Go
section
variable {P:Program}{N:c5}{ops:Array Oper}{bd:List (List Nat)}{g g0:aK}{K:aK->Prop}{l:List Oper}{acc:Acc}{d i:Nat}{op:Op}{ty:TypeId}{pos:String}{after:Array Edge}{x:ab}
theorem al (au:ch P g op ty x) (hk:ar P N ops l (cV g d x) K) (bc:N.ok d=true:=by rfl) (aW:g d=none:=by rfl):ar P N ops (⟨some d,op,ty,pos,after,none⟩::l) g K:=.v au bc aW .none hk
theorem gM (au:cK P g op x) (hk:ar P N ops l (cV g d x) K) (bc:N.ok d=true:=by rfl) (aW:g d=none:=by rfl):ar P N ops (⟨some d,op,ty,pos,after,none⟩::l) g K:=.c au bc aW .none hk
theorem aE (bG:Nat) (au:ch P (jC bd g0 bG acc) op ty x) (hk:bz P N ops bd g0 i ((bG,d,some x)::acc) l K) (ah:Nat.beq ops.size (bG+l.length+1)=true:=by rfl) (aW:g0 d=none:=by rfl) (aF:acc.all (λe=>!Nat.beq e.2.1 d)=true:=by rfl) (bc:N.ok d=true:=by rfl) :
  bz P N ops bd g0 i acc (⟨some d,op,ty,pos,after,none⟩::l) K:=.v bG au ah aW aF bc .none hk
theorem j6 (bG:Nat) (au:cK P (jC bd g0 bG acc) op x) (hk:bz P N ops bd g0 i ((bG,d,some x)::acc) l K) (ah:Nat.beq ops.size (bG+l.length+1)=true:=by rfl) (aW:g0 d=none:=by rfl) (aF:acc.all (λe=>!Nat.beq e.2.1 d)=true:=by rfl) (bc:N.ok d=true:=by rfl) :
  bz P N ops bd g0 i acc (⟨some d,op,ty,pos,after,none⟩::l) K:=.c bG au ah aW aF bc .none hk
end
instance {z n:Nat}{cs:List ab}:ns (.own z n cs):=⟨by simp⟩
def aH (a n:Nat) (l:List Nat):List Nat:=List.range' a n++l
end Go.Own
namespace Go.Own
open Go
section
variable {α:Type}{P:Program}{N:c5}{g:aK}{d r:Nat}{ty:TypeId}
instance {fn:Fn}{cs:List ab} [h:dp cs]:cf (.cX fn [] cs):=⟨.cX (by simp) h.bl⟩
theorem O.zP {fn:Fn}{caps:List Operand}{b:List ab}(av:Own.gp g caps=some b):ch P g (.makeFunc fn #[] caps.toArray) ty (.cX fn [] b):=.CM (.makeFunc rfl (by simpa using av))
theorem View.cl {fn:Fn}{cs cs':List ab}(h:oE g cs cs'):View g (.cX fn [] cs) (.cX fn [] cs'):=.cX h.len h.get
theorem cK.gc {c:Operand}{xs:List Operand}{gq:Array TypeId}{f:FuncId}{ys caps:List ab}{outs:List (Option ab)}{res:ab}(aa:Rd g c (.cX (.func f) [] caps)) (J:qU g xs ys) (gQ:bU P f (ys++caps) outs res) (aW:gO P f=true) (a1:sj outs=true) [xe:dp caps] [ao:cf res] :
  cK P g (.call { callee:=.value c,args:=xs.toArray,argTypes:=gq }) res:=by
 have e:=Pb a1 gQ.1;refine .plain (first:=[]) (caps:=caps) (ys:=ys) aa.br (by simpa using J.spec.1) aW (λy ax=>?_) ?_ ao.bl
 ·rw [List.nil_append] at ax;rcases List.mem_append.1 ax with h | h
  ·exact J.spec.2 y h
  ·exact xe.bl y h
 ·rw [List.nil_append,<- e]; exact gQ
theorem hM.jz {o:Oper}{xs:List Operand}{gq:Array TypeId}{f:FuncId}{ys args:List ab}{res:ab}{en:bK α}{L L':List α}{G2:List (Nat × ab)}(a1:o.op=.call { callee:=.value (.func f),args:=xs.toArray,argTypes:=gq }) (aS:o.dst=some d) (J:Own.gp g xs=some (.a6 en.z ⟨r,[]⟩ L.length::ys))
  (aB:g r=some (ak en L)) (hv:oE (get ((r,.dead)::G2)) ys args) (gQ:bU P f (ak en L::args) (some (ak en L')::args.map λ_=>none) res) (aW:gO P f=true) [ao:p6 res] [kV:p6 (ak en L')]
  (c9:Trim false (cu g ⟨r,[]⟩ .dead) (get ((r,.dead)::G2)) G2) (aO:get G2 d=none) (r7:Nat.beq r d=false) (By:Trim false (get ((r,ak en L')::G2)) (get ((r,ak en L')::G2)) G2) (bc:N.ok d=true) :
  hM P N g o d (get ((d,res)::(r,ak en L')::G2)):=by
 have I2:r≠d:=Nat.ne_of_beq_eq_false r7;have Hs:get ((r,ab.dead)::G2) r=some .dead:=by simp [get]
 have mY:∀ x∈bo en L,cU x:=by
  intro x J;obtain ⟨a,_,aP⟩:=List.mem_flatMap.1 J;exact en.bl a x aP
 have gb:(bo en L).take (L.length * en.z)=bo en L:=List.take_of_length_le (by rw [nn]; exact Nat.le_refl _);have xI:hF (cu g ⟨r,[]⟩ .dead) (get ((r,.dead)::G2)):=by
  refine ⟨λt x h=>?_,λt x h=>?_,λt z q n m new h=>?_⟩
  all_goals
   simp only [get] at h
   split at h
  ·rename_i e; subst e; cases h; simp [cu,aB,ab.setAt]
  ·obtain ⟨⟨y,h1,_,aI⟩,_⟩:=c9.spec t x h; rw [<- aI rfl]; exact h1
  ·cases h; exact .bl .dead
  ·exact (c9.spec t x h).2.1
  ·cases h
  ·exact (c9.spec t _ h).2.2 _ _ _ _ _ rfl
 have put:qE (get ((r,.dead)::G2)) [(⟨r,[]⟩,ak en L')]=get ((r,ak en L')::G2):=by
  funext t;simp only [qE,cu,get];by_cases h:t=r
  ·simp [h,ab.setAt]
  ·simp [h]
 have xJ:hF (get ((r,ak en L')::G2)) (get ((r,ak en L')::G2)):=by
  refine ⟨λt x h=>h,λt x h=>?_,λt z q n m new h=>?_⟩
  all_goals
   simp only [get] at h
   split at h
  ·cases h; exact .bl kV.lu.bl
  ·exact (By.spec t x h).2.1
  ·cases h
  ·exact (By.spec t _ h).2.2 _ _ _ _ _ rfl
 have aj:=hv.len;have rQ:get ((d,res)::(r,ak en L')::G2)=cV (get ((r,ak en L')::G2)) d res:=by
  funext t;rw [sD]
 rw [rQ];refine yI.ok (first:=[]) (caps:=[]) (ys:=.a6 en.z ⟨r,[]⟩ L.length::ys) (tk:=λk=>k == 0) (vw:=true) (outs:=some (ak en L')::args.map λ_=>none) (g1:=cu g ⟨r,[]⟩ .dead) (g2:=get ((r,.dead)::G2)) (g4:=get ((r,ak en L')::G2)) (l:=[(⟨r,[]⟩,ak en L')]) (ks:=λ_=>0) (xs0:=.a6 en.z ⟨r,[]⟩ L.length::ys.map λ_=>.dead) (xs1:=ak en L::ys.map λ_=>.dead) (args:=ak en L::args) (res:=res) a1 aS rfl (by simpa using J)
  ⟨aW,by simp,by simpa using aj,λk x h=>?_,?_,xI,λk x y J ax=>?_,gQ,by simpa using ao.lu,λk x h=>?_,λj p x ah=>?_,by simp,λi j hi ah _=>by simp at hi ah; omega,by rw [put]; exact xJ⟩ ?_ bc wy.refl
 ·simp only [List.nil_append,List.append_nil] at h;cases k with
  | zero=>exact .inl h
  | succ k =>
   refine .inr ?_;simp only [List.getElem?_cons_succ] at h ⊢;rw [List.getElem?_map,h]; rfl
 ·have h1:Take (cu g ⟨r,[]⟩ .dead) ((bo en L).take (L.length * en.z)) (bo en L) (cu g ⟨r,[]⟩ .dead):=by rw [gb]; exact .bl mY
  refine .a6 (N:=L.length) (by simp [bB,aB,ab.at]) (Nat.le_refl _) h1 (.bl λx J=>?_);obtain ⟨_,_,rfl⟩:=List.mem_map.1 J;exact .dead
 ·simp only [List.nil_append,List.append_nil] at J;cases k with
  | zero=>simpa using ax
  | succ k =>
   simp only [List.getElem?_cons_succ] at J ax;exact ⟨rfl,hv.get k x y J ax⟩
 ·cases k with
  | zero=>simp only [List.getElem?_cons_zero,Option.some.injEq] at h; subst h; exact kV.lu
  | succ k =>
   simp only [List.getElem?_cons_succ,List.getElem?_map] at h;cases aP:args[k]? <;> rw [aP] at h <;> cases h
 ·cases j with
  | succ j=>simp at ah
  | zero =>
   simp only [List.getElem?_cons_zero,Option.some.injEq,Prod.mk.injEq] at ah;obtain ⟨rfl,rfl⟩:=ah;exact ⟨rfl,by simp [bB,Hs,ab.at],.inl ⟨en.z,L.length,bo en L,rfl,by simp [bB,aB,ab.at]⟩⟩
 ·simp only [get,if_neg (Ne.symm I2)]; exact aO
end
end Go.Own
namespace Go.Own
open Go Go.Proofs Go.Shelf Go.Lib Go.Sort
section
variable {P:Program}{w:World}
def zY {α:Type} [DecidableEq α] (lt:α->α->Bool) (l:List α):Bool :=
 l.all λa=>!lt a a&&l.all λb=>(lt a b||lt b a||decide (a=b))&&l.all λc=>(!(lt a b&&lt b c)||lt a c)&&(lt a b||lt b c||!lt a c)
def kD {α:Type}(fT:α->α->Option Int) (a b:α):Bool:=decide ((fT a b).getD 0<0)
def ins {α:Type}(lt:α->α->Bool) (x:α):List α->List α
 | []=>[x]
 | y::l=>if lt y x then y::ins lt x l else x::y::l
def ia {α:Type}(lt:α->α->Bool):List α->List α
 | []=>[]
 | x::l=>ins lt x (ia lt l)
theorem Jx {α:Type}(lt:α->α->Bool) (x:α):∀ l:List α,(ins lt x l).Perm (x::l)
 | []=>.refl _
 | y::l=>by
  unfold ins;split
  ·exact ((Jx lt x l).cons y).trans (.swap x y l)
  ·exact .refl _
theorem sV {α:Type}(lt:α->α->Bool):∀ l:List α,(ia lt l).Perm l
 | []=>.refl _
 | x::l=>(Jx lt x _).trans ((sV lt l).cons x)
theorem OH {α:Type}{lt:α->α->Bool}(bj:SWO lt) (x:α):∀ l:List α,l.Pairwise (λa b=>(!lt b a)=true)->(ins lt x l).Pairwise λa b=>(!lt b a)=true
 | [],_=>List.pairwise_singleton _ _
 | y::l,h=>by
  obtain ⟨h1,af⟩:=List.pairwise_cons.1 h;unfold ins;split
  ·rename_i aT;refine List.pairwise_cons.2 ⟨λz aX=>?_,OH bj x l af⟩;rcases List.mem_cons.1 ((Jx lt x l).mem_iff.1 aX) with rfl | aX
   ·cases aa:lt z y with
    | false=>rfl
    | true=>have:=bj.trans _ _ _ aT aa; rw [bj.irrefl] at this; cases this
   ·exact h1 z aX
  ·rename_i aT;have aT:lt y x=false:=by simpa using aT
   refine List.pairwise_cons.2 ⟨λz aX=>?_,h⟩;rcases List.mem_cons.1 aX with rfl | aX
   ·rw [aT]; rfl
   ·have aX:=h1 z aX;simp only [Bool.not_eq_true'] at aX ⊢;exact bj.ntrans _ _ _ aX aT
theorem E9 {α:Type}{lt:α->α->Bool}(bj:SWO lt):∀ l:List α,(ia lt l).Pairwise λa b=>(!lt b a)=true
 | []=>.nil
 | x::l=>OH bj x _ (E9 bj l)
theorem OM {α:Type}{lt:α->α->Bool}(bj:SWO lt) (dM:∀ x y,lt x y=false->lt y x=false->x=y) (l:List α):l.mergeSort (λx y=>!lt y x)=ia lt l:=by
 refine List.Perm.eq_of_pairwise (le:=λx y=>(!lt y x)=true) (λa b _ _ h1 af=>?_) (List.pairwise_mergeSort (λa b c h1 af=>?_) (λa b=>?_) l) (E9 bj l) ((List.mergeSort_perm _ _).trans (sV lt l).symm)
 ·simp only [Bool.not_eq_true'] at h1 af;exact dM a b af h1
 ·simp only [Bool.not_eq_true'] at h1 af ⊢;exact bj.ntrans _ _ _ af h1
 ·cases h1:lt b a with
  | false=>rfl
  | true =>
   cases af:lt a b with
   | false=>rfl
   | true=>have:=bj.trans _ _ _ h1 af; rw [bj.irrefl] at this; cases this
theorem OG {α β:Type}{lt:α->α->Bool}{lt':β->β->Bool}{f:α->β}(h:∀ a b,lt a b=lt' (f a) (f b)) (x:α):∀ l:List α,(ins lt x l).map f=ins lt' (f x) (l.map f)
 | []=>rfl
 | y::l=>by
  simp only [ins,List.map_cons,h];split
  ·rw [List.map_cons,OG h x l]
  ·rfl
theorem E8 {α β:Type}{lt:α->α->Bool}{lt':β->β->Bool}{f:α->β}(h:∀ a b,lt a b=lt' (f a) (f b)):∀ l:List α,(ia lt l).map f=ia lt' (l.map f)
 | []=>rfl
 | x::l=>by simp only [ia,List.map_cons,OG h,E8 h l]
def pW {α:Type} [DecidableEq α] (fT:α->α->Option Int) (l:List α):Option (List α) :=
 if (l.all λa=>l.all λb=>(fT a b).isSome)&&zY (kD fT) l&&decide (l.length<4611686018427387904) then some (ia (kD fT) l) else none
theorem M6 {w':World}(h:Fr w w' λ_=>False):∃ q os,w'=grow (w.drewN q) os:=by
 refine ⟨w'.drawn - w.drawn,w'.heap.extract w.heap.size w'.heap.size,?_⟩;obtain ⟨h1,af,aI,bF,cG,eh,mT⟩:=h;obtain ⟨au,adt,w0,os,out⟩:=w';simp only at h1 af aI bF cG mT;subst h1 af aI;unfold grow World.drewN;simp only [World.mk.injEq,true_and,and_true];refine ⟨?_,by omega⟩;apply Array.ext_getElem?;intro k;rw [Array.getElem?_append];by_cases hk:k<w.heap.size
 ·rw [if_pos hk]; exact cG k hk λh=>h
 ·rw [if_neg hk,Array.getElem?_extract];by_cases fW:k<au.size
  ·rw [if_pos (by omega),show w.heap.size+(k - w.heap.size)=k by omega]
  ·rw [if_neg (by omega),Array.getElem?_eq_none (by omega)]
theorem PO (l:List Int):bo ai l=l.map ae:=by
 induction l with
 | nil=>rfl
 | cons a l aU =>
  show ai.cells a++bo ai l=_;rw [aU]; rfl
theorem Qk {vs:List Value}{v0 v1:Value}(xo:vs=[v0,v1]) {I:bb}{Fs:Nat->bb}{g:aK}(bj:cI w I vs.toArray g Fs) {w':World}{e:TypeId}{r:List Int}(a1:w'.ownsRow 0 e 1 v0 r.length (r.map (Value.int .i64))) (aN:∀ c,Fs 0 c↔v0.ownBlock=some c) (oO:Fr w w' λc=>Fs 0 c) :
  ∃ v I' b7,Ending.returned (.tuple #[])=.returned v/\cI w' I' (vs++[v]).toArray (k3 [some (ak ai r),none] (.bV [])) b7/\kq w I (λc=>∃ t,Fs t c) w' I' (λc=>∃ t,b7 t c):=by
 subst xo;refine ⟨_,I,λt=>if t=0 then Fs 0 else cw,rfl,⟨λt x J=>?_,λt aw c aa=>?_,λt t' c aa fo=>?_,λt c aa=>?_,λc aa=>Nat.lt_of_lt_of_le (bj.lt c aa) oO.size,λt t' z p n m new bC cH m' c3 h1 af=>?_⟩,⟨?_,λc h=>h,λc h=>.inl h,λc aa=>?_⟩⟩
 ·unfold k3 at J
  split at J
  ·rename_i aw;have aw:t=2:=aw;subst aw;cases J;exact ⟨.tuple #[],rfl,.tree (.bV (Fs:=λ_=>cw) rfl (λk x u h=>by simp at h) (λj k c h=>by simp at h) (λc=>⟨λh=>h.elim,λ⟨k,h,_⟩=>by simp at h⟩))⟩
  ·match t,J with
   | 0,J =>
    cases J;refine ⟨v0,rfl,.tree ?_⟩;show R w' I _ (.own 1 r.length (bo ai r)) v0 (Fs 0);rw [PO];refine .own (Fs:=λ_=>cw) a1 (by simp) (λk u hu=>?_) (λk x u J hu=>?_) (λ_ _ _ _ _ h=>h.elim) (λ_ _ _ h=>h.elim) (λc=>⟨λh=>.inl ((aN c).1 h),λh=>?_⟩)
    ·rw [List.getElem?_map] at hu;cases hk:r[k]? <;> rw [hk] at hu <;> cases hu;rfl
    ·rw [List.getElem?_map] at J hu;cases hk:r[k]? <;> rw [hk] at J hu <;> cases J <;> cases hu;exact .lit rfl λ_ h=>h
    ·rcases h with h | ⟨_,_,h⟩
     ·exact (aN c).2 h
     ·exact h.elim
   | 1,J=>cases J
   | t+2,J=>cases J
 ·have aQ:¬ t=0:=λe=>by subst e; exact absurd aw (by simp [k3])
  simp only [if_neg aQ] at aa;exact aa
 ·have key:∀ {t:Nat},(if t=0 then Fs 0 else cw) c->t=0:=λ{t} h=>by
   by_cases aQ:t=0
   ·exact aQ
   ·rw [if_neg aQ] at h; exact h.elim
  rw [key aa,key fo]
 ·by_cases aQ:t=0
  ·simp only [if_pos aQ] at aa; exact bj.bk 0 c aa
  ·simp only [if_neg aQ] at aa; exact aa.elim
 ·unfold k3 at h1
  split at h1
  ·cases h1
  ·match t,h1 with
   | 0,h1=>cases h1
   | 1,h1=>cases h1
   | t+2,h1=>cases h1
 ·exact oO.mono λb _ av=>⟨0,av⟩
 ·obtain ⟨t,aw⟩:=aa;by_cases aQ:t=0
  ·simp only [if_pos aQ] at aw; exact .inl ⟨0,aw⟩
  ·simp only [if_neg aQ] at aw; exact aw.elim
theorem Pn {α:Type} [DecidableEq α] {lt:α->α->Bool}{l:List α}(h:zY lt l=true):∀ a∈l,lt a a=false/\∀ b∈l,(lt a b=true\/lt b a=true\/a=b)/\∀ c∈l,((lt a b=true/\lt b c=true)->lt a c=true)/\(lt a b=true\/lt b c=true\/lt a c=false):=by
 intro a aP;unfold zY at h;have h1:=List.all_eq_true.1 h a aP;simp only [Bool.and_eq_true,Bool.not_eq_true',List.all_eq_true,Bool.or_eq_true,decide_eq_true_eq] at h1;refine ⟨h1.1,λb av=>?_⟩;obtain ⟨af,aI⟩:=h1.2 b av;refine ⟨by rcases af with (h | h) | h <;> simp [h],λc aa=>?_⟩;obtain ⟨bF,cG⟩:=aI c aa;refine ⟨λ⟨x,y⟩=>?_,by rcases cG with (h | h) | h <;> simp [h]⟩;rcases bF with h | h
 ·rw [x,y] at h; cases h
 ·exact h
theorem Qj {α:Type} [DecidableEq α] {fT:α->α->Option Int}{l r:List α}(h:pW fT l=some r):(∀ a∈l,∀ b∈l,(fT a b).isSome=true)/\zY (kD fT) l=true/\l.length<4611686018427387904/\r=ia (kD fT) l:=by
 unfold pW at h
 split at h
 ·rename_i aa;simp only [Bool.and_eq_true,List.all_eq_true,decide_eq_true_eq] at aa;exact ⟨aa.1.1,aa.1.2,aa.2,(Option.some.inj h).symm⟩
 ·cases h
theorem NM {α:Type} [Inhabited α] {enc:α->Value}{b n:Nat}{d:Array α}{os:Array Obj}{cur:Array Value}{e:TypeId}{eR:Nat × Nat}(av:w.heap[b]?=some (.cells cur e eR)) :
  (sortWorld enc w b 0 n d os).heap[b]?=some (.cells (putCells enc 0 d cur) e eR):=by
 have aT:b<w.heap.size:=(Array.getElem?_eq_some_iff.1 av).1;unfold sortWorld;rw [heap_grow_old _ _ (by rw [Go.Sort.size_putRow]; exact aT)];unfold putRow mapBlock;have q5:(Go.Sort.ahead w n).heap=w.heap:=rfl;simp only [q5,Array.getElem?_modify,if_true,av,Option.map_some,onCells]
theorem Iv {α:Type} [Inhabited α] {enc:α->Value}{b n c:Nat}{d:Array α}{os:Array Obj}(aa:c<w.heap.size) (dq:c≠b) :
  (sortWorld enc w b 0 n d os).heap[c]?=w.heap[c]?:=by
 unfold sortWorld;rw [heap_grow_old _ _ (by rw [Go.Sort.size_putRow]; exact aa)];unfold putRow mapBlock;have q5:(Go.Sort.ahead w n).heap=w.heap:=rfl;simp only [q5,Array.getElem?_modify,if_neg (Ne.symm dq)]
theorem M0 {α:Type} [Inhabited α] {enc:α->Value}{b n:Nat}{d:Array α}{os:Array Obj}{U:bb}(ga:U b):Fr w (sortWorld enc w b 0 n d os) U:=by
 refine ⟨rfl,rfl,rfl,?_,λc aa aF=>Iv aa λe=>aF (e ▸ ga),λa aP=>?_,?_⟩
 ·unfold sortWorld; rw [size_grow,Go.Sort.size_putRow]; exact Nat.le_add_right _ _
 ·unfold sortWorld;rw [frozen?_grow _ _ _ (by rw [Go.Sort.size_putRow]; exact aP),Go.Sort.frozen?_putRow]; rfl
 ·show w.drawn<=w.drawn+n;exact Nat.le_add_right _ _
theorem PH {α:Type} [Inhabited α] {enc:α->Value}{d:Array α}{cur:Array Value}(h:d.size<=cur.size):(putCells enc 0 d cur).toList.take d.size=d.toList.map enc:=by
 apply List.ext_getElem?;intro k;rw [List.getElem?_take,List.getElem?_map];by_cases hk:k<d.size
 ·rw [if_pos hk,Array.getElem?_toList,Array.getElem?_toList];have aa:k<cur.size:=by omega
  simp only [putCells,Array.getElem?_mapIdx,Array.getElem?_eq_getElem aa,Array.getElem?_eq_getElem hk,Option.map_some];rw [if_pos ⟨Nat.zero_le _,by omega⟩,Nat.sub_zero];simp [getElem!_pos,hk]
 ·rw [if_neg hk,Array.getElem?_toList,Array.getElem?_eq_none (by omega)]; rfl
theorem bU.KS {ρ:Ren}(L:SlLaysF.n6 P ρ) {g:FuncId}{caps:List ab} [xe:dp caps] (aO:gO P g=true) {l r:List Int}{fT:Int->Int->Option Int}(h:pW fT l=some r)
  (aa:∀ a b v,fT a b=some v->bU P g (ae a::ae b::caps) (none::none::caps.map λ_=>none) (ae v)) :
  bU P (ρ.f 6) [ak ai l,.cX (.func g) [] caps] [some (ak ai r),none] (.bV []):=by
 refine ⟨rfl,λw I vs Fs aj bj=>?_⟩;obtain ⟨v0,v1,rfl⟩:∃ v0 v1,vs=[v0,v1]:=by
  match vs,aj with
  | [a,b],_=>exact ⟨a,b,rfl⟩
 obtain ⟨xm,ln,I3,rfl⟩:=Qj h;obtain ⟨u,hu,aY⟩:=bj.rel 0 (ak ai l) rfl;obtain rfl:v0=u:=by simpa using hu
 replace aY:=aY.gI (by simp);obtain ⟨u,hu,qk⟩:=bj.rel 1 (.cX (.func g) [] caps) rfl;obtain rfl:v1=u:=by simpa using hu
 replace qk:=qk.gI (by simp);rw [show ak ai l=.own 1 l.length (bo ai l) from rfl,PO] at aY
 cases aY with
 | ref J=>simp [ab.isRef] at J
 | @own _ _ _ _ e us bM _ a1 xh hy ao aS av aN =>
 cases qk with
 | ref J=>simp [ab.isRef] at J
 | @cX _ _ _ aD ka _ zl h1 af kB iO =>
 obtain rfl:aD=#[]:=Array.eq_empty_of_size_eq_zero (by simpa using h1.symm);have mo:∀ c,Fs 0 c↔v0.ownBlock=some c:=by
  intro c;refine ⟨λaa=>?_,λaa=>(aN c).2 (.inl aa)⟩;rcases (aN c).1 aa with h | ⟨k,hk,h⟩
  ·exact h
  ·have J:=List.getElem?_eq_getElem hk;have hu:=List.getElem?_eq_getElem (xh ▸ hk);have aY:=ao k _ _ J hu;rw [List.getElem_map] at aY;generalize us[k]=hb at aY;cases aY with
   | lit _ aW=>exact (aW c h).elim
   | ref J=>simp [ab.isRef] at J
 have l8:us=l.map (Value.int .i64):=by
  apply List.ext_getElem?;intro k;by_cases hk:k<us.length
  ·have h':k<(l.map ae).length:=xh.symm ▸ hk;have J:=List.getElem?_eq_getElem h';have hu:=List.getElem?_eq_getElem hk;have aY:=ao k _ _ J hu;rw [List.getElem_map] at aY;rw [hu,aY.hD.1,List.getElem?_map,List.getElem?_eq_getElem (by simpa using h')]; rfl
  ·rw [List.getElem?_eq_none (by omega),List.getElem?_eq_none (by rw [List.length_map] at xh ⊢; omega)]
 subst l8;have B2:=sV (kD fT) l;have hlen:=B2.length_eq;by_cases xj:l=[]
 ·subst xj;have jd:∃ p cap,v0=.slice p 0 cap:=by
   rcases a1.2 with ⟨rfl,_⟩ | ⟨b,cap,cur,rfl,_⟩
   ·exact ⟨_,_,rfl⟩
   ·exact ⟨_,_,rfl⟩
  obtain ⟨p,cap,rfl⟩:=jd;refine (AnyF.slices_SortFunc_none { L with } p cap _ w).mono ?_;rintro cj w' ⟨rfl,rfl⟩;exact Qk rfl bj (e:=e) (r:=[]) a1 mo (Fr.refl _ _)
 ·obtain ⟨N1,Io⟩:=a1;rcases Io with ⟨rfl,aQ⟩ | ⟨b,cap,cur,rfl,_,tZ,hle,IU,fX,gb⟩
  ·exact absurd (List.eq_nil_of_length_eq_zero aQ) xj
  rw [Nat.mul_one] at fX gb;have tW:Fs 0 b:=(mo b).2 rfl;have Ik:b<w.heap.size:=(Array.getElem?_eq_some_iff.1 tZ).1;obtain ⟨a0,w7⟩:=List.exists_mem_of_ne_nil l xj
  let α:={ x:Int // x∈l }
  haveI:Inhabited α:=⟨⟨a0,w7⟩⟩
  let enc:α->Value:=λx=>.int .i64 x.1
  let kR:α->α->Int:=λx y=>(fT x.1 y.1).getD 0;have aT:∀ x y:α,ltOf kR x y=kD fT x.1 y.1:=λx y=>rfl
  let d:Array α:=l.attach.toArray;have zs:d.size=l.length:=by show (l.attach.toArray).size=l.length; rw [List.size_toArray,List.length_attach]
  have je:=Pn ln;have hO:SWO (ltOf kR):=by
   refine ⟨λx=>by rw [aT]; exact (je x.1 x.2).1,λx y z=>?_,λx y z=>?_⟩
   ·rw [aT,aT,aT];exact λp q=>(((je x.1 x.2).2 y.1 y.2).2 z.1 z.2).1 ⟨p,q⟩
   ·rw [aT,aT,aT];intro p q;rcases (((je x.1 x.2).2 y.1 y.2).2 z.1 z.2).2 with h | h | h
    ·rw [p] at h; cases h
    ·rw [q] at h; cases h
    ·exact h
  have dM:∀ x y:α,ltOf kR x y=false->ltOf kR y x=false->x=y:=by
   intro x y p q;rw [aT] at p q;rcases ((je x.1 x.2).2 y.1 y.2).1 with h | h | h
   ·rw [p] at h; cases h
   ·rw [q] at h; cases h
   ·exact Subtype.ext h
  have l5:∀ j,j<l.length->cur[j]?=some (.int .i64 l[j]!):=by
   intro j ah;have:=congrArg (λt=>t[j]?) gb;simp only [List.getElem?_take,if_pos ah,Array.getElem?_toList,List.getElem?_map,List.getElem?_eq_getElem ah,Option.map_some] at this;rw [this,getElem!_pos l j ah]
  have hH:Holds enc w b 0 d:=by
   intro j ah;rw [zs] at ah;refine ⟨?_,?_⟩
   ·unfold World.cell?;simp only [tZ,Nat.zero_add];show cur[j]?=_;rw [l5 j ah];show some (Value.int .i64 l[j]!)=some (.int .i64 (d[j]!).1);have:(d[j]!).1=l[j]! := by
     rw [getElem!_pos d j (by omega),getElem!_pos l j ah];show (l.attach.toArray[j]'_).val=_;rw [List.getElem_toArray,List.getElem_attach]
    rw [this]
   ·unfold World.frozen?;simp only [tZ];simp
  have HA:∀ args w,(callFunc g args).run P w=.ok (.enter g args) w:=λargs w=>Be aO args;have Ir:CmpLays1 P g ka enc kR b 0 d.size w:=by
   intro m os Bi zr x y;have rb:=xm x.1 x.2 y.1 y.2;obtain ⟨v,hv⟩:=Option.isSome_iff_exists.1 rb;have Ip:kR x y=v:=by show (fT x.1 y.1).getD 0=v; rw [hv]; rfl
   have H_:cI (sortWorld enc w b 0 m Bi os) I #[] (λ_=>none) (λ_=>cw):=by
    refine ⟨λ_ _ h=>(by cases h),λ_ _ _ h=>h,λ_ _ _ h=>h.elim,λ_ _ h=>h.elim,λc aa=>?_,λ_ _ _ _ _ _ _ _ _ _ _ h=>(by cases h)⟩;have:=bj.lt c aa;unfold sortWorld;rw [size_grow,Go.Sort.size_putRow];exact Nat.lt_of_lt_of_le this (Nat.le_add_right _ _)
   have sH:=H_.args (I':=I) (λc h=>.inl h) (args:=ae x.1::ae y.1::caps) (vs:=enc x::enc y::ka.toList) (by simp [af]) (λρ' k z u aX hu=>?_)
   ·have pA:=(aa x.1 y.1 v hv).2 _ I (enc x::enc y::ka.toList) _ (by simp [af]) sH;have kd:(enc x::enc y::ka.toList).toArray=#[enc x,enc y]++ka:=by
     apply Array.ext';simp
    rw [kd] at pA;refine pA.mono ?_;rintro cj w' ⟨gx,I',b7,rfl,d_,b1⟩;obtain ⟨u,hu,mV⟩:=d_.rel (caps.length+2) (ae v) (by simp [k3]);have I_:u=gx:=by
     have:(enc x::enc y::ka.toList).length=caps.length+2:=by simp [af]
     rw [List.getElem?_toArray,<- this] at hu;simpa using hu.symm
    subst I_;have oa:=(mV.gI (by simp)).hD.1;subst oa;refine ⟨by rw [Ip],?_⟩;exact M6 (b1.eR.mono λc _ ⟨_,bY⟩=>bY)
   ·match k,aX,hu with
    | 0,aX,hu=>cases aX; cases hu; exact .lit rfl λ_ h=>h
    | 1,aX,hu=>cases aX; cases hu; exact .lit rfl λ_ h=>h
    | k+2,aX,hu =>
     simp only [List.getElem?_cons_succ] at aX hu;have zn:=(iO k z u aX (by simpa using hu)).bl (ρ':=ρ') (xe.bl z (List.mem_of_getElem? aX));refine zn.frame (λc aa=>?_) (λ_ h=>h) (λ_ _ h=>h) (λc h=>h.elim);exact Iv (bj.lt c aa) λe=>bj.bk 0 c (e ▸ tW) aa
  have BR:=Any.slices_SortFunc_total L enc (λ_=>rfl) kR hO g ka b 0 cap d w HA Ir hH Ik (by rw [zs]; exact I3) dM;rw [zs] at BR;refine BR.mono ?_;rintro cj w' ⟨rfl,n,os,rfl⟩;have pF:(d.toList.mergeSort λx y=>!ltOf kR y x).map enc=(ia (kD fT) l).map (Value.int .i64):=by
   rw [OM hO dM];have hm:(ia (ltOf kR) l.attach).map Subtype.val=ia (kD fT) (l.attach.map Subtype.val):=E8 (lt:=ltOf kR) (lt':=kD fT) (f:=Subtype.val) (λa b=>aT a b) l.attach;rw [List.attach_map_subtype_val] at hm;rw [<- hm,List.map_map];rfl
  have NK:(d.toList.mergeSort λx y=>!ltOf kR y x).toArray.size=l.length:=by
   rw [List.size_toArray,(List.mergeSort_perm _ _).length_eq];show (l.attach.toArray).toList.length=l.length;simp
  refine Qk rfl bj (e:=e) (r:=ia (kD fT) l) ⟨by simp,.inr ⟨b,cap,_,by rw [hlen],Nat.zero_le _,NM tZ,by omega,IU,?_,?_⟩⟩ mo (M0 tW)
  ·rw [Nat.mul_one,<- fX];simp [putCells]
  ·rw [Nat.mul_one,hlen,<- NK,PH (by rw [NK]; omega),<- pF]
end
end Go.Own
namespace Go.Own
open Go
section
variable {α:Type}{P:Program}{N:c5}{g g1 g2 g3:aK}{ops:Array Oper}{bd:List (List Nat)}{acc:Acc}{l:List Oper}{K:aK->Prop}{i d r:Nat}
theorem cI.settle {w:World}{I:bb}{T:Array Value}{Fs:Nat->bb}(h:cI w I T g Fs) (a:Act) (aP:a.tmps=T) {ts:List Nat}{xs ys:List ab}(J:Own.gp g (ts.map Operand.tmp)=some xs) (aw:Take g xs ys g1) (fp:ts.Nodup) (aj:ys.length=ts.length) (aS:∀ t∈ts,g1 t=some .dead)
  (hk:hF (qE g1 ((ts.map λt=>(⟨t,[]⟩:Place)).zip ys)) g2):∃ b7,cI w I T g2 b7/\∀ c,(∃ t,b7 t c)->∃ t,Fs t c:=by
 obtain ⟨Jo,W9⟩:=zX h aP J;have W8:xs.length=ts.length:=by rw [Jo,List.length_map]
 have hand:Hand w I (fA w T) Fs xs (ts.map λt=>a.eval (.tmp t)) (λ_=>cw):=by
  refine ⟨by rw [W8,List.length_map],λk x u oR hu=>?_,λ_ _ _ _ _ h=>h.elim,λ_ _ _ _ h=>h.elim,λ_ _ _ h=>h.elim⟩;rw [List.getElem?_map] at hu;cases gb:ts[k]? with
  | none=>rw [gb] at hu; cases hu
  | some t =>
   rw [gb] at hu; cases hu;exact (W9 k x (.tmp t) oR (by rw [List.getElem?_map,gb]; rfl)).frame (λ_ _=>rfl) (λ_ h=>h) (λ_ _ h=>h.1) λ_ _=>rfl
 obtain ⟨f_,H1,jc,iL,hQ⟩:=aw.sound h.mF hand;have vB:((ts.map λt=>(⟨t,[]⟩:Place)).zip ys).length=ts.length:=by rw [List.length_zip,List.length_map,aj]; exact Nat.min_self _
 obtain ⟨iZ,h9,aN⟩:=jG.qE ((ts.map λt=>(⟨t,[]⟩:Place)).zip ys) H1 (λj=>((ts.map λt=>a.eval (.tmp t))[j]?).getD undef) jc (by
   rw [List.map_fst_zip (by rw [List.length_map,aj]; exact Nat.le_refl _)];exact List.Pairwise.map _ (λa b h e=>h (congrArg Place.root e)) fp) (λj p x ah=>by
   rw [List.getElem?_zip_eq_some] at ah;obtain ⟨h1,af⟩:=ah;rw [List.getElem?_map] at h1;cases gb:ts[j]? with
   | none=>rw [gb] at h1; cases h1
   | some t =>
    rw [gb] at h1; cases h1;have NL:=aS t (List.mem_of_getElem? gb);obtain ⟨v,hv,_⟩:=jc.rel t .dead NL;have tY:a.eval (.tmp t)=v:=by simp [Act.eval,aP,hv]
    have I9:(ts.map λt=>a.eval (.tmp t))[j]?=some v:=by rw [List.getElem?_map,gb]; simp [tY]
    refine ⟨by simp [bB,NL,ab.at],?_,?_⟩
    ·rw [I9];show dY w T ⟨t,[]⟩=some v;unfold dY;simp only [hv,walk]
    ·rw [I9];exact iL.rel j x v af I9) (λj t c ah aa=>iL.off j t c (by omega) aa) (λj c ah aa=>iL.bk j c (by omega) aa) (λi j c hi ah h1 af=>iL.eK i j c (by omega) (by omega) h1 af)
 refine ⟨_,h9.keep hk,λc ⟨t,_,aa⟩=>?_⟩;have:lB f_ ys.length H1 c:=by
  rcases aN t c aa with h | ⟨j,ah,h⟩
  ·exact .inl ⟨t,h⟩
  ·exact .inr ⟨j,by omega,h⟩
 rcases hQ c this with h | ⟨_,_,h⟩
 ·exact h
 ·exact h.elim
theorem iw.settle {o:Oper}{ts:List Nat}{xs ys:List ab}(J:Own.gp g (ts.map Operand.tmp)=some xs) (aw:Take g xs ys g1) (fp:ts.Nodup) (aj:ys.length=ts.length) (aS:∀ t∈ts,g1 t=some .dead)
  (hk:hF (qE g1 ((ts.map λt=>(⟨t,[]⟩:Place)).zip ys)) g2) (he:iw P N g2 o g3):iw P N g o g3:=by
 intro w I T Fs bj a aP bc K Q di;obtain ⟨b7,d_,ga⟩:=bj.settle a aP J aw fp aj aS hk;refine he w I T b7 d_ a aP bc K Q λca w' aF aw=>di ca w' ?_ aw;obtain ⟨cy,b9,I',iZ,h1,af⟩:=aF;exact ⟨cy,b9,I',iZ,h1,kq.trans ⟨Fr.refl _ _,λ_ h=>h,λ_ h=>.inl h,λc h=>.inl (ga c h)⟩ af⟩
theorem RI {Q:Nat->Prop}{a:Nat}(aP:Q a):∀ t∈[a],Q t:=λt aw=>by rw [List.mem_singleton.1 aw]; exact aP
theorem wF {Q:Nat->Prop}{a b:Nat}(aP:Q a) (av:Q b):∀ t∈[a,b],Q t:=λt aw=>by
 rcases List.mem_cons.1 aw with rfl | aw
 ·exact aP
 ·rw [List.mem_singleton.1 aw]; exact av
def FH (p q:Place):Bool:=Nat.beq p.root q.root&&p.path == q.path
def CC:List Place->Bool
 | []=>true
 | x::l=>l.all (λy=>!FH x y)&&CC l
theorem O5:∀ {l:List Place},CC l=true->l.Nodup
 | [],_=>List.nodup_nil
 | p::l,h=>by
  simp only [CC,Bool.and_eq_true,List.all_eq_true] at h;refine List.nodup_cons.2 ⟨λhm=>?_,O5 h.2⟩;have:=h.1 p hm;simp [FH] at this
def XG (p:Place) (acc:Acc):Bool:=acc.all λe=>match j2 e with | some q=>!FH p q | none=>true
theorem vI {p:Place}{G:List (Nat × ab)}{A:Nat->Bool}(h:XG p acc=true) (c9:l' G=true):∀ t z n m new,dg (get G) A acc t≠some (.bL z p n m new):=by
 intro t z n m new e;rcases uN e with ⟨cj,he,h1,_,af⟩ | ⟨_,af⟩
 ·have:=List.all_eq_true.1 h cj he;obtain ⟨k,d,x⟩:=cj;simp only at af;subst af;simp [j2,FH] at this
 ·exact vK c9 _ _ _ _ _ _ af
theorem O.tx {en:bK α}{L M r:List α}{y:ab}{e gN:Nat}{a b:Operand}{p:Place}{t ty:TypeId}(aB:Rd g a (.a6 en.z p L.length)) (au:bB g p=some (ak en L)) (J:Rd g b y) (hm:n2 g en y M) (aw:jI P t e en.z gN=true) (av:Nat.ble gN 128=true) (h:c' L M=some r) (e8:∀ t z n m new,g t≠some (.bL z p n m new)) :
  ch P g (.call { callee:=.builtin .append,args:=#[a,b],argTypes:=#[t,t] }) ty (.bL en.z p L.length M.length (bo en M)):=by
 obtain ⟨h1,af,_⟩:=y5 h av;exact .lS (.grow aB.br (.inl ⟨_,au⟩) (λt bC cH m' c3 e=>e8 _ _ _ _ _ e) J.br hm.src aw h1 af)
theorem bz.wP (bG:Nat) {G G2:List (Nat × ab)}{o:Oper}(he:iw P N (dg (get G) (λm=>(bd.getD bG []).contains m) acc) o (get G2)) (aO:o.guard=none) (gR:CC (acc.filterMap j2)=true) (fI:l' G=true) (ah:Nat.beq ops.size (bG+l.length+1)=true)
  (ga:acc.filter (λe=>!(bd.getD bG []).contains e.1)=[])
  (av:(List.range ops.size).all (λk=>Nat.ble k bG||(bd.getD k []).contains bG)=true) (hk:bz P N ops bd (get G2) (bG+1) [] l K):bz P N ops bd (get G) i acc (o::l) K:=by
 intro dW j cn kW lj;have:=zh lj ah;subst this;obtain ⟨h1,af⟩:=drop_cons lj;obtain ⟨g',ao,di⟩:=hk [] (j+1) .nil .nil af;refine ⟨g',.wL (U:=[]) (rs:=sm []) kW (O5 gR) (vK fI) h1 ?_ he.v (λp au=>by simp [sm] at au) ga.symm (by simp) (by simp) (by simp) ?_ ao,di⟩
 ·unfold iy; rw [aO]
 ·refine List.all_eq_true.2 λk hk=>?_;have:=List.all_eq_true.1 av k hk;simp only [Bool.or_eq_true,decide_eq_true_eq,Nat.ble_eq] at this ⊢;exact this
theorem iw.cell {o:Oper}{r k0:Nat}{y:ab}{cs:List ab}{g5:aK}(ao:g r=some (.obj cs)) (ax:cs[k0]?=some y) (xw:cU y)
  (ud:∀ v:Value,v.oneCell'=true->∃ g1 g4,hF (cu g ⟨r,[k0]⟩ (.lit v)) g1/\iw P N g1 o g4/\bB g4 ⟨r,[k0]⟩=some (.lit v)/\hF (cu g4 ⟨r,[k0]⟩ y) g5):o' P N (λp=>p∈[(⟨r,[k0]⟩:Place)]) g o g5:=by
 intro w I T Fs h a aP bc K Q di;have lk:∀ z q n m new,y≠.bL z q n m new:=by rintro z q n m new rfl; cases xw
 have gu:bB g ⟨r,[k0]⟩=some y:=by simp [bB,ao,ab.at,ab.kids,ax]
 obtain ⟨v,cz,hv,dH,dx,put⟩:=h.mF.part gu lk;have ui:v.oneCell'=true:=by
  obtain ⟨u,hu,mU⟩:=h.rel r _ ao;obtain ⟨b,wi,h1,af,aI,bF,_⟩:=R.node (z:=0) (n:=0) (mU.gI (by simp)) (.inr rfl) ax;have:dY w T ⟨r,[k0]⟩=child w u k0:=by
   unfold dY;simp only [hu,walk];cases child w u k0 <;> rfl
  rw [this,aI] at hv;cases hv;exact bF
 obtain ⟨f_,jc,zl,Bu⟩:=put (.lit v) cw (.lit ui λ_ h=>h) (λ_ h=>h.elim) (λ_ h=>h.elim) (λ_ _ _ h=>h.elim);obtain ⟨g1,g4,hh,db,Ic,IE⟩:=ud v ui;have uK:∀ t c,f_ t c->Fs t c/\¬ cz c:=by
  intro t c aa;by_cases aw:t=r
  ·subst aw;rcases (zl c).1 aa with aR | aR
   ·exact aR
   ·exact aR.elim
  ·rw [Bu t aw] at aa;exact ⟨aa,λaW=>aw (h.eK t r c aa (dx c aW))⟩
 have H6:=jc.keep hh;refine db w I T _ H6 a aP bc K Q λca w' aF sR=>?_;obtain ⟨cy,b9,I',b7,d_,b1⟩:=aF;obtain ⟨v2,iY,Ca,mr,Uv,Kr⟩:=d_.mF.part Ic (by simp);have I8:v2=v:=mr.hD.1;subst I8;have Nf:∀ c,cz c->¬ I c:=λc aa=>h.bk r c (dx c aa);have Bw:∀ c,cz c->c<w.heap.size:=λc aa=>h.j1 r c (dx c aa);have CK:∀ c,cz c->¬ ∃ t,(g1 t≠none/\f_ t c):=λc aa ⟨t,_,aR⟩=>(uK t c aR).2 aa;have CJ:∀ t c,b7 t c->¬ cz c:=by
  intro t c aa aW;rcases b1.own c ⟨t,aa⟩ with aR | aR
  ·exact CK c aW aR
  ·have:=Bw c aW; omega
 have J6:∀ c,cz c->¬ I' c:=by
  intro c aa hi;rcases b1.new c hi with aR | aR | aR
  ·exact Nf c aa aR
  ·exact CK c aa aR
  ·have:=Bw c aa; omega
 have KG:∀ c,cz c->w'.heap[c]?=w.heap[c]?:=λc aa=>b1.eR.block c (Bw c aa) (CK c aa);have so:∀ c,I c->w'.heap[c]?=w.heap[c]?:=λc aa=>b1.eR.block c (h.lt c aa) λ⟨t,_,aR⟩=>h.bk t c (uK t c aR).1 aa;have BC:R w' I' (fA w' ca.tmps) y v2 cz:=((dH.bl xw).frame so b1.more (λ_ _ h=>h) KG);obtain ⟨Lq,H8,Nb,HW⟩:=Kr y cz BC (λc aa aW=>(CJ _ c aW aa).elim) (λc aa=>J6 c aa) (λt c _ aa aW=>CJ t c aW aa);have tP:=H8.keep IE;refine di ca w' ⟨cy,b9,I',_,tP,⟨?_,b1.more,λc aa=>?_,λc aa=>?_⟩⟩ sR λdm path au y' oS ac4=>?_
 ·exact b1.eR.mono λb _ ⟨t,_,aR⟩=>⟨t,(uK t b aR).1⟩
 ·rcases b1.new c aa with aR | ⟨t,_,aR⟩ | aR
  ·exact .inl aR
  ·exact .inr (.inl ⟨t,(uK t c aR).1⟩)
  ·exact .inr (.inr aR)
 ·obtain ⟨t,_,aa⟩:=aa;have:(∃ t,b7 t c)\/cz c:=by
   by_cases aw:t=r
   ·subst aw;rcases (Nb c).1 aa with ⟨aR,_⟩ | aR
    ·exact .inl ⟨_,aR⟩
    ·exact .inr aR
   ·rw [HW t aw] at aa; exact .inl ⟨t,aa⟩
  rcases this with aR | aR
  ·rcases b1.own c aR with ⟨t,_,jb⟩ | jb
   ·exact .inl ⟨t,(uK t c jb).1⟩
   ·exact .inr jb
  ·exact .inl ⟨r,dx c aR⟩
 ·have au:(⟨dm,path⟩:Place)∈[(⟨r,[k0]⟩:Place)]:=au;have au:=List.mem_singleton.1 au;cases au;rw [hv,Ca]
end
end Go.Own
namespace Go.Own
open Go
section
variable {α:Type}{P:Program}{N:c5}{g:aK}{ops:Array Oper}{l:List Oper}{K:aK->Prop}{r n:Nat}{t e ty:TypeId}{a b:Operand}{m:Int}{en:bK α}{L:List α}{y y2:α}{k:IntKind}{pos:String}{after:Array Edge}
def xx {α:Type}(n:Nat) (l:List α) (i:Int):Option α:=if i<n then idx l i else none
theorem Jt (h:xx n L m=some y):m<n/\idx L m=some y:=by
 unfold xx at h
 split at h
 ·exact ⟨by assumption,h⟩
 ·cases h
theorem RV (aX:Nat.blt 0 en.z=true) (h:idx L m=some y):m.toNat * en.z<(bo en L).length:=by
 obtain ⟨aQ,h1,_⟩:=pM h;rw [nn];exact Nat.mul_lt_mul_of_pos_right (by omega) (by simpa using aX)
theorem O.ON (aB:g r=some (.obj (bo en L))) (aX:Nat.blt 0 en.z=true) (hi:Rd g b (.lit (.int k m))) (aw:y6 P t e n en.z=true) (h:xx n L m=some y):ch P g (.indexAddr t (.tmp r) b) ty (.ptr ⟨r,[]⟩ (m.toNat * en.z)):=by
 obtain ⟨h1,af⟩:=Jt h;have aT:=RV aX af;obtain ⟨aQ,_,_⟩:=pM af;have J:Own.br g (.tmp r)=some (.ptr ⟨r,[]⟩ 0):=by
  cases aa:bo en L with
  | nil=>rw [aa] at aT; simp at aT
  | cons c cs=>simp [Own.br,aB,aa,rq,gw]
 have hm:((m.toNat:Nat):Int)=m:=by omega
 have:=c6.E2 (P:=P) (g:=g) (ty:=ty) (k:=0) (j:=m.toNat) J (by rw [hm]; exact hi.br) aw (by omega) ⟨.obj (bo en L),by simp [bB,aB,ab.at],0,0,_,.inr rfl,by rw [Nat.zero_add]; exact aT⟩;rw [Nat.zero_add] at this;exact .eW this
theorem O.Xs {x:ab}(aB:g r=some (.obj (bo en L))) (aP:Rd g a (.ptr ⟨r,[]⟩ (m.toNat * en.z))) (h:idx L m=some y) (J:(en.cells y)[0]?=some x) (aw:jt P t=true) (aF:∀ p,gw 0 p x=x):ch P g (.load t a) ty x:=by
 have:=KB en h J;rw [Nat.add_zero] at this;exact O.mA aB aP aw this (aF _)
theorem ar.YO {La:ab}{cs':List ab}{G2:List (Nat × ab)}(aB:g r=some (.obj (bo en L))) (aX:Nat.blt 0 en.z=true) (aP:Rd g a (.ptr ⟨r,[]⟩ (m.toNat * en.z))) (av:Rd g b La) [aF:cf La] (h:idx L m=some y) (aa:oJ La=some cs') (hJ:cs'=en.cells y2) (fX:hs P t cs'.length=true)
  (ao:(get G2 r).isSome=true) (c9:la g (get G2) r (bo en (L.set m.toNat y2)) G2) (hk:ar P N ops l (get G2) K):ar P N ops (⟨none,.store t a b,ty,pos,after,none⟩::l) g K:=by
 have hlen:cs'.length=en.z:=by rw [hJ,en.len]
 obtain ⟨aQ,h1,_⟩:=pM h;refine .jh aB aP av aa fX ?_ ?_ ?_ ao c9 hk
 ·rw [hlen,nn];simp only [Nat.ble_eq];have:(m.toNat+1) * en.z<=L.length * en.z:=Nat.mul_le_mul_right _ (by omega);rw [Nat.add_mul,Nat.one_mul] at this;exact this
 ·rw [hlen]; exact aX
 ·have:=KA en h (o:=0) (cs':=cs') (y2:=y2) (by
   subst hJ;have aj:(en.cells y2).length=(en.cells y).length:=by rw [en.len,en.len]
   unfold e5;rw [List.take_zero,List.nil_append,Nat.zero_add,aj,List.drop_length,List.append_nil]) (by omega)
  rw [Nat.add_zero] at this;exact this
end
end Go.Own
namespace Go.Own
open Go Go.Proofs Go.Shelf Go.Lib Go.Sort
section
variable {P:Program}{w:World}
class lD {α:Type}(e:bK α) where
 rE:α->List Value
 cells:∀ a,e.cells a=(rE a).map .lit
 one:∀ a,∀ v∈rE a,v.oneCell'=true
variable {α:Type}{e:bK α}
theorem lD.len [h:lD e] (a:α):(h.rE a).length=e.z:=by
 have:=e.len a;rw [h.cells,List.length_map] at this;exact this
def pk (e:bK α) [h:lD e] (l:List α):List Value:=l.flatMap h.rE
theorem FU [h:lD e]:∀ l:List α,bo e l=(pk e l).map .lit
 | []=>rfl
 | a::l=>by
  have:bo e (a::l)=e.cells a++bo e l:=by simp [bo]
  rw [this,FU l,h.cells];simp [pk]
theorem HG [h:lD e] (l:List α):(pk e l).length=l.length * e.z:=by
 have:=nn e l;rw [FU,List.length_map] at this;exact this
theorem MY [h:lD e] {l:List α}:∀ v∈pk e l,v.oneCell'=true:=by
 intro v hv;obtain ⟨a,_,hv⟩:=List.mem_flatMap.1 hv;exact h.one a v hv
theorem MX [h:lD e]:∀ (l:List α) (i j:Nat) (a:α),l[i]?=some a->j<e.z->(pk e l)[i * e.z+j]?=(h.rE a)[j]?
 | [],i,j,a,aP,_=>by simp at aP
 | b::l,0,j,a,aP,ah=>by
  simp only [List.getElem?_cons_zero,Option.some.injEq] at aP;subst aP;simp only [pk,List.flatMap_cons,Nat.zero_mul,Nat.zero_add];rw [List.getElem?_append_left (by rw [lD.len]; exact ah)]
 | b::l,i+1,j,a,aP,ah=>by
  simp only [List.getElem?_cons_succ] at aP;have:=MX l i j a aP ah;simp only [pk,List.flatMap_cons] at this ⊢;rw [List.getElem?_append_right (by rw [lD.len,Nat.add_mul]; omega),lD.len,<- this];congr 1;rw [Nat.add_mul]; omega
theorem MW {β:Type} [Inhabited β] [h:lD e] (f:β->α) (d:Array β):(flatK (λx=>h.rE (f x)) e.z d).toList=pk e (d.toList.map f):=by
 apply List.ext_getElem?;intro t;by_cases aw:t<d.size * e.z
 ·have aX:0<e.z:=by
   rcases Nat.eq_zero_or_pos e.z with aQ | aQ
   ·rw [aQ] at aw; omega
   ·exact aQ
  have h1:t / e.z<d.size:=Nat.div_lt_of_lt_mul (by rw [Nat.mul_comm]; exact aw);have af:t % e.z<e.z:=Nat.mod_lt _ aX;have aP:(d.toList.map f)[t / e.z]?=some (f d[t / e.z]!):=by
   rw [List.getElem?_map,Array.getElem?_toList,Array.getElem?_eq_getElem h1,getElem!_pos d _ h1]; rfl
  have:=MX (e:=e) _ (t / e.z) (t % e.z) _ aP af;rw [Nat.mul_comm,Nat.div_add_mod] at this;rw [this,Array.getElem?_toList,Array.getElem?_eq_getElem (by simpa using aw),<- getElem!_pos (flatK (λx=>h.rE (f x)) e.z d) t (by simpa using aw),get_flatK _ _ _ _ aw];have aI:t % e.z<(h.rE (f d[t / e.z]!)).length:=by rw [lD.len]; exact af
  rw [getElem!_pos (h.rE (f d[t / e.z]!)) (t % e.z) aI,List.getElem?_eq_getElem aI]
 ·rw [List.getElem?_eq_none (by simp; omega),List.getElem?_eq_none (by rw [HG,List.length_map,Array.length_toList]; omega)]
theorem Ql [h8:lD e] {vs:List Value}{v0 v1:Value}(xo:vs=[v0,v1]) {I:bb}{Fs:Nat->bb}{g:aK}(bj:cI w I vs.toArray g Fs) {w':World}{t:TypeId}{r:List α}(a1:w'.ownsRow 0 t e.z v0 r.length (pk e r)) (aN:∀ c,Fs 0 c↔v0.ownBlock=some c) (oO:Fr w w' λc=>Fs 0 c) :
  ∃ v I' b7,Ending.returned (.tuple #[])=.returned v/\cI w' I' (vs++[v]).toArray (k3 [some (ak e r),none] (.bV [])) b7/\kq w I (λc=>∃ t,Fs t c) w' I' (λc=>∃ t,b7 t c):=by
 subst xo;refine ⟨_,I,λt=>if t=0 then Fs 0 else cw,rfl,⟨λt x J=>?_,λt aw c aa=>?_,λt t' c aa fo=>?_,λt c aa=>?_,λc aa=>Nat.lt_of_lt_of_le (bj.lt c aa) oO.size,λt t' z p n m new bC cH m' c3 h1 af=>?_⟩,⟨?_,λc h=>h,λc h=>.inl h,λc aa=>?_⟩⟩
 ·unfold k3 at J
  split at J
  ·rename_i aw;have aw:t=2:=aw;subst aw;cases J;exact ⟨.tuple #[],rfl,.tree (.bV (Fs:=λ_=>cw) rfl (λk x u h=>by simp at h) (λj k c h=>by simp at h) (λc=>⟨λh=>h.elim,λ⟨k,h,_⟩=>by simp at h⟩))⟩
  ·match t,J with
   | 0,J =>
    cases J;refine ⟨v0,rfl,.tree ?_⟩;show R w' I _ (.own e.z r.length (bo e r)) v0 (Fs 0);rw [FU];refine .own (Fs:=λ_=>cw) a1 (by simp) (λk u hu=>MY u (List.mem_of_getElem? hu)) (λk x u J hu=>?_) (λ_ _ _ _ _ h=>h.elim) (λ_ _ _ h=>h.elim) (λc=>⟨λh=>.inl ((aN c).1 h),λh=>?_⟩)
    ·rw [List.getElem?_map,hu] at J;cases J;exact .lit (MY u (List.mem_of_getElem? hu)) λ_ h=>h
    ·rcases h with h | ⟨_,_,h⟩
     ·exact (aN c).2 h
     ·exact h.elim
   | 1,J=>cases J
   | t+2,J=>cases J
 ·have aQ:¬ t=0:=λe=>by subst e; exact absurd aw (by simp [k3])
  simp only [if_neg aQ] at aa;exact aa
 ·have key:∀ {t:Nat},(if t=0 then Fs 0 else cw) c->t=0:=λ{t} h=>by
   by_cases aQ:t=0
   ·exact aQ
   ·rw [if_neg aQ] at h; exact h.elim
  rw [key aa,key fo]
 ·by_cases aQ:t=0
  ·simp only [if_pos aQ] at aa; exact bj.bk 0 c aa
  ·simp only [if_neg aQ] at aa; exact aa.elim
 ·unfold k3 at h1
  split at h1
  ·cases h1
  ·match t,h1 with
   | 0,h1=>cases h1
   | 1,h1=>cases h1
   | t+2,h1=>cases h1
 ·exact oO.mono λb _ av=>⟨0,av⟩
 ·obtain ⟨t,aw⟩:=aa;by_cases aQ:t=0
  ·simp only [if_pos aQ] at aw; exact .inl ⟨0,aw⟩
  ·simp only [if_neg aQ] at aw; exact aw.elim
theorem bU.Za [DecidableEq α] [vd:lD e] {ρ:Ren}(L:SlLaysF0.n6 P ρ) (Rt:∀ w,(isAgg (ρ.t 24)).run P w=.ok true w) (ZU:∀ w,(Go.sizeOf (ρ.t 24)).run P w=.ok e.z w) {g:FuncId}{caps:List ab} [xe:dp caps] (aO:gO P g=true) {l r:List α}{fT:α->α->Option Int}(h:pW fT l=some r)
  (aa:∀ a b v,fT a b=some v->bU P g (.agg (e.cells a)::.agg (e.cells b)::caps) (none::none::caps.map λ_=>none) (ae v)) :
  bU P (ρ.f 6) [ak e l,.cX (.func g) [] caps] [some (ak e r),none] (.bV []):=by
 refine ⟨rfl,λw I vs Fs aj bj=>?_⟩;obtain ⟨v0,v1,rfl⟩:∃ v0 v1,vs=[v0,v1]:=by
  match vs,aj with
  | [a,b],_=>exact ⟨a,b,rfl⟩
 obtain ⟨xm,ln,I3,rfl⟩:=Qj h;obtain ⟨u,hu,aY⟩:=bj.rel 0 (ak e l) rfl;obtain rfl:v0=u:=by simpa using hu
 replace aY:=aY.gI (by simp);obtain ⟨u,hu,qk⟩:=bj.rel 1 (.cX (.func g) [] caps) rfl;obtain rfl:v1=u:=by simpa using hu
 replace qk:=qk.gI (by simp);rw [show ak e l=.own e.z l.length (bo e l) from rfl,FU] at aY
 cases aY with
 | ref J=>simp [ab.isRef] at J
 | @own _ _ _ _ t us bM _ a1 xh hy ao aS av aN =>
 cases qk with
 | ref J=>simp [ab.isRef] at J
 | @cX _ _ _ aD ka _ zl h1 af kB iO =>
 obtain rfl:aD=#[]:=Array.eq_empty_of_size_eq_zero (by simpa using h1.symm);have mo:∀ c,Fs 0 c↔v0.ownBlock=some c:=by
  intro c;refine ⟨λaa=>?_,λaa=>(aN c).2 (.inl aa)⟩;rcases (aN c).1 aa with h | ⟨k,hk,h⟩
  ·exact h
  ·have J:=List.getElem?_eq_getElem hk;have hu:=List.getElem?_eq_getElem (xh ▸ hk);have aY:=ao k _ _ J hu;rw [List.getElem_map] at aY;generalize us[k]=hb at aY;cases aY with
   | lit _ aW=>exact (aW c h).elim
   | ref J=>simp [ab.isRef] at J
 have l8:us=pk e l:=by
  apply List.ext_getElem?;intro k;by_cases hk:k<us.length
  ·have h':k<((pk e l).map ab.lit).length:=xh.symm ▸ hk;have J:=List.getElem?_eq_getElem h';have hu:=List.getElem?_eq_getElem hk;have aY:=ao k _ _ J hu;rw [List.getElem_map] at aY;rw [hu,aY.hD.1,List.getElem?_eq_getElem (by simpa using h')]
  ·rw [List.getElem?_eq_none (by omega),List.getElem?_eq_none (by rw [List.length_map] at xh; omega)]
 subst l8;have B2:=sV (kD fT) l;have hlen:=B2.length_eq;by_cases xj:l=[]
 ·subst xj;have jd:∃ p cap,v0=.slice p 0 cap:=by
   rcases a1.2 with ⟨rfl,_⟩ | ⟨b,cap,cur,rfl,_⟩
   ·exact ⟨_,_,rfl⟩
   ·exact ⟨_,_,rfl⟩
  obtain ⟨p,cap,rfl⟩:=jd;refine (AnyF.slices_SortFunc_none L p cap _ w).mono ?_;rintro cj w' ⟨rfl,rfl⟩;exact Ql rfl bj (t:=t) (r:=[]) a1 mo (Fr.refl _ _)
 ·obtain ⟨N1,Io⟩:=a1;rcases Io with ⟨rfl,aQ⟩ | ⟨b,cap,cur,rfl,_,tZ,hle,IU,fX,gb⟩
  ·exact absurd (List.eq_nil_of_length_eq_zero aQ) xj
  have tW:Fs 0 b:=(mo b).2 rfl;have Ik:b<w.heap.size:=(Array.getElem?_eq_some_iff.1 tZ).1;obtain ⟨a0,w7⟩:=List.exists_mem_of_ne_nil l xj
  let β:={ x:α // x∈l }
  haveI:Inhabited β:=⟨⟨a0,w7⟩⟩
  let enc:β->List Value:=λx=>vd.rE x.1
  let kR:β->β->Int:=λx y=>(fT x.1 y.1).getD 0;have aT:∀ x y:β,ltOf kR x y=kD fT x.1 y.1:=λx y=>rfl
  let d:Array β:=l.attach.toArray;have ED:d.toList.map Subtype.val=l:=by
   show (l.attach.toArray).toList.map Subtype.val=l;simp
  have zs:d.size=l.length:=by show (l.attach.toArray).size=l.length; rw [List.size_toArray,List.length_attach]
  have je:=Pn ln;have hO:SWO (ltOf kR):=by
   refine ⟨λx=>by rw [aT]; exact (je x.1 x.2).1,λx y z=>?_,λx y z=>?_⟩
   ·rw [aT,aT,aT];exact λp q=>(((je x.1 x.2).2 y.1 y.2).2 z.1 z.2).1 ⟨p,q⟩
   ·rw [aT,aT,aT];intro p q;rcases (((je x.1 x.2).2 y.1 y.2).2 z.1 z.2).2 with h | h | h
    ·rw [p] at h; cases h
    ·rw [q] at h; cases h
    ·exact h
  have dM:∀ x y:β,ltOf kR x y=false->ltOf kR y x=false->x=y:=by
   intro x y p q;rw [aT] at p q;rcases ((je x.1 x.2).2 y.1 y.2).1 with h | h | h
   ·rw [p] at h; cases h
   ·rw [q] at h; cases h
   ·exact Subtype.ext h
  have sJ:(flatK enc e.z d).toList=pk e l:=by
   have:=MW (e:=e) (λx:β=>x.1) d;rw [ED] at this;exact this
  have hH:HoldsK enc e.z w b 0 d:=by
   intro j ah;have xg:j<(pk e l).length:=by rw [<- sJ,Array.length_toList]; exact ah
   refine ⟨?_,?_⟩
   ·unfold World.cell?;simp only [tZ,Nat.zero_add];show cur[j]?=_;have h1:=congrArg (λt=>t[j]?) gb;have zv:j<l.length * e.z:=by rw [<- HG (e:=e)]; exact xg
    simp only [List.getElem?_take,if_pos zv,Array.getElem?_toList] at h1;rw [h1,<- sJ,Array.getElem?_toList,Array.getElem?_eq_getElem ah,getElem!_pos (flatK enc e.z d) j ah];rfl
   ·unfold World.frozen?;simp only [tZ];simp
  have HA:∀ args w,(callFunc g args).run P w=.ok (.enter g args) w:=λargs w=>Be aO args;have Nu:∀ (W:World) (I:bb) (ρ':ab->Value->Prop) (a:α),R W I ρ' (.agg (e.cells a)) (.agg (vd.rE a).toArray) λ_=>False:=by
   intro W I ρ' a;rw [vd.cells];refine .agg (Fs:=λ_=>cw) (by simp) (λk u hu=>vd.one a u ?_) (λk x u J hu=>?_) (λ_ _ _ _ _ h=>h.elim) (λc=>⟨λh=>h.elim,λ⟨_,_,h⟩=>h.elim⟩)
   ·rw [List.getElem?_toArray] at hu; exact List.mem_of_getElem? hu
   ·rw [List.getElem?_toArray] at hu;rw [List.getElem?_map,hu] at J;cases J;exact .lit (vd.one a u (List.mem_of_getElem? hu)) λ_ h=>h
  have Ir:CmpLays P g ka enc e.z kR b 0 d.size w:=by
   intro m os Bi zr x y;have rb:=xm x.1 x.2 y.1 y.2;obtain ⟨v,hv⟩:=Option.isSome_iff_exists.1 rb;have Ip:kR x y=v:=by show (fT x.1 y.1).getD 0=v; rw [hv]; rfl
   show Calls P g _ (sortWorld id w b 0 m (flatK enc e.z Bi) os) λcj w'=>_/\∃ q XT,w'=grow ((sortWorld id w b 0 m (flatK enc e.z Bi) os).drewN q) XT;have H_:cI (sortWorld id w b 0 m (flatK enc e.z Bi) os) I #[] (λ_=>none) (λ_=>cw):=by
    refine ⟨λ_ _ h=>(by cases h),λ_ _ _ h=>h,λ_ _ _ h=>h.elim,λ_ _ h=>h.elim,λc aa=>?_,λ_ _ _ _ _ _ _ _ _ _ _ h=>(by cases h)⟩;have:=bj.lt c aa;unfold sortWorld;rw [size_grow,Go.Sort.size_putRow];exact Nat.lt_of_lt_of_le this (Nat.le_add_right _ _)
   have sH:=H_.args (I':=I) (λc h=>.inl h) (args:=.agg (e.cells x.1)::.agg (e.cells y.1)::caps) (vs:=.agg (enc x).toArray::.agg (enc y).toArray::ka.toList) (by simp [af]) (λρ' k z u aX hu=>?_)
   ·have pA:=(aa x.1 y.1 v hv).2 _ I (.agg (enc x).toArray::.agg (enc y).toArray::ka.toList) _ (by simp [af]) sH;have kd:(.agg (enc x).toArray::.agg (enc y).toArray::ka.toList).toArray=#[.agg (enc x).toArray,.agg (enc y).toArray]++ka:=by
     apply Array.ext';simp
    rw [kd] at pA;refine pA.mono ?_;rintro cj w' ⟨gx,I',b7,rfl,d_,b1⟩;obtain ⟨u,hu,mV⟩:=d_.rel (caps.length+2) (ae v) (by simp [k3]);have I_:u=gx:=by
     have:(Value.agg (enc x).toArray::.agg (enc y).toArray::ka.toList).length=caps.length+2:=by simp [af]
     rw [List.getElem?_toArray,<- this] at hu;simpa using hu.symm
    subst I_;have oa:=(mV.gI (by simp)).hD.1;subst oa;refine ⟨by rw [Ip],?_⟩;exact M6 (b1.eR.mono λc _ ⟨_,bY⟩=>bY)
   ·match k,aX,hu with
    | 0,aX,hu=>cases aX; cases hu; exact Nu _ _ _ x.1
    | 1,aX,hu=>cases aX; cases hu; exact Nu _ _ _ y.1
    | k+2,aX,hu =>
     simp only [List.getElem?_cons_succ] at aX hu;have zn:=(iO k z u aX (by simpa using hu)).bl (ρ':=ρ') (xe.bl z (List.mem_of_getElem? aX));refine zn.frame (λc aa=>?_) (λ_ h=>h) (λ_ _ h=>h) (λc h=>h.elim);exact Iv (bj.lt c aa) λe=>bj.bk 0 c (e ▸ tW) aa
  have BR:=AnyQ.slices_SortFunc_total L e.z Rt ZU enc (λx=>lD.len x.1) (λx v hv=>vd.one x.1 v hv) kR hO g ka b 0 cap d w HA Ir hH Ik (by rw [zs]; exact I3) dM;rw [zs] at BR;refine BR.mono ?_;rintro cj w' ⟨rfl,n,os,rfl⟩;have pF:(d.toList.mergeSort λx y=>!ltOf kR y x).map Subtype.val=ia (kD fT) l:=by
   rw [OM hO dM];have hm:(ia (ltOf kR) l.attach).map Subtype.val=ia (kD fT) (l.attach.map Subtype.val):=E8 (lt:=ltOf kR) (lt':=kD fT) (f:=Subtype.val) (λa b=>aT a b) l.attach;rw [List.attach_map_subtype_val] at hm;exact hm
  generalize ac2:(d.toList.mergeSort λx y=>!ltOf kR y x)=ms at pF;have V1:ms.length=l.length:=by rw [<- hlen,<- pF,List.length_map]
  have Iy:(flatK enc e.z ms.toArray).toList=pk e (ia (kD fT) l):=by
   have:=MW (e:=e) (λx:β=>x.1) ms.toArray;rw [show (ms.toArray).toList.map (λx:β=>x.1)=ia (kD fT) l from pF] at this
   exact this
  have sK:(flatK enc e.z ms.toArray).size=l.length * e.z:=by rw [size_flatK,List.size_toArray,V1]
  refine Ql rfl bj (t:=t) (r:=ia (kD fT) l) ⟨HG _,.inr ⟨b,cap,_,by rw [hlen],Nat.zero_le _,NM (enc:=id) tZ,by omega,IU,?_,?_⟩⟩ mo (M0 (enc:=id) tW)
  ·rw [<- fX];simp [putCells]
  ·rw [hlen,<- sK,PH (by rw [sK,fX]; exact Nat.mul_le_mul_right _ hle),List.map_id,Iy]
end
end Go.Own
namespace Go.Own
open Go
section
variable {α:Type}{P:Program}{N:c5}{g:aK}{d r:Nat}
theorem hM.tk {o:Oper}{x:Operand}{gq:Array TypeId}{f:FuncId}{res:ab}{en:bK α}{L:List α}{G2:List (Nat × ab)}(a1:o.op=.call { callee:=.value (.func f),args:=#[x],argTypes:=gq }) (aS:o.dst=some d) (J:Own.gp g [x]=some [.a6 en.z ⟨r,[]⟩ L.length])
  (aB:g r=some (ak en L)) (gQ:bU P f [ak en L] [none] res) (aW:gO P f=true) [ao:cf res]
  (c9:Trim false (cu g ⟨r,[]⟩ .dead) (get G2) G2) (aO:get G2 d=none) (bc:N.ok d=true) :
  hM P N g o d (get ((d,res)::G2)):=by
 have mY:∀ x∈bo en L,cU x:=by
  intro x J;obtain ⟨a,_,aP⟩:=List.mem_flatMap.1 J;exact en.bl a x aP
 have gb:(bo en L).take (L.length * en.z)=bo en L:=List.take_of_length_le (by rw [nn]; exact Nat.le_refl _);have xI:hF (cu g ⟨r,[]⟩ .dead) (get G2):=by
  refine ⟨λt x h=>?_,λt x h=>(c9.spec t x h).2.1,λt z q n m new h=>(c9.spec t _ h).2.2 _ _ _ _ _ rfl⟩;obtain ⟨⟨y,h1,_,aI⟩,_⟩:=c9.spec t x h;rw [<- aI rfl]; exact h1
 have xJ:hF (get G2) (get G2):=⟨λt x h=>h,λt x h=>(c9.spec t x h).2.1,λt z q n m new h=>(c9.spec t _ h).2.2 _ _ _ _ _ rfl⟩;have rQ:get ((d,res)::G2)=cV (get G2) d res:=by
  funext t;rw [sD]
 rw [rQ];refine yI.ok (first:=[]) (caps:=[]) (ys:=[.a6 en.z ⟨r,[]⟩ L.length]) (tk:=λk=>k == 0) (vw:=false) (outs:=[none]) (g1:=cu g ⟨r,[]⟩ .dead) (g2:=get G2) (g4:=get G2) (l:=[]) (ks:=λ_=>0) (xs0:=[.a6 en.z ⟨r,[]⟩ L.length]) (xs1:=[ak en L]) (args:=[ak en L]) (res:=res) a1 aS rfl J
  ⟨aW,by simp,by simp,λk x h=>.inl h,?_,xI,λk x y J ax=>?_,gQ,by simpa using ao.bl,λk x h=>?_,λj p x ah=>by simp at ah,by simp,λi j hi ah _=>by simp at hi,xJ⟩ aO bc wy.refl
 ·have h1:Take (cu g ⟨r,[]⟩ .dead) ((bo en L).take (L.length * en.z)) (bo en L) (cu g ⟨r,[]⟩ .dead):=by rw [gb]; exact .bl mY
  exact .a6 (N:=L.length) (by simp [bB,aB,ab.at]) (Nat.le_refl _) h1 (.bl λx J=>by simp at J)
 ·cases k with
  | zero=>simpa using ax
  | succ k=>simp at ax
 ·cases k with
  | zero=>simp at h
  | succ k=>simp at h
end
end Go.Own
namespace Go.Own
open Go Go.Proofs Go.Shelf Go.Lib Go.Sort
section
variable {α:Type} [DecidableEq α]
end
section
variable {α:Type}{e:bK α}{P:Program}{w:World}
variable [DecidableEq α] [Inhabited α]
end
end Go.Own
namespace Go.Proofs
open Tryz
open Go.Shelf Go.RowKit Go.Lib Go.Sort
variable {α:Type} [Inhabited α] [DecidableEq α]
namespace Two
open Go.Own
variable {P:Program}{t:TypeId}
omit [Inhabited α] [DecidableEq α] in
theorem one (f:α->Int):OneCell λx=>Value.int .i64 (f x):=λ_=>rfl
end Two
end Go.Proofs
namespace Go.Own
open Go Go.Proofs Go.Shelf Go.Lib Go.Sort
section
variable {α:Type}{e:bK α}{P:Program}{w:World}
end
end Go.Own
namespace Go.Own
open Go
section
variable {α:Type}{P:Program}{N:c5}{g:aK}{d r:Nat}
end
end Go.Own
namespace Go.Own
open Go
theorem q {α:Sort _}{a:α}:a=a:=rfl
abbrev a':ByteArray:=⟨#[]⟩
theorem CH {p:Prop} [Decidable p] (h:decide p=true):p:=of_decide_eq_true h
theorem k6 {b:Bool}{g h:aK}{e0 s1:Nat}{eB a8:ab}(aQ:g e0=some eB) [cf eB] (h1:g s1=some a8) [cf a8]:Trim b g h [(e0,eB),(s1,a8)]:=(.n aQ (.n h1 .nil))
theorem o5 {b:Bool}{g h:aK}{e0 s1 s2:Nat}{eB a8 x2:ab}(aQ:g e0=some eB) [cf eB] (h1:g s1=some a8) [cf a8] (af:g s2=some x2) [cf x2]:Trim b g h [(e0,eB),(s1,a8),(s2,x2)]:=(.n aQ (.n h1 (.n af .nil)))
theorem o6 {b:Bool}{g h:aK}{e0 s1 s2 ec:Nat}{eB a8 x2 a7:ab}(aQ:g e0=some eB) [cf eB] (h1:g s1=some a8) [cf a8] (af:g s2=some x2) [cf x2] (aI:g ec=some a7) [cf a7]:Trim b g h [(e0,eB),(s1,a8),(s2,x2),(ec,a7)]:=(.n aQ (.n h1 (.n af (.n aI .nil))))
theorem j3 {b:Bool}{g h:aK}{e0 s1 s2 ec cY:Nat}{eB a8 x2 a7 bs:ab}(aQ:g e0=some eB) [cf eB] (h1:g s1=some a8) [cf a8] (af:g s2=some x2) [cf x2] (aI:g ec=some a7) [cf a7] (bF:g cY=some bs) [cf bs]:Trim b g h [(e0,eB),(s1,a8),(s2,x2),(ec,a7),(cY,bs)]:=(.n aQ (.n h1 (.n af (.n aI (.n bF .nil)))))
theorem ou {b:Bool}{g h:aK}{e0 s1 s2 ec cY cm:Nat}{eB a8 x2 a7 bs bS:ab}(aQ:g e0=some eB) [cf eB] (h1:g s1=some a8) [cf a8] (af:g s2=some x2) [cf x2] (aI:g ec=some a7) [cf a7] (bF:g cY=some bs) [cf bs] (cG:g cm=some bS) [cf bS]:Trim b g h [(e0,eB),(s1,a8),(s2,x2),(ec,a7),(cY,bs),(cm,bS)]:=(.n aQ (.n h1 (.n af (.n aI (.n bF (.n cG .nil))))))
theorem sq {b:Bool}{g h:aK}{e0 s1 s2 ec cY cm da:Nat}{eB a8 x2 a7 bs bS bx:ab}(aQ:g e0=some eB) [cf eB] (h1:g s1=some a8) [cf a8] (af:g s2=some x2) [cf x2] (aI:g ec=some a7) [cf a7] (bF:g cY=some bs) [cf bs] (cG:g cm=some bS) [cf bS] (eh:g da=some bx) [cf bx]:Trim b g h [(e0,eB),(s1,a8),(s2,x2),(ec,a7),(cY,bs),(cm,bS),(da,bx)]:=(.n aQ (.n h1 (.n af (.n aI (.n bF (.n cG (.n eh .nil)))))))
theorem KX {b:Bool}{g h:aK}{e0 s1 s2 ec cY cm da ds:Nat}{eB a8 x2 a7 bs bS bx bR:ab}(aQ:g e0=some eB) [cf eB] (h1:g s1=some a8) [cf a8] (af:g s2=some x2) [cf x2] (aI:g ec=some a7) [cf a7] (bF:g cY=some bs) [cf bs] (cG:g cm=some bS) [cf bS] (eh:g da=some bx) [cf bx] (mT:g ds=some bR) [cf bR]:Trim b g h [(e0,eB),(s1,a8),(s2,x2),(ec,a7),(cY,bs),(cm,bS),(da,bx),(ds,bR)]:=(.n aQ (.n h1 (.n af (.n aI (.n bF (.n cG (.n eh (.n mT .nil))))))))
theorem ads {b:Bool}{g h:aK}{e0 s1 s2 ec cY cm da ds dC:Nat}{eB a8 x2 a7 bs bS bx bR b6:ab}(aQ:g e0=some eB) [cf eB] (h1:g s1=some a8) [cf a8] (af:g s2=some x2) [cf x2] (aI:g ec=some a7) [cf a7] (bF:g cY=some bs) [cf bs] (cG:g cm=some bS) [cf bS] (eh:g da=some bx) [cf bx] (mT:g ds=some bR) [cf bR] (rV:g dC=some b6) [cf b6]:Trim b g h [(e0,eB),(s1,a8),(s2,x2),(ec,a7),(cY,bs),(cm,bS),(da,bx),(ds,bR),(dC,b6)]:=(.n aQ (.n h1 (.n af (.n aI (.n bF (.n cG (.n eh (.n mT (.n rV .nil)))))))))
theorem ZA {b:Bool}{g h:aK}{e0 s1 s2 ec cY cm da ds dC ib:Nat}{eB a8 x2 a7 bs bS bx bR b6 cv:ab}(aQ:g e0=some eB) [cf eB] (h1:g s1=some a8) [cf a8] (af:g s2=some x2) [cf x2] (aI:g ec=some a7) [cf a7] (bF:g cY=some bs) [cf bs] (cG:g cm=some bS) [cf bS] (eh:g da=some bx) [cf bx] (mT:g ds=some bR) [cf bR] (rV:g dC=some b6) [cf b6] (w5:g ib=some cv) [cf cv]:Trim b g h [(e0,eB),(s1,a8),(s2,x2),(ec,a7),(cY,bs),(cm,bS),(da,bx),(ds,bR),(dC,b6),(ib,cv)]:=(.n aQ (.n h1 (.n af (.n aI (.n bF (.n cG (.n eh (.n mT (.n rV (.n w5 .nil))))))))))
theorem ZB {b:Bool}{g h:aK}{e0 s1 s2 ec cY cm da ds dC ib fg:Nat}{eB a8 x2 a7 bs bS bx bR b6 cv bJ:ab}(aQ:g e0=some eB) [cf eB] (h1:g s1=some a8) [cf a8] (af:g s2=some x2) [cf x2] (aI:g ec=some a7) [cf a7] (bF:g cY=some bs) [cf bs] (cG:g cm=some bS) [cf bS] (eh:g da=some bx) [cf bx] (mT:g ds=some bR) [cf bR] (rV:g dC=some b6) [cf b6] (w5:g ib=some cv) [cf cv] (T0:g fg=some bJ) [cf bJ]:Trim b g h [(e0,eB),(s1,a8),(s2,x2),(ec,a7),(cY,bs),(cm,bS),(da,bx),(ds,bR),(dC,b6),(ib,cv),(fg,bJ)]:=(.n aQ (.n h1 (.n af (.n aI (.n bF (.n cG (.n eh (.n mT (.n rV (.n w5 (.n T0 .nil)))))))))))
section
variable {P:Program}{N:c5}{ops:Array Oper}{g:aK}{K:aK->Prop}{l:List Oper}{d t:Nat}{ty:TypeId}{pos:String}{after:Array Edge}{v:Value}
theorem gU {G1:List (Nat × ab)}(h:Trim true g (get G1) G1):ar P N ops [] g λg'=>kr g' (get G1):=.fin h
theorem b5 (h:g t=some (.lit v)) (hk:ar P N ops l (cV g d (.lit v)) K) (bc:N.ok d=true:=by rfl) (aW:g d=none:=by rfl):ar P N ops (⟨some d,.move (.tmp t),ty,pos,after,none⟩::l) g K:=al (O.aZ (.lit h)) hk bc aW
theorem nv (h:g t=some (.lit v)) (hk:ar P N ops l (cV g d (.lit v)) K) (bc:N.ok d=true:=by rfl) (aW:g d=none:=by rfl):ar P N ops (⟨some d,.assign (.tmp t),ty,pos,after,none⟩::l) g K:=al (O.az (.lit h)) hk bc aW
theorem LI (h:ofConst v=.lit v) (hk:ar P N ops l (cV g d (.lit v)) K) (bc:N.ok d=true:=by rfl) (aW:g d=none:=by rfl):ar P N ops (⟨some d,.assign (.const v),ty,pos,after,none⟩::l) g K:=al (O.az (.k h)) hk bc aW
end
end Go.Own
namespace Go.Own
open Go
section
variable {α:Type}{g:aK}
end
end Go.Own
namespace Go.Own
open Go
section
variable {α:Type}{P:Program}{N:c5}{g:aK}{d r:Nat}
theorem hM.kH {o:Oper}{xs:List Operand}{gq:Array TypeId}{f:FuncId}{ys:List ab}{res:ab}{en:bK α}{L:List α}{G2:List (Nat × ab)}(a1:o.op=.call { callee:=.value (.func f),args:=xs.toArray,argTypes:=gq }) (aS:o.dst=some d) (J:Own.gp g xs=some (.a6 en.z ⟨r,[]⟩ L.length::ys))
  (aB:g r=some (ak en L)) (gQ:bU P f (ak en L::ys) (none::ys.map λ_=>none) res) (aW:gO P f=true) [ao:cf res] [aF:dp ys]
  (c9:Trim false (cu g ⟨r,[]⟩ .dead) (get G2) G2) (aO:get G2 d=none) (bc:N.ok d=true) :
  hM P N g o d (get ((d,res)::G2)):=by
 have mY:∀ x∈bo en L,cU x:=by
  intro x J;obtain ⟨a,_,aP⟩:=List.mem_flatMap.1 J;exact en.bl a x aP
 have gb:(bo en L).take (L.length * en.z)=bo en L:=List.take_of_length_le (by rw [nn]; exact Nat.le_refl _);have xI:hF (cu g ⟨r,[]⟩ .dead) (get G2):=by
  refine ⟨λt x h=>?_,λt x h=>(c9.spec t x h).2.1,λt z q n m new h=>(c9.spec t _ h).2.2 _ _ _ _ _ rfl⟩;obtain ⟨⟨y,h1,_,aI⟩,_⟩:=c9.spec t x h;rw [<- aI rfl]; exact h1
 have xJ:hF (get G2) (get G2):=⟨λt x h=>h,λt x h=>(c9.spec t x h).2.1,λt z q n m new h=>(c9.spec t _ h).2.2 _ _ _ _ _ rfl⟩;have rQ:get ((d,res)::G2)=cV (get G2) d res:=by
  funext t;rw [sD]
 rw [rQ];refine yI.ok (first:=[]) (caps:=[]) (ys:=.a6 en.z ⟨r,[]⟩ L.length::ys) (tk:=λ_=>true) (vw:=false) (outs:=none::ys.map λ_=>none) (g1:=cu g ⟨r,[]⟩ .dead) (g2:=get G2) (g4:=get G2) (l:=[]) (ks:=λ_=>0) (xs0:=.a6 en.z ⟨r,[]⟩ L.length::ys) (xs1:=ak en L::ys) (args:=ak en L::ys) (res:=res) a1 aS rfl (by simpa using J)
  ⟨aW,by simp,by simp,λk x h=>.inl (by simpa using h),?_,xI,λk x y J ax=>by simpa using ax,gQ,by simpa using ao.bl,λk x h=>?_,λj p x ah=>by simp at ah,by simp,λi j hi ah _=>by simp at hi,xJ⟩ aO bc wy.refl
 ·have h1:Take (cu g ⟨r,[]⟩ .dead) ((bo en L).take (L.length * en.z)) (bo en L) (cu g ⟨r,[]⟩ .dead):=by rw [gb]; exact .bl mY
  exact .a6 (N:=L.length) (by simp [bB,aB,ab.at]) (Nat.le_refl _) h1 (.bl aF.bl)
 ·cases k with
  | zero=>simp at h
  | succ k =>
   simp only [List.getElem?_cons_succ,List.getElem?_map] at h;cases aP:ys[k]? <;> rw [aP] at h <;> cases h
end
end Go.Own
namespace Go.Own
open Go
class uY (x:ab):Prop where pl:p9 x
class DY (cs:List ab):Prop where pl:∀ x∈cs,p9 x
instance {v:Value}:uY (.lit v):=⟨.lit⟩
instance:uY .aL:=⟨.aL⟩
instance {z n:Nat}{cs:List ab} [h:dp cs]:uY (.bk z n cs):=⟨.bk h.bl⟩
instance {α:Type}{e:bK α}{L:List α}:uY (ag e L):=⟨.bk (dp.bl (cs:=bo e L))⟩
instance {cs:List ab} [h:DY cs]:uY (.agg cs):=⟨.agg h.pl⟩
instance:DY []:=⟨by simp⟩
instance {x:ab}{cs:List ab} [h:uY x] [aR:DY cs]:DY (x::cs):=⟨λy ax=>by
 rcases List.mem_cons.1 ax with rfl | ax
 ·exact h.pl
 ·exact aR.pl y ax⟩
class DW (G:List (Nat × ab)):Prop where bl:∀ t x,get G t=some x->cU x
instance:DW []:=⟨λt x h=>by cases h⟩
instance {s:Nat}{x:ab}{G:List (Nat × ab)} [h:cf x] [aR:DW G]:DW ((s,x)::G):=⟨λt y ax=>by
 simp only [get] at ax
 split at ax
 ·cases ax; exact h.bl
 ·exact aR.bl t y ax⟩
class yV (acc:Acc):Prop where bl:∀ e∈acc,∀ x,e.2.2=some x->cU x
instance:yV []:=⟨by simp⟩
instance {k d:Nat}{x:ab}{acc:Acc} [h:cf x] [aR:yV acc]:yV ((k,d,some x)::acc):=⟨λe he y ax=>by
 rcases List.mem_cons.1 he with rfl | he
 ·cases ax; exact h.bl
 ·exact aR.bl e he y ax⟩
instance {k d:Nat}{acc:Acc} [aR:yV acc]:yV ((k,d,none)::acc):=⟨λe he y ax=>by
 rcases List.mem_cons.1 he with rfl | he
 ·cases ax
 ·exact aR.bl e he y ax⟩
theorem Mo {G:List (Nat × ab)}{A:Nat->Bool}{acc:Acc} [h:DW G] [aR:yV acc]:GH (dg (get G) A acc):=by
 have key:∀ t x,dg (get G) A acc t=some x->cU x:=λt x J=>by
  rcases uN J with ⟨e,he,_,_,af⟩ | ⟨_,af⟩
  ·exact aR.bl e he x af
  ·exact h.bl t x af
 exact ⟨λt x J=>.bl (key t x J),λt z q n m new J=>by cases key t _ J⟩
end Go.Own
namespace Go.Own
open Go Go.MapKept Go.ChangeMaps
section
variable {P:Program}{w:World}{I:bb}{T:Array Value}{g g2:aK}{Fs:Nat->bb}
theorem SK {w:World}{b:Nat}{es hN:Array MapEntry}{c fS:Nat}(h:w.heap[b]?=some (.map es c)) (a:Addr):(setBlock w b (.map hN fS)).cell? a=w.cell? a:=by
 by_cases e:a.block=b
 ·have h1:(setBlock w b (.map hN fS)).heap[a.block]?=some (.map hN fS):=by rw [e]; exact heap_setBlock_same h _
  have af:w.heap[a.block]?=some (.map es c):=by rw [e]; exact h
  unfold World.cell?
  grind
 ·have h1:(setBlock w b (.map hN fS)).heap[a.block]?=w.heap[a.block]?:=heap_setBlock_other h _ e;unfold World.cell?;rw [h1]
theorem QG {w:World}{b:Nat}{es hN:Array MapEntry}{c fS:Nat}(h:w.heap[b]?=some (.map es c)):∀ (p:List Nat) (v:Value),walk (setBlock w b (.map hN fS)) v p=walk w v p
 | [],v=>rfl
 | k::p,v=>by
  have aa:child (setBlock w b (.map hN fS)) v k=child w v k:=by
   unfold child
   split <;> first | rfl | exact SK h _
  simp only [walk,aa];cases child w v k with
  | none=>rfl
  | some u=>exact QG h p u
theorem ZN {w:World}{b:Nat}{es hN:Array MapEntry}{c fS:Nat}(h:w.heap[b]?=some (.map es c)) (T:Array Value) (p:Place):dY (setBlock w b (.map hN fS)) T p=dY w T p:=by
 grind [dY,QG]
theorem Yv {w:World}{b:Nat}{es hN:Array MapEntry}{c fS:Nat}(h:w.heap[b]?=some (.map es c)) {T:Array Value}{r:ab}{v:Value}(ao:fA w T r v):fA (setBlock w b (.map hN fS)) T r v:=by
 cases r <;> simp only [fA,ZN h] at ao ⊢ <;> exact ao
theorem cI.XC (bj:cI w I T g Fs) {p:Place}{q fQ:Array MapEntry->Nat->Prop}{b:Nat}{es hN:Array MapEntry}{c fS:Nat}(au:bB g p=some (.mp q)) (hv:dY w T p=some (.map (some b))) (hm:w.heap[b]?=some (.map es c)) (bg:fQ hN fS)
  (zt:∀ t x,g2 t=some x->cu g p (.mp fQ) t=some x) (r8:∀ t x,g2 t=some x->∀ y,g t=some y->jo (gE g2) y) (lk:∀ t z q n m new,g2 t≠some (.bL z q n m new)) (kg:g2 p.root≠none) :
  ∃ b7,cI (setBlock w b (.map hN fS)) I T g2 b7/\∀ t c,b7 t c->Fs t c:=by
 have o8:∀ k,k≠b->(setBlock w b (.map hN fS)).heap[k]?=w.heap[k]?:=λk hk=>heap_setBlock_other hm _ hk;have Dz:(setBlock w b (.map hN fS)).heap[b]?=some (.map hN fS):=heap_setBlock_same hm _;have QE:(setBlock w b (.map hN fS)).heap.size=w.heap.size:=by simp [setBlock]
 have Wd:∀ r v,fA w T r v->fA (setBlock w b (.map hN fS)) T r v:=λr v h=>Yv hm h;generalize vx:setBlock w b (.map hN fS)=w' at *;obtain ⟨eB,iF⟩:∃ eB,g p.root=some eB:=by
  grind [bB]
 have py:eB.at p.path=some (.mp q):=by simpa [bB,iF] using au
 obtain ⟨v0,iP,gG⟩:=bj.rel _ _ iF;have BB:=gG.gI (by rintro z q n m new rfl; cases (ab.sz py).2);have lO:jo (gE g2) eB:=by
  cases af:g2 p.root with
  | none=>exact absurd af kg
  | some y=>exact r8 _ _ af _ iF
 have qk:=BB.yh lO;obtain ⟨h3,cz,hw,dH,dx,_,ki⟩:=R.focus p.path qk py;have Ja:h3=.map (some b):=by
  grind [dY]
 subst Ja;obtain ⟨eC,ab7,ph,e,a1,_,mo⟩:=dH.Jy;cases e;have mw:cz b:=(mo b).2 rfl;have vc:∀ c,I c->w'.heap[c]?=w.heap[c]?:=λc aa=>o8 c λe=>bj.bk _ b (dx b mw) (e ▸ aa);have EN:∀ t,t≠p.root->¬ Fs t b:=λt aw h=>aw (bj.eK _ _ _ h (dx b mw));have refs:∀ r u,(dU w T g r u/\gE g2 r)->dU w' T g2 r u:=λr u h=>⟨Wd r u h.1.1,h.2⟩;obtain ⟨c8,Ey,pr⟩:=ki w' I (dU w' T g2) (.mp fQ) cz ⟨vc,λc aa aF=>o8 c λe=>aF (e ▸ mw),λ_ h=>h,refs⟩ (.mp Dz bg mo) λc h _=>h;have Ev:∀ c,c8 c->Fs p.root c:=λc aa=>by
  grind
 let b7:Nat->bb:=λt c=>if t=p.root then c8 c else g2 t≠none/\Fs t c
 have pt:∀ t c,b7 t c->Fs t c:=by
  grind
 refine ⟨b7,⟨λt x J=>?_,λt aw c aa=>?_,λt t' c aa fo=>bj.eK t t' c (pt t c aa) (pt t' c fo),λt c aa hi=>bj.bk t c (pt t c aa) hi,λc aa=>by rw [QE]; exact bj.lt c aa,λt t' z q n m new bC cH m' c3 h1=>absurd h1 (lk _ _ _ _ _ _)⟩,pt⟩
 ·have gj:=zt t x J;by_cases aw:t=p.root
  ·subst aw;have EX:eB.setAt p.path (.mp fQ)=x:=by simpa [cu,iF] using gj
   refine ⟨v0,iP,.tree ?_⟩
   grind
  ·rw [uH aw] at gj;obtain ⟨u,hu,aY⟩:=bj.rel t x gj;replace aY:=aY.gI (by rintro z q n m new rfl; exact lk _ _ _ _ _ _ J);have Bv:b7 t=Fs t:=by
    grind
   refine ⟨u,hu,.tree ?_⟩;rw [Bv];exact (aY.yh (r8 t x J x gj)).frame vc (λ_ h=>h) refs λc aa=>o8 c λe=>EN t aw (e ▸ aa)
 grind
theorem TU {w:World}{b:Nat}{es hN:Array MapEntry}{c fS:Nat}(h:w.heap[b]?=some (.map es c)) (a:Addr):(setBlock w b (.map hN fS)).frozen? a=w.frozen? a:=by
 unfold World.frozen?
 grind [heap_setBlock_same,heap_setBlock_other]
theorem bm.XD {N:c5}{o:Oper}{t:TypeId}{m x v:Operand}{p:Place}{q fQ:Array MapEntry->Nat->Prop}{Y Z x2:ab}{oj dI:Value}{G2:List (Nat × ab)}(a1:o.op=.mapUpdate t m x v) (aS:o.dst=none) (hm:br g m=some (.gz p)) (au:bB g p=some (.mp q)) (J:br g x=some Y) (ax:br g v=some Z)
  (di:∀ (w:World) (I:bb) (ρ:ab->Value->Prop) (v:Value),R w I ρ Y v cw->v=oj) (H':∀ (w:World) (I:bb) (ρ:ab->Value->Prop) (v:Value),R w I ρ Z v cw->v=dI)
  (ao:∀ (w:World) (b:Nat) (es:Array MapEntry) (c:Nat),w.heap[b]?=some (.map es c)->q es c->∃ hN fS,(Instr.mapUpdate t (.map (some b)) oj dI).run P w=.ok () (setBlock w b (.map hN fS))/\fQ hN fS)
  (iu:cu g p (.mp fQ) p.root=some x2) (kg:(get G2 p.root).isSome=true) {y0:ab}(rf:g p.root=some y0) [e8:cf y0] (c9:kN g (get G2) p.root x2 G2):bm P N g o (get G2):=by
 refine .KN λw I T Fs h a aP bc K Q zm=>?_;obtain ⟨⟨b,av,hv⟩,_⟩:=(kh h hm aP).OJ;obtain ⟨gx,cz,iq,dH,dx⟩:=h.part au (by simp);have jV:=av;rw [av] at iq;cases iq;obtain ⟨eC,es,c,e,bY,bg,mo⟩:=dH.Jy;cases e;obtain ⟨hN,fS,hR,zy⟩:=ao w eC es c bY bg;have Wh:(execOp a.eval o).run P w=.ok .skip (setBlock w eC (.map hN fS)):=by
  simp [execOp,a1,hv,di _ _ _ _ (kh h J aP),H' _ _ _ _ (kh h ax aP),hR]
 have c1:∀ t x,get G2 t=some x->cu g p (.mp fQ) t=some x:=λt x J=>by
  rcases c9.spec t x J with ⟨h1,af,_⟩ | ⟨h1,af,_⟩
  ·grind [uH]
  grind
 have c2:∀ t x,get G2 t=some x->∀ y,g t=some y->jo (gE (get G2)) y:=λt x J y ax=>by
  rcases c9.spec t x J with ⟨h1,af,aI⟩ | ⟨h1,af,aI⟩
  ·rw [af] at ax;cases ax;rcases aI with aI | ⟨aI,_⟩
   ·cases aI with
    | n h=>exact .bl h
    | p _ _ bF fW=>exact .ref rfl (uE bF fW)
    | r _ _ bF ob=>exact .ref rfl (Ay bF ob)
   ·exact jo.ref (by cases aI; rfl) aI.Fx
  ·subst h1;rw [rf] at ax;cases ax;exact .bl e8.bl
 have jU:∀ t z q n m new,get G2 t≠some (.bL z q n m new):=λt z q n m new J=>by
  rcases c9.spec t _ J with ⟨_,_,aI | ⟨aI,_⟩⟩ | ⟨_,_,aI⟩
  ·exact aI.fy _ _ _ _ _ rfl
  ·exact aI.fy _ _ _ _ _ rfl
  ·cases aI
 obtain ⟨b7,d_,gH⟩:=h.XC (g2:=get G2) au jV bY zy c1 c2 jU (by intro e; rw [e] at kg; cases kg);unfold Oper.wp Oper.upon;simp only [Wh];refine zm _ _ ⟨by rw [aS]; rfl,by rw [aS]; exact hE.refl,I,b7,by rw [aS]; simpa [Act.put,aP] using d_,⟨⟨rfl,rfl,rfl,by simp [setBlock],λk _ hk=>heap_setBlock_other bY _ λe=>hk ⟨_,e ▸ dx eC ((mo eC).2 rfl)⟩,λa _=>TU bY a,Nat.le_refl _⟩,λ_ h=>h,λ_ h=>.inl h,λc ⟨t,aa⟩=>.inl ⟨t,gH t c aa⟩⟩⟩ λt _=>by rw [aS]; rfl
end
end Go.Own
namespace Go.Own
open Go Go.MapKept Go.ChangeMaps Go.WideElems
open Go.Maps (Keyed)
set_option linter.unusedVariables false
variable {kn lA:Type}{P:Program}{k e:TypeId}
abbrev yY:Value->Option (DataW Value × List MemPlace):=λv=>some (.held v,[])
def o3 [DecidableEq kn]:List (kn × lA)->kn->Option lA
 | [],_=>none
 | p::m,x=>if p.1=x then some p.2 else o3 m x
def si [DecidableEq kn] (ok:kn->Bool) (z:lA) (m:List (kn × lA)) (x:kn):Option lA:=if ok x then some ((o3 m x).getD z) else none
def zQ (ok:kn->Bool) (m:List (kn × lA)) (x:kn) (y:lA):Option (List (kn × lA)):=if ok x&&decide (m.length<=lim) then some ((x,y)::m) else none
structure AZ (P:Program) (k:TypeId) (kn:Type) where
 oj:kn->Value
 xK:kn->Lit
 Cp:kn->ab
 ok:kn->Bool
 keyed:Keyed P k
 key:∀ x,ok x=true->keyOf P k (oj x)=some (xK x)
 inj:∀ x y,xK x=xK y->x=y
 wJ:∀ (x:kn) (w:World) (I:bb) (ρ:ab->Value->Prop) (v:Value),R w I ρ (Cp x) v cw->v=oj x
structure A0 (P:Program) (e:TypeId) (lA:Type) where
 o7:lA->Value
 AH:lA->ab
 z:lA
 zero:∀ w,(zeroValue e).run P w=.ok (o7 z) w
 one:∀ x,(o7 x).oneCell'=true
 wJ:∀ (x:lA) (w:World) (I:bb) (ρ:ab->Value->Prop) (v:Value),R w I ρ (AH x) v cw->v=o7 x
 va:∀ (x:lA) (w:World) (I:bb) (ρ:ab->Value->Prop),R w I ρ (AH x) (o7 x) cw
def yr (P:Program) (k:TypeId) (es:Array MapEntry):List (Lit × DataW Value):=(es.toList.map (rg P k yY)).foldr DataW.insert []
def lE [DecidableEq kn] (K:AZ P k kn) (V:A0 P e lA) (m:List (kn × lA)):Array MapEntry->Nat->Prop:=λes c=>Fit P k yY es c/\es.size<=m.length/\∀ x GA,(DataW.map (yr P k es)).atKey (K.xK x) GA=match o3 m x with | some y=>.held (V.o7 y) | none=>GA
variable [DecidableEq kn] {K:AZ P k kn}{V:A0 P e lA}{m m':List (kn × lA)}{x:kn}{y:lA}{t:TypeId}
theorem lE.nil:lE K V [] #[] 0:=⟨⟨by simp,stamped_empty 0,by simp⟩,Nat.le_refl _,λx GA=>rfl⟩
theorem lE.look (ok:Bool) (db:K.ok x=true) (aw:P.underlying t=some (.map k e)) (w:World) (b:Nat) (es:Array MapEntry) (c:Nat) (av:w.heap[b]?=some (.map es c)) (h:lE K V m es c) :
  (Instr.lookup t (.map (some b)) (K.oj x) ok).run P w=.ok (if ok then .tuple #[V.o7 ((o3 m x).getD V.z),.bool (o3 m x).isSome] else V.o7 ((o3 m x).getD V.z)) w:=by
 obtain ⟨F,_,gu⟩:=h;have gu:=gu x;rcases Maps.fit_look ok K.keyed aw (V.zero w) av F (K.key x db) with ⟨hR,_,af⟩ | ⟨hd,y,_,_,hR,ax,af,_⟩
 ·have:o3 m x=none:=by
   cases aO:o3 m x with
   | none=>rfl
   | some y =>
    have h1:=gu .nil;rw [aO] at h1;have aI:=af .nil;unfold yr at h1;rw [h1] at aI; cases aI
  rw [hR,this]; rfl
 ·cases ax;cases aO:o3 m x with
  | none =>
   have h1:=gu .nil;rw [aO] at h1;have aI:=af .nil;unfold yr at h1;rw [h1] at aI; cases aI
  | some y =>
   have h1:=gu .nil;rw [aO] at h1;have aI:=af .nil;unfold yr at h1;rw [h1] at aI;have bF:hd.val=V.o7 y:=by simpa using aI.symm
   rw [hR,bF]; rfl
theorem lE.put (aQ:zQ K.ok m x y=some m') (aw:P.underlying t=some (.map k e)) (w:World) (b:Nat) (es:Array MapEntry) (c:Nat) (av:w.heap[b]?=some (.map es c)) (h:lE K V m es c) :
  ∃ hN fS,(Instr.mapUpdate t (.map (some b)) (K.oj x) (V.o7 y)).run P w=.ok () (setBlock w b (.map hN fS))/\lE K V m' hN fS:=by
 unfold zQ at aQ
 split at aQ
 ·rename_i aa;cases aQ;simp only [Bool.and_eq_true,decide_eq_true_eq] at aa;obtain ⟨db,aj⟩:=aa;obtain ⟨F,aB,gu⟩:=h;have NZ:=K.key x db;obtain ⟨hN,fS,hR,c8,nK,_⟩:=Maps.fit_store (R':=yY) K.keyed aw av F (by have:maxLen=9223372036854775807:=rfl; simp only [lim] at aj; omega) (λ_ _ _ _ aX=>aX) NZ (rfl:yY (V.o7 y)=some (.held (V.o7 y),[]));refine ⟨hN,fS,hR,c8,?_,λx' GA=>?_⟩
  ·have cy:hN.size=((hN.toList.map (rg P k yY)).foldr DataW.insert []).length:=by rw [length_sorted]; simp
   rw [cy,nK];unfold putKey;rw [length_insert];have b9:=List.length_filter_le (notKey (K.xK x)) ((es.toList.map (rg P k yY)).foldr DataW.insert []);rw [length_sorted] at b9;simp at b9 ⊢;omega
  ·have fH:(DataW.map (yr P k hN))=(DataW.map (yr P k es)).put (K.xK x) (.held (V.o7 y)):=by
    rw [DataW.put_eq]; unfold yr; rw [nK]
   rw [fH];by_cases J:x=x'
   ·subst J;rw [Maps.atKey_put_same ⟨_,rfl⟩ (K.keyed.key NZ)];simp [o3]
   ·rw [Maps.atKey_put_other (λe=>J (K.inj _ _ e).symm),gu];simp [o3,J]
 ·cases aQ
section
variable {N:c5}{g:aK}{a b c:Operand}{p:Place}{ty:TypeId}
instance {q:Array MapEntry->Nat->Prop}:cf (.mp q):=⟨.mp⟩
instance {q:Array MapEntry->Nat->Prop}:cf (.imp q):=⟨.imp⟩
instance {q:Array MapEntry->Nat->Prop}:p6 (.mp q):=⟨.mp⟩
theorem O.XB (K:AZ P k kn) (V:A0 P e lA):ch P g (.makeMap t none) ty (.mp (lE K V [])):=.rj (.makeMap lE.nil)
theorem O.qA {r:lA}{X Y:ab}(hm:Rd g a (.gz p)) (au:bB g p=some (.mp (lE K V m))) (J:Rd g b Y) (w6:K.Cp x=Y) (aw:P.underlying t=some (.map k e)) (h:si K.ok V.z m x=some r) (tQ:V.AH r=X):ch P g (.lookup t a b false) ty X:=by
 subst tQ w6;unfold si at h
 split at h
 ·rename_i db;cases h;exact .eW (.Fg hm.br au J.br (K.wJ x) (V.va _) λw b es c av bg=>lE.look false db aw w b es c av bg)
 ·cases h
theorem O.Cx {r:lA}{X Y:ab}(hm:Rd g a (.imp (lE K V m))) (J:Rd g b Y) (w6:K.Cp x=Y) (aw:P.underlying t=some (.map k e)) (h:si K.ok V.z m x=some r) (tQ:V.AH r=X):ch P g (.lookup t a b false) ty X:=by
 subst tQ w6;unfold si at h
 split at h
 ·rename_i db;cases h;exact .eW (.Cx hm.br J.br (K.wJ x) (V.va _) λw b es c av bg=>lE.look false db aw w b es c av bg)
 ·cases h
theorem bm.mt {o:Oper}{x2 y0 Y Z:ab}{G2:List (Nat × ab)}(a1:o.op=.mapUpdate t a b c) (aS:o.dst=none) (hm:Rd g a (.gz p)) (au:bB g p=some (.mp (lE K V m))) (J:Rd g b Y) (w6:K.Cp x=Y) (ax:Rd g c Z) (H':V.AH y=Z) (aw:P.underlying t=some (.map k e)) (h:zQ K.ok m x y=some m')
  (iu:cu g p (.mp (lE K V m')) p.root=some x2) (kg:(get G2 p.root).isSome=true) (rf:g p.root=some y0) [e8:cf y0] (c9:kN g (get G2) p.root x2 G2):bm P N g o (get G2):=by
 subst w6 H';exact .XD a1 aS hm.br au J.br ax.br (K.wJ x) (V.wJ y) (λw b es c av bg=>lE.put h aw w b es c av bg) iu kg rf c9
end
def sg (n:Int):Bool:=decide (-9223372036854775808<=n/\n<9223372036854775808)
def Rf (hk:P.underlying k=some (.int .i64)):AZ P k Int where
 oj n:=.int .i64 n
 xK n:=.int .i64 n
 Cp n:=ae n
 ok:=sg
 keyed:=Maps.int_keyed hk
 key n h:=Maps.keyOf_int_mk hk (by
  unfold sg at h;have:=of_decide_eq_true h;unfold Lit.wf;rw [Bool.and_eq_true];refine ⟨decide_eq_true ?_,decide_eq_true ?_⟩
  ·show (-9223372036854775808:Int)<=n; omega
  ·show n<=(9223372036854775807:Int); omega)
 inj x y h:=by cases h; rfl
 wJ x w I ρ v h:=h.hD.1
def Rg (aX:(P.info? e).bind (·.zero)=some (.int .i64 0)):A0 P e Int where
 o7 n:=.int .i64 n
 AH n:=ae n
 z:=0
 zero w:=G8 aX w
 one _:=rfl
 wJ x w I ρ v h:=h.hD.1
 va x w I ρ:=.lit rfl λ_ h=>h
end Go.Own
namespace Go.Own
open Go
section
variable {α:Type}{P:Program}{N:c5}{g:aK}{d r:Nat}{ty t t2 e:TypeId}{a b:Operand}{k k1:IntKind}{m n:Int}{p:Place}
def OF (L:List α) (m:Int):Option Unit:=if 0<=m/\m<=L.length then some () else none
instance:lD ai:=⟨λx=>[.int .i64 x],λ_=>rfl,λx v hv=>by rw [List.mem_singleton.1 hv]; rfl⟩
theorem O.Qg {en:bK α}{L:List α}{u:Unit}(J:Rd g a (.a6 en.z p L.length)) (aj:Rd g b (.lit (.int k m))) (au:bB g p=some (ak en L)) (aw:fq P t e en.z=true) (h:OF L m=some u):ch P g (.slice t a (some b) none none) ty (.sub en.z p m.toNat (L.length - m.toNat)):=by
 unfold OF at h
 split at h
 ·rename_i aa;obtain ⟨i,rfl⟩:=Int.eq_ofNat_of_zero_le aa.1;exact .eW (.F8 J.br ⟨_,aj.br⟩ rfl aw (by omega) (Nat.le_refl _) ⟨_,_,au,by omega⟩)
 ·cases h
def Mt (lo nd:Nat) (L S:List α):Option (List α):=if 0<min S.length nd/\lo+nd<=L.length then some (L.take lo++S.take (min S.length nd)++L.drop (lo+min S.length nd)) else none
def CA (e:bK α) [h:lD e] (L:List α):List Value:=L.flatMap h.rE
theorem JZ (e:bK α) [h:lD e] (L:List α):bo e L=(CA e L).map .lit:=by
 induction L with
 | nil=>rfl
 | cons x L aU =>
  have:bo e (x::L)=e.cells x++bo e L:=by simp [bo]
  rw [this,aU,h.cells];simp [CA]
theorem Ri.bk {en:bK α}{S:List α}:Src g (ag en S) en.z S.length (bo en S):=.bk
theorem Ri.a6 {en:bK α} [lD en] {L:List α}{q:Place}{n:Nat}(bg:bB g q=some (ak en L)) (aF:n<=L.length):Src g (.a6 en.z q n) en.z (L.take n).length (bo en (L.take n)):=by
 have h1:(L.take n).length=n:=by rw [List.length_take]; omega
 have af:bo en (L.take n)=(((bo en L).take (n * en.z)).mapIdx λi x=>gw 0 (q.push i) x):=by
  rw [yi,JZ];apply List.ext_getElem?;intro j;rw [List.getElem?_mapIdx];cases ah:((CA en (L.take n)).map ab.lit)[j]? with
  | none=>rfl
  | some y =>
   obtain ⟨v,_,rfl⟩:=List.mem_map.1 (List.mem_of_getElem? ah);rfl
 rw [h1,af];exact .a6 bg aF
theorem Y7 {z:Nat}(h:fq P t e z=true):(P.info? e).map (·.size)=some z:=by
 grind [fq]
theorem bm.bp {o:Oper}{en:bK α} [aj:lD en] {L S L':List α}{lo nd:Nat}{K' fr:ab}{G2:List (Nat × ab)}(a1:o.op=.call { callee:=.builtin .copy,args:=#[a,b],argTypes:=#[t,t2] }) (aS:o.dst=some d) (aP:br g a=some K') (W_:K'=.sub en.z ⟨r,[]⟩ lo nd\/(K'=.a6 en.z ⟨r,[]⟩ nd/\lo=0)) (av:br g b=some fr)
  (r9:Src g fr en.z S.length (bo en S)) (aB:g r=some (ak en L)) (zJ:en.z=1) (aw:fq P t e 1=true) (h:Mt lo nd L S=some L') (kg:(get G2 r).isSome=true) (c9:kN g (get G2) r (ak en L') G2) (vk:get G2 d=none) (bc:N.ok d=true) :
  bm P N g o (get ((d,ae ((min S.length nd:Nat):Int))::G2)):=by
 unfold Mt at h;by_cases aa:0<min S.length nd/\lo+nd<=L.length
 case neg=>rw [if_neg aa] at h; cases h
 rw [if_pos aa] at h;obtain ⟨lO,acU⟩:=aa;cases h;generalize hk:min S.length nd=k at *;have acT:k<=S.length:=by omega
 have acV:k<=nd:=by omega
 refine .KN λw I T Fs h ca zo UK K Q zm=>?_;obtain ⟨hu,he,fX⟩:=qK (w:=w) aw;have au:bB g ⟨r,[]⟩=some (ak en L):=by simp [bB,aB,ab.at]
 have Nr:=kh h aP zo;obtain ⟨v0,cz,iP,dH,dx⟩:=h.part au (by simp);obtain ⟨a0,aac,rfl,lh,hlen,ra,rb⟩:=dH.nm;have UG:0<L.length:=by omega
 cases a0 with
 | none=>have:=rb UG; simp at this
 | some LL =>
 obtain ⟨BW,BX⟩:=ra LL rfl;obtain ⟨g0,ado,adq⟩:=LL;simp only at BW BX;subst BW BX;have mw:cz g0:=dH.qC g0 rfl
 -- the target
 have It:∃ cap,ca.eval a=.slice (some ⟨g0,lo,none⟩) nd cap:=by
  rcases W_ with rfl | ⟨rfl,rfl⟩
  ·obtain ⟨⟨lG,uW,ph,aD,c1,h1,af,_,_,cG⟩,_⟩:=Nr.xB;rw [h1] at iP;cases iP;obtain ⟨ad,cy,b9⟩:=cG (by omega);cases cy;rw [af,b9,zJ];exact ⟨c1,by simp⟩
  ·obtain ⟨⟨lG,uW,ph,h1,af,_⟩,_⟩:=Nr.nc;rw [h1] at iP;cases iP;exact ⟨_,af⟩
 obtain ⟨To,It⟩:=It
 -- the source
 obtain ⟨Dn,YT,news,vr,IW,B7,l5,gX,hy,aY⟩:=r9.sound h (kh h av zo);rw [zJ,Nat.mul_one] at IW;cases Dn with
 | none=>have:=B7 (by omega) (by omega); simp at this
 | some PZ =>
 have ac5:news=CA en S:=by
  rw [JZ,List.length_map] at gX;apply List.ext_getElem gX.symm;intro j h1 af;have:=(aY j (.lit (CA en S)[j]) news[j] (by rw [JZ,List.getElem?_map,List.getElem?_eq_getElem af]; rfl) (List.getElem?_eq_getElem h1)).hD.1;exact this
 -- the block
 cases dH with
 | ref J=>simp [ab.isRef] at J
 | @own _ _ _ _ cj us bM _ qp hY h1 ao n_ iN aN =>
 obtain ⟨l8,bY⟩:=qp;rcases bY with ⟨bY,_⟩ | ⟨eC,cap,cur,bY,v',lx,Aw,yd,Dj,Dk⟩
 ·cases bY
 cases bY;have NF:L.length<=cur.size:=by
  have w5:(cur.toList.take (L.length * en.z)).length=L.length * en.z:=by rw [Dk,l8]
  rw [List.length_take,zJ,Nat.mul_one,Array.length_toList] at w5;rw [zJ] at Dj;omega
 have EC:(news.take k).length=k:=by rw [List.length_take]; omega
 have hR:(execOp ca.eval o).run P w=.ok (.value (goInt k)) (w.setRow g0 (e5 cur.toList lo (news.take k)).toArray):=by
  have rV:=run_copy_row (P:=P) w t t2 o.type e g0 lo nd To PZ S.length YT cur cj (news.take k) hu (Y7 aw) lx (by rw [EC]; exact hk.symm) (λj v ah=>by
   rw [List.getElem?_take] at ah
   split at ah
   ·exact l5 PZ rfl j v ah
   ·cases ah) (by rw [EC]; omega) (λv hv=>by
   obtain ⟨j,ah⟩:=List.getElem?_of_mem (List.mem_of_mem_take hv);exact hy j v ah)
  rw [EC] at rV;have rQ:(cur.toList.take lo++news.take k++cur.toList.drop (lo+k))=e5 cur.toList lo (news.take k):=by unfold e5; rw [EC]
  rw [rQ] at rV;simp [execOp,a1,resolve,invoke,It,vr,builtin,rV]
 -- the state
 have We:∀ (j:Nat) (x:ab) (u:Value),((bo en S).take k)[j]?=some x->(news.take k)[j]?=some u->R w I (fA w T) x u cw:=λj x u J hu=>by
  rw [List.getElem?_take] at J hu
  split at J
  ·rename_i ah;rw [if_pos ah] at hu;exact (aY j x u J hu).frame (λ_ _=>rfl) (λ_ h=>h) (λ_ _ h=>h.1) λ_ _=>rfl
  ·cases J
 have hH:Hand w I (fA w T) Fs ((bo en S).take k) (news.take k) (λ_=>cw) :=
  ⟨by rw [List.length_take,List.length_take,gX],We,λ_ _ _ _ _ h=>h.elim,λ_ _ _ _ h=>h.elim,λ_ _ _ h=>h.elim⟩
 have ND:((bo en S).take k).length=k:=by rw [List.length_take,gX]; omega
 have UF:(bo en L).length=L.length:=by rw [nn,zJ,Nat.mul_one]
 have r4:(ak en L).e5 lo ((bo en S).take k)=ak en (L.take lo++S.take k++L.drop (lo+k)):=by
  show ab.own en.z L.length (e5 (bo en L) lo ((bo en S).take k))=_;have cy:e5 (bo en L) lo ((bo en S).take k)=bo en (L.take lo++S.take k++L.drop (lo+k)):=by
   unfold e5;rw [ND,FT,FT];have lT:=yi en L lo;have FK:=yi en S k;have Di:=AB en L (lo+k);rw [zJ,Nat.mul_one] at lT FK Di;rw [lT,FK,Di]
  unfold ak;rw [cy];congr 1;simp; omega
 have V7:∀ (j:Nat) (u:Value),(news.take k)[j]?=some u->u.oneCell'=true:=λj u hu=>by
  rw [List.getElem?_take] at hu
  split at hu
  ·exact hy j u hu
  ·cases hu
 have c1:∀ t x,get G2 t=some x->cu g ⟨r,[]⟩ ((ak en L).e5 lo ((bo en S).take k)) t=some x:=λt x J=>by
  rw [r4];rcases c9.spec t x J with ⟨h1,af,_⟩ | ⟨h1,af,_⟩
  ·rw [uH h1]; exact af
  ·subst h1 af; simp [cu,aB,ab.setAt]
 have c2:∀ t x,get G2 t=some x->∀ y,g t=some y->jo (λq=>gE g q/\Clear ⟨r,[]⟩ lo ((bo en S).take k).length q/\gE (get G2) q) y:=λt x J y ax=>by
  rcases c9.spec t x J with ⟨h1,af,aI⟩ | ⟨h1,af,aI⟩
  ·rw [af] at ax; cases ax;rcases aI with aI | ⟨_,c2,Tw⟩
   ·exact aI.Ky
   ·cases Tw
  ·subst h1; rw [aB] at ax; cases ax; exact .bl (.own (pU en L))
 have jU:∀ t z q n m new,get G2 t≠some (.bL z q n m new):=λt z q n m new J=>by
  rcases c9.spec t _ J with ⟨_,_,aI | ⟨aI,_⟩⟩ | ⟨_,_,aI⟩
  ·exact aI.fy _ _ _ _ _ rfl
  ·exact aI.fy _ _ _ _ _ rfl
  ·cases aI
 obtain ⟨iZ,h9,gH⟩:=h.mF.store (g2:=get G2) au (.inl rfl) (k:=lo) (cs':=(bo en S).take k) (by rw [ND,UF]; omega) hH (λx J=>pU en S x (List.mem_of_mem_take J)) V7 c1 c2 jU (by intro e; rw [e] at kg; cases kg) iP rfl lx;have nK:=h9.uD (d:=d) (x:=ae (k:Int)) (v:=goInt k) (F:=cw) vk (by rw [<- zo,UK]; exact c5.lt bc) (.tree (.lit rfl λ_ h=>h)) (λ_ _ h=>h.elim) (λ_ h=>h.elim) (by rintro z p n m new e; cases e);unfold Oper.wp Oper.upon;simp only [hR];have rQ:get ((d,ae (k:Int))::G2)=cV (get G2) d (ae (k:Int)):=by
  funext t;rw [sD]
 rw [<- rQ] at nK;have tW:∃ t,Fs t g0:=⟨_,dx g0 mw⟩;refine zm _ _ ⟨by rw [aS]; rfl,by rw [aS]; exact hE.put bc _ _,I,_,by rw [aS]; simpa [Act.put,zo] using nK,⟨⟨rfl,rfl,rfl,by simp,λc _ aa=>setRow_other w g0 c _ (λe=>aa (e ▸ tW)),λa _=>HK w g0 _ a,Nat.le_refl _⟩,λ_ h=>h,λ_ h=>.inl h,λc aa=>?_⟩⟩ λt aw=>by rw [aS]; simp only [Act.put]; rw [Array.getElem?_setIfInBounds_ne]; rintro rfl; exact aw aS
 obtain ⟨t,aa⟩:=aa;simp only [uM] at aa
 split at aa
 ·exact aa.elim
 ·rcases gH t c aa with jb | ⟨_,_,jb⟩
  ·exact .inl ⟨t,jb⟩
  ·exact jb.elim
end
end Go.Own
namespace Go.Own
open Go
def FR (ew:List Nat) (o:Oper):Oper:=⟨o.dst,o.op,o.type,o.pos,o.after.map λe=>⟨ew.idxOf e.on,e.ground⟩,o.guard.map λp=>(ew.idxOf p.1,p.2)⟩
def lv (ew:List Nat) (l:List Oper):List Oper:=ew.map λk=>FR ew (l.getD k default)
def Kd (ew:List Nat) (n:Nat):Bool:=Nat.beq ew.length n&&(List.range n).all λk=>ew.contains k&&Nat.blt (ew.getD k n) n&&Nat.beq (ew.idxOf (ew.getD k n)) k
structure Perm (ew:List Nat) (n:Nat):Prop where
 len:ew.length=n
 mem:∀ k,k<n->ew.idxOf k<n/\ew.getD (ew.idxOf k) n=k
 lt:∀ j,j<n->ew.getD j n<n/\ew.idxOf (ew.getD j n)=j
theorem Yb {ew:List Nat}{n:Nat}(h:Kd ew n=true):Perm ew n:=by
 unfold Kd at h;simp only [Bool.and_eq_true,Nat.beq_eq,List.all_eq_true,List.mem_range,Nat.blt_eq] at h;obtain ⟨aj,hQ⟩:=h;refine ⟨aj,λk hk=>?_,λj ah=>⟨(hQ j ah).1.2,(hQ j ah).2⟩⟩
 grind
section
variable {P:Program}{Q:Exit->Act->World->Prop}{ew:List Nat}{l:List Oper}
theorem Ke (jY:Perm ew l.length) {j:Nat}(ah:j<l.length):(lv ew l).toArray[j]?=some (FR ew (l.getD (ew.getD j l.length) default))/\l.toArray[ew.getD j l.length]?=some (l.getD (ew.getD j l.length) default):=by
 have h1:j<ew.length:=by rw [jY.len]; exact ah
 have af:=(jY.lt j ah).1
 grind [lv]
theorem Pz (jY:Perm ew l.length) {A B:Array Bool}(er:A.size=l.length) (ff:B.size=l.length) (sF:∀ j,j<l.length->B.getD j true=A.getD (ew.getD j l.length) true) {j:Nat}(ah:j<l.length) :
  ew.getD j l.length∈Region.ready .any l.toArray A↔j∈Region.ready .any (lv ew l).toArray B:=by
 obtain ⟨h1,af⟩:=Ke jY ah;have adr:∀ {C:Array Bool}{k:Nat},k<C.size->C.getD k false=C.getD k true:=λ{C k} h=>by simp [Array.getD,h]
 have gone:∀ {C:Array Bool}{k:Nat},¬ k<C.size->C.getD k false=false:=λ{C k} h=>by simp [Array.getD,h]
 have ME:∀ m,A.getD m false=true↔B.getD (ew.idxOf m) false=true:=λm=>by
  by_cases hm:m<l.length
  ·obtain ⟨aI,bF⟩:=jY.mem m hm
   grind
  ·have cG:¬ ew.idxOf m<l.length:=λh=>by
    have eh:=List.idxOf_lt_length_iff.1 (by rw [jY.len]; exact h);obtain ⟨i,hi,e⟩:=List.mem_iff_getElem.1 eh;have:=(jY.lt i (by rw [<- jY.len]; exact hi)).1
    grind
   grind
 rw [mem_ready,mem_ready,sF j ah];constructor
 ·rintro ⟨a,o,a1,h⟩;rw [af] at a1;cases a1;refine ⟨a,_,h1,λe he av=>?_⟩;obtain ⟨hd,VB,rfl⟩:=Array.mem_map.1 he;exact (ME _).1 (h hd VB av)
 ·rintro ⟨a,o,a1,h⟩;rw [h1] at a1;cases a1;refine ⟨a,_,af,λe he av=>?_⟩;exact (ME _).2 (h ⟨ew.idxOf e.on,e.ground⟩ (Array.mem_map.2 ⟨e,he,rfl⟩) av)
theorem Yd (jY:Perm ew l.length) (o:Oper) (T:Array Value):Region.wanted (FR ew o) (yielded (lv ew l).toArray T)=Region.wanted o (yielded l.toArray T):=by
 unfold Region.wanted FR;cases aO:o.guard with
 | none=>rfl
 | some p =>
  obtain ⟨m,b⟩:=p;simp only [Option.map_some];have:yielded (lv ew l).toArray T (ew.idxOf m)=yielded l.toArray T m:=by
   unfold yielded;by_cases hm:m<l.length
   ·obtain ⟨aI,bF⟩:=jY.mem m hm;obtain ⟨h1,af⟩:=Ke jY aI;rw [bF] at h1 af;rw [h1,af];rfl
   ·have cG:¬ ew.idxOf m<l.length:=λh=>by
     have eh:=List.idxOf_lt_length_iff.1 (by rw [jY.len]; exact h);obtain ⟨i,hi,e⟩:=List.mem_iff_getElem.1 eh;have:=(jY.lt i (by rw [<- jY.len]; exact hi)).1
     grind
    have cy:(lv ew l).toArray[ew.idxOf m]?=none:=by
     rw [List.getElem?_toArray];exact List.getElem?_eq_none (by simp [lv,jY.len]; omega)
    grind
  rw [this]
theorem Yc (jY:Perm ew l.length):∀ (fuel:Nat) (A B:Array Bool) (a:Act) (w:World),A.size=l.length->B.size=l.length->(∀ j,j<l.length->B.getD j true=A.getD (ew.getD j l.length) true) ->
  wpAny P .any (lv ew l).toArray Q fuel B a w->wpAny P .any l.toArray Q fuel A a w:=by
 have lift:∀ {A B:Array Bool},A.size=l.length->B.size=l.length->(∀ j,j<l.length->B.getD j true=A.getD (ew.getD j l.length) true)->∀ k,k∈Region.ready .any l.toArray A->∃ j,j<l.length/\ew.getD j l.length=k/\j∈Region.ready .any (lv ew l).toArray B:=λ{A B} er ff sF k hk=>by
  have fv:k<l.length:=by
   grind [mem_ready]
  obtain ⟨aI,bF⟩:=jY.mem k fv
  grind [Pz]
 have nil:∀ {A B:Array Bool},A.size=l.length->B.size=l.length->(∀ j,j<l.length->B.getD j true=A.getD (ew.getD j l.length) true)->Region.ready .any l.toArray A=[]->Region.ready .any (lv ew l).toArray B=[]:=λ{A B} er ff sF h=>by
  cases ao:Region.ready .any (lv ew l).toArray B with
  | nil=>rfl
  | cons j r =>
   have ah:j∈Region.ready .any (lv ew l).toArray B:=by rw [ao]; simp
   have eZ:j<l.length:=by
    grind [mem_ready]
   have:=(Pz jY er ff sF eZ).2 ah
   grind
 intro fuel
 induction fuel with
 | zero =>
  intro A B a w er ff sF h;refine ⟨?_,h.2⟩;cases ao:Region.ready .any l.toArray A with
  | nil=>rfl
  | cons k r =>
   obtain ⟨j,_,_,ah⟩:=lift er ff sF k (by rw [ao]; simp);rw [h.1] at ah;cases ah
 | succ fuel aU =>
  intro A B a w er ff sF h;refine ⟨λao=>h.1 (nil er ff sF ao),λk hk=>?_⟩;obtain ⟨j,eZ,rfl,ah⟩:=lift er ff sF k hk;have aB:=h.2 j ah;obtain ⟨h1,af⟩:=Ke jY eZ;have Uk:∀ i,i<l.length->(B.setIfInBounds j true).getD i true=(A.setIfInBounds (ew.getD j l.length) true).getD (ew.getD i l.length) true:=λi hi=>by
   have aT:=(jY.lt j eZ).1;have IN:=(jY.lt i hi).1;have e:∀ (C:Array Bool) (p q:Nat),p<C.size->q<C.size->(C.setIfInBounds p true).getD q true=if q=p then true else C.getD q true:=λC p q au bg=>by
    by_cases h:q=p
    ·simp_all
    ·rw [if_neg h];simp [Array.getD,bg,Array.getElem_setIfInBounds_ne,Ne.symm h]
   rw [e B j i (by omega) (by omega),e A _ _ (by omega) (by omega),sF i hi];by_cases h:i=j
   ·grind
   ·rw [if_neg h,if_neg];intro aR;have:=(jY.lt i hi).2;rw [aR,(jY.lt j eZ).2] at this
    grind
  have mono:∀ a w,wpAny P .any (lv ew l).toArray Q fuel (B.setIfInBounds j true) a w->wpAny P .any l.toArray Q fuel (A.setIfInBounds (ew.getD j l.length) true) a w:=λa w aR=>aU _ _ a w (by simpa using er) (by simpa using ff) Uk aR;unfold wpOp at aB ⊢;rw [af];rw [h1] at aB;simp only [Yd jY] at aB;show if Region.wanted (l.getD (ew.getD j l.length) default) (yielded l.toArray a.tmps)=true then _ else _
  split
  ·rename_i hw;rw [if_pos hw] at aB;exact aB.imp (λaR=>Oper.wp_mono mono aR) id
  ·rename_i hw;rw [if_neg hw] at aB;exact mono _ _ aB
end
section
variable {P:Program}{N:c5}
theorem W.Yt {id:Nat}{l:List Oper}{G:List (Nat × ab)}{Φ:Exit->aK->Prop}(ew:List Nat) (bd:List (List Nat)) (G1:List (Nat × ab)) (hm:P.follows .mixedOrders=true) (er:pg (lv ew l).toArray bd=true) (jY:Kd ew l.length=true)
  (h:bz P N (lv ew l).toArray bd (get G) 0 [] (lv ew l) λg'=>kr g' (get G1)) (hk:aC .normal Φ G1):W P N (.region id l.toArray true) (get G) Φ:=by
 have au:=Yb jY;obtain ⟨g',h1,af⟩:=h [] 0 .nil .nil (by simp);have fX:(lv ew l).toArray.size=l.length:=by simp [lv,au.len]
 refine gi.w (g':=g') (e:=.normal) ?_ (hk g' (.eX af .h2));intro Q a w I Fs bj bc dP;refine wp_region_any hm ?_;have d_:cI w.drew I a.tmps (get G) Fs:=bj.world (λ_ _ _=>rfl) (λ_ _=>rfl) (Nat.le_refl _);have hQ:∀ k,dQ (Array.replicate (lv ew l).toArray.size false) k=false:=by
  intro k;unfold dQ;rcases Nat.lt_or_ge k (lv ew l).toArray.size with h | h
  ·simp_all
  grind
 refine Yc au _ _ (Array.replicate l.length false) a w.drew (by simp) (by simp) (λj ah=>?_) ?_
 ·have:=(au.lt j ah).1
  simp_all
 have w5:=h1.sound er .nil (lv ew l).toArray.size (Array.replicate (lv ew l).toArray.size false) a w.drew I Fs ?_ (by simp) (λk hk=>by omega) (λk _=>hQ k) (λk hk=>by rw [hQ] at hk; cases hk) d_ bc (λca w' aF=>dP _ _ ?_)
 ·grind
 ·grind [ht]
 ·obtain ⟨cy,b9,I',b7,h9,b1⟩:=aF;exact ⟨cy,b9,I',b7,h9,⟨⟨b1.eR.os,b1.eR.tape,b1.eR.output,b1.eR.size,b1.eR.block,b1.eR.dO,Nat.le_trans (Nat.le_succ _) b1.eR.w0⟩,b1.more,b1.new,b1.own⟩⟩
end
end Go.Own
namespace Go.Own
open Go
section
variable {α:Type}{P:Program}{N:c5}{g:aK}{a b:Operand}{t:TypeId}{m i:Int}
end
end Go.Own
namespace Go.Own
open Go
section
variable {P:Program}{N:c5}{ops:Array Oper}{bd:List (List Nat)}{acc:Acc}{l:List Oper}{K:aK->Prop}{i d:Nat}
theorem bz.Ma (bG:Nat) {G G2:List (Nat × ab)}{o:Oper}{x:ab}(he:iw P N (dg (get G) (λm=>(bd.getD bG []).contains m) acc) o (cV (get G2) d x)) (aO:o.guard=none) (gR:CC (acc.filterMap j2)=true) (fI:l' G=true) (ah:Nat.beq ops.size (bG+l.length+1)=true)
  (ga:acc.filter (λe=>!(bd.getD bG []).contains e.1)=[])
  (av:(List.range ops.size).all (λk=>Nat.ble k bG||(bd.getD k []).contains bG)=true) (hk:bz P N ops bd (get ((d,x)::G2)) (bG+1) [] l K):bz P N ops bd (get G) i acc (o::l) K :=
 .wP bG (sD ▸ he) aO gR fI ah ga av hk
end
end Go.Own
namespace Go.Proofs
open Tryz
open Go Go.Shelf Go.RowKit Go.Lib Go.Sort Go.Own
def Tryz.Zc:Go.Shelf.Ren:=⟨fun | 6=>56 | 15=>75 | 14=>74 | 28=>101 | 29=>102 | 20=>93 | 21=>94 | 22=>95 | 23=>96 | 24=>97 | 25=>98 | 26=>99 | 27=>100 | 46=>128 | 47=>129 | 48=>130 | 49=>131 | 50=>132 | 57=>142 | n=>n,fun | 22=>47 | 24=>111 | 25=>130 | 3=>3 | 39=>160 | 0=>0 | 53=>190 | 55=>192 | 4=>4 | 46=>184 | 45=>183 | 50=>59 | 5=>5 | 9=>9 | 66=>217 | 70=>221 | 76=>230 | 77=>176 | n=>n,fun | n=>n⟩
theorem Tryz.Zb:Go.Proofs.SlLaysF0.n6 prog Tryz.Zc:={
 mixed:=by kernel_rfl
 f6:=⟨Tryz.f56.name,by decide,func56.trans (congrArg some (by kernel_rfl))⟩
 f14:=⟨Tryz.f74.name,by decide,func74.trans (congrArg some (by kernel_rfl))⟩
 f15:=func75.trans (congrArg some (by kernel_rfl))
 f20:=⟨Tryz.f93.name,by decide,func93.trans (congrArg some (by kernel_rfl))⟩
 f21:=⟨Tryz.f94.name,by decide,func94.trans (congrArg some (by kernel_rfl))⟩
 f22:=⟨Tryz.f95.name,by decide,func95.trans (congrArg some (by kernel_rfl))⟩
 f23:=⟨Tryz.f96.name,by decide,func96.trans (congrArg some (by kernel_rfl))⟩
 f24:=⟨Tryz.f97.name,by decide,func97.trans (congrArg some (by kernel_rfl))⟩
 f25:=⟨Tryz.f98.name,by decide,func98.trans (congrArg some (by kernel_rfl))⟩
 f26:=⟨Tryz.f99.name,by decide,func99.trans (congrArg some (by kernel_rfl))⟩
 f27:=⟨Tryz.f100.name,by decide,func100.trans (congrArg some (by kernel_rfl))⟩
 f28:=func101.trans (congrArg some (by kernel_rfl))
 f29:=func102.trans (congrArg some (by kernel_rfl))
 f46:=⟨Tryz.f128.name,by decide,func128.trans (congrArg some (by kernel_rfl))⟩
 f47:=func129.trans (congrArg some (by kernel_rfl))
 f48:=func130.trans (congrArg some (by kernel_rfl))
 f49:=⟨Tryz.f131.name,by decide,func131.trans (congrArg some (by kernel_rfl))⟩
 f50:=⟨Tryz.f132.name,by decide,func132.trans (congrArg some (by kernel_rfl))⟩
 f57:=⟨Tryz.f142.name,by decide,func142.trans (congrArg some (by kernel_rfl))⟩
 t0:=Tryz.underlying0
 a0:=Tryz.isAgg0
 z0:=Tryz.sizeOf0
 v0:=Tryz.zeroValue0
 t3:=Tryz.underlying3
 a3:=Tryz.isAgg3
 z3:=Tryz.sizeOf3
 v3:=Tryz.zeroValue3
 t4:=Tryz.underlying4
 a4:=Tryz.isAgg4
 z4:=Tryz.sizeOf4
 v4:=Tryz.zeroValue4
 t5:=Tryz.underlying5
 a5:=Tryz.isAgg5
 z5:=Tryz.sizeOf5
 v5:=Tryz.zeroValue5
 t9:=Tryz.underlying9
 a9:=Tryz.isAgg9
 z9:=Tryz.sizeOf9
 v9:=Tryz.zeroValue9
 t22:=Tryz.underlying47
 a22:=Tryz.isAgg47
 z22:=Tryz.sizeOf47
 v22:=Tryz.zeroValue47
 t25:=Tryz.underlying130
 a25:=Tryz.isAgg130
 z25:=Tryz.sizeOf130
 v25:=Tryz.zeroValue130
 t39:=Tryz.underlying160
 a39:=Tryz.isAgg160
 z39:=Tryz.sizeOf160
 v39:=Tryz.zeroValue160
 t45:=Tryz.underlying183
 a45:=Tryz.isAgg183
 z45:=Tryz.sizeOf183
 v45:=Tryz.zeroValue183
 t46:=Tryz.underlying184
 a46:=Tryz.isAgg184
 z46:=Tryz.sizeOf184
 v46:=Tryz.zeroValue184
 t50:=Tryz.underlying59
 a50:=Tryz.isAgg59
 z50:=Tryz.sizeOf59
 v50:=Tryz.zeroValue59
 t53:=Tryz.underlying190
 a53:=Tryz.isAgg190
 z53:=Tryz.sizeOf190
 v53:=Tryz.zeroValue190
 t55:=Tryz.underlying192
 a55:=Tryz.isAgg192
 z55:=Tryz.sizeOf192
 v55:=Tryz.zeroValue192
 t66:=Tryz.underlying217
 a66:=Tryz.isAgg217
 z66:=Tryz.sizeOf217
 v66:=Tryz.zeroValue217
 t70:=Tryz.underlying221
 a70:=Tryz.isAgg221
 z70:=Tryz.sizeOf221
 v70:=Tryz.zeroValue221
 t76:=Tryz.underlying230
 a76:=Tryz.isAgg230
 z76:=Tryz.sizeOf230
 v76:=Tryz.zeroValue230
 t77:=Tryz.underlying176
 a77:=Tryz.isAgg176
 z77:=Tryz.sizeOf176
 v77:=Tryz.zeroValue176 }
def Tryz.Y_:Go.Shelf.Ren:=⟨fun | 6=>70 | 15=>75 | 14=>90 | 28=>101 | 29=>102 | 20=>119 | 21=>120 | 22=>121 | 23=>122 | 24=>123 | 25=>124 | 26=>125 | 27=>126 | 46=>139 | 47=>129 | 48=>130 | 49=>140 | 50=>141 | 57=>147 | n=>n,fun | 22=>27 | 24=>3 | 25=>85 | 3=>3 | 39=>160 | 0=>0 | 53=>190 | 55=>192 | 4=>4 | 46=>184 | 45=>183 | 50=>59 | 5=>5 | 9=>9 | 66=>217 | 70=>221 | 76=>230 | 77=>176 | n=>n,fun | n=>n⟩
theorem Tryz.KS:Go.Proofs.SlLaysF.n6 prog Tryz.Y_:={
 mixed:=by kernel_rfl
 f6:=⟨Tryz.f70.name,by decide,func70.trans (congrArg some (by kernel_rfl))⟩
 f14:=⟨Tryz.f90.name,by decide,func90.trans (congrArg some (by kernel_rfl))⟩
 f15:=func75.trans (congrArg some (by kernel_rfl))
 f20:=⟨Tryz.f119.name,by decide,func119.trans (congrArg some (by kernel_rfl))⟩
 f21:=⟨Tryz.f120.name,by decide,func120.trans (congrArg some (by kernel_rfl))⟩
 f22:=⟨Tryz.f121.name,by decide,func121.trans (congrArg some (by kernel_rfl))⟩
 f23:=⟨Tryz.f122.name,by decide,func122.trans (congrArg some (by kernel_rfl))⟩
 f24:=⟨Tryz.f123.name,by decide,func123.trans (congrArg some (by kernel_rfl))⟩
 f25:=⟨Tryz.f124.name,by decide,func124.trans (congrArg some (by kernel_rfl))⟩
 f26:=⟨Tryz.f125.name,by decide,func125.trans (congrArg some (by kernel_rfl))⟩
 f27:=⟨Tryz.f126.name,by decide,func126.trans (congrArg some (by kernel_rfl))⟩
 f28:=func101.trans (congrArg some (by kernel_rfl))
 f29:=func102.trans (congrArg some (by kernel_rfl))
 f46:=⟨Tryz.f139.name,by decide,func139.trans (congrArg some (by kernel_rfl))⟩
 f47:=func129.trans (congrArg some (by kernel_rfl))
 f48:=func130.trans (congrArg some (by kernel_rfl))
 f49:=⟨Tryz.f140.name,by decide,func140.trans (congrArg some (by kernel_rfl))⟩
 f50:=⟨Tryz.f141.name,by decide,func141.trans (congrArg some (by kernel_rfl))⟩
 f57:=⟨Tryz.f147.name,by decide,func147.trans (congrArg some (by kernel_rfl))⟩
 t0:=Tryz.underlying0
 a0:=Tryz.isAgg0
 z0:=Tryz.sizeOf0
 v0:=Tryz.zeroValue0
 t3:=Tryz.underlying3
 a3:=Tryz.isAgg3
 z3:=Tryz.sizeOf3
 v3:=Tryz.zeroValue3
 t4:=Tryz.underlying4
 a4:=Tryz.isAgg4
 z4:=Tryz.sizeOf4
 v4:=Tryz.zeroValue4
 t5:=Tryz.underlying5
 a5:=Tryz.isAgg5
 z5:=Tryz.sizeOf5
 v5:=Tryz.zeroValue5
 t9:=Tryz.underlying9
 a9:=Tryz.isAgg9
 z9:=Tryz.sizeOf9
 v9:=Tryz.zeroValue9
 t22:=Tryz.underlying27
 a22:=Tryz.isAgg27
 z22:=Tryz.sizeOf27
 v22:=Tryz.zeroValue27
 a24:=Tryz.isAgg3
 z24:=Tryz.sizeOf3
 t25:=Tryz.underlying85
 a25:=Tryz.isAgg85
 z25:=Tryz.sizeOf85
 v25:=Tryz.zeroValue85
 t39:=Tryz.underlying160
 a39:=Tryz.isAgg160
 z39:=Tryz.sizeOf160
 v39:=Tryz.zeroValue160
 t45:=Tryz.underlying183
 a45:=Tryz.isAgg183
 z45:=Tryz.sizeOf183
 v45:=Tryz.zeroValue183
 t46:=Tryz.underlying184
 a46:=Tryz.isAgg184
 z46:=Tryz.sizeOf184
 v46:=Tryz.zeroValue184
 t50:=Tryz.underlying59
 a50:=Tryz.isAgg59
 z50:=Tryz.sizeOf59
 v50:=Tryz.zeroValue59
 t53:=Tryz.underlying190
 a53:=Tryz.isAgg190
 z53:=Tryz.sizeOf190
 v53:=Tryz.zeroValue190
 t55:=Tryz.underlying192
 a55:=Tryz.isAgg192
 z55:=Tryz.sizeOf192
 v55:=Tryz.zeroValue192
 t66:=Tryz.underlying217
 a66:=Tryz.isAgg217
 z66:=Tryz.sizeOf217
 v66:=Tryz.zeroValue217
 t70:=Tryz.underlying221
 a70:=Tryz.isAgg221
 z70:=Tryz.sizeOf221
 v70:=Tryz.zeroValue221
 t76:=Tryz.underlying230
 a76:=Tryz.isAgg230
 z76:=Tryz.sizeOf230
 v76:=Tryz.zeroValue230
 t77:=Tryz.underlying176
 a77:=Tryz.isAgg176
 z77:=Tryz.sizeOf176
 v77:=Tryz.zeroValue176 }
theorem Y9 {g:FuncId}{caps:List ab} [xe:dp caps] (aO:gO prog g=true) {l r:List Int}{fT:Int->Int->Option Int}(h:pW fT l=some r)
  (aa:∀ a b v,fT a b=some v->bU prog g (ae a::ae b::caps) (none::none::caps.map λ_=>none) (ae v)) :
  bU prog 70 [ak ai l,.cX (.func g) [] caps] [some (ak ai r),none] (.bV []):=bU.KS Tryz.KS aO h aa
open Go Go.Own
set_option maxRecDepth 100000
set_option linter.unusedVariables false
def CS (a0:Int):Option (Bool) :=
 ((bif decide (97<=a0) then (bif decide (a0<=122) then some true else (bif decide (65<=a0) then (bif decide (a0<=90) then some true else some (decide (a0=95))) else some (decide (a0=95)))) else (bif decide (65<=a0) then (bif decide (a0<=90) then some true else some (decide (a0=95))) else some (decide (a0=95))))).bind λkQ =>
 some kQ
def CT (a0:Int):Option (Bool) :=
 ((bif decide (48<=a0) then some (decide (a0<=57)) else some false)).bind λc2 =>
 some c2
def CR (a0:ByteArray) (aD:Int):Option (Int) :=
 (b2 (R:=Int) (λ(s1:Int) =>
 ((bif decide (aJ (aD+s1)<(a0.size:Int)) then ((kt a0 (aJ (aD+s1))).bind λbS=>((CS bS).bind λbx=>(bif bx then some true else (bif decide (0<s1) then ((kt a0 (aJ (aD+s1))).bind λcv=>((CT cv).bind λbJ=>(bif bJ then some true else ((kt a0 (aJ (aD+s1))).bind λet=>some (decide (et=46)))))) else some false)))) else some false)).bind λjK =>
 (bif jK then
 some (.inl (aJ (s1+1)))
 else
 some (.inr s1))) 0).bind λx2 =>
 some x2
def vR (a0:ByteArray):Option (Bool) :=
 ((bif decide (1<=(a0.size:Int)) then (bif decide ((a0.size:Int)<=20) then ((CR a0 0).bind λa7=>some (decide (a7=(a0.size:Int)))) else some false) else some false)).bind λc4 =>
 some c4
def Aa (a0:Int):Option (Int × Bool) :=
 (bif decide (a0=10) then
 some (110,true)
 else
 (bif decide (a0=9) then
 some (116,true)
 else
 (bif decide (a0=13) then
 some (114,true)
 else
 ((bif decide (a0=92) then
 some (decide (a0=92))
 else
 some (decide (a0=39)))).bind λJD =>
 (bif JD then
 some (a0,true)
 else
 ((bif decide (32<=a0) then some (0,decide (a0<=126)) else some (0,false))).bind λqd =>
 some (qd.1,qd.2)))))
structure Sym where
 Name:ByteArray
 Lit:Bool
 bP:Int
 At:Int
 deriving DecidableEq,Inhabited
def dz:bK Sym:=⟨4,λx=>[ay x.Name,a_ x.Lit,ae x.bP,ae x.At],λ_=>rfl,λ_=>dp.bl⟩
instance:Flat dz:=⟨λ_=>rfl⟩
instance:l0 dz:=⟨λx=>(inferInstance:jE [ay x.Name,a_ x.Lit,ae x.bP,ae x.At])⟩
instance:gV dz dz:=⟨rfl,λx=>(inferInstance:dr [ay x.Name,a_ x.Lit,ae x.bP,ae x.At] [ay x.Name,a_ x.Lit,ae x.bP,ae x.At])⟩
instance {x:Sym}:dr (dz.cells x) [ay x.Name,a_ x.Lit,ae x.bP,ae x.At]:=(inferInstance:dr [ay x.Name,a_ x.Lit,ae x.bP,ae x.At] [ay x.Name,a_ x.Lit,ae x.bP,ae x.At])
def uz (a0:Sym) (aD:Bool) (a2:Bool):Option (Bool) :=
 (bif a0.Lit then
 ((bif !a2 then some true else (bif !decide ((a0.Name.size:Int)=1) then some true else some (!decide (a0.bP=0))))).bind λc4 =>
 (bif c4 then
 some false
 else
 (kt a0.Name 0).bind λbx =>
 (Aa bx).bind λbR =>
 some bR.2)
 else
 (((vR a0.Name).bind λb6=>(bif b6 then (bif decide (a0.bP=0) then some true else (bif aD then (bif decide (1<=a0.bP) then some (decide (a0.bP<=50000)) else some false) else some false)) else some false))).bind λjK =>
 some jK)
structure Decl where
 Kind:Int
 Tag:ByteArray
 eJ:(List Sym)
 At:Int
 deriving DecidableEq,Inhabited
def du:bK Decl:=⟨4,λx=>[ae x.Kind,ay x.Tag,ag dz x.eJ,ae x.At],λ_=>rfl,λ_=>dp.bl⟩
instance:Flat du:=⟨λ_=>rfl⟩
instance:gV du du:=⟨rfl,λx=>(inferInstance:dr [ae x.Kind,ay x.Tag,ag dz x.eJ,ae x.At] [ae x.Kind,ay x.Tag,ag dz x.eJ,ae x.At])⟩
instance {x:Decl}:dr (du.cells x) [ae x.Kind,ay x.Tag,ag dz x.eJ,ae x.At]:=(inferInstance:dr [ae x.Kind,ay x.Tag,ag dz x.eJ,ae x.At] [ae x.Kind,ay x.Tag,ag dz x.eJ,ae x.At])
def xY (a0:Decl):Option (Bool) :=
 ((bif decide (a0.Kind<1) then some true else (bif decide (6<a0.Kind) then some true else (bif decide ((a0.eJ.length:Int)=0) then some true else (bif decide (a0.Kind=6) then (bif !decide ((a0.eJ.length:Int)=1) then some true else (bif !decide (a0.Tag=⟨#[]⟩) then some true else (bif decide (a0.Kind=5) then (bif decide (a0.Tag=⟨#[]⟩) then some true else some false) else some false))) else (bif decide (a0.Kind=5) then (bif decide (a0.Tag=⟨#[]⟩) then some true else (bif !decide (a0.Tag=⟨#[]⟩) then ((vR a0.Tag).bind λet=>some (!et)) else some false)) else (bif !decide (a0.Tag=⟨#[]⟩) then ((vR a0.Tag).bind λeu=>some (!eu)) else some false))))))).bind λtD =>
 (bif tD then
 some false
 else
 (b2 (R:=(Unit) ⊕ (Bool)) (λ(lU:Int) =>
 (bif decide (lU<(a0.eJ.length:Int)) then
 (idx a0.eJ lU).bind λfZ =>
 (uz fZ (decide (a0.Kind=1)) (decide (a0.Kind<5))).bind λfj =>
 (bif !fj then
 some (.inr (.inr false))
 else
 some (.inl (aJ (lU+1))))
 else
 some (.inr (.inl ())))) 0).bind λdK =>
 (match dK with
 | .inl e2 =>
 some true
 | .inr dN =>
 some dN))
def uA (a0:Sym):Option (Bool) :=
 ((bif decide (a0.Name=⟨#[]⟩) then (bif !a0.Lit then some (decide (a0.bP=0)) else some false) else some false)).bind λjU =>
 some jU
def x0 (a0:ByteArray) (aD:Int) (a2:ByteArray):Option (Bool) :=
 ((bif decide ((a2.size:Int)<=aJ ((a0.size:Int) - aD)) then ((q3 a0 aD (aJ (aD+(a2.size:Int)))).bind λx2=>some (decide (x2=a2))) else some false)).bind λjU =>
 some jU
def CU (a0:ByteArray) (aD:Int):Option (Int) :=
 (((kt a0 aD).bind λa8=>(bif decide (a8=34) then some true else ((kt a0 aD).bind λa7=>some (decide (a7=39)))))).bind λc4 =>
 (bif c4 then
 (b2 (R:=(Unit) ⊕ (Int)) (λ(da:Int) =>
 ((bif decide (da<(a0.size:Int)) then ((kt a0 da).bind λcq=>some (!decide (cq=10))) else some false)).bind λwR =>
 (bif wR then
 (kt a0 da).bind λeu =>
 (kt a0 aD).bind λcQ =>
 (bif decide (eu=cQ) then
 some (.inr (.inr (aJ (da+1))))
 else
 (kt a0 da).bind λbT =>
 (bif decide (bT=92) then
 ((bif decide (aJ (da+1)<(a0.size:Int)) then ((kt a0 (aJ (da+1))).bind λdN=>some (decide (dN=10))) else some false)).bind λq2 =>
 (bif q2 then
 some (.inr (.inr (-1)))
 else
 some (.inl (aJ ((aJ (da+1))+1))))
 else
 some (.inl (aJ (da+1)))))
 else
 some (.inr (.inl ())))) (aJ (aD+1))).bind λbR =>
 (match bR with
 | .inl b6 =>
 some (-1)
 | .inr cv =>
 some cv)
 else
 (kt a0 aD).bind λfj =>
 (bif decide (fj=96) then
 (b2 (R:=(Unit) ⊕ (Int)) (λ(kj:Int) =>
 (bif decide (kj<(a0.size:Int)) then
 (kt a0 kj).bind λhW =>
 (bif decide (hW=96) then
 some (.inr (.inr (aJ (kj+1))))
 else
 some (.inl (aJ (kj+1))))
 else
 some (.inr (.inl ())))) (aJ (aD+1))).bind λgA =>
 (match gA with
 | .inl dZ =>
 some (-1)
 | .inr cW =>
 some cW)
 else
 (x0 a0 aD (⟨#[47,47]⟩)).bind λcP =>
 (bif cP then
 (b2 (R:=Int) (λ(ea:Int) =>
 ((bif decide (ea<(a0.size:Int)) then ((kt a0 ea).bind λc0=>some (!decide (c0=10))) else some false)).bind λwU =>
 (bif wU then
 some (.inl (aJ (ea+1)))
 else
 some (.inr ea))) aD).bind λeg =>
 some eg
 else
 (x0 a0 aD (⟨#[47,42]⟩)).bind λjD =>
 (bif jD then
 (b2 (R:=(Unit) ⊕ (Int)) (λ(AD:Int) =>
 (bif decide (AD<(a0.size:Int)) then
 (x0 a0 AD (⟨#[42,47]⟩)).bind λwm =>
 (bif wm then
 some (.inr (.inr (aJ (AD+2))))
 else
 some (.inl (aJ (AD+1))))
 else
 some (.inr (.inl ())))) (aJ (aD+2))).bind λwk =>
 (match wk with
 | .inl p1 =>
 some (-1)
 | .inr ow =>
 some ow)
 else
 some aD))))
def z' (a0:ByteArray) (aD:Int):Option (Int) :=
 ((bif decide (aD<0) then some true else (bif decide ((a0.size:Int)<=aD) then some true else ((kt a0 aD).bind λa7=>some (!decide (a7=123)))))).bind λc4 =>
 (bif c4 then
 some (-1)
 else
 (b2 (R:=(Unit) ⊕ (Int)) (λ(da:Int × Int) =>
 (bif decide (da.2<(a0.size:Int)) then
 (CU a0 da.2).bind λcq =>
 (bif decide (cq<0) then
 some (.inr (.inr (-1)))
 else
 (bif decide (da.2<cq) then
 some (.inl (da.1,cq))
 else
 (kt a0 da.2).bind λeu =>
 ((bif decide (eu=123) then
 some (aJ (da.1+1))
 else
 some da.1)).bind λoi =>
 (kt a0 da.2).bind λbT =>
 ((bif decide (bT=125) then
 some (aJ (oi - 1))
 else
 some oi)).bind λE' =>
 (bif decide (E'=0) then
 some (.inr (.inr (aJ (da.2+1))))
 else
 some (.inl (E',aJ (da.2+1))))))
 else
 some (.inr (.inl ())))) (0,aD)).bind λbR =>
 (match bR with
 | .inl b6 =>
 some (-1)
 | .inr cv =>
 some cv))
structure Part where
 Sym:Sym
 Code:ByteArray
 At:Int
 deriving DecidableEq,Inhabited
structure Alt where
 ho:(List Part)
 Prec:Sym
 At:Int
 deriving DecidableEq,Inhabited
def eY:bK Part:=⟨6,λx=>[ay x.Sym.Name,a_ x.Sym.Lit,ae x.Sym.bP,ae x.Sym.At,ay x.Code,ae x.At],λ_=>rfl,λ_=>dp.bl⟩
instance:Flat eY:=⟨λ_=>rfl⟩
instance:l0 eY:=⟨λx=>(inferInstance:jE [ay x.Sym.Name,a_ x.Sym.Lit,ae x.Sym.bP,ae x.Sym.At,ay x.Code,ae x.At])⟩
instance:gV eY eY:=⟨rfl,λx=>(inferInstance:dr [ay x.Sym.Name,a_ x.Sym.Lit,ae x.Sym.bP,ae x.Sym.At,ay x.Code,ae x.At] [ay x.Sym.Name,a_ x.Sym.Lit,ae x.Sym.bP,ae x.Sym.At,ay x.Code,ae x.At])⟩
instance {x:Part}:dr (eY.cells x) [ay x.Sym.Name,a_ x.Sym.Lit,ae x.Sym.bP,ae x.Sym.At,ay x.Code,ae x.At]:=(inferInstance:dr [ay x.Sym.Name,a_ x.Sym.Lit,ae x.Sym.bP,ae x.Sym.At,ay x.Code,ae x.At] [ay x.Sym.Name,a_ x.Sym.Lit,ae x.Sym.bP,ae x.Sym.At,ay x.Code,ae x.At])
def eV:bK Alt:=⟨6,λx=>[ag eY x.ho,ay x.Prec.Name,a_ x.Prec.Lit,ae x.Prec.bP,ae x.Prec.At,ae x.At],λ_=>rfl,λ_=>dp.bl⟩
instance:Flat eV:=⟨λ_=>rfl⟩
instance:gV eV eV:=⟨rfl,λx=>(inferInstance:dr [ag eY x.ho,ay x.Prec.Name,a_ x.Prec.Lit,ae x.Prec.bP,ae x.Prec.At,ae x.At] [ag eY x.ho,ay x.Prec.Name,a_ x.Prec.Lit,ae x.Prec.bP,ae x.Prec.At,ae x.At])⟩
instance {x:Alt}:dr (eV.cells x) [ag eY x.ho,ay x.Prec.Name,a_ x.Prec.Lit,ae x.Prec.bP,ae x.Prec.At,ae x.At]:=(inferInstance:dr [ag eY x.ho,ay x.Prec.Name,a_ x.Prec.Lit,ae x.Prec.bP,ae x.Prec.At,ae x.At] [ag eY x.ho,ay x.Prec.Name,a_ x.Prec.Lit,ae x.Prec.bP,ae x.Prec.At,ae x.At])
def xZ (a0:Alt):Option (Bool) :=
 (b2 (R:=(Unit) ⊕ (Bool)) (λ(s1:Int) =>
 (bif decide (s1<(a0.ho.length:Int)) then
 (idx a0.ho s1).bind λbx =>
 ((bif decide (bx.Code=⟨#[]⟩) then ((uz bx.Sym false true).bind λb6=>(bif !b6 then some true else (bif !decide (bx.Code=⟨#[]⟩) then ((uA bx.Sym).bind λcq=>(bif !cq then some true else ((z' bx.Code 0).bind λcg=>some (!decide (cg=(bx.Code.size:Int)))))) else some false))) else (bif !decide (bx.Code=⟨#[]⟩) then ((uA bx.Sym).bind λcQ=>(bif !cQ then some true else ((z' bx.Code 0).bind λbT=>some (!decide (bT=(bx.Code.size:Int)))))) else some false))).bind λny =>
 (bif ny then
 some (.inr (.inr false))
 else
 some (.inl (aJ (s1+1))))
 else
 some (.inr (.inl ())))) 0).bind λx2 =>
 (match x2 with
 | .inl a7 =>
 (((uA a0.Prec).bind λdN=>(bif dN then some true else ((uz a0.Prec false true).bind λfZ=>some fZ)))).bind λHe =>
 some He
 | .inr bs =>
 some bs)
structure e9 where
 Left:ByteArray
 eF:(List Alt)
 At:Int
 deriving DecidableEq,Inhabited
structure Source where
 cx:ByteArray
 Decls:(List Decl)
 dG:(List e9)
 cF:ByteArray
 deriving DecidableEq,Inhabited
def gr:bK e9:=⟨3,λx=>[ay x.Left,ag eV x.eF,ae x.At],λ_=>rfl,λ_=>dp.bl⟩
instance:Flat gr:=⟨λ_=>rfl⟩
instance:gV gr gr:=⟨rfl,λx=>(inferInstance:dr [ay x.Left,ag eV x.eF,ae x.At] [ay x.Left,ag eV x.eF,ae x.At])⟩
instance {x:e9}:dr (gr.cells x) [ay x.Left,ag eV x.eF,ae x.At]:=(inferInstance:dr [ay x.Left,ag eV x.eF,ae x.At] [ay x.Left,ag eV x.eF,ae x.At])
def hf:bK Source:=⟨4,λx=>[ay x.cx,ag du x.Decls,ag gr x.dG,ay x.cF],λ_=>rfl,λ_=>dp.bl⟩
instance:Flat hf:=⟨λ_=>rfl⟩
instance:gV hf hf:=⟨rfl,λx=>(inferInstance:dr [ay x.cx,ag du x.Decls,ag gr x.dG,ay x.cF] [ay x.cx,ag du x.Decls,ag gr x.dG,ay x.cF])⟩
instance {x:Source}:dr (hf.cells x) [ay x.cx,ag du x.Decls,ag gr x.dG,ay x.cF]:=(inferInstance:dr [ay x.cx,ag du x.Decls,ag gr x.dG,ay x.cF] [ay x.cx,ag du x.Decls,ag gr x.dG,ay x.cF])
def xW (a0:Source):Option (Bool) :=
 (b2 (R:=(Unit) ⊕ (Bool)) (λ(s1:Int) =>
 (bif decide (aJ (s1+1)<(a0.cx.size:Int)) then
 (q3 a0.cx s1 (aJ (s1+2))).bind λbx =>
 (bif decide (bx=⟨#[37,125]⟩) then
 some (.inr (.inr false))
 else
 some (.inl (aJ (s1+1))))
 else
 some (.inr (.inl ())))) 0).bind λx2 =>
 (match x2 with
 | .inl a7 =>
 (b2 (R:=(Unit) ⊕ (Bool)) (λ(dC:Int) =>
 (bif decide (dC<(a0.Decls.length:Int)) then
 (idx a0.Decls dC).bind λcg =>
 (xY cg).bind λeu =>
 (bif !eu then
 some (.inr (.inr false))
 else
 some (.inl (aJ (dC+1))))
 else
 some (.inr (.inl ())))) 0).bind λcv =>
 (match cv with
 | .inl bJ =>
 (b2 (R:=(Unit) ⊕ (Bool)) (λ(np:Int) =>
 (bif decide (np<(a0.dG.length:Int)) then
 (idx a0.dG np).bind λev =>
 (((vR ev.Left).bind λfZ=>(bif !fZ then some true else some (decide ((ev.eF.length:Int)=0))))).bind λnz =>
 (bif nz then
 some (.inr (.inr false))
 else
 (b2 (R:=(Unit) ⊕ (Bool)) (λ(o0:Int) =>
 (bif decide (o0<(ev.eF.length:Int)) then
 (idx ev.eF o0).bind λkl =>
 (xZ kl).bind λcP =>
 (bif !cP then
 some (.inr (.inr false))
 else
 some (.inl (aJ (o0+1))))
 else
 some (.inr (.inl ())))) 0).bind λdZ =>
 (match dZ with
 | .inl cW =>
 some (.inl (aJ (np+1)))
 | .inr ej =>
 some (.inr (.inr ej))))
 else
 some (.inr (.inl ())))) 0).bind λbT =>
 (match bT with
 | .inl dK =>
 some (decide (0<(a0.dG.length:Int)))
 | .inr e2 =>
 some e2)
 | .inr cq =>
 some cq)
 | .inr bs =>
 some bs)
structure bW where
 Name:ByteArray
 Lit:Bool
 bP:Int
 Level:Int
 ft:Int
 Tag:ByteArray
 deriving DecidableEq,Inhabited
structure fD where
 Name:ByteArray
 Tag:ByteArray
 deriving DecidableEq,Inhabited
structure Prod where
 Left:Int
 eI:(List Int)
 Prec:Int
 Code:ByteArray
 yD:(List Int)
 At:Int
 deriving DecidableEq,Inhabited
structure bN where
 ba:(List bW)
 b0:(List fD)
 bh:(List Prod)
 cx:ByteArray
 cF:ByteArray
 deriving DecidableEq,Inhabited
structure dt where
 aG:bN
 ct:(List Bool)
 cL:(List fD)
 cb:(List ByteArray)
 cZ:Int
 dn:Int
 dk:ByteArray
 cr:Int
 b_:Int
 deriving DecidableEq,Inhabited
def bZ:bK bW:=⟨6,λx=>[ay x.Name,a_ x.Lit,ae x.bP,ae x.Level,ae x.ft,ay x.Tag],λ_=>rfl,λ_=>dp.bl⟩
instance:Flat bZ:=⟨λ_=>rfl⟩
instance:l0 bZ:=⟨λx=>(inferInstance:jE [ay x.Name,a_ x.Lit,ae x.bP,ae x.Level,ae x.ft,ay x.Tag])⟩
instance:gV bZ bZ:=⟨rfl,λx=>(inferInstance:dr [ay x.Name,a_ x.Lit,ae x.bP,ae x.Level,ae x.ft,ay x.Tag] [ay x.Name,a_ x.Lit,ae x.bP,ae x.Level,ae x.ft,ay x.Tag])⟩
instance {x:bW}:dr (bZ.cells x) [ay x.Name,a_ x.Lit,ae x.bP,ae x.Level,ae x.ft,ay x.Tag]:=(inferInstance:dr [ay x.Name,a_ x.Lit,ae x.bP,ae x.Level,ae x.ft,ay x.Tag] [ay x.Name,a_ x.Lit,ae x.bP,ae x.Level,ae x.ft,ay x.Tag])
def bH:bK fD:=⟨2,λx=>[ay x.Name,ay x.Tag],λ_=>rfl,λ_=>dp.bl⟩
instance:Flat bH:=⟨λ_=>rfl⟩
instance:l0 bH:=⟨λx=>(inferInstance:jE [ay x.Name,ay x.Tag])⟩
instance:gV bH bH:=⟨rfl,λx=>(inferInstance:dr [ay x.Name,ay x.Tag] [ay x.Name,ay x.Tag])⟩
def cE:bK Prod:=⟨6,λx=>[ae x.Left,ag ai x.eI,ae x.Prec,ay x.Code,ag ai x.yD,ae x.At],λ_=>rfl,λ_=>dp.bl⟩
instance:Flat cE:=⟨λ_=>rfl⟩
instance:gV cE cE:=⟨rfl,λx=>(inferInstance:dr [ae x.Left,ag ai x.eI,ae x.Prec,ay x.Code,ag ai x.yD,ae x.At] [ae x.Left,ag ai x.eI,ae x.Prec,ay x.Code,ag ai x.yD,ae x.At])⟩
instance {x:Prod}:dr (cE.cells x) [ae x.Left,ag ai x.eI,ae x.Prec,ay x.Code,ag ai x.yD,ae x.At]:=(inferInstance:dr [ae x.Left,ag ai x.eI,ae x.Prec,ay x.Code,ag ai x.yD,ae x.At] [ae x.Left,ag ai x.eI,ae x.Prec,ay x.Code,ag ai x.yD,ae x.At])
def dw:bK bN:=⟨5,λx=>[ag bZ x.ba,ag bH x.b0,ag cE x.bh,ay x.cx,ay x.cF],λ_=>rfl,λ_=>dp.bl⟩
instance:Flat dw:=⟨λ_=>rfl⟩
instance:gV dw dw:=⟨rfl,λx=>(inferInstance:dr [ag bZ x.ba,ag bH x.b0,ag cE x.bh,ay x.cx,ay x.cF] [ag bZ x.ba,ag bH x.b0,ag cE x.bh,ay x.cx,ay x.cF])⟩
instance {x:bN}:dr (dw.cells x) [ag bZ x.ba,ag bH x.b0,ag cE x.bh,ay x.cx,ay x.cF]:=(inferInstance:dr [ag bZ x.ba,ag bH x.b0,ag cE x.bh,ay x.cx,ay x.cF] [ag bZ x.ba,ag bH x.b0,ag cE x.bh,ay x.cx,ay x.cF])
def El:bK dt:=⟨13,λx=>[ag bZ x.aG.ba,ag bH x.aG.b0,ag cE x.aG.bh,ay x.aG.cx,ay x.aG.cF,ag cp x.ct,ag bH x.cL,ag dv x.cb,ae x.cZ,ae x.dn,ay x.dk,ae x.cr,ae x.b_],λ_=>rfl,λ_=>dp.bl⟩
instance:Flat El:=⟨λ_=>rfl⟩
instance:gV El El:=⟨rfl,λx=>(inferInstance:dr [ag bZ x.aG.ba,ag bH x.aG.b0,ag cE x.aG.bh,ay x.aG.cx,ay x.aG.cF,ag cp x.ct,ag bH x.cL,ag dv x.cb,ae x.cZ,ae x.dn,ay x.dk,ae x.cr,ae x.b_] [ag bZ x.aG.ba,ag bH x.aG.b0,ag cE x.aG.bh,ay x.aG.cx,ay x.aG.cF,ag cp x.ct,ag bH x.cL,ag dv x.cb,ae x.cZ,ae x.dn,ay x.dk,ae x.cr,ae x.b_])⟩
instance {x:dt}:dr (El.cells x) [ag bZ x.aG.ba,ag bH x.aG.b0,ag cE x.aG.bh,ay x.aG.cx,ay x.aG.cF,ag cp x.ct,ag bH x.cL,ag dv x.cb,ae x.cZ,ae x.dn,ay x.dk,ae x.cr,ae x.b_]:=(inferInstance:dr [ag bZ x.aG.ba,ag bH x.aG.b0,ag cE x.aG.bh,ay x.aG.cx,ay x.aG.cF,ag cp x.ct,ag bH x.cL,ag dv x.cb,ae x.cZ,ae x.dn,ay x.dk,ae x.cr,ae x.b_] [ag bZ x.aG.ba,ag bH x.aG.b0,ag cE x.aG.bh,ay x.aG.cx,ay x.aG.cF,ag cp x.ct,ag bH x.cL,ag dv x.cb,ae x.cZ,ae x.dn,ay x.dk,ae x.cr,ae x.b_])
def MC:bK bN:=⟨5,λx=>[ak bZ x.ba,ak bH x.b0,ak cE x.bh,ay x.cx,ay x.cF],λ_=>rfl,λ_=>dp.bl⟩
instance:gV MC dw:=⟨rfl,λx=>(inferInstance:dr [ak bZ x.ba,ak bH x.b0,ak cE x.bh,ay x.cx,ay x.cF] [ag bZ x.ba,ag bH x.b0,ag cE x.bh,ay x.cx,ay x.cF])⟩
instance {x:bN}:dr (MC.cells x) [ag bZ x.ba,ag bH x.b0,ag cE x.bh,ay x.cx,ay x.cF]:=(inferInstance:dr [ak bZ x.ba,ak bH x.b0,ak cE x.bh,ay x.cx,ay x.cF] [ag bZ x.ba,ag bH x.b0,ag cE x.bh,ay x.cx,ay x.cF])
def dS:bK dt:=⟨13,λx=>[ak bZ x.aG.ba,ak bH x.aG.b0,ak cE x.aG.bh,ay x.aG.cx,ay x.aG.cF,ak cp x.ct,ak bH x.cL,ak dv x.cb,ae x.cZ,ae x.dn,ay x.dk,ae x.cr,ae x.b_],λ_=>rfl,λ_=>dp.bl⟩
instance {x:dt}:dr (dS.cells x) [ag bZ x.aG.ba,ag bH x.aG.b0,ag cE x.aG.bh,ay x.aG.cx,ay x.aG.cF,ag cp x.ct,ag bH x.cL,ag dv x.cb,ae x.cZ,ae x.dn,ay x.dk,ae x.cr,ae x.b_]:=(inferInstance:dr [ak bZ x.aG.ba,ak bH x.aG.b0,ak cE x.aG.bh,ay x.aG.cx,ay x.aG.cF,ak cp x.ct,ak bH x.cL,ak dv x.cb,ae x.cZ,ae x.dn,ay x.dk,ae x.cr,ae x.b_] [ag bZ x.aG.ba,ag bH x.aG.b0,ag cE x.aG.bh,ay x.aG.cx,ay x.aG.cF,ag cp x.ct,ag bH x.cL,ag dv x.cb,ae x.cZ,ae x.dn,ay x.dk,ae x.cr,ae x.b_])
def nT (a0:dt) (aD:Int) (a2:ByteArray):Option (dt) :=
 ((bif decide (a0.cZ=0) then
 some (⟨a0.aG,a0.ct,a0.cL,a0.cb,3,aD,a2,a0.cr,a0.b_⟩:dt)
 else
 some a0)).bind λjv =>
 some jv
def z1 (a0:dt) (aD:ByteArray):Option (Int) :=
 (b2 (R:=(Unit) ⊕ (Int)) (λ(s1:Int) =>
 (bif decide (s1<(a0.cL.length:Int)) then
 (idx a0.cL s1).bind λbx =>
 (bif decide (bx.Name=aD) then
 some (.inr (.inr s1))
 else
 some (.inl (aJ (s1+1))))
 else
 some (.inr (.inl ())))) 0).bind λx2 =>
 (match x2 with
 | .inl a7 =>
 some (-1)
 | .inr bs =>
 some bs)
def ux (a0:dt) (aD:Sym):Option (Int) :=
 (b2 (R:=(Unit) ⊕ (Int)) (λ(s1:Int) =>
 (bif decide (s1<(a0.aG.ba.length:Int)) then
 (((idx a0.aG.ba s1).bind λbx=>(bif decide (bx.Name=aD.Name) then ((idx a0.aG.ba s1).bind λb6=>(bif (b6.Lit == aD.Lit) then some (!decide (s1=2)) else some false)) else some false))).bind λik =>
 (bif ik then
 some (.inr (.inr s1))
 else
 some (.inl (aJ (s1+1))))
 else
 some (.inr (.inl ())))) 1).bind λx2 =>
 (match x2 with
 | .inl a7 =>
 some (-1)
 | .inr bs =>
 some bs)
def vT (a0:dt) (aD:Int):Option (Int) :=
 (b2 (R:=(Unit) ⊕ (Int)) (λ(s1:Int) =>
 (bif decide (s1<(a0.aG.ba.length:Int)) then
 (idx a0.aG.ba s1).bind λbx =>
 (bif decide (bx.bP=aD) then
 some (.inr (.inr s1))
 else
 some (.inl (aJ (s1+1))))
 else
 some (.inr (.inl ())))) 3).bind λx2 =>
 (match x2 with
 | .inl a7 =>
 some (-1)
 | .inr bs =>
 some bs)
def vS (a0:dt) (aD:Sym):Option (Int × dt) :=
 (ux a0 aD).bind λa8 =>
 (bif decide (0<=a8) then
 some (a8,a0)
 else
 ((bif aD.Lit then
 (kt aD.Name 0).bind λbS =>
 (vT a0 (aJ bS)).bind λbx =>
 ((bif decide (0<=bx) then
 (nT a0 aD.At aD.Name).bind λcv =>
 some cv
 else
 some a0)).bind λkZ =>
 some (kZ,aJ bS)
 else
 some (a0,0))).bind λiv =>
 (c' iv.1.aG.ba [(⟨aD.Name,aD.Lit,iv.2,0,0,⟨#[]⟩⟩:bW)]).bind λbJ =>
 (c' iv.1.ct [aD.Lit]).bind λcq =>
 some (aJ (((iv.1.aG.ba++[(⟨aD.Name,aD.Lit,iv.2,0,0,⟨#[]⟩⟩:bW)]).length:Int) - 1),(⟨(⟨iv.1.aG.ba++[(⟨aD.Name,aD.Lit,iv.2,0,0,⟨#[]⟩⟩:bW)],iv.1.aG.b0,iv.1.aG.bh,iv.1.aG.cx,iv.1.aG.cF⟩:bN),iv.1.ct++[aD.Lit],iv.1.cL,iv.1.cb,iv.1.cZ,iv.1.dn,iv.1.dk,iv.1.cr,iv.1.b_⟩:dt)))
def vP (a0:dt) (aD:Decl) (a2:Sym):Option (dt) :=
 (bif decide (aD.Kind=5) then
 (z1 a0 a2.Name).bind λx2 =>
 ((bif decide (x2<0) then
 (c' a0.cL [(⟨a2.Name,aD.Tag⟩:fD)]).bind λbS =>
 some (⟨a0.aG,a0.ct,a0.cL++[(⟨a2.Name,aD.Tag⟩:fD)],a0.cb,a0.cZ,a0.dn,a0.dk,a0.cr,a0.b_⟩:dt)
 else
 (idx a0.cL x2).bind λbx =>
 ((bif !decide (bx.Tag=aD.Tag) then
 (nT a0 a2.At a2.Name).bind λcv =>
 some cv
 else
 some a0)).bind λkZ =>
 some kZ)).bind λiv =>
 some iv
 else
 (vS a0 a2).bind λbJ =>
 (idx bJ.2.aG.ba bJ.1).bind λcq =>
 ((bif !decide (aD.Kind=1) then
 ((bif decide (0<cq.Level) then
 (nT bJ.2 a2.At a2.Name).bind λcc =>
 some (⟨(⟨bJ.2.aG.ba,cc.aG.b0,cc.aG.bh,cc.aG.cx,cc.aG.cF⟩:bN),cc.ct,cc.cL,cc.cb,cc.cZ,cc.dn,cc.dk,cc.cr,cc.b_⟩:dt)
 else
 some bJ.2)).bind λdc =>
 (idx dc.aG.ba bJ.1).bind λbT =>
 some (⟨(⟨(dc.aG.ba.set bJ.1.toNat (⟨bT.Name,bT.Lit,bT.bP,dc.cr,bT.ft,bT.Tag⟩:bW)).set bJ.1.toNat (⟨(⟨bT.Name,bT.Lit,bT.bP,dc.cr,bT.ft,bT.Tag⟩:bW).Name,(⟨bT.Name,bT.Lit,bT.bP,dc.cr,bT.ft,bT.Tag⟩:bW).Lit,(⟨bT.Name,bT.Lit,bT.bP,dc.cr,bT.ft,bT.Tag⟩:bW).bP,(⟨bT.Name,bT.Lit,bT.bP,dc.cr,bT.ft,bT.Tag⟩:bW).Level,aJ (aD.Kind - 1),(⟨bT.Name,bT.Lit,bT.bP,dc.cr,bT.ft,bT.Tag⟩:bW).Tag⟩:bW),dc.aG.b0,dc.aG.bh,dc.aG.cx,dc.aG.cF⟩:bN),dc.ct,dc.cL,dc.cb,dc.cZ,dc.dn,dc.dk,dc.cr,dc.b_⟩:dt)
 else
 some bJ.2)).bind λeN =>
 (idx eN.aG.ba bJ.1).bind λdK =>
 ((bif decide (0<a2.bP) then
 ((bif decide (bJ.1=1) then some true else ((idx eN.ct bJ.1).bind λfZ=>(bif fZ then some true else ((vT eN a2.bP).bind λgg=>some (decide (0<=gg))))))).bind λHf =>
 ((bif Hf then
 (nT eN a2.At a2.Name).bind λcW =>
 some (⟨(⟨eN.aG.ba,cW.aG.b0,cW.aG.bh,cW.aG.cx,cW.aG.cF⟩:bN),cW.ct,cW.cL,cW.cb,cW.cZ,cW.dn,cW.dk,cW.cr,cW.b_⟩:dt)
 else
 some eN)).bind λd' =>
 (idx d'.aG.ba bJ.1).bind λej =>
 (idx d'.ct bJ.1).bind λhW =>
 some (⟨(⟨d'.aG.ba.set bJ.1.toNat (⟨ej.Name,ej.Lit,a2.bP,ej.Level,ej.ft,ej.Tag⟩:bW),d'.aG.b0,d'.aG.bh,d'.aG.cx,d'.aG.cF⟩:bN),d'.ct.set bJ.1.toNat true,d'.cL,d'.cb,d'.cZ,d'.dn,d'.dk,d'.cr,d'.b_⟩:dt)
 else
 some eN)).bind λe_ =>
 (idx e_.aG.ba bJ.1).bind λkl =>
 ((bif !decide (aD.Tag=⟨#[]⟩) then
 ((bif !decide (kl.Tag=⟨#[]⟩) then some (!decide (kl.Tag=aD.Tag)) else some false)).bind λtF =>
 ((bif tF then
 (nT e_ a2.At a2.Name).bind λc0 =>
 some (⟨(⟨e_.aG.ba,c0.aG.b0,c0.aG.bh,c0.aG.cx,c0.aG.cF⟩:bN),c0.ct,c0.cL,c0.cb,c0.cZ,c0.dn,c0.dk,c0.cr,c0.b_⟩:dt)
 else
 some e_)).bind λnf =>
 (idx nf.aG.ba bJ.1).bind λgh =>
 some (⟨(⟨nf.aG.ba.set bJ.1.toNat (⟨gh.Name,gh.Lit,gh.bP,gh.Level,gh.ft,aD.Tag⟩:bW),nf.aG.b0,nf.aG.bh,nf.aG.cx,nf.aG.cF⟩:bN),nf.ct,nf.cL,nf.cb,nf.cZ,nf.dn,nf.dk,nf.cr,nf.b_⟩:dt)
 else
 some e_)).bind λpN =>
 some pN)
def s5 (a0:dt) (aD:ByteArray):Option (Int) :=
 (b2 (R:=(Unit) ⊕ (Int)) (λ(s1:Int) =>
 (bif decide (s1<(a0.cb.length:Int)) then
 (idx a0.cb s1).bind λbx =>
 (bif decide (bx=aD) then
 some (.inr (.inr s1))
 else
 some (.inl (aJ (s1+1))))
 else
 some (.inr (.inl ())))) 0).bind λx2 =>
 (match x2 with
 | .inl a7 =>
 some (-1)
 | .inr bs =>
 some bs)
def s6 (a0:dt) (aD:Sym):Option (Int × dt) :=
 (bif aD.Lit then
 (vS a0 aD).bind λx2 =>
 some (x2.1,x2.2)
 else
 (s5 a0 aD.Name).bind λa7 =>
 (bif decide (0<=a7) then
 some (aJ (1001+a7),a0)
 else
 (ux a0 aD).bind λbS =>
 (bif decide (bS<0) then
 (nT a0 aD.At aD.Name).bind λbR =>
 some (0,bR)
 else
 some (bS,a0))))
def vQ (a0:dt) (aD:ByteArray) (a2:Alt):Option (dt) :=
 (s5 a0 aD).bind λa8 =>
 (b2 (R:=dt × List Int × ByteArray × Int) (λ(s2:dt × List Int × ByteArray × Int × Int) =>
 (bif decide (s2.2.2.2.2<(a2.ho.length:Int)) then
 ((idx a2.ho s2.2.2.2.2).bind λbR =>
 (((bif decide (bR.Code=⟨#[]⟩) then
 (s6 s2.1 bR.Sym).bind λcq =>
 (c' s2.2.1 [cq.1]).bind λet =>
 some (cq.2,s2.2.1++[cq.1],s2.2.2.1,s2.2.2.2.1)
 else
 ((bif decide (aJ (s2.2.2.2.2+1)=(a2.ho.length:Int)) then
 some (s2.1.aG.bh,s2.1.b_,s2.2.1,bR.Code,bR.At)
 else
 (c' ([]:List Int) s2.2.1).bind λcQ =>
 (c' s2.1.aG.bh [(⟨aJ ((s2.1.cb.length:Int)+(aJ (s2.1.b_+1))),([]:List Int),(-1),bR.Code,([]:List Int)++s2.2.1,bR.At⟩:Prod)]).bind λcc =>
 (c' s2.2.1 [aJ ((aJ (1000+(s2.1.cb.length:Int)))+(aJ (s2.1.b_+1)))]).bind λbT =>
 some (s2.1.aG.bh++[(⟨aJ ((s2.1.cb.length:Int)+(aJ (s2.1.b_+1))),([]:List Int),(-1),bR.Code,([]:List Int)++s2.2.1,bR.At⟩:Prod)],aJ (s2.1.b_+1),s2.2.1++[aJ ((aJ (1000+(s2.1.cb.length:Int)))+(aJ (s2.1.b_+1)))],s2.2.2.1,s2.2.2.2.1))).bind λiG =>
 some ((⟨(⟨s2.1.aG.ba,s2.1.aG.b0,iG.1,s2.1.aG.cx,s2.1.aG.cF⟩:bN),s2.1.ct,s2.1.cL,s2.1.cb,s2.1.cZ,s2.1.dn,s2.1.dk,s2.1.cr,iG.2.1⟩:dt),iG.2.2.1,iG.2.2.2.1,iG.2.2.2.2))).bind λqy =>
 some (qy.1,qy.2.1,qy.2.2.1,qy.2.2.2)).bind λfa =>
 some (fa.1,fa.2.1,fa.2.2.1,fa.2.2.2)).bind λkY =>
 some (.inl (kY.1,kY.2.1,kY.2.2.1,kY.2.2.2,aJ (s2.2.2.2.2+1)))
 else
 some (.inr (s2.1,s2.2.1,s2.2.2.1,s2.2.2.2.1)))) (a0,([]:List Int),⟨#[]⟩,a2.At,0)).bind λa7 =>
 (b2 (R:=Int) (λ(oZ:Int × Int) =>
 (bif decide (oZ.2<(a7.2.1.length:Int)) then
 ((idx a7.2.1 oZ.2).bind λfj =>
 ((bif decide (fj<1000) then
 (idx a7.2.1 oZ.2).bind λgA =>
 some gA
 else
 some oZ.1)).bind λxD =>
 some xD).bind λmz =>
 some (.inl (mz,aJ (oZ.2+1)))
 else
 some (.inr oZ.1))) ((-1),0)).bind λe2 =>
 ((bif !decide (a2.Prec.Name=⟨#[]⟩) then
 ((bif a2.Prec.Lit then some true else ((s5 a7.1 a2.Prec.Name).bind λhW=>some (decide (hW<0))))).bind λtE =>
 ((bif tE then
 (s6 a7.1 a2.Prec).bind λkm =>
 some (km.2,km.1)
 else
 (nT a7.1 a2.Prec.At a2.Prec.Name).bind λeg =>
 some (eg,(-1)))).bind λpN =>
 some (pN.1,pN.2)
 else
 some (a7.1,e2))).bind λjZ =>
 (c' ([]:List Int) a7.2.1).bind λnV =>
 (c' jZ.1.aG.bh [(⟨aJ (1+a8),a7.2.1,jZ.2,a7.2.2.1,([]:List Int)++a7.2.1,a7.2.2.2⟩:Prod)]).bind λj4 =>
 some (⟨(⟨jZ.1.aG.ba,jZ.1.aG.b0,jZ.1.aG.bh++[(⟨aJ (1+a8),a7.2.1,jZ.2,a7.2.2.1,([]:List Int)++a7.2.1,a7.2.2.2⟩:Prod)],jZ.1.aG.cx,jZ.1.aG.cF⟩:bN),jZ.1.ct,jZ.1.cL,jZ.1.cb,jZ.1.cZ,jZ.1.dn,jZ.1.dk,jZ.1.cr,jZ.1.b_⟩:dt)
def CN (a0:Int):Option (ByteArray) :=
 ((bif decide (a0<0) then
 some (IntKind.u64.wrap (-(IntKind.u64.wrap a0)))
 else
 some (IntKind.u64.wrap a0))).bind λjv =>
 (b2 (R:=ByteArray) (λ(ec:Int × ByteArray) =>
 ((bif decide (0<ec.1) then some true else some (decide (ec.2=⟨#[]⟩)))).bind λkQ =>
 (bif kQ then
 (ru ec.1 10).bind λcv =>
 (tG (strOfNums [yx (IntKind.u64.wrap (48+cv))]) ec.2).bind λbJ =>
 (rp ec.1 10).bind λcq =>
 some (.inl (cq,bJ))
 else
 some (.inr ec.2))) (jv,⟨#[]⟩)).bind λbs =>
 (bif decide (a0<0) then
 (tG (⟨#[45]⟩) bs).bind λcg =>
 some cg
 else
 some bs)
def v_ (a0:Source):Option (bN × Int × Int × ByteArray) :=
 (xW a0).bind λa8 =>
 (bif !a8 then
 some ((⟨([]:List bW),([]:List fD),([]:List Prod),⟨#[]⟩,⟨#[]⟩⟩:bN),1,0,⟨#[]⟩)
 else
 (ni 3 false).bind λa7 =>
 (b2 (R:=dt × ByteArray) (λ(cY:dt × ByteArray × Int) =>
 (bif decide (cY.2.2<(a0.Decls.length:Int)) then
 (idx a0.Decls cY.2.2).bind λb6 =>
 ((bif decide (2<=b6.Kind) then some (decide (b6.Kind<=4)) else some false)).bind λik =>
 ((bif ik then
 some (aJ (cY.1.cr+1))
 else
 some cY.1.cr)).bind λjw =>
 (b2 (R:=dt × ByteArray) (λ(fJ:dt × ByteArray × Int) =>
 (bif decide (fJ.2.2<(b6.eJ.length:Int)) then
 ((bif !decide (b6.Kind=6) then
 (idx b6.eJ fJ.2.2).bind λe2 =>
 (vP fJ.1 b6 e2).bind λdN =>
 some (dN,fJ.2.1)
 else
 ((bif !decide (fJ.2.1=⟨#[]⟩) then
 (idx b6.eJ fJ.2.2).bind λfj =>
 (idx b6.eJ fJ.2.2).bind λgg =>
 (nT fJ.1 fj.At gg.Name).bind λhV =>
 some hV
 else
 some fJ.1)).bind λnQ =>
 (idx b6.eJ fJ.2.2).bind λgA =>
 some (nQ,gA.Name))).bind λCn =>
 some (.inl (Cn.1,Cn.2,aJ (fJ.2.2+1)))
 else
 some (.inr (fJ.1,fJ.2.1)))) ((⟨cY.1.aG,cY.1.ct,cY.1.cL,cY.1.cb,cY.1.cZ,cY.1.dn,cY.1.dk,jw,cY.1.b_⟩:dt),cY.2.1,0)).bind λeu =>
 some (.inl (eu.1,eu.2,aJ (cY.2.2+1)))
 else
 some (.inr (cY.1,cY.2.1)))) ((⟨(⟨[(⟨⟨#[36,101,110,100]⟩,false,0,0,0,⟨#[]⟩⟩:bW),(⟨⟨#[101,114,114,111,114]⟩,false,(-1),0,0,⟨#[]⟩⟩:bW),(⟨⟨#[36,117,110,107]⟩,false,(-1),0,0,⟨#[]⟩⟩:bW)],[],[],⟨#[]⟩,⟨#[]⟩⟩:bN),a7,[],[],0,0,⟨#[]⟩,0,0⟩:dt),⟨#[]⟩,0)).bind λbS =>
 (b2 (R:=dt) (λ(qH:dt × Int) =>
 (bif decide (qH.2<(a0.dG.length:Int)) then
 ((idx a0.dG qH.2).bind λcP =>
 (ux qH.1 (⟨cP.Left,false,0,0⟩:Sym)).bind λe6 =>
 ((bif decide (0<=e6) then
 (nT qH.1 cP.At cP.Left).bind λnV =>
 some nV
 else
 some qH.1)).bind λiQ =>
 (s5 iQ cP.Left).bind λj4 =>
 ((bif decide (j4<0) then
 (c' iQ.cb [cP.Left]).bind λp0 =>
 some (iQ.cb++[cP.Left])
 else
 some iQ.cb)).bind λJC =>
 some (⟨iQ.aG,iQ.ct,iQ.cL,JC,iQ.cZ,iQ.dn,iQ.dk,iQ.cr,iQ.b_⟩:dt)).bind λur =>
 some (.inl (ur,aJ (qH.2+1)))
 else
 some (.inr qH.1))) (bS.1,0)).bind λcW =>
 (b2 (R:=dt) (λ(qI:dt × Int) =>
 (bif decide (qI.2<(a0.Decls.length:Int)) then
 (b2 (R:=dt) (λ(qJ:dt × Int) =>
 (idx a0.Decls qI.2).bind λwm =>
 (bif decide (qJ.2<(wm.eJ.length:Int)) then
 ((idx a0.Decls qI.2).bind λwo =>
 (idx wo.eJ qJ.2).bind λp2 =>
 (((idx a0.Decls qI.2).bind λK6=>(bif decide (5<=K6.Kind) then ((s5 qJ.1 p2.Name).bind λkI=>some (decide (kI<0))) else some false))).bind λHj =>
 ((bif Hj then
 (nT qJ.1 p2.At p2.Name).bind λAL =>
 some AL
 else
 some qJ.1)).bind λJG =>
 some JG).bind λJF =>
 some (.inl (JF,aJ (qJ.2+1)))
 else
 some (.inr qJ.1))) (qI.1,0)).bind λow =>
 some (.inl (ow,aJ (qI.2+1)))
 else
 some (.inr qI.1))) (cW,0)).bind λhl =>
 ((bif decide (bS.2=⟨#[]⟩) then
 (idx a0.dG 0).bind λwq =>
 some wq.Left
 else
 some bS.2)).bind λxG =>
 (s5 hl xG).bind λmI =>
 (b2 (R:=dt) (λ(pV:dt × Int) =>
 (bif decide (pV.2<(a0.dG.length:Int)) then
 (b2 (R:=dt) (λ(rz:dt × Int) =>
 (idx a0.dG pV.2).bind λDD =>
 (bif decide (rz.2<(DD.eF.length:Int)) then
 (idx a0.dG pV.2).bind λDE =>
 (idx a0.dG pV.2).bind λK9 =>
 (idx K9.eF rz.2).bind λDF =>
 (vQ rz.1 DE.Left DF).bind λGy =>
 some (.inl (Gy,aJ (rz.2+1)))
 else
 some (.inr rz.1))) (pV.1,0)).bind λkJ =>
 some (.inl (kJ,aJ (pV.2+1)))
 else
 some (.inr pV.1))) ((⟨(⟨hl.aG.ba,hl.aG.b0,[(⟨0,[aJ (1001+mI)],(-1),⟨#[]⟩,([]:List Int),0⟩:Prod)],hl.aG.cx,hl.aG.cF⟩:bN),hl.ct,hl.cL,hl.cb,hl.cZ,hl.dn,hl.dk,hl.cr,hl.b_⟩:dt),0)).bind λbu =>
 (bif !decide (bu.cZ=0) then
 some ((⟨([]:List bW),([]:List fD),([]:List Prod),⟨#[]⟩,⟨#[]⟩⟩:bN),bu.cZ,bu.dn,bu.dk)
 else
 (b2 (R:=List fD) (λ(rA:List fD × Int) =>
 (bif decide (rA.2<(bu.cb.length:Int)) then
 (idx bu.cb rA.2).bind λqM =>
 (z1 (⟨(⟨bu.aG.ba,rA.1,bu.aG.bh,bu.aG.cx,bu.aG.cF⟩:bN),bu.ct,bu.cL,bu.cb,bu.cZ,bu.dn,bu.dk,bu.cr,bu.b_⟩:dt) qM).bind λyy =>
 ((bif decide (0<=yy) then
 (idx bu.cL yy).bind λK_ =>
 some K_.Tag
 else
 some (⟨#[]⟩))).bind λuu =>
 (c' rA.1 [(⟨qM,uu⟩:fD)]).bind λQK =>
 some (.inl (rA.1++[(⟨qM,uu⟩:fD)],aJ (rA.2+1)))
 else
 some (.inr rA.1))) ([(⟨⟨#[36,97,99,99,101,112,116]⟩,⟨#[]⟩⟩:fD)],0)).bind λuO =>
 (b2 (R:=List fD) (λ(sn:List fD × Int) =>
 (bif decide (sn.2<=bu.b_) then
 (CN sn.2).bind λGz =>
 (tG (⟨#[64]⟩) Gz).bind λwu =>
 (c' sn.1 [(⟨wu,⟨#[]⟩⟩:fD)]).bind λQL =>
 some (.inl (sn.1++[(⟨wu,⟨#[]⟩⟩:fD)],aJ (sn.2+1)))
 else
 some (.inr sn.1))) (uO,1)).bind λk7 =>
 (b2 (R:=List bW) (λ(ma:List bW × Int × Int) =>
 (bif decide (ma.2.2<(ma.1.length:Int)) then
 ((idx bu.ct ma.2.2).bind λK4 =>
 ((bif !K4 then
 (idx ma.1 ma.2.2).bind λsr =>
 some (ma.1.set ma.2.2.toNat (⟨sr.Name,sr.Lit,ma.2.1,sr.Level,sr.ft,sr.Tag⟩:bW),aJ (ma.2.1+1))
 else
 some (ma.1,ma.2.1))).bind λCm =>
 some (Cm.1,Cm.2)).bind λCo =>
 some (.inl (Co.1,Co.2,aJ (ma.2.2+1)))
 else
 some (.inr ma.1))) (bu.aG.ba,57346,3)).bind λmc =>
 ((bif decide (40<(mc.length:Int)) then some true else (bif decide (24<(k7.length:Int)) then some true else some (decide (60<(bu.aG.bh.length:Int)))))).bind λu3 =>
 (b2 (R:=Bool) (λ(tb:Bool × Int) =>
 (bif decide (tb.2<(bu.aG.bh.length:Int)) then
 ((bif tb.1 then some true else ((idx bu.aG.bh tb.2).bind λK5=>some (decide (8<(K5.eI.length:Int)))))).bind λHa =>
 some (.inl (Ha,aJ (tb.2+1)))
 else
 some (.inr tb.1))) (u3,0)).bind λAK =>
 (bif AK then
 some ((⟨([]:List bW),([]:List fD),([]:List Prod),⟨#[]⟩,⟨#[]⟩⟩:bN),4,0,⟨#[]⟩)
 else
 some ((⟨mc,k7,bu.aG.bh,a0.cx,a0.cF⟩:bN),0,0,⟨#[]⟩))))
def x7 (a0:Source):Option (bN × Bool) :=
 (v_ a0).bind λa8 =>
 some (a8.1,decide (a8.2.1=0))
def pT (a0:(List Int)) (aD:Int):Option ((List Int)) :=
 (b2 (R:=Int) (λ(s1:Int) =>
 ((bif decide (0<s1) then ((idx a0 (aJ (s1 - 1))).bind λbS=>some (decide (aD<bS))) else some false)).bind λoH =>
 (bif oH then
 some (.inl (aJ (s1 - 1)))
 else
 some (.inr s1))) (a0.length:Int)).bind λx2 =>
 ((bif decide (0<x2) then ((idx a0 (aJ (x2 - 1))).bind λcv=>some (decide (cv=aD))) else some false)).bind λik =>
 (bif ik then
 some a0
 else
 (nU a0 0 x2).bind λet =>
 (c' ([]:List Int) et).bind λcg =>
 (c' (([]:List Int)++et) [aD]).bind λeu =>
 (nU a0 x2 a0.length).bind λcQ =>
 (c' ((([]:List Int)++et)++[aD]) cQ).bind λcc =>
 some ((([]:List Int)++et)++[aD]++cQ))
def x8 (a0:(List Int)) (aD:Int):Option (Bool) :=
 (b2 (R:=(Unit) ⊕ (Bool)) (λ(s1:Int) =>
 (bif decide (s1<(a0.length:Int)) then
 (idx a0 s1).bind λbx =>
 (bif decide (bx=aD) then
 some (.inr (.inr true))
 else
 some (.inl (aJ (s1+1))))
 else
 some (.inr (.inl ())))) 0).bind λx2 =>
 (match x2 with
 | .inl a7 =>
 some false
 | .inr bs =>
 some bs)
def C9 (a0:bN):Option ((List Int)) :=
 (b2 (R:=List Int) (λ(s1:List Int × Int) =>
 (bif decide (s1.2<(a0.ba.length:Int)) then
 (c' s1.1 [s1.2]).bind λbS =>
 some (.inl (s1.1++[s1.2],aJ (s1.2+1)))
 else
 some (.inr s1.1))) (([]:List Int),0)).bind λx2 =>
 (b2 (R:=List Int) (λ(da:List Int × Int) =>
 (bif decide (da.2<(a0.b0.length:Int)) then
 (c' da.1 [aJ (1000+da.2)]).bind λbJ =>
 some (.inl (da.1++[aJ (1000+da.2)],aJ (da.2+1)))
 else
 some (.inr da.1))) (x2,0)).bind λbR =>
 some bR
structure Item where
 Prod:Int
 e':Int
 deriving DecidableEq,Inhabited
def z6 (a0:bN) (aD:Item):Option (Bool) :=
 ((bif decide (0<=aD.Prod) then (bif decide (aD.Prod<(a0.bh.length:Int)) then (bif decide (0<=aD.e') then ((idx a0.bh aD.Prod).bind λbs=>some (decide (aD.e'<=(bs.eI.length:Int)))) else some false) else some false) else some false)).bind λkP =>
 some kP
def yb (a0:bN) (aD:Item):Option (Int) :=
 (((z6 a0 aD).bind λa8=>(bif !a8 then some true else ((idx a0.bh aD.Prod).bind λa7=>some (decide (aD.e'=(a7.eI.length:Int))))))).bind λc4 =>
 (bif c4 then
 some (-1)
 else
 (idx a0.bh aD.Prod).bind λbx =>
 (idx bx.eI aD.e').bind λbR =>
 some bR)
def fU:bK Item:=⟨2,λx=>[ae x.Prod,ae x.e'],λ_=>rfl,λ_=>dp.bl⟩
instance:Flat fU:=⟨λ_=>rfl⟩
instance:l0 fU:=⟨λx=>(inferInstance:jE [ae x.Prod,ae x.e'])⟩
instance:gV fU fU:=⟨rfl,λx=>(inferInstance:dr [ae x.Prod,ae x.e'] [ae x.Prod,ae x.e'])⟩
def xX (a0:(List Item)) (aD:Item):Option ((List Item)) :=
 (b2 (R:=Int) (λ(s1:Int) =>
 ((bif decide (0<s1) then ((idx a0 (aJ (s1 - 1))).bind λbS=>(bif decide (aD.Prod<bS.Prod) then some true else ((idx a0 (aJ (s1 - 1))).bind λbR=>(bif decide (bR.Prod=aD.Prod) then ((idx a0 (aJ (s1 - 1))).bind λcv=>some (decide (aD.e'<cv.e'))) else some false)))) else some false)).bind λik =>
 (bif ik then
 some (.inl (aJ (s1 - 1)))
 else
 some (.inr s1))) (a0.length:Int)).bind λx2 =>
 ((bif decide (0<x2) then ((idx a0 (aJ (x2 - 1))).bind λcg=>some (decide (cg.Prod=aD.Prod)&&(decide (cg.e'=aD.e')&&true))) else some false)).bind λoG =>
 (bif oG then
 some a0
 else
 (nU a0 0 x2).bind λcc =>
 (c' ([]:List Item) cc).bind λbT =>
 (c' (([]:List Item)++cc) [aD]).bind λdK =>
 (nU a0 x2 a0.length).bind λe2 =>
 (c' ((([]:List Item)++cc)++[aD]) e2).bind λdN =>
 some ((([]:List Item)++cc)++[aD]++e2))
def CO (a0:bN) (aD:(List Item)):Option ((List Item)) :=
 (b2 (R:=List Item) (λ(s1:List Item × Int) =>
 (bif decide (s1.2<(aD.length:Int)) then
 ((idx aD s1.2).bind λbx =>
 (z6 a0 bx).bind λbR =>
 ((bif bR then
 (idx aD s1.2).bind λbJ =>
 (xX s1.1 bJ).bind λcq =>
 some cq
 else
 some s1.1)).bind λfa =>
 some fa).bind λkX =>
 some (.inl (kX,aJ (s1.2+1)))
 else
 some (.inr s1.1))) (([]:List Item),0)).bind λx2 =>
 some x2
def x_ (a0:bN) (aD:(List Item)):Option ((List Item)) :=
 (CO a0 aD).bind λa8 =>
 (b2 (R:=List Item) (λ(s2:List Item × Int) =>
 (bif !decide (s2.2=(s2.1.length:Int)) then
 (((b2 (R:=List Item) (λ(dC:List Item × Int) =>
 (bif decide (dC.2<(s2.1.length:Int)) then
 (idx dC.1 dC.2).bind λet =>
 (yb a0 et).bind λcg =>
 (b2 (R:=List Item) (λ(e1:List Item × Int) =>
 ((bif decide (e1.2<(a0.bh.length:Int)) then some (decide (1000<=cg)) else some false)).bind λny =>
 (bif ny then
 ((idx a0.bh e1.2).bind λev =>
 ((bif decide (ev.Left=aJ (cg - 1000)) then
 (xX e1.1 (⟨e1.2,0⟩:Item)).bind λgg =>
 some gg
 else
 some e1.1)).bind λmz =>
 some mz).bind λxC =>
 some (.inl (xC,aJ (e1.2+1)))
 else
 some (.inr e1.1))) (dC.1,0)).bind λcQ =>
 (bif !decide ((cQ.length:Int)=(s2.1.length:Int)) then
 some (.inr cQ)
 else
 some (.inl (cQ,aJ (dC.2+1))))
 else
 some (.inr dC.1))) (s2.1,0)).bind λcv =>
 some cv).bind λkZ =>
 some (kZ,(s2.1.length:Int))).bind λkY =>
 some (.inl (kY.1,kY.2))
 else
 some (.inr s2.1))) (a8,(-1))).bind λa7 =>
 some a7
def C_ (a0:bN) (aD:(List Item)) (a2:Int):Option ((List Item)) :=
 (x_ a0 aD).bind λa8 =>
 (b2 (R:=List Item) (λ(s2:List Item × Int) =>
 (bif decide (s2.2<(a8.length:Int)) then
 ((idx a8 s2.2).bind λbR =>
 (yb a0 bR).bind λb6 =>
 ((bif decide (0<=b6) then some (decide (b6=a2)) else some false)).bind λik =>
 ((bif ik then
 (idx a8 s2.2).bind λcg =>
 (idx a8 s2.2).bind λeu =>
 (xX s2.1 (⟨cg.Prod,aJ (eu.e'+1)⟩:Item)).bind λcQ =>
 some cQ
 else
 some s2.1)).bind λjw =>
 some jw).bind λkY =>
 some (.inl (kY,aJ (s2.2+1)))
 else
 some (.inr s2.1))) (([]:List Item),0)).bind λa7 =>
 some a7
def CP (a0:(List Item)) (aD:(List Item)):Option (Bool) :=
 (bif !decide ((a0.length:Int)=(aD.length:Int)) then
 some false
 else
 (b2 (R:=(Unit) ⊕ (Bool)) (λ(s2:Int) =>
 (bif decide (s2<(a0.length:Int)) then
 (idx a0 s2).bind λbR =>
 (idx aD s2).bind λb6 =>
 (bif !(decide (bR.Prod=b6.Prod)&&(decide (bR.e'=b6.e')&&true)) then
 some (.inr (.inr false))
 else
 some (.inl (aJ (s2+1))))
 else
 some (.inr (.inl ())))) 0).bind λa7 =>
 (match a7 with
 | .inl bs =>
 some true
 | .inr bS =>
 some bS))
structure Move where
 Sym:Int
 jH:Int
 deriving DecidableEq,Inhabited
structure State where
 Kernel:(List Item)
 eU:(List Move)
 deriving DecidableEq,Inhabited
def lK:bK Move:=⟨2,λx=>[ae x.Sym,ae x.jH],λ_=>rfl,λ_=>dp.bl⟩
instance:Flat lK:=⟨λ_=>rfl⟩
instance:l0 lK:=⟨λx=>(inferInstance:jE [ae x.Sym,ae x.jH])⟩
instance:gV lK lK:=⟨rfl,λx=>(inferInstance:dr [ae x.Sym,ae x.jH] [ae x.Sym,ae x.jH])⟩
def gP:bK State:=⟨2,λx=>[ag fU x.Kernel,ag lK x.eU],λ_=>rfl,λ_=>dp.bl⟩
instance:Flat gP:=⟨λ_=>rfl⟩
instance:gV gP gP:=⟨rfl,λx=>(inferInstance:dr [ag fU x.Kernel,ag lK x.eU] [ag fU x.Kernel,ag lK x.eU])⟩
def C' (a0:(List State)) (aD:(List Item)):Option (Int) :=
 (b2 (R:=(Unit) ⊕ (Int)) (λ(s1:Int) =>
 (bif decide (s1<(a0.length:Int)) then
 (idx a0 s1).bind λbx =>
 (CP bx.Kernel aD).bind λbR =>
 (bif bR then
 some (.inr (.inr s1))
 else
 some (.inl (aJ (s1+1))))
 else
 some (.inr (.inl ())))) 0).bind λx2 =>
 (match x2 with
 | .inl a7 =>
 some (-1)
 | .inr bs =>
 some bs)
def hg:bK State:=⟨2,λx=>[ag fU x.Kernel,ak lK x.eU],λ_=>rfl,λ_=>dp.bl⟩
instance:gV hg gP:=⟨rfl,λx=>(inferInstance:dr [ag fU x.Kernel,ak lK x.eU] [ag fU x.Kernel,ag lK x.eU])⟩
def Ak (a0:bN):Option ((List State) × Int) :=
 (C9 a0).bind λa8 =>
 (b2 (R:=(List State) ⊕ (List State × Int)) (λ(s2:List State × Int) =>
 (bif decide (s2.2<(s2.1.length:Int)) then
 (idx s2.1 s2.2).bind λbR =>
 (x_ a0 bR.Kernel).bind λb6 =>
 (b2 (R:=List Int) (λ(ib:List Int × Int) =>
 (bif decide (ib.2<(b6.length:Int)) then
 ((idx b6 ib.2).bind λeu =>
 (yb a0 eu).bind λcQ =>
 ((bif decide (0<=cQ) then
 (pT ib.1 cQ).bind λdK =>
 some dK
 else
 some ib.1)).bind λmy =>
 some my).bind λiG =>
 some (.inl (iG,aJ (ib.2+1)))
 else
 some (.inr ib.1))) (([]:List Int),0)).bind λbJ =>
 (b2 (R:=(List State) ⊕ (List State × Int)) (λ(dd:List State × Int) =>
 (bif decide (dd.2<(a8.length:Int)) then
 (idx a8 dd.2).bind λgg =>
 (x8 bJ gg).bind λhV =>
 (bif !hV then
 some (.inl (dd.1,aJ (dd.2+1)))
 else
 (idx dd.1 s2.2).bind λdZ =>
 (idx a8 dd.2).bind λcW =>
 (C_ a0 dZ.Kernel cW).bind λej =>
 (C' dd.1 ej).bind λhW =>
 (bif decide (hW<0) then
 (bif decide ((dd.1.length:Int)=150) then
 some (.inr (.inr (([]:List State),4)))
 else
 (c' dd.1 [(⟨ej,([]:List Move)⟩:State)]).bind λe6 =>
 (idx (dd.1++[(⟨ej,([]:List Move)⟩:State)]) s2.2).bind λkm =>
 (idx a8 dd.2).bind λeg =>
 (c' km.eU [(⟨eg,(dd.1.length:Int)⟩:Move)]).bind λnV =>
 some (.inl ((dd.1++[(⟨ej,([]:List Move)⟩:State)]).set s2.2.toNat (⟨km.Kernel,km.eU++[(⟨eg,(dd.1.length:Int)⟩:Move)]⟩:State),aJ (dd.2+1))))
 else
 (idx dd.1 s2.2).bind λj4 =>
 (idx a8 dd.2).bind λc0 =>
 (c' j4.eU [(⟨c0,hW⟩:Move)]).bind λgh =>
 some (.inl (dd.1.set s2.2.toNat (⟨j4.Kernel,j4.eU++[(⟨c0,hW⟩:Move)]⟩:State),aJ (dd.2+1)))))
 else
 some (.inr (.inl dd.1)))) (s2.1,0)).bind λdN =>
 (match dN with
 | .inl ev =>
 some (.inl (ev,aJ (s2.2+1)))
 | .inr fZ =>
 some (.inr (.inr (fZ.1,fZ.2))))
 else
 some (.inr (.inl s2.1)))) ([(⟨[(⟨0,0⟩:Item)],([]:List Move)⟩:State)],0)).bind λa7 =>
 (match a7 with
 | .inl bs =>
 some (bs,0)
 | .inr bS =>
 some (bS.1,bS.2))
def x5 (a0:Source):Option (bN × (List State) × Bool) :=
 (x7 a0).bind λa8 =>
 (bif !a8.2 then
 some (a8.1,([]:List State),false)
 else
 (Ak a8.1).bind λa7 =>
 some (a8.1,a7.1,decide (a7.2=0)))
def rm (a0:(List State)) (aD:Int) (a2:Int):Option (Int) :=
 (b2 (R:=(Unit) ⊕ (Int)) (λ(s1:Int) =>
 ((bif decide (0<=aD) then (bif decide (aD<(a0.length:Int)) then ((idx a0 aD).bind λbR=>some (decide (s1<(bR.eU.length:Int)))) else some false) else some false)).bind λqd =>
 (bif qd then
 (idx a0 aD).bind λbJ =>
 (idx bJ.eU s1).bind λcq =>
 (bif decide (cq.Sym=a2) then
 (idx a0 aD).bind λcg =>
 (idx cg.eU s1).bind λeu =>
 some (.inr (.inr eu.jH))
 else
 some (.inl (aJ (s1+1))))
 else
 some (.inr (.inl ())))) 0).bind λx2 =>
 (match x2 with
 | .inl a7 =>
 some (-1)
 | .inr bs =>
 some bs)
structure Cell where
 State:Int
 bW:Int
 j8:Int
 lX:Bool
 bh:(List Int)
 deriving DecidableEq,Inhabited
def iD:bK Cell:=⟨5,λx=>[ae x.State,ae x.bW,ae x.j8,a_ x.lX,ag ai x.bh],λ_=>rfl,λ_=>dp.bl⟩
instance:Flat iD:=⟨λ_=>rfl⟩
instance:gV iD iD:=⟨rfl,λx=>(inferInstance:dr [ae x.State,ae x.bW,ae x.j8,a_ x.lX,ag ai x.bh] [ae x.State,ae x.bW,ae x.j8,a_ x.lX,ag ai x.bh])⟩
instance {x:Cell}:dr (iD.cells x) [ae x.State,ae x.bW,ae x.j8,a_ x.lX,ag ai x.bh]:=(inferInstance:dr [ae x.State,ae x.bW,ae x.j8,a_ x.lX,ag ai x.bh] [ae x.State,ae x.bW,ae x.j8,a_ x.lX,ag ai x.bh])
def Ah (a0:Cell):Option (Int) :=
 ((bif decide (0<=a0.j8) then
 some (aJ ((a0.bh.length:Int)+1))
 else
 some (a0.bh.length:Int))).bind λjv =>
 ((bif a0.lX then
 some (aJ (jv+1))
 else
 some jv)).bind λiv =>
 some iv
structure k9 where
 State:Int
 Prod:Int
 ba:(List Int)
 deriving DecidableEq,Inhabited
def rS:bK k9:=⟨3,λx=>[ae x.State,ae x.Prod,ag ai x.ba],λ_=>rfl,λ_=>dp.bl⟩
instance:Flat rS:=⟨λ_=>rfl⟩
instance:gV rS rS:=⟨rfl,λx=>(inferInstance:dr [ae x.State,ae x.Prod,ag ai x.ba] [ae x.State,ae x.Prod,ag ai x.ba])⟩
instance {x:k9}:dr (rS.cells x) [ae x.State,ae x.Prod,ag ai x.ba]:=(inferInstance:dr [ae x.State,ae x.Prod,ag ai x.ba] [ae x.State,ae x.Prod,ag ai x.ba])
def C1 (a0:bN) (aD:(List State)) (a2:(List k9)):Option ((List Cell)) :=
 (b2 (R:=List Cell) (λ(s1:List Cell × Int) =>
 (bif decide (s1.2<(aD.length:Int)) then
 (b2 (R:=List Cell) (λ(cm:List Cell × Int) =>
 (bif decide (cm.2<(a0.ba.length:Int)) then
 ((rm aD s1.2 cm.2).bind λbJ =>
 (b2 (R:=Bool) (λ(jB:Bool × Int) =>
 (idx aD s1.2).bind λeu =>
 (bif decide (jB.2<(eu.Kernel.length:Int)) then
 (idx aD s1.2).bind λcc =>
 (idx cc.Kernel jB.2).bind λbT =>
 ((bif jB.1 then some true else (bif decide (cm.2=0) then (bif decide (bT.Prod=0) then some (decide (bT.e'=1)) else some false) else some false))).bind λq2 =>
 some (.inl (q2,aJ (jB.2+1)))
 else
 some (.inr jB.1))) (false,0)).bind λet =>
 (b2 (R:=List Int) (λ(iH:List Int × Int) =>
 (bif decide (iH.2<(a2.length:Int)) then
 ((((idx a2 iH.2).bind λdZ=>(bif decide (dZ.State=s1.2) then ((idx a2 iH.2).bind λej=>((x8 ej.ba cm.2).bind λhW=>some hW)) else some false))).bind λtE =>
 ((bif tE then
 (idx a2 iH.2).bind λkm =>
 (pT iH.1 km.Prod).bind λeg =>
 some eg
 else
 some iH.1)).bind λpN =>
 some pN).bind λd' =>
 some (.inl (d',aJ (iH.2+1)))
 else
 some (.inr iH.1))) (([]:List Int),0)).bind λfj =>
 (Ah (⟨s1.2,cm.2,bJ,et,fj⟩:Cell)).bind λnV =>
 ((bif decide (0<nV) then
 (c' cm.1 [(⟨s1.2,cm.2,bJ,et,fj⟩:Cell)]).bind λgh =>
 some (cm.1++[(⟨s1.2,cm.2,bJ,et,fj⟩:Cell)])
 else
 some cm.1)).bind λxF =>
 some xF).bind λqy =>
 some (.inl (qy,aJ (cm.2+1)))
 else
 some (.inr cm.1))) (s1.1,0)).bind λbx =>
 some (.inl (bx,aJ (s1.2+1)))
 else
 some (.inr s1.1))) (([]:List Cell),0)).bind λx2 =>
 some x2
def An (a0:(List (List Int))) (aD:(List (List Int))):Option ((List (List Int))) :=
 (b2 (R:=List (List Int)) (λ(s1:List (List Int) × Bool) =>
 (bif s1.2 then
 (b2 (R:=List (List Int) × Bool) (λ(cm:List (List Int) × Bool × Int) =>
 (bif decide (cm.2.2<(cm.1.length:Int)) then
 (idx aD cm.2.2).bind λcv =>
 (idx cm.1 cm.2.2).bind λbJ =>
 (b2 (R:=List (List Int)) (λ(jB:List (List Int) × Int) =>
 (bif decide (jB.2<(cv.length:Int)) then
 (b2 (R:=List (List Int)) (λ(ha:List (List Int) × Int) =>
 (idx cv jB.2).bind λdK =>
 (idx ha.1 dK).bind λe2 =>
 (bif decide (ha.2<(e2.length:Int)) then
 (idx ha.1 cm.2.2).bind λev =>
 (idx cv jB.2).bind λfZ =>
 (idx ha.1 fZ).bind λfj =>
 (idx fj ha.2).bind λgg =>
 (pT ev gg).bind λhV =>
 some (.inl (ha.1.set cm.2.2.toNat hV,aJ (ha.2+1)))
 else
 some (.inr ha.1))) (jB.1,0)).bind λcc =>
 some (.inl (cc,aJ (jB.2+1)))
 else
 some (.inr jB.1))) (cm.1,0)).bind λet =>
 ((bif cm.2.1 then some true else ((idx et cm.2.2).bind λdZ=>some (!decide ((dZ.length:Int)=(bJ.length:Int)))))).bind λwT =>
 some (.inl (et,wT,aJ (cm.2.2+1)))
 else
 some (.inr (cm.1,cm.2.1)))) (s1.1,false,0)).bind λbx =>
 some (.inl (bx.1,bx.2))
 else
 some (.inr s1.1))) (a0,true)).bind λx2 =>
 some x2
structure Trans where
 State:Int
 fD:Int
 deriving DecidableEq,Inhabited
def qe:bK Trans:=⟨2,λx=>[ae x.State,ae x.fD],λ_=>rfl,λ_=>dp.bl⟩
instance:Flat qe:=⟨λ_=>rfl⟩
instance:l0 qe:=⟨λx=>(inferInstance:jE [ae x.State,ae x.fD])⟩
instance:gV qe qe:=⟨rfl,λx=>(inferInstance:dr [ae x.State,ae x.fD] [ae x.State,ae x.fD])⟩
def qD (a0:(List State)):Option ((List Trans)) :=
 (b2 (R:=List Trans) (λ(s1:List Trans × Int) =>
 (bif decide (s1.2<(a0.length:Int)) then
 (b2 (R:=List Trans) (λ(cm:List Trans × Int) =>
 (idx a0 s1.2).bind λb6 =>
 (bif decide (cm.2<(b6.eU.length:Int)) then
 ((idx a0 s1.2).bind λcq =>
 (idx cq.eU cm.2).bind λet =>
 ((bif decide (1000<=et.Sym) then
 (idx a0 s1.2).bind λcQ =>
 (idx cQ.eU cm.2).bind λcc =>
 (c' cm.1 [(⟨s1.2,cc.Sym⟩:Trans)]).bind λbT =>
 some (cm.1++[(⟨s1.2,cc.Sym⟩:Trans)])
 else
 some cm.1)).bind λiG =>
 some iG).bind λjS =>
 some (.inl (jS,aJ (cm.2+1)))
 else
 some (.inr cm.1))) (s1.1,0)).bind λbx =>
 some (.inl (bx,aJ (s1.2+1)))
 else
 some (.inr s1.1))) (([]:List Trans),0)).bind λx2 =>
 some x2
def CQ (a0:(List Item)):Option (Bool) :=
 (b2 (R:=(Unit) ⊕ (Bool)) (λ(s1:Int) =>
 (bif decide (s1<(a0.length:Int)) then
 (((idx a0 s1).bind λbx=>(bif decide (bx.Prod=0) then ((idx a0 s1).bind λb6=>some (decide (b6.e'=1))) else some false))).bind λoI =>
 (bif oI then
 some (.inr (.inr true))
 else
 some (.inl (aJ (s1+1))))
 else
 some (.inr (.inl ())))) 0).bind λx2 =>
 (match x2 with
 | .inl a7 =>
 some false
 | .inr bs =>
 some bs)
def Da (a0:(List State)):Option ((List (List Int))) :=
 (qD a0).bind λa8 =>
 (b2 (R:=List (List Int)) (λ(s2:List (List Int) × Int) =>
 (bif decide (s2.2<(a8.length:Int)) then
 (idx a8 s2.2).bind λbx =>
 (idx a8 s2.2).bind λbR =>
 (rm a0 bx.State bR.fD).bind λb6 =>
 (idx a0 b6).bind λcv =>
 (CQ cv.Kernel).bind λbJ =>
 ((bif bJ then
 (c' ([]:List Int) [0]).bind λcg =>
 some [0]
 else
 some ([]:List Int))).bind λjw =>
 (b2 (R:=List Int) (λ(e1:List Int × Int) =>
 (idx a0 b6).bind λbT =>
 (bif decide (e1.2<(bT.eU.length:Int)) then
 ((idx a0 b6).bind λdN =>
 (idx dN.eU e1.2).bind λev =>
 ((bif decide (ev.Sym<1000) then
 (idx a0 b6).bind λgg =>
 (idx gg.eU e1.2).bind λhV =>
 (pT e1.1 hV.Sym).bind λgA =>
 some gA
 else
 some e1.1)).bind λmz =>
 some mz).bind λe_ =>
 some (.inl (e_,aJ (e1.2+1)))
 else
 some (.inr e1.1))) (jw,0)).bind λcQ =>
 (c' s2.1 [cQ]).bind λdZ =>
 some (.inl (s2.1++[cQ],aJ (s2.2+1)))
 else
 some (.inr s2.1))) (([]:List (List Int)),0)).bind λa7 =>
 some a7
def z_ (a0:(List Bool)) (aD:(List Int)):Option (Bool) :=
 (b2 (R:=(Unit) ⊕ (Bool)) (λ(s1:Int) =>
 (bif decide (s1<(aD.length:Int)) then
 (((idx aD s1).bind λbx=>(bif decide (bx<1000) then some true else ((idx aD s1).bind λb6=>((idx a0 (aJ (b6 - 1000))).bind λcv=>some (!cv)))))).bind λik =>
 (bif ik then
 some (.inr (.inr false))
 else
 some (.inl (aJ (s1+1))))
 else
 some (.inr (.inl ())))) 0).bind λx2 =>
 (match x2 with
 | .inl a7 =>
 some true
 | .inr bs =>
 some bs)
def z7 (a0:bN):Option ((List Bool)) :=
 (ni (a0.b0.length:Int) false).bind λa8 =>
 (b2 (R:=List Bool) (λ(s2:List Bool × Bool) =>
 (bif s2.2 then
 (b2 (R:=List Bool × Bool) (λ(da:List Bool × Bool × Int) =>
 (bif decide (da.2.2<(a0.bh.length:Int)) then
 ((idx a0.bh da.2.2).bind λcq =>
 (((idx da.1 cq.Left).bind λet=>(bif !et then ((z_ da.1 cq.eI).bind λeu=>some eu) else some false))).bind λtD =>
 ((bif tD then
 (idx da.1 cq.Left).bind λdK =>
 some (da.1.set cq.Left.toNat true,true)
 else
 some (da.1,da.2.1))).bind λmy =>
 some (my.1,my.2)).bind λjS =>
 some (.inl (jS.1,jS.2,aJ (da.2.2+1)))
 else
 some (.inr (da.1,da.2.1)))) (s2.1,false,0)).bind λbR =>
 some (.inl (bR.1,bR.2))
 else
 some (.inr s2.1))) (a8,true)).bind λa7 =>
 some a7
def z8 (a0:(List Trans)) (aD:Int) (a2:Int):Option (Int) :=
 (b2 (R:=(Unit) ⊕ (Int)) (λ(s1:Int) =>
 (bif decide (s1<(a0.length:Int)) then
 (((idx a0 s1).bind λbx=>(bif decide (bx.State=aD) then ((idx a0 s1).bind λb6=>some (decide (b6.fD=a2))) else some false))).bind λoI =>
 (bif oI then
 some (.inr (.inr s1))
 else
 some (.inl (aJ (s1+1))))
 else
 some (.inr (.inl ())))) 0).bind λx2 =>
 (match x2 with
 | .inl a7 =>
 some (-1)
 | .inr bs =>
 some bs)
def Db (a0:bN) (aD:(List State)):Option ((List (List Int))) :=
 (qD aD).bind λa8 =>
 (z7 a0).bind λx2 =>
 (b2 (R:=List (List Int)) (λ(ec:List (List Int) × Int) =>
 (bif decide (ec.2<(a8.length:Int)) then
 (idx a8 ec.2).bind λbR =>
 (idx a8 ec.2).bind λb6 =>
 (rm aD bR.State b6.fD).bind λcv =>
 (b2 (R:=List Int) (λ(fg:List Int × Int) =>
 (idx aD cv).bind λcg =>
 (bif decide (fg.2<(cg.eU.length:Int)) then
 ((idx aD cv).bind λcc =>
 (idx cc.eU fg.2).bind λbT =>
 ((bif decide (1000<=bT.Sym) then ((idx x2 (aJ (bT.Sym - 1000))).bind λe2=>some e2) else some false)).bind λHc =>
 ((bif Hc then
 (z8 a8 cv bT.Sym).bind λfj =>
 (pT fg.1 fj).bind λgg =>
 some gg
 else
 some fg.1)).bind λnQ =>
 some nQ).bind λoi =>
 some (.inl (oi,aJ (fg.2+1)))
 else
 some (.inr fg.1))) (([]:List Int),0)).bind λcq =>
 (c' ec.1 [cq]).bind λhV =>
 some (.inl (ec.1++[cq],aJ (ec.2+1)))
 else
 some (.inr ec.1))) (([]:List (List Int)),0)).bind λbs =>
 some bs
def Ao (a0:(List State)) (aD:Int) (a2:(List Int)):Option (Int) :=
 (b2 (R:=Int) (λ(s1:Int × Int) =>
 ((bif decide (s1.2<(a2.length:Int)) then some (decide (0<=s1.1)) else some false)).bind λkP =>
 (bif kP then
 (idx a2 s1.2).bind λbR =>
 (rm a0 s1.1 bR).bind λb6 =>
 some (.inl (b6,aJ (s1.2+1)))
 else
 some (.inr s1.1))) (aD,0)).bind λx2 =>
 some x2
def Dc (a0:bN) (aD:(List State)):Option ((List (List Int))) :=
 (qD aD).bind λa8 =>
 (z7 a0).bind λx2 =>
 (ni (a8.length:Int) ([]:List Int)).bind λa7 =>
 (b2 (R:=List (List Int)) (λ(cY:List (List Int) × Int) =>
 (bif decide (cY.2<(a8.length:Int)) then
 (b2 (R:=List (List Int)) (λ(dC:List (List Int) × Int) =>
 (bif decide (dC.2<(a0.bh.length:Int)) then
 ((idx a0.bh dC.2).bind λcg =>
 (idx a0.bh dC.2).bind λeu =>
 (idx a8 cY.2).bind λcQ =>
 (bif !decide (aJ (1000+eu.Left)=cQ.fD) then
 some dC.1
 else
 (b2 (R:=List (List Int)) (λ(lU:List (List Int) × Int) =>
 (bif decide (lU.2<(cg.eI.length:Int)) then
 ((((idx cg.eI lU.2).bind λfZ=>(bif decide (fZ<1000) then some true else ((nU cg.eI (aJ (lU.2+1)) cg.eI.length).bind λgg=>((z_ x2 gg).bind λhV=>some (!hV)))))).bind λHg =>
 (bif Hg then
 some lU.1
 else
 (idx a8 cY.2).bind λcW =>
 (nU cg.eI 0 lU.2).bind λej =>
 (Ao aD cW.State ej).bind λhW =>
 ((bif decide (0<=hW) then
 (idx cg.eI lU.2).bind λe6 =>
 (z8 a8 hW e6).bind λkm =>
 ((bif decide (0<=km) then
 (idx lU.1 km).bind λj4 =>
 (pT j4 cY.2).bind λc0 =>
 some (lU.1.set km.toNat c0)
 else
 some lU.1)).bind λJB =>
 some JB
 else
 some lU.1)).bind λur =>
 some ur)).bind λnQ =>
 some (.inl (nQ,aJ (lU.2+1)))
 else
 some (.inr lU.1))) (dC.1,0)).bind λdK =>
 some dK)).bind λeN =>
 some (.inl (eN,aJ (dC.2+1)))
 else
 some (.inr dC.1))) (cY.1,0)).bind λcv =>
 some (.inl (cv,aJ (cY.2+1)))
 else
 some (.inr cY.1))) (a7,0)).bind λbS =>
 some bS
def Al (a0:bN) (aD:(List State)):Option ((List (List Int))) :=
 (Da aD).bind λa8 =>
 (Db a0 aD).bind λx2 =>
 (An a8 x2).bind λa7 =>
 (Dc a0 aD).bind λbs =>
 (An a7 bs).bind λbS =>
 some bS
def C5 (a0:bN) (aD:(List Item)):Option ((List Int)) :=
 (x_ a0 aD).bind λa8 =>
 (b2 (R:=List Int) (λ(s2:List Int × Int) =>
 (bif decide (s2.2<(a8.length:Int)) then
 ((((idx a8 s2.2).bind λbR=>(bif decide (0<bR.Prod) then ((idx a8 s2.2).bind λcv=>((idx a8 s2.2).bind λbJ=>((idx a0.bh bJ.Prod).bind λcq=>some (decide (cv.e'=(cq.eI.length:Int)))))) else some false))).bind λwR =>
 ((bif wR then
 (idx a8 s2.2).bind λcQ =>
 (c' s2.1 [cQ.Prod]).bind λcc =>
 some (s2.1++[cQ.Prod])
 else
 some s2.1)).bind λiG =>
 some iG).bind λkY =>
 some (.inl (kY,aJ (s2.2+1)))
 else
 some (.inr s2.1))) (([]:List Int),0)).bind λa7 =>
 some a7
def C6 (a0:bN) (aD:(List State)) (a2:Int) (a3:Int):Option ((List Int)) :=
 ((bif decide (a2<0) then some true else (bif decide ((aD.length:Int)<=a2) then some true else (bif decide (a3<1) then some true else some (decide ((a0.bh.length:Int)<=a3)))))).bind λc4 =>
 (bif c4 then
 some ([]:List Int)
 else
 (qD aD).bind λbx =>
 (b2 (R:=List Int) (λ(ds:List Int × Int) =>
 (bif decide (ds.2<(bx.length:Int)) then
 ((((idx bx ds.2).bind λet=>((idx a0.bh a3).bind λcg=>(bif decide (et.fD=aJ (1000+cg.Left)) then ((idx bx ds.2).bind λcQ=>((idx a0.bh a3).bind λcc=>((Ao aD cQ.State cc.eI).bind λbT=>some (decide (bT=a2))))) else some false)))).bind λny =>
 ((bif ny then
 (c' ds.1 [ds.2]).bind λev =>
 some (ds.1++[ds.2])
 else
 some ds.1)).bind λe_ =>
 some e_).bind λjw =>
 some (.inl (jw,aJ (ds.2+1)))
 else
 some (.inr ds.1))) (([]:List Int),0)).bind λb6 =>
 some b6)
def C2 (a0:bN) (aD:(List State)):Option ((List k9)) :=
 (Al a0 aD).bind λa8 =>
 (b2 (R:=List k9) (λ(s2:List k9 × Int) =>
 (bif decide (s2.2<(aD.length:Int)) then
 (idx aD s2.2).bind λbx =>
 (C5 a0 bx.Kernel).bind λbR =>
 (b2 (R:=List k9) (λ(dC:List k9 × Int) =>
 (bif decide (dC.2<(bR.length:Int)) then
 (idx bR dC.2).bind λet =>
 (idx bR dC.2).bind λcg =>
 (C6 a0 aD s2.2 cg).bind λeu =>
 (b2 (R:=List Int) (λ(ha:List Int × Int) =>
 (bif decide (ha.2<(eu.length:Int)) then
 (b2 (R:=List Int) (λ(dd:List Int × Int) =>
 (idx eu ha.2).bind λfZ =>
 (idx a8 fZ).bind λfj =>
 (bif decide (dd.2<(fj.length:Int)) then
 (idx eu ha.2).bind λhV =>
 (idx a8 hV).bind λgA =>
 (idx gA dd.2).bind λdZ =>
 (pT dd.1 dZ).bind λcW =>
 some (.inl (cW,aJ (dd.2+1)))
 else
 some (.inr dd.1))) (ha.1,0)).bind λdN =>
 some (.inl (dN,aJ (ha.2+1)))
 else
 some (.inr ha.1))) (([]:List Int),0)).bind λcc =>
 (c' dC.1 [(⟨s2.2,et,cc⟩:k9)]).bind λej =>
 some (.inl (dC.1++[(⟨s2.2,et,cc⟩:k9)],aJ (dC.2+1)))
 else
 some (.inr dC.1))) (s2.1,0)).bind λcv =>
 some (.inl (cv,aJ (s2.2+1)))
 else
 some (.inr s2.1))) (([]:List k9),0)).bind λa7 =>
 some a7
def vX (a0:Source):Option (bN × (List State) × (List Cell) × Bool) :=
 (x5 a0).bind λa8 =>
 (bif !a8.2.2 then
 some (a8.1,([]:List State),([]:List Cell),false)
 else
 (C2 a8.1 a8.2.1).bind λa7 =>
 (C1 a8.1 a8.2.1 a7).bind λbs =>
 some (a8.1,a8.2.1,bs,true))
def Dd (a0:bN) (aD:Int):Option (Int × Int) :=
 ((bif decide (aD<0) then some true else (bif decide ((a0.bh.length:Int)<=aD) then some true else ((idx a0.bh aD).bind λa7=>some (decide (a7.Prec<0)))))).bind λc4 =>
 (bif c4 then
 some (0,0)
 else
 (idx a0.bh aD).bind λbx =>
 (idx a0.ba bx.Prec).bind λbR =>
 some (bR.Level,bR.ft))
def C7 (a0:bN) (aD:Int) (a2:Int):Option (Int) :=
 (Dd a0 aD).bind λa8 =>
 ((bif decide (a8.1=0) then some true else (bif decide (a2<0) then some true else (bif decide ((a0.ba.length:Int)<=a2) then some true else ((idx a0.ba a2).bind λbS=>some (decide (bS.Level=0))))))).bind λoH =>
 (bif oH then
 some 0
 else
 (idx a0.ba a2).bind λb6 =>
 (bif decide (a8.1<b6.Level) then
 some 1
 else
 (bif decide (b6.Level<a8.1) then
 some 2
 else
 (bif decide (b6.ft=1) then
 some 2
 else
 (bif decide (b6.ft=2) then
 some 1
 else
 some 3)))))
structure fb where
 State:Int
 bW:Int
 hF:Int
 Drop:Int
 deriving DecidableEq,Inhabited
structure Act where
 Kind:Int
 N:Int
 deriving DecidableEq,Inhabited
def e3:bK fb:=⟨4,λx=>[ae x.State,ae x.bW,ae x.hF,ae x.Drop],λ_=>rfl,λ_=>dp.bl⟩
instance:Flat e3:=⟨λ_=>rfl⟩
instance:l0 e3:=⟨λx=>(inferInstance:jE [ae x.State,ae x.bW,ae x.hF,ae x.Drop])⟩
instance:gV e3 e3:=⟨rfl,λx=>(inferInstance:dr [ae x.State,ae x.bW,ae x.hF,ae x.Drop] [ae x.State,ae x.bW,ae x.hF,ae x.Drop])⟩
instance {x:fb}:dr (e3.cells x) [ae x.State,ae x.bW,ae x.hF,ae x.Drop]:=(inferInstance:dr [ae x.State,ae x.bW,ae x.hF,ae x.Drop] [ae x.State,ae x.bW,ae x.hF,ae x.Drop])
def x6 (a0:bN) (aD:Cell):Option (Act × (List fb)) :=
 (b2 (R:=List fb) (λ(s1:List fb × Int) =>
 (bif decide (s1.2<(aD.bh.length:Int)) then
 (idx aD.bh 0).bind λbS =>
 (idx aD.bh s1.2).bind λbx =>
 (c' s1.1 [(⟨aD.State,aD.bW,bS,bx⟩:fb)]).bind λbR =>
 some (.inl (s1.1++[(⟨aD.State,aD.bW,bS,bx⟩:fb)],aJ (s1.2+1)))
 else
 some (.inr s1.1))) (([]:List fb),1)).bind λx2 =>
 ((bif aD.lX then
 some (3,0)
 else
 some (1,aD.j8))).bind λfa =>
 (bif decide ((aD.bh.length:Int)=0) then
 some ((⟨fa.1,fa.2⟩:Act),x2)
 else
 (idx aD.bh 0).bind λcq =>
 ((bif decide (aD.j8<0) then some (!aD.lX) else some false)).bind λjK =>
 (bif jK then
 some ((⟨2,cq⟩:Act),x2)
 else
 (C7 a0 cq aD.bW).bind λcQ =>
 ((bif aD.lX then some true else some (decide (cQ=0)))).bind λwS =>
 (bif wS then
 (c' x2 [(⟨aD.State,aD.bW,(-1),cq⟩:fb)]).bind λe2 =>
 some ((⟨fa.1,fa.2⟩:Act),x2++[(⟨aD.State,aD.bW,(-1),cq⟩:fb)])
 else
 (bif decide (cQ=2) then
 some ((⟨2,cq⟩:Act),x2)
 else
 (bif decide (cQ=3) then
 some ((⟨4,0⟩:Act),x2)
 else
 some ((⟨fa.1,fa.2⟩:Act),x2))))))
structure gT where
 cB:(List (List Act))
 dT:(List (List Int))
 deriving DecidableEq,Inhabited
def eD:bK Act:=⟨2,λx=>[ae x.Kind,ae x.N],λ_=>rfl,λ_=>dp.bl⟩
instance:Flat eD:=⟨λ_=>rfl⟩
instance:l0 eD:=⟨λx=>(inferInstance:jE [ae x.Kind,ae x.N])⟩
instance:gV eD eD:=⟨rfl,λx=>(inferInstance:dr [ae x.Kind,ae x.N] [ae x.Kind,ae x.N])⟩
def Af (a0:bN) (aD:(List State)) (a2:(List Cell)):Option (gT × (List fb)) :=
 (b2 (R:=List (List Act) × List (List Int) × List fb) (λ(s1:List (List Act) × List (List Int) × List fb × Int) =>
 (bif decide (s1.2.2.2<(aD.length:Int)) then
 (ni (a0.ba.length:Int) (⟨0,0⟩:Act)).bind λbS =>
 (b2 (R:=List fb × List Act) (λ(da:List fb × List Act × Int) =>
 (bif decide (da.2.2<(a2.length:Int)) then
 ((idx a2 da.2.2).bind λcq =>
 ((bif decide (cq.State=s1.2.2.2) then
 (idx a2 da.2.2).bind λeu =>
 (x6 a0 eu).bind λcQ =>
 (idx a2 da.2.2).bind λcc =>
 (idx da.2.1 cc.bW).bind λbT =>
 (c' da.1 cQ.2).bind λdK =>
 some (da.1++cQ.2,da.2.1.set cc.bW.toNat cQ.1)
 else
 some (da.1,da.2.1))).bind λeN =>
 some (eN.1,eN.2)).bind λjS =>
 some (.inl (jS.1,jS.2,aJ (da.2.2+1)))
 else
 some (.inr (da.1,da.2.1)))) (s1.2.2.1,bS,0)).bind λbR =>
 (ni (a0.b0.length:Int) 0).bind λe2 =>
 (b2 (R:=List Int) (λ(qG:List Int × Int) =>
 (bif decide (qG.2<(qG.1.length:Int)) then
 (rm aD s1.2.2.2 (aJ (1000+qG.2))).bind λgg =>
 (idx qG.1 qG.2).bind λhV =>
 some (.inl (qG.1.set qG.2.toNat gg,aJ (qG.2+1)))
 else
 some (.inr qG.1))) (e2,0)).bind λev =>
 (c' s1.1 [bR.2]).bind λgA =>
 (c' s1.2.1 [ev]).bind λdZ =>
 some (.inl (s1.1++[bR.2],s1.2.1++[ev],bR.1,aJ (s1.2.2.2+1)))
 else
 some (.inr (s1.1,s1.2.1,s1.2.2.1)))) (([]:List (List Act)),([]:List (List Int)),([]:List fb),0)).bind λx2 =>
 some ((⟨x2.1,x2.2.1⟩:gT),x2.2.2)
def CW (a0:(List Cell)):Option (Int) :=
 (b2 (R:=Int) (λ(s1:Int × Int) =>
 (bif decide (s1.2<(a0.length:Int)) then
 ((idx a0 s1.2).bind λbx =>
 (Ah bx).bind λbR =>
 ((bif decide (1<bR) then
 some (aJ (s1.1+1))
 else
 some s1.1)).bind λfa =>
 some fa).bind λkX =>
 some (.inl (kX,aJ (s1.2+1)))
 else
 some (.inr s1.1))) (0,0)).bind λx2 =>
 some x2
def sl (a0:Source):Option (bN × gT × Int × Bool) :=
 (vX a0).bind λa8 =>
 (bif !a8.2.2.2 then
 some (a8.1,(⟨([]:List (List Act)),([]:List (List Int))⟩:gT),0,false)
 else
 (Af a8.1 a8.2.1 a8.2.2.1).bind λa7 =>
 (CW a8.2.2.1).bind λbs =>
 some (a8.1,a7.1,bs,true))
structure b4 where
 At:Int
 b8:Int
 deriving DecidableEq,Inhabited
def bQ:bK b4:=⟨2,λx=>[ae x.At,ae x.b8],λ_=>rfl,λ_=>dp.bl⟩
instance:Flat bQ:=⟨λ_=>rfl⟩
instance:l0 bQ:=⟨λx=>(inferInstance:jE [ae x.At,ae x.b8])⟩
instance:gV bQ bQ:=⟨rfl,λx=>(inferInstance:dr [ae x.At,ae x.b8] [ae x.At,ae x.b8])⟩
def Am (a0:(List (List b4))):Option (Bool) :=
 (bif decide (400<(a0.length:Int)) then
 some false
 else
 (b2 (R:=(Unit) ⊕ (Bool)) (λ(s2:Int) =>
 (bif decide (s2<(a0.length:Int)) then
 (idx a0 s2).bind λbR =>
 (b2 (R:=(Unit) ⊕ (Bool)) (λ(dC:List Bool × Int) =>
 (bif decide (dC.2<(bR.length:Int)) then
 (idx bR dC.2).bind λcg =>
 ((bif decide (cg.At<0) then some true else (bif decide (1000<=cg.At) then some true else ((xx 1000 dC.1 cg.At).bind λcc=>some cc)))).bind λwS =>
 (bif wS then
 some (.inr (.inr false))
 else
 (xx 1000 dC.1 cg.At).bind λe2 =>
 some (.inl (dC.1.set cg.At.toNat true,aJ (dC.2+1))))
 else
 some (.inr (.inl ())))) ((List.replicate 1000 false),0)).bind λcv =>
 (match cv with
 | .inl bJ =>
 some (.inl (aJ (s2+1)))
 | .inr cq =>
 some (.inr (.inr cq)))
 else
 some (.inr (.inl ())))) 0).bind λa7 =>
 (match a7 with
 | .inl bs =>
 some true
 | .inr bS =>
 some bS))
def v8 (a0:Int):Option (Bool) :=
 some (!decide (a0=a0))
def uB (a0:Int) (aD:Int):Option (Int) :=
 (v8 a0).bind λa8 =>
 (v8 aD).bind λx2 =>
 (bif a8 then
 (bif x2 then
 some 0
 else
 some (-1))
 else
 (bif x2 then
 some 1
 else
 (bif decide (a0<aD) then
 some (-1)
 else
 (bif decide (aD<a0) then
 some 1
 else
 some 0))))
def C8 (a0:(List Int)):Option (Int) :=
 (b2 (R:=(Unit) ⊕ (Int)) (λ(s1:Int) =>
 (bif decide (s1<(a0.length:Int)) then
 (idx a0 s1).bind λbx =>
 (bif !decide (bx=0) then
 some (.inr (.inr bx))
 else
 some (.inl (aJ (s1+1))))
 else
 some (.inr (.inl ())))) 0).bind λx2 =>
 (match x2 with
 | .inl a7 =>
 some 0
 | .inr bs =>
 some bs)
def v7 (a0:Int) (aD:Int) (ph:(List (List b4))):Option (Int) :=
 (idx ph aD).bind λa8 =>
 (idx ph a0).bind λx2 =>
 (uB (a8.length:Int) (x2.length:Int)).bind λa7 =>
 (uB a0 aD).bind λbs =>
 (C8 [a7,bs]).bind λbS =>
 some bS
def De (a0:b4) (ph:Int) (c1:(List Int)):Option (Bool) :=
 ((bif decide (aJ (ph+a0.At)<(c1.length:Int)) then ((idx c1 (aJ (ph+a0.At))).bind λx2=>some (!decide (x2=0))) else some false)).bind λjU =>
 some jU
def FC (a0:(List b4)) (qZ:Int) (q0:(List Int)):Option (Int) :=
 (b2 (R:=(Unit) ⊕ (Int)) (λ(s1:Int) =>
 (bif decide (s1<(a0.length:Int)) then
 (idx a0 s1).bind λbx =>
 (De bx qZ q0).bind λbR =>
 (bif bR then
 some (.inr (.inr s1))
 else
 some (.inl (aJ (s1+1))))
 else
 some (.inr (.inl ())))) 0).bind λx2 =>
 (match x2 with
 | .inl a7 =>
 some (-1)
 | .inr bs =>
 some bs)
def FE (a0:(List b4)) (qZ:Int) (q0:(List Int)):Option (Bool) :=
 (FC a0 qZ q0).bind λa8 =>
 some (decide (0<=a8))
def x9 (a0:(List Int)) (aD:(List b4)) (a2:Int):Option (Bool) :=
 (FE aD a2 a0).bind λa8 =>
 some (!a8)
structure fz where
 cS:(List Int)
 b8:(List Int)
 b3:(List Int)
 deriving DecidableEq,Inhabited
def lJ:bK fz:=⟨3,λx=>[ag ai x.cS,ag ai x.b8,ag ai x.b3],λ_=>rfl,λ_=>dp.bl⟩
instance:Flat lJ:=⟨λ_=>rfl⟩
instance:gV lJ lJ:=⟨rfl,λx=>(inferInstance:dr [ag ai x.cS,ag ai x.b8,ag ai x.b3] [ag ai x.cS,ag ai x.b8,ag ai x.b3])⟩
instance {x:fz}:dr (lJ.cells x) [ag ai x.cS,ag ai x.b8,ag ai x.b3]:=(inferInstance:dr [ag ai x.cS,ag ai x.b8,ag ai x.b3] [ag ai x.cS,ag ai x.b8,ag ai x.b3])
def rR:bK fz:=⟨3,λx=>[ak ai x.cS,ak ai x.b8,ak ai x.b3],λ_=>rfl,λ_=>dp.bl⟩
instance:l0 rR:=⟨λx=>(inferInstance:jE [ak ai x.cS,ak ai x.b8,ak ai x.b3])⟩
instance {x:fz}:dr (rR.cells x) [ag ai x.cS,ag ai x.b8,ag ai x.b3]:=(inferInstance:dr [ak ai x.cS,ak ai x.b8,ak ai x.b3] [ag ai x.cS,ag ai x.b8,ag ai x.b3])
def Ai (a0:(List (List b4))):Option (fz) :=
 (Am a0).bind λa8 =>
 (bif !a8 then
 some (⟨([]:List Int),([]:List Int),([]:List Int)⟩:fz)
 else
 (ni (a0.length:Int) 0).bind λa7 =>
 (b2 (R:=List Int) (λ(cY:List Int × Int) =>
 (bif decide (cY.2<(a0.length:Int)) then
 ((idx a0 cY.2).bind λcv =>
 ((bif decide (0<(cv.length:Int)) then
 (c' cY.1 [cY.2]).bind λet =>
 some (cY.1++[cY.2])
 else
 some cY.1)).bind λjS =>
 some jS).bind λfa =>
 some (.inl (fa,aJ (cY.2+1)))
 else
 some (.inr cY.1))) (([]:List Int),0)).bind λbS =>
 (pW (λa b=>v7 a b a0) bS).bind λcg =>
 (b2 (R:=fz) (λ(e1:fz × Int) =>
 (bif decide (e1.2<(cg.length:Int)) then
 (idx cg e1.2).bind λdK =>
 (b2 (R:=List Int) (λ(dd:List Int) =>
 (idx a0 dK).bind λfZ =>
 (idx dd dK).bind λfj =>
 (x9 e1.1.b3 fZ fj).bind λgg =>
 (bif !gg then
 (idx dd dK).bind λgA =>
 some (.inl (dd.set dK.toNat (aJ (gA+1))))
 else
 some (.inr dd))) e1.1.cS).bind λdN =>
 (idx a0 dK).bind λdZ =>
 (b2 (R:=List Int × List Int) (λ(kF:List Int × List Int × Int) =>
 (bif decide (kF.2.2<(dZ.length:Int)) then
 (idx dZ kF.2.2).bind λcP =>
 (idx dN dK).bind λe6 =>
 (b2 (R:=List Int × List Int) (λ(ea:List Int × List Int) =>
 (bif decide ((ea.2.length:Int)<=aJ (e6+cP.At)) then
 (c' ea.2 [0]).bind λc0 =>
 (c' ea.1 [0]).bind λgh =>
 some (.inl (ea.1++[0],ea.2++[0]))
 else
 some (.inr (ea.1,ea.2)))) (kF.1,kF.2.1)).bind λeg =>
 (idx eg.2 (aJ (e6+cP.At))).bind λp0 =>
 (idx eg.1 (aJ (e6+cP.At))).bind λjD =>
 some (.inl (eg.1.set (aJ (e6+cP.At)).toNat cP.b8,eg.2.set (aJ (e6+cP.At)).toNat (aJ (dK+1)),aJ (kF.2.2+1)))
 else
 some (.inr (kF.1,kF.2.1)))) (e1.1.b8,e1.1.b3,0)).bind λej =>
 some (.inl ((⟨dN,ej.1,ej.2⟩:fz),aJ (e1.2+1)))
 else
 some (.inr e1.1))) ((⟨a7,([]:List Int),([]:List Int)⟩:fz),0)).bind λcQ =>
 some cQ)
structure Row where
 Def:Int
 fm:(List b4)
 deriving DecidableEq,Inhabited
def jM:bK Row:=⟨2,λx=>[ae x.Def,ag bQ x.fm],λ_=>rfl,λ_=>dp.bl⟩
instance:Flat jM:=⟨λ_=>rfl⟩
instance:gV jM jM:=⟨rfl,λx=>(inferInstance:dr [ae x.Def,ag bQ x.fm] [ae x.Def,ag bQ x.fm])⟩
def x3 (a0:(List Row)):Option ((List Int) × fz) :=
 (b2 (R:=List Int × List (List b4)) (λ(s1:List Int × List (List b4) × Int) =>
 (bif decide (s1.2.2<(a0.length:Int)) then
 (idx a0 s1.2.2).bind λbS =>
 (c' s1.1 [bS.Def]).bind λbx =>
 (c' s1.2.1 [bS.fm]).bind λbR =>
 some (.inl (s1.1++[bS.Def],s1.2.1++[bS.fm],aJ (s1.2.2+1)))
 else
 some (.inr (s1.1,s1.2.1)))) (([]:List Int),([]:List (List b4)),0)).bind λx2 =>
 (Ai x2.2).bind λb6 =>
 some (x2.1,b6)
def vZ (a0:(List Int)):Option (Int) :=
 (b2 (R:=Int) (λ(s1:(List (Int × Int)) × Int × Int) =>
 (bif decide (s1.2.2<(a0.length:Int)) then
 ((idx a0 s1.2.2).bind λbx =>
 (si sg 0 s1.1 bx).bind λbR =>
 (zQ sg s1.1 bx (aJ (bR+1))).bind λb6 =>
 (si sg 0 b6 bx).bind λcv =>
 (si sg 0 b6 s1.2.1).bind λbJ =>
 ((bif decide (s1.2.1<0) then some true else (bif decide (0<aJ (cv - bJ)) then some true else (bif decide (aJ (cv - bJ)=0) then some (decide (bx<s1.2.1)) else some false)))).bind λoG =>
 ((bif oG then
 some bx
 else
 some s1.2.1)).bind λoi =>
 some (b6,oi)).bind λkX =>
 some (.inl (kX.1,kX.2,aJ (s1.2.2+1)))
 else
 some (.inr s1.2.1))) (([]:List (Int × Int)),(-1),0)).bind λx2 =>
 some x2
def Aj (a0:Act):Option (Int) :=
 ((bif decide (a0.Kind=1) then (bif decide (0<=a0.N) then some (decide (a0.N<20000)) else some false) else some false)).bind λjU =>
 (bif jU then
 some (aJ (a0.N+1))
 else
 ((bif decide (a0.Kind=2) then (bif decide (0<a0.N) then some (decide (a0.N<20000)) else some false) else some false)).bind λkQ =>
 (bif kQ then
 some (aJ (-a0.N))
 else
 ((bif decide (a0.Kind=3) then some (decide (a0.N=0)) else some false)).bind λik =>
 (bif ik then
 some 20001
 else
 ((bif decide (a0.Kind=4) then some (decide (a0.N=0)) else some false)).bind λjK =>
 (bif jK then
 some 20002
 else
 some 0))))
def CX (a0:gT):Option ((List Row)) :=
 (b2 (R:=List Row) (λ(s1:List Row × Int) =>
 (bif decide (s1.2<(a0.cB.length:Int)) then
 (idx a0.cB s1.2).bind λbS =>
 (b2 (R:=List Int) (λ(da:List Int × Int) =>
 (bif decide (da.2<(bS.length:Int)) then
 ((idx bS da.2).bind λcq =>
 ((bif decide (cq.Kind=2) then
 (c' da.1 [cq.N]).bind λeu =>
 some (da.1++[cq.N])
 else
 some da.1)).bind λeN =>
 some eN).bind λjS =>
 some (.inl (jS,aJ (da.2+1)))
 else
 some (.inr da.1))) (([]:List Int),0)).bind λbR =>
 (vZ bR).bind λcQ =>
 (b2 (R:=List b4) (λ(np:List b4 × Int) =>
 (bif decide (np.2<(bS.length:Int)) then
 ((idx bS np.2).bind λev =>
 ((bif !decide (ev.Kind=0) then (bif !decide (ev.Kind=2) then some true else some (!decide (ev.N=cQ))) else some false)).bind λnz =>
 ((bif nz then
 (Aj ev).bind λdZ =>
 (c' np.1 [(⟨np.2,dZ⟩:b4)]).bind λcW =>
 some (np.1++[(⟨np.2,dZ⟩:b4)])
 else
 some np.1)).bind λoT =>
 some oT).bind λxC =>
 some (.inl (xC,aJ (np.2+1)))
 else
 some (.inr np.1))) (([]:List b4),0)).bind λbT =>
 (c' s1.1 [(⟨cQ,bT⟩:Row)]).bind λej =>
 some (.inl (s1.1++[(⟨cQ,bT⟩:Row)],aJ (s1.2+1)))
 else
 some (.inr s1.1))) (([]:List Row),0)).bind λx2 =>
 some x2
def CY (a0:gT):Option ((List Row)) :=
 (bif decide ((a0.dT.length:Int)=0) then
 some ([]:List Row)
 else
 (idx a0.dT 0).bind λx2 =>
 (b2 (R:=List Row) (λ(ec:List Row × Int) =>
 (bif decide (ec.2<(x2.length:Int)) then
 (b2 (R:=List Int) (λ(ds:List Int × Int) =>
 (bif decide (ds.2<(a0.dT.length:Int)) then
 ((idx a0.dT ds.2).bind λet =>
 (idx et ec.2).bind λcg =>
 ((bif decide (0<=cg) then
 (idx et ec.2).bind λcc =>
 (c' ds.1 [cc]).bind λbT =>
 some (ds.1++[cc])
 else
 some ds.1)).bind λdc =>
 some dc).bind λjw =>
 some (.inl (jw,aJ (ds.2+1)))
 else
 some (.inr ds.1))) (([]:List Int),0)).bind λb6 =>
 (vZ b6).bind λdK =>
 (b2 (R:=List b4) (λ(dd:List b4 × Int) =>
 (bif decide (dd.2<(a0.dT.length:Int)) then
 ((idx a0.dT dd.2).bind λgg =>
 (((idx gg ec.2).bind λhV=>(bif decide (0<=hV) then ((idx gg ec.2).bind λdZ=>some (!decide (dZ=dK))) else some false))).bind λwT =>
 ((bif wT then
 (idx gg ec.2).bind λkl =>
 (c' dd.1 [(⟨dd.2,kl⟩:b4)]).bind λcP =>
 some (dd.1++[(⟨dd.2,kl⟩:b4)])
 else
 some dd.1)).bind λuq =>
 some uq).bind λJA =>
 some (.inl (JA,aJ (dd.2+1)))
 else
 some (.inr dd.1))) (([]:List b4),0)).bind λdN =>
 (c' ec.1 [(⟨dK,dN⟩:Row)]).bind λe6 =>
 some (.inl (ec.1++[(⟨dK,dN⟩:Row)],aJ (ec.2+1)))
 else
 some (.inr ec.1))) (([]:List Row),0)).bind λbs =>
 some bs)
def C3 (a0:b4) (aD:b4):Option (Int) :=
 (uB a0.At aD.At).bind λa8 =>
 some a8
def Ag (a0:bN):Option ((List b4)) :=
 (b2 (R:=List b4) (λ(s1:List b4 × Int) =>
 (bif decide (s1.2<(a0.ba.length:Int)) then
 ((idx a0.ba s1.2).bind λbx =>
 ((bif decide (0<bx.bP) then
 (c' s1.1 [(⟨bx.bP,s1.2⟩:b4)]).bind λcv =>
 some (s1.1++[(⟨bx.bP,s1.2⟩:b4)])
 else
 some s1.1)).bind λkZ =>
 some kZ).bind λkX =>
 some (.inl (kX,aJ (s1.2+1)))
 else
 some (.inr s1.1))) (([]:List b4),0)).bind λx2 =>
 (pW (λa b=>C3 a b) x2).bind λbJ =>
 some bJ
structure Tables where
 Def:(List Int)
 cB:fz
 jn:(List Int)
 gC:fz
 Left:(List Int)
 mK:(List Int)
 nt:(List b4)
 deriving DecidableEq,Inhabited
def q4:bK Tables:=⟨11,λx=>[ag ai x.Def,ag ai x.cB.cS,ag ai x.cB.b8,ag ai x.cB.b3,ag ai x.jn,ag ai x.gC.cS,ag ai x.gC.b8,ag ai x.gC.b3,ag ai x.Left,ag ai x.mK,ag bQ x.nt],λ_=>rfl,λ_=>dp.bl⟩
instance:Flat q4:=⟨λ_=>rfl⟩
instance:gV q4 q4:=⟨rfl,λx=>(inferInstance:dr [ag ai x.Def,ag ai x.cB.cS,ag ai x.cB.b8,ag ai x.cB.b3,ag ai x.jn,ag ai x.gC.cS,ag ai x.gC.b8,ag ai x.gC.b3,ag ai x.Left,ag ai x.mK,ag bQ x.nt] [ag ai x.Def,ag ai x.cB.cS,ag ai x.cB.b8,ag ai x.cB.b3,ag ai x.jn,ag ai x.gC.cS,ag ai x.gC.b8,ag ai x.gC.b3,ag ai x.Left,ag ai x.mK,ag bQ x.nt])⟩
instance {x:Tables}:dr (q4.cells x) [ag ai x.Def,ag ai x.cB.cS,ag ai x.cB.b8,ag ai x.cB.b3,ag ai x.jn,ag ai x.gC.cS,ag ai x.gC.b8,ag ai x.gC.b3,ag ai x.Left,ag ai x.mK,ag bQ x.nt]:=(inferInstance:dr [ag ai x.Def,ag ai x.cB.cS,ag ai x.cB.b8,ag ai x.cB.b3,ag ai x.jn,ag ai x.gC.cS,ag ai x.gC.b8,ag ai x.gC.b3,ag ai x.Left,ag ai x.mK,ag bQ x.nt] [ag ai x.Def,ag ai x.cB.cS,ag ai x.cB.b8,ag ai x.cB.b3,ag ai x.jn,ag ai x.gC.cS,ag ai x.gC.b8,ag ai x.gC.b3,ag ai x.Left,ag ai x.mK,ag bQ x.nt])
def uy (a0:bN) (aD:gT):Option (Tables) :=
 (CX aD).bind λa8 =>
 (x3 a8).bind λx2 =>
 (CY aD).bind λa7 =>
 (x3 a7).bind λbs =>
 (b2 (R:=List Int × List Int) (λ(cm:List Int × List Int × Int) =>
 (bif decide (cm.2.2<(a0.bh.length:Int)) then
 (idx a0.bh cm.2.2).bind λcv =>
 (c' cm.1 [cv.Left]).bind λbJ =>
 (c' cm.2.1 [(cv.eI.length:Int)]).bind λcq =>
 some (.inl (cm.1++[cv.Left],cm.2.1++[(cv.eI.length:Int)],aJ (cm.2.2+1)))
 else
 some (.inr (cm.1,cm.2.1)))) (([]:List Int),([]:List Int),0)).bind λbx =>
 (Ag a0).bind λet =>
 some (⟨x2.1,x2.2,bs.1,bs.2,bx.1,bx.2,et⟩:Tables)
def rl (a0:fz) (aD:Int) (a2:Int):Option (Int × Bool) :=
 ((bif decide (aD<0) then some true else (bif decide ((a0.cS.length:Int)<=aD) then some true else (bif decide (a2<0) then some true else some (decide ((a0.b3.length:Int)<=a2)))))).bind λc4 =>
 (bif c4 then
 some (0,false)
 else
 (idx a0.cS aD).bind λbx =>
 ((bif decide ((a0.b3.length:Int)<=aJ (bx+a2)) then some true else ((idx a0.b3 (aJ (bx+a2))).bind λb6=>some (!decide (b6=aJ (aD+1)))))).bind λoI =>
 (bif oI then
 some (0,false)
 else
 (idx a0.b8 (aJ (bx+a2))).bind λcq =>
 some (cq,true)))
def x4 (a0:Int):Option (Act) :=
 ((bif decide (0<a0) then some (decide (a0<=20000)) else some false)).bind λc2 =>
 (bif c2 then
 some (⟨1,aJ (a0 - 1)⟩:Act)
 else
 ((bif decide (a0<0) then some (decide ((-20000)<a0)) else some false)).bind λkP =>
 (bif kP then
 some (⟨2,aJ (-a0)⟩:Act)
 else
 (bif decide (a0=20001) then
 some (⟨3,0⟩:Act)
 else
 (bif decide (a0=20002) then
 some (⟨4,0⟩:Act)
 else
 some (⟨0,0⟩:Act)))))
def oq (a0:Tables) (aD:Int) (a2:Int):Option (Act) :=
 (rl a0.cB aD a2).bind λa8 =>
 (bif a8.2 then
 (x4 a8.1).bind λa7 =>
 some a7
 else
 ((bif decide (aD<0) then some true else (bif decide ((a0.Def.length:Int)<=aD) then some true else ((idx a0.Def aD).bind λbx=>some (decide (bx<0)))))).bind λkQ =>
 (bif kQ then
 some (⟨0,0⟩:Act)
 else
 (idx a0.Def aD).bind λcv =>
 some (⟨2,cv⟩:Act)))
def s8 (a0:Tables) (aD:Int) (a2:Int):Option (Int) :=
 (rl a0.gC a2 aD).bind λa8 =>
 (bif a8.2 then
 some a8.1
 else
 ((bif decide (a2<0) then some true else some (decide ((a0.jn.length:Int)<=a2)))).bind λc4 =>
 (bif c4 then
 some (-1)
 else
 (idx a0.jn a2).bind λbx =>
 some bx))
def oY (a0:(List Int)) (aD:(List Int)):Option (Bool) :=
 (bif !decide ((a0.length:Int)=(aD.length:Int)) then
 some false
 else
 (b2 (R:=(Unit) ⊕ (Bool)) (λ(s2:Int) =>
 (bif decide (s2<(a0.length:Int)) then
 (idx a0 s2).bind λbR =>
 (idx aD s2).bind λb6 =>
 (bif !decide (bR=b6) then
 some (.inr (.inr false))
 else
 some (.inl (aJ (s2+1))))
 else
 some (.inr (.inl ())))) 0).bind λa7 =>
 (match a7 with
 | .inl bs =>
 some true
 | .inr bS =>
 some bS))
def ya :Option (Bool) :=
 (sl (⟨⟨#[]⟩,([]:List Decl),[(⟨⟨#[101]⟩,[(⟨[(⟨(⟨⟨#[101]⟩,false,0,0⟩:Sym),⟨#[]⟩,0⟩:Part),(⟨(⟨⟨#[43]⟩,true,0,0⟩:Sym),⟨#[]⟩,0⟩:Part),(⟨(⟨⟨#[120]⟩,true,0,0⟩:Sym),⟨#[]⟩,0⟩:Part)],(⟨⟨#[]⟩,false,0,0⟩:Sym),0⟩:Alt),(⟨[(⟨(⟨⟨#[120]⟩,true,0,0⟩:Sym),⟨#[]⟩,0⟩:Part)],(⟨⟨#[]⟩,false,0,0⟩:Sym),0⟩:Alt)],0⟩:e9)],⟨#[]⟩⟩:Source)).bind λa8 =>
 (uy a8.1 a8.2.1).bind λx2 =>
 ((bif a8.2.2.2 then ((oY x2.Def [(-1),2,(-1),(-1),1]).bind λbs=>(bif bs then ((oY x2.jn [(-1),2]).bind λbx=>(bif bx then ((oY x2.Left [0,1,1]).bind λb6=>(bif b6 then ((oY x2.mK [1,3,1]).bind λbJ=>(bif bJ then (bif decide ((x2.nt.length:Int)=2) then ((oq x2 1 4).bind λcg=>(bif (decide (cg.Kind=2)&&(decide (cg.N=2)&&true)) then ((oq x2 0 4).bind λcQ=>(bif (decide (cQ.Kind=1)&&(decide (cQ.N=1)&&true)) then ((oq x2 0 3).bind λbT=>(bif (decide (bT.Kind=0)&&(decide (bT.N=0)&&true)) then ((oq x2 9 0).bind λe2=>(bif (decide (e2.Kind=0)&&(decide (e2.N=0)&&true)) then ((s8 x2 0 1).bind λev=>(bif decide (ev=2) then ((s8 x2 0 7).bind λfj=>some (decide (fj=(-1)))) else some false)) else some false)) else some false)) else some false)) else some false)) else some false) else some false)) else some false)) else some false)) else some false)) else some false)).bind λnz =>
 some nz
def s9 (a0:ByteArray) (aD:Int):Option (ByteArray) :=
 (bif decide (aD<(a0.size:Int)) then
 (q3 a0 0 aD).bind λx2 =>
 some x2
 else
 some a0)
def x1 (a0:Sym):Option (Sym) :=
 (s9 a0.Name 25).bind λa8 =>
 some (⟨a8,a0.Lit,a0.bP,a0.At⟩:Sym)
def Ap (a0:Source):Option (Source) :=
 (s9 a0.cx 40).bind λa8 =>
 (s9 a0.cF 40).bind λx2 =>
 (b2 (R:=List Decl) (λ(ec:List Decl × Int) =>
 ((bif decide (ec.2<(a0.Decls.length:Int)) then some (decide (ec.2<8)) else some false)).bind λkQ =>
 (bif kQ then
 (idx a0.Decls ec.2).bind λcv =>
 (idx a0.Decls ec.2).bind λbJ =>
 (s9 bJ.Tag 25).bind λcq =>
 (idx a0.Decls ec.2).bind λet =>
 (b2 (R:=List Sym) (λ(fJ:List Sym × Int) =>
 (((idx a0.Decls ec.2).bind λcc=>(bif decide (fJ.2<(cc.eJ.length:Int)) then some (decide (fJ.2<6)) else some false))).bind λny =>
 (bif ny then
 (idx a0.Decls ec.2).bind λdN =>
 (idx dN.eJ fJ.2).bind λev =>
 (x1 ev).bind λfZ =>
 (c' fJ.1 [fZ]).bind λfj =>
 some (.inl (fJ.1++[fZ],aJ (fJ.2+1)))
 else
 some (.inr fJ.1))) (([]:List Sym),0)).bind λeu =>
 (c' ec.1 [(⟨cv.Kind,cq,eu,et.At⟩:Decl)]).bind λgg =>
 some (.inl (ec.1++[(⟨cv.Kind,cq,eu,et.At⟩:Decl)],aJ (ec.2+1)))
 else
 some (.inr ec.1))) (([]:List Decl),0)).bind λbs =>
 (b2 (R:=List e9) (λ(kj:List e9 × Int) =>
 ((bif decide (kj.2<(a0.dG.length:Int)) then some (decide (kj.2<6)) else some false)).bind λqc =>
 (bif qc then
 (idx a0.dG kj.2).bind λkl =>
 (s9 kl.Left 25).bind λcP =>
 (idx a0.dG kj.2).bind λe6 =>
 (b2 (R:=List Alt) (λ(ea:List Alt × Int) =>
 (((idx a0.dG kj.2).bind λj4=>(bif decide (ea.2<(j4.eF.length:Int)) then some (decide (ea.2<5)) else some false))).bind λwU =>
 (bif wU then
 (idx a0.dG kj.2).bind λjD =>
 (idx jD.eF ea.2).bind λhl =>
 (x1 hl.Prec).bind λfM =>
 (idx a0.dG kj.2).bind λwk =>
 (idx wk.eF ea.2).bind λp1 =>
 (b2 (R:=List Part) (λ(ry:List Part × Int) =>
 (((idx a0.dG kj.2).bind λrF=>((idx rF.eF ea.2).bind λDC=>(bif decide (ry.2<(DC.ho.length:Int)) then some (decide (ry.2<6)) else some false)))).bind λHi =>
 (bif Hi then
 (idx a0.dG kj.2).bind λK7 =>
 (idx K7.eF ea.2).bind λkI =>
 (idx kI.ho ry.2).bind λnX =>
 (x1 nX.Sym).bind λp3 =>
 (s9 nX.Code 60).bind λnY =>
 (c' ry.1 [(⟨p3,nY,nX.At⟩:Part)]).bind λAL =>
 some (.inl (ry.1++[(⟨p3,nY,nX.At⟩:Part)],aJ (ry.2+1)))
 else
 some (.inr ry.1))) (([]:List Part),0)).bind λnW =>
 (c' ea.1 [(⟨nW,fM,p1.At⟩:Alt)]).bind λQI =>
 some (.inl (ea.1++[(⟨nW,fM,p1.At⟩:Alt)],aJ (ea.2+1)))
 else
 some (.inr ea.1))) (([]:List Alt),0)).bind λeg =>
 (c' kj.1 [(⟨cP,eg,e6.At⟩:e9)]).bind λQJ =>
 some (.inl (kj.1++[(⟨cP,eg,e6.At⟩:e9)],aJ (kj.2+1)))
 else
 some (.inr kj.1))) (([]:List e9),0)).bind λgA =>
 some (⟨a8,bs,gA,x2⟩:Source)
def vV (a0:Int) (aD:Int):Option (Int) :=
 (rr a0 aD).bind λa8 =>
 ((bif decide (a8<0) then
 some (aJ (a8+aD))
 else
 some a8)).bind λJz =>
 some Jz
def Kj :Option (ByteArray) :=
 some (⟨#[112,113,114,115]⟩)
def vW (a0:Int):Option (Sym) :=
 (Kj ).bind λa8 =>
 (rr a0 4).bind λx2 =>
 (rr a0 4).bind λa7 =>
 (q3 a8 x2 (aJ (a7+1))).bind λbs =>
 some (⟨bs,true,0,0⟩:Sym)
def mn:bK Decl:=⟨4,λx=>[ae x.Kind,ay x.Tag,ak dz x.eJ,ae x.At],λ_=>rfl,λ_=>dp.bl⟩
instance:gV mn du:=⟨rfl,λx=>(inferInstance:dr [ae x.Kind,ay x.Tag,ak dz x.eJ,ae x.At] [ae x.Kind,ay x.Tag,ag dz x.eJ,ae x.At])⟩
instance {x:Decl}:dr (mn.cells x) [ae x.Kind,ay x.Tag,ag dz x.eJ,ae x.At]:=(inferInstance:dr [ae x.Kind,ay x.Tag,ak dz x.eJ,ae x.At] [ae x.Kind,ay x.Tag,ag dz x.eJ,ae x.At])
def Ad (a0:(List Int)):Option ((List Decl)) :=
 (b2 (R:=List Decl) (λ(s1:List Decl × Int) =>
 ((bif decide (s1.2<(a0.length:Int)) then some (decide (s1.2<4)) else some false)).bind λkP =>
 (bif kP then
 ((idx a0 s1.2).bind λb6 =>
 (vV b6 8).bind λcv =>
 (rr cv 4).bind λbJ =>
 (bif decide (bJ=0) then
 some s1.1
 else
 ((bif decide (4<cv) then some (decide (0<(s1.1.length:Int))) else some false)).bind λjK =>
 (bif jK then
 (idx s1.1 (aJ ((s1.1.length:Int) - 1))).bind λcQ =>
 (vW s1.2).bind λcc =>
 (c' cQ.eJ [cc]).bind λbT =>
 some (s1.1.set (aJ ((s1.1.length:Int) - 1)).toNat (⟨cQ.Kind,cQ.Tag,cQ.eJ++[cc],cQ.At⟩:Decl))
 else
 (rr cv 4).bind λdK =>
 (vW s1.2).bind λe2 =>
 (c' s1.1 [(⟨aJ (1+dK),⟨#[]⟩,[e2],0⟩:Decl)]).bind λdN =>
 some (s1.1++[(⟨aJ (1+dK),⟨#[]⟩,[e2],0⟩:Decl)])))).bind λkZ =>
 some (.inl (kZ,aJ (s1.2+1)))
 else
 some (.inr s1.1))) (([]:List Decl),0)).bind λx2 =>
 some x2
def Ae (a0:Int):Option (ByteArray) :=
 some (strOfNums [yx (aJ (97+a0))])
def CV (a0:Int) (aD:Int):Option (Sym) :=
 (vV a0 14).bind λa8 =>
 (bif decide (a8<5) then
 (rr a8 aD).bind λa7 =>
 (Ae a7).bind λbs =>
 some (⟨bs,false,0,0⟩:Sym)
 else
 (bif decide (a8=13) then
 some (⟨⟨#[101,114,114,111,114]⟩,false,0,0⟩:Sym)
 else
 (vW (aJ (a8 - 5))).bind λbx =>
 some bx))
structure th where
 b0:Int
 dG:(List (List Int))
 tn:(List Int)
 pb:(List Int)
 wx:Bool
 deriving DecidableEq,Inhabited
def sB:bK th:=⟨5,λx=>[ae x.b0,ag (bq ai) x.dG,ag ai x.tn,ag ai x.pb,a_ x.wx],λ_=>rfl,λ_=>dp.bl⟩
instance:Flat sB:=⟨λ_=>rfl⟩
instance:gV sB sB:=⟨rfl,λx=>(inferInstance:dr [ae x.b0,ag (bq ai) x.dG,ag ai x.tn,ag ai x.pb,a_ x.wx] [ae x.b0,ag (bq ai) x.dG,ag ai x.tn,ag ai x.pb,a_ x.wx])⟩
instance {x:th}:dr (sB.cells x) [ae x.b0,ag (bq ai) x.dG,ag ai x.tn,ag ai x.pb,a_ x.wx]:=(inferInstance:dr [ae x.b0,ag (bq ai) x.dG,ag ai x.tn,ag ai x.pb,a_ x.wx] [ae x.b0,ag (bq ai) x.dG,ag ai x.tn,ag ai x.pb,a_ x.wx])
def fL:bK e9:=⟨3,λx=>[ay x.Left,ak eV x.eF,ae x.At],λ_=>rfl,λ_=>dp.bl⟩
instance:gV fL gr:=⟨rfl,λx=>(inferInstance:dr [ay x.Left,ak eV x.eF,ae x.At] [ay x.Left,ag eV x.eF,ae x.At])⟩
instance {x:e9}:dr (fL.cells x) [ay x.Left,ag eV x.eF,ae x.At]:=(inferInstance:dr [ay x.Left,ak eV x.eF,ae x.At] [ay x.Left,ag eV x.eF,ae x.At])
def xV (a0:th):Option (Source) :=
 (vV a0.b0 4).bind λa8 =>
 (Ad a0.tn).bind λx2 =>
 (ni (aJ (1+a8)) false).bind λa7 =>
 (b2 (R:=List e9) (λ(cY:List e9 × Int) =>
 (bif decide (cY.2<aJ (1+a8)) then
 (Ae cY.2).bind λb6 =>
 (c' cY.1 [(⟨b6,([]:List Alt),0⟩:e9)]).bind λcv =>
 some (.inl (cY.1++[(⟨b6,([]:List Alt),0⟩:e9)],aJ (cY.2+1)))
 else
 some (.inr cY.1))) (([]:List e9),0)).bind λbS =>
 (b2 (R:=List e9 × List Bool) (λ(fg:List e9 × List Bool × Int) =>
 ((bif decide (fg.2.2<(a0.dG.length:Int)) then some (decide (fg.2.2<9)) else some false)).bind λoG =>
 (bif oG then
 ((idx a0.dG fg.2.2).bind λbT =>
 (bif decide ((bT.length:Int)=0) then
 some (fg.1,fg.2.1)
 else
 (idx a0.dG fg.2.2).bind λe2 =>
 (idx e2 0).bind λdN =>
 (vV dN (aJ (1+a8))).bind λev =>
 (b2 (R:=List Part × Bool) (λ(iH:List Part × Bool × Int) =>
 (((idx a0.dG fg.2.2).bind λhV=>(bif decide (iH.2.2<(hV.length:Int)) then some (decide (iH.2.2<5)) else some false))).bind λHh =>
 (bif Hh then
 ((idx a0.dG fg.2.2).bind λhW =>
 (idx hW iH.2.2).bind λkl =>
 (CV kl (aJ (1+a8))).bind λcP =>
 ((bif iH.2.1 then (bif cP.Lit then some true else some (decide (cP.Name=⟨#[101,114,114,111,114]⟩))) else some false)).bind λtF =>
 (c' iH.1 [(⟨cP,⟨#[]⟩,0⟩:Part)]).bind λnV =>
 ((bif decide (fg.2.2<(a0.pb.length:Int)) then (bif decide (iH.2.2=1) then ((idx a0.pb fg.2.2).bind λgh=>((rr gh 3).bind λp0=>some (decide (p0=1)))) else some false) else some false)).bind λzb =>
 ((bif zb then
 (c' (iH.1++[(⟨cP,⟨#[]⟩,0⟩:Part)]) [(⟨(⟨⟨#[]⟩,false,0,0⟩:Sym),⟨#[123,36,36,32,61,32,36,49,125]⟩,0⟩:Part)]).bind λwk =>
 some ((iH.1++[(⟨cP,⟨#[]⟩,0⟩:Part)])++[(⟨(⟨⟨#[]⟩,false,0,0⟩:Sym),⟨#[123,36,36,32,61,32,36,49,125]⟩,0⟩:Part)])
 else
 some (iH.1++[(⟨cP,⟨#[]⟩,0⟩:Part)]))).bind λJE =>
 some (JE,tF)).bind λuq =>
 some (.inl (uq.1,uq.2,aJ (iH.2.2+1)))
 else
 some (.inr (iH.1,iH.2.1)))) (([]:List Part),true,1)).bind λfj =>
 ((bif decide (fg.2.2<(a0.pb.length:Int)) then ((idx a0.pb fg.2.2).bind λow=>((rr ow 2).bind λnW=>some (!decide (nW=0)))) else some false)).bind λBb =>
 ((bif Bb then
 (c' fj.1 [(⟨(⟨⟨#[]⟩,false,0,0⟩:Sym),⟨#[123,102,40,36,36,41,125]⟩,0⟩:Part)]).bind λwo =>
 some (fj.1++[(⟨(⟨⟨#[]⟩,false,0,0⟩:Sym),⟨#[123,102,40,36,36,41,125]⟩,0⟩:Part)])
 else
 some fj.1)).bind λoU =>
 (((idx fg.2.1 ev).bind λp2=>(bif p2 then some (fg.2.1.set ev.toNat true) else some (fg.2.1.set ev.toNat fj.2)))).bind λzc =>
 (idx fg.1 ev).bind λkI =>
 (c' kI.eF [(⟨oU,(⟨⟨#[]⟩,false,0,0⟩:Sym),0⟩:Alt)]).bind λnX =>
 some (fg.1.set ev.toNat (⟨kI.Left,kI.eF++[(⟨oU,(⟨⟨#[]⟩,false,0,0⟩:Sym),0⟩:Alt)],kI.At⟩:e9),zc))).bind λmy =>
 some (.inl (my.1,my.2,aJ (fg.2.2+1)))
 else
 some (.inr (fg.1,fg.2.1)))) (bS,a7,0)).bind λcq =>
 (b2 (R:=List e9) (λ(jg:List e9 × Int) =>
 (bif decide (jg.2<aJ (1+a8)) then
 ((((idx jg.1 jg.2).bind λwq=>(bif decide ((wq.eF.length:Int)=0) then some true else ((idx cq.2 jg.2).bind λK8=>(bif !K8 then some (!a0.wx) else some false))))).bind λBc =>
 ((bif Bc then
 (idx jg.1 jg.2).bind λkJ =>
 (vW jg.2).bind λkK =>
 (c' kJ.eF [(⟨[(⟨kK,⟨#[]⟩,0⟩:Part)],(⟨⟨#[]⟩,false,0,0⟩:Sym),0⟩:Alt)]).bind λDD =>
 some (jg.1.set jg.2.toNat (⟨kJ.Left,kJ.eF++[(⟨[(⟨kK,⟨#[]⟩,0⟩:Part)],(⟨⟨#[]⟩,false,0,0⟩:Sym),0⟩:Alt)],kJ.At⟩:e9))
 else
 some jg.1)).bind λJI =>
 some JI).bind λJH =>
 some (.inl (JH,aJ (jg.2+1)))
 else
 some (.inr jg.1))) (cq.1,0)).bind λnY =>
 some (⟨⟨#[]⟩,x2,nY,⟨#[]⟩⟩:Source)
def FD (a0:fz) (aD:fz):Option (Bool) :=
 (((oY a0.cS aD.cS).bind λa8=>(bif a8 then ((oY a0.b8 aD.b8).bind λa7=>(bif a7 then ((oY a0.b3 aD.b3).bind λbS=>some bS) else some false)) else some false))).bind λoH =>
 some oH
def Kg (a0:(List b4)) (aD:(List b4)):Option (Bool) :=
 (bif !decide ((a0.length:Int)=(aD.length:Int)) then
 some false
 else
 (b2 (R:=(Unit) ⊕ (Bool)) (λ(s2:Int) =>
 (bif decide (s2<(a0.length:Int)) then
 (idx a0 s2).bind λbR =>
 (idx aD s2).bind λb6 =>
 (bif !(decide (bR.At=b6.At)&&(decide (bR.b8=b6.b8)&&true)) then
 some (.inr (.inr false))
 else
 some (.inl (aJ (s2+1))))
 else
 some (.inr (.inl ())))) 0).bind λa7 =>
 (match a7 with
 | .inl bs =>
 some true
 | .inr bS =>
 some bS))
def PA (a0:Tables) (aD:Tables):Option (Bool) :=
 (((oY a0.Def aD.Def).bind λa8=>(bif a8 then ((FD a0.cB aD.cB).bind λa7=>(bif a7 then ((oY a0.jn aD.jn).bind λbS=>(bif bS then ((FD a0.gC aD.gC).bind λbR=>(bif bR then ((oY a0.Left aD.Left).bind λcv=>(bif cv then ((oY a0.mK aD.mK).bind λcq=>(bif cq then ((Kg a0.nt aD.nt).bind λcg=>some cg) else some false)) else some false)) else some false)) else some false)) else some false)) else some false))).bind λoG =>
 some oG
def vY (a0:(List Int)):Option (Int) :=
 (b2 (R:=List Int) (λ(s1:List Int × Int) =>
 (bif decide (s1.2<(a0.length:Int)) then
 (idx a0 s1.2).bind λbS =>
 (pT s1.1 bS).bind λbx =>
 some (.inl (bx,aJ (s1.2+1)))
 else
 some (.inr s1.1))) (([]:List Int),0)).bind λx2 =>
 (b2 (R:=Int) (λ(ds:Int × Int × Int) =>
 (bif decide (ds.2.2<(x2.length:Int)) then
 ((b2 (R:=Int) (λ(uF:Int × Int) =>
 (bif decide (uF.2<(a0.length:Int)) then
 ((idx a0 uF.2).bind λbT =>
 (idx x2 ds.2.2).bind λdK =>
 ((bif decide (bT=dK) then
 some (aJ (uF.1+1))
 else
 some uF.1)).bind λe_ =>
 some e_).bind λmy =>
 some (.inl (my,aJ (uF.2+1)))
 else
 some (.inr uF.1))) (0,0)).bind λcg =>
 ((bif decide (ds.2.1<cg) then
 (idx x2 ds.2.2).bind λfj =>
 some (fj,cg)
 else
 some (ds.1,ds.2.1))).bind λnQ =>
 some (nQ.1,nQ.2)).bind λjw =>
 some (.inl (jw.1,jw.2,aJ (ds.2.2+1)))
 else
 some (.inr ds.1))) ((-1),0,0)).bind λb6 =>
 some b6
def mD (a0:Act):Option (Int) :=
 ((bif decide (a0.Kind=1) then (bif decide (0<=a0.N) then some (decide (a0.N<=19999)) else some false) else some false)).bind λjU =>
 (bif jU then
 some (aJ (a0.N+1))
 else
 ((bif decide (a0.Kind=2) then (bif decide (1<=a0.N) then some (decide (a0.N<=19999)) else some false) else some false)).bind λkQ =>
 (bif kQ then
 some (aJ (-a0.N))
 else
 ((bif decide (a0.Kind=3) then some (decide (a0.N=0)) else some false)).bind λik =>
 (bif ik then
 some 20001
 else
 ((bif decide (a0.Kind=4) then some (decide (a0.N=0)) else some false)).bind λjK =>
 (bif jK then
 some 20002
 else
 some 0))))
def Ab (a0:gT):Option ((List Row)) :=
 (b2 (R:=List Row) (λ(s1:List Row × Int) =>
 (bif decide (s1.2<(a0.cB.length:Int)) then
 (b2 (R:=List Int) (λ(cm:List Int × Int) =>
 (idx a0.cB s1.2).bind λb6 =>
 (bif decide (cm.2<(b6.length:Int)) then
 ((idx a0.cB s1.2).bind λcq =>
 (idx cq cm.2).bind λet =>
 ((bif decide (et.Kind=2) then
 (idx a0.cB s1.2).bind λcQ =>
 (idx cQ cm.2).bind λcc =>
 (c' cm.1 [cc.N]).bind λbT =>
 some (cm.1++[cc.N])
 else
 some cm.1)).bind λiG =>
 some iG).bind λjS =>
 some (.inl (jS,aJ (cm.2+1)))
 else
 some (.inr cm.1))) (([]:List Int),0)).bind λbx =>
 (vY bx).bind λdK =>
 (b2 (R:=List b4) (λ(dd:List b4 × Int) =>
 (idx a0.cB s1.2).bind λfZ =>
 (bif decide (dd.2<(fZ.length:Int)) then
 ((idx a0.cB s1.2).bind λhV =>
 (idx hV dd.2).bind λgA =>
 ((bif !decide (gA.Kind=0) then (bif !decide (gA.Kind=2) then some true else some (!decide (gA.N=dK))) else some false)).bind λqc =>
 ((bif qc then
 (mD gA).bind λcP =>
 (c' dd.1 [(⟨dd.2,cP⟩:b4)]).bind λe6 =>
 some (dd.1++[(⟨dd.2,cP⟩:b4)])
 else
 some dd.1)).bind λxE =>
 some xE).bind λxD =>
 some (.inl (xD,aJ (dd.2+1)))
 else
 some (.inr dd.1))) (([]:List b4),0)).bind λdN =>
 (c' s1.1 [(⟨dK,dN⟩:Row)]).bind λkm =>
 some (.inl (s1.1++[(⟨dK,dN⟩:Row)],aJ (s1.2+1)))
 else
 some (.inr s1.1))) (([]:List Row),0)).bind λx2 =>
 some x2
def Ac (a0:gT):Option ((List Row)) :=
 (b2 (R:=List Row) (λ(s1:List Row × Int) =>
 ((bif decide (0<(a0.dT.length:Int)) then ((idx a0.dT 0).bind λbS=>some (decide (s1.2<(bS.length:Int)))) else some false)).bind λoH =>
 (bif oH then
 (b2 (R:=List Int) (λ(dC:List Int × Int) =>
 (bif decide (dC.2<(a0.dT.length:Int)) then
 ((idx a0.dT dC.2).bind λcg =>
 (idx cg s1.2).bind λeu =>
 ((bif decide (0<=eu) then
 (idx a0.dT dC.2).bind λbT =>
 (idx bT s1.2).bind λdK =>
 (c' dC.1 [dK]).bind λe2 =>
 some (dC.1++[dK])
 else
 some dC.1)).bind λoi =>
 some oi).bind λeN =>
 some (.inl (eN,aJ (dC.2+1)))
 else
 some (.inr dC.1))) (([]:List Int),0)).bind λcv =>
 (vY cv).bind λdN =>
 (b2 (R:=List b4) (λ(rv:List b4 × Int) =>
 (bif decide (rv.2<(a0.dT.length:Int)) then
 ((idx a0.dT rv.2).bind λgA =>
 (idx gA s1.2).bind λdZ =>
 ((bif decide (0<=dZ) then some (!decide (dZ=dN)) else some false)).bind λqc =>
 ((bif qc then
 (c' rv.1 [(⟨rv.2,dZ⟩:b4)]).bind λcP =>
 some (rv.1++[(⟨rv.2,dZ⟩:b4)])
 else
 some rv.1)).bind λxE =>
 some xE).bind λoT =>
 some (.inl (oT,aJ (rv.2+1)))
 else
 some (.inr rv.1))) (([]:List b4),0)).bind λfZ =>
 (c' s1.1 [(⟨dN,fZ⟩:Row)]).bind λe6 =>
 some (.inl (s1.1++[(⟨dN,fZ⟩:Row)],aJ (s1.2+1)))
 else
 some (.inr s1.1))) (([]:List Row),0)).bind λx2 =>
 some x2
def CZ (a0:(List Row)):Option ((List Int) × (List (List b4))) :=
 (b2 (R:=List Int × List (List b4)) (λ(s1:List Int × List (List b4) × Int) =>
 (bif decide (s1.2.2<(a0.length:Int)) then
 (idx a0 s1.2.2).bind λbS =>
 (c' s1.1 [bS.Def]).bind λbx =>
 (idx a0 s1.2.2).bind λbR =>
 (c' s1.2.1 [bR.fm]).bind λb6 =>
 some (.inl (s1.1++[bS.Def],s1.2.1++[bR.fm],aJ (s1.2.2+1)))
 else
 some (.inr (s1.1,s1.2.1)))) (([]:List Int),([]:List (List b4)),0)).bind λx2 =>
 some (x2.1,x2.2)
def Kl (a0:(List (List b4))):Option (Bool) :=
 (bif decide (400<(a0.length:Int)) then
 some false
 else
 (b2 (R:=(Unit) ⊕ (Bool)) (λ(s2:Int) =>
 (bif decide (s2<(a0.length:Int)) then
 (b2 (R:=(Unit) ⊕ (Bool)) (λ(ds:List Int × Int) =>
 (idx a0 s2).bind λcq =>
 (bif decide (ds.2<(cq.length:Int)) then
 (((idx a0 s2).bind λcg=>((idx cg ds.2).bind λeu=>(bif decide (eu.At<0) then some true else ((idx a0 s2).bind λcc=>((idx cc ds.2).bind λbT=>(bif decide (999<bT.At) then some true else ((idx a0 s2).bind λe2=>((idx e2 ds.2).bind λdN=>((x8 ds.1 dN.At).bind λev=>some ev)))))))))).bind λHd =>
 (bif Hd then
 some (.inr (.inr false))
 else
 (idx a0 s2).bind λgg =>
 (idx gg ds.2).bind λhV =>
 (c' ds.1 [hV.At]).bind λgA =>
 some (.inl (ds.1++[hV.At],aJ (ds.2+1))))
 else
 some (.inr (.inl ())))) (([]:List Int),0)).bind λb6 =>
 (match b6 with
 | .inl cv =>
 some (.inl (aJ (s2+1)))
 | .inr bJ =>
 some (.inr (.inr bJ)))
 else
 some (.inr (.inl ())))) 0).bind λa7 =>
 (match a7 with
 | .inl bs =>
 some true
 | .inr bS =>
 some bS))
def Km (a0:(List Int)) (aD:(List b4)) (a2:Int):Option (Bool) :=
 (b2 (R:=(Unit) ⊕ (Bool)) (λ(s1:Int) =>
 (bif decide (s1<(aD.length:Int)) then
 (idx aD s1).bind λbx =>
 ((bif decide (aJ (a2+bx.At)<(a0.length:Int)) then ((idx a0 (aJ (a2+bx.At))).bind λb6=>some (!decide (b6=0))) else some false)).bind λoI =>
 (bif oI then
 some (.inr (.inr false))
 else
 some (.inl (aJ (s1+1))))
 else
 some (.inr (.inl ())))) 0).bind λx2 =>
 (match x2 with
 | .inl a7 =>
 some true
 | .inr bs =>
 some bs)
def C0 (a0:(List (List b4))):Option (fz) :=
 (Kl a0).bind λa8 =>
 (bif !a8 then
 some (⟨([]:List Int),([]:List Int),([]:List Int)⟩:fz)
 else
 (ni (a0.length:Int) 0).bind λa7 =>
 (ni (a0.length:Int) false).bind λbs =>
 (b2 (R:=(Unit) ⊕ (fz)) (λ(cm:fz × List Bool) =>
 (b2 (R:=Int) (λ(ib:Int × Int) =>
 (bif decide (ib.2<(a0.length:Int)) then
 ((((idx cm.2 ib.2).bind λeu=>(bif !eu then ((idx a0 ib.2).bind λcc=>(bif decide (0<(cc.length:Int)) then (bif decide (ib.1<0) then some true else ((idx a0 ib.2).bind λe2=>((idx a0 ib.1).bind λdN=>some (decide ((dN.length:Int)<(e2.length:Int)))))) else some false)) else some false))).bind λq2 =>
 ((bif q2 then
 some ib.2
 else
 some ib.1)).bind λmz =>
 some mz).bind λiG =>
 some (.inl (iG,aJ (ib.2+1)))
 else
 some (.inr ib.1))) ((-1),0)).bind λbJ =>
 (bif decide (bJ<0) then
 some (.inr (.inr cm.1))
 else
 (idx cm.2 bJ).bind λhV =>
 (b2 (R:=List Int) (λ(o0:List Int) =>
 (idx a0 bJ).bind λej =>
 (idx o0 bJ).bind λhW =>
 (Km cm.1.b3 ej hW).bind λkl =>
 (bif !kl then
 (idx o0 bJ).bind λe6 =>
 some (.inl (o0.set bJ.toNat (aJ (e6+1))))
 else
 some (.inr o0))) cm.1.cS).bind λdZ =>
 (b2 (R:=List Int × List Int) (λ(ea:List Int × List Int × Int) =>
 (idx a0 bJ).bind λj4 =>
 (bif decide (ea.2.2<(j4.length:Int)) then
 (idx dZ bJ).bind λgh =>
 (idx a0 bJ).bind λp0 =>
 (idx p0 ea.2.2).bind λjD =>
 (b2 (R:=List Int × List Int) (λ(kk:List Int × List Int) =>
 (bif decide ((kk.2.length:Int)<=aJ (gh+jD.At)) then
 (c' kk.2 [0]).bind λow =>
 (c' kk.1 [0]).bind λnW =>
 some (.inl (kk.1++[0],kk.2++[0]))
 else
 some (.inr (kk.1,kk.2)))) (ea.1,ea.2.1)).bind λfM =>
 (idx a0 bJ).bind λwm =>
 (idx wm ea.2.2).bind λrF =>
 (idx fM.2 (aJ (gh+jD.At))).bind λDC =>
 (idx fM.1 (aJ (gh+jD.At))).bind λwo =>
 some (.inl (fM.1.set (aJ (gh+jD.At)).toNat rF.b8,fM.2.set (aJ (gh+jD.At)).toNat (aJ (bJ+1)),aJ (ea.2.2+1)))
 else
 some (.inr (ea.1,ea.2.1)))) (cm.1.b8,cm.1.b3,0)).bind λeg =>
 some (.inl ((⟨dZ,eg.1,eg.2⟩:fz),cm.2.set bJ.toNat true)))) ((⟨a7,([]:List Int),([]:List Int)⟩:fz),bs)).bind λbx =>
 (match bx with
 | .inl bR =>
 none
 | .inr b6 =>
 some b6))
def Ki (a0:bN):Option ((List b4)) :=
 (b2 (R:=List Int) (λ(s1:List Int × Int) =>
 (bif decide (s1.2<(a0.ba.length:Int)) then
 ((idx a0.ba s1.2).bind λbx =>
 ((bif decide (0<bx.bP) then
 (idx a0.ba s1.2).bind λcv =>
 (pT s1.1 cv.bP).bind λbJ =>
 some bJ
 else
 some s1.1)).bind λkZ =>
 some kZ).bind λkX =>
 some (.inl (kX,aJ (s1.2+1)))
 else
 some (.inr s1.1))) (([]:List Int),0)).bind λx2 =>
 (b2 (R:=List b4) (λ(jB:List b4 × Int) =>
 (bif decide (jB.2<(x2.length:Int)) then
 (b2 (R:=List b4) (λ(ha:List b4 × Int) =>
 (bif decide (ha.2<(a0.ba.length:Int)) then
 ((idx a0.ba ha.2).bind λdN =>
 (idx x2 jB.2).bind λev =>
 ((bif decide (dN.bP=ev) then
 (idx x2 jB.2).bind λgg =>
 (c' ha.1 [(⟨gg,ha.2⟩:b4)]).bind λhV =>
 some (ha.1++[(⟨gg,ha.2⟩:b4)])
 else
 some ha.1)).bind λmz =>
 some mz).bind λe_ =>
 some (.inl (e_,aJ (ha.2+1)))
 else
 some (.inr ha.1))) (jB.1,0)).bind λcc =>
 some (.inl (cc,aJ (jB.2+1)))
 else
 some (.inr jB.1))) (([]:List b4),0)).bind λet =>
 some et
def Kf (a0:bN) (aD:gT):Option (Tables) :=
 (Ab aD).bind λa8 =>
 (CZ a8).bind λx2 =>
 (C0 x2.2).bind λa7 =>
 (Ac aD).bind λbs =>
 (CZ bs).bind λbS =>
 (C0 bS.2).bind λbx =>
 (b2 (R:=List Int × List Int) (λ(ds:List Int × List Int × Int) =>
 (bif decide (ds.2.2<(a0.bh.length:Int)) then
 (idx a0.bh ds.2.2).bind λcq =>
 (c' ds.1 [cq.Left]).bind λet =>
 (idx a0.bh ds.2.2).bind λcg =>
 (c' ds.2.1 [(cg.eI.length:Int)]).bind λeu =>
 some (.inl (ds.1++[cq.Left],ds.2.1++[(cg.eI.length:Int)],aJ (ds.2.2+1)))
 else
 some (.inr (ds.1,ds.2.1)))) (([]:List Int),([]:List Int),0)).bind λb6 =>
 (Ki a0).bind λcQ =>
 some (⟨x2.1,a7,bS.1,bx,b6.1,b6.2,cQ⟩:Tables)
def s7 (a0:(List b4)) (aD:Int):Option (Int × Bool) :=
 (b2 (R:=(Unit) ⊕ (Int × Bool)) (λ(s1:Int) =>
 (bif decide (s1<(a0.length:Int)) then
 (idx a0 s1).bind λbx =>
 (bif decide (bx.At=aD) then
 (idx a0 s1).bind λb6 =>
 some (.inr (.inr (b6.b8,true)))
 else
 some (.inl (aJ (s1+1))))
 else
 some (.inr (.inl ())))) 0).bind λx2 =>
 (match x2 with
 | .inl a7 =>
 some (0,false)
 | .inr bs =>
 some (bs.1,bs.2))
def s_ (a0:Int):Option (Act) :=
 ((bif decide (1<=a0) then some (decide (a0<=20000)) else some false)).bind λc2 =>
 (bif c2 then
 some (⟨1,aJ (a0 - 1)⟩:Act)
 else
 ((bif decide (a0<=(-1)) then some (decide ((-19999)<=a0)) else some false)).bind λkP =>
 (bif kP then
 some (⟨2,aJ (-a0)⟩:Act)
 else
 (bif decide (a0=20001) then
 some (⟨3,0⟩:Act)
 else
 (bif decide (a0=20002) then
 some (⟨4,0⟩:Act)
 else
 some (⟨0,0⟩:Act)))))
def vU (a0:gT) (aD:(List Row)) (a2:Int) (a3:Int):Option (Act) :=
 ((bif decide (a2<0) then some true else some (decide ((aD.length:Int)<=a2)))).bind λc2 =>
 (bif c2 then
 some (⟨0,0⟩:Act)
 else
 (idx aD a2).bind λbs =>
 (s7 bs.fm a3).bind λbS =>
 (bif bS.2 then
 (s_ bS.1).bind λbR =>
 some bR
 else
 (idx aD a2).bind λb6 =>
 (bif decide (0<=b6.Def) then
 (idx aD a2).bind λbJ =>
 some (⟨2,bJ.Def⟩:Act)
 else
 some (⟨0,0⟩:Act))))
def Kh (a0:th) (aD:Int) (a2:Int):Option (Bool) :=
 (ya ).bind λa8 =>
 (bif !a8 then
 some false
 else
 (xV a0).bind λa7 =>
 (sl a7).bind λbs =>
 (bif !bs.2.2.2 then
 some true
 else
 (uy bs.1 bs.2.1).bind λbx =>
 (Ab bs.2.1).bind λbR =>
 (b2 (R:=(Unit) ⊕ (Bool)) (λ(dC:Int) =>
 (bif decide (dC<=(bs.2.1.cB.length:Int)) then
 (b2 (R:=(Unit) ⊕ (Bool)) (λ(fJ:Int) =>
 (bif decide (fJ<=aJ ((bs.1.ba.length:Int)+2)) then
 (oq bx dC fJ).bind λdK =>
 (vU bs.2.1 bR dC fJ).bind λe2 =>
 (bif !(decide (dK.Kind=e2.Kind)&&(decide (dK.N=e2.N)&&true)) then
 some (.inr (.inr false))
 else
 some (.inl (aJ (fJ+1))))
 else
 some (.inr (.inl ())))) (-2)).bind λeu =>
 (match eu with
 | .inl cQ =>
 (oq bx dC a2).bind λev =>
 (vU bs.2.1 bR dC a2).bind λfZ =>
 (bif !(decide (ev.Kind=fZ.Kind)&&(decide (ev.N=fZ.N)&&true)) then
 some (.inr (.inr false))
 else
 some (.inl (aJ (dC+1))))
 | .inr cc =>
 some (.inr (.inr cc)))
 else
 some (.inr (.inl ())))) (-1)).bind λcv =>
 (match cv with
 | .inl bJ =>
 (oq bx aD a2).bind λgg =>
 (vU bs.2.1 bR aD a2).bind λhV =>
 some (decide (gg.Kind=hV.Kind)&&(decide (gg.N=hV.N)&&true))
 | .inr cq =>
 some cq)))
def Kk (a0:th) (aD:Int) (a2:Int):Option (Bool) :=
 (ya ).bind λa8 =>
 (bif !a8 then
 some false
 else
 (xV a0).bind λa7 =>
 (sl a7).bind λbs =>
 (bif !bs.2.2.2 then
 some true
 else
 (uy bs.1 bs.2.1).bind λbx =>
 (Ac bs.2.1).bind λbR =>
 (b2 (R:=(Unit) ⊕ (Bool)) (λ(dC:Int) =>
 (bif decide (dC<=(bR.length:Int)) then
 (b2 (R:=List Int) (λ(fJ:List Int × Int) =>
 (bif decide (fJ.2<(bs.2.1.cB.length:Int)) then
 (c' fJ.1 [fJ.2]).bind λbT =>
 some (.inl (fJ.1++[fJ.2],aJ (fJ.2+1)))
 else
 some (.inr fJ.1))) ([aD,(-1),(bs.2.1.cB.length:Int)],0)).bind λeu =>
 (b2 (R:=(Unit) ⊕ (Bool)) (λ(oZ:Int) =>
 (bif decide (oZ<(eu.length:Int)) then
 ((bif decide (0<=dC) then some (decide (dC<(bR.length:Int))) else some false)).bind λnz =>
 ((bif nz then
 (idx bR dC).bind λdZ =>
 (idx eu oZ).bind λcW =>
 (s7 dZ.fm cW).bind λej =>
 (idx bR dC).bind λhW =>
 ((bif ej.2 then
 some ej.1
 else
 some hW.Def)).bind λur =>
 some ur
 else
 some (-1))).bind λoT =>
 (idx eu oZ).bind λe6 =>
 (s8 bx e6 dC).bind λkm =>
 (bif !decide (km=oT) then
 some (.inr (.inr false))
 else
 some (.inl (aJ (oZ+1))))
 else
 some (.inr (.inl ())))) 0).bind λe2 =>
 (match e2 with
 | .inl dN =>
 some (.inl (aJ (dC+1)))
 | .inr ev =>
 some (.inr (.inr ev)))
 else
 some (.inr (.inl ())))) (-1)).bind λcv =>
 (match cv with
 | .inl bJ =>
 ((bif decide (0<=a2) then (bif decide (a2<(bR.length:Int)) then some true else ((s8 bx aD a2).bind λc0=>some (decide (c0=(-1))))) else ((s8 bx aD a2).bind λgh=>some (decide (gh=(-1)))))).bind λSm =>
 some Sm
 | .inr cq =>
 some cq)))
def C4 (a0:Source):Option (Bool) :=
 (ya ).bind λa8 =>
 (bif !a8 then
 some false
 else
 (Ap a0).bind λa7 =>
 (sl a7).bind λbs =>
 (bif !bs.2.2.2 then
 some true
 else
 (uy bs.1 bs.2.1).bind λbx =>
 ((bif !decide ((bx.Def.length:Int)=(bs.2.1.cB.length:Int)) then some true else some (!decide ((bx.jn.length:Int)=(bs.1.b0.length:Int))))).bind λqd =>
 (bif qd then
 some false
 else
 (b2 (R:=(Unit) ⊕ (Bool)) (λ(fg:Int) =>
 (bif decide (fg<(bs.2.1.cB.length:Int)) then
 (b2 (R:=(Unit) ⊕ (Bool)) (λ(ha:Int) =>
 (bif decide (ha<(bs.1.ba.length:Int)) then
 (idx bs.2.1.cB fg).bind λdN =>
 (idx dN ha).bind λev =>
 ((bif decide (ev.Kind=0) then ((idx bx.Def fg).bind λfj=>some (!decide (fj=(-1)))) else some false)).bind λnz =>
 ((bif nz then
 (idx bx.Def fg).bind λdZ =>
 some (2,dZ)
 else
 some (ev.Kind,ev.N))).bind λoT =>
 (oq bx fg ha).bind λcW =>
 (bif !(decide (cW.Kind=oT.1)&&(decide (cW.N=oT.2)&&true)) then
 some (.inr (.inr false))
 else
 some (.inl (aJ (ha+1))))
 else
 some (.inr (.inl ())))) 0).bind λcc =>
 (match cc with
 | .inl bT =>
 (b2 (R:=(Unit) ⊕ (Bool)) (λ(yk:Int) =>
 (bif decide (yk<(bs.1.b0.length:Int)) then
 (idx bs.2.1.dT fg).bind λeg =>
 (idx eg yk).bind λnV =>
 ((bif decide (nV=(-1)) then
 (idx bx.jn yk).bind λgh =>
 some gh
 else
 some nV)).bind λxF =>
 (s8 bx fg yk).bind λp0 =>
 (bif !decide (p0=xF) then
 some (.inr (.inr false))
 else
 some (.inl (aJ (yk+1))))
 else
 some (.inr (.inl ())))) 0).bind λkl =>
 (match kl with
 | .inl cP =>
 some (.inl (aJ (fg+1)))
 | .inr e6 =>
 some (.inr (.inr e6)))
 | .inr dK =>
 some (.inr (.inr dK)))
 else
 some (.inr (.inl ())))) 0).bind λcq =>
 (match cq with
 | .inl et =>
 some true
 | .inr cg =>
 some cg))))
end Go.Proofs
namespace Go.Own
open Go
variable {α β S R:Type}
abbrev hn (p:S->Prop) (q:R->Prop) (x:S ⊕ R):Prop:=Sum.elim p q x
def Tot (x:Option α) (Φ:α->Prop):Prop:=∃ a,x=some a/\Φ a
namespace Tot
variable {Φ Ψ:α->Prop}
theorem aq {a:α}(h:Φ a):Tot (some a) Φ:=⟨a,rfl,h⟩
theorem bi {x:Option β}{f:β->Option α}(h:Tot x λa=>Tot (f a) Φ):Tot (x.bind f) Φ:=by
 obtain ⟨a,rfl,b,av,nO⟩:=h;exact ⟨b,av,nO⟩
theorem aV {f:β->Option α}{a:β}(h:Tot (f a) Φ):Tot ((some a).bind f) Φ:=h
theorem use {x:Option α}(h:Tot x Ψ) (hi:∀ a,Ψ a->Φ a):Tot x Φ:=by
 obtain ⟨a,aP,Jr⟩:=h;exact ⟨a,aP,hi a Jr⟩
theorem aA {x:Option β}{f:β->Option α}{Ξ:β->Prop}(h:Tot x Ξ) (hk:∀ a,Ξ a->Tot (f a) Φ):Tot (x.bind f) Φ:=bi (h.use hk)
theorem bE {c:Bool}{a b:Option α}(aw:c=true->Tot a Φ) (aW:c=false->Tot b Φ):Tot (cond c a b) Φ:=by
 grind
theorem bp {p:Prop} [Decidable p] {a b:Option α}(aw:p->Tot a Φ) (aW:¬ p->Tot b Φ):Tot (cond (decide p) a b) Φ:=by grind
theorem pj {p:Prop} [Decidable p] {a b:Option α}(aw:¬ p->Tot a Φ) (aW:p->Tot b Φ):Tot (cond (!decide p) a b) Φ:=by grind
theorem hr {l:List α}{i:Int}(aQ:0<=i) (h1:i<l.length) (hk:∀ y,idx l i=some y->y∈l->Φ y):Tot (idx l i) Φ:=by
 have aT:i.toNat<l.length:=by omega
 have:idx l i=some l[i.toNat]:=by simp [idx,aQ,aT]
 exact ⟨_,this,hk _ this (List.getElem_mem aT)⟩
theorem ap {Φ:List α->Prop}{l m:List α}(h:l.length+m.length<=lim) (hk:Φ (l++m)):Tot (c' l m) Φ:=by
 refine ⟨l++m,?_,hk⟩
 grind [c']
theorem loop {f:S->Option (S ⊕ R)}{e0:S}{Ψ:R->Prop}(Inv:S->Prop) (uS:S->Nat) (aQ:Inv e0) (Js:uS e0<fuel)
  (aB:∀ s,Inv s->Tot (f s) (hn (λcT=>Inv cT/\uS cT<uS s) Ψ)):Tot (b2 f e0) Ψ:=by
 have key:∀ n s,Inv s->uS s<n->Tot (iter f n s) Ψ:=by
  intro n
  induction n with
  | zero=>intro s _ h; omega
  | succ n aU =>
   intro s bf hm;obtain ⟨x,J,cn⟩:=aB s bf;cases x with
   | inl cT =>
    grind [iter]
   | inr r =>
    simp only [iter,J];exact ⟨r,rfl,cn⟩
 exact key fuel e0 aQ Js
theorem count {f:S->Option (S ⊕ R)}{e0:S}{Ψ:R->Prop}(i:S->Int) (n:Int) (Inv:S->Prop) (aQ:Inv e0) (aF:n - i e0<1000000000000000000)
  (aB:∀ s,Inv s->Tot (f s) (hn (λcT=>Inv cT/\i s<i cT/\i cT<=n) Ψ)):Tot (b2 f e0) Ψ:=by
 refine loop Inv (λs=>(n - i s).toNat) aQ (by show (n - i e0).toNat<1000000000000000000; omega) λs bf=>(aB s bf).use λx J=>?_
 grind
end Tot
theorem cA (n:Int):aJ n=(n+9223372036854775808) % 18446744073709551616 - 9223372036854775808:=IntKind.wrap_i64 n
namespace Tot
theorem cat {Φ:ByteArray->Prop}{s u:ByteArray}(h:s.size+u.size<=4611686018427387904) (hk:Φ (s++u)):Tot (tG s u) Φ:=by
 refine ⟨s++u,?_,hk⟩
 grind [tG]
theorem cut {Φ:ByteArray->Prop}{s:ByteArray}{m n:Int}(h:0<=m/\m<=n/\n<=s.size) (hk:Φ (rP s m n)):Tot (q3 s m n) Φ:=by
 refine ⟨_,?_,hk⟩
 grind [q3]
theorem n5 {Φ:Int->Prop}{s:ByteArray}{m:Int}(h:0<=m/\m<s.size) (hk:Φ (lI s m)):Tot (kt s m) Φ:=by
 refine ⟨_,?_,hk⟩
 grind [kt]
theorem sub {Φ:List α->Prop}{l:List α}{m n:Int}(h:0<=m/\m<=n/\n<=l.length) (hk:Φ ((l.drop m.toNat).take (n - m).toNat)):Tot (nU l m n) Φ:=by
 refine ⟨_,?_,hk⟩
 grind [nU]
theorem rem {Φ:Int->Prop}{m n:Int}(h:n≠0) (hk:Φ (m.tmod n)):Tot (rr m n) Φ:=by
 refine ⟨_,?_,hk⟩
 grind [rr]
theorem quo {Φ:Int->Prop}{m n:Int}(h:n≠0) (hk:Φ (aJ (m.tdiv n))):Tot (FL m n) Φ:=by
 refine ⟨_,?_,hk⟩
 grind [FL]
theorem ru {Φ:Int->Prop}{m n:Int}(h:n≠0) (hk:Φ (m.tmod n)):Tot (Own.ru m n) Φ:=by
 refine ⟨_,?_,hk⟩
 grind [Own.ru]
theorem rp {Φ:Int->Prop}{m n:Int}(h:n≠0) (hk:Φ (IntKind.u64.wrap (m.tdiv n))):Tot (Own.rp m n) Φ:=by
 refine ⟨_,?_,hk⟩
 grind [Own.rp]
theorem mk {Φ:List α->Prop}{m:Int}{z:α}(h:0<=m/\m<=lim) (hk:Φ (List.replicate m.toNat z)):Tot (ni m z) Φ:=by
 refine ⟨_,?_,hk⟩
 grind [ni]
theorem eq {x:Option α}{Φ:α->Prop}{a:α}(h:Tot x Φ) (e:x=some a):Φ a:=by
 obtain ⟨b,av,nO⟩:=h
 grind
theorem ex {x:Option α}{Φ:α->Prop}(h:Tot x Φ):∃ a,x=some a/\Φ a:=h
end Tot
namespace Tot
theorem scan {f:Int->Option (Int ⊕ (Unit ⊕ R))}(l:List β) (P:β->Prop) (Q:R->Prop) (aj:l.length<=100000000000000000)
  (aB:∀ (s:Int) (y:β),0<=s->s<l.length->idx l s=some y->y∈l->Tot (f s) (hn (λcT=>cT=s+1/\P y) (hn (λ_=>False) Q)))
  (he:∀ s:Int,¬ s<l.length->f s=some (.inr (.inl ()))):Tot (b2 f 0) (hn (λ_=>∀ y∈l,P y) Q):=by
 refine count (λs=>s) l.length (λs=>0<=s/\s<=l.length/\∀ (j:Nat) (y:β),(j:Int)<s->l[j]?=some y->P y) ⟨by omega,by omega,λj y h=>by omega⟩ (by show (l.length:Int) - 0<_; omega) λs bf=>?_;obtain ⟨aQ,h1,af⟩:=bf;by_cases aT:s<l.length
 ·have mX:s.toNat<l.length:=by omega
  have hi:idx l s=some l[s.toNat]:=by simp [idx,aQ,mX]
  refine (aB s _ aQ aT hi (List.getElem_mem mX)).use λx J=>?_;rcases x with cT | ⟨⟨⟩⟩ | r
  ·obtain ⟨rfl,cn⟩:=J
   grind
  ·grind
  grind
 ·rw [he s aT];refine aq λy ax=>?_;obtain ⟨j,ah,rfl⟩:=List.mem_iff_getElem.1 ax;exact af j _ (by omega) (List.getElem?_eq_getElem ah)
end Tot
end Go.Own
namespace Go.Own
open Go
variable {α β S R:Type}
def Par (x:Option α) (Φ:α->Prop):Prop:=∀ a,x=some a->Φ a
set_option linter.unusedVariables false
namespace Par
variable {Φ Ψ:α->Prop}
theorem aq {a:α}(h:Φ a):Par (some a) Φ:=λb e=>by cases e; exact h
theorem no:Par (none:Option α) Φ:=λb e=>by cases e
theorem use {x:Option α}(h:Par x Ψ) (hi:∀ a,Ψ a->Φ a):Par x Φ:=λa e=>hi a (h a e)
theorem aA {x:Option β}{f:β->Option α}{Ξ:β->Prop}(h:Par x Ξ) (hk:∀ a,Ξ a->Par (f a) Φ):Par (x.bind f) Φ:=λa e=>by
 cases x with
 | none=>cases e
 | some b=>exact hk b (h b rfl) a e
theorem go {x:Option β}{f:β->Option α}(hk:∀ a,x=some a->Par (f a) Φ):Par (x.bind f) Φ:=λa e=>by
 cases x with
 | none=>cases e
 | some b=>exact hk b rfl a e
theorem bE {c:Bool}{a b:Option α}(aw:c=true->Par a Φ) (aW:c=false->Par b Φ):Par (cond c a b) Φ:=by
 cases c
 ·exact aW rfl
 ·exact aw rfl
theorem bp {p:Prop} [Decidable p] {a b:Option α}(aw:p->Par a Φ) (aW:¬ p->Par b Φ):Par (cond (decide p) a b) Φ :=
 bE (λh=>aw (of_decide_eq_true h)) (λh=>aW (of_decide_eq_false h))
theorem pj {p:Prop} [Decidable p] {a b:Option α}(aw:¬ p->Par a Φ) (aW:p->Par b Φ):Par (cond (!decide p) a b) Φ :=
 bE (λh=>aw (of_decide_eq_false (by simpa using h))) (λh=>aW (of_decide_eq_true (by simpa using h)))
theorem ap {l m:List β}{f:List β->Option α}(hk:l.length+m.length<=lim->Par (f (l++m)) Φ):Par ((c' l m).bind f) Φ:=by
 unfold c';split
 ·rename_i h; exact hk h
 ·exact no
theorem cat {s u:ByteArray}{f:ByteArray->Option α}(hk:Par (f (s++u)) Φ):Par ((tG s u).bind f) Φ:=by
 unfold tG;split
 ·exact hk
 ·exact no
theorem loop {f:S->Option (S ⊕ R)}{e0:S}{Ψ:R->Prop}(Inv:S->Prop) (aQ:Inv e0) (aB:∀ s,Inv s->Par (f s) (hn Inv Ψ)):Par (b2 f e0) Ψ:=by
 have key:∀ n s,Inv s->Par (iter f n s) Ψ:=by
  intro n
  induction n with
  | zero=>intro s _ a e; cases e
  | succ n aU =>
   intro s bf a e;simp only [iter] at e;cases J:f s with
   | none=>rw [J] at e; cases e
   | some x =>
    have cn:=aB s bf x J;rw [J] at e;cases x with
    | inl cT=>exact aU cT cn a e
    | inr r=>cases e; exact cn
 exact key fuel e0 aQ
theorem jj {x:Option α}(h:Tot x Φ) (aR:Par x Ψ):Tot x λa=>Φ a/\Ψ a:=by
 obtain ⟨a,aP,nO⟩:=h;exact ⟨a,aP,nO,aR a aP⟩
theorem of {x:Option α}(h:Tot x Φ):Par x Φ:=λa e=>h.eq e
theorem scan {f:Int->Option (Int ⊕ (Unit ⊕ R))}(l:List β) (aj:l.length<=100000000000000000) (P:β->Prop) (Q:R->Prop)
  (aB:∀ (s:Int) (y:β),0<=s->s<l.length->idx l s=some y->y∈l->Par (f s) (hn (λcT=>cT=s+1/\P y) (hn (λ_=>False) Q)))
  (he:∀ s:Int,¬ s<l.length->f s=some (.inr (.inl ()))):Par (b2 f 0) (hn (λ_=>∀ y∈l,P y) Q):=by
 refine loop (λs=>0<=s/\s<=l.length/\∀ (j:Nat) (y:β),(j:Int)<s->l[j]?=some y->P y) ⟨by omega,by omega,λj y h=>by omega⟩ λs bf=>?_;obtain ⟨aQ,h1,af⟩:=bf;by_cases aT:s<l.length
 ·have mX:s.toNat<l.length:=by omega
  have hi:idx l s=some l[s.toNat]:=by simp [idx,aQ,mX]
  refine (aB s _ aQ aT hi (List.getElem_mem mX)).use λx J=>?_;rcases x with cT | ⟨⟨⟩⟩ | r
  ·obtain ⟨rfl,cn⟩:=J;refine ⟨by omega,by omega,λj y ah ax=>?_⟩;by_cases EG:(j:Int)<s
   ·exact af j y EG ax
   ·have:j=s.toNat:=by omega
    subst this;rw [List.getElem?_eq_getElem mX] at ax;cases ax; exact cn
  ·exact J.elim
  ·exact J
 ·rw [he s aT];refine aq λy ax=>?_;obtain ⟨j,ah,rfl⟩:=List.mem_iff_getElem.1 ax;exact af j _ (by omega) (List.getElem?_eq_getElem ah)
end Par
end Go.Own
namespace Go.Own
open Go
variable {α β S R:Type}
namespace Tot
theorem upto {f:S->Option (S ⊕ R)}{e0:S}{Ψ:R->Prop}(i:S->Int) (n:Nat) (Inv:Nat->S->Prop) (hi:i e0=0) (aF:n<=100000000000000000) (aQ:Inv 0 e0)
  (aB:∀ (k:Nat) (s:S),k<=n->i s=(k:Int)->Inv k s->Tot (f s) (hn (λcT=>k<n/\i cT=((k+1:Nat):Int)/\Inv (k+1) cT) Ψ)):Tot (b2 f e0) Ψ:=by
 refine count i n (λs=>∃ k:Nat,k<=n/\i s=(k:Int)/\Inv k s) ⟨0,Nat.zero_le _,hi,aQ⟩ (by rw [hi]; omega) λs ⟨k,hk,he,bf⟩=>(aB k s hk he bf).use λx J=>?_;rcases x with cT | r
 ·obtain ⟨h1,af,aI⟩:=J;exact ⟨⟨k+1,by omega,af,aI⟩,by omega,by omega⟩
 ·exact J
end Tot
namespace Par
theorem upto {f:S->Option (S ⊕ R)}{e0:S}{Ψ:R->Prop}(i:S->Int) (n:Nat) (Inv:Nat->S->Prop) (hi:i e0=0) (aQ:Inv 0 e0)
  (aB:∀ (k:Nat) (s:S),k<=n->i s=(k:Int)->Inv k s->Par (f s) (hn (λcT=>k<n/\i cT=((k+1:Nat):Int)/\Inv (k+1) cT) Ψ)):Par (b2 f e0) Ψ:=by
 refine loop (λs=>∃ k:Nat,k<=n/\i s=(k:Int)/\Inv k s) ⟨0,Nat.zero_le _,hi,aQ⟩ λs ⟨k,hk,he,bf⟩=>(aB k s hk he bf).use λx J=>?_;rcases x with cT | r
 ·obtain ⟨h1,af,aI⟩:=J;exact ⟨k+1,by omega,af,aI⟩
 ·exact J
end Par
theorem eA (k:Nat) (h:k<=1000000000000000000):aJ ((k:Int)+1)=((k+1:Nat):Int):=by rw [cA]; omega
end Go.Own
namespace Go.Own
open Go
variable {α β AP AQ S T R Q:Type}
def Rel (x:Option α) (y:Option β) (Φ:α->β->Prop):Prop:=∃ a b,x=some a/\y=some b/\Φ a b
abbrev Lv (p:S->T->Prop) (q:R->Q->Prop):S ⊕ R->T ⊕ Q->Prop
 | .inl a,.inl b=>p a b
 | .inr a,.inr b=>q a b
 | _,_=>False
namespace Rel
variable {Φ Ψ:α->β->Prop}
theorem aq {a:α}{b:β}(h:Φ a b):Rel (some a) (some b) Φ:=⟨a,b,rfl,rfl,h⟩
theorem use {x:Option α}{y:Option β}(h:Rel x y Ψ) (hi:∀ a b,Ψ a b->Φ a b):Rel x y Φ:=by
 obtain ⟨a,b,aP,av,Jr⟩:=h;exact ⟨a,b,aP,av,hi a b Jr⟩
theorem aA {x:Option AP}{y:Option AQ}{f:AP->Option α}{g:AQ->Option β}{Ξ:AP->AQ->Prop}(h:Rel x y Ξ) (hk:∀ a b,Ξ a b->Rel (f a) (g b) Φ):Rel (x.bind f) (y.bind g) Φ:=by
 obtain ⟨a,b,rfl,rfl,Ci⟩:=h;exact hk a b Ci
theorem l {x:Option AP}{y:Option β}{f:AP->Option α}{Ξ:AP->Prop}(h:Tot x Ξ) (hk:∀ a,Ξ a->Rel (f a) y Φ):Rel (x.bind f) y Φ:=by
 obtain ⟨a,rfl,Ci⟩:=h;exact hk a Ci
theorem r {x:Option α}{y:Option AQ}{g:AQ->Option β}{Ξ:AQ->Prop}(h:Tot y Ξ) (hk:∀ a,Ξ a->Rel x (g a) Φ):Rel x (y.bind g) Φ:=by
 obtain ⟨a,rfl,Ci⟩:=h;exact hk a Ci
theorem bE {c d:Bool}{a b:Option α}{ca eC:Option β}(aa:c=d) (aw:c=true->Rel a ca Φ) (aW:c=false->Rel b eC Φ):Rel (cond c a b) (cond d ca eC) Φ:=by
 subst aa;cases c
 ·exact aW rfl
 ·exact aw rfl
theorem cl {c:Bool}{a b:Option α}{y:Option β}(aw:c=true->Rel a y Φ) (aW:c=false->Rel b y Φ):Rel (cond c a b) y Φ:=by
 cases c
 ·exact aW rfl
 ·exact aw rfl
theorem jj {x:Option α}{y:Option β}{P:α->Prop}{Q:β->Prop}(h:Tot x P) (aR:Tot y Q) (hi:∀ a b,P a->Q b->Φ a b):Rel x y Φ:=by
 obtain ⟨a,aP,cn⟩:=h;obtain ⟨b,av,dP⟩:=aR;exact ⟨a,b,aP,av,hi a b cn dP⟩
theorem fst {x:Option α}{y:Option β}(h:Rel x y Φ):Tot x λa=>∃ b,y=some b/\Φ a b:=by
 obtain ⟨a,b,aP,av,nO⟩:=h;exact ⟨a,aP,b,av,nO⟩
theorem loop {f:S->Option (S ⊕ R)}{g:T->Option (T ⊕ Q)}{e0:S}{t0:T}{Ψ:R->Q->Prop}(Inv:S->T->Prop) (uS:S->Nat) (aQ:Inv e0 t0) (Js:uS e0<fuel)
  (aB:∀ s t,Inv s t->Rel (f s) (g t) (Lv (λcT t'=>Inv cT t'/\uS cT<uS s) Ψ)):Rel (b2 f e0) (b2 g t0) Ψ:=by
 have key:∀ n s t,Inv s t->uS s<n->Rel (iter f n s) (iter g n t) Ψ:=by
  intro n
  induction n with
  | zero=>intro s t _ h; omega
  | succ n aU =>
   intro s t bf hm;obtain ⟨x,y,J,ax,cn⟩:=aB s t bf;rcases x with cT | r <;> rcases y with t' | q
   ·obtain ⟨h1,af⟩:=cn;simp only [iter,J,ax];exact aU cT t' h1 (by omega)
   ·exact cn.elim
   ·exact cn.elim
   ·simp only [iter,J,ax];exact ⟨r,q,rfl,rfl,cn⟩
 exact key fuel e0 t0 aQ Js
theorem upto {f:S->Option (S ⊕ R)}{g:T->Option (T ⊕ Q)}{e0:S}{t0:T}{Ψ:R->Q->Prop}(i:S->Int) (n:Nat) (Inv:Nat->S->T->Prop) (hi:i e0=0) (aF:n<=100000000000000000) (aQ:Inv 0 e0 t0)
  (aB:∀ (k:Nat) (s:S) (t:T),k<=n->i s=(k:Int)->Inv k s t->Rel (f s) (g t) (Lv (λcT t'=>k<n/\i cT=((k+1:Nat):Int)/\Inv (k+1) cT t') Ψ)):Rel (b2 f e0) (b2 g t0) Ψ:=by
 refine loop (λs t=>∃ k:Nat,k<=n/\i s=(k:Int)/\Inv k s t) (λs=>(n - (i s).toNat)) ⟨0,Nat.zero_le _,hi,aQ⟩ (by rw [hi]; show n - 0<1000000000000000000; omega) λs t ⟨k,hk,he,bf⟩=>(aB k s t hk he bf).use λx y EY=>?_;rcases x with cT | r <;> rcases y with t' | q
 ·obtain ⟨h1,af,aI⟩:=EY;refine ⟨⟨k+1,by omega,af,aI⟩,?_⟩;show n - (i cT).toNat<n - (i s).toNat;rw [af,he]; omega
 ·exact EY
 ·exact EY
 ·exact EY
end Rel
end Go.Own

namespace Go.Proofs
open Tryz
open Go Go.Own
set_option maxRecDepth 100000
set_option linter.unusedVariables false
theorem t149 (c:Int):Tot (CS c) λ_=>True:=by
 unfold CS
 repeat' first | apply Tot.bi | refine Tot.bE (λ_=>?_) (λ_=>?_) | exact Tot.aq trivial | apply Tot.aq
theorem t150 (c:Int):Tot (CT c) λ_=>True:=by
 unfold CT
 repeat' first | apply Tot.bi | refine Tot.bE (λ_=>?_) (λ_=>?_) | exact Tot.aq trivial | apply Tot.aq
theorem t148 (c:Int):Tot (Aa c) λ_=>True:=by
 unfold Aa
 repeat' first | apply Tot.bi | refine Tot.bE (λ_=>?_) (λ_=>?_) | exact Tot.aq trivial | apply Tot.aq
theorem t145 (x:Sym):Tot (uA x) λr=>r=true->x.Name=⟨#[]⟩/\x.Lit=false:=by
 unfold uA;apply Tot.bi;refine Tot.bp (λh=>Tot.bE (λaf=>?_) (λaf=>?_)) (λh=>?_) <;> apply Tot.aq <;> apply Tot.aq
 ·exact λ_=>⟨h,by simpa using af⟩
 ·exact λh=>by cases h
 ·exact λh=>by cases h
abbrev dL:Nat:=1000000000000
theorem t144 (s:ByteArray) (h:s.size<=dL):Tot (CR s 0) λn=>0<=n/\n<=s.size:=by
 unfold CR;refine Tot.aA (Ξ:=λn=>0<=n/\n<=s.size) ?_ λa aP=>.aq aP;refine Tot.count (λi=>i) s.size (λi=>0<=i/\i<=s.size) ⟨by omega,by omega⟩ (by show (s.size:Int) - 0<_; simp only [dL] at h; omega) λi ⟨aQ,h1⟩=>?_;simp only [dL] at h;have e:aJ (0+i)=i:=by rw [cA]; omega
 rw [e];have go:∀ c:Bool,(c=true->i<s.size)->Tot (bif c then some (.inl (aJ (i+1))) else some (.inr i)) (hn (λcT:Int=>(0<=cT/\cT<=s.size)/\i<cT/\cT<=s.size) (λr:Int=>0<=r/\r<=s.size)):=by
  intro c aa;refine Tot.bE (λaf=>.aq ?_) (λ_=>.aq ⟨aQ,h1⟩);have:=aa af;have e:aJ (i+1)=i+1:=by rw [cA]; omega
  show (0<=aJ (i+1)/\aJ (i+1)<=s.size)/\i<aJ (i+1)/\aJ (i+1)<=s.size;rw [e]; omega
 apply Tot.bi;refine Tot.bp (λaf=>?_) (λaf=>.aq (go false (by simp)));apply Tot.bi;refine Tot.n5 ⟨aQ,af⟩ (Tot.aA (t149 _) λc _=>?_);refine Tot.bE (λ_=>.aq (go _ λ_=>af)) (λ_=>Tot.bE (λ_=>?_) (λ_=>.aq (go _ λ_=>af)));apply Tot.bi;refine Tot.n5 ⟨aQ,af⟩ (Tot.aA (t150 _) λc _=>?_);refine Tot.bE (λ_=>.aq (go _ λ_=>af)) (λ_=>?_);apply Tot.bi;exact Tot.n5 ⟨aQ,af⟩ (.aq (go _ λ_=>af))
theorem t134 (s:ByteArray) (h:s.size<=dL):Tot (vR s) λr=>r=true->1<=s.size/\s.size<=20:=by
 unfold vR;apply Tot.bi;refine Tot.bp (λh1=>Tot.bp (λaf=>?_) (λaf=>?_)) (λh1=>?_)
 ·exact .aA (t144 s h) λn aF=>.aq (.aq λ_=>by omega)
 ·exact .aq (.aq λh=>by cases h)
 ·exact .aq (.aq λh=>by cases h)
theorem t152 (s:ByteArray) (i:Int) (t:ByteArray) (h:s.size<=dL) (aQ:0<=i) (h1:i<=4 * dL) (aw:t.size<=dL):Tot (x0 s i t) λr=>r=true->i+t.size<=s.size:=by
 unfold x0;simp only [dL] at *;apply Tot.bi;refine Tot.bp (λaf=>?_) (λaf=>.aq (.aq λh=>by cases h));apply Tot.bi;rw [cA] at af;have e:aJ (i+t.size)=i+t.size:=by rw [cA]; omega
 refine Tot.cut (by rw [e]; omega) (.aq (.aq λ_=>by omega))
theorem t151 (s:ByteArray) (i:Int) (h:s.size<=dL) (aQ:0<=i) (h1:i<s.size):Tot (CU s i) λr=>r<=s.size:=by
 unfold CU;have av:(s.size:Int)<=1000000000000:=by simp only [dL] at h; omega
 have cy:aJ (i+1)=i+1:=by rw [cA]; omega
 have b9:aJ (i+2)=i+2:=by rw [cA]; omega
 rw [cy,b9];have xc:=Tot.n5 (Φ:=λ_=>True) (s:=s) (m:=i) ⟨aQ,h1⟩ trivial;refine Tot.aA (Ξ:=λ_=>True) ?_ λc _=>Tot.bE (λ_=>?_) (λ_=>?_)
 ·refine Tot.aA xc λ_ _=>Tot.bE (λ_=>.aq trivial) (λ_=>Tot.aA xc λ_ _=>.aq trivial)
 ·refine Tot.aA (Ξ:=hn (λ_=>True) (λr=>r<=s.size)) ?_ λx J=>?_
  ·refine Tot.count (λj=>j) (s.size+1) (λj=>0<=j) (by show (0:Int)<=i+1; omega) (by show (s.size:Int)+1 - (i+1)<_; omega) λj ah=>?_;refine Tot.aA (Ξ:=λc=>c=true->j<s.size) ?_ λc aa=>Tot.bE (λaf=>?_) (λ_=>.aq trivial)
   ·refine Tot.bp (λaf=>?_) (λ_=>.aq λh=>by cases h);exact .aA (Ξ:=λ_=>True) (Tot.n5 ⟨ah,af⟩ trivial) λ_ _=>.aq λ_=>af
   ·have VM:=aa af;have xa:=Tot.n5 (Φ:=λ_=>True) (s:=s) (m:=j) ⟨ah,VM⟩ trivial;have fH:aJ (j+1)=j+1:=by rw [cA]; omega
    have mR:aJ (j+1+1)=j+1+1:=by rw [cA]; omega
    rw [fH,mR];refine .aA xa λ_ _=>.aA xc λ_ _=>Tot.bE (λ_=>.aq ?_) (λ_=>.aA xa λ_ _=>Tot.bE (λ_=>?_) (λ_=>.aq ?_))
    ·show j+1<=s.size; omega
    ·refine Tot.aA (Ξ:=λ_=>True) ?_ λc _=>Tot.bE (λ_=>.aq ?_) (λ_=>.aq ?_)
     ·refine Tot.bp (λaI=>?_) (λ_=>.aq trivial);exact .aA (Ξ:=λ_=>True) (Tot.n5 ⟨by omega,aI⟩ trivial) λ_ _=>.aq trivial
     ·show (-1:Int)<=s.size; omega
     ·show (0:Int)<=j+1+1/\j<j+1+1/\j+1+1<=s.size+1; omega
    ·show (0:Int)<=j+1/\j<j+1/\j+1<=s.size+1; omega
  ·rcases x with _ | r
   ·exact .aq (by show (-1:Int)<=s.size; omega)
   ·exact .aq J
 ·refine .aA xc λ_ _=>Tot.bE (λ_=>?_) (λ_=>?_)
  ·refine Tot.aA (Ξ:=hn (λ_=>True) (λr=>r<=s.size)) ?_ λx J=>?_
   ·refine Tot.count (λj=>j) (s.size+1) (λj=>0<=j) (by show (0:Int)<=i+1; omega) (by show (s.size:Int)+1 - (i+1)<_; omega) λj ah=>?_;refine Tot.bp (λaf=>?_) (λ_=>.aq trivial);have fH:aJ (j+1)=j+1:=by rw [cA]; omega
    rw [fH];refine .aA (Ξ:=λ_=>True) (Tot.n5 ⟨ah,af⟩ trivial) λ_ _=>Tot.bE (λ_=>.aq ?_) (λ_=>.aq ?_)
    ·show j+1<=s.size; omega
    ·show (0:Int)<=j+1/\j<j+1/\j+1<=s.size+1; omega
   ·rcases x with _ | r
    ·exact .aq (by show (-1:Int)<=s.size; omega)
    ·exact .aq J
  ·refine .aA (t152 s i _ h aQ (by simp only [dL]; omega) (by decide)) λc _=>Tot.bE (λ_=>?_) (λ_=>?_)
   ·refine Tot.aA (Ξ:=λr=>r<=s.size) ?_ λx J=>.aq J;refine Tot.count (λj=>j) s.size (λj=>0<=j/\j<=s.size) ⟨aQ,by omega⟩ (by show (s.size:Int) - i<_; omega) λj ah=>?_;refine Tot.aA (Ξ:=λc=>c=true->j<s.size) ?_ λc aa=>Tot.bE (λaf=>?_) (λ_=>.aq ah.2)
    ·refine Tot.bp (λaf=>?_) (λ_=>.aq λh=>by cases h);exact .aA (Ξ:=λ_=>True) (Tot.n5 ⟨ah.1,af⟩ trivial) λ_ _=>.aq λ_=>af
    ·have:=aa af;have fH:aJ (j+1)=j+1:=by rw [cA]; omega
     rw [fH];exact .aq (by show ((0:Int)<=j+1/\j+1<=s.size)/\j<j+1/\j+1<=s.size; omega)
   ·refine .aA (t152 s i _ h aQ (by simp only [dL]; omega) (by decide)) λc aa=>Tot.bE (λil=>?_) (λ_=>.aq (by omega));refine Tot.aA (Ξ:=hn (λ_=>True) (λr=>r<=s.size)) ?_ λx J=>?_
    ·refine Tot.count (λj=>j) (s.size+1) (λj=>0<=j) (by show (0:Int)<=i+2; omega) (by show (s.size:Int)+1 - (i+2)<_; omega) λj ah=>?_;refine Tot.bp (λaf=>?_) (λ_=>.aq trivial);have fH:aJ (j+1)=j+1:=by rw [cA]; omega
     have mR:aJ (j+2)=j+2:=by rw [cA]; omega
     rw [fH,mR];refine .aA (t152 s j _ h ah (by simp only [dL]; omega) (by decide)) λc aa=>Tot.bE (λtX=>.aq ?_) (λ_=>.aq ?_)
     ·have:=aa tX;have rQ:(⟨#[42,47]⟩:ByteArray).size=2:=rfl;rw [rQ] at this;show j+2<=s.size; omega
     ·show (0:Int)<=j+1/\j<j+1/\j+1<=s.size+1; omega
    ·rcases x with _ | r
     ·exact .aq (by show (-1:Int)<=s.size; omega)
     ·exact .aq J
theorem t146 (s:ByteArray) (h:s.size<=dL):Tot (z' s 0) λ_=>True:=by
 unfold z';have av:(s.size:Int)<=1000000000000:=by simp only [dL] at h; omega
 refine Tot.aA (Ξ:=λ_=>True) ?_ λc _=>Tot.bE (λ_=>.aq trivial) (λ_=>?_)
 ·refine Tot.bp (λh=>.aq trivial) (λaQ=>Tot.bp (λh=>.aq trivial) (λaf=>?_));exact .aA (Ξ:=λ_=>True) (Tot.n5 (by omega) trivial) λ_ _=>.aq trivial
 ·refine Tot.aA (Ξ:=λ_=>True) ?_ λx _=>by rcases x with _ | r <;> exact .aq trivial
  refine Tot.count (λj=>j.2) s.size (λj=>0<=j.2/\j.2<=s.size) ⟨by show (0:Int)<=0; omega,by show (0:Int)<=s.size; omega⟩ (by show (s.size:Int) - 0<_; omega) λj ah=>?_;refine Tot.bp (λaf=>?_) (λ_=>.aq trivial);refine .aA (t151 s j.2 h ah.1 af) λn aF=>Tot.bp (λ_=>.aq trivial) (λaI=>Tot.bp (λbF=>.aq ?_) (λbF=>?_))
  ·show ((0:Int)<=n/\n<=s.size)/\j.2<n/\n<=s.size; omega
  ·have xc:=Tot.n5 (Φ:=λ_=>True) (s:=s) (m:=j.2) ⟨ah.1,af⟩ trivial;have fH:aJ (j.2+1)=j.2+1:=by rw [cA]; omega
   rw [fH];refine .aA xc λ_ _=>.aA (Ξ:=λ_=>True) (Tot.bE (λ_=>.aq trivial) (λ_=>.aq trivial)) λ_ _=>.aA xc λ_ _=>.aA (Ξ:=λ_=>True) (Tot.bE (λ_=>.aq trivial) (λ_=>.aq trivial)) λ_ _=>Tot.bE (λ_=>.aq trivial) (λ_=>.aq ?_);show ((0:Int)<=j.2+1/\j.2+1<=s.size)/\j.2<j.2+1/\j.2+1<=s.size; omega
def lZ (x:Sym):Prop:=x.Lit=true->x.Name.size=1
structure GI (d:Decl):Prop where
 tag:d.Tag.size<=dL
 n:d.eJ.length<=1000
 syms:∀ x∈d.eJ,x.Name.size<=dL
structure wv (a:Alt):Prop where
 n:a.ho.length<=1000
 parts:∀ p∈a.ho,p.Sym.Name.size<=dL/\p.Code.size<=dL
 prec:a.Prec.Name.size<=dL
structure Lz (r:e9):Prop where
 left:r.Left.size<=dL
 n:r.eF.length<=1000
 alts:∀ a∈r.eF,wv a
structure rK (s:Source):Prop where
 Yl:s.cx.size<=dL
 zg:s.Decls.length<=1000
 decls:∀ d∈s.Decls,GI d
 aH:s.dG.length<=1000
 rules:∀ r∈s.dG,Lz r
theorem t143 (x:Sym) (a b:Bool) (h:x.Name.size<=dL):Tot (uz x a b) λr=>r=true->lZ x:=by
 unfold uz;refine Tot.bE (λaj=>?_) (λaj=>?_)
 ·refine Tot.aA (Ξ:=λc=>c=false->x.Name.size=1) ?_ λc aa=>Tot.bE (λ_=>.aq λh=>by cases h) (λaf=>?_)
  ·refine Tot.bE (λ_=>.aq λh=>by cases h) (λ_=>Tot.pj (λ_=>.aq λh=>by cases h) (λh1=>.aq λ_=>by omega))
  ·have h1:=aa af;refine .aA (Ξ:=λ_=>True) (Tot.n5 (by omega) trivial) λ_ _=>.aA (t148 _) λ_ _=>.aq λ_ _=>h1
 ·have db:lZ x:=λh=>by rw [aj] at h; cases h
  refine Tot.aA (Ξ:=λ_=>True) ?_ λc aa=>.aq λ_=>db;refine .aA (t134 _ h) λc _=>?_
  repeat' first | refine Tot.bE (λ_=>?_) (λ_=>?_) | exact Tot.aq trivial
theorem t133 (d:Decl) (h:GI d):Tot (xY d) λr=>r=true->∀ x∈d.eJ,lZ x:=by
 unfold xY;refine Tot.aA (Ξ:=λ_=>True) ?_ λc _=>Tot.bE (λ_=>.aq λh=>by cases h) (λ_=>?_)
 ·have aw:=(t134 _ h.tag).use (Φ:=λ_=>True) λ_ _=>trivial
  repeat' first | refine Tot.bE (λ_=>?_) (λ_=>?_) | exact Tot.aq trivial | refine .aA aw λ_ _=>?_
 ·refine Tot.aA (Tot.scan d.eJ (λx=>lZ x) (λr=>r=false) (by have:=h.n; omega) (λs y aQ h1 hi hm=>?_) (λs aB=>by simp [aB])) λx J=>?_
  ·refine Tot.bp (λ_=>?_) (λh=>absurd h1 h);rw [hi];refine Tot.aV ?_;refine .aA (t143 _ _ _ (h.syms _ hm)) λc aa=>Tot.bE (λ_=>.aq rfl) (λaf=>.aq ⟨?_,aa (by simpa using af)⟩);have:=h.n;rw [cA]; omega
  ·rcases x with _ | r
   ·exact .aq λ_=>J
   ·exact .aq λh=>by have:r=false:=J; rw [this] at h; cases h
theorem t135 (a:Alt) (h:wv a):Tot (xZ a) λr=>r=true->(∀ p∈a.ho,lZ p.Sym)/\lZ a.Prec:=by
 unfold xZ;refine Tot.aA (Tot.scan a.ho (λp=>lZ p.Sym) (λr=>r=false) (by have:=h.n; omega) (λs y aQ h1 hi hm=>?_) (λs aB=>by simp [aB])) λx J=>?_
 ·refine Tot.bp (λ_=>?_) (λh=>absurd h1 h);rw [hi];refine Tot.aV ?_;have au:=h.parts _ hm;have t1:=t143 y.Sym false true au.1;have t2:=t145 y.Sym;have Qu:=t146 y.Code au.2;have hw:aJ (s+1)=s+1:=by have:=h.n; rw [cA]; omega
  rw [hw];have n118:(y.Sym.Name=⟨#[]⟩/\y.Sym.Lit=false)->lZ y.Sym:=λh aj=>by rw [h.2] at aj; cases aj
  refine Tot.aA (Ξ:=λc=>c=false->lZ y.Sym) ?_ λc aa=>Tot.bE (λ_=>.aq rfl) (λaf=>.aq ⟨rfl,aa af⟩);refine Tot.bp (λ_=>?_) (λdq=>?_)
  ·refine .aA t1 λc aa=>Tot.bE (λ_=>.aq λh=>by cases h) (λaf=>?_);have db:=aa (by simpa using af);refine Tot.bE (λ_=>?_) (λ_=>.aq λ_=>db);refine .aA t2 λc _=>Tot.bE (λ_=>.aq λ_=>db) (λ_=>?_);exact .aA Qu λ_ _=>.aq λ_=>db
  ·refine Tot.pj (λ_=>?_) (λh=>.aq λ_=>?_)
   ·refine .aA t2 λc aa=>Tot.bE (λ_=>.aq λh=>by cases h) (λaf=>?_);have db:=n118 (aa (by simpa using af));exact .aA Qu λ_ _=>.aq λ_=>db
   ·exact absurd h dq
 ·rcases x with _ | r
  ·have J:∀ p∈a.ho,lZ p.Sym:=J;refine Tot.aA (Ξ:=λc=>c=true->lZ a.Prec) ?_ λc aa=>.aq λh=>⟨J,aa h⟩;refine .aA (t145 _) λc aa=>Tot.bE (λaf=>.aq λ_=>?_) (λ_=>.aA (t143 _ _ _ h.prec) λc aa=>.aq aa);intro aj; rw [(aa af).2] at aj; cases aj
  ·exact .aq λh=>by have:r=false:=J; rw [this] at h; cases h
structure DM (a:Alt):Prop where
 parts:∀ p∈a.ho,lZ p.Sym
 prec:lZ a.Prec
structure LC (s:Source):Prop where
 decls:∀ d∈s.Decls,∀ x∈d.eJ,lZ x
 rules:∀ r∈s.dG,∀ a∈r.eF,DM a
 pos:0<s.dG.length
theorem t103 (s:Source) (h:rK s):Tot (xW s) λr=>r=true->LC s:=by
 unfold xW;refine Tot.aA (Ξ:=hn (λ_=>True) (λr=>r=false)) ?_ λx J=>?_
 ·have au:(s.cx.size:Int)<=1000000000000:=by have:=h.Yl; simp only [dL] at this; omega
  refine Tot.count (λj=>j) s.cx.size (λj=>0<=j/\j<=s.cx.size) ⟨by omega,by omega⟩ (by show (s.cx.size:Int) - 0<_; omega) λj ah=>?_;have cy:aJ (j+1)=j+1:=by rw [cA]; omega
  have b9:aJ (j+2)=j+2:=by rw [cA]; omega
  rw [cy,b9];refine Tot.bp (λaf=>?_) (λ_=>.aq trivial);refine .aA (Ξ:=λ_=>True) (Tot.cut (by omega) trivial) λ_ _=>Tot.bE (λ_=>.aq rfl) (λ_=>.aq ?_);show ((0:Int)<=j+1/\j+1<=s.cx.size)/\j<j+1/\j+1<=s.cx.size; omega
 ·rcases x with _ | r
  ·refine Tot.aA (Tot.scan s.Decls (λd=>∀ x∈d.eJ,lZ x) (λr=>r=false) (by have:=h.zg; omega) (λi y aQ h1 hi hm=>?_) (λs aB=>by simp [aB])) λx J=>?_
   ·refine Tot.bp (λ_=>?_) (λh=>absurd h1 h);rw [hi];refine Tot.aV ?_;refine .aA (t133 _ (h.decls _ hm)) λc aa=>Tot.bE (λ_=>.aq rfl) (λaf=>.aq ⟨?_,aa (by simpa using af)⟩);have:=h.zg;rw [cA]; omega
   ·rcases x with _ | r
    ·have J:∀ d∈s.Decls,∀ x∈d.eJ,lZ x:=J;refine Tot.aA (Tot.scan s.dG (λr=>∀ a∈r.eF,DM a) (λr=>r=false) (by have:=h.aH; omega) (λi y aQ h1 hi hm=>?_) (λs aB=>by simp [aB])) λx iu=>?_
     ·refine Tot.bp (λ_=>?_) (λh=>absurd h1 h);rw [hi];refine Tot.aV ?_;have ao:=h.rules _ hm;have hw:aJ (i+1)=i+1:=by have:=h.aH; rw [cA]; omega
      rw [hw];refine .aA (Ξ:=λ_=>True) (.aA (t134 _ ao.left) λc _=>Tot.bE (λ_=>.aq trivial) (λ_=>.aq trivial)) λc _=>Tot.bE (λ_=>.aq rfl) (λ_=>?_);refine Tot.aA (Tot.scan y.eF DM (λr=>r=false) (by have:=ao.n; omega) (λk a aQ h1 hi hm=>?_) (λs aB=>by simp [aB])) λx jX=>?_
      ·refine Tot.bp (λ_=>?_) (λh=>absurd h1 h);rw [hi];refine Tot.aV ?_;refine .aA (t135 _ (ao.alts _ hm)) λc aa=>Tot.bE (λ_=>.aq rfl) (λaf=>.aq ⟨?_,⟨(aa (by simpa using af)).1,(aa (by simpa using af)).2⟩⟩);have:=ao.n;rw [cA]; omega
      ·rcases x with _ | r
       ·exact .aq ⟨rfl,jX⟩
       ·exact .aq jX
     ·rcases x with _ | r
      ·exact .aq λh=>⟨J,iu,by have:=of_decide_eq_true h; omega⟩
      ·exact .aq λh=>by have:r=false:=iu; rw [this] at h; cases h
    ·exact .aq λh=>by have:r=false:=J; rw [this] at h; cases h
  ·exact .aq λh=>by have:r=false:=J; rw [this] at h; cases h
abbrev fK:=dt
structure rJ (m m':fK):Prop where
 g:m'.aG=m.aG
 gF:m'.ct=m.ct
 ty:m'.cL=m.cL
 fw:m'.cb=m.cb
 jz:m'.cr=m.cr
 hC:m'.b_=m.b_
theorem t105 (m:fK) (a:Int) (n:ByteArray):Tot (nT m a n) λm'=>rJ m m'/\m'.cZ≠0:=by
 unfold nT;apply Tot.bi;refine Tot.bp (λ_=>.aq (.aq ⟨⟨rfl,rfl,rfl,rfl,rfl,rfl⟩,?_⟩)) (λh=>.aq (.aq ⟨⟨rfl,rfl,rfl,rfl,rfl,rfl⟩,h⟩))
 grind
theorem t109 (m:fK) (n:ByteArray) (h:m.cL.length<=dL):Tot (z1 m n) λr=>r=-1\/(0<=r/\r<m.cL.length):=by
 unfold z1;simp only [dL] at h;refine Tot.aA (Tot.scan m.cL (λ_=>True) (λr:Int=>0<=r/\r<m.cL.length) (by omega) (λs y aQ h1 hi hm=>?_) (λs aB=>by simp [aB])) λx J=>?_
 ·refine Tot.bp (λ_=>?_) (λh=>absurd h1 h);rw [hi];refine Tot.aV ?_;refine Tot.bE (λ_=>.aq ⟨aQ,h1⟩) (λ_=>.aq ⟨?_,trivial⟩)
  grind [cA]
 ·rcases x with _ | r
  ·exact .aq (.inl rfl)
  ·exact .aq (.inr J)
theorem t107 (m:fK) (n:ByteArray) (h:m.cb.length<=dL):Tot (s5 m n) λr=>(r=-1/\∀ x∈m.cb,x≠n)\/(0<=r/\r<m.cb.length/\m.cb[r.toNat]?=some n):=by
 unfold s5;simp only [dL] at h;refine Tot.aA (Tot.scan m.cb (λx=>x≠n) (λr:Int=>0<=r/\r<m.cb.length/\m.cb[r.toNat]?=some n) (by omega) (λs y aQ h1 hi hm=>?_) (λs aB=>by simp [aB])) λx J=>?_
 ·refine Tot.bp (λ_=>?_) (λh=>absurd h1 h);rw [hi];refine Tot.aV ?_;refine Tot.bp (λe=>.aq ⟨aQ,h1,by rw [<- e]; exact (pM hi).2.2⟩) (λe=>.aq ⟨?_,e⟩)
  grind [cA]
 ·rcases x with _ | r
  ·exact .aq (.inl ⟨rfl,J⟩)
  ·exact .aq (.inr J)
theorem t106 (m:fK) (x:Sym) (h:m.aG.ba.length<=dL):Tot (ux m x) λr=>r=-1\/(1<=r/\r<m.aG.ba.length):=by
 unfold ux;simp only [dL] at h;refine Tot.aA (Ξ:=hn (λ_=>True) (λr=>1<=r/\r<m.aG.ba.length)) ?_ λx J=>?_
 ·refine Tot.count (λj=>j) m.aG.ba.length (λj=>1<=j) (by omega) (by show (m.aG.ba.length:Int) - 1<_; omega) λj ah=>?_;refine Tot.bp (λaf=>?_) (λ_=>.aq trivial);have e:aJ (j+1)=j+1:=by rw [cA]; omega
  rw [e];refine .aA (Ξ:=λ_=>True) ?_ λc _=>Tot.bE (λ_=>.aq ⟨ah,af⟩) (λ_=>.aq ?_)
  ·refine .aA (Ξ:=λ_=>True) (Tot.hr (by omega) af λ_ _ _=>trivial) λ_ _=>Tot.bE (λ_=>?_) (λ_=>.aq trivial);exact .aA (Ξ:=λ_=>True) (Tot.hr (by omega) af λ_ _ _=>trivial) λ_ _=>Tot.bE (λ_=>.aq trivial) (λ_=>.aq trivial)
  grind
 ·rcases x with _ | r
  ·exact .aq (.inl rfl)
  ·exact .aq (.inr J)
theorem t137 (m:fK) (n:Int) (h:m.aG.ba.length<=dL):Tot (vT m n) λ_=>True:=by
 unfold vT;simp only [dL] at h;refine Tot.aA (Ξ:=λ_=>True) ?_ λx J=>?_
 ·refine Tot.count (λj=>j) m.aG.ba.length (λj=>1<=j) (by decide) (by show (m.aG.ba.length:Int) - 3<_; omega) λj ah=>?_;refine Tot.bp (λaf=>?_) (λ_=>.aq trivial);have e:aJ (j+1)=j+1:=by rw [cA]; omega
  rw [e];refine .aA (Ξ:=λ_=>True) (Tot.hr (by omega) af λ_ _ _=>trivial) λc _=>Tot.bE (λ_=>.aq trivial) (λ_=>.aq ?_)
  grind
 ·rcases x with _ | r <;> exact .aq trivial
structure Grow (m m':fK) (k:Nat):Prop where
 gF:m'.ct.length=m'.aG.ba.length
 lo:m.aG.ba.length<=m'.aG.ba.length
 hi:m'.aG.ba.length<=m.aG.ba.length+k
 ty:m'.cL.length<=m.cL.length+k
 fw:m'.cb=m.cb
 hz:m'.aG.bh=m.aG.bh
 hC:m'.b_=m.b_
 lvl:m'.cr=m.cr
 jz:0<=m.cr->(∀ t∈m.aG.ba,0<=t.Level)->∀ t∈m'.aG.ba,0<=t.Level
theorem rJ.grow {m m':fK}(h:rJ m m') (aO:m.ct.length=m.aG.ba.length) (k:Nat):Grow m m' k:=by
 obtain ⟨h1,af,aI,bF,cG,eh⟩:=h;exact ⟨by rw [h1,af]; exact aO,by rw [h1]; omega,by rw [h1]; omega,by rw [aI]; omega,bF,by rw [h1],eh,cG,by rw [h1]; exact λ_ h=>h⟩
theorem t136 (m:fK) (x:Sym) (aO:m.ct.length=m.aG.ba.length) (h:m.aG.ba.length<=100000000000) (J:lZ x) :
  Tot (vS m x) λr=>Grow m r.2 1/\0<=r.1/\r.1<r.2.aG.ba.length:=by
 unfold vS;refine .aA (t106 m x (by simp only [dL]; omega)) λt aw=>Tot.bp (λaQ=>.aq ⟨⟨aO,Nat.le_refl _,Nat.le_succ _,Nat.le_succ _,rfl,rfl,rfl,rfl,λ_ h=>h⟩,aQ,?_⟩) (λ_=>?_)
 ·grind
 ·refine Tot.aA (Ξ:=λj=>rJ m j.1) ?_ λj ah=>?_
  ·refine Tot.bE (λaj=>?_) (λ_=>.aq ⟨rfl,rfl,rfl,rfl,rfl,rfl⟩);have:=J aj;refine .aA (Ξ:=λ_=>True) (Tot.n5 (by omega) trivial) λb _=>.aA (t137 m _ (by simp only [dL]; omega)) λo _=>?_;refine Tot.aA (Ξ:=λj=>rJ m j) ?_ λj ah=>.aq ah;exact Tot.bE (λ_=>.aA (t105 m _ _) λm' hm=>.aq hm.1) (λ_=>.aq ⟨rfl,rfl,rfl,rfl,rfl,rfl⟩)
  ·obtain ⟨h1,af,aI,bF,cG,eh⟩:=ah;have aT:j.1.aG.ba.length=m.aG.ba.length:=by rw [h1]
   have VW:j.1.ct.length=m.ct.length:=by rw [af]
   refine .aA (Ξ:=λ_=>True) (Tot.ap (by rw [aT]; simp [lim]; omega) trivial) λ_ _=>.aA (Ξ:=λ_=>True) (Tot.ap (by rw [VW]; simp [lim]; omega) trivial) λ_ _=>.aq ?_;refine ⟨⟨?_,?_,?_,?_,bF,by show j.1.aG.bh=_; rw [h1],eh,cG,?_⟩,?_,?_⟩
   all_goals grind [cA]
structure n3 (m m':fK):Prop where
 tk:m'.aG.ba.length=m.aG.ba.length
 gF:m'.ct.length=m.ct.length
 ty:m'.cL=m.cL
 fw:m'.cb=m.cb
 hz:m'.aG.bh=m.aG.bh
 hC:m'.b_=m.b_
 lvl:m'.cr=m.cr
 jz:0<=m.cr->(∀ t∈m.aG.ba,0<=t.Level)->∀ t∈m'.aG.ba,0<=t.Level
theorem n3.refl (m:fK):n3 m m:=⟨rfl,rfl,rfl,rfl,rfl,rfl,rfl,λ_ h=>h⟩
theorem n3.trans {m m' CB:fK}(h:n3 m m') (aR:n3 m' CB):n3 m CB:=⟨aR.tk.trans h.tk,aR.gF.trans h.gF,aR.ty.trans h.ty,aR.fw.trans h.fw,aR.hz.trans h.hz,aR.hC.trans h.hC,aR.lvl.trans h.lvl,λaQ aj=>aR.jz (by rw [h.lvl]; exact aQ) (h.jz aQ aj)⟩
theorem rJ.tk {m m':fK}(h:rJ m m'):n3 m m':=⟨by rw [h.g],by rw [h.gF],h.ty,h.fw,by rw [h.g],h.hC,h.jz,by rw [h.g]; exact λ_ h=>h⟩
theorem Grow.tk {m m' CB:fK}{k:Nat}(h:Grow m m' k) (aR:n3 m' CB):Grow m CB k :=
 ⟨by rw [aR.gF,aR.tk]; exact h.gF,by rw [aR.tk]; exact h.lo,by rw [aR.tk]; exact h.hi,by rw [aR.ty]; exact h.ty,aR.fw.trans h.fw,aR.hz.trans h.hz,aR.hC.trans h.hC,aR.lvl.trans h.lvl,λaQ aj=>aR.jz (by rw [h.lvl]; exact aQ) (h.jz aQ aj)⟩
theorem O1 {α:Type}{l:List α}{i:Nat}{x y:α}(h:y∈l.set i x):y∈l\/y=x:=List.mem_or_eq_of_mem_set h
theorem t104 (m:fK) (d:Decl) (x:Sym) (aO:m.ct.length=m.aG.ba.length) (h:m.aG.ba.length<=100000000000) (aw:m.cL.length<=100000000000) (J:lZ x) :
  Tot (vP m d x) λm'=>Grow m m' 1:=by
 unfold vP;refine Tot.bE (λ_=>?_) (λ_=>?_)
 ·refine .aA (t109 m x.Name (by simp only [dL]; omega)) λk hk=>Tot.aA (Ξ:=λm'=>Grow m m' 1) ?_ λm' hm=>.aq hm;refine Tot.bp (λ_=>?_) (λaQ=>?_)
  ·refine .aA (Ξ:=λ_=>True) (Tot.ap (by simp [lim]; omega) trivial) λ_ _=>.aq ⟨aO,Nat.le_refl _,Nat.le_succ _,?_,rfl,rfl,rfl,rfl,λ_ h=>h⟩
   grind
  ·refine .aA (Ξ:=λ_=>True) (Tot.hr (by omega) (by omega) λ_ _ _=>trivial) λ_ _=>Tot.aA (Ξ:=λm'=>Grow m m' 1) ?_ λm' hm=>.aq hm;exact Tot.bE (λ_=>.aA (t105 m _ _) λm' hm=>.aq (hm.1.grow aO 1)) (λ_=>.aq ⟨aO,Nat.le_refl _,Nat.le_succ _,Nat.le_succ _,rfl,rfl,rfl,rfl,λ_ h=>h⟩)
 ·refine .aA (t136 m x aO h J) λr ⟨ao,aQ,h1⟩=>?_;have hr:∀ {m':fK},n3 r.2 m'->Tot (idx m'.aG.ba r.1) λy=>y∈m'.aG.ba:=λhm=>Tot.hr aQ (by rw [hm.tk]; exact h1) λ_ _ h=>h;have OO:∀ {m':fK},n3 r.2 m'->Tot (idx m'.ct r.1) λ_=>True:=λhm=>Tot.hr aQ (by rw [hm.gF,ao.gF]; exact h1) λ_ _ _=>trivial;refine .aA (hr (.refl _)) λy _=>?_;refine Tot.aA (Ξ:=λm'=>n3 r.2 m') ?_ λeN q7=>?_
  ·refine Tot.bE (λ_=>?_) (λ_=>.aq (.refl _));refine Tot.aA (Ξ:=λm'=>n3 r.2 m') ?_ λdc sE=>?_
   ·exact Tot.bE (λ_=>.aA (t105 r.2 _ _) λm' hm=>.aq ⟨rfl,hm.1.tk.gF,hm.1.tk.ty,hm.1.tk.fw,hm.1.tk.hz,hm.1.tk.hC,hm.1.tk.lvl,λ_ h=>h⟩) (λ_=>.aq (.refl _))
   ·refine .aA (hr sE) λ_ _=>.aq (sE.trans ⟨?_,rfl,rfl,rfl,rfl,rfl,rfl,λaj aw t bY=>?_⟩)
    ·grind
    grind
  ·refine .aA (hr q7) λ_ _=>?_;refine Tot.aA (Ξ:=λm'=>n3 r.2 m') ?_ λe_ u_=>?_
   ·refine Tot.bE (λ_=>?_) (λ_=>.aq q7);refine .aA (Ξ:=λ_=>True) ?_ λc _=>?_
    ·refine Tot.bE (λ_=>.aq trivial) (λ_=>.aA (OO q7) λ_ _=>Tot.bE (λ_=>.aq trivial) (λ_=>.aA (t137 eN _ ?_) λ_ _=>.aq trivial));have:=q7.tk;have:=ao.hi
     grind
    ·refine Tot.aA (Ξ:=λm'=>n3 r.2 m') ?_ λd' rU=>?_
     ·exact Tot.bE (λ_=>.aA (t105 eN _ _) λm' hm=>.aq (q7.trans ⟨rfl,hm.1.tk.gF,hm.1.tk.ty,hm.1.tk.fw,hm.1.tk.hz,hm.1.tk.hC,hm.1.tk.lvl,λ_ h=>h⟩)) (λ_=>.aq q7)
     ·refine .aA (hr rU) λy ax=>.aA (OO rU) λ_ _=>.aq (rU.trans ⟨?_,?_,rfl,rfl,rfl,rfl,rfl,λaj aw t bY=>?_⟩)
      all_goals grind
   ·refine .aA (hr u_) λ_ _=>?_;refine Tot.aA (Ξ:=λm'=>n3 r.2 m') ?_ λpN HT=>.aq (ao.tk HT);refine Tot.bE (λ_=>?_) (λ_=>.aq u_);refine .aA (Ξ:=λ_=>True) (Tot.bE (λ_=>.aq trivial) (λ_=>.aq trivial)) λc _=>?_;refine Tot.aA (Ξ:=λm'=>n3 r.2 m') ?_ λnf Bt=>?_
    ·exact Tot.bE (λ_=>.aA (t105 e_ _ _) λm' hm=>.aq (u_.trans ⟨rfl,hm.1.tk.gF,hm.1.tk.ty,hm.1.tk.fw,hm.1.tk.hz,hm.1.tk.hC,hm.1.tk.lvl,λ_ h=>h⟩)) (λ_=>.aq u_)
    ·refine .aA (hr Bt) λy ax=>.aq (Bt.trans ⟨?_,rfl,rfl,rfl,rfl,rfl,rfl,λaj aw t bY=>?_⟩)
     ·grind
     grind
def qX (T:Nat) (N:Int) (s:Int):Prop:=(0<=s/\s<T)\/(1000<=s/\s<=1000+N)
theorem qX.mono {T T':Nat}{N i_ s:Int}(h:qX T N s) (dM:T<=T') (bc:N<=i_):qX T' i_ s:=by
 rcases h with h | h
 ·exact .inl (by omega)
 ·exact .inr (by omega)
theorem t138 (m:fK) (x:Sym) (aO:m.ct.length=m.aG.ba.length) (aI:3<=m.aG.ba.length) (h:m.aG.ba.length<=100000000000) (aj:m.cb.length<=100000000000) (J:lZ x) :
  Tot (s6 m x) λr=>Grow m r.2 1/\qX r.2.aG.ba.length m.cb.length r.1:=by
 unfold s6;have r2:Grow m m 1:=⟨aO,Nat.le_refl _,Nat.le_succ _,Nat.le_succ _,rfl,rfl,rfl,rfl,λ_ h=>h⟩;refine Tot.bE (λ_=>?_) (λ_=>?_)
 ·exact .aA (t136 m x aO h J) λr ⟨ao,aQ,h1⟩=>.aq ⟨ao,.inl ⟨aQ,h1⟩⟩
 ·refine .aA (t107 m x.Name (by simp only [dL]; omega)) λk hk=>Tot.bp (λaQ=>.aq ⟨r2,.inr ?_⟩) (λ_=>?_)
  ·grind [cA]
  ·refine .aA (t106 m x (by simp only [dL]; omega)) λt aw=>Tot.bp (λ_=>?_) (λaQ=>.aq ⟨r2,.inl ?_⟩)
   ·refine .aA (t105 m _ _) λm' hm=>.aq ⟨hm.1.grow aO 1,.inl ⟨Int.le_refl 0,?_⟩⟩;show (0:Int)<(m'.aG.ba.length:Int);rw [hm.1.g];omega
   grind
end Go.Proofs
