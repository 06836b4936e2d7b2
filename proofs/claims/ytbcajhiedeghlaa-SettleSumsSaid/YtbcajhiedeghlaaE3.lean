/-
  What is proved here: parts of the proof that the last text states: rules for walks through code, and of this program's functions what they answer. No condition of their own.
-/
import Derived.ChangeAt
import Derived.ChangeOld
import Derived.ChangeSame
import Derived.Deep.Draws
import Derived.Deep.LoopGhost
import Derived.Deep.Slices
import Derived.KernelRfl
import Derived.Laws.CopyRow
import Derived.Lib.SliceRun
import Derived.Lib.SlicesCompact
import Derived.Lib.Walk
import Derived.Maps.OwnIn
import Derived.ReadAgain
import Derived.RowKit3
import Derived.Shelf.RegionOpenPlain
import Derived.Shelf.SlLaysQ
import Derived.Shelf.SlSortCmp.NoneTotal
import Derived.Shelf.SlicesE.Kit
import Derived.Shelf.SlicesQ.Load
import Derived.Sort.WalkB12
import Derived.StringKeys
import Derived.Test.YtbcajhiedeghlaaRows
import Derived.WalkKit
import Derived.WideShapes
import Derived.Test.YtbcajhiedeghlaaE2
namespace Go.Own
open Go Go.RowKit Go.ChangeShapes Go.WideShapes Go.Deep
variable {α β I3:Type}{P:Program}
abbrev pZ (w:World) (y:ag) (u:Value):Prop:=R w (λb=>b<w.heap.size) (λ_ _=>False) y u (λ_=>False)
def mv (w:World) (ys:List ag) (cs:List Value):Prop :=
 ys.length=cs.length/\∀ (k:Nat) (y:ag) (u:Value),ys[k]?=some y->cs[k]?=some u->u.oneCell'=true/\pZ w y u
theorem mv.nil {w:World}:mv w [] []:=⟨rfl,λ_ _ _ h=>by simp at h⟩
theorem mv.one {w:World}{y:ag}{u:Value}(h1:u.oneCell'=true) (h:pZ w y u):mv w [y] [u] :=
 ⟨rfl,λk y' tu az hu=>by
  cases k with
  | zero=>simp at az hu; subst az hu; exact ⟨h1,h⟩
  | succ k=>simp at az⟩
theorem mv.app {w:World}{ys xa:List ag}{cs iZ:List Value}(h:mv w ys cs) (al:mv w xa iZ):mv w (ys++xa) (cs++iZ):=by
 refine ⟨by simp [h.1,al.1],λk y u az hu=>?_⟩;by_cases hk:k<ys.length
 ·rw [List.getElem?_append_left hk] at az;rw [List.getElem?_append_left (h.1 ▸ hk)] at hu;exact h.2 k y u az hu
 ·rw [List.getElem?_append_right (by omega)] at az;rw [List.getElem?_append_right (by have:=h.1; omega),<- h.1] at hu;exact al.2 _ y u az hu
structure lP (P:Program) (e:cD α) (t:TypeId) (ok:α->Prop):Prop where
 z:P.cellsOf t=e.z
 go:∀ {H:Type}{enc:TypeId × Value->H}{w:World}{n:Nat}{cs:List Value}{x:DataW H × List MemPlace},
  DataW.trod enc P w 0 (λ_=>true) true n t cs=some x->∃ a,ok a/\mv w (e.cells a) cs
theorem lP.int {e:cD Int}{t:TypeId}{k:IntKind}(aJ:P.underlying t=some (.int k)) (bA:P.cellsOf t=e.z) (he:∀ n,e.cells n=[.lit (.int k n)]) :
  lP P e t (λn=>(Lit.int k n).wf=true):=by
 refine ⟨bA,λh=>?_⟩;obtain ⟨n,rfl,_,hw⟩:=DataW.trod_int aJ h;exact ⟨n,hw,he n ▸ mv.one rfl (.lit rfl λ_ h=>h)⟩
theorem lP.bool {e:cD Bool}{t:TypeId}(aJ:P.underlying t=some .bool) (bA:P.cellsOf t=e.z) (he:∀ n,e.cells n=[.lit (.bool n)]) :
  lP P e t (λ_=>True):=by
 refine ⟨bA,λh=>?_⟩;obtain ⟨n,rfl,_⟩:=DataW.trod_bool aJ h;exact ⟨n,trivial,he n ▸ mv.one rfl (.lit rfl λ_ h=>h)⟩
theorem Nj (e:cD α) (bA:0<e.z):∀ (l:List α) (k:Nat) (y:ag),(cj e l)[k]?=some y->∃ a,l[k / e.z]?=some a/\(e.cells a)[k % e.z]?=some y
 | [],k,y,h=>by simp [cj] at h
 | a::l,k,y,h=>by
  have he:cj e (a::l)=e.cells a++cj e l:=by simp [cj]
  rw [he] at h;by_cases hk:k<e.z
  ·rw [List.getElem?_append_left (by rw [e.len]; exact hk)] at h;exact ⟨a,by simp [Nat.div_eq_of_lt hk],by rw [Nat.mod_eq_of_lt hk]; exact h⟩
  ·rw [List.getElem?_append_right (by rw [e.len]; omega),e.len] at h;obtain ⟨b,h1,al⟩:=Nj e bA l (k - e.z) y h;have aU:k / e.z=(k - e.z) / e.z+1:=by rw [Nat.div_eq_sub_div bA (by omega)]
   refine ⟨b,by rw [aU]; simpa using h1,?_⟩;rw [Nat.mod_eq_sub_mod (by omega)]; exact al
theorem lP.slice {e:cD α}{t Ea:TypeId}{ok:α->Prop}(h:lP P e Ea ok) (aJ:P.underlying t=some (.slice Ea)) (bA:P.cellsOf t=1) (sZ:0<e.z) :
  lP P (bU e) t (λl=>l.length<=maxLen/\∀ x∈l,ok x):=by
 classical
 refine ⟨bA,λ{H enc w n cs x} aw=>?_⟩;rcases open_slice aJ aw with ⟨rfl,rfl⟩ | ⟨a,len,cap,m,cY,D,o2,rfl,aK,ao,hm,GC,rfl,J⟩
 ·exact ⟨[],⟨by simp,by simp⟩,mv.one rfl (.hS λ_ h=>h)⟩
 ·have SP:m=cap:=by simpa using GC
  subst SP;have hex:∀ i,i<len->∃ q:α × List Value,ok q.1/\mv w (e.cells q.1) q.2/\w.cells? 0 (a.add (i * P.cellsOf Ea)) (P.cellsOf Ea)=some q.2:=λi hi=>by
   obtain ⟨cs',h1,al⟩:=J i (by omega);obtain ⟨b,dw,c6⟩:=h.go al;exact ⟨(b,cs'),dw,c6,h1⟩
  by_cases bd:len=0
  ·subst bd;exact ⟨[],⟨by simp,by simp⟩,mv.one rfl (.hS λ_ h=>h)⟩
  ·obtain ⟨te,_⟩:=hex 0 (by omega)
   haveI:Inhabited (α × List Value):=⟨te⟩
   obtain ⟨f,bn⟩:=choose_lt hex;have hlen:((List.range len).map λi=>(f i).1).length=len:=by simp
   have pq:∀ (i:Nat) (b:α),((List.range len).map λi=>(f i).1)[i]?=some b->i<len/\b=(f i).1:=λi b hi=>by
    have a_:=(List.getElem?_eq_some_iff.1 hi).1;simp at a_;simp [a_] at hi;exact ⟨a_,hi.symm⟩
   have ko:a.spot=none/\a.block<w.heap.size:=by
    obtain ⟨_,_,aQ⟩:=bn 0 (by omega);obtain ⟨_,Gy,da⟩:=World.cells?_some aQ;have eb:=da 0 (by rw [h.z]; exact sZ);simp only [Nat.zero_mul,Addr.add,if_true] at eb;have:0<(f 0).2.length:=by rw [Gy,h.z]; exact sZ
    rw [List.getElem?_eq_getElem this] at eb;unfold World.cell? at eb
    split at eb
    ·rename_i ca;refine ⟨?_,(Array.getElem?_eq_some_iff.1 ca).1⟩;cases aL:a.spot with
     | none=>rfl
     | some s=>simp [aL] at eb
    ·cases eb
   have key:∀ (k:Nat) (y:ag),(cj e ((List.range len).map λi=>(f i).1))[k]?=some y->∃ u,w.cell? ⟨a.block,a.off+k,none⟩=some u/\u.oneCell'=true/\pZ w y u:=λk y hk=>by
    obtain ⟨b,dw,c6⟩:=Nj e sZ _ k y hk;obtain ⟨hi,rfl⟩:=pq _ _ dw;obtain ⟨_,al,aQ⟩:=bn _ hi;obtain ⟨_,Gy,da⟩:=World.cells?_some aQ;have LQ:k % e.z<e.z:=Nat.mod_lt _ sZ;have eb:=da (k % e.z) (by rw [h.z]; exact LQ);rw [Deep.add_add,h.z] at eb;have gX:k / e.z * e.z+k % e.z=k:=by rw [Nat.mul_comm]; exact Nat.div_add_mod k e.z
    rw [gX] at eb;have a_:k % e.z<(f (k / e.z)).2.length:=by rw [Gy,h.z]; exact LQ
    rw [List.getElem?_eq_getElem a_] at eb;have bf:a.add k=⟨a.block,a.off+k,none⟩:=by
     unfold Addr.add;split
     ·rename_i Q2; subst Q2; cases a; simp at ko ⊢; exact ko.1
     ·rfl
    rw [bf] at eb;exact ⟨_,eb,al.2 _ _ _ c6 (List.getElem?_eq_getElem a_)⟩
   refine ⟨(List.range len).map λi=>(f i).1,⟨by rw [hlen]; omega,λy az=>?_⟩,mv.one rfl ?_⟩
   ·obtain ⟨i,hi,rfl⟩:=List.mem_map.1 az;exact (bn i (List.mem_range.1 hi)).1
   ·show pZ w (.aF e.z _ _) _;rw [hlen];refine .aF (us:=λk=>(w.cell? ⟨a.block,a.off+k,none⟩).getD .nilFunc) (λ_ h=>h) ao ko.2 ko.1 (by rw [od,hlen]) (λk y hk=>?_) (λk y hk=>?_) (λk y hk=>?_)
    ·obtain ⟨u,h1,al,aQ⟩:=key k y hk;simp only [h1,Option.getD_some]; exact al
    ·obtain ⟨u,h1,al,aQ⟩:=key k y hk;simp only [h1,Option.getD_some]
    ·obtain ⟨u,h1,al,aQ⟩:=key k y hk;simp only [h1,Option.getD_some]; exact aQ
def zP (P:Program):Nat->List Field->List TypeId->Bool
 | _,[],[]=>true
 | off,f::fs,t::gL=>decide (f.type=t)&&decide (f.offset=off)&&zP P (off+P.cellsOf t) fs gL
 | _,_,_=>false
def BB (P:Program) (t:TypeId) (gL:List TypeId):Bool :=
 match P.underlying t with
 | some (.struct fs)=>zP P 0 fs.toList gL&&decide (P.cellsOf t=(gL.map P.cellsOf).sum)
 | _=>false
structure xc (P:Program) (cells:β->List ag) (gL:List TypeId) (ok:β->Prop):Prop where
 go:∀ {H:Type}{enc:TypeId × Value->H}{w:World}{n:Nat}{cs:List Value}{fs:List Field}{off:Nat},zP P off fs gL=true->cs.length=off+(gL.map P.cellsOf).sum ->
  (∀ (i:Nat) (f:Field),fs[i]?=some f->∃ x,DataW.trod enc P w 0 (λ_=>true) true n f.type ((cs.drop f.offset).take (P.cellsOf f.type))=some x) ->
  ∃ b,ok b/\mv w (cells b) (cs.drop off)
theorem xc.nil:xc P (λ_:Unit=>[]) [] (λ_=>True) :=
 ⟨λ{H enc w n cs fs off} _ ao _=>⟨(),trivial,by rw [List.drop_eq_nil_of_le (by simp at ao; omega)]; exact mv.nil⟩⟩
theorem xc.cons {e:cD α}{t:TypeId}{gL:List TypeId}{ok:α->Prop}{cells:β->List ag}{MG:β->Prop}(h:lP P e t ok) (ao:xc P cells gL MG) :
  xc P (λp:α × β=>e.cells p.1++cells p.2) (t::gL) (λp=>ok p.1/\MG p.2):=by
 refine ⟨λ{H enc w n cs fs off} ix hlen aw=>?_⟩;cases fs with
 | nil=>simp [zP] at ix
 | cons f fs =>
  simp only [zP,Bool.and_eq_true,decide_eq_true_eq] at ix;obtain ⟨⟨rfl,rfl⟩,ix⟩:=ix;obtain ⟨x,J⟩:=aw 0 f rfl;obtain ⟨a,bf,bl⟩:=h.go J;obtain ⟨b,aK,RJ⟩:=ao.go (off:=f.offset+P.cellsOf f.type) (cs:=cs) ix (by rw [hlen]; simp [Nat.add_assoc]) (λi QR uj=>aw (i+1) QR (by simpa using uj));refine ⟨(a,b),⟨bf,aK⟩,?_⟩;have:cs.drop f.offset=(cs.drop f.offset).take (P.cellsOf f.type)++cs.drop (f.offset+P.cellsOf f.type):=by
   rw [<- List.drop_drop]; exact (List.take_append_drop _ _).symm
  rw [this];exact bl.app RJ
theorem lP.struct {e:cD I3}{t:TypeId}{gL:List TypeId}{cells:β->List ag}{ok:β->Prop}(h:xc P cells gL ok) (mk:β->I3) (un:I3->β) (L6:∀ b,un (mk b)=b) (ab:∀ b,e.cells (mk b)=cells b) (aJ:BB P t gL=true) (bA:P.cellsOf t=e.z) :
  lP P e t (λs=>ok (un s)):=by
 refine ⟨bA,λ{H enc w n cs x} aw=>?_⟩;unfold BB at aJ
 split at aJ
 ·rename_i fs hu;simp only [Bool.and_eq_true,decide_eq_true_eq] at aJ;obtain ⟨xs,cY,rfl,rfl,ao,Ha,J⟩:=DataW.trod_struct hu aw;obtain ⟨b,aK,bl⟩:=h.go (w:=w) (off:=0) (cs:=cs) (fs:=fs.toList) (n:=cY) (enc:=enc) aJ.1 (by rw [ao,aJ.2]; simp) (λi f bn=>by
   have uj:fs[i]?=some f:=by simpa using bn
   have hi:i<xs.length:=by rw [Ha]; exact (Array.getElem?_eq_some_iff.1 uj).1
   exact ⟨xs[i],by rw [J i f uj,List.getElem?_eq_getElem hi]⟩)
  exact ⟨mk b,by rw [L6]; exact aK,by rw [ab]; simpa using bl⟩
 ·cases aJ
inductive BR (w:World):ag->Value->Prop
 | mk {y:ag}{v:Value}(h:pZ w y v):BR w y v
theorem lP.one {e:cD α}{t:TypeId}{ok:α->Prop}{g:α->ag}(h:lP P e t ok) (he:∀ a,e.cells a=[g a]) {H:Type}{enc:TypeId × Value->H}{w:World}{v:Value}{d:DataW H}{p:List MemPlace}(hv:v.cells.toList=[v])
  (aJ:DataW.Trod enc P w 0 (λ_=>true) true t v d p):∃ a,ok a/\BR w (g a) v:=by
 obtain ⟨n,aP⟩:=aJ;obtain ⟨a,bf,bl⟩:=h.go aP;refine ⟨a,bf,.mk ?_⟩;rw [hv,he] at bl;exact (bl.2 0 _ _ rfl rfl).2
theorem lP.MH {e:cD α}{t:TypeId}{ok:α->Prop}{gL:List TypeId}(h:lP P e t ok) (ix:BB P t gL=true) {H:Type}{enc:TypeId × Value->H}{w:World}{v:Value}{d:DataW H}{p:List MemPlace}{base:Nat}(hv:Value.okWide P w .any base t v)
  (aJ:DataW.Trod enc P w 0 (λ_=>true) true t v d p):∃ a,ok a/\BR w (.agg (e.cells a)) v:=by
 have hu:∃ fs,P.underlying t=some (.struct fs):=by
  unfold BB at ix
  split at ix
  ·exact ⟨_,by assumption⟩
  ·cases ix
 obtain ⟨fs,hu⟩:=hu;obtain ⟨cs,rfl,hs⟩:=okWide_struct hu hv;obtain ⟨n,aP⟩:=aJ;obtain ⟨a,bf,bl⟩:=h.go aP;refine ⟨a,bf,.mk ?_⟩;have jr:mv w (e.cells a) cs.toList:=bl;refine .agg (Fs:=λ_ _=>False) (by simpa using jr.1) (λk u hu=>?_) (λk x u J hu=>(jr.2 k x u J (by simpa using hu)).2) (λ_ _ _ _ _ h=>h.elim) (λc=>⟨λh=>h.elim,λ⟨_,_,h⟩=>h⟩);have hk:k<(e.cells a).length:=by rw [jr.1]; simpa using (Array.getElem?_eq_some_iff.1 hu).1
 exact (jr.2 k _ u (List.getElem?_eq_getElem hk) (by simpa using hu)).1
inductive tD (w:World):List ag->List Value->Prop
 | nil:tD w [] []
 | cons {y:ag}{v:Value}{ys:List ag}{vs:List Value}(h:BR w y v) (aL:tD w ys vs):tD w (y::ys) (v::vs)
theorem tD.get {w:World}{ys:List ag}{vs:List Value}(h:tD w ys vs):ys.length=vs.length/\∀ (k:Nat) (y:ag),ys[k]?=some y->∃ v,vs[k]?=some v/\pZ w y v:=by
 induction h with
 | nil=>exact ⟨rfl,λk y h=>by simp at h⟩
 | cons h _ aS =>
  refine ⟨by simp [aS.1],λk y az=>?_⟩;cases k with
  | zero =>
   simp at az; subst az;obtain ⟨h⟩:=h;exact ⟨_,rfl,h⟩
  | succ k=>simpa using aS.2 k y (by simpa using az)
theorem tD.Vp {w:World}{ys:List ag}{vs:List Value}(h:tD w ys vs) (aG:ys.all (λy=>match y with | .b8 ..=>false | _=>true)=true) :
  c7 w (λb=>b<w.heap.size) vs.toArray (o9 ys) (λ_=>cW):=by
 refine ⟨λt x J=>?_,λ_ _ _ h=>h,λ_ _ _ h=>h.elim,λ_ _ h=>h.elim,λ_ h=>h,λt t' z p n m new cK cY bS di h1 _=>?_⟩
 ·obtain ⟨v,hv,bl⟩:=h.get.2 t x J;exact ⟨v,by simpa using hv,.tree (bl.frame (λ_ _=>rfl) (λ_ h=>h) (λ_ _ h=>h.elim) (λ_ _=>rfl))⟩
 ·have:=List.all_eq_true.1 aG _ (List.mem_of_getElem? h1);cases this
structure I8 (w w':World):Prop where
 kept:∀ may:MemPlace->Prop,w.keptBut w' may
 fM:∀ a,a.block<w.heap.size->w'.frozen? a=w.frozen? a
theorem cc.N4 {f:FuncId}{ys:List ag}{vs:List Value}{outs:List (Option ag)}{r:Value}(ab:cc P f ys outs (.lit r)) (w:World) (h:tD w ys vs) (aG:ys.all (λy=>match y with | .b8 ..=>false | _=>true)=true) :
  Calls P f vs.toArray w λe w'=>e=.returned r/\I8 w w'/\∀ i:Nat,i<w.heap.size->w'.heap[i]?=w.heap[i]?:=by
 have:=ab.2 w _ vs _ h.get.1.symm (h.Vp aG);refine this.mono ?_;rintro e w' ⟨v,I',cz,rfl,b6,cf⟩;obtain ⟨u,hu,bl⟩:=b6.rel outs.length (.lit r) (by simp [oR]);have ao:outs.length=vs.length:=by rw [ab.1]; exact h.get.1
 have Dg:u=v:=by
  rw [ao] at hu;simpa using hu.symm
 subst Dg;have hv:=(bl.h0 (by simp)).il.1;subst hv;have aK:∀ i:Nat,i<w.heap.size->w'.heap[i]?=w.heap[i]?:=λi hi=>cf.fF.block i hi λ⟨_,h⟩=>h;have hk:World.keptBut w w' (λ_=>False):=⟨cf.fF.os,cf.fF.output,λi hi=>by
  rw [aK i hi];exact (World.keptBut_refl w (λ_=>False)).2.2 i hi⟩
 exact ⟨rfl,⟨λmay=>World.keptBut_mono (λ_ f=>f.elim) hk,cf.fF.fM⟩,aK⟩
theorem NX {H:Type}{enc:TypeId × Value->H}{w w':World}{base:Nat}{sp:Nat->Bool}{held:Bool}(aK:∀ i:Nat,i<w.heap.size->w'.heap[i]?=w.heap[i]?) :
  ∀ {gL:List TypeId}{vs:List Value}{iZ:List (DataW H)}{ps:List MemPlace},DataW.TrodAll enc P w base sp held gL vs iZ ps->DataW.TrodAll enc P w' base sp held gL vs iZ ps
 | [],[],[],_,h=>h
 | _::_,_::_,_::_,_,⟨p,q,⟨n,aP⟩,al,e⟩=>by
  refine ⟨p,q,⟨n,DataW.trod_carry n _ _ _ aP λx J=>?_⟩,NX aK al,e⟩;have a_:=DataW.trod_lt n _ _ _ aP x J;cases x with
  | cell b off =>
   show w'.cell? _=w.cell? _;exact World.cell?_of_block (aK b a_)
  | map b=>exact aK b a_
theorem Jv {H:Type}{enc:TypeId × Value->H}{w w':World}(ao:laidOutB P=true) (hm:mapsRowed P=true)
  (bA:((List.range P.types.size).all λt=>match P.underlying t with | some (.slice e)=>decide (0<P.cellsOf e) | _=>true)=true)
  (aK:∀ i:Nat,i<w.heap.size->w'.heap[i]?=w.heap[i]?) {gL:List TypeId}{vs:List Value}{iZ:List (DataW H)}{ps:List MemPlace}(aJ:gL.all (λt=>decide (t<P.types.size))=true)
  (h:DataW.TrodAll enc P w 0 (λ_=>true) true gL vs iZ ps) {sp:Nat->Bool}(ko:∀ p∈ps,sp p.block=true):DataW.TrodAll enc P w' 0 sp true gL vs iZ ps :=
 (NX aK h).respare (kids_rows ao hm) (slices_full_of P bA) (λt h=>of_decide_eq_true (List.all_eq_true.1 aJ t h)) ko
end Go.Own
namespace Go.Own
open Go
section
variable {α β:Type}{P:Program}{N:dK}{g g1:aW}{p:Place}{m:Int}{a b:Operand}{t:TypeId}
theorem ag.JE:∀ (l:List Nat) {x nd:ag}{k:Nat}{c:ag},x.at l=some nd->nd.kids[k]?=some c->x.at (l++[k])=some c
 | [],x,nd,k,c,h,hk=>by
  simp only [ag.at,Option.some.injEq] at h;subst h;simp [ag.at,hk]
 | ae::l,x,nd,k,c,h,hk=>by
  simp only [ag.at] at h;cases aa:x.kids[ae]? with
  | none=>rw [aa] at h; cases h
  | some y =>
   rw [aa] at h;simp only [List.cons_append,ag.at,aa];exact ag.JE l h hk
theorem ag.NA:∀ (l:List Nat) {x nd:ag}{k:Nat}{c:ag}(y:ag),x.at l=some nd->nd.kids[k]?=some c->x.setAt (l++[k]) y=x.setAt l (nd.u0 k y)
 | [],x,nd,k,c,y,h,hk=>by
  simp only [ag.at,Option.some.injEq] at h;subst h;simp [ag.setAt,hk]
 | ae::l,x,nd,k,c,y,h,hk=>by
  simp only [ag.at] at h;cases aa:x.kids[ae]? with
  | none=>rw [aa] at h; cases h
  | some z =>
   rw [aa] at h;simp only [List.cons_append,ag.setAt,aa];rw [ag.NA l y h hk]
theorem Kv {en:cD α}{L:List α}{jU:α}{o:Nat}{c:ag}(h:idx L m=some jU) (ab:(en.cells jU)[o]?=some c):(ak en L).kids[m.toNat * en.z+o]?=some c:=Ng en h ab
theorem rM {en:cD α}{L:List α}{jU:α}{r o:Nat}{path:List Nat}{c:ag}(aG:b' g ⟨r,path⟩=some (ak en L)) (h:idx L m=some jU) (ab:(en.cells jU)[o]?=some c):b' g ⟨r,path++[m.toNat * en.z+o]⟩=some c:=by
 unfold b' at aG ⊢;simp only at aG ⊢;cases J:g r with
 | none=>rw [J] at aG; cases aG
 | some x =>
  rw [J] at aG;exact ag.JE path aG (Kv h ab)
theorem ND {en:cD α}{L:List α}{jU:α}{r o:Nat}{path:List Nat}{c:ag}(y:ag) (aG:b' g ⟨r,path⟩=some (ak en L)) (h:idx L m=some jU) (ab:(en.cells jU)[o]?=some c) :
  db g ⟨r,path++[m.toNat * en.z+o]⟩ y=db g ⟨r,path⟩ (.own en.z L.length ((cj en L).set (m.toNat * en.z+o) y)):=by
 funext s;unfold db;simp only;split
 ·rename_i e;subst e;unfold b' at aG;simp only at aG;cases J:g s with
  | none=>rfl
  | some x =>
   rw [J] at aG;simp only [Option.map_some,Option.some.injEq];rw [ag.NA path y aG (Kv h ab)];rfl
 ·rfl
theorem Vn (l:List ag) (k:Nat) (x c:ag):fL (l.set k x) k [c]=fL l k [c]:=by
 unfold fL;simp only [List.length_singleton];rw [List.take_set,List.drop_set];rw [List.set_eq_of_length_le (by simp; omega)];simp
theorem cq.BA {hL:Oper}{en:cD α}{en2:cD β}{L:List α}{jU y2:α}{pX M R:List β}{o s HH:Nat}{new di:List ag}{x2 y0:ag}{G2:List (Nat × ag)}
  (bh:hL.op=.store t a b) (aU:hL.dst=none) (bf:Rd g a (.ptr p (m.toNat * en.z+o))) (aK:Rd g b (.bo en2.z ⟨s,[]⟩ (pX.length+HH)))
  (s0:g s=some (.b8 en2.z ⟨p.root,p.path++[m.toNat * en.z+o]⟩ pX.length HH new)) (aG:b' g p=some (ak en L)) (h:idx L m=some jU) (lF:(en.cells jU)[o]?=some (ak en2 pX)) (bR:Nat.beq p.root s=false)
  (h1:iO (db (db g ⟨s,[]⟩ .dead) p (.own en.z L.length ((cj en L).set (m.toNat * en.z+o) .dead))) new di g1)
  (po:gC di (cj en2 M)) (hm:M.length=HH) (bl:pX++M=R) (bA:gA P t 1=true)
  (uz:b' g1 p=some (.own en.z L.length ((cj en L).set (m.toNat * en.z+o) .dead)))
  (he:fL (en.cells jU) o [ak en2 R]=en.cells y2) (hlen:Nat.ble (o+1) en.z=true)
  (hD:db g1 p (ak en (L.set m.toNat y2)) p.root=some x2) (aw:(get G2 p.root).isSome=true) (v8:g1 p.root=some y0) [ht:cS y0] (eu:lg g1 (get G2) p.root x2 G2):cq P N g hL (get G2):=by
 subst hm bl;have Ae:=Nat.le_of_ble_eq_true hlen;have ko:=Ib en (cs':=[ak en2 (pX++M)]) h he (by simpa using Ae);have Gx:(L.set m.toNat y2).length=L.length:=List.length_set;have Db:=Nat.ne_of_beq_eq_false bR;have z_:b' g ⟨p.root,p.path++[m.toNat * en.z+o]⟩=some (ak en2 pX):=rM (g:=g) (r:=p.root) (path:=p.path) aG h lF;have SX:b' (db g ⟨s,[]⟩ .dead) p=some (ak en L):=by
  unfold b' at aG ⊢;rw [tm (p:=⟨s,[]⟩) (λe=>Db e)]; exact aG
 have aJ:iO g [.bo en2.z ⟨s,[]⟩ (pX.length+M.length)] [.own en2.z (pX.length+M.length) (cj en2 pX++di)] g1:=by
  refine .jB s0 z_ bR ?_ .nil;rw [ND .dead (r:=p.root) (path:=p.path) SX h lF];exact h1
 have hk:m.toNat * en.z+o+1<=L.length * en.z:=by
  obtain ⟨te,j4,_⟩:=qk h;have al:m.toNat+1<=L.length:=by omega
  calc m.toNat * en.z+o+1<=m.toNat * en.z+en.z:=by omega
   _=(m.toNat+1) * en.z:=by rw [Nat.add_mul]; omega
   _<=L.length * en.z:=Nat.mul_le_mul_right _ al
 refine .store bh aU bf.bT aK.bT aJ.take (y':=ak en2 (pX++M)) ?_ rfl bA (p:=p) (nd:=.own en.z L.length ((cj en L).set (m.toNat * en.z+o) .dead)) (z:=en.z) (n:=L.length) (cs:=(cj en L).set (m.toNat * en.z+o) .dead) uz (.inl rfl) ?_ (by simp) (λt x J=>?_) (λt x J y az=>?_) (λt z q n m new J=>?_) (by intro e; rw [e] at aw; cases aw)
 ·rw [<- DH]; exact (po.pre _).own
 ·simp only [List.length_singleton,List.length_set,od]; exact hk
 ·have gg:(ag.own en.z L.length ((cj en L).set (m.toNat * en.z+o) .dead)).fL (m.toNat * en.z+o) [ak en2 (pX++M)]=ak en (L.set m.toNat y2):=by
   show ag.own en.z L.length (fL ((cj en L).set (m.toNat * en.z+o) .dead) (m.toNat * en.z+o) [ak en2 (pX++M)])=_;unfold ak at ko ⊢;rw [Vn,ko,Gx]
  rw [gg];rcases eu.spec t x J with ⟨h1,al,_⟩ | ⟨h1,al,_⟩
  ·rw [tm h1]; exact al
  ·subst h1 al; exact hD
 ·rcases eu.spec t x J with ⟨h1,al,aQ⟩ | ⟨h1,al,aQ⟩
  ·rw [al] at az; cases az;rcases aQ with aQ | ⟨aQ,c2,rfl⟩
   ·exact aQ.H'
   ·refine ki.ref (by cases aQ; rfl) ⟨aQ.MF,aQ.clear ?_,aQ.HO⟩;intro e;obtain ⟨hy,pp⟩:=p;simp only at e;subst e;simp only [db,if_true,v8,Option.map_some,ag.setAt,Option.some.injEq] at hD;cases hD
  ·subst h1; rw [v8] at az; cases az; exact .bL ht.bL
 ·rcases eu.spec t _ J with ⟨_,_,aQ | ⟨aQ,_⟩⟩ | ⟨_,_,aQ⟩
  ·exact aQ.fT _ _ _ _ _ rfl
  ·exact aQ.fT _ _ _ _ _ rfl
  ·cases aQ
end
end Go.Own
/- Short forms for printed walks. -/
namespace Go.Own
open Go
section
variable {P:Program}{N:dK}{ops:Array Oper}{ch:List (List Nat)}{g g0:aW}{K:aW->Prop}{l:List Oper}{acc:Acc}{d i:Nat}{op:Op}{ty:TypeId}{pos:String}{after:Array Edge}{x:ag}
theorem ai (aG:dv P g op ty x) (hk:av P N ops l (e5 g d x) K) (b5:N.ok d=true:=by rfl) (bn:g d=none:=by rfl):av P N ops (⟨some d,op,ty,pos,after,none⟩::l) g K:=.v aG b5 bn .none hk
theorem dJ (aG:cu P g op x) (hk:av P N ops l (e5 g d x) K) (b5:N.ok d=true:=by rfl) (bn:g d=none:=by rfl):av P N ops (⟨some d,op,ty,pos,after,none⟩::l) g K:=.c aG b5 bn .none hk
theorem ar (ds:Nat) (aG:dv P (oi ch g0 ds acc) op ty x) (hk:bN P N ops ch g0 i ((ds,d,some x)::acc) l K) (aa:Nat.beq ops.size (ds+l.length+1)=true:=by rfl) (bn:g0 d=none:=by rfl) (aP:acc.all (λe=>!Nat.beq e.2.1 d)=true:=by rfl) (b5:N.ok d=true:=by rfl) :
  bN P N ops ch g0 i acc (⟨some d,op,ty,pos,after,none⟩::l) K:=.v ds aG aa bn aP b5 .none hk
theorem iU (ds:Nat) (aG:cu P (oi ch g0 ds acc) op x) (hk:bN P N ops ch g0 i ((ds,d,some x)::acc) l K) (aa:Nat.beq ops.size (ds+l.length+1)=true:=by rfl) (bn:g0 d=none:=by rfl) (aP:acc.all (λe=>!Nat.beq e.2.1 d)=true:=by rfl) (b5:N.ok d=true:=by rfl) :
  bN P N ops ch g0 i acc (⟨some d,op,ty,pos,after,none⟩::l) K:=.c ds aG aa bn aP b5 .none hk
end
instance {z n:Nat}{cs:List ag}:oq (.own z n cs):=⟨by simp⟩
def aH (a n:Nat) (l:List Nat):List Nat:=List.range' a n++l
end Go.Own
namespace Go.Own
open Go
section
variable {α:Type}{P:Program}{N:dK}{g:aW}{d r:Nat}{ty:TypeId}
instance {fn:Fn}{cs:List ag} [h:eU cs]:cS (.et fn [] cs):=⟨.et (by simp) h.bL⟩
theorem hV.gQ {o:Oper}{xs:List Operand}{iC:Array TypeId}{f:FuncId}{ys args:List ag}{res:ag}{en:cD α}{L L':List α}{G2:List (Nat × ag)}(bh:o.op=.call { callee:=.value (.func f),args:=xs.toArray,argTypes:=iC }) (aU:o.dst=some d) (J:Own.iH g xs=some (.bo en.z ⟨r,[]⟩ L.length::ys))
  (aL:g r=some (ak en L)) (hv:p4 (get ((r,.dead)::G2)) ys args) (jb:cc P f (ak en L::args) (some (ak en L')::args.map λ_=>none) res) (bn:dB P f=true) [aw:qG res] [vS:qG (ak en L')]
  (eu:Trim false (db g ⟨r,[]⟩ .dead) (get ((r,.dead)::G2)) G2) (ba:get G2 d=none) (An:Nat.beq r d=false) (zY:Trim false (get ((r,ak en L')::G2)) (get ((r,ak en L')::G2)) G2) (b5:N.ok d=true) :
  hV P N g o d (get ((d,res)::(r,ak en L')::G2)):=by
 have Ao:r≠d:=Nat.ne_of_beq_eq_false An;have Fc:get ((r,ag.dead)::G2) r=some .dead:=by simp [get]
 have mE:∀ x∈cj en L,dc x:=by
  intro x J;obtain ⟨a,_,bf⟩:=List.mem_flatMap.1 J;exact en.bL a x bf
 have gb:(cj en L).take (L.length * en.z)=cj en L:=List.take_of_length_le (by rw [od]; exact Nat.le_refl _);have wj:fu (db g ⟨r,[]⟩ .dead) (get ((r,.dead)::G2)):=by
  refine ⟨λt x h=>?_,λt x h=>?_,λt z q n m new h=>?_⟩
  all_goals
   simp only [get] at h
   split at h
  ·rename_i e; subst e; cases h; simp [db,aL,ag.setAt]
  ·obtain ⟨⟨y,h1,_,aQ⟩,_⟩:=eu.spec t x h; rw [<- aQ rfl]; exact h1
  ·cases h; exact .bL .dead
  ·exact (eu.spec t x h).2.1
  ·cases h
  ·exact (eu.spec t _ h).2.2 _ _ _ _ _ rfl
 have put:pM (get ((r,.dead)::G2)) [(⟨r,[]⟩,ak en L')]=get ((r,ak en L')::G2):=by
  funext t;simp only [pM,db,get];by_cases h:t=r
  ·simp [h,ag.setAt]
  ·simp [h]
 have wk:fu (get ((r,ak en L')::G2)) (get ((r,ak en L')::G2)):=by
  refine ⟨λt x h=>h,λt x h=>?_,λt z q n m new h=>?_⟩
  all_goals
   simp only [get] at h
   split at h
  ·cases h; exact .bL vS.k8.bL
  ·exact (zY.spec t x h).2.1
  ·cases h
  ·exact (zY.spec t _ h).2.2 _ _ _ _ _ rfl
 have ao:=hv.len;have pb:get ((d,res)::(r,ak en L')::G2)=e5 (get ((r,ak en L')::G2)) d res:=by
  funext t;rw [t_]
 rw [pb];refine xj.ok (first:=[]) (caps:=[]) (ys:=.bo en.z ⟨r,[]⟩ L.length::ys) (tk:=λk=>k == 0) (vw:=true) (outs:=some (ak en L')::args.map λ_=>none) (g1:=db g ⟨r,[]⟩ .dead) (g2:=get ((r,.dead)::G2)) (g4:=get ((r,ak en L')::G2)) (l:=[(⟨r,[]⟩,ak en L')]) (ks:=λ_=>0) (xs0:=.bo en.z ⟨r,[]⟩ L.length::ys.map λ_=>.dead) (xs1:=ak en L::ys.map λ_=>.dead) (args:=ak en L::args) (res:=res) bh aU rfl (by simpa using J)
  ⟨bn,by simp,by simpa using ao,λk x h=>?_,?_,wj,λk x y J az=>?_,jb,by simpa using aw.k8,λk x h=>?_,λae p x aa=>?_,by simp,λi ae hi aa _=>by simp at hi aa; omega,by rw [put]; exact wk⟩ ?_ b5 u9.refl
 ·simp only [List.nil_append,List.append_nil] at h;cases k with
  | zero=>exact .inl h
  | succ k =>
   refine .inr ?_;simp only [List.getElem?_cons_succ] at h ⊢;rw [List.getElem?_map,h]; rfl
 ·have h1:Take (db g ⟨r,[]⟩ .dead) ((cj en L).take (L.length * en.z)) (cj en L) (db g ⟨r,[]⟩ .dead):=by rw [gb]; exact .bL mE
  refine .bo (N:=L.length) (by simp [b',aL,ag.at]) (Nat.le_refl _) h1 (.bL λx J=>?_);obtain ⟨_,_,rfl⟩:=List.mem_map.1 J;exact .dead
 ·simp only [List.nil_append,List.append_nil] at J;cases k with
  | zero=>simpa using az
  | succ k =>
   simp only [List.getElem?_cons_succ] at J az;exact ⟨rfl,hv.get k x y J az⟩
 ·cases k with
  | zero=>simp only [List.getElem?_cons_zero,Option.some.injEq] at h; subst h; exact vS.k8
  | succ k =>
   simp only [List.getElem?_cons_succ,List.getElem?_map] at h;cases bf:args[k]? <;> rw [bf] at h <;> cases h
 ·cases ae with
  | succ ae=>simp at aa
  | zero =>
   simp only [List.getElem?_cons_zero,Option.some.injEq,Prod.mk.injEq] at aa;obtain ⟨rfl,rfl⟩:=aa;exact ⟨rfl,by simp [b',Fc,ag.at],.inl ⟨en.z,L.length,cj en L,rfl,by simp [b',aL,ag.at]⟩⟩
 ·simp only [get,if_neg (Ne.symm Ao)]; exact ba
end
end Go.Own
namespace Go.Own
open Go Go.Proofs Go.Shelf Go.Lib Go.Sort
section
variable {P:Program}{w:World}
end
end Go.Own
namespace Go.Own
open Go
section
variable {α:Type}{P:Program}{N:dK}{g g1 g2 g3:aW}{ops:Array Oper}{ch:List (List Nat)}{acc:Acc}{l:List Oper}{K:aW->Prop}{i d r:Nat}
theorem c7.settle {w:World}{I:bz}{T:Array Value}{Fs:Nat->bz}(h:c7 w I T g Fs) (a:Act) (bf:a.tmps=T) {gL:List Nat}{xs ys:List ag}(J:Own.iH g (gL.map Operand.tmp)=some xs) (aJ:Take g xs ys g1) (gg:gL.Nodup) (ao:ys.length=gL.length) (aU:∀ t∈gL,g1 t=some .dead)
  (hk:fu (pM g1 ((gL.map λt=>(⟨t,[]⟩:Place)).zip ys)) g2):∃ cz,c7 w I T g2 cz/\∀ c,(∃ t,cz t c)->∃ t,Fs t c:=by
 obtain ⟨Ha,TJ⟩:=yq h bf J;have TI:xs.length=gL.length:=by rw [Ha,List.length_map]
 have hand:Hand w I (gl w T) Fs xs (gL.map λt=>a.eval (.tmp t)) (λ_=>cW):=by
  refine ⟨by rw [TI,List.length_map],λk x u pC hu=>?_,λ_ _ _ _ _ h=>h.elim,λ_ _ _ _ h=>h.elim,λ_ _ _ h=>h.elim⟩;rw [List.getElem?_map] at hu;cases gb:gL[k]? with
  | none=>rw [gb] at hu; cases hu
  | some t =>
   rw [gb] at hu; cases hu;exact (TJ k x (.tmp t) pC (by rw [List.getElem?_map,gb]; rfl)).frame (λ_ _=>rfl) (λ_ h=>h) (λ_ _ h=>h.1) λ_ _=>rfl
 obtain ⟨gj,H1,i_,iE,gV⟩:=aJ.sound h.mn hand;have s7:((gL.map λt=>(⟨t,[]⟩:Place)).zip ys).length=gL.length:=by rw [List.length_zip,List.length_map,ao]; exact Nat.min_self _
 obtain ⟨iV,ih,aT⟩:=jL.pM ((gL.map λt=>(⟨t,[]⟩:Place)).zip ys) H1 (λae=>((gL.map λt=>a.eval (.tmp t))[ae]?).getD undef) i_ (by
   rw [List.map_fst_zip (by rw [List.length_map,ao]; exact Nat.le_refl _)];exact List.Pairwise.map _ (λa b h e=>h (congrArg Place.root e)) gg) (λae p x aa=>by
   rw [List.getElem?_zip_eq_some] at aa;obtain ⟨h1,al⟩:=aa;rw [List.getElem?_map] at h1;cases gb:gL[ae]? with
   | none=>rw [gb] at h1; cases h1
   | some t =>
    rw [gb] at h1; cases h1;have Lu:=aU t (List.mem_of_getElem? gb);obtain ⟨v,hv,_⟩:=i_.rel t .dead Lu;have qc:a.eval (.tmp t)=v:=by simp [Act.eval,bf,hv]
    have GV:(gL.map λt=>a.eval (.tmp t))[ae]?=some v:=by rw [List.getElem?_map,gb]; simp [qc]
    refine ⟨by simp [b',Lu,ag.at],?_,?_⟩
    ·rw [GV];show eB w T ⟨t,[]⟩=some v;unfold eB;simp only [hv,walk]
    ·rw [GV];exact iE.rel ae x v al GV) (λae t c aa ab=>iE.off ae t c (by omega) ab) (λae c aa ab=>iE.aF ae c (by omega) ab) (λi ae c hi aa h1 al=>iE.e_ i ae c (by omega) (by omega) h1 al)
 refine ⟨_,ih.keep hk,λc ⟨t,_,ab⟩=>?_⟩;have:lb gj ys.length H1 c:=by
  rcases aT t c ab with h | ⟨ae,aa,h⟩
  ·exact .inl ⟨t,h⟩
  ·exact .inr ⟨ae,by omega,h⟩
 rcases gV c this with h | ⟨_,_,h⟩
 ·exact h
 ·exact h.elim
theorem mu.settle {o:Oper}{gL:List Nat}{xs ys:List ag}(J:Own.iH g (gL.map Operand.tmp)=some xs) (aJ:Take g xs ys g1) (gg:gL.Nodup) (ao:ys.length=gL.length) (aU:∀ t∈gL,g1 t=some .dead)
  (hk:fu (pM g1 ((gL.map λt=>(⟨t,[]⟩:Place)).zip ys)) g2) (he:mu P N g2 o g3):mu P N g o g3:=by
 intro w I T Fs b6 a bf b5 K Q eK;obtain ⟨cz,eL,gU⟩:=b6.settle a bf J aJ gg ao aU hk;refine he w I T cz eL a bf b5 K Q λcF w' aP aJ=>eK cF w' ?_ aJ;obtain ⟨dg,c5,I',iV,h1,al⟩:=aP;exact ⟨dg,c5,I',iV,h1,kR.trans ⟨Fr.refl _ _,λ_ h=>h,λ_ h=>.inl h,λc h=>.inl (gU c h)⟩ al⟩
def M4 (p q:Place):Bool:=Nat.beq p.root q.root&&p.path == q.path
def Ul (p:Place) (acc:Acc):Bool:=acc.all λe=>match mT e with | some q=>!M4 p q | none=>true
theorem Um {p:Place}{G:List (Nat × ag)}{A:Nat->Bool}(h:Ul p acc=true) (eu:s' G=true):∀ t z n m new,ep (get G) A acc t≠some (.b8 z p n m new):=by
 intro t z n m new e;rcases tw e with ⟨cU,he,h1,_,al⟩ | ⟨_,al⟩
 ·have:=List.all_eq_true.1 h cU he;obtain ⟨k,d,x⟩:=cU;simp only at al;subst al;simp [mT,M4] at this
 ·exact AV eu _ _ _ _ _ _ al
theorem mu.cell {o:Oper}{r k0:Nat}{y:ag}{cs:List ag}{g5:aW}(aw:g r=some (.obj cs)) (az:cs[k0]?=some y) (v_:dc y)
  (uy:∀ v:Value,v.oneCell'=true->∃ g1 g4,fu (db g ⟨r,[k0]⟩ (.lit v)) g1/\mu P N g1 o g4/\b' g4 ⟨r,[k0]⟩=some (.lit v)/\fu (db g4 ⟨r,[k0]⟩ y) g5):oZ P N (λp=>p∈[(⟨r,[k0]⟩:Place)]) g o g5:=by
 intro w I T Fs h a bf b5 K Q eK;have l8:∀ z q n m new,y≠.b8 z q n m new:=by rintro z q n m new rfl; cases v_
 have fW:b' g ⟨r,[k0]⟩=some y:=by simp [b',aw,ag.at,ag.kids,az]
 obtain ⟨v,cN,hv,dZ,dE,put⟩:=h.mn.part fW l8;have oK:v.oneCell'=true:=by
  obtain ⟨u,hu,mA⟩:=h.rel r _ aw;obtain ⟨b,tu,h1,al,aQ,bW,_⟩:=R.node (z:=0) (n:=0) (mA.h0 (by simp)) (.inr rfl) az;have:eB w T ⟨r,[k0]⟩=child w u k0:=by
   unfold eB;simp only [hu,walk];cases child w u k0 <;> rfl
  rw [this,aQ] at hv;cases hv;exact bW
 obtain ⟨gj,i_,zV,zW⟩:=put (.lit v) cW (.lit oK λ_ h=>h) (λ_ h=>h.elim) (λ_ h=>h.elim) (λ_ _ _ h=>h.elim);obtain ⟨g1,g4,hd,eo,F7,Gr⟩:=uy v oK;have ry:∀ t c,gj t c->Fs t c/\¬ cN c:=by
  intro t c ab;by_cases aJ:t=r
  ·subst aJ;rcases (zV c).1 ab with aR | aR
   ·exact aR
   ·exact aR.elim
  ·rw [zW t aJ] at ab;exact ⟨ab,λbn=>aJ (h.e_ t r c ab (dE c bn))⟩
 have FX:=i_.keep hd;refine eo w I T _ FX a bf b5 K Q λcF w' aP qf=>?_;obtain ⟨dg,c5,I',cz,eL,cf⟩:=aP;obtain ⟨v2,so,qh,l0,Rt,H7⟩:=eL.mn.part F7 (by simp);have GU:v2=v:=l0.il.1;subst GU;have FK:∀ c,cN c->¬ I c:=λc ab=>h.aF r c (dE c ab);have vI:∀ c,cN c->c<w.heap.size:=λc ab=>h.j2 r c (dE c ab);have wy:∀ c,cN c->¬ ∃ t,(g1 t≠none/\gj t c):=λc ab ⟨t,_,aR⟩=>(ry t c aR).2 ab;have AY:∀ t c,cz t c->¬ cN c:=by
  intro t c ab bn;rcases cf.own c ⟨t,ab⟩ with aR | aR
  ·exact wy c bn aR
  ·have:=vI c bn; omega
 have HN:∀ c,cN c->¬ I' c:=by
  intro c ab hi;rcases cf.new c hi with aR | aR | aR
  ·exact FK c ab aR
  ·exact wy c ab aR
  ·have:=vI c ab; omega
 have Ih:∀ c,cN c->w'.heap[c]?=w.heap[c]?:=λc ab=>cf.fF.block c (vI c ab) (wy c ab);have rp:∀ c,I c->w'.heap[c]?=w.heap[c]?:=λc ab=>cf.fF.block c (h.lt c ab) λ⟨t,_,aR⟩=>h.aF t c (ry t c aR).1 ab;have z6:R w' I' (gl w' cF.tmps) y v2 cN:=((dZ.bL v_).frame rp cf.more (λ_ _ h=>h) Ih);obtain ⟨I7,FZ,FF,FG⟩:=H7 y cN z6 (λc ab bn=>(AY _ c bn ab).elim) (λc ab=>HN c ab) (λt c _ ab bn=>AY t c bn ab);have sR:=FZ.keep Gr;refine eK cF w' ⟨dg,c5,I',_,sR,⟨?_,cf.more,λc ab=>?_,λc ab=>?_⟩⟩ qf λe8 path aG y' mM Xc=>?_
 ·exact cf.fF.mono λb _ ⟨t,_,aR⟩=>⟨t,(ry t b aR).1⟩
 ·rcases cf.new c ab with aR | ⟨t,_,aR⟩ | aR
  ·exact .inl aR
  ·exact .inr (.inl ⟨t,(ry t c aR).1⟩)
  ·exact .inr (.inr aR)
 ·obtain ⟨t,_,ab⟩:=ab;have:(∃ t,cz t c)\/cN c:=by
   by_cases aJ:t=r
   ·subst aJ;rcases (FF c).1 ab with ⟨aR,_⟩ | aR
    ·exact .inl ⟨_,aR⟩
    ·exact .inr aR
   ·rw [FG t aJ] at ab; exact .inl ⟨t,ab⟩
  rcases this with aR | aR
  ·rcases cf.own c aR with ⟨t,_,gJ⟩ | gJ
   ·exact .inl ⟨t,(ry t c gJ).1⟩
   ·exact .inr gJ
  ·exact .inl ⟨r,dE c aR⟩
 ·have aG:(⟨e8,path⟩:Place)∈[(⟨r,[k0]⟩:Place)]:=aG;have aG:=List.mem_singleton.1 aG;cases aG;rw [hv,qh]
end
end Go.Own
namespace Go.Own
open Go
section
variable {α:Type}{P:Program}{N:dK}{g:aW}{ops:Array Oper}{l:List Oper}{K:aW->Prop}{r n:Nat}{t e ty:TypeId}{a b:Operand}{m:Int}{en:cD α}{L:List α}{y y2:α}{k:IntKind}{pos:String}{after:Array Edge}
end
end Go.Own
namespace Go.Own
open Go Go.Proofs Go.Shelf Go.Lib Go.Sort
section
variable {P:Program}{w:World}
class vd {α:Type}(e:cD α) where
 Ec:α->List Value
 cells:∀ a,e.cells a=(Ec a).map .lit
 one:∀ a,∀ v∈Ec a,v.oneCell'=true
variable {α:Type}{e:cD α}
theorem vd.len [h:vd e] (a:α):(h.Ec a).length=e.z:=by
 have:=e.len a;rw [h.cells,List.length_map] at this;exact this
end
end Go.Own
namespace Go.Own
open Go
section
variable {α:Type}{P:Program}{N:dK}{g:aW}{d r:Nat}
theorem hV.tk {o:Oper}{x:Operand}{iC:Array TypeId}{f:FuncId}{res:ag}{en:cD α}{L:List α}{G2:List (Nat × ag)}(bh:o.op=.call { callee:=.value (.func f),args:=#[x],argTypes:=iC }) (aU:o.dst=some d) (J:Own.iH g [x]=some [.bo en.z ⟨r,[]⟩ L.length])
  (aL:g r=some (ak en L)) (jb:cc P f [ak en L] [none] res) (bn:dB P f=true) [aw:cS res]
  (eu:Trim false (db g ⟨r,[]⟩ .dead) (get G2) G2) (ba:get G2 d=none) (b5:N.ok d=true) :
  hV P N g o d (get ((d,res)::G2)):=by
 have mE:∀ x∈cj en L,dc x:=by
  intro x J;obtain ⟨a,_,bf⟩:=List.mem_flatMap.1 J;exact en.bL a x bf
 have gb:(cj en L).take (L.length * en.z)=cj en L:=List.take_of_length_le (by rw [od]; exact Nat.le_refl _);have wj:fu (db g ⟨r,[]⟩ .dead) (get G2):=by
  refine ⟨λt x h=>?_,λt x h=>(eu.spec t x h).2.1,λt z q n m new h=>(eu.spec t _ h).2.2 _ _ _ _ _ rfl⟩;obtain ⟨⟨y,h1,_,aQ⟩,_⟩:=eu.spec t x h;rw [<- aQ rfl]; exact h1
 have wk:fu (get G2) (get G2):=⟨λt x h=>h,λt x h=>(eu.spec t x h).2.1,λt z q n m new h=>(eu.spec t _ h).2.2 _ _ _ _ _ rfl⟩;have pb:get ((d,res)::G2)=e5 (get G2) d res:=by
  funext t;rw [t_]
 rw [pb];refine xj.ok (first:=[]) (caps:=[]) (ys:=[.bo en.z ⟨r,[]⟩ L.length]) (tk:=λk=>k == 0) (vw:=false) (outs:=[none]) (g1:=db g ⟨r,[]⟩ .dead) (g2:=get G2) (g4:=get G2) (l:=[]) (ks:=λ_=>0) (xs0:=[.bo en.z ⟨r,[]⟩ L.length]) (xs1:=[ak en L]) (args:=[ak en L]) (res:=res) bh aU rfl J
  ⟨bn,by simp,by simp,λk x h=>.inl h,?_,wj,λk x y J az=>?_,jb,by simpa using aw.bL,λk x h=>?_,λae p x aa=>by simp at aa,by simp,λi ae hi aa _=>by simp at hi,wk⟩ ba b5 u9.refl
 ·have h1:Take (db g ⟨r,[]⟩ .dead) ((cj en L).take (L.length * en.z)) (cj en L) (db g ⟨r,[]⟩ .dead):=by rw [gb]; exact .bL mE
  exact .bo (N:=L.length) (by simp [b',aL,ag.at]) (Nat.le_refl _) h1 (.bL λx J=>by simp at J)
 ·cases k with
  | zero=>simpa using az
  | succ k=>simp at az
 ·cases k with
  | zero=>simp at h
  | succ k=>simp at h
end
end Go.Own
namespace Go.Own
open Go Go.Proofs Go.Shelf Go.Lib Go.Sort
section
variable {α:Type} [DecidableEq α]
end
section
variable {α:Type}{e:cD α}{P:Program}{w:World}
variable [DecidableEq α] [Inhabited α]
end
end Go.Own
namespace Go.Proofs
open Go.Shelf Go.RowKit Go.Lib Go.Sort
variable {α:Type} [Inhabited α] [DecidableEq α]
namespace Two
open Go.Own
variable {P:Program}{t:TypeId}
omit [Inhabited α] [DecidableEq α] in
theorem one (f:α->Int):OneCell λx=>Value.int .i64 (f x):=λ_=>rfl
end Two
end Go.Proofs
namespace Go.Own
open Go Go.Proofs Go.Shelf Go.Lib Go.Sort
def rq (k:IntKind) (m n:Int):Int:=m.fdiv (2 ^ (min n.toNat k.bits))
theorem O.shr {P:Program}{g:aW}{t t2 ty:TypeId}{a b:Operand}{k lv:IntKind}{m n:Int}(J:Rd g a (.lit (.int k m))) (az:Rd g b (.lit (.int lv n))) (h:decide (0<=n)=true):dv P g (.binOp .shr t a b t2) ty (.lit (.int k (rq k m n))):=by
 have bd:¬ n<0:=by have:=of_decide_eq_true h; omega
 exact .fq (.bin J.bT az.bT rfl λw=>by simp [eqGuard,binOp,Op.shift,bd,rq])
section
variable {α:Type}{e:cD α}{P:Program}{w:World}
end
end Go.Own
namespace Go.Own
open Go
section
variable {α:Type}{P:Program}{N:dK}{g:aW}{d r:Nat}
end
end Go.Own
namespace Go.Own
open Go
theorem q {α:Sort _}{a:α}:a=a:=rfl
abbrev aC:ByteArray:={ data:=#[] }
theorem oQ {p:Prop} [Decidable p] (h:decide p=true):p:=of_decide_eq_true h
theorem ff {b:Bool}{g h:aW}{fr s1:Nat}{fB aI:ag}(bd:g fr=some fB) [cS fB] (h1:g s1=some aI) [cS aI]:Trim b g h [(fr,fB),(s1,aI)]:=(.n bd (.n h1 .nil))
theorem dF {b:Bool}{g h:aW}{fr s1 s2:Nat}{fB aI x2:ag}(bd:g fr=some fB) [cS fB] (h1:g s1=some aI) [cS aI] (al:g s2=some x2) [cS x2]:Trim b g h [(fr,fB),(s1,aI),(s2,x2)]:=(.n bd (.n h1 (.n al .nil)))
theorem dT {b:Bool}{g h:aW}{fr s1 s2 ee:Nat}{fB aI x2 aZ:ag}(bd:g fr=some fB) [cS fB] (h1:g s1=some aI) [cS aI] (al:g s2=some x2) [cS x2] (aQ:g ee=some aZ) [cS aZ]:Trim b g h [(fr,fB),(s1,aI),(s2,x2),(ee,aZ)]:=(.n bd (.n h1 (.n al (.n aQ .nil))))
theorem e1 {b:Bool}{g h:aW}{fr s1 s2 ee bO:Nat}{fB aI x2 aZ bs:ag}(bd:g fr=some fB) [cS fB] (h1:g s1=some aI) [cS aI] (al:g s2=some x2) [cS x2] (aQ:g ee=some aZ) [cS aZ] (bW:g bO=some bs) [cS bs]:Trim b g h [(fr,fB),(s1,aI),(s2,x2),(ee,aZ),(bO,bs)]:=(.n bd (.n h1 (.n al (.n aQ (.n bW .nil)))))
theorem eI {b:Bool}{g h:aW}{fr s1 s2 ee bO cH:Nat}{fB aI x2 aZ bs cn:ag}(bd:g fr=some fB) [cS fB] (h1:g s1=some aI) [cS aI] (al:g s2=some x2) [cS x2] (aQ:g ee=some aZ) [cS aZ] (bW:g bO=some bs) [cS bs] (da:g cH=some cn) [cS cn]:Trim b g h [(fr,fB),(s1,aI),(s2,x2),(ee,aZ),(bO,bs),(cH,cn)]:=(.n bd (.n h1 (.n al (.n aQ (.n bW (.n da .nil))))))
theorem gv {b:Bool}{g h:aW}{fr s1 s2 ee bO cH c_:Nat}{fB aI x2 aZ bs cn br:ag}(bd:g fr=some fB) [cS fB] (h1:g s1=some aI) [cS aI] (al:g s2=some x2) [cS x2] (aQ:g ee=some aZ) [cS aZ] (bW:g bO=some bs) [cS bs] (da:g cH=some cn) [cS cn] (eb:g c_=some br) [cS br]:Trim b g h [(fr,fB),(s1,aI),(s2,x2),(ee,aZ),(bO,bs),(cH,cn),(c_,br)]:=(.n bd (.n h1 (.n al (.n aQ (.n bW (.n da (.n eb .nil)))))))
theorem j6 {b:Bool}{g h:aW}{fr s1 s2 ee bO cH c_ eW:Nat}{fB aI x2 aZ bs cn br bj:ag}(bd:g fr=some fB) [cS fB] (h1:g s1=some aI) [cS aI] (al:g s2=some x2) [cS x2] (aQ:g ee=some aZ) [cS aZ] (bW:g bO=some bs) [cS bs] (da:g cH=some cn) [cS cn] (eb:g c_=some br) [cS br] (kC:g eW=some bj) [cS bj]:Trim b g h [(fr,fB),(s1,aI),(s2,x2),(ee,aZ),(bO,bs),(cH,cn),(c_,br),(eW,bj)]:=(.n bd (.n h1 (.n al (.n aQ (.n bW (.n da (.n eb (.n kC .nil))))))))
theorem nq {b:Bool}{g h:aW}{fr s1 s2 ee bO cH c_ eW cw:Nat}{fB aI x2 aZ bs cn br bj b1:ag}(bd:g fr=some fB) [cS fB] (h1:g s1=some aI) [cS aI] (al:g s2=some x2) [cS x2] (aQ:g ee=some aZ) [cS aZ] (bW:g bO=some bs) [cS bs] (da:g cH=some cn) [cS cn] (eb:g c_=some br) [cS br] (kC:g eW=some bj) [cS bj] (qS:g cw=some b1) [cS b1]:Trim b g h [(fr,fB),(s1,aI),(s2,x2),(ee,aZ),(bO,bs),(cH,cn),(c_,br),(eW,bj),(cw,b1)]:=(.n bd (.n h1 (.n al (.n aQ (.n bW (.n da (.n eb (.n kC (.n qS .nil)))))))))
theorem pS {b:Bool}{g h:aW}{fr s1 s2 ee bO cH c_ eW cw mh:Nat}{fB aI x2 aZ bs cn br bj b1 cp:ag}(bd:g fr=some fB) [cS fB] (h1:g s1=some aI) [cS aI] (al:g s2=some x2) [cS x2] (aQ:g ee=some aZ) [cS aZ] (bW:g bO=some bs) [cS bs] (da:g cH=some cn) [cS cn] (eb:g c_=some br) [cS br] (kC:g eW=some bj) [cS bj] (qS:g cw=some b1) [cS b1] (r1:g mh=some cp) [cS cp]:Trim b g h [(fr,fB),(s1,aI),(s2,x2),(ee,aZ),(bO,bs),(cH,cn),(c_,br),(eW,bj),(cw,b1),(mh,cp)]:=(.n bd (.n h1 (.n al (.n aQ (.n bW (.n da (.n eb (.n kC (.n qS (.n r1 .nil))))))))))
theorem IB {b:Bool}{g h:aW}{fr s1 s2 ee bO cH c_ eW cw mh cV:Nat}{fB aI x2 aZ bs cn br bj b1 cp bZ:ag}(bd:g fr=some fB) [cS fB] (h1:g s1=some aI) [cS aI] (al:g s2=some x2) [cS x2] (aQ:g ee=some aZ) [cS aZ] (bW:g bO=some bs) [cS bs] (da:g cH=some cn) [cS cn] (eb:g c_=some br) [cS br] (kC:g eW=some bj) [cS bj] (qS:g cw=some b1) [cS b1] (r1:g mh=some cp) [cS cp] (Q3:g cV=some bZ) [cS bZ]:Trim b g h [(fr,fB),(s1,aI),(s2,x2),(ee,aZ),(bO,bs),(cH,cn),(c_,br),(eW,bj),(cw,b1),(mh,cp),(cV,bZ)]:=(.n bd (.n h1 (.n al (.n aQ (.n bW (.n da (.n eb (.n kC (.n qS (.n r1 (.n Q3 .nil)))))))))))
section
variable {P:Program}{N:dK}{ops:Array Oper}{g:aW}{K:aW->Prop}{l:List Oper}{d t:Nat}{ty:TypeId}{pos:String}{after:Array Edge}{v:Value}
theorem nK {G1:List (Nat × ag)}(h:Trim true g (get G1) G1):av P N ops [] g λg'=>kS g' (get G1):=.fin h
theorem bu (h:g t=some (.lit v)) (hk:av P N ops l (e5 g d (.lit v)) K) (b5:N.ok d=true:=by rfl) (bn:g d=none:=by rfl):av P N ops (⟨some d,.move (.tmp t),ty,pos,after,none⟩::l) g K:=ai (O.aA (.lit h)) hk b5 bn
theorem Ou (h:g t=some (.lit v)) (hk:av P N ops l (e5 g d (.lit v)) K) (b5:N.ok d=true:=by rfl) (bn:g d=none:=by rfl):av P N ops (⟨some d,.assign (.tmp t),ty,pos,after,none⟩::l) g K:=ai (O.dz (.lit h)) hk b5 bn
theorem Ov (h:ofConst v=.lit v) (hk:av P N ops l (e5 g d (.lit v)) K) (b5:N.ok d=true:=by rfl) (bn:g d=none:=by rfl):av P N ops (⟨some d,.assign (.const v),ty,pos,after,none⟩::l) g K:=ai (O.dz (.k h)) hk b5 bn
end
end Go.Own
namespace Go.Own
open Go
section
variable {α:Type}{g:aW}
end
end Go.Own
namespace Go.Own
open Go
section
variable {α:Type}{P:Program}{N:dK}{g:aW}{d r:Nat}
theorem hV.kO {o:Oper}{xs:List Operand}{iC:Array TypeId}{f:FuncId}{ys:List ag}{res:ag}{en:cD α}{L:List α}{G2:List (Nat × ag)}(bh:o.op=.call { callee:=.value (.func f),args:=xs.toArray,argTypes:=iC }) (aU:o.dst=some d) (J:Own.iH g xs=some (.bo en.z ⟨r,[]⟩ L.length::ys))
  (aL:g r=some (ak en L)) (jb:cc P f (ak en L::ys) (none::ys.map λ_=>none) res) (bn:dB P f=true) [aw:cS res] [aP:eU ys]
  (eu:Trim false (db g ⟨r,[]⟩ .dead) (get G2) G2) (ba:get G2 d=none) (b5:N.ok d=true) :
  hV P N g o d (get ((d,res)::G2)):=by
 have mE:∀ x∈cj en L,dc x:=by
  intro x J;obtain ⟨a,_,bf⟩:=List.mem_flatMap.1 J;exact en.bL a x bf
 have gb:(cj en L).take (L.length * en.z)=cj en L:=List.take_of_length_le (by rw [od]; exact Nat.le_refl _);have wj:fu (db g ⟨r,[]⟩ .dead) (get G2):=by
  refine ⟨λt x h=>?_,λt x h=>(eu.spec t x h).2.1,λt z q n m new h=>(eu.spec t _ h).2.2 _ _ _ _ _ rfl⟩;obtain ⟨⟨y,h1,_,aQ⟩,_⟩:=eu.spec t x h;rw [<- aQ rfl]; exact h1
 have wk:fu (get G2) (get G2):=⟨λt x h=>h,λt x h=>(eu.spec t x h).2.1,λt z q n m new h=>(eu.spec t _ h).2.2 _ _ _ _ _ rfl⟩;have pb:get ((d,res)::G2)=e5 (get G2) d res:=by
  funext t;rw [t_]
 rw [pb];refine xj.ok (first:=[]) (caps:=[]) (ys:=.bo en.z ⟨r,[]⟩ L.length::ys) (tk:=λ_=>true) (vw:=false) (outs:=none::ys.map λ_=>none) (g1:=db g ⟨r,[]⟩ .dead) (g2:=get G2) (g4:=get G2) (l:=[]) (ks:=λ_=>0) (xs0:=.bo en.z ⟨r,[]⟩ L.length::ys) (xs1:=ak en L::ys) (args:=ak en L::ys) (res:=res) bh aU rfl (by simpa using J)
  ⟨bn,by simp,by simp,λk x h=>.inl (by simpa using h),?_,wj,λk x y J az=>by simpa using az,jb,by simpa using aw.bL,λk x h=>?_,λae p x aa=>by simp at aa,by simp,λi ae hi aa _=>by simp at hi,wk⟩ ba b5 u9.refl
 ·have h1:Take (db g ⟨r,[]⟩ .dead) ((cj en L).take (L.length * en.z)) (cj en L) (db g ⟨r,[]⟩ .dead):=by rw [gb]; exact .bL mE
  exact .bo (N:=L.length) (by simp [b',aL,ag.at]) (Nat.le_refl _) h1 (.bL aP.bL)
 ·cases k with
  | zero=>simp at h
  | succ k =>
   simp only [List.getElem?_cons_succ,List.getElem?_map] at h;cases bf:ys[k]? <;> rw [bf] at h <;> cases h
end
end Go.Own
namespace Go.Own
open Go
class vf (x:ag):Prop where pl:o2 x
class B4 (cs:List ag):Prop where pl:∀ x∈cs,o2 x
instance {v:Value}:vf (.lit v):=⟨.lit⟩
instance:vf .aN:=⟨.aN⟩
instance {z n:Nat}{cs:List ag} [h:eU cs]:vf (.aF z n cs):=⟨.aF h.bL⟩
instance {α:Type}{e:cD α}{L:List α}:vf (aj e L):=⟨.aF (eU.bL (cs:=cj e L))⟩
instance {cs:List ag} [h:B4 cs]:vf (.agg cs):=⟨.agg h.pl⟩
instance:B4 []:=⟨by simp⟩
instance {x:ag}{cs:List ag} [h:vf x] [aR:B4 cs]:B4 (x::cs):=⟨λy az=>by
 rcases List.mem_cons.1 az with rfl | az
 ·exact h.pl
 ·exact aR.pl y az⟩
class B1 (G:List (Nat × ag)):Prop where bL:∀ t x,get G t=some x->dc x
instance:B1 []:=⟨λt x h=>by cases h⟩
instance {s:Nat}{x:ag}{G:List (Nat × ag)} [h:cS x] [aR:B1 G]:B1 ((s,x)::G):=⟨λt y az=>by
 simp only [get] at az
 split at az
 ·cases az; exact h.bL
 ·exact aR.bL t y az⟩
class xv (acc:Acc):Prop where bL:∀ e∈acc,∀ x,e.2.2=some x->dc x
instance:xv []:=⟨by simp⟩
instance {k d:Nat}{x:ag}{acc:Acc} [h:cS x] [aR:xv acc]:xv ((k,d,some x)::acc):=⟨λe he y az=>by
 rcases List.mem_cons.1 he with rfl | he
 ·cases az; exact h.bL
 ·exact aR.bL e he y az⟩
instance {k d:Nat}{acc:Acc} [aR:xv acc]:xv ((k,d,none)::acc):=⟨λe he y az=>by
 rcases List.mem_cons.1 he with rfl | he
 ·cases az
 ·exact aR.bL e he y az⟩
theorem PB {G:List (Nat × ag)}{A:Nat->Bool}{acc:Acc} [h:B1 G] [aR:xv acc]:Em (ep (get G) A acc):=by
 have key:∀ t x,ep (get G) A acc t=some x->dc x:=λt x J=>by
  rcases tw J with ⟨e,he,_,_,al⟩ | ⟨_,al⟩
  ·exact aR.bL e he x al
  ·exact h.bL t x al
 exact ⟨λt x J=>.bL (key t x J),λt z q n m new J=>by cases key t _ J⟩
end Go.Own
namespace Go.Own
open Go Go.MapKept Go.ChangeMaps
section
variable {P:Program}{w:World}{I:bz}{T:Array Value}{g g2:aW}{Fs:Nat->bz}
end
end Go.Own
namespace Go.Own
open Go Go.MapKept Go.ChangeMaps Go.WideElems
open Go.Maps (Keyed)
set_option linter.unusedVariables false
variable {kv lO:Type}{P:Program}{k e:TypeId}
abbrev xw:Value->Option (DataW Value × List MemPlace):=λv=>some (.held v,[])
def oh [DecidableEq kv]:List (kv × lO)->kv->Option lO
 | [],_=>none
 | p::m,x=>if p.1=x then some p.2 else oh m x
def s9 [DecidableEq kv] (ok:kv->Bool) (z:lO) (m:List (kv × lO)) (x:kv):Option lO:=if ok x then some ((oh m x).getD z) else none
def AR (ok:kv->Bool) (m:List (kv × lO)) (x:kv) (y:lO):Option (List (kv × lO)):=if ok x&&decide (m.length<=lim) then some ((x,y)::m) else none
structure BY (P:Program) (k:TypeId) (kv:Type) where
 pG:kv->Value
 wm:kv->Lit
 Hv:kv->ag
 ok:kv->Bool
 keyed:Keyed P k
 key:∀ x,ok x=true->keyOf P k (pG x)=some (wm x)
 inj:∀ x y,wm x=wm y->x=y
 Cc:∀ (x:kv) (w:World) (I:bz) (ρ:ag->Value->Prop) (v:Value),R w I ρ (Hv x) v cW->v=pG x
structure BZ (P:Program) (e:TypeId) (lO:Type) where
 oj:lO->Value
 Eb:lO->ag
 z:lO
 zero:∀ w,(zeroValue e).run P w=.ok (oj z) w
 one:∀ x,(oj x).oneCell'=true
 Cc:∀ (x:lO) (w:World) (I:bz) (ρ:ag->Value->Prop) (v:Value),R w I ρ (Eb x) v cW->v=oj x
 va:∀ (x:lO) (w:World) (I:bz) (ρ:ag->Value->Prop),R w I ρ (Eb x) (oj x) cW
def w2 (P:Program) (k:TypeId) (es:Array MapEntry):List (Lit × DataW Value):=(es.toList.map (rg P k xw)).foldr DataW.insert []
def su [DecidableEq kv] (K:BY P k kv) (V:BZ P e lO) (m:List (kv × lO)):Array MapEntry->Nat->Prop:=λes c=>Fit P k xw es c/\es.size<=m.length/\∀ x Eg,(DataW.map (w2 P k es)).atKey (K.wm x) Eg=match oh m x with | some y=>.held (V.oj y) | none=>Eg
variable [DecidableEq kv] {K:BY P k kv}{V:BZ P e lO}{m bS:List (kv × lO)}{x:kv}{y:lO}{t:TypeId}
theorem su.nil:su K V [] #[] 0:=⟨⟨by simp,stamped_empty 0,by simp⟩,Nat.le_refl _,λx Eg=>rfl⟩
theorem su.look (ok:Bool) (eo:K.ok x=true) (aJ:P.underlying t=some (.map k e)) (w:World) (b:Nat) (es:Array MapEntry) (c:Nat) (aK:w.heap[b]?=some (.map es c)) (h:su K V m es c) :
  (Instr.lookup t (.map (some b)) (K.pG x) ok).run P w=.ok (if ok then .tuple #[V.oj ((oh m x).getD V.z),.bool (oh m x).isSome] else V.oj ((oh m x).getD V.z)) w:=by
 obtain ⟨F,_,fW⟩:=h;have fW:=fW x;rcases Maps.fit_look ok K.keyed aJ (V.zero w) aK F (K.key x eo) with ⟨ij,_,al⟩ | ⟨jN,y,_,_,ij,az,al,_⟩
 ·have:oh m x=none:=by
   cases ba:oh m x with
   | none=>rfl
   | some y =>
    have h1:=fW .nil;rw [ba] at h1;have aQ:=al .nil;unfold w2 at h1;rw [h1] at aQ; cases aQ
  rw [ij,this]; rfl
 ·cases az;cases ba:oh m x with
  | none =>
   have h1:=fW .nil;rw [ba] at h1;have aQ:=al .nil;unfold w2 at h1;rw [h1] at aQ; cases aQ
  | some y =>
   have h1:=fW .nil;rw [ba] at h1;have aQ:=al .nil;unfold w2 at h1;rw [h1] at aQ;have bW:jN.val=V.oj y:=by simpa using aQ.symm
   rw [ij,bW]; rfl
theorem su.put (bd:AR K.ok m x y=some bS) (aJ:P.underlying t=some (.map k e)) (w:World) (b:Nat) (es:Array MapEntry) (c:Nat) (aK:w.heap[b]?=some (.map es c)) (h:su K V m es c) :
  ∃ vB vk,(Instr.mapUpdate t (.map (some b)) (K.pG x) (V.oj y)).run P w=.ok () (setBlock w b (.map vB vk))/\su K V bS vB vk:=by
 unfold AR at bd
 split at bd
 ·rename_i ab;cases bd;simp only [Bool.and_eq_true,decide_eq_true_eq] at ab;obtain ⟨eo,ao⟩:=ab;obtain ⟨F,aL,fW⟩:=h;have LI:=K.key x eo;obtain ⟨vB,vk,ij,f',nf,_⟩:=Maps.fit_store (R':=xw) K.keyed aJ aK F (by have:maxLen=9223372036854775807:=rfl; simp only [lim] at ao; omega) (λ_ _ _ _ bA=>bA) LI (rfl:xw (V.oj y)=some (.held (V.oj y),[]));refine ⟨vB,vk,ij,f',?_,λx' Eg=>?_⟩
  ·have dg:vB.size=((vB.toList.map (rg P k xw)).foldr DataW.insert []).length:=by rw [length_sorted]; simp
   rw [dg,nf];unfold putKey;rw [length_insert];have c5:=List.length_filter_le (notKey (K.wm x)) ((es.toList.map (rg P k xw)).foldr DataW.insert []);rw [length_sorted] at c5;simp at c5 ⊢;omega
  ·have jo:(DataW.map (w2 P k vB))=(DataW.map (w2 P k es)).put (K.wm x) (.held (V.oj y)):=by
    rw [DataW.put_eq]; unfold w2; rw [nf]
   rw [jo];by_cases J:x=x'
   ·subst J;rw [Maps.atKey_put_same ⟨_,rfl⟩ (K.keyed.key LI)];simp [oh]
   ·rw [Maps.atKey_put_other (λe=>J (K.inj _ _ e).symm),fW];simp [oh,J]
 ·cases bd
section
variable {N:dK}{g:aW}{a b c:Operand}{p:Place}{ty:TypeId}
instance {q:Array MapEntry->Nat->Prop}:cS (.mp q):=⟨.mp⟩
instance {q:Array MapEntry->Nat->Prop}:cS (.imp q):=⟨.imp⟩
instance {q:Array MapEntry->Nat->Prop}:qG (.mp q):=⟨.mp⟩
theorem O.AM {r:lO}{X Y:ag}(hm:Rd g a (.imp (su K V m))) (J:Rd g b Y) (RS:K.Hv x=Y) (aJ:P.underlying t=some (.map k e)) (h:s9 K.ok V.z m x=some r) (F3:V.Eb r=X):dv P g (.lookup t a b false) ty X:=by
 subst F3 RS;unfold s9 at h
 split at h
 ·rename_i eo;cases h;exact .fq (.AM hm.bT J.bT (K.Cc x) (V.va _) λw b es c aK bR=>su.look false eo aJ w b es c aK bR)
 ·cases h
end
def rh (n:Int):Bool:=decide (-9223372036854775808<=n/\n<9223372036854775808)
def On (hk:P.underlying k=some (.int .i64)):BY P k Int where
 pG n:=.int .i64 n
 wm n:=.int .i64 n
 Hv n:=j n
 ok:=rh
 keyed:=Maps.int_keyed hk
 key n h:=Maps.keyOf_int_mk hk (by
  unfold rh at h;have:=of_decide_eq_true h;unfold Lit.wf;rw [Bool.and_eq_true];refine ⟨decide_eq_true ?_,decide_eq_true ?_⟩
  ·show (-9223372036854775808:Int)<=n; omega
  ·show n<=(9223372036854775807:Int); omega)
 inj x y h:=by cases h; rfl
 Cc x w I ρ v h:=h.il.1
def Oo (bA:(P.info? e).bind (·.zero)=some (.int .i64 0)):BZ P e Int where
 oj n:=.int .i64 n
 Eb n:=j n
 z:=0
 zero w:=EL bA w
 one _:=rfl
 Cc x w I ρ v h:=h.il.1
 va x w I ρ:=.lit rfl λ_ h=>h
end Go.Own
namespace Go.Own
open Go
section
variable {α:Type}{P:Program}{N:dK}{g:aW}{d r:Nat}{ty t t2 e:TypeId}{a b:Operand}{k lv:IntKind}{m n:Int}{p:Place}
def rK (k:IntKind) (m n:Int):Int:=k.wrap ((BitVec.ofInt k.bits m &&& BitVec.ofInt k.bits n).toNat)
theorem O.and' (J:Rd g a (.lit (.int k m))) (az:Rd g b (.lit (.int k n))):dv P g (.binOp .and t a b t2) ty (.lit (.int k (rK k m n))) :=
 .fq (.bin J.bT az.bT rfl λw=>by simp [eqGuard,binOp,Op.intBits,rK])
theorem W.Pw {x y:Code}{G:List (Nat × ag)}{Φ:Exit->aW->Prop}(h:W P N y (get G) Φ):W P N (.cond (.const (.bool false)) x y) (get G) Φ:=W.E' rfl h
def uG (L:List α) (m:Int):Option Unit:=if 0<=m/\m<=L.length then some () else none
theorem T0 {L:List α}{u:Unit}(h:uG L m=some u):m.toNat<=L.length:=by
 unfold uG at h
 split at h
 ·omega
 ·cases h
instance:vd aM:=⟨λx=>[.int .i64 x],λ_=>rfl,λx v hv=>by rw [List.mem_singleton.1 hv]; rfl⟩
theorem O.Is {en:cD α}{L:List α}{u:Unit}(J:Rd g a (.bo en.z p L.length)) (ao:Rd g b (.lit (.int k m))) (aG:b' g p=some (ak en L)) (aJ:ft P t e en.z=true) (h:uG L m=some u):dv P g (.slice t a (some b) none none) ty (.sub en.z p m.toNat (L.length - m.toNat)):=by
 unfold uG at h
 split at h
 ·rename_i ab;obtain ⟨i,rfl⟩:=Int.eq_ofNat_of_zero_le ab.1;exact .fq (.D6 J.bT ⟨_,ao.bT⟩ rfl aJ (by omega) (Nat.le_refl _) ⟨_,_,aG,by omega⟩)
 ·cases h
theorem O.Vl {en:cD α}{L:List α}{u:Unit}(J:Rd g a (.bo en.z p L.length)) (ca:Rd g b (.lit (.int k m))) (aG:b' g p=some (ak en L)) (aJ:ft P t e en.z=true) (h:uG L m=some u):dv P g (.slice t a none (some b) none) ty (.bo en.z p m.toNat):=by
 unfold uG at h
 split at h
 ·rename_i ab;obtain ⟨i,rfl⟩:=Int.eq_ofNat_of_zero_le ab.1;exact .fq (.D7 J.bT rfl ⟨_,ca.bT⟩ aJ (by omega) (.inl ⟨_,_,aG,by omega⟩))
 ·cases h
def Cv (lo nd:Nat) (L S:List α):Option (List α):=if 0<min S.length nd/\lo+nd<=L.length then some (L.take lo++S.take (min S.length nd)++L.drop (lo+min S.length nd)) else none
def AP (e:cD α) [h:vd e] (L:List α):List Value:=L.flatMap h.Ec
theorem HG (e:cD α) [h:vd e] (L:List α):cj e L=(AP e L).map .lit:=by
 induction L with
 | nil=>rfl
 | cons x L aS =>
  have:cj e (x::L)=e.cells x++cj e L:=by simp [cj]
  rw [this,aS,h.cells];simp [AP]
theorem Et.aF {en:cD α}{S:List α}:Src g (aj en S) en.z S.length (cj en S):=.aF
theorem Et.bo {en:cD α} [vd en] {L:List α}{q:Place}{n:Nat}(bR:b' g q=some (ak en L)) (aP:n<=L.length):Src g (.bo en.z q n) en.z (L.take n).length (cj en (L.take n)):=by
 have h1:(L.take n).length=n:=by rw [List.length_take]; omega
 have al:cj en (L.take n)=(((cj en L).take (n * en.z)).mapIdx λi x=>im 0 (q.push i) x):=by
  rw [yM,HG];apply List.ext_getElem?;intro ae;rw [List.getElem?_mapIdx];cases aa:((AP en (L.take n)).map ag.lit)[ae]? with
  | none=>rfl
  | some y =>
   obtain ⟨v,_,rfl⟩:=List.mem_map.1 (List.mem_of_getElem? aa);rfl
 rw [h1,al];exact .bo bR aP
theorem Vm {z:Nat}(h:ft P t e z=true):(P.info? e).map (·.size)=some z:=by
 unfold ft at h;cases hu:P.underlying t with
 | none=>simp [hu] at h
 | some d =>
  cases hi:P.info? e with
  | none=>cases d <;> simp [hu,hi] at h
  | some i=>cases d <;> simp [hu,hi] at h; simp [h]
theorem cq.bK {o:Oper}{en:cD α} [ao:vd en] {L S L':List α}{lo nd:Nat}{IP jT:ag}{G2:List (Nat × ag)}(bh:o.op=.call { callee:=.builtin .copy,args:=#[a,b],argTypes:=#[t,t2] }) (aU:o.dst=some d) (bf:bT g a=some IP) (TL:IP=.sub en.z ⟨r,[]⟩ lo nd\/(IP=.bo en.z ⟨r,[]⟩ nd/\lo=0)) (aK:bT g b=some jT)
  (q5:Src g jT en.z S.length (cj en S)) (aL:g r=some (ak en L)) (yc:en.z=1) (aJ:ft P t e 1=true) (h:Cv lo nd L S=some L') (mI:(get G2 r).isSome=true) (eu:lg g (get G2) r (ak en L') G2) (um:get G2 d=none) (b5:N.ok d=true) :
  cq P N g o (get ((d,j ((min S.length nd:Nat):Int))::G2)):=by
 unfold Cv at h;by_cases ab:0<min S.length nd/\lo+nd<=L.length
 case neg=>rw [if_neg ab] at h; cases h
 rw [if_pos ab] at h;obtain ⟨x1,W4⟩:=ab;cases h;generalize hk:min S.length nd=k at *;have W3:k<=S.length:=by omega
 have W5:k<=nd:=by omega
 refine .Nz λw I T Fs h cF CV RH K Q CT=>?_;obtain ⟨hu,he,gr⟩:=pQ (w:=w) aJ;have aG:b' g ⟨r,[]⟩=some (ak en L):=by simp [b',aL,ag.at]
 have Lf:=k9 h bf CV;obtain ⟨v0,cN,ju,dZ,dE⟩:=h.part aG (by simp);obtain ⟨a0,Wo,rfl,k2,hlen,qd,r5⟩:=dZ.mS;have RD:0<L.length:=by omega
 cases a0 with
 | none=>have:=r5 RD; simp at this
 | some Jj =>
 obtain ⟨Ag,Ah⟩:=qd Jj rfl;obtain ⟨g0,Xt,Xv⟩:=Jj;simp only at Ag Ah;subst Ag Ah;have nY:cN g0:=dZ.pK g0 rfl
 -- the target
 have Ge:∃ cap,cF.eval a=.slice (some ⟨g0,lo,none⟩) nd cap:=by
  rcases TL with rfl | ⟨rfl,rfl⟩
  ·obtain ⟨⟨kU,tG,Pd,ay,c1,h1,al,_,_,da⟩,_⟩:=Lf.wb;rw [h1] at ju;cases ju;obtain ⟨ad,dg,c5⟩:=da (by omega);cases dg;rw [al,c5,yc];exact ⟨c1,by simp⟩
  ·obtain ⟨⟨kU,tG,Pd,h1,al,_⟩,_⟩:=Lf.mN;rw [h1] at ju;cases ju;exact ⟨_,al⟩
 obtain ⟨Qu,Ge⟩:=Ge
 -- the source
 obtain ⟨Bv,Vf,news,s3,GF,As,lF,hr,gY,bl⟩:=q5.sound h (k9 h aK CV);rw [yc,Nat.mul_one] at GF;cases Bv with
 | none=>have:=As (by omega) (by omega); simp at this
 | some Ns =>
 have Xd:news=AP en S:=by
  rw [HG,List.length_map] at hr;apply List.ext_getElem hr.symm;intro ae h1 al;have:=(bl ae (.lit (AP en S)[ae]) news[ae] (by rw [HG,List.getElem?_map,List.getElem?_eq_getElem al]; rfl) (List.getElem?_eq_getElem h1)).il.1;exact this
 -- the block
 cases dZ with
 | ref J=>simp [ag.isRef] at J
 | @own _ _ _ _ cU us b3 _ oG h_ h1 aw nZ ka aT =>
 obtain ⟨mJ,ca⟩:=oG;rcases ca with ⟨ca,_⟩ | ⟨iQ,cap,cur,ca,tg,fY,uS,sf,uT,th⟩
 ·cases ca
 cases ca;have Lq:L.length<=cur.size:=by
  have r1:(cur.toList.take (L.length * en.z)).length=L.length * en.z:=by rw [th,mJ]
  rw [List.length_take,yc,Nat.mul_one,Array.length_toList] at r1;rw [yc] at uT;omega
 have CY:(news.take k).length=k:=by rw [List.length_take]; omega
 have ij:(execOp cF.eval o).run P w=.ok (.value (goInt k)) (w.setRow g0 (fL cur.toList lo (news.take k)).toArray):=by
  have qS:=run_copy_row (P:=P) w t t2 o.type e g0 lo nd Qu Ns S.length Vf cur cU (news.take k) hu (Vm aJ) fY (by rw [CY]; exact hk.symm) (λae v aa=>by
   rw [List.getElem?_take] at aa
   split at aa
   ·exact lF Ns rfl ae v aa
   ·cases aa) (by rw [CY]; omega) (λv hv=>by
   obtain ⟨ae,aa⟩:=List.getElem?_of_mem (List.mem_of_mem_take hv);exact gY ae v aa)
  rw [CY] at qS;have pb:(cur.toList.take lo++news.take k++cur.toList.drop (lo+k))=fL cur.toList lo (news.take k):=by unfold fL; rw [CY]
  rw [pb] at qS;simp [execOp,bh,resolve,invoke,Ge,s3,builtin,qS]
 -- the state
 have S3:∀ (ae:Nat) (x:ag) (u:Value),((cj en S).take k)[ae]?=some x->(news.take k)[ae]?=some u->R w I (gl w T) x u cW:=λae x u J hu=>by
  rw [List.getElem?_take] at J hu
  split at J
  ·rename_i aa;rw [if_pos aa] at hu;exact (bl ae x u J hu).frame (λ_ _=>rfl) (λ_ h=>h) (λ_ _ h=>h.1) λ_ _=>rfl
  ·cases J
 have hH:Hand w I (gl w T) Fs ((cj en S).take k) (news.take k) (λ_=>cW) :=
  ⟨by rw [List.length_take,List.length_take,hr],S3,λ_ _ _ _ _ h=>h.elim,λ_ _ _ _ h=>h.elim,λ_ _ _ h=>h.elim⟩
 have Lp:((cj en S).take k).length=k:=by rw [List.length_take,hr]; omega
 have RC:(cj en L).length=L.length:=by rw [od,yc,Nat.mul_one]
 have q3:(ak en L).fL lo ((cj en S).take k)=ak en (L.take lo++S.take k++L.drop (lo+k)):=by
  show ag.own en.z L.length (fL (cj en L) lo ((cj en S).take k))=_;have dg:fL (cj en L) lo ((cj en S).take k)=cj en (L.take lo++S.take k++L.drop (lo+k)):=by
   unfold fL;rw [Lp,wV,wV];have j4:=yM en L lo;have DT:=yM en S k;have Br:=Bu en L (lo+k);rw [yc,Nat.mul_one] at j4 DT Br;rw [j4,DT,Br]
  unfold ak;rw [dg];congr 1;simp; omega
 have SU:∀ (ae:Nat) (u:Value),(news.take k)[ae]?=some u->u.oneCell'=true:=λae u hu=>by
  rw [List.getElem?_take] at hu
  split at hu
  ·exact gY ae u hu
  ·cases hu
 have c1:∀ t x,get G2 t=some x->db g ⟨r,[]⟩ ((ak en L).fL lo ((cj en S).take k)) t=some x:=λt x J=>by
  rw [q3];rcases eu.spec t x J with ⟨h1,al,_⟩ | ⟨h1,al,_⟩
  ·rw [tm h1]; exact al
  ·subst h1 al; simp [db,aL,ag.setAt]
 have c2:∀ t x,get G2 t=some x->∀ y,g t=some y->ki (λq=>hn g q/\Clear ⟨r,[]⟩ lo ((cj en S).take k).length q/\hn (get G2) q) y:=λt x J y az=>by
  rcases eu.spec t x J with ⟨h1,al,aQ⟩ | ⟨h1,al,aQ⟩
  ·rw [al] at az; cases az;rcases aQ with aQ | ⟨_,c2,QF⟩
   ·exact aQ.H'
   ·cases QF
  ·subst h1; rw [aL] at az; cases az; exact .bL (.own (oe en L))
 have mw:∀ t z q n m new,get G2 t≠some (.b8 z q n m new):=λt z q n m new J=>by
  rcases eu.spec t _ J with ⟨_,_,aQ | ⟨aQ,_⟩⟩ | ⟨_,_,aQ⟩
  ·exact aQ.fT _ _ _ _ _ rfl
  ·exact aQ.fT _ _ _ _ _ rfl
  ·cases aQ
 obtain ⟨iV,ih,gO⟩:=h.mn.store (g2:=get G2) aG (.inl rfl) (k:=lo) (cs':=(cj en S).take k) (by rw [Lp,RC]; omega) hH (λx J=>oe en S x (List.mem_of_mem_take J)) SU c1 c2 mw (by intro e; rw [e] at mI; cases mI) ju rfl fY;have nf:=ih.td (d:=d) (x:=j (k:Int)) (v:=goInt k) (F:=cW) um (by rw [<- CV,RH]; exact dK.lt b5) (.tree (.lit rfl λ_ h=>h)) (λ_ _ h=>h.elim) (λ_ h=>h.elim) (by rintro z p n m new e; cases e);unfold Oper.wp Oper.upon;simp only [ij];have pb:get ((d,j (k:Int))::G2)=e5 (get G2) d (j (k:Int)):=by
  funext t;rw [t_]
 rw [<- pb] at nf;have Ga:∃ t,Fs t g0:=⟨_,dE g0 nY⟩;refine CT _ _ ⟨by rw [aU]; rfl,by rw [aU]; exact hW.put b5 _ _,I,_,by rw [aU]; simpa [Act.put,CV] using nf,⟨⟨rfl,rfl,rfl,by simp,λc _ ab=>setRow_other w g0 c _ (λe=>ab (e ▸ Ga)),λa _=>Fy w g0 _ a,Nat.le_refl _⟩,λ_ h=>h,λ_ h=>.inl h,λc ab=>?_⟩⟩ λt aJ=>by rw [aU]; simp only [Act.put]; rw [Array.getElem?_setIfInBounds_ne]; rintro rfl; exact aJ aU
 obtain ⟨t,ab⟩:=ab;simp only [tv] at ab
 split at ab
 ·exact ab.elim
 ·rcases gO t c ab with gJ | ⟨_,_,gJ⟩
  ·exact .inl ⟨t,gJ⟩
  ·exact gJ.elim
end
end Go.Own
namespace Go.Own
open Go
def DY (eP:List Nat) (o:Oper):Oper:=⟨o.dst,o.op,o.type,o.pos,o.after.map λe=>⟨eP.idxOf e.on,e.ground⟩,o.guard.map λp=>(eP.idxOf p.1,p.2)⟩
def kI (eP:List Nat) (l:List Oper):List Oper:=eP.map λk=>DY eP (l.getD k default)
def HR (eP:List Nat) (n:Nat):Bool:=Nat.beq eP.length n&&(List.range n).all λk=>eP.contains k&&Nat.blt (eP.getD k n) n&&Nat.beq (eP.idxOf (eP.getD k n)) k
structure Perm (eP:List Nat) (n:Nat):Prop where
 len:eP.length=n
 mem:∀ k,k<n->eP.idxOf k<n/\eP.getD (eP.idxOf k) n=k
 lt:∀ ae,ae<n->eP.getD ae n<n/\eP.idxOf (eP.getD ae n)=ae
theorem UQ {eP:List Nat}{n:Nat}(h:HR eP n=true):Perm eP n:=by
 unfold HR at h;simp only [Bool.and_eq_true,Nat.beq_eq,List.all_eq_true,List.mem_range,Nat.blt_eq] at h;obtain ⟨ao,gV⟩:=h;refine ⟨ao,λk hk=>?_,λae aa=>⟨(gV ae aa).1.2,(gV ae aa).2⟩⟩;have hm:k∈eP:=by have:=(gV k hk).1.1; simpa using this
 have h1:=List.idxOf_lt_length_iff.2 hm;refine ⟨by omega,?_⟩;rw [List.getD_eq_getElem?_getD,List.getElem?_eq_getElem h1,List.getElem_idxOf];rfl
section
variable {P:Program}{Q:Exit->Act->World->Prop}{eP:List Nat}{l:List Oper}
theorem HS (jx:Perm eP l.length) {ae:Nat}(aa:ae<l.length):(kI eP l).toArray[ae]?=some (DY eP (l.getD (eP.getD ae l.length) default))/\l.toArray[eP.getD ae l.length]?=some (l.getD (eP.getD ae l.length) default):=by
 have h1:ae<eP.length:=by rw [jx.len]; exact aa
 have al:=(jx.lt ae aa).1;constructor
 ·simp only [kI,List.getElem?_toArray,List.getElem?_map,List.getD_eq_getElem?_getD,List.getElem?_eq_getElem h1,Option.map_some,Option.getD_some]
 ·rw [List.getElem?_toArray,List.getD_eq_getElem?_getD (l:=l),List.getElem?_eq_getElem al]; rfl
theorem MV (jx:Perm eP l.length) {A B:Array Bool}(dA:A.size=l.length) (ix:B.size=l.length) (p':∀ ae,ae<l.length->B.getD ae true=A.getD (eP.getD ae l.length) true) {ae:Nat}(aa:ae<l.length) :
  eP.getD ae l.length∈Region.ready .any l.toArray A↔ae∈Region.ready .any (kI eP l).toArray B:=by
 obtain ⟨h1,al⟩:=HS jx aa;have NT:∀ {C:Array Bool}{k:Nat},k<C.size->C.getD k false=C.getD k true:=λ{C k} h=>by simp [Array.getD,h]
 have gone:∀ {C:Array Bool}{k:Nat},¬ k<C.size->C.getD k false=false:=λ{C k} h=>by simp [Array.getD,h]
 have Kt:∀ m,A.getD m false=true↔B.getD (eP.idxOf m) false=true:=λm=>by
  by_cases hm:m<l.length
  ·obtain ⟨aQ,bW⟩:=jx.mem m hm;rw [NT (by omega),NT (by omega),p' _ aQ,bW]
  ·have da:¬ eP.idxOf m<l.length:=λh=>by
    have eb:=List.idxOf_lt_length_iff.1 (by rw [jx.len]; exact h);obtain ⟨i,hi,e⟩:=List.mem_iff_getElem.1 eb;have:=(jx.lt i (by rw [<- jx.len]; exact hi)).1;rw [List.getD_eq_getElem?_getD,List.getElem?_eq_getElem hi] at this;simp only [Option.getD_some] at this;omega
   rw [gone (by omega),gone (by omega)]
 rw [mem_ready,mem_ready,p' ae aa];constructor
 ·rintro ⟨a,o,bh,h⟩;rw [al] at bh;cases bh;refine ⟨a,_,h1,λe he aK=>?_⟩;obtain ⟨jN,Su,rfl⟩:=Array.mem_map.1 he;exact (Kt _).1 (h jN Su aK)
 ·rintro ⟨a,o,bh,h⟩;rw [h1] at bh;cases bh;refine ⟨a,_,al,λe he aK=>?_⟩;exact (Kt _).2 (h ⟨eP.idxOf e.on,e.ground⟩ (Array.mem_map.2 ⟨e,he,rfl⟩) aK)
theorem US (jx:Perm eP l.length) (o:Oper) (T:Array Value):Region.wanted (DY eP o) (yielded (kI eP l).toArray T)=Region.wanted o (yielded l.toArray T):=by
 unfold Region.wanted DY;cases ba:o.guard with
 | none=>rfl
 | some p =>
  obtain ⟨m,b⟩:=p;simp only [Option.map_some];have:yielded (kI eP l).toArray T (eP.idxOf m)=yielded l.toArray T m:=by
   unfold yielded;by_cases hm:m<l.length
   ·obtain ⟨aQ,bW⟩:=jx.mem m hm;obtain ⟨h1,al⟩:=HS jx aQ;rw [bW] at h1 al;rw [h1,al];rfl
   ·have da:¬ eP.idxOf m<l.length:=λh=>by
     have eb:=List.idxOf_lt_length_iff.1 (by rw [jx.len]; exact h);obtain ⟨i,hi,e⟩:=List.mem_iff_getElem.1 eb;have:=(jx.lt i (by rw [<- jx.len]; exact hi)).1;rw [List.getD_eq_getElem?_getD,List.getElem?_eq_getElem hi] at this;simp only [Option.getD_some] at this;omega
    have dg:(kI eP l).toArray[eP.idxOf m]?=none:=by
     rw [List.getElem?_toArray]; exact List.getElem?_eq_none (by simp [kI,jx.len]; omega)
    have c5:l.toArray[m]?=none:=by rw [List.getElem?_toArray]; exact List.getElem?_eq_none (by omega)
    rw [dg,c5]
  rw [this]
theorem UR (jx:Perm eP l.length):∀ (fuel:Nat) (A B:Array Bool) (a:Act) (w:World),A.size=l.length->B.size=l.length->(∀ ae,ae<l.length->B.getD ae true=A.getD (eP.getD ae l.length) true) ->
  wpAny P .any (kI eP l).toArray Q fuel B a w->wpAny P .any l.toArray Q fuel A a w:=by
 have lift:∀ {A B:Array Bool},A.size=l.length->B.size=l.length->(∀ ae,ae<l.length->B.getD ae true=A.getD (eP.getD ae l.length) true)->∀ k,k∈Region.ready .any l.toArray A->∃ ae,ae<l.length/\eP.getD ae l.length=k/\ae∈Region.ready .any (kI eP l).toArray B:=λ{A B} dA ix p' k hk=>by
  have dW:k<l.length:=by
   obtain ⟨_,o,bh,_⟩:=mem_ready.1 hk;have:=(Array.getElem?_eq_some_iff.1 bh).1;simpa using this
  obtain ⟨aQ,bW⟩:=jx.mem k dW;exact ⟨_,aQ,bW,(MV jx dA ix p' aQ).1 (by rw [bW]; exact hk)⟩
 have nil:∀ {A B:Array Bool},A.size=l.length->B.size=l.length->(∀ ae,ae<l.length->B.getD ae true=A.getD (eP.getD ae l.length) true)->Region.ready .any l.toArray A=[]->Region.ready .any (kI eP l).toArray B=[]:=λ{A B} dA ix p' h=>by
  cases aw:Region.ready .any (kI eP l).toArray B with
  | nil=>rfl
  | cons ae r =>
   have aa:ae∈Region.ready .any (kI eP l).toArray B:=by rw [aw]; simp
   have fj:ae<l.length:=by
    obtain ⟨_,o,bh,_⟩:=mem_ready.1 aa;have:=(Array.getElem?_eq_some_iff.1 bh).1;simpa [kI,jx.len] using this
   have:=(MV jx dA ix p' fj).2 aa;rw [h] at this; cases this
 intro fuel
 induction fuel with
 | zero =>
  intro A B a w dA ix p' h;refine ⟨?_,h.2⟩;cases aw:Region.ready .any l.toArray A with
  | nil=>rfl
  | cons k r =>
   obtain ⟨ae,_,_,aa⟩:=lift dA ix p' k (by rw [aw]; simp);rw [h.1] at aa; cases aa
 | succ fuel aS =>
  intro A B a w dA ix p' h;refine ⟨λaw=>h.1 (nil dA ix p' aw),λk hk=>?_⟩;obtain ⟨ae,fj,rfl,aa⟩:=lift dA ix p' k hk;have aL:=h.2 ae aa;obtain ⟨h1,al⟩:=HS jx fj;have Rl:∀ i,i<l.length->(B.setIfInBounds ae true).getD i true=(A.setIfInBounds (eP.getD ae l.length) true).getD (eP.getD i l.length) true:=λi hi=>by
   have a_:=(jx.lt ae fj).1;have Gz:=(jx.lt i hi).1;have e:∀ (C:Array Bool) (p q:Nat),p<C.size->q<C.size->(C.setIfInBounds p true).getD q true=if q=p then true else C.getD q true:=λC p q aG bR=>by
    by_cases h:q=p
    ·subst h; simp [Array.getD,bR]
    ·rw [if_neg h]; simp [Array.getD,bR,Array.getElem_setIfInBounds_ne,Ne.symm h]
   rw [e B ae i (by omega) (by omega),e A _ _ (by omega) (by omega),p' i hi];by_cases h:i=ae
   ·subst h; simp
   ·rw [if_neg h,if_neg];intro aR;have:=(jx.lt i hi).2;rw [aR,(jx.lt ae fj).2] at this;exact h this.symm
  have mono:∀ a w,wpAny P .any (kI eP l).toArray Q fuel (B.setIfInBounds ae true) a w->wpAny P .any l.toArray Q fuel (A.setIfInBounds (eP.getD ae l.length) true) a w:=λa w aR=>aS _ _ a w (by simpa using dA) (by simpa using ix) Rl aR;unfold wpOp at aL ⊢;rw [al];rw [h1] at aL;simp only [US jx] at aL;show if Region.wanted (l.getD (eP.getD ae l.length) default) (yielded l.toArray a.tmps)=true then _ else _
  split
  ·rename_i hw;rw [if_pos hw] at aL;exact aL.imp (λaR=>Oper.wp_mono mono aR) id
  ·rename_i hw;rw [if_neg hw] at aL;exact mono _ _ aL
end
section
variable {P:Program}{N:dK}
theorem W.UZ {id:Nat}{l:List Oper}{G:List (Nat × ag)}{Φ:Exit->aW->Prop}(eP:List Nat) (ch:List (List Nat)) (G1:List (Nat × ag)) (hm:P.follows .mixedOrders=true) (dA:rJ (kI eP l).toArray ch=true) (jx:HR eP l.length=true)
  (h:bN P N (kI eP l).toArray ch (get G) 0 [] (kI eP l) λg'=>kS g' (get G1)) (hk:ah .normal Φ G1):W P N (.region id l.toArray true) (get G) Φ:=by
 have aG:=UQ jx;obtain ⟨g',h1,al⟩:=h [] 0 .nil .nil (by simp);have gr:(kI eP l).toArray.size=l.length:=by simp [kI,aG.len]
 refine gI.w (g':=g') (e:=.normal) ?_ (hk g' (.gd al .hf));intro Q a w I Fs b6 b5 dY;refine wp_region_any hm ?_;have eL:c7 w.drew I a.tmps (get G) Fs:=b6.world (λ_ _ _=>rfl) (λ_ _=>rfl) (Nat.le_refl _);have gV:∀ k,e6 (Array.replicate (kI eP l).toArray.size false) k=false:=by
  intro k;unfold e6;rcases Nat.lt_or_ge k (kI eP l).toArray.size with h | h
  ·simp only [gr] at h ⊢; simp [h]
  ·simp only [gr] at h ⊢; simp [Array.getElem?_eq_none (show (Array.replicate l.length false).size<=k by simpa using h)]
 refine UR aG _ _ (Array.replicate l.length false) a w.drew (by simp) (by simp) (λae aa=>?_) ?_
 ·have:=(aG.lt ae aa).1;rw [List.getD_eq_getElem?_getD] at this;simp [Array.getD,aa];exact this
 have r1:=h1.sound dA .nil (kI eP l).toArray.size (Array.replicate (kI eP l).toArray.size false) a w.drew I Fs ?_ (by simp) (λk hk=>by omega) (λk _=>gV k) (λk hk=>by rw [gV] at hk; cases hk) eL b5 (λcF w' aP=>dY _ _ ?_)
 ·simpa [gr] using r1
 ·unfold hP;exact Nat.le_trans (List.length_filter_le _ _) (by simp)
 ·obtain ⟨dg,c5,I',cz,ih,cf⟩:=aP;exact ⟨dg,c5,I',cz,ih,⟨⟨cf.fF.os,cf.fF.tape,cf.fF.output,cf.fF.size,cf.fF.block,cf.fF.fM,Nat.le_trans (Nat.le_succ _) cf.fF.xN⟩,cf.more,cf.new,cf.own⟩⟩
end
end Go.Own
namespace Go.Own
open Go
section
variable {α:Type}{P:Program}{N:dK}{g:aW}{a b:Operand}{t:TypeId}{m i:Int}
theorem cq.Vq {hL:Oper}{en:cD α}{LL:List (List α)}{L:List α}{jU y2:α}{o r:Nat}{path:List Nat}{y:ag}{cs':List ag}{x2:ag}{G2:List (Nat × ag)}(bh:hL.op=.store t a b) (aU:hL.dst=none) (bf:Rd g a (.ptr ⟨r,path++[i.toNat * (fb en).z+0]⟩ (m.toNat * en.z+o))) (aK:Rd g b y)
  (aG:b' g ⟨r,path⟩=some (ak (fb en) LL)) (hi:idx LL i=some L) (h:idx L m=some jU) (bA:gA P t cs'.length=true) (ab:rP y=some cs') (he:fL (en.cells jU) o cs'=en.cells y2) (hlen:Nat.ble (o+cs'.length) en.z=true) (bd:Nat.blt 0 cs'.length=true)
  (hD:db g ⟨r,path⟩ (ak (fb en) (LL.set i.toNat (L.set m.toNat y2))) r=some x2) (aw:(get G2 r).isSome=true) [aP:cS y] {y0:ag}(v8:g r=some y0) [ht:cS y0] (eu:lg g (get G2) r x2 G2):cq P N g hL (get G2):=by
 have fW:b' g ⟨r,path++[i.toNat * (fb en).z+0]⟩=some (ak en L):=rM (g:=g) (r:=r) (path:=path) aG hi rfl;have uA:(cj (fb en) LL).set (i.toNat * (fb en).z+0) (ak en (L.set m.toNat y2))=cj (fb en) (LL.set i.toNat (L.set m.toNat y2)):=by
  have h1:=Ib (fb en) (o:=0) (cs':=[ak en (L.set m.toNat y2)]) (y2:=L.set m.toNat y2) hi (by simp [fL,fb]) (by simp [fb]);rw [<- h1];unfold fL;have a_:i.toNat * (fb en).z+0<(cj (fb en) LL).length:=by
   obtain ⟨te,j4,_⟩:=qk hi;rw [od];show i.toNat * 1+0<LL.length * 1;omega
  rw [List.set_eq_take_append_cons_drop,if_pos a_];simp
 refine cq.pR (p:=⟨r,path++[i.toNat * (fb en).z+0]⟩) bh aU bf aK fW h bA ab he hlen bd (x2:=x2) ?_ aw v8 eu;show db g ⟨r,path++[i.toNat * (fb en).z+0]⟩ (ak en (L.set m.toNat y2)) r=some x2;rw [ND _ aG hi rfl,uA];have ao:(LL.set i.toNat (L.set m.toNat y2)).length=LL.length:=List.length_set;rw [<- hD];unfold ak;rw [ao]
end
end Go.Own
namespace Go.Proofs
open Go Go.Own
set_option maxRecDepth 100000
set_option linter.unusedVariables false
structure Act where
 Kind:Int
 N:Int
 deriving DecidableEq,Inhabited
def DN (a0:Act):Option (Int) :=
 ((bif decide (a0.Kind=1) then (bif decide (0<=a0.N) then some (decide (a0.N<20000)) else some false) else some false)).bind λmw =>
 (bif mw then
 some (aO (a0.N+1))
 else
 ((bif decide (a0.Kind=2) then (bif decide (0<a0.N) then some (decide (a0.N<20000)) else some false) else some false)).bind λqO =>
 (bif qO then
 some (aO (-a0.N))
 else
 ((bif decide (a0.Kind=3) then some (decide (a0.N=0)) else some false)).bind λjn =>
 (bif jn then
 some 20001
 else
 ((bif decide (a0.Kind=4) then some (decide (a0.N=0)) else some false)).bind λm' =>
 (bif m' then
 some 20002
 else
 some 0))))
def A7 (a0:Int):Option (Bool) :=
 ((bif decide (97<=a0) then (bif decide (a0<=122) then some true else (bif decide (65<=a0) then (bif decide (a0<=90) then some true else some (decide (a0=95))) else some (decide (a0=95)))) else (bif decide (65<=a0) then (bif decide (a0<=90) then some true else some (decide (a0=95))) else some (decide (a0=95))))).bind λqO =>
 some qO
def A8 (a0:Int):Option (Bool) :=
 ((bif decide (48<=a0) then some (decide (a0<=57)) else some false)).bind λc2 =>
 some c2
def A5 (a0:ByteArray) (ay:Int):Option (Int) :=
 (cJ (R:=Int) (λ(s1:Int) =>
 ((bif decide (aO (ay+s1)<(a0.size:Int)) then ((kV a0 (aO (ay+s1))).bind λcn=>((A7 cn).bind λbr=>(bif br then some true else (bif decide (0<s1) then ((kV a0 (aO (ay+s1))).bind λcp=>((A8 cp).bind λbZ=>(bif bZ then some true else ((kV a0 (aO (ay+s1))).bind λcM=>some (decide (cM=46)))))) else some false)))) else some false)).bind λm' =>
 (bif m' then
 some (.inl (aO (s1+1)))
 else
 some (.inr s1))) 0).bind λx2 =>
 some x2
def uM (a0:ByteArray):Option (Bool) :=
 ((bif decide (1<=(a0.size:Int)) then (bif decide ((a0.size:Int)<=20) then ((A5 a0 0).bind λaZ=>some (decide (aZ=(a0.size:Int)))) else some false) else some false)).bind λc4 =>
 some c4
def A6 (a0:Int):Option (Int × Bool) :=
 (bif decide (a0=10) then
 some (110,true)
 else
 (bif decide (a0=9) then
 some (116,true)
 else
 (bif decide (a0=13) then
 some (114,true)
 else
 ((bif decide (a0=92) then
 some (decide (a0=92))
 else
 some (decide (a0=39)))).bind λHo =>
 (bif Ho then
 some (a0,true)
 else
 ((bif decide (32<=a0) then some (0,decide (a0<=126)) else some (0,false))).bind λna =>
 some (na.1,na.2)))))
structure Sym where
 Name:ByteArray
 Lit:Bool
 c9:Int
 At:Int
 deriving DecidableEq,Inhabited
def du:cD Sym:=⟨4,λx=>[af x.Name,a' x.Lit,j x.c9,j x.At],λ_=>rfl,λ_=>eU.bL⟩
instance:Flat du:=⟨λ_=>rfl⟩
instance:lS du:=⟨λx=>(inferInstance:jW [af x.Name,a' x.Lit,j x.c9,j x.At])⟩
instance:ho du du:=⟨rfl,λx=>(inferInstance:dQ [af x.Name,a' x.Lit,j x.c9,j x.At] [af x.Name,a' x.Lit,j x.c9,j x.At])⟩
instance {x:Sym}:dQ (du.cells x) [af x.Name,a' x.Lit,j x.c9,j x.At]:=(inferInstance:dQ [af x.Name,a' x.Lit,j x.c9,j x.At] [af x.Name,a' x.Lit,j x.c9,j x.At])
def wD (a0:Sym) (ay:Bool) (a2:Bool):Option (Bool) :=
 (bif a0.Lit then
 ((bif !a2 then some true else (bif !decide ((a0.Name.size:Int)=1) then some true else some (!decide (a0.c9=0))))).bind λc4 =>
 (bif c4 then
 some false
 else
 (kV a0.Name 0).bind λbr =>
 (A6 br).bind λbj =>
 some bj.2)
 else
 (((uM a0.Name).bind λb1=>(bif b1 then (bif decide (a0.c9=0) then some true else (bif ay then (bif decide (1<=a0.c9) then some (decide (a0.c9<=50000)) else some false) else some false)) else some false))).bind λm' =>
 some m')
structure Decl where
 Kind:Int
 Tag:ByteArray
 fg:(List Sym)
 At:Int
 deriving DecidableEq,Inhabited
def cO:cD Decl:=⟨4,λx=>[j x.Kind,af x.Tag,aj du x.fg,j x.At],λ_=>rfl,λ_=>eU.bL⟩
instance:Flat cO:=⟨λ_=>rfl⟩
instance:ho cO cO:=⟨rfl,λx=>(inferInstance:dQ [j x.Kind,af x.Tag,aj du x.fg,j x.At] [j x.Kind,af x.Tag,aj du x.fg,j x.At])⟩
instance {x:Decl}:dQ (cO.cells x) [j x.Kind,af x.Tag,aj du x.fg,j x.At]:=(inferInstance:dQ [j x.Kind,af x.Tag,aj du x.fg,j x.At] [j x.Kind,af x.Tag,aj du x.fg,j x.At])
def wC (a0:Decl):Option (Bool) :=
 ((bif decide (a0.Kind<1) then some true else (bif decide (6<a0.Kind) then some true else (bif decide ((a0.fg.length:Int)=0) then some true else (bif decide (a0.Kind=6) then (bif !decide ((a0.fg.length:Int)=1) then some true else (bif !decide (a0.Tag={ data:=#[] }) then some true else (bif decide (a0.Kind=5) then (bif decide (a0.Tag={ data:=#[] }) then some true else some false) else some false))) else (bif decide (a0.Kind=5) then (bif decide (a0.Tag={ data:=#[] }) then some true else (bif !decide (a0.Tag={ data:=#[] }) then ((uM a0.Tag).bind λcM=>some (!cM)) else some false)) else (bif !decide (a0.Tag={ data:=#[] }) then ((uM a0.Tag).bind λdU=>some (!dU)) else some false))))))).bind λtN =>
 (bif tN then
 some false
 else
 (cJ (R:=(Unit) ⊕ (Bool)) (λ(iI:Int) =>
 (bif decide (iI<(a0.fg.length:Int)) then
 (idx a0.fg iI).bind λhj =>
 (wD hj (decide (a0.Kind=1)) (decide (a0.Kind<5))).bind λeF =>
 (bif !eF then
 some (.inr (.inr false))
 else
 some (.inl (aO (iI+1))))
 else
 some (.inr (.inl ())))) 0).bind λeX =>
 (match eX with
 | .inl fC =>
 some true
 | .inr eJ =>
 some eJ))
def wE (a0:Sym):Option (Bool) :=
 ((bif decide (a0.Name={ data:=#[] }) then (bif !a0.Lit then some (decide (a0.c9=0)) else some false) else some false)).bind λmw =>
 some mw
def wF (a0:ByteArray) (ay:Int) (a2:ByteArray):Option (Bool) :=
 ((bif decide ((a2.size:Int)<=aO ((a0.size:Int) - ay)) then ((vv a0 ay (aO (ay+(a2.size:Int)))).bind λx2=>some (decide (x2=a2))) else some false)).bind λmw =>
 some mw
def A9 (a0:ByteArray) (ay:Int):Option (Int) :=
 (((kV a0 ay).bind λaI=>(bif decide (aI=34) then some true else ((kV a0 ay).bind λaZ=>some (decide (aZ=39)))))).bind λc4 =>
 (bif c4 then
 (cJ (R:=(Unit) ⊕ (Int)) (λ(c_:Int) =>
 ((bif decide (c_<(a0.size:Int)) then ((kV a0 c_).bind λct=>some (!decide (ct=10))) else some false)).bind λvl =>
 (bif vl then
 (kV a0 c_).bind λdU =>
 (kV a0 ay).bind λdk =>
 (bif decide (dU=dk) then
 some (.inr (.inr (aO (c_+1))))
 else
 (kV a0 c_).bind λb9 =>
 (bif decide (b9=92) then
 ((bif decide (aO (c_+1)<(a0.size:Int)) then ((kV a0 (aO (c_+1))).bind λeJ=>some (decide (eJ=10))) else some false)).bind λtO =>
 (bif tO then
 some (.inr (.inr (-1)))
 else
 some (.inl (aO ((aO (c_+1))+1))))
 else
 some (.inl (aO (c_+1)))))
 else
 some (.inr (.inl ())))) (aO (ay+1))).bind λbj =>
 (match bj with
 | .inl b1 =>
 some (-1)
 | .inr cp =>
 some cp)
 else
 (kV a0 ay).bind λeF =>
 (bif decide (eF=96) then
 (cJ (R:=(Unit) ⊕ (Int)) (λ(wX:Int) =>
 (bif decide (wX<(a0.size:Int)) then
 (kV a0 wX).bind λhU =>
 (bif decide (hU=96) then
 some (.inr (.inr (aO (wX+1))))
 else
 some (.inl (aO (wX+1))))
 else
 some (.inr (.inl ())))) (aO (ay+1))).bind λh4 =>
 (match h4 with
 | .inl gH =>
 some (-1)
 | .inr c3 =>
 some c3)
 else
 (wF a0 ay ({ data:=#[47,47] })).bind λdS =>
 (bif dS then
 (cJ (R:=Int) (λ(uY:Int) =>
 ((bif decide (uY<(a0.size:Int)) then ((kV a0 uY).bind λcP=>some (!decide (cP=10))) else some false)).bind λCk =>
 (bif Ck then
 some (.inl (aO (uY+1)))
 else
 some (.inr uY))) ay).bind λgf =>
 some gf
 else
 (wF a0 ay ({ data:=#[47,42] })).bind λN6 =>
 (bif N6 then
 (cJ (R:=(Unit) ⊕ (Int)) (λ(uZ:Int) =>
 (bif decide (uZ<(a0.size:Int)) then
 (wF a0 uZ ({ data:=#[42,47] })).bind λtz =>
 (bif tz then
 some (.inr (.inr (aO (uZ+2))))
 else
 some (.inl (aO (uZ+1))))
 else
 some (.inr (.inl ())))) (aO (ay+2))).bind λtx =>
 (match tx with
 | .inl yS =>
 some (-1)
 | .inr la =>
 some la)
 else
 some ay))))
def yz (a0:ByteArray) (ay:Int):Option (Int) :=
 ((bif decide (ay<0) then some true else (bif decide ((a0.size:Int)<=ay) then some true else ((kV a0 ay).bind λaZ=>some (!decide (aZ=123)))))).bind λc4 =>
 (bif c4 then
 some (-1)
 else
 (cJ (R:=(Unit) ⊕ (Int)) (λ(c_:Int × Int) =>
 (bif decide (c_.2<(a0.size:Int)) then
 (A9 a0 c_.2).bind λct =>
 (bif decide (ct<0) then
 some (.inr (.inr (-1)))
 else
 (bif decide (c_.2<ct) then
 some (.inl (c_.1,ct))
 else
 (kV a0 c_.2).bind λdU =>
 ((bif decide (dU=123) then
 some (aO (c_.1+1))
 else
 some c_.1)).bind λql =>
 (kV a0 c_.2).bind λb9 =>
 ((bif decide (b9=125) then
 some (aO (ql - 1))
 else
 some ql)).bind λDv =>
 (bif decide (Dv=0) then
 some (.inr (.inr (aO (c_.2+1))))
 else
 some (.inl (Dv,aO (c_.2+1))))))
 else
 some (.inr (.inl ())))) (0,ay)).bind λbj =>
 (match bj with
 | .inl b1 =>
 some (-1)
 | .inr cp =>
 some cp))
structure Part where
 Sym:Sym
 Code:ByteArray
 At:Int
 deriving DecidableEq,Inhabited
structure Alt where
 jJ:(List Part)
 Prec:Sym
 At:Int
 deriving DecidableEq,Inhabited
def fp:cD Part:=⟨6,λx=>[af x.Sym.Name,a' x.Sym.Lit,j x.Sym.c9,j x.Sym.At,af x.Code,j x.At],λ_=>rfl,λ_=>eU.bL⟩
instance:Flat fp:=⟨λ_=>rfl⟩
instance:lS fp:=⟨λx=>(inferInstance:jW [af x.Sym.Name,a' x.Sym.Lit,j x.Sym.c9,j x.Sym.At,af x.Code,j x.At])⟩
instance:ho fp fp:=⟨rfl,λx=>(inferInstance:dQ [af x.Sym.Name,a' x.Sym.Lit,j x.Sym.c9,j x.Sym.At,af x.Code,j x.At] [af x.Sym.Name,a' x.Sym.Lit,j x.Sym.c9,j x.Sym.At,af x.Code,j x.At])⟩
instance {x:Part}:dQ (fp.cells x) [af x.Sym.Name,a' x.Sym.Lit,j x.Sym.c9,j x.Sym.At,af x.Code,j x.At]:=(inferInstance:dQ [af x.Sym.Name,a' x.Sym.Lit,j x.Sym.c9,j x.Sym.At,af x.Code,j x.At] [af x.Sym.Name,a' x.Sym.Lit,j x.Sym.c9,j x.Sym.At,af x.Code,j x.At])
def ef:cD Alt:=⟨6,λx=>[aj fp x.jJ,af x.Prec.Name,a' x.Prec.Lit,j x.Prec.c9,j x.Prec.At,j x.At],λ_=>rfl,λ_=>eU.bL⟩
instance:Flat ef:=⟨λ_=>rfl⟩
instance:ho ef ef:=⟨rfl,λx=>(inferInstance:dQ [aj fp x.jJ,af x.Prec.Name,a' x.Prec.Lit,j x.Prec.c9,j x.Prec.At,j x.At] [aj fp x.jJ,af x.Prec.Name,a' x.Prec.Lit,j x.Prec.c9,j x.Prec.At,j x.At])⟩
instance {x:Alt}:dQ (ef.cells x) [aj fp x.jJ,af x.Prec.Name,a' x.Prec.Lit,j x.Prec.c9,j x.Prec.At,j x.At]:=(inferInstance:dQ [aj fp x.jJ,af x.Prec.Name,a' x.Prec.Lit,j x.Prec.c9,j x.Prec.At,j x.At] [aj fp x.jJ,af x.Prec.Name,a' x.Prec.Lit,j x.Prec.c9,j x.Prec.At,j x.At])
def A4 (a0:Alt):Option (Bool) :=
 (cJ (R:=(Unit) ⊕ (Bool)) (λ(s1:Int) =>
 (bif decide (s1<(a0.jJ.length:Int)) then
 (idx a0.jJ s1).bind λbr =>
 ((bif decide (br.Code={ data:=#[] }) then ((wD br.Sym false true).bind λb1=>(bif !b1 then some true else (bif !decide (br.Code={ data:=#[] }) then ((wE br.Sym).bind λct=>(bif !ct then some true else ((yz br.Code 0).bind λdC=>some (!decide (dC=(br.Code.size:Int)))))) else some false))) else (bif !decide (br.Code={ data:=#[] }) then ((wE br.Sym).bind λdk=>(bif !dk then some true else ((yz br.Code 0).bind λb9=>some (!decide (b9=(br.Code.size:Int)))))) else some false))).bind λnQ =>
 (bif nQ then
 some (.inr (.inr false))
 else
 some (.inl (aO (s1+1))))
 else
 some (.inr (.inl ())))) 0).bind λx2 =>
 (match x2 with
 | .inl aZ =>
 (((wE a0.Prec).bind λeJ=>(bif eJ then some true else ((wD a0.Prec false true).bind λhj=>some hj)))).bind λCh =>
 some Ch
 | .inr bs =>
 some bs)
structure ga where
 Left:ByteArray
 fR:(List Alt)
 At:Int
 deriving DecidableEq,Inhabited
structure Source where
 bB:ByteArray
 Decls:(List Decl)
 ei:(List ga)
 bE:ByteArray
 deriving DecidableEq,Inhabited
def gT:cD ga:=⟨3,λx=>[af x.Left,aj ef x.fR,j x.At],λ_=>rfl,λ_=>eU.bL⟩
instance:Flat gT:=⟨λ_=>rfl⟩
instance:ho gT gT:=⟨rfl,λx=>(inferInstance:dQ [af x.Left,aj ef x.fR,j x.At] [af x.Left,aj ef x.fR,j x.At])⟩
instance {x:ga}:dQ (gT.cells x) [af x.Left,aj ef x.fR,j x.At]:=(inferInstance:dQ [af x.Left,aj ef x.fR,j x.At] [af x.Left,aj ef x.fR,j x.At])
def d':cD Source:=⟨4,λx=>[af x.bB,aj cO x.Decls,aj gT x.ei,af x.bE],λ_=>rfl,λ_=>eU.bL⟩
instance:Flat d':=⟨λ_=>rfl⟩
instance:ho d' d':=⟨rfl,λx=>(inferInstance:dQ [af x.bB,aj cO x.Decls,aj gT x.ei,af x.bE] [af x.bB,aj cO x.Decls,aj gT x.ei,af x.bE])⟩
instance {x:Source}:dQ (d'.cells x) [af x.bB,aj cO x.Decls,aj gT x.ei,af x.bE]:=(inferInstance:dQ [af x.bB,aj cO x.Decls,aj gT x.ei,af x.bE] [af x.bB,aj cO x.Decls,aj gT x.ei,af x.bE])
def wP (a0:Source):Option (Bool) :=
 (cJ (R:=(Unit) ⊕ (Bool)) (λ(s1:Int) =>
 (bif decide (aO (s1+1)<(a0.bB.size:Int)) then
 (vv a0.bB s1 (aO (s1+2))).bind λbr =>
 (bif decide (br={ data:=#[37,125] }) then
 some (.inr (.inr false))
 else
 some (.inl (aO (s1+1))))
 else
 some (.inr (.inl ())))) 0).bind λx2 =>
 (match x2 with
 | .inl aZ =>
 (cJ (R:=(Unit) ⊕ (Bool)) (λ(cw:Int) =>
 (bif decide (cw<(a0.Decls.length:Int)) then
 (idx a0.Decls cw).bind λdC =>
 (wC dC).bind λdU =>
 (bif !dU then
 some (.inr (.inr false))
 else
 some (.inl (aO (cw+1))))
 else
 some (.inr (.inl ())))) 0).bind λcp =>
 (match cp with
 | .inl bZ =>
 (cJ (R:=(Unit) ⊕ (Bool)) (λ(me:Int) =>
 (bif decide (me<(a0.ei.length:Int)) then
 (idx a0.ei me).bind λdN =>
 (((uM dN.Left).bind λhj=>(bif !hj then some true else some (decide ((dN.fR.length:Int)=0))))).bind λxH =>
 (bif xH then
 some (.inr (.inr false))
 else
 (cJ (R:=(Unit) ⊕ (Bool)) (λ(yO:Int) =>
 (bif decide (yO<(dN.fR.length:Int)) then
 (idx dN.fR yO).bind λiL =>
 (A4 iL).bind λdS =>
 (bif !dS then
 some (.inr (.inr false))
 else
 some (.inl (aO (yO+1))))
 else
 some (.inr (.inl ())))) 0).bind λgH =>
 (match gH with
 | .inl c3 =>
 some (.inl (aO (me+1)))
 | .inr eR =>
 some (.inr (.inr eR))))
 else
 some (.inr (.inl ())))) 0).bind λb9 =>
 (match b9 with
 | .inl eX =>
 some (decide (0<(a0.ei.length:Int)))
 | .inr fC =>
 some fC)
 | .inr ct =>
 some ct)
 | .inr bs =>
 some bs)
structure bC where
 Name:ByteArray
 Lit:Bool
 c9:Int
 Level:Int
 eC:Int
 Tag:ByteArray
 deriving DecidableEq,Inhabited
structure eY where
 Name:ByteArray
 Tag:ByteArray
 deriving DecidableEq,Inhabited
structure Prod where
 Left:Int
 fm:(List Int)
 Prec:Int
 Code:ByteArray
 tC:(List Int)
 At:Int
 deriving DecidableEq,Inhabited
structure bV where
 a6:(List bC)
 bx:(List eY)
 aX:(List Prod)
 bB:ByteArray
 bE:ByteArray
 deriving DecidableEq,Inhabited
structure cR where
 aq:bV
 b4:(List Bool)
 b2:(List eY)
 bG:(List ByteArray)
 b7:Int
 cd:Int
 cb:ByteArray
 b0:Int
 bD:Int
 deriving DecidableEq,Inhabited
def bt:cD bC:=⟨6,λx=>[af x.Name,a' x.Lit,j x.c9,j x.Level,j x.eC,af x.Tag],λ_=>rfl,λ_=>eU.bL⟩
instance:Flat bt:=⟨λ_=>rfl⟩
instance:lS bt:=⟨λx=>(inferInstance:jW [af x.Name,a' x.Lit,j x.c9,j x.Level,j x.eC,af x.Tag])⟩
instance:ho bt bt:=⟨rfl,λx=>(inferInstance:dQ [af x.Name,a' x.Lit,j x.c9,j x.Level,j x.eC,af x.Tag] [af x.Name,a' x.Lit,j x.c9,j x.Level,j x.eC,af x.Tag])⟩
instance {x:bC}:dQ (bt.cells x) [af x.Name,a' x.Lit,j x.c9,j x.Level,j x.eC,af x.Tag]:=(inferInstance:dQ [af x.Name,a' x.Lit,j x.c9,j x.Level,j x.eC,af x.Tag] [af x.Name,a' x.Lit,j x.c9,j x.Level,j x.eC,af x.Tag])
def bb:cD eY:=⟨2,λx=>[af x.Name,af x.Tag],λ_=>rfl,λ_=>eU.bL⟩
instance:Flat bb:=⟨λ_=>rfl⟩
instance:lS bb:=⟨λx=>(inferInstance:jW [af x.Name,af x.Tag])⟩
instance:ho bb bb:=⟨rfl,λx=>(inferInstance:dQ [af x.Name,af x.Tag] [af x.Name,af x.Tag])⟩
def bI:cD Prod:=⟨6,λx=>[j x.Left,aj aM x.fm,j x.Prec,af x.Code,aj aM x.tC,j x.At],λ_=>rfl,λ_=>eU.bL⟩
instance:Flat bI:=⟨λ_=>rfl⟩
instance:ho bI bI:=⟨rfl,λx=>(inferInstance:dQ [j x.Left,aj aM x.fm,j x.Prec,af x.Code,aj aM x.tC,j x.At] [j x.Left,aj aM x.fm,j x.Prec,af x.Code,aj aM x.tC,j x.At])⟩
instance {x:Prod}:dQ (bI.cells x) [j x.Left,aj aM x.fm,j x.Prec,af x.Code,aj aM x.tC,j x.At]:=(inferInstance:dQ [j x.Left,aj aM x.fm,j x.Prec,af x.Code,aj aM x.tC,j x.At] [j x.Left,aj aM x.fm,j x.Prec,af x.Code,aj aM x.tC,j x.At])
def b_:cD bV:=⟨5,λx=>[aj bt x.a6,aj bb x.bx,aj bI x.aX,af x.bB,af x.bE],λ_=>rfl,λ_=>eU.bL⟩
instance:Flat b_:=⟨λ_=>rfl⟩
instance:ho b_ b_:=⟨rfl,λx=>(inferInstance:dQ [aj bt x.a6,aj bb x.bx,aj bI x.aX,af x.bB,af x.bE] [aj bt x.a6,aj bb x.bx,aj bI x.aX,af x.bB,af x.bE])⟩
instance {x:bV}:dQ (b_.cells x) [aj bt x.a6,aj bb x.bx,aj bI x.aX,af x.bB,af x.bE]:=(inferInstance:dQ [aj bt x.a6,aj bb x.bx,aj bI x.aX,af x.bB,af x.bE] [aj bt x.a6,aj bb x.bx,aj bI x.aX,af x.bB,af x.bE])
def CB:cD cR:=⟨13,λx=>[aj bt x.aq.a6,aj bb x.aq.bx,aj bI x.aq.aX,af x.aq.bB,af x.aq.bE,aj bJ x.b4,aj bb x.b2,aj cA x.bG,j x.b7,j x.cd,af x.cb,j x.b0,j x.bD],λ_=>rfl,λ_=>eU.bL⟩
instance:Flat CB:=⟨λ_=>rfl⟩
instance:ho CB CB:=⟨rfl,λx=>(inferInstance:dQ [aj bt x.aq.a6,aj bb x.aq.bx,aj bI x.aq.aX,af x.aq.bB,af x.aq.bE,aj bJ x.b4,aj bb x.b2,aj cA x.bG,j x.b7,j x.cd,af x.cb,j x.b0,j x.bD] [aj bt x.aq.a6,aj bb x.aq.bx,aj bI x.aq.aX,af x.aq.bB,af x.aq.bE,aj bJ x.b4,aj bb x.b2,aj cA x.bG,j x.b7,j x.cd,af x.cb,j x.b0,j x.bD])⟩
instance {x:cR}:dQ (CB.cells x) [aj bt x.aq.a6,aj bb x.aq.bx,aj bI x.aq.aX,af x.aq.bB,af x.aq.bE,aj bJ x.b4,aj bb x.b2,aj cA x.bG,j x.b7,j x.cd,af x.cb,j x.b0,j x.bD]:=(inferInstance:dQ [aj bt x.aq.a6,aj bb x.aq.bx,aj bI x.aq.aX,af x.aq.bB,af x.aq.bE,aj bJ x.b4,aj bb x.b2,aj cA x.bG,j x.b7,j x.cd,af x.cb,j x.b0,j x.bD] [aj bt x.aq.a6,aj bb x.aq.bx,aj bI x.aq.aX,af x.aq.bB,af x.aq.bE,aj bJ x.b4,aj bb x.b2,aj cA x.bG,j x.b7,j x.cd,af x.cb,j x.b0,j x.bD])
def Ks:cD bV:=⟨5,λx=>[ak bt x.a6,ak bb x.bx,ak bI x.aX,af x.bB,af x.bE],λ_=>rfl,λ_=>eU.bL⟩
instance:ho Ks b_:=⟨rfl,λx=>(inferInstance:dQ [ak bt x.a6,ak bb x.bx,ak bI x.aX,af x.bB,af x.bE] [aj bt x.a6,aj bb x.bx,aj bI x.aX,af x.bB,af x.bE])⟩
instance {x:bV}:dQ (Ks.cells x) [aj bt x.a6,aj bb x.bx,aj bI x.aX,af x.bB,af x.bE]:=(inferInstance:dQ [ak bt x.a6,ak bb x.bx,ak bI x.aX,af x.bB,af x.bE] [aj bt x.a6,aj bb x.bx,aj bI x.aX,af x.bB,af x.bE])
def ea:cD cR:=⟨13,λx=>[ak bt x.aq.a6,ak bb x.aq.bx,ak bI x.aq.aX,af x.aq.bB,af x.aq.bE,ak bJ x.b4,ak bb x.b2,ak cA x.bG,j x.b7,j x.cd,af x.cb,j x.b0,j x.bD],λ_=>rfl,λ_=>eU.bL⟩
instance {x:cR}:dQ (ea.cells x) [aj bt x.aq.a6,aj bb x.aq.bx,aj bI x.aq.aX,af x.aq.bB,af x.aq.bE,aj bJ x.b4,aj bb x.b2,aj cA x.bG,j x.b7,j x.cd,af x.cb,j x.b0,j x.bD]:=(inferInstance:dQ [ak bt x.aq.a6,ak bb x.aq.bx,ak bI x.aq.aX,af x.aq.bB,af x.aq.bE,ak bJ x.b4,ak bb x.b2,ak cA x.bG,j x.b7,j x.cd,af x.cb,j x.b0,j x.bD] [aj bt x.aq.a6,aj bb x.aq.bx,aj bI x.aq.aX,af x.aq.bB,af x.aq.bE,aj bJ x.b4,aj bb x.b2,aj cA x.bG,j x.b7,j x.cd,af x.cb,j x.b0,j x.bD])
def np (a0:cR) (ay:Int) (a2:ByteArray):Option (cR) :=
 ((bif decide (a0.b7=0) then
 some (⟨a0.aq,a0.b4,a0.b2,a0.bG,3,ay,a2,a0.b0,a0.bD⟩:cR)
 else
 some a0)).bind λib =>
 some ib
def yJ (a0:cR) (ay:ByteArray):Option (Int) :=
 (cJ (R:=(Unit) ⊕ (Int)) (λ(s1:Int) =>
 (bif decide (s1<(a0.b2.length:Int)) then
 (idx a0.b2 s1).bind λbr =>
 (bif decide (br.Name=ay) then
 some (.inr (.inr s1))
 else
 some (.inl (aO (s1+1))))
 else
 some (.inr (.inl ())))) 0).bind λx2 =>
 (match x2 with
 | .inl aZ =>
 some (-1)
 | .inr bs =>
 some bs)
def tc (a0:cR) (ay:Sym):Option (Int) :=
 (cJ (R:=(Unit) ⊕ (Int)) (λ(s1:Int) =>
 (bif decide (s1<(a0.aq.a6.length:Int)) then
 (((idx a0.aq.a6 s1).bind λbr=>(bif decide (br.Name=ay.Name) then ((idx a0.aq.a6 s1).bind λb1=>(bif (b1.Lit == ay.Lit) then some (!decide (s1=2)) else some false)) else some false))).bind λjn =>
 (bif jn then
 some (.inr (.inr s1))
 else
 some (.inl (aO (s1+1))))
 else
 some (.inr (.inl ())))) 1).bind λx2 =>
 (match x2 with
 | .inl aZ =>
 some (-1)
 | .inr bs =>
 some bs)
def yy (a0:cR) (ay:Int):Option (Int) :=
 (cJ (R:=(Unit) ⊕ (Int)) (λ(s1:Int) =>
 (bif decide (s1<(a0.aq.a6.length:Int)) then
 (idx a0.aq.a6 s1).bind λbr =>
 (bif decide (br.c9=ay) then
 some (.inr (.inr s1))
 else
 some (.inl (aO (s1+1))))
 else
 some (.inr (.inl ())))) 3).bind λx2 =>
 (match x2 with
 | .inl aZ =>
 some (-1)
 | .inr bs =>
 some bs)
def uN (a0:cR) (ay:Sym):Option (Int × cR) :=
 (tc a0 ay).bind λaI =>
 (bif decide (0<=aI) then
 some (aI,a0)
 else
 ((bif ay.Lit then
 (kV ay.Name 0).bind λcn =>
 (yy a0 (aO cn)).bind λbr =>
 ((bif decide (0<=br) then
 (np a0 ay.At ay.Name).bind λcp =>
 some cp
 else
 some a0)).bind λma =>
 some (ma,aO cn)
 else
 some (a0,0))).bind λdr =>
 (ez dr.1.aq.a6 [(⟨ay.Name,ay.Lit,dr.2,0,0,{ data:=#[] }⟩:bC)]).bind λbZ =>
 (ez dr.1.b4 [ay.Lit]).bind λct =>
 some (aO (((dr.1.aq.a6++[(⟨ay.Name,ay.Lit,dr.2,0,0,{ data:=#[] }⟩:bC)]).length:Int) - 1),(⟨(⟨dr.1.aq.a6++[(⟨ay.Name,ay.Lit,dr.2,0,0,{ data:=#[] }⟩:bC)],dr.1.aq.bx,dr.1.aq.aX,dr.1.aq.bB,dr.1.aq.bE⟩:bV),dr.1.b4++[ay.Lit],dr.1.b2,dr.1.bG,dr.1.b7,dr.1.cd,dr.1.cb,dr.1.b0,dr.1.bD⟩:cR)))
def wQ (a0:cR) (ay:Decl) (a2:Sym):Option (cR) :=
 (bif decide (ay.Kind=5) then
 (yJ a0 a2.Name).bind λx2 =>
 ((bif decide (x2<0) then
 (ez a0.b2 [(⟨a2.Name,ay.Tag⟩:eY)]).bind λcn =>
 some (⟨a0.aq,a0.b4,a0.b2++[(⟨a2.Name,ay.Tag⟩:eY)],a0.bG,a0.b7,a0.cd,a0.cb,a0.b0,a0.bD⟩:cR)
 else
 (idx a0.b2 x2).bind λbr =>
 ((bif !decide (br.Tag=ay.Tag) then
 (np a0 a2.At a2.Name).bind λcp =>
 some cp
 else
 some a0)).bind λma =>
 some ma)).bind λdr =>
 some dr
 else
 (uN a0 a2).bind λbZ =>
 (idx bZ.2.aq.a6 bZ.1).bind λct =>
 ((bif !decide (ay.Kind=1) then
 ((bif decide (0<ct.Level) then
 (np bZ.2 a2.At a2.Name).bind λcr =>
 some (⟨(⟨bZ.2.aq.a6,cr.aq.bx,cr.aq.aX,cr.aq.bB,cr.aq.bE⟩:bV),cr.b4,cr.b2,cr.bG,cr.b7,cr.cd,cr.cb,cr.b0,cr.bD⟩:cR)
 else
 some bZ.2)).bind λdn =>
 (idx dn.aq.a6 bZ.1).bind λb9 =>
 some (⟨(⟨(dn.aq.a6.set bZ.1.toNat (⟨b9.Name,b9.Lit,b9.c9,dn.b0,b9.eC,b9.Tag⟩:bC)).set bZ.1.toNat (⟨(⟨b9.Name,b9.Lit,b9.c9,dn.b0,b9.eC,b9.Tag⟩:bC).Name,(⟨b9.Name,b9.Lit,b9.c9,dn.b0,b9.eC,b9.Tag⟩:bC).Lit,(⟨b9.Name,b9.Lit,b9.c9,dn.b0,b9.eC,b9.Tag⟩:bC).c9,(⟨b9.Name,b9.Lit,b9.c9,dn.b0,b9.eC,b9.Tag⟩:bC).Level,aO (ay.Kind - 1),(⟨b9.Name,b9.Lit,b9.c9,dn.b0,b9.eC,b9.Tag⟩:bC).Tag⟩:bC),dn.aq.bx,dn.aq.aX,dn.aq.bB,dn.aq.bE⟩:bV),dn.b4,dn.b2,dn.bG,dn.b7,dn.cd,dn.cb,dn.b0,dn.bD⟩:cR)
 else
 some bZ.2)).bind λfa =>
 (idx fa.aq.a6 bZ.1).bind λeX =>
 ((bif decide (0<a2.c9) then
 ((bif decide (bZ.1=1) then some true else ((idx fa.b4 bZ.1).bind λhj=>(bif hj then some true else ((yy fa a2.c9).bind λfZ=>some (decide (0<=fZ))))))).bind λCi =>
 ((bif Ci then
 (np fa a2.At a2.Name).bind λc3 =>
 some (⟨(⟨fa.aq.a6,c3.aq.bx,c3.aq.aX,c3.aq.bB,c3.aq.bE⟩:bV),c3.b4,c3.b2,c3.bG,c3.b7,c3.cd,c3.cb,c3.b0,c3.bD⟩:cR)
 else
 some fa)).bind λej =>
 (idx ej.aq.a6 bZ.1).bind λeR =>
 (idx ej.b4 bZ.1).bind λhU =>
 some (⟨(⟨ej.aq.a6.set bZ.1.toNat (⟨eR.Name,eR.Lit,a2.c9,eR.Level,eR.eC,eR.Tag⟩:bC),ej.aq.bx,ej.aq.aX,ej.aq.bB,ej.aq.bE⟩:bV),ej.b4.set bZ.1.toNat true,ej.b2,ej.bG,ej.b7,ej.cd,ej.cb,ej.b0,ej.bD⟩:cR)
 else
 some fa)).bind λfH =>
 (idx fH.aq.a6 bZ.1).bind λiL =>
 ((bif !decide (ay.Tag={ data:=#[] }) then
 ((bif !decide (iL.Tag={ data:=#[] }) then some (!decide (iL.Tag=ay.Tag)) else some false)).bind λqN =>
 ((bif qN then
 (np fH a2.At a2.Name).bind λcP =>
 some (⟨(⟨fH.aq.a6,cP.aq.bx,cP.aq.aX,cP.aq.bB,cP.aq.bE⟩:bV),cP.b4,cP.b2,cP.bG,cP.b7,cP.cd,cP.cb,cP.b0,cP.bD⟩:cR)
 else
 some fH)).bind λgy =>
 (idx gy.aq.a6 bZ.1).bind λh5 =>
 some (⟨(⟨gy.aq.a6.set bZ.1.toNat (⟨h5.Name,h5.Lit,h5.c9,h5.Level,h5.eC,ay.Tag⟩:bC),gy.aq.bx,gy.aq.aX,gy.aq.bB,gy.aq.bE⟩:bV),gy.b4,gy.b2,gy.bG,gy.b7,gy.cd,gy.cb,gy.b0,gy.bD⟩:cR)
 else
 some fH)).bind λoM =>
 some oM)
def qs (a0:cR) (ay:ByteArray):Option (Int) :=
 (cJ (R:=(Unit) ⊕ (Int)) (λ(s1:Int) =>
 (bif decide (s1<(a0.bG.length:Int)) then
 (idx a0.bG s1).bind λbr =>
 (bif decide (br=ay) then
 some (.inr (.inr s1))
 else
 some (.inl (aO (s1+1))))
 else
 some (.inr (.inl ())))) 0).bind λx2 =>
 (match x2 with
 | .inl aZ =>
 some (-1)
 | .inr bs =>
 some bs)
def sc (a0:cR) (ay:Sym):Option (Int × cR) :=
 (bif ay.Lit then
 (uN a0 ay).bind λx2 =>
 some (x2.1,x2.2)
 else
 (qs a0 ay.Name).bind λaZ =>
 (bif decide (0<=aZ) then
 some (aO (1001+aZ),a0)
 else
 (tc a0 ay).bind λcn =>
 (bif decide (cn<0) then
 (np a0 ay.At ay.Name).bind λbj =>
 some (0,bj)
 else
 some (cn,a0))))
def wR (a0:cR) (ay:ByteArray) (a2:Alt):Option (cR) :=
 (qs a0 ay).bind λaI =>
 (cJ (R:=cR × List Int × ByteArray × Int) (λ(s2:cR × List Int × ByteArray × Int × Int) =>
 (bif decide (s2.2.2.2.2<(a2.jJ.length:Int)) then
 ((idx a2.jJ s2.2.2.2.2).bind λbj =>
 (((bif decide (bj.Code={ data:=#[] }) then
 (sc s2.1 bj.Sym).bind λct =>
 (ez s2.2.1 [ct.1]).bind λcM =>
 some (ct.2,s2.2.1++[ct.1],s2.2.2.1,s2.2.2.2.1)
 else
 ((bif decide (aO (s2.2.2.2.2+1)=(a2.jJ.length:Int)) then
 some (s2.1.aq.aX,s2.1.bD,s2.2.1,bj.Code,bj.At)
 else
 (ez ([]:List Int) s2.2.1).bind λdk =>
 (ez s2.1.aq.aX [(⟨aO ((s2.1.bG.length:Int)+(aO (s2.1.bD+1))),([]:List Int),(-1),bj.Code,([]:List Int)++s2.2.1,bj.At⟩:Prod)]).bind λcr =>
 (ez s2.2.1 [aO ((aO (1000+(s2.1.bG.length:Int)))+(aO (s2.1.bD+1)))]).bind λb9 =>
 some (s2.1.aq.aX++[(⟨aO ((s2.1.bG.length:Int)+(aO (s2.1.bD+1))),([]:List Int),(-1),bj.Code,([]:List Int)++s2.2.1,bj.At⟩:Prod)],aO (s2.1.bD+1),s2.2.1++[aO ((aO (1000+(s2.1.bG.length:Int)))+(aO (s2.1.bD+1)))],s2.2.2.1,s2.2.2.2.1))).bind λjf =>
 some ((⟨(⟨s2.1.aq.a6,s2.1.aq.bx,jf.1,s2.1.aq.bB,s2.1.aq.bE⟩:bV),s2.1.b4,s2.1.b2,s2.1.bG,s2.1.b7,s2.1.cd,s2.1.cb,s2.1.b0,jf.2.1⟩:cR),jf.2.2.1,jf.2.2.2.1,jf.2.2.2.2))).bind λpD =>
 some (pD.1,pD.2.1,pD.2.2.1,pD.2.2.2)).bind λj1 =>
 some (j1.1,j1.2.1,j1.2.2.1,j1.2.2.2)).bind λjg =>
 some (.inl (jg.1,jg.2.1,jg.2.2.1,jg.2.2.2,aO (s2.2.2.2.2+1)))
 else
 some (.inr (s2.1,s2.2.1,s2.2.2.1,s2.2.2.2.1)))) (a0,([]:List Int),{ data:=#[] },a2.At,0)).bind λaZ =>
 (cJ (R:=Int) (λ(qw:Int × Int) =>
 (bif decide (qw.2<(aZ.2.1.length:Int)) then
 ((idx aZ.2.1 qw.2).bind λeF =>
 ((bif decide (eF<1000) then
 (idx aZ.2.1 qw.2).bind λh4 =>
 some h4
 else
 some qw.1)).bind λAG =>
 some AG).bind λn_ =>
 some (.inl (n_,aO (qw.2+1)))
 else
 some (.inr qw.1))) ((-1),0)).bind λfC =>
 ((bif !decide (a2.Prec.Name={ data:=#[] }) then
 ((bif a2.Prec.Lit then some true else ((qs aZ.1 a2.Prec.Name).bind λhU=>some (decide (hU<0))))).bind λrN =>
 ((bif rN then
 (sc aZ.1 a2.Prec).bind λgR =>
 some (gR.2,gR.1)
 else
 (np aZ.1 a2.Prec.At a2.Prec.Name).bind λgf =>
 some (gf,(-1)))).bind λoM =>
 some (oM.1,oM.2)
 else
 some (aZ.1,fC))).bind λfz =>
 (ez ([]:List Int) aZ.2.1).bind λhz =>
 (ez fz.1.aq.aX [(⟨aO (1+aI),aZ.2.1,fz.2,aZ.2.2.1,([]:List Int)++aZ.2.1,aZ.2.2.2⟩:Prod)]).bind λji =>
 some (⟨(⟨fz.1.aq.a6,fz.1.aq.bx,fz.1.aq.aX++[(⟨aO (1+aI),aZ.2.1,fz.2,aZ.2.2.1,([]:List Int)++aZ.2.1,aZ.2.2.2⟩:Prod)],fz.1.aq.bB,fz.1.aq.bE⟩:bV),fz.1.b4,fz.1.b2,fz.1.bG,fz.1.b7,fz.1.cd,fz.1.cb,fz.1.b0,fz.1.bD⟩:cR)
def Bq (a0:Int):Option (ByteArray) :=
 ((bif decide (a0<0) then
 some (IntKind.u64.wrap (-(IntKind.u64.wrap a0)))
 else
 some (IntKind.u64.wrap a0))).bind λib =>
 (cJ (R:=ByteArray) (λ(ee:Int × ByteArray) =>
 ((bif decide (0<ee.1) then some true else some (decide (ee.2={ data:=#[] })))).bind λqO =>
 (bif qO then
 (ti ee.1 10).bind λcp =>
 (sE (strOfNums [hh (IntKind.u64.wrap (48+cp))]) ee.2).bind λbZ =>
 (tf ee.1 10).bind λct =>
 some (.inl (ct,bZ))
 else
 some (.inr ee.2))) (ib,{ data:=#[] })).bind λbs =>
 (bif decide (a0<0) then
 (sE ({ data:=#[45] }) bs).bind λdC =>
 some dC
 else
 some bs)
def wN (a0:Source):Option (bV × Int × Int × ByteArray) :=
 (wP a0).bind λaI =>
 (bif !aI then
 some ((⟨([]:List bC),([]:List eY),([]:List Prod),{ data:=#[] },{ data:=#[] }⟩:bV),1,0,{ data:=#[] })
 else
 (oO 3 false).bind λaZ =>
 (cJ (R:=cR × ByteArray) (λ(bO:cR × ByteArray × Int) =>
 (bif decide (bO.2.2<(a0.Decls.length:Int)) then
 (idx a0.Decls bO.2.2).bind λb1 =>
 ((bif decide (2<=b1.Kind) then some (decide (b1.Kind<=4)) else some false)).bind λjn =>
 ((bif jn then
 some (aO (bO.1.b0+1))
 else
 some bO.1.b0)).bind λgP =>
 (cJ (R:=cR × ByteArray) (λ(gz:cR × ByteArray × Int) =>
 (bif decide (gz.2.2<(b1.fg.length:Int)) then
 ((bif !decide (b1.Kind=6) then
 (idx b1.fg gz.2.2).bind λfC =>
 (wQ gz.1 b1 fC).bind λeJ =>
 some (eJ,gz.2.1)
 else
 ((bif !decide (gz.2.1={ data:=#[] }) then
 (idx b1.fg gz.2.2).bind λeF =>
 (idx b1.fg gz.2.2).bind λfZ =>
 (np gz.1 eF.At fZ.Name).bind λe2 =>
 some e2
 else
 some gz.1)).bind λoL =>
 (idx b1.fg gz.2.2).bind λh4 =>
 some (oL,h4.Name))).bind λn9 =>
 some (.inl (n9.1,n9.2,aO (gz.2.2+1)))
 else
 some (.inr (gz.1,gz.2.1)))) ((⟨bO.1.aq,bO.1.b4,bO.1.b2,bO.1.bG,bO.1.b7,bO.1.cd,bO.1.cb,gP,bO.1.bD⟩:cR),bO.2.1,0)).bind λdU =>
 some (.inl (dU.1,dU.2,aO (bO.2.2+1)))
 else
 some (.inr (bO.1,bO.2.1)))) ((⟨(⟨[(⟨{ data:=#[36,101,110,100] },false,0,0,0,{ data:=#[] }⟩:bC),(⟨{ data:=#[101,114,114,111,114] },false,(-1),0,0,{ data:=#[] }⟩:bC),(⟨{ data:=#[36,117,110,107] },false,(-1),0,0,{ data:=#[] }⟩:bC)],[],[],{ data:=#[] },{ data:=#[] }⟩:bV),aZ,[],[],0,0,{ data:=#[] },0,0⟩:cR),{ data:=#[] },0)).bind λcn =>
 (cJ (R:=cR) (λ(mf:cR × Int) =>
 (bif decide (mf.2<(a0.ei.length:Int)) then
 ((idx a0.ei mf.2).bind λdS =>
 (tc mf.1 (⟨dS.Left,false,0,0⟩:Sym)).bind λjS =>
 ((bif decide (0<=jS) then
 (np mf.1 dS.At dS.Left).bind λhz =>
 some hz
 else
 some mf.1)).bind λfA =>
 (qs fA dS.Left).bind λji =>
 ((bif decide (ji<0) then
 (ez fA.bG [dS.Left]).bind λnr =>
 some (fA.bG++[dS.Left])
 else
 some fA.bG)).bind λHn =>
 some (⟨fA.aq,fA.b4,fA.b2,Hn,fA.b7,fA.cd,fA.cb,fA.b0,fA.bD⟩:cR)).bind λwi =>
 some (.inl (wi,aO (mf.2+1)))
 else
 some (.inr mf.1))) (cn.1,0)).bind λc3 =>
 (cJ (R:=cR) (λ(mU:cR × Int) =>
 (bif decide (mU.2<(a0.Decls.length:Int)) then
 (cJ (R:=cR) (λ(mg:cR × Int) =>
 (idx a0.Decls mU.2).bind λtz =>
 (bif decide (mg.2<(tz.fg.length:Int)) then
 ((idx a0.Decls mU.2).bind λyU =>
 (idx yU.fg mg.2).bind λjj =>
 (((idx a0.Decls mU.2).bind λIJ=>(bif decide (5<=IJ.Kind) then ((qs mg.1 jj.Name).bind λlN=>some (decide (lN<0))) else some false))).bind λEV =>
 ((bif EV then
 (np mg.1 jj.At jj.Name).bind λmo =>
 some mo
 else
 some mg.1)).bind λHr =>
 some Hr).bind λHq =>
 some (.inl (Hq,aO (mg.2+1)))
 else
 some (.inr mg.1))) (mU.1,0)).bind λla =>
 some (.inl (la,aO (mU.2+1)))
 else
 some (.inr mU.1))) (c3,0)).bind λbY =>
 ((bif decide (cn.2={ data:=#[] }) then
 (idx a0.ei 0).bind λqB =>
 some qB.Left
 else
 some cn.2)).bind λs8 =>
 (qs bY s8).bind λh6 =>
 (cJ (R:=cR) (λ(nF:cR × Int) =>
 (bif decide (nF.2<(a0.ei.length:Int)) then
 (cJ (R:=cR) (λ(pN:cR × Int) =>
 (idx a0.ei nF.2).bind λBJ =>
 (bif decide (pN.2<(BJ.fR.length:Int)) then
 (idx a0.ei nF.2).bind λyV =>
 (idx a0.ei nF.2).bind λIN =>
 (idx IN.fR pN.2).bind λrB =>
 (wR pN.1 yV.Left rB).bind λjE =>
 some (.inl (jE,aO (pN.2+1)))
 else
 some (.inr pN.1))) (nF.1,0)).bind λkq =>
 some (.inl (kq,aO (nF.2+1)))
 else
 some (.inr nF.1))) ((⟨(⟨bY.aq.a6,bY.aq.bx,[(⟨0,[aO (1001+h6)],(-1),{ data:=#[] },([]:List Int),0⟩:Prod)],bY.aq.bB,bY.aq.bE⟩:bV),bY.b4,bY.b2,bY.bG,bY.b7,bY.cd,bY.cb,bY.b0,bY.bD⟩:cR),0)).bind λbc =>
 (bif !decide (bc.b7=0) then
 some ((⟨([]:List bC),([]:List eY),([]:List Prod),{ data:=#[] },{ data:=#[] }⟩:bV),bc.b7,bc.cd,bc.cb)
 else
 (cJ (R:=List eY) (λ(mV:List eY × Int) =>
 (bif decide (mV.2<(bc.bG.length:Int)) then
 (idx bc.bG mV.2).bind λmq =>
 (yJ (⟨(⟨bc.aq.a6,mV.1,bc.aq.aX,bc.aq.bB,bc.aq.bE⟩:bV),bc.b4,bc.b2,bc.bG,bc.b7,bc.cd,bc.cb,bc.b0,bc.bD⟩:cR) mq).bind λw_ =>
 ((bif decide (0<=w_) then
 (idx bc.b2 w_).bind λEe =>
 some Ee.Tag
 else
 some ({ data:=#[] }))).bind λqm =>
 (ez mV.1 [(⟨mq,qm⟩:eY)]).bind λN8 =>
 some (.inl (mV.1++[(⟨mq,qm⟩:eY)],aO (mV.2+1)))
 else
 some (.inr mV.1))) ([(⟨{ data:=#[36,97,99,99,101,112,116] },{ data:=#[] }⟩:eY)],0)).bind λu6 =>
 (cJ (R:=List eY) (λ(og:List eY × Int) =>
 (bif decide (og.2<=bc.bD) then
 (Bq og.2).bind λEf =>
 (sE ({ data:=#[64] }) Ef).bind λrC =>
 (ez og.1 [(⟨rC,{ data:=#[] }⟩:eY)]).bind λN9 =>
 some (.inl (og.1++[(⟨rC,{ data:=#[] }⟩:eY)],aO (og.2+1)))
 else
 some (.inr og.1))) (u6,1)).bind λiT =>
 (cJ (R:=List bC) (λ(iJ:List bC × Int × Int) =>
 (bif decide (iJ.2.2<(iJ.1.length:Int)) then
 ((idx bc.b4 iJ.2.2).bind λIF =>
 ((bif !IF then
 (idx iJ.1 iJ.2.2).bind λlA =>
 some (iJ.1.set iJ.2.2.toNat (⟨lA.Name,lA.Lit,iJ.2.1,lA.Level,lA.eC,lA.Tag⟩:bC),aO (iJ.2.1+1))
 else
 some (iJ.1,iJ.2.1))).bind λAE =>
 some (AE.1,AE.2)).bind λAH =>
 some (.inl (AH.1,AH.2,aO (iJ.2.2+1)))
 else
 some (.inr iJ.1))) (bc.aq.a6,57346,3)).bind λkt =>
 ((bif decide (40<(kt.length:Int)) then some true else (bif decide (24<(iT.length:Int)) then some true else some (decide (60<(bc.aq.aX.length:Int)))))).bind λqM =>
 (cJ (R:=Bool) (λ(sg:Bool × Int) =>
 (bif decide (sg.2<(bc.aq.aX.length:Int)) then
 ((bif sg.1 then some true else ((idx bc.aq.aX sg.2).bind λIG=>some (decide (8<(IG.fm.length:Int)))))).bind λEP =>
 some (.inl (EP,aO (sg.2+1)))
 else
 some (.inr sg.1))) (qM,0)).bind λyR =>
 (bif yR then
 some ((⟨([]:List bC),([]:List eY),([]:List Prod),{ data:=#[] },{ data:=#[] }⟩:bV),4,0,{ data:=#[] })
 else
 some ((⟨kt,iT,bc.aq.aX,a0.bB,a0.bE⟩:bV),0,0,{ data:=#[] }))))
def wL (a0:Source):Option (bV × Bool) :=
 (wN a0).bind λaI =>
 some (aI.1,decide (aI.2.1=0))
def oc (a0:(List Int)) (ay:Int):Option ((List Int)) :=
 (cJ (R:=Int) (λ(s1:Int) =>
 ((bif decide (0<s1) then ((idx a0 (aO (s1 - 1))).bind λcn=>some (decide (ay<cn))) else some false)).bind λvm =>
 (bif vm then
 some (.inl (aO (s1 - 1)))
 else
 some (.inr s1))) (a0.length:Int)).bind λx2 =>
 ((bif decide (0<x2) then ((idx a0 (aO (x2 - 1))).bind λcp=>some (decide (cp=ay))) else some false)).bind λjn =>
 (bif jn then
 some a0
 else
 (oT a0 0 x2).bind λcM =>
 (ez ([]:List Int) cM).bind λdC =>
 (ez (([]:List Int)++cM) [ay]).bind λdU =>
 (oT a0 x2 a0.length).bind λdk =>
 (ez ((([]:List Int)++cM)++[ay]) dk).bind λcr =>
 some ((([]:List Int)++cM)++[ay]++dk))
def uQ (a0:(List Int)) (ay:Int):Option (Bool) :=
 (cJ (R:=(Unit) ⊕ (Bool)) (λ(s1:Int) =>
 (bif decide (s1<(a0.length:Int)) then
 (idx a0 s1).bind λbr =>
 (bif decide (br=ay) then
 some (.inr (.inr true))
 else
 some (.inl (aO (s1+1))))
 else
 some (.inr (.inl ())))) 0).bind λx2 =>
 (match x2 with
 | .inl aZ =>
 some false
 | .inr bs =>
 some bs)
def Bj (a0:bV):Option ((List Int)) :=
 (cJ (R:=List Int) (λ(s1:List Int × Int) =>
 (bif decide (s1.2<(a0.a6.length:Int)) then
 (ez s1.1 [s1.2]).bind λcn =>
 some (.inl (s1.1++[s1.2],aO (s1.2+1)))
 else
 some (.inr s1.1))) (([]:List Int),0)).bind λx2 =>
 (cJ (R:=List Int) (λ(c_:List Int × Int) =>
 (bif decide (c_.2<(a0.bx.length:Int)) then
 (ez c_.1 [aO (1000+c_.2)]).bind λbZ =>
 some (.inl (c_.1++[aO (1000+c_.2)],aO (c_.2+1)))
 else
 some (.inr c_.1))) (x2,0)).bind λbj =>
 some bj
structure Item where
 Prod:Int
 dH:Int
 deriving DecidableEq,Inhabited
def yu (a0:bV) (ay:Item):Option (Bool) :=
 ((bif decide (0<=ay.Prod) then (bif decide (ay.Prod<(a0.aX.length:Int)) then (bif decide (0<=ay.dH) then ((idx a0.aX ay.Prod).bind λbs=>some (decide (ay.dH<=(bs.fm.length:Int)))) else some false) else some false) else some false)).bind λkA =>
 some kA
def tb (a0:bV) (ay:Item):Option (Int) :=
 (((yu a0 ay).bind λaI=>(bif !aI then some true else ((idx a0.aX ay.Prod).bind λaZ=>some (decide (ay.dH=(aZ.fm.length:Int))))))).bind λc4 =>
 (bif c4 then
 some (-1)
 else
 (idx a0.aX ay.Prod).bind λbr =>
 (idx br.fm ay.dH).bind λbj =>
 some bj)
def dj:cD Item:=⟨2,λx=>[j x.Prod,j x.dH],λ_=>rfl,λ_=>eU.bL⟩
instance:Flat dj:=⟨λ_=>rfl⟩
instance:lS dj:=⟨λx=>(inferInstance:jW [j x.Prod,j x.dH])⟩
instance:ho dj dj:=⟨rfl,λx=>(inferInstance:dQ [j x.Prod,j x.dH] [j x.Prod,j x.dH])⟩
def wB (a0:(List Item)) (ay:Item):Option ((List Item)) :=
 (cJ (R:=Int) (λ(s1:Int) =>
 ((bif decide (0<s1) then ((idx a0 (aO (s1 - 1))).bind λcn=>(bif decide (ay.Prod<cn.Prod) then some true else ((idx a0 (aO (s1 - 1))).bind λbj=>(bif decide (bj.Prod=ay.Prod) then ((idx a0 (aO (s1 - 1))).bind λcp=>some (decide (ay.dH<cp.dH))) else some false)))) else some false)).bind λjn =>
 (bif jn then
 some (.inl (aO (s1 - 1)))
 else
 some (.inr s1))) (a0.length:Int)).bind λx2 =>
 ((bif decide (0<x2) then ((idx a0 (aO (x2 - 1))).bind λdC=>some (decide (dC.Prod=ay.Prod)&&(decide (dC.dH=ay.dH)&&true))) else some false)).bind λsC =>
 (bif sC then
 some a0
 else
 (oT a0 0 x2).bind λcr =>
 (ez ([]:List Item) cr).bind λb9 =>
 (ez (([]:List Item)++cr) [ay]).bind λeX =>
 (oT a0 x2 a0.length).bind λfC =>
 (ez ((([]:List Item)++cr)++[ay]) fC).bind λeJ =>
 some ((([]:List Item)++cr)++[ay]++fC))
def A1 (a0:bV) (ay:(List Item)):Option ((List Item)) :=
 (cJ (R:=List Item) (λ(s1:List Item × Int) =>
 (bif decide (s1.2<(ay.length:Int)) then
 ((idx ay s1.2).bind λbr =>
 (yu a0 br).bind λbj =>
 ((bif bj then
 (idx ay s1.2).bind λbZ =>
 (wB s1.1 bZ).bind λct =>
 some ct
 else
 some s1.1)).bind λj1 =>
 some j1).bind λmQ =>
 some (.inl (mQ,aO (s1.2+1)))
 else
 some (.inr s1.1))) (([]:List Item),0)).bind λx2 =>
 some x2
def wO (a0:bV) (ay:(List Item)):Option ((List Item)) :=
 (A1 a0 ay).bind λaI =>
 (cJ (R:=List Item) (λ(s2:List Item × Int) =>
 (bif !decide (s2.2=(s2.1.length:Int)) then
 (((cJ (R:=List Item) (λ(cw:List Item × Int) =>
 (bif decide (cw.2<(s2.1.length:Int)) then
 (idx cw.1 cw.2).bind λcM =>
 (tb a0 cM).bind λdC =>
 (cJ (R:=List Item) (λ(iq:List Item × Int) =>
 ((bif decide (iq.2<(a0.aX.length:Int)) then some (decide (1000<=dC)) else some false)).bind λnQ =>
 (bif nQ then
 ((idx a0.aX iq.2).bind λdN =>
 ((bif decide (dN.Left=aO (dC - 1000)) then
 (wB iq.1 (⟨iq.2,0⟩:Item)).bind λfZ =>
 some fZ
 else
 some iq.1)).bind λn_ =>
 some n_).bind λAF =>
 some (.inl (AF,aO (iq.2+1)))
 else
 some (.inr iq.1))) (cw.1,0)).bind λdk =>
 (bif !decide ((dk.length:Int)=(s2.1.length:Int)) then
 some (.inr dk)
 else
 some (.inl (dk,aO (cw.2+1))))
 else
 some (.inr cw.1))) (s2.1,0)).bind λcp =>
 some cp).bind λma =>
 some (ma,(s2.1.length:Int))).bind λjg =>
 some (.inl (jg.1,jg.2))
 else
 some (.inr s2.1))) (aI,(-1))).bind λaZ =>
 some aZ
def Bk (a0:bV) (ay:(List Item)) (a2:Int):Option ((List Item)) :=
 (wO a0 ay).bind λaI =>
 (cJ (R:=List Item) (λ(s2:List Item × Int) =>
 (bif decide (s2.2<(aI.length:Int)) then
 ((idx aI s2.2).bind λbj =>
 (tb a0 bj).bind λb1 =>
 ((bif decide (0<=b1) then some (decide (b1=a2)) else some false)).bind λjn =>
 ((bif jn then
 (idx aI s2.2).bind λdC =>
 (idx aI s2.2).bind λdU =>
 (wB s2.1 (⟨dC.Prod,aO (dU.dH+1)⟩:Item)).bind λdk =>
 some dk
 else
 some s2.1)).bind λgP =>
 some gP).bind λjg =>
 some (.inl (jg,aO (s2.2+1)))
 else
 some (.inr s2.1))) (([]:List Item),0)).bind λaZ =>
 some aZ
def A2 (a0:(List Item)) (ay:(List Item)):Option (Bool) :=
 (bif !decide ((a0.length:Int)=(ay.length:Int)) then
 some false
 else
 (cJ (R:=(Unit) ⊕ (Bool)) (λ(s2:Int) =>
 (bif decide (s2<(a0.length:Int)) then
 (idx a0 s2).bind λbj =>
 (idx ay s2).bind λb1 =>
 (bif !(decide (bj.Prod=b1.Prod)&&(decide (bj.dH=b1.dH)&&true)) then
 some (.inr (.inr false))
 else
 some (.inl (aO (s2+1))))
 else
 some (.inr (.inl ())))) 0).bind λaZ =>
 (match aZ with
 | .inl bs =>
 some true
 | .inr cn =>
 some cn))
structure Move where
 Sym:Int
 hA:Int
 deriving DecidableEq,Inhabited
structure State where
 Kernel:(List Item)
 dm:(List Move)
 deriving DecidableEq,Inhabited
def iv:cD Move:=⟨2,λx=>[j x.Sym,j x.hA],λ_=>rfl,λ_=>eU.bL⟩
instance:Flat iv:=⟨λ_=>rfl⟩
instance:lS iv:=⟨λx=>(inferInstance:jW [j x.Sym,j x.hA])⟩
instance:ho iv iv:=⟨rfl,λx=>(inferInstance:dQ [j x.Sym,j x.hA] [j x.Sym,j x.hA])⟩
def cI:cD State:=⟨2,λx=>[aj dj x.Kernel,aj iv x.dm],λ_=>rfl,λ_=>eU.bL⟩
instance:Flat cI:=⟨λ_=>rfl⟩
instance:ho cI cI:=⟨rfl,λx=>(inferInstance:dQ [aj dj x.Kernel,aj iv x.dm] [aj dj x.Kernel,aj iv x.dm])⟩
def Bl (a0:(List State)) (ay:(List Item)):Option (Int) :=
 (cJ (R:=(Unit) ⊕ (Int)) (λ(s1:Int) =>
 (bif decide (s1<(a0.length:Int)) then
 (idx a0 s1).bind λbr =>
 (A2 br.Kernel ay).bind λbj =>
 (bif bj then
 some (.inr (.inr s1))
 else
 some (.inl (aO (s1+1))))
 else
 some (.inr (.inl ())))) 0).bind λx2 =>
 (match x2 with
 | .inl aZ =>
 some (-1)
 | .inr bs =>
 some bs)
def gF:cD State:=⟨2,λx=>[aj dj x.Kernel,ak iv x.dm],λ_=>rfl,λ_=>eU.bL⟩
instance:ho gF cI:=⟨rfl,λx=>(inferInstance:dQ [aj dj x.Kernel,ak iv x.dm] [aj dj x.Kernel,aj iv x.dm])⟩
def wM (a0:bV):Option ((List State) × Int) :=
 (Bj a0).bind λaI =>
 (cJ (R:=(List State) ⊕ (List State × Int)) (λ(s2:List State × Int) =>
 (bif decide (s2.2<(s2.1.length:Int)) then
 (idx s2.1 s2.2).bind λbj =>
 (wO a0 bj.Kernel).bind λb1 =>
 (cJ (R:=List Int) (λ(mh:List Int × Int) =>
 (bif decide (mh.2<(b1.length:Int)) then
 ((idx b1 mh.2).bind λdU =>
 (tb a0 dU).bind λdk =>
 ((bif decide (0<=dk) then
 (oc mh.1 dk).bind λeX =>
 some eX
 else
 some mh.1)).bind λnj =>
 some nj).bind λjf =>
 some (.inl (jf,aO (mh.2+1)))
 else
 some (.inr mh.1))) (([]:List Int),0)).bind λbZ =>
 (cJ (R:=(List State) ⊕ (List State × Int)) (λ(eh:List State × Int) =>
 (bif decide (eh.2<(aI.length:Int)) then
 (idx aI eh.2).bind λfZ =>
 (uQ bZ fZ).bind λe2 =>
 (bif !e2 then
 some (.inl (eh.1,aO (eh.2+1)))
 else
 (idx eh.1 s2.2).bind λgH =>
 (idx aI eh.2).bind λc3 =>
 (Bk a0 gH.Kernel c3).bind λeR =>
 (Bl eh.1 eR).bind λhU =>
 (bif decide (hU<0) then
 (bif decide ((eh.1.length:Int)=150) then
 some (.inr (.inr (([]:List State),4)))
 else
 (ez eh.1 [(⟨eR,([]:List Move)⟩:State)]).bind λjS =>
 (idx (eh.1++[(⟨eR,([]:List Move)⟩:State)]) s2.2).bind λgR =>
 (idx aI eh.2).bind λgf =>
 (ez gR.dm [(⟨gf,(eh.1.length:Int)⟩:Move)]).bind λhz =>
 some (.inl ((eh.1++[(⟨eR,([]:List Move)⟩:State)]).set s2.2.toNat (⟨gR.Kernel,gR.dm++[(⟨gf,(eh.1.length:Int)⟩:Move)]⟩:State),aO (eh.2+1))))
 else
 (idx eh.1 s2.2).bind λji =>
 (idx aI eh.2).bind λcP =>
 (ez ji.dm [(⟨cP,hU⟩:Move)]).bind λh5 =>
 some (.inl (eh.1.set s2.2.toNat (⟨ji.Kernel,ji.dm++[(⟨cP,hU⟩:Move)]⟩:State),aO (eh.2+1)))))
 else
 some (.inr (.inl eh.1)))) (s2.1,0)).bind λeJ =>
 (match eJ with
 | .inl dN =>
 some (.inl (dN,aO (s2.2+1)))
 | .inr hj =>
 some (.inr (.inr (hj.1,hj.2))))
 else
 some (.inr (.inl s2.1)))) ([(⟨[(⟨0,0⟩:Item)],([]:List Move)⟩:State)],0)).bind λaZ =>
 (match aZ with
 | .inl bs =>
 some (bs,0)
 | .inr cn =>
 some (cn.1,cn.2))
def wI (a0:Source):Option (bV × (List State) × Bool) :=
 (wL a0).bind λaI =>
 (bif !aI.2 then
 some (aI.1,([]:List State),false)
 else
 (wM aI.1).bind λaZ =>
 some (aI.1,aZ.1,decide (aZ.2=0)))
def qq (a0:(List State)) (ay:Int) (a2:Int):Option (Int) :=
 (cJ (R:=(Unit) ⊕ (Int)) (λ(s1:Int) =>
 ((bif decide (0<=ay) then (bif decide (ay<(a0.length:Int)) then ((idx a0 ay).bind λbj=>some (decide (s1<(bj.dm.length:Int)))) else some false) else some false)).bind λna =>
 (bif na then
 (idx a0 ay).bind λbZ =>
 (idx bZ.dm s1).bind λct =>
 (bif decide (ct.Sym=a2) then
 (idx a0 ay).bind λdC =>
 (idx dC.dm s1).bind λdU =>
 some (.inr (.inr dU.hA))
 else
 some (.inl (aO (s1+1))))
 else
 some (.inr (.inl ())))) 0).bind λx2 =>
 (match x2 with
 | .inl aZ =>
 some (-1)
 | .inr bs =>
 some bs)
structure Cell where
 State:Int
 bC:Int
 fh:Int
 gi:Bool
 aX:(List Int)
 deriving DecidableEq,Inhabited
def eg:cD Cell:=⟨5,λx=>[j x.State,j x.bC,j x.fh,a' x.gi,aj aM x.aX],λ_=>rfl,λ_=>eU.bL⟩
instance:Flat eg:=⟨λ_=>rfl⟩
instance:ho eg eg:=⟨rfl,λx=>(inferInstance:dQ [j x.State,j x.bC,j x.fh,a' x.gi,aj aM x.aX] [j x.State,j x.bC,j x.fh,a' x.gi,aj aM x.aX])⟩
instance {x:Cell}:dQ (eg.cells x) [j x.State,j x.bC,j x.fh,a' x.gi,aj aM x.aX]:=(inferInstance:dQ [j x.State,j x.bC,j x.fh,a' x.gi,aj aM x.aX] [j x.State,j x.bC,j x.fh,a' x.gi,aj aM x.aX])
def yG (a0:Cell):Option (Int) :=
 ((bif decide (0<=a0.fh) then
 some (aO ((a0.aX.length:Int)+1))
 else
 some (a0.aX.length:Int))).bind λib =>
 ((bif a0.gi then
 some (aO (ib+1))
 else
 some ib)).bind λdr =>
 some dr
structure jV where
 State:Int
 Prod:Int
 a6:(List Int)
 deriving DecidableEq,Inhabited
def hQ:cD jV:=⟨3,λx=>[j x.State,j x.Prod,aj aM x.a6],λ_=>rfl,λ_=>eU.bL⟩
instance:Flat hQ:=⟨λ_=>rfl⟩
instance:ho hQ hQ:=⟨rfl,λx=>(inferInstance:dQ [j x.State,j x.Prod,aj aM x.a6] [j x.State,j x.Prod,aj aM x.a6])⟩
instance {x:jV}:dQ (hQ.cells x) [j x.State,j x.Prod,aj aM x.a6]:=(inferInstance:dQ [j x.State,j x.Prod,aj aM x.a6] [j x.State,j x.Prod,aj aM x.a6])
def wJ (a0:bV) (ay:(List State)) (a2:(List jV)):Option ((List Cell)) :=
 (cJ (R:=List Cell) (λ(s1:List Cell × Int) =>
 (bif decide (s1.2<(ay.length:Int)) then
 (cJ (R:=List Cell) (λ(cH:List Cell × Int) =>
 (bif decide (cH.2<(a0.a6.length:Int)) then
 ((qq ay s1.2 cH.2).bind λbZ =>
 (cJ (R:=Bool) (λ(kd:Bool × Int) =>
 (idx ay s1.2).bind λdU =>
 (bif decide (kd.2<(dU.Kernel.length:Int)) then
 (idx ay s1.2).bind λcr =>
 (idx cr.Kernel kd.2).bind λb9 =>
 ((bif kd.1 then some true else (bif decide (cH.2=0) then (bif decide (b9.Prod=0) then some (decide (b9.dH=1)) else some false) else some false))).bind λtO =>
 some (.inl (tO,aO (kd.2+1)))
 else
 some (.inr kd.1))) (false,0)).bind λcM =>
 (cJ (R:=List Int) (λ(fP:List Int × Int) =>
 (bif decide (fP.2<(a2.length:Int)) then
 ((((idx a2 fP.2).bind λgH=>(bif decide (gH.State=s1.2) then ((idx a2 fP.2).bind λeR=>((uQ eR.a6 cH.2).bind λhU=>some hU)) else some false))).bind λrN =>
 ((bif rN then
 (idx a2 fP.2).bind λgR =>
 (oc fP.1 gR.Prod).bind λgf =>
 some gf
 else
 some fP.1)).bind λoM =>
 some oM).bind λej =>
 some (.inl (ej,aO (fP.2+1)))
 else
 some (.inr fP.1))) (([]:List Int),0)).bind λeF =>
 (yG (⟨s1.2,cH.2,bZ,cM,eF⟩:Cell)).bind λhz =>
 ((bif decide (0<hz) then
 (ez cH.1 [(⟨s1.2,cH.2,bZ,cM,eF⟩:Cell)]).bind λh5 =>
 some (cH.1++[(⟨s1.2,cH.2,bZ,cM,eF⟩:Cell)])
 else
 some cH.1)).bind λHm =>
 some Hm).bind λpD =>
 some (.inl (pD,aO (cH.2+1)))
 else
 some (.inr cH.1))) (s1.1,0)).bind λbr =>
 some (.inl (br,aO (s1.2+1)))
 else
 some (.inr s1.1))) (([]:List Cell),0)).bind λx2 =>
 some x2
def yH (a0:(List (List Int))) (ay:(List (List Int))):Option ((List (List Int))) :=
 (cJ (R:=List (List Int)) (λ(s1:List (List Int) × Bool) =>
 (bif s1.2 then
 (cJ (R:=List (List Int) × Bool) (λ(cH:List (List Int) × Bool × Int) =>
 (bif decide (cH.2.2<(cH.1.length:Int)) then
 (idx ay cH.2.2).bind λcp =>
 (idx cH.1 cH.2.2).bind λbZ =>
 (cJ (R:=List (List Int)) (λ(kd:List (List Int) × Int) =>
 (bif decide (kd.2<(cp.length:Int)) then
 (cJ (R:=List (List Int)) (λ(iS:List (List Int) × Int) =>
 (idx cp kd.2).bind λeX =>
 (idx iS.1 eX).bind λfC =>
 (bif decide (iS.2<(fC.length:Int)) then
 (idx iS.1 cH.2.2).bind λdN =>
 (idx cp kd.2).bind λhj =>
 (idx iS.1 hj).bind λeF =>
 (idx eF iS.2).bind λfZ =>
 (oc dN fZ).bind λe2 =>
 some (.inl (iS.1.set cH.2.2.toNat e2,aO (iS.2+1)))
 else
 some (.inr iS.1))) (kd.1,0)).bind λcr =>
 some (.inl (cr,aO (kd.2+1)))
 else
 some (.inr kd.1))) (cH.1,0)).bind λcM =>
 ((bif cH.2.1 then some true else ((idx cM cH.2.2).bind λgH=>some (!decide ((gH.length:Int)=(bZ.length:Int)))))).bind λxI =>
 some (.inl (cM,xI,aO (cH.2.2+1)))
 else
 some (.inr (cH.1,cH.2.1)))) (s1.1,false,0)).bind λbr =>
 some (.inl (br.1,br.2))
 else
 some (.inr s1.1))) (a0,true)).bind λx2 =>
 some x2
structure Trans where
 State:Int
 eY:Int
 deriving DecidableEq,Inhabited
def fS:cD Trans:=⟨2,λx=>[j x.State,j x.eY],λ_=>rfl,λ_=>eU.bL⟩
instance:Flat fS:=⟨λ_=>rfl⟩
instance:lS fS:=⟨λx=>(inferInstance:jW [j x.State,j x.eY])⟩
instance:ho fS fS:=⟨rfl,λx=>(inferInstance:dQ [j x.State,j x.eY] [j x.State,j x.eY])⟩
def pL (a0:(List State)):Option ((List Trans)) :=
 (cJ (R:=List Trans) (λ(s1:List Trans × Int) =>
 (bif decide (s1.2<(a0.length:Int)) then
 (cJ (R:=List Trans) (λ(cH:List Trans × Int) =>
 (idx a0 s1.2).bind λb1 =>
 (bif decide (cH.2<(b1.dm.length:Int)) then
 ((idx a0 s1.2).bind λct =>
 (idx ct.dm cH.2).bind λcM =>
 ((bif decide (1000<=cM.Sym) then
 (idx a0 s1.2).bind λdk =>
 (idx dk.dm cH.2).bind λcr =>
 (ez cH.1 [(⟨s1.2,cr.Sym⟩:Trans)]).bind λb9 =>
 some (cH.1++[(⟨s1.2,cr.Sym⟩:Trans)])
 else
 some cH.1)).bind λjf =>
 some jf).bind λmO =>
 some (.inl (mO,aO (cH.2+1)))
 else
 some (.inr cH.1))) (s1.1,0)).bind λbr =>
 some (.inl (br,aO (s1.2+1)))
 else
 some (.inr s1.1))) (([]:List Trans),0)).bind λx2 =>
 some x2
def A3 (a0:(List Item)):Option (Bool) :=
 (cJ (R:=(Unit) ⊕ (Bool)) (λ(s1:Int) =>
 (bif decide (s1<(a0.length:Int)) then
 (((idx a0 s1).bind λbr=>(bif decide (br.Prod=0) then ((idx a0 s1).bind λb1=>some (decide (b1.dH=1))) else some false))).bind λsD =>
 (bif sD then
 some (.inr (.inr true))
 else
 some (.inl (aO (s1+1))))
 else
 some (.inr (.inl ())))) 0).bind λx2 =>
 (match x2 with
 | .inl aZ =>
 some false
 | .inr bs =>
 some bs)
def Bm (a0:(List State)):Option ((List (List Int))) :=
 (pL a0).bind λaI =>
 (cJ (R:=List (List Int)) (λ(s2:List (List Int) × Int) =>
 (bif decide (s2.2<(aI.length:Int)) then
 (idx aI s2.2).bind λbr =>
 (idx aI s2.2).bind λbj =>
 (qq a0 br.State bj.eY).bind λb1 =>
 (idx a0 b1).bind λcp =>
 (A3 cp.Kernel).bind λbZ =>
 ((bif bZ then
 (ez ([]:List Int) [0]).bind λdC =>
 some [0]
 else
 some ([]:List Int))).bind λgP =>
 (cJ (R:=List Int) (λ(iq:List Int × Int) =>
 (idx a0 b1).bind λb9 =>
 (bif decide (iq.2<(b9.dm.length:Int)) then
 ((idx a0 b1).bind λeJ =>
 (idx eJ.dm iq.2).bind λdN =>
 ((bif decide (dN.Sym<1000) then
 (idx a0 b1).bind λfZ =>
 (idx fZ.dm iq.2).bind λe2 =>
 (oc iq.1 e2.Sym).bind λh4 =>
 some h4
 else
 some iq.1)).bind λn_ =>
 some n_).bind λfH =>
 some (.inl (fH,aO (iq.2+1)))
 else
 some (.inr iq.1))) (gP,0)).bind λdk =>
 (ez s2.1 [dk]).bind λgH =>
 some (.inl (s2.1++[dk],aO (s2.2+1)))
 else
 some (.inr s2.1))) (([]:List (List Int)),0)).bind λaZ =>
 some aZ
def yx (a0:(List Bool)) (ay:(List Int)):Option (Bool) :=
 (cJ (R:=(Unit) ⊕ (Bool)) (λ(s1:Int) =>
 (bif decide (s1<(ay.length:Int)) then
 (((idx ay s1).bind λbr=>(bif decide (br<1000) then some true else ((idx ay s1).bind λb1=>((idx a0 (aO (b1 - 1000))).bind λcp=>some (!cp)))))).bind λjn =>
 (bif jn then
 some (.inr (.inr false))
 else
 some (.inl (aO (s1+1))))
 else
 some (.inr (.inl ())))) 0).bind λx2 =>
 (match x2 with
 | .inl aZ =>
 some true
 | .inr bs =>
 some bs)
def yv (a0:bV):Option ((List Bool)) :=
 (oO (a0.bx.length:Int) false).bind λaI =>
 (cJ (R:=List Bool) (λ(s2:List Bool × Bool) =>
 (bif s2.2 then
 (cJ (R:=List Bool × Bool) (λ(c_:List Bool × Bool × Int) =>
 (bif decide (c_.2.2<(a0.aX.length:Int)) then
 ((idx a0.aX c_.2.2).bind λct =>
 (((idx c_.1 ct.Left).bind λcM=>(bif !cM then ((yx c_.1 ct.fm).bind λdU=>some dU) else some false))).bind λtN =>
 ((bif tN then
 (idx c_.1 ct.Left).bind λeX =>
 some (c_.1.set ct.Left.toNat true,true)
 else
 some (c_.1,c_.2.1))).bind λnj =>
 some (nj.1,nj.2)).bind λmO =>
 some (.inl (mO.1,mO.2,aO (c_.2.2+1)))
 else
 some (.inr (c_.1,c_.2.1)))) (s2.1,false,0)).bind λbj =>
 some (.inl (bj.1,bj.2))
 else
 some (.inr s2.1))) (aI,true)).bind λaZ =>
 some aZ
def yw (a0:(List Trans)) (ay:Int) (a2:Int):Option (Int) :=
 (cJ (R:=(Unit) ⊕ (Int)) (λ(s1:Int) =>
 (bif decide (s1<(a0.length:Int)) then
 (((idx a0 s1).bind λbr=>(bif decide (br.State=ay) then ((idx a0 s1).bind λb1=>some (decide (b1.eY=a2))) else some false))).bind λsD =>
 (bif sD then
 some (.inr (.inr s1))
 else
 some (.inl (aO (s1+1))))
 else
 some (.inr (.inl ())))) 0).bind λx2 =>
 (match x2 with
 | .inl aZ =>
 some (-1)
 | .inr bs =>
 some bs)
def Bn (a0:bV) (ay:(List State)):Option ((List (List Int))) :=
 (pL ay).bind λaI =>
 (yv a0).bind λx2 =>
 (cJ (R:=List (List Int)) (λ(ee:List (List Int) × Int) =>
 (bif decide (ee.2<(aI.length:Int)) then
 (idx aI ee.2).bind λbj =>
 (idx aI ee.2).bind λb1 =>
 (qq ay bj.State b1.eY).bind λcp =>
 (cJ (R:=List Int) (λ(cV:List Int × Int) =>
 (idx ay cp).bind λdC =>
 (bif decide (cV.2<(dC.dm.length:Int)) then
 ((idx ay cp).bind λcr =>
 (idx cr.dm cV.2).bind λb9 =>
 ((bif decide (1000<=b9.Sym) then ((idx x2 (aO (b9.Sym - 1000))).bind λfC=>some fC) else some false)).bind λES =>
 ((bif ES then
 (yw aI cp b9.Sym).bind λeF =>
 (oc cV.1 eF).bind λfZ =>
 some fZ
 else
 some cV.1)).bind λoL =>
 some oL).bind λql =>
 some (.inl (ql,aO (cV.2+1)))
 else
 some (.inr cV.1))) (([]:List Int),0)).bind λct =>
 (ez ee.1 [ct]).bind λe2 =>
 some (.inl (ee.1++[ct],aO (ee.2+1)))
 else
 some (.inr ee.1))) (([]:List (List Int)),0)).bind λbs =>
 some bs
def yI (a0:(List State)) (ay:Int) (a2:(List Int)):Option (Int) :=
 (cJ (R:=Int) (λ(s1:Int × Int) =>
 ((bif decide (s1.2<(a2.length:Int)) then some (decide (0<=s1.1)) else some false)).bind λkA =>
 (bif kA then
 (idx a2 s1.2).bind λbj =>
 (qq a0 s1.1 bj).bind λb1 =>
 some (.inl (b1,aO (s1.2+1)))
 else
 some (.inr s1.1))) (ay,0)).bind λx2 =>
 some x2
def Bo (a0:bV) (ay:(List State)):Option ((List (List Int))) :=
 (pL ay).bind λaI =>
 (yv a0).bind λx2 =>
 (oO (aI.length:Int) ([]:List Int)).bind λaZ =>
 (cJ (R:=List (List Int)) (λ(bO:List (List Int) × Int) =>
 (bif decide (bO.2<(aI.length:Int)) then
 (cJ (R:=List (List Int)) (λ(cw:List (List Int) × Int) =>
 (bif decide (cw.2<(a0.aX.length:Int)) then
 ((idx a0.aX cw.2).bind λdC =>
 (idx a0.aX cw.2).bind λdU =>
 (idx aI bO.2).bind λdk =>
 (bif !decide (aO (1000+dU.Left)=dk.eY) then
 some cw.1
 else
 (cJ (R:=List (List Int)) (λ(iI:List (List Int) × Int) =>
 (bif decide (iI.2<(dC.fm.length:Int)) then
 ((((idx dC.fm iI.2).bind λhj=>(bif decide (hj<1000) then some true else ((oT dC.fm (aO (iI.2+1)) dC.fm.length).bind λfZ=>((yx x2 fZ).bind λe2=>some (!e2)))))).bind λCj =>
 (bif Cj then
 some iI.1
 else
 (idx aI bO.2).bind λc3 =>
 (oT dC.fm 0 iI.2).bind λeR =>
 (yI ay c3.State eR).bind λhU =>
 ((bif decide (0<=hU) then
 (idx dC.fm iI.2).bind λjS =>
 (yw aI hU jS).bind λgR =>
 ((bif decide (0<=gR) then
 (idx iI.1 gR).bind λji =>
 (oc ji bO.2).bind λcP =>
 some (iI.1.set gR.toNat cP)
 else
 some iI.1)).bind λHl =>
 some Hl
 else
 some iI.1)).bind λwi =>
 some wi)).bind λoL =>
 some (.inl (oL,aO (iI.2+1)))
 else
 some (.inr iI.1))) (cw.1,0)).bind λeX =>
 some eX)).bind λfa =>
 some (.inl (fa,aO (cw.2+1)))
 else
 some (.inr cw.1))) (bO.1,0)).bind λcp =>
 some (.inl (cp,aO (bO.2+1)))
 else
 some (.inr bO.1))) (aZ,0)).bind λcn =>
 some cn
def Bg (a0:bV) (ay:(List State)):Option ((List (List Int))) :=
 (Bm ay).bind λaI =>
 (Bn a0 ay).bind λx2 =>
 (yH aI x2).bind λaZ =>
 (Bo a0 ay).bind λbs =>
 (yH aZ bs).bind λcn =>
 some cn
def Bh (a0:bV) (ay:(List Item)):Option ((List Int)) :=
 (wO a0 ay).bind λaI =>
 (cJ (R:=List Int) (λ(s2:List Int × Int) =>
 (bif decide (s2.2<(aI.length:Int)) then
 ((((idx aI s2.2).bind λbj=>(bif decide (0<bj.Prod) then ((idx aI s2.2).bind λcp=>((idx aI s2.2).bind λbZ=>((idx a0.aX bZ.Prod).bind λct=>some (decide (cp.dH=(ct.fm.length:Int)))))) else some false))).bind λvl =>
 ((bif vl then
 (idx aI s2.2).bind λdk =>
 (ez s2.1 [dk.Prod]).bind λcr =>
 some (s2.1++[dk.Prod])
 else
 some s2.1)).bind λjf =>
 some jf).bind λjg =>
 some (.inl (jg,aO (s2.2+1)))
 else
 some (.inr s2.1))) (([]:List Int),0)).bind λaZ =>
 some aZ
def Bi (a0:bV) (ay:(List State)) (a2:Int) (a3:Int):Option ((List Int)) :=
 ((bif decide (a2<0) then some true else (bif decide ((ay.length:Int)<=a2) then some true else (bif decide (a3<1) then some true else some (decide ((a0.aX.length:Int)<=a3)))))).bind λc4 =>
 (bif c4 then
 some ([]:List Int)
 else
 (pL ay).bind λbr =>
 (cJ (R:=List Int) (λ(eW:List Int × Int) =>
 (bif decide (eW.2<(br.length:Int)) then
 ((((idx br eW.2).bind λcM=>((idx a0.aX a3).bind λdC=>(bif decide (cM.eY=aO (1000+dC.Left)) then ((idx br eW.2).bind λdk=>((idx a0.aX a3).bind λcr=>((yI ay dk.State cr.fm).bind λb9=>some (decide (b9=a2))))) else some false)))).bind λnQ =>
 ((bif nQ then
 (ez eW.1 [eW.2]).bind λdN =>
 some (eW.1++[eW.2])
 else
 some eW.1)).bind λfH =>
 some fH).bind λgP =>
 some (.inl (gP,aO (eW.2+1)))
 else
 some (.inr eW.1))) (([]:List Int),0)).bind λb1 =>
 some b1)
def Bc (a0:bV) (ay:(List State)):Option ((List jV)) :=
 (Bg a0 ay).bind λaI =>
 (cJ (R:=List jV) (λ(s2:List jV × Int) =>
 (bif decide (s2.2<(ay.length:Int)) then
 (idx ay s2.2).bind λbr =>
 (Bh a0 br.Kernel).bind λbj =>
 (cJ (R:=List jV) (λ(cw:List jV × Int) =>
 (bif decide (cw.2<(bj.length:Int)) then
 (idx bj cw.2).bind λcM =>
 (idx bj cw.2).bind λdC =>
 (Bi a0 ay s2.2 dC).bind λdU =>
 (cJ (R:=List Int) (λ(iS:List Int × Int) =>
 (bif decide (iS.2<(dU.length:Int)) then
 (cJ (R:=List Int) (λ(eh:List Int × Int) =>
 (idx dU iS.2).bind λhj =>
 (idx aI hj).bind λeF =>
 (bif decide (eh.2<(eF.length:Int)) then
 (idx dU iS.2).bind λe2 =>
 (idx aI e2).bind λh4 =>
 (idx h4 eh.2).bind λgH =>
 (oc eh.1 gH).bind λc3 =>
 some (.inl (c3,aO (eh.2+1)))
 else
 some (.inr eh.1))) (iS.1,0)).bind λeJ =>
 some (.inl (eJ,aO (iS.2+1)))
 else
 some (.inr iS.1))) (([]:List Int),0)).bind λcr =>
 (ez cw.1 [(⟨s2.2,cM,cr⟩:jV)]).bind λeR =>
 some (.inl (cw.1++[(⟨s2.2,cM,cr⟩:jV)],aO (cw.2+1)))
 else
 some (.inr cw.1))) (s2.1,0)).bind λcp =>
 some (.inl (cp,aO (s2.2+1)))
 else
 some (.inr s2.1))) (([]:List jV),0)).bind λaZ =>
 some aZ
def rm (a0:Source):Option (bV × (List State) × (List Cell) × Bool) :=
 (wI a0).bind λaI =>
 (bif !aI.2.2 then
 some (aI.1,([]:List State),([]:List Cell),false)
 else
 (Bc aI.1 aI.2.1).bind λaZ =>
 (wJ aI.1 aI.2.1 aZ).bind λbs =>
 some (aI.1,aI.2.1,bs,true))
def H5 (a0:bV) (ay:Int):Option (Int × Int) :=
 ((bif decide (ay<0) then some true else (bif decide ((a0.aX.length:Int)<=ay) then some true else ((idx a0.aX ay).bind λaZ=>some (decide (aZ.Prec<0)))))).bind λc4 =>
 (bif c4 then
 some (0,0)
 else
 (idx a0.aX ay).bind λbr =>
 (idx a0.a6 br.Prec).bind λbj =>
 some (bj.Level,bj.eC))
def H2 (a0:bV) (ay:Int) (a2:Int):Option (Int) :=
 (H5 a0 ay).bind λaI =>
 ((bif decide (aI.1=0) then some true else (bif decide (a2<0) then some true else (bif decide ((a0.a6.length:Int)<=a2) then some true else ((idx a0.a6 a2).bind λcn=>some (decide (cn.Level=0))))))).bind λvm =>
 (bif vm then
 some 0
 else
 (idx a0.a6 a2).bind λb1 =>
 (bif decide (aI.1<b1.Level) then
 some 1
 else
 (bif decide (b1.Level<aI.1) then
 some 2
 else
 (bif decide (b1.eC=1) then
 some 2
 else
 (bif decide (b1.eC=2) then
 some 1
 else
 some 3)))))
structure er where
 State:Int
 bC:Int
 fu:Int
 Drop:Int
 deriving DecidableEq,Inhabited
def gn:cD er:=⟨4,λx=>[j x.State,j x.bC,j x.fu,j x.Drop],λ_=>rfl,λ_=>eU.bL⟩
instance:Flat gn:=⟨λ_=>rfl⟩
instance:lS gn:=⟨λx=>(inferInstance:jW [j x.State,j x.bC,j x.fu,j x.Drop])⟩
instance:ho gn gn:=⟨rfl,λx=>(inferInstance:dQ [j x.State,j x.bC,j x.fu,j x.Drop] [j x.State,j x.bC,j x.fu,j x.Drop])⟩
instance {x:er}:dQ (gn.cells x) [j x.State,j x.bC,j x.fu,j x.Drop]:=(inferInstance:dQ [j x.State,j x.bC,j x.fu,j x.Drop] [j x.State,j x.bC,j x.fu,j x.Drop])
def DP (a0:bV) (ay:Cell):Option (Act × (List er)) :=
 (cJ (R:=List er) (λ(s1:List er × Int) =>
 (bif decide (s1.2<(ay.aX.length:Int)) then
 (idx ay.aX 0).bind λcn =>
 (idx ay.aX s1.2).bind λbr =>
 (ez s1.1 [(⟨ay.State,ay.bC,cn,br⟩:er)]).bind λbj =>
 some (.inl (s1.1++[(⟨ay.State,ay.bC,cn,br⟩:er)],aO (s1.2+1)))
 else
 some (.inr s1.1))) (([]:List er),1)).bind λx2 =>
 ((bif ay.gi then
 some (3,0)
 else
 some (1,ay.fh))).bind λj1 =>
 (bif decide ((ay.aX.length:Int)=0) then
 some ((⟨j1.1,j1.2⟩:Act),x2)
 else
 (idx ay.aX 0).bind λct =>
 ((bif decide (ay.fh<0) then some (!ay.gi) else some false)).bind λm' =>
 (bif m' then
 some ((⟨2,ct⟩:Act),x2)
 else
 (H2 a0 ct ay.bC).bind λdk =>
 ((bif ay.gi then some true else some (decide (dk=0)))).bind λJP =>
 (bif JP then
 (ez x2 [(⟨ay.State,ay.bC,(-1),ct⟩:er)]).bind λfC =>
 some ((⟨j1.1,j1.2⟩:Act),x2++[(⟨ay.State,ay.bC,(-1),ct⟩:er)])
 else
 (bif decide (dk=2) then
 some ((⟨2,ct⟩:Act),x2)
 else
 (bif decide (dk=3) then
 some ((⟨4,0⟩:Act),x2)
 else
 some ((⟨j1.1,j1.2⟩:Act),x2))))))
structure jG where
 dG:(List (List Act))
 dh:(List (List Int))
 deriving DecidableEq,Inhabited
def dt:cD Act:=⟨2,λx=>[j x.Kind,j x.N],λ_=>rfl,λ_=>eU.bL⟩
instance:Flat dt:=⟨λ_=>rfl⟩
instance:lS dt:=⟨λx=>(inferInstance:jW [j x.Kind,j x.N])⟩
instance:ho dt dt:=⟨rfl,λx=>(inferInstance:dQ [j x.Kind,j x.N] [j x.Kind,j x.N])⟩
def HV (a0:bV) (ay:(List State)) (a2:(List Cell)):Option (jG × (List er)) :=
 (cJ (R:=List (List Act) × List (List Int) × List er) (λ(s1:List (List Act) × List (List Int) × List er × Int) =>
 (bif decide (s1.2.2.2<(ay.length:Int)) then
 (oO (a0.a6.length:Int) (⟨0,0⟩:Act)).bind λcn =>
 (cJ (R:=List er × List Act) (λ(c_:List er × List Act × Int) =>
 (bif decide (c_.2.2<(a2.length:Int)) then
 ((idx a2 c_.2.2).bind λct =>
 ((bif decide (ct.State=s1.2.2.2) then
 (idx a2 c_.2.2).bind λdU =>
 (DP a0 dU).bind λdk =>
 (idx a2 c_.2.2).bind λcr =>
 (idx c_.2.1 cr.bC).bind λb9 =>
 (ez c_.1 dk.2).bind λeX =>
 some (c_.1++dk.2,c_.2.1.set cr.bC.toNat dk.1)
 else
 some (c_.1,c_.2.1))).bind λfa =>
 some (fa.1,fa.2)).bind λmO =>
 some (.inl (mO.1,mO.2,aO (c_.2.2+1)))
 else
 some (.inr (c_.1,c_.2.1)))) (s1.2.2.1,cn,0)).bind λbj =>
 (oO (a0.bx.length:Int) 0).bind λfC =>
 (cJ (R:=List Int) (λ(k_:List Int × Int) =>
 (bif decide (k_.2<(k_.1.length:Int)) then
 (qq ay s1.2.2.2 (aO (1000+k_.2))).bind λfZ =>
 (idx k_.1 k_.2).bind λe2 =>
 some (.inl (k_.1.set k_.2.toNat fZ,aO (k_.2+1)))
 else
 some (.inr k_.1))) (fC,0)).bind λdN =>
 (ez s1.1 [bj.2]).bind λh4 =>
 (ez s1.2.1 [dN]).bind λgH =>
 some (.inl (s1.1++[bj.2],s1.2.1++[dN],bj.1,aO (s1.2.2.2+1)))
 else
 some (.inr (s1.1,s1.2.1,s1.2.2.1)))) (([]:List (List Act)),([]:List (List Int)),([]:List er),0)).bind λx2 =>
 some ((⟨x2.1,x2.2.1⟩:jG),x2.2.2)
def HX (a0:(List Cell)):Option (Int) :=
 (cJ (R:=Int) (λ(s1:Int × Int) =>
 (bif decide (s1.2<(a0.length:Int)) then
 ((idx a0 s1.2).bind λbr =>
 (yG br).bind λbj =>
 ((bif decide (1<bj) then
 some (aO (s1.1+1))
 else
 some s1.1)).bind λj1 =>
 some j1).bind λmQ =>
 some (.inl (mQ,aO (s1.2+1)))
 else
 some (.inr s1.1))) (0,0)).bind λx2 =>
 some x2
def MW (a0:Source):Option (bV × jG × Int × Bool) :=
 (rm a0).bind λaI =>
 (bif !aI.2.2.2 then
 some (aI.1,(⟨([]:List (List Act)),([]:List (List Int))⟩:jG),0,false)
 else
 (HV aI.1 aI.2.1 aI.2.2.1).bind λaZ =>
 (HX aI.2.2.1).bind λbs =>
 some (aI.1,aZ.1,bs,true))
structure gk where
 At:Int
 xz:Int
 deriving DecidableEq,Inhabited
def vz:cD gk:=⟨2,λx=>[j x.At,j x.xz],λ_=>rfl,λ_=>eU.bL⟩
instance:Flat vz:=⟨λ_=>rfl⟩
instance:lS vz:=⟨λx=>(inferInstance:jW [j x.At,j x.xz])⟩
instance:ho vz vz:=⟨rfl,λx=>(inferInstance:dQ [j x.At,j x.xz] [j x.At,j x.xz])⟩
structure Row where
 Def:Int
 Ep:(List gk)
 deriving DecidableEq,Inhabited
def Fg:cD Row:=⟨2,λx=>[j x.Def,aj vz x.Ep],λ_=>rfl,λ_=>eU.bL⟩
instance:Flat Fg:=⟨λ_=>rfl⟩
instance:ho Fg Fg:=⟨rfl,λx=>(inferInstance:dQ [j x.Def,aj vz x.Ep] [j x.Def,aj vz x.Ep])⟩
def Bb (a0:(List Int)):Option (Int) :=
 (cJ (R:=Int) (λ(s1:(List (Int × Int)) × Int × Int) =>
 (bif decide (s1.2.2<(a0.length:Int)) then
 ((idx a0 s1.2.2).bind λbr =>
 (s9 rh 0 s1.1 br).bind λbj =>
 (AR rh s1.1 br (aO (bj+1))).bind λb1 =>
 (s9 rh 0 b1 br).bind λcp =>
 (s9 rh 0 b1 s1.2.1).bind λbZ =>
 ((bif decide (s1.2.1<0) then some true else (bif decide (0<aO (cp - bZ)) then some true else (bif decide (aO (cp - bZ)=0) then some (decide (br<s1.2.1)) else some false)))).bind λsC =>
 ((bif sC then
 some br
 else
 some s1.2.1)).bind λql =>
 some (b1,ql)).bind λmQ =>
 some (.inl (mQ.1,mQ.2,aO (s1.2.2+1)))
 else
 some (.inr s1.2.1))) (([]:List (Int × Int)),(-1),0)).bind λx2 =>
 some x2
def MX (a0:jG):Option ((List Row)) :=
 (cJ (R:=List Row) (λ(s1:List Row × Int) =>
 (bif decide (s1.2<(a0.dG.length:Int)) then
 (idx a0.dG s1.2).bind λcn =>
 (cJ (R:=List Int) (λ(c_:List Int × Int) =>
 (bif decide (c_.2<(cn.length:Int)) then
 ((idx cn c_.2).bind λct =>
 ((bif decide (ct.Kind=2) then
 (ez c_.1 [ct.N]).bind λdU =>
 some (c_.1++[ct.N])
 else
 some c_.1)).bind λfa =>
 some fa).bind λmO =>
 some (.inl (mO,aO (c_.2+1)))
 else
 some (.inr c_.1))) (([]:List Int),0)).bind λbj =>
 (Bb bj).bind λdk =>
 (cJ (R:=List gk) (λ(me:List gk × Int) =>
 (bif decide (me.2<(cn.length:Int)) then
 ((idx cn me.2).bind λdN =>
 ((bif !decide (dN.Kind=0) then (bif !decide (dN.Kind=2) then some true else some (!decide (dN.N=dk))) else some false)).bind λxH =>
 ((bif xH then
 (DN dN).bind λgH =>
 (ez me.1 [(⟨me.2,gH⟩:gk)]).bind λc3 =>
 some (me.1++[(⟨me.2,gH⟩:gk)])
 else
 some me.1)).bind λwe =>
 some we).bind λAF =>
 some (.inl (AF,aO (me.2+1)))
 else
 some (.inr me.1))) (([]:List gk),0)).bind λb9 =>
 (ez s1.1 [(⟨dk,b9⟩:Row)]).bind λeR =>
 some (.inl (s1.1++[(⟨dk,b9⟩:Row)],aO (s1.2+1)))
 else
 some (.inr s1.1))) (([]:List Row),0)).bind λx2 =>
 some x2
def MZ (a0:jG):Option ((List Row)) :=
 (bif decide ((a0.dh.length:Int)=0) then
 some ([]:List Row)
 else
 (idx a0.dh 0).bind λx2 =>
 (cJ (R:=List Row) (λ(ee:List Row × Int) =>
 (bif decide (ee.2<(x2.length:Int)) then
 (cJ (R:=List Int) (λ(eW:List Int × Int) =>
 (bif decide (eW.2<(a0.dh.length:Int)) then
 ((idx a0.dh eW.2).bind λcM =>
 (idx cM ee.2).bind λdC =>
 ((bif decide (0<=dC) then
 (idx cM ee.2).bind λcr =>
 (ez eW.1 [cr]).bind λb9 =>
 some (eW.1++[cr])
 else
 some eW.1)).bind λdn =>
 some dn).bind λgP =>
 some (.inl (gP,aO (eW.2+1)))
 else
 some (.inr eW.1))) (([]:List Int),0)).bind λb1 =>
 (Bb b1).bind λeX =>
 (cJ (R:=List gk) (λ(eh:List gk × Int) =>
 (bif decide (eh.2<(a0.dh.length:Int)) then
 ((idx a0.dh eh.2).bind λfZ =>
 (((idx fZ ee.2).bind λe2=>(bif decide (0<=e2) then ((idx fZ ee.2).bind λgH=>some (!decide (gH=eX))) else some false))).bind λxI =>
 ((bif xI then
 (idx fZ ee.2).bind λiL =>
 (ez eh.1 [(⟨eh.2,iL⟩:gk)]).bind λdS =>
 some (eh.1++[(⟨eh.2,iL⟩:gk)])
 else
 some eh.1)).bind λwh =>
 some wh).bind λT6 =>
 some (.inl (T6,aO (eh.2+1)))
 else
 some (.inr eh.1))) (([]:List gk),0)).bind λeJ =>
 (ez ee.1 [(⟨eX,eJ⟩:Row)]).bind λjS =>
 some (.inl (ee.1++[(⟨eX,eJ⟩:Row)],aO (ee.2+1)))
 else
 some (.inr ee.1))) (([]:List Row),0)).bind λbs =>
 some bs)
def ta (a0:Int) (ay:Int):Option (Int) :=
 (qu a0 ay).bind λaI =>
 ((bif decide (aI<0) then
 some (aO (aI+ay))
 else
 some aI)).bind λHj =>
 some Hj
def nE (a0:Act):Option (Int) :=
 ((bif decide (a0.Kind=1) then (bif decide (0<=a0.N) then some (decide (a0.N<=19999)) else some false) else some false)).bind λmw =>
 (bif mw then
 some (aO (a0.N+1))
 else
 ((bif decide (a0.Kind=2) then (bif decide (1<=a0.N) then some (decide (a0.N<=19999)) else some false) else some false)).bind λqO =>
 (bif qO then
 some (aO (-a0.N))
 else
 ((bif decide (a0.Kind=3) then some (decide (a0.N=0)) else some false)).bind λjn =>
 (bif jn then
 some 20001
 else
 ((bif decide (a0.Kind=4) then some (decide (a0.N=0)) else some false)).bind λm' =>
 (bif m' then
 some 20002
 else
 some 0))))
def wG (a0:Int):Option (Act) :=
 ((bif decide (1<=a0) then some (decide (a0<=20000)) else some false)).bind λc2 =>
 (bif c2 then
 some (⟨1,aO (a0 - 1)⟩:Act)
 else
 ((bif decide (a0<=(-1)) then some (decide ((-19999)<=a0)) else some false)).bind λkA =>
 (bif kA then
 some (⟨2,aO (-a0)⟩:Act)
 else
 (bif decide (a0=20001) then
 some (⟨3,0⟩:Act)
 else
 (bif decide (a0=20002) then
 some (⟨4,0⟩:Act)
 else
 some (⟨0,0⟩:Act)))))
def HZ :Option (ByteArray) :=
 some ({ data:=#[112,113,114,115] })
def uP (a0:Int):Option (Sym) :=
 (HZ ).bind λaI =>
 (qu a0 4).bind λx2 =>
 (qu a0 4).bind λaZ =>
 (vv aI x2 (aO (aZ+1))).bind λbs =>
 some (⟨bs,true,0,0⟩:Sym)
def kX:cD Decl:=⟨4,λx=>[j x.Kind,af x.Tag,ak du x.fg,j x.At],λ_=>rfl,λ_=>eU.bL⟩
instance:ho kX cO:=⟨rfl,λx=>(inferInstance:dQ [j x.Kind,af x.Tag,ak du x.fg,j x.At] [j x.Kind,af x.Tag,aj du x.fg,j x.At])⟩
instance {x:Decl}:dQ (kX.cells x) [j x.Kind,af x.Tag,aj du x.fg,j x.At]:=(inferInstance:dQ [j x.Kind,af x.Tag,ak du x.fg,j x.At] [j x.Kind,af x.Tag,aj du x.fg,j x.At])
def A' (a0:(List Int)):Option ((List Decl)) :=
 (cJ (R:=List Decl) (λ(s1:List Decl × Int) =>
 ((bif decide (s1.2<(a0.length:Int)) then some (decide (s1.2<4)) else some false)).bind λkA =>
 (bif kA then
 ((idx a0 s1.2).bind λb1 =>
 (ta b1 8).bind λcp =>
 (qu cp 4).bind λbZ =>
 (bif decide (bZ=0) then
 some s1.1
 else
 ((bif decide (4<cp) then some (decide (0<(s1.1.length:Int))) else some false)).bind λm' =>
 (bif m' then
 (idx s1.1 (aO ((s1.1.length:Int) - 1))).bind λdk =>
 (uP s1.2).bind λcr =>
 (ez dk.fg [cr]).bind λb9 =>
 some (s1.1.set (aO ((s1.1.length:Int) - 1)).toNat (⟨dk.Kind,dk.Tag,dk.fg++[cr],dk.At⟩:Decl))
 else
 (qu cp 4).bind λeX =>
 (uP s1.2).bind λfC =>
 (ez s1.1 [(⟨aO (1+eX),{ data:=#[] },[fC],0⟩:Decl)]).bind λeJ =>
 some (s1.1++[(⟨aO (1+eX),{ data:=#[] },[fC],0⟩:Decl)])))).bind λma =>
 some (.inl (ma,aO (s1.2+1)))
 else
 some (.inr s1.1))) (([]:List Decl),0)).bind λx2 =>
 some x2
def yD (a0:Int):Option (ByteArray) :=
 some (strOfNums [hh (aO (97+a0))])
def Ba (a0:Int) (ay:Int):Option (Sym) :=
 (ta a0 14).bind λaI =>
 (bif decide (aI<5) then
 (qu aI ay).bind λaZ =>
 (yD aZ).bind λbs =>
 some (⟨bs,false,0,0⟩:Sym)
 else
 (bif decide (aI=13) then
 some (⟨{ data:=#[101,114,114,111,114] },false,0,0⟩:Sym)
 else
 (uP (aO (aI - 5))).bind λbr =>
 some br))
structure oW where
 bx:Int
 ei:(List (List Int))
 nN:(List Int)
 lQ:(List Int)
 pV:Bool
 deriving DecidableEq,Inhabited
def hp:cD oW:=⟨5,λx=>[j x.bx,aj (bU aM) x.ei,aj aM x.nN,aj aM x.lQ,a' x.pV],λ_=>rfl,λ_=>eU.bL⟩
instance:Flat hp:=⟨λ_=>rfl⟩
instance:ho hp hp:=⟨rfl,λx=>(inferInstance:dQ [j x.bx,aj (bU aM) x.ei,aj aM x.nN,aj aM x.lQ,a' x.pV] [j x.bx,aj (bU aM) x.ei,aj aM x.nN,aj aM x.lQ,a' x.pV])⟩
instance {x:oW}:dQ (hp.cells x) [j x.bx,aj (bU aM) x.ei,aj aM x.nN,aj aM x.lQ,a' x.pV]:=(inferInstance:dQ [j x.bx,aj (bU aM) x.ei,aj aM x.nN,aj aM x.lQ,a' x.pV] [j x.bx,aj (bU aM) x.ei,aj aM x.nN,aj aM x.lQ,a' x.pV])
def eS:cD ga:=⟨3,λx=>[af x.Left,ak ef x.fR,j x.At],λ_=>rfl,λ_=>eU.bL⟩
instance:ho eS gT:=⟨rfl,λx=>(inferInstance:dQ [af x.Left,ak ef x.fR,j x.At] [af x.Left,aj ef x.fR,j x.At])⟩
instance {x:ga}:dQ (eS.cells x) [af x.Left,aj ef x.fR,j x.At]:=(inferInstance:dQ [af x.Left,ak ef x.fR,j x.At] [af x.Left,aj ef x.fR,j x.At])
def yA (a0:oW):Option (Source) :=
 (ta a0.bx 4).bind λaI =>
 (A' a0.nN).bind λx2 =>
 (oO (aO (1+aI)) false).bind λaZ =>
 (cJ (R:=List ga) (λ(bO:List ga × Int) =>
 (bif decide (bO.2<aO (1+aI)) then
 (yD bO.2).bind λb1 =>
 (ez bO.1 [(⟨b1,([]:List Alt),0⟩:ga)]).bind λcp =>
 some (.inl (bO.1++[(⟨b1,([]:List Alt),0⟩:ga)],aO (bO.2+1)))
 else
 some (.inr bO.1))) (([]:List ga),0)).bind λcn =>
 (cJ (R:=List ga × List Bool) (λ(cV:List ga × List Bool × Int) =>
 ((bif decide (cV.2.2<(a0.ei.length:Int)) then some (decide (cV.2.2<9)) else some false)).bind λsC =>
 (bif sC then
 ((idx a0.ei cV.2.2).bind λb9 =>
 (bif decide ((b9.length:Int)=0) then
 some (cV.1,cV.2.1)
 else
 (idx a0.ei cV.2.2).bind λfC =>
 (idx fC 0).bind λeJ =>
 (ta eJ (aO (1+aI))).bind λdN =>
 (cJ (R:=List Part × Bool) (λ(fP:List Part × Bool × Int) =>
 (((idx a0.ei cV.2.2).bind λe2=>(bif decide (fP.2.2<(e2.length:Int)) then some (decide (fP.2.2<5)) else some false))).bind λtP =>
 (bif tP then
 ((idx a0.ei cV.2.2).bind λhU =>
 (idx hU fP.2.2).bind λiL =>
 (Ba iL (aO (1+aI))).bind λdS =>
 ((bif fP.2.1 then (bif dS.Lit then some true else some (decide (dS.Name={ data:=#[101,114,114,111,114] }))) else some false)).bind λqN =>
 (ez fP.1 [(⟨dS,{ data:=#[] },0⟩:Part)]).bind λhz =>
 ((bif decide (cV.2.2<(a0.lQ.length:Int)) then (bif decide (fP.2.2=1) then ((idx a0.lQ cV.2.2).bind λh5=>((qu h5 3).bind λnr=>some (decide (nr=1)))) else some false) else some false)).bind λtQ =>
 ((bif tQ then
 (ez (fP.1++[(⟨dS,{ data:=#[] },0⟩:Part)]) [(⟨(⟨{ data:=#[] },false,0,0⟩:Sym),{ data:=#[123,36,36,32,61,32,36,49,125] },0⟩:Part)]).bind λtx =>
 some ((fP.1++[(⟨dS,{ data:=#[] },0⟩:Part)])++[(⟨(⟨{ data:=#[] },false,0,0⟩:Sym),{ data:=#[123,36,36,32,61,32,36,49,125] },0⟩:Part)])
 else
 some (fP.1++[(⟨dS,{ data:=#[] },0⟩:Part)]))).bind λHp =>
 some (Hp,qN)).bind λwh =>
 some (.inl (wh.1,wh.2,aO (fP.2.2+1)))
 else
 some (.inr (fP.1,fP.2.1)))) (([]:List Part),true,1)).bind λeF =>
 ((bif decide (cV.2.2<(a0.lQ.length:Int)) then ((idx a0.lQ cV.2.2).bind λla=>((qu la 2).bind λyT=>some (!decide (yT=0)))) else some false)).bind λzj =>
 ((bif zj then
 (ez eF.1 [(⟨(⟨{ data:=#[] },false,0,0⟩:Sym),{ data:=#[123,102,40,36,36,41,125] },0⟩:Part)]).bind λyU =>
 some (eF.1++[(⟨(⟨{ data:=#[] },false,0,0⟩:Sym),{ data:=#[123,102,40,36,36,41,125] },0⟩:Part)])
 else
 some eF.1)).bind λmP =>
 (((idx cV.2.1 dN).bind λjj=>(bif jj then some (cV.2.1.set dN.toNat true) else some (cV.2.1.set dN.toNat eF.2)))).bind λrO =>
 (idx cV.1 dN).bind λlN =>
 (ez lN.fR [(⟨mP,(⟨{ data:=#[] },false,0,0⟩:Sym),0⟩:Alt)]).bind λN7 =>
 some (cV.1.set dN.toNat (⟨lN.Left,lN.fR++[(⟨mP,(⟨{ data:=#[] },false,0,0⟩:Sym),0⟩:Alt)],lN.At⟩:ga),rO))).bind λnj =>
 some (.inl (nj.1,nj.2,aO (cV.2.2+1)))
 else
 some (.inr (cV.1,cV.2.1)))) (cn,aZ,0)).bind λct =>
 (cJ (R:=List ga) (λ(ie:List ga × Int) =>
 (bif decide (ie.2<aO (1+aI)) then
 ((((idx ie.1 ie.2).bind λqB=>(bif decide ((qB.fR.length:Int)=0) then some true else ((idx ct.2 ie.2).bind λIM=>(bif !IM then some (!a0.pV) else some false))))).bind λEX =>
 ((bif EX then
 (idx ie.1 ie.2).bind λkq =>
 (uP ie.2).bind λkr =>
 (ez kq.fR [(⟨[(⟨kr,{ data:=#[] },0⟩:Part)],(⟨{ data:=#[] },false,0,0⟩:Sym),0⟩:Alt)]).bind λBJ =>
 some (ie.1.set ie.2.toNat (⟨kq.Left,kq.fR++[(⟨[(⟨kr,{ data:=#[] },0⟩:Part)],(⟨{ data:=#[] },false,0,0⟩:Sym),0⟩:Alt)],kq.At⟩:ga))
 else
 some ie.1)).bind λHt =>
 some Ht).bind λHs =>
 some (.inl (Hs,aO (ie.2+1)))
 else
 some (.inr ie.1))) (ct.1,0)).bind λsk =>
 some (⟨{ data:=#[] },x2,sk,{ data:=#[] }⟩:Source)
def yE (a0:(List Int)):Option (Int) :=
 (cJ (R:=List Int) (λ(s1:List Int × Int) =>
 (bif decide (s1.2<(a0.length:Int)) then
 (idx a0 s1.2).bind λcn =>
 (oc s1.1 cn).bind λbr =>
 some (.inl (br,aO (s1.2+1)))
 else
 some (.inr s1.1))) (([]:List Int),0)).bind λx2 =>
 (cJ (R:=Int) (λ(eW:Int × Int × Int) =>
 (bif decide (eW.2.2<(x2.length:Int)) then
 ((cJ (R:=Int) (λ(yN:Int × Int) =>
 (bif decide (yN.2<(a0.length:Int)) then
 ((idx a0 yN.2).bind λb9 =>
 (idx x2 eW.2.2).bind λeX =>
 ((bif decide (b9=eX) then
 some (aO (yN.1+1))
 else
 some yN.1)).bind λfH =>
 some fH).bind λnj =>
 some (.inl (nj,aO (yN.2+1)))
 else
 some (.inr yN.1))) (0,0)).bind λdC =>
 ((bif decide (eW.2.1<dC) then
 (idx x2 eW.2.2).bind λeF =>
 some (eF,dC)
 else
 some (eW.1,eW.2.1))).bind λoL =>
 some (oL.1,oL.2)).bind λgP =>
 some (.inl (gP.1,gP.2,aO (eW.2.2+1)))
 else
 some (.inr eW.1))) ((-1),0,0)).bind λb1 =>
 some b1
def MY (a0:jG):Option ((List Row)) :=
 (cJ (R:=List Row) (λ(s1:List Row × Int) =>
 (bif decide (s1.2<(a0.dG.length:Int)) then
 (cJ (R:=List Int) (λ(cH:List Int × Int) =>
 (idx a0.dG s1.2).bind λb1 =>
 (bif decide (cH.2<(b1.length:Int)) then
 ((idx a0.dG s1.2).bind λct =>
 (idx ct cH.2).bind λcM =>
 ((bif decide (cM.Kind=2) then
 (idx a0.dG s1.2).bind λdk =>
 (idx dk cH.2).bind λcr =>
 (ez cH.1 [cr.N]).bind λb9 =>
 some (cH.1++[cr.N])
 else
 some cH.1)).bind λjf =>
 some jf).bind λmO =>
 some (.inl (mO,aO (cH.2+1)))
 else
 some (.inr cH.1))) (([]:List Int),0)).bind λbr =>
 (yE br).bind λeX =>
 (cJ (R:=List gk) (λ(eh:List gk × Int) =>
 (idx a0.dG s1.2).bind λhj =>
 (bif decide (eh.2<(hj.length:Int)) then
 ((idx a0.dG s1.2).bind λe2 =>
 (idx e2 eh.2).bind λh4 =>
 ((bif !decide (h4.Kind=0) then (bif !decide (h4.Kind=2) then some true else some (!decide (h4.N=eX))) else some false)).bind λET =>
 ((bif ET then
 (nE h4).bind λdS =>
 (ez eh.1 [(⟨eh.2,dS⟩:gk)]).bind λjS =>
 some (eh.1++[(⟨eh.2,dS⟩:gk)])
 else
 some eh.1)).bind λHk =>
 some Hk).bind λAG =>
 some (.inl (AG,aO (eh.2+1)))
 else
 some (.inr eh.1))) (([]:List gk),0)).bind λeJ =>
 (ez s1.1 [(⟨eX,eJ⟩:Row)]).bind λgR =>
 some (.inl (s1.1++[(⟨eX,eJ⟩:Row)],aO (s1.2+1)))
 else
 some (.inr s1.1))) (([]:List Row),0)).bind λx2 =>
 some x2
def M0 (a0:jG):Option ((List Row)) :=
 (cJ (R:=List Row) (λ(s1:List Row × Int) =>
 ((bif decide (0<(a0.dh.length:Int)) then ((idx a0.dh 0).bind λcn=>some (decide (s1.2<(cn.length:Int)))) else some false)).bind λvm =>
 (bif vm then
 (cJ (R:=List Int) (λ(cw:List Int × Int) =>
 (bif decide (cw.2<(a0.dh.length:Int)) then
 ((idx a0.dh cw.2).bind λdC =>
 (idx dC s1.2).bind λdU =>
 ((bif decide (0<=dU) then
 (idx a0.dh cw.2).bind λb9 =>
 (idx b9 s1.2).bind λeX =>
 (ez cw.1 [eX]).bind λfC =>
 some (cw.1++[eX])
 else
 some cw.1)).bind λql =>
 some ql).bind λfa =>
 some (.inl (fa,aO (cw.2+1)))
 else
 some (.inr cw.1))) (([]:List Int),0)).bind λcp =>
 (yE cp).bind λeJ =>
 (cJ (R:=List gk) (λ(tl:List gk × Int) =>
 (bif decide (tl.2<(a0.dh.length:Int)) then
 ((idx a0.dh tl.2).bind λh4 =>
 (idx h4 s1.2).bind λgH =>
 ((bif decide (0<=gH) then some (!decide (gH=eJ)) else some false)).bind λET =>
 ((bif ET then
 (ez tl.1 [(⟨tl.2,gH⟩:gk)]).bind λdS =>
 some (tl.1++[(⟨tl.2,gH⟩:gk)])
 else
 some tl.1)).bind λHk =>
 some Hk).bind λwe =>
 some (.inl (we,aO (tl.2+1)))
 else
 some (.inr tl.1))) (([]:List gk),0)).bind λhj =>
 (ez s1.1 [(⟨eJ,hj⟩:Row)]).bind λjS =>
 some (.inl (s1.1++[(⟨eJ,hj⟩:Row)],aO (s1.2+1)))
 else
 some (.inr s1.1))) (([]:List Row),0)).bind λx2 =>
 some x2
def M1 (a0:(List gk)) (ay:Int):Option (Int × Bool) :=
 (cJ (R:=(Unit) ⊕ (Int × Bool)) (λ(s1:Int) =>
 (bif decide (s1<(a0.length:Int)) then
 (idx a0 s1).bind λbr =>
 (bif decide (br.At=ay) then
 (idx a0 s1).bind λb1 =>
 some (.inr (.inr (b1.xz,true)))
 else
 some (.inl (aO (s1+1))))
 else
 some (.inr (.inl ())))) 0).bind λx2 =>
 (match x2 with
 | .inl aZ =>
 some (0,false)
 | .inr bs =>
 some (bs.1,bs.2))
def HU (a0:(List Act)) (ay:Int):Option (Int) :=
 (cJ (R:=Int) (λ(s1:Int × Int) =>
 (bif decide (s1.2<(a0.length:Int)) then
 ((((idx a0 s1.2).bind λbr=>(bif decide (br.Kind=2) then ((idx a0 s1.2).bind λb1=>some (decide (b1.N=ay))) else some false))).bind λsD =>
 ((bif sD then
 some (aO (s1.1+1))
 else
 some s1.1)).bind λmO =>
 some mO).bind λmQ =>
 some (.inl (mQ,aO (s1.2+1)))
 else
 some (.inr s1.1))) (0,0)).bind λx2 =>
 some x2
def HT (a0:Int) (ay:Int):Option (Int × Int) :=
 some (IntKind.u64.wrap ((IntKind.u64.wrap ((IntKind.u64.wrap ((rq .u64 a0 32) * (rq .u64 ay 32)))+(rq .u64 (IntKind.u64.wrap ((IntKind.u64.wrap ((rq .u64 a0 32) * (rK .u64 ay 4294967295)))+(rq .u64 (IntKind.u64.wrap ((rK .u64 a0 4294967295) * (rK .u64 ay 4294967295))) 32))) 32)))+(rq .u64 (IntKind.u64.wrap ((rK .u64 (IntKind.u64.wrap ((IntKind.u64.wrap ((rq .u64 a0 32) * (rK .u64 ay 4294967295)))+(rq .u64 (IntKind.u64.wrap ((rK .u64 a0 4294967295) * (rK .u64 ay 4294967295))) 32))) 4294967295)+(IntKind.u64.wrap ((rK .u64 a0 4294967295) * (rq .u64 ay 32))))) 32)),IntKind.u64.wrap (a0 * ay))
def H4 (a0:Int) (ay:Int):Option (Int × Int) :=
 (HT a0 ay).bind λaI =>
 some (aI.1,aI.2)
def DQ (a0:(List Int)) (ay:Int):Option ((List Int)) :=
 (bif decide (ay<0) then
 none
 else
 (H4 (IntKind.u64.wrap (a0.length:Int)) (IntKind.u64.wrap ay)).bind λx2 =>
 ((bif decide (0<x2.1) then some true else some (decide (9223372036854775807<x2.2)))).bind λc4 =>
 (bif c4 then
 none
 else
 (oO (aO x2.2) 0).bind λbr =>
 (Cv 0 br.length br a0).bind λbj =>
 (cJ (R:=List Int) (λ(cw:List Int × Int) =>
 (bif decide (cw.2<(cw.1.length:Int)) then
 (uG cw.1 cw.2).bind λcM =>
 (uG cw.1 cw.2).bind λdC =>
 (Cv cw.2.toNat (cw.1.length - cw.2.toNat) cw.1 (cw.1.take cw.2.toNat)).bind λdU =>
 some (.inl (dU,aO (cw.2+((min (cw.1.take cw.2.toNat).length (cw.1.length - cw.2.toNat):Nat):Int))))
 else
 some (.inr cw.1))) (bj,((min a0.length br.length:Nat):Int))).bind λcp =>
 some cp))
def Bd (a0:bV) (ay:(List State)):Option (jG) :=
 (cJ (R:=List (List Act) × List (List Int)) (λ(s1:List (List Act) × List (List Int) × Int) =>
 (bif decide (s1.2.2<(ay.length:Int)) then
 (idx ay s1.2.2).bind λcn =>
 (DQ [(-1)] (a0.bx.length:Int)).bind λbr =>
 (cJ (R:=List Int) (λ(eW:List Int × Int) =>
 (bif decide (eW.2<(cn.dm.length:Int)) then
 ((idx cn.dm eW.2).bind λcM =>
 ((bif decide (1000<=cM.Sym) then
 (idx eW.1 (aO (cM.Sym - 1000))).bind λdk =>
 some (eW.1.set (aO (cM.Sym - 1000)).toNat cM.hA)
 else
 some eW.1)).bind λjf =>
 some jf).bind λgP =>
 some (.inl (gP,aO (eW.2+1)))
 else
 some (.inr eW.1))) (br,0)).bind λb1 =>
 (ez s1.2.1 [b1]).bind λcr =>
 (oO (a0.a6.length:Int) (⟨0,0⟩:Act)).bind λb9 =>
 (ez s1.1 [b9]).bind λeX =>
 some (.inl (s1.1++[b9],s1.2.1++[b1],aO (s1.2.2+1)))
 else
 some (.inr (s1.1,s1.2.1)))) (([]:List (List Act)),([]:List (List Int)),0)).bind λx2 =>
 some (⟨x2.1,x2.2⟩:jG)
def yF (a0:bV) (ay:Int):Option (Int × Int) :=
 ((bif decide (ay<0) then some true else some (decide ((a0.a6.length:Int)<=ay)))).bind λc2 =>
 (bif c2 then
 some (0,0)
 else
 (idx a0.a6 ay).bind λbs =>
 (idx a0.a6 ay).bind λcn =>
 some (bs.Level,cn.eC))
def Bf (a0:bV) (ay:Int):Option (Int × Int) :=
 ((bif decide (ay<0) then some true else some (decide ((a0.aX.length:Int)<=ay)))).bind λc2 =>
 (bif c2 then
 some (0,0)
 else
 (idx a0.aX ay).bind λbs =>
 (yF a0 bs.Prec).bind λcn =>
 some (cn.1,cn.2))
def yC (a0:bV) (ay:Int) (a2:Int):Option (Int) :=
 (Bf a0 ay).bind λaI =>
 (yF a0 a2).bind λx2 =>
 ((bif decide (aI.1=0) then some true else some (decide (x2.1=0)))).bind λc4 =>
 (bif c4 then
 some 0
 else
 ((bif decide (aI.1<x2.1) then some true else (bif decide (x2.1=aI.1) then some (decide (x2.2=2)) else some false))).bind λna =>
 (bif na then
 some 1
 else
 ((bif decide (x2.1<aI.1) then some true else some (decide (x2.2=1)))).bind λEO =>
 (bif EO then
 some 2
 else
 some 3)))
def wK (a0:(List Int)):Option (Int) :=
 (bif decide ((a0.length:Int)<1) then
 none
 else
 (idx a0 0).bind λx2 =>
 (cJ (R:=Int) (λ(ee:Int × Int) =>
 (bif decide (ee.2<(a0.length:Int)) then
 (idx a0 ee.2).bind λbj =>
 some (.inl (min ee.1 bj,aO (ee.2+1)))
 else
 some (.inr ee.1))) (x2,1)).bind λbs =>
 some bs)
def Be (a0:bV) (ay:Cell):Option (Act × Bool) :=
 (bif decide ((ay.aX.length:Int)=0) then
 (bif ay.gi then
 some ((⟨3,0⟩:Act),false)
 else
 some ((⟨1,ay.fh⟩:Act),false))
 else
 (wK ay.aX).bind λaZ =>
 (bif ay.gi then
 some ((⟨3,0⟩:Act),true)
 else
 (bif decide (ay.fh<0) then
 some ((⟨2,aZ⟩:Act),false)
 else
 (yC a0 aZ ay.bC).bind λbr =>
 (bif decide (br=2) then
 some ((⟨2,aZ⟩:Act),false)
 else
 (bif decide (br=3) then
 some ((⟨4,0⟩:Act),false)
 else
 (bif decide (br=1) then
 some ((⟨1,ay.fh⟩:Act),false)
 else
 some ((⟨1,ay.fh⟩:Act),true)))))))
def uO (a0:bV) (ay:(List State)) (a2:(List Cell)):Option (jG × (List er)) :=
 (Bd a0 ay).bind λaI =>
 (cJ (R:=List (List Act) × List er) (λ(s2:List (List Act) × List er × Int) =>
 (bif decide (s2.2.2<(a2.length:Int)) then
 ((idx a2 s2.2.2).bind λbj =>
 (Be a0 bj).bind λb1 =>
 (idx s2.1 bj.State).bind λcp =>
 (idx cp bj.bC).bind λbZ =>
 (bif decide ((bj.aX.length:Int)=0) then
 some (s2.1.set bj.State.toNat (cp.set bj.bC.toNat b1.1),s2.2.1)
 else
 (wK bj.aX).bind λcM =>
 (cJ (R:=List er) (λ(gz:List er × Int) =>
 (bif decide (gz.2<(bj.aX.length:Int)) then
 ((idx bj.aX gz.2).bind λeX =>
 ((bif !decide (eX=cM) then
 (ez gz.1 [(⟨bj.State,bj.bC,cM,eX⟩:er)]).bind λdN =>
 some (gz.1++[(⟨bj.State,bj.bC,cM,eX⟩:er)])
 else
 some gz.1)).bind λfH =>
 some fH).bind λn9 =>
 some (.inl (n9,aO (gz.2+1)))
 else
 some (.inr gz.1))) (s2.2.1,0)).bind λdU =>
 ((bif b1.2 then
 (ez dU [(⟨bj.State,bj.bC,(-1),cM⟩:er)]).bind λfZ =>
 some (dU++[(⟨bj.State,bj.bC,(-1),cM⟩:er)])
 else
 some dU)).bind λn_ =>
 some (s2.1.set bj.State.toNat (cp.set bj.bC.toNat b1.1),n_))).bind λjg =>
 some (.inl (jg.1,jg.2,aO (s2.2.2+1)))
 else
 some (.inr (s2.1,s2.2.1)))) (aI.dG,([]:List er),0)).bind λaZ =>
 some ((⟨aZ.1,aI.dh⟩:jG),aZ.2)
def wH (a0:(List er)):Option (Int × Int) :=
 (cJ (R:=Int) (λ(s1:Int × Int) =>
 (bif decide (s1.2<(a0.length:Int)) then
 ((idx a0 s1.2).bind λbr =>
 ((bif decide (br.fu=(-1)) then
 some (aO (s1.1+1))
 else
 some s1.1)).bind λma =>
 some ma).bind λmQ =>
 some (.inl (mQ,aO (s1.2+1)))
 else
 some (.inr s1.1))) (0,0)).bind λx2 =>
 some (x2,aO ((a0.length:Int) - x2))
def HW (a0:(List Int)):Option (Source) :=
 (cJ (R:=List Alt × List Decl) (λ(s1:List Alt × List Decl × Int) =>
 ((bif decide (s1.2.2<(a0.length:Int)) then some (decide (s1.2.2<7)) else some false)).bind λkA =>
 (bif kA then
 (idx a0 s1.2.2).bind λbj =>
 (ta bj 3).bind λb1 =>
 (ez s1.2.1 [(⟨aO (2+b1),{ data:=#[] },[(⟨strOfNums [hh (aO (65+s1.2.2))],true,0,0⟩:Sym)],0⟩:Decl)]).bind λcp =>
 (ez s1.1 [(⟨[(⟨(⟨{ data:=#[101] },false,0,0⟩:Sym),{ data:=#[] },0⟩:Part),(⟨(⟨strOfNums [hh (aO (65+s1.2.2))],true,0,0⟩:Sym),{ data:=#[] },0⟩:Part),(⟨(⟨{ data:=#[101] },false,0,0⟩:Sym),{ data:=#[] },0⟩:Part)],(⟨{ data:=#[] },false,0,0⟩:Sym),0⟩:Alt)]).bind λbZ =>
 some (.inl (s1.1++[(⟨[(⟨(⟨{ data:=#[101] },false,0,0⟩:Sym),{ data:=#[] },0⟩:Part),(⟨(⟨strOfNums [hh (aO (65+s1.2.2))],true,0,0⟩:Sym),{ data:=#[] },0⟩:Part),(⟨(⟨{ data:=#[101] },false,0,0⟩:Sym),{ data:=#[] },0⟩:Part)],(⟨{ data:=#[] },false,0,0⟩:Sym),0⟩:Alt)],s1.2.1++[(⟨aO (2+b1),{ data:=#[] },[(⟨strOfNums [hh (aO (65+s1.2.2))],true,0,0⟩:Sym)],0⟩:Decl)],aO (s1.2.2+1)))
 else
 some (.inr (s1.1,s1.2.1)))) ([(⟨[(⟨(⟨{ data:=#[120] },true,0,0⟩:Sym),{ data:=#[] },0⟩:Part)],(⟨{ data:=#[] },false,0,0⟩:Sym),0⟩:Alt)],([]:List Decl),0)).bind λx2 =>
 some (⟨{ data:=#[] },x2.2,[(⟨{ data:=#[101] },x2.1,0⟩:ga)],{ data:=#[] }⟩:Source)
def H3 (a0:(List State)) (ay:Int) (a2:Int):Option (Int) :=
 (idx a0 ay).bind λaI =>
 (cJ (R:=(Unit) ⊕ (Int)) (λ(s2:Int) =>
 (bif decide (s2<(aI.dm.length:Int)) then
 (idx aI.dm s2).bind λbj =>
 (bif decide (bj.Sym=a2) then
 some (.inr (.inr bj.hA))
 else
 some (.inl (aO (s2+1))))
 else
 some (.inr (.inl ())))) 0).bind λaZ =>
 (match aZ with
 | .inl bs =>
 some (-1)
 | .inr cn =>
 some cn)
def HY (a0:(List State)) (ay:Int) (a2:(List Int)):Option (Int) :=
 (cJ (R:=(Int) ⊕ (Int)) (λ(s1:Int × Int) =>
 (bif decide (s1.2<(a2.length:Int)) then
 (idx a2 s1.2).bind λbr =>
 (H3 a0 s1.1 br).bind λbj =>
 (bif decide (bj<0) then
 some (.inr (.inr (-1)))
 else
 some (.inl (bj,aO (s1.2+1))))
 else
 some (.inr (.inl s1.1)))) (ay,0)).bind λx2 =>
 (match x2 with
 | .inl aZ =>
 some aZ
 | .inr bs =>
 some bs)
def DO (a0:(List State)) (ay:(List Int)):Option (Int) :=
 (HY a0 0 ay).bind λaI =>
 some aI
def A_ :Option (Bool) :=
 (HW [0]).bind λaI =>
 (rm aI).bind λx2 =>
 (uO x2.1 x2.2.1 x2.2.2.1).bind λaZ =>
 (rm (⟨aI.bB,([]:List Decl),aI.ei,aI.bE⟩:Source)).bind λbs =>
 (uO bs.1 bs.2.1 bs.2.2.1).bind λcn =>
 (wH cn.2).bind λbr =>
 ((bif !x2.2.2.2 then some true else (bif !bs.2.2.2 then some true else (bif !decide ((aZ.2.length:Int)=0) then some true else (bif !decide ((cn.2.length:Int)=1) then some true else ((idx cn.2 0).bind λct=>(bif !decide (ct.fu=(-1)) then some true else ((idx cn.2 0).bind λdC=>(bif !decide (dC.Drop=2) then some true else (bif !decide (br.1=1) then some true else some (!decide (br.2=0)))))))))))).bind λER =>
 (bif ER then
 some false
 else
 (DO x2.2.1 [1001,3,1001]).bind λeX =>
 ((bif decide (0<=eX) then (bif decide (eX<(aZ.1.dG.length:Int)) then ((idx aZ.1.dG eX).bind λdN=>(bif decide ((dN.length:Int)=5) then ((idx aZ.1.dG eX).bind λeF=>((idx eF 3).bind λfZ=>(bif decide (fZ.Kind=2) then ((idx aZ.1.dG eX).bind λh4=>((idx h4 3).bind λgH=>(bif decide (gH.N=2) then ((idx aZ.1.dG eX).bind λeR=>((idx eR 4).bind λhU=>(bif decide (hU.Kind=0) then (bif decide ((aZ.1.dh.length:Int)=(x2.2.1.length:Int)) then ((idx aZ.1.dh 0).bind λjS=>(bif decide ((jS.length:Int)=2) then ((idx aZ.1.dh 0).bind λgf=>((idx gf 1).bind λhz=>((DO x2.2.1 [1001]).bind λji=>(bif decide (hz=ji) then ((idx aZ.1.dh 0).bind λh5=>((idx h5 0).bind λnr=>some (decide (nr=(-1))))) else some false)))) else some false)) else some false) else some false))) else some false))) else some false))) else some false)) else some false) else some false)).bind λtQ =>
 some tQ)
def Bp (a0:oW):Option (Bool) :=
 (A_ ).bind λaI =>
 (bif !aI then
 some false
 else
 (yA a0).bind λaZ =>
 (rm aZ).bind λbs =>
 (bif !bs.2.2.2 then
 some true
 else
 (uO bs.1 bs.2.1 bs.2.2.1).bind λbr =>
 ((bif !decide ((br.1.dG.length:Int)=(bs.2.1.length:Int)) then some true else some (!decide ((br.1.dh.length:Int)=(bs.2.1.length:Int))))).bind λna =>
 (bif na then
 some false
 else
 (cJ (R:=(Int) ⊕ (Bool)) (λ(cV:Int × Int) =>
 (bif decide (cV.2<(br.1.dG.length:Int)) then
 (((idx br.1.dG cV.2).bind λdk=>(bif !decide ((dk.length:Int)=(bs.1.a6.length:Int)) then some true else ((idx br.1.dh cV.2).bind λb9=>some (!decide ((b9.length:Int)=(bs.1.bx.length:Int))))))).bind λnQ =>
 (bif nQ then
 some (.inr (.inr false))
 else
 (cJ (R:=Int) (λ(k_:Int × Int) =>
 (idx br.1.dG cV.2).bind λeF =>
 (bif decide (k_.2<(eF.length:Int)) then
 ((idx br.1.dG cV.2).bind λh4 =>
 (idx h4 k_.2).bind λgH =>
 ((bif !decide (gH.Kind=0) then
 some (aO (k_.1+1))
 else
 some k_.1)).bind λwg =>
 some wg).bind λwe =>
 some (.inl (we,aO (k_.2+1)))
 else
 some (.inr k_.1))) (cV.1,0)).bind λdN =>
 some (.inl (dN,aO (cV.2+1))))
 else
 some (.inr (.inl cV.1)))) (0,0)).bind λct =>
 (match ct with
 | .inl cM =>
 (cJ (R:=(Unit) ⊕ (Bool)) (λ(hg:Int) =>
 (bif decide (hg<(bs.2.2.1.length:Int)) then
 (idx bs.2.2.1 hg).bind λgf =>
 (idx br.1.dG gf.State).bind λhz =>
 (idx bs.2.2.1 hg).bind λji =>
 (idx hz ji.bC).bind λcP =>
 (bif decide (cP.Kind=1) then
 (idx bs.2.2.1 hg).bind λnr =>
 (bif !decide (cP.N=nr.fh) then
 some (.inr (.inr false))
 else
 some (.inl (aO (hg+1))))
 else
 (bif decide (cP.Kind=2) then
 (((idx bs.2.2.1 hg).bind λw9=>(bif decide ((w9.aX.length:Int)=0) then some true else ((idx bs.2.2.1 hg).bind λyS=>((idx yS.aX 0).bind λla=>(bif !decide (cP.N=la) then some true else ((idx bs.2.2.1 hg).bind λtz=>some tz.gi))))))).bind λEU =>
 (bif EU then
 some (.inr (.inr false))
 else
 some (.inl (aO (hg+1))))
 else
 (bif decide (cP.Kind=3) then
 (((idx bs.2.2.1 hg).bind λjj=>(bif !jj.gi then some true else some (!decide (cP.N=0))))).bind λrO =>
 (bif rO then
 some (.inr (.inr false))
 else
 some (.inl (aO (hg+1))))
 else
 (bif decide (cP.Kind=4) then
 (((idx bs.2.2.1 hg).bind λIK=>(bif decide (IK.fh<0) then some true else ((idx bs.2.2.1 hg).bind λmo=>(bif decide ((mo.aX.length:Int)=0) then some true else ((idx bs.2.2.1 hg).bind λIL=>((idx bs.1.a6 IL.bC).bind λqB=>(bif !decide (qB.eC=3) then some true else some (!decide (cP.N=0)))))))))).bind λEW =>
 (bif EW then
 some (.inr (.inr false))
 else
 some (.inl (aO (hg+1))))
 else
 some (.inr (.inr false))))))
 else
 some (.inr (.inl ())))) 0).bind λiL =>
 (match iL with
 | .inl dS =>
 some (decide (cM=(bs.2.2.1.length:Int)))
 | .inr jS =>
 some jS)
 | .inr dC =>
 some dC))))
def yB (a0:Cell):Option (Int) :=
 ((bif decide (0<=a0.fh) then
 some (aO ((a0.aX.length:Int)+1))
 else
 some (a0.aX.length:Int))).bind λib =>
 ((bif a0.gi then
 some (aO (ib+1))
 else
 some ib)).bind λdr =>
 some dr
def A0 (a0:oW):Option (Bool) :=
 (A_ ).bind λaI =>
 (bif !aI then
 some false
 else
 (yA a0).bind λaZ =>
 (rm aZ).bind λbs =>
 (bif !bs.2.2.2 then
 some true
 else
 (uO bs.1 bs.2.1 bs.2.2.1).bind λbr =>
 (wH br.2).bind λbj =>
 (cJ (R:=Int × Int) (λ(cw:Int × Int × Int) =>
 (bif decide (cw.2.2<(bs.2.2.1.length:Int)) then
 ((idx bs.2.2.1 cw.2.2).bind λdC =>
 (idx bs.2.2.1 cw.2.2).bind λdU =>
 (yB dU).bind λdk =>
 (bif decide (dk<2) then
 some (cw.1,cw.2.1)
 else
 ((bif decide (1<(dC.aX.length:Int)) then
 some (aO (cw.2.1+(aO ((dC.aX.length:Int) - 1))))
 else
 some cw.2.1)).bind λn9 =>
 (((idx bs.2.2.1 cw.2.2).bind λfC=>(bif fC.gi then some true else ((idx bs.2.2.1 cw.2.2).bind λdN=>(bif decide (0<=dN.fh) then ((idx bs.2.2.1 cw.2.2).bind λeF=>((idx eF.aX 0).bind λfZ=>((idx bs.2.2.1 cw.2.2).bind λe2=>((yC bs.1 fZ e2.bC).bind λh4=>some (decide (h4=0)))))) else some false))))).bind λtP =>
 ((bif tP then
 some (aO (cw.1+1))
 else
 some cw.1)).bind λwg =>
 some (wg,n9))).bind λfa =>
 some (.inl (fa.1,fa.2,aO (cw.2.2+1)))
 else
 some (.inr (cw.1,cw.2.1)))) (0,0,0)).bind λcp =>
 (cJ (R:=(Unit) ⊕ (Bool)) (λ(hg:Int) =>
 (bif decide (hg<(br.2.length:Int)) then
 (((idx br.2 hg).bind λgf=>((idx br.2 hg).bind λhz=>(bif decide (hz.Drop<=gf.fu) then some true else ((idx br.2 hg).bind λcP=>(bif decide (cP.fu=0) then some true else ((idx br.2 hg).bind λnr=>(bif decide (nr.fu<(-1)) then some true else (bif decide (0<hg) then ((idx br.2 hg).bind λw9=>((idx br.2 (aO (hg - 1))).bind λtx=>(bif decide (w9.State<tx.State) then some true else ((idx br.2 hg).bind λla=>((idx br.2 (aO (hg - 1))).bind λyT=>(bif decide (la.State=yT.State) then ((idx br.2 hg).bind λIH=>((idx br.2 (aO (hg - 1))).bind λII=>some (decide (IH.bC<II.bC)))) else some false)))))) else some false))))))))).bind λzk =>
 (bif zk then
 some (.inr (.inr false))
 else
 some (.inl (aO (hg+1))))
 else
 some (.inr (.inl ())))) 0).bind λiL =>
 (match iL with
 | .inl dS =>
 ((bif decide (bj.1=cp.1) then (bif decide (bj.2=cp.2) then some (decide (aO (bj.1+bj.2)=(br.2.length:Int))) else some false) else some false)).bind λzl =>
 some zl
 | .inr jS =>
 some jS)))
def M3 (a0:(List Cell)):Option (Int) :=
 (cJ (R:=Int) (λ(s1:Int × Int) =>
 (bif decide (s1.2<(a0.length:Int)) then
 ((idx a0 s1.2).bind λbr =>
 (yB br).bind λbj =>
 ((bif decide (1<bj) then
 some (aO (s1.1+1))
 else
 some s1.1)).bind λj1 =>
 some j1).bind λmQ =>
 some (.inl (mQ,aO (s1.2+1)))
 else
 some (.inr s1.1))) (0,0)).bind λx2 =>
 some x2
theorem N3:A_=some true:=by kernel_rfl
end Go.Proofs
namespace Go.Own
open Go
variable {α β S R:Type}
abbrev hX (p:S->Prop) (q:R->Prop) (x:S ⊕ R):Prop:=Sum.elim p q x
def Tot (x:Option α) (Φ:α->Prop):Prop:=∃ a,x=some a/\Φ a
namespace Tot
variable {Φ Ψ:α->Prop}
theorem au {a:α}(h:Φ a):Tot (some a) Φ:=⟨a,rfl,h⟩
theorem bi {x:Option β}{f:β->Option α}(h:Tot x λa=>Tot (f a) Φ):Tot (x.bind f) Φ:=by
 obtain ⟨a,rfl,b,aK,nz⟩:=h;exact ⟨b,aK,nz⟩
theorem ax {f:β->Option α}{a:β}(h:Tot (f a) Φ):Tot ((some a).bind f) Φ:=h
theorem use {x:Option α}(h:Tot x Ψ) (hi:∀ a,Ψ a->Φ a):Tot x Φ:=by
 obtain ⟨a,bf,Hd⟩:=h;exact ⟨a,bf,hi a Hd⟩
theorem aE {x:Option β}{f:β->Option α}{Ξ:β->Prop}(h:Tot x Ξ) (hk:∀ a,Ξ a->Tot (f a) Φ):Tot (x.bind f) Φ:=bi (h.use hk)
theorem cg {c:Bool}{a b:Option α}(aJ:c=true->Tot a Φ) (bn:c=false->Tot b Φ):Tot (cond c a b) Φ:=by
 cases c
 ·exact bn rfl
 ·exact aJ rfl
theorem bK {p:Prop} [Decidable p] {a b:Option α}(aJ:p->Tot a Φ) (bn:¬ p->Tot b Φ):Tot (cond (decide p) a b) Φ :=
 cg (λh=>aJ (of_decide_eq_true h)) (λh=>bn (of_decide_eq_false h))
theorem nv {p:Prop} [Decidable p] {a b:Option α}(aJ:¬ p->Tot a Φ) (bn:p->Tot b Φ):Tot (cond (!decide p) a b) Φ :=
 cg (λh=>aJ (of_decide_eq_false (by simpa using h))) (λh=>bn (of_decide_eq_true (by simpa using h)))
theorem hK {l:List α}{i:Int}(bd:0<=i) (h1:i<l.length) (hk:∀ y,idx l i=some y->y∈l->Φ y):Tot (idx l i) Φ:=by
 have a_:i.toNat<l.length:=by omega
 have:idx l i=some l[i.toNat]:=by simp [idx,bd,a_]
 exact ⟨_,this,hk _ this (List.getElem_mem a_)⟩
theorem ap {Φ:List α->Prop}{l m:List α}(h:l.length+m.length<=lim) (hk:Φ (l++m)):Tot (ez l m) Φ:=by
 refine ⟨l++m,?_,hk⟩;unfold ez;rw [if_pos h]
theorem loop {f:S->Option (S ⊕ R)}{fr:S}{Ψ:R->Prop}(Inv:S->Prop) (tB:S->Nat) (bd:Inv fr) (He:tB fr<fuel)
  (aL:∀ s,Inv s->Tot (f s) (hX (λeV=>Inv eV/\tB eV<tB s) Ψ)):Tot (cJ f fr) Ψ:=by
 have key:∀ n s,Inv s->tB s<n->Tot (iter f n s) Ψ:=by
  intro n
  induction n with
  | zero=>intro s _ h; omega
  | succ n aS =>
   intro s bw hm;obtain ⟨x,J,cT⟩:=aL s bw;cases x with
   | inl eV =>
    obtain ⟨h1,al⟩:=cT;simp only [iter,J];exact aS eV h1 (by omega)
   | inr r =>
    simp only [iter,J];exact ⟨r,rfl,cT⟩
 exact key fuel fr bd He
theorem count {f:S->Option (S ⊕ R)}{fr:S}{Ψ:R->Prop}(i:S->Int) (n:Int) (Inv:S->Prop) (bd:Inv fr) (aP:n - i fr<1000000000000000000)
  (aL:∀ s,Inv s->Tot (f s) (hX (λeV=>Inv eV/\i s<i eV/\i eV<=n) Ψ)):Tot (cJ f fr) Ψ:=by
 refine loop Inv (λs=>(n - i s).toNat) bd (by show (n - i fr).toNat<1000000000000000000; omega) λs bw=>(aL s bw).use λx J=>?_;cases x with
 | inl eV=>exact ⟨J.1,by have:=J.2; show (n - i eV).toNat<(n - i s).toNat; omega⟩
 | inr r=>exact J
end Tot
theorem c8 (n:Int):aO n=(n+9223372036854775808) % 18446744073709551616 - 9223372036854775808:=IntKind.wrap_i64 n
namespace Tot
theorem cat {Φ:ByteArray->Prop}{s u:ByteArray}(h:s.size+u.size<=4611686018427387904) (hk:Φ (s++u)):Tot (sE s u) Φ:=by
 refine ⟨s++u,?_,hk⟩;unfold sE;rw [if_pos h]
theorem cut {Φ:ByteArray->Prop}{s:ByteArray}{m n:Int}(h:0<=m/\m<=n/\n<=s.size) (hk:Φ (vx s m n)):Tot (vv s m n) Φ:=by
 refine ⟨_,?_,hk⟩;unfold vv;rw [if_pos h]
theorem nu {Φ:Int->Prop}{s:ByteArray}{m:Int}(h:0<=m/\m<s.size) (hk:Φ (zi s m)):Tot (kV s m) Φ:=by
 refine ⟨_,?_,hk⟩;unfold kV;rw [if_pos h]
theorem sub {Φ:List α->Prop}{l:List α}{m n:Int}(h:0<=m/\m<=n/\n<=l.length) (hk:Φ ((l.drop m.toNat).take (n - m).toNat)):Tot (oT l m n) Φ:=by
 refine ⟨_,?_,hk⟩;unfold oT;rw [if_pos h]
theorem rem {Φ:Int->Prop}{m n:Int}(h:n≠0) (hk:Φ (m.tmod n)):Tot (qu m n) Φ:=by
 refine ⟨_,?_,hk⟩;unfold qu;rw [if_neg h]
theorem quo {Φ:Int->Prop}{m n:Int}(h:n≠0) (hk:Φ (aO (m.tdiv n))):Tot (DU m n) Φ:=by
 refine ⟨_,?_,hk⟩;unfold DU;rw [if_neg h]
theorem ti {Φ:Int->Prop}{m n:Int}(h:n≠0) (hk:Φ (m.tmod n)):Tot (Own.ti m n) Φ:=by
 refine ⟨_,?_,hk⟩;unfold Own.ti;rw [if_neg h]
theorem tf {Φ:Int->Prop}{m n:Int}(h:n≠0) (hk:Φ (IntKind.u64.wrap (m.tdiv n))):Tot (Own.tf m n) Φ:=by
 refine ⟨_,?_,hk⟩;unfold Own.tf;rw [if_neg h]
theorem mk {Φ:List α->Prop}{m:Int}{z:α}(h:0<=m/\m<=lim) (hk:Φ (List.replicate m.toNat z)):Tot (oO m z) Φ:=by
 refine ⟨_,?_,hk⟩;unfold oO;rw [if_pos h]
theorem eq {x:Option α}{Φ:α->Prop}{a:α}(h:Tot x Φ) (e:x=some a):Φ a:=by
 obtain ⟨b,aK,nz⟩:=h;rw [e] at aK; cases aK; exact nz
theorem ex {x:Option α}{Φ:α->Prop}(h:Tot x Φ):∃ a,x=some a/\Φ a:=h
end Tot
namespace Tot
theorem scan {f:Int->Option (Int ⊕ (Unit ⊕ R))}(l:List β) (P:β->Prop) (Q:R->Prop) (ao:l.length<=100000000000000000)
  (aL:∀ (s:Int) (y:β),0<=s->s<l.length->idx l s=some y->y∈l->Tot (f s) (hX (λeV=>eV=s+1/\P y) (hX (λ_=>False) Q)))
  (he:∀ s:Int,¬ s<l.length->f s=some (.inr (.inl ()))):Tot (cJ f 0) (hX (λ_=>∀ y∈l,P y) Q):=by
 refine count (λs=>s) l.length (λs=>0<=s/\s<=l.length/\∀ (ae:Nat) (y:β),(ae:Int)<s->l[ae]?=some y->P y) ⟨by omega,by omega,λae y h=>by omega⟩ (by show (l.length:Int) - 0<_; omega) λs bw=>?_;obtain ⟨bd,h1,al⟩:=bw;by_cases a_:s<l.length
 ·have mD:s.toNat<l.length:=by omega
  have hi:idx l s=some l[s.toNat]:=by simp [idx,bd,mD]
  refine (aL s _ bd a_ hi (List.getElem_mem mD)).use λx J=>?_;rcases x with eV | ⟨⟨⟩⟩ | r
  ·obtain ⟨rfl,cT⟩:=J;refine ⟨⟨by omega,by omega,λae y aa az=>?_⟩,by show s<s+1; omega,by show s+1<=_; omega⟩;by_cases x0:(ae:Int)<s
   ·exact al ae y x0 az
   ·have:ae=s.toNat:=by omega
    subst this;rw [List.getElem?_eq_getElem mD] at az;cases az; exact cT
  ·exact J.elim
  ·exact J
 ·rw [he s a_];refine au λy az=>?_;obtain ⟨ae,aa,rfl⟩:=List.mem_iff_getElem.1 az;exact al ae _ (by omega) (List.getElem?_eq_getElem aa)
end Tot
end Go.Own
namespace Go.Own
open Go
variable {α β S R:Type}
def Par (x:Option α) (Φ:α->Prop):Prop:=∀ a,x=some a->Φ a
set_option linter.unusedVariables false
namespace Par
variable {Φ Ψ:α->Prop}
theorem au {a:α}(h:Φ a):Par (some a) Φ:=λb e=>by cases e; exact h
theorem no:Par (none:Option α) Φ:=λb e=>by cases e
theorem use {x:Option α}(h:Par x Ψ) (hi:∀ a,Ψ a->Φ a):Par x Φ:=λa e=>hi a (h a e)
theorem aE {x:Option β}{f:β->Option α}{Ξ:β->Prop}(h:Par x Ξ) (hk:∀ a,Ξ a->Par (f a) Φ):Par (x.bind f) Φ:=λa e=>by
 cases x with
 | none=>cases e
 | some b=>exact hk b (h b rfl) a e
theorem go {x:Option β}{f:β->Option α}(hk:∀ a,x=some a->Par (f a) Φ):Par (x.bind f) Φ:=λa e=>by
 cases x with
 | none=>cases e
 | some b=>exact hk b rfl a e
theorem cg {c:Bool}{a b:Option α}(aJ:c=true->Par a Φ) (bn:c=false->Par b Φ):Par (cond c a b) Φ:=by
 cases c
 ·exact bn rfl
 ·exact aJ rfl
theorem bK {p:Prop} [Decidable p] {a b:Option α}(aJ:p->Par a Φ) (bn:¬ p->Par b Φ):Par (cond (decide p) a b) Φ :=
 cg (λh=>aJ (of_decide_eq_true h)) (λh=>bn (of_decide_eq_false h))
theorem nv {p:Prop} [Decidable p] {a b:Option α}(aJ:¬ p->Par a Φ) (bn:p->Par b Φ):Par (cond (!decide p) a b) Φ :=
 cg (λh=>aJ (of_decide_eq_false (by simpa using h))) (λh=>bn (of_decide_eq_true (by simpa using h)))
theorem ap {l m:List β}{f:List β->Option α}(hk:l.length+m.length<=lim->Par (f (l++m)) Φ):Par ((ez l m).bind f) Φ:=by
 unfold ez;split
 ·rename_i h; exact hk h
 ·exact no
theorem cat {s u:ByteArray}{f:ByteArray->Option α}(hk:Par (f (s++u)) Φ):Par ((sE s u).bind f) Φ:=by
 unfold sE;split
 ·exact hk
 ·exact no
theorem loop {f:S->Option (S ⊕ R)}{fr:S}{Ψ:R->Prop}(Inv:S->Prop) (bd:Inv fr) (aL:∀ s,Inv s->Par (f s) (hX Inv Ψ)):Par (cJ f fr) Ψ:=by
 have key:∀ n s,Inv s->Par (iter f n s) Ψ:=by
  intro n
  induction n with
  | zero=>intro s _ a e; cases e
  | succ n aS =>
   intro s bw a e;simp only [iter] at e;cases J:f s with
   | none=>rw [J] at e; cases e
   | some x =>
    have cT:=aL s bw x J;rw [J] at e;cases x with
    | inl eV=>exact aS eV cT a e
    | inr r=>cases e; exact cT
 exact key fuel fr bd
theorem jC {x:Option α}(h:Tot x Φ) (aR:Par x Ψ):Tot x λa=>Φ a/\Ψ a:=by
 obtain ⟨a,bf,nz⟩:=h;exact ⟨a,bf,nz,aR a bf⟩
theorem of {x:Option α}(h:Tot x Φ):Par x Φ:=λa e=>h.eq e
theorem scan {f:Int->Option (Int ⊕ (Unit ⊕ R))}(l:List β) (ao:l.length<=100000000000000000) (P:β->Prop) (Q:R->Prop)
  (aL:∀ (s:Int) (y:β),0<=s->s<l.length->idx l s=some y->y∈l->Par (f s) (hX (λeV=>eV=s+1/\P y) (hX (λ_=>False) Q)))
  (he:∀ s:Int,¬ s<l.length->f s=some (.inr (.inl ()))):Par (cJ f 0) (hX (λ_=>∀ y∈l,P y) Q):=by
 refine loop (λs=>0<=s/\s<=l.length/\∀ (ae:Nat) (y:β),(ae:Int)<s->l[ae]?=some y->P y) ⟨by omega,by omega,λae y h=>by omega⟩ λs bw=>?_;obtain ⟨bd,h1,al⟩:=bw;by_cases a_:s<l.length
 ·have mD:s.toNat<l.length:=by omega
  have hi:idx l s=some l[s.toNat]:=by simp [idx,bd,mD]
  refine (aL s _ bd a_ hi (List.getElem_mem mD)).use λx J=>?_;rcases x with eV | ⟨⟨⟩⟩ | r
  ·obtain ⟨rfl,cT⟩:=J;refine ⟨by omega,by omega,λae y aa az=>?_⟩;by_cases x0:(ae:Int)<s
   ·exact al ae y x0 az
   ·have:ae=s.toNat:=by omega
    subst this;rw [List.getElem?_eq_getElem mD] at az;cases az; exact cT
  ·exact J.elim
  ·exact J
 ·rw [he s a_];refine au λy az=>?_;obtain ⟨ae,aa,rfl⟩:=List.mem_iff_getElem.1 az;exact al ae _ (by omega) (List.getElem?_eq_getElem aa)
end Par
end Go.Own
namespace Go.Own
open Go
variable {α β S R:Type}
namespace Tot
theorem upto {f:S->Option (S ⊕ R)}{fr:S}{Ψ:R->Prop}(i:S->Int) (n:Nat) (Inv:Nat->S->Prop) (hi:i fr=0) (aP:n<=100000000000000000) (bd:Inv 0 fr)
  (aL:∀ (k:Nat) (s:S),k<=n->i s=(k:Int)->Inv k s->Tot (f s) (hX (λeV=>k<n/\i eV=((k+1:Nat):Int)/\Inv (k+1) eV) Ψ)):Tot (cJ f fr) Ψ:=by
 refine count i n (λs=>∃ k:Nat,k<=n/\i s=(k:Int)/\Inv k s) ⟨0,Nat.zero_le _,hi,bd⟩ (by rw [hi]; omega) λs ⟨k,hk,he,bw⟩=>(aL k s hk he bw).use λx J=>?_;rcases x with eV | r
 ·obtain ⟨h1,al,aQ⟩:=J;exact ⟨⟨k+1,by omega,al,aQ⟩,by omega,by omega⟩
 ·exact J
end Tot
namespace Par
theorem upto {f:S->Option (S ⊕ R)}{fr:S}{Ψ:R->Prop}(i:S->Int) (n:Nat) (Inv:Nat->S->Prop) (hi:i fr=0) (bd:Inv 0 fr)
  (aL:∀ (k:Nat) (s:S),k<=n->i s=(k:Int)->Inv k s->Par (f s) (hX (λeV=>k<n/\i eV=((k+1:Nat):Int)/\Inv (k+1) eV) Ψ)):Par (cJ f fr) Ψ:=by
 refine loop (λs=>∃ k:Nat,k<=n/\i s=(k:Int)/\Inv k s) ⟨0,Nat.zero_le _,hi,bd⟩ λs ⟨k,hk,he,bw⟩=>(aL k s hk he bw).use λx J=>?_;rcases x with eV | r
 ·obtain ⟨h1,al,aQ⟩:=J;exact ⟨k+1,by omega,al,aQ⟩
 ·exact J
end Par
theorem eE (k:Nat) (h:k<=1000000000000000000):aO ((k:Int)+1)=((k+1:Nat):Int):=by rw [c8]; omega
end Go.Own
namespace Go.Own
open Go
variable {α β yY yZ S T R Q:Type}
def Rel (x:Option α) (y:Option β) (Φ:α->β->Prop):Prop:=∃ a b,x=some a/\y=some b/\Φ a b
abbrev LL (p:S->T->Prop) (q:R->Q->Prop):S ⊕ R->T ⊕ Q->Prop
 | .inl a,.inl b=>p a b
 | .inr a,.inr b=>q a b
 | _,_=>False
namespace Rel
variable {Φ Ψ:α->β->Prop}
theorem au {a:α}{b:β}(h:Φ a b):Rel (some a) (some b) Φ:=⟨a,b,rfl,rfl,h⟩
theorem use {x:Option α}{y:Option β}(h:Rel x y Ψ) (hi:∀ a b,Ψ a b->Φ a b):Rel x y Φ:=by
 obtain ⟨a,b,bf,aK,Hd⟩:=h;exact ⟨a,b,bf,aK,hi a b Hd⟩
theorem aE {x:Option yY}{y:Option yZ}{f:yY->Option α}{g:yZ->Option β}{Ξ:yY->yZ->Prop}(h:Rel x y Ξ) (hk:∀ a b,Ξ a b->Rel (f a) (g b) Φ):Rel (x.bind f) (y.bind g) Φ:=by
 obtain ⟨a,b,rfl,rfl,AB⟩:=h;exact hk a b AB
theorem l {x:Option yY}{y:Option β}{f:yY->Option α}{Ξ:yY->Prop}(h:Tot x Ξ) (hk:∀ a,Ξ a->Rel (f a) y Φ):Rel (x.bind f) y Φ:=by
 obtain ⟨a,rfl,AB⟩:=h;exact hk a AB
theorem r {x:Option α}{y:Option yZ}{g:yZ->Option β}{Ξ:yZ->Prop}(h:Tot y Ξ) (hk:∀ a,Ξ a->Rel x (g a) Φ):Rel x (y.bind g) Φ:=by
 obtain ⟨a,rfl,AB⟩:=h;exact hk a AB
theorem cg {c d:Bool}{a b:Option α}{cF iQ:Option β}(ab:c=d) (aJ:c=true->Rel a cF Φ) (bn:c=false->Rel b iQ Φ):Rel (cond c a b) (cond d cF iQ) Φ:=by
 subst ab;cases c
 ·exact bn rfl
 ·exact aJ rfl
theorem cl {c:Bool}{a b:Option α}{y:Option β}(aJ:c=true->Rel a y Φ) (bn:c=false->Rel b y Φ):Rel (cond c a b) y Φ:=by
 cases c
 ·exact bn rfl
 ·exact aJ rfl
theorem jC {x:Option α}{y:Option β}{P:α->Prop}{Q:β->Prop}(h:Tot x P) (aR:Tot y Q) (hi:∀ a b,P a->Q b->Φ a b):Rel x y Φ:=by
 obtain ⟨a,bf,cT⟩:=h;obtain ⟨b,aK,dY⟩:=aR;exact ⟨a,b,bf,aK,hi a b cT dY⟩
theorem loop {f:S->Option (S ⊕ R)}{g:T->Option (T ⊕ Q)}{fr:S}{t0:T}{Ψ:R->Q->Prop}(Inv:S->T->Prop) (tB:S->Nat) (bd:Inv fr t0) (He:tB fr<fuel)
  (aL:∀ s t,Inv s t->Rel (f s) (g t) (LL (λeV t'=>Inv eV t'/\tB eV<tB s) Ψ)):Rel (cJ f fr) (cJ g t0) Ψ:=by
 have key:∀ n s t,Inv s t->tB s<n->Rel (iter f n s) (iter g n t) Ψ:=by
  intro n
  induction n with
  | zero=>intro s t _ h; omega
  | succ n aS =>
   intro s t bw hm;obtain ⟨x,y,J,az,cT⟩:=aL s t bw;rcases x with eV | r <;> rcases y with t' | q
   ·obtain ⟨h1,al⟩:=cT;simp only [iter,J,az];exact aS eV t' h1 (by omega)
   ·exact cT.elim
   ·exact cT.elim
   ·simp only [iter,J,az];exact ⟨r,q,rfl,rfl,cT⟩
 exact key fuel fr t0 bd He
theorem upto {f:S->Option (S ⊕ R)}{g:T->Option (T ⊕ Q)}{fr:S}{t0:T}{Ψ:R->Q->Prop}(i:S->Int) (n:Nat) (Inv:Nat->S->T->Prop) (hi:i fr=0) (aP:n<=100000000000000000) (bd:Inv 0 fr t0)
  (aL:∀ (k:Nat) (s:S) (t:T),k<=n->i s=(k:Int)->Inv k s t->Rel (f s) (g t) (LL (λeV t'=>k<n/\i eV=((k+1:Nat):Int)/\Inv (k+1) eV t') Ψ)):Rel (cJ f fr) (cJ g t0) Ψ:=by
 refine loop (λs t=>∃ k:Nat,k<=n/\i s=(k:Int)/\Inv k s t) (λs=>(n - (i s).toNat)) ⟨0,Nat.zero_le _,hi,bd⟩ (by rw [hi]; show n - 0<1000000000000000000; omega) λs t ⟨k,hk,he,bw⟩=>(aL k s t hk he bw).use λx y Dj=>?_;rcases x with eV | r <;> rcases y with t' | q
 ·obtain ⟨h1,al,aQ⟩:=Dj;refine ⟨⟨k+1,by omega,al,aQ⟩,?_⟩;show n - (i eV).toNat<n - (i s).toNat;rw [al,he]; omega
 ·exact Dj
 ·exact Dj
 ·exact Dj
end Rel
end Go.Own

namespace Go.Proofs
open Go Go.Own
set_option maxRecDepth 100000
set_option linter.unusedVariables false
theorem t121 (c:Int):Tot (A7 c) λ_=>True:=by
 unfold A7
 repeat' first | apply Tot.bi | refine Tot.cg (λ_=>?_) (λ_=>?_) | exact Tot.au trivial | apply Tot.au
theorem t122 (c:Int):Tot (A8 c) λ_=>True:=by
 unfold A8
 repeat' first | apply Tot.bi | refine Tot.cg (λ_=>?_) (λ_=>?_) | exact Tot.au trivial | apply Tot.au
theorem t120 (c:Int):Tot (A6 c) λ_=>True:=by
 unfold A6
 repeat' first | apply Tot.bi | refine Tot.cg (λ_=>?_) (λ_=>?_) | exact Tot.au trivial | apply Tot.au
theorem t118 (x:Sym):Tot (wE x) λr=>r=true->x.Name={ data:=#[] }/\x.Lit=false:=by
 unfold wE;apply Tot.bi;refine Tot.bK (λh=>Tot.cg (λal=>?_) (λal=>?_)) (λh=>?_) <;> apply Tot.au <;> apply Tot.au
 ·exact λ_=>⟨h,by simpa using al⟩
 ·exact λh=>by cases h
 ·exact λh=>by cases h
abbrev e9:Nat:=1000000000000
theorem t117 (s:ByteArray) (h:s.size<=e9):Tot (A5 s 0) λn=>0<=n/\n<=s.size:=by
 unfold A5;refine Tot.aE (Ξ:=λn=>0<=n/\n<=s.size) ?_ λa bf=>.au bf;refine Tot.count (λi=>i) s.size (λi=>0<=i/\i<=s.size) ⟨by omega,by omega⟩ (by show (s.size:Int) - 0<_; simp only [e9] at h; omega) λi ⟨bd,h1⟩=>?_;simp only [e9] at h;have e:aO (0+i)=i:=by rw [c8]; omega
 rw [e];have go:∀ c:Bool,(c=true->i<s.size)->Tot (bif c then some (.inl (aO (i+1))) else some (.inr i)) (hX (λeV:Int=>(0<=eV/\eV<=s.size)/\i<eV/\eV<=s.size) (λr:Int=>0<=r/\r<=s.size)):=by
  intro c ab;refine Tot.cg (λal=>.au ?_) (λ_=>.au ⟨bd,h1⟩);have:=ab al;have e:aO (i+1)=i+1:=by rw [c8]; omega
  show (0<=aO (i+1)/\aO (i+1)<=s.size)/\i<aO (i+1)/\aO (i+1)<=s.size;rw [e]; omega
 apply Tot.bi;refine Tot.bK (λal=>?_) (λal=>.au (go false (by simp)));apply Tot.bi;refine Tot.nu ⟨bd,al⟩ (Tot.aE (t121 _) λc _=>?_);refine Tot.cg (λ_=>.au (go _ λ_=>al)) (λ_=>Tot.cg (λ_=>?_) (λ_=>.au (go _ λ_=>al)));apply Tot.bi;refine Tot.nu ⟨bd,al⟩ (Tot.aE (t122 _) λc _=>?_);refine Tot.cg (λ_=>.au (go _ λ_=>al)) (λ_=>?_);apply Tot.bi;exact Tot.nu ⟨bd,al⟩ (.au (go _ λ_=>al))
theorem t111 (s:ByteArray) (h:s.size<=e9):Tot (uM s) λr=>r=true->1<=s.size/\s.size<=20:=by
 unfold uM;apply Tot.bi;refine Tot.bK (λh1=>Tot.bK (λal=>?_) (λal=>?_)) (λh1=>?_)
 ·exact .aE (t117 s h) λn aP=>.au (.au λ_=>by omega)
 ·exact .au (.au λh=>by cases h)
 ·exact .au (.au λh=>by cases h)
theorem t124 (s:ByteArray) (i:Int) (t:ByteArray) (h:s.size<=e9) (bd:0<=i) (h1:i<=4 * e9) (aJ:t.size<=e9):Tot (wF s i t) λr=>r=true->i+t.size<=s.size:=by
 unfold wF;simp only [e9] at *;apply Tot.bi;refine Tot.bK (λal=>?_) (λal=>.au (.au λh=>by cases h));apply Tot.bi;rw [c8] at al;have e:aO (i+t.size)=i+t.size:=by rw [c8]; omega
 refine Tot.cut (by rw [e]; omega) (.au (.au λ_=>by omega))
theorem t123 (s:ByteArray) (i:Int) (h:s.size<=e9) (bd:0<=i) (h1:i<s.size):Tot (A9 s i) λr=>r<=s.size:=by
 unfold A9;have aK:(s.size:Int)<=1000000000000:=by simp only [e9] at h; omega
 have dg:aO (i+1)=i+1:=by rw [c8]; omega
 have c5:aO (i+2)=i+2:=by rw [c8]; omega
 rw [dg,c5];have vN:=Tot.nu (Φ:=λ_=>True) (s:=s) (m:=i) ⟨bd,h1⟩ trivial;refine Tot.aE (Ξ:=λ_=>True) ?_ λc _=>Tot.cg (λ_=>?_) (λ_=>?_)
 ·refine Tot.aE vN λ_ _=>Tot.cg (λ_=>.au trivial) (λ_=>Tot.aE vN λ_ _=>.au trivial)
 ·refine Tot.aE (Ξ:=hX (λ_=>True) (λr=>r<=s.size)) ?_ λx J=>?_
  ·refine Tot.count (λae=>ae) (s.size+1) (λae=>0<=ae) (by show (0:Int)<=i+1; omega) (by show (s.size:Int)+1 - (i+1)<_; omega) λae aa=>?_;refine Tot.aE (Ξ:=λc=>c=true->ae<s.size) ?_ λc ab=>Tot.cg (λal=>?_) (λ_=>.au trivial)
   ·refine Tot.bK (λal=>?_) (λ_=>.au λh=>by cases h);exact .aE (Ξ:=λ_=>True) (Tot.nu ⟨aa,al⟩ trivial) λ_ _=>.au λ_=>al
   ·have SD:=ab al;have CW:=Tot.nu (Φ:=λ_=>True) (s:=s) (m:=ae) ⟨aa,SD⟩ trivial;have jo:aO (ae+1)=ae+1:=by rw [c8]; omega
    have pa:aO (ae+1+1)=ae+1+1:=by rw [c8]; omega
    rw [jo,pa];refine .aE CW λ_ _=>.aE vN λ_ _=>Tot.cg (λ_=>.au ?_) (λ_=>.aE CW λ_ _=>Tot.cg (λ_=>?_) (λ_=>.au ?_))
    ·show ae+1<=s.size; omega
    ·refine Tot.aE (Ξ:=λ_=>True) ?_ λc _=>Tot.cg (λ_=>.au ?_) (λ_=>.au ?_)
     ·refine Tot.bK (λaQ=>?_) (λ_=>.au trivial);exact .aE (Ξ:=λ_=>True) (Tot.nu ⟨by omega,aQ⟩ trivial) λ_ _=>.au trivial
     ·show (-1:Int)<=s.size; omega
     ·show (0:Int)<=ae+1+1/\ae<ae+1+1/\ae+1+1<=s.size+1; omega
    ·show (0:Int)<=ae+1/\ae<ae+1/\ae+1<=s.size+1; omega
  ·rcases x with _ | r
   ·exact .au (by show (-1:Int)<=s.size; omega)
   ·exact .au J
 ·refine .aE vN λ_ _=>Tot.cg (λ_=>?_) (λ_=>?_)
  ·refine Tot.aE (Ξ:=hX (λ_=>True) (λr=>r<=s.size)) ?_ λx J=>?_
   ·refine Tot.count (λae=>ae) (s.size+1) (λae=>0<=ae) (by show (0:Int)<=i+1; omega) (by show (s.size:Int)+1 - (i+1)<_; omega) λae aa=>?_;refine Tot.bK (λal=>?_) (λ_=>.au trivial);have jo:aO (ae+1)=ae+1:=by rw [c8]; omega
    rw [jo];refine .aE (Ξ:=λ_=>True) (Tot.nu ⟨aa,al⟩ trivial) λ_ _=>Tot.cg (λ_=>.au ?_) (λ_=>.au ?_)
    ·show ae+1<=s.size; omega
    ·show (0:Int)<=ae+1/\ae<ae+1/\ae+1<=s.size+1; omega
   ·rcases x with _ | r
    ·exact .au (by show (-1:Int)<=s.size; omega)
    ·exact .au J
  ·refine .aE (t124 s i _ h bd (by simp only [e9]; omega) (by decide)) λc _=>Tot.cg (λ_=>?_) (λ_=>?_)
   ·refine Tot.aE (Ξ:=λr=>r<=s.size) ?_ λx J=>.au J;refine Tot.count (λae=>ae) s.size (λae=>0<=ae/\ae<=s.size) ⟨bd,by omega⟩ (by show (s.size:Int) - i<_; omega) λae aa=>?_;refine Tot.aE (Ξ:=λc=>c=true->ae<s.size) ?_ λc ab=>Tot.cg (λal=>?_) (λ_=>.au aa.2)
    ·refine Tot.bK (λal=>?_) (λ_=>.au λh=>by cases h);exact .aE (Ξ:=λ_=>True) (Tot.nu ⟨aa.1,al⟩ trivial) λ_ _=>.au λ_=>al
    ·have:=ab al;have jo:aO (ae+1)=ae+1:=by rw [c8]; omega
     rw [jo];exact .au (by show ((0:Int)<=ae+1/\ae+1<=s.size)/\ae<ae+1/\ae+1<=s.size; omega)
   ·refine .aE (t124 s i _ h bd (by simp only [e9]; omega) (by decide)) λc ab=>Tot.cg (λk1=>?_) (λ_=>.au (by omega));refine Tot.aE (Ξ:=hX (λ_=>True) (λr=>r<=s.size)) ?_ λx J=>?_
    ·refine Tot.count (λae=>ae) (s.size+1) (λae=>0<=ae) (by show (0:Int)<=i+2; omega) (by show (s.size:Int)+1 - (i+2)<_; omega) λae aa=>?_;refine Tot.bK (λal=>?_) (λ_=>.au trivial);have jo:aO (ae+1)=ae+1:=by rw [c8]; omega
     have pa:aO (ae+2)=ae+2:=by rw [c8]; omega
     rw [jo,pa];refine .aE (t124 s ae _ h aa (by simp only [e9]; omega) (by decide)) λc ab=>Tot.cg (λsV=>.au ?_) (λ_=>.au ?_)
     ·have:=ab sV;have pb:({ data:=#[42,47] }:ByteArray).size=2:=rfl;rw [pb] at this;show ae+2<=s.size; omega
     ·show (0:Int)<=ae+1/\ae<ae+1/\ae+1<=s.size+1; omega
    ·rcases x with _ | r
     ·exact .au (by show (-1:Int)<=s.size; omega)
     ·exact .au J
theorem t119 (s:ByteArray) (h:s.size<=e9):Tot (yz s 0) λ_=>True:=by
 unfold yz;have aK:(s.size:Int)<=1000000000000:=by simp only [e9] at h; omega
 refine Tot.aE (Ξ:=λ_=>True) ?_ λc _=>Tot.cg (λ_=>.au trivial) (λ_=>?_)
 ·refine Tot.bK (λh=>.au trivial) (λbd=>Tot.bK (λh=>.au trivial) (λal=>?_));exact .aE (Ξ:=λ_=>True) (Tot.nu (by omega) trivial) λ_ _=>.au trivial
 ·refine Tot.aE (Ξ:=λ_=>True) ?_ λx _=>by rcases x with _ | r <;> exact .au trivial
  refine Tot.count (λae=>ae.2) s.size (λae=>0<=ae.2/\ae.2<=s.size) ⟨by show (0:Int)<=0; omega,by show (0:Int)<=s.size; omega⟩ (by show (s.size:Int) - 0<_; omega) λae aa=>?_;refine Tot.bK (λal=>?_) (λ_=>.au trivial);refine .aE (t123 s ae.2 h aa.1 al) λn aP=>Tot.bK (λ_=>.au trivial) (λaQ=>Tot.bK (λbW=>.au ?_) (λbW=>?_))
  ·show ((0:Int)<=n/\n<=s.size)/\ae.2<n/\n<=s.size; omega
  ·have vN:=Tot.nu (Φ:=λ_=>True) (s:=s) (m:=ae.2) ⟨aa.1,al⟩ trivial;have jo:aO (ae.2+1)=ae.2+1:=by rw [c8]; omega
   rw [jo];refine .aE vN λ_ _=>.aE (Ξ:=λ_=>True) (Tot.cg (λ_=>.au trivial) (λ_=>.au trivial)) λ_ _=>.aE vN λ_ _=>.aE (Ξ:=λ_=>True) (Tot.cg (λ_=>.au trivial) (λ_=>.au trivial)) λ_ _=>Tot.cg (λ_=>.au trivial) (λ_=>.au ?_);show ((0:Int)<=ae.2+1/\ae.2+1<=s.size)/\ae.2<ae.2+1/\ae.2+1<=s.size; omega
def lC (x:Sym):Prop:=x.Lit=true->x.Name.size=1
structure I4 (d:Decl):Prop where
 tag:d.Tag.size<=e9
 n:d.fg.length<=1000
 syms:∀ x∈d.fg,x.Name.size<=e9
structure y1 (a:Alt):Prop where
 n:a.jJ.length<=1000
 parts:∀ p∈a.jJ,p.Sym.Name.size<=e9/\p.Code.size<=e9
 prec:a.Prec.Name.size<=e9
structure Ot (r:ga):Prop where
 left:r.Left.size<=e9
 n:r.fR.length<=1000
 alts:∀ a∈r.fR,y1 a
structure qK (s:Source):Prop where
 UX:s.bB.size<=e9
 Cx:s.Decls.length<=1000
 decls:∀ d∈s.Decls,I4 d
 aH:s.ei.length<=1000
 rules:∀ r∈s.ei,Ot r
theorem t116 (x:Sym) (a b:Bool) (h:x.Name.size<=e9):Tot (wD x a b) λr=>r=true->lC x:=by
 unfold wD;refine Tot.cg (λao=>?_) (λao=>?_)
 ·refine Tot.aE (Ξ:=λc=>c=false->x.Name.size=1) ?_ λc ab=>Tot.cg (λ_=>.au λh=>by cases h) (λal=>?_)
  ·refine Tot.cg (λ_=>.au λh=>by cases h) (λ_=>Tot.nv (λ_=>.au λh=>by cases h) (λh1=>.au λ_=>by omega))
  ·have h1:=ab al;refine .aE (Ξ:=λ_=>True) (Tot.nu (by omega) trivial) λ_ _=>.aE (t120 _) λ_ _=>.au λ_ _=>h1
 ·have eo:lC x:=λh=>by rw [ao] at h; cases h
  refine Tot.aE (Ξ:=λ_=>True) ?_ λc ab=>.au λ_=>eo;refine .aE (t111 _ h) λc _=>?_
  repeat' first | refine Tot.cg (λ_=>?_) (λ_=>?_) | exact Tot.au trivial
theorem t110 (d:Decl) (h:I4 d):Tot (wC d) λr=>r=true->∀ x∈d.fg,lC x:=by
 unfold wC;refine Tot.aE (Ξ:=λ_=>True) ?_ λc _=>Tot.cg (λ_=>.au λh=>by cases h) (λ_=>?_)
 ·have aJ:=(t111 _ h.tag).use (Φ:=λ_=>True) λ_ _=>trivial
  repeat' first | refine Tot.cg (λ_=>?_) (λ_=>?_) | exact Tot.au trivial | refine .aE aJ λ_ _=>?_
 ·refine Tot.aE (Tot.scan d.fg (λx=>lC x) (λr=>r=false) (by have:=h.n; omega) (λs y bd h1 hi hm=>?_) (λs aL=>by simp [aL])) λx J=>?_
  ·refine Tot.bK (λ_=>?_) (λh=>absurd h1 h);rw [hi];refine Tot.ax ?_;refine .aE (t116 _ _ _ (h.syms _ hm)) λc ab=>Tot.cg (λ_=>.au rfl) (λal=>.au ⟨?_,ab (by simpa using al)⟩);have:=h.n;rw [c8]; omega
  ·rcases x with _ | r
   ·exact .au λ_=>J
   ·exact .au λh=>by have:r=false:=J; rw [this] at h; cases h
theorem t112 (a:Alt) (h:y1 a):Tot (A4 a) λr=>r=true->(∀ p∈a.jJ,lC p.Sym)/\lC a.Prec:=by
 unfold A4;refine Tot.aE (Tot.scan a.jJ (λp=>lC p.Sym) (λr=>r=false) (by have:=h.n; omega) (λs y bd h1 hi hm=>?_) (λs aL=>by simp [aL])) λx J=>?_
 ·refine Tot.bK (λ_=>?_) (λh=>absurd h1 h);rw [hi];refine Tot.ax ?_;have aG:=h.parts _ hm;have t1:=t116 y.Sym false true aG.1;have t2:=t118 y.Sym;have NS:=t119 y.Code aG.2;have hw:aO (s+1)=s+1:=by have:=h.n; rw [c8]; omega
  rw [hw];have n118:(y.Sym.Name={ data:=#[] }/\y.Sym.Lit=false)->lC y.Sym:=λh ao=>by rw [h.2] at ao; cases ao
  refine Tot.aE (Ξ:=λc=>c=false->lC y.Sym) ?_ λc ab=>Tot.cg (λ_=>.au rfl) (λal=>.au ⟨rfl,ab al⟩);refine Tot.bK (λ_=>?_) (λek=>?_)
  ·refine .aE t1 λc ab=>Tot.cg (λ_=>.au λh=>by cases h) (λal=>?_);have eo:=ab (by simpa using al);refine Tot.cg (λ_=>?_) (λ_=>.au λ_=>eo);refine .aE t2 λc _=>Tot.cg (λ_=>.au λ_=>eo) (λ_=>?_);exact .aE NS λ_ _=>.au λ_=>eo
  ·refine Tot.nv (λ_=>?_) (λh=>.au λ_=>?_)
   ·refine .aE t2 λc ab=>Tot.cg (λ_=>.au λh=>by cases h) (λal=>?_);have eo:=n118 (ab (by simpa using al));exact .aE NS λ_ _=>.au λ_=>eo
   ·exact absurd h ek
 ·rcases x with _ | r
  ·have J:∀ p∈a.jJ,lC p.Sym:=J;refine Tot.aE (Ξ:=λc=>c=true->lC a.Prec) ?_ λc ab=>.au λh=>⟨J,ab h⟩;refine .aE (t118 _) λc ab=>Tot.cg (λal=>.au λ_=>?_) (λ_=>.aE (t116 _ _ _ h.prec) λc ab=>.au ab);intro ao; rw [(ab al).2] at ao; cases ao
  ·exact .au λh=>by have:r=false:=J; rw [this] at h; cases h
structure BP (a:Alt):Prop where
 parts:∀ p∈a.jJ,lC p.Sym
 prec:lC a.Prec
structure Jc (s:Source):Prop where
 decls:∀ d∈s.Decls,∀ x∈d.fg,lC x
 rules:∀ r∈s.ei,∀ a∈r.fR,BP a
 pos:0<s.ei.length
theorem t92 (s:Source) (h:qK s):Tot (wP s) λr=>r=true->Jc s:=by
 unfold wP;refine Tot.aE (Ξ:=hX (λ_=>True) (λr=>r=false)) ?_ λx J=>?_
 ·have aG:(s.bB.size:Int)<=1000000000000:=by have:=h.UX; simp only [e9] at this; omega
  refine Tot.count (λae=>ae) s.bB.size (λae=>0<=ae/\ae<=s.bB.size) ⟨by omega,by omega⟩ (by show (s.bB.size:Int) - 0<_; omega) λae aa=>?_;have dg:aO (ae+1)=ae+1:=by rw [c8]; omega
  have c5:aO (ae+2)=ae+2:=by rw [c8]; omega
  rw [dg,c5];refine Tot.bK (λal=>?_) (λ_=>.au trivial);refine .aE (Ξ:=λ_=>True) (Tot.cut (by omega) trivial) λ_ _=>Tot.cg (λ_=>.au rfl) (λ_=>.au ?_);show ((0:Int)<=ae+1/\ae+1<=s.bB.size)/\ae<ae+1/\ae+1<=s.bB.size; omega
 ·rcases x with _ | r
  ·refine Tot.aE (Tot.scan s.Decls (λd=>∀ x∈d.fg,lC x) (λr=>r=false) (by have:=h.Cx; omega) (λi y bd h1 hi hm=>?_) (λs aL=>by simp [aL])) λx J=>?_
   ·refine Tot.bK (λ_=>?_) (λh=>absurd h1 h);rw [hi];refine Tot.ax ?_;refine .aE (t110 _ (h.decls _ hm)) λc ab=>Tot.cg (λ_=>.au rfl) (λal=>.au ⟨?_,ab (by simpa using al)⟩);have:=h.Cx;rw [c8]; omega
   ·rcases x with _ | r
    ·have J:∀ d∈s.Decls,∀ x∈d.fg,lC x:=J;refine Tot.aE (Tot.scan s.ei (λr=>∀ a∈r.fR,BP a) (λr=>r=false) (by have:=h.aH; omega) (λi y bd h1 hi hm=>?_) (λs aL=>by simp [aL])) λx hD=>?_
     ·refine Tot.bK (λ_=>?_) (λh=>absurd h1 h);rw [hi];refine Tot.ax ?_;have aw:=h.rules _ hm;have hw:aO (i+1)=i+1:=by have:=h.aH; rw [c8]; omega
      rw [hw];refine .aE (Ξ:=λ_=>True) (.aE (t111 _ aw.left) λc _=>Tot.cg (λ_=>.au trivial) (λ_=>.au trivial)) λc _=>Tot.cg (λ_=>.au rfl) (λ_=>?_);refine Tot.aE (Tot.scan y.fR BP (λr=>r=false) (by have:=aw.n; omega) (λk a bd h1 hi hm=>?_) (λs aL=>by simp [aL])) λx hE=>?_
      ·refine Tot.bK (λ_=>?_) (λh=>absurd h1 h);rw [hi];refine Tot.ax ?_;refine .aE (t112 _ (aw.alts _ hm)) λc ab=>Tot.cg (λ_=>.au rfl) (λal=>.au ⟨?_,⟨(ab (by simpa using al)).1,(ab (by simpa using al)).2⟩⟩);have:=aw.n;rw [c8]; omega
      ·rcases x with _ | r
       ·exact .au ⟨rfl,hE⟩
       ·exact .au hE
     ·rcases x with _ | r
      ·exact .au λh=>⟨J,hD,by have:=of_decide_eq_true h; omega⟩
      ·exact .au λh=>by have:r=false:=hD; rw [this] at h; cases h
    ·exact .au λh=>by have:r=false:=J; rw [this] at h; cases h
  ·exact .au λh=>by have:r=false:=J; rw [this] at h; cases h
abbrev fQ:=cR
structure qJ (m bS:fQ):Prop where
 g:bS.aq=m.aq
 h7:bS.b4=m.b4
 ty:bS.b2=m.b2
 fX:bS.bG=m.bG
 gQ:bS.b0=m.b0
 hx:bS.bD=m.bD
theorem t94 (m:fQ) (a:Int) (n:ByteArray):Tot (np m a n) λbS=>qJ m bS/\bS.b7≠0:=by
 unfold np;apply Tot.bi;refine Tot.bK (λ_=>.au (.au ⟨⟨rfl,rfl,rfl,rfl,rfl,rfl⟩,?_⟩)) (λh=>.au (.au ⟨⟨rfl,rfl,rfl,rfl,rfl,rfl⟩,h⟩));show (3:Int)≠0; decide
theorem t98 (m:fQ) (n:ByteArray) (h:m.b2.length<=e9):Tot (yJ m n) λr=>r=-1\/(0<=r/\r<m.b2.length):=by
 unfold yJ;simp only [e9] at h;refine Tot.aE (Tot.scan m.b2 (λ_=>True) (λr:Int=>0<=r/\r<m.b2.length) (by omega) (λs y bd h1 hi hm=>?_) (λs aL=>by simp [aL])) λx J=>?_
 ·refine Tot.bK (λ_=>?_) (λh=>absurd h1 h);rw [hi];refine Tot.ax ?_;refine Tot.cg (λ_=>.au ⟨bd,h1⟩) (λ_=>.au ⟨?_,trivial⟩);rw [c8]; omega
 ·rcases x with _ | r
  ·exact .au (.inl rfl)
  ·exact .au (.inr J)
theorem t96 (m:fQ) (n:ByteArray) (h:m.bG.length<=e9):Tot (qs m n) λr=>(r=-1/\∀ x∈m.bG,x≠n)\/(0<=r/\r<m.bG.length/\m.bG[r.toNat]?=some n):=by
 unfold qs;simp only [e9] at h;refine Tot.aE (Tot.scan m.bG (λx=>x≠n) (λr:Int=>0<=r/\r<m.bG.length/\m.bG[r.toNat]?=some n) (by omega) (λs y bd h1 hi hm=>?_) (λs aL=>by simp [aL])) λx J=>?_
 ·refine Tot.bK (λ_=>?_) (λh=>absurd h1 h);rw [hi];refine Tot.ax ?_;refine Tot.bK (λe=>.au ⟨bd,h1,by rw [<- e]; exact (qk hi).2.2⟩) (λe=>.au ⟨?_,e⟩);rw [c8]; omega
 ·rcases x with _ | r
  ·exact .au (.inl ⟨rfl,J⟩)
  ·exact .au (.inr J)
theorem t95 (m:fQ) (x:Sym) (h:m.aq.a6.length<=e9):Tot (tc m x) λr=>r=-1\/(1<=r/\r<m.aq.a6.length):=by
 unfold tc;simp only [e9] at h;refine Tot.aE (Ξ:=hX (λ_=>True) (λr=>1<=r/\r<m.aq.a6.length)) ?_ λx J=>?_
 ·refine Tot.count (λae=>ae) m.aq.a6.length (λae=>1<=ae) (by omega) (by show (m.aq.a6.length:Int) - 1<_; omega) λae aa=>?_;refine Tot.bK (λal=>?_) (λ_=>.au trivial);have e:aO (ae+1)=ae+1:=by rw [c8]; omega
  rw [e];refine .aE (Ξ:=λ_=>True) ?_ λc _=>Tot.cg (λ_=>.au ⟨aa,al⟩) (λ_=>.au ?_)
  ·refine .aE (Ξ:=λ_=>True) (Tot.hK (by omega) al λ_ _ _=>trivial) λ_ _=>Tot.cg (λ_=>?_) (λ_=>.au trivial);exact .aE (Ξ:=λ_=>True) (Tot.hK (by omega) al λ_ _ _=>trivial) λ_ _=>Tot.cg (λ_=>.au trivial) (λ_=>.au trivial)
  ·show (1:Int)<=ae+1/\ae<ae+1/\ae+1<=m.aq.a6.length; omega
 ·rcases x with _ | r
  ·exact .au (.inl rfl)
  ·exact .au (.inr J)
theorem t114 (m:fQ) (n:Int) (h:m.aq.a6.length<=e9):Tot (yy m n) λ_=>True:=by
 unfold yy;simp only [e9] at h;refine Tot.aE (Ξ:=λ_=>True) ?_ λx J=>?_
 ·refine Tot.count (λae=>ae) m.aq.a6.length (λae=>1<=ae) (by decide) (by show (m.aq.a6.length:Int) - 3<_; omega) λae aa=>?_;refine Tot.bK (λal=>?_) (λ_=>.au trivial);have e:aO (ae+1)=ae+1:=by rw [c8]; omega
  rw [e];refine .aE (Ξ:=λ_=>True) (Tot.hK (by omega) al λ_ _ _=>trivial) λc _=>Tot.cg (λ_=>.au trivial) (λ_=>.au ?_);show (1:Int)<=ae+1/\ae<ae+1/\ae+1<=m.aq.a6.length; omega
 ·rcases x with _ | r <;> exact .au trivial
structure Grow (m bS:fQ) (k:Nat):Prop where
 h7:bS.b4.length=bS.aq.a6.length
 lo:m.aq.a6.length<=bS.aq.a6.length
 hi:bS.aq.a6.length<=m.aq.a6.length+k
 ty:bS.b2.length<=m.b2.length+k
 fX:bS.bG=m.bG
 hy:bS.aq.aX=m.aq.aX
 hx:bS.bD=m.bD
 lvl:bS.b0=m.b0
 gQ:0<=m.b0->(∀ t∈m.aq.a6,0<=t.Level)->∀ t∈bS.aq.a6,0<=t.Level
theorem qJ.grow {m bS:fQ}(h:qJ m bS) (ba:m.b4.length=m.aq.a6.length) (k:Nat):Grow m bS k:=by
 obtain ⟨h1,al,aQ,bW,da,eb⟩:=h;exact ⟨by rw [h1,al]; exact ba,by rw [h1]; omega,by rw [h1]; omega,by rw [aQ]; omega,bW,by rw [h1],eb,da,by rw [h1]; exact λ_ h=>h⟩
theorem t113 (m:fQ) (x:Sym) (ba:m.b4.length=m.aq.a6.length) (h:m.aq.a6.length<=100000000000) (J:lC x) :
  Tot (uN m x) λr=>Grow m r.2 1/\0<=r.1/\r.1<r.2.aq.a6.length:=by
 unfold uN;refine .aE (t95 m x (by simp only [e9]; omega)) λt aJ=>Tot.bK (λbd=>.au ⟨⟨ba,Nat.le_refl _,Nat.le_succ _,Nat.le_succ _,rfl,rfl,rfl,rfl,λ_ h=>h⟩,bd,?_⟩) (λ_=>?_)
 ·rcases aJ with rfl | aJ
  ·exact absurd bd (by decide)
  ·exact aJ.2
 ·refine Tot.aE (Ξ:=λae=>qJ m ae.1) ?_ λae aa=>?_
  ·refine Tot.cg (λao=>?_) (λ_=>.au ⟨rfl,rfl,rfl,rfl,rfl,rfl⟩);have:=J ao;refine .aE (Ξ:=λ_=>True) (Tot.nu (by omega) trivial) λb _=>.aE (t114 m _ (by simp only [e9]; omega)) λo _=>?_;refine Tot.aE (Ξ:=λae=>qJ m ae) ?_ λae aa=>.au aa;exact Tot.cg (λ_=>.aE (t94 m _ _) λbS hm=>.au hm.1) (λ_=>.au ⟨rfl,rfl,rfl,rfl,rfl,rfl⟩)
  ·obtain ⟨h1,al,aQ,bW,da,eb⟩:=aa;have a_:ae.1.aq.a6.length=m.aq.a6.length:=by rw [h1]
   have LJ:ae.1.b4.length=m.b4.length:=by rw [al]
   refine .aE (Ξ:=λ_=>True) (Tot.ap (by rw [a_]; simp [lim]; omega) trivial) λ_ _=>.aE (Ξ:=λ_=>True) (Tot.ap (by rw [LJ]; simp [lim]; omega) trivial) λ_ _=>.au ?_;refine ⟨⟨?_,?_,?_,?_,bW,by show ae.1.aq.aX=_; rw [h1],eb,da,?_⟩,?_,?_⟩
   ·show (ae.1.b4++[x.Lit]).length=(ae.1.aq.a6++[_]).length;simp [a_,LJ,ba]
   ·show _<=(ae.1.aq.a6++[_]).length;simp [a_]
   ·show (ae.1.aq.a6++[_]).length<=_;simp [a_]
   ·show ae.1.b2.length<=_;rw [aQ]; omega
   ·intro _ ao t aJ;rcases List.mem_append.1 aJ with aJ | aJ
    ·rw [h1] at aJ; exact ao t aJ
    ·rw [List.mem_singleton.1 aJ]; exact Int.le_refl 0
   ·show 0<=aO (((ae.1.aq.a6++[_]).length:Int) - 1);rw [c8]; simp [a_]; omega
   ·show aO (((ae.1.aq.a6++[_]).length:Int) - 1)<((ae.1.aq.a6++[_]).length:Int);rw [c8]; simp [a_]; omega
structure nt (m bS:fQ):Prop where
 tk:bS.aq.a6.length=m.aq.a6.length
 h7:bS.b4.length=m.b4.length
 ty:bS.b2=m.b2
 fX:bS.bG=m.bG
 hy:bS.aq.aX=m.aq.aX
 hx:bS.bD=m.bD
 lvl:bS.b0=m.b0
 gQ:0<=m.b0->(∀ t∈m.aq.a6,0<=t.Level)->∀ t∈bS.aq.a6,0<=t.Level
theorem nt.refl (m:fQ):nt m m:=⟨rfl,rfl,rfl,rfl,rfl,rfl,rfl,λ_ h=>h⟩
theorem nt.trans {m bS AQ:fQ}(h:nt m bS) (aR:nt bS AQ):nt m AQ:=⟨aR.tk.trans h.tk,aR.h7.trans h.h7,aR.ty.trans h.ty,aR.fX.trans h.fX,aR.hy.trans h.hy,aR.hx.trans h.hx,aR.lvl.trans h.lvl,λbd ao=>aR.gQ (by rw [h.lvl]; exact bd) (h.gQ bd ao)⟩
theorem qJ.tk {m bS:fQ}(h:qJ m bS):nt m bS:=⟨by rw [h.g],by rw [h.h7],h.ty,h.fX,by rw [h.g],h.hx,h.gQ,by rw [h.g]; exact λ_ h=>h⟩
theorem Grow.tk {m bS AQ:fQ}{k:Nat}(h:Grow m bS k) (aR:nt bS AQ):Grow m AQ k :=
 ⟨by rw [aR.h7,aR.tk]; exact h.h7,by rw [aR.tk]; exact h.lo,by rw [aR.tk]; exact h.hi,by rw [aR.ty]; exact h.ty,aR.fX.trans h.fX,aR.hy.trans h.hy,aR.hx.trans h.hx,aR.lvl.trans h.lvl,λbd ao=>aR.gQ (by rw [h.lvl]; exact bd) (h.gQ bd ao)⟩
theorem wq {α:Type}{l:List α}{i:Nat}{x y:α}(h:y∈l.set i x):y∈l\/y=x:=List.mem_or_eq_of_mem_set h
theorem t93 (m:fQ) (d:Decl) (x:Sym) (ba:m.b4.length=m.aq.a6.length) (h:m.aq.a6.length<=100000000000) (aJ:m.b2.length<=100000000000) (J:lC x) :
  Tot (wQ m d x) λbS=>Grow m bS 1:=by
 unfold wQ;refine Tot.cg (λ_=>?_) (λ_=>?_)
 ·refine .aE (t98 m x.Name (by simp only [e9]; omega)) λk hk=>Tot.aE (Ξ:=λbS=>Grow m bS 1) ?_ λbS hm=>.au hm;refine Tot.bK (λ_=>?_) (λbd=>?_)
  ·refine .aE (Ξ:=λ_=>True) (Tot.ap (by simp [lim]; omega) trivial) λ_ _=>.au ⟨ba,Nat.le_refl _,Nat.le_succ _,?_,rfl,rfl,rfl,rfl,λ_ h=>h⟩;show (m.b2++[_]).length<=_;simp
  ·refine .aE (Ξ:=λ_=>True) (Tot.hK (by omega) (by omega) λ_ _ _=>trivial) λ_ _=>Tot.aE (Ξ:=λbS=>Grow m bS 1) ?_ λbS hm=>.au hm;exact Tot.cg (λ_=>.aE (t94 m _ _) λbS hm=>.au (hm.1.grow ba 1)) (λ_=>.au ⟨ba,Nat.le_refl _,Nat.le_succ _,Nat.le_succ _,rfl,rfl,rfl,rfl,λ_ h=>h⟩)
 ·refine .aE (t113 m x ba h J) λr ⟨aw,bd,h1⟩=>?_;have hK:∀ {bS:fQ},nt r.2 bS->Tot (idx bS.aq.a6 r.1) λy=>y∈bS.aq.a6:=λhm=>Tot.hK bd (by rw [hm.tk]; exact h1) λ_ _ h=>h;have Mm:∀ {bS:fQ},nt r.2 bS->Tot (idx bS.b4 r.1) λ_=>True:=λhm=>Tot.hK bd (by rw [hm.h7,aw.h7]; exact h1) λ_ _ _=>trivial;refine .aE (hK (.refl _)) λy _=>?_;refine Tot.aE (Ξ:=λbS=>nt r.2 bS) ?_ λfa r0=>?_
  ·refine Tot.cg (λ_=>?_) (λ_=>.au (.refl _));refine Tot.aE (Ξ:=λbS=>nt r.2 bS) ?_ λdn ua=>?_
   ·exact Tot.cg (λ_=>.aE (t94 r.2 _ _) λbS hm=>.au ⟨rfl,hm.1.tk.h7,hm.1.tk.ty,hm.1.tk.fX,hm.1.tk.hy,hm.1.tk.hx,hm.1.tk.lvl,λ_ h=>h⟩) (λ_=>.au (.refl _))
   ·refine .aE (hK ua) λ_ _=>.au (ua.trans ⟨?_,rfl,rfl,rfl,rfl,rfl,rfl,λao aJ t ca=>?_⟩)
    ·show ((dn.aq.a6.set _ _).set _ _).length=_;simp
    ·rcases wq ca with ca | rfl
     ·rcases wq ca with ca | rfl
      ·exact aJ t ca
      ·exact ao
     ·exact ao
  ·refine .aE (hK r0) λ_ _=>?_;refine Tot.aE (Ξ:=λbS=>nt r.2 bS) ?_ λfH ub=>?_
   ·refine Tot.cg (λ_=>?_) (λ_=>.au r0);refine .aE (Ξ:=λ_=>True) ?_ λc _=>?_
    ·refine Tot.cg (λ_=>.au trivial) (λ_=>.aE (Mm r0) λ_ _=>Tot.cg (λ_=>.au trivial) (λ_=>.aE (t114 fa _ ?_) λ_ _=>.au trivial));have:=r0.tk; have:=aw.hi; simp only [e9]; omega
    ·refine Tot.aE (Ξ:=λbS=>nt r.2 bS) ?_ λej xT=>?_
     ·exact Tot.cg (λ_=>.aE (t94 fa _ _) λbS hm=>.au (r0.trans ⟨rfl,hm.1.tk.h7,hm.1.tk.ty,hm.1.tk.fX,hm.1.tk.hy,hm.1.tk.hx,hm.1.tk.lvl,λ_ h=>h⟩)) (λ_=>.au r0)
     ·refine .aE (hK xT) λy az=>.aE (Mm xT) λ_ _=>.au (xT.trans ⟨?_,?_,rfl,rfl,rfl,rfl,rfl,λao aJ t ca=>?_⟩)
      ·show (ej.aq.a6.set _ _).length=_; simp
      ·show (ej.b4.set _ _).length=_; simp
      ·rcases wq ca with ca | rfl
       ·exact aJ t ca
       ·exact (aJ y az:0<=y.Level)
   ·refine .aE (hK ub) λ_ _=>?_;refine Tot.aE (Ξ:=λbS=>nt r.2 bS) ?_ λoM K2=>.au (aw.tk K2);refine Tot.cg (λ_=>?_) (λ_=>.au ub);refine .aE (Ξ:=λ_=>True) (Tot.cg (λ_=>.au trivial) (λ_=>.au trivial)) λc _=>?_;refine Tot.aE (Ξ:=λbS=>nt r.2 bS) ?_ λgy zT=>?_
    ·exact Tot.cg (λ_=>.aE (t94 fH _ _) λbS hm=>.au (ub.trans ⟨rfl,hm.1.tk.h7,hm.1.tk.ty,hm.1.tk.fX,hm.1.tk.hy,hm.1.tk.hx,hm.1.tk.lvl,λ_ h=>h⟩)) (λ_=>.au ub)
    ·refine .aE (hK zT) λy az=>.au (zT.trans ⟨?_,rfl,rfl,rfl,rfl,rfl,rfl,λao aJ t ca=>?_⟩)
     ·show (gy.aq.a6.set _ _).length=_; simp
     ·rcases wq ca with ca | rfl
      ·exact aJ t ca
      ·exact (aJ y az:0<=y.Level)
def p1 (T:Nat) (N:Int) (s:Int):Prop:=(0<=s/\s<T)\/(1000<=s/\s<=1000+N)
theorem p1.mono {T T':Nat}{N iW s:Int}(h:p1 T N s) (fG:T<=T') (b5:N<=iW):p1 T' iW s:=by
 rcases h with h | h
 ·exact .inl (by omega)
 ·exact .inr (by omega)
theorem t115 (m:fQ) (x:Sym) (ba:m.b4.length=m.aq.a6.length) (aQ:3<=m.aq.a6.length) (h:m.aq.a6.length<=100000000000) (ao:m.bG.length<=100000000000) (J:lC x) :
  Tot (sc m x) λr=>Grow m r.2 1/\p1 r.2.aq.a6.length m.bG.length r.1:=by
 unfold sc;have q0:Grow m m 1:=⟨ba,Nat.le_refl _,Nat.le_succ _,Nat.le_succ _,rfl,rfl,rfl,rfl,λ_ h=>h⟩;refine Tot.cg (λ_=>?_) (λ_=>?_)
 ·exact .aE (t113 m x ba h J) λr ⟨aw,bd,h1⟩=>.au ⟨aw,.inl ⟨bd,h1⟩⟩
 ·refine .aE (t96 m x.Name (by simp only [e9]; omega)) λk hk=>Tot.bK (λbd=>.au ⟨q0,.inr ?_⟩) (λ_=>?_)
  ·show 1000<=aO (1001+k)/\aO (1001+k)<=1000+(m.bG.length:Int);rw [c8];rcases hk with hk | hk <;> omega
  ·refine .aE (t95 m x (by simp only [e9]; omega)) λt aJ=>Tot.bK (λ_=>?_) (λbd=>.au ⟨q0,.inl ?_⟩)
   ·refine .aE (t94 m _ _) λbS hm=>.au ⟨hm.1.grow ba 1,.inl ⟨Int.le_refl 0,?_⟩⟩;show (0:Int)<(bS.aq.a6.length:Int);rw [hm.1.g]; omega
   ·show 0<=t/\t<(m.aq.a6.length:Int);rcases aJ with aJ | aJ <;> omega
theorem VH (m:fQ) (x:Sym) (ba:m.b4.length=m.aq.a6.length) (aQ:3<=m.aq.a6.length) (h:m.aq.a6.length<=100000000000) (ao:m.bG.length<=100000000000) (J:lC x) (aJ:x.Lit=true\/∀ y∈m.bG,y≠x.Name) :
  Tot (sc m x) λr=>Grow m r.2 1/\0<=r.1/\r.1<r.2.aq.a6.length:=by
 unfold sc;have q0:Grow m m 1:=⟨ba,Nat.le_refl _,Nat.le_succ _,Nat.le_succ _,rfl,rfl,rfl,rfl,λ_ h=>h⟩;refine Tot.cg (λ_=>?_) (λSL=>?_)
 ·exact .aE (t113 m x ba h J) λr ⟨aw,bd,h1⟩=>.au ⟨aw,bd,h1⟩
 ·have aJ:∀ y∈m.bG,y≠x.Name:=aJ.resolve_left (by rw [SL]; decide);refine .aE (t96 m x.Name (by simp only [e9]; omega)) λk hk=>Tot.bK (λbd=>?_) (λ_=>?_)
  ·rcases hk with ⟨rfl,_⟩ | ⟨h1,al,aQ⟩
   ·exact absurd bd (by decide)
   ·exact absurd rfl (aJ _ (List.mem_of_getElem? aQ))
  ·refine .aE (t95 m x (by simp only [e9]; omega)) λt aJ=>Tot.bK (λ_=>?_) (λbd=>.au ⟨q0,?_⟩)
   ·refine .aE (t94 m _ _) λbS hm=>.au ⟨hm.1.grow ba 1,Int.le_refl 0,?_⟩;show (0:Int)<(bS.aq.a6.length:Int);rw [hm.1.g]; omega
   ·show 0<=t/\t<(m.aq.a6.length:Int);rcases aJ with aJ | aJ <;> omega
structure y8 (T:Nat) (N:Int) (p:Prod):Prop where
 left:0<=p.Left/\p.Left<=N
 right:∀ s∈p.fm,p1 T N s
 prec:-1<=p.Prec/\p.Prec<T
theorem y8.mono {T T':Nat}{N iW:Int}{p:Prod}(h:y8 T N p) (fG:T<=T') (b5:N<=iW):y8 T' iW p :=
 ⟨⟨h.left.1,by have:=h.left.2; omega⟩,λs aL=>(h.right s aL).mono fG b5,⟨h.prec.1,by have:=h.prec.2; omega⟩⟩
structure kQ (m:fQ) (T L I Q:Nat):Prop where
 h7:m.b4.length=m.aq.a6.length
 lo:3<=m.aq.a6.length
 hi:m.aq.a6.length<=T
 ty:m.b2.length<=T
 fX:m.bG.length=L
 hx:0<=m.bD/\m.bD<=I
 yK:m.aq.aX.length<=Q
 hy:∀ p∈m.aq.aX,y8 m.aq.a6.length (L+m.bD) p
 lvl:0<=m.b0
 gQ:∀ t∈m.aq.a6,0<=t.Level
theorem kQ.mono {m:fQ}{T L I Q T' I' Ja:Nat}(h:kQ m T L I Q) (fG:T<=T') (bw:I<=I') (dY:Q<=Ja):kQ m T' L I' Ja :=
 ⟨h.h7,h.lo,by have:=h.hi; omega,by have:=h.ty; omega,h.fX,⟨h.hx.1,by have:=h.hx.2; omega⟩,by have:=h.yK; omega,h.hy,h.lvl,h.gQ⟩
theorem kQ.grow {m bS:fQ}{T L I Q k:Nat}(h:kQ m T L I Q) (g:Grow m bS k):kQ bS (T+k) L I Q :=
 ⟨g.h7,by have:=h.lo; have:=g.lo; omega,by have:=h.hi; have:=g.hi; omega,by have:=h.ty; have:=g.ty; omega,by rw [g.fX]; exact h.fX,by rw [g.hx]; exact h.hx,by rw [g.hy]; exact h.yK,
  by rw [g.hy,g.hx]; exact λp aG=>(h.hy p aG).mono g.lo (by omega),by rw [g.lvl]; exact h.lvl,g.gQ h.lvl h.gQ⟩
theorem t97 (m:fQ) (left:ByteArray) (a:Alt) {T L I Q:Nat}(hm:kQ m T L I Q) (fG:T<=10000000000) (jO:L<=10000000000) (bw:I<=10000000000) (dY:Q<=10000000000) (aK:y1 a) (eo:BP a) :
  Tot (wR m left a) λbS=>kQ bS (T+1001) L (I+1000) (Q+1001)/\1<=bS.aq.aX.length:=by
 unfold wR;have aP:=aK.n;refine .aE (t96 m left (by rw [hm.fX]; simp only [e9]; omega)) λaI fk=>?_;have Xi:-1<=aI/\aI<L:=by rw [<- hm.fX]; rcases fk with h | h <;> omega
 refine Tot.aE (Ξ:=λaZ=>kQ aZ.1 (T+1000) L (I+1000) (Q+1000)/\(∀ s∈aZ.2.1,p1 aZ.1.aq.a6.length (L+aZ.1.bD) s)/\aZ.2.1.length<=1000) ?_ λaZ hE=>?_
 ·refine Tot.count (λs=>s.2.2.2.2) a.jJ.length (λs=>0<=s.2.2.2.2/\s.2.2.2.2<=a.jJ.length/\kQ s.1 (T+s.2.2.2.2.toNat) L (I+s.2.2.2.2.toNat) (Q+s.2.2.2.2.toNat)/\(∀ y∈s.2.1,p1 s.1.aq.a6.length (L+s.1.bD) y)/\s.2.1.length<=s.2.2.2.2.toNat) ⟨by show (0:Int)<=0; omega,by show (0:Int)<=_; omega,hm,by simp,Nat.le_refl 0⟩ (by show (a.jJ.length:Int) - 0<_; omega) λs aL=>?_;obtain ⟨m1,rt,cg,at_,i⟩:=s;obtain ⟨bd,h1,aa,aw,ao⟩:=aL;simp only at bd h1 aa aw ao ⊢;have hw:aO (i+1)=i+1:=by rw [c8]; omega
  have dg:(i+1).toNat=i.toNat+1:=by omega
  refine Tot.bK (λa_=>?_) (λ_=>.au ⟨aa.mono (by omega) (by omega) (by omega),aw,by show rt.length<=1000; omega⟩);refine Tot.aE (Ξ:=λae=>kQ ae.1 (T+(i.toNat+1)) L (I+(i.toNat+1)) (Q+(i.toNat+1))/\(∀ y∈ae.2.1,p1 ae.1.aq.a6.length (L+ae.1.bD) y)/\ae.2.1.length<=i.toNat+1) ?_ λae Gn=>?_
  ·refine Tot.aE (Tot.hK (Φ:=λy=>y∈a.jJ) bd a_ λy _ az=>az) λy az=>?_;refine Tot.aE (Ξ:=λae=>kQ ae.1 (T+(i.toNat+1)) L (I+(i.toNat+1)) (Q+(i.toNat+1))/\(∀ y∈ae.2.1,p1 ae.1.aq.a6.length (L+ae.1.bD) y)/\ae.2.1.length<=i.toNat+1) ?_ λae Gp=>.au Gp;refine Tot.aE (Ξ:=λae=>kQ ae.1 (T+(i.toNat+1)) L (I+(i.toNat+1)) (Q+(i.toNat+1))/\(∀ y∈ae.2.1,p1 ae.1.aq.a6.length (L+ae.1.bD) y)/\ae.2.1.length<=i.toNat+1) ?_ λae Gp=>.au Gp;refine Tot.cg (λ_=>?_) (λ_=>?_)
   ·have ca:=aa.hi;refine .aE (t115 m1 y.Sym aa.h7 aa.lo (by omega) (by rw [aa.fX]; omega) (eo.parts y az)) λr ⟨ba,L3⟩=>?_;refine .aE (Ξ:=λ_=>True) (Tot.ap (by simp [lim]; omega) trivial) λ_ _=>.au ⟨(aa.grow ba).mono (by omega) (by omega) (by omega),λz bA=>?_,by simp; omega⟩;rcases List.mem_append.1 bA with bA | bA
    ·exact (aw z bA).mono ba.lo (by show (L:Int)+m1.bD<=L+r.2.bD; rw [ba.hx]; omega)
    ·rw [List.mem_singleton.1 bA];rw [aa.fX] at L3;exact L3.mono (Nat.le_refl _) (by show (L:Int)<=L+r.2.bD; rw [ba.hx]; have:=aa.hx.1; omega)
   ·refine Tot.aE (Ξ:=λae=>kQ (⟨(⟨m1.aq.a6,m1.aq.bx,ae.1,m1.aq.bB,m1.aq.bE⟩:bV),m1.b4,m1.b2,m1.bG,m1.b7,m1.cd,m1.cb,m1.b0,ae.2.1⟩:cR) (T+(i.toNat+1)) L (I+(i.toNat+1)) (Q+(i.toNat+1))/\(∀ y∈ae.2.2.1,p1 m1.aq.a6.length (L+ae.2.1) y)/\ae.2.2.1.length<=i.toNat+1) ?_ λae SE=>.au SE;refine Tot.cg (λ_=>.au ⟨⟨aa.h7,aa.lo,by have:=aa.hi; show m1.aq.a6.length<=_; omega,by have:=aa.ty; show m1.b2.length<=_; omega,aa.fX,⟨aa.hx.1,by have:=aa.hx.2; show m1.bD<=_; omega⟩,by have:=aa.yK; show m1.aq.aX.length<=_; omega,aa.hy,aa.lvl,aa.gQ⟩,aw,by show rt.length<=_; omega⟩) (λ_=>?_);have C3:=aa.hx;have uv:=aa.fX;have Ak:=aa.yK;have jD:aO (m1.bD+1)=m1.bD+1:=by rw [c8]; omega
    have ir:aO (((m1.bG.length:Int))+(m1.bD+1))=L+(m1.bD+1):=by rw [c8,uv]; omega
    have V1:aO (1000+(m1.bG.length:Int))=1000+L:=by rw [c8,uv]; omega
    have V2:aO (1000+(L:Int)+(m1.bD+1))=1000+(L:Int)+(m1.bD+1):=by rw [c8]; omega
    rw [jD,ir,V1,V2];refine .aE (Ξ:=λ_=>True) (Tot.ap (by simp [lim]; omega) trivial) λ_ _=>.aE (Ξ:=λ_=>True) (Tot.ap (by simp [lim]; omega) trivial) λ_ _=>.aE (Ξ:=λ_=>True) (Tot.ap (by simp [lim]; omega) trivial) λ_ _=>.au ⟨⟨aa.h7,aa.lo,?_,?_,aa.fX,?_,?_,?_,aa.lvl,aa.gQ⟩,?_,?_⟩
    ·have:=aa.hi; show m1.aq.a6.length<=_; omega
    ·have:=aa.ty; show m1.b2.length<=_; omega
    ·show 0<=m1.bD+1/\m1.bD+1<=((I+(i.toNat+1):Nat):Int); omega
    ·show (m1.aq.aX++[_]).length<=_; simp; omega
    ·intro p aG;rcases List.mem_append.1 aG with aG | aG
     ·exact (aa.hy p aG).mono (Nat.le_refl _) (by show (L:Int)+m1.bD<=L+(m1.bD+1); omega)
     ·rw [List.mem_singleton.1 aG];refine ⟨?_,by simp,?_⟩
      ·show 0<=(L:Int)+(m1.bD+1)/\(L:Int)+(m1.bD+1)<=L+(m1.bD+1); omega
      ·have:=aa.lo; show (-1:Int)<=-1/\(-1:Int)<(m1.aq.a6.length:Int); omega
    ·intro z bA;rcases List.mem_append.1 bA with bA | bA
     ·exact (aw z bA).mono (Nat.le_refl _) (by show (L:Int)+m1.bD<=L+(m1.bD+1); omega)
     ·rw [List.mem_singleton.1 bA];exact .inr (by show 1000<=1000+(L:Int)+(m1.bD+1)/\1000+(L:Int)+(m1.bD+1)<=1000+((L:Int)+(m1.bD+1)); omega)
    ·show (rt++[_]).length<=_; simp; omega
  ·rw [hw];refine .au ⟨⟨?_,?_,?_,Gn.2.1,?_⟩,?_,?_⟩
   ·show (0:Int)<=i+1; omega
   ·show i+1<=(a.jJ.length:Int); omega
   ·show kQ ae.1 (T+(i+1).toNat) L (I+(i+1).toNat) (Q+(i+1).toNat);rw [dg]; exact Gn.1
   ·show ae.2.1.length<=(i+1).toNat;rw [dg]; exact Gn.2.2
   ·show i<i+1; omega
   ·show i+1<=(a.jJ.length:Int); omega
 ·obtain ⟨aa,aw,ao⟩:=hE;have mC:=aa.lo;have C3:=aa.hx;refine Tot.aE (Ξ:=λp=>-1<=p/\p<(aZ.1.aq.a6.length:Int)) ?_ λhy GK=>?_
  ·refine Tot.count (λs=>s.2) aZ.2.1.length (λs=>0<=s.2/\s.2<=aZ.2.1.length/\-1<=s.1/\s.1<(aZ.1.aq.a6.length:Int)) ⟨by show (0:Int)<=0; omega,by show (0:Int)<=_; omega,by show (-1:Int)<=-1; omega,by show (-1:Int)<_; omega⟩ (by show (aZ.2.1.length:Int) - 0<_; omega) λs aL=>?_;obtain ⟨bd,h1,al,aQ⟩:=aL;have hw:aO (s.2+1)=s.2+1:=by rw [c8]; omega
   rw [hw];refine Tot.bK (λa_=>?_) (λ_=>.au ⟨al,aQ⟩);refine Tot.aE (Ξ:=λp=>-1<=p/\p<(aZ.1.aq.a6.length:Int)) ?_ λp aG=>.au ⟨⟨?_,?_,aG.1,aG.2⟩,?_,?_⟩
   ·refine .aE (Tot.hK (Φ:=λy=>idx aZ.2.1 s.2=some y/\y∈aZ.2.1) bd a_ λy h1 al=>⟨h1,al⟩) λy az=>?_;refine .aE (Ξ:=λp=>-1<=p/\p<(aZ.1.aq.a6.length:Int)) ?_ λp aG=>.au aG;refine Tot.bK (λa_=>?_) (λ_=>.au ⟨al,aQ⟩);rw [az.1];refine Tot.ax (.au ?_);rcases aw y az.2 with h | h
    ·omega
    ·omega
   ·show (0:Int)<=s.2+1; omega
   ·show s.2+1<=(aZ.2.1.length:Int); omega
   ·show s.2<s.2+1; omega
   ·show s.2+1<=(aZ.2.1.length:Int); omega
  ·refine Tot.aE (Ξ:=λae=>Grow aZ.1 ae.1 1/\-1<=ae.2/\ae.2<(ae.1.aq.a6.length:Int)) ?_ λae C4=>?_
   ·have q0:Grow aZ.1 aZ.1 1:=⟨aa.h7,Nat.le_refl _,Nat.le_succ _,Nat.le_succ _,rfl,rfl,rfl,rfl,λ_ h=>h⟩;refine Tot.cg (λ_=>?_) (λ_=>.au ⟨q0,GK⟩);refine Tot.aE (Ξ:=λc=>c=true->a.Prec.Lit=true\/∀ y∈aZ.1.bG,y≠a.Prec.Name) ?_ λc ab=>?_
    ·refine Tot.cg (λh=>.au λ_=>.inl h) (λ_=>?_);refine .aE (t96 aZ.1 a.Prec.Name (by rw [aa.fX]; simp only [e9]; omega)) λk hk=>.au λa_=>?_;have a_:=of_decide_eq_true a_;rcases hk with ⟨_,h⟩ | h
     ·exact .inr h
     ·omega
    ·refine Tot.aE (Ξ:=λae=>Grow aZ.1 ae.1 1/\-1<=ae.2/\ae.2<(ae.1.aq.a6.length:Int)) ?_ λae aa=>.au aa;have ca:=aa.hi;refine Tot.cg (λh=>?_) (λ_=>?_)
     ·refine .aE (VH aZ.1 a.Prec aa.h7 aa.lo (by omega) (by rw [aa.fX]; omega) eo.prec (ab h)) λr aw=>.au ⟨aw.1,?_,aw.2.2⟩;have:=aw.2.1; show -1<=r.1; omega
     ·refine .aE (t94 aZ.1 _ _) λbS iz=>.au ⟨iz.1.grow aa.h7 1,by show (-1:Int)<=-1; omega,?_⟩;show (-1:Int)<(bS.aq.a6.length:Int); omega
   ·have iz:=aa.grow C4.1;have Ak:=iz.yK;refine .aE (Ξ:=λ_=>True) (Tot.ap (by simp [lim]; omega) trivial) λ_ _=>.aE (Ξ:=λ_=>True) (Tot.ap (by simp [lim]; omega) trivial) λ_ _=>.au ⟨⟨iz.h7,iz.lo,?_,?_,iz.fX,⟨iz.hx.1,?_⟩,?_,?_,iz.lvl,iz.gQ⟩,by simp⟩
    ·have:=iz.hi; show ae.1.aq.a6.length<=_; omega
    ·have:=iz.ty; show ae.1.b2.length<=_; omega
    ·have:=iz.hx.2; show ae.1.bD<=_; omega
    ·show (ae.1.aq.aX++[_]).length<=_; simp; omega
    ·intro p aG;rcases List.mem_append.1 aG with aG | aG
     ·exact iz.hy p aG
     ·rw [List.mem_singleton.1 aG];have W0:=iz.hx;refine ⟨?_,λz bA=>?_,C4.2⟩
      ·show 0<=aO (1+aI)/\aO (1+aI)<=(L:Int)+ae.1.bD;rw [c8]; omega
      ·exact (aw z bA).mono C4.1.lo (by show (L:Int)+aZ.1.bD<=L+ae.1.bD; rw [C4.1.hx]; omega)
theorem Ip (l:List Int):(strOfNums l).size=l.length:=strOfNums_size ..
theorem t99 (n:Int) (bd:0<=n) (h1:n<=1000000000000):Tot (Bq n) λs=>s.size<=2000000000000:=by
 unfold Bq;have hu:IntKind.u64.wrap n=n:=by rw [IntKind.wrap_u64]; omega
 refine Tot.aE (Ξ:=λae=>ae=n) (Tot.bK (λh=>absurd h (by omega)) (λ_=>.au hu)) λae aa=>?_;subst aa;refine Tot.aE (Ξ:=λs=>s.size<=1000000000001) ?_ λs aL=>Tot.bK (λh=>absurd h (by omega)) (λ_=>.au (by omega));refine Tot.loop (λs=>0<=s.1/\s.1+s.2.size<=1000000000000+1/\(s.2.size=0->s.1<=1000000000000)) (λs=>s.1.toNat+(if s.2.size=0 then 1 else 0)) ⟨bd,by show ae+((0:Nat):Int)<=_; omega,λ_=>h1⟩ (by show ae.toNat+(if (0:Nat)=0 then 1 else 0)<1000000000000000000; simp; omega) λs aL=>?_
 obtain ⟨m,t⟩:=s;obtain ⟨g0,g1,g2⟩:=aL;simp only at g0 g1 g2 ⊢;refine Tot.aE (Ξ:=λc=>c=true->0<m\/t.size=0) ?_ λc ab=>Tot.cg (λk1=>?_) (λ_=>.au ?_)
 ·refine Tot.bK (λh=>.au λ_=>.inl h) (λ_=>.au λh=>.inr ?_);have:=of_decide_eq_true h;rw [this]; rfl
 ·have ab:=ab k1;refine .aE (Ξ:=λx=>x=m.tmod 10) (Tot.ti (by decide) rfl) λx J=>?_;refine .aE (Ξ:=λy=>y.size=t.size+1) (Tot.cat ?_ ?_) λy az=>.aE (Ξ:=λz=>z=m / 10) (Tot.tf (by decide) ?_) λz bA=>.au ?_
  ·rw [Ip]; simp; omega
  ·rw [ByteArray.size_append,Ip]; simp; omega
  ·rw [Int.tdiv_eq_ediv_of_nonneg g0,IntKind.wrap_u64]; omega
  ·subst bA;refine ⟨⟨?_,?_,?_⟩,?_⟩
   ·show 0<=m / 10; omega
   ·show m / 10+(y.size:Int)<=_; rw [az]; omega
   ·intro h; have h:y.size=0:=h; omega
   ·show (m / 10).toNat+(if y.size=0 then 1 else 0)<m.toNat+(if t.size=0 then 1 else 0);rw [if_neg (by omega)]
    split <;> omega
 ·show t.size<=1000000000001; omega
structure gM (g:bV):Prop where
 kO:3<=g.a6.length/\g.a6.length<=40
 h2:1<=g.bx.length/\g.bx.length<=24
 jB:1<=g.aX.length/\g.aX.length<=60
 hy:∀ p∈g.aX,y8 g.a6.length (g.bx.length - 1) p
 aH:∀ p∈g.aX,p.fm.length<=8
 gQ:∀ t∈g.a6,0<=t.Level
structure iM (m:fQ) (T L:Nat):Prop where
 h7:m.b4.length=m.aq.a6.length
 lo:3<=m.aq.a6.length
 hi:m.aq.a6.length<=3+T
 ty:m.b2.length<=T
 fX:m.bG.length<=L
 hy:m.aq.aX=[]
 hx:m.bD=0
 lvl:0<=m.b0
 gQ:∀ t∈m.aq.a6,0<=t.Level
theorem iM.mono {m:fQ}{T L T' L':Nat}(h:iM m T L) (fG:T<=T') (jO:L<=L'):iM m T' L' :=
 ⟨h.h7,h.lo,by have:=h.hi; omega,by have:=h.ty; omega,by have:=h.fX; omega,h.hy,h.hx,h.lvl,h.gQ⟩
theorem iM.grow {m bS:fQ}{T L k:Nat}(h:iM m T L) (g:Grow m bS k):iM bS (T+k) L :=
 ⟨g.h7,by have:=h.lo; have:=g.lo; omega,by have:=h.hi; have:=g.hi; omega,by have:=h.ty; have:=g.ty; omega,by rw [g.fX]; exact h.fX,g.hy.trans h.hy,g.hx.trans h.hx,by rw [g.lvl]; exact h.lvl,g.gQ h.lvl h.gQ⟩
theorem iM.same {m bS:fQ}{T L:Nat}(h:iM m T L) (g:qJ m bS):iM bS T L:=by
 have:=h.grow (g.grow h.h7 0);exact this
theorem t14 (a n:Int) (h:0<n) (aP:n<=9223372036854775807):Tot (ta a n) λr=>0<=r/\r<n:=by
 unfold ta;have h1:-n<a.tmod n:=by
  by_cases bf:0<=a
  ·have:=Int.tmod_nonneg n bf; omega
  ·have al:(-a).tmod n<n:=Int.tmod_lt_of_pos _ h;rw [Int.neg_tmod] at al;omega
 have al:a.tmod n<n:=Int.tmod_lt_of_pos a h;refine .aE (Ξ:=λx=>x=a.tmod n) (Tot.rem (by omega) rfl) λx J=>?_;subst J;refine Tot.aE (Ξ:=λr=>0<=r/\r<n) (Tot.bK (λaQ=>.au ?_) (λaQ=>.au (by omega))) λr aw=>.au aw;rw [c8]; omega
theorem t47 (k:Int) (h:0<=k):Tot (uP k) λx=>x.Name.size=1/\x.Lit=true/\x.c9=0:=by
 unfold uP;refine .aE (Ξ:=λx=>x.size=4) (.au rfl) λaI h1=>.aE (Ξ:=λr=>r=k.tmod 4) (Tot.rem (by decide) rfl) λx2 al=>.aE (Ξ:=λr=>r=k.tmod 4) (Tot.rem (by decide) rfl) λaZ aQ=>?_;subst al aQ;have e:k.tmod 4=k % 4:=Int.tmod_eq_emod_of_nonneg h;rw [e];have hw:aO (k % 4+1)=k % 4+1:=by rw [c8]; omega
 rw [hw];refine .aE (Ξ:=λx=>x.size=1) (Tot.cut (by rw [h1]; omega) ?_) λbs bW=>.au ⟨bW,rfl,rfl⟩;have:=Qr (s:=aI) (m:=k % 4) (n:=k % 4+1) (by rw [h1]; omega);omega
theorem t45 (k:Int):Tot (yD k) λx=>x.size=1:=by
 unfold yD;exact .au (by rw [Ip]; rfl)
theorem t46 (k n:Int) (h:0<n) (aP:n<=100):Tot (Ba k n) λx=>x.Name.size<=5:=by
 unfold Ba;refine .aE (t14 k 14 (by decide) (by decide)) λaI h1=>Tot.bK (λda=>?_) (λda=>Tot.cg (λ_=>.au ?_) (λ_=>?_))
 ·refine .aE (Ξ:=λ_=>True) (Tot.rem (by omega) trivial) λaZ _=>.aE (t45 aZ) λbs bW=>.au ?_;show bs.size<=5; omega
 ·show (5:Nat)<=5; omega
 ·refine .aE (t47 _ ?_) λx J=>.au (by omega);rw [c8]; omega
structure xg (n:Nat) (d:Decl):Prop where
 tag:d.Tag.size=0
 n:d.fg.length<=n
 syms:∀ x∈d.fg,x.Name.size<=e9
theorem t44 (l:List Int):Tot (A' l) λr=>r.length<=4/\∀ d∈r,xg 10 d:=by
 unfold A';refine Tot.aE (Ξ:=λr=>r.length<=4/\∀ d∈r,xg 10 d) ?_ λr aw=>.au aw;refine Tot.count (λs=>s.2) 4 (λs=>0<=s.2/\s.2<=4/\s.1.length<=s.2.toNat/\∀ d∈s.1,xg (1+s.2.toNat) d) ⟨Int.le_refl 0,by decide,Nat.le_refl 0,λd aU=>absurd aU (by simp)⟩ (by decide) λs aL=>?_;obtain ⟨r,i⟩:=s;obtain ⟨bd,bW,ao,aU⟩:=aL;simp only at bd bW ao aU ⊢;have hw:aO (i+1)=i+1:=by rw [c8]; omega
 rw [hw];refine .aE (Ξ:=λc=>c=true->i<l.length/\i<4) (Tot.bK (λh=>.au λal=>⟨h,of_decide_eq_true al⟩) (λ_=>.au λh=>by cases h)) λc ab=>Tot.cg (λk1=>?_) (λ_=>.au ⟨by omega,λd kn=>⟨(aU d kn).tag,by have:=(aU d kn).n; omega,(aU d kn).syms⟩⟩);obtain ⟨hi,WY⟩:=ab k1;refine Tot.aE (Ξ:=λae=>ae.length<=i.toNat+1/\∀ d∈ae,xg (1+(i.toNat+1)) d) ?_ λae aa=>.au ⟨⟨?_,?_,?_,?_⟩,?_,?_⟩
 ·refine .aE (Tot.hK (Φ:=λ_=>True) bd hi λ_ _ _=>trivial) λb1 _=>.aE (t14 b1 8 (by decide) (by decide)) λcp r1=>.aE (Ξ:=λ_=>True) (Tot.rem (by decide) trivial) λbZ _=>?_;have nZ:∀ d∈r,xg (1+(i.toNat+1)) d:=λd kn=>⟨(aU d kn).tag,by have:=(aU d kn).n; omega,(aU d kn).syms⟩;refine Tot.cg (λ_=>.au ⟨by omega,nZ⟩) (λ_=>?_);refine .aE (Ξ:=λc=>c=true->0<(r.length:Int)) (Tot.cg (λ_=>.au λh=>of_decide_eq_true h) (λ_=>.au λh=>by cases h)) λc ab=>Tot.cg (λsV=>?_) (λ_=>?_)
  ·have sZ:=ab sV;have Tm:aO ((r.length:Int) - 1)=(r.length:Int) - 1:=by rw [c8]; omega
   rw [Tm];refine .aE (Tot.hK (Φ:=λy=>y∈r) (by omega) (by omega) λ_ _ h=>h) λd kn=>.aE (t47 i bd) λx J=>.aE (Ξ:=λ_=>True) (Tot.ap (by have:=(aU d kn).n; simp [lim]; omega) trivial) λ_ _=>.au ⟨by simp; omega,λCw CZ=>?_⟩;rcases wq CZ with h | rfl
   ·exact nZ Cw h
   ·refine ⟨(aU d kn).tag,?_,λy az=>?_⟩
    ·have:=(aU d kn).n; show (d.fg++[x]).length<=_; simp; omega
    ·rcases List.mem_append.1 az with az | az
     ·exact (aU d kn).syms y az
     ·rw [List.mem_singleton.1 az,J.1]; decide
  ·refine .aE (Ξ:=λ_=>True) (Tot.rem (by decide) trivial) λeX _=>.aE (t47 i bd) λx J=>.aE (Ξ:=λ_=>True) (Tot.ap (by simp [lim]; omega) trivial) λ_ _=>.au ⟨by simp; omega,λCw CZ=>?_⟩;rcases List.mem_append.1 CZ with h | h
   ·exact nZ Cw h
   ·rw [List.mem_singleton.1 h];refine ⟨rfl,by show 1<=_; omega,λy az=>?_⟩;have az:y∈[x]:=az;rw [List.mem_singleton.1 az,J.1]; decide
 ·show 0<=i+1; omega
 ·show i+1<=4; omega
 ·show ae.length<=(i+1).toNat; omega
 ·intro d kn;have e:(i+1).toNat=i.toNat+1:=by omega
  show xg (1+(i+1).toNat) d;rw [e]; exact aa.2 d kn
 ·show i<i+1; omega
 ·show i+1<=4; omega
structure lf (n:Nat) (r:ga):Prop where
 left:r.Left.size<=e9
 n:r.fR.length<=n
 alts:∀ a∈r.fR,y1 a
theorem lf.mono {n m:Nat}{r:ga}(h:lf n r) (hm:n<=m):lf m r:=⟨h.left,Nat.le_trans h.n hm,h.alts⟩
theorem lf.add {n:Nat}{r:ga}{a:Alt}(h:lf n r) (bf:y1 a):lf (n+1) (⟨r.Left,r.fR++[a],r.At⟩:ga):=by
 refine ⟨h.left,by have:=h.n; show (r.fR++[a]).length<=_; simp; omega,λb aK=>?_⟩;rcases List.mem_append.1 aK with aK | aK
 ·exact h.alts b aK
 ·rw [List.mem_singleton.1 aK]; exact bf
theorem Jm {l:List ga}{i n:Nat}{r:ga}(h:∀ x∈l,lf n x) (aw:lf n r):∀ x∈l.set i r,lf n x:=λx J=>by
 rcases wq J with aR | rfl
 ·exact h x aR
 ·exact aw
theorem t20 (x:oW):Tot (yA x) qK:=by
 unfold yA;refine .aE (t14 x.bx 4 (by decide) (by decide)) λaI h1=>.aE (t44 x.nN) λx2 al=>?_;have s5:aO (1+aI)=1+aI:=by rw [c8]; omega
 rw [s5];refine .aE (Ξ:=λl=>l=List.replicate (1+aI).toNat false) (Tot.mk (by simp [lim]; omega) rfl) λaZ aQ=>?_;have Wu:aZ.length=(1+aI).toNat:=by rw [aQ]; simp
 refine Tot.aE (Ξ:=λl=>(l.length:Int)=1+aI/\∀ r∈l,lf 0 r) ?_ λcn da=>?_
 ·refine Tot.count (λs=>s.2) (1+aI) (λs=>0<=s.2/\s.2<=1+aI/\(s.1.length:Int)=s.2/\∀ r∈s.1,lf 0 r) ⟨Int.le_refl 0,by show 0<=1+aI; omega,rfl,λd aU=>absurd aU (by simp)⟩ (by show 1+aI - 0<_; omega) λs aL=>?_;obtain ⟨l,i⟩:=s;obtain ⟨g0,g1,ao,cT⟩:=aL;simp only at g0 g1 ao cT ⊢;have hw:aO (i+1)=i+1:=by rw [c8]; omega
  rw [hw];refine Tot.bK (λa_=>?_) (λ_=>.au ⟨by omega,cT⟩);refine .aE (t45 i) λb1 qS=>.aE (Ξ:=λ_=>True) (Tot.ap (by simp [lim]; omega) trivial) λ_ _=>.au ⟨⟨?_,?_,?_,λr aw=>?_⟩,?_,?_⟩
  ·show 0<=i+1; omega
  ·show i+1<=1+aI; omega
  ·show ((l++[_]).length:Int)=i+1;simp; omega
  ·rcases List.mem_append.1 aw with aw | aw
   ·exact cT r aw
   ·rw [List.mem_singleton.1 aw];exact ⟨by show b1.size<=_; rw [qS]; decide,Nat.le_refl 0,λa bf=>absurd bf (by simp)⟩
  ·show i<i+1; omega
  ·show i+1<=1+aI; omega
 refine Tot.aE (Ξ:=λr=>(r.1.length:Int)=1+aI/\(r.2.length:Int)=1+aI/\∀ y∈r.1,lf 9 y) ?_ λct zR=>?_
 ·refine Tot.count (λs=>s.2.2) 9 (λs=>0<=s.2.2/\s.2.2<=9/\(s.1.length:Int)=1+aI/\(s.2.1.length:Int)=1+aI/\∀ y∈s.1,lf s.2.2.toNat y) ⟨Int.le_refl 0,by show (0:Int)<=9; decide,da.1,by show (aZ.length:Int)=_; omega,da.2⟩ (by show (9:Int) - 0<_; decide) λs aL=>?_;obtain ⟨l,aK,i⟩:=s;obtain ⟨g0,g1,ao,Gl,cT⟩:=aL;simp only at g0 g1 ao Gl cT ⊢;have hw:aO (i+1)=i+1:=by rw [c8]; omega
  rw [hw];refine .aE (Ξ:=λc=>c=true->i<x.ei.length/\i<9) (Tot.bK (λh=>.au λal=>⟨h,of_decide_eq_true al⟩) (λ_=>.au λh=>by cases h)) λc ab=>Tot.cg (λk1=>?_) (λ_=>.au ⟨ao,Gl,λy az=>(cT y az).mono (by omega)⟩);obtain ⟨hi,WZ⟩:=ab k1;have mD:i.toNat<x.ei.length:=by omega
  have SC:idx x.ei i=some x.ei[i.toNat]:=by simp [idx,g0,mD]
  rw [SC];generalize x.ei[i.toNat]=d;have Le:∀ y∈l,lf (i.toNat+1) y:=λy az=>(cT y az).mono (by omega);refine Tot.aE (Ξ:=λae=>(ae.1.length:Int)=1+aI/\(ae.2.length:Int)=1+aI/\∀ y∈ae.1,lf (i.toNat+1) y) ?_ λae aa=>.au ⟨⟨?_,?_,aa.1,aa.2.1,?_⟩,?_,?_⟩
  ·refine Tot.ax (Tot.bK (λ_=>.au ⟨ao,Gl,Le⟩) (λek=>Tot.ax ?_));refine .aE (Tot.hK (Φ:=λ_=>True) (by decide) (by omega) λ_ _ _=>trivial) λeJ _=>.aE (t14 eJ (1+aI) (by omega) (by omega)) λdN K0=>?_;have nu:∀ c:ByteArray,c.size<=e9->((⟨(⟨{ data:=#[] },false,0,0⟩:Sym),c,0⟩:Part).Sym.Name.size<=e9/\(⟨(⟨{ data:=#[] },false,0,0⟩:Sym),c,0⟩:Part).Code.size<=e9):=λc ab=>⟨by show 0<=_; exact Nat.zero_le _,ab⟩;refine Tot.aE (Ξ:=λr=>r.1.length<=10/\∀ p∈r.1,p.Sym.Name.size<=e9/\p.Code.size<=e9) ?_ λeF K1=>?_
   ·refine Tot.count (λs=>s.2.2) 5 (λs=>1<=s.2.2/\s.2.2<=5/\(s.1.length:Int)<=2 * (s.2.2 - 1)/\∀ p∈s.1,p.Sym.Name.size<=e9/\p.Code.size<=e9) ⟨Int.le_refl 1,by decide,by decide,λp aG=>absurd aG (by simp)⟩ (by decide) λs aL=>?_;obtain ⟨ps,pl,k⟩:=s;obtain ⟨k0,oN,T_,Hx⟩:=aL;simp only at k0 oN T_ Hx ⊢;have vV:aO (k+1)=k+1:=by rw [c8]; omega
    rw [vV];refine .aE (Ξ:=λc=>c=true->k<d.length/\k<5) (Tot.ax (Tot.bK (λh=>.au λal=>⟨h,of_decide_eq_true al⟩) (λ_=>.au λh=>by cases h))) λc ab=>Tot.cg (λk1=>?_) (λ_=>.au ⟨by show ps.length<=10; omega,Hx⟩);obtain ⟨hk,W2⟩:=ab k1;refine Tot.aE (Ξ:=λae=>(ae.1.length:Int)<=2 * k/\∀ p∈ae.1,p.Sym.Name.size<=e9/\p.Code.size<=e9) ?_ λae aa=>.au ⟨⟨?_,?_,?_,aa.2⟩,?_,?_⟩
    ·refine Tot.ax (.aE (Tot.hK (Φ:=λ_=>True) (by omega) hk λ_ _ _=>trivial) λiL _=>.aE (t46 iL (1+aI) (by omega) (by omega)) λdS K2=>?_);refine .aE (Ξ:=λ_=>True) (Tot.cg (λ_=>Tot.cg (λ_=>.au trivial) (λ_=>.au trivial)) (λ_=>.au trivial)) λ_ _=>.aE (Ξ:=λ_=>True) (Tot.ap (by simp [lim]; omega) trivial) λ_ _=>?_;have bR:∀ p∈ps++[(⟨dS,{ data:=#[] },0⟩:Part)],p.Sym.Name.size<=e9/\p.Code.size<=e9:=λp aG=>by
      rcases List.mem_append.1 aG with aG | aG
      ·exact Hx p aG
      ·rw [List.mem_singleton.1 aG];exact ⟨by show dS.Name.size<=1000000000000; omega,Nat.zero_le _⟩
     refine .aE (Ξ:=λ_=>True) ?_ λtQ _=>?_
     ·refine Tot.bK (λh=>Tot.cg (λ_=>.aE (Tot.hK (Φ:=λ_=>True) g0 h λ_ _ _=>trivial) λ_ _=>.aE (Ξ:=λ_=>True) (Tot.rem (by decide) trivial) λ_ _=>.au trivial) (λ_=>.au trivial)) (λ_=>.au trivial)
     ·refine Tot.aE (Ξ:=λl=>(l.length:Int)<=2 * k/\∀ p∈l,p.Sym.Name.size<=e9/\p.Code.size<=e9) ?_ λae aa=>.au aa;refine Tot.cg (λ_=>?_) (λ_=>.au ⟨by simp; omega,bR⟩);refine .aE (Ξ:=λ_=>True) (Tot.ap (by simp [lim]; omega) trivial) λ_ _=>.au ⟨by simp; omega,λp aG=>?_⟩;rcases List.mem_append.1 aG with aG | aG
      ·exact bR p aG
      ·rw [List.mem_singleton.1 aG]; exact nu _ (by decide)
    ·show 1<=k+1; omega
    ·show k+1<=5; omega
    ·show (ae.1.length:Int)<=2 * (k+1 - 1); omega
    ·show k<k+1; omega
    ·show k+1<=5; omega
   ·refine .aE (Ξ:=λ_=>True) (Tot.bK (λh=>.aE (Tot.hK (Φ:=λ_=>True) g0 h λ_ _ _=>trivial) λ_ _=>.aE (Ξ:=λ_=>True) (Tot.rem (by decide) trivial) λ_ _=>.au trivial) (λ_=>.au trivial)) λWm _=>?_;refine Tot.aE (Ξ:=λl=>l.length<=20/\∀ p∈l,p.Sym.Name.size<=e9/\p.Code.size<=e9) ?_ λmP Q_=>?_
    ·refine Tot.cg (λ_=>?_) (λ_=>.au ⟨by omega,K1.2⟩);refine .aE (Ξ:=λ_=>True) (Tot.ap (by simp [lim]; omega) trivial) λ_ _=>.au ⟨by simp; omega,λp aG=>?_⟩;rcases List.mem_append.1 aG with aG | aG
     ·exact K1.2 p aG
     ·rw [List.mem_singleton.1 aG]; exact nu _ (by decide)
    ·refine Tot.aE (Ξ:=λl=>(l.length:Int)=1+aI) ?_ λJV Ra=>?_
     ·refine .aE (Tot.hK (Φ:=λ_=>True) K0.1 (by omega) λ_ _ _=>trivial) λ_ _=>Tot.cg (λ_=>.au (by simp; omega)) (λ_=>.au (by simp; omega))
     ·refine .aE (Tot.hK (Φ:=λy=>y∈l) K0.1 (by omega) λ_ _ h=>h) λlN Rb=>?_;have qj:=cT lN Rb;refine .aE (Ξ:=λ_=>True) (Tot.ap (by have:=qj.n; simp [lim]; omega) trivial) λ_ _=>.au ⟨by show ((l.set _ _).length:Int)=_; simp; omega,Ra,Jm Le (qj.add ⟨by show mP.length<=_; omega,Q_.2,Nat.zero_le _⟩)⟩
  ·show 0<=i+1; omega
  ·show i+1<=9; omega
  ·intro y az;have e:(i+1).toNat=i.toNat+1:=by omega
   show lf (i+1).toNat y;rw [e]; exact aa.2.2 y az
  ·show i<i+1; omega
  ·show i+1<=9; omega
 refine Tot.aE (Ξ:=λl=>(l.length:Int)=1+aI/\∀ y∈l,lf 20 y) ?_ λsk Rc=>.au ⟨Nat.zero_le _,?_,λd aU=>?_,?_,λr aw=>?_⟩
 ·refine Tot.count (λs=>s.2) (1+aI) (λs=>0<=s.2/\s.2<=1+aI/\(s.1.length:Int)=1+aI/\∀ y∈s.1,lf (9+s.2.toNat) y) ⟨Int.le_refl 0,by show 0<=1+aI; omega,zR.1,zR.2.2⟩ (by show 1+aI - 0<_; omega) λs aL=>?_;obtain ⟨l,i⟩:=s;obtain ⟨g0,g1,ao,cT⟩:=aL;simp only at g0 g1 ao cT ⊢;have hw:aO (i+1)=i+1:=by rw [c8]; omega
  rw [hw];refine Tot.bK (λa_=>?_) (λ_=>.au ⟨ao,λy az=>(cT y az).mono (by omega)⟩);refine Tot.aE (Ξ:=λl=>(l.length:Int)=1+aI/\∀ y∈l,lf (9+i.toNat+1) y) ?_ λae aa=>.au ⟨⟨?_,?_,aa.1,?_⟩,?_,?_⟩
  ·refine .aE (Ξ:=λ_=>True) ?_ λWn _=>?_
   ·refine .aE (Tot.hK (Φ:=λ_=>True) g0 (by omega) λ_ _ _=>trivial) λqB _=>Tot.cg (λ_=>.au trivial) (λ_=>.aE (Tot.hK (Φ:=λ_=>True) g0 (by omega) λ_ _ _=>trivial) λ_ _=>Tot.cg (λ_=>.au trivial) (λ_=>.au trivial))
   ·refine Tot.aE (Ξ:=λl=>(l.length:Int)=1+aI/\∀ y∈l,lf (9+i.toNat+1) y) ?_ λae aa=>.au aa;refine Tot.cg (λ_=>?_) (λ_=>.au ⟨ao,λy az=>(cT y az).mono (by omega)⟩);refine .aE (Tot.hK (Φ:=λy=>y∈l) g0 (by omega) λ_ _ h=>h) λkq CP=>.aE (t47 i g0) λkr WA=>?_;have J:=cT kq CP;refine .aE (Ξ:=λ_=>True) (Tot.ap (by have:=J.n; simp [lim]; omega) trivial) λ_ _=>.au ⟨by simp; omega,Jm (λy az=>(cT y az).mono (by omega)) (J.add ⟨by show 1<=_; omega,λp aG=>?_,Nat.zero_le _⟩)⟩;have aG:p∈[(⟨kr,{ data:=#[] },0⟩:Part)]:=aG;rw [List.mem_singleton.1 aG];exact ⟨by show kr.Name.size<=1000000000000; omega,Nat.zero_le _⟩
  ·show 0<=i+1; omega
  ·show i+1<=1+aI; omega
  ·intro y az;have e:9+(i+1).toNat=9+i.toNat+1:=by omega
   show lf (9+(i+1).toNat) y;rw [e]; exact aa.2 y az
  ·show i<i+1; omega
  ·show i+1<=1+aI; omega
 ·have:=al.1; show x2.length<=1000; omega
 ·have:=al.2 d aU;exact ⟨by rw [this.tag]; exact Nat.zero_le _,by have:=this.n; omega,this.syms⟩
 ·show sk.length<=1000; omega
 ·have:=Rc.2 r aw;exact ⟨this.left,by have:=this.n; omega,this.alts⟩
end Go.Proofs
namespace Go.Own
open Go Go.Sort
variable {α:Type} [DecidableEq α]
structure Ord (lt:α->α->Bool):Prop where
 swo:SWO lt
 jC:∀ x y,lt x y=false->lt y x=false->x=y
def f_ (lt:α->α->Bool) (l:List α):Prop:=l.Pairwise λa b=>lt a b=true
omit [DecidableEq α] in
theorem f_.nd {lt:α->α->Bool}(h:Ord lt) {l:List α}(ao:f_ lt l):l.Nodup:=ao.imp λ{a b} Li e=>by
 subst e;rw [h.swo.irrefl] at Li; cases Li
omit [DecidableEq α] in
theorem f_.uniq {lt:α->α->Bool}(h:Ord lt) {l m:List α}(ao:f_ lt l) (hm:f_ lt m) (he:∀ x,x∈l↔x∈m):l=m :=
 List.Perm.eq_of_pairwise (le:=λa b=>lt a b=true) (λa b _ _ h1 al=>by have:=h.swo.trans _ _ _ h1 al; rw [h.swo.irrefl] at this; cases this) ao hm ((List.perm_ext_iff_of_nodup (ao.nd h) (hm.nd h)).2 he)
omit [DecidableEq α] in
theorem yk {l m:List α}(aU:l.Nodup) (hm:∀ x∈l,x∈m):l.length<=m.length:=by
 classical
 induction l generalizing m with
 | nil=>exact Nat.zero_le _
 | cons x l aS =>
  have J:=hm x (by simp);have nZ:=List.nodup_cons.1 aU;have:=aS (m:=m.erase x) nZ.2 λy az=>(List.mem_erase_of_ne (λe=>nZ.1 (by rw [<- e]; exact az))).2 (hm y (by simp [az]));have ao:=List.length_erase_of_mem J;have aG:=List.length_pos_of_mem J;simp only [List.length_cons];omega
end Go.Own
namespace Go.Proofs
open Go Go.Own Go.Sort
set_option maxRecDepth 100000
set_option linter.unusedVariables false
def ha (a b:Item):Bool:=decide (a.Prod<b.Prod\/(a.Prod=b.Prod/\a.dH<b.dH))
theorem HD {a b:Item}:ha a b=true↔(a.Prod<b.Prod\/(a.Prod=b.Prod/\a.dH<b.dH)):=by simp [ha]
theorem AO {a b:Item}:ha a b=false↔¬ (a.Prod<b.Prod\/(a.Prod=b.Prod/\a.dH<b.dH)):=by simp [ha]
theorem uJ:Ord ha where
 swo:=⟨λx=>by rw [AO]; omega,λx y z h1 al=>by rw [HD] at *; omega,λx y z h1 al=>by rw [AO] at *; omega⟩
 jC x y h1 al:=by
  rw [AO] at h1 al;obtain ⟨aI,x2⟩:=x;obtain ⟨kh,y2⟩:=y;simp only at h1 al;have:aI=kh:=by omega
  have:x2=y2:=by omega
  subst_vars; rfl
def je (g:bV) (x:Item):Prop:=∃ q,idx g.aX x.Prod=some q/\0<=x.dH/\x.dH<=q.fm.length
def h3 (g:bV) (x:Item):Int:=match idx g.aX x.Prod with
 | some q=>(idx q.fm x.dH).getD (-1)
 | none=>-1
theorem nA {α:Type}{l:List α}{i:Int}{y:α}(h:idx l i=some y):0<=i/\i<l.length/\y∈l:=by
 unfold idx at h
 split at h
 ·rename_i bd;obtain ⟨h1,al⟩:=List.getElem?_eq_some_iff.1 h;exact ⟨bd,by omega,List.mem_of_getElem? h⟩
 ·cases h
theorem v' {α:Type}{l:List α}{i:Int}(h:i<0\/(l.length:Int)<=i):idx l i=none:=by
 unfold idx;split
 ·exact List.getElem?_eq_none (by omega)
 ·rfl
theorem k6 {α:Type}{l:List α}{i:Int}(bd:0<=i) (h1:i<l.length):∃ y,idx l i=some y/\y∈l:=by
 have a_:i.toNat<l.length:=by omega
 exact ⟨l[i.toNat],by simp [idx,bd,a_],List.getElem_mem a_⟩
theorem ed {α:Type}{l:List α}{k:Nat}(h:k<l.length):idx l (k:Int)=some l[k]:=by simp [idx,h]
theorem Km (g:bV) (x:Item):∃ c,yu g x=some c/\(c=true↔je g x):=by
 unfold yu;by_cases bd:0<=x.Prod
 ·by_cases h1:x.Prod<g.aX.length
  ·obtain ⟨q,bR,_⟩:=k6 bd h1;by_cases al:0<=x.dH
   ·refine ⟨decide (x.dH<=(q.fm.length:Int)),by simp [bd,h1,al,bR],?_⟩;rw [decide_eq_true_eq];exact ⟨λh=>⟨q,bR,al,h⟩,λ⟨hb,Da,_,h⟩=>by rw [bR] at Da; cases Da; exact h⟩
   ·exact ⟨false,by simp [bd,h1,al],λh=>(by cases h),λ⟨_,_,h,_⟩=>absurd h al⟩
  ·exact ⟨false,by simp [bd,h1],λh=>(by cases h),λ⟨_,h,_⟩=>absurd (nA h).2.1 h1⟩
 ·exact ⟨false,by simp [bd],λh=>(by cases h),λ⟨_,h,_⟩=>absurd (nA h).1 bd⟩
theorem Ff (g:bV) (x:Item):tb g x=some (h3 g x):=by
 unfold tb h3;obtain ⟨c,ab,hi⟩:=Km g x;rw [ab];simp only [Option.bind_some];cases c with
 | false =>
  have aP:¬ je g x:=λh=>by have:=hi.2 h; cases this
  simp only [Bool.not_false,cond_true,Option.bind_some];cases bR:idx g.aX x.Prod with
  | none=>rfl
  | some q =>
   have:idx q.fm x.dH=none:=v' (by
    by_cases bd:0<=x.dH
    ·right;by_cases h1:x.dH<=q.fm.length
     ·exact absurd ⟨q,bR,bd,h1⟩ aP
     ·omega
    ·left; omega)
   simp [this]
 | true =>
  obtain ⟨q,bR,bd,h1⟩:=hi.1 rfl;simp only [Bool.not_true,cond_false,bR,Option.bind_some];by_cases he:x.dH=q.fm.length
  ·rw [v' (.inr (by omega))];simp [he]
  ·obtain ⟨s,aL,_⟩:=k6 (l:=q.fm) (i:=x.dH) bd (by omega);simp [he,aL]
theorem Mw {g:bV}(ba:gM g) {x:Item}(h:0<=h3 g x):je g x/\p1 g.a6.length (g.bx.length - 1) (h3 g x)/\∃ q,idx g.aX x.Prod=some q/\idx q.fm x.dH=some (h3 g x):=by
 cases bR:idx g.aX x.Prod with
 | none =>
  have:h3 g x=-1:=by unfold h3; rw [bR]
  rw [this] at h; exact absurd h (by decide)
 | some q =>
  cases aL:idx q.fm x.dH with
  | none =>
   have:h3 g x=-1:=by unfold h3; rw [bR]; simp [aL]
   rw [this] at h; exact absurd h (by decide)
  | some s =>
   have e:h3 g x=s:=by unfold h3; rw [bR]; simp [aL]
   rw [e];obtain ⟨bd,h1,hm⟩:=nA aL;exact ⟨⟨q,bR,bd,by omega⟩,(ba.hy q (nA bR).2.2).right s hm,q,rfl,aL⟩
inductive ns (g:bV) (l:List Item):Item->Prop
 | base {x:Item}(h:x∈l) (hi:je g x):ns g l x
 | step {x:Item}{q:Prod}{p:Nat}(h:ns g l x) (aG:g.aX[p]?=some q) (aP:h3 g x=1000+q.Left) (bd:1000<=h3 g x):ns g l ⟨p,0⟩
theorem Mk {g:bV}{p:Nat}{q:Prod}(aG:g.aX[p]?=some q):je g ⟨p,0⟩:=⟨q,by simp [idx,aG],Int.le_refl _,by show (0:Int)<=_; omega⟩
theorem ns.je {g:bV}{l:List Item}{x:Item}(h:ns g l x):je g x:=by
 cases h with
 | base _ hi=>exact hi
 | step _ aG _ _=>exact Mk aG
theorem Up {g:bV}(ba:gM g) (x:Item):-1<=h3 g x/\h3 g x<=1023:=by
 by_cases h:0<=h3 g x
 ·obtain ⟨_,aL,_⟩:=Mw ba h;have:=ba.h2;have:=ba.kO;rcases aL with aL | aL <;> omega
 ·refine ⟨?_,by omega⟩;revert h;unfold h3;cases bR:idx g.aX x.Prod with
  | none=>intro _; exact Int.le_refl _
  | some q =>
   cases aL:idx q.fm x.dH with
   | none=>intro _; simp [aL]
   | some s =>
    intro h;have hm:=(ba.hy q (nA bR).2.2).right s (nA aL).2.2;simp only [aL,Option.getD_some] at h ⊢;rcases hm with hm | hm <;> omega
def hP (m:List Bool):Nat:=(m.filter λb=>b).length
theorem vo:∀ (m:List Bool) (i:Nat),i<m.length->m.getD i false=false->hP (m.set i true)=hP m+1
 | [],i,h,_=>by simp at h
 | b::m,0,_,h=>by
  have:b=false:=by simpa using h
  subst this;simp [hP]
 | b::m,i+1,h,bd=>by
  have:=vo m i (by simpa using h) (by simpa using bd);unfold hP at this ⊢;simp only [List.set_cons_succ,List.filter_cons];cases b <;> simp [this]
theorem PE (m:List Bool):hP m<=m.length:=List.length_filter_le _ _
theorem j5 {α:Type}{r:List α}{k:Nat}(h:k<r.length):r.take (k+1)=r.take k++[r[k]]:=by
 rw [List.take_add_one,List.getElem?_eq_getElem h]; rfl
theorem Ed (k:Nat) (h:k<=1000000000000):aO ((k:Int)+1)=((k+1:Nat):Int):=by rw [c8]; omega
def allI (g:bV):List Item:=(List.range g.aX.length).flatMap λp=>(List.range 9).map λd=>(⟨(p:Nat),(d:Nat)⟩:Item)
theorem OC (g:bV):(allI g).length=g.aX.length * 9:=by
 have:∀ l:List Nat,(l.map λ_=>9).sum=l.length * 9:=λl=>by
  induction l with
  | nil=>rfl
  | cons a l aS=>simp only [List.map_cons,List.sum_cons,aS,List.length_cons]; omega
 simp [allI,List.length_flatMap,this]
theorem Ue {g:bV}(ba:gM g) {x:Item}(h:je g x):x∈allI g:=by
 obtain ⟨q,bR,bd,h1⟩:=h;obtain ⟨al,aQ,bW⟩:=nA bR;have:=ba.aH q bW;refine List.mem_flatMap.2 ⟨x.Prod.toNat,by simp; omega,List.mem_map.2 ⟨x.dH.toNat,by simp; omega,?_⟩⟩;obtain ⟨a,b⟩:=x;simp only at bd al ⊢;congr 1 <;> omega
theorem sz {g:bV}(ba:gM g) {l:List Item}(ao:f_ ha l) (hi:∀ x∈l,je g x):l.length<=540:=by
 have:=yk (ao.nd uJ) λx J=>Ue ba (hi x J);rw [OC] at this;have:=ba.jB;omega
theorem OS {l:List Item}(ao:f_ ha l) {i ae:Nat}(hi:i<l.length) (aa:ae<l.length) (h:i<ae):ha l[i] l[ae]=true:=List.pairwise_iff_getElem.1 ao i ae hi aa h
theorem EN (l:List Item) (x:Item) (ao:f_ ha l) (aP:l.length<=100000):Tot (wB l x) λr=>f_ ha r/\(∀ y,y∈r↔y∈l\/y=x):=by
 unfold wB;refine .aE (Ξ:=λz:Int=>∃ k:Nat,z=(k:Int)/\k<=l.length/\(∀ (i:Nat) (h:i<l.length),k<=i->ha x l[i]=true)/\∀ (h:0<k),ha x (l[k - 1]?.getD default)=false) ?_ λz bA=>?_
 ·refine Tot.count (λs=>-s) 1 (λs=>∃ k:Nat,s=(k:Int)/\k<=l.length/\∀ (i:Nat) (h:i<l.length),k<=i->ha x l[i]=true) ⟨l.length,rfl,Nat.le_refl _,λi h hk=>by omega⟩ (by show 1 - -(l.length:Int)<_; omega) λs aL=>?_;obtain ⟨k,rfl,hk,q7⟩:=aL;refine .aE (Ξ:=λc:Bool=>(c=true->0<k/\ha x (l[k - 1]?.getD default)=true)/\(c=false->∀ (h:0<k),ha x (l[k - 1]?.getD default)=false)) ?_ λc ab=>Tot.cg (λh=>?_) (λh=>.au ⟨k,rfl,hk,q7,ab.2 h⟩)
  ·refine Tot.bK (λh=>?_) (λh=>.au ⟨λaR=>(by cases aR),λ_ aR=>by omega⟩);have hd:k - 1<l.length:=by omega
   have hw:aO ((k:Int) - 1)=((k - 1:Nat):Int):=by rw [c8]; omega
   rw [hw,ed hd,List.getElem?_eq_getElem hd];simp only [Option.bind_some,Option.getD_some];generalize l[k - 1]=y;refine Tot.bK (λh1=>.au ⟨λ_=>⟨by omega,HD.2 (.inl h1)⟩,λaR=>(by cases aR)⟩) (λh1=>Tot.bK (λal=>.au ⟨λaQ=>⟨by omega,HD.2 (.inr ⟨al.symm,of_decide_eq_true aQ⟩)⟩,λaQ _=>?_⟩) (λal=>.au ⟨λaR=>(by cases aR),λ_ _=>?_⟩))
   ·have:=of_decide_eq_false aQ;rw [AO]; omega
   ·rw [AO]; omega
  ·obtain ⟨bd,h1⟩:=ab.1 h;refine .au ⟨⟨k - 1,by rw [c8]; omega,by omega,λi hi SJ=>?_⟩,by show -(k:Int) < -aO _; rw [c8]; omega,by show -aO _<=1; rw [c8]; omega⟩;by_cases e:i=k - 1
   ·subst e;rw [List.getElem?_eq_getElem hi] at h1;exact h1
   ·exact q7 i hi (by omega)
 ·obtain ⟨k,rfl,hk,q7,mC⟩:=bA;refine .aE (Ξ:=λc:Bool=>(c=true↔(0<k/\l[k - 1]?.getD default=x))) ?_ λc ab=>Tot.cg (λh=>?_) (λh=>?_)
  ·refine Tot.bK (λh=>?_) (λh=>.au ⟨λaR=>(by cases aR),λaR=>by omega⟩);have hd:k - 1<l.length:=by omega
   have hw:aO ((k:Int) - 1)=((k - 1:Nat):Int):=by rw [c8]; omega
   rw [hw,ed hd,List.getElem?_eq_getElem hd];simp only [Option.bind_some,Option.getD_some];generalize l[k - 1]=y;refine .au ?_;obtain ⟨kh,y2⟩:=y;obtain ⟨aI,x2⟩:=x;simp only [Bool.and_true,Bool.and_eq_true,decide_eq_true_eq,Item.mk.injEq];exact ⟨λaR=>⟨by omega,aR⟩,λaR=>aR.2⟩
  ·obtain ⟨bd,h1⟩:=ab.1 h;have hd:k - 1<l.length:=by omega
   rw [List.getElem?_eq_getElem hd] at h1;have J:x∈l:=by rw [<- h1]; exact List.getElem_mem hd
   exact .au ⟨ao,λy=>⟨.inl,λh=>h.elim id λe=>e ▸ J⟩⟩
  ·have ek:∀ (i:Nat) (hi:i<l.length),i<k->ha l[i] x=true:=by
    intro i hi uq;have hd:k - 1<l.length:=by omega
    have mC:=mC (by omega);have aP:l[k - 1]?.getD default≠x:=λe=>by rw [ab.2 ⟨by omega,e⟩] at h; cases h
    rw [List.getElem?_eq_getElem hd] at mC aP;simp only [Option.getD_some] at mC aP;have gX:ha l[k - 1] x=true:=by
     cases ca:ha l[k - 1] x with
     | true=>rfl
     | false=>exact absurd (uJ.jC _ _ ca mC) aP
    by_cases e:i=k - 1
    ·subst e; exact gX
    ·exact uJ.swo.trans _ _ _ (OS ao hi hd (by omega)) gX
   refine .aE (Ξ:=λz=>z=l.take k) (Tot.sub ⟨by omega,by omega,by omega⟩ (by simp)) λz bA=>?_;subst bA;refine .aE (Ξ:=λ_=>True) (Tot.ap (by simp [lim]; omega) trivial) λ_ _=>.aE (Ξ:=λ_=>True) (Tot.ap (by simp [lim]; omega) trivial) λ_ _=>?_;refine .aE (Ξ:=λz=>z=l.drop k) (Tot.sub ⟨by omega,by omega,by omega⟩ ?_) λz bA=>?_
   ·rw [List.take_of_length_le]
    ·congr 1
    ·rw [List.length_drop]; omega
   subst bA;refine .aE (Ξ:=λ_=>True) (Tot.ap (by simp [lim]; omega) trivial) λ_ _=>.au ?_;rw [List.nil_append];constructor
   ·have h1:∀ a∈l.take k,ha a x=true:=by
     intro a bf;obtain ⟨i,hi,rfl⟩:=List.mem_iff_getElem.1 bf;rw [List.length_take] at hi;rw [List.getElem_take];exact ek i (by omega) (by omega)
    have al:∀ a∈l.drop k,ha x a=true:=by
     intro a bf;obtain ⟨i,hi,rfl⟩:=List.mem_iff_getElem.1 bf;rw [List.length_drop] at hi;rw [List.getElem_drop];exact q7 (k+i) (by omega) (by omega)
    unfold f_;rw [List.append_assoc,List.pairwise_append];refine ⟨List.Pairwise.sublist (List.take_sublist k l) ao,?_,λa bf b aK=>?_⟩
    ·rw [List.singleton_append,List.pairwise_cons];exact ⟨al,List.Pairwise.sublist (List.drop_sublist k l) ao⟩
    ·rcases List.mem_append.1 aK with aK | aK
     ·rw [List.mem_singleton.1 aK]; exact h1 a bf
     ·exact uJ.swo.trans _ _ _ (h1 a bf) (al b aK)
   ·intro y;rw [List.append_assoc,List.mem_append,List.mem_append,List.mem_singleton];have hm:y∈l↔y∈l.take k\/y∈l.drop k:=by
     rw [<- List.mem_append,List.take_append_drop]
    rw [hm];constructor
    ·rintro (h | h | h)
     ·exact .inl (.inl h)
     ·exact .inr h
     ·exact .inl (.inr h)
    ·rintro ((h | h) | h)
     ·exact .inl h
     ·exact .inr (.inr h)
     ·exact .inr (.inl h)
theorem Pe (g:bV) (ba:gM g) (l:List Item) (ao:l.length<=1000000):Tot (A1 g l) λr=>f_ ha r/\∀ x,x∈r↔x∈l/\je g x:=by
 unfold A1;refine .aE (Ξ:=λr=>f_ ha r/\∀ x,x∈r↔x∈l/\je g x) ?_ λr aw=>.au aw;refine Tot.count (λs=>s.2) l.length (λs=>∃ k:Nat,k<=l.length/\s.2=(k:Int)/\f_ ha s.1/\∀ x,x∈s.1↔x∈l.take k/\je g x) ⟨0,Nat.zero_le _,rfl,List.Pairwise.nil,λx=>by simp⟩ (by show (l.length:Int) - 0<_; omega) λs aL=>?_;obtain ⟨out,lv⟩:=s;obtain ⟨k,hk,rfl,bf,hm⟩:=aL;simp only at bf hm ⊢;rw [Ed k (by omega)];refine Tot.bK (λa_=>?_) (λec=>.au ?_)
 ·have a_:k<l.length:=by omega
  rw [ed a_];refine .aE (Ξ:=λo:List Item=>f_ ha o/\∀ x,x∈o↔x∈l.take (k+1)/\je g x) ?_ λo bh=>.au ⟨⟨k+1,by omega,rfl,bh⟩,by show (k:Int)<((k+1:Nat):Int); omega,by show ((k+1:Nat):Int)<=_; omega⟩;obtain ⟨c,ab,hi⟩:=Km g l[k];rw [j5 a_];refine Tot.ax ?_;rw [ab];refine Tot.ax (.aE (Ξ:=λo:List Item=>f_ ha o/\∀ x,x∈o↔x∈l.take k++[l[k]]/\je g x) (Tot.cg (λh=>?_) (λh=>.au ⟨bf,λx=>?_⟩)) λo bh=>.au bh)
  ·have C9:=sz ba bf λx J=>((hm x).1 J).2;refine Tot.ax (.aE (EN out _ bf (by omega)) λo bh=>.au ⟨bh.1,λx=>?_⟩);rw [bh.2 x,List.mem_append,List.mem_singleton,hm x];constructor
   ·rintro (⟨h1,al⟩ | rfl)
    ·exact ⟨.inl h1,al⟩
    ·exact ⟨.inr rfl,hi.1 h⟩
   ·rintro ⟨h1 | rfl,al⟩
    ·exact .inl ⟨h1,al⟩
    ·exact .inr rfl
  ·rw [List.mem_append,List.mem_singleton,hm x];constructor
   ·rintro ⟨h1,al⟩;exact ⟨.inl h1,al⟩
   ·rintro ⟨h1 | rfl,al⟩
    ·exact ⟨h1,al⟩
    ·rw [hi.2 al] at h; cases h
 ·have:k=l.length:=by omega
  subst this;rw [List.take_length] at hm;exact ⟨bf,hm⟩
def u_ (g:bV) (out:List Item) (x:Item):Prop:=1000<=h3 g x->∀ (p:Nat) (q:Prod),g.aX[p]?=some q->q.Left=h3 g x - 1000->(⟨p,0⟩:Item)∈out
theorem EY (g:bV) (ba:gM g) (l:List Item) (ao:l.length<=1000000):Tot (wO g l) λr=>f_ ha r/\∀ x,x∈r↔ns g l x:=by
 have Ak:=ba.jB;unfold wO;refine .aE (Pe g ba l ao) λaI h1=>.aE (Ξ:=λr=>f_ ha r/\∀ x,x∈r↔ns g l x) ?_ λr aw=>.au aw;obtain ⟨RT,GB⟩:=h1;refine Tot.loop (λs=>f_ ha s.1/\(∀ x∈s.1,ns g l x)/\(∀ x∈l,je g x->x∈s.1)/\(s.2=(s.1.length:Int)->∀ x∈s.1,u_ g s.1 x)) (λs=>2 * (1000 - s.1.length)+(if s.2=(s.1.length:Int) then 0 else 1)) ⟨RT,λx J=>.base ((GB x).1 J).1 ((GB x).1 J).2,λx J hi=>(GB x).2 ⟨J,hi⟩,λh=>by have h:(-1:Int)=_:=h; omega⟩ (by
  show 2 * (1000 - aI.length)+(if (-1:Int)=_ then 0 else 1)<1000000000000000000
  split <;> omega) λs aL=>?_
 obtain ⟨out,n⟩:=s;obtain ⟨bf,gO,uf,hr⟩:=aL;simp only at bf gO uf hr ⊢;have C9:=sz ba bf λx J=>(gO x J).je;refine Tot.nv (λek=>?_) (λhe=>.au ⟨bf,λx=>⟨gO x,λJ=>?_⟩⟩)
 ·refine .aE (Ξ:=λae:List Item × Int=>ae.2=(out.length:Int)/\f_ ha ae.1/\(∀ x∈ae.1,ns g l x)/\(∀ x∈out,x∈ae.1)/\(ae.1.length=out.length->∀ x∈ae.1,u_ g ae.1 x)) ?_ λae aa=>?_
  ·refine .aE (Ξ:=λr:List Item=>f_ ha r/\(∀ x∈r,ns g l x)/\(∀ x∈out,x∈r)/\(r.length=out.length->∀ x∈r,u_ g r x)) ?_ λr aw=>.au ⟨rfl,aw⟩;refine .aE (Ξ:=λr:List Item=>f_ ha r/\(∀ x∈r,ns g l x)/\(∀ x∈out,x∈r)/\(r.length=out.length->∀ x∈r,u_ g r x)) ?_ λr aw=>.au aw;refine Tot.count (λs=>s.2) out.length (λs=>∃ k:Nat,k<=out.length/\s.2=(k:Int)/\s.1=out/\∀ (ae:Nat) (h:ae<out.length),ae<k->u_ g out out[ae]) ⟨0,Nat.zero_le _,rfl,rfl,λae _ aa=>absurd aa (Nat.not_lt_zero _)⟩ (by show (out.length:Int) - 0<_; omega) λs aL=>?_;obtain ⟨cur,lv⟩:=s;obtain ⟨k,hk,rfl,rfl,Lt⟩:=aL;simp only;rw [Ed k (by omega)];refine Tot.bK (λa_=>?_) (λec=>.au ⟨bf,gO,λ_ h=>h,λ_ x J=>?_⟩)
   ·have a_:k<cur.length:=by omega
    rw [ed a_];have Hb:=gO _ (List.getElem_mem a_);have G':∀ P:Item->Prop,P cur[k]->∀ (ae:Nat) (h:ae<cur.length),ae=k->P cur[ae]:=λP cT ae h e=>by subst e; exact cT
    generalize J:cur[k]=x at *;have W_:=Up ba x;have hw:aO (h3 g x - 1000)=h3 g x - 1000:=by rw [c8]; omega
    simp only [Option.bind_some,Ff g x,hw];refine (.aE (Ξ:=λr:List Item=>f_ ha r/\(∀ x∈r,ns g l x)/\(∀ x∈cur,x∈r)/\u_ g r x) ?_ λr aw=>?_)
    ·refine Tot.count (λs=>s.2) g.aX.length (λs=>∃ i:Nat,i<=g.aX.length/\s.2=(i:Int)/\f_ ha s.1/\(∀ x∈s.1,ns g l x)/\(∀ x∈cur,x∈s.1)/\∀ (p:Nat) (q:Prod),p<i->g.aX[p]?=some q->q.Left=h3 g x - 1000->(⟨p,0⟩:Item)∈s.1) ⟨0,Nat.zero_le _,rfl,bf,gO,λ_ h=>h,λp q aG=>absurd aG (Nat.not_lt_zero _)⟩ (by show (g.aX.length:Int) - 0<_; omega) λs aL=>?_;obtain ⟨o,yd⟩:=s;obtain ⟨i,hi,rfl,q4,Ai,C_,uy⟩:=aL;simp only at q4 Ai C_ uy ⊢;rw [Ed i (by omega)];refine .aE (Ξ:=λc:Bool=>(c=true->i<g.aX.length/\1000<=h3 g x)/\(c=false->g.aX.length<=i\/h3 g x<1000)) (Tot.bK (λh=>.au ⟨λaR=>⟨by omega,of_decide_eq_true aR⟩,λaR=>.inr (by have:=of_decide_eq_false aR; omega)⟩) (λh=>.au ⟨λaR=>(by cases aR),λ_=>.inl (by omega)⟩)) λc ab=>Tot.cg (λh=>?_) (λh=>.au ⟨q4,Ai,C_,λbd p q aG=>?_⟩)
     ·obtain ⟨Gz,bd⟩:=ab.1 h;have LX:g.aX[i]?=some g.aX[i]:=List.getElem?_eq_getElem Gz;rw [ed Gz];refine .aE (Ξ:=λo:List Item=>f_ ha o/\(∀ x∈o,ns g l x)/\(∀ x∈cur,x∈o)/\∀ (p:Nat) (q:Prod),p<i+1->g.aX[p]?=some q->q.Left=h3 g x - 1000->(⟨p,0⟩:Item)∈o) ?_ λo bh=>.au ⟨⟨i+1,by omega,rfl,bh⟩,by show (i:Int)<((i+1:Nat):Int); omega,by show ((i+1:Nat):Int)<=_; omega⟩;refine Tot.ax (.aE (Ξ:=λo:List Item=>f_ ha o/\(∀ x∈o,ns g l x)/\(∀ x∈cur,x∈o)/\∀ (p:Nat) (q:Prod),p<i+1->g.aX[p]?=some q->q.Left=h3 g x - 1000->(⟨p,0⟩:Item)∈o) (Tot.bK (λh=>?_) (λh=>.au ⟨q4,Ai,C_,λp q aG Al bR=>?_⟩)) λo bh=>.au bh)
      ·have SN:=sz ba q4 λx J=>(Ai x J).je;refine .aE (EN o ⟨(i:Nat),0⟩ q4 (by omega)) λr aw=>.au ⟨aw.1,λy az=>?_,λy az=>(aw.2 y).2 (.inl (C_ y az)),λp q aG Al bR=>?_⟩
       ·rcases (aw.2 y).1 az with az | rfl
        ·exact Ai y az
        ·exact .step Hb LX (by omega) bd
       ·by_cases dg:p=i
        ·subst dg; exact (aw.2 _).2 (.inr rfl)
        ·exact (aw.2 _).2 (.inl (uy p q (by omega) Al bR))
      ·by_cases dg:p=i
       ·subst dg;rw [LX] at Al; cases Al;exact absurd bR h
       ·exact uy p q (by omega) Al bR
     ·rcases ab.2 h with h1 | h1
      ·exact uy p q (by have:=(List.getElem?_eq_some_iff.1 aG).1; omega) aG
      ·omega
    ·obtain ⟨x9,S2,lH,S6⟩:=aw;have hle:cur.length<=r.length:=yk (bf.nd uJ) lH;refine Tot.nv (λGF=>.au ⟨x9,S2,lH,λe=>absurd (by omega) GF⟩) (λheq=>?_);have n0:r.length=cur.length:=by omega
     have S7:r=cur:=by
      have lG:∀ y,y∈cur↔y∈r:=by
       intro y;refine ⟨lH y,λaz=>Classical.byContradiction λaP=>?_⟩;have:=yk (l:=y::cur) (m:=r) (List.nodup_cons.2 ⟨aP,bf.nd uJ⟩) λz bA=>by
        rcases List.mem_cons.1 bA with rfl | bA
        ·exact az
        ·exact lH z bA
       simp at this;omega
      exact (f_.uniq uJ bf x9 lG).symm
     subst S7;refine .au ⟨⟨k+1,by omega,rfl,rfl,λae aa eQ=>?_⟩,by show (k:Int)<((k+1:Nat):Int); omega,by show ((k+1:Nat):Int)<=_; omega⟩;by_cases dg:ae=k
     ·exact G' (u_ g r) S6 ae aa dg
     ·exact Lt ae aa (by omega)
   ·obtain ⟨ae,aa,rfl⟩:=List.mem_iff_getElem.1 J;exact Lt ae aa (by omega)
  ·obtain ⟨h1,al,aQ,bW,da⟩:=aa;have hle:out.length<=ae.1.length:=yk (bf.nd uJ) bW;have fj:=sz ba al λx J=>(aQ x J).je;refine .au ⟨⟨al,aQ,λx J hi=>bW x (uf x J hi),λe=>da (by show ae.1.length=_; have e:ae.2=(ae.1.length:Int):=e; omega)⟩,?_⟩;show 2 * (1000 - ae.1.length)+(if ae.2=(ae.1.length:Int) then 0 else 1)<2 * (1000 - out.length)+(if n=(out.length:Int) then 0 else 1)
   rw [if_neg ek];split
   ·omega
   ·have:ae.1.length≠out.length:=λe=>by omega
    omega
 ·have ab:=hr he
  induction J with
  | base h hi=>exact uf _ h hi
  | @step x q p h aG aP bd aS=>exact ab x aS bd p q aG (by omega)
def B2 (g:bV) (l:List Item) (a:Int) (y:Item):Prop:=∃ x,ns g l x/\h3 g x=a/\0<=a/\y=⟨x.Prod,x.dH+1⟩
theorem Mj {g:bV}(ba:gM g) {x:Item}(h:0<=h3 g x):je g ⟨x.Prod,x.dH+1⟩:=by
 obtain ⟨_,_,q,bR,aL⟩:=Mw ba h;obtain ⟨bd,h1,_⟩:=nA aL;exact ⟨q,bR,by show 0<=x.dH+1; omega,by show x.dH+1<=_; omega⟩
theorem T5 {g:bV}(ba:gM g) {x:Item}(h:je g x):0<=x.dH/\x.dH<=8:=by
 obtain ⟨q,bR,bd,h1⟩:=h;have:=ba.aH q (nA bR).2.2;omega
theorem B2.je {g:bV}(ba:gM g) {l:List Item}{a:Int}{y:Item}(h:B2 g l a y):je g y:=by
 obtain ⟨x,_,h1,al,rfl⟩:=h;exact Mj ba (by omega)
theorem Pq (g:bV) (ba:gM g) (l:List Item) (a:Int) (ao:l.length<=1000000):Tot (Bk g l a) λr=>f_ ha r/\∀ y,y∈r↔B2 g l a y:=by
 unfold Bk;refine .aE (EY g ba l ao) λc ab=>.aE (Ξ:=λr=>f_ ha r/\∀ y,y∈r↔B2 g l a y) ?_ λr aw=>.au aw;have hr:=sz ba ab.1 λx J=>((ab.2 x).1 J).je;refine Tot.count (λs=>s.2) c.length (λs=>∃ k:Nat,k<=c.length/\s.2=(k:Int)/\f_ ha s.1/\∀ y,y∈s.1↔∃ x∈c.take k,h3 g x=a/\0<=a/\y=⟨x.Prod,x.dH+1⟩) ⟨0,Nat.zero_le _,rfl,List.Pairwise.nil,λy=>by simp⟩ (by show (c.length:Int) - 0<_; omega) λs aL=>?_;obtain ⟨o,lv⟩:=s;obtain ⟨k,hk,rfl,q4,Aj⟩:=aL;simp only at q4 Aj ⊢;rw [Ed k (by omega)];refine Tot.bK (λa_=>?_) (λec=>.au ⟨q4,λy=>?_⟩)
 ·have a_:k<c.length:=by omega
  have TH:=((ab.2 _).1 (List.getElem_mem a_)).je;have gb:c.take (k+1)=c.take k++[c[k]]:=j5 a_;rw [ed a_];generalize c[k]=x at *;have aU:=T5 ba TH;have hw:aO (x.dH+1)=x.dH+1:=by rw [c8]; omega
  refine .aE (Ξ:=λo:List Item=>f_ ha o/\∀ y,y∈o↔∃ x∈c.take (k+1),h3 g x=a/\0<=a/\y=⟨x.Prod,x.dH+1⟩) ?_ λo bh=>.au ⟨⟨k+1,by omega,rfl,bh⟩,by show (k:Int)<((k+1:Nat):Int); omega,by show ((k+1:Nat):Int)<=_; omega⟩;have lG:∀ y,(∃ z∈c.take (k+1),h3 g z=a/\0<=a/\y=(⟨z.Prod,z.dH+1⟩:Item))↔(y∈o\/(h3 g x=a/\0<=a/\y=⟨x.Prod,x.dH+1⟩)):=by
   intro y;rw [Aj y,gb];constructor
   ·rintro ⟨z,bA,h⟩;rcases List.mem_append.1 bA with bA | bA
    ·exact .inl ⟨z,bA,h⟩
    ·rw [List.mem_singleton.1 bA] at h; exact .inr h
   ·rintro (⟨z,bA,h⟩ | h)
    ·exact ⟨z,by simp [bA],h⟩
    ·exact ⟨x,by simp,h⟩
  simp only [Option.bind_some,Ff g x,hw];refine (.aE (Ξ:=λb:Bool=>b=decide (0<=h3 g x/\h3 g x=a)) (Tot.bK (λh=>.au (by simp [h])) (λh=>.au (by simp [h]))) λb aK=>?_);subst aK;refine .aE (Ξ:=λo:List Item=>f_ ha o/\∀ y,y∈o↔∃ x∈c.take (k+1),h3 g x=a/\0<=a/\y=⟨x.Prod,x.dH+1⟩) (Tot.bK (λh=>?_) (λh=>.au ⟨q4,λy=>?_⟩)) λo bh=>.au bh
  ·have C9:=sz ba q4 λy az=>by
    obtain ⟨z,_,h1,al,rfl⟩:=(Aj y).1 az;exact Mj ba (by omega)
   refine (.aE (EN o _ q4 (by omega)) λr aw=>.au ⟨aw.1,λy=>?_⟩);rw [aw.2 y,lG y];constructor
   ·rintro (h1 | h1)
    ·exact .inl h1
    ·exact .inr ⟨h.2,by omega,h1⟩
   ·rintro (h1 | h1)
    ·exact .inl h1
    ·exact .inr h1.2.2
  ·rw [lG y];exact ⟨.inl,λaR=>aR.elim id λaR=>absurd ⟨by omega,aR.1⟩ h⟩
 ·have:k=c.length:=by omega
  subst this;rw [List.take_length] at Aj;rw [Aj y];constructor
  ·rintro ⟨x,J,h⟩;exact ⟨x,(ab.2 x).1 J,h⟩
  ·rintro ⟨x,J,h⟩;exact ⟨x,(ab.2 x).2 J,h⟩
def ic (a b:Int):Bool:=decide (a<b)
theorem HE {a b:Int}:ic a b=true↔a<b:=by simp [ic]
theorem HF {a b:Int}:ic a b=false↔¬ a<b:=by simp [ic]
theorem AZ:Ord ic where
 swo:=⟨λx=>by rw [HF]; omega,λx y z h1 al=>by rw [HE] at *; omega,λx y z h1 al=>by rw [HF] at *; omega⟩
 jC:=λx y h1 al=>by rw [HF] at *; omega
theorem Jx {l:List Int}(ao:f_ ic l) {i ae:Nat}(hi:i<l.length) (aa:ae<l.length) (h:i<ae):ic l[i] l[ae]=true:=List.pairwise_iff_getElem.1 ao i ae hi aa h
theorem Cl (l:List Int) (x:Int) (ao:f_ ic l) (aP:l.length<=100000):Tot (oc l x) λr=>f_ ic r/\r.length<=l.length+1/\(∀ y,y∈r↔y∈l\/y=x):=by
 unfold oc;refine .aE (Ξ:=λz:Int=>∃ k:Nat,z=(k:Int)/\k<=l.length/\(∀ (i:Nat) (h:i<l.length),k<=i->ic x l[i]=true)/\∀ (h:0<k),ic x (l[k - 1]?.getD default)=false) ?_ λz bA=>?_
 ·refine Tot.count (λs=>-s) 1 (λs=>∃ k:Nat,s=(k:Int)/\k<=l.length/\∀ (i:Nat) (h:i<l.length),k<=i->ic x l[i]=true) ⟨l.length,rfl,Nat.le_refl _,λi h hk=>by omega⟩ (by show 1 - -(l.length:Int)<_; omega) λs aL=>?_;obtain ⟨k,rfl,hk,q7⟩:=aL;refine .aE (Ξ:=λc:Bool=>(c=true->0<k/\ic x (l[k - 1]?.getD default)=true)/\(c=false->∀ (h:0<k),ic x (l[k - 1]?.getD default)=false)) ?_ λc ab=>Tot.cg (λh=>?_) (λh=>.au ⟨k,rfl,hk,q7,ab.2 h⟩)
  ·refine Tot.bK (λh=>?_) (λh=>.au ⟨λaR=>(by cases aR),λ_ aR=>by omega⟩);have hd:k - 1<l.length:=by omega
   have hw:aO ((k:Int) - 1)=((k - 1:Nat):Int):=by rw [c8]; omega
   rw [hw,ed hd,List.getElem?_eq_getElem hd];simp only [Option.bind_some,Option.getD_some];exact .au ⟨λaR=>⟨by omega,aR⟩,λaR _=>aR⟩
  ·obtain ⟨bd,h1⟩:=ab.1 h;refine .au ⟨⟨k - 1,by rw [c8]; omega,by omega,λi hi SJ=>?_⟩,by show -(k:Int) < -aO _; rw [c8]; omega,by show -aO _<=1; rw [c8]; omega⟩;by_cases e:i=k - 1
   ·subst e;rw [List.getElem?_eq_getElem hi] at h1;exact h1
   ·exact q7 i hi (by omega)
 ·obtain ⟨k,rfl,hk,q7,mC⟩:=bA;refine .aE (Ξ:=λc:Bool=>(c=true↔(0<k/\l[k - 1]?.getD default=x))) ?_ λc ab=>Tot.cg (λh=>?_) (λh=>?_)
  ·refine Tot.bK (λh=>?_) (λh=>.au ⟨λaR=>(by cases aR),λaR=>by omega⟩);have hd:k - 1<l.length:=by omega
   have hw:aO ((k:Int) - 1)=((k - 1:Nat):Int):=by rw [c8]; omega
   rw [hw,ed hd,List.getElem?_eq_getElem hd];simp only [Option.bind_some,Option.getD_some];generalize l[k - 1]=y;refine .au ?_;exact ⟨λaR=>⟨by omega,of_decide_eq_true aR⟩,λaR=>decide_eq_true aR.2⟩
  ·obtain ⟨bd,h1⟩:=ab.1 h;have hd:k - 1<l.length:=by omega
   rw [List.getElem?_eq_getElem hd] at h1;have J:x∈l:=by rw [<- h1]; exact List.getElem_mem hd
   exact .au ⟨ao,by omega,λy=>⟨.inl,λh=>h.elim id λe=>e ▸ J⟩⟩
  ·have ek:∀ (i:Nat) (hi:i<l.length),i<k->ic l[i] x=true:=by
    intro i hi uq;have hd:k - 1<l.length:=by omega
    have mC:=mC (by omega);have aP:l[k - 1]?.getD default≠x:=λe=>by rw [ab.2 ⟨by omega,e⟩] at h; cases h
    rw [List.getElem?_eq_getElem hd] at mC aP;simp only [Option.getD_some] at mC aP;have gX:ic l[k - 1] x=true:=by
     cases ca:ic l[k - 1] x with
     | true=>rfl
     | false=>exact absurd (AZ.jC _ _ ca mC) aP
    by_cases e:i=k - 1
    ·subst e; exact gX
    ·exact AZ.swo.trans _ _ _ (Jx ao hi hd (by omega)) gX
   refine .aE (Ξ:=λz=>z=l.take k) (Tot.sub ⟨by omega,by omega,by omega⟩ (by simp)) λz bA=>?_;subst bA;refine .aE (Ξ:=λ_=>True) (Tot.ap (by simp [lim]; omega) trivial) λ_ _=>.aE (Ξ:=λ_=>True) (Tot.ap (by simp [lim]; omega) trivial) λ_ _=>?_;refine .aE (Ξ:=λz=>z=l.drop k) (Tot.sub ⟨by omega,by omega,by omega⟩ ?_) λz bA=>?_
   ·rw [List.take_of_length_le]
    ·congr 1
    ·rw [List.length_drop]; omega
   subst bA;refine .aE (Ξ:=λ_=>True) (Tot.ap (by simp [lim]; omega) trivial) λ_ _=>.au ?_;rw [List.nil_append];refine ⟨?_,?_,?_⟩
   ·have h1:∀ a∈l.take k,ic a x=true:=by
     intro a bf;obtain ⟨i,hi,rfl⟩:=List.mem_iff_getElem.1 bf;rw [List.length_take] at hi;rw [List.getElem_take];exact ek i (by omega) (by omega)
    have al:∀ a∈l.drop k,ic x a=true:=by
     intro a bf;obtain ⟨i,hi,rfl⟩:=List.mem_iff_getElem.1 bf;rw [List.length_drop] at hi;rw [List.getElem_drop];exact q7 (k+i) (by omega) (by omega)
    unfold f_;rw [List.append_assoc,List.pairwise_append];refine ⟨List.Pairwise.sublist (List.take_sublist k l) ao,?_,λa bf b aK=>?_⟩
    ·rw [List.singleton_append,List.pairwise_cons];exact ⟨al,List.Pairwise.sublist (List.drop_sublist k l) ao⟩
    ·rcases List.mem_append.1 aK with aK | aK
     ·rw [List.mem_singleton.1 aK]; exact h1 a bf
     ·exact AZ.swo.trans _ _ _ (h1 a bf) (al b aK)
   ·simp only [List.length_append,List.length_take,List.length_drop,List.length_cons,List.length_nil]; omega
   ·intro y;rw [List.append_assoc,List.mem_append,List.mem_append,List.mem_singleton];have hm:y∈l↔y∈l.take k\/y∈l.drop k:=by
     rw [<- List.mem_append,List.take_append_drop]
    rw [hm];constructor
    ·rintro (h | h | h)
     ·exact .inl (.inl h)
     ·exact .inr h
     ·exact .inl (.inr h)
    ·rintro ((h | h) | h)
     ·exact .inl h
     ·exact .inr (.inr h)
     ·exact .inr (.inl h)
end Go.Proofs
