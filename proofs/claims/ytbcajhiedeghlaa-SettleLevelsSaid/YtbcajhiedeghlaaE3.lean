/-
  What is proved here: parts of the proof that the last text states: rules for walks through code, and of this program's functions what they answer. No condition of their own.
-/
import Derived.ChangeAt
import Derived.ChangeOld
import Derived.ChangeSame
import Derived.Deep.Draws
import Derived.Deep.LoopGhost
import Derived.Deep.Slices
import Derived.KernelRfl
import Derived.Laws.CopyRow
import Derived.Lib.SliceRun
import Derived.Lib.SlicesCompact
import Derived.Lib.Walk
import Derived.Maps.OwnIn
import Derived.ReadAgain
import Derived.RowKit3
import Derived.Shelf.RegionOpenPlain
import Derived.Shelf.SlLaysQ
import Derived.Shelf.SlSortCmp.NoneTotal
import Derived.Shelf.SlicesE.Kit
import Derived.Shelf.SlicesQ.Load
import Derived.Sort.WalkB12
import Derived.StringKeys
import Derived.Test.YtbcajhiedeghlaaRows
import Derived.WalkKit
import Derived.WideShapes
import Derived.Test.YtbcajhiedeghlaaE2
namespace Go.Own
open Go Go.RowKit Go.ChangeShapes Go.WideShapes Go.Deep
variable {α β Hu:Type}{P:Program}
abbrev qC (w:World) (y:af) (u:Value):Prop:=R w (λb=>b<w.heap.size) (λ_ _=>False) y u (λ_=>False)
def mm (w:World) (ys:List af) (cs:List Value):Prop :=
 ys.length=cs.length/\∀ (k:Nat) (y:af) (u:Value),ys[k]?=some y->cs[k]?=some u->u.oneCell'=true/\qC w y u
theorem mm.nil {w:World}:mm w [] []:=⟨rfl,λ_ _ _ h=>by simp at h⟩
theorem mm.one {w:World}{y:af}{u:Value}(h1:u.oneCell'=true) (h:qC w y u):mm w [y] [u] :=
 ⟨rfl,λk y' sq ay hu=>by
  cases k with
  | zero=>simp at ay hu; subst ay hu; exact ⟨h1,h⟩
  | succ k=>simp at ay⟩
theorem mm.app {w:World}{ys vF:List af}{cs fo:List Value}(h:mm w ys cs) (ak:mm w vF fo):mm w (ys++vF) (cs++fo):=by
 refine ⟨by simp [h.1,ak.1],λk y u ay hu=>?_⟩;by_cases hk:k<ys.length
 ·rw [List.getElem?_append_left hk] at ay;rw [List.getElem?_append_left (h.1 ▸ hk)] at hu;exact h.2 k y u ay hu
 ·rw [List.getElem?_append_right (by omega)] at ay;rw [List.getElem?_append_right (by have:=h.1; omega),<- h.1] at hu;exact ak.2 _ y u ay hu
structure mE (P:Program) (e:cv α) (t:TypeId) (ok:α->Prop):Prop where
 z:P.cellsOf t=e.z
 go:∀ {H:Type}{enc:TypeId × Value->H}{w:World}{n:Nat}{cs:List Value}{x:DataW H × List MemPlace},
  DataW.trod enc P w 0 (λ_=>true) true n t cs=some x->∃ a,ok a/\mm w (e.cells a) cs
theorem mE.int {e:cv Int}{t:TypeId}{k:IntKind}(aC:P.underlying t=some (.int k)) (bB:P.cellsOf t=e.z) (he:∀ n,e.cells n=[.lit (.int k n)]) :
  mE P e t (λn=>(Lit.int k n).wf=true):=by
 refine ⟨bB,λh=>?_⟩;obtain ⟨n,rfl,_,hw⟩:=DataW.trod_int aC h;exact ⟨n,hw,he n ▸ mm.one rfl (.lit rfl λ_ h=>h)⟩
theorem mE.bool {e:cv Bool}{t:TypeId}(aC:P.underlying t=some .bool) (bB:P.cellsOf t=e.z) (he:∀ n,e.cells n=[.lit (.bool n)]) :
  mE P e t (λ_=>True):=by
 refine ⟨bB,λh=>?_⟩;obtain ⟨n,rfl,_⟩:=DataW.trod_bool aC h;exact ⟨n,trivial,he n ▸ mm.one rfl (.lit rfl λ_ h=>h)⟩
theorem LA (e:cv α) (bB:0<e.z):∀ (l:List α) (k:Nat) (y:af),(ch e l)[k]?=some y->∃ a,l[k / e.z]?=some a/\(e.cells a)[k % e.z]?=some y
 | [],k,y,h=>by simp [ch] at h
 | a::l,k,y,h=>by
  have he:ch e (a::l)=e.cells a++ch e l:=by simp [ch]
  rw [he] at h;by_cases hk:k<e.z
  ·rw [List.getElem?_append_left (by rw [e.len]; exact hk)] at h;exact ⟨a,by simp [Nat.div_eq_of_lt hk],by rw [Nat.mod_eq_of_lt hk]; exact h⟩
  ·rw [List.getElem?_append_right (by rw [e.len]; omega),e.len] at h;obtain ⟨b,h1,ak⟩:=LA e bB l (k - e.z) y h;have aV:k / e.z=(k - e.z) / e.z+1:=by rw [Nat.div_eq_sub_div bB (by omega)]
   refine ⟨b,by rw [aV]; simpa using h1,?_⟩;rw [Nat.mod_eq_sub_mod (by omega)]; exact ak
theorem mE.slice {e:cv α}{t xH:TypeId}{ok:α->Prop}(h:mE P e xH ok) (aC:P.underlying t=some (.slice xH)) (bB:P.cellsOf t=1) (uK:0<e.z) :
  mE P (bY e) t (λl=>l.length<=maxLen/\∀ x∈l,ok x):=by
 classical
 refine ⟨bB,λ{H enc w n cs x} av=>?_⟩;rcases open_slice aC av with ⟨rfl,rfl⟩ | ⟨a,len,cap,m,cT,D,n9,rfl,aF,ao,hm,Fk,rfl,J⟩
 ·exact ⟨[],⟨by simp,by simp⟩,mm.one rfl (.hz λ_ h=>h)⟩
 ·have RG:m=cap:=by simpa using Fk
  subst RG;have hex:∀ i,i<len->∃ q:α × List Value,ok q.1/\mm w (e.cells q.1) q.2/\w.cells? 0 (a.add (i * P.cellsOf xH)) (P.cellsOf xH)=some q.2:=λi hi=>by
   obtain ⟨cs',h1,ak⟩:=J i (by omega);obtain ⟨b,dh,cY⟩:=h.go ak;exact ⟨(b,cs'),dh,cY,h1⟩
  by_cases ba:len=0
  ·subst ba;exact ⟨[],⟨by simp,by simp⟩,mm.one rfl (.hz λ_ h=>h)⟩
  ·obtain ⟨tt,_⟩:=hex 0 (by omega)
   haveI:Inhabited (α × List Value):=⟨tt⟩
   obtain ⟨f,bh⟩:=choose_lt hex;have hlen:((List.range len).map λi=>(f i).1).length=len:=by simp
   have oC:∀ (i:Nat) (b:α),((List.range len).map λi=>(f i).1)[i]?=some b->i<len/\b=(f i).1:=λi b hi=>by
    have a8:=(List.getElem?_eq_some_iff.1 hi).1;simp at a8;simp [a8] at hi;exact ⟨a8,hi.symm⟩
   have kE:a.spot=none/\a.block<w.heap.size:=by
    obtain ⟨_,_,aN⟩:=bh 0 (by omega);obtain ⟨_,Ff,cZ⟩:=World.cells?_some aN;have dv:=cZ 0 (by rw [h.z]; exact uK);simp only [Nat.zero_mul,Addr.add,if_true] at dv;have:0<(f 0).2.length:=by rw [Ff,h.z]; exact uK
    rw [List.getElem?_eq_getElem this] at dv;unfold World.cell? at dv
    split at dv
    ·rename_i b_;refine ⟨?_,(Array.getElem?_eq_some_iff.1 b_).1⟩;cases aL:a.spot with
     | none=>rfl
     | some s=>simp [aL] at dv
    ·cases dv
   have key:∀ (k:Nat) (y:af),(ch e ((List.range len).map λi=>(f i).1))[k]?=some y->∃ u,w.cell? ⟨a.block,a.off+k,none⟩=some u/\u.oneCell'=true/\qC w y u:=λk y hk=>by
    obtain ⟨b,dh,cY⟩:=LA e uK _ k y hk;obtain ⟨hi,rfl⟩:=oC _ _ dh;obtain ⟨_,ak,aN⟩:=bh _ hi;obtain ⟨_,Ff,cZ⟩:=World.cells?_some aN;have Kh:k % e.z<e.z:=Nat.mod_lt _ uK;have dv:=cZ (k % e.z) (by rw [h.z]; exact Kh);rw [Deep.add_add,h.z] at dv;have gD:k / e.z * e.z+k % e.z=k:=by rw [Nat.mul_comm]; exact Nat.div_add_mod k e.z
    rw [gD] at dv;have a8:k % e.z<(f (k / e.z)).2.length:=by rw [Ff,h.z]; exact Kh
    rw [List.getElem?_eq_getElem a8] at dv;have bf:a.add k=⟨a.block,a.off+k,none⟩:=by
     unfold Addr.add;split
     ·rename_i P2; subst P2; cases a; simp at kE ⊢; exact kE.1
     ·rfl
    rw [bf] at dv;exact ⟨_,dv,ak.2 _ _ _ cY (List.getElem?_eq_getElem a8)⟩
   refine ⟨(List.range len).map λi=>(f i).1,⟨by rw [hlen]; omega,λy ay=>?_⟩,mm.one rfl ?_⟩
   ·obtain ⟨i,hi,rfl⟩:=List.mem_map.1 ay;exact (bh i (List.mem_range.1 hi)).1
   ·show qC w (.aD e.z _ _) _;rw [hlen];refine .aD (us:=λk=>(w.cell? ⟨a.block,a.off+k,none⟩).getD .nilFunc) (λ_ h=>h) ao kE.2 kE.1 (by rw [nt,hlen]) (λk y hk=>?_) (λk y hk=>?_) (λk y hk=>?_)
    ·obtain ⟨u,h1,ak,aN⟩:=key k y hk;simp only [h1,Option.getD_some]; exact ak
    ·obtain ⟨u,h1,ak,aN⟩:=key k y hk;simp only [h1,Option.getD_some]
    ·obtain ⟨u,h1,ak,aN⟩:=key k y hk;simp only [h1,Option.getD_some]; exact aN
def yC (P:Program):Nat->List Field->List TypeId->Bool
 | _,[],[]=>true
 | off,f::fs,t::gK=>decide (f.type=t)&&decide (f.offset=off)&&yC P (off+P.cellsOf t) fs gK
 | _,_,_=>false
def L2 (P:Program) (t:TypeId) (gK:List TypeId):Bool :=
 match P.underlying t with
 | some (.struct fs)=>yC P 0 fs.toList gK&&decide (P.cellsOf t=(gK.map P.cellsOf).sum)
 | _=>false
structure vG (P:Program) (cells:β->List af) (gK:List TypeId) (ok:β->Prop):Prop where
 go:∀ {H:Type}{enc:TypeId × Value->H}{w:World}{n:Nat}{cs:List Value}{fs:List Field}{off:Nat},yC P off fs gK=true->cs.length=off+(gK.map P.cellsOf).sum ->
  (∀ (i:Nat) (f:Field),fs[i]?=some f->∃ x,DataW.trod enc P w 0 (λ_=>true) true n f.type ((cs.drop f.offset).take (P.cellsOf f.type))=some x) ->
  ∃ b,ok b/\mm w (cells b) (cs.drop off)
theorem vG.nil:vG P (λ_:Unit=>[]) [] (λ_=>True) :=
 ⟨λ{H enc w n cs fs off} _ ao _=>⟨(),trivial,by rw [List.drop_eq_nil_of_le (by simp at ao; omega)]; exact mm.nil⟩⟩
theorem vG.cons {e:cv α}{t:TypeId}{gK:List TypeId}{ok:α->Prop}{cells:β->List af}{K_:β->Prop}(h:mE P e t ok) (ao:vG P cells gK K_) :
  vG P (λp:α × β=>e.cells p.1++cells p.2) (t::gK) (λp=>ok p.1/\K_ p.2):=by
 refine ⟨λ{H enc w n cs fs off} jb hlen av=>?_⟩;cases fs with
 | nil=>simp [yC] at jb
 | cons f fs =>
  simp only [yC,Bool.and_eq_true,decide_eq_true_eq] at jb;obtain ⟨⟨rfl,rfl⟩,jb⟩:=jb;obtain ⟨x,J⟩:=av 0 f rfl;obtain ⟨a,bf,bg⟩:=h.go J;obtain ⟨b,aF,QC⟩:=ao.go (off:=f.offset+P.cellsOf f.type) (cs:=cs) jb (by rw [hlen]; simp [Nat.add_assoc]) (λi PJ s3=>av (i+1) PJ (by simpa using s3));refine ⟨(a,b),⟨bf,aF⟩,?_⟩;have:cs.drop f.offset=(cs.drop f.offset).take (P.cellsOf f.type)++cs.drop (f.offset+P.cellsOf f.type):=by
   rw [<- List.drop_drop]; exact (List.take_append_drop _ _).symm
  rw [this];exact bg.app QC
theorem mE.struct {e:cv Hu}{t:TypeId}{gK:List TypeId}{cells:β->List af}{ok:β->Prop}(h:vG P cells gK ok) (mk:β->Hu) (un:Hu->β) (Ky:∀ b,un (mk b)=b) (aa:∀ b,e.cells (mk b)=cells b) (aC:L2 P t gK=true) (bB:P.cellsOf t=e.z) :
  mE P e t (λs=>ok (un s)):=by
 refine ⟨bB,λ{H enc w n cs x} av=>?_⟩;unfold L2 at aC
 split at aC
 ·rename_i fs hu;simp only [Bool.and_eq_true,decide_eq_true_eq] at aC;obtain ⟨xs,cT,rfl,rfl,ao,FM,J⟩:=DataW.trod_struct hu av;obtain ⟨b,aF,bg⟩:=h.go (w:=w) (off:=0) (cs:=cs) (fs:=fs.toList) (n:=cT) (enc:=enc) aC.1 (by rw [ao,aC.2]; simp) (λi f bh=>by
   have s3:fs[i]?=some f:=by simpa using bh
   have hi:i<xs.length:=by rw [FM]; exact (Array.getElem?_eq_some_iff.1 s3).1
   exact ⟨xs[i],by rw [J i f s3,List.getElem?_eq_getElem hi]⟩)
  exact ⟨mk b,by rw [Ky]; exact aF,by rw [aa]; simpa using bg⟩
 ·cases aC
inductive AL (w:World):af->Value->Prop
 | mk {y:af}{v:Value}(h:qC w y v):AL w y v
theorem mE.one {e:cv α}{t:TypeId}{ok:α->Prop}{g:α->af}(h:mE P e t ok) (he:∀ a,e.cells a=[g a]) {H:Type}{enc:TypeId × Value->H}{w:World}{v:Value}{d:DataW H}{p:List MemPlace}(hv:v.cells.toList=[v])
  (aC:DataW.Trod enc P w 0 (λ_=>true) true t v d p):∃ a,ok a/\AL w (g a) v:=by
 obtain ⟨n,aJ⟩:=aC;obtain ⟨a,bf,bg⟩:=h.go aJ;refine ⟨a,bf,.mk ?_⟩;rw [hv,he] at bg;exact (bg.2 0 _ _ rfl rfl).2
theorem mE.Tn {e:cv α}{t xH:TypeId}{ok:List α->Prop}(h:mE P (bY e) t ok) (hu:P.underlying t=some (.slice xH)) {H:Type}{enc:TypeId × Value->H}{w:World}{v:Value}{d:DataW H}{p:List MemPlace}{base:Nat}(hv:Value.okWide P w .any base t v)
  (aC:DataW.Trod enc P w 0 (λ_=>true) true t v d p):∃ a,ok a/\AL w (aj e a) v:=by
 obtain ⟨a,l,c,rfl⟩:=okWide_slice hu hv;exact h.one (λ_=>rfl) rfl aC
inductive sx (w:World):List af->List Value->Prop
 | nil:sx w [] []
 | cons {y:af}{v:Value}{ys:List af}{vs:List Value}(h:AL w y v) (aL:sx w ys vs):sx w (y::ys) (v::vs)
theorem sx.get {w:World}{ys:List af}{vs:List Value}(h:sx w ys vs):ys.length=vs.length/\∀ (k:Nat) (y:af),ys[k]?=some y->∃ v,vs[k]?=some v/\qC w y v:=by
 induction h with
 | nil=>exact ⟨rfl,λk y h=>by simp at h⟩
 | cons h _ aS =>
  refine ⟨by simp [aS.1],λk y ay=>?_⟩;cases k with
  | zero =>
   simp at ay; subst ay;obtain ⟨h⟩:=h;exact ⟨_,rfl,h⟩
  | succ k=>simpa using aS.2 k y (by simpa using ay)
theorem sx.Uc {w:World}{ys:List af}{vs:List Value}(h:sx w ys vs) (aE:ys.all (λy=>match y with | .b3 ..=>false | _=>true)=true) :
  cV w (λb=>b<w.heap.size) vs.toArray (oe ys) (λ_=>cR):=by
 refine ⟨λt x J=>?_,λ_ _ _ h=>h,λ_ _ _ h=>h.elim,λ_ _ h=>h.elim,λ_ h=>h,λt c' z p n m new cD cT b6 c7 h1 _=>?_⟩
 ·obtain ⟨v,hv,bg⟩:=h.get.2 t x J;exact ⟨v,by simpa using hv,.tree (bg.frame (λ_ _=>rfl) (λ_ h=>h) (λ_ _ h=>h.elim) (λ_ _=>rfl))⟩
 ·have:=List.all_eq_true.1 aE _ (List.mem_of_getElem? h1);cases this
structure HA (w w':World):Prop where
 kept:∀ may:MemPlace->Prop,w.keptBut w' may
 fI:∀ a,a.block<w.heap.size->w'.frozen? a=w.frozen? a
theorem cf.UQ {f:FuncId}{ys:List af}{vs:List Value}{outs:List (Option af)}{r:Value}(aa:cf P f ys outs (.lit r)) (w:World) (h:sx w ys vs) (aE:ys.all (λy=>match y with | .b3 ..=>false | _=>true)=true) :
  Calls P f vs.toArray w λe w'=>e=.returned r/\HA w w'/\∀ i:Nat,i<w.heap.size->w'.heap[i]?=w.heap[i]?:=by
 have:=aa.2 w _ vs _ h.get.1.symm (h.Uc aE);refine this.mono ?_;rintro e w' ⟨v,I',cn,rfl,bW,cd⟩;obtain ⟨u,hu,bg⟩:=bW.rel outs.length (.lit r) (by simp [nZ]);have ao:outs.length=vs.length:=by rw [aa.1]; exact h.get.1
 have Cd:u=v:=by
  rw [ao] at hu;simpa using hu.symm
 subst Cd;have hv:=(bg.hE (by simp)).hV.1;subst hv;have aF:∀ i:Nat,i<w.heap.size->w'.heap[i]?=w.heap[i]?:=λi hi=>cd.fp.block i hi λ⟨_,h⟩=>h;have hk:World.keptBut w w' (λ_=>False):=⟨cd.fp.os,cd.fp.output,λi hi=>by
  rw [aF i hi];exact (World.keptBut_refl w (λ_=>False)).2.2 i hi⟩
 exact ⟨rfl,⟨λmay=>World.keptBut_mono (λ_ f=>f.elim) hk,cd.fp.fI⟩,aF⟩
theorem Mj {H:Type}{enc:TypeId × Value->H}{w w':World}{base:Nat}{sp:Nat->Bool}{held:Bool}(aF:∀ i:Nat,i<w.heap.size->w'.heap[i]?=w.heap[i]?) :
  ∀ {gK:List TypeId}{vs:List Value}{fo:List (DataW H)}{ps:List MemPlace},DataW.TrodAll enc P w base sp held gK vs fo ps->DataW.TrodAll enc P w' base sp held gK vs fo ps
 | [],[],[],_,h=>h
 | _::_,_::_,_::_,_,⟨p,q,⟨n,aJ⟩,ak,e⟩=>by
  refine ⟨p,q,⟨n,DataW.trod_carry n _ _ _ aJ λx J=>?_⟩,Mj aF ak,e⟩;have a8:=DataW.trod_lt n _ _ _ aJ x J;cases x with
  | cell b off =>
   show w'.cell? _=w.cell? _;exact World.cell?_of_block (aF b a8)
  | map b=>exact aF b a8
theorem Nn {H:Type}{enc:TypeId × Value->H}{w w':World}(ao:laidOutB P=true) (hm:mapsRowed P=true)
  (bB:((List.range P.types.size).all λt=>match P.underlying t with | some (.slice e)=>decide (0<P.cellsOf e) | _=>true)=true)
  (aF:∀ i:Nat,i<w.heap.size->w'.heap[i]?=w.heap[i]?) {gK:List TypeId}{vs:List Value}{fo:List (DataW H)}{ps:List MemPlace}(aC:gK.all (λt=>decide (t<P.types.size))=true)
  (h:DataW.TrodAll enc P w 0 (λ_=>true) true gK vs fo ps) {sp:Nat->Bool}(kE:∀ p∈ps,sp p.block=true):DataW.TrodAll enc P w' 0 sp true gK vs fo ps :=
 (Mj aF h).respare (kids_rows ao hm) (slices_full_of P bB) (λt h=>of_decide_eq_true (List.all_eq_true.1 aC t h)) kE
end Go.Own
namespace Go.Own
open Go
section
variable {α β:Type}{P:Program}{N:dy}{g g1:aU}{p:Place}{m:Int}{a b:Operand}{t:TypeId}
theorem af.H5:∀ (l:List Nat) {x nd:af}{k:Nat}{c:af},x.at l=some nd->nd.kids[k]?=some c->x.at (l++[k])=some c
 | [],x,nd,k,c,h,hk=>by
  simp only [af.at,Option.some.injEq] at h;subst h;simp [af.at,hk]
 | ae::l,x,nd,k,c,h,hk=>by
  simp only [af.at] at h;cases ab:x.kids[ae]? with
  | none=>rw [ab] at h; cases h
  | some y =>
   rw [ab] at h;simp only [List.cons_append,af.at,ab];exact af.H5 l h hk
theorem af.LQ:∀ (l:List Nat) {x nd:af}{k:Nat}{c:af}(y:af),x.at l=some nd->nd.kids[k]?=some c->x.setAt (l++[k]) y=x.setAt l (nd.tD k y)
 | [],x,nd,k,c,y,h,hk=>by
  simp only [af.at,Option.some.injEq] at h;subst h;simp [af.setAt,hk]
 | ae::l,x,nd,k,c,y,h,hk=>by
  simp only [af.at] at h;cases ab:x.kids[ae]? with
  | none=>rw [ab] at h; cases h
  | some z =>
   rw [ab] at h;simp only [List.cons_append,af.setAt,ab];rw [af.LQ l y h hk]
theorem IY {en:cv α}{L:List α}{jB:α}{o:Nat}{c:af}(h:idx L m=some jB) (aa:(en.cells jB)[o]?=some c):(al en L).kids[m.toNat * en.z+o]?=some c:=Lx en h aa
theorem tV {en:cv α}{L:List α}{jB:α}{r o:Nat}{path:List Nat}{c:af}(aE:b9 g ⟨r,path⟩=some (al en L)) (h:idx L m=some jB) (aa:(en.cells jB)[o]?=some c):b9 g ⟨r,path++[m.toNat * en.z+o]⟩=some c:=by
 unfold b9 at aE ⊢;simp only at aE ⊢;cases J:g r with
 | none=>rw [J] at aE; cases aE
 | some x =>
  rw [J] at aE;exact af.H5 path aE (IY h aa)
theorem LU {en:cv α}{L:List α}{jB:α}{r o:Nat}{path:List Nat}{c:af}(y:af) (aE:b9 g ⟨r,path⟩=some (al en L)) (h:idx L m=some jB) (aa:(en.cells jB)[o]?=some c) :
  c0 g ⟨r,path++[m.toNat * en.z+o]⟩ y=c0 g ⟨r,path⟩ (.own en.z L.length ((ch en L).set (m.toNat * en.z+o) y)):=by
 funext s;unfold c0;simp only;split
 ·rename_i e;subst e;unfold b9 at aE;simp only at aE;cases J:g s with
  | none=>rfl
  | some x =>
   rw [J] at aE;simp only [Option.map_some,Option.some.injEq];rw [af.LQ path y aE (IY h aa)];rfl
 ·rfl
theorem Ua (l:List af) (k:Nat) (x c:af):fu (l.set k x) k [c]=fu l k [c]:=by
 unfold fu;simp only [List.length_singleton];rw [List.take_set,List.drop_set];rw [List.set_eq_of_length_le (by simp; omega)];simp
theorem cq.L1 {hl:Oper}{en:cv α}{en2:cv β}{L:List α}{jB y2:α}{o5 M R:List β}{o s w5:Nat}{new c7:List af}{x2 y0:af}{G2:List (Nat × af)}
  (bd:hl.op=.store t a b) (aV:hl.dst=none) (bf:Rd g a (.ptr p (m.toNat * en.z+o))) (aF:Rd g b (.bq en2.z ⟨s,[]⟩ (o5.length+w5)))
  (rW:g s=some (.b3 en2.z ⟨p.root,p.path++[m.toNat * en.z+o]⟩ o5.length w5 new)) (aE:b9 g p=some (al en L)) (h:idx L m=some jB) (k8:(en.cells jB)[o]?=some (al en2 o5)) (bK:Nat.beq p.root s=false)
  (h1:iz (c0 (c0 g ⟨s,[]⟩ .dead) p (.own en.z L.length ((ch en L).set (m.toNat * en.z+o) .dead))) new c7 g1)
  (pk:gp c7 (ch en2 M)) (hm:M.length=w5) (bg:o5++M=R) (bB:gn P t 1=true)
  (s':b9 g1 p=some (.own en.z L.length ((ch en L).set (m.toNat * en.z+o) .dead)))
  (he:fu (en.cells jB) o [al en2 R]=en.cells y2) (hlen:Nat.ble (o+1) en.z=true)
  (hM:c0 g1 p (al en (L.set m.toNat y2)) p.root=some x2) (av:(get G2 p.root).isSome=true) (uS:g1 p.root=some y0) [gW:cK y0] (eb:kP g1 (get G2) p.root x2 G2):cq P N g hl (get G2):=by
 subst hm bg;have yZ:=Nat.le_of_ble_eq_true hlen;have kE:=GK en (cs':=[al en2 (o5++M)]) h he (by simpa using yZ);have Fe:(L.set m.toNat y2).length=L.length:=List.length_set;have B':=Nat.ne_of_beq_eq_false bK;have yP:b9 g ⟨p.root,p.path++[m.toNat * en.z+o]⟩=some (al en2 o5):=tV (g:=g) (r:=p.root) (path:=p.path) aE h k8;have RP:b9 (c0 g ⟨s,[]⟩ .dead) p=some (al en L):=by
  unfold b9 at aE ⊢;rw [si (p:=⟨s,[]⟩) (λe=>B' e)]; exact aE
 have aC:iz g [.bq en2.z ⟨s,[]⟩ (o5.length+M.length)] [.own en2.z (o5.length+M.length) (ch en2 o5++c7)] g1:=by
  refine .lI rW yP bK ?_ .nil;rw [LU .dead (r:=p.root) (path:=p.path) RP h k8];exact h1
 have hk:m.toNat * en.z+o+1<=L.length * en.z:=by
  obtain ⟨tt,jN,_⟩:=pt h;have ak:m.toNat+1<=L.length:=by omega
  calc m.toNat * en.z+o+1<=m.toNat * en.z+en.z:=by omega
   _=(m.toNat+1) * en.z:=by rw [Nat.add_mul]; omega
   _<=L.length * en.z:=Nat.mul_le_mul_right _ ak
 refine .store bd aV bf.bI aF.bI aC.take (y':=al en2 (o5++M)) ?_ rfl bB (p:=p) (nd:=.own en.z L.length ((ch en L).set (m.toNat * en.z+o) .dead)) (z:=en.z) (n:=L.length) (cs:=(ch en L).set (m.toNat * en.z+o) .dead) s' (.inl rfl) ?_ (by simp) (λt x J=>?_) (λt x J y ay=>?_) (λt z q n m new J=>?_) (by intro e; rw [e] at av; cases av)
 ·rw [<- CA]; exact (pk.pre _).own
 ·simp only [List.length_singleton,List.length_set,nt]; exact hk
 ·have fU:(af.own en.z L.length ((ch en L).set (m.toNat * en.z+o) .dead)).fu (m.toNat * en.z+o) [al en2 (o5++M)]=al en (L.set m.toNat y2):=by
   show af.own en.z L.length (fu ((ch en L).set (m.toNat * en.z+o) .dead) (m.toNat * en.z+o) [al en2 (o5++M)])=_;unfold al at kE ⊢;rw [Ua,kE,Fe]
  rw [fU];rcases eb.spec t x J with ⟨h1,ak,_⟩ | ⟨h1,ak,_⟩
  ·rw [si h1]; exact ak
  ·subst h1 ak; exact hM
 ·rcases eb.spec t x J with ⟨h1,ak,aN⟩ | ⟨h1,ak,aN⟩
  ·rw [ak] at ay; cases ay;rcases aN with aN | ⟨aN,c2,rfl⟩
   ·exact aN.GI
   ·refine j0.ref (by cases aN; rfl) ⟨aN.K8,aN.clear ?_,aN.Gm⟩;intro e;obtain ⟨gu,pp⟩:=p;simp only at e;subst e;simp only [c0,if_true,uS,Option.map_some,af.setAt,Option.some.injEq] at hM;cases hM
  ·subst h1; rw [uS] at ay; cases ay; exact .bE gW.bE
 ·rcases eb.spec t _ J with ⟨_,_,aN | ⟨aN,_⟩⟩ | ⟨_,_,aN⟩
  ·exact aN.fF _ _ _ _ _ rfl
  ·exact aN.fF _ _ _ _ _ rfl
  ·cases aN
end
end Go.Own
/- Short forms for printed walks. -/
namespace Go.Own
open Go
section
variable {P:Program}{N:dy}{ops:Array Oper}{cc:List (List Nat)}{g g0:aU}{K:aU->Prop}{l:List Oper}{acc:Acc}{d i:Nat}{op:Op}{ty:TypeId}{pos:String}{after:Array Edge}{x:af}
theorem ai (aE:dg P g op ty x) (hk:au P N ops l (eM g d x) K) (bU:N.ok d=true:=by rfl) (bh:g d=none:=by rfl):au P N ops (⟨some d,op,ty,pos,after,none⟩::l) g K:=.v aE bU bh .none hk
theorem d' (aE:cw P g op x) (hk:au P N ops l (eM g d x) K) (bU:N.ok d=true:=by rfl) (bh:g d=none:=by rfl):au P N ops (⟨some d,op,ty,pos,after,none⟩::l) g K:=.c aE bU bh .none hk
theorem aw (df:Nat) (aE:dg P (nz cc g0 df acc) op ty x) (hk:b1 P N ops cc g0 i ((df,d,some x)::acc) l K) (ab:Nat.beq ops.size (df+l.length+1)=true:=by rfl) (bh:g0 d=none:=by rfl) (aJ:acc.all (λe=>!Nat.beq e.2.1 d)=true:=by rfl) (bU:N.ok d=true:=by rfl) :
  b1 P N ops cc g0 i acc (⟨some d,op,ty,pos,after,none⟩::l) K:=.v df aE ab bh aJ bU .none hk
theorem jn (df:Nat) (aE:cw P (nz cc g0 df acc) op x) (hk:b1 P N ops cc g0 i ((df,d,some x)::acc) l K) (ab:Nat.beq ops.size (df+l.length+1)=true:=by rfl) (bh:g0 d=none:=by rfl) (aJ:acc.all (λe=>!Nat.beq e.2.1 d)=true:=by rfl) (bU:N.ok d=true:=by rfl) :
  b1 P N ops cc g0 i acc (⟨some d,op,ty,pos,after,none⟩::l) K:=.c df aE ab bh aJ bU .none hk
end
instance {z n:Nat}{cs:List af}:nE (.own z n cs):=⟨by simp⟩
def aT (a n:Nat) (l:List Nat):List Nat:=List.range' a n++l
end Go.Own
namespace Go.Own
open Go
section
variable {α:Type}{P:Program}{N:dy}{g:aU}{d r:Nat}{ty:TypeId}
instance {fn:Fn}{cs:List af} [h:eG cs]:cK (.ea fn [] cs):=⟨.ea (by simp) h.bE⟩
theorem hB.iX {o:Oper}{xs:List Operand}{ia:Array TypeId}{f:FuncId}{ys args:List af}{res:af}{en:cv α}{L L':List α}{G2:List (Nat × af)}(bd:o.op=.call { callee:=.value (.func f),args:=xs.toArray,argTypes:=ia }) (aV:o.dst=some d) (J:Own.il g xs=some (.bq en.z ⟨r,[]⟩ L.length::ys))
  (aL:g r=some (al en L)) (hv:o' (get ((r,.dead)::G2)) ys args) (iR:cf P f (al en L::args) (some (al en L')::args.map λ_=>none) res) (bh:dD P f=true) [av:pM res] [uL:pM (al en L')]
  (eb:Trim false (c0 g ⟨r,[]⟩ .dead) (get ((r,.dead)::G2)) G2) (aY:get G2 d=none) (za:Nat.beq r d=false) (yJ:Trim false (get ((r,al en L')::G2)) (get ((r,al en L')::G2)) G2) (bU:N.ok d=true) :
  hB P N g o d (get ((d,res)::(r,al en L')::G2)):=by
 have zb:r≠d:=Nat.ne_of_beq_eq_false za;have D0:get ((r,af.dead)::G2) r=some .dead:=by simp [get]
 have l3:∀ x∈ch en L,c6 x:=by
  intro x J;obtain ⟨a,_,bf⟩:=List.mem_flatMap.1 J;exact en.bE a x bf
 have fV:(ch en L).take (L.length * en.z)=ch en L:=List.take_of_length_le (by rw [nt]; exact Nat.le_refl _);have uZ:gx (c0 g ⟨r,[]⟩ .dead) (get ((r,.dead)::G2)):=by
  refine ⟨λt x h=>?_,λt x h=>?_,λt z q n m new h=>?_⟩
  all_goals
   simp only [get] at h
   split at h
  ·rename_i e; subst e; cases h; simp [c0,aL,af.setAt]
  ·obtain ⟨⟨y,h1,_,aN⟩,_⟩:=eb.spec t x h; rw [<- aN rfl]; exact h1
  ·cases h; exact .bE .dead
  ·exact (eb.spec t x h).2.1
  ·cases h
  ·exact (eb.spec t _ h).2.2 _ _ _ _ _ rfl
 have put:oY (get ((r,.dead)::G2)) [(⟨r,[]⟩,al en L')]=get ((r,al en L')::G2):=by
  funext t;simp only [oY,c0,get];by_cases h:t=r
  ·simp [h,af.setAt]
  ·simp [h]
 have u0:gx (get ((r,al en L')::G2)) (get ((r,al en L')::G2)):=by
  refine ⟨λt x h=>h,λt x h=>?_,λt z q n m new h=>?_⟩
  all_goals
   simp only [get] at h
   split at h
  ·cases h; exact .bE uL.kJ.bE
  ·exact (yJ.spec t x h).2.1
  ·cases h
  ·exact (yJ.spec t _ h).2.2 _ _ _ _ _ rfl
 have ao:=hv.len;have pV:get ((d,res)::(r,al en L')::G2)=eM (get ((r,al en L')::G2)) d res:=by
  funext t;rw [sR]
 rw [pV];refine vM.ok (first:=[]) (caps:=[]) (ys:=.bq en.z ⟨r,[]⟩ L.length::ys) (tk:=λk=>k == 0) (vw:=true) (outs:=some (al en L')::args.map λ_=>none) (g1:=c0 g ⟨r,[]⟩ .dead) (g2:=get ((r,.dead)::G2)) (g4:=get ((r,al en L')::G2)) (l:=[(⟨r,[]⟩,al en L')]) (ks:=λ_=>0) (xs0:=.bq en.z ⟨r,[]⟩ L.length::ys.map λ_=>.dead) (xs1:=al en L::ys.map λ_=>.dead) (args:=al en L::args) (res:=res) bd aV rfl (by simpa using J)
  ⟨bh,by simp,by simpa using ao,λk x h=>?_,?_,uZ,λk x y J ay=>?_,iR,by simpa using av.kJ,λk x h=>?_,λae p x ab=>?_,by simp,λi ae hi ab _=>by simp at hi ab; omega,by rw [put]; exact u0⟩ ?_ bU tI.refl
 ·simp only [List.nil_append,List.append_nil] at h;cases k with
  | zero=>exact .inl h
  | succ k =>
   refine .inr ?_;simp only [List.getElem?_cons_succ] at h ⊢;rw [List.getElem?_map,h]; rfl
 ·have h1:Take (c0 g ⟨r,[]⟩ .dead) ((ch en L).take (L.length * en.z)) (ch en L) (c0 g ⟨r,[]⟩ .dead):=by rw [fV]; exact .bE l3
  refine .bq (N:=L.length) (by simp [b9,aL,af.at]) (Nat.le_refl _) h1 (.bE λx J=>?_);obtain ⟨_,_,rfl⟩:=List.mem_map.1 J;exact .dead
 ·simp only [List.nil_append,List.append_nil] at J;cases k with
  | zero=>simpa using ay
  | succ k =>
   simp only [List.getElem?_cons_succ] at J ay;exact ⟨rfl,hv.get k x y J ay⟩
 ·cases k with
  | zero=>simp only [List.getElem?_cons_zero,Option.some.injEq] at h; subst h; exact uL.kJ
  | succ k =>
   simp only [List.getElem?_cons_succ,List.getElem?_map] at h;cases bf:args[k]? <;> rw [bf] at h <;> cases h
 ·cases ae with
  | succ ae=>simp at ab
  | zero =>
   simp only [List.getElem?_cons_zero,Option.some.injEq,Prod.mk.injEq] at ab;obtain ⟨rfl,rfl⟩:=ab;exact ⟨rfl,by simp [b9,D0,af.at],.inl ⟨en.z,L.length,ch en L,rfl,by simp [b9,aL,af.at]⟩⟩
 ·simp only [get,if_neg (Ne.symm zb)]; exact aY
end
end Go.Own
namespace Go.Own
open Go Go.Proofs Go.Shelf Go.Lib Go.Sort
section
variable {P:Program}{w:World}
end
end Go.Own
namespace Go.Own
open Go
section
variable {α:Type}{P:Program}{N:dy}{g g1 g2 g3:aU}{ops:Array Oper}{cc:List (List Nat)}{acc:Acc}{l:List Oper}{K:aU->Prop}{i d r:Nat}
theorem cV.settle {w:World}{I:bn}{T:Array Value}{Fs:Nat->bn}(h:cV w I T g Fs) (a:Act) (bf:a.tmps=T) {gK:List Nat}{xs ys:List af}(J:Own.il g (gK.map Operand.tmp)=some xs) (aC:Take g xs ys g1) (fU:gK.Nodup) (ao:ys.length=gK.length) (aV:∀ t∈gK,g1 t=some .dead)
  (hk:gx (oY g1 ((gK.map λt=>(⟨t,[]⟩:Place)).zip ys)) g2):∃ cn,cV w I T g2 cn/\∀ c,(∃ t,cn t c)->∃ t,Fs t c:=by
 obtain ⟨FM,SA⟩:=xb h bf J;have Sz:xs.length=gK.length:=by rw [FM,List.length_map]
 have hand:Hand w I (fT w T) Fs xs (gK.map λt=>a.eval (.tmp t)) (λ_=>cR):=by
  refine ⟨by rw [Sz,List.length_map],λk x u oN hu=>?_,λ_ _ _ _ _ h=>h.elim,λ_ _ _ _ h=>h.elim,λ_ _ _ h=>h.elim⟩;rw [List.getElem?_map] at hu;cases fV:gK[k]? with
  | none=>rw [fV] at hu; cases hu
  | some t =>
   rw [fV] at hu; cases hu;exact (SA k x (.tmp t) oN (by rw [List.getElem?_map,fV]; rfl)).frame (λ_ _=>rfl) (λ_ h=>h) (λ_ _ h=>h.1) λ_ _=>rfl
 obtain ⟨fS,H1,iO,ih,gU⟩:=aC.sound h.lP hand;have r2:((gK.map λt=>(⟨t,[]⟩:Place)).zip ys).length=gK.length:=by rw [List.length_zip,List.length_map,ao]; exact Nat.min_self _
 obtain ⟨iI,hS,aP⟩:=jt.oY ((gK.map λt=>(⟨t,[]⟩:Place)).zip ys) H1 (λae=>((gK.map λt=>a.eval (.tmp t))[ae]?).getD undef) iO (by
   rw [List.map_fst_zip (by rw [List.length_map,ao]; exact Nat.le_refl _)];exact List.Pairwise.map _ (λa b h e=>h (congrArg Place.root e)) fU) (λae p x ab=>by
   rw [List.getElem?_zip_eq_some] at ab;obtain ⟨h1,ak⟩:=ab;rw [List.getElem?_map] at h1;cases fV:gK[ae]? with
   | none=>rw [fV] at h1; cases h1
   | some t =>
    rw [fV] at h1; cases h1;have JZ:=aV t (List.mem_of_getElem? fV);obtain ⟨v,hv,_⟩:=iO.rel t .dead JZ;have jf:a.eval (.tmp t)=v:=by simp [Act.eval,bf,hv]
    have FD:(gK.map λt=>a.eval (.tmp t))[ae]?=some v:=by rw [List.getElem?_map,fV]; simp [jf]
    refine ⟨by simp [b9,JZ,af.at],?_,?_⟩
    ·rw [FD];show ef w T ⟨t,[]⟩=some v;unfold ef;simp only [hv,walk]
    ·rw [FD];exact ih.rel ae x v ak FD) (λae t c ab aa=>ih.off ae t c (by omega) aa) (λae c ab aa=>ih.aD ae c (by omega) aa) (λi ae c hi ab h1 ak=>ih.eT i ae c (by omega) (by omega) h1 ak)
 refine ⟨_,hS.keep hk,λc ⟨t,_,aa⟩=>?_⟩;have:kO fS ys.length H1 c:=by
  rcases aP t c aa with h | ⟨ae,ab,h⟩
  ·exact .inl ⟨t,h⟩
  ·exact .inr ⟨ae,by omega,h⟩
 rcases gU c this with h | ⟨_,_,h⟩
 ·exact h
 ·exact h.elim
theorem lS.settle {o:Oper}{gK:List Nat}{xs ys:List af}(J:Own.il g (gK.map Operand.tmp)=some xs) (aC:Take g xs ys g1) (fU:gK.Nodup) (ao:ys.length=gK.length) (aV:∀ t∈gK,g1 t=some .dead)
  (hk:gx (oY g1 ((gK.map λt=>(⟨t,[]⟩:Place)).zip ys)) g2) (he:lS P N g2 o g3):lS P N g o g3:=by
 intro w I T Fs bW a bf bU K Q ep;obtain ⟨cn,er,gA⟩:=bW.settle a bf J aC fU ao aV hk;refine he w I T cn er a bf bU K Q λcx w' aJ aC=>ep cx w' ?_ aC;obtain ⟨de,cX,I',iI,h1,ak⟩:=aJ;exact ⟨de,cX,I',iI,h1,kt.trans ⟨Fr.refl _ _,λ_ h=>h,λ_ h=>.inl h,λc h=>.inl (gA c h)⟩ ak⟩
def Lk (p q:Place):Bool:=Nat.beq p.root q.root&&p.path == q.path
def Tb (p:Place) (acc:Acc):Bool:=acc.all λe=>match mc e with | some q=>!Lk p q | none=>true
theorem Tc {p:Place}{G:List (Nat × af)}{A:Nat->Bool}(h:Tb p acc=true) (eb:r7 G=true):∀ t z n m new,d_ (get G) A acc t≠some (.b3 z p n m new):=by
 intro t z n m new e;rcases ss e with ⟨cO,he,h1,_,ak⟩ | ⟨_,ak⟩
 ·have:=List.all_eq_true.1 h cO he;obtain ⟨k,d,x⟩:=cO;simp only at ak;subst ak;simp [mc,Lk] at this
 ·exact zI eb _ _ _ _ _ _ ak
theorem lS.cell {o:Oper}{r k0:Nat}{y:af}{cs:List af}{g5:aU}(av:g r=some (.obj cs)) (ay:cs[k0]?=some y) (uT:c6 y)
  (s_:∀ v:Value,v.oneCell'=true->∃ g1 g4,gx (c0 g ⟨r,[k0]⟩ (.lit v)) g1/\lS P N g1 o g4/\b9 g4 ⟨r,[k0]⟩=some (.lit v)/\gx (c0 g4 ⟨r,[k0]⟩ y) g5):n4 P N (λp=>p∈[(⟨r,[k0]⟩:Place)]) g o g5:=by
 intro w I T Fs h a bf bU K Q ep;have lB:∀ z q n m new,y≠.b3 z q n m new:=by rintro z q n m new rfl; cases uT
 have fK:b9 g ⟨r,[k0]⟩=some y:=by simp [b9,av,af.at,af.kids,ay]
 obtain ⟨v,cG,hv,dL,dt,put⟩:=h.lP.part fK lB;have nU:v.oneCell'=true:=by
  obtain ⟨u,hu,lY⟩:=h.rel r _ av;obtain ⟨b,sq,h1,ak,aN,bP,_⟩:=R.node (z:=0) (n:=0) (lY.hE (by simp)) (.inr rfl) ay;have:ef w T ⟨r,[k0]⟩=child w u k0:=by
   unfold ef;simp only [hu,walk];cases child w u k0 <;> rfl
  rw [this,aN] at hv;cases hv;exact bP
 obtain ⟨fS,iO,yG,yH⟩:=put (.lit v) cR (.lit nU λ_ h=>h) (λ_ h=>h.elim) (λ_ h=>h.elim) (λ_ _ _ h=>h.elim);obtain ⟨g1,g4,hc,eA,EO,E9⟩:=s_ v nU;have qq:∀ t c,fS t c->Fs t c/\¬ cG c:=by
  intro t c aa;by_cases aC:t=r
  ·subst aC;rcases (yG c).1 aa with aR | aR
   ·exact aR
   ·exact aR.elim
  ·rw [yH t aC] at aa;exact ⟨aa,λbh=>aC (h.eT t r c aa (dt c bh))⟩
 have EG:=iO.keep hc;refine eA w I T _ EG a bf bU K Q λcx w' aJ qW=>?_;obtain ⟨de,cX,I',cn,er,cd⟩:=aJ;obtain ⟨v2,rl,pr,ly,Qm,GD⟩:=er.lP.part EO (by simp);have FC:v2=v:=ly.hV.1;subst FC;have Eu:∀ c,cG c->¬ I c:=λc aa=>h.aD r c (dt c aa);have uB:∀ c,cG c->c<w.heap.size:=λc aa=>h.jL r c (dt c aa);have u5:∀ c,cG c->¬ ∃ t,(g1 t≠none/\fS t c):=λc aa ⟨t,_,aR⟩=>(qq t c aR).2 aa;have zL:∀ t c,cn t c->¬ cG c:=by
  intro t c aa bh;rcases cd.own c ⟨t,aa⟩ with aR | aR
  ·exact u5 c bh aR
  ·have:=uB c bh; omega
 have Gl:∀ c,cG c->¬ I' c:=by
  intro c aa hi;rcases cd.new c hi with aR | aR | aR
  ·exact Eu c aa aR
  ·exact u5 c aa aR
  ·have:=uB c aa; omega
 have GN:∀ c,cG c->w'.heap[c]?=w.heap[c]?:=λc aa=>cd.fp.block c (uB c aa) (u5 c aa);have qm:∀ c,I c->w'.heap[c]?=w.heap[c]?:=λc aa=>cd.fp.block c (h.lt c aa) λ⟨t,_,aR⟩=>h.aD t c (qq t c aR).1 aa;have yM:R w' I' (fT w' cx.tmps) y v2 cG:=((dL.bE uT).frame qm cd.more (λ_ _ h=>h) GN);obtain ⟨Hz,EI,Eo,Ep⟩:=GD y cG yM (λc aa bh=>(zL _ c bh aa).elim) (λc aa=>Gl c aa) (λt c _ aa bh=>zL t c bh aa);have rQ:=EI.keep E9;refine ep cx w' ⟨de,cX,I',_,rQ,⟨?_,cd.more,λc aa=>?_,λc aa=>?_⟩⟩ qW λeR path aE y' l9 V1=>?_
 ·exact cd.fp.mono λb _ ⟨t,_,aR⟩=>⟨t,(qq t b aR).1⟩
 ·rcases cd.new c aa with aR | ⟨t,_,aR⟩ | aR
  ·exact .inl aR
  ·exact .inr (.inl ⟨t,(qq t c aR).1⟩)
  ·exact .inr (.inr aR)
 ·obtain ⟨t,_,aa⟩:=aa;have:(∃ t,cn t c)\/cG c:=by
   by_cases aC:t=r
   ·subst aC;rcases (Eo c).1 aa with ⟨aR,_⟩ | aR
    ·exact .inl ⟨_,aR⟩
    ·exact .inr aR
   ·rw [Ep t aC] at aa; exact .inl ⟨t,aa⟩
  rcases this with aR | aR
  ·rcases cd.own c aR with ⟨t,_,gl⟩ | gl
   ·exact .inl ⟨t,(qq t c gl).1⟩
   ·exact .inr gl
  ·exact .inl ⟨r,dt c aR⟩
 ·have aE:(⟨eR,path⟩:Place)∈[(⟨r,[k0]⟩:Place)]:=aE;have aE:=List.mem_singleton.1 aE;cases aE;rw [hv,pr]
end
end Go.Own
namespace Go.Own
open Go
section
variable {α:Type}{P:Program}{N:dy}{g:aU}{ops:Array Oper}{l:List Oper}{K:aU->Prop}{r n:Nat}{t e ty:TypeId}{a b:Operand}{m:Int}{en:cv α}{L:List α}{y y2:α}{k:IntKind}{pos:String}{after:Array Edge}
end
end Go.Own
namespace Go.Own
open Go Go.Proofs Go.Shelf Go.Lib Go.Sort
section
variable {P:Program}{w:World}
class tO {α:Type}(e:cv α) where
 C6:α->List Value
 cells:∀ a,e.cells a=(C6 a).map .lit
 one:∀ a,∀ v∈C6 a,v.oneCell'=true
variable {α:Type}{e:cv α}
theorem tO.len [h:tO e] (a:α):(h.C6 a).length=e.z:=by
 have:=e.len a;rw [h.cells,List.length_map] at this;exact this
end
end Go.Own
namespace Go.Own
open Go
section
variable {α:Type}{P:Program}{N:dy}{g:aU}{d r:Nat}
theorem hB.tk {o:Oper}{x:Operand}{ia:Array TypeId}{f:FuncId}{res:af}{en:cv α}{L:List α}{G2:List (Nat × af)}(bd:o.op=.call { callee:=.value (.func f),args:=#[x],argTypes:=ia }) (aV:o.dst=some d) (J:Own.il g [x]=some [.bq en.z ⟨r,[]⟩ L.length])
  (aL:g r=some (al en L)) (iR:cf P f [al en L] [none] res) (bh:dD P f=true) [av:cK res]
  (eb:Trim false (c0 g ⟨r,[]⟩ .dead) (get G2) G2) (aY:get G2 d=none) (bU:N.ok d=true) :
  hB P N g o d (get ((d,res)::G2)):=by
 have l3:∀ x∈ch en L,c6 x:=by
  intro x J;obtain ⟨a,_,bf⟩:=List.mem_flatMap.1 J;exact en.bE a x bf
 have fV:(ch en L).take (L.length * en.z)=ch en L:=List.take_of_length_le (by rw [nt]; exact Nat.le_refl _);have uZ:gx (c0 g ⟨r,[]⟩ .dead) (get G2):=by
  refine ⟨λt x h=>?_,λt x h=>(eb.spec t x h).2.1,λt z q n m new h=>(eb.spec t _ h).2.2 _ _ _ _ _ rfl⟩;obtain ⟨⟨y,h1,_,aN⟩,_⟩:=eb.spec t x h;rw [<- aN rfl]; exact h1
 have u0:gx (get G2) (get G2):=⟨λt x h=>h,λt x h=>(eb.spec t x h).2.1,λt z q n m new h=>(eb.spec t _ h).2.2 _ _ _ _ _ rfl⟩;have pV:get ((d,res)::G2)=eM (get G2) d res:=by
  funext t;rw [sR]
 rw [pV];refine vM.ok (first:=[]) (caps:=[]) (ys:=[.bq en.z ⟨r,[]⟩ L.length]) (tk:=λk=>k == 0) (vw:=false) (outs:=[none]) (g1:=c0 g ⟨r,[]⟩ .dead) (g2:=get G2) (g4:=get G2) (l:=[]) (ks:=λ_=>0) (xs0:=[.bq en.z ⟨r,[]⟩ L.length]) (xs1:=[al en L]) (args:=[al en L]) (res:=res) bd aV rfl J
  ⟨bh,by simp,by simp,λk x h=>.inl h,?_,uZ,λk x y J ay=>?_,iR,by simpa using av.bE,λk x h=>?_,λae p x ab=>by simp at ab,by simp,λi ae hi ab _=>by simp at hi,u0⟩ aY bU tI.refl
 ·have h1:Take (c0 g ⟨r,[]⟩ .dead) ((ch en L).take (L.length * en.z)) (ch en L) (c0 g ⟨r,[]⟩ .dead):=by rw [fV]; exact .bE l3
  exact .bq (N:=L.length) (by simp [b9,aL,af.at]) (Nat.le_refl _) h1 (.bE λx J=>by simp at J)
 ·cases k with
  | zero=>simpa using ay
  | succ k=>simp at ay
 ·cases k with
  | zero=>simp at h
  | succ k=>simp at h
end
end Go.Own
namespace Go.Own
open Go Go.Proofs Go.Shelf Go.Lib Go.Sort
section
variable {α:Type} [DecidableEq α]
end
section
variable {α:Type}{e:cv α}{P:Program}{w:World}
variable [DecidableEq α] [Inhabited α]
end
end Go.Own
namespace Go.Proofs
open Go.Shelf Go.RowKit Go.Lib Go.Sort
variable {α:Type} [Inhabited α] [DecidableEq α]
namespace Two
open Go.Own
variable {P:Program}{t:TypeId}
omit [Inhabited α] [DecidableEq α] in
theorem one (f:α->Int):OneCell λx=>Value.int .i64 (f x):=λ_=>rfl
end Two
end Go.Proofs
namespace Go.Own
open Go Go.Proofs Go.Shelf Go.Lib Go.Sort
def qn (k:IntKind) (m n:Int):Int:=m.fdiv (2 ^ (min n.toNat k.bits))
theorem O.shr {P:Program}{g:aU}{t t2 ty:TypeId}{a b:Operand}{k kZ:IntKind}{m n:Int}(J:Rd g a (.lit (.int k m))) (ay:Rd g b (.lit (.int kZ n))) (h:decide (0<=n)=true):dg P g (.binOp .shr t a b t2) ty (.lit (.int k (qn k m n))):=by
 have ba:¬ n<0:=by have:=of_decide_eq_true h; omega
 exact .e9 (.bin J.bI ay.bI rfl λw=>by simp [eqGuard,binOp,Op.shift,ba,qn])
section
variable {α:Type}{e:cv α}{P:Program}{w:World}
end
end Go.Own
namespace Go.Own
open Go
section
variable {α:Type}{P:Program}{N:dy}{g:aU}{d r:Nat}
end
end Go.Own
namespace Go.Own
open Go
theorem q {α:Sort _}{a:α}:a=a:=rfl
abbrev aQ:ByteArray:={ data:=#[] }
theorem oU {p:Prop} [Decidable p] (h:decide p=true):p:=of_decide_eq_true h
theorem fc {b:Bool}{g h:aU}{e_ s1:Nat}{fk aH:af}(ba:g e_=some fk) [cK fk] (h1:g s1=some aH) [cK aH]:Trim b g h [(e_,fk),(s1,aH)]:=(.n ba (.n h1 .nil))
theorem dH {b:Bool}{g h:aU}{e_ s1 s2:Nat}{fk aH x2:af}(ba:g e_=some fk) [cK fk] (h1:g s1=some aH) [cK aH] (ak:g s2=some x2) [cK x2]:Trim b g h [(e_,fk),(s1,aH),(s2,x2)]:=(.n ba (.n h1 (.n ak .nil)))
theorem dA {b:Bool}{g h:aU}{e_ s1 s2 dV:Nat}{fk aH x2 a6:af}(ba:g e_=some fk) [cK fk] (h1:g s1=some aH) [cK aH] (ak:g s2=some x2) [cK x2] (aN:g dV=some a6) [cK a6]:Trim b g h [(e_,fk),(s1,aH),(s2,x2),(dV,a6)]:=(.n ba (.n h1 (.n ak (.n aN .nil))))
theorem fe {b:Bool}{g h:aU}{e_ s1 s2 dV bM:Nat}{fk aH x2 a6 bX:af}(ba:g e_=some fk) [cK fk] (h1:g s1=some aH) [cK aH] (ak:g s2=some x2) [cK x2] (aN:g dV=some a6) [cK a6] (bP:g bM=some bX) [cK bX]:Trim b g h [(e_,fk),(s1,aH),(s2,x2),(dV,a6),(bM,bX)]:=(.n ba (.n h1 (.n ak (.n aN (.n bP .nil)))))
theorem gv {b:Bool}{g h:aU}{e_ s1 s2 dV bM cz:Nat}{fk aH x2 a6 bX b5:af}(ba:g e_=some fk) [cK fk] (h1:g s1=some aH) [cK aH] (ak:g s2=some x2) [cK x2] (aN:g dV=some a6) [cK a6] (bP:g bM=some bX) [cK bX] (cZ:g cz=some b5) [cK b5]:Trim b g h [(e_,fk),(s1,aH),(s2,x2),(dV,a6),(bM,bX),(cz,b5)]:=(.n ba (.n h1 (.n ak (.n aN (.n bP (.n cZ .nil))))))
theorem gJ {b:Bool}{g h:aU}{e_ s1 s2 dV bM cz cW:Nat}{fk aH x2 a6 bX b5 bF:af}(ba:g e_=some fk) [cK fk] (h1:g s1=some aH) [cK aH] (ak:g s2=some x2) [cK x2] (aN:g dV=some a6) [cK a6] (bP:g bM=some bX) [cK bX] (cZ:g cz=some b5) [cK b5] (dv:g cW=some bF) [cK bF]:Trim b g h [(e_,fk),(s1,aH),(s2,x2),(dV,a6),(bM,bX),(cz,b5),(cW,bF)]:=(.n ba (.n h1 (.n ak (.n aN (.n bP (.n cZ (.n dv .nil)))))))
theorem jX {b:Bool}{g h:aU}{e_ s1 s2 dV bM cz cW eE:Nat}{fk aH x2 a6 bX b5 bF bj:af}(ba:g e_=some fk) [cK fk] (h1:g s1=some aH) [cK aH] (ak:g s2=some x2) [cK x2] (aN:g dV=some a6) [cK a6] (bP:g bM=some bX) [cK bX] (cZ:g cz=some b5) [cK b5] (dv:g cW=some bF) [cK bF] (h7:g eE=some bj) [cK bj]:Trim b g h [(e_,fk),(s1,aH),(s2,x2),(dV,a6),(bM,bX),(cz,b5),(cW,bF),(eE,bj)]:=(.n ba (.n h1 (.n ak (.n aN (.n bP (.n cZ (.n dv (.n h7 .nil))))))))
theorem qt {b:Bool}{g h:aU}{e_ s1 s2 dV bM cz cW eE cJ:Nat}{fk aH x2 a6 bX b5 bF bj b4:af}(ba:g e_=some fk) [cK fk] (h1:g s1=some aH) [cK aH] (ak:g s2=some x2) [cK x2] (aN:g dV=some a6) [cK a6] (bP:g bM=some bX) [cK bX] (cZ:g cz=some b5) [cK b5] (dv:g cW=some bF) [cK bF] (h7:g eE=some bj) [cK bj] (nc:g cJ=some b4) [cK b4]:Trim b g h [(e_,fk),(s1,aH),(s2,x2),(dV,a6),(bM,bX),(cz,b5),(cW,bF),(eE,bj),(cJ,b4)]:=(.n ba (.n h1 (.n ak (.n aN (.n bP (.n cZ (.n dv (.n h7 (.n nc .nil)))))))))
theorem so {b:Bool}{g h:aU}{e_ s1 s2 dV bM cz cW eE cJ lN:Nat}{fk aH x2 a6 bX b5 bF bj b4 cu:af}(ba:g e_=some fk) [cK fk] (h1:g s1=some aH) [cK aH] (ak:g s2=some x2) [cK x2] (aN:g dV=some a6) [cK a6] (bP:g bM=some bX) [cK bX] (cZ:g cz=some b5) [cK b5] (dv:g cW=some bF) [cK bF] (h7:g eE=some bj) [cK bj] (nc:g cJ=some b4) [cK b4] (pW:g lN=some cu) [cK cu]:Trim b g h [(e_,fk),(s1,aH),(s2,x2),(dV,a6),(bM,bX),(cz,b5),(cW,bF),(eE,bj),(cJ,b4),(lN,cu)]:=(.n ba (.n h1 (.n ak (.n aN (.n bP (.n cZ (.n dv (.n h7 (.n nc (.n pW .nil))))))))))
theorem G' {b:Bool}{g h:aU}{e_ s1 s2 dV bM cz cW eE cJ lN me:Nat}{fk aH x2 a6 bX b5 bF bj b4 cu bQ:af}(ba:g e_=some fk) [cK fk] (h1:g s1=some aH) [cK aH] (ak:g s2=some x2) [cK x2] (aN:g dV=some a6) [cK a6] (bP:g bM=some bX) [cK bX] (cZ:g cz=some b5) [cK b5] (dv:g cW=some bF) [cK bF] (h7:g eE=some bj) [cK bj] (nc:g cJ=some b4) [cK b4] (pW:g lN=some cu) [cK cu] (BL:g me=some bQ) [cK bQ]:Trim b g h [(e_,fk),(s1,aH),(s2,x2),(dV,a6),(bM,bX),(cz,b5),(cW,bF),(eE,bj),(cJ,b4),(lN,cu),(me,bQ)]:=(.n ba (.n h1 (.n ak (.n aN (.n bP (.n cZ (.n dv (.n h7 (.n nc (.n pW (.n BL .nil)))))))))))
section
variable {P:Program}{N:dy}{ops:Array Oper}{g:aU}{K:aU->Prop}{l:List Oper}{d t:Nat}{ty:TypeId}{pos:String}{after:Array Edge}{v:Value}
theorem mX {G1:List (Nat × af)}(h:Trim true g (get G1) G1):au P N ops [] g λg'=>ku g' (get G1):=.fin h
theorem bu (h:g t=some (.lit v)) (hk:au P N ops l (eM g d (.lit v)) K) (bU:N.ok d=true:=by rfl) (bh:g d=none:=by rfl):au P N ops (⟨some d,.move (.tmp t),ty,pos,after,none⟩::l) g K:=ai (O.aA (.lit h)) hk bU bh
theorem MW (h:g t=some (.lit v)) (hk:au P N ops l (eM g d (.lit v)) K) (bU:N.ok d=true:=by rfl) (bh:g d=none:=by rfl):au P N ops (⟨some d,.assign (.tmp t),ty,pos,after,none⟩::l) g K:=ai (O.dq (.lit h)) hk bU bh
theorem MX (h:ofConst v=.lit v) (hk:au P N ops l (eM g d (.lit v)) K) (bU:N.ok d=true:=by rfl) (bh:g d=none:=by rfl):au P N ops (⟨some d,.assign (.const v),ty,pos,after,none⟩::l) g K:=ai (O.dq (.k h)) hk bU bh
end
end Go.Own
namespace Go.Own
open Go
section
variable {α:Type}{g:aU}
end
end Go.Own
namespace Go.Own
open Go
section
variable {α:Type}{P:Program}{N:dy}{g:aU}{d r:Nat}
theorem hB.ir {o:Oper}{xs:List Operand}{ia:Array TypeId}{f:FuncId}{ys:List af}{res:af}{en:cv α}{L:List α}{G2:List (Nat × af)}(bd:o.op=.call { callee:=.value (.func f),args:=xs.toArray,argTypes:=ia }) (aV:o.dst=some d) (J:Own.il g xs=some (.bq en.z ⟨r,[]⟩ L.length::ys))
  (aL:g r=some (al en L)) (iR:cf P f (al en L::ys) (none::ys.map λ_=>none) res) (bh:dD P f=true) [av:cK res] [aJ:eG ys]
  (eb:Trim false (c0 g ⟨r,[]⟩ .dead) (get G2) G2) (aY:get G2 d=none) (bU:N.ok d=true) :
  hB P N g o d (get ((d,res)::G2)):=by
 have l3:∀ x∈ch en L,c6 x:=by
  intro x J;obtain ⟨a,_,bf⟩:=List.mem_flatMap.1 J;exact en.bE a x bf
 have fV:(ch en L).take (L.length * en.z)=ch en L:=List.take_of_length_le (by rw [nt]; exact Nat.le_refl _);have uZ:gx (c0 g ⟨r,[]⟩ .dead) (get G2):=by
  refine ⟨λt x h=>?_,λt x h=>(eb.spec t x h).2.1,λt z q n m new h=>(eb.spec t _ h).2.2 _ _ _ _ _ rfl⟩;obtain ⟨⟨y,h1,_,aN⟩,_⟩:=eb.spec t x h;rw [<- aN rfl]; exact h1
 have u0:gx (get G2) (get G2):=⟨λt x h=>h,λt x h=>(eb.spec t x h).2.1,λt z q n m new h=>(eb.spec t _ h).2.2 _ _ _ _ _ rfl⟩;have pV:get ((d,res)::G2)=eM (get G2) d res:=by
  funext t;rw [sR]
 rw [pV];refine vM.ok (first:=[]) (caps:=[]) (ys:=.bq en.z ⟨r,[]⟩ L.length::ys) (tk:=λ_=>true) (vw:=false) (outs:=none::ys.map λ_=>none) (g1:=c0 g ⟨r,[]⟩ .dead) (g2:=get G2) (g4:=get G2) (l:=[]) (ks:=λ_=>0) (xs0:=.bq en.z ⟨r,[]⟩ L.length::ys) (xs1:=al en L::ys) (args:=al en L::ys) (res:=res) bd aV rfl (by simpa using J)
  ⟨bh,by simp,by simp,λk x h=>.inl (by simpa using h),?_,uZ,λk x y J ay=>by simpa using ay,iR,by simpa using av.bE,λk x h=>?_,λae p x ab=>by simp at ab,by simp,λi ae hi ab _=>by simp at hi,u0⟩ aY bU tI.refl
 ·have h1:Take (c0 g ⟨r,[]⟩ .dead) ((ch en L).take (L.length * en.z)) (ch en L) (c0 g ⟨r,[]⟩ .dead):=by rw [fV]; exact .bE l3
  exact .bq (N:=L.length) (by simp [b9,aL,af.at]) (Nat.le_refl _) h1 (.bE aJ.bE)
 ·cases k with
  | zero=>simp at h
  | succ k =>
   simp only [List.getElem?_cons_succ,List.getElem?_map] at h;cases bf:ys[k]? <;> rw [bf] at h <;> cases h
end
end Go.Own
namespace Go.Own
open Go
class tQ (x:af):Prop where pl:n9 x
class AX (cs:List af):Prop where pl:∀ x∈cs,n9 x
instance {v:Value}:tQ (.lit v):=⟨.lit⟩
instance:tQ .aO:=⟨.aO⟩
instance {z n:Nat}{cs:List af} [h:eG cs]:tQ (.aD z n cs):=⟨.aD h.bE⟩
instance {α:Type}{e:cv α}{L:List α}:tQ (aj e L):=⟨.aD (eG.bE (cs:=ch e L))⟩
instance {cs:List af} [h:AX cs]:tQ (.agg cs):=⟨.agg h.pl⟩
instance:AX []:=⟨by simp⟩
instance {x:af}{cs:List af} [h:tQ x] [aR:AX cs]:AX (x::cs):=⟨λy ay=>by
 rcases List.mem_cons.1 ay with rfl | ay
 ·exact h.pl
 ·exact aR.pl y ay⟩
class AV (G:List (Nat × af)):Prop where bE:∀ t x,get G t=some x->c6 x
instance:AV []:=⟨λt x h=>by cases h⟩
instance {s:Nat}{x:af}{G:List (Nat × af)} [h:cK x] [aR:AV G]:AV ((s,x)::G):=⟨λt y ay=>by
 simp only [get] at ay
 split at ay
 ·cases ay; exact h.bE
 ·exact aR.bE t y ay⟩
class vZ (acc:Acc):Prop where bE:∀ e∈acc,∀ x,e.2.2=some x->c6 x
instance:vZ []:=⟨by simp⟩
instance {k d:Nat}{x:af}{acc:Acc} [h:cK x] [aR:vZ acc]:vZ ((k,d,some x)::acc):=⟨λe he y ay=>by
 rcases List.mem_cons.1 he with rfl | he
 ·cases ay; exact h.bE
 ·exact aR.bE e he y ay⟩
instance {k d:Nat}{acc:Acc} [aR:vZ acc]:vZ ((k,d,none)::acc):=⟨λe he y ay=>by
 rcases List.mem_cons.1 he with rfl | he
 ·cases ay
 ·exact aR.bE e he y ay⟩
theorem Oa {G:List (Nat × af)}{A:Nat->Bool}{acc:Acc} [h:AV G] [aR:vZ acc]:De (d_ (get G) A acc):=by
 have key:∀ t x,d_ (get G) A acc t=some x->c6 x:=λt x J=>by
  rcases ss J with ⟨e,he,_,_,ak⟩ | ⟨_,ak⟩
  ·exact aR.bE e he x ak
  ·exact h.bE t x ak
 exact ⟨λt x J=>.bE (key t x J),λt z q n m new J=>by cases key t _ J⟩
end Go.Own
namespace Go.Own
open Go Go.MapKept Go.ChangeMaps
section
variable {P:Program}{w:World}{I:bn}{T:Array Value}{g g2:aU}{Fs:Nat->bn}
end
end Go.Own
namespace Go.Own
open Go Go.MapKept Go.ChangeMaps Go.WideElems
open Go.Maps (Keyed)
set_option linter.unusedVariables false
variable {j' lh:Type}{P:Program}{k e:TypeId}
abbrev v7:Value->Option (DataW Value × List MemPlace):=λv=>some (.held v,[])
def ny [DecidableEq j']:List (j' × lh)->j'->Option lh
 | [],_=>none
 | p::m,x=>if p.1=x then some p.2 else ny m x
def r6 [DecidableEq j'] (ok:j'->Bool) (z:lh) (m:List (j' × lh)) (x:j'):Option lh:=if ok x then some ((ny m x).getD z) else none
def zD (ok:j'->Bool) (m:List (j' × lh)) (x:j') (y:lh):Option (List (j' × lh)):=if ok x&&decide (m.length<=lim) then some ((x,y)::m) else none
structure AS (P:Program) (k:TypeId) (j':Type) where
 oR:j'->Value
 u1:j'->Lit
 F8:j'->af
 ok:j'->Bool
 keyed:Keyed P k
 key:∀ x,ok x=true->keyOf P k (oR x)=some (u1 x)
 inj:∀ x y,u1 x=u1 y->x=y
 A8:∀ (x:j') (w:World) (I:bn) (ρ:af->Value->Prop) (v:Value),R w I ρ (F8 x) v cR->v=oR x
structure AT (P:Program) (e:TypeId) (lh:Type) where
 nA:lh->Value
 C5:lh->af
 z:lh
 zero:∀ w,(zeroValue e).run P w=.ok (nA z) w
 one:∀ x,(nA x).oneCell'=true
 A8:∀ (x:lh) (w:World) (I:bn) (ρ:af->Value->Prop) (v:Value),R w I ρ (C5 x) v cR->v=nA x
 va:∀ (x:lh) (w:World) (I:bn) (ρ:af->Value->Prop),R w I ρ (C5 x) (nA x) cR
def vx (P:Program) (k:TypeId) (es:Array MapEntry):List (Lit × DataW Value):=(es.toList.map (rg P k v7)).foldr DataW.insert []
def rq [DecidableEq j'] (K:AS P k j') (V:AT P e lh) (m:List (j' × lh)):Array MapEntry->Nat->Prop:=λes c=>Fit P k v7 es c/\es.size<=m.length/\∀ x C_,(DataW.map (vx P k es)).atKey (K.u1 x) C_=match ny m x with | some y=>.held (V.nA y) | none=>C_
variable [DecidableEq j'] {K:AS P k j'}{V:AT P e lh}{m b6:List (j' × lh)}{x:j'}{y:lh}{t:TypeId}
theorem rq.nil:rq K V [] #[] 0:=⟨⟨by simp,stamped_empty 0,by simp⟩,Nat.le_refl _,λx C_=>rfl⟩
theorem rq.look (ok:Bool) (eA:K.ok x=true) (aC:P.underlying t=some (.map k e)) (w:World) (b:Nat) (es:Array MapEntry) (c:Nat) (aF:w.heap[b]?=some (.map es c)) (h:rq K V m es c) :
  (Instr.lookup t (.map (some b)) (K.oR x) ok).run P w=.ok (if ok then .tuple #[V.nA ((ny m x).getD V.z),.bool (ny m x).isSome] else V.nA ((ny m x).getD V.z)) w:=by
 obtain ⟨F,_,fK⟩:=h;have fK:=fK x;rcases Maps.fit_look ok K.keyed aC (V.zero w) aF F (K.key x eA) with ⟨hU,_,ak⟩ | ⟨jH,y,_,_,hU,ay,ak,_⟩
 ·have:ny m x=none:=by
   cases aY:ny m x with
   | none=>rfl
   | some y =>
    have h1:=fK .nil;rw [aY] at h1;have aN:=ak .nil;unfold vx at h1;rw [h1] at aN; cases aN
  rw [hU,this]; rfl
 ·cases ay;cases aY:ny m x with
  | none =>
   have h1:=fK .nil;rw [aY] at h1;have aN:=ak .nil;unfold vx at h1;rw [h1] at aN; cases aN
  | some y =>
   have h1:=fK .nil;rw [aY] at h1;have aN:=ak .nil;unfold vx at h1;rw [h1] at aN;have bP:jH.val=V.nA y:=by simpa using aN.symm
   rw [hU,bP]; rfl
theorem rq.put (ba:zD K.ok m x y=some b6) (aC:P.underlying t=some (.map k e)) (w:World) (b:Nat) (es:Array MapEntry) (c:Nat) (aF:w.heap[b]?=some (.map es c)) (h:rq K V m es c) :
  ∃ uo tZ,(Instr.mapUpdate t (.map (some b)) (K.oR x) (V.nA y)).run P w=.ok () (setBlock w b (.map uo tZ))/\rq K V b6 uo tZ:=by
 unfold zD at ba
 split at ba
 ·rename_i aa;cases ba;simp only [Bool.and_eq_true,decide_eq_true_eq] at aa;obtain ⟨eA,ao⟩:=aa;obtain ⟨F,aL,fK⟩:=h;have J':=K.key x eA;obtain ⟨uo,tZ,hU,fL,mw,_⟩:=Maps.fit_store (R':=v7) K.keyed aC aF F (by have:maxLen=9223372036854775807:=rfl; simp only [lim] at ao; omega) (λ_ _ _ _ bB=>bB) J' (rfl:v7 (V.nA y)=some (.held (V.nA y),[]));refine ⟨uo,tZ,hU,fL,?_,λx' C_=>?_⟩
  ·have de:uo.size=((uo.toList.map (rg P k v7)).foldr DataW.insert []).length:=by rw [length_sorted]; simp
   rw [de,mw];unfold putKey;rw [length_insert];have cX:=List.length_filter_le (notKey (K.u1 x)) ((es.toList.map (rg P k v7)).foldr DataW.insert []);rw [length_sorted] at cX;simp at cX ⊢;omega
  ·have iN:(DataW.map (vx P k uo))=(DataW.map (vx P k es)).put (K.u1 x) (.held (V.nA y)):=by
    rw [DataW.put_eq]; unfold vx; rw [mw]
   rw [iN];by_cases J:x=x'
   ·subst J;rw [Maps.atKey_put_same ⟨_,rfl⟩ (K.keyed.key J')];simp [ny]
   ·rw [Maps.atKey_put_other (λe=>J (K.inj _ _ e).symm),fK];simp [ny,J]
 ·cases ba
section
variable {N:dy}{g:aU}{a b c:Operand}{p:Place}{ty:TypeId}
instance {q:Array MapEntry->Nat->Prop}:cK (.mp q):=⟨.mp⟩
instance {q:Array MapEntry->Nat->Prop}:cK (.imp q):=⟨.imp⟩
instance {q:Array MapEntry->Nat->Prop}:pM (.mp q):=⟨.mp⟩
theorem O.zw {r:lh}{X Y:af}(hm:Rd g a (.imp (rq K V m))) (J:Rd g b Y) (QN:K.F8 x=Y) (aC:P.underlying t=some (.map k e)) (h:r6 K.ok V.z m x=some r) (EK:V.C5 r=X):dg P g (.lookup t a b false) ty X:=by
 subst EK QN;unfold r6 at h
 split at h
 ·rename_i eA;cases h;exact .e9 (.zw hm.bI J.bI (K.A8 x) (V.va _) λw b es c aF bK=>rq.look false eA aC w b es c aF bK)
 ·cases h
end
def qg (n:Int):Bool:=decide (-9223372036854775808<=n/\n<9223372036854775808)
def MS (hk:P.underlying k=some (.int .i64)):AS P k Int where
 oR n:=.int .i64 n
 u1 n:=.int .i64 n
 F8 n:=j n
 ok:=qg
 keyed:=Maps.int_keyed hk
 key n h:=Maps.keyOf_int_mk hk (by
  unfold qg at h;have:=of_decide_eq_true h;unfold Lit.wf;rw [Bool.and_eq_true];refine ⟨decide_eq_true ?_,decide_eq_true ?_⟩
  ·show (-9223372036854775808:Int)<=n; omega
  ·show n<=(9223372036854775807:Int); omega)
 inj x y h:=by cases h; rfl
 A8 x w I ρ v h:=h.hV.1
def MT (bB:(P.info? e).bind (·.zero)=some (.int .i64 0)):AT P e Int where
 nA n:=.int .i64 n
 C5 n:=j n
 z:=0
 zero w:=Dz bB w
 one _:=rfl
 A8 x w I ρ v h:=h.hV.1
 va x w I ρ:=.lit rfl λ_ h=>h
end Go.Own
namespace Go.Own
open Go
section
variable {α:Type}{P:Program}{N:dy}{g:aU}{d r:Nat}{ty t t2 e:TypeId}{a b:Operand}{k kZ:IntKind}{m n:Int}{p:Place}
def qG (k:IntKind) (m n:Int):Int:=k.wrap ((BitVec.ofInt k.bits m &&& BitVec.ofInt k.bits n).toNat)
theorem O.and' (J:Rd g a (.lit (.int k m))) (ay:Rd g b (.lit (.int k n))):dg P g (.binOp .and t a b t2) ty (.lit (.int k (qG k m n))) :=
 .e9 (.bin J.bI ay.bI rfl λw=>by simp [eqGuard,binOp,Op.intBits,qG])
theorem W.N9 {x y:Code}{G:List (Nat × af)}{Φ:Exit->aU->Prop}(h:W P N y (get G) Φ):W P N (.cond (.const (.bool false)) x y) (get G) Φ:=W.DX rfl h
def tj (L:List α) (m:Int):Option Unit:=if 0<=m/\m<=L.length then some () else none
theorem SR {L:List α}{u:Unit}(h:tj L m=some u):m.toNat<=L.length:=by
 unfold tj at h
 split at h
 ·omega
 ·cases h
instance:tO aG:=⟨λx=>[.int .i64 x],λ_=>rfl,λx v hv=>by rw [List.mem_singleton.1 hv]; rfl⟩
theorem O.GX {en:cv α}{L:List α}{u:Unit}(J:Rd g a (.bq en.z p L.length)) (ao:Rd g b (.lit (.int k m))) (aE:b9 g p=some (al en L)) (aC:e' P t e en.z=true) (h:tj L m=some u):dg P g (.slice t a (some b) none none) ty (.sub en.z p m.toNat (L.length - m.toNat)):=by
 unfold tj at h
 split at h
 ·rename_i aa;obtain ⟨i,rfl⟩:=Int.eq_ofNat_of_zero_le aa.1;exact .e9 (.CZ J.bI ⟨_,ao.bI⟩ rfl aC (by omega) (Nat.le_refl _) ⟨_,_,aE,by omega⟩)
 ·cases h
theorem O.T9 {en:cv α}{L:List α}{u:Unit}(J:Rd g a (.bq en.z p L.length)) (b_:Rd g b (.lit (.int k m))) (aE:b9 g p=some (al en L)) (aC:e' P t e en.z=true) (h:tj L m=some u):dg P g (.slice t a none (some b) none) ty (.bq en.z p m.toNat):=by
 unfold tj at h
 split at h
 ·rename_i aa;obtain ⟨i,rfl⟩:=Int.eq_ofNat_of_zero_le aa.1;exact .e9 (.C0 J.bI rfl ⟨_,b_.bI⟩ aC (by omega) (.inl ⟨_,_,aE,by omega⟩))
 ·cases h
def Bq (lo nd:Nat) (L S:List α):Option (List α):=if 0<min S.length nd/\lo+nd<=L.length then some (L.take lo++S.take (min S.length nd)++L.drop (lo+min S.length nd)) else none
def zz (e:cv α) [h:tO e] (L:List α):List Value:=L.flatMap h.C6
theorem Gg (e:cv α) [h:tO e] (L:List α):ch e L=(zz e L).map .lit:=by
 induction L with
 | nil=>rfl
 | cons x L aS =>
  have:ch e (x::L)=e.cells x++ch e L:=by simp [ch]
  rw [this,aS,h.cells];simp [zz]
theorem Dm.aD {en:cv α}{S:List α}:Src g (aj en S) en.z S.length (ch en S):=.aD
theorem Dm.bq {en:cv α} [tO en] {L:List α}{q:Place}{n:Nat}(bK:b9 g q=some (al en L)) (aJ:n<=L.length):Src g (.bq en.z q n) en.z (L.take n).length (ch en (L.take n)):=by
 have h1:(L.take n).length=n:=by rw [List.length_take]; omega
 have ak:ch en (L.take n)=(((ch en L).take (n * en.z)).mapIdx λi x=>hX 0 (q.push i) x):=by
  rw [xz,Gg];apply List.ext_getElem?;intro ae;rw [List.getElem?_mapIdx];cases ab:((zz en (L.take n)).map af.lit)[ae]? with
  | none=>rfl
  | some y =>
   obtain ⟨v,_,rfl⟩:=List.mem_map.1 (List.mem_of_getElem? ab);rfl
 rw [h1,ak];exact .bq bK aJ
theorem T_ {z:Nat}(h:e' P t e z=true):(P.info? e).map (·.size)=some z:=by
 unfold e' at h;cases hu:P.underlying t with
 | none=>simp [hu] at h
 | some d =>
  cases hi:P.info? e with
  | none=>cases d <;> simp [hu,hi] at h
  | some i=>cases d <;> simp [hu,hi] at h; simp [h]
theorem cq.b8 {o:Oper}{en:cv α} [ao:tO en] {L S L':List α}{lo nd:Nat}{Hl jA:af}{G2:List (Nat × af)}(bd:o.op=.call { callee:=.builtin .copy,args:=#[a,b],argTypes:=#[t,t2] }) (aV:o.dst=some d) (bf:bI g a=some Hl) (SC:Hl=.sub en.z ⟨r,[]⟩ lo nd\/(Hl=.bq en.z ⟨r,[]⟩ nd/\lo=0)) (aF:bI g b=some jA)
  (p8:Src g jA en.z S.length (ch en S)) (aL:g r=some (al en L)) (wY:en.z=1) (aC:e' P t e 1=true) (h:Bq lo nd L S=some L') (l7:(get G2 r).isSome=true) (eb:kP g (get G2) r (al en L') G2) (s4:get G2 d=none) (bU:N.ok d=true) :
  cq P N g o (get ((d,j ((min S.length nd:Nat):Int))::G2)):=by
 unfold Bq at h;by_cases aa:0<min S.length nd/\lo+nd<=L.length
 case neg=>rw [if_neg aa] at h; cases h
 rw [if_pos aa] at h;obtain ⟨wO,VS⟩:=aa;cases h;generalize hk:min S.length nd=k at *;have VR:k<=S.length:=by omega
 have VT:k<=nd:=by omega
 refine .LP λw I T Fs h cx BS QA K Q BQ=>?_;obtain ⟨hu,he,fZ⟩:=oZ (w:=w) aC;have aE:b9 g ⟨r,[]⟩=some (al en L):=by simp [b9,aL,af.at]
 have JK:=kK h bf BS;obtain ⟨v0,cG,jh,dL,dt⟩:=h.part aE (by simp);obtain ⟨a0,Vi,rfl,kC,hlen,pn,qU⟩:=dL.mb;have Qw:0<L.length:=by omega
 cases a0 with
 | none=>have:=qU Qw; simp at this
 | some HM =>
 obtain ⟨y4,y5⟩:=pn HM rfl;obtain ⟨g0,Wi,Wk⟩:=HM;simp only at y4 y5;subst y4 y5;have ng:cG g0:=dL.oV g0 rfl
 -- the target
 have EY:∃ cap,cx.eval a=.slice (some ⟨g0,lo,none⟩) nd cap:=by
  rcases SC with rfl | ⟨rfl,rfl⟩
  ·obtain ⟨⟨kv,sA,Bb,ar,c1,h1,ak,_,_,cZ⟩,_⟩:=JK.uW;rw [h1] at jh;cases jh;obtain ⟨ad,de,cX⟩:=cZ (by omega);cases de;rw [ak,cX,wY];exact ⟨c1,by simp⟩
  ·obtain ⟨⟨kv,sA,Bb,h1,ak,_⟩,_⟩:=JK.l_;rw [h1] at jh;cases jh;exact ⟨_,ak⟩
 obtain ⟨O7,EY⟩:=EY
 -- the source
 obtain ⟨An,T3,news,rX,Fm,ze,k8,hx,gE,bg⟩:=p8.sound h (kK h aF BS);rw [wY,Nat.mul_one] at Fm;cases An with
 | none=>have:=ze (by omega) (by omega); simp at this
 | some LI =>
 have V2:news=zz en S:=by
  rw [Gg,List.length_map] at hx;apply List.ext_getElem hx.symm;intro ae h1 ak;have:=(bg ae (.lit (zz en S)[ae]) news[ae] (by rw [Gg,List.getElem?_map,List.getElem?_eq_getElem ak]; rfl) (List.getElem?_eq_getElem h1)).hV.1;exact this
 -- the block
 cases dL with
 | ref J=>simp [af.isRef] at J
 | @own _ _ _ _ cO us bZ _ nQ hK h1 av p2 jT aP =>
 obtain ⟨l8,b_⟩:=nQ;rcases b_ with ⟨b_,_⟩ | ⟨iA,cap,cur,b_,sc,fX,tu,q6,tv,sd⟩
 ·cases b_
 cases b_;have JV:L.length<=cur.size:=by
  have pW:(cur.toList.take (L.length * en.z)).length=L.length * en.z:=by rw [sd,l8]
  rw [List.length_take,wY,Nat.mul_one,Array.length_toList] at pW;rw [wY] at tv;omega
 have BW:(news.take k).length=k:=by rw [List.length_take]; omega
 have hU:(execOp cx.eval o).run P w=.ok (.value (goInt k)) (w.setRow g0 (fu cur.toList lo (news.take k)).toArray):=by
  have nc:=run_copy_row (P:=P) w t t2 o.type e g0 lo nd O7 LI S.length T3 cur cO (news.take k) hu (T_ aC) fX (by rw [BW]; exact hk.symm) (λae v ab=>by
   rw [List.getElem?_take] at ab
   split at ab
   ·exact k8 LI rfl ae v ab
   ·cases ab) (by rw [BW]; omega) (λv hv=>by
   obtain ⟨ae,ab⟩:=List.getElem?_of_mem (List.mem_of_mem_take hv);exact gE ae v ab)
  rw [BW] at nc;have pV:(cur.toList.take lo++news.take k++cur.toList.drop (lo+k))=fu cur.toList lo (news.take k):=by unfold fu; rw [BW]
  rw [pV] at nc;simp [execOp,bd,resolve,invoke,EY,rX,builtin,nc]
 -- the state
 have RU:∀ (ae:Nat) (x:af) (u:Value),((ch en S).take k)[ae]?=some x->(news.take k)[ae]?=some u->R w I (fT w T) x u cR:=λae x u J hu=>by
  rw [List.getElem?_take] at J hu
  split at J
  ·rename_i ab;rw [if_pos ab] at hu;exact (bg ae x u J hu).frame (λ_ _=>rfl) (λ_ h=>h) (λ_ _ h=>h.1) λ_ _=>rfl
  ·cases J
 have hH:Hand w I (fT w T) Fs ((ch en S).take k) (news.take k) (λ_=>cR) :=
  ⟨by rw [List.length_take,List.length_take,hx],RU,λ_ _ _ _ _ h=>h.elim,λ_ _ _ _ h=>h.elim,λ_ _ _ h=>h.elim⟩
 have JU:((ch en S).take k).length=k:=by rw [List.length_take,hx]; omega
 have Qv:(ch en L).length=L.length:=by rw [nt,wY,Nat.mul_one]
 have p6:(al en L).fu lo ((ch en S).take k)=al en (L.take lo++S.take k++L.drop (lo+k)):=by
  show af.own en.z L.length (fu (ch en L) lo ((ch en S).take k))=_;have de:fu (ch en L) lo ((ch en S).take k)=ch en (L.take lo++S.take k++L.drop (lo+k)):=by
   unfold fu;rw [JU,vq,vq];have jN:=xz en L lo;have CN:=xz en S k;have Ai:=Am en L (lo+k);rw [wY,Nat.mul_one] at jN CN Ai;rw [jN,CN,Ai]
  unfold al;rw [de];congr 1;simp; omega
 have RN:∀ (ae:Nat) (u:Value),(news.take k)[ae]?=some u->u.oneCell'=true:=λae u hu=>by
  rw [List.getElem?_take] at hu
  split at hu
  ·exact gE ae u hu
  ·cases hu
 have c1:∀ t x,get G2 t=some x->c0 g ⟨r,[]⟩ ((al en L).fu lo ((ch en S).take k)) t=some x:=λt x J=>by
  rw [p6];rcases eb.spec t x J with ⟨h1,ak,_⟩ | ⟨h1,ak,_⟩
  ·rw [si h1]; exact ak
  ·subst h1 ak; simp [c0,aL,af.setAt]
 have c2:∀ t x,get G2 t=some x->∀ y,g t=some y->j0 (λq=>gS g q/\Clear ⟨r,[]⟩ lo ((ch en S).take k).length q/\gS (get G2) q) y:=λt x J y ay=>by
  rcases eb.spec t x J with ⟨h1,ak,aN⟩ | ⟨h1,ak,aN⟩
  ·rw [ak] at ay; cases ay;rcases aN with aN | ⟨_,c2,Pp⟩
   ·exact aN.GI
   ·cases Pp
  ·subst h1; rw [aL] at ay; cases ay; exact .bE (.own (nu en L))
 have lV:∀ t z q n m new,get G2 t≠some (.b3 z q n m new):=λt z q n m new J=>by
  rcases eb.spec t _ J with ⟨_,_,aN | ⟨aN,_⟩⟩ | ⟨_,_,aN⟩
  ·exact aN.fF _ _ _ _ _ rfl
  ·exact aN.fF _ _ _ _ _ rfl
  ·cases aN
 obtain ⟨iI,hS,gr⟩:=h.lP.store (g2:=get G2) aE (.inl rfl) (k:=lo) (cs':=(ch en S).take k) (by rw [JU,Qv]; omega) hH (λx J=>nu en S x (List.mem_of_mem_take J)) RN c1 c2 lV (by intro e; rw [e] at l7; cases l7) jh rfl fX;have mw:=hS.sa (d:=d) (x:=j (k:Int)) (v:=goInt k) (F:=cR) s4 (by rw [<- BS,QA]; exact dy.lt bU) (.tree (.lit rfl λ_ h=>h)) (λ_ _ h=>h.elim) (λ_ h=>h.elim) (by rintro z p n m new e; cases e);unfold Oper.wp Oper.upon;simp only [hU];have pV:get ((d,j (k:Int))::G2)=eM (get G2) d (j (k:Int)):=by
  funext t;rw [sR]
 rw [<- pV] at mw;have ES:∃ t,Fs t g0:=⟨_,dt g0 ng⟩;refine BQ _ _ ⟨by rw [aV]; rfl,by rw [aV]; exact hC.put bU _ _,I,_,by rw [aV]; simpa [Act.put,BS] using mw,⟨⟨rfl,rfl,rfl,by simp,λc _ aa=>setRow_other w g0 c _ (λe=>aa (e ▸ ES)),λa _=>Eg w g0 _ a,Nat.le_refl _⟩,λ_ h=>h,λ_ h=>.inl h,λc aa=>?_⟩⟩ λt aC=>by rw [aV]; simp only [Act.put]; rw [Array.getElem?_setIfInBounds_ne]; rintro rfl; exact aC aV
 obtain ⟨t,aa⟩:=aa;simp only [sr] at aa
 split at aa
 ·exact aa.elim
 ·rcases gr t c aa with gl | ⟨_,_,gl⟩
  ·exact .inl ⟨t,gl⟩
  ·exact gl.elim
end
end Go.Own
namespace Go.Own
open Go
def CS (ew:List Nat) (o:Oper):Oper:=⟨o.dst,o.op,o.type,o.pos,o.after.map λe=>⟨ew.idxOf e.on,e.ground⟩,o.guard.map λp=>(ew.idxOf p.1,p.2)⟩
def kl (ew:List Nat) (l:List Oper):List Oper:=ew.map λk=>CS ew (l.getD k default)
def Gq (ew:List Nat) (n:Nat):Bool:=Nat.beq ew.length n&&(List.range n).all λk=>ew.contains k&&Nat.blt (ew.getD k n) n&&Nat.beq (ew.idxOf (ew.getD k n)) k
structure Perm (ew:List Nat) (n:Nat):Prop where
 len:ew.length=n
 mem:∀ k,k<n->ew.idxOf k<n/\ew.getD (ew.idxOf k) n=k
 lt:∀ ae,ae<n->ew.getD ae n<n/\ew.idxOf (ew.getD ae n)=ae
theorem Ty {ew:List Nat}{n:Nat}(h:Gq ew n=true):Perm ew n:=by
 unfold Gq at h;simp only [Bool.and_eq_true,Nat.beq_eq,List.all_eq_true,List.mem_range,Nat.blt_eq] at h;obtain ⟨ao,gU⟩:=h;refine ⟨ao,λk hk=>?_,λae ab=>⟨(gU ae ab).1.2,(gU ae ab).2⟩⟩;have hm:k∈ew:=by have:=(gU k hk).1.1; simpa using this
 have h1:=List.idxOf_lt_length_iff.2 hm;refine ⟨by omega,?_⟩;rw [List.getD_eq_getElem?_getD,List.getElem?_eq_getElem h1,List.getElem_idxOf];rfl
section
variable {P:Program}{Q:Exit->Act->World->Prop}{ew:List Nat}{l:List Oper}
theorem Gr (jj:Perm ew l.length) {ae:Nat}(ab:ae<l.length):(kl ew l).toArray[ae]?=some (CS ew (l.getD (ew.getD ae l.length) default))/\l.toArray[ew.getD ae l.length]?=some (l.getD (ew.getD ae l.length) default):=by
 have h1:ae<ew.length:=by rw [jj.len]; exact ab
 have ak:=(jj.lt ae ab).1;constructor
 ·simp only [kl,List.getElem?_toArray,List.getElem?_map,List.getD_eq_getElem?_getD,List.getElem?_eq_getElem h1,Option.map_some,Option.getD_some]
 ·rw [List.getElem?_toArray,List.getD_eq_getElem?_getD (l:=l),List.getElem?_eq_getElem ak]; rfl
theorem Le (jj:Perm ew l.length) {A B:Array Bool}(dU:A.size=l.length) (jb:B.size=l.length) (ph:∀ ae,ae<l.length->B.getD ae true=A.getD (ew.getD ae l.length) true) {ae:Nat}(ab:ae<l.length) :
  ew.getD ae l.length∈Region.ready .any l.toArray A↔ae∈Region.ready .any (kl ew l).toArray B:=by
 obtain ⟨h1,ak⟩:=Gr jj ab;have Mc:∀ {C:Array Bool}{k:Nat},k<C.size->C.getD k false=C.getD k true:=λ{C k} h=>by simp [Array.getD,h]
 have gone:∀ {C:Array Bool}{k:Nat},¬ k<C.size->C.getD k false=false:=λ{C k} h=>by simp [Array.getD,h]
 have IW:∀ m,A.getD m false=true↔B.getD (ew.idxOf m) false=true:=λm=>by
  by_cases hm:m<l.length
  ·obtain ⟨aN,bP⟩:=jj.mem m hm;rw [Mc (by omega),Mc (by omega),ph _ aN,bP]
  ·have cZ:¬ ew.idxOf m<l.length:=λh=>by
    have dv:=List.idxOf_lt_length_iff.1 (by rw [jj.len]; exact h);obtain ⟨i,hi,e⟩:=List.mem_iff_getElem.1 dv;have:=(jj.lt i (by rw [<- jj.len]; exact hi)).1;rw [List.getD_eq_getElem?_getD,List.getElem?_eq_getElem hi] at this;simp only [Option.getD_some] at this;omega
   rw [gone (by omega),gone (by omega)]
 rw [mem_ready,mem_ready,ph ae ab];constructor
 ·rintro ⟨a,o,bd,h⟩;rw [ak] at bd;cases bd;refine ⟨a,_,h1,λe he aF=>?_⟩;obtain ⟨jH,Rj,rfl⟩:=Array.mem_map.1 he;exact (IW _).1 (h jH Rj aF)
 ·rintro ⟨a,o,bd,h⟩;rw [h1] at bd;cases bd;refine ⟨a,_,ak,λe he aF=>?_⟩;exact (IW _).2 (h ⟨ew.idxOf e.on,e.ground⟩ (Array.mem_map.2 ⟨e,he,rfl⟩) aF)
theorem TA (jj:Perm ew l.length) (o:Oper) (T:Array Value):Region.wanted (CS ew o) (yielded (kl ew l).toArray T)=Region.wanted o (yielded l.toArray T):=by
 unfold Region.wanted CS;cases aY:o.guard with
 | none=>rfl
 | some p =>
  obtain ⟨m,b⟩:=p;simp only [Option.map_some];have:yielded (kl ew l).toArray T (ew.idxOf m)=yielded l.toArray T m:=by
   unfold yielded;by_cases hm:m<l.length
   ·obtain ⟨aN,bP⟩:=jj.mem m hm;obtain ⟨h1,ak⟩:=Gr jj aN;rw [bP] at h1 ak;rw [h1,ak];rfl
   ·have cZ:¬ ew.idxOf m<l.length:=λh=>by
     have dv:=List.idxOf_lt_length_iff.1 (by rw [jj.len]; exact h);obtain ⟨i,hi,e⟩:=List.mem_iff_getElem.1 dv;have:=(jj.lt i (by rw [<- jj.len]; exact hi)).1;rw [List.getD_eq_getElem?_getD,List.getElem?_eq_getElem hi] at this;simp only [Option.getD_some] at this;omega
    have de:(kl ew l).toArray[ew.idxOf m]?=none:=by
     rw [List.getElem?_toArray]; exact List.getElem?_eq_none (by simp [kl,jj.len]; omega)
    have cX:l.toArray[m]?=none:=by rw [List.getElem?_toArray]; exact List.getElem?_eq_none (by omega)
    rw [de,cX]
  rw [this]
theorem Tz (jj:Perm ew l.length):∀ (fuel:Nat) (A B:Array Bool) (a:Act) (w:World),A.size=l.length->B.size=l.length->(∀ ae,ae<l.length->B.getD ae true=A.getD (ew.getD ae l.length) true) ->
  wpAny P .any (kl ew l).toArray Q fuel B a w->wpAny P .any l.toArray Q fuel A a w:=by
 have lift:∀ {A B:Array Bool},A.size=l.length->B.size=l.length->(∀ ae,ae<l.length->B.getD ae true=A.getD (ew.getD ae l.length) true)->∀ k,k∈Region.ready .any l.toArray A->∃ ae,ae<l.length/\ew.getD ae l.length=k/\ae∈Region.ready .any (kl ew l).toArray B:=λ{A B} dU jb ph k hk=>by
  have dO:k<l.length:=by
   obtain ⟨_,o,bd,_⟩:=mem_ready.1 hk;have:=(Array.getElem?_eq_some_iff.1 bd).1;simpa using this
  obtain ⟨aN,bP⟩:=jj.mem k dO;exact ⟨_,aN,bP,(Le jj dU jb ph aN).1 (by rw [bP]; exact hk)⟩
 have nil:∀ {A B:Array Bool},A.size=l.length->B.size=l.length->(∀ ae,ae<l.length->B.getD ae true=A.getD (ew.getD ae l.length) true)->Region.ready .any l.toArray A=[]->Region.ready .any (kl ew l).toArray B=[]:=λ{A B} dU jb ph h=>by
  cases av:Region.ready .any (kl ew l).toArray B with
  | nil=>rfl
  | cons ae r =>
   have ab:ae∈Region.ready .any (kl ew l).toArray B:=by rw [av]; simp
   have e3:ae<l.length:=by
    obtain ⟨_,o,bd,_⟩:=mem_ready.1 ab;have:=(Array.getElem?_eq_some_iff.1 bd).1;simpa [kl,jj.len] using this
   have:=(Le jj dU jb ph e3).2 ab;rw [h] at this; cases this
 intro fuel
 induction fuel with
 | zero =>
  intro A B a w dU jb ph h;refine ⟨?_,h.2⟩;cases av:Region.ready .any l.toArray A with
  | nil=>rfl
  | cons k r =>
   obtain ⟨ae,_,_,ab⟩:=lift dU jb ph k (by rw [av]; simp);rw [h.1] at ab; cases ab
 | succ fuel aS =>
  intro A B a w dU jb ph h;refine ⟨λav=>h.1 (nil dU jb ph av),λk hk=>?_⟩;obtain ⟨ae,e3,rfl,ab⟩:=lift dU jb ph k hk;have aL:=h.2 ae ab;obtain ⟨h1,ak⟩:=Gr jj e3;have Qd:∀ i,i<l.length->(B.setIfInBounds ae true).getD i true=(A.setIfInBounds (ew.getD ae l.length) true).getD (ew.getD i l.length) true:=λi hi=>by
   have a8:=(jj.lt ae e3).1;have Fh:=(jj.lt i hi).1;have e:∀ (C:Array Bool) (p q:Nat),p<C.size->q<C.size->(C.setIfInBounds p true).getD q true=if q=p then true else C.getD q true:=λC p q aE bK=>by
    by_cases h:q=p
    ·subst h; simp [Array.getD,bK]
    ·rw [if_neg h]; simp [Array.getD,bK,Array.getElem_setIfInBounds_ne,Ne.symm h]
   rw [e B ae i (by omega) (by omega),e A _ _ (by omega) (by omega),ph i hi];by_cases h:i=ae
   ·subst h; simp
   ·rw [if_neg h,if_neg];intro aR;have:=(jj.lt i hi).2;rw [aR,(jj.lt ae e3).2] at this;exact h this.symm
  have mono:∀ a w,wpAny P .any (kl ew l).toArray Q fuel (B.setIfInBounds ae true) a w->wpAny P .any l.toArray Q fuel (A.setIfInBounds (ew.getD ae l.length) true) a w:=λa w aR=>aS _ _ a w (by simpa using dU) (by simpa using jb) Qd aR;unfold wpOp at aL ⊢;rw [ak];rw [h1] at aL;simp only [TA jj] at aL;show if Region.wanted (l.getD (ew.getD ae l.length) default) (yielded l.toArray a.tmps)=true then _ else _
  split
  ·rename_i hw;rw [if_pos hw] at aL;exact aL.imp (λaR=>Oper.wp_mono mono aR) id
  ·rename_i hw;rw [if_neg hw] at aL;exact mono _ _ aL
end
section
variable {P:Program}{N:dy}
theorem W.TK {id:Nat}{l:List Oper}{G:List (Nat × af)}{Φ:Exit->aU->Prop}(ew:List Nat) (cc:List (List Nat)) (G1:List (Nat × af)) (hm:P.follows .mixedOrders=true) (dU:qF (kl ew l).toArray cc=true) (jj:Gq ew l.length=true)
  (h:b1 P N (kl ew l).toArray cc (get G) 0 [] (kl ew l) λg'=>ku g' (get G1)) (hk:ag .normal Φ G1):W P N (.region id l.toArray true) (get G) Φ:=by
 have aE:=Ty jj;obtain ⟨g',h1,ak⟩:=h [] 0 .nil .nil (by simp);have fZ:(kl ew l).toArray.size=l.length:=by simp [kl,aE.len]
 refine gk.w (g':=g') (e:=.normal) ?_ (hk g' (.fN ak .hP));intro Q a w I Fs bW bU dK;refine wp_region_any hm ?_;have er:cV w.drew I a.tmps (get G) Fs:=bW.world (λ_ _ _=>rfl) (λ_ _=>rfl) (Nat.le_refl _);have gU:∀ k,eO (Array.replicate (kl ew l).toArray.size false) k=false:=by
  intro k;unfold eO;rcases Nat.lt_or_ge k (kl ew l).toArray.size with h | h
  ·simp only [fZ] at h ⊢; simp [h]
  ·simp only [fZ] at h ⊢; simp [Array.getElem?_eq_none (show (Array.replicate l.length false).size<=k by simpa using h)]
 refine Tz aE _ _ (Array.replicate l.length false) a w.drew (by simp) (by simp) (λae ab=>?_) ?_
 ·have:=(aE.lt ae ab).1;rw [List.getD_eq_getElem?_getD] at this;simp [Array.getD,ab];exact this
 have pW:=h1.sound dU .nil (kl ew l).toArray.size (Array.replicate (kl ew l).toArray.size false) a w.drew I Fs ?_ (by simp) (λk hk=>by omega) (λk _=>gU k) (λk hk=>by rw [gU] at hk; cases hk) er bU (λcx w' aJ=>dK _ _ ?_)
 ·simpa [fZ] using pW
 ·unfold hr;exact Nat.le_trans (List.length_filter_le _ _) (by simp)
 ·obtain ⟨de,cX,I',cn,hS,cd⟩:=aJ;exact ⟨de,cX,I',cn,hS,⟨⟨cd.fp.os,cd.fp.tape,cd.fp.output,cd.fp.size,cd.fp.block,cd.fp.fI,Nat.le_trans (Nat.le_succ _) cd.fp.wy⟩,cd.more,cd.new,cd.own⟩⟩
end
end Go.Own
namespace Go.Own
open Go
section
variable {α:Type}{P:Program}{N:dy}{g:aU}{a b:Operand}{t:TypeId}{m i:Int}
theorem cq.Ue {hl:Oper}{en:cv α}{LL:List (List α)}{L:List α}{jB y2:α}{o r:Nat}{path:List Nat}{y:af}{cs':List af}{x2:af}{G2:List (Nat × af)}(bd:hl.op=.store t a b) (aV:hl.dst=none) (bf:Rd g a (.ptr ⟨r,path++[i.toNat * (eW en).z+0]⟩ (m.toNat * en.z+o))) (aF:Rd g b y)
  (aE:b9 g ⟨r,path⟩=some (al (eW en) LL)) (hi:idx LL i=some L) (h:idx L m=some jB) (bB:gn P t cs'.length=true) (aa:qJ y=some cs') (he:fu (en.cells jB) o cs'=en.cells y2) (hlen:Nat.ble (o+cs'.length) en.z=true) (ba:Nat.blt 0 cs'.length=true)
  (hM:c0 g ⟨r,path⟩ (al (eW en) (LL.set i.toNat (L.set m.toNat y2))) r=some x2) (av:(get G2 r).isSome=true) [aJ:cK y] {y0:af}(uS:g r=some y0) [gW:cK y0] (eb:kP g (get G2) r x2 G2):cq P N g hl (get G2):=by
 have fK:b9 g ⟨r,path++[i.toNat * (eW en).z+0]⟩=some (al en L):=tV (g:=g) (r:=r) (path:=path) aE hi rfl;have ta:(ch (eW en) LL).set (i.toNat * (eW en).z+0) (al en (L.set m.toNat y2))=ch (eW en) (LL.set i.toNat (L.set m.toNat y2)):=by
  have h1:=GK (eW en) (o:=0) (cs':=[al en (L.set m.toNat y2)]) (y2:=L.set m.toNat y2) hi (by simp [fu,eW]) (by simp [eW]);rw [<- h1];unfold fu;have a8:i.toNat * (eW en).z+0<(ch (eW en) LL).length:=by
   obtain ⟨tt,jN,_⟩:=pt hi;rw [nt];show i.toNat * 1+0<LL.length * 1;omega
  rw [List.set_eq_take_append_cons_drop,if_pos a8];simp
 refine cq.qp (p:=⟨r,path++[i.toNat * (eW en).z+0]⟩) bd aV bf aF fK h bB aa he hlen ba (x2:=x2) ?_ av uS eb;show c0 g ⟨r,path++[i.toNat * (eW en).z+0]⟩ (al en (L.set m.toNat y2)) r=some x2;rw [LU _ aE hi rfl,ta];have ao:(LL.set i.toNat (L.set m.toNat y2)).length=LL.length:=List.length_set;rw [<- hM];unfold al;rw [ao]
end
end Go.Own
namespace Go.Proofs
open Go Go.Own
set_option maxRecDepth 100000
set_option linter.unusedVariables false
structure Act where
 Kind:Int
 N:Int
 deriving DecidableEq,Inhabited
def CG (a0:Act):Option (Int) :=
 ((bif decide (a0.Kind=1) then (bif decide (0<=a0.N) then some (decide (a0.N<20000)) else some false) else some false)).bind λlV =>
 (bif lV then
 some (aM (a0.N+1))
 else
 ((bif decide (a0.Kind=2) then (bif decide (0<a0.N) then some (decide (a0.N<20000)) else some false) else some false)).bind λpR =>
 (bif pR then
 some (aM (-a0.N))
 else
 ((bif decide (a0.Kind=3) then some (decide (a0.N=0)) else some false)).bind λja =>
 (bif ja then
 some 20001
 else
 ((bif decide (a0.Kind=4) then some (decide (a0.N=0)) else some false)).bind λoj =>
 (bif oj then
 some 20002
 else
 some 0))))
def zU (a0:Int):Option (Bool) :=
 ((bif decide (97<=a0) then (bif decide (a0<=122) then some true else (bif decide (65<=a0) then (bif decide (a0<=90) then some true else some (decide (a0=95))) else some (decide (a0=95)))) else (bif decide (65<=a0) then (bif decide (a0<=90) then some true else some (decide (a0=95))) else some (decide (a0=95))))).bind λpR =>
 some pR
def zV (a0:Int):Option (Bool) :=
 ((bif decide (48<=a0) then some (decide (a0<=57)) else some false)).bind λc2 =>
 some c2
def zR (a0:ByteArray) (ar:Int):Option (Int) :=
 (cI (R:=Int) (λ(s1:Int) =>
 ((bif decide (aM (ar+s1)<(a0.size:Int)) then ((kx a0 (aM (ar+s1))).bind λb5=>((zU b5).bind λbF=>(bif bF then some true else (bif decide (0<s1) then ((kx a0 (aM (ar+s1))).bind λcu=>((zV cu).bind λbQ=>(bif bQ then some true else ((kx a0 (aM (ar+s1))).bind λcL=>some (decide (cL=46)))))) else some false)))) else some false)).bind λoj =>
 (bif oj then
 some (.inl (aM (s1+1)))
 else
 some (.inr s1))) 0).bind λx2 =>
 some x2
def r9 (a0:ByteArray):Option (Bool) :=
 ((bif decide (1<=(a0.size:Int)) then (bif decide ((a0.size:Int)<=20) then ((zR a0 0).bind λa6=>some (decide (a6=(a0.size:Int)))) else some false) else some false)).bind λc4 =>
 some c4
def zT (a0:Int):Option (Int × Bool) :=
 (bif decide (a0=10) then
 some (110,true)
 else
 (bif decide (a0=9) then
 some (116,true)
 else
 (bif decide (a0=13) then
 some (114,true)
 else
 ((bif decide (a0=92) then
 some (decide (a0=92))
 else
 some (decide (a0=39)))).bind λF4 =>
 (bif F4 then
 some (a0,true)
 else
 ((bif decide (32<=a0) then some (0,decide (a0<=126)) else some (0,false))).bind λom =>
 some (om.1,om.2)))))
structure Sym where
 Name:ByteArray
 Lit:Bool
 c_:Int
 At:Int
 deriving DecidableEq,Inhabited
def dF:cv Sym:=⟨4,λx=>[ah x.Name,bk x.Lit,j x.c_,j x.At],λ_=>rfl,λ_=>eG.bE⟩
instance:Flat dF:=⟨λ_=>rfl⟩
instance:ll dF:=⟨λx=>(inferInstance:jE [ah x.Name,bk x.Lit,j x.c_,j x.At])⟩
instance:gT dF dF:=⟨rfl,λx=>(inferInstance:dE [ah x.Name,bk x.Lit,j x.c_,j x.At] [ah x.Name,bk x.Lit,j x.c_,j x.At])⟩
instance {x:Sym}:dE (dF.cells x) [ah x.Name,bk x.Lit,j x.c_,j x.At]:=(inferInstance:dE [ah x.Name,bk x.Lit,j x.c_,j x.At] [ah x.Name,bk x.Lit,j x.c_,j x.At])
def u9 (a0:Sym) (ar:Bool) (a2:Bool):Option (Bool) :=
 (bif a0.Lit then
 ((bif !a2 then some true else (bif !decide ((a0.Name.size:Int)=1) then some true else some (!decide (a0.c_=0))))).bind λc4 =>
 (bif c4 then
 some false
 else
 (kx a0.Name 0).bind λbF =>
 (zT bF).bind λbj =>
 some bj.2)
 else
 (((r9 a0.Name).bind λb4=>(bif b4 then (bif decide (a0.c_=0) then some true else (bif ar then (bif decide (1<=a0.c_) then some (decide (a0.c_<=50000)) else some false) else some false)) else some false))).bind λoj =>
 some oj)
structure Decl where
 Kind:Int
 Tag:ByteArray
 fh:(List Sym)
 At:Int
 deriving DecidableEq,Inhabited
def dJ:cv Decl:=⟨4,λx=>[j x.Kind,ah x.Tag,aj dF x.fh,j x.At],λ_=>rfl,λ_=>eG.bE⟩
instance:Flat dJ:=⟨λ_=>rfl⟩
instance:gT dJ dJ:=⟨rfl,λx=>(inferInstance:dE [j x.Kind,ah x.Tag,aj dF x.fh,j x.At] [j x.Kind,ah x.Tag,aj dF x.fh,j x.At])⟩
instance {x:Decl}:dE (dJ.cells x) [j x.Kind,ah x.Tag,aj dF x.fh,j x.At]:=(inferInstance:dE [j x.Kind,ah x.Tag,aj dF x.fh,j x.At] [j x.Kind,ah x.Tag,aj dF x.fh,j x.At])
def r8 (a0:Decl):Option (Bool) :=
 ((bif decide (a0.Kind<1) then some true else (bif decide (6<a0.Kind) then some true else (bif decide ((a0.fh.length:Int)=0) then some true else (bif decide (a0.Kind=6) then (bif !decide ((a0.fh.length:Int)=1) then some true else (bif !decide (a0.Tag={ data:=#[] }) then some true else (bif decide (a0.Kind=5) then (bif decide (a0.Tag={ data:=#[] }) then some true else some false) else some false))) else (bif decide (a0.Kind=5) then (bif decide (a0.Tag={ data:=#[] }) then some true else (bif !decide (a0.Tag={ data:=#[] }) then ((r9 a0.Tag).bind λcL=>some (!cL)) else some false)) else (bif !decide (a0.Tag={ data:=#[] }) then ((r9 a0.Tag).bind λdS=>some (!dS)) else some false))))))).bind λsH =>
 (bif sH then
 some false
 else
 (cI (R:=(Unit) ⊕ (Bool)) (λ(im:Int) =>
 (bif decide (im<(a0.fh.length:Int)) then
 (idx a0.fh im).bind λgQ =>
 (u9 gQ (decide (a0.Kind=1)) (decide (a0.Kind<5))).bind λfQ =>
 (bif !fQ then
 some (.inr (.inr false))
 else
 some (.inl (aM (im+1))))
 else
 some (.inr (.inl ())))) 0).bind λff =>
 (match ff with
 | .inl gL =>
 some true
 | .inr eZ =>
 some eZ))
def u_ (a0:Sym):Option (Bool) :=
 ((bif decide (a0.Name={ data:=#[] }) then (bif !a0.Lit then some (decide (a0.c_=0)) else some false) else some false)).bind λlV =>
 some lV
def u' (a0:ByteArray) (ar:Int) (a2:ByteArray):Option (Bool) :=
 ((bif decide ((a2.size:Int)<=aM ((a0.size:Int) - ar)) then ((wx a0 ar (aM (ar+(a2.size:Int)))).bind λx2=>some (decide (x2=a2))) else some false)).bind λlV =>
 some lV
def zW (a0:ByteArray) (ar:Int):Option (Int) :=
 (((kx a0 ar).bind λaH=>(bif decide (aH=34) then some true else ((kx a0 ar).bind λa6=>some (decide (a6=39)))))).bind λc4 =>
 (bif c4 then
 (cI (R:=(Unit) ⊕ (Int)) (λ(cW:Int) =>
 ((bif decide (cW<(a0.size:Int)) then ((kx a0 cW).bind λcy=>some (!decide (cy=10))) else some false)).bind λt_ =>
 (bif t_ then
 (kx a0 cW).bind λdS =>
 (kx a0 ar).bind λeg =>
 (bif decide (dS=eg) then
 some (.inr (.inr (aM (cW+1))))
 else
 (kx a0 cW).bind λb7 =>
 (bif decide (b7=92) then
 ((bif decide (aM (cW+1)<(a0.size:Int)) then ((kx a0 (aM (cW+1))).bind λeZ=>some (decide (eZ=10))) else some false)).bind λsI =>
 (bif sI then
 some (.inr (.inr (-1)))
 else
 some (.inl (aM ((aM (cW+1))+1))))
 else
 some (.inl (aM (cW+1)))))
 else
 some (.inr (.inl ())))) (aM (ar+1))).bind λbj =>
 (match bj with
 | .inl b4 =>
 some (-1)
 | .inr cu =>
 some cu)
 else
 (kx a0 ar).bind λfQ =>
 (bif decide (fQ=96) then
 (cI (R:=(Unit) ⊕ (Int)) (λ(vt:Int) =>
 (bif decide (vt<(a0.size:Int)) then
 (kx a0 vt).bind λic =>
 (bif decide (ic=96) then
 some (.inr (.inr (aM (vt+1))))
 else
 some (.inl (aM (vt+1))))
 else
 some (.inr (.inl ())))) (aM (ar+1))).bind λiY =>
 (match iY with
 | .inl fB =>
 some (-1)
 | .inr cU =>
 some cU)
 else
 (u' a0 ar ({ data:=#[47,47] })).bind λgd =>
 (bif gd then
 (cI (R:=Int) (λ(tB:Int) =>
 ((bif decide (tB<(a0.size:Int)) then ((kx a0 tB).bind λc3=>some (!decide (c3=10))) else some false)).bind λyb =>
 (bif yb then
 some (.inl (aM (tB+1)))
 else
 some (.inr tB))) ar).bind λfG =>
 some fG
 else
 (u' a0 ar ({ data:=#[47,42] })).bind λMs =>
 (bif Ms then
 (cI (R:=(Unit) ⊕ (Int)) (λ(tC:Int) =>
 (bif decide (tC<(a0.size:Int)) then
 (u' a0 tC ({ data:=#[42,47] })).bind λAE =>
 (bif AE then
 some (.inr (.inr (aM (tC+2))))
 else
 some (.inl (aM (tC+1))))
 else
 some (.inr (.inl ())))) (aM (ar+2))).bind λMt =>
 (match Mt with
 | .inl Mu =>
 some (-1)
 | .inr rj =>
 some rj)
 else
 some ar))))
def xk (a0:ByteArray) (ar:Int):Option (Int) :=
 ((bif decide (ar<0) then some true else (bif decide ((a0.size:Int)<=ar) then some true else ((kx a0 ar).bind λa6=>some (!decide (a6=123)))))).bind λc4 =>
 (bif c4 then
 some (-1)
 else
 (cI (R:=(Unit) ⊕ (Int)) (λ(cW:Int × Int) =>
 (bif decide (cW.2<(a0.size:Int)) then
 (zW a0 cW.2).bind λcy =>
 (bif decide (cy<0) then
 some (.inr (.inr (-1)))
 else
 (bif decide (cW.2<cy) then
 some (.inl (cW.1,cy))
 else
 (kx a0 cW.2).bind λdS =>
 ((bif decide (dS=123) then
 some (aM (cW.1+1))
 else
 some cW.1)).bind λpw =>
 (kx a0 cW.2).bind λb7 =>
 ((bif decide (b7=125) then
 some (aM (pw - 1))
 else
 some pw)).bind λCo =>
 (bif decide (Co=0) then
 some (.inr (.inr (aM (cW.2+1))))
 else
 some (.inl (Co,aM (cW.2+1))))))
 else
 some (.inr (.inl ())))) (0,ar)).bind λbj =>
 (match bj with
 | .inl b4 =>
 some (-1)
 | .inr cu =>
 some cu))
structure Part where
 Sym:Sym
 Code:ByteArray
 At:Int
 deriving DecidableEq,Inhabited
structure Alt where
 jr:(List Part)
 Prec:Sym
 At:Int
 deriving DecidableEq,Inhabited
def lu:cv Part:=⟨6,λx=>[ah x.Sym.Name,bk x.Sym.Lit,j x.Sym.c_,j x.Sym.At,ah x.Code,j x.At],λ_=>rfl,λ_=>eG.bE⟩
instance:Flat lu:=⟨λ_=>rfl⟩
instance:ll lu:=⟨λx=>(inferInstance:jE [ah x.Sym.Name,bk x.Sym.Lit,j x.Sym.c_,j x.Sym.At,ah x.Code,j x.At])⟩
instance:gT lu lu:=⟨rfl,λx=>(inferInstance:dE [ah x.Sym.Name,bk x.Sym.Lit,j x.Sym.c_,j x.Sym.At,ah x.Code,j x.At] [ah x.Sym.Name,bk x.Sym.Lit,j x.Sym.c_,j x.Sym.At,ah x.Code,j x.At])⟩
instance {x:Part}:dE (lu.cells x) [ah x.Sym.Name,bk x.Sym.Lit,j x.Sym.c_,j x.Sym.At,ah x.Code,j x.At]:=(inferInstance:dE [ah x.Sym.Name,bk x.Sym.Lit,j x.Sym.c_,j x.Sym.At,ah x.Code,j x.At] [ah x.Sym.Name,bk x.Sym.Lit,j x.Sym.c_,j x.Sym.At,ah x.Code,j x.At])
def eD:cv Alt:=⟨6,λx=>[aj lu x.jr,ah x.Prec.Name,bk x.Prec.Lit,j x.Prec.c_,j x.Prec.At,j x.At],λ_=>rfl,λ_=>eG.bE⟩
instance:Flat eD:=⟨λ_=>rfl⟩
instance:gT eD eD:=⟨rfl,λx=>(inferInstance:dE [aj lu x.jr,ah x.Prec.Name,bk x.Prec.Lit,j x.Prec.c_,j x.Prec.At,j x.At] [aj lu x.jr,ah x.Prec.Name,bk x.Prec.Lit,j x.Prec.c_,j x.Prec.At,j x.At])⟩
instance {x:Alt}:dE (eD.cells x) [aj lu x.jr,ah x.Prec.Name,bk x.Prec.Lit,j x.Prec.c_,j x.Prec.At,j x.At]:=(inferInstance:dE [aj lu x.jr,ah x.Prec.Name,bk x.Prec.Lit,j x.Prec.c_,j x.Prec.At,j x.At] [aj lu x.jr,ah x.Prec.Name,bk x.Prec.Lit,j x.Prec.c_,j x.Prec.At,j x.At])
def q1 (a0:Alt):Option (Bool) :=
 (cI (R:=(Unit) ⊕ (Bool)) (λ(s1:Int) =>
 (bif decide (s1<(a0.jr.length:Int)) then
 (idx a0.jr s1).bind λbF =>
 ((bif decide (bF.Code={ data:=#[] }) then ((u9 bF.Sym false true).bind λb4=>(bif !b4 then some true else (bif !decide (bF.Code={ data:=#[] }) then ((u_ bF.Sym).bind λcy=>(bif !cy then some true else ((xk bF.Code 0).bind λdG=>some (!decide (dG=(bF.Code.size:Int)))))) else some false))) else (bif !decide (bF.Code={ data:=#[] }) then ((u_ bF.Sym).bind λeg=>(bif !eg then some true else ((xk bF.Code 0).bind λb7=>some (!decide (b7=(bF.Code.size:Int)))))) else some false))).bind λpQ =>
 (bif pQ then
 some (.inr (.inr false))
 else
 some (.inl (aM (s1+1))))
 else
 some (.inr (.inl ())))) 0).bind λx2 =>
 (match x2 with
 | .inl a6 =>
 (((u_ a0.Prec).bind λeZ=>(bif eZ then some true else ((u9 a0.Prec false true).bind λgQ=>some gQ)))).bind λBc =>
 some Bc
 | .inr bX =>
 some bX)
structure kr where
 Left:ByteArray
 gZ:(List Alt)
 At:Int
 deriving DecidableEq,Inhabited
structure Source where
 bw:ByteArray
 Decls:(List Decl)
 e1:(List kr)
 bz:ByteArray
 deriving DecidableEq,Inhabited
def hj:cv kr:=⟨3,λx=>[ah x.Left,aj eD x.gZ,j x.At],λ_=>rfl,λ_=>eG.bE⟩
instance:Flat hj:=⟨λ_=>rfl⟩
instance:gT hj hj:=⟨rfl,λx=>(inferInstance:dE [ah x.Left,aj eD x.gZ,j x.At] [ah x.Left,aj eD x.gZ,j x.At])⟩
instance {x:kr}:dE (hj.cells x) [ah x.Left,aj eD x.gZ,j x.At]:=(inferInstance:dE [ah x.Left,aj eD x.gZ,j x.At] [ah x.Left,aj eD x.gZ,j x.At])
def dT:cv Source:=⟨4,λx=>[ah x.bw,aj dJ x.Decls,aj hj x.e1,ah x.bz],λ_=>rfl,λ_=>eG.bE⟩
instance:Flat dT:=⟨λ_=>rfl⟩
instance:gT dT dT:=⟨rfl,λx=>(inferInstance:dE [ah x.bw,aj dJ x.Decls,aj hj x.e1,ah x.bz] [ah x.bw,aj dJ x.Decls,aj hj x.e1,ah x.bz])⟩
instance {x:Source}:dE (dT.cells x) [ah x.bw,aj dJ x.Decls,aj hj x.e1,ah x.bz]:=(inferInstance:dE [ah x.bw,aj dJ x.Decls,aj hj x.e1,ah x.bz] [ah x.bw,aj dJ x.Decls,aj hj x.e1,ah x.bz])
def vl (a0:Source):Option (Bool) :=
 (cI (R:=(Unit) ⊕ (Bool)) (λ(s1:Int) =>
 (bif decide (aM (s1+1)<(a0.bw.size:Int)) then
 (wx a0.bw s1 (aM (s1+2))).bind λbF =>
 (bif decide (bF={ data:=#[37,125] }) then
 some (.inr (.inr false))
 else
 some (.inl (aM (s1+1))))
 else
 some (.inr (.inl ())))) 0).bind λx2 =>
 (match x2 with
 | .inl a6 =>
 (cI (R:=(Unit) ⊕ (Bool)) (λ(cJ:Int) =>
 (bif decide (cJ<(a0.Decls.length:Int)) then
 (idx a0.Decls cJ).bind λdG =>
 (r8 dG).bind λdS =>
 (bif !dS then
 some (.inr (.inr false))
 else
 some (.inl (aM (cJ+1))))
 else
 some (.inr (.inl ())))) 0).bind λcu =>
 (match cu with
 | .inl bQ =>
 (cI (R:=(Unit) ⊕ (Bool)) (λ(lJ:Int) =>
 (bif decide (lJ<(a0.e1.length:Int)) then
 (idx a0.e1 lJ).bind λfP =>
 (((r9 fP.Left).bind λgQ=>(bif !gQ then some true else some (decide ((fP.gZ.length:Int)=0))))).bind λwj =>
 (bif wj then
 some (.inr (.inr false))
 else
 (cI (R:=(Unit) ⊕ (Bool)) (λ(q8:Int) =>
 (bif decide (q8<(fP.gZ.length:Int)) then
 (idx fP.gZ q8).bind λlg =>
 (q1 lg).bind λgd =>
 (bif !gd then
 some (.inr (.inr false))
 else
 some (.inl (aM (q8+1))))
 else
 some (.inr (.inl ())))) 0).bind λfB =>
 (match fB with
 | .inl cU =>
 some (.inl (aM (lJ+1)))
 | .inr eB =>
 some (.inr (.inr eB))))
 else
 some (.inr (.inl ())))) 0).bind λb7 =>
 (match b7 with
 | .inl ff =>
 some (decide (0<(a0.e1.length:Int)))
 | .inr gL =>
 some gL)
 | .inr cy =>
 some cy)
 | .inr bX =>
 some bX)
structure bC where
 Name:ByteArray
 Lit:Bool
 c_:Int
 Level:Int
 eN:Int
 Tag:ByteArray
 deriving DecidableEq,Inhabited
structure eH where
 Name:ByteArray
 Tag:ByteArray
 deriving DecidableEq,Inhabited
structure Prod where
 Left:Int
 e7:(List Int)
 Prec:Int
 Code:ByteArray
 sw:(List Int)
 At:Int
 deriving DecidableEq,Inhabited
structure bR where
 aX:(List bC)
 bt:(List eH)
 aW:(List Prod)
 bw:ByteArray
 bz:ByteArray
 deriving DecidableEq,Inhabited
structure cC where
 aq:bR
 bT:(List Bool)
 bN:(List eH)
 bA:(List ByteArray)
 b':Int
 cb:Int
 ca:ByteArray
 bO:Int
 bx:Int
 deriving DecidableEq,Inhabited
def bl:cv bC:=⟨6,λx=>[ah x.Name,bk x.Lit,j x.c_,j x.Level,j x.eN,ah x.Tag],λ_=>rfl,λ_=>eG.bE⟩
instance:Flat bl:=⟨λ_=>rfl⟩
instance:ll bl:=⟨λx=>(inferInstance:jE [ah x.Name,bk x.Lit,j x.c_,j x.Level,j x.eN,ah x.Tag])⟩
instance:gT bl bl:=⟨rfl,λx=>(inferInstance:dE [ah x.Name,bk x.Lit,j x.c_,j x.Level,j x.eN,ah x.Tag] [ah x.Name,bk x.Lit,j x.c_,j x.Level,j x.eN,ah x.Tag])⟩
instance {x:bC}:dE (bl.cells x) [ah x.Name,bk x.Lit,j x.c_,j x.Level,j x.eN,ah x.Tag]:=(inferInstance:dE [ah x.Name,bk x.Lit,j x.c_,j x.Level,j x.eN,ah x.Tag] [ah x.Name,bk x.Lit,j x.c_,j x.Level,j x.eN,ah x.Tag])
def a1:cv eH:=⟨2,λx=>[ah x.Name,ah x.Tag],λ_=>rfl,λ_=>eG.bE⟩
instance:Flat a1:=⟨λ_=>rfl⟩
instance:ll a1:=⟨λx=>(inferInstance:jE [ah x.Name,ah x.Tag])⟩
instance:gT a1 a1:=⟨rfl,λx=>(inferInstance:dE [ah x.Name,ah x.Tag] [ah x.Name,ah x.Tag])⟩
def bD:cv Prod:=⟨6,λx=>[j x.Left,aj aG x.e7,j x.Prec,ah x.Code,aj aG x.sw,j x.At],λ_=>rfl,λ_=>eG.bE⟩
instance:Flat bD:=⟨λ_=>rfl⟩
instance:gT bD bD:=⟨rfl,λx=>(inferInstance:dE [j x.Left,aj aG x.e7,j x.Prec,ah x.Code,aj aG x.sw,j x.At] [j x.Left,aj aG x.e7,j x.Prec,ah x.Code,aj aG x.sw,j x.At])⟩
instance {x:Prod}:dE (bD.cells x) [j x.Left,aj aG x.e7,j x.Prec,ah x.Code,aj aG x.sw,j x.At]:=(inferInstance:dE [j x.Left,aj aG x.e7,j x.Prec,ah x.Code,aj aG x.sw,j x.At] [j x.Left,aj aG x.e7,j x.Prec,ah x.Code,aj aG x.sw,j x.At])
def cg:cv bR:=⟨5,λx=>[aj bl x.aX,aj a1 x.bt,aj bD x.aW,ah x.bw,ah x.bz],λ_=>rfl,λ_=>eG.bE⟩
instance:Flat cg:=⟨λ_=>rfl⟩
instance:gT cg cg:=⟨rfl,λx=>(inferInstance:dE [aj bl x.aX,aj a1 x.bt,aj bD x.aW,ah x.bw,ah x.bz] [aj bl x.aX,aj a1 x.bt,aj bD x.aW,ah x.bw,ah x.bz])⟩
instance {x:bR}:dE (cg.cells x) [aj bl x.aX,aj a1 x.bt,aj bD x.aW,ah x.bw,ah x.bz]:=(inferInstance:dE [aj bl x.aX,aj a1 x.bt,aj bD x.aW,ah x.bw,ah x.bz] [aj bl x.aX,aj a1 x.bt,aj bD x.aW,ah x.bw,ah x.bz])
def Bw:cv cC:=⟨13,λx=>[aj bl x.aq.aX,aj a1 x.aq.bt,aj bD x.aq.aW,ah x.aq.bw,ah x.aq.bz,aj b0 x.bT,aj a1 x.bN,aj cp x.bA,j x.b',j x.cb,ah x.ca,j x.bO,j x.bx],λ_=>rfl,λ_=>eG.bE⟩
instance:Flat Bw:=⟨λ_=>rfl⟩
instance:gT Bw Bw:=⟨rfl,λx=>(inferInstance:dE [aj bl x.aq.aX,aj a1 x.aq.bt,aj bD x.aq.aW,ah x.aq.bw,ah x.aq.bz,aj b0 x.bT,aj a1 x.bN,aj cp x.bA,j x.b',j x.cb,ah x.ca,j x.bO,j x.bx] [aj bl x.aq.aX,aj a1 x.aq.bt,aj bD x.aq.aW,ah x.aq.bw,ah x.aq.bz,aj b0 x.bT,aj a1 x.bN,aj cp x.bA,j x.b',j x.cb,ah x.ca,j x.bO,j x.bx])⟩
instance {x:cC}:dE (Bw.cells x) [aj bl x.aq.aX,aj a1 x.aq.bt,aj bD x.aq.aW,ah x.aq.bw,ah x.aq.bz,aj b0 x.bT,aj a1 x.bN,aj cp x.bA,j x.b',j x.cb,ah x.ca,j x.bO,j x.bx]:=(inferInstance:dE [aj bl x.aq.aX,aj a1 x.aq.bt,aj bD x.aq.aW,ah x.aq.bw,ah x.aq.bz,aj b0 x.bT,aj a1 x.bN,aj cp x.bA,j x.b',j x.cb,ah x.ca,j x.bO,j x.bx] [aj bl x.aq.aX,aj a1 x.aq.bt,aj bD x.aq.aW,ah x.aq.bw,ah x.aq.bz,aj b0 x.bT,aj a1 x.bN,aj cp x.bA,j x.b',j x.cb,ah x.ca,j x.bO,j x.bx])
def IU:cv bR:=⟨5,λx=>[al bl x.aX,al a1 x.bt,al bD x.aW,ah x.bw,ah x.bz],λ_=>rfl,λ_=>eG.bE⟩
instance:gT IU cg:=⟨rfl,λx=>(inferInstance:dE [al bl x.aX,al a1 x.bt,al bD x.aW,ah x.bw,ah x.bz] [aj bl x.aX,aj a1 x.bt,aj bD x.aW,ah x.bw,ah x.bz])⟩
instance {x:bR}:dE (IU.cells x) [aj bl x.aX,aj a1 x.bt,aj bD x.aW,ah x.bw,ah x.bz]:=(inferInstance:dE [al bl x.aX,al a1 x.bt,al bD x.aW,ah x.bw,ah x.bz] [aj bl x.aX,aj a1 x.bt,aj bD x.aW,ah x.bw,ah x.bz])
def dR:cv cC:=⟨13,λx=>[al bl x.aq.aX,al a1 x.aq.bt,al bD x.aq.aW,ah x.aq.bw,ah x.aq.bz,al b0 x.bT,al a1 x.bN,al cp x.bA,j x.b',j x.cb,ah x.ca,j x.bO,j x.bx],λ_=>rfl,λ_=>eG.bE⟩
instance {x:cC}:dE (dR.cells x) [aj bl x.aq.aX,aj a1 x.aq.bt,aj bD x.aq.aW,ah x.aq.bw,ah x.aq.bz,aj b0 x.bT,aj a1 x.bN,aj cp x.bA,j x.b',j x.cb,ah x.ca,j x.bO,j x.bx]:=(inferInstance:dE [al bl x.aq.aX,al a1 x.aq.bt,al bD x.aq.aW,ah x.aq.bw,ah x.aq.bz,al b0 x.bT,al a1 x.bN,al cp x.bA,j x.b',j x.cb,ah x.ca,j x.bO,j x.bx] [aj bl x.aq.aX,aj a1 x.aq.bt,aj bD x.aq.aW,ah x.aq.bw,ah x.aq.bz,aj b0 x.bT,aj a1 x.bN,aj cp x.bA,j x.b',j x.cb,ah x.ca,j x.bO,j x.bx])
def mR (a0:cC) (ar:Int) (a2:ByteArray):Option (cC) :=
 ((bif decide (a0.b'=0) then
 some (⟨a0.aq,a0.bT,a0.bN,a0.bA,3,ar,a2,a0.bO,a0.bx⟩:cC)
 else
 some a0)).bind λhN =>
 some hN
def xv (a0:cC) (ar:ByteArray):Option (Int) :=
 (cI (R:=(Unit) ⊕ (Int)) (λ(s1:Int) =>
 (bif decide (s1<(a0.bN.length:Int)) then
 (idx a0.bN s1).bind λbF =>
 (bif decide (bF.Name=ar) then
 some (.inr (.inr s1))
 else
 some (.inl (aM (s1+1))))
 else
 some (.inr (.inl ())))) 0).bind λx2 =>
 (match x2 with
 | .inl a6 =>
 some (-1)
 | .inr bX =>
 some bX)
def r_ (a0:cC) (ar:Sym):Option (Int) :=
 (cI (R:=(Unit) ⊕ (Int)) (λ(s1:Int) =>
 (bif decide (s1<(a0.aq.aX.length:Int)) then
 (((idx a0.aq.aX s1).bind λbF=>(bif decide (bF.Name=ar.Name) then ((idx a0.aq.aX s1).bind λb4=>(bif (b4.Lit == ar.Lit) then some (!decide (s1=2)) else some false)) else some false))).bind λja =>
 (bif ja then
 some (.inr (.inr s1))
 else
 some (.inl (aM (s1+1))))
 else
 some (.inr (.inl ())))) 1).bind λx2 =>
 (match x2 with
 | .inl a6 =>
 some (-1)
 | .inr bX =>
 some bX)
def xj (a0:cC) (ar:Int):Option (Int) :=
 (cI (R:=(Unit) ⊕ (Int)) (λ(s1:Int) =>
 (bif decide (s1<(a0.aq.aX.length:Int)) then
 (idx a0.aq.aX s1).bind λbF =>
 (bif decide (bF.c_=ar) then
 some (.inr (.inr s1))
 else
 some (.inl (aM (s1+1))))
 else
 some (.inr (.inl ())))) 3).bind λx2 =>
 (match x2 with
 | .inl a6 =>
 some (-1)
 | .inr bX =>
 some bX)
def xi (a0:cC) (ar:Sym):Option (Int × cC) :=
 (r_ a0 ar).bind λaH =>
 (bif decide (0<=aH) then
 some (aH,a0)
 else
 ((bif ar.Lit then
 (kx ar.Name 0).bind λb5 =>
 (xj a0 (aM b5)).bind λbF =>
 ((bif decide (0<=bF) then
 (mR a0 ar.At ar.Name).bind λcu =>
 some cu
 else
 some a0)).bind λnp =>
 some (np,aM b5)
 else
 some (a0,0))).bind λdd =>
 (eI dd.1.aq.aX [(⟨ar.Name,ar.Lit,dd.2,0,0,{ data:=#[] }⟩:bC)]).bind λbQ =>
 (eI dd.1.bT [ar.Lit]).bind λcy =>
 some (aM (((dd.1.aq.aX++[(⟨ar.Name,ar.Lit,dd.2,0,0,{ data:=#[] }⟩:bC)]).length:Int) - 1),(⟨(⟨dd.1.aq.aX++[(⟨ar.Name,ar.Lit,dd.2,0,0,{ data:=#[] }⟩:bC)],dd.1.aq.bt,dd.1.aq.aW,dd.1.aq.bw,dd.1.aq.bz⟩:bR),dd.1.bT++[ar.Lit],dd.1.bN,dd.1.bA,dd.1.b',dd.1.cb,dd.1.ca,dd.1.bO,dd.1.bx⟩:cC)))
def vm (a0:cC) (ar:Decl) (a2:Sym):Option (cC) :=
 (bif decide (ar.Kind=5) then
 (xv a0 a2.Name).bind λx2 =>
 ((bif decide (x2<0) then
 (eI a0.bN [(⟨a2.Name,ar.Tag⟩:eH)]).bind λb5 =>
 some (⟨a0.aq,a0.bT,a0.bN++[(⟨a2.Name,ar.Tag⟩:eH)],a0.bA,a0.b',a0.cb,a0.ca,a0.bO,a0.bx⟩:cC)
 else
 (idx a0.bN x2).bind λbF =>
 ((bif !decide (bF.Tag=ar.Tag) then
 (mR a0 a2.At a2.Name).bind λcu =>
 some cu
 else
 some a0)).bind λnp =>
 some np)).bind λdd =>
 some dd
 else
 (xi a0 a2).bind λbQ =>
 (idx bQ.2.aq.aX bQ.1).bind λcy =>
 ((bif !decide (ar.Kind=1) then
 ((bif decide (0<cy.Level) then
 (mR bQ.2 a2.At a2.Name).bind λcm =>
 some (⟨(⟨bQ.2.aq.aX,cm.aq.bt,cm.aq.aW,cm.aq.bw,cm.aq.bz⟩:bR),cm.bT,cm.bN,cm.bA,cm.b',cm.cb,cm.ca,cm.bO,cm.bx⟩:cC)
 else
 some bQ.2)).bind λdc =>
 (idx dc.aq.aX bQ.1).bind λb7 =>
 some (⟨(⟨(dc.aq.aX.set bQ.1.toNat (⟨b7.Name,b7.Lit,b7.c_,dc.bO,b7.eN,b7.Tag⟩:bC)).set bQ.1.toNat (⟨(⟨b7.Name,b7.Lit,b7.c_,dc.bO,b7.eN,b7.Tag⟩:bC).Name,(⟨b7.Name,b7.Lit,b7.c_,dc.bO,b7.eN,b7.Tag⟩:bC).Lit,(⟨b7.Name,b7.Lit,b7.c_,dc.bO,b7.eN,b7.Tag⟩:bC).c_,(⟨b7.Name,b7.Lit,b7.c_,dc.bO,b7.eN,b7.Tag⟩:bC).Level,aM (ar.Kind - 1),(⟨b7.Name,b7.Lit,b7.c_,dc.bO,b7.eN,b7.Tag⟩:bC).Tag⟩:bC),dc.aq.bt,dc.aq.aW,dc.aq.bw,dc.aq.bz⟩:bR),dc.bT,dc.bN,dc.bA,dc.b',dc.cb,dc.ca,dc.bO,dc.bx⟩:cC)
 else
 some bQ.2)).bind λfq =>
 (idx fq.aq.aX bQ.1).bind λff =>
 ((bif decide (0<a2.c_) then
 ((bif decide (bQ.1=1) then some true else ((idx fq.bT bQ.1).bind λgQ=>(bif gQ then some true else ((xj fq a2.c_).bind λfR=>some (decide (0<=fR))))))).bind λBd =>
 ((bif Bd then
 (mR fq a2.At a2.Name).bind λcU =>
 some (⟨(⟨fq.aq.aX,cU.aq.bt,cU.aq.aW,cU.aq.bw,cU.aq.bz⟩:bR),cU.bT,cU.bN,cU.bA,cU.b',cU.cb,cU.ca,cU.bO,cU.bx⟩:cC)
 else
 some fq)).bind λdZ =>
 (idx dZ.aq.aX bQ.1).bind λeB =>
 (idx dZ.bT bQ.1).bind λic =>
 some (⟨(⟨dZ.aq.aX.set bQ.1.toNat (⟨eB.Name,eB.Lit,a2.c_,eB.Level,eB.eN,eB.Tag⟩:bC),dZ.aq.bt,dZ.aq.aW,dZ.aq.bw,dZ.aq.bz⟩:bR),dZ.bT.set bQ.1.toNat true,dZ.bN,dZ.bA,dZ.b',dZ.cb,dZ.ca,dZ.bO,dZ.bx⟩:cC)
 else
 some fq)).bind λfx =>
 (idx fx.aq.aX bQ.1).bind λlg =>
 ((bif !decide (ar.Tag={ data:=#[] }) then
 ((bif !decide (lg.Tag={ data:=#[] }) then some (!decide (lg.Tag=ar.Tag)) else some false)).bind λDF =>
 ((bif DF then
 (mR fx a2.At a2.Name).bind λc3 =>
 some (⟨(⟨fx.aq.aX,c3.aq.bt,c3.aq.aW,c3.aq.bw,c3.aq.bz⟩:bR),c3.bT,c3.bN,c3.bA,c3.b',c3.cb,c3.ca,c3.bO,c3.bx⟩:cC)
 else
 some fx)).bind λgi =>
 (idx gi.aq.aX bQ.1).bind λiv =>
 some (⟨(⟨gi.aq.aX.set bQ.1.toNat (⟨iv.Name,iv.Lit,iv.c_,iv.Level,iv.eN,ar.Tag⟩:bC),gi.aq.bt,gi.aq.aW,gi.aq.bw,gi.aq.bz⟩:bR),gi.bT,gi.bN,gi.bA,gi.b',gi.cb,gi.ca,gi.bO,gi.bx⟩:cC)
 else
 some fx)).bind λnX =>
 some nX)
def pD (a0:cC) (ar:ByteArray):Option (Int) :=
 (cI (R:=(Unit) ⊕ (Int)) (λ(s1:Int) =>
 (bif decide (s1<(a0.bA.length:Int)) then
 (idx a0.bA s1).bind λbF =>
 (bif decide (bF=ar) then
 some (.inr (.inr s1))
 else
 some (.inl (aM (s1+1))))
 else
 some (.inr (.inl ())))) 0).bind λx2 =>
 (match x2 with
 | .inl a6 =>
 some (-1)
 | .inr bX =>
 some bX)
def tr (a0:cC) (ar:Sym):Option (Int × cC) :=
 (bif ar.Lit then
 (xi a0 ar).bind λx2 =>
 some (x2.1,x2.2)
 else
 (pD a0 ar.Name).bind λa6 =>
 (bif decide (0<=a6) then
 some (aM (1001+a6),a0)
 else
 (r_ a0 ar).bind λb5 =>
 (bif decide (b5<0) then
 (mR a0 ar.At ar.Name).bind λbj =>
 some (0,bj)
 else
 some (b5,a0))))
def q4 (a0:cC) (ar:ByteArray) (a2:Alt):Option (cC) :=
 (pD a0 ar).bind λaH =>
 (cI (R:=cC × List Int × ByteArray × Int) (λ(s2:cC × List Int × ByteArray × Int × Int) =>
 (bif decide (s2.2.2.2.2<(a2.jr.length:Int)) then
 ((idx a2.jr s2.2.2.2.2).bind λbj =>
 (((bif decide (bj.Code={ data:=#[] }) then
 (tr s2.1 bj.Sym).bind λcy =>
 (eI s2.2.1 [cy.1]).bind λcL =>
 some (cy.2,s2.2.1++[cy.1],s2.2.2.1,s2.2.2.2.1)
 else
 ((bif decide (aM (s2.2.2.2.2+1)=(a2.jr.length:Int)) then
 some (s2.1.aq.aW,s2.1.bx,s2.2.1,bj.Code,bj.At)
 else
 (eI ([]:List Int) s2.2.1).bind λeg =>
 (eI s2.1.aq.aW [(⟨aM ((s2.1.bA.length:Int)+(aM (s2.1.bx+1))),([]:List Int),(-1),bj.Code,([]:List Int)++s2.2.1,bj.At⟩:Prod)]).bind λcm =>
 (eI s2.2.1 [aM ((aM (1000+(s2.1.bA.length:Int)))+(aM (s2.1.bx+1)))]).bind λb7 =>
 some (s2.1.aq.aW++[(⟨aM ((s2.1.bA.length:Int)+(aM (s2.1.bx+1))),([]:List Int),(-1),bj.Code,([]:List Int)++s2.2.1,bj.At⟩:Prod)],aM (s2.1.bx+1),s2.2.1++[aM ((aM (1000+(s2.1.bA.length:Int)))+(aM (s2.1.bx+1)))],s2.2.2.1,s2.2.2.2.1))).bind λiU =>
 some ((⟨(⟨s2.1.aq.aX,s2.1.aq.bt,iU.1,s2.1.aq.bw,s2.1.aq.bz⟩:bR),s2.1.bT,s2.1.bN,s2.1.bA,s2.1.b',s2.1.cb,s2.1.ca,s2.1.bO,iU.2.1⟩:cC),iU.2.2.1,iU.2.2.2.1,iU.2.2.2.2))).bind λoP =>
 some (oP.1,oP.2.1,oP.2.2.1,oP.2.2.2)).bind λjk =>
 some (jk.1,jk.2.1,jk.2.2.1,jk.2.2.2)).bind λiV =>
 some (.inl (iV.1,iV.2.1,iV.2.2.1,iV.2.2.2,aM (s2.2.2.2.2+1)))
 else
 some (.inr (s2.1,s2.2.1,s2.2.2.1,s2.2.2.2.1)))) (a0,([]:List Int),{ data:=#[] },a2.At,0)).bind λa6 =>
 (cI (R:=Int) (λ(pG:Int × Int) =>
 (bif decide (pG.2<(a6.2.1.length:Int)) then
 ((idx a6.2.1 pG.2).bind λfQ =>
 ((bif decide (fQ<1000) then
 (idx a6.2.1 pG.2).bind λiY =>
 some iY
 else
 some pG.1)).bind λzp =>
 some zp).bind λnn =>
 some (.inl (nn,aM (pG.2+1)))
 else
 some (.inr pG.1))) ((-1),0)).bind λgL =>
 ((bif !decide (a2.Prec.Name={ data:=#[] }) then
 ((bif a2.Prec.Lit then some true else ((pD a6.1 a2.Prec.Name).bind λic=>some (decide (ic<0))))).bind λrD =>
 ((bif rD then
 (tr a6.1 a2.Prec).bind λgf =>
 some (gf.2,gf.1)
 else
 (mR a6.1 a2.Prec.At a2.Prec.Name).bind λfG =>
 some (fG,(-1)))).bind λnX =>
 some (nX.1,nX.2)
 else
 some (a6.1,gL))).bind λfb =>
 (eI ([]:List Int) a6.2.1).bind λie =>
 (eI fb.1.aq.aW [(⟨aM (1+aH),a6.2.1,fb.2,a6.2.2.1,([]:List Int)++a6.2.1,a6.2.2.2⟩:Prod)]).bind λh0 =>
 some (⟨(⟨fb.1.aq.aX,fb.1.aq.bt,fb.1.aq.aW++[(⟨aM (1+aH),a6.2.1,fb.2,a6.2.2.1,([]:List Int)++a6.2.1,a6.2.2.2⟩:Prod)],fb.1.aq.bw,fb.1.aq.bz⟩:bR),fb.1.bT,fb.1.bN,fb.1.bA,fb.1.b',fb.1.cb,fb.1.ca,fb.1.bO,fb.1.bx⟩:cC)
def Ah (a0:Int):Option (ByteArray) :=
 ((bif decide (a0<0) then
 some (IntKind.u64.wrap (-(IntKind.u64.wrap a0)))
 else
 some (IntKind.u64.wrap a0))).bind λhN =>
 (cI (R:=ByteArray) (λ(dV:Int × ByteArray) =>
 ((bif decide (0<dV.1) then some true else some (decide (dV.2={ data:=#[] })))).bind λpR =>
 (bif pR then
 (se dV.1 10).bind λcu =>
 (rE (strOfNums [hg (IntKind.u64.wrap (48+cu))]) dV.2).bind λbQ =>
 (sb dV.1 10).bind λcy =>
 some (.inl (cy,bQ))
 else
 some (.inr dV.2))) (hN,{ data:=#[] })).bind λbX =>
 (bif decide (a0<0) then
 (rE ({ data:=#[45] }) bX).bind λdG =>
 some dG
 else
 some bX)
def vi (a0:Source):Option (bR × Int × Int × ByteArray) :=
 (vl a0).bind λaH =>
 (bif !aH then
 some ((⟨([]:List bC),([]:List eH),([]:List Prod),{ data:=#[] },{ data:=#[] }⟩:bR),1,0,{ data:=#[] })
 else
 (oS 3 false).bind λa6 =>
 (cI (R:=cC × ByteArray) (λ(bM:cC × ByteArray × Int) =>
 (bif decide (bM.2.2<(a0.Decls.length:Int)) then
 (idx a0.Decls bM.2.2).bind λb4 =>
 ((bif decide (2<=b4.Kind) then some (decide (b4.Kind<=4)) else some false)).bind λja =>
 ((bif ja then
 some (aM (bM.1.bO+1))
 else
 some bM.1.bO)).bind λgG =>
 (cI (R:=cC × ByteArray) (λ(gb:cC × ByteArray × Int) =>
 (bif decide (gb.2.2<(b4.fh.length:Int)) then
 ((bif !decide (b4.Kind=6) then
 (idx b4.fh gb.2.2).bind λgL =>
 (vm gb.1 b4 gL).bind λeZ =>
 some (eZ,gb.2.1)
 else
 ((bif !decide (gb.2.1={ data:=#[] }) then
 (idx b4.fh gb.2.2).bind λfQ =>
 (idx b4.fh gb.2.2).bind λfR =>
 (mR gb.1 fQ.At fR.Name).bind λe0 =>
 some e0
 else
 some gb.1)).bind λnW =>
 (idx b4.fh gb.2.2).bind λiY =>
 some (nW,iY.Name))).bind λr3 =>
 some (.inl (r3.1,r3.2,aM (gb.2.2+1)))
 else
 some (.inr (gb.1,gb.2.1)))) ((⟨bM.1.aq,bM.1.bT,bM.1.bN,bM.1.bA,bM.1.b',bM.1.cb,bM.1.ca,gG,bM.1.bx⟩:cC),bM.2.1,0)).bind λdS =>
 some (.inl (dS.1,dS.2,aM (bM.2.2+1)))
 else
 some (.inr (bM.1,bM.2.1)))) ((⟨(⟨[(⟨{ data:=#[36,101,110,100] },false,0,0,0,{ data:=#[] }⟩:bC),(⟨{ data:=#[101,114,114,111,114] },false,(-1),0,0,{ data:=#[] }⟩:bC),(⟨{ data:=#[36,117,110,107] },false,(-1),0,0,{ data:=#[] }⟩:bC)],[],[],{ data:=#[] },{ data:=#[] }⟩:bR),a6,[],[],0,0,{ data:=#[] },0,0⟩:cC),{ data:=#[] },0)).bind λb5 =>
 (cI (R:=cC) (λ(lK:cC × Int) =>
 (bif decide (lK.2<(a0.e1.length:Int)) then
 ((idx a0.e1 lK.2).bind λgd =>
 (r_ lK.1 (⟨gd.Left,false,0,0⟩:Sym)).bind λkN =>
 ((bif decide (0<=kN) then
 (mR lK.1 gd.At gd.Left).bind λie =>
 some ie
 else
 some lK.1)).bind λfr =>
 (pD fr gd.Left).bind λh0 =>
 ((bif decide (h0<0) then
 (eI fr.bA [gd.Left]).bind λxJ =>
 some (fr.bA++[gd.Left])
 else
 some fr.bA)).bind λF3 =>
 some (⟨fr.aq,fr.bT,fr.bN,F3,fr.b',fr.cb,fr.ca,fr.bO,fr.bx⟩:cC)).bind λoO =>
 some (.inl (oO,aM (lK.2+1)))
 else
 some (.inr lK.1))) (b5.1,0)).bind λcU =>
 (cI (R:=cC) (λ(mf:cC × Int) =>
 (bif decide (mf.2<(a0.Decls.length:Int)) then
 (cI (R:=cC) (λ(lL:cC × Int) =>
 (idx a0.Decls mf.2).bind λAE =>
 (bif decide (lL.2<(AE.fh.length:Int)) then
 ((idx a0.Decls mf.2).bind λHh =>
 (idx Hh.fh lL.2).bind λk4 =>
 (((idx a0.Decls mf.2).bind λHi=>(bif decide (5<=Hi.Kind) then ((pD lL.1 k4.Name).bind λMv=>some (decide (Mv<0))) else some false))).bind λDH =>
 ((bif DH then
 (mR lL.1 k4.At k4.Name).bind λnB =>
 some nB
 else
 some lL.1)).bind λF6 =>
 some F6).bind λF5 =>
 some (.inl (F5,aM (lL.2+1)))
 else
 some (.inr lL.1))) (mf.1,0)).bind λrj =>
 some (.inl (rj,aM (mf.2+1)))
 else
 some (.inr mf.1))) (cU,0)).bind λbL =>
 ((bif decide (b5.2={ data:=#[] }) then
 (idx a0.e1 0).bind λHj =>
 some Hj.Left
 else
 some b5.2)).bind λuY =>
 (pD bL uY).bind λhQ =>
 (cI (R:=cC) (λ(mS:cC × Int) =>
 (bif decide (mS.2<(a0.e1.length:Int)) then
 (cI (R:=cC) (λ(lM:cC × Int) =>
 (idx a0.e1 mS.2).bind λMw =>
 (bif decide (lM.2<(Mw.gZ.length:Int)) then
 (idx a0.e1 mS.2).bind λxL =>
 (idx a0.e1 mS.2).bind λHk =>
 (idx Hk.gZ lM.2).bind λo1 =>
 (q4 lM.1 xL.Left o1).bind λiF =>
 some (.inl (iF,aM (lM.2+1)))
 else
 some (.inr lM.1))) (mS.1,0)).bind λxK =>
 some (.inl (xK,aM (mS.2+1)))
 else
 some (.inr mS.1))) ((⟨(⟨bL.aq.aX,bL.aq.bt,[(⟨0,[aM (1001+hQ)],(-1),{ data:=#[] },([]:List Int),0⟩:Prod)],bL.aq.bw,bL.aq.bz⟩:bR),bL.bT,bL.bN,bL.bA,bL.b',bL.cb,bL.ca,bL.bO,bL.bx⟩:cC),0)).bind λaZ =>
 (bif !decide (aZ.b'=0) then
 some ((⟨([]:List bC),([]:List eH),([]:List Prod),{ data:=#[] },{ data:=#[] }⟩:bR),aZ.b',aZ.cb,aZ.ca)
 else
 (cI (R:=List eH) (λ(mg:List eH × Int) =>
 (bif decide (mg.2<(aZ.bA.length:Int)) then
 (idx aZ.bA mg.2).bind λlQ =>
 (xv (⟨(⟨aZ.aq.aX,mg.1,aZ.aq.aW,aZ.aq.bw,aZ.aq.bz⟩:bR),aZ.bT,aZ.bN,aZ.bA,aZ.b',aZ.cb,aZ.ca,aZ.bO,aZ.bx⟩:cC) lQ).bind λvD =>
 ((bif decide (0<=vD) then
 (idx aZ.bN vD).bind λC8 =>
 some C8.Tag
 else
 some ({ data:=#[] }))).bind λpx =>
 (eI mg.1 [(⟨lQ,px⟩:eH)]).bind λMx =>
 some (.inl (mg.1++[(⟨lQ,px⟩:eH)],aM (mg.2+1)))
 else
 some (.inr mg.1))) ([(⟨{ data:=#[36,97,99,99,101,112,116] },{ data:=#[] }⟩:eH)],0)).bind λtG =>
 (cI (R:=List eH) (λ(nv:List eH × Int) =>
 (bif decide (nv.2<=aZ.bx) then
 (Ah nv.2).bind λC9 =>
 (rE ({ data:=#[64] }) C9).bind λqx =>
 (eI nv.1 [(⟨qx,{ data:=#[] }⟩:eH)]).bind λMy =>
 some (.inl (nv.1++[(⟨qx,{ data:=#[] }⟩:eH)],aM (nv.2+1)))
 else
 some (.inr nv.1))) (tG,1)).bind λiG =>
 (cI (R:=List bC) (λ(iq:List bC × Int × Int) =>
 (bif decide (iq.2.2<(iq.1.length:Int)) then
 ((idx aZ.bT iq.2.2).bind λHf =>
 ((bif !Hf then
 (idx iq.1 iq.2.2).bind λk3 =>
 some (iq.1.set iq.2.2.toNat (⟨k3.Name,k3.Lit,iq.2.1,k3.Level,k3.eN,k3.Tag⟩:bC),aM (iq.2.1+1))
 else
 some (iq.1,iq.2.1))).bind λzn =>
 some (zn.1,zn.2)).bind λzq =>
 some (.inl (zq.1,zq.2,aM (iq.2.2+1)))
 else
 some (.inr iq.1))) (aZ.aq.aX,57346,3)).bind λj9 =>
 ((bif decide (40<(j9.length:Int)) then some true else (bif decide (24<(iG.length:Int)) then some true else some (decide (60<(aZ.aq.aW.length:Int)))))).bind λqI =>
 (cI (R:=Bool) (λ(q7:Bool × Int) =>
 (bif decide (q7.2<(aZ.aq.aW.length:Int)) then
 ((bif q7.1 then some true else ((idx aZ.aq.aW q7.2).bind λHg=>some (decide (8<(Hg.e7.length:Int)))))).bind λDC =>
 some (.inl (DC,aM (q7.2+1)))
 else
 some (.inr q7.1))) (qI,0)).bind λxI =>
 (bif xI then
 some ((⟨([]:List bC),([]:List eH),([]:List Prod),{ data:=#[] },{ data:=#[] }⟩:bR),4,0,{ data:=#[] })
 else
 some ((⟨j9,iG,aZ.aq.aW,a0.bw,a0.bz⟩:bR),0,0,{ data:=#[] }))))
def xq (a0:Source):Option (bR × Bool) :=
 (vi a0).bind λaH =>
 some (aH.1,decide (aH.2.1=0))
def oW (a0:(List Int)) (ar:Int):Option ((List Int)) :=
 (cI (R:=Int) (λ(s1:Int) =>
 ((bif decide (0<s1) then ((idx a0 (aM (s1 - 1))).bind λb5=>some (decide (ar<b5))) else some false)).bind λua =>
 (bif ua then
 some (.inl (aM (s1 - 1)))
 else
 some (.inr s1))) (a0.length:Int)).bind λx2 =>
 ((bif decide (0<x2) then ((idx a0 (aM (x2 - 1))).bind λcu=>some (decide (cu=ar))) else some false)).bind λja =>
 (bif ja then
 some a0
 else
 (pK a0 0 x2).bind λcL =>
 (eI ([]:List Int) cL).bind λdG =>
 (eI (([]:List Int)++cL) [ar]).bind λdS =>
 (pK a0 x2 a0.length).bind λeg =>
 (eI ((([]:List Int)++cL)++[ar]) eg).bind λcm =>
 some ((([]:List Int)++cL)++[ar]++eg))
def xr (a0:(List Int)) (ar:Int):Option (Bool) :=
 (cI (R:=(Unit) ⊕ (Bool)) (λ(s1:Int) =>
 (bif decide (s1<(a0.length:Int)) then
 (idx a0 s1).bind λbF =>
 (bif decide (bF=ar) then
 some (.inr (.inr true))
 else
 some (.inl (aM (s1+1))))
 else
 some (.inr (.inl ())))) 0).bind λx2 =>
 (match x2 with
 | .inl a6 =>
 some false
 | .inr bX =>
 some bX)
def Ab (a0:bR):Option ((List Int)) :=
 (cI (R:=List Int) (λ(s1:List Int × Int) =>
 (bif decide (s1.2<(a0.aX.length:Int)) then
 (eI s1.1 [s1.2]).bind λb5 =>
 some (.inl (s1.1++[s1.2],aM (s1.2+1)))
 else
 some (.inr s1.1))) (([]:List Int),0)).bind λx2 =>
 (cI (R:=List Int) (λ(cW:List Int × Int) =>
 (bif decide (cW.2<(a0.bt.length:Int)) then
 (eI cW.1 [aM (1000+cW.2)]).bind λbQ =>
 some (.inl (cW.1++[aM (1000+cW.2)],aM (cW.2+1)))
 else
 some (.inr cW.1))) (x2,0)).bind λbj =>
 some bj
structure Item where
 Prod:Int
 dw:Int
 deriving DecidableEq,Inhabited
def xe (a0:bR) (ar:Item):Option (Bool) :=
 ((bif decide (0<=ar.Prod) then (bif decide (ar.Prod<(a0.aW.length:Int)) then (bif decide (0<=ar.dw) then ((idx a0.aW ar.Prod).bind λbX=>some (decide (ar.dw<=(bX.e7.length:Int)))) else some false) else some false) else some false)).bind λlq =>
 some lq
def vk (a0:bR) (ar:Item):Option (Int) :=
 (((xe a0 ar).bind λaH=>(bif !aH then some true else ((idx a0.aW ar.Prod).bind λa6=>some (decide (ar.dw=(a6.e7.length:Int))))))).bind λc4 =>
 (bif c4 then
 some (-1)
 else
 (idx a0.aW ar.Prod).bind λbF =>
 (idx bF.e7 ar.dw).bind λbj =>
 some bj)
def c8:cv Item:=⟨2,λx=>[j x.Prod,j x.dw],λ_=>rfl,λ_=>eG.bE⟩
instance:Flat c8:=⟨λ_=>rfl⟩
instance:ll c8:=⟨λx=>(inferInstance:jE [j x.Prod,j x.dw])⟩
instance:gT c8 c8:=⟨rfl,λx=>(inferInstance:dE [j x.Prod,j x.dw] [j x.Prod,j x.dw])⟩
def u7 (a0:(List Item)) (ar:Item):Option ((List Item)) :=
 (cI (R:=Int) (λ(s1:Int) =>
 ((bif decide (0<s1) then ((idx a0 (aM (s1 - 1))).bind λb5=>(bif decide (ar.Prod<b5.Prod) then some true else ((idx a0 (aM (s1 - 1))).bind λbj=>(bif decide (bj.Prod=ar.Prod) then ((idx a0 (aM (s1 - 1))).bind λcu=>some (decide (ar.dw<cu.dw))) else some false)))) else some false)).bind λja =>
 (bif ja then
 some (.inl (aM (s1 - 1)))
 else
 some (.inr s1))) (a0.length:Int)).bind λx2 =>
 ((bif decide (0<x2) then ((idx a0 (aM (x2 - 1))).bind λdG=>some (decide (dG.Prod=ar.Prod)&&(decide (dG.dw=ar.dw)&&true))) else some false)).bind λya =>
 (bif ya then
 some a0
 else
 (pK a0 0 x2).bind λcm =>
 (eI ([]:List Item) cm).bind λb7 =>
 (eI (([]:List Item)++cm) [ar]).bind λff =>
 (pK a0 x2 a0.length).bind λgL =>
 (eI ((([]:List Item)++cm)++[ar]) gL).bind λeZ =>
 some ((([]:List Item)++cm)++[ar]++gL))
def zO (a0:bR) (ar:(List Item)):Option ((List Item)) :=
 (cI (R:=List Item) (λ(s1:List Item × Int) =>
 (bif decide (s1.2<(ar.length:Int)) then
 ((idx ar s1.2).bind λbF =>
 (xe a0 bF).bind λbj =>
 ((bif bj then
 (idx ar s1.2).bind λbQ =>
 (u7 s1.1 bQ).bind λcy =>
 some cy
 else
 some s1.1)).bind λjk =>
 some jk).bind λla =>
 some (.inl (la,aM (s1.2+1)))
 else
 some (.inr s1.1))) (([]:List Item),0)).bind λx2 =>
 some x2
def vj (a0:bR) (ar:(List Item)):Option ((List Item)) :=
 (zO a0 ar).bind λaH =>
 (cI (R:=List Item) (λ(s2:List Item × Int) =>
 (bif !decide (s2.2=(s2.1.length:Int)) then
 (((cI (R:=List Item) (λ(cJ:List Item × Int) =>
 (bif decide (cJ.2<(s2.1.length:Int)) then
 (idx cJ.1 cJ.2).bind λcL =>
 (vk a0 cL).bind λdG =>
 (cI (R:=List Item) (λ(hY:List Item × Int) =>
 ((bif decide (hY.2<(a0.aW.length:Int)) then some (decide (1000<=dG)) else some false)).bind λpQ =>
 (bif pQ then
 ((idx a0.aW hY.2).bind λfP =>
 ((bif decide (fP.Left=aM (dG - 1000)) then
 (u7 hY.1 (⟨hY.2,0⟩:Item)).bind λfR =>
 some fR
 else
 some hY.1)).bind λnn =>
 some nn).bind λzo =>
 some (.inl (zo,aM (hY.2+1)))
 else
 some (.inr hY.1))) (cJ.1,0)).bind λeg =>
 (bif !decide ((eg.length:Int)=(s2.1.length:Int)) then
 some (.inr eg)
 else
 some (.inl (eg,aM (cJ.2+1))))
 else
 some (.inr cJ.1))) (s2.1,0)).bind λcu =>
 some cu).bind λnp =>
 some (np,(s2.1.length:Int))).bind λiV =>
 some (.inl (iV.1,iV.2))
 else
 some (.inr s2.1))) (aH,(-1))).bind λa6 =>
 some a6
def Ac (a0:bR) (ar:(List Item)) (a2:Int):Option ((List Item)) :=
 (vj a0 ar).bind λaH =>
 (cI (R:=List Item) (λ(s2:List Item × Int) =>
 (bif decide (s2.2<(aH.length:Int)) then
 ((idx aH s2.2).bind λbj =>
 (vk a0 bj).bind λb4 =>
 ((bif decide (0<=b4) then some (decide (b4=a2)) else some false)).bind λja =>
 ((bif ja then
 (idx aH s2.2).bind λdG =>
 (idx aH s2.2).bind λdS =>
 (u7 s2.1 (⟨dG.Prod,aM (dS.dw+1)⟩:Item)).bind λeg =>
 some eg
 else
 some s2.1)).bind λgG =>
 some gG).bind λiV =>
 some (.inl (iV,aM (s2.2+1)))
 else
 some (.inr s2.1))) (([]:List Item),0)).bind λa6 =>
 some a6
def zP (a0:(List Item)) (ar:(List Item)):Option (Bool) :=
 (bif !decide ((a0.length:Int)=(ar.length:Int)) then
 some false
 else
 (cI (R:=(Unit) ⊕ (Bool)) (λ(s2:Int) =>
 (bif decide (s2<(a0.length:Int)) then
 (idx a0 s2).bind λbj =>
 (idx ar s2).bind λb4 =>
 (bif !(decide (bj.Prod=b4.Prod)&&(decide (bj.dw=b4.dw)&&true)) then
 some (.inr (.inr false))
 else
 some (.inl (aM (s2+1))))
 else
 some (.inr (.inl ())))) 0).bind λa6 =>
 (match a6 with
 | .inl bX =>
 some true
 | .inr b5 =>
 some b5))
structure Move where
 Sym:Int
 g_:Int
 deriving DecidableEq,Inhabited
structure State where
 Kernel:(List Item)
 c9:(List Move)
 deriving DecidableEq,Inhabited
def h3:cv Move:=⟨2,λx=>[j x.Sym,j x.g_],λ_=>rfl,λ_=>eG.bE⟩
instance:Flat h3:=⟨λ_=>rfl⟩
instance:ll h3:=⟨λx=>(inferInstance:jE [j x.Sym,j x.g_])⟩
instance:gT h3 h3:=⟨rfl,λx=>(inferInstance:dE [j x.Sym,j x.g_] [j x.Sym,j x.g_])⟩
def ct:cv State:=⟨2,λx=>[aj c8 x.Kernel,aj h3 x.c9],λ_=>rfl,λ_=>eG.bE⟩
instance:Flat ct:=⟨λ_=>rfl⟩
instance:gT ct ct:=⟨rfl,λx=>(inferInstance:dE [aj c8 x.Kernel,aj h3 x.c9] [aj c8 x.Kernel,aj h3 x.c9])⟩
def Ad (a0:(List State)) (ar:(List Item)):Option (Int) :=
 (cI (R:=(Unit) ⊕ (Int)) (λ(s1:Int) =>
 (bif decide (s1<(a0.length:Int)) then
 (idx a0 s1).bind λbF =>
 (zP bF.Kernel ar).bind λbj =>
 (bif bj then
 some (.inr (.inr s1))
 else
 some (.inl (aM (s1+1))))
 else
 some (.inr (.inl ())))) 0).bind λx2 =>
 (match x2 with
 | .inl a6 =>
 some (-1)
 | .inr bX =>
 some bX)
def gh:cv State:=⟨2,λx=>[aj c8 x.Kernel,al h3 x.c9],λ_=>rfl,λ_=>eG.bE⟩
instance:gT gh ct:=⟨rfl,λx=>(inferInstance:dE [aj c8 x.Kernel,al h3 x.c9] [aj c8 x.Kernel,aj h3 x.c9])⟩
def vh (a0:bR):Option ((List State) × Int) :=
 (Ab a0).bind λaH =>
 (cI (R:=(List State) ⊕ (List State × Int)) (λ(s2:List State × Int) =>
 (bif decide (s2.2<(s2.1.length:Int)) then
 (idx s2.1 s2.2).bind λbj =>
 (vj a0 bj.Kernel).bind λb4 =>
 (cI (R:=List Int) (λ(lN:List Int × Int) =>
 (bif decide (lN.2<(b4.length:Int)) then
 ((idx b4 lN.2).bind λdS =>
 (vk a0 dS).bind λeg =>
 ((bif decide (0<=eg) then
 (oW lN.1 eg).bind λff =>
 some ff
 else
 some lN.1)).bind λqf =>
 some qf).bind λiU =>
 some (.inl (iU,aM (lN.2+1)))
 else
 some (.inr lN.1))) (([]:List Int),0)).bind λbQ =>
 (cI (R:=(List State) ⊕ (List State × Int)) (λ(dX:List State × Int) =>
 (bif decide (dX.2<(aH.length:Int)) then
 (idx aH dX.2).bind λfR =>
 (xr bQ fR).bind λe0 =>
 (bif !e0 then
 some (.inl (dX.1,aM (dX.2+1)))
 else
 (idx dX.1 s2.2).bind λfB =>
 (idx aH dX.2).bind λcU =>
 (Ac a0 fB.Kernel cU).bind λeB =>
 (Ad dX.1 eB).bind λic =>
 (bif decide (ic<0) then
 (bif decide ((dX.1.length:Int)=150) then
 some (.inr (.inr (([]:List State),4)))
 else
 (eI dX.1 [(⟨eB,([]:List Move)⟩:State)]).bind λkN =>
 (idx (dX.1++[(⟨eB,([]:List Move)⟩:State)]) s2.2).bind λgf =>
 (idx aH dX.2).bind λfG =>
 (eI gf.c9 [(⟨fG,(dX.1.length:Int)⟩:Move)]).bind λie =>
 some (.inl ((dX.1++[(⟨eB,([]:List Move)⟩:State)]).set s2.2.toNat (⟨gf.Kernel,gf.c9++[(⟨fG,(dX.1.length:Int)⟩:Move)]⟩:State),aM (dX.2+1))))
 else
 (idx dX.1 s2.2).bind λh0 =>
 (idx aH dX.2).bind λc3 =>
 (eI h0.c9 [(⟨c3,ic⟩:Move)]).bind λiv =>
 some (.inl (dX.1.set s2.2.toNat (⟨h0.Kernel,h0.c9++[(⟨c3,ic⟩:Move)]⟩:State),aM (dX.2+1)))))
 else
 some (.inr (.inl dX.1)))) (s2.1,0)).bind λeZ =>
 (match eZ with
 | .inl fP =>
 some (.inl (fP,aM (s2.2+1)))
 | .inr gQ =>
 some (.inr (.inr (gQ.1,gQ.2))))
 else
 some (.inr (.inl s2.1)))) ([(⟨[(⟨0,0⟩:Item)],([]:List Move)⟩:State)],0)).bind λa6 =>
 (match a6 with
 | .inl bX =>
 some (bX,0)
 | .inr b5 =>
 some (b5.1,b5.2))
def xn (a0:Source):Option (bR × (List State) × Bool) :=
 (xq a0).bind λaH =>
 (bif !aH.2 then
 some (aH.1,([]:List State),false)
 else
 (vh aH.1).bind λa6 =>
 some (aH.1,a6.1,decide (a6.2=0)))
def pC (a0:(List State)) (ar:Int) (a2:Int):Option (Int) :=
 (cI (R:=(Unit) ⊕ (Int)) (λ(s1:Int) =>
 ((bif decide (0<=ar) then (bif decide (ar<(a0.length:Int)) then ((idx a0 ar).bind λbj=>some (decide (s1<(bj.c9.length:Int)))) else some false) else some false)).bind λom =>
 (bif om then
 (idx a0 ar).bind λbQ =>
 (idx bQ.c9 s1).bind λcy =>
 (bif decide (cy.Sym=a2) then
 (idx a0 ar).bind λdG =>
 (idx dG.c9 s1).bind λdS =>
 some (.inr (.inr dS.g_))
 else
 some (.inl (aM (s1+1))))
 else
 some (.inr (.inl ())))) 0).bind λx2 =>
 (match x2 with
 | .inl a6 =>
 some (-1)
 | .inr bX =>
 some bX)
structure Cell where
 State:Int
 bC:Int
 fg:Int
 gR:Bool
 aW:(List Int)
 deriving DecidableEq,Inhabited
def eU:cv Cell:=⟨5,λx=>[j x.State,j x.bC,j x.fg,bk x.gR,aj aG x.aW],λ_=>rfl,λ_=>eG.bE⟩
instance:Flat eU:=⟨λ_=>rfl⟩
instance:gT eU eU:=⟨rfl,λx=>(inferInstance:dE [j x.State,j x.bC,j x.fg,bk x.gR,aj aG x.aW] [j x.State,j x.bC,j x.fg,bk x.gR,aj aG x.aW])⟩
instance {x:Cell}:dE (eU.cells x) [j x.State,j x.bC,j x.fg,bk x.gR,aj aG x.aW]:=(inferInstance:dE [j x.State,j x.bC,j x.fg,bk x.gR,aj aG x.aW] [j x.State,j x.bC,j x.fg,bk x.gR,aj aG x.aW])
def xp (a0:Cell):Option (Int) :=
 ((bif decide (0<=a0.fg) then
 some (aM ((a0.aW.length:Int)+1))
 else
 some (a0.aW.length:Int))).bind λhN =>
 ((bif a0.gR then
 some (aM (hN+1))
 else
 some hN)).bind λdd =>
 some dd
structure jP where
 State:Int
 Prod:Int
 aX:(List Int)
 deriving DecidableEq,Inhabited
def hs:cv jP:=⟨3,λx=>[j x.State,j x.Prod,aj aG x.aX],λ_=>rfl,λ_=>eG.bE⟩
instance:Flat hs:=⟨λ_=>rfl⟩
instance:gT hs hs:=⟨rfl,λx=>(inferInstance:dE [j x.State,j x.Prod,aj aG x.aX] [j x.State,j x.Prod,aj aG x.aX])⟩
instance {x:jP}:dE (hs.cells x) [j x.State,j x.Prod,aj aG x.aX]:=(inferInstance:dE [j x.State,j x.Prod,aj aG x.aX] [j x.State,j x.Prod,aj aG x.aX])
def ve (a0:bR) (ar:(List State)) (a2:(List jP)):Option ((List Cell)) :=
 (cI (R:=List Cell) (λ(s1:List Cell × Int) =>
 (bif decide (s1.2<(ar.length:Int)) then
 (cI (R:=List Cell) (λ(cz:List Cell × Int) =>
 (bif decide (cz.2<(a0.aX.length:Int)) then
 ((pC ar s1.2 cz.2).bind λbQ =>
 (cI (R:=Bool) (λ(e6:Bool × Int) =>
 (idx ar s1.2).bind λdS =>
 (bif decide (e6.2<(dS.Kernel.length:Int)) then
 (idx ar s1.2).bind λcm =>
 (idx cm.Kernel e6.2).bind λb7 =>
 ((bif e6.1 then some true else (bif decide (cz.2=0) then (bif decide (b7.Prod=0) then some (decide (b7.dw=1)) else some false) else some false))).bind λsI =>
 some (.inl (sI,aM (e6.2+1)))
 else
 some (.inr e6.1))) (false,0)).bind λcL =>
 (cI (R:=List Int) (λ(hn:List Int × Int) =>
 (bif decide (hn.2<(a2.length:Int)) then
 ((((idx a2 hn.2).bind λfB=>(bif decide (fB.State=s1.2) then ((idx a2 hn.2).bind λeB=>((xr eB.aX cz.2).bind λic=>some ic)) else some false))).bind λrD =>
 ((bif rD then
 (idx a2 hn.2).bind λgf =>
 (oW hn.1 gf.Prod).bind λfG =>
 some fG
 else
 some hn.1)).bind λnX =>
 some nX).bind λdZ =>
 some (.inl (dZ,aM (hn.2+1)))
 else
 some (.inr hn.1))) (([]:List Int),0)).bind λfQ =>
 (xp (⟨s1.2,cz.2,bQ,cL,fQ⟩:Cell)).bind λie =>
 ((bif decide (0<ie) then
 (eI cz.1 [(⟨s1.2,cz.2,bQ,cL,fQ⟩:Cell)]).bind λiv =>
 some (cz.1++[(⟨s1.2,cz.2,bQ,cL,fQ⟩:Cell)])
 else
 some cz.1)).bind λF2 =>
 some F2).bind λoP =>
 some (.inl (oP,aM (cz.2+1)))
 else
 some (.inr cz.1))) (s1.1,0)).bind λbF =>
 some (.inl (bF,aM (s1.2+1)))
 else
 some (.inr s1.1))) (([]:List Cell),0)).bind λx2 =>
 some x2
def xt (a0:(List (List Int))) (ar:(List (List Int))):Option ((List (List Int))) :=
 (cI (R:=List (List Int)) (λ(s1:List (List Int) × Bool) =>
 (bif s1.2 then
 (cI (R:=List (List Int) × Bool) (λ(cz:List (List Int) × Bool × Int) =>
 (bif decide (cz.2.2<(cz.1.length:Int)) then
 (idx ar cz.2.2).bind λcu =>
 (idx cz.1 cz.2.2).bind λbQ =>
 (cI (R:=List (List Int)) (λ(e6:List (List Int) × Int) =>
 (bif decide (e6.2<(cu.length:Int)) then
 (cI (R:=List (List Int)) (λ(iE:List (List Int) × Int) =>
 (idx cu e6.2).bind λff =>
 (idx iE.1 ff).bind λgL =>
 (bif decide (iE.2<(gL.length:Int)) then
 (idx iE.1 cz.2.2).bind λfP =>
 (idx cu e6.2).bind λgQ =>
 (idx iE.1 gQ).bind λfQ =>
 (idx fQ iE.2).bind λfR =>
 (oW fP fR).bind λe0 =>
 some (.inl (iE.1.set cz.2.2.toNat e0,aM (iE.2+1)))
 else
 some (.inr iE.1))) (e6.1,0)).bind λcm =>
 some (.inl (cm,aM (e6.2+1)))
 else
 some (.inr e6.1))) (cz.1,0)).bind λcL =>
 ((bif cz.2.1 then some true else ((idx cL cz.2.2).bind λfB=>some (!decide ((fB.length:Int)=(bQ.length:Int)))))).bind λwk =>
 some (.inl (cL,wk,aM (cz.2.2+1)))
 else
 some (.inr (cz.1,cz.2.1)))) (s1.1,false,0)).bind λbF =>
 some (.inl (bF.1,bF.2))
 else
 some (.inr s1.1))) (a0,true)).bind λx2 =>
 some x2
structure Trans where
 State:Int
 eH:Int
 deriving DecidableEq,Inhabited
def fD:cv Trans:=⟨2,λx=>[j x.State,j x.eH],λ_=>rfl,λ_=>eG.bE⟩
instance:Flat fD:=⟨λ_=>rfl⟩
instance:ll fD:=⟨λx=>(inferInstance:jE [j x.State,j x.eH])⟩
instance:gT fD fD:=⟨rfl,λx=>(inferInstance:dE [j x.State,j x.eH] [j x.State,j x.eH])⟩
def oX (a0:(List State)):Option ((List Trans)) :=
 (cI (R:=List Trans) (λ(s1:List Trans × Int) =>
 (bif decide (s1.2<(a0.length:Int)) then
 (cI (R:=List Trans) (λ(cz:List Trans × Int) =>
 (idx a0 s1.2).bind λb4 =>
 (bif decide (cz.2<(b4.c9.length:Int)) then
 ((idx a0 s1.2).bind λcy =>
 (idx cy.c9 cz.2).bind λcL =>
 ((bif decide (1000<=cL.Sym) then
 (idx a0 s1.2).bind λeg =>
 (idx eg.c9 cz.2).bind λcm =>
 (eI cz.1 [(⟨s1.2,cm.Sym⟩:Trans)]).bind λb7 =>
 some (cz.1++[(⟨s1.2,cm.Sym⟩:Trans)])
 else
 some cz.1)).bind λiU =>
 some iU).bind λl' =>
 some (.inl (l',aM (cz.2+1)))
 else
 some (.inr cz.1))) (s1.1,0)).bind λbF =>
 some (.inl (bF,aM (s1.2+1)))
 else
 some (.inr s1.1))) (([]:List Trans),0)).bind λx2 =>
 some x2
def zQ (a0:(List Item)):Option (Bool) :=
 (cI (R:=(Unit) ⊕ (Bool)) (λ(s1:Int) =>
 (bif decide (s1<(a0.length:Int)) then
 (((idx a0 s1).bind λbF=>(bif decide (bF.Prod=0) then ((idx a0 s1).bind λb4=>some (decide (b4.dw=1))) else some false))).bind λoo =>
 (bif oo then
 some (.inr (.inr true))
 else
 some (.inl (aM (s1+1))))
 else
 some (.inr (.inl ())))) 0).bind λx2 =>
 (match x2 with
 | .inl a6 =>
 some false
 | .inr bX =>
 some bX)
def Ae (a0:(List State)):Option ((List (List Int))) :=
 (oX a0).bind λaH =>
 (cI (R:=List (List Int)) (λ(s2:List (List Int) × Int) =>
 (bif decide (s2.2<(aH.length:Int)) then
 (idx aH s2.2).bind λbF =>
 (idx aH s2.2).bind λbj =>
 (pC a0 bF.State bj.eH).bind λb4 =>
 (idx a0 b4).bind λcu =>
 (zQ cu.Kernel).bind λbQ =>
 ((bif bQ then
 (eI ([]:List Int) [0]).bind λdG =>
 some [0]
 else
 some ([]:List Int))).bind λgG =>
 (cI (R:=List Int) (λ(hY:List Int × Int) =>
 (idx a0 b4).bind λb7 =>
 (bif decide (hY.2<(b7.c9.length:Int)) then
 ((idx a0 b4).bind λeZ =>
 (idx eZ.c9 hY.2).bind λfP =>
 ((bif decide (fP.Sym<1000) then
 (idx a0 b4).bind λfR =>
 (idx fR.c9 hY.2).bind λe0 =>
 (oW hY.1 e0.Sym).bind λiY =>
 some iY
 else
 some hY.1)).bind λnn =>
 some nn).bind λfx =>
 some (.inl (fx,aM (hY.2+1)))
 else
 some (.inr hY.1))) (gG,0)).bind λeg =>
 (eI s2.1 [eg]).bind λfB =>
 some (.inl (s2.1++[eg],aM (s2.2+1)))
 else
 some (.inr s2.1))) (([]:List (List Int)),0)).bind λa6 =>
 some a6
def xh (a0:(List Bool)) (ar:(List Int)):Option (Bool) :=
 (cI (R:=(Unit) ⊕ (Bool)) (λ(s1:Int) =>
 (bif decide (s1<(ar.length:Int)) then
 (((idx ar s1).bind λbF=>(bif decide (bF<1000) then some true else ((idx ar s1).bind λb4=>((idx a0 (aM (b4 - 1000))).bind λcu=>some (!cu)))))).bind λja =>
 (bif ja then
 some (.inr (.inr false))
 else
 some (.inl (aM (s1+1))))
 else
 some (.inr (.inl ())))) 0).bind λx2 =>
 (match x2 with
 | .inl a6 =>
 some true
 | .inr bX =>
 some bX)
def xf (a0:bR):Option ((List Bool)) :=
 (oS (a0.bt.length:Int) false).bind λaH =>
 (cI (R:=List Bool) (λ(s2:List Bool × Bool) =>
 (bif s2.2 then
 (cI (R:=List Bool × Bool) (λ(cW:List Bool × Bool × Int) =>
 (bif decide (cW.2.2<(a0.aW.length:Int)) then
 ((idx a0.aW cW.2.2).bind λcy =>
 (((idx cW.1 cy.Left).bind λcL=>(bif !cL then ((xh cW.1 cy.e7).bind λdS=>some dS) else some false))).bind λsH =>
 ((bif sH then
 (idx cW.1 cy.Left).bind λff =>
 some (cW.1.set cy.Left.toNat true,true)
 else
 some (cW.1,cW.2.1))).bind λqf =>
 some (qf.1,qf.2)).bind λl' =>
 some (.inl (l'.1,l'.2,aM (cW.2.2+1)))
 else
 some (.inr (cW.1,cW.2.1)))) (s2.1,false,0)).bind λbj =>
 some (.inl (bj.1,bj.2))
 else
 some (.inr s2.1))) (aH,true)).bind λa6 =>
 some a6
def xg (a0:(List Trans)) (ar:Int) (a2:Int):Option (Int) :=
 (cI (R:=(Unit) ⊕ (Int)) (λ(s1:Int) =>
 (bif decide (s1<(a0.length:Int)) then
 (((idx a0 s1).bind λbF=>(bif decide (bF.State=ar) then ((idx a0 s1).bind λb4=>some (decide (b4.eH=a2))) else some false))).bind λoo =>
 (bif oo then
 some (.inr (.inr s1))
 else
 some (.inl (aM (s1+1))))
 else
 some (.inr (.inl ())))) 0).bind λx2 =>
 (match x2 with
 | .inl a6 =>
 some (-1)
 | .inr bX =>
 some bX)
def Af (a0:bR) (ar:(List State)):Option ((List (List Int))) :=
 (oX ar).bind λaH =>
 (xf a0).bind λx2 =>
 (cI (R:=List (List Int)) (λ(dV:List (List Int) × Int) =>
 (bif decide (dV.2<(aH.length:Int)) then
 (idx aH dV.2).bind λbj =>
 (idx aH dV.2).bind λb4 =>
 (pC ar bj.State b4.eH).bind λcu =>
 (cI (R:=List Int) (λ(me:List Int × Int) =>
 (idx ar cu).bind λdG =>
 (bif decide (me.2<(dG.c9.length:Int)) then
 ((idx ar cu).bind λcm =>
 (idx cm.c9 me.2).bind λb7 =>
 ((bif decide (1000<=b7.Sym) then ((idx x2 (aM (b7.Sym - 1000))).bind λgL=>some gL) else some false)).bind λt' =>
 ((bif t' then
 (xg aH cu b7.Sym).bind λfQ =>
 (oW me.1 fQ).bind λfR =>
 some fR
 else
 some me.1)).bind λnW =>
 some nW).bind λpw =>
 some (.inl (pw,aM (me.2+1)))
 else
 some (.inr me.1))) (([]:List Int),0)).bind λcy =>
 (eI dV.1 [cy]).bind λe0 =>
 some (.inl (dV.1++[cy],aM (dV.2+1)))
 else
 some (.inr dV.1))) (([]:List (List Int)),0)).bind λbX =>
 some bX
def xu (a0:(List State)) (ar:Int) (a2:(List Int)):Option (Int) :=
 (cI (R:=Int) (λ(s1:Int × Int) =>
 ((bif decide (s1.2<(a2.length:Int)) then some (decide (0<=s1.1)) else some false)).bind λlq =>
 (bif lq then
 (idx a2 s1.2).bind λbj =>
 (pC a0 s1.1 bj).bind λb4 =>
 some (.inl (b4,aM (s1.2+1)))
 else
 some (.inr s1.1))) (ar,0)).bind λx2 =>
 some x2
def Ag (a0:bR) (ar:(List State)):Option ((List (List Int))) :=
 (oX ar).bind λaH =>
 (xf a0).bind λx2 =>
 (oS (aH.length:Int) ([]:List Int)).bind λa6 =>
 (cI (R:=List (List Int)) (λ(bM:List (List Int) × Int) =>
 (bif decide (bM.2<(aH.length:Int)) then
 (cI (R:=List (List Int)) (λ(cJ:List (List Int) × Int) =>
 (bif decide (cJ.2<(a0.aW.length:Int)) then
 ((idx a0.aW cJ.2).bind λdG =>
 (idx a0.aW cJ.2).bind λdS =>
 (idx aH bM.2).bind λeg =>
 (bif !decide (aM (1000+dS.Left)=eg.eH) then
 some cJ.1
 else
 (cI (R:=List (List Int)) (λ(im:List (List Int) × Int) =>
 (bif decide (im.2<(dG.e7.length:Int)) then
 ((((idx dG.e7 im.2).bind λgQ=>(bif decide (gQ<1000) then some true else ((pK dG.e7 (aM (im.2+1)) dG.e7.length).bind λfR=>((xh x2 fR).bind λe0=>some (!e0)))))).bind λBe =>
 (bif Be then
 some im.1
 else
 (idx aH bM.2).bind λcU =>
 (pK dG.e7 0 im.2).bind λeB =>
 (xu ar cU.State eB).bind λic =>
 ((bif decide (0<=ic) then
 (idx dG.e7 im.2).bind λkN =>
 (xg aH ic kN).bind λgf =>
 ((bif decide (0<=gf) then
 (idx im.1 gf).bind λh0 =>
 (oW h0 bM.2).bind λc3 =>
 some (im.1.set gf.toNat c3)
 else
 some im.1)).bind λF1 =>
 some F1
 else
 some im.1)).bind λoO =>
 some oO)).bind λnW =>
 some (.inl (nW,aM (im.2+1)))
 else
 some (.inr im.1))) (cJ.1,0)).bind λff =>
 some ff)).bind λfq =>
 some (.inl (fq,aM (cJ.2+1)))
 else
 some (.inr cJ.1))) (bM.1,0)).bind λcu =>
 some (.inl (cu,aM (bM.2+1)))
 else
 some (.inr bM.1))) (a6,0)).bind λb5 =>
 some b5
def z_ (a0:bR) (ar:(List State)):Option ((List (List Int))) :=
 (Ae ar).bind λaH =>
 (Af a0 ar).bind λx2 =>
 (xt aH x2).bind λa6 =>
 (Ag a0 ar).bind λbX =>
 (xt a6 bX).bind λb5 =>
 some b5
def z' (a0:bR) (ar:(List Item)):Option ((List Int)) :=
 (vj a0 ar).bind λaH =>
 (cI (R:=List Int) (λ(s2:List Int × Int) =>
 (bif decide (s2.2<(aH.length:Int)) then
 ((((idx aH s2.2).bind λbj=>(bif decide (0<bj.Prod) then ((idx aH s2.2).bind λcu=>((idx aH s2.2).bind λbQ=>((idx a0.aW bQ.Prod).bind λcy=>some (decide (cu.dw=(cy.e7.length:Int)))))) else some false))).bind λt_ =>
 ((bif t_ then
 (idx aH s2.2).bind λeg =>
 (eI s2.1 [eg.Prod]).bind λcm =>
 some (s2.1++[eg.Prod])
 else
 some s2.1)).bind λiU =>
 some iU).bind λiV =>
 some (.inl (iV,aM (s2.2+1)))
 else
 some (.inr s2.1))) (([]:List Int),0)).bind λa6 =>
 some a6
def Aa (a0:bR) (ar:(List State)) (a2:Int) (a3:Int):Option ((List Int)) :=
 ((bif decide (a2<0) then some true else (bif decide ((ar.length:Int)<=a2) then some true else (bif decide (a3<1) then some true else some (decide ((a0.aW.length:Int)<=a3)))))).bind λc4 =>
 (bif c4 then
 some ([]:List Int)
 else
 (oX ar).bind λbF =>
 (cI (R:=List Int) (λ(eE:List Int × Int) =>
 (bif decide (eE.2<(bF.length:Int)) then
 ((((idx bF eE.2).bind λcL=>((idx a0.aW a3).bind λdG=>(bif decide (cL.eH=aM (1000+dG.Left)) then ((idx bF eE.2).bind λeg=>((idx a0.aW a3).bind λcm=>((xu ar eg.State cm.e7).bind λb7=>some (decide (b7=a2))))) else some false)))).bind λpQ =>
 ((bif pQ then
 (eI eE.1 [eE.2]).bind λfP =>
 some (eE.1++[eE.2])
 else
 some eE.1)).bind λfx =>
 some fx).bind λgG =>
 some (.inl (gG,aM (eE.2+1)))
 else
 some (.inr eE.1))) (([]:List Int),0)).bind λb4 =>
 some b4)
def vf (a0:bR) (ar:(List State)):Option ((List jP)) :=
 (z_ a0 ar).bind λaH =>
 (cI (R:=List jP) (λ(s2:List jP × Int) =>
 (bif decide (s2.2<(ar.length:Int)) then
 (idx ar s2.2).bind λbF =>
 (z' a0 bF.Kernel).bind λbj =>
 (cI (R:=List jP) (λ(cJ:List jP × Int) =>
 (bif decide (cJ.2<(bj.length:Int)) then
 (idx bj cJ.2).bind λcL =>
 (idx bj cJ.2).bind λdG =>
 (Aa a0 ar s2.2 dG).bind λdS =>
 (cI (R:=List Int) (λ(iE:List Int × Int) =>
 (bif decide (iE.2<(dS.length:Int)) then
 (cI (R:=List Int) (λ(dX:List Int × Int) =>
 (idx dS iE.2).bind λgQ =>
 (idx aH gQ).bind λfQ =>
 (bif decide (dX.2<(fQ.length:Int)) then
 (idx dS iE.2).bind λe0 =>
 (idx aH e0).bind λiY =>
 (idx iY dX.2).bind λfB =>
 (oW dX.1 fB).bind λcU =>
 some (.inl (cU,aM (dX.2+1)))
 else
 some (.inr dX.1))) (iE.1,0)).bind λeZ =>
 some (.inl (eZ,aM (iE.2+1)))
 else
 some (.inr iE.1))) (([]:List Int),0)).bind λcm =>
 (eI cJ.1 [(⟨s2.2,cL,cm⟩:jP)]).bind λeB =>
 some (.inl (cJ.1++[(⟨s2.2,cL,cm⟩:jP)],aM (cJ.2+1)))
 else
 some (.inr cJ.1))) (s2.1,0)).bind λcu =>
 some (.inl (cu,aM (s2.2+1)))
 else
 some (.inr s2.1))) (([]:List jP),0)).bind λa6 =>
 some a6
def q2 (a0:Source):Option (bR × (List State) × (List Cell) × Bool) :=
 (xn a0).bind λaH =>
 (bif !aH.2.2 then
 some (aH.1,([]:List State),([]:List Cell),false)
 else
 (vf aH.1 aH.2.1).bind λa6 =>
 (ve aH.1 aH.2.1 a6).bind λbX =>
 some (aH.1,aH.2.1,bX,true))
def GB (a0:bR) (ar:Int):Option (Int × Int) :=
 ((bif decide (ar<0) then some true else (bif decide ((a0.aW.length:Int)<=ar) then some true else ((idx a0.aW ar).bind λa6=>some (decide (a6.Prec<0)))))).bind λc4 =>
 (bif c4 then
 some (0,0)
 else
 (idx a0.aW ar).bind λbF =>
 (idx a0.aX bF.Prec).bind λbj =>
 some (bj.Level,bj.eN))
def Gy (a0:bR) (ar:Int) (a2:Int):Option (Int) :=
 (GB a0 ar).bind λaH =>
 ((bif decide (aH.1=0) then some true else (bif decide (a2<0) then some true else (bif decide ((a0.aX.length:Int)<=a2) then some true else ((idx a0.aX a2).bind λb5=>some (decide (b5.Level=0))))))).bind λua =>
 (bif ua then
 some 0
 else
 (idx a0.aX a2).bind λb4 =>
 (bif decide (aH.1<b4.Level) then
 some 1
 else
 (bif decide (b4.Level<aH.1) then
 some 2
 else
 (bif decide (b4.eN=1) then
 some 2
 else
 (bif decide (b4.eN=2) then
 some 1
 else
 some 3)))))
structure eF where
 State:Int
 bC:Int
 gx:Int
 Drop:Int
 deriving DecidableEq,Inhabited
def hb:cv eF:=⟨4,λx=>[j x.State,j x.bC,j x.gx,j x.Drop],λ_=>rfl,λ_=>eG.bE⟩
instance:Flat hb:=⟨λ_=>rfl⟩
instance:ll hb:=⟨λx=>(inferInstance:jE [j x.State,j x.bC,j x.gx,j x.Drop])⟩
instance:gT hb hb:=⟨rfl,λx=>(inferInstance:dE [j x.State,j x.bC,j x.gx,j x.Drop] [j x.State,j x.bC,j x.gx,j x.Drop])⟩
instance {x:eF}:dE (hb.cells x) [j x.State,j x.bC,j x.gx,j x.Drop]:=(inferInstance:dE [j x.State,j x.bC,j x.gx,j x.Drop] [j x.State,j x.bC,j x.gx,j x.Drop])
def CI (a0:bR) (ar:Cell):Option (Act × (List eF)) :=
 (cI (R:=List eF) (λ(s1:List eF × Int) =>
 (bif decide (s1.2<(ar.aW.length:Int)) then
 (idx ar.aW 0).bind λb5 =>
 (idx ar.aW s1.2).bind λbF =>
 (eI s1.1 [(⟨ar.State,ar.bC,b5,bF⟩:eF)]).bind λbj =>
 some (.inl (s1.1++[(⟨ar.State,ar.bC,b5,bF⟩:eF)],aM (s1.2+1)))
 else
 some (.inr s1.1))) (([]:List eF),1)).bind λx2 =>
 ((bif ar.gR then
 some (3,0)
 else
 some (1,ar.fg))).bind λjk =>
 (bif decide ((ar.aW.length:Int)=0) then
 some ((⟨jk.1,jk.2⟩:Act),x2)
 else
 (idx ar.aW 0).bind λcy =>
 ((bif decide (ar.fg<0) then some (!ar.gR) else some false)).bind λoj =>
 (bif oj then
 some ((⟨2,cy⟩:Act),x2)
 else
 (Gy a0 cy ar.bC).bind λeg =>
 ((bif ar.gR then some true else some (decide (eg=0)))).bind λIh =>
 (bif Ih then
 (eI x2 [(⟨ar.State,ar.bC,(-1),cy⟩:eF)]).bind λgL =>
 some ((⟨jk.1,jk.2⟩:Act),x2++[(⟨ar.State,ar.bC,(-1),cy⟩:eF)])
 else
 (bif decide (eg=2) then
 some ((⟨2,cy⟩:Act),x2)
 else
 (bif decide (eg=3) then
 some ((⟨4,0⟩:Act),x2)
 else
 some ((⟨jk.1,jk.2⟩:Act),x2))))))
structure jD where
 eo:(List (List Act))
 dp:(List (List Int))
 deriving DecidableEq,Inhabited
def ds:cv Act:=⟨2,λx=>[j x.Kind,j x.N],λ_=>rfl,λ_=>eG.bE⟩
instance:Flat ds:=⟨λ_=>rfl⟩
instance:ll ds:=⟨λx=>(inferInstance:jE [j x.Kind,j x.N])⟩
instance:gT ds ds:=⟨rfl,λx=>(inferInstance:dE [j x.Kind,j x.N] [j x.Kind,j x.N])⟩
def Gu (a0:bR) (ar:(List State)) (a2:(List Cell)):Option (jD × (List eF)) :=
 (cI (R:=List (List Act) × List (List Int) × List eF) (λ(s1:List (List Act) × List (List Int) × List eF × Int) =>
 (bif decide (s1.2.2.2<(ar.length:Int)) then
 (oS (a0.aX.length:Int) (⟨0,0⟩:Act)).bind λb5 =>
 (cI (R:=List eF × List Act) (λ(cW:List eF × List Act × Int) =>
 (bif decide (cW.2.2<(a2.length:Int)) then
 ((idx a2 cW.2.2).bind λcy =>
 ((bif decide (cy.State=s1.2.2.2) then
 (idx a2 cW.2.2).bind λdS =>
 (CI a0 dS).bind λeg =>
 (idx a2 cW.2.2).bind λcm =>
 (idx cW.2.1 cm.bC).bind λb7 =>
 (eI cW.1 eg.2).bind λff =>
 some (cW.1++eg.2,cW.2.1.set cm.bC.toNat eg.1)
 else
 some (cW.1,cW.2.1))).bind λfq =>
 some (fq.1,fq.2)).bind λl' =>
 some (.inl (l'.1,l'.2,aM (cW.2.2+1)))
 else
 some (.inr (cW.1,cW.2.1)))) (s1.2.2.1,b5,0)).bind λbj =>
 (oS (a0.bt.length:Int) 0).bind λgL =>
 (cI (R:=List Int) (λ(sg:List Int × Int) =>
 (bif decide (sg.2<(sg.1.length:Int)) then
 (pC ar s1.2.2.2 (aM (1000+sg.2))).bind λfR =>
 (idx sg.1 sg.2).bind λe0 =>
 some (.inl (sg.1.set sg.2.toNat fR,aM (sg.2+1)))
 else
 some (.inr sg.1))) (gL,0)).bind λfP =>
 (eI s1.1 [bj.2]).bind λiY =>
 (eI s1.2.1 [fP]).bind λfB =>
 some (.inl (s1.1++[bj.2],s1.2.1++[fP],bj.1,aM (s1.2.2.2+1)))
 else
 some (.inr (s1.1,s1.2.1,s1.2.2.1)))) (([]:List (List Act)),([]:List (List Int)),([]:List eF),0)).bind λx2 =>
 some ((⟨x2.1,x2.2.1⟩:jD),x2.2.2)
def Gw (a0:(List Cell)):Option (Int) :=
 (cI (R:=Int) (λ(s1:Int × Int) =>
 (bif decide (s1.2<(a0.length:Int)) then
 ((idx a0 s1.2).bind λbF =>
 (xp bF).bind λbj =>
 ((bif decide (1<bj) then
 some (aM (s1.1+1))
 else
 some s1.1)).bind λjk =>
 some jk).bind λla =>
 some (.inl (la,aM (s1.2+1)))
 else
 some (.inr s1.1))) (0,0)).bind λx2 =>
 some x2
def Lf (a0:Source):Option (bR × jD × Int × Bool) :=
 (q2 a0).bind λaH =>
 (bif !aH.2.2.2 then
 some (aH.1,(⟨([]:List (List Act)),([]:List (List Int))⟩:jD),0,false)
 else
 (Gu aH.1 aH.2.1 aH.2.2.1).bind λa6 =>
 (Gw aH.2.2.1).bind λbX =>
 some (aH.1,a6.1,bX,true))
structure gy where
 At:Int
 A0:Int
 deriving DecidableEq,Inhabited
def um:cv gy:=⟨2,λx=>[j x.At,j x.A0],λ_=>rfl,λ_=>eG.bE⟩
instance:Flat um:=⟨λ_=>rfl⟩
instance:ll um:=⟨λx=>(inferInstance:jE [j x.At,j x.A0])⟩
instance:gT um um:=⟨rfl,λx=>(inferInstance:dE [j x.At,j x.A0] [j x.At,j x.A0])⟩
structure Row where
 Def:Int
 Dj:(List gy)
 deriving DecidableEq,Inhabited
def D4:cv Row:=⟨2,λx=>[j x.Def,aj um x.Dj],λ_=>rfl,λ_=>eG.bE⟩
instance:Flat D4:=⟨λ_=>rfl⟩
instance:gT D4 D4:=⟨rfl,λx=>(inferInstance:dE [j x.Def,aj um x.Dj] [j x.Def,aj um x.Dj])⟩
def z1 (a0:(List Int)):Option (Int) :=
 (cI (R:=Int) (λ(s1:(List (Int × Int)) × Int × Int) =>
 (bif decide (s1.2.2<(a0.length:Int)) then
 ((idx a0 s1.2.2).bind λbF =>
 (r6 qg 0 s1.1 bF).bind λbj =>
 (zD qg s1.1 bF (aM (bj+1))).bind λb4 =>
 (r6 qg 0 b4 bF).bind λcu =>
 (r6 qg 0 b4 s1.2.1).bind λbQ =>
 ((bif decide (s1.2.1<0) then some true else (bif decide (0<aM (cu - bQ)) then some true else (bif decide (aM (cu - bQ)=0) then some (decide (bF<s1.2.1)) else some false)))).bind λya =>
 ((bif ya then
 some bF
 else
 some s1.2.1)).bind λpw =>
 some (b4,pw)).bind λla =>
 some (.inl (la.1,la.2,aM (s1.2.2+1)))
 else
 some (.inr s1.2.1))) (([]:List (Int × Int)),(-1),0)).bind λx2 =>
 some x2
def Lg (a0:jD):Option ((List Row)) :=
 (cI (R:=List Row) (λ(s1:List Row × Int) =>
 (bif decide (s1.2<(a0.eo.length:Int)) then
 (idx a0.eo s1.2).bind λb5 =>
 (cI (R:=List Int) (λ(cW:List Int × Int) =>
 (bif decide (cW.2<(b5.length:Int)) then
 ((idx b5 cW.2).bind λcy =>
 ((bif decide (cy.Kind=2) then
 (eI cW.1 [cy.N]).bind λdS =>
 some (cW.1++[cy.N])
 else
 some cW.1)).bind λfq =>
 some fq).bind λl' =>
 some (.inl (l',aM (cW.2+1)))
 else
 some (.inr cW.1))) (([]:List Int),0)).bind λbj =>
 (z1 bj).bind λeg =>
 (cI (R:=List gy) (λ(lJ:List gy × Int) =>
 (bif decide (lJ.2<(b5.length:Int)) then
 ((idx b5 lJ.2).bind λfP =>
 ((bif !decide (fP.Kind=0) then (bif !decide (fP.Kind=2) then some true else some (!decide (fP.N=eg))) else some false)).bind λwj =>
 ((bif wj then
 (CG fP).bind λfB =>
 (eI lJ.1 [(⟨lJ.2,fB⟩:gy)]).bind λcU =>
 some (lJ.1++[(⟨lJ.2,fB⟩:gy)])
 else
 some lJ.1)).bind λFZ =>
 some FZ).bind λzo =>
 some (.inl (zo,aM (lJ.2+1)))
 else
 some (.inr lJ.1))) (([]:List gy),0)).bind λb7 =>
 (eI s1.1 [(⟨eg,b7⟩:Row)]).bind λeB =>
 some (.inl (s1.1++[(⟨eg,b7⟩:Row)],aM (s1.2+1)))
 else
 some (.inr s1.1))) (([]:List Row),0)).bind λx2 =>
 some x2
def Li (a0:jD):Option ((List Row)) :=
 (bif decide ((a0.dp.length:Int)=0) then
 some ([]:List Row)
 else
 (idx a0.dp 0).bind λx2 =>
 (cI (R:=List Row) (λ(dV:List Row × Int) =>
 (bif decide (dV.2<(x2.length:Int)) then
 (cI (R:=List Int) (λ(eE:List Int × Int) =>
 (bif decide (eE.2<(a0.dp.length:Int)) then
 ((idx a0.dp eE.2).bind λcL =>
 (idx cL dV.2).bind λdG =>
 ((bif decide (0<=dG) then
 (idx cL dV.2).bind λcm =>
 (eI eE.1 [cm]).bind λb7 =>
 some (eE.1++[cm])
 else
 some eE.1)).bind λdc =>
 some dc).bind λgG =>
 some (.inl (gG,aM (eE.2+1)))
 else
 some (.inr eE.1))) (([]:List Int),0)).bind λb4 =>
 (z1 b4).bind λff =>
 (cI (R:=List gy) (λ(dX:List gy × Int) =>
 (bif decide (dX.2<(a0.dp.length:Int)) then
 ((idx a0.dp dX.2).bind λfR =>
 (((idx fR dV.2).bind λe0=>(bif decide (0<=e0) then ((idx fR dV.2).bind λfB=>some (!decide (fB=ff))) else some false))).bind λwk =>
 ((bif wk then
 (idx fR dV.2).bind λlg =>
 (eI dX.1 [(⟨dX.2,lg⟩:gy)]).bind λgd =>
 some (dX.1++[(⟨dX.2,lg⟩:gy)])
 else
 some dX.1)).bind λuX =>
 some uX).bind λSZ =>
 some (.inl (SZ,aM (dX.2+1)))
 else
 some (.inr dX.1))) (([]:List gy),0)).bind λeZ =>
 (eI dV.1 [(⟨ff,eZ⟩:Row)]).bind λkN =>
 some (.inl (dV.1++[(⟨ff,eZ⟩:Row)],aM (dV.2+1)))
 else
 some (.inr dV.1))) (([]:List Row),0)).bind λbX =>
 some bX)
def ts (a0:Int) (ar:Int):Option (Int) :=
 (Ak a0 ar).bind λaH =>
 ((bif decide (aH<0) then
 some (aM (aH+ar))
 else
 some aH)).bind λFY =>
 some FY
def mQ (a0:Act):Option (Int) :=
 ((bif decide (a0.Kind=1) then (bif decide (0<=a0.N) then some (decide (a0.N<=19999)) else some false) else some false)).bind λlV =>
 (bif lV then
 some (aM (a0.N+1))
 else
 ((bif decide (a0.Kind=2) then (bif decide (1<=a0.N) then some (decide (a0.N<=19999)) else some false) else some false)).bind λpR =>
 (bif pR then
 some (aM (-a0.N))
 else
 ((bif decide (a0.Kind=3) then some (decide (a0.N=0)) else some false)).bind λja =>
 (bif ja then
 some 20001
 else
 ((bif decide (a0.Kind=4) then some (decide (a0.N=0)) else some false)).bind λoj =>
 (bif oj then
 some 20002
 else
 some 0))))
def vc (a0:Int):Option (Act) :=
 ((bif decide (1<=a0) then some (decide (a0<=20000)) else some false)).bind λc2 =>
 (bif c2 then
 some (⟨1,aM (a0 - 1)⟩:Act)
 else
 ((bif decide (a0<=(-1)) then some (decide ((-19999)<=a0)) else some false)).bind λlq =>
 (bif lq then
 some (⟨2,aM (-a0)⟩:Act)
 else
 (bif decide (a0=20001) then
 some (⟨3,0⟩:Act)
 else
 (bif decide (a0=20002) then
 some (⟨4,0⟩:Act)
 else
 some (⟨0,0⟩:Act)))))
def IT:cv Decl:=⟨4,λx=>[j x.Kind,ah x.Tag,al dF x.fh,j x.At],λ_=>rfl,λ_=>eG.bE⟩
instance:gT IT dJ:=⟨rfl,λx=>(inferInstance:dE [j x.Kind,ah x.Tag,al dF x.fh,j x.At] [j x.Kind,ah x.Tag,aj dF x.fh,j x.At])⟩
instance {x:Decl}:dE (IT.cells x) [j x.Kind,ah x.Tag,aj dF x.fh,j x.At]:=(inferInstance:dE [j x.Kind,ah x.Tag,al dF x.fh,j x.At] [j x.Kind,ah x.Tag,aj dF x.fh,j x.At])
structure Mz where
 bt:Int
 e1:(List (List Int))
 vU:(List Int)
 vR:(List Int)
 vH:Bool
 deriving DecidableEq,Inhabited
def Bv:cv Mz:=⟨5,λx=>[j x.bt,aj (bY aG) x.e1,aj aG x.vU,aj aG x.vR,bk x.vH],λ_=>rfl,λ_=>eG.bE⟩
instance:Flat Bv:=⟨λ_=>rfl⟩
instance:gT Bv Bv:=⟨rfl,λx=>(inferInstance:dE [j x.bt,aj (bY aG) x.e1,aj aG x.vU,aj aG x.vR,bk x.vH] [j x.bt,aj (bY aG) x.e1,aj aG x.vU,aj aG x.vR,bk x.vH])⟩
instance {x:Mz}:dE (Bv.cells x) [j x.bt,aj (bY aG) x.e1,aj aG x.vU,aj aG x.vR,bk x.vH]:=(inferInstance:dE [j x.bt,aj (bY aG) x.e1,aj aG x.vU,aj aG x.vR,bk x.vH] [j x.bt,aj (bY aG) x.e1,aj aG x.vU,aj aG x.vR,bk x.vH])
def IV:cv kr:=⟨3,λx=>[ah x.Left,al eD x.gZ,j x.At],λ_=>rfl,λ_=>eG.bE⟩
instance:gT IV hj:=⟨rfl,λx=>(inferInstance:dE [ah x.Left,al eD x.gZ,j x.At] [ah x.Left,aj eD x.gZ,j x.At])⟩
instance {x:kr}:dE (IV.cells x) [ah x.Left,aj eD x.gZ,j x.At]:=(inferInstance:dE [ah x.Left,al eD x.gZ,j x.At] [ah x.Left,aj eD x.gZ,j x.At])
def xm (a0:(List Int)):Option (Int) :=
 (cI (R:=List Int) (λ(s1:List Int × Int) =>
 (bif decide (s1.2<(a0.length:Int)) then
 (idx a0 s1.2).bind λb5 =>
 (oW s1.1 b5).bind λbF =>
 some (.inl (bF,aM (s1.2+1)))
 else
 some (.inr s1.1))) (([]:List Int),0)).bind λx2 =>
 (cI (R:=Int) (λ(eE:Int × Int × Int) =>
 (bif decide (eE.2.2<(x2.length:Int)) then
 ((cI (R:=Int) (λ(xA:Int × Int) =>
 (bif decide (xA.2<(a0.length:Int)) then
 ((idx a0 xA.2).bind λb7 =>
 (idx x2 eE.2.2).bind λff =>
 ((bif decide (b7=ff) then
 some (aM (xA.1+1))
 else
 some xA.1)).bind λfx =>
 some fx).bind λqf =>
 some (.inl (qf,aM (xA.2+1)))
 else
 some (.inr xA.1))) (0,0)).bind λdG =>
 ((bif decide (eE.2.1<dG) then
 (idx x2 eE.2.2).bind λfQ =>
 some (fQ,dG)
 else
 some (eE.1,eE.2.1))).bind λnW =>
 some (nW.1,nW.2)).bind λgG =>
 some (.inl (gG.1,gG.2,aM (eE.2.2+1)))
 else
 some (.inr eE.1))) ((-1),0,0)).bind λb4 =>
 some b4
def Lh (a0:jD):Option ((List Row)) :=
 (cI (R:=List Row) (λ(s1:List Row × Int) =>
 (bif decide (s1.2<(a0.eo.length:Int)) then
 (cI (R:=List Int) (λ(cz:List Int × Int) =>
 (idx a0.eo s1.2).bind λb4 =>
 (bif decide (cz.2<(b4.length:Int)) then
 ((idx a0.eo s1.2).bind λcy =>
 (idx cy cz.2).bind λcL =>
 ((bif decide (cL.Kind=2) then
 (idx a0.eo s1.2).bind λeg =>
 (idx eg cz.2).bind λcm =>
 (eI cz.1 [cm.N]).bind λb7 =>
 some (cz.1++[cm.N])
 else
 some cz.1)).bind λiU =>
 some iU).bind λl' =>
 some (.inl (l',aM (cz.2+1)))
 else
 some (.inr cz.1))) (([]:List Int),0)).bind λbF =>
 (xm bF).bind λff =>
 (cI (R:=List gy) (λ(dX:List gy × Int) =>
 (idx a0.eo s1.2).bind λgQ =>
 (bif decide (dX.2<(gQ.length:Int)) then
 ((idx a0.eo s1.2).bind λe0 =>
 (idx e0 dX.2).bind λiY =>
 ((bif !decide (iY.Kind=0) then (bif !decide (iY.Kind=2) then some true else some (!decide (iY.N=ff))) else some false)).bind λDE =>
 ((bif DE then
 (mQ iY).bind λgd =>
 (eI dX.1 [(⟨dX.2,gd⟩:gy)]).bind λkN =>
 some (dX.1++[(⟨dX.2,gd⟩:gy)])
 else
 some dX.1)).bind λF0 =>
 some F0).bind λzp =>
 some (.inl (zp,aM (dX.2+1)))
 else
 some (.inr dX.1))) (([]:List gy),0)).bind λeZ =>
 (eI s1.1 [(⟨ff,eZ⟩:Row)]).bind λgf =>
 some (.inl (s1.1++[(⟨ff,eZ⟩:Row)],aM (s1.2+1)))
 else
 some (.inr s1.1))) (([]:List Row),0)).bind λx2 =>
 some x2
def Lj (a0:jD):Option ((List Row)) :=
 (cI (R:=List Row) (λ(s1:List Row × Int) =>
 ((bif decide (0<(a0.dp.length:Int)) then ((idx a0.dp 0).bind λb5=>some (decide (s1.2<(b5.length:Int)))) else some false)).bind λua =>
 (bif ua then
 (cI (R:=List Int) (λ(cJ:List Int × Int) =>
 (bif decide (cJ.2<(a0.dp.length:Int)) then
 ((idx a0.dp cJ.2).bind λdG =>
 (idx dG s1.2).bind λdS =>
 ((bif decide (0<=dS) then
 (idx a0.dp cJ.2).bind λb7 =>
 (idx b7 s1.2).bind λff =>
 (eI cJ.1 [ff]).bind λgL =>
 some (cJ.1++[ff])
 else
 some cJ.1)).bind λpw =>
 some pw).bind λfq =>
 some (.inl (fq,aM (cJ.2+1)))
 else
 some (.inr cJ.1))) (([]:List Int),0)).bind λcu =>
 (xm cu).bind λeZ =>
 (cI (R:=List gy) (λ(sh:List gy × Int) =>
 (bif decide (sh.2<(a0.dp.length:Int)) then
 ((idx a0.dp sh.2).bind λiY =>
 (idx iY s1.2).bind λfB =>
 ((bif decide (0<=fB) then some (!decide (fB=eZ)) else some false)).bind λDE =>
 ((bif DE then
 (eI sh.1 [(⟨sh.2,fB⟩:gy)]).bind λgd =>
 some (sh.1++[(⟨sh.2,fB⟩:gy)])
 else
 some sh.1)).bind λF0 =>
 some F0).bind λFZ =>
 some (.inl (FZ,aM (sh.2+1)))
 else
 some (.inr sh.1))) (([]:List gy),0)).bind λgQ =>
 (eI s1.1 [(⟨eZ,gQ⟩:Row)]).bind λkN =>
 some (.inl (s1.1++[(⟨eZ,gQ⟩:Row)],aM (s1.2+1)))
 else
 some (.inr s1.1))) (([]:List Row),0)).bind λx2 =>
 some x2
def Gt (a0:(List Act)) (ar:Int):Option (Int) :=
 (cI (R:=Int) (λ(s1:Int × Int) =>
 (bif decide (s1.2<(a0.length:Int)) then
 ((((idx a0 s1.2).bind λbF=>(bif decide (bF.Kind=2) then ((idx a0 s1.2).bind λb4=>some (decide (b4.N=ar))) else some false))).bind λoo =>
 ((bif oo then
 some (aM (s1.1+1))
 else
 some s1.1)).bind λl' =>
 some l').bind λla =>
 some (.inl (la,aM (s1.2+1)))
 else
 some (.inr s1.1))) (0,0)).bind λx2 =>
 some x2
def Gs (a0:Int) (ar:Int):Option (Int × Int) :=
 some (IntKind.u64.wrap ((IntKind.u64.wrap ((IntKind.u64.wrap ((qn .u64 a0 32) * (qn .u64 ar 32)))+(qn .u64 (IntKind.u64.wrap ((IntKind.u64.wrap ((qn .u64 a0 32) * (qG .u64 ar 4294967295)))+(qn .u64 (IntKind.u64.wrap ((qG .u64 a0 4294967295) * (qG .u64 ar 4294967295))) 32))) 32)))+(qn .u64 (IntKind.u64.wrap ((qG .u64 (IntKind.u64.wrap ((IntKind.u64.wrap ((qn .u64 a0 32) * (qG .u64 ar 4294967295)))+(qn .u64 (IntKind.u64.wrap ((qG .u64 a0 4294967295) * (qG .u64 ar 4294967295))) 32))) 4294967295)+(IntKind.u64.wrap ((qG .u64 a0 4294967295) * (qn .u64 ar 32))))) 32)),IntKind.u64.wrap (a0 * ar))
def GA (a0:Int) (ar:Int):Option (Int × Int) :=
 (Gs a0 ar).bind λaH =>
 some (aH.1,aH.2)
def CJ (a0:(List Int)) (ar:Int):Option ((List Int)) :=
 (bif decide (ar<0) then
 none
 else
 (GA (IntKind.u64.wrap (a0.length:Int)) (IntKind.u64.wrap ar)).bind λx2 =>
 ((bif decide (0<x2.1) then some true else some (decide (9223372036854775807<x2.2)))).bind λc4 =>
 (bif c4 then
 none
 else
 (oS (aM x2.2) 0).bind λbF =>
 (Bq 0 bF.length bF a0).bind λbj =>
 (cI (R:=List Int) (λ(cJ:List Int × Int) =>
 (bif decide (cJ.2<(cJ.1.length:Int)) then
 (tj cJ.1 cJ.2).bind λcL =>
 (tj cJ.1 cJ.2).bind λdG =>
 (Bq cJ.2.toNat (cJ.1.length - cJ.2.toNat) cJ.1 (cJ.1.take cJ.2.toNat)).bind λdS =>
 some (.inl (dS,aM (cJ.2+((min (cJ.1.take cJ.2.toNat).length (cJ.1.length - cJ.2.toNat):Nat):Int))))
 else
 some (.inr cJ.1))) (bj,((min a0.length bF.length:Nat):Int))).bind λcu =>
 some cu))
def z6 (a0:bR) (ar:(List State)):Option (jD) :=
 (cI (R:=List (List Act) × List (List Int)) (λ(s1:List (List Act) × List (List Int) × Int) =>
 (bif decide (s1.2.2<(ar.length:Int)) then
 (idx ar s1.2.2).bind λb5 =>
 (CJ [(-1)] (a0.bt.length:Int)).bind λbF =>
 (cI (R:=List Int) (λ(eE:List Int × Int) =>
 (bif decide (eE.2<(b5.c9.length:Int)) then
 ((idx b5.c9 eE.2).bind λcL =>
 ((bif decide (1000<=cL.Sym) then
 (idx eE.1 (aM (cL.Sym - 1000))).bind λeg =>
 some (eE.1.set (aM (cL.Sym - 1000)).toNat cL.g_)
 else
 some eE.1)).bind λiU =>
 some iU).bind λgG =>
 some (.inl (gG,aM (eE.2+1)))
 else
 some (.inr eE.1))) (bF,0)).bind λb4 =>
 (eI s1.2.1 [b4]).bind λcm =>
 (oS (a0.aX.length:Int) (⟨0,0⟩:Act)).bind λb7 =>
 (eI s1.1 [b7]).bind λff =>
 some (.inl (s1.1++[b7],s1.2.1++[b4],aM (s1.2.2+1)))
 else
 some (.inr (s1.1,s1.2.1)))) (([]:List (List Act)),([]:List (List Int)),0)).bind λx2 =>
 some (⟨x2.1,x2.2⟩:jD)
def xo (a0:bR) (ar:Int):Option (Int × Int) :=
 ((bif decide (ar<0) then some true else some (decide ((a0.aX.length:Int)<=ar)))).bind λc2 =>
 (bif c2 then
 some (0,0)
 else
 (idx a0.aX ar).bind λbX =>
 (idx a0.aX ar).bind λb5 =>
 some (bX.Level,b5.eN))
def z8 (a0:bR) (ar:Int):Option (Int × Int) :=
 ((bif decide (ar<0) then some true else some (decide ((a0.aW.length:Int)<=ar)))).bind λc2 =>
 (bif c2 then
 some (0,0)
 else
 (idx a0.aW ar).bind λbX =>
 (xo a0 bX.Prec).bind λb5 =>
 some (b5.1,b5.2))
def zY (a0:bR) (ar:Int) (a2:Int):Option (Int) :=
 (z8 a0 ar).bind λaH =>
 (xo a0 a2).bind λx2 =>
 ((bif decide (aH.1=0) then some true else some (decide (x2.1=0)))).bind λc4 =>
 (bif c4 then
 some 0
 else
 ((bif decide (aH.1<x2.1) then some true else (bif decide (x2.1=aH.1) then some (decide (x2.2=2)) else some false))).bind λom =>
 (bif om then
 some 1
 else
 ((bif decide (x2.1<aH.1) then some true else some (decide (x2.2=1)))).bind λDB =>
 (bif DB then
 some 2
 else
 some 3)))
def vg (a0:(List Int)):Option (Int) :=
 (bif decide ((a0.length:Int)<1) then
 none
 else
 (idx a0 0).bind λx2 =>
 (cI (R:=Int) (λ(dV:Int × Int) =>
 (bif decide (dV.2<(a0.length:Int)) then
 (idx a0 dV.2).bind λbj =>
 some (.inl (min dV.1 bj,aM (dV.2+1)))
 else
 some (.inr dV.1))) (x2,1)).bind λbX =>
 some bX)
def z7 (a0:bR) (ar:Cell):Option (Act × Bool) :=
 (bif decide ((ar.aW.length:Int)=0) then
 (bif ar.gR then
 some ((⟨3,0⟩:Act),false)
 else
 some ((⟨1,ar.fg⟩:Act),false))
 else
 (vg ar.aW).bind λa6 =>
 (bif ar.gR then
 some ((⟨3,0⟩:Act),true)
 else
 (bif decide (ar.fg<0) then
 some ((⟨2,a6⟩:Act),false)
 else
 (zY a0 a6 ar.bC).bind λbF =>
 (bif decide (bF=2) then
 some ((⟨2,a6⟩:Act),false)
 else
 (bif decide (bF=3) then
 some ((⟨4,0⟩:Act),false)
 else
 (bif decide (bF=1) then
 some ((⟨1,ar.fg⟩:Act),false)
 else
 some ((⟨1,ar.fg⟩:Act),true)))))))
def vd (a0:bR) (ar:(List State)) (a2:(List Cell)):Option (jD × (List eF)) :=
 (z6 a0 ar).bind λaH =>
 (cI (R:=List (List Act) × List eF) (λ(s2:List (List Act) × List eF × Int) =>
 (bif decide (s2.2.2<(a2.length:Int)) then
 ((idx a2 s2.2.2).bind λbj =>
 (z7 a0 bj).bind λb4 =>
 (idx s2.1 bj.State).bind λcu =>
 (idx cu bj.bC).bind λbQ =>
 (bif decide ((bj.aW.length:Int)=0) then
 some (s2.1.set bj.State.toNat (cu.set bj.bC.toNat b4.1),s2.2.1)
 else
 (vg bj.aW).bind λcL =>
 (cI (R:=List eF) (λ(gb:List eF × Int) =>
 (bif decide (gb.2<(bj.aW.length:Int)) then
 ((idx bj.aW gb.2).bind λff =>
 ((bif !decide (ff=cL) then
 (eI gb.1 [(⟨bj.State,bj.bC,cL,ff⟩:eF)]).bind λfP =>
 some (gb.1++[(⟨bj.State,bj.bC,cL,ff⟩:eF)])
 else
 some gb.1)).bind λfx =>
 some fx).bind λr3 =>
 some (.inl (r3,aM (gb.2+1)))
 else
 some (.inr gb.1))) (s2.2.1,0)).bind λdS =>
 ((bif b4.2 then
 (eI dS [(⟨bj.State,bj.bC,(-1),cL⟩:eF)]).bind λfR =>
 some (dS++[(⟨bj.State,bj.bC,(-1),cL⟩:eF)])
 else
 some dS)).bind λnn =>
 some (s2.1.set bj.State.toNat (cu.set bj.bC.toNat b4.1),nn))).bind λiV =>
 some (.inl (iV.1,iV.2,aM (s2.2.2+1)))
 else
 some (.inr (s2.1,s2.2.1)))) (aH.eo,([]:List eF),0)).bind λa6 =>
 some ((⟨a6.1,aH.dp⟩:jD),a6.2)
def Gv (a0:(List eF)):Option (Int × Int) :=
 (cI (R:=Int) (λ(s1:Int × Int) =>
 (bif decide (s1.2<(a0.length:Int)) then
 ((idx a0 s1.2).bind λbF =>
 ((bif decide (bF.gx=(-1)) then
 some (aM (s1.1+1))
 else
 some s1.1)).bind λnp =>
 some np).bind λla =>
 some (.inl (la,aM (s1.2+1)))
 else
 some (.inr s1.1))) (0,0)).bind λx2 =>
 some (x2,aM ((a0.length:Int) - x2))
def xl (a0:(List Int)):Option (Source) :=
 (cI (R:=List Alt × List Decl) (λ(s1:List Alt × List Decl × Int) =>
 ((bif decide (s1.2.2<(a0.length:Int)) then some (decide (s1.2.2<7)) else some false)).bind λlq =>
 (bif lq then
 (idx a0 s1.2.2).bind λbj =>
 (ts bj 3).bind λb4 =>
 (eI s1.2.1 [(⟨aM (2+b4),{ data:=#[] },[(⟨strOfNums [hg (aM (65+s1.2.2))],true,0,0⟩:Sym)],0⟩:Decl)]).bind λcu =>
 (eI s1.1 [(⟨[(⟨(⟨{ data:=#[101] },false,0,0⟩:Sym),{ data:=#[] },0⟩:Part),(⟨(⟨strOfNums [hg (aM (65+s1.2.2))],true,0,0⟩:Sym),{ data:=#[] },0⟩:Part),(⟨(⟨{ data:=#[101] },false,0,0⟩:Sym),{ data:=#[] },0⟩:Part)],(⟨{ data:=#[] },false,0,0⟩:Sym),0⟩:Alt)]).bind λbQ =>
 some (.inl (s1.1++[(⟨[(⟨(⟨{ data:=#[101] },false,0,0⟩:Sym),{ data:=#[] },0⟩:Part),(⟨(⟨strOfNums [hg (aM (65+s1.2.2))],true,0,0⟩:Sym),{ data:=#[] },0⟩:Part),(⟨(⟨{ data:=#[101] },false,0,0⟩:Sym),{ data:=#[] },0⟩:Part)],(⟨{ data:=#[] },false,0,0⟩:Sym),0⟩:Alt)],s1.2.1++[(⟨aM (2+b4),{ data:=#[] },[(⟨strOfNums [hg (aM (65+s1.2.2))],true,0,0⟩:Sym)],0⟩:Decl)],aM (s1.2.2+1)))
 else
 some (.inr (s1.1,s1.2.1)))) ([(⟨[(⟨(⟨{ data:=#[120] },true,0,0⟩:Sym),{ data:=#[] },0⟩:Part)],(⟨{ data:=#[] },false,0,0⟩:Sym),0⟩:Alt)],([]:List Decl),0)).bind λx2 =>
 some (⟨{ data:=#[] },x2.2,[(⟨{ data:=#[101] },x2.1,0⟩:kr)],{ data:=#[] }⟩:Source)
def Gz (a0:(List State)) (ar:Int) (a2:Int):Option (Int) :=
 (idx a0 ar).bind λaH =>
 (cI (R:=(Unit) ⊕ (Int)) (λ(s2:Int) =>
 (bif decide (s2<(aH.c9.length:Int)) then
 (idx aH.c9 s2).bind λbj =>
 (bif decide (bj.Sym=a2) then
 some (.inr (.inr bj.g_))
 else
 some (.inl (aM (s2+1))))
 else
 some (.inr (.inl ())))) 0).bind λa6 =>
 (match a6 with
 | .inl bX =>
 some (-1)
 | .inr b5 =>
 some b5)
def Gx (a0:(List State)) (ar:Int) (a2:(List Int)):Option (Int) :=
 (cI (R:=(Int) ⊕ (Int)) (λ(s1:Int × Int) =>
 (bif decide (s1.2<(a2.length:Int)) then
 (idx a2 s1.2).bind λbF =>
 (Gz a0 s1.1 bF).bind λbj =>
 (bif decide (bj<0) then
 some (.inr (.inr (-1)))
 else
 some (.inl (bj,aM (s1.2+1))))
 else
 some (.inr (.inl s1.1)))) (ar,0)).bind λx2 =>
 (match x2 with
 | .inl a6 =>
 some a6
 | .inr bX =>
 some bX)
def q3 (a0:(List State)) (ar:(List Int)):Option (Int) :=
 (Gx a0 0 ar).bind λaH =>
 some aH
def CH :Option (Bool) :=
 (xl [0]).bind λaH =>
 (q2 aH).bind λx2 =>
 (vd x2.1 x2.2.1 x2.2.2.1).bind λa6 =>
 (q2 (⟨aH.bw,([]:List Decl),aH.e1,aH.bz⟩:Source)).bind λbX =>
 (vd bX.1 bX.2.1 bX.2.2.1).bind λb5 =>
 (Gv b5.2).bind λbF =>
 ((bif !x2.2.2.2 then some true else (bif !bX.2.2.2 then some true else (bif !decide ((a6.2.length:Int)=0) then some true else (bif !decide ((b5.2.length:Int)=1) then some true else ((idx b5.2 0).bind λcy=>(bif !decide (cy.gx=(-1)) then some true else ((idx b5.2 0).bind λdG=>(bif !decide (dG.Drop=2) then some true else (bif !decide (bF.1=1) then some true else some (!decide (bF.2=0)))))))))))).bind λDD =>
 (bif DD then
 some false
 else
 (q3 x2.2.1 [1001,3,1001]).bind λff =>
 ((bif decide (0<=ff) then (bif decide (ff<(a6.1.eo.length:Int)) then ((idx a6.1.eo ff).bind λfP=>(bif decide ((fP.length:Int)=5) then ((idx a6.1.eo ff).bind λfQ=>((idx fQ 3).bind λfR=>(bif decide (fR.Kind=2) then ((idx a6.1.eo ff).bind λiY=>((idx iY 3).bind λfB=>(bif decide (fB.N=2) then ((idx a6.1.eo ff).bind λeB=>((idx eB 4).bind λic=>(bif decide (ic.Kind=0) then (bif decide ((a6.1.dp.length:Int)=(x2.2.1.length:Int)) then ((idx a6.1.dp 0).bind λkN=>(bif decide ((kN.length:Int)=2) then ((idx a6.1.dp 0).bind λfG=>((idx fG 1).bind λie=>((q3 x2.2.1 [1001]).bind λh0=>(bif decide (ie=h0) then ((idx a6.1.dp 0).bind λiv=>((idx iv 0).bind λxJ=>some (decide (xJ=(-1))))) else some false)))) else some false)) else some false) else some false))) else some false))) else some false))) else some false)) else some false) else some false)).bind λDG =>
 some DG)
def zX (a0:Cell):Option (Int) :=
 ((bif decide (0<=a0.fg) then
 some (aM ((a0.aW.length:Int)+1))
 else
 some (a0.aW.length:Int))).bind λhN =>
 ((bif a0.gR then
 some (aM (hN+1))
 else
 some hN)).bind λdd =>
 some dd
def zZ (a0:(List Cell)):Option (Int) :=
 (cI (R:=Int) (λ(s1:Int × Int) =>
 (bif decide (s1.2<(a0.length:Int)) then
 ((idx a0 s1.2).bind λbF =>
 (zX bF).bind λbj =>
 ((bif decide (1<bj) then
 some (aM (s1.1+1))
 else
 some s1.1)).bind λjk =>
 some jk).bind λla =>
 some (.inl (la,aM (s1.2+1)))
 else
 some (.inr s1.1))) (0,0)).bind λx2 =>
 some x2
def zS (a0:(List Int)):Option (Bool) :=
 (CH ).bind λaH =>
 (bif !aH then
 some false
 else
 (xl a0).bind λa6 =>
 (q2 a6).bind λbX =>
 (vd bX.1 bX.2.1 bX.2.2.1).bind λb5 =>
 ((bif !bX.2.2.2 then some true else (bif !decide ((b5.2.length:Int)=0) then some true else ((zZ bX.2.2.1).bind λb4=>some (!decide (b4=aM ((min (a0.length:Int) 7) * (min (a0.length:Int) 7)))))))).bind λoo =>
 (bif oo then
 some false
 else
 (cI (R:=(Unit) ⊕ (Bool)) (λ(e6:Int) =>
 (bif decide (e6<min (a0.length:Int) 7) then
 (q3 bX.2.1 [1001,aM (3+e6),1001]).bind λcm =>
 ((bif decide (cm<0) then some true else (bif decide ((b5.1.eo.length:Int)<=cm) then some true else ((idx b5.1.eo cm).bind λgL=>some (!decide ((gL.length:Int)=aM ((min (a0.length:Int) 7)+4))))))).bind λt' =>
 (bif t' then
 some (.inr (.inr false))
 else
 (cI (R:=(Unit) ⊕ (Bool)) (λ(hn:Int) =>
 (bif decide (hn<min (a0.length:Int) 7) then
 (q3 bX.2.1 [1001,aM (3+e6),1001,aM (3+hn)]).bind λfB =>
 (((bif decide (e6<hn) then
 some (1,fB)
 else
 ((bif decide (hn=e6) then
 (idx a0 e6).bind λkN =>
 (ts kN 3).bind λgf =>
 (idx [(⟨2,aM (2+e6)⟩:Act),(⟨1,fB⟩:Act),(⟨4,0⟩:Act)] gf).bind λfG =>
 some (fG.Kind,fG.N)
 else
 some (2,aM (2+e6)))).bind λoO =>
 some (oO.1,oO.2))).bind λuX =>
 some (uX.1,uX.2)).bind λr4 =>
 (idx b5.1.eo cm).bind λie =>
 (idx ie (aM (3+hn))).bind λh0 =>
 (bif !(decide (h0.Kind=r4.1)&&(decide (h0.N=r4.2)&&true)) then
 some (.inr (.inr false))
 else
 some (.inl (aM (hn+1))))
 else
 some (.inr (.inl ())))) 0).bind λfQ =>
 (match fQ with
 | .inl fR =>
 some (.inl (aM (e6+1)))
 | .inr e0 =>
 some (.inr (.inr e0))))
 else
 some (.inr (.inl ())))) 0).bind λcL =>
 (match cL with
 | .inl dG =>
 some true
 | .inr dS =>
 some dS)))
theorem UN:CH=some true:=by kernel_rfl
end Go.Proofs
namespace Go.Own
open Go
variable {α β S R:Type}
abbrev iJ (p:S->Prop) (q:R->Prop) (x:S ⊕ R):Prop:=Sum.elim p q x
def Tot (x:Option α) (Φ:α->Prop):Prop:=∃ a,x=some a/\Φ a
namespace Tot
variable {Φ fy:α->Prop}
theorem az {a:α}(h:Φ a):Tot (some a) Φ:=⟨a,rfl,h⟩
theorem bi {x:Option β}{f:β->Option α}(h:Tot x λa=>Tot (f a) Φ):Tot (x.bind f) Φ:=by
 obtain ⟨a,rfl,b,aF,mM⟩:=h;exact ⟨b,aF,mM⟩
theorem ax {f:β->Option α}{a:β}(h:Tot (f a) Φ):Tot ((some a).bind f) Φ:=h
theorem use {x:Option α}(h:Tot x fy) (hi:∀ a,fy a->Φ a):Tot x Φ:=by
 obtain ⟨a,bf,FQ⟩:=h;exact ⟨a,bf,hi a FQ⟩
theorem aK {x:Option β}{f:β->Option α}{Ξ:β->Prop}(h:Tot x Ξ) (hk:∀ a,Ξ a->Tot (f a) Φ):Tot (x.bind f) Φ:=bi (h.use hk)
theorem cE {c:Bool}{a b:Option α}(aC:c=true->Tot a Φ) (bh:c=false->Tot b Φ):Tot (cond c a b) Φ:=by
 cases c
 ·exact bh rfl
 ·exact aC rfl
theorem b8 {p:Prop} [Decidable p] {a b:Option α}(aC:p->Tot a Φ) (bh:¬ p->Tot b Φ):Tot (cond (decide p) a b) Φ :=
 cE (λh=>aC (of_decide_eq_true h)) (λh=>bh (of_decide_eq_false h))
theorem pc {p:Prop} [Decidable p] {a b:Option α}(aC:¬ p->Tot a Φ) (bh:p->Tot b Φ):Tot (cond (!decide p) a b) Φ :=
 cE (λh=>aC (of_decide_eq_false (by simpa using h))) (λh=>bh (of_decide_eq_true (by simpa using h)))
theorem jK {l:List α}{i:Int}(ba:0<=i) (h1:i<l.length) (hk:∀ y,idx l i=some y->y∈l->Φ y):Tot (idx l i) Φ:=by
 have a8:i.toNat<l.length:=by omega
 have:idx l i=some l[i.toNat]:=by simp [idx,ba,a8]
 exact ⟨_,this,hk _ this (List.getElem_mem a8)⟩
theorem ap {Φ:List α->Prop}{l m:List α}(h:l.length+m.length<=lim) (hk:Φ (l++m)):Tot (eI l m) Φ:=by
 refine ⟨l++m,?_,hk⟩;unfold eI;rw [if_pos h]
theorem loop {f:S->Option (S ⊕ R)}{e_:S}{fy:R->Prop}(Inv:S->Prop) (sv:S->Nat) (ba:Inv e_) (FR:sv e_<fuel)
  (aL:∀ s,Inv s->Tot (f s) (iJ (λeL=>Inv eL/\sv eL<sv s) fy)):Tot (cI f e_) fy:=by
 have key:∀ n s,Inv s->sv s<n->Tot (iter f n s) fy:=by
  intro n
  induction n with
  | zero=>intro s _ h; omega
  | succ n aS =>
   intro s bp hm;obtain ⟨x,J,dn⟩:=aL s bp;cases x with
   | inl eL =>
    obtain ⟨h1,ak⟩:=dn;simp only [iter,J];exact aS eL h1 (by omega)
   | inr r =>
    simp only [iter,J];exact ⟨r,rfl,dn⟩
 exact key fuel e_ ba FR
theorem count {f:S->Option (S ⊕ R)}{e_:S}{fy:R->Prop}(i:S->Int) (n:Int) (Inv:S->Prop) (ba:Inv e_) (aJ:n - i e_<1000000000000000000)
  (aL:∀ s,Inv s->Tot (f s) (iJ (λeL=>Inv eL/\i s<i eL/\i eL<=n) fy)):Tot (cI f e_) fy:=by
 refine loop Inv (λs=>(n - i s).toNat) ba (by show (n - i e_).toNat<1000000000000000000; omega) λs bp=>(aL s bp).use λx J=>?_;cases x with
 | inl eL=>exact ⟨J.1,by have:=J.2; show (n - i eL).toNat<(n - i s).toNat; omega⟩
 | inr r=>exact J
end Tot
theorem dC (n:Int):aM n=(n+9223372036854775808) % 18446744073709551616 - 9223372036854775808:=IntKind.wrap_i64 n
namespace Tot
theorem cat {Φ:ByteArray->Prop}{s u:ByteArray}(h:s.size+u.size<=4611686018427387904) (hk:Φ (s++u)):Tot (rE s u) Φ:=by
 refine ⟨s++u,?_,hk⟩;unfold rE;rw [if_pos h]
theorem cut {Φ:ByteArray->Prop}{s:ByteArray}{m n:Int}(h:0<=m/\m<=n/\n<=s.size) (hk:Φ (yg s m n)):Tot (wx s m n) Φ:=by
 refine ⟨_,?_,hk⟩;unfold wx;rw [if_pos h]
theorem oi {Φ:Int->Prop}{s:ByteArray}{m:Int}(h:0<=m/\m<s.size) (hk:Φ (x_ s m)):Tot (kx s m) Φ:=by
 refine ⟨_,?_,hk⟩;unfold kx;rw [if_pos h]
theorem sub {Φ:List α->Prop}{l:List α}{m n:Int}(h:0<=m/\m<=n/\n<=l.length) (hk:Φ ((l.drop m.toNat).take (n - m).toNat)):Tot (pK l m n) Φ:=by
 refine ⟨_,?_,hk⟩;unfold pK;rw [if_pos h]
theorem rem {Φ:Int->Prop}{m n:Int}(h:n≠0) (hk:Φ (m.tmod n)):Tot (Ak m n) Φ:=by
 refine ⟨_,?_,hk⟩;unfold Ak;rw [if_neg h]
theorem quo {Φ:Int->Prop}{m n:Int}(h:n≠0) (hk:Φ (aM (m.tdiv n))):Tot (CO m n) Φ:=by
 refine ⟨_,?_,hk⟩;unfold CO;rw [if_neg h]
theorem se {Φ:Int->Prop}{m n:Int}(h:n≠0) (hk:Φ (m.tmod n)):Tot (Own.se m n) Φ:=by
 refine ⟨_,?_,hk⟩;unfold Own.se;rw [if_neg h]
theorem sb {Φ:Int->Prop}{m n:Int}(h:n≠0) (hk:Φ (IntKind.u64.wrap (m.tdiv n))):Tot (Own.sb m n) Φ:=by
 refine ⟨_,?_,hk⟩;unfold Own.sb;rw [if_neg h]
theorem mk {Φ:List α->Prop}{m:Int}{z:α}(h:0<=m/\m<=lim) (hk:Φ (List.replicate m.toNat z)):Tot (oS m z) Φ:=by
 refine ⟨_,?_,hk⟩;unfold oS;rw [if_pos h]
theorem eq {x:Option α}{Φ:α->Prop}{a:α}(h:Tot x Φ) (e:x=some a):Φ a:=by
 obtain ⟨b,aF,mM⟩:=h;rw [e] at aF; cases aF; exact mM
theorem ex {x:Option α}{Φ:α->Prop}(h:Tot x Φ):∃ a,x=some a/\Φ a:=h
end Tot
namespace Tot
theorem scan {f:Int->Option (Int ⊕ (Unit ⊕ R))}(l:List β) (P:β->Prop) (Q:R->Prop) (ao:l.length<=100000000000000000)
  (aL:∀ (s:Int) (y:β),0<=s->s<l.length->idx l s=some y->y∈l->Tot (f s) (iJ (λeL=>eL=s+1/\P y) (iJ (λ_=>False) Q)))
  (he:∀ s:Int,¬ s<l.length->f s=some (.inr (.inl ()))):Tot (cI f 0) (iJ (λ_=>∀ y∈l,P y) Q):=by
 refine count (λs=>s) l.length (λs=>0<=s/\s<=l.length/\∀ (ae:Nat) (y:β),(ae:Int)<s->l[ae]?=some y->P y) ⟨by omega,by omega,λae y h=>by omega⟩ (by show (l.length:Int) - 0<_; omega) λs bp=>?_;obtain ⟨ba,h1,ak⟩:=bp;by_cases a8:s<l.length
 ·have oD:s.toNat<l.length:=by omega
  have hi:idx l s=some l[s.toNat]:=by simp [idx,ba,oD]
  refine (aL s _ ba a8 hi (List.getElem_mem oD)).use λx J=>?_;rcases x with eL | ⟨⟨⟩⟩ | r
  ·obtain ⟨rfl,dn⟩:=J;refine ⟨⟨by omega,by omega,λae y ab ay=>?_⟩,by show s<s+1; omega,by show s+1<=_; omega⟩;by_cases wN:(ae:Int)<s
   ·exact ak ae y wN ay
   ·have:ae=s.toNat:=by omega
    subst this;rw [List.getElem?_eq_getElem oD] at ay;cases ay; exact dn
  ·exact J.elim
  ·exact J
 ·rw [he s a8];refine az λy ay=>?_;obtain ⟨ae,ab,rfl⟩:=List.mem_iff_getElem.1 ay;exact ak ae _ (by omega) (List.getElem?_eq_getElem ab)
end Tot
end Go.Own
namespace Go.Own
open Go
variable {α β S R:Type}
def Par (x:Option α) (Φ:α->Prop):Prop:=∀ a,x=some a->Φ a
set_option linter.unusedVariables false
namespace Par
variable {Φ fy:α->Prop}
theorem az {a:α}(h:Φ a):Par (some a) Φ:=λb e=>by cases e; exact h
theorem no:Par (none:Option α) Φ:=λb e=>by cases e
theorem use {x:Option α}(h:Par x fy) (hi:∀ a,fy a->Φ a):Par x Φ:=λa e=>hi a (h a e)
theorem aK {x:Option β}{f:β->Option α}{Ξ:β->Prop}(h:Par x Ξ) (hk:∀ a,Ξ a->Par (f a) Φ):Par (x.bind f) Φ:=λa e=>by
 cases x with
 | none=>cases e
 | some b=>exact hk b (h b rfl) a e
theorem go {x:Option β}{f:β->Option α}(hk:∀ a,x=some a->Par (f a) Φ):Par (x.bind f) Φ:=λa e=>by
 cases x with
 | none=>cases e
 | some b=>exact hk b rfl a e
theorem cE {c:Bool}{a b:Option α}(aC:c=true->Par a Φ) (bh:c=false->Par b Φ):Par (cond c a b) Φ:=by
 cases c
 ·exact bh rfl
 ·exact aC rfl
theorem b8 {p:Prop} [Decidable p] {a b:Option α}(aC:p->Par a Φ) (bh:¬ p->Par b Φ):Par (cond (decide p) a b) Φ :=
 cE (λh=>aC (of_decide_eq_true h)) (λh=>bh (of_decide_eq_false h))
theorem pc {p:Prop} [Decidable p] {a b:Option α}(aC:¬ p->Par a Φ) (bh:p->Par b Φ):Par (cond (!decide p) a b) Φ :=
 cE (λh=>aC (of_decide_eq_false (by simpa using h))) (λh=>bh (of_decide_eq_true (by simpa using h)))
theorem ap {l m:List β}{f:List β->Option α}(hk:l.length+m.length<=lim->Par (f (l++m)) Φ):Par ((eI l m).bind f) Φ:=by
 unfold eI;split
 ·rename_i h; exact hk h
 ·exact no
theorem cat {s u:ByteArray}{f:ByteArray->Option α}(hk:Par (f (s++u)) Φ):Par ((rE s u).bind f) Φ:=by
 unfold rE;split
 ·exact hk
 ·exact no
theorem loop {f:S->Option (S ⊕ R)}{e_:S}{fy:R->Prop}(Inv:S->Prop) (ba:Inv e_) (aL:∀ s,Inv s->Par (f s) (iJ Inv fy)):Par (cI f e_) fy:=by
 have key:∀ n s,Inv s->Par (iter f n s) fy:=by
  intro n
  induction n with
  | zero=>intro s _ a e; cases e
  | succ n aS =>
   intro s bp a e;simp only [iter] at e;cases J:f s with
   | none=>rw [J] at e; cases e
   | some x =>
    have dn:=aL s bp x J;rw [J] at e;cases x with
    | inl eL=>exact aS eL dn a e
    | inr r=>cases e; exact dn
 exact key fuel e_ ba
theorem jO {x:Option α}(h:Tot x Φ) (aR:Par x fy):Tot x λa=>Φ a/\fy a:=by
 obtain ⟨a,bf,mM⟩:=h;exact ⟨a,bf,mM,aR a bf⟩
theorem of {x:Option α}(h:Tot x Φ):Par x Φ:=λa e=>h.eq e
theorem scan {f:Int->Option (Int ⊕ (Unit ⊕ R))}(l:List β) (ao:l.length<=100000000000000000) (P:β->Prop) (Q:R->Prop)
  (aL:∀ (s:Int) (y:β),0<=s->s<l.length->idx l s=some y->y∈l->Par (f s) (iJ (λeL=>eL=s+1/\P y) (iJ (λ_=>False) Q)))
  (he:∀ s:Int,¬ s<l.length->f s=some (.inr (.inl ()))):Par (cI f 0) (iJ (λ_=>∀ y∈l,P y) Q):=by
 refine loop (λs=>0<=s/\s<=l.length/\∀ (ae:Nat) (y:β),(ae:Int)<s->l[ae]?=some y->P y) ⟨by omega,by omega,λae y h=>by omega⟩ λs bp=>?_;obtain ⟨ba,h1,ak⟩:=bp;by_cases a8:s<l.length
 ·have oD:s.toNat<l.length:=by omega
  have hi:idx l s=some l[s.toNat]:=by simp [idx,ba,oD]
  refine (aL s _ ba a8 hi (List.getElem_mem oD)).use λx J=>?_;rcases x with eL | ⟨⟨⟩⟩ | r
  ·obtain ⟨rfl,dn⟩:=J;refine ⟨by omega,by omega,λae y ab ay=>?_⟩;by_cases wN:(ae:Int)<s
   ·exact ak ae y wN ay
   ·have:ae=s.toNat:=by omega
    subst this;rw [List.getElem?_eq_getElem oD] at ay;cases ay; exact dn
  ·exact J.elim
  ·exact J
 ·rw [he s a8];refine az λy ay=>?_;obtain ⟨ae,ab,rfl⟩:=List.mem_iff_getElem.1 ay;exact ak ae _ (by omega) (List.getElem?_eq_getElem ab)
end Par
end Go.Own
namespace Go.Own
open Go
variable {α β S R:Type}
namespace Tot
theorem upto {f:S->Option (S ⊕ R)}{e_:S}{fy:R->Prop}(i:S->Int) (n:Nat) (Inv:Nat->S->Prop) (hi:i e_=0) (aJ:n<=100000000000000000) (ba:Inv 0 e_)
  (aL:∀ (k:Nat) (s:S),k<=n->i s=(k:Int)->Inv k s->Tot (f s) (iJ (λeL=>k<n/\i eL=((k+1:Nat):Int)/\Inv (k+1) eL) fy)):Tot (cI f e_) fy:=by
 refine count i n (λs=>∃ k:Nat,k<=n/\i s=(k:Int)/\Inv k s) ⟨0,Nat.zero_le _,hi,ba⟩ (by rw [hi]; omega) λs ⟨k,hk,he,bp⟩=>(aL k s hk he bp).use λx J=>?_;rcases x with eL | r
 ·obtain ⟨h1,ak,aN⟩:=J;exact ⟨⟨k+1,by omega,ak,aN⟩,by omega,by omega⟩
 ·exact J
end Tot
namespace Par
theorem upto {f:S->Option (S ⊕ R)}{e_:S}{fy:R->Prop}(i:S->Int) (n:Nat) (Inv:Nat->S->Prop) (hi:i e_=0) (ba:Inv 0 e_)
  (aL:∀ (k:Nat) (s:S),k<=n->i s=(k:Int)->Inv k s->Par (f s) (iJ (λeL=>k<n/\i eL=((k+1:Nat):Int)/\Inv (k+1) eL) fy)):Par (cI f e_) fy:=by
 refine loop (λs=>∃ k:Nat,k<=n/\i s=(k:Int)/\Inv k s) ⟨0,Nat.zero_le _,hi,ba⟩ λs ⟨k,hk,he,bp⟩=>(aL k s hk he bp).use λx J=>?_;rcases x with eL | r
 ·obtain ⟨h1,ak,aN⟩:=J;exact ⟨k+1,by omega,ak,aN⟩
 ·exact J
end Par
theorem ei (k:Nat) (h:k<=1000000000000000000):aM ((k:Int)+1)=((k+1:Nat):Int):=by rw [dC]; omega
end Go.Own
namespace Go.Own
open Go
variable {α β xO xP S T R Q:Type}
def Rel (x:Option α) (y:Option β) (Φ:α->β->Prop):Prop:=∃ a b,x=some a/\y=some b/\Φ a b
abbrev LL (p:S->T->Prop) (q:R->Q->Prop):S ⊕ R->T ⊕ Q->Prop
 | .inl a,.inl b=>p a b
 | .inr a,.inr b=>q a b
 | _,_=>False
namespace Rel
variable {Φ fy:α->β->Prop}
theorem az {a:α}{b:β}(h:Φ a b):Rel (some a) (some b) Φ:=⟨a,b,rfl,rfl,h⟩
theorem use {x:Option α}{y:Option β}(h:Rel x y fy) (hi:∀ a b,fy a b->Φ a b):Rel x y Φ:=by
 obtain ⟨a,b,bf,aF,FQ⟩:=h;exact ⟨a,b,bf,aF,hi a b FQ⟩
theorem aK {x:Option xO}{y:Option xP}{f:xO->Option α}{g:xP->Option β}{Ξ:xO->xP->Prop}(h:Rel x y Ξ) (hk:∀ a b,Ξ a b->Rel (f a) (g b) Φ):Rel (x.bind f) (y.bind g) Φ:=by
 obtain ⟨a,b,rfl,rfl,zl⟩:=h;exact hk a b zl
theorem l {x:Option xO}{y:Option β}{f:xO->Option α}{Ξ:xO->Prop}(h:Tot x Ξ) (hk:∀ a,Ξ a->Rel (f a) y Φ):Rel (x.bind f) y Φ:=by
 obtain ⟨a,rfl,zl⟩:=h;exact hk a zl
theorem r {x:Option α}{y:Option xP}{g:xP->Option β}{Ξ:xP->Prop}(h:Tot y Ξ) (hk:∀ a,Ξ a->Rel x (g a) Φ):Rel x (y.bind g) Φ:=by
 obtain ⟨a,rfl,zl⟩:=h;exact hk a zl
theorem cE {c d:Bool}{a b:Option α}{cx iA:Option β}(aa:c=d) (aC:c=true->Rel a cx Φ) (bh:c=false->Rel b iA Φ):Rel (cond c a b) (cond d cx iA) Φ:=by
 subst aa;cases c
 ·exact bh rfl
 ·exact aC rfl
theorem jO {x:Option α}{y:Option β}{P:α->Prop}{Q:β->Prop}(h:Tot x P) (aR:Tot y Q) (hi:∀ a b,P a->Q b->Φ a b):Rel x y Φ:=by
 obtain ⟨a,bf,dn⟩:=h;obtain ⟨b,aF,dK⟩:=aR;exact ⟨a,b,bf,aF,hi a b dn dK⟩
theorem loop {f:S->Option (S ⊕ R)}{g:T->Option (T ⊕ Q)}{e_:S}{t0:T}{fy:R->Q->Prop}(Inv:S->T->Prop) (sv:S->Nat) (ba:Inv e_ t0) (FR:sv e_<fuel)
  (aL:∀ s t,Inv s t->Rel (f s) (g t) (LL (λeL c'=>Inv eL c'/\sv eL<sv s) fy)):Rel (cI f e_) (cI g t0) fy:=by
 have key:∀ n s t,Inv s t->sv s<n->Rel (iter f n s) (iter g n t) fy:=by
  intro n
  induction n with
  | zero=>intro s t _ h; omega
  | succ n aS =>
   intro s t bp hm;obtain ⟨x,y,J,ay,dn⟩:=aL s t bp;rcases x with eL | r <;> rcases y with c' | q
   ·obtain ⟨h1,ak⟩:=dn;simp only [iter,J,ay];exact aS eL c' h1 (by omega)
   ·exact dn.elim
   ·exact dn.elim
   ·simp only [iter,J,ay];exact ⟨r,q,rfl,rfl,dn⟩
 exact key fuel e_ t0 ba FR
theorem upto {f:S->Option (S ⊕ R)}{g:T->Option (T ⊕ Q)}{e_:S}{t0:T}{fy:R->Q->Prop}(i:S->Int) (n:Nat) (Inv:Nat->S->T->Prop) (hi:i e_=0) (aJ:n<=100000000000000000) (ba:Inv 0 e_ t0)
  (aL:∀ (k:Nat) (s:S) (t:T),k<=n->i s=(k:Int)->Inv k s t->Rel (f s) (g t) (LL (λeL c'=>k<n/\i eL=((k+1:Nat):Int)/\Inv (k+1) eL c') fy)):Rel (cI f e_) (cI g t0) fy:=by
 refine loop (λs t=>∃ k:Nat,k<=n/\i s=(k:Int)/\Inv k s t) (λs=>(n - (i s).toNat)) ⟨0,Nat.zero_le _,hi,ba⟩ (by rw [hi]; show n - 0<1000000000000000000; omega) λs t ⟨k,hk,he,bp⟩=>(aL k s t hk he bp).use λx y Cf=>?_;rcases x with eL | r <;> rcases y with c' | q
 ·obtain ⟨h1,ak,aN⟩:=Cf;refine ⟨⟨k+1,by omega,ak,aN⟩,?_⟩;show n - (i eL).toNat<n - (i s).toNat;rw [ak,he]; omega
 ·exact Cf
 ·exact Cf
 ·exact Cf
end Rel
end Go.Own

namespace Go.Proofs
open Go Go.Own
set_option maxRecDepth 100000
set_option linter.unusedVariables false
theorem t121 (c:Int):Tot (zU c) λ_=>True:=by
 unfold zU
 repeat' first | apply Tot.bi | refine Tot.cE (λ_=>?_) (λ_=>?_) | exact Tot.az trivial | apply Tot.az
theorem t122 (c:Int):Tot (zV c) λ_=>True:=by
 unfold zV
 repeat' first | apply Tot.bi | refine Tot.cE (λ_=>?_) (λ_=>?_) | exact Tot.az trivial | apply Tot.az
theorem t120 (c:Int):Tot (zT c) λ_=>True:=by
 unfold zT
 repeat' first | apply Tot.bi | refine Tot.cE (λ_=>?_) (λ_=>?_) | exact Tot.az trivial | apply Tot.az
theorem t118 (x:Sym):Tot (u_ x) λr=>r=true->x.Name={ data:=#[] }/\x.Lit=false:=by
 unfold u_;apply Tot.bi;refine Tot.b8 (λh=>Tot.cE (λak=>?_) (λak=>?_)) (λh=>?_) <;> apply Tot.az <;> apply Tot.az
 ·exact λ_=>⟨h,by simpa using ak⟩
 ·exact λh=>by cases h
 ·exact λh=>by cases h
abbrev fz:Nat:=1000000000000
theorem t117 (s:ByteArray) (h:s.size<=fz):Tot (zR s 0) λn=>0<=n/\n<=s.size:=by
 unfold zR;refine Tot.aK (Ξ:=λn=>0<=n/\n<=s.size) ?_ λa bf=>.az bf;refine Tot.count (λi=>i) s.size (λi=>0<=i/\i<=s.size) ⟨by omega,by omega⟩ (by show (s.size:Int) - 0<_; simp only [fz] at h; omega) λi ⟨ba,h1⟩=>?_;simp only [fz] at h;have e:aM (0+i)=i:=by rw [dC]; omega
 rw [e];have go:∀ c:Bool,(c=true->i<s.size)->Tot (bif c then some (.inl (aM (i+1))) else some (.inr i)) (iJ (λeL:Int=>(0<=eL/\eL<=s.size)/\i<eL/\eL<=s.size) (λr:Int=>0<=r/\r<=s.size)):=by
  intro c aa;refine Tot.cE (λak=>.az ?_) (λ_=>.az ⟨ba,h1⟩);have:=aa ak;have e:aM (i+1)=i+1:=by rw [dC]; omega
  show (0<=aM (i+1)/\aM (i+1)<=s.size)/\i<aM (i+1)/\aM (i+1)<=s.size;rw [e]; omega
 apply Tot.bi;refine Tot.b8 (λak=>?_) (λak=>.az (go false (by simp)));apply Tot.bi;refine Tot.oi ⟨ba,ak⟩ (Tot.aK (t121 _) λc _=>?_);refine Tot.cE (λ_=>.az (go _ λ_=>ak)) (λ_=>Tot.cE (λ_=>?_) (λ_=>.az (go _ λ_=>ak)));apply Tot.bi;refine Tot.oi ⟨ba,ak⟩ (Tot.aK (t122 _) λc _=>?_);refine Tot.cE (λ_=>.az (go _ λ_=>ak)) (λ_=>?_);apply Tot.bi;exact Tot.oi ⟨ba,ak⟩ (.az (go _ λ_=>ak))
theorem t111 (s:ByteArray) (h:s.size<=fz):Tot (r9 s) λr=>r=true->1<=s.size/\s.size<=20:=by
 unfold r9;apply Tot.bi;refine Tot.b8 (λh1=>Tot.b8 (λak=>?_) (λak=>?_)) (λh1=>?_)
 ·exact .aK (t117 s h) λn aJ=>.az (.az λ_=>by omega)
 ·exact .az (.az λh=>by cases h)
 ·exact .az (.az λh=>by cases h)
theorem t124 (s:ByteArray) (i:Int) (t:ByteArray) (h:s.size<=fz) (ba:0<=i) (h1:i<=4 * fz) (aC:t.size<=fz):Tot (u' s i t) λr=>r=true->i+t.size<=s.size:=by
 unfold u';simp only [fz] at *;apply Tot.bi;refine Tot.b8 (λak=>?_) (λak=>.az (.az λh=>by cases h));apply Tot.bi;rw [dC] at ak;have e:aM (i+t.size)=i+t.size:=by rw [dC]; omega
 refine Tot.cut (by rw [e]; omega) (.az (.az λ_=>by omega))
theorem t123 (s:ByteArray) (i:Int) (h:s.size<=fz) (ba:0<=i) (h1:i<s.size):Tot (zW s i) λr=>r<=s.size:=by
 unfold zW;have aF:(s.size:Int)<=1000000000000:=by simp only [fz] at h; omega
 have de:aM (i+1)=i+1:=by rw [dC]; omega
 have cX:aM (i+2)=i+2:=by rw [dC]; omega
 rw [de,cX];have uD:=Tot.oi (Φ:=λ_=>True) (s:=s) (m:=i) ⟨ba,h1⟩ trivial;refine Tot.aK (Ξ:=λ_=>True) ?_ λc _=>Tot.cE (λ_=>?_) (λ_=>?_)
 ·refine Tot.aK uD λ_ _=>Tot.cE (λ_=>.az trivial) (λ_=>Tot.aK uD λ_ _=>.az trivial)
 ·refine Tot.aK (Ξ:=iJ (λ_=>True) (λr=>r<=s.size)) ?_ λx J=>?_
  ·refine Tot.count (λae=>ae) (s.size+1) (λae=>0<=ae) (by show (0:Int)<=i+1; omega) (by show (s.size:Int)+1 - (i+1)<_; omega) λae ab=>?_;refine Tot.aK (Ξ:=λc=>c=true->ae<s.size) ?_ λc aa=>Tot.cE (λak=>?_) (λ_=>.az trivial)
   ·refine Tot.b8 (λak=>?_) (λ_=>.az λh=>by cases h);exact .aK (Ξ:=λ_=>True) (Tot.oi ⟨ab,ak⟩ trivial) λ_ _=>.az λ_=>ak
   ·have Rs:=aa ak;have BT:=Tot.oi (Φ:=λ_=>True) (s:=s) (m:=ae) ⟨ab,Rs⟩ trivial;have iN:aM (ae+1)=ae+1:=by rw [dC]; omega
    have qN:aM (ae+1+1)=ae+1+1:=by rw [dC]; omega
    rw [iN,qN];refine .aK BT λ_ _=>.aK uD λ_ _=>Tot.cE (λ_=>.az ?_) (λ_=>.aK BT λ_ _=>Tot.cE (λ_=>?_) (λ_=>.az ?_))
    ·show ae+1<=s.size; omega
    ·refine Tot.aK (Ξ:=λ_=>True) ?_ λc _=>Tot.cE (λ_=>.az ?_) (λ_=>.az ?_)
     ·refine Tot.b8 (λaN=>?_) (λ_=>.az trivial);exact .aK (Ξ:=λ_=>True) (Tot.oi ⟨by omega,aN⟩ trivial) λ_ _=>.az trivial
     ·show (-1:Int)<=s.size; omega
     ·show (0:Int)<=ae+1+1/\ae<ae+1+1/\ae+1+1<=s.size+1; omega
    ·show (0:Int)<=ae+1/\ae<ae+1/\ae+1<=s.size+1; omega
  ·rcases x with _ | r
   ·exact .az (by show (-1:Int)<=s.size; omega)
   ·exact .az J
 ·refine .aK uD λ_ _=>Tot.cE (λ_=>?_) (λ_=>?_)
  ·refine Tot.aK (Ξ:=iJ (λ_=>True) (λr=>r<=s.size)) ?_ λx J=>?_
   ·refine Tot.count (λae=>ae) (s.size+1) (λae=>0<=ae) (by show (0:Int)<=i+1; omega) (by show (s.size:Int)+1 - (i+1)<_; omega) λae ab=>?_;refine Tot.b8 (λak=>?_) (λ_=>.az trivial);have iN:aM (ae+1)=ae+1:=by rw [dC]; omega
    rw [iN];refine .aK (Ξ:=λ_=>True) (Tot.oi ⟨ab,ak⟩ trivial) λ_ _=>Tot.cE (λ_=>.az ?_) (λ_=>.az ?_)
    ·show ae+1<=s.size; omega
    ·show (0:Int)<=ae+1/\ae<ae+1/\ae+1<=s.size+1; omega
   ·rcases x with _ | r
    ·exact .az (by show (-1:Int)<=s.size; omega)
    ·exact .az J
  ·refine .aK (t124 s i _ h ba (by simp only [fz]; omega) (by decide)) λc _=>Tot.cE (λ_=>?_) (λ_=>?_)
   ·refine Tot.aK (Ξ:=λr=>r<=s.size) ?_ λx J=>.az J;refine Tot.count (λae=>ae) s.size (λae=>0<=ae/\ae<=s.size) ⟨ba,by omega⟩ (by show (s.size:Int) - i<_; omega) λae ab=>?_;refine Tot.aK (Ξ:=λc=>c=true->ae<s.size) ?_ λc aa=>Tot.cE (λak=>?_) (λ_=>.az ab.2)
    ·refine Tot.b8 (λak=>?_) (λ_=>.az λh=>by cases h);exact .aK (Ξ:=λ_=>True) (Tot.oi ⟨ab.1,ak⟩ trivial) λ_ _=>.az λ_=>ak
    ·have:=aa ak;have iN:aM (ae+1)=ae+1:=by rw [dC]; omega
     rw [iN];exact .az (by show ((0:Int)<=ae+1/\ae+1<=s.size)/\ae<ae+1/\ae+1<=s.size; omega)
   ·refine .aK (t124 s i _ h ba (by simp only [fz]; omega) (by decide)) λc aa=>Tot.cE (λnO=>?_) (λ_=>.az (by omega));refine Tot.aK (Ξ:=iJ (λ_=>True) (λr=>r<=s.size)) ?_ λx J=>?_
    ·refine Tot.count (λae=>ae) (s.size+1) (λae=>0<=ae) (by show (0:Int)<=i+2; omega) (by show (s.size:Int)+1 - (i+2)<_; omega) λae ab=>?_;refine Tot.b8 (λak=>?_) (λ_=>.az trivial);have iN:aM (ae+1)=ae+1:=by rw [dC]; omega
     have qN:aM (ae+2)=ae+2:=by rw [dC]; omega
     rw [iN,qN];refine .aK (t124 s ae _ h ab (by simp only [fz]; omega) (by decide)) λc aa=>Tot.cE (λuE=>.az ?_) (λ_=>.az ?_)
     ·have:=aa uE;have pV:({ data:=#[42,47] }:ByteArray).size=2:=rfl;rw [pV] at this;show ae+2<=s.size; omega
     ·show (0:Int)<=ae+1/\ae<ae+1/\ae+1<=s.size+1; omega
    ·rcases x with _ | r
     ·exact .az (by show (-1:Int)<=s.size; omega)
     ·exact .az J
theorem t119 (s:ByteArray) (h:s.size<=fz):Tot (xk s 0) λ_=>True:=by
 unfold xk;have aF:(s.size:Int)<=1000000000000:=by simp only [fz] at h; omega
 refine Tot.aK (Ξ:=λ_=>True) ?_ λc _=>Tot.cE (λ_=>.az trivial) (λ_=>?_)
 ·refine Tot.b8 (λh=>.az trivial) (λba=>Tot.b8 (λh=>.az trivial) (λak=>?_));exact .aK (Ξ:=λ_=>True) (Tot.oi (by omega) trivial) λ_ _=>.az trivial
 ·refine Tot.aK (Ξ:=λ_=>True) ?_ λx _=>by rcases x with _ | r <;> exact .az trivial
  refine Tot.count (λae=>ae.2) s.size (λae=>0<=ae.2/\ae.2<=s.size) ⟨by show (0:Int)<=0; omega,by show (0:Int)<=s.size; omega⟩ (by show (s.size:Int) - 0<_; omega) λae ab=>?_;refine Tot.b8 (λak=>?_) (λ_=>.az trivial);refine .aK (t123 s ae.2 h ab.1 ak) λn aJ=>Tot.b8 (λ_=>.az trivial) (λaN=>Tot.b8 (λbP=>.az ?_) (λbP=>?_))
  ·show ((0:Int)<=n/\n<=s.size)/\ae.2<n/\n<=s.size; omega
  ·have uD:=Tot.oi (Φ:=λ_=>True) (s:=s) (m:=ae.2) ⟨ab.1,ak⟩ trivial;have iN:aM (ae.2+1)=ae.2+1:=by rw [dC]; omega
   rw [iN];refine .aK uD λ_ _=>.aK (Ξ:=λ_=>True) (Tot.cE (λ_=>.az trivial) (λ_=>.az trivial)) λ_ _=>.aK uD λ_ _=>.aK (Ξ:=λ_=>True) (Tot.cE (λ_=>.az trivial) (λ_=>.az trivial)) λ_ _=>Tot.cE (λ_=>.az trivial) (λ_=>.az ?_);show ((0:Int)<=ae.2+1/\ae.2+1<=s.size)/\ae.2<ae.2+1/\ae.2+1<=s.size; omega
def k5 (x:Sym):Prop:=x.Lit=true->x.Name.size=1
structure Hw (d:Decl):Prop where
 tag:d.Tag.size<=fz
 n:d.fh.length<=1000
 syms:∀ x∈d.fh,x.Name.size<=fz
structure xR (a:Alt):Prop where
 n:a.jr.length<=1000
 parts:∀ p∈a.jr,p.Sym.Name.size<=fz/\p.Code.size<=fz
 prec:a.Prec.Name.size<=fz
structure MV (r:kr):Prop where
 left:r.Left.size<=fz
 n:r.gZ.length<=1000
 alts:∀ a∈r.gZ,xR a
structure tR (s:Source):Prop where
 TF:s.bw.size<=fz
 D1:s.Decls.length<=1000
 decls:∀ d∈s.Decls,Hw d
 aT:s.e1.length<=1000
 rules:∀ r∈s.e1,MV r
theorem t116 (x:Sym) (a b:Bool) (h:x.Name.size<=fz):Tot (u9 x a b) λr=>r=true->k5 x:=by
 unfold u9;refine Tot.cE (λao=>?_) (λao=>?_)
 ·refine Tot.aK (Ξ:=λc=>c=false->x.Name.size=1) ?_ λc aa=>Tot.cE (λ_=>.az λh=>by cases h) (λak=>?_)
  ·refine Tot.cE (λ_=>.az λh=>by cases h) (λ_=>Tot.pc (λ_=>.az λh=>by cases h) (λh1=>.az λ_=>by omega))
  ·have h1:=aa ak;refine .aK (Ξ:=λ_=>True) (Tot.oi (by omega) trivial) λ_ _=>.aK (t120 _) λ_ _=>.az λ_ _=>h1
 ·have eA:k5 x:=λh=>by rw [ao] at h; cases h
  refine Tot.aK (Ξ:=λ_=>True) ?_ λc aa=>.az λ_=>eA;refine .aK (t111 _ h) λc _=>?_
  repeat' first | refine Tot.cE (λ_=>?_) (λ_=>?_) | exact Tot.az trivial
theorem t110 (d:Decl) (h:Hw d):Tot (r8 d) λr=>r=true->∀ x∈d.fh,k5 x:=by
 unfold r8;refine Tot.aK (Ξ:=λ_=>True) ?_ λc _=>Tot.cE (λ_=>.az λh=>by cases h) (λ_=>?_)
 ·have aC:=(t111 _ h.tag).use (Φ:=λ_=>True) λ_ _=>trivial
  repeat' first | refine Tot.cE (λ_=>?_) (λ_=>?_) | exact Tot.az trivial | refine .aK aC λ_ _=>?_
 ·refine Tot.aK (Tot.scan d.fh (λx=>k5 x) (λr=>r=false) (by have:=h.n; omega) (λs y ba h1 hi hm=>?_) (λs aL=>by simp [aL])) λx J=>?_
  ·refine Tot.b8 (λ_=>?_) (λh=>absurd h1 h);rw [hi];refine Tot.ax ?_;refine .aK (t116 _ _ _ (h.syms _ hm)) λc aa=>Tot.cE (λ_=>.az rfl) (λak=>.az ⟨?_,aa (by simpa using ak)⟩);have:=h.n;rw [dC]; omega
  ·rcases x with _ | r
   ·exact .az λ_=>J
   ·exact .az λh=>by have:r=false:=J; rw [this] at h; cases h
theorem t112 (a:Alt) (h:xR a):Tot (q1 a) λr=>r=true->(∀ p∈a.jr,k5 p.Sym)/\k5 a.Prec:=by
 unfold q1;refine Tot.aK (Tot.scan a.jr (λp=>k5 p.Sym) (λr=>r=false) (by have:=h.n; omega) (λs y ba h1 hi hm=>?_) (λs aL=>by simp [aL])) λx J=>?_
 ·refine Tot.b8 (λ_=>?_) (λh=>absurd h1 h);rw [hi];refine Tot.ax ?_;have aE:=h.parts _ hm;have t1:=t116 y.Sym false true aE.1;have t2:=t118 y.Sym;have Ma:=t119 y.Code aE.2;have hw:aM (s+1)=s+1:=by have:=h.n; rw [dC]; omega
  rw [hw];have n118:(y.Sym.Name={ data:=#[] }/\y.Sym.Lit=false)->k5 y.Sym:=λh ao=>by rw [h.2] at ao; cases ao
  refine Tot.aK (Ξ:=λc=>c=false->k5 y.Sym) ?_ λc aa=>Tot.cE (λ_=>.az rfl) (λak=>.az ⟨rfl,aa ak⟩);refine Tot.b8 (λ_=>?_) (λeh=>?_)
  ·refine .aK t1 λc aa=>Tot.cE (λ_=>.az λh=>by cases h) (λak=>?_);have eA:=aa (by simpa using ak);refine Tot.cE (λ_=>?_) (λ_=>.az λ_=>eA);refine .aK t2 λc _=>Tot.cE (λ_=>.az λ_=>eA) (λ_=>?_);exact .aK Ma λ_ _=>.az λ_=>eA
  ·refine Tot.pc (λ_=>?_) (λh=>.az λ_=>?_)
   ·refine .aK t2 λc aa=>Tot.cE (λ_=>.az λh=>by cases h) (λak=>?_);have eA:=n118 (aa (by simpa using ak));exact .aK Ma λ_ _=>.az λ_=>eA
   ·exact absurd h eh
 ·rcases x with _ | r
  ·have J:∀ p∈a.jr,k5 p.Sym:=J;refine Tot.aK (Ξ:=λc=>c=true->k5 a.Prec) ?_ λc aa=>.az λh=>⟨J,aa h⟩;refine .aK (t118 _) λc aa=>Tot.cE (λak=>.az λ_=>?_) (λ_=>.aK (t116 _ _ _ h.prec) λc aa=>.az aa);intro ao; rw [(aa ak).2] at ao; cases ao
  ·exact .az λh=>by have:r=false:=J; rw [this] at h; cases h
structure AJ (a:Alt):Prop where
 parts:∀ p∈a.jr,k5 p.Sym
 prec:k5 a.Prec
structure HG (s:Source):Prop where
 decls:∀ d∈s.Decls,∀ x∈d.fh,k5 x
 rules:∀ r∈s.e1,∀ a∈r.gZ,AJ a
 pos:0<s.e1.length
theorem t92 (s:Source) (h:tR s):Tot (vl s) λr=>r=true->HG s:=by
 unfold vl;refine Tot.aK (Ξ:=iJ (λ_=>True) (λr=>r=false)) ?_ λx J=>?_
 ·have aE:(s.bw.size:Int)<=1000000000000:=by have:=h.TF; simp only [fz] at this; omega
  refine Tot.count (λae=>ae) s.bw.size (λae=>0<=ae/\ae<=s.bw.size) ⟨by omega,by omega⟩ (by show (s.bw.size:Int) - 0<_; omega) λae ab=>?_;have de:aM (ae+1)=ae+1:=by rw [dC]; omega
  have cX:aM (ae+2)=ae+2:=by rw [dC]; omega
  rw [de,cX];refine Tot.b8 (λak=>?_) (λ_=>.az trivial);refine .aK (Ξ:=λ_=>True) (Tot.cut (by omega) trivial) λ_ _=>Tot.cE (λ_=>.az rfl) (λ_=>.az ?_);show ((0:Int)<=ae+1/\ae+1<=s.bw.size)/\ae<ae+1/\ae+1<=s.bw.size; omega
 ·rcases x with _ | r
  ·refine Tot.aK (Tot.scan s.Decls (λd=>∀ x∈d.fh,k5 x) (λr=>r=false) (by have:=h.D1; omega) (λi y ba h1 hi hm=>?_) (λs aL=>by simp [aL])) λx J=>?_
   ·refine Tot.b8 (λ_=>?_) (λh=>absurd h1 h);rw [hi];refine Tot.ax ?_;refine .aK (t110 _ (h.decls _ hm)) λc aa=>Tot.cE (λ_=>.az rfl) (λak=>.az ⟨?_,aa (by simpa using ak)⟩);have:=h.D1;rw [dC]; omega
   ·rcases x with _ | r
    ·have J:∀ d∈s.Decls,∀ x∈d.fh,k5 x:=J;refine Tot.aK (Tot.scan s.e1 (λr=>∀ a∈r.gZ,AJ a) (λr=>r=false) (by have:=h.aT; omega) (λi y ba h1 hi hm=>?_) (λs aL=>by simp [aL])) λx hM=>?_
     ·refine Tot.b8 (λ_=>?_) (λh=>absurd h1 h);rw [hi];refine Tot.ax ?_;have av:=h.rules _ hm;have hw:aM (i+1)=i+1:=by have:=h.aT; rw [dC]; omega
      rw [hw];refine .aK (Ξ:=λ_=>True) (.aK (t111 _ av.left) λc _=>Tot.cE (λ_=>.az trivial) (λ_=>.az trivial)) λc _=>Tot.cE (λ_=>.az rfl) (λ_=>?_);refine Tot.aK (Tot.scan y.gZ AJ (λr=>r=false) (by have:=av.n; omega) (λk a ba h1 hi hm=>?_) (λs aL=>by simp [aL])) λx h_=>?_
      ·refine Tot.b8 (λ_=>?_) (λh=>absurd h1 h);rw [hi];refine Tot.ax ?_;refine .aK (t112 _ (av.alts _ hm)) λc aa=>Tot.cE (λ_=>.az rfl) (λak=>.az ⟨?_,⟨(aa (by simpa using ak)).1,(aa (by simpa using ak)).2⟩⟩);have:=av.n;rw [dC]; omega
      ·rcases x with _ | r
       ·exact .az ⟨rfl,h_⟩
       ·exact .az h_
     ·rcases x with _ | r
      ·exact .az λh=>⟨J,hM,by have:=of_decide_eq_true h; omega⟩
      ·exact .az λh=>by have:r=false:=hM; rw [this] at h; cases h
    ·exact .az λh=>by have:r=false:=J; rw [this] at h; cases h
  ·exact .az λh=>by have:r=false:=J; rw [this] at h; cases h
abbrev ix:=cC
structure rv (m b6:ix):Prop where
 g:b6.aq=m.aq
 h6:b6.bT=m.bT
 ty:b6.bN=m.bN
 gY:b6.bA=m.bA
 iX:b6.bO=m.bO
 gX:b6.bx=m.bx
theorem t94 (m:ix) (a:Int) (n:ByteArray):Tot (mR m a n) λb6=>rv m b6/\b6.b'≠0:=by
 unfold mR;apply Tot.bi;refine Tot.b8 (λ_=>.az (.az ⟨⟨rfl,rfl,rfl,rfl,rfl,rfl⟩,?_⟩)) (λh=>.az (.az ⟨⟨rfl,rfl,rfl,rfl,rfl,rfl⟩,h⟩));show (3:Int)≠0; decide
theorem t98 (m:ix) (n:ByteArray) (h:m.bN.length<=fz):Tot (xv m n) λr=>r=-1\/(0<=r/\r<m.bN.length):=by
 unfold xv;simp only [fz] at h;refine Tot.aK (Tot.scan m.bN (λ_=>True) (λr:Int=>0<=r/\r<m.bN.length) (by omega) (λs y ba h1 hi hm=>?_) (λs aL=>by simp [aL])) λx J=>?_
 ·refine Tot.b8 (λ_=>?_) (λh=>absurd h1 h);rw [hi];refine Tot.ax ?_;refine Tot.cE (λ_=>.az ⟨ba,h1⟩) (λ_=>.az ⟨?_,trivial⟩);rw [dC]; omega
 ·rcases x with _ | r
  ·exact .az (.inl rfl)
  ·exact .az (.inr J)
theorem t96 (m:ix) (n:ByteArray) (h:m.bA.length<=fz):Tot (pD m n) λr=>(r=-1/\∀ x∈m.bA,x≠n)\/(0<=r/\r<m.bA.length/\m.bA[r.toNat]?=some n):=by
 unfold pD;simp only [fz] at h;refine Tot.aK (Tot.scan m.bA (λx=>x≠n) (λr:Int=>0<=r/\r<m.bA.length/\m.bA[r.toNat]?=some n) (by omega) (λs y ba h1 hi hm=>?_) (λs aL=>by simp [aL])) λx J=>?_
 ·refine Tot.b8 (λ_=>?_) (λh=>absurd h1 h);rw [hi];refine Tot.ax ?_;refine Tot.b8 (λe=>.az ⟨ba,h1,by rw [<- e]; exact (pt hi).2.2⟩) (λe=>.az ⟨?_,e⟩);rw [dC]; omega
 ·rcases x with _ | r
  ·exact .az (.inl ⟨rfl,J⟩)
  ·exact .az (.inr J)
theorem t95 (m:ix) (x:Sym) (h:m.aq.aX.length<=fz):Tot (r_ m x) λr=>r=-1\/(1<=r/\r<m.aq.aX.length):=by
 unfold r_;simp only [fz] at h;refine Tot.aK (Ξ:=iJ (λ_=>True) (λr=>1<=r/\r<m.aq.aX.length)) ?_ λx J=>?_
 ·refine Tot.count (λae=>ae) m.aq.aX.length (λae=>1<=ae) (by omega) (by show (m.aq.aX.length:Int) - 1<_; omega) λae ab=>?_;refine Tot.b8 (λak=>?_) (λ_=>.az trivial);have e:aM (ae+1)=ae+1:=by rw [dC]; omega
  rw [e];refine .aK (Ξ:=λ_=>True) ?_ λc _=>Tot.cE (λ_=>.az ⟨ab,ak⟩) (λ_=>.az ?_)
  ·refine .aK (Ξ:=λ_=>True) (Tot.jK (by omega) ak λ_ _ _=>trivial) λ_ _=>Tot.cE (λ_=>?_) (λ_=>.az trivial);exact .aK (Ξ:=λ_=>True) (Tot.jK (by omega) ak λ_ _ _=>trivial) λ_ _=>Tot.cE (λ_=>.az trivial) (λ_=>.az trivial)
  ·show (1:Int)<=ae+1/\ae<ae+1/\ae+1<=m.aq.aX.length; omega
 ·rcases x with _ | r
  ·exact .az (.inl rfl)
  ·exact .az (.inr J)
theorem t114 (m:ix) (n:Int) (h:m.aq.aX.length<=fz):Tot (xj m n) λ_=>True:=by
 unfold xj;simp only [fz] at h;refine Tot.aK (Ξ:=λ_=>True) ?_ λx J=>?_
 ·refine Tot.count (λae=>ae) m.aq.aX.length (λae=>1<=ae) (by decide) (by show (m.aq.aX.length:Int) - 3<_; omega) λae ab=>?_;refine Tot.b8 (λak=>?_) (λ_=>.az trivial);have e:aM (ae+1)=ae+1:=by rw [dC]; omega
  rw [e];refine .aK (Ξ:=λ_=>True) (Tot.jK (by omega) ak λ_ _ _=>trivial) λc _=>Tot.cE (λ_=>.az trivial) (λ_=>.az ?_);show (1:Int)<=ae+1/\ae<ae+1/\ae+1<=m.aq.aX.length; omega
 ·rcases x with _ | r <;> exact .az trivial
structure Grow (m b6:ix) (k:Nat):Prop where
 h6:b6.bT.length=b6.aq.aX.length
 lo:m.aq.aX.length<=b6.aq.aX.length
 hi:b6.aq.aX.length<=m.aq.aX.length+k
 ty:b6.bN.length<=m.bN.length+k
 gY:b6.bA=m.bA
 gu:b6.aq.aW=m.aq.aW
 gX:b6.bx=m.bx
 lvl:b6.bO=m.bO
 iX:0<=m.bO->(∀ t∈m.aq.aX,0<=t.Level)->∀ t∈b6.aq.aX,0<=t.Level
theorem rv.grow {m b6:ix}(h:rv m b6) (aY:m.bT.length=m.aq.aX.length) (k:Nat):Grow m b6 k:=by
 obtain ⟨h1,ak,aN,bP,cZ,dv⟩:=h;exact ⟨by rw [h1,ak]; exact aY,by rw [h1]; omega,by rw [h1]; omega,by rw [aN]; omega,bP,by rw [h1],dv,cZ,by rw [h1]; exact λ_ h=>h⟩
theorem t113 (m:ix) (x:Sym) (aY:m.bT.length=m.aq.aX.length) (h:m.aq.aX.length<=100000000000) (J:k5 x) :
  Tot (xi m x) λr=>Grow m r.2 1/\0<=r.1/\r.1<r.2.aq.aX.length:=by
 unfold xi;refine .aK (t95 m x (by simp only [fz]; omega)) λt aC=>Tot.b8 (λba=>.az ⟨⟨aY,Nat.le_refl _,Nat.le_succ _,Nat.le_succ _,rfl,rfl,rfl,rfl,λ_ h=>h⟩,ba,?_⟩) (λ_=>?_)
 ·rcases aC with rfl | aC
  ·exact absurd ba (by decide)
  ·exact aC.2
 ·refine Tot.aK (Ξ:=λae=>rv m ae.1) ?_ λae ab=>?_
  ·refine Tot.cE (λao=>?_) (λ_=>.az ⟨rfl,rfl,rfl,rfl,rfl,rfl⟩);have:=J ao;refine .aK (Ξ:=λ_=>True) (Tot.oi (by omega) trivial) λb _=>.aK (t114 m _ (by simp only [fz]; omega)) λo _=>?_;refine Tot.aK (Ξ:=λae=>rv m ae) ?_ λae ab=>.az ab;exact Tot.cE (λ_=>.aK (t94 m _ _) λb6 hm=>.az hm.1) (λ_=>.az ⟨rfl,rfl,rfl,rfl,rfl,rfl⟩)
  ·obtain ⟨h1,ak,aN,bP,cZ,dv⟩:=ab;have a8:ae.1.aq.aX.length=m.aq.aX.length:=by rw [h1]
   have Ka:ae.1.bT.length=m.bT.length:=by rw [ak]
   refine .aK (Ξ:=λ_=>True) (Tot.ap (by rw [a8]; simp [lim]; omega) trivial) λ_ _=>.aK (Ξ:=λ_=>True) (Tot.ap (by rw [Ka]; simp [lim]; omega) trivial) λ_ _=>.az ?_;refine ⟨⟨?_,?_,?_,?_,bP,by show ae.1.aq.aW=_; rw [h1],dv,cZ,?_⟩,?_,?_⟩
   ·show (ae.1.bT++[x.Lit]).length=(ae.1.aq.aX++[_]).length;simp [a8,Ka,aY]
   ·show _<=(ae.1.aq.aX++[_]).length;simp [a8]
   ·show (ae.1.aq.aX++[_]).length<=_;simp [a8]
   ·show ae.1.bN.length<=_;rw [aN]; omega
   ·intro _ ao t aC;rcases List.mem_append.1 aC with aC | aC
    ·rw [h1] at aC; exact ao t aC
    ·rw [List.mem_singleton.1 aC]; exact Int.le_refl 0
   ·show 0<=aM (((ae.1.aq.aX++[_]).length:Int) - 1);rw [dC]; simp [a8]; omega
   ·show aM (((ae.1.aq.aX++[_]).length:Int) - 1)<((ae.1.aq.aX++[_]).length:Int);rw [dC]; simp [a8]; omega
structure mG (m b6:ix):Prop where
 tk:b6.aq.aX.length=m.aq.aX.length
 h6:b6.bT.length=m.bT.length
 ty:b6.bN=m.bN
 gY:b6.bA=m.bA
 gu:b6.aq.aW=m.aq.aW
 gX:b6.bx=m.bx
 lvl:b6.bO=m.bO
 iX:0<=m.bO->(∀ t∈m.aq.aX,0<=t.Level)->∀ t∈b6.aq.aX,0<=t.Level
theorem mG.refl (m:ix):mG m m:=⟨rfl,rfl,rfl,rfl,rfl,rfl,rfl,λ_ h=>h⟩
theorem mG.trans {m b6 zA:ix}(h:mG m b6) (aR:mG b6 zA):mG m zA:=⟨aR.tk.trans h.tk,aR.h6.trans h.h6,aR.ty.trans h.ty,aR.gY.trans h.gY,aR.gu.trans h.gu,aR.gX.trans h.gX,aR.lvl.trans h.lvl,λba ao=>aR.iX (by rw [h.lvl]; exact ba) (h.iX ba ao)⟩
theorem rv.tk {m b6:ix}(h:rv m b6):mG m b6:=⟨by rw [h.g],by rw [h.h6],h.ty,h.gY,by rw [h.g],h.gX,h.iX,by rw [h.g]; exact λ_ h=>h⟩
theorem Grow.tk {m b6 zA:ix}{k:Nat}(h:Grow m b6 k) (aR:mG b6 zA):Grow m zA k :=
 ⟨by rw [aR.h6,aR.tk]; exact h.h6,by rw [aR.tk]; exact h.lo,by rw [aR.tk]; exact h.hi,by rw [aR.ty]; exact h.ty,aR.gY.trans h.gY,aR.gu.trans h.gu,aR.gX.trans h.gX,aR.lvl.trans h.lvl,λba ao=>aR.iX (by rw [h.lvl]; exact ba) (h.iX ba ao)⟩
theorem zB {α:Type}{l:List α}{i:Nat}{x y:α}(h:y∈l.set i x):y∈l\/y=x:=List.mem_or_eq_of_mem_set h
theorem t93 (m:ix) (d:Decl) (x:Sym) (aY:m.bT.length=m.aq.aX.length) (h:m.aq.aX.length<=100000000000) (aC:m.bN.length<=100000000000) (J:k5 x) :
  Tot (vm m d x) λb6=>Grow m b6 1:=by
 unfold vm;refine Tot.cE (λ_=>?_) (λ_=>?_)
 ·refine .aK (t98 m x.Name (by simp only [fz]; omega)) λk hk=>Tot.aK (Ξ:=λb6=>Grow m b6 1) ?_ λb6 hm=>.az hm;refine Tot.b8 (λ_=>?_) (λba=>?_)
  ·refine .aK (Ξ:=λ_=>True) (Tot.ap (by simp [lim]; omega) trivial) λ_ _=>.az ⟨aY,Nat.le_refl _,Nat.le_succ _,?_,rfl,rfl,rfl,rfl,λ_ h=>h⟩;show (m.bN++[_]).length<=_;simp
  ·refine .aK (Ξ:=λ_=>True) (Tot.jK (by omega) (by omega) λ_ _ _=>trivial) λ_ _=>Tot.aK (Ξ:=λb6=>Grow m b6 1) ?_ λb6 hm=>.az hm;exact Tot.cE (λ_=>.aK (t94 m _ _) λb6 hm=>.az (hm.1.grow aY 1)) (λ_=>.az ⟨aY,Nat.le_refl _,Nat.le_succ _,Nat.le_succ _,rfl,rfl,rfl,rfl,λ_ h=>h⟩)
 ·refine .aK (t113 m x aY h J) λr ⟨av,ba,h1⟩=>?_;have jK:∀ {b6:ix},mG r.2 b6->Tot (idx b6.aq.aX r.1) λy=>y∈b6.aq.aX:=λhm=>Tot.jK ba (by rw [hm.tk]; exact h1) λ_ _ h=>h;have KQ:∀ {b6:ix},mG r.2 b6->Tot (idx b6.bT r.1) λ_=>True:=λhm=>Tot.jK ba (by rw [hm.h6,av.h6]; exact h1) λ_ _ _=>trivial;refine .aK (jK (.refl _)) λy _=>?_;refine Tot.aK (Ξ:=λb6=>mG r.2 b6) ?_ λfq wH=>?_
  ·refine Tot.cE (λ_=>?_) (λ_=>.az (.refl _));refine Tot.aK (Ξ:=λb6=>mG r.2 b6) ?_ λdc yE=>?_
   ·exact Tot.cE (λ_=>.aK (t94 r.2 _ _) λb6 hm=>.az ⟨rfl,hm.1.tk.h6,hm.1.tk.ty,hm.1.tk.gY,hm.1.tk.gu,hm.1.tk.gX,hm.1.tk.lvl,λ_ h=>h⟩) (λ_=>.az (.refl _))
   ·refine .aK (jK yE) λ_ _=>.az (yE.trans ⟨?_,rfl,rfl,rfl,rfl,rfl,rfl,λao aC t b_=>?_⟩)
    ·show ((dc.aq.aX.set _ _).set _ _).length=_;simp
    ·rcases zB b_ with b_ | rfl
     ·rcases zB b_ with b_ | rfl
      ·exact aC t b_
      ·exact ao
     ·exact ao
  ·refine .aK (jK wH) λ_ _=>?_;refine Tot.aK (Ξ:=λb6=>mG r.2 b6) ?_ λfx BM=>?_
   ·refine Tot.cE (λ_=>?_) (λ_=>.az wH);refine .aK (Ξ:=λ_=>True) ?_ λc _=>?_
    ·refine Tot.cE (λ_=>.az trivial) (λ_=>.aK (KQ wH) λ_ _=>Tot.cE (λ_=>.az trivial) (λ_=>.aK (t114 fq _ ?_) λ_ _=>.az trivial));have:=wH.tk; have:=av.hi; simp only [fz]; omega
    ·refine Tot.aK (Ξ:=λb6=>mG r.2 b6) ?_ λdZ Ek=>?_
     ·exact Tot.cE (λ_=>.aK (t94 fq _ _) λb6 hm=>.az (wH.trans ⟨rfl,hm.1.tk.h6,hm.1.tk.ty,hm.1.tk.gY,hm.1.tk.gu,hm.1.tk.gX,hm.1.tk.lvl,λ_ h=>h⟩)) (λ_=>.az wH)
     ·refine .aK (jK Ek) λy ay=>.aK (KQ Ek) λ_ _=>.az (Ek.trans ⟨?_,?_,rfl,rfl,rfl,rfl,rfl,λao aC t b_=>?_⟩)
      ·show (dZ.aq.aX.set _ _).length=_; simp
      ·show (dZ.bT.set _ _).length=_; simp
      ·rcases zB b_ with b_ | rfl
       ·exact aC t b_
       ·exact (aC y ay:0<=y.Level)
   ·refine .aK (jK BM) λ_ _=>?_;refine Tot.aK (Ξ:=λb6=>mG r.2 b6) ?_ λnX P4=>.az (av.tk P4);refine Tot.cE (λ_=>?_) (λ_=>.az BM);refine .aK (Ξ:=λ_=>True) (Tot.cE (λ_=>.az trivial) (λ_=>.az trivial)) λc _=>?_;refine Tot.aK (Ξ:=λb6=>mG r.2 b6) ?_ λgi Jt=>?_
    ·exact Tot.cE (λ_=>.aK (t94 fx _ _) λb6 hm=>.az (BM.trans ⟨rfl,hm.1.tk.h6,hm.1.tk.ty,hm.1.tk.gY,hm.1.tk.gu,hm.1.tk.gX,hm.1.tk.lvl,λ_ h=>h⟩)) (λ_=>.az BM)
    ·refine .aK (jK Jt) λy ay=>.az (Jt.trans ⟨?_,rfl,rfl,rfl,rfl,rfl,rfl,λao aC t b_=>?_⟩)
     ·show (gi.aq.aX.set _ _).length=_; simp
     ·rcases zB b_ with b_ | rfl
      ·exact aC t b_
      ·exact (aC y ay:0<=y.Level)
def o8 (T:Nat) (N:Int) (s:Int):Prop:=(0<=s/\s<T)\/(1000<=s/\s<=1000+N)
theorem o8.mono {T T':Nat}{N iK s:Int}(h:o8 T N s) (fv:T<=T') (bU:N<=iK):o8 T' iK s:=by
 rcases h with h | h
 ·exact .inl (by omega)
 ·exact .inr (by omega)
theorem t115 (m:ix) (x:Sym) (aY:m.bT.length=m.aq.aX.length) (aN:3<=m.aq.aX.length) (h:m.aq.aX.length<=100000000000) (ao:m.bA.length<=100000000000) (J:k5 x) :
  Tot (tr m x) λr=>Grow m r.2 1/\o8 r.2.aq.aX.length m.bA.length r.1:=by
 unfold tr;have p3:Grow m m 1:=⟨aY,Nat.le_refl _,Nat.le_succ _,Nat.le_succ _,rfl,rfl,rfl,rfl,λ_ h=>h⟩;refine Tot.cE (λ_=>?_) (λ_=>?_)
 ·exact .aK (t113 m x aY h J) λr ⟨av,ba,h1⟩=>.az ⟨av,.inl ⟨ba,h1⟩⟩
 ·refine .aK (t96 m x.Name (by simp only [fz]; omega)) λk hk=>Tot.b8 (λba=>.az ⟨p3,.inr ?_⟩) (λ_=>?_)
  ·show 1000<=aM (1001+k)/\aM (1001+k)<=1000+(m.bA.length:Int);rw [dC];rcases hk with hk | hk <;> omega
  ·refine .aK (t95 m x (by simp only [fz]; omega)) λt aC=>Tot.b8 (λ_=>?_) (λba=>.az ⟨p3,.inl ?_⟩)
   ·refine .aK (t94 m _ _) λb6 hm=>.az ⟨hm.1.grow aY 1,.inl ⟨Int.le_refl 0,?_⟩⟩;show (0:Int)<(b6.aq.aX.length:Int);rw [hm.1.g]; omega
   ·show 0<=t/\t<(m.aq.aX.length:Int);rcases aC with aC | aC <;> omega
theorem Uw (m:ix) (x:Sym) (aY:m.bT.length=m.aq.aX.length) (aN:3<=m.aq.aX.length) (h:m.aq.aX.length<=100000000000) (ao:m.bA.length<=100000000000) (J:k5 x) (aC:x.Lit=true\/∀ y∈m.bA,y≠x.Name) :
  Tot (tr m x) λr=>Grow m r.2 1/\0<=r.1/\r.1<r.2.aq.aX.length:=by
 unfold tr;have p3:Grow m m 1:=⟨aY,Nat.le_refl _,Nat.le_succ _,Nat.le_succ _,rfl,rfl,rfl,rfl,λ_ h=>h⟩;refine Tot.cE (λ_=>?_) (λRC=>?_)
 ·exact .aK (t113 m x aY h J) λr ⟨av,ba,h1⟩=>.az ⟨av,ba,h1⟩
 ·have aC:∀ y∈m.bA,y≠x.Name:=aC.resolve_left (by rw [RC]; decide);refine .aK (t96 m x.Name (by simp only [fz]; omega)) λk hk=>Tot.b8 (λba=>?_) (λ_=>?_)
  ·rcases hk with ⟨rfl,_⟩ | ⟨h1,ak,aN⟩
   ·exact absurd ba (by decide)
   ·exact absurd rfl (aC _ (List.mem_of_getElem? aN))
  ·refine .aK (t95 m x (by simp only [fz]; omega)) λt aC=>Tot.b8 (λ_=>?_) (λba=>.az ⟨p3,?_⟩)
   ·refine .aK (t94 m _ _) λb6 hm=>.az ⟨hm.1.grow aY 1,Int.le_refl 0,?_⟩;show (0:Int)<(b6.aq.aX.length:Int);rw [hm.1.g]; omega
   ·show 0<=t/\t<(m.aq.aX.length:Int);rcases aC with aC | aC <;> omega
structure xY (T:Nat) (N:Int) (p:Prod):Prop where
 left:0<=p.Left/\p.Left<=N
 right:∀ s∈p.e7,o8 T N s
 prec:-1<=p.Prec/\p.Prec<T
theorem xY.mono {T T':Nat}{N iK:Int}{p:Prod}(h:xY T N p) (fv:T<=T') (bU:N<=iK):xY T' iK p :=
 ⟨⟨h.left.1,by have:=h.left.2; omega⟩,λs aL=>(h.right s aL).mono fv bU,⟨h.prec.1,by have:=h.prec.2; omega⟩⟩
structure kq (m:ix) (T L I Q:Nat):Prop where
 h6:m.bT.length=m.aq.aX.length
 lo:3<=m.aq.aX.length
 hi:m.aq.aX.length<=T
 ty:m.bN.length<=T
 gY:m.bA.length=L
 gX:0<=m.bx/\m.bx<=I
 xw:m.aq.aW.length<=Q
 gu:∀ p∈m.aq.aW,xY m.aq.aX.length (L+m.bx) p
 lvl:0<=m.bO
 iX:∀ t∈m.aq.aX,0<=t.Level
theorem kq.mono {m:ix}{T L I Q T' I' HE:Nat}(h:kq m T L I Q) (fv:T<=T') (bp:I<=I') (dK:Q<=HE):kq m T' L I' HE :=
 ⟨h.h6,h.lo,by have:=h.hi; omega,by have:=h.ty; omega,h.gY,⟨h.gX.1,by have:=h.gX.2; omega⟩,by have:=h.xw; omega,h.gu,h.lvl,h.iX⟩
theorem kq.grow {m b6:ix}{T L I Q k:Nat}(h:kq m T L I Q) (g:Grow m b6 k):kq b6 (T+k) L I Q :=
 ⟨g.h6,by have:=h.lo; have:=g.lo; omega,by have:=h.hi; have:=g.hi; omega,by have:=h.ty; have:=g.ty; omega,by rw [g.gY]; exact h.gY,by rw [g.gX]; exact h.gX,by rw [g.gu]; exact h.xw,
  by rw [g.gu,g.gX]; exact λp aE=>(h.gu p aE).mono g.lo (by omega),by rw [g.lvl]; exact h.lvl,g.iX h.lvl h.iX⟩
theorem t97 (m:ix) (left:ByteArray) (a:Alt) {T L I Q:Nat}(hm:kq m T L I Q) (fv:T<=10000000000) (jw:L<=10000000000) (bp:I<=10000000000) (dK:Q<=10000000000) (aF:xR a) (eA:AJ a) :
  Tot (q4 m left a) λb6=>kq b6 (T+1001) L (I+1000) (Q+1001)/\1<=b6.aq.aW.length:=by
 unfold q4;have aJ:=aF.n;refine .aK (t96 m left (by rw [hm.gY]; simp only [fz]; omega)) λaH fA=>?_;have V7:-1<=aH/\aH<L:=by rw [<- hm.gY]; rcases fA with h | h <;> omega
 refine Tot.aK (Ξ:=λa6=>kq a6.1 (T+1000) L (I+1000) (Q+1000)/\(∀ s∈a6.2.1,o8 a6.1.aq.aX.length (L+a6.1.bx) s)/\a6.2.1.length<=1000) ?_ λa6 h_=>?_
 ·refine Tot.count (λs=>s.2.2.2.2) a.jr.length (λs=>0<=s.2.2.2.2/\s.2.2.2.2<=a.jr.length/\kq s.1 (T+s.2.2.2.2.toNat) L (I+s.2.2.2.2.toNat) (Q+s.2.2.2.2.toNat)/\(∀ y∈s.2.1,o8 s.1.aq.aX.length (L+s.1.bx) y)/\s.2.1.length<=s.2.2.2.2.toNat) ⟨by show (0:Int)<=0; omega,by show (0:Int)<=_; omega,hm,by simp,Nat.le_refl 0⟩ (by show (a.jr.length:Int) - 0<_; omega) λs aL=>?_;obtain ⟨m1,rt,cE,at_,i⟩:=s;obtain ⟨ba,h1,ab,av,ao⟩:=aL;simp only at ba h1 ab av ao ⊢;have hw:aM (i+1)=i+1:=by rw [dC]; omega
  have de:(i+1).toNat=i.toNat+1:=by omega
  refine Tot.b8 (λa8=>?_) (λ_=>.az ⟨ab.mono (by omega) (by omega) (by omega),av,by show rt.length<=1000; omega⟩);refine Tot.aK (Ξ:=λae=>kq ae.1 (T+(i.toNat+1)) L (I+(i.toNat+1)) (Q+(i.toNat+1))/\(∀ y∈ae.2.1,o8 ae.1.aq.aX.length (L+ae.1.bx) y)/\ae.2.1.length<=i.toNat+1) ?_ λae E6=>?_
  ·refine Tot.aK (Tot.jK (Φ:=λy=>y∈a.jr) ba a8 λy _ ay=>ay) λy ay=>?_;refine Tot.aK (Ξ:=λae=>kq ae.1 (T+(i.toNat+1)) L (I+(i.toNat+1)) (Q+(i.toNat+1))/\(∀ y∈ae.2.1,o8 ae.1.aq.aX.length (L+ae.1.bx) y)/\ae.2.1.length<=i.toNat+1) ?_ λae E7=>.az E7;refine Tot.aK (Ξ:=λae=>kq ae.1 (T+(i.toNat+1)) L (I+(i.toNat+1)) (Q+(i.toNat+1))/\(∀ y∈ae.2.1,o8 ae.1.aq.aX.length (L+ae.1.bx) y)/\ae.2.1.length<=i.toNat+1) ?_ λae E7=>.az E7;refine Tot.cE (λ_=>?_) (λ_=>?_)
   ·have b_:=ab.hi;refine .aK (t115 m1 y.Sym ab.h6 ab.lo (by omega) (by rw [ab.gY]; omega) (eA.parts y ay)) λr ⟨aY,Ku⟩=>?_;refine .aK (Ξ:=λ_=>True) (Tot.ap (by simp [lim]; omega) trivial) λ_ _=>.az ⟨(ab.grow aY).mono (by omega) (by omega) (by omega),λz bB=>?_,by simp; omega⟩;rcases List.mem_append.1 bB with bB | bB
    ·exact (av z bB).mono aY.lo (by show (L:Int)+m1.bx<=L+r.2.bx; rw [aY.gX]; omega)
    ·rw [List.mem_singleton.1 bB];rw [ab.gY] at Ku;exact Ku.mono (Nat.le_refl _) (by show (L:Int)<=L+r.2.bx; rw [aY.gX]; have:=ab.gX.1; omega)
   ·refine Tot.aK (Ξ:=λae=>kq (⟨(⟨m1.aq.aX,m1.aq.bt,ae.1,m1.aq.bw,m1.aq.bz⟩:bR),m1.bT,m1.bN,m1.bA,m1.b',m1.cb,m1.ca,m1.bO,ae.2.1⟩:cC) (T+(i.toNat+1)) L (I+(i.toNat+1)) (Q+(i.toNat+1))/\(∀ y∈ae.2.2.1,o8 m1.aq.aX.length (L+ae.2.1) y)/\ae.2.2.1.length<=i.toNat+1) ?_ λae Rt=>.az Rt;refine Tot.cE (λ_=>.az ⟨⟨ab.h6,ab.lo,by have:=ab.hi; show m1.aq.aX.length<=_; omega,by have:=ab.ty; show m1.bN.length<=_; omega,ab.gY,⟨ab.gX.1,by have:=ab.gX.2; show m1.bx<=_; omega⟩,by have:=ab.xw; show m1.aq.aW.length<=_; omega,ab.gu,ab.lvl,ab.iX⟩,av,by show rt.length<=_; omega⟩) (λ_=>?_);have B1:=ab.gX;have wP:=ab.gY;have y8:=ab.xw;have jm:aM (m1.bx+1)=m1.bx+1:=by rw [dC]; omega
    have hZ:aM (((m1.bA.length:Int))+(m1.bx+1))=L+(m1.bx+1):=by rw [dC,wP]; omega
    have UO:aM (1000+(m1.bA.length:Int))=1000+L:=by rw [dC,wP]; omega
    have UP:aM (1000+(L:Int)+(m1.bx+1))=1000+(L:Int)+(m1.bx+1):=by rw [dC]; omega
    rw [jm,hZ,UO,UP];refine .aK (Ξ:=λ_=>True) (Tot.ap (by simp [lim]; omega) trivial) λ_ _=>.aK (Ξ:=λ_=>True) (Tot.ap (by simp [lim]; omega) trivial) λ_ _=>.aK (Ξ:=λ_=>True) (Tot.ap (by simp [lim]; omega) trivial) λ_ _=>.az ⟨⟨ab.h6,ab.lo,?_,?_,ab.gY,?_,?_,?_,ab.lvl,ab.iX⟩,?_,?_⟩
    ·have:=ab.hi; show m1.aq.aX.length<=_; omega
    ·have:=ab.ty; show m1.bN.length<=_; omega
    ·show 0<=m1.bx+1/\m1.bx+1<=((I+(i.toNat+1):Nat):Int); omega
    ·show (m1.aq.aW++[_]).length<=_; simp; omega
    ·intro p aE;rcases List.mem_append.1 aE with aE | aE
     ·exact (ab.gu p aE).mono (Nat.le_refl _) (by show (L:Int)+m1.bx<=L+(m1.bx+1); omega)
     ·rw [List.mem_singleton.1 aE];refine ⟨?_,by simp,?_⟩
      ·show 0<=(L:Int)+(m1.bx+1)/\(L:Int)+(m1.bx+1)<=L+(m1.bx+1); omega
      ·have:=ab.lo; show (-1:Int)<=-1/\(-1:Int)<(m1.aq.aX.length:Int); omega
    ·intro z bB;rcases List.mem_append.1 bB with bB | bB
     ·exact (av z bB).mono (Nat.le_refl _) (by show (L:Int)+m1.bx<=L+(m1.bx+1); omega)
     ·rw [List.mem_singleton.1 bB];exact .inr (by show 1000<=1000+(L:Int)+(m1.bx+1)/\1000+(L:Int)+(m1.bx+1)<=1000+((L:Int)+(m1.bx+1)); omega)
    ·show (rt++[_]).length<=_; simp; omega
  ·rw [hw];refine .az ⟨⟨?_,?_,?_,E6.2.1,?_⟩,?_,?_⟩
   ·show (0:Int)<=i+1; omega
   ·show i+1<=(a.jr.length:Int); omega
   ·show kq ae.1 (T+(i+1).toNat) L (I+(i+1).toNat) (Q+(i+1).toNat);rw [de]; exact E6.1
   ·show ae.2.1.length<=(i+1).toNat;rw [de]; exact E6.2.2
   ·show i<i+1; omega
   ·show i+1<=(a.jr.length:Int); omega
 ·obtain ⟨ab,av,ao⟩:=h_;have l0:=ab.lo;have B1:=ab.gX;refine Tot.aK (Ξ:=λp=>-1<=p/\p<(a6.1.aq.aX.length:Int)) ?_ λgu Fu=>?_
  ·refine Tot.count (λs=>s.2) a6.2.1.length (λs=>0<=s.2/\s.2<=a6.2.1.length/\-1<=s.1/\s.1<(a6.1.aq.aX.length:Int)) ⟨by show (0:Int)<=0; omega,by show (0:Int)<=_; omega,by show (-1:Int)<=-1; omega,by show (-1:Int)<_; omega⟩ (by show (a6.2.1.length:Int) - 0<_; omega) λs aL=>?_;obtain ⟨ba,h1,ak,aN⟩:=aL;have hw:aM (s.2+1)=s.2+1:=by rw [dC]; omega
   rw [hw];refine Tot.b8 (λa8=>?_) (λ_=>.az ⟨ak,aN⟩);refine Tot.aK (Ξ:=λp=>-1<=p/\p<(a6.1.aq.aX.length:Int)) ?_ λp aE=>.az ⟨⟨?_,?_,aE.1,aE.2⟩,?_,?_⟩
   ·refine .aK (Tot.jK (Φ:=λy=>idx a6.2.1 s.2=some y/\y∈a6.2.1) ba a8 λy h1 ak=>⟨h1,ak⟩) λy ay=>?_;refine .aK (Ξ:=λp=>-1<=p/\p<(a6.1.aq.aX.length:Int)) ?_ λp aE=>.az aE;refine Tot.b8 (λa8=>?_) (λ_=>.az ⟨ak,aN⟩);rw [ay.1];refine Tot.ax (.az ?_);rcases av y ay.2 with h | h
    ·omega
    ·omega
   ·show (0:Int)<=s.2+1; omega
   ·show s.2+1<=(a6.2.1.length:Int); omega
   ·show s.2<s.2+1; omega
   ·show s.2+1<=(a6.2.1.length:Int); omega
  ·refine Tot.aK (Ξ:=λae=>Grow a6.1 ae.1 1/\-1<=ae.2/\ae.2<(ae.1.aq.aX.length:Int)) ?_ λae B2=>?_
   ·have p3:Grow a6.1 a6.1 1:=⟨ab.h6,Nat.le_refl _,Nat.le_succ _,Nat.le_succ _,rfl,rfl,rfl,rfl,λ_ h=>h⟩;refine Tot.cE (λ_=>?_) (λ_=>.az ⟨p3,Fu⟩);refine Tot.aK (Ξ:=λc=>c=true->a.Prec.Lit=true\/∀ y∈a6.1.bA,y≠a.Prec.Name) ?_ λc aa=>?_
    ·refine Tot.cE (λh=>.az λ_=>.inl h) (λ_=>?_);refine .aK (t96 a6.1 a.Prec.Name (by rw [ab.gY]; simp only [fz]; omega)) λk hk=>.az λa8=>?_;have a8:=of_decide_eq_true a8;rcases hk with ⟨_,h⟩ | h
     ·exact .inr h
     ·omega
    ·refine Tot.aK (Ξ:=λae=>Grow a6.1 ae.1 1/\-1<=ae.2/\ae.2<(ae.1.aq.aX.length:Int)) ?_ λae ab=>.az ab;have b_:=ab.hi;refine Tot.cE (λh=>?_) (λ_=>?_)
     ·refine .aK (Uw a6.1 a.Prec ab.h6 ab.lo (by omega) (by rw [ab.gY]; omega) eA.prec (aa h)) λr av=>.az ⟨av.1,?_,av.2.2⟩;have:=av.2.1; show -1<=r.1; omega
     ·refine .aK (t94 a6.1 _ _) λb6 j5=>.az ⟨j5.1.grow ab.h6 1,by show (-1:Int)<=-1; omega,?_⟩;show (-1:Int)<(b6.aq.aX.length:Int); omega
   ·have j5:=ab.grow B2.1;have y8:=j5.xw;refine .aK (Ξ:=λ_=>True) (Tot.ap (by simp [lim]; omega) trivial) λ_ _=>.aK (Ξ:=λ_=>True) (Tot.ap (by simp [lim]; omega) trivial) λ_ _=>.az ⟨⟨j5.h6,j5.lo,?_,?_,j5.gY,⟨j5.gX.1,?_⟩,?_,?_,j5.lvl,j5.iX⟩,by simp⟩
    ·have:=j5.hi; show ae.1.aq.aX.length<=_; omega
    ·have:=j5.ty; show ae.1.bN.length<=_; omega
    ·have:=j5.gX.2; show ae.1.bx<=_; omega
    ·show (ae.1.aq.aW++[_]).length<=_; simp; omega
    ·intro p aE;rcases List.mem_append.1 aE with aE | aE
     ·exact j5.gu p aE
     ·rw [List.mem_singleton.1 aE];have VP:=j5.gX;refine ⟨?_,λz bB=>?_,B2.2⟩
      ·show 0<=aM (1+aH)/\aM (1+aH)<=(L:Int)+ae.1.bx;rw [dC]; omega
      ·exact (av z bB).mono B2.1.lo (by show (L:Int)+a6.1.bx<=L+ae.1.bx; rw [B2.1.gX]; omega)
theorem LX (l:List Int):(strOfNums l).size=l.length:=strOfNums_size ..
theorem t99 (n:Int) (ba:0<=n) (h1:n<=1000000000000):Tot (Ah n) λs=>s.size<=2000000000000:=by
 unfold Ah;have hu:IntKind.u64.wrap n=n:=by rw [IntKind.wrap_u64]; omega
 refine Tot.aK (Ξ:=λae=>ae=n) (Tot.b8 (λh=>absurd h (by omega)) (λ_=>.az hu)) λae ab=>?_;subst ab;refine Tot.aK (Ξ:=λs=>s.size<=1000000000001) ?_ λs aL=>Tot.b8 (λh=>absurd h (by omega)) (λ_=>.az (by omega));refine Tot.loop (λs=>0<=s.1/\s.1+s.2.size<=1000000000000+1/\(s.2.size=0->s.1<=1000000000000)) (λs=>s.1.toNat+(if s.2.size=0 then 1 else 0)) ⟨ba,by show ae+((0:Nat):Int)<=_; omega,λ_=>h1⟩ (by show ae.toNat+(if (0:Nat)=0 then 1 else 0)<1000000000000000000; simp; omega) λs aL=>?_
 obtain ⟨m,t⟩:=s;obtain ⟨g0,g1,g2⟩:=aL;simp only at g0 g1 g2 ⊢;refine Tot.aK (Ξ:=λc=>c=true->0<m\/t.size=0) ?_ λc aa=>Tot.cE (λnO=>?_) (λ_=>.az ?_)
 ·refine Tot.b8 (λh=>.az λ_=>.inl h) (λ_=>.az λh=>.inr ?_);have:=of_decide_eq_true h;rw [this]; rfl
 ·have aa:=aa nO;refine .aK (Ξ:=λx=>x=m.tmod 10) (Tot.se (by decide) rfl) λx J=>?_;refine .aK (Ξ:=λy=>y.size=t.size+1) (Tot.cat ?_ ?_) λy ay=>.aK (Ξ:=λz=>z=m / 10) (Tot.sb (by decide) ?_) λz bB=>.az ?_
  ·rw [LX]; simp; omega
  ·rw [ByteArray.size_append,LX]; simp; omega
  ·rw [Int.tdiv_eq_ediv_of_nonneg g0,IntKind.wrap_u64]; omega
  ·subst bB;refine ⟨⟨?_,?_,?_⟩,?_⟩
   ·show 0<=m / 10; omega
   ·show m / 10+(y.size:Int)<=_; rw [ay]; omega
   ·intro h; have h:y.size=0:=h; omega
   ·show (m / 10).toNat+(if y.size=0 then 1 else 0)<m.toNat+(if t.size=0 then 1 else 0);rw [if_neg (by omega)]
    split <;> omega
 ·show t.size<=1000000000001; omega
structure gq (g:bR):Prop where
 ir:3<=g.aX.length/\g.aX.length<=40
 hF:1<=g.bt.length/\g.bt.length<=24
 lI:1<=g.aW.length/\g.aW.length<=60
 gu:∀ p∈g.aW,xY g.aX.length (g.bt.length - 1) p
 aT:∀ p∈g.aW,p.e7.length<=8
 iX:∀ t∈g.aX,0<=t.Level
structure iw (m:ix) (T L:Nat):Prop where
 h6:m.bT.length=m.aq.aX.length
 lo:3<=m.aq.aX.length
 hi:m.aq.aX.length<=3+T
 ty:m.bN.length<=T
 gY:m.bA.length<=L
 gu:m.aq.aW=[]
 gX:m.bx=0
 lvl:0<=m.bO
 iX:∀ t∈m.aq.aX,0<=t.Level
theorem iw.mono {m:ix}{T L T' L':Nat}(h:iw m T L) (fv:T<=T') (jw:L<=L'):iw m T' L' :=
 ⟨h.h6,h.lo,by have:=h.hi; omega,by have:=h.ty; omega,by have:=h.gY; omega,h.gu,h.gX,h.lvl,h.iX⟩
theorem iw.grow {m b6:ix}{T L k:Nat}(h:iw m T L) (g:Grow m b6 k):iw b6 (T+k) L :=
 ⟨g.h6,by have:=h.lo; have:=g.lo; omega,by have:=h.hi; have:=g.hi; omega,by have:=h.ty; have:=g.ty; omega,by rw [g.gY]; exact h.gY,g.gu.trans h.gu,g.gX.trans h.gX,by rw [g.lvl]; exact h.lvl,g.iX h.lvl h.iX⟩
theorem iw.same {m b6:ix}{T L:Nat}(h:iw m T L) (g:rv m b6):iw b6 T L:=by
 have:=h.grow (g.grow h.h6 0);exact this
theorem t14 (a n:Int) (h:0<n) (aJ:n<=9223372036854775807):Tot (ts a n) λr=>0<=r/\r<n:=by
 unfold ts;have h1:-n<a.tmod n:=by
  by_cases bf:0<=a
  ·have:=Int.tmod_nonneg n bf; omega
  ·have ak:(-a).tmod n<n:=Int.tmod_lt_of_pos _ h;rw [Int.neg_tmod] at ak;omega
 have ak:a.tmod n<n:=Int.tmod_lt_of_pos a h;refine .aK (Ξ:=λx=>x=a.tmod n) (Tot.rem (by omega) rfl) λx J=>?_;subst J;refine Tot.aK (Ξ:=λr=>0<=r/\r<n) (Tot.b8 (λaN=>.az ?_) (λaN=>.az (by omega))) λr av=>.az av;rw [dC]; omega
structure Vb (n:Nat) (d:Decl):Prop where
 tag:d.Tag.size=0
 n:d.fh.length<=n
 syms:∀ x∈d.fh,x.Name.size<=fz
structure v8 (n:Nat) (r:kr):Prop where
 left:r.Left.size<=fz
 n:r.gZ.length<=n
 alts:∀ a∈r.gZ,xR a
theorem v8.mono {n m:Nat}{r:kr}(h:v8 n r) (hm:n<=m):v8 m r:=⟨h.left,Nat.le_trans h.n hm,h.alts⟩
theorem v8.add {n:Nat}{r:kr}{a:Alt}(h:v8 n r) (bf:xR a):v8 (n+1) (⟨r.Left,r.gZ++[a],r.At⟩:kr):=by
 refine ⟨h.left,by have:=h.n; show (r.gZ++[a]).length<=_; simp; omega,λb aF=>?_⟩;rcases List.mem_append.1 aF with aF | aF
 ·exact h.alts b aF
 ·rw [List.mem_singleton.1 aF]; exact bf
end Go.Proofs
namespace Go.Own
open Go Go.Sort
variable {α:Type} [DecidableEq α]
structure Ord (lt:α->α->Bool):Prop where
 swo:SWO lt
 jO:∀ x y,lt x y=false->lt y x=false->x=y
def fO (lt:α->α->Bool) (l:List α):Prop:=l.Pairwise λa b=>lt a b=true
omit [DecidableEq α] in
theorem fO.nd {lt:α->α->Bool}(h:Ord lt) {l:List α}(ao:fO lt l):l.Nodup:=ao.imp λ{a b} JN e=>by
 subst e;rw [h.swo.irrefl] at JN; cases JN
omit [DecidableEq α] in
theorem fO.uniq {lt:α->α->Bool}(h:Ord lt) {l m:List α}(ao:fO lt l) (hm:fO lt m) (he:∀ x,x∈l↔x∈m):l=m :=
 List.Perm.eq_of_pairwise (le:=λa b=>lt a b=true) (λa b _ _ h1 ak=>by have:=h.swo.trans _ _ _ h1 ak; rw [h.swo.irrefl] at this; cases this) ao hm ((List.perm_ext_iff_of_nodup (ao.nd h) (hm.nd h)).2 he)
omit [DecidableEq α] in
theorem w6 {l m:List α}(aV:l.Nodup) (hm:∀ x∈l,x∈m):l.length<=m.length:=by
 classical
 induction l generalizing m with
 | nil=>exact Nat.zero_le _
 | cons x l aS =>
  have J:=hm x (by simp);have p2:=List.nodup_cons.1 aV;have:=aS (m:=m.erase x) p2.2 λy ay=>(List.mem_erase_of_ne (λe=>p2.1 (by rw [<- e]; exact ay))).2 (hm y (by simp [ay]));have ao:=List.length_erase_of_mem J;have aE:=List.length_pos_of_mem J;simp only [List.length_cons];omega
end Go.Own
namespace Go.Proofs
open Go Go.Own Go.Sort
set_option maxRecDepth 100000
set_option linter.unusedVariables false
def gH (a b:Item):Bool:=decide (a.Prod<b.Prod\/(a.Prod=b.Prod/\a.dw<b.dw))
theorem Gd {a b:Item}:gH a b=true↔(a.Prod<b.Prod\/(a.Prod=b.Prod/\a.dw<b.dw)):=by simp [gH]
theorem zy {a b:Item}:gH a b=false↔¬ (a.Prod<b.Prod\/(a.Prod=b.Prod/\a.dw<b.dw)):=by simp [gH]
theorem tp:Ord gH where
 swo:=⟨λx=>by rw [zy]; omega,λx y z h1 ak=>by rw [Gd] at *; omega,λx y z h1 ak=>by rw [zy] at *; omega⟩
 jO x y h1 ak:=by
  rw [zy] at h1 ak;obtain ⟨aH,x2⟩:=x;obtain ⟨jZ,y2⟩:=y;simp only at h1 ak;have:aH=jZ:=by omega
  have:x2=y2:=by omega
  subst_vars; rfl
def iT (g:bR) (x:Item):Prop:=∃ q,idx g.aW x.Prod=some q/\0<=x.dw/\x.dw<=q.e7.length
def hG (g:bR) (x:Item):Int:=match idx g.aW x.Prod with
 | some q=>(idx q.e7 x.dw).getD (-1)
 | none=>-1
theorem mN {α:Type}{l:List α}{i:Int}{y:α}(h:idx l i=some y):0<=i/\i<l.length/\y∈l:=by
 unfold idx at h
 split at h
 ·rename_i ba;obtain ⟨h1,ak⟩:=List.getElem?_eq_some_iff.1 h;exact ⟨ba,by omega,List.mem_of_getElem? h⟩
 ·cases h
theorem uU {α:Type}{l:List α}{i:Int}(h:i<0\/(l.length:Int)<=i):idx l i=none:=by
 unfold idx;split
 ·exact List.getElem?_eq_none (by omega)
 ·rfl
theorem kY {α:Type}{l:List α}{i:Int}(ba:0<=i) (h1:i<l.length):∃ y,idx l i=some y/\y∈l:=by
 have a8:i.toNat<l.length:=by omega
 exact ⟨l[i.toNat],by simp [idx,ba,a8],List.getElem_mem a8⟩
theorem ev {α:Type}{l:List α}{k:Nat}(h:k<l.length):idx l (k:Int)=some l[k]:=by simp [idx,h]
theorem IN (g:bR) (x:Item):∃ c,xe g x=some c/\(c=true↔iT g x):=by
 unfold xe;by_cases ba:0<=x.Prod
 ·by_cases h1:x.Prod<g.aW.length
  ·obtain ⟨q,bK,_⟩:=kY ba h1;by_cases ak:0<=x.dw
   ·refine ⟨decide (x.dw<=(q.e7.length:Int)),by simp [ba,h1,ak,bK],?_⟩;rw [decide_eq_true_eq];exact ⟨λh=>⟨q,bK,ak,h⟩,λ⟨gI,B_,_,h⟩=>by rw [bK] at B_; cases B_; exact h⟩
   ·exact ⟨false,by simp [ba,h1,ak],λh=>(by cases h),λ⟨_,_,h,_⟩=>absurd h ak⟩
  ·exact ⟨false,by simp [ba,h1],λh=>(by cases h),λ⟨_,h,_⟩=>absurd (mN h).2.1 h1⟩
 ·exact ⟨false,by simp [ba],λh=>(by cases h),λ⟨_,h,_⟩=>absurd (mN h).1 ba⟩
theorem D3 (g:bR) (x:Item):vk g x=some (hG g x):=by
 unfold vk hG;obtain ⟨c,aa,hi⟩:=IN g x;rw [aa];simp only [Option.bind_some];cases c with
 | false =>
  have aJ:¬ iT g x:=λh=>by have:=hi.2 h; cases this
  simp only [Bool.not_false,cond_true,Option.bind_some];cases bK:idx g.aW x.Prod with
  | none=>rfl
  | some q =>
   have:idx q.e7 x.dw=none:=uU (by
    by_cases ba:0<=x.dw
    ·right;by_cases h1:x.dw<=q.e7.length
     ·exact absurd ⟨q,bK,ba,h1⟩ aJ
     ·omega
    ·left; omega)
   simp [this]
 | true =>
  obtain ⟨q,bK,ba,h1⟩:=hi.1 rfl;simp only [Bool.not_true,cond_false,bK,Option.bind_some];by_cases he:x.dw=q.e7.length
  ·rw [uU (.inr (by omega))];simp [he]
  ·obtain ⟨s,aL,_⟩:=kY (l:=q.e7) (i:=x.dw) ba (by omega);simp [he,aL]
theorem K2 {g:bR}(aY:gq g) {x:Item}(h:0<=hG g x):iT g x/\o8 g.aX.length (g.bt.length - 1) (hG g x)/\∃ q,idx g.aW x.Prod=some q/\idx q.e7 x.dw=some (hG g x):=by
 cases bK:idx g.aW x.Prod with
 | none =>
  have:hG g x=-1:=by unfold hG; rw [bK]
  rw [this] at h; exact absurd h (by decide)
 | some q =>
  cases aL:idx q.e7 x.dw with
  | none =>
   have:hG g x=-1:=by unfold hG; rw [bK]; simp [aL]
   rw [this] at h; exact absurd h (by decide)
  | some s =>
   have e:hG g x=s:=by unfold hG; rw [bK]; simp [aL]
   rw [e];obtain ⟨ba,h1,hm⟩:=mN aL;exact ⟨⟨q,bK,ba,by omega⟩,(aY.gu q (mN bK).2.2).right s hm,q,rfl,aL⟩
inductive mF (g:bR) (l:List Item):Item->Prop
 | base {x:Item}(h:x∈l) (hi:iT g x):mF g l x
 | step {x:Item}{q:Prod}{p:Nat}(h:mF g l x) (aE:g.aW[p]?=some q) (aJ:hG g x=1000+q.Left) (ba:1000<=hG g x):mF g l ⟨p,0⟩
theorem KO {g:bR}{p:Nat}{q:Prod}(aE:g.aW[p]?=some q):iT g ⟨p,0⟩:=⟨q,by simp [idx,aE],Int.le_refl _,by show (0:Int)<=_; omega⟩
theorem mF.iT {g:bR}{l:List Item}{x:Item}(h:mF g l x):iT g x:=by
 cases h with
 | base _ hi=>exact hi
 | step _ aE _ _=>exact KO aE
theorem Tg {g:bR}(aY:gq g) (x:Item):-1<=hG g x/\hG g x<=1023:=by
 by_cases h:0<=hG g x
 ·obtain ⟨_,aL,_⟩:=K2 aY h;have:=aY.hF;have:=aY.ir;rcases aL with aL | aL <;> omega
 ·refine ⟨?_,by omega⟩;revert h;unfold hG;cases bK:idx g.aW x.Prod with
  | none=>intro _; exact Int.le_refl _
  | some q =>
   cases aL:idx q.e7 x.dw with
   | none=>intro _; simp [aL]
   | some s =>
    intro h;have hm:=(aY.gu q (mN bK).2.2).right s (mN aL).2.2;simp only [aL,Option.getD_some] at h ⊢;rcases hm with hm | hm <;> omega
def hr (m:List Bool):Nat:=(m.filter λb=>b).length
theorem uc:∀ (m:List Bool) (i:Nat),i<m.length->m.getD i false=false->hr (m.set i true)=hr m+1
 | [],i,h,_=>by simp at h
 | b::m,0,_,h=>by
  have:b=false:=by simpa using h
  subst this;simp [hr]
 | b::m,i+1,h,ba=>by
  have:=uc m i (by simpa using h) (by simpa using ba);unfold hr at this ⊢;simp only [List.set_cons_succ,List.filter_cons];cases b <;> simp [this]
theorem Od (m:List Bool):hr m<=m.length:=List.length_filter_le _ _
theorem ko {α:Type}{r:List α}{k:Nat}(h:k<r.length):r.take (k+1)=r.take k++[r[k]]:=by
 rw [List.take_add_one,List.getElem?_eq_getElem h]; rfl
theorem C7 (k:Nat) (h:k<=1000000000000):aM ((k:Int)+1)=((k+1:Nat):Int):=by rw [dC]; omega
def allI (g:bR):List Item:=(List.range g.aW.length).flatMap λp=>(List.range 9).map λd=>(⟨(p:Nat),(d:Nat)⟩:Item)
theorem M6 (g:bR):(allI g).length=g.aW.length * 9:=by
 have:∀ l:List Nat,(l.map λ_=>9).sum=l.length * 9:=λl=>by
  induction l with
  | nil=>rfl
  | cons a l aS=>simp only [List.map_cons,List.sum_cons,aS,List.length_cons]; omega
 simp [allI,List.length_flatMap,this]
theorem S6 {g:bR}(aY:gq g) {x:Item}(h:iT g x):x∈allI g:=by
 obtain ⟨q,bK,ba,h1⟩:=h;obtain ⟨ak,aN,bP⟩:=mN bK;have:=aY.aT q bP;refine List.mem_flatMap.2 ⟨x.Prod.toNat,by simp; omega,List.mem_map.2 ⟨x.dw.toNat,by simp; omega,?_⟩⟩;obtain ⟨a,b⟩:=x;simp only at ba ak ⊢;congr 1 <;> omega
theorem rA {g:bR}(aY:gq g) {l:List Item}(ao:fO gH l) (hi:∀ x∈l,iT g x):l.length<=540:=by
 have:=w6 (ao.nd tp) λx J=>S6 aY (hi x J);rw [M6] at this;have:=aY.lI;omega
theorem Np {l:List Item}(ao:fO gH l) {i ae:Nat}(hi:i<l.length) (ab:ae<l.length) (h:i<ae):gH l[i] l[ae]=true:=List.pairwise_iff_getElem.1 ao i ae hi ab h
theorem DA (l:List Item) (x:Item) (ao:fO gH l) (aJ:l.length<=100000):Tot (u7 l x) λr=>fO gH r/\(∀ y,y∈r↔y∈l\/y=x):=by
 unfold u7;refine .aK (Ξ:=λz:Int=>∃ k:Nat,z=(k:Int)/\k<=l.length/\(∀ (i:Nat) (h:i<l.length),k<=i->gH x l[i]=true)/\∀ (h:0<k),gH x (l[k - 1]?.getD default)=false) ?_ λz bB=>?_
 ·refine Tot.count (λs=>-s) 1 (λs=>∃ k:Nat,s=(k:Int)/\k<=l.length/\∀ (i:Nat) (h:i<l.length),k<=i->gH x l[i]=true) ⟨l.length,rfl,Nat.le_refl _,λi h hk=>by omega⟩ (by show 1 - -(l.length:Int)<_; omega) λs aL=>?_;obtain ⟨k,rfl,hk,p_⟩:=aL;refine .aK (Ξ:=λc:Bool=>(c=true->0<k/\gH x (l[k - 1]?.getD default)=true)/\(c=false->∀ (h:0<k),gH x (l[k - 1]?.getD default)=false)) ?_ λc aa=>Tot.cE (λh=>?_) (λh=>.az ⟨k,rfl,hk,p_,aa.2 h⟩)
  ·refine Tot.b8 (λh=>?_) (λh=>.az ⟨λaR=>(by cases aR),λ_ aR=>by omega⟩);have hc:k - 1<l.length:=by omega
   have hw:aM ((k:Int) - 1)=((k - 1:Nat):Int):=by rw [dC]; omega
   rw [hw,ev hc,List.getElem?_eq_getElem hc];simp only [Option.bind_some,Option.getD_some];generalize l[k - 1]=y;refine Tot.b8 (λh1=>.az ⟨λ_=>⟨by omega,Gd.2 (.inl h1)⟩,λaR=>(by cases aR)⟩) (λh1=>Tot.b8 (λak=>.az ⟨λaN=>⟨by omega,Gd.2 (.inr ⟨ak.symm,of_decide_eq_true aN⟩)⟩,λaN _=>?_⟩) (λak=>.az ⟨λaR=>(by cases aR),λ_ _=>?_⟩))
   ·have:=of_decide_eq_false aN;rw [zy]; omega
   ·rw [zy]; omega
  ·obtain ⟨ba,h1⟩:=aa.1 h;refine .az ⟨⟨k - 1,by rw [dC]; omega,by omega,λi hi Rz=>?_⟩,by show -(k:Int) < -aM _; rw [dC]; omega,by show -aM _<=1; rw [dC]; omega⟩;by_cases e:i=k - 1
   ·subst e;rw [List.getElem?_eq_getElem hi] at h1;exact h1
   ·exact p_ i hi (by omega)
 ·obtain ⟨k,rfl,hk,p_,l0⟩:=bB;refine .aK (Ξ:=λc:Bool=>(c=true↔(0<k/\l[k - 1]?.getD default=x))) ?_ λc aa=>Tot.cE (λh=>?_) (λh=>?_)
  ·refine Tot.b8 (λh=>?_) (λh=>.az ⟨λaR=>(by cases aR),λaR=>by omega⟩);have hc:k - 1<l.length:=by omega
   have hw:aM ((k:Int) - 1)=((k - 1:Nat):Int):=by rw [dC]; omega
   rw [hw,ev hc,List.getElem?_eq_getElem hc];simp only [Option.bind_some,Option.getD_some];generalize l[k - 1]=y;refine .az ?_;obtain ⟨jZ,y2⟩:=y;obtain ⟨aH,x2⟩:=x;simp only [Bool.and_true,Bool.and_eq_true,decide_eq_true_eq,Item.mk.injEq];exact ⟨λaR=>⟨by omega,aR⟩,λaR=>aR.2⟩
  ·obtain ⟨ba,h1⟩:=aa.1 h;have hc:k - 1<l.length:=by omega
   rw [List.getElem?_eq_getElem hc] at h1;have J:x∈l:=by rw [<- h1]; exact List.getElem_mem hc
   exact .az ⟨ao,λy=>⟨.inl,λh=>h.elim id λe=>e ▸ J⟩⟩
  ·have eh:∀ (i:Nat) (hi:i<l.length),i<k->gH l[i] x=true:=by
    intro i hi s6;have hc:k - 1<l.length:=by omega
    have l0:=l0 (by omega);have aJ:l[k - 1]?.getD default≠x:=λe=>by rw [aa.2 ⟨by omega,e⟩] at h; cases h
    rw [List.getElem?_eq_getElem hc] at l0 aJ;simp only [Option.getD_some] at l0 aJ;have gD:gH l[k - 1] x=true:=by
     cases b_:gH l[k - 1] x with
     | true=>rfl
     | false=>exact absurd (tp.jO _ _ b_ l0) aJ
    by_cases e:i=k - 1
    ·subst e; exact gD
    ·exact tp.swo.trans _ _ _ (Np ao hi hc (by omega)) gD
   refine .aK (Ξ:=λz=>z=l.take k) (Tot.sub ⟨by omega,by omega,by omega⟩ (by simp)) λz bB=>?_;subst bB;refine .aK (Ξ:=λ_=>True) (Tot.ap (by simp [lim]; omega) trivial) λ_ _=>.aK (Ξ:=λ_=>True) (Tot.ap (by simp [lim]; omega) trivial) λ_ _=>?_;refine .aK (Ξ:=λz=>z=l.drop k) (Tot.sub ⟨by omega,by omega,by omega⟩ ?_) λz bB=>?_
   ·rw [List.take_of_length_le]
    ·congr 1
    ·rw [List.length_drop]; omega
   subst bB;refine .aK (Ξ:=λ_=>True) (Tot.ap (by simp [lim]; omega) trivial) λ_ _=>.az ?_;rw [List.nil_append];constructor
   ·have h1:∀ a∈l.take k,gH a x=true:=by
     intro a bf;obtain ⟨i,hi,rfl⟩:=List.mem_iff_getElem.1 bf;rw [List.length_take] at hi;rw [List.getElem_take];exact eh i (by omega) (by omega)
    have ak:∀ a∈l.drop k,gH x a=true:=by
     intro a bf;obtain ⟨i,hi,rfl⟩:=List.mem_iff_getElem.1 bf;rw [List.length_drop] at hi;rw [List.getElem_drop];exact p_ (k+i) (by omega) (by omega)
    unfold fO;rw [List.append_assoc,List.pairwise_append];refine ⟨List.Pairwise.sublist (List.take_sublist k l) ao,?_,λa bf b aF=>?_⟩
    ·rw [List.singleton_append,List.pairwise_cons];exact ⟨ak,List.Pairwise.sublist (List.drop_sublist k l) ao⟩
    ·rcases List.mem_append.1 aF with aF | aF
     ·rw [List.mem_singleton.1 aF]; exact h1 a bf
     ·exact tp.swo.trans _ _ _ (h1 a bf) (ak b aF)
   ·intro y;rw [List.append_assoc,List.mem_append,List.mem_append,List.mem_singleton];have hm:y∈l↔y∈l.take k\/y∈l.drop k:=by
     rw [<- List.mem_append,List.take_append_drop]
    rw [hm];constructor
    ·rintro (h | h | h)
     ·exact .inl (.inl h)
     ·exact .inr h
     ·exact .inl (.inr h)
    ·rintro ((h | h) | h)
     ·exact .inl h
     ·exact .inr (.inr h)
     ·exact .inr (.inl h)
theorem NN (g:bR) (aY:gq g) (l:List Item) (ao:l.length<=1000000):Tot (zO g l) λr=>fO gH r/\∀ x,x∈r↔x∈l/\iT g x:=by
 unfold zO;refine .aK (Ξ:=λr=>fO gH r/\∀ x,x∈r↔x∈l/\iT g x) ?_ λr av=>.az av;refine Tot.count (λs=>s.2) l.length (λs=>∃ k:Nat,k<=l.length/\s.2=(k:Int)/\fO gH s.1/\∀ x,x∈s.1↔x∈l.take k/\iT g x) ⟨0,Nat.zero_le _,rfl,List.Pairwise.nil,λx=>by simp⟩ (by show (l.length:Int) - 0<_; omega) λs aL=>?_;obtain ⟨out,kZ⟩:=s;obtain ⟨k,hk,rfl,bf,hm⟩:=aL;simp only at bf hm ⊢;rw [C7 k (by omega)];refine Tot.b8 (λa8=>?_) (λdM=>.az ?_)
 ·have a8:k<l.length:=by omega
  rw [ev a8];refine .aK (Ξ:=λo:List Item=>fO gH o/\∀ x,x∈o↔x∈l.take (k+1)/\iT g x) ?_ λo bd=>.az ⟨⟨k+1,by omega,rfl,bd⟩,by show (k:Int)<((k+1:Nat):Int); omega,by show ((k+1:Nat):Int)<=_; omega⟩;obtain ⟨c,aa,hi⟩:=IN g l[k];rw [ko a8];refine Tot.ax ?_;rw [aa];refine Tot.ax (.aK (Ξ:=λo:List Item=>fO gH o/\∀ x,x∈o↔x∈l.take k++[l[k]]/\iT g x) (Tot.cE (λh=>?_) (λh=>.az ⟨bf,λx=>?_⟩)) λo bd=>.az bd)
  ·have Kk:=rA aY bf λx J=>((hm x).1 J).2;refine Tot.ax (.aK (DA out _ bf (by omega)) λo bd=>.az ⟨bd.1,λx=>?_⟩);rw [bd.2 x,List.mem_append,List.mem_singleton,hm x];constructor
   ·rintro (⟨h1,ak⟩ | rfl)
    ·exact ⟨.inl h1,ak⟩
    ·exact ⟨.inr rfl,hi.1 h⟩
   ·rintro ⟨h1 | rfl,ak⟩
    ·exact .inl ⟨h1,ak⟩
    ·exact .inr rfl
  ·rw [List.mem_append,List.mem_singleton,hm x];constructor
   ·rintro ⟨h1,ak⟩;exact ⟨.inl h1,ak⟩
   ·rintro ⟨h1 | rfl,ak⟩
    ·exact ⟨h1,ak⟩
    ·rw [hi.2 ak] at h; cases h
 ·have:k=l.length:=by omega
  subst this;rw [List.take_length] at hm;exact ⟨bf,hm⟩
def tJ (g:bR) (out:List Item) (x:Item):Prop:=1000<=hG g x->∀ (p:Nat) (q:Prod),g.aW[p]?=some q->q.Left=hG g x - 1000->(⟨p,0⟩:Item)∈out
theorem DI (g:bR) (aY:gq g) (l:List Item) (ao:l.length<=1000000):Tot (vj g l) λr=>fO gH r/\∀ x,x∈r↔mF g l x:=by
 have y8:=aY.lI;unfold vj;refine .aK (NN g aY l ao) λaH h1=>.aK (Ξ:=λr=>fO gH r/\∀ x,x∈r↔mF g l x) ?_ λr av=>.az av;obtain ⟨QO,Fj⟩:=h1;refine Tot.loop (λs=>fO gH s.1/\(∀ x∈s.1,mF g l x)/\(∀ x∈l,iT g x->x∈s.1)/\(s.2=(s.1.length:Int)->∀ x∈s.1,tJ g s.1 x)) (λs=>2 * (1000 - s.1.length)+(if s.2=(s.1.length:Int) then 0 else 1)) ⟨QO,λx J=>.base ((Fj x).1 J).1 ((Fj x).1 J).2,λx J hi=>(Fj x).2 ⟨J,hi⟩,λh=>by have h:(-1:Int)=_:=h; omega⟩ (by
  show 2 * (1000 - aH.length)+(if (-1:Int)=_ then 0 else 1)<1000000000000000000
  split <;> omega) λs aL=>?_
 obtain ⟨out,n⟩:=s;obtain ⟨bf,gr,sX,hx⟩:=aL;simp only at bf gr sX hx ⊢;have Kk:=rA aY bf λx J=>(gr x J).iT;refine Tot.pc (λeh=>?_) (λhe=>.az ⟨bf,λx=>⟨gr x,λJ=>?_⟩⟩)
 ·refine .aK (Ξ:=λae:List Item × Int=>ae.2=(out.length:Int)/\fO gH ae.1/\(∀ x∈ae.1,mF g l x)/\(∀ x∈out,x∈ae.1)/\(ae.1.length=out.length->∀ x∈ae.1,tJ g ae.1 x)) ?_ λae ab=>?_
  ·refine .aK (Ξ:=λr:List Item=>fO gH r/\(∀ x∈r,mF g l x)/\(∀ x∈out,x∈r)/\(r.length=out.length->∀ x∈r,tJ g r x)) ?_ λr av=>.az ⟨rfl,av⟩;refine .aK (Ξ:=λr:List Item=>fO gH r/\(∀ x∈r,mF g l x)/\(∀ x∈out,x∈r)/\(r.length=out.length->∀ x∈r,tJ g r x)) ?_ λr av=>.az av;refine Tot.count (λs=>s.2) out.length (λs=>∃ k:Nat,k<=out.length/\s.2=(k:Int)/\s.1=out/\∀ (ae:Nat) (h:ae<out.length),ae<k->tJ g out out[ae]) ⟨0,Nat.zero_le _,rfl,rfl,λae _ ab=>absurd ab (Nat.not_lt_zero _)⟩ (by show (out.length:Int) - 0<_; omega) λs aL=>?_;obtain ⟨cur,kZ⟩:=s;obtain ⟨k,hk,rfl,rfl,JY⟩:=aL;simp only;rw [C7 k (by omega)];refine Tot.b8 (λa8=>?_) (λdM=>.az ⟨bf,gr,λ_ h=>h,λ_ x J=>?_⟩)
   ·have a8:k<cur.length:=by omega
    rw [ev a8];have FN:=gr _ (List.getElem_mem a8);have FL:∀ P:Item->Prop,P cur[k]->∀ (ae:Nat) (h:ae<cur.length),ae=k->P cur[ae]:=λP dn ae h e=>by subst e; exact dn
    generalize J:cur[k]=x at *;have VX:=Tg aY x;have hw:aM (hG g x - 1000)=hG g x - 1000:=by rw [dC]; omega
    simp only [Option.bind_some,D3 g x,hw];refine (.aK (Ξ:=λr:List Item=>fO gH r/\(∀ x∈r,mF g l x)/\(∀ x∈cur,x∈r)/\tJ g r x) ?_ λr av=>?_)
    ·refine Tot.count (λs=>s.2) g.aW.length (λs=>∃ i:Nat,i<=g.aW.length/\s.2=(i:Int)/\fO gH s.1/\(∀ x∈s.1,mF g l x)/\(∀ x∈cur,x∈s.1)/\∀ (p:Nat) (q:Prod),p<i->g.aW[p]?=some q->q.Left=hG g x - 1000->(⟨p,0⟩:Item)∈s.1) ⟨0,Nat.zero_le _,rfl,bf,gr,λ_ h=>h,λp q aE=>absurd aE (Nat.not_lt_zero _)⟩ (by show (g.aW.length:Int) - 0<_; omega) λs aL=>?_;obtain ⟨o,wZ⟩:=s;obtain ⟨i,hi,rfl,p7,y6,B8,s_⟩:=aL;simp only at p7 y6 B8 s_ ⊢;rw [C7 i (by omega)];refine .aK (Ξ:=λc:Bool=>(c=true->i<g.aW.length/\1000<=hG g x)/\(c=false->g.aW.length<=i\/hG g x<1000)) (Tot.b8 (λh=>.az ⟨λaR=>⟨by omega,of_decide_eq_true aR⟩,λaR=>.inr (by have:=of_decide_eq_false aR; omega)⟩) (λh=>.az ⟨λaR=>(by cases aR),λ_=>.inl (by omega)⟩)) λc aa=>Tot.cE (λh=>?_) (λh=>.az ⟨p7,y6,B8,λba p q aE=>?_⟩)
     ·obtain ⟨Fh,ba⟩:=aa.1 h;have Ko:g.aW[i]?=some g.aW[i]:=List.getElem?_eq_getElem Fh;rw [ev Fh];refine .aK (Ξ:=λo:List Item=>fO gH o/\(∀ x∈o,mF g l x)/\(∀ x∈cur,x∈o)/\∀ (p:Nat) (q:Prod),p<i+1->g.aW[p]?=some q->q.Left=hG g x - 1000->(⟨p,0⟩:Item)∈o) ?_ λo bd=>.az ⟨⟨i+1,by omega,rfl,bd⟩,by show (i:Int)<((i+1:Nat):Int); omega,by show ((i+1:Nat):Int)<=_; omega⟩;refine Tot.ax (.aK (Ξ:=λo:List Item=>fO gH o/\(∀ x∈o,mF g l x)/\(∀ x∈cur,x∈o)/\∀ (p:Nat) (q:Prod),p<i+1->g.aW[p]?=some q->q.Left=hG g x - 1000->(⟨p,0⟩:Item)∈o) (Tot.b8 (λh=>?_) (λh=>.az ⟨p7,y6,B8,λp q aE y9 bK=>?_⟩)) λo bd=>.az bd)
      ·have RE:=rA aY p7 λx J=>(y6 x J).iT;refine .aK (DA o ⟨(i:Nat),0⟩ p7 (by omega)) λr av=>.az ⟨av.1,λy ay=>?_,λy ay=>(av.2 y).2 (.inl (B8 y ay)),λp q aE y9 bK=>?_⟩
       ·rcases (av.2 y).1 ay with ay | rfl
        ·exact y6 y ay
        ·exact .step FN Ko (by omega) ba
       ·by_cases de:p=i
        ·subst de; exact (av.2 _).2 (.inr rfl)
        ·exact (av.2 _).2 (.inl (s_ p q (by omega) y9 bK))
      ·by_cases de:p=i
       ·subst de;rw [Ko] at y9; cases y9;exact absurd bK h
       ·exact s_ p q (by omega) y9 bK
     ·rcases aa.2 h with h1 | h1
      ·exact s_ p q (by have:=(List.getElem?_eq_some_iff.1 aE).1; omega) aE
      ·omega
    ·obtain ⟨wT,RT,k9,RX⟩:=av;have hle:cur.length<=r.length:=w6 (bf.nd tp) k9;refine Tot.pc (λFm=>.az ⟨wT,RT,k9,λe=>absurd (by omega) Fm⟩) (λheq=>?_);have mx:r.length=cur.length:=by omega
     have RY:r=cur:=by
      have l2:∀ y,y∈cur↔y∈r:=by
       intro y;refine ⟨k9 y,λay=>Classical.byContradiction λaJ=>?_⟩;have:=w6 (l:=y::cur) (m:=r) (List.nodup_cons.2 ⟨aJ,bf.nd tp⟩) λz bB=>by
        rcases List.mem_cons.1 bB with rfl | bB
        ·exact ay
        ·exact k9 z bB
       simp at this;omega
      exact (fO.uniq tp bf wT l2).symm
     subst RY;refine .az ⟨⟨k+1,by omega,rfl,rfl,λae ab ez=>?_⟩,by show (k:Int)<((k+1:Nat):Int); omega,by show ((k+1:Nat):Int)<=_; omega⟩;by_cases de:ae=k
     ·exact FL (tJ g r) RX ae ab de
     ·exact JY ae ab (by omega)
   ·obtain ⟨ae,ab,rfl⟩:=List.mem_iff_getElem.1 J;exact JY ae ab (by omega)
  ·obtain ⟨h1,ak,aN,bP,cZ⟩:=ab;have hle:out.length<=ae.1.length:=w6 (bf.nd tp) bP;have e3:=rA aY ak λx J=>(aN x J).iT;refine .az ⟨⟨ak,aN,λx J hi=>bP x (sX x J hi),λe=>cZ (by show ae.1.length=_; have e:ae.2=(ae.1.length:Int):=e; omega)⟩,?_⟩;show 2 * (1000 - ae.1.length)+(if ae.2=(ae.1.length:Int) then 0 else 1)<2 * (1000 - out.length)+(if n=(out.length:Int) then 0 else 1)
   rw [if_neg eh];split
   ·omega
   ·have:ae.1.length≠out.length:=λe=>by omega
    omega
 ·have aa:=hx he
  induction J with
  | base h hi=>exact sX _ h hi
  | @step x q p h aE aJ ba aS=>exact aa x aS ba p q aE (by omega)
def AW (g:bR) (l:List Item) (a:Int) (y:Item):Prop:=∃ x,mF g l x/\hG g x=a/\0<=a/\y=⟨x.Prod,x.dw+1⟩
theorem KN {g:bR}(aY:gq g) {x:Item}(h:0<=hG g x):iT g ⟨x.Prod,x.dw+1⟩:=by
 obtain ⟨_,_,q,bK,aL⟩:=K2 aY h;obtain ⟨ba,h1,_⟩:=mN aL;exact ⟨q,bK,by show 0<=x.dw+1; omega,by show x.dw+1<=_; omega⟩
theorem SY {g:bR}(aY:gq g) {x:Item}(h:iT g x):0<=x.dw/\x.dw<=8:=by
 obtain ⟨q,bK,ba,h1⟩:=h;have:=aY.aT q (mN bK).2.2;omega
theorem AW.iT {g:bR}(aY:gq g) {l:List Item}{a:Int}{y:Item}(h:AW g l a y):iT g y:=by
 obtain ⟨x,_,h1,ak,rfl⟩:=h;exact KN aY (by omega)
theorem N3 (g:bR) (aY:gq g) (l:List Item) (a:Int) (ao:l.length<=1000000):Tot (Ac g l a) λr=>fO gH r/\∀ y,y∈r↔AW g l a y:=by
 unfold Ac;refine .aK (DI g aY l ao) λc aa=>.aK (Ξ:=λr=>fO gH r/\∀ y,y∈r↔AW g l a y) ?_ λr av=>.az av;have hx:=rA aY aa.1 λx J=>((aa.2 x).1 J).iT;refine Tot.count (λs=>s.2) c.length (λs=>∃ k:Nat,k<=c.length/\s.2=(k:Int)/\fO gH s.1/\∀ y,y∈s.1↔∃ x∈c.take k,hG g x=a/\0<=a/\y=⟨x.Prod,x.dw+1⟩) ⟨0,Nat.zero_le _,rfl,List.Pairwise.nil,λy=>by simp⟩ (by show (c.length:Int) - 0<_; omega) λs aL=>?_;obtain ⟨o,kZ⟩:=s;obtain ⟨k,hk,rfl,p7,y7⟩:=aL;simp only at p7 y7 ⊢;rw [C7 k (by omega)];refine Tot.b8 (λa8=>?_) (λdM=>.az ⟨p7,λy=>?_⟩)
 ·have a8:k<c.length:=by omega
  have Sy:=((aa.2 _).1 (List.getElem_mem a8)).iT;have fV:c.take (k+1)=c.take k++[c[k]]:=ko a8;rw [ev a8];generalize c[k]=x at *;have aV:=SY aY Sy;have hw:aM (x.dw+1)=x.dw+1:=by rw [dC]; omega
  refine .aK (Ξ:=λo:List Item=>fO gH o/\∀ y,y∈o↔∃ x∈c.take (k+1),hG g x=a/\0<=a/\y=⟨x.Prod,x.dw+1⟩) ?_ λo bd=>.az ⟨⟨k+1,by omega,rfl,bd⟩,by show (k:Int)<((k+1:Nat):Int); omega,by show ((k+1:Nat):Int)<=_; omega⟩;have l2:∀ y,(∃ z∈c.take (k+1),hG g z=a/\0<=a/\y=(⟨z.Prod,z.dw+1⟩:Item))↔(y∈o\/(hG g x=a/\0<=a/\y=⟨x.Prod,x.dw+1⟩)):=by
   intro y;rw [y7 y,fV];constructor
   ·rintro ⟨z,bB,h⟩;rcases List.mem_append.1 bB with bB | bB
    ·exact .inl ⟨z,bB,h⟩
    ·rw [List.mem_singleton.1 bB] at h; exact .inr h
   ·rintro (⟨z,bB,h⟩ | h)
    ·exact ⟨z,by simp [bB],h⟩
    ·exact ⟨x,by simp,h⟩
  simp only [Option.bind_some,D3 g x,hw];refine (.aK (Ξ:=λb:Bool=>b=decide (0<=hG g x/\hG g x=a)) (Tot.b8 (λh=>.az (by simp [h])) (λh=>.az (by simp [h]))) λb aF=>?_);subst aF;refine .aK (Ξ:=λo:List Item=>fO gH o/\∀ y,y∈o↔∃ x∈c.take (k+1),hG g x=a/\0<=a/\y=⟨x.Prod,x.dw+1⟩) (Tot.b8 (λh=>?_) (λh=>.az ⟨p7,λy=>?_⟩)) λo bd=>.az bd
  ·have Kk:=rA aY p7 λy ay=>by
    obtain ⟨z,_,h1,ak,rfl⟩:=(y7 y).1 ay;exact KN aY (by omega)
   refine (.aK (DA o _ p7 (by omega)) λr av=>.az ⟨av.1,λy=>?_⟩);rw [av.2 y,l2 y];constructor
   ·rintro (h1 | h1)
    ·exact .inl h1
    ·exact .inr ⟨h.2,by omega,h1⟩
   ·rintro (h1 | h1)
    ·exact .inl h1
    ·exact .inr h1.2.2
  ·rw [l2 y];exact ⟨.inl,λaR=>aR.elim id λaR=>absurd ⟨by omega,aR.1⟩ h⟩
 ·have:k=c.length:=by omega
  subst this;rw [List.take_length] at y7;rw [y7 y];constructor
  ·rintro ⟨x,J,h⟩;exact ⟨x,(aa.2 x).1 J,h⟩
  ·rintro ⟨x,J,h⟩;exact ⟨x,(aa.2 x).2 J,h⟩
def h' (a b:Int):Bool:=decide (a<b)
theorem Ge {a b:Int}:h' a b=true↔a<b:=by simp [h']
theorem Gf {a b:Int}:h' a b=false↔¬ a<b:=by simp [h']
theorem zN:Ord h' where
 swo:=⟨λx=>by rw [Gf]; omega,λx y z h1 ak=>by rw [Ge] at *; omega,λx y z h1 ak=>by rw [Gf] at *; omega⟩
 jO:=λx y h1 ak=>by rw [Gf] at *; omega
theorem HX {l:List Int}(ao:fO h' l) {i ae:Nat}(hi:i<l.length) (ab:ae<l.length) (h:i<ae):h' l[i] l[ae]=true:=List.pairwise_iff_getElem.1 ao i ae hi ab h
theorem Bg (l:List Int) (x:Int) (ao:fO h' l) (aJ:l.length<=100000):Tot (oW l x) λr=>fO h' r/\r.length<=l.length+1/\(∀ y,y∈r↔y∈l\/y=x):=by
 unfold oW;refine .aK (Ξ:=λz:Int=>∃ k:Nat,z=(k:Int)/\k<=l.length/\(∀ (i:Nat) (h:i<l.length),k<=i->h' x l[i]=true)/\∀ (h:0<k),h' x (l[k - 1]?.getD default)=false) ?_ λz bB=>?_
 ·refine Tot.count (λs=>-s) 1 (λs=>∃ k:Nat,s=(k:Int)/\k<=l.length/\∀ (i:Nat) (h:i<l.length),k<=i->h' x l[i]=true) ⟨l.length,rfl,Nat.le_refl _,λi h hk=>by omega⟩ (by show 1 - -(l.length:Int)<_; omega) λs aL=>?_;obtain ⟨k,rfl,hk,p_⟩:=aL;refine .aK (Ξ:=λc:Bool=>(c=true->0<k/\h' x (l[k - 1]?.getD default)=true)/\(c=false->∀ (h:0<k),h' x (l[k - 1]?.getD default)=false)) ?_ λc aa=>Tot.cE (λh=>?_) (λh=>.az ⟨k,rfl,hk,p_,aa.2 h⟩)
  ·refine Tot.b8 (λh=>?_) (λh=>.az ⟨λaR=>(by cases aR),λ_ aR=>by omega⟩);have hc:k - 1<l.length:=by omega
   have hw:aM ((k:Int) - 1)=((k - 1:Nat):Int):=by rw [dC]; omega
   rw [hw,ev hc,List.getElem?_eq_getElem hc];simp only [Option.bind_some,Option.getD_some];exact .az ⟨λaR=>⟨by omega,aR⟩,λaR _=>aR⟩
  ·obtain ⟨ba,h1⟩:=aa.1 h;refine .az ⟨⟨k - 1,by rw [dC]; omega,by omega,λi hi Rz=>?_⟩,by show -(k:Int) < -aM _; rw [dC]; omega,by show -aM _<=1; rw [dC]; omega⟩;by_cases e:i=k - 1
   ·subst e;rw [List.getElem?_eq_getElem hi] at h1;exact h1
   ·exact p_ i hi (by omega)
 ·obtain ⟨k,rfl,hk,p_,l0⟩:=bB;refine .aK (Ξ:=λc:Bool=>(c=true↔(0<k/\l[k - 1]?.getD default=x))) ?_ λc aa=>Tot.cE (λh=>?_) (λh=>?_)
  ·refine Tot.b8 (λh=>?_) (λh=>.az ⟨λaR=>(by cases aR),λaR=>by omega⟩);have hc:k - 1<l.length:=by omega
   have hw:aM ((k:Int) - 1)=((k - 1:Nat):Int):=by rw [dC]; omega
   rw [hw,ev hc,List.getElem?_eq_getElem hc];simp only [Option.bind_some,Option.getD_some];generalize l[k - 1]=y;refine .az ?_;exact ⟨λaR=>⟨by omega,of_decide_eq_true aR⟩,λaR=>decide_eq_true aR.2⟩
  ·obtain ⟨ba,h1⟩:=aa.1 h;have hc:k - 1<l.length:=by omega
   rw [List.getElem?_eq_getElem hc] at h1;have J:x∈l:=by rw [<- h1]; exact List.getElem_mem hc
   exact .az ⟨ao,by omega,λy=>⟨.inl,λh=>h.elim id λe=>e ▸ J⟩⟩
  ·have eh:∀ (i:Nat) (hi:i<l.length),i<k->h' l[i] x=true:=by
    intro i hi s6;have hc:k - 1<l.length:=by omega
    have l0:=l0 (by omega);have aJ:l[k - 1]?.getD default≠x:=λe=>by rw [aa.2 ⟨by omega,e⟩] at h; cases h
    rw [List.getElem?_eq_getElem hc] at l0 aJ;simp only [Option.getD_some] at l0 aJ;have gD:h' l[k - 1] x=true:=by
     cases b_:h' l[k - 1] x with
     | true=>rfl
     | false=>exact absurd (zN.jO _ _ b_ l0) aJ
    by_cases e:i=k - 1
    ·subst e; exact gD
    ·exact zN.swo.trans _ _ _ (HX ao hi hc (by omega)) gD
   refine .aK (Ξ:=λz=>z=l.take k) (Tot.sub ⟨by omega,by omega,by omega⟩ (by simp)) λz bB=>?_;subst bB;refine .aK (Ξ:=λ_=>True) (Tot.ap (by simp [lim]; omega) trivial) λ_ _=>.aK (Ξ:=λ_=>True) (Tot.ap (by simp [lim]; omega) trivial) λ_ _=>?_;refine .aK (Ξ:=λz=>z=l.drop k) (Tot.sub ⟨by omega,by omega,by omega⟩ ?_) λz bB=>?_
   ·rw [List.take_of_length_le]
    ·congr 1
    ·rw [List.length_drop]; omega
   subst bB;refine .aK (Ξ:=λ_=>True) (Tot.ap (by simp [lim]; omega) trivial) λ_ _=>.az ?_;rw [List.nil_append];refine ⟨?_,?_,?_⟩
   ·have h1:∀ a∈l.take k,h' a x=true:=by
     intro a bf;obtain ⟨i,hi,rfl⟩:=List.mem_iff_getElem.1 bf;rw [List.length_take] at hi;rw [List.getElem_take];exact eh i (by omega) (by omega)
    have ak:∀ a∈l.drop k,h' x a=true:=by
     intro a bf;obtain ⟨i,hi,rfl⟩:=List.mem_iff_getElem.1 bf;rw [List.length_drop] at hi;rw [List.getElem_drop];exact p_ (k+i) (by omega) (by omega)
    unfold fO;rw [List.append_assoc,List.pairwise_append];refine ⟨List.Pairwise.sublist (List.take_sublist k l) ao,?_,λa bf b aF=>?_⟩
    ·rw [List.singleton_append,List.pairwise_cons];exact ⟨ak,List.Pairwise.sublist (List.drop_sublist k l) ao⟩
    ·rcases List.mem_append.1 aF with aF | aF
     ·rw [List.mem_singleton.1 aF]; exact h1 a bf
     ·exact zN.swo.trans _ _ _ (h1 a bf) (ak b aF)
   ·simp only [List.length_append,List.length_take,List.length_drop,List.length_cons,List.length_nil]; omega
   ·intro y;rw [List.append_assoc,List.mem_append,List.mem_append,List.mem_singleton];have hm:y∈l↔y∈l.take k\/y∈l.drop k:=by
     rw [<- List.mem_append,List.take_append_drop]
    rw [hm];constructor
    ·rintro (h | h | h)
     ·exact .inl (.inl h)
     ·exact .inr h
     ·exact .inl (.inr h)
    ·rintro ((h | h) | h)
     ·exact .inl h
     ·exact .inr (.inr h)
     ·exact .inr (.inl h)
theorem Ao {α:Type}{l:List α}{k:Nat}{x:α}(hk:k<l.length) (i:Nat):(l.set k x)[i]?=if i=k then some x else l[i]?:=by
 rw [List.getElem?_set];by_cases e:k=i
 ·subst e; simp [hk]
 ·simp [e,Ne.symm e]
theorem PE (x y:Item):(decide (x.Prod=y.Prod)&&(decide (x.dw=y.dw)&&true))=decide (x=y):=by
 obtain ⟨aH,x2⟩:=x;obtain ⟨jZ,y2⟩:=y;simp
theorem NO (a b:List Item) (h:a.length<=1000000):Tot (zP a b) λc=>(c=true↔a=b):=by
 unfold zP;refine Tot.pc (λeh=>.az ⟨λh=>(by cases h),λe=>absurd (by rw [e]) eh⟩) (λhe=>?_);have ao:a.length=b.length:=by omega
 refine Tot.aK (Ξ:=iJ (λ_=>a=b) (λx:Bool=>x=false/\a≠b)) ?_ λx J=>?_
 ·refine Tot.count (λs=>s) a.length (λs=>∃ k:Nat,k<=a.length/\s=(k:Int)/\∀ (ae:Nat) (h:ae<a.length),ae<k->a[ae]=b[ae]) ⟨0,Nat.zero_le _,rfl,λae _ ab=>absurd ab (Nat.not_lt_zero _)⟩ (by show (a.length:Int) - 0<_; omega) λs aL=>?_;obtain ⟨k,hk,rfl,kA⟩:=aL;rw [ei k (by omega)];refine Tot.b8 (λa8=>?_) (λdM=>.az ?_)
  ·have a8:k<a.length:=by omega
   have wQ:k<b.length:=by omega
   rw [ev a8,ev wQ];simp only [Option.bind_some,PE];refine Tot.pc (λeh=>.az ⟨rfl,λe=>eh (by subst e; rfl)⟩) (λheq=>.az ⟨⟨k+1,by omega,rfl,λae ab ez=>?_⟩,by show (k:Int)<((k+1:Nat):Int); omega,by show ((k+1:Nat):Int)<=_; omega⟩);by_cases e:ae=k
   ·subst e; exact heq
   ·exact kA ae ab (by omega)
  ·exact List.ext_getElem ao λi h1 ak=>kA i h1 (by omega)
 ·rcases x with _ | x
  ·exact .az ⟨λ_=>J,λ_=>rfl⟩
  ·obtain ⟨rfl,eh⟩:x=false/\a≠b:=J;exact .az ⟨λh=>(by cases h),λh=>absurd h eh⟩
def syms (g:bR):List Int:=(List.range g.aX.length).map (λk:Nat=>(k:Int))++(List.range g.bt.length).map (λk:Nat=>1000+(k:Int))
theorem N2 (g:bR) (bd:gq g):Tot (Ab g) λl=>l=syms g:=by
 have fv:=bd.ir;have bU:=bd.hF;unfold Ab;refine .aK (Ξ:=λl:List Int=>l=(List.range g.aX.length).map (λk:Nat=>(k:Int))) ?_ λl ao=>?_
 ·refine Tot.upto (λs=>s.2) g.aX.length (λk s=>s.1=(List.range k).map (λk:Nat=>(k:Int))) rfl (by omega) rfl λk s hk he bp=>?_;obtain ⟨l,i⟩:=s;simp only at he bp ⊢;subst he bp;rw [ei k (by omega)];refine Tot.b8 (λa8=>?_) (λdM=>.az ?_)
  ·refine .aK (Ξ:=λ_=>True) (Tot.ap (by simp [lim]; omega) trivial) λ_ _=>.az ⟨by omega,rfl,?_⟩;show _=(List.range (k+1)).map _;rw [List.range_succ,List.map_append]; rfl
  ·have:k=g.aX.length:=by omega
   subst this; rfl
 ·subst ao;refine .aK (Ξ:=λl:List Int=>l=syms g) ?_ λr av=>.az av;refine Tot.upto (λs=>s.2) g.bt.length (λk s=>s.1=(List.range g.aX.length).map (λk:Nat=>(k:Int))++(List.range k).map (λk:Nat=>1000+(k:Int))) rfl (by omega) (by simp) λk s hk he bp=>?_;obtain ⟨l,i⟩:=s;simp only at he bp ⊢;subst he bp;rw [ei k (by omega)];refine Tot.b8 (λa8=>?_) (λdM=>.az ?_)
  ·refine .aK (Ξ:=λ_=>True) (Tot.ap (by simp [lim]; omega) trivial) λ_ _=>.az ⟨by omega,rfl,?_⟩;have hw:aM (1000+(k:Int))=1000+(k:Int):=by rw [dC]; omega
   show _=_++(List.range (k+1)).map _;rw [hw,List.range_succ,List.map_append,List.append_assoc]; rfl
  ·have:k=g.bt.length:=by omega
   subst this; rfl
theorem Uh (g:bR):(syms g).length=g.aX.length+g.bt.length:=by simp [syms]
theorem S8 {g:bR}{s:Int}:s∈syms g↔(0<=s/\s<g.aX.length)\/(1000<=s/\s<1000+g.bt.length):=by
 unfold syms;rw [List.mem_append,List.mem_map,List.mem_map];constructor
 ·rintro (⟨k,hk,rfl⟩ | ⟨k,hk,rfl⟩)
  ·rw [List.mem_range] at hk; exact .inl (by omega)
  ·rw [List.mem_range] at hk; exact .inr (by omega)
 ·rintro (h | h)
  ·exact .inl ⟨s.toNat,by rw [List.mem_range]; omega,by omega⟩
  ·exact .inr ⟨(s - 1000).toNat,by rw [List.mem_range]; omega,by omega⟩
theorem Ui {g:bR}(bd:gq g):(syms g).Nodup:=by
 have aC:=bd.ir;unfold syms;rw [List.nodup_append];refine ⟨List.pairwise_map.2 ((List.nodup_range (n:=g.aX.length)).imp λ{a b} h e=>h (by omega)),List.pairwise_map.2 ((List.nodup_range (n:=g.bt.length)).imp λ{a b} h e=>h (by omega)),λa bf b aF=>?_⟩;obtain ⟨i,hi,rfl⟩:=List.mem_map.1 bf;obtain ⟨ae,ab,rfl⟩:=List.mem_map.1 aF;rw [List.mem_range] at hi;omega
structure vS (g:bR) (K:List Item):Prop where
 a:fO gH K
 i:∀ x∈K,iT g x
theorem vS.len {g:bR}(bd:gq g) {K:List Item}(h:vS g K):K.length<=540:=rA bd h.a h.i
theorem Ik (l:List Int) (x:Int) (h:l.length<=1000000):Tot (xr l x) λc=>(c=true↔x∈l):=by
 unfold xr;refine .aK (Ξ:=iJ (λ_=>x∉l) (λr:Bool=>r=true/\x∈l)) ?_ λr av=>?_
 ·refine Tot.upto (λs=>s) l.length (λk s=>x∉l.take k) rfl (by omega) (by simp) λk s hk he bp=>?_;subst he;rw [ei k (by omega)];refine Tot.b8 (λa8=>?_) (λdM=>.az ?_)
  ·have a8:k<l.length:=by omega
   rw [ev a8];simp only [Option.bind_some];refine Tot.b8 (λe=>.az ⟨rfl,by rw [<- e]; exact List.getElem_mem a8⟩) (λe=>.az ⟨a8,rfl,?_⟩);rw [ko a8,List.mem_append,List.mem_singleton];exact λh=>h.elim bp λh=>e h.symm
  ·rw [List.take_of_length_le (by omega)] at bp;exact bp
 ·rcases r with r | r
  ·exact .az ⟨λh=>(by cases h),λh=>absurd h av⟩
  ·obtain ⟨rfl,h⟩:=av;exact .az ⟨λ_=>h,λ_=>rfl⟩
theorem N4 (m:List State) (k:List Item) (ba:m.length<=1000) (h1:∀ st∈m,st.Kernel.length<=1000000):Tot (Ad m k) λr=>-1<=r/\r<m.length:=by
 unfold Ad;refine .aK (Ξ:=iJ (λ_=>True) (λr:Int=>0<=r/\r<m.length)) ?_ λx J=>?_
 ·refine Tot.upto (λs=>s) m.length (λ_ _=>True) rfl (by omega) trivial λae s ab he _=>?_;subst he;rw [ei ae (by omega)];refine Tot.b8 (λa8=>?_) (λdM=>.az trivial);have a8:ae<m.length:=by omega
  rw [ev a8];refine Tot.ax (.aK (NO _ k (h1 _ (List.getElem_mem a8))) λc aa=>Tot.cE (λh=>.az ⟨by omega,by omega⟩) (λh=>.az ⟨a8,rfl,trivial⟩))
 ·rcases x with x | x
  ·exact .az ⟨by omega,by omega⟩
  ·have J:0<=x/\x<m.length:=J;exact .az ⟨by omega,by omega⟩
structure vX (g:bR) (n:Nat) (v:Move):Prop where
 s:v.Sym∈syms g
 t0:0<=v.g_
 t1:v.g_<n
structure lk (g:bR) (m:List State) (q ae:Nat):Prop where
 hf:0<m.length
 lG:m.length<=150
 oQ:∀ st∈m,vS g st.Kernel
 ms:∀ (i:Nat) (st:State),m[i]?=some st->(st.c9.map (·.Sym)).Sublist (if i<q then syms g else if i=q then (syms g).take ae else [])
 aA:∀ st∈m,∀ v∈st.c9,vX g m.length v
structure lj (g:bR) (m:List State):Prop where
 hf:0<m.length
 lG:m.length<=150
 oQ:∀ st∈m,vS g st.Kernel
 tn:∀ st∈m,st.c9.length<=64
 nd:∀ st∈m,(st.c9.map (·.Sym)).Nodup
 aA:∀ st∈m,∀ v∈st.c9,vX g m.length v
theorem vX.up {g:bR}{n cT:Nat}{v:Move}(h:vX g n v) (aJ:n<=cT):vX g cT v:=⟨h.s,h.t0,by have:=h.t1; omega⟩
theorem lk.put {g:bR}{m:List State}{q ae:Nat}(h:lk g m q ae) {st:State}(bK:m[q]?=some st) {v:Move}(hv:vX g m.length v) (ab:(syms g)[ae]?=some v.Sym):lk g (m.set q ⟨st.Kernel,st.c9++[v]⟩) q (ae+1):=by
 have l6:=(List.getElem?_eq_some_iff.1 bK).1;have hm:=List.mem_of_getElem? bK;refine ⟨by rw [List.length_set]; exact h.hf,by rw [List.length_set]; exact h.lG,λs aL=>?_,λi s aL=>?_,λs aL w hw=>?_⟩
 ·rcases List.mem_or_eq_of_mem_set aL with aR | aR
  ·exact h.oQ s aR
  ·rw [aR]; exact h.oQ st hm
 ·rw [Ao l6] at aL;by_cases e:i=q
  ·subst e;rw [if_pos rfl] at aL; cases aL;have:=h.ms i st bK;rw [if_neg (by omega),if_pos rfl] at this ⊢;rw [List.map_append,List.take_add_one,ab];exact this.append (List.Sublist.refl _)
  ·rw [if_neg e] at aL;have:=h.ms i s aL;rw [if_neg e] at this ⊢;exact this
 ·rw [List.length_set];rcases List.mem_or_eq_of_mem_set aL with aR | aR
  ·exact h.aA s aR w hw
  ·rw [aR] at hw;rcases List.mem_append.1 hw with hw | hw
   ·exact h.aA st hm w hw
   ·rw [List.mem_singleton.1 hw]; exact hv
theorem lk.more {g:bR}{m:List State}{q ae:Nat}(h:lk g m q ae) (ao:m.length<150) {K:List Item}(hk:vS g K):lk g (m++[⟨K,[]⟩]) q ae:=by
 refine ⟨by simp,by simp; omega,λs aL=>?_,λi s aL=>?_,λs aL w hw=>?_⟩
 ·rcases List.mem_append.1 aL with aL | aL
  ·exact h.oQ s aL
  ·rw [List.mem_singleton.1 aL]; exact hk
 ·by_cases e:i<m.length
  ·rw [List.getElem?_append_left e] at aL; exact h.ms i s aL
  ·rw [List.getElem?_append_right (by omega)] at aL;have:s=⟨K,[]⟩:=by
    have:=List.mem_of_getElem? aL;simpa using this
   rw [this]; exact List.nil_sublist _
 ·rcases List.mem_append.1 aL with aL | aL
  ·exact (h.aA s aL w hw).up (by simp)
  ·rw [List.mem_singleton.1 aL] at hw; cases hw
theorem lk.mono {g:bR}{m:List State}{q ae tm:Nat}(h:lk g m q ae) (ab:ae<=tm):lk g m q tm:=by
 refine ⟨h.hf,h.lG,h.oQ,λi s aL=>?_,h.aA⟩;have:=h.ms i s aL;split
 ·rename_i e; rw [if_pos e] at this; exact this
 ·rename_i e; rw [if_neg e] at this;split
  ·rename_i cO; rw [if_pos cO] at this;exact this.trans (List.take_sublist_take_left ab)
  ·rename_i cO; rw [if_neg cO] at this; exact this
theorem lk.next {g:bR}{m:List State}{q ae:Nat}(h:lk g m q ae):lk g m (q+1) 0:=by
 refine ⟨h.hf,h.lG,h.oQ,λi s aL=>?_,h.aA⟩;have:=h.ms i s aL;by_cases e:i<q+1
 ·rw [if_pos e]
  split at this
  ·exact this
  ·split at this
   ·exact this.trans (List.take_sublist _ _)
   ·exact this.trans (List.nil_sublist _)
 ·rw [if_neg (by omega),if_neg (by omega)] at this;rw [if_neg e];exact this.trans (List.nil_sublist _)
theorem NY (g:bR) (bd:gq g):Tot (vh g) λr=>(r.2=0/\lj g r.1)\/r.2=4:=by
 have fv:=bd.ir;have bU:=bd.hF;have dn:=bd.lI;unfold vh;refine Tot.aK (N2 g bd) λaH h1=>?_;subst h1;have jw:=Uh g;refine Tot.aK (Ξ:=iJ (λm=>lk g m m.length 0) (λr:List State × Int=>r.2=4)) ?_ λx J=>?_
 ·refine Tot.loop (λs=>∃ q:Nat,s.2=(q:Int)/\q<=s.1.length/\lk g s.1 q 0) (λs=>151 - s.2.toNat) ⟨0,rfl,Nat.zero_le _,⟨by simp,by simp,λs aL=>?_,λi s aL=>?_,λs aL v hv=>?_⟩⟩ (by show 151 - 0<1000000000000000000; omega) λs cd=>?_
  ·rw [List.mem_singleton.1 aL];refine ⟨List.pairwise_singleton ..,λx J=>?_⟩;rw [List.mem_singleton.1 J];obtain ⟨q,bK⟩:∃ q,g.aW[0]?=some q:=⟨g.aW[0]'(by omega),List.getElem?_eq_getElem _⟩;exact KO (p:=0) bK
  ·have:=List.mem_of_getElem? aL;rw [List.mem_singleton.1 this]; exact List.nil_sublist _
  ·rw [List.mem_singleton.1 aL] at hv; cases hv
  obtain ⟨q,he,bK,yL⟩:=cd;obtain ⟨m,i⟩:=s;simp only at he bK yL ⊢;subst he;have y1:=yL.lG;rw [ei q (by omega)];refine Tot.b8 (λa8=>?_) (λdM=>.az ?_)
  ·have a8:q<m.length:=by omega
   rw [ev a8];have ep:=yL.oQ _ (List.getElem_mem a8);refine Tot.ax (Tot.aK (DI g bd _ (by have:=ep.len bd; omega)) λc aa=>?_);have hx:=rA bd aa.1 λx J=>((aa.2 x).1 J).iT;refine Tot.aK (Ξ:=λl:List Int=>l.length<=1000) ?_ λM5 VE=>?_
   ·refine Tot.upto (λs=>s.2) c.length (λk s=>fO h' s.1/\s.1.length<=k) rfl (by omega) ⟨.nil,Nat.le_refl 0⟩ λk s hk he bp=>?_;obtain ⟨l,i⟩:=s;obtain ⟨g1,g2⟩:=bp;simp only at he g1 g2 ⊢;subst he;rw [ei k (by omega)];refine Tot.b8 (λa8=>?_) (λdM=>.az (show l.length<=1000 by omega));have a8:k<c.length:=by omega
    rw [ev a8];refine .aK (Ξ:=λl:List Int=>fO h' l/\l.length<=k+1) ?_ λo bd=>.az ⟨a8,rfl,bd⟩;refine Tot.ax ?_;rw [D3 g _];refine Tot.ax (.aK (Ξ:=λl:List Int=>fO h' l/\l.length<=k+1) ?_ λo bd=>.az bd);refine Tot.b8 (λaE=>.aK (Bg l _ g1 (by omega)) λr av=>.az ⟨av.1,by have:=av.2.1; omega⟩) (λaE=>.az ⟨g1,by omega⟩)
   ·refine Tot.aK (Ξ:=iJ (λm=>lk g m q (syms g).length/\q<m.length) (λr:List State × Int=>r.2=4)) ?_ λx J=>?_
    ·refine Tot.upto (λs=>s.2) (syms g).length (λk s=>lk g s.1 q k/\q<s.1.length) rfl (by omega) ⟨yL,a8⟩ λk s hk he bp=>?_;obtain ⟨m,i⟩:=s;obtain ⟨rP,l6⟩:=bp;simp only at he rP l6 ⊢;subst he;rw [ei k (by omega)];have s9:=rP.lG;refine Tot.b8 (λa8=>?_) (λdM=>.az ?_)
     ·have a8:k<(syms g).length:=by omega
      have kg:=List.getElem_mem a8;have nR:(syms g)[k]?=some (syms g)[k]:=List.getElem?_eq_getElem a8;rw [ev a8];generalize (syms g)[k]=s at *;refine Tot.ax (Tot.aK (Ik M5 s (by omega)) λb2 _=>?_);refine Tot.cE (λ_=>.az ⟨a8,rfl,rP.mono (by omega),l6⟩) (λ_=>?_);have oC:m[q]?=some m[q]:=List.getElem?_eq_getElem l6;have ep:=rP.oQ _ (List.getElem_mem l6);rw [ev l6];generalize m[q]=st at *;refine Tot.ax (Tot.ax (Tot.aK (N3 g bd st.Kernel s (by have:=ep.len bd; omega)) λAP BQ=>?_));have hJ:vS g AP:=⟨BQ.1,λy ay=>((BQ.2 y).1 ay).iT bd⟩;refine Tot.aK (N4 m AP (by omega) λt aC=>by have:=(rP.oQ t aC).len bd; omega) λz bB=>?_;have R3:=(rP.ms q st oC).length_le;rw [if_neg (by omega),if_pos rfl,List.length_map,List.length_take] at R3;refine Tot.b8 (λVY=>Tot.b8 (λ_=>.az rfl) (λVZ=>?_)) (λuK=>?_)
      ·refine .aK (Ξ:=λ_=>True) (Tot.ap (by simp [lim]; omega) trivial) λ_ _=>?_;have Qx:=rP.more (by omega) hJ;have J6:(m++[(⟨AP,[]⟩:State)])[q]?=some st:=by rw [List.getElem?_append_left l6]; exact oC
       have yX:idx (m++[(⟨AP,[]⟩:State)]) (q:Int)=some st:=by simp only [idx,if_pos (show (0:Int)<=(q:Int) by omega),Int.toNat_natCast]; exact J6
       rw [yX];refine Tot.ax (Tot.ax ?_);refine .aK (Ξ:=λ_=>True) (Tot.ap (by simp [lim]; omega) trivial) λ_ _=>.az ⟨a8,rfl,?_⟩;refine ⟨?_,by show q<(List.set _ _ _).length; rw [List.length_set]; simp; omega⟩;show lk g (List.set _ (q:Int).toNat _) q (k+1);rw [Int.toNat_natCast];exact Qx.put J6 ⟨kg,by show (0:Int)<=(m.length:Int); omega,by show (m.length:Int)<_; simp; omega⟩ nR
      ·refine Tot.ax (Tot.ax ?_);refine .aK (Ξ:=λ_=>True) (Tot.ap (by simp [lim]; omega) trivial) λ_ _=>.az ⟨a8,rfl,?_⟩;refine ⟨?_,by show q<(List.set _ _ _).length; rw [List.length_set]; exact l6⟩;show lk g (List.set _ (q:Int).toNat _) q (k+1);rw [Int.toNat_natCast];exact rP.put oC ⟨kg,by show 0<=z; omega,bB.2⟩ nR
     ·have:k=(syms g).length:=by omega
      subst this;exact ⟨rP,l6⟩
    ·rcases x with x | x
     ·obtain ⟨h1,ak⟩:=J;refine .az ⟨⟨q+1,rfl,ak,h1.next⟩,?_⟩;show 151 - ((q+1:Nat):Int).toNat<151 - (q:Int).toNat;omega
     ·exact .az J
  ·have:q=m.length:=by omega
   subst this;exact yL
 ·rcases x with x | x
  ·have J:lk g x x.length 0:=J;have key:∀ st∈x,(st.c9.map (·.Sym)).Sublist (syms g):=λst cd=>by
    obtain ⟨i,hi⟩:=List.getElem?_of_mem cd;have:=J.ms i st hi;rw [if_pos (List.getElem?_eq_some_iff.1 hi).1] at this;exact this
   refine .az (.inl ⟨rfl,J.hf,J.lG,J.oQ,λst cd=>?_,λst cd=>(key st cd).nodup (Ui bd),J.aA⟩);have:=(key st cd).length_le;rw [List.length_map] at this; omega
  ·exact .az (.inr J)
end Go.Proofs
