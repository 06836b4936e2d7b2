/- Parts of the proof that the last text states. -/
import Derived.ChangeAt
import Derived.ChangeOld
import Derived.ChangeSame
import Derived.Deep.Draws
import Derived.Deep.LoopGhost
import Derived.Deep.Slices
import Derived.KernelRfl
import Derived.Laws.CopyRow
import Derived.Lib.SliceRun
import Derived.Lib.SlicesCompact
import Derived.Lib.Walk
import Derived.Maps.OwnIn
import Derived.ReadAgain
import Derived.RowKit3
import Derived.Shelf.RegionOpenPlain
import Derived.Shelf.SlLaysQ
import Derived.Shelf.SlSortCmp.NoneTotal
import Derived.Shelf.SlicesE.Kit
import Derived.Shelf.SlicesQ.Load
import Derived.Shelf.Strconv.Itoa3
import Derived.Shelf.Strings.BuilderK
import Derived.Sort.WalkB12
import Derived.StringKeys
import Derived.Test.YtejfkabkakfblaaGreatDoorRows
import Derived.WalkKit
import Derived.WideShapes
import Derived.Test.YtejfkabkakfblaaGreatDoorF2
namespace Go.Own
open Go Go.RowKit Go.ChangeShapes Go.WideShapes Go.Deep
set_option linter.unusedSectionVars false
variable [cE]
variable {α β KK:Type}{P:Program}
abbrev tF (w:World) (y:ab) (u:Value):Prop:=R w (λb=>b<w.heap.size) (λ_ _=>False) y u (λ_=>False)
def mT (w:World) (ys:List ab) (cs:List Value):Prop :=
 ys.length=cs.length/\∀ (k:Nat) (y:ab) (u:Value),ys[k]?=some y->cs[k]?=some u->u.oneCell'=true/\tF w y u
theorem mT.nil {w:World}:mT w [] []:=⟨rfl,λ_ _ _ h=>by simp at h⟩
theorem mT.one {w:World}{y:ab}{u:Value}(h1:u.oneCell'=true) (h:tF w y u):mT w [y] [u] :=
 ⟨rfl,λk y' v_ ak hu=>by
  cases k with
  | zero=>simp at ak hu; subst ak hu; exact ⟨h1,h⟩
  | succ k=>simp at ak⟩
theorem mT.app {w:World}{ys ss:List ab}{cs ds:List Value}(h:mT w ys cs) (af:mT w ss ds):mT w (ys++ss) (cs++ds):=by
 refine ⟨by simp [h.1,af.1],λk y u ak hu=>?_⟩;by_cases hk:k<ys.length
 ·rw [List.getElem?_append_left hk] at ak;rw [List.getElem?_append_left (h.1 ▸ hk)] at hu;exact h.2 k y u ak hu
 ·rw [List.getElem?_append_right (by omega)] at ak;rw [List.getElem?_append_right (by have:=h.1; omega),<- h.1] at hu;exact af.2 _ y u ak hu
structure nJ (P:Program) (e:bA α) (t:TypeId) (ok:α->Prop):Prop where
 z:P.cellsOf t=e.z
 go:∀ {H:Type}{enc:TypeId × Value->H}{w:World}{n:Nat}{cs:List Value}{x:DataW H × List MemPlace},
  DataW.trod enc P w 0 (λ_=>true) true n t cs=some x->∃ a,ok a/\mT w (e.cells a) cs
theorem nJ.int {e:bA Int}{t:TypeId}{k:IntKind}(al:P.underlying t=some (.int k)) (aT:P.cellsOf t=e.z) (he:∀ n,e.cells n=[.lit (.int k n)]) :
  nJ P e t (λn=>(Lit.int k n).wf=true):=by
 refine ⟨aT,λh=>?_⟩;obtain ⟨n,rfl,_,hw⟩:=DataW.trod_int al h;exact ⟨n,hw,he n ▸ mT.one rfl (.lit rfl λ_ h=>h)⟩
theorem nJ.bool {e:bA Bool}{t:TypeId}(al:P.underlying t=some .bool) (aT:P.cellsOf t=e.z) (he:∀ n,e.cells n=[.lit (.bool n)]) :
  nJ P e t (λ_=>True):=by
 refine ⟨aT,λh=>?_⟩;obtain ⟨n,rfl,_⟩:=DataW.trod_bool al h;exact ⟨n,trivial,he n ▸ mT.one rfl (.lit rfl λ_ h=>h)⟩
theorem Pb (e:bA α) (aT:0<e.z):∀ (l:List α) (k:Nat) (y:ab),(bp e l)[k]?=some y->∃ a,l[k / e.z]?=some a/\(e.cells a)[k % e.z]?=some y
 | [],k,y,h=>by simp [bp] at h
 | a::l,k,y,h=>by
  have he:bp e (a::l)=e.cells a++bp e l:=by simp [bp]
  rw [he] at h;by_cases hk:k<e.z
  ·rw [List.getElem?_append_left (by rw [e.len]; exact hk)] at h;exact ⟨a,by simp [Nat.div_eq_of_lt hk],by rw [Nat.mod_eq_of_lt hk]; exact h⟩
  ·rw [List.getElem?_append_right (by rw [e.len]; omega),e.len] at h;obtain ⟨b,h1,af⟩:=Pb e aT l (k - e.z) y h;have aP:k / e.z=(k - e.z) / e.z+1:=by rw [Nat.div_eq_sub_div aT (by omega)]
   refine ⟨b,by rw [aP]; simpa using h1,?_⟩;rw [Nat.mod_eq_sub_mod (by omega)]; exact af
theorem nJ.slice {e:bA α}{t zV:TypeId}{ok:α->Prop}(h:nJ P e zV ok) (al:P.underlying t=some (.slice zV)) (aT:P.cellsOf t=1) (uk:0<e.z) :
  nJ P (bI e) t (λl=>l.length<=maxLen/\∀ x∈l,ok x):=by
 classical
 refine ⟨aT,λ{H enc w n cs x} ah=>?_⟩;rcases open_slice al ah with ⟨rfl,rfl⟩ | ⟨a,len,cap,m,cf,D,Pl,rfl,av,ai,hm,Iu,rfl,j⟩
 ·exact ⟨[],⟨by simp,by simp⟩,mT.one rfl (.hn λ_ h=>h)⟩
 ·have VX:m=cap:=by simpa using Iu
  subst VX;have hex:∀ i,i<len->∃ q:α × List Value,ok q.1/\mT w (e.cells q.1) q.2/\w.cells? 0 (a.add (i * P.cellsOf zV)) (P.cellsOf zV)=some q.2:=λi hi=>by
   obtain ⟨cs',h1,af⟩:=j i (by omega);obtain ⟨b,nW,fy⟩:=h.go af;exact ⟨(b,cs'),nW,fy,h1⟩
  by_cases aO:len=0
  ·subst aO;exact ⟨[],⟨by simp,by simp⟩,mT.one rfl (.hn λ_ h=>h)⟩
  ·obtain ⟨CL,_⟩:=hex 0 (by omega)
   haveI:Inhabited (α × List Value):=⟨CL⟩
   obtain ⟨f,aS⟩:=choose_lt hex;have hlen:((List.range len).map λi=>(f i).1).length=len:=by simp
   have nY:∀ (i:Nat) (b:α),((List.range len).map λi=>(f i).1)[i]?=some b->i<len/\b=(f i).1:=λi b hi=>by
    have aR:=(List.getElem?_eq_some_iff.1 hi).1;simp at aR;simp [aR] at hi;exact ⟨aR,hi.symm⟩
   have mh:a.spot=none/\a.block<w.heap.size:=by
    obtain ⟨_,_,aF⟩:=aS 0 (by omega);obtain ⟨_,Iq,ct⟩:=World.cells?_some aF;have dJ:=ct 0 (by rw [h.z]; exact uk);simp only [Nat.zero_mul,Addr.add,if_true] at dJ;have:0<(f 0).2.length:=by rw [Iq,h.z]; exact uk
    rw [List.getElem?_eq_getElem this] at dJ;unfold World.cell? at dJ
    split at dJ
    ·rename_i bD;refine ⟨?_,(Array.getElem?_eq_some_iff.1 bD).1⟩;cases aw:a.spot with
     | none=>rfl
     | some s=>simp [aw] at dJ
    ·cases dJ
   have key:∀ (k:Nat) (y:ab),(bp e ((List.range len).map λi=>(f i).1))[k]?=some y->∃ u,w.cell? ⟨a.block,a.off+k,none⟩=some u/\u.oneCell'=true/\tF w y u:=λk y hk=>by
    obtain ⟨b,nW,fy⟩:=Pb e uk _ k y hk;obtain ⟨hi,rfl⟩:=nY _ _ nW;obtain ⟨_,af,aF⟩:=aS _ hi;obtain ⟨_,Iq,ct⟩:=World.cells?_some aF;have Ei:k % e.z<e.z:=Nat.mod_lt _ uk;have dJ:=ct (k % e.z) (by rw [h.z]; exact Ei);rw [Deep.add_add,h.z] at dJ;have fL:k / e.z * e.z+k % e.z=k:=by rw [Nat.mul_comm]; exact Nat.div_add_mod k e.z
    rw [fL] at dJ;have aR:k % e.z<(f (k / e.z)).2.length:=by rw [Iq,h.z]; exact Ei
    rw [List.getElem?_eq_getElem aR] at dJ;have aQ:a.add k=⟨a.block,a.off+k,none⟩:=by
     unfold Addr.add;split
     ·rename_i TM; subst TM; cases a; simp at mh ⊢; exact mh.1
     ·rfl
    rw [aQ] at dJ;exact ⟨_,dJ,af.2 _ _ _ fy (List.getElem?_eq_getElem aR)⟩
   refine ⟨(List.range len).map λi=>(f i).1,⟨by rw [hlen]; omega,λy ak=>?_⟩,mT.one rfl ?_⟩
   ·obtain ⟨i,hi,rfl⟩:=List.mem_map.1 ak;exact (aS i (List.mem_range.1 hi)).1
   ·show tF w (.bk e.z _ _) _;rw [hlen];refine .bk (us:=λk=>(w.cell? ⟨a.block,a.off+k,none⟩).getD .nilFunc) (λ_ h=>h) ai mh.2 mh.1 (by rw [oY,hlen]) (λk y hk=>?_) (λk y hk=>?_) (λk y hk=>?_)
    ·obtain ⟨u,h1,af,aF⟩:=key k y hk;simp only [h1,Option.getD_some]; exact af
    ·obtain ⟨u,h1,af,aF⟩:=key k y hk;simp only [h1,Option.getD_some]
    ·obtain ⟨u,h1,af,aF⟩:=key k y hk;simp only [h1,Option.getD_some]; exact aF
def AU (P:Program):Nat->List Field->List TypeId->Bool
 | _,[],[]=>true
 | off,f::fs,t::ts=>decide (f.type=t)&&decide (f.offset=off)&&AU P (off+P.cellsOf t) fs ts
 | _,_,_=>false
def PS (P:Program) (t:TypeId) (ts:List TypeId):Bool :=
 match P.underlying t with
 | some (.struct fs)=>AU P 0 fs.toList ts&&decide (P.cellsOf t=(ts.map P.cellsOf).sum)
 | _=>false
structure x4 (P:Program) (cells:β->List ab) (ts:List TypeId) (ok:β->Prop):Prop where
 go:∀ {H:Type}{enc:TypeId × Value->H}{w:World}{n:Nat}{cs:List Value}{fs:List Field}{off:Nat},AU P off fs ts=true->cs.length=off+(ts.map P.cellsOf).sum ->
  (∀ (i:Nat) (f:Field),fs[i]?=some f->∃ x,DataW.trod enc P w 0 (λ_=>true) true n f.type ((cs.drop f.offset).take (P.cellsOf f.type))=some x) ->
  ∃ b,ok b/\mT w (cells b) (cs.drop off)
theorem x4.nil:x4 P (λ_:Unit=>[]) [] (λ_=>True) :=
 ⟨λ{H enc w n cs fs off} _ ai _=>⟨(),trivial,by rw [List.drop_eq_nil_of_le (by simp at ai; omega)]; exact mT.nil⟩⟩
theorem x4.cons {e:bA α}{t:TypeId}{ts:List TypeId}{ok:α->Prop}{cells:β->List ab}{OA:β->Prop}(h:nJ P e t ok) (ai:x4 P cells ts OA) :
  x4 P (λp:α × β=>e.cells p.1++cells p.2) (t::ts) (λp=>ok p.1/\OA p.2):=by
 refine ⟨λ{H enc w n cs fs off} fc hlen ah=>?_⟩;cases fs with
 | nil=>simp [AU] at fc
 | cons f fs =>
  simp only [AU,Bool.and_eq_true,decide_eq_true_eq] at fc;obtain ⟨⟨rfl,rfl⟩,fc⟩:=fc;obtain ⟨x,j⟩:=ah 0 f rfl;obtain ⟨a,aQ,aY⟩:=h.go j;obtain ⟨b,av,A4⟩:=ai.go (off:=f.offset+P.cellsOf f.type) (cs:=cs) fc (by rw [hlen]; simp [Nat.add_assoc]) (λi eE qV=>ah (i+1) eE (by simpa using qV));refine ⟨(a,b),⟨aQ,av⟩,?_⟩;have:cs.drop f.offset=(cs.drop f.offset).take (P.cellsOf f.type)++cs.drop (f.offset+P.cellsOf f.type):=by
   rw [<- List.drop_drop]; exact (List.take_append_drop _ _).symm
  rw [this];exact aY.app A4
theorem nJ.struct {e:bA KK}{t:TypeId}{ts:List TypeId}{cells:β->List ab}{ok:β->Prop}(h:x4 P cells ts ok) (mk:β->KK) (un:KK->β) (Ny:∀ b,un (mk b)=b) (aa:∀ b,e.cells (mk b)=cells b) (al:PS P t ts=true) (aT:P.cellsOf t=e.z) :
  nJ P e t (λs=>ok (un s)):=by
 refine ⟨aT,λ{H enc w n cs x} ah=>?_⟩;unfold PS at al
 split at al
 ·rename_i fs hu;simp only [Bool.and_eq_true,decide_eq_true_eq] at al;obtain ⟨xs,cf,rfl,rfl,ai,IZ,j⟩:=DataW.trod_struct hu ah;obtain ⟨b,av,aY⟩:=h.go (w:=w) (off:=0) (cs:=cs) (fs:=fs.toList) (n:=cf) (enc:=enc) al.1 (by rw [ai,al.2]; simp) (λi f aS=>by
   have qV:fs[i]?=some f:=by simpa using aS
   have hi:i<xs.length:=by rw [IZ]; exact (Array.getElem?_eq_some_iff.1 qV).1
   exact ⟨xs[i],by rw [j i f qV,List.getElem?_eq_getElem hi]⟩)
  exact ⟨mk b,by rw [Ny]; exact av,by rw [aa]; simpa using aY⟩
 ·cases al
inductive De (w:World):ab->Value->Prop
 | mk {y:ab}{v:Value}(h:tF w y v):De w y v
theorem nJ.one {e:bA α}{t:TypeId}{ok:α->Prop}{g:α->ab}(h:nJ P e t ok) (he:∀ a,e.cells a=[g a]) {H:Type}{enc:TypeId × Value->H}{w:World}{v:Value}{d:DataW H}{p:List MemPlace}(hv:v.cells.toList=[v])
  (al:DataW.Trod enc P w 0 (λ_=>true) true t v d p):∃ a,ok a/\De w (g a) v:=by
 obtain ⟨n,aA⟩:=al;obtain ⟨a,aQ,aY⟩:=h.go aA;refine ⟨a,aQ,.mk ?_⟩;rw [hv,he] at aY;exact (aY.2 0 _ _ rfl rfl).2
theorem nJ.OB {e:bA α}{t zV:TypeId}{ok:List α->Prop}(h:nJ P (bI e) t ok) (hu:P.underlying t=some (.slice zV)) {H:Type}{enc:TypeId × Value->H}{w:World}{v:Value}{d:DataW H}{p:List MemPlace}{base:Nat}(hv:Value.okWide P w .any base t v)
  (al:DataW.Trod enc P w 0 (λ_=>true) true t v d p):∃ a,ok a/\De w (ao e a) v:=by
 obtain ⟨a,l,c,rfl⟩:=okWide_slice hu hv;exact h.one (λ_=>rfl) rfl al
inductive u1 (w:World):List ab->List Value->Prop
 | nil:u1 w [] []
 | cons {y:ab}{v:Value}{ys:List ab}{vs:List Value}(h:De w y v) (aw:u1 w ys vs):u1 w (y::ys) (v::vs)
theorem u1.get {w:World}{ys:List ab}{vs:List Value}(h:u1 w ys vs):ys.length=vs.length/\∀ (k:Nat) (y:ab),ys[k]?=some y->∃ v,vs[k]?=some v/\tF w y v:=by
 induction h with
 | nil=>exact ⟨rfl,λk y h=>by simp at h⟩
 | cons h _ aL =>
  refine ⟨by simp [aL.1],λk y ak=>?_⟩;cases k with
  | zero =>
   simp at ak; subst ak;obtain ⟨h⟩:=h;exact ⟨_,rfl,h⟩
  | succ k=>simpa using aL.2 k y (by simpa using ak)
theorem u1.ZD {w:World}{ys:List ab}{vs:List Value}(h:u1 w ys vs) (ar:ys.all (λy=>match y with | .bC ..=>false | _=>true)=true) (iB:cE.q w λb=>b<w.heap.size) :
  cB w (λb=>b<w.heap.size) vs.toArray (pg ys) (λ_=>cr):=by
 refine ⟨λt x j=>?_,λ_ _ _ h=>h,λ_ _ _ h=>h.elim,λ_ _ h=>h.elim,λ_ h=>h,λt t' z p n m new br cf bd cO h1 _=>?_,iB⟩
 ·obtain ⟨v,hv,aY⟩:=h.get.2 t x j;exact ⟨v,by simpa using hv,.tree (aY.frame (λ_ _=>rfl) (λ_ h=>h) (λ_ _ h=>h.elim) (λ_ _=>rfl))⟩
 ·have:=List.all_eq_true.1 ar _ (List.mem_of_getElem? h1);cases this
structure KV (w w':World):Prop where
 kept:∀ may:MemPlace->Prop,w.keptBut w' may
 dN:∀ a,a.block<w.heap.size->w'.frozen? a=w.frozen? a
theorem b7.aao {f:FuncId}{ys:List ab}{vs:List Value}{outs:List (Option ab)}{r:Value}(aa:b7 P f ys outs (.lit r)) (w:World) (h:u1 w ys vs) (ar:ys.all (λy=>match y with | .bC ..=>false | _=>true)=true) (iB:cE.q w λb=>b<w.heap.size) :
  Calls P f vs.toArray w λe w'=>e=.returned r/\KV w w'/\∀ i:Nat,i<w.heap.size->w'.heap[i]?=w.heap[i]?:=by
 have:=aa.2 w _ vs _ h.get.1.symm (h.ZD ar iB);refine this.mono ?_;rintro e w' ⟨v,I',b1,rfl,bh,bL⟩;obtain ⟨u,hu,aY⟩:=bh.rel outs.length (.lit r) (by simp [lX]);have ai:outs.length=vs.length:=by rw [aa.1]; exact h.get.1
 have Ev:u=v:=by
  rw [ai] at hu;simpa using hu.symm
 subst Ev;have hv:=(aY.gV (by simp)).h2.1;subst hv;have av:∀ i:Nat,i<w.heap.size->w'.heap[i]?=w.heap[i]?:=λi hi=>bL.ek.block i hi λ⟨_,h⟩=>h;have hk:World.keptBut w w' (λ_=>False):=⟨bL.ek.os,bL.ek.output,λi hi=>by
  rw [av i hi];exact (World.keptBut_refl w (λ_=>False)).2.2 i hi⟩
 exact ⟨rfl,⟨λmay=>World.keptBut_mono (λ_ f=>f.elim) hk,λa aQ=>bL.ek.dN a aQ λ⟨_,h⟩=>h⟩,av⟩
theorem P8 {H:Type}{enc:TypeId × Value->H}{w w':World}{base:Nat}{sp:Nat->Bool}{held:Bool}(av:∀ i:Nat,i<w.heap.size->w'.heap[i]?=w.heap[i]?) :
  ∀ {ts:List TypeId}{vs:List Value}{ds:List (DataW H)}{ps:List MemPlace},DataW.TrodAll enc P w base sp held ts vs ds ps->DataW.TrodAll enc P w' base sp held ts vs ds ps
 | [],[],[],_,h=>h
 | _::_,_::_,_::_,_,⟨p,q,⟨n,aA⟩,af,e⟩=>by
  refine ⟨p,q,⟨n,DataW.trod_carry n _ _ _ aA λx j=>?_⟩,P8 av af,e⟩;have aR:=DataW.trod_lt n _ _ _ aA x j;cases x with
  | cell b off =>
   show w'.cell? _=w.cell? _;exact World.cell?_of_block (av b aR)
  | map b=>exact av b aR
theorem RD {H:Type}{enc:TypeId × Value->H}{w w':World}(ai:laidOutB P=true) (hm:mapsRowed P=true)
  (aT:((List.range P.types.size).all λt=>match P.underlying t with | some (.slice e)=>decide (0<P.cellsOf e) | _=>true)=true)
  (av:∀ i:Nat,i<w.heap.size->w'.heap[i]?=w.heap[i]?) {ts:List TypeId}{vs:List Value}{ds:List (DataW H)}{ps:List MemPlace}(al:ts.all (λt=>decide (t<P.types.size))=true)
  (h:DataW.TrodAll enc P w 0 (λ_=>true) true ts vs ds ps) {sp:Nat->Bool}(mh:∀ p∈ps,sp p.block=true):DataW.TrodAll enc P w' 0 sp true ts vs ds ps :=
 (P8 av h).respare (kids_rows ai hm) (slices_full_of P aT) (λt h=>of_decide_eq_true (List.all_eq_true.1 al t h)) mh
end Go.Own
namespace Go.Own
open Go
set_option linter.unusedSectionVars false
variable [cE]
section
variable {α β:Type}{P:Program}{N:cP}{g g1:aI}{p:Place}{m:Int}{a b:Operand}{t:TypeId}
theorem ab.Lo:∀ (l:List Nat) {x nd:ab}{k:Nat}{c:ab},x.at l=some nd->nd.kids[k]?=some c->x.at (l++[k])=some c
 | [],x,nd,k,c,h,hk=>by
  simp only [ab.at,Option.some.injEq] at h;subst h;simp [ab.at,hk]
 | J::l,x,nd,k,c,h,hk=>by
  simp only [ab.at] at h;cases aj:x.kids[J]? with
  | none=>rw [aj] at h; cases h
  | some y =>
   rw [aj] at h;simp only [List.cons_append,ab.at,aj];exact ab.Lo l h hk
theorem ab.Pv:∀ (l:List Nat) {x nd:ab}{k:Nat}{c:ab}(y:ab),x.at l=some nd->nd.kids[k]?=some c->x.setAt (l++[k]) y=x.setAt l (nd.uS k y)
 | [],x,nd,k,c,y,h,hk=>by
  simp only [ab.at,Option.some.injEq] at h;subst h;simp [ab.setAt,hk]
 | J::l,x,nd,k,c,y,h,hk=>by
  simp only [ab.at] at h;cases aj:x.kids[J]? with
  | none=>rw [aj] at h; cases h
  | some z =>
   rw [aj] at h;simp only [List.cons_append,ab.setAt,aj];rw [ab.Pv l y h hk]
theorem L9 {en:bA α}{L:List α}{iE:α}{o:Nat}{c:ab}(h:idx L m=some iE) (aa:(en.cells iE)[o]?=some c):(aq en L).kids[m.toNat * en.z+o]?=some c:=O_ en h aa
theorem Ax {en:bA α}{L:List α}{iE:α}{r o:Nat}{path:List Nat}{c:ab}(ar:bx g ⟨r,path⟩=some (aq en L)) (h:idx L m=some iE) (aa:(en.cells iE)[o]?=some c):bx g ⟨r,path++[m.toNat * en.z+o]⟩=some c:=by
 unfold bx at ar ⊢;simp only at ar ⊢;cases j:g r with
 | none=>rw [j] at ar; cases ar
 | some x =>
  rw [j] at ar;exact ab.Lo path ar (L9 h aa)
theorem Zq {en:bA α}{L:List α}{iE:α}{r o:Nat}{path:List Nat}{c:ab}(y:ab) (ar:bx g ⟨r,path⟩=some (aq en L)) (h:idx L m=some iE) (aa:(en.cells iE)[o]?=some c) :
  ch g ⟨r,path++[m.toNat * en.z+o]⟩ y=ch g ⟨r,path⟩ (.own en.z L.length ((bp en L).set (m.toNat * en.z+o) y)):=by
 funext s;unfold ch;simp only;split
 ·rename_i e;subst e;unfold bx at ar;simp only at ar;cases j:g s with
  | none=>rfl
  | some x =>
   rw [j] at ar;simp only [Option.map_some,Option.some.injEq];rw [ab.Pv path y ar (L9 h aa)];rfl
 ·rfl
theorem ZB (l:List ab) (k:Nat) (x c:ab):eP (l.set k x) k [c]=eP l k [c]:=by
 unfold eP;simp only [List.length_singleton];rw [List.take_set,List.drop_set];rw [List.set_eq_of_length_le (by simp; omega)];simp
theorem bt.PR {ha:Oper}{en:bA α}{en2:bA β}{L:List α}{iE y2:α}{qL M R:List β}{o s Jx:Nat}{new cO:List ab}{x2 y0:ab}{G2:List (Nat × ab)}
  (aV:ha.op=.store t a b) (aP:ha.dst=none) (aQ:Rd g a (.ptr p (m.toNat * en.z+o))) (av:Rd g b (.bl en2.z ⟨s,[]⟩ (qL.length+Jx)))
  (qh:g s=some (.bC en2.z ⟨p.root,p.path++[m.toNat * en.z+o]⟩ qL.length Jx new)) (ar:bx g p=some (aq en L)) (h:idx L m=some iE) (me:(en.cells iE)[o]?=some (aq en2 qL)) (a6:Nat.beq p.root s=false)
  (h1:e2 (ch (ch g ⟨s,[]⟩ .dead) p (.own en.z L.length ((bp en L).set (m.toNat * en.z+o) .dead))) new cO g1)
  (nX:fm cO (bp en2 M)) (hm:M.length=Jx) (aY:qL++M=R) (aT:hL P t 1=true)
  (vx:bx g1 p=some (.own en.z L.length ((bp en L).set (m.toNat * en.z+o) .dead)))
  (he:eP (en.cells iE) o [aq en2 R]=en.cells y2) (hlen:Nat.ble (o+1) en.z=true)
  (kA:ch g1 p (aq en (L.set m.toNat y2)) p.root=some x2) (ah:(get G2 p.root).isSome=true) (vI:g1 p.root=some y0) [e8:b3 y0] (c9:lh g1 (get G2) p.root x2 G2):bt P N g ha (get G2):=by
 subst hm aY;have Bl:=Nat.le_of_ble_eq_true hlen;have mh:=O9 en (cs':=[aq en2 (qL++M)]) h he (by simpa using Bl);have pr:(L.set m.toNat y2).length=L.length:=List.length_set;have Eo:=Nat.ne_of_beq_eq_false a6;have A_:bx g ⟨p.root,p.path++[m.toNat * en.z+o]⟩=some (aq en2 qL):=Ax (g:=g) (r:=p.root) (path:=p.path) ar h me;have V8:bx (ch g ⟨s,[]⟩ .dead) p=some (aq en L):=by
  unfold bx at ar ⊢;rw [xQ (p:=⟨s,[]⟩) (λe=>Eo e)]; exact ar
 have al:e2 g [.bl en2.z ⟨s,[]⟩ (qL.length+M.length)] [.own en2.z (qL.length+M.length) (bp en2 qL++cO)] g1:=by
  refine .hb qh A_ a6 ?_ .nil;rw [Zq .dead (r:=p.root) (path:=p.path) V8 h me];exact h1
 have hk:m.toNat * en.z+o+1<=L.length * en.z:=by
  obtain ⟨CL,kF,_⟩:=r1 h;have af:m.toNat+1<=L.length:=by omega
  calc m.toNat * en.z+o+1<=m.toNat * en.z+en.z:=by omega
   _=(m.toNat+1) * en.z:=by rw [Nat.add_mul]; omega
   _<=L.length * en.z:=Nat.mul_le_mul_right _ af
 refine .store aV aP aQ.bm av.bm al.take (y':=aq en2 (qL++M)) ?_ rfl aT (p:=p) (nd:=.own en.z L.length ((bp en L).set (m.toNat * en.z+o) .dead)) (z:=en.z) (n:=L.length) (cs:=(bp en L).set (m.toNat * en.z+o) .dead) vx (.inl rfl) ?_ (by simp) (λt x j=>?_) (λt x j y ak=>?_) (λt z q n m new j=>?_) (by intro e; rw [e] at ah; cases ah)
 ·rw [<- oV]; exact (nX.pre _).own
 ·simp only [List.length_singleton,List.length_set,oY]; exact hk
 ·have fj:(ab.own en.z L.length ((bp en L).set (m.toNat * en.z+o) .dead)).eP (m.toNat * en.z+o) [aq en2 (qL++M)]=aq en (L.set m.toNat y2):=by
   show ab.own en.z L.length (eP ((bp en L).set (m.toNat * en.z+o) .dead) (m.toNat * en.z+o) [aq en2 (qL++M)])=_;unfold aq at mh ⊢;rw [ZB,mh,pr]
  rw [fj];rcases c9.spec t x j with ⟨h1,af,_⟩ | ⟨h1,af,_⟩
  ·rw [xQ h1]; exact af
  ·subst h1 af; exact kA
 ·rcases c9.spec t x j with ⟨h1,af,aF⟩ | ⟨h1,af,aF⟩
  ·rw [af] at ak; cases ak;rcases aF with aF | ⟨aF,c2,rfl⟩
   ·exact aF.JZ
   ·refine j_.ref (by cases aF; rfl) ⟨aF.Oy,aF.clear ?_,aF.JG⟩;intro e;obtain ⟨fl,pp⟩:=p;simp only at e;subst e;simp only [ch,if_true,vI,Option.map_some,ab.setAt,Option.some.injEq] at kA;cases kA
  ·subst h1; rw [vI] at ak; cases ak; exact .bg e8.bg
 ·rcases c9.spec t _ j with ⟨_,_,aF | ⟨aF,_⟩⟩ | ⟨_,_,aF⟩
  ·exact aF.fk _ _ _ _ _ rfl
  ·exact aF.fk _ _ _ _ _ rfl
  ·cases aF
end
end Go.Own
/- Short forms for printed walks. -/
namespace Go.Own
open Go
set_option linter.unusedSectionVars false
variable [cE]
section
variable {P:Program}{N:cP}{ops:Array Oper}{a':List (List Nat)}{g g0:aI}{K:aI->Prop}{l:List Oper}{acc:Acc}{d i:Nat}{op:Op}{ty:TypeId}{pos:String}{after:Array Edge}{x:ab}
theorem ay (ar:b5 P g op ty x) (hk:aC P N ops l (cH g d x) K) (a7:N.ok d=true:=by rfl) (aS:g d=none:=by rfl):aC P N ops (⟨some d,op,ty,pos,after,none⟩::l) g K:=.v ar a7 aS .none hk
theorem hD (ar:dd P g op x) (hk:aC P N ops l (cH g d x) K) (a7:N.ok d=true:=by rfl) (aS:g d=none:=by rfl):aC P N ops (⟨some d,op,ty,pos,after,none⟩::l) g K:=.c ar a7 aS .none hk
theorem aM (bw:Nat) (ar:b5 P (jn a' g0 bw acc) op ty x) (hk:bH P N ops a' g0 i ((bw,d,some x)::acc) l K) (aj:Nat.beq ops.size (bw+l.length+1)=true:=by rfl) (aS:g0 d=none:=by rfl) (aA:acc.all (λe=>!Nat.beq e.2.1 d)=true:=by rfl) (a7:N.ok d=true:=by rfl) :
  bH P N ops a' g0 i acc (⟨some d,op,ty,pos,after,none⟩::l) K:=.v bw ar aj aS aA a7 .none hk
theorem ot (bw:Nat) (ar:dd P (jn a' g0 bw acc) op x) (hk:bH P N ops a' g0 i ((bw,d,some x)::acc) l K) (aj:Nat.beq ops.size (bw+l.length+1)=true:=by rfl) (aS:g0 d=none:=by rfl) (aA:acc.all (λe=>!Nat.beq e.2.1 d)=true:=by rfl) (a7:N.ok d=true:=by rfl) :
  bH P N ops a' g0 i acc (⟨some d,op,ty,pos,after,none⟩::l) K:=.c bw ar aj aS aA a7 .none hk
end
instance {z n:Nat}{cs:List ab}:mS (.own z n cs):=⟨by simp⟩
def aN (a n:Nat) (l:List Nat):List Nat:=List.range' a n++l
end Go.Own
namespace Go.Own
open Go
set_option linter.unusedSectionVars false
variable [cE]
section
variable {α:Type}{P:Program}{N:cP}{g:aI}{d r:Nat}{ty:TypeId}
instance {fn:Fn}{cs:List ab} [h:dh cs]:b3 (.di fn [] cs):=⟨.di (by simp) h.bg⟩
theorem O.EW {fn:Fn}{caps:List Operand}{b:List ab}(av:Own.fB g caps=some b):b5 P g (.makeFunc fn #[] caps.toArray) ty (.di fn [] b):=.Cj (.makeFunc rfl (by simpa using av))
theorem View.cl {fn:Fn}{cs cs':List ab}(h:oz g cs cs'):View g (.di fn [] cs) (.di fn [] cs'):=.di h.len h.get
theorem hN.jK {o:Oper}{xs:List Operand}{gh:Array TypeId}{f:FuncId}{ys args:List ab}{res:ab}{en:bA α}{L hC:List α}{G2:List (Nat × ab)}(aV:o.op=.call { callee:=.value (.func f),args:=xs.toArray,argTypes:=gh }) (aP:o.dst=some d) (j:Own.fB g xs=some (.bl en.z ⟨r,[]⟩ L.length::ys))
  (aw:g r=some (aq en L)) (hv:oz (get ((r,.dead)::G2)) ys args) (gS:b7 P f (aq en L::args) (some (aq en hC)::args.map λ_=>none) res) (aS:ju P f=true) [ah:ow res] [nt:ow (aq en hC)]
  (c9:Trim false (ch g ⟨r,[]⟩ .dead) (get ((r,.dead)::G2)) G2) (aK:get G2 d=none) (rT:Nat.beq r d=false) (A1:Trim false (get ((r,aq en hC)::G2)) (get ((r,aq en hC)::G2)) G2) (a7:N.ok d=true) :
  hN P N g o d (get ((d,res)::(r,aq en hC)::G2)):=by
 have By:r≠d:=Nat.ne_of_beq_eq_false rT;have GY:get ((r,ab.dead)::G2) r=some .dead:=by simp [get]
 have mJ:∀ x∈bp en L,cA x:=by
  intro x j;obtain ⟨a,_,aQ⟩:=List.mem_flatMap.1 j;exact en.bg a x aQ
 have fp:(bp en L).take (L.length * en.z)=bp en L:=List.take_of_length_le (by rw [oY]; exact Nat.le_refl _);have xe:hh (ch g ⟨r,[]⟩ .dead) (get ((r,.dead)::G2)):=by
  refine ⟨λt x h=>?_,λt x h=>?_,λt z q n m new h=>?_⟩
  all_goals
   simp only [get] at h
   split at h
  ·rename_i e; subst e; cases h; simp [ch,aw,ab.setAt]
  ·obtain ⟨⟨y,h1,_,aF⟩,_⟩:=c9.spec t x h; rw [<- aF rfl]; exact h1
  ·cases h; exact .bg .dead
  ·exact (c9.spec t x h).2.1
  ·cases h
  ·exact (c9.spec t _ h).2.2 _ _ _ _ _ rfl
 have put:qy (get ((r,.dead)::G2)) [(⟨r,[]⟩,aq en hC)]=get ((r,aq en hC)::G2):=by
  funext t;simp only [qy,ch,get];by_cases h:t=r
  ·simp [h,ab.setAt]
  ·simp [h]
 have xf:hh (get ((r,aq en hC)::G2)) (get ((r,aq en hC)::G2)):=by
  refine ⟨λt x h=>h,λt x h=>?_,λt z q n m new h=>?_⟩
  all_goals
   simp only [get] at h
   split at h
  ·cases h; exact .bg nt.k6.bg
  ·exact (A1.spec t x h).2.1
  ·cases h
  ·exact (A1.spec t _ h).2.2 _ _ _ _ _ rfl
 have ai:=hv.len;have mC:get ((d,res)::(r,aq en hC)::G2)=cH (get ((r,aq en hC)::G2)) d res:=by
  funext t;rw [sI]
 rw [mC];refine x_.ok (first:=[]) (caps:=[]) (ys:=.bl en.z ⟨r,[]⟩ L.length::ys) (tk:=λk=>k == 0) (vw:=true) (outs:=some (aq en hC)::args.map λ_=>none) (g1:=ch g ⟨r,[]⟩ .dead) (g2:=get ((r,.dead)::G2)) (g4:=get ((r,aq en hC)::G2)) (l:=[(⟨r,[]⟩,aq en hC)]) (ks:=λ_=>0) (xs0:=.bl en.z ⟨r,[]⟩ L.length::ys.map λ_=>.dead) (xs1:=aq en L::ys.map λ_=>.dead) (args:=aq en L::args) (res:=res) aV aP rfl (by simpa using j)
  ⟨aS,by simp,by simpa using ai,λk x h=>?_,?_,xe,λk x y j ak=>?_,gS,by simpa using ah.k6,λk x h=>?_,λJ p x aj=>?_,by simp,λi J hi aj _=>by simp at hi aj; omega,by rw [put]; exact xf⟩ ?_ a7 wg.refl
 ·simp only [List.nil_append,List.append_nil] at h;cases k with
  | zero=>exact .inl h
  | succ k =>
   refine .inr ?_;simp only [List.getElem?_cons_succ] at h ⊢;rw [List.getElem?_map,h]; rfl
 ·have h1:Take (ch g ⟨r,[]⟩ .dead) ((bp en L).take (L.length * en.z)) (bp en L) (ch g ⟨r,[]⟩ .dead):=by rw [fp]; exact .bg mJ
  refine .bl (N:=L.length) (by simp [bx,aw,ab.at]) (Nat.le_refl _) h1 (.bg λx j=>?_);obtain ⟨_,_,rfl⟩:=List.mem_map.1 j;exact .dead
 ·simp only [List.nil_append,List.append_nil] at j;cases k with
  | zero=>simpa using ak
  | succ k =>
   simp only [List.getElem?_cons_succ] at j ak;exact ⟨rfl,hv.get k x y j ak⟩
 ·cases k with
  | zero=>simp only [List.getElem?_cons_zero,Option.some.injEq] at h; subst h; exact nt.k6
  | succ k =>
   simp only [List.getElem?_cons_succ,List.getElem?_map] at h;cases aQ:args[k]? <;> rw [aQ] at h <;> cases h
 ·cases J with
  | succ J=>simp at aj
  | zero =>
   simp only [List.getElem?_cons_zero,Option.some.injEq,Prod.mk.injEq] at aj;obtain ⟨rfl,rfl⟩:=aj;exact ⟨rfl,by simp [bx,GY,ab.at],.inl ⟨en.z,L.length,bp en L,rfl,by simp [bx,aw,ab.at]⟩,λ_ h=>by cases h⟩
 ·simp only [get,if_neg (Ne.symm By)]; exact aK
end
end Go.Own
namespace Go.Own
open Go Go.Proofs Go.Shelf Go.Lib Go.Sort
set_option linter.unusedSectionVars false
variable [cE]
section
variable {P:Program}{w:World}
end
end Go.Own
namespace Go.Own
open Go
set_option linter.unusedSectionVars false
variable [cE]
section
variable {α:Type}{P:Program}{N:cP}{g g1 g2 g3:aI}{ops:Array Oper}{a':List (List Nat)}{acc:Acc}{l:List Oper}{K:aI->Prop}{i d r:Nat}
theorem cB.settle {w:World}{I:a_}{T:Array Value}{Fs:Nat->a_}(h:cB w I T g Fs) (a:Act) (aQ:a.tmps=T) {ts:List Nat}{xs ys:List ab}(j:Own.fB g (ts.map Operand.tmp)=some xs) (al:Take g xs ys g1) (fj:ts.Nodup) (ai:ys.length=ts.length) (aP:∀ t∈ts,g1 t=some .dead)
  (hk:hh (qy g1 ((ts.map λt=>(⟨t,[]⟩:Place)).zip ys)) g2):∃ b1,cB w I T g2 b1/\∀ c,(∃ t,b1 t c)->∃ t,Fs t c:=by
 obtain ⟨IZ,W9⟩:=zp h aQ j;have W8:xs.length=ts.length:=by rw [IZ,List.length_map]
 have hand:Hand w I (fI w T) Fs xs (ts.map λt=>a.eval (.tmp t)) (λ_=>cr):=by
  refine ⟨by rw [W8,List.length_map],λk x u qm hu=>?_,λ_ _ _ _ _ h=>h.elim,λ_ _ _ _ h=>h.elim,λ_ _ _ h=>h.elim⟩;rw [List.getElem?_map] at hu;cases fp:ts[k]? with
  | none=>rw [fp] at hu; cases hu
  | some t =>
   rw [fp] at hu; cases hu;exact (W9 k x (.tmp t) qm (by rw [List.getElem?_map,fp]; rfl)).frame (λ_ _=>rfl) (λ_ h=>h) (λ_ _ h=>h.1) λ_ _=>rfl
 obtain ⟨fH,H1,iO,ih,g_⟩:=al.sound h.mo hand;have uz:((ts.map λt=>(⟨t,[]⟩:Place)).zip ys).length=ts.length:=by rw [List.length_zip,List.length_map,ai]; exact Nat.min_self _
 obtain ⟨iJ,hY,aG⟩:=jr.qy ((ts.map λt=>(⟨t,[]⟩:Place)).zip ys) H1 (λJ=>((ts.map λt=>a.eval (.tmp t))[J]?).getD undef) iO (by
   rw [List.map_fst_zip (by rw [List.length_map,ai]; exact Nat.le_refl _)];exact List.Pairwise.map _ (λa b h e=>h (congrArg Place.root e)) fj) (λJ p x aj=>by
   rw [List.getElem?_zip_eq_some] at aj;obtain ⟨h1,af⟩:=aj;rw [List.getElem?_map] at h1;cases fp:ts[J]? with
   | none=>rw [fp] at h1; cases h1
   | some t =>
    rw [fp] at h1; cases h1;have M3:=aP t (List.mem_of_getElem? fp);obtain ⟨v,hv,_⟩:=iO.rel t .dead M3;have nk:a.eval (.tmp t)=v:=by simp [Act.eval,aQ,hv]
    have IH:(ts.map λt=>a.eval (.tmp t))[J]?=some v:=by rw [List.getElem?_map,fp]; simp [nk]
    refine ⟨by simp [bx,M3,ab.at],?_,?_,λi e=>?_⟩
    ·rw [IH];show dS w T ⟨t,[]⟩=some v;unfold dS;simp only [hv,walk]
    ·rw [IH];exact ih.rel J x v af IH
    ·subst e; exact OD j J i (al.self J i af)) (λJ t c aj aa=>ih.off J t c (by omega) aa) (λJ c aj aa=>ih.bk J c (by omega) aa) (λi J c hi aj h1 af=>ih.eB i J c (by omega) (by omega) h1 af)
 refine ⟨_,hY.keep hk,λc ⟨t,_,aa⟩=>?_⟩;have:la fH ys.length H1 c:=by
  rcases aG t c aa with h | ⟨J,aj,h⟩
  ·exact .inl ⟨t,h⟩
  ·exact .inr ⟨J,by omega,h⟩
 rcases g_ c this with h | ⟨_,_,h⟩
 ·exact h
 ·exact h.elim
theorem iv.settle {o:Oper}{ts:List Nat}{xs ys:List ab}(j:Own.fB g (ts.map Operand.tmp)=some xs) (al:Take g xs ys g1) (fj:ts.Nodup) (ai:ys.length=ts.length) (aP:∀ t∈ts,g1 t=some .dead)
  (hk:hh (qy g1 ((ts.map λt=>(⟨t,[]⟩:Place)).zip ys)) g2) (he:iv P N g2 o g3):iv P N g o g3:=by
 intro w I T Fs bh a aQ a7 K Q c5;obtain ⟨b1,dX,fw⟩:=bh.settle a aQ j al fj ai aP hk;refine he w I T b1 dX a aQ a7 K Q λb0 w' aA al=>c5 b0 w' ?_ al;obtain ⟨b2,bZ,I',iJ,h1,af⟩:=aA;exact ⟨b2,bZ,I',iJ,h1,kR.trans ⟨Fr.refl _ _,λ_ h=>h,λ_ h=>.inl h,λc h=>.inl (fw c h)⟩ af⟩
theorem Rl {Q:Nat->Prop}{a:Nat}(aQ:Q a):∀ t∈[a],Q t:=λt al=>by rw [List.mem_singleton.1 al]; exact aQ
theorem As {Q:Nat->Prop}{a b:Nat}(aQ:Q a) (av:Q b):∀ t∈[a,b],Q t:=λt al=>by
 rcases List.mem_cons.1 al with rfl | al
 ·exact aQ
 ·rw [List.mem_singleton.1 al]; exact av
def Fc (p q:Place):Bool:=Nat.beq p.root q.root&&p.path == q.path
def B':List Place->Bool
 | []=>true
 | x::l=>l.all (λy=>!Fc x y)&&B' l
theorem Oc:∀ {l:List Place},B' l=true->l.Nodup
 | [],_=>List.nodup_nil
 | p::l,h=>by
  simp only [B',Bool.and_eq_true,List.all_eq_true] at h;refine List.nodup_cons.2 ⟨λhm=>?_,Oc h.2⟩;have:=h.1 p hm;simp [Fc] at this
def XX (p:Place) (acc:Acc):Bool:=acc.all λe=>match jL e with | some q=>!Fc p q | none=>true
theorem zn {p:Place}{G:List (Nat × ab)}{A:Nat->Bool}(h:XX p acc=true) (c9:lW G=true):∀ t z n m new,c0 (get G) A acc t≠some (.bC z p n m new):=by
 intro t z n m new e;rcases uX e with ⟨b8,he,h1,_,af⟩ | ⟨_,af⟩
 ·have:=List.all_eq_true.1 h b8 he;obtain ⟨k,d,x⟩:=b8;simp only at af;subst af;simp [jL,Fc] at this
 ·exact vP c9 _ _ _ _ _ _ af
theorem O.wq {en:bA α}{L M r:List α}{y:ab}{e gp:Nat}{a b:Operand}{p:Place}{t ty:TypeId}(aw:Rd g a (.bl en.z p L.length)) (ar:bx g p=some (aq en L)) (j:Rd g b y) (hm:nN g en y M) (al:ka P t e en.z gp=true) (av:Nat.ble gp 128=true) (h:dj L M=some r) (e8:∀ t z n m new,g t≠some (.bC z p n m new)) :
  b5 P g (.call { callee:=.builtin .append,args:=#[a,b],argTypes:=#[t,t] }) ty (.bC en.z p L.length M.length (bp en M)):=by
 obtain ⟨h1,af,_⟩:=yy h av;exact .lD (.grow aw.bm (.inl ⟨_,ar⟩) (λt br cf bd cO e=>e8 _ _ _ _ _ e) j.bm hm.src al h1 af)
theorem bH.mz (bw:Nat) {G G2:List (Nat × ab)}{o:Oper}(he:iv P N (c0 (get G) (λm=>(a'.getD bw []).contains m) acc) o (get G2)) (aK:o.guard=none) (gv:B' (acc.filterMap jL)=true) (fA:lW G=true) (aj:Nat.beq ops.size (bw+l.length+1)=true)
  (fw:acc.filter (λe=>!(a'.getD bw []).contains e.1)=[])
  (av:(List.range ops.size).all (λk=>Nat.ble k bw||(a'.getD k []).contains bw)=true) (hk:bH P N ops a' (get G2) (bw+1) [] l K):bH P N ops a' (get G) i acc (o::l) K:=by
 intro dI J ck kz kv;have:=yM kv aj;subst this;obtain ⟨h1,af⟩:=drop_cons kv;obtain ⟨g',ah,c5⟩:=hk [] (J+1) .nil .nil af;refine ⟨g',.wv (U:=[]) (rs:=se []) kz (Oc gv) (vP fA) h1 ?_ he.v (λp ar=>by simp [se] at ar) fw.symm (by simp) (by simp) (by simp) ?_ ah,c5⟩
 ·unfold ic; rw [aK]
 ·refine List.all_eq_true.2 λk hk=>?_;have:=List.all_eq_true.1 av k hk;simp only [Bool.or_eq_true,decide_eq_true_eq,Nat.ble_eq] at this ⊢;exact this
theorem iv.cell {o:Oper}{r k0:Nat}{y:ab}{cs:List ab}{g5:aI}(ah:g r=some (.obj cs)) (ak:cs[k0]?=some y) (w9:cA y)
  (vv:∀ v:Value,v.oneCell'=true->∃ g1 g4,hh (ch g ⟨r,[k0]⟩ (.lit v)) g1/\iv P N g1 o g4/\bx g4 ⟨r,[k0]⟩=some (.lit v)/\hh (ch g4 ⟨r,[k0]⟩ y) g5) (lP:∀ i,y≠.self i:=by exact λ_ h=>(by cases h)):o6 P N (λp=>p∈[(⟨r,[k0]⟩:Place)]) g o g5:=by
 intro w I T Fs h a aQ a7 K Q c5;have mg:∀ z q n m new,y≠.bC z q n m new:=by rintro z q n m new rfl; cases w9
 have fx:bx g ⟨r,[k0]⟩=some y:=by simp [bx,ah,ab.at,ab.kids,ak]
 obtain ⟨v,cj,hv,dz,df,put⟩:=h.mo.part fx mg;have rV:v.oneCell'=true:=by
  obtain ⟨u,hu,mH⟩:=h.rel r _ ah;obtain ⟨b,v_,h1,af,aF,bu,_⟩:=R.node (z:=0) (n:=0) (mH.gV (by simp)) (.inr rfl) ak;have:dS w T ⟨r,[k0]⟩=child w u k0:=by
   unfold dS;simp only [hu,walk];cases child w u k0 <;> rfl
  rw [this,aF] at hv;cases hv;exact bu
 obtain ⟨fH,iO,AX,AY⟩:=put (.lit v) cr (.lit rV λ_ h=>h) (λ_ h=>h.elim) (λ_ h=>h.elim) (λ_ _ _ h=>h.elim) (λ_ h=>by cases h);obtain ⟨g1,g4,gj,cY,HL,Ik⟩:=vv v rV;have sh:∀ t c,fH t c->Fs t c/\¬ cj c:=by
  intro t c aa;by_cases al:t=r
  ·subst al;rcases (AX c).1 aa with aH | aH
   ·exact aH
   ·exact aH.elim
  ·rw [AY t al] at aa;exact ⟨aa,λaS=>al (h.eB t r c aa (df c aS))⟩
 have HG:=iO.keep gj;refine cY w I T _ HG a aQ a7 K Q λb0 w' aA sV=>?_;obtain ⟨b2,bZ,I',b1,dX,bL⟩:=aA;obtain ⟨v2,iG,za,ma,Uh,JU⟩:=dX.mo.part HL (by simp);have IG:v2=v:=ma.h2.1;subst IG;have Hw:∀ c,cj c->¬ I c:=λc aa=>h.bk r c (df c aa);have wR:∀ c,cj c->c<w.heap.size:=λc aa=>h.jJ r c (df c aa);have xu:∀ c,cj c->¬ ∃ t,(g1 t≠none/\fH t c):=λc aa ⟨t,_,aH⟩=>(sh t c aH).2 aa;have Ch:∀ t c,b1 t c->¬ cj c:=by
  intro t c aa aS;rcases bL.own c ⟨t,aa⟩ with aH | aH
  ·exact xu c aS aH
  ·have:=wR c aS; omega
 have JE:∀ c,cj c->¬ I' c:=by
  intro c aa hi;rcases bL.new c hi with aH | aH | aH
  ·exact Hw c aa aH
  ·exact xu c aa aH
  ·have:=wR c aa; omega
 have J6:∀ c,cj c->w'.heap[c]?=w.heap[c]?:=λc aa=>bL.ek.block c (wR c aa) (xu c aa);have rj:∀ c,I c->w'.heap[c]?=w.heap[c]?:=λc aa=>bL.ek.block c (h.lt c aa) λ⟨t,_,aH⟩=>h.bk t c (sh t c aH).1 aa;have A5:R w' I' (fI w' b0.tmps) y v2 cj:=((dz.bg w9).frame rj bL.more (λ_ _ h=>h) J6);obtain ⟨KS,HI,Hr,Hs⟩:=JU y cj A5 (λc aa aS=>(Ch _ c aS aa).elim) (λc aa=>JE c aa) (λt c _ aa aS=>Ch t c aS aa) (λi e=>absurd e (lP i));have sM:=HI.keep Ik;refine c5 b0 w' ⟨b2,bZ,I',_,sM,⟨?_,bL.more,λc aa=>?_,λc aa=>?_⟩⟩ sV λcK path ar y' nw ada=>?_
 ·exact bL.ek.mono λb _ ⟨t,_,aH⟩=>⟨t,(sh t b aH).1⟩
 ·rcases bL.new c aa with aH | ⟨t,_,aH⟩ | aH
  ·exact .inl aH
  ·exact .inr (.inl ⟨t,(sh t c aH).1⟩)
  ·exact .inr (.inr aH)
 ·obtain ⟨t,_,aa⟩:=aa;have:(∃ t,b1 t c)\/cj c:=by
   by_cases al:t=r
   ·subst al;rcases (Hr c).1 aa with ⟨aH,_⟩ | aH
    ·exact .inl ⟨_,aH⟩
    ·exact .inr aH
   ·rw [Hs t al] at aa; exact .inl ⟨t,aa⟩
  rcases this with aH | aH
  ·rcases bL.own c aH with ⟨t,_,fW⟩ | fW
   ·exact .inl ⟨t,(sh t c fW).1⟩
   ·exact .inr fW
  ·exact .inl ⟨r,df c aH⟩
 ·have ar:(⟨cK,path⟩:Place)∈[(⟨r,[k0]⟩:Place)]:=ar;have ar:=List.mem_singleton.1 ar;cases ar;rw [hv,za]
end
end Go.Own
namespace Go.Own
open Go
set_option linter.unusedSectionVars false
variable [cE]
section
variable {α:Type}{P:Program}{N:cP}{g:aI}{ops:Array Oper}{l:List Oper}{K:aI->Prop}{r n:Nat}{t e ty:TypeId}{a b:Operand}{m:Int}{en:bA α}{L:List α}{y y2:α}{k:IntKind}{pos:String}{after:Array Edge}
end
end Go.Own
namespace Go.Own
open Go Go.Proofs Go.Shelf Go.Lib Go.Sort
set_option linter.unusedSectionVars false
variable [cE]
section
variable {P:Program}{w:World}
class wj {α:Type}(e:bA α) where
 FD:α->List Value
 cells:∀ a,e.cells a=(FD a).map .lit
 one:∀ a,∀ v∈FD a,v.oneCell'=true
variable {α:Type}{e:bA α}
theorem wj.len [h:wj e] (a:α):(h.FD a).length=e.z:=by
 have:=e.len a;rw [h.cells,List.length_map] at this;exact this
end
end Go.Own
namespace Go.Own
open Go
set_option linter.unusedSectionVars false
variable [cE]
section
variable {α:Type}{P:Program}{N:cP}{g:aI}{d r:Nat}
theorem hN.tk {o:Oper}{x:Operand}{gh:Array TypeId}{f:FuncId}{res:ab}{en:bA α}{L:List α}{G2:List (Nat × ab)}(aV:o.op=.call { callee:=.value (.func f),args:=#[x],argTypes:=gh }) (aP:o.dst=some d) (j:Own.fB g [x]=some [.bl en.z ⟨r,[]⟩ L.length])
  (aw:g r=some (aq en L)) (gS:b7 P f [aq en L] [none] res) (aS:ju P f=true) [ah:b3 res]
  (c9:Trim false (ch g ⟨r,[]⟩ .dead) (get G2) G2) (aK:get G2 d=none) (a7:N.ok d=true) :
  hN P N g o d (get ((d,res)::G2)):=by
 have mJ:∀ x∈bp en L,cA x:=by
  intro x j;obtain ⟨a,_,aQ⟩:=List.mem_flatMap.1 j;exact en.bg a x aQ
 have fp:(bp en L).take (L.length * en.z)=bp en L:=List.take_of_length_le (by rw [oY]; exact Nat.le_refl _);have xe:hh (ch g ⟨r,[]⟩ .dead) (get G2):=by
  refine ⟨λt x h=>?_,λt x h=>(c9.spec t x h).2.1,λt z q n m new h=>(c9.spec t _ h).2.2 _ _ _ _ _ rfl⟩;obtain ⟨⟨y,h1,_,aF⟩,_⟩:=c9.spec t x h;rw [<- aF rfl]; exact h1
 have xf:hh (get G2) (get G2):=⟨λt x h=>h,λt x h=>(c9.spec t x h).2.1,λt z q n m new h=>(c9.spec t _ h).2.2 _ _ _ _ _ rfl⟩;have mC:get ((d,res)::G2)=cH (get G2) d res:=by
  funext t;rw [sI]
 rw [mC];refine x_.ok (first:=[]) (caps:=[]) (ys:=[.bl en.z ⟨r,[]⟩ L.length]) (tk:=λk=>k == 0) (vw:=false) (outs:=[none]) (g1:=ch g ⟨r,[]⟩ .dead) (g2:=get G2) (g4:=get G2) (l:=[]) (ks:=λ_=>0) (xs0:=[.bl en.z ⟨r,[]⟩ L.length]) (xs1:=[aq en L]) (args:=[aq en L]) (res:=res) aV aP rfl j
  ⟨aS,by simp,by simp,λk x h=>.inl h,?_,xe,λk x y j ak=>?_,gS,by simpa using ah.bg,λk x h=>?_,λJ p x aj=>by simp at aj,by simp,λi J hi aj _=>by simp at hi,xf⟩ aK a7 wg.refl
 ·have h1:Take (ch g ⟨r,[]⟩ .dead) ((bp en L).take (L.length * en.z)) (bp en L) (ch g ⟨r,[]⟩ .dead):=by rw [fp]; exact .bg mJ
  exact .bl (N:=L.length) (by simp [bx,aw,ab.at]) (Nat.le_refl _) h1 (.bg λx j=>by simp at j)
 ·cases k with
  | zero=>simpa using ak
  | succ k=>simp at ak
 ·cases k with
  | zero=>simp at h
  | succ k=>simp at h
end
end Go.Own
namespace Go.Own
open Go Go.Proofs Go.Shelf Go.Lib Go.Sort
set_option linter.unusedSectionVars false
variable [cE]
section
variable {α:Type} [DecidableEq α]
end
section
variable {α:Type}{e:bA α}{P:Program}{w:World}
variable [DecidableEq α] [Inhabited α]
end
end Go.Own
namespace Go.Proofs
open Tryz
open Go.Shelf Go.RowKit Go.Lib Go.Sort
set_option linter.unusedSectionVars false
variable {α:Type} [Inhabited α] [DecidableEq α]
namespace Two
open Go.Own
variable [cE]
variable {P:Program}{t:TypeId}
omit [Inhabited α] [DecidableEq α] in
theorem one (f:α->Int):OneCell λx=>Value.int .i64 (f x):=λ_=>rfl
end Two
end Go.Proofs
namespace Go.Own
open Go Go.Proofs Go.Shelf Go.Lib Go.Sort
set_option linter.unusedSectionVars false
variable [cE]
section
variable {α:Type}{e:bA α}{P:Program}{w:World}
end
end Go.Own
namespace Go.Own
open Go
set_option linter.unusedSectionVars false
variable [cE]
section
variable {α:Type}{P:Program}{N:cP}{g:aI}{d r:Nat}
end
end Go.Own
namespace Go.Own
open Go
set_option linter.unusedSectionVars false
variable [cE]
theorem q {α:Sort _}{a:α}:a=a:=rfl
abbrev bB:ByteArray:=⟨#[]⟩
theorem Cf {p:Prop} [Decidable p] (h:decide p=true):p:=of_decide_eq_true h
theorem sk {b:Bool}{g h:aI}{eL s1:Nat}{eI bc:ab}(aO:g eL=some eI) [b3 eI] (h1:g s1=some bc) [b3 bc]:Trim b g h [(eL,eI),(s1,bc)]:=(.n aO (.n h1 .nil))
theorem zW {b:Bool}{g h:aI}{eL s1 s2:Nat}{eI bc x2:ab}(aO:g eL=some eI) [b3 eI] (h1:g s1=some bc) [b3 bc] (af:g s2=some x2) [b3 x2]:Trim b g h [(eL,eI),(s1,bc),(s2,x2)]:=(.n aO (.n h1 (.n af .nil)))
theorem nF {b:Bool}{g h:aI}{eL s1 s2 cb:Nat}{eI bc x2 aZ:ab}(aO:g eL=some eI) [b3 eI] (h1:g s1=some bc) [b3 bc] (af:g s2=some x2) [b3 x2] (aF:g cb=some aZ) [b3 aZ]:Trim b g h [(eL,eI),(s1,bc),(s2,x2),(cb,aZ)]:=(.n aO (.n h1 (.n af (.n aF .nil))))
theorem sl {b:Bool}{g h:aI}{eL s1 s2 cb dk:Nat}{eI bc x2 aZ bR:ab}(aO:g eL=some eI) [b3 eI] (h1:g s1=some bc) [b3 bc] (af:g s2=some x2) [b3 x2] (aF:g cb=some aZ) [b3 aZ] (bu:g dk=some bR) [b3 bR]:Trim b g h [(eL,eI),(s1,bc),(s2,x2),(cb,aZ),(dk,bR)]:=(.n aO (.n h1 (.n af (.n aF (.n bu .nil)))))
theorem tl {b:Bool}{g h:aI}{eL s1 s2 cb dk cG:Nat}{eI bc x2 aZ bR bM:ab}(aO:g eL=some eI) [b3 eI] (h1:g s1=some bc) [b3 bc] (af:g s2=some x2) [b3 x2] (aF:g cb=some aZ) [b3 aZ] (bu:g dk=some bR) [b3 bR] (ct:g cG=some bM) [b3 bM]:Trim b g h [(eL,eI),(s1,bc),(s2,x2),(cb,aZ),(dk,bR),(cG,bM)]:=(.n aO (.n h1 (.n af (.n aF (.n bu (.n ct .nil))))))
theorem pT {b:Bool}{g h:aI}{eL s1 s2 cb dk cG da:Nat}{eI bc x2 aZ bR bM bN:ab}(aO:g eL=some eI) [b3 eI] (h1:g s1=some bc) [b3 bc] (af:g s2=some x2) [b3 x2] (aF:g cb=some aZ) [b3 aZ] (bu:g dk=some bR) [b3 bR] (ct:g cG=some bM) [b3 bM] (dJ:g da=some bN) [b3 bN]:Trim b g h [(eL,eI),(s1,bc),(s2,x2),(cb,aZ),(dk,bR),(cG,bM),(da,bN)]:=(.n aO (.n h1 (.n af (.n aF (.n bu (.n ct (.n dJ .nil)))))))
theorem P5 {b:Bool}{g h:aI}{eL s1 s2 cb dk cG da db:Nat}{eI bc x2 aZ bR bM bN bW:ab}(aO:g eL=some eI) [b3 eI] (h1:g s1=some bc) [b3 bc] (af:g s2=some x2) [b3 x2] (aF:g cb=some aZ) [b3 aZ] (bu:g dk=some bR) [b3 bR] (ct:g cG=some bM) [b3 bM] (dJ:g da=some bN) [b3 bN] (kV:g db=some bW) [b3 bW]:Trim b g h [(eL,eI),(s1,bc),(s2,x2),(cb,aZ),(dk,bR),(cG,bM),(da,bN),(db,bW)]:=(.n aO (.n h1 (.n af (.n aF (.n bu (.n ct (.n dJ (.n kV .nil))))))))
theorem adC {b:Bool}{g h:aI}{eL s1 s2 cb dk cG da db eV:Nat}{eI bc x2 aZ bR bM bN bW cm:ab}(aO:g eL=some eI) [b3 eI] (h1:g s1=some bc) [b3 bc] (af:g s2=some x2) [b3 x2] (aF:g cb=some aZ) [b3 aZ] (bu:g dk=some bR) [b3 bR] (ct:g cG=some bM) [b3 bM] (dJ:g da=some bN) [b3 bN] (kV:g db=some bW) [b3 bW] (mG:g eV=some cm) [b3 cm]:Trim b g h [(eL,eI),(s1,bc),(s2,x2),(cb,aZ),(dk,bR),(cG,bM),(da,bN),(db,bW),(eV,cm)]:=(.n aO (.n h1 (.n af (.n aF (.n bu (.n ct (.n dJ (.n kV (.n mG .nil)))))))))
theorem Z2 {b:Bool}{g h:aI}{eL s1 s2 cb dk cG da db eV fE:Nat}{eI bc x2 aZ bR bM bN bW cm ed:ab}(aO:g eL=some eI) [b3 eI] (h1:g s1=some bc) [b3 bc] (af:g s2=some x2) [b3 x2] (aF:g cb=some aZ) [b3 aZ] (bu:g dk=some bR) [b3 bR] (ct:g cG=some bM) [b3 bM] (dJ:g da=some bN) [b3 bN] (kV:g db=some bW) [b3 bW] (mG:g eV=some cm) [b3 cm] (yQ:g fE=some ed) [b3 ed]:Trim b g h [(eL,eI),(s1,bc),(s2,x2),(cb,aZ),(dk,bR),(cG,bM),(da,bN),(db,bW),(eV,cm),(fE,ed)]:=(.n aO (.n h1 (.n af (.n aF (.n bu (.n ct (.n dJ (.n kV (.n mG (.n yQ .nil))))))))))
theorem Z3 {b:Bool}{g h:aI}{eL s1 s2 cb dk cG da db eV fE re:Nat}{eI bc x2 aZ bR bM bN bW cm ed bG:ab}(aO:g eL=some eI) [b3 eI] (h1:g s1=some bc) [b3 bc] (af:g s2=some x2) [b3 x2] (aF:g cb=some aZ) [b3 aZ] (bu:g dk=some bR) [b3 bR] (ct:g cG=some bM) [b3 bM] (dJ:g da=some bN) [b3 bN] (kV:g db=some bW) [b3 bW] (mG:g eV=some cm) [b3 cm] (yQ:g fE=some ed) [b3 ed] (rL:g re=some bG) [b3 bG]:Trim b g h [(eL,eI),(s1,bc),(s2,x2),(cb,aZ),(dk,bR),(cG,bM),(da,bN),(db,bW),(eV,cm),(fE,ed),(re,bG)]:=(.n aO (.n h1 (.n af (.n aF (.n bu (.n ct (.n dJ (.n kV (.n mG (.n yQ (.n rL .nil)))))))))))
section
variable {P:Program}{N:cP}{ops:Array Oper}{g:aI}{K:aI->Prop}{l:List Oper}{d t:Nat}{ty:TypeId}{pos:String}{after:Array Edge}{v:Value}
theorem iI {G1:List (Nat × ab)}(h:Trim true g (get G1) G1):aC P N ops [] g λg'=>j' g' (get G1):=.fin h
theorem dF (h:g t=some (.lit v)) (hk:aC P N ops l (cH g d (.lit v)) K) (a7:N.ok d=true:=by rfl) (aS:g d=none:=by rfl):aC P N ops (⟨some d,.move (.tmp t),ty,pos,after,none⟩::l) g K:=ay (O.a8 (.lit h)) hk a7 aS
theorem sz (h:g t=some (.lit v)) (hk:aC P N ops l (cH g d (.lit v)) K) (a7:N.ok d=true:=by rfl) (aS:g d=none:=by rfl):aC P N ops (⟨some d,.assign (.tmp t),ty,pos,after,none⟩::l) g K:=ay (O.dG (.lit h)) hk a7 aS
theorem K' (h:ofConst v=.lit v) (hk:aC P N ops l (cH g d (.lit v)) K) (a7:N.ok d=true:=by rfl) (aS:g d=none:=by rfl):aC P N ops (⟨some d,.assign (.const v),ty,pos,after,none⟩::l) g K:=ay (O.dG (.k h)) hk a7 aS
end
end Go.Own
namespace Go.Own
open Go
set_option linter.unusedSectionVars false
variable [cE]
section
variable {α:Type}{g:aI}
end
end Go.Own
namespace Go.Own
open Go
set_option linter.unusedSectionVars false
variable [cE]
section
variable {α:Type}{P:Program}{N:cP}{g:aI}{d r:Nat}
theorem hN.j6 {o:Oper}{xs:List Operand}{gh:Array TypeId}{f:FuncId}{ys:List ab}{res:ab}{en:bA α}{L:List α}{G2:List (Nat × ab)}(aV:o.op=.call { callee:=.value (.func f),args:=xs.toArray,argTypes:=gh }) (aP:o.dst=some d) (j:Own.fB g xs=some (.bl en.z ⟨r,[]⟩ L.length::ys))
  (aw:g r=some (aq en L)) (gS:b7 P f (aq en L::ys) (none::ys.map λ_=>none) res) (aS:ju P f=true) [ah:b3 res] [aA:dh ys]
  (c9:Trim false (ch g ⟨r,[]⟩ .dead) (get G2) G2) (aK:get G2 d=none) (a7:N.ok d=true) :
  hN P N g o d (get ((d,res)::G2)):=by
 have mJ:∀ x∈bp en L,cA x:=by
  intro x j;obtain ⟨a,_,aQ⟩:=List.mem_flatMap.1 j;exact en.bg a x aQ
 have fp:(bp en L).take (L.length * en.z)=bp en L:=List.take_of_length_le (by rw [oY]; exact Nat.le_refl _);have xe:hh (ch g ⟨r,[]⟩ .dead) (get G2):=by
  refine ⟨λt x h=>?_,λt x h=>(c9.spec t x h).2.1,λt z q n m new h=>(c9.spec t _ h).2.2 _ _ _ _ _ rfl⟩;obtain ⟨⟨y,h1,_,aF⟩,_⟩:=c9.spec t x h;rw [<- aF rfl]; exact h1
 have xf:hh (get G2) (get G2):=⟨λt x h=>h,λt x h=>(c9.spec t x h).2.1,λt z q n m new h=>(c9.spec t _ h).2.2 _ _ _ _ _ rfl⟩;have mC:get ((d,res)::G2)=cH (get G2) d res:=by
  funext t;rw [sI]
 rw [mC];refine x_.ok (first:=[]) (caps:=[]) (ys:=.bl en.z ⟨r,[]⟩ L.length::ys) (tk:=λ_=>true) (vw:=false) (outs:=none::ys.map λ_=>none) (g1:=ch g ⟨r,[]⟩ .dead) (g2:=get G2) (g4:=get G2) (l:=[]) (ks:=λ_=>0) (xs0:=.bl en.z ⟨r,[]⟩ L.length::ys) (xs1:=aq en L::ys) (args:=aq en L::ys) (res:=res) aV aP rfl (by simpa using j)
  ⟨aS,by simp,by simp,λk x h=>.inl (by simpa using h),?_,xe,λk x y j ak=>by simpa using ak,gS,by simpa using ah.bg,λk x h=>?_,λJ p x aj=>by simp at aj,by simp,λi J hi aj _=>by simp at hi,xf⟩ aK a7 wg.refl
 ·have h1:Take (ch g ⟨r,[]⟩ .dead) ((bp en L).take (L.length * en.z)) (bp en L) (ch g ⟨r,[]⟩ .dead):=by rw [fp]; exact .bg mJ
  exact .bl (N:=L.length) (by simp [bx,aw,ab.at]) (Nat.le_refl _) h1 (.bg aA.bg)
 ·cases k with
  | zero=>simp at h
  | succ k =>
   simp only [List.getElem?_cons_succ,List.getElem?_map] at h;cases aQ:ys[k]? <;> rw [aQ] at h <;> cases h
end
end Go.Own
namespace Go.Own
open Go
set_option linter.unusedSectionVars false
variable [cE]
class u5 (x:ab):Prop where pl:Pl x
class Dn (cs:List ab):Prop where pl:∀ x∈cs,Pl x
instance {v:Value}:u5 (.lit v):=⟨.lit⟩
instance:u5 .aU:=⟨.aU⟩
instance {z n:Nat}{cs:List ab} [h:dh cs]:u5 (.bk z n cs):=⟨.bk h.bg⟩
instance {α:Type}{e:bA α}{L:List α}:u5 (ao e L):=⟨.bk (dh.bg (cs:=bp e L))⟩
instance {cs:List ab} [h:Dn cs]:u5 (.agg cs):=⟨.agg h.pl⟩
instance:Dn []:=⟨by simp⟩
instance {x:ab}{cs:List ab} [h:u5 x] [aH:Dn cs]:Dn (x::cs):=⟨λy ak=>by
 rcases List.mem_cons.1 ak with rfl | ak
 ·exact h.pl
 ·exact aH.pl y ak⟩
class Dl (G:List (Nat × ab)):Prop where bg:∀ t x,get G t=some x->cA x
instance:Dl []:=⟨λt x h=>by cases h⟩
instance {s:Nat}{x:ab}{G:List (Nat × ab)} [h:b3 x] [aH:Dl G]:Dl ((s,x)::G):=⟨λt y ak=>by
 simp only [get] at ak
 split at ak
 ·cases ak; exact h.bg
 ·exact aH.bg t y ak⟩
class yn (acc:Acc):Prop where bg:∀ e∈acc,∀ x,e.2.2=some x->cA x
instance:yn []:=⟨by simp⟩
instance {k d:Nat}{x:ab}{acc:Acc} [h:b3 x] [aH:yn acc]:yn ((k,d,some x)::acc):=⟨λe he y ak=>by
 rcases List.mem_cons.1 he with rfl | he
 ·cases ak; exact h.bg
 ·exact aH.bg e he y ak⟩
instance {k d:Nat}{acc:Acc} [aH:yn acc]:yn ((k,d,none)::acc):=⟨λe he y ak=>by
 rcases List.mem_cons.1 he with rfl | he
 ·cases ak
 ·exact aH.bg e he y ak⟩
theorem LK {G:List (Nat × ab)}{A:Nat->Bool}{acc:Acc} [h:Dl G] [aH:yn acc]:F_ (c0 (get G) A acc):=by
 have key:∀ t x,c0 (get G) A acc t=some x->cA x:=λt x j=>by
  rcases uX j with ⟨e,he,_,_,af⟩ | ⟨_,af⟩
  ·exact aH.bg e he x af
  ·exact h.bg t x af
 exact ⟨λt x j=>.bg (key t x j),λt z q n m new j=>by cases key t _ j⟩
end Go.Own
namespace Go.Own
open Go Go.MapKept Go.ChangeMaps
set_option linter.unusedSectionVars false
variable [cE]
section
variable {P:Program}{w:World}{I:a_}{T:Array Value}{g g2:aI}{Fs:Nat->a_}
end
end Go.Own
namespace Go.Own
open Go Go.MapKept Go.ChangeMaps Go.WideElems
set_option linter.unusedSectionVars false
variable [cE]
open Go.Maps (Keyed)
set_option linter.unusedVariables false
variable {ko l3:Type}{P:Program}{k e:TypeId}
abbrev yr:Value->Option (DataW Value × List MemPlace):=λv=>some (.held v,[])
def sj [DecidableEq ko]:List (ko × l3)->ko->Option l3
 | [],_=>none
 | p::m,x=>if p.1=x then some p.2 else sj m x
def N_ [DecidableEq ko] (ok:ko->Bool) (z:l3) (m:List (ko × l3)) (x:ko):Option l3:=if ok x then some ((sj m x).getD z) else none
def Oa (ok:ko->Bool) (m:List (ko × l3)) (x:ko) (y:l3):Option (List (ko × l3)):=if ok x&&decide (m.length<=lim) then some ((x,y)::m) else none
structure KZ (P:Program) (k:TypeId) (ko:Type) where
 q3:ko->Value
 ze:ko->Lit
 NW:ko->ab
 ok:ko->Bool
 keyed:Keyed P k
 key:∀ x,ok x=true->keyOf P k (q3 x)=some (ze x)
 inj:∀ x y,ze x=ze y->x=y
 Lq:∀ (x:ko) (w:World) (I:a_) (ρ:ab->Value->Prop) (v:Value),R w I ρ (NW x) v cr->v=q3 x
structure K0 (P:Program) (e:TypeId) (l3:Type) where
 pU:l3->Value
 Kp:l3->ab
 z:l3
 zero:∀ w,(zeroValue e).run P w=.ok (pU z) w
 one:∀ x,(pU x).oneCell'=true
 Lq:∀ (x:l3) (w:World) (I:a_) (ρ:ab->Value->Prop) (v:Value),R w I ρ (Kp x) v cr->v=pU x
 nG:∀ (x:l3) (w:World) (I:a_) (ρ:ab->Value->Prop),R w I ρ (Kp x) (pU x) cr
def xU (P:Program) (k:TypeId) (es:Array MapEntry):List (Lit × DataW Value):=(es.toList.map (rg P k yr)).foldr DataW.insert []
def tB [DecidableEq ko] (K:KZ P k ko) (V:K0 P e l3) (m:List (ko × l3)):Array MapEntry->Nat->Prop:=λes c=>Fit P k yr es c/\es.size<=m.length/\∀ x F3,(DataW.map (xU P k es)).atKey (K.ze x) F3=match sj m x with | some y=>.held (V.pU y) | none=>F3
variable [DecidableEq ko] {K:KZ P k ko}{V:K0 P e l3}{m bd:List (ko × l3)}{x:ko}{y:l3}{t:TypeId}
theorem tB.nil:tB K V [] #[] 0:=⟨⟨by simp,stamped_empty 0,by simp⟩,Nat.le_refl _,λx F3=>rfl⟩
theorem tB.look (ok:Bool) (cY:K.ok x=true) (al:P.underlying t=some (.map k e)) (w:World) (b:Nat) (es:Array MapEntry) (c:Nat) (av:w.heap[b]?=some (.map es c)) (h:tB K V m es c) :
  (Instr.lookup t (.map (some b)) (K.q3 x) ok).run P w=.ok (if ok then .tuple #[V.pU ((sj m x).getD V.z),.bool (sj m x).isSome] else V.pU ((sj m x).getD V.z)) w:=by
 obtain ⟨F,_,fx⟩:=h;have fx:=fx x;rcases Maps.fit_look ok K.keyed al (V.zero w) av F (K.key x cY) with ⟨h0,_,af⟩ | ⟨gQ,y,_,_,h0,ak,af,_⟩
 ·have:sj m x=none:=by
   cases aK:sj m x with
   | none=>rfl
   | some y =>
    have h1:=fx .nil;rw [aK] at h1;have aF:=af .nil;unfold xU at h1;rw [h1] at aF; cases aF
  rw [h0,this]; rfl
 ·cases ak;cases aK:sj m x with
  | none =>
   have h1:=fx .nil;rw [aK] at h1;have aF:=af .nil;unfold xU at h1;rw [h1] at aF; cases aF
  | some y =>
   have h1:=fx .nil;rw [aK] at h1;have aF:=af .nil;unfold xU at h1;rw [h1] at aF;have bu:gQ.val=V.pU y:=by simpa using aF.symm
   rw [h0,bu]; rfl
theorem tB.put (aO:Oa K.ok m x y=some bd) (al:P.underlying t=some (.map k e)) (w:World) (b:Nat) (es:Array MapEntry) (c:Nat) (av:w.heap[b]?=some (.map es c)) (h:tB K V m es c) :
  ∃ wJ jV,(Instr.mapUpdate t (.map (some b)) (K.q3 x) (V.pU y)).run P w=.ok () (setBlock w b (.map wJ jV))/\tB K V bd wJ jV:=by
 unfold Oa at aO
 split at aO
 ·rename_i aa;cases aO;simp only [Bool.and_eq_true,decide_eq_true_eq] at aa;obtain ⟨cY,ai⟩:=aa;obtain ⟨F,aw,fx⟩:=h;have Nc:=K.key x cY;obtain ⟨wJ,jV,h0,cV,ns,_⟩:=Maps.fit_store (R':=yr) K.keyed al av F (by have:maxLen=9223372036854775807:=rfl; simp only [lim] at ai; omega) (λ_ _ _ _ aT=>aT) Nc (rfl:yr (V.pU y)=some (.held (V.pU y),[]));refine ⟨wJ,jV,h0,cV,?_,λx' F3=>?_⟩
  ·have b2:wJ.size=((wJ.toList.map (rg P k yr)).foldr DataW.insert []).length:=by rw [length_sorted]; simp
   rw [b2,ns];unfold putKey;rw [length_insert];have bZ:=List.length_filter_le (notKey (K.ze x)) ((es.toList.map (rg P k yr)).foldr DataW.insert []);rw [length_sorted] at bZ;simp at bZ ⊢;omega
  ·have e':(DataW.map (xU P k wJ))=(DataW.map (xU P k es)).put (K.ze x) (.held (V.pU y)):=by
    rw [DataW.put_eq]; unfold xU; rw [ns]
   rw [e'];by_cases j:x=x'
   ·subst j;rw [Maps.atKey_put_same ⟨_,rfl⟩ (K.keyed.key Nc)];simp [sj]
   ·rw [Maps.atKey_put_other (λe=>j (K.inj _ _ e).symm),fx];simp [sj,j]
 ·cases aO
section
variable {N:cP}{g:aI}{a b c:Operand}{p:Place}{ty:TypeId}
instance {q:Array MapEntry->Nat->Prop}:b3 (.mp q):=⟨.mp⟩
instance {q:Array MapEntry->Nat->Prop}:b3 (.imp q):=⟨.imp⟩
instance {q:Array MapEntry->Nat->Prop}:ow (.mp q):=⟨.mp⟩
theorem O.B4 {r:l3}{X Y:ab}(hm:Rd g a (.imp (tB K V m))) (j:Rd g b Y) (A6:K.NW x=Y) (al:P.underlying t=some (.map k e)) (h:N_ K.ok V.z m x=some r) (t_:V.Kp r=X):b5 P g (.lookup t a b false) ty X:=by
 subst t_ A6;unfold N_ at h
 split at h
 ·rename_i cY;cases h;exact .eJ (.B4 hm.bm j.bm (K.Lq x) (V.nG _) λw b es c av a6=>tB.look false cY al w b es c av a6)
 ·cases h
end
end Go.Own
namespace Go.Own
open Go
set_option linter.unusedSectionVars false
variable [cE]
section
variable {α:Type}{P:Program}{N:cP}{g:aI}{d r:Nat}{ty t t2 e:TypeId}{a b:Operand}{k kD:IntKind}{m n:Int}{p:Place}
def NO (L:List α) (m:Int):Option Unit:=if 0<=m/\m<=L.length then some () else none
instance:wj az:=⟨λx=>[.int .i64 x],λ_=>rfl,λx v hv=>by rw [List.mem_singleton.1 hv]; rfl⟩
theorem O.PK {en:bA α}{L:List α}{u:Unit}(j:Rd g a (.bl en.z p L.length)) (ai:Rd g b (.lit (.int k m))) (ar:bx g p=some (aq en L)) (al:fa P t e en.z=true) (h:NO L m=some u):b5 P g (.slice t a (some b) none none) ty (.sub en.z p m.toNat (L.length - m.toNat)):=by
 unfold NO at h
 split at h
 ·rename_i aa;obtain ⟨i,rfl⟩:=Int.eq_ofNat_of_zero_le aa.1;exact .eJ (.FB j.bm ⟨_,ai.bm⟩ rfl al (by omega) (Nat.le_refl _) ⟨_,_,ar,by omega⟩)
 ·cases h
def LR (lo nd:Nat) (L S:List α):Option (List α):=if 0<min S.length nd/\lo+nd<=L.length then some (L.take lo++S.take (min S.length nd)++L.drop (lo+min S.length nd)) else none
def B8 (e:bA α) [h:wj e] (L:List α):List Value:=L.flatMap h.FD
theorem Jv (e:bA α) [h:wj e] (L:List α):bp e L=(B8 e L).map .lit:=by
 induction L with
 | nil=>rfl
 | cons x L aL =>
  have:bp e (x::L)=e.cells x++bp e L:=by simp [bp]
  rw [this,aL,h.cells];simp [B8]
theorem Q3.bk {en:bA α}{S:List α}:Src g (ao en S) en.z S.length (bp en S):=.bk
theorem Q3.bl {en:bA α} [wj en] {L:List α}{q:Place}{n:Nat}(a6:bx g q=some (aq en L)) (aA:n<=L.length):Src g (.bl en.z q n) en.z (L.take n).length (bp en (L.take n)):=by
 have h1:(L.take n).length=n:=by rw [List.length_take]; omega
 have af:bp en (L.take n)=(((bp en L).take (n * en.z)).mapIdx λi x=>fC 0 (q.push i) x):=by
  rw [xN,Jv];apply List.ext_getElem?;intro J;rw [List.getElem?_mapIdx];cases aj:((B8 en (L.take n)).map ab.lit)[J]? with
  | none=>rfl
  | some y =>
   obtain ⟨v,_,rfl⟩:=List.mem_map.1 (List.mem_of_getElem? aj);rfl
 rw [h1,af];exact .bl a6 aA
theorem ZA {z:Nat}(h:fa P t e z=true):(P.info? e).map (·.size)=some z:=by
 grind [fa]
theorem bt.bb {o:Oper}{en:bA α} [ai:wj en] {L S hC:List α}{lo nd:Nat}{KA j8:ab}{G2:List (Nat × ab)}(aV:o.op=.call { callee:=.builtin .copy,args:=#[a,b],argTypes:=#[t,t2] }) (aP:o.dst=some d) (aQ:bm g a=some KA) (W_:KA=.sub en.z ⟨r,[]⟩ lo nd\/(KA=.bl en.z ⟨r,[]⟩ nd/\lo=0)) (av:bm g b=some j8)
  (rU:Src g j8 en.z S.length (bp en S)) (aw:g r=some (aq en L)) (s3:en.z=1) (al:fa P t e 1=true) (h:LR lo nd L S=some hC) (mM:(get G2 r).isSome=true) (c9:lh g (get G2) r (aq en hC) G2) (sP:get G2 d=none) (a7:N.ok d=true) :
  bt P N g o (get ((d,ae ((min S.length nd:Nat):Int))::G2)):=by
 unfold LR at h;by_cases aa:0<min S.length nd/\lo+nd<=L.length
 case neg=>rw [if_neg aa] at h; cases h
 rw [if_pos aa] at h;obtain ⟨mf,ac1⟩:=aa;cases h;generalize hk:min S.length nd=k at *;have acZ:k<=S.length:=by omega
 have ac2:k<=nd:=by omega
 refine .Pu λw I T Fs h b0 yU Uw K Q D5=>?_;obtain ⟨hu,he,eF⟩:=qC (w:=w) al;have ar:bx g ⟨r,[]⟩=some (aq en L):=by simp [bx,aw,ab.at]
 have ML:=k7 h aQ yU;obtain ⟨v0,cj,jj,dz,df⟩:=h.part ar (by simp);obtain ⟨a0,aaK,rfl,kW,hlen,qY,uo⟩:=dz.mO;have Us:0<L.length:=by omega
 cases a0 with
 | none=>have:=uo Us; simp at this
 | some Ld =>
 obtain ⟨Br,Bs⟩:=qY Ld rfl;obtain ⟨g0,adu,adA⟩:=Ld;simp only at Br Bs;subst Br Bs;have oJ:cj g0:=dz.qu g0 rfl
 -- the target
 have H9:∃ cap,b0.eval a=.slice (some ⟨g0,lo,none⟩) nd cap:=by
  rcases W_ with rfl | ⟨rfl,rfl⟩
  ·obtain ⟨⟨lj,u3,qT,aB,c1,h1,af,_,_,ct⟩,_⟩:=ML.xa;rw [h1] at jj;cases jj;obtain ⟨ad,b2,bZ⟩:=ct (by omega);cases b2;rw [af,bZ,s3];exact ⟨c1,by simp⟩
  ·obtain ⟨⟨lj,u3,qT,h1,af,_⟩,_⟩:=ML.mN;rw [h1] at jj;cases jj;exact ⟨_,af⟩
 obtain ⟨Tb,H9⟩:=H9
 -- the source
 obtain ⟨CT,Zl,news,vC,Iw,BA,me,ht,gu,aY⟩:=rU.sound h (k7 h av yU);rw [s3,Nat.mul_one] at Iw;cases CT with
 | none=>have:=BA (by omega) (by omega); simp at this
 | some Pm =>
 have adb:news=B8 en S:=by
  rw [Jv,List.length_map] at ht;apply List.ext_getElem ht.symm;intro J h1 af;have:=(aY J (.lit (B8 en S)[J]) news[J] (by rw [Jv,List.getElem?_map,List.getElem?_eq_getElem af]; rfl) (List.getElem?_eq_getElem h1)).h2.1;exact this
 -- the block
 cases dz with
 | ref j=>simp [ab.isRef] at j
 | @own _ _ _ _ b8 us bV _ lQ hF h1 ah nj jh aG =>
 obtain ⟨kZ,bD⟩:=lQ;rcases bD with ⟨bD,_⟩ | ⟨dV,cap,cur,bD,rb,j2,xI,vW,zM,xJ⟩
 ·cases bD
 cases bD;have MX:L.length<=cur.size:=by
  have yQ:(cur.toList.take (L.length * en.z)).length=L.length * en.z:=by rw [xJ,kZ]
  rw [List.length_take,s3,Nat.mul_one,Array.length_toList] at yQ;rw [s3] at zM;omega
 have D8:(news.take k).length=k:=by rw [List.length_take]; omega
 have h0:(execOp b0.eval o).run P w=.ok (.value (goInt k)) (w.setRow g0 (eP cur.toList lo (news.take k)).toArray):=by
  have mG:=run_copy_row (P:=P) w t t2 o.type e g0 lo nd Tb Pm S.length Zl cur b8 (news.take k) hu (ZA al) j2 (by rw [D8]; exact hk.symm) (λJ v aj=>by
   rw [List.getElem?_take] at aj
   split at aj
   ·exact me Pm rfl J v aj
   ·cases aj) (by rw [D8]; omega) (λv hv=>by
   obtain ⟨J,aj⟩:=List.getElem?_of_mem (List.mem_of_mem_take hv);exact gu J v aj)
  rw [D8] at mG;have mC:(cur.toList.take lo++news.take k++cur.toList.drop (lo+k))=eP cur.toList lo (news.take k):=by unfold eP; rw [D8]
  rw [mC] at mG;simp [execOp,aV,resolve,invoke,H9,vC,builtin,mG]
 -- the state
 have We:∀ (J:Nat) (x:ab) (u:Value),((bp en S).take k)[J]?=some x->(news.take k)[J]?=some u->R w I (fI w T) x u cr:=λJ x u j hu=>by
  rw [List.getElem?_take] at j hu
  split at j
  ·rename_i aj;rw [if_pos aj] at hu;exact (aY J x u j hu).frame (λ_ _=>rfl) (λ_ h=>h) (λ_ _ h=>h.1) λ_ _=>rfl
  ·cases j
 have hH:Hand w I (fI w T) Fs ((bp en S).take k) (news.take k) (λ_=>cr) :=
  ⟨by rw [List.length_take,List.length_take,ht],We,λ_ _ _ _ _ h=>h.elim,λ_ _ _ _ h=>h.elim,λ_ _ _ h=>h.elim⟩
 have MW:((bp en S).take k).length=k:=by rw [List.length_take,ht]; omega
 have Ur:(bp en L).length=L.length:=by rw [oY,s3,Nat.mul_one]
 have rR:(aq en L).eP lo ((bp en S).take k)=aq en (L.take lo++S.take k++L.drop (lo+k)):=by
  show ab.own en.z L.length (eP (bp en L) lo ((bp en S).take k))=_;have b2:eP (bp en L) lo ((bp en S).take k)=bp en (L.take lo++S.take k++L.drop (lo+k)):=by
   unfold eP;rw [MW,Fq,Fq];have kF:=xN en L lo;have Fg:=xN en S k;have CM:=zP en L (lo+k);rw [s3,Nat.mul_one] at kF Fg CM;rw [kF,Fg,CM]
  unfold aq;rw [b2];congr 1;simp; omega
 have V4:∀ (J:Nat) (u:Value),(news.take k)[J]?=some u->u.oneCell'=true:=λJ u hu=>by
  rw [List.getElem?_take] at hu
  split at hu
  ·exact gu J u hu
  ·cases hu
 have c1:∀ t x,get G2 t=some x->ch g ⟨r,[]⟩ ((aq en L).eP lo ((bp en S).take k)) t=some x:=λt x j=>by
  rw [rR];rcases c9.spec t x j with ⟨h1,af,_⟩ | ⟨h1,af,_⟩
  ·rw [xQ h1]; exact af
  ·subst h1 af; simp [ch,aw,ab.setAt]
 have c2:∀ t x,get G2 t=some x->∀ y,g t=some y->j_ (λq=>gP g q/\Clear ⟨r,[]⟩ lo ((bp en S).take k).length q/\gP (get G2) q) y:=λt x j y ak=>by
  rcases c9.spec t x j with ⟨h1,af,aF⟩ | ⟨h1,af,aF⟩
  ·rw [af] at ak; cases ak;rcases aF with aF | ⟨_,c2,Ti⟩
   ·exact aF.JZ
   ·cases Ti
  ·subst h1; rw [aw] at ak; cases ak; exact .bg (.own (pQ en L))
 have jt:∀ t z q n m new,get G2 t≠some (.bC z q n m new):=λt z q n m new j=>by
  rcases c9.spec t _ j with ⟨_,_,aF | ⟨aF,_⟩⟩ | ⟨_,_,aF⟩
  ·exact aF.fk _ _ _ _ _ rfl
  ·exact aF.fk _ _ _ _ _ rfl
  ·cases aF
 obtain ⟨iJ,hY,gw⟩:=h.mo.store (g2:=get G2) ar (.inl rfl) (k:=lo) (cs':=(bp en S).take k) (by rw [MW,Ur]; omega) hH (λx j=>pQ en S x (List.mem_of_mem_take j)) (λh=>by cases h) V4 c1 c2 jt (by intro e; rw [e] at mM; cases mM) jj rfl j2;have ns:=hY.uO (d:=d) (x:=ae (k:Int)) (v:=goInt k) (F:=cr) sP (by rw [<- yU,Uw]; exact cP.lt a7) (.tree (.lit rfl λ_ h=>h)) (λ_ _ h=>h.elim) (λ_ h=>h.elim) (by rintro z p n m new e; cases e);unfold Oper.wp Oper.upon;simp only [h0];have mC:get ((d,ae (k:Int))::G2)=cH (get G2) d (ae (k:Int)):=by
  funext t;rw [sI]
 rw [<- mC] at ns;have HW:∃ t,Fs t g0:=⟨_,df g0 oJ⟩;refine D5 _ _ ⟨by rw [aP]; rfl,by rw [aP]; exact hr.put a7 _ _,I,_,by rw [aP]; simpa [Act.put,yU] using ns,⟨⟨rfl,rfl,rfl,by simp,λc _ aa=>setRow_other w g0 c _ (λe=>aa (e ▸ HW)),λa _ _=>DX w g0 _ a,Nat.le_refl _⟩,λ_ h=>h,λ_ h=>.inl h,λc aa=>?_⟩⟩ λt al=>by rw [aP]; simp only [Act.put]; rw [Array.getElem?_setIfInBounds_ne]; rintro rfl; exact al aP
 obtain ⟨t,aa⟩:=aa;simp only [uW] at aa
 split at aa
 ·exact aa.elim
 ·rcases gw t c aa with fW | ⟨_,_,fW⟩
  ·exact .inl ⟨t,fW⟩
  ·exact fW.elim
end
end Go.Own
namespace Go.Own
open Go
set_option linter.unusedSectionVars false
variable [cE]
def Fo (ef:List Nat) (o:Oper):Oper:=⟨o.dst,o.op,o.type,o.pos,o.after.map λe=>⟨ef.idxOf e.on,e.ground⟩,o.guard.map λp=>(ef.idxOf p.1,p.2)⟩
def k8 (ef:List Nat) (l:List Oper):List Oper:=ef.map λk=>Fo ef (l.getD k default)
def JP (ef:List Nat) (n:Nat):Bool:=Nat.beq ef.length n&&(List.range n).all λk=>ef.contains k&&Nat.blt (ef.getD k n) n&&Nat.beq (ef.idxOf (ef.getD k n)) k
structure Perm (ef:List Nat) (n:Nat):Prop where
 len:ef.length=n
 mem:∀ k,k<n->ef.idxOf k<n/\ef.getD (ef.idxOf k) n=k
 lt:∀ J,J<n->ef.getD J n<n/\ef.idxOf (ef.getD J n)=J
theorem Yz {ef:List Nat}{n:Nat}(h:JP ef n=true):Perm ef n:=by
 unfold JP at h;simp only [Bool.and_eq_true,Nat.beq_eq,List.all_eq_true,List.mem_range,Nat.blt_eq] at h;obtain ⟨ai,g_⟩:=h;refine ⟨ai,λk hk=>?_,λJ aj=>⟨(g_ J aj).1.2,(g_ J aj).2⟩⟩
 grind
section
variable {P:Program}{Q:Exit->Act->World->Prop}{ef:List Nat}{l:List Oper}
theorem JQ (jG:Perm ef l.length) {J:Nat}(aj:J<l.length):(k8 ef l).toArray[J]?=some (Fo ef (l.getD (ef.getD J l.length) default))/\l.toArray[ef.getD J l.length]?=some (l.getD (ef.getD J l.length) default):=by
 have h1:J<ef.length:=by rw [jG.len]; exact aj
 have af:=(jG.lt J aj).1
 grind [k8]
theorem OS (jG:Perm ef l.length) {A B:Array Bool}(dp:A.size=l.length) (fc:B.size=l.length) (sK:∀ J,J<l.length->B.getD J true=A.getD (ef.getD J l.length) true) {J:Nat}(aj:J<l.length) :
  ef.getD J l.length∈Region.ready .any l.toArray A↔J∈Region.ready .any (k8 ef l).toArray B:=by
 obtain ⟨h1,af⟩:=JQ jG aj;have adB:∀ {C:Array Bool}{k:Nat},k<C.size->C.getD k false=C.getD k true:=λ{C k} h=>by simp [Array.getD,h]
 have gone:∀ {C:Array Bool}{k:Nat},¬ k<C.size->C.getD k false=false:=λ{C k} h=>by simp [Array.getD,h]
 have L7:∀ m,A.getD m false=true↔B.getD (ef.idxOf m) false=true:=λm=>by
  by_cases hm:m<l.length
  ·obtain ⟨aF,bu⟩:=jG.mem m hm
   grind
  ·have ct:¬ ef.idxOf m<l.length:=λh=>by
    have dJ:=List.idxOf_lt_length_iff.1 (by rw [jG.len]; exact h);obtain ⟨i,hi,e⟩:=List.mem_iff_getElem.1 dJ;have:=(jG.lt i (by rw [<- jG.len]; exact hi)).1
    grind
   grind
 rw [mem_ready,mem_ready,sK J aj];constructor
 ·rintro ⟨a,o,aV,h⟩;rw [af] at aV;cases aV;refine ⟨a,_,h1,λe he av=>?_⟩;obtain ⟨gQ,Vt,rfl⟩:=Array.mem_map.1 he;exact (L7 _).1 (h gQ Vt av)
 ·rintro ⟨a,o,aV,h⟩;rw [h1] at aV;cases aV;refine ⟨a,_,af,λe he av=>?_⟩;exact (L7 _).2 (h ⟨ef.idxOf e.on,e.ground⟩ (Array.mem_map.2 ⟨e,he,rfl⟩) av)
theorem YB (jG:Perm ef l.length) (o:Oper) (T:Array Value):Region.wanted (Fo ef o) (yielded (k8 ef l).toArray T)=Region.wanted o (yielded l.toArray T):=by
 unfold Region.wanted Fo;cases aK:o.guard with
 | none=>rfl
 | some p =>
  obtain ⟨m,b⟩:=p;simp only [Option.map_some];have:yielded (k8 ef l).toArray T (ef.idxOf m)=yielded l.toArray T m:=by
   unfold yielded;by_cases hm:m<l.length
   ·obtain ⟨aF,bu⟩:=jG.mem m hm;obtain ⟨h1,af⟩:=JQ jG aF;rw [bu] at h1 af;rw [h1,af];rfl
   ·have ct:¬ ef.idxOf m<l.length:=λh=>by
     have dJ:=List.idxOf_lt_length_iff.1 (by rw [jG.len]; exact h);obtain ⟨i,hi,e⟩:=List.mem_iff_getElem.1 dJ;have:=(jG.lt i (by rw [<- jG.len]; exact hi)).1
     grind
    have b2:(k8 ef l).toArray[ef.idxOf m]?=none:=by
     rw [List.getElem?_toArray];exact List.getElem?_eq_none (by simp [k8,jG.len]; omega)
    grind
  rw [this]
theorem YA (jG:Perm ef l.length):∀ (fuel:Nat) (A B:Array Bool) (a:Act) (w:World),A.size=l.length->B.size=l.length->(∀ J,J<l.length->B.getD J true=A.getD (ef.getD J l.length) true) ->
  wpAny P .any (k8 ef l).toArray Q fuel B a w->wpAny P .any l.toArray Q fuel A a w:=by
 have lift:∀ {A B:Array Bool},A.size=l.length->B.size=l.length->(∀ J,J<l.length->B.getD J true=A.getD (ef.getD J l.length) true)->∀ k,k∈Region.ready .any l.toArray A->∃ J,J<l.length/\ef.getD J l.length=k/\J∈Region.ready .any (k8 ef l).toArray B:=λ{A B} dp fc sK k hk=>by
  have dR:k<l.length:=by
   grind [mem_ready]
  obtain ⟨aF,bu⟩:=jG.mem k dR
  grind [OS]
 have nil:∀ {A B:Array Bool},A.size=l.length->B.size=l.length->(∀ J,J<l.length->B.getD J true=A.getD (ef.getD J l.length) true)->Region.ready .any l.toArray A=[]->Region.ready .any (k8 ef l).toArray B=[]:=λ{A B} dp fc sK h=>by
  cases ah:Region.ready .any (k8 ef l).toArray B with
  | nil=>rfl
  | cons J r =>
   have aj:J∈Region.ready .any (k8 ef l).toArray B:=by rw [ah]; simp
   have eN:J<l.length:=by
    grind [mem_ready]
   have:=(OS jG dp fc sK eN).2 aj
   grind
 intro fuel
 induction fuel with
 | zero =>
  intro A B a w dp fc sK h;refine ⟨?_,h.2⟩;cases ah:Region.ready .any l.toArray A with
  | nil=>rfl
  | cons k r =>
   obtain ⟨J,_,_,aj⟩:=lift dp fc sK k (by rw [ah]; simp);rw [h.1] at aj;cases aj
 | succ fuel aL =>
  intro A B a w dp fc sK h;refine ⟨λah=>h.1 (nil dp fc sK ah),λk hk=>?_⟩;obtain ⟨J,eN,rfl,aj⟩:=lift dp fc sK k hk;have aw:=h.2 J aj;obtain ⟨h1,af⟩:=JQ jG eN;have T8:∀ i,i<l.length->(B.setIfInBounds J true).getD i true=(A.setIfInBounds (ef.getD J l.length) true).getD (ef.getD i l.length) true:=λi hi=>by
   have aR:=(jG.lt J eN).1;have Is:=(jG.lt i hi).1;have e:∀ (C:Array Bool) (p q:Nat),p<C.size->q<C.size->(C.setIfInBounds p true).getD q true=if q=p then true else C.getD q true:=λC p q ar a6=>by
    by_cases h:q=p
    ·simp_all
    ·rw [if_neg h];simp [Array.getD,a6,Array.getElem_setIfInBounds_ne,Ne.symm h]
   rw [e B J i (by omega) (by omega),e A _ _ (by omega) (by omega),sK i hi];by_cases h:i=J
   ·grind
   ·rw [if_neg h,if_neg];intro aH;have:=(jG.lt i hi).2;rw [aH,(jG.lt J eN).2] at this
    grind
  have mono:∀ a w,wpAny P .any (k8 ef l).toArray Q fuel (B.setIfInBounds J true) a w->wpAny P .any l.toArray Q fuel (A.setIfInBounds (ef.getD J l.length) true) a w:=λa w aH=>aL _ _ a w (by simpa using dp) (by simpa using fc) T8 aH;unfold wpOp at aw ⊢;rw [af];rw [h1] at aw;simp only [YB jG] at aw;show if Region.wanted (l.getD (ef.getD J l.length) default) (yielded l.toArray a.tmps)=true then _ else _
  split
  ·rename_i hw;rw [if_pos hw] at aw;exact aw.imp (λaH=>Oper.wp_mono mono aH) id
  ·rename_i hw;rw [if_neg hw] at aw;exact mono _ _ aw
end
section
variable {P:Program}{N:cP}
theorem W.YU {id:Nat}{l:List Oper}{G:List (Nat × ab)}{Φ:Exit->aI->Prop}(ef:List Nat) (a':List (List Nat)) (G1:List (Nat × ab)) (hm:P.follows .mixedOrders=true) (dp:pf (k8 ef l).toArray a'=true) (jG:JP ef l.length=true)
  (h:bH P N (k8 ef l).toArray a' (get G) 0 [] (k8 ef l) λg'=>j' g' (get G1)) (hk:aJ .normal Φ G1):W P N (.region id l.toArray true) (get G) Φ:=by
 have ar:=Yz jG;obtain ⟨g',h1,af⟩:=h [] 0 .nil .nil (by simp);have eF:(k8 ef l).toArray.size=l.length:=by simp [k8,ar.len]
 refine fP.w (g':=g') (e:=.normal) ?_ (hk g' (.eH af .iq));intro Q a w I Fs bh a7 dy;refine wp_region_any hm ?_;have dX:cB w.drew I a.tmps (get G) Fs:=bh.world (λ_ _ _=>rfl) (λ_ _=>rfl) (Nat.le_refl _);have g_:∀ k,dv (Array.replicate (k8 ef l).toArray.size false) k=false:=by
  intro k;unfold dv;rcases Nat.lt_or_ge k (k8 ef l).toArray.size with h | h
  ·simp_all
  grind
 refine YA ar _ _ (Array.replicate l.length false) a w.drew (by simp) (by simp) (λJ aj=>?_) ?_
 ·have:=(ar.lt J aj).1
  simp_all
 have yQ:=h1.sound dp .nil (k8 ef l).toArray.size (Array.replicate (k8 ef l).toArray.size false) a w.drew I Fs ?_ (by simp) (λk hk=>by omega) (λk _=>g_ k) (λk hk=>by rw [g_] at hk; cases hk) dX a7 (λb0 w' aA=>dy _ _ ?_)
 ·grind
 ·grind [hc]
 ·obtain ⟨b2,bZ,I',b1,hY,bL⟩:=aA;exact ⟨b2,bZ,I',b1,hY,⟨⟨bL.ek.os,bL.ek.tape,bL.ek.output,bL.ek.size,bL.ek.block,bL.ek.dN,Nat.le_trans (Nat.le_succ _) bL.ek.wG⟩,bL.more,bL.new,bL.own⟩⟩
end
end Go.Own
namespace Go.Own
open Go
set_option linter.unusedSectionVars false
variable [cE]
section
variable {α:Type}{P:Program}{N:cP}{g:aI}{a b:Operand}{t:TypeId}{m i:Int}
end
end Go.Own
namespace Go.Own
open Go
set_option linter.unusedSectionVars false
variable [cE]
section
variable {P:Program}{N:cP}{ops:Array Oper}{a':List (List Nat)}{g g0:aI}{K:aI->Prop}{l:List Oper}{acc:Acc}{d i J t':Nat}{op:Op}{ty:TypeId}{pos:String}{after:Array Edge}{x:ab}{b c:Bool}
theorem iL (av:c=!b) (hk:aC P N ops l (cH g d (.bJ [])) K) (h:(ops[J]?).bind (·.dst)=some t':=by rfl) (aK:g t'=some (.lit (.bool c)):=by rfl) (a7:N.ok d=true:=by rfl) (aS:g d=none:=by rfl):aC P N ops (⟨some d,op,ty,pos,after,some (J,b)⟩::l) g K:=.ps h aK av a7 aS hk
theorem Q0 (hk:aC P N ops l (cH g d (.bJ [])) K) (h:(ops[J]?).bind (·.dst)=some t':=by rfl) (aK:g t'=some (.bJ []):=by rfl) (a7:N.ok d=true:=by rfl) (aS:g d=none:=by rfl):aC P N ops (⟨some d,op,ty,pos,after,some (J,b)⟩::l) g K:=.pu h aK a7 aS hk
theorem cF (av:c=b) (ar:b5 P g op ty x) (hk:aC P N ops l (cH g d x) K) (h:(ops[J]?).bind (·.dst)=some t':=by rfl) (aK:g t'=some (.lit (.bool c)):=by rfl) (a7:N.ok d=true:=by rfl) (aS:g d=none:=by rfl):aC P N ops (⟨some d,op,ty,pos,after,some (J,b)⟩::l) g K:=.v ar a7 aS (.j8 h aK av) hk
theorem Pa (hk:aC P N ops l (cH g d (.bJ [])) K) (h:(ops[J]?).bind (·.dst)=some t':=by rfl) (aK:g t'=some (.lit (.bool c)):=by rfl) (av:c=!b:=by assumption) (a7:N.ok d=true:=by rfl) (aS:g d=none:=by rfl):aC P N ops (⟨some d,op,ty,pos,after,some (J,b)⟩::l) g K:=.ps h aK av a7 aS hk
theorem e6 (ar:b5 P g op ty x) (hk:aC P N ops l (cH g d x) K) (h:(ops[J]?).bind (·.dst)=some t':=by rfl) (aK:g t'=some (.lit (.bool c)):=by rfl) (av:c=b:=by assumption) (a7:N.ok d=true:=by rfl) (aS:g d=none:=by rfl):aC P N ops (⟨some d,op,ty,pos,after,some (J,b)⟩::l) g K:=.v ar a7 aS (.j8 h aK av) hk
theorem h7 (bw:Nat) (av:c=!b) (hk:bH P N ops a' g0 i ((bw,d,some (.bJ []))::acc) l K) (h:(ops[J]?).bind (·.dst)=some t':=by rfl) (aK:jn a' g0 bw acc t'=some (bf c):=by rfl) (aj:Nat.beq ops.size (bw+l.length+1)=true:=by rfl) (aS:g0 d=none:=by rfl) (aA:acc.all (λe=>!Nat.beq e.2.1 d)=true:=by rfl) (a7:N.ok d=true:=by rfl):bH P N ops a' g0 i acc (⟨some d,op,ty,pos,after,some (J,b)⟩::l) K:=.ps bw h aK av aj aS aA a7 hk
theorem kL (bw:Nat) (hk:bH P N ops a' g0 i ((bw,d,some (.bJ []))::acc) l K) (h:(ops[J]?).bind (·.dst)=some t':=by rfl) (aK:jn a' g0 bw acc t'=some (.bJ []):=by rfl) (aj:Nat.beq ops.size (bw+l.length+1)=true:=by rfl) (aS:g0 d=none:=by rfl) (aA:acc.all (λe=>!Nat.beq e.2.1 d)=true:=by rfl) (a7:N.ok d=true:=by rfl):bH P N ops a' g0 i acc (⟨some d,op,ty,pos,after,some (J,b)⟩::l) K:=.pu bw h aK aj aS aA a7 hk
theorem iF (bw:Nat) (av:c=b) (ar:b5 P (jn a' g0 bw acc) op ty x) (hk:bH P N ops a' g0 i ((bw,d,some x)::acc) l K) (h:(ops[J]?).bind (·.dst)=some t':=by rfl) (aK:jn a' g0 bw acc t'=some (.lit (.bool c)):=by rfl) (aj:Nat.beq ops.size (bw+l.length+1)=true:=by rfl) (aS:g0 d=none:=by rfl) (aA:acc.all (λe=>!Nat.beq e.2.1 d)=true:=by rfl) (a7:N.ok d=true:=by rfl):bH P N ops a' g0 i acc (⟨some d,op,ty,pos,after,some (J,b)⟩::l) K:=.v bw ar aj aS aA a7 (.j8 h aK av) hk
end
section
variable {P:Program}{N:cP}{ops:Array Oper}{g:aI}{K:aI->Prop}{l:List Oper}{A B:Code}{G G1:List (Nat × ab)}{Φ:Exit->aI->Prop}{t id:Nat}{b:Bool}{α:Type}{X Y o:α}
theorem W.cd (h:(bif b then X else Y)=o) (aa:get G t=some (bf b)) (cX:b=true->X=o->W P N A (get G) Φ) (aG:b=false->Y=o->W P N B (get G) Φ):W P N (.cond (.tmp t) A B) (get G) Φ:=W.jE aa (λe=>cX e (SG e h)) (λe=>aG e (SF e h))
def pick (g:aI):List Nat->Option (List (Nat × ab))
 | []=>some []
 | k::ks=>match g k with
  | some x=>match pick g ks with
   | some l=>some ((k,x)::l)
   | none=>none
  | none=>none
class ib (l:List (Nat × ab)):Prop where p:∀ e∈l,cA e.2
instance:ib []:=⟨λ_ h=>by cases h⟩
instance {k:Nat}{x:ab}{l:List (Nat × ab)} [h:b3 x] [ai:ib l]:ib ((k,x)::l):=⟨λe he=>by
 rcases List.mem_cons.1 he with rfl | he
 ·exact h.bg
 ·exact ai.p e he⟩
theorem uN {c:Bool}{g g2:aI}:∀ {ks:List Nat}{G1:List (Nat × ab)},pick g ks=some G1->(∀ e∈G1,cA e.2)->Trim c g g2 G1
 | [],_,h,_=>by cases h; exact .nil
 | k::ks,G1,h,aA=>by
  unfold pick at h
  split at h
  ·rename_i x j
   split at h
   ·rename_i l ai;cases h;have:b3 x:=⟨aA (k,x) (by simp)⟩;exact .n j (uN ai λe he=>aA e (by simp [he]))
   ·cases h
  ·cases h
structure yi (ks:List Nat) (G1:List (Nat × ab)) (g':aI):Prop where p:j' g' (get G1)
theorem bV {ks:List Nat}(h:pick g ks=some G1) [aA:ib G1]:aC P N ops [] g (yi ks G1):=.nil ⟨(uN (c:=true) (g2:=get G1) h aA.p).eH⟩
theorem NZ {l:List Oper}{ks:List Nat}(h:aC P N l.toArray l g (yi ks G1)):aC P N l.toArray l g λg'=>j' g' (get G1):=λi hi=>by
 obtain ⟨g',h1,af⟩:=h i hi;exact ⟨g',h1,af.p⟩
theorem aC.ca (ks:List Nat) (h:pick g ks=some G1) [aA:ib G1] (hk:aC P N ops l (get G1) K):aC P N ops l g K:=.JV (uN h aA.p) hk
theorem W.ca {l:List Oper}(ks:List Nat) (h:aC P N l.toArray l (get G) (yi ks G1)) (hk:aJ .normal Φ G1):W P N (.region id l.toArray false) (get G) Φ:=W.rx G1 (NZ h) hk
theorem W.rs {l:List Oper}(G1:List (Nat × ab)) (h:aC P N l.toArray l (get G) λg'=>j' g' (get G1)) (hk:W P N B (get G1) Φ):W P N (.seq (.region id l.toArray false) B) (get G) Φ:=W.b4 (W.rx G1 h (aJ.bY hk))
theorem W.dt {l:List Oper}(ks:List Nat) (h:aC P N l.toArray l (get G) (yi ks G1)) (hk:W P N B (get G1) Φ):W P N (.seq (.region id l.toArray false) B) (get G) Φ:=W.rs G1 (NZ h) hk
end
end Go.Own
namespace Go.Own
open Go
set_option linter.unusedSectionVars false
variable [cE]
class fr (P:Program) (t:TypeId):Prop where p:kt P t=true:=by kernel_rfl
class iG (P:Program) (t:TypeId):Prop where p:oh P t=true:=by kernel_rfl
class dZ (P:Program) (t:TypeId) (e:outParam TypeId) (z:outParam Nat):Prop where p:fa P t e z=true:=by kernel_rfl
class cM (P:Program) (s:TypeId) (f:Nat) (off:outParam Nat) (t:outParam TypeId):Prop where p:jv P s f off t=true:=by kernel_rfl
section
variable {P:Program}{N:cP}{ops:Array Oper}{g:aI}{K:aI->Prop}{l:List Oper}{ty t:TypeId}{a:Operand}{k r z n:Nat}{cs ds:List ab}
theorem O.pC {v:Value}(aw:g r=some (.obj cs)) (j:Rd g a (.ptr ⟨r,[]⟩ k)) (al:kt P t=true) (aa:cs[k]?=some (.lit v)):b5 P g (.load t a) ty (.lit v):=O.xj aw j al aa rfl
theorem O.zi (aw:g r=some (.obj cs)) (j:Rd g a (.ptr ⟨r,[]⟩ k)) (al:kt P t=true) (aa:cs[k]?=some (.bk z n ds)):b5 P g (.load t a) ty (.bk z n ds):=O.xj aw j al aa rfl
theorem O.zj (aw:g r=some (.obj cs)) (j:Rd g a (.ptr ⟨r,[]⟩ k)) (al:kt P t=true) (aa:cs[k]?=some (.own z n ds)):b5 P g (.load t a) ty (.bl z ⟨r,[k]⟩ n):=O.xj aw j al aa rfl
end
section
variable {P:Program}{N:cP}{ops:Array Oper}{g:aI}{K:aI->Prop}{l:List Oper}{t0 d:Nat}{t1 t2 ty:TypeId}{aB a2 a3:Operand}{lU:Nat}{v0:Value}{pos:String}{after:Array Edge}{op:Op}{aci:Nat × Bool}
theorem aC.bE (op:Op) (u:Option (Nat × Bool)) (h:aC P N ops (⟨some d,op,ty,pos,after,u⟩::l) g K):aC P N ops (⟨some d,op,ty,pos,after,u⟩::l) g K:=h
theorem aC.nl (h:aC P N ops [] g K):aC P N ops [] g K:=h
theorem aC.Ry {o:Oper}{im gf:List Oper}(h:aC P N ops (o::List.append im gf) g K):aC P N ops (List.append (o::im) gf) g K:=h
theorem aC.Rz {gf:List Oper}(h:aC P N ops gf g K):aC P N ops (List.append [] gf) g K:=h
theorem aC.bS (h:aC P N ops l g K:=by
(repeat' (first
 | exact iI .nil
 | exact .nil
 | refine .n rfl ?_
 | (first
  | ((with_reducible apply aC.bE (.move (.tmp _)) none); (first | refine dF rfl ?_ | refine ay (O.a8 (.bk rfl)) ?_ | refine ay (O.a8 (.own rfl)) ?_ | refine ay (O.a8 (.obj rfl)) ?_ | refine ay (O.a8 (.cJ rfl)) ?_ | refine ay (O.a8 (.ptr rfl)) ?_ | refine ay (O.a8 (.bl rfl)) ?_))
  | ((with_reducible apply aC.bE (.load _ _) none); (first | refine ay (O.pC rfl (.ptr rfl) fr.p rfl) ?_ | refine ay (O.B0 (.cJ rfl) fr.p rfl) ?_ | refine ay (O.zi rfl (.ptr rfl) fr.p rfl) ?_ | refine ay (O.pC rfl (.obj rfl) fr.p rfl) ?_ | refine ay (O.zi rfl (.obj rfl) fr.p rfl) ?_ | refine ay (O.zj rfl (.ptr rfl) fr.p rfl) ?_ | refine ay (O.zj rfl (.obj rfl) fr.p rfl) ?_))
  | ((with_reducible apply aC.bE (.fieldAddr _ _ _) none); (first | refine ay (O.nb rfl (.obj rfl) cM.p rfl) ?_ | refine ay (O.AS (.cJ rfl) cM.p) ?_ | refine ay (O.nb rfl (.ptr rfl) cM.p rfl) ?_))
  | ((with_reducible apply aC.bE (.assign (.tmp _)) none); (first | refine sz rfl ?_ | refine ay (O.dG (.bk rfl)) ?_ | refine ay (O.dG (.own rfl)) ?_ | refine ay (O.dG (.obj rfl)) ?_ | refine ay (O.dG (.cJ rfl)) ?_ | refine ay (O.dG (.ptr rfl)) ?_ | refine ay (O.dG (.bl rfl)) ?_))
  | ((with_reducible apply aC.bE (.assign (.const _)) none); (first | refine K' rfl ?_ | refine ay (O.dG .zf) ?_))
  | ((with_reducible apply aC.bE (.indexAddr _ _ _) none); (first | refine ay (O.r3 (.bk rfl) (.lit rfl) dZ.p (by assumption)) ?_ | refine ay (O.r3 (.bk rfl) (.k rfl) dZ.p (by assumption)) ?_))
  | ((with_reducible apply aC.bE (.binOp .add _ _ _ _) none); (first | refine ay (O.add (.lit rfl) (.k rfl)) ?_ | refine ay (O.add (.lit rfl) (.lit rfl)) ?_ | refine ay (O.add (.k rfl) (.lit rfl)) ?_))
  | ((with_reducible apply aC.bE (.binOp .lss _ _ _ _) none); (first | refine ay (O.lss (.lit rfl) (.k rfl)) ?_ | refine ay (O.lss (.lit rfl) (.lit rfl)) ?_ | refine ay (O.lss (.k rfl) (.lit rfl)) ?_))
  | ((with_reducible apply aC.bE (.binOp .eql _ _ _ _) none); (first | refine ay (O.eql (.lit rfl) (.k rfl)) ?_ | refine ay (O.eql (.lit rfl) (.lit rfl)) ?_ | refine ay (O.eql (.k rfl) (.lit rfl)) ?_ | refine ay (O.nU (.lit rfl) (.lit rfl)) ?_ | refine ay (O.nU (.lit rfl) (.k rfl)) ?_))
  | ((with_reducible apply aC.bE (.binOp .neq _ _ _ _) none); (first | refine ay (O.neq (.lit rfl) (.k rfl)) ?_ | refine ay (O.neq (.lit rfl) (.lit rfl)) ?_ | refine ay (O.neq (.k rfl) (.lit rfl)) ?_ | refine ay (O.n' (.lit rfl) (.lit rfl)) ?_ | refine ay (O.n' (.lit rfl) (.k rfl)) ?_))
  | ((with_reducible apply aC.bE (.binOp .geq _ _ _ _) none); (first | refine ay (O.geq (.lit rfl) (.k rfl)) ?_ | refine ay (O.geq (.lit rfl) (.lit rfl)) ?_ | refine ay (O.geq (.k rfl) (.lit rfl)) ?_))
  | ((with_reducible apply aC.bE (.binOp .gtr _ _ _ _) none); (first | refine ay (O.gtr (.lit rfl) (.k rfl)) ?_ | refine ay (O.gtr (.lit rfl) (.lit rfl)) ?_ | refine ay (O.gtr (.k rfl) (.lit rfl)) ?_))
  | ((with_reducible apply aC.bE (.binOp .sub _ _ _ _) none); (first | refine ay (O.sub (.lit rfl) (.k rfl)) ?_ | refine ay (O.sub (.lit rfl) (.lit rfl)) ?_ | refine ay (O.sub (.k rfl) (.lit rfl)) ?_))
  | ((with_reducible apply aC.bE (.binOp .leq _ _ _ _) none); (first | refine ay (O.leq (.lit rfl) (.k rfl)) ?_ | refine ay (O.leq (.lit rfl) (.lit rfl)) ?_ | refine ay (O.leq (.k rfl) (.lit rfl)) ?_))
  | ((with_reducible apply aC.bE (.pick _ _ _) none); (first | refine ay (O.ki (.lit rfl) rfl (.lit rfl)) ?_ | refine ay (O.jl (.lit rfl) rfl (.lit rfl)) ?_ | refine ay (O.ki (.lit rfl) rfl (.k rfl)) ?_ | refine ay (O.jl (.lit rfl) rfl (.k rfl)) ?_ | refine ay (O.ki (.lit rfl) (by assumption) (.lit rfl)) ?_ | refine ay (O.jl (.lit rfl) (by assumption) (.lit rfl)) ?_ | refine ay (O.ki (.lit rfl) (by assumption) (.k rfl)) ?_ | refine ay (O.jl (.lit rfl) (by assumption) (.k rfl)) ?_))
  | ((with_reducible apply aC.bE (.call { callee:=.builtin .len,args:=#[_],argTypes:=#[_] }) none); (first | refine ay (O.jk (.bk rfl) dZ.p) ?_ | refine ay (O.n_ (.bl rfl) dZ.p) ?_ | refine ay (O.n_ (.own rfl) dZ.p) ?_ | refine ay (O.oU (.lit rfl) iG.p) ?_))
  | ((with_reducible apply aC.bE (.unOp .not _ _) none); (first | refine ay (O.not (.lit rfl)) ?_))
  | ((with_reducible apply aC.bE (.nilCheck _) none); (first | refine ay (O.eC (.ptr rfl)) ?_ | refine ay (O.xp (.cJ rfl)) ?_ | refine ay (O.eC (.obj rfl)) ?_))
  | ((with_reducible apply aC.bE (.index _ _ _) none); (first | refine ay (O.at' (.lit rfl) (.lit rfl) iG.p (by assumption)) ?_))
  | ((with_reducible apply aC.bE (.move (.const _)) none); (first | refine ay (O.a8 (.k rfl)) ?_ | refine ay (O.a8 .zf) ?_)))
 | ((with_reducible apply aC.nl); first | exact bV rfl | refine iI ?_)
 | ((with_reducible apply aC.bE _ (some _)); first
  | (first | refine iL rfl ?_ | refine Pa ?_ | refine Q0 ?_)
  | ((with_reducible apply aC.bE (.move (.tmp _)) (some _)); (first | refine cF rfl (O.a8 (.lit rfl)) ?_ | refine e6 (O.a8 (.lit rfl)) ?_ | refine cF rfl (O.a8 (.bk rfl)) ?_ | refine e6 (O.a8 (.bk rfl)) ?_ | refine cF rfl (O.a8 (.own rfl)) ?_ | refine e6 (O.a8 (.own rfl)) ?_ | refine cF rfl (O.a8 (.obj rfl)) ?_ | refine e6 (O.a8 (.obj rfl)) ?_ | refine cF rfl (O.a8 (.cJ rfl)) ?_ | refine e6 (O.a8 (.cJ rfl)) ?_ | refine cF rfl (O.a8 (.ptr rfl)) ?_ | refine e6 (O.a8 (.ptr rfl)) ?_ | refine cF rfl (O.a8 (.bl rfl)) ?_ | refine e6 (O.a8 (.bl rfl)) ?_))
  | ((with_reducible apply aC.bE (.load _ _) (some _)); (first | refine cF rfl (O.pC rfl (.ptr rfl) fr.p rfl) ?_ | refine e6 (O.pC rfl (.ptr rfl) fr.p rfl) ?_ | refine cF rfl (O.B0 (.cJ rfl) fr.p rfl) ?_ | refine e6 (O.B0 (.cJ rfl) fr.p rfl) ?_ | refine cF rfl (O.zi rfl (.ptr rfl) fr.p rfl) ?_ | refine e6 (O.zi rfl (.ptr rfl) fr.p rfl) ?_ | refine cF rfl (O.pC rfl (.obj rfl) fr.p rfl) ?_ | refine e6 (O.pC rfl (.obj rfl) fr.p rfl) ?_ | refine cF rfl (O.zi rfl (.obj rfl) fr.p rfl) ?_ | refine e6 (O.zi rfl (.obj rfl) fr.p rfl) ?_ | refine cF rfl (O.zj rfl (.ptr rfl) fr.p rfl) ?_ | refine e6 (O.zj rfl (.ptr rfl) fr.p rfl) ?_ | refine cF rfl (O.zj rfl (.obj rfl) fr.p rfl) ?_ | refine e6 (O.zj rfl (.obj rfl) fr.p rfl) ?_))
  | ((with_reducible apply aC.bE (.fieldAddr _ _ _) (some _)); (first | refine cF rfl (O.nb rfl (.obj rfl) cM.p rfl) ?_ | refine e6 (O.nb rfl (.obj rfl) cM.p rfl) ?_ | refine cF rfl (O.AS (.cJ rfl) cM.p) ?_ | refine e6 (O.AS (.cJ rfl) cM.p) ?_ | refine cF rfl (O.nb rfl (.ptr rfl) cM.p rfl) ?_ | refine e6 (O.nb rfl (.ptr rfl) cM.p rfl) ?_))
  | ((with_reducible apply aC.bE (.indexAddr _ _ _) (some _)); (first | refine cF rfl (O.r3 (.bk rfl) (.lit rfl) dZ.p (by assumption)) ?_ | refine e6 (O.r3 (.bk rfl) (.lit rfl) dZ.p (by assumption)) ?_ | refine cF rfl (O.r3 (.bk rfl) (.k rfl) dZ.p (by assumption)) ?_ | refine e6 (O.r3 (.bk rfl) (.k rfl) dZ.p (by assumption)) ?_))
  | ((with_reducible apply aC.bE (.binOp .add _ _ _ _) (some _)); (first | refine cF rfl (O.add (.lit rfl) (.k rfl)) ?_ | refine e6 (O.add (.lit rfl) (.k rfl)) ?_ | refine cF rfl (O.add (.lit rfl) (.lit rfl)) ?_ | refine e6 (O.add (.lit rfl) (.lit rfl)) ?_ | refine cF rfl (O.add (.k rfl) (.lit rfl)) ?_ | refine e6 (O.add (.k rfl) (.lit rfl)) ?_))
  | ((with_reducible apply aC.bE (.binOp .lss _ _ _ _) (some _)); (first | refine cF rfl (O.lss (.lit rfl) (.k rfl)) ?_ | refine e6 (O.lss (.lit rfl) (.k rfl)) ?_ | refine cF rfl (O.lss (.lit rfl) (.lit rfl)) ?_ | refine e6 (O.lss (.lit rfl) (.lit rfl)) ?_ | refine cF rfl (O.lss (.k rfl) (.lit rfl)) ?_ | refine e6 (O.lss (.k rfl) (.lit rfl)) ?_))
  | ((with_reducible apply aC.bE (.binOp .eql _ _ _ _) (some _)); (first | refine cF rfl (O.eql (.lit rfl) (.k rfl)) ?_ | refine e6 (O.eql (.lit rfl) (.k rfl)) ?_ | refine cF rfl (O.eql (.lit rfl) (.lit rfl)) ?_ | refine e6 (O.eql (.lit rfl) (.lit rfl)) ?_ | refine cF rfl (O.eql (.k rfl) (.lit rfl)) ?_ | refine e6 (O.eql (.k rfl) (.lit rfl)) ?_ | refine cF rfl (O.nU (.lit rfl) (.lit rfl)) ?_ | refine e6 (O.nU (.lit rfl) (.lit rfl)) ?_ | refine cF rfl (O.nU (.lit rfl) (.k rfl)) ?_ | refine e6 (O.nU (.lit rfl) (.k rfl)) ?_))
  | ((with_reducible apply aC.bE (.binOp .neq _ _ _ _) (some _)); (first | refine cF rfl (O.neq (.lit rfl) (.k rfl)) ?_ | refine e6 (O.neq (.lit rfl) (.k rfl)) ?_ | refine cF rfl (O.neq (.lit rfl) (.lit rfl)) ?_ | refine e6 (O.neq (.lit rfl) (.lit rfl)) ?_ | refine cF rfl (O.neq (.k rfl) (.lit rfl)) ?_ | refine e6 (O.neq (.k rfl) (.lit rfl)) ?_ | refine cF rfl (O.n' (.lit rfl) (.lit rfl)) ?_ | refine e6 (O.n' (.lit rfl) (.lit rfl)) ?_ | refine cF rfl (O.n' (.lit rfl) (.k rfl)) ?_ | refine e6 (O.n' (.lit rfl) (.k rfl)) ?_))
  | ((with_reducible apply aC.bE (.binOp .geq _ _ _ _) (some _)); (first | refine cF rfl (O.geq (.lit rfl) (.k rfl)) ?_ | refine e6 (O.geq (.lit rfl) (.k rfl)) ?_ | refine cF rfl (O.geq (.lit rfl) (.lit rfl)) ?_ | refine e6 (O.geq (.lit rfl) (.lit rfl)) ?_ | refine cF rfl (O.geq (.k rfl) (.lit rfl)) ?_ | refine e6 (O.geq (.k rfl) (.lit rfl)) ?_))
  | ((with_reducible apply aC.bE (.binOp .gtr _ _ _ _) (some _)); (first | refine cF rfl (O.gtr (.lit rfl) (.k rfl)) ?_ | refine e6 (O.gtr (.lit rfl) (.k rfl)) ?_ | refine cF rfl (O.gtr (.lit rfl) (.lit rfl)) ?_ | refine e6 (O.gtr (.lit rfl) (.lit rfl)) ?_ | refine cF rfl (O.gtr (.k rfl) (.lit rfl)) ?_ | refine e6 (O.gtr (.k rfl) (.lit rfl)) ?_))
  | ((with_reducible apply aC.bE (.binOp .sub _ _ _ _) (some _)); (first | refine cF rfl (O.sub (.lit rfl) (.k rfl)) ?_ | refine e6 (O.sub (.lit rfl) (.k rfl)) ?_ | refine cF rfl (O.sub (.lit rfl) (.lit rfl)) ?_ | refine e6 (O.sub (.lit rfl) (.lit rfl)) ?_ | refine cF rfl (O.sub (.k rfl) (.lit rfl)) ?_ | refine e6 (O.sub (.k rfl) (.lit rfl)) ?_))
  | ((with_reducible apply aC.bE (.binOp .leq _ _ _ _) (some _)); (first | refine cF rfl (O.leq (.lit rfl) (.k rfl)) ?_ | refine e6 (O.leq (.lit rfl) (.k rfl)) ?_ | refine cF rfl (O.leq (.lit rfl) (.lit rfl)) ?_ | refine e6 (O.leq (.lit rfl) (.lit rfl)) ?_ | refine cF rfl (O.leq (.k rfl) (.lit rfl)) ?_ | refine e6 (O.leq (.k rfl) (.lit rfl)) ?_))
  | ((with_reducible apply aC.bE (.call { callee:=.builtin .len,args:=#[_],argTypes:=#[_] }) (some _)); (first | refine cF rfl (O.jk (.bk rfl) dZ.p) ?_ | refine e6 (O.jk (.bk rfl) dZ.p) ?_ | refine cF rfl (O.n_ (.bl rfl) dZ.p) ?_ | refine e6 (O.n_ (.bl rfl) dZ.p) ?_ | refine cF rfl (O.n_ (.own rfl) dZ.p) ?_ | refine e6 (O.n_ (.own rfl) dZ.p) ?_ | refine cF rfl (O.oU (.lit rfl) iG.p) ?_ | refine e6 (O.oU (.lit rfl) iG.p) ?_))
  | ((with_reducible apply aC.bE (.unOp .not _ _) (some _)); (first | refine cF rfl (O.not (.lit rfl)) ?_ | refine e6 (O.not (.lit rfl)) ?_))
  | ((with_reducible apply aC.bE (.nilCheck _) (some _)); (first | refine cF rfl (O.eC (.ptr rfl)) ?_ | refine e6 (O.eC (.ptr rfl)) ?_ | refine cF rfl (O.xp (.cJ rfl)) ?_ | refine e6 (O.xp (.cJ rfl)) ?_ | refine cF rfl (O.eC (.obj rfl)) ?_ | refine e6 (O.eC (.obj rfl)) ?_))
  | ((with_reducible apply aC.bE (.index _ _ _) (some _)); (first | refine cF rfl (O.at' (.lit rfl) (.lit rfl) iG.p (by assumption)) ?_ | refine e6 (O.at' (.lit rfl) (.lit rfl) iG.p (by assumption)) ?_)))
 | with_reducible apply aC.Ry
 | with_reducible apply aC.Rz))):aC P N ops l g K:=h
theorem W.Rk {id:Nat}{l:List Oper}{G G1:List (Nat × ab)}{Φ:Exit->aI->Prop}(ks:List Nat) (hk:aJ .normal Φ G1) (h:aC P N l.toArray l (get G) (yi ks G1):=by exact aC.bS):W P N (.region id l.toArray false) (get G) Φ:=W.ca ks h hk
theorem W.c7 {id:Nat}{l:List Oper}{B:Code}{G G1:List (Nat × ab)}{Φ:Exit->aI->Prop}(ks:List Nat) (hk:W P N B (get G1) Φ) (h:aC P N l.toArray l (get G) (yi ks G1):=by exact aC.bS):W P N (.seq (.region id l.toArray false) B) (get G) Φ:=W.dt ks h hk
end
end Go.Own
namespace Go.Own
open Go
set_option linter.unusedSectionVars false
variable [cE]
section
variable {P:Program}{N:cP}{G:List (Nat × ab)}{g':aI}
theorem jQ {rs:List ResultVar}{ys xs:List ab}{res:ab}{outs:List (Option ab)}{n:Nat}(h:jR P (get G) rs ys xs g') (he:oX xs=res:=by rfl) (aV:qO g' N.pins 0 outs:=by (repeat' first | exact .nil | refine .no ?_)) (fj:(rs.filterMap fun | .cell t _=>some t | _=>none).Nodup:=by exact of_decide_eq_true (by kernel_rfl)) (ai:outs.length=n:=by rfl):aJ .ret (pZ P N rs n outs res) G:=aJ.fin (Fin.ro h he fj aV ai (.inr rfl))
end
end Go.Own
namespace Go.Own
open Go
set_option linter.unusedSectionVars false
variable [cE]
section
variable {P:Program}{N:cP}{G:List (Nat × ab)}{g':aI}{S R:Type}
theorem aW {α β:Type}{x:Option α}{f:α->Option β}{r:β}{G:Prop}(h:x.bind f=some r) (k:∀ a,x=some a->f a=some r->G):G:=by
 obtain ⟨a,h1,af⟩:=oA h
 grind
theorem Rd.bs {g:aI}{t:Nat}{v:Value}(h:g t=some (.lit v):=by rfl):Rd g (.tmp t) (.lit v):=.lit h
theorem Rd.z2 {g:aI}{t z n:Nat}{cs:List ab}(h:g t=some (.bk z n cs):=by rfl):Rd g (.tmp t) (.bk z n cs):=.bk h
theorem Rd.z3 {g:aI}{t z n:Nat}{cs:List ab}(h:g t=some (.own z n cs):=by rfl):Rd g (.tmp t) (.bl z ⟨t,[]⟩ n):=.own h
theorem Rd.z4 {g:aI}{t:Nat}{c:ab}{cs:List ab}(h:g t=some (.obj (c::cs)):=by rfl):Rd g (.tmp t) (.ptr ⟨t,[]⟩ 0):=.obj h
theorem Rd.z5 {g:aI}{t k:Nat}{p:Place}(h:g t=some (.ptr p k):=by rfl):Rd g (.tmp t) (.ptr p k):=.ptr h
theorem Rd.eh {g:aI}{t z n:Nat}{p:Place}(h:g t=some (.bl z p n):=by rfl):Rd g (.tmp t) (.bl z p n):=.bl h
theorem Rd.oo {g:aI}{t:Nat}{cs:List ab}(h:g t=some (.cJ cs):=by rfl):Rd g (.tmp t) (.cJ cs):=.cJ h
theorem Rd.cW {g:aI}{v:Value}(h:ofConst v=.lit v:=by rfl):Rd g (.const v) (.lit v):=.k h
theorem aJ.eU {G1:List (Nat × ab)}(h:Trim true (get G) (get G1) G1:=by (repeat' first | exact .nil | refine .n rfl ?_)):aJ .normal (λe g=>e=.normal/\h6 g G1) G:=aJ.cN h
theorem aJ.gt {s:S}{F:S->List (Nat × ab)}{Ψ:R->Exit->aI->Prop}(h:Trim true (get G) (get (F s)) (F s):=by (repeat' first | exact .nil | refine .n rfl ?_)):aJ .normal (kP F Ψ (.inl s)) G:=aJ.go h
theorem aJ.t1 {id:Nat}{r:R}{F:S->List (Nat × ab)}{l4:R->List (Nat × ab)}(h:Trim true (get G) (get (l4 r)) (l4 r):=by (repeat' first | exact .nil | refine .n rfl ?_)):aJ (.exit id) (kP F (λr e g=>e=.exit id/\h6 g (l4 r)) (.inr r)) G:=aJ.bc h
theorem Dp {rs:List ResultVar}{ys xs:List ab}{res:ab}{outs:List (Option ab)}{n:Nat}(h:jR P (get G) rs ys xs g':=by exact .f rfl rfl .nil) (he:oX xs=res:=by rfl) (aV:qO g' N.pins 0 outs:=by (repeat' first | exact .nil | refine .no ?_)) (fj:(rs.filterMap fun | .cell t _=>some t | _=>none).Nodup:=by exact of_decide_eq_true (by kernel_rfl)) (ai:outs.length=n:=by rfl):aJ .ret (pZ P N rs n outs res) G:=by grind [jQ]
end
end Go.Own
namespace Go.Own
open Go
set_option linter.unusedSectionVars false
variable [cE]
section
variable {α:Type}{P:Program}{g:aI}{ty t:TypeId}{a b:Operand}{k r z n:Nat}{cs cs':List ab}{x y:ab}{p:Place}{m:Int}{qq:IntKind}{e:TypeId}{N:cP}{ops:Array Oper}
theorem O.bT {cu f off:Nat} [h:cM P cu f off t] (j:Rd g a (.ptr ⟨r,[]⟩ k):=by exact .obj rfl) (aw:g r=some (.obj cs):=by rfl) (ai:Nat.blt (k+off) cs.length=true:=by rfl):b5 P g (.fieldAddr cu a f) ty (.ptr ⟨r,[]⟩ (k+off)):=O.nb aw j h.p ai
theorem O.y2 {cu f off:Nat} [h:cM P cu f off t] (j:Rd g a (.ptr ⟨r,[]⟩ k):=by exact .ptr rfl) (aw:g r=some (.obj cs):=by rfl) (ai:Nat.blt (k+off) cs.length=true:=by rfl):b5 P g (.fieldAddr cu a f) ty (.ptr ⟨r,[]⟩ (k+off)):=O.nb aw j h.p ai
theorem O.eW {v:Value} [h:fr P t] (j:Rd g a (.ptr ⟨r,[]⟩ k):=by exact .ptr rfl) (aw:g r=some (.obj cs):=by rfl) (aa:cs[k]?=some (.lit v):=by rfl):b5 P g (.load t a) ty (.lit v):=O.pC aw j h.p aa
theorem O.h4 {en:bA α}{L:List α}{y:α}{br:Nat}(h:idx L m=some y) [aF:dZ P t e br] (j:Rd g a (.bk en.z L.length (bp en L)):=by exact .bk rfl) (ak:Rd g b (.lit (.int qq m)):=by exact .lit rfl) (aT:br=en.z:=by rfl):b5 P g (.indexAddr t a b) ty (.cJ (en.cells y++bp en (L.drop (m.toNat+1)))):=O.r3 j ak (aT ▸ aF.p) h
theorem O.ee [h:fr P t] (j:Rd g a (.ptr ⟨r,[]⟩ k):=by exact .ptr rfl) (aw:g r=some (.obj cs):=by rfl) (aa:cs[k]?=some x:=by rfl) (ak:fC 0 ⟨r,[k]⟩ x=y:=by rfl):b5 P g (.load t a) ty y:=O.xj aw j h.p aa ak
theorem O.jB [h:fr P t] (j:Rd g a (.cJ cs):=by exact .cJ rfl) (aa:cs.head?=some x:=by rfl):b5 P g (.load t a) ty x:=O.B0 j h.p aa
theorem O.pX {cu f off:Nat} [h:cM P cu f off t] (j:Rd g a (.cJ cs):=by exact .cJ rfl):b5 P g (.fieldAddr cu a f) ty (.cJ (cs.drop off)):=O.AS j h.p
theorem O.rn {br:Nat} [h:dZ P t e br] (j:Rd g a (.bk z n cs):=by exact .bk rfl):b5 P g (.call { callee:=.builtin .len,args:=#[a],argTypes:=#[t] }) ty (ae n):=O.jk j h.p
theorem dd.gr {xs:List Operand}{gh:Array TypeId}{f:FuncId}{ys:List ab}{outs:List (Option ab)}{res:ab}(j:rv g xs ys) (gS:b7 P f ys outs res) [ah:b3 res] (aS:ju P f=true:=by kernel_rfl) (aV:s_ outs=true:=by rfl):dd P g (.call { callee:=.value (.func f),args:=xs.toArray,argTypes:=gh }) res:=by grind [dd.go]
theorem dd.sn {xs:List Operand}{gh:Array TypeId}{f:FuncId}{ys args:List ab}{outs:List (Option ab)}{res:ab}(j:fB g xs=some ys) (hv:oz g ys args) (gS:b7 P f args outs res) [ah:ow res] (aS:ju P f=true:=by kernel_rfl) (aV:s_ outs=true:=by rfl):dd P g (.call { callee:=.value (.func f),args:=xs.toArray,argTypes:=gh }) res:=by grind [dd.vw]
end
section
variable {P:Program}{N:cP}{ops:Array Oper}{a':List (List Nat)}{K:aI->Prop}{i:Nat}{acc:Acc}{l:List Oper}{d:Nat}
theorem bH.kb (bw:Nat) {G G2:List (Nat × ab)}{o:Oper}(he:bt P N (c0 (get G) (λ_=>true) acc) o (get G2)) (hk:bH P N ops a' (get G2) (bw+1) [] l K) (aK:o.guard=none:=by rfl) (gv:q5 ((acc.filterMap jL).map Place.root)=true:=by rfl) (fA:lW G=true:=by rfl) (aj:Nat.beq ops.size (bw+l.length+1)=true:=by rfl) (aQ:(List.range bw).all (λk=>(a'.getD bw []).contains k)=true:=by kernel_rfl) (av:(List.range ops.size).all (λk=>Nat.ble k bw||(a'.getD k []).contains bw)=true:=by kernel_rfl):bH P N ops a' (get G) i acc (o::l) K:=.wy bw he aK gv fA aj aQ av hk
theorem bH.DD (bw:Nat) {G G2:List (Nat × ab)}{o:Oper}{x:ab}(he:bt P N (c0 (get G) (λ_=>true) acc) o (cH (get G2) d x)) (hk:bH P N ops a' (get ((d,x)::G2)) (bw+1) [] l K) (aK:o.guard=none:=by rfl) (gv:q5 ((acc.filterMap jL).map Place.root)=true:=by rfl) (fA:lW G=true:=by rfl) (aj:Nat.beq ops.size (bw+l.length+1)=true:=by rfl) (aQ:(List.range bw).all (λk=>(a'.getD bw []).contains k)=true:=by kernel_rfl) (av:(List.range ops.size).all (λk=>Nat.ble k bw||(a'.getD k []).contains bw)=true:=by kernel_rfl):bH P N ops a' (get G) i acc (o::l) K:=.bv bw he aK gv fA aj aQ av hk
end
end Go.Own
namespace Go.Own
open Go
set_option linter.unusedSectionVars false
variable [cE]
set_option linter.unusedVariables false
def oZ:List ab->Nat->List ab->Option (List ab)
 | [],0,[]=>some []
 | [],_,_=>none
 | x::l,0,[]=>some (x::l)
 | _::l,0,y::c=>match oZ l 0 c with
  | some r=>some (y::r)
  | none=>none
 | x::l,k+1,c=>match oZ l k c with
  | some r=>some (x::r)
  | none=>none
theorem lF:∀ {l:List ab}{k:Nat}{c r:List ab},oZ l k c=some r->eP l k c=r/\k+c.length<=l.length
 | [],0,[],r,h=>by cases h; exact ⟨rfl,Nat.le_refl _⟩
 | [],0,_::_,_,h=>by cases h
 | [],_+1,_,_,h=>by cases h
 | x::l,0,[],r,h=>by cases h; exact ⟨by simp [eP],by simp⟩
 | x::l,0,y::c,r,h=>by
  unfold oZ at h
  split at h
  ·rename_i cK ah;cases h;obtain ⟨h1,af⟩:=lF ah;subst h1;exact ⟨by simp [eP],by simp at af ⊢; omega⟩
  ·cases h
 | x::l,k+1,c,r,h=>by
  unfold oZ at h
  split at h
  ·rename_i cK ah;cases h;obtain ⟨h1,af⟩:=lF ah;subst h1;exact ⟨by simp [eP,Nat.add_right_comm],by simp; omega⟩
  ·cases h
theorem CJ {g g2:aI}{r:Nat}{cs2:List ab}:∀ {ks:List Nat}{G1:List (Nat × ab)},pick (cH g r (.obj cs2)) ks=some G1->(∀ e∈G1,cA e.2)->lg g g2 r cs2 G1
 | [],_,h,_=>by cases h; exact .nil
 | k::ks,G1,h,aA=>by
  unfold pick at h
  split at h
  ·rename_i x j
   split at h
   ·rename_i l ai;cases h;have al:=CJ (g2:=g2) ai λe he=>aA e (by simp [he]);by_cases e:k=r
    ·subst e;have e:x=.obj cs2:=by simpa [cH] using j.symm
     subst e;have j:cA (.obj cs2):=aA (k,.obj cs2) (by simp);have:dh cs2:=⟨by cases j; assumption⟩;exact .b rfl al
    ·have:b3 x:=⟨aA (k,x) (by simp)⟩;exact .n (by rw [<- Bool.not_eq_true,Nat.beq_eq]; exact e) (by simpa [cH,e] using j) al
   ·cases h
  ·cases h
theorem JS {g g2:aI}{ex:List Nat}:∀ {ks:List Nat}{G1:List (Nat × ab)},pick g ks=some G1->(ks.all λk=>!ex.elem k)=true->(∀ e∈G1,cA e.2)->mx ex g g2 G1
 | [],_,h,_,_=>by cases h; exact .nil
 | k::ks,G1,h,he,aA=>by
  unfold pick at h;rw [List.all_cons,Bool.and_eq_true] at he
  split at h
  ·rename_i x j
   split at h
   ·rename_i l ai;cases h;have:b3 x:=⟨aA (k,x) (by simp)⟩;exact .n (by simpa using he.1) j (JS ai he.2 λe h=>aA e (by simp [h]))
   ·cases h
  ·cases h
def E0:List ab->Option (List ab)
 | []=>some []
 | x::l=>match E0 l with
  | some r=>some (x::r)
  | none=>none
theorem Oe:∀ {l r:List ab},E0 l=some r->l=r
 | [],r,h=>by cases h; rfl
 | x::l,r,h=>by
  unfold E0 at h
  split at h
  ·rename_i cK ah;cases h; rw [Oe ah]
  ·cases h
def E1:ab->Option ab
 | .obj cs=>match E0 cs with
  | some r=>some (.obj r)
  | none=>none
 | .own z n cs=>some (.own z n cs)
 | _=>none
theorem Of {x y:ab}(h:E1 x=some y):x=y:=by
 unfold E1 at h
 grind [Oe]
theorem JT {g g2:aI}{r:Nat}{x2:ab}:∀ {ks:List Nat}{G1:List (Nat × ab)},pick (cH g r x2) ks=some G1->(∀ e∈G1,cA e.2)->lh g g2 r x2 G1
 | [],_,h,_=>by cases h; exact .nil
 | k::ks,G1,h,aA=>by
  unfold pick at h
  split at h
  ·rename_i x j
   split at h
   ·rename_i l ai;cases h;have al:=JT (g2:=g2) ai λe he=>aA e (by simp [he]);by_cases e:k=r
    ·subst e;have e:x=x2:=by simpa [cH] using j.symm
     subst e;have:b3 x:=⟨aA (k,x) (by simp)⟩;exact .b rfl al
    ·have:b3 x:=⟨aA (k,x) (by simp)⟩;exact .n (by rw [<- Bool.not_eq_true,Nat.beq_eq]; exact e) (by simpa [cH,e] using j) al
   ·cases h
  ·cases h
section
variable {P:Program}{N:cP}{ops:Array Oper}{g:aI}{K:aI->Prop}{l:List Oper}{d r k0:Nat}{ty t:TypeId}{pos:String}{after:Array Edge}{a b x:Operand}{cs cs' cs2:List ab}{y:ab}{G2:List (Nat × ab)}{u:Option (Nat × Bool)}{p q:Place}
theorem Rd.Qw {α:Type}{en:bA α}{L:List α}{t:Nat}(h:g t=some (ao en L)):Rd g (.tmp t) (ao en L):=.bk h
theorem bt.ho (ks:List Nat) (aQ:Rd g a (.ptr ⟨r,[]⟩ k0):=by (first | exact .obj rfl | exact .ptr rfl)) (aw:g r=some (.obj cs):=by rfl) (av:Rd g b (.agg cs'):=by (first | exact .eA rfl rfl | exact .Jg rfl)) (he:oZ cs k0 cs'=some cs2:=by rfl) (ar:pick (cH g r (.obj cs2)) ks=some G2:=by rfl) (aT:hL P t cs'.length=true:=by kernel_rfl) (aO:Nat.blt 0 cs'.length=true:=by rfl) (ah:(get G2 r).isSome=true:=by rfl) [aA:dh cs'] [e8:dh cs] [aK:ib G2]:bt P N g ⟨none,.store t a b,ty,pos,after,none⟩ (get G2) :=
 .j4 rfl rfl aw aQ av rfl aT (Nat.ble_eq_true_of_le (lF he).2) aO (lF he).1 ah (CJ ar aK.p)
theorem bt.o0 (ks:List Nat) (aQ:Rd g a (.ptr ⟨r,[]⟩ k0):=by (first | exact .ptr rfl | exact .obj rfl)) (aw:g r=some (.obj cs):=by rfl) (av:Rd g b y:=by (first | exact .lit rfl | exact .k rfl | exact .Qw rfl | exact .zf | exact .bk rfl)) (aa:nS y=some [y]:=by rfl) (he:oZ cs k0 [y]=some cs2:=by rfl) (ar:pick (cH g r (.obj cs2)) ks=some G2:=by rfl) (aT:hL P t 1=true:=by kernel_rfl) (ah:(get G2 r).isSome=true:=by rfl) [aA:b3 y] [e8:dh cs] [aK:ib G2]:bt P N g ⟨none,.store t a b,ty,pos,after,none⟩ (get G2) :=
 .j4 rfl rfl aw aQ av aa aT (Nat.ble_eq_true_of_le (lF he).2) rfl (lF he).1 ah (CJ ar aK.p)
theorem bt.lk {α:Type}{en:bA α}{L:List α}(ks:List Nat) (j:Rd g x (.bl en.z p L.length):=by (first | exact .own rfl | exact .bl rfl)) (ar:bx g p=some (aq en L):=by rfl) (hk:pick g ks=some G2:=by rfl) (cy:(ks.all λk=>![p.root].elem k)=true:=by rfl) (aK:get G2 d=none:=by rfl) (a7:N.ok d=true:=by rfl) [aA:ib G2]:bt P N g ⟨some d,.assign x,ty,pos,after,u⟩ (cH (get G2) d (aq en L)) :=
 .yx rfl rfl j ar (JS hk cy aA.p) aK a7
theorem bt.Au {α:Type}{en:bA α}{L M:List α}{s:Nat}(ks:List Nat) (j:Rd g x (.bl en.z ⟨s,[]⟩ (L.length+M.length)):=by exact .bC rfl) (aw:g s=some (.bC en.z q L.length M.length (bp en M)):=by rfl) (ar:bx g q=some (aq en L):=by rfl) (hk:pick g ks=some G2:=by rfl) (cy:(ks.all λk=>![s,q.root].elem k)=true:=by rfl) (a6:Nat.beq q.root s=false:=by rfl) (aK:get G2 d=none:=by rfl) (a7:N.ok d=true:=by rfl) [aA:ib G2]:bt P N g ⟨some d,.assign x,ty,pos,after,u⟩ (cH (get G2) d (aq en (L++M))) :=
 .Lc rfl rfl j aw ar a6 (JS hk cy aA.p) aK a7
theorem bt.sp {α:Type}{en:bA α}{L M:List α}{s:Nat}{jd:List ab}(ks:List Nat) (av:Rd g b (.bl en.z ⟨s,[]⟩ (L.length+M.length)):=by exact .bC rfl) (qh:g s=some (.bC en.z q L.length M.length (bp en M)):=by rfl) (ar:bx g q=some (aq en L):=by rfl) (aQ:Rd g a (.ptr ⟨r,[]⟩ k0):=by (first | exact .ptr rfl | exact .obj rfl)) (aw:ch (ch g ⟨s,[]⟩ .dead) q .dead r=some (.obj jd):=by rfl) (he:oZ jd k0 [aq en (L++M)]=some cs2:=by rfl) (hk:pick (cH (ch (ch g ⟨s,[]⟩ .dead) q .dead) r (.obj cs2)) ks=some G2:=by rfl) (a6:Nat.beq q.root s=false:=by rfl) (aT:hL P t 1=true:=by kernel_rfl) (ah:(get G2 r).isSome=true:=by rfl) [e8:dh jd] [aK:ib G2]:bt P N g ⟨none,.store t a b,ty,pos,after,none⟩ (get G2) :=
 .Kf rfl rfl aQ av qh ar a6 .jz .iq rfl rfl aT aw (Nat.ble_eq_true_of_le (lF he).2) (lF he).1 ah (CJ hk aK.p)
theorem bt.si {α:Type}{en:bA α}{L:List α}{jd:List ab}(ks:List Nat) (av:Rd g b (.bl en.z p L.length):=by (first | exact .own rfl | exact .bl rfl)) (ar:bx g p=some (aq en L):=by rfl) (aQ:Rd g a (.ptr ⟨r,[]⟩ k0):=by (first | exact .ptr rfl | exact .obj rfl)) (aw:ch g p .dead r=some (.obj jd):=by rfl) (he:oZ jd k0 [aq en L]=some cs2:=by rfl) (hk:pick (cH (ch g p .dead) r (.obj cs2)) ks=some G2:=by rfl) (aT:hL P t 1=true:=by kernel_rfl) (ah:(get G2 r).isSome=true:=by rfl) [e8:dh jd] [aK:ib G2]:bt P N g ⟨none,.store t a b,ty,pos,after,none⟩ (get G2) :=
 .uV rfl rfl aQ av (.r ar .nil) .refl rfl aT aw (Nat.ble_eq_true_of_le (lF he).2) rfl (lF he).1 ah (CJ hk aK.p)
theorem bt.th {α:Type}{en:bA α}{L:List α}{iE y2:α}{m:Int}{o:Nat}{eI x2 y0:ab}(ks:List Nat) (h:idx L m=some iE) (aQ:Rd g a (.ptr p (m.toNat * en.z+o)):=by exact .ptr rfl) (ar:bx g p=some (aq en L):=by rfl) (av:Rd g b y:=by (first | exact .lit rfl | exact .k rfl | exact .Qw rfl | exact .zf | exact .bk rfl | exact .eA rfl rfl)) (aa:nS y=some cs':=by rfl) (he:eP (en.cells iE) o cs'=en.cells y2:=by rfl) (jx:ch g p (aq en (L.set m.toNat y2)) p.root=some eI:=by rfl) (kA:E1 eI=some x2:=by rfl) (hk:pick (cH g p.root x2) ks=some G2:=by rfl) (aT:hL P t cs'.length=true:=by kernel_rfl) (hlen:Nat.ble (o+cs'.length) en.z=true:=by rfl) (aO:Nat.blt 0 cs'.length=true:=by rfl) (ah:(get G2 p.root).isSome=true:=by rfl) (vI:g p.root=some y0:=by rfl) [aA:b3 y] [e8:b3 y0] [aK:ib G2]:bt P N g ⟨none,.store t a b,ty,pos,after,none⟩ (get G2) :=
 .xV rfl rfl aQ av ar h aT aa he hlen aO (by rw [jx,Of kA]) ah vI (JT hk aK.p)
theorem aC.eE {o:Oper}(he:bt P N g o (get G2)) (hk:aC P N ops l (get G2) K) (aK:o.guard=none:=by rfl):aC P N ops (o::l) g K:=.na aK he hk
theorem aC.b0 {o:Oper}(he:bt P N g o (cH (get G2) d y)) (hk:aC P N ops l (cH (get G2) d y) K) (aK:o.guard=none:=by rfl):aC P N ops (o::l) g K:=.wI aK he hk
end
section
variable {S R:Type}{P:Program}{N:cP}{A B c:Code}{G:List (Nat × ab)}{Φ:Exit->aI->Prop}{id:Nat}
theorem W.gK {G1:List (Nat × ab)}(ks:List Nat) (L:List (Nat × ab)) (h:W P N c (get G) λe g=>e=.normal/\h6 g G1) (hk:aJ .normal Φ G1) (ar:pick (get (L++G)) ks=some G1:=by rfl):W P N c (get G) Φ:=W.cN _ h hk
theorem W.td {G1:List (Nat × ab)}{l:List Oper}(ks:List Nat) (L:List (Nat × ab)) (h:aC P N l.toArray l (get G) λg'=>j' g' (get G1)) (hk:W P N B (get G1) Φ) (ar:pick (get (L++G)) ks=some G1:=by rfl):W P N (.seq (.region id l.toArray false) B) (get G) Φ:=W.rs _ h hk
theorem W.im {f:S->Option (S ⊕ R)}{r:R}{cV:S->List (Nat × ab)}{l7:R->List (Nat × ab)}(s:S) (F:S->List (Nat × ab)) (ks:List Nat) (id:Nat) (X:R->List (Nat × ab)) (r6:List Nat) (h:b6 f s=some r) (av:∀ s o,f s=some o->W P N c (get (cV s)) (kP cV (λr e g=>e=.exit id/\h6 g (l7 r)) o)) (hk:aJ (.exit id) Φ (l7 r))
  (aG:∀ s,pick (get (F s++G)) ks=some (cV s):=by intro s; rfl) (t_:∀ s,pick (get (X s++G)) r6=some (l7 s):=by intro s; rfl) (al:Trim true (get G) (get (cV s)) (cV s):=by (repeat' first | exact .nil | refine .n rfl ?_ | refine .w rfl rfl .pF ?_ | refine .w rfl rfl .pE ?_ | refine .w rfl rfl (jD.obj (by (repeat' first | exact .nil | refine .f ?_ | refine .o ?_ | refine .i ?_))) ?_)):W P N (.loop c) (get G) Φ :=
 W.du al (W.EU cV id l7 h av hk)
theorem W.gf {gG:Type}{f:S->Option (S ⊕ (R ⊕ gG))}{r:R ⊕ gG}{cV:S->List (Nat × ab)}{l7:R->List (Nat × ab)}{tH:gG->List (Nat × ab)}(s:S) (F:S->List (Nat × ab)) (ks:List Nat) (id:Nat) (X:R->List (Nat × ab)) (r6:List Nat) (Y:gG->List (Nat × ab)) (BY:List Nat) (h:b6 f s=some r)
  (av:∀ s o,f s=some o->W P N c (get (cV s)) (kP cV (λ(r:R ⊕ gG) e g=>match r with | .inl r=>e=.exit id/\h6 g (l7 r) | .inr r=>e=.ret/\h6 g (tH r)) o))
  (j:∀ x,r=.inl x->aJ (.exit id) Φ (l7 x)) (ah:∀ x,r=.inr x->aJ .ret Φ (tH x))
  (aG:∀ s,pick (get (F s++G)) ks=some (cV s):=by intro s; rfl) (t_:∀ s,pick (get (X s++G)) r6=some (l7 s):=by intro s; rfl) (A6:∀ s,pick (get (Y s++G)) BY=some (tH s):=by intro s; rfl) (al:Trim true (get G) (get (cV s)) (cV s):=by (repeat' first | exact .nil | refine .n rfl ?_ | refine .w rfl rfl .pF ?_ | refine .w rfl rfl .pE ?_ | refine .w rfl rfl (jD.obj (by (repeat' first | exact .nil | refine .f ?_ | refine .o ?_ | refine .i ?_))) ?_)):W P N (.loop c) (get G) Φ :=
 W.du al (W.EV cV id l7 tH h av j ah)
end
end Go.Own
namespace Go.Own
open Go
set_option linter.unusedSectionVars false
variable [cE]
set_option linter.unusedVariables false
inductive lb:Type 1
 | e
 | b (x y:lb)
 | ey {S R:Type}(F:S->List (Nat × ab)) (ks:List Nat) (id:Nat) (X:R->List (Nat × ab)) (r6:List Nat) (x y:lb)
 | gf {S R gG:Type}(F:S->List (Nat × ab)) (ks:List Nat) (id:Nat) (X:R->List (Nat × ab)) (r6:List Nat) (Y:gG->List (Nat × ab)) (BY:List Nat) (x y z:lb)
 | cN {α:Type}(ks:List Nat) (L:α->List (Nat × ab)) (x y:lb)
 | eK {α:Type}(id:Nat) (ks:List Nat) (L:α->List (Nat × ab)) (y:lb)
 | rd (id:Nat) (a':List (List Nat)) (y:lb)
 | ca {α:Type}(id:Nat) (a':List (List Nat)) (ks:List Nat) (L:α->List (Nat × ab)) (y:lb)
 | p (y:lb)
 | dN {α:Type}(id s:Nat) (i:Option Nat) (en:bA α) (y:lb)
 | sH {α:Type}(s:Nat) (i:Option Nat) (en:bA α) (y:lb)
def NX:ab->Bool
 | .lit _ | .aU | .bk .. | .own .. | .obj _ | .cJ _ | .di .. | .mp _ | .imp _=>true
 | .agg cs=>cs.all λx=>match x with | .ptr .. | .bl .. | .sub .. | .hf _ | .bC .. | .dead=>false | _=>true
 | _=>false
def s6 (ex:List Nat):List (Nat × ab)->Option (List Nat)
 | []=>some []
 | (k,x)::l=>match s6 (k::ex) l with
  | none=>none
  | some r=>match !ex.elem k&&NX x with
   | true=>some (k::r)
   | false=>some r
def Ji (E ex:List Nat):List (Nat × ab)->Option (List Nat)
 | []=>some []
 | (k,x)::l=>match Ji E (k::ex) l with
  | none=>none
  | some r=>match E.elem k&&(!ex.elem k&&NX x) with
   | true=>some (k::r)
   | false=>some r
def roots (G:List (Nat × ab)):Operand->List Nat
 | .tmp s=>match get G s with
  | some (.own ..)=>[s]
  | some (.obj _)=>[s]
  | some (.bl _ p _)=>[s,p.root]
  | some (.ptr p _)=>[s,p.root]
  | some (.bC _ q _ _ _)=>match get G q.root with
   | some (.bC _ Fg _ _ _)=>[s,q.root,Fg.root]
   | _=>[s,q.root]
  | _=>[s]
 | _=>[]
def OF (F:List (Nat × ab)) (s:Nat):Nat->List ab->Option (List ab)
 | _,[]=>some []
 | i,x::l=>match OF F s (i+1) l with
  | none=>none
  | some r=>match get F (1000 * (i+1)+s) with
   | some y=>some (y::r)
   | none=>some (x::r)
def pI (F G:List (Nat × ab)):aI:=λs=>match get F s with
 | some x=>some x
 | none=>match get G s with
  | some (.obj cs)=>match OF F s 0 cs with
   | some r=>some (.obj r)
   | none=>none
  | x=>x
def cv (E:List Nat) (t:lb) (P:Program) (N:cP) (c:Code) (G:List (Nat × ab)) (Φ:Exit->aI->Prop):Prop:=W P N c (get G) Φ
def eb (E:List Nat) (t:lb) (e:Exit) (Φ:Exit->aI->Prop) (G:List (Nat × ab)):Prop:=aJ e Φ G
def yh (E:List Nat) (t:lb) (Ψ:lb->List (Nat × ab)->Prop) (g':aI):Prop:=∃ G1,j' g' (get G1)/\Ψ t G1
def ru {α:Type}(F:α->List (Nat × ab)) (J:α) (e:Exit) (g:aI):Prop:=e=.normal/\h6 g (F J)
def KY {R:Type}(id:Nat) (X:R->List (Nat × ab)) (r:R) (e:Exit) (g:aI):Prop:=e=.exit id/\h6 g (X r)
def Aj {R gG:Type}(id:Nat) (X:R->List (Nat × ab)) (Y:gG->List (Nat × ab)) (r:R ⊕ gG) (e:Exit) (g:aI):Prop:=match r with | .inl r=>e=.exit id/\h6 g (X r) | .inr r=>e=.ret/\h6 g (Y r)
class bU (P:Program) (f:FuncId) (p:Prop) (args:outParam (List ab)) (outs:outParam (List (Option ab))) (res:outParam ab):Prop where go:p->b7 P f args outs res
section
variable {P:Program}{N:cP}{E:List Nat}{t x y z:lb}{A B c:Code}{G G1:List (Nat × ab)}{Φ oq:Exit->aI->Prop}{Ψ:aI->Prop}{id k s:Nat}{b:Bool}{α β:Type}{l:List Oper}
theorem cv.rg (h:aC P N l.toArray l (get G) (yh E t λt G1=>cv E t P N B G1 Φ)):cv E t P N (.seq (.region id l.toArray false) B) G Φ :=
 W.seq (W.zO λi hi=>by
  obtain ⟨g',h1,G1,af,aF⟩:=h i hi;exact ⟨g',h1,W.weaken af aF⟩)
theorem cv.rt (h:aC P N l.toArray l (get G) (yh E t λt G1=>eb E t .normal Φ G1)):cv E t P N (.region id l.toArray false) G Φ :=
 W.zO λi hi=>by
  obtain ⟨g',h1,G1,af,aF⟩:=h i hi;exact ⟨g',h1,aF g' (.eH af .iq)⟩
theorem cv.bY (h:cv E t P N A G (o1 (λg1=>W P N B g1 Φ) Φ)):cv E t P N (.seq A B) G Φ:=W.seq h
theorem cv.cT (h:cv E t P N A G (lS id Φ)):cv E t P N (.block id A) G Φ:=W.cT h
theorem cv.wy (h:cv E t P N A G (lS id Φ)):cv E (.p t) P N (.block id A) G Φ:=W.cT h
theorem cv.dO (h:eb E t .normal Φ G):cv E t P N .skip G Φ:=W.dO h
theorem cv.hA (h:eb E t (.exit k) Φ G):cv E t P N (.exit k) G Φ:=W.hA h
theorem cv.JV (h:eb E t .ret Φ G):cv E t P N .ret G Φ:=W.rt h
theorem cv.cd {X Y o:α}(h:(bif b then X else Y)=o) (cX:b=true->X=o->cv E x P N A G Φ) (aG:b=false->Y=o->cv E y P N B G Φ) (aa:get G s=some (bf b):=by rfl):cv E (.b x y) P N (.cond (.tmp s) A B) G Φ:=W.cd h aa cX aG
theorem cv.ce {X Y o:α}(h:(bif b then X else Y)=o) (cX:b=true->X=o->cv E .e P N A G Φ) (aG:b=false->Y=o->cv E .e P N B G Φ) (aa:get G s=some (bf b):=by rfl):cv E .e P N (.cond (.tmp s) A B) G Φ:=W.cd h aa cX aG
theorem cv.SD (h:cv E t P N A G Φ) (aa:get G s=some (bf b):=by rfl) (av:b=true:=by (first | rfl | assumption)):cv E t P N (.cond (.tmp s) A B) G Φ:=W.jE aa (λ_=>h) (λe=>by rw [av] at e; cases e)
theorem cv.SC (h:cv E t P N B G Φ) (aa:get G s=some (bf b):=by rfl) (av:b=false:=by (first | rfl | assumption)):cv E t P N (.cond (.tmp s) A B) G Φ:=W.jE aa (λe=>by rw [av] at e; cases e) (λ_=>h)
theorem cv.Xu {o:Operand}{m:Option α}{f:α->Option β}{r:β}{ks:List Nat}{L cV:α->List (Nat × ab)}(h:m.bind f=some r) (h1:∀ J,m=some J->cv E x P N (.cond o A B) G (ru cV J)) (af:∀ J,m=some J->f J=some r->eb E y .normal Φ (cV J))
  (aG:∀ J,pick (pI (L J) G) ks=some (cV J):=by intro J; rfl):cv E (.cN ks L x y) P N (.cond o A B) G Φ:=by
 obtain ⟨J,aj,h⟩:=oA h;exact W.cN _ (h1 J aj) (af J aj h)
theorem cv.Jf {m:Option α}{f:α->Option β}{r:β}{ks:List Nat}{L cV:α->List (Nat × ab)}(h:m.bind f=some r) (h1:∀ J,m=some J->cv E x P N (.block id A) G (ru cV J)) (af:∀ J,m=some J->f J=some r->eb E y .normal Φ (cV J))
  (aG:∀ J,pick (pI (L J) G) ks=some (cV J):=by intro J; rfl):cv E (.cN ks L x y) P N (.block id A) G Φ:=by
 obtain ⟨J,aj,h⟩:=oA h;exact W.cN _ (h1 J aj) (af J aj h)
theorem cv.ey {S R:Type}{f:S->Option (S ⊕ R)}{s:S}{g:R->Option β}{r:β}{F cV:S->List (Nat × ab)}{ks r6:List Nat}{X l7:R->List (Nat × ab)}(h:(b6 f s).bind g=some r)
  (av:∀ s o,f s=some o->cv E x P N c (cV s) (kP cV (KY id l7) o)) (hk:∀ cK,b6 f s=some cK->g cK=some r->eb E y (.exit id) Φ (l7 cK))
  (aG:∀ s,pick (pI (F s) G) ks=some (cV s):=by intro s; rfl) (t_:∀ s,pick (pI (X s) G) r6=some (l7 s):=by intro s; rfl) (al:Trim true (get G) (get (cV s)) (cV s):=by (repeat' first | exact .nil | refine .n rfl ?_ | refine .w rfl rfl .pF ?_ | refine .w rfl rfl .pE ?_ | refine .w rfl rfl (jD.obj (by (repeat' first | exact .nil | refine .f ?_ | refine .o ?_ | refine .i ?_))) ?_)) :
  cv E (.ey F ks id X r6 x y) P N (.loop c) G Φ:=by
 obtain ⟨cK,ai,h⟩:=oA h;exact W.du al (W.EU cV id l7 ai av (hk cK ai h))
theorem eb.bY (h:cv E t P N B G Φ):eb E t .normal (o1 (λg1=>W P N B g1 Φ) oq) G:=aJ.bY h
theorem eb.hy (h:eb E t (.exit k) Φ G):eb E t (.exit k) (o1 Ψ Φ) G:=aJ.hy h
theorem eb.kH (h:eb E t .ret Φ G):eb E t .ret (o1 Ψ Φ) G:=aJ.kH h
theorem eb.cT (h:eb E t .normal Φ G):eb E t .normal (lS id Φ) G:=aJ.cT h
theorem eb.hs (h:eb E t .normal Φ G):eb E t (.exit id) (lS id Φ) G:=aJ.hs h
theorem eb.Gy (h:eb E t (.exit k) Φ G) (hk:Nat.beq k id=false:=by rfl):eb E t (.exit k) (lS id Φ) G:=aJ.Gy hk h
theorem eb.qS (h:eb E t .ret Φ G):eb E t .ret (lS id Φ) G:=aJ.qS h
theorem eb.cN {F:α->List (Nat × ab)}{J v:α}(h:some v=some J) (al:Trim true (get G) (get (F v)) (F v)):eb E t .normal (ru F J) G:=by
 cases h; exact aJ.cN al
theorem eb.go {S R:Type}{s:S}{o:S ⊕ R}{F:S->List (Nat × ab)}{Ψ:R->Exit->aI->Prop}(h:some (.inl s)=some o) (al:Trim true (get G) (get (F s)) (F s)):eb E t .normal (kP F Ψ o) G:=by
 cases h; exact aJ.go al
theorem eb.bc {S R:Type}{r:R}{o:S ⊕ R}{F:S->List (Nat × ab)}{X:R->List (Nat × ab)}(h:some (.inr r)=some o) (al:Trim true (get G) (get (X r)) (X r)):eb E t (.exit id) (kP F (KY id X) o) G:=by
 cases h; exact aJ.bc al
variable {ops:Array Oper}{K:aI->Prop}{d:Nat}{op:Op}{ty:TypeId}{pos:String}{after:Array Edge}{v v2:ab}{ks:List Nat}{g:aI}{J cu:Nat}{dx:Bool}
theorem pj {G:List (Nat × ab)}{d:Nat}{v:ab}:cH (get G) d v=get ((d,v)::G):=sI.symm
theorem ec (ar:b5 P (get G) op ty v) (hk:aC P N ops l (get ((d,v)::G)) K) (a7:N.ok d=true:=by rfl) (aS:get G d=none:=by rfl):aC P N ops (⟨some d,op,ty,pos,after,none⟩::l) (get G) K:=ay ar (pj ▸ hk) a7 aS
theorem Gj (mf:s6 [d] G=some ks) (aK:pick (get G) ks=some G1) [aA:ib G1] (ar:b5 P (get G1) op ty v) (hk:aC P N ops l (get ((d,v)::G1)) K) (a7:N.ok d=true:=by rfl) (aS:get G1 d=none:=by rfl):aC P N ops (⟨some d,op,ty,pos,after,none⟩::l) (get G) K:=aC.ca ks aK (ay ar (pj ▸ hk) a7 aS)
theorem K_ (ar:dd P (get G) op v) (hk:aC P N ops l (get ((d,v)::G)) K) (a7:N.ok d=true:=by rfl) (aS:get G d=none:=by rfl):aC P N ops (⟨some d,op,ty,pos,after,none⟩::l) (get G) K:=hD ar (pj ▸ hk) a7 aS
theorem ej (ar:b5 P (get G) op ty v) (hk:aC P N ops l (get ((d,v)::G)) K) (h:(ops[J]?).bind (·.dst)=some cu:=by rfl) (aK:get G cu=some (.lit (.bool dx)):=by rfl) (av:dx=b:=by (first | rfl | assumption)) (a7:N.ok d=true:=by rfl) (aS:get G d=none:=by rfl):aC P N ops (⟨some d,op,ty,pos,after,some (J,b)⟩::l) (get G) K:=.v ar a7 aS (.j8 h aK av) (pj ▸ hk)
theorem KU (ar:dd P (get G) op v) (hk:aC P N ops l (get ((d,v)::G)) K) (h:(ops[J]?).bind (·.dst)=some cu:=by rfl) (aK:get G cu=some (.lit (.bool dx)):=by rfl) (av:dx=b:=by (first | rfl | assumption)) (a7:N.ok d=true:=by rfl) (aS:get G d=none:=by rfl):aC P N ops (⟨some d,op,ty,pos,after,some (J,b)⟩::l) (get G) K:=.c ar a7 aS (.j8 h aK av) (pj ▸ hk)
theorem qK (hk:aC P N ops l (get ((d,.bJ [])::G)) K) (h:(ops[J]?).bind (·.dst)=some cu:=by rfl) (aK:get G cu=some (.lit (.bool dx)):=by rfl) (av:dx=!b:=by (first | rfl | assumption)) (a7:N.ok d=true:=by rfl) (aS:get G d=none:=by rfl):aC P N ops (⟨some d,op,ty,pos,after,some (J,b)⟩::l) (get G) K:=.ps h aK av a7 aS (pj ▸ hk)
theorem QX (hk:aC P N ops l (get ((d,.bJ [])::G)) K) (h:(ops[J]?).bind (·.dst)=some cu:=by rfl) (aK:get G cu=some (.bJ []):=by rfl) (a7:N.ok d=true:=by rfl) (aS:get G d=none:=by rfl):aC P N ops (⟨some d,op,ty,pos,after,some (J,b)⟩::l) (get G) K:=.pu h aK a7 aS (pj ▸ hk)
theorem GO {p:Prop}{X Y o:α}(h:(bif b then X else Y)=o) (cX:b=true->X=o->p) (aG:b=false->Y=o->p):p:=by
 cases b
 ·exact aG rfl h
 ·exact cX rfl h
theorem Gc {Dc:lb->List (Nat × ab)->Prop}(mf:Ji E [] G=some ks) (ar:pick (get G) ks=some G1) [aA:ib G1] (hk:Dc t G1):aC P N ops [] (get G) (yh E t Dc):=.nil ⟨G1,(uN (c:=true) (g2:=get G1) ar aA.p).eH,hk⟩
theorem cv.eK {m:Option α}{f:α->Option β}{r:β}{ks:List Nat}{L cV:α->List (Nat × ab)}(h:m.bind f=some r) (h1:∀ J,m=some J->aC P N l.toArray l (get G) (ru cV J .normal)) (af:∀ J,m=some J->f J=some r->cv E y P N B (cV J) Φ)
  (aG:∀ J,pick (pI (L J) G) ks=some (cV J):=by intro J; rfl):cv E (.eK id ks L y) P N (.seq (.region id l.toArray false) B) G Φ:=by
 obtain ⟨J,aj,h⟩:=oA h;exact W.seq (W.zO λi hi=>by
  obtain ⟨g',b2,_,e'⟩:=h1 J aj i hi;exact ⟨g',b2,W.be (af J aj h) e'⟩)
theorem QU {F:α->List (Nat × ab)}{J v:α}(h:some v=some J) (al:Trim true (get G) (get (F v)) (F v)):aC P N ops [] (get G) (ru F J .normal):=by
 cases h; exact .nil ⟨rfl,.eH al.eH .iq⟩
end
end Go.Own
namespace Go.Own
open Go Go.Lib
set_option linter.unusedSectionVars false
variable [cE]
section
variable {P:Program}{w:World}
theorem Y' (t u ty e:TypeId) (i:TypeInfo) (al:P.underlying t=some (.slice e)) (hu:P.underlying u=some .string) (hi:P.info? e=some i) (aT:i.zero=some (.int .u8 0)) (vA:i.size=1) (uf:i.bytes=1)
  {bv:Value}{n:Nat}{us:List Value}(iQ:w.ownsRow 0 e 1 bv n us) (s:ByteArray) (nc:n+s.size<=maxLen) (wW:n+s.size<=140737488355328) :
  ∃ eg w',(Builtin.append_ #[t,u] ty #[bv,.string s]).run P w=.ok eg w'/\x3 w w' bv eg e e 1 n s.size us (strCells s):=by
 have kZ:us.length=n:=by simpa using iQ.1
 have ai:=strCells_length s;have Wo:n+s.size<=9223372036854775807:=by simp only [maxLen] at nc; omega
 have hlen:(us++strCells s).length=(n+s.size) * 1:=by rw [List.length_append,kZ,ai,Nat.mul_one]
 have aS:=λw=>run_firstCells_string (P:=P) w 1 s;by_cases hm:s.size=0
 ·have aA:strCells s=[]:=List.eq_nil_of_length_eq_zero (by rw [ai,hm]);refine ⟨bv,w,?_,.same iQ (λ_ _=>rfl) (Nat.le_refl _) rfl rfl rfl (by simpa [hm,aA] using iQ) (λc aa=>.inl aa) λ_=>rfl⟩;have qV:=aS w;rw [hm] at qV;obtain ⟨_,bD⟩:=iQ;rcases bD with ⟨rfl,rfl⟩ | ⟨b,cap,cur,rfl,_,aK,hle,_⟩
  ·simp [Builtin.append_,run_underlying al,run_underlying hu,sizeOf,typeInfo,hi,vA,Builtin.lenOf,hm,qV]
  ·simp [Builtin.append_,run_underlying al,run_underlying hu,sizeOf,typeInfo,hi,vA,Builtin.lenOf,hm,qV,aA,hle,storeCells]
 have grown:∀ jA:Nat,jA<n+s.size ->
   (w.drew.alloc (.cells (us.toArray++(strCells s).toArray++Builtin.zeroCells (Value.int .u8 0).cells (grownCap w (n+s.size) jA e - (n+s.size))) e)).ownsRow 0 e 1
    (.slice (some ⟨w.heap.size,0,none⟩) (n+s.size) (grownCap w (n+s.size) jA e)) (n+s.size) (us++strCells s):=by
  intro jA aV;refine ⟨hlen,.inr ⟨w.heap.size,_,_,rfl,Nat.zero_le _,rA w.drew _,grownCap_ge w (n+s.size) jA e,grownCap_le_maxLen w (n+s.size) jA e nc,?_,?_⟩⟩
  ·have dq:=grownCap_ge w (n+s.size) jA e;have s3:(Value.int IntKind.u8 0).cells.size=1:=rfl;simp only [Array.size_append,List.size_toArray,size_zeroCells,s3,kZ,ai];omega
  ·simp only [Array.toList_append,List.append_assoc];rw [<- List.append_assoc,<- hlen];exact List.take_left
 have w2:=iQ;obtain ⟨_,bD⟩:=iQ;rcases bD with ⟨rfl,rfl⟩ | ⟨b,cap,cur,rfl,_,aK,hle,qe,gT,y9⟩
 ·have j:us=[]:=List.eq_nil_of_length_eq_zero kZ;subst j;have ah:=run_append_nil_string (P:=P) w t u ty e i (.int .u8 0) al hu hi aT s (by omega) (by omega) (by rw [uf]; omega);have nZ:=grown 0 (by omega);simp only [Nat.zero_add,List.nil_append,Array.empty_append] at nZ ⊢;have b2:(s.data.map λb=>Value.int .u8 b.toNat)=(strCells s).toArray:=by
   apply Array.ext';simp [strCells]
  rw [b2] at ah;exact ⟨_,_,ah,.same w2 (λc aa=>alloc_old w.drew _ c aa) (by simp) rfl rfl rfl (by simpa using nZ) (λc aa=>.inr (by simp [Value.ownBlock] at aa; omega)) (λa=>AW w.drew _ _ a)⟩
 ·have kX:cur.size=cap:=by simpa using gT
  have Wt:cur.toList.take n=us:=by simpa using y9
  by_cases vy:n+s.size<=cap
  ·have bL:=run_storeCells_at P b n e (strCells s) 0 cur w aK (by rw [ai]; omega) (strCells_oneCell s);simp only [Nat.add_zero,ai] at bL;have ah:(Builtin.append_ #[t,u] ty #[.slice (some ⟨b,0,none⟩) n cap,.string s]).run P w =
     .ok (.slice (some ⟨b,0,none⟩) (n+s.size) cap) (w.setRow b (cur.toList.take n++strCells s++cur.toList.drop (n+s.size)).toArray):=by
    simp [Builtin.append_,run_underlying al,run_underlying hu,sizeOf,typeInfo,hi,vA,Builtin.lenOf,vy,aS,Addr.add_lit,bL]
   have eF:(cur.toList.take n++strCells s++cur.toList.drop (n+s.size)).toArray.size=cur.size:=by
    simp only [List.size_toArray,List.length_append,List.length_take,List.length_drop,Array.length_toList,ai];omega
   have fp:(cur.toList.take n++strCells s++cur.toList.drop (n+s.size)).take (n * 1)=cur.toList.take (n * 1):=by
    rw [List.append_assoc,Nat.mul_one];exact List.take_left' (by simp; omega)
   refine ⟨_,_,ah,⟨⟨by rw [kZ,Nat.mul_one],.inr ⟨b,cap,_,rfl,Nat.zero_le _,setRow_heap w b cur _ e _ aK,hle,qe,eF.trans gT,?_⟩⟩,⟨hlen,.inr ⟨b,cap,_,rfl,Nat.zero_le _,setRow_heap w b cur _ e _ aK,vy,qe,eF.trans gT,?_⟩⟩,
    ⟨rfl,rfl,rfl,by simp,λk _ hk=>setRow_other w b k _ (λe=>hk (by simp [Value.ownBlock,e])),λa _ _=>DX w b _ a,Nat.le_refl _⟩,λc aa=>.inl aa,λc aa=>?_⟩⟩
   ·rw [<- y9]; exact fp
   ·rw [Wt,<- hlen];exact List.take_left
   ·simp only [Value.ownBlock,Option.some.injEq] at aa;subst aa;exact ⟨cur,_,aK,setRow_heap w b cur _ e _ aK,eF,fp⟩
  ·have holds:∀ (J:Nat) (u:Value),us[J]?=some u->w.cell? ((⟨b,0,none⟩:Addr).add J)=some u:=w2.cells (g:=b) rfl;have ah:=run_append_grow_string (P:=P) w t u ty e i (.int .u8 0) al hu hi aT ⟨b,0,none⟩ n cap us (by rw [vA]; simpa using kZ) holds s (by omega) (by omega) (by rw [uf]; exact growslice_fits (by omega) (by omega));have nZ:=grown cap (by omega);exact ⟨_,_,ah,.same w2 (λc aa=>alloc_old w.drew _ c aa) (by simp) rfl rfl rfl nZ (λc aa=>.inr (by simp [Value.ownBlock] at aa; omega)) (λa=>AW w.drew _ _ a)⟩
theorem aas {ops:Array Oper}{rest:List Oper}{o:Oper}{a:Act}{Q:Exit->Act->World->Prop}(sP:o.guard=none) (ti x:Operand) (t u:TypeId)
  (aV:o.op=.call { callee:=.builtin .append,args:=#[ti,x],argTypes:=#[t,u] }) 
  (e:TypeId) (i:TypeInfo) (al:P.underlying t=some (.slice e)) (hu:P.underlying u=some .string) (hi:P.info? e=some i) (aT:i.zero=some (.int .u8 0)) (vA:i.size=1) (uf:i.bytes=1)
  (v:Value) (n:Nat) (xs:List Value) (aw:a.eval ti=v) (nr:w.ownsRow 0 e 1 v n xs) (s:ByteArray) (j:a.eval x=.string s) (nc:n+s.size<=maxLen) (wW:n+s.size<=140737488355328)
  (h:∀ eg w',x3 w w' v eg e e 1 n s.size xs (strCells s)->wpList P ops Q rest (a.put o.dst eg) w'):wpList P ops Q (o::rest) a w:=by
 refine wpList_plain sP λK c5=>?_;obtain ⟨eg,w',ah,af⟩:=Y' (P:=P) (w:=w) t u o.type e i al hu hi aT vA uf nr s nc wW;unfold Oper.wp execOp;simp only [aV,resolve,invoke,builtin,Sem.run_bind,Sem.run_pure,Result.andThen_ok,List.map_toArray,List.map_cons,List.map_nil,aw,j,ah];exact c5 _ _ (h eg w' af)
end
end Go.Own
namespace Go.Proofs
open Tryz
open Go.Shelf Go.RowKit Go.Own
set_option linter.unusedSectionVars false
variable [cE]
variable {P:Program}{ρ:Ren}
structure QE (t:TypeId) (w w':World) (b k:Nat) (e:TypeId) (arr:Array Value) (v:Value) (n m:Nat) (us news:List Value):Prop where
 ek:Fr w w' (λc=>c=b\/v.ownBlock=some c)
 row:∃ eg,w'.ownsRow 0 t 1 eg (n+m) (us++news)/\w'.heap[b]?=some (.cells ((arr.setIfInBounds k (.pointer (some ⟨b,k,none⟩))).setIfInBounds (k+1) eg) e (0,0))/\eg.ownBlock≠some b/\(∀ c,eg.ownBlock=some c->v.ownBlock=some c\/w.heap.size<=c)
set_option maxHeartbeats 1000000 in
set_option maxRecDepth 100000 in
theorem RX (L:Lays.n240 P ρ) (X:Builder.X72 P ρ) (b k:Nat) (w:World) (aO:w.cell? ⟨b,k,none⟩=some (.pointer (some ⟨b,k,none⟩))) :
  Calls P (ρ.f 240) #[.pointer (some ⟨b,k,none⟩)] w λe w'=>e=.returned (.tuple #[])/\w'=w:=by
 obtain ⟨J,aj,_⟩:=Option.map_eq_some_iff.1 X.sizeBuilder;have mixed:=L.mixed;have t72:=L.t72; have a72:=L.a72; have z72:=L.z72; have v72:=L.v72; have Kl:=run_underlying L.t72;have t70:=L.t70; have a70:=L.a70; have z70:=L.z70; have v70:=L.v70; have Kk:=run_underlying L.t70;have t9:=L.t9; have a9:=L.a9; have z9:=L.z9; have v9:=L.v9; have Km:=run_underlying L.t9;have t4:=L.t4; have a4:=L.a4; have z4:=L.z4; have v4:=L.v4; have Qc:=run_underlying L.t4;have t164:=L.t164; have a164:=L.a164; have z164:=L.z164; have v164:=L.v164; have Qa:=run_underlying L.t164
 go_enter L.f240,Body.n240_ntmps ρ
 go_wp2
 rw [Lib.run_neq_ptr_same w _ L.t70 aj]
 go_wp2
 go_end0
 exact ⟨rfl,rfl⟩
set_option maxHeartbeats 2000000 in
set_option maxRecDepth 100000 in
theorem RW (L:Lays.n240 P ρ) (X:Builder.X72 P ρ) {b k:Nat}{arr:Array Value}{e:TypeId}{p:Value}(w:World)
  (av:w.heap[b]?=some (.cells arr e (0,0))) (aO:arr[k]?=some p) (ar:(p=.pointer none/\liesAt P P.depth e (arr.size / P.cellsOf e) k (ρ.t 72) 1=true)\/p=.pointer (some ⟨b,k,none⟩)) :
  Calls P (ρ.f 240) #[.pointer (some ⟨b,k,none⟩)] w λb8 w'=>b8=.returned (.tuple #[])/\Fr w w' (λc=>c=b)/\w'.heap[b]?=some (.cells (arr.setIfInBounds k (.pointer (some ⟨b,k,none⟩))) e (0,0)):=by
 obtain ⟨J,aj,yY⟩:=Option.map_eq_some_iff.1 X.sizeBuilder;have mixed:=L.mixed;have t72:=L.t72; have a72:=L.a72; have z72:=L.z72; have v72:=L.v72; have Kl:=run_underlying L.t72;have t70:=L.t70; have a70:=L.a70; have z70:=L.z70; have v70:=L.v70; have Kk:=run_underlying L.t70;have t9:=L.t9; have a9:=L.a9; have z9:=L.z9; have v9:=L.v9; have Km:=run_underlying L.t9;have t4:=L.t4; have a4:=L.a4; have z4:=L.z4; have v4:=L.v4; have Qc:=run_underlying L.t4;have t164:=L.t164; have a164:=L.a164; have z164:=L.z164; have v164:=L.v164; have Qa:=run_underlying L.t164;have hk:k<arr.size:=(Array.getElem?_eq_some_iff.1 aO).1;have H4:w.cell? ⟨b,k,none⟩=some p:=by rw [Lib.cell_of_heap av]; exact aO
 have nX:w.frozen? ⟨b,k,none⟩=false:=Lib.frozen_of_heap av k;have Er:w.shape? b=some (e,arr.size):=by simp [World.shape?,av]
 rcases ar with ⟨rfl,ai⟩ | rfl
 ·go_enter L.f240,Body.n240_ntmps ρ
  go_wp2
  rw [Lib.run_to_unsafe w ⟨b,k,none⟩ L.t70 L.t164 aj (by rw [yY]; decide) Er hk];simp only [Result.andThen];rw [Oper.upon_value]
  go_wp2
  rw [run_callFunc_extern L.f276 (by kernel_rfl) (by kernel_rfl) (by kernel_rfl) (e:=Extern.AbiNoEscape.same) (by kernel_rfl)];rw [Lib.run_noEscape];simp only [Result.andThen];rw [Oper.upon_value]
  go_wp2
  rw [Lib.run_from_unsafe w ⟨b,k,none⟩ L.t164 L.t70 aj Er ai];simp only [Result.andThen];rw [Oper.upon_value]
  go_wp2
  go_end0
  refine ⟨rfl,⟨rfl,rfl,rfl,by simp [World.setCell],λc _ aa=>?_,λa _ aA=>?_,Nat.le_refl _⟩,?_⟩
  ·simp only [World.setCell,Array.getElem?_modify,if_neg (Ne.symm aa)]
  ·have aa:a.block≠b:=aA;simp only [World.frozen?,World.setCell,Array.getElem?_modify,if_neg (Ne.symm aa)]
  ·simp [World.setCell,Array.getElem?_modify,av]
 ·refine (RX L X b k w H4).mono ?_;rintro b8 w' ⟨rfl,rfl⟩;refine ⟨rfl,Fr.refl _ _,?_⟩;rw [av];congr 2;apply Array.ext_getElem?;intro i;by_cases hi:i=k
  ·subst hi; rw [aO,Array.getElem?_setIfInBounds_self_of_lt hk]
  ·rw [Array.getElem?_setIfInBounds_ne (Ne.symm hi)]
set_option maxHeartbeats 2000000 in
set_option maxRecDepth 100000 in
theorem bws (L:Lays.n166 P ρ) (X:Builder.Extra P ρ) {b k:Nat}{arr:Array Value}{e:TypeId}{p v:Value}{n:Nat}{us:List Value}(s:ByteArray) (w:World)
  (av:w.heap[b]?=some (.cells arr e (0,0))) (aO:arr[k]?=some p) (h1:arr[k+1]?=some v) (ar:(p=.pointer none/\liesAt P P.depth e (arr.size / P.cellsOf e) k (ρ.t 72) 1=true)\/p=.pointer (some ⟨b,k,none⟩))
  (nr:w.ownsRow 0 (ρ.t 5) 1 v n us) (cy:v.ownBlock≠some b) (hlen:n+s.size<=140737488355328) :
  Calls P (ρ.f 166) #[.pointer (some ⟨b,k,none⟩),.string s] w λb8 w'=>b8=.returned (.tuple #[.int .i64 s.size,.nilIface])/\QE (ρ.t 5) w w' b k e arr v n s.size us (Lib.strCells s):=by
 obtain ⟨i0,hi,BQ,s3,W'⟩:=info_parts X.infoByte;have mixed:=L.mixed;have t72:=L.t72; have a72:=L.a72; have z72:=L.z72; have v72:=L.v72; have Kl:=run_underlying L.t72;have t70:=L.t70; have a70:=L.a70; have z70:=L.z70; have v70:=L.v70; have Kk:=run_underlying L.t70;have t37:=L.t37; have a37:=L.a37; have z37:=L.z37; have v37:=L.v37; have aaa:=run_underlying L.t37;have t3:=L.t3; have a3:=L.a3; have z3:=L.z3; have v3:=L.v3; have Qb:=run_underlying L.t3;have t9:=L.t9; have a9:=L.a9; have z9:=L.z9; have v9:=L.v9; have Km:=run_underlying L.t9;have t4:=L.t4; have a4:=L.a4; have z4:=L.z4; have v4:=L.v4; have Qc:=run_underlying L.t4;have t164:=L.t164; have a164:=L.a164; have z164:=L.z164; have v164:=L.v164; have Qa:=run_underlying L.t164;have t5:=X.t5; have a5:=X.a5; have z5:=X.z5; have v5:=X.v5; have aab:=run_underlying X.t5;have acd:∀ args w,(callFunc (ρ.f 240) args).run P w=.ok (.enter (ρ.f 240) args) w:=enters_of L.f240 (by kernel_rfl) rfl;have hk:k<arr.size:=(Array.getElem?_eq_some_iff.1 aO).1;have gj:k+1<arr.size:=(Array.getElem?_eq_some_iff.1 h1).1
 go_enter L.f166,Body.n166_ntmps ρ
 go_wp2_with (go_at_fn (ρ.f 240); refine (RW { L with } X.toX72 w av aO ar).mono ?_)
 rintro b8 gm ⟨rfl,Ia,nW⟩;have V7:gm.ownsRow 0 (ρ.t 5) 1 v n us:=r9 nr λc aa=>Ia.block c (nr.lt c aa).2 λh=>cy (h ▸ aa);have qT:gm.cell? ⟨b,k,none⟩=some (.pointer (some ⟨b,k,none⟩)):=by rw [Lib.cell_of_heap nW,Array.getElem?_setIfInBounds_self_of_lt hk]
 have c1:gm.cell? ⟨b,k+1,none⟩=some v:=by rw [Lib.cell_of_heap nW,Array.getElem?_setIfInBounds_ne (by omega)]; exact h1
 go_wp2_with (at_builtin; refine aas rfl _ _ (ρ.t 37) (ρ.t 9) rfl (ρ.t 5) i0 L.t37 L.t9 hi BQ s3 W' _ _ _ rfl V7 s rfl ?jt ?c4 ?_)
 case jt=>unfold maxLen; omega
 case c4=>omega
 intro eg fi dp;have Ir:b<gm.heap.size:=by
  rcases Nat.lt_or_ge b gm.heap.size with aH | aH
  ·exact aH
  ·simp [Array.getElem?_eq_none aH] at nW
 have fy:fi.heap[b]?=some (.cells (arr.setIfInBounds k (.pointer (some ⟨b,k,none⟩))) e (0,0)):=(dp.ek.block b Ir λh=>cy h).trans nW;have eF:(arr.setIfInBounds k (.pointer (some ⟨b,k,none⟩))).size=arr.size:=by simp
 have d0:fi.cell? ⟨b,k,none⟩=some (.pointer (some ⟨b,k,none⟩)):=by rw [Lib.cell_of_heap fy,Array.getElem?_setIfInBounds_self_of_lt hk]
 have d1:fi.cell? ⟨b,k+1,none⟩=some v:=by rw [Lib.cell_of_heap fy,Array.getElem?_setIfInBounds_ne (by omega)]; exact h1
 have f1:fi.frozen? ⟨b,k+1,none⟩=false:=Lib.frozen_of_heap fy (k+1);obtain ⟨u9,cf,cap,rfl⟩:∃ u9 cf cap,eg=.slice u9 cf cap:=by
  rcases dp.new.2 with ⟨hv,_⟩ | ⟨g,cap,cur,hv,_⟩
  ·exact ⟨_,_,_,hv⟩
  ·exact ⟨_,_,_,hv⟩
 have vu:(Value.slice u9 cf cap).ownBlock≠some b:=λh=>by
  rcases dp.yC b h with h | h
  ·exact cy h
  ·omega
 have po:(fi.setCell ⟨b,k+1,none⟩ (.slice u9 cf cap)).heap[b]?=some (.cells ((arr.setIfInBounds k (.pointer (some ⟨b,k,none⟩))).setIfInBounds (k+1) (.slice u9 cf cap)) e (0,0)):=by
  simp [World.setCell,Array.getElem?_modify,fy]
 have Iy:∀ c,c≠b->(fi.setCell ⟨b,k+1,none⟩ (.slice u9 cf cap)).heap[c]?=fi.heap[c]?:=λc aa=>by
  simp only [World.setCell,Array.getElem?_modify,if_neg (Ne.symm aa)]
 have kY:Fr w (fi.setCell ⟨b,k+1,none⟩ (.slice u9 cf cap)) (λc=>c=b\/v.ownBlock=some c):=by
  have jf:=(Ia.mono (U':=λc=>c=b\/v.ownBlock=some c) λc _ h=>.inl h).trans dp.ek λc _ h=>.inr h;refine ⟨jf.os,jf.tape,jf.output,by simpa [World.setCell] using jf.size,λc aa aA=>(Iy c λh=>aA (.inl h)).trans (jf.block c aa aA),λa aQ aA=>?_,jf.wG⟩;have:(fi.setCell ⟨b,k+1,none⟩ (.slice u9 cf cap)).frozen? a=fi.frozen? a:=by
   unfold World.frozen?;rw [Iy a.block λh=>aA (.inl h)]
  exact this.trans (jf.dN a aQ aA)
 go_wp2
 go_ret2
 refine ⟨rfl,kY,_,r9 dp.new λc aa=>Iy c λh=>vu (h ▸ aa),po,vu,λc aa=>?_⟩;rcases dp.yC c aa with h | h
 ·exact .inl h
 ·exact .inr (Nat.le_trans Ia.size h)
set_option maxHeartbeats 1000000 in
set_option maxRecDepth 100000 in
theorem R3 (L:Lays.n169 P ρ) (X:Builder.Extra P ρ) {b k:Nat}{arr:Array Value}{e:TypeId}{v:Value}(l:List UInt8) (w:World)
  (av:w.heap[b]?=some (.cells arr e (0,0))) (h1:arr[k+1]?=some v) (nr:w.ownsRow 0 (ρ.t 5) 1 v l.length (Lib.byteCells l)) (aO:l≠[]) :
  Calls P (ρ.f 169) #[.pointer (some ⟨b,k,none⟩)] w λb8 w'=>b8=.returned (.string ⟨l.toArray⟩)/\Fr w w' (λc=>v.ownBlock=some c):=by
 have y1:l.length≠0:=by simpa using aO
 have V6:=nr;obtain ⟨g,cap,cur,rfl,_,aK,ac9,qe,gT,y9⟩:∃ g cap cur,v=.slice (some ⟨g,0,none⟩) l.length cap/\0<=g/\w.heap[g]?=some (.cells cur (ρ.t 5) (0,0))/\l.length<=cap/\cap<=maxLen/\cur.size=cap * 1/\cur.toList.take (l.length * 1)=Lib.byteCells l:=by
  rcases nr.2 with ⟨_,aT⟩ | ⟨g,cap,cur,hv,r⟩
  ·exact absurd aT y1
  ·exact ⟨g,cap,cur,hv,r⟩
 have c1:w.drew.cell? ⟨b,k+1,none⟩=some (.slice (some ⟨g,0,none⟩) l.length cap):=by
  have:w.drew.heap[b]?=some (.cells arr e (0,0)):=av;rw [Lib.cell_of_heap this]; exact h1
 have acD:(Builtin.unsafeSliceData_ #[(ρ.t 37)] (ρ.t 127) #[.slice (some ⟨g,0,none⟩) l.length cap]).run P w.drew=.ok (.pointer (some ⟨g,0,none⟩)) w.drew :=
  Lib.run_unsafeSliceData_row _ _ _ _ _ _ (by omega)
 have acE:(Builtin.unsafeString_ #[(ρ.t 127),(ρ.t 3)] (ρ.t 9) #[.pointer (some ⟨g,0,none⟩),.int .i64 l.length]).run P w.drew=.ok (.string ⟨l.toArray⟩) (w.drew.freeze ⟨g,0,none⟩ l.length):=by
  refine Lib.run_unsafeString_row w.drew (ρ.t 127) (ρ.t 3) (ρ.t 9) (ρ.t 5) L.t127 X.cellsByte g cur.size (by have D':w.drew.heap[g]?=some (.cells cur (ρ.t 5) (0,0)):=aK; simp [World.shape?,D']) l aO (by omega) (by unfold maxLen at qe; omega) ?_;intro J x j;have:=V6.cells (g:=g) rfl J (.int .u8 x.toNat) (by simp [Lib.byteCells,j]);exact this
 have mixed:=L.mixed;have t72:=L.t72; have a72:=L.a72; have z72:=L.z72; have v72:=L.v72; have Kl:=run_underlying L.t72;have t70:=L.t70; have a70:=L.a70; have z70:=L.z70; have v70:=L.v70; have Kk:=run_underlying L.t70;have t37:=L.t37; have a37:=L.a37; have z37:=L.z37; have v37:=L.v37; have aaa:=run_underlying L.t37;have t127:=L.t127; have a127:=L.a127; have z127:=L.z127; have v127:=L.v127; have adE:=run_underlying L.t127;have t3:=L.t3; have a3:=L.a3; have z3:=L.z3; have v3:=L.v3; have Qb:=run_underlying L.t3;have t9:=L.t9; have a9:=L.a9; have z9:=L.z9; have v9:=L.v9; have Km:=run_underlying L.t9;have t5:=X.t5; have a5:=X.a5; have z5:=X.z5; have v5:=X.v5; have aab:=run_underlying X.t5;have kY:Fr w (w.drew.freeze ⟨g,0,none⟩ l.length) (λc=>(Value.slice (some ⟨g,0,none⟩) l.length cap).ownBlock=some c):=by
  have aV:∀ c,c≠g->(w.drew.freeze ⟨g,0,none⟩ l.length).heap[c]?=w.heap[c]?:=λc aa=>by
   unfold World.freeze;rw [if_neg y1];simp only [Array.getElem?_modify,if_neg (Ne.symm aa)];rfl
  refine ⟨by unfold World.freeze; split <;> rfl,by unfold World.freeze; split <;> rfl,by unfold World.freeze; split <;> rfl,by unfold World.freeze; split <;> simp,λc _ aa=>aV c λh=>aa (by simp [Value.ownBlock,h]),λa _ aA=>?_,by unfold World.freeze; split <;> exact Nat.le_succ _⟩;unfold World.frozen?;rw [aV a.block λh=>aA (by simp [Value.ownBlock,h])]
 go_enter L.f169,Body.n169_ntmps ρ
 go_wp2
 go_region_o
 all_goals (go_wp2; go_ret; exact ⟨rfl,kY⟩)
end Go.Proofs
namespace Go.Own
open Go Go.Proofs Go.Shelf Go.Lib
set_option linter.unusedSectionVars false
variable [cE]
def mY (x s:ByteArray):Option ByteArray:=if x.size+s.size<=140737488355328 then some (x++s) else none
def wz (x:ByteArray):Option ByteArray:=if x.size=0 then none else some x
theorem ZE (x s:ByteArray):strCells x++strCells s=strCells (x++s):=by
 unfold strCells;rw [<- List.map_append];congr 1
section
variable {P:Program}{ρ:Ren}
theorem b7.mz (L:Lays.n166 P ρ) (X:Builder.Extra P ρ) {x s y:ByteArray}(h:mY x s=some y) :
  b7 P (ρ.f 166) [.obj [.self (0,ρ.t 72),.eY (ρ.t 5) (strCells x)],ax s] [some (.obj [.self (0,ρ.t 72),.eY (ρ.t 5) (strCells y)]),none] (.bJ [ae s.size,.lit .nilIface]):=by
 refine ⟨rfl,λw I vs Fs oM bh=>?_⟩
 match vs,oM with
 | [v0,v1],_ =>
 obtain ⟨P_,BF,fQ⟩:=bh.rel 0 _ rfl;obtain ⟨adD,Ww,A3⟩:=bh.rel 1 _ rfl;cases BF; cases Ww;have rV:=(A3.gV (by simp)).h2.1;subst rV;unfold mY at h
 split at h <;> cases h
 rename_i eF;have aY:=fQ.gV (by simp);cases aY with
 | ref j=>simp [ab.isRef] at j
 | @obj _ b e arr bV _ aV ai h1 ah aP av aG aw =>
  have pr:arr.size=2:=ai.symm;have wS:arr[0]?=some arr[0]:=Array.getElem?_eq_getElem (by omega);have sN:arr[1]?=some arr[1]:=Array.getElem?_eq_getElem (by omega);have ar:=aw 0 _ _ rfl wS;have A4:=ah 1 _ _ rfl sN;cases A4 with
  | ref j=>simp [ab.isRef] at j
  | eY lQ gu lO =>
   have cy:arr[1].ownBlock≠some b:=λh=>av 1 (by simp) ((lO b).2 h);rw [strCells_length] at lQ;refine (bws L X s w aV wS sN (ar.imp (λ⟨h1,af⟩=>⟨h1,by rw [af,pr]; exact X.liesBuilder⟩) id) lQ cy eF).mono ?_;rintro b8 w' ⟨rfl,kY,eg,nr,Bd,V1,hblk⟩;rw [ZE] at nr;have aR:∀ c,eg.ownBlock=some c->c<w'.heap.size:=λc aa=>(nr.lt c aa).2;have aA:x.size+s.size=(strCells (x++s)).length:=by rw [strCells_length]; simp [ByteArray.size_append]
   rw [aA] at nr;have Nj:eg.oneCell'=true:=by
    rcases nr.2 with ⟨hv,_⟩ | ⟨g,cap,cur,hv,_⟩ <;> rw [hv] <;> rfl
   have tW:∀ c,(c=b\/eg.ownBlock=some c)->Fs 0 c\/w.heap.size<=c:=by
    rintro c (rfl | aa)
    ·exact .inl ((aG _).2 (.inl rfl))
    ·rcases hblk c aa with h | h
     ·exact .inl ((aG c).2 (.inr ⟨1,by simp,(lO c).2 h⟩))
     ·exact .inr h
   refine ⟨_,I,λt c=>t=0/\(c=b\/eg.ownBlock=some c),rfl,⟨λt x j=>?_,λt al c aa=>?_,λt t' c aa e7=>aa.1.trans e7.1.symm,λt c aa hi=>?_,λc aa=>Nat.lt_of_lt_of_le (bh.lt c aa) kY.size,λt t' z p n m new br cf bd cO h1 _=>?_,cE.keep bh.gl (λc aa=>kY.block c (bh.lt c aa) λh=>bh.bk 0 c (h.elim (λh=>h ▸ (aG b).2 (.inl rfl)) λh=>(aG c).2 (.inr ⟨1,by simp,(lO c).2 h⟩)) aa) λ_ h=>h⟩,⟨?_,λ_ h=>h,λ_ h=>.inl h,λc aa=>?_⟩⟩
   ·match t,j with
    | 0,j =>
     cases j;refine ⟨_,rfl,.tree ?_⟩;refine .obj (Fs:=λk c=>k=1/\eg.ownBlock=some c) Bd (by simp [pr]) (λk u hu=>?_) (λk y u ak hu=>?_) (λJ k c _ _ h1 af=>h1.1.trans af.1.symm) (λk _ h=>V1 h.2) (λc=>⟨λh=>h.2.imp id λh=>⟨1,by simp,rfl,h⟩,λh=>⟨rfl,h.imp id λ⟨_,_,_,h⟩=>h⟩⟩) (λk J u ak hu=>?_)
     ·match k,hu with
      | 0,hu=>simp [pr] at hu; subst hu; rfl
      | 1,hu=>simp [pr] at hu; subst hu; exact Nj
      | k+2,hu=>simp [pr] at hu
     ·match k,ak,hu with
      | 0,ak,hu=>cases ak; exact .l1 λc h=>by cases h.1
      | 1,ak,hu =>
       cases ak;simp [pr] at hu;subst hu;exact .eY nr Nj λc=>⟨λh=>h.2,λh=>⟨rfl,h⟩⟩
      | k+2,ak,hu=>cases ak
     ·match k,ak,hu with
      | 0,ak,hu =>
       cases ak;simp [pr] at hu;exact .inr hu.symm
      | 1,ak,hu=>cases ak
      | k+2,ak,hu=>cases ak
    | 1,j=>cases j
    | 2,j =>
     cases j;refine ⟨_,rfl,.tree (.bJ (Fs:=λ_=>cr) rfl (λk y u ak hu=>?_) (λ_ _ _ _ _ h=>h.elim) (λc=>⟨λh=>(by cases h.1),λ⟨_,_,h⟩=>h.elim⟩))⟩
     match k,ak,hu with
     | 0,ak,hu=>cases ak; cases hu; exact .lit rfl λ_ h=>h
     | 1,ak,hu=>cases ak; cases hu; exact .lit rfl λ_ h=>h
     | k+2,ak,hu=>cases ak
    | t+3,j=>simp [lX] at j
   ·rw [aa.1] at al; cases al
   ·rcases tW c aa.2 with h | h
    ·exact bh.bk 0 c h hi
    ·have:=bh.lt c hi; omega
   ·match t,h1 with
    | 0,h1=>cases h1
    | 1,h1=>cases h1
    | 2,h1=>cases h1
    | t+3,h1=>simp [lX] at h1
   ·refine kY.mono λc _ h=>⟨0,?_⟩;rcases h with rfl | h
    ·exact (aG _).2 (.inl rfl)
    ·exact (aG c).2 (.inr ⟨1,by simp,(lO c).2 h⟩)
   ·obtain ⟨t,_,aa⟩:=aa;rcases tW c aa with h | h
    ·exact .inl ⟨0,h⟩
    ·exact .inr h
theorem b7.bn (L:Lays.n169 P ρ) (X:Builder.Extra P ρ) {x y:ByteArray}(h:wz x=some y) :
  b7 P (ρ.f 169) [.obj [.self (0,ρ.t 72),.eY (ρ.t 5) (strCells x)]] [some (.obj [.self (0,ρ.t 72),.dead])] (ax y):=by
 refine ⟨rfl,λw I vs Fs oM bh=>?_⟩
 match vs,oM with
 | [v0],_ =>
 obtain ⟨P_,BF,fQ⟩:=bh.rel 0 _ rfl;cases BF;unfold wz at h
 split at h <;> cases h
 rename_i eF;have aY:=fQ.gV (by simp);cases aY with
 | ref j=>simp [ab.isRef] at j
 | @obj _ b e arr bV _ aV ai h1 ah aP av aG aw =>
  have pr:arr.size=2:=ai.symm;have wS:arr[0]?=some arr[0]:=Array.getElem?_eq_getElem (by omega);have sN:arr[1]?=some arr[1]:=Array.getElem?_eq_getElem (by omega);have A4:=ah 1 _ _ rfl sN;cases A4 with
  | ref j=>simp [ab.isRef] at j
  | eY lQ gu lO =>
   have cy:arr[1].ownBlock≠some b:=λh=>av 1 (by simp) ((lO b).2 h);have uf:strCells x=byteCells x.data.toList:=rfl;have hlen:(strCells x).length=x.data.toList.length:=by unfold strCells; rw [List.length_map]
   rw [hlen,uf] at lQ;refine (R3 L X (k:=0) x.data.toList w aV sN lQ (λe=>eF (by rw [<- strCells_length]; unfold strCells; rw [e]; rfl))).mono ?_;rintro b8 w' ⟨rfl,kY⟩;have Vg:b<w.heap.size:=(Array.getElem?_eq_some_iff.1 aV).1;have Bd:w'.heap[b]?=some (.cells arr e (0,0)):=(kY.block b Vg cy).trans aV;refine ⟨_,I,λt c=>t=0/\c=b,rfl,⟨λt x j=>?_,λt al c aa=>?_,λt t' c aa e7=>aa.1.trans e7.1.symm,λt c aa hi=>?_,λc aa=>Nat.lt_of_lt_of_le (bh.lt c aa) kY.size,λt t' z p n m new br cf bd cO h1 _=>?_,cE.keep bh.gl (λc aa=>kY.block c (bh.lt c aa) λh=>bh.bk 0 c ((aG c).2 (.inr ⟨1,by simp,(lO c).2 h⟩)) aa) λ_ h=>h⟩,⟨?_,λ_ h=>h,λ_ h=>.inl h,λc aa=>?_⟩⟩
   ·match t,j with
    | 0,j =>
     cases j;refine ⟨_,rfl,.tree (.obj (Fs:=λ_=>cr) Bd ai h1 (λk y u ak hu=>?_) (λ_ _ _ _ _ h=>h.elim) (λ_ _ h=>h) (λc=>⟨λh=>.inl h.2,λh=>⟨rfl,h.elim id λ⟨_,_,h⟩=>h.elim⟩⟩) (λk J u ak hu=>?_))⟩
     ·match k,ak with
      | 0,ak=>cases ak; exact .l1 λ_ h=>h
      | 1,ak=>cases ak; exact .dead λ_ h=>h
      | k+2,ak=>cases ak
     ·match k,ak with
      | 0,ak=>cases ak; exact aw 0 _ u rfl hu
      | 1,ak=>cases ak
      | k+2,ak=>cases ak
    | 1,j =>
     cases j;refine ⟨_,rfl,.tree (.lit rfl λc h=>by cases h.1)⟩
    | t+2,j=>simp [lX] at j
   ·rw [aa.1] at al; cases al
   ·rw [aa.2] at hi;exact bh.bk 0 b ((aG b).2 (.inl rfl)) hi
   ·match t,h1 with
    | 0,h1=>cases h1
    | 1,h1=>cases h1
    | t+2,h1=>simp [lX] at h1
   ·exact kY.mono λc _ h=>⟨0,(aG c).2 (.inr ⟨1,by simp,(lO c).2 h⟩)⟩
   ·obtain ⟨t,_,rfl⟩:=aa;exact .inl ⟨0,(aG _).2 (.inl rfl)⟩
end
end Go.Own
namespace Go.Own
open Go
set_option linter.unusedSectionVars false
variable [cE]
set_option linter.unusedVariables false
def JB:ab->Option ab
 | .lit v=>some (.lit v)
 | .aU=>some .aU
 | .bk z n cs=>some (.bk z n cs)
 | .own z n cs=>some (.own z n cs)
 | .obj cs=>some (.obj cs)
 | .agg cs=>some (.agg cs)
 | .bJ cs=>some (.bJ cs)
 | .cJ cs=>some (.cJ cs)
 | .ptr p k=>some (.ptr p k)
 | .bl z p n=>some (.bl z p n)
 | .sub z p l n=>some (.sub z p l n)
 | .bC z p n m c=>some (.bC z p n m c)
 | .di f a b=>some (.di f a b)
 | .mp p=>some (.mp p)
 | .hf p=>some (.hf p)
 | .imp p=>some (.imp p)
 | .dead=>some .dead
 | .self k=>some (.self k)
 | .eY t us=>some (.eY t us)
theorem Oh {x y:ab}(h:JB x=some y):x=y:=by cases x <;> (cases h; rfl)
def E2:List ab->Option (List ab)
 | []=>some []
 | x::l=>match E2 l with
  | none=>none
  | some r=>match JB x with
   | none=>none
   | some y=>some (y::r)
theorem Og:∀ {l r:List ab},E2 l=some r->l=r
 | [],r,h=>by cases h; rfl
 | x::l,r,h=>by
  unfold E2 at h
  split at h
  ·cases h
  ·rename_i cK ah
   split at h
   ·cases h
   ·rename_i y ak;cases h; rw [Og ah,Oh ak]
def s9:ab->Option ab
 | .agg cs=>match E2 cs with
  | some r=>some (.agg r)
  | none=>none
 | x=>JB x
theorem vN {x y:ab}(h:s9 x=some y):x=y:=by
 unfold s9 at h
 split at h
 ·split at h
  ·rename_i ah;cases h; rw [Og ah]
  ·cases h
 ·exact Oh h
def k3:List ab->Option (List ab)
 | []=>some []
 | x::l=>match k3 l with
  | none=>none
  | some r=>match s9 x with
   | none=>none
   | some y=>some (y::r)
theorem xo:∀ {l r:List ab},k3 l=some r->l=r
 | [],r,h=>by cases h; rfl
 | x::l,r,h=>by
  unfold k3 at h
  split at h
  ·cases h
  ·rename_i cK ah
   split at h
   ·cases h
   ·rename_i y ak;cases h; rw [xo ah,vN ak]
def xM (f:Nat->ab->ab):Nat->List Nat->List ab->Option (List ab)
 | _,_,[]=>some []
 | _,[],_::_=>none
 | k,J::dW,x::l=>match xM f (k+1) dW l with
  | none=>none
  | some r=>match Nat.beq J k,s9 (f J x) with
   | true,some y=>some (y::r)
   | _,_=>none
theorem CP {f:Nat->ab->ab}:∀ {l:List ab}{dW:List Nat}{k:Nat}{r:List ab},xM f k dW l=some r->(l.mapIdx λi x=>f (k+i) x)=r
 | [],dW,k,r,h=>by cases dW <;> (cases h; rfl)
 | x::l,[],k,r,h=>by cases h
 | x::l,J::dW,k,r,h=>by
  unfold xM at h
  split at h
  ·cases h
  ·rename_i cK ah
   split at h
   ·rename_i y aj ak;cases h;have:=Nat.eq_of_beq_eq_true aj;subst this;rw [List.mapIdx_cons,<- CP ah,<- vN ak];simp [Nat.add_comm,Nat.add_left_comm]
   ·cases h
def num:List Nat:=0::1::2::3::4::5::6::7::8::9::10::11::12::13::14::15::16::17::18::19::20::21::22::23::24::25::26::27::28::29::30::31::32::33::34::35::36::37::38::39::40::41::42::43::44::45::46::47::48::49::50::51::52::53::54::55::56::57::58::59::60::61::62::63::64::65::66::67::68::69::70::71::72::73::74::75::76::77::78::79::[]
def Fi (g:aI):Operand->Option ab
 | .tmp t=>match g t with
  | some (.lit v)=>some (.lit v)
  | some .aU=>some .aU
  | some (.bk z n cs)=>some (.bk z n cs)
  | some (.own z n _)=>some (.bl z ⟨t,[]⟩ n)
  | some (.obj (_::_))=>some (.ptr ⟨t,[]⟩ 0)
  | some (.cJ cs)=>some (.cJ cs)
  | some (.agg cs)=>match xM (λi x=>fC 1 ⟨t,[i]⟩ x) 0 num cs with
   | some r=>some (.agg r)
   | none=>none
  | some (.bJ cs)=>match xM (λi x=>fC 1 ⟨t,[i]⟩ x) 0 num cs with
   | some r=>some (.bJ r)
   | none=>none
  | some (.ptr p k)=>some (.ptr p k)
  | some (.bl z p n)=>some (.bl z p n)
  | some (.sub z p l n)=>some (.sub z p l n)
  | some (.bC z _ n m _)=>some (.bl z ⟨t,[]⟩ (n+m))
  | some (.di fn [] cs)=>some (.di fn [] cs)
  | some (.mp _)=>some (.hf ⟨t,[]⟩)
  | some (.hf p)=>some (.hf p)
  | some (.imp q)=>some (.imp q)
  | _=>none
 | .const v=>match ofConst v with
  | .lit v=>some (.lit v)
  | .agg cs=>some (.agg cs)
  | .aU=>match v with
   | .slice none 0 0=>some .aU
   | _=>none
  | _=>none
 | .func f=>some (.di (.func f) [] [])
 | .global _=>none
theorem X2 {v u:Value}(h:ofConst v=.lit u):u=v:=by
 cases v <;> simp only [ofConst,j1] at h <;> first | (cases h; rfl) | (split at h <;> cases h <;> rfl) | cases h
theorem Rd.q {g:aI}{a:Operand}{y:ab}(h:Fi g a=some y:=by rfl):Rd g a y:=by
 unfold Fi at h
 split at h
 ·split at h <;> first | (split at h <;> cases h <;> first | exact .agg ‹_› (by have:=CP ‹_›; simpa [Place.push] using this) | exact .bJ ‹_› (by have:=CP ‹_›; simpa [Place.push] using this)) | skip
  all_goals cases h
  all_goals first | exact .lit ‹_› | exact .aU ‹_› | exact .bk ‹_› | exact .own ‹_› | exact .obj ‹_› | exact .cJ ‹_› | exact .ptr ‹_› | exact .bl ‹_› | exact .sub ‹_› | exact .bC ‹_› | exact .di ‹_› | exact .mp ‹_› | exact .hf ‹_› | exact .imp ‹_›
 ·split at h
  ·rename_i e; cases h; have:=X2 e; subst this; exact .k e
  ·rename_i e; cases h; exact .Jg e
  ·split at h <;> cases h
   exact .zf
  ·cases h
 ·cases h; exact .func
 ·cases h
def Fk (g:aI) (t:Nat):Option ab :=
 match g t with
 | some (.lit v)=>some (.lit v)
 | some .aU=>some .aU
 | some (.bk z n cs)=>some (.bk z n cs)
 | some (.cJ cs)=>some (.cJ cs)
 | some (.di fn [] cs)=>some (.di fn [] cs)
 | some (.imp q)=>some (.imp q)
 | _=>none
theorem Rd.zK {g:aI}{t:Nat}{y:ab}(h:Fk g t=some y:=by rfl):Rd g (.tmp t) y:=by
 unfold Fk at h
 split at h <;> cases h <;> first | exact .lit ‹_› | exact .aU ‹_› | exact .bk ‹_› | exact .cJ ‹_› | exact .di ‹_› | exact .imp ‹_›
class gX (P:Program) (t:TypeId) (α:outParam Type) (en:outParam (bA α)):Prop where p:True:=trivial
class tu {α:Type}(en:bA α) (cs:List ab) (y:outParam α):Prop where p:en.cells y=cs
instance {a:Int}:tu az [ae a] a:=⟨rfl⟩
instance {a:Int}:tu m' [pc a] a:=⟨rfl⟩
instance {a:Bool}:tu cn [bf a] a:=⟨rfl⟩
instance {a:ByteArray}:tu cL [ax a] a:=⟨rfl⟩
instance {α:Type}{en:bA α}{l:List α}:tu (bI en) [.bk en.z l.length (bp en l)] l:=⟨rfl⟩
class o5 {α:Type}(en:bA α) (ys:List ab) (L:outParam (List α)):Prop where p:l8 ys=some (bp en L)/\ys.all (λy=>match jc y with | some c=>Nat.beq c.length en.z | none=>false)=true/\L.length=ys.length
instance {α:Type}{en:bA α}:o5 en [] []:=⟨⟨rfl,rfl,rfl⟩⟩
theorem o5.cons {α:Type}{en:bA α}{y:ab}{cs:List ab}{ys:List ab}{a:α}{L:List α}(av:jc y=some cs) [h:tu en cs a] [ai:o5 en ys L]:o5 en (y::ys) (a::L):=by
 refine ⟨⟨?_,?_,?_⟩⟩
 ·simp [l8,av,ai.p.1,bp,h.p]
 ·simp only [List.all_cons,av,ai.p.2.1,Bool.and_true];rw [<- h.p,en.len]; exact Nat.beq_refl _
 ·simp [ai.p.2.2]
instance {α:Type}{en:bA α}{cs ys:List ab}{a:α}{L:List α} [h:tu en cs a] [ai:o5 en ys L]:o5 en (.agg cs::ys) (a::L):=.cons rfl
instance {α:Type}{en:bA α}{v:Value}{ys:List ab}{a:α}{L:List α} [h:tu en [.lit v] a] [ai:o5 en ys L]:o5 en (.lit v::ys) (a::L):=.cons rfl
instance {α:Type}{en:bA α}{z n:Nat}{cs:List ab}{ys:List ab}{a:α}{L:List α} [h:tu en [.bk z n cs] a] [ai:o5 en ys L]:o5 en (.bk z n cs::ys) (a::L):=.cons rfl
def vZ (d:Nat):List Oper->Bool
 | []=>false
 | o::l=>(match o.op with
  | .call { callee:=.value _,args:=xs,argTypes:=_ }=>xs.toList.any λx=>match x with | .tmp t=>Nat.beq t d | _=>false
  | .call { callee:=.builtin .append,args:=xs,argTypes:=_ }=>match xs.toList with | [_,.tmp t]=>Nat.beq t d | _=>false
  | .convert _ _ (.tmp t)=>Nat.beq t d
  | .build _ ps=>ps.toList.any λx=>match x.2 with | .tmp t=>Nat.beq t d | _=>false
  | .buildSlice _ _ ps=>ps.toList.any λx=>match x.2 with | .tmp t=>Nat.beq t d | _=>false
  | _=>false)||vZ d l
class Ae (P:Program):Prop where p:P.follows .mixedOrders=true:=by kernel_rfl
class jO (P:Program) (t:TypeId) (k:outParam Nat):Prop where p:iN P t k=true:=by kernel_rfl
class hP (P:Program) (t:TypeId) (z:outParam Value):Prop where p:(P.info? t).bind (·.zero)=some z:=by kernel_rfl
class KP (P:Program) (e:TypeId) (t:outParam TypeId):Prop where p:(P.info? e).bind (·.zero)=some (.agg #[.pointer none,.slice none 0 0]):=by kernel_rfl
class jC (P:Program) (t:TypeId) (pl:outParam (List (Nat × Nat))):Prop where p:kj P t pl=true:=by kernel_rfl
class iH (P:Program) (t:TypeId) (e z b:outParam Nat):Prop where p:ka P t e z b=true:=by kernel_rfl
class Af (P:Program) (t:TypeId) (k:outParam IntKind):Prop where p:uB P t k=true:=by kernel_rfl
class ya (P:Program) (t:TypeId) (b:outParam Nat):Prop where p:(P.info? t).map (·.bytes)=some b:=by kernel_rfl
section
variable {α β:Type}{P:Program}{g:aI}{ty t t2:TypeId}{a b:Operand}{k r z n:Nat}{cs cs':List ab}{x y:ab}{p q:Place}{m:Int}{qq Jh:IntKind}{e:TypeId}{N:cP}{ops:Array Oper}{gp:Nat}
theorem O.FF (j:Rd g a y:=by exact .q) (aa:(jc y).bind k3=some cs:=by rfl):b5 P g (.box e a) ty (.obj cs):=by
 cases av:jc y with
 | none=>rw [av] at aa; cases aa
 | some c=>rw [av] at aa; have:=xo aa; subst this; exact O.box j av
theorem O.gm {v:Value} [h:fr P t] (j:Rd g a (.ptr ⟨r,[]⟩ k):=by exact .q) (aw:g r=some (.obj cs):=by rfl) (aa:cs[k]?=some (.lit v):=by rfl):b5 P g (.load t a) ty (.lit v):=O.pC aw j h.p aa
theorem O.fi [h:fr P t] (j:Rd g a (.cJ cs):=by exact .q) (aa:cs.head?.bind s9=some x:=by rfl):b5 P g (.load t a) ty x:=by
 cases av:cs.head? with
 | none=>rw [av] at aa; cases aa
 | some c=>rw [av] at aa; have:=vN aa; subst this; exact O.B0 j h.p av
theorem O.wa [h:fr P t] (j:Rd g a (.ptr ⟨r,[]⟩ k):=by exact .q) (aw:g r=some (.obj cs):=by rfl) (aa:cs[k]?=some x:=by rfl) (ak:s9 (fC 0 ⟨r,[k]⟩ x)=some y:=by rfl):b5 P g (.load t a) ty y:=O.xj aw j h.p aa (vN ak)
theorem O.wb [h:jO P t z] (j:Rd g a (.ptr ⟨r,[]⟩ k):=by exact .q) (aw:g r=some (.obj cs):=by rfl) (hk:Nat.ble (k+z) cs.length=true:=by rfl) (aa:xM (λi x=>fC 0 ⟨r,[i]⟩ x) k (num.drop k) ((cs.drop k).take z)=some cs':=by rfl):b5 P g (.load t a) ty (.agg cs'):=O.fh aw j h.p hk (CP aa)
theorem O.FK [h:jO P t z] (j:Rd g a (.cJ cs):=by exact .q) (aa:k3 (cs.take z)=some cs':=by rfl) (aT:cs'.length=z:=by rfl):b5 P g (.load t a) ty (.agg cs'):=O.s7 j h.p (xo aa) aT
theorem O.FP {en:bA α}{L:List α}{y:α}{o:Nat}{x x':ab} [al:fr P t] (j:Rd g a (.ptr p (m.toNat * en.z+o)):=by exact .q) (ar:bx g p=some (aq en L):=by rfl) (h:idx L m=some y:=by assumption) (aa:(en.cells y)[o]?=some x:=by rfl) (ah:s9 (fC 0 (p.push (m.toNat * en.z+o)) x)=some x':=by rfl):b5 P g (.load t a) ty x':=O.lT ar j al.p h aa (vN ah)
theorem O.F0 {en:bA α}{L:List α}{y:α}{o:Nat} [al:jO P t z] (j:Rd g a (.ptr p (m.toNat * en.z+o)):=by exact .q) (ar:bx g p=some (aq en L):=by rfl) (h:idx L m=some y:=by assumption) (aT:Nat.ble (o+z) en.z=true:=by rfl) (aa:k3 ((((en.cells y).drop o).take z).mapIdx (λi x=>fC 0 (p.push (m.toNat * en.z+o+i)) x))=some cs':=by rfl):b5 P g (.load t a) ty (.agg cs'):=O.XC ar j al.p h aT (xo aa)
theorem O.zX {cu f off:Nat} [h:cM P cu f off t] (j:Rd g a (.ptr ⟨r,[]⟩ k):=by exact .q) (aw:g r=some (.obj cs):=by rfl) (ai:Nat.blt (k+off) cs.length=true:=by rfl):b5 P g (.fieldAddr cu a f) ty (.ptr ⟨r,[]⟩ (k+off)):=O.nb aw j h.p ai
theorem O.zY {cu f off:Nat} [h:cM P cu f off t] (j:Rd g a (.cJ cs):=by exact .q):b5 P g (.fieldAddr cu a f) ty (.cJ (cs.drop off)):=O.AS j h.p
theorem O.wf {en:bA α}{L:List α}{y:α}{cu f off o ha:Nat} [aS:cM P cu f off t] (j:Rd g a (.ptr p (m.toNat * en.z+o)):=by exact .q) (ar:bx g p=some (aq en L):=by rfl) (h:idx L m=some y:=by assumption) (aV:o+off=ha:=by rfl) (aR:Nat.blt ha en.z=true:=by rfl):b5 P g (.fieldAddr cu a f) ty (.ptr p (m.toNat * en.z+ha)):=O.mD ar j aS.p h aV aR
theorem O.FJ {en:bA α}{L:List α}{y:α}{br:Nat}(h:idx L m=some y) [aF:dZ P t e br] (j:Rd g a (.bk en.z L.length (bp en L)):=by exact .q) (ak:Rd g b (.lit (.int qq m)):=by exact .q) (aT:br=en.z:=by rfl):b5 P g (.indexAddr t a b) ty (.cJ (en.cells y++bp en (L.drop (m.toNat+1)))):=O.r3 j ak (aT ▸ aF.p) h
theorem O.gE {en:bA α}{L:List α}{y:α}{br:Nat}(h:idx L m=some y) [aF:dZ P t e br] (j:Rd g a (.bl en.z p L.length):=by exact .q) (ar:bx g p=some (aq en L):=by rfl) (ak:Rd g b (.lit (.int qq m)):=by exact .q) (aT:br=en.z:=by rfl) (aO:Nat.blt 0 en.z=true:=by rfl):b5 P g (.indexAddr t a b) ty (.ptr p (m.toNat * en.z+0)):=O.iU ar j ak (aT ▸ aF.p) h aO
theorem O.FY {p i:Nat}{cs:List ab}{x y:ab}(j:g p=some (.bJ cs):=by rfl) (ak:cs[i]?=some x:=by rfl) (ah:s9 (fC 1 (Place.push ⟨p,[]⟩ i) x)=some y:=by rfl):b5 P g (.extract (.tmp p) i) ty y:=O.ex j ak (vN ah)
theorem O.FO [h1:Af P t qq] [af:Af P t2 Jh] (j:Rd g a (.lit (.int qq m)):=by exact .q):b5 P g (.convert t t2 a) ty (.lit (.int Jh (Jh.wrap m))):=O.GX j h1.p af.p
theorem O.FN {L:List Int}(j:Rd g a (.bk m'.z L.length (bp m' L)):=by exact .q) (al:u' P t t2=true:=by kernel_rfl):b5 P g (.convert t t2 a) ty (ax (strOfNums L)):=O.GW j al
theorem O.FL {t5:TypeId} [h:KP P e t5]:b5 P g (.alloc e) ty (.obj [.self (0,e),.eY t5 (Lib.strCells ⟨#[]⟩)]):=.q6 (.Dx h.p rfl)
theorem O.FM {c':Value} [h:hP P e c'] (h1:c'.cells.toList.all Value.oneCell'=true:=by rfl) (aa:k3 (c'.cells.toList.map j1)=some cs:=by rfl):b5 P g (.alloc e) ty (.obj cs):=O.gY h.p h1 (xo aa)
theorem O.FX {parts:Array (Nat × Operand)}{pl:List (Nat × Nat)}{c':Value}{ps:List (Nat × List ab)} [al:jC P t pl] [aT:hP P t c'] (h1:c'.cells.toList.all Value.oneCell'=true:=by rfl)
  (ar:q7 g parts.toList=some ps:=by rfl) (aa:(vc (λi=>pl[i]?) (c'.cells.toList.map j1) ps).bind k3=some cs:=by rfl):b5 P g (.build t parts) ty (.agg cs):=by
 cases av:vc (λi=>pl[i]?) (c'.cells.toList.map j1) ps with
 | none=>rw [av] at aa; cases aa
 | some c=>rw [av] at aa; have:=xo aa; subst this; exact O.eR al.p aT.p h1 ar av
theorem O.wd {cu f off:Nat} [h:cM P cu f off t] [al:fr P t] (j:Rd g a (.agg cs):=by exact .agg rfl rfl) (ak:cs[off]?.bind s9=some x:=by rfl):b5 P g (.field cu a f) ty x:=by
 cases av:cs[off]? with
 | none=>rw [av] at ak; cases ak
 | some c=>rw [av] at ak; have:=vN ak; subst this; exact O.fd j h.p al.p av
theorem O.wp {en:bA α}{L M r:List α}{br:Nat}(h:dj L M=some r) [al:iH P t e br gp] (aw:Rd g a (.bl en.z p L.length):=by exact .q) (ar:bx g p=some (aq en L):=by rfl) (j:Rd g b y:=by exact .q) (hm:nN g en y M:=by (first | exact .i | exact .n | exact .o rfl rfl)) (aT:br=en.z:=by rfl) (av:Nat.ble gp 128=true:=by rfl) [e8:qM g]:b5 P g (.call { callee:=.builtin .append,args:=#[a,b],argTypes:=#[t,t] }) ty (.bC en.z p L.length M.length (bp en M)) :=
 O.ap aw ar j hm (aT ▸ al.p) av h
def xk:List ab->Option (List Value)
 | []=>some []
 | .lit v::l=>match xk l with
  | some r=>some (v::r)
  | none=>none
 | _=>none
theorem B3:∀ {l:List ab}{r:List Value},xk l=some r->l=r.map .lit
 | [],r,h=>by cases h; rfl
 | x::l,r,h=>by
  unfold xk at h
  split at h
  ·rename_i e; cases e
  ·rename_i e;cases e
   split at h
   ·rename_i cK ah;cases h; rw [B3 ah]; rfl
   ·cases h
  ·cases h
def xR:List Value->Option (List nM)
 | []=>some []
 | v::l=>match xR l,l0 v with
  | some r,some u=>some (u::r)
  | _,_=>none
theorem CW:∀ {l:List Value}{r:List nM},xR l=some r->l.map l0=r.map some
 | [],r,h=>by cases h; rfl
 | v::l,r,h=>by
  unfold xR at h
  split at h
  ·rename_i rb u ah aw;cases h; simp [CW ah,aw]
  ·cases h
theorem O.oj {AK tS:List ab}{nG o3:List Value}{ez:List nM}(j:Rd g a (.agg AK):=by exact .q) (ak:Rd g b (.agg tS):=by exact .q) (zb:xk AK=some nG:=by rfl) (BH:xk tS=some o3:=by rfl) (aQ:xR nG=some ez:=by rfl) (av:xR o3=some ez:=by rfl) (al:vb P t ez=true:=by kernel_rfl):b5 P g (.binOp .eql t a b t2) ty (bf (lp nG o3)):=O.Tq (B3 zb ▸ j) (B3 BH ▸ ak) (CW aQ) (CW av) al
theorem O.wn {AK tS:List ab}{nG o3:List Value}{ez:List nM}(j:Rd g a (.agg AK):=by exact .q) (ak:Rd g b (.agg tS):=by exact .q) (zb:xk AK=some nG:=by rfl) (BH:xk tS=some o3:=by rfl) (aQ:xR nG=some ez:=by rfl) (av:xR o3=some ez:=by rfl) (al:vb P t ez=true:=by kernel_rfl):b5 P g (.binOp .neq t a b t2) ty (bf (!lp nG o3)):=O.XU (B3 zb ▸ j) (B3 BH ▸ ak) (CW aQ) (CW av) al
theorem O.FR {en:bA α}{z0:α}{r:List α}{br:Nat}{c':Value}(h:nB m z0=some r) [het:gX P t α en] [al:dZ P t e br] [hzero:hP P e c'] [jh:ya P e gp] (j:Rd g a (.lit (.int qq m)):=by exact .q) (ak:Rd g b (.lit (.int .i64 m)):=by exact .q) (h1:c'.cells.toList.all Value.oneCell'=true:=by rfl) (aa:c'.cells.toList.map j1=en.cells z0:=by rfl) (aT:br=en.z:=by rfl) (av:Nat.ble gp 128=true:=by rfl):b5 P g (.makeSlice t a b) ty (aq en r) :=
 O.mk (aT ▸ al.p) j ak hzero.p h1 aa h jh.p av
theorem O.wl {en:bA α}{br:Nat} [het:gX P t α en] [al:dZ P t e br] (aT:br=en.z:=by rfl) (hzero:h5 P e en.z=true:=by kernel_rfl):b5 P g (.buildSlice t 0 #[]) ty (aq en ([]:List α)) :=
 O.bn (ys:=[]) en [] (aT ▸ al.p) rfl rfl rfl rfl rfl rfl hzero (by rw [Nat.zero_mul]; rfl) rfl
theorem O.FT {en:bA α}{M r:List α}{br:Nat}(h:dj [] M=some r) [al:iH P t e br gp] (aw:Rd g a .aU:=by exact .q) (j:Rd g b y:=by exact .q) (hm:nN g en y M:=by (first | exact .i | exact .n | exact .o rfl rfl)) (aT:br=en.z:=by rfl) (av:Nat.ble gp 128=true:=by rfl):b5 P g (.call { callee:=.builtin .append,args:=#[a,b],argTypes:=#[t,t] }) ty (aq en M) :=
 O.Rx aw j hm (aT ▸ al.p) av h
theorem O.FU {en:bA α}{L r:List α}{c:Operand}{n:Int}{k:IntKind}{br:Nat}(h:nE L 0 n=some r) [al:dZ P t e br] (j:Rd g a (.bk en.z L.length (bp en L)):=by exact .q) (bD:Rd g c (.lit (.int k n)):=by exact .q) (aT:br=en.z:=by rfl):b5 P g (.slice t a none (some c) none) ty (ao en r):=O.Zw j bD (aT ▸ al.p) h
theorem O.FV {en:bA α}{L r:List α}{k:IntKind}{br:Nat}(h:nE L m L.length=some r) [al:dZ P t e br] (j:Rd g a (.bk en.z L.length (bp en L)):=by exact .q) (ai:Rd g b (.lit (.int k m)):=by exact .q) (aT:br=en.z:=by rfl):b5 P g (.slice t a (some b) none none) ty (ao en r):=O.Zx j ai (aT ▸ al.p) h
theorem O.FW {en:bA α}{L r:List α}{c:Operand}{n:Int}{k qp:IntKind}{br:Nat}(h:nE L m n=some r) [al:dZ P t e br] (j:Rd g a (.bk en.z L.length (bp en L)):=by exact .q) (ai:Rd g b (.lit (.int k m)):=by exact .q) (bD:Rd g c (.lit (.int qp n)):=by exact .q) (aT:br=en.z:=by rfl):b5 P g (.slice t a (some b) (some c) none) ty (ao en r):=O.Zv j ai bD (aT ▸ al.p) h
def EM:List Nat->List Nat->Bool
 | [],[]=>true
 | a::l,b::m=>Nat.beq a b&&EM l m
 | _,_=>false
def Fe (p q:Place):Bool:=!(Nat.beq p.root q.root&&EM p.path q.path)
theorem N3:∀ (l:List Nat),EM l l=true
 | []=>rfl
 | a::l=>by unfold EM; rw [N3 l,Nat.beq_refl]; rfl
theorem OV {p q:Place}(h:Fe p q=true):p≠q:=by
 rintro rfl;unfold Fe at h;rw [Nat.beq_refl,N3] at h;cases h
def vO (p:Place):List (Nat × ab)->Bool
 | []=>true
 | (_,.bC _ q _ _ _)::l=>Fe p q&&vO p l
 | _::l=>vO p l
theorem JC {p:Place}:∀ {G:List (Nat × ab)},vO p G=true->∀ t z n m new,get G t≠some (.bC z p n m new)
 | [],_,t,z,n,m,new,e=>by cases e
 | (s,x)::G,h,t,z,n,m,new,e=>by
  simp only [get] at e
  split at e
  ·cases e;unfold vO at h;rw [Bool.and_eq_true] at h;exact OV h.1 rfl
  ·refine JC (G:=G) ?_ t z n m new e;unfold vO at h
   split at h
   ·rename_i bZ; cases bZ
   ·rename_i bZ; cases bZ; rw [Bool.and_eq_true] at h; exact h.2
   ·rename_i bZ; cases bZ; exact h
def xq (p:Place):Acc->Bool
 | []=>true
 | (_,_,some (.bC _ q _ _ _))::l=>Fe p q&&xq p l
 | _::l=>xq p l
theorem Oi {p:Place}{G:List (Nat × ab)}{A:Nat->Bool}(c9:vO p G=true):∀ {acc:Acc},xq p acc=true->∀ t z n m new,c0 (get G) A acc t≠some (.bC z p n m new)
 | [],_,t,z,n,m,new,e=>JC c9 t z n m new e
 | (k,d,r)::acc,h,t,z,n,m,new,e=>by
  have af:xq p acc=true:=by
   unfold xq at h
   split at h
   ·rename_i bZ; cases bZ
   ·rename_i bZ; cases bZ; rw [Bool.and_eq_true] at h; exact h.2
   ·rename_i bZ; cases bZ; exact h
  simp only [c0] at e
  split at e
  ·split at e
   ·subst e;unfold xq at h;rw [Bool.and_eq_true] at h;exact OV h.1 rfl
   ·cases e
  ·exact Oi c9 af t z n m new e
theorem O.wr {en:bA α}{L M r:List α}{br:Nat}{G:List (Nat × ab)}(h:dj L M=some r) [al:iH P t e br gp] (aw:Rd (get G) a (.bl en.z p L.length):=by exact .q) (ar:bx (get G) p=some (aq en L):=by rfl) (j:Rd (get G) b y:=by exact .q) (hm:nN (get G) en y M:=by (first | exact .i | exact .n | exact .o rfl rfl)) (aT:br=en.z:=by rfl) (av:Nat.ble gp 128=true:=by rfl) (a6:vO p G=true:=by rfl):b5 P (get G) (.call { callee:=.builtin .append,args:=#[a,b],argTypes:=#[t,t] }) ty (.bC en.z p L.length M.length (bp en M)) :=
 O.wq aw ar j hm (aT ▸ al.p) av h (JC a6)
theorem O.Qj {en:bA α}{L M r:List α}{br:Nat}{G:List (Nat × ab)}{A:Nat->Bool}{acc:Acc}(h:dj L M=some r) [al:iH P t e br gp] (aw:Rd (c0 (get G) A acc) a (.bl en.z p L.length):=by exact .q) (ar:bx (c0 (get G) A acc) p=some (aq en L):=by rfl) (j:Rd (c0 (get G) A acc) b y:=by exact .q) (hm:nN (c0 (get G) A acc) en y M:=by (first | exact .i | exact .n | exact .o rfl rfl)) (aT:br=en.z:=by rfl) (av:Nat.ble gp 128=true:=by rfl) (a6:vO p G=true:=by rfl) (Wb:xq p acc=true:=by rfl):b5 P (c0 (get G) A acc) (.call { callee:=.builtin .append,args:=#[a,b],argTypes:=#[t,t] }) ty (.bC en.z p L.length M.length (bp en M)) :=
 O.wq aw ar j hm (aT ▸ al.p) av h (Oi a6 Wb)
instance {s:Nat}{x:ab}{G:List (Nat × ab)} [h:o_ s (get G)]:o_ s (get ((s,x)::G)):=(pj (G:=G) (d:=s) (v:=x)) ▸ (inferInstance:o_ s (cH (get G) s x))
instance {s d:Nat}{x:ab}{G:List (Nat × ab)} [h:o_ s (get G)] [j:mS x]:o_ s (get ((d,x)::G)):=(pj (G:=G) (d:=d) (v:=x)) ▸ (inferInstance:o_ s (cH (get G) d x))
theorem O.FG {en:bA α}{L M M2 r:List α}{br s:Nat}(h:dj (L++M) M2=some r) [al:iH P t e br gp] (aw:Rd g a (.bl en.z ⟨s,[]⟩ (L.length+M.length)):=by exact .q) (qh:g s=some (.bC en.z q L.length M.length (bp en M)):=by rfl) (ar:bx g q=some (aq en L):=by rfl) (j:Rd g b y:=by exact .q) (hm:nN g en y M2:=by (first | exact .i | exact .n | exact .o rfl rfl)) (aT:br=en.z:=by rfl) (av:Nat.ble gp 128=true:=by rfl) [e8:o_ s g]:b5 P g (.call { callee:=.builtin .append,args:=#[a,b],argTypes:=#[t,t] }) ty (.bC en.z ⟨s,[]⟩ (L.length+M.length) M2.length (bp en M2)) :=
 O.Dy aw qh ar j hm (aT ▸ al.p) av h
theorem O.FZ {en:bA β}{r:List (List β)}{br:Nat}{c':Value}(h:nB m ([]:List β)=some r) [het:gX P t (List β) (bI en)] [al:dZ P t e br] [hzero:hP P e c'] [jh:ya P e gp] (j:Rd g a (.lit (.int qq m)):=by exact .q) (ak:Rd g b (.lit (.int .i64 m)):=by exact .q) (h1:c'.cells.toList.all Value.oneCell'=true:=by rfl) (aa:c'.cells.toList.map j1=[.aU]:=by rfl) (aT:br=(bI en).z:=by rfl) (av:Nat.ble gp 128=true:=by rfl):b5 P g (.makeSlice t a b) ty (aq (bI en) r) :=
 O.XQ (aT ▸ al.p) j ak hzero.p h1 aa h jh.p av
theorem O.eH {en:bA α}{L:List α}{y:α}{br:Nat} [aF:dZ P t e br] (j:Rd g a (.bk en.z L.length (bp en L)):=by exact .q) (ak:Rd g b (.lit (.int qq m)):=by exact .q) (aT:br=en.z:=by rfl) (h:idx L m=some y:=by assumption):b5 P g (.indexAddr t a b) ty (.cJ (en.cells y++bp en (L.drop (m.toNat+1)))):=O.r3 j ak (aT ▸ aF.p) h
theorem O.FQ {en:bA α}{L:List α}{y:α}{br:Nat} [aF:dZ P t e br] (j:Rd g a (.bl en.z p L.length):=by exact .q) (ar:bx g p=some (aq en L):=by rfl) (ak:Rd g b (.lit (.int qq m)):=by exact .q) (aT:br=en.z:=by rfl) (aO:Nat.blt 0 en.z=true:=by rfl) (h:idx L m=some y:=by assumption):b5 P g (.indexAddr t a b) ty (.ptr p (m.toNat * en.z+0)):=O.iU ar j ak (aT ▸ aF.p) h aO
end
def BX (Gf:List (Nat × ab)) (ex:List Nat) (PM:List Nat):List (Nat × ab)->Option (List Nat)
 | []=>some []
 | (k,x)::l=>match BX Gf ex (k::PM) l with
  | none=>none
  | some r=>match !ex.elem k&&!PM.elem k&&(match x with | .ptr ⟨q,[]⟩ _=>!ex.elem q&&(match get Gf q with | some (.obj _)=>true | _=>false) | _=>false) with
   | true=>some (k::r)
   | false=>some r
def pH (g g2:aI) (r:Nat):List (Nat × ab)->Bool
 | []=>true
 | (s,.ptr ⟨q,[]⟩ k)::l=>!Nat.beq s r&&(match g q,g2 q with | some (.obj cs),some (.obj kc)=>Nat.blt k cs.length&&Nat.blt k kc.length | _,_=>false)&&pH g g2 r l
 | _=>false
theorem Oz {g g2:aI}{r:Nat}{s:Nat}{x:ab}{l:List (Nat × ab)}(h:pH g g2 r ((s,x)::l)=true):(∃ q k cs kc,x=.ptr ⟨q,[]⟩ k/\Nat.beq s r=false/\g q=some (.obj cs)/\Nat.blt k cs.length=true/\g2 q=some (.obj kc)/\Nat.blt k kc.length=true)/\pH g g2 r l=true:=by
 unfold pH at h
 split at h
 ·rename_i e; cases e
 ·rename_i cu q k zg e;cases e;rw [Bool.and_eq_true,Bool.and_eq_true] at h;obtain ⟨⟨h1,af⟩,aF⟩:=h
  split at af
  ·rename_i cs kc b2 bZ;rw [Bool.and_eq_true] at af;exact ⟨⟨q,k,cs,kc,rfl,by simpa using h1,b2,af.1,bZ,af.2⟩,aF⟩
  ·cases af
 ·cases h
theorem Mq {g:aI}{r s:Nat}{x y:ab}(h:Nat.beq s r=false) (j:cH g r x s=some y):g s=some y:=by
 unfold cH at j;rw [if_neg (by rintro rfl; rw [Nat.beq_refl] at h; cases h)] at j;exact j
theorem CI {g:aI}{k:Nat}{ks:List Nat}{G1:List (Nat × ab)}(h:pick g (k::ks)=some G1):∃ x l,g k=some x/\pick g ks=some l/\G1=(k,x)::l:=by
 unfold pick at h
 split at h
 ·rename_i x j
  split at h
  ·rename_i l ai;cases h; exact ⟨x,l,j,ai,rfl⟩
  ·cases h
 ·cases h
theorem zH {g g2:aI}{r:Nat}{cs2:List ab}{T:List (Nat × ab)}(cX:lg g g2 r cs2 T):∀ {ks:List Nat}{G1:List (Nat × ab)},pick (cH g r (.obj cs2)) ks=some G1->(∀ e∈G1,cA e.2)->lg g g2 r cs2 (G1++T)
 | [],_,h,_=>by cases h; exact cX
 | k::ks,G1,h,aA=>by
  obtain ⟨x,l,j,ai,rfl⟩:=CI h;have aL:=zH cX ai λe h=>aA e (by simp [h]);have fM:=aA (k,x) (by simp);by_cases e:Nat.beq k r=true
  ·have:=Nat.eq_of_beq_eq_true e;subst this;simp only [cH,if_true] at j;cases j;have:dh cs2:=⟨by cases fM with | obj h=>exact h⟩;exact .b rfl aL
  ·have:b3 x:=⟨fM⟩;have e:=Bool.eq_false_iff.2 e;exact .n e (Mq e j) aL
theorem zI {g g2:aI}{r:Nat}{cs2:List ab}:∀ {ks:List Nat}{G1:List (Nat × ab)},pick (cH g r (.obj cs2)) ks=some G1->pH g g2 r G1=true->lg g g2 r cs2 G1
 | [],_,h,_=>by cases h; exact .nil
 | k::ks,G1,h,aA=>by
  obtain ⟨x,l,j,ai,rfl⟩:=CI h;obtain ⟨⟨q,J,cs,kc,rfl,h1,af,aF,bu,ct⟩,dJ⟩:=Oz aA;exact .p h1 (Mq h1 j) af aF bu ct (zI ai dJ)
theorem Fa {g g2:aI}{ex:List Nat}{T:List (Nat × ab)}(cX:mx ex g g2 T):∀ {ks:List Nat}{G1:List (Nat × ab)},pick g ks=some G1->(ks.all λk=>!ex.elem k)=true->(∀ e∈G1,cA e.2)->mx ex g g2 (G1++T)
 | [],_,h,_,_=>by cases h; exact cX
 | k::ks,G1,h,he,aA=>by
  obtain ⟨x,l,j,ai,rfl⟩:=CI h;rw [List.all_cons,Bool.and_eq_true] at he;have:b3 x:=⟨aA (k,x) (by simp)⟩;exact .n (by simpa using he.1) j (Fa cX ai he.2 λe h=>aA e (by simp [h]))
theorem Fb {g g2:aI}{ex:List Nat}{r:Nat}:∀ {ks:List Nat}{G1:List (Nat × ab)},pick g ks=some G1->(ks.all λk=>!ex.elem k)=true->pH g g2 r G1=true->mx ex g g2 G1
 | [],_,h,_,_=>by cases h; exact .nil
 | k::ks,G1,h,he,aA=>by
  obtain ⟨x,l,j,ai,rfl⟩:=CI h;rw [List.all_cons,Bool.and_eq_true] at he;obtain ⟨⟨q,J,cs,kc,rfl,h1,af,aF,bu,ct⟩,dJ⟩:=Oz aA;exact .p (by simpa using he.1) j bu ct (Fb ai he.2 dJ)
def rC:List (Nat × ab)->List (Nat × ab)->Option (List (Nat × ab))
 | [],T=>some T
 | p::l,T=>match rC l T with
  | some r=>some (p::r)
  | none=>none
theorem tJ:∀ {l T r:List (Nat × ab)},rC l T=some r->r=l++T
 | [],_,_,h=>by cases h; rfl
 | p::l,T,r,h=>by
  unfold rC at h
  split at h
  ·rename_i cK ah;cases h; rw [tJ ah]; rfl
  ·cases h
theorem rD {m:Option (List ab)}{ys:List ab}(h:m.bind k3=some ys):m=some ys:=by
 cases av:m with
 | none=>rw [av] at h; cases h
 | some c=>rw [av] at h; rw [xo h]
theorem dd.mr {P:Program}{g:aI}{xs:List Operand}{gh:Array TypeId}{f:FuncId}{ys args:List ab}{outs:List (Option ab)}{res:ab}(j:(fB g xs).bind k3=some ys) (hv:oz g ys args) (gS:b7 P f args outs res) [ah:ow res] (aS:ju P f=true:=by kernel_rfl) (aV:s_ outs=true:=by rfl):dd P g (.call { callee:=.value (.func f),args:=xs.toArray,argTypes:=gh }) res:=dd.vw (rD j) hv gS aS aV
def ou (ks hx:List Nat) (P:Program) (N:cP) (g:aI) (o:Oper) (g':aI):Prop:=bt P N g o g'
section
variable {α:Type}{P:Program}{N:cP}{ops:Array Oper}{g:aI}{K:aI->Prop}{l:List Oper}{d r k0 s:Nat}{ty t:TypeId}{pos:String}{after:Array Edge}{a b x:Operand}{cs cs' jd cs2:List ab}{y:ab}{G2 h8 hQ:List (Nat × ab)}{u:Option (Nat × Bool)}{p q:Place}{ks hx:List Nat}{en:bA α}{L M:List α}
theorem hB.ho (aQ:Rd g a (.ptr ⟨r,[]⟩ k0):=by exact .q) (aw:g r=some (.obj cs):=by rfl) (av:Rd g b (.agg cs'):=by exact .q) (he:oZ cs k0 cs'=some cs2:=by rfl) (ar:pick (cH g r (.obj cs2)) ks=some h8:=by rfl) (a6:pick (cH g r (.obj cs2)) hx=some hQ:=by rfl) (c9:rC h8 hQ=some G2:=by rfl) (cY:pH g (get G2) r hQ=true:=by rfl) (aT:hL P t cs'.length=true:=by kernel_rfl) (aO:Nat.blt 0 cs'.length=true:=by rfl) (ah:(get G2 r).isSome=true:=by rfl) [aA:dh cs'] [e8:dh cs] [aK:ib h8]:ou ks hx P N g ⟨none,.store t a b,ty,pos,after,none⟩ (get G2) :=
 .j4 rfl rfl aw aQ av rfl aT (Nat.ble_eq_true_of_le (lF he).2) aO (lF he).1 ah (by have:=tJ c9; subst this; exact zH (zI a6 cY) ar aK.p)
theorem hB.o0 (aQ:Rd g a (.ptr ⟨r,[]⟩ k0):=by exact .q) (aw:g r=some (.obj cs):=by rfl) (av:Rd g b y:=by exact .q) (aa:nS y=some [y]:=by rfl) (he:oZ cs k0 [y]=some cs2:=by rfl) (ar:pick (cH g r (.obj cs2)) ks=some h8:=by rfl) (a6:pick (cH g r (.obj cs2)) hx=some hQ:=by rfl) (c9:rC h8 hQ=some G2:=by rfl) (cY:pH g (get G2) r hQ=true:=by rfl) (aT:hL P t 1=true:=by kernel_rfl) (ah:(get G2 r).isSome=true:=by rfl) [aA:b3 y] [e8:dh cs] [aK:ib h8]:ou ks hx P N g ⟨none,.store t a b,ty,pos,after,none⟩ (get G2) :=
 .j4 rfl rfl aw aQ av aa aT (Nat.ble_eq_true_of_le (lF he).2) rfl (lF he).1 ah (by have:=tJ c9; subst this; exact zH (zI a6 cY) ar aK.p)
theorem hB.lk (j:Rd g x (.bl en.z p L.length):=by exact .q) (ar:bx g p=some (aq en L):=by rfl) (hk:pick g ks=some h8:=by rfl) (cy:(ks.all λk=>![p.root].elem k)=true:=by rfl) (a6:pick g hx=some hQ:=by rfl) (c9:rC h8 hQ=some G2:=by rfl) (vu:(hx.all λk=>![p.root].elem k)=true:=by rfl) (cY:pH g (get G2) 1000000 hQ=true:=by rfl) (aK:get G2 d=none:=by rfl) (a7:N.ok d=true:=by rfl) [aA:ib h8]:ou ks hx P N g ⟨some d,.assign x,ty,pos,after,u⟩ (cH (get G2) d (aq en L)) :=
 .yx rfl rfl j ar (by have:=tJ c9; subst this; exact Fa (Fb a6 vu cY) hk cy aA.p) aK a7
theorem hB.Ri (j:Rd g x y:=by exact .q) (hk:pick g ks=some G2:=by rfl) (aK:get G2 d=none:=by rfl) (a7:N.ok d=true:=by rfl) [ak:b3 y] [aA:ib G2]:ou ks hx P N g ⟨some d,.assign x,ty,pos,after,u⟩ (cH (get G2) d y) :=
 .Aq rfl rfl j (.f .nil) .refl (uN hk aA.p) aK a7
theorem hB.Au (j:Rd g x (.bl en.z ⟨s,[]⟩ (L.length+M.length)):=by exact .q) (aw:g s=some (.bC en.z q L.length M.length (bp en M)):=by rfl) (ar:bx g q=some (aq en L):=by rfl) (hk:pick g ks=some h8:=by rfl) (cy:(ks.all λk=>![s,q.root].elem k)=true:=by rfl) (IA:pick g hx=some hQ:=by rfl) (c9:rC h8 hQ=some G2:=by rfl) (vu:(hx.all λk=>![s,q.root].elem k)=true:=by rfl) (cY:pH g (get G2) 1000000 hQ=true:=by rfl) (a6:Nat.beq q.root s=false:=by rfl) (aK:get G2 d=none:=by rfl) (a7:N.ok d=true:=by rfl) [aA:ib h8]:ou ks hx P N g ⟨some d,.assign x,ty,pos,after,u⟩ (cH (get G2) d (aq en (L++M))) :=
 .Lc rfl rfl j aw ar a6 (by have:=tJ c9; subst this; exact Fa (Fb IA vu cY) hk cy aA.p) aK a7
theorem hB.th {iE y2:α}{m:Int}{o:Nat}{eI x2 y0:ab}(aQ:Rd g a (.ptr p (m.toNat * en.z+o)):=by exact .q) (ar:bx g p=some (aq en L):=by rfl) (h:idx L m=some iE:=by assumption) (av:Rd g b y:=by exact .q) (aa:nS y=some cs':=by rfl) (he:eP (en.cells iE) o cs'=en.cells y2:=by rfl) (jx:ch g p (aq en (L.set m.toNat y2)) p.root=some eI:=by rfl) (kA:E1 eI=some x2:=by rfl) (hk:pick (cH g p.root x2) ks=some G2:=by rfl) (aT:hL P t cs'.length=true:=by kernel_rfl) (hlen:Nat.ble (o+cs'.length) en.z=true:=by rfl) (aO:Nat.blt 0 cs'.length=true:=by rfl) (ah:(get G2 p.root).isSome=true:=by rfl) (vI:g p.root=some y0:=by rfl) [aA:b3 y] [e8:b3 y0] [aK:ib G2]:ou ks hx P N g ⟨none,.store t a b,ty,pos,after,none⟩ (get G2) :=
 .xV rfl rfl aQ av ar h aT aa he hlen aO (by rw [jx,Of kA]) ah vI (JT hk aK.p)
theorem hB.PC {g1:aI}{bT:ab}(av:Rd g b y) (al:e2 g [y] [bT] g1) (aQ:Rd g a (.ptr ⟨r,[]⟩ k0):=by exact .q) (aa:nS bT=some cs':=by rfl) (aw:g1 r=some (.obj jd):=by rfl) (he:oZ jd k0 cs'=some cs2:=by rfl) (hk:pick (cH g1 r (.obj cs2)) ks=some h8:=by rfl) (fL:pick (cH g1 r (.obj cs2)) hx=some hQ:=by rfl) (c9:rC h8 hQ=some G2:=by rfl) (cY:pH g1 (get G2) r hQ=true:=by rfl) (aT:hL P t cs'.length=true:=by kernel_rfl) (aO:Nat.blt 0 cs'.length=true:=by rfl) (ah:(get G2 r).isSome=true:=by rfl) [e8:dh jd] [aK:ib h8]:ou ks hx P N g ⟨none,.store t a b,ty,pos,after,none⟩ (get G2) :=
 .uV rfl rfl aQ av al .refl aa aT aw (Nat.ble_eq_true_of_le (lF he).2) aO (lF he).1 ah (by have:=tJ c9; subst this; exact zH (zI fL cY) hk aK.p)
theorem hB.nR {g1:aI}{bT:ab}(av:Rd g x y) (al:e2 g [y] [bT] g1) (hk:pick g1 ks=some G2:=by rfl) (aK:get G2 d=none:=by rfl) (a7:N.ok d=true:=by rfl) [aA:ib G2]:ou ks hx P N g ⟨some d,.assign x,ty,pos,after,u⟩ (cH (get G2) d bT) :=
 .Aq rfl rfl av al .refl (uN hk aA.p) aK a7
theorem hB.Dy {M2:List α}{s2:Nat}(j:Rd g x (.bl en.z ⟨s,[]⟩ (L.length+M2.length+M.length)):=by exact .q) (aw:g s=some (.bC en.z ⟨s2,[]⟩ (L.length+M2.length) M.length (bp en M)):=by rfl) (ky:g s2=some (.bC en.z q L.length M2.length (bp en M2)):=by rfl) (ar:bx g q=some (aq en L):=by rfl) (a6:Nat.beq q.root s=false:=by rfl) (qZ:Nat.beq q.root s2=false:=by rfl) (BB:Nat.beq s s2=false:=by rfl) (hk:pick g ks=some h8:=by rfl) (cy:(ks.all λk=>![s,s2,q.root].elem k)=true:=by rfl) (IA:pick g hx=some hQ:=by rfl) (c9:rC h8 hQ=some G2:=by rfl) (vu:(hx.all λk=>![s,s2,q.root].elem k)=true:=by rfl) (cY:pH g (get G2) 1000000 hQ=true:=by rfl) (aK:get G2 d=none:=by rfl) (a7:N.ok d=true:=by rfl) [aA:ib h8]:ou ks hx P N g ⟨some d,.assign x,ty,pos,after,u⟩ (cH (get G2) d (aq en (L++M2++M))) :=
 .Ra rfl rfl j aw ky ar a6 qZ BB (by have:=tJ c9; subst this; exact Fa (Fb IA vu cY) hk cy aA.p) aK a7
theorem hB.sp (av:Rd g b (.bl en.z ⟨s,[]⟩ (L.length+M.length)):=by exact .q) (qh:g s=some (.bC en.z q L.length M.length (bp en M)):=by rfl) (ar:bx g q=some (aq en L):=by rfl) (aQ:Rd g a (.ptr ⟨r,[]⟩ k0):=by exact .q) (aw:ch (ch g ⟨s,[]⟩ .dead) q .dead r=some (.obj jd):=by rfl) (he:oZ jd k0 [aq en (L++M)]=some cs2:=by rfl) (hk:pick (cH (ch (ch g ⟨s,[]⟩ .dead) q .dead) r (.obj cs2)) ks=some h8:=by rfl) (fL:pick (cH (ch (ch g ⟨s,[]⟩ .dead) q .dead) r (.obj cs2)) hx=some hQ:=by rfl) (c9:rC h8 hQ=some G2:=by rfl) (cY:pH (ch (ch g ⟨s,[]⟩ .dead) q .dead) (get G2) r hQ=true:=by rfl) (a6:Nat.beq q.root s=false:=by rfl) (aT:hL P t 1=true:=by kernel_rfl) (ah:(get G2 r).isSome=true:=by rfl) [e8:dh jd] [aK:ib h8]:ou ks hx P N g ⟨none,.store t a b,ty,pos,after,none⟩ (get G2) :=
 .Kf rfl rfl aQ av qh ar a6 .jz .iq rfl rfl aT aw (Nat.ble_eq_true_of_le (lF he).2) (lF he).1 ah (by have:=tJ c9; subst this; exact zH (zI fL cY) hk aK.p)
theorem hB.si (av:Rd g b (.bl en.z p L.length):=by exact .q) (ar:bx g p=some (aq en L):=by rfl) (aQ:Rd g a (.ptr ⟨r,[]⟩ k0):=by exact .q) (aw:ch g p .dead r=some (.obj jd):=by rfl) (he:oZ jd k0 [aq en L]=some cs2:=by rfl) (hk:pick (cH (ch g p .dead) r (.obj cs2)) ks=some h8:=by rfl) (fL:pick (cH (ch g p .dead) r (.obj cs2)) hx=some hQ:=by rfl) (c9:rC h8 hQ=some G2:=by rfl) (cY:pH (ch g p .dead) (get G2) r hQ=true:=by rfl) (aT:hL P t 1=true:=by kernel_rfl) (ah:(get G2 r).isSome=true:=by rfl) [e8:dh jd] [aK:ib h8]:ou ks hx P N g ⟨none,.store t a b,ty,pos,after,none⟩ (get G2) :=
 .uV rfl rfl aQ av (.r ar .nil) .refl rfl aT aw (Nat.ble_eq_true_of_le (lF he).2) rfl (lF he).1 ah (by have:=tJ c9; subst this; exact zH (zI fL cY) hk aK.p)
end
def EP:Nat->List (Option ab)->Option (Nat × List ab)
 | _,[]=>none
 | k,some (.obj cs)::_=>some (k,cs)
 | k,none::l=>EP (k+1) l
 | _,_=>none
def Jp (g:aI) (xs:List Operand) (k:Nat):Option Nat :=
 match xs[k]? with
 | some (.tmp t)=>match g t with
  | some (.ptr ⟨r,[]⟩ 0)=>some r
  | some (.obj _)=>some t
  | _=>none
 | _=>none
theorem hB.lC {P:Program}{N:cP}{g:aI}{d r k0:Nat}{ty:TypeId}{pos:String}{after:Array Edge}{u:Option (Nat × Bool)}{f:FuncId}{xs:List Operand}{gh:Array TypeId}{ys args cs cs':List ab}{outs:List (Option ab)}{res:ab}{ks:List Nat}{G2:List (Nat × ab)}
  (gS:b7 P f args outs res) (ai:EP 0 outs=some (k0,cs')) (ah:Jp g xs k0=some r) (ar:pick (ch g ⟨r,[]⟩ .dead) ks=some G2) (j:(fB g xs).bind k3=some ys) (aQ:mR r cs k0 0 ys args) (aw:g r=some (.obj cs):=by rfl) (he:outs=uF args.length k0 (.obj cs'):=by rfl) (mf:Nat.blt k0 ys.length=true:=by rfl) (aS:ju P f=true:=by kernel_rfl) (aK:get G2 d=none:=by rfl) (rT:Nat.beq r d=false:=by rfl) (Bv:pick (get ((r,.obj cs')::G2)) ks=some G2:=by rfl) (a7:N.ok d=true:=by rfl) [e8:dh cs] [dK:b3 res] [Bp:dh cs'] [aA:ib G2] :
  bt P N g ⟨some d,.call { callee:=.value (.func f),args:=xs.toArray,argTypes:=gh },ty,pos,after,u⟩ (get ((d,res)::(r,.obj cs')::G2)) :=
 .call rfl a7 (hN.lC (A:=[]) rfl rfl (rD j) aw aQ mf (he ▸ gS) aS (uN ar aA.p) aK rT (uN Bv aA.p) .nil a7)
def qR:Acc->List (Nat × ab)->List (Nat × ab)
 | [],G=>G
 | (_,d,some x)::acc,G=>(d,x)::qR acc G
 | (_,_,none)::acc,G=>qR acc G
def cx (dW:List Nat) (P:Program) (N:cP) (ops:Array Oper) (a':List (List Nat)) (g0:aI) (i:Nat) (acc:Acc) (l:List Oper) (K:aI->Prop):Prop:=bH P N ops a' g0 i acc l K
section
variable {α β:Type}{P:Program}{N:cP}{ops:Array Oper}{a':List (List Nat)}{acc:Acc}{E ks:List Nat}{t x y z:lb}{A B c:Code}{G G1 G2:List (Nat × ab)}{g:aI}{g':aI}{Φ oq:Exit->aI->Prop}{Ψ:aI->Prop}{K:aI->Prop}{id k s d i bw J cu:Nat}{b dx:Bool}{l:List Oper}{o:Oper}{op:Op}{ty xX:TypeId}{pos:String}{after:Array Edge}{v y':ab}{u:Option (Nat × Bool)}{a aB a2:Operand}
theorem cv.Y_ (h:cv E t P N .ret G Φ):cv E t P N .ret G Φ:=h
theorem aC.ts (h:aC P N ops (⟨none,.store ty aB a2,xX,pos,after,u⟩::l) g K):aC P N ops (⟨none,.store ty aB a2,xX,pos,after,u⟩::l) g K:=h
theorem cx.ts {dW:List Nat}(h:cx dW P N ops a' g i acc (⟨none,.store ty aB a2,xX,pos,after,u⟩::l) K):cx dW P N ops a' g i acc (⟨none,.store ty aB a2,xX,pos,after,u⟩::l) K:=h
theorem cx.bE (op:Op) (u:Option (Nat × Bool)) {dW:List Nat}(h:cx dW P N ops a' g i acc (⟨some d,op,ty,pos,after,u⟩::l) K):cx dW P N ops a' g i acc (⟨some d,op,ty,pos,after,u⟩::l) K:=h
theorem cx.nl {dW:List Nat}(h:cx dW P N ops a' g i acc [] K):cx dW P N ops a' g i acc [] K:=h
def Fj (g:aI) (d:Nat):Operand->Option ab
 | .tmp t=>bif Nat.beq t d then none else Fk g t
 | .const v=>Fi g (.const v)
 | _=>none
theorem Rd.pI {g:aI}{a:Operand}{y:ab}(h:Fj g d a=some y):Rd (del g d) a y:=by
 unfold Fj at h
 split at h
 ·rename_i t;cases av:Nat.beq t d with
  | true=>rw [av] at h; cases h
  | false =>
   rw [av] at h;have cy:t≠d:=Nat.ne_of_beq_eq_false av;refine Rd.zK ?_;unfold Fk at h ⊢;simpa [del,cy] using h
 ·exact .q (by unfold Fi at h ⊢; exact h)
 ·cases h
theorem Q7 {y':ab}(j:Fj (get G) d a=some v) (aS:get G d=some y') (ai:leaf y'=true) (hk:aC P N ops l (get ((d,v)::G)) K) (a7:N.ok d=true:=by rfl):aC P N ops (⟨some d,.assign a,ty,pos,after,none⟩::l) (get G) K:=.over (.assign (Rd.pI j).bm) a7 aS ai (pj ▸ hk)
theorem Q8 {y':ab}(j:Fj (get G) d a=some v) (aS:get G d=some y') (ai:leaf y'=true) (hk:aC P N ops l (get ((d,v)::G)) K) (a7:N.ok d=true:=by rfl):aC P N ops (⟨some d,.move a,ty,pos,after,none⟩::l) (get G) K:=.over (.move (Rd.pI j).bm) a7 aS ai (pj ▸ hk)
theorem QT {hx:List Nat}(mf:s6 [] G=some ks) (gj:BX G [] [] G=some hx) (he:ou ks hx P N (get G) o (get G2)) (hk:aC P N ops l (get G2) K) (aK:o.guard=none:=by rfl):aC P N ops (o::l) (get G) K:=.na aK he hk
theorem QR {f:FuncId}{xs:List Operand}{gh:Array TypeId}{ys args cs cs':List ab}{outs:List (Option ab)}{res:ab}{r k0:Nat}(gS:b7 P f args outs res) (ai:EP 0 outs=some (k0,cs')) (ah:Jp (get G) xs k0=some r) (hk:s6 [r,d] G=some ks) (ar:pick (ch (get G) ⟨r,[]⟩ .dead) ks=some G2) (j:(fB (get G) xs).bind k3=some ys) (aQ:mR r cs k0 0 ys args) (c5:aC P N ops l (get ((d,res)::(r,.obj cs')::G2)) K) (aw:get G r=some (.obj cs):=by rfl) (he:outs=uF args.length k0 (.obj cs'):=by rfl) (mf:Nat.blt k0 ys.length=true:=by rfl) (aS:ju P f=true:=by kernel_rfl) (aK:get G2 d=none:=by rfl) (rT:Nat.beq r d=false:=by rfl) (Bv:pick (get ((r,.obj cs')::G2)) ks=some G2:=by rfl) (a7:N.ok d=true:=by rfl) [e8:dh cs] [dK:b3 res] [Bp:dh cs'] [aA:ib G2] :
  aC P N ops (⟨some d,.call { callee:=.value (.func f),args:=xs.toArray,argTypes:=gh },ty,pos,after,none⟩::l) (get G) K:=.na rfl (hB.lC gS ai ah ar j aQ aw he mf aS aK rT Bv a7) c5
theorem QK {dW:List Nat}{f:FuncId}{xs:List Operand}{gh:Array TypeId}{ys args cs cs':List ab}{outs:List (Option ab)}{res:ab}{r k0:Nat}(gS:b7 P f args outs res) (ai:EP 0 outs=some (k0,cs')) (ah:Jp (c0 (get G) (λ_=>true) acc) xs k0=some r) (hk:s6 [r,d] (qR acc G)=some ks) (ar:pick (ch (c0 (get G) (λ_=>true) acc) ⟨r,[]⟩ .dead) ks=some G2) (j:(fB (c0 (get G) (λ_=>true) acc) xs).bind k3=some ys) (aQ:mR r cs k0 0 ys args) (c5:cx dW P N ops a' (get ((d,res)::(r,.obj cs')::G2)) (bw+1) [] l K) (aw:c0 (get G) (λ_=>true) acc r=some (.obj cs):=by rfl) (he:outs=uF args.length k0 (.obj cs'):=by rfl) (mf:Nat.blt k0 ys.length=true:=by rfl) (aS:ju P f=true:=by kernel_rfl) (aK:get G2 d=none:=by rfl) (rT:Nat.beq r d=false:=by rfl) (Bv:pick (get ((r,.obj cs')::G2)) ks=some G2:=by rfl) (a7:N.ok d=true:=by rfl) [e8:dh cs] [dK:b3 res] [Bp:dh cs'] [aA:ib G2] (gv:q5 ((acc.filterMap jL).map Place.root)=true:=by rfl) (fA:lW G=true:=by rfl) (aj:Nat.beq ops.size (bw+l.length+1)=true:=by rfl)
  (yU:(List.range bw).all (λk=>(a'.getD bw []).contains k)=true:=by kernel_rfl) (av:(List.range ops.size).all (λk=>Nat.ble k bw||(a'.getD k []).contains bw)=true:=by kernel_rfl) :
  cx (bw::dW) P N ops a' (get G) i acc (⟨some d,.call { callee:=.value (.func f),args:=xs.toArray,argTypes:=gh },ty,pos,after,none⟩::l) K:=bH.wy bw (hB.lC gS ai ah ar j aQ aw he mf aS aK rT Bv a7) rfl gv fA aj yU av c5
theorem QS {hx:List Nat}(mf:s6 (d::roots G a) G=some ks) (gj:BX G (d::roots G a) [] G=some hx) (he:ou ks hx P N (get G) ⟨some d,.assign a,ty,pos,after,none⟩ (cH (get G2) d v)) (hk:aC P N ops l (get ((d,v)::G2)) K):aC P N ops (⟨some d,.assign a,ty,pos,after,none⟩::l) (get G) K:=.wI rfl he (pj ▸ hk)
theorem Q4 {L:List α}{f:List α->Option β}{J3:β}{M:List α}{e de br:Nat}{gM:TypeId}{parts:Array (Nat × Operand)}{ys:List ab}{en:bA α}(h:(dj L M).bind f=some J3) [het:gX P gM α en] [al:dZ P gM e br] (hk:aC P N ops l (get ((d,ao en M)::G)) K) (j:(fB (get G) (parts.toList.map (·.2))).bind k3=some ys:=by rfl) (aa:l8 ys=some (bp en M):=by rfl) (aT:ys.all (λy=>match jc y with | some c=>Nat.beq c.length en.z | none=>false)=true:=by rfl) (ar:parts.toList=(parts.toList.map (·.2)).mapIdx (λi x=>(i,x)):=by rfl) (kx:(parts.toList.map (·.2)).length=de:=by rfl) (ai:M.length=de:=by rfl) (nm:br=en.z:=by rfl) (hzero:h5 P e en.z=true:=by kernel_rfl) (av:Nat.ble (de * en.z) 16777216=true:=by rfl) (fy:Nat.ble de 16777216=true:=by rfl) [hv:iM (aq en M) (ao en M)] (a7:N.ok d=true:=by rfl) (aS:get G d=none:=by rfl):aC P N ops (⟨some d,.buildSlice gM de parts,ty,pos,after,none⟩::l) (get G) K :=
 .gy (O.bn en M (nm ▸ al.p) (rD j) aa aT ar kx ai hzero av fy) a7 aS .none (pj ▸ hk)
theorem La (M:List α) {e de br:Nat}{gM:TypeId}{parts:Array (Nat × Operand)}{ys:List ab}{en:bA α}(aw:vZ d l=false) [het:gX P gM α en] [al:dZ P gM e br] (hk:aC P N ops l (get ((d,aq en M)::G)) K) (j:(fB (get G) (parts.toList.map (·.2))).bind k3=some ys:=by rfl) (aa:l8 ys=some (bp en M):=by rfl) (aT:ys.all (λy=>match jc y with | some c=>Nat.beq c.length en.z | none=>false)=true:=by rfl) (ar:parts.toList=(parts.toList.map (·.2)).mapIdx (λi x=>(i,x)):=by rfl) (kx:(parts.toList.map (·.2)).length=de:=by rfl) (ai:M.length=de:=by rfl) (nm:br=en.z:=by rfl) (hzero:h5 P e en.z=true:=by kernel_rfl) (av:Nat.ble (de * en.z) 16777216=true:=by rfl) (fy:Nat.ble de 16777216=true:=by rfl) (a7:N.ok d=true:=by rfl) (aS:get G d=none:=by rfl):aC P N ops (⟨some d,.buildSlice gM de parts,ty,pos,after,none⟩::l) (get G) K :=
 ec (O.bn en M (nm ▸ al.p) (rD j) aa aT ar kx ai hzero av fy) hk a7 aS
theorem Q5 {M:List α}{e de br:Nat}{gM:TypeId}{parts:Array (Nat × Operand)}{ys:List ab}{en:bA α}(aw:vZ d l=true) [het:gX P gM α en] [al:dZ P gM e br] (hk:aC P N ops l (get ((d,ao en M)::G)) K) (j:(fB (get G) (parts.toList.map (·.2))).bind k3=some ys:=by rfl) [aP:o5 en ys M] (ar:parts.toList=(parts.toList.map (·.2)).mapIdx (λi x=>(i,x)):=by rfl) (kx:(parts.toList.map (·.2)).length=de:=by rfl) (ai:ys.length=de:=by rfl) (nm:br=en.z:=by rfl) (hzero:h5 P e en.z=true:=by kernel_rfl) (av:Nat.ble (de * en.z) 16777216=true:=by rfl) (fy:Nat.ble de 16777216=true:=by rfl) [hv:iM (aq en M) (ao en M)] (a7:N.ok d=true:=by rfl) (aS:get G d=none:=by rfl):aC P N ops (⟨some d,.buildSlice gM de parts,ty,pos,after,none⟩::l) (get G) K :=
 .gy (O.bn en M (nm ▸ al.p) (rD j) aP.p.1 aP.p.2.1 ar kx (aP.p.2.2.trans ai) hzero av fy) a7 aS .none (pj ▸ hk)
theorem Q6 {M:List α}{e de br:Nat}{gM:TypeId}{parts:Array (Nat × Operand)}{ys:List ab}{en:bA α}(aw:vZ d l=false) [het:gX P gM α en] [al:dZ P gM e br] (hk:aC P N ops l (get ((d,aq en M)::G)) K) (j:(fB (get G) (parts.toList.map (·.2))).bind k3=some ys:=by rfl) [aP:o5 en ys M] (ar:parts.toList=(parts.toList.map (·.2)).mapIdx (λi x=>(i,x)):=by rfl) (kx:(parts.toList.map (·.2)).length=de:=by rfl) (ai:ys.length=de:=by rfl) (nm:br=en.z:=by rfl) (hzero:h5 P e en.z=true:=by kernel_rfl) (av:Nat.ble (de * en.z) 16777216=true:=by rfl) (fy:Nat.ble de 16777216=true:=by rfl) (a7:N.ok d=true:=by rfl) (aS:get G d=none:=by rfl):aC P N ops (⟨some d,.buildSlice gM de parts,ty,pos,after,none⟩::l) (get G) K :=
 ec (O.bn en M (nm ▸ al.p) (rD j) aP.p.1 aP.p.2.1 ar kx (aP.p.2.2.trans ai) hzero av fy) hk a7 aS
theorem ea {dW:List Nat}(ar:b5 P (jn a' g bw acc) op ty v) (hk:cx dW P N ops a' g i ((bw,d,some v)::acc) l K) (aj:Nat.beq ops.size (bw+l.length+1)=true:=by rfl) (aS:g d=none:=by rfl) (aA:acc.all (λe=>!Nat.beq e.2.1 d)=true:=by rfl) (a7:N.ok d=true:=by rfl):cx (bw::dW) P N ops a' g i acc (⟨some d,op,ty,pos,after,none⟩::l) K:=aM _ ar hk aj aS aA a7
theorem ei {dW:List Nat}(ar:b5 P (jn a' g bw acc) op ty v) (hk:cx dW P N ops a' g i ((bw,d,some v)::acc) l K) (h:(ops[J]?).bind (·.dst)=some cu:=by rfl) (aK:jn a' g bw acc cu=some (.lit (.bool dx)):=by rfl) (av:dx=b:=by (first | rfl | assumption)) (aj:Nat.beq ops.size (bw+l.length+1)=true:=by rfl) (aS:g d=none:=by rfl) (aA:acc.all (λe=>!Nat.beq e.2.1 d)=true:=by rfl) (a7:N.ok d=true:=by rfl):cx (bw::dW) P N ops a' g i acc (⟨some d,op,ty,pos,after,some (J,b)⟩::l) K:=.v _ ar aj aS aA a7 (.j8 h aK av) hk
theorem KN {dW:List Nat}(ar:dd P (jn a' g bw acc) op v) (hk:cx dW P N ops a' g i ((bw,d,some v)::acc) l K) (aj:Nat.beq ops.size (bw+l.length+1)=true:=by rfl) (aS:g d=none:=by rfl) (aA:acc.all (λe=>!Nat.beq e.2.1 d)=true:=by rfl) (a7:N.ok d=true:=by rfl):cx (bw::dW) P N ops a' g i acc (⟨some d,op,ty,pos,after,none⟩::l) K:=.c _ ar aj aS aA a7 .none hk
theorem KM {dW:List Nat}(ar:dd P (jn a' g bw acc) op v) (hk:cx dW P N ops a' g i ((bw,d,some v)::acc) l K) (h:(ops[J]?).bind (·.dst)=some cu:=by rfl) (aK:jn a' g bw acc cu=some (.lit (.bool dx)):=by rfl) (av:dx=b:=by (first | rfl | assumption)) (aj:Nat.beq ops.size (bw+l.length+1)=true:=by rfl) (aS:g d=none:=by rfl) (aA:acc.all (λe=>!Nat.beq e.2.1 d)=true:=by rfl) (a7:N.ok d=true:=by rfl):cx (bw::dW) P N ops a' g i acc (⟨some d,op,ty,pos,after,some (J,b)⟩::l) K:=.c _ ar aj aS aA a7 (.j8 h aK av) hk
theorem QO {dW:List Nat}(hk:cx dW P N ops a' g i ((bw,d,some (.bJ []))::acc) l K) (h:(ops[J]?).bind (·.dst)=some cu:=by rfl) (aK:jn a' g bw acc cu=some (.lit (.bool dx)):=by rfl) (av:dx=!b:=by (first | rfl | assumption)) (aj:Nat.beq ops.size (bw+l.length+1)=true:=by rfl) (aS:g d=none:=by rfl) (aA:acc.all (λe=>!Nat.beq e.2.1 d)=true:=by rfl) (a7:N.ok d=true:=by rfl):cx (bw::dW) P N ops a' g i acc (⟨some d,op,ty,pos,after,some (J,b)⟩::l) K:=.ps _ h aK av aj aS aA a7 hk
theorem QQ {dW:List Nat}(hk:cx dW P N ops a' g i ((bw,d,some (.bJ []))::acc) l K) (h:(ops[J]?).bind (·.dst)=some cu:=by rfl) (aK:jn a' g bw acc cu=some (.bJ []):=by rfl) (aj:Nat.beq ops.size (bw+l.length+1)=true:=by rfl) (aS:g d=none:=by rfl) (aA:acc.all (λe=>!Nat.beq e.2.1 d)=true:=by rfl) (a7:N.ok d=true:=by rfl):cx (bw::dW) P N ops a' g i acc (⟨some d,op,ty,pos,after,some (J,b)⟩::l) K:=.pu _ h aK aj aS aA a7 hk
theorem QI {dW:List Nat}{L:List α}{f:List α->Option β}{J3:β}{M:List α}{e de br:Nat}{gM:TypeId}{parts:Array (Nat × Operand)}{ys:List ab}{en:bA α}(h:(dj L M).bind f=some J3) [het:gX P gM α en] [al:dZ P gM e br] (hk:cx dW P N ops a' g i ((bw,d,some (ao en M))::acc) l K) (j:(fB (jn a' g bw acc) (parts.toList.map (·.2))).bind k3=some ys:=by rfl) (aa:l8 ys=some (bp en M):=by rfl) (aT:ys.all (λy=>match jc y with | some c=>Nat.beq c.length en.z | none=>false)=true:=by rfl) (ar:parts.toList=(parts.toList.map (·.2)).mapIdx (λi x=>(i,x)):=by rfl) (kx:(parts.toList.map (·.2)).length=de:=by rfl) (ai:M.length=de:=by rfl) (nm:br=en.z:=by rfl) (hzero:h5 P e en.z=true:=by kernel_rfl) (av:Nat.ble (de * en.z) 16777216=true:=by rfl) (fy:Nat.ble de 16777216=true:=by rfl) [hv:iM (aq en M) (ao en M)] (aj:Nat.beq ops.size (bw+l.length+1)=true:=by rfl) (aS:g d=none:=by rfl) (aA:acc.all (λe=>!Nat.beq e.2.1 d)=true:=by rfl) (a7:N.ok d=true:=by rfl):cx (bw::dW) P N ops a' g i acc (⟨some d,.buildSlice gM de parts,ty,pos,after,none⟩::l) K :=
 bH.gy bw (O.bn en M (nm ▸ al.p) (rD j) aa aT ar kx ai hzero av fy) aj aS aA a7 .none hk
theorem QP {dW:List Nat}(M:List α) {e de br:Nat}{gM:TypeId}{parts:Array (Nat × Operand)}{ys:List ab}{en:bA α}(aw:vZ d l=true) [het:gX P gM α en] [al:dZ P gM e br] (hk:cx dW P N ops a' g i ((bw,d,some (ao en M))::acc) l K) (j:(fB (jn a' g bw acc) (parts.toList.map (·.2))).bind k3=some ys:=by rfl) (aa:l8 ys=some (bp en M):=by rfl) (aT:ys.all (λy=>match jc y with | some c=>Nat.beq c.length en.z | none=>false)=true:=by rfl) (ar:parts.toList=(parts.toList.map (·.2)).mapIdx (λi x=>(i,x)):=by rfl) (kx:(parts.toList.map (·.2)).length=de:=by rfl) (ai:M.length=de:=by rfl) (nm:br=en.z:=by rfl) (hzero:h5 P e en.z=true:=by kernel_rfl) (av:Nat.ble (de * en.z) 16777216=true:=by rfl) (fy:Nat.ble de 16777216=true:=by rfl) [hv:iM (aq en M) (ao en M)] (aj:Nat.beq ops.size (bw+l.length+1)=true:=by rfl) (aS:g d=none:=by rfl) (aA:acc.all (λe=>!Nat.beq e.2.1 d)=true:=by rfl) (a7:N.ok d=true:=by rfl):cx (bw::dW) P N ops a' g i acc (⟨some d,.buildSlice gM de parts,ty,pos,after,none⟩::l) K :=
 bH.gy bw (O.bn en M (nm ▸ al.p) (rD j) aa aT ar kx ai hzero av fy) aj aS aA a7 .none hk
theorem KO {dW:List Nat}(M:List α) {e de br:Nat}{gM:TypeId}{parts:Array (Nat × Operand)}{ys:List ab}{en:bA α}(aw:vZ d l=false) [het:gX P gM α en] [al:dZ P gM e br] (hk:cx dW P N ops a' g i ((bw,d,some (aq en M))::acc) l K) (j:(fB (jn a' g bw acc) (parts.toList.map (·.2))).bind k3=some ys:=by rfl) (aa:l8 ys=some (bp en M):=by rfl) (aT:ys.all (λy=>match jc y with | some c=>Nat.beq c.length en.z | none=>false)=true:=by rfl) (ar:parts.toList=(parts.toList.map (·.2)).mapIdx (λi x=>(i,x)):=by rfl) (kx:(parts.toList.map (·.2)).length=de:=by rfl) (ai:M.length=de:=by rfl) (nm:br=en.z:=by rfl) (hzero:h5 P e en.z=true:=by kernel_rfl) (av:Nat.ble (de * en.z) 16777216=true:=by rfl) (fy:Nat.ble de 16777216=true:=by rfl) (aj:Nat.beq ops.size (bw+l.length+1)=true:=by rfl) (aS:g d=none:=by rfl) (aA:acc.all (λe=>!Nat.beq e.2.1 d)=true:=by rfl) (a7:N.ok d=true:=by rfl):cx (bw::dW) P N ops a' g i acc (⟨some d,.buildSlice gM de parts,ty,pos,after,none⟩::l) K :=
 ea (O.bn en M (nm ▸ al.p) (rD j) aa aT ar kx ai hzero av fy) hk aj aS aA a7
theorem QJ {dW:List Nat}{M:List α}{e de br:Nat}{gM:TypeId}{parts:Array (Nat × Operand)}{ys:List ab}{en:bA α}(aw:vZ d l=true) [het:gX P gM α en] [al:dZ P gM e br] (hk:cx dW P N ops a' g i ((bw,d,some (ao en M))::acc) l K) (j:(fB (jn a' g bw acc) (parts.toList.map (·.2))).bind k3=some ys:=by rfl) [aP:o5 en ys M] (ar:parts.toList=(parts.toList.map (·.2)).mapIdx (λi x=>(i,x)):=by rfl) (kx:(parts.toList.map (·.2)).length=de:=by rfl) (ai:ys.length=de:=by rfl) (nm:br=en.z:=by rfl) (hzero:h5 P e en.z=true:=by kernel_rfl) (av:Nat.ble (de * en.z) 16777216=true:=by rfl) (fy:Nat.ble de 16777216=true:=by rfl) [hv:iM (aq en M) (ao en M)] (aj:Nat.beq ops.size (bw+l.length+1)=true:=by rfl) (aS:g d=none:=by rfl) (aA:acc.all (λe=>!Nat.beq e.2.1 d)=true:=by rfl) (a7:N.ok d=true:=by rfl):cx (bw::dW) P N ops a' g i acc (⟨some d,.buildSlice gM de parts,ty,pos,after,none⟩::l) K :=
 bH.gy bw (O.bn en M (nm ▸ al.p) (rD j) aP.p.1 aP.p.2.1 ar kx (aP.p.2.2.trans ai) hzero av fy) aj aS aA a7 .none hk
theorem QM {dW:List Nat}{M:List α}{e de br:Nat}{gM:TypeId}{parts:Array (Nat × Operand)}{ys:List ab}{en:bA α}(aw:vZ d l=false) [het:gX P gM α en] [al:dZ P gM e br] (hk:cx dW P N ops a' g i ((bw,d,some (aq en M))::acc) l K) (j:(fB (jn a' g bw acc) (parts.toList.map (·.2))).bind k3=some ys:=by rfl) [aP:o5 en ys M] (ar:parts.toList=(parts.toList.map (·.2)).mapIdx (λi x=>(i,x)):=by rfl) (kx:(parts.toList.map (·.2)).length=de:=by rfl) (ai:ys.length=de:=by rfl) (nm:br=en.z:=by rfl) (hzero:h5 P e en.z=true:=by kernel_rfl) (av:Nat.ble (de * en.z) 16777216=true:=by rfl) (fy:Nat.ble de 16777216=true:=by rfl) (aj:Nat.beq ops.size (bw+l.length+1)=true:=by rfl) (aS:g d=none:=by rfl) (aA:acc.all (λe=>!Nat.beq e.2.1 d)=true:=by rfl) (a7:N.ok d=true:=by rfl):cx (bw::dW) P N ops a' g i acc (⟨some d,.buildSlice gM de parts,ty,pos,after,none⟩::l) K :=
 ea (O.bn en M (nm ▸ al.p) (rD j) aP.p.1 aP.p.2.1 ar kx (aP.p.2.2.trans ai) hzero av fy) hk aj aS aA a7
theorem QN {dW:List Nat}{hx:List Nat}(mf:s6 [] (qR acc G)=some ks) (gj:BX (qR acc G) [] [] (qR acc G)=some hx) (he:ou ks hx P N (c0 (get G) (λ_=>true) acc) o (get G2)) (hk:cx dW P N ops a' (get G2) (bw+1) [] l K) (aK:o.guard=none:=by rfl) (gv:q5 ((acc.filterMap jL).map Place.root)=true:=by rfl) (fA:lW G=true:=by rfl) (aj:Nat.beq ops.size (bw+l.length+1)=true:=by rfl)
  (aQ:(List.range bw).all (λk=>(a'.getD bw []).contains k)=true:=by kernel_rfl) (av:(List.range ops.size).all (λk=>Nat.ble k bw||(a'.getD k []).contains bw)=true:=by kernel_rfl):cx (bw::dW) P N ops a' (get G) i acc (o::l) K:=.wy _ he aK gv fA aj aQ av hk
theorem QL {dW:List Nat}{hx:List Nat}(mf:s6 (d::roots (qR acc G) a) (qR acc G)=some ks) (gj:BX (qR acc G) (d::roots (qR acc G) a) [] (qR acc G)=some hx) (he:ou ks hx P N (c0 (get G) (λ_=>true) acc) ⟨some d,.assign a,ty,pos,after,none⟩ (cH (get G2) d v)) (hk:cx dW P N ops a' (get ((d,v)::G2)) (bw+1) [] l K) (gv:q5 ((acc.filterMap jL).map Place.root)=true:=by rfl) (fA:lW G=true:=by rfl) (aj:Nat.beq ops.size (bw+l.length+1)=true:=by rfl)
  (aQ:(List.range bw).all (λk=>(a'.getD bw []).contains k)=true:=by kernel_rfl) (av:(List.range ops.size).all (λk=>Nat.ble k bw||(a'.getD k []).contains bw)=true:=by kernel_rfl):cx (bw::dW) P N ops a' (get G) i acc (⟨some d,.assign a,ty,pos,after,none⟩::l) K:=.bv _ he rfl gv fA aj aQ av hk
theorem bH.L_ {K:aI->Prop}(aT:xn (acc.filterMap jL)=true) (fA:lW G=true) (hi:Nat.ble i ops.size=true) (c5:K (c0 (get G) (λ_=>true) acc)):bH P N ops a' (get G) i acc [] K:=by
 intro dI J ck kz kv;have aj:J=ops.size:=by
  have h1:ops.size<=J:=by
   have:=congrArg List.length kv;rw [List.length_drop,List.length_nil,Array.length_toList] at this;omega
  have aF:J<=ops.size:=by
   cases kz with
   | nil=>exact Nat.le_of_ble_eq_true hi
   | step _ aV=>have:=(Array.getElem?_eq_some_iff.1 aV).1; omega
  omega
 subst aj;exact ⟨_,.fin kz (Jz aT) (vP fA),c5⟩
theorem QH {dW:List Nat}{Dc:lb->List (Nat × ab)->Prop}(mf:Ji E [] (qR acc G)=some ks) (ar:pick (c0 (get G) (λ_=>true) acc) ks=some G1) [aA:ib G1] (hk:Dc t G1) (aT:xn (acc.filterMap jL)=true:=by rfl) (fA:lW G=true:=by rfl) (hi:Nat.ble i ops.size=true:=by rfl):cx dW P N ops a' (get G) i acc [] (yh E t Dc) :=
 .L_ aT fA hi ⟨G1,(uN (c:=true) (g2:=get G1) ar aA.p).eH,hk⟩
theorem QG {dW:List Nat}{F:α->List (Nat × ab)}{J v:α}(h:some v=some J) (al:Trim true (c0 (get G) (λ_=>true) acc) (get (F v)) (F v)) (aT:xn (acc.filterMap jL)=true:=by rfl) (fA:lW G=true:=by rfl) (hi:Nat.ble i ops.size=true:=by rfl):cx dW P N ops a' (get G) i acc [] (ru F J .normal):=by
 cases h; exact .L_ aT fA hi ⟨rfl,.eH al.eH .iq⟩
theorem cv.rd [hm:Ae P] (h:cx num P N l.toArray a' (get G) 0 [] l (yh E y λt G1=>cv E t P N B G1 Φ)) (dp:pf l.toArray a'=true:=by kernel_rfl):cv E (.rd id a' y) P N (.seq (.region id l.toArray true) B) G Φ:=by
 obtain ⟨g',h1,G1,af,aF⟩:=h [] 0 .nil .nil (by simp);exact W.seq ((fP.draw hm.p dp h1).w (W.weaken af aF))
theorem cv.ca {m:Option α}{f:α->Option β}{r:β}{L cV:α->List (Nat × ab)} [hm:Ae P] (h:m.bind f=some r) (h1:∀ J,m=some J->cx num P N l.toArray a' (get G) 0 [] l (ru cV J .normal)) (af:∀ J,m=some J->f J=some r->cv E y P N B (cV J) Φ)
  (aG:∀ J,pick (pI (L J) G) ks=some (cV J):=by intro J; rfl) (dp:pf l.toArray a'=true:=by kernel_rfl):cv E (.ca id a' ks L y) P N (.seq (.region id l.toArray true) B) G Φ:=by
 obtain ⟨J,aj,h⟩:=oA h;obtain ⟨g',b2,_,e'⟩:=h1 J aj [] 0 .nil .nil (by simp);exact W.seq ((fP.draw hm.p dp b2).w (W.be (af J aj h) e'))
theorem cv.YV [hm:Ae P] (h:cx num P N l.toArray a' (get G) 0 [] l (yh E y λt G1=>eb E t .normal Φ G1)) (dp:pf l.toArray a'=true:=by kernel_rfl):cv E (.rd id a' y) P N (.region id l.toArray true) G Φ:=by
 obtain ⟨g',h1,G1,af,aF⟩:=h [] 0 .nil .nil (by simp);exact (fP.draw hm.p dp h1).w (aF g' (.eH af .iq))
theorem cv.Y1 {m:Option α}{f:α->Option β}{r:β}{L cV:α->List (Nat × ab)} [hm:Ae P] (h:m.bind f=some r) (h1:∀ J,m=some J->cx num P N l.toArray a' (get G) 0 [] l (ru cV J .normal)) (af:∀ J,m=some J->f J=some r->eb E y .normal Φ (cV J))
  (aG:∀ J,pick (pI (L J) G) ks=some (cV J):=by intro J; rfl) (dp:pf l.toArray a'=true:=by kernel_rfl):cv E (.ca id a' ks L y) P N (.region id l.toArray true) G Φ:=by
 obtain ⟨J,aj,h⟩:=oA h;obtain ⟨g',b2,_,e'⟩:=h1 J aj [] 0 .nil .nil (by simp);exact (fP.draw hm.p dp b2).w (af J aj h _ e')
theorem cv.Y0 {m:Option α}{f:α->Option β}{r:β}{L cV:α->List (Nat × ab)}(h:m.bind f=some r) (h1:∀ J,m=some J->aC P N l.toArray l (get G) (ru cV J .normal)) (af:∀ J,m=some J->f J=some r->eb E y .normal Φ (cV J))
  (aG:∀ J,pick (pI (L J) G) ks=some (cV J):=by intro J; rfl):cv E (.eK id ks L y) P N (.region id l.toArray false) G Φ:=by
 obtain ⟨J,aj,h⟩:=oA h;exact W.zO λi hi=>by
  obtain ⟨g',b2,_,e'⟩:=h1 J aj i hi;exact ⟨g',b2,af J aj h _ e'⟩
theorem cv.gf {S R gG:Type}{f:S->Option (S ⊕ (R ⊕ gG))}{s:S}{Hi:R ⊕ gG->Option β}{r:β}{F cV:S->List (Nat × ab)}{ks r6 BY:List Nat}{X l7:R->List (Nat × ab)}{Y tH:gG->List (Nat × ab)}(h:(b6 f s).bind Hi=some r)
  (av:∀ s o,f s=some o->cv E x P N c (cV s) (kP cV (Aj id l7 tH) o)) (j:∀ cK,Hi (.inl cK)=some r->eb E y (.exit id) Φ (l7 cK)) (ak:∀ cK,Hi (.inr cK)=some r->eb E z .ret Φ (tH cK))
  (aG:∀ s,pick (pI (F s) G) ks=some (cV s):=by intro s; rfl) (t_:∀ s,pick (pI (X s) G) r6=some (l7 s):=by intro s; rfl) (A6:∀ s,pick (pI (Y s) G) BY=some (tH s):=by intro s; rfl) (al:Trim true (get G) (get (cV s)) (cV s):=by (repeat' first | exact .nil | refine .n rfl ?_ | refine .w rfl rfl .pF ?_ | refine .w rfl rfl .pE ?_ | refine .w rfl rfl (jD.obj (by (repeat' first | exact .nil | refine .f ?_ | refine .o ?_ | refine .i ?_))) ?_)) :
  cv E (.gf F ks id X r6 Y BY x y z) P N (.loop c) G Φ:=by
 obtain ⟨cK,ai,h⟩:=oA h;exact W.du al (W.EV cV id l7 tH ai av (λq e=>j q (e ▸ h)) (λq e=>ak q (e ▸ h)))
theorem eb.x2 {S R gG:Type}{r:R}{o:S ⊕ (R ⊕ gG)}{F:S->List (Nat × ab)}{X:R->List (Nat × ab)}{Y:gG->List (Nat × ab)}(h:some (.inr (.inl r))=some o) (al:Trim true (get G) (get (X r)) (X r)):eb E t (.exit id) (kP F (Aj id X Y) o) G:=by
 cases h; exact aJ.x2 al
theorem eb.j2 {S R gG:Type}{r:gG}{o:S ⊕ (R ⊕ gG)}{F:S->List (Nat × ab)}{X:R->List (Nat × ab)}{Y:gG->List (Nat × ab)}(h:some (.inr (.inr r))=some o) (al:Trim true (get G) (get (Y r)) (Y r)):eb E t .ret (kP F (Aj id X Y) o) G:=by
 cases h; exact aJ.j2 al
end
section
variable {P:Program}{N:cP}{E:List Nat}{t x y z:lb}{A B c:Code}{G:List (Nat × ab)}{Φ:Exit->aI->Prop}{id k s:Nat}{o:Operand}
theorem jU.dN {α:Type}{en:bA α}{i:Option Nat}(h:cv E (.dN id s i en y) P N c G Φ):cv E (.dN id s i en y) P N c G Φ:=h
theorem jU.sH {α:Type}{en:bA α}{i:Option Nat}(h:cv E (.sH s i en y) P N c G Φ):cv E (.sH s i en y) P N c G Φ:=h
theorem jU.eK {α:Type}{ks:List Nat}{L:α->List (Nat × ab)}(h:cv E (.eK id ks L y) P N c G Φ):cv E (.eK id ks L y) P N c G Φ:=h
theorem jU.ca {α:Type}{a':List (List Nat)}{ks:List Nat}{L:α->List (Nat × ab)}(h:cv E (.ca id a' ks L y) P N c G Φ):cv E (.ca id a' ks L y) P N c G Φ:=h
theorem jU.rd {a':List (List Nat)}(h:cv E (.rd id a' y) P N c G Φ):cv E (.rd id a' y) P N c G Φ:=h
theorem jU.bj (h:cv E t P N (.cond o A B) G Φ):cv E t P N (.cond o A B) G Φ:=h
theorem jU.ey (h:cv E t P N (.loop A) G Φ):cv E t P N (.loop A) G Φ:=h
theorem jU.Jf {α:Type}{ks:List Nat}{L:α->List (Nat × ab)}(h:cv E (.cN ks L x y) P N (.block id A) G Φ):cv E (.cN ks L x y) P N (.block id A) G Φ:=h
theorem jU.rg {ops:Array Oper}{b:Bool}(h:cv E t P N (.region id ops b) G Φ):cv E t P N (.region id ops b) G Φ:=h
theorem jU.YD {S R:Type}{F:S->List (Nat × ab)}{Ψ:R->Exit->aI->Prop}{o:S ⊕ R}{e:Exit}(h:eb E t e (kP F Ψ o) G):eb E t e (kP F Ψ o) G:=h
theorem jU.YG {α:Type}{F:α->List (Nat × ab)}{J:α}{e:Exit}(h:eb E t e (ru F J) G):eb E t e (ru F J) G:=h
theorem jU.RZ (h:eb E t (.exit k) (lS id Φ) G):eb E t (.exit k) (lS id Φ) G:=h
theorem jU.YC {rs:List ResultVar}{n:Nat}{outs:List (Option ab)}{res:ab}{e:Exit}(h:eb E t e (pZ P N rs n outs res) G):eb E t e (pZ P N rs n outs res) G:=h
end
section
variable {P:Program}{N:cP}{E:List Nat}{t:lb}{G:List (Nat × ab)}{g':aI}{rs:List ResultVar}{ys xs:List ab}{res:ab}{outs:List (Option ab)}{n:Nat}
theorem jR.LS {g wM:aI}{s z:Nat}{gM:TypeId}{cs ys0:List ab}{rs:List ResultVar}{ys xs:List ab}(h:g s=some (.obj cs)) [al:jO P gM z] (aT:cs.length=z) (aO:Nat.blt 0 z=true) (ak:xM (λi x=>fC 0 ⟨s,[i]⟩ x) 0 num cs=some ys0) (hk:mU s g 0 ys0 cs wM) (ah:jR P wM rs ys xs g'):jR P g (.cell s gM::rs) (.agg ys0::ys) (.agg cs::xs) g':=.c h al.p aT aO (by have:=CP ak; simpa using this) hk ah
theorem eb.ek (h:jR P (get G) rs ys xs g':=by (repeat' first | exact .nil | (apply jR.f rfl rfl) | (apply jR.o rfl) | (apply jR.LS rfl rfl rfl rfl) | (apply mU.f rfl) | (apply mU.o rfl))) (he:oX xs=res:=by rfl) (aV:qO g' N.pins 0 outs:=by (repeat' first | exact .nil | refine .no ?_ | refine .ag rfl rfl ?_)) (fj:(rs.filterMap fun | .cell t _=>some t | _=>none).Nodup:=by exact of_decide_eq_true (by kernel_rfl)) (ai:outs.length=n:=by rfl):eb E t .ret (pZ P N rs n outs res) G:=jQ h he aV fj ai
theorem eb.fn (h:jR P (get G) rs ys xs g':=by (repeat' first | exact .nil | (apply jR.f rfl rfl) | (apply jR.o rfl) | (apply jR.LS rfl rfl rfl rfl) | (apply mU.f rfl) | (apply mU.o rfl))) (he:oX xs=res:=by rfl) (aV:qO g' N.pins 0 outs:=by (repeat' first | exact .nil | refine .no ?_ | refine .ag rfl rfl ?_)) (fj:(rs.filterMap fun | .cell t _=>some t | _=>none).Nodup:=by exact of_decide_eq_true (by kernel_rfl)) (ai:outs.length=n:=by rfl):eb E t .normal (pZ P N rs n outs res) G:=aJ.fin (Fin.ro h he fj aV ai (.inl rfl))
set_option maxRecDepth 1000000 in
/-- The walk: what it meets it does. -/
theorem eo {p:Prop}(h:p:=by
(repeat' (first
 | ((with_reducible apply aC.bE _ none); first
  | ((with_reducible apply aC.bE (.move _) none); first | refine ec (O.a8 .q) ?_)
  | ((with_reducible apply aC.bE (.assign (.const _)) none); first | refine ec (O.dG .q) ?_)
  | ((with_reducible apply aC.bE (.assign (.tmp _)) none); first | refine ec (O.dG .zK) ?_)
  | ((with_reducible apply aC.bE (.load _ _) none); first | refine ec (O.gm) ?_ | refine ec (O.fi) ?_ | refine ec (O.wa) ?_ | refine ec (O.wb) ?_ | refine ec (O.FK) ?_ | refine ec (O.FP) ?_ | refine ec (O.F0) ?_)
  | ((with_reducible apply aC.bE (.fieldAddr _ _ _) none); first | refine ec (O.zX) ?_ | refine ec (O.zY) ?_ | refine ec (O.wf) ?_)
  | ((with_reducible apply aC.bE (.indexAddr _ _ _) none); first | refine aW h λx j h=>ec (O.FJ j) ?_ | refine aW h λx j h=>ec (O.gE j) ?_ | refine ec (O.eH) ?_ | refine ec (O.FQ) ?_)
  | ((with_reducible apply aC.bE (.binOp .add _ _ _ _) none); first | refine ec (O.add .q .q) ?_ | refine aW h λx j h=>ec (O.cat .q .q j) ?_)
  | ((with_reducible apply aC.bE (.binOp .sub _ _ _ _) none); first | refine ec (O.sub .q .q) ?_)
  | ((with_reducible apply aC.bE (.binOp .mul _ _ _ _) none); first | refine ec (O.mul .q .q) ?_)
  | ((with_reducible apply aC.bE (.binOp .lss _ _ _ _) none); first | refine ec (O.lss .q .q) ?_)
  | ((with_reducible apply aC.bE (.binOp .leq _ _ _ _) none); first | refine ec (O.leq .q .q) ?_)
  | ((with_reducible apply aC.bE (.binOp .gtr _ _ _ _) none); first | refine ec (O.gtr .q .q) ?_)
  | ((with_reducible apply aC.bE (.binOp .geq _ _ _ _) none); first | refine ec (O.geq .q .q) ?_)
  | ((with_reducible apply aC.bE (.binOp .eql _ _ _ _) none); first | refine ec (O.eql .q .q) ?_ | refine ec (O.nU .q .q) ?_ | refine ec (O.DO .q .q (by kernel_rfl)) ?_ | refine ec (O.oj) ?_)
  | ((with_reducible apply aC.bE (.binOp .neq _ _ _ _) none); first | refine ec (O.neq .q .q) ?_ | refine ec (O.n' .q .q) ?_ | refine ec (O.wn) ?_)
  | ((with_reducible apply aC.bE (.binOp .quo _ _ _ _) none); first | refine aW h λx j h=>ec (O.quo .q .q j) ?_ | refine aW h λx j h=>ec (O.pO .q .q j) ?_)
  | ((with_reducible apply aC.bE (.binOp .rem _ _ _ _) none); first | refine aW h λx j h=>ec (O.rem .q .q j) ?_ | refine aW h λx j h=>ec (O.pP .q .q j) ?_)
  | ((with_reducible apply aC.bE (.unOp .not _ _) none); first | refine ec (O.not .q) ?_)
  | ((with_reducible apply aC.bE (.unOp .neg _ _) none); first | refine ec (O.neg .q) ?_)
  | ((with_reducible apply aC.bE (.pick _ _ _) none); first | refine ec (O.ki .q (by first | rfl | assumption) .q) ?_ | refine ec (O.jl .q (by first | rfl | assumption) .q) ?_)
  | ((with_reducible apply aC.bE (.nilCheck _) none); first | refine ec (O.eC .q) ?_ | refine ec (O.xp .q) ?_)
  | ((with_reducible apply aC.bE (.index _ _ _) none); first | refine aW h λx j h=>ec (O.at' .q .q iG.p j) ?_)
  | ((with_reducible apply aC.bE (.extract _ _) none); first | refine ec (O.FY) ?_)
  | ((with_reducible apply aC.bE (.convert _ _ _) none); first | refine ec (O.FO) ?_ | refine ec (O.FN) ?_)
  | ((with_reducible apply aC.bE (.box _ _) none); first | refine ec (O.FF) ?_)
  | ((with_reducible apply aC.bE (.alloc _) none); first | refine ec (O.FL) ?_ | refine ec (O.FM) ?_)
  | ((with_reducible apply aC.bE (.build _ _) none); first | refine ec (O.FX) ?_)
  | ((with_reducible apply aC.bE (.field _ _ _) none); first | refine ec (O.wd) ?_)
  | ((with_reducible apply aC.bE (.makeSlice _ _ _) none); first | refine aW h λx j h=>ec (O.FR j) ?_ | refine aW h λx j h=>ec (O.FZ j) ?_)
  | ((with_reducible apply aC.bE (.buildSlice _ 0 #[]) none); first | refine ec (O.wl) ?_)
  | ((with_reducible apply aC.bE (.makeFunc _ _ _) none); first | refine ec (O.EW rfl) ?_)
  | ((with_reducible apply aC.bE (.slice _ _ _ _ _) none); first | refine aW h λx j h=>ec (O.ti .q .q .q iG.p j) ?_ | refine aW h λx j h=>ec (O.CX .q .q iG.p j) ?_ | refine aW h λx j h=>ec (O.CY .q .q iG.p j) ?_ | refine aW h λx j h=>ec (O.FW j) ?_ | refine aW h λx j h=>ec (O.FU j) ?_ | refine aW h λx j h=>ec (O.FV j) ?_)
  | ((with_reducible apply aC.bE (.call { callee:=.builtin .len,args:=#[_],argTypes:=#[_] }) none); first | refine ec (O.jk .q dZ.p) ?_ | refine ec (O.n_ .q dZ.p) ?_ | refine ec (O.oU .q iG.p) ?_)
  | ((with_reducible apply aC.bE (.call { callee:=.builtin .append,args:=#[_,_],argTypes:=#[_,_] }) none); first | refine aW h λx j h=>ec (O.wp j) ?_ | refine aW h λx j h=>ec (O.FT j) ?_ | refine aW h λx j h=>ec (O.FG j) ?_ | refine aW h λx j h=>ec (O.wr j) ?_)
  | ((with_reducible apply aC.bE (.call { callee:=.value _,args:=_,argTypes:=_ }) none); first | (refine aW h λx j h=>K_ (dd.gr ?_ (bU.go j)) ?_; · (repeat' first | exact .nil | refine .dx .q ?_)) | (refine aW h λx j h=>K_ (dd.mr rfl ?_ (bU.go j)) ?_; · (repeat' first | exact .nil | refine .s ?_ | refine .c (View.pJ rfl rfl) ?_ | refine .c (.row rfl) ?_ | refine .c (View.nR ?_) ?_ | refine .c (View.cl ?_) ?_)) | (refine aW h λx j h=>QR (bU.go j) rfl rfl rfl rfl rfl (by repeat' first | exact .nil | refine .b rfl ?_ | refine .n rfl ?_) ?_))
  | ((with_reducible apply aC.bE (.buildSlice _ _ _) none); first | refine Q4 h ?_ | refine Q5 rfl ?_ | refine Q6 rfl ?_ | refine La [_] rfl ?_ | refine La [_,_] rfl ?_)
  | ((with_reducible apply aC.bE (.assign _) none); refine Q7 rfl rfl rfl ?_)
  | ((with_reducible apply aC.bE (.move _) none); refine Q8 rfl rfl rfl ?_)
  | ((with_reducible apply aC.bE (.move _) none); first | refine Gj rfl rfl (O.a8 .q) ?_)
  | ((with_reducible apply aC.bE (.assign (.const _)) none); first | refine Gj rfl rfl (O.dG .q) ?_)
  | ((with_reducible apply aC.bE (.assign (.tmp _)) none); first | refine Gj rfl rfl (O.dG .zK) ?_)
  | ((with_reducible apply aC.bE (.assign (.tmp _)) none); refine QS rfl rfl (by first | exact hB.lk | exact hB.Au | exact hB.Dy | exact hB.nR .q (by repeat' first | exact e2.nil | (apply e2.f) | (apply e2.r rfl) | (apply e2.nR) | (apply e2.b rfl))) ?_))
 | ((with_reducible apply aC.ts); refine QT rfl rfl (by first | exact hB.ho | exact hB.o0 | exact hB.si | exact hB.sp | exact hB.th | exact hB.PC .q (by repeat' first | exact e2.nil | (apply e2.f) | (apply e2.r rfl) | (apply e2.nR) | (apply e2.b rfl))) ?_)
 | ((with_reducible apply aC.bE _ (some _)); first
  | refine qK ?_
  | refine QX ?_
  | ((with_reducible apply aC.bE (.move _) (some _)); first | refine ej (O.a8 .q) ?_)
  | ((with_reducible apply aC.bE (.assign (.const _)) (some _)); first | refine ej (O.dG .q) ?_)
  | ((with_reducible apply aC.bE (.assign (.tmp _)) (some _)); first | refine ej (O.dG .zK) ?_)
  | ((with_reducible apply aC.bE (.load _ _) (some _)); first | refine ej (O.gm) ?_ | refine ej (O.fi) ?_ | refine ej (O.wa) ?_ | refine ej (O.wb) ?_ | refine ej (O.FK) ?_ | refine ej (O.FP) ?_ | refine ej (O.F0) ?_)
  | ((with_reducible apply aC.bE (.fieldAddr _ _ _) (some _)); first | refine ej (O.zX) ?_ | refine ej (O.zY) ?_ | refine ej (O.wf) ?_)
  | ((with_reducible apply aC.bE (.indexAddr _ _ _) (some _)); first | refine aW h λx j h=>ej (O.FJ j) ?_ | refine aW h λx j h=>ej (O.gE j) ?_ | refine ej (O.eH) ?_ | refine ej (O.FQ) ?_)
  | ((with_reducible apply aC.bE (.binOp .add _ _ _ _) (some _)); first | refine ej (O.add .q .q) ?_ | refine aW h λx j h=>ej (O.cat .q .q j) ?_)
  | ((with_reducible apply aC.bE (.binOp .sub _ _ _ _) (some _)); first | refine ej (O.sub .q .q) ?_)
  | ((with_reducible apply aC.bE (.binOp .mul _ _ _ _) (some _)); first | refine ej (O.mul .q .q) ?_)
  | ((with_reducible apply aC.bE (.binOp .lss _ _ _ _) (some _)); first | refine ej (O.lss .q .q) ?_)
  | ((with_reducible apply aC.bE (.binOp .leq _ _ _ _) (some _)); first | refine ej (O.leq .q .q) ?_)
  | ((with_reducible apply aC.bE (.binOp .gtr _ _ _ _) (some _)); first | refine ej (O.gtr .q .q) ?_)
  | ((with_reducible apply aC.bE (.binOp .geq _ _ _ _) (some _)); first | refine ej (O.geq .q .q) ?_)
  | ((with_reducible apply aC.bE (.binOp .eql _ _ _ _) (some _)); first | refine ej (O.eql .q .q) ?_ | refine ej (O.nU .q .q) ?_ | refine ej (O.DO .q .q (by kernel_rfl)) ?_ | refine ej (O.oj) ?_)
  | ((with_reducible apply aC.bE (.binOp .neq _ _ _ _) (some _)); first | refine ej (O.neq .q .q) ?_ | refine ej (O.n' .q .q) ?_ | refine ej (O.wn) ?_)
  | ((with_reducible apply aC.bE (.binOp .quo _ _ _ _) (some _)); first | refine aW h λx j h=>ej (O.quo .q .q j) ?_ | refine aW h λx j h=>ej (O.pO .q .q j) ?_)
  | ((with_reducible apply aC.bE (.binOp .rem _ _ _ _) (some _)); first | refine aW h λx j h=>ej (O.rem .q .q j) ?_ | refine aW h λx j h=>ej (O.pP .q .q j) ?_)
  | ((with_reducible apply aC.bE (.unOp .not _ _) (some _)); first | refine ej (O.not .q) ?_)
  | ((with_reducible apply aC.bE (.unOp .neg _ _) (some _)); first | refine ej (O.neg .q) ?_)
  | ((with_reducible apply aC.bE (.pick _ _ _) (some _)); first | refine ej (O.ki .q (by first | rfl | assumption) .q) ?_ | refine ej (O.jl .q (by first | rfl | assumption) .q) ?_)
  | ((with_reducible apply aC.bE (.nilCheck _) (some _)); first | refine ej (O.eC .q) ?_ | refine ej (O.xp .q) ?_)
  | ((with_reducible apply aC.bE (.index _ _ _) (some _)); first | refine aW h λx j h=>ej (O.at' .q .q iG.p j) ?_)
  | ((with_reducible apply aC.bE (.extract _ _) (some _)); first | refine ej (O.FY) ?_)
  | ((with_reducible apply aC.bE (.convert _ _ _) (some _)); first | refine ej (O.FO) ?_ | refine ej (O.FN) ?_)
  | ((with_reducible apply aC.bE (.box _ _) (some _)); first | refine ej (O.FF) ?_)
  | ((with_reducible apply aC.bE (.alloc _) (some _)); first | refine ej (O.FL) ?_ | refine ej (O.FM) ?_)
  | ((with_reducible apply aC.bE (.build _ _) (some _)); first | refine ej (O.FX) ?_)
  | ((with_reducible apply aC.bE (.field _ _ _) (some _)); first | refine ej (O.wd) ?_)
  | ((with_reducible apply aC.bE (.makeSlice _ _ _) (some _)); first | refine aW h λx j h=>ej (O.FR j) ?_ | refine aW h λx j h=>ej (O.FZ j) ?_)
  | ((with_reducible apply aC.bE (.buildSlice _ 0 #[]) (some _)); first | refine ej (O.wl) ?_)
  | ((with_reducible apply aC.bE (.makeFunc _ _ _) (some _)); first | refine ej (O.EW rfl) ?_)
  | ((with_reducible apply aC.bE (.slice _ _ _ _ _) (some _)); first | refine aW h λx j h=>ej (O.ti .q .q .q iG.p j) ?_ | refine aW h λx j h=>ej (O.CX .q .q iG.p j) ?_ | refine aW h λx j h=>ej (O.CY .q .q iG.p j) ?_ | refine aW h λx j h=>ej (O.FW j) ?_ | refine aW h λx j h=>ej (O.FU j) ?_ | refine aW h λx j h=>ej (O.FV j) ?_)
  | ((with_reducible apply aC.bE (.call { callee:=.builtin .len,args:=#[_],argTypes:=#[_] }) (some _)); first | refine ej (O.jk .q dZ.p) ?_ | refine ej (O.n_ .q dZ.p) ?_ | refine ej (O.oU .q iG.p) ?_)
  | ((with_reducible apply aC.bE (.call { callee:=.builtin .append,args:=#[_,_],argTypes:=#[_,_] }) (some _)); first | refine aW h λx j h=>ej (O.wp j) ?_ | refine aW h λx j h=>ej (O.FT j) ?_ | refine aW h λx j h=>ej (O.FG j) ?_ | refine aW h λx j h=>ej (O.wr j) ?_)
  | ((with_reducible apply aC.bE (.call { callee:=.value _,args:=_,argTypes:=_ }) (some _)); first | (refine aW h λx j h=>KU (dd.gr ?_ (bU.go j)) ?_; · (repeat' first | exact .nil | refine .dx .q ?_)) | (refine aW h λx j h=>KU (dd.mr rfl ?_ (bU.go j)) ?_; · (repeat' first | exact .nil | refine .s ?_ | refine .c (View.pJ rfl rfl) ?_ | refine .c (.row rfl) ?_ | refine .c (View.nR ?_) ?_ | refine .c (View.cl ?_) ?_)))
  | refine GO h (λav h=>?_) (λav h=>?_))
 | ((with_reducible apply aC.nl); first | refine Gc rfl rfl ?_ | refine QU h (by (repeat' first | exact .nil | refine .n rfl ?_ | refine .w rfl rfl .pF ?_ | refine .w rfl rfl .pE ?_ | refine .w rfl rfl (jD.obj (by (repeat' first | exact .nil | refine .f ?_ | refine .o ?_ | refine .i ?_))) ?_)))
 | ((with_reducible apply cx.bE _ none); first
  | ((with_reducible apply cx.bE (.move _) none); first | refine ea (O.a8 .q) ?_)
  | ((with_reducible apply cx.bE (.assign (.const _)) none); first | refine ea (O.dG .q) ?_)
  | ((with_reducible apply cx.bE (.assign (.tmp _)) none); first | refine ea (O.dG .zK) ?_)
  | ((with_reducible apply cx.bE (.load _ _) none); first | refine ea (O.gm) ?_ | refine ea (O.fi) ?_ | refine ea (O.wa) ?_ | refine ea (O.wb) ?_ | refine ea (O.FK) ?_ | refine ea (O.FP) ?_ | refine ea (O.F0) ?_)
  | ((with_reducible apply cx.bE (.fieldAddr _ _ _) none); first | refine ea (O.zX) ?_ | refine ea (O.zY) ?_ | refine ea (O.wf) ?_)
  | ((with_reducible apply cx.bE (.indexAddr _ _ _) none); first | refine aW h λx j h=>ea (O.FJ j) ?_ | refine aW h λx j h=>ea (O.gE j) ?_ | refine ea (O.eH) ?_ | refine ea (O.FQ) ?_)
  | ((with_reducible apply cx.bE (.binOp .add _ _ _ _) none); first | refine ea (O.add .q .q) ?_ | refine aW h λx j h=>ea (O.cat .q .q j) ?_)
  | ((with_reducible apply cx.bE (.binOp .sub _ _ _ _) none); first | refine ea (O.sub .q .q) ?_)
  | ((with_reducible apply cx.bE (.binOp .mul _ _ _ _) none); first | refine ea (O.mul .q .q) ?_)
  | ((with_reducible apply cx.bE (.binOp .lss _ _ _ _) none); first | refine ea (O.lss .q .q) ?_)
  | ((with_reducible apply cx.bE (.binOp .leq _ _ _ _) none); first | refine ea (O.leq .q .q) ?_)
  | ((with_reducible apply cx.bE (.binOp .gtr _ _ _ _) none); first | refine ea (O.gtr .q .q) ?_)
  | ((with_reducible apply cx.bE (.binOp .geq _ _ _ _) none); first | refine ea (O.geq .q .q) ?_)
  | ((with_reducible apply cx.bE (.binOp .eql _ _ _ _) none); first | refine ea (O.eql .q .q) ?_ | refine ea (O.nU .q .q) ?_ | refine ea (O.DO .q .q (by kernel_rfl)) ?_ | refine ea (O.oj) ?_)
  | ((with_reducible apply cx.bE (.binOp .neq _ _ _ _) none); first | refine ea (O.neq .q .q) ?_ | refine ea (O.n' .q .q) ?_ | refine ea (O.wn) ?_)
  | ((with_reducible apply cx.bE (.binOp .quo _ _ _ _) none); first | refine aW h λx j h=>ea (O.quo .q .q j) ?_ | refine aW h λx j h=>ea (O.pO .q .q j) ?_)
  | ((with_reducible apply cx.bE (.binOp .rem _ _ _ _) none); first | refine aW h λx j h=>ea (O.rem .q .q j) ?_ | refine aW h λx j h=>ea (O.pP .q .q j) ?_)
  | ((with_reducible apply cx.bE (.unOp .not _ _) none); first | refine ea (O.not .q) ?_)
  | ((with_reducible apply cx.bE (.unOp .neg _ _) none); first | refine ea (O.neg .q) ?_)
  | ((with_reducible apply cx.bE (.pick _ _ _) none); first | refine ea (O.ki .q (by first | rfl | assumption) .q) ?_ | refine ea (O.jl .q (by first | rfl | assumption) .q) ?_)
  | ((with_reducible apply cx.bE (.nilCheck _) none); first | refine ea (O.eC .q) ?_ | refine ea (O.xp .q) ?_)
  | ((with_reducible apply cx.bE (.index _ _ _) none); first | refine aW h λx j h=>ea (O.at' .q .q iG.p j) ?_)
  | ((with_reducible apply cx.bE (.extract _ _) none); first | refine ea (O.FY) ?_)
  | ((with_reducible apply cx.bE (.convert _ _ _) none); first | refine ea (O.FO) ?_ | refine ea (O.FN) ?_)
  | ((with_reducible apply cx.bE (.box _ _) none); first | refine ea (O.FF) ?_)
  | ((with_reducible apply cx.bE (.alloc _) none); first | refine ea (O.FL) ?_ | refine ea (O.FM) ?_)
  | ((with_reducible apply cx.bE (.build _ _) none); first | refine ea (O.FX) ?_)
  | ((with_reducible apply cx.bE (.field _ _ _) none); first | refine ea (O.wd) ?_)
  | ((with_reducible apply cx.bE (.makeSlice _ _ _) none); first | refine aW h λx j h=>ea (O.FR j) ?_ | refine aW h λx j h=>ea (O.FZ j) ?_)
  | ((with_reducible apply cx.bE (.buildSlice _ 0 #[]) none); first | refine ea (O.wl) ?_)
  | ((with_reducible apply cx.bE (.makeFunc _ _ _) none); first | refine ea (O.EW rfl) ?_)
  | ((with_reducible apply cx.bE (.slice _ _ _ _ _) none); first | refine aW h λx j h=>ea (O.ti .q .q .q iG.p j) ?_ | refine aW h λx j h=>ea (O.CX .q .q iG.p j) ?_ | refine aW h λx j h=>ea (O.CY .q .q iG.p j) ?_ | refine aW h λx j h=>ea (O.FW j) ?_ | refine aW h λx j h=>ea (O.FU j) ?_ | refine aW h λx j h=>ea (O.FV j) ?_)
  | ((with_reducible apply cx.bE (.call { callee:=.builtin .len,args:=#[_],argTypes:=#[_] }) none); first | refine ea (O.jk .q dZ.p) ?_ | refine ea (O.n_ .q dZ.p) ?_ | refine ea (O.oU .q iG.p) ?_)
  | ((with_reducible apply cx.bE (.call { callee:=.builtin .append,args:=#[_,_],argTypes:=#[_,_] }) none); first | refine aW h λx j h=>ea (O.wp j) ?_ | refine aW h λx j h=>ea (O.FT j) ?_ | refine aW h λx j h=>ea (O.FG j) ?_ | refine aW h λx j h=>ea (O.Qj j) ?_)
  | ((with_reducible apply cx.bE (.call { callee:=.value _,args:=_,argTypes:=_ }) none); first | (refine aW h λx j h=>KN (dd.gr ?_ (bU.go j)) ?_; · (repeat' first | exact .nil | refine .dx .q ?_)) | (refine aW h λx j h=>KN (dd.mr rfl ?_ (bU.go j)) ?_; · (repeat' first | exact .nil | refine .s ?_ | refine .c (View.pJ rfl rfl) ?_ | refine .c (.row rfl) ?_ | refine .c (View.nR ?_) ?_ | refine .c (View.cl ?_) ?_)) | (refine aW h λx j h=>QK (bU.go j) rfl rfl rfl rfl rfl (by repeat' first | exact .nil | refine .b rfl ?_ | refine .n rfl ?_) ?_))
  | ((with_reducible apply cx.bE (.buildSlice _ _ _) none); first | refine QI h ?_ | refine QJ rfl ?_ | refine QM rfl ?_ | refine QP [_,_] rfl ?_ | refine KO [_] rfl ?_ | refine KO [_,_] rfl ?_)
  | ((with_reducible apply cx.bE (.assign _) none); refine QL rfl rfl (by first | exact hB.lk | exact hB.Au | exact hB.Dy | exact hB.Ri | exact hB.nR .q (by repeat' first | exact e2.nil | (apply e2.f) | (apply e2.r rfl) | (apply e2.nR) | (apply e2.b rfl))) ?_))
 | ((with_reducible apply cx.ts); refine QN rfl rfl (by first | exact hB.ho | exact hB.o0 | exact hB.si | exact hB.sp | exact hB.th | exact hB.PC .q (by repeat' first | exact e2.nil | (apply e2.f) | (apply e2.r rfl) | (apply e2.nR) | (apply e2.b rfl))) ?_)
 | ((with_reducible apply cx.bE _ (some _)); first
  | refine QO ?_
  | refine QQ ?_
  | ((with_reducible apply cx.bE (.move _) (some _)); first | refine ei (O.a8 .q) ?_)
  | ((with_reducible apply cx.bE (.assign (.const _)) (some _)); first | refine ei (O.dG .q) ?_)
  | ((with_reducible apply cx.bE (.assign (.tmp _)) (some _)); first | refine ei (O.dG .zK) ?_)
  | ((with_reducible apply cx.bE (.load _ _) (some _)); first | refine ei (O.gm) ?_ | refine ei (O.fi) ?_ | refine ei (O.wa) ?_ | refine ei (O.wb) ?_ | refine ei (O.FK) ?_ | refine ei (O.FP) ?_ | refine ei (O.F0) ?_)
  | ((with_reducible apply cx.bE (.fieldAddr _ _ _) (some _)); first | refine ei (O.zX) ?_ | refine ei (O.zY) ?_ | refine ei (O.wf) ?_)
  | ((with_reducible apply cx.bE (.indexAddr _ _ _) (some _)); first | refine aW h λx j h=>ei (O.FJ j) ?_ | refine aW h λx j h=>ei (O.gE j) ?_ | refine ei (O.eH) ?_ | refine ei (O.FQ) ?_)
  | ((with_reducible apply cx.bE (.binOp .add _ _ _ _) (some _)); first | refine ei (O.add .q .q) ?_ | refine aW h λx j h=>ei (O.cat .q .q j) ?_)
  | ((with_reducible apply cx.bE (.binOp .sub _ _ _ _) (some _)); first | refine ei (O.sub .q .q) ?_)
  | ((with_reducible apply cx.bE (.binOp .mul _ _ _ _) (some _)); first | refine ei (O.mul .q .q) ?_)
  | ((with_reducible apply cx.bE (.binOp .lss _ _ _ _) (some _)); first | refine ei (O.lss .q .q) ?_)
  | ((with_reducible apply cx.bE (.binOp .leq _ _ _ _) (some _)); first | refine ei (O.leq .q .q) ?_)
  | ((with_reducible apply cx.bE (.binOp .gtr _ _ _ _) (some _)); first | refine ei (O.gtr .q .q) ?_)
  | ((with_reducible apply cx.bE (.binOp .geq _ _ _ _) (some _)); first | refine ei (O.geq .q .q) ?_)
  | ((with_reducible apply cx.bE (.binOp .eql _ _ _ _) (some _)); first | refine ei (O.eql .q .q) ?_ | refine ei (O.nU .q .q) ?_ | refine ei (O.DO .q .q (by kernel_rfl)) ?_ | refine ei (O.oj) ?_)
  | ((with_reducible apply cx.bE (.binOp .neq _ _ _ _) (some _)); first | refine ei (O.neq .q .q) ?_ | refine ei (O.n' .q .q) ?_ | refine ei (O.wn) ?_)
  | ((with_reducible apply cx.bE (.binOp .quo _ _ _ _) (some _)); first | refine aW h λx j h=>ei (O.quo .q .q j) ?_ | refine aW h λx j h=>ei (O.pO .q .q j) ?_)
  | ((with_reducible apply cx.bE (.binOp .rem _ _ _ _) (some _)); first | refine aW h λx j h=>ei (O.rem .q .q j) ?_ | refine aW h λx j h=>ei (O.pP .q .q j) ?_)
  | ((with_reducible apply cx.bE (.unOp .not _ _) (some _)); first | refine ei (O.not .q) ?_)
  | ((with_reducible apply cx.bE (.unOp .neg _ _) (some _)); first | refine ei (O.neg .q) ?_)
  | ((with_reducible apply cx.bE (.pick _ _ _) (some _)); first | refine ei (O.ki .q (by first | rfl | assumption) .q) ?_ | refine ei (O.jl .q (by first | rfl | assumption) .q) ?_)
  | ((with_reducible apply cx.bE (.nilCheck _) (some _)); first | refine ei (O.eC .q) ?_ | refine ei (O.xp .q) ?_)
  | ((with_reducible apply cx.bE (.index _ _ _) (some _)); first | refine aW h λx j h=>ei (O.at' .q .q iG.p j) ?_)
  | ((with_reducible apply cx.bE (.extract _ _) (some _)); first | refine ei (O.FY) ?_)
  | ((with_reducible apply cx.bE (.convert _ _ _) (some _)); first | refine ei (O.FO) ?_ | refine ei (O.FN) ?_)
  | ((with_reducible apply cx.bE (.box _ _) (some _)); first | refine ei (O.FF) ?_)
  | ((with_reducible apply cx.bE (.alloc _) (some _)); first | refine ei (O.FL) ?_ | refine ei (O.FM) ?_)
  | ((with_reducible apply cx.bE (.build _ _) (some _)); first | refine ei (O.FX) ?_)
  | ((with_reducible apply cx.bE (.field _ _ _) (some _)); first | refine ei (O.wd) ?_)
  | ((with_reducible apply cx.bE (.makeSlice _ _ _) (some _)); first | refine aW h λx j h=>ei (O.FR j) ?_ | refine aW h λx j h=>ei (O.FZ j) ?_)
  | ((with_reducible apply cx.bE (.buildSlice _ 0 #[]) (some _)); first | refine ei (O.wl) ?_)
  | ((with_reducible apply cx.bE (.makeFunc _ _ _) (some _)); first | refine ei (O.EW rfl) ?_)
  | ((with_reducible apply cx.bE (.slice _ _ _ _ _) (some _)); first | refine aW h λx j h=>ei (O.ti .q .q .q iG.p j) ?_ | refine aW h λx j h=>ei (O.CX .q .q iG.p j) ?_ | refine aW h λx j h=>ei (O.CY .q .q iG.p j) ?_ | refine aW h λx j h=>ei (O.FW j) ?_ | refine aW h λx j h=>ei (O.FU j) ?_ | refine aW h λx j h=>ei (O.FV j) ?_)
  | ((with_reducible apply cx.bE (.call { callee:=.builtin .len,args:=#[_],argTypes:=#[_] }) (some _)); first | refine ei (O.jk .q dZ.p) ?_ | refine ei (O.n_ .q dZ.p) ?_ | refine ei (O.oU .q iG.p) ?_)
  | ((with_reducible apply cx.bE (.call { callee:=.builtin .append,args:=#[_,_],argTypes:=#[_,_] }) (some _)); first | refine aW h λx j h=>ei (O.wp j) ?_ | refine aW h λx j h=>ei (O.FT j) ?_ | refine aW h λx j h=>ei (O.FG j) ?_ | refine aW h λx j h=>ei (O.Qj j) ?_)
  | ((with_reducible apply cx.bE (.call { callee:=.value _,args:=_,argTypes:=_ }) (some _)); first | (refine aW h λx j h=>KM (dd.gr ?_ (bU.go j)) ?_; · (repeat' first | exact .nil | refine .dx .q ?_)) | (refine aW h λx j h=>KM (dd.mr rfl ?_ (bU.go j)) ?_; · (repeat' first | exact .nil | refine .s ?_ | refine .c (View.pJ rfl rfl) ?_ | refine .c (.row rfl) ?_ | refine .c (View.nR ?_) ?_ | refine .c (View.cl ?_) ?_)))
  | refine GO h (λav h=>?_) (λav h=>?_))
 | ((with_reducible apply cx.nl); first | refine QH rfl rfl ?_ | refine QG h (by (repeat' first | exact .nil | refine .n rfl ?_ | refine .w rfl rfl .pF ?_ | refine .w rfl rfl .pE ?_ | refine .w rfl rfl (jD.obj (by (repeat' first | exact .nil | refine .f ?_ | refine .o ?_ | refine .i ?_))) ?_)))
 | ((with_reducible apply jU.dN); refine cv.dN rfl (by first | exact .w | exact .n | exact .c rfl .w rfl | exact .c rfl .n rfl) rfl rfl ?_)
 | ((with_reducible apply jU.sH); refine cv.sH rfl (by first | exact .w | exact .n | exact .c rfl .w rfl | exact .c rfl .n rfl) rfl rfl ?_)
 | ((with_reducible apply jU.eK); first | refine cv.eK h (λJ h=>?_) (λJ aj h=>?_) | refine cv.Y0 h (λJ h=>?_) (λJ aj h=>?_))
 | ((with_reducible apply jU.ca); first | refine cv.ca h (λJ h=>?_) (λJ aj h=>?_) | refine cv.Y1 h (λJ h=>?_) (λJ aj h=>?_))
 | ((with_reducible apply jU.rd); first | refine cv.rd ?_ | refine cv.YV ?_)
 | (with_reducible apply cv.rg)
 | (with_reducible apply cv.bY)
 | ((with_reducible apply jU.bj); first
  | refine cv.Xu h (λJ h=>?_) (λJ aj h=>?_)
  | refine cv.cd h (λav h=>?_) (λav h=>?_)
  | refine cv.ce h (λav h=>?_) (λav h=>?_)
  | refine cv.SD ?_
  | refine cv.SC ?_)
 | ((with_reducible apply jU.Jf); refine cv.Jf h (λJ h=>?_) (λJ aj h=>?_))
 | (with_reducible apply cv.wy)
 | (with_reducible apply cv.cT)
 | (with_reducible apply cv.dO)
 | (with_reducible apply cv.hA)
 | ((with_reducible apply cv.Y_); first
  | (refine cv.J0 h (by (repeat' first | exact .nil | refine .z rfl rfl ?_ ?_ | exact .refl | exact .Ca | exact gO.vw | refine fm.obj ?_ | refine .f ?_ | refine .o ?_ | refine .z ?_)) (by (repeat' first | exact .nil | refine .n rfl ?_ | refine .w rfl rfl .pF ?_ | refine .w rfl rfl .pE ?_ | refine .w rfl rfl (jD.obj (by (repeat' first | exact .nil | refine .f ?_ | refine .o ?_ | refine .i ?_))) ?_)))
  | (cases h; refine cv.iq rfl (by (repeat' first | exact .nil | refine .z rfl rfl ?_ ?_ | exact .refl | exact .Ca | exact gO.vw | refine fm.obj ?_ | refine .f ?_ | refine .o ?_ | refine .z ?_)) ?_; exact eb.ek)
  | refine cv.JV ?_)
 | (with_reducible apply eb.bY)
 | (with_reducible apply eb.hy)
 | (with_reducible apply eb.kH)
 | (with_reducible apply eb.cT)
 | (with_reducible apply eb.hs)
 | (with_reducible apply eb.qS)
 | ((with_reducible apply jU.RZ); refine eb.Gy ?_)
 | ((with_reducible apply jU.YD); first
  | refine eb.go h (by (repeat' first | exact .nil | refine .n rfl ?_ | refine .w rfl rfl .pF ?_ | refine .w rfl rfl .pE ?_ | refine .w rfl rfl (jD.obj (by (repeat' first | exact .nil | refine .f ?_ | refine .o ?_ | refine .i ?_))) ?_))
  | refine eb.bc h (by (repeat' first | exact .nil | refine .n rfl ?_ | refine .w rfl rfl .pF ?_ | refine .w rfl rfl .pE ?_ | refine .w rfl rfl (jD.obj (by (repeat' first | exact .nil | refine .f ?_ | refine .o ?_ | refine .i ?_))) ?_))
  | refine eb.x2 h (by (repeat' first | exact .nil | refine .n rfl ?_ | refine .w rfl rfl .pF ?_ | refine .w rfl rfl .pE ?_ | refine .w rfl rfl (jD.obj (by (repeat' first | exact .nil | refine .f ?_ | refine .o ?_ | refine .i ?_))) ?_))
  | refine eb.j2 h (by (repeat' first | exact .nil | refine .n rfl ?_ | refine .w rfl rfl .pF ?_ | refine .w rfl rfl .pE ?_ | refine .w rfl rfl (jD.obj (by (repeat' first | exact .nil | refine .f ?_ | refine .o ?_ | refine .i ?_))) ?_)))
 | ((with_reducible apply jU.YG); refine eb.cN h (by (repeat' first | exact .nil | refine .n rfl ?_ | refine .w rfl rfl .pF ?_ | refine .w rfl rfl .pE ?_ | refine .w rfl rfl (jD.obj (by (repeat' first | exact .nil | refine .f ?_ | refine .o ?_ | refine .i ?_))) ?_)))
 | ((with_reducible apply jU.ey); first
  | refine cv.ey h (λs o h=>?_) (λr ah h=>?_)
  | refine cv.gf h (λs o h=>?_) (λr h=>?_) (λr h=>?_))
 | ((with_reducible apply jU.rg); with_reducible apply cv.rt)
 | ((with_reducible apply jU.YC); cases h; first | exact eb.ek | exact eb.fn)
 | refine GO h (λav h=>?_) (λav h=>?_)))):p:=h
class yq (P:Program) (N:cP) (Φ:Exit->aI->Prop) (rs:outParam (List ResultVar)) (n:outParam Nat) (outs:outParam (List (Option ab))) (res:outParam ab):Prop where p:∀ g,pZ P N rs n outs res .ret g->Φ .ret g
instance:yq P N (pZ P N rs n outs res) rs n outs res:=⟨λ_ h=>h⟩
instance {Ψ:aI->Prop}{Φ:Exit->aI->Prop} [h:yq P N Φ rs n outs res]:yq P N (o1 Ψ Φ) rs n outs res:=⟨λg bD=>h.p g bD⟩
instance {id:Nat}{Φ:Exit->aI->Prop} [h:yq P N Φ rs n outs res]:yq P N (lS id Φ) rs n outs res:=⟨λg bD=>h.p g bD⟩
class yp {S R gG:Type}(Φ:Exit->aI->Prop) (F:outParam (S->List (Nat × ab))) (id:outParam Nat) (X:outParam (R->List (Nat × ab))) (Y:outParam (gG->List (Nat × ab))) (o:outParam (S ⊕ (R ⊕ gG))):Prop where p:∀ g,kP F (Aj id X Y) o .ret g->Φ .ret g
section
variable {S R gG:Type}{F:S->List (Nat × ab)}{id:Nat}{X:R->List (Nat × ab)}{Y:gG->List (Nat × ab)}{o:S ⊕ (R ⊕ gG)}{Φ:Exit->aI->Prop}
instance:yp (kP F (Aj id X Y) o) F id X Y o:=⟨λ_ h=>h⟩
instance {Ψ:aI->Prop} [h:yp Φ F id X Y o]:yp (o1 Ψ Φ) F id X Y o:=⟨λg bD=>h.p g bD⟩
instance {i:Nat} [h:yp Φ F id X Y o]:yp (lS i Φ) F id X Y o:=⟨λg bD=>h.p g bD⟩
theorem cv.J0 {v:gG} [aY:yp Φ F id X Y o] (h:some (.inr (.inr v))=some o) (aT:nQ ((Y v).map Prod.fst) (get G) (get (Y v)) (Y v)) (ar:Trim true (get (Y v)) (get (Y v)) (Y v)):cv E t P N .ret G Φ:=by
 cases h;exact W.dN _ aT (W.rt λg av=>aY.p g (aJ.j2 ar g av))
end
def YZ:ResultVar->ab->Option (Nat × ab)
 | .tmp t,x=>some (t,x)
 | .cell s _,.agg cs=>some (s,.obj cs)
 | _,_=>none
def JY:List ResultVar->List ab->List (Nat × ab)->Option (List (Nat × ab))
 | [],[],T=>some T
 | r::rs,x::xs,T=>match JY rs xs T,YZ r x with
  | some l,some p=>some (p::l)
  | _,_=>none
 | _,_,_=>none
def JH:List Nat->List (Option ab)->Option (List (Nat × ab))
 | _,[]=>some []
 | J::dW,none::l=>JH dW l
 | J::dW,some x::l=>match JH dW l with
  | some r=>some ((J,x)::r)
  | none=>none
 | _,_=>none
def YY (rs:List ResultVar) (outs:List (Option ab)) (res:ab):Option (List (Nat × ab)) :=
 match JH num outs with
 | none=>none
 | some T=>match rs,res with
  | [r],x=>JY [r] [x] T
  | rs,.bJ xs=>JY rs xs T
  | _,_=>none
theorem gO.vw {x y:ab} [aA:b3 x] [hv:iM x y]:gO x y:=.oS aA.bg (hv.v _)
inductive qI {α:Type}(en:bA α):Option Nat->ab->ab->Prop
 | w {DN:bA α}{L:List α} [h:iM (aq DN L) (ao en L)]:qI en none (aq DN L) (ao en L)
 | n [h:iM .aU (ao en ([]:List α))]:qI en none .aU (ao en ([]:List α))
 | c {i:Nat}{cs cs':List ab}{x y:ab}(j:cs[i]?=some x) (h:qI en none x y) (he:oZ cs i [y]=some cs'):qI en (some i) (.obj cs) (.obj cs')
theorem qI.one {α:Type}{en:bA α}{x y:ab}(h:qI en none x y):gO x y/\mS y:=by
 cases h with
 | @w DN L h=>exact ⟨.oS (.own (pQ DN L)) (h.v _),⟨by intro _ _ _ _ _ e; cases e⟩⟩
 | @n h=>exact ⟨.oS .aU (h.v _),⟨by intro _ _ _ _ _ e; cases e⟩⟩
theorem qI.dN {α:Type}{en:bA α}{i:Option Nat}{x y:ab}(h:qI en i x y):gO x y/\mS y:=by
 cases h with
 | w=>exact qI.one .w
 | n=>exact qI.one .n
 | @c i cs cs' x y j h he =>
  obtain ⟨h1,af⟩:=lF he;subst h1;refine ⟨.obj (by simp [eP] at af ⊢; omega) λk a b aQ av=>?_,⟨by simp⟩⟩;unfold eP at av;simp only [List.length_singleton] at af av;by_cases hk:k<i
  ·rw [List.append_assoc,List.getElem?_append_left (by simp; omega),List.getElem?_take,if_pos hk,aQ] at av;cases av; exact .refl
  ·by_cases fL:k=i
   ·subst fL;rw [List.append_assoc,List.getElem?_append_right (by rw [List.length_take]; exact Nat.min_le_left _ _),List.length_take,Nat.min_eq_left (by omega),Nat.sub_self] at av;simp at av;subst av;rw [j] at aQ; cases aQ;exact h.one.1
   ·rw [List.getElem?_append_right (by simp; omega)] at av;simp only [List.length_append,List.length_take,List.length_singleton,List.getElem?_drop] at av;rw [show i+1+(k - (min i cs.length+1))=k by omega,aQ] at av;cases av; exact .refl
theorem JR {g g2:aI}{s:Nat}:∀ {ks:List Nat}{G1:List (Nat × ab)},pick g ks=some G1->(ks.all λk=>![s].elem k)=true->(∀ e∈G1,cA e.2)->nQ [s] g g2 G1
 | [],_,h,_,_=>by cases h; exact .nil
 | k::ks,G1,h,he,aA=>by
  obtain ⟨x,l,j,ai,rfl⟩:=CI h;rw [List.all_cons,Bool.and_eq_true] at he;have:b3 x:=⟨aA (k,x) (by simp)⟩;exact .n (by simpa using he.1) j (JR ai he.2 λe h=>aA e (by simp [h]))
def Xs (id:Nat):Code->Bool
 | .seq (.region k _ _) _=>Nat.beq k id
 | .region k _ _=>Nat.beq k id
 | _=>false
theorem cv.dN {α:Type}{en:bA α}{id s:Nat}{i:Option Nat}{B:Code}{Φ:Exit->aI->Prop}{x y:ab}{ks:List Nat}{h8:List (Nat × ab)}(aw:get G s=some x) (ak:qI en i x y) (hk:s6 [s] G=some ks) (ar:pick (get G) ks=some h8) (h:cv E t P N B ((s,y)::h8) Φ) (hid:Xs id B=true:=by rfl) (cy:(ks.all λk=>![s].elem k)=true:=by rfl) [j:b3 x] [aA:ib h8]:cv E (.dN id s i en t) P N B G Φ :=
 have:=ak.dN.2
 W.dN [s] (.z (by simp) aw ak.dN.1 (JR ar cy aA.p)) h
theorem cv.sH {α:Type}{en:bA α}{s:Nat}{i:Option Nat}{c:Code}{Φ:Exit->aI->Prop}{x y:ab}{ks:List Nat}{h8:List (Nat × ab)}(aw:get G s=some x) (ak:qI en i x y) (hk:s6 [s] G=some ks) (ar:pick (get G) ks=some h8) (h:cv E t P N (.loop c) ((s,y)::h8) Φ) (cy:(ks.all λk=>![s].elem k)=true:=by rfl) [j:b3 x] [aA:ib h8]:cv E (.sH s i en t) P N (.loop c) G Φ :=
 have:=ak.dN.2
 W.dN [s] (.z (by simp) aw ak.dN.1 (JR ar cy aA.p)) h
theorem cv.iq {Φ:Exit->aI->Prop}{G1:List (Nat × ab)} [aY:yq P N Φ rs n outs res] (c9:YY rs outs res=some G1) (aT:nQ (G1.map Prod.fst) (get G) (get G1) G1) (ar:eb E t .ret (pZ P N rs n outs res) G1):cv E t P N .ret G Φ :=
 W.dN _ aT (W.rt λg av=>aY.p g (ar g av))
def E8:List Nat->Nat->List ab->Option (List (Nat × ab))
 | _,_,[]=>some []
 | [],_,_::_=>none
 | J::dW,k,x::l=>match E8 dW (k+1) l with
  | none=>none
  | some r=>match s9 x,Nat.beq J k with
   | some y,true=>some ((J,y)::r)
   | _,_=>none
theorem Ol:∀ {l:List ab}{dW:List Nat}{k:Nat}{r:List (Nat × ab)},E8 dW k l=some r->xt k l=r
 | [],dW,k,r,h=>by cases dW <;> (cases h; rfl)
 | x::l,[],k,r,h=>by cases h
 | x::l,J::dW,k,r,h=>by
  unfold E8 at h
  split at h
  ·cases h
  ·rename_i cK ah
   split at h
   ·rename_i y ak aj;cases h; rw [<- Ol ah,<- vN ak,Nat.eq_of_beq_eq_true aj]; rfl
   ·cases h
def lits:List Nat:=[0,1,2,3,4,5,6,7,8,9,10,11,12]
theorem b7.bS {f:FuncId}{fn:Func}{c:Code}{args:List ab}{outs:List (Option ab)}{res:ab}(E:List Nat) (t:lb) (aS:P.funcs[f]?=some fn) (av:fn.body=some c) (a7:fn.ntmps=N.size) (aQ:Nat.ble args.length N.size=true) (hlen:outs.length=args.length) (c9:E8 lits 0 args=some G) (hw:cv E t P N c G (pZ P N fn.results.toList args.length outs res)):b7 P f args outs res:=b7.go aS av a7 aQ hlen (W.fin (by rw [Ol c9]; exact hw))
end
end Go.Own
namespace Go.Own
open Go
set_option linter.unusedSectionVars false
variable [cE]
section
variable {P:Program}{N:cP}{ops:Array Oper}{a':List (List Nat)}{acc:Acc}{l:List Oper}{K:aI->Prop}{i d:Nat}
theorem bH.Ly (bw:Nat) {G G2:List (Nat × ab)}{o:Oper}{x:ab}(he:iv P N (c0 (get G) (λm=>(a'.getD bw []).contains m) acc) o (cH (get G2) d x)) (aK:o.guard=none) (gv:B' (acc.filterMap jL)=true) (fA:lW G=true) (aj:Nat.beq ops.size (bw+l.length+1)=true)
  (fw:acc.filter (λe=>!(a'.getD bw []).contains e.1)=[])
  (av:(List.range ops.size).all (λk=>Nat.ble k bw||(a'.getD k []).contains bw)=true) (hk:bH P N ops a' (get ((d,x)::G2)) (bw+1) [] l K):bH P N ops a' (get G) i acc (o::l) K :=
 .mz bw (sI ▸ he) aK gv fA aj fw av hk
end
end Go.Own
namespace Go.Own
open Go Go.Proofs Go.Shelf Go.Lib Go.Sort
set_option linter.unusedSectionVars false
variable [cE]
def AN:Nat->Nat->List UInt8
 | 0,_=>[]
 | k+1,u=>if u<10 then [UInt8.ofNat (48+u)] else AN k (u / 10)++[UInt8.ofNat (48+u % 10)]
omit [cE] in
theorem G0:∀ (k u:Nat),u<10 ^ k->0<k->AN k u=decDigits u
 | 0,_,_,h=>absurd h (by omega)
 | k+1,u,h,_=>by
  rw [AN,decDigits];by_cases hu:u<10
  ·rw [if_pos hu,dif_pos hu]
  ·rw [if_neg hu,dif_neg hu];have hk:0<k:=by
    rcases Nat.eq_zero_or_pos k with rfl | hk
    ·simp at h; omega
    ·exact hk
   rw [G0 k (u / 10) (by rw [Nat.pow_succ] at h; omega) hk]
def k1 (n:Int):List UInt8:=if n<0 then 45::AN 20 n.natAbs else AN 20 n.toNat
omit [cE] in
theorem I8 {n:Int}(h:-9223372036854775808<=n/\n<=9223372036854775807):k1 n=Lib.itoa n:=by
 unfold k1 Lib.itoa;split
 ·rw [G0 20 _ (by omega) (by omega)]
 ·rw [G0 20 _ (by omega) (by omega)]
def s5 (n:Int):Option ByteArray:=if -9223372036854775808<=n/\n<=9223372036854775807 then some ⟨(k1 n).toArray⟩ else none
theorem TI {w:World}{k:Nat}{os:Array Obj}{U:a_}:Fr w (grow (w.drewN k) os) U:=by
 refine ⟨rfl,rfl,rfl,?_,λc aa _=>?_,λa aQ _=>?_,Nat.le_add_right _ _⟩
 ·rw [size_grow]; exact Nat.le_add_right _ _
 ·exact heap_grow_old _ _ aa
 ·exact (frozen?_grow (w.drewN k) os a aQ).trans rfl
theorem b7.plain {P:Program}{f:FuncId}{args:List ab}{r:Value}(ah:r.oneCell'=true)
  (h:∀ (w:World) (I:a_) (vs:List Value) (Fs:Nat->a_),vs.length=args.length->cB w I vs.toArray (pg args) Fs->Calls P f vs.toArray w λe w'=>e=.returned r/\∃ k os,w'=grow (w.drewN k) os) :
  b7 P f args (args.map λ_=>none) (.lit r):=by
 refine ⟨by simp,λw I vs Fs ai bh=>?_⟩;refine (h w I vs Fs ai bh).mono ?_;rintro e w' ⟨rfl,k,os,rfl⟩;have aS:Fr w (grow (w.drewN k) os) (λ_=>False):=TI;have oO:∀ t x,lX (args.map λ_=>none) (.lit r) t=some x->t=args.length/\x=.lit r:=by
  intro t x j;unfold lX at j
  split at j
  ·rename_i al; cases j; exact ⟨by simpa using al,rfl⟩
  ·rw [List.getElem?_map] at j;cases aQ:args[t]? with
   | none=>rw [aQ] at j; cases j
   | some y=>rw [aQ] at j; cases j
 refine ⟨r,I,λ_=>cr,rfl,⟨λt x j=>?_,λ_ _ _ h=>h,λ_ _ _ h=>h.elim,λ_ _ h=>h.elim,λc aa=>Nat.lt_of_lt_of_le (bh.lt c aa) aS.size,λt t' z p n m new br cf bd cO h1 _=>?_,cE.keep bh.gl (λc aa=>aS.block c (bh.lt c aa) λh=>h) λ_ h=>h⟩,⟨aS.mono λ_ _ h=>h.elim,λ_ h=>h,λ_ h=>.inl h,λ_ ⟨_,h⟩=>h.elim⟩⟩
 ·obtain ⟨rfl,rfl⟩:=oO t x j;exact ⟨r,by rw [List.getElem?_toArray,<- ai]; simp,.tree (.lit ah λ_ h=>h)⟩
 ·have:=(oO t _ h1).2;cases this
theorem b7.itoa {P : Program} {ρ : Ren} (L : LaysM.n171 P ρ) (al : ∀ (w : World) (I : a_), cE.q w I -> Lib.TabIs P w "internal/strconv.uint64pow10" .u64 Lib.pow10Tab) {n : Int} {r : ByteArray} (h : s5 n = some r) : b7 P (ρ.f 171) [ae n] [none] (ax r) := by
 unfold s5 at h
 split at h <;> cases h
 rename_i aA;rw [I8 aA];refine b7.plain (args:=[ae n]) rfl λw I vs Fs ai bh=>?_
 match vs,ai with
 | [v0],_ =>
 obtain ⟨P_,BF,fQ⟩:=bh.rel 0 _ rfl;cases BF;have hv:=(fQ.gV (by simp)).h2.1;subst hv;exact Any.strconv_Itoa L n aA.1 aA.2 w (al w I bh.gl)
end Go.Own
namespace Go.Proofs
open Tryz
open Go Go.Shelf Go.RowKit Go.Lib Go.Own
def Tryz.N2:Go.Shelf.Ren:=⟨fun | 169=>21 | n=>n,fun | 70=>72 | 9=>9 | 0=>0 | 72=>74 | 37=>60 | 127=>98 | 3=>3 | 5=>5 | n=>n,fun | n=>n⟩
theorem Tryz.Xz:Go.Proofs.Lays.n169 prog Tryz.N2:={
 mixed:=by kernel_rfl
 f169:=func21.trans (congrArg some (by kernel_rfl))
 t0:=Tryz.underlying0
 a0:=Tryz.isAgg0
 z0:=Tryz.sizeOf0
 v0:=Tryz.zeroValue0
 t3:=Tryz.underlying3
 a3:=Tryz.isAgg3
 z3:=Tryz.sizeOf3
 v3:=Tryz.zeroValue3
 t9:=Tryz.underlying9
 a9:=Tryz.isAgg9
 z9:=Tryz.sizeOf9
 v9:=Tryz.zeroValue9
 t37:=Tryz.underlying60
 a37:=Tryz.isAgg60
 z37:=Tryz.sizeOf60
 v37:=Tryz.zeroValue60
 t70:=Tryz.underlying72
 a70:=Tryz.isAgg72
 z70:=Tryz.sizeOf72
 v70:=Tryz.zeroValue72
 t72:=Tryz.underlying74
 a72:=Tryz.isAgg74
 z72:=Tryz.sizeOf74
 v72:=Tryz.zeroValue74
 t127:=Tryz.underlying98
 a127:=Tryz.isAgg98
 z127:=Tryz.sizeOf98
 v127:=Tryz.zeroValue98 }
def Tryz.XB:Go.Shelf.Ren:=⟨fun | 171=>20 | 243=>36 | 246=>48 | 283=>62 | 284=>63 | 285=>64 | 286=>65 | 129=>77 | 317=>76 | 318=>78 | 319=>79 | 320=>80 | 337=>97 | 338=>98 | n=>n,fun | 3=>3 | 9=>9 | 2=>2 | 4=>4 | 171=>151 | 0=>0 | 53=>97 | 37=>60 | 5=>5 | 173=>154 | 212=>182 | 51=>183 | 20=>20 | 213=>184 | 46=>186 | 232=>223 | 233=>224 | n=>n,fun | 17=>0 | 18=>1 | 19=>2 | n=>n⟩
theorem Tryz.XA:Go.Proofs.LaysM.n171 prog Tryz.XB:={
 mixed:=by kernel_rfl
 f129:=func77.trans (congrArg some (by kernel_rfl))
 f171:=func20.trans (congrArg some (by kernel_rfl))
 f243:=func36.trans (congrArg some (by kernel_rfl))
 f246:=func48.trans (congrArg some (by kernel_rfl))
 f283:=func62.trans (congrArg some (by kernel_rfl))
 f284:=func63.trans (congrArg some (by kernel_rfl))
 f285:=func64.trans (congrArg some (by kernel_rfl))
 f286:=func65.trans (congrArg some (by kernel_rfl))
 f317:=func76.trans (congrArg some (by kernel_rfl))
 f318:=func78.trans (congrArg some (by kernel_rfl))
 f319:=func79.trans (congrArg some (by kernel_rfl))
 f320:=func80.trans (congrArg some (by kernel_rfl))
 f337:=func97.trans (congrArg some (by kernel_rfl))
 f338:=func98.trans (congrArg some (by kernel_rfl))
 t0:=Tryz.underlying0
 a0:=Tryz.isAgg0
 z0:=Tryz.sizeOf0
 v0:=Tryz.zeroValue0
 t2:=Tryz.underlying2
 a2:=Tryz.isAgg2
 z2:=Tryz.sizeOf2
 v2:=Tryz.zeroValue2
 t3:=Tryz.underlying3
 a3:=Tryz.isAgg3
 z3:=Tryz.sizeOf3
 v3:=Tryz.zeroValue3
 t4:=Tryz.underlying4
 a4:=Tryz.isAgg4
 z4:=Tryz.sizeOf4
 v4:=Tryz.zeroValue4
 t5:=Tryz.underlying5
 a5:=Tryz.isAgg5
 z5:=Tryz.sizeOf5
 v5:=Tryz.zeroValue5
 t9:=Tryz.underlying9
 a9:=Tryz.isAgg9
 z9:=Tryz.sizeOf9
 v9:=Tryz.zeroValue9
 t20:=Tryz.underlying20
 a20:=Tryz.isAgg20
 z20:=Tryz.sizeOf20
 v20:=Tryz.zeroValue20
 t37:=Tryz.underlying60
 a37:=Tryz.isAgg60
 z37:=Tryz.sizeOf60
 v37:=Tryz.zeroValue60
 t46:=Tryz.underlying186
 a46:=Tryz.isAgg186
 z46:=Tryz.sizeOf186
 v46:=Tryz.zeroValue186
 t51:=Tryz.underlying183
 a51:=Tryz.isAgg183
 z51:=Tryz.sizeOf183
 v51:=Tryz.zeroValue183
 t53:=Tryz.underlying97
 a53:=Tryz.isAgg97
 z53:=Tryz.sizeOf97
 v53:=Tryz.zeroValue97
 t171:=Tryz.underlying151
 a171:=Tryz.isAgg151
 z171:=Tryz.sizeOf151
 v171:=Tryz.zeroValue151
 t173:=Tryz.underlying154
 a173:=Tryz.isAgg154
 z173:=Tryz.sizeOf154
 v173:=Tryz.zeroValue154
 t212:=Tryz.underlying182
 a212:=Tryz.isAgg182
 z212:=Tryz.sizeOf182
 v212:=Tryz.zeroValue182
 t213:=Tryz.underlying184
 a213:=Tryz.isAgg184
 z213:=Tryz.sizeOf184
 t232:=Tryz.underlying223
 a232:=Tryz.isAgg223
 z232:=Tryz.sizeOf223
 v232:=Tryz.zeroValue223
 t233:=Tryz.underlying224
 a233:=Tryz.isAgg224
 z233:=Tryz.sizeOf224
 v233:=Tryz.zeroValue224
 g17:=by kernel_rfl
 g18:=by kernel_rfl
 g19:=by kernel_rfl
 i0:=by kernel_rfl
 i2:=by kernel_rfl
 i3:=by kernel_rfl
 i4:=by kernel_rfl
 i5:=by kernel_rfl
 i9:=by kernel_rfl
 i20:=by kernel_rfl
 i37:=by kernel_rfl
 i46:=by kernel_rfl
 i51:=by kernel_rfl
 i53:=by kernel_rfl
 i171:=by kernel_rfl
 i173:=by kernel_rfl
 i212:=by kernel_rfl
 i232:=by kernel_rfl
 i233:=by kernel_rfl
 m17:=by kernel_rfl
 m18:=by kernel_rfl
 m19:=by kernel_rfl }
def Tryz.N1:Go.Shelf.Ren:=⟨fun | 240=>35 | 276=>47 | 166=>19 | n=>n,fun | 70=>72 | 9=>9 | 3=>3 | 75=>76 | 0=>0 | 72=>74 | 37=>60 | 4=>4 | 164=>120 | 20=>20 | 80=>79 | n=>n,fun | n=>n⟩
theorem Tryz.Xy:Go.Proofs.Lays.n166 prog Tryz.N1:={
 mixed:=by kernel_rfl
 f166:=func19.trans (congrArg some (by kernel_rfl))
 f240:=func35.trans (congrArg some (by kernel_rfl))
 f276:=func47.trans (congrArg some (by kernel_rfl))
 t0:=Tryz.underlying0
 a0:=Tryz.isAgg0
 z0:=Tryz.sizeOf0
 v0:=Tryz.zeroValue0
 t3:=Tryz.underlying3
 a3:=Tryz.isAgg3
 z3:=Tryz.sizeOf3
 v3:=Tryz.zeroValue3
 t4:=Tryz.underlying4
 a4:=Tryz.isAgg4
 z4:=Tryz.sizeOf4
 v4:=Tryz.zeroValue4
 t9:=Tryz.underlying9
 a9:=Tryz.isAgg9
 z9:=Tryz.sizeOf9
 v9:=Tryz.zeroValue9
 t20:=Tryz.underlying20
 a20:=Tryz.isAgg20
 z20:=Tryz.sizeOf20
 v20:=Tryz.zeroValue20
 t37:=Tryz.underlying60
 a37:=Tryz.isAgg60
 z37:=Tryz.sizeOf60
 v37:=Tryz.zeroValue60
 t70:=Tryz.underlying72
 a70:=Tryz.isAgg72
 z70:=Tryz.sizeOf72
 v70:=Tryz.zeroValue72
 t72:=Tryz.underlying74
 a72:=Tryz.isAgg74
 z72:=Tryz.sizeOf74
 v72:=Tryz.zeroValue74
 t75:=Tryz.underlying76
 a75:=Tryz.isAgg76
 z75:=Tryz.sizeOf76
 v75:=Tryz.zeroValue76
 t164:=Tryz.underlying120
 a164:=Tryz.isAgg120
 z164:=Tryz.sizeOf120
 v164:=Tryz.zeroValue120
}
theorem Tryz.RR:Builder.Extra prog Tryz.N1 where
 sizeBuilder:=by kernel_rfl
 liesBuilder:=by kernel_rfl
 t5:=Tryz.underlying5
 a5:=Tryz.isAgg5
 z5:=Tryz.sizeOf5
 v5:=Tryz.zeroValue5
 infoByte:=by kernel_rfl
 cellsByte:=by kernel_rfl
 sizeByte:=by kernel_rfl
 neB5:=by decide
theorem Tryz.RS:Builder.Extra prog Tryz.N2 where
 sizeBuilder:=by kernel_rfl
 liesBuilder:=by kernel_rfl
 t5:=Tryz.underlying5
 a5:=Tryz.isAgg5
 z5:=Tryz.sizeOf5
 v5:=Tryz.zeroValue5
 infoByte:=by kernel_rfl
 cellsByte:=by kernel_rfl
 sizeByte:=by kernel_rfl
 neB5:=by decide
theorem Tryz.Ki : prog.globalNamed "internal/strconv.uint64pow10" = some 0 := by kernel_rfl
instance : cE := ⟨λw I => I 0 /\ Lib.TabIs prog w "internal/strconv.uint64pow10" .u64 Lib.pow10Tab, λ{w w' I I'} h av ba => ⟨ba _ h.1, by
 have af:=h.2;unfold Lib.TabIs World.var? at af ⊢;rw [Tryz.Ki] at af ⊢;simp only [Option.bind_some] at af ⊢;rw [av _ h.1];exact af⟩⟩
theorem Tryz.ZU (w : World) (I : a_) (h : cE.q w I) : Lib.TabIs prog w "internal/strconv.uint64pow10" .u64 Lib.pow10Tab := h.2
instance:KP prog 74 5:={}
instance {x s y:ByteArray}:bU prog 19 (mY x s=some y) [.obj [.self (0,74),.eY 5 (strCells x)],ax s] [some (.obj [.self (0,74),.eY 5 (strCells y)]),none] (.bJ [ae s.size,.lit .nilIface]):=⟨b7.mz Tryz.Xy Tryz.RR⟩
instance {x y:ByteArray}:bU prog 21 (wz x=some y) [.obj [.self (0,74),.eY 5 (strCells x)]] [some (.obj [.self (0,74),.dead])] (ax y):=⟨b7.bn Tryz.Xz Tryz.RS⟩
instance {n:Int}{r:ByteArray}:bU prog 20 (s5 n=some r) [ae n] [none] (ax r):=⟨b7.itoa (P:=prog) Tryz.XA Tryz.ZU⟩
end Go.Proofs
