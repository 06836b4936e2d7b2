/- Parts of the proof that the last text states. -/
import Derived.ChangeAt
import Derived.ChangeOld
import Derived.ChangeSame
import Derived.Deep.Draws
import Derived.Deep.LoopGhost
import Derived.Deep.Slices
import Derived.KernelRfl
import Derived.Laws.CopyRow
import Derived.Lib.SliceRun
import Derived.Lib.SlicesCompact
import Derived.Lib.Walk
import Derived.Maps.OwnIn
import Derived.ReadAgain
import Derived.RowKit3
import Derived.Shelf.RegionOpenPlain
import Derived.Shelf.SlLaysQ
import Derived.Shelf.SlSortCmp.NoneTotal
import Derived.Shelf.SlicesE.Kit
import Derived.Shelf.SlicesQ.Load
import Derived.Shelf.Strconv.Itoa3
import Derived.Shelf.Strings.BuilderK
import Derived.Sort.WalkB12
import Derived.StringKeys
import Derived.Test.YtejfkabkakfblaaGreatDoorRows
import Derived.WalkKit
import Derived.WideShapes
import Derived.Test.YtejfkabkakfblaaGreatDoorE2
namespace Go.Own
open Go Go.RowKit Go.ChangeShapes Go.WideShapes Go.Deep
set_option linter.unusedSectionVars false
variable [cH]
variable {α β K7:Type}{P:Program}
abbrev tv (w:World) (y:ab) (u:Value):Prop:=R w (λb=>b<w.heap.size) (λ_ _=>False) y u (λ_=>False)
def mc (w:World) (ys:List ab) (cs:List Value):Prop :=
 ys.length=cs.length/\∀ (k:Nat) (y:ab) (u:Value),ys[k]?=some y->cs[k]?=some u->u.oneCell'=true/\tv w y u
theorem mc.nil {w:World}:mc w [] []:=⟨rfl,λ_ _ _ h=>by simp at h⟩
theorem mc.one {w:World}{y:ab}{u:Value}(h1:u.oneCell'=true) (h:tv w y u):mc w [y] [u] :=
 ⟨rfl,λk y' wa al hu=>by
  cases k with
  | zero=>simp at al hu; subst al hu; exact ⟨h1,h⟩
  | succ k=>simp at al⟩
theorem mc.app {w:World}{ys yg:List ab}{cs jC:List Value}(h:mc w ys cs) (af:mc w yg jC):mc w (ys++yg) (cs++jC):=by
 refine ⟨by simp [h.1,af.1],λk y u al hu=>?_⟩;by_cases hk:k<ys.length
 ·rw [List.getElem?_append_left hk] at al;rw [List.getElem?_append_left (h.1 ▸ hk)] at hu;exact h.2 k y u al hu
 ·rw [List.getElem?_append_right (by omega)] at al;rw [List.getElem?_append_right (by have:=h.1; omega),<- h.1] at hu;exact af.2 _ y u al hu
structure hZ (P:Program) (e:bz α) (t:TypeId) (ok:α->Prop):Prop where
 z:P.cellsOf t=e.z
 go:∀ {H:Type}{enc:TypeId × Value->H}{w:World}{n:Nat}{cs:List Value}{x:DataW H × List MemPlace},
  DataW.trod enc P w 0 (λ_=>true) true n t cs=some x->∃ a,ok a/\mc w (e.cells a) cs
theorem hZ.int {e:bz Int}{t:TypeId}{k:IntKind}(ar:P.underlying t=some (.int k)) (aW:P.cellsOf t=e.z) (he:∀ n,e.cells n=[.lit (.int k n)]) :
  hZ P e t (λn=>(Lit.int k n).wf=true):=by
 refine ⟨aW,λh=>?_⟩;obtain ⟨n,rfl,_,hw⟩:=DataW.trod_int ar h;exact ⟨n,hw,he n ▸ mc.one rfl (.lit rfl λ_ h=>h)⟩
theorem hZ.bool {e:bz Bool}{t:TypeId}(ar:P.underlying t=some .bool) (aW:P.cellsOf t=e.z) (he:∀ n,e.cells n=[.lit (.bool n)]) :
  hZ P e t (λ_=>True):=by
 refine ⟨aW,λh=>?_⟩;obtain ⟨n,rfl,_⟩:=DataW.trod_bool ar h;exact ⟨n,trivial,he n ▸ mc.one rfl (.lit rfl λ_ h=>h)⟩
theorem hZ.str {e:bz ByteArray}{t:TypeId}(ar:P.underlying t=some .string) (aW:P.cellsOf t=e.z) (he:∀ n,e.cells n=[.lit (.string n)]) :
  hZ P e t (λs=>s.size<=maxLen):=by
 refine ⟨aW,λh=>?_⟩;obtain ⟨n,rfl,_,hw⟩:=DataW.trod_string ar h;exact ⟨n,hw,he n ▸ mc.one rfl (.lit rfl λ_ h=>h)⟩
theorem Px (e:bz α) (aW:0<e.z):∀ (l:List α) (k:Nat) (y:ab),(bp e l)[k]?=some y->∃ a,l[k / e.z]?=some a/\(e.cells a)[k % e.z]?=some y
 | [],k,y,h=>by simp [bp] at h
 | a::l,k,y,h=>by
  have he:bp e (a::l)=e.cells a++bp e l:=by simp [bp]
  rw [he] at h;by_cases hk:k<e.z
  ·rw [List.getElem?_append_left (by rw [e.len]; exact hk)] at h;exact ⟨a,by simp [Nat.div_eq_of_lt hk],by rw [Nat.mod_eq_of_lt hk]; exact h⟩
  ·rw [List.getElem?_append_right (by rw [e.len]; omega),e.len] at h;obtain ⟨b,h1,af⟩:=Px e aW l (k - e.z) y h;have aP:k / e.z=(k - e.z) / e.z+1:=by rw [Nat.div_eq_sub_div aW (by omega)]
   refine ⟨b,by rw [aP]; simpa using h1,?_⟩;rw [Nat.mod_eq_sub_mod (by omega)]; exact af
theorem hZ.slice {e:bz α}{t FK:TypeId}{ok:α->Prop}(h:hZ P e FK ok) (ar:P.underlying t=some (.slice FK)) (aW:P.cellsOf t=1) (sE:0<e.z) :
  hZ P (bG e) t (λl=>l.length<=maxLen/\∀ x∈l,ok x):=by
 classical
 refine ⟨aW,λ{H enc w n cs x} ah=>?_⟩;rcases open_slice ar ah with ⟨rfl,rfl⟩ | ⟨a,len,cap,m,cm,D,lP,rfl,av,ai,hm,IF,rfl,j⟩
 ·exact ⟨[],⟨by simp,by simp⟩,mc.one rfl (.hB λ_ h=>h)⟩
 ·have V7:m=cap:=by simpa using IF
  subst V7;have hex:∀ i,i<len->∃ q:α × List Value,ok q.1/\mc w (e.cells q.1) q.2/\w.cells? 0 (a.add (i * P.cellsOf FK)) (P.cellsOf FK)=some q.2:=λi hi=>by
   obtain ⟨cs',h1,af⟩:=j i (by omega);obtain ⟨b,oE,fH⟩:=h.go af;exact ⟨(b,cs'),oE,fH,h1⟩
  by_cases aO:len=0
  ·subst aO;exact ⟨[],⟨by simp,by simp⟩,mc.one rfl (.hB λ_ h=>h)⟩
  ·obtain ⟨C1,_⟩:=hex 0 (by omega)
   haveI:Inhabited (α × List Value):=⟨C1⟩
   obtain ⟨f,aS⟩:=choose_lt hex;have hlen:((List.range len).map λi=>(f i).1).length=len:=by simp
   have n2:∀ (i:Nat) (b:α),((List.range len).map λi=>(f i).1)[i]?=some b->i<len/\b=(f i).1:=λi b hi=>by
    have aQ:=(List.getElem?_eq_some_iff.1 hi).1;simp at aQ;simp [aQ] at hi;exact ⟨aQ,hi.symm⟩
   have mw:a.spot=none/\a.block<w.heap.size:=by
    obtain ⟨_,_,aK⟩:=aS 0 (by omega);obtain ⟨_,Iz,cu⟩:=World.cells?_some aK;have dM:=cu 0 (by rw [h.z]; exact sE);simp only [Nat.zero_mul,Addr.add,if_true] at dM;have:0<(f 0).2.length:=by rw [Iz,h.z]; exact sE
    rw [List.getElem?_eq_getElem this] at dM;unfold World.cell? at dM
    split at dM
    ·rename_i bH;refine ⟨?_,(Array.getElem?_eq_some_iff.1 bH).1⟩;cases az:a.spot with
     | none=>rfl
     | some s=>simp [az] at dM
    ·cases dM
   have key:∀ (k:Nat) (y:ab),(bp e ((List.range len).map λi=>(f i).1))[k]?=some y->∃ u,w.cell? ⟨a.block,a.off+k,none⟩=some u/\u.oneCell'=true/\tv w y u:=λk y hk=>by
    obtain ⟨b,oE,fH⟩:=Px e sE _ k y hk;obtain ⟨hi,rfl⟩:=n2 _ _ oE;obtain ⟨_,af,aK⟩:=aS _ hi;obtain ⟨_,Iz,cu⟩:=World.cells?_some aK;have Et:k % e.z<e.z:=Nat.mod_lt _ sE;have dM:=cu (k % e.z) (by rw [h.z]; exact Et);rw [Deep.add_add,h.z] at dM;have fS:k / e.z * e.z+k % e.z=k:=by rw [Nat.mul_comm]; exact Nat.div_add_mod k e.z
    rw [fS] at dM;have aQ:k % e.z<(f (k / e.z)).2.length:=by rw [Iz,h.z]; exact Et
    rw [List.getElem?_eq_getElem aQ] at dM;have aR:a.add k=⟨a.block,a.off+k,none⟩:=by
     unfold Addr.add;split
     ·rename_i T1; subst T1; cases a; simp at mw ⊢; exact mw.1
     ·rfl
    rw [aR] at dM;exact ⟨_,dM,af.2 _ _ _ fH (List.getElem?_eq_getElem aQ)⟩
   refine ⟨(List.range len).map λi=>(f i).1,⟨by rw [hlen]; omega,λy al=>?_⟩,mc.one rfl ?_⟩
   ·obtain ⟨i,hi,rfl⟩:=List.mem_map.1 al;exact (aS i (List.mem_range.1 hi)).1
   ·show tv w (.bk e.z _ _) _;rw [hlen];refine .bk (us:=λk=>(w.cell? ⟨a.block,a.off+k,none⟩).getD .nilFunc) (λ_ h=>h) ai mw.2 mw.1 (by rw [oX,hlen]) (λk y hk=>?_) (λk y hk=>?_) (λk y hk=>?_)
    ·obtain ⟨u,h1,af,aK⟩:=key k y hk;simp only [h1,Option.getD_some]; exact af
    ·obtain ⟨u,h1,af,aK⟩:=key k y hk;simp only [h1,Option.getD_some]
    ·obtain ⟨u,h1,af,aK⟩:=key k y hk;simp only [h1,Option.getD_some]; exact aK
def A6 (P:Program):Nat->List Field->List TypeId->Bool
 | _,[],[]=>true
 | off,f::fs,t::ts=>decide (f.type=t)&&decide (f.offset=off)&&A6 P (off+P.cellsOf t) fs ts
 | _,_,_=>false
def Aj (P:Program) (t:TypeId) (ts:List TypeId):Bool :=
 match P.underlying t with
 | some (.struct fs)=>A6 P 0 fs.toList ts&&decide (P.cellsOf t=(ts.map P.cellsOf).sum)
 | _=>false
structure yi (P:Program) (cells:β->List ab) (ts:List TypeId) (ok:β->Prop):Prop where
 go:∀ {H:Type}{enc:TypeId × Value->H}{w:World}{n:Nat}{cs:List Value}{fs:List Field}{off:Nat},A6 P off fs ts=true->cs.length=off+(ts.map P.cellsOf).sum ->
  (∀ (i:Nat) (f:Field),fs[i]?=some f->∃ x,DataW.trod enc P w 0 (λ_=>true) true n f.type ((cs.drop f.offset).take (P.cellsOf f.type))=some x) ->
  ∃ b,ok b/\mc w (cells b) (cs.drop off)
theorem yi.nil:yi P (λ_:Unit=>[]) [] (λ_=>True) :=
 ⟨λ{H enc w n cs fs off} _ ai _=>⟨(),trivial,by rw [List.drop_eq_nil_of_le (by simp at ai; omega)]; exact mc.nil⟩⟩
theorem yi.cons {e:bz α}{t:TypeId}{ts:List TypeId}{ok:α->Prop}{cells:β->List ab}{OZ:β->Prop}(h:hZ P e t ok) (ai:yi P cells ts OZ) :
  yi P (λp:α × β=>e.cells p.1++cells p.2) (t::ts) (λp=>ok p.1/\OZ p.2):=by
 refine ⟨λ{H enc w n cs fs off} fh hlen ah=>?_⟩;cases fs with
 | nil=>simp [A6] at fh
 | cons f fs =>
  simp only [A6,Bool.and_eq_true,decide_eq_true_eq] at fh;obtain ⟨⟨rfl,rfl⟩,fh⟩:=fh;obtain ⟨x,j⟩:=ah 0 f rfl;obtain ⟨a,aR,a1⟩:=h.go j;obtain ⟨b,av,Bg⟩:=ai.go (off:=f.offset+P.cellsOf f.type) (cs:=cs) fh (by rw [hlen]; simp [Nat.add_assoc]) (λi e3 qP=>ah (i+1) e3 (by simpa using qP));refine ⟨(a,b),⟨aR,av⟩,?_⟩;have:cs.drop f.offset=(cs.drop f.offset).take (P.cellsOf f.type)++cs.drop (f.offset+P.cellsOf f.type):=by
   rw [<- List.drop_drop]; exact (List.take_append_drop _ _).symm
  rw [this];exact a1.app Bg
theorem hZ.struct {e:bz K7}{t:TypeId}{ts:List TypeId}{cells:β->List ab}{ok:β->Prop}(h:yi P cells ts ok) (mk:β->K7) (un:K7->β) (NT:∀ b,un (mk b)=b) (aa:∀ b,e.cells (mk b)=cells b) (ar:Aj P t ts=true) (aW:P.cellsOf t=e.z) :
  hZ P e t (λs=>ok (un s)):=by
 refine ⟨aW,λ{H enc w n cs x} ah=>?_⟩;unfold Aj at ar
 split at ar
 ·rename_i fs hu;simp only [Bool.and_eq_true,decide_eq_true_eq] at ar;obtain ⟨xs,cm,rfl,rfl,ai,Je,j⟩:=DataW.trod_struct hu ah;obtain ⟨b,av,a1⟩:=h.go (w:=w) (off:=0) (cs:=cs) (fs:=fs.toList) (n:=cm) (enc:=enc) ar.1 (by rw [ai,ar.2]; simp) (λi f aS=>by
   have qP:fs[i]?=some f:=by simpa using aS
   have hi:i<xs.length:=by rw [Je]; exact (Array.getElem?_eq_some_iff.1 qP).1
   exact ⟨xs[i],by rw [j i f qP,List.getElem?_eq_getElem hi]⟩)
  exact ⟨mk b,by rw [NT]; exact av,by rw [aa]; simpa using a1⟩
 ·cases ar
inductive Du (w:World):ab->Value->Prop
 | mk {y:ab}{v:Value}(h:tv w y v):Du w y v
theorem hZ.one {e:bz α}{t:TypeId}{ok:α->Prop}{g:α->ab}(h:hZ P e t ok) (he:∀ a,e.cells a=[g a]) {H:Type}{enc:TypeId × Value->H}{w:World}{v:Value}{d:DataW H}{p:List MemPlace}(hv:v.cells.toList=[v])
  (ar:DataW.Trod enc P w 0 (λ_=>true) true t v d p):∃ a,ok a/\Du w (g a) v:=by
 obtain ⟨n,aA⟩:=ar;obtain ⟨a,aR,a1⟩:=h.go aA;refine ⟨a,aR,.mk ?_⟩;rw [hv,he] at a1;exact (a1.2 0 _ _ rfl rfl).2
theorem hZ.O0 {e:bz α}{t:TypeId}{ok:α->Prop}{ts:List TypeId}(h:hZ P e t ok) (fh:Aj P t ts=true) {H:Type}{enc:TypeId × Value->H}{w:World}{v:Value}{d:DataW H}{p:List MemPlace}{base:Nat}(hv:Value.okWide P w .any base t v)
  (ar:DataW.Trod enc P w 0 (λ_=>true) true t v d p):∃ a,ok a/\Du w (.agg (e.cells a)) v:=by
 have hu:∃ fs,P.underlying t=some (.struct fs):=by
  unfold Aj at fh
  split at fh
  ·exact ⟨_,by assumption⟩
  ·cases fh
 obtain ⟨fs,hu⟩:=hu;obtain ⟨cs,rfl,gS⟩:=okWide_struct hu hv;obtain ⟨n,aA⟩:=ar;obtain ⟨a,aR,a1⟩:=h.go aA;refine ⟨a,aR,.mk ?_⟩;have jm:mc w (e.cells a) cs.toList:=a1;refine .agg (Fs:=λ_ _=>False) (by simpa using jm.1) (λk u hu=>?_) (λk x u j hu=>(jm.2 k x u j (by simpa using hu)).2) (λ_ _ _ _ _ h=>h.elim) (λc=>⟨λh=>h.elim,λ⟨_,_,h⟩=>h⟩);have hk:k<(e.cells a).length:=by rw [jm.1]; simpa using (Array.getElem?_eq_some_iff.1 hu).1
 exact (jm.2 k _ u (List.getElem?_eq_getElem hk) (by simpa using hu)).1
inductive uX (w:World):List ab->List Value->Prop
 | nil:uX w [] []
 | cons {y:ab}{v:Value}{ys:List ab}{vs:List Value}(h:Du w y v) (az:uX w ys vs):uX w (y::ys) (v::vs)
theorem uX.get {w:World}{ys:List ab}{vs:List Value}(h:uX w ys vs):ys.length=vs.length/\∀ (k:Nat) (y:ab),ys[k]?=some y->∃ v,vs[k]?=some v/\tv w y v:=by
 induction h with
 | nil=>exact ⟨rfl,λk y h=>by simp at h⟩
 | cons h _ aM =>
  refine ⟨by simp [aM.1],λk y al=>?_⟩;cases k with
  | zero =>
   simp at al; subst al;obtain ⟨h⟩:=h;exact ⟨_,rfl,h⟩
  | succ k=>simpa using aM.2 k y (by simpa using al)
theorem uX.Zo {w:World}{ys:List ab}{vs:List Value}(h:uX w ys vs) (au:ys.all (λy=>match y with | .bC ..=>false | _=>true)=true) (iM:cH.q w λb=>b<w.heap.size) :
  cG w (λb=>b<w.heap.size) vs.toArray (pg ys) (λ_=>ct):=by
 refine ⟨λt x j=>?_,λ_ _ _ h=>h,λ_ _ _ h=>h.elim,λ_ _ h=>h.elim,λ_ h=>h,λt t' z p n m new br cm bh cO h1 _=>?_,iM⟩
 ·obtain ⟨v,hv,a1⟩:=h.get.2 t x j;exact ⟨v,by simpa using hv,.tree (a1.frame (λ_ _=>rfl) (λ_ h=>h) (λ_ _ h=>h.elim) (λ_ _=>rfl))⟩
 ·have:=List.all_eq_true.1 au _ (List.mem_of_getElem? h1);cases this
structure Lf (w w':World):Prop where
 kept:∀ may:MemPlace->Prop,w.keptBut w' may
 dG:∀ a,a.block<w.heap.size->w'.frozen? a=w.frozen? a
theorem bY.Z6 {f:FuncId}{ys:List ab}{vs:List Value}{outs:List (Option ab)}{r:Value}(aa:bY P f ys outs (.lit r)) (w:World) (h:uX w ys vs) (au:ys.all (λy=>match y with | .bC ..=>false | _=>true)=true) (iM:cH.q w λb=>b<w.heap.size) :
  Calls P f vs.toArray w λe w'=>e=.returned r/\Lf w w'/\∀ i:Nat,i<w.heap.size->w'.heap[i]?=w.heap[i]?:=by
 have:=aa.2 w _ vs _ h.get.1.symm (h.Zo au iM);refine this.mono ?_;rintro e w' ⟨v,I',b3,rfl,bm,bR⟩;obtain ⟨u,hu,a1⟩:=bm.rel outs.length (.lit r) (by simp [l2]);have ai:outs.length=vs.length:=by rw [aa.1]; exact h.get.1
 have EE:u=v:=by
  rw [ai] at hu;simpa using hu.symm
 subst EE;have hv:=(a1.hb (by simp)).h_.1;subst hv;have av:∀ i:Nat,i<w.heap.size->w'.heap[i]?=w.heap[i]?:=λi hi=>bR.ep.block i hi λ⟨_,h⟩=>h;have hk:World.keptBut w w' (λ_=>False):=⟨bR.ep.os,bR.ep.output,λi hi=>by
  rw [av i hi];exact (World.keptBut_refl w (λ_=>False)).2.2 i hi⟩
 exact ⟨rfl,⟨λmay=>World.keptBut_mono (λ_ f=>f.elim) hk,λa aR=>bR.ep.dG a aR λ⟨_,h⟩=>h⟩,av⟩
theorem Qn {H:Type}{enc:TypeId × Value->H}{w w':World}{base:Nat}{sp:Nat->Bool}{held:Bool}(av:∀ i:Nat,i<w.heap.size->w'.heap[i]?=w.heap[i]?) :
  ∀ {ts:List TypeId}{vs:List Value}{jC:List (DataW H)}{ps:List MemPlace},DataW.TrodAll enc P w base sp held ts vs jC ps->DataW.TrodAll enc P w' base sp held ts vs jC ps
 | [],[],[],_,h=>h
 | _::_,_::_,_::_,_,⟨p,q,⟨n,aA⟩,af,e⟩=>by
  refine ⟨p,q,⟨n,DataW.trod_carry n _ _ _ aA λx j=>?_⟩,Qn av af,e⟩;have aQ:=DataW.trod_lt n _ _ _ aA x j;cases x with
  | cell b off =>
   show w'.cell? _=w.cell? _;exact World.cell?_of_block (av b aQ)
  | map b=>exact av b aQ
theorem RU {H:Type}{enc:TypeId × Value->H}{w w':World}(ai:laidOutB P=true) (hm:mapsRowed P=true)
  (aW:((List.range P.types.size).all λt=>match P.underlying t with | some (.slice e)=>decide (0<P.cellsOf e) | _=>true)=true)
  (av:∀ i:Nat,i<w.heap.size->w'.heap[i]?=w.heap[i]?) {ts:List TypeId}{vs:List Value}{jC:List (DataW H)}{ps:List MemPlace}(ar:ts.all (λt=>decide (t<P.types.size))=true)
  (h:DataW.TrodAll enc P w 0 (λ_=>true) true ts vs jC ps) {sp:Nat->Bool}(mw:∀ p∈ps,sp p.block=true):DataW.TrodAll enc P w' 0 sp true ts vs jC ps :=
 (Qn av h).respare (kids_rows ai hm) (slices_full_of P aW) (λt h=>of_decide_eq_true (List.all_eq_true.1 ar t h)) mw
end Go.Own
namespace Go.Own
open Go
set_option linter.unusedSectionVars false
variable [cH]
section
variable {α β:Type}{P:Program}{N:cQ}{g g1:aL}{p:Place}{m:Int}{a b:Operand}{t:TypeId}
theorem ab.LO:∀ (l:List Nat) {x nd:ab}{k:Nat}{c:ab},x.at l=some nd->nd.kids[k]?=some c->x.at (l++[k])=some c
 | [],x,nd,k,c,h,hk=>by
  simp only [ab.at,Option.some.injEq] at h;subst h;simp [ab.at,hk]
 | J::l,x,nd,k,c,h,hk=>by
  simp only [ab.at] at h;cases aj:x.kids[J]? with
  | none=>rw [aj] at h; cases h
  | some y =>
   rw [aj] at h;simp only [List.cons_append,ab.at,aj];exact ab.LO l h hk
theorem ab.PU:∀ (l:List Nat) {x nd:ab}{k:Nat}{c:ab}(y:ab),x.at l=some nd->nd.kids[k]?=some c->x.setAt (l++[k]) y=x.setAt l (nd.uN k y)
 | [],x,nd,k,c,y,h,hk=>by
  simp only [ab.at,Option.some.injEq] at h;subst h;simp [ab.setAt,hk]
 | J::l,x,nd,k,c,y,h,hk=>by
  simp only [ab.at] at h;cases aj:x.kids[J]? with
  | none=>rw [aj] at h; cases h
  | some z =>
   rw [aj] at h;simp only [List.cons_append,ab.setAt,aj];rw [ab.PU l y h hk]
theorem Mv {en:bz α}{L:List α}{iQ:α}{o:Nat}{c:ab}(h:idx L m=some iQ) (aa:(en.cells iQ)[o]?=some c):(ao en L).kids[m.toNat * en.z+o]?=some c:=Pv en h aa
theorem u7 {en:bz α}{L:List α}{iQ:α}{r o:Nat}{path:List Nat}{c:ab}(au:bt g ⟨r,path⟩=some (ao en L)) (h:idx L m=some iQ) (aa:(en.cells iQ)[o]?=some c):bt g ⟨r,path++[m.toNat * en.z+o]⟩=some c:=by
 unfold bt at au ⊢;simp only at au ⊢;cases j:g r with
 | none=>rw [j] at au; cases au
 | some x =>
  rw [j] at au;exact ab.LO path au (Mv h aa)
theorem Zc {en:bz α}{L:List α}{iQ:α}{r o:Nat}{path:List Nat}{c:ab}(y:ab) (au:bt g ⟨r,path⟩=some (ao en L)) (h:idx L m=some iQ) (aa:(en.cells iQ)[o]?=some c) :
  cp g ⟨r,path++[m.toNat * en.z+o]⟩ y=cp g ⟨r,path⟩ (.own en.z L.length ((bp en L).set (m.toNat * en.z+o) y)):=by
 funext s;unfold cp;simp only;split
 ·rename_i e;subst e;unfold bt at au;simp only at au;cases j:g s with
  | none=>rfl
  | some x =>
   rw [j] at au;simp only [Option.map_some,Option.some.injEq];rw [ab.PU path y au (Mv h aa)];rfl
 ·rfl
theorem Zm (l:List ab) (k:Nat) (x c:ab):eP (l.set k x) k [c]=eP l k [c]:=by
 unfold eP;simp only [List.length_singleton];rw [List.take_set,List.drop_set];rw [List.set_eq_of_length_le (by simp; omega)];simp
theorem bq.Db {hl:Oper}{en:bz α}{en2:bz β}{L:List α}{iQ y2:α}{qD M R:List β}{o s JR:Nat}{new cO:List ab}{x2 y0:ab}{G2:List (Nat × ab)}
  (aV:hl.op=.store t a b) (aP:hl.dst=none) (aR:Rd g a (.ptr p (m.toNat * en.z+o))) (av:Rd g b (.bf en2.z ⟨s,[]⟩ (qD.length+JR)))
  (qb:g s=some (.bC en2.z ⟨p.root,p.path++[m.toNat * en.z+o]⟩ qD.length JR new)) (au:bt g p=some (ao en L)) (h:idx L m=some iQ) (mq:(en.cells iQ)[o]?=some (ao en2 qD)) (a7:Nat.beq p.root s=false)
  (h1:eU (cp (cp g ⟨s,[]⟩ .dead) p (.own en.z L.length ((bp en L).set (m.toNat * en.z+o) .dead))) new cO g1)
  (n1:fA cO (bp en2 M)) (hm:M.length=JR) (a1:qD++M=R) (aW:hC P t 1=true)
  (vo:bt g1 p=some (.own en.z L.length ((bp en L).set (m.toNat * en.z+o) .dead)))
  (he:eP (en.cells iQ) o [ao en2 R]=en.cells y2) (hlen:Nat.ble (o+1) en.z=true)
  (kf:cp g1 p (ao en (L.set m.toNat y2)) p.root=some x2) (ah:(get G2 p.root).isSome=true) (vB:g1 p.root=some y0) [e':b4 y0] (c':lv g1 (get G2) p.root x2 G2):bq P N g hl (get G2):=by
 subst hm a1;have Bx:=Nat.le_of_ble_eq_true hlen;have mw:=Pu en (cs':=[ao en2 (qD++M)]) h he (by simpa using Bx);have rR:(L.set m.toNat y2).length=L.length:=List.length_set;have Ez:=Nat.ne_of_beq_eq_false a7;have Bl:bt g ⟨p.root,p.path++[m.toNat * en.z+o]⟩=some (ao en2 qD):=u7 (g:=g) (r:=p.root) (path:=p.path) au h mq;have Wg:bt (cp g ⟨s,[]⟩ .dead) p=some (ao en L):=by
  unfold bt at au ⊢;rw [x5 (p:=⟨s,[]⟩) (λe=>Ez e)]; exact au
 have ar:eU g [.bf en2.z ⟨s,[]⟩ (qD.length+M.length)] [.own en2.z (qD.length+M.length) (bp en2 qD++cO)] g1:=by
  refine .hV qb Bl a7 ?_ .nil;rw [Zc .dead (r:=p.root) (path:=p.path) Wg h mq];exact h1
 have hk:m.toNat * en.z+o+1<=L.length * en.z:=by
  obtain ⟨C1,kN,_⟩:=r3 h;have af:m.toNat+1<=L.length:=by omega
  calc m.toNat * en.z+o+1<=m.toNat * en.z+en.z:=by omega
   _=(m.toNat+1) * en.z:=by rw [Nat.add_mul]; omega
   _<=L.length * en.z:=Nat.mul_le_mul_right _ af
 refine .store aV aP aR.bn av.bn ar.take (y':=ao en2 (qD++M)) ?_ rfl aW (p:=p) (nd:=.own en.z L.length ((bp en L).set (m.toNat * en.z+o) .dead)) (z:=en.z) (n:=L.length) (cs:=(bp en L).set (m.toNat * en.z+o) .dead) vo (.inl rfl) ?_ (by simp) (λt x j=>?_) (λt x j y al=>?_) (λt z q n m new j=>?_) (by intro e; rw [e] at ah; cases ah)
 ·rw [<- nK]; exact (n1.pre _).own
 ·simp only [List.length_singleton,List.length_set,oX]; exact hk
 ·have fq:(ab.own en.z L.length ((bp en L).set (m.toNat * en.z+o) .dead)).eP (m.toNat * en.z+o) [ao en2 (qD++M)]=ao en (L.set m.toNat y2):=by
   show ab.own en.z L.length (eP ((bp en L).set (m.toNat * en.z+o) .dead) (m.toNat * en.z+o) [ao en2 (qD++M)])=_;unfold ao at mw ⊢;rw [Zm,mw,rR]
  rw [fq];rcases c'.spec t x j with ⟨h1,af,_⟩ | ⟨h1,af,_⟩
  ·rw [x5 h1]; exact af
  ·subst h1 af; exact kf
 ·rcases c'.spec t x j with ⟨h1,af,aK⟩ | ⟨h1,af,aK⟩
  ·rw [af] at al; cases al;rcases aK with aK | ⟨aK,c2,rfl⟩
   ·exact aK.Km
   ·refine kl.ref (by cases aK; rfl) ⟨aK.OX,aK.clear ?_,aK.JZ⟩;intro e;obtain ⟨gq,pp⟩:=p;simp only at e;subst e;simp only [cp,if_true,vB,Option.map_some,ab.setAt,Option.some.injEq] at kf;cases kf
  ·subst h1; rw [vB] at al; cases al; exact .bj e'.bj
 ·rcases c'.spec t _ j with ⟨_,_,aK | ⟨aK,_⟩⟩ | ⟨_,_,aK⟩
  ·exact aK.fr _ _ _ _ _ rfl
  ·exact aK.fr _ _ _ _ _ rfl
  ·cases aK
end
end Go.Own
/- Short forms for printed walks. -/
namespace Go.Own
open Go
set_option linter.unusedSectionVars false
variable [cH]
section
variable {P:Program}{N:cQ}{ops:Array Oper}{a':List (List Nat)}{g g0:aL}{K:aL->Prop}{l:List Oper}{acc:Acc}{d i:Nat}{op:Op}{ty:TypeId}{pos:String}{after:Array Edge}{x:ab}
theorem ay (au:b8 P g op ty x) (hk:aD P N ops l (cJ g d x) K) (a_:N.ok d=true:=by rfl) (aS:g d=none:=by rfl):aD P N ops (⟨some d,op,ty,pos,after,none⟩::l) g K:=.v au a_ aS .none hk
theorem hz (au:cZ P g op x) (hk:aD P N ops l (cJ g d x) K) (a_:N.ok d=true:=by rfl) (aS:g d=none:=by rfl):aD P N ops (⟨some d,op,ty,pos,after,none⟩::l) g K:=.c au a_ aS .none hk
theorem aG (bw:Nat) (au:b8 P (jv a' g0 bw acc) op ty x) (hk:bA P N ops a' g0 i ((bw,d,some x)::acc) l K) (aj:Nat.beq ops.size (bw+l.length+1)=true:=by rfl) (aS:g0 d=none:=by rfl) (aA:acc.all (λe=>!Nat.beq e.2.1 d)=true:=by rfl) (a_:N.ok d=true:=by rfl) :
  bA P N ops a' g0 i acc (⟨some d,op,ty,pos,after,none⟩::l) K:=.v bw au aj aS aA a_ .none hk
theorem l' (bw:Nat) (au:cZ P (jv a' g0 bw acc) op x) (hk:bA P N ops a' g0 i ((bw,d,some x)::acc) l K) (aj:Nat.beq ops.size (bw+l.length+1)=true:=by rfl) (aS:g0 d=none:=by rfl) (aA:acc.all (λe=>!Nat.beq e.2.1 d)=true:=by rfl) (a_:N.ok d=true:=by rfl) :
  bA P N ops a' g0 i acc (⟨some d,op,ty,pos,after,none⟩::l) K:=.c bw au aj aS aA a_ .none hk
end
instance {z n:Nat}{cs:List ab}:nb (.own z n cs):=⟨by simp⟩
def aE (a n:Nat) (l:List Nat):List Nat:=List.range' a n++l
end Go.Own
namespace Go.Own
open Go
set_option linter.unusedSectionVars false
variable [cH]
section
variable {α:Type}{P:Program}{N:cQ}{g:aL}{d r:Nat}{ty:TypeId}
instance {fn:Fn}{cs:List ab} [h:dj cs]:b4 (.ds fn [] cs):=⟨.ds (by simp) h.bj⟩
theorem O.E2 {fn:Fn}{caps:List Operand}{b:List ab}(av:Own.fK g caps=some b):b8 P g (.makeFunc fn #[] caps.toArray) ty (.ds fn [] b):=.Cv (.makeFunc rfl (by simpa using av))
theorem View.cl {fn:Fn}{cs cs':List ab}(h:ou g cs cs'):View g (.ds fn [] cs) (.ds fn [] cs'):=.ds h.len h.get
theorem h0.jV {o:Oper}{xs:List Operand}{gl:Array TypeId}{f:FuncId}{ys args:List ab}{res:ab}{en:bz α}{L hQ:List α}{G2:List (Nat × ab)}(aV:o.op=.call { callee:=.value (.func f),args:=xs.toArray,argTypes:=gl }) (aP:o.dst=some d) (j:Own.fK g xs=some (.bf en.z ⟨r,[]⟩ L.length::ys))
  (az:g r=some (ao en L)) (hv:ou (get ((r,.dead)::G2)) ys args) (g_:bY P f (ao en L::args) (some (ao en hQ)::args.map λ_=>none) res) (aS:iI P f=true) [ah:oo res] [nx:oo (ao en hQ)]
  (c':Trim false (cp g ⟨r,[]⟩ .dead) (get ((r,.dead)::G2)) G2) (aN:get G2 d=none) (rU:Nat.beq r d=false) (Bc:Trim false (get ((r,ao en hQ)::G2)) (get ((r,ao en hQ)::G2)) G2) (a_:N.ok d=true) :
  h0 P N g o d (get ((d,res)::(r,ao en hQ)::G2)):=by
 have BL:r≠d:=Nat.ne_of_beq_eq_false rU;have Ha:get ((r,ab.dead)::G2) r=some .dead:=by simp [get]
 have mS:∀ x∈bp en L,cF x:=by
  intro x j;obtain ⟨a,_,aR⟩:=List.mem_flatMap.1 j;exact en.bj a x aR
 have e4:(bp en L).take (L.length * en.z)=bp en L:=List.take_of_length_le (by rw [oX]; exact Nat.le_refl _);have xm:hy (cp g ⟨r,[]⟩ .dead) (get ((r,.dead)::G2)):=by
  refine ⟨λt x h=>?_,λt x h=>?_,λt z q n m new h=>?_⟩
  all_goals
   simp only [get] at h
   split at h
  ·rename_i e; subst e; cases h; simp [cp,az,ab.setAt]
  ·obtain ⟨⟨y,h1,_,aK⟩,_⟩:=c'.spec t x h; rw [<- aK rfl]; exact h1
  ·cases h; exact .bj .dead
  ·exact (c'.spec t x h).2.1
  ·cases h
  ·exact (c'.spec t _ h).2.2 _ _ _ _ _ rfl
 have put:qq (get ((r,.dead)::G2)) [(⟨r,[]⟩,ao en hQ)]=get ((r,ao en hQ)::G2):=by
  funext t;simp only [qq,cp,get];by_cases h:t=r
  ·simp [h,ab.setAt]
  ·simp [h]
 have xn:hy (get ((r,ao en hQ)::G2)) (get ((r,ao en hQ)::G2)):=by
  refine ⟨λt x h=>h,λt x h=>?_,λt z q n m new h=>?_⟩
  all_goals
   simp only [get] at h
   split at h
  ·cases h; exact .bj nx.lg.bj
  ·exact (Bc.spec t x h).2.1
  ·cases h
  ·exact (Bc.spec t _ h).2.2 _ _ _ _ _ rfl
 have ai:=hv.len;have qL:get ((d,res)::(r,ao en hQ)::G2)=cJ (get ((r,ao en hQ)::G2)) d res:=by
  funext t;rw [sw]
 rw [qL];refine yn.ok (first:=[]) (caps:=[]) (ys:=.bf en.z ⟨r,[]⟩ L.length::ys) (tk:=λk=>k == 0) (vw:=true) (outs:=some (ao en hQ)::args.map λ_=>none) (g1:=cp g ⟨r,[]⟩ .dead) (g2:=get ((r,.dead)::G2)) (g4:=get ((r,ao en hQ)::G2)) (l:=[(⟨r,[]⟩,ao en hQ)]) (ks:=λ_=>0) (xs0:=.bf en.z ⟨r,[]⟩ L.length::ys.map λ_=>.dead) (xs1:=ao en L::ys.map λ_=>.dead) (args:=ao en L::args) (res:=res) aV aP rfl (by simpa using j)
  ⟨aS,by simp,by simpa using ai,λk x h=>?_,?_,xm,λk x y j al=>?_,g_,by simpa using ah.lg,λk x h=>?_,λJ p x aj=>?_,by simp,λi J hi aj _=>by simp at hi aj; omega,by rw [put]; exact xn⟩ ?_ a_ wj.refl
 ·simp only [List.nil_append,List.append_nil] at h;cases k with
  | zero=>exact .inl h
  | succ k =>
   refine .inr ?_;simp only [List.getElem?_cons_succ] at h ⊢;rw [List.getElem?_map,h]; rfl
 ·have h1:Take (cp g ⟨r,[]⟩ .dead) ((bp en L).take (L.length * en.z)) (bp en L) (cp g ⟨r,[]⟩ .dead):=by rw [e4]; exact .bj mS
  refine .bf (N:=L.length) (by simp [bt,az,ab.at]) (Nat.le_refl _) h1 (.bj λx j=>?_);obtain ⟨_,_,rfl⟩:=List.mem_map.1 j;exact .dead
 ·simp only [List.nil_append,List.append_nil] at j;cases k with
  | zero=>simpa using al
  | succ k =>
   simp only [List.getElem?_cons_succ] at j al;exact ⟨rfl,hv.get k x y j al⟩
 ·cases k with
  | zero=>simp only [List.getElem?_cons_zero,Option.some.injEq] at h; subst h; exact nx.lg
  | succ k =>
   simp only [List.getElem?_cons_succ,List.getElem?_map] at h;cases aR:args[k]? <;> rw [aR] at h <;> cases h
 ·cases J with
  | succ J=>simp at aj
  | zero =>
   simp only [List.getElem?_cons_zero,Option.some.injEq,Prod.mk.injEq] at aj;obtain ⟨rfl,rfl⟩:=aj;exact ⟨rfl,by simp [bt,Ha,ab.at],.inl ⟨en.z,L.length,bp en L,rfl,by simp [bt,az,ab.at]⟩,λ_ h=>by cases h⟩
 ·simp only [get,if_neg (Ne.symm BL)]; exact aN
end
end Go.Own
namespace Go.Own
open Go Go.Proofs Go.Shelf Go.Lib Go.Sort
set_option linter.unusedSectionVars false
variable [cH]
section
variable {P:Program}{w:World}
end
end Go.Own
namespace Go.Own
open Go
set_option linter.unusedSectionVars false
variable [cH]
section
variable {α:Type}{P:Program}{N:cQ}{g g1 g2 g3:aL}{ops:Array Oper}{a':List (List Nat)}{acc:Acc}{l:List Oper}{K:aL->Prop}{i d r:Nat}
theorem cG.settle {w:World}{I:a8}{T:Array Value}{Fs:Nat->a8}(h:cG w I T g Fs) (a:Act) (aR:a.tmps=T) {ts:List Nat}{xs ys:List ab}(j:Own.fK g (ts.map Operand.tmp)=some xs) (ar:Take g xs ys g1) (fq:ts.Nodup) (ai:ys.length=ts.length) (aP:∀ t∈ts,g1 t=some .dead)
  (hk:hy (qq g1 ((ts.map λt=>(⟨t,[]⟩:Place)).zip ys)) g2):∃ b3,cG w I T g2 b3/\∀ c,(∃ t,b3 t c)->∃ t,Fs t c:=by
 obtain ⟨Je,Xb⟩:=zE h aR j;have Xa:xs.length=ts.length:=by rw [Je,List.length_map]
 have hand:Hand w I (fP w T) Fs xs (ts.map λt=>a.eval (.tmp t)) (λ_=>ct):=by
  refine ⟨by rw [Xa,List.length_map],λk x u qh hu=>?_,λ_ _ _ _ _ h=>h.elim,λ_ _ _ _ h=>h.elim,λ_ _ _ h=>h.elim⟩;rw [List.getElem?_map] at hu;cases e4:ts[k]? with
  | none=>rw [e4] at hu; cases hu
  | some t =>
   rw [e4] at hu; cases hu;exact (Xb k x (.tmp t) qh (by rw [List.getElem?_map,e4]; rfl)).frame (λ_ _=>rfl) (λ_ h=>h) (λ_ _ h=>h.1) λ_ _=>rfl
 obtain ⟨fO,H1,iY,iw,hh⟩:=ar.sound h.mD hand;have ur:((ts.map λt=>(⟨t,[]⟩:Place)).zip ys).length=ts.length:=by rw [List.length_zip,List.length_map,ai]; exact Nat.min_self _
 obtain ⟨iT,h7,aI⟩:=jz.qq ((ts.map λt=>(⟨t,[]⟩:Place)).zip ys) H1 (λJ=>((ts.map λt=>a.eval (.tmp t))[J]?).getD undef) iY (by
   rw [List.map_fst_zip (by rw [List.length_map,ai]; exact Nat.le_refl _)];exact List.Pairwise.map _ (λa b h e=>h (congrArg Place.root e)) fq) (λJ p x aj=>by
   rw [List.getElem?_zip_eq_some] at aj;obtain ⟨h1,af⟩:=aj;rw [List.getElem?_map] at h1;cases e4:ts[J]? with
   | none=>rw [e4] at h1; cases h1
   | some t =>
    rw [e4] at h1; cases h1;have No:=aP t (List.mem_of_getElem? e4);obtain ⟨v,hv,_⟩:=iY.rel t .dead No;have rP:a.eval (.tmp t)=v:=by simp [Act.eval,aR,hv]
    have IY:(ts.map λt=>a.eval (.tmp t))[J]?=some v:=by rw [List.getElem?_map,e4]; simp [rP]
    refine ⟨by simp [bt,No,ab.at],?_,?_,λi e=>?_⟩
    ·rw [IY];show dW w T ⟨t,[]⟩=some v;unfold dW;simp only [hv,walk]
    ·rw [IY];exact iw.rel J x v af IY
    ·subst e; exact O2 j J i (ar.self J i af)) (λJ t c aj aa=>iw.off J t c (by omega) aa) (λJ c aj aa=>iw.bk J c (by omega) aa) (λi J c hi aj h1 af=>iw.eC i J c (by omega) (by omega) h1 af)
 refine ⟨_,h7.keep hk,λc ⟨t,_,aa⟩=>?_⟩;have:ln fO ys.length H1 c:=by
  rcases aI t c aa with h | ⟨J,aj,h⟩
  ·exact .inl ⟨t,h⟩
  ·exact .inr ⟨J,by omega,h⟩
 rcases hh c this with h | ⟨_,_,h⟩
 ·exact h
 ·exact h.elim
theorem il.settle {o:Oper}{ts:List Nat}{xs ys:List ab}(j:Own.fK g (ts.map Operand.tmp)=some xs) (ar:Take g xs ys g1) (fq:ts.Nodup) (ai:ys.length=ts.length) (aP:∀ t∈ts,g1 t=some .dead)
  (hk:hy (qq g1 ((ts.map λt=>(⟨t,[]⟩:Place)).zip ys)) g2) (he:il P N g2 o g3):il P N g o g3:=by
 intro w I T Fs bm a aR a_ K Q c7;obtain ⟨b3,d_,fF⟩:=bm.settle a aR j ar fq ai aP hk;refine he w I T b3 d_ a aR a_ K Q λb1 w' aA ar=>c7 b1 w' ?_ ar;obtain ⟨cw,cd,I',iT,h1,af⟩:=aA;exact ⟨cw,cd,I',iT,h1,k1.trans ⟨Fr.refl _ _,λ_ h=>h,λ_ h=>.inl h,λc h=>.inl (fF c h)⟩ af⟩
theorem RD {Q:Nat->Prop}{a:Nat}(aR:Q a):∀ t∈[a],Q t:=λt ar=>by rw [List.mem_singleton.1 ar]; exact aR
theorem yM {Q:Nat->Prop}{a b:Nat}(aR:Q a) (av:Q b):∀ t∈[a,b],Q t:=λt ar=>by
 rcases List.mem_cons.1 ar with rfl | ar
 ·exact aR
 ·rw [List.mem_singleton.1 ar]; exact av
def Fj (p q:Place):Bool:=Nat.beq p.root q.root&&p.path == q.path
def Cl:List Place->Bool
 | []=>true
 | x::l=>l.all (λy=>!Fj x y)&&Cl l
theorem OE:∀ {l:List Place},Cl l=true->l.Nodup
 | [],_=>List.nodup_nil
 | p::l,h=>by
  simp only [Cl,Bool.and_eq_true,List.all_eq_true] at h;refine List.nodup_cons.2 ⟨λhm=>?_,OE h.2⟩;have:=h.1 p hm;simp [Fj] at this
def XT (p:Place) (acc:Acc):Bool:=acc.all λe=>match jW e with | some q=>!Fj p q | none=>true
theorem xx {p:Place}{G:List (Nat × ab)}{A:Nat->Bool}(h:XT p acc=true) (c':l1 G=true):∀ t z n m new,c5 (get G) A acc t≠some (.bC z p n m new):=by
 intro t z n m new e;rcases uS e with ⟨b_,he,h1,_,af⟩ | ⟨_,af⟩
 ·have:=List.all_eq_true.1 h b_ he;obtain ⟨k,d,x⟩:=b_;simp only at af;subst af;simp [jW,Fj] at this
 ·exact vM c' _ _ _ _ _ _ af
theorem O.u5 {en:bz α}{L M r:List α}{y:ab}{e gv:Nat}{a b:Operand}{p:Place}{t ty:TypeId}(az:Rd g a (.bf en.z p L.length)) (au:bt g p=some (ao en L)) (j:Rd g b y) (hm:nT g en y M) (ar:jL P t e en.z gv=true) (av:Nat.ble gv 128=true) (h:db L M=some r) (e':∀ t z n m new,g t≠some (.bC z p n m new)) :
  b8 P g (.call { callee:=.builtin .append,args:=#[a,b],argTypes:=#[t,t] }) ty (.bC en.z p L.length M.length (bp en M)):=by
 obtain ⟨h1,af,_⟩:=yN h av;exact .lJ (.grow az.bn (.inl ⟨_,au⟩) (λt br cm bh cO e=>e' _ _ _ _ _ e) j.bn hm.src ar h1 af)
theorem bA.mK (bw:Nat) {G G2:List (Nat × ab)}{o:Oper}(he:il P N (c5 (get G) (λm=>(a'.getD bw []).contains m) acc) o (get G2)) (aN:o.guard=none) (gz:Cl (acc.filterMap jW)=true) (fJ:l1 G=true) (aj:Nat.beq ops.size (bw+l.length+1)=true)
  (fF:acc.filter (λe=>!(a'.getD bw []).contains e.1)=[])
  (av:(List.range ops.size).all (λk=>Nat.ble k bw||(a'.getD k []).contains bw)=true) (hk:bA P N ops a' (get G2) (bw+1) [] l K):bA P N ops a' (get G) i acc (o::l) K:=by
 intro dO J cg kH kF;have:=y3 kF aj;subst this;obtain ⟨h1,af⟩:=drop_cons kF;obtain ⟨g',ah,c7⟩:=hk [] (J+1) .nil .nil af;refine ⟨g',.wB (U:=[]) (rs:=r' []) kH (OE gz) (vM fJ) h1 ?_ he.v (λp au=>by simp [r'] at au) fF.symm (by simp) (by simp) (by simp) ?_ ah,c7⟩
 ·unfold iq; rw [aN]
 ·refine List.all_eq_true.2 λk hk=>?_;have:=List.all_eq_true.1 av k hk;simp only [Bool.or_eq_true,decide_eq_true_eq,Nat.ble_eq] at this ⊢;exact this
theorem il.cell {o:Oper}{r k0:Nat}{y:ab}{cs:List ab}{g5:aL}(ah:g r=some (.obj cs)) (al:cs[k0]?=some y) (xf:cF y)
  (vn:∀ v:Value,v.oneCell'=true->∃ g1 g4,hy (cp g ⟨r,[k0]⟩ (.lit v)) g1/\il P N g1 o g4/\bt g4 ⟨r,[k0]⟩=some (.lit v)/\hy (cp g4 ⟨r,[k0]⟩ y) g5) (lU:∀ i,y≠.self i:=by exact λ_ h=>(by cases h)):o9 P N (λp=>p∈[(⟨r,[k0]⟩:Place)]) g o g5:=by
 intro w I T Fs h a aR a_ K Q c7;have mv:∀ z q n m new,y≠.bC z q n m new:=by rintro z q n m new rfl; cases xf
 have fG:bt g ⟨r,[k0]⟩=some y:=by simp [bt,ah,ab.at,ab.kids,al]
 obtain ⟨v,cq,hv,dE,dq,put⟩:=h.mD.part fG mv;have rW:v.oneCell'=true:=by
  obtain ⟨u,hu,mQ⟩:=h.rel r _ ah;obtain ⟨b,wa,h1,af,aK,bu,_⟩:=R.node (z:=0) (n:=0) (mQ.hb (by simp)) (.inr rfl) al;have:dW w T ⟨r,[k0]⟩=child w u k0:=by
   unfold dW;simp only [hu,walk];cases child w u k0 <;> rfl
  rw [this,aK] at hv;cases hv;exact bu
 obtain ⟨fO,iY,A',Ba⟩:=put (.lit v) ct (.lit rW λ_ h=>h) (λ_ h=>h.elim) (λ_ h=>h.elim) (λ_ _ _ h=>h.elim) (λ_ h=>by cases h);obtain ⟨g1,g4,gn,da,HX,It⟩:=vn v rW;have sb:∀ t c,fO t c->Fs t c/\¬ cq c:=by
  intro t c aa;by_cases ar:t=r
  ·subst ar;rcases (A' c).1 aa with aJ | aJ
   ·exact aJ
   ·exact aJ.elim
  ·rw [Ba t ar] at aa;exact ⟨aa,λaS=>ar (h.eC t r c aa (dq c aS))⟩
 have HR:=iY.keep gn;refine da w I T _ HR a aR a_ K Q λb1 w' aA sI=>?_;obtain ⟨cw,cd,I',b3,d_,bR⟩:=aA;obtain ⟨v2,iR,zs,mm,Uu,Kh⟩:=d_.mD.part HX (by simp);have IX:v2=v:=mm.h_.1;subst IX;have HH:∀ c,cq c->¬ I c:=λc aa=>h.bk r c (dq c aa);have wT:∀ c,cq c->c<w.heap.size:=λc aa=>h.jU r c (dq c aa);have xB:∀ c,cq c->¬ ∃ t,(g1 t≠none/\fO t c):=λc aa ⟨t,_,aJ⟩=>(sb t c aJ).2 aa;have Cs:∀ t c,b3 t c->¬ cq c:=by
  intro t c aa aS;rcases bR.own c ⟨t,aa⟩ with aJ | aJ
  ·exact xB c aS aJ
  ·have:=wT c aS; omega
 have JX:∀ c,cq c->¬ I' c:=by
  intro c aa hi;rcases bR.new c hi with aJ | aJ | aJ
  ·exact HH c aa aJ
  ·exact xB c aa aJ
  ·have:=wT c aa; omega
 have Kt:∀ c,cq c->w'.heap[c]?=w.heap[c]?:=λc aa=>bR.ep.block c (wT c aa) (xB c aa);have re:∀ c,I c->w'.heap[c]?=w.heap[c]?:=λc aa=>bR.ep.block c (h.lt c aa) λ⟨t,_,aJ⟩=>h.bk t c (sb t c aJ).1 aa;have Bh:R w' I' (fP w' b1.tmps) y v2 cq:=((dE.bj xf).frame re bR.more (λ_ _ h=>h) Kt);obtain ⟨Lc,HT,HC,HD⟩:=Kh y cq Bh (λc aa aS=>(Cs _ c aS aa).elim) (λc aa=>JX c aa) (λt c _ aa aS=>Cs t c aS aa) (λi e=>absurd e (lU i));have sz:=HT.keep It;refine c7 b1 w' ⟨cw,cd,I',_,sz,⟨?_,bR.more,λc aa=>?_,λc aa=>?_⟩⟩ sI λcW path au y' oR ac_=>?_
 ·exact bR.ep.mono λb _ ⟨t,_,aJ⟩=>⟨t,(sb t b aJ).1⟩
 ·rcases bR.new c aa with aJ | ⟨t,_,aJ⟩ | aJ
  ·exact .inl aJ
  ·exact .inr (.inl ⟨t,(sb t c aJ).1⟩)
  ·exact .inr (.inr aJ)
 ·obtain ⟨t,_,aa⟩:=aa;have:(∃ t,b3 t c)\/cq c:=by
   by_cases ar:t=r
   ·subst ar;rcases (HC c).1 aa with ⟨aJ,_⟩ | aJ
    ·exact .inl ⟨_,aJ⟩
    ·exact .inr aJ
   ·rw [HD t ar] at aa; exact .inl ⟨t,aa⟩
  rcases this with aJ | aJ
  ·rcases bR.own c aJ with ⟨t,_,f'⟩ | f'
   ·exact .inl ⟨t,(sb t c f').1⟩
   ·exact .inr f'
  ·exact .inl ⟨r,dq c aJ⟩
 ·have au:(⟨cW,path⟩:Place)∈[(⟨r,[k0]⟩:Place)]:=au;have au:=List.mem_singleton.1 au;cases au;rw [hv,zs]
end
end Go.Own
namespace Go.Own
open Go
set_option linter.unusedSectionVars false
variable [cH]
section
variable {α:Type}{P:Program}{N:cQ}{g:aL}{ops:Array Oper}{l:List Oper}{K:aL->Prop}{r n:Nat}{t e ty:TypeId}{a b:Operand}{m:Int}{en:bz α}{L:List α}{y y2:α}{k:IntKind}{pos:String}{after:Array Edge}
end
end Go.Own
namespace Go.Own
open Go Go.Proofs Go.Shelf Go.Lib Go.Sort
set_option linter.unusedSectionVars false
variable [cH]
section
variable {P:Program}{w:World}
class wo {α:Type}(e:bz α) where
 FL:α->List Value
 cells:∀ a,e.cells a=(FL a).map .lit
 one:∀ a,∀ v∈FL a,v.oneCell'=true
variable {α:Type}{e:bz α}
theorem wo.len [h:wo e] (a:α):(h.FL a).length=e.z:=by
 have:=e.len a;rw [h.cells,List.length_map] at this;exact this
end
end Go.Own
namespace Go.Own
open Go
set_option linter.unusedSectionVars false
variable [cH]
section
variable {α:Type}{P:Program}{N:cQ}{g:aL}{d r:Nat}
theorem h0.tk {o:Oper}{x:Operand}{gl:Array TypeId}{f:FuncId}{res:ab}{en:bz α}{L:List α}{G2:List (Nat × ab)}(aV:o.op=.call { callee:=.value (.func f),args:=#[x],argTypes:=gl }) (aP:o.dst=some d) (j:Own.fK g [x]=some [.bf en.z ⟨r,[]⟩ L.length])
  (az:g r=some (ao en L)) (g_:bY P f [ao en L] [none] res) (aS:iI P f=true) [ah:b4 res]
  (c':Trim false (cp g ⟨r,[]⟩ .dead) (get G2) G2) (aN:get G2 d=none) (a_:N.ok d=true) :
  h0 P N g o d (get ((d,res)::G2)):=by
 have mS:∀ x∈bp en L,cF x:=by
  intro x j;obtain ⟨a,_,aR⟩:=List.mem_flatMap.1 j;exact en.bj a x aR
 have e4:(bp en L).take (L.length * en.z)=bp en L:=List.take_of_length_le (by rw [oX]; exact Nat.le_refl _);have xm:hy (cp g ⟨r,[]⟩ .dead) (get G2):=by
  refine ⟨λt x h=>?_,λt x h=>(c'.spec t x h).2.1,λt z q n m new h=>(c'.spec t _ h).2.2 _ _ _ _ _ rfl⟩;obtain ⟨⟨y,h1,_,aK⟩,_⟩:=c'.spec t x h;rw [<- aK rfl]; exact h1
 have xn:hy (get G2) (get G2):=⟨λt x h=>h,λt x h=>(c'.spec t x h).2.1,λt z q n m new h=>(c'.spec t _ h).2.2 _ _ _ _ _ rfl⟩;have qL:get ((d,res)::G2)=cJ (get G2) d res:=by
  funext t;rw [sw]
 rw [qL];refine yn.ok (first:=[]) (caps:=[]) (ys:=[.bf en.z ⟨r,[]⟩ L.length]) (tk:=λk=>k == 0) (vw:=false) (outs:=[none]) (g1:=cp g ⟨r,[]⟩ .dead) (g2:=get G2) (g4:=get G2) (l:=[]) (ks:=λ_=>0) (xs0:=[.bf en.z ⟨r,[]⟩ L.length]) (xs1:=[ao en L]) (args:=[ao en L]) (res:=res) aV aP rfl j
  ⟨aS,by simp,by simp,λk x h=>.inl h,?_,xm,λk x y j al=>?_,g_,by simpa using ah.bj,λk x h=>?_,λJ p x aj=>by simp at aj,by simp,λi J hi aj _=>by simp at hi,xn⟩ aN a_ wj.refl
 ·have h1:Take (cp g ⟨r,[]⟩ .dead) ((bp en L).take (L.length * en.z)) (bp en L) (cp g ⟨r,[]⟩ .dead):=by rw [e4]; exact .bj mS
  exact .bf (N:=L.length) (by simp [bt,az,ab.at]) (Nat.le_refl _) h1 (.bj λx j=>by simp at j)
 ·cases k with
  | zero=>simpa using al
  | succ k=>simp at al
 ·cases k with
  | zero=>simp at h
  | succ k=>simp at h
end
end Go.Own
namespace Go.Own
open Go Go.Proofs Go.Shelf Go.Lib Go.Sort
set_option linter.unusedSectionVars false
variable [cH]
section
variable {α:Type} [DecidableEq α]
end
section
variable {α:Type}{e:bz α}{P:Program}{w:World}
variable [DecidableEq α] [Inhabited α]
end
end Go.Own
namespace Go.Proofs
open Tryz
open Go.Shelf Go.RowKit Go.Lib Go.Sort
set_option linter.unusedSectionVars false
variable {α:Type} [Inhabited α] [DecidableEq α]
namespace Two
open Go.Own
variable [cH]
variable {P:Program}{t:TypeId}
omit [Inhabited α] [DecidableEq α] in
theorem one (f:α->Int):OneCell λx=>Value.int .i64 (f x):=λ_=>rfl
end Two
end Go.Proofs
namespace Go.Own
open Go Go.Proofs Go.Shelf Go.Lib Go.Sort
set_option linter.unusedSectionVars false
variable [cH]
section
variable {α:Type}{e:bz α}{P:Program}{w:World}
end
end Go.Own
namespace Go.Own
open Go
set_option linter.unusedSectionVars false
variable [cH]
section
variable {α:Type}{P:Program}{N:cQ}{g:aL}{d r:Nat}
end
end Go.Own
namespace Go.Own
open Go
set_option linter.unusedSectionVars false
variable [cH]
theorem q {α:Sort _}{a:α}:a=a:=rfl
abbrev bg:ByteArray:=⟨#[]⟩
theorem Cq {p:Prop} [Decidable p] (h:decide p=true):p:=of_decide_eq_true h
theorem rl {b:Bool}{g h:aL}{eL s1:Nat}{eI aX:ab}(aO:g eL=some eI) [b4 eI] (h1:g s1=some aX) [b4 aX]:Trim b g h [(eL,eI),(s1,aX)]:=(.n aO (.n h1 .nil))
theorem uQ {b:Bool}{g h:aL}{eL s1 s2:Nat}{eI aX x2:ab}(aO:g eL=some eI) [b4 eI] (h1:g s1=some aX) [b4 aX] (af:g s2=some x2) [b4 x2]:Trim b g h [(eL,eI),(s1,aX),(s2,x2)]:=(.n aO (.n h1 (.n af .nil)))
theorem mC {b:Bool}{g h:aL}{eL s1 s2 cS:Nat}{eI aX x2 aY:ab}(aO:g eL=some eI) [b4 eI] (h1:g s1=some aX) [b4 aX] (af:g s2=some x2) [b4 x2] (aK:g cS=some aY) [b4 aY]:Trim b g h [(eL,eI),(s1,aX),(s2,x2),(cS,aY)]:=(.n aO (.n h1 (.n af (.n aK .nil))))
theorem sd {b:Bool}{g h:aL}{eL s1 s2 cS cX:Nat}{eI aX x2 aY bP:ab}(aO:g eL=some eI) [b4 eI] (h1:g s1=some aX) [b4 aX] (af:g s2=some x2) [b4 x2] (aK:g cS=some aY) [b4 aY] (bu:g cX=some bP) [b4 bP]:Trim b g h [(eL,eI),(s1,aX),(s2,x2),(cS,aY),(cX,bP)]:=(.n aO (.n h1 (.n af (.n aK (.n bu .nil)))))
theorem rm {b:Bool}{g h:aL}{eL s1 s2 cS cX cA:Nat}{eI aX x2 aY bP bF:ab}(aO:g eL=some eI) [b4 eI] (h1:g s1=some aX) [b4 aX] (af:g s2=some x2) [b4 x2] (aK:g cS=some aY) [b4 aY] (bu:g cX=some bP) [b4 bP] (cu:g cA=some bF) [b4 bF]:Trim b g h [(eL,eI),(s1,aX),(s2,x2),(cS,aY),(cX,bP),(cA,bF)]:=(.n aO (.n h1 (.n af (.n aK (.n bu (.n cu .nil))))))
theorem tc {b:Bool}{g h:aL}{eL s1 s2 cS cX cA cP:Nat}{eI aX x2 aY bP bF bN:ab}(aO:g eL=some eI) [b4 eI] (h1:g s1=some aX) [b4 aX] (af:g s2=some x2) [b4 x2] (aK:g cS=some aY) [b4 aY] (bu:g cX=some bP) [b4 bP] (cu:g cA=some bF) [b4 bF] (dM:g cP=some bN) [b4 bN]:Trim b g h [(eL,eI),(s1,aX),(s2,x2),(cS,aY),(cX,bP),(cA,bF),(cP,bN)]:=(.n aO (.n h1 (.n af (.n aK (.n bu (.n cu (.n dM .nil)))))))
theorem Qk {b:Bool}{g h:aL}{eL s1 s2 cS cX cA cP df:Nat}{eI aX x2 aY bP bF bN bM:ab}(aO:g eL=some eI) [b4 eI] (h1:g s1=some aX) [b4 aX] (af:g s2=some x2) [b4 x2] (aK:g cS=some aY) [b4 aY] (bu:g cX=some bP) [b4 bP] (cu:g cA=some bF) [b4 bF] (dM:g cP=some bN) [b4 bN] (k4:g df=some bM) [b4 bM]:Trim b g h [(eL,eI),(s1,aX),(s2,x2),(cS,aY),(cX,bP),(cA,bF),(cP,bN),(df,bM)]:=(.n aO (.n h1 (.n af (.n aK (.n bu (.n cu (.n dM (.n k4 .nil))))))))
theorem ady {b:Bool}{g h:aL}{eL s1 s2 cS cX cA cP df eM:Nat}{eI aX x2 aY bP bF bN bM b2:ab}(aO:g eL=some eI) [b4 eI] (h1:g s1=some aX) [b4 aX] (af:g s2=some x2) [b4 x2] (aK:g cS=some aY) [b4 aY] (bu:g cX=some bP) [b4 bP] (cu:g cA=some bF) [b4 bF] (dM:g cP=some bN) [b4 bN] (k4:g df=some bM) [b4 bM] (mP:g eM=some b2) [b4 b2]:Trim b g h [(eL,eI),(s1,aX),(s2,x2),(cS,aY),(cX,bP),(cA,bF),(cP,bN),(df,bM),(eM,b2)]:=(.n aO (.n h1 (.n af (.n aK (.n bu (.n cu (.n dM (.n k4 (.n mP .nil)))))))))
theorem ZN {b:Bool}{g h:aL}{eL s1 s2 cS cX cA cP df eM fM:Nat}{eI aX x2 aY bP bF bN bM b2 dD:ab}(aO:g eL=some eI) [b4 eI] (h1:g s1=some aX) [b4 aX] (af:g s2=some x2) [b4 x2] (aK:g cS=some aY) [b4 aY] (bu:g cX=some bP) [b4 bP] (cu:g cA=some bF) [b4 bF] (dM:g cP=some bN) [b4 bN] (k4:g df=some bM) [b4 bM] (mP:g eM=some b2) [b4 b2] (wS:g fM=some dD) [b4 dD]:Trim b g h [(eL,eI),(s1,aX),(s2,x2),(cS,aY),(cX,bP),(cA,bF),(cP,bN),(df,bM),(eM,b2),(fM,dD)]:=(.n aO (.n h1 (.n af (.n aK (.n bu (.n cu (.n dM (.n k4 (.n mP (.n wS .nil))))))))))
theorem ZO {b:Bool}{g h:aL}{eL s1 s2 cS cX cA cP df eM fM gg:Nat}{eI aX x2 aY bP bF bN bM b2 dD bE:ab}(aO:g eL=some eI) [b4 eI] (h1:g s1=some aX) [b4 aX] (af:g s2=some x2) [b4 x2] (aK:g cS=some aY) [b4 aY] (bu:g cX=some bP) [b4 bP] (cu:g cA=some bF) [b4 bF] (dM:g cP=some bN) [b4 bN] (k4:g df=some bM) [b4 bM] (mP:g eM=some b2) [b4 b2] (wS:g fM=some dD) [b4 dD] (rL:g gg=some bE) [b4 bE]:Trim b g h [(eL,eI),(s1,aX),(s2,x2),(cS,aY),(cX,bP),(cA,bF),(cP,bN),(df,bM),(eM,b2),(fM,dD),(gg,bE)]:=(.n aO (.n h1 (.n af (.n aK (.n bu (.n cu (.n dM (.n k4 (.n mP (.n wS (.n rL .nil)))))))))))
section
variable {P:Program}{N:cQ}{ops:Array Oper}{g:aL}{K:aL->Prop}{l:List Oper}{d t:Nat}{ty:TypeId}{pos:String}{after:Array Edge}{v:Value}
theorem lp {G1:List (Nat × ab)}(h:Trim true g (get G1) G1):aD P N ops [] g λg'=>km g' (get G1):=.fin h
theorem dv (h:g t=some (.lit v)) (hk:aD P N ops l (cJ g d (.lit v)) K) (a_:N.ok d=true:=by rfl) (aS:g d=none:=by rfl):aD P N ops (⟨some d,.move (.tmp t),ty,pos,after,none⟩::l) g K:=ay (O.a6 (.lit h)) hk a_ aS
theorem yI (h:g t=some (.lit v)) (hk:aD P N ops l (cJ g d (.lit v)) K) (a_:N.ok d=true:=by rfl) (aS:g d=none:=by rfl):aD P N ops (⟨some d,.assign (.tmp t),ty,pos,after,none⟩::l) g K:=ay (O.dI (.lit h)) hk a_ aS
theorem Lv (h:ofConst v=.lit v) (hk:aD P N ops l (cJ g d (.lit v)) K) (a_:N.ok d=true:=by rfl) (aS:g d=none:=by rfl):aD P N ops (⟨some d,.assign (.const v),ty,pos,after,none⟩::l) g K:=ay (O.dI (.k h)) hk a_ aS
end
end Go.Own
namespace Go.Own
open Go
set_option linter.unusedSectionVars false
variable [cH]
section
variable {α:Type}{g:aL}
end
end Go.Own
namespace Go.Own
open Go
set_option linter.unusedSectionVars false
variable [cH]
section
variable {α:Type}{P:Program}{N:cQ}{g:aL}{d r:Nat}
theorem h0.jZ {o:Oper}{xs:List Operand}{gl:Array TypeId}{f:FuncId}{ys:List ab}{res:ab}{en:bz α}{L:List α}{G2:List (Nat × ab)}(aV:o.op=.call { callee:=.value (.func f),args:=xs.toArray,argTypes:=gl }) (aP:o.dst=some d) (j:Own.fK g xs=some (.bf en.z ⟨r,[]⟩ L.length::ys))
  (az:g r=some (ao en L)) (g_:bY P f (ao en L::ys) (none::ys.map λ_=>none) res) (aS:iI P f=true) [ah:b4 res] [aA:dj ys]
  (c':Trim false (cp g ⟨r,[]⟩ .dead) (get G2) G2) (aN:get G2 d=none) (a_:N.ok d=true) :
  h0 P N g o d (get ((d,res)::G2)):=by
 have mS:∀ x∈bp en L,cF x:=by
  intro x j;obtain ⟨a,_,aR⟩:=List.mem_flatMap.1 j;exact en.bj a x aR
 have e4:(bp en L).take (L.length * en.z)=bp en L:=List.take_of_length_le (by rw [oX]; exact Nat.le_refl _);have xm:hy (cp g ⟨r,[]⟩ .dead) (get G2):=by
  refine ⟨λt x h=>?_,λt x h=>(c'.spec t x h).2.1,λt z q n m new h=>(c'.spec t _ h).2.2 _ _ _ _ _ rfl⟩;obtain ⟨⟨y,h1,_,aK⟩,_⟩:=c'.spec t x h;rw [<- aK rfl]; exact h1
 have xn:hy (get G2) (get G2):=⟨λt x h=>h,λt x h=>(c'.spec t x h).2.1,λt z q n m new h=>(c'.spec t _ h).2.2 _ _ _ _ _ rfl⟩;have qL:get ((d,res)::G2)=cJ (get G2) d res:=by
  funext t;rw [sw]
 rw [qL];refine yn.ok (first:=[]) (caps:=[]) (ys:=.bf en.z ⟨r,[]⟩ L.length::ys) (tk:=λ_=>true) (vw:=false) (outs:=none::ys.map λ_=>none) (g1:=cp g ⟨r,[]⟩ .dead) (g2:=get G2) (g4:=get G2) (l:=[]) (ks:=λ_=>0) (xs0:=.bf en.z ⟨r,[]⟩ L.length::ys) (xs1:=ao en L::ys) (args:=ao en L::ys) (res:=res) aV aP rfl (by simpa using j)
  ⟨aS,by simp,by simp,λk x h=>.inl (by simpa using h),?_,xm,λk x y j al=>by simpa using al,g_,by simpa using ah.bj,λk x h=>?_,λJ p x aj=>by simp at aj,by simp,λi J hi aj _=>by simp at hi,xn⟩ aN a_ wj.refl
 ·have h1:Take (cp g ⟨r,[]⟩ .dead) ((bp en L).take (L.length * en.z)) (bp en L) (cp g ⟨r,[]⟩ .dead):=by rw [e4]; exact .bj mS
  exact .bf (N:=L.length) (by simp [bt,az,ab.at]) (Nat.le_refl _) h1 (.bj aA.bj)
 ·cases k with
  | zero=>simp at h
  | succ k =>
   simp only [List.getElem?_cons_succ,List.getElem?_map] at h;cases aR:ys[k]? <;> rw [aR] at h <;> cases h
end
end Go.Own
namespace Go.Own
open Go
set_option linter.unusedSectionVars false
variable [cH]
class u1 (x:ab):Prop where pl:lP x
class DD (cs:List ab):Prop where pl:∀ x∈cs,lP x
instance {v:Value}:u1 (.lit v):=⟨.lit⟩
instance:u1 .aT:=⟨.aT⟩
instance {z n:Nat}{cs:List ab} [h:dj cs]:u1 (.bk z n cs):=⟨.bk h.bj⟩
instance {α:Type}{e:bz α}{L:List α}:u1 (ak e L):=⟨.bk (dj.bj (cs:=bp e L))⟩
instance {cs:List ab} [h:DD cs]:u1 (.agg cs):=⟨.agg h.pl⟩
instance:DD []:=⟨by simp⟩
instance {x:ab}{cs:List ab} [h:u1 x] [aJ:DD cs]:DD (x::cs):=⟨λy al=>by
 rcases List.mem_cons.1 al with rfl | al
 ·exact h.pl
 ·exact aJ.pl y al⟩
class DB (G:List (Nat × ab)):Prop where bj:∀ t x,get G t=some x->cF x
instance:DB []:=⟨λt x h=>by cases h⟩
instance {s:Nat}{x:ab}{G:List (Nat × ab)} [h:b4 x] [aJ:DB G]:DB ((s,x)::G):=⟨λt y al=>by
 simp only [get] at al
 split at al
 ·cases al; exact h.bj
 ·exact aJ.bj t y al⟩
class yB (acc:Acc):Prop where bj:∀ e∈acc,∀ x,e.2.2=some x->cF x
instance:yB []:=⟨by simp⟩
instance {k d:Nat}{x:ab}{acc:Acc} [h:b4 x] [aJ:yB acc]:yB ((k,d,some x)::acc):=⟨λe he y al=>by
 rcases List.mem_cons.1 he with rfl | he
 ·cases al; exact h.bj
 ·exact aJ.bj e he y al⟩
instance {k d:Nat}{acc:Acc} [aJ:yB acc]:yB ((k,d,none)::acc):=⟨λe he y al=>by
 rcases List.mem_cons.1 he with rfl | he
 ·cases al
 ·exact aJ.bj e he y al⟩
theorem L' {G:List (Nat × ab)}{A:Nat->Bool}{acc:Acc} [h:DB G] [aJ:yB acc]:Gh (c5 (get G) A acc):=by
 have key:∀ t x,c5 (get G) A acc t=some x->cF x:=λt x j=>by
  rcases uS j with ⟨e,he,_,_,af⟩ | ⟨_,af⟩
  ·exact aJ.bj e he x af
  ·exact h.bj t x af
 exact ⟨λt x j=>.bj (key t x j),λt z q n m new j=>by cases key t _ j⟩
end Go.Own
namespace Go.Own
open Go Go.MapKept Go.ChangeMaps
set_option linter.unusedSectionVars false
variable [cH]
section
variable {P:Program}{w:World}{I:a8}{T:Array Value}{g g2:aL}{Fs:Nat->a8}
end
end Go.Own
namespace Go.Own
open Go Go.MapKept Go.ChangeMaps Go.WideElems
set_option linter.unusedSectionVars false
variable [cH]
open Go.Maps (Keyed)
set_option linter.unusedVariables false
variable {kB l_:Type}{P:Program}{k e:TypeId}
abbrev yE:Value->Option (DataW Value × List MemPlace):=λv=>some (.held v,[])
def sc [DecidableEq kB]:List (kB × l_)->kB->Option l_
 | [],_=>none
 | p::m,x=>if p.1=x then some p.2 else sc m x
def OB [DecidableEq kB] (ok:kB->Bool) (z:l_) (m:List (kB × l_)) (x:kB):Option l_:=if ok x then some ((sc m x).getD z) else none
def OD (ok:kB->Bool) (m:List (kB × l_)) (x:kB) (y:l_):Option (List (kB × l_)):=if ok x&&decide (m.length<=lim) then some ((x,y)::m) else none
structure Lj (P:Program) (k:TypeId) (kB:Type) where
 qY:kB->Value
 zx:kB->Lit
 Of:kB->ab
 ok:kB->Bool
 keyed:Keyed P k
 key:∀ x,ok x=true->keyOf P k (qY x)=some (zx x)
 inj:∀ x y,zx x=zx y->x=y
 LQ:∀ (x:kB) (w:World) (I:a8) (ρ:ab->Value->Prop) (v:Value),R w I ρ (Of x) v ct->v=qY x
structure Lk (P:Program) (e:TypeId) (l_:Type) where
 pM:l_->Value
 KM:l_->ab
 z:l_
 zero:∀ w,(zeroValue e).run P w=.ok (pM z) w
 one:∀ x,(pM x).oneCell'=true
 LQ:∀ (x:l_) (w:World) (I:a8) (ρ:ab->Value->Prop) (v:Value),R w I ρ (KM x) v ct->v=pM x
 nP:∀ (x:l_) (w:World) (I:a8) (ρ:ab->Value->Prop),R w I ρ (KM x) (pM x) ct
def x8 (P:Program) (k:TypeId) (es:Array MapEntry):List (Lit × DataW Value):=(es.toList.map (rg P k yE)).foldr DataW.insert []
def tq [DecidableEq kB] (K:Lj P k kB) (V:Lk P e l_) (m:List (kB × l_)):Array MapEntry->Nat->Prop:=λes c=>Fit P k yE es c/\es.size<=m.length/\∀ x Ga,(DataW.map (x8 P k es)).atKey (K.zx x) Ga=match sc m x with | some y=>.held (V.pM y) | none=>Ga
variable [DecidableEq kB] {K:Lj P k kB}{V:Lk P e l_}{m bh:List (kB × l_)}{x:kB}{y:l_}{t:TypeId}
theorem tq.nil:tq K V [] #[] 0:=⟨⟨by simp,stamped_empty 0,by simp⟩,Nat.le_refl _,λx Ga=>rfl⟩
theorem tq.look (ok:Bool) (da:K.ok x=true) (ar:P.underlying t=some (.map k e)) (w:World) (b:Nat) (es:Array MapEntry) (c:Nat) (av:w.heap[b]?=some (.map es c)) (h:tq K V m es c) :
  (Instr.lookup t (.map (some b)) (K.qY x) ok).run P w=.ok (if ok then .tuple #[V.pM ((sc m x).getD V.z),.bool (sc m x).isSome] else V.pM ((sc m x).getD V.z)) w:=by
 obtain ⟨F,_,fG⟩:=h;have fG:=fG x;rcases Maps.fit_look ok K.keyed ar (V.zero w) av F (K.key x da) with ⟨h9,_,af⟩ | ⟨hp,y,_,_,h9,al,af,_⟩
 ·have:sc m x=none:=by
   cases aN:sc m x with
   | none=>rfl
   | some y =>
    have h1:=fG .nil;rw [aN] at h1;have aK:=af .nil;unfold x8 at h1;rw [h1] at aK; cases aK
  rw [h9,this]; rfl
 ·cases al;cases aN:sc m x with
  | none =>
   have h1:=fG .nil;rw [aN] at h1;have aK:=af .nil;unfold x8 at h1;rw [h1] at aK; cases aK
  | some y =>
   have h1:=fG .nil;rw [aN] at h1;have aK:=af .nil;unfold x8 at h1;rw [h1] at aK;have bu:hp.val=V.pM y:=by simpa using aK.symm
   rw [h9,bu]; rfl
theorem tq.put (aO:OD K.ok m x y=some bh) (ar:P.underlying t=some (.map k e)) (w:World) (b:Nat) (es:Array MapEntry) (c:Nat) (av:w.heap[b]?=some (.map es c)) (h:tq K V m es c) :
  ∃ wN j9,(Instr.mapUpdate t (.map (some b)) (K.qY x) (V.pM y)).run P w=.ok () (setBlock w b (.map wN j9))/\tq K V bh wN j9:=by
 unfold OD at aO
 split at aO
 ·rename_i aa;cases aO;simp only [Bool.and_eq_true,decide_eq_true_eq] at aa;obtain ⟨da,ai⟩:=aa;obtain ⟨F,az,fG⟩:=h;have Nz:=K.key x da;obtain ⟨wN,j9,h9,cY,nw,_⟩:=Maps.fit_store (R':=yE) K.keyed ar av F (by have:maxLen=9223372036854775807:=rfl; simp only [lim] at ai; omega) (λ_ _ _ _ aW=>aW) Nz (rfl:yE (V.pM y)=some (.held (V.pM y),[]));refine ⟨wN,j9,h9,cY,?_,λx' Ga=>?_⟩
  ·have cw:wN.size=((wN.toList.map (rg P k yE)).foldr DataW.insert []).length:=by rw [length_sorted]; simp
   rw [cw,nw];unfold putKey;rw [length_insert];have cd:=List.length_filter_le (notKey (K.zx x)) ((es.toList.map (rg P k yE)).foldr DataW.insert []);rw [length_sorted] at cd;simp at cd ⊢;omega
  ·have fC:(DataW.map (x8 P k wN))=(DataW.map (x8 P k es)).put (K.zx x) (.held (V.pM y)):=by
    rw [DataW.put_eq]; unfold x8; rw [nw]
   rw [fC];by_cases j:x=x'
   ·subst j;rw [Maps.atKey_put_same ⟨_,rfl⟩ (K.keyed.key Nz)];simp [sc]
   ·rw [Maps.atKey_put_other (λe=>j (K.inj _ _ e).symm),fG];simp [sc,j]
 ·cases aO
section
variable {N:cQ}{g:aL}{a b c:Operand}{p:Place}{ty:TypeId}
instance {q:Array MapEntry->Nat->Prop}:b4 (.mp q):=⟨.mp⟩
instance {q:Array MapEntry->Nat->Prop}:b4 (.imp q):=⟨.imp⟩
instance {q:Array MapEntry->Nat->Prop}:oo (.mp q):=⟨.mp⟩
theorem O.Ce {r:l_}{X Y:ab}(hm:Rd g a (.imp (tq K V m))) (j:Rd g b Y) (HV:K.Of x=Y) (ar:P.underlying t=some (.map k e)) (h:OB K.ok V.z m x=some r) (wU:V.KM r=X):b8 P g (.lookup t a b false) ty X:=by
 subst wU HV;unfold OB at h
 split at h
 ·rename_i da;cases h;exact .eK (.Ce hm.bn j.bn (K.LQ x) (V.nP _) λw b es c av a7=>tq.look false da ar w b es c av a7)
 ·cases h
end
end Go.Own
namespace Go.Own
open Go
set_option linter.unusedSectionVars false
variable [cH]
section
variable {α:Type}{P:Program}{N:cQ}{g:aL}{d r:Nat}{ty t t2 e:TypeId}{a b:Operand}{k kL:IntKind}{m n:Int}{p:Place}
def N' (L:List α) (m:Int):Option Unit:=if 0<=m/\m<=L.length then some () else none
instance:wo ax:=⟨λx=>[.int .i64 x],λ_=>rfl,λx v hv=>by rw [List.mem_singleton.1 hv]; rfl⟩
theorem O.P7 {en:bz α}{L:List α}{u:Unit}(j:Rd g a (.bf en.z p L.length)) (ai:Rd g b (.lit (.int k m))) (au:bt g p=some (ao en L)) (ar:fe P t e en.z=true) (h:N' L m=some u):b8 P g (.slice t a (some b) none none) ty (.sub en.z p m.toNat (L.length - m.toNat)):=by
 unfold N' at h
 split at h
 ·rename_i aa;obtain ⟨i,rfl⟩:=Int.eq_ofNat_of_zero_le aa.1;exact .eK (.FI j.bn ⟨_,ai.bn⟩ rfl ar (by omega) (Nat.le_refl _) ⟨_,_,au,by omega⟩)
 ·cases h
def Mg (lo nd:Nat) (L S:List α):Option (List α):=if 0<min S.length nd/\lo+nd<=L.length then some (L.take lo++S.take (min S.length nd)++L.drop (lo+min S.length nd)) else none
def Ci (e:bz α) [h:wo e] (L:List α):List Value:=L.flatMap h.FL
theorem JP (e:bz α) [h:wo e] (L:List α):bp e L=(Ci e L).map .lit:=by
 induction L with
 | nil=>rfl
 | cons x L aM =>
  have:bp e (x::L)=e.cells x++bp e L:=by simp [bp]
  rw [this,aM,h.cells];simp [Ci]
theorem Q'.bk {en:bz α}{S:List α}:Src g (ak en S) en.z S.length (bp en S):=.bk
theorem Q'.bf {en:bz α} [wo en] {L:List α}{q:Place}{n:Nat}(a7:bt g q=some (ao en L)) (aA:n<=L.length):Src g (.bf en.z q n) en.z (L.take n).length (bp en (L.take n)):=by
 have h1:(L.take n).length=n:=by rw [List.length_take]; omega
 have af:bp en (L.take n)=(((bp en L).take (n * en.z)).mapIdx λi x=>fL 0 (q.push i) x):=by
  rw [x1,JP];apply List.ext_getElem?;intro J;rw [List.getElem?_mapIdx];cases aj:((Ci en (L.take n)).map ab.lit)[J]? with
  | none=>rfl
  | some y =>
   obtain ⟨v,_,rfl⟩:=List.mem_map.1 (List.mem_of_getElem? aj);rfl
 rw [h1,af];exact .bf a7 aA
theorem Zl {z:Nat}(h:fe P t e z=true):(P.info? e).map (·.size)=some z:=by
 grind [fe]
theorem bq.ba {o:Oper}{en:bz α} [ai:wo en] {L S hQ:List α}{lo nd:Nat}{KX l9:ab}{G2:List (Nat × ab)}(aV:o.op=.call { callee:=.builtin .copy,args:=#[a,b],argTypes:=#[t,t2] }) (aP:o.dst=some d) (aR:bn g a=some KX) (Xc:KX=.sub en.z ⟨r,[]⟩ lo nd\/(KX=.bf en.z ⟨r,[]⟩ nd/\lo=0)) (av:bn g b=some l9)
  (rV:Src g l9 en.z S.length (bp en S)) (az:g r=some (ao en L)) (sN:en.z=1) (ar:fe P t e 1=true) (h:Mg lo nd L S=some hQ) (mV:(get G2 r).isSome=true) (c':lv g (get G2) r (ao en hQ) G2) (sA:get G2 d=none) (a_:N.ok d=true) :
  bq P N g o (get ((d,ae ((min S.length nd:Nat):Int))::G2)):=by
 unfold Mg at h;by_cases aa:0<min S.length nd/\lo+nd<=L.length
 case neg=>rw [if_neg aa] at h; cases h
 rw [if_pos aa] at h;obtain ⟨mu,acZ⟩:=aa;cases h;generalize hk:min S.length nd=k at *;have acY:k<=S.length:=by omega
 have ac0:k<=nd:=by omega
 refine .PT λw I T Fs h b1 y_ UJ K Q Eh=>?_;obtain ⟨hu,he,eR⟩:=qw (w:=w) ar;have au:bt g ⟨r,[]⟩=some (ao en L):=by simp [bt,az,ab.at]
 have M8:=lh h aR y_;obtain ⟨v0,cq,jq,dE,dq⟩:=h.part au (by simp);obtain ⟨a0,aas,rfl,k6,hlen,qQ,uh⟩:=dE.mZ;have UF:0<L.length:=by omega
 cases a0 with
 | none=>have:=uh UF; simp at this
 | some LA =>
 obtain ⟨BE,BF⟩:=qQ LA rfl;obtain ⟨g0,ads,adw⟩:=LA;simp only at BE BF;subst BE BF;have oG:cq g0:=dE.qn g0 rfl
 -- the target
 have Ih:∃ cap,b1.eval a=.slice (some ⟨g0,lo,none⟩) nd cap:=by
  rcases Xc with rfl | ⟨rfl,rfl⟩
  ·obtain ⟨⟨lx,uZ,L0,aB,c1,h1,af,_,_,cu⟩,_⟩:=M8.xi;rw [h1] at jq;cases jq;obtain ⟨ad,cw,cd⟩:=cu (by omega);cases cw;rw [af,cd,sN];exact ⟨c1,by simp⟩
  ·obtain ⟨⟨lx,uZ,L0,h1,af,_⟩,_⟩:=M8.mX;rw [h1] at jq;cases jq;exact ⟨_,af⟩
 obtain ⟨Tv,Ih⟩:=Ih
 -- the source
 obtain ⟨C8,Y9,news,vt,IH,BN,mq,hJ,gy,a1⟩:=rV.sound h (lh h av y_);rw [sN,Nat.mul_one] at IH;cases C8 with
 | none=>have:=BN (by omega) (by omega); simp at this
 | some PI =>
 have ac':news=Ci en S:=by
  rw [JP,List.length_map] at hJ;apply List.ext_getElem hJ.symm;intro J h1 af;have:=(a1 J (.lit (Ci en S)[J]) news[J] (by rw [JP,List.getElem?_map,List.getElem?_eq_getElem af]; rfl) (List.getElem?_eq_getElem h1)).h_.1;exact this
 -- the block
 cases dE with
 | ref j=>simp [ab.isRef] at j
 | @own _ _ _ _ b_ us bV _ lV hS h1 ah mr jn aI =>
 obtain ⟨k_,bH⟩:=lV;rcases bH with ⟨bH,_⟩ | ⟨dz,cap,cur,bH,q9,jY,xW,vX,Aa,xX⟩
 ·cases bH
 cases bH;have Nj:L.length<=cur.size:=by
  have wS:(cur.toList.take (L.length * en.z)).length=L.length * en.z:=by rw [xX,k_]
  rw [List.length_take,sN,Nat.mul_one,Array.length_toList] at wS;rw [sN] at Aa;omega
 have Ek:(news.take k).length=k:=by rw [List.length_take]; omega
 have h9:(execOp b1.eval o).run P w=.ok (.value (goInt k)) (w.setRow g0 (eP cur.toList lo (news.take k)).toArray):=by
  have mP:=run_copy_row (P:=P) w t t2 o.type e g0 lo nd Tv PI S.length Y9 cur b_ (news.take k) hu (Zl ar) jY (by rw [Ek]; exact hk.symm) (λJ v aj=>by
   rw [List.getElem?_take] at aj
   split at aj
   ·exact mq PI rfl J v aj
   ·cases aj) (by rw [Ek]; omega) (λv hv=>by
   obtain ⟨J,aj⟩:=List.getElem?_of_mem (List.mem_of_mem_take hv);exact gy J v aj)
  rw [Ek] at mP;have qL:(cur.toList.take lo++news.take k++cur.toList.drop (lo+k))=eP cur.toList lo (news.take k):=by unfold eP; rw [Ek]
  rw [qL] at mP;simp [execOp,aV,resolve,invoke,Ih,vt,builtin,mP]
 -- the state
 have Wn:∀ (J:Nat) (x:ab) (u:Value),((bp en S).take k)[J]?=some x->(news.take k)[J]?=some u->R w I (fP w T) x u ct:=λJ x u j hu=>by
  rw [List.getElem?_take] at j hu
  split at j
  ·rename_i aj;rw [if_pos aj] at hu;exact (a1 J x u j hu).frame (λ_ _=>rfl) (λ_ h=>h) (λ_ _ h=>h.1) λ_ _=>rfl
  ·cases j
 have hH:Hand w I (fP w T) Fs ((bp en S).take k) (news.take k) (λ_=>ct) :=
  ⟨by rw [List.length_take,List.length_take,hJ],Wn,λ_ _ _ _ _ h=>h.elim,λ_ _ _ _ h=>h.elim,λ_ _ _ h=>h.elim⟩
 have Ni:((bp en S).take k).length=k:=by rw [List.length_take,hJ]; omega
 have UE:(bp en L).length=L.length:=by rw [oX,sN,Nat.mul_one]
 have rS:(ao en L).eP lo ((bp en S).take k)=ao en (L.take lo++S.take k++L.drop (lo+k)):=by
  show ab.own en.z L.length (eP (bp en L) lo ((bp en S).take k))=_;have cw:eP (bp en L) lo ((bp en S).take k)=bp en (L.take lo++S.take k++L.drop (lo+k)):=by
   unfold eP;rw [Ni,Fx,Fx];have kN:=x1 en L lo;have Fm:=x1 en S k;have C2:=Ad en L (lo+k);rw [sN,Nat.mul_one] at kN Fm C2;rw [kN,Fm,C2]
  unfold ao;rw [cw];congr 1;simp; omega
 have Wc:∀ (J:Nat) (u:Value),(news.take k)[J]?=some u->u.oneCell'=true:=λJ u hu=>by
  rw [List.getElem?_take] at hu
  split at hu
  ·exact gy J u hu
  ·cases hu
 have c1:∀ t x,get G2 t=some x->cp g ⟨r,[]⟩ ((ao en L).eP lo ((bp en S).take k)) t=some x:=λt x j=>by
  rw [rS];rcases c'.spec t x j with ⟨h1,af,_⟩ | ⟨h1,af,_⟩
  ·rw [x5 h1]; exact af
  ·subst h1 af; simp [cp,az,ab.setAt]
 have c2:∀ t x,get G2 t=some x->∀ y,g t=some y->kl (λq=>gZ g q/\Clear ⟨r,[]⟩ lo ((bp en S).take k).length q/\gZ (get G2) q) y:=λt x j y al=>by
  rcases c'.spec t x j with ⟨h1,af,aK⟩ | ⟨h1,af,aK⟩
  ·rw [af] at al; cases al;rcases aK with aK | ⟨_,c2,Tz⟩
   ·exact aK.Km
   ·cases Tz
  ·subst h1; rw [az] at al; cases al; exact .bj (.own (pK en L))
 have j_:∀ t z q n m new,get G2 t≠some (.bC z q n m new):=λt z q n m new j=>by
  rcases c'.spec t _ j with ⟨_,_,aK | ⟨aK,_⟩⟩ | ⟨_,_,aK⟩
  ·exact aK.fr _ _ _ _ _ rfl
  ·exact aK.fr _ _ _ _ _ rfl
  ·cases aK
 obtain ⟨iT,h7,gA⟩:=h.mD.store (g2:=get G2) au (.inl rfl) (k:=lo) (cs':=(bp en S).take k) (by rw [Ni,UE]; omega) hH (λx j=>pK en S x (List.mem_of_mem_take j)) (λh=>by cases h) Wc c1 c2 j_ (by intro e; rw [e] at mV; cases mV) jq rfl jY;have nw:=h7.uI (d:=d) (x:=ae (k:Int)) (v:=goInt k) (F:=ct) sA (by rw [<- y_,UJ]; exact cQ.lt a_) (.tree (.lit rfl λ_ h=>h)) (λ_ _ h=>h.elim) (λ_ h=>h.elim) (by rintro z p n m new e; cases e);unfold Oper.wp Oper.upon;simp only [h9];have qL:get ((d,ae (k:Int))::G2)=cJ (get G2) d (ae (k:Int)):=by
  funext t;rw [sw]
 rw [<- qL] at nw;have H6:∃ t,Fs t g0:=⟨_,dq g0 oG⟩;refine Eh _ _ ⟨by rw [aP]; rfl,by rw [aP]; exact hE.put a_ _ _,I,_,by rw [aP]; simpa [Act.put,y_] using nw,⟨⟨rfl,rfl,rfl,by simp,λc _ aa=>setRow_other w g0 c _ (λe=>aa (e ▸ H6)),λa _ _=>D7 w g0 _ a,Nat.le_refl _⟩,λ_ h=>h,λ_ h=>.inl h,λc aa=>?_⟩⟩ λt ar=>by rw [aP]; simp only [Act.put]; rw [Array.getElem?_setIfInBounds_ne]; rintro rfl; exact ar aP
 obtain ⟨t,aa⟩:=aa;simp only [uR] at aa
 split at aa
 ·exact aa.elim
 ·rcases gA t c aa with f' | ⟨_,_,f'⟩
  ·exact .inl ⟨t,f'⟩
  ·exact f'.elim
end
end Go.Own
namespace Go.Own
open Go
set_option linter.unusedSectionVars false
variable [cH]
def Fw (eg:List Nat) (o:Oper):Oper:=⟨o.dst,o.op,o.type,o.pos,o.after.map λe=>⟨eg.idxOf e.on,e.ground⟩,o.guard.map λp=>(eg.idxOf p.1,p.2)⟩
def lj (eg:List Nat) (l:List Oper):List Oper:=eg.map λk=>Fw eg (l.getD k default)
def J' (eg:List Nat) (n:Nat):Bool:=Nat.beq eg.length n&&(List.range n).all λk=>eg.contains k&&Nat.blt (eg.getD k n) n&&Nat.beq (eg.idxOf (eg.getD k n)) k
structure Perm (eg:List Nat) (n:Nat):Prop where
 len:eg.length=n
 mem:∀ k,k<n->eg.idxOf k<n/\eg.getD (eg.idxOf k) n=k
 lt:∀ J,J<n->eg.getD J n<n/\eg.idxOf (eg.getD J n)=J
theorem Yl {eg:List Nat}{n:Nat}(h:J' eg n=true):Perm eg n:=by
 unfold J' at h;simp only [Bool.and_eq_true,Nat.beq_eq,List.all_eq_true,List.mem_range,Nat.blt_eq] at h;obtain ⟨ai,hh⟩:=h;refine ⟨ai,λk hk=>?_,λJ aj=>⟨(hh J aj).1.2,(hh J aj).2⟩⟩
 grind
section
variable {P:Program}{Q:Exit->Act->World->Prop}{eg:List Nat}{l:List Oper}
theorem Ka (jR:Perm eg l.length) {J:Nat}(aj:J<l.length):(lj eg l).toArray[J]?=some (Fw eg (l.getD (eg.getD J l.length) default))/\l.toArray[eg.getD J l.length]?=some (l.getD (eg.getD J l.length) default):=by
 have h1:J<eg.length:=by rw [jR.len]; exact aj
 have af:=(jR.lt J aj).1
 grind [lj]
theorem Pd (jR:Perm eg l.length) {A B:Array Bool}(dX:A.size=l.length) (fh:B.size=l.length) (sx:∀ J,J<l.length->B.getD J true=A.getD (eg.getD J l.length) true) {J:Nat}(aj:J<l.length) :
  eg.getD J l.length∈Region.ready .any l.toArray A↔J∈Region.ready .any (lj eg l).toArray B:=by
 obtain ⟨h1,af⟩:=Ka jR aj;have adx:∀ {C:Array Bool}{k:Nat},k<C.size->C.getD k false=C.getD k true:=λ{C k} h=>by simp [Array.getD,h]
 have gone:∀ {C:Array Bool}{k:Nat},¬ k<C.size->C.getD k false=false:=λ{C k} h=>by simp [Array.getD,h]
 have Mt:∀ m,A.getD m false=true↔B.getD (eg.idxOf m) false=true:=λm=>by
  by_cases hm:m<l.length
  ·obtain ⟨aK,bu⟩:=jR.mem m hm
   grind
  ·have cu:¬ eg.idxOf m<l.length:=λh=>by
    have dM:=List.idxOf_lt_length_iff.1 (by rw [jR.len]; exact h);obtain ⟨i,hi,e⟩:=List.mem_iff_getElem.1 dM;have:=(jR.lt i (by rw [<- jR.len]; exact hi)).1
    grind
   grind
 rw [mem_ready,mem_ready,sx J aj];constructor
 ·rintro ⟨a,o,aV,h⟩;rw [af] at aV;cases aV;refine ⟨a,_,h1,λe he av=>?_⟩;obtain ⟨hp,VF,rfl⟩:=Array.mem_map.1 he;exact (Mt _).1 (h hp VF av)
 ·rintro ⟨a,o,aV,h⟩;rw [h1] at aV;cases aV;refine ⟨a,_,af,λe he av=>?_⟩;exact (Mt _).2 (h ⟨eg.idxOf e.on,e.ground⟩ (Array.mem_map.2 ⟨e,he,rfl⟩) av)
theorem Yn (jR:Perm eg l.length) (o:Oper) (T:Array Value):Region.wanted (Fw eg o) (yielded (lj eg l).toArray T)=Region.wanted o (yielded l.toArray T):=by
 unfold Region.wanted Fw;cases aN:o.guard with
 | none=>rfl
 | some p =>
  obtain ⟨m,b⟩:=p;simp only [Option.map_some];have:yielded (lj eg l).toArray T (eg.idxOf m)=yielded l.toArray T m:=by
   unfold yielded;by_cases hm:m<l.length
   ·obtain ⟨aK,bu⟩:=jR.mem m hm;obtain ⟨h1,af⟩:=Ka jR aK;rw [bu] at h1 af;rw [h1,af];rfl
   ·have cu:¬ eg.idxOf m<l.length:=λh=>by
     have dM:=List.idxOf_lt_length_iff.1 (by rw [jR.len]; exact h);obtain ⟨i,hi,e⟩:=List.mem_iff_getElem.1 dM;have:=(jR.lt i (by rw [<- jR.len]; exact hi)).1
     grind
    have cw:(lj eg l).toArray[eg.idxOf m]?=none:=by
     rw [List.getElem?_toArray];exact List.getElem?_eq_none (by simp [lj,jR.len]; omega)
    grind
  rw [this]
theorem Ym (jR:Perm eg l.length):∀ (fuel:Nat) (A B:Array Bool) (a:Act) (w:World),A.size=l.length->B.size=l.length->(∀ J,J<l.length->B.getD J true=A.getD (eg.getD J l.length) true) ->
  wpAny P .any (lj eg l).toArray Q fuel B a w->wpAny P .any l.toArray Q fuel A a w:=by
 have lift:∀ {A B:Array Bool},A.size=l.length->B.size=l.length->(∀ J,J<l.length->B.getD J true=A.getD (eg.getD J l.length) true)->∀ k,k∈Region.ready .any l.toArray A->∃ J,J<l.length/\eg.getD J l.length=k/\J∈Region.ready .any (lj eg l).toArray B:=λ{A B} dX fh sx k hk=>by
  have dV:k<l.length:=by
   grind [mem_ready]
  obtain ⟨aK,bu⟩:=jR.mem k dV
  grind [Pd]
 have nil:∀ {A B:Array Bool},A.size=l.length->B.size=l.length->(∀ J,J<l.length->B.getD J true=A.getD (eg.getD J l.length) true)->Region.ready .any l.toArray A=[]->Region.ready .any (lj eg l).toArray B=[]:=λ{A B} dX fh sx h=>by
  cases ah:Region.ready .any (lj eg l).toArray B with
  | nil=>rfl
  | cons J r =>
   have aj:J∈Region.ready .any (lj eg l).toArray B:=by rw [ah]; simp
   have eY:J<l.length:=by
    grind [mem_ready]
   have:=(Pd jR dX fh sx eY).2 aj
   grind
 intro fuel
 induction fuel with
 | zero =>
  intro A B a w dX fh sx h;refine ⟨?_,h.2⟩;cases ah:Region.ready .any l.toArray A with
  | nil=>rfl
  | cons k r =>
   obtain ⟨J,_,_,aj⟩:=lift dX fh sx k (by rw [ah]; simp);rw [h.1] at aj;cases aj
 | succ fuel aM =>
  intro A B a w dX fh sx h;refine ⟨λah=>h.1 (nil dX fh sx ah),λk hk=>?_⟩;obtain ⟨J,eY,rfl,aj⟩:=lift dX fh sx k hk;have az:=h.2 J aj;obtain ⟨h1,af⟩:=Ka jR eY;have Uk:∀ i,i<l.length->(B.setIfInBounds J true).getD i true=(A.setIfInBounds (eg.getD J l.length) true).getD (eg.getD i l.length) true:=λi hi=>by
   have aQ:=(jR.lt J eY).1;have IC:=(jR.lt i hi).1;have e:∀ (C:Array Bool) (p q:Nat),p<C.size->q<C.size->(C.setIfInBounds p true).getD q true=if q=p then true else C.getD q true:=λC p q au a7=>by
    by_cases h:q=p
    ·simp_all
    ·rw [if_neg h];simp [Array.getD,a7,Array.getElem_setIfInBounds_ne,Ne.symm h]
   rw [e B J i (by omega) (by omega),e A _ _ (by omega) (by omega),sx i hi];by_cases h:i=J
   ·grind
   ·rw [if_neg h,if_neg];intro aJ;have:=(jR.lt i hi).2;rw [aJ,(jR.lt J eY).2] at this
    grind
  have mono:∀ a w,wpAny P .any (lj eg l).toArray Q fuel (B.setIfInBounds J true) a w->wpAny P .any l.toArray Q fuel (A.setIfInBounds (eg.getD J l.length) true) a w:=λa w aJ=>aM _ _ a w (by simpa using dX) (by simpa using fh) Uk aJ;unfold wpOp at az ⊢;rw [af];rw [h1] at az;simp only [Yn jR] at az;show if Region.wanted (l.getD (eg.getD J l.length) default) (yielded l.toArray a.tmps)=true then _ else _
  split
  ·rename_i hw;rw [if_pos hw] at az;exact az.imp (λaJ=>Oper.wp_mono mono aJ) id
  ·rename_i hw;rw [if_neg hw] at az;exact mono _ _ az
end
section
variable {P:Program}{N:cQ}
theorem W.YF {id:Nat}{l:List Oper}{G:List (Nat × ab)}{Φ:Exit->aL->Prop}(eg:List Nat) (a':List (List Nat)) (G1:List (Nat × ab)) (hm:P.follows .mixedOrders=true) (dX:pf (lj eg l).toArray a'=true) (jR:J' eg l.length=true)
  (h:bA P N (lj eg l).toArray a' (get G) 0 [] (lj eg l) λg'=>km g' (get G1)) (hk:aF .normal Φ G1):W P N (.region id l.toArray true) (get G) Φ:=by
 have au:=Yl jR;obtain ⟨g',h1,af⟩:=h [] 0 .nil .nil (by simp);have eR:(lj eg l).toArray.size=l.length:=by simp [lj,au.len]
 refine fU.w (g':=g') (e:=.normal) ?_ (hk g' (.eH af .hW));intro Q a w I Fs bm a_ dH;refine wp_region_any hm ?_;have d_:cG w.drew I a.tmps (get G) Fs:=bm.world (λ_ _ _=>rfl) (λ_ _=>rfl) (Nat.le_refl _);have hh:∀ k,dA (Array.replicate (lj eg l).toArray.size false) k=false:=by
  intro k;unfold dA;rcases Nat.lt_or_ge k (lj eg l).toArray.size with h | h
  ·simp_all
  grind
 refine Ym au _ _ (Array.replicate l.length false) a w.drew (by simp) (by simp) (λJ aj=>?_) ?_
 ·have:=(au.lt J aj).1
  simp_all
 have wS:=h1.sound dX .nil (lj eg l).toArray.size (Array.replicate (lj eg l).toArray.size false) a w.drew I Fs ?_ (by simp) (λk hk=>by omega) (λk _=>hh k) (λk hk=>by rw [hh] at hk; cases hk) d_ a_ (λb1 w' aA=>dH _ _ ?_)
 ·grind
 ·grind [ho]
 ·obtain ⟨cw,cd,I',b3,h7,bR⟩:=aA;exact ⟨cw,cd,I',b3,h7,⟨⟨bR.ep.os,bR.ep.tape,bR.ep.output,bR.ep.size,bR.ep.block,bR.ep.dG,Nat.le_trans (Nat.le_succ _) bR.ep.wL⟩,bR.more,bR.new,bR.own⟩⟩
end
end Go.Own
namespace Go.Own
open Go
set_option linter.unusedSectionVars false
variable [cH]
section
variable {α:Type}{P:Program}{N:cQ}{g:aL}{a b:Operand}{t:TypeId}{m i:Int}
end
end Go.Own
namespace Go.Own
open Go
set_option linter.unusedSectionVars false
variable [cH]
section
variable {P:Program}{N:cQ}{ops:Array Oper}{a':List (List Nat)}{g g0:aL}{K:aL->Prop}{l:List Oper}{acc:Acc}{d i J t':Nat}{op:Op}{ty:TypeId}{pos:String}{after:Array Edge}{x:ab}{b c:Bool}
theorem gO (av:c=!b) (hk:aD P N ops l (cJ g d (.bQ [])) K) (h:(ops[J]?).bind (·.dst)=some t':=by rfl) (aN:g t'=some (.lit (.bool c)):=by rfl) (a_:N.ok d=true:=by rfl) (aS:g d=none:=by rfl):aD P N ops (⟨some d,op,ty,pos,after,some (J,b)⟩::l) g K:=.ps h aN av a_ aS hk
theorem DE (hk:aD P N ops l (cJ g d (.bQ [])) K) (h:(ops[J]?).bind (·.dst)=some t':=by rfl) (aN:g t'=some (.bQ []):=by rfl) (a_:N.ok d=true:=by rfl) (aS:g d=none:=by rfl):aD P N ops (⟨some d,op,ty,pos,after,some (J,b)⟩::l) g K:=.pu h aN a_ aS hk
theorem cr (av:c=b) (au:b8 P g op ty x) (hk:aD P N ops l (cJ g d x) K) (h:(ops[J]?).bind (·.dst)=some t':=by rfl) (aN:g t'=some (.lit (.bool c)):=by rfl) (a_:N.ok d=true:=by rfl) (aS:g d=none:=by rfl):aD P N ops (⟨some d,op,ty,pos,after,some (J,b)⟩::l) g K:=.v au a_ aS (.l9 h aN av) hk
theorem Q9 (hk:aD P N ops l (cJ g d (.bQ [])) K) (h:(ops[J]?).bind (·.dst)=some t':=by rfl) (aN:g t'=some (.lit (.bool c)):=by rfl) (av:c=!b:=by assumption) (a_:N.ok d=true:=by rfl) (aS:g d=none:=by rfl):aD P N ops (⟨some d,op,ty,pos,after,some (J,b)⟩::l) g K:=.ps h aN av a_ aS hk
theorem e9 (au:b8 P g op ty x) (hk:aD P N ops l (cJ g d x) K) (h:(ops[J]?).bind (·.dst)=some t':=by rfl) (aN:g t'=some (.lit (.bool c)):=by rfl) (av:c=b:=by assumption) (a_:N.ok d=true:=by rfl) (aS:g d=none:=by rfl):aD P N ops (⟨some d,op,ty,pos,after,some (J,b)⟩::l) g K:=.v au a_ aS (.l9 h aN av) hk
theorem gF (bw:Nat) (av:c=!b) (hk:bA P N ops a' g0 i ((bw,d,some (.bQ []))::acc) l K) (h:(ops[J]?).bind (·.dst)=some t':=by rfl) (aN:jv a' g0 bw acc t'=some (bc c):=by rfl) (aj:Nat.beq ops.size (bw+l.length+1)=true:=by rfl) (aS:g0 d=none:=by rfl) (aA:acc.all (λe=>!Nat.beq e.2.1 d)=true:=by rfl) (a_:N.ok d=true:=by rfl):bA P N ops a' g0 i acc (⟨some d,op,ty,pos,after,some (J,b)⟩::l) K:=.ps bw h aN av aj aS aA a_ hk
theorem kS (bw:Nat) (hk:bA P N ops a' g0 i ((bw,d,some (.bQ []))::acc) l K) (h:(ops[J]?).bind (·.dst)=some t':=by rfl) (aN:jv a' g0 bw acc t'=some (.bQ []):=by rfl) (aj:Nat.beq ops.size (bw+l.length+1)=true:=by rfl) (aS:g0 d=none:=by rfl) (aA:acc.all (λe=>!Nat.beq e.2.1 d)=true:=by rfl) (a_:N.ok d=true:=by rfl):bA P N ops a' g0 i acc (⟨some d,op,ty,pos,after,some (J,b)⟩::l) K:=.pu bw h aN aj aS aA a_ hk
theorem hx (bw:Nat) (av:c=b) (au:b8 P (jv a' g0 bw acc) op ty x) (hk:bA P N ops a' g0 i ((bw,d,some x)::acc) l K) (h:(ops[J]?).bind (·.dst)=some t':=by rfl) (aN:jv a' g0 bw acc t'=some (.lit (.bool c)):=by rfl) (aj:Nat.beq ops.size (bw+l.length+1)=true:=by rfl) (aS:g0 d=none:=by rfl) (aA:acc.all (λe=>!Nat.beq e.2.1 d)=true:=by rfl) (a_:N.ok d=true:=by rfl):bA P N ops a' g0 i acc (⟨some d,op,ty,pos,after,some (J,b)⟩::l) K:=.v bw au aj aS aA a_ (.l9 h aN av) hk
end
section
variable {P:Program}{N:cQ}{ops:Array Oper}{g:aL}{K:aL->Prop}{l:List Oper}{A B:Code}{G G1:List (Nat × ab)}{Φ:Exit->aL->Prop}{t id:Nat}{b:Bool}{α:Type}{X Y o:α}
theorem W.ca (h:(bif b then X else Y)=o) (aa:get G t=some (bc b)) (dt:b=true->X=o->W P N A (get G) Φ) (aI:b=false->Y=o->W P N B (get G) Φ):W P N (.cond (.tmp t) A B) (get G) Φ:=W.hR aa (λe=>dt e (SZ e h)) (λe=>aI e (SY e h))
def pick (g:aL):List Nat->Option (List (Nat × ab))
 | []=>some []
 | k::ks=>match g k with
  | some x=>match pick g ks with
   | some l=>some ((k,x)::l)
   | none=>none
  | none=>none
class im (l:List (Nat × ab)):Prop where p:∀ e∈l,cF e.2
instance:im []:=⟨λ_ h=>by cases h⟩
instance {k:Nat}{x:ab}{l:List (Nat × ab)} [h:b4 x] [ai:im l]:im ((k,x)::l):=⟨λe he=>by
 rcases List.mem_cons.1 he with rfl | he
 ·exact h.bj
 ·exact ai.p e he⟩
theorem uH {c:Bool}{g g2:aL}:∀ {ks:List Nat}{G1:List (Nat × ab)},pick g ks=some G1->(∀ e∈G1,cF e.2)->Trim c g g2 G1
 | [],_,h,_=>by cases h; exact .nil
 | k::ks,G1,h,aA=>by
  unfold pick at h
  split at h
  ·rename_i x j
   split at h
   ·rename_i l ai;cases h;have:b4 x:=⟨aA (k,x) (by simp)⟩;exact .n j (uH ai λe he=>aA e (by simp [he]))
   ·cases h
  ·cases h
structure yx (ks:List Nat) (G1:List (Nat × ab)) (g':aL):Prop where p:km g' (get G1)
theorem bV {ks:List Nat}(h:pick g ks=some G1) [aA:im G1]:aD P N ops [] g (yx ks G1):=.nil ⟨(uH (c:=true) (g2:=get G1) h aA.p).eH⟩
theorem Oj {l:List Oper}{ks:List Nat}(h:aD P N l.toArray l g (yx ks G1)):aD P N l.toArray l g λg'=>km g' (get G1):=λi hi=>by
 obtain ⟨g',h1,af⟩:=h i hi;exact ⟨g',h1,af.p⟩
theorem aD.b6 (ks:List Nat) (h:pick g ks=some G1) [aA:im G1] (hk:aD P N ops l (get G1) K):aD P N ops l g K:=.Ki (uH h aA.p) hk
theorem W.b6 {l:List Oper}(ks:List Nat) (h:aD P N l.toArray l (get G) (yx ks G1)) (hk:aF .normal Φ G1):W P N (.region id l.toArray false) (get G) Φ:=W.rx G1 (Oj h) hk
theorem W.rs {l:List Oper}(G1:List (Nat × ab)) (h:aD P N l.toArray l (get G) λg'=>km g' (get G1)) (hk:W P N B (get G1) Φ):W P N (.seq (.region id l.toArray false) B) (get G) Φ:=W.bW (W.rx G1 h (aF.bS hk))
theorem W.dm {l:List Oper}(ks:List Nat) (h:aD P N l.toArray l (get G) (yx ks G1)) (hk:W P N B (get G1) Φ):W P N (.seq (.region id l.toArray false) B) (get G) Φ:=W.rs G1 (Oj h) hk
end
end Go.Own
namespace Go.Own
open Go
set_option linter.unusedSectionVars false
variable [cH]
class fz (P:Program) (t:TypeId):Prop where p:j' P t=true:=by kernel_rfl
class iR (P:Program) (t:TypeId):Prop where p:oZ P t=true:=by kernel_rfl
class d' (P:Program) (t:TypeId) (e:outParam TypeId) (z:outParam Nat):Prop where p:fe P t e z=true:=by kernel_rfl
class cN (P:Program) (s:TypeId) (f:Nat) (off:outParam Nat) (t:outParam TypeId):Prop where p:iX P s f off t=true:=by kernel_rfl
section
variable {P:Program}{N:cQ}{ops:Array Oper}{g:aL}{K:aL->Prop}{l:List Oper}{ty t:TypeId}{a:Operand}{k r z n:Nat}{cs jC:List ab}
theorem O.pA {v:Value}(az:g r=some (.obj cs)) (j:Rd g a (.ptr ⟨r,[]⟩ k)) (ar:j' P t=true) (aa:cs[k]?=some (.lit v)):b8 P g (.load t a) ty (.lit v):=O.xp az j ar aa rfl
theorem O.zz (az:g r=some (.obj cs)) (j:Rd g a (.ptr ⟨r,[]⟩ k)) (ar:j' P t=true) (aa:cs[k]?=some (.bk z n jC)):b8 P g (.load t a) ty (.bk z n jC):=O.xp az j ar aa rfl
theorem O.zA (az:g r=some (.obj cs)) (j:Rd g a (.ptr ⟨r,[]⟩ k)) (ar:j' P t=true) (aa:cs[k]?=some (.own z n jC)):b8 P g (.load t a) ty (.bf z ⟨r,[k]⟩ n):=O.xp az j ar aa rfl
end
section
variable {P:Program}{N:cQ}{ops:Array Oper}{g:aL}{K:aL->Prop}{l:List Oper}{t0 d:Nat}{t1 t2 ty:TypeId}{aB a2 a3:Operand}{mY:Nat}{v0:Value}{pos:String}{after:Array Edge}{op:Op}{acf:Nat × Bool}
theorem aD.bJ (op:Op) (u:Option (Nat × Bool)) (h:aD P N ops (⟨some d,op,ty,pos,after,u⟩::l) g K):aD P N ops (⟨some d,op,ty,pos,after,u⟩::l) g K:=h
theorem aD.nl (h:aD P N ops [] g K):aD P N ops [] g K:=h
theorem aD.RP {o:Oper}{hL gb:List Oper}(h:aD P N ops (o::List.append hL gb) g K):aD P N ops (List.append (o::hL) gb) g K:=h
theorem aD.RQ {gb:List Oper}(h:aD P N ops gb g K):aD P N ops (List.append [] gb) g K:=h
theorem aD.bB (h:aD P N ops l g K:=by
(repeat' (first
 | exact lp .nil
 | exact .nil
 | refine .n rfl ?_
 | (first
  | ((with_reducible apply aD.bJ (.move (.tmp _)) none); (first | refine dv rfl ?_ | refine ay (O.a6 (.bk rfl)) ?_ | refine ay (O.a6 (.own rfl)) ?_ | refine ay (O.a6 (.obj rfl)) ?_ | refine ay (O.a6 (.cK rfl)) ?_ | refine ay (O.a6 (.ptr rfl)) ?_ | refine ay (O.a6 (.bf rfl)) ?_))
  | ((with_reducible apply aD.bJ (.load _ _) none); (first | refine ay (O.pA rfl (.ptr rfl) fz.p rfl) ?_ | refine ay (O.B' (.cK rfl) fz.p rfl) ?_ | refine ay (O.zz rfl (.ptr rfl) fz.p rfl) ?_ | refine ay (O.pA rfl (.obj rfl) fz.p rfl) ?_ | refine ay (O.zz rfl (.obj rfl) fz.p rfl) ?_ | refine ay (O.zA rfl (.ptr rfl) fz.p rfl) ?_ | refine ay (O.zA rfl (.obj rfl) fz.p rfl) ?_))
  | ((with_reducible apply aD.bJ (.fieldAddr _ _ _) none); (first | refine ay (O.nm rfl (.obj rfl) cN.p rfl) ?_ | refine ay (O.A3 (.cK rfl) cN.p) ?_ | refine ay (O.nm rfl (.ptr rfl) cN.p rfl) ?_))
  | ((with_reducible apply aD.bJ (.assign (.tmp _)) none); (first | refine yI rfl ?_ | refine ay (O.dI (.bk rfl)) ?_ | refine ay (O.dI (.own rfl)) ?_ | refine ay (O.dI (.obj rfl)) ?_ | refine ay (O.dI (.cK rfl)) ?_ | refine ay (O.dI (.ptr rfl)) ?_ | refine ay (O.dI (.bf rfl)) ?_))
  | ((with_reducible apply aD.bJ (.assign (.const _)) none); (first | refine Lv rfl ?_ | refine ay (O.dI .zy) ?_))
  | ((with_reducible apply aD.bJ (.indexAddr _ _ _) none); (first | refine ay (O.qV (.bk rfl) (.lit rfl) d'.p (by assumption)) ?_ | refine ay (O.qV (.bk rfl) (.k rfl) d'.p (by assumption)) ?_))
  | ((with_reducible apply aD.bJ (.binOp .add _ _ _ _) none); (first | refine ay (O.add (.lit rfl) (.k rfl)) ?_ | refine ay (O.add (.lit rfl) (.lit rfl)) ?_ | refine ay (O.add (.k rfl) (.lit rfl)) ?_))
  | ((with_reducible apply aD.bJ (.binOp .lss _ _ _ _) none); (first | refine ay (O.lss (.lit rfl) (.k rfl)) ?_ | refine ay (O.lss (.lit rfl) (.lit rfl)) ?_ | refine ay (O.lss (.k rfl) (.lit rfl)) ?_))
  | ((with_reducible apply aD.bJ (.binOp .eql _ _ _ _) none); (first | refine ay (O.eql (.lit rfl) (.k rfl)) ?_ | refine ay (O.eql (.lit rfl) (.lit rfl)) ?_ | refine ay (O.eql (.k rfl) (.lit rfl)) ?_ | refine ay (O.oB (.lit rfl) (.lit rfl)) ?_ | refine ay (O.oB (.lit rfl) (.k rfl)) ?_))
  | ((with_reducible apply aD.bJ (.binOp .neq _ _ _ _) none); (first | refine ay (O.neq (.lit rfl) (.k rfl)) ?_ | refine ay (O.neq (.lit rfl) (.lit rfl)) ?_ | refine ay (O.neq (.k rfl) (.lit rfl)) ?_ | refine ay (O.nJ (.lit rfl) (.lit rfl)) ?_ | refine ay (O.nJ (.lit rfl) (.k rfl)) ?_))
  | ((with_reducible apply aD.bJ (.binOp .geq _ _ _ _) none); (first | refine ay (O.geq (.lit rfl) (.k rfl)) ?_ | refine ay (O.geq (.lit rfl) (.lit rfl)) ?_ | refine ay (O.geq (.k rfl) (.lit rfl)) ?_))
  | ((with_reducible apply aD.bJ (.binOp .gtr _ _ _ _) none); (first | refine ay (O.gtr (.lit rfl) (.k rfl)) ?_ | refine ay (O.gtr (.lit rfl) (.lit rfl)) ?_ | refine ay (O.gtr (.k rfl) (.lit rfl)) ?_))
  | ((with_reducible apply aD.bJ (.binOp .sub _ _ _ _) none); (first | refine ay (O.sub (.lit rfl) (.k rfl)) ?_ | refine ay (O.sub (.lit rfl) (.lit rfl)) ?_ | refine ay (O.sub (.k rfl) (.lit rfl)) ?_))
  | ((with_reducible apply aD.bJ (.binOp .leq _ _ _ _) none); (first | refine ay (O.leq (.lit rfl) (.k rfl)) ?_ | refine ay (O.leq (.lit rfl) (.lit rfl)) ?_ | refine ay (O.leq (.k rfl) (.lit rfl)) ?_))
  | ((with_reducible apply aD.bJ (.pick _ _ _) none); (first | refine ay (O.jX (.lit rfl) rfl (.lit rfl)) ?_ | refine ay (O.kh (.lit rfl) rfl (.lit rfl)) ?_ | refine ay (O.jX (.lit rfl) rfl (.k rfl)) ?_ | refine ay (O.kh (.lit rfl) rfl (.k rfl)) ?_ | refine ay (O.jX (.lit rfl) (by assumption) (.lit rfl)) ?_ | refine ay (O.kh (.lit rfl) (by assumption) (.lit rfl)) ?_ | refine ay (O.jX (.lit rfl) (by assumption) (.k rfl)) ?_ | refine ay (O.kh (.lit rfl) (by assumption) (.k rfl)) ?_))
  | ((with_reducible apply aD.bJ (.call { callee:=.builtin .len,args:=#[_],argTypes:=#[_] }) none); (first | refine ay (O.js (.bk rfl) d'.p) ?_ | refine ay (O.nF (.bf rfl) d'.p) ?_ | refine ay (O.nF (.own rfl) d'.p) ?_ | refine ay (O.ux (.lit rfl) iR.p) ?_))
  | ((with_reducible apply aD.bJ (.unOp .not _ _) none); (first | refine ay (O.not (.lit rfl)) ?_))
  | ((with_reducible apply aD.bJ (.nilCheck _) none); (first | refine ay (O.eD (.ptr rfl)) ?_ | refine ay (O.xw (.cK rfl)) ?_ | refine ay (O.eD (.obj rfl)) ?_))
  | ((with_reducible apply aD.bJ (.index _ _ _) none); (first | refine ay (O.at' (.lit rfl) (.lit rfl) iR.p (by assumption)) ?_))
  | ((with_reducible apply aD.bJ (.move (.const _)) none); (first | refine ay (O.a6 (.k rfl)) ?_ | refine ay (O.a6 .zy) ?_)))
 | ((with_reducible apply aD.nl); first | exact bV rfl | refine lp ?_)
 | ((with_reducible apply aD.bJ _ (some _)); first
  | (first | refine gO rfl ?_ | refine Q9 ?_ | refine DE ?_)
  | ((with_reducible apply aD.bJ (.move (.tmp _)) (some _)); (first | refine cr rfl (O.a6 (.lit rfl)) ?_ | refine e9 (O.a6 (.lit rfl)) ?_ | refine cr rfl (O.a6 (.bk rfl)) ?_ | refine e9 (O.a6 (.bk rfl)) ?_ | refine cr rfl (O.a6 (.own rfl)) ?_ | refine e9 (O.a6 (.own rfl)) ?_ | refine cr rfl (O.a6 (.obj rfl)) ?_ | refine e9 (O.a6 (.obj rfl)) ?_ | refine cr rfl (O.a6 (.cK rfl)) ?_ | refine e9 (O.a6 (.cK rfl)) ?_ | refine cr rfl (O.a6 (.ptr rfl)) ?_ | refine e9 (O.a6 (.ptr rfl)) ?_ | refine cr rfl (O.a6 (.bf rfl)) ?_ | refine e9 (O.a6 (.bf rfl)) ?_))
  | ((with_reducible apply aD.bJ (.load _ _) (some _)); (first | refine cr rfl (O.pA rfl (.ptr rfl) fz.p rfl) ?_ | refine e9 (O.pA rfl (.ptr rfl) fz.p rfl) ?_ | refine cr rfl (O.B' (.cK rfl) fz.p rfl) ?_ | refine e9 (O.B' (.cK rfl) fz.p rfl) ?_ | refine cr rfl (O.zz rfl (.ptr rfl) fz.p rfl) ?_ | refine e9 (O.zz rfl (.ptr rfl) fz.p rfl) ?_ | refine cr rfl (O.pA rfl (.obj rfl) fz.p rfl) ?_ | refine e9 (O.pA rfl (.obj rfl) fz.p rfl) ?_ | refine cr rfl (O.zz rfl (.obj rfl) fz.p rfl) ?_ | refine e9 (O.zz rfl (.obj rfl) fz.p rfl) ?_ | refine cr rfl (O.zA rfl (.ptr rfl) fz.p rfl) ?_ | refine e9 (O.zA rfl (.ptr rfl) fz.p rfl) ?_ | refine cr rfl (O.zA rfl (.obj rfl) fz.p rfl) ?_ | refine e9 (O.zA rfl (.obj rfl) fz.p rfl) ?_))
  | ((with_reducible apply aD.bJ (.fieldAddr _ _ _) (some _)); (first | refine cr rfl (O.nm rfl (.obj rfl) cN.p rfl) ?_ | refine e9 (O.nm rfl (.obj rfl) cN.p rfl) ?_ | refine cr rfl (O.A3 (.cK rfl) cN.p) ?_ | refine e9 (O.A3 (.cK rfl) cN.p) ?_ | refine cr rfl (O.nm rfl (.ptr rfl) cN.p rfl) ?_ | refine e9 (O.nm rfl (.ptr rfl) cN.p rfl) ?_))
  | ((with_reducible apply aD.bJ (.indexAddr _ _ _) (some _)); (first | refine cr rfl (O.qV (.bk rfl) (.lit rfl) d'.p (by assumption)) ?_ | refine e9 (O.qV (.bk rfl) (.lit rfl) d'.p (by assumption)) ?_ | refine cr rfl (O.qV (.bk rfl) (.k rfl) d'.p (by assumption)) ?_ | refine e9 (O.qV (.bk rfl) (.k rfl) d'.p (by assumption)) ?_))
  | ((with_reducible apply aD.bJ (.binOp .add _ _ _ _) (some _)); (first | refine cr rfl (O.add (.lit rfl) (.k rfl)) ?_ | refine e9 (O.add (.lit rfl) (.k rfl)) ?_ | refine cr rfl (O.add (.lit rfl) (.lit rfl)) ?_ | refine e9 (O.add (.lit rfl) (.lit rfl)) ?_ | refine cr rfl (O.add (.k rfl) (.lit rfl)) ?_ | refine e9 (O.add (.k rfl) (.lit rfl)) ?_))
  | ((with_reducible apply aD.bJ (.binOp .lss _ _ _ _) (some _)); (first | refine cr rfl (O.lss (.lit rfl) (.k rfl)) ?_ | refine e9 (O.lss (.lit rfl) (.k rfl)) ?_ | refine cr rfl (O.lss (.lit rfl) (.lit rfl)) ?_ | refine e9 (O.lss (.lit rfl) (.lit rfl)) ?_ | refine cr rfl (O.lss (.k rfl) (.lit rfl)) ?_ | refine e9 (O.lss (.k rfl) (.lit rfl)) ?_))
  | ((with_reducible apply aD.bJ (.binOp .eql _ _ _ _) (some _)); (first | refine cr rfl (O.eql (.lit rfl) (.k rfl)) ?_ | refine e9 (O.eql (.lit rfl) (.k rfl)) ?_ | refine cr rfl (O.eql (.lit rfl) (.lit rfl)) ?_ | refine e9 (O.eql (.lit rfl) (.lit rfl)) ?_ | refine cr rfl (O.eql (.k rfl) (.lit rfl)) ?_ | refine e9 (O.eql (.k rfl) (.lit rfl)) ?_ | refine cr rfl (O.oB (.lit rfl) (.lit rfl)) ?_ | refine e9 (O.oB (.lit rfl) (.lit rfl)) ?_ | refine cr rfl (O.oB (.lit rfl) (.k rfl)) ?_ | refine e9 (O.oB (.lit rfl) (.k rfl)) ?_))
  | ((with_reducible apply aD.bJ (.binOp .neq _ _ _ _) (some _)); (first | refine cr rfl (O.neq (.lit rfl) (.k rfl)) ?_ | refine e9 (O.neq (.lit rfl) (.k rfl)) ?_ | refine cr rfl (O.neq (.lit rfl) (.lit rfl)) ?_ | refine e9 (O.neq (.lit rfl) (.lit rfl)) ?_ | refine cr rfl (O.neq (.k rfl) (.lit rfl)) ?_ | refine e9 (O.neq (.k rfl) (.lit rfl)) ?_ | refine cr rfl (O.nJ (.lit rfl) (.lit rfl)) ?_ | refine e9 (O.nJ (.lit rfl) (.lit rfl)) ?_ | refine cr rfl (O.nJ (.lit rfl) (.k rfl)) ?_ | refine e9 (O.nJ (.lit rfl) (.k rfl)) ?_))
  | ((with_reducible apply aD.bJ (.binOp .geq _ _ _ _) (some _)); (first | refine cr rfl (O.geq (.lit rfl) (.k rfl)) ?_ | refine e9 (O.geq (.lit rfl) (.k rfl)) ?_ | refine cr rfl (O.geq (.lit rfl) (.lit rfl)) ?_ | refine e9 (O.geq (.lit rfl) (.lit rfl)) ?_ | refine cr rfl (O.geq (.k rfl) (.lit rfl)) ?_ | refine e9 (O.geq (.k rfl) (.lit rfl)) ?_))
  | ((with_reducible apply aD.bJ (.binOp .gtr _ _ _ _) (some _)); (first | refine cr rfl (O.gtr (.lit rfl) (.k rfl)) ?_ | refine e9 (O.gtr (.lit rfl) (.k rfl)) ?_ | refine cr rfl (O.gtr (.lit rfl) (.lit rfl)) ?_ | refine e9 (O.gtr (.lit rfl) (.lit rfl)) ?_ | refine cr rfl (O.gtr (.k rfl) (.lit rfl)) ?_ | refine e9 (O.gtr (.k rfl) (.lit rfl)) ?_))
  | ((with_reducible apply aD.bJ (.binOp .sub _ _ _ _) (some _)); (first | refine cr rfl (O.sub (.lit rfl) (.k rfl)) ?_ | refine e9 (O.sub (.lit rfl) (.k rfl)) ?_ | refine cr rfl (O.sub (.lit rfl) (.lit rfl)) ?_ | refine e9 (O.sub (.lit rfl) (.lit rfl)) ?_ | refine cr rfl (O.sub (.k rfl) (.lit rfl)) ?_ | refine e9 (O.sub (.k rfl) (.lit rfl)) ?_))
  | ((with_reducible apply aD.bJ (.binOp .leq _ _ _ _) (some _)); (first | refine cr rfl (O.leq (.lit rfl) (.k rfl)) ?_ | refine e9 (O.leq (.lit rfl) (.k rfl)) ?_ | refine cr rfl (O.leq (.lit rfl) (.lit rfl)) ?_ | refine e9 (O.leq (.lit rfl) (.lit rfl)) ?_ | refine cr rfl (O.leq (.k rfl) (.lit rfl)) ?_ | refine e9 (O.leq (.k rfl) (.lit rfl)) ?_))
  | ((with_reducible apply aD.bJ (.call { callee:=.builtin .len,args:=#[_],argTypes:=#[_] }) (some _)); (first | refine cr rfl (O.js (.bk rfl) d'.p) ?_ | refine e9 (O.js (.bk rfl) d'.p) ?_ | refine cr rfl (O.nF (.bf rfl) d'.p) ?_ | refine e9 (O.nF (.bf rfl) d'.p) ?_ | refine cr rfl (O.nF (.own rfl) d'.p) ?_ | refine e9 (O.nF (.own rfl) d'.p) ?_ | refine cr rfl (O.ux (.lit rfl) iR.p) ?_ | refine e9 (O.ux (.lit rfl) iR.p) ?_))
  | ((with_reducible apply aD.bJ (.unOp .not _ _) (some _)); (first | refine cr rfl (O.not (.lit rfl)) ?_ | refine e9 (O.not (.lit rfl)) ?_))
  | ((with_reducible apply aD.bJ (.nilCheck _) (some _)); (first | refine cr rfl (O.eD (.ptr rfl)) ?_ | refine e9 (O.eD (.ptr rfl)) ?_ | refine cr rfl (O.xw (.cK rfl)) ?_ | refine e9 (O.xw (.cK rfl)) ?_ | refine cr rfl (O.eD (.obj rfl)) ?_ | refine e9 (O.eD (.obj rfl)) ?_))
  | ((with_reducible apply aD.bJ (.index _ _ _) (some _)); (first | refine cr rfl (O.at' (.lit rfl) (.lit rfl) iR.p (by assumption)) ?_ | refine e9 (O.at' (.lit rfl) (.lit rfl) iR.p (by assumption)) ?_)))
 | with_reducible apply aD.RP
 | with_reducible apply aD.RQ))):aD P N ops l g K:=h
theorem W.RC {id:Nat}{l:List Oper}{G G1:List (Nat × ab)}{Φ:Exit->aL->Prop}(ks:List Nat) (hk:aF .normal Φ G1) (h:aD P N l.toArray l (get G) (yx ks G1):=by exact aD.bB):W P N (.region id l.toArray false) (get G) Φ:=W.b6 ks h hk
theorem W.cR {id:Nat}{l:List Oper}{B:Code}{G G1:List (Nat × ab)}{Φ:Exit->aL->Prop}(ks:List Nat) (hk:W P N B (get G1) Φ) (h:aD P N l.toArray l (get G) (yx ks G1):=by exact aD.bB):W P N (.seq (.region id l.toArray false) B) (get G) Φ:=W.dm ks h hk
end
end Go.Own
namespace Go.Own
open Go
set_option linter.unusedSectionVars false
variable [cH]
section
variable {P:Program}{N:cQ}{G:List (Nat × ab)}{g':aL}
theorem hn {rs:List ResultVar}{ys xs:List ab}{res:ab}{outs:List (Option ab)}{n:Nat}(h:j3 P (get G) rs ys xs g') (he:oW xs=res:=by rfl) (aV:qG g' N.pins 0 outs:=by (repeat' first | exact .nil | refine .no ?_)) (fq:(rs.filterMap fun | .cell t _=>some t | _=>none).Nodup:=by exact of_decide_eq_true (by kernel_rfl)) (ai:outs.length=n:=by rfl):aF .ret (pT P N rs n outs res) G:=aF.fin (Fin.ro h he fq aV ai (.inr rfl))
end
end Go.Own
namespace Go.Own
open Go
set_option linter.unusedSectionVars false
variable [cH]
section
variable {P:Program}{N:cQ}{G:List (Nat × ab)}{g':aL}{S R:Type}
theorem aU {α β:Type}{x:Option α}{f:α->Option β}{r:β}{G:Prop}(h:x.bind f=some r) (k:∀ a,x=some a->f a=some r->G):G:=by
 obtain ⟨a,h1,af⟩:=pZ h
 grind
theorem Rd.bD {g:aL}{t:Nat}{v:Value}(h:g t=some (.lit v):=by rfl):Rd g (.tmp t) (.lit v):=.lit h
theorem Rd.z2 {g:aL}{t z n:Nat}{cs:List ab}(h:g t=some (.bk z n cs):=by rfl):Rd g (.tmp t) (.bk z n cs):=.bk h
theorem Rd.z3 {g:aL}{t z n:Nat}{cs:List ab}(h:g t=some (.own z n cs):=by rfl):Rd g (.tmp t) (.bf z ⟨t,[]⟩ n):=.own h
theorem Rd.z4 {g:aL}{t:Nat}{c:ab}{cs:List ab}(h:g t=some (.obj (c::cs)):=by rfl):Rd g (.tmp t) (.ptr ⟨t,[]⟩ 0):=.obj h
theorem Rd.z5 {g:aL}{t k:Nat}{p:Place}(h:g t=some (.ptr p k):=by rfl):Rd g (.tmp t) (.ptr p k):=.ptr h
theorem Rd.di {g:aL}{t z n:Nat}{p:Place}(h:g t=some (.bf z p n):=by rfl):Rd g (.tmp t) (.bf z p n):=.bf h
theorem Rd.uU {g:aL}{t:Nat}{cs:List ab}(h:g t=some (.cK cs):=by rfl):Rd g (.tmp t) (.cK cs):=.cK h
theorem Rd.de {g:aL}{v:Value}(h:ofConst v=.lit v:=by rfl):Rd g (.const v) (.lit v):=.k h
theorem aF.ev {G1:List (Nat × ab)}(h:Trim true (get G) (get G1) G1:=by (repeat' first | exact .nil | refine .n rfl ?_)):aF .normal (λe g=>e=.normal/\ib g G1) G:=aF.cB h
theorem aF.gt {s:S}{F:S->List (Nat × ab)}{Ψ:R->Exit->aL->Prop}(h:Trim true (get G) (get (F s)) (F s):=by (repeat' first | exact .nil | refine .n rfl ?_)):aF .normal (kY F Ψ (.inl s)) G:=aF.go h
theorem aF.t1 {id:Nat}{r:R}{F:S->List (Nat × ab)}{ma:R->List (Nat × ab)}(h:Trim true (get G) (get (ma r)) (ma r):=by (repeat' first | exact .nil | refine .n rfl ?_)):aF (.exit id) (kY F (λr e g=>e=.exit id/\ib g (ma r)) (.inr r)) G:=aF.aX h
theorem wq {rs:List ResultVar}{ys xs:List ab}{res:ab}{outs:List (Option ab)}{n:Nat}(h:j3 P (get G) rs ys xs g':=by exact .f rfl rfl .nil) (he:oW xs=res:=by rfl) (aV:qG g' N.pins 0 outs:=by (repeat' first | exact .nil | refine .no ?_)) (fq:(rs.filterMap fun | .cell t _=>some t | _=>none).Nodup:=by exact of_decide_eq_true (by kernel_rfl)) (ai:outs.length=n:=by rfl):aF .ret (pT P N rs n outs res) G:=by grind [hn]
end
end Go.Own
namespace Go.Own
open Go
set_option linter.unusedSectionVars false
variable [cH]
section
variable {α:Type}{P:Program}{g:aL}{ty t:TypeId}{a b:Operand}{k r z n:Nat}{cs cs':List ab}{x y:ab}{p:Place}{m:Int}{oa:IntKind}{e:TypeId}{N:cQ}{ops:Array Oper}
theorem O.bI {cn f off:Nat} [h:cN P cn f off t] (j:Rd g a (.ptr ⟨r,[]⟩ k):=by exact .obj rfl) (az:g r=some (.obj cs):=by rfl) (ai:Nat.blt (k+off) cs.length=true:=by rfl):b8 P g (.fieldAddr cn a f) ty (.ptr ⟨r,[]⟩ (k+off)):=O.nm az j h.p ai
theorem O.y2 {cn f off:Nat} [h:cN P cn f off t] (j:Rd g a (.ptr ⟨r,[]⟩ k):=by exact .ptr rfl) (az:g r=some (.obj cs):=by rfl) (ai:Nat.blt (k+off) cs.length=true:=by rfl):b8 P g (.fieldAddr cn a f) ty (.ptr ⟨r,[]⟩ (k+off)):=O.nm az j h.p ai
theorem O.eE {v:Value} [h:fz P t] (j:Rd g a (.ptr ⟨r,[]⟩ k):=by exact .ptr rfl) (az:g r=some (.obj cs):=by rfl) (aa:cs[k]?=some (.lit v):=by rfl):b8 P g (.load t a) ty (.lit v):=O.pA az j h.p aa
theorem O.gE {en:bz α}{L:List α}{y:α}{br:Nat}(h:idx L m=some y) [aK:d' P t e br] (j:Rd g a (.bk en.z L.length (bp en L)):=by exact .bk rfl) (al:Rd g b (.lit (.int oa m)):=by exact .lit rfl) (aW:br=en.z:=by rfl):b8 P g (.indexAddr t a b) ty (.cK (en.cells y++bp en (L.drop (m.toNat+1)))):=O.qV j al (aW ▸ aK.p) h
theorem O.dd [h:fz P t] (j:Rd g a (.ptr ⟨r,[]⟩ k):=by exact .ptr rfl) (az:g r=some (.obj cs):=by rfl) (aa:cs[k]?=some x:=by rfl) (al:fL 0 ⟨r,[k]⟩ x=y:=by rfl):b8 P g (.load t a) ty y:=O.xp az j h.p aa al
theorem O.ht [h:fz P t] (j:Rd g a (.cK cs):=by exact .cK rfl) (aa:cs.head?=some x:=by rfl):b8 P g (.load t a) ty x:=O.B' j h.p aa
theorem O.oh {cn f off:Nat} [h:cN P cn f off t] (j:Rd g a (.cK cs):=by exact .cK rfl):b8 P g (.fieldAddr cn a f) ty (.cK (cs.drop off)):=O.A3 j h.p
theorem O.o5 {br:Nat} [h:d' P t e br] (j:Rd g a (.bk z n cs):=by exact .bk rfl):b8 P g (.call { callee:=.builtin .len,args:=#[a],argTypes:=#[t] }) ty (ae n):=O.js j h.p
theorem cZ.fV {xs:List Operand}{gl:Array TypeId}{f:FuncId}{ys:List ab}{outs:List (Option ab)}{res:ab}(j:rA g xs ys) (g_:bY P f ys outs res) [ah:b4 res] (aS:iI P f=true:=by kernel_rfl) (aV:sV outs=true:=by rfl):cZ P g (.call { callee:=.value (.func f),args:=xs.toArray,argTypes:=gl }) res:=by grind [cZ.go]
theorem cZ.se {xs:List Operand}{gl:Array TypeId}{f:FuncId}{ys args:List ab}{outs:List (Option ab)}{res:ab}(j:fK g xs=some ys) (hv:ou g ys args) (g_:bY P f args outs res) [ah:oo res] (aS:iI P f=true:=by kernel_rfl) (aV:sV outs=true:=by rfl):cZ P g (.call { callee:=.value (.func f),args:=xs.toArray,argTypes:=gl }) res:=by grind [cZ.vw]
end
section
variable {P:Program}{N:cQ}{ops:Array Oper}{a':List (List Nat)}{K:aL->Prop}{i:Nat}{acc:Acc}{l:List Oper}{d:Nat}
theorem bA.jB (bw:Nat) {G G2:List (Nat × ab)}{o:Oper}(he:bq P N (c5 (get G) (λ_=>true) acc) o (get G2)) (hk:bA P N ops a' (get G2) (bw+1) [] l K) (aN:o.guard=none:=by rfl) (gz:q3 ((acc.filterMap jW).map Place.root)=true:=by rfl) (fJ:l1 G=true:=by rfl) (aj:Nat.beq ops.size (bw+l.length+1)=true:=by rfl) (aR:(List.range bw).all (λk=>(a'.getD bw []).contains k)=true:=by kernel_rfl) (av:(List.range ops.size).all (λk=>Nat.ble k bw||(a'.getD k []).contains bw)=true:=by kernel_rfl):bA P N ops a' (get G) i acc (o::l) K:=.wD bw he aN gz fJ aj aR av hk
theorem bA.yV (bw:Nat) {G G2:List (Nat × ab)}{o:Oper}{x:ab}(he:bq P N (c5 (get G) (λ_=>true) acc) o (cJ (get G2) d x)) (hk:bA P N ops a' (get ((d,x)::G2)) (bw+1) [] l K) (aN:o.guard=none:=by rfl) (gz:q3 ((acc.filterMap jW).map Place.root)=true:=by rfl) (fJ:l1 G=true:=by rfl) (aj:Nat.beq ops.size (bw+l.length+1)=true:=by rfl) (aR:(List.range bw).all (λk=>(a'.getD bw []).contains k)=true:=by kernel_rfl) (av:(List.range ops.size).all (λk=>Nat.ble k bw||(a'.getD k []).contains bw)=true:=by kernel_rfl):bA P N ops a' (get G) i acc (o::l) K:=.bv bw he aN gz fJ aj aR av hk
end
end Go.Own
namespace Go.Own
open Go
set_option linter.unusedSectionVars false
variable [cH]
set_option linter.unusedVariables false
def oY:List ab->Nat->List ab->Option (List ab)
 | [],0,[]=>some []
 | [],_,_=>none
 | x::l,0,[]=>some (x::l)
 | _::l,0,y::c=>match oY l 0 c with
  | some r=>some (y::r)
  | none=>none
 | x::l,k+1,c=>match oY l k c with
  | some r=>some (x::r)
  | none=>none
theorem lL:∀ {l:List ab}{k:Nat}{c r:List ab},oY l k c=some r->eP l k c=r/\k+c.length<=l.length
 | [],0,[],r,h=>by cases h; exact ⟨rfl,Nat.le_refl _⟩
 | [],0,_::_,_,h=>by cases h
 | [],_+1,_,_,h=>by cases h
 | x::l,0,[],r,h=>by cases h; exact ⟨by simp [eP],by simp⟩
 | x::l,0,y::c,r,h=>by
  unfold oY at h
  split at h
  ·rename_i cW ah;cases h;obtain ⟨h1,af⟩:=lL ah;subst h1;exact ⟨by simp [eP],by simp at af ⊢; omega⟩
  ·cases h
 | x::l,k+1,c,r,h=>by
  unfold oY at h
  split at h
  ·rename_i cW ah;cases h;obtain ⟨h1,af⟩:=lL ah;subst h1;exact ⟨by simp [eP,Nat.add_right_comm],by simp; omega⟩
  ·cases h
theorem CZ {g g2:aL}{r:Nat}{cs2:List ab}:∀ {ks:List Nat}{G1:List (Nat × ab)},pick (cJ g r (.obj cs2)) ks=some G1->(∀ e∈G1,cF e.2)->lu g g2 r cs2 G1
 | [],_,h,_=>by cases h; exact .nil
 | k::ks,G1,h,aA=>by
  unfold pick at h
  split at h
  ·rename_i x j
   split at h
   ·rename_i l ai;cases h;have ar:=CZ (g2:=g2) ai λe he=>aA e (by simp [he]);by_cases e:k=r
    ·subst e;have e:x=.obj cs2:=by simpa [cJ] using j.symm
     subst e;have j:cF (.obj cs2):=aA (k,.obj cs2) (by simp);have:dj cs2:=⟨by cases j; assumption⟩;exact .b rfl ar
    ·have:b4 x:=⟨aA (k,x) (by simp)⟩;exact .n (by rw [<- Bool.not_eq_true,Nat.beq_eq]; exact e) (by simpa [cJ,e] using j) ar
   ·cases h
  ·cases h
theorem Kf {g g2:aL}{ex:List Nat}:∀ {ks:List Nat}{G1:List (Nat × ab)},pick g ks=some G1->(ks.all λk=>!ex.elem k)=true->(∀ e∈G1,cF e.2)->mJ ex g g2 G1
 | [],_,h,_,_=>by cases h; exact .nil
 | k::ks,G1,h,he,aA=>by
  unfold pick at h;rw [List.all_cons,Bool.and_eq_true] at he
  split at h
  ·rename_i x j
   split at h
   ·rename_i l ai;cases h;have:b4 x:=⟨aA (k,x) (by simp)⟩;exact .n (by simpa using he.1) j (Kf ai he.2 λe h=>aA e (by simp [h]))
   ·cases h
  ·cases h
def E6:List ab->Option (List ab)
 | []=>some []
 | x::l=>match E6 l with
  | some r=>some (x::r)
  | none=>none
theorem OG:∀ {l r:List ab},E6 l=some r->l=r
 | [],r,h=>by cases h; rfl
 | x::l,r,h=>by
  unfold E6 at h
  split at h
  ·rename_i cW ah;cases h; rw [OG ah]
  ·cases h
def E7:ab->Option ab
 | .obj cs=>match E6 cs with
  | some r=>some (.obj r)
  | none=>none
 | .own z n cs=>some (.own z n cs)
 | _=>none
theorem OH {x y:ab}(h:E7 x=some y):x=y:=by
 unfold E7 at h
 grind [OG]
theorem Kg {g g2:aL}{r:Nat}{x2:ab}:∀ {ks:List Nat}{G1:List (Nat × ab)},pick (cJ g r x2) ks=some G1->(∀ e∈G1,cF e.2)->lv g g2 r x2 G1
 | [],_,h,_=>by cases h; exact .nil
 | k::ks,G1,h,aA=>by
  unfold pick at h
  split at h
  ·rename_i x j
   split at h
   ·rename_i l ai;cases h;have ar:=Kg (g2:=g2) ai λe he=>aA e (by simp [he]);by_cases e:k=r
    ·subst e;have e:x=x2:=by simpa [cJ] using j.symm
     subst e;have:b4 x:=⟨aA (k,x) (by simp)⟩;exact .b rfl ar
    ·have:b4 x:=⟨aA (k,x) (by simp)⟩;exact .n (by rw [<- Bool.not_eq_true,Nat.beq_eq]; exact e) (by simpa [cJ,e] using j) ar
   ·cases h
  ·cases h
section
variable {P:Program}{N:cQ}{ops:Array Oper}{g:aL}{K:aL->Prop}{l:List Oper}{d r k0:Nat}{ty t:TypeId}{pos:String}{after:Array Edge}{a b x:Operand}{cs cs' cs2:List ab}{y:ab}{G2:List (Nat × ab)}{u:Option (Nat × Bool)}{p q:Place}
theorem Rd.QH {α:Type}{en:bz α}{L:List α}{t:Nat}(h:g t=some (ak en L)):Rd g (.tmp t) (ak en L):=.bk h
theorem bq.hD (ks:List Nat) (aR:Rd g a (.ptr ⟨r,[]⟩ k0):=by (first | exact .obj rfl | exact .ptr rfl)) (az:g r=some (.obj cs):=by rfl) (av:Rd g b (.agg cs'):=by (first | exact .ea rfl rfl | exact .JA rfl)) (he:oY cs k0 cs'=some cs2:=by rfl) (au:pick (cJ g r (.obj cs2)) ks=some G2:=by rfl) (aW:hC P t cs'.length=true:=by kernel_rfl) (aO:Nat.blt 0 cs'.length=true:=by rfl) (ah:(get G2 r).isSome=true:=by rfl) [aA:dj cs'] [e':dj cs] [aN:im G2]:bq P N g ⟨none,.store t a b,ty,pos,after,none⟩ (get G2) :=
 .kj rfl rfl az aR av rfl aW (Nat.ble_eq_true_of_le (lL he).2) aO (lL he).1 ah (CZ au aN.p)
theorem bq.o0 (ks:List Nat) (aR:Rd g a (.ptr ⟨r,[]⟩ k0):=by (first | exact .ptr rfl | exact .obj rfl)) (az:g r=some (.obj cs):=by rfl) (av:Rd g b y:=by (first | exact .lit rfl | exact .k rfl | exact .QH rfl | exact .zy | exact .bk rfl)) (aa:nY y=some [y]:=by rfl) (he:oY cs k0 [y]=some cs2:=by rfl) (au:pick (cJ g r (.obj cs2)) ks=some G2:=by rfl) (aW:hC P t 1=true:=by kernel_rfl) (ah:(get G2 r).isSome=true:=by rfl) [aA:b4 y] [e':dj cs] [aN:im G2]:bq P N g ⟨none,.store t a b,ty,pos,after,none⟩ (get G2) :=
 .kj rfl rfl az aR av aa aW (Nat.ble_eq_true_of_le (lL he).2) rfl (lL he).1 ah (CZ au aN.p)
theorem bq.j8 {α:Type}{en:bz α}{L:List α}(ks:List Nat) (j:Rd g x (.bf en.z p L.length):=by (first | exact .own rfl | exact .bf rfl)) (au:bt g p=some (ao en L):=by rfl) (hk:pick g ks=some G2:=by rfl) (cz:(ks.all λk=>![p.root].elem k)=true:=by rfl) (aN:get G2 d=none:=by rfl) (a_:N.ok d=true:=by rfl) [aA:im G2]:bq P N g ⟨some d,.assign x,ty,pos,after,u⟩ (cJ (get G2) d (ao en L)) :=
 .wy rfl rfl j au (Kf hk cz aA.p) aN a_
theorem bq.AK {α:Type}{en:bz α}{L M:List α}{s:Nat}(ks:List Nat) (j:Rd g x (.bf en.z ⟨s,[]⟩ (L.length+M.length)):=by exact .bC rfl) (az:g s=some (.bC en.z q L.length M.length (bp en M)):=by rfl) (au:bt g q=some (ao en L):=by rfl) (hk:pick g ks=some G2:=by rfl) (cz:(ks.all λk=>![s,q.root].elem k)=true:=by rfl) (a7:Nat.beq q.root s=false:=by rfl) (aN:get G2 d=none:=by rfl) (a_:N.ok d=true:=by rfl) [aA:im G2]:bq P N g ⟨some d,.assign x,ty,pos,after,u⟩ (cJ (get G2) d (ao en (L++M))) :=
 .Ly rfl rfl j az au a7 (Kf hk cz aA.p) aN a_
theorem bq.sp {α:Type}{en:bz α}{L M:List α}{s:Nat}{jj:List ab}(ks:List Nat) (av:Rd g b (.bf en.z ⟨s,[]⟩ (L.length+M.length)):=by exact .bC rfl) (qb:g s=some (.bC en.z q L.length M.length (bp en M)):=by rfl) (au:bt g q=some (ao en L):=by rfl) (aR:Rd g a (.ptr ⟨r,[]⟩ k0):=by (first | exact .ptr rfl | exact .obj rfl)) (az:cp (cp g ⟨s,[]⟩ .dead) q .dead r=some (.obj jj):=by rfl) (he:oY jj k0 [ao en (L++M)]=some cs2:=by rfl) (hk:pick (cJ (cp (cp g ⟨s,[]⟩ .dead) q .dead) r (.obj cs2)) ks=some G2:=by rfl) (a7:Nat.beq q.root s=false:=by rfl) (aW:hC P t 1=true:=by kernel_rfl) (ah:(get G2 r).isSome=true:=by rfl) [e':dj jj] [aN:im G2]:bq P N g ⟨none,.store t a b,ty,pos,after,none⟩ (get G2) :=
 .FJ rfl rfl aR av qb au a7 .ij .hW rfl rfl aW az (Nat.ble_eq_true_of_le (lL he).2) (lL he).1 ah (CZ hk aN.p)
theorem bq.uP {α:Type}{en:bz α}{L:List α}{jj:List ab}(ks:List Nat) (av:Rd g b (.bf en.z p L.length):=by (first | exact .own rfl | exact .bf rfl)) (au:bt g p=some (ao en L):=by rfl) (aR:Rd g a (.ptr ⟨r,[]⟩ k0):=by (first | exact .ptr rfl | exact .obj rfl)) (az:cp g p .dead r=some (.obj jj):=by rfl) (he:oY jj k0 [ao en L]=some cs2:=by rfl) (hk:pick (cJ (cp g p .dead) r (.obj cs2)) ks=some G2:=by rfl) (aW:hC P t 1=true:=by kernel_rfl) (ah:(get G2 r).isSome=true:=by rfl) [e':dj jj] [aN:im G2]:bq P N g ⟨none,.store t a b,ty,pos,after,none⟩ (get G2) :=
 .v' rfl rfl aR av (.r au .nil) .refl rfl aW az (Nat.ble_eq_true_of_le (lL he).2) rfl (lL he).1 ah (CZ hk aN.p)
theorem bq.rf {α:Type}{en:bz α}{L:List α}{iQ y2:α}{m:Int}{o:Nat}{eI x2 y0:ab}(ks:List Nat) (h:idx L m=some iQ) (aR:Rd g a (.ptr p (m.toNat * en.z+o)):=by exact .ptr rfl) (au:bt g p=some (ao en L):=by rfl) (av:Rd g b y:=by (first | exact .lit rfl | exact .k rfl | exact .QH rfl | exact .zy | exact .bk rfl | exact .ea rfl rfl)) (aa:nY y=some cs':=by rfl) (he:eP (en.cells iQ) o cs'=en.cells y2:=by rfl) (jF:cp g p (ao en (L.set m.toNat y2)) p.root=some eI:=by rfl) (kf:E7 eI=some x2:=by rfl) (hk:pick (cJ g p.root x2) ks=some G2:=by rfl) (aW:hC P t cs'.length=true:=by kernel_rfl) (hlen:Nat.ble (o+cs'.length) en.z=true:=by rfl) (aO:Nat.blt 0 cs'.length=true:=by rfl) (ah:(get G2 p.root).isSome=true:=by rfl) (vB:g p.root=some y0:=by rfl) [aA:b4 y] [e':b4 y0] [aN:im G2]:bq P N g ⟨none,.store t a b,ty,pos,after,none⟩ (get G2) :=
 .x9 rfl rfl aR av au h aW aa he hlen aO (by rw [jF,OH kf]) ah vB (Kg hk aN.p)
theorem aD.e3 {o:Oper}(he:bq P N g o (get G2)) (hk:aD P N ops l (get G2) K) (aN:o.guard=none:=by rfl):aD P N ops (o::l) g K:=.nZ aN he hk
theorem aD.b1 {o:Oper}(he:bq P N g o (cJ (get G2) d y)) (hk:aD P N ops l (cJ (get G2) d y) K) (aN:o.guard=none:=by rfl):aD P N ops (o::l) g K:=.tM aN he hk
end
section
variable {S R:Type}{P:Program}{N:cQ}{A B c:Code}{G:List (Nat × ab)}{Φ:Exit->aL->Prop}{id:Nat}
theorem W.gp {G1:List (Nat × ab)}(ks:List Nat) (L:List (Nat × ab)) (h:W P N c (get G) λe g=>e=.normal/\ib g G1) (hk:aF .normal Φ G1) (au:pick (get (L++G)) ks=some G1:=by rfl):W P N c (get G) Φ:=W.cB _ h hk
theorem W.od {G1:List (Nat × ab)}{l:List Oper}(ks:List Nat) (L:List (Nat × ab)) (h:aD P N l.toArray l (get G) λg'=>km g' (get G1)) (hk:W P N B (get G1) Φ) (au:pick (get (L++G)) ks=some G1:=by rfl):W P N (.seq (.region id l.toArray false) B) (get G) Φ:=W.rs _ h hk
theorem W.hL {f:S->Option (S ⊕ R)}{r:R}{cY:S->List (Nat × ab)}{mf:R->List (Nat × ab)}(s:S) (F:S->List (Nat × ab)) (ks:List Nat) (id:Nat) (X:R->List (Nat × ab)) (r8:List Nat) (h:b0 f s=some r) (av:∀ s o,f s=some o->W P N c (get (cY s)) (kY cY (λr e g=>e=.exit id/\ib g (mf r)) o)) (hk:aF (.exit id) Φ (mf r))
  (aI:∀ s,pick (get (F s++G)) ks=some (cY s):=by intro s; rfl) (wU:∀ s,pick (get (X s++G)) r8=some (mf s):=by intro s; rfl) (ar:Trim true (get G) (get (cY s)) (cY s):=by (repeat' first | exact .nil | refine .n rfl ?_ | refine .w rfl rfl .pC ?_ | refine .w rfl rfl .pB ?_ | refine .w rfl rfl (j7.obj (by (repeat' first | exact .nil | refine .f ?_ | refine .o ?_ | refine .i ?_))) ?_)):W P N (.loop c) (get G) Φ :=
 W.dx ar (W.Ov cY id mf h av hk)
theorem W.gb {gP:Type}{f:S->Option (S ⊕ (R ⊕ gP))}{r:R ⊕ gP}{cY:S->List (Nat × ab)}{mf:R->List (Nat × ab)}{tx:gP->List (Nat × ab)}(s:S) (F:S->List (Nat × ab)) (ks:List Nat) (id:Nat) (X:R->List (Nat × ab)) (r8:List Nat) (Y:gP->List (Nat × ab)) (B9:List Nat) (h:b0 f s=some r)
  (av:∀ s o,f s=some o->W P N c (get (cY s)) (kY cY (λ(r:R ⊕ gP) e g=>match r with | .inl r=>e=.exit id/\ib g (mf r) | .inr r=>e=.ret/\ib g (tx r)) o))
  (j:∀ x,r=.inl x->aF (.exit id) Φ (mf x)) (ah:∀ x,r=.inr x->aF .ret Φ (tx x))
  (aI:∀ s,pick (get (F s++G)) ks=some (cY s):=by intro s; rfl) (wU:∀ s,pick (get (X s++G)) r8=some (mf s):=by intro s; rfl) (HV:∀ s,pick (get (Y s++G)) B9=some (tx s):=by intro s; rfl) (ar:Trim true (get G) (get (cY s)) (cY s):=by (repeat' first | exact .nil | refine .n rfl ?_ | refine .w rfl rfl .pC ?_ | refine .w rfl rfl .pB ?_ | refine .w rfl rfl (j7.obj (by (repeat' first | exact .nil | refine .f ?_ | refine .o ?_ | refine .i ?_))) ?_)):W P N (.loop c) (get G) Φ :=
 W.dx ar (W.Ow cY id mf tx h av j ah)
end
end Go.Own
namespace Go.Own
open Go
set_option linter.unusedSectionVars false
variable [cH]
set_option linter.unusedVariables false
inductive lq:Type 1
 | e
 | b (x y:lq)
 | dY {S R:Type}(F:S->List (Nat × ab)) (ks:List Nat) (id:Nat) (X:R->List (Nat × ab)) (r8:List Nat) (x y:lq)
 | gb {S R gP:Type}(F:S->List (Nat × ab)) (ks:List Nat) (id:Nat) (X:R->List (Nat × ab)) (r8:List Nat) (Y:gP->List (Nat × ab)) (B9:List Nat) (x y z:lq)
 | cB {α:Type}(ks:List Nat) (L:α->List (Nat × ab)) (x y:lq)
 | eu {α:Type}(id:Nat) (ks:List Nat) (L:α->List (Nat × ab)) (y:lq)
 | rd (id:Nat) (a':List (List Nat)) (y:lq)
 | b6 {α:Type}(id:Nat) (a':List (List Nat)) (ks:List Nat) (L:α->List (Nat × ab)) (y:lq)
 | p (y:lq)
 | dG {α:Type}(id s:Nat) (i:Option Nat) (en:bz α) (y:lq)
 | sv {α:Type}(s:Nat) (i:Option Nat) (en:bz α) (y:lq)
def Oh:ab->Bool
 | .lit _ | .aT | .bk .. | .own .. | .obj _ | .cK _ | .ds .. | .mp _ | .imp _=>true
 | .agg cs=>cs.all λx=>match x with | .ptr .. | .bf .. | .sub .. | .hq _ | .bC .. | .dead=>false | _=>true
 | _=>false
def sP (ex:List Nat):List (Nat × ab)->Option (List Nat)
 | []=>some []
 | (k,x)::l=>match sP (k::ex) l with
  | none=>none
  | some r=>match !ex.elem k&&Oh x with
   | true=>some (k::r)
   | false=>some r
def JC (E ex:List Nat):List (Nat × ab)->Option (List Nat)
 | []=>some []
 | (k,x)::l=>match JC E (k::ex) l with
  | none=>none
  | some r=>match E.elem k&&(!ex.elem k&&Oh x) with
   | true=>some (k::r)
   | false=>some r
def roots (G:List (Nat × ab)):Operand->List Nat
 | .tmp s=>match get G s with
  | some (.own ..)=>[s]
  | some (.obj _)=>[s]
  | some (.bf _ p _)=>[s,p.root]
  | some (.ptr p _)=>[s,p.root]
  | some (.bC _ q _ _ _)=>match get G q.root with
   | some (.bC _ Fm _ _ _)=>[s,q.root,Fm.root]
   | _=>[s,q.root]
  | _=>[s]
 | _=>[]
def O4 (F:List (Nat × ab)) (s:Nat):Nat->List ab->Option (List ab)
 | _,[]=>some []
 | i,x::l=>match O4 F s (i+1) l with
  | none=>none
  | some r=>match get F (1000 * (i+1)+s) with
   | some y=>some (y::r)
   | none=>some (x::r)
def pE (F G:List (Nat × ab)):aL:=λs=>match get F s with
 | some x=>some x
 | none=>match get G s with
  | some (.obj cs)=>match O4 F s 0 cs with
   | some r=>some (.obj r)
   | none=>none
  | x=>x
def cy (E:List Nat) (t:lq) (P:Program) (N:cQ) (c:Code) (G:List (Nat × ab)) (Φ:Exit->aL->Prop):Prop:=W P N c (get G) Φ
def ee (E:List Nat) (t:lq) (e:Exit) (Φ:Exit->aL->Prop) (G:List (Nat × ab)):Prop:=aF e Φ G
def yw (E:List Nat) (t:lq) (Ψ:lq->List (Nat × ab)->Prop) (g':aL):Prop:=∃ G1,km g' (get G1)/\Ψ t G1
def rz {α:Type}(F:α->List (Nat × ab)) (J:α) (e:Exit) (g:aL):Prop:=e=.normal/\ib g (F J)
def Li {R:Type}(id:Nat) (X:R->List (Nat × ab)) (r:R) (e:Exit) (g:aL):Prop:=e=.exit id/\ib g (X r)
def AD {R gP:Type}(id:Nat) (X:R->List (Nat × ab)) (Y:gP->List (Nat × ab)) (r:R ⊕ gP) (e:Exit) (g:aL):Prop:=match r with | .inl r=>e=.exit id/\ib g (X r) | .inr r=>e=.ret/\ib g (Y r)
class bL (P:Program) (f:FuncId) (p:Prop) (args:outParam (List ab)) (outs:outParam (List (Option ab))) (res:outParam ab):Prop where go:p->bY P f args outs res
section
variable {P:Program}{N:cQ}{E:List Nat}{t x y z:lq}{A B c:Code}{G G1:List (Nat × ab)}{Φ oi:Exit->aL->Prop}{Ψ:aL->Prop}{id k s:Nat}{b:Bool}{α β:Type}{l:List Oper}
theorem cy.rg (h:aD P N l.toArray l (get G) (yw E t λt G1=>cy E t P N B G1 Φ)):cy E t P N (.seq (.region id l.toArray false) B) G Φ :=
 W.seq (W.Ac λi hi=>by
  obtain ⟨g',h1,G1,af,aK⟩:=h i hi;exact ⟨g',h1,W.weaken af aK⟩)
theorem cy.rt (h:aD P N l.toArray l (get G) (yw E t λt G1=>ee E t .normal Φ G1)):cy E t P N (.region id l.toArray false) G Φ :=
 W.Ac λi hi=>by
  obtain ⟨g',h1,G1,af,aK⟩:=h i hi;exact ⟨g',h1,aK g' (.eH af .hW)⟩
theorem cy.bS (h:cy E t P N A G (o1 (λg1=>W P N B g1 Φ) Φ)):cy E t P N (.seq A B) G Φ:=W.seq h
theorem cy.cD (h:cy E t P N A G (lZ id Φ)):cy E t P N (.block id A) G Φ:=W.cD h
theorem cy.wD (h:cy E t P N A G (lZ id Φ)):cy E (.p t) P N (.block id A) G Φ:=W.cD h
theorem cy.dC (h:ee E t .normal Φ G):cy E t P N .skip G Φ:=W.dC h
theorem cy.gD (h:ee E t (.exit k) Φ G):cy E t P N (.exit k) G Φ:=W.gD h
theorem cy.Ki (h:ee E t .ret Φ G):cy E t P N .ret G Φ:=W.rt h
theorem cy.ca {X Y o:α}(h:(bif b then X else Y)=o) (dt:b=true->X=o->cy E x P N A G Φ) (aI:b=false->Y=o->cy E y P N B G Φ) (aa:get G s=some (bc b):=by rfl):cy E (.b x y) P N (.cond (.tmp s) A B) G Φ:=W.ca h aa dt aI
theorem cy.ce {X Y o:α}(h:(bif b then X else Y)=o) (dt:b=true->X=o->cy E .e P N A G Φ) (aI:b=false->Y=o->cy E .e P N B G Φ) (aa:get G s=some (bc b):=by rfl):cy E .e P N (.cond (.tmp s) A B) G Φ:=W.ca h aa dt aI
theorem cy.SV (h:cy E t P N A G Φ) (aa:get G s=some (bc b):=by rfl) (av:b=true:=by (first | rfl | assumption)):cy E t P N (.cond (.tmp s) A B) G Φ:=W.hR aa (λ_=>h) (λe=>by rw [av] at e; cases e)
theorem cy.SU (h:cy E t P N B G Φ) (aa:get G s=some (bc b):=by rfl) (av:b=false:=by (first | rfl | assumption)):cy E t P N (.cond (.tmp s) A B) G Φ:=W.hR aa (λe=>by rw [av] at e; cases e) (λ_=>h)
theorem cy.Xw {o:Operand}{m:Option α}{f:α->Option β}{r:β}{ks:List Nat}{L cY:α->List (Nat × ab)}(h:m.bind f=some r) (h1:∀ J,m=some J->cy E x P N (.cond o A B) G (rz cY J)) (af:∀ J,m=some J->f J=some r->ee E y .normal Φ (cY J))
  (aI:∀ J,pick (pE (L J) G) ks=some (cY J):=by intro J; rfl):cy E (.cB ks L x y) P N (.cond o A B) G Φ:=by
 obtain ⟨J,aj,h⟩:=pZ h;exact W.cB _ (h1 J aj) (af J aj h)
theorem cy.Jz {m:Option α}{f:α->Option β}{r:β}{ks:List Nat}{L cY:α->List (Nat × ab)}(h:m.bind f=some r) (h1:∀ J,m=some J->cy E x P N (.block id A) G (rz cY J)) (af:∀ J,m=some J->f J=some r->ee E y .normal Φ (cY J))
  (aI:∀ J,pick (pE (L J) G) ks=some (cY J):=by intro J; rfl):cy E (.cB ks L x y) P N (.block id A) G Φ:=by
 obtain ⟨J,aj,h⟩:=pZ h;exact W.cB _ (h1 J aj) (af J aj h)
theorem cy.dY {S R:Type}{f:S->Option (S ⊕ R)}{s:S}{g:R->Option β}{r:β}{F cY:S->List (Nat × ab)}{ks r8:List Nat}{X mf:R->List (Nat × ab)}(h:(b0 f s).bind g=some r)
  (av:∀ s o,f s=some o->cy E x P N c (cY s) (kY cY (Li id mf) o)) (hk:∀ cW,b0 f s=some cW->g cW=some r->ee E y (.exit id) Φ (mf cW))
  (aI:∀ s,pick (pE (F s) G) ks=some (cY s):=by intro s; rfl) (wU:∀ s,pick (pE (X s) G) r8=some (mf s):=by intro s; rfl) (ar:Trim true (get G) (get (cY s)) (cY s):=by (repeat' first | exact .nil | refine .n rfl ?_ | refine .w rfl rfl .pC ?_ | refine .w rfl rfl .pB ?_ | refine .w rfl rfl (j7.obj (by (repeat' first | exact .nil | refine .f ?_ | refine .o ?_ | refine .i ?_))) ?_)) :
  cy E (.dY F ks id X r8 x y) P N (.loop c) G Φ:=by
 obtain ⟨cW,ai,h⟩:=pZ h;exact W.dx ar (W.Ov cY id mf ai av (hk cW ai h))
theorem ee.bS (h:cy E t P N B G Φ):ee E t .normal (o1 (λg1=>W P N B g1 Φ) oi) G:=aF.bS h
theorem ee.gC (h:ee E t (.exit k) Φ G):ee E t (.exit k) (o1 Ψ Φ) G:=aF.gC h
theorem ee.kk (h:ee E t .ret Φ G):ee E t .ret (o1 Ψ Φ) G:=aF.kk h
theorem ee.cD (h:ee E t .normal Φ G):ee E t .normal (lZ id Φ) G:=aF.cD h
theorem ee.gw (h:ee E t .normal Φ G):ee E t (.exit id) (lZ id Φ) G:=aF.gw h
theorem ee.GI (h:ee E t (.exit k) Φ G) (hk:Nat.beq k id=false:=by rfl):ee E t (.exit k) (lZ id Φ) G:=aF.GI hk h
theorem ee.ph (h:ee E t .ret Φ G):ee E t .ret (lZ id Φ) G:=aF.ph h
theorem ee.cB {F:α->List (Nat × ab)}{J v:α}(h:some v=some J) (ar:Trim true (get G) (get (F v)) (F v)):ee E t .normal (rz F J) G:=by
 cases h; exact aF.cB ar
theorem ee.go {S R:Type}{s:S}{o:S ⊕ R}{F:S->List (Nat × ab)}{Ψ:R->Exit->aL->Prop}(h:some (.inl s)=some o) (ar:Trim true (get G) (get (F s)) (F s)):ee E t .normal (kY F Ψ o) G:=by
 cases h; exact aF.go ar
theorem ee.aX {S R:Type}{r:R}{o:S ⊕ R}{F:S->List (Nat × ab)}{X:R->List (Nat × ab)}(h:some (.inr r)=some o) (ar:Trim true (get G) (get (X r)) (X r)):ee E t (.exit id) (kY F (Li id X) o) G:=by
 cases h; exact aF.aX ar
variable {ops:Array Oper}{K:aL->Prop}{d:Nat}{op:Op}{ty:TypeId}{pos:String}{after:Array Edge}{v v2:ab}{ks:List Nat}{g:aL}{J cn:Nat}{c9:Bool}
theorem po {G:List (Nat × ab)}{d:Nat}{v:ab}:cJ (get G) d v=get ((d,v)::G):=sw.symm
theorem ef (au:b8 P (get G) op ty v) (hk:aD P N ops l (get ((d,v)::G)) K) (a_:N.ok d=true:=by rfl) (aS:get G d=none:=by rfl):aD P N ops (⟨some d,op,ty,pos,after,none⟩::l) (get G) K:=ay au (po ▸ hk) a_ aS
theorem Gs (mu:sP [d] G=some ks) (aN:pick (get G) ks=some G1) [aA:im G1] (au:b8 P (get G1) op ty v) (hk:aD P N ops l (get ((d,v)::G1)) K) (a_:N.ok d=true:=by rfl) (aS:get G1 d=none:=by rfl):aD P N ops (⟨some d,op,ty,pos,after,none⟩::l) (get G) K:=aD.b6 ks aN (ay au (po ▸ hk) a_ aS)
theorem Lu (au:cZ P (get G) op v) (hk:aD P N ops l (get ((d,v)::G)) K) (a_:N.ok d=true:=by rfl) (aS:get G d=none:=by rfl):aD P N ops (⟨some d,op,ty,pos,after,none⟩::l) (get G) K:=hz au (po ▸ hk) a_ aS
theorem ej (au:b8 P (get G) op ty v) (hk:aD P N ops l (get ((d,v)::G)) K) (h:(ops[J]?).bind (·.dst)=some cn:=by rfl) (aN:get G cn=some (.lit (.bool c9)):=by rfl) (av:c9=b:=by (first | rfl | assumption)) (a_:N.ok d=true:=by rfl) (aS:get G d=none:=by rfl):aD P N ops (⟨some d,op,ty,pos,after,some (J,b)⟩::l) (get G) K:=.v au a_ aS (.l9 h aN av) (po ▸ hk)
theorem Le (au:cZ P (get G) op v) (hk:aD P N ops l (get ((d,v)::G)) K) (h:(ops[J]?).bind (·.dst)=some cn:=by rfl) (aN:get G cn=some (.lit (.bool c9)):=by rfl) (av:c9=b:=by (first | rfl | assumption)) (a_:N.ok d=true:=by rfl) (aS:get G d=none:=by rfl):aD P N ops (⟨some d,op,ty,pos,after,some (J,b)⟩::l) (get G) K:=.c au a_ aS (.l9 h aN av) (po ▸ hk)
theorem qB (hk:aD P N ops l (get ((d,.bQ [])::G)) K) (h:(ops[J]?).bind (·.dst)=some cn:=by rfl) (aN:get G cn=some (.lit (.bool c9)):=by rfl) (av:c9=!b:=by (first | rfl | assumption)) (a_:N.ok d=true:=by rfl) (aS:get G d=none:=by rfl):aD P N ops (⟨some d,op,ty,pos,after,some (J,b)⟩::l) (get G) K:=.ps h aN av a_ aS (po ▸ hk)
theorem Q6 (hk:aD P N ops l (get ((d,.bQ [])::G)) K) (h:(ops[J]?).bind (·.dst)=some cn:=by rfl) (aN:get G cn=some (.bQ []):=by rfl) (a_:N.ok d=true:=by rfl) (aS:get G d=none:=by rfl):aD P N ops (⟨some d,op,ty,pos,after,some (J,b)⟩::l) (get G) K:=.pu h aN a_ aS (po ▸ hk)
theorem G3 {p:Prop}{X Y o:α}(h:(bif b then X else Y)=o) (dt:b=true->X=o->p) (aI:b=false->Y=o->p):p:=by
 cases b
 ·exact aI rfl h
 ·exact dt rfl h
theorem Gl {Ds:lq->List (Nat × ab)->Prop}(mu:JC E [] G=some ks) (au:pick (get G) ks=some G1) [aA:im G1] (hk:Ds t G1):aD P N ops [] (get G) (yw E t Ds):=.nil ⟨G1,(uH (c:=true) (g2:=get G1) au aA.p).eH,hk⟩
theorem cy.eu {m:Option α}{f:α->Option β}{r:β}{ks:List Nat}{L cY:α->List (Nat × ab)}(h:m.bind f=some r) (h1:∀ J,m=some J->aD P N l.toArray l (get G) (rz cY J .normal)) (af:∀ J,m=some J->f J=some r->cy E y P N B (cY J) Φ)
  (aI:∀ J,pick (pE (L J) G) ks=some (cY J):=by intro J; rfl):cy E (.eu id ks L y) P N (.seq (.region id l.toArray false) B) G Φ:=by
 obtain ⟨J,aj,h⟩:=pZ h;exact W.seq (W.Ac λi hi=>by
  obtain ⟨g',cw,_,fC⟩:=h1 J aj i hi;exact ⟨g',cw,W.be (af J aj h) fC⟩)
theorem Q3 {F:α->List (Nat × ab)}{J v:α}(h:some v=some J) (ar:Trim true (get G) (get (F v)) (F v)):aD P N ops [] (get G) (rz F J .normal):=by
 cases h; exact .nil ⟨rfl,.eH ar.eH .hW⟩
end
end Go.Own
namespace Go.Own
open Go Go.Lib
set_option linter.unusedSectionVars false
variable [cH]
section
variable {P:Program}{w:World}
theorem YW (t u ty e:TypeId) (i:TypeInfo) (ar:P.underlying t=some (.slice e)) (hu:P.underlying u=some .string) (hi:P.info? e=some i) (aW:i.zero=some (.int .u8 0)) (vq:i.size=1) (t_:i.bytes=1)
  {bv:Value}{n:Nat}{us:List Value}(iZ:w.ownsRow 0 e 1 bv n us) (s:ByteArray) (nn:n+s.size<=maxLen) (w0:n+s.size<=140737488355328) :
  ∃ eh w',(Builtin.append_ #[t,u] ty #[bv,.string s]).run P w=.ok eh w'/\yh w w' bv eh e e 1 n s.size us (strCells s):=by
 have k_:us.length=n:=by simpa using iZ.1
 have ai:=strCells_length s;have Ww:n+s.size<=9223372036854775807:=by simp only [maxLen] at nn; omega
 have hlen:(us++strCells s).length=(n+s.size) * 1:=by rw [List.length_append,k_,ai,Nat.mul_one]
 have aS:=λw=>run_firstCells_string (P:=P) w 1 s;by_cases hm:s.size=0
 ·have aA:strCells s=[]:=List.eq_nil_of_length_eq_zero (by rw [ai,hm]);refine ⟨bv,w,?_,.same iZ (λ_ _=>rfl) (Nat.le_refl _) rfl rfl rfl (by simpa [hm,aA] using iZ) (λc aa=>.inl aa) λ_=>rfl⟩;have qP:=aS w;rw [hm] at qP;obtain ⟨_,bH⟩:=iZ;rcases bH with ⟨rfl,rfl⟩ | ⟨b,cap,cur,rfl,_,aN,hle,_⟩
  ·simp [Builtin.append_,run_underlying ar,run_underlying hu,sizeOf,typeInfo,hi,vq,Builtin.lenOf,hm,qP]
  ·simp [Builtin.append_,run_underlying ar,run_underlying hu,sizeOf,typeInfo,hi,vq,Builtin.lenOf,hm,qP,aA,hle,storeCells]
 have grown:∀ jH:Nat,jH<n+s.size ->
   (w.drew.alloc (.cells (us.toArray++(strCells s).toArray++Builtin.zeroCells (Value.int .u8 0).cells (grownCap w (n+s.size) jH e - (n+s.size))) e)).ownsRow 0 e 1
    (.slice (some ⟨w.heap.size,0,none⟩) (n+s.size) (grownCap w (n+s.size) jH e)) (n+s.size) (us++strCells s):=by
  intro jH aV;refine ⟨hlen,.inr ⟨w.heap.size,_,_,rfl,Nat.zero_le _,rC w.drew _,grownCap_ge w (n+s.size) jH e,grownCap_le_maxLen w (n+s.size) jH e nn,?_,?_⟩⟩
  ·have dw:=grownCap_ge w (n+s.size) jH e;have sN:(Value.int IntKind.u8 0).cells.size=1:=rfl;simp only [Array.size_append,List.size_toArray,size_zeroCells,sN,k_,ai];omega
  ·simp only [Array.toList_append,List.append_assoc];rw [<- List.append_assoc,<- hlen];exact List.take_left
 have w7:=iZ;obtain ⟨_,bH⟩:=iZ;rcases bH with ⟨rfl,rfl⟩ | ⟨b,cap,cur,rfl,_,aN,hle,p',gS,zq⟩
 ·have j:us=[]:=List.eq_nil_of_length_eq_zero k_;subst j;have ah:=run_append_nil_string (P:=P) w t u ty e i (.int .u8 0) ar hu hi aW s (by omega) (by omega) (by rw [t_]; omega);have n3:=grown 0 (by omega);simp only [Nat.zero_add,List.nil_append,Array.empty_append] at n3 ⊢;have cw:(s.data.map λb=>Value.int .u8 b.toNat)=(strCells s).toArray:=by
   apply Array.ext';simp [strCells]
  rw [cw] at ah;exact ⟨_,_,ah,.same w7 (λc aa=>alloc_old w.drew _ c aa) (by simp) rfl rfl rfl (by simpa using n3) (λc aa=>.inr (by simp [Value.ownBlock] at aa; omega)) (λa=>A8 w.drew _ _ a)⟩
 ·have k7:cur.size=cap:=by simpa using gS
  have WA:cur.toList.take n=us:=by simpa using zq
  by_cases vp:n+s.size<=cap
  ·have bR:=run_storeCells_at P b n e (strCells s) 0 cur w aN (by rw [ai]; omega) (strCells_oneCell s);simp only [Nat.add_zero,ai] at bR;have ah:(Builtin.append_ #[t,u] ty #[.slice (some ⟨b,0,none⟩) n cap,.string s]).run P w =
     .ok (.slice (some ⟨b,0,none⟩) (n+s.size) cap) (w.setRow b (cur.toList.take n++strCells s++cur.toList.drop (n+s.size)).toArray):=by
    simp [Builtin.append_,run_underlying ar,run_underlying hu,sizeOf,typeInfo,hi,vq,Builtin.lenOf,vp,aS,Addr.add_lit,bR]
   have eR:(cur.toList.take n++strCells s++cur.toList.drop (n+s.size)).toArray.size=cur.size:=by
    simp only [List.size_toArray,List.length_append,List.length_take,List.length_drop,Array.length_toList,ai];omega
   have e4:(cur.toList.take n++strCells s++cur.toList.drop (n+s.size)).take (n * 1)=cur.toList.take (n * 1):=by
    rw [List.append_assoc,Nat.mul_one];exact List.take_left' (by simp; omega)
   refine ⟨_,_,ah,⟨⟨by rw [k_,Nat.mul_one],.inr ⟨b,cap,_,rfl,Nat.zero_le _,setRow_heap w b cur _ e _ aN,hle,p',eR.trans gS,?_⟩⟩,⟨hlen,.inr ⟨b,cap,_,rfl,Nat.zero_le _,setRow_heap w b cur _ e _ aN,vp,p',eR.trans gS,?_⟩⟩,
    ⟨rfl,rfl,rfl,by simp,λk _ hk=>setRow_other w b k _ (λe=>hk (by simp [Value.ownBlock,e])),λa _ _=>D7 w b _ a,Nat.le_refl _⟩,λc aa=>.inl aa,λc aa=>?_⟩⟩
   ·rw [<- zq]; exact e4
   ·rw [WA,<- hlen];exact List.take_left
   ·simp only [Value.ownBlock,Option.some.injEq] at aa;subst aa;exact ⟨cur,_,aN,setRow_heap w b cur _ e _ aN,eR,e4⟩
  ·have holds:∀ (J:Nat) (u:Value),us[J]?=some u->w.cell? ((⟨b,0,none⟩:Addr).add J)=some u:=w7.cells (g:=b) rfl;have ah:=run_append_grow_string (P:=P) w t u ty e i (.int .u8 0) ar hu hi aW ⟨b,0,none⟩ n cap us (by rw [vq]; simpa using k_) holds s (by omega) (by omega) (by rw [t_]; exact growslice_fits (by omega) (by omega));have n3:=grown cap (by omega);exact ⟨_,_,ah,.same w7 (λc aa=>alloc_old w.drew _ c aa) (by simp) rfl rfl rfl n3 (λc aa=>.inr (by simp [Value.ownBlock] at aa; omega)) (λa=>A8 w.drew _ _ a)⟩
theorem Z9 {ops:Array Oper}{rest:List Oper}{o:Oper}{a:Act}{Q:Exit->Act->World->Prop}(sA:o.guard=none) (ta x:Operand) (t u:TypeId)
  (aV:o.op=.call { callee:=.builtin .append,args:=#[ta,x],argTypes:=#[t,u] }) 
  (e:TypeId) (i:TypeInfo) (ar:P.underlying t=some (.slice e)) (hu:P.underlying u=some .string) (hi:P.info? e=some i) (aW:i.zero=some (.int .u8 0)) (vq:i.size=1) (t_:i.bytes=1)
  (v:Value) (n:Nat) (xs:List Value) (az:a.eval ta=v) (nv:w.ownsRow 0 e 1 v n xs) (s:ByteArray) (j:a.eval x=.string s) (nn:n+s.size<=maxLen) (w0:n+s.size<=140737488355328)
  (h:∀ eh w',yh w w' v eh e e 1 n s.size xs (strCells s)->wpList P ops Q rest (a.put o.dst eh) w'):wpList P ops Q (o::rest) a w:=by
 refine wpList_plain sA λK c7=>?_;obtain ⟨eh,w',ah,af⟩:=YW (P:=P) (w:=w) t u o.type e i ar hu hi aW vq t_ nv s nn w0;unfold Oper.wp execOp;simp only [aV,resolve,invoke,builtin,Sem.run_bind,Sem.run_pure,Result.andThen_ok,List.map_toArray,List.map_cons,List.map_nil,az,j,ah];exact c7 _ _ (h eh w' af)
end
end Go.Own
namespace Go.Proofs
open Tryz
open Go.Shelf Go.RowKit Go.Own
set_option linter.unusedSectionVars false
variable [cH]
variable {P:Program}{ρ:Ren}
structure QN (t:TypeId) (w w':World) (b k:Nat) (e:TypeId) (arr:Array Value) (v:Value) (n m:Nat) (us news:List Value):Prop where
 ep:Fr w w' (λc=>c=b\/v.ownBlock=some c)
 row:∃ eh,w'.ownsRow 0 t 1 eh (n+m) (us++news)/\w'.heap[b]?=some (.cells ((arr.setIfInBounds k (.pointer (some ⟨b,k,none⟩))).setIfInBounds (k+1) eh) e (0,0))/\eh.ownBlock≠some b/\(∀ c,eh.ownBlock=some c->v.ownBlock=some c\/w.heap.size<=c)
set_option maxHeartbeats 1000000 in
set_option maxRecDepth 100000 in
theorem Sf (L:Lays.n240 P ρ) (X:Builder.X72 P ρ) (b k:Nat) (w:World) (aO:w.cell? ⟨b,k,none⟩=some (.pointer (some ⟨b,k,none⟩))) :
  Calls P (ρ.f 240) #[.pointer (some ⟨b,k,none⟩)] w λe w'=>e=.returned (.tuple #[])/\w'=w:=by
 obtain ⟨J,aj,_⟩:=Option.map_eq_some_iff.1 X.sizeBuilder;have mixed:=L.mixed;have t72:=L.t72; have a72:=L.a72; have z72:=L.z72; have v72:=L.v72; have KJ:=run_underlying L.t72;have t70:=L.t70; have a70:=L.a70; have z70:=L.z70; have v70:=L.v70; have KI:=run_underlying L.t70;have t9:=L.t9; have a9:=L.a9; have z9:=L.z9; have v9:=L.v9; have KK:=run_underlying L.t9;have t4:=L.t4; have a4:=L.a4; have z4:=L.z4; have v4:=L.v4; have Qs:=run_underlying L.t4;have t164:=L.t164; have a164:=L.a164; have z164:=L.z164; have v164:=L.v164; have Qq:=run_underlying L.t164
 go_enter L.f240,Body.n240_ntmps ρ
 go_wp2
 rw [Lib.run_neq_ptr_same w _ L.t70 aj]
 go_wp2
 go_end0
 exact ⟨rfl,rfl⟩
set_option maxHeartbeats 2000000 in
set_option maxRecDepth 100000 in
theorem Se (L:Lays.n240 P ρ) (X:Builder.X72 P ρ) {b k:Nat}{arr:Array Value}{e:TypeId}{p:Value}(w:World)
  (av:w.heap[b]?=some (.cells arr e (0,0))) (aO:arr[k]?=some p) (au:(p=.pointer none/\liesAt P P.depth e (arr.size / P.cellsOf e) k (ρ.t 72) 1=true)\/p=.pointer (some ⟨b,k,none⟩)) :
  Calls P (ρ.f 240) #[.pointer (some ⟨b,k,none⟩)] w λb_ w'=>b_=.returned (.tuple #[])/\Fr w w' (λc=>c=b)/\w'.heap[b]?=some (.cells (arr.setIfInBounds k (.pointer (some ⟨b,k,none⟩))) e (0,0)):=by
 obtain ⟨J,aj,zh⟩:=Option.map_eq_some_iff.1 X.sizeBuilder;have mixed:=L.mixed;have t72:=L.t72; have a72:=L.a72; have z72:=L.z72; have v72:=L.v72; have KJ:=run_underlying L.t72;have t70:=L.t70; have a70:=L.a70; have z70:=L.z70; have v70:=L.v70; have KI:=run_underlying L.t70;have t9:=L.t9; have a9:=L.a9; have z9:=L.z9; have v9:=L.v9; have KK:=run_underlying L.t9;have t4:=L.t4; have a4:=L.a4; have z4:=L.z4; have v4:=L.v4; have Qs:=run_underlying L.t4;have t164:=L.t164; have a164:=L.a164; have z164:=L.z164; have v164:=L.v164; have Qq:=run_underlying L.t164;have hk:k<arr.size:=(Array.getElem?_eq_some_iff.1 aO).1;have Ia:w.cell? ⟨b,k,none⟩=some p:=by rw [Lib.cell_of_heap av]; exact aO
 have n1:w.frozen? ⟨b,k,none⟩=false:=Lib.frozen_of_heap av k;have EB:w.shape? b=some (e,arr.size):=by simp [World.shape?,av]
 rcases au with ⟨rfl,ai⟩ | rfl
 ·go_enter L.f240,Body.n240_ntmps ρ
  go_wp2
  rw [Lib.run_to_unsafe w ⟨b,k,none⟩ L.t70 L.t164 aj (by rw [zh]; decide) EB hk];simp only [Result.andThen];rw [Oper.upon_value]
  go_wp2
  rw [run_callFunc_extern L.f276 (by kernel_rfl) (by kernel_rfl) (by kernel_rfl) (e:=Extern.AbiNoEscape.same) (by kernel_rfl)];rw [Lib.run_noEscape];simp only [Result.andThen];rw [Oper.upon_value]
  go_wp2
  rw [Lib.run_from_unsafe w ⟨b,k,none⟩ L.t164 L.t70 aj EB ai];simp only [Result.andThen];rw [Oper.upon_value]
  go_wp2
  go_end0
  refine ⟨rfl,⟨rfl,rfl,rfl,by simp [World.setCell],λc _ aa=>?_,λa _ aA=>?_,Nat.le_refl _⟩,?_⟩
  ·simp only [World.setCell,Array.getElem?_modify,if_neg (Ne.symm aa)]
  ·have aa:a.block≠b:=aA;simp only [World.frozen?,World.setCell,Array.getElem?_modify,if_neg (Ne.symm aa)]
  ·simp [World.setCell,Array.getElem?_modify,av]
 ·refine (Sf L X b k w Ia).mono ?_;rintro b_ w' ⟨rfl,rfl⟩;refine ⟨rfl,Fr.refl _ _,?_⟩;rw [av];congr 2;apply Array.ext_getElem?;intro i;by_cases hi:i=k
  ·subst hi; rw [aO,Array.getElem?_setIfInBounds_self_of_lt hk]
  ·rw [Array.getElem?_setIfInBounds_ne (Ne.symm hi)]
set_option maxHeartbeats 2000000 in
set_option maxRecDepth 100000 in
theorem bws (L:Lays.n166 P ρ) (X:Builder.Extra P ρ) {b k:Nat}{arr:Array Value}{e:TypeId}{p v:Value}{n:Nat}{us:List Value}(s:ByteArray) (w:World)
  (av:w.heap[b]?=some (.cells arr e (0,0))) (aO:arr[k]?=some p) (h1:arr[k+1]?=some v) (au:(p=.pointer none/\liesAt P P.depth e (arr.size / P.cellsOf e) k (ρ.t 72) 1=true)\/p=.pointer (some ⟨b,k,none⟩))
  (nv:w.ownsRow 0 (ρ.t 5) 1 v n us) (cz:v.ownBlock≠some b) (hlen:n+s.size<=140737488355328) :
  Calls P (ρ.f 166) #[.pointer (some ⟨b,k,none⟩),.string s] w λb_ w'=>b_=.returned (.tuple #[.int .i64 s.size,.nilIface])/\QN (ρ.t 5) w w' b k e arr v n s.size us (Lib.strCells s):=by
 obtain ⟨i0,hi,B1,sN,Xd⟩:=info_parts X.infoByte;have mixed:=L.mixed;have t72:=L.t72; have a72:=L.a72; have z72:=L.z72; have v72:=L.v72; have KJ:=run_underlying L.t72;have t70:=L.t70; have a70:=L.a70; have z70:=L.z70; have v70:=L.v70; have KI:=run_underlying L.t70;have t37:=L.t37; have a37:=L.a37; have z37:=L.z37; have v37:=L.v37; have ZS:=run_underlying L.t37;have t3:=L.t3; have a3:=L.a3; have z3:=L.z3; have v3:=L.v3; have Qr:=run_underlying L.t3;have t9:=L.t9; have a9:=L.a9; have z9:=L.z9; have v9:=L.v9; have KK:=run_underlying L.t9;have t4:=L.t4; have a4:=L.a4; have z4:=L.z4; have v4:=L.v4; have Qs:=run_underlying L.t4;have t164:=L.t164; have a164:=L.a164; have z164:=L.z164; have v164:=L.v164; have Qq:=run_underlying L.t164;have t5:=X.t5; have a5:=X.a5; have z5:=X.z5; have v5:=X.v5; have ZT:=run_underlying X.t5;have ab9:∀ args w,(callFunc (ρ.f 240) args).run P w=.ok (.enter (ρ.f 240) args) w:=enters_of L.f240 (by kernel_rfl) rfl;have hk:k<arr.size:=(Array.getElem?_eq_some_iff.1 aO).1;have gn:k+1<arr.size:=(Array.getElem?_eq_some_iff.1 h1).1
 go_enter L.f166,Body.n166_ntmps ρ
 go_wp2_with (go_at_fn (ρ.f 240); refine (Se { L with } X.toX72 w av aO au).mono ?_)
 rintro b_ gL ⟨rfl,Ik,oE⟩;have Wf:gL.ownsRow 0 (ρ.t 5) 1 v n us:=r_ nv λc aa=>Ik.block c (nv.lt c aa).2 λh=>cz (h ▸ aa);have L0:gL.cell? ⟨b,k,none⟩=some (.pointer (some ⟨b,k,none⟩)):=by rw [Lib.cell_of_heap oE,Array.getElem?_setIfInBounds_self_of_lt hk]
 have c1:gL.cell? ⟨b,k+1,none⟩=some v:=by rw [Lib.cell_of_heap oE,Array.getElem?_setIfInBounds_ne (by omega)]; exact h1
 go_wp2_with (at_builtin; refine Z9 rfl _ _ (ρ.t 37) (ρ.t 9) rfl (ρ.t 5) i0 L.t37 L.t9 hi B1 sN Xd _ _ _ rfl Wf s rfl ?j_ ?c4 ?_)
 case j_=>unfold maxLen; omega
 case c4=>omega
 intro eh fw dX;have IB:b<gL.heap.size:=by
  rcases Nat.lt_or_ge b gL.heap.size with aJ | aJ
  ·exact aJ
  ·simp [Array.getElem?_eq_none aJ] at oE
 have fH:fw.heap[b]?=some (.cells (arr.setIfInBounds k (.pointer (some ⟨b,k,none⟩))) e (0,0)):=(dX.ep.block b IB λh=>cz h).trans oE;have eR:(arr.setIfInBounds k (.pointer (some ⟨b,k,none⟩))).size=arr.size:=by simp
 have d0:fw.cell? ⟨b,k,none⟩=some (.pointer (some ⟨b,k,none⟩)):=by rw [Lib.cell_of_heap fH,Array.getElem?_setIfInBounds_self_of_lt hk]
 have d1:fw.cell? ⟨b,k+1,none⟩=some v:=by rw [Lib.cell_of_heap fH,Array.getElem?_setIfInBounds_ne (by omega)]; exact h1
 have f1:fw.frozen? ⟨b,k+1,none⟩=false:=Lib.frozen_of_heap fH (k+1);obtain ⟨u4,cm,cap,rfl⟩:∃ u4 cm cap,eh=.slice u4 cm cap:=by
  rcases dX.new.2 with ⟨hv,_⟩ | ⟨g,cap,cur,hv,_⟩
  ·exact ⟨_,_,_,hv⟩
  ·exact ⟨_,_,_,hv⟩
 have vm:(Value.slice u4 cm cap).ownBlock≠some b:=λh=>by
  rcases dX.yR b h with h | h
  ·exact cz h
  ·omega
 have pt:(fw.setCell ⟨b,k+1,none⟩ (.slice u4 cm cap)).heap[b]?=some (.cells ((arr.setIfInBounds k (.pointer (some ⟨b,k,none⟩))).setIfInBounds (k+1) (.slice u4 cm cap)) e (0,0)):=by
  simp [World.setCell,Array.getElem?_modify,fH]
 have IJ:∀ c,c≠b->(fw.setCell ⟨b,k+1,none⟩ (.slice u4 cm cap)).heap[c]?=fw.heap[c]?:=λc aa=>by
  simp only [World.setCell,Array.getElem?_modify,if_neg (Ne.symm aa)]
 have k8:Fr w (fw.setCell ⟨b,k+1,none⟩ (.slice u4 cm cap)) (λc=>c=b\/v.ownBlock=some c):=by
  have jk:=(Ik.mono (U':=λc=>c=b\/v.ownBlock=some c) λc _ h=>.inl h).trans dX.ep λc _ h=>.inr h;refine ⟨jk.os,jk.tape,jk.output,by simpa [World.setCell] using jk.size,λc aa aA=>(IJ c λh=>aA (.inl h)).trans (jk.block c aa aA),λa aR aA=>?_,jk.wL⟩;have:(fw.setCell ⟨b,k+1,none⟩ (.slice u4 cm cap)).frozen? a=fw.frozen? a:=by
   unfold World.frozen?;rw [IJ a.block λh=>aA (.inl h)]
  exact this.trans (jk.dG a aR aA)
 go_wp2
 go_ret2
 refine ⟨rfl,k8,_,r_ dX.new λc aa=>IJ c λh=>vm (h ▸ aa),pt,vm,λc aa=>?_⟩;rcases dX.yR c aa with h | h
 ·exact .inl h
 ·exact .inr (Nat.le_trans Ik.size h)
set_option maxHeartbeats 1000000 in
set_option maxRecDepth 100000 in
theorem Sl (L:Lays.n169 P ρ) (X:Builder.Extra P ρ) {b k:Nat}{arr:Array Value}{e:TypeId}{v:Value}(l:List UInt8) (w:World)
  (av:w.heap[b]?=some (.cells arr e (0,0))) (h1:arr[k+1]?=some v) (nv:w.ownsRow 0 (ρ.t 5) 1 v l.length (Lib.byteCells l)) (aO:l≠[]) :
  Calls P (ρ.f 169) #[.pointer (some ⟨b,k,none⟩)] w λb_ w'=>b_=.returned (.string ⟨l.toArray⟩)/\Fr w w' (λc=>v.ownBlock=some c):=by
 have zj:l.length≠0:=by simpa using aO
 have We:=nv;obtain ⟨g,cap,cur,rfl,_,aN,ac7,p',gS,zq⟩:∃ g cap cur,v=.slice (some ⟨g,0,none⟩) l.length cap/\0<=g/\w.heap[g]?=some (.cells cur (ρ.t 5) (0,0))/\l.length<=cap/\cap<=maxLen/\cur.size=cap * 1/\cur.toList.take (l.length * 1)=Lib.byteCells l:=by
  rcases nv.2 with ⟨_,aW⟩ | ⟨g,cap,cur,hv,r⟩
  ·exact absurd aW zj
  ·exact ⟨g,cap,cur,hv,r⟩
 have c1:w.drew.cell? ⟨b,k+1,none⟩=some (.slice (some ⟨g,0,none⟩) l.length cap):=by
  have:w.drew.heap[b]?=some (.cells arr e (0,0)):=av;rw [Lib.cell_of_heap this]; exact h1
 have acC:(Builtin.unsafeSliceData_ #[(ρ.t 37)] (ρ.t 127) #[.slice (some ⟨g,0,none⟩) l.length cap]).run P w.drew=.ok (.pointer (some ⟨g,0,none⟩)) w.drew :=
  Lib.run_unsafeSliceData_row _ _ _ _ _ _ (by omega)
 have acD:(Builtin.unsafeString_ #[(ρ.t 127),(ρ.t 3)] (ρ.t 9) #[.pointer (some ⟨g,0,none⟩),.int .i64 l.length]).run P w.drew=.ok (.string ⟨l.toArray⟩) (w.drew.freeze ⟨g,0,none⟩ l.length):=by
  refine Lib.run_unsafeString_row w.drew (ρ.t 127) (ρ.t 3) (ρ.t 9) (ρ.t 5) L.t127 X.cellsByte g cur.size (by have Em:w.drew.heap[g]?=some (.cells cur (ρ.t 5) (0,0)):=aN; simp [World.shape?,Em]) l aO (by omega) (by unfold maxLen at p'; omega) ?_;intro J x j;have:=We.cells (g:=g) rfl J (.int .u8 x.toNat) (by simp [Lib.byteCells,j]);exact this
 have mixed:=L.mixed;have t72:=L.t72; have a72:=L.a72; have z72:=L.z72; have v72:=L.v72; have KJ:=run_underlying L.t72;have t70:=L.t70; have a70:=L.a70; have z70:=L.z70; have v70:=L.v70; have KI:=run_underlying L.t70;have t37:=L.t37; have a37:=L.a37; have z37:=L.z37; have v37:=L.v37; have ZS:=run_underlying L.t37;have t127:=L.t127; have a127:=L.a127; have z127:=L.z127; have v127:=L.v127; have adA:=run_underlying L.t127;have t3:=L.t3; have a3:=L.a3; have z3:=L.z3; have v3:=L.v3; have Qr:=run_underlying L.t3;have t9:=L.t9; have a9:=L.a9; have z9:=L.z9; have v9:=L.v9; have KK:=run_underlying L.t9;have t5:=X.t5; have a5:=X.a5; have z5:=X.z5; have v5:=X.v5; have ZT:=run_underlying X.t5;have k8:Fr w (w.drew.freeze ⟨g,0,none⟩ l.length) (λc=>(Value.slice (some ⟨g,0,none⟩) l.length cap).ownBlock=some c):=by
  have aV:∀ c,c≠g->(w.drew.freeze ⟨g,0,none⟩ l.length).heap[c]?=w.heap[c]?:=λc aa=>by
   unfold World.freeze;rw [if_neg zj];simp only [Array.getElem?_modify,if_neg (Ne.symm aa)];rfl
  refine ⟨by unfold World.freeze; split <;> rfl,by unfold World.freeze; split <;> rfl,by unfold World.freeze; split <;> rfl,by unfold World.freeze; split <;> simp,λc _ aa=>aV c λh=>aa (by simp [Value.ownBlock,h]),λa _ aA=>?_,by unfold World.freeze; split <;> exact Nat.le_succ _⟩;unfold World.frozen?;rw [aV a.block λh=>aA (by simp [Value.ownBlock,h])]
 go_enter L.f169,Body.n169_ntmps ρ
 go_wp2
 go_region_o
 all_goals (go_wp2; go_ret; exact ⟨rfl,k8⟩)
end Go.Proofs
namespace Go.Own
open Go Go.Proofs Go.Shelf Go.Lib
set_option linter.unusedSectionVars false
variable [cH]
def ni (x s:ByteArray):Option ByteArray:=if x.size+s.size<=140737488355328 then some (x++s) else none
def wE (x:ByteArray):Option ByteArray:=if x.size=0 then none else some x
theorem Zp (x s:ByteArray):strCells x++strCells s=strCells (x++s):=by
 unfold strCells;rw [<- List.map_append];congr 1
section
variable {P:Program}{ρ:Ren}
theorem bY.mK (L:Lays.n166 P ρ) (X:Builder.Extra P ρ) {x s y:ByteArray}(h:ni x s=some y) :
  bY P (ρ.f 166) [.obj [.self (0,ρ.t 72),.eV (ρ.t 5) (strCells x)],aw s] [some (.obj [.self (0,ρ.t 72),.eV (ρ.t 5) (strCells y)]),none] (.bQ [ae s.size,.lit .nilIface]):=by
 refine ⟨rfl,λw I vs Fs oJ bm=>?_⟩
 match vs,oJ with
 | [v0,v1],_ =>
 obtain ⟨Qp,BS,fW⟩:=bm.rel 0 _ rfl;obtain ⟨adz,WC,Bf⟩:=bm.rel 1 _ rfl;cases BS; cases WC;have rW:=(Bf.hb (by simp)).h_.1;subst rW;unfold ni at h
 split at h <;> cases h
 rename_i eR;have a1:=fW.hb (by simp);cases a1 with
 | ref j=>simp [ab.isRef] at j
 | @obj _ b e arr bV _ aV ai h1 ah aP av aI az =>
  have rR:arr.size=2:=ai.symm;have wV:arr[0]?=some arr[0]:=Array.getElem?_eq_getElem (by omega);have wW:arr[1]?=some arr[1]:=Array.getElem?_eq_getElem (by omega);have au:=az 0 _ _ rfl wV;have Bg:=ah 1 _ _ rfl wW;cases Bg with
  | ref j=>simp [ab.isRef] at j
  | eV lV gy lT =>
   have cz:arr[1].ownBlock≠some b:=λh=>av 1 (by simp) ((lT b).2 h);rw [strCells_length] at lV;refine (bws L X s w aV wV wW (au.imp (λ⟨h1,af⟩=>⟨h1,by rw [af,rR]; exact X.liesBuilder⟩) id) lV cz eR).mono ?_;rintro b_ w' ⟨rfl,k8,eh,nv,Bs,V',hblk⟩;rw [Zp] at nv;have aQ:∀ c,eh.ownBlock=some c->c<w'.heap.size:=λc aa=>(nv.lt c aa).2;have aA:x.size+s.size=(strCells (x++s)).length:=by rw [strCells_length]; simp [ByteArray.size_append]
   rw [aA] at nv;have NF:eh.oneCell'=true:=by
    rcases nv.2 with ⟨hv,_⟩ | ⟨g,cap,cur,hv,_⟩ <;> rw [hv] <;> rfl
   have tP:∀ c,(c=b\/eh.ownBlock=some c)->Fs 0 c\/w.heap.size<=c:=by
    rintro c (rfl | aa)
    ·exact .inl ((aI _).2 (.inl rfl))
    ·rcases hblk c aa with h | h
     ·exact .inl ((aI c).2 (.inr ⟨1,by simp,(lT c).2 h⟩))
     ·exact .inr h
   refine ⟨_,I,λt c=>t=0/\(c=b\/eh.ownBlock=some c),rfl,⟨λt x j=>?_,λt ar c aa=>?_,λt t' c aa e_=>aa.1.trans e_.1.symm,λt c aa hi=>?_,λc aa=>Nat.lt_of_lt_of_le (bm.lt c aa) k8.size,λt t' z p n m new br cm bh cO h1 _=>?_,cH.keep bm.hN (λc aa=>k8.block c (bm.lt c aa) λh=>bm.bk 0 c (h.elim (λh=>h ▸ (aI b).2 (.inl rfl)) λh=>(aI c).2 (.inr ⟨1,by simp,(lT c).2 h⟩)) aa) λ_ h=>h⟩,⟨?_,λ_ h=>h,λ_ h=>.inl h,λc aa=>?_⟩⟩
   ·match t,j with
    | 0,j =>
     cases j;refine ⟨_,rfl,.tree ?_⟩;refine .obj (Fs:=λk c=>k=1/\eh.ownBlock=some c) Bs (by simp [rR]) (λk u hu=>?_) (λk y u al hu=>?_) (λJ k c _ _ h1 af=>h1.1.trans af.1.symm) (λk _ h=>V' h.2) (λc=>⟨λh=>h.2.imp id λh=>⟨1,by simp,rfl,h⟩,λh=>⟨rfl,h.imp id λ⟨_,_,_,h⟩=>h⟩⟩) (λk J u al hu=>?_)
     ·match k,hu with
      | 0,hu=>simp [rR] at hu; subst hu; rfl
      | 1,hu=>simp [rR] at hu; subst hu; exact NF
      | k+2,hu=>simp [rR] at hu
     ·match k,al,hu with
      | 0,al,hu=>cases al; exact .l6 λc h=>by cases h.1
      | 1,al,hu =>
       cases al;simp [rR] at hu;subst hu;exact .eV nv NF λc=>⟨λh=>h.2,λh=>⟨rfl,h⟩⟩
      | k+2,al,hu=>cases al
     ·match k,al,hu with
      | 0,al,hu =>
       cases al;simp [rR] at hu;exact .inr hu.symm
      | 1,al,hu=>cases al
      | k+2,al,hu=>cases al
    | 1,j=>cases j
    | 2,j =>
     cases j;refine ⟨_,rfl,.tree (.bQ (Fs:=λ_=>ct) rfl (λk y u al hu=>?_) (λ_ _ _ _ _ h=>h.elim) (λc=>⟨λh=>(by cases h.1),λ⟨_,_,h⟩=>h.elim⟩))⟩
     match k,al,hu with
     | 0,al,hu=>cases al; cases hu; exact .lit rfl λ_ h=>h
     | 1,al,hu=>cases al; cases hu; exact .lit rfl λ_ h=>h
     | k+2,al,hu=>cases al
    | t+3,j=>simp [l2] at j
   ·rw [aa.1] at ar; cases ar
   ·rcases tP c aa.2 with h | h
    ·exact bm.bk 0 c h hi
    ·have:=bm.lt c hi; omega
   ·match t,h1 with
    | 0,h1=>cases h1
    | 1,h1=>cases h1
    | 2,h1=>cases h1
    | t+3,h1=>simp [l2] at h1
   ·refine k8.mono λc _ h=>⟨0,?_⟩;rcases h with rfl | h
    ·exact (aI _).2 (.inl rfl)
    ·exact (aI c).2 (.inr ⟨1,by simp,(lT c).2 h⟩)
   ·obtain ⟨t,_,aa⟩:=aa;rcases tP c aa with h | h
    ·exact .inl ⟨0,h⟩
    ·exact .inr h
theorem bY.dr (L:Lays.n169 P ρ) (X:Builder.Extra P ρ) {x y:ByteArray}(h:wE x=some y) :
  bY P (ρ.f 169) [.obj [.self (0,ρ.t 72),.eV (ρ.t 5) (strCells x)]] [some (.obj [.self (0,ρ.t 72),.dead])] (aw y):=by
 refine ⟨rfl,λw I vs Fs oJ bm=>?_⟩
 match vs,oJ with
 | [v0],_ =>
 obtain ⟨Qp,BS,fW⟩:=bm.rel 0 _ rfl;cases BS;unfold wE at h
 split at h <;> cases h
 rename_i eR;have a1:=fW.hb (by simp);cases a1 with
 | ref j=>simp [ab.isRef] at j
 | @obj _ b e arr bV _ aV ai h1 ah aP av aI az =>
  have rR:arr.size=2:=ai.symm;have wV:arr[0]?=some arr[0]:=Array.getElem?_eq_getElem (by omega);have wW:arr[1]?=some arr[1]:=Array.getElem?_eq_getElem (by omega);have Bg:=ah 1 _ _ rfl wW;cases Bg with
  | ref j=>simp [ab.isRef] at j
  | eV lV gy lT =>
   have cz:arr[1].ownBlock≠some b:=λh=>av 1 (by simp) ((lT b).2 h);have t_:strCells x=byteCells x.data.toList:=rfl;have hlen:(strCells x).length=x.data.toList.length:=by unfold strCells; rw [List.length_map]
   rw [hlen,t_] at lV;refine (Sl L X (k:=0) x.data.toList w aV wW lV (λe=>eR (by rw [<- strCells_length]; unfold strCells; rw [e]; rfl))).mono ?_;rintro b_ w' ⟨rfl,k8⟩;have Vs:b<w.heap.size:=(Array.getElem?_eq_some_iff.1 aV).1;have Bs:w'.heap[b]?=some (.cells arr e (0,0)):=(k8.block b Vs cz).trans aV;refine ⟨_,I,λt c=>t=0/\c=b,rfl,⟨λt x j=>?_,λt ar c aa=>?_,λt t' c aa e_=>aa.1.trans e_.1.symm,λt c aa hi=>?_,λc aa=>Nat.lt_of_lt_of_le (bm.lt c aa) k8.size,λt t' z p n m new br cm bh cO h1 _=>?_,cH.keep bm.hN (λc aa=>k8.block c (bm.lt c aa) λh=>bm.bk 0 c ((aI c).2 (.inr ⟨1,by simp,(lT c).2 h⟩)) aa) λ_ h=>h⟩,⟨?_,λ_ h=>h,λ_ h=>.inl h,λc aa=>?_⟩⟩
   ·match t,j with
    | 0,j =>
     cases j;refine ⟨_,rfl,.tree (.obj (Fs:=λ_=>ct) Bs ai h1 (λk y u al hu=>?_) (λ_ _ _ _ _ h=>h.elim) (λ_ _ h=>h) (λc=>⟨λh=>.inl h.2,λh=>⟨rfl,h.elim id λ⟨_,_,h⟩=>h.elim⟩⟩) (λk J u al hu=>?_))⟩
     ·match k,al with
      | 0,al=>cases al; exact .l6 λ_ h=>h
      | 1,al=>cases al; exact .dead λ_ h=>h
      | k+2,al=>cases al
     ·match k,al with
      | 0,al=>cases al; exact az 0 _ u rfl hu
      | 1,al=>cases al
      | k+2,al=>cases al
    | 1,j =>
     cases j;refine ⟨_,rfl,.tree (.lit rfl λc h=>by cases h.1)⟩
    | t+2,j=>simp [l2] at j
   ·rw [aa.1] at ar; cases ar
   ·rw [aa.2] at hi;exact bm.bk 0 b ((aI b).2 (.inl rfl)) hi
   ·match t,h1 with
    | 0,h1=>cases h1
    | 1,h1=>cases h1
    | t+2,h1=>simp [l2] at h1
   ·exact k8.mono λc _ h=>⟨0,(aI c).2 (.inr ⟨1,by simp,(lT c).2 h⟩)⟩
   ·obtain ⟨t,_,rfl⟩:=aa;exact .inl ⟨0,(aI _).2 (.inl rfl)⟩
end
end Go.Own
namespace Go.Own
open Go
set_option linter.unusedSectionVars false
variable [cH]
set_option linter.unusedVariables false
def JU:ab->Option ab
 | .lit v=>some (.lit v)
 | .aT=>some .aT
 | .bk z n cs=>some (.bk z n cs)
 | .own z n cs=>some (.own z n cs)
 | .obj cs=>some (.obj cs)
 | .agg cs=>some (.agg cs)
 | .bQ cs=>some (.bQ cs)
 | .cK cs=>some (.cK cs)
 | .ptr p k=>some (.ptr p k)
 | .bf z p n=>some (.bf z p n)
 | .sub z p l n=>some (.sub z p l n)
 | .bC z p n m c=>some (.bC z p n m c)
 | .ds f a b=>some (.ds f a b)
 | .mp p=>some (.mp p)
 | .hq p=>some (.hq p)
 | .imp p=>some (.imp p)
 | .dead=>some .dead
 | .self k=>some (.self k)
 | .eV t us=>some (.eV t us)
theorem OJ {x y:ab}(h:JU x=some y):x=y:=by cases x <;> (cases h; rfl)
def E8:List ab->Option (List ab)
 | []=>some []
 | x::l=>match E8 l with
  | none=>none
  | some r=>match JU x with
   | none=>none
   | some y=>some (y::r)
theorem OI:∀ {l r:List ab},E8 l=some r->l=r
 | [],r,h=>by cases h; rfl
 | x::l,r,h=>by
  unfold E8 at h
  split at h
  ·cases h
  ·rename_i cW ah
   split at h
   ·cases h
   ·rename_i y al;cases h; rw [OI ah,OJ al]
def sT:ab->Option ab
 | .agg cs=>match E8 cs with
  | some r=>some (.agg r)
  | none=>none
 | x=>JU x
theorem vK {x y:ab}(h:sT x=some y):x=y:=by
 unfold sT at h
 split at h
 ·split at h
  ·rename_i ah;cases h; rw [OI ah]
  ·cases h
 ·exact OJ h
def la:List ab->Option (List ab)
 | []=>some []
 | x::l=>match la l with
  | none=>none
  | some r=>match sT x with
   | none=>none
   | some y=>some (y::r)
theorem xv:∀ {l r:List ab},la l=some r->l=r
 | [],r,h=>by cases h; rfl
 | x::l,r,h=>by
  unfold la at h
  split at h
  ·cases h
  ·rename_i cW ah
   split at h
   ·cases h
   ·rename_i y al;cases h; rw [xv ah,vK al]
def x0 (f:Nat->ab->ab):Nat->List Nat->List ab->Option (List ab)
 | _,_,[]=>some []
 | _,[],_::_=>none
 | k,J::dZ,x::l=>match x0 f (k+1) dZ l with
  | none=>none
  | some r=>match Nat.beq J k,sT (f J x) with
   | true,some y=>some (y::r)
   | _,_=>none
theorem C5 {f:Nat->ab->ab}:∀ {l:List ab}{dZ:List Nat}{k:Nat}{r:List ab},x0 f k dZ l=some r->(l.mapIdx λi x=>f (k+i) x)=r
 | [],dZ,k,r,h=>by cases dZ <;> (cases h; rfl)
 | x::l,[],k,r,h=>by cases h
 | x::l,J::dZ,k,r,h=>by
  unfold x0 at h
  split at h
  ·cases h
  ·rename_i cW ah
   split at h
   ·rename_i y aj al;cases h;have:=Nat.eq_of_beq_eq_true aj;subst this;rw [List.mapIdx_cons,<- C5 ah,<- vK al];simp [Nat.add_comm,Nat.add_left_comm]
   ·cases h
def num:List Nat:=0::1::2::3::4::5::6::7::8::9::10::11::12::13::14::15::16::17::18::19::20::21::22::23::24::25::26::27::28::29::30::31::32::33::34::35::36::37::38::39::40::41::42::43::44::45::46::47::48::49::50::51::52::53::54::55::56::57::58::59::60::61::62::63::64::65::66::67::68::69::70::71::72::73::74::75::76::77::78::79::[]
def Fp (g:aL):Operand->Option ab
 | .tmp t=>match g t with
  | some (.lit v)=>some (.lit v)
  | some .aT=>some .aT
  | some (.bk z n cs)=>some (.bk z n cs)
  | some (.own z n _)=>some (.bf z ⟨t,[]⟩ n)
  | some (.obj (_::_))=>some (.ptr ⟨t,[]⟩ 0)
  | some (.cK cs)=>some (.cK cs)
  | some (.agg cs)=>match x0 (λi x=>fL 1 ⟨t,[i]⟩ x) 0 num cs with
   | some r=>some (.agg r)
   | none=>none
  | some (.bQ cs)=>match x0 (λi x=>fL 1 ⟨t,[i]⟩ x) 0 num cs with
   | some r=>some (.bQ r)
   | none=>none
  | some (.ptr p k)=>some (.ptr p k)
  | some (.bf z p n)=>some (.bf z p n)
  | some (.sub z p l n)=>some (.sub z p l n)
  | some (.bC z _ n m _)=>some (.bf z ⟨t,[]⟩ (n+m))
  | some (.ds fn [] cs)=>some (.ds fn [] cs)
  | some (.mp _)=>some (.hq ⟨t,[]⟩)
  | some (.hq p)=>some (.hq p)
  | some (.imp q)=>some (.imp q)
  | _=>none
 | .const v=>match ofConst v with
  | .lit v=>some (.lit v)
  | .agg cs=>some (.agg cs)
  | .aT=>match v with
   | .slice none 0 0=>some .aT
   | _=>none
  | _=>none
 | .func f=>some (.ds (.func f) [] [])
 | .global _=>none
theorem XY {v u:Value}(h:ofConst v=.lit u):u=v:=by
 cases v <;> simp only [ofConst,kg] at h <;> first | (cases h; rfl) | (split at h <;> cases h <;> rfl) | cases h
theorem Rd.q {g:aL}{a:Operand}{y:ab}(h:Fp g a=some y:=by rfl):Rd g a y:=by
 unfold Fp at h
 split at h
 ·split at h <;> first | (split at h <;> cases h <;> first | exact .agg ‹_› (by have:=C5 ‹_›; simpa [Place.push] using this) | exact .bQ ‹_› (by have:=C5 ‹_›; simpa [Place.push] using this)) | skip
  all_goals cases h
  all_goals first | exact .lit ‹_› | exact .aT ‹_› | exact .bk ‹_› | exact .own ‹_› | exact .obj ‹_› | exact .cK ‹_› | exact .ptr ‹_› | exact .bf ‹_› | exact .sub ‹_› | exact .bC ‹_› | exact .ds ‹_› | exact .mp ‹_› | exact .hq ‹_› | exact .imp ‹_›
 ·split at h
  ·rename_i e; cases h; have:=XY e; subst this; exact .k e
  ·rename_i e; cases h; exact .JA e
  ·split at h <;> cases h
   exact .zy
  ·cases h
 ·cases h; exact .func
 ·cases h
def Ft (g:aL) (t:Nat):Option ab :=
 match g t with
 | some (.lit v)=>some (.lit v)
 | some .aT=>some .aT
 | some (.bk z n cs)=>some (.bk z n cs)
 | some (.cK cs)=>some (.cK cs)
 | some (.ds fn [] cs)=>some (.ds fn [] cs)
 | some (.imp q)=>some (.imp q)
 | _=>none
theorem Rd.z_ {g:aL}{t:Nat}{y:ab}(h:Ft g t=some y:=by rfl):Rd g (.tmp t) y:=by
 unfold Ft at h
 split at h <;> cases h <;> first | exact .lit ‹_› | exact .aT ‹_› | exact .bk ‹_› | exact .cK ‹_› | exact .ds ‹_› | exact .imp ‹_›
class hd (P:Program) (t:TypeId) (α:outParam Type) (en:outParam (bz α)):Prop where p:True:=trivial
class ti {α:Type}(en:bz α) (cs:List ab) (y:outParam α):Prop where p:en.cells y=cs
instance {a:Int}:ti ax [ae a] a:=⟨rfl⟩
instance {a:Int}:ti p4 [qJ a] a:=⟨rfl⟩
instance {a:Bool}:ti cj [bc a] a:=⟨rfl⟩
instance {a:ByteArray}:ti cI [aw a] a:=⟨rfl⟩
instance {α:Type}{en:bz α}{l:List α}:ti (bG en) [.bk en.z l.length (bp en l)] l:=⟨rfl⟩
class o8 {α:Type}(en:bz α) (ys:List ab) (L:outParam (List α)):Prop where p:mg ys=some (bp en L)/\ys.all (λy=>match ji y with | some c=>Nat.beq c.length en.z | none=>false)=true/\L.length=ys.length
instance {α:Type}{en:bz α}:o8 en [] []:=⟨⟨rfl,rfl,rfl⟩⟩
theorem o8.cons {α:Type}{en:bz α}{y:ab}{cs:List ab}{ys:List ab}{a:α}{L:List α}(av:ji y=some cs) [h:ti en cs a] [ai:o8 en ys L]:o8 en (y::ys) (a::L):=by
 refine ⟨⟨?_,?_,?_⟩⟩
 ·simp [mg,av,ai.p.1,bp,h.p]
 ·simp only [List.all_cons,av,ai.p.2.1,Bool.and_true];rw [<- h.p,en.len]; exact Nat.beq_refl _
 ·simp [ai.p.2.2]
instance {α:Type}{en:bz α}{cs ys:List ab}{a:α}{L:List α} [h:ti en cs a] [ai:o8 en ys L]:o8 en (.agg cs::ys) (a::L):=.cons rfl
instance {α:Type}{en:bz α}{v:Value}{ys:List ab}{a:α}{L:List α} [h:ti en [.lit v] a] [ai:o8 en ys L]:o8 en (.lit v::ys) (a::L):=.cons rfl
instance {α:Type}{en:bz α}{z n:Nat}{cs:List ab}{ys:List ab}{a:α}{L:List α} [h:ti en [.bk z n cs] a] [ai:o8 en ys L]:o8 en (.bk z n cs::ys) (a::L):=.cons rfl
def v7 (d:Nat):List Oper->Bool
 | []=>false
 | o::l=>(match o.op with
  | .call { callee:=.value _,args:=xs,argTypes:=_ }=>xs.toList.any λx=>match x with | .tmp t=>Nat.beq t d | _=>false
  | .call { callee:=.builtin .append,args:=xs,argTypes:=_ }=>match xs.toList with | [_,.tmp t]=>Nat.beq t d | _=>false
  | .convert _ _ (.tmp t)=>Nat.beq t d
  | .build _ ps=>ps.toList.any λx=>match x.2 with | .tmp t=>Nat.beq t d | _=>false
  | .buildSlice _ _ ps=>ps.toList.any λx=>match x.2 with | .tmp t=>Nat.beq t d | _=>false
  | _=>false)||v7 d l
class Ax (P:Program):Prop where p:P.follows .mixedOrders=true:=by kernel_rfl
class j1 (P:Program) (t:TypeId) (k:outParam Nat):Prop where p:iH P t k=true:=by kernel_rfl
class h2 (P:Program) (t:TypeId) (z:outParam Value):Prop where p:(P.info? t).bind (·.zero)=some z:=by kernel_rfl
class K' (P:Program) (e:TypeId) (t:outParam TypeId):Prop where p:(P.info? e).bind (·.zero)=some (.agg #[.pointer none,.slice none 0 0]):=by kernel_rfl
class jK (P:Program) (t:TypeId) (pl:outParam (List (Nat × Nat))):Prop where p:kr P t pl=true:=by kernel_rfl
class iS (P:Program) (t:TypeId) (e z b:outParam Nat):Prop where p:jL P t e z b=true:=by kernel_rfl
class Ay (P:Program) (t:TypeId) (k:outParam IntKind):Prop where p:xg P t k=true:=by kernel_rfl
class yp (P:Program) (t:TypeId) (b:outParam Nat):Prop where p:(P.info? t).map (·.bytes)=some b:=by kernel_rfl
section
variable {α β:Type}{P:Program}{g:aL}{ty t t2:TypeId}{a b:Operand}{k r z n:Nat}{cs cs':List ab}{x y:ab}{p q:Place}{m:Int}{oa JB:IntKind}{e:TypeId}{N:cQ}{ops:Array Oper}{gv:Nat}
theorem O.FN (j:Rd g a y:=by exact .q) (aa:(ji y).bind la=some cs:=by rfl):b8 P g (.box e a) ty (.obj cs):=by
 cases av:ji y with
 | none=>rw [av] at aa; cases aa
 | some c=>rw [av] at aa; have:=xv aa; subst this; exact O.box j av
theorem O.gL {v:Value} [h:fz P t] (j:Rd g a (.ptr ⟨r,[]⟩ k):=by exact .q) (az:g r=some (.obj cs):=by rfl) (aa:cs[k]?=some (.lit v):=by rfl):b8 P g (.load t a) ty (.lit v):=O.pA az j h.p aa
theorem O.fw [h:fz P t] (j:Rd g a (.cK cs):=by exact .q) (aa:cs.head?.bind sT=some x:=by rfl):b8 P g (.load t a) ty x:=by
 cases av:cs.head? with
 | none=>rw [av] at aa; cases aa
 | some c=>rw [av] at aa; have:=vK aa; subst this; exact O.B' j h.p av
theorem O.wc [h:fz P t] (j:Rd g a (.ptr ⟨r,[]⟩ k):=by exact .q) (az:g r=some (.obj cs):=by rfl) (aa:cs[k]?=some x:=by rfl) (al:sT (fL 0 ⟨r,[k]⟩ x)=some y:=by rfl):b8 P g (.load t a) ty y:=O.xp az j h.p aa (vK al)
theorem O.we [h:j1 P t z] (j:Rd g a (.ptr ⟨r,[]⟩ k):=by exact .q) (az:g r=some (.obj cs):=by rfl) (hk:Nat.ble (k+z) cs.length=true:=by rfl) (aa:x0 (λi x=>fL 0 ⟨r,[i]⟩ x) k (num.drop k) ((cs.drop k).take z)=some cs':=by rfl):b8 P g (.load t a) ty (.agg cs'):=O.fa az j h.p hk (C5 aa)
theorem O.FR [h:j1 P t z] (j:Rd g a (.cK cs):=by exact .q) (aa:la (cs.take z)=some cs':=by rfl) (aW:cs'.length=z:=by rfl):b8 P g (.load t a) ty (.agg cs'):=O.sQ j h.p (xv aa) aW
theorem O.FX {en:bz α}{L:List α}{y:α}{o:Nat}{x x':ab} [ar:fz P t] (j:Rd g a (.ptr p (m.toNat * en.z+o)):=by exact .q) (au:bt g p=some (ao en L):=by rfl) (h:idx L m=some y:=by assumption) (aa:(en.cells y)[o]?=some x:=by rfl) (ah:sT (fL 0 (p.push (m.toNat * en.z+o)) x)=some x':=by rfl):b8 P g (.load t a) ty x':=O.jT au j ar.p h aa (vK ah)
theorem O.F7 {en:bz α}{L:List α}{y:α}{o:Nat} [ar:j1 P t z] (j:Rd g a (.ptr p (m.toNat * en.z+o)):=by exact .q) (au:bt g p=some (ao en L):=by rfl) (h:idx L m=some y:=by assumption) (aW:Nat.ble (o+z) en.z=true:=by rfl) (aa:la ((((en.cells y).drop o).take z).mapIdx (λi x=>fL 0 (p.push (m.toNat * en.z+o+i)) x))=some cs':=by rfl):b8 P g (.load t a) ty (.agg cs'):=O.Oq au j ar.p h aW (xv aa)
theorem O.Am {cn f off:Nat} [h:cN P cn f off t] (j:Rd g a (.ptr ⟨r,[]⟩ k):=by exact .q) (az:g r=some (.obj cs):=by rfl) (ai:Nat.blt (k+off) cs.length=true:=by rfl):b8 P g (.fieldAddr cn a f) ty (.ptr ⟨r,[]⟩ (k+off)):=O.nm az j h.p ai
theorem O.An {cn f off:Nat} [h:cN P cn f off t] (j:Rd g a (.cK cs):=by exact .q):b8 P g (.fieldAddr cn a f) ty (.cK (cs.drop off)):=O.A3 j h.p
theorem O.wf {en:bz α}{L:List α}{y:α}{cn f off o hl:Nat} [aS:cN P cn f off t] (j:Rd g a (.ptr p (m.toNat * en.z+o)):=by exact .q) (au:bt g p=some (ao en L):=by rfl) (h:idx L m=some y:=by assumption) (aV:o+off=hl:=by rfl) (aQ:Nat.blt hl en.z=true:=by rfl):b8 P g (.fieldAddr cn a f) ty (.ptr p (m.toNat * en.z+hl)):=O.kb au j aS.p h aV aQ
theorem O.FQ {en:bz α}{L:List α}{y:α}{br:Nat}(h:idx L m=some y) [aK:d' P t e br] (j:Rd g a (.bk en.z L.length (bp en L)):=by exact .q) (al:Rd g b (.lit (.int oa m)):=by exact .q) (aW:br=en.z:=by rfl):b8 P g (.indexAddr t a b) ty (.cK (en.cells y++bp en (L.drop (m.toNat+1)))):=O.qV j al (aW ▸ aK.p) h
theorem O.rn {en:bz α}{L:List α}{y:α}{br:Nat}(h:idx L m=some y) [aK:d' P t e br] (j:Rd g a (.bf en.z p L.length):=by exact .q) (au:bt g p=some (ao en L):=by rfl) (al:Rd g b (.lit (.int oa m)):=by exact .q) (aW:br=en.z:=by rfl) (aO:Nat.blt 0 en.z=true:=by rfl):b8 P g (.indexAddr t a b) ty (.ptr p (m.toNat * en.z+0)):=O.gI au j al (aW ▸ aK.p) h aO
theorem O.F5 {p i:Nat}{cs:List ab}{x y:ab}(j:g p=some (.bQ cs):=by rfl) (al:cs[i]?=some x:=by rfl) (ah:sT (fL 1 (Place.push ⟨p,[]⟩ i) x)=some y:=by rfl):b8 P g (.extract (.tmp p) i) ty y:=O.ex j al (vK ah)
theorem O.FW [h1:Ay P t oa] [af:Ay P t2 JB] (j:Rd g a (.lit (.int oa m)):=by exact .q):b8 P g (.convert t t2 a) ty (.lit (.int JB (JB.wrap m))):=O.Ts j h1.p af.p
theorem O.FV {L:List Int}(j:Rd g a (.bk p4.z L.length (bp p4 L)):=by exact .q) (ar:wF P t t2=true:=by kernel_rfl):b8 P g (.convert t t2 a) ty (aw (strOfNums L)):=O.Tr j ar
theorem O.FT {t5:TypeId} [h:K' P e t5]:b8 P g (.alloc e) ty (.obj [.self (0,e),.eV t5 (Lib.strCells ⟨#[]⟩)]):=.q4 (.DL h.p rfl)
theorem O.FU {dn:Value} [h:h2 P e dn] (h1:dn.cells.toList.all Value.oneCell'=true:=by rfl) (aa:la (dn.cells.toList.map kg)=some cs:=by rfl):b8 P g (.alloc e) ty (.obj cs):=O.hf h.p h1 (xv aa)
theorem O.F4 {parts:Array (Nat × Operand)}{pl:List (Nat × Nat)}{dn:Value}{ps:List (Nat × List ab)} [ar:jK P t pl] [aW:h2 P t dn] (h1:dn.cells.toList.all Value.oneCell'=true:=by rfl)
  (au:q5 g parts.toList=some ps:=by rfl) (aa:(u' (λi=>pl[i]?) (dn.cells.toList.map kg) ps).bind la=some cs:=by rfl):b8 P g (.build t parts) ty (.agg cs):=by
 cases av:u' (λi=>pl[i]?) (dn.cells.toList.map kg) ps with
 | none=>rw [av] at aa; cases aa
 | some c=>rw [av] at aa; have:=xv aa; subst this; exact O.e1 ar.p aW.p h1 au av
theorem O.wd {cn f off:Nat} [h:cN P cn f off t] [ar:fz P t] (j:Rd g a (.agg cs):=by exact .agg rfl rfl) (al:cs[off]?.bind sT=some x:=by rfl):b8 P g (.field cn a f) ty x:=by
 cases av:cs[off]? with
 | none=>rw [av] at al; cases al
 | some c=>rw [av] at al; have:=vK al; subst this; exact O.fd j h.p ar.p av
theorem O.wp {en:bz α}{L M r:List α}{br:Nat}(h:db L M=some r) [ar:iS P t e br gv] (az:Rd g a (.bf en.z p L.length):=by exact .q) (au:bt g p=some (ao en L):=by rfl) (j:Rd g b y:=by exact .q) (hm:nT g en y M:=by (first | exact .i | exact .n | exact .o rfl rfl)) (aW:br=en.z:=by rfl) (av:Nat.ble gv 128=true:=by rfl) [e':qE g]:b8 P g (.call { callee:=.builtin .append,args:=#[a,b],argTypes:=#[t,t] }) ty (.bC en.z p L.length M.length (bp en M)) :=
 O.ap az au j hm (aW ▸ ar.p) av h
def xq:List ab->Option (List Value)
 | []=>some []
 | .lit v::l=>match xq l with
  | some r=>some (v::r)
  | none=>none
 | _=>none
theorem Cd:∀ {l:List ab}{r:List Value},xq l=some r->l=r.map .lit
 | [],r,h=>by cases h; rfl
 | x::l,r,h=>by
  unfold xq at h
  split at h
  ·rename_i e; cases e
  ·rename_i e;cases e
   split at h
   ·rename_i cW ah;cases h; rw [Cd ah]; rfl
   ·cases h
  ·cases h
def x6:List Value->Option (List nS)
 | []=>some []
 | v::l=>match x6 l,l5 v with
  | some r,some u=>some (u::r)
  | _,_=>none
theorem C_:∀ {l:List Value}{r:List nS},x6 l=some r->l.map l5=r.map some
 | [],r,h=>by cases h; rfl
 | v::l,r,h=>by
  unfold x6 at h
  split at h
  ·rename_i q9 u ah az;cases h; simp [C_ ah,az]
  ·cases h
theorem O.og {AX tK:List ab}{nP o2:List Value}{ez:List nS}(j:Rd g a (.agg AX):=by exact .q) (al:Rd g b (.agg tK):=by exact .q) (zt:xq AX=some nP:=by rfl) (BU:xq tK=some o2:=by rfl) (aR:x6 nP=some ez:=by rfl) (av:x6 o2=some ez:=by rfl) (ar:u_ P t ez=true:=by kernel_rfl):b8 P g (.binOp .eql t a b t2) ty (bc (lA nP o2)):=O.TG (Cd zt ▸ j) (Cd BU ▸ al) (C_ aR) (C_ av) ar
theorem O.wn {AX tK:List ab}{nP o2:List Value}{ez:List nS}(j:Rd g a (.agg AX):=by exact .q) (al:Rd g b (.agg tK):=by exact .q) (zt:xq AX=some nP:=by rfl) (BU:xq tK=some o2:=by rfl) (aR:x6 nP=some ez:=by rfl) (av:x6 o2=some ez:=by rfl) (ar:u_ P t ez=true:=by kernel_rfl):b8 P g (.binOp .neq t a b t2) ty (bc (!lA nP o2)):=O.XQ (Cd zt ▸ j) (Cd BU ▸ al) (C_ aR) (C_ av) ar
theorem O.FZ {en:bz α}{z0:α}{r:List α}{br:Nat}{dn:Value}(h:nH m z0=some r) [het:hd P t α en] [ar:d' P t e br] [hzero:h2 P e dn] [jn:yp P e gv] (j:Rd g a (.lit (.int oa m)):=by exact .q) (al:Rd g b (.lit (.int .i64 m)):=by exact .q) (h1:dn.cells.toList.all Value.oneCell'=true:=by rfl) (aa:dn.cells.toList.map kg=en.cells z0:=by rfl) (aW:br=en.z:=by rfl) (av:Nat.ble gv 128=true:=by rfl):b8 P g (.makeSlice t a b) ty (ao en r) :=
 O.mk (aW ▸ ar.p) j al hzero.p h1 aa h jn.p av
theorem O.wl {en:bz α}{br:Nat} [het:hd P t α en] [ar:d' P t e br] (aW:br=en.z:=by rfl) (hzero:ia P e en.z=true:=by kernel_rfl):b8 P g (.buildSlice t 0 #[]) ty (ao en ([]:List α)) :=
 O.dr (ys:=[]) en [] (aW ▸ ar.p) rfl rfl rfl rfl rfl rfl hzero (by rw [Nat.zero_mul]; rfl) rfl
theorem O.F0 {en:bz α}{M r:List α}{br:Nat}(h:db [] M=some r) [ar:iS P t e br gv] (az:Rd g a .aT:=by exact .q) (j:Rd g b y:=by exact .q) (hm:nT g en y M:=by (first | exact .i | exact .n | exact .o rfl rfl)) (aW:br=en.z:=by rfl) (av:Nat.ble gv 128=true:=by rfl):b8 P g (.call { callee:=.builtin .append,args:=#[a,b],argTypes:=#[t,t] }) ty (ao en M) :=
 O.RO az j hm (aW ▸ ar.p) av h
theorem O.F1 {en:bz α}{L r:List α}{c:Operand}{n:Int}{k:IntKind}{br:Nat}(h:m_ L 0 n=some r) [ar:d' P t e br] (j:Rd g a (.bk en.z L.length (bp en L)):=by exact .q) (bH:Rd g c (.lit (.int k n)):=by exact .q) (aW:br=en.z:=by rfl):b8 P g (.slice t a none (some c) none) ty (ak en r):=O.Zh j bH (aW ▸ ar.p) h
theorem O.F2 {en:bz α}{L r:List α}{k:IntKind}{br:Nat}(h:m_ L m L.length=some r) [ar:d' P t e br] (j:Rd g a (.bk en.z L.length (bp en L)):=by exact .q) (ai:Rd g b (.lit (.int k m)):=by exact .q) (aW:br=en.z:=by rfl):b8 P g (.slice t a (some b) none none) ty (ak en r):=O.Zi j ai (aW ▸ ar.p) h
theorem O.F3 {en:bz α}{L r:List α}{c:Operand}{n:Int}{k qk:IntKind}{br:Nat}(h:m_ L m n=some r) [ar:d' P t e br] (j:Rd g a (.bk en.z L.length (bp en L)):=by exact .q) (ai:Rd g b (.lit (.int k m)):=by exact .q) (bH:Rd g c (.lit (.int qk n)):=by exact .q) (aW:br=en.z:=by rfl):b8 P g (.slice t a (some b) (some c) none) ty (ak en r):=O.Zg j ai bH (aW ▸ ar.p) h
def EU:List Nat->List Nat->Bool
 | [],[]=>true
 | a::l,b::m=>Nat.beq a b&&EU l m
 | _,_=>false
def Fk (p q:Place):Bool:=!(Nat.beq p.root q.root&&EU p.path q.path)
theorem Oo:∀ (l:List Nat),EU l l=true
 | []=>rfl
 | a::l=>by unfold EU; rw [Oo l,Nat.beq_refl]; rfl
theorem Pf {p q:Place}(h:Fk p q=true):p≠q:=by
 rintro rfl;unfold Fk at h;rw [Nat.beq_refl,Oo] at h;cases h
def vL (p:Place):List (Nat × ab)->Bool
 | []=>true
 | (_,.bC _ q _ _ _)::l=>Fk p q&&vL p l
 | _::l=>vL p l
theorem JV {p:Place}:∀ {G:List (Nat × ab)},vL p G=true->∀ t z n m new,get G t≠some (.bC z p n m new)
 | [],_,t,z,n,m,new,e=>by cases e
 | (s,x)::G,h,t,z,n,m,new,e=>by
  simp only [get] at e
  split at e
  ·cases e;unfold vL at h;rw [Bool.and_eq_true] at h;exact Pf h.1 rfl
  ·refine JV (G:=G) ?_ t z n m new e;unfold vL at h
   split at h
   ·rename_i cd; cases cd
   ·rename_i cd; cases cd; rw [Bool.and_eq_true] at h; exact h.2
   ·rename_i cd; cases cd; exact h
def xy (p:Place):Acc->Bool
 | []=>true
 | (_,_,some (.bC _ q _ _ _))::l=>Fk p q&&xy p l
 | _::l=>xy p l
theorem OL {p:Place}{G:List (Nat × ab)}{A:Nat->Bool}(c':vL p G=true):∀ {acc:Acc},xy p acc=true->∀ t z n m new,c5 (get G) A acc t≠some (.bC z p n m new)
 | [],_,t,z,n,m,new,e=>JV c' t z n m new e
 | (k,d,r)::acc,h,t,z,n,m,new,e=>by
  have af:xy p acc=true:=by
   unfold xy at h
   split at h
   ·rename_i cd; cases cd
   ·rename_i cd; cases cd; rw [Bool.and_eq_true] at h; exact h.2
   ·rename_i cd; cases cd; exact h
  simp only [c5] at e
  split at e
  ·split at e
   ·subst e;unfold xy at h;rw [Bool.and_eq_true] at h;exact Pf h.1 rfl
   ·cases e
  ·exact OL c' af t z n m new e
theorem O.wr {en:bz α}{L M r:List α}{br:Nat}{G:List (Nat × ab)}(h:db L M=some r) [ar:iS P t e br gv] (az:Rd (get G) a (.bf en.z p L.length):=by exact .q) (au:bt (get G) p=some (ao en L):=by rfl) (j:Rd (get G) b y:=by exact .q) (hm:nT (get G) en y M:=by (first | exact .i | exact .n | exact .o rfl rfl)) (aW:br=en.z:=by rfl) (av:Nat.ble gv 128=true:=by rfl) (a7:vL p G=true:=by rfl):b8 P (get G) (.call { callee:=.builtin .append,args:=#[a,b],argTypes:=#[t,t] }) ty (.bC en.z p L.length M.length (bp en M)) :=
 O.u5 az au j hm (aW ▸ ar.p) av h (JV a7)
theorem O.Qz {en:bz α}{L M r:List α}{br:Nat}{G:List (Nat × ab)}{A:Nat->Bool}{acc:Acc}(h:db L M=some r) [ar:iS P t e br gv] (az:Rd (c5 (get G) A acc) a (.bf en.z p L.length):=by exact .q) (au:bt (c5 (get G) A acc) p=some (ao en L):=by rfl) (j:Rd (c5 (get G) A acc) b y:=by exact .q) (hm:nT (c5 (get G) A acc) en y M:=by (first | exact .i | exact .n | exact .o rfl rfl)) (aW:br=en.z:=by rfl) (av:Nat.ble gv 128=true:=by rfl) (a7:vL p G=true:=by rfl) (Wk:xy p acc=true:=by rfl):b8 P (c5 (get G) A acc) (.call { callee:=.builtin .append,args:=#[a,b],argTypes:=#[t,t] }) ty (.bC en.z p L.length M.length (bp en M)) :=
 O.u5 az au j hm (aW ▸ ar.p) av h (OL a7 Wk)
instance {s:Nat}{x:ab}{G:List (Nat × ab)} [h:o' s (get G)]:o' s (get ((s,x)::G)):=(po (G:=G) (d:=s) (v:=x)) ▸ (inferInstance:o' s (cJ (get G) s x))
instance {s d:Nat}{x:ab}{G:List (Nat × ab)} [h:o' s (get G)] [j:nb x]:o' s (get ((d,x)::G)):=(po (G:=G) (d:=d) (v:=x)) ▸ (inferInstance:o' s (cJ (get G) d x))
theorem O.FO {en:bz α}{L M M2 r:List α}{br s:Nat}(h:db (L++M) M2=some r) [ar:iS P t e br gv] (az:Rd g a (.bf en.z ⟨s,[]⟩ (L.length+M.length)):=by exact .q) (qb:g s=some (.bC en.z q L.length M.length (bp en M)):=by rfl) (au:bt g q=some (ao en L):=by rfl) (j:Rd g b y:=by exact .q) (hm:nT g en y M2:=by (first | exact .i | exact .n | exact .o rfl rfl)) (aW:br=en.z:=by rfl) (av:Nat.ble gv 128=true:=by rfl) [e':o' s g]:b8 P g (.call { callee:=.builtin .append,args:=#[a,b],argTypes:=#[t,t] }) ty (.bC en.z ⟨s,[]⟩ (L.length+M.length) M2.length (bp en M2)) :=
 O.DM az qb au j hm (aW ▸ ar.p) av h
theorem O.F6 {en:bz β}{r:List (List β)}{br:Nat}{dn:Value}(h:nH m ([]:List β)=some r) [het:hd P t (List β) (bG en)] [ar:d' P t e br] [hzero:h2 P e dn] [jn:yp P e gv] (j:Rd g a (.lit (.int oa m)):=by exact .q) (al:Rd g b (.lit (.int .i64 m)):=by exact .q) (h1:dn.cells.toList.all Value.oneCell'=true:=by rfl) (aa:dn.cells.toList.map kg=[.aT]:=by rfl) (aW:br=(bG en).z:=by rfl) (av:Nat.ble gv 128=true:=by rfl):b8 P g (.makeSlice t a b) ty (ao (bG en) r) :=
 O.XM (aW ▸ ar.p) j al hzero.p h1 aa h jn.p av
theorem O.eH {en:bz α}{L:List α}{y:α}{br:Nat} [aK:d' P t e br] (j:Rd g a (.bk en.z L.length (bp en L)):=by exact .q) (al:Rd g b (.lit (.int oa m)):=by exact .q) (aW:br=en.z:=by rfl) (h:idx L m=some y:=by assumption):b8 P g (.indexAddr t a b) ty (.cK (en.cells y++bp en (L.drop (m.toNat+1)))):=O.qV j al (aW ▸ aK.p) h
theorem O.FY {en:bz α}{L:List α}{y:α}{br:Nat} [aK:d' P t e br] (j:Rd g a (.bf en.z p L.length):=by exact .q) (au:bt g p=some (ao en L):=by rfl) (al:Rd g b (.lit (.int oa m)):=by exact .q) (aW:br=en.z:=by rfl) (aO:Nat.blt 0 en.z=true:=by rfl) (h:idx L m=some y:=by assumption):b8 P g (.indexAddr t a b) ty (.ptr p (m.toNat * en.z+0)):=O.gI au j al (aW ▸ aK.p) h aO
end
def B8 (Gn:List (Nat × ab)) (ex:List Nat) (P9:List Nat):List (Nat × ab)->Option (List Nat)
 | []=>some []
 | (k,x)::l=>match B8 Gn ex (k::P9) l with
  | none=>none
  | some r=>match !ex.elem k&&!P9.elem k&&(match x with | .ptr ⟨q,[]⟩ _=>!ex.elem q&&(match get Gn q with | some (.obj _)=>true | _=>false) | _=>false) with
   | true=>some (k::r)
   | false=>some r
def lf (g g2:aL) (r:Nat):List (Nat × ab)->Bool
 | []=>true
 | (s,.ptr ⟨q,[]⟩ k)::l=>!Nat.beq s r&&(match g q,g2 q with | some (.obj cs),some (.obj kn)=>Nat.blt k cs.length&&Nat.blt k kn.length | _,_=>false)&&lf g g2 r l
 | _=>false
theorem OY {g g2:aL}{r:Nat}{s:Nat}{x:ab}{l:List (Nat × ab)}(h:lf g g2 r ((s,x)::l)=true):(∃ q k cs kn,x=.ptr ⟨q,[]⟩ k/\Nat.beq s r=false/\g q=some (.obj cs)/\Nat.blt k cs.length=true/\g2 q=some (.obj kn)/\Nat.blt k kn.length=true)/\lf g g2 r l=true:=by
 unfold lf at h
 split at h
 ·rename_i e; cases e
 ·rename_i cn q k vI e;cases e;rw [Bool.and_eq_true,Bool.and_eq_true] at h;obtain ⟨⟨h1,af⟩,aK⟩:=h
  split at af
  ·rename_i cs kn cw cd;rw [Bool.and_eq_true] at af;exact ⟨⟨q,k,cs,kn,rfl,by simpa using h1,cw,af.1,cd,af.2⟩,aK⟩
  ·cases af
 ·cases h
theorem MQ {g:aL}{r s:Nat}{x y:ab}(h:Nat.beq s r=false) (j:cJ g r x s=some y):g s=some y:=by
 unfold cJ at j;rw [if_neg (by rintro rfl; rw [Nat.beq_refl] at h; cases h)] at j;exact j
theorem CY {g:aL}{k:Nat}{ks:List Nat}{G1:List (Nat × ab)}(h:pick g (k::ks)=some G1):∃ x l,g k=some x/\pick g ks=some l/\G1=(k,x)::l:=by
 unfold pick at h
 split at h
 ·rename_i x j
  split at h
  ·rename_i l ai;cases h; exact ⟨x,l,j,ai,rfl⟩
  ·cases h
 ·cases h
theorem z6 {g g2:aL}{r:Nat}{cs2:List ab}{T:List (Nat × ab)}(dt:lu g g2 r cs2 T):∀ {ks:List Nat}{G1:List (Nat × ab)},pick (cJ g r (.obj cs2)) ks=some G1->(∀ e∈G1,cF e.2)->lu g g2 r cs2 (G1++T)
 | [],_,h,_=>by cases h; exact dt
 | k::ks,G1,h,aA=>by
  obtain ⟨x,l,j,ai,rfl⟩:=CY h;have aM:=z6 dt ai λe h=>aA e (by simp [h]);have fT:=aA (k,x) (by simp);by_cases e:Nat.beq k r=true
  ·have:=Nat.eq_of_beq_eq_true e;subst this;simp only [cJ,if_true] at j;cases j;have:dj cs2:=⟨by cases fT with | obj h=>exact h⟩;exact .b rfl aM
  ·have:b4 x:=⟨fT⟩;have e:=Bool.eq_false_iff.2 e;exact .n e (MQ e j) aM
theorem z7 {g g2:aL}{r:Nat}{cs2:List ab}:∀ {ks:List Nat}{G1:List (Nat × ab)},pick (cJ g r (.obj cs2)) ks=some G1->lf g g2 r G1=true->lu g g2 r cs2 G1
 | [],_,h,_=>by cases h; exact .nil
 | k::ks,G1,h,aA=>by
  obtain ⟨x,l,j,ai,rfl⟩:=CY h;obtain ⟨⟨q,J,cs,kn,rfl,h1,af,aK,bu,cu⟩,dM⟩:=OY aA;exact .p h1 (MQ h1 j) af aK bu cu (z7 ai dM)
theorem Fh {g g2:aL}{ex:List Nat}{T:List (Nat × ab)}(dt:mJ ex g g2 T):∀ {ks:List Nat}{G1:List (Nat × ab)},pick g ks=some G1->(ks.all λk=>!ex.elem k)=true->(∀ e∈G1,cF e.2)->mJ ex g g2 (G1++T)
 | [],_,h,_,_=>by cases h; exact dt
 | k::ks,G1,h,he,aA=>by
  obtain ⟨x,l,j,ai,rfl⟩:=CY h;rw [List.all_cons,Bool.and_eq_true] at he;have:b4 x:=⟨aA (k,x) (by simp)⟩;exact .n (by simpa using he.1) j (Fh dt ai he.2 λe h=>aA e (by simp [h]))
theorem Fi {g g2:aL}{ex:List Nat}{r:Nat}:∀ {ks:List Nat}{G1:List (Nat × ab)},pick g ks=some G1->(ks.all λk=>!ex.elem k)=true->lf g g2 r G1=true->mJ ex g g2 G1
 | [],_,h,_,_=>by cases h; exact .nil
 | k::ks,G1,h,he,aA=>by
  obtain ⟨x,l,j,ai,rfl⟩:=CY h;rw [List.all_cons,Bool.and_eq_true] at he;obtain ⟨⟨q,J,cs,kn,rfl,h1,af,aK,bu,cu⟩,dM⟩:=OY aA;exact .p (by simpa using he.1) j bu cu (Fi ai he.2 dM)
def rD:List (Nat × ab)->List (Nat × ab)->Option (List (Nat × ab))
 | [],T=>some T
 | p::l,T=>match rD l T with
  | some r=>some (p::r)
  | none=>none
theorem tA:∀ {l T r:List (Nat × ab)},rD l T=some r->r=l++T
 | [],_,_,h=>by cases h; rfl
 | p::l,T,r,h=>by
  unfold rD at h
  split at h
  ·rename_i cW ah;cases h; rw [tA ah]; rfl
  ·cases h
theorem rE {m:Option (List ab)}{ys:List ab}(h:m.bind la=some ys):m=some ys:=by
 cases av:m with
 | none=>rw [av] at h; cases h
 | some c=>rw [av] at h; rw [xv h]
theorem cZ.mF {P:Program}{g:aL}{xs:List Operand}{gl:Array TypeId}{f:FuncId}{ys args:List ab}{outs:List (Option ab)}{res:ab}(j:(fK g xs).bind la=some ys) (hv:ou g ys args) (g_:bY P f args outs res) [ah:oo res] (aS:iI P f=true:=by kernel_rfl) (aV:sV outs=true:=by rfl):cZ P g (.call { callee:=.value (.func f),args:=xs.toArray,argTypes:=gl }) res:=cZ.vw (rE j) hv g_ aS aV
def oj (ks hK:List Nat) (P:Program) (N:cQ) (g:aL) (o:Oper) (g':aL):Prop:=bq P N g o g'
section
variable {α:Type}{P:Program}{N:cQ}{ops:Array Oper}{g:aL}{K:aL->Prop}{l:List Oper}{d r k0 s:Nat}{ty t:TypeId}{pos:String}{after:Array Edge}{a b x:Operand}{cs cs' jj cs2:List ab}{y:ab}{G2 ic h3:List (Nat × ab)}{u:Option (Nat × Bool)}{p q:Place}{ks hK:List Nat}{en:bz α}{L M:List α}
theorem hP.hD (aR:Rd g a (.ptr ⟨r,[]⟩ k0):=by exact .q) (az:g r=some (.obj cs):=by rfl) (av:Rd g b (.agg cs'):=by exact .q) (he:oY cs k0 cs'=some cs2:=by rfl) (au:pick (cJ g r (.obj cs2)) ks=some ic:=by rfl) (a7:pick (cJ g r (.obj cs2)) hK=some h3:=by rfl) (c':rD ic h3=some G2:=by rfl) (da:lf g (get G2) r h3=true:=by rfl) (aW:hC P t cs'.length=true:=by kernel_rfl) (aO:Nat.blt 0 cs'.length=true:=by rfl) (ah:(get G2 r).isSome=true:=by rfl) [aA:dj cs'] [e':dj cs] [aN:im ic]:oj ks hK P N g ⟨none,.store t a b,ty,pos,after,none⟩ (get G2) :=
 .kj rfl rfl az aR av rfl aW (Nat.ble_eq_true_of_le (lL he).2) aO (lL he).1 ah (by have:=tA c'; subst this; exact z6 (z7 a7 da) au aN.p)
theorem hP.o0 (aR:Rd g a (.ptr ⟨r,[]⟩ k0):=by exact .q) (az:g r=some (.obj cs):=by rfl) (av:Rd g b y:=by exact .q) (aa:nY y=some [y]:=by rfl) (he:oY cs k0 [y]=some cs2:=by rfl) (au:pick (cJ g r (.obj cs2)) ks=some ic:=by rfl) (a7:pick (cJ g r (.obj cs2)) hK=some h3:=by rfl) (c':rD ic h3=some G2:=by rfl) (da:lf g (get G2) r h3=true:=by rfl) (aW:hC P t 1=true:=by kernel_rfl) (ah:(get G2 r).isSome=true:=by rfl) [aA:b4 y] [e':dj cs] [aN:im ic]:oj ks hK P N g ⟨none,.store t a b,ty,pos,after,none⟩ (get G2) :=
 .kj rfl rfl az aR av aa aW (Nat.ble_eq_true_of_le (lL he).2) rfl (lL he).1 ah (by have:=tA c'; subst this; exact z6 (z7 a7 da) au aN.p)
theorem hP.j8 (j:Rd g x (.bf en.z p L.length):=by exact .q) (au:bt g p=some (ao en L):=by rfl) (hk:pick g ks=some ic:=by rfl) (cz:(ks.all λk=>![p.root].elem k)=true:=by rfl) (a7:pick g hK=some h3:=by rfl) (c':rD ic h3=some G2:=by rfl) (vm:(hK.all λk=>![p.root].elem k)=true:=by rfl) (da:lf g (get G2) 1000000 h3=true:=by rfl) (aN:get G2 d=none:=by rfl) (a_:N.ok d=true:=by rfl) [aA:im ic]:oj ks hK P N g ⟨some d,.assign x,ty,pos,after,u⟩ (cJ (get G2) d (ao en L)) :=
 .wy rfl rfl j au (by have:=tA c'; subst this; exact Fh (Fi a7 vm da) hk cz aA.p) aN a_
theorem hP.RA (j:Rd g x y:=by exact .q) (hk:pick g ks=some G2:=by rfl) (aN:get G2 d=none:=by rfl) (a_:N.ok d=true:=by rfl) [al:b4 y] [aA:im G2]:oj ks hK P N g ⟨some d,.assign x,ty,pos,after,u⟩ (cJ (get G2) d y) :=
 .yJ rfl rfl j (.f .nil) .refl (uH hk aA.p) aN a_
theorem hP.AK (j:Rd g x (.bf en.z ⟨s,[]⟩ (L.length+M.length)):=by exact .q) (az:g s=some (.bC en.z q L.length M.length (bp en M)):=by rfl) (au:bt g q=some (ao en L):=by rfl) (hk:pick g ks=some ic:=by rfl) (cz:(ks.all λk=>![s,q.root].elem k)=true:=by rfl) (IM:pick g hK=some h3:=by rfl) (c':rD ic h3=some G2:=by rfl) (vm:(hK.all λk=>![s,q.root].elem k)=true:=by rfl) (da:lf g (get G2) 1000000 h3=true:=by rfl) (a7:Nat.beq q.root s=false:=by rfl) (aN:get G2 d=none:=by rfl) (a_:N.ok d=true:=by rfl) [aA:im ic]:oj ks hK P N g ⟨some d,.assign x,ty,pos,after,u⟩ (cJ (get G2) d (ao en (L++M))) :=
 .Ly rfl rfl j az au a7 (by have:=tA c'; subst this; exact Fh (Fi IM vm da) hk cz aA.p) aN a_
theorem hP.rf {iQ y2:α}{m:Int}{o:Nat}{eI x2 y0:ab}(aR:Rd g a (.ptr p (m.toNat * en.z+o)):=by exact .q) (au:bt g p=some (ao en L):=by rfl) (h:idx L m=some iQ:=by assumption) (av:Rd g b y:=by exact .q) (aa:nY y=some cs':=by rfl) (he:eP (en.cells iQ) o cs'=en.cells y2:=by rfl) (jF:cp g p (ao en (L.set m.toNat y2)) p.root=some eI:=by rfl) (kf:E7 eI=some x2:=by rfl) (hk:pick (cJ g p.root x2) ks=some G2:=by rfl) (aW:hC P t cs'.length=true:=by kernel_rfl) (hlen:Nat.ble (o+cs'.length) en.z=true:=by rfl) (aO:Nat.blt 0 cs'.length=true:=by rfl) (ah:(get G2 p.root).isSome=true:=by rfl) (vB:g p.root=some y0:=by rfl) [aA:b4 y] [e':b4 y0] [aN:im G2]:oj ks hK P N g ⟨none,.store t a b,ty,pos,after,none⟩ (get G2) :=
 .x9 rfl rfl aR av au h aW aa he hlen aO (by rw [jF,OH kf]) ah vB (Kg hk aN.p)
theorem hP.P1 {g1:aL}{bI:ab}(av:Rd g b y) (ar:eU g [y] [bI] g1) (aR:Rd g a (.ptr ⟨r,[]⟩ k0):=by exact .q) (aa:nY bI=some cs':=by rfl) (az:g1 r=some (.obj jj):=by rfl) (he:oY jj k0 cs'=some cs2:=by rfl) (hk:pick (cJ g1 r (.obj cs2)) ks=some ic:=by rfl) (fS:pick (cJ g1 r (.obj cs2)) hK=some h3:=by rfl) (c':rD ic h3=some G2:=by rfl) (da:lf g1 (get G2) r h3=true:=by rfl) (aW:hC P t cs'.length=true:=by kernel_rfl) (aO:Nat.blt 0 cs'.length=true:=by rfl) (ah:(get G2 r).isSome=true:=by rfl) [e':dj jj] [aN:im ic]:oj ks hK P N g ⟨none,.store t a b,ty,pos,after,none⟩ (get G2) :=
 .v' rfl rfl aR av ar .refl aa aW az (Nat.ble_eq_true_of_le (lL he).2) aO (lL he).1 ah (by have:=tA c'; subst this; exact z6 (z7 fS da) hk aN.p)
theorem hP.ov {g1:aL}{bI:ab}(av:Rd g x y) (ar:eU g [y] [bI] g1) (hk:pick g1 ks=some G2:=by rfl) (aN:get G2 d=none:=by rfl) (a_:N.ok d=true:=by rfl) [aA:im G2]:oj ks hK P N g ⟨some d,.assign x,ty,pos,after,u⟩ (cJ (get G2) d bI) :=
 .yJ rfl rfl av ar .refl (uH hk aA.p) aN a_
theorem hP.DM {M2:List α}{s2:Nat}(j:Rd g x (.bf en.z ⟨s,[]⟩ (L.length+M2.length+M.length)):=by exact .q) (az:g s=some (.bC en.z ⟨s2,[]⟩ (L.length+M2.length) M.length (bp en M)):=by rfl) (lX:g s2=some (.bC en.z q L.length M2.length (bp en M2)):=by rfl) (au:bt g q=some (ao en L):=by rfl) (a7:Nat.beq q.root s=false:=by rfl) (qR:Nat.beq q.root s2=false:=by rfl) (BO:Nat.beq s s2=false:=by rfl) (hk:pick g ks=some ic:=by rfl) (cz:(ks.all λk=>![s,s2,q.root].elem k)=true:=by rfl) (IM:pick g hK=some h3:=by rfl) (c':rD ic h3=some G2:=by rfl) (vm:(hK.all λk=>![s,s2,q.root].elem k)=true:=by rfl) (da:lf g (get G2) 1000000 h3=true:=by rfl) (aN:get G2 d=none:=by rfl) (a_:N.ok d=true:=by rfl) [aA:im ic]:oj ks hK P N g ⟨some d,.assign x,ty,pos,after,u⟩ (cJ (get G2) d (ao en (L++M2++M))) :=
 .Ro rfl rfl j az lX au a7 qR BO (by have:=tA c'; subst this; exact Fh (Fi IM vm da) hk cz aA.p) aN a_
theorem hP.sp (av:Rd g b (.bf en.z ⟨s,[]⟩ (L.length+M.length)):=by exact .q) (qb:g s=some (.bC en.z q L.length M.length (bp en M)):=by rfl) (au:bt g q=some (ao en L):=by rfl) (aR:Rd g a (.ptr ⟨r,[]⟩ k0):=by exact .q) (az:cp (cp g ⟨s,[]⟩ .dead) q .dead r=some (.obj jj):=by rfl) (he:oY jj k0 [ao en (L++M)]=some cs2:=by rfl) (hk:pick (cJ (cp (cp g ⟨s,[]⟩ .dead) q .dead) r (.obj cs2)) ks=some ic:=by rfl) (fS:pick (cJ (cp (cp g ⟨s,[]⟩ .dead) q .dead) r (.obj cs2)) hK=some h3:=by rfl) (c':rD ic h3=some G2:=by rfl) (da:lf (cp (cp g ⟨s,[]⟩ .dead) q .dead) (get G2) r h3=true:=by rfl) (a7:Nat.beq q.root s=false:=by rfl) (aW:hC P t 1=true:=by kernel_rfl) (ah:(get G2 r).isSome=true:=by rfl) [e':dj jj] [aN:im ic]:oj ks hK P N g ⟨none,.store t a b,ty,pos,after,none⟩ (get G2) :=
 .FJ rfl rfl aR av qb au a7 .ij .hW rfl rfl aW az (Nat.ble_eq_true_of_le (lL he).2) (lL he).1 ah (by have:=tA c'; subst this; exact z6 (z7 fS da) hk aN.p)
theorem hP.uP (av:Rd g b (.bf en.z p L.length):=by exact .q) (au:bt g p=some (ao en L):=by rfl) (aR:Rd g a (.ptr ⟨r,[]⟩ k0):=by exact .q) (az:cp g p .dead r=some (.obj jj):=by rfl) (he:oY jj k0 [ao en L]=some cs2:=by rfl) (hk:pick (cJ (cp g p .dead) r (.obj cs2)) ks=some ic:=by rfl) (fS:pick (cJ (cp g p .dead) r (.obj cs2)) hK=some h3:=by rfl) (c':rD ic h3=some G2:=by rfl) (da:lf (cp g p .dead) (get G2) r h3=true:=by rfl) (aW:hC P t 1=true:=by kernel_rfl) (ah:(get G2 r).isSome=true:=by rfl) [e':dj jj] [aN:im ic]:oj ks hK P N g ⟨none,.store t a b,ty,pos,after,none⟩ (get G2) :=
 .v' rfl rfl aR av (.r au .nil) .refl rfl aW az (Nat.ble_eq_true_of_le (lL he).2) rfl (lL he).1 ah (by have:=tA c'; subst this; exact z6 (z7 fS da) hk aN.p)
end
def EX:Nat->List (Option ab)->Option (Nat × List ab)
 | _,[]=>none
 | k,some (.obj cs)::_=>some (k,cs)
 | k,none::l=>EX (k+1) l
 | _,_=>none
def JJ (g:aL) (xs:List Operand) (k:Nat):Option Nat :=
 match xs[k]? with
 | some (.tmp t)=>match g t with
  | some (.ptr ⟨r,[]⟩ 0)=>some r
  | some (.obj _)=>some t
  | _=>none
 | _=>none
theorem hP.lI {P:Program}{N:cQ}{g:aL}{d r k0:Nat}{ty:TypeId}{pos:String}{after:Array Edge}{u:Option (Nat × Bool)}{f:FuncId}{xs:List Operand}{gl:Array TypeId}{ys args cs cs':List ab}{outs:List (Option ab)}{res:ab}{ks:List Nat}{G2:List (Nat × ab)}
  (g_:bY P f args outs res) (ai:EX 0 outs=some (k0,cs')) (ah:JJ g xs k0=some r) (au:pick (cp g ⟨r,[]⟩ .dead) ks=some G2) (j:(fK g xs).bind la=some ys) (aR:na r cs k0 0 ys args) (az:g r=some (.obj cs):=by rfl) (he:outs=uz args.length k0 (.obj cs'):=by rfl) (mu:Nat.blt k0 ys.length=true:=by rfl) (aS:iI P f=true:=by kernel_rfl) (aN:get G2 d=none:=by rfl) (rU:Nat.beq r d=false:=by rfl) (BI:pick (get ((r,.obj cs')::G2)) ks=some G2:=by rfl) (a_:N.ok d=true:=by rfl) [e':dj cs] [dP:b4 res] [BC:dj cs'] [aA:im G2] :
  bq P N g ⟨some d,.call { callee:=.value (.func f),args:=xs.toArray,argTypes:=gl },ty,pos,after,u⟩ (get ((d,res)::(r,.obj cs')::G2)) :=
 .call rfl a_ (h0.lI (A:=[]) rfl rfl (rE j) az aR mu (he ▸ g_) aS (uH au aA.p) aN rU (uH BI aA.p) .nil a_)
def qK:Acc->List (Nat × ab)->List (Nat × ab)
 | [],G=>G
 | (_,d,some x)::acc,G=>(d,x)::qK acc G
 | (_,_,none)::acc,G=>qK acc G
def cC (dZ:List Nat) (P:Program) (N:cQ) (ops:Array Oper) (a':List (List Nat)) (g0:aL) (i:Nat) (acc:Acc) (l:List Oper) (K:aL->Prop):Prop:=bA P N ops a' g0 i acc l K
section
variable {α β:Type}{P:Program}{N:cQ}{ops:Array Oper}{a':List (List Nat)}{acc:Acc}{E ks:List Nat}{t x y z:lq}{A B c:Code}{G G1 G2:List (Nat × ab)}{g:aL}{g':aL}{Φ oi:Exit->aL->Prop}{Ψ:aL->Prop}{K:aL->Prop}{id k s d i bw J cn:Nat}{b c9:Bool}{l:List Oper}{o:Oper}{op:Op}{ty ya:TypeId}{pos:String}{after:Array Edge}{v y':ab}{u:Option (Nat × Bool)}{a aB a2:Operand}
theorem cy.YV (h:cy E t P N .ret G Φ):cy E t P N .ret G Φ:=h
theorem aD.ts (h:aD P N ops (⟨none,.store ty aB a2,ya,pos,after,u⟩::l) g K):aD P N ops (⟨none,.store ty aB a2,ya,pos,after,u⟩::l) g K:=h
theorem cC.ts {dZ:List Nat}(h:cC dZ P N ops a' g i acc (⟨none,.store ty aB a2,ya,pos,after,u⟩::l) K):cC dZ P N ops a' g i acc (⟨none,.store ty aB a2,ya,pos,after,u⟩::l) K:=h
theorem cC.bJ (op:Op) (u:Option (Nat × Bool)) {dZ:List Nat}(h:cC dZ P N ops a' g i acc (⟨some d,op,ty,pos,after,u⟩::l) K):cC dZ P N ops a' g i acc (⟨some d,op,ty,pos,after,u⟩::l) K:=h
theorem cC.nl {dZ:List Nat}(h:cC dZ P N ops a' g i acc [] K):cC dZ P N ops a' g i acc [] K:=h
def Fq (g:aL) (d:Nat):Operand->Option ab
 | .tmp t=>bif Nat.beq t d then none else Ft g t
 | .const v=>Fp g (.const v)
 | _=>none
theorem Rd.pE {g:aL}{a:Operand}{y:ab}(h:Fq g d a=some y):Rd (del g d) a y:=by
 unfold Fq at h
 split at h
 ·rename_i t;cases av:Nat.beq t d with
  | true=>rw [av] at h; cases h
  | false =>
   rw [av] at h;have cz:t≠d:=Nat.ne_of_beq_eq_false av;refine Rd.z_ ?_;unfold Ft at h ⊢;simpa [del,cz] using h
 ·exact .q (by unfold Fp at h ⊢; exact h)
 ·cases h
theorem Re {y':ab}(j:Fq (get G) d a=some v) (aS:get G d=some y') (ai:leaf y'=true) (hk:aD P N ops l (get ((d,v)::G)) K) (a_:N.ok d=true:=by rfl):aD P N ops (⟨some d,.assign a,ty,pos,after,none⟩::l) (get G) K:=.over (.assign (Rd.pE j).bn) a_ aS ai (po ▸ hk)
theorem Rf {y':ab}(j:Fq (get G) d a=some v) (aS:get G d=some y') (ai:leaf y'=true) (hk:aD P N ops l (get ((d,v)::G)) K) (a_:N.ok d=true:=by rfl):aD P N ops (⟨some d,.move a,ty,pos,after,none⟩::l) (get G) K:=.over (.move (Rd.pE j).bn) a_ aS ai (po ▸ hk)
theorem Q2 {hK:List Nat}(mu:sP [] G=some ks) (gn:B8 G [] [] G=some hK) (he:oj ks hK P N (get G) o (get G2)) (hk:aD P N ops l (get G2) K) (aN:o.guard=none:=by rfl):aD P N ops (o::l) (get G) K:=.nZ aN he hk
theorem Q0 {f:FuncId}{xs:List Operand}{gl:Array TypeId}{ys args cs cs':List ab}{outs:List (Option ab)}{res:ab}{r k0:Nat}(g_:bY P f args outs res) (ai:EX 0 outs=some (k0,cs')) (ah:JJ (get G) xs k0=some r) (hk:sP [r,d] G=some ks) (au:pick (cp (get G) ⟨r,[]⟩ .dead) ks=some G2) (j:(fK (get G) xs).bind la=some ys) (aR:na r cs k0 0 ys args) (c7:aD P N ops l (get ((d,res)::(r,.obj cs')::G2)) K) (az:get G r=some (.obj cs):=by rfl) (he:outs=uz args.length k0 (.obj cs'):=by rfl) (mu:Nat.blt k0 ys.length=true:=by rfl) (aS:iI P f=true:=by kernel_rfl) (aN:get G2 d=none:=by rfl) (rU:Nat.beq r d=false:=by rfl) (BI:pick (get ((r,.obj cs')::G2)) ks=some G2:=by rfl) (a_:N.ok d=true:=by rfl) [e':dj cs] [dP:b4 res] [BC:dj cs'] [aA:im G2] :
  aD P N ops (⟨some d,.call { callee:=.value (.func f),args:=xs.toArray,argTypes:=gl },ty,pos,after,none⟩::l) (get G) K:=.nZ rfl (hP.lI g_ ai ah au j aR az he mu aS aN rU BI a_) c7
theorem QT {dZ:List Nat}{f:FuncId}{xs:List Operand}{gl:Array TypeId}{ys args cs cs':List ab}{outs:List (Option ab)}{res:ab}{r k0:Nat}(g_:bY P f args outs res) (ai:EX 0 outs=some (k0,cs')) (ah:JJ (c5 (get G) (λ_=>true) acc) xs k0=some r) (hk:sP [r,d] (qK acc G)=some ks) (au:pick (cp (c5 (get G) (λ_=>true) acc) ⟨r,[]⟩ .dead) ks=some G2) (j:(fK (c5 (get G) (λ_=>true) acc) xs).bind la=some ys) (aR:na r cs k0 0 ys args) (c7:cC dZ P N ops a' (get ((d,res)::(r,.obj cs')::G2)) (bw+1) [] l K) (az:c5 (get G) (λ_=>true) acc r=some (.obj cs):=by rfl) (he:outs=uz args.length k0 (.obj cs'):=by rfl) (mu:Nat.blt k0 ys.length=true:=by rfl) (aS:iI P f=true:=by kernel_rfl) (aN:get G2 d=none:=by rfl) (rU:Nat.beq r d=false:=by rfl) (BI:pick (get ((r,.obj cs')::G2)) ks=some G2:=by rfl) (a_:N.ok d=true:=by rfl) [e':dj cs] [dP:b4 res] [BC:dj cs'] [aA:im G2] (gz:q3 ((acc.filterMap jW).map Place.root)=true:=by rfl) (fJ:l1 G=true:=by rfl) (aj:Nat.beq ops.size (bw+l.length+1)=true:=by rfl)
  (y_:(List.range bw).all (λk=>(a'.getD bw []).contains k)=true:=by kernel_rfl) (av:(List.range ops.size).all (λk=>Nat.ble k bw||(a'.getD k []).contains bw)=true:=by kernel_rfl) :
  cC (bw::dZ) P N ops a' (get G) i acc (⟨some d,.call { callee:=.value (.func f),args:=xs.toArray,argTypes:=gl },ty,pos,after,none⟩::l) K:=bA.wD bw (hP.lI g_ ai ah au j aR az he mu aS aN rU BI a_) rfl gz fJ aj y_ av c7
theorem Q1 {hK:List Nat}(mu:sP (d::roots G a) G=some ks) (gn:B8 G (d::roots G a) [] G=some hK) (he:oj ks hK P N (get G) ⟨some d,.assign a,ty,pos,after,none⟩ (cJ (get G2) d v)) (hk:aD P N ops l (get ((d,v)::G2)) K):aD P N ops (⟨some d,.assign a,ty,pos,after,none⟩::l) (get G) K:=.tM rfl he (po ▸ hk)
theorem Ra {L:List α}{f:List α->Option β}{Kq:β}{M:List α}{e dk br:Nat}{gV:TypeId}{parts:Array (Nat × Operand)}{ys:List ab}{en:bz α}(h:(db L M).bind f=some Kq) [het:hd P gV α en] [ar:d' P gV e br] (hk:aD P N ops l (get ((d,ak en M)::G)) K) (j:(fK (get G) (parts.toList.map (·.2))).bind la=some ys:=by rfl) (aa:mg ys=some (bp en M):=by rfl) (aW:ys.all (λy=>match ji y with | some c=>Nat.beq c.length en.z | none=>false)=true:=by rfl) (au:parts.toList=(parts.toList.map (·.2)).mapIdx (λi x=>(i,x)):=by rfl) (kG:(parts.toList.map (·.2)).length=dk:=by rfl) (ai:M.length=dk:=by rfl) (ns:br=en.z:=by rfl) (hzero:ia P e en.z=true:=by kernel_rfl) (av:Nat.ble (dk * en.z) 16777216=true:=by rfl) (fH:Nat.ble dk 16777216=true:=by rfl) [hv:iV (ao en M) (ak en M)] (a_:N.ok d=true:=by rfl) (aS:get G d=none:=by rfl):aD P N ops (⟨some d,.buildSlice gV dk parts,ty,pos,after,none⟩::l) (get G) K :=
 .gr (O.dr en M (ns ▸ ar.p) (rE j) aa aW au kG ai hzero av fH) a_ aS .none (po ▸ hk)
theorem Lw (M:List α) {e dk br:Nat}{gV:TypeId}{parts:Array (Nat × Operand)}{ys:List ab}{en:bz α}(az:v7 d l=false) [het:hd P gV α en] [ar:d' P gV e br] (hk:aD P N ops l (get ((d,ao en M)::G)) K) (j:(fK (get G) (parts.toList.map (·.2))).bind la=some ys:=by rfl) (aa:mg ys=some (bp en M):=by rfl) (aW:ys.all (λy=>match ji y with | some c=>Nat.beq c.length en.z | none=>false)=true:=by rfl) (au:parts.toList=(parts.toList.map (·.2)).mapIdx (λi x=>(i,x)):=by rfl) (kG:(parts.toList.map (·.2)).length=dk:=by rfl) (ai:M.length=dk:=by rfl) (ns:br=en.z:=by rfl) (hzero:ia P e en.z=true:=by kernel_rfl) (av:Nat.ble (dk * en.z) 16777216=true:=by rfl) (fH:Nat.ble dk 16777216=true:=by rfl) (a_:N.ok d=true:=by rfl) (aS:get G d=none:=by rfl):aD P N ops (⟨some d,.buildSlice gV dk parts,ty,pos,after,none⟩::l) (get G) K :=
 ef (O.dr en M (ns ▸ ar.p) (rE j) aa aW au kG ai hzero av fH) hk a_ aS
theorem Rb {M:List α}{e dk br:Nat}{gV:TypeId}{parts:Array (Nat × Operand)}{ys:List ab}{en:bz α}(az:v7 d l=true) [het:hd P gV α en] [ar:d' P gV e br] (hk:aD P N ops l (get ((d,ak en M)::G)) K) (j:(fK (get G) (parts.toList.map (·.2))).bind la=some ys:=by rfl) [aP:o8 en ys M] (au:parts.toList=(parts.toList.map (·.2)).mapIdx (λi x=>(i,x)):=by rfl) (kG:(parts.toList.map (·.2)).length=dk:=by rfl) (ai:ys.length=dk:=by rfl) (ns:br=en.z:=by rfl) (hzero:ia P e en.z=true:=by kernel_rfl) (av:Nat.ble (dk * en.z) 16777216=true:=by rfl) (fH:Nat.ble dk 16777216=true:=by rfl) [hv:iV (ao en M) (ak en M)] (a_:N.ok d=true:=by rfl) (aS:get G d=none:=by rfl):aD P N ops (⟨some d,.buildSlice gV dk parts,ty,pos,after,none⟩::l) (get G) K :=
 .gr (O.dr en M (ns ▸ ar.p) (rE j) aP.p.1 aP.p.2.1 au kG (aP.p.2.2.trans ai) hzero av fH) a_ aS .none (po ▸ hk)
theorem Rc {M:List α}{e dk br:Nat}{gV:TypeId}{parts:Array (Nat × Operand)}{ys:List ab}{en:bz α}(az:v7 d l=false) [het:hd P gV α en] [ar:d' P gV e br] (hk:aD P N ops l (get ((d,ao en M)::G)) K) (j:(fK (get G) (parts.toList.map (·.2))).bind la=some ys:=by rfl) [aP:o8 en ys M] (au:parts.toList=(parts.toList.map (·.2)).mapIdx (λi x=>(i,x)):=by rfl) (kG:(parts.toList.map (·.2)).length=dk:=by rfl) (ai:ys.length=dk:=by rfl) (ns:br=en.z:=by rfl) (hzero:ia P e en.z=true:=by kernel_rfl) (av:Nat.ble (dk * en.z) 16777216=true:=by rfl) (fH:Nat.ble dk 16777216=true:=by rfl) (a_:N.ok d=true:=by rfl) (aS:get G d=none:=by rfl):aD P N ops (⟨some d,.buildSlice gV dk parts,ty,pos,after,none⟩::l) (get G) K :=
 ef (O.dr en M (ns ▸ ar.p) (rE j) aP.p.1 aP.p.2.1 au kG (aP.p.2.2.trans ai) hzero av fH) hk a_ aS
theorem ed {dZ:List Nat}(au:b8 P (jv a' g bw acc) op ty v) (hk:cC dZ P N ops a' g i ((bw,d,some v)::acc) l K) (aj:Nat.beq ops.size (bw+l.length+1)=true:=by rfl) (aS:g d=none:=by rfl) (aA:acc.all (λe=>!Nat.beq e.2.1 d)=true:=by rfl) (a_:N.ok d=true:=by rfl):cC (bw::dZ) P N ops a' g i acc (⟨some d,op,ty,pos,after,none⟩::l) K:=aG _ au hk aj aS aA a_
theorem ei {dZ:List Nat}(au:b8 P (jv a' g bw acc) op ty v) (hk:cC dZ P N ops a' g i ((bw,d,some v)::acc) l K) (h:(ops[J]?).bind (·.dst)=some cn:=by rfl) (aN:jv a' g bw acc cn=some (.lit (.bool c9)):=by rfl) (av:c9=b:=by (first | rfl | assumption)) (aj:Nat.beq ops.size (bw+l.length+1)=true:=by rfl) (aS:g d=none:=by rfl) (aA:acc.all (λe=>!Nat.beq e.2.1 d)=true:=by rfl) (a_:N.ok d=true:=by rfl):cC (bw::dZ) P N ops a' g i acc (⟨some d,op,ty,pos,after,some (J,b)⟩::l) K:=.v _ au aj aS aA a_ (.l9 h aN av) hk
theorem K9 {dZ:List Nat}(au:cZ P (jv a' g bw acc) op v) (hk:cC dZ P N ops a' g i ((bw,d,some v)::acc) l K) (aj:Nat.beq ops.size (bw+l.length+1)=true:=by rfl) (aS:g d=none:=by rfl) (aA:acc.all (λe=>!Nat.beq e.2.1 d)=true:=by rfl) (a_:N.ok d=true:=by rfl):cC (bw::dZ) P N ops a' g i acc (⟨some d,op,ty,pos,after,none⟩::l) K:=.c _ au aj aS aA a_ .none hk
theorem K8 {dZ:List Nat}(au:cZ P (jv a' g bw acc) op v) (hk:cC dZ P N ops a' g i ((bw,d,some v)::acc) l K) (h:(ops[J]?).bind (·.dst)=some cn:=by rfl) (aN:jv a' g bw acc cn=some (.lit (.bool c9)):=by rfl) (av:c9=b:=by (first | rfl | assumption)) (aj:Nat.beq ops.size (bw+l.length+1)=true:=by rfl) (aS:g d=none:=by rfl) (aA:acc.all (λe=>!Nat.beq e.2.1 d)=true:=by rfl) (a_:N.ok d=true:=by rfl):cC (bw::dZ) P N ops a' g i acc (⟨some d,op,ty,pos,after,some (J,b)⟩::l) K:=.c _ au aj aS aA a_ (.l9 h aN av) hk
theorem QX {dZ:List Nat}(hk:cC dZ P N ops a' g i ((bw,d,some (.bQ []))::acc) l K) (h:(ops[J]?).bind (·.dst)=some cn:=by rfl) (aN:jv a' g bw acc cn=some (.lit (.bool c9)):=by rfl) (av:c9=!b:=by (first | rfl | assumption)) (aj:Nat.beq ops.size (bw+l.length+1)=true:=by rfl) (aS:g d=none:=by rfl) (aA:acc.all (λe=>!Nat.beq e.2.1 d)=true:=by rfl) (a_:N.ok d=true:=by rfl):cC (bw::dZ) P N ops a' g i acc (⟨some d,op,ty,pos,after,some (J,b)⟩::l) K:=.ps _ h aN av aj aS aA a_ hk
theorem QZ {dZ:List Nat}(hk:cC dZ P N ops a' g i ((bw,d,some (.bQ []))::acc) l K) (h:(ops[J]?).bind (·.dst)=some cn:=by rfl) (aN:jv a' g bw acc cn=some (.bQ []):=by rfl) (aj:Nat.beq ops.size (bw+l.length+1)=true:=by rfl) (aS:g d=none:=by rfl) (aA:acc.all (λe=>!Nat.beq e.2.1 d)=true:=by rfl) (a_:N.ok d=true:=by rfl):cC (bw::dZ) P N ops a' g i acc (⟨some d,op,ty,pos,after,some (J,b)⟩::l) K:=.pu _ h aN aj aS aA a_ hk
theorem QR {dZ:List Nat}{L:List α}{f:List α->Option β}{Kq:β}{M:List α}{e dk br:Nat}{gV:TypeId}{parts:Array (Nat × Operand)}{ys:List ab}{en:bz α}(h:(db L M).bind f=some Kq) [het:hd P gV α en] [ar:d' P gV e br] (hk:cC dZ P N ops a' g i ((bw,d,some (ak en M))::acc) l K) (j:(fK (jv a' g bw acc) (parts.toList.map (·.2))).bind la=some ys:=by rfl) (aa:mg ys=some (bp en M):=by rfl) (aW:ys.all (λy=>match ji y with | some c=>Nat.beq c.length en.z | none=>false)=true:=by rfl) (au:parts.toList=(parts.toList.map (·.2)).mapIdx (λi x=>(i,x)):=by rfl) (kG:(parts.toList.map (·.2)).length=dk:=by rfl) (ai:M.length=dk:=by rfl) (ns:br=en.z:=by rfl) (hzero:ia P e en.z=true:=by kernel_rfl) (av:Nat.ble (dk * en.z) 16777216=true:=by rfl) (fH:Nat.ble dk 16777216=true:=by rfl) [hv:iV (ao en M) (ak en M)] (aj:Nat.beq ops.size (bw+l.length+1)=true:=by rfl) (aS:g d=none:=by rfl) (aA:acc.all (λe=>!Nat.beq e.2.1 d)=true:=by rfl) (a_:N.ok d=true:=by rfl):cC (bw::dZ) P N ops a' g i acc (⟨some d,.buildSlice gV dk parts,ty,pos,after,none⟩::l) K :=
 bA.gr bw (O.dr en M (ns ▸ ar.p) (rE j) aa aW au kG ai hzero av fH) aj aS aA a_ .none hk
theorem QY {dZ:List Nat}(M:List α) {e dk br:Nat}{gV:TypeId}{parts:Array (Nat × Operand)}{ys:List ab}{en:bz α}(az:v7 d l=true) [het:hd P gV α en] [ar:d' P gV e br] (hk:cC dZ P N ops a' g i ((bw,d,some (ak en M))::acc) l K) (j:(fK (jv a' g bw acc) (parts.toList.map (·.2))).bind la=some ys:=by rfl) (aa:mg ys=some (bp en M):=by rfl) (aW:ys.all (λy=>match ji y with | some c=>Nat.beq c.length en.z | none=>false)=true:=by rfl) (au:parts.toList=(parts.toList.map (·.2)).mapIdx (λi x=>(i,x)):=by rfl) (kG:(parts.toList.map (·.2)).length=dk:=by rfl) (ai:M.length=dk:=by rfl) (ns:br=en.z:=by rfl) (hzero:ia P e en.z=true:=by kernel_rfl) (av:Nat.ble (dk * en.z) 16777216=true:=by rfl) (fH:Nat.ble dk 16777216=true:=by rfl) [hv:iV (ao en M) (ak en M)] (aj:Nat.beq ops.size (bw+l.length+1)=true:=by rfl) (aS:g d=none:=by rfl) (aA:acc.all (λe=>!Nat.beq e.2.1 d)=true:=by rfl) (a_:N.ok d=true:=by rfl):cC (bw::dZ) P N ops a' g i acc (⟨some d,.buildSlice gV dk parts,ty,pos,after,none⟩::l) K :=
 bA.gr bw (O.dr en M (ns ▸ ar.p) (rE j) aa aW au kG ai hzero av fH) aj aS aA a_ .none hk
theorem K_ {dZ:List Nat}(M:List α) {e dk br:Nat}{gV:TypeId}{parts:Array (Nat × Operand)}{ys:List ab}{en:bz α}(az:v7 d l=false) [het:hd P gV α en] [ar:d' P gV e br] (hk:cC dZ P N ops a' g i ((bw,d,some (ao en M))::acc) l K) (j:(fK (jv a' g bw acc) (parts.toList.map (·.2))).bind la=some ys:=by rfl) (aa:mg ys=some (bp en M):=by rfl) (aW:ys.all (λy=>match ji y with | some c=>Nat.beq c.length en.z | none=>false)=true:=by rfl) (au:parts.toList=(parts.toList.map (·.2)).mapIdx (λi x=>(i,x)):=by rfl) (kG:(parts.toList.map (·.2)).length=dk:=by rfl) (ai:M.length=dk:=by rfl) (ns:br=en.z:=by rfl) (hzero:ia P e en.z=true:=by kernel_rfl) (av:Nat.ble (dk * en.z) 16777216=true:=by rfl) (fH:Nat.ble dk 16777216=true:=by rfl) (aj:Nat.beq ops.size (bw+l.length+1)=true:=by rfl) (aS:g d=none:=by rfl) (aA:acc.all (λe=>!Nat.beq e.2.1 d)=true:=by rfl) (a_:N.ok d=true:=by rfl):cC (bw::dZ) P N ops a' g i acc (⟨some d,.buildSlice gV dk parts,ty,pos,after,none⟩::l) K :=
 ed (O.dr en M (ns ▸ ar.p) (rE j) aa aW au kG ai hzero av fH) hk aj aS aA a_
theorem QS {dZ:List Nat}{M:List α}{e dk br:Nat}{gV:TypeId}{parts:Array (Nat × Operand)}{ys:List ab}{en:bz α}(az:v7 d l=true) [het:hd P gV α en] [ar:d' P gV e br] (hk:cC dZ P N ops a' g i ((bw,d,some (ak en M))::acc) l K) (j:(fK (jv a' g bw acc) (parts.toList.map (·.2))).bind la=some ys:=by rfl) [aP:o8 en ys M] (au:parts.toList=(parts.toList.map (·.2)).mapIdx (λi x=>(i,x)):=by rfl) (kG:(parts.toList.map (·.2)).length=dk:=by rfl) (ai:ys.length=dk:=by rfl) (ns:br=en.z:=by rfl) (hzero:ia P e en.z=true:=by kernel_rfl) (av:Nat.ble (dk * en.z) 16777216=true:=by rfl) (fH:Nat.ble dk 16777216=true:=by rfl) [hv:iV (ao en M) (ak en M)] (aj:Nat.beq ops.size (bw+l.length+1)=true:=by rfl) (aS:g d=none:=by rfl) (aA:acc.all (λe=>!Nat.beq e.2.1 d)=true:=by rfl) (a_:N.ok d=true:=by rfl):cC (bw::dZ) P N ops a' g i acc (⟨some d,.buildSlice gV dk parts,ty,pos,after,none⟩::l) K :=
 bA.gr bw (O.dr en M (ns ▸ ar.p) (rE j) aP.p.1 aP.p.2.1 au kG (aP.p.2.2.trans ai) hzero av fH) aj aS aA a_ .none hk
theorem QV {dZ:List Nat}{M:List α}{e dk br:Nat}{gV:TypeId}{parts:Array (Nat × Operand)}{ys:List ab}{en:bz α}(az:v7 d l=false) [het:hd P gV α en] [ar:d' P gV e br] (hk:cC dZ P N ops a' g i ((bw,d,some (ao en M))::acc) l K) (j:(fK (jv a' g bw acc) (parts.toList.map (·.2))).bind la=some ys:=by rfl) [aP:o8 en ys M] (au:parts.toList=(parts.toList.map (·.2)).mapIdx (λi x=>(i,x)):=by rfl) (kG:(parts.toList.map (·.2)).length=dk:=by rfl) (ai:ys.length=dk:=by rfl) (ns:br=en.z:=by rfl) (hzero:ia P e en.z=true:=by kernel_rfl) (av:Nat.ble (dk * en.z) 16777216=true:=by rfl) (fH:Nat.ble dk 16777216=true:=by rfl) (aj:Nat.beq ops.size (bw+l.length+1)=true:=by rfl) (aS:g d=none:=by rfl) (aA:acc.all (λe=>!Nat.beq e.2.1 d)=true:=by rfl) (a_:N.ok d=true:=by rfl):cC (bw::dZ) P N ops a' g i acc (⟨some d,.buildSlice gV dk parts,ty,pos,after,none⟩::l) K :=
 ed (O.dr en M (ns ▸ ar.p) (rE j) aP.p.1 aP.p.2.1 au kG (aP.p.2.2.trans ai) hzero av fH) hk aj aS aA a_
theorem QW {dZ:List Nat}{hK:List Nat}(mu:sP [] (qK acc G)=some ks) (gn:B8 (qK acc G) [] [] (qK acc G)=some hK) (he:oj ks hK P N (c5 (get G) (λ_=>true) acc) o (get G2)) (hk:cC dZ P N ops a' (get G2) (bw+1) [] l K) (aN:o.guard=none:=by rfl) (gz:q3 ((acc.filterMap jW).map Place.root)=true:=by rfl) (fJ:l1 G=true:=by rfl) (aj:Nat.beq ops.size (bw+l.length+1)=true:=by rfl)
  (aR:(List.range bw).all (λk=>(a'.getD bw []).contains k)=true:=by kernel_rfl) (av:(List.range ops.size).all (λk=>Nat.ble k bw||(a'.getD k []).contains bw)=true:=by kernel_rfl):cC (bw::dZ) P N ops a' (get G) i acc (o::l) K:=.wD _ he aN gz fJ aj aR av hk
theorem QU {dZ:List Nat}{hK:List Nat}(mu:sP (d::roots (qK acc G) a) (qK acc G)=some ks) (gn:B8 (qK acc G) (d::roots (qK acc G) a) [] (qK acc G)=some hK) (he:oj ks hK P N (c5 (get G) (λ_=>true) acc) ⟨some d,.assign a,ty,pos,after,none⟩ (cJ (get G2) d v)) (hk:cC dZ P N ops a' (get ((d,v)::G2)) (bw+1) [] l K) (gz:q3 ((acc.filterMap jW).map Place.root)=true:=by rfl) (fJ:l1 G=true:=by rfl) (aj:Nat.beq ops.size (bw+l.length+1)=true:=by rfl)
  (aR:(List.range bw).all (λk=>(a'.getD bw []).contains k)=true:=by kernel_rfl) (av:(List.range ops.size).all (λk=>Nat.ble k bw||(a'.getD k []).contains bw)=true:=by kernel_rfl):cC (bw::dZ) P N ops a' (get G) i acc (⟨some d,.assign a,ty,pos,after,none⟩::l) K:=.bv _ he rfl gz fJ aj aR av hk
theorem bA.Mw {K:aL->Prop}(aW:xu (acc.filterMap jW)=true) (fJ:l1 G=true) (hi:Nat.ble i ops.size=true) (c7:K (c5 (get G) (λ_=>true) acc)):bA P N ops a' (get G) i acc [] K:=by
 intro dO J cg kH kF;have aj:J=ops.size:=by
  have h1:ops.size<=J:=by
   have:=congrArg List.length kF;rw [List.length_drop,List.length_nil,Array.length_toList] at this;omega
  have aK:J<=ops.size:=by
   cases kH with
   | nil=>exact Nat.le_of_ble_eq_true hi
   | step _ aV=>have:=(Array.getElem?_eq_some_iff.1 aV).1; omega
  omega
 subst aj;exact ⟨_,.fin kH (JS aW) (vM fJ),c7⟩
theorem QQ {dZ:List Nat}{Ds:lq->List (Nat × ab)->Prop}(mu:JC E [] (qK acc G)=some ks) (au:pick (c5 (get G) (λ_=>true) acc) ks=some G1) [aA:im G1] (hk:Ds t G1) (aW:xu (acc.filterMap jW)=true:=by rfl) (fJ:l1 G=true:=by rfl) (hi:Nat.ble i ops.size=true:=by rfl):cC dZ P N ops a' (get G) i acc [] (yw E t Ds) :=
 .Mw aW fJ hi ⟨G1,(uH (c:=true) (g2:=get G1) au aA.p).eH,hk⟩
theorem QP {dZ:List Nat}{F:α->List (Nat × ab)}{J v:α}(h:some v=some J) (ar:Trim true (c5 (get G) (λ_=>true) acc) (get (F v)) (F v)) (aW:xu (acc.filterMap jW)=true:=by rfl) (fJ:l1 G=true:=by rfl) (hi:Nat.ble i ops.size=true:=by rfl):cC dZ P N ops a' (get G) i acc [] (rz F J .normal):=by
 cases h; exact .Mw aW fJ hi ⟨rfl,.eH ar.eH .hW⟩
theorem cy.rd [hm:Ax P] (h:cC num P N l.toArray a' (get G) 0 [] l (yw E y λt G1=>cy E t P N B G1 Φ)) (dX:pf l.toArray a'=true:=by kernel_rfl):cy E (.rd id a' y) P N (.seq (.region id l.toArray true) B) G Φ:=by
 obtain ⟨g',h1,G1,af,aK⟩:=h [] 0 .nil .nil (by simp);exact W.seq ((fU.draw hm.p dX h1).w (W.weaken af aK))
theorem cy.b6 {m:Option α}{f:α->Option β}{r:β}{L cY:α->List (Nat × ab)} [hm:Ax P] (h:m.bind f=some r) (h1:∀ J,m=some J->cC num P N l.toArray a' (get G) 0 [] l (rz cY J .normal)) (af:∀ J,m=some J->f J=some r->cy E y P N B (cY J) Φ)
  (aI:∀ J,pick (pE (L J) G) ks=some (cY J):=by intro J; rfl) (dX:pf l.toArray a'=true:=by kernel_rfl):cy E (.b6 id a' ks L y) P N (.seq (.region id l.toArray true) B) G Φ:=by
 obtain ⟨J,aj,h⟩:=pZ h;obtain ⟨g',cw,_,fC⟩:=h1 J aj [] 0 .nil .nil (by simp);exact W.seq ((fU.draw hm.p dX cw).w (W.be (af J aj h) fC))
theorem cy.YG [hm:Ax P] (h:cC num P N l.toArray a' (get G) 0 [] l (yw E y λt G1=>ee E t .normal Φ G1)) (dX:pf l.toArray a'=true:=by kernel_rfl):cy E (.rd id a' y) P N (.region id l.toArray true) G Φ:=by
 obtain ⟨g',h1,G1,af,aK⟩:=h [] 0 .nil .nil (by simp);exact (fU.draw hm.p dX h1).w (aK g' (.eH af .hW))
theorem cy.YM {m:Option α}{f:α->Option β}{r:β}{L cY:α->List (Nat × ab)} [hm:Ax P] (h:m.bind f=some r) (h1:∀ J,m=some J->cC num P N l.toArray a' (get G) 0 [] l (rz cY J .normal)) (af:∀ J,m=some J->f J=some r->ee E y .normal Φ (cY J))
  (aI:∀ J,pick (pE (L J) G) ks=some (cY J):=by intro J; rfl) (dX:pf l.toArray a'=true:=by kernel_rfl):cy E (.b6 id a' ks L y) P N (.region id l.toArray true) G Φ:=by
 obtain ⟨J,aj,h⟩:=pZ h;obtain ⟨g',cw,_,fC⟩:=h1 J aj [] 0 .nil .nil (by simp);exact (fU.draw hm.p dX cw).w (af J aj h _ fC)
theorem cy.YL {m:Option α}{f:α->Option β}{r:β}{L cY:α->List (Nat × ab)}(h:m.bind f=some r) (h1:∀ J,m=some J->aD P N l.toArray l (get G) (rz cY J .normal)) (af:∀ J,m=some J->f J=some r->ee E y .normal Φ (cY J))
  (aI:∀ J,pick (pE (L J) G) ks=some (cY J):=by intro J; rfl):cy E (.eu id ks L y) P N (.region id l.toArray false) G Φ:=by
 obtain ⟨J,aj,h⟩:=pZ h;exact W.Ac λi hi=>by
  obtain ⟨g',cw,_,fC⟩:=h1 J aj i hi;exact ⟨g',cw,af J aj h _ fC⟩
theorem cy.gb {S R gP:Type}{f:S->Option (S ⊕ (R ⊕ gP))}{s:S}{Hs:R ⊕ gP->Option β}{r:β}{F cY:S->List (Nat × ab)}{ks r8 B9:List Nat}{X mf:R->List (Nat × ab)}{Y tx:gP->List (Nat × ab)}(h:(b0 f s).bind Hs=some r)
  (av:∀ s o,f s=some o->cy E x P N c (cY s) (kY cY (AD id mf tx) o)) (j:∀ cW,Hs (.inl cW)=some r->ee E y (.exit id) Φ (mf cW)) (al:∀ cW,Hs (.inr cW)=some r->ee E z .ret Φ (tx cW))
  (aI:∀ s,pick (pE (F s) G) ks=some (cY s):=by intro s; rfl) (wU:∀ s,pick (pE (X s) G) r8=some (mf s):=by intro s; rfl) (HV:∀ s,pick (pE (Y s) G) B9=some (tx s):=by intro s; rfl) (ar:Trim true (get G) (get (cY s)) (cY s):=by (repeat' first | exact .nil | refine .n rfl ?_ | refine .w rfl rfl .pC ?_ | refine .w rfl rfl .pB ?_ | refine .w rfl rfl (j7.obj (by (repeat' first | exact .nil | refine .f ?_ | refine .o ?_ | refine .i ?_))) ?_)) :
  cy E (.gb F ks id X r8 Y B9 x y z) P N (.loop c) G Φ:=by
 obtain ⟨cW,ai,h⟩:=pZ h;exact W.dx ar (W.Ow cY id mf tx ai av (λq e=>j q (e ▸ h)) (λq e=>al q (e ▸ h)))
theorem ee.x2 {S R gP:Type}{r:R}{o:S ⊕ (R ⊕ gP)}{F:S->List (Nat × ab)}{X:R->List (Nat × ab)}{Y:gP->List (Nat × ab)}(h:some (.inr (.inl r))=some o) (ar:Trim true (get G) (get (X r)) (X r)):ee E t (.exit id) (kY F (AD id X Y) o) G:=by
 cases h; exact aF.x2 ar
theorem ee.jY {S R gP:Type}{r:gP}{o:S ⊕ (R ⊕ gP)}{F:S->List (Nat × ab)}{X:R->List (Nat × ab)}{Y:gP->List (Nat × ab)}(h:some (.inr (.inr r))=some o) (ar:Trim true (get G) (get (Y r)) (Y r)):ee E t .ret (kY F (AD id X Y) o) G:=by
 cases h; exact aF.jY ar
end
section
variable {P:Program}{N:cQ}{E:List Nat}{t x y z:lq}{A B c:Code}{G:List (Nat × ab)}{Φ:Exit->aL->Prop}{id k s:Nat}{o:Operand}
theorem j6.dG {α:Type}{en:bz α}{i:Option Nat}(h:cy E (.dG id s i en y) P N c G Φ):cy E (.dG id s i en y) P N c G Φ:=h
theorem j6.sv {α:Type}{en:bz α}{i:Option Nat}(h:cy E (.sv s i en y) P N c G Φ):cy E (.sv s i en y) P N c G Φ:=h
theorem j6.eu {α:Type}{ks:List Nat}{L:α->List (Nat × ab)}(h:cy E (.eu id ks L y) P N c G Φ):cy E (.eu id ks L y) P N c G Φ:=h
theorem j6.b6 {α:Type}{a':List (List Nat)}{ks:List Nat}{L:α->List (Nat × ab)}(h:cy E (.b6 id a' ks L y) P N c G Φ):cy E (.b6 id a' ks L y) P N c G Φ:=h
theorem j6.rd {a':List (List Nat)}(h:cy E (.rd id a' y) P N c G Φ):cy E (.rd id a' y) P N c G Φ:=h
theorem j6.bl (h:cy E t P N (.cond o A B) G Φ):cy E t P N (.cond o A B) G Φ:=h
theorem j6.dY (h:cy E t P N (.loop A) G Φ):cy E t P N (.loop A) G Φ:=h
theorem j6.Jz {α:Type}{ks:List Nat}{L:α->List (Nat × ab)}(h:cy E (.cB ks L x y) P N (.block id A) G Φ):cy E (.cB ks L x y) P N (.block id A) G Φ:=h
theorem j6.rg {ops:Array Oper}{b:Bool}(h:cy E t P N (.region id ops b) G Φ):cy E t P N (.region id ops b) G Φ:=h
theorem j6.Yp {S R:Type}{F:S->List (Nat × ab)}{Ψ:R->Exit->aL->Prop}{o:S ⊕ R}{e:Exit}(h:ee E t e (kY F Ψ o) G):ee E t e (kY F Ψ o) G:=h
theorem j6.Ys {α:Type}{F:α->List (Nat × ab)}{J:α}{e:Exit}(h:ee E t e (rz F J) G):ee E t e (rz F J) G:=h
theorem j6.Sh (h:ee E t (.exit k) (lZ id Φ) G):ee E t (.exit k) (lZ id Φ) G:=h
theorem j6.Yo {rs:List ResultVar}{n:Nat}{outs:List (Option ab)}{res:ab}{e:Exit}(h:ee E t e (pT P N rs n outs res) G):ee E t e (pT P N rs n outs res) G:=h
end
section
variable {P:Program}{N:cQ}{E:List Nat}{t:lq}{G:List (Nat × ab)}{g':aL}{rs:List ResultVar}{ys xs:List ab}{res:ab}{outs:List (Option ab)}{n:Nat}
theorem j3.Mh {g wQ:aL}{s z:Nat}{gV:TypeId}{cs ys0:List ab}{rs:List ResultVar}{ys xs:List ab}(h:g s=some (.obj cs)) [ar:j1 P gV z] (aW:cs.length=z) (aO:Nat.blt 0 z=true) (al:x0 (λi x=>fL 0 ⟨s,[i]⟩ x) 0 num cs=some ys0) (hk:nc s g 0 ys0 cs wQ) (ah:j3 P wQ rs ys xs g'):j3 P g (.cell s gV::rs) (.agg ys0::ys) (.agg cs::xs) g':=.c h ar.p aW aO (by have:=C5 al; simpa using this) hk ah
theorem ee.ep (h:j3 P (get G) rs ys xs g':=by (repeat' first | exact .nil | (apply j3.f rfl rfl) | (apply j3.o rfl) | (apply j3.Mh rfl rfl rfl rfl) | (apply nc.f rfl) | (apply nc.o rfl))) (he:oW xs=res:=by rfl) (aV:qG g' N.pins 0 outs:=by (repeat' first | exact .nil | refine .no ?_ | refine .ag rfl rfl ?_)) (fq:(rs.filterMap fun | .cell t _=>some t | _=>none).Nodup:=by exact of_decide_eq_true (by kernel_rfl)) (ai:outs.length=n:=by rfl):ee E t .ret (pT P N rs n outs res) G:=hn h he aV fq ai
theorem ee.fn (h:j3 P (get G) rs ys xs g':=by (repeat' first | exact .nil | (apply j3.f rfl rfl) | (apply j3.o rfl) | (apply j3.Mh rfl rfl rfl rfl) | (apply nc.f rfl) | (apply nc.o rfl))) (he:oW xs=res:=by rfl) (aV:qG g' N.pins 0 outs:=by (repeat' first | exact .nil | refine .no ?_ | refine .ag rfl rfl ?_)) (fq:(rs.filterMap fun | .cell t _=>some t | _=>none).Nodup:=by exact of_decide_eq_true (by kernel_rfl)) (ai:outs.length=n:=by rfl):ee E t .normal (pT P N rs n outs res) G:=aF.fin (Fin.ro h he fq aV ai (.inl rfl))
set_option maxRecDepth 1000000 in
/-- The walk: what it meets it does. -/
theorem dL {p:Prop}(h:p:=by
(repeat' (first
 | ((with_reducible apply aD.bJ _ none); first
  | ((with_reducible apply aD.bJ (.move _) none); first | refine ef (O.a6 .q) ?_)
  | ((with_reducible apply aD.bJ (.assign (.const _)) none); first | refine ef (O.dI .q) ?_)
  | ((with_reducible apply aD.bJ (.assign (.tmp _)) none); first | refine ef (O.dI .z_) ?_)
  | ((with_reducible apply aD.bJ (.load _ _) none); first | refine ef (O.gL) ?_ | refine ef (O.fw) ?_ | refine ef (O.wc) ?_ | refine ef (O.we) ?_ | refine ef (O.FR) ?_ | refine ef (O.FX) ?_ | refine ef (O.F7) ?_)
  | ((with_reducible apply aD.bJ (.fieldAddr _ _ _) none); first | refine ef (O.Am) ?_ | refine ef (O.An) ?_ | refine ef (O.wf) ?_)
  | ((with_reducible apply aD.bJ (.indexAddr _ _ _) none); first | refine aU h λx j h=>ef (O.FQ j) ?_ | refine aU h λx j h=>ef (O.rn j) ?_ | refine ef (O.eH) ?_ | refine ef (O.FY) ?_)
  | ((with_reducible apply aD.bJ (.binOp .add _ _ _ _) none); first | refine ef (O.add .q .q) ?_ | refine aU h λx j h=>ef (O.cat .q .q j) ?_)
  | ((with_reducible apply aD.bJ (.binOp .sub _ _ _ _) none); first | refine ef (O.sub .q .q) ?_)
  | ((with_reducible apply aD.bJ (.binOp .mul _ _ _ _) none); first | refine ef (O.mul .q .q) ?_)
  | ((with_reducible apply aD.bJ (.binOp .lss _ _ _ _) none); first | refine ef (O.lss .q .q) ?_)
  | ((with_reducible apply aD.bJ (.binOp .leq _ _ _ _) none); first | refine ef (O.leq .q .q) ?_)
  | ((with_reducible apply aD.bJ (.binOp .gtr _ _ _ _) none); first | refine ef (O.gtr .q .q) ?_)
  | ((with_reducible apply aD.bJ (.binOp .geq _ _ _ _) none); first | refine ef (O.geq .q .q) ?_)
  | ((with_reducible apply aD.bJ (.binOp .eql _ _ _ _) none); first | refine ef (O.eql .q .q) ?_ | refine ef (O.oB .q .q) ?_ | refine ef (O.D1 .q .q (by kernel_rfl)) ?_ | refine ef (O.og) ?_)
  | ((with_reducible apply aD.bJ (.binOp .neq _ _ _ _) none); first | refine ef (O.neq .q .q) ?_ | refine ef (O.nJ .q .q) ?_ | refine ef (O.wn) ?_)
  | ((with_reducible apply aD.bJ (.binOp .quo _ _ _ _) none); first | refine aU h λx j h=>ef (O.quo .q .q j) ?_ | refine aU h λx j h=>ef (O.pI .q .q j) ?_)
  | ((with_reducible apply aD.bJ (.binOp .rem _ _ _ _) none); first | refine aU h λx j h=>ef (O.rem .q .q j) ?_ | refine aU h λx j h=>ef (O.pJ .q .q j) ?_)
  | ((with_reducible apply aD.bJ (.unOp .not _ _) none); first | refine ef (O.not .q) ?_)
  | ((with_reducible apply aD.bJ (.unOp .neg _ _) none); first | refine ef (O.neg .q) ?_)
  | ((with_reducible apply aD.bJ (.pick _ _ _) none); first | refine ef (O.jX .q (by first | rfl | assumption) .q) ?_ | refine ef (O.kh .q (by first | rfl | assumption) .q) ?_)
  | ((with_reducible apply aD.bJ (.nilCheck _) none); first | refine ef (O.eD .q) ?_ | refine ef (O.xw .q) ?_)
  | ((with_reducible apply aD.bJ (.index _ _ _) none); first | refine aU h λx j h=>ef (O.at' .q .q iR.p j) ?_)
  | ((with_reducible apply aD.bJ (.extract _ _) none); first | refine ef (O.F5) ?_)
  | ((with_reducible apply aD.bJ (.convert _ _ _) none); first | refine ef (O.FW) ?_ | refine ef (O.FV) ?_)
  | ((with_reducible apply aD.bJ (.box _ _) none); first | refine ef (O.FN) ?_)
  | ((with_reducible apply aD.bJ (.alloc _) none); first | refine ef (O.FT) ?_ | refine ef (O.FU) ?_)
  | ((with_reducible apply aD.bJ (.build _ _) none); first | refine ef (O.F4) ?_)
  | ((with_reducible apply aD.bJ (.field _ _ _) none); first | refine ef (O.wd) ?_)
  | ((with_reducible apply aD.bJ (.makeSlice _ _ _) none); first | refine aU h λx j h=>ef (O.FZ j) ?_ | refine aU h λx j h=>ef (O.F6 j) ?_)
  | ((with_reducible apply aD.bJ (.buildSlice _ 0 #[]) none); first | refine ef (O.wl) ?_)
  | ((with_reducible apply aD.bJ (.makeFunc _ _ _) none); first | refine ef (O.E2 rfl) ?_)
  | ((with_reducible apply aD.bJ (.slice _ _ _ _ _) none); first | refine aU h λx j h=>ef (O.ta .q .q .q iR.p j) ?_ | refine aU h λx j h=>ef (O.FC .q .q iR.p j) ?_ | refine aU h λx j h=>ef (O.FD .q .q iR.p j) ?_ | refine aU h λx j h=>ef (O.F3 j) ?_ | refine aU h λx j h=>ef (O.F1 j) ?_ | refine aU h λx j h=>ef (O.F2 j) ?_)
  | ((with_reducible apply aD.bJ (.call { callee:=.builtin .len,args:=#[_],argTypes:=#[_] }) none); first | refine ef (O.js .q d'.p) ?_ | refine ef (O.nF .q d'.p) ?_ | refine ef (O.ux .q iR.p) ?_)
  | ((with_reducible apply aD.bJ (.call { callee:=.builtin .append,args:=#[_,_],argTypes:=#[_,_] }) none); first | refine aU h λx j h=>ef (O.wp j) ?_ | refine aU h λx j h=>ef (O.F0 j) ?_ | refine aU h λx j h=>ef (O.FO j) ?_ | refine aU h λx j h=>ef (O.wr j) ?_)
  | ((with_reducible apply aD.bJ (.call { callee:=.value _,args:=_,argTypes:=_ }) none); first | (refine aU h λx j h=>Lu (cZ.fV ?_ (bL.go j)) ?_; · (repeat' first | exact .nil | refine .c9 .q ?_)) | (refine aU h λx j h=>Lu (cZ.mF rfl ?_ (bL.go j)) ?_; · (repeat' first | exact .nil | refine .s ?_ | refine .c (View.pF rfl rfl) ?_ | refine .c (.row rfl) ?_ | refine .c (View.ov ?_) ?_ | refine .c (View.cl ?_) ?_)) | (refine aU h λx j h=>Q0 (bL.go j) rfl rfl rfl rfl rfl (by repeat' first | exact .nil | refine .b rfl ?_ | refine .n rfl ?_) ?_))
  | ((with_reducible apply aD.bJ (.buildSlice _ _ _) none); first | refine Ra h ?_ | refine Rb rfl ?_ | refine Rc rfl ?_ | refine Lw [_] rfl ?_ | refine Lw [_,_] rfl ?_)
  | ((with_reducible apply aD.bJ (.assign _) none); refine Re rfl rfl rfl ?_)
  | ((with_reducible apply aD.bJ (.move _) none); refine Rf rfl rfl rfl ?_)
  | ((with_reducible apply aD.bJ (.move _) none); first | refine Gs rfl rfl (O.a6 .q) ?_)
  | ((with_reducible apply aD.bJ (.assign (.const _)) none); first | refine Gs rfl rfl (O.dI .q) ?_)
  | ((with_reducible apply aD.bJ (.assign (.tmp _)) none); first | refine Gs rfl rfl (O.dI .z_) ?_)
  | ((with_reducible apply aD.bJ (.assign (.tmp _)) none); refine Q1 rfl rfl (by first | exact hP.j8 | exact hP.AK | exact hP.DM | exact hP.ov .q (by repeat' first | exact eU.nil | (apply eU.f) | (apply eU.r rfl) | (apply eU.ov) | (apply eU.b rfl))) ?_))
 | ((with_reducible apply aD.ts); refine Q2 rfl rfl (by first | exact hP.hD | exact hP.o0 | exact hP.uP | exact hP.sp | exact hP.rf | exact hP.P1 .q (by repeat' first | exact eU.nil | (apply eU.f) | (apply eU.r rfl) | (apply eU.ov) | (apply eU.b rfl))) ?_)
 | ((with_reducible apply aD.bJ _ (some _)); first
  | refine qB ?_
  | refine Q6 ?_
  | ((with_reducible apply aD.bJ (.move _) (some _)); first | refine ej (O.a6 .q) ?_)
  | ((with_reducible apply aD.bJ (.assign (.const _)) (some _)); first | refine ej (O.dI .q) ?_)
  | ((with_reducible apply aD.bJ (.assign (.tmp _)) (some _)); first | refine ej (O.dI .z_) ?_)
  | ((with_reducible apply aD.bJ (.load _ _) (some _)); first | refine ej (O.gL) ?_ | refine ej (O.fw) ?_ | refine ej (O.wc) ?_ | refine ej (O.we) ?_ | refine ej (O.FR) ?_ | refine ej (O.FX) ?_ | refine ej (O.F7) ?_)
  | ((with_reducible apply aD.bJ (.fieldAddr _ _ _) (some _)); first | refine ej (O.Am) ?_ | refine ej (O.An) ?_ | refine ej (O.wf) ?_)
  | ((with_reducible apply aD.bJ (.indexAddr _ _ _) (some _)); first | refine aU h λx j h=>ej (O.FQ j) ?_ | refine aU h λx j h=>ej (O.rn j) ?_ | refine ej (O.eH) ?_ | refine ej (O.FY) ?_)
  | ((with_reducible apply aD.bJ (.binOp .add _ _ _ _) (some _)); first | refine ej (O.add .q .q) ?_ | refine aU h λx j h=>ej (O.cat .q .q j) ?_)
  | ((with_reducible apply aD.bJ (.binOp .sub _ _ _ _) (some _)); first | refine ej (O.sub .q .q) ?_)
  | ((with_reducible apply aD.bJ (.binOp .mul _ _ _ _) (some _)); first | refine ej (O.mul .q .q) ?_)
  | ((with_reducible apply aD.bJ (.binOp .lss _ _ _ _) (some _)); first | refine ej (O.lss .q .q) ?_)
  | ((with_reducible apply aD.bJ (.binOp .leq _ _ _ _) (some _)); first | refine ej (O.leq .q .q) ?_)
  | ((with_reducible apply aD.bJ (.binOp .gtr _ _ _ _) (some _)); first | refine ej (O.gtr .q .q) ?_)
  | ((with_reducible apply aD.bJ (.binOp .geq _ _ _ _) (some _)); first | refine ej (O.geq .q .q) ?_)
  | ((with_reducible apply aD.bJ (.binOp .eql _ _ _ _) (some _)); first | refine ej (O.eql .q .q) ?_ | refine ej (O.oB .q .q) ?_ | refine ej (O.D1 .q .q (by kernel_rfl)) ?_ | refine ej (O.og) ?_)
  | ((with_reducible apply aD.bJ (.binOp .neq _ _ _ _) (some _)); first | refine ej (O.neq .q .q) ?_ | refine ej (O.nJ .q .q) ?_ | refine ej (O.wn) ?_)
  | ((with_reducible apply aD.bJ (.binOp .quo _ _ _ _) (some _)); first | refine aU h λx j h=>ej (O.quo .q .q j) ?_ | refine aU h λx j h=>ej (O.pI .q .q j) ?_)
  | ((with_reducible apply aD.bJ (.binOp .rem _ _ _ _) (some _)); first | refine aU h λx j h=>ej (O.rem .q .q j) ?_ | refine aU h λx j h=>ej (O.pJ .q .q j) ?_)
  | ((with_reducible apply aD.bJ (.unOp .not _ _) (some _)); first | refine ej (O.not .q) ?_)
  | ((with_reducible apply aD.bJ (.unOp .neg _ _) (some _)); first | refine ej (O.neg .q) ?_)
  | ((with_reducible apply aD.bJ (.pick _ _ _) (some _)); first | refine ej (O.jX .q (by first | rfl | assumption) .q) ?_ | refine ej (O.kh .q (by first | rfl | assumption) .q) ?_)
  | ((with_reducible apply aD.bJ (.nilCheck _) (some _)); first | refine ej (O.eD .q) ?_ | refine ej (O.xw .q) ?_)
  | ((with_reducible apply aD.bJ (.index _ _ _) (some _)); first | refine aU h λx j h=>ej (O.at' .q .q iR.p j) ?_)
  | ((with_reducible apply aD.bJ (.extract _ _) (some _)); first | refine ej (O.F5) ?_)
  | ((with_reducible apply aD.bJ (.convert _ _ _) (some _)); first | refine ej (O.FW) ?_ | refine ej (O.FV) ?_)
  | ((with_reducible apply aD.bJ (.box _ _) (some _)); first | refine ej (O.FN) ?_)
  | ((with_reducible apply aD.bJ (.alloc _) (some _)); first | refine ej (O.FT) ?_ | refine ej (O.FU) ?_)
  | ((with_reducible apply aD.bJ (.build _ _) (some _)); first | refine ej (O.F4) ?_)
  | ((with_reducible apply aD.bJ (.field _ _ _) (some _)); first | refine ej (O.wd) ?_)
  | ((with_reducible apply aD.bJ (.makeSlice _ _ _) (some _)); first | refine aU h λx j h=>ej (O.FZ j) ?_ | refine aU h λx j h=>ej (O.F6 j) ?_)
  | ((with_reducible apply aD.bJ (.buildSlice _ 0 #[]) (some _)); first | refine ej (O.wl) ?_)
  | ((with_reducible apply aD.bJ (.makeFunc _ _ _) (some _)); first | refine ej (O.E2 rfl) ?_)
  | ((with_reducible apply aD.bJ (.slice _ _ _ _ _) (some _)); first | refine aU h λx j h=>ej (O.ta .q .q .q iR.p j) ?_ | refine aU h λx j h=>ej (O.FC .q .q iR.p j) ?_ | refine aU h λx j h=>ej (O.FD .q .q iR.p j) ?_ | refine aU h λx j h=>ej (O.F3 j) ?_ | refine aU h λx j h=>ej (O.F1 j) ?_ | refine aU h λx j h=>ej (O.F2 j) ?_)
  | ((with_reducible apply aD.bJ (.call { callee:=.builtin .len,args:=#[_],argTypes:=#[_] }) (some _)); first | refine ej (O.js .q d'.p) ?_ | refine ej (O.nF .q d'.p) ?_ | refine ej (O.ux .q iR.p) ?_)
  | ((with_reducible apply aD.bJ (.call { callee:=.builtin .append,args:=#[_,_],argTypes:=#[_,_] }) (some _)); first | refine aU h λx j h=>ej (O.wp j) ?_ | refine aU h λx j h=>ej (O.F0 j) ?_ | refine aU h λx j h=>ej (O.FO j) ?_ | refine aU h λx j h=>ej (O.wr j) ?_)
  | ((with_reducible apply aD.bJ (.call { callee:=.value _,args:=_,argTypes:=_ }) (some _)); first | (refine aU h λx j h=>Le (cZ.fV ?_ (bL.go j)) ?_; · (repeat' first | exact .nil | refine .c9 .q ?_)) | (refine aU h λx j h=>Le (cZ.mF rfl ?_ (bL.go j)) ?_; · (repeat' first | exact .nil | refine .s ?_ | refine .c (View.pF rfl rfl) ?_ | refine .c (.row rfl) ?_ | refine .c (View.ov ?_) ?_ | refine .c (View.cl ?_) ?_)))
  | refine G3 h (λav h=>?_) (λav h=>?_))
 | ((with_reducible apply aD.nl); first | refine Gl rfl rfl ?_ | refine Q3 h (by (repeat' first | exact .nil | refine .n rfl ?_ | refine .w rfl rfl .pC ?_ | refine .w rfl rfl .pB ?_ | refine .w rfl rfl (j7.obj (by (repeat' first | exact .nil | refine .f ?_ | refine .o ?_ | refine .i ?_))) ?_)))
 | ((with_reducible apply cC.bJ _ none); first
  | ((with_reducible apply cC.bJ (.move _) none); first | refine ed (O.a6 .q) ?_)
  | ((with_reducible apply cC.bJ (.assign (.const _)) none); first | refine ed (O.dI .q) ?_)
  | ((with_reducible apply cC.bJ (.assign (.tmp _)) none); first | refine ed (O.dI .z_) ?_)
  | ((with_reducible apply cC.bJ (.load _ _) none); first | refine ed (O.gL) ?_ | refine ed (O.fw) ?_ | refine ed (O.wc) ?_ | refine ed (O.we) ?_ | refine ed (O.FR) ?_ | refine ed (O.FX) ?_ | refine ed (O.F7) ?_)
  | ((with_reducible apply cC.bJ (.fieldAddr _ _ _) none); first | refine ed (O.Am) ?_ | refine ed (O.An) ?_ | refine ed (O.wf) ?_)
  | ((with_reducible apply cC.bJ (.indexAddr _ _ _) none); first | refine aU h λx j h=>ed (O.FQ j) ?_ | refine aU h λx j h=>ed (O.rn j) ?_ | refine ed (O.eH) ?_ | refine ed (O.FY) ?_)
  | ((with_reducible apply cC.bJ (.binOp .add _ _ _ _) none); first | refine ed (O.add .q .q) ?_ | refine aU h λx j h=>ed (O.cat .q .q j) ?_)
  | ((with_reducible apply cC.bJ (.binOp .sub _ _ _ _) none); first | refine ed (O.sub .q .q) ?_)
  | ((with_reducible apply cC.bJ (.binOp .mul _ _ _ _) none); first | refine ed (O.mul .q .q) ?_)
  | ((with_reducible apply cC.bJ (.binOp .lss _ _ _ _) none); first | refine ed (O.lss .q .q) ?_)
  | ((with_reducible apply cC.bJ (.binOp .leq _ _ _ _) none); first | refine ed (O.leq .q .q) ?_)
  | ((with_reducible apply cC.bJ (.binOp .gtr _ _ _ _) none); first | refine ed (O.gtr .q .q) ?_)
  | ((with_reducible apply cC.bJ (.binOp .geq _ _ _ _) none); first | refine ed (O.geq .q .q) ?_)
  | ((with_reducible apply cC.bJ (.binOp .eql _ _ _ _) none); first | refine ed (O.eql .q .q) ?_ | refine ed (O.oB .q .q) ?_ | refine ed (O.D1 .q .q (by kernel_rfl)) ?_ | refine ed (O.og) ?_)
  | ((with_reducible apply cC.bJ (.binOp .neq _ _ _ _) none); first | refine ed (O.neq .q .q) ?_ | refine ed (O.nJ .q .q) ?_ | refine ed (O.wn) ?_)
  | ((with_reducible apply cC.bJ (.binOp .quo _ _ _ _) none); first | refine aU h λx j h=>ed (O.quo .q .q j) ?_ | refine aU h λx j h=>ed (O.pI .q .q j) ?_)
  | ((with_reducible apply cC.bJ (.binOp .rem _ _ _ _) none); first | refine aU h λx j h=>ed (O.rem .q .q j) ?_ | refine aU h λx j h=>ed (O.pJ .q .q j) ?_)
  | ((with_reducible apply cC.bJ (.unOp .not _ _) none); first | refine ed (O.not .q) ?_)
  | ((with_reducible apply cC.bJ (.unOp .neg _ _) none); first | refine ed (O.neg .q) ?_)
  | ((with_reducible apply cC.bJ (.pick _ _ _) none); first | refine ed (O.jX .q (by first | rfl | assumption) .q) ?_ | refine ed (O.kh .q (by first | rfl | assumption) .q) ?_)
  | ((with_reducible apply cC.bJ (.nilCheck _) none); first | refine ed (O.eD .q) ?_ | refine ed (O.xw .q) ?_)
  | ((with_reducible apply cC.bJ (.index _ _ _) none); first | refine aU h λx j h=>ed (O.at' .q .q iR.p j) ?_)
  | ((with_reducible apply cC.bJ (.extract _ _) none); first | refine ed (O.F5) ?_)
  | ((with_reducible apply cC.bJ (.convert _ _ _) none); first | refine ed (O.FW) ?_ | refine ed (O.FV) ?_)
  | ((with_reducible apply cC.bJ (.box _ _) none); first | refine ed (O.FN) ?_)
  | ((with_reducible apply cC.bJ (.alloc _) none); first | refine ed (O.FT) ?_ | refine ed (O.FU) ?_)
  | ((with_reducible apply cC.bJ (.build _ _) none); first | refine ed (O.F4) ?_)
  | ((with_reducible apply cC.bJ (.field _ _ _) none); first | refine ed (O.wd) ?_)
  | ((with_reducible apply cC.bJ (.makeSlice _ _ _) none); first | refine aU h λx j h=>ed (O.FZ j) ?_ | refine aU h λx j h=>ed (O.F6 j) ?_)
  | ((with_reducible apply cC.bJ (.buildSlice _ 0 #[]) none); first | refine ed (O.wl) ?_)
  | ((with_reducible apply cC.bJ (.makeFunc _ _ _) none); first | refine ed (O.E2 rfl) ?_)
  | ((with_reducible apply cC.bJ (.slice _ _ _ _ _) none); first | refine aU h λx j h=>ed (O.ta .q .q .q iR.p j) ?_ | refine aU h λx j h=>ed (O.FC .q .q iR.p j) ?_ | refine aU h λx j h=>ed (O.FD .q .q iR.p j) ?_ | refine aU h λx j h=>ed (O.F3 j) ?_ | refine aU h λx j h=>ed (O.F1 j) ?_ | refine aU h λx j h=>ed (O.F2 j) ?_)
  | ((with_reducible apply cC.bJ (.call { callee:=.builtin .len,args:=#[_],argTypes:=#[_] }) none); first | refine ed (O.js .q d'.p) ?_ | refine ed (O.nF .q d'.p) ?_ | refine ed (O.ux .q iR.p) ?_)
  | ((with_reducible apply cC.bJ (.call { callee:=.builtin .append,args:=#[_,_],argTypes:=#[_,_] }) none); first | refine aU h λx j h=>ed (O.wp j) ?_ | refine aU h λx j h=>ed (O.F0 j) ?_ | refine aU h λx j h=>ed (O.FO j) ?_ | refine aU h λx j h=>ed (O.Qz j) ?_)
  | ((with_reducible apply cC.bJ (.call { callee:=.value _,args:=_,argTypes:=_ }) none); first | (refine aU h λx j h=>K9 (cZ.fV ?_ (bL.go j)) ?_; · (repeat' first | exact .nil | refine .c9 .q ?_)) | (refine aU h λx j h=>K9 (cZ.mF rfl ?_ (bL.go j)) ?_; · (repeat' first | exact .nil | refine .s ?_ | refine .c (View.pF rfl rfl) ?_ | refine .c (.row rfl) ?_ | refine .c (View.ov ?_) ?_ | refine .c (View.cl ?_) ?_)) | (refine aU h λx j h=>QT (bL.go j) rfl rfl rfl rfl rfl (by repeat' first | exact .nil | refine .b rfl ?_ | refine .n rfl ?_) ?_))
  | ((with_reducible apply cC.bJ (.buildSlice _ _ _) none); first | refine QR h ?_ | refine QS rfl ?_ | refine QV rfl ?_ | refine QY [_,_] rfl ?_ | refine K_ [_] rfl ?_ | refine K_ [_,_] rfl ?_)
  | ((with_reducible apply cC.bJ (.assign _) none); refine QU rfl rfl (by first | exact hP.j8 | exact hP.AK | exact hP.DM | exact hP.RA | exact hP.ov .q (by repeat' first | exact eU.nil | (apply eU.f) | (apply eU.r rfl) | (apply eU.ov) | (apply eU.b rfl))) ?_))
 | ((with_reducible apply cC.ts); refine QW rfl rfl (by first | exact hP.hD | exact hP.o0 | exact hP.uP | exact hP.sp | exact hP.rf | exact hP.P1 .q (by repeat' first | exact eU.nil | (apply eU.f) | (apply eU.r rfl) | (apply eU.ov) | (apply eU.b rfl))) ?_)
 | ((with_reducible apply cC.bJ _ (some _)); first
  | refine QX ?_
  | refine QZ ?_
  | ((with_reducible apply cC.bJ (.move _) (some _)); first | refine ei (O.a6 .q) ?_)
  | ((with_reducible apply cC.bJ (.assign (.const _)) (some _)); first | refine ei (O.dI .q) ?_)
  | ((with_reducible apply cC.bJ (.assign (.tmp _)) (some _)); first | refine ei (O.dI .z_) ?_)
  | ((with_reducible apply cC.bJ (.load _ _) (some _)); first | refine ei (O.gL) ?_ | refine ei (O.fw) ?_ | refine ei (O.wc) ?_ | refine ei (O.we) ?_ | refine ei (O.FR) ?_ | refine ei (O.FX) ?_ | refine ei (O.F7) ?_)
  | ((with_reducible apply cC.bJ (.fieldAddr _ _ _) (some _)); first | refine ei (O.Am) ?_ | refine ei (O.An) ?_ | refine ei (O.wf) ?_)
  | ((with_reducible apply cC.bJ (.indexAddr _ _ _) (some _)); first | refine aU h λx j h=>ei (O.FQ j) ?_ | refine aU h λx j h=>ei (O.rn j) ?_ | refine ei (O.eH) ?_ | refine ei (O.FY) ?_)
  | ((with_reducible apply cC.bJ (.binOp .add _ _ _ _) (some _)); first | refine ei (O.add .q .q) ?_ | refine aU h λx j h=>ei (O.cat .q .q j) ?_)
  | ((with_reducible apply cC.bJ (.binOp .sub _ _ _ _) (some _)); first | refine ei (O.sub .q .q) ?_)
  | ((with_reducible apply cC.bJ (.binOp .mul _ _ _ _) (some _)); first | refine ei (O.mul .q .q) ?_)
  | ((with_reducible apply cC.bJ (.binOp .lss _ _ _ _) (some _)); first | refine ei (O.lss .q .q) ?_)
  | ((with_reducible apply cC.bJ (.binOp .leq _ _ _ _) (some _)); first | refine ei (O.leq .q .q) ?_)
  | ((with_reducible apply cC.bJ (.binOp .gtr _ _ _ _) (some _)); first | refine ei (O.gtr .q .q) ?_)
  | ((with_reducible apply cC.bJ (.binOp .geq _ _ _ _) (some _)); first | refine ei (O.geq .q .q) ?_)
  | ((with_reducible apply cC.bJ (.binOp .eql _ _ _ _) (some _)); first | refine ei (O.eql .q .q) ?_ | refine ei (O.oB .q .q) ?_ | refine ei (O.D1 .q .q (by kernel_rfl)) ?_ | refine ei (O.og) ?_)
  | ((with_reducible apply cC.bJ (.binOp .neq _ _ _ _) (some _)); first | refine ei (O.neq .q .q) ?_ | refine ei (O.nJ .q .q) ?_ | refine ei (O.wn) ?_)
  | ((with_reducible apply cC.bJ (.binOp .quo _ _ _ _) (some _)); first | refine aU h λx j h=>ei (O.quo .q .q j) ?_ | refine aU h λx j h=>ei (O.pI .q .q j) ?_)
  | ((with_reducible apply cC.bJ (.binOp .rem _ _ _ _) (some _)); first | refine aU h λx j h=>ei (O.rem .q .q j) ?_ | refine aU h λx j h=>ei (O.pJ .q .q j) ?_)
  | ((with_reducible apply cC.bJ (.unOp .not _ _) (some _)); first | refine ei (O.not .q) ?_)
  | ((with_reducible apply cC.bJ (.unOp .neg _ _) (some _)); first | refine ei (O.neg .q) ?_)
  | ((with_reducible apply cC.bJ (.pick _ _ _) (some _)); first | refine ei (O.jX .q (by first | rfl | assumption) .q) ?_ | refine ei (O.kh .q (by first | rfl | assumption) .q) ?_)
  | ((with_reducible apply cC.bJ (.nilCheck _) (some _)); first | refine ei (O.eD .q) ?_ | refine ei (O.xw .q) ?_)
  | ((with_reducible apply cC.bJ (.index _ _ _) (some _)); first | refine aU h λx j h=>ei (O.at' .q .q iR.p j) ?_)
  | ((with_reducible apply cC.bJ (.extract _ _) (some _)); first | refine ei (O.F5) ?_)
  | ((with_reducible apply cC.bJ (.convert _ _ _) (some _)); first | refine ei (O.FW) ?_ | refine ei (O.FV) ?_)
  | ((with_reducible apply cC.bJ (.box _ _) (some _)); first | refine ei (O.FN) ?_)
  | ((with_reducible apply cC.bJ (.alloc _) (some _)); first | refine ei (O.FT) ?_ | refine ei (O.FU) ?_)
  | ((with_reducible apply cC.bJ (.build _ _) (some _)); first | refine ei (O.F4) ?_)
  | ((with_reducible apply cC.bJ (.field _ _ _) (some _)); first | refine ei (O.wd) ?_)
  | ((with_reducible apply cC.bJ (.makeSlice _ _ _) (some _)); first | refine aU h λx j h=>ei (O.FZ j) ?_ | refine aU h λx j h=>ei (O.F6 j) ?_)
  | ((with_reducible apply cC.bJ (.buildSlice _ 0 #[]) (some _)); first | refine ei (O.wl) ?_)
  | ((with_reducible apply cC.bJ (.makeFunc _ _ _) (some _)); first | refine ei (O.E2 rfl) ?_)
  | ((with_reducible apply cC.bJ (.slice _ _ _ _ _) (some _)); first | refine aU h λx j h=>ei (O.ta .q .q .q iR.p j) ?_ | refine aU h λx j h=>ei (O.FC .q .q iR.p j) ?_ | refine aU h λx j h=>ei (O.FD .q .q iR.p j) ?_ | refine aU h λx j h=>ei (O.F3 j) ?_ | refine aU h λx j h=>ei (O.F1 j) ?_ | refine aU h λx j h=>ei (O.F2 j) ?_)
  | ((with_reducible apply cC.bJ (.call { callee:=.builtin .len,args:=#[_],argTypes:=#[_] }) (some _)); first | refine ei (O.js .q d'.p) ?_ | refine ei (O.nF .q d'.p) ?_ | refine ei (O.ux .q iR.p) ?_)
  | ((with_reducible apply cC.bJ (.call { callee:=.builtin .append,args:=#[_,_],argTypes:=#[_,_] }) (some _)); first | refine aU h λx j h=>ei (O.wp j) ?_ | refine aU h λx j h=>ei (O.F0 j) ?_ | refine aU h λx j h=>ei (O.FO j) ?_ | refine aU h λx j h=>ei (O.Qz j) ?_)
  | ((with_reducible apply cC.bJ (.call { callee:=.value _,args:=_,argTypes:=_ }) (some _)); first | (refine aU h λx j h=>K8 (cZ.fV ?_ (bL.go j)) ?_; · (repeat' first | exact .nil | refine .c9 .q ?_)) | (refine aU h λx j h=>K8 (cZ.mF rfl ?_ (bL.go j)) ?_; · (repeat' first | exact .nil | refine .s ?_ | refine .c (View.pF rfl rfl) ?_ | refine .c (.row rfl) ?_ | refine .c (View.ov ?_) ?_ | refine .c (View.cl ?_) ?_)))
  | refine G3 h (λav h=>?_) (λav h=>?_))
 | ((with_reducible apply cC.nl); first | refine QQ rfl rfl ?_ | refine QP h (by (repeat' first | exact .nil | refine .n rfl ?_ | refine .w rfl rfl .pC ?_ | refine .w rfl rfl .pB ?_ | refine .w rfl rfl (j7.obj (by (repeat' first | exact .nil | refine .f ?_ | refine .o ?_ | refine .i ?_))) ?_)))
 | ((with_reducible apply j6.dG); refine cy.dG rfl (by first | exact .w | exact .n | exact .c rfl .w rfl | exact .c rfl .n rfl) rfl rfl ?_)
 | ((with_reducible apply j6.sv); refine cy.sv rfl (by first | exact .w | exact .n | exact .c rfl .w rfl | exact .c rfl .n rfl) rfl rfl ?_)
 | ((with_reducible apply j6.eu); first | refine cy.eu h (λJ h=>?_) (λJ aj h=>?_) | refine cy.YL h (λJ h=>?_) (λJ aj h=>?_))
 | ((with_reducible apply j6.b6); first | refine cy.b6 h (λJ h=>?_) (λJ aj h=>?_) | refine cy.YM h (λJ h=>?_) (λJ aj h=>?_))
 | ((with_reducible apply j6.rd); first | refine cy.rd ?_ | refine cy.YG ?_)
 | (with_reducible apply cy.rg)
 | (with_reducible apply cy.bS)
 | ((with_reducible apply j6.bl); first
  | refine cy.Xw h (λJ h=>?_) (λJ aj h=>?_)
  | refine cy.ca h (λav h=>?_) (λav h=>?_)
  | refine cy.ce h (λav h=>?_) (λav h=>?_)
  | refine cy.SV ?_
  | refine cy.SU ?_)
 | ((with_reducible apply j6.Jz); refine cy.Jz h (λJ h=>?_) (λJ aj h=>?_))
 | (with_reducible apply cy.wD)
 | (with_reducible apply cy.cD)
 | (with_reducible apply cy.dC)
 | (with_reducible apply cy.gD)
 | ((with_reducible apply cy.YV); first
  | (refine cy.Kn h (by (repeat' first | exact .nil | refine .z rfl rfl ?_ ?_ | exact .refl | exact .Cm | exact gY.vw | refine fA.obj ?_ | refine .f ?_ | refine .o ?_ | refine .z ?_)) (by (repeat' first | exact .nil | refine .n rfl ?_ | refine .w rfl rfl .pC ?_ | refine .w rfl rfl .pB ?_ | refine .w rfl rfl (j7.obj (by (repeat' first | exact .nil | refine .f ?_ | refine .o ?_ | refine .i ?_))) ?_)))
  | (cases h; refine cy.hW rfl (by (repeat' first | exact .nil | refine .z rfl rfl ?_ ?_ | exact .refl | exact .Cm | exact gY.vw | refine fA.obj ?_ | refine .f ?_ | refine .o ?_ | refine .z ?_)) ?_; exact ee.ep)
  | refine cy.Ki ?_)
 | (with_reducible apply ee.bS)
 | (with_reducible apply ee.gC)
 | (with_reducible apply ee.kk)
 | (with_reducible apply ee.cD)
 | (with_reducible apply ee.gw)
 | (with_reducible apply ee.ph)
 | ((with_reducible apply j6.Sh); refine ee.GI ?_)
 | ((with_reducible apply j6.Yp); first
  | refine ee.go h (by (repeat' first | exact .nil | refine .n rfl ?_ | refine .w rfl rfl .pC ?_ | refine .w rfl rfl .pB ?_ | refine .w rfl rfl (j7.obj (by (repeat' first | exact .nil | refine .f ?_ | refine .o ?_ | refine .i ?_))) ?_))
  | refine ee.aX h (by (repeat' first | exact .nil | refine .n rfl ?_ | refine .w rfl rfl .pC ?_ | refine .w rfl rfl .pB ?_ | refine .w rfl rfl (j7.obj (by (repeat' first | exact .nil | refine .f ?_ | refine .o ?_ | refine .i ?_))) ?_))
  | refine ee.x2 h (by (repeat' first | exact .nil | refine .n rfl ?_ | refine .w rfl rfl .pC ?_ | refine .w rfl rfl .pB ?_ | refine .w rfl rfl (j7.obj (by (repeat' first | exact .nil | refine .f ?_ | refine .o ?_ | refine .i ?_))) ?_))
  | refine ee.jY h (by (repeat' first | exact .nil | refine .n rfl ?_ | refine .w rfl rfl .pC ?_ | refine .w rfl rfl .pB ?_ | refine .w rfl rfl (j7.obj (by (repeat' first | exact .nil | refine .f ?_ | refine .o ?_ | refine .i ?_))) ?_)))
 | ((with_reducible apply j6.Ys); refine ee.cB h (by (repeat' first | exact .nil | refine .n rfl ?_ | refine .w rfl rfl .pC ?_ | refine .w rfl rfl .pB ?_ | refine .w rfl rfl (j7.obj (by (repeat' first | exact .nil | refine .f ?_ | refine .o ?_ | refine .i ?_))) ?_)))
 | ((with_reducible apply j6.dY); first
  | refine cy.dY h (λs o h=>?_) (λr ah h=>?_)
  | refine cy.gb h (λs o h=>?_) (λr h=>?_) (λr h=>?_))
 | ((with_reducible apply j6.rg); with_reducible apply cy.rt)
 | ((with_reducible apply j6.Yo); cases h; first | exact ee.ep | exact ee.fn)
 | refine G3 h (λav h=>?_) (λav h=>?_)))):p:=h
class yD (P:Program) (N:cQ) (Φ:Exit->aL->Prop) (rs:outParam (List ResultVar)) (n:outParam Nat) (outs:outParam (List (Option ab))) (res:outParam ab):Prop where p:∀ g,pT P N rs n outs res .ret g->Φ .ret g
instance:yD P N (pT P N rs n outs res) rs n outs res:=⟨λ_ h=>h⟩
instance {Ψ:aL->Prop}{Φ:Exit->aL->Prop} [h:yD P N Φ rs n outs res]:yD P N (o1 Ψ Φ) rs n outs res:=⟨λg bH=>h.p g bH⟩
instance {id:Nat}{Φ:Exit->aL->Prop} [h:yD P N Φ rs n outs res]:yD P N (lZ id Φ) rs n outs res:=⟨λg bH=>h.p g bH⟩
class yC {S R gP:Type}(Φ:Exit->aL->Prop) (F:outParam (S->List (Nat × ab))) (id:outParam Nat) (X:outParam (R->List (Nat × ab))) (Y:outParam (gP->List (Nat × ab))) (o:outParam (S ⊕ (R ⊕ gP))):Prop where p:∀ g,kY F (AD id X Y) o .ret g->Φ .ret g
section
variable {S R gP:Type}{F:S->List (Nat × ab)}{id:Nat}{X:R->List (Nat × ab)}{Y:gP->List (Nat × ab)}{o:S ⊕ (R ⊕ gP)}{Φ:Exit->aL->Prop}
instance:yC (kY F (AD id X Y) o) F id X Y o:=⟨λ_ h=>h⟩
instance {Ψ:aL->Prop} [h:yC Φ F id X Y o]:yC (o1 Ψ Φ) F id X Y o:=⟨λg bH=>h.p g bH⟩
instance {i:Nat} [h:yC Φ F id X Y o]:yC (lZ i Φ) F id X Y o:=⟨λg bH=>h.p g bH⟩
theorem cy.Kn {v:gP} [a1:yC Φ F id X Y o] (h:some (.inr (.inr v))=some o) (aW:nX ((Y v).map Prod.fst) (get G) (get (Y v)) (Y v)) (au:Trim true (get (Y v)) (get (Y v)) (Y v)):cy E t P N .ret G Φ:=by
 cases h;exact W.dG _ aW (W.rt λg av=>a1.p g (aF.jY au g av))
end
def YK:ResultVar->ab->Option (Nat × ab)
 | .tmp t,x=>some (t,x)
 | .cell s _,.agg cs=>some (s,.obj cs)
 | _,_=>none
def Kl:List ResultVar->List ab->List (Nat × ab)->Option (List (Nat × ab))
 | [],[],T=>some T
 | r::rs,x::xs,T=>match Kl rs xs T,YK r x with
  | some l,some p=>some (p::l)
  | _,_=>none
 | _,_,_=>none
def J4:List Nat->List (Option ab)->Option (List (Nat × ab))
 | _,[]=>some []
 | J::dZ,none::l=>J4 dZ l
 | J::dZ,some x::l=>match J4 dZ l with
  | some r=>some ((J,x)::r)
  | none=>none
 | _,_=>none
def YJ (rs:List ResultVar) (outs:List (Option ab)) (res:ab):Option (List (Nat × ab)) :=
 match J4 num outs with
 | none=>none
 | some T=>match rs,res with
  | [r],x=>Kl [r] [x] T
  | rs,.bQ xs=>Kl rs xs T
  | _,_=>none
theorem gY.vw {x y:ab} [aA:b4 x] [hv:iV x y]:gY x y:=.oT aA.bj (hv.v _)
inductive qz {α:Type}(en:bz α):Option Nat->ab->ab->Prop
 | w {D0:bz α}{L:List α} [h:iV (ao D0 L) (ak en L)]:qz en none (ao D0 L) (ak en L)
 | n [h:iV .aT (ak en ([]:List α))]:qz en none .aT (ak en ([]:List α))
 | c {i:Nat}{cs cs':List ab}{x y:ab}(j:cs[i]?=some x) (h:qz en none x y) (he:oY cs i [y]=some cs'):qz en (some i) (.obj cs) (.obj cs')
theorem qz.one {α:Type}{en:bz α}{x y:ab}(h:qz en none x y):gY x y/\nb y:=by
 cases h with
 | @w D0 L h=>exact ⟨.oT (.own (pK D0 L)) (h.v _),⟨by intro _ _ _ _ _ e; cases e⟩⟩
 | @n h=>exact ⟨.oT .aT (h.v _),⟨by intro _ _ _ _ _ e; cases e⟩⟩
theorem qz.dG {α:Type}{en:bz α}{i:Option Nat}{x y:ab}(h:qz en i x y):gY x y/\nb y:=by
 cases h with
 | w=>exact qz.one .w
 | n=>exact qz.one .n
 | @c i cs cs' x y j h he =>
  obtain ⟨h1,af⟩:=lL he;subst h1;refine ⟨.obj (by simp [eP] at af ⊢; omega) λk a b aR av=>?_,⟨by simp⟩⟩;unfold eP at av;simp only [List.length_singleton] at af av;by_cases hk:k<i
  ·rw [List.append_assoc,List.getElem?_append_left (by simp; omega),List.getElem?_take,if_pos hk,aR] at av;cases av; exact .refl
  ·by_cases fS:k=i
   ·subst fS;rw [List.append_assoc,List.getElem?_append_right (by rw [List.length_take]; exact Nat.min_le_left _ _),List.length_take,Nat.min_eq_left (by omega),Nat.sub_self] at av;simp at av;subst av;rw [j] at aR; cases aR;exact h.one.1
   ·rw [List.getElem?_append_right (by simp; omega)] at av;simp only [List.length_append,List.length_take,List.length_singleton,List.getElem?_drop] at av;rw [show i+1+(k - (min i cs.length+1))=k by omega,aR] at av;cases av; exact .refl
theorem Ke {g g2:aL}{s:Nat}:∀ {ks:List Nat}{G1:List (Nat × ab)},pick g ks=some G1->(ks.all λk=>![s].elem k)=true->(∀ e∈G1,cF e.2)->nX [s] g g2 G1
 | [],_,h,_,_=>by cases h; exact .nil
 | k::ks,G1,h,he,aA=>by
  obtain ⟨x,l,j,ai,rfl⟩:=CY h;rw [List.all_cons,Bool.and_eq_true] at he;have:b4 x:=⟨aA (k,x) (by simp)⟩;exact .n (by simpa using he.1) j (Ke ai he.2 λe h=>aA e (by simp [h]))
def Xv (id:Nat):Code->Bool
 | .seq (.region k _ _) _=>Nat.beq k id
 | .region k _ _=>Nat.beq k id
 | _=>false
theorem cy.dG {α:Type}{en:bz α}{id s:Nat}{i:Option Nat}{B:Code}{Φ:Exit->aL->Prop}{x y:ab}{ks:List Nat}{ic:List (Nat × ab)}(az:get G s=some x) (al:qz en i x y) (hk:sP [s] G=some ks) (au:pick (get G) ks=some ic) (h:cy E t P N B ((s,y)::ic) Φ) (hid:Xv id B=true:=by rfl) (cz:(ks.all λk=>![s].elem k)=true:=by rfl) [j:b4 x] [aA:im ic]:cy E (.dG id s i en t) P N B G Φ :=
 have:=al.dG.2
 W.dG [s] (.z (by simp) az al.dG.1 (Ke au cz aA.p)) h
theorem cy.sv {α:Type}{en:bz α}{s:Nat}{i:Option Nat}{c:Code}{Φ:Exit->aL->Prop}{x y:ab}{ks:List Nat}{ic:List (Nat × ab)}(az:get G s=some x) (al:qz en i x y) (hk:sP [s] G=some ks) (au:pick (get G) ks=some ic) (h:cy E t P N (.loop c) ((s,y)::ic) Φ) (cz:(ks.all λk=>![s].elem k)=true:=by rfl) [j:b4 x] [aA:im ic]:cy E (.sv s i en t) P N (.loop c) G Φ :=
 have:=al.dG.2
 W.dG [s] (.z (by simp) az al.dG.1 (Ke au cz aA.p)) h
theorem cy.hW {Φ:Exit->aL->Prop}{G1:List (Nat × ab)} [a1:yD P N Φ rs n outs res] (c':YJ rs outs res=some G1) (aW:nX (G1.map Prod.fst) (get G) (get G1) G1) (au:ee E t .ret (pT P N rs n outs res) G1):cy E t P N .ret G Φ :=
 W.dG _ aW (W.rt λg av=>a1.p g (au g av))
def Fb:List Nat->Nat->List ab->Option (List (Nat × ab))
 | _,_,[]=>some []
 | [],_,_::_=>none
 | J::dZ,k,x::l=>match Fb dZ (k+1) l with
  | none=>none
  | some r=>match sT x,Nat.beq J k with
   | some y,true=>some ((J,y)::r)
   | _,_=>none
theorem ON:∀ {l:List ab}{dZ:List Nat}{k:Nat}{r:List (Nat × ab)},Fb dZ k l=some r->xA k l=r
 | [],dZ,k,r,h=>by cases dZ <;> (cases h; rfl)
 | x::l,[],k,r,h=>by cases h
 | x::l,J::dZ,k,r,h=>by
  unfold Fb at h
  split at h
  ·cases h
  ·rename_i cW ah
   split at h
   ·rename_i y al aj;cases h; rw [<- ON ah,<- vK al,Nat.eq_of_beq_eq_true aj]; rfl
   ·cases h
def lits:List Nat:=[0,1,2,3,4,5,6,7,8,9,10,11,12]
theorem bY.bB {f:FuncId}{fn:Func}{c:Code}{args:List ab}{outs:List (Option ab)}{res:ab}(E:List Nat) (t:lq) (aS:P.funcs[f]?=some fn) (av:fn.body=some c) (a_:fn.ntmps=N.size) (aR:Nat.ble args.length N.size=true) (hlen:outs.length=args.length) (c':Fb lits 0 args=some G) (hw:cy E t P N c G (pT P N fn.results.toList args.length outs res)):bY P f args outs res:=bY.go aS av a_ aR hlen (W.fin (by rw [ON c']; exact hw))
end
end Go.Own
namespace Go.Own
open Go
set_option linter.unusedSectionVars false
variable [cH]
section
variable {P:Program}{N:cQ}{ops:Array Oper}{a':List (List Nat)}{acc:Acc}{l:List Oper}{K:aL->Prop}{i d:Nat}
theorem bA.GK (bw:Nat) {G G2:List (Nat × ab)}{o:Oper}{x:ab}(he:il P N (c5 (get G) (λm=>(a'.getD bw []).contains m) acc) o (cJ (get G2) d x)) (aN:o.guard=none) (gz:Cl (acc.filterMap jW)=true) (fJ:l1 G=true) (aj:Nat.beq ops.size (bw+l.length+1)=true)
  (fF:acc.filter (λe=>!(a'.getD bw []).contains e.1)=[])
  (av:(List.range ops.size).all (λk=>Nat.ble k bw||(a'.getD k []).contains bw)=true) (hk:bA P N ops a' (get ((d,x)::G2)) (bw+1) [] l K):bA P N ops a' (get G) i acc (o::l) K :=
 .mK bw (sw ▸ he) aN gz fJ aj fF av hk
end
end Go.Own
namespace Go.Own
open Go Go.Proofs Go.Shelf Go.Lib Go.Sort
set_option linter.unusedSectionVars false
variable [cH]
def A0:Nat->Nat->List UInt8
 | 0,_=>[]
 | k+1,u=>if u<10 then [UInt8.ofNat (48+u)] else A0 k (u / 10)++[UInt8.ofNat (48+u % 10)]
omit [cH] in
theorem Hc:∀ (k u:Nat),u<10 ^ k->0<k->A0 k u=decDigits u
 | 0,_,_,h=>absurd h (by omega)
 | k+1,u,h,_=>by
  rw [A0,decDigits];by_cases hu:u<10
  ·rw [if_pos hu,dif_pos hu]
  ·rw [if_neg hu,dif_neg hu];have hk:0<k:=by
    rcases Nat.eq_zero_or_pos k with rfl | hk
    ·simp at h; omega
    ·exact hk
   rw [Hc k (u / 10) (by rw [Nat.pow_succ] at h; omega) hk]
def nC (n:Int):List UInt8:=if n<0 then 45::A0 20 n.natAbs else A0 20 n.toNat
omit [cH] in
theorem Jn {n:Int}(h:-9223372036854775808<=n/\n<=9223372036854775807):nC n=Lib.itoa n:=by
 unfold nC Lib.itoa;split
 ·rw [Hc 20 _ (by omega) (by omega)]
 ·rw [Hc 20 _ (by omega) (by omega)]
def sO (n:Int):Option ByteArray:=if -9223372036854775808<=n/\n<=9223372036854775807 then some ⟨(nC n).toArray⟩ else none
theorem TW {w:World}{k:Nat}{os:Array Obj}{U:a8}:Fr w (grow (w.drewN k) os) U:=by
 refine ⟨rfl,rfl,rfl,?_,λc aa _=>?_,λa aR _=>?_,Nat.le_add_right _ _⟩
 ·rw [size_grow]; exact Nat.le_add_right _ _
 ·exact heap_grow_old _ _ aa
 ·exact (frozen?_grow (w.drewN k) os a aR).trans rfl
theorem bY.plain {P:Program}{f:FuncId}{args:List ab}{r:Value}(ah:r.oneCell'=true)
  (h:∀ (w:World) (I:a8) (vs:List Value) (Fs:Nat->a8),vs.length=args.length->cG w I vs.toArray (pg args) Fs->Calls P f vs.toArray w λe w'=>e=.returned r/\∃ k os,w'=grow (w.drewN k) os) :
  bY P f args (args.map λ_=>none) (.lit r):=by
 refine ⟨by simp,λw I vs Fs ai bm=>?_⟩;refine (h w I vs Fs ai bm).mono ?_;rintro e w' ⟨rfl,k,os,rfl⟩;have aS:Fr w (grow (w.drewN k) os) (λ_=>False):=TW;have oL:∀ t x,l2 (args.map λ_=>none) (.lit r) t=some x->t=args.length/\x=.lit r:=by
  intro t x j;unfold l2 at j
  split at j
  ·rename_i ar; cases j; exact ⟨by simpa using ar,rfl⟩
  ·rw [List.getElem?_map] at j;cases aR:args[t]? with
   | none=>rw [aR] at j; cases j
   | some y=>rw [aR] at j; cases j
 refine ⟨r,I,λ_=>ct,rfl,⟨λt x j=>?_,λ_ _ _ h=>h,λ_ _ _ h=>h.elim,λ_ _ h=>h.elim,λc aa=>Nat.lt_of_lt_of_le (bm.lt c aa) aS.size,λt t' z p n m new br cm bh cO h1 _=>?_,cH.keep bm.hN (λc aa=>aS.block c (bm.lt c aa) λh=>h) λ_ h=>h⟩,⟨aS.mono λ_ _ h=>h.elim,λ_ h=>h,λ_ h=>.inl h,λ_ ⟨_,h⟩=>h.elim⟩⟩
 ·obtain ⟨rfl,rfl⟩:=oL t x j;exact ⟨r,by rw [List.getElem?_toArray,<- ai]; simp,.tree (.lit ah λ_ h=>h)⟩
 ·have:=(oL t _ h1).2;cases this
theorem bY.itoa {P : Program} {ρ : Ren} (L : LaysM.n171 P ρ) (ar : ∀ (w : World) (I : a8), cH.q w I -> Lib.TabIs P w "internal/strconv.uint64pow10" .u64 Lib.pow10Tab) {n : Int} {r : ByteArray} (h : sO n = some r) : bY P (ρ.f 171) [ae n] [none] (aw r) := by
 unfold sO at h
 split at h <;> cases h
 rename_i aA;rw [Jn aA];refine bY.plain (args:=[ae n]) rfl λw I vs Fs ai bm=>?_
 match vs,ai with
 | [v0],_ =>
 obtain ⟨Qp,BS,fW⟩:=bm.rel 0 _ rfl;cases BS;have hv:=(fW.hb (by simp)).h_.1;subst hv;exact Any.strconv_Itoa L n aA.1 aA.2 w (ar w I bm.hN)
end Go.Own
namespace Go.Proofs
open Tryz
open Go Go.Shelf Go.RowKit Go.Lib Go.Own
def Tryz.On:Go.Shelf.Ren:=⟨fun | 169=>21 | n=>n,fun | 70=>72 | 9=>9 | 0=>0 | 72=>74 | 37=>60 | 127=>98 | 3=>3 | 5=>5 | n=>n,fun | n=>n⟩
theorem Tryz.XA:Go.Proofs.Lays.n169 prog Tryz.On:={
 mixed:=by kernel_rfl
 f169:=func21.trans (congrArg some (by kernel_rfl))
 t0:=Tryz.underlying0
 a0:=Tryz.isAgg0
 z0:=Tryz.sizeOf0
 v0:=Tryz.zeroValue0
 t3:=Tryz.underlying3
 a3:=Tryz.isAgg3
 z3:=Tryz.sizeOf3
 v3:=Tryz.zeroValue3
 t9:=Tryz.underlying9
 a9:=Tryz.isAgg9
 z9:=Tryz.sizeOf9
 v9:=Tryz.zeroValue9
 t37:=Tryz.underlying60
 a37:=Tryz.isAgg60
 z37:=Tryz.sizeOf60
 v37:=Tryz.zeroValue60
 t70:=Tryz.underlying72
 a70:=Tryz.isAgg72
 z70:=Tryz.sizeOf72
 v70:=Tryz.zeroValue72
 t72:=Tryz.underlying74
 a72:=Tryz.isAgg74
 z72:=Tryz.sizeOf74
 v72:=Tryz.zeroValue74
 t127:=Tryz.underlying98
 a127:=Tryz.isAgg98
 z127:=Tryz.sizeOf98
 v127:=Tryz.zeroValue98 }
def Tryz.XC:Go.Shelf.Ren:=⟨fun | 171=>20 | 243=>36 | 246=>48 | 283=>62 | 284=>63 | 285=>64 | 286=>65 | 129=>77 | 317=>76 | 318=>78 | 319=>79 | 320=>80 | 337=>97 | 338=>98 | n=>n,fun | 3=>3 | 9=>9 | 2=>2 | 4=>4 | 171=>151 | 0=>0 | 53=>97 | 37=>60 | 5=>5 | 173=>154 | 212=>182 | 51=>183 | 20=>20 | 213=>184 | 46=>186 | 232=>223 | 233=>224 | n=>n,fun | 17=>0 | 18=>1 | 19=>2 | n=>n⟩
theorem Tryz.XB:Go.Proofs.LaysM.n171 prog Tryz.XC:={
 mixed:=by kernel_rfl
 f129:=func77.trans (congrArg some (by kernel_rfl))
 f171:=func20.trans (congrArg some (by kernel_rfl))
 f243:=func36.trans (congrArg some (by kernel_rfl))
 f246:=func48.trans (congrArg some (by kernel_rfl))
 f283:=func62.trans (congrArg some (by kernel_rfl))
 f284:=func63.trans (congrArg some (by kernel_rfl))
 f285:=func64.trans (congrArg some (by kernel_rfl))
 f286:=func65.trans (congrArg some (by kernel_rfl))
 f317:=func76.trans (congrArg some (by kernel_rfl))
 f318:=func78.trans (congrArg some (by kernel_rfl))
 f319:=func79.trans (congrArg some (by kernel_rfl))
 f320:=func80.trans (congrArg some (by kernel_rfl))
 f337:=func97.trans (congrArg some (by kernel_rfl))
 f338:=func98.trans (congrArg some (by kernel_rfl))
 t0:=Tryz.underlying0
 a0:=Tryz.isAgg0
 z0:=Tryz.sizeOf0
 v0:=Tryz.zeroValue0
 t2:=Tryz.underlying2
 a2:=Tryz.isAgg2
 z2:=Tryz.sizeOf2
 v2:=Tryz.zeroValue2
 t3:=Tryz.underlying3
 a3:=Tryz.isAgg3
 z3:=Tryz.sizeOf3
 v3:=Tryz.zeroValue3
 t4:=Tryz.underlying4
 a4:=Tryz.isAgg4
 z4:=Tryz.sizeOf4
 v4:=Tryz.zeroValue4
 t5:=Tryz.underlying5
 a5:=Tryz.isAgg5
 z5:=Tryz.sizeOf5
 v5:=Tryz.zeroValue5
 t9:=Tryz.underlying9
 a9:=Tryz.isAgg9
 z9:=Tryz.sizeOf9
 v9:=Tryz.zeroValue9
 t20:=Tryz.underlying20
 a20:=Tryz.isAgg20
 z20:=Tryz.sizeOf20
 v20:=Tryz.zeroValue20
 t37:=Tryz.underlying60
 a37:=Tryz.isAgg60
 z37:=Tryz.sizeOf60
 v37:=Tryz.zeroValue60
 t46:=Tryz.underlying186
 a46:=Tryz.isAgg186
 z46:=Tryz.sizeOf186
 v46:=Tryz.zeroValue186
 t51:=Tryz.underlying183
 a51:=Tryz.isAgg183
 z51:=Tryz.sizeOf183
 v51:=Tryz.zeroValue183
 t53:=Tryz.underlying97
 a53:=Tryz.isAgg97
 z53:=Tryz.sizeOf97
 v53:=Tryz.zeroValue97
 t171:=Tryz.underlying151
 a171:=Tryz.isAgg151
 z171:=Tryz.sizeOf151
 v171:=Tryz.zeroValue151
 t173:=Tryz.underlying154
 a173:=Tryz.isAgg154
 z173:=Tryz.sizeOf154
 v173:=Tryz.zeroValue154
 t212:=Tryz.underlying182
 a212:=Tryz.isAgg182
 z212:=Tryz.sizeOf182
 v212:=Tryz.zeroValue182
 t213:=Tryz.underlying184
 a213:=Tryz.isAgg184
 z213:=Tryz.sizeOf184
 t232:=Tryz.underlying223
 a232:=Tryz.isAgg223
 z232:=Tryz.sizeOf223
 v232:=Tryz.zeroValue223
 t233:=Tryz.underlying224
 a233:=Tryz.isAgg224
 z233:=Tryz.sizeOf224
 v233:=Tryz.zeroValue224
 g17:=by kernel_rfl
 g18:=by kernel_rfl
 g19:=by kernel_rfl
 i0:=by kernel_rfl
 i2:=by kernel_rfl
 i3:=by kernel_rfl
 i4:=by kernel_rfl
 i5:=by kernel_rfl
 i9:=by kernel_rfl
 i20:=by kernel_rfl
 i37:=by kernel_rfl
 i46:=by kernel_rfl
 i51:=by kernel_rfl
 i53:=by kernel_rfl
 i171:=by kernel_rfl
 i173:=by kernel_rfl
 i212:=by kernel_rfl
 i232:=by kernel_rfl
 i233:=by kernel_rfl
 m17:=by kernel_rfl
 m18:=by kernel_rfl
 m19:=by kernel_rfl }
def Tryz.Om:Go.Shelf.Ren:=⟨fun | 240=>35 | 276=>47 | 166=>19 | n=>n,fun | 70=>72 | 9=>9 | 3=>3 | 75=>76 | 0=>0 | 72=>74 | 37=>60 | 4=>4 | 164=>120 | 20=>20 | 80=>79 | n=>n,fun | n=>n⟩
theorem Tryz.Xz:Go.Proofs.Lays.n166 prog Tryz.Om:={
 mixed:=by kernel_rfl
 f166:=func19.trans (congrArg some (by kernel_rfl))
 f240:=func35.trans (congrArg some (by kernel_rfl))
 f276:=func47.trans (congrArg some (by kernel_rfl))
 t0:=Tryz.underlying0
 a0:=Tryz.isAgg0
 z0:=Tryz.sizeOf0
 v0:=Tryz.zeroValue0
 t3:=Tryz.underlying3
 a3:=Tryz.isAgg3
 z3:=Tryz.sizeOf3
 v3:=Tryz.zeroValue3
 t4:=Tryz.underlying4
 a4:=Tryz.isAgg4
 z4:=Tryz.sizeOf4
 v4:=Tryz.zeroValue4
 t9:=Tryz.underlying9
 a9:=Tryz.isAgg9
 z9:=Tryz.sizeOf9
 v9:=Tryz.zeroValue9
 t20:=Tryz.underlying20
 a20:=Tryz.isAgg20
 z20:=Tryz.sizeOf20
 v20:=Tryz.zeroValue20
 t37:=Tryz.underlying60
 a37:=Tryz.isAgg60
 z37:=Tryz.sizeOf60
 v37:=Tryz.zeroValue60
 t70:=Tryz.underlying72
 a70:=Tryz.isAgg72
 z70:=Tryz.sizeOf72
 v70:=Tryz.zeroValue72
 t72:=Tryz.underlying74
 a72:=Tryz.isAgg74
 z72:=Tryz.sizeOf74
 v72:=Tryz.zeroValue74
 t75:=Tryz.underlying76
 a75:=Tryz.isAgg76
 z75:=Tryz.sizeOf76
 v75:=Tryz.zeroValue76
 t164:=Tryz.underlying120
 a164:=Tryz.isAgg120
 z164:=Tryz.sizeOf120
 v164:=Tryz.zeroValue120
}
theorem Tryz.R_:Builder.Extra prog Tryz.Om where
 sizeBuilder:=by kernel_rfl
 liesBuilder:=by kernel_rfl
 t5:=Tryz.underlying5
 a5:=Tryz.isAgg5
 z5:=Tryz.sizeOf5
 v5:=Tryz.zeroValue5
 infoByte:=by kernel_rfl
 cellsByte:=by kernel_rfl
 sizeByte:=by kernel_rfl
 neB5:=by decide
theorem Tryz.Sa:Builder.Extra prog Tryz.On where
 sizeBuilder:=by kernel_rfl
 liesBuilder:=by kernel_rfl
 t5:=Tryz.underlying5
 a5:=Tryz.isAgg5
 z5:=Tryz.sizeOf5
 v5:=Tryz.zeroValue5
 infoByte:=by kernel_rfl
 cellsByte:=by kernel_rfl
 sizeByte:=by kernel_rfl
 neB5:=by decide
theorem Tryz.KF : prog.globalNamed "internal/strconv.uint64pow10" = some 0 := by kernel_rfl
instance : cH := ⟨λw I => I 0 /\ Lib.TabIs prog w "internal/strconv.uint64pow10" .u64 Lib.pow10Tab, λ{w w' I I'} h av bb => ⟨bb _ h.1, by
 have af:=h.2;unfold Lib.TabIs World.var? at af ⊢;rw [Tryz.KF] at af ⊢;simp only [Option.bind_some] at af ⊢;rw [av _ h.1];exact af⟩⟩
theorem Tryz.ZF (w : World) (I : a8) (h : cH.q w I) : Lib.TabIs prog w "internal/strconv.uint64pow10" .u64 Lib.pow10Tab := h.2
instance:K' prog 74 5:={}
instance {x s y:ByteArray}:bL prog 19 (ni x s=some y) [.obj [.self (0,74),.eV 5 (strCells x)],aw s] [some (.obj [.self (0,74),.eV 5 (strCells y)]),none] (.bQ [ae s.size,.lit .nilIface]):=⟨bY.mK Tryz.Xz Tryz.R_⟩
instance {x y:ByteArray}:bL prog 21 (wE x=some y) [.obj [.self (0,74),.eV 5 (strCells x)]] [some (.obj [.self (0,74),.dead])] (aw y):=⟨bY.dr Tryz.XA Tryz.Sa⟩
instance {n:Int}{r:ByteArray}:bL prog 20 (sO n=some r) [ae n] [none] (aw r):=⟨bY.itoa (P:=prog) Tryz.XB Tryz.ZF⟩
end Go.Proofs
