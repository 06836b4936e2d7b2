/- Parts of the proof that the last text states. -/
import Derived.ChangeAt
import Derived.ChangeOld
import Derived.ChangeSame
import Derived.Deep.Draws
import Derived.Deep.LoopGhost
import Derived.Deep.Slices
import Derived.KernelRfl
import Derived.Laws.CopyRow
import Derived.Lib.SliceRun
import Derived.Lib.SlicesCompact
import Derived.Lib.Walk
import Derived.Maps.OwnIn
import Derived.ReadAgain
import Derived.RowKit3
import Derived.Shelf.RegionOpenPlain
import Derived.Shelf.SlLaysQ
import Derived.Shelf.SlSortCmp.NoneTotal
import Derived.Shelf.SlicesE.Kit
import Derived.Shelf.SlicesQ.Load
import Derived.Shelf.Strconv.Itoa3
import Derived.Shelf.Strings.BuilderK
import Derived.Sort.WalkB12
import Derived.StringKeys
import Derived.Test.YtejfkabkakfblaaGreatDoorRows
import Derived.WalkKit
import Derived.WideShapes
import Derived.Test.YtejfkabkakfblaaGreatDoorE2
namespace Go.Own
open Go Go.RowKit Go.ChangeShapes Go.WideShapes Go.Deep
set_option linter.unusedSectionVars false
variable [cI]
variable {α β K3:Type}{P:Program}
abbrev tw (w:World) (y:ab) (u:Value):Prop:=R w (λb=>b<w.heap.size) (λ_ _=>False) y u (λ_=>False)
def l9 (w:World) (ys:List ab) (cs:List Value):Prop :=
 ys.length=cs.length/\∀ (k:Nat) (y:ab) (u:Value),ys[k]?=some y->cs[k]?=some u->u.oneCell'=true/\tw w y u
theorem l9.nil {w:World}:l9 w [] []:=⟨rfl,λ_ _ _ h=>by simp at h⟩
theorem l9.one {w:World}{y:ab}{u:Value}(h1:u.oneCell'=true) (h:tw w y u):l9 w [y] [u] :=
 ⟨rfl,λk y' wh al hu=>by
  cases k with
  | zero=>simp at al hu; subst al hu; exact ⟨h1,h⟩
  | succ k=>simp at al⟩
theorem l9.app {w:World}{ys yo:List ab}{cs jC:List Value}(h:l9 w ys cs) (af:l9 w yo jC):l9 w (ys++yo) (cs++jC):=by
 refine ⟨by simp [h.1,af.1],λk y u al hu=>?_⟩;by_cases hk:k<ys.length
 ·rw [List.getElem?_append_left hk] at al;rw [List.getElem?_append_left (h.1 ▸ hk)] at hu;exact h.2 k y u al hu
 ·rw [List.getElem?_append_right (by omega)] at al;rw [List.getElem?_append_right (by have:=h.1; omega),<- h.1] at hu;exact af.2 _ y u al hu
structure kh (P:Program) (e:bz α) (t:TypeId) (ok:α->Prop):Prop where
 z:P.cellsOf t=e.z
 go:∀ {H:Type}{enc:TypeId × Value->H}{w:World}{n:Nat}{cs:List Value}{x:DataW H × List MemPlace},
  DataW.trod enc P w 0 (λ_=>true) true n t cs=some x->∃ a,ok a/\l9 w (e.cells a) cs
theorem kh.int {e:bz Int}{t:TypeId}{k:IntKind}(aq:P.underlying t=some (.int k)) (aW:P.cellsOf t=e.z) (he:∀ n,e.cells n=[.lit (.int k n)]) :
  kh P e t (λn=>(Lit.int k n).wf=true):=by
 refine ⟨aW,λh=>?_⟩;obtain ⟨n,rfl,_,hw⟩:=DataW.trod_int aq h;exact ⟨n,hw,he n ▸ l9.one rfl (.lit rfl λ_ h=>h)⟩
theorem kh.bool {e:bz Bool}{t:TypeId}(aq:P.underlying t=some .bool) (aW:P.cellsOf t=e.z) (he:∀ n,e.cells n=[.lit (.bool n)]) :
  kh P e t (λ_=>True):=by
 refine ⟨aW,λh=>?_⟩;obtain ⟨n,rfl,_⟩:=DataW.trod_bool aq h;exact ⟨n,trivial,he n ▸ l9.one rfl (.lit rfl λ_ h=>h)⟩
theorem kh.str {e:bz ByteArray}{t:TypeId}(aq:P.underlying t=some .string) (aW:P.cellsOf t=e.z) (he:∀ n,e.cells n=[.lit (.string n)]) :
  kh P e t (λs=>s.size<=maxLen):=by
 refine ⟨aW,λh=>?_⟩;obtain ⟨n,rfl,_,hw⟩:=DataW.trod_string aq h;exact ⟨n,hw,he n ▸ l9.one rfl (.lit rfl λ_ h=>h)⟩
theorem PD (e:bz α) (aW:0<e.z):∀ (l:List α) (k:Nat) (y:ab),(bq e l)[k]?=some y->∃ a,l[k / e.z]?=some a/\(e.cells a)[k % e.z]?=some y
 | [],k,y,h=>by simp [bq] at h
 | a::l,k,y,h=>by
  have he:bq e (a::l)=e.cells a++bq e l:=by simp [bq]
  rw [he] at h;by_cases hk:k<e.z
  ·rw [List.getElem?_append_left (by rw [e.len]; exact hk)] at h;exact ⟨a,by simp [Nat.div_eq_of_lt hk],by rw [Nat.mod_eq_of_lt hk]; exact h⟩
  ·rw [List.getElem?_append_right (by rw [e.len]; omega),e.len] at h;obtain ⟨b,h1,af⟩:=PD e aW l (k - e.z) y h;have aP:k / e.z=(k - e.z) / e.z+1:=by rw [Nat.div_eq_sub_div aW (by omega)]
   refine ⟨b,by rw [aP]; simpa using h1,?_⟩;rw [Nat.mod_eq_sub_mod (by omega)]; exact af
theorem kh.slice {e:bz α}{t FW:TypeId}{ok:α->Prop}(h:kh P e FW ok) (aq:P.underlying t=some (.slice FW)) (aW:P.cellsOf t=1) (sI:0<e.z) :
  kh P (bM e) t (λl=>l.length<=maxLen/\∀ x∈l,ok x):=by
 classical
 refine ⟨aW,λ{H enc w n cs x} ah=>?_⟩;rcases open_slice aq ah with ⟨rfl,rfl⟩ | ⟨a,len,cap,m,ch,D,lM,rfl,av,aj,hm,IG,rfl,j⟩
 ·exact ⟨[],⟨by simp,by simp⟩,l9.one rfl (.hz λ_ h=>h)⟩
 ·have V0:m=cap:=by simpa using IG
  subst V0;have hex:∀ i,i<len->∃ q:α × List Value,ok q.1/\l9 w (e.cells q.1) q.2/\w.cells? 0 (a.add (i * P.cellsOf FW)) (P.cellsOf FW)=some q.2:=λi hi=>by
   obtain ⟨cs',h1,af⟩:=j i (by omega);obtain ⟨b,oB,fo⟩:=h.go af;exact ⟨(b,cs'),oB,fo,h1⟩
  by_cases aO:len=0
  ·subst aO;exact ⟨[],⟨by simp,by simp⟩,l9.one rfl (.hz λ_ h=>h)⟩
  ·obtain ⟨C1,_⟩:=hex 0 (by omega)
   haveI:Inhabited (α × List Value):=⟨C1⟩
   obtain ⟨f,aS⟩:=choose_lt hex;have hlen:((List.range len).map λi=>(f i).1).length=len:=by simp
   have nW:∀ (i:Nat) (b:α),((List.range len).map λi=>(f i).1)[i]?=some b->i<len/\b=(f i).1:=λi b hi=>by
    have aT:=(List.getElem?_eq_some_iff.1 hi).1;simp at aT;simp [aT] at hi;exact ⟨aT,hi.symm⟩
   have mm:a.spot=none/\a.block<w.heap.size:=by
    obtain ⟨_,_,aJ⟩:=aS 0 (by omega);obtain ⟨_,IB,cu⟩:=World.cells?_some aJ;have dL:=cu 0 (by rw [h.z]; exact sI);simp only [Nat.zero_mul,Addr.add,if_true] at dL;have:0<(f 0).2.length:=by rw [IB,h.z]; exact sI
    rw [List.getElem?_eq_getElem this] at dL;unfold World.cell? at dL
    split at dL
    ·rename_i bG;refine ⟨?_,(Array.getElem?_eq_some_iff.1 bG).1⟩;cases ay:a.spot with
     | none=>rfl
     | some s=>simp [ay] at dL
    ·cases dL
   have key:∀ (k:Nat) (y:ab),(bq e ((List.range len).map λi=>(f i).1))[k]?=some y->∃ u,w.cell? ⟨a.block,a.off+k,none⟩=some u/\u.oneCell'=true/\tw w y u:=λk y hk=>by
    obtain ⟨b,oB,fo⟩:=PD e sI _ k y hk;obtain ⟨hi,rfl⟩:=nW _ _ oB;obtain ⟨_,af,aJ⟩:=aS _ hi;obtain ⟨_,IB,cu⟩:=World.cells?_some aJ;have EB:k % e.z<e.z:=Nat.mod_lt _ sI;have dL:=cu (k % e.z) (by rw [h.z]; exact EB);rw [Deep.add_add,h.z] at dL;have fK:k / e.z * e.z+k % e.z=k:=by rw [Nat.mul_comm]; exact Nat.div_add_mod k e.z
    rw [fK] at dL;have aT:k % e.z<(f (k / e.z)).2.length:=by rw [IB,h.z]; exact EB
    rw [List.getElem?_eq_getElem aT] at dL;have aR:a.add k=⟨a.block,a.off+k,none⟩:=by
     unfold Addr.add;split
     ·rename_i TU; subst TU; cases a; simp at mm ⊢; exact mm.1
     ·rfl
    rw [aR] at dL;exact ⟨_,dL,af.2 _ _ _ fo (List.getElem?_eq_getElem aT)⟩
   refine ⟨(List.range len).map λi=>(f i).1,⟨by rw [hlen]; omega,λy al=>?_⟩,l9.one rfl ?_⟩
   ·obtain ⟨i,hi,rfl⟩:=List.mem_map.1 al;exact (aS i (List.mem_range.1 hi)).1
   ·show tw w (.bm e.z _ _) _;rw [hlen];refine .bm (us:=λk=>(w.cell? ⟨a.block,a.off+k,none⟩).getD .nilFunc) (λ_ h=>h) aj mm.2 mm.1 (by rw [oW,hlen]) (λk y hk=>?_) (λk y hk=>?_) (λk y hk=>?_)
    ·obtain ⟨u,h1,af,aJ⟩:=key k y hk;simp only [h1,Option.getD_some]; exact af
    ·obtain ⟨u,h1,af,aJ⟩:=key k y hk;simp only [h1,Option.getD_some]
    ·obtain ⟨u,h1,af,aJ⟩:=key k y hk;simp only [h1,Option.getD_some]; exact aJ
def A9 (P:Program):Nat->List Field->List TypeId->Bool
 | _,[],[]=>true
 | off,f::fs,t::ts=>decide (f.type=t)&&decide (f.offset=off)&&A9 P (off+P.cellsOf t) fs ts
 | _,_,_=>false
def Dg (P:Program) (t:TypeId) (ts:List TypeId):Bool :=
 match P.underlying t with
 | some (.struct fs)=>A9 P 0 fs.toList ts&&decide (P.cellsOf t=(ts.map P.cellsOf).sum)
 | _=>false
structure yr (P:Program) (cells:β->List ab) (ts:List TypeId) (ok:β->Prop):Prop where
 go:∀ {H:Type}{enc:TypeId × Value->H}{w:World}{n:Nat}{cs:List Value}{fs:List Field}{off:Nat},A9 P off fs ts=true->cs.length=off+(ts.map P.cellsOf).sum ->
  (∀ (i:Nat) (f:Field),fs[i]?=some f->∃ x,DataW.trod enc P w 0 (λ_=>true) true n f.type ((cs.drop f.offset).take (P.cellsOf f.type))=some x) ->
  ∃ b,ok b/\l9 w (cells b) (cs.drop off)
theorem yr.nil:yr P (λ_:Unit=>[]) [] (λ_=>True) :=
 ⟨λ{H enc w n cs fs off} _ aj _=>⟨(),trivial,by rw [List.drop_eq_nil_of_le (by simp at aj; omega)]; exact l9.nil⟩⟩
theorem yr.cons {e:bz α}{t:TypeId}{ts:List TypeId}{ok:α->Prop}{cells:β->List ab}{O5:β->Prop}(h:kh P e t ok) (aj:yr P cells ts O5) :
  yr P (λp:α × β=>e.cells p.1++cells p.2) (t::ts) (λp=>ok p.1/\O5 p.2):=by
 refine ⟨λ{H enc w n cs fs off} e4 hlen ah=>?_⟩;cases fs with
 | nil=>simp [A9] at e4
 | cons f fs =>
  simp only [A9,Bool.and_eq_true,decide_eq_true_eq] at e4;obtain ⟨⟨rfl,rfl⟩,e4⟩:=e4;obtain ⟨x,j⟩:=ah 0 f rfl;obtain ⟨a,aR,aY⟩:=h.go j;obtain ⟨b,av,Bl⟩:=aj.go (off:=f.offset+P.cellsOf f.type) (cs:=cs) e4 (by rw [hlen]; simp [Nat.add_assoc]) (λi eI qQ=>ah (i+1) eI (by simpa using qQ));refine ⟨(a,b),⟨aR,av⟩,?_⟩;have:cs.drop f.offset=(cs.drop f.offset).take (P.cellsOf f.type)++cs.drop (f.offset+P.cellsOf f.type):=by
   rw [<- List.drop_drop]; exact (List.take_append_drop _ _).symm
  rw [this];exact aY.app Bl
theorem kh.struct {e:bz K3}{t:TypeId}{ts:List TypeId}{cells:β->List ab}{ok:β->Prop}(h:yr P cells ts ok) (mk:β->K3) (un:K3->β) (N3:∀ b,un (mk b)=b) (aa:∀ b,e.cells (mk b)=cells b) (aq:Dg P t ts=true) (aW:P.cellsOf t=e.z) :
  kh P e t (λs=>ok (un s)):=by
 refine ⟨aW,λ{H enc w n cs x} ah=>?_⟩;unfold Dg at aq
 split at aq
 ·rename_i fs hu;simp only [Bool.and_eq_true,decide_eq_true_eq] at aq;obtain ⟨xs,ch,rfl,rfl,aj,I8,j⟩:=DataW.trod_struct hu ah;obtain ⟨b,av,aY⟩:=h.go (w:=w) (off:=0) (cs:=cs) (fs:=fs.toList) (n:=ch) (enc:=enc) aq.1 (by rw [aj,aq.2]; simp) (λi f aS=>by
   have qQ:fs[i]?=some f:=by simpa using aS
   have hi:i<xs.length:=by rw [I8]; exact (Array.getElem?_eq_some_iff.1 qQ).1
   exact ⟨xs[i],by rw [j i f qQ,List.getElem?_eq_getElem hi]⟩)
  exact ⟨mk b,by rw [N3]; exact av,by rw [aa]; simpa using aY⟩
 ·cases aq
inductive Ao (w:World):ab->Value->Prop
 | mk {y:ab}{v:Value}(h:tw w y v):Ao w y v
theorem kh.one {e:bz α}{t:TypeId}{ok:α->Prop}{g:α->ab}(h:kh P e t ok) (he:∀ a,e.cells a=[g a]) {H:Type}{enc:TypeId × Value->H}{w:World}{v:Value}{d:DataW H}{p:List MemPlace}(hv:v.cells.toList=[v])
  (aq:DataW.Trod enc P w 0 (λ_=>true) true t v d p):∃ a,ok a/\Ao w (g a) v:=by
 obtain ⟨n,aA⟩:=aq;obtain ⟨a,aR,aY⟩:=h.go aA;refine ⟨a,aR,.mk ?_⟩;rw [hv,he] at aY;exact (aY.2 0 _ _ rfl rfl).2
theorem kh.O6 {e:bz ByteArray}{t:TypeId}{ok:ByteArray->Prop}{g:ByteArray->ab}(h:kh P e t ok) (he:∀ a,e.cells a=[g a]) (hu:P.underlying t=some .string) {H:Type}{enc:TypeId × Value->H}{w:World}{v:Value}{d:DataW H}{p:List MemPlace}{base:Nat}(hv:Value.okWide P w .any base t v)
  (aq:DataW.Trod enc P w 0 (λ_=>true) true t v d p):∃ a,ok a/\Ao w (g a) v:=by
 obtain ⟨n,rfl⟩:=okWide_string hu hv;exact h.one he rfl aq
theorem kh.X8 {e:bz α}{t:TypeId}{ok:α->Prop}{ts:List TypeId}(h:kh P e t ok) (e4:Dg P t ts=true) {H:Type}{enc:TypeId × Value->H}{w:World}{v:Value}{d:DataW H}{p:List MemPlace}{base:Nat}(hv:Value.okWide P w .any base t v)
  (aq:DataW.Trod enc P w 0 (λ_=>true) true t v d p):∃ a,ok a/\Ao w (.agg (e.cells a)) v:=by
 have hu:∃ fs,P.underlying t=some (.struct fs):=by
  unfold Dg at e4
  split at e4
  ·exact ⟨_,by assumption⟩
  ·cases e4
 obtain ⟨fs,hu⟩:=hu;obtain ⟨cs,rfl,gR⟩:=okWide_struct hu hv;obtain ⟨n,aA⟩:=aq;obtain ⟨a,aR,aY⟩:=h.go aA;refine ⟨a,aR,.mk ?_⟩;have jl:l9 w (e.cells a) cs.toList:=aY;refine .agg (Fs:=λ_ _=>False) (by simpa using jl.1) (λk u hu=>?_) (λk x u j hu=>(jl.2 k x u j (by simpa using hu)).2) (λ_ _ _ _ _ h=>h.elim) (λc=>⟨λh=>h.elim,λ⟨_,_,h⟩=>h⟩);have hk:k<(e.cells a).length:=by rw [jl.1]; simpa using (Array.getElem?_eq_some_iff.1 hu).1
 exact (jl.2 k _ u (List.getElem?_eq_getElem hk) (by simpa using hu)).1
inductive uX (w:World):List ab->List Value->Prop
 | nil:uX w [] []
 | cons {y:ab}{v:Value}{ys:List ab}{vs:List Value}(h:Ao w y v) (ay:uX w ys vs):uX w (y::ys) (v::vs)
theorem uX.get {w:World}{ys:List ab}{vs:List Value}(h:uX w ys vs):ys.length=vs.length/\∀ (k:Nat) (y:ab),ys[k]?=some y->∃ v,vs[k]?=some v/\tw w y v:=by
 induction h with
 | nil=>exact ⟨rfl,λk y h=>by simp at h⟩
 | cons h _ aM =>
  refine ⟨by simp [aM.1],λk y al=>?_⟩;cases k with
  | zero =>
   simp at al; subst al;obtain ⟨h⟩:=h;exact ⟨_,rfl,h⟩
  | succ k=>simpa using aM.2 k y (by simpa using al)
theorem uX.Zw {w:World}{ys:List ab}{vs:List Value}(h:uX w ys vs) (au:ys.all (λy=>match y with | .bB ..=>false | _=>true)=true) (iI:cI.q w λb=>b<w.heap.size) :
  cF w (λb=>b<w.heap.size) vs.toArray (pf ys) (λ_=>ct):=by
 refine ⟨λt x j=>?_,λ_ _ _ h=>h,λ_ _ _ h=>h.elim,λ_ _ h=>h.elim,λ_ h=>h,λt t' z p n m new bs ch bh cQ h1 _=>?_,iI⟩
 ·obtain ⟨v,hv,aY⟩:=h.get.2 t x j;exact ⟨v,by simpa using hv,.tree (aY.frame (λ_ _=>rfl) (λ_ h=>h) (λ_ _ h=>h.elim) (λ_ _=>rfl))⟩
 ·have:=List.all_eq_true.1 au _ (List.mem_of_getElem? h1);cases this
structure Lc (w w':World):Prop where
 kept:∀ may:MemPlace->Prop,w.keptBut w' may
 dS:∀ a,a.block<w.heap.size->w'.frozen? a=w.frozen? a
theorem b1.Z_ {f:FuncId}{ys:List ab}{vs:List Value}{outs:List (Option ab)}{r:Value}(aa:b1 P f ys outs (.lit r)) (w:World) (h:uX w ys vs) (au:ys.all (λy=>match y with | .bB ..=>false | _=>true)=true) (iI:cI.q w λb=>b<w.heap.size) :
  Calls P f vs.toArray w λe w'=>e=.returned r/\Lc w w'/\∀ i:Nat,i<w.heap.size->w'.heap[i]?=w.heap[i]?:=by
 have:=aa.2 w _ vs _ h.get.1.symm (h.Zw au iI);refine this.mono ?_;rintro e w' ⟨v,I',b2,rfl,bn,bT⟩;obtain ⟨u,hu,aY⟩:=bn.rel outs.length (.lit r) (by simp [lZ]);have aj:outs.length=vs.length:=by rw [aa.1]; exact h.get.1
 have EM:u=v:=by
  rw [aj] at hu;simpa using hu.symm
 subst EM;have hv:=(aY.hd (by simp)).h'.1;subst hv;have av:∀ i:Nat,i<w.heap.size->w'.heap[i]?=w.heap[i]?:=λi hi=>bT.dF.block i hi λ⟨_,h⟩=>h;have hk:World.keptBut w w' (λ_=>False):=⟨bT.dF.os,bT.dF.output,λi hi=>by
  rw [av i hi];exact (World.keptBut_refl w (λ_=>False)).2.2 i hi⟩
 exact ⟨rfl,⟨λmay=>World.keptBut_mono (λ_ f=>f.elim) hk,λa aR=>bT.dF.dS a aR λ⟨_,h⟩=>h⟩,av⟩
theorem Qr {H:Type}{enc:TypeId × Value->H}{w w':World}{base:Nat}{sp:Nat->Bool}{held:Bool}(av:∀ i:Nat,i<w.heap.size->w'.heap[i]?=w.heap[i]?) :
  ∀ {ts:List TypeId}{vs:List Value}{jC:List (DataW H)}{ps:List MemPlace},DataW.TrodAll enc P w base sp held ts vs jC ps->DataW.TrodAll enc P w' base sp held ts vs jC ps
 | [],[],[],_,h=>h
 | _::_,_::_,_::_,_,⟨p,q,⟨n,aA⟩,af,e⟩=>by
  refine ⟨p,q,⟨n,DataW.trod_carry n _ _ _ aA λx j=>?_⟩,Qr av af,e⟩;have aT:=DataW.trod_lt n _ _ _ aA x j;cases x with
  | cell b off =>
   show w'.cell? _=w.cell? _;exact World.cell?_of_block (av b aT)
  | map b=>exact av b aT
theorem RQ {H:Type}{enc:TypeId × Value->H}{w w':World}(aj:laidOutB P=true) (hm:mapsRowed P=true)
  (aW:((List.range P.types.size).all λt=>match P.underlying t with | some (.slice e)=>decide (0<P.cellsOf e) | _=>true)=true)
  (av:∀ i:Nat,i<w.heap.size->w'.heap[i]?=w.heap[i]?) {ts:List TypeId}{vs:List Value}{jC:List (DataW H)}{ps:List MemPlace}(aq:ts.all (λt=>decide (t<P.types.size))=true)
  (h:DataW.TrodAll enc P w 0 (λ_=>true) true ts vs jC ps) {sp:Nat->Bool}(mm:∀ p∈ps,sp p.block=true):DataW.TrodAll enc P w' 0 sp true ts vs jC ps :=
 (Qr av h).respare (kids_rows aj hm) (slices_full_of P aW) (λt h=>of_decide_eq_true (List.all_eq_true.1 aq t h)) mm
end Go.Own
namespace Go.Own
open Go
set_option linter.unusedSectionVars false
variable [cI]
section
variable {α β:Type}{P:Program}{N:cS}{g g1:aK}{p:Place}{m:Int}{a b:Operand}{t:TypeId}
theorem ab.LL:∀ (l:List Nat) {x nd:ab}{k:Nat}{c:ab},x.at l=some nd->nd.kids[k]?=some c->x.at (l++[k])=some c
 | [],x,nd,k,c,h,hk=>by
  simp only [ab.at,Option.some.injEq] at h;subst h;simp [ab.at,hk]
 | J::l,x,nd,k,c,h,hk=>by
  simp only [ab.at] at h;cases ai:x.kids[J]? with
  | none=>rw [ai] at h; cases h
  | some y =>
   rw [ai] at h;simp only [List.cons_append,ab.at,ai];exact ab.LL l h hk
theorem ab.PZ:∀ (l:List Nat) {x nd:ab}{k:Nat}{c:ab}(y:ab),x.at l=some nd->nd.kids[k]?=some c->x.setAt (l++[k]) y=x.setAt l (nd.uM k y)
 | [],x,nd,k,c,y,h,hk=>by
  simp only [ab.at,Option.some.injEq] at h;subst h;simp [ab.setAt,hk]
 | J::l,x,nd,k,c,y,h,hk=>by
  simp only [ab.at] at h;cases ai:x.kids[J]? with
  | none=>rw [ai] at h; cases h
  | some z =>
   rw [ai] at h;simp only [List.cons_append,ab.setAt,ai];rw [ab.PZ l y h hk]
theorem Mw {en:bz α}{L:List α}{iM:α}{o:Nat}{c:ab}(h:idx L m=some iM) (aa:(en.cells iM)[o]?=some c):(ao en L).kids[m.toNat * en.z+o]?=some c:=PB en h aa
theorem u7 {en:bz α}{L:List α}{iM:α}{r o:Nat}{path:List Nat}{c:ab}(au:bu g ⟨r,path⟩=some (ao en L)) (h:idx L m=some iM) (aa:(en.cells iM)[o]?=some c):bu g ⟨r,path++[m.toNat * en.z+o]⟩=some c:=by
 unfold bu at au ⊢;simp only at au ⊢;cases j:g r with
 | none=>rw [j] at au; cases au
 | some x =>
  rw [j] at au;exact ab.LL path au (Mw h aa)
theorem Zk {en:bz α}{L:List α}{iM:α}{r o:Nat}{path:List Nat}{c:ab}(y:ab) (au:bu g ⟨r,path⟩=some (ao en L)) (h:idx L m=some iM) (aa:(en.cells iM)[o]?=some c) :
  cj g ⟨r,path++[m.toNat * en.z+o]⟩ y=cj g ⟨r,path⟩ (.own en.z L.length ((bq en L).set (m.toNat * en.z+o) y)):=by
 funext s;unfold cj;simp only;split
 ·rename_i e;subst e;unfold bu at au;simp only at au;cases j:g s with
  | none=>rfl
  | some x =>
   rw [j] at au;simp only [Option.map_some,Option.some.injEq];rw [ab.PZ path y au (Mw h aa)];rfl
 ·rfl
theorem Zu (l:List ab) (k:Nat) (x c:ab):eK (l.set k x) k [c]=eK l k [c]:=by
 unfold eK;simp only [List.length_singleton];rw [List.take_set,List.drop_set];rw [List.set_eq_of_length_le (by simp; omega)];simp
theorem br.Df {hn:Oper}{en:bz α}{en2:bz β}{L:List α}{iM y2:α}{qF M R:List β}{o s JO:Nat}{new cQ:List ab}{x2 y0:ab}{G2:List (Nat × ab)}
  (aU:hn.op=.store t a b) (aP:hn.dst=none) (aR:Rd g a (.ptr p (m.toNat * en.z+o))) (av:Rd g b (.bg en2.z ⟨s,[]⟩ (qF.length+JO)))
  (p_:g s=some (.bB en2.z ⟨p.root,p.path++[m.toNat * en.z+o]⟩ qF.length JO new)) (au:bu g p=some (ao en L)) (h:idx L m=some iM) (mh:(en.cells iM)[o]?=some (ao en2 qF)) (a7:Nat.beq p.root s=false)
  (h1:eV (cj (cj g ⟨s,[]⟩ .dead) p (.own en.z L.length ((bq en L).set (m.toNat * en.z+o) .dead))) new cQ g1)
  (nV:fG cQ (bq en2 M)) (hm:M.length=JO) (aY:qF++M=R) (aW:hs P t 1=true)
  (vq:bu g1 p=some (.own en.z L.length ((bq en L).set (m.toNat * en.z+o) .dead)))
  (he:eK (en.cells iM) o [ao en2 R]=en.cells y2) (hlen:Nat.ble (o+1) en.z=true)
  (kc:cj g1 p (ao en (L.set m.toNat y2)) p.root=some x2) (ah:(get G2 p.root).isSome=true) (vE:g1 p.root=some y0) [e6:b4 y0] (c_:lp g1 (get G2) p.root x2 G2):br P N g hn (get G2):=by
 subst hm aY;have BC:=Nat.le_of_ble_eq_true hlen;have mm:=PA en (cs':=[ao en2 (qF++M)]) h he (by simpa using BC);have rO:(L.set m.toNat y2).length=L.length:=List.length_set;have EH:=Nat.ne_of_beq_eq_false a7;have Br:bu g ⟨p.root,p.path++[m.toNat * en.z+o]⟩=some (ao en2 qF):=u7 (g:=g) (r:=p.root) (path:=p.path) au h mh;have Wb:bu (cj g ⟨s,[]⟩ .dead) p=some (ao en L):=by
  unfold bu at au ⊢;rw [ya (p:=⟨s,[]⟩) (λe=>EH e)]; exact au
 have aq:eV g [.bg en2.z ⟨s,[]⟩ (qF.length+M.length)] [.own en2.z (qF.length+M.length) (bq en2 qF++cQ)] g1:=by
  refine .ih p_ Br a7 ?_ .nil;rw [Zk .dead (r:=p.root) (path:=p.path) Wb h mh];exact h1
 have hk:m.toNat * en.z+o+1<=L.length * en.z:=by
  obtain ⟨C1,kN,_⟩:=r4 h;have af:m.toNat+1<=L.length:=by omega
  calc m.toNat * en.z+o+1<=m.toNat * en.z+en.z:=by omega
   _=(m.toNat+1) * en.z:=by rw [Nat.add_mul]; omega
   _<=L.length * en.z:=Nat.mul_le_mul_right _ af
 refine .store aU aP aR.bo av.bo aq.take (y':=ao en2 (qF++M)) ?_ rfl aW (p:=p) (nd:=.own en.z L.length ((bq en L).set (m.toNat * en.z+o) .dead)) (z:=en.z) (n:=L.length) (cs:=(bq en L).set (m.toNat * en.z+o) .dead) vq (.inl rfl) ?_ (by simp) (λt x j=>?_) (λt x j y al=>?_) (λt z q n m new j=>?_) (by intro e; rw [e] at ah; cases ah)
 ·rw [<- oT]; exact (nV.pre _).own
 ·simp only [List.length_singleton,List.length_set,oW]; exact hk
 ·have fj:(ab.own en.z L.length ((bq en L).set (m.toNat * en.z+o) .dead)).eK (m.toNat * en.z+o) [ao en2 (qF++M)]=ao en (L.set m.toNat y2):=by
   show ab.own en.z L.length (eK ((bq en L).set (m.toNat * en.z+o) .dead) (m.toNat * en.z+o) [ao en2 (qF++M)])=_;unfold ao at mm ⊢;rw [Zu,mm,rO]
  rw [fj];rcases c_.spec t x j with ⟨h1,af,_⟩ | ⟨h1,af,_⟩
  ·rw [ya h1]; exact af
  ·subst h1 af; exact kc
 ·rcases c_.spec t x j with ⟨h1,af,aJ⟩ | ⟨h1,af,aJ⟩
  ·rw [af] at al; cases al;rcases aJ with aJ | ⟨aJ,c2,rfl⟩
   ·exact aJ.Kg
   ·refine ki.ref (by cases aJ; rfl) ⟨aJ.O3,aJ.clear ?_,aJ.JW⟩;intro e;obtain ⟨gj,pp⟩:=p;simp only at e;subst e;simp only [cj,if_true,vE,Option.map_some,ab.setAt,Option.some.injEq] at kc;cases kc
  ·subst h1; rw [vE] at al; cases al; exact .bl e6.bl
 ·rcases c_.spec t _ j with ⟨_,_,aJ | ⟨aJ,_⟩⟩ | ⟨_,_,aJ⟩
  ·exact aJ.fk _ _ _ _ _ rfl
  ·exact aJ.fk _ _ _ _ _ rfl
  ·cases aJ
end
end Go.Own
/- Short forms for printed walks. -/
namespace Go.Own
open Go
set_option linter.unusedSectionVars false
variable [cI]
section
variable {P:Program}{N:cS}{ops:Array Oper}{a':List (List Nat)}{g g0:aK}{K:aK->Prop}{l:List Oper}{acc:Acc}{d i:Nat}{op:Op}{ty:TypeId}{pos:String}{after:Array Edge}{x:ab}
theorem ax (au:b7 P g op ty x) (hk:aC P N ops l (cK g d x) K) (a_:N.ok d=true:=by rfl) (aS:g d=none:=by rfl):aC P N ops (⟨some d,op,ty,pos,after,none⟩::l) g K:=.v au a_ aS .none hk
theorem gM (au:cV P g op x) (hk:aC P N ops l (cK g d x) K) (a_:N.ok d=true:=by rfl) (aS:g d=none:=by rfl):aC P N ops (⟨some d,op,ty,pos,after,none⟩::l) g K:=.c au a_ aS .none hk
theorem aF (bw:Nat) (au:b7 P (jv a' g0 bw acc) op ty x) (hk:bE P N ops a' g0 i ((bw,d,some x)::acc) l K) (ai:Nat.beq ops.size (bw+l.length+1)=true:=by rfl) (aS:g0 d=none:=by rfl) (aA:acc.all (λe=>!Nat.beq e.2.1 d)=true:=by rfl) (a_:N.ok d=true:=by rfl) :
  bE P N ops a' g0 i acc (⟨some d,op,ty,pos,after,none⟩::l) K:=.v bw au ai aS aA a_ .none hk
theorem lK (bw:Nat) (au:cV P (jv a' g0 bw acc) op x) (hk:bE P N ops a' g0 i ((bw,d,some x)::acc) l K) (ai:Nat.beq ops.size (bw+l.length+1)=true:=by rfl) (aS:g0 d=none:=by rfl) (aA:acc.all (λe=>!Nat.beq e.2.1 d)=true:=by rfl) (a_:N.ok d=true:=by rfl) :
  bE P N ops a' g0 i acc (⟨some d,op,ty,pos,after,none⟩::l) K:=.c bw au ai aS aA a_ .none hk
end
instance {z n:Nat}{cs:List ab}:mW (.own z n cs):=⟨by simp⟩
def aL (a n:Nat) (l:List Nat):List Nat:=List.range' a n++l
end Go.Own
namespace Go.Own
open Go
set_option linter.unusedSectionVars false
variable [cI]
section
variable {α:Type}{P:Program}{N:cS}{g:aK}{d r:Nat}{ty:TypeId}
instance {fn:Fn}{cs:List ab} [h:dh cs]:b4 (.dj fn [] cs):=⟨.dj (by simp) h.bl⟩
theorem O.Fc {fn:Fn}{caps:List Operand}{b:List ab}(av:Own.fC g caps=some b):b7 P g (.makeFunc fn #[] caps.toArray) ty (.dj fn [] b):=.Cx (.makeFunc rfl (by simpa using av))
theorem View.cl {fn:Fn}{cs cs':List ab}(h:ot g cs cs'):View g (.dj fn [] cs) (.dj fn [] cs'):=.dj h.len h.get
theorem hY.jU {o:Oper}{xs:List Operand}{ga:Array TypeId}{f:FuncId}{ys args:List ab}{res:ab}{en:bz α}{L hL:List α}{G2:List (Nat × ab)}(aU:o.op=.call { callee:=.value (.func f),args:=xs.toArray,argTypes:=ga }) (aP:o.dst=some d) (j:Own.fC g xs=some (.bg en.z ⟨r,[]⟩ L.length::ys))
  (ay:g r=some (ao en L)) (hv:ot (get ((r,.dead)::G2)) ys args) (hb:b1 P f (ao en L::args) (some (ao en hL)::args.map λ_=>none) res) (aS:jB P f=true) [ah:oj res] [ns:oj (ao en hL)]
  (c_:Trim false (cj g ⟨r,[]⟩ .dead) (get ((r,.dead)::G2)) G2) (aN:get G2 d=none) (rR:Nat.beq r d=false) (Bh:Trim false (get ((r,ao en hL)::G2)) (get ((r,ao en hL)::G2)) G2) (a_:N.ok d=true) :
  hY P N g o d (get ((d,res)::(r,ao en hL)::G2)):=by
 have BN:r≠d:=Nat.ne_of_beq_eq_false rR;have Hj:get ((r,ab.dead)::G2) r=some .dead:=by simp [get]
 have mK:∀ x∈bq en L,cE x:=by
  intro x j;obtain ⟨a,_,aR⟩:=List.mem_flatMap.1 j;exact en.bl a x aR
 have fu:(bq en L).take (L.length * en.z)=bq en L:=List.take_of_length_le (by rw [oW]; exact Nat.le_refl _);have xv:hx (cj g ⟨r,[]⟩ .dead) (get ((r,.dead)::G2)):=by
  refine ⟨λt x h=>?_,λt x h=>?_,λt z q n m new h=>?_⟩
  all_goals
   simp only [get] at h
   split at h
  ·rename_i e; subst e; cases h; simp [cj,ay,ab.setAt]
  ·obtain ⟨⟨y,h1,_,aJ⟩,_⟩:=c_.spec t x h; rw [<- aJ rfl]; exact h1
  ·cases h; exact .bl .dead
  ·exact (c_.spec t x h).2.1
  ·cases h
  ·exact (c_.spec t _ h).2.2 _ _ _ _ _ rfl
 have put:qp (get ((r,.dead)::G2)) [(⟨r,[]⟩,ao en hL)]=get ((r,ao en hL)::G2):=by
  funext t;simp only [qp,cj,get];by_cases h:t=r
  ·simp [h,ab.setAt]
  ·simp [h]
 have xw:hx (get ((r,ao en hL)::G2)) (get ((r,ao en hL)::G2)):=by
  refine ⟨λt x h=>h,λt x h=>?_,λt z q n m new h=>?_⟩
  all_goals
   simp only [get] at h
   split at h
  ·cases h; exact .bl ns.k'.bl
  ·exact (Bh.spec t x h).2.1
  ·cases h
  ·exact (Bh.spec t _ h).2.2 _ _ _ _ _ rfl
 have aj:=hv.len;have qO:get ((d,res)::(r,ao en hL)::G2)=cK (get ((r,ao en hL)::G2)) d res:=by
  funext t;rw [sz]
 rw [qO];refine yx.ok (first:=[]) (caps:=[]) (ys:=.bg en.z ⟨r,[]⟩ L.length::ys) (tk:=λk=>k == 0) (vw:=true) (outs:=some (ao en hL)::args.map λ_=>none) (g1:=cj g ⟨r,[]⟩ .dead) (g2:=get ((r,.dead)::G2)) (g4:=get ((r,ao en hL)::G2)) (l:=[(⟨r,[]⟩,ao en hL)]) (ks:=λ_=>0) (xs0:=.bg en.z ⟨r,[]⟩ L.length::ys.map λ_=>.dead) (xs1:=ao en L::ys.map λ_=>.dead) (args:=ao en L::args) (res:=res) aU aP rfl (by simpa using j)
  ⟨aS,by simp,by simpa using aj,λk x h=>?_,?_,xv,λk x y j al=>?_,hb,by simpa using ah.k',λk x h=>?_,λJ p x ai=>?_,by simp,λi J hi ai _=>by simp at hi ai; omega,by rw [put]; exact xw⟩ ?_ a_ wu.refl
 ·simp only [List.nil_append,List.append_nil] at h;cases k with
  | zero=>exact .inl h
  | succ k =>
   refine .inr ?_;simp only [List.getElem?_cons_succ] at h ⊢;rw [List.getElem?_map,h]; rfl
 ·have h1:Take (cj g ⟨r,[]⟩ .dead) ((bq en L).take (L.length * en.z)) (bq en L) (cj g ⟨r,[]⟩ .dead):=by rw [fu]; exact .bl mK
  refine .bg (N:=L.length) (by simp [bu,ay,ab.at]) (Nat.le_refl _) h1 (.bl λx j=>?_);obtain ⟨_,_,rfl⟩:=List.mem_map.1 j;exact .dead
 ·simp only [List.nil_append,List.append_nil] at j;cases k with
  | zero=>simpa using al
  | succ k =>
   simp only [List.getElem?_cons_succ] at j al;exact ⟨rfl,hv.get k x y j al⟩
 ·cases k with
  | zero=>simp only [List.getElem?_cons_zero,Option.some.injEq] at h; subst h; exact ns.k'
  | succ k =>
   simp only [List.getElem?_cons_succ,List.getElem?_map] at h;cases aR:args[k]? <;> rw [aR] at h <;> cases h
 ·cases J with
  | succ J=>simp at ai
  | zero =>
   simp only [List.getElem?_cons_zero,Option.some.injEq,Prod.mk.injEq] at ai;obtain ⟨rfl,rfl⟩:=ai;exact ⟨rfl,by simp [bu,Hj,ab.at],.inl ⟨en.z,L.length,bq en L,rfl,by simp [bu,ay,ab.at]⟩,λ_ h=>by cases h⟩
 ·simp only [get,if_neg (Ne.symm BN)]; exact aN
end
end Go.Own
namespace Go.Own
open Go Go.Proofs Go.Shelf Go.Lib Go.Sort
set_option linter.unusedSectionVars false
variable [cI]
section
variable {P:Program}{w:World}
end
end Go.Own
namespace Go.Own
open Go
set_option linter.unusedSectionVars false
variable [cI]
section
variable {α:Type}{P:Program}{N:cS}{g g1 g2 g3:aK}{ops:Array Oper}{a':List (List Nat)}{acc:Acc}{l:List Oper}{K:aK->Prop}{i d r:Nat}
theorem cF.settle {w:World}{I:a8}{T:Array Value}{Fs:Nat->a8}(h:cF w I T g Fs) (a:Act) (aR:a.tmps=T) {ts:List Nat}{xs ys:List ab}(j:Own.fC g (ts.map Operand.tmp)=some xs) (aq:Take g xs ys g1) (fj:ts.Nodup) (aj:ys.length=ts.length) (aP:∀ t∈ts,g1 t=some .dead)
  (hk:hx (qp g1 ((ts.map λt=>(⟨t,[]⟩:Place)).zip ys)) g2):∃ b2,cF w I T g2 b2/\∀ c,(∃ t,b2 t c)->∃ t,Fs t c:=by
 obtain ⟨I8,W8⟩:=zH h aR j;have W7:xs.length=ts.length:=by rw [I8,List.length_map]
 have hand:Hand w I (fH w T) Fs xs (ts.map λt=>a.eval (.tmp t)) (λ_=>ct):=by
  refine ⟨by rw [W7,List.length_map],λk x u qc hu=>?_,λ_ _ _ _ _ h=>h.elim,λ_ _ _ _ h=>h.elim,λ_ _ _ h=>h.elim⟩;rw [List.getElem?_map] at hu;cases fu:ts[k]? with
  | none=>rw [fu] at hu; cases hu
  | some t =>
   rw [fu] at hu; cases hu;exact (W8 k x (.tmp t) qc (by rw [List.getElem?_map,fu]; rfl)).frame (λ_ _=>rfl) (λ_ h=>h) (λ_ _ h=>h.1) λ_ _=>rfl
 obtain ⟨fF,H1,iW,ix,hj⟩:=aq.sound h.mw hand;have uw:((ts.map λt=>(⟨t,[]⟩:Place)).zip ys).length=ts.length:=by rw [List.length_zip,List.length_map,aj]; exact Nat.min_self _
 obtain ⟨iQ,h7,aH⟩:=jy.qp ((ts.map λt=>(⟨t,[]⟩:Place)).zip ys) H1 (λJ=>((ts.map λt=>a.eval (.tmp t))[J]?).getD undef) iW (by
   rw [List.map_fst_zip (by rw [List.length_map,aj]; exact Nat.le_refl _)];exact List.Pairwise.map _ (λa b h e=>h (congrArg Place.root e)) fj) (λJ p x ai=>by
   rw [List.getElem?_zip_eq_some] at ai;obtain ⟨h1,af⟩:=ai;rw [List.getElem?_map] at h1;cases fu:ts[J]? with
   | none=>rw [fu] at h1; cases h1
   | some t =>
    rw [fu] at h1; cases h1;have Nv:=aP t (List.mem_of_getElem? fu);obtain ⟨v,hv,_⟩:=iW.rel t .dead Nv;have rM:a.eval (.tmp t)=v:=by simp [Act.eval,aR,hv]
    have IU:(ts.map λt=>a.eval (.tmp t))[J]?=some v:=by rw [List.getElem?_map,fu]; simp [rM]
    refine ⟨by simp [bu,Nv,ab.at],?_,?_,λi e=>?_⟩
    ·rw [IU];show dU w T ⟨t,[]⟩=some v;unfold dU;simp only [hv,walk]
    ·rw [IU];exact ix.rel J x v af IU
    ·subst e; exact O8 j J i (aq.self J i af)) (λJ t c ai aa=>ix.off J t c (by omega) aa) (λJ c ai aa=>ix.bm J c (by omega) aa) (λi J c hi ai h1 af=>ix.eu i J c (by omega) (by omega) h1 af)
 refine ⟨_,h7.keep hk,λc ⟨t,_,aa⟩=>?_⟩;have:lj fF ys.length H1 c:=by
  rcases aH t c aa with h | ⟨J,ai,h⟩
  ·exact .inl ⟨t,h⟩
  ·exact .inr ⟨J,by omega,h⟩
 rcases hj c this with h | ⟨_,_,h⟩
 ·exact h
 ·exact h.elim
theorem iE.settle {o:Oper}{ts:List Nat}{xs ys:List ab}(j:Own.fC g (ts.map Operand.tmp)=some xs) (aq:Take g xs ys g1) (fj:ts.Nodup) (aj:ys.length=ts.length) (aP:∀ t∈ts,g1 t=some .dead)
  (hk:hx (qp g1 ((ts.map λt=>(⟨t,[]⟩:Place)).zip ys)) g2) (he:iE P N g2 o g3):iE P N g o g3:=by
 intro w I T Fs bn a aR a_ K Q c6;obtain ⟨b2,dZ,fy⟩:=bn.settle a aR j aq fj aj aP hk;refine he w I T b2 dZ a aR a_ K Q λbZ w' aA aq=>c6 bZ w' ?_ aq;obtain ⟨cr,b9,I',iQ,h1,af⟩:=aA;exact ⟨cr,b9,I',iQ,h1,kX.trans ⟨Fr.refl _ _,λ_ h=>h,λ_ h=>.inl h,λc h=>.inl (fy c h)⟩ af⟩
theorem Rz {Q:Nat->Prop}{a:Nat}(aR:Q a):∀ t∈[a],Q t:=λt aq=>by rw [List.mem_singleton.1 aq]; exact aR
theorem AJ {Q:Nat->Prop}{a b:Nat}(aR:Q a) (av:Q b):∀ t∈[a,b],Q t:=λt aq=>by
 rcases List.mem_cons.1 aq with rfl | aq
 ·exact aR
 ·rw [List.mem_singleton.1 aq]; exact av
def Fy (p q:Place):Bool:=Nat.beq p.root q.root&&p.path == q.path
def Co:List Place->Bool
 | []=>true
 | x::l=>l.all (λy=>!Fy x y)&&Co l
theorem OK:∀ {l:List Place},Co l=true->l.Nodup
 | [],_=>List.nodup_nil
 | p::l,h=>by
  simp only [Co,Bool.and_eq_true,List.all_eq_true] at h;refine List.nodup_cons.2 ⟨λhm=>?_,OK h.2⟩;have:=h.1 p hm;simp [Fy] at this
def XV (p:Place) (acc:Acc):Bool:=acc.all λe=>match jV e with | some q=>!Fy p q | none=>true
theorem zF {p:Place}{G:List (Nat × ab)}{A:Nat->Bool}(h:XV p acc=true) (c_:lY G=true):∀ t z n m new,c3 (get G) A acc t≠some (.bB z p n m new):=by
 intro t z n m new e;rcases uS e with ⟨b_,he,h1,_,af⟩ | ⟨_,af⟩
 ·have:=List.all_eq_true.1 h b_ he;obtain ⟨k,d,x⟩:=b_;simp only at af;subst af;simp [jV,Fy] at this
 ·exact vO c_ _ _ _ _ _ _ af
theorem O.wC {en:bz α}{L M r:List α}{y:ab}{e gr:Nat}{a b:Operand}{p:Place}{t ty:TypeId}(ay:Rd g a (.bg en.z p L.length)) (au:bu g p=some (ao en L)) (j:Rd g b y) (hm:nL g en y M) (aq:jM P t e en.z gr=true) (av:Nat.ble gr 128=true) (h:da L M=some r) (e6:∀ t z n m new,g t≠some (.bB z p n m new)) :
  b7 P g (.call { callee:=.builtin .append,args:=#[a,b],argTypes:=#[t,t] }) ty (.bB en.z p L.length M.length (bq en M)):=by
 obtain ⟨h1,af,_⟩:=yR h av;exact .lE (.grow ay.bo (.inl ⟨_,au⟩) (λt bs ch bh cQ e=>e6 _ _ _ _ _ e) j.bo hm.src aq h1 af)
theorem bE.mE (bw:Nat) {G G2:List (Nat × ab)}{o:Oper}(he:iE P N (c3 (get G) (λm=>(a'.getD bw []).contains m) acc) o (get G2)) (aN:o.guard=none) (gw:Co (acc.filterMap jV)=true) (fB:lY G=true) (ai:Nat.beq ops.size (bw+l.length+1)=true)
  (fy:acc.filter (λe=>!(a'.getD bw []).contains e.1)=[])
  (av:(List.range ops.size).all (λk=>Nat.ble k bw||(a'.getD k []).contains bw)=true) (hk:bE P N ops a' (get G2) (bw+1) [] l K):bE P N ops a' (get G) i acc (o::l) K:=by
 intro dK J cb kH kE;have:=y7 kE ai;subst this;obtain ⟨h1,af⟩:=drop_cons kE;obtain ⟨g',ah,c6⟩:=hk [] (J+1) .nil .nil af;refine ⟨g',.wG (U:=[]) (rs:=sc []) kH (OK gw) (vO fB) h1 ?_ he.v (λp au=>by simp [sc] at au) fy.symm (by simp) (by simp) (by simp) ?_ ah,c6⟩
 ·unfold ir; rw [aN]
 ·refine List.all_eq_true.2 λk hk=>?_;have:=List.all_eq_true.1 av k hk;simp only [Bool.or_eq_true,decide_eq_true_eq,Nat.ble_eq] at this ⊢;exact this
theorem iE.cell {o:Oper}{r k0:Nat}{y:ab}{cs:List ab}{g5:aK}(ah:g r=some (.obj cs)) (al:cs[k0]?=some y) (xm:cE y)
  (vp:∀ v:Value,v.oneCell'=true->∃ g1 g4,hx (cj g ⟨r,[k0]⟩ (.lit v)) g1/\iE P N g1 o g4/\bu g4 ⟨r,[k0]⟩=some (.lit v)/\hx (cj g4 ⟨r,[k0]⟩ y) g5) (lS:∀ i,y≠.self i:=by exact λ_ h=>(by cases h)):o7 P N (λp=>p∈[(⟨r,[k0]⟩:Place)]) g o g5:=by
 intro w I T Fs h a aR a_ K Q c6;have ml:∀ z q n m new,y≠.bB z q n m new:=by rintro z q n m new rfl; cases xm
 have fz:bu g ⟨r,[k0]⟩=some y:=by simp [bu,ah,ab.at,ab.kids,al]
 obtain ⟨v,cn,hv,dB,di,put⟩:=h.mw.part fz ml;have rT:v.oneCell'=true:=by
  obtain ⟨u,hu,mI⟩:=h.rel r _ ah;obtain ⟨b,wh,h1,af,aJ,bx,_⟩:=R.node (z:=0) (n:=0) (mI.hd (by simp)) (.inr rfl) al;have:dU w T ⟨r,[k0]⟩=child w u k0:=by
   unfold dU;simp only [hu,walk];cases child w u k0 <;> rfl
  rw [this,aJ] at hv;cases hv;exact bx
 obtain ⟨fF,iW,Be,Bf⟩:=put (.lit v) ct (.lit rT λ_ h=>h) (λ_ h=>h.elim) (λ_ h=>h.elim) (λ_ _ _ h=>h.elim) (λ_ h=>by cases h);obtain ⟨g1,g4,gg,cX,H4,Iw⟩:=vp v rT;have se:∀ t c,fF t c->Fs t c/\¬ cn c:=by
  intro t c aa;by_cases aq:t=r
  ·subst aq;rcases (Be c).1 aa with aI | aI
   ·exact aI
   ·exact aI.elim
  ·rw [Bf t aq] at aa;exact ⟨aa,λaS=>aq (h.eu t r c aa (di c aS))⟩
 have HX:=iW.keep gg;refine cX w I T _ HX a aR a_ K Q λbZ w' aA sM=>?_;obtain ⟨cr,b9,I',b2,dZ,bT⟩:=aA;obtain ⟨v2,iO,zt,mf,Ul,Ka⟩:=dZ.mw.part H4 (by simp);have IT:v2=v:=mf.h'.1;subst IT;have HN:∀ c,cn c->¬ I c:=λc aa=>h.bm r c (di c aa);have w0:∀ c,cn c->c<w.heap.size:=λc aa=>h.jT r c (di c aa);have xJ:∀ c,cn c->¬ ∃ t,(g1 t≠none/\fF t c):=λc aa ⟨t,_,aI⟩=>(se t c aI).2 aa;have Cv:∀ t c,b2 t c->¬ cn c:=by
  intro t c aa aS;rcases bT.own c ⟨t,aa⟩ with aI | aI
  ·exact xJ c aS aI
  ·have:=w0 c aS; omega
 have JU:∀ c,cn c->¬ I' c:=by
  intro c aa hi;rcases bT.new c hi with aI | aI | aI
  ·exact HN c aa aI
  ·exact xJ c aa aI
  ·have:=w0 c aa; omega
 have Kn:∀ c,cn c->w'.heap[c]?=w.heap[c]?:=λc aa=>bT.dF.block c (w0 c aa) (xJ c aa);have re:∀ c,I c->w'.heap[c]?=w.heap[c]?:=λc aa=>bT.dF.block c (h.lt c aa) λ⟨t,_,aI⟩=>h.bm t c (se t c aI).1 aa;have Bm:R w' I' (fH w' bZ.tmps) y v2 cn:=((dB.bl xm).frame re bT.more (λ_ _ h=>h) Kn);obtain ⟨K',HZ,HI,HJ⟩:=Ka y cn Bm (λc aa aS=>(Cv _ c aS aa).elim) (λc aa=>JU c aa) (λt c _ aa aS=>Cv t c aS aa) (λi e=>absurd e (lS i));have sD:=HZ.keep Iw;refine c6 bZ w' ⟨cr,b9,I',_,sD,⟨?_,bT.more,λc aa=>?_,λc aa=>?_⟩⟩ sM λck path au y' nv ac8=>?_
 ·exact bT.dF.mono λb _ ⟨t,_,aI⟩=>⟨t,(se t b aI).1⟩
 ·rcases bT.new c aa with aI | ⟨t,_,aI⟩ | aI
  ·exact .inl aI
  ·exact .inr (.inl ⟨t,(se t c aI).1⟩)
  ·exact .inr (.inr aI)
 ·obtain ⟨t,_,aa⟩:=aa;have:(∃ t,b2 t c)\/cn c:=by
   by_cases aq:t=r
   ·subst aq;rcases (HI c).1 aa with ⟨aI,_⟩ | aI
    ·exact .inl ⟨_,aI⟩
    ·exact .inr aI
   ·rw [HJ t aq] at aa; exact .inl ⟨t,aa⟩
  rcases this with aI | aI
  ·rcases bT.own c aI with ⟨t,_,fT⟩ | fT
   ·exact .inl ⟨t,(se t c fT).1⟩
   ·exact .inr fT
  ·exact .inl ⟨r,di c aI⟩
 ·have au:(⟨ck,path⟩:Place)∈[(⟨r,[k0]⟩:Place)]:=au;have au:=List.mem_singleton.1 au;cases au;rw [hv,zt]
end
end Go.Own
namespace Go.Own
open Go
set_option linter.unusedSectionVars false
variable [cI]
section
variable {α:Type}{P:Program}{N:cS}{g:aK}{ops:Array Oper}{l:List Oper}{K:aK->Prop}{r n:Nat}{t e ty:TypeId}{a b:Operand}{m:Int}{en:bz α}{L:List α}{y y2:α}{k:IntKind}{pos:String}{after:Array Edge}
end
end Go.Own
namespace Go.Own
open Go Go.Proofs Go.Shelf Go.Lib Go.Sort
set_option linter.unusedSectionVars false
variable [cI]
section
variable {P:Program}{w:World}
class wy {α:Type}(e:bz α) where
 FY:α->List Value
 cells:∀ a,e.cells a=(FY a).map .lit
 one:∀ a,∀ v∈FY a,v.oneCell'=true
variable {α:Type}{e:bz α}
theorem wy.len [h:wy e] (a:α):(h.FY a).length=e.z:=by
 have:=e.len a;rw [h.cells,List.length_map] at this;exact this
end
end Go.Own
namespace Go.Own
open Go
set_option linter.unusedSectionVars false
variable [cI]
section
variable {α:Type}{P:Program}{N:cS}{g:aK}{d r:Nat}
theorem hY.tk {o:Oper}{x:Operand}{ga:Array TypeId}{f:FuncId}{res:ab}{en:bz α}{L:List α}{G2:List (Nat × ab)}(aU:o.op=.call { callee:=.value (.func f),args:=#[x],argTypes:=ga }) (aP:o.dst=some d) (j:Own.fC g [x]=some [.bg en.z ⟨r,[]⟩ L.length])
  (ay:g r=some (ao en L)) (hb:b1 P f [ao en L] [none] res) (aS:jB P f=true) [ah:b4 res]
  (c_:Trim false (cj g ⟨r,[]⟩ .dead) (get G2) G2) (aN:get G2 d=none) (a_:N.ok d=true) :
  hY P N g o d (get ((d,res)::G2)):=by
 have mK:∀ x∈bq en L,cE x:=by
  intro x j;obtain ⟨a,_,aR⟩:=List.mem_flatMap.1 j;exact en.bl a x aR
 have fu:(bq en L).take (L.length * en.z)=bq en L:=List.take_of_length_le (by rw [oW]; exact Nat.le_refl _);have xv:hx (cj g ⟨r,[]⟩ .dead) (get G2):=by
  refine ⟨λt x h=>?_,λt x h=>(c_.spec t x h).2.1,λt z q n m new h=>(c_.spec t _ h).2.2 _ _ _ _ _ rfl⟩;obtain ⟨⟨y,h1,_,aJ⟩,_⟩:=c_.spec t x h;rw [<- aJ rfl]; exact h1
 have xw:hx (get G2) (get G2):=⟨λt x h=>h,λt x h=>(c_.spec t x h).2.1,λt z q n m new h=>(c_.spec t _ h).2.2 _ _ _ _ _ rfl⟩;have qO:get ((d,res)::G2)=cK (get G2) d res:=by
  funext t;rw [sz]
 rw [qO];refine yx.ok (first:=[]) (caps:=[]) (ys:=[.bg en.z ⟨r,[]⟩ L.length]) (tk:=λk=>k == 0) (vw:=false) (outs:=[none]) (g1:=cj g ⟨r,[]⟩ .dead) (g2:=get G2) (g4:=get G2) (l:=[]) (ks:=λ_=>0) (xs0:=[.bg en.z ⟨r,[]⟩ L.length]) (xs1:=[ao en L]) (args:=[ao en L]) (res:=res) aU aP rfl j
  ⟨aS,by simp,by simp,λk x h=>.inl h,?_,xv,λk x y j al=>?_,hb,by simpa using ah.bl,λk x h=>?_,λJ p x ai=>by simp at ai,by simp,λi J hi ai _=>by simp at hi,xw⟩ aN a_ wu.refl
 ·have h1:Take (cj g ⟨r,[]⟩ .dead) ((bq en L).take (L.length * en.z)) (bq en L) (cj g ⟨r,[]⟩ .dead):=by rw [fu]; exact .bl mK
  exact .bg (N:=L.length) (by simp [bu,ay,ab.at]) (Nat.le_refl _) h1 (.bl λx j=>by simp at j)
 ·cases k with
  | zero=>simpa using al
  | succ k=>simp at al
 ·cases k with
  | zero=>simp at h
  | succ k=>simp at h
end
end Go.Own
namespace Go.Own
open Go Go.Proofs Go.Shelf Go.Lib Go.Sort
set_option linter.unusedSectionVars false
variable [cI]
section
variable {α:Type} [DecidableEq α]
end
section
variable {α:Type}{e:bz α}{P:Program}{w:World}
variable [DecidableEq α] [Inhabited α]
end
end Go.Own
namespace Go.Proofs
open Tryz
open Go.Shelf Go.RowKit Go.Lib Go.Sort
set_option linter.unusedSectionVars false
variable {α:Type} [Inhabited α] [DecidableEq α]
namespace Two
open Go.Own
variable [cI]
variable {P:Program}{t:TypeId}
omit [Inhabited α] [DecidableEq α] in
theorem one (f:α->Int):OneCell λx=>Value.int .i64 (f x):=λ_=>rfl
end Two
end Go.Proofs
namespace Go.Own
open Go Go.Proofs Go.Shelf Go.Lib Go.Sort
set_option linter.unusedSectionVars false
variable [cI]
section
variable {α:Type}{e:bz α}{P:Program}{w:World}
end
end Go.Own
namespace Go.Own
open Go
set_option linter.unusedSectionVars false
variable [cI]
section
variable {α:Type}{P:Program}{N:cS}{g:aK}{d r:Nat}
end
end Go.Own
namespace Go.Own
open Go
set_option linter.unusedSectionVars false
variable [cI]
theorem q {α:Sort _}{a:α}:a=a:=rfl
abbrev bf:ByteArray:=⟨#[]⟩
theorem sX {p:Prop} [Decidable p] (h:decide p=true):p:=of_decide_eq_true h
theorem rk {b:Bool}{g h:aK}{eF s1:Nat}{eC a6:ab}(aO:g eF=some eC) [b4 eC] (h1:g s1=some a6) [b4 a6]:Trim b g h [(eF,eC),(s1,a6)]:=(.n aO (.n h1 .nil))
theorem rl {b:Bool}{g h:aK}{eF s1 s2:Nat}{eC a6 x2:ab}(aO:g eF=some eC) [b4 eC] (h1:g s1=some a6) [b4 a6] (af:g s2=some x2) [b4 x2]:Trim b g h [(eF,eC),(s1,a6),(s2,x2)]:=(.n aO (.n h1 (.n af .nil)))
theorem kt {b:Bool}{g h:aK}{eF s1 s2 dn:Nat}{eC a6 x2 aX:ab}(aO:g eF=some eC) [b4 eC] (h1:g s1=some a6) [b4 a6] (af:g s2=some x2) [b4 x2] (aJ:g dn=some aX) [b4 aX]:Trim b g h [(eF,eC),(s1,a6),(s2,x2),(dn,aX)]:=(.n aO (.n h1 (.n af (.n aJ .nil))))
theorem o1 {b:Bool}{g h:aK}{eF s1 s2 dn cW:Nat}{eC a6 x2 aX bR:ab}(aO:g eF=some eC) [b4 eC] (h1:g s1=some a6) [b4 a6] (af:g s2=some x2) [b4 x2] (aJ:g dn=some aX) [b4 aX] (bx:g cW=some bR) [b4 bR]:Trim b g h [(eF,eC),(s1,a6),(s2,x2),(dn,aX),(cW,bR)]:=(.n aO (.n h1 (.n af (.n aJ (.n bx .nil)))))
theorem pL {b:Bool}{g h:aK}{eF s1 s2 dn cW cw:Nat}{eC a6 x2 aX bR bK:ab}(aO:g eF=some eC) [b4 eC] (h1:g s1=some a6) [b4 a6] (af:g s2=some x2) [b4 x2] (aJ:g dn=some aX) [b4 aX] (bx:g cW=some bR) [b4 bR] (cu:g cw=some bK) [b4 bK]:Trim b g h [(eF,eC),(s1,a6),(s2,x2),(dn,aX),(cW,bR),(cw,bK)]:=(.n aO (.n h1 (.n af (.n aJ (.n bx (.n cu .nil))))))
theorem rm {b:Bool}{g h:aK}{eF s1 s2 dn cW cw db:Nat}{eC a6 x2 aX bR bK bC:ab}(aO:g eF=some eC) [b4 eC] (h1:g s1=some a6) [b4 a6] (af:g s2=some x2) [b4 x2] (aJ:g dn=some aX) [b4 aX] (bx:g cW=some bR) [b4 bR] (cu:g cw=some bK) [b4 bK] (dL:g db=some bC) [b4 bC]:Trim b g h [(eF,eC),(s1,a6),(s2,x2),(dn,aX),(cW,bR),(cw,bK),(db,bC)]:=(.n aO (.n h1 (.n af (.n aJ (.n bx (.n cu (.n dL .nil)))))))
theorem Qo {b:Bool}{g h:aK}{eF s1 s2 dn cW cw db dc:Nat}{eC a6 x2 aX bR bK bC bS:ab}(aO:g eF=some eC) [b4 eC] (h1:g s1=some a6) [b4 a6] (af:g s2=some x2) [b4 x2] (aJ:g dn=some aX) [b4 aX] (bx:g cW=some bR) [b4 bR] (cu:g cw=some bK) [b4 bK] (dL:g db=some bC) [b4 bC] (k1:g dc=some bS) [b4 bS]:Trim b g h [(eF,eC),(s1,a6),(s2,x2),(dn,aX),(cW,bR),(cw,bK),(db,bC),(dc,bS)]:=(.n aO (.n h1 (.n af (.n aJ (.n bx (.n cu (.n dL (.n k1 .nil))))))))
theorem adx {b:Bool}{g h:aK}{eF s1 s2 dn cW cw db dc eO:Nat}{eC a6 x2 aX bR bK bC bS b3:ab}(aO:g eF=some eC) [b4 eC] (h1:g s1=some a6) [b4 a6] (af:g s2=some x2) [b4 x2] (aJ:g dn=some aX) [b4 aX] (bx:g cW=some bR) [b4 bR] (cu:g cw=some bK) [b4 bK] (dL:g db=some bC) [b4 bC] (k1:g dc=some bS) [b4 bS] (nT:g eO=some b3) [b4 b3]:Trim b g h [(eF,eC),(s1,a6),(s2,x2),(dn,aX),(cW,bR),(cw,bK),(db,bC),(dc,bS),(eO,b3)]:=(.n aO (.n h1 (.n af (.n aJ (.n bx (.n cu (.n dL (.n k1 (.n nT .nil)))))))))
theorem Qn {b:Bool}{g h:aK}{eF s1 s2 dn cW cw db dc eO fE:Nat}{eC a6 x2 aX bR bK bC bS b3 dG:ab}(aO:g eF=some eC) [b4 eC] (h1:g s1=some a6) [b4 a6] (af:g s2=some x2) [b4 x2] (aJ:g dn=some aX) [b4 aX] (bx:g cW=some bR) [b4 bR] (cu:g cw=some bK) [b4 bK] (dL:g db=some bC) [b4 bC] (k1:g dc=some bS) [b4 bS] (nT:g eO=some b3) [b4 b3] (wZ:g fE=some dG) [b4 dG]:Trim b g h [(eF,eC),(s1,a6),(s2,x2),(dn,aX),(cW,bR),(cw,bK),(db,bC),(dc,bS),(eO,b3),(fE,dG)]:=(.n aO (.n h1 (.n af (.n aJ (.n bx (.n cu (.n dL (.n k1 (.n nT (.n wZ .nil))))))))))
theorem Kz {b:Bool}{g h:aK}{eF s1 s2 dn cW cw db dc eO fE fW:Nat}{eC a6 x2 aX bR bK bC bS b3 dG bF:ab}(aO:g eF=some eC) [b4 eC] (h1:g s1=some a6) [b4 a6] (af:g s2=some x2) [b4 x2] (aJ:g dn=some aX) [b4 aX] (bx:g cW=some bR) [b4 bR] (cu:g cw=some bK) [b4 bK] (dL:g db=some bC) [b4 bC] (k1:g dc=some bS) [b4 bS] (nT:g eO=some b3) [b4 b3] (wZ:g fE=some dG) [b4 dG] (rH:g fW=some bF) [b4 bF]:Trim b g h [(eF,eC),(s1,a6),(s2,x2),(dn,aX),(cW,bR),(cw,bK),(db,bC),(dc,bS),(eO,b3),(fE,dG),(fW,bF)]:=(.n aO (.n h1 (.n af (.n aJ (.n bx (.n cu (.n dL (.n k1 (.n nT (.n wZ (.n rH .nil)))))))))))
section
variable {P:Program}{N:cS}{ops:Array Oper}{g:aK}{K:aK->Prop}{l:List Oper}{d t:Nat}{ty:TypeId}{pos:String}{after:Array Edge}{v:Value}
theorem gn {G1:List (Nat × ab)}(h:Trim true g (get G1) G1):aC P N ops [] g λg'=>kj g' (get G1):=.fin h
theorem c7 (h:g t=some (.lit v)) (hk:aC P N ops l (cK g d (.lit v)) K) (a_:N.ok d=true:=by rfl) (aS:g d=none:=by rfl):aC P N ops (⟨some d,.move (.tmp t),ty,pos,after,none⟩::l) g K:=ax (O.aZ (.lit h)) hk a_ aS
theorem qM (h:g t=some (.lit v)) (hk:aC P N ops l (cK g d (.lit v)) K) (a_:N.ok d=true:=by rfl) (aS:g d=none:=by rfl):aC P N ops (⟨some d,.assign (.tmp t),ty,pos,after,none⟩::l) g K:=ax (O.dy (.lit h)) hk a_ aS
theorem u4 (h:ofConst v=.lit v) (hk:aC P N ops l (cK g d (.lit v)) K) (a_:N.ok d=true:=by rfl) (aS:g d=none:=by rfl):aC P N ops (⟨some d,.assign (.const v),ty,pos,after,none⟩::l) g K:=ax (O.dy (.k h)) hk a_ aS
end
end Go.Own
namespace Go.Own
open Go
set_option linter.unusedSectionVars false
variable [cI]
section
variable {α:Type}{g:aK}
end
end Go.Own
namespace Go.Own
open Go
set_option linter.unusedSectionVars false
variable [cI]
section
variable {α:Type}{P:Program}{N:cS}{g:aK}{d r:Nat}
theorem hY.kf {o:Oper}{xs:List Operand}{ga:Array TypeId}{f:FuncId}{ys:List ab}{res:ab}{en:bz α}{L:List α}{G2:List (Nat × ab)}(aU:o.op=.call { callee:=.value (.func f),args:=xs.toArray,argTypes:=ga }) (aP:o.dst=some d) (j:Own.fC g xs=some (.bg en.z ⟨r,[]⟩ L.length::ys))
  (ay:g r=some (ao en L)) (hb:b1 P f (ao en L::ys) (none::ys.map λ_=>none) res) (aS:jB P f=true) [ah:b4 res] [aA:dh ys]
  (c_:Trim false (cj g ⟨r,[]⟩ .dead) (get G2) G2) (aN:get G2 d=none) (a_:N.ok d=true) :
  hY P N g o d (get ((d,res)::G2)):=by
 have mK:∀ x∈bq en L,cE x:=by
  intro x j;obtain ⟨a,_,aR⟩:=List.mem_flatMap.1 j;exact en.bl a x aR
 have fu:(bq en L).take (L.length * en.z)=bq en L:=List.take_of_length_le (by rw [oW]; exact Nat.le_refl _);have xv:hx (cj g ⟨r,[]⟩ .dead) (get G2):=by
  refine ⟨λt x h=>?_,λt x h=>(c_.spec t x h).2.1,λt z q n m new h=>(c_.spec t _ h).2.2 _ _ _ _ _ rfl⟩;obtain ⟨⟨y,h1,_,aJ⟩,_⟩:=c_.spec t x h;rw [<- aJ rfl]; exact h1
 have xw:hx (get G2) (get G2):=⟨λt x h=>h,λt x h=>(c_.spec t x h).2.1,λt z q n m new h=>(c_.spec t _ h).2.2 _ _ _ _ _ rfl⟩;have qO:get ((d,res)::G2)=cK (get G2) d res:=by
  funext t;rw [sz]
 rw [qO];refine yx.ok (first:=[]) (caps:=[]) (ys:=.bg en.z ⟨r,[]⟩ L.length::ys) (tk:=λ_=>true) (vw:=false) (outs:=none::ys.map λ_=>none) (g1:=cj g ⟨r,[]⟩ .dead) (g2:=get G2) (g4:=get G2) (l:=[]) (ks:=λ_=>0) (xs0:=.bg en.z ⟨r,[]⟩ L.length::ys) (xs1:=ao en L::ys) (args:=ao en L::ys) (res:=res) aU aP rfl (by simpa using j)
  ⟨aS,by simp,by simp,λk x h=>.inl (by simpa using h),?_,xv,λk x y j al=>by simpa using al,hb,by simpa using ah.bl,λk x h=>?_,λJ p x ai=>by simp at ai,by simp,λi J hi ai _=>by simp at hi,xw⟩ aN a_ wu.refl
 ·have h1:Take (cj g ⟨r,[]⟩ .dead) ((bq en L).take (L.length * en.z)) (bq en L) (cj g ⟨r,[]⟩ .dead):=by rw [fu]; exact .bl mK
  exact .bg (N:=L.length) (by simp [bu,ay,ab.at]) (Nat.le_refl _) h1 (.bl aA.bl)
 ·cases k with
  | zero=>simp at h
  | succ k =>
   simp only [List.getElem?_cons_succ,List.getElem?_map] at h;cases aR:ys[k]? <;> rw [aR] at h <;> cases h
end
end Go.Own
namespace Go.Own
open Go
set_option linter.unusedSectionVars false
variable [cI]
class u1 (x:ab):Prop where pl:lM x
class DH (cs:List ab):Prop where pl:∀ x∈cs,lM x
instance {v:Value}:u1 (.lit v):=⟨.lit⟩
instance:u1 .aQ:=⟨.aQ⟩
instance {z n:Nat}{cs:List ab} [h:dh cs]:u1 (.bm z n cs):=⟨.bm h.bl⟩
instance {α:Type}{e:bz α}{L:List α}:u1 (ak e L):=⟨.bm (dh.bl (cs:=bq e L))⟩
instance {cs:List ab} [h:DH cs]:u1 (.agg cs):=⟨.agg h.pl⟩
instance:DH []:=⟨by simp⟩
instance {x:ab}{cs:List ab} [h:u1 x] [aI:DH cs]:DH (x::cs):=⟨λy al=>by
 rcases List.mem_cons.1 al with rfl | al
 ·exact h.pl
 ·exact aI.pl y al⟩
class DF (G:List (Nat × ab)):Prop where bl:∀ t x,get G t=some x->cE x
instance:DF []:=⟨λt x h=>by cases h⟩
instance {s:Nat}{x:ab}{G:List (Nat × ab)} [h:b4 x] [aI:DF G]:DF ((s,x)::G):=⟨λt y al=>by
 simp only [get] at al
 split at al
 ·cases al; exact h.bl
 ·exact aI.bl t y al⟩
class yJ (acc:Acc):Prop where bl:∀ e∈acc,∀ x,e.2.2=some x->cE x
instance:yJ []:=⟨by simp⟩
instance {k d:Nat}{x:ab}{acc:Acc} [h:b4 x] [aI:yJ acc]:yJ ((k,d,some x)::acc):=⟨λe he y al=>by
 rcases List.mem_cons.1 he with rfl | he
 ·cases al; exact h.bl
 ·exact aI.bl e he y al⟩
instance {k d:Nat}{acc:Acc} [aI:yJ acc]:yJ ((k,d,none)::acc):=⟨λe he y al=>by
 rcases List.mem_cons.1 he with rfl | he
 ·cases al
 ·exact aI.bl e he y al⟩
theorem L9 {G:List (Nat × ab)}{A:Nat->Bool}{acc:Acc} [h:DF G] [aI:yJ acc]:Gs (c3 (get G) A acc):=by
 have key:∀ t x,c3 (get G) A acc t=some x->cE x:=λt x j=>by
  rcases uS j with ⟨e,he,_,_,af⟩ | ⟨_,af⟩
  ·exact aI.bl e he x af
  ·exact h.bl t x af
 exact ⟨λt x j=>.bl (key t x j),λt z q n m new j=>by cases key t _ j⟩
end Go.Own
namespace Go.Own
open Go Go.MapKept Go.ChangeMaps
set_option linter.unusedSectionVars false
variable [cI]
section
variable {P:Program}{w:World}{I:a8}{T:Array Value}{g g2:aK}{Fs:Nat->a8}
end
end Go.Own
namespace Go.Own
open Go Go.MapKept Go.ChangeMaps Go.WideElems
set_option linter.unusedSectionVars false
variable [cI]
open Go.Maps (Keyed)
set_option linter.unusedVariables false
variable {kA l6:Type}{P:Program}{k e:TypeId}
abbrev yM:Value->Option (DataW Value × List MemPlace):=λv=>some (.held v,[])
def sf [DecidableEq kA]:List (kA × l6)->kA->Option l6
 | [],_=>none
 | p::m,x=>if p.1=x then some p.2 else sf m x
def OG [DecidableEq kA] (ok:kA->Bool) (z:l6) (m:List (kA × l6)) (x:kA):Option l6:=if ok x then some ((sf m x).getD z) else none
def OI (ok:kA->Bool) (m:List (kA × l6)) (x:kA) (y:l6):Option (List (kA × l6)):=if ok x&&decide (m.length<=lim) then some ((x,y)::m) else none
structure Lg (P:Program) (k:TypeId) (kA:Type) where
 qZ:kA->Value
 zy:kA->Lit
 Oq:kA->ab
 ok:kA->Bool
 keyed:Keyed P k
 key:∀ x,ok x=true->keyOf P k (qZ x)=some (zy x)
 inj:∀ x y,zy x=zy y->x=y
 LN:∀ (x:kA) (w:World) (I:a8) (ρ:ab->Value->Prop) (v:Value),R w I ρ (Oq x) v ct->v=qZ x
structure Lh (P:Program) (e:TypeId) (l6:Type) where
 pM:l6->Value
 KG:l6->ab
 z:l6
 zero:∀ w,(zeroValue e).run P w=.ok (pM z) w
 one:∀ x,(pM x).oneCell'=true
 LN:∀ (x:l6) (w:World) (I:a8) (ρ:ab->Value->Prop) (v:Value),R w I ρ (KG x) v ct->v=pM x
 nH:∀ (x:l6) (w:World) (I:a8) (ρ:ab->Value->Prop),R w I ρ (KG x) (pM x) ct
def yd (P:Program) (k:TypeId) (es:Array MapEntry):List (Lit × DataW Value):=(es.toList.map (rg P k yM)).foldr DataW.insert []
def tr [DecidableEq kA] (K:Lg P k kA) (V:Lh P e l6) (m:List (kA × l6)):Array MapEntry->Nat->Prop:=λes c=>Fit P k yM es c/\es.size<=m.length/\∀ x Gl,(DataW.map (yd P k es)).atKey (K.zy x) Gl=match sf m x with | some y=>.held (V.pM y) | none=>Gl
variable [DecidableEq kA] {K:Lg P k kA}{V:Lh P e l6}{m bh:List (kA × l6)}{x:kA}{y:l6}{t:TypeId}
theorem tr.nil:tr K V [] #[] 0:=⟨⟨by simp,stamped_empty 0,by simp⟩,Nat.le_refl _,λx Gl=>rfl⟩
theorem tr.look (ok:Bool) (cX:K.ok x=true) (aq:P.underlying t=some (.map k e)) (w:World) (b:Nat) (es:Array MapEntry) (c:Nat) (av:w.heap[b]?=some (.map es c)) (h:tr K V m es c) :
  (Instr.lookup t (.map (some b)) (K.qZ x) ok).run P w=.ok (if ok then .tuple #[V.pM ((sf m x).getD V.z),.bool (sf m x).isSome] else V.pM ((sf m x).getD V.z)) w:=by
 obtain ⟨F,_,fz⟩:=h;have fz:=fz x;rcases Maps.fit_look ok K.keyed aq (V.zero w) av F (K.key x cX) with ⟨h_,_,af⟩ | ⟨hC,y,_,_,h_,al,af,_⟩
 ·have:sf m x=none:=by
   cases aN:sf m x with
   | none=>rfl
   | some y =>
    have h1:=fz .nil;rw [aN] at h1;have aJ:=af .nil;unfold yd at h1;rw [h1] at aJ; cases aJ
  rw [h_,this]; rfl
 ·cases al;cases aN:sf m x with
  | none =>
   have h1:=fz .nil;rw [aN] at h1;have aJ:=af .nil;unfold yd at h1;rw [h1] at aJ; cases aJ
  | some y =>
   have h1:=fz .nil;rw [aN] at h1;have aJ:=af .nil;unfold yd at h1;rw [h1] at aJ;have bx:hC.val=V.pM y:=by simpa using aJ.symm
   rw [h_,bx]; rfl
theorem tr.put (aO:OI K.ok m x y=some bh) (aq:P.underlying t=some (.map k e)) (w:World) (b:Nat) (es:Array MapEntry) (c:Nat) (av:w.heap[b]?=some (.map es c)) (h:tr K V m es c) :
  ∃ wU j6,(Instr.mapUpdate t (.map (some b)) (K.qZ x) (V.pM y)).run P w=.ok () (setBlock w b (.map wU j6))/\tr K V bh wU j6:=by
 unfold OI at aO
 split at aO
 ·rename_i aa;cases aO;simp only [Bool.and_eq_true,decide_eq_true_eq] at aa;obtain ⟨cX,aj⟩:=aa;obtain ⟨F,ay,fz⟩:=h;have NI:=K.key x cX;obtain ⟨wU,j6,h_,cY,nr,_⟩:=Maps.fit_store (R':=yM) K.keyed aq av F (by have:maxLen=9223372036854775807:=rfl; simp only [lim] at aj; omega) (λ_ _ _ _ aW=>aW) NI (rfl:yM (V.pM y)=some (.held (V.pM y),[]));refine ⟨wU,j6,h_,cY,?_,λx' Gl=>?_⟩
  ·have cr:wU.size=((wU.toList.map (rg P k yM)).foldr DataW.insert []).length:=by rw [length_sorted]; simp
   rw [cr,nr];unfold putKey;rw [length_insert];have b9:=List.length_filter_le (notKey (K.zy x)) ((es.toList.map (rg P k yM)).foldr DataW.insert []);rw [length_sorted] at b9;simp at b9 ⊢;omega
  ·have fi:(DataW.map (yd P k wU))=(DataW.map (yd P k es)).put (K.zy x) (.held (V.pM y)):=by
    rw [DataW.put_eq]; unfold yd; rw [nr]
   rw [fi];by_cases j:x=x'
   ·subst j;rw [Maps.atKey_put_same ⟨_,rfl⟩ (K.keyed.key NI)];simp [sf]
   ·rw [Maps.atKey_put_other (λe=>j (K.inj _ _ e).symm),fz];simp [sf,j]
 ·cases aO
section
variable {N:cS}{g:aK}{a b c:Operand}{p:Place}{ty:TypeId}
instance {q:Array MapEntry->Nat->Prop}:b4 (.mp q):=⟨.mp⟩
instance {q:Array MapEntry->Nat->Prop}:b4 (.imp q):=⟨.imp⟩
instance {q:Array MapEntry->Nat->Prop}:oj (.mp q):=⟨.mp⟩
theorem O.Ch {r:l6}{X Y:ab}(hm:Rd g a (.imp (tr K V m))) (j:Rd g b Y) (Bn:K.Oq x=Y) (aq:P.underlying t=some (.map k e)) (h:OG K.ok V.z m x=some r) (tS:V.KG r=X):b7 P g (.lookup t a b false) ty X:=by
 subst tS Bn;unfold OG at h
 split at h
 ·rename_i cX;cases h;exact .eD (.Ch hm.bo j.bo (K.LN x) (V.nH _) λw b es c av a7=>tr.look false cX aq w b es c av a7)
 ·cases h
end
end Go.Own
namespace Go.Own
open Go
set_option linter.unusedSectionVars false
variable [cI]
section
variable {α:Type}{P:Program}{N:cS}{g:aK}{d r:Nat}{ty t t2 e:TypeId}{a b:Operand}{k kJ:IntKind}{m n:Int}{p:Place}
def Oi (L:List α) (m:Int):Option Unit:=if 0<=m/\m<=L.length then some () else none
instance:wy az:=⟨λx=>[.int .i64 x],λ_=>rfl,λx v hv=>by rw [List.mem_singleton.1 hv]; rfl⟩
theorem O.Qa {en:bz α}{L:List α}{u:Unit}(j:Rd g a (.bg en.z p L.length)) (aj:Rd g b (.lit (.int k m))) (au:bu g p=some (ao en L)) (aq:fb P t e en.z=true) (h:Oi L m=some u):b7 P g (.slice t a (some b) none none) ty (.sub en.z p m.toNat (L.length - m.toNat)):=by
 unfold Oi at h
 split at h
 ·rename_i aa;obtain ⟨i,rfl⟩:=Int.eq_ofNat_of_zero_le aa.1;exact .eD (.FR j.bo ⟨_,aj.bo⟩ rfl aq (by omega) (Nat.le_refl _) ⟨_,_,au,by omega⟩)
 ·cases h
def Me (lo nd:Nat) (L S:List α):Option (List α):=if 0<min S.length nd/\lo+nd<=L.length then some (L.take lo++S.take (min S.length nd)++L.drop (lo+min S.length nd)) else none
def Cl (e:bz α) [h:wy e] (L:List α):List Value:=L.flatMap h.FY
theorem JL (e:bz α) [h:wy e] (L:List α):bq e L=(Cl e L).map .lit:=by
 induction L with
 | nil=>rfl
 | cons x L aM =>
  have:bq e (x::L)=e.cells x++bq e L:=by simp [bq]
  rw [this,aM,h.cells];simp [Cl]
theorem Rg.bm {en:bz α}{S:List α}:Src g (ak en S) en.z S.length (bq en S):=.bm
theorem Rg.bg {en:bz α} [wy en] {L:List α}{q:Place}{n:Nat}(a7:bu g q=some (ao en L)) (aA:n<=L.length):Src g (.bg en.z q n) en.z (L.take n).length (bq en (L.take n)):=by
 have h1:(L.take n).length=n:=by rw [List.length_take]; omega
 have af:bq en (L.take n)=(((bq en L).take (n * en.z)).mapIdx λi x=>fD 0 (q.push i) x):=by
  rw [x8,JL];apply List.ext_getElem?;intro J;rw [List.getElem?_mapIdx];cases ai:((Cl en (L.take n)).map ab.lit)[J]? with
  | none=>rfl
  | some y =>
   obtain ⟨v,_,rfl⟩:=List.mem_map.1 (List.mem_of_getElem? ai);rfl
 rw [h1,af];exact .bg a7 aA
theorem Zt {z:Nat}(h:fb P t e z=true):(P.info? e).map (·.size)=some z:=by
 grind [fb]
theorem br.ba {o:Oper}{en:bz α} [aj:wy en] {L S hL:List α}{lo nd:Nat}{KT iD:ab}{G2:List (Nat × ab)}(aU:o.op=.call { callee:=.builtin .copy,args:=#[a,b],argTypes:=#[t,t2] }) (aP:o.dst=some d) (aR:bo g a=some KT) (W9:KT=.sub en.z ⟨r,[]⟩ lo nd\/(KT=.bg en.z ⟨r,[]⟩ nd/\lo=0)) (av:bo g b=some iD)
  (rS:Src g iD en.z S.length (bq en S)) (ay:g r=some (ao en L)) (sQ:en.z=1) (aq:fb P t e 1=true) (h:Me lo nd L S=some hL) (mN:(get G2 r).isSome=true) (c_:lp g (get G2) r (ao en hL) G2) (sE:get G2 d=none) (a_:N.ok d=true) :
  br P N g o (get ((d,ae ((min S.length nd:Nat):Int))::G2)):=by
 unfold Me at h;by_cases aa:0<min S.length nd/\lo+nd<=L.length
 case neg=>rw [if_neg aa] at h; cases h
 rw [if_pos aa] at h;obtain ⟨mj,acX⟩:=aa;cases h;generalize hk:min S.length nd=k at *;have acW:k<=S.length:=by omega
 have acY:k<=nd:=by omega
 refine .PY λw I T Fs h bZ zb UA K Q En=>?_;obtain ⟨hu,he,eM⟩:=qv (w:=w) aq;have au:bu g ⟨r,[]⟩=some (ao en L):=by simp [bu,ay,ab.at]
 have Nc:=la h aR zb;obtain ⟨v0,cn,jo,dB,di⟩:=h.part au (by simp);obtain ⟨a0,aax,rfl,k2,hlen,qS,um⟩:=dB.mR;have Uw:0<L.length:=by omega
 cases a0 with
 | none=>have:=um Uw; simp at this
 | some Lx =>
 obtain ⟨qR,zl⟩:=qS Lx rfl;obtain ⟨g0,adq,adv⟩:=Lx;simp only at qR zl;subst qR zl;have oE:cn g0:=dB.qi g0 rfl
 -- the target
 have Il:∃ cap,bZ.eval a=.slice (some ⟨g0,lo,none⟩) nd cap:=by
  rcases W9 with rfl | ⟨rfl,rfl⟩
  ·obtain ⟨⟨lq,uZ,LY,aB,c1,h1,af,_,_,cu⟩,_⟩:=Nc.xp;rw [h1] at jo;cases jo;obtain ⟨ad,cr,b9⟩:=cu (by omega);cases cr;rw [af,b9,sQ];exact ⟨c1,by simp⟩
  ·obtain ⟨⟨lq,uZ,LY,h1,af,_⟩,_⟩:=Nc.mO;rw [h1] at jo;cases jo;exact ⟨_,af⟩
 obtain ⟨To,Il⟩:=Il
 -- the source
 obtain ⟨C_,Zf,news,vv,II,BP,mh,hF,gv,aY⟩:=rS.sound h (la h av zb);rw [sQ,Nat.mul_one] at II;cases C_ with
 | none=>have:=BP (by omega) (by omega); simp at this
 | some PN =>
 have ac9:news=Cl en S:=by
  rw [JL,List.length_map] at hF;apply List.ext_getElem hF.symm;intro J h1 af;have:=(aY J (.lit (Cl en S)[J]) news[J] (by rw [JL,List.getElem?_map,List.getElem?_eq_getElem af]; rfl) (List.getElem?_eq_getElem h1)).h'.1;exact this
 -- the block
 cases dB with
 | ref j=>simp [ab.isRef] at j
 | @own _ _ _ _ b_ us bW _ lT hM h1 ah mi jm aH =>
 obtain ⟨k7,bG⟩:=lT;rcases bG with ⟨bG,_⟩ | ⟨dX,cap,cur,bG,q9,jt,x3,v_,z_,x4⟩
 ·cases bG
 cases bG;have Nq:L.length<=cur.size:=by
  have wZ:(cur.toList.take (L.length * en.z)).length=L.length * en.z:=by rw [x4,k7]
  rw [List.length_take,sQ,Nat.mul_one,Array.length_toList] at wZ;rw [sQ] at z_;omega
 have Ep:(news.take k).length=k:=by rw [List.length_take]; omega
 have h_:(execOp bZ.eval o).run P w=.ok (.value (goInt k)) (w.setRow g0 (eK cur.toList lo (news.take k)).toArray):=by
  have nT:=run_copy_row (P:=P) w t t2 o.type e g0 lo nd To PN S.length Zf cur b_ (news.take k) hu (Zt aq) jt (by rw [Ep]; exact hk.symm) (λJ v ai=>by
   rw [List.getElem?_take] at ai
   split at ai
   ·exact mh PN rfl J v ai
   ·cases ai) (by rw [Ep]; omega) (λv hv=>by
   obtain ⟨J,ai⟩:=List.getElem?_of_mem (List.mem_of_mem_take hv);exact gv J v ai)
  rw [Ep] at nT;have qO:(cur.toList.take lo++news.take k++cur.toList.drop (lo+k))=eK cur.toList lo (news.take k):=by unfold eK; rw [Ep]
  rw [qO] at nT;simp [execOp,aU,resolve,invoke,Il,vv,builtin,nT]
 -- the state
 have Wj:∀ (J:Nat) (x:ab) (u:Value),((bq en S).take k)[J]?=some x->(news.take k)[J]?=some u->R w I (fH w T) x u ct:=λJ x u j hu=>by
  rw [List.getElem?_take] at j hu
  split at j
  ·rename_i ai;rw [if_pos ai] at hu;exact (aY J x u j hu).frame (λ_ _=>rfl) (λ_ h=>h) (λ_ _ h=>h.1) λ_ _=>rfl
  ·cases j
 have hH:Hand w I (fH w T) Fs ((bq en S).take k) (news.take k) (λ_=>ct) :=
  ⟨by rw [List.length_take,List.length_take,hF],Wj,λ_ _ _ _ _ h=>h.elim,λ_ _ _ _ h=>h.elim,λ_ _ _ h=>h.elim⟩
 have Np:((bq en S).take k).length=k:=by rw [List.length_take,hF]; omega
 have Uv:(bq en L).length=L.length:=by rw [oW,sQ,Nat.mul_one]
 have rP:(ao en L).eK lo ((bq en S).take k)=ao en (L.take lo++S.take k++L.drop (lo+k)):=by
  show ab.own en.z L.length (eK (bq en L) lo ((bq en S).take k))=_;have cr:eK (bq en L) lo ((bq en S).take k)=bq en (L.take lo++S.take k++L.drop (lo+k)):=by
   unfold eK;rw [Np,FI,FI];have kN:=x8 en L lo;have C2:=x8 en S k;have C3:=Ab en L (lo+k);rw [sQ,Nat.mul_one] at kN C2 C3;rw [kN,C2,C3]
  unfold ao;rw [cr];congr 1;simp; omega
 have V9:∀ (J:Nat) (u:Value),(news.take k)[J]?=some u->u.oneCell'=true:=λJ u hu=>by
  rw [List.getElem?_take] at hu
  split at hu
  ·exact gv J u hu
  ·cases hu
 have c1:∀ t x,get G2 t=some x->cj g ⟨r,[]⟩ ((ao en L).eK lo ((bq en S).take k)) t=some x:=λt x j=>by
  rw [rP];rcases c_.spec t x j with ⟨h1,af,_⟩ | ⟨h1,af,_⟩
  ·rw [ya h1]; exact af
  ·subst h1 af; simp [cj,ay,ab.setAt]
 have c2:∀ t x,get G2 t=some x->∀ y,g t=some y->ki (λq=>gZ g q/\Clear ⟨r,[]⟩ lo ((bq en S).take k).length q/\gZ (get G2) q) y:=λt x j y al=>by
  rcases c_.spec t x j with ⟨h1,af,aJ⟩ | ⟨h1,af,aJ⟩
  ·rw [af] at al; cases al;rcases aJ with aJ | ⟨_,c2,Ts⟩
   ·exact aJ.Kg
   ·cases Ts
  ·subst h1; rw [ay] at al; cases al; exact .bl (.own (pJ en L))
 have j8:∀ t z q n m new,get G2 t≠some (.bB z q n m new):=λt z q n m new j=>by
  rcases c_.spec t _ j with ⟨_,_,aJ | ⟨aJ,_⟩⟩ | ⟨_,_,aJ⟩
  ·exact aJ.fk _ _ _ _ _ rfl
  ·exact aJ.fk _ _ _ _ _ rfl
  ·cases aJ
 obtain ⟨iQ,h7,gx⟩:=h.mw.store (g2:=get G2) au (.inl rfl) (k:=lo) (cs':=(bq en S).take k) (by rw [Np,Uv]; omega) hH (λx j=>pJ en S x (List.mem_of_mem_take j)) (λh=>by cases h) V9 c1 c2 j8 (by intro e; rw [e] at mN; cases mN) jo rfl jt;have nr:=h7.uI (d:=d) (x:=ae (k:Int)) (v:=goInt k) (F:=ct) sE (by rw [<- zb,UA]; exact cS.lt a_) (.tree (.lit rfl λ_ h=>h)) (λ_ _ h=>h.elim) (λ_ h=>h.elim) (by rintro z p n m new e; cases e);unfold Oper.wp Oper.upon;simp only [h_];have qO:get ((d,ae (k:Int))::G2)=cK (get G2) d (ae (k:Int)):=by
  funext t;rw [sz]
 rw [<- qO] at nr;have H_:∃ t,Fs t g0:=⟨_,di g0 oE⟩;refine En _ _ ⟨by rw [aP]; rfl,by rw [aP]; exact hA.put a_ _ _,I,_,by rw [aP]; simpa [Act.put,zb] using nr,⟨⟨rfl,rfl,rfl,by simp,λc _ aa=>setRow_other w g0 c _ (λe=>aa (e ▸ H_)),λa _ _=>Ec w g0 _ a,Nat.le_refl _⟩,λ_ h=>h,λ_ h=>.inl h,λc aa=>?_⟩⟩ λt aq=>by rw [aP]; simp only [Act.put]; rw [Array.getElem?_setIfInBounds_ne]; rintro rfl; exact aq aP
 obtain ⟨t,aa⟩:=aa;simp only [uR] at aa
 split at aa
 ·exact aa.elim
 ·rcases gx t c aa with fT | ⟨_,_,fT⟩
  ·exact .inl ⟨t,fT⟩
  ·exact fT.elim
end
end Go.Own
namespace Go.Own
open Go
set_option linter.unusedSectionVars false
variable [cI]
def FH (ee:List Nat) (o:Oper):Oper:=⟨o.dst,o.op,o.type,o.pos,o.after.map λe=>⟨ee.idxOf e.on,e.ground⟩,o.guard.map λp=>(ee.idxOf p.1,p.2)⟩
def lb (ee:List Nat) (l:List Oper):List Oper:=ee.map λk=>FH ee (l.getD k default)
def J4 (ee:List Nat) (n:Nat):Bool:=Nat.beq ee.length n&&(List.range n).all λk=>ee.contains k&&Nat.blt (ee.getD k n) n&&Nat.beq (ee.idxOf (ee.getD k n)) k
structure Perm (ee:List Nat) (n:Nat):Prop where
 len:ee.length=n
 mem:∀ k,k<n->ee.idxOf k<n/\ee.getD (ee.idxOf k) n=k
 lt:∀ J,J<n->ee.getD J n<n/\ee.idxOf (ee.getD J n)=J
theorem Yn {ee:List Nat}{n:Nat}(h:J4 ee n=true):Perm ee n:=by
 unfold J4 at h;simp only [Bool.and_eq_true,Nat.beq_eq,List.all_eq_true,List.mem_range,Nat.blt_eq] at h;obtain ⟨aj,hj⟩:=h;refine ⟨aj,λk hk=>?_,λJ ai=>⟨(hj J ai).1.2,(hj J ai).2⟩⟩
 grind
section
variable {P:Program}{Q:Exit->Act->World->Prop}{ee:List Nat}{l:List Oper}
theorem J5 (jQ:Perm ee l.length) {J:Nat}(ai:J<l.length):(lb ee l).toArray[J]?=some (FH ee (l.getD (ee.getD J l.length) default))/\l.toArray[ee.getD J l.length]?=some (l.getD (ee.getD J l.length) default):=by
 have h1:J<ee.length:=by rw [jQ.len]; exact ai
 have af:=(jQ.lt J ai).1
 grind [lb]
theorem Pk (jQ:Perm ee l.length) {A B:Array Bool}(dQ:A.size=l.length) (e4:B.size=l.length) (sB:∀ J,J<l.length->B.getD J true=A.getD (ee.getD J l.length) true) {J:Nat}(ai:J<l.length) :
  ee.getD J l.length∈Region.ready .any l.toArray A↔J∈Region.ready .any (lb ee l).toArray B:=by
 obtain ⟨h1,af⟩:=J5 jQ ai;have adw:∀ {C:Array Bool}{k:Nat},k<C.size->C.getD k false=C.getD k true:=λ{C k} h=>by simp [Array.getD,h]
 have gone:∀ {C:Array Bool}{k:Nat},¬ k<C.size->C.getD k false=false:=λ{C k} h=>by simp [Array.getD,h]
 have Mu:∀ m,A.getD m false=true↔B.getD (ee.idxOf m) false=true:=λm=>by
  by_cases hm:m<l.length
  ·obtain ⟨aJ,bx⟩:=jQ.mem m hm
   grind
  ·have cu:¬ ee.idxOf m<l.length:=λh=>by
    have dL:=List.idxOf_lt_length_iff.1 (by rw [jQ.len]; exact h);obtain ⟨i,hi,e⟩:=List.mem_iff_getElem.1 dL;have:=(jQ.lt i (by rw [<- jQ.len]; exact hi)).1
    grind
   grind
 rw [mem_ready,mem_ready,sB J ai];constructor
 ·rintro ⟨a,o,aU,h⟩;rw [af] at aU;cases aU;refine ⟨a,_,h1,λe he av=>?_⟩;obtain ⟨hC,VA,rfl⟩:=Array.mem_map.1 he;exact (Mu _).1 (h hC VA av)
 ·rintro ⟨a,o,aU,h⟩;rw [h1] at aU;cases aU;refine ⟨a,_,af,λe he av=>?_⟩;exact (Mu _).2 (h ⟨ee.idxOf e.on,e.ground⟩ (Array.mem_map.2 ⟨e,he,rfl⟩) av)
theorem Yp (jQ:Perm ee l.length) (o:Oper) (T:Array Value):Region.wanted (FH ee o) (yielded (lb ee l).toArray T)=Region.wanted o (yielded l.toArray T):=by
 unfold Region.wanted FH;cases aN:o.guard with
 | none=>rfl
 | some p =>
  obtain ⟨m,b⟩:=p;simp only [Option.map_some];have:yielded (lb ee l).toArray T (ee.idxOf m)=yielded l.toArray T m:=by
   unfold yielded;by_cases hm:m<l.length
   ·obtain ⟨aJ,bx⟩:=jQ.mem m hm;obtain ⟨h1,af⟩:=J5 jQ aJ;rw [bx] at h1 af;rw [h1,af];rfl
   ·have cu:¬ ee.idxOf m<l.length:=λh=>by
     have dL:=List.idxOf_lt_length_iff.1 (by rw [jQ.len]; exact h);obtain ⟨i,hi,e⟩:=List.mem_iff_getElem.1 dL;have:=(jQ.lt i (by rw [<- jQ.len]; exact hi)).1
     grind
    have cr:(lb ee l).toArray[ee.idxOf m]?=none:=by
     rw [List.getElem?_toArray];exact List.getElem?_eq_none (by simp [lb,jQ.len]; omega)
    grind
  rw [this]
theorem Yo (jQ:Perm ee l.length):∀ (fuel:Nat) (A B:Array Bool) (a:Act) (w:World),A.size=l.length->B.size=l.length->(∀ J,J<l.length->B.getD J true=A.getD (ee.getD J l.length) true) ->
  wpAny P .any (lb ee l).toArray Q fuel B a w->wpAny P .any l.toArray Q fuel A a w:=by
 have lift:∀ {A B:Array Bool},A.size=l.length->B.size=l.length->(∀ J,J<l.length->B.getD J true=A.getD (ee.getD J l.length) true)->∀ k,k∈Region.ready .any l.toArray A->∃ J,J<l.length/\ee.getD J l.length=k/\J∈Region.ready .any (lb ee l).toArray B:=λ{A B} dQ e4 sB k hk=>by
  have dT:k<l.length:=by
   grind [mem_ready]
  obtain ⟨aJ,bx⟩:=jQ.mem k dT
  grind [Pk]
 have nil:∀ {A B:Array Bool},A.size=l.length->B.size=l.length->(∀ J,J<l.length->B.getD J true=A.getD (ee.getD J l.length) true)->Region.ready .any l.toArray A=[]->Region.ready .any (lb ee l).toArray B=[]:=λ{A B} dQ e4 sB h=>by
  cases ah:Region.ready .any (lb ee l).toArray B with
  | nil=>rfl
  | cons J r =>
   have ai:J∈Region.ready .any (lb ee l).toArray B:=by rw [ah]; simp
   have eU:J<l.length:=by
    grind [mem_ready]
   have:=(Pk jQ dQ e4 sB eU).2 ai
   grind
 intro fuel
 induction fuel with
 | zero =>
  intro A B a w dQ e4 sB h;refine ⟨?_,h.2⟩;cases ah:Region.ready .any l.toArray A with
  | nil=>rfl
  | cons k r =>
   obtain ⟨J,_,_,ai⟩:=lift dQ e4 sB k (by rw [ah]; simp);rw [h.1] at ai;cases ai
 | succ fuel aM =>
  intro A B a w dQ e4 sB h;refine ⟨λah=>h.1 (nil dQ e4 sB ah),λk hk=>?_⟩;obtain ⟨J,eU,rfl,ai⟩:=lift dQ e4 sB k hk;have ay:=h.2 J ai;obtain ⟨h1,af⟩:=J5 jQ eU;have Ub:∀ i,i<l.length->(B.setIfInBounds J true).getD i true=(A.setIfInBounds (ee.getD J l.length) true).getD (ee.getD i l.length) true:=λi hi=>by
   have aT:=(jQ.lt J eU).1;have IE:=(jQ.lt i hi).1;have e:∀ (C:Array Bool) (p q:Nat),p<C.size->q<C.size->(C.setIfInBounds p true).getD q true=if q=p then true else C.getD q true:=λC p q au a7=>by
    by_cases h:q=p
    ·simp_all
    ·rw [if_neg h];simp [Array.getD,a7,Array.getElem_setIfInBounds_ne,Ne.symm h]
   rw [e B J i (by omega) (by omega),e A _ _ (by omega) (by omega),sB i hi];by_cases h:i=J
   ·grind
   ·rw [if_neg h,if_neg];intro aI;have:=(jQ.lt i hi).2;rw [aI,(jQ.lt J eU).2] at this
    grind
  have mono:∀ a w,wpAny P .any (lb ee l).toArray Q fuel (B.setIfInBounds J true) a w->wpAny P .any l.toArray Q fuel (A.setIfInBounds (ee.getD J l.length) true) a w:=λa w aI=>aM _ _ a w (by simpa using dQ) (by simpa using e4) Ub aI;unfold wpOp at ay ⊢;rw [af];rw [h1] at ay;simp only [Yp jQ] at ay;show if Region.wanted (l.getD (ee.getD J l.length) default) (yielded l.toArray a.tmps)=true then _ else _
  split
  ·rename_i hw;rw [if_pos hw] at ay;exact ay.imp (λaI=>Oper.wp_mono mono aI) id
  ·rename_i hw;rw [if_neg hw] at ay;exact mono _ _ ay
end
section
variable {P:Program}{N:cS}
theorem W.YO {id:Nat}{l:List Oper}{G:List (Nat × ab)}{Φ:Exit->aK->Prop}(ee:List Nat) (a':List (List Nat)) (G1:List (Nat × ab)) (hm:P.follows .mixedOrders=true) (dQ:pe (lb ee l).toArray a'=true) (jQ:J4 ee l.length=true)
  (h:bE P N (lb ee l).toArray a' (get G) 0 [] (lb ee l) λg'=>kj g' (get G1)) (hk:aE .normal Φ G1):W P N (.region id l.toArray true) (get G) Φ:=by
 have au:=Yn jQ;obtain ⟨g',h1,af⟩:=h [] 0 .nil .nil (by simp);have eM:(lb ee l).toArray.size=l.length:=by simp [lb,au.len]
 refine fN.w (g':=g') (e:=.normal) ?_ (hk g' (.eB af .hS));intro Q a w I Fs bn a_ dA;refine wp_region_any hm ?_;have dZ:cF w.drew I a.tmps (get G) Fs:=bn.world (λ_ _ _=>rfl) (λ_ _=>rfl) (Nat.le_refl _);have hj:∀ k,du (Array.replicate (lb ee l).toArray.size false) k=false:=by
  intro k;unfold du;rcases Nat.lt_or_ge k (lb ee l).toArray.size with h | h
  ·simp_all
  grind
 refine Yo au _ _ (Array.replicate l.length false) a w.drew (by simp) (by simp) (λJ ai=>?_) ?_
 ·have:=(au.lt J ai).1
  simp_all
 have wZ:=h1.sound dQ .nil (lb ee l).toArray.size (Array.replicate (lb ee l).toArray.size false) a w.drew I Fs ?_ (by simp) (λk hk=>by omega) (λk _=>hj k) (λk hk=>by rw [hj] at hk; cases hk) dZ a_ (λbZ w' aA=>dA _ _ ?_)
 ·grind
 ·grind [hq]
 ·obtain ⟨cr,b9,I',b2,h7,bT⟩:=aA;exact ⟨cr,b9,I',b2,h7,⟨⟨bT.dF.os,bT.dF.tape,bT.dF.output,bT.dF.size,bT.dF.block,bT.dF.dS,Nat.le_trans (Nat.le_succ _) bT.dF.wS⟩,bT.more,bT.new,bT.own⟩⟩
end
end Go.Own
namespace Go.Own
open Go
set_option linter.unusedSectionVars false
variable [cI]
section
variable {α:Type}{P:Program}{N:cS}{g:aK}{a b:Operand}{t:TypeId}{m i:Int}
end
end Go.Own
namespace Go.Own
open Go
set_option linter.unusedSectionVars false
variable [cI]
section
variable {P:Program}{N:cS}{ops:Array Oper}{a':List (List Nat)}{g g0:aK}{K:aK->Prop}{l:List Oper}{acc:Acc}{d i J t':Nat}{op:Op}{ty:TypeId}{pos:String}{after:Array Edge}{x:ab}{b c:Bool}
theorem gL (av:c=!b) (hk:aC P N ops l (cK g d (.bQ [])) K) (h:(ops[J]?).bind (·.dst)=some t':=by rfl) (aN:g t'=some (.lit (.bool c)):=by rfl) (a_:N.ok d=true:=by rfl) (aS:g d=none:=by rfl):aC P N ops (⟨some d,op,ty,pos,after,some (J,b)⟩::l) g K:=.ps h aN av a_ aS hk
theorem DI (hk:aC P N ops l (cK g d (.bQ [])) K) (h:(ops[J]?).bind (·.dst)=some t':=by rfl) (aN:g t'=some (.bQ []):=by rfl) (a_:N.ok d=true:=by rfl) (aS:g d=none:=by rfl):aC P N ops (⟨some d,op,ty,pos,after,some (J,b)⟩::l) g K:=.pu h aN a_ aS hk
theorem cq (av:c=b) (au:b7 P g op ty x) (hk:aC P N ops l (cK g d x) K) (h:(ops[J]?).bind (·.dst)=some t':=by rfl) (aN:g t'=some (.lit (.bool c)):=by rfl) (a_:N.ok d=true:=by rfl) (aS:g d=none:=by rfl):aC P N ops (⟨some d,op,ty,pos,after,some (J,b)⟩::l) g K:=.v au a_ aS (.iD h aN av) hk
theorem Rc (hk:aC P N ops l (cK g d (.bQ [])) K) (h:(ops[J]?).bind (·.dst)=some t':=by rfl) (aN:g t'=some (.lit (.bool c)):=by rfl) (av:c=!b:=by assumption) (a_:N.ok d=true:=by rfl) (aS:g d=none:=by rfl):aC P N ops (⟨some d,op,ty,pos,after,some (J,b)⟩::l) g K:=.ps h aN av a_ aS hk
theorem e3 (au:b7 P g op ty x) (hk:aC P N ops l (cK g d x) K) (h:(ops[J]?).bind (·.dst)=some t':=by rfl) (aN:g t'=some (.lit (.bool c)):=by rfl) (av:c=b:=by assumption) (a_:N.ok d=true:=by rfl) (aS:g d=none:=by rfl):aC P N ops (⟨some d,op,ty,pos,after,some (J,b)⟩::l) g K:=.v au a_ aS (.iD h aN av) hk
theorem ib (bw:Nat) (av:c=!b) (hk:bE P N ops a' g0 i ((bw,d,some (.bQ []))::acc) l K) (h:(ops[J]?).bind (·.dst)=some t':=by rfl) (aN:jv a' g0 bw acc t'=some (bc c):=by rfl) (ai:Nat.beq ops.size (bw+l.length+1)=true:=by rfl) (aS:g0 d=none:=by rfl) (aA:acc.all (λe=>!Nat.beq e.2.1 d)=true:=by rfl) (a_:N.ok d=true:=by rfl):bE P N ops a' g0 i acc (⟨some d,op,ty,pos,after,some (J,b)⟩::l) K:=.ps bw h aN av ai aS aA a_ hk
theorem kR (bw:Nat) (hk:bE P N ops a' g0 i ((bw,d,some (.bQ []))::acc) l K) (h:(ops[J]?).bind (·.dst)=some t':=by rfl) (aN:jv a' g0 bw acc t'=some (.bQ []):=by rfl) (ai:Nat.beq ops.size (bw+l.length+1)=true:=by rfl) (aS:g0 d=none:=by rfl) (aA:acc.all (λe=>!Nat.beq e.2.1 d)=true:=by rfl) (a_:N.ok d=true:=by rfl):bE P N ops a' g0 i acc (⟨some d,op,ty,pos,after,some (J,b)⟩::l) K:=.pu bw h aN ai aS aA a_ hk
theorem iN (bw:Nat) (av:c=b) (au:b7 P (jv a' g0 bw acc) op ty x) (hk:bE P N ops a' g0 i ((bw,d,some x)::acc) l K) (h:(ops[J]?).bind (·.dst)=some t':=by rfl) (aN:jv a' g0 bw acc t'=some (.lit (.bool c)):=by rfl) (ai:Nat.beq ops.size (bw+l.length+1)=true:=by rfl) (aS:g0 d=none:=by rfl) (aA:acc.all (λe=>!Nat.beq e.2.1 d)=true:=by rfl) (a_:N.ok d=true:=by rfl):bE P N ops a' g0 i acc (⟨some d,op,ty,pos,after,some (J,b)⟩::l) K:=.v bw au ai aS aA a_ (.iD h aN av) hk
end
section
variable {P:Program}{N:cS}{ops:Array Oper}{g:aK}{K:aK->Prop}{l:List Oper}{A B:Code}{G G1:List (Nat × ab)}{Φ:Exit->aK->Prop}{t id:Nat}{b:Bool}{α:Type}{X Y o:α}
theorem W.cc (h:(bif b then X else Y)=o) (aa:get G t=some (bc b)) (dk:b=true->X=o->W P N A (get G) Φ) (aH:b=false->Y=o->W P N B (get G) Φ):W P N (.cond (.tmp t) A B) (get G) Φ:=W.gB aa (λe=>dk e (y4 e h)) (λe=>aH e (y3 e h))
def pick (g:aK):List Nat->Option (List (Nat × ab))
 | []=>some []
 | k::ks=>match g k with
  | some x=>match pick g ks with
   | some l=>some ((k,x)::l)
   | none=>none
  | none=>none
class iq (l:List (Nat × ab)):Prop where p:∀ e∈l,cE e.2
instance:iq []:=⟨λ_ h=>by cases h⟩
instance {k:Nat}{x:ab}{l:List (Nat × ab)} [h:b4 x] [aj:iq l]:iq ((k,x)::l):=⟨λe he=>by
 rcases List.mem_cons.1 he with rfl | he
 ·exact h.bl
 ·exact aj.p e he⟩
theorem uH {c:Bool}{g g2:aK}:∀ {ks:List Nat}{G1:List (Nat × ab)},pick g ks=some G1->(∀ e∈G1,cE e.2)->Trim c g g2 G1
 | [],_,h,_=>by cases h; exact .nil
 | k::ks,G1,h,aA=>by
  unfold pick at h
  split at h
  ·rename_i x j
   split at h
   ·rename_i l aj;cases h;have:b4 x:=⟨aA (k,x) (by simp)⟩;exact .n j (uH aj λe he=>aA e (by simp [he]))
   ·cases h
  ·cases h
structure yF (ks:List Nat) (G1:List (Nat × ab)) (g':aK):Prop where p:kj g' (get G1)
theorem bW {ks:List Nat}(h:pick g ks=some G1) [aA:iq G1]:aC P N ops [] g (yF ks G1):=.nil ⟨(uH (c:=true) (g2:=get G1) h aA.p).eB⟩
theorem Ov {l:List Oper}{ks:List Nat}(h:aC P N l.toArray l g (yF ks G1)):aC P N l.toArray l g λg'=>kj g' (get G1):=λi hi=>by
 obtain ⟨g',h1,af⟩:=h i hi;exact ⟨g',h1,af.p⟩
theorem aC.b' (ks:List Nat) (h:pick g ks=some G1) [aA:iq G1] (hk:aC P N ops l (get G1) K):aC P N ops l g K:=.C5 (uH h aA.p) hk
theorem W.b' {l:List Oper}(ks:List Nat) (h:aC P N l.toArray l (get G) (yF ks G1)) (hk:aE .normal Φ G1):W P N (.region id l.toArray false) (get G) Φ:=W.rx G1 (Ov h) hk
theorem W.rs {l:List Oper}(G1:List (Nat × ab)) (h:aC P N l.toArray l (get G) λg'=>kj g' (get G1)) (hk:W P N B (get G1) Φ):W P N (.seq (.region id l.toArray false) B) (get G) Φ:=W.bP (W.rx G1 h (aE.bJ hk))
theorem W.dr {l:List Oper}(ks:List Nat) (h:aC P N l.toArray l (get G) (yF ks G1)) (hk:W P N B (get G1) Φ):W P N (.seq (.region id l.toArray false) B) (get G) Φ:=W.rs G1 (Ov h) hk
end
end Go.Own
namespace Go.Own
open Go
set_option linter.unusedSectionVars false
variable [cI]
class fw (P:Program) (t:TypeId):Prop where p:j9 P t=true:=by kernel_rfl
class iO (P:Program) (t:TypeId):Prop where p:oc P t=true:=by kernel_rfl
class d_ (P:Program) (t:TypeId) (e:outParam TypeId) (z:outParam Nat):Prop where p:fb P t e z=true:=by kernel_rfl
class cP (P:Program) (s:TypeId) (f:Nat) (off:outParam Nat) (t:outParam TypeId):Prop where p:iV P s f off t=true:=by kernel_rfl
section
variable {P:Program}{N:cS}{ops:Array Oper}{g:aK}{K:aK->Prop}{l:List Oper}{ty t:TypeId}{a:Operand}{k r z n:Nat}{cs jC:List ab}
theorem O.pz {v:Value}(ay:g r=some (.obj cs)) (j:Rd g a (.ptr ⟨r,[]⟩ k)) (aq:j9 P t=true) (aa:cs[k]?=some (.lit v)):b7 P g (.load t a) ty (.lit v):=O.xz ay j aq aa rfl
theorem O.zB (ay:g r=some (.obj cs)) (j:Rd g a (.ptr ⟨r,[]⟩ k)) (aq:j9 P t=true) (aa:cs[k]?=some (.bm z n jC)):b7 P g (.load t a) ty (.bm z n jC):=O.xz ay j aq aa rfl
theorem O.zC (ay:g r=some (.obj cs)) (j:Rd g a (.ptr ⟨r,[]⟩ k)) (aq:j9 P t=true) (aa:cs[k]?=some (.own z n jC)):b7 P g (.load t a) ty (.bg z ⟨r,[k]⟩ n):=O.xz ay j aq aa rfl
end
section
variable {P:Program}{N:cS}{ops:Array Oper}{g:aK}{K:aK->Prop}{l:List Oper}{t0 d:Nat}{t1 t2 ty:TypeId}{aB a2 a3:Operand}{mQ:Nat}{v0:Value}{pos:String}{after:Array Edge}{op:Op}{acd:Nat × Bool}
theorem aC.bH (op:Op) (u:Option (Nat × Bool)) (h:aC P N ops (⟨some d,op,ty,pos,after,u⟩::l) g K):aC P N ops (⟨some d,op,ty,pos,after,u⟩::l) g K:=h
theorem aC.nl (h:aC P N ops [] g K):aC P N ops [] g K:=h
theorem aC.RL {o:Oper}{hQ f_:List Oper}(h:aC P N ops (o::List.append hQ f_) g K):aC P N ops (List.append (o::hQ) f_) g K:=h
theorem aC.RM {f_:List Oper}(h:aC P N ops f_ g K):aC P N ops (List.append [] f_) g K:=h
theorem aC.bI (h:aC P N ops l g K:=by
(repeat' (first
 | exact gn .nil
 | exact .nil
 | refine .n rfl ?_
 | (first
  | ((with_reducible apply aC.bH (.move (.tmp _)) none); (first | refine c7 rfl ?_ | refine ax (O.aZ (.bm rfl)) ?_ | refine ax (O.aZ (.own rfl)) ?_ | refine ax (O.aZ (.obj rfl)) ?_ | refine ax (O.aZ (.cO rfl)) ?_ | refine ax (O.aZ (.ptr rfl)) ?_ | refine ax (O.aZ (.bg rfl)) ?_))
  | ((with_reducible apply aC.bH (.load _ _) none); (first | refine ax (O.pz rfl (.ptr rfl) fw.p rfl) ?_ | refine ax (O.Cc (.cO rfl) fw.p rfl) ?_ | refine ax (O.zB rfl (.ptr rfl) fw.p rfl) ?_ | refine ax (O.pz rfl (.obj rfl) fw.p rfl) ?_ | refine ax (O.zB rfl (.obj rfl) fw.p rfl) ?_ | refine ax (O.zC rfl (.ptr rfl) fw.p rfl) ?_ | refine ax (O.zC rfl (.obj rfl) fw.p rfl) ?_))
  | ((with_reducible apply aC.bH (.fieldAddr _ _ _) none); (first | refine ax (O.ng rfl (.obj rfl) cP.p rfl) ?_ | refine ax (O.A6 (.cO rfl) cP.p) ?_ | refine ax (O.ng rfl (.ptr rfl) cP.p rfl) ?_))
  | ((with_reducible apply aC.bH (.assign (.tmp _)) none); (first | refine qM rfl ?_ | refine ax (O.dy (.bm rfl)) ?_ | refine ax (O.dy (.own rfl)) ?_ | refine ax (O.dy (.obj rfl)) ?_ | refine ax (O.dy (.cO rfl)) ?_ | refine ax (O.dy (.ptr rfl)) ?_ | refine ax (O.dy (.bg rfl)) ?_))
  | ((with_reducible apply aC.bH (.assign (.const _)) none); (first | refine u4 rfl ?_ | refine ax (O.dy .zz) ?_))
  | ((with_reducible apply aC.bH (.indexAddr _ _ _) none); (first | refine ax (O.qX (.bm rfl) (.lit rfl) d_.p (by assumption)) ?_ | refine ax (O.qX (.bm rfl) (.k rfl) d_.p (by assumption)) ?_))
  | ((with_reducible apply aC.bH (.binOp .add _ _ _ _) none); (first | refine ax (O.add (.lit rfl) (.k rfl)) ?_ | refine ax (O.add (.lit rfl) (.lit rfl)) ?_ | refine ax (O.add (.k rfl) (.lit rfl)) ?_))
  | ((with_reducible apply aC.bH (.binOp .lss _ _ _ _) none); (first | refine ax (O.lss (.lit rfl) (.k rfl)) ?_ | refine ax (O.lss (.lit rfl) (.lit rfl)) ?_ | refine ax (O.lss (.k rfl) (.lit rfl)) ?_))
  | ((with_reducible apply aC.bH (.binOp .eql _ _ _ _) none); (first | refine ax (O.eql (.lit rfl) (.k rfl)) ?_ | refine ax (O.eql (.lit rfl) (.lit rfl)) ?_ | refine ax (O.eql (.k rfl) (.lit rfl)) ?_ | refine ax (O.nS (.lit rfl) (.lit rfl)) ?_ | refine ax (O.nS (.lit rfl) (.k rfl)) ?_))
  | ((with_reducible apply aC.bH (.binOp .neq _ _ _ _) none); (first | refine ax (O.neq (.lit rfl) (.k rfl)) ?_ | refine ax (O.neq (.lit rfl) (.lit rfl)) ?_ | refine ax (O.neq (.k rfl) (.lit rfl)) ?_ | refine ax (O.nE (.lit rfl) (.lit rfl)) ?_ | refine ax (O.nE (.lit rfl) (.k rfl)) ?_))
  | ((with_reducible apply aC.bH (.binOp .geq _ _ _ _) none); (first | refine ax (O.geq (.lit rfl) (.k rfl)) ?_ | refine ax (O.geq (.lit rfl) (.lit rfl)) ?_ | refine ax (O.geq (.k rfl) (.lit rfl)) ?_))
  | ((with_reducible apply aC.bH (.binOp .gtr _ _ _ _) none); (first | refine ax (O.gtr (.lit rfl) (.k rfl)) ?_ | refine ax (O.gtr (.lit rfl) (.lit rfl)) ?_ | refine ax (O.gtr (.k rfl) (.lit rfl)) ?_))
  | ((with_reducible apply aC.bH (.binOp .sub _ _ _ _) none); (first | refine ax (O.sub (.lit rfl) (.k rfl)) ?_ | refine ax (O.sub (.lit rfl) (.lit rfl)) ?_ | refine ax (O.sub (.k rfl) (.lit rfl)) ?_))
  | ((with_reducible apply aC.bH (.binOp .leq _ _ _ _) none); (first | refine ax (O.leq (.lit rfl) (.k rfl)) ?_ | refine ax (O.leq (.lit rfl) (.lit rfl)) ?_ | refine ax (O.leq (.k rfl) (.lit rfl)) ?_))
  | ((with_reducible apply aC.bH (.pick _ _ _) none); (first | refine ax (O.js (.lit rfl) rfl (.lit rfl)) ?_ | refine ax (O.jI (.lit rfl) rfl (.lit rfl)) ?_ | refine ax (O.js (.lit rfl) rfl (.k rfl)) ?_ | refine ax (O.jI (.lit rfl) rfl (.k rfl)) ?_ | refine ax (O.js (.lit rfl) (by assumption) (.lit rfl)) ?_ | refine ax (O.jI (.lit rfl) (by assumption) (.lit rfl)) ?_ | refine ax (O.js (.lit rfl) (by assumption) (.k rfl)) ?_ | refine ax (O.jI (.lit rfl) (by assumption) (.k rfl)) ?_))
  | ((with_reducible apply aC.bH (.call { callee:=.builtin .len,args:=#[_],argTypes:=#[_] }) none); (first | refine ax (O.jr (.bm rfl) d_.p) ?_ | refine ax (O.nA (.bg rfl) d_.p) ?_ | refine ax (O.nA (.own rfl) d_.p) ?_ | refine ax (O.oR (.lit rfl) iO.p) ?_))
  | ((with_reducible apply aC.bH (.unOp .not _ _) none); (first | refine ax (O.not (.lit rfl)) ?_))
  | ((with_reducible apply aC.bH (.nilCheck _) none); (first | refine ax (O.ev (.ptr rfl)) ?_ | refine ax (O.xF (.cO rfl)) ?_ | refine ax (O.ev (.obj rfl)) ?_))
  | ((with_reducible apply aC.bH (.index _ _ _) none); (first | refine ax (O.at' (.lit rfl) (.lit rfl) iO.p (by assumption)) ?_))
  | ((with_reducible apply aC.bH (.move (.const _)) none); (first | refine ax (O.aZ (.k rfl)) ?_ | refine ax (O.aZ .zz) ?_)))
 | ((with_reducible apply aC.nl); first | exact bW rfl | refine gn ?_)
 | ((with_reducible apply aC.bH _ (some _)); first
  | (first | refine gL rfl ?_ | refine Rc ?_ | refine DI ?_)
  | ((with_reducible apply aC.bH (.move (.tmp _)) (some _)); (first | refine cq rfl (O.aZ (.lit rfl)) ?_ | refine e3 (O.aZ (.lit rfl)) ?_ | refine cq rfl (O.aZ (.bm rfl)) ?_ | refine e3 (O.aZ (.bm rfl)) ?_ | refine cq rfl (O.aZ (.own rfl)) ?_ | refine e3 (O.aZ (.own rfl)) ?_ | refine cq rfl (O.aZ (.obj rfl)) ?_ | refine e3 (O.aZ (.obj rfl)) ?_ | refine cq rfl (O.aZ (.cO rfl)) ?_ | refine e3 (O.aZ (.cO rfl)) ?_ | refine cq rfl (O.aZ (.ptr rfl)) ?_ | refine e3 (O.aZ (.ptr rfl)) ?_ | refine cq rfl (O.aZ (.bg rfl)) ?_ | refine e3 (O.aZ (.bg rfl)) ?_))
  | ((with_reducible apply aC.bH (.load _ _) (some _)); (first | refine cq rfl (O.pz rfl (.ptr rfl) fw.p rfl) ?_ | refine e3 (O.pz rfl (.ptr rfl) fw.p rfl) ?_ | refine cq rfl (O.Cc (.cO rfl) fw.p rfl) ?_ | refine e3 (O.Cc (.cO rfl) fw.p rfl) ?_ | refine cq rfl (O.zB rfl (.ptr rfl) fw.p rfl) ?_ | refine e3 (O.zB rfl (.ptr rfl) fw.p rfl) ?_ | refine cq rfl (O.pz rfl (.obj rfl) fw.p rfl) ?_ | refine e3 (O.pz rfl (.obj rfl) fw.p rfl) ?_ | refine cq rfl (O.zB rfl (.obj rfl) fw.p rfl) ?_ | refine e3 (O.zB rfl (.obj rfl) fw.p rfl) ?_ | refine cq rfl (O.zC rfl (.ptr rfl) fw.p rfl) ?_ | refine e3 (O.zC rfl (.ptr rfl) fw.p rfl) ?_ | refine cq rfl (O.zC rfl (.obj rfl) fw.p rfl) ?_ | refine e3 (O.zC rfl (.obj rfl) fw.p rfl) ?_))
  | ((with_reducible apply aC.bH (.fieldAddr _ _ _) (some _)); (first | refine cq rfl (O.ng rfl (.obj rfl) cP.p rfl) ?_ | refine e3 (O.ng rfl (.obj rfl) cP.p rfl) ?_ | refine cq rfl (O.A6 (.cO rfl) cP.p) ?_ | refine e3 (O.A6 (.cO rfl) cP.p) ?_ | refine cq rfl (O.ng rfl (.ptr rfl) cP.p rfl) ?_ | refine e3 (O.ng rfl (.ptr rfl) cP.p rfl) ?_))
  | ((with_reducible apply aC.bH (.indexAddr _ _ _) (some _)); (first | refine cq rfl (O.qX (.bm rfl) (.lit rfl) d_.p (by assumption)) ?_ | refine e3 (O.qX (.bm rfl) (.lit rfl) d_.p (by assumption)) ?_ | refine cq rfl (O.qX (.bm rfl) (.k rfl) d_.p (by assumption)) ?_ | refine e3 (O.qX (.bm rfl) (.k rfl) d_.p (by assumption)) ?_))
  | ((with_reducible apply aC.bH (.binOp .add _ _ _ _) (some _)); (first | refine cq rfl (O.add (.lit rfl) (.k rfl)) ?_ | refine e3 (O.add (.lit rfl) (.k rfl)) ?_ | refine cq rfl (O.add (.lit rfl) (.lit rfl)) ?_ | refine e3 (O.add (.lit rfl) (.lit rfl)) ?_ | refine cq rfl (O.add (.k rfl) (.lit rfl)) ?_ | refine e3 (O.add (.k rfl) (.lit rfl)) ?_))
  | ((with_reducible apply aC.bH (.binOp .lss _ _ _ _) (some _)); (first | refine cq rfl (O.lss (.lit rfl) (.k rfl)) ?_ | refine e3 (O.lss (.lit rfl) (.k rfl)) ?_ | refine cq rfl (O.lss (.lit rfl) (.lit rfl)) ?_ | refine e3 (O.lss (.lit rfl) (.lit rfl)) ?_ | refine cq rfl (O.lss (.k rfl) (.lit rfl)) ?_ | refine e3 (O.lss (.k rfl) (.lit rfl)) ?_))
  | ((with_reducible apply aC.bH (.binOp .eql _ _ _ _) (some _)); (first | refine cq rfl (O.eql (.lit rfl) (.k rfl)) ?_ | refine e3 (O.eql (.lit rfl) (.k rfl)) ?_ | refine cq rfl (O.eql (.lit rfl) (.lit rfl)) ?_ | refine e3 (O.eql (.lit rfl) (.lit rfl)) ?_ | refine cq rfl (O.eql (.k rfl) (.lit rfl)) ?_ | refine e3 (O.eql (.k rfl) (.lit rfl)) ?_ | refine cq rfl (O.nS (.lit rfl) (.lit rfl)) ?_ | refine e3 (O.nS (.lit rfl) (.lit rfl)) ?_ | refine cq rfl (O.nS (.lit rfl) (.k rfl)) ?_ | refine e3 (O.nS (.lit rfl) (.k rfl)) ?_))
  | ((with_reducible apply aC.bH (.binOp .neq _ _ _ _) (some _)); (first | refine cq rfl (O.neq (.lit rfl) (.k rfl)) ?_ | refine e3 (O.neq (.lit rfl) (.k rfl)) ?_ | refine cq rfl (O.neq (.lit rfl) (.lit rfl)) ?_ | refine e3 (O.neq (.lit rfl) (.lit rfl)) ?_ | refine cq rfl (O.neq (.k rfl) (.lit rfl)) ?_ | refine e3 (O.neq (.k rfl) (.lit rfl)) ?_ | refine cq rfl (O.nE (.lit rfl) (.lit rfl)) ?_ | refine e3 (O.nE (.lit rfl) (.lit rfl)) ?_ | refine cq rfl (O.nE (.lit rfl) (.k rfl)) ?_ | refine e3 (O.nE (.lit rfl) (.k rfl)) ?_))
  | ((with_reducible apply aC.bH (.binOp .geq _ _ _ _) (some _)); (first | refine cq rfl (O.geq (.lit rfl) (.k rfl)) ?_ | refine e3 (O.geq (.lit rfl) (.k rfl)) ?_ | refine cq rfl (O.geq (.lit rfl) (.lit rfl)) ?_ | refine e3 (O.geq (.lit rfl) (.lit rfl)) ?_ | refine cq rfl (O.geq (.k rfl) (.lit rfl)) ?_ | refine e3 (O.geq (.k rfl) (.lit rfl)) ?_))
  | ((with_reducible apply aC.bH (.binOp .gtr _ _ _ _) (some _)); (first | refine cq rfl (O.gtr (.lit rfl) (.k rfl)) ?_ | refine e3 (O.gtr (.lit rfl) (.k rfl)) ?_ | refine cq rfl (O.gtr (.lit rfl) (.lit rfl)) ?_ | refine e3 (O.gtr (.lit rfl) (.lit rfl)) ?_ | refine cq rfl (O.gtr (.k rfl) (.lit rfl)) ?_ | refine e3 (O.gtr (.k rfl) (.lit rfl)) ?_))
  | ((with_reducible apply aC.bH (.binOp .sub _ _ _ _) (some _)); (first | refine cq rfl (O.sub (.lit rfl) (.k rfl)) ?_ | refine e3 (O.sub (.lit rfl) (.k rfl)) ?_ | refine cq rfl (O.sub (.lit rfl) (.lit rfl)) ?_ | refine e3 (O.sub (.lit rfl) (.lit rfl)) ?_ | refine cq rfl (O.sub (.k rfl) (.lit rfl)) ?_ | refine e3 (O.sub (.k rfl) (.lit rfl)) ?_))
  | ((with_reducible apply aC.bH (.binOp .leq _ _ _ _) (some _)); (first | refine cq rfl (O.leq (.lit rfl) (.k rfl)) ?_ | refine e3 (O.leq (.lit rfl) (.k rfl)) ?_ | refine cq rfl (O.leq (.lit rfl) (.lit rfl)) ?_ | refine e3 (O.leq (.lit rfl) (.lit rfl)) ?_ | refine cq rfl (O.leq (.k rfl) (.lit rfl)) ?_ | refine e3 (O.leq (.k rfl) (.lit rfl)) ?_))
  | ((with_reducible apply aC.bH (.call { callee:=.builtin .len,args:=#[_],argTypes:=#[_] }) (some _)); (first | refine cq rfl (O.jr (.bm rfl) d_.p) ?_ | refine e3 (O.jr (.bm rfl) d_.p) ?_ | refine cq rfl (O.nA (.bg rfl) d_.p) ?_ | refine e3 (O.nA (.bg rfl) d_.p) ?_ | refine cq rfl (O.nA (.own rfl) d_.p) ?_ | refine e3 (O.nA (.own rfl) d_.p) ?_ | refine cq rfl (O.oR (.lit rfl) iO.p) ?_ | refine e3 (O.oR (.lit rfl) iO.p) ?_))
  | ((with_reducible apply aC.bH (.unOp .not _ _) (some _)); (first | refine cq rfl (O.not (.lit rfl)) ?_ | refine e3 (O.not (.lit rfl)) ?_))
  | ((with_reducible apply aC.bH (.nilCheck _) (some _)); (first | refine cq rfl (O.ev (.ptr rfl)) ?_ | refine e3 (O.ev (.ptr rfl)) ?_ | refine cq rfl (O.xF (.cO rfl)) ?_ | refine e3 (O.xF (.cO rfl)) ?_ | refine cq rfl (O.ev (.obj rfl)) ?_ | refine e3 (O.ev (.obj rfl)) ?_))
  | ((with_reducible apply aC.bH (.index _ _ _) (some _)); (first | refine cq rfl (O.at' (.lit rfl) (.lit rfl) iO.p (by assumption)) ?_ | refine e3 (O.at' (.lit rfl) (.lit rfl) iO.p (by assumption)) ?_)))
 | with_reducible apply aC.RL
 | with_reducible apply aC.RM))):aC P N ops l g K:=h
theorem W.Ry {id:Nat}{l:List Oper}{G G1:List (Nat × ab)}{Φ:Exit->aK->Prop}(ks:List Nat) (hk:aE .normal Φ G1) (h:aC P N l.toArray l (get G) (yF ks G1):=by exact aC.bI):W P N (.region id l.toArray false) (get G) Φ:=W.b' ks h hk
theorem W.c5 {id:Nat}{l:List Oper}{B:Code}{G G1:List (Nat × ab)}{Φ:Exit->aK->Prop}(ks:List Nat) (hk:W P N B (get G1) Φ) (h:aC P N l.toArray l (get G) (yF ks G1):=by exact aC.bI):W P N (.seq (.region id l.toArray false) B) (get G) Φ:=W.dr ks h hk
end
end Go.Own
namespace Go.Own
open Go
set_option linter.unusedSectionVars false
variable [cI]
section
variable {P:Program}{N:cS}{G:List (Nat × ab)}{g':aK}
theorem jL {rs:List ResultVar}{ys xs:List ab}{res:ab}{outs:List (Option ab)}{n:Nat}(h:j1 P (get G) rs ys xs g') (he:oV xs=res:=by rfl) (aU:qI g' N.pins 0 outs:=by (repeat' first | exact .nil | refine .no ?_)) (fj:(rs.filterMap fun | .cell t _=>some t | _=>none).Nodup:=by exact of_decide_eq_true (by kernel_rfl)) (aj:outs.length=n:=by rfl):aE .ret (pS P N rs n outs res) G:=aE.fin (Fin.ro h he fj aU aj (.inr rfl))
end
end Go.Own
namespace Go.Own
open Go
set_option linter.unusedSectionVars false
variable [cI]
section
variable {P:Program}{N:cS}{G:List (Nat × ab)}{g':aK}{S R:Type}
theorem aV {α β:Type}{x:Option α}{f:α->Option β}{r:β}{G:Prop}(h:x.bind f=some r) (k:∀ a,x=some a->f a=some r->G):G:=by
 obtain ⟨a,h1,af⟩:=hh h
 grind
theorem Rd.bj {g:aK}{t:Nat}{v:Value}(h:g t=some (.lit v):=by rfl):Rd g (.tmp t) (.lit v):=.lit h
theorem Rd.z2 {g:aK}{t z n:Nat}{cs:List ab}(h:g t=some (.bm z n cs):=by rfl):Rd g (.tmp t) (.bm z n cs):=.bm h
theorem Rd.z3 {g:aK}{t z n:Nat}{cs:List ab}(h:g t=some (.own z n cs):=by rfl):Rd g (.tmp t) (.bg z ⟨t,[]⟩ n):=.own h
theorem Rd.z4 {g:aK}{t:Nat}{c:ab}{cs:List ab}(h:g t=some (.obj (c::cs)):=by rfl):Rd g (.tmp t) (.ptr ⟨t,[]⟩ 0):=.obj h
theorem Rd.z5 {g:aK}{t k:Nat}{p:Place}(h:g t=some (.ptr p k):=by rfl):Rd g (.tmp t) (.ptr p k):=.ptr h
theorem Rd.dw {g:aK}{t z n:Nat}{p:Place}(h:g t=some (.bg z p n):=by rfl):Rd g (.tmp t) (.bg z p n):=.bg h
theorem Rd.uU {g:aK}{t:Nat}{cs:List ab}(h:g t=some (.cO cs):=by rfl):Rd g (.tmp t) (.cO cs):=.cO h
theorem Rd.cR {g:aK}{v:Value}(h:ofConst v=.lit v:=by rfl):Rd g (.const v) (.lit v):=.k h
theorem aE.ek {G1:List (Nat × ab)}(h:Trim true (get G) (get G1) G1:=by (repeat' first | exact .nil | refine .n rfl ?_)):aE .normal (λe g=>e=.normal/\ia g G1) G:=aE.b6 h
theorem aE.gt {s:S}{F:S->List (Nat × ab)}{Ψ:R->Exit->aK->Prop}(h:Trim true (get G) (get (F s)) (F s):=by (repeat' first | exact .nil | refine .n rfl ?_)):aE .normal (kV F Ψ (.inl s)) G:=aE.go h
theorem aE.t1 {id:Nat}{r:R}{F:S->List (Nat × ab)}{l7:R->List (Nat × ab)}(h:Trim true (get G) (get (l7 r)) (l7 r):=by (repeat' first | exact .nil | refine .n rfl ?_)):aE (.exit id) (kV F (λr e g=>e=.exit id/\ia g (l7 r)) (.inr r)) G:=aE.a6 h
theorem Gy {rs:List ResultVar}{ys xs:List ab}{res:ab}{outs:List (Option ab)}{n:Nat}(h:j1 P (get G) rs ys xs g':=by exact .f rfl rfl .nil) (he:oV xs=res:=by rfl) (aU:qI g' N.pins 0 outs:=by (repeat' first | exact .nil | refine .no ?_)) (fj:(rs.filterMap fun | .cell t _=>some t | _=>none).Nodup:=by exact of_decide_eq_true (by kernel_rfl)) (aj:outs.length=n:=by rfl):aE .ret (pS P N rs n outs res) G:=by grind [jL]
end
end Go.Own
namespace Go.Own
open Go
set_option linter.unusedSectionVars false
variable [cI]
section
variable {α:Type}{P:Program}{g:aK}{ty t:TypeId}{a b:Operand}{k r z n:Nat}{cs cs':List ab}{x y:ab}{p:Place}{m:Int}{qf:IntKind}{e:TypeId}{N:cS}{ops:Array Oper}
theorem O.bN {cp f off:Nat} [h:cP P cp f off t] (j:Rd g a (.ptr ⟨r,[]⟩ k):=by exact .obj rfl) (ay:g r=some (.obj cs):=by rfl) (aj:Nat.blt (k+off) cs.length=true:=by rfl):b7 P g (.fieldAddr cp a f) ty (.ptr ⟨r,[]⟩ (k+off)):=O.ng ay j h.p aj
theorem O.y2 {cp f off:Nat} [h:cP P cp f off t] (j:Rd g a (.ptr ⟨r,[]⟩ k):=by exact .ptr rfl) (ay:g r=some (.obj cs):=by rfl) (aj:Nat.blt (k+off) cs.length=true:=by rfl):b7 P g (.fieldAddr cp a f) ty (.ptr ⟨r,[]⟩ (k+off)):=O.ng ay j h.p aj
theorem O.ew {v:Value} [h:fw P t] (j:Rd g a (.ptr ⟨r,[]⟩ k):=by exact .ptr rfl) (ay:g r=some (.obj cs):=by rfl) (aa:cs[k]?=some (.lit v):=by rfl):b7 P g (.load t a) ty (.lit v):=O.pz ay j h.p aa
theorem O.gW {en:bz α}{L:List α}{y:α}{bs:Nat}(h:idx L m=some y) [aJ:d_ P t e bs] (j:Rd g a (.bm en.z L.length (bq en L)):=by exact .bm rfl) (al:Rd g b (.lit (.int qf m)):=by exact .lit rfl) (aW:bs=en.z:=by rfl):b7 P g (.indexAddr t a b) ty (.cO (en.cells y++bq en (L.drop (m.toNat+1)))):=O.qX j al (aW ▸ aJ.p) h
theorem O.dz [h:fw P t] (j:Rd g a (.ptr ⟨r,[]⟩ k):=by exact .ptr rfl) (ay:g r=some (.obj cs):=by rfl) (aa:cs[k]?=some x:=by rfl) (al:fD 0 ⟨r,[k]⟩ x=y:=by rfl):b7 P g (.load t a) ty y:=O.xz ay j h.p aa al
theorem O.hJ [h:fw P t] (j:Rd g a (.cO cs):=by exact .cO rfl) (aa:cs.head?=some x:=by rfl):b7 P g (.load t a) ty x:=O.Cc j h.p aa
theorem O.pP {cp f off:Nat} [h:cP P cp f off t] (j:Rd g a (.cO cs):=by exact .cO rfl):b7 P g (.fieldAddr cp a f) ty (.cO (cs.drop off)):=O.A6 j h.p
theorem O.o4 {bs:Nat} [h:d_ P t e bs] (j:Rd g a (.bm z n cs):=by exact .bm rfl):b7 P g (.call { callee:=.builtin .len,args:=#[a],argTypes:=#[t] }) ty (ae n):=O.jr j h.p
theorem cV.ff {xs:List Operand}{ga:Array TypeId}{f:FuncId}{ys:List ab}{outs:List (Option ab)}{res:ab}(j:ru g xs ys) (hb:b1 P f ys outs res) [ah:b4 res] (aS:jB P f=true:=by kernel_rfl) (aU:sW outs=true:=by rfl):cV P g (.call { callee:=.value (.func f),args:=xs.toArray,argTypes:=ga }) res:=by grind [cV.go]
theorem cV.sg {xs:List Operand}{ga:Array TypeId}{f:FuncId}{ys args:List ab}{outs:List (Option ab)}{res:ab}(j:fC g xs=some ys) (hv:ot g ys args) (hb:b1 P f args outs res) [ah:oj res] (aS:jB P f=true:=by kernel_rfl) (aU:sW outs=true:=by rfl):cV P g (.call { callee:=.value (.func f),args:=xs.toArray,argTypes:=ga }) res:=by grind [cV.vw]
end
section
variable {P:Program}{N:cS}{ops:Array Oper}{a':List (List Nat)}{K:aK->Prop}{i:Nat}{acc:Acc}{l:List Oper}{d:Nat}
theorem bE.jA (bw:Nat) {G G2:List (Nat × ab)}{o:Oper}(he:br P N (c3 (get G) (λ_=>true) acc) o (get G2)) (hk:bE P N ops a' (get G2) (bw+1) [] l K) (aN:o.guard=none:=by rfl) (gw:q2 ((acc.filterMap jV).map Place.root)=true:=by rfl) (fB:lY G=true:=by rfl) (ai:Nat.beq ops.size (bw+l.length+1)=true:=by rfl) (aR:(List.range bw).all (λk=>(a'.getD bw []).contains k)=true:=by kernel_rfl) (av:(List.range ops.size).all (λk=>Nat.ble k bw||(a'.getD k []).contains bw)=true:=by kernel_rfl):bE P N ops a' (get G) i acc (o::l) K:=.wI bw he aN gw fB ai aR av hk
theorem bE.DW (bw:Nat) {G G2:List (Nat × ab)}{o:Oper}{x:ab}(he:br P N (c3 (get G) (λ_=>true) acc) o (cK (get G2) d x)) (hk:bE P N ops a' (get ((d,x)::G2)) (bw+1) [] l K) (aN:o.guard=none:=by rfl) (gw:q2 ((acc.filterMap jV).map Place.root)=true:=by rfl) (fB:lY G=true:=by rfl) (ai:Nat.beq ops.size (bw+l.length+1)=true:=by rfl) (aR:(List.range bw).all (λk=>(a'.getD bw []).contains k)=true:=by kernel_rfl) (av:(List.range ops.size).all (λk=>Nat.ble k bw||(a'.getD k []).contains bw)=true:=by kernel_rfl):bE P N ops a' (get G) i acc (o::l) K:=.bv bw he aN gw fB ai aR av hk
end
end Go.Own
namespace Go.Own
open Go
set_option linter.unusedSectionVars false
variable [cI]
set_option linter.unusedVariables false
def oX:List ab->Nat->List ab->Option (List ab)
 | [],0,[]=>some []
 | [],_,_=>none
 | x::l,0,[]=>some (x::l)
 | _::l,0,y::c=>match oX l 0 c with
  | some r=>some (y::r)
  | none=>none
 | x::l,k+1,c=>match oX l k c with
  | some r=>some (x::r)
  | none=>none
theorem lG:∀ {l:List ab}{k:Nat}{c r:List ab},oX l k c=some r->eK l k c=r/\k+c.length<=l.length
 | [],0,[],r,h=>by cases h; exact ⟨rfl,Nat.le_refl _⟩
 | [],0,_::_,_,h=>by cases h
 | [],_+1,_,_,h=>by cases h
 | x::l,0,[],r,h=>by cases h; exact ⟨by simp [eK],by simp⟩
 | x::l,0,y::c,r,h=>by
  unfold oX at h
  split at h
  ·rename_i ck ah;cases h;obtain ⟨h1,af⟩:=lG ah;subst h1;exact ⟨by simp [eK],by simp at af ⊢; omega⟩
  ·cases h
 | x::l,k+1,c,r,h=>by
  unfold oX at h
  split at h
  ·rename_i ck ah;cases h;obtain ⟨h1,af⟩:=lG ah;subst h1;exact ⟨by simp [eK,Nat.add_right_comm],by simp; omega⟩
  ·cases h
theorem CZ {g g2:aK}{r:Nat}{cs2:List ab}:∀ {ks:List Nat}{G1:List (Nat × ab)},pick (cK g r (.obj cs2)) ks=some G1->(∀ e∈G1,cE e.2)->ln g g2 r cs2 G1
 | [],_,h,_=>by cases h; exact .nil
 | k::ks,G1,h,aA=>by
  unfold pick at h
  split at h
  ·rename_i x j
   split at h
   ·rename_i l aj;cases h;have aq:=CZ (g2:=g2) aj λe he=>aA e (by simp [he]);by_cases e:k=r
    ·subst e;have e:x=.obj cs2:=by simpa [cK] using j.symm
     subst e;have j:cE (.obj cs2):=aA (k,.obj cs2) (by simp);have:dh cs2:=⟨by cases j; assumption⟩;exact .b rfl aq
    ·have:b4 x:=⟨aA (k,x) (by simp)⟩;exact .n (by rw [<- Bool.not_eq_true,Nat.beq_eq]; exact e) (by simpa [cK,e] using j) aq
   ·cases h
  ·cases h
theorem J_ {g g2:aK}{ex:List Nat}:∀ {ks:List Nat}{G1:List (Nat × ab)},pick g ks=some G1->(ks.all λk=>!ex.elem k)=true->(∀ e∈G1,cE e.2)->mD ex g g2 G1
 | [],_,h,_,_=>by cases h; exact .nil
 | k::ks,G1,h,he,aA=>by
  unfold pick at h;rw [List.all_cons,Bool.and_eq_true] at he
  split at h
  ·rename_i x j
   split at h
   ·rename_i l aj;cases h;have:b4 x:=⟨aA (k,x) (by simp)⟩;exact .n (by simpa using he.1) j (J_ aj he.2 λe h=>aA e (by simp [h]))
   ·cases h
  ·cases h
def Fh:List ab->Option (List ab)
 | []=>some []
 | x::l=>match Fh l with
  | some r=>some (x::r)
  | none=>none
theorem OM:∀ {l r:List ab},Fh l=some r->l=r
 | [],r,h=>by cases h; rfl
 | x::l,r,h=>by
  unfold Fh at h
  split at h
  ·rename_i ck ah;cases h; rw [OM ah]
  ·cases h
def Fi:ab->Option ab
 | .obj cs=>match Fh cs with
  | some r=>some (.obj r)
  | none=>none
 | .own z n cs=>some (.own z n cs)
 | _=>none
theorem ON {x y:ab}(h:Fi x=some y):x=y:=by
 unfold Fi at h
 grind [OM]
theorem J' {g g2:aK}{r:Nat}{x2:ab}:∀ {ks:List Nat}{G1:List (Nat × ab)},pick (cK g r x2) ks=some G1->(∀ e∈G1,cE e.2)->lp g g2 r x2 G1
 | [],_,h,_=>by cases h; exact .nil
 | k::ks,G1,h,aA=>by
  unfold pick at h
  split at h
  ·rename_i x j
   split at h
   ·rename_i l aj;cases h;have aq:=J' (g2:=g2) aj λe he=>aA e (by simp [he]);by_cases e:k=r
    ·subst e;have e:x=x2:=by simpa [cK] using j.symm
     subst e;have:b4 x:=⟨aA (k,x) (by simp)⟩;exact .b rfl aq
    ·have:b4 x:=⟨aA (k,x) (by simp)⟩;exact .n (by rw [<- Bool.not_eq_true,Nat.beq_eq]; exact e) (by simpa [cK,e] using j) aq
   ·cases h
  ·cases h
section
variable {P:Program}{N:cS}{ops:Array Oper}{g:aK}{K:aK->Prop}{l:List Oper}{d r k0:Nat}{ty t:TypeId}{pos:String}{after:Array Edge}{a b x:Operand}{cs cs' cs2:List ab}{y:ab}{G2:List (Nat × ab)}{u:Option (Nat × Bool)}{p q:Place}
theorem Rd.QL {α:Type}{en:bz α}{L:List α}{t:Nat}(h:g t=some (ak en L)):Rd g (.tmp t) (ak en L):=.bm h
theorem br.hU (ks:List Nat) (aR:Rd g a (.ptr ⟨r,[]⟩ k0):=by (first | exact .obj rfl | exact .ptr rfl)) (ay:g r=some (.obj cs):=by rfl) (av:Rd g b (.agg cs'):=by (first | exact .dV rfl rfl | exact .Jt rfl)) (he:oX cs k0 cs'=some cs2:=by rfl) (au:pick (cK g r (.obj cs2)) ks=some G2:=by rfl) (aW:hs P t cs'.length=true:=by kernel_rfl) (aO:Nat.blt 0 cs'.length=true:=by rfl) (ah:(get G2 r).isSome=true:=by rfl) [aA:dh cs'] [e6:dh cs] [aN:iq G2]:br P N g ⟨none,.store t a b,ty,pos,after,none⟩ (get G2) :=
 .ij rfl rfl ay aR av rfl aW (Nat.ble_eq_true_of_le (lG he).2) aO (lG he).1 ah (CZ au aN.p)
theorem br.oY (ks:List Nat) (aR:Rd g a (.ptr ⟨r,[]⟩ k0):=by (first | exact .ptr rfl | exact .obj rfl)) (ay:g r=some (.obj cs):=by rfl) (av:Rd g b y:=by (first | exact .lit rfl | exact .k rfl | exact .QL rfl | exact .zz | exact .bm rfl)) (aa:nQ y=some [y]:=by rfl) (he:oX cs k0 [y]=some cs2:=by rfl) (au:pick (cK g r (.obj cs2)) ks=some G2:=by rfl) (aW:hs P t 1=true:=by kernel_rfl) (ah:(get G2 r).isSome=true:=by rfl) [aA:b4 y] [e6:dh cs] [aN:iq G2]:br P N g ⟨none,.store t a b,ty,pos,after,none⟩ (get G2) :=
 .ij rfl rfl ay aR av aa aW (Nat.ble_eq_true_of_le (lG he).2) rfl (lG he).1 ah (CZ au aN.p)
theorem br.kB {α:Type}{en:bz α}{L:List α}(ks:List Nat) (j:Rd g x (.bg en.z p L.length):=by (first | exact .own rfl | exact .bg rfl)) (au:bu g p=some (ao en L):=by rfl) (hk:pick g ks=some G2:=by rfl) (cA:(ks.all λk=>![p.root].elem k)=true:=by rfl) (aN:get G2 d=none:=by rfl) (a_:N.ok d=true:=by rfl) [aA:iq G2]:br P N g ⟨some d,.assign x,ty,pos,after,u⟩ (cK (get G2) d (ao en L)) :=
 .yQ rfl rfl j au (J_ hk cA aA.p) aN a_
theorem br.AK {α:Type}{en:bz α}{L M:List α}{s:Nat}(ks:List Nat) (j:Rd g x (.bg en.z ⟨s,[]⟩ (L.length+M.length)):=by exact .bB rfl) (ay:g s=some (.bB en.z q L.length M.length (bq en M)):=by rfl) (au:bu g q=some (ao en L):=by rfl) (hk:pick g ks=some G2:=by rfl) (cA:(ks.all λk=>![s,q.root].elem k)=true:=by rfl) (a7:Nat.beq q.root s=false:=by rfl) (aN:get G2 d=none:=by rfl) (a_:N.ok d=true:=by rfl) [aA:iq G2]:br P N g ⟨some d,.assign x,ty,pos,after,u⟩ (cK (get G2) d (ao en (L++M))) :=
 .Lt rfl rfl j ay au a7 (J_ hk cA aA.p) aN a_
theorem br.sp {α:Type}{en:bz α}{L M:List α}{s:Nat}{jh:List ab}(ks:List Nat) (av:Rd g b (.bg en.z ⟨s,[]⟩ (L.length+M.length)):=by exact .bB rfl) (p_:g s=some (.bB en.z q L.length M.length (bq en M)):=by rfl) (au:bu g q=some (ao en L):=by rfl) (aR:Rd g a (.ptr ⟨r,[]⟩ k0):=by (first | exact .ptr rfl | exact .obj rfl)) (ay:cj (cj g ⟨s,[]⟩ .dead) q .dead r=some (.obj jh):=by rfl) (he:oX jh k0 [ao en (L++M)]=some cs2:=by rfl) (hk:pick (cK (cj (cj g ⟨s,[]⟩ .dead) q .dead) r (.obj cs2)) ks=some G2:=by rfl) (a7:Nat.beq q.root s=false:=by rfl) (aW:hs P t 1=true:=by kernel_rfl) (ah:(get G2 r).isSome=true:=by rfl) [e6:dh jh] [aN:iq G2]:br P N g ⟨none,.store t a b,ty,pos,after,none⟩ (get G2) :=
 .FT rfl rfl aR av p_ au a7 .iJ .hS rfl rfl aW ay (Nat.ble_eq_true_of_le (lG he).2) (lG he).1 ah (CZ hk aN.p)
theorem br.uP {α:Type}{en:bz α}{L:List α}{jh:List ab}(ks:List Nat) (av:Rd g b (.bg en.z p L.length):=by (first | exact .own rfl | exact .bg rfl)) (au:bu g p=some (ao en L):=by rfl) (aR:Rd g a (.ptr ⟨r,[]⟩ k0):=by (first | exact .ptr rfl | exact .obj rfl)) (ay:cj g p .dead r=some (.obj jh):=by rfl) (he:oX jh k0 [ao en L]=some cs2:=by rfl) (hk:pick (cK (cj g p .dead) r (.obj cs2)) ks=some G2:=by rfl) (aW:hs P t 1=true:=by kernel_rfl) (ah:(get G2 r).isSome=true:=by rfl) [e6:dh jh] [aN:iq G2]:br P N g ⟨none,.store t a b,ty,pos,after,none⟩ (get G2) :=
 .wg rfl rfl aR av (.r au .nil) .refl rfl aW ay (Nat.ble_eq_true_of_le (lG he).2) rfl (lG he).1 ah (CZ hk aN.p)
theorem br.rf {α:Type}{en:bz α}{L:List α}{iM y2:α}{m:Int}{o:Nat}{eC x2 y0:ab}(ks:List Nat) (h:idx L m=some iM) (aR:Rd g a (.ptr p (m.toNat * en.z+o)):=by exact .ptr rfl) (au:bu g p=some (ao en L):=by rfl) (av:Rd g b y:=by (first | exact .lit rfl | exact .k rfl | exact .QL rfl | exact .zz | exact .bm rfl | exact .dV rfl rfl)) (aa:nQ y=some cs':=by rfl) (he:eK (en.cells iM) o cs'=en.cells y2:=by rfl) (jF:cj g p (ao en (L.set m.toNat y2)) p.root=some eC:=by rfl) (kc:Fi eC=some x2:=by rfl) (hk:pick (cK g p.root x2) ks=some G2:=by rfl) (aW:hs P t cs'.length=true:=by kernel_rfl) (hlen:Nat.ble (o+cs'.length) en.z=true:=by rfl) (aO:Nat.blt 0 cs'.length=true:=by rfl) (ah:(get G2 p.root).isSome=true:=by rfl) (vE:g p.root=some y0:=by rfl) [aA:b4 y] [e6:b4 y0] [aN:iq G2]:br P N g ⟨none,.store t a b,ty,pos,after,none⟩ (get G2) :=
 .ye rfl rfl aR av au h aW aa he hlen aO (by rw [jF,ON kc]) ah vE (J' hk aN.p)
theorem aC.eI {o:Oper}(he:br P N g o (get G2)) (hk:aC P N ops l (get G2) K) (aN:o.guard=none:=by rfl):aC P N ops (o::l) g K:=.nR aN he hk
theorem aC.bZ {o:Oper}(he:br P N g o (cK (get G2) d y)) (hk:aC P N ops l (cK (get G2) d y) K) (aN:o.guard=none:=by rfl):aC P N ops (o::l) g K:=.u' aN he hk
end
section
variable {S R:Type}{P:Program}{N:cS}{A B c:Code}{G:List (Nat × ab)}{Φ:Exit->aK->Prop}{id:Nat}
theorem W.gi {G1:List (Nat × ab)}(ks:List Nat) (L:List (Nat × ab)) (h:W P N c (get G) λe g=>e=.normal/\ia g G1) (hk:aE .normal Φ G1) (au:pick (get (L++G)) ks=some G1:=by rfl):W P N c (get G) Φ:=W.b6 _ h hk
theorem W.n' {G1:List (Nat × ab)}{l:List Oper}(ks:List Nat) (L:List (Nat × ab)) (h:aC P N l.toArray l (get G) λg'=>kj g' (get G1)) (hk:W P N B (get G1) Φ) (au:pick (get (L++G)) ks=some G1:=by rfl):W P N (.seq (.region id l.toArray false) B) (get G) Φ:=W.rs _ h hk
theorem W.hQ {f:S->Option (S ⊕ R)}{r:R}{cY:S->List (Nat × ab)}{l':R->List (Nat × ab)}(s:S) (F:S->List (Nat × ab)) (ks:List Nat) (id:Nat) (X:R->List (Nat × ab)) (r9:List Nat) (h:b5 f s=some r) (av:∀ s o,f s=some o->W P N c (get (cY s)) (kV cY (λr e g=>e=.exit id/\ia g (l' r)) o)) (hk:aE (.exit id) Φ (l' r))
  (aH:∀ s,pick (get (F s++G)) ks=some (cY s):=by intro s; rfl) (tS:∀ s,pick (get (X s++G)) r9=some (l' s):=by intro s; rfl) (aq:Trim true (get G) (get (cY s)) (cY s):=by (repeat' first | exact .nil | refine .n rfl ?_ | refine .w rfl rfl .pB ?_ | refine .w rfl rfl .pA ?_ | refine .w rfl rfl (j5.obj (by (repeat' first | exact .nil | refine .f ?_ | refine .o ?_ | refine .i ?_))) ?_)):W P N (.loop c) (get G) Φ :=
 W.ds aq (W.OC cY id l' h av hk)
theorem W.f_ {gp:Type}{f:S->Option (S ⊕ (R ⊕ gp))}{r:R ⊕ gp}{cY:S->List (Nat × ab)}{l':R->List (Nat × ab)}{tz:gp->List (Nat × ab)}(s:S) (F:S->List (Nat × ab)) (ks:List Nat) (id:Nat) (X:R->List (Nat × ab)) (r9:List Nat) (Y:gp->List (Nat × ab)) (Cb:List Nat) (h:b5 f s=some r)
  (av:∀ s o,f s=some o->W P N c (get (cY s)) (kV cY (λ(r:R ⊕ gp) e g=>match r with | .inl r=>e=.exit id/\ia g (l' r) | .inr r=>e=.ret/\ia g (tz r)) o))
  (j:∀ x,r=.inl x->aE (.exit id) Φ (l' x)) (ah:∀ x,r=.inr x->aE .ret Φ (tz x))
  (aH:∀ s,pick (get (F s++G)) ks=some (cY s):=by intro s; rfl) (tS:∀ s,pick (get (X s++G)) r9=some (l' s):=by intro s; rfl) (Bn:∀ s,pick (get (Y s++G)) Cb=some (tz s):=by intro s; rfl) (aq:Trim true (get G) (get (cY s)) (cY s):=by (repeat' first | exact .nil | refine .n rfl ?_ | refine .w rfl rfl .pB ?_ | refine .w rfl rfl .pA ?_ | refine .w rfl rfl (j5.obj (by (repeat' first | exact .nil | refine .f ?_ | refine .o ?_ | refine .i ?_))) ?_)):W P N (.loop c) (get G) Φ :=
 W.ds aq (W.JE cY id l' tz h av j ah)
end
end Go.Own
namespace Go.Own
open Go
set_option linter.unusedSectionVars false
variable [cI]
set_option linter.unusedVariables false
inductive lk:Type 1
 | e
 | b (x y:lk)
 | er {S R:Type}(F:S->List (Nat × ab)) (ks:List Nat) (id:Nat) (X:R->List (Nat × ab)) (r9:List Nat) (x y:lk)
 | f_ {S R gp:Type}(F:S->List (Nat × ab)) (ks:List Nat) (id:Nat) (X:R->List (Nat × ab)) (r9:List Nat) (Y:gp->List (Nat × ab)) (Cb:List Nat) (x y z:lk)
 | b6 {α:Type}(ks:List Nat) (L:α->List (Nat × ab)) (x y:lk)
 | eE {α:Type}(id:Nat) (ks:List Nat) (L:α->List (Nat × ab)) (y:lk)
 | rd (id:Nat) (a':List (List Nat)) (y:lk)
 | b' {α:Type}(id:Nat) (a':List (List Nat)) (ks:List Nat) (L:α->List (Nat × ab)) (y:lk)
 | p (y:lk)
 | dS {α:Type}(id s:Nat) (i:Option Nat) (en:bz α) (y:lk)
 | sy {α:Type}(s:Nat) (i:Option Nat) (en:bz α) (y:lk)
def Ot:ab->Bool
 | .lit _ | .aQ | .bm .. | .own .. | .obj _ | .cO _ | .dj .. | .mp _ | .imp _=>true
 | .agg cs=>cs.all λx=>match x with | .ptr .. | .bg .. | .sub .. | .hr _ | .bB .. | .dead=>false | _=>true
 | _=>false
def sS (ex:List Nat):List (Nat × ab)->Option (List Nat)
 | []=>some []
 | (k,x)::l=>match sS (k::ex) l with
  | none=>none
  | some r=>match !ex.elem k&&Ot x with
   | true=>some (k::r)
   | false=>some r
def Jv (E ex:List Nat):List (Nat × ab)->Option (List Nat)
 | []=>some []
 | (k,x)::l=>match Jv E (k::ex) l with
  | none=>none
  | some r=>match E.elem k&&(!ex.elem k&&Ot x) with
   | true=>some (k::r)
   | false=>some r
def roots (G:List (Nat × ab)):Operand->List Nat
 | .tmp s=>match get G s with
  | some (.own ..)=>[s]
  | some (.obj _)=>[s]
  | some (.bg _ p _)=>[s,p.root]
  | some (.ptr p _)=>[s,p.root]
  | some (.bB _ q _ _ _)=>match get G q.root with
   | some (.bB _ C2 _ _ _)=>[s,q.root,C2.root]
   | _=>[s,q.root]
  | _=>[s]
 | _=>[]
def O_ (F:List (Nat × ab)) (s:Nat):Nat->List ab->Option (List ab)
 | _,[]=>some []
 | i,x::l=>match O_ F s (i+1) l with
  | none=>none
  | some r=>match get F (1000 * (i+1)+s) with
   | some y=>some (y::r)
   | none=>some (x::r)
def pD (F G:List (Nat × ab)):aK:=λs=>match get F s with
 | some x=>some x
 | none=>match get G s with
  | some (.obj cs)=>match O_ F s 0 cs with
   | some r=>some (.obj r)
   | none=>none
  | x=>x
def cx (E:List Nat) (t:lk) (P:Program) (N:cS) (c:Code) (G:List (Nat × ab)) (Φ:Exit->aK->Prop):Prop:=W P N c (get G) Φ
def ec (E:List Nat) (t:lk) (e:Exit) (Φ:Exit->aK->Prop) (G:List (Nat × ab)):Prop:=aE e Φ G
def yE (E:List Nat) (t:lk) (Ψ:lk->List (Nat × ab)->Prop) (g':aK):Prop:=∃ G1,kj g' (get G1)/\Ψ t G1
def rr {α:Type}(F:α->List (Nat × ab)) (J:α) (e:Exit) (g:aK):Prop:=e=.normal/\ia g (F J)
def Lf {R:Type}(id:Nat) (X:R->List (Nat × ab)) (r:R) (e:Exit) (g:aK):Prop:=e=.exit id/\ia g (X r)
def Az {R gp:Type}(id:Nat) (X:R->List (Nat × ab)) (Y:gp->List (Nat × ab)) (r:R ⊕ gp) (e:Exit) (g:aK):Prop:=match r with | .inl r=>e=.exit id/\ia g (X r) | .inr r=>e=.ret/\ia g (Y r)
class bO (P:Program) (f:FuncId) (p:Prop) (args:outParam (List ab)) (outs:outParam (List (Option ab))) (res:outParam ab):Prop where go:p->b1 P f args outs res
section
variable {P:Program}{N:cS}{E:List Nat}{t x y z:lk}{A B c:Code}{G G1:List (Nat × ab)}{Φ og:Exit->aK->Prop}{Ψ:aK->Prop}{id k s:Nat}{b:Bool}{α β:Type}{l:List Oper}
theorem cx.rg (h:aC P N l.toArray l (get G) (yE E t λt G1=>cx E t P N B G1 Φ)):cx E t P N (.seq (.region id l.toArray false) B) G Φ :=
 W.seq (W.Aa λi hi=>by
  obtain ⟨g',h1,G1,af,aJ⟩:=h i hi;exact ⟨g',h1,W.weaken af aJ⟩)
theorem cx.rt (h:aC P N l.toArray l (get G) (yE E t λt G1=>ec E t .normal Φ G1)):cx E t P N (.region id l.toArray false) G Φ :=
 W.Aa λi hi=>by
  obtain ⟨g',h1,G1,af,aJ⟩:=h i hi;exact ⟨g',h1,aJ g' (.eB af .hS)⟩
theorem cx.bJ (h:cx E t P N A G (o0 (λg1=>W P N B g1 Φ) Φ)):cx E t P N (.seq A B) G Φ:=W.seq h
theorem cx.cH (h:cx E t P N A G (lX id Φ)):cx E t P N (.block id A) G Φ:=W.cH h
theorem cx.wI (h:cx E t P N A G (lX id Φ)):cx E (.p t) P N (.block id A) G Φ:=W.cH h
theorem cx.dv (h:ec E t .normal Φ G):cx E t P N .skip G Φ:=W.dv h
theorem cx.gI (h:ec E t (.exit k) Φ G):cx E t P N (.exit k) G Φ:=W.gI h
theorem cx.C5 (h:ec E t .ret Φ G):cx E t P N .ret G Φ:=W.rt h
theorem cx.cc {X Y o:α}(h:(bif b then X else Y)=o) (dk:b=true->X=o->cx E x P N A G Φ) (aH:b=false->Y=o->cx E y P N B G Φ) (aa:get G s=some (bc b):=by rfl):cx E (.b x y) P N (.cond (.tmp s) A B) G Φ:=W.cc h aa dk aH
theorem cx.ce {X Y o:α}(h:(bif b then X else Y)=o) (dk:b=true->X=o->cx E .e P N A G Φ) (aH:b=false->Y=o->cx E .e P N B G Φ) (aa:get G s=some (bc b):=by rfl):cx E .e P N (.cond (.tmp s) A B) G Φ:=W.cc h aa dk aH
theorem cx.SO (h:cx E t P N A G Φ) (aa:get G s=some (bc b):=by rfl) (av:b=true:=by (first | rfl | assumption)):cx E t P N (.cond (.tmp s) A B) G Φ:=W.gB aa (λ_=>h) (λe=>by rw [av] at e; cases e)
theorem cx.SN (h:cx E t P N B G Φ) (aa:get G s=some (bc b):=by rfl) (av:b=false:=by (first | rfl | assumption)):cx E t P N (.cond (.tmp s) A B) G Φ:=W.gB aa (λe=>by rw [av] at e; cases e) (λ_=>h)
theorem cx.Xs {o:Operand}{m:Option α}{f:α->Option β}{r:β}{ks:List Nat}{L cY:α->List (Nat × ab)}(h:m.bind f=some r) (h1:∀ J,m=some J->cx E x P N (.cond o A B) G (rr cY J)) (af:∀ J,m=some J->f J=some r->ec E y .normal Φ (cY J))
  (aH:∀ J,pick (pD (L J) G) ks=some (cY J):=by intro J; rfl):cx E (.b6 ks L x y) P N (.cond o A B) G Φ:=by
 obtain ⟨J,ai,h⟩:=hh h;exact W.b6 _ (h1 J ai) (af J ai h)
theorem cx.Jr {m:Option α}{f:α->Option β}{r:β}{ks:List Nat}{L cY:α->List (Nat × ab)}(h:m.bind f=some r) (h1:∀ J,m=some J->cx E x P N (.block id A) G (rr cY J)) (af:∀ J,m=some J->f J=some r->ec E y .normal Φ (cY J))
  (aH:∀ J,pick (pD (L J) G) ks=some (cY J):=by intro J; rfl):cx E (.b6 ks L x y) P N (.block id A) G Φ:=by
 obtain ⟨J,ai,h⟩:=hh h;exact W.b6 _ (h1 J ai) (af J ai h)
theorem cx.er {S R:Type}{f:S->Option (S ⊕ R)}{s:S}{g:R->Option β}{r:β}{F cY:S->List (Nat × ab)}{ks r9:List Nat}{X l':R->List (Nat × ab)}(h:(b5 f s).bind g=some r)
  (av:∀ s o,f s=some o->cx E x P N c (cY s) (kV cY (Lf id l') o)) (hk:∀ ck,b5 f s=some ck->g ck=some r->ec E y (.exit id) Φ (l' ck))
  (aH:∀ s,pick (pD (F s) G) ks=some (cY s):=by intro s; rfl) (tS:∀ s,pick (pD (X s) G) r9=some (l' s):=by intro s; rfl) (aq:Trim true (get G) (get (cY s)) (cY s):=by (repeat' first | exact .nil | refine .n rfl ?_ | refine .w rfl rfl .pB ?_ | refine .w rfl rfl .pA ?_ | refine .w rfl rfl (j5.obj (by (repeat' first | exact .nil | refine .f ?_ | refine .o ?_ | refine .i ?_))) ?_)) :
  cx E (.er F ks id X r9 x y) P N (.loop c) G Φ:=by
 obtain ⟨ck,aj,h⟩:=hh h;exact W.ds aq (W.OC cY id l' aj av (hk ck aj h))
theorem ec.bJ (h:cx E t P N B G Φ):ec E t .normal (o0 (λg1=>W P N B g1 Φ) og) G:=aE.bJ h
theorem ec.gE (h:ec E t (.exit k) Φ G):ec E t (.exit k) (o0 Ψ Φ) G:=aE.gE h
theorem ec.jJ (h:ec E t .ret Φ G):ec E t .ret (o0 Ψ Φ) G:=aE.jJ h
theorem ec.cH (h:ec E t .normal Φ G):ec E t .normal (lX id Φ) G:=aE.cH h
theorem ec.gA (h:ec E t .normal Φ G):ec E t (.exit id) (lX id Φ) G:=aE.gA h
theorem ec.GR (h:ec E t (.exit k) Φ G) (hk:Nat.beq k id=false:=by rfl):ec E t (.exit k) (lX id Φ) G:=aE.GR hk h
theorem ec.pg (h:ec E t .ret Φ G):ec E t .ret (lX id Φ) G:=aE.pg h
theorem ec.b6 {F:α->List (Nat × ab)}{J v:α}(h:some v=some J) (aq:Trim true (get G) (get (F v)) (F v)):ec E t .normal (rr F J) G:=by
 cases h; exact aE.b6 aq
theorem ec.go {S R:Type}{s:S}{o:S ⊕ R}{F:S->List (Nat × ab)}{Ψ:R->Exit->aK->Prop}(h:some (.inl s)=some o) (aq:Trim true (get G) (get (F s)) (F s)):ec E t .normal (kV F Ψ o) G:=by
 cases h; exact aE.go aq
theorem ec.a6 {S R:Type}{r:R}{o:S ⊕ R}{F:S->List (Nat × ab)}{X:R->List (Nat × ab)}(h:some (.inr r)=some o) (aq:Trim true (get G) (get (X r)) (X r)):ec E t (.exit id) (kV F (Lf id X) o) G:=by
 cases h; exact aE.a6 aq
variable {ops:Array Oper}{K:aK->Prop}{d:Nat}{op:Op}{ty:TypeId}{pos:String}{after:Array Edge}{v v2:ab}{ks:List Nat}{g:aK}{J cp:Nat}{cZ:Bool}
theorem pj {G:List (Nat × ab)}{d:Nat}{v:ab}:cK (get G) d v=get ((d,v)::G):=sz.symm
theorem ed (au:b7 P (get G) op ty v) (hk:aC P N ops l (get ((d,v)::G)) K) (a_:N.ok d=true:=by rfl) (aS:get G d=none:=by rfl):aC P N ops (⟨some d,op,ty,pos,after,none⟩::l) (get G) K:=ax au (pj ▸ hk) a_ aS
theorem GC (mj:sS [d] G=some ks) (aN:pick (get G) ks=some G1) [aA:iq G1] (au:b7 P (get G1) op ty v) (hk:aC P N ops l (get ((d,v)::G1)) K) (a_:N.ok d=true:=by rfl) (aS:get G1 d=none:=by rfl):aC P N ops (⟨some d,op,ty,pos,after,none⟩::l) (get G) K:=aC.b' ks aN (ax au (pj ▸ hk) a_ aS)
theorem Lq (au:cV P (get G) op v) (hk:aC P N ops l (get ((d,v)::G)) K) (a_:N.ok d=true:=by rfl) (aS:get G d=none:=by rfl):aC P N ops (⟨some d,op,ty,pos,after,none⟩::l) (get G) K:=gM au (pj ▸ hk) a_ aS
theorem eh (au:b7 P (get G) op ty v) (hk:aC P N ops l (get ((d,v)::G)) K) (h:(ops[J]?).bind (·.dst)=some cp:=by rfl) (aN:get G cp=some (.lit (.bool cZ)):=by rfl) (av:cZ=b:=by (first | rfl | assumption)) (a_:N.ok d=true:=by rfl) (aS:get G d=none:=by rfl):aC P N ops (⟨some d,op,ty,pos,after,some (J,b)⟩::l) (get G) K:=.v au a_ aS (.iD h aN av) (pj ▸ hk)
theorem Lb (au:cV P (get G) op v) (hk:aC P N ops l (get ((d,v)::G)) K) (h:(ops[J]?).bind (·.dst)=some cp:=by rfl) (aN:get G cp=some (.lit (.bool cZ)):=by rfl) (av:cZ=b:=by (first | rfl | assumption)) (a_:N.ok d=true:=by rfl) (aS:get G d=none:=by rfl):aC P N ops (⟨some d,op,ty,pos,after,some (J,b)⟩::l) (get G) K:=.c au a_ aS (.iD h aN av) (pj ▸ hk)
theorem qD (hk:aC P N ops l (get ((d,.bQ [])::G)) K) (h:(ops[J]?).bind (·.dst)=some cp:=by rfl) (aN:get G cp=some (.lit (.bool cZ)):=by rfl) (av:cZ=!b:=by (first | rfl | assumption)) (a_:N.ok d=true:=by rfl) (aS:get G d=none:=by rfl):aC P N ops (⟨some d,op,ty,pos,after,some (J,b)⟩::l) (get G) K:=.ps h aN av a_ aS (pj ▸ hk)
theorem Q' (hk:aC P N ops l (get ((d,.bQ [])::G)) K) (h:(ops[J]?).bind (·.dst)=some cp:=by rfl) (aN:get G cp=some (.bQ []):=by rfl) (a_:N.ok d=true:=by rfl) (aS:get G d=none:=by rfl):aC P N ops (⟨some d,op,ty,pos,after,some (J,b)⟩::l) (get G) K:=.pu h aN a_ aS (pj ▸ hk)
theorem Hc {p:Prop}{X Y o:α}(h:(bif b then X else Y)=o) (dk:b=true->X=o->p) (aH:b=false->Y=o->p):p:=by
 cases b
 ·exact aH rfl h
 ·exact dk rfl h
theorem Gv {Dx:lk->List (Nat × ab)->Prop}(mj:Jv E [] G=some ks) (au:pick (get G) ks=some G1) [aA:iq G1] (hk:Dx t G1):aC P N ops [] (get G) (yE E t Dx):=.nil ⟨G1,(uH (c:=true) (g2:=get G1) au aA.p).eB,hk⟩
theorem cx.eE {m:Option α}{f:α->Option β}{r:β}{ks:List Nat}{L cY:α->List (Nat × ab)}(h:m.bind f=some r) (h1:∀ J,m=some J->aC P N l.toArray l (get G) (rr cY J .normal)) (af:∀ J,m=some J->f J=some r->cx E y P N B (cY J) Φ)
  (aH:∀ J,pick (pD (L J) G) ks=some (cY J):=by intro J; rfl):cx E (.eE id ks L y) P N (.seq (.region id l.toArray false) B) G Φ:=by
 obtain ⟨J,ai,h⟩:=hh h;exact W.seq (W.Aa λi hi=>by
  obtain ⟨g',cr,_,fi⟩:=h1 J ai i hi;exact ⟨g',cr,W.be (af J ai h) fi⟩)
theorem Q8 {F:α->List (Nat × ab)}{J v:α}(h:some v=some J) (aq:Trim true (get G) (get (F v)) (F v)):aC P N ops [] (get G) (rr F J .normal):=by
 cases h; exact .nil ⟨rfl,.eB aq.eB .hS⟩
end
end Go.Own
namespace Go.Own
open Go Go.Lib
set_option linter.unusedSectionVars false
variable [cI]
section
variable {P:Program}{w:World}
theorem Y5 (t u ty e:TypeId) (i:TypeInfo) (aq:P.underlying t=some (.slice e)) (hu:P.underlying u=some .string) (hi:P.info? e=some i) (aW:i.zero=some (.int .u8 0)) (vt:i.size=1) (ue:i.bytes=1)
  {bv:Value}{n:Nat}{us:List Value}(iX:w.ownsRow 0 e 1 bv n us) (s:ByteArray) (nh:n+s.size<=maxLen) (w5:n+s.size<=140737488355328) :
  ∃ ef w',(Builtin.append_ #[t,u] ty #[bv,.string s]).run P w=.ok ef w'/\yq w w' bv ef e e 1 n s.size us (strCells s):=by
 have k7:us.length=n:=by simpa using iX.1
 have aj:=strCells_length s;have Ws:n+s.size<=9223372036854775807:=by simp only [maxLen] at nh; omega
 have hlen:(us++strCells s).length=(n+s.size) * 1:=by rw [List.length_append,k7,aj,Nat.mul_one]
 have aS:=λw=>run_firstCells_string (P:=P) w 1 s;by_cases hm:s.size=0
 ·have aA:strCells s=[]:=List.eq_nil_of_length_eq_zero (by rw [aj,hm]);refine ⟨bv,w,?_,.same iX (λ_ _=>rfl) (Nat.le_refl _) rfl rfl rfl (by simpa [hm,aA] using iX) (λc aa=>.inl aa) λ_=>rfl⟩;have qQ:=aS w;rw [hm] at qQ;obtain ⟨_,bG⟩:=iX;rcases bG with ⟨rfl,rfl⟩ | ⟨b,cap,cur,rfl,_,aN,hle,_⟩
  ·simp [Builtin.append_,run_underlying aq,run_underlying hu,sizeOf,typeInfo,hi,vt,Builtin.lenOf,hm,qQ]
  ·simp [Builtin.append_,run_underlying aq,run_underlying hu,sizeOf,typeInfo,hi,vt,Builtin.lenOf,hm,qQ,aA,hle,storeCells]
 have grown:∀ jH:Nat,jH<n+s.size ->
   (w.drew.alloc (.cells (us.toArray++(strCells s).toArray++Builtin.zeroCells (Value.int .u8 0).cells (grownCap w (n+s.size) jH e - (n+s.size))) e)).ownsRow 0 e 1
    (.slice (some ⟨w.heap.size,0,none⟩) (n+s.size) (grownCap w (n+s.size) jH e)) (n+s.size) (us++strCells s):=by
  intro jH aU;refine ⟨hlen,.inr ⟨w.heap.size,_,_,rfl,Nat.zero_le _,ry w.drew _,grownCap_ge w (n+s.size) jH e,grownCap_le_maxLen w (n+s.size) jH e nh,?_,?_⟩⟩
  ·have dC:=grownCap_ge w (n+s.size) jH e;have sQ:(Value.int IntKind.u8 0).cells.size=1:=rfl;simp only [Array.size_append,List.size_toArray,size_zeroCells,sQ,k7,aj];omega
  ·simp only [Array.toList_append,List.append_assoc];rw [<- List.append_assoc,<- hlen];exact List.take_left
 have xc:=iX;obtain ⟨_,bG⟩:=iX;rcases bG with ⟨rfl,rfl⟩ | ⟨b,cap,cur,rfl,_,aN,hle,p7,gR,zr⟩
 ·have j:us=[]:=List.eq_nil_of_length_eq_zero k7;subst j;have ah:=run_append_nil_string (P:=P) w t u ty e i (.int .u8 0) aq hu hi aW s (by omega) (by omega) (by rw [ue]; omega);have nX:=grown 0 (by omega);simp only [Nat.zero_add,List.nil_append,Array.empty_append] at nX ⊢;have cr:(s.data.map λb=>Value.int .u8 b.toNat)=(strCells s).toArray:=by
   apply Array.ext';simp [strCells]
  rw [cr] at ah;exact ⟨_,_,ah,.same xc (λc aa=>alloc_old w.drew _ c aa) (by simp) rfl rfl rfl (by simpa using nX) (λc aa=>.inr (by simp [Value.ownBlock] at aa; omega)) (λa=>A' w.drew _ _ a)⟩
 ·have k3:cur.size=cap:=by simpa using gR
  have Wx:cur.toList.take n=us:=by simpa using zr
  by_cases vr:n+s.size<=cap
  ·have bT:=run_storeCells_at P b n e (strCells s) 0 cur w aN (by rw [aj]; omega) (strCells_oneCell s);simp only [Nat.add_zero,aj] at bT;have ah:(Builtin.append_ #[t,u] ty #[.slice (some ⟨b,0,none⟩) n cap,.string s]).run P w =
     .ok (.slice (some ⟨b,0,none⟩) (n+s.size) cap) (w.setRow b (cur.toList.take n++strCells s++cur.toList.drop (n+s.size)).toArray):=by
    simp [Builtin.append_,run_underlying aq,run_underlying hu,sizeOf,typeInfo,hi,vt,Builtin.lenOf,vr,aS,Addr.add_lit,bT]
   have eM:(cur.toList.take n++strCells s++cur.toList.drop (n+s.size)).toArray.size=cur.size:=by
    simp only [List.size_toArray,List.length_append,List.length_take,List.length_drop,Array.length_toList,aj];omega
   have fu:(cur.toList.take n++strCells s++cur.toList.drop (n+s.size)).take (n * 1)=cur.toList.take (n * 1):=by
    rw [List.append_assoc,Nat.mul_one];exact List.take_left' (by simp; omega)
   refine ⟨_,_,ah,⟨⟨by rw [k7,Nat.mul_one],.inr ⟨b,cap,_,rfl,Nat.zero_le _,setRow_heap w b cur _ e _ aN,hle,p7,eM.trans gR,?_⟩⟩,⟨hlen,.inr ⟨b,cap,_,rfl,Nat.zero_le _,setRow_heap w b cur _ e _ aN,vr,p7,eM.trans gR,?_⟩⟩,
    ⟨rfl,rfl,rfl,by simp,λk _ hk=>setRow_other w b k _ (λe=>hk (by simp [Value.ownBlock,e])),λa _ _=>Ec w b _ a,Nat.le_refl _⟩,λc aa=>.inl aa,λc aa=>?_⟩⟩
   ·rw [<- zr]; exact fu
   ·rw [Wx,<- hlen];exact List.take_left
   ·simp only [Value.ownBlock,Option.some.injEq] at aa;subst aa;exact ⟨cur,_,aN,setRow_heap w b cur _ e _ aN,eM,fu⟩
  ·have holds:∀ (J:Nat) (u:Value),us[J]?=some u->w.cell? ((⟨b,0,none⟩:Addr).add J)=some u:=xc.cells (g:=b) rfl;have ah:=run_append_grow_string (P:=P) w t u ty e i (.int .u8 0) aq hu hi aW ⟨b,0,none⟩ n cap us (by rw [vt]; simpa using k7) holds s (by omega) (by omega) (by rw [ue]; exact growslice_fits (by omega) (by omega));have nX:=grown cap (by omega);exact ⟨_,_,ah,.same xc (λc aa=>alloc_old w.drew _ c aa) (by simp) rfl rfl rfl nX (λc aa=>.inr (by simp [Value.ownBlock] at aa; omega)) (λa=>A' w.drew _ _ a)⟩
theorem aab {ops:Array Oper}{rest:List Oper}{o:Oper}{a:Act}{Q:Exit->Act->World->Prop}(sE:o.guard=none) (s' x:Operand) (t u:TypeId)
  (aU:o.op=.call { callee:=.builtin .append,args:=#[s',x],argTypes:=#[t,u] }) 
  (e:TypeId) (i:TypeInfo) (aq:P.underlying t=some (.slice e)) (hu:P.underlying u=some .string) (hi:P.info? e=some i) (aW:i.zero=some (.int .u8 0)) (vt:i.size=1) (ue:i.bytes=1)
  (v:Value) (n:Nat) (xs:List Value) (ay:a.eval s'=v) (nq:w.ownsRow 0 e 1 v n xs) (s:ByteArray) (j:a.eval x=.string s) (nh:n+s.size<=maxLen) (w5:n+s.size<=140737488355328)
  (h:∀ ef w',yq w w' v ef e e 1 n s.size xs (strCells s)->wpList P ops Q rest (a.put o.dst ef) w'):wpList P ops Q (o::rest) a w:=by
 refine wpList_plain sE λK c6=>?_;obtain ⟨ef,w',ah,af⟩:=Y5 (P:=P) (w:=w) t u o.type e i aq hu hi aW vt ue nq s nh w5;unfold Oper.wp execOp;simp only [aU,resolve,invoke,builtin,Sem.run_bind,Sem.run_pure,Result.andThen_ok,List.map_toArray,List.map_cons,List.map_nil,ay,j,ah];exact c6 _ _ (h ef w' af)
end
end Go.Own
namespace Go.Proofs
open Tryz
open Go.Shelf Go.RowKit Go.Own
set_option linter.unusedSectionVars false
variable [cI]
variable {P:Program}{ρ:Ren}
structure QS (t:TypeId) (w w':World) (b k:Nat) (e:TypeId) (arr:Array Value) (v:Value) (n m:Nat) (us news:List Value):Prop where
 dF:Fr w w' (λc=>c=b\/v.ownBlock=some c)
 row:∃ ef,w'.ownsRow 0 t 1 ef (n+m) (us++news)/\w'.heap[b]?=some (.cells ((arr.setIfInBounds k (.pointer (some ⟨b,k,none⟩))).setIfInBounds (k+1) ef) e (0,0))/\ef.ownBlock≠some b/\(∀ c,ef.ownBlock=some c->v.ownBlock=some c\/w.heap.size<=c)
set_option maxHeartbeats 1000000 in
set_option maxRecDepth 100000 in
theorem Sb (L:Lays.n240 P ρ) (X:Builder.X72 P ρ) (b k:Nat) (w:World) (aO:w.cell? ⟨b,k,none⟩=some (.pointer (some ⟨b,k,none⟩))) :
  Calls P (ρ.f 240) #[.pointer (some ⟨b,k,none⟩)] w λe w'=>e=.returned (.tuple #[])/\w'=w:=by
 obtain ⟨J,ai,_⟩:=Option.map_eq_some_iff.1 X.sizeBuilder;have mixed:=L.mixed;have t72:=L.t72; have a72:=L.a72; have z72:=L.z72; have v72:=L.v72; have KC:=run_underlying L.t72;have t70:=L.t70; have a70:=L.a70; have z70:=L.z70; have v70:=L.v70; have KB:=run_underlying L.t70;have t9:=L.t9; have a9:=L.a9; have z9:=L.z9; have v9:=L.v9; have KD:=run_underlying L.t9;have t4:=L.t4; have a4:=L.a4; have z4:=L.z4; have v4:=L.v4; have Qw:=run_underlying L.t4;have t164:=L.t164; have a164:=L.a164; have z164:=L.z164; have v164:=L.v164; have Qu:=run_underlying L.t164
 go_enter L.f240,Body.n240_ntmps ρ
 go_wp2
 rw [Lib.run_neq_ptr_same w _ L.t70 ai]
 go_wp2
 go_end0
 exact ⟨rfl,rfl⟩
set_option maxHeartbeats 2000000 in
set_option maxRecDepth 100000 in
theorem Sa (L:Lays.n240 P ρ) (X:Builder.X72 P ρ) {b k:Nat}{arr:Array Value}{e:TypeId}{p:Value}(w:World)
  (av:w.heap[b]?=some (.cells arr e (0,0))) (aO:arr[k]?=some p) (au:(p=.pointer none/\liesAt P P.depth e (arr.size / P.cellsOf e) k (ρ.t 72) 1=true)\/p=.pointer (some ⟨b,k,none⟩)) :
  Calls P (ρ.f 240) #[.pointer (some ⟨b,k,none⟩)] w λb_ w'=>b_=.returned (.tuple #[])/\Fr w w' (λc=>c=b)/\w'.heap[b]?=some (.cells (arr.setIfInBounds k (.pointer (some ⟨b,k,none⟩))) e (0,0)):=by
 obtain ⟨J,ai,zh⟩:=Option.map_eq_some_iff.1 X.sizeBuilder;have mixed:=L.mixed;have t72:=L.t72; have a72:=L.a72; have z72:=L.z72; have v72:=L.v72; have KC:=run_underlying L.t72;have t70:=L.t70; have a70:=L.a70; have z70:=L.z70; have v70:=L.v70; have KB:=run_underlying L.t70;have t9:=L.t9; have a9:=L.a9; have z9:=L.z9; have v9:=L.v9; have KD:=run_underlying L.t9;have t4:=L.t4; have a4:=L.a4; have z4:=L.z4; have v4:=L.v4; have Qw:=run_underlying L.t4;have t164:=L.t164; have a164:=L.a164; have z164:=L.z164; have v164:=L.v164; have Qu:=run_underlying L.t164;have hk:k<arr.size:=(Array.getElem?_eq_some_iff.1 aO).1;have Ig:w.cell? ⟨b,k,none⟩=some p:=by rw [Lib.cell_of_heap av]; exact aO
 have nV:w.frozen? ⟨b,k,none⟩=false:=Lib.frozen_of_heap av k;have EJ:w.shape? b=some (e,arr.size):=by simp [World.shape?,av]
 rcases au with ⟨rfl,aj⟩ | rfl
 ·go_enter L.f240,Body.n240_ntmps ρ
  go_wp2
  rw [Lib.run_to_unsafe w ⟨b,k,none⟩ L.t70 L.t164 ai (by rw [zh]; decide) EJ hk];simp only [Result.andThen];rw [Oper.upon_value]
  go_wp2
  rw [run_callFunc_extern L.f276 (by kernel_rfl) (by kernel_rfl) (by kernel_rfl) (e:=Extern.AbiNoEscape.same) (by kernel_rfl)];rw [Lib.run_noEscape];simp only [Result.andThen];rw [Oper.upon_value]
  go_wp2
  rw [Lib.run_from_unsafe w ⟨b,k,none⟩ L.t164 L.t70 ai EJ aj];simp only [Result.andThen];rw [Oper.upon_value]
  go_wp2
  go_end0
  refine ⟨rfl,⟨rfl,rfl,rfl,by simp [World.setCell],λc _ aa=>?_,λa _ aA=>?_,Nat.le_refl _⟩,?_⟩
  ·simp only [World.setCell,Array.getElem?_modify,if_neg (Ne.symm aa)]
  ·have aa:a.block≠b:=aA;simp only [World.frozen?,World.setCell,Array.getElem?_modify,if_neg (Ne.symm aa)]
  ·simp [World.setCell,Array.getElem?_modify,av]
 ·refine (Sb L X b k w Ig).mono ?_;rintro b_ w' ⟨rfl,rfl⟩;refine ⟨rfl,Fr.refl _ _,?_⟩;rw [av];congr 2;apply Array.ext_getElem?;intro i;by_cases hi:i=k
  ·subst hi; rw [aO,Array.getElem?_setIfInBounds_self_of_lt hk]
  ·rw [Array.getElem?_setIfInBounds_ne (Ne.symm hi)]
set_option maxHeartbeats 2000000 in
set_option maxRecDepth 100000 in
theorem bws (L:Lays.n166 P ρ) (X:Builder.Extra P ρ) {b k:Nat}{arr:Array Value}{e:TypeId}{p v:Value}{n:Nat}{us:List Value}(s:ByteArray) (w:World)
  (av:w.heap[b]?=some (.cells arr e (0,0))) (aO:arr[k]?=some p) (h1:arr[k+1]?=some v) (au:(p=.pointer none/\liesAt P P.depth e (arr.size / P.cellsOf e) k (ρ.t 72) 1=true)\/p=.pointer (some ⟨b,k,none⟩))
  (nq:w.ownsRow 0 (ρ.t 5) 1 v n us) (cA:v.ownBlock≠some b) (hlen:n+s.size<=140737488355328) :
  Calls P (ρ.f 166) #[.pointer (some ⟨b,k,none⟩),.string s] w λb_ w'=>b_=.returned (.tuple #[.int .i64 s.size,.nilIface])/\QS (ρ.t 5) w w' b k e arr v n s.size us (Lib.strCells s):=by
 obtain ⟨i0,hi,B6,sQ,W_⟩:=info_parts X.infoByte;have mixed:=L.mixed;have t72:=L.t72; have a72:=L.a72; have z72:=L.z72; have v72:=L.v72; have KC:=run_underlying L.t72;have t70:=L.t70; have a70:=L.a70; have z70:=L.z70; have v70:=L.v70; have KB:=run_underlying L.t70;have t37:=L.t37; have a37:=L.a37; have z37:=L.z37; have v37:=L.v37; have ZX:=run_underlying L.t37;have t3:=L.t3; have a3:=L.a3; have z3:=L.z3; have v3:=L.v3; have Qv:=run_underlying L.t3;have t9:=L.t9; have a9:=L.a9; have z9:=L.z9; have v9:=L.v9; have KD:=run_underlying L.t9;have t4:=L.t4; have a4:=L.a4; have z4:=L.z4; have v4:=L.v4; have Qw:=run_underlying L.t4;have t164:=L.t164; have a164:=L.a164; have z164:=L.z164; have v164:=L.v164; have Qu:=run_underlying L.t164;have t5:=X.t5; have a5:=X.a5; have z5:=X.z5; have v5:=X.v5; have ZY:=run_underlying X.t5;have ab9:∀ args w,(callFunc (ρ.f 240) args).run P w=.ok (.enter (ρ.f 240) args) w:=enters_of L.f240 (by kernel_rfl) rfl;have hk:k<arr.size:=(Array.getElem?_eq_some_iff.1 aO).1;have gg:k+1<arr.size:=(Array.getElem?_eq_some_iff.1 h1).1
 go_enter L.f166,Body.n166_ntmps ρ
 go_wp2_with (go_at_fn (ρ.f 240); refine (Sa { L with } X.toX72 w av aO au).mono ?_)
 rintro b_ gH ⟨rfl,Ip,oB⟩;have Wa:gH.ownsRow 0 (ρ.t 5) 1 v n us:=r' nq λc aa=>Ip.block c (nq.lt c aa).2 λh=>cA (h ▸ aa);have LY:gH.cell? ⟨b,k,none⟩=some (.pointer (some ⟨b,k,none⟩)):=by rw [Lib.cell_of_heap oB,Array.getElem?_setIfInBounds_self_of_lt hk]
 have c1:gH.cell? ⟨b,k+1,none⟩=some v:=by rw [Lib.cell_of_heap oB,Array.getElem?_setIfInBounds_ne (by omega)]; exact h1
 go_wp2_with (at_builtin; refine aab rfl _ _ (ρ.t 37) (ρ.t 9) rfl (ρ.t 5) i0 L.t37 L.t9 hi B6 sQ W_ _ _ _ rfl Wa s rfl ?j8 ?c4 ?_)
 case j8=>unfold maxLen; omega
 case c4=>omega
 intro ef fp dQ;have ID:b<gH.heap.size:=by
  rcases Nat.lt_or_ge b gH.heap.size with aI | aI
  ·exact aI
  ·simp [Array.getElem?_eq_none aI] at oB
 have fo:fp.heap[b]?=some (.cells (arr.setIfInBounds k (.pointer (some ⟨b,k,none⟩))) e (0,0)):=(dQ.dF.block b ID λh=>cA h).trans oB;have eM:(arr.setIfInBounds k (.pointer (some ⟨b,k,none⟩))).size=arr.size:=by simp
 have d0:fp.cell? ⟨b,k,none⟩=some (.pointer (some ⟨b,k,none⟩)):=by rw [Lib.cell_of_heap fo,Array.getElem?_setIfInBounds_self_of_lt hk]
 have d1:fp.cell? ⟨b,k+1,none⟩=some v:=by rw [Lib.cell_of_heap fo,Array.getElem?_setIfInBounds_ne (by omega)]; exact h1
 have f1:fp.frozen? ⟨b,k+1,none⟩=false:=Lib.frozen_of_heap fo (k+1);obtain ⟨u5,ch,cap,rfl⟩:∃ u5 ch cap,ef=.slice u5 ch cap:=by
  rcases dQ.new.2 with ⟨hv,_⟩ | ⟨g,cap,cur,hv,_⟩
  ·exact ⟨_,_,_,hv⟩
  ·exact ⟨_,_,_,hv⟩
 have vo:(Value.slice u5 ch cap).ownBlock≠some b:=λh=>by
  rcases dQ.yV b h with h | h
  ·exact cA h
  ·omega
 have pq:(fp.setCell ⟨b,k+1,none⟩ (.slice u5 ch cap)).heap[b]?=some (.cells ((arr.setIfInBounds k (.pointer (some ⟨b,k,none⟩))).setIfInBounds (k+1) (.slice u5 ch cap)) e (0,0)):=by
  simp [World.setCell,Array.getElem?_modify,fo]
 have IJ:∀ c,c≠b->(fp.setCell ⟨b,k+1,none⟩ (.slice u5 ch cap)).heap[c]?=fp.heap[c]?:=λc aa=>by
  simp only [World.setCell,Array.getElem?_modify,if_neg (Ne.symm aa)]
 have k4:Fr w (fp.setCell ⟨b,k+1,none⟩ (.slice u5 ch cap)) (λc=>c=b\/v.ownBlock=some c):=by
  have jj:=(Ip.mono (U':=λc=>c=b\/v.ownBlock=some c) λc _ h=>.inl h).trans dQ.dF λc _ h=>.inr h;refine ⟨jj.os,jj.tape,jj.output,by simpa [World.setCell] using jj.size,λc aa aA=>(IJ c λh=>aA (.inl h)).trans (jj.block c aa aA),λa aR aA=>?_,jj.wS⟩;have:(fp.setCell ⟨b,k+1,none⟩ (.slice u5 ch cap)).frozen? a=fp.frozen? a:=by
   unfold World.frozen?;rw [IJ a.block λh=>aA (.inl h)]
  exact this.trans (jj.dS a aR aA)
 go_wp2
 go_ret2
 refine ⟨rfl,k4,_,r' dQ.new λc aa=>IJ c λh=>vo (h ▸ aa),pq,vo,λc aa=>?_⟩;rcases dQ.yV c aa with h | h
 ·exact .inl h
 ·exact .inr (Nat.le_trans Ip.size h)
set_option maxHeartbeats 1000000 in
set_option maxRecDepth 100000 in
theorem Sh (L:Lays.n169 P ρ) (X:Builder.Extra P ρ) {b k:Nat}{arr:Array Value}{e:TypeId}{v:Value}(l:List UInt8) (w:World)
  (av:w.heap[b]?=some (.cells arr e (0,0))) (h1:arr[k+1]?=some v) (nq:w.ownsRow 0 (ρ.t 5) 1 v l.length (Lib.byteCells l)) (aO:l≠[]) :
  Calls P (ρ.f 169) #[.pointer (some ⟨b,k,none⟩)] w λb_ w'=>b_=.returned (.string ⟨l.toArray⟩)/\Fr w w' (λc=>v.ownBlock=some c):=by
 have zj:l.length≠0:=by simpa using aO
 have V':=nq;obtain ⟨g,cap,cur,rfl,_,aN,ac5,p7,gR,zr⟩:∃ g cap cur,v=.slice (some ⟨g,0,none⟩) l.length cap/\0<=g/\w.heap[g]?=some (.cells cur (ρ.t 5) (0,0))/\l.length<=cap/\cap<=maxLen/\cur.size=cap * 1/\cur.toList.take (l.length * 1)=Lib.byteCells l:=by
  rcases nq.2 with ⟨_,aW⟩ | ⟨g,cap,cur,hv,r⟩
  ·exact absurd aW zj
  ·exact ⟨g,cap,cur,hv,r⟩
 have c1:w.drew.cell? ⟨b,k+1,none⟩=some (.slice (some ⟨g,0,none⟩) l.length cap):=by
  have:w.drew.heap[b]?=some (.cells arr e (0,0)):=av;rw [Lib.cell_of_heap this]; exact h1
 have acA:(Builtin.unsafeSliceData_ #[(ρ.t 37)] (ρ.t 127) #[.slice (some ⟨g,0,none⟩) l.length cap]).run P w.drew=.ok (.pointer (some ⟨g,0,none⟩)) w.drew :=
  Lib.run_unsafeSliceData_row _ _ _ _ _ _ (by omega)
 have acB:(Builtin.unsafeString_ #[(ρ.t 127),(ρ.t 3)] (ρ.t 9) #[.pointer (some ⟨g,0,none⟩),.int .i64 l.length]).run P w.drew=.ok (.string ⟨l.toArray⟩) (w.drew.freeze ⟨g,0,none⟩ l.length):=by
  refine Lib.run_unsafeString_row w.drew (ρ.t 127) (ρ.t 3) (ρ.t 9) (ρ.t 5) L.t127 X.cellsByte g cur.size (by have Et:w.drew.heap[g]?=some (.cells cur (ρ.t 5) (0,0)):=aN; simp [World.shape?,Et]) l aO (by omega) (by unfold maxLen at p7; omega) ?_;intro J x j;have:=V'.cells (g:=g) rfl J (.int .u8 x.toNat) (by simp [Lib.byteCells,j]);exact this
 have mixed:=L.mixed;have t72:=L.t72; have a72:=L.a72; have z72:=L.z72; have v72:=L.v72; have KC:=run_underlying L.t72;have t70:=L.t70; have a70:=L.a70; have z70:=L.z70; have v70:=L.v70; have KB:=run_underlying L.t70;have t37:=L.t37; have a37:=L.a37; have z37:=L.z37; have v37:=L.v37; have ZX:=run_underlying L.t37;have t127:=L.t127; have a127:=L.a127; have z127:=L.z127; have v127:=L.v127; have adz:=run_underlying L.t127;have t3:=L.t3; have a3:=L.a3; have z3:=L.z3; have v3:=L.v3; have Qv:=run_underlying L.t3;have t9:=L.t9; have a9:=L.a9; have z9:=L.z9; have v9:=L.v9; have KD:=run_underlying L.t9;have t5:=X.t5; have a5:=X.a5; have z5:=X.z5; have v5:=X.v5; have ZY:=run_underlying X.t5;have k4:Fr w (w.drew.freeze ⟨g,0,none⟩ l.length) (λc=>(Value.slice (some ⟨g,0,none⟩) l.length cap).ownBlock=some c):=by
  have aU:∀ c,c≠g->(w.drew.freeze ⟨g,0,none⟩ l.length).heap[c]?=w.heap[c]?:=λc aa=>by
   unfold World.freeze;rw [if_neg zj];simp only [Array.getElem?_modify,if_neg (Ne.symm aa)];rfl
  refine ⟨by unfold World.freeze; split <;> rfl,by unfold World.freeze; split <;> rfl,by unfold World.freeze; split <;> rfl,by unfold World.freeze; split <;> simp,λc _ aa=>aU c λh=>aa (by simp [Value.ownBlock,h]),λa _ aA=>?_,by unfold World.freeze; split <;> exact Nat.le_succ _⟩;unfold World.frozen?;rw [aU a.block λh=>aA (by simp [Value.ownBlock,h])]
 go_enter L.f169,Body.n169_ntmps ρ
 go_wp2
 go_region_o
 all_goals (go_wp2; go_ret; exact ⟨rfl,k4⟩)
end Go.Proofs
namespace Go.Own
open Go Go.Proofs Go.Shelf Go.Lib
set_option linter.unusedSectionVars false
variable [cI]
def m' (x s:ByteArray):Option ByteArray:=if x.size+s.size<=140737488355328 then some (x++s) else none
def wJ (x:ByteArray):Option ByteArray:=if x.size=0 then none else some x
theorem Zx (x s:ByteArray):strCells x++strCells s=strCells (x++s):=by
 unfold strCells;rw [<- List.map_append];congr 1
section
variable {P:Program}{ρ:Ren}
theorem b1.mE (L:Lays.n166 P ρ) (X:Builder.Extra P ρ) {x s y:ByteArray}(h:m' x s=some y) :
  b1 P (ρ.f 166) [.obj [.self (0,ρ.t 72),.eR (ρ.t 5) (strCells x)],aw s] [some (.obj [.self (0,ρ.t 72),.eR (ρ.t 5) (strCells y)]),none] (.bQ [ae s.size,.lit .nilIface]):=by
 refine ⟨rfl,λw I vs Fs oH bn=>?_⟩
 match vs,oH with
 | [v0,v1],_ =>
 obtain ⟨Qt,BU,fP⟩:=bn.rel 0 _ rfl;obtain ⟨ady,Wz,Bk⟩:=bn.rel 1 _ rfl;cases BU; cases Wz;have rT:=(Bk.hd (by simp)).h'.1;subst rT;unfold m' at h
 split at h <;> cases h
 rename_i eM;have aY:=fP.hd (by simp);cases aY with
 | ref j=>simp [ab.isRef] at j
 | @obj _ b e arr bW _ aU aj h1 ah aP av aH ay =>
  have rO:arr.size=2:=aj.symm;have tT:arr[0]?=some arr[0]:=Array.getElem?_eq_getElem (by omega);have w1:arr[1]?=some arr[1]:=Array.getElem?_eq_getElem (by omega);have au:=ay 0 _ _ rfl tT;have Bl:=ah 1 _ _ rfl w1;cases Bl with
  | ref j=>simp [ab.isRef] at j
  | eR lT gv lQ =>
   have cA:arr[1].ownBlock≠some b:=λh=>av 1 (by simp) ((lQ b).2 h);rw [strCells_length] at lT;refine (bws L X s w aU tT w1 (au.imp (λ⟨h1,af⟩=>⟨h1,by rw [af,rO]; exact X.liesBuilder⟩) id) lT cA eM).mono ?_;rintro b_ w' ⟨rfl,k4,ef,nq,Bw,V5,hblk⟩;rw [Zx] at nq;have aT:∀ c,ef.ownBlock=some c->c<w'.heap.size:=λc aa=>(nq.lt c aa).2;have aA:x.size+s.size=(strCells (x++s)).length:=by rw [strCells_length]; simp [ByteArray.size_append]
   rw [aA] at nq;have NO:ef.oneCell'=true:=by
    rcases nq.2 with ⟨hv,_⟩ | ⟨g,cap,cur,hv,_⟩ <;> rw [hv] <;> rfl
   have tO:∀ c,(c=b\/ef.ownBlock=some c)->Fs 0 c\/w.heap.size<=c:=by
    rintro c (rfl | aa)
    ·exact .inl ((aH _).2 (.inl rfl))
    ·rcases hblk c aa with h | h
     ·exact .inl ((aH c).2 (.inr ⟨1,by simp,(lQ c).2 h⟩))
     ·exact .inr h
   refine ⟨_,I,λt c=>t=0/\(c=b\/ef.ownBlock=some c),rfl,⟨λt x j=>?_,λt aq c aa=>?_,λt t' c aa e5=>aa.1.trans e5.1.symm,λt c aa hi=>?_,λc aa=>Nat.lt_of_lt_of_le (bn.lt c aa) k4.size,λt t' z p n m new bs ch bh cQ h1 _=>?_,cI.keep bn.hV (λc aa=>k4.block c (bn.lt c aa) λh=>bn.bm 0 c (h.elim (λh=>h ▸ (aH b).2 (.inl rfl)) λh=>(aH c).2 (.inr ⟨1,by simp,(lQ c).2 h⟩)) aa) λ_ h=>h⟩,⟨?_,λ_ h=>h,λ_ h=>.inl h,λc aa=>?_⟩⟩
   ·match t,j with
    | 0,j =>
     cases j;refine ⟨_,rfl,.tree ?_⟩;refine .obj (Fs:=λk c=>k=1/\ef.ownBlock=some c) Bw (by simp [rO]) (λk u hu=>?_) (λk y u al hu=>?_) (λJ k c _ _ h1 af=>h1.1.trans af.1.symm) (λk _ h=>V5 h.2) (λc=>⟨λh=>h.2.imp id λh=>⟨1,by simp,rfl,h⟩,λh=>⟨rfl,h.imp id λ⟨_,_,_,h⟩=>h⟩⟩) (λk J u al hu=>?_)
     ·match k,hu with
      | 0,hu=>simp [rO] at hu; subst hu; rfl
      | 1,hu=>simp [rO] at hu; subst hu; exact NO
      | k+2,hu=>simp [rO] at hu
     ·match k,al,hu with
      | 0,al,hu=>cases al; exact .l3 λc h=>by cases h.1
      | 1,al,hu =>
       cases al;simp [rO] at hu;subst hu;exact .eR nq NO λc=>⟨λh=>h.2,λh=>⟨rfl,h⟩⟩
      | k+2,al,hu=>cases al
     ·match k,al,hu with
      | 0,al,hu =>
       cases al;simp [rO] at hu;exact .inr hu.symm
      | 1,al,hu=>cases al
      | k+2,al,hu=>cases al
    | 1,j=>cases j
    | 2,j =>
     cases j;refine ⟨_,rfl,.tree (.bQ (Fs:=λ_=>ct) rfl (λk y u al hu=>?_) (λ_ _ _ _ _ h=>h.elim) (λc=>⟨λh=>(by cases h.1),λ⟨_,_,h⟩=>h.elim⟩))⟩
     match k,al,hu with
     | 0,al,hu=>cases al; cases hu; exact .lit rfl λ_ h=>h
     | 1,al,hu=>cases al; cases hu; exact .lit rfl λ_ h=>h
     | k+2,al,hu=>cases al
    | t+3,j=>simp [lZ] at j
   ·rw [aa.1] at aq; cases aq
   ·rcases tO c aa.2 with h | h
    ·exact bn.bm 0 c h hi
    ·have:=bn.lt c hi; omega
   ·match t,h1 with
    | 0,h1=>cases h1
    | 1,h1=>cases h1
    | 2,h1=>cases h1
    | t+3,h1=>simp [lZ] at h1
   ·refine k4.mono λc _ h=>⟨0,?_⟩;rcases h with rfl | h
    ·exact (aH _).2 (.inl rfl)
    ·exact (aH c).2 (.inr ⟨1,by simp,(lQ c).2 h⟩)
   ·obtain ⟨t,_,aa⟩:=aa;rcases tO c aa with h | h
    ·exact .inl ⟨0,h⟩
    ·exact .inr h
theorem b1.dq (L:Lays.n169 P ρ) (X:Builder.Extra P ρ) {x y:ByteArray}(h:wJ x=some y) :
  b1 P (ρ.f 169) [.obj [.self (0,ρ.t 72),.eR (ρ.t 5) (strCells x)]] [some (.obj [.self (0,ρ.t 72),.dead])] (aw y):=by
 refine ⟨rfl,λw I vs Fs oH bn=>?_⟩
 match vs,oH with
 | [v0],_ =>
 obtain ⟨Qt,BU,fP⟩:=bn.rel 0 _ rfl;cases BU;unfold wJ at h
 split at h <;> cases h
 rename_i eM;have aY:=fP.hd (by simp);cases aY with
 | ref j=>simp [ab.isRef] at j
 | @obj _ b e arr bW _ aU aj h1 ah aP av aH ay =>
  have rO:arr.size=2:=aj.symm;have tT:arr[0]?=some arr[0]:=Array.getElem?_eq_getElem (by omega);have w1:arr[1]?=some arr[1]:=Array.getElem?_eq_getElem (by omega);have Bl:=ah 1 _ _ rfl w1;cases Bl with
  | ref j=>simp [ab.isRef] at j
  | eR lT gv lQ =>
   have cA:arr[1].ownBlock≠some b:=λh=>av 1 (by simp) ((lQ b).2 h);have ue:strCells x=byteCells x.data.toList:=rfl;have hlen:(strCells x).length=x.data.toList.length:=by unfold strCells; rw [List.length_map]
   rw [hlen,ue] at lT;refine (Sh L X (k:=0) x.data.toList w aU w1 lT (λe=>eM (by rw [<- strCells_length]; unfold strCells; rw [e]; rfl))).mono ?_;rintro b_ w' ⟨rfl,k4⟩;have Vk:b<w.heap.size:=(Array.getElem?_eq_some_iff.1 aU).1;have Bw:w'.heap[b]?=some (.cells arr e (0,0)):=(k4.block b Vk cA).trans aU;refine ⟨_,I,λt c=>t=0/\c=b,rfl,⟨λt x j=>?_,λt aq c aa=>?_,λt t' c aa e5=>aa.1.trans e5.1.symm,λt c aa hi=>?_,λc aa=>Nat.lt_of_lt_of_le (bn.lt c aa) k4.size,λt t' z p n m new bs ch bh cQ h1 _=>?_,cI.keep bn.hV (λc aa=>k4.block c (bn.lt c aa) λh=>bn.bm 0 c ((aH c).2 (.inr ⟨1,by simp,(lQ c).2 h⟩)) aa) λ_ h=>h⟩,⟨?_,λ_ h=>h,λ_ h=>.inl h,λc aa=>?_⟩⟩
   ·match t,j with
    | 0,j =>
     cases j;refine ⟨_,rfl,.tree (.obj (Fs:=λ_=>ct) Bw aj h1 (λk y u al hu=>?_) (λ_ _ _ _ _ h=>h.elim) (λ_ _ h=>h) (λc=>⟨λh=>.inl h.2,λh=>⟨rfl,h.elim id λ⟨_,_,h⟩=>h.elim⟩⟩) (λk J u al hu=>?_))⟩
     ·match k,al with
      | 0,al=>cases al; exact .l3 λ_ h=>h
      | 1,al=>cases al; exact .dead λ_ h=>h
      | k+2,al=>cases al
     ·match k,al with
      | 0,al=>cases al; exact ay 0 _ u rfl hu
      | 1,al=>cases al
      | k+2,al=>cases al
    | 1,j =>
     cases j;refine ⟨_,rfl,.tree (.lit rfl λc h=>by cases h.1)⟩
    | t+2,j=>simp [lZ] at j
   ·rw [aa.1] at aq; cases aq
   ·rw [aa.2] at hi;exact bn.bm 0 b ((aH b).2 (.inl rfl)) hi
   ·match t,h1 with
    | 0,h1=>cases h1
    | 1,h1=>cases h1
    | t+2,h1=>simp [lZ] at h1
   ·exact k4.mono λc _ h=>⟨0,(aH c).2 (.inr ⟨1,by simp,(lQ c).2 h⟩)⟩
   ·obtain ⟨t,_,rfl⟩:=aa;exact .inl ⟨0,(aH _).2 (.inl rfl)⟩
end
end Go.Own
namespace Go.Own
open Go
set_option linter.unusedSectionVars false
variable [cI]
set_option linter.unusedVariables false
def JR:ab->Option ab
 | .lit v=>some (.lit v)
 | .aQ=>some .aQ
 | .bm z n cs=>some (.bm z n cs)
 | .own z n cs=>some (.own z n cs)
 | .obj cs=>some (.obj cs)
 | .agg cs=>some (.agg cs)
 | .bQ cs=>some (.bQ cs)
 | .cO cs=>some (.cO cs)
 | .ptr p k=>some (.ptr p k)
 | .bg z p n=>some (.bg z p n)
 | .sub z p l n=>some (.sub z p l n)
 | .bB z p n m c=>some (.bB z p n m c)
 | .dj f a b=>some (.dj f a b)
 | .mp p=>some (.mp p)
 | .hr p=>some (.hr p)
 | .imp p=>some (.imp p)
 | .dead=>some .dead
 | .self k=>some (.self k)
 | .eR t us=>some (.eR t us)
theorem OP {x y:ab}(h:JR x=some y):x=y:=by cases x <;> (cases h; rfl)
def Fj:List ab->Option (List ab)
 | []=>some []
 | x::l=>match Fj l with
  | none=>none
  | some r=>match JR x with
   | none=>none
   | some y=>some (y::r)
theorem OO:∀ {l r:List ab},Fj l=some r->l=r
 | [],r,h=>by cases h; rfl
 | x::l,r,h=>by
  unfold Fj at h
  split at h
  ·cases h
  ·rename_i ck ah
   split at h
   ·cases h
   ·rename_i y al;cases h; rw [OO ah,OP al]
def sV:ab->Option ab
 | .agg cs=>match Fj cs with
  | some r=>some (.agg r)
  | none=>none
 | x=>JR x
theorem vM {x y:ab}(h:sV x=some y):x=y:=by
 unfold sV at h
 split at h
 ·split at h
  ·rename_i ah;cases h; rw [OO ah]
  ·cases h
 ·exact OP h
def k9:List ab->Option (List ab)
 | []=>some []
 | x::l=>match k9 l with
  | none=>none
  | some r=>match sV x with
   | none=>none
   | some y=>some (y::r)
theorem xE:∀ {l r:List ab},k9 l=some r->l=r
 | [],r,h=>by cases h; rfl
 | x::l,r,h=>by
  unfold k9 at h
  split at h
  ·cases h
  ·rename_i ck ah
   split at h
   ·cases h
   ·rename_i y al;cases h; rw [xE ah,vM al]
def x7 (f:Nat->ab->ab):Nat->List Nat->List ab->Option (List ab)
 | _,_,[]=>some []
 | _,[],_::_=>none
 | k,J::dY,x::l=>match x7 f (k+1) dY l with
  | none=>none
  | some r=>match Nat.beq J k,sV (f J x) with
   | true,some y=>some (y::r)
   | _,_=>none
theorem C7 {f:Nat->ab->ab}:∀ {l:List ab}{dY:List Nat}{k:Nat}{r:List ab},x7 f k dY l=some r->(l.mapIdx λi x=>f (k+i) x)=r
 | [],dY,k,r,h=>by cases dY <;> (cases h; rfl)
 | x::l,[],k,r,h=>by cases h
 | x::l,J::dY,k,r,h=>by
  unfold x7 at h
  split at h
  ·cases h
  ·rename_i ck ah
   split at h
   ·rename_i y ai al;cases h;have:=Nat.eq_of_beq_eq_true ai;subst this;rw [List.mapIdx_cons,<- C7 ah,<- vM al];simp [Nat.add_comm,Nat.add_left_comm]
   ·cases h
def num:List Nat:=0::1::2::3::4::5::6::7::8::9::10::11::12::13::14::15::16::17::18::19::20::21::22::23::24::25::26::27::28::29::30::31::32::33::34::35::36::37::38::39::40::41::42::43::44::45::46::47::48::49::50::51::52::53::54::55::56::57::58::59::60::61::62::63::64::65::66::67::68::69::70::71::72::73::74::75::76::77::78::79::[]
def FC (g:aK):Operand->Option ab
 | .tmp t=>match g t with
  | some (.lit v)=>some (.lit v)
  | some .aQ=>some .aQ
  | some (.bm z n cs)=>some (.bm z n cs)
  | some (.own z n _)=>some (.bg z ⟨t,[]⟩ n)
  | some (.obj (_::_))=>some (.ptr ⟨t,[]⟩ 0)
  | some (.cO cs)=>some (.cO cs)
  | some (.agg cs)=>match x7 (λi x=>fD 1 ⟨t,[i]⟩ x) 0 num cs with
   | some r=>some (.agg r)
   | none=>none
  | some (.bQ cs)=>match x7 (λi x=>fD 1 ⟨t,[i]⟩ x) 0 num cs with
   | some r=>some (.bQ r)
   | none=>none
  | some (.ptr p k)=>some (.ptr p k)
  | some (.bg z p n)=>some (.bg z p n)
  | some (.sub z p l n)=>some (.sub z p l n)
  | some (.bB z _ n m _)=>some (.bg z ⟨t,[]⟩ (n+m))
  | some (.dj fn [] cs)=>some (.dj fn [] cs)
  | some (.mp _)=>some (.hr ⟨t,[]⟩)
  | some (.hr p)=>some (.hr p)
  | some (.imp q)=>some (.imp q)
  | _=>none
 | .const v=>match ofConst v with
  | .lit v=>some (.lit v)
  | .agg cs=>some (.agg cs)
  | .aQ=>match v with
   | .slice none 0 0=>some .aQ
   | _=>none
  | _=>none
 | .func f=>some (.dj (.func f) [] [])
 | .global _=>none
theorem X0 {v u:Value}(h:ofConst v=.lit u):u=v:=by
 cases v <;> simp only [ofConst,kd] at h <;> first | (cases h; rfl) | (split at h <;> cases h <;> rfl) | cases h
theorem Rd.q {g:aK}{a:Operand}{y:ab}(h:FC g a=some y:=by rfl):Rd g a y:=by
 unfold FC at h
 split at h
 ·split at h <;> first | (split at h <;> cases h <;> first | exact .agg ‹_› (by have:=C7 ‹_›; simpa [Place.push] using this) | exact .bQ ‹_› (by have:=C7 ‹_›; simpa [Place.push] using this)) | skip
  all_goals cases h
  all_goals first | exact .lit ‹_› | exact .aQ ‹_› | exact .bm ‹_› | exact .own ‹_› | exact .obj ‹_› | exact .cO ‹_› | exact .ptr ‹_› | exact .bg ‹_› | exact .sub ‹_› | exact .bB ‹_› | exact .dj ‹_› | exact .mp ‹_› | exact .hr ‹_› | exact .imp ‹_›
 ·split at h
  ·rename_i e; cases h; have:=X0 e; subst this; exact .k e
  ·rename_i e; cases h; exact .Jt e
  ·split at h <;> cases h
   exact .zz
  ·cases h
 ·cases h; exact .func
 ·cases h
def FE (g:aK) (t:Nat):Option ab :=
 match g t with
 | some (.lit v)=>some (.lit v)
 | some .aQ=>some .aQ
 | some (.bm z n cs)=>some (.bm z n cs)
 | some (.cO cs)=>some (.cO cs)
 | some (.dj fn [] cs)=>some (.dj fn [] cs)
 | some (.imp q)=>some (.imp q)
 | _=>none
theorem Rd.z7 {g:aK}{t:Nat}{y:ab}(h:FE g t=some y:=by rfl):Rd g (.tmp t) y:=by
 unfold FE at h
 split at h <;> cases h <;> first | exact .lit ‹_› | exact .aQ ‹_› | exact .bm ‹_› | exact .cO ‹_› | exact .dj ‹_› | exact .imp ‹_›
class hf (P:Program) (t:TypeId) (α:outParam Type) (en:outParam (bz α)):Prop where p:True:=trivial
class tj {α:Type}(en:bz α) (cs:List ab) (y:outParam α):Prop where p:en.cells y=cs
instance {a:Int}:tj az [ae a] a:=⟨rfl⟩
instance {a:Int}:tj p0 [qL a] a:=⟨rfl⟩
instance {a:Bool}:tj cg [bc a] a:=⟨rfl⟩
instance {a:ByteArray}:tj cJ [aw a] a:=⟨rfl⟩
instance {α:Type}{en:bz α}{l:List α}:tj (bM en) [.bm en.z l.length (bq en l)] l:=⟨rfl⟩
class o6 {α:Type}(en:bz α) (ys:List ab) (L:outParam (List α)):Prop where p:ma ys=some (bq en L)/\ys.all (λy=>match jf y with | some c=>Nat.beq c.length en.z | none=>false)=true/\L.length=ys.length
instance {α:Type}{en:bz α}:o6 en [] []:=⟨⟨rfl,rfl,rfl⟩⟩
theorem o6.cons {α:Type}{en:bz α}{y:ab}{cs:List ab}{ys:List ab}{a:α}{L:List α}(av:jf y=some cs) [h:tj en cs a] [aj:o6 en ys L]:o6 en (y::ys) (a::L):=by
 refine ⟨⟨?_,?_,?_⟩⟩
 ·simp [ma,av,aj.p.1,bq,h.p]
 ·simp only [List.all_cons,av,aj.p.2.1,Bool.and_true];rw [<- h.p,en.len]; exact Nat.beq_refl _
 ·simp [aj.p.2.2]
instance {α:Type}{en:bz α}{cs ys:List ab}{a:α}{L:List α} [h:tj en cs a] [aj:o6 en ys L]:o6 en (.agg cs::ys) (a::L):=.cons rfl
instance {α:Type}{en:bz α}{v:Value}{ys:List ab}{a:α}{L:List α} [h:tj en [.lit v] a] [aj:o6 en ys L]:o6 en (.lit v::ys) (a::L):=.cons rfl
instance {α:Type}{en:bz α}{z n:Nat}{cs:List ab}{ys:List ab}{a:α}{L:List α} [h:tj en [.bm z n cs] a] [aj:o6 en ys L]:o6 en (.bm z n cs::ys) (a::L):=.cons rfl
def wb (d:Nat):List Oper->Bool
 | []=>false
 | o::l=>(match o.op with
  | .call { callee:=.value _,args:=xs,argTypes:=_ }=>xs.toList.any λx=>match x with | .tmp t=>Nat.beq t d | _=>false
  | .call { callee:=.builtin .append,args:=xs,argTypes:=_ }=>match xs.toList with | [_,.tmp t]=>Nat.beq t d | _=>false
  | .convert _ _ (.tmp t)=>Nat.beq t d
  | .build _ ps=>ps.toList.any λx=>match x.2 with | .tmp t=>Nat.beq t d | _=>false
  | .buildSlice _ _ ps=>ps.toList.any λx=>match x.2 with | .tmp t=>Nat.beq t d | _=>false
  | _=>false)||wb d l
class Au (P:Program):Prop where p:P.follows .mixedOrders=true:=by kernel_rfl
class jZ (P:Program) (t:TypeId) (k:outParam Nat):Prop where p:iH P t k=true:=by kernel_rfl
class hZ (P:Program) (t:TypeId) (z:outParam Value):Prop where p:(P.info? t).bind (·.zero)=some z:=by kernel_rfl
class K8 (P:Program) (e:TypeId) (t:outParam TypeId):Prop where p:(P.info? e).bind (·.zero)=some (.agg #[.pointer none,.slice none 0 0]):=by kernel_rfl
class jK (P:Program) (t:TypeId) (pl:outParam (List (Nat × Nat))):Prop where p:kq P t pl=true:=by kernel_rfl
class iP (P:Program) (t:TypeId) (e z b:outParam Nat):Prop where p:jM P t e z b=true:=by kernel_rfl
class Av (P:Program) (t:TypeId) (k:outParam IntKind):Prop where p:xn P t k=true:=by kernel_rfl
class yy (P:Program) (t:TypeId) (b:outParam Nat):Prop where p:(P.info? t).map (·.bytes)=some b:=by kernel_rfl
section
variable {α β:Type}{P:Program}{g:aK}{ty t t2:TypeId}{a b:Operand}{k r z n:Nat}{cs cs':List ab}{x y:ab}{p q:Place}{m:Int}{qf Ju:IntKind}{e:TypeId}{N:cS}{ops:Array Oper}{gr:Nat}
theorem O.F0 (j:Rd g a y:=by exact .q) (aa:(jf y).bind k9=some cs:=by rfl):b7 P g (.box e a) ty (.obj cs):=by
 cases av:jf y with
 | none=>rw [av] at aa; cases aa
 | some c=>rw [av] at aa; have:=xE aa; subst this; exact O.box j av
theorem O.gH {v:Value} [h:fw P t] (j:Rd g a (.ptr ⟨r,[]⟩ k):=by exact .q) (ay:g r=some (.obj cs):=by rfl) (aa:cs[k]?=some (.lit v):=by rfl):b7 P g (.load t a) ty (.lit v):=O.pz ay j h.p aa
theorem O.fp [h:fw P t] (j:Rd g a (.cO cs):=by exact .q) (aa:cs.head?.bind sV=some x:=by rfl):b7 P g (.load t a) ty x:=by
 cases av:cs.head? with
 | none=>rw [av] at aa; cases aa
 | some c=>rw [av] at aa; have:=vM aa; subst this; exact O.Cc j h.p av
theorem O.wj [h:fw P t] (j:Rd g a (.ptr ⟨r,[]⟩ k):=by exact .q) (ay:g r=some (.obj cs):=by rfl) (aa:cs[k]?=some x:=by rfl) (al:sV (fD 0 ⟨r,[k]⟩ x)=some y:=by rfl):b7 P g (.load t a) ty y:=O.xz ay j h.p aa (vM al)
theorem O.wk [h:jZ P t z] (j:Rd g a (.ptr ⟨r,[]⟩ k):=by exact .q) (ay:g r=some (.obj cs):=by rfl) (hk:Nat.ble (k+z) cs.length=true:=by rfl) (aa:x7 (λi x=>fD 0 ⟨r,[i]⟩ x) k (num.drop k) ((cs.drop k).take z)=some cs':=by rfl):b7 P g (.load t a) ty (.agg cs'):=O.eZ ay j h.p hk (C7 aa)
theorem O.F4 [h:jZ P t z] (j:Rd g a (.cO cs):=by exact .q) (aa:k9 (cs.take z)=some cs':=by rfl) (aW:cs'.length=z:=by rfl):b7 P g (.load t a) ty (.agg cs'):=O.sT j h.p (xE aa) aW
theorem O.F9 {en:bz α}{L:List α}{y:α}{o:Nat}{x x':ab} [aq:fw P t] (j:Rd g a (.ptr p (m.toNat * en.z+o)):=by exact .q) (au:bu g p=some (ao en L):=by rfl) (h:idx L m=some y:=by assumption) (aa:(en.cells y)[o]?=some x:=by rfl) (ah:sV (fD 0 (p.push (m.toNat * en.z+o)) x)=some x':=by rfl):b7 P g (.load t a) ty x':=O.jS au j aq.p h aa (vM ah)
theorem O.Gh {en:bz α}{L:List α}{y:α}{o:Nat} [aq:jZ P t z] (j:Rd g a (.ptr p (m.toNat * en.z+o)):=by exact .q) (au:bu g p=some (ao en L):=by rfl) (h:idx L m=some y:=by assumption) (aW:Nat.ble (o+z) en.z=true:=by rfl) (aa:k9 ((((en.cells y).drop o).take z).mapIdx (λi x=>fD 0 (p.push (m.toNat * en.z+o+i)) x))=some cs':=by rfl):b7 P g (.load t a) ty (.agg cs'):=O.XA au j aq.p h aW (xE aa)
theorem O.Ai {cp f off:Nat} [h:cP P cp f off t] (j:Rd g a (.ptr ⟨r,[]⟩ k):=by exact .q) (ay:g r=some (.obj cs):=by rfl) (aj:Nat.blt (k+off) cs.length=true:=by rfl):b7 P g (.fieldAddr cp a f) ty (.ptr ⟨r,[]⟩ (k+off)):=O.ng ay j h.p aj
theorem O.Aj {cp f off:Nat} [h:cP P cp f off t] (j:Rd g a (.cO cs):=by exact .q):b7 P g (.fieldAddr cp a f) ty (.cO (cs.drop off)):=O.A6 j h.p
theorem O.wf {en:bz α}{L:List α}{y:α}{cp f off o hn:Nat} [aS:cP P cp f off t] (j:Rd g a (.ptr p (m.toNat * en.z+o)):=by exact .q) (au:bu g p=some (ao en L):=by rfl) (h:idx L m=some y:=by assumption) (aU:o+off=hn:=by rfl) (aT:Nat.blt hn en.z=true:=by rfl):b7 P g (.fieldAddr cp a f) ty (.ptr p (m.toNat * en.z+hn)):=O.j_ au j aS.p h aU aT
theorem O.F3 {en:bz α}{L:List α}{y:α}{bs:Nat}(h:idx L m=some y) [aJ:d_ P t e bs] (j:Rd g a (.bm en.z L.length (bq en L)):=by exact .q) (al:Rd g b (.lit (.int qf m)):=by exact .q) (aW:bs=en.z:=by rfl):b7 P g (.indexAddr t a b) ty (.cO (en.cells y++bq en (L.drop (m.toNat+1)))):=O.qX j al (aW ▸ aJ.p) h
theorem O.rn {en:bz α}{L:List α}{y:α}{bs:Nat}(h:idx L m=some y) [aJ:d_ P t e bs] (j:Rd g a (.bg en.z p L.length):=by exact .q) (au:bu g p=some (ao en L):=by rfl) (al:Rd g b (.lit (.int qf m)):=by exact .q) (aW:bs=en.z:=by rfl) (aO:Nat.blt 0 en.z=true:=by rfl):b7 P g (.indexAddr t a b) ty (.ptr p (m.toNat * en.z+0)):=O.gT au j al (aW ▸ aJ.p) h aO
theorem O.Gf {p i:Nat}{cs:List ab}{x y:ab}(j:g p=some (.bQ cs):=by rfl) (al:cs[i]?=some x:=by rfl) (ah:sV (fD 1 (Place.push ⟨p,[]⟩ i) x)=some y:=by rfl):b7 P g (.extract (.tmp p) i) ty y:=O.ex j al (vM ah)
theorem O.F8 [h1:Av P t qf] [af:Av P t2 Ju] (j:Rd g a (.lit (.int qf m)):=by exact .q):b7 P g (.convert t t2 a) ty (.lit (.int Ju (Ju.wrap m))):=O.Tl j h1.p af.p
theorem O.F7 {L:List Int}(j:Rd g a (.bm p0.z L.length (bq p0 L)):=by exact .q) (aq:wK P t t2=true:=by kernel_rfl):b7 P g (.convert t t2 a) ty (aw (strOfNums L)):=O.Tk j aq
theorem O.F5 {t5:TypeId} [h:K8 P e t5]:b7 P g (.alloc e) ty (.obj [.self (0,e),.eR t5 (Lib.strCells ⟨#[]⟩)]):=.qj (.DQ h.p rfl)
theorem O.F6 {df:Value} [h:hZ P e df] (h1:df.cells.toList.all Value.oneCell'=true:=by rfl) (aa:k9 (df.cells.toList.map kd)=some cs:=by rfl):b7 P g (.alloc e) ty (.obj cs):=O.gz h.p h1 (xE aa)
theorem O.Ge {parts:Array (Nat × Operand)}{pl:List (Nat × Nat)}{df:Value}{ps:List (Nat × List ab)} [aq:jK P t pl] [aW:hZ P t df] (h1:df.cells.toList.all Value.oneCell'=true:=by rfl)
  (au:q3 g parts.toList=some ps:=by rfl) (aa:(vb (λi=>pl[i]?) (df.cells.toList.map kd) ps).bind k9=some cs:=by rfl):b7 P g (.build t parts) ty (.agg cs):=by
 cases av:vb (λi=>pl[i]?) (df.cells.toList.map kd) ps with
 | none=>rw [av] at aa; cases aa
 | some c=>rw [av] at aa; have:=xE aa; subst this; exact O.eW aq.p aW.p h1 au av
theorem O.wd {cp f off:Nat} [h:cP P cp f off t] [aq:fw P t] (j:Rd g a (.agg cs):=by exact .agg rfl rfl) (al:cs[off]?.bind sV=some x:=by rfl):b7 P g (.field cp a f) ty x:=by
 cases av:cs[off]? with
 | none=>rw [av] at al; cases al
 | some c=>rw [av] at al; have:=vM al; subst this; exact O.fd j h.p aq.p av
theorem O.wp {en:bz α}{L M r:List α}{bs:Nat}(h:da L M=some r) [aq:iP P t e bs gr] (ay:Rd g a (.bg en.z p L.length):=by exact .q) (au:bu g p=some (ao en L):=by rfl) (j:Rd g b y:=by exact .q) (hm:nL g en y M:=by (first | exact .i | exact .n | exact .o rfl rfl)) (aW:bs=en.z:=by rfl) (av:Nat.ble gr 128=true:=by rfl) [e6:qG g]:b7 P g (.call { callee:=.builtin .append,args:=#[a,b],argTypes:=#[t,t] }) ty (.bB en.z p L.length M.length (bq en M)) :=
 O.ap ay au j hm (aW ▸ aq.p) av h
def xA:List ab->Option (List Value)
 | []=>some []
 | .lit v::l=>match xA l with
  | some r=>some (v::r)
  | none=>none
 | _=>none
theorem Cg:∀ {l:List ab}{r:List Value},xA l=some r->l=r.map .lit
 | [],r,h=>by cases h; rfl
 | x::l,r,h=>by
  unfold xA at h
  split at h
  ·rename_i e; cases e
  ·rename_i e;cases e
   split at h
   ·rename_i ck ah;cases h; rw [Cg ah]; rfl
   ·cases h
  ·cases h
def yb:List Value->Option (List nK)
 | []=>some []
 | v::l=>match yb l,l2 v with
  | some r,some u=>some (u::r)
  | _,_=>none
theorem Da:∀ {l:List Value}{r:List nK},yb l=some r->l.map l2=r.map some
 | [],r,h=>by cases h; rfl
 | v::l,r,h=>by
  unfold yb at h
  split at h
  ·rename_i q9 u ah ay;cases h; simp [Da ah,ay]
  ·cases h
theorem O.oe {AX tK:List ab}{nH o2:List Value}{et:List nK}(j:Rd g a (.agg AX):=by exact .q) (al:Rd g b (.agg tK):=by exact .q) (zu:xA AX=some nH:=by rfl) (BW:xA tK=some o2:=by rfl) (aR:yb nH=some et:=by rfl) (av:yb o2=some et:=by rfl) (aq:va P t et=true:=by kernel_rfl):b7 P g (.binOp .eql t a b t2) ty (bc (lu nH o2)):=O.Ty (Cg zu ▸ j) (Cg BW ▸ al) (Da aR) (Da av) aq
theorem O.wn {AX tK:List ab}{nH o2:List Value}{et:List nK}(j:Rd g a (.agg AX):=by exact .q) (al:Rd g b (.agg tK):=by exact .q) (zu:xA AX=some nH:=by rfl) (BW:xA tK=some o2:=by rfl) (aR:yb nH=some et:=by rfl) (av:yb o2=some et:=by rfl) (aq:va P t et=true:=by kernel_rfl):b7 P g (.binOp .neq t a b t2) ty (bc (!lu nH o2)):=O.XS (Cg zu ▸ j) (Cg BW ▸ al) (Da aR) (Da av) aq
theorem O.F' {en:bz α}{z0:α}{r:List α}{bs:Nat}{df:Value}(h:nC m z0=some r) [het:hf P t α en] [aq:d_ P t e bs] [hzero:hZ P e df] [jm:yy P e gr] (j:Rd g a (.lit (.int qf m)):=by exact .q) (al:Rd g b (.lit (.int .i64 m)):=by exact .q) (h1:df.cells.toList.all Value.oneCell'=true:=by rfl) (aa:df.cells.toList.map kd=en.cells z0:=by rfl) (aW:bs=en.z:=by rfl) (av:Nat.ble gr 128=true:=by rfl):b7 P g (.makeSlice t a b) ty (ao en r) :=
 O.mk (aW ▸ aq.p) j al hzero.p h1 aa h jm.p av
theorem O.wl {en:bz α}{bs:Nat} [het:hf P t α en] [aq:d_ P t e bs] (aW:bs=en.z:=by rfl) (hzero:il P e en.z=true:=by kernel_rfl):b7 P g (.buildSlice t 0 #[]) ty (ao en ([]:List α)) :=
 O.dq (ys:=[]) en [] (aW ▸ aq.p) rfl rfl rfl rfl rfl rfl hzero (by rw [Nat.zero_mul]; rfl) rfl
theorem O.Ga {en:bz α}{M r:List α}{bs:Nat}(h:da [] M=some r) [aq:iP P t e bs gr] (ay:Rd g a .aQ:=by exact .q) (j:Rd g b y:=by exact .q) (hm:nL g en y M:=by (first | exact .i | exact .n | exact .o rfl rfl)) (aW:bs=en.z:=by rfl) (av:Nat.ble gr 128=true:=by rfl):b7 P g (.call { callee:=.builtin .append,args:=#[a,b],argTypes:=#[t,t] }) ty (ao en M) :=
 O.RK ay j hm (aW ▸ aq.p) av h
theorem O.Gb {en:bz α}{L r:List α}{c:Operand}{n:Int}{k:IntKind}{bs:Nat}(h:mS L 0 n=some r) [aq:d_ P t e bs] (j:Rd g a (.bm en.z L.length (bq en L)):=by exact .q) (bG:Rd g c (.lit (.int k n)):=by exact .q) (aW:bs=en.z:=by rfl):b7 P g (.slice t a none (some c) none) ty (ak en r):=O.Zp j bG (aW ▸ aq.p) h
theorem O.Gc {en:bz α}{L r:List α}{k:IntKind}{bs:Nat}(h:mS L m L.length=some r) [aq:d_ P t e bs] (j:Rd g a (.bm en.z L.length (bq en L)):=by exact .q) (aj:Rd g b (.lit (.int k m)):=by exact .q) (aW:bs=en.z:=by rfl):b7 P g (.slice t a (some b) none none) ty (ak en r):=O.Zq j aj (aW ▸ aq.p) h
theorem O.Gd {en:bz α}{L r:List α}{c:Operand}{n:Int}{k py:IntKind}{bs:Nat}(h:mS L m n=some r) [aq:d_ P t e bs] (j:Rd g a (.bm en.z L.length (bq en L)):=by exact .q) (aj:Rd g b (.lit (.int k m)):=by exact .q) (bG:Rd g c (.lit (.int py n)):=by exact .q) (aW:bs=en.z:=by rfl):b7 P g (.slice t a (some b) (some c) none) ty (ak en r):=O.Zo j aj bG (aW ▸ aq.p) h
def E7:List Nat->List Nat->Bool
 | [],[]=>true
 | a::l,b::m=>Nat.beq a b&&E7 l m
 | _,_=>false
def Fz (p q:Place):Bool:=!(Nat.beq p.root q.root&&E7 p.path q.path)
theorem Oz:∀ (l:List Nat),E7 l l=true
 | []=>rfl
 | a::l=>by unfold E7; rw [Oz l,Nat.beq_refl]; rfl
theorem Pm {p q:Place}(h:Fz p q=true):p≠q:=by
 rintro rfl;unfold Fz at h;rw [Nat.beq_refl,Oz] at h;cases h
def vN (p:Place):List (Nat × ab)->Bool
 | []=>true
 | (_,.bB _ q _ _ _)::l=>Fz p q&&vN p l
 | _::l=>vN p l
theorem JS {p:Place}:∀ {G:List (Nat × ab)},vN p G=true->∀ t z n m new,get G t≠some (.bB z p n m new)
 | [],_,t,z,n,m,new,e=>by cases e
 | (s,x)::G,h,t,z,n,m,new,e=>by
  simp only [get] at e
  split at e
  ·cases e;unfold vN at h;rw [Bool.and_eq_true] at h;exact Pm h.1 rfl
  ·refine JS (G:=G) ?_ t z n m new e;unfold vN at h
   split at h
   ·rename_i b9; cases b9
   ·rename_i b9; cases b9; rw [Bool.and_eq_true] at h; exact h.2
   ·rename_i b9; cases b9; exact h
def xG (p:Place):Acc->Bool
 | []=>true
 | (_,_,some (.bB _ q _ _ _))::l=>Fz p q&&xG p l
 | _::l=>xG p l
theorem OR {p:Place}{G:List (Nat × ab)}{A:Nat->Bool}(c_:vN p G=true):∀ {acc:Acc},xG p acc=true->∀ t z n m new,c3 (get G) A acc t≠some (.bB z p n m new)
 | [],_,t,z,n,m,new,e=>JS c_ t z n m new e
 | (k,d,r)::acc,h,t,z,n,m,new,e=>by
  have af:xG p acc=true:=by
   unfold xG at h
   split at h
   ·rename_i b9; cases b9
   ·rename_i b9; cases b9; rw [Bool.and_eq_true] at h; exact h.2
   ·rename_i b9; cases b9; exact h
  simp only [c3] at e
  split at e
  ·split at e
   ·subst e;unfold xG at h;rw [Bool.and_eq_true] at h;exact Pm h.1 rfl
   ·cases e
  ·exact OR c_ af t z n m new e
theorem O.wr {en:bz α}{L M r:List α}{bs:Nat}{G:List (Nat × ab)}(h:da L M=some r) [aq:iP P t e bs gr] (ay:Rd (get G) a (.bg en.z p L.length):=by exact .q) (au:bu (get G) p=some (ao en L):=by rfl) (j:Rd (get G) b y:=by exact .q) (hm:nL (get G) en y M:=by (first | exact .i | exact .n | exact .o rfl rfl)) (aW:bs=en.z:=by rfl) (av:Nat.ble gr 128=true:=by rfl) (a7:vN p G=true:=by rfl):b7 P (get G) (.call { callee:=.builtin .append,args:=#[a,b],argTypes:=#[t,t] }) ty (.bB en.z p L.length M.length (bq en M)) :=
 O.wC ay au j hm (aW ▸ aq.p) av h (JS a7)
theorem O.QB {en:bz α}{L M r:List α}{bs:Nat}{G:List (Nat × ab)}{A:Nat->Bool}{acc:Acc}(h:da L M=some r) [aq:iP P t e bs gr] (ay:Rd (c3 (get G) A acc) a (.bg en.z p L.length):=by exact .q) (au:bu (c3 (get G) A acc) p=some (ao en L):=by rfl) (j:Rd (c3 (get G) A acc) b y:=by exact .q) (hm:nL (c3 (get G) A acc) en y M:=by (first | exact .i | exact .n | exact .o rfl rfl)) (aW:bs=en.z:=by rfl) (av:Nat.ble gr 128=true:=by rfl) (a7:vN p G=true:=by rfl) (Wg:xG p acc=true:=by rfl):b7 P (c3 (get G) A acc) (.call { callee:=.builtin .append,args:=#[a,b],argTypes:=#[t,t] }) ty (.bB en.z p L.length M.length (bq en M)) :=
 O.wC ay au j hm (aW ▸ aq.p) av h (OR a7 Wg)
instance {s:Nat}{x:ab}{G:List (Nat × ab)} [h:o' s (get G)]:o' s (get ((s,x)::G)):=(pj (G:=G) (d:=s) (v:=x)) ▸ (inferInstance:o' s (cK (get G) s x))
instance {s d:Nat}{x:ab}{G:List (Nat × ab)} [h:o' s (get G)] [j:mW x]:o' s (get ((d,x)::G)):=(pj (G:=G) (d:=d) (v:=x)) ▸ (inferInstance:o' s (cK (get G) d x))
theorem O.F1 {en:bz α}{L M M2 r:List α}{bs s:Nat}(h:da (L++M) M2=some r) [aq:iP P t e bs gr] (ay:Rd g a (.bg en.z ⟨s,[]⟩ (L.length+M.length)):=by exact .q) (p_:g s=some (.bB en.z q L.length M.length (bq en M)):=by rfl) (au:bu g q=some (ao en L):=by rfl) (j:Rd g b y:=by exact .q) (hm:nL g en y M2:=by (first | exact .i | exact .n | exact .o rfl rfl)) (aW:bs=en.z:=by rfl) (av:Nat.ble gr 128=true:=by rfl) [e6:o' s g]:b7 P g (.call { callee:=.builtin .append,args:=#[a,b],argTypes:=#[t,t] }) ty (.bB en.z ⟨s,[]⟩ (L.length+M.length) M2.length (bq en M2)) :=
 O.DR ay p_ au j hm (aW ▸ aq.p) av h
theorem O.Gg {en:bz β}{r:List (List β)}{bs:Nat}{df:Value}(h:nC m ([]:List β)=some r) [het:hf P t (List β) (bM en)] [aq:d_ P t e bs] [hzero:hZ P e df] [jm:yy P e gr] (j:Rd g a (.lit (.int qf m)):=by exact .q) (al:Rd g b (.lit (.int .i64 m)):=by exact .q) (h1:df.cells.toList.all Value.oneCell'=true:=by rfl) (aa:df.cells.toList.map kd=[.aQ]:=by rfl) (aW:bs=(bM en).z:=by rfl) (av:Nat.ble gr 128=true:=by rfl):b7 P g (.makeSlice t a b) ty (ao (bM en) r) :=
 O.XO (aW ▸ aq.p) j al hzero.p h1 aa h jm.p av
theorem O.eB {en:bz α}{L:List α}{y:α}{bs:Nat} [aJ:d_ P t e bs] (j:Rd g a (.bm en.z L.length (bq en L)):=by exact .q) (al:Rd g b (.lit (.int qf m)):=by exact .q) (aW:bs=en.z:=by rfl) (h:idx L m=some y:=by assumption):b7 P g (.indexAddr t a b) ty (.cO (en.cells y++bq en (L.drop (m.toNat+1)))):=O.qX j al (aW ▸ aJ.p) h
theorem O.F_ {en:bz α}{L:List α}{y:α}{bs:Nat} [aJ:d_ P t e bs] (j:Rd g a (.bg en.z p L.length):=by exact .q) (au:bu g p=some (ao en L):=by rfl) (al:Rd g b (.lit (.int qf m)):=by exact .q) (aW:bs=en.z:=by rfl) (aO:Nat.blt 0 en.z=true:=by rfl) (h:idx L m=some y:=by assumption):b7 P g (.indexAddr t a b) ty (.ptr p (m.toNat * en.z+0)):=O.gT au j al (aW ▸ aJ.p) h aO
end
def Ca (Gx:List (Nat × ab)) (ex:List Nat) (Qc:List Nat):List (Nat × ab)->Option (List Nat)
 | []=>some []
 | (k,x)::l=>match Ca Gx ex (k::Qc) l with
  | none=>none
  | some r=>match !ex.elem k&&!Qc.elem k&&(match x with | .ptr ⟨q,[]⟩ _=>!ex.elem q&&(match get Gx q with | some (.obj _)=>true | _=>false) | _=>false) with
   | true=>some (k::r)
   | false=>some r
def n9 (g g2:aK) (r:Nat):List (Nat × ab)->Bool
 | []=>true
 | (s,.ptr ⟨q,[]⟩ k)::l=>!Nat.beq s r&&(match g q,g2 q with | some (.obj cs),some (.obj km)=>Nat.blt k cs.length&&Nat.blt k km.length | _,_=>false)&&n9 g g2 r l
 | _=>false
theorem O4 {g g2:aK}{r:Nat}{s:Nat}{x:ab}{l:List (Nat × ab)}(h:n9 g g2 r ((s,x)::l)=true):(∃ q k cs km,x=.ptr ⟨q,[]⟩ k/\Nat.beq s r=false/\g q=some (.obj cs)/\Nat.blt k cs.length=true/\g2 q=some (.obj km)/\Nat.blt k km.length=true)/\n9 g g2 r l=true:=by
 unfold n9 at h
 split at h
 ·rename_i e; cases e
 ·rename_i cp q k zA e;cases e;rw [Bool.and_eq_true,Bool.and_eq_true] at h;obtain ⟨⟨h1,af⟩,aJ⟩:=h
  split at af
  ·rename_i cs km cr b9;rw [Bool.and_eq_true] at af;exact ⟨⟨q,k,cs,km,rfl,by simpa using h1,cr,af.1,b9,af.2⟩,aJ⟩
  ·cases af
 ·cases h
theorem MS {g:aK}{r s:Nat}{x y:ab}(h:Nat.beq s r=false) (j:cK g r x s=some y):g s=some y:=by
 unfold cK at j;rw [if_neg (by rintro rfl; rw [Nat.beq_refl] at h; cases h)] at j;exact j
theorem CY {g:aK}{k:Nat}{ks:List Nat}{G1:List (Nat × ab)}(h:pick g (k::ks)=some G1):∃ x l,g k=some x/\pick g ks=some l/\G1=(k,x)::l:=by
 unfold pick at h
 split at h
 ·rename_i x j
  split at h
  ·rename_i l aj;cases h; exact ⟨x,l,j,aj,rfl⟩
  ·cases h
 ·cases h
theorem zZ {g g2:aK}{r:Nat}{cs2:List ab}{T:List (Nat × ab)}(dk:ln g g2 r cs2 T):∀ {ks:List Nat}{G1:List (Nat × ab)},pick (cK g r (.obj cs2)) ks=some G1->(∀ e∈G1,cE e.2)->ln g g2 r cs2 (G1++T)
 | [],_,h,_=>by cases h; exact dk
 | k::ks,G1,h,aA=>by
  obtain ⟨x,l,j,aj,rfl⟩:=CY h;have aM:=zZ dk aj λe h=>aA e (by simp [h]);have fL:=aA (k,x) (by simp);by_cases e:Nat.beq k r=true
  ·have:=Nat.eq_of_beq_eq_true e;subst this;simp only [cK,if_true] at j;cases j;have:dh cs2:=⟨by cases fL with | obj h=>exact h⟩;exact .b rfl aM
  ·have:b4 x:=⟨fL⟩;have e:=Bool.eq_false_iff.2 e;exact .n e (MS e j) aM
theorem z1 {g g2:aK}{r:Nat}{cs2:List ab}:∀ {ks:List Nat}{G1:List (Nat × ab)},pick (cK g r (.obj cs2)) ks=some G1->n9 g g2 r G1=true->ln g g2 r cs2 G1
 | [],_,h,_=>by cases h; exact .nil
 | k::ks,G1,h,aA=>by
  obtain ⟨x,l,j,aj,rfl⟩:=CY h;obtain ⟨⟨q,J,cs,km,rfl,h1,af,aJ,bx,cu⟩,dL⟩:=O4 aA;exact .p h1 (MS h1 j) af aJ bx cu (z1 aj dL)
theorem Fw {g g2:aK}{ex:List Nat}{T:List (Nat × ab)}(dk:mD ex g g2 T):∀ {ks:List Nat}{G1:List (Nat × ab)},pick g ks=some G1->(ks.all λk=>!ex.elem k)=true->(∀ e∈G1,cE e.2)->mD ex g g2 (G1++T)
 | [],_,h,_,_=>by cases h; exact dk
 | k::ks,G1,h,he,aA=>by
  obtain ⟨x,l,j,aj,rfl⟩:=CY h;rw [List.all_cons,Bool.and_eq_true] at he;have:b4 x:=⟨aA (k,x) (by simp)⟩;exact .n (by simpa using he.1) j (Fw dk aj he.2 λe h=>aA e (by simp [h]))
theorem Fx {g g2:aK}{ex:List Nat}{r:Nat}:∀ {ks:List Nat}{G1:List (Nat × ab)},pick g ks=some G1->(ks.all λk=>!ex.elem k)=true->n9 g g2 r G1=true->mD ex g g2 G1
 | [],_,h,_,_=>by cases h; exact .nil
 | k::ks,G1,h,he,aA=>by
  obtain ⟨x,l,j,aj,rfl⟩:=CY h;rw [List.all_cons,Bool.and_eq_true] at he;obtain ⟨⟨q,J,cs,km,rfl,h1,af,aJ,bx,cu⟩,dL⟩:=O4 aA;exact .p (by simpa using he.1) j bx cu (Fx aj he.2 dL)
def rA:List (Nat × ab)->List (Nat × ab)->Option (List (Nat × ab))
 | [],T=>some T
 | p::l,T=>match rA l T with
  | some r=>some (p::r)
  | none=>none
theorem tA:∀ {l T r:List (Nat × ab)},rA l T=some r->r=l++T
 | [],_,_,h=>by cases h; rfl
 | p::l,T,r,h=>by
  unfold rA at h
  split at h
  ·rename_i ck ah;cases h; rw [tA ah]; rfl
  ·cases h
theorem rB {m:Option (List ab)}{ys:List ab}(h:m.bind k9=some ys):m=some ys:=by
 cases av:m with
 | none=>rw [av] at h; cases h
 | some c=>rw [av] at h; rw [xE h]
theorem cV.my {P:Program}{g:aK}{xs:List Operand}{ga:Array TypeId}{f:FuncId}{ys args:List ab}{outs:List (Option ab)}{res:ab}(j:(fC g xs).bind k9=some ys) (hv:ot g ys args) (hb:b1 P f args outs res) [ah:oj res] (aS:jB P f=true:=by kernel_rfl) (aU:sW outs=true:=by rfl):cV P g (.call { callee:=.value (.func f),args:=xs.toArray,argTypes:=ga }) res:=cV.vw (rB j) hv hb aS aU
def oh (ks hG:List Nat) (P:Program) (N:cS) (g:aK) (o:Oper) (g':aK):Prop:=br P N g o g'
section
variable {α:Type}{P:Program}{N:cS}{ops:Array Oper}{g:aK}{K:aK->Prop}{l:List Oper}{d r k0 s:Nat}{ty t:TypeId}{pos:String}{after:Array Edge}{a b x:Operand}{cs cs' jh cs2:List ab}{y:ab}{G2 ic h0:List (Nat × ab)}{u:Option (Nat × Bool)}{p q:Place}{ks hG:List Nat}{en:bz α}{L M:List α}
theorem hK.hU (aR:Rd g a (.ptr ⟨r,[]⟩ k0):=by exact .q) (ay:g r=some (.obj cs):=by rfl) (av:Rd g b (.agg cs'):=by exact .q) (he:oX cs k0 cs'=some cs2:=by rfl) (au:pick (cK g r (.obj cs2)) ks=some ic:=by rfl) (a7:pick (cK g r (.obj cs2)) hG=some h0:=by rfl) (c_:rA ic h0=some G2:=by rfl) (cX:n9 g (get G2) r h0=true:=by rfl) (aW:hs P t cs'.length=true:=by kernel_rfl) (aO:Nat.blt 0 cs'.length=true:=by rfl) (ah:(get G2 r).isSome=true:=by rfl) [aA:dh cs'] [e6:dh cs] [aN:iq ic]:oh ks hG P N g ⟨none,.store t a b,ty,pos,after,none⟩ (get G2) :=
 .ij rfl rfl ay aR av rfl aW (Nat.ble_eq_true_of_le (lG he).2) aO (lG he).1 ah (by have:=tA c_; subst this; exact zZ (z1 a7 cX) au aN.p)
theorem hK.oY (aR:Rd g a (.ptr ⟨r,[]⟩ k0):=by exact .q) (ay:g r=some (.obj cs):=by rfl) (av:Rd g b y:=by exact .q) (aa:nQ y=some [y]:=by rfl) (he:oX cs k0 [y]=some cs2:=by rfl) (au:pick (cK g r (.obj cs2)) ks=some ic:=by rfl) (a7:pick (cK g r (.obj cs2)) hG=some h0:=by rfl) (c_:rA ic h0=some G2:=by rfl) (cX:n9 g (get G2) r h0=true:=by rfl) (aW:hs P t 1=true:=by kernel_rfl) (ah:(get G2 r).isSome=true:=by rfl) [aA:b4 y] [e6:dh cs] [aN:iq ic]:oh ks hG P N g ⟨none,.store t a b,ty,pos,after,none⟩ (get G2) :=
 .ij rfl rfl ay aR av aa aW (Nat.ble_eq_true_of_le (lG he).2) rfl (lG he).1 ah (by have:=tA c_; subst this; exact zZ (z1 a7 cX) au aN.p)
theorem hK.kB (j:Rd g x (.bg en.z p L.length):=by exact .q) (au:bu g p=some (ao en L):=by rfl) (hk:pick g ks=some ic:=by rfl) (cA:(ks.all λk=>![p.root].elem k)=true:=by rfl) (a7:pick g hG=some h0:=by rfl) (c_:rA ic h0=some G2:=by rfl) (vo:(hG.all λk=>![p.root].elem k)=true:=by rfl) (cX:n9 g (get G2) 1000000 h0=true:=by rfl) (aN:get G2 d=none:=by rfl) (a_:N.ok d=true:=by rfl) [aA:iq ic]:oh ks hG P N g ⟨some d,.assign x,ty,pos,after,u⟩ (cK (get G2) d (ao en L)) :=
 .yQ rfl rfl j au (by have:=tA c_; subst this; exact Fw (Fx a7 vo cX) hk cA aA.p) aN a_
theorem hK.Rw (j:Rd g x y:=by exact .q) (hk:pick g ks=some G2:=by rfl) (aN:get G2 d=none:=by rfl) (a_:N.ok d=true:=by rfl) [al:b4 y] [aA:iq G2]:oh ks hG P N g ⟨some d,.assign x,ty,pos,after,u⟩ (cK (get G2) d y) :=
 .AI rfl rfl j (.f .nil) .refl (uH hk aA.p) aN a_
theorem hK.AK (j:Rd g x (.bg en.z ⟨s,[]⟩ (L.length+M.length)):=by exact .q) (ay:g s=some (.bB en.z q L.length M.length (bq en M)):=by rfl) (au:bu g q=some (ao en L):=by rfl) (hk:pick g ks=some ic:=by rfl) (cA:(ks.all λk=>![s,q.root].elem k)=true:=by rfl) (IL:pick g hG=some h0:=by rfl) (c_:rA ic h0=some G2:=by rfl) (vo:(hG.all λk=>![s,q.root].elem k)=true:=by rfl) (cX:n9 g (get G2) 1000000 h0=true:=by rfl) (a7:Nat.beq q.root s=false:=by rfl) (aN:get G2 d=none:=by rfl) (a_:N.ok d=true:=by rfl) [aA:iq ic]:oh ks hG P N g ⟨some d,.assign x,ty,pos,after,u⟩ (cK (get G2) d (ao en (L++M))) :=
 .Lt rfl rfl j ay au a7 (by have:=tA c_; subst this; exact Fw (Fx IL vo cX) hk cA aA.p) aN a_
theorem hK.rf {iM y2:α}{m:Int}{o:Nat}{eC x2 y0:ab}(aR:Rd g a (.ptr p (m.toNat * en.z+o)):=by exact .q) (au:bu g p=some (ao en L):=by rfl) (h:idx L m=some iM:=by assumption) (av:Rd g b y:=by exact .q) (aa:nQ y=some cs':=by rfl) (he:eK (en.cells iM) o cs'=en.cells y2:=by rfl) (jF:cj g p (ao en (L.set m.toNat y2)) p.root=some eC:=by rfl) (kc:Fi eC=some x2:=by rfl) (hk:pick (cK g p.root x2) ks=some G2:=by rfl) (aW:hs P t cs'.length=true:=by kernel_rfl) (hlen:Nat.ble (o+cs'.length) en.z=true:=by rfl) (aO:Nat.blt 0 cs'.length=true:=by rfl) (ah:(get G2 p.root).isSome=true:=by rfl) (vE:g p.root=some y0:=by rfl) [aA:b4 y] [e6:b4 y0] [aN:iq G2]:oh ks hG P N g ⟨none,.store t a b,ty,pos,after,none⟩ (get G2) :=
 .ye rfl rfl aR av au h aW aa he hlen aO (by rw [jF,ON kc]) ah vE (J' hk aN.p)
theorem hK.P6 {g1:aK}{bN:ab}(av:Rd g b y) (aq:eV g [y] [bN] g1) (aR:Rd g a (.ptr ⟨r,[]⟩ k0):=by exact .q) (aa:nQ bN=some cs':=by rfl) (ay:g1 r=some (.obj jh):=by rfl) (he:oX jh k0 cs'=some cs2:=by rfl) (hk:pick (cK g1 r (.obj cs2)) ks=some ic:=by rfl) (fK:pick (cK g1 r (.obj cs2)) hG=some h0:=by rfl) (c_:rA ic h0=some G2:=by rfl) (cX:n9 g1 (get G2) r h0=true:=by rfl) (aW:hs P t cs'.length=true:=by kernel_rfl) (aO:Nat.blt 0 cs'.length=true:=by rfl) (ah:(get G2 r).isSome=true:=by rfl) [e6:dh jh] [aN:iq ic]:oh ks hG P N g ⟨none,.store t a b,ty,pos,after,none⟩ (get G2) :=
 .wg rfl rfl aR av aq .refl aa aW ay (Nat.ble_eq_true_of_le (lG he).2) aO (lG he).1 ah (by have:=tA c_; subst this; exact zZ (z1 fK cX) hk aN.p)
theorem hK.ou {g1:aK}{bN:ab}(av:Rd g x y) (aq:eV g [y] [bN] g1) (hk:pick g1 ks=some G2:=by rfl) (aN:get G2 d=none:=by rfl) (a_:N.ok d=true:=by rfl) [aA:iq G2]:oh ks hG P N g ⟨some d,.assign x,ty,pos,after,u⟩ (cK (get G2) d bN) :=
 .AI rfl rfl av aq .refl (uH hk aA.p) aN a_
theorem hK.DR {M2:List α}{s2:Nat}(j:Rd g x (.bg en.z ⟨s,[]⟩ (L.length+M2.length+M.length)):=by exact .q) (ay:g s=some (.bB en.z ⟨s2,[]⟩ (L.length+M2.length) M.length (bq en M)):=by rfl) (kG:g s2=some (.bB en.z q L.length M2.length (bq en M2)):=by rfl) (au:bu g q=some (ao en L):=by rfl) (a7:Nat.beq q.root s=false:=by rfl) (qT:Nat.beq q.root s2=false:=by rfl) (BQ:Nat.beq s s2=false:=by rfl) (hk:pick g ks=some ic:=by rfl) (cA:(ks.all λk=>![s,s2,q.root].elem k)=true:=by rfl) (IL:pick g hG=some h0:=by rfl) (c_:rA ic h0=some G2:=by rfl) (vo:(hG.all λk=>![s,s2,q.root].elem k)=true:=by rfl) (cX:n9 g (get G2) 1000000 h0=true:=by rfl) (aN:get G2 d=none:=by rfl) (a_:N.ok d=true:=by rfl) [aA:iq ic]:oh ks hG P N g ⟨some d,.assign x,ty,pos,after,u⟩ (cK (get G2) d (ao en (L++M2++M))) :=
 .Rr rfl rfl j ay kG au a7 qT BQ (by have:=tA c_; subst this; exact Fw (Fx IL vo cX) hk cA aA.p) aN a_
theorem hK.sp (av:Rd g b (.bg en.z ⟨s,[]⟩ (L.length+M.length)):=by exact .q) (p_:g s=some (.bB en.z q L.length M.length (bq en M)):=by rfl) (au:bu g q=some (ao en L):=by rfl) (aR:Rd g a (.ptr ⟨r,[]⟩ k0):=by exact .q) (ay:cj (cj g ⟨s,[]⟩ .dead) q .dead r=some (.obj jh):=by rfl) (he:oX jh k0 [ao en (L++M)]=some cs2:=by rfl) (hk:pick (cK (cj (cj g ⟨s,[]⟩ .dead) q .dead) r (.obj cs2)) ks=some ic:=by rfl) (fK:pick (cK (cj (cj g ⟨s,[]⟩ .dead) q .dead) r (.obj cs2)) hG=some h0:=by rfl) (c_:rA ic h0=some G2:=by rfl) (cX:n9 (cj (cj g ⟨s,[]⟩ .dead) q .dead) (get G2) r h0=true:=by rfl) (a7:Nat.beq q.root s=false:=by rfl) (aW:hs P t 1=true:=by kernel_rfl) (ah:(get G2 r).isSome=true:=by rfl) [e6:dh jh] [aN:iq ic]:oh ks hG P N g ⟨none,.store t a b,ty,pos,after,none⟩ (get G2) :=
 .FT rfl rfl aR av p_ au a7 .iJ .hS rfl rfl aW ay (Nat.ble_eq_true_of_le (lG he).2) (lG he).1 ah (by have:=tA c_; subst this; exact zZ (z1 fK cX) hk aN.p)
theorem hK.uP (av:Rd g b (.bg en.z p L.length):=by exact .q) (au:bu g p=some (ao en L):=by rfl) (aR:Rd g a (.ptr ⟨r,[]⟩ k0):=by exact .q) (ay:cj g p .dead r=some (.obj jh):=by rfl) (he:oX jh k0 [ao en L]=some cs2:=by rfl) (hk:pick (cK (cj g p .dead) r (.obj cs2)) ks=some ic:=by rfl) (fK:pick (cK (cj g p .dead) r (.obj cs2)) hG=some h0:=by rfl) (c_:rA ic h0=some G2:=by rfl) (cX:n9 (cj g p .dead) (get G2) r h0=true:=by rfl) (aW:hs P t 1=true:=by kernel_rfl) (ah:(get G2 r).isSome=true:=by rfl) [e6:dh jh] [aN:iq ic]:oh ks hG P N g ⟨none,.store t a b,ty,pos,after,none⟩ (get G2) :=
 .wg rfl rfl aR av (.r au .nil) .refl rfl aW ay (Nat.ble_eq_true_of_le (lG he).2) rfl (lG he).1 ah (by have:=tA c_; subst this; exact zZ (z1 fK cX) hk aN.p)
end
def E_:Nat->List (Option ab)->Option (Nat × List ab)
 | _,[]=>none
 | k,some (.obj cs)::_=>some (k,cs)
 | k,none::l=>E_ (k+1) l
 | _,_=>none
def JF (g:aK) (xs:List Operand) (k:Nat):Option Nat :=
 match xs[k]? with
 | some (.tmp t)=>match g t with
  | some (.ptr ⟨r,[]⟩ 0)=>some r
  | some (.obj _)=>some t
  | _=>none
 | _=>none
theorem hK.lD {P:Program}{N:cS}{g:aK}{d r k0:Nat}{ty:TypeId}{pos:String}{after:Array Edge}{u:Option (Nat × Bool)}{f:FuncId}{xs:List Operand}{ga:Array TypeId}{ys args cs cs':List ab}{outs:List (Option ab)}{res:ab}{ks:List Nat}{G2:List (Nat × ab)}
  (hb:b1 P f args outs res) (aj:E_ 0 outs=some (k0,cs')) (ah:JF g xs k0=some r) (au:pick (cj g ⟨r,[]⟩ .dead) ks=some G2) (j:(fC g xs).bind k9=some ys) (aR:mV r cs k0 0 ys args) (ay:g r=some (.obj cs):=by rfl) (he:outs=uB args.length k0 (.obj cs'):=by rfl) (mj:Nat.blt k0 ys.length=true:=by rfl) (aS:jB P f=true:=by kernel_rfl) (aN:get G2 d=none:=by rfl) (rR:Nat.beq r d=false:=by rfl) (BK:pick (get ((r,.obj cs')::G2)) ks=some G2:=by rfl) (a_:N.ok d=true:=by rfl) [e6:dh cs] [dM:b4 res] [BG:dh cs'] [aA:iq G2] :
  br P N g ⟨some d,.call { callee:=.value (.func f),args:=xs.toArray,argTypes:=ga },ty,pos,after,u⟩ (get ((d,res)::(r,.obj cs')::G2)) :=
 .call rfl a_ (hY.lD (A:=[]) rfl rfl (rB j) ay aR mj (he ▸ hb) aS (uH au aA.p) aN rR (uH BK aA.p) .nil a_)
def qN:Acc->List (Nat × ab)->List (Nat × ab)
 | [],G=>G
 | (_,d,some x)::acc,G=>(d,x)::qN acc G
 | (_,_,none)::acc,G=>qN acc G
def cz (dY:List Nat) (P:Program) (N:cS) (ops:Array Oper) (a':List (List Nat)) (g0:aK) (i:Nat) (acc:Acc) (l:List Oper) (K:aK->Prop):Prop:=bE P N ops a' g0 i acc l K
section
variable {α β:Type}{P:Program}{N:cS}{ops:Array Oper}{a':List (List Nat)}{acc:Acc}{E ks:List Nat}{t x y z:lk}{A B c:Code}{G G1 G2:List (Nat × ab)}{g:aK}{g':aK}{Φ og:Exit->aK->Prop}{Ψ:aK->Prop}{K:aK->Prop}{id k s d i bw J cp:Nat}{b cZ:Bool}{l:List Oper}{o:Oper}{op:Op}{ty yh:TypeId}{pos:String}{after:Array Edge}{v y':ab}{u:Option (Nat × Bool)}{a aB a2:Operand}
theorem cx.Y4 (h:cx E t P N .ret G Φ):cx E t P N .ret G Φ:=h
theorem aC.ts (h:aC P N ops (⟨none,.store ty aB a2,yh,pos,after,u⟩::l) g K):aC P N ops (⟨none,.store ty aB a2,yh,pos,after,u⟩::l) g K:=h
theorem cz.ts {dY:List Nat}(h:cz dY P N ops a' g i acc (⟨none,.store ty aB a2,yh,pos,after,u⟩::l) K):cz dY P N ops a' g i acc (⟨none,.store ty aB a2,yh,pos,after,u⟩::l) K:=h
theorem cz.bH (op:Op) (u:Option (Nat × Bool)) {dY:List Nat}(h:cz dY P N ops a' g i acc (⟨some d,op,ty,pos,after,u⟩::l) K):cz dY P N ops a' g i acc (⟨some d,op,ty,pos,after,u⟩::l) K:=h
theorem cz.nl {dY:List Nat}(h:cz dY P N ops a' g i acc [] K):cz dY P N ops a' g i acc [] K:=h
def FD (g:aK) (d:Nat):Operand->Option ab
 | .tmp t=>bif Nat.beq t d then none else FE g t
 | .const v=>FC g (.const v)
 | _=>none
theorem Rd.pD {g:aK}{a:Operand}{y:ab}(h:FD g d a=some y):Rd (del g d) a y:=by
 unfold FD at h
 split at h
 ·rename_i t;cases av:Nat.beq t d with
  | true=>rw [av] at h; cases h
  | false =>
   rw [av] at h;have cA:t≠d:=Nat.ne_of_beq_eq_false av;refine Rd.z7 ?_;unfold FE at h ⊢;simpa [del,cA] using h
 ·exact .q (by unfold FC at h ⊢; exact h)
 ·cases h
theorem Rk {y':ab}(j:FD (get G) d a=some v) (aS:get G d=some y') (aj:leaf y'=true) (hk:aC P N ops l (get ((d,v)::G)) K) (a_:N.ok d=true:=by rfl):aC P N ops (⟨some d,.assign a,ty,pos,after,none⟩::l) (get G) K:=.over (.assign (Rd.pD j).bo) a_ aS aj (pj ▸ hk)
theorem Rl {y':ab}(j:FD (get G) d a=some v) (aS:get G d=some y') (aj:leaf y'=true) (hk:aC P N ops l (get ((d,v)::G)) K) (a_:N.ok d=true:=by rfl):aC P N ops (⟨some d,.move a,ty,pos,after,none⟩::l) (get G) K:=.over (.move (Rd.pD j).bo) a_ aS aj (pj ▸ hk)
theorem Q7 {hG:List Nat}(mj:sS [] G=some ks) (gg:Ca G [] [] G=some hG) (he:oh ks hG P N (get G) o (get G2)) (hk:aC P N ops l (get G2) K) (aN:o.guard=none:=by rfl):aC P N ops (o::l) (get G) K:=.nR aN he hk
theorem Q5 {f:FuncId}{xs:List Operand}{ga:Array TypeId}{ys args cs cs':List ab}{outs:List (Option ab)}{res:ab}{r k0:Nat}(hb:b1 P f args outs res) (aj:E_ 0 outs=some (k0,cs')) (ah:JF (get G) xs k0=some r) (hk:sS [r,d] G=some ks) (au:pick (cj (get G) ⟨r,[]⟩ .dead) ks=some G2) (j:(fC (get G) xs).bind k9=some ys) (aR:mV r cs k0 0 ys args) (c6:aC P N ops l (get ((d,res)::(r,.obj cs')::G2)) K) (ay:get G r=some (.obj cs):=by rfl) (he:outs=uB args.length k0 (.obj cs'):=by rfl) (mj:Nat.blt k0 ys.length=true:=by rfl) (aS:jB P f=true:=by kernel_rfl) (aN:get G2 d=none:=by rfl) (rR:Nat.beq r d=false:=by rfl) (BK:pick (get ((r,.obj cs')::G2)) ks=some G2:=by rfl) (a_:N.ok d=true:=by rfl) [e6:dh cs] [dM:b4 res] [BG:dh cs'] [aA:iq G2] :
  aC P N ops (⟨some d,.call { callee:=.value (.func f),args:=xs.toArray,argTypes:=ga },ty,pos,after,none⟩::l) (get G) K:=.nR rfl (hK.lD hb aj ah au j aR ay he mj aS aN rR BK a_) c6
theorem QY {dY:List Nat}{f:FuncId}{xs:List Operand}{ga:Array TypeId}{ys args cs cs':List ab}{outs:List (Option ab)}{res:ab}{r k0:Nat}(hb:b1 P f args outs res) (aj:E_ 0 outs=some (k0,cs')) (ah:JF (c3 (get G) (λ_=>true) acc) xs k0=some r) (hk:sS [r,d] (qN acc G)=some ks) (au:pick (cj (c3 (get G) (λ_=>true) acc) ⟨r,[]⟩ .dead) ks=some G2) (j:(fC (c3 (get G) (λ_=>true) acc) xs).bind k9=some ys) (aR:mV r cs k0 0 ys args) (c6:cz dY P N ops a' (get ((d,res)::(r,.obj cs')::G2)) (bw+1) [] l K) (ay:c3 (get G) (λ_=>true) acc r=some (.obj cs):=by rfl) (he:outs=uB args.length k0 (.obj cs'):=by rfl) (mj:Nat.blt k0 ys.length=true:=by rfl) (aS:jB P f=true:=by kernel_rfl) (aN:get G2 d=none:=by rfl) (rR:Nat.beq r d=false:=by rfl) (BK:pick (get ((r,.obj cs')::G2)) ks=some G2:=by rfl) (a_:N.ok d=true:=by rfl) [e6:dh cs] [dM:b4 res] [BG:dh cs'] [aA:iq G2] (gw:q2 ((acc.filterMap jV).map Place.root)=true:=by rfl) (fB:lY G=true:=by rfl) (ai:Nat.beq ops.size (bw+l.length+1)=true:=by rfl)
  (zb:(List.range bw).all (λk=>(a'.getD bw []).contains k)=true:=by kernel_rfl) (av:(List.range ops.size).all (λk=>Nat.ble k bw||(a'.getD k []).contains bw)=true:=by kernel_rfl) :
  cz (bw::dY) P N ops a' (get G) i acc (⟨some d,.call { callee:=.value (.func f),args:=xs.toArray,argTypes:=ga },ty,pos,after,none⟩::l) K:=bE.wI bw (hK.lD hb aj ah au j aR ay he mj aS aN rR BK a_) rfl gw fB ai zb av c6
theorem Q6 {hG:List Nat}(mj:sS (d::roots G a) G=some ks) (gg:Ca G (d::roots G a) [] G=some hG) (he:oh ks hG P N (get G) ⟨some d,.assign a,ty,pos,after,none⟩ (cK (get G2) d v)) (hk:aC P N ops l (get ((d,v)::G2)) K):aC P N ops (⟨some d,.assign a,ty,pos,after,none⟩::l) (get G) K:=.u' rfl he (pj ▸ hk)
theorem Rh {L:List α}{f:List α->Option β}{Kk:β}{M:List α}{e de bs:Nat}{gV:TypeId}{parts:Array (Nat × Operand)}{ys:List ab}{en:bz α}(h:(da L M).bind f=some Kk) [het:hf P gV α en] [aq:d_ P gV e bs] (hk:aC P N ops l (get ((d,ak en M)::G)) K) (j:(fC (get G) (parts.toList.map (·.2))).bind k9=some ys:=by rfl) (aa:ma ys=some (bq en M):=by rfl) (aW:ys.all (λy=>match jf y with | some c=>Nat.beq c.length en.z | none=>false)=true:=by rfl) (au:parts.toList=(parts.toList.map (·.2)).mapIdx (λi x=>(i,x)):=by rfl) (kF:(parts.toList.map (·.2)).length=de:=by rfl) (aj:M.length=de:=by rfl) (nm:bs=en.z:=by rfl) (hzero:il P e en.z=true:=by kernel_rfl) (av:Nat.ble (de * en.z) 16777216=true:=by rfl) (fo:Nat.ble de 16777216=true:=by rfl) [hv:iS (ao en M) (ak en M)] (a_:N.ok d=true:=by rfl) (aS:get G d=none:=by rfl):aC P N ops (⟨some d,.buildSlice gV de parts,ty,pos,after,none⟩::l) (get G) K :=
 .gG (O.dq en M (nm ▸ aq.p) (rB j) aa aW au kF aj hzero av fo) a_ aS .none (pj ▸ hk)
theorem Lr (M:List α) {e de bs:Nat}{gV:TypeId}{parts:Array (Nat × Operand)}{ys:List ab}{en:bz α}(ay:wb d l=false) [het:hf P gV α en] [aq:d_ P gV e bs] (hk:aC P N ops l (get ((d,ao en M)::G)) K) (j:(fC (get G) (parts.toList.map (·.2))).bind k9=some ys:=by rfl) (aa:ma ys=some (bq en M):=by rfl) (aW:ys.all (λy=>match jf y with | some c=>Nat.beq c.length en.z | none=>false)=true:=by rfl) (au:parts.toList=(parts.toList.map (·.2)).mapIdx (λi x=>(i,x)):=by rfl) (kF:(parts.toList.map (·.2)).length=de:=by rfl) (aj:M.length=de:=by rfl) (nm:bs=en.z:=by rfl) (hzero:il P e en.z=true:=by kernel_rfl) (av:Nat.ble (de * en.z) 16777216=true:=by rfl) (fo:Nat.ble de 16777216=true:=by rfl) (a_:N.ok d=true:=by rfl) (aS:get G d=none:=by rfl):aC P N ops (⟨some d,.buildSlice gV de parts,ty,pos,after,none⟩::l) (get G) K :=
 ed (O.dq en M (nm ▸ aq.p) (rB j) aa aW au kF aj hzero av fo) hk a_ aS
theorem Ri {M:List α}{e de bs:Nat}{gV:TypeId}{parts:Array (Nat × Operand)}{ys:List ab}{en:bz α}(ay:wb d l=true) [het:hf P gV α en] [aq:d_ P gV e bs] (hk:aC P N ops l (get ((d,ak en M)::G)) K) (j:(fC (get G) (parts.toList.map (·.2))).bind k9=some ys:=by rfl) [aP:o6 en ys M] (au:parts.toList=(parts.toList.map (·.2)).mapIdx (λi x=>(i,x)):=by rfl) (kF:(parts.toList.map (·.2)).length=de:=by rfl) (aj:ys.length=de:=by rfl) (nm:bs=en.z:=by rfl) (hzero:il P e en.z=true:=by kernel_rfl) (av:Nat.ble (de * en.z) 16777216=true:=by rfl) (fo:Nat.ble de 16777216=true:=by rfl) [hv:iS (ao en M) (ak en M)] (a_:N.ok d=true:=by rfl) (aS:get G d=none:=by rfl):aC P N ops (⟨some d,.buildSlice gV de parts,ty,pos,after,none⟩::l) (get G) K :=
 .gG (O.dq en M (nm ▸ aq.p) (rB j) aP.p.1 aP.p.2.1 au kF (aP.p.2.2.trans aj) hzero av fo) a_ aS .none (pj ▸ hk)
theorem Rj {M:List α}{e de bs:Nat}{gV:TypeId}{parts:Array (Nat × Operand)}{ys:List ab}{en:bz α}(ay:wb d l=false) [het:hf P gV α en] [aq:d_ P gV e bs] (hk:aC P N ops l (get ((d,ao en M)::G)) K) (j:(fC (get G) (parts.toList.map (·.2))).bind k9=some ys:=by rfl) [aP:o6 en ys M] (au:parts.toList=(parts.toList.map (·.2)).mapIdx (λi x=>(i,x)):=by rfl) (kF:(parts.toList.map (·.2)).length=de:=by rfl) (aj:ys.length=de:=by rfl) (nm:bs=en.z:=by rfl) (hzero:il P e en.z=true:=by kernel_rfl) (av:Nat.ble (de * en.z) 16777216=true:=by rfl) (fo:Nat.ble de 16777216=true:=by rfl) (a_:N.ok d=true:=by rfl) (aS:get G d=none:=by rfl):aC P N ops (⟨some d,.buildSlice gV de parts,ty,pos,after,none⟩::l) (get G) K :=
 ed (O.dq en M (nm ▸ aq.p) (rB j) aP.p.1 aP.p.2.1 au kF (aP.p.2.2.trans aj) hzero av fo) hk a_ aS
theorem eb {dY:List Nat}(au:b7 P (jv a' g bw acc) op ty v) (hk:cz dY P N ops a' g i ((bw,d,some v)::acc) l K) (ai:Nat.beq ops.size (bw+l.length+1)=true:=by rfl) (aS:g d=none:=by rfl) (aA:acc.all (λe=>!Nat.beq e.2.1 d)=true:=by rfl) (a_:N.ok d=true:=by rfl):cz (bw::dY) P N ops a' g i acc (⟨some d,op,ty,pos,after,none⟩::l) K:=aF _ au hk ai aS aA a_
theorem eg {dY:List Nat}(au:b7 P (jv a' g bw acc) op ty v) (hk:cz dY P N ops a' g i ((bw,d,some v)::acc) l K) (h:(ops[J]?).bind (·.dst)=some cp:=by rfl) (aN:jv a' g bw acc cp=some (.lit (.bool cZ)):=by rfl) (av:cZ=b:=by (first | rfl | assumption)) (ai:Nat.beq ops.size (bw+l.length+1)=true:=by rfl) (aS:g d=none:=by rfl) (aA:acc.all (λe=>!Nat.beq e.2.1 d)=true:=by rfl) (a_:N.ok d=true:=by rfl):cz (bw::dY) P N ops a' g i acc (⟨some d,op,ty,pos,after,some (J,b)⟩::l) K:=.v _ au ai aS aA a_ (.iD h aN av) hk
theorem K6 {dY:List Nat}(au:cV P (jv a' g bw acc) op v) (hk:cz dY P N ops a' g i ((bw,d,some v)::acc) l K) (ai:Nat.beq ops.size (bw+l.length+1)=true:=by rfl) (aS:g d=none:=by rfl) (aA:acc.all (λe=>!Nat.beq e.2.1 d)=true:=by rfl) (a_:N.ok d=true:=by rfl):cz (bw::dY) P N ops a' g i acc (⟨some d,op,ty,pos,after,none⟩::l) K:=.c _ au ai aS aA a_ .none hk
theorem K5 {dY:List Nat}(au:cV P (jv a' g bw acc) op v) (hk:cz dY P N ops a' g i ((bw,d,some v)::acc) l K) (h:(ops[J]?).bind (·.dst)=some cp:=by rfl) (aN:jv a' g bw acc cp=some (.lit (.bool cZ)):=by rfl) (av:cZ=b:=by (first | rfl | assumption)) (ai:Nat.beq ops.size (bw+l.length+1)=true:=by rfl) (aS:g d=none:=by rfl) (aA:acc.all (λe=>!Nat.beq e.2.1 d)=true:=by rfl) (a_:N.ok d=true:=by rfl):cz (bw::dY) P N ops a' g i acc (⟨some d,op,ty,pos,after,some (J,b)⟩::l) K:=.c _ au ai aS aA a_ (.iD h aN av) hk
theorem Q2 {dY:List Nat}(hk:cz dY P N ops a' g i ((bw,d,some (.bQ []))::acc) l K) (h:(ops[J]?).bind (·.dst)=some cp:=by rfl) (aN:jv a' g bw acc cp=some (.lit (.bool cZ)):=by rfl) (av:cZ=!b:=by (first | rfl | assumption)) (ai:Nat.beq ops.size (bw+l.length+1)=true:=by rfl) (aS:g d=none:=by rfl) (aA:acc.all (λe=>!Nat.beq e.2.1 d)=true:=by rfl) (a_:N.ok d=true:=by rfl):cz (bw::dY) P N ops a' g i acc (⟨some d,op,ty,pos,after,some (J,b)⟩::l) K:=.ps _ h aN av ai aS aA a_ hk
theorem Q4 {dY:List Nat}(hk:cz dY P N ops a' g i ((bw,d,some (.bQ []))::acc) l K) (h:(ops[J]?).bind (·.dst)=some cp:=by rfl) (aN:jv a' g bw acc cp=some (.bQ []):=by rfl) (ai:Nat.beq ops.size (bw+l.length+1)=true:=by rfl) (aS:g d=none:=by rfl) (aA:acc.all (λe=>!Nat.beq e.2.1 d)=true:=by rfl) (a_:N.ok d=true:=by rfl):cz (bw::dY) P N ops a' g i acc (⟨some d,op,ty,pos,after,some (J,b)⟩::l) K:=.pu _ h aN ai aS aA a_ hk
theorem QW {dY:List Nat}{L:List α}{f:List α->Option β}{Kk:β}{M:List α}{e de bs:Nat}{gV:TypeId}{parts:Array (Nat × Operand)}{ys:List ab}{en:bz α}(h:(da L M).bind f=some Kk) [het:hf P gV α en] [aq:d_ P gV e bs] (hk:cz dY P N ops a' g i ((bw,d,some (ak en M))::acc) l K) (j:(fC (jv a' g bw acc) (parts.toList.map (·.2))).bind k9=some ys:=by rfl) (aa:ma ys=some (bq en M):=by rfl) (aW:ys.all (λy=>match jf y with | some c=>Nat.beq c.length en.z | none=>false)=true:=by rfl) (au:parts.toList=(parts.toList.map (·.2)).mapIdx (λi x=>(i,x)):=by rfl) (kF:(parts.toList.map (·.2)).length=de:=by rfl) (aj:M.length=de:=by rfl) (nm:bs=en.z:=by rfl) (hzero:il P e en.z=true:=by kernel_rfl) (av:Nat.ble (de * en.z) 16777216=true:=by rfl) (fo:Nat.ble de 16777216=true:=by rfl) [hv:iS (ao en M) (ak en M)] (ai:Nat.beq ops.size (bw+l.length+1)=true:=by rfl) (aS:g d=none:=by rfl) (aA:acc.all (λe=>!Nat.beq e.2.1 d)=true:=by rfl) (a_:N.ok d=true:=by rfl):cz (bw::dY) P N ops a' g i acc (⟨some d,.buildSlice gV de parts,ty,pos,after,none⟩::l) K :=
 bE.gG bw (O.dq en M (nm ▸ aq.p) (rB j) aa aW au kF aj hzero av fo) ai aS aA a_ .none hk
theorem Q3 {dY:List Nat}(M:List α) {e de bs:Nat}{gV:TypeId}{parts:Array (Nat × Operand)}{ys:List ab}{en:bz α}(ay:wb d l=true) [het:hf P gV α en] [aq:d_ P gV e bs] (hk:cz dY P N ops a' g i ((bw,d,some (ak en M))::acc) l K) (j:(fC (jv a' g bw acc) (parts.toList.map (·.2))).bind k9=some ys:=by rfl) (aa:ma ys=some (bq en M):=by rfl) (aW:ys.all (λy=>match jf y with | some c=>Nat.beq c.length en.z | none=>false)=true:=by rfl) (au:parts.toList=(parts.toList.map (·.2)).mapIdx (λi x=>(i,x)):=by rfl) (kF:(parts.toList.map (·.2)).length=de:=by rfl) (aj:M.length=de:=by rfl) (nm:bs=en.z:=by rfl) (hzero:il P e en.z=true:=by kernel_rfl) (av:Nat.ble (de * en.z) 16777216=true:=by rfl) (fo:Nat.ble de 16777216=true:=by rfl) [hv:iS (ao en M) (ak en M)] (ai:Nat.beq ops.size (bw+l.length+1)=true:=by rfl) (aS:g d=none:=by rfl) (aA:acc.all (λe=>!Nat.beq e.2.1 d)=true:=by rfl) (a_:N.ok d=true:=by rfl):cz (bw::dY) P N ops a' g i acc (⟨some d,.buildSlice gV de parts,ty,pos,after,none⟩::l) K :=
 bE.gG bw (O.dq en M (nm ▸ aq.p) (rB j) aa aW au kF aj hzero av fo) ai aS aA a_ .none hk
theorem K7 {dY:List Nat}(M:List α) {e de bs:Nat}{gV:TypeId}{parts:Array (Nat × Operand)}{ys:List ab}{en:bz α}(ay:wb d l=false) [het:hf P gV α en] [aq:d_ P gV e bs] (hk:cz dY P N ops a' g i ((bw,d,some (ao en M))::acc) l K) (j:(fC (jv a' g bw acc) (parts.toList.map (·.2))).bind k9=some ys:=by rfl) (aa:ma ys=some (bq en M):=by rfl) (aW:ys.all (λy=>match jf y with | some c=>Nat.beq c.length en.z | none=>false)=true:=by rfl) (au:parts.toList=(parts.toList.map (·.2)).mapIdx (λi x=>(i,x)):=by rfl) (kF:(parts.toList.map (·.2)).length=de:=by rfl) (aj:M.length=de:=by rfl) (nm:bs=en.z:=by rfl) (hzero:il P e en.z=true:=by kernel_rfl) (av:Nat.ble (de * en.z) 16777216=true:=by rfl) (fo:Nat.ble de 16777216=true:=by rfl) (ai:Nat.beq ops.size (bw+l.length+1)=true:=by rfl) (aS:g d=none:=by rfl) (aA:acc.all (λe=>!Nat.beq e.2.1 d)=true:=by rfl) (a_:N.ok d=true:=by rfl):cz (bw::dY) P N ops a' g i acc (⟨some d,.buildSlice gV de parts,ty,pos,after,none⟩::l) K :=
 eb (O.dq en M (nm ▸ aq.p) (rB j) aa aW au kF aj hzero av fo) hk ai aS aA a_
theorem QX {dY:List Nat}{M:List α}{e de bs:Nat}{gV:TypeId}{parts:Array (Nat × Operand)}{ys:List ab}{en:bz α}(ay:wb d l=true) [het:hf P gV α en] [aq:d_ P gV e bs] (hk:cz dY P N ops a' g i ((bw,d,some (ak en M))::acc) l K) (j:(fC (jv a' g bw acc) (parts.toList.map (·.2))).bind k9=some ys:=by rfl) [aP:o6 en ys M] (au:parts.toList=(parts.toList.map (·.2)).mapIdx (λi x=>(i,x)):=by rfl) (kF:(parts.toList.map (·.2)).length=de:=by rfl) (aj:ys.length=de:=by rfl) (nm:bs=en.z:=by rfl) (hzero:il P e en.z=true:=by kernel_rfl) (av:Nat.ble (de * en.z) 16777216=true:=by rfl) (fo:Nat.ble de 16777216=true:=by rfl) [hv:iS (ao en M) (ak en M)] (ai:Nat.beq ops.size (bw+l.length+1)=true:=by rfl) (aS:g d=none:=by rfl) (aA:acc.all (λe=>!Nat.beq e.2.1 d)=true:=by rfl) (a_:N.ok d=true:=by rfl):cz (bw::dY) P N ops a' g i acc (⟨some d,.buildSlice gV de parts,ty,pos,after,none⟩::l) K :=
 bE.gG bw (O.dq en M (nm ▸ aq.p) (rB j) aP.p.1 aP.p.2.1 au kF (aP.p.2.2.trans aj) hzero av fo) ai aS aA a_ .none hk
theorem Q0 {dY:List Nat}{M:List α}{e de bs:Nat}{gV:TypeId}{parts:Array (Nat × Operand)}{ys:List ab}{en:bz α}(ay:wb d l=false) [het:hf P gV α en] [aq:d_ P gV e bs] (hk:cz dY P N ops a' g i ((bw,d,some (ao en M))::acc) l K) (j:(fC (jv a' g bw acc) (parts.toList.map (·.2))).bind k9=some ys:=by rfl) [aP:o6 en ys M] (au:parts.toList=(parts.toList.map (·.2)).mapIdx (λi x=>(i,x)):=by rfl) (kF:(parts.toList.map (·.2)).length=de:=by rfl) (aj:ys.length=de:=by rfl) (nm:bs=en.z:=by rfl) (hzero:il P e en.z=true:=by kernel_rfl) (av:Nat.ble (de * en.z) 16777216=true:=by rfl) (fo:Nat.ble de 16777216=true:=by rfl) (ai:Nat.beq ops.size (bw+l.length+1)=true:=by rfl) (aS:g d=none:=by rfl) (aA:acc.all (λe=>!Nat.beq e.2.1 d)=true:=by rfl) (a_:N.ok d=true:=by rfl):cz (bw::dY) P N ops a' g i acc (⟨some d,.buildSlice gV de parts,ty,pos,after,none⟩::l) K :=
 eb (O.dq en M (nm ▸ aq.p) (rB j) aP.p.1 aP.p.2.1 au kF (aP.p.2.2.trans aj) hzero av fo) hk ai aS aA a_
theorem Q1 {dY:List Nat}{hG:List Nat}(mj:sS [] (qN acc G)=some ks) (gg:Ca (qN acc G) [] [] (qN acc G)=some hG) (he:oh ks hG P N (c3 (get G) (λ_=>true) acc) o (get G2)) (hk:cz dY P N ops a' (get G2) (bw+1) [] l K) (aN:o.guard=none:=by rfl) (gw:q2 ((acc.filterMap jV).map Place.root)=true:=by rfl) (fB:lY G=true:=by rfl) (ai:Nat.beq ops.size (bw+l.length+1)=true:=by rfl)
  (aR:(List.range bw).all (λk=>(a'.getD bw []).contains k)=true:=by kernel_rfl) (av:(List.range ops.size).all (λk=>Nat.ble k bw||(a'.getD k []).contains bw)=true:=by kernel_rfl):cz (bw::dY) P N ops a' (get G) i acc (o::l) K:=.wI _ he aN gw fB ai aR av hk
theorem QZ {dY:List Nat}{hG:List Nat}(mj:sS (d::roots (qN acc G) a) (qN acc G)=some ks) (gg:Ca (qN acc G) (d::roots (qN acc G) a) [] (qN acc G)=some hG) (he:oh ks hG P N (c3 (get G) (λ_=>true) acc) ⟨some d,.assign a,ty,pos,after,none⟩ (cK (get G2) d v)) (hk:cz dY P N ops a' (get ((d,v)::G2)) (bw+1) [] l K) (gw:q2 ((acc.filterMap jV).map Place.root)=true:=by rfl) (fB:lY G=true:=by rfl) (ai:Nat.beq ops.size (bw+l.length+1)=true:=by rfl)
  (aR:(List.range bw).all (λk=>(a'.getD bw []).contains k)=true:=by kernel_rfl) (av:(List.range ops.size).all (λk=>Nat.ble k bw||(a'.getD k []).contains bw)=true:=by kernel_rfl):cz (bw::dY) P N ops a' (get G) i acc (⟨some d,.assign a,ty,pos,after,none⟩::l) K:=.bv _ he rfl gw fB ai aR av hk
theorem bE.Mz {K:aK->Prop}(aW:xD (acc.filterMap jV)=true) (fB:lY G=true) (hi:Nat.ble i ops.size=true) (c6:K (c3 (get G) (λ_=>true) acc)):bE P N ops a' (get G) i acc [] K:=by
 intro dK J cb kH kE;have ai:J=ops.size:=by
  have h1:ops.size<=J:=by
   have:=congrArg List.length kE;rw [List.length_drop,List.length_nil,Array.length_toList] at this;omega
  have aJ:J<=ops.size:=by
   cases kH with
   | nil=>exact Nat.le_of_ble_eq_true hi
   | step _ aU=>have:=(Array.getElem?_eq_some_iff.1 aU).1; omega
  omega
 subst ai;exact ⟨_,.fin kH (JP aW) (vO fB),c6⟩
theorem QV {dY:List Nat}{Dx:lk->List (Nat × ab)->Prop}(mj:Jv E [] (qN acc G)=some ks) (au:pick (c3 (get G) (λ_=>true) acc) ks=some G1) [aA:iq G1] (hk:Dx t G1) (aW:xD (acc.filterMap jV)=true:=by rfl) (fB:lY G=true:=by rfl) (hi:Nat.ble i ops.size=true:=by rfl):cz dY P N ops a' (get G) i acc [] (yE E t Dx) :=
 .Mz aW fB hi ⟨G1,(uH (c:=true) (g2:=get G1) au aA.p).eB,hk⟩
theorem QU {dY:List Nat}{F:α->List (Nat × ab)}{J v:α}(h:some v=some J) (aq:Trim true (c3 (get G) (λ_=>true) acc) (get (F v)) (F v)) (aW:xD (acc.filterMap jV)=true:=by rfl) (fB:lY G=true:=by rfl) (hi:Nat.ble i ops.size=true:=by rfl):cz dY P N ops a' (get G) i acc [] (rr F J .normal):=by
 cases h; exact .Mz aW fB hi ⟨rfl,.eB aq.eB .hS⟩
theorem cx.rd [hm:Au P] (h:cz num P N l.toArray a' (get G) 0 [] l (yE E y λt G1=>cx E t P N B G1 Φ)) (dQ:pe l.toArray a'=true:=by kernel_rfl):cx E (.rd id a' y) P N (.seq (.region id l.toArray true) B) G Φ:=by
 obtain ⟨g',h1,G1,af,aJ⟩:=h [] 0 .nil .nil (by simp);exact W.seq ((fN.draw hm.p dQ h1).w (W.weaken af aJ))
theorem cx.b' {m:Option α}{f:α->Option β}{r:β}{L cY:α->List (Nat × ab)} [hm:Au P] (h:m.bind f=some r) (h1:∀ J,m=some J->cz num P N l.toArray a' (get G) 0 [] l (rr cY J .normal)) (af:∀ J,m=some J->f J=some r->cx E y P N B (cY J) Φ)
  (aH:∀ J,pick (pD (L J) G) ks=some (cY J):=by intro J; rfl) (dQ:pe l.toArray a'=true:=by kernel_rfl):cx E (.b' id a' ks L y) P N (.seq (.region id l.toArray true) B) G Φ:=by
 obtain ⟨J,ai,h⟩:=hh h;obtain ⟨g',cr,_,fi⟩:=h1 J ai [] 0 .nil .nil (by simp);exact W.seq ((fN.draw hm.p dQ cr).w (W.be (af J ai h) fi))
theorem cx.YP [hm:Au P] (h:cz num P N l.toArray a' (get G) 0 [] l (yE E y λt G1=>ec E t .normal Φ G1)) (dQ:pe l.toArray a'=true:=by kernel_rfl):cx E (.rd id a' y) P N (.region id l.toArray true) G Φ:=by
 obtain ⟨g',h1,G1,af,aJ⟩:=h [] 0 .nil .nil (by simp);exact (fN.draw hm.p dQ h1).w (aJ g' (.eB af .hS))
theorem cx.YV {m:Option α}{f:α->Option β}{r:β}{L cY:α->List (Nat × ab)} [hm:Au P] (h:m.bind f=some r) (h1:∀ J,m=some J->cz num P N l.toArray a' (get G) 0 [] l (rr cY J .normal)) (af:∀ J,m=some J->f J=some r->ec E y .normal Φ (cY J))
  (aH:∀ J,pick (pD (L J) G) ks=some (cY J):=by intro J; rfl) (dQ:pe l.toArray a'=true:=by kernel_rfl):cx E (.b' id a' ks L y) P N (.region id l.toArray true) G Φ:=by
 obtain ⟨J,ai,h⟩:=hh h;obtain ⟨g',cr,_,fi⟩:=h1 J ai [] 0 .nil .nil (by simp);exact (fN.draw hm.p dQ cr).w (af J ai h _ fi)
theorem cx.YU {m:Option α}{f:α->Option β}{r:β}{L cY:α->List (Nat × ab)}(h:m.bind f=some r) (h1:∀ J,m=some J->aC P N l.toArray l (get G) (rr cY J .normal)) (af:∀ J,m=some J->f J=some r->ec E y .normal Φ (cY J))
  (aH:∀ J,pick (pD (L J) G) ks=some (cY J):=by intro J; rfl):cx E (.eE id ks L y) P N (.region id l.toArray false) G Φ:=by
 obtain ⟨J,ai,h⟩:=hh h;exact W.Aa λi hi=>by
  obtain ⟨g',cr,_,fi⟩:=h1 J ai i hi;exact ⟨g',cr,af J ai h _ fi⟩
theorem cx.f_ {S R gp:Type}{f:S->Option (S ⊕ (R ⊕ gp))}{s:S}{HA:R ⊕ gp->Option β}{r:β}{F cY:S->List (Nat × ab)}{ks r9 Cb:List Nat}{X l':R->List (Nat × ab)}{Y tz:gp->List (Nat × ab)}(h:(b5 f s).bind HA=some r)
  (av:∀ s o,f s=some o->cx E x P N c (cY s) (kV cY (Az id l' tz) o)) (j:∀ ck,HA (.inl ck)=some r->ec E y (.exit id) Φ (l' ck)) (al:∀ ck,HA (.inr ck)=some r->ec E z .ret Φ (tz ck))
  (aH:∀ s,pick (pD (F s) G) ks=some (cY s):=by intro s; rfl) (tS:∀ s,pick (pD (X s) G) r9=some (l' s):=by intro s; rfl) (Bn:∀ s,pick (pD (Y s) G) Cb=some (tz s):=by intro s; rfl) (aq:Trim true (get G) (get (cY s)) (cY s):=by (repeat' first | exact .nil | refine .n rfl ?_ | refine .w rfl rfl .pB ?_ | refine .w rfl rfl .pA ?_ | refine .w rfl rfl (j5.obj (by (repeat' first | exact .nil | refine .f ?_ | refine .o ?_ | refine .i ?_))) ?_)) :
  cx E (.f_ F ks id X r9 Y Cb x y z) P N (.loop c) G Φ:=by
 obtain ⟨ck,aj,h⟩:=hh h;exact W.ds aq (W.JE cY id l' tz aj av (λq e=>j q (e ▸ h)) (λq e=>al q (e ▸ h)))
theorem ec.x2 {S R gp:Type}{r:R}{o:S ⊕ (R ⊕ gp)}{F:S->List (Nat × ab)}{X:R->List (Nat × ab)}{Y:gp->List (Nat × ab)}(h:some (.inr (.inl r))=some o) (aq:Trim true (get G) (get (X r)) (X r)):ec E t (.exit id) (kV F (Az id X Y) o) G:=by
 cases h; exact aE.x2 aq
theorem ec.jt {S R gp:Type}{r:gp}{o:S ⊕ (R ⊕ gp)}{F:S->List (Nat × ab)}{X:R->List (Nat × ab)}{Y:gp->List (Nat × ab)}(h:some (.inr (.inr r))=some o) (aq:Trim true (get G) (get (Y r)) (Y r)):ec E t .ret (kV F (Az id X Y) o) G:=by
 cases h; exact aE.jt aq
end
section
variable {P:Program}{N:cS}{E:List Nat}{t x y z:lk}{A B c:Code}{G:List (Nat × ab)}{Φ:Exit->aK->Prop}{id k s:Nat}{o:Operand}
theorem j4.dS {α:Type}{en:bz α}{i:Option Nat}(h:cx E (.dS id s i en y) P N c G Φ):cx E (.dS id s i en y) P N c G Φ:=h
theorem j4.sy {α:Type}{en:bz α}{i:Option Nat}(h:cx E (.sy s i en y) P N c G Φ):cx E (.sy s i en y) P N c G Φ:=h
theorem j4.eE {α:Type}{ks:List Nat}{L:α->List (Nat × ab)}(h:cx E (.eE id ks L y) P N c G Φ):cx E (.eE id ks L y) P N c G Φ:=h
theorem j4.b' {α:Type}{a':List (List Nat)}{ks:List Nat}{L:α->List (Nat × ab)}(h:cx E (.b' id a' ks L y) P N c G Φ):cx E (.b' id a' ks L y) P N c G Φ:=h
theorem j4.rd {a':List (List Nat)}(h:cx E (.rd id a' y) P N c G Φ):cx E (.rd id a' y) P N c G Φ:=h
theorem j4.bk (h:cx E t P N (.cond o A B) G Φ):cx E t P N (.cond o A B) G Φ:=h
theorem j4.er (h:cx E t P N (.loop A) G Φ):cx E t P N (.loop A) G Φ:=h
theorem j4.Jr {α:Type}{ks:List Nat}{L:α->List (Nat × ab)}(h:cx E (.b6 ks L x y) P N (.block id A) G Φ):cx E (.b6 ks L x y) P N (.block id A) G Φ:=h
theorem j4.rg {ops:Array Oper}{b:Bool}(h:cx E t P N (.region id ops b) G Φ):cx E t P N (.region id ops b) G Φ:=h
theorem j4.Yr {S R:Type}{F:S->List (Nat × ab)}{Ψ:R->Exit->aK->Prop}{o:S ⊕ R}{e:Exit}(h:ec E t e (kV F Ψ o) G):ec E t e (kV F Ψ o) G:=h
theorem j4.Yu {α:Type}{F:α->List (Nat × ab)}{J:α}{e:Exit}(h:ec E t e (rr F J) G):ec E t e (rr F J) G:=h
theorem j4.Sd (h:ec E t (.exit k) (lX id Φ) G):ec E t (.exit k) (lX id Φ) G:=h
theorem j4.Yq {rs:List ResultVar}{n:Nat}{outs:List (Option ab)}{res:ab}{e:Exit}(h:ec E t e (pS P N rs n outs res) G):ec E t e (pS P N rs n outs res) G:=h
end
section
variable {P:Program}{N:cS}{E:List Nat}{t:lk}{G:List (Nat × ab)}{g':aK}{rs:List ResultVar}{ys xs:List ab}{res:ab}{outs:List (Option ab)}{n:Nat}
theorem j1.Mf {g wX:aK}{s z:Nat}{gV:TypeId}{cs ys0:List ab}{rs:List ResultVar}{ys xs:List ab}(h:g s=some (.obj cs)) [aq:jZ P gV z] (aW:cs.length=z) (aO:Nat.blt 0 z=true) (al:x7 (λi x=>fD 0 ⟨s,[i]⟩ x) 0 num cs=some ys0) (hk:mX s g 0 ys0 cs wX) (ah:j1 P wX rs ys xs g'):j1 P g (.cell s gV::rs) (.agg ys0::ys) (.agg cs::xs) g':=.c h aq.p aW aO (by have:=C7 al; simpa using this) hk ah
theorem ec.dF (h:j1 P (get G) rs ys xs g':=by (repeat' first | exact .nil | (apply j1.f rfl rfl) | (apply j1.o rfl) | (apply j1.Mf rfl rfl rfl rfl) | (apply mX.f rfl) | (apply mX.o rfl))) (he:oV xs=res:=by rfl) (aU:qI g' N.pins 0 outs:=by (repeat' first | exact .nil | refine .no ?_ | refine .ag rfl rfl ?_)) (fj:(rs.filterMap fun | .cell t _=>some t | _=>none).Nodup:=by exact of_decide_eq_true (by kernel_rfl)) (aj:outs.length=n:=by rfl):ec E t .ret (pS P N rs n outs res) G:=jL h he aU fj aj
theorem ec.fn (h:j1 P (get G) rs ys xs g':=by (repeat' first | exact .nil | (apply j1.f rfl rfl) | (apply j1.o rfl) | (apply j1.Mf rfl rfl rfl rfl) | (apply mX.f rfl) | (apply mX.o rfl))) (he:oV xs=res:=by rfl) (aU:qI g' N.pins 0 outs:=by (repeat' first | exact .nil | refine .no ?_ | refine .ag rfl rfl ?_)) (fj:(rs.filterMap fun | .cell t _=>some t | _=>none).Nodup:=by exact of_decide_eq_true (by kernel_rfl)) (aj:outs.length=n:=by rfl):ec E t .normal (pS P N rs n outs res) G:=aE.fin (Fin.ro h he fj aU aj (.inl rfl))
set_option maxRecDepth 1000000 in
/-- The walk: what it meets it does. -/
theorem dW {p:Prop}(h:p:=by
(repeat' (first
 | ((with_reducible apply aC.bH _ none); first
  | ((with_reducible apply aC.bH (.move _) none); first | refine ed (O.aZ .q) ?_)
  | ((with_reducible apply aC.bH (.assign (.const _)) none); first | refine ed (O.dy .q) ?_)
  | ((with_reducible apply aC.bH (.assign (.tmp _)) none); first | refine ed (O.dy .z7) ?_)
  | ((with_reducible apply aC.bH (.load _ _) none); first | refine ed (O.gH) ?_ | refine ed (O.fp) ?_ | refine ed (O.wj) ?_ | refine ed (O.wk) ?_ | refine ed (O.F4) ?_ | refine ed (O.F9) ?_ | refine ed (O.Gh) ?_)
  | ((with_reducible apply aC.bH (.fieldAddr _ _ _) none); first | refine ed (O.Ai) ?_ | refine ed (O.Aj) ?_ | refine ed (O.wf) ?_)
  | ((with_reducible apply aC.bH (.indexAddr _ _ _) none); first | refine aV h λx j h=>ed (O.F3 j) ?_ | refine aV h λx j h=>ed (O.rn j) ?_ | refine ed (O.eB) ?_ | refine ed (O.F_) ?_)
  | ((with_reducible apply aC.bH (.binOp .add _ _ _ _) none); first | refine ed (O.add .q .q) ?_ | refine aV h λx j h=>ed (O.cat .q .q j) ?_)
  | ((with_reducible apply aC.bH (.binOp .sub _ _ _ _) none); first | refine ed (O.sub .q .q) ?_)
  | ((with_reducible apply aC.bH (.binOp .mul _ _ _ _) none); first | refine ed (O.mul .q .q) ?_)
  | ((with_reducible apply aC.bH (.binOp .lss _ _ _ _) none); first | refine ed (O.lss .q .q) ?_)
  | ((with_reducible apply aC.bH (.binOp .leq _ _ _ _) none); first | refine ed (O.leq .q .q) ?_)
  | ((with_reducible apply aC.bH (.binOp .gtr _ _ _ _) none); first | refine ed (O.gtr .q .q) ?_)
  | ((with_reducible apply aC.bH (.binOp .geq _ _ _ _) none); first | refine ed (O.geq .q .q) ?_)
  | ((with_reducible apply aC.bH (.binOp .eql _ _ _ _) none); first | refine ed (O.eql .q .q) ?_ | refine ed (O.nS .q .q) ?_ | refine ed (O.A3 .q .q (by kernel_rfl)) ?_ | refine ed (O.oe) ?_)
  | ((with_reducible apply aC.bH (.binOp .neq _ _ _ _) none); first | refine ed (O.neq .q .q) ?_ | refine ed (O.nE .q .q) ?_ | refine ed (O.wn) ?_)
  | ((with_reducible apply aC.bH (.binOp .quo _ _ _ _) none); first | refine aV h λx j h=>ed (O.quo .q .q j) ?_ | refine aV h λx j h=>ed (O.pH .q .q j) ?_)
  | ((with_reducible apply aC.bH (.binOp .rem _ _ _ _) none); first | refine aV h λx j h=>ed (O.rem .q .q j) ?_ | refine aV h λx j h=>ed (O.pI .q .q j) ?_)
  | ((with_reducible apply aC.bH (.unOp .not _ _) none); first | refine ed (O.not .q) ?_)
  | ((with_reducible apply aC.bH (.unOp .neg _ _) none); first | refine ed (O.neg .q) ?_)
  | ((with_reducible apply aC.bH (.pick _ _ _) none); first | refine ed (O.js .q (by first | rfl | assumption) .q) ?_ | refine ed (O.jI .q (by first | rfl | assumption) .q) ?_)
  | ((with_reducible apply aC.bH (.nilCheck _) none); first | refine ed (O.ev .q) ?_ | refine ed (O.xF .q) ?_)
  | ((with_reducible apply aC.bH (.index _ _ _) none); first | refine aV h λx j h=>ed (O.at' .q .q iO.p j) ?_)
  | ((with_reducible apply aC.bH (.extract _ _) none); first | refine ed (O.Gf) ?_)
  | ((with_reducible apply aC.bH (.convert _ _ _) none); first | refine ed (O.F8) ?_ | refine ed (O.F7) ?_)
  | ((with_reducible apply aC.bH (.box _ _) none); first | refine ed (O.F0) ?_)
  | ((with_reducible apply aC.bH (.alloc _) none); first | refine ed (O.F5) ?_ | refine ed (O.F6) ?_)
  | ((with_reducible apply aC.bH (.build _ _) none); first | refine ed (O.Ge) ?_)
  | ((with_reducible apply aC.bH (.field _ _ _) none); first | refine ed (O.wd) ?_)
  | ((with_reducible apply aC.bH (.makeSlice _ _ _) none); first | refine aV h λx j h=>ed (O.F' j) ?_ | refine aV h λx j h=>ed (O.Gg j) ?_)
  | ((with_reducible apply aC.bH (.buildSlice _ 0 #[]) none); first | refine ed (O.wl) ?_)
  | ((with_reducible apply aC.bH (.makeFunc _ _ _) none); first | refine ed (O.Fc rfl) ?_)
  | ((with_reducible apply aC.bH (.slice _ _ _ _ _) none); first | refine aV h λx j h=>ed (O.s' .q .q .q iO.p j) ?_ | refine aV h λx j h=>ed (O.Db .q .q iO.p j) ?_ | refine aV h λx j h=>ed (O.Dc .q .q iO.p j) ?_ | refine aV h λx j h=>ed (O.Gd j) ?_ | refine aV h λx j h=>ed (O.Gb j) ?_ | refine aV h λx j h=>ed (O.Gc j) ?_)
  | ((with_reducible apply aC.bH (.call { callee:=.builtin .len,args:=#[_],argTypes:=#[_] }) none); first | refine ed (O.jr .q d_.p) ?_ | refine ed (O.nA .q d_.p) ?_ | refine ed (O.oR .q iO.p) ?_)
  | ((with_reducible apply aC.bH (.call { callee:=.builtin .append,args:=#[_,_],argTypes:=#[_,_] }) none); first | refine aV h λx j h=>ed (O.wp j) ?_ | refine aV h λx j h=>ed (O.Ga j) ?_ | refine aV h λx j h=>ed (O.F1 j) ?_ | refine aV h λx j h=>ed (O.wr j) ?_)
  | ((with_reducible apply aC.bH (.call { callee:=.value _,args:=_,argTypes:=_ }) none); first | (refine aV h λx j h=>Lq (cV.ff ?_ (bO.go j)) ?_; · (repeat' first | exact .nil | refine .cZ .q ?_)) | (refine aV h λx j h=>Lq (cV.my rfl ?_ (bO.go j)) ?_; · (repeat' first | exact .nil | refine .s ?_ | refine .c (View.pE rfl rfl) ?_ | refine .c (.row rfl) ?_ | refine .c (View.ou ?_) ?_ | refine .c (View.cl ?_) ?_)) | (refine aV h λx j h=>Q5 (bO.go j) rfl rfl rfl rfl rfl (by repeat' first | exact .nil | refine .b rfl ?_ | refine .n rfl ?_) ?_))
  | ((with_reducible apply aC.bH (.buildSlice _ _ _) none); first | refine Rh h ?_ | refine Ri rfl ?_ | refine Rj rfl ?_ | refine Lr [_] rfl ?_ | refine Lr [_,_] rfl ?_)
  | ((with_reducible apply aC.bH (.assign _) none); refine Rk rfl rfl rfl ?_)
  | ((with_reducible apply aC.bH (.move _) none); refine Rl rfl rfl rfl ?_)
  | ((with_reducible apply aC.bH (.move _) none); first | refine GC rfl rfl (O.aZ .q) ?_)
  | ((with_reducible apply aC.bH (.assign (.const _)) none); first | refine GC rfl rfl (O.dy .q) ?_)
  | ((with_reducible apply aC.bH (.assign (.tmp _)) none); first | refine GC rfl rfl (O.dy .z7) ?_)
  | ((with_reducible apply aC.bH (.assign (.tmp _)) none); refine Q6 rfl rfl (by first | exact hK.kB | exact hK.AK | exact hK.DR | exact hK.ou .q (by repeat' first | exact eV.nil | (apply eV.f) | (apply eV.r rfl) | (apply eV.ou) | (apply eV.b rfl))) ?_))
 | ((with_reducible apply aC.ts); refine Q7 rfl rfl (by first | exact hK.hU | exact hK.oY | exact hK.uP | exact hK.sp | exact hK.rf | exact hK.P6 .q (by repeat' first | exact eV.nil | (apply eV.f) | (apply eV.r rfl) | (apply eV.ou) | (apply eV.b rfl))) ?_)
 | ((with_reducible apply aC.bH _ (some _)); first
  | refine qD ?_
  | refine Q' ?_
  | ((with_reducible apply aC.bH (.move _) (some _)); first | refine eh (O.aZ .q) ?_)
  | ((with_reducible apply aC.bH (.assign (.const _)) (some _)); first | refine eh (O.dy .q) ?_)
  | ((with_reducible apply aC.bH (.assign (.tmp _)) (some _)); first | refine eh (O.dy .z7) ?_)
  | ((with_reducible apply aC.bH (.load _ _) (some _)); first | refine eh (O.gH) ?_ | refine eh (O.fp) ?_ | refine eh (O.wj) ?_ | refine eh (O.wk) ?_ | refine eh (O.F4) ?_ | refine eh (O.F9) ?_ | refine eh (O.Gh) ?_)
  | ((with_reducible apply aC.bH (.fieldAddr _ _ _) (some _)); first | refine eh (O.Ai) ?_ | refine eh (O.Aj) ?_ | refine eh (O.wf) ?_)
  | ((with_reducible apply aC.bH (.indexAddr _ _ _) (some _)); first | refine aV h λx j h=>eh (O.F3 j) ?_ | refine aV h λx j h=>eh (O.rn j) ?_ | refine eh (O.eB) ?_ | refine eh (O.F_) ?_)
  | ((with_reducible apply aC.bH (.binOp .add _ _ _ _) (some _)); first | refine eh (O.add .q .q) ?_ | refine aV h λx j h=>eh (O.cat .q .q j) ?_)
  | ((with_reducible apply aC.bH (.binOp .sub _ _ _ _) (some _)); first | refine eh (O.sub .q .q) ?_)
  | ((with_reducible apply aC.bH (.binOp .mul _ _ _ _) (some _)); first | refine eh (O.mul .q .q) ?_)
  | ((with_reducible apply aC.bH (.binOp .lss _ _ _ _) (some _)); first | refine eh (O.lss .q .q) ?_)
  | ((with_reducible apply aC.bH (.binOp .leq _ _ _ _) (some _)); first | refine eh (O.leq .q .q) ?_)
  | ((with_reducible apply aC.bH (.binOp .gtr _ _ _ _) (some _)); first | refine eh (O.gtr .q .q) ?_)
  | ((with_reducible apply aC.bH (.binOp .geq _ _ _ _) (some _)); first | refine eh (O.geq .q .q) ?_)
  | ((with_reducible apply aC.bH (.binOp .eql _ _ _ _) (some _)); first | refine eh (O.eql .q .q) ?_ | refine eh (O.nS .q .q) ?_ | refine eh (O.A3 .q .q (by kernel_rfl)) ?_ | refine eh (O.oe) ?_)
  | ((with_reducible apply aC.bH (.binOp .neq _ _ _ _) (some _)); first | refine eh (O.neq .q .q) ?_ | refine eh (O.nE .q .q) ?_ | refine eh (O.wn) ?_)
  | ((with_reducible apply aC.bH (.binOp .quo _ _ _ _) (some _)); first | refine aV h λx j h=>eh (O.quo .q .q j) ?_ | refine aV h λx j h=>eh (O.pH .q .q j) ?_)
  | ((with_reducible apply aC.bH (.binOp .rem _ _ _ _) (some _)); first | refine aV h λx j h=>eh (O.rem .q .q j) ?_ | refine aV h λx j h=>eh (O.pI .q .q j) ?_)
  | ((with_reducible apply aC.bH (.unOp .not _ _) (some _)); first | refine eh (O.not .q) ?_)
  | ((with_reducible apply aC.bH (.unOp .neg _ _) (some _)); first | refine eh (O.neg .q) ?_)
  | ((with_reducible apply aC.bH (.pick _ _ _) (some _)); first | refine eh (O.js .q (by first | rfl | assumption) .q) ?_ | refine eh (O.jI .q (by first | rfl | assumption) .q) ?_)
  | ((with_reducible apply aC.bH (.nilCheck _) (some _)); first | refine eh (O.ev .q) ?_ | refine eh (O.xF .q) ?_)
  | ((with_reducible apply aC.bH (.index _ _ _) (some _)); first | refine aV h λx j h=>eh (O.at' .q .q iO.p j) ?_)
  | ((with_reducible apply aC.bH (.extract _ _) (some _)); first | refine eh (O.Gf) ?_)
  | ((with_reducible apply aC.bH (.convert _ _ _) (some _)); first | refine eh (O.F8) ?_ | refine eh (O.F7) ?_)
  | ((with_reducible apply aC.bH (.box _ _) (some _)); first | refine eh (O.F0) ?_)
  | ((with_reducible apply aC.bH (.alloc _) (some _)); first | refine eh (O.F5) ?_ | refine eh (O.F6) ?_)
  | ((with_reducible apply aC.bH (.build _ _) (some _)); first | refine eh (O.Ge) ?_)
  | ((with_reducible apply aC.bH (.field _ _ _) (some _)); first | refine eh (O.wd) ?_)
  | ((with_reducible apply aC.bH (.makeSlice _ _ _) (some _)); first | refine aV h λx j h=>eh (O.F' j) ?_ | refine aV h λx j h=>eh (O.Gg j) ?_)
  | ((with_reducible apply aC.bH (.buildSlice _ 0 #[]) (some _)); first | refine eh (O.wl) ?_)
  | ((with_reducible apply aC.bH (.makeFunc _ _ _) (some _)); first | refine eh (O.Fc rfl) ?_)
  | ((with_reducible apply aC.bH (.slice _ _ _ _ _) (some _)); first | refine aV h λx j h=>eh (O.s' .q .q .q iO.p j) ?_ | refine aV h λx j h=>eh (O.Db .q .q iO.p j) ?_ | refine aV h λx j h=>eh (O.Dc .q .q iO.p j) ?_ | refine aV h λx j h=>eh (O.Gd j) ?_ | refine aV h λx j h=>eh (O.Gb j) ?_ | refine aV h λx j h=>eh (O.Gc j) ?_)
  | ((with_reducible apply aC.bH (.call { callee:=.builtin .len,args:=#[_],argTypes:=#[_] }) (some _)); first | refine eh (O.jr .q d_.p) ?_ | refine eh (O.nA .q d_.p) ?_ | refine eh (O.oR .q iO.p) ?_)
  | ((with_reducible apply aC.bH (.call { callee:=.builtin .append,args:=#[_,_],argTypes:=#[_,_] }) (some _)); first | refine aV h λx j h=>eh (O.wp j) ?_ | refine aV h λx j h=>eh (O.Ga j) ?_ | refine aV h λx j h=>eh (O.F1 j) ?_ | refine aV h λx j h=>eh (O.wr j) ?_)
  | ((with_reducible apply aC.bH (.call { callee:=.value _,args:=_,argTypes:=_ }) (some _)); first | (refine aV h λx j h=>Lb (cV.ff ?_ (bO.go j)) ?_; · (repeat' first | exact .nil | refine .cZ .q ?_)) | (refine aV h λx j h=>Lb (cV.my rfl ?_ (bO.go j)) ?_; · (repeat' first | exact .nil | refine .s ?_ | refine .c (View.pE rfl rfl) ?_ | refine .c (.row rfl) ?_ | refine .c (View.ou ?_) ?_ | refine .c (View.cl ?_) ?_)))
  | refine Hc h (λav h=>?_) (λav h=>?_))
 | ((with_reducible apply aC.nl); first | refine Gv rfl rfl ?_ | refine Q8 h (by (repeat' first | exact .nil | refine .n rfl ?_ | refine .w rfl rfl .pB ?_ | refine .w rfl rfl .pA ?_ | refine .w rfl rfl (j5.obj (by (repeat' first | exact .nil | refine .f ?_ | refine .o ?_ | refine .i ?_))) ?_)))
 | ((with_reducible apply cz.bH _ none); first
  | ((with_reducible apply cz.bH (.move _) none); first | refine eb (O.aZ .q) ?_)
  | ((with_reducible apply cz.bH (.assign (.const _)) none); first | refine eb (O.dy .q) ?_)
  | ((with_reducible apply cz.bH (.assign (.tmp _)) none); first | refine eb (O.dy .z7) ?_)
  | ((with_reducible apply cz.bH (.load _ _) none); first | refine eb (O.gH) ?_ | refine eb (O.fp) ?_ | refine eb (O.wj) ?_ | refine eb (O.wk) ?_ | refine eb (O.F4) ?_ | refine eb (O.F9) ?_ | refine eb (O.Gh) ?_)
  | ((with_reducible apply cz.bH (.fieldAddr _ _ _) none); first | refine eb (O.Ai) ?_ | refine eb (O.Aj) ?_ | refine eb (O.wf) ?_)
  | ((with_reducible apply cz.bH (.indexAddr _ _ _) none); first | refine aV h λx j h=>eb (O.F3 j) ?_ | refine aV h λx j h=>eb (O.rn j) ?_ | refine eb (O.eB) ?_ | refine eb (O.F_) ?_)
  | ((with_reducible apply cz.bH (.binOp .add _ _ _ _) none); first | refine eb (O.add .q .q) ?_ | refine aV h λx j h=>eb (O.cat .q .q j) ?_)
  | ((with_reducible apply cz.bH (.binOp .sub _ _ _ _) none); first | refine eb (O.sub .q .q) ?_)
  | ((with_reducible apply cz.bH (.binOp .mul _ _ _ _) none); first | refine eb (O.mul .q .q) ?_)
  | ((with_reducible apply cz.bH (.binOp .lss _ _ _ _) none); first | refine eb (O.lss .q .q) ?_)
  | ((with_reducible apply cz.bH (.binOp .leq _ _ _ _) none); first | refine eb (O.leq .q .q) ?_)
  | ((with_reducible apply cz.bH (.binOp .gtr _ _ _ _) none); first | refine eb (O.gtr .q .q) ?_)
  | ((with_reducible apply cz.bH (.binOp .geq _ _ _ _) none); first | refine eb (O.geq .q .q) ?_)
  | ((with_reducible apply cz.bH (.binOp .eql _ _ _ _) none); first | refine eb (O.eql .q .q) ?_ | refine eb (O.nS .q .q) ?_ | refine eb (O.A3 .q .q (by kernel_rfl)) ?_ | refine eb (O.oe) ?_)
  | ((with_reducible apply cz.bH (.binOp .neq _ _ _ _) none); first | refine eb (O.neq .q .q) ?_ | refine eb (O.nE .q .q) ?_ | refine eb (O.wn) ?_)
  | ((with_reducible apply cz.bH (.binOp .quo _ _ _ _) none); first | refine aV h λx j h=>eb (O.quo .q .q j) ?_ | refine aV h λx j h=>eb (O.pH .q .q j) ?_)
  | ((with_reducible apply cz.bH (.binOp .rem _ _ _ _) none); first | refine aV h λx j h=>eb (O.rem .q .q j) ?_ | refine aV h λx j h=>eb (O.pI .q .q j) ?_)
  | ((with_reducible apply cz.bH (.unOp .not _ _) none); first | refine eb (O.not .q) ?_)
  | ((with_reducible apply cz.bH (.unOp .neg _ _) none); first | refine eb (O.neg .q) ?_)
  | ((with_reducible apply cz.bH (.pick _ _ _) none); first | refine eb (O.js .q (by first | rfl | assumption) .q) ?_ | refine eb (O.jI .q (by first | rfl | assumption) .q) ?_)
  | ((with_reducible apply cz.bH (.nilCheck _) none); first | refine eb (O.ev .q) ?_ | refine eb (O.xF .q) ?_)
  | ((with_reducible apply cz.bH (.index _ _ _) none); first | refine aV h λx j h=>eb (O.at' .q .q iO.p j) ?_)
  | ((with_reducible apply cz.bH (.extract _ _) none); first | refine eb (O.Gf) ?_)
  | ((with_reducible apply cz.bH (.convert _ _ _) none); first | refine eb (O.F8) ?_ | refine eb (O.F7) ?_)
  | ((with_reducible apply cz.bH (.box _ _) none); first | refine eb (O.F0) ?_)
  | ((with_reducible apply cz.bH (.alloc _) none); first | refine eb (O.F5) ?_ | refine eb (O.F6) ?_)
  | ((with_reducible apply cz.bH (.build _ _) none); first | refine eb (O.Ge) ?_)
  | ((with_reducible apply cz.bH (.field _ _ _) none); first | refine eb (O.wd) ?_)
  | ((with_reducible apply cz.bH (.makeSlice _ _ _) none); first | refine aV h λx j h=>eb (O.F' j) ?_ | refine aV h λx j h=>eb (O.Gg j) ?_)
  | ((with_reducible apply cz.bH (.buildSlice _ 0 #[]) none); first | refine eb (O.wl) ?_)
  | ((with_reducible apply cz.bH (.makeFunc _ _ _) none); first | refine eb (O.Fc rfl) ?_)
  | ((with_reducible apply cz.bH (.slice _ _ _ _ _) none); first | refine aV h λx j h=>eb (O.s' .q .q .q iO.p j) ?_ | refine aV h λx j h=>eb (O.Db .q .q iO.p j) ?_ | refine aV h λx j h=>eb (O.Dc .q .q iO.p j) ?_ | refine aV h λx j h=>eb (O.Gd j) ?_ | refine aV h λx j h=>eb (O.Gb j) ?_ | refine aV h λx j h=>eb (O.Gc j) ?_)
  | ((with_reducible apply cz.bH (.call { callee:=.builtin .len,args:=#[_],argTypes:=#[_] }) none); first | refine eb (O.jr .q d_.p) ?_ | refine eb (O.nA .q d_.p) ?_ | refine eb (O.oR .q iO.p) ?_)
  | ((with_reducible apply cz.bH (.call { callee:=.builtin .append,args:=#[_,_],argTypes:=#[_,_] }) none); first | refine aV h λx j h=>eb (O.wp j) ?_ | refine aV h λx j h=>eb (O.Ga j) ?_ | refine aV h λx j h=>eb (O.F1 j) ?_ | refine aV h λx j h=>eb (O.QB j) ?_)
  | ((with_reducible apply cz.bH (.call { callee:=.value _,args:=_,argTypes:=_ }) none); first | (refine aV h λx j h=>K6 (cV.ff ?_ (bO.go j)) ?_; · (repeat' first | exact .nil | refine .cZ .q ?_)) | (refine aV h λx j h=>K6 (cV.my rfl ?_ (bO.go j)) ?_; · (repeat' first | exact .nil | refine .s ?_ | refine .c (View.pE rfl rfl) ?_ | refine .c (.row rfl) ?_ | refine .c (View.ou ?_) ?_ | refine .c (View.cl ?_) ?_)) | (refine aV h λx j h=>QY (bO.go j) rfl rfl rfl rfl rfl (by repeat' first | exact .nil | refine .b rfl ?_ | refine .n rfl ?_) ?_))
  | ((with_reducible apply cz.bH (.buildSlice _ _ _) none); first | refine QW h ?_ | refine QX rfl ?_ | refine Q0 rfl ?_ | refine Q3 [_,_] rfl ?_ | refine K7 [_] rfl ?_ | refine K7 [_,_] rfl ?_)
  | ((with_reducible apply cz.bH (.assign _) none); refine QZ rfl rfl (by first | exact hK.kB | exact hK.AK | exact hK.DR | exact hK.Rw | exact hK.ou .q (by repeat' first | exact eV.nil | (apply eV.f) | (apply eV.r rfl) | (apply eV.ou) | (apply eV.b rfl))) ?_))
 | ((with_reducible apply cz.ts); refine Q1 rfl rfl (by first | exact hK.hU | exact hK.oY | exact hK.uP | exact hK.sp | exact hK.rf | exact hK.P6 .q (by repeat' first | exact eV.nil | (apply eV.f) | (apply eV.r rfl) | (apply eV.ou) | (apply eV.b rfl))) ?_)
 | ((with_reducible apply cz.bH _ (some _)); first
  | refine Q2 ?_
  | refine Q4 ?_
  | ((with_reducible apply cz.bH (.move _) (some _)); first | refine eg (O.aZ .q) ?_)
  | ((with_reducible apply cz.bH (.assign (.const _)) (some _)); first | refine eg (O.dy .q) ?_)
  | ((with_reducible apply cz.bH (.assign (.tmp _)) (some _)); first | refine eg (O.dy .z7) ?_)
  | ((with_reducible apply cz.bH (.load _ _) (some _)); first | refine eg (O.gH) ?_ | refine eg (O.fp) ?_ | refine eg (O.wj) ?_ | refine eg (O.wk) ?_ | refine eg (O.F4) ?_ | refine eg (O.F9) ?_ | refine eg (O.Gh) ?_)
  | ((with_reducible apply cz.bH (.fieldAddr _ _ _) (some _)); first | refine eg (O.Ai) ?_ | refine eg (O.Aj) ?_ | refine eg (O.wf) ?_)
  | ((with_reducible apply cz.bH (.indexAddr _ _ _) (some _)); first | refine aV h λx j h=>eg (O.F3 j) ?_ | refine aV h λx j h=>eg (O.rn j) ?_ | refine eg (O.eB) ?_ | refine eg (O.F_) ?_)
  | ((with_reducible apply cz.bH (.binOp .add _ _ _ _) (some _)); first | refine eg (O.add .q .q) ?_ | refine aV h λx j h=>eg (O.cat .q .q j) ?_)
  | ((with_reducible apply cz.bH (.binOp .sub _ _ _ _) (some _)); first | refine eg (O.sub .q .q) ?_)
  | ((with_reducible apply cz.bH (.binOp .mul _ _ _ _) (some _)); first | refine eg (O.mul .q .q) ?_)
  | ((with_reducible apply cz.bH (.binOp .lss _ _ _ _) (some _)); first | refine eg (O.lss .q .q) ?_)
  | ((with_reducible apply cz.bH (.binOp .leq _ _ _ _) (some _)); first | refine eg (O.leq .q .q) ?_)
  | ((with_reducible apply cz.bH (.binOp .gtr _ _ _ _) (some _)); first | refine eg (O.gtr .q .q) ?_)
  | ((with_reducible apply cz.bH (.binOp .geq _ _ _ _) (some _)); first | refine eg (O.geq .q .q) ?_)
  | ((with_reducible apply cz.bH (.binOp .eql _ _ _ _) (some _)); first | refine eg (O.eql .q .q) ?_ | refine eg (O.nS .q .q) ?_ | refine eg (O.A3 .q .q (by kernel_rfl)) ?_ | refine eg (O.oe) ?_)
  | ((with_reducible apply cz.bH (.binOp .neq _ _ _ _) (some _)); first | refine eg (O.neq .q .q) ?_ | refine eg (O.nE .q .q) ?_ | refine eg (O.wn) ?_)
  | ((with_reducible apply cz.bH (.binOp .quo _ _ _ _) (some _)); first | refine aV h λx j h=>eg (O.quo .q .q j) ?_ | refine aV h λx j h=>eg (O.pH .q .q j) ?_)
  | ((with_reducible apply cz.bH (.binOp .rem _ _ _ _) (some _)); first | refine aV h λx j h=>eg (O.rem .q .q j) ?_ | refine aV h λx j h=>eg (O.pI .q .q j) ?_)
  | ((with_reducible apply cz.bH (.unOp .not _ _) (some _)); first | refine eg (O.not .q) ?_)
  | ((with_reducible apply cz.bH (.unOp .neg _ _) (some _)); first | refine eg (O.neg .q) ?_)
  | ((with_reducible apply cz.bH (.pick _ _ _) (some _)); first | refine eg (O.js .q (by first | rfl | assumption) .q) ?_ | refine eg (O.jI .q (by first | rfl | assumption) .q) ?_)
  | ((with_reducible apply cz.bH (.nilCheck _) (some _)); first | refine eg (O.ev .q) ?_ | refine eg (O.xF .q) ?_)
  | ((with_reducible apply cz.bH (.index _ _ _) (some _)); first | refine aV h λx j h=>eg (O.at' .q .q iO.p j) ?_)
  | ((with_reducible apply cz.bH (.extract _ _) (some _)); first | refine eg (O.Gf) ?_)
  | ((with_reducible apply cz.bH (.convert _ _ _) (some _)); first | refine eg (O.F8) ?_ | refine eg (O.F7) ?_)
  | ((with_reducible apply cz.bH (.box _ _) (some _)); first | refine eg (O.F0) ?_)
  | ((with_reducible apply cz.bH (.alloc _) (some _)); first | refine eg (O.F5) ?_ | refine eg (O.F6) ?_)
  | ((with_reducible apply cz.bH (.build _ _) (some _)); first | refine eg (O.Ge) ?_)
  | ((with_reducible apply cz.bH (.field _ _ _) (some _)); first | refine eg (O.wd) ?_)
  | ((with_reducible apply cz.bH (.makeSlice _ _ _) (some _)); first | refine aV h λx j h=>eg (O.F' j) ?_ | refine aV h λx j h=>eg (O.Gg j) ?_)
  | ((with_reducible apply cz.bH (.buildSlice _ 0 #[]) (some _)); first | refine eg (O.wl) ?_)
  | ((with_reducible apply cz.bH (.makeFunc _ _ _) (some _)); first | refine eg (O.Fc rfl) ?_)
  | ((with_reducible apply cz.bH (.slice _ _ _ _ _) (some _)); first | refine aV h λx j h=>eg (O.s' .q .q .q iO.p j) ?_ | refine aV h λx j h=>eg (O.Db .q .q iO.p j) ?_ | refine aV h λx j h=>eg (O.Dc .q .q iO.p j) ?_ | refine aV h λx j h=>eg (O.Gd j) ?_ | refine aV h λx j h=>eg (O.Gb j) ?_ | refine aV h λx j h=>eg (O.Gc j) ?_)
  | ((with_reducible apply cz.bH (.call { callee:=.builtin .len,args:=#[_],argTypes:=#[_] }) (some _)); first | refine eg (O.jr .q d_.p) ?_ | refine eg (O.nA .q d_.p) ?_ | refine eg (O.oR .q iO.p) ?_)
  | ((with_reducible apply cz.bH (.call { callee:=.builtin .append,args:=#[_,_],argTypes:=#[_,_] }) (some _)); first | refine aV h λx j h=>eg (O.wp j) ?_ | refine aV h λx j h=>eg (O.Ga j) ?_ | refine aV h λx j h=>eg (O.F1 j) ?_ | refine aV h λx j h=>eg (O.QB j) ?_)
  | ((with_reducible apply cz.bH (.call { callee:=.value _,args:=_,argTypes:=_ }) (some _)); first | (refine aV h λx j h=>K5 (cV.ff ?_ (bO.go j)) ?_; · (repeat' first | exact .nil | refine .cZ .q ?_)) | (refine aV h λx j h=>K5 (cV.my rfl ?_ (bO.go j)) ?_; · (repeat' first | exact .nil | refine .s ?_ | refine .c (View.pE rfl rfl) ?_ | refine .c (.row rfl) ?_ | refine .c (View.ou ?_) ?_ | refine .c (View.cl ?_) ?_)))
  | refine Hc h (λav h=>?_) (λav h=>?_))
 | ((with_reducible apply cz.nl); first | refine QV rfl rfl ?_ | refine QU h (by (repeat' first | exact .nil | refine .n rfl ?_ | refine .w rfl rfl .pB ?_ | refine .w rfl rfl .pA ?_ | refine .w rfl rfl (j5.obj (by (repeat' first | exact .nil | refine .f ?_ | refine .o ?_ | refine .i ?_))) ?_)))
 | ((with_reducible apply j4.dS); refine cx.dS rfl (by first | exact .w | exact .n | exact .c rfl .w rfl | exact .c rfl .n rfl) rfl rfl ?_)
 | ((with_reducible apply j4.sy); refine cx.sy rfl (by first | exact .w | exact .n | exact .c rfl .w rfl | exact .c rfl .n rfl) rfl rfl ?_)
 | ((with_reducible apply j4.eE); first | refine cx.eE h (λJ h=>?_) (λJ ai h=>?_) | refine cx.YU h (λJ h=>?_) (λJ ai h=>?_))
 | ((with_reducible apply j4.b'); first | refine cx.b' h (λJ h=>?_) (λJ ai h=>?_) | refine cx.YV h (λJ h=>?_) (λJ ai h=>?_))
 | ((with_reducible apply j4.rd); first | refine cx.rd ?_ | refine cx.YP ?_)
 | (with_reducible apply cx.rg)
 | (with_reducible apply cx.bJ)
 | ((with_reducible apply j4.bk); first
  | refine cx.Xs h (λJ h=>?_) (λJ ai h=>?_)
  | refine cx.cc h (λav h=>?_) (λav h=>?_)
  | refine cx.ce h (λav h=>?_) (λav h=>?_)
  | refine cx.SO ?_
  | refine cx.SN ?_)
 | ((with_reducible apply j4.Jr); refine cx.Jr h (λJ h=>?_) (λJ ai h=>?_))
 | (with_reducible apply cx.wI)
 | (with_reducible apply cx.cH)
 | (with_reducible apply cx.dv)
 | (with_reducible apply cx.gI)
 | ((with_reducible apply cx.Y4); first
  | (refine cx.Kh h (by (repeat' first | exact .nil | refine .z rfl rfl ?_ ?_ | exact .refl | exact .Cp | exact gY.vw | refine fG.obj ?_ | refine .f ?_ | refine .o ?_ | refine .z ?_)) (by (repeat' first | exact .nil | refine .n rfl ?_ | refine .w rfl rfl .pB ?_ | refine .w rfl rfl .pA ?_ | refine .w rfl rfl (j5.obj (by (repeat' first | exact .nil | refine .f ?_ | refine .o ?_ | refine .i ?_))) ?_)))
  | (cases h; refine cx.hS rfl (by (repeat' first | exact .nil | refine .z rfl rfl ?_ ?_ | exact .refl | exact .Cp | exact gY.vw | refine fG.obj ?_ | refine .f ?_ | refine .o ?_ | refine .z ?_)) ?_; exact ec.dF)
  | refine cx.C5 ?_)
 | (with_reducible apply ec.bJ)
 | (with_reducible apply ec.gE)
 | (with_reducible apply ec.jJ)
 | (with_reducible apply ec.cH)
 | (with_reducible apply ec.gA)
 | (with_reducible apply ec.pg)
 | ((with_reducible apply j4.Sd); refine ec.GR ?_)
 | ((with_reducible apply j4.Yr); first
  | refine ec.go h (by (repeat' first | exact .nil | refine .n rfl ?_ | refine .w rfl rfl .pB ?_ | refine .w rfl rfl .pA ?_ | refine .w rfl rfl (j5.obj (by (repeat' first | exact .nil | refine .f ?_ | refine .o ?_ | refine .i ?_))) ?_))
  | refine ec.a6 h (by (repeat' first | exact .nil | refine .n rfl ?_ | refine .w rfl rfl .pB ?_ | refine .w rfl rfl .pA ?_ | refine .w rfl rfl (j5.obj (by (repeat' first | exact .nil | refine .f ?_ | refine .o ?_ | refine .i ?_))) ?_))
  | refine ec.x2 h (by (repeat' first | exact .nil | refine .n rfl ?_ | refine .w rfl rfl .pB ?_ | refine .w rfl rfl .pA ?_ | refine .w rfl rfl (j5.obj (by (repeat' first | exact .nil | refine .f ?_ | refine .o ?_ | refine .i ?_))) ?_))
  | refine ec.jt h (by (repeat' first | exact .nil | refine .n rfl ?_ | refine .w rfl rfl .pB ?_ | refine .w rfl rfl .pA ?_ | refine .w rfl rfl (j5.obj (by (repeat' first | exact .nil | refine .f ?_ | refine .o ?_ | refine .i ?_))) ?_)))
 | ((with_reducible apply j4.Yu); refine ec.b6 h (by (repeat' first | exact .nil | refine .n rfl ?_ | refine .w rfl rfl .pB ?_ | refine .w rfl rfl .pA ?_ | refine .w rfl rfl (j5.obj (by (repeat' first | exact .nil | refine .f ?_ | refine .o ?_ | refine .i ?_))) ?_)))
 | ((with_reducible apply j4.er); first
  | refine cx.er h (λs o h=>?_) (λr ah h=>?_)
  | refine cx.f_ h (λs o h=>?_) (λr h=>?_) (λr h=>?_))
 | ((with_reducible apply j4.rg); with_reducible apply cx.rt)
 | ((with_reducible apply j4.Yq); cases h; first | exact ec.dF | exact ec.fn)
 | refine Hc h (λav h=>?_) (λav h=>?_)))):p:=h
class yL (P:Program) (N:cS) (Φ:Exit->aK->Prop) (rs:outParam (List ResultVar)) (n:outParam Nat) (outs:outParam (List (Option ab))) (res:outParam ab):Prop where p:∀ g,pS P N rs n outs res .ret g->Φ .ret g
instance:yL P N (pS P N rs n outs res) rs n outs res:=⟨λ_ h=>h⟩
instance {Ψ:aK->Prop}{Φ:Exit->aK->Prop} [h:yL P N Φ rs n outs res]:yL P N (o0 Ψ Φ) rs n outs res:=⟨λg bG=>h.p g bG⟩
instance {id:Nat}{Φ:Exit->aK->Prop} [h:yL P N Φ rs n outs res]:yL P N (lX id Φ) rs n outs res:=⟨λg bG=>h.p g bG⟩
class yK {S R gp:Type}(Φ:Exit->aK->Prop) (F:outParam (S->List (Nat × ab))) (id:outParam Nat) (X:outParam (R->List (Nat × ab))) (Y:outParam (gp->List (Nat × ab))) (o:outParam (S ⊕ (R ⊕ gp))):Prop where p:∀ g,kV F (Az id X Y) o .ret g->Φ .ret g
section
variable {S R gp:Type}{F:S->List (Nat × ab)}{id:Nat}{X:R->List (Nat × ab)}{Y:gp->List (Nat × ab)}{o:S ⊕ (R ⊕ gp)}{Φ:Exit->aK->Prop}
instance:yK (kV F (Az id X Y) o) F id X Y o:=⟨λ_ h=>h⟩
instance {Ψ:aK->Prop} [h:yK Φ F id X Y o]:yK (o0 Ψ Φ) F id X Y o:=⟨λg bG=>h.p g bG⟩
instance {i:Nat} [h:yK Φ F id X Y o]:yK (lX i Φ) F id X Y o:=⟨λg bG=>h.p g bG⟩
theorem cx.Kh {v:gp} [aY:yK Φ F id X Y o] (h:some (.inr (.inr v))=some o) (aW:nO ((Y v).map Prod.fst) (get G) (get (Y v)) (Y v)) (au:Trim true (get (Y v)) (get (Y v)) (Y v)):cx E t P N .ret G Φ:=by
 cases h;exact W.dS _ aW (W.rt λg av=>aY.p g (aE.jt au g av))
end
def YT:ResultVar->ab->Option (Nat × ab)
 | .tmp t,x=>some (t,x)
 | .cell s _,.agg cs=>some (s,.obj cs)
 | _,_=>none
def Kf:List ResultVar->List ab->List (Nat × ab)->Option (List (Nat × ab))
 | [],[],T=>some T
 | r::rs,x::xs,T=>match Kf rs xs T,YT r x with
  | some l,some p=>some (p::l)
  | _,_=>none
 | _,_,_=>none
def JX:List Nat->List (Option ab)->Option (List (Nat × ab))
 | _,[]=>some []
 | J::dY,none::l=>JX dY l
 | J::dY,some x::l=>match JX dY l with
  | some r=>some ((J,x)::r)
  | none=>none
 | _,_=>none
def YS (rs:List ResultVar) (outs:List (Option ab)) (res:ab):Option (List (Nat × ab)) :=
 match JX num outs with
 | none=>none
 | some T=>match rs,res with
  | [r],x=>Kf [r] [x] T
  | rs,.bQ xs=>Kf rs xs T
  | _,_=>none
theorem gY.vw {x y:ab} [aA:b4 x] [hv:iS x y]:gY x y:=.oP aA.bl (hv.v _)
inductive qB {α:Type}(en:bz α):Option Nat->ab->ab->Prop
 | w {D8:bz α}{L:List α} [h:iS (ao D8 L) (ak en L)]:qB en none (ao D8 L) (ak en L)
 | n [h:iS .aQ (ak en ([]:List α))]:qB en none .aQ (ak en ([]:List α))
 | c {i:Nat}{cs cs':List ab}{x y:ab}(j:cs[i]?=some x) (h:qB en none x y) (he:oX cs i [y]=some cs'):qB en (some i) (.obj cs) (.obj cs')
theorem qB.one {α:Type}{en:bz α}{x y:ab}(h:qB en none x y):gY x y/\mW y:=by
 cases h with
 | @w D8 L h=>exact ⟨.oP (.own (pJ D8 L)) (h.v _),⟨by intro _ _ _ _ _ e; cases e⟩⟩
 | @n h=>exact ⟨.oP .aQ (h.v _),⟨by intro _ _ _ _ _ e; cases e⟩⟩
theorem qB.dS {α:Type}{en:bz α}{i:Option Nat}{x y:ab}(h:qB en i x y):gY x y/\mW y:=by
 cases h with
 | w=>exact qB.one .w
 | n=>exact qB.one .n
 | @c i cs cs' x y j h he =>
  obtain ⟨h1,af⟩:=lG he;subst h1;refine ⟨.obj (by simp [eK] at af ⊢; omega) λk a b aR av=>?_,⟨by simp⟩⟩;unfold eK at av;simp only [List.length_singleton] at af av;by_cases hk:k<i
  ·rw [List.append_assoc,List.getElem?_append_left (by simp; omega),List.getElem?_take,if_pos hk,aR] at av;cases av; exact .refl
  ·by_cases fK:k=i
   ·subst fK;rw [List.append_assoc,List.getElem?_append_right (by rw [List.length_take]; exact Nat.min_le_left _ _),List.length_take,Nat.min_eq_left (by omega),Nat.sub_self] at av;simp at av;subst av;rw [j] at aR; cases aR;exact h.one.1
   ·rw [List.getElem?_append_right (by simp; omega)] at av;simp only [List.length_append,List.length_take,List.length_singleton,List.getElem?_drop] at av;rw [show i+1+(k - (min i cs.length+1))=k by omega,aR] at av;cases av; exact .refl
theorem J9 {g g2:aK}{s:Nat}:∀ {ks:List Nat}{G1:List (Nat × ab)},pick g ks=some G1->(ks.all λk=>![s].elem k)=true->(∀ e∈G1,cE e.2)->nO [s] g g2 G1
 | [],_,h,_,_=>by cases h; exact .nil
 | k::ks,G1,h,he,aA=>by
  obtain ⟨x,l,j,aj,rfl⟩:=CY h;rw [List.all_cons,Bool.and_eq_true] at he;have:b4 x:=⟨aA (k,x) (by simp)⟩;exact .n (by simpa using he.1) j (J9 aj he.2 λe h=>aA e (by simp [h]))
def Xq (id:Nat):Code->Bool
 | .seq (.region k _ _) _=>Nat.beq k id
 | .region k _ _=>Nat.beq k id
 | _=>false
theorem cx.dS {α:Type}{en:bz α}{id s:Nat}{i:Option Nat}{B:Code}{Φ:Exit->aK->Prop}{x y:ab}{ks:List Nat}{ic:List (Nat × ab)}(ay:get G s=some x) (al:qB en i x y) (hk:sS [s] G=some ks) (au:pick (get G) ks=some ic) (h:cx E t P N B ((s,y)::ic) Φ) (hid:Xq id B=true:=by rfl) (cA:(ks.all λk=>![s].elem k)=true:=by rfl) [j:b4 x] [aA:iq ic]:cx E (.dS id s i en t) P N B G Φ :=
 have:=al.dS.2
 W.dS [s] (.z (by simp) ay al.dS.1 (J9 au cA aA.p)) h
theorem cx.sy {α:Type}{en:bz α}{s:Nat}{i:Option Nat}{c:Code}{Φ:Exit->aK->Prop}{x y:ab}{ks:List Nat}{ic:List (Nat × ab)}(ay:get G s=some x) (al:qB en i x y) (hk:sS [s] G=some ks) (au:pick (get G) ks=some ic) (h:cx E t P N (.loop c) ((s,y)::ic) Φ) (cA:(ks.all λk=>![s].elem k)=true:=by rfl) [j:b4 x] [aA:iq ic]:cx E (.sy s i en t) P N (.loop c) G Φ :=
 have:=al.dS.2
 W.dS [s] (.z (by simp) ay al.dS.1 (J9 au cA aA.p)) h
theorem cx.hS {Φ:Exit->aK->Prop}{G1:List (Nat × ab)} [aY:yL P N Φ rs n outs res] (c_:YS rs outs res=some G1) (aW:nO (G1.map Prod.fst) (get G) (get G1) G1) (au:ec E t .ret (pS P N rs n outs res) G1):cx E t P N .ret G Φ :=
 W.dS _ aW (W.rt λg av=>aY.p g (au g av))
def Fp:List Nat->Nat->List ab->Option (List (Nat × ab))
 | _,_,[]=>some []
 | [],_,_::_=>none
 | J::dY,k,x::l=>match Fp dY (k+1) l with
  | none=>none
  | some r=>match sV x,Nat.beq J k with
   | some y,true=>some ((J,y)::r)
   | _,_=>none
theorem OT:∀ {l:List ab}{dY:List Nat}{k:Nat}{r:List (Nat × ab)},Fp dY k l=some r->xI k l=r
 | [],dY,k,r,h=>by cases dY <;> (cases h; rfl)
 | x::l,[],k,r,h=>by cases h
 | x::l,J::dY,k,r,h=>by
  unfold Fp at h
  split at h
  ·cases h
  ·rename_i ck ah
   split at h
   ·rename_i y al ai;cases h; rw [<- OT ah,<- vM al,Nat.eq_of_beq_eq_true ai]; rfl
   ·cases h
def lits:List Nat:=[0,1,2,3,4,5,6,7,8,9,10,11,12]
theorem b1.bI {f:FuncId}{fn:Func}{c:Code}{args:List ab}{outs:List (Option ab)}{res:ab}(E:List Nat) (t:lk) (aS:P.funcs[f]?=some fn) (av:fn.body=some c) (a_:fn.ntmps=N.size) (aR:Nat.ble args.length N.size=true) (hlen:outs.length=args.length) (c_:Fp lits 0 args=some G) (hw:cx E t P N c G (pS P N fn.results.toList args.length outs res)):b1 P f args outs res:=b1.go aS av a_ aR hlen (W.fin (by rw [OT c_]; exact hw))
end
end Go.Own
namespace Go.Own
open Go
set_option linter.unusedSectionVars false
variable [cI]
section
variable {P:Program}{N:cS}{ops:Array Oper}{a':List (List Nat)}{acc:Acc}{l:List Oper}{K:aK->Prop}{i d:Nat}
theorem bE.LV (bw:Nat) {G G2:List (Nat × ab)}{o:Oper}{x:ab}(he:iE P N (c3 (get G) (λm=>(a'.getD bw []).contains m) acc) o (cK (get G2) d x)) (aN:o.guard=none) (gw:Co (acc.filterMap jV)=true) (fB:lY G=true) (ai:Nat.beq ops.size (bw+l.length+1)=true)
  (fy:acc.filter (λe=>!(a'.getD bw []).contains e.1)=[])
  (av:(List.range ops.size).all (λk=>Nat.ble k bw||(a'.getD k []).contains bw)=true) (hk:bE P N ops a' (get ((d,x)::G2)) (bw+1) [] l K):bE P N ops a' (get G) i acc (o::l) K :=
 .mE bw (sz ▸ he) aN gw fB ai fy av hk
end
end Go.Own
namespace Go.Own
open Go Go.Proofs Go.Shelf Go.Lib Go.Sort
set_option linter.unusedSectionVars false
variable [cI]
def A1:Nat->Nat->List UInt8
 | 0,_=>[]
 | k+1,u=>if u<10 then [UInt8.ofNat (48+u)] else A1 k (u / 10)++[UInt8.ofNat (48+u % 10)]
omit [cI] in
theorem Hl:∀ (k u:Nat),u<10 ^ k->0<k->A1 k u=decDigits u
 | 0,_,_,h=>absurd h (by omega)
 | k+1,u,h,_=>by
  rw [A1,decDigits];by_cases hu:u<10
  ·rw [if_pos hu,dif_pos hu]
  ·rw [if_neg hu,dif_neg hu];have hk:0<k:=by
    rcases Nat.eq_zero_or_pos k with rfl | hk
    ·simp at h; omega
    ·exact hk
   rw [Hl k (u / 10) (by rw [Nat.pow_succ] at h; omega) hk]
def mP (n:Int):List UInt8:=if n<0 then 45::A1 20 n.natAbs else A1 20 n.toNat
omit [cI] in
theorem Jg {n:Int}(h:-9223372036854775808<=n/\n<=9223372036854775807):mP n=Lib.itoa n:=by
 unfold mP Lib.itoa;split
 ·rw [Hl 20 _ (by omega) (by omega)]
 ·rw [Hl 20 _ (by omega) (by omega)]
def sR (n:Int):Option ByteArray:=if -9223372036854775808<=n/\n<=9223372036854775807 then some ⟨(mP n).toArray⟩ else none
theorem TO {w:World}{k:Nat}{os:Array Obj}{U:a8}:Fr w (grow (w.drewN k) os) U:=by
 refine ⟨rfl,rfl,rfl,?_,λc aa _=>?_,λa aR _=>?_,Nat.le_add_right _ _⟩
 ·rw [size_grow]; exact Nat.le_add_right _ _
 ·exact heap_grow_old _ _ aa
 ·exact (frozen?_grow (w.drewN k) os a aR).trans rfl
theorem b1.plain {P:Program}{f:FuncId}{args:List ab}{r:Value}(ah:r.oneCell'=true)
  (h:∀ (w:World) (I:a8) (vs:List Value) (Fs:Nat->a8),vs.length=args.length->cF w I vs.toArray (pf args) Fs->Calls P f vs.toArray w λe w'=>e=.returned r/\∃ k os,w'=grow (w.drewN k) os) :
  b1 P f args (args.map λ_=>none) (.lit r):=by
 refine ⟨by simp,λw I vs Fs aj bn=>?_⟩;refine (h w I vs Fs aj bn).mono ?_;rintro e w' ⟨rfl,k,os,rfl⟩;have aS:Fr w (grow (w.drewN k) os) (λ_=>False):=TO;have oJ:∀ t x,lZ (args.map λ_=>none) (.lit r) t=some x->t=args.length/\x=.lit r:=by
  intro t x j;unfold lZ at j
  split at j
  ·rename_i aq; cases j; exact ⟨by simpa using aq,rfl⟩
  ·rw [List.getElem?_map] at j;cases aR:args[t]? with
   | none=>rw [aR] at j; cases j
   | some y=>rw [aR] at j; cases j
 refine ⟨r,I,λ_=>ct,rfl,⟨λt x j=>?_,λ_ _ _ h=>h,λ_ _ _ h=>h.elim,λ_ _ h=>h.elim,λc aa=>Nat.lt_of_lt_of_le (bn.lt c aa) aS.size,λt t' z p n m new bs ch bh cQ h1 _=>?_,cI.keep bn.hV (λc aa=>aS.block c (bn.lt c aa) λh=>h) λ_ h=>h⟩,⟨aS.mono λ_ _ h=>h.elim,λ_ h=>h,λ_ h=>.inl h,λ_ ⟨_,h⟩=>h.elim⟩⟩
 ·obtain ⟨rfl,rfl⟩:=oJ t x j;exact ⟨r,by rw [List.getElem?_toArray,<- aj]; simp,.tree (.lit ah λ_ h=>h)⟩
 ·have:=(oJ t _ h1).2;cases this
theorem b1.itoa {P : Program} {ρ : Ren} (L : LaysM.n171 P ρ) (aq : ∀ (w : World) (I : a8), cI.q w I -> Lib.TabIs P w "internal/strconv.uint64pow10" .u64 Lib.pow10Tab) {n : Int} {r : ByteArray} (h : sR n = some r) : b1 P (ρ.f 171) [ae n] [none] (aw r) := by
 unfold sR at h
 split at h <;> cases h
 rename_i aA;rw [Jg aA];refine b1.plain (args:=[ae n]) rfl λw I vs Fs aj bn=>?_
 match vs,aj with
 | [v0],_ =>
 obtain ⟨Qt,BU,fP⟩:=bn.rel 0 _ rfl;cases BU;have hv:=(fP.hd (by simp)).h'.1;subst hv;exact Any.strconv_Itoa L n aA.1 aA.2 w (aq w I bn.hV)
end Go.Own
namespace Go.Proofs
open Tryz
open Go Go.Shelf Go.RowKit Go.Lib Go.Own
def Tryz.Oy:Go.Shelf.Ren:=⟨fun | 169=>21 | n=>n,fun | 70=>72 | 9=>9 | 0=>0 | 72=>74 | 37=>60 | 127=>98 | 3=>3 | 5=>5 | n=>n,fun | n=>n⟩
theorem Tryz.Xx:Go.Proofs.Lays.n169 prog Tryz.Oy:={
 mixed:=by kernel_rfl
 f169:=func21.trans (congrArg some (by kernel_rfl))
 t0:=Tryz.underlying0
 a0:=Tryz.isAgg0
 z0:=Tryz.sizeOf0
 v0:=Tryz.zeroValue0
 t3:=Tryz.underlying3
 a3:=Tryz.isAgg3
 z3:=Tryz.sizeOf3
 v3:=Tryz.zeroValue3
 t9:=Tryz.underlying9
 a9:=Tryz.isAgg9
 z9:=Tryz.sizeOf9
 v9:=Tryz.zeroValue9
 t37:=Tryz.underlying60
 a37:=Tryz.isAgg60
 z37:=Tryz.sizeOf60
 v37:=Tryz.zeroValue60
 t70:=Tryz.underlying72
 a70:=Tryz.isAgg72
 z70:=Tryz.sizeOf72
 v70:=Tryz.zeroValue72
 t72:=Tryz.underlying74
 a72:=Tryz.isAgg74
 z72:=Tryz.sizeOf74
 v72:=Tryz.zeroValue74
 t127:=Tryz.underlying98
 a127:=Tryz.isAgg98
 z127:=Tryz.sizeOf98
 v127:=Tryz.zeroValue98 }
def Tryz.Xz:Go.Shelf.Ren:=⟨fun | 171=>20 | 243=>36 | 246=>48 | 283=>62 | 284=>63 | 285=>64 | 286=>65 | 129=>77 | 317=>76 | 318=>78 | 319=>79 | 320=>80 | 337=>97 | 338=>98 | n=>n,fun | 3=>3 | 9=>9 | 2=>2 | 4=>4 | 171=>151 | 0=>0 | 53=>97 | 37=>60 | 5=>5 | 173=>154 | 212=>182 | 51=>183 | 20=>20 | 213=>184 | 46=>186 | 232=>223 | 233=>224 | n=>n,fun | 17=>0 | 18=>1 | 19=>2 | n=>n⟩
theorem Tryz.Xy:Go.Proofs.LaysM.n171 prog Tryz.Xz:={
 mixed:=by kernel_rfl
 f129:=func77.trans (congrArg some (by kernel_rfl))
 f171:=func20.trans (congrArg some (by kernel_rfl))
 f243:=func36.trans (congrArg some (by kernel_rfl))
 f246:=func48.trans (congrArg some (by kernel_rfl))
 f283:=func62.trans (congrArg some (by kernel_rfl))
 f284:=func63.trans (congrArg some (by kernel_rfl))
 f285:=func64.trans (congrArg some (by kernel_rfl))
 f286:=func65.trans (congrArg some (by kernel_rfl))
 f317:=func76.trans (congrArg some (by kernel_rfl))
 f318:=func78.trans (congrArg some (by kernel_rfl))
 f319:=func79.trans (congrArg some (by kernel_rfl))
 f320:=func80.trans (congrArg some (by kernel_rfl))
 f337:=func97.trans (congrArg some (by kernel_rfl))
 f338:=func98.trans (congrArg some (by kernel_rfl))
 t0:=Tryz.underlying0
 a0:=Tryz.isAgg0
 z0:=Tryz.sizeOf0
 v0:=Tryz.zeroValue0
 t2:=Tryz.underlying2
 a2:=Tryz.isAgg2
 z2:=Tryz.sizeOf2
 v2:=Tryz.zeroValue2
 t3:=Tryz.underlying3
 a3:=Tryz.isAgg3
 z3:=Tryz.sizeOf3
 v3:=Tryz.zeroValue3
 t4:=Tryz.underlying4
 a4:=Tryz.isAgg4
 z4:=Tryz.sizeOf4
 v4:=Tryz.zeroValue4
 t5:=Tryz.underlying5
 a5:=Tryz.isAgg5
 z5:=Tryz.sizeOf5
 v5:=Tryz.zeroValue5
 t9:=Tryz.underlying9
 a9:=Tryz.isAgg9
 z9:=Tryz.sizeOf9
 v9:=Tryz.zeroValue9
 t20:=Tryz.underlying20
 a20:=Tryz.isAgg20
 z20:=Tryz.sizeOf20
 v20:=Tryz.zeroValue20
 t37:=Tryz.underlying60
 a37:=Tryz.isAgg60
 z37:=Tryz.sizeOf60
 v37:=Tryz.zeroValue60
 t46:=Tryz.underlying186
 a46:=Tryz.isAgg186
 z46:=Tryz.sizeOf186
 v46:=Tryz.zeroValue186
 t51:=Tryz.underlying183
 a51:=Tryz.isAgg183
 z51:=Tryz.sizeOf183
 v51:=Tryz.zeroValue183
 t53:=Tryz.underlying97
 a53:=Tryz.isAgg97
 z53:=Tryz.sizeOf97
 v53:=Tryz.zeroValue97
 t171:=Tryz.underlying151
 a171:=Tryz.isAgg151
 z171:=Tryz.sizeOf151
 v171:=Tryz.zeroValue151
 t173:=Tryz.underlying154
 a173:=Tryz.isAgg154
 z173:=Tryz.sizeOf154
 v173:=Tryz.zeroValue154
 t212:=Tryz.underlying182
 a212:=Tryz.isAgg182
 z212:=Tryz.sizeOf182
 v212:=Tryz.zeroValue182
 t213:=Tryz.underlying184
 a213:=Tryz.isAgg184
 z213:=Tryz.sizeOf184
 t232:=Tryz.underlying223
 a232:=Tryz.isAgg223
 z232:=Tryz.sizeOf223
 v232:=Tryz.zeroValue223
 t233:=Tryz.underlying224
 a233:=Tryz.isAgg224
 z233:=Tryz.sizeOf224
 v233:=Tryz.zeroValue224
 g17:=by kernel_rfl
 g18:=by kernel_rfl
 g19:=by kernel_rfl
 i0:=by kernel_rfl
 i2:=by kernel_rfl
 i3:=by kernel_rfl
 i4:=by kernel_rfl
 i5:=by kernel_rfl
 i9:=by kernel_rfl
 i20:=by kernel_rfl
 i37:=by kernel_rfl
 i46:=by kernel_rfl
 i51:=by kernel_rfl
 i53:=by kernel_rfl
 i171:=by kernel_rfl
 i173:=by kernel_rfl
 i212:=by kernel_rfl
 i232:=by kernel_rfl
 i233:=by kernel_rfl
 m17:=by kernel_rfl
 m18:=by kernel_rfl
 m19:=by kernel_rfl }
def Tryz.Ox:Go.Shelf.Ren:=⟨fun | 240=>35 | 276=>47 | 166=>19 | n=>n,fun | 70=>72 | 9=>9 | 3=>3 | 75=>76 | 0=>0 | 72=>74 | 37=>60 | 4=>4 | 164=>120 | 20=>20 | 80=>79 | n=>n,fun | n=>n⟩
theorem Tryz.Xw:Go.Proofs.Lays.n166 prog Tryz.Ox:={
 mixed:=by kernel_rfl
 f166:=func19.trans (congrArg some (by kernel_rfl))
 f240:=func35.trans (congrArg some (by kernel_rfl))
 f276:=func47.trans (congrArg some (by kernel_rfl))
 t0:=Tryz.underlying0
 a0:=Tryz.isAgg0
 z0:=Tryz.sizeOf0
 v0:=Tryz.zeroValue0
 t3:=Tryz.underlying3
 a3:=Tryz.isAgg3
 z3:=Tryz.sizeOf3
 v3:=Tryz.zeroValue3
 t4:=Tryz.underlying4
 a4:=Tryz.isAgg4
 z4:=Tryz.sizeOf4
 v4:=Tryz.zeroValue4
 t9:=Tryz.underlying9
 a9:=Tryz.isAgg9
 z9:=Tryz.sizeOf9
 v9:=Tryz.zeroValue9
 t20:=Tryz.underlying20
 a20:=Tryz.isAgg20
 z20:=Tryz.sizeOf20
 v20:=Tryz.zeroValue20
 t37:=Tryz.underlying60
 a37:=Tryz.isAgg60
 z37:=Tryz.sizeOf60
 v37:=Tryz.zeroValue60
 t70:=Tryz.underlying72
 a70:=Tryz.isAgg72
 z70:=Tryz.sizeOf72
 v70:=Tryz.zeroValue72
 t72:=Tryz.underlying74
 a72:=Tryz.isAgg74
 z72:=Tryz.sizeOf74
 v72:=Tryz.zeroValue74
 t75:=Tryz.underlying76
 a75:=Tryz.isAgg76
 z75:=Tryz.sizeOf76
 v75:=Tryz.zeroValue76
 t164:=Tryz.underlying120
 a164:=Tryz.isAgg120
 z164:=Tryz.sizeOf120
 v164:=Tryz.zeroValue120
}
theorem Tryz.R6:Builder.Extra prog Tryz.Ox where
 sizeBuilder:=by kernel_rfl
 liesBuilder:=by kernel_rfl
 t5:=Tryz.underlying5
 a5:=Tryz.isAgg5
 z5:=Tryz.sizeOf5
 v5:=Tryz.zeroValue5
 infoByte:=by kernel_rfl
 cellsByte:=by kernel_rfl
 sizeByte:=by kernel_rfl
 neB5:=by decide
theorem Tryz.R7:Builder.Extra prog Tryz.Oy where
 sizeBuilder:=by kernel_rfl
 liesBuilder:=by kernel_rfl
 t5:=Tryz.underlying5
 a5:=Tryz.isAgg5
 z5:=Tryz.sizeOf5
 v5:=Tryz.zeroValue5
 infoByte:=by kernel_rfl
 cellsByte:=by kernel_rfl
 sizeByte:=by kernel_rfl
 neB5:=by decide
theorem Tryz.Ky : prog.globalNamed "internal/strconv.uint64pow10" = some 0 := by kernel_rfl
instance : cI := ⟨λw I => I 0 /\ Lib.TabIs prog w "internal/strconv.uint64pow10" .u64 Lib.pow10Tab, λ{w w' I I'} h av bb => ⟨bb _ h.1, by
 have af:=h.2;unfold Lib.TabIs World.var? at af ⊢;rw [Tryz.Ky] at af ⊢;simp only [Option.bind_some] at af ⊢;rw [av _ h.1];exact af⟩⟩
theorem Tryz.ZO (w : World) (I : a8) (h : cI.q w I) : Lib.TabIs prog w "internal/strconv.uint64pow10" .u64 Lib.pow10Tab := h.2
instance:K8 prog 74 5:={}
instance {x s y:ByteArray}:bO prog 19 (m' x s=some y) [.obj [.self (0,74),.eR 5 (strCells x)],aw s] [some (.obj [.self (0,74),.eR 5 (strCells y)]),none] (.bQ [ae s.size,.lit .nilIface]):=⟨b1.mE Tryz.Xw Tryz.R6⟩
instance {x y:ByteArray}:bO prog 21 (wJ x=some y) [.obj [.self (0,74),.eR 5 (strCells x)]] [some (.obj [.self (0,74),.dead])] (aw y):=⟨b1.dq Tryz.Xx Tryz.R7⟩
instance {n:Int}{r:ByteArray}:bO prog 20 (sR n=some r) [ae n] [none] (aw r):=⟨b1.itoa (P:=prog) Tryz.Xy Tryz.ZO⟩
end Go.Proofs
