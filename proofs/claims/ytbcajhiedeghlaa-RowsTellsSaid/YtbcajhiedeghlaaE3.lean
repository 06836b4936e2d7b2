/-
  What is proved here: parts of the proof that the last text states: rules for walks through code, and of this program's functions what they answer. No condition of their own.
-/
import Derived.ChangeAt
import Derived.ChangeOld
import Derived.ChangeSame
import Derived.Deep.Draws
import Derived.Deep.LoopGhost
import Derived.Deep.Slices
import Derived.KernelRfl
import Derived.Laws.CopyRow
import Derived.Lib.SliceRun
import Derived.Lib.SlicesCompact
import Derived.Lib.Walk
import Derived.Maps.OwnIn
import Derived.ReadAgain
import Derived.RowKit3
import Derived.Shelf.RegionOpenPlain
import Derived.Shelf.SlLaysQ
import Derived.Shelf.SlSortCmp.NoneTotal
import Derived.Shelf.SlicesE.Kit
import Derived.Shelf.SlicesQ.Load
import Derived.Sort.WalkB12
import Derived.StringKeys
import Derived.Test.YtbcajhiedeghlaaRows
import Derived.WalkKit
import Derived.WideShapes
import Derived.Test.YtbcajhiedeghlaaE2
namespace Go.Own
open Go Go.RowKit Go.ChangeShapes Go.WideShapes Go.Deep
variable {α β Io:Type}{P:Program}
abbrev sh (w:World) (y:aj) (u:Value):Prop:=R w (λb=>b<w.heap.size) (λ_ _=>False) y u (λ_=>False)
def lV (w:World) (ys:List aj) (cs:List Value):Prop :=
 ys.length=cs.length/\∀ (k:Nat) (y:aj) (u:Value),ys[k]?=some y->cs[k]?=some u->u.oneCell'=true/\sh w y u
theorem lV.nil {w:World}:lV w [] []:=⟨rfl,λ_ _ _ h=>by simp at h⟩
theorem lV.one {w:World}{y:aj}{u:Value}(h1:u.oneCell'=true) (h:sh w y u):lV w [y] [u] :=
 ⟨rfl,λk y' tc az hu=>by
  cases k with
  | zero=>simp at az hu; subst az hu; exact ⟨h1,h⟩
  | succ k=>simp at az⟩
theorem lV.app {w:World}{ys wI:List aj}{cs jL:List Value}(h:lV w ys cs) (al:lV w wI jL):lV w (ys++wI) (cs++jL):=by
 refine ⟨by simp [h.1,al.1],λk y u az hu=>?_⟩
 by_cases hk:k<ys.length
 ·rw [List.getElem?_append_left hk] at az
  rw [List.getElem?_append_left (h.1 ▸ hk)] at hu
  exact h.2 k y u az hu
 ·rw [List.getElem?_append_right (by omega)] at az
  rw [List.getElem?_append_right (by have:=h.1; omega),<- h.1] at hu
  exact al.2 _ y u az hu
structure ih (P:Program) (e:cD α) (t:TypeId) (ok:α->Prop):Prop where
 z:P.cellsOf t=e.z
 go:∀ {H:Type}{enc:TypeId × Value->H}{w:World}{n:Nat}{cs:List Value}{x:DataW H × List MemPlace},
  DataW.trod enc P w 0 (λ_=>true) true n t cs=some x->∃ a,ok a/\lV w (e.cells a) cs
theorem ih.int {e:cD Int}{t:TypeId}{k:IntKind}(aE:P.underlying t=some (.int k)) (bJ:P.cellsOf t=e.z) (he:∀ n,e.cells n=[.lit (.int k n)]) :
  ih P e t (λn=>(Lit.int k n).wf=true):=by
 refine ⟨bJ,λh=>?_⟩
 obtain ⟨n,rfl,_,hw⟩:=DataW.trod_int aE h
 exact ⟨n,hw,he n ▸ lV.one rfl (.lit rfl λ_ h=>h)⟩
theorem ih.bool {e:cD Bool}{t:TypeId}(aE:P.underlying t=some .bool) (bJ:P.cellsOf t=e.z) (he:∀ n,e.cells n=[.lit (.bool n)]) :
  ih P e t (λ_=>True):=by
 refine ⟨bJ,λh=>?_⟩
 obtain ⟨n,rfl,_⟩:=DataW.trod_bool aE h
 exact ⟨n,trivial,he n ▸ lV.one rfl (.lit rfl λ_ h=>h)⟩
theorem ih.str {e:cD ByteArray}{t:TypeId}(aE:P.underlying t=some .string) (bJ:P.cellsOf t=e.z) (he:∀ n,e.cells n=[.lit (.string n)]) :
  ih P e t (λs=>s.size<=maxLen):=by
 refine ⟨bJ,λh=>?_⟩
 obtain ⟨n,rfl,_,hw⟩:=DataW.trod_string aE h
 exact ⟨n,hw,he n ▸ lV.one rfl (.lit rfl λ_ h=>h)⟩
theorem Ml (e:cD α) (bJ:0<e.z):∀ (l:List α) (k:Nat) (y:aj),(ch e l)[k]?=some y->∃ a,l[k / e.z]?=some a/\(e.cells a)[k % e.z]?=some y
 | [],k,y,h=>by simp [ch] at h
 | a::l,k,y,h=>by
  have he:ch e (a::l)=e.cells a++ch e l:=by simp [ch]
  rw [he] at h
  by_cases hk:k<e.z
  ·rw [List.getElem?_append_left (by rw [e.len]; exact hk)] at h
   exact ⟨a,by simp [Nat.div_eq_of_lt hk],by rw [Nat.mod_eq_of_lt hk]; exact h⟩
  ·rw [List.getElem?_append_right (by rw [e.len]; omega),e.len] at h
   obtain ⟨b,h1,al⟩:=Ml e bJ l (k - e.z) y h
   have aY:k / e.z=(k - e.z) / e.z+1:=by rw [Nat.div_eq_sub_div bJ (by omega)]
   refine ⟨b,by rw [aY]; simpa using h1,?_⟩
   rw [Nat.mod_eq_sub_mod (by omega)]; exact al
theorem ih.slice {e:cD α}{t DV:TypeId}{ok:α->Prop}(h:ih P e DV ok) (aE:P.underlying t=some (.slice DV)) (bJ:P.cellsOf t=1) (ub:0<e.z) :
  ih P (bb e) t (λl=>l.length<=maxLen/\∀ x∈l,ok x):=by
 classical
 refine ⟨bJ,λ{H enc w n cs x} ay=>?_⟩
 rcases open_slice aE ay with ⟨rfl,rfl⟩ | ⟨a,len,cap,m,cY,D,o3,rfl,aJ,ao,hm,F7,rfl,J⟩
 ·exact ⟨[],⟨by simp,by simp⟩,lV.one rfl (.hY λ_ h=>h)⟩
 ·have R8:m=cap:=by simpa using F7
  subst R8
  have hex:∀ i,i<len->∃ q:α × List Value,ok q.1/\lV w (e.cells q.1) q.2/\w.cells? 0 (a.add (i * P.cellsOf DV)) (P.cellsOf DV)=some q.2:=λi hi=>by
   obtain ⟨cs',h1,al⟩:=J i (by omega)
   obtain ⟨b,db,cP⟩:=h.go al
   exact ⟨(b,cs'),db,cP,h1⟩
  by_cases bd:len=0
  ·subst bd
   exact ⟨[],⟨by simp,by simp⟩,lV.one rfl (.hY λ_ h=>h)⟩
  ·obtain ⟨wj,_⟩:=hex 0 (by omega)
   haveI:Inhabited (α × List Value):=⟨wj⟩
   obtain ⟨f,bn⟩:=choose_lt hex
   have hlen:((List.range len).map λi=>(f i).1).length=len:=by simp
   have ph:∀ (i:Nat) (b:α),((List.range len).map λi=>(f i).1)[i]?=some b->i<len/\b=(f i).1:=λi b hi=>by
    have bg:=(List.getElem?_eq_some_iff.1 hi).1
    simp at bg
    simp [bg] at hi
    exact ⟨bg,hi.symm⟩
   have k_:a.spot=none/\a.block<w.heap.size:=by
    obtain ⟨_,_,aP⟩:=bn 0 (by omega)
    obtain ⟨_,F3,dF⟩:=World.cells?_some aP
    have e0:=dF 0 (by rw [h.z]; exact ub)
    simp only [Nat.zero_mul,Addr.add,if_true] at e0
    have:0<(f 0).2.length:=by rw [F3,h.z]; exact ub
    rw [List.getElem?_eq_getElem this] at e0
    unfold World.cell? at e0
    split at e0
    ·rename_i b6
     refine ⟨?_,(Array.getElem?_eq_some_iff.1 b6).1⟩
     cases aM:a.spot with
     | none=>rfl
     | some s=>simp [aM] at e0
    ·cases e0
   have key:∀ (k:Nat) (y:aj),(ch e ((List.range len).map λi=>(f i).1))[k]?=some y->∃ u,w.cell? ⟨a.block,a.off+k,none⟩=some u/\u.oneCell'=true/\sh w y u:=λk y hk=>by
    obtain ⟨b,db,cP⟩:=Ml e ub _ k y hk
    obtain ⟨hi,rfl⟩:=ph _ _ db
    obtain ⟨_,al,aP⟩:=bn _ hi
    obtain ⟨_,F3,dF⟩:=World.cells?_some aP
    have K7:k % e.z<e.z:=Nat.mod_lt _ ub
    have e0:=dF (k % e.z) (by rw [h.z]; exact K7)
    rw [Deep.add_add,h.z] at e0
    have gO:k / e.z * e.z+k % e.z=k:=by rw [Nat.mul_comm]; exact Nat.div_add_mod k e.z
    rw [gO] at e0
    have bg:k % e.z<(f (k / e.z)).2.length:=by rw [F3,h.z]; exact K7
    rw [List.getElem?_eq_getElem bg] at e0
    have bm:a.add k=⟨a.block,a.off+k,none⟩:=by
     unfold Addr.add
     split
     ·rename_i Qd; subst Qd; cases a; simp at k_ ⊢; exact k_.1
     ·rfl
    rw [bm] at e0
    exact ⟨_,e0,al.2 _ _ _ cP (List.getElem?_eq_getElem bg)⟩
   refine ⟨(List.range len).map λi=>(f i).1,⟨by rw [hlen]; omega,λy az=>?_⟩,lV.one rfl ?_⟩
   ·obtain ⟨i,hi,rfl⟩:=List.mem_map.1 az
    exact (bn i (List.mem_range.1 hi)).1
   ·show sh w (.aF e.z _ _) _
    rw [hlen]
    refine .aF (us:=λk=>(w.cell? ⟨a.block,a.off+k,none⟩).getD .nilFunc) (λ_ h=>h) ao k_.2 k_.1 (by rw [ob,hlen]) (λk y hk=>?_) (λk y hk=>?_) (λk y hk=>?_)
    ·obtain ⟨u,h1,al,aP⟩:=key k y hk
     simp only [h1,Option.getD_some]; exact al
    ·obtain ⟨u,h1,al,aP⟩:=key k y hk
     simp only [h1,Option.getD_some]
    ·obtain ⟨u,h1,al,aP⟩:=key k y hk
     simp only [h1,Option.getD_some]; exact aP
def zy (P:Program):Nat->List Field->List TypeId->Bool
 | _,[],[]=>true
 | off,f::fs,t::ts=>decide (f.type=t)&&decide (f.offset=off)&&zy P (off+P.cellsOf t) fs ts
 | _,_,_=>false
def yx (P:Program) (t:TypeId) (ts:List TypeId):Bool :=
 match P.underlying t with
 | some (.struct fs)=>zy P 0 fs.toList ts&&decide (P.cellsOf t=(ts.map P.cellsOf).sum)
 | _=>false
structure wM (P:Program) (cells:β->List aj) (ts:List TypeId) (ok:β->Prop):Prop where
 go:∀ {H:Type}{enc:TypeId × Value->H}{w:World}{n:Nat}{cs:List Value}{fs:List Field}{off:Nat},zy P off fs ts=true->cs.length=off+(ts.map P.cellsOf).sum ->
  (∀ (i:Nat) (f:Field),fs[i]?=some f->∃ x,DataW.trod enc P w 0 (λ_=>true) true n f.type ((cs.drop f.offset).take (P.cellsOf f.type))=some x) ->
  ∃ b,ok b/\lV w (cells b) (cs.drop off)
theorem wM.nil:wM P (λ_:Unit=>[]) [] (λ_=>True) :=
 ⟨λ{H enc w n cs fs off} _ ao _=>⟨(),trivial,by rw [List.drop_eq_nil_of_le (by simp at ao; omega)]; exact lV.nil⟩⟩
theorem wM.cons {e:cD α}{t:TypeId}{ts:List TypeId}{ok:α->Prop}{cells:β->List aj}{L1:β->Prop}(h:ih P e t ok) (ao:wM P cells ts L1) :
  wM P (λp:α × β=>e.cells p.1++cells p.2) (t::ts) (λp=>ok p.1/\L1 p.2):=by
 refine ⟨λ{H enc w n cs fs off} iC hlen ay=>?_⟩
 cases fs with
 | nil=>simp [zy] at iC
 | cons f fs =>
  simp only [zy,Bool.and_eq_true,decide_eq_true_eq] at iC
  obtain ⟨⟨rfl,rfl⟩,iC⟩:=iC
  obtain ⟨x,J⟩:=ay 0 f rfl
  obtain ⟨a,bm,bj⟩:=h.go J
  obtain ⟨b,aJ,Q0⟩:=ao.go (off:=f.offset+P.cellsOf f.type) (cs:=cs) iC (by rw [hlen]; simp [Nat.add_assoc]) (λi PY tU=>ay (i+1) PY (by simpa using tU))
  refine ⟨(a,b),⟨bm,aJ⟩,?_⟩
  have:cs.drop f.offset=(cs.drop f.offset).take (P.cellsOf f.type)++cs.drop (f.offset+P.cellsOf f.type):=by
   rw [<- List.drop_drop]; exact (List.take_append_drop _ _).symm
  rw [this]
  exact bj.app Q0
theorem ih.struct {e:cD Io}{t:TypeId}{ts:List TypeId}{cells:β->List aj}{ok:β->Prop}(h:wM P cells ts ok) (mk:β->Io) (un:Io->β) (Ll:∀ b,un (mk b)=b) (ab:∀ b,e.cells (mk b)=cells b) (aE:yx P t ts=true) (bJ:P.cellsOf t=e.z) :
  ih P e t (λs=>ok (un s)):=by
 refine ⟨bJ,λ{H enc w n cs x} ay=>?_⟩
 unfold yx at aE
 split at aE
 ·rename_i fs hu
  simp only [Bool.and_eq_true,decide_eq_true_eq] at aE
  obtain ⟨xs,cY,rfl,rfl,ao,GB,J⟩:=DataW.trod_struct hu ay
  obtain ⟨b,aJ,bj⟩:=h.go (w:=w) (off:=0) (cs:=cs) (fs:=fs.toList) (n:=cY) (enc:=enc) aE.1 (by rw [ao,aE.2]; simp) (λi f bn=>by
   have tU:fs[i]?=some f:=by simpa using bn
   have hi:i<xs.length:=by rw [GB]; exact (Array.getElem?_eq_some_iff.1 tU).1
   exact ⟨xs[i],by rw [J i f tU,List.getElem?_eq_getElem hi]⟩)
  exact ⟨mk b,by rw [Ll]; exact aJ,by rw [ab]; simpa using bj⟩
 ·cases aE
inductive BQ (w:World):aj->Value->Prop
 | mk {y:aj}{v:Value}(h:sh w y v):BQ w y v
theorem ih.one {e:cD α}{t:TypeId}{ok:α->Prop}{g:α->aj}(h:ih P e t ok) (he:∀ a,e.cells a=[g a]) {H:Type}{enc:TypeId × Value->H}{w:World}{v:Value}{d:DataW H}{p:List MemPlace}(hv:v.cells.toList=[v])
  (aE:DataW.Trod enc P w 0 (λ_=>true) true t v d p):∃ a,ok a/\BQ w (g a) v:=by
 obtain ⟨n,aL⟩:=aE
 obtain ⟨a,bm,bj⟩:=h.go aL
 refine ⟨a,bm,.mk ?_⟩
 rw [hv,he] at bj
 exact (bj.2 0 _ _ rfl rfl).2
theorem ih.L2 {e:cD α}{t:TypeId}{ok:α->Prop}{ts:List TypeId}(h:ih P e t ok) (iC:yx P t ts=true) {H:Type}{enc:TypeId × Value->H}{w:World}{v:Value}{d:DataW H}{p:List MemPlace}{base:Nat}(hv:Value.okWide P w .any base t v)
  (aE:DataW.Trod enc P w 0 (λ_=>true) true t v d p):∃ a,ok a/\BQ w (.agg (e.cells a)) v:=by
 have hu:∃ fs,P.underlying t=some (.struct fs):=by
  unfold yx at iC
  split at iC
  ·exact ⟨_,by assumption⟩
  ·cases iC
 obtain ⟨fs,hu⟩:=hu
 obtain ⟨cs,rfl,hF⟩:=okWide_struct hu hv
 obtain ⟨n,aL⟩:=aE
 obtain ⟨a,bm,bj⟩:=h.go aL
 refine ⟨a,bm,.mk ?_⟩
 have jv:lV w (e.cells a) cs.toList:=bj
 refine .agg (Fs:=λ_ _=>False) (by simpa using jv.1) (λk u hu=>?_) (λk x u J hu=>(jv.2 k x u J (by simpa using hu)).2) (λ_ _ _ _ _ h=>h.elim) (λc=>⟨λh=>h.elim,λ⟨_,_,h⟩=>h⟩)
 have hk:k<(e.cells a).length:=by rw [jv.1]; simpa using (Array.getElem?_eq_some_iff.1 hu).1
 exact (jv.2 k _ u (List.getElem?_eq_getElem hk) (by simpa using hu)).1
inductive tj (w:World):List aj->List Value->Prop
 | nil:tj w [] []
 | cons {y:aj}{v:Value}{ys:List aj}{vs:List Value}(h:BQ w y v) (aM:tj w ys vs):tj w (y::ys) (v::vs)
theorem tj.get {w:World}{ys:List aj}{vs:List Value}(h:tj w ys vs):ys.length=vs.length/\∀ (k:Nat) (y:aj),ys[k]?=some y->∃ v,vs[k]?=some v/\sh w y v:=by
 induction h with
 | nil=>exact ⟨rfl,λk y h=>by simp at h⟩
 | cons h _ aR =>
  refine ⟨by simp [aR.1],λk y az=>?_⟩
  cases k with
  | zero =>
   simp at az; subst az
   obtain ⟨h⟩:=h
   exact ⟨_,rfl,h⟩
  | succ k=>simpa using aR.2 k y (by simpa using az)
theorem tj.UD {w:World}{ys:List aj}{vs:List Value}(h:tj w ys vs) (aH:ys.all (λy=>match y with | .bR ..=>false | _=>true)=true) :
  c_ w (λb=>b<w.heap.size) vs.toArray (o9 ys) (λ_=>cW):=by
 refine ⟨λt x J=>?_,λ_ _ _ h=>h,λ_ _ _ h=>h.elim,λ_ _ h=>h.elim,λ_ h=>h,λt ds z p n m new cN cY m' dq h1 _=>?_⟩
 ·obtain ⟨v,hv,bj⟩:=h.get.2 t x J
  exact ⟨v,by simpa using hv,.tree (bj.frame (λ_ _=>rfl) (λ_ h=>h) (λ_ _ h=>h.elim) (λ_ _=>rfl))⟩
 ·have:=List.all_eq_true.1 aH _ (List.mem_of_getElem? h1)
  cases this
structure Is (w w':World):Prop where
 kept:∀ may:MemPlace->Prop,w.keptBut w' may
 eF:∀ a,a.block<w.heap.size->w'.frozen? a=w.frozen? a
theorem b_.Vh {f:FuncId}{ys:List aj}{vs:List Value}{outs:List (Option aj)}{r:Value}(ab:b_ P f ys outs (.lit r)) (w:World) (h:tj w ys vs) (aH:ys.all (λy=>match y with | .bR ..=>false | _=>true)=true) :
  Calls P f vs.toArray w λe w'=>e=.returned r/\Is w w'/\∀ i:Nat,i<w.heap.size->w'.heap[i]?=w.heap[i]?:=by
 have:=ab.2 w _ vs _ h.get.1.symm (h.UD aH)
 refine this.mono ?_
 rintro e w' ⟨v,I',cp,rfl,bU,cm⟩
 obtain ⟨u,hu,bj⟩:=bU.rel outs.length (.lit r) (by simp [oR])
 have ao:outs.length=vs.length:=by rw [ab.1]; exact h.get.1
 have C6:u=v:=by
  rw [ao] at hu
  simpa using hu.symm
 subst C6
 have hv:=(bj.hM (by simp)).im.1
 subst hv
 have aJ:∀ i:Nat,i<w.heap.size->w'.heap[i]?=w.heap[i]?:=λi hi=>cm.fJ.block i hi λ⟨_,h⟩=>h
 have hk:World.keptBut w w' (λ_=>False):=⟨cm.fJ.os,cm.fJ.output,λi hi=>by
  rw [aJ i hi]
  exact (World.keptBut_refl w (λ_=>False)).2.2 i hi⟩
 exact ⟨rfl,⟨λmay=>World.keptBut_mono (λ_ f=>f.elim) hk,cm.fJ.eF⟩,aJ⟩
theorem MV {H:Type}{enc:TypeId × Value->H}{w w':World}{base:Nat}{sp:Nat->Bool}{held:Bool}(aJ:∀ i:Nat,i<w.heap.size->w'.heap[i]?=w.heap[i]?) :
  ∀ {ts:List TypeId}{vs:List Value}{jL:List (DataW H)}{ps:List MemPlace},DataW.TrodAll enc P w base sp held ts vs jL ps->DataW.TrodAll enc P w' base sp held ts vs jL ps
 | [],[],[],_,h=>h
 | _::_,_::_,_::_,_,⟨p,q,⟨n,aL⟩,al,e⟩=>by
  refine ⟨p,q,⟨n,DataW.trod_carry n _ _ _ aL λx J=>?_⟩,MV aJ al,e⟩
  have bg:=DataW.trod_lt n _ _ _ aL x J
  cases x with
  | cell b off =>
   show w'.cell? _=w.cell? _
   exact World.cell?_of_block (aJ b bg)
  | map b=>exact aJ b bg
theorem N5 {H:Type}{enc:TypeId × Value->H}{w w':World}(ao:laidOutB P=true) (hm:mapsRowed P=true)
  (bJ:((List.range P.types.size).all λt=>match P.underlying t with | some (.slice e)=>decide (0<P.cellsOf e) | _=>true)=true)
  (aJ:∀ i:Nat,i<w.heap.size->w'.heap[i]?=w.heap[i]?) {ts:List TypeId}{vs:List Value}{jL:List (DataW H)}{ps:List MemPlace}(aE:ts.all (λt=>decide (t<P.types.size))=true)
  (h:DataW.TrodAll enc P w 0 (λ_=>true) true ts vs jL ps) {sp:Nat->Bool}(k_:∀ p∈ps,sp p.block=true):DataW.TrodAll enc P w' 0 sp true ts vs jL ps :=
 (MV aJ h).respare (kids_rows ao hm) (slices_full_of P bJ) (λt h=>of_decide_eq_true (List.all_eq_true.1 aE t h)) k_
end Go.Own
namespace Go.Own
open Go
section
variable {α β:Type}{P:Program}{N:dW}{g g1:aZ}{p:Place}{m:Int}{a b:Operand}{t:TypeId}
theorem aj.I0:∀ (l:List Nat) {x nd:aj}{k:Nat}{c:aj},x.at l=some nd->nd.kids[k]?=some c->x.at (l++[k])=some c
 | [],x,nd,k,c,h,hk=>by
  simp only [aj.at,Option.some.injEq] at h
  subst h
  simp [aj.at,hk]
 | af::l,x,nd,k,c,h,hk=>by
  simp only [aj.at] at h
  cases aa:x.kids[af]? with
  | none=>rw [aa] at h; cases h
  | some y =>
   rw [aa] at h
   simp only [List.cons_append,aj.at,aa]
   exact aj.I0 l h hk
theorem aj.MA:∀ (l:List Nat) {x nd:aj}{k:Nat}{c:aj}(y:aj),x.at l=some nd->nd.kids[k]?=some c->x.setAt (l++[k]) y=x.setAt l (nd.uF k y)
 | [],x,nd,k,c,y,h,hk=>by
  simp only [aj.at,Option.some.injEq] at h
  subst h
  simp [aj.setAt,hk]
 | af::l,x,nd,k,c,y,h,hk=>by
  simp only [aj.at] at h
  cases aa:x.kids[af]? with
  | none=>rw [aa] at h; cases h
  | some z =>
   rw [aa] at h
   simp only [List.cons_append,aj.setAt,aa]
   rw [aj.MA l y h hk]
theorem JQ {en:cD α}{L:List α}{kA:α}{o:Nat}{c:aj}(h:idx L m=some kA) (ab:(en.cells kA)[o]?=some c):(ak en L).kids[m.toNat * en.z+o]?=some c:=Mj en h ab
theorem tw {en:cD α}{L:List α}{kA:α}{r o:Nat}{path:List Nat}{c:aj}(aH:b7 g ⟨r,path⟩=some (ak en L)) (h:idx L m=some kA) (ab:(en.cells kA)[o]?=some c):b7 g ⟨r,path++[m.toNat * en.z+o]⟩=some c:=by
 unfold b7 at aH ⊢
 simp only at aH ⊢
 cases J:g r with
 | none=>rw [J] at aH; cases aH
 | some x =>
  rw [J] at aH
  exact aj.I0 path aH (JQ h ab)
theorem Uw {en:cD α}{L:List α}{kA:α}{r o:Nat}{path:List Nat}{c:aj}(y:aj) (aH:b7 g ⟨r,path⟩=some (ak en L)) (h:idx L m=some kA) (ab:(en.cells kA)[o]?=some c) :
  df g ⟨r,path++[m.toNat * en.z+o]⟩ y=df g ⟨r,path⟩ (.own en.z L.length ((ch en L).set (m.toNat * en.z+o) y)):=by
 funext s
 unfold df
 simp only
 split
 ·rename_i e
  subst e
  unfold b7 at aH
  simp only at aH
  cases J:g s with
  | none=>rfl
  | some x =>
   rw [J] at aH
   simp only [Option.map_some,Option.some.injEq]
   rw [aj.MA path y aH (JQ h ab)]
   rfl
 ·rfl
theorem UB (l:List aj) (k:Nat) (x c:aj):fY (l.set k x) k [c]=fY l k [c]:=by
 unfold fY
 simp only [List.length_singleton]
 rw [List.take_set,List.drop_set]
 rw [List.set_eq_of_length_le (by simp; omega)]
 simp
theorem b9.Bz {ir:Oper}{en:cD α}{en2:cD β}{L:List α}{kA y2:α}{pN M R:List β}{o s He:Nat}{new dq:List aj}{x2 y0:aj}{G2:List (Nat × aj)}
  (bh:ir.op=.store t a b) (aY:ir.dst=none) (bm:Rd g a (.ptr p (m.toNat * en.z+o))) (aJ:Rd g b (.bl en2.z ⟨s,[]⟩ (pN.length+He)))
  (sS:g s=some (.bR en2.z ⟨p.root,p.path++[m.toNat * en.z+o]⟩ pN.length He new)) (aH:b7 g p=some (ak en L)) (h:idx L m=some kA) (lL:(en.cells kA)[o]?=some (ak en2 pN)) (bN:Nat.beq p.root s=false)
  (h1:iw (df (df g ⟨s,[]⟩ .dead) p (.own en.z L.length ((ch en L).set (m.toNat * en.z+o) .dead))) new dq g1)
  (p7:gr dq (ch en2 M)) (hm:M.length=He) (bj:pN++M=R) (bJ:gG P t 1=true)
  (ua:b7 g1 p=some (.own en.z L.length ((ch en L).set (m.toNat * en.z+o) .dead)))
  (he:fY (en.cells kA) o [ak en2 R]=en.cells y2) (hlen:Nat.ble (o+1) en.z=true)
  (ho:df g1 p (ak en (L.set m.toNat y2)) p.root=some x2) (ay:(get G2 p.root).isSome=true) (s0:g1 p.root=some y0) [gP:cV y0] (ek:kY g1 (get G2) p.root x2 G2):b9 P N g ir (get G2):=by
 subst hm bj
 have zY:=Nat.le_of_ble_eq_true hlen
 have k_:=Mi en (cs':=[ak en2 (pN++M)]) h he (by simpa using zY)
 have F2:(L.set m.toNat y2).length=L.length:=List.length_set
 have C2:=Nat.ne_of_beq_eq_false bN
 have zQ:b7 g ⟨p.root,p.path++[m.toNat * en.z+o]⟩=some (ak en2 pN):=tw (g:=g) (r:=p.root) (path:=p.path) aH h lL
 have Sd:b7 (df g ⟨s,[]⟩ .dead) p=some (ak en L):=by
  unfold b7 at aH ⊢
  rw [rm (p:=⟨s,[]⟩) (λe=>C2 e)]; exact aH
 have aE:iw g [.bl en2.z ⟨s,[]⟩ (pN.length+M.length)] [.own en2.z (pN.length+M.length) (ch en2 pN++dq)] g1:=by
  refine .lR sS zQ bN ?_ .nil
  rw [Uw .dead (r:=p.root) (path:=p.path) Sd h lL]
  exact h1
 have hk:m.toNat * en.z+o+1<=L.length * en.z:=by
  obtain ⟨wj,j3,_⟩:=qb h
  have al:m.toNat+1<=L.length:=by omega
  calc m.toNat * en.z+o+1<=m.toNat * en.z+en.z:=by omega
   _=(m.toNat+1) * en.z:=by rw [Nat.add_mul]; omega
   _<=L.length * en.z:=Nat.mul_le_mul_right _ al
 refine .store bh aY bm.bO aJ.bO aE.take (y':=ak en2 (pN++M)) ?_ rfl bJ (p:=p) (nd:=.own en.z L.length ((ch en L).set (m.toNat * en.z+o) .dead)) (z:=en.z) (n:=L.length) (cs:=(ch en L).set (m.toNat * en.z+o) .dead) ua (.inl rfl) ?_ (by simp) (λt x J=>?_) (λt x J y az=>?_) (λt z q n m new J=>?_) (by intro e; rw [e] at ay; cases ay)
 ·rw [<- vV]; exact (p7.pre _).own
 ·simp only [List.length_singleton,List.length_set,ob]; exact hk
 ·have gD:(aj.own en.z L.length ((ch en L).set (m.toNat * en.z+o) .dead)).fY (m.toNat * en.z+o) [ak en2 (pN++M)]=ak en (L.set m.toNat y2):=by
   show aj.own en.z L.length (fY ((ch en L).set (m.toNat * en.z+o) .dead) (m.toNat * en.z+o) [ak en2 (pN++M)])=_
   unfold ak at k_ ⊢
   rw [UB,k_,F2]
  rw [gD]
  rcases ek.spec t x J with ⟨h1,al,_⟩ | ⟨h1,al,_⟩
  ·rw [rm h1]; exact al
  ·subst h1 al; exact ho
 ·rcases ek.spec t x J with ⟨h1,al,aP⟩ | ⟨h1,al,aP⟩
  ·rw [al] at az; cases az
   rcases aP with aP | ⟨aP,c2,rfl⟩
   ·exact aP.HA
   ·refine jq.ref (by cases aP; rfl) ⟨aP.L0,aP.clear ?_,aP.Dw⟩
    intro e
    obtain ⟨hz,pp⟩:=p
    simp only at e
    subst e
    simp only [df,if_true,s0,Option.map_some,aj.setAt,Option.some.injEq] at ho
    cases ho
  ·subst h1; rw [s0] at az; cases az; exact .bI gP.bI
 ·rcases ek.spec t _ J with ⟨_,_,aP | ⟨aP,_⟩⟩ | ⟨_,_,aP⟩
  ·exact aP.fR _ _ _ _ _ rfl
  ·exact aP.fR _ _ _ _ _ rfl
  ·cases aP
end
end Go.Own
/- Short forms for printed walks. -/
namespace Go.Own
open Go
section
variable {P:Program}{N:dW}{ops:Array Oper}{cc:List (List Nat)}{g g0:aZ}{K:aZ->Prop}{l:List Oper}{acc:Acc}{d i:Nat}{op:Op}{ty:TypeId}{pos:String}{after:Array Edge}{x:aj}
theorem ai (aH:dJ P g op ty x) (hk:aq P N ops l (e' g d x) K) (bY:N.ok d=true:=by rfl) (bn:g d=none:=by rfl):aq P N ops (⟨some d,op,ty,pos,after,none⟩::l) g K:=.v aH bY bn .none hk
theorem eE (aH:cr P g op x) (hk:aq P N ops l (e' g d x) K) (bY:N.ok d=true:=by rfl) (bn:g d=none:=by rfl):aq P N ops (⟨some d,op,ty,pos,after,none⟩::l) g K:=.c aH bY bn .none hk
theorem av (dr:Nat) (aH:dJ P (oh cc g0 dr acc) op ty x) (hk:bC P N ops cc g0 i ((dr,d,some x)::acc) l K) (aa:Nat.beq ops.size (dr+l.length+1)=true:=by rfl) (bn:g0 d=none:=by rfl) (aL:acc.all (λe=>!Nat.beq e.2.1 d)=true:=by rfl) (bY:N.ok d=true:=by rfl) :
  bC P N ops cc g0 i acc (⟨some d,op,ty,pos,after,none⟩::l) K:=.v dr aH aa bn aL bY .none hk
theorem gR (dr:Nat) (aH:cr P (oh cc g0 dr acc) op x) (hk:bC P N ops cc g0 i ((dr,d,some x)::acc) l K) (aa:Nat.beq ops.size (dr+l.length+1)=true:=by rfl) (bn:g0 d=none:=by rfl) (aL:acc.all (λe=>!Nat.beq e.2.1 d)=true:=by rfl) (bY:N.ok d=true:=by rfl) :
  bC P N ops cc g0 i acc (⟨some d,op,ty,pos,after,none⟩::l) K:=.c dr aH aa bn aL bY .none hk
end
instance {z n:Nat}{cs:List aj}:ov (.own z n cs):=⟨by simp⟩
def aN (a n:Nat) (l:List Nat):List Nat:=List.range' a n++l
end Go.Own
namespace Go.Own
open Go
section
variable {α:Type}{P:Program}{N:dW}{g:aZ}{d r:Nat}{ty:TypeId}
instance {fn:Fn}{cs:List aj} [h:eU cs]:cV (.ey fn [] cs):=⟨.ey (by simp) h.bI⟩
theorem h2.j1 {o:Oper}{xs:List Operand}{iJ:Array TypeId}{f:FuncId}{ys args:List aj}{res:aj}{en:cD α}{L h8:List α}{G2:List (Nat × aj)}(bh:o.op=.call { callee:=.value (.func f),args:=xs.toArray,argTypes:=iJ }) (aY:o.dst=some d) (J:Own.iP g xs=some (.bl en.z ⟨r,[]⟩ L.length::ys))
  (aM:g r=some (ak en L)) (hv:pU (get ((r,.dead)::G2)) ys args) (ji:b_ P f (ak en L::args) (some (ak en h8)::args.map λ_=>none) res) (bn:dI P f=true) [ay:qz res] [vy:qz (ak en h8)]
  (ek:Trim false (df g ⟨r,[]⟩ .dead) (get ((r,.dead)::G2)) G2) (a':get G2 d=none) (Ac:Nat.beq r d=false) (zG:Trim false (get ((r,ak en h8)::G2)) (get ((r,ak en h8)::G2)) G2) (bY:N.ok d=true) :
  h2 P N g o d (get ((d,res)::(r,ak en h8)::G2)):=by
 have Ad:r≠d:=Nat.ne_of_beq_eq_false Ac
 have EP:get ((r,aj.dead)::G2) r=some .dead:=by simp [get]
 have mz:∀ x∈ch en L,dp x:=by
  intro x J
  obtain ⟨a,_,bm⟩:=List.mem_flatMap.1 J
  exact en.bI a x bm
 have gp:(ch en L).take (L.length * en.z)=ch en L:=List.take_of_length_le (by rw [ob]; exact Nat.le_refl _)
 have vK:hS (df g ⟨r,[]⟩ .dead) (get ((r,.dead)::G2)):=by
  refine ⟨λt x h=>?_,λt x h=>?_,λt z q n m new h=>?_⟩
  all_goals
   simp only [get] at h
   split at h
  ·rename_i e; subst e; cases h; simp [df,aM,aj.setAt]
  ·obtain ⟨⟨y,h1,_,aP⟩,_⟩:=ek.spec t x h; rw [<- aP rfl]; exact h1
  ·cases h; exact .bI .dead
  ·exact (ek.spec t x h).2.1
  ·cases h
  ·exact (ek.spec t _ h).2.2 _ _ _ _ _ rfl
 have put:pD (get ((r,.dead)::G2)) [(⟨r,[]⟩,ak en h8)]=get ((r,ak en h8)::G2):=by
  funext t
  simp only [pD,df,get]
  by_cases h:t=r
  ·simp [h,aj.setAt]
  ·simp [h]
 have vL:hS (get ((r,ak en h8)::G2)) (get ((r,ak en h8)::G2)):=by
  refine ⟨λt x h=>h,λt x h=>?_,λt z q n m new h=>?_⟩
  all_goals
   simp only [get] at h
   split at h
  ·cases h; exact .bI vy.lg.bI
  ·exact (zG.spec t x h).2.1
  ·cases h
  ·exact (zG.spec t _ h).2.2 _ _ _ _ _ rfl
 have ao:=hv.len
 have qL:get ((d,res)::(r,ak en h8)::G2)=e' (get ((r,ak en h8)::G2)) d res:=by
  funext t
  rw [tG]
 rw [qL]
 refine wS.ok (first:=[]) (caps:=[]) (ys:=.bl en.z ⟨r,[]⟩ L.length::ys) (tk:=λk=>k == 0) (vw:=true) (outs:=some (ak en h8)::args.map λ_=>none) (g1:=df g ⟨r,[]⟩ .dead) (g2:=get ((r,.dead)::G2)) (g4:=get ((r,ak en h8)::G2)) (l:=[(⟨r,[]⟩,ak en h8)]) (ks:=λ_=>0) (xs0:=.bl en.z ⟨r,[]⟩ L.length::ys.map λ_=>.dead) (xs1:=ak en L::ys.map λ_=>.dead) (args:=ak en L::args) (res:=res) bh aY rfl (by simpa using J)
  ⟨bn,by simp,by simpa using ao,λk x h=>?_,?_,vK,λk x y J az=>?_,ji,by simpa using ay.lg,λk x h=>?_,λaf p x aa=>?_,by simp,λi af hi aa _=>by simp at hi aa; omega,by rw [put]; exact vL⟩ ?_ bY uM.refl
 ·simp only [List.nil_append,List.append_nil] at h
  cases k with
  | zero=>exact .inl h
  | succ k =>
   refine .inr ?_
   simp only [List.getElem?_cons_succ] at h ⊢
   rw [List.getElem?_map,h]; rfl
 ·have h1:Take (df g ⟨r,[]⟩ .dead) ((ch en L).take (L.length * en.z)) (ch en L) (df g ⟨r,[]⟩ .dead):=by rw [gp]; exact .bI mz
  refine .bl (N:=L.length) (by simp [b7,aM,aj.at]) (Nat.le_refl _) h1 (.bI λx J=>?_)
  obtain ⟨_,_,rfl⟩:=List.mem_map.1 J
  exact .dead
 ·simp only [List.nil_append,List.append_nil] at J
  cases k with
  | zero=>simpa using az
  | succ k =>
   simp only [List.getElem?_cons_succ] at J az
   exact ⟨rfl,hv.get k x y J az⟩
 ·cases k with
  | zero=>simp only [List.getElem?_cons_zero,Option.some.injEq] at h; subst h; exact vy.lg
  | succ k =>
   simp only [List.getElem?_cons_succ,List.getElem?_map] at h
   cases bm:args[k]? <;> rw [bm] at h <;> cases h
 ·cases af with
  | succ af=>simp at aa
  | zero =>
   simp only [List.getElem?_cons_zero,Option.some.injEq,Prod.mk.injEq] at aa
   obtain ⟨rfl,rfl⟩:=aa
   exact ⟨rfl,by simp [b7,EP,aj.at],.inl ⟨en.z,L.length,ch en L,rfl,by simp [b7,aM,aj.at]⟩⟩
 ·simp only [get,if_neg (Ne.symm Ad)]; exact a'
end
end Go.Own
namespace Go.Own
open Go Go.Proofs Go.Shelf Go.Lib Go.Sort
section
variable {P:Program}{w:World}
end
end Go.Own
namespace Go.Own
open Go
section
variable {α:Type}{P:Program}{N:dW}{g g1 g2 g3:aZ}{ops:Array Oper}{cc:List (List Nat)}{acc:Acc}{l:List Oper}{K:aZ->Prop}{i d r:Nat}
theorem c_.settle {w:World}{I:br}{T:Array Value}{Fs:Nat->br}(h:c_ w I T g Fs) (a:Act) (bm:a.tmps=T) {ts:List Nat}{xs ys:List aj}(J:Own.iP g (ts.map Operand.tmp)=some xs) (aE:Take g xs ys g1) (gD:ts.Nodup) (ao:ys.length=ts.length) (aY:∀ t∈ts,g1 t=some .dead)
  (hk:hS (pD g1 ((ts.map λt=>(⟨t,[]⟩:Place)).zip ys)) g2):∃ cp,c_ w I T g2 cp/\∀ c,(∃ t,cp t c)->∃ t,Fs t c:=by
 obtain ⟨GB,S'⟩:=x1 h bm J
 have S_:xs.length=ts.length:=by rw [GB,List.length_map]
 have hand:Hand w I (fV w T) Fs xs (ts.map λt=>a.eval (.tmp t)) (λ_=>cW):=by
  refine ⟨by rw [S_,List.length_map],λk x u pr hu=>?_,λ_ _ _ _ _ h=>h.elim,λ_ _ _ _ h=>h.elim,λ_ _ _ h=>h.elim⟩
  rw [List.getElem?_map] at hu
  cases gp:ts[k]? with
  | none=>rw [gp] at hu; cases hu
  | some t =>
   rw [gp] at hu; cases hu
   exact (S' k x (.tmp t) pr (by rw [List.getElem?_map,gp]; rfl)).frame (λ_ _=>rfl) (λ_ h=>h) (λ_ _ h=>h.1) λ_ _=>rfl
 obtain ⟨gi,H1,jh,iM,hl⟩:=aE.sound h.mi hand
 have s3:((ts.map λt=>(⟨t,[]⟩:Place)).zip ys).length=ts.length:=by rw [List.length_zip,List.length_map,ao]; exact Nat.min_self _
 obtain ⟨je,il,aQ⟩:=jI.pD ((ts.map λt=>(⟨t,[]⟩:Place)).zip ys) H1 (λaf=>((ts.map λt=>a.eval (.tmp t))[af]?).getD undef) jh (by
   rw [List.map_fst_zip (by rw [List.length_map,ao]; exact Nat.le_refl _)]
   exact List.Pairwise.map _ (λa b h e=>h (congrArg Place.root e)) gD) (λaf p x aa=>by
   rw [List.getElem?_zip_eq_some] at aa
   obtain ⟨h1,al⟩:=aa
   rw [List.getElem?_map] at h1
   cases gp:ts[af]? with
   | none=>rw [gp] at h1; cases h1
   | some t =>
    rw [gp] at h1; cases h1
    have KO:=aY t (List.mem_of_getElem? gp)
    obtain ⟨v,hv,_⟩:=jh.rel t .dead KO
    have p6:a.eval (.tmp t)=v:=by simp [Act.eval,bm,hv]
    have Gn:(ts.map λt=>a.eval (.tmp t))[af]?=some v:=by rw [List.getElem?_map,gp]; simp [p6]
    refine ⟨by simp [b7,KO,aj.at],?_,?_⟩
    ·rw [Gn]
     show eo w T ⟨t,[]⟩=some v
     unfold eo
     simp only [hv,walk]
    ·rw [Gn]
     exact iM.rel af x v al Gn) (λaf t c aa ab=>iM.off af t c (by omega) ab) (λaf c aa ab=>iM.aF af c (by omega) ab) (λi af c hi aa h1 al=>iM.e8 i af c (by omega) (by omega) h1 al)
 refine ⟨_,il.keep hk,λc ⟨t,_,ab⟩=>?_⟩
 have:lk gi ys.length H1 c:=by
  rcases aQ t c ab with h | ⟨af,aa,h⟩
  ·exact .inl ⟨t,h⟩
  ·exact .inr ⟨af,by omega,h⟩
 rcases hl c this with h | ⟨_,_,h⟩
 ·exact h
 ·exact h.elim
theorem kV.settle {o:Oper}{ts:List Nat}{xs ys:List aj}(J:Own.iP g (ts.map Operand.tmp)=some xs) (aE:Take g xs ys g1) (gD:ts.Nodup) (ao:ys.length=ts.length) (aY:∀ t∈ts,g1 t=some .dead)
  (hk:hS (pD g1 ((ts.map λt=>(⟨t,[]⟩:Place)).zip ys)) g2) (he:kV P N g2 o g3):kV P N g o g3:=by
 intro w I T Fs bU a bm bY K Q eA
 obtain ⟨cp,eG,gN⟩:=bU.settle a bm J aE gD ao aY hk
 refine he w I T cp eG a bm bY K Q λcI w' aL aE=>eA cI w' ?_ aE
 obtain ⟨dy,de,I',je,h1,al⟩:=aL
 exact ⟨dy,de,I',je,h1,kX.trans ⟨Fr.refl _ _,λ_ h=>h,λ_ h=>.inl h,λc h=>.inl (gN c h)⟩ al⟩
theorem NO {Q:Nat->Prop}{a:Nat}(bm:Q a):∀ t∈[a],Q t:=λt aE=>by rw [List.mem_singleton.1 aE]; exact bm
theorem NP {Q:Nat->Prop}{a b:Nat}(bm:Q a) (aJ:Q b):∀ t∈[a,b],Q t:=λt aE=>by
 rcases List.mem_cons.1 aE with rfl | aE
 ·exact bm
 ·rw [List.mem_singleton.1 aE]; exact aJ
def DC (p q:Place):Bool:=Nat.beq p.root q.root&&p.path == q.path
def Dp:List Place->Bool
 | []=>true
 | x::l=>l.all (λy=>!DC x y)&&Dp l
theorem LP:∀ {l:List Place},Dp l=true->l.Nodup
 | [],_=>List.nodup_nil
 | p::l,h=>by
  simp only [Dp,Bool.and_eq_true,List.all_eq_true] at h
  refine List.nodup_cons.2 ⟨λhm=>?_,LP h.2⟩
  have:=h.1 p hm
  simp [DC] at this
def TF (p:Place) (acc:Acc):Bool:=acc.all λe=>match mb e with | some q=>!DC p q | none=>true
theorem LS {p:Place}{G:List (Nat × aj)}{A:Nat->Bool}(h:TF p acc=true) (ek:rY G=true):∀ t z n m new,et (get G) A acc t≠some (.bR z p n m new):=by
 intro t z n m new e
 rcases te e with ⟨cX,he,h1,_,al⟩ | ⟨_,al⟩
 ·have:=List.all_eq_true.1 h cX he
  obtain ⟨k,d,x⟩:=cX
  simp only at al
  subst al
  simp [mb,DC] at this
 ·exact xY ek _ _ _ _ _ _ al
theorem O.NR {en:cD α}{L M r:List α}{y:aj}{e jJ:Nat}{a b:Operand}{p:Place}{t ty:TypeId}(aM:Rd g a (.bl en.z p L.length)) (aH:b7 g p=some (ak en L)) (J:Rd g b y) (hm:qC g en y M) (aE:ix P t e en.z jJ=true) (aJ:Nat.ble jJ 128=true) (h:eC L M=some r) (gP:∀ t z n m new,g t≠some (.bR z p n m new)) :
  dJ P g (.call { callee:=.builtin .append,args:=#[a,b],argTypes:=#[t,t] }) ty (.bR en.z p L.length M.length (ch en M)):=by
 obtain ⟨h1,al,_⟩:=w8 h aJ
 exact .lA (.grow aM.bO (.inl ⟨_,aH⟩) (λt cN cY m' dq e=>gP _ _ _ _ _ e) J.bO hm.src aE h1 al)
theorem bC.I6 (dr:Nat) {G G2:List (Nat × aj)}{o:Oper}(he:kV P N (et (get G) (λm=>(cc.getD dr []).contains m) acc) o (get G2)) (a':o.guard=none) (hG:Dp (acc.filterMap mb)=true) (jb:rY G=true) (aa:Nat.beq ops.size (dr+l.length+1)=true)
  (gN:acc.filter (λe=>!(cc.getD dr []).contains e.1)=[])
  (aJ:(List.range ops.size).all (λk=>Nat.ble k dr||(cc.getD k []).contains dr)=true) (hk:bC P N ops cc (get G2) (dr+1) [] l K):bC P N ops cc (get G) i acc (o::l) K:=by
 intro ew af du n1 mw
 have:=zd mw aa
 subst this
 obtain ⟨h1,al⟩:=drop_cons mw
 obtain ⟨g',ay,eA⟩:=hk [] (af+1) .nil .nil al
 refine ⟨g',.w_ (U:=[]) (rs:=rj []) n1 (LP hG) (xY jb) h1 ?_ he.v (λp aH=>by simp [rj] at aH) gN.symm (by simp) (by simp) (by simp) ?_ ay,eA⟩
 ·unfold iX; rw [a']
 ·refine List.all_eq_true.2 λk hk=>?_
  have:=List.all_eq_true.1 aJ k hk
  simp only [Bool.or_eq_true,decide_eq_true_eq,Nat.ble_eq] at this ⊢
  exact this
theorem kV.cell {o:Oper}{r k0:Nat}{y:aj}{cs:List aj}{g5:aZ}(ay:g r=some (.obj cs)) (az:cs[k0]?=some y) (vB:dp y)
  (t':∀ v:Value,v.oneCell'=true->∃ g1 g4,hS (df g ⟨r,[k0]⟩ (.lit v)) g1/\kV P N g1 o g4/\b7 g4 ⟨r,[k0]⟩=some (.lit v)/\hS (df g4 ⟨r,[k0]⟩ y) g5):o1 P N (λp=>p∈[(⟨r,[k0]⟩:Place)]) g o g5:=by
 intro w I T Fs h a bm bY K Q eA
 have k8:∀ z q n m new,y≠.bR z q n m new:=by rintro z q n m new rfl; cases vB
 have gu:b7 g ⟨r,[k0]⟩=some y:=by simp [b7,ay,aj.at,aj.kids,az]
 obtain ⟨v,cO,hv,d',dG,put⟩:=h.mi.part gu k8
 have sV:v.oneCell'=true:=by
  obtain ⟨u,hu,mu⟩:=h.rel r _ ay
  obtain ⟨b,tc,h1,al,aP,b3,_⟩:=R.node (z:=0) (n:=0) (mu.hM (by simp)) (.inr rfl) az
  have:eo w T ⟨r,[k0]⟩=child w u k0:=by
   unfold eo
   simp only [hu,walk]
   cases child w u k0 <;> rfl
  rw [this,aP] at hv
  cases hv
  exact b3
 obtain ⟨gi,jh,zD,zE⟩:=put (.lit v) cW (.lit sV λ_ h=>h) (λ_ h=>h.elim) (λ_ h=>h.elim) (λ_ _ _ h=>h.elim)
 obtain ⟨g1,g4,hx,fo,Fy,FV⟩:=t' v sV
 have rp:∀ t c,gi t c->Fs t c/\¬ cO c:=by
  intro t c ab
  by_cases aE:t=r
  ·subst aE
   rcases (zD c).1 ab with aS | aS
   ·exact aS
   ·exact aS.elim
  ·rw [zE t aE] at ab
   exact ⟨ab,λbn=>aE (h.e8 t r c ab (dG c bn))⟩
 have Fp:=jh.keep hx
 refine fo w I T _ Fp a bm bY K Q λcI w' aL rV=>?_
 obtain ⟨dy,de,I',cp,eG,cm⟩:=aL
 obtain ⟨v2,sb,xN,l1,QJ,Hw⟩:=eG.mi.part Fy (by simp)
 have Gm:v2=v:=l1.im.1
 subst Gm
 have Ff:∀ c,cO c->¬ I c:=λc ab=>h.aF r c (dG c ab)
 have vf:∀ c,cO c->c<w.heap.size:=λc ab=>h.j0 r c (dG c ab)
 have vW:∀ c,cO c->¬ ∃ t,(g1 t≠none/\gi t c):=λc ab ⟨t,_,aS⟩=>(rp t c aS).2 ab
 have AJ:∀ t c,cp t c->¬ cO c:=by
  intro t c ab bn
  rcases cm.own c ⟨t,ab⟩ with aS | aS
  ·exact vW c bn aS
  ·have:=vf c bn; omega
 have Hj:∀ c,cO c->¬ I' c:=by
  intro c ab hi
  rcases cm.new c hi with aS | aS | aS
  ·exact Ff c ab aS
  ·exact vW c ab aS
  ·have:=vf c ab; omega
 have HE:∀ c,cO c->w'.heap[c]?=w.heap[c]?:=λc ab=>cm.fJ.block c (vf c ab) (vW c ab)
 have rk:∀ c,I c->w'.heap[c]?=w.heap[c]?:=λc ab=>cm.fJ.block c (h.lt c ab) λ⟨t,_,aS⟩=>h.aF t c (rp t c aS).1 ab
 have zL:R w' I' (fV w' cI.tmps) y v2 cO:=((d'.bI vB).frame rk cm.more (λ_ _ h=>h) HE)
 obtain ⟨Ir,Ft,Fa,Fb⟩:=Hw y cO zL (λc ab bn=>(AJ _ c bn ab).elim) (λc ab=>Hj c ab) (λt c _ ab bn=>AJ t c bn ab)
 have sK:=Ft.keep FV
 refine eA cI w' ⟨dy,de,I',_,sK,⟨?_,cm.more,λc ab=>?_,λc ab=>?_⟩⟩ rV λff path aH y' mF Wx=>?_
 ·exact cm.fJ.mono λb _ ⟨t,_,aS⟩=>⟨t,(rp t b aS).1⟩
 ·rcases cm.new c ab with aS | ⟨t,_,aS⟩ | aS
  ·exact .inl aS
  ·exact .inr (.inl ⟨t,(rp t c aS).1⟩)
  ·exact .inr (.inr aS)
 ·obtain ⟨t,_,ab⟩:=ab
  have:(∃ t,cp t c)\/cO c:=by
   by_cases aE:t=r
   ·subst aE
    rcases (Fa c).1 ab with ⟨aS,_⟩ | aS
    ·exact .inl ⟨_,aS⟩
    ·exact .inr aS
   ·rw [Fb t aE] at ab; exact .inl ⟨t,ab⟩
  rcases this with aS | aS
  ·rcases cm.own c aS with ⟨t,_,gL⟩ | gL
   ·exact .inl ⟨t,(rp t c gL).1⟩
   ·exact .inr gL
  ·exact .inl ⟨r,dG c aS⟩
 ·have aH:(⟨ff,path⟩:Place)∈[(⟨r,[k0]⟩:Place)]:=aH
  have aH:=List.mem_singleton.1 aH
  cases aH
  rw [hv,xN]
end
end Go.Own
namespace Go.Own
open Go
section
variable {α:Type}{P:Program}{N:dW}{g:aZ}{ops:Array Oper}{l:List Oper}{K:aZ->Prop}{r n:Nat}{t e ty:TypeId}{a b:Operand}{m:Int}{en:cD α}{L:List α}{y y2:α}{k:IntKind}{pos:String}{after:Array Edge}
end
end Go.Own
namespace Go.Own
open Go Go.Proofs Go.Shelf Go.Lib Go.Sort
section
variable {P:Program}{w:World}
class uP {α:Type}(e:cD α) where
 DY:α->List Value
 cells:∀ a,e.cells a=(DY a).map .lit
 one:∀ a,∀ v∈DY a,v.oneCell'=true
variable {α:Type}{e:cD α}
theorem uP.len [h:uP e] (a:α):(h.DY a).length=e.z:=by
 have:=e.len a
 rw [h.cells,List.length_map] at this
 exact this
end
end Go.Own
namespace Go.Own
open Go
section
variable {α:Type}{P:Program}{N:dW}{g:aZ}{d r:Nat}
theorem h2.tk {o:Oper}{x:Operand}{iJ:Array TypeId}{f:FuncId}{res:aj}{en:cD α}{L:List α}{G2:List (Nat × aj)}(bh:o.op=.call { callee:=.value (.func f),args:=#[x],argTypes:=iJ }) (aY:o.dst=some d) (J:Own.iP g [x]=some [.bl en.z ⟨r,[]⟩ L.length])
  (aM:g r=some (ak en L)) (ji:b_ P f [ak en L] [none] res) (bn:dI P f=true) [ay:cV res]
  (ek:Trim false (df g ⟨r,[]⟩ .dead) (get G2) G2) (a':get G2 d=none) (bY:N.ok d=true) :
  h2 P N g o d (get ((d,res)::G2)):=by
 have mz:∀ x∈ch en L,dp x:=by
  intro x J
  obtain ⟨a,_,bm⟩:=List.mem_flatMap.1 J
  exact en.bI a x bm
 have gp:(ch en L).take (L.length * en.z)=ch en L:=List.take_of_length_le (by rw [ob]; exact Nat.le_refl _)
 have vK:hS (df g ⟨r,[]⟩ .dead) (get G2):=by
  refine ⟨λt x h=>?_,λt x h=>(ek.spec t x h).2.1,λt z q n m new h=>(ek.spec t _ h).2.2 _ _ _ _ _ rfl⟩
  obtain ⟨⟨y,h1,_,aP⟩,_⟩:=ek.spec t x h
  rw [<- aP rfl]; exact h1
 have vL:hS (get G2) (get G2):=⟨λt x h=>h,λt x h=>(ek.spec t x h).2.1,λt z q n m new h=>(ek.spec t _ h).2.2 _ _ _ _ _ rfl⟩
 have qL:get ((d,res)::G2)=e' (get G2) d res:=by
  funext t
  rw [tG]
 rw [qL]
 refine wS.ok (first:=[]) (caps:=[]) (ys:=[.bl en.z ⟨r,[]⟩ L.length]) (tk:=λk=>k == 0) (vw:=false) (outs:=[none]) (g1:=df g ⟨r,[]⟩ .dead) (g2:=get G2) (g4:=get G2) (l:=[]) (ks:=λ_=>0) (xs0:=[.bl en.z ⟨r,[]⟩ L.length]) (xs1:=[ak en L]) (args:=[ak en L]) (res:=res) bh aY rfl J
  ⟨bn,by simp,by simp,λk x h=>.inl h,?_,vK,λk x y J az=>?_,ji,by simpa using ay.bI,λk x h=>?_,λaf p x aa=>by simp at aa,by simp,λi af hi aa _=>by simp at hi,vL⟩ a' bY uM.refl
 ·have h1:Take (df g ⟨r,[]⟩ .dead) ((ch en L).take (L.length * en.z)) (ch en L) (df g ⟨r,[]⟩ .dead):=by rw [gp]; exact .bI mz
  exact .bl (N:=L.length) (by simp [b7,aM,aj.at]) (Nat.le_refl _) h1 (.bI λx J=>by simp at J)
 ·cases k with
  | zero=>simpa using az
  | succ k=>simp at az
 ·cases k with
  | zero=>simp at h
  | succ k=>simp at h
end
end Go.Own
namespace Go.Own
open Go Go.Proofs Go.Shelf Go.Lib Go.Sort
section
variable {α:Type} [DecidableEq α]
end
section
variable {α:Type}{e:cD α}{P:Program}{w:World}
variable [DecidableEq α] [Inhabited α]
end
end Go.Own
namespace Go.Proofs
open Go.Shelf Go.RowKit Go.Lib Go.Sort
variable {α:Type} [Inhabited α] [DecidableEq α]
namespace Two
open Go.Own
variable {P:Program}{t:TypeId}
omit [Inhabited α] [DecidableEq α] in
theorem one (f:α->Int):OneCell λx=>Value.int .i64 (f x):=λ_=>rfl
end Two
end Go.Proofs
namespace Go.Own
open Go Go.Proofs Go.Shelf Go.Lib Go.Sort
section
variable {α:Type}{e:cD α}{P:Program}{w:World}
end
end Go.Own
namespace Go.Own
open Go
section
variable {α:Type}{P:Program}{N:dW}{g:aZ}{d r:Nat}
end
end Go.Own
namespace Go.Own
open Go
theorem q {α:Sort _}{a:α}:a=a:=rfl
abbrev aA:ByteArray:={ data:=#[] }
theorem pz {p:Prop} [Decidable p] (h:decide p=true):p:=of_decide_eq_true h
theorem fC {b:Bool}{g h:aZ}{fv s1:Nat}{fl aD:aj}(bd:g fv=some fl) [cV fl] (h1:g s1=some aD) [cV aD]:Trim b g h [(fv,fl),(s1,aD)]:=(.n bd (.n h1 .nil))
theorem dt {b:Bool}{g h:aZ}{fv s1 s2:Nat}{fl aD x2:aj}(bd:g fv=some fl) [cV fl] (h1:g s1=some aD) [cV aD] (al:g s2=some x2) [cV x2]:Trim b g h [(fv,fl),(s1,aD),(s2,x2)]:=(.n bd (.n h1 (.n al .nil)))
theorem dM {b:Bool}{g h:aZ}{fv s1 s2 cK:Nat}{fl aD x2 a8:aj}(bd:g fv=some fl) [cV fl] (h1:g s1=some aD) [cV aD] (al:g s2=some x2) [cV x2] (aP:g cK=some a8) [cV a8]:Trim b g h [(fv,fl),(s1,aD),(s2,x2),(cK,a8)]:=(.n bd (.n h1 (.n al (.n aP .nil))))
theorem dX {b:Bool}{g h:aZ}{fv s1 s2 cK bL:Nat}{fl aD x2 a8 b4:aj}(bd:g fv=some fl) [cV fl] (h1:g s1=some aD) [cV aD] (al:g s2=some x2) [cV x2] (aP:g cK=some a8) [cV a8] (b3:g bL=some b4) [cV b4]:Trim b g h [(fv,fl),(s1,aD),(s2,x2),(cK,a8),(bL,b4)]:=(.n bd (.n h1 (.n al (.n aP (.n b3 .nil)))))
theorem fw {b:Bool}{g h:aZ}{fv s1 s2 cK bL cA:Nat}{fl aD x2 a8 b4 cn:aj}(bd:g fv=some fl) [cV fl] (h1:g s1=some aD) [cV aD] (al:g s2=some x2) [cV x2] (aP:g cK=some a8) [cV a8] (b3:g bL=some b4) [cV b4] (dF:g cA=some cn) [cV cn]:Trim b g h [(fv,fl),(s1,aD),(s2,x2),(cK,a8),(bL,b4),(cA,cn)]:=(.n bd (.n h1 (.n al (.n aP (.n b3 (.n dF .nil))))))
theorem g_ {b:Bool}{g h:aZ}{fv s1 s2 cK bL cA cM:Nat}{fl aD x2 a8 b4 cn bP:aj}(bd:g fv=some fl) [cV fl] (h1:g s1=some aD) [cV aD] (al:g s2=some x2) [cV x2] (aP:g cK=some a8) [cV a8] (b3:g bL=some b4) [cV b4] (dF:g cA=some cn) [cV cn] (e0:g cM=some bP) [cV bP]:Trim b g h [(fv,fl),(s1,aD),(s2,x2),(cK,a8),(bL,b4),(cA,cn),(cM,bP)]:=(.n bd (.n h1 (.n al (.n aP (.n b3 (.n dF (.n e0 .nil)))))))
theorem jR {b:Bool}{g h:aZ}{fv s1 s2 cK bL cA cM ev:Nat}{fl aD x2 a8 b4 cn bP bz:aj}(bd:g fv=some fl) [cV fl] (h1:g s1=some aD) [cV aD] (al:g s2=some x2) [cV x2] (aP:g cK=some a8) [cV a8] (b3:g bL=some b4) [cV b4] (dF:g cA=some cn) [cV cn] (e0:g cM=some bP) [cV bP] (lK:g ev=some bz) [cV bz]:Trim b g h [(fv,fl),(s1,aD),(s2,x2),(cK,a8),(bL,b4),(cA,cn),(cM,bP),(ev,bz)]:=(.n bd (.n h1 (.n al (.n aP (.n b3 (.n dF (.n e0 (.n lK .nil))))))))
theorem iI {b:Bool}{g h:aZ}{fv s1 s2 cK bL cA cM ev dT:Nat}{fl aD x2 a8 b4 cn bP bz b1:aj}(bd:g fv=some fl) [cV fl] (h1:g s1=some aD) [cV aD] (al:g s2=some x2) [cV x2] (aP:g cK=some a8) [cV a8] (b3:g bL=some b4) [cV b4] (dF:g cA=some cn) [cV cn] (e0:g cM=some bP) [cV bP] (lK:g ev=some bz) [cV bz] (qQ:g dT=some b1) [cV b1]:Trim b g h [(fv,fl),(s1,aD),(s2,x2),(cK,a8),(bL,b4),(cA,cn),(cM,bP),(ev,bz),(dT,b1)]:=(.n bd (.n h1 (.n al (.n aP (.n b3 (.n dF (.n e0 (.n lK (.n qQ .nil)))))))))
theorem r9 {b:Bool}{g h:aZ}{fv s1 s2 cK bL cA cM ev dT mg:Nat}{fl aD x2 a8 b4 cn bP bz b1 cv:aj}(bd:g fv=some fl) [cV fl] (h1:g s1=some aD) [cV aD] (al:g s2=some x2) [cV x2] (aP:g cK=some a8) [cV a8] (b3:g bL=some b4) [cV b4] (dF:g cA=some cn) [cV cn] (e0:g cM=some bP) [cV bP] (lK:g ev=some bz) [cV bz] (qQ:g dT=some b1) [cV b1] (tJ:g mg=some cv) [cV cv]:Trim b g h [(fv,fl),(s1,aD),(s2,x2),(cK,a8),(bL,b4),(cA,cn),(cM,bP),(ev,bz),(dT,b1),(mg,cv)]:=(.n bd (.n h1 (.n al (.n aP (.n b3 (.n dF (.n e0 (.n lK (.n qQ (.n tJ .nil))))))))))
theorem DW {b:Bool}{g h:aZ}{fv s1 s2 cK bL cA cM ev dT mg dw:Nat}{fl aD x2 a8 b4 cn bP bz b1 cv bM:aj}(bd:g fv=some fl) [cV fl] (h1:g s1=some aD) [cV aD] (al:g s2=some x2) [cV x2] (aP:g cK=some a8) [cV a8] (b3:g bL=some b4) [cV b4] (dF:g cA=some cn) [cV cn] (e0:g cM=some bP) [cV bP] (lK:g ev=some bz) [cV bz] (qQ:g dT=some b1) [cV b1] (tJ:g mg=some cv) [cV cv] (Qe:g dw=some bM) [cV bM]:Trim b g h [(fv,fl),(s1,aD),(s2,x2),(cK,a8),(bL,b4),(cA,cn),(cM,bP),(ev,bz),(dT,b1),(mg,cv),(dw,bM)]:=(.n bd (.n h1 (.n al (.n aP (.n b3 (.n dF (.n e0 (.n lK (.n qQ (.n tJ (.n Qe .nil)))))))))))
section
variable {P:Program}{N:dW}{ops:Array Oper}{g:aZ}{K:aZ->Prop}{l:List Oper}{d t:Nat}{ty:TypeId}{pos:String}{after:Array Edge}{v:Value}
theorem nS {G1:List (Nat × aj)}(h:Trim true g (get G1) G1):aq P N ops [] g λg'=>kZ g' (get G1):=.fin h
theorem bp (h:g t=some (.lit v)) (hk:aq P N ops l (e' g d (.lit v)) K) (bY:N.ok d=true:=by rfl) (bn:g d=none:=by rfl):aq P N ops (⟨some d,.move (.tmp t),ty,pos,after,none⟩::l) g K:=ai (O.aC (.lit h)) hk bY bn
theorem ID (h:g t=some (.lit v)) (hk:aq P N ops l (e' g d (.lit v)) K) (bY:N.ok d=true:=by rfl) (bn:g d=none:=by rfl):aq P N ops (⟨some d,.assign (.tmp t),ty,pos,after,none⟩::l) g K:=ai (O.ec (.lit h)) hk bY bn
theorem Nw (h:ofConst v=.lit v) (hk:aq P N ops l (e' g d (.lit v)) K) (bY:N.ok d=true:=by rfl) (bn:g d=none:=by rfl):aq P N ops (⟨some d,.assign (.const v),ty,pos,after,none⟩::l) g K:=ai (O.ec (.k h)) hk bY bn
end
end Go.Own
namespace Go.Own
open Go
section
variable {α:Type}{g:aZ}
end
end Go.Own
namespace Go.Own
open Go
section
variable {α:Type}{P:Program}{N:dW}{g:aZ}{d r:Nat}
theorem h2.lC {o:Oper}{xs:List Operand}{iJ:Array TypeId}{f:FuncId}{ys:List aj}{res:aj}{en:cD α}{L:List α}{G2:List (Nat × aj)}(bh:o.op=.call { callee:=.value (.func f),args:=xs.toArray,argTypes:=iJ }) (aY:o.dst=some d) (J:Own.iP g xs=some (.bl en.z ⟨r,[]⟩ L.length::ys))
  (aM:g r=some (ak en L)) (ji:b_ P f (ak en L::ys) (none::ys.map λ_=>none) res) (bn:dI P f=true) [ay:cV res] [aL:eU ys]
  (ek:Trim false (df g ⟨r,[]⟩ .dead) (get G2) G2) (a':get G2 d=none) (bY:N.ok d=true) :
  h2 P N g o d (get ((d,res)::G2)):=by
 have mz:∀ x∈ch en L,dp x:=by
  intro x J
  obtain ⟨a,_,bm⟩:=List.mem_flatMap.1 J
  exact en.bI a x bm
 have gp:(ch en L).take (L.length * en.z)=ch en L:=List.take_of_length_le (by rw [ob]; exact Nat.le_refl _)
 have vK:hS (df g ⟨r,[]⟩ .dead) (get G2):=by
  refine ⟨λt x h=>?_,λt x h=>(ek.spec t x h).2.1,λt z q n m new h=>(ek.spec t _ h).2.2 _ _ _ _ _ rfl⟩
  obtain ⟨⟨y,h1,_,aP⟩,_⟩:=ek.spec t x h
  rw [<- aP rfl]; exact h1
 have vL:hS (get G2) (get G2):=⟨λt x h=>h,λt x h=>(ek.spec t x h).2.1,λt z q n m new h=>(ek.spec t _ h).2.2 _ _ _ _ _ rfl⟩
 have qL:get ((d,res)::G2)=e' (get G2) d res:=by
  funext t
  rw [tG]
 rw [qL]
 refine wS.ok (first:=[]) (caps:=[]) (ys:=.bl en.z ⟨r,[]⟩ L.length::ys) (tk:=λ_=>true) (vw:=false) (outs:=none::ys.map λ_=>none) (g1:=df g ⟨r,[]⟩ .dead) (g2:=get G2) (g4:=get G2) (l:=[]) (ks:=λ_=>0) (xs0:=.bl en.z ⟨r,[]⟩ L.length::ys) (xs1:=ak en L::ys) (args:=ak en L::ys) (res:=res) bh aY rfl (by simpa using J)
  ⟨bn,by simp,by simp,λk x h=>.inl (by simpa using h),?_,vK,λk x y J az=>by simpa using az,ji,by simpa using ay.bI,λk x h=>?_,λaf p x aa=>by simp at aa,by simp,λi af hi aa _=>by simp at hi,vL⟩ a' bY uM.refl
 ·have h1:Take (df g ⟨r,[]⟩ .dead) ((ch en L).take (L.length * en.z)) (ch en L) (df g ⟨r,[]⟩ .dead):=by rw [gp]; exact .bI mz
  exact .bl (N:=L.length) (by simp [b7,aM,aj.at]) (Nat.le_refl _) h1 (.bI aL.bI)
 ·cases k with
  | zero=>simp at h
  | succ k =>
   simp only [List.getElem?_cons_succ,List.getElem?_map] at h
   cases bm:ys[k]? <;> rw [bm] at h <;> cases h
end
end Go.Own
namespace Go.Own
open Go
class tq (x:aj):Prop where pl:o3 x
class B0 (cs:List aj):Prop where pl:∀ x∈cs,o3 x
instance {v:Value}:tq (.lit v):=⟨.lit⟩
instance:tq .aI:=⟨.aI⟩
instance {z n:Nat}{cs:List aj} [h:eU cs]:tq (.aF z n cs):=⟨.aF h.bI⟩
instance {α:Type}{e:cD α}{L:List α}:tq (ag e L):=⟨.aF (eU.bI (cs:=ch e L))⟩
instance {cs:List aj} [h:B0 cs]:tq (.agg cs):=⟨.agg h.pl⟩
instance:B0 []:=⟨by simp⟩
instance {x:aj}{cs:List aj} [h:tq x] [aS:B0 cs]:B0 (x::cs):=⟨λy az=>by
 rcases List.mem_cons.1 az with rfl | az
 ·exact h.pl
 ·exact aS.pl y az⟩
class BY (G:List (Nat × aj)):Prop where bI:∀ t x,get G t=some x->dp x
instance:BY []:=⟨λt x h=>by cases h⟩
instance {s:Nat}{x:aj}{G:List (Nat × aj)} [h:cV x] [aS:BY G]:BY ((s,x)::G):=⟨λt y az=>by
 simp only [get] at az
 split at az
 ·cases az; exact h.bI
 ·exact aS.bI t y az⟩
class w2 (acc:Acc):Prop where bI:∀ e∈acc,∀ x,e.2.2=some x->dp x
instance:w2 []:=⟨by simp⟩
instance {k d:Nat}{x:aj}{acc:Acc} [h:cV x] [aS:w2 acc]:w2 ((k,d,some x)::acc):=⟨λe he y az=>by
 rcases List.mem_cons.1 he with rfl | he
 ·cases az; exact h.bI
 ·exact aS.bI e he y az⟩
instance {k d:Nat}{acc:Acc} [aS:w2 acc]:w2 ((k,d,none)::acc):=⟨λe he y az=>by
 rcases List.mem_cons.1 he with rfl | he
 ·cases az
 ·exact aS.bI e he y az⟩
theorem Ji {G:List (Nat × aj)}{A:Nat->Bool}{acc:Acc} [h:BY G] [aS:w2 acc]:D8 (et (get G) A acc):=by
 have key:∀ t x,et (get G) A acc t=some x->dp x:=λt x J=>by
  rcases te J with ⟨e,he,_,_,al⟩ | ⟨_,al⟩
  ·exact aS.bI e he x al
  ·exact h.bI t x al
 exact ⟨λt x J=>.bI (key t x J),λt z q n m new J=>by cases key t _ J⟩
end Go.Own
namespace Go.Own
open Go Go.MapKept Go.ChangeMaps
section
variable {P:Program}{w:World}{I:br}{T:Array Value}{g g2:aZ}{Fs:Nat->br}
theorem OK {w:World}{b:Nat}{es hD:Array MapEntry}{c hA:Nat}(h:w.heap[b]?=some (.map es c)) (a:Addr):(setBlock w b (.map hD hA)).cell? a=w.cell? a:=by
 by_cases e:a.block=b
 ·have h1:(setBlock w b (.map hD hA)).heap[a.block]?=some (.map hD hA):=by rw [e]; exact heap_setBlock_same h _
  have al:w.heap[a.block]?=some (.map es c):=by rw [e]; exact h
  unfold World.cell?
  rw [h1,al]
 ·have h1:(setBlock w b (.map hD hA)).heap[a.block]?=w.heap[a.block]?:=heap_setBlock_other h _ e
  unfold World.cell?
  rw [h1]
theorem M4 {w:World}{b:Nat}{es hD:Array MapEntry}{c hA:Nat}(h:w.heap[b]?=some (.map es c)):∀ (p:List Nat) (v:Value),walk (setBlock w b (.map hD hA)) v p=walk w v p
 | [],v=>rfl
 | k::p,v=>by
  have ab:child (setBlock w b (.map hD hA)) v k=child w v k:=by
   unfold child
   split <;> first | rfl | exact OK h _
  simp only [walk,ab]
  cases child w v k with
  | none=>rfl
  | some u=>exact M4 h p u
theorem Vb {w:World}{b:Nat}{es hD:Array MapEntry}{c hA:Nat}(h:w.heap[b]?=some (.map es c)) (T:Array Value) (p:Place):eo (setBlock w b (.map hD hA)) T p=eo w T p:=by
 unfold eo
 cases T[p.root]? with
 | none=>rfl
 | some v=>exact M4 h _ v
theorem T_ {w:World}{b:Nat}{es hD:Array MapEntry}{c hA:Nat}(h:w.heap[b]?=some (.map es c)) {T:Array Value}{r:aj}{v:Value}(ay:fV w T r v):fV (setBlock w b (.map hD hA)) T r v:=by
 cases r <;> simp only [fV,Vb h] at ay ⊢ <;> exact ay
theorem c_.TC (bU:c_ w I T g Fs) {p:Place}{q gb:Array MapEntry->Nat->Prop}{b:Nat}{es hD:Array MapEntry}{c hA:Nat}(aH:b7 g p=some (.mp q)) (hv:eo w T p=some (.map (some b))) (hm:w.heap[b]?=some (.map es c)) (bN:gb hD hA)
  (xA:∀ t x,g2 t=some x->df g p (.mp gb) t=some x) (uc:∀ t x,g2 t=some x->∀ y,g t=some y->jq (gK g2) y) (k8:∀ t z q n m new,g2 t≠some (.bR z q n m new)) (jW:g2 p.root≠none) :
  ∃ cp,c_ (setBlock w b (.map hD hA)) I T g2 cp/\∀ t c,cp t c->Fs t c:=by
 have oj:∀ k,k≠b->(setBlock w b (.map hD hA)).heap[k]?=w.heap[k]?:=λk hk=>heap_setBlock_other hm _ hk
 have BE:(setBlock w b (.map hD hA)).heap[b]?=some (.map hD hA):=heap_setBlock_same hm _
 have M1:(setBlock w b (.map hD hA)).heap.size=w.heap.size:=by simp [setBlock]
 have Si:∀ r v,fV w T r v->fV (setBlock w b (.map hD hA)) T r v:=λr v h=>T_ hm h
 generalize uh:setBlock w b (.map hD hA)=w' at *
 obtain ⟨fl,jO⟩:∃ fl,g p.root=some fl:=by
  unfold b7 at aH
  cases J:g p.root with
  | none=>rw [J] at aH; cases aH
  | some x=>exact ⟨x,rfl⟩
 have oI:fl.at p.path=some (.mp q):=by simpa [b7,jO] using aH
 obtain ⟨v0,iO,gM⟩:=bU.rel _ _ jO
 have zI:=gM.hM (by rintro z q n m new rfl; cases (aj.rG oI).2)
 have tZ:jq (gK g2) fl:=by
  cases al:g2 p.root with
  | none=>exact absurd al jW
  | some y=>exact uc _ _ al _ jO
 have zJ:=zI.wo tZ
 obtain ⟨ie,cO,hw,d',dG,_,kg⟩:=R.focus p.path zJ oI
 have Gq:ie=.map (some b):=by
  simp only [eo,iO,hw,Option.some.injEq] at hv; exact hv
 subst Gq
 obtain ⟨hT,VP,I_,e,bh,_,qS⟩:=d'.GN
 cases e
 have l2:cO b:=(qS b).2 rfl
 have tL:∀ c,I c->w'.heap[c]?=w.heap[c]?:=λc ab=>oj c λe=>bU.aF _ b (dG b l2) (e ▸ ab)
 have C0:∀ t,t≠p.root->¬ Fs t b:=λt aE h=>aE (bU.e8 _ _ _ h (dG b l2))
 have refs:∀ r u,(er w T g r u/\gK g2 r)->er w' T g2 r u:=λr u h=>⟨Si r u h.1.1,h.2⟩
 obtain ⟨fO,zK,nC⟩:=kg w' I (er w' T g2) (.mp gb) cO ⟨tL,λc ab aL=>oj c λe=>aL (e ▸ l2),λ_ h=>h,refs⟩ (.mp BE bN qS) λc h _=>h
 have zC:∀ c,fO c->Fs p.root c:=λc ab=>by
  rcases (nC c).1 ab with h | h
  ·exact h.1
  ·exact dG c h
 let cp:Nat->br:=λt c=>if t=p.root then fO c else g2 t≠none/\Fs t c
 have oE:∀ t c,cp t c->Fs t c:=by
  intro t c ab
  by_cases aE:t=p.root
  ·simp only [cp,if_pos aE] at ab; rw [aE]; exact zC c ab
  ·simp only [cp,if_neg aE] at ab; exact ab.2
 refine ⟨cp,⟨λt x J=>?_,λt aE c ab=>?_,λt ds c ab fu=>bU.e8 t ds c (oE t c ab) (oE ds c fu),λt c ab hi=>bU.aF t c (oE t c ab) hi,λc ab=>by rw [M1]; exact bU.lt c ab,λt ds z q n m new cN cY m' dq h1=>absurd h1 (k8 _ _ _ _ _ _)⟩,oE⟩
 ·have f':=xA t x J
  by_cases aE:t=p.root
  ·subst aE
   have An:fl.setAt p.path (.mp gb)=x:=by simpa [df,jO] using f'
   refine ⟨v0,iO,.tree ?_⟩
   have ve:cp p.root=fO:=by funext c; simp [cp]
   rw [<- An,ve]; exact zK
  ·rw [rm aE] at f'
   obtain ⟨u,hu,bj⟩:=bU.rel t x f'
   replace bj:=bj.hM (by rintro z q n m new rfl; exact k8 _ _ _ _ _ _ J)
   have ve:cp t=Fs t:=by
    funext c
    exact propext ⟨λh=>by simp only [cp,if_neg aE] at h; exact h.2,λh=>by simp only [cp,if_neg aE]; exact ⟨by rw [J]; simp,h⟩⟩
   refine ⟨u,hu,.tree ?_⟩
   rw [ve]
   exact (bj.wo (uc t x J x f')).frame tL (λ_ h=>h) refs λc ab=>oj c λe=>C0 t aE (e ▸ ab)
 ·by_cases h5:t=p.root
  ·exact jW (h5 ▸ aE)
  ·simp only [cp,if_neg h5] at ab; exact ab.1 aE
theorem P' {w:World}{b:Nat}{es hD:Array MapEntry}{c hA:Nat}(h:w.heap[b]?=some (.map es c)) (a:Addr):(setBlock w b (.map hD hA)).frozen? a=w.frozen? a:=by
 unfold World.frozen?
 by_cases e:a.block=b
 ·have h1:(setBlock w b (.map hD hA)).heap[a.block]?=some (.map hD hA):=by rw [e]; exact heap_setBlock_same h _
  have al:w.heap[a.block]?=some (.map es c):=by rw [e]; exact h
  rw [h1,al]
 ·rw [heap_setBlock_other h _ e]
theorem b9.TD {N:dW}{o:Oper}{t:TypeId}{m x v:Operand}{p:Place}{q gb:Array MapEntry->Nat->Prop}{Y Z x2:aj}{nL ep:Value}{G2:List (Nat × aj)}(bh:o.op=.mapUpdate t m x v) (aY:o.dst=none) (hm:bO g m=some (.hN p)) (aH:b7 g p=some (.mp q)) (J:bO g x=some Y) (az:bO g v=some Z)
  (eA:∀ (w:World) (I:br) (ρ:aj->Value->Prop) (v:Value),R w I ρ Y v cW->v=nL) (Fv:∀ (w:World) (I:br) (ρ:aj->Value->Prop) (v:Value),R w I ρ Z v cW->v=ep)
  (ay:∀ (w:World) (b:Nat) (es:Array MapEntry) (c:Nat),w.heap[b]?=some (.map es c)->q es c->∃ hD hA,(Instr.mapUpdate t (.map (some b)) nL ep).run P w=.ok () (setBlock w b (.map hD hA))/\gb hD hA)
  (ho:df g p (.mp gb) p.root=some x2) (jW:(get G2 p.root).isSome=true) {y0:aj}(s0:g p.root=some y0) [gP:cV y0] (ek:kY g (get G2) p.root x2 G2):b9 P N g o (get G2):=by
 refine .HL λw I T Fs h a bm bY K Q xx=>?_
 obtain ⟨⟨b,aJ,hv⟩,_⟩:=(ke h hm bm).LC
 obtain ⟨hQ,cO,iE,d',dG⟩:=h.part aH (by simp)
 have jU:=aJ
 rw [aJ] at iE
 cases iE
 obtain ⟨hT,es,c,e,b6,bN,qS⟩:=d'.GN
 cases e
 obtain ⟨hD,hA,h4,xH⟩:=ay w hT es c b6 bN
 have Sm:(execOp a.eval o).run P w=.ok .skip (setBlock w hT (.map hD hA)):=by
  simp [execOp,bh,hv,eA _ _ _ _ (ke h J bm),Fv _ _ _ _ (ke h az bm),h4]
 have c1:∀ t x,get G2 t=some x->df g p (.mp gb) t=some x:=λt x J=>by
  rcases ek.spec t x J with ⟨h1,al,_⟩ | ⟨h1,al,_⟩
  ·rw [rm h1]; exact al
  ·subst h1 al; exact ho
 have c2:∀ t x,get G2 t=some x->∀ y,g t=some y->jq (gK (get G2)) y:=λt x J y az=>by
  rcases ek.spec t x J with ⟨h1,al,aP⟩ | ⟨h1,al,aP⟩
  ·rw [al] at az; cases az
   rcases aP with aP | ⟨aP,_⟩
   ·cases aP with
    | n h=>exact .bI h
    | p _ _ b3 gO=>exact .ref rfl (s_ b3 gO)
    | r _ _ b3 nD=>exact .ref rfl (yp b3 nD)
   ·exact jq.ref (by cases aP; rfl) aP.Dw
  ·subst h1; rw [s0] at az; cases az; exact .bI gP.bI
 have kn:∀ t z q n m new,get G2 t≠some (.bR z q n m new):=λt z q n m new J=>by
  rcases ek.spec t _ J with ⟨_,_,aP | ⟨aP,_⟩⟩ | ⟨_,_,aP⟩
  ·exact aP.fR _ _ _ _ _ rfl
  ·exact aP.fR _ _ _ _ _ rfl
  ·cases aP
 obtain ⟨cp,eG,gE⟩:=h.TC (g2:=get G2) aH jU b6 xH c1 c2 kn (by intro e; rw [e] at jW; cases jW)
 unfold Oper.wp Oper.upon
 simp only [Sm]
 refine xx _ _ ⟨by rw [aY]; rfl,by rw [aY]; exact hR.refl,I,cp,by rw [aY]; simpa [Act.put,bm] using eG,⟨⟨rfl,rfl,rfl,by simp [setBlock],λk _ hk=>heap_setBlock_other b6 _ λe=>hk ⟨_,e ▸ dG hT ((qS hT).2 rfl)⟩,λa _=>P' b6 a,Nat.le_refl _⟩,λ_ h=>h,λ_ h=>.inl h,λc ⟨t,ab⟩=>.inl ⟨t,gE t c ab⟩⟩⟩ λt _=>by rw [aY]; rfl
end
end Go.Own
namespace Go.Own
open Go Go.MapKept Go.ChangeMaps Go.WideElems
open Go.Maps (Keyed)
set_option linter.unusedVariables false
variable {km lj:Type}{P:Program}{k e:TypeId}
abbrev w3:Value->Option (DataW Value × List MemPlace):=λv=>some (.held v,[])
def og [DecidableEq km]:List (km × lj)->km->Option lj
 | [],_=>none
 | p::m,x=>if p.1=x then some p.2 else og m x
def ra [DecidableEq km] (ok:km->Bool) (z:lj) (m:List (km × lj)) (x:km):Option lj:=if ok x then some ((og m x).getD z) else none
def xU (ok:km->Bool) (m:List (km × lj)) (x:km) (y:lj):Option (List (km × lj)):=if ok x&&decide (m.length<=lim) then some ((x,y)::m) else none
structure yN (P:Program) (k:TypeId) (km:Type) where
 nL:km->Value
 vM:km->Lit
 Au:km->aj
 ok:km->Bool
 keyed:Keyed P k
 key:∀ x,ok x=true->keyOf P k (nL x)=some (vM x)
 inj:∀ x y,vM x=vM y->x=y
 uU:∀ (x:km) (w:World) (I:br) (ρ:aj->Value->Prop) (v:Value),R w I ρ (Au x) v cW->v=nL x
structure yO (P:Program) (e:TypeId) (lj:Type) where
 oi:lj->Value
 yA:lj->aj
 z:lj
 zero:∀ w,(zeroValue e).run P w=.ok (oi z) w
 one:∀ x,(oi x).oneCell'=true
 uU:∀ (x:lj) (w:World) (I:br) (ρ:aj->Value->Prop) (v:Value),R w I ρ (yA x) v cW->v=oi x
 va:∀ (x:lj) (w:World) (I:br) (ρ:aj->Value->Prop),R w I ρ (yA x) (oi x) cW
def wx (P:Program) (k:TypeId) (es:Array MapEntry):List (Lit × DataW Value):=(es.toList.map (rg P k w3)).foldr DataW.insert []
def kB [DecidableEq km] (K:yN P k km) (V:yO P e lj) (m:List (km × lj)):Array MapEntry->Nat->Prop:=λes c=>Fit P k w3 es c/\es.size<=m.length/\∀ x D2,(DataW.map (wx P k es)).atKey (K.vM x) D2=match og m x with | some y=>.held (V.oi y) | none=>D2
variable [DecidableEq km] {K:yN P k km}{V:yO P e lj}{m m':List (km × lj)}{x:km}{y:lj}{t:TypeId}
theorem kB.nil:kB K V [] #[] 0:=⟨⟨by simp,stamped_empty 0,by simp⟩,Nat.le_refl _,λx D2=>rfl⟩
theorem kB.look (ok:Bool) (fo:K.ok x=true) (aE:P.underlying t=some (.map k e)) (w:World) (b:Nat) (es:Array MapEntry) (c:Nat) (aJ:w.heap[b]?=some (.map es c)) (h:kB K V m es c) :
  (Instr.lookup t (.map (some b)) (K.nL x) ok).run P w=.ok (if ok then .tuple #[V.oi ((og m x).getD V.z),.bool (og m x).isSome] else V.oi ((og m x).getD V.z)) w:=by
 obtain ⟨F,_,gu⟩:=h
 have gu:=gu x
 rcases Maps.fit_look ok K.keyed aE (V.zero w) aJ F (K.key x fo) with ⟨h4,_,al⟩ | ⟨kG,y,_,_,h4,az,al,_⟩
 ·have:og m x=none:=by
   cases a':og m x with
   | none=>rfl
   | some y =>
    have h1:=gu .nil
    rw [a'] at h1
    have aP:=al .nil
    unfold wx at h1
    rw [h1] at aP; cases aP
  rw [h4,this]; rfl
 ·cases az
  cases a':og m x with
  | none =>
   have h1:=gu .nil
   rw [a'] at h1
   have aP:=al .nil
   unfold wx at h1
   rw [h1] at aP; cases aP
  | some y =>
   have h1:=gu .nil
   rw [a'] at h1
   have aP:=al .nil
   unfold wx at h1
   rw [h1] at aP
   have b3:kG.val=V.oi y:=by simpa using aP.symm
   rw [h4,b3]; rfl
theorem kB.put (bd:xU K.ok m x y=some m') (aE:P.underlying t=some (.map k e)) (w:World) (b:Nat) (es:Array MapEntry) (c:Nat) (aJ:w.heap[b]?=some (.map es c)) (h:kB K V m es c) :
  ∃ hD hA,(Instr.mapUpdate t (.map (some b)) (K.nL x) (V.oi y)).run P w=.ok () (setBlock w b (.map hD hA))/\kB K V m' hD hA:=by
 unfold xU at bd
 split at bd
 ·rename_i ab
  cases bd
  simp only [Bool.and_eq_true,decide_eq_true_eq] at ab
  obtain ⟨fo,ao⟩:=ab
  obtain ⟨F,aM,gu⟩:=h
  have K0:=K.key x fo
  obtain ⟨hD,hA,h4,fO,na,_⟩:=Maps.fit_store (R':=w3) K.keyed aE aJ F (by have:maxLen=9223372036854775807:=rfl; simp only [lim] at ao; omega) (λ_ _ _ _ bJ=>bJ) K0 (rfl:w3 (V.oi y)=some (.held (V.oi y),[]))
  refine ⟨hD,hA,h4,fO,?_,λx' D2=>?_⟩
  ·have dy:hD.size=((hD.toList.map (rg P k w3)).foldr DataW.insert []).length:=by rw [length_sorted]; simp
   rw [dy,na]
   unfold putKey
   rw [length_insert]
   have de:=List.length_filter_le (notKey (K.vM x)) ((es.toList.map (rg P k w3)).foldr DataW.insert [])
   rw [length_sorted] at de
   simp at de ⊢
   omega
  ·have jM:(DataW.map (wx P k hD))=(DataW.map (wx P k es)).put (K.vM x) (.held (V.oi y)):=by
    rw [DataW.put_eq]; unfold wx; rw [na]
   rw [jM]
   by_cases J:x=x'
   ·subst J
    rw [Maps.atKey_put_same ⟨_,rfl⟩ (K.keyed.key K0)]
    simp [og]
   ·rw [Maps.atKey_put_other (λe=>J (K.inj _ _ e).symm),gu]
    simp [og,J]
 ·cases bd
section
variable {N:dW}{g:aZ}{a b c:Operand}{p:Place}{ty:TypeId}
instance {q:Array MapEntry->Nat->Prop}:cV (.mp q):=⟨.mp⟩
instance {q:Array MapEntry->Nat->Prop}:cV (.imp q):=⟨.imp⟩
instance {q:Array MapEntry->Nat->Prop}:qz (.mp q):=⟨.mp⟩
theorem O.TB (K:yN P k km) (V:yO P e lj):dJ P g (.makeMap t none) ty (.mp (kB K V [])):=.qi (.makeMap kB.nil)
theorem O.qd {r:lj}{X Y:aj}(hm:Rd g a (.hN p)) (aH:b7 g p=some (.mp (kB K V m))) (J:Rd g b Y) (zN:K.Au x=Y) (aE:P.underlying t=some (.map k e)) (h:ra K.ok V.z m x=some r) (zM:V.yA r=X):dJ P g (.lookup t a b false) ty X:=by
 subst zM zN
 unfold ra at h
 split at h
 ·rename_i fo
  cases h
  exact .fA (.Dl hm.bO aH J.bO (K.uU x) (V.va _) λw b es c aJ bN=>kB.look false fo aE w b es c aJ bN)
 ·cases h
theorem O.Ay {r:lj}{X Y:aj}(hm:Rd g a (.imp (kB K V m))) (J:Rd g b Y) (zN:K.Au x=Y) (aE:P.underlying t=some (.map k e)) (h:ra K.ok V.z m x=some r) (zM:V.yA r=X):dJ P g (.lookup t a b false) ty X:=by
 subst zM zN
 unfold ra at h
 split at h
 ·rename_i fo
  cases h
  exact .fA (.Ay hm.bO J.bO (K.uU x) (V.va _) λw b es c aJ bN=>kB.look false fo aE w b es c aJ bN)
 ·cases h
theorem b9.mt {o:Oper}{x2 y0 Y Z:aj}{G2:List (Nat × aj)}(bh:o.op=.mapUpdate t a b c) (aY:o.dst=none) (hm:Rd g a (.hN p)) (aH:b7 g p=some (.mp (kB K V m))) (J:Rd g b Y) (zN:K.Au x=Y) (az:Rd g c Z) (Fv:V.yA y=Z) (aE:P.underlying t=some (.map k e)) (h:xU K.ok m x y=some m')
  (ho:df g p (.mp (kB K V m')) p.root=some x2) (jW:(get G2 p.root).isSome=true) (s0:g p.root=some y0) [gP:cV y0] (ek:kY g (get G2) p.root x2 G2):b9 P N g o (get G2):=by
 subst zN Fv
 exact .TD bh aY hm.bO aH J.bO az.bO (K.uU x) (V.uU y) (λw b es c aJ bN=>kB.put h aE w b es c aJ bN) ho jW s0 ek
end
def q' (n:Int):Bool:=decide (-9223372036854775808<=n/\n<9223372036854775808)
def Nr (hk:P.underlying k=some (.int .i64)):yN P k Int where
 nL n:=.int .i64 n
 vM n:=.int .i64 n
 Au n:=j n
 ok:=q'
 keyed:=Maps.int_keyed hk
 key n h:=Maps.keyOf_int_mk hk (by
  unfold q' at h
  have:=of_decide_eq_true h
  unfold Lit.wf
  rw [Bool.and_eq_true]
  refine ⟨decide_eq_true ?_,decide_eq_true ?_⟩
  ·show (-9223372036854775808:Int)<=n; omega
  ·show n<=(9223372036854775807:Int); omega)
 inj x y h:=by cases h; rfl
 uU x w I ρ v h:=h.im.1
def Ns (bJ:(P.info? e).bind (·.zero)=some (.int .i64 0)):yO P e Int where
 oi n:=.int .i64 n
 yA n:=j n
 z:=0
 zero w:=Eu bJ w
 one _:=rfl
 uU x w I ρ v h:=h.im.1
 va x w I ρ:=.lit rfl λ_ h=>h
end Go.Own
namespace Go.Own
open Go
section
variable {α:Type}{P:Program}{N:dW}{g:aZ}{d r:Nat}{ty t t2 e:TypeId}{a b:Operand}{k l_:IntKind}{m n:Int}{p:Place}
def LA (L:List α) (m:Int):Option Unit:=if 0<=m/\m<=L.length then some () else none
instance:uP aG:=⟨λx=>[.int .i64 x],λ_=>rfl,λx v hv=>by rw [List.mem_singleton.1 hv]; rfl⟩
theorem O.MF {en:cD α}{L:List α}{u:Unit}(J:Rd g a (.bl en.z p L.length)) (ao:Rd g b (.lit (.int k m))) (aH:b7 g p=some (ak en L)) (aE:fB P t e en.z=true) (h:LA L m=some u):dJ P g (.slice t a (some b) none none) ty (.sub en.z p m.toNat (L.length - m.toNat)):=by
 unfold LA at h
 split at h
 ·rename_i ab
  obtain ⟨i,rfl⟩:=Int.eq_ofNat_of_zero_le ab.1
  exact .fA (.DP J.bO ⟨_,ao.bO⟩ rfl aE (by omega) (Nat.le_refl _) ⟨_,_,aH,by omega⟩)
 ·cases h
def JI (lo nd:Nat) (L S:List α):Option (List α):=if 0<min S.length nd/\lo+nd<=L.length then some (L.take lo++S.take (min S.length nd)++L.drop (lo+min S.length nd)) else none
def AB (e:cD α) [h:uP e] (L:List α):List Value:=L.flatMap h.DY
theorem Hd (e:cD α) [h:uP e] (L:List α):ch e L=(AB e L).map .lit:=by
 induction L with
 | nil=>rfl
 | cons x L aR =>
  have:ch e (x::L)=e.cells x++ch e L:=by simp [ch]
  rw [this,aR,h.cells]
  simp [AB]
theorem Nv.aF {en:cD α}{S:List α}:Src g (ag en S) en.z S.length (ch en S):=.aF
theorem Nv.bl {en:cD α} [uP en] {L:List α}{q:Place}{n:Nat}(bN:b7 g q=some (ak en L)) (aL:n<=L.length):Src g (.bl en.z q n) en.z (L.take n).length (ch en (L.take n)):=by
 have h1:(L.take n).length=n:=by rw [List.length_take]; omega
 have al:ch en (L.take n)=(((ch en L).take (n * en.z)).mapIdx λi x=>ib 0 (q.push i) x):=by
  rw [yr,Hd]
  apply List.ext_getElem?
  intro af
  rw [List.getElem?_mapIdx]
  cases aa:((AB en (L.take n)).map aj.lit)[af]? with
  | none=>rfl
  | some y =>
   obtain ⟨v,_,rfl⟩:=List.mem_map.1 (List.mem_of_getElem? aa)
   rfl
 rw [h1,al]
 exact .bl bN aL
theorem UA {z:Nat}(h:fB P t e z=true):(P.info? e).map (·.size)=some z:=by
 unfold fB at h
 cases hu:P.underlying t with
 | none=>simp [hu] at h
 | some d =>
  cases hi:P.info? e with
  | none=>cases d <;> simp [hu,hi] at h
  | some i=>cases d <;> simp [hu,hi] at h; simp [h]
theorem b9.cb {o:Oper}{en:cD α} [ao:uP en] {L S h8:List α}{lo nd:Nat}{Ic hf:aj}{G2:List (Nat × aj)}(bh:o.op=.call { callee:=.builtin .copy,args:=#[a,b],argTypes:=#[t,t2] }) (aY:o.dst=some d) (bm:bO g a=some Ic) (Tb:Ic=.sub en.z ⟨r,[]⟩ lo nd\/(Ic=.bl en.z ⟨r,[]⟩ nd/\lo=0)) (aJ:bO g b=some hf)
  (q2:Src g hf en.z S.length (ch en S)) (aM:g r=some (ak en L)) (xP:en.z=1) (aE:fB P t e 1=true) (h:JI lo nd L S=some h8) (jW:(get G2 r).isSome=true) (ek:kY g (get G2) r (ak en h8) G2) (tV:get G2 d=none) (bY:N.ok d=true) :
  b9 P N g o (get ((d,j ((min S.length nd:Nat):Int))::G2)):=by
 unfold JI at h
 by_cases ab:0<min S.length nd/\lo+nd<=L.length
 case neg=>rw [if_neg ab] at h; cases h
 rw [if_pos ab] at h
 obtain ⟨tZ,Wo⟩:=ab
 cases h
 generalize hk:min S.length nd=k at *
 have Wn:k<=S.length:=by omega
 have Wp:k<=nd:=by omega
 refine .HL λw I T Fs h cI CQ QX K Q xx=>?_
 obtain ⟨hu,he,gv⟩:=pH (w:=w) aE
 have aH:b7 g ⟨r,[]⟩=some (ak en L):=by simp [b7,aM,aj.at]
 have Ky:=ke h bm CQ
 obtain ⟨v0,cO,iO,d',dG⟩:=h.part aH (by simp)
 obtain ⟨a0,VG,rfl,k7,hlen,p8,rT⟩:=d'.mJ
 have QT:0<L.length:=by omega
 cases a0 with
 | none=>have:=rT QT; simp at this
 | some IG =>
 obtain ⟨z6,z7⟩:=p8 IG rfl
 obtain ⟨g0,WR,WT⟩:=IG
 simp only at z6 z7
 subst z6 z7
 have l2:cO g0:=d'.pA g0 rfl
 -- the target
 have FI:∃ cap,cI.eval a=.slice (some ⟨g0,lo,none⟩) nd cap:=by
  rcases Tb with rfl | ⟨rfl,rfl⟩
  ·obtain ⟨⟨k1,tn,I_,aw,c1,h1,al,_,_,dF⟩,_⟩:=Ky.vD
   rw [h1] at iO
   cases iO
   obtain ⟨ad,dy,de⟩:=dF (by omega)
   cases dy
   rw [al,de,xP]
   exact ⟨c1,by simp⟩
  ·obtain ⟨⟨k1,tn,I_,h1,al,_⟩,_⟩:=Ky.mG
   rw [h1] at iO
   cases iO
   exact ⟨_,al⟩
 obtain ⟨PF,FI⟩:=FI
 -- the source
 obtain ⟨Br,Uu,news,sT,F_,Af,lL,h3,gW,bj⟩:=q2.sound h (ke h aJ CQ)
 rw [xP,Nat.mul_one] at F_
 cases Br with
 | none=>have:=Af (by omega) (by omega); simp at this
 | some Mu =>
 have Wy:news=AB en S:=by
  rw [Hd,List.length_map] at h3
  apply List.ext_getElem h3.symm
  intro af h1 al
  have:=(bj af (.lit (AB en S)[af]) news[af] (by rw [Hd,List.getElem?_map,List.getElem?_eq_getElem al]; rfl) (List.getElem?_eq_getElem h1)).im.1
  exact this
 -- the block
 cases d' with
 | ref J=>simp [aj.isRef] at J
 | @own _ _ _ _ cX us bK _ oJ ia h1 ay nZ kb aQ =>
 obtain ⟨mD,b6⟩:=oJ
 rcases b6 with ⟨b6,_⟩ | ⟨hT,cap,cur,b6,ql,gx,s8,rh,uz,s9⟩
 ·cases b6
 cases b6
 have KJ:L.length<=cur.size:=by
  have tJ:(cur.toList.take (L.length * en.z)).length=L.length * en.z:=by rw [s9,mD]
  rw [List.length_take,xP,Nat.mul_one,Array.length_toList] at tJ
  rw [xP] at uz
  omega
 have CT:(news.take k).length=k:=by rw [List.length_take]; omega
 have h4:(execOp cI.eval o).run P w=.ok (.value (goInt k)) (w.setRow g0 (fY cur.toList lo (news.take k)).toArray):=by
  have qQ:=run_copy_row (P:=P) w t t2 o.type e g0 lo nd PF Mu S.length Uu cur cX (news.take k) hu (UA aE) gx (by rw [CT]; exact hk.symm) (λaf v aa=>by
   rw [List.getElem?_take] at aa
   split at aa
   ·exact lL Mu rfl af v aa
   ·cases aa) (by rw [CT]; omega) (λv hv=>by
   obtain ⟨af,aa⟩:=List.getElem?_of_mem (List.mem_of_mem_take hv)
   exact gW af v aa)
  rw [CT] at qQ
  have qL:(cur.toList.take lo++news.take k++cur.toList.drop (lo+k))=fY cur.toList lo (news.take k):=by unfold fY; rw [CT]
  rw [qL] at qQ
  simp [execOp,bh,resolve,invoke,FI,sT,builtin,qQ]
 -- the state
 have Sj:∀ (af:Nat) (x:aj) (u:Value),((ch en S).take k)[af]?=some x->(news.take k)[af]?=some u->R w I (fV w T) x u cW:=λaf x u J hu=>by
  rw [List.getElem?_take] at J hu
  split at J
  ·rename_i aa
   rw [if_pos aa] at hu
   exact (bj af x u J hu).frame (λ_ _=>rfl) (λ_ h=>h) (λ_ _ h=>h.1) λ_ _=>rfl
  ·cases J
 have hH:Hand w I (fV w T) Fs ((ch en S).take k) (news.take k) (λ_=>cW) :=
  ⟨by rw [List.length_take,List.length_take,h3],Sj,λ_ _ _ _ _ h=>h.elim,λ_ _ _ _ h=>h.elim,λ_ _ _ h=>h.elim⟩
 have KI:((ch en S).take k).length=k:=by rw [List.length_take,h3]; omega
 have QS:(ch en L).length=L.length:=by rw [ob,xP,Nat.mul_one]
 have q0:(ak en L).fY lo ((ch en S).take k)=ak en (L.take lo++S.take k++L.drop (lo+k)):=by
  show aj.own en.z L.length (fY (ch en L) lo ((ch en S).take k))=_
  have dy:fY (ch en L) lo ((ch en S).take k)=ch en (L.take lo++S.take k++L.drop (lo+k)):=by
   unfold fY
   rw [KI,wq,wq]
   have j3:=yr en L lo
   have DE:=yr en S k
   have Bp:=Bq en L (lo+k)
   rw [xP,Nat.mul_one] at j3 DE Bp
   rw [j3,DE,Bp]
  unfold ak
  rw [dy]
  congr 1
  simp; omega
 have Sb:∀ (af:Nat) (u:Value),(news.take k)[af]?=some u->u.oneCell'=true:=λaf u hu=>by
  rw [List.getElem?_take] at hu
  split at hu
  ·exact gW af u hu
  ·cases hu
 have c1:∀ t x,get G2 t=some x->df g ⟨r,[]⟩ ((ak en L).fY lo ((ch en S).take k)) t=some x:=λt x J=>by
  rw [q0]
  rcases ek.spec t x J with ⟨h1,al,_⟩ | ⟨h1,al,_⟩
  ·rw [rm h1]; exact al
  ·subst h1 al; simp [df,aM,aj.setAt]
 have c2:∀ t x,get G2 t=some x->∀ y,g t=some y->jq (λq=>gK g q/\Clear ⟨r,[]⟩ lo ((ch en S).take k).length q/\gK (get G2) q) y:=λt x J y az=>by
  rcases ek.spec t x J with ⟨h1,al,aP⟩ | ⟨h1,al,aP⟩
  ·rw [al] at az; cases az
   rcases aP with aP | ⟨_,c2,PL⟩
   ·exact aP.HA
   ·cases PL
  ·subst h1; rw [aM] at az; cases az; exact .bI (.own (oc en L))
 have kn:∀ t z q n m new,get G2 t≠some (.bR z q n m new):=λt z q n m new J=>by
  rcases ek.spec t _ J with ⟨_,_,aP | ⟨aP,_⟩⟩ | ⟨_,_,aP⟩
  ·exact aP.fR _ _ _ _ _ rfl
  ·exact aP.fR _ _ _ _ _ rfl
  ·cases aP
 obtain ⟨je,il,gE⟩:=h.mi.store (g2:=get G2) aH (.inl rfl) (k:=lo) (cs':=(ch en S).take k) (by rw [KI,QS]; omega) hH (λx J=>oc en S x (List.mem_of_mem_take J)) Sb c1 c2 kn (by intro e; rw [e] at jW; cases jW) iO rfl gx
 have na:=il.s6 (d:=d) (x:=j (k:Int)) (v:=goInt k) (F:=cW) tV (by rw [<- CQ,QX]; exact dW.lt bY) (.tree (.lit rfl λ_ h=>h)) (λ_ _ h=>h.elim) (λ_ h=>h.elim) (by rintro z p n m new e; cases e)
 unfold Oper.wp Oper.upon
 simp only [h4]
 have qL:get ((d,j (k:Int))::G2)=e' (get G2) d (j (k:Int)):=by
  funext t
  rw [tG]
 rw [<- qL] at na
 have FC:∃ t,Fs t g0:=⟨_,dG g0 l2⟩
 refine xx _ _ ⟨by rw [aY]; rfl,by rw [aY]; exact hR.put bY _ _,I,_,by rw [aY]; simpa [Act.put,CQ] using na,⟨⟨rfl,rfl,rfl,by simp,λc _ ab=>setRow_other w g0 c _ (λe=>ab (e ▸ FC)),λa _=>E8 w g0 _ a,Nat.le_refl _⟩,λ_ h=>h,λ_ h=>.inl h,λc ab=>?_⟩⟩ λt aE=>by rw [aY]; simp only [Act.put]; rw [Array.getElem?_setIfInBounds_ne]; rintro rfl; exact aE aY
 obtain ⟨t,ab⟩:=ab
 simp only [td] at ab
 split at ab
 ·exact ab.elim
 ·rcases gE t c ab with gL | ⟨_,_,gL⟩
  ·exact .inl ⟨t,gL⟩
  ·exact gL.elim
end
end Go.Own
namespace Go.Own
open Go
def DJ (eO:List Nat) (o:Oper):Oper:=⟨o.dst,o.op,o.type,o.pos,o.after.map λe=>⟨eO.idxOf e.on,e.ground⟩,o.guard.map λp=>(eO.idxOf p.1,p.2)⟩
def kP (eO:List Nat) (l:List Oper):List Oper:=eO.map λk=>DJ eO (l.getD k default)
def Hq (eO:List Nat) (n:Nat):Bool:=Nat.beq eO.length n&&(List.range n).all λk=>eO.contains k&&Nat.blt (eO.getD k n) n&&Nat.beq (eO.idxOf (eO.getD k n)) k
structure Perm (eO:List Nat) (n:Nat):Prop where
 len:eO.length=n
 mem:∀ k,k<n->eO.idxOf k<n/\eO.getD (eO.idxOf k) n=k
 lt:∀ af,af<n->eO.getD af n<n/\eO.idxOf (eO.getD af n)=af
theorem TY {eO:List Nat}{n:Nat}(h:Hq eO n=true):Perm eO n:=by
 unfold Hq at h
 simp only [Bool.and_eq_true,Nat.beq_eq,List.all_eq_true,List.mem_range,Nat.blt_eq] at h
 obtain ⟨ao,hl⟩:=h
 refine ⟨ao,λk hk=>?_,λaf aa=>⟨(hl af aa).1.2,(hl af aa).2⟩⟩
 have hm:k∈eO:=by have:=(hl k hk).1.1; simpa using this
 have h1:=List.idxOf_lt_length_iff.2 hm
 refine ⟨by omega,?_⟩
 rw [List.getD_eq_getElem?_getD,List.getElem?_eq_getElem h1,List.getElem_idxOf]
 rfl
section
variable {P:Program}{Q:Exit->Act->World->Prop}{eO:List Nat}{l:List Oper}
theorem Hr (jy:Perm eO l.length) {af:Nat}(aa:af<l.length):(kP eO l).toArray[af]?=some (DJ eO (l.getD (eO.getD af l.length) default))/\l.toArray[eO.getD af l.length]?=some (l.getD (eO.getD af l.length) default):=by
 have h1:af<eO.length:=by rw [jy.len]; exact aa
 have al:=(jy.lt af aa).1
 constructor
 ·simp only [kP,List.getElem?_toArray,List.getElem?_map,List.getD_eq_getElem?_getD,List.getElem?_eq_getElem h1,Option.map_some,Option.getD_some]
 ·rw [List.getElem?_toArray,List.getD_eq_getElem?_getD (l:=l),List.getElem?_eq_getElem al]; rfl
theorem L8 (jy:Perm eO l.length) {A B:Array Bool}(e9:A.size=l.length) (iC:B.size=l.length) (p4:∀ af,af<l.length->B.getD af true=A.getD (eO.getD af l.length) true) {af:Nat}(aa:af<l.length) :
  eO.getD af l.length∈Region.ready .any l.toArray A↔af∈Region.ready .any (kP eO l).toArray B:=by
 obtain ⟨h1,al⟩:=Hr jy aa
 have MS:∀ {C:Array Bool}{k:Nat},k<C.size->C.getD k false=C.getD k true:=λ{C k} h=>by simp [Array.getD,h]
 have gone:∀ {C:Array Bool}{k:Nat},¬ k<C.size->C.getD k false=false:=λ{C k} h=>by simp [Array.getD,h]
 have JO:∀ m,A.getD m false=true↔B.getD (eO.idxOf m) false=true:=λm=>by
  by_cases hm:m<l.length
  ·obtain ⟨aP,b3⟩:=jy.mem m hm
   rw [MS (by omega),MS (by omega),p4 _ aP,b3]
  ·have dF:¬ eO.idxOf m<l.length:=λh=>by
    have e0:=List.idxOf_lt_length_iff.1 (by rw [jy.len]; exact h)
    obtain ⟨i,hi,e⟩:=List.mem_iff_getElem.1 e0
    have:=(jy.lt i (by rw [<- jy.len]; exact hi)).1
    rw [List.getD_eq_getElem?_getD,List.getElem?_eq_getElem hi] at this
    simp only [Option.getD_some] at this
    omega
   rw [gone (by omega),gone (by omega)]
 rw [mem_ready,mem_ready,p4 af aa]
 constructor
 ·rintro ⟨a,o,bh,h⟩
  rw [al] at bh
  cases bh
  refine ⟨a,_,h1,λe he aJ=>?_⟩
  obtain ⟨kG,RK,rfl⟩:=Array.mem_map.1 he
  exact (JO _).1 (h kG RK aJ)
 ·rintro ⟨a,o,bh,h⟩
  rw [h1] at bh
  cases bh
  refine ⟨a,_,al,λe he aJ=>?_⟩
  exact (JO _).2 (h ⟨eO.idxOf e.on,e.ground⟩ (Array.mem_map.2 ⟨e,he,rfl⟩) aJ)
theorem T0 (jy:Perm eO l.length) (o:Oper) (T:Array Value):Region.wanted (DJ eO o) (yielded (kP eO l).toArray T)=Region.wanted o (yielded l.toArray T):=by
 unfold Region.wanted DJ
 cases a':o.guard with
 | none=>rfl
 | some p =>
  obtain ⟨m,b⟩:=p
  simp only [Option.map_some]
  have:yielded (kP eO l).toArray T (eO.idxOf m)=yielded l.toArray T m:=by
   unfold yielded
   by_cases hm:m<l.length
   ·obtain ⟨aP,b3⟩:=jy.mem m hm
    obtain ⟨h1,al⟩:=Hr jy aP
    rw [b3] at h1 al
    rw [h1,al]
    rfl
   ·have dF:¬ eO.idxOf m<l.length:=λh=>by
     have e0:=List.idxOf_lt_length_iff.1 (by rw [jy.len]; exact h)
     obtain ⟨i,hi,e⟩:=List.mem_iff_getElem.1 e0
     have:=(jy.lt i (by rw [<- jy.len]; exact hi)).1
     rw [List.getD_eq_getElem?_getD,List.getElem?_eq_getElem hi] at this
     simp only [Option.getD_some] at this
     omega
    have dy:(kP eO l).toArray[eO.idxOf m]?=none:=by
     rw [List.getElem?_toArray]; exact List.getElem?_eq_none (by simp [kP,jy.len]; omega)
    have de:l.toArray[m]?=none:=by rw [List.getElem?_toArray]; exact List.getElem?_eq_none (by omega)
    rw [dy,de]
  rw [this]
theorem TZ (jy:Perm eO l.length):∀ (fuel:Nat) (A B:Array Bool) (a:Act) (w:World),A.size=l.length->B.size=l.length->(∀ af,af<l.length->B.getD af true=A.getD (eO.getD af l.length) true) ->
  wpAny P .any (kP eO l).toArray Q fuel B a w->wpAny P .any l.toArray Q fuel A a w:=by
 have lift:∀ {A B:Array Bool},A.size=l.length->B.size=l.length->(∀ af,af<l.length->B.getD af true=A.getD (eO.getD af l.length) true)->∀ k,k∈Region.ready .any l.toArray A->∃ af,af<l.length/\eO.getD af l.length=k/\af∈Region.ready .any (kP eO l).toArray B:=λ{A B} e9 iC p4 k hk=>by
  have eh:k<l.length:=by
   obtain ⟨_,o,bh,_⟩:=mem_ready.1 hk
   have:=(Array.getElem?_eq_some_iff.1 bh).1
   simpa using this
  obtain ⟨aP,b3⟩:=jy.mem k eh
  exact ⟨_,aP,b3,(L8 jy e9 iC p4 aP).1 (by rw [b3]; exact hk)⟩
 have nil:∀ {A B:Array Bool},A.size=l.length->B.size=l.length->(∀ af,af<l.length->B.getD af true=A.getD (eO.getD af l.length) true)->Region.ready .any l.toArray A=[]->Region.ready .any (kP eO l).toArray B=[]:=λ{A B} e9 iC p4 h=>by
  cases ay:Region.ready .any (kP eO l).toArray B with
  | nil=>rfl
  | cons af r =>
   have aa:af∈Region.ready .any (kP eO l).toArray B:=by rw [ay]; simp
   have fr:af<l.length:=by
    obtain ⟨_,o,bh,_⟩:=mem_ready.1 aa
    have:=(Array.getElem?_eq_some_iff.1 bh).1
    simpa [kP,jy.len] using this
   have:=(L8 jy e9 iC p4 fr).2 aa
   rw [h] at this; cases this
 intro fuel
 induction fuel with
 | zero =>
  intro A B a w e9 iC p4 h
  refine ⟨?_,h.2⟩
  cases ay:Region.ready .any l.toArray A with
  | nil=>rfl
  | cons k r =>
   obtain ⟨af,_,_,aa⟩:=lift e9 iC p4 k (by rw [ay]; simp)
   rw [h.1] at aa; cases aa
 | succ fuel aR =>
  intro A B a w e9 iC p4 h
  refine ⟨λay=>h.1 (nil e9 iC p4 ay),λk hk=>?_⟩
  obtain ⟨af,fr,rfl,aa⟩:=lift e9 iC p4 k hk
  have aM:=h.2 af aa
  obtain ⟨h1,al⟩:=Hr jy fr
  have QA:∀ i,i<l.length->(B.setIfInBounds af true).getD i true=(A.setIfInBounds (eO.getD af l.length) true).getD (eO.getD i l.length) true:=λi hi=>by
   have bg:=(jy.lt af fr).1
   have F4:=(jy.lt i hi).1
   have e:∀ (C:Array Bool) (p q:Nat),p<C.size->q<C.size->(C.setIfInBounds p true).getD q true=if q=p then true else C.getD q true:=λC p q aH bN=>by
    by_cases h:q=p
    ·subst h; simp [Array.getD,bN]
    ·rw [if_neg h]; simp [Array.getD,bN,Array.getElem_setIfInBounds_ne,Ne.symm h]
   rw [e B af i (by omega) (by omega),e A _ _ (by omega) (by omega),p4 i hi]
   by_cases h:i=af
   ·subst h; simp
   ·rw [if_neg h,if_neg]
    intro aS
    have:=(jy.lt i hi).2
    rw [aS,(jy.lt af fr).2] at this
    exact h this.symm
  have mono:∀ a w,wpAny P .any (kP eO l).toArray Q fuel (B.setIfInBounds af true) a w->wpAny P .any l.toArray Q fuel (A.setIfInBounds (eO.getD af l.length) true) a w:=λa w aS=>aR _ _ a w (by simpa using e9) (by simpa using iC) QA aS
  unfold wpOp at aM ⊢
  rw [al]
  rw [h1] at aM
  simp only [T0 jy] at aM
  show if Region.wanted (l.getD (eO.getD af l.length) default) (yielded l.toArray a.tmps)=true then _ else _
  split
  ·rename_i hw
   rw [if_pos hw] at aM
   exact aM.imp (λaS=>Oper.wp_mono mono aS) id
  ·rename_i hw
   rw [if_neg hw] at aM
   exact mono _ _ aM
end
section
variable {P:Program}{N:dW}
theorem W.T8 {id:Nat}{l:List Oper}{G:List (Nat × aj)}{Φ:Exit->aZ->Prop}(eO:List Nat) (cc:List (List Nat)) (G1:List (Nat × aj)) (hm:P.follows .mixedOrders=true) (e9:rF (kP eO l).toArray cc=true) (jy:Hq eO l.length=true)
  (h:bC P N (kP eO l).toArray cc (get G) 0 [] (kP eO l) λg'=>kZ g' (get G1)) (hk:ah .normal Φ G1):W P N (.region id l.toArray true) (get G) Φ:=by
 have aH:=TY jy
 obtain ⟨g',h1,al⟩:=h [] 0 .nil .nil (by simp)
 have gv:(kP eO l).toArray.size=l.length:=by simp [kP,aH.len]
 refine gJ.w (g':=g') (e:=.normal) ?_ (hk g' (.gd al .gk))
 intro Q a w I Fs bU bY ef
 refine wp_region_any hm ?_
 have eG:c_ w.drew I a.tmps (get G) Fs:=bU.world (λ_ _ _=>rfl) (λ_ _=>rfl) (Nat.le_refl _)
 have hl:∀ k,fa (Array.replicate (kP eO l).toArray.size false) k=false:=by
  intro k
  unfold fa
  rcases Nat.lt_or_ge k (kP eO l).toArray.size with h | h
  ·simp only [gv] at h ⊢; simp [h]
  ·simp only [gv] at h ⊢; simp [Array.getElem?_eq_none (show (Array.replicate l.length false).size<=k by simpa using h)]
 refine TZ aH _ _ (Array.replicate l.length false) a w.drew (by simp) (by simp) (λaf aa=>?_) ?_
 ·have:=(aH.lt af aa).1
  rw [List.getD_eq_getElem?_getD] at this
  simp [Array.getD,aa]
  exact this
 have tJ:=h1.sound e9 .nil (kP eO l).toArray.size (Array.replicate (kP eO l).toArray.size false) a w.drew I Fs ?_ (by simp) (λk hk=>by omega) (λk _=>hl k) (λk hk=>by rw [hl] at hk; cases hk) eG bY (λcI w' aL=>ef _ _ ?_)
 ·simpa [gv] using tJ
 ·unfold hV
  exact Nat.le_trans (List.length_filter_le _ _) (by simp)
 ·obtain ⟨dy,de,I',cp,il,cm⟩:=aL
  exact ⟨dy,de,I',cp,il,⟨⟨cm.fJ.os,cm.fJ.tape,cm.fJ.output,cm.fJ.size,cm.fJ.block,cm.fJ.eF,Nat.le_trans (Nat.le_succ _) cm.fJ.xj⟩,cm.more,cm.new,cm.own⟩⟩
end
end Go.Own
namespace Go.Own
open Go
section
variable {α:Type}{P:Program}{N:dW}{g:aZ}{a b:Operand}{t:TypeId}{m i:Int}
end
end Go.Own
namespace Go.Proofs
open Go Go.Own
set_option maxRecDepth 100000
set_option linter.unusedVariables false
structure Act where
 Kind:Int
 N:Int
 deriving DecidableEq,Inhabited
def v' (a0:Act):Option (Int) :=
 ((bif decide (a0.Kind=1) then (bif decide (0<=a0.N) then some (decide (a0.N<20000)) else some false) else some false)).bind λkn =>
 (bif kn then
 some (aO (a0.N+1))
 else
 ((bif decide (a0.Kind=2) then (bif decide (0<a0.N) then some (decide (a0.N<20000)) else some false) else some false)).bind λlX =>
 (bif lX then
 some (aO (-a0.N))
 else
 ((bif decide (a0.Kind=3) then some (decide (a0.N=0)) else some false)).bind λiz =>
 (bif iz then
 some 20001
 else
 ((bif decide (a0.Kind=4) then some (decide (a0.N=0)) else some false)).bind λjK =>
 (bif jK then
 some 20002
 else
 some 0))))
def Hs (a0:Int):Option (Act) :=
 ((bif decide (0<a0) then some (decide (a0<=20000)) else some false)).bind λc2 =>
 (bif c2 then
 some (⟨1,aO (a0 - 1)⟩:Act)
 else
 ((bif decide (a0<0) then some (decide ((-20000)<a0)) else some false)).bind λkF =>
 (bif kF then
 some (⟨2,aO (-a0)⟩:Act)
 else
 (bif decide (a0=20001) then
 some (⟨3,0⟩:Act)
 else
 (bif decide (a0=20002) then
 some (⟨4,0⟩:Act)
 else
 some (⟨0,0⟩:Act)))))
def AT (a0:Int):Option (Bool) :=
 ((bif decide (97<=a0) then (bif decide (a0<=122) then some true else (bif decide (65<=a0) then (bif decide (a0<=90) then some true else some (decide (a0=95))) else some (decide (a0=95)))) else (bif decide (65<=a0) then (bif decide (a0<=90) then some true else some (decide (a0=95))) else some (decide (a0=95))))).bind λlX =>
 some lX
def AU (a0:Int):Option (Bool) :=
 ((bif decide (48<=a0) then some (decide (a0<=57)) else some false)).bind λc2 =>
 some c2
def AR (a0:ByteArray) (aw:Int):Option (Int) :=
 (cS (R:=Int) (λ(s1:Int) =>
 ((bif decide (aO (aw+s1)<(a0.size:Int)) then ((k2 a0 (aO (aw+s1))).bind λcn=>((AT cn).bind λbP=>(bif bP then some true else (bif decide (0<s1) then ((k2 a0 (aO (aw+s1))).bind λcv=>((AU cv).bind λbM=>(bif bM then some true else ((k2 a0 (aO (aw+s1))).bind λdh=>some (decide (dh=46)))))) else some false)))) else some false)).bind λjK =>
 (bif jK then
 some (.inl (aO (s1+1)))
 else
 some (.inr s1))) 0).bind λx2 =>
 some x2
def uu (a0:ByteArray):Option (Bool) :=
 ((bif decide (1<=(a0.size:Int)) then (bif decide ((a0.size:Int)<=20) then ((AR a0 0).bind λa8=>some (decide (a8=(a0.size:Int)))) else some false) else some false)).bind λc4 =>
 some c4
def AS (a0:Int):Option (Int × Bool) :=
 (bif decide (a0=10) then
 some (110,true)
 else
 (bif decide (a0=9) then
 some (116,true)
 else
 (bif decide (a0=13) then
 some (114,true)
 else
 ((bif decide (a0=92) then
 some (decide (a0=92))
 else
 some (decide (a0=39)))).bind λGW =>
 (bif GW then
 some (a0,true)
 else
 ((bif decide (32<=a0) then some (0,decide (a0<=126)) else some (0,false))).bind λsq =>
 some (sq.1,sq.2)))))
structure Sym where
 Name:ByteArray
 Lit:Bool
 cJ:Int
 At:Int
 deriving DecidableEq,Inhabited
def dc:cD Sym:=⟨4,λx=>[ae x.Name,a1 x.Lit,j x.cJ,j x.At],λ_=>rfl,λ_=>eU.bI⟩
instance:Flat dc:=⟨λ_=>rfl⟩
instance:lU dc:=⟨λx=>(inferInstance:jT [ae x.Name,a1 x.Lit,j x.cJ,j x.At])⟩
instance:hj dc dc:=⟨rfl,λx=>(inferInstance:ea [ae x.Name,a1 x.Lit,j x.cJ,j x.At] [ae x.Name,a1 x.Lit,j x.cJ,j x.At])⟩
instance {x:Sym}:ea (dc.cells x) [ae x.Name,a1 x.Lit,j x.cJ,j x.At]:=(inferInstance:ea [ae x.Name,a1 x.Lit,j x.cJ,j x.At] [ae x.Name,a1 x.Lit,j x.cJ,j x.At])
def v7 (a0:Sym) (aw:Bool) (a2:Bool):Option (Bool) :=
 (bif a0.Lit then
 ((bif !a2 then some true else (bif !decide ((a0.Name.size:Int)=1) then some true else some (!decide (a0.cJ=0))))).bind λc4 =>
 (bif c4 then
 some false
 else
 (k2 a0.Name 0).bind λbP =>
 (AS bP).bind λbz =>
 some bz.2)
 else
 (((uu a0.Name).bind λb1=>(bif b1 then (bif decide (a0.cJ=0) then some true else (bif aw then (bif decide (1<=a0.cJ) then some (decide (a0.cJ<=50000)) else some false) else some false)) else some false))).bind λjK =>
 some jK)
structure Decl where
 Kind:Int
 Tag:ByteArray
 eV:(List Sym)
 At:Int
 deriving DecidableEq,Inhabited
def cx:cD Decl:=⟨4,λx=>[j x.Kind,ae x.Tag,ag dc x.eV,j x.At],λ_=>rfl,λ_=>eU.bI⟩
instance:Flat cx:=⟨λ_=>rfl⟩
instance:hj cx cx:=⟨rfl,λx=>(inferInstance:ea [j x.Kind,ae x.Tag,ag dc x.eV,j x.At] [j x.Kind,ae x.Tag,ag dc x.eV,j x.At])⟩
instance {x:Decl}:ea (cx.cells x) [j x.Kind,ae x.Tag,ag dc x.eV,j x.At]:=(inferInstance:ea [j x.Kind,ae x.Tag,ag dc x.eV,j x.At] [j x.Kind,ae x.Tag,ag dc x.eV,j x.At])
def AP (a0:Decl):Option (Bool) :=
 ((bif decide (a0.Kind<1) then some true else (bif decide (6<a0.Kind) then some true else (bif decide ((a0.eV.length:Int)=0) then some true else (bif decide (a0.Kind=6) then (bif !decide ((a0.eV.length:Int)=1) then some true else (bif !decide (a0.Tag={ data:=#[] }) then some true else (bif decide (a0.Kind=5) then (bif decide (a0.Tag={ data:=#[] }) then some true else some false) else some false))) else (bif decide (a0.Kind=5) then (bif decide (a0.Tag={ data:=#[] }) then some true else (bif !decide (a0.Tag={ data:=#[] }) then ((uu a0.Tag).bind λdh=>some (!dh)) else some false)) else (bif !decide (a0.Tag={ data:=#[] }) then ((uu a0.Tag).bind λdU=>some (!dU)) else some false))))))).bind λtz =>
 (bif tz then
 some false
 else
 (cS (R:=(Unit) ⊕ (Bool)) (λ(iQ:Int) =>
 (bif decide (iQ<(a0.eV.length:Int)) then
 (idx a0.eV iQ).bind λfx =>
 (v7 fx (decide (a0.Kind=1)) (decide (a0.Kind<5))).bind λe2 =>
 (bif !e2 then
 some (.inr (.inr false))
 else
 some (.inl (aO (iQ+1))))
 else
 some (.inr (.inl ())))) 0).bind λdS =>
 (match dS with
 | .inl fp =>
 some true
 | .inr dj =>
 some dj))
def v8 (a0:Sym):Option (Bool) :=
 ((bif decide (a0.Name={ data:=#[] }) then (bif !a0.Lit then some (decide (a0.cJ=0)) else some false) else some false)).bind λkn =>
 some kn
def v_ (a0:ByteArray) (aw:Int) (a2:ByteArray):Option (Bool) :=
 ((bif decide ((a2.size:Int)<=aO ((a0.size:Int) - aw)) then ((rK a0 aw (aO (aw+(a2.size:Int)))).bind λx2=>some (decide (x2=a2))) else some false)).bind λkn =>
 some kn
def AV (a0:ByteArray) (aw:Int):Option (Int) :=
 (((k2 a0 aw).bind λaD=>(bif decide (aD=34) then some true else ((k2 a0 aw).bind λa8=>some (decide (a8=39)))))).bind λc4 =>
 (bif c4 then
 (cS (R:=(Unit) ⊕ (Int)) (λ(cM:Int) =>
 ((bif decide (cM<(a0.size:Int)) then ((k2 a0 cM).bind λbD=>some (!decide (bD=10))) else some false)).bind λqF =>
 (bif qF then
 (k2 a0 cM).bind λdU =>
 (k2 a0 aw).bind λcH =>
 (bif decide (dU=cH) then
 some (.inr (.inr (aO (cM+1))))
 else
 (k2 a0 cM).bind λbZ =>
 (bif decide (bZ=92) then
 ((bif decide (aO (cM+1)<(a0.size:Int)) then ((k2 a0 (aO (cM+1))).bind λdj=>some (decide (dj=10))) else some false)).bind λsn =>
 (bif sn then
 some (.inr (.inr (-1)))
 else
 some (.inl (aO ((aO (cM+1))+1))))
 else
 some (.inl (aO (cM+1)))))
 else
 some (.inr (.inl ())))) (aO (aw+1))).bind λbz =>
 (match bz with
 | .inl b1 =>
 some (-1)
 | .inr cv =>
 some cv)
 else
 (k2 a0 aw).bind λe2 =>
 (bif decide (e2=96) then
 (cS (R:=(Unit) ⊕ (Int)) (λ(f_:Int) =>
 (bif decide (f_<(a0.size:Int)) then
 (k2 a0 f_).bind λiK =>
 (bif decide (iK=96) then
 some (.inr (.inr (aO (f_+1))))
 else
 some (.inl (aO (f_+1))))
 else
 some (.inr (.inl ())))) (aO (aw+1))).bind λgh =>
 (match gh with
 | .inl fE =>
 some (-1)
 | .inr c8 =>
 some c8)
 else
 (v_ a0 aw ({ data:=#[47,47] })).bind λcZ =>
 (bif cZ then
 (cS (R:=Int) (λ(hr:Int) =>
 ((bif decide (hr<(a0.size:Int)) then ((k2 a0 hr).bind λdm=>some (!decide (dm=10))) else some false)).bind λu1 =>
 (bif u1 then
 some (.inl (aO (hr+1)))
 else
 some (.inr hr))) aw).bind λfT =>
 some fT
 else
 (v_ a0 aw ({ data:=#[47,42] })).bind λyB =>
 (bif yB then
 (cS (R:=(Unit) ⊕ (Int)) (λ(uB:Int) =>
 (bif decide (uB<(a0.size:Int)) then
 (v_ a0 uB ({ data:=#[42,47] })).bind λBJ =>
 (bif BJ then
 some (.inr (.inr (aO (uB+2))))
 else
 some (.inl (aO (uB+1))))
 else
 some (.inr (.inl ())))) (aO (aw+2))).bind λtf =>
 (match tf with
 | .inl ku =>
 some (-1)
 | .inr oX =>
 some oX)
 else
 some aw))))
def ya (a0:ByteArray) (aw:Int):Option (Int) :=
 ((bif decide (aw<0) then some true else (bif decide ((a0.size:Int)<=aw) then some true else ((k2 a0 aw).bind λa8=>some (!decide (a8=123)))))).bind λc4 =>
 (bif c4 then
 some (-1)
 else
 (cS (R:=(Unit) ⊕ (Int)) (λ(cM:Int × Int) =>
 (bif decide (cM.2<(a0.size:Int)) then
 (AV a0 cM.2).bind λbD =>
 (bif decide (bD<0) then
 some (.inr (.inr (-1)))
 else
 (bif decide (cM.2<bD) then
 some (.inl (cM.1,bD))
 else
 (k2 a0 cM.2).bind λdU =>
 ((bif decide (dU=123) then
 some (aO (cM.1+1))
 else
 some cM.1)).bind λnK =>
 (k2 a0 cM.2).bind λbZ =>
 ((bif decide (bZ=125) then
 some (aO (nK - 1))
 else
 some nK)).bind λDg =>
 (bif decide (Dg=0) then
 some (.inr (.inr (aO (cM.2+1))))
 else
 some (.inl (Dg,aO (cM.2+1))))))
 else
 some (.inr (.inl ())))) (0,aw)).bind λbz =>
 (match bz with
 | .inl b1 =>
 some (-1)
 | .inr cv =>
 some cv))
structure Part where
 Sym:Sym
 Code:ByteArray
 At:Int
 deriving DecidableEq,Inhabited
structure Alt where
 h9:(List Part)
 Prec:Sym
 At:Int
 deriving DecidableEq,Inhabited
def ed:cD Part:=⟨6,λx=>[ae x.Sym.Name,a1 x.Sym.Lit,j x.Sym.cJ,j x.Sym.At,ae x.Code,j x.At],λ_=>rfl,λ_=>eU.bI⟩
instance:Flat ed:=⟨λ_=>rfl⟩
instance:lU ed:=⟨λx=>(inferInstance:jT [ae x.Sym.Name,a1 x.Sym.Lit,j x.Sym.cJ,j x.Sym.At,ae x.Code,j x.At])⟩
instance:hj ed ed:=⟨rfl,λx=>(inferInstance:ea [ae x.Sym.Name,a1 x.Sym.Lit,j x.Sym.cJ,j x.Sym.At,ae x.Code,j x.At] [ae x.Sym.Name,a1 x.Sym.Lit,j x.Sym.cJ,j x.Sym.At,ae x.Code,j x.At])⟩
instance {x:Part}:ea (ed.cells x) [ae x.Sym.Name,a1 x.Sym.Lit,j x.Sym.cJ,j x.Sym.At,ae x.Code,j x.At]:=(inferInstance:ea [ae x.Sym.Name,a1 x.Sym.Lit,j x.Sym.cJ,j x.Sym.At,ae x.Code,j x.At] [ae x.Sym.Name,a1 x.Sym.Lit,j x.Sym.cJ,j x.Sym.At,ae x.Code,j x.At])
def dN:cD Alt:=⟨6,λx=>[ag ed x.h9,ae x.Prec.Name,a1 x.Prec.Lit,j x.Prec.cJ,j x.Prec.At,j x.At],λ_=>rfl,λ_=>eU.bI⟩
instance:Flat dN:=⟨λ_=>rfl⟩
instance:hj dN dN:=⟨rfl,λx=>(inferInstance:ea [ag ed x.h9,ae x.Prec.Name,a1 x.Prec.Lit,j x.Prec.cJ,j x.Prec.At,j x.At] [ag ed x.h9,ae x.Prec.Name,a1 x.Prec.Lit,j x.Prec.cJ,j x.Prec.At,j x.At])⟩
instance {x:Alt}:ea (dN.cells x) [ag ed x.h9,ae x.Prec.Name,a1 x.Prec.Lit,j x.Prec.cJ,j x.Prec.At,j x.At]:=(inferInstance:ea [ag ed x.h9,ae x.Prec.Name,a1 x.Prec.Lit,j x.Prec.cJ,j x.Prec.At,j x.At] [ag ed x.h9,ae x.Prec.Name,a1 x.Prec.Lit,j x.Prec.cJ,j x.Prec.At,j x.At])
def AQ (a0:Alt):Option (Bool) :=
 (cS (R:=(Unit) ⊕ (Bool)) (λ(s1:Int) =>
 (bif decide (s1<(a0.h9.length:Int)) then
 (idx a0.h9 s1).bind λbP =>
 ((bif decide (bP.Code={ data:=#[] }) then ((v7 bP.Sym false true).bind λb1=>(bif !b1 then some true else (bif !decide (bP.Code={ data:=#[] }) then ((v8 bP.Sym).bind λbD=>(bif !bD then some true else ((ya bP.Code 0).bind λeb=>some (!decide (eb=(bP.Code.size:Int)))))) else some false))) else (bif !decide (bP.Code={ data:=#[] }) then ((v8 bP.Sym).bind λcH=>(bif !cH then some true else ((ya bP.Code 0).bind λbZ=>some (!decide (bZ=(bP.Code.size:Int)))))) else some false))).bind λnW =>
 (bif nW then
 some (.inr (.inr false))
 else
 some (.inl (aO (s1+1))))
 else
 some (.inr (.inl ())))) 0).bind λx2 =>
 (match x2 with
 | .inl a8 =>
 (((v8 a0.Prec).bind λdj=>(bif dj then some true else ((v7 a0.Prec false true).bind λfx=>some fx)))).bind λy4 =>
 some y4
 | .inr b4 =>
 some b4)
structure fi where
 Left:ByteArray
 eT:(List Alt)
 At:Int
 deriving DecidableEq,Inhabited
structure Source where
 bx:ByteArray
 Decls:(List Decl)
 dD:(List fi)
 bA:ByteArray
 deriving DecidableEq,Inhabited
def eM:cD fi:=⟨3,λx=>[ae x.Left,ag dN x.eT,j x.At],λ_=>rfl,λ_=>eU.bI⟩
instance:Flat eM:=⟨λ_=>rfl⟩
instance:hj eM eM:=⟨rfl,λx=>(inferInstance:ea [ae x.Left,ag dN x.eT,j x.At] [ae x.Left,ag dN x.eT,j x.At])⟩
instance {x:fi}:ea (eM.cells x) [ae x.Left,ag dN x.eT,j x.At]:=(inferInstance:ea [ae x.Left,ag dN x.eT,j x.At] [ae x.Left,ag dN x.eT,j x.At])
def da:cD Source:=⟨4,λx=>[ae x.bx,ag cx x.Decls,ag eM x.dD,ae x.bA],λ_=>rfl,λ_=>eU.bI⟩
instance:Flat da:=⟨λ_=>rfl⟩
instance:hj da da:=⟨rfl,λx=>(inferInstance:ea [ae x.bx,ag cx x.Decls,ag eM x.dD,ae x.bA] [ae x.bx,ag cx x.Decls,ag eM x.dD,ae x.bA])⟩
instance {x:Source}:ea (da.cells x) [ae x.bx,ag cx x.Decls,ag eM x.dD,ae x.bA]:=(inferInstance:ea [ae x.bx,ag cx x.Decls,ag eM x.dD,ae x.bA] [ae x.bx,ag cx x.Decls,ag eM x.dD,ae x.bA])
def Bl (a0:Source):Option (Bool) :=
 (cS (R:=(Unit) ⊕ (Bool)) (λ(s1:Int) =>
 (bif decide (aO (s1+1)<(a0.bx.size:Int)) then
 (rK a0.bx s1 (aO (s1+2))).bind λbP =>
 (bif decide (bP={ data:=#[37,125] }) then
 some (.inr (.inr false))
 else
 some (.inl (aO (s1+1))))
 else
 some (.inr (.inl ())))) 0).bind λx2 =>
 (match x2 with
 | .inl a8 =>
 (cS (R:=(Unit) ⊕ (Bool)) (λ(dT:Int) =>
 (bif decide (dT<(a0.Decls.length:Int)) then
 (idx a0.Decls dT).bind λeb =>
 (AP eb).bind λdU =>
 (bif !dU then
 some (.inr (.inr false))
 else
 some (.inl (aO (dT+1))))
 else
 some (.inr (.inl ())))) 0).bind λcv =>
 (match cv with
 | .inl bM =>
 (cS (R:=(Unit) ⊕ (Bool)) (λ(hq:Int) =>
 (bif decide (hq<(a0.dD.length:Int)) then
 (idx a0.dD hq).bind λdk =>
 (((uu dk.Left).bind λfx=>(bif !fx then some true else some (decide ((dk.eT.length:Int)=0))))).bind λso =>
 (bif so then
 some (.inr (.inr false))
 else
 (cS (R:=(Unit) ⊕ (Bool)) (λ(yt:Int) =>
 (bif decide (yt<(dk.eT.length:Int)) then
 (idx dk.eT yt).bind λhs =>
 (AQ hs).bind λcZ =>
 (bif !cZ then
 some (.inr (.inr false))
 else
 some (.inl (aO (yt+1))))
 else
 some (.inr (.inl ())))) 0).bind λfE =>
 (match fE with
 | .inl c8 =>
 some (.inl (aO (hq+1)))
 | .inr e3 =>
 some (.inr (.inr e3))))
 else
 some (.inr (.inl ())))) 0).bind λbZ =>
 (match bZ with
 | .inl dS =>
 some (decide (0<(a0.dD.length:Int)))
 | .inr fp =>
 some fp)
 | .inr bD =>
 some bD)
 | .inr b4 =>
 some b4)
structure b5 where
 Name:ByteArray
 Lit:Bool
 cJ:Int
 Level:Int
 fy:Int
 Tag:ByteArray
 deriving DecidableEq,Inhabited
structure e4 where
 Name:ByteArray
 Tag:ByteArray
 deriving DecidableEq,Inhabited
structure Prod where
 Left:Int
 fz:(List Int)
 Prec:Int
 Code:ByteArray
 ti:(List Int)
 At:Int
 deriving DecidableEq,Inhabited
structure b' where
 ba:(List b5)
 bw:(List e4)
 bc:(List Prod)
 bx:ByteArray
 bA:ByteArray
 deriving DecidableEq,Inhabited
structure cT where
 ar:b'
 b0:(List Bool)
 bX:(List e4)
 bG:(List ByteArray)
 cf:Int
 cg:Int
 cd:ByteArray
 bW:Int
 bB:Int
 deriving DecidableEq,Inhabited
def bq:cD b5:=⟨6,λx=>[ae x.Name,a1 x.Lit,j x.cJ,j x.Level,j x.fy,ae x.Tag],λ_=>rfl,λ_=>eU.bI⟩
instance:Flat bq:=⟨λ_=>rfl⟩
instance:lU bq:=⟨λx=>(inferInstance:jT [ae x.Name,a1 x.Lit,j x.cJ,j x.Level,j x.fy,ae x.Tag])⟩
instance:hj bq bq:=⟨rfl,λx=>(inferInstance:ea [ae x.Name,a1 x.Lit,j x.cJ,j x.Level,j x.fy,ae x.Tag] [ae x.Name,a1 x.Lit,j x.cJ,j x.Level,j x.fy,ae x.Tag])⟩
instance {x:b5}:ea (bq.cells x) [ae x.Name,a1 x.Lit,j x.cJ,j x.Level,j x.fy,ae x.Tag]:=(inferInstance:ea [ae x.Name,a1 x.Lit,j x.cJ,j x.Level,j x.fy,ae x.Tag] [ae x.Name,a1 x.Lit,j x.cJ,j x.Level,j x.fy,ae x.Tag])
def a7:cD e4:=⟨2,λx=>[ae x.Name,ae x.Tag],λ_=>rfl,λ_=>eU.bI⟩
instance:Flat a7:=⟨λ_=>rfl⟩
instance:lU a7:=⟨λx=>(inferInstance:jT [ae x.Name,ae x.Tag])⟩
instance:hj a7 a7:=⟨rfl,λx=>(inferInstance:ea [ae x.Name,ae x.Tag] [ae x.Name,ae x.Tag])⟩
def bE:cD Prod:=⟨6,λx=>[j x.Left,ag aG x.fz,j x.Prec,ae x.Code,ag aG x.ti,j x.At],λ_=>rfl,λ_=>eU.bI⟩
instance:Flat bE:=⟨λ_=>rfl⟩
instance:hj bE bE:=⟨rfl,λx=>(inferInstance:ea [j x.Left,ag aG x.fz,j x.Prec,ae x.Code,ag aG x.ti,j x.At] [j x.Left,ag aG x.fz,j x.Prec,ae x.Code,ag aG x.ti,j x.At])⟩
instance {x:Prod}:ea (bE.cells x) [j x.Left,ag aG x.fz,j x.Prec,ae x.Code,ag aG x.ti,j x.At]:=(inferInstance:ea [j x.Left,ag aG x.fz,j x.Prec,ae x.Code,ag aG x.ti,j x.At] [j x.Left,ag aG x.fz,j x.Prec,ae x.Code,ag aG x.ti,j x.At])
def ck:cD b':=⟨5,λx=>[ag bq x.ba,ag a7 x.bw,ag bE x.bc,ae x.bx,ae x.bA],λ_=>rfl,λ_=>eU.bI⟩
instance:Flat ck:=⟨λ_=>rfl⟩
instance:hj ck ck:=⟨rfl,λx=>(inferInstance:ea [ag bq x.ba,ag a7 x.bw,ag bE x.bc,ae x.bx,ae x.bA] [ag bq x.ba,ag a7 x.bw,ag bE x.bc,ae x.bx,ae x.bA])⟩
instance {x:b'}:ea (ck.cells x) [ag bq x.ba,ag a7 x.bw,ag bE x.bc,ae x.bx,ae x.bA]:=(inferInstance:ea [ag bq x.ba,ag a7 x.bw,ag bE x.bc,ae x.bx,ae x.bA] [ag bq x.ba,ag a7 x.bw,ag bE x.bc,ae x.bx,ae x.bA])
def Cx:cD cT:=⟨13,λx=>[ag bq x.ar.ba,ag a7 x.ar.bw,ag bE x.ar.bc,ae x.ar.bx,ae x.ar.bA,ag bH x.b0,ag a7 x.bX,ag cy x.bG,j x.cf,j x.cg,ae x.cd,j x.bW,j x.bB],λ_=>rfl,λ_=>eU.bI⟩
instance:Flat Cx:=⟨λ_=>rfl⟩
instance:hj Cx Cx:=⟨rfl,λx=>(inferInstance:ea [ag bq x.ar.ba,ag a7 x.ar.bw,ag bE x.ar.bc,ae x.ar.bx,ae x.ar.bA,ag bH x.b0,ag a7 x.bX,ag cy x.bG,j x.cf,j x.cg,ae x.cd,j x.bW,j x.bB] [ag bq x.ar.ba,ag a7 x.ar.bw,ag bE x.ar.bc,ae x.ar.bx,ae x.ar.bA,ag bH x.b0,ag a7 x.bX,ag cy x.bG,j x.cf,j x.cg,ae x.cd,j x.bW,j x.bB])⟩
instance {x:cT}:ea (Cx.cells x) [ag bq x.ar.ba,ag a7 x.ar.bw,ag bE x.ar.bc,ae x.ar.bx,ae x.ar.bA,ag bH x.b0,ag a7 x.bX,ag cy x.bG,j x.cf,j x.cg,ae x.cd,j x.bW,j x.bB]:=(inferInstance:ea [ag bq x.ar.ba,ag a7 x.ar.bw,ag bE x.ar.bc,ae x.ar.bx,ae x.ar.bA,ag bH x.b0,ag a7 x.bX,ag cy x.bG,j x.cf,j x.cg,ae x.cd,j x.bW,j x.bB] [ag bq x.ar.ba,ag a7 x.ar.bw,ag bE x.ar.bc,ae x.ar.bx,ae x.ar.bA,ag bH x.b0,ag a7 x.bX,ag cy x.bG,j x.cf,j x.cg,ae x.cd,j x.bW,j x.bB])
def JM:cD b':=⟨5,λx=>[ak bq x.ba,ak a7 x.bw,ak bE x.bc,ae x.bx,ae x.bA],λ_=>rfl,λ_=>eU.bI⟩
instance:hj JM ck:=⟨rfl,λx=>(inferInstance:ea [ak bq x.ba,ak a7 x.bw,ak bE x.bc,ae x.bx,ae x.bA] [ag bq x.ba,ag a7 x.bw,ag bE x.bc,ae x.bx,ae x.bA])⟩
instance {x:b'}:ea (JM.cells x) [ag bq x.ba,ag a7 x.bw,ag bE x.bc,ae x.bx,ae x.bA]:=(inferInstance:ea [ak bq x.ba,ak a7 x.bw,ak bE x.bc,ae x.bx,ae x.bA] [ag bq x.ba,ag a7 x.bw,ag bE x.bc,ae x.bx,ae x.bA])
def ej:cD cT:=⟨13,λx=>[ak bq x.ar.ba,ak a7 x.ar.bw,ak bE x.ar.bc,ae x.ar.bx,ae x.ar.bA,ak bH x.b0,ak a7 x.bX,ak cy x.bG,j x.cf,j x.cg,ae x.cd,j x.bW,j x.bB],λ_=>rfl,λ_=>eU.bI⟩
instance {x:cT}:ea (ej.cells x) [ag bq x.ar.ba,ag a7 x.ar.bw,ag bE x.ar.bc,ae x.ar.bx,ae x.ar.bA,ag bH x.b0,ag a7 x.bX,ag cy x.bG,j x.cf,j x.cg,ae x.cd,j x.bW,j x.bB]:=(inferInstance:ea [ak bq x.ar.ba,ak a7 x.ar.bw,ak bE x.ar.bc,ae x.ar.bx,ae x.ar.bA,ak bH x.b0,ak a7 x.bX,ak cy x.bG,j x.cf,j x.cg,ae x.cd,j x.bW,j x.bB] [ag bq x.ar.ba,ag a7 x.ar.bw,ag bE x.ar.bc,ae x.ar.bx,ae x.ar.bA,ag bH x.b0,ag a7 x.bX,ag cy x.bG,j x.cf,j x.cg,ae x.cd,j x.bW,j x.bB])
def nN (a0:cT) (aw:Int) (a2:ByteArray):Option (cT) :=
 ((bif decide (a0.cf=0) then
 some (⟨a0.ar,a0.b0,a0.bX,a0.bG,3,aw,a2,a0.bW,a0.bB⟩:cT)
 else
 some a0)).bind λjk =>
 some jk
def yl (a0:cT) (aw:ByteArray):Option (Int) :=
 (cS (R:=(Unit) ⊕ (Int)) (λ(s1:Int) =>
 (bif decide (s1<(a0.bX.length:Int)) then
 (idx a0.bX s1).bind λbP =>
 (bif decide (bP.Name=aw) then
 some (.inr (.inr s1))
 else
 some (.inl (aO (s1+1))))
 else
 some (.inr (.inl ())))) 0).bind λx2 =>
 (match x2 with
 | .inl a8 =>
 some (-1)
 | .inr b4 =>
 some b4)
def wh (a0:cT) (aw:Sym):Option (Int) :=
 (cS (R:=(Unit) ⊕ (Int)) (λ(s1:Int) =>
 (bif decide (s1<(a0.ar.ba.length:Int)) then
 (((idx a0.ar.ba s1).bind λbP=>(bif decide (bP.Name=aw.Name) then ((idx a0.ar.ba s1).bind λb1=>(bif (b1.Lit == aw.Lit) then some (!decide (s1=2)) else some false)) else some false))).bind λiz =>
 (bif iz then
 some (.inr (.inr s1))
 else
 some (.inl (aO (s1+1))))
 else
 some (.inr (.inl ())))) 1).bind λx2 =>
 (match x2 with
 | .inl a8 =>
 some (-1)
 | .inr b4 =>
 some b4)
def x_ (a0:cT) (aw:Int):Option (Int) :=
 (cS (R:=(Unit) ⊕ (Int)) (λ(s1:Int) =>
 (bif decide (s1<(a0.ar.ba.length:Int)) then
 (idx a0.ar.ba s1).bind λbP =>
 (bif decide (bP.cJ=aw) then
 some (.inr (.inr s1))
 else
 some (.inl (aO (s1+1))))
 else
 some (.inr (.inl ())))) 3).bind λx2 =>
 (match x2 with
 | .inl a8 =>
 some (-1)
 | .inr b4 =>
 some b4)
def x9 (a0:cT) (aw:Sym):Option (Int × cT) :=
 (wh a0 aw).bind λaD =>
 (bif decide (0<=aD) then
 some (aD,a0)
 else
 ((bif aw.Lit then
 (k2 aw.Name 0).bind λcn =>
 (x_ a0 (aO cn)).bind λbP =>
 ((bif decide (0<=bP) then
 (nN a0 aw.At aw.Name).bind λcv =>
 some cv
 else
 some a0)).bind λn_ =>
 some (n_,aO cn)
 else
 some (a0,0))).bind λdK =>
 (eC dK.1.ar.ba [(⟨aw.Name,aw.Lit,dK.2,0,0,{ data:=#[] }⟩:b5)]).bind λbM =>
 (eC dK.1.b0 [aw.Lit]).bind λbD =>
 some (aO (((dK.1.ar.ba++[(⟨aw.Name,aw.Lit,dK.2,0,0,{ data:=#[] }⟩:b5)]).length:Int) - 1),(⟨(⟨dK.1.ar.ba++[(⟨aw.Name,aw.Lit,dK.2,0,0,{ data:=#[] }⟩:b5)],dK.1.ar.bw,dK.1.ar.bc,dK.1.ar.bx,dK.1.ar.bA⟩:b'),dK.1.b0++[aw.Lit],dK.1.bX,dK.1.bG,dK.1.cf,dK.1.cg,dK.1.cd,dK.1.bW,dK.1.bB⟩:cT)))
def Bm (a0:cT) (aw:Decl) (a2:Sym):Option (cT) :=
 (bif decide (aw.Kind=5) then
 (yl a0 a2.Name).bind λx2 =>
 ((bif decide (x2<0) then
 (eC a0.bX [(⟨a2.Name,aw.Tag⟩:e4)]).bind λcn =>
 some (⟨a0.ar,a0.b0,a0.bX++[(⟨a2.Name,aw.Tag⟩:e4)],a0.bG,a0.cf,a0.cg,a0.cd,a0.bW,a0.bB⟩:cT)
 else
 (idx a0.bX x2).bind λbP =>
 ((bif !decide (bP.Tag=aw.Tag) then
 (nN a0 a2.At a2.Name).bind λcv =>
 some cv
 else
 some a0)).bind λn_ =>
 some n_)).bind λdK =>
 some dK
 else
 (x9 a0 a2).bind λbM =>
 (idx bM.2.ar.ba bM.1).bind λbD =>
 ((bif !decide (aw.Kind=1) then
 ((bif decide (0<bD.Level) then
 (nN bM.2 a2.At a2.Name).bind λcj =>
 some (⟨(⟨bM.2.ar.ba,cj.ar.bw,cj.ar.bc,cj.ar.bx,cj.ar.bA⟩:b'),cj.b0,cj.bX,cj.bG,cj.cf,cj.cg,cj.cd,cj.bW,cj.bB⟩:cT)
 else
 some bM.2)).bind λdv =>
 (idx dv.ar.ba bM.1).bind λbZ =>
 some (⟨(⟨(dv.ar.ba.set bM.1.toNat (⟨bZ.Name,bZ.Lit,bZ.cJ,dv.bW,bZ.fy,bZ.Tag⟩:b5)).set bM.1.toNat (⟨(⟨bZ.Name,bZ.Lit,bZ.cJ,dv.bW,bZ.fy,bZ.Tag⟩:b5).Name,(⟨bZ.Name,bZ.Lit,bZ.cJ,dv.bW,bZ.fy,bZ.Tag⟩:b5).Lit,(⟨bZ.Name,bZ.Lit,bZ.cJ,dv.bW,bZ.fy,bZ.Tag⟩:b5).cJ,(⟨bZ.Name,bZ.Lit,bZ.cJ,dv.bW,bZ.fy,bZ.Tag⟩:b5).Level,aO (aw.Kind - 1),(⟨bZ.Name,bZ.Lit,bZ.cJ,dv.bW,bZ.fy,bZ.Tag⟩:b5).Tag⟩:b5),dv.ar.bw,dv.ar.bc,dv.ar.bx,dv.ar.bA⟩:b'),dv.b0,dv.bX,dv.bG,dv.cf,dv.cg,dv.cd,dv.bW,dv.bB⟩:cT)
 else
 some bM.2)).bind λfj =>
 (idx fj.ar.ba bM.1).bind λdS =>
 ((bif decide (0<a2.cJ) then
 ((bif decide (bM.1=1) then some true else ((idx fj.b0 bM.1).bind λfx=>(bif fx then some true else ((x_ fj a2.cJ).bind λgg=>some (decide (0<=gg))))))).bind λy5 =>
 ((bif y5 then
 (nN fj a2.At a2.Name).bind λc8 =>
 some (⟨(⟨fj.ar.ba,c8.ar.bw,c8.ar.bc,c8.ar.bx,c8.ar.bA⟩:b'),c8.b0,c8.bX,c8.bG,c8.cf,c8.cg,c8.cd,c8.bW,c8.bB⟩:cT)
 else
 some fj)).bind λeu =>
 (idx eu.ar.ba bM.1).bind λe3 =>
 (idx eu.b0 bM.1).bind λiK =>
 some (⟨(⟨eu.ar.ba.set bM.1.toNat (⟨e3.Name,e3.Lit,a2.cJ,e3.Level,e3.fy,e3.Tag⟩:b5),eu.ar.bw,eu.ar.bc,eu.ar.bx,eu.ar.bA⟩:b'),eu.b0.set bM.1.toNat true,eu.bX,eu.bG,eu.cf,eu.cg,eu.cd,eu.bW,eu.bB⟩:cT)
 else
 some fj)).bind λfX =>
 (idx fX.ar.ba bM.1).bind λhs =>
 ((bif !decide (aw.Tag={ data:=#[] }) then
 ((bif !decide (hs.Tag={ data:=#[] }) then some (!decide (hs.Tag=aw.Tag)) else some false)).bind λqI =>
 ((bif qI then
 (nN fX a2.At a2.Name).bind λdm =>
 some (⟨(⟨fX.ar.ba,dm.ar.bw,dm.ar.bc,dm.ar.bx,dm.ar.bA⟩:b'),dm.b0,dm.bX,dm.bG,dm.cf,dm.cg,dm.cd,dm.bW,dm.bB⟩:cT)
 else
 some fX)).bind λgF =>
 (idx gF.ar.ba bM.1).bind λiT =>
 some (⟨(⟨gF.ar.ba.set bM.1.toNat (⟨iT.Name,iT.Lit,iT.cJ,iT.Level,iT.fy,aw.Tag⟩:b5),gF.ar.bw,gF.ar.bc,gF.ar.bx,gF.ar.bA⟩:b'),gF.b0,gF.bX,gF.bG,gF.cf,gF.cg,gF.cd,gF.bW,gF.bB⟩:cT)
 else
 some fX)).bind λoO =>
 some oO)
def r0 (a0:cT) (aw:ByteArray):Option (Int) :=
 (cS (R:=(Unit) ⊕ (Int)) (λ(s1:Int) =>
 (bif decide (s1<(a0.bG.length:Int)) then
 (idx a0.bG s1).bind λbP =>
 (bif decide (bP=aw) then
 some (.inr (.inr s1))
 else
 some (.inl (aO (s1+1))))
 else
 some (.inr (.inl ())))) 0).bind λx2 =>
 (match x2 with
 | .inl a8 =>
 some (-1)
 | .inr b4 =>
 some b4)
def uv (a0:cT) (aw:Sym):Option (Int × cT) :=
 (bif aw.Lit then
 (x9 a0 aw).bind λx2 =>
 some (x2.1,x2.2)
 else
 (r0 a0 aw.Name).bind λa8 =>
 (bif decide (0<=a8) then
 some (aO (1001+a8),a0)
 else
 (wh a0 aw).bind λcn =>
 (bif decide (cn<0) then
 (nN a0 aw.At aw.Name).bind λbz =>
 some (0,bz)
 else
 some (cn,a0))))
def Bn (a0:cT) (aw:ByteArray) (a2:Alt):Option (cT) :=
 (r0 a0 aw).bind λaD =>
 (cS (R:=cT × List Int × ByteArray × Int) (λ(s2:cT × List Int × ByteArray × Int × Int) =>
 (bif decide (s2.2.2.2.2<(a2.h9.length:Int)) then
 ((idx a2.h9 s2.2.2.2.2).bind λbz =>
 (((bif decide (bz.Code={ data:=#[] }) then
 (uv s2.1 bz.Sym).bind λbD =>
 (eC s2.2.1 [bD.1]).bind λdh =>
 some (bD.2,s2.2.1++[bD.1],s2.2.2.1,s2.2.2.2.1)
 else
 ((bif decide (aO (s2.2.2.2.2+1)=(a2.h9.length:Int)) then
 some (s2.1.ar.bc,s2.1.bB,s2.2.1,bz.Code,bz.At)
 else
 (eC ([]:List Int) s2.2.1).bind λcH =>
 (eC s2.1.ar.bc [(⟨aO ((s2.1.bG.length:Int)+(aO (s2.1.bB+1))),([]:List Int),(-1),bz.Code,([]:List Int)++s2.2.1,bz.At⟩:Prod)]).bind λcj =>
 (eC s2.2.1 [aO ((aO (1000+(s2.1.bG.length:Int)))+(aO (s2.1.bB+1)))]).bind λbZ =>
 some (s2.1.ar.bc++[(⟨aO ((s2.1.bG.length:Int)+(aO (s2.1.bB+1))),([]:List Int),(-1),bz.Code,([]:List Int)++s2.2.1,bz.At⟩:Prod)],aO (s2.1.bB+1),s2.2.1++[aO ((aO (1000+(s2.1.bG.length:Int)))+(aO (s2.1.bB+1)))],s2.2.2.1,s2.2.2.2.1))).bind λjQ =>
 some ((⟨(⟨s2.1.ar.ba,s2.1.ar.bw,jQ.1,s2.1.ar.bx,s2.1.ar.bA⟩:b'),s2.1.b0,s2.1.bX,s2.1.bG,s2.1.cf,s2.1.cg,s2.1.cd,s2.1.bW,jQ.2.1⟩:cT),jQ.2.2.1,jQ.2.2.2.1,jQ.2.2.2.2))).bind λpt =>
 some (pt.1,pt.2.1,pt.2.2.1,pt.2.2.2)).bind λfk =>
 some (fk.1,fk.2.1,fk.2.2.1,fk.2.2.2)).bind λkN =>
 some (.inl (kN.1,kN.2.1,kN.2.2.1,kN.2.2.2,aO (s2.2.2.2.2+1)))
 else
 some (.inr (s2.1,s2.2.1,s2.2.2.1,s2.2.2.2.1)))) (a0,([]:List Int),{ data:=#[] },a2.At,0)).bind λa8 =>
 (cS (R:=Int) (λ(qp:Int × Int) =>
 (bif decide (qp.2<(a8.2.1.length:Int)) then
 ((idx a8.2.1 qp.2).bind λe2 =>
 ((bif decide (e2<1000) then
 (idx a8.2.1 qp.2).bind λgh =>
 some gh
 else
 some qp.1)).bind λvF =>
 some vF).bind λq9 =>
 some (.inl (q9,aO (qp.2+1)))
 else
 some (.inr qp.1))) ((-1),0)).bind λfp =>
 ((bif !decide (a2.Prec.Name={ data:=#[] }) then
 ((bif a2.Prec.Lit then some true else ((r0 a8.1 a2.Prec.Name).bind λiK=>some (decide (iK<0))))).bind λu0 =>
 ((bif u0 then
 (uv a8.1 a2.Prec).bind λgI =>
 some (gI.2,gI.1)
 else
 (nN a8.1 a2.Prec.At a2.Prec.Name).bind λfT =>
 some (fT,(-1)))).bind λoO =>
 some (oO.1,oO.2)
 else
 some (a8.1,fp))).bind λfD =>
 (eC ([]:List Int) a8.2.1).bind λjS =>
 (eC fD.1.ar.bc [(⟨aO (1+aD),a8.2.1,fD.2,a8.2.2.1,([]:List Int)++a8.2.1,a8.2.2.2⟩:Prod)]).bind λj7 =>
 some (⟨(⟨fD.1.ar.ba,fD.1.ar.bw,fD.1.ar.bc++[(⟨aO (1+aD),a8.2.1,fD.2,a8.2.2.1,([]:List Int)++a8.2.1,a8.2.2.2⟩:Prod)],fD.1.ar.bx,fD.1.ar.bA⟩:b'),fD.1.b0,fD.1.bX,fD.1.bG,fD.1.cf,fD.1.cg,fD.1.cd,fD.1.bW,fD.1.bB⟩:cT)
def Bo (a0:Int):Option (ByteArray) :=
 ((bif decide (a0<0) then
 some (IntKind.u64.wrap (-(IntKind.u64.wrap a0)))
 else
 some (IntKind.u64.wrap a0))).bind λjk =>
 (cS (R:=ByteArray) (λ(cK:Int × ByteArray) =>
 ((bif decide (0<cK.1) then some true else some (decide (cK.2={ data:=#[] })))).bind λlX =>
 (bif lX then
 (s' cK.1 10).bind λcv =>
 (ss (strOfNums [uJ (IntKind.u64.wrap (48+cv))]) cK.2).bind λbM =>
 (s7 cK.1 10).bind λbD =>
 some (.inl (bD,bM))
 else
 some (.inr cK.2))) (jk,{ data:=#[] })).bind λb4 =>
 (bif decide (a0<0) then
 (ss ({ data:=#[45] }) b4).bind λeb =>
 some eb
 else
 some b4)
def Bd (a0:Source):Option (b' × Int × Int × ByteArray) :=
 (Bl a0).bind λaD =>
 (bif !aD then
 some ((⟨([]:List b5),([]:List e4),([]:List Prod),{ data:=#[] },{ data:=#[] }⟩:b'),1,0,{ data:=#[] })
 else
 (qf 3 false).bind λa8 =>
 (cS (R:=cT × ByteArray) (λ(bL:cT × ByteArray × Int) =>
 (bif decide (bL.2.2<(a0.Decls.length:Int)) then
 (idx a0.Decls bL.2.2).bind λb1 =>
 ((bif decide (2<=b1.Kind) then some (decide (b1.Kind<=4)) else some false)).bind λiz =>
 ((bif iz then
 some (aO (bL.1.bW+1))
 else
 some bL.1.bW)).bind λgT =>
 (cS (R:=cT × ByteArray) (λ(gl:cT × ByteArray × Int) =>
 (bif decide (gl.2.2<(b1.eV.length:Int)) then
 ((bif !decide (b1.Kind=6) then
 (idx b1.eV gl.2.2).bind λfp =>
 (Bm gl.1 b1 fp).bind λdj =>
 some (dj,gl.2.1)
 else
 ((bif !decide (gl.2.1={ data:=#[] }) then
 (idx b1.eV gl.2.2).bind λe2 =>
 (idx b1.eV gl.2.2).bind λgg =>
 (nN gl.1 e2.At gg.Name).bind λe6 =>
 some e6
 else
 some gl.1)).bind λnj =>
 (idx b1.eV gl.2.2).bind λgh =>
 some (nj,gh.Name))).bind λAr =>
 some (.inl (Ar.1,Ar.2,aO (gl.2.2+1)))
 else
 some (.inr (gl.1,gl.2.1)))) ((⟨bL.1.ar,bL.1.b0,bL.1.bX,bL.1.bG,bL.1.cf,bL.1.cg,bL.1.cd,gT,bL.1.bB⟩:cT),bL.2.1,0)).bind λdU =>
 some (.inl (dU.1,dU.2,aO (bL.2.2+1)))
 else
 some (.inr (bL.1,bL.2.1)))) ((⟨(⟨[(⟨{ data:=#[36,101,110,100] },false,0,0,0,{ data:=#[] }⟩:b5),(⟨{ data:=#[101,114,114,111,114] },false,(-1),0,0,{ data:=#[] }⟩:b5),(⟨{ data:=#[36,117,110,107] },false,(-1),0,0,{ data:=#[] }⟩:b5)],[],[],{ data:=#[] },{ data:=#[] }⟩:b'),a8,[],[],0,0,{ data:=#[] },0,0⟩:cT),{ data:=#[] },0)).bind λcn =>
 (cS (R:=cT) (λ(me:cT × Int) =>
 (bif decide (me.2<(a0.dD.length:Int)) then
 ((idx a0.dD me.2).bind λcZ =>
 (wh me.1 (⟨cZ.Left,false,0,0⟩:Sym)).bind λgy =>
 ((bif decide (0<=gy) then
 (nN me.1 cZ.At cZ.Left).bind λjS =>
 some jS
 else
 some me.1)).bind λfK =>
 (r0 fK cZ.Left).bind λj7 =>
 ((bif decide (j7<0) then
 (eC fK.bG [cZ.Left]).bind λBI =>
 some (fK.bG++[cZ.Left])
 else
 some fK.bG)).bind λGV =>
 some (⟨fK.ar,fK.b0,fK.bX,GV,fK.cf,fK.cg,fK.cd,fK.bW,fK.bB⟩:cT)).bind λvI =>
 some (.inl (vI,aO (me.2+1)))
 else
 some (.inr me.1))) (cn.1,0)).bind λc8 =>
 (cS (R:=cT) (λ(mL:cT × Int) =>
 (bif decide (mL.2<(a0.Decls.length:Int)) then
 (cS (R:=cT) (λ(mf:cT × Int) =>
 (idx a0.Decls mL.2).bind λBJ =>
 (bif decide (mf.2<(BJ.eV.length:Int)) then
 ((idx a0.Decls mL.2).bind λyC =>
 (idx yC.eV mf.2).bind λkj =>
 (((idx a0.Decls mL.2).bind λH_=>(bif decide (5<=H_.Kind) then ((r0 mf.1 kj.Name).bind λkv=>some (decide (kv<0))) else some false))).bind λEx =>
 ((bif Ex then
 (nN mf.1 kj.At kj.Name).bind λmR =>
 some mR
 else
 some mf.1)).bind λGZ =>
 some GZ).bind λGY =>
 some (.inl (GY,aO (mf.2+1)))
 else
 some (.inr mf.1))) (mL.1,0)).bind λoX =>
 some (.inl (oX,aO (mL.2+1)))
 else
 some (.inr mL.1))) (c8,0)).bind λbQ =>
 ((bif decide (cn.2={ data:=#[] }) then
 (idx a0.dD 0).bind λuK =>
 some uK.Left
 else
 some cn.2)).bind λvJ =>
 (r0 bQ vJ).bind λig =>
 (cS (R:=cT) (λ(nO:cT × Int) =>
 (bif decide (nO.2<(a0.dD.length:Int)) then
 (cS (R:=cT) (λ(pE:cT × Int) =>
 (idx a0.dD nO.2).bind λBK =>
 (bif decide (pE.2<(BK.eT.length:Int)) then
 (idx a0.dD nO.2).bind λyD =>
 (idx a0.dD nO.2).bind λIb =>
 (idx Ib.eT pE.2).bind λrr =>
 (Bn pE.1 yD.Left rr).bind λjD =>
 some (.inl (jD,aO (pE.2+1)))
 else
 some (.inr pE.1))) (nO.1,0)).bind λkx =>
 some (.inl (kx,aO (nO.2+1)))
 else
 some (.inr nO.1))) ((⟨(⟨bQ.ar.ba,bQ.ar.bw,[(⟨0,[aO (1001+ig)],(-1),{ data:=#[] },([]:List Int),0⟩:Prod)],bQ.ar.bx,bQ.ar.bA⟩:b'),bQ.b0,bQ.bX,bQ.bG,bQ.cf,bQ.cg,bQ.cd,bQ.bW,bQ.bB⟩:cT),0)).bind λa6 =>
 (bif !decide (a6.cf=0) then
 some ((⟨([]:List b5),([]:List e4),([]:List Prod),{ data:=#[] },{ data:=#[] }⟩:b'),a6.cf,a6.cg,a6.cd)
 else
 (cS (R:=List e4) (λ(mM:List e4 × Int) =>
 (bif decide (mM.2<(a6.bG.length:Int)) then
 (idx a6.bG mM.2).bind λmj =>
 (yl (⟨(⟨a6.ar.ba,mM.1,a6.ar.bc,a6.ar.bx,a6.ar.bA⟩:b'),a6.b0,a6.bX,a6.bG,a6.cf,a6.cg,a6.cd,a6.bW,a6.bB⟩:cT) mj).bind λwE =>
 ((bif decide (0<=wE) then
 (idx a6.bX wE).bind λD0 =>
 some D0.Tag
 else
 some ({ data:=#[] }))).bind λqc =>
 (eC mM.1 [(⟨mj,qc⟩:e4)]).bind λM7 =>
 some (.inl (mM.1++[(⟨mj,qc⟩:e4)],aO (mM.2+1)))
 else
 some (.inr mM.1))) ([(⟨{ data:=#[36,97,99,99,101,112,116] },{ data:=#[] }⟩:e4)],0)).bind λwD =>
 (cS (R:=List e4) (λ(od:List e4 × Int) =>
 (bif decide (od.2<=a6.bB) then
 (Bo od.2).bind λD1 =>
 (ss ({ data:=#[64] }) D1).bind λru =>
 (eC od.1 [(⟨ru,{ data:=#[] }⟩:e4)]).bind λM8 =>
 some (.inl (od.1++[(⟨ru,{ data:=#[] }⟩:e4)],aO (od.2+1)))
 else
 some (.inr od.1))) (wD,1)).bind λjl =>
 (cS (R:=List b5) (λ(iR:List b5 × Int × Int) =>
 (bif decide (iR.2.2<(iR.1.length:Int)) then
 ((idx a6.b0 iR.2.2).bind λH6 =>
 ((bif !H6 then
 (idx iR.1 iR.2.2).bind λlE =>
 some (iR.1.set iR.2.2.toNat (⟨lE.Name,lE.Lit,iR.2.1,lE.Level,lE.fy,lE.Tag⟩:b5),aO (iR.2.1+1))
 else
 some (iR.1,iR.2.1))).bind λAq =>
 some (Aq.1,Aq.2)).bind λAs =>
 some (.inl (As.1,As.2,aO (iR.2.2+1)))
 else
 some (.inr iR.1))) (a6.ar.ba,57346,3)).bind λkS =>
 ((bif decide (40<(kS.length:Int)) then some true else (bif decide (24<(jl.length:Int)) then some true else some (decide (60<(a6.ar.bc.length:Int)))))).bind λrH =>
 (cS (R:=Bool) (λ(r4:Bool × Int) =>
 (bif decide (r4.2<(a6.ar.bc.length:Int)) then
 ((bif r4.1 then some true else ((idx a6.ar.bc r4.2).bind λH7=>some (decide (8<(H7.fz.length:Int)))))).bind λEw =>
 some (.inl (Ew,aO (r4.2+1)))
 else
 some (.inr r4.1))) (rH,0)).bind λBH =>
 (bif BH then
 some ((⟨([]:List b5),([]:List e4),([]:List Prod),{ data:=#[] },{ data:=#[] }⟩:b'),4,0,{ data:=#[] })
 else
 some ((⟨kS,jl,a6.ar.bc,a0.bx,a0.bA⟩:b'),0,0,{ data:=#[] }))))
def A9 (a0:Source):Option (b' × Bool) :=
 (Bd a0).bind λaD =>
 some (aD.1,decide (aD.2.1=0))
def pB (a0:(List Int)) (aw:Int):Option ((List Int)) :=
 (cS (R:=Int) (λ(s1:Int) =>
 ((bif decide (0<s1) then ((idx a0 (aO (s1 - 1))).bind λcn=>some (decide (aw<cn))) else some false)).bind λqJ =>
 (bif qJ then
 some (.inl (aO (s1 - 1)))
 else
 some (.inr s1))) (a0.length:Int)).bind λx2 =>
 ((bif decide (0<x2) then ((idx a0 (aO (x2 - 1))).bind λcv=>some (decide (cv=aw))) else some false)).bind λiz =>
 (bif iz then
 some a0
 else
 (qw a0 0 x2).bind λdh =>
 (eC ([]:List Int) dh).bind λeb =>
 (eC (([]:List Int)++dh) [aw]).bind λdU =>
 (qw a0 x2 a0.length).bind λcH =>
 (eC ((([]:List Int)++dh)++[aw]) cH).bind λcj =>
 some ((([]:List Int)++dh)++[aw]++cH))
def yi (a0:(List Int)) (aw:Int):Option (Bool) :=
 (cS (R:=(Unit) ⊕ (Bool)) (λ(s1:Int) =>
 (bif decide (s1<(a0.length:Int)) then
 (idx a0 s1).bind λbP =>
 (bif decide (bP=aw) then
 some (.inr (.inr true))
 else
 some (.inl (aO (s1+1))))
 else
 some (.inr (.inl ())))) 0).bind λx2 =>
 (match x2 with
 | .inl a8 =>
 some false
 | .inr b4 =>
 some b4)
def Be (a0:b'):Option ((List Int)) :=
 (cS (R:=List Int) (λ(s1:List Int × Int) =>
 (bif decide (s1.2<(a0.ba.length:Int)) then
 (eC s1.1 [s1.2]).bind λcn =>
 some (.inl (s1.1++[s1.2],aO (s1.2+1)))
 else
 some (.inr s1.1))) (([]:List Int),0)).bind λx2 =>
 (cS (R:=List Int) (λ(cM:List Int × Int) =>
 (bif decide (cM.2<(a0.bw.length:Int)) then
 (eC cM.1 [aO (1000+cM.2)]).bind λbM =>
 some (.inl (cM.1++[aO (1000+cM.2)],aO (cM.2+1)))
 else
 some (.inr cM.1))) (x2,0)).bind λbz =>
 some bz
structure Item where
 Prod:Int
 dY:Int
 deriving DecidableEq,Inhabited
def x5 (a0:b') (aw:Item):Option (Bool) :=
 ((bif decide (0<=aw.Prod) then (bif decide (aw.Prod<(a0.bc.length:Int)) then (bif decide (0<=aw.dY) then ((idx a0.bc aw.Prod).bind λb4=>some (decide (aw.dY<=(b4.fz.length:Int)))) else some false) else some false) else some false)).bind λkF =>
 some kF
def wg (a0:b') (aw:Item):Option (Int) :=
 (((x5 a0 aw).bind λaD=>(bif !aD then some true else ((idx a0.bc aw.Prod).bind λa8=>some (decide (aw.dY=(a8.fz.length:Int))))))).bind λc4 =>
 (bif c4 then
 some (-1)
 else
 (idx a0.bc aw.Prod).bind λbP =>
 (idx bP.fz aw.dY).bind λbz =>
 some bz)
def dB:cD Item:=⟨2,λx=>[j x.Prod,j x.dY],λ_=>rfl,λ_=>eU.bI⟩
instance:Flat dB:=⟨λ_=>rfl⟩
instance:lU dB:=⟨λx=>(inferInstance:jT [j x.Prod,j x.dY])⟩
instance:hj dB dB:=⟨rfl,λx=>(inferInstance:ea [j x.Prod,j x.dY] [j x.Prod,j x.dY])⟩
def vZ (a0:(List Item)) (aw:Item):Option ((List Item)) :=
 (cS (R:=Int) (λ(s1:Int) =>
 ((bif decide (0<s1) then ((idx a0 (aO (s1 - 1))).bind λcn=>(bif decide (aw.Prod<cn.Prod) then some true else ((idx a0 (aO (s1 - 1))).bind λbz=>(bif decide (bz.Prod=aw.Prod) then ((idx a0 (aO (s1 - 1))).bind λcv=>some (decide (aw.dY<cv.dY))) else some false)))) else some false)).bind λiz =>
 (bif iz then
 some (.inl (aO (s1 - 1)))
 else
 some (.inr s1))) (a0.length:Int)).bind λx2 =>
 ((bif decide (0<x2) then ((idx a0 (aO (x2 - 1))).bind λeb=>some (decide (eb.Prod=aw.Prod)&&(decide (eb.dY=aw.dY)&&true))) else some false)).bind λqG =>
 (bif qG then
 some a0
 else
 (qw a0 0 x2).bind λcj =>
 (eC ([]:List Item) cj).bind λbZ =>
 (eC (([]:List Item)++cj) [aw]).bind λdS =>
 (qw a0 x2 a0.length).bind λfp =>
 (eC ((([]:List Item)++cj)++[aw]) fp).bind λdj =>
 some ((([]:List Item)++cj)++[aw]++fp))
def AM (a0:b') (aw:(List Item)):Option ((List Item)) :=
 (cS (R:=List Item) (λ(s1:List Item × Int) =>
 (bif decide (s1.2<(aw.length:Int)) then
 ((idx aw s1.2).bind λbP =>
 (x5 a0 bP).bind λbz =>
 ((bif bz then
 (idx aw s1.2).bind λbM =>
 (vZ s1.1 bM).bind λbD =>
 some bD
 else
 some s1.1)).bind λfk =>
 some fk).bind λnk =>
 some (.inl (nk,aO (s1.2+1)))
 else
 some (.inr s1.1))) (([]:List Item),0)).bind λx2 =>
 some x2
def we (a0:b') (aw:(List Item)):Option ((List Item)) :=
 (AM a0 aw).bind λaD =>
 (cS (R:=List Item) (λ(s2:List Item × Int) =>
 (bif !decide (s2.2=(s2.1.length:Int)) then
 (((cS (R:=List Item) (λ(dT:List Item × Int) =>
 (bif decide (dT.2<(s2.1.length:Int)) then
 (idx dT.1 dT.2).bind λdh =>
 (wg a0 dh).bind λeb =>
 (cS (R:=List Item) (λ(iu:List Item × Int) =>
 ((bif decide (iu.2<(a0.bc.length:Int)) then some (decide (1000<=eb)) else some false)).bind λnW =>
 (bif nW then
 ((idx a0.bc iu.2).bind λdk =>
 ((bif decide (dk.Left=aO (eb - 1000)) then
 (vZ iu.1 (⟨iu.2,0⟩:Item)).bind λgg =>
 some gg
 else
 some iu.1)).bind λq9 =>
 some q9).bind λvE =>
 some (.inl (vE,aO (iu.2+1)))
 else
 some (.inr iu.1))) (dT.1,0)).bind λcH =>
 (bif !decide ((cH.length:Int)=(s2.1.length:Int)) then
 some (.inr cH)
 else
 some (.inl (cH,aO (dT.2+1))))
 else
 some (.inr dT.1))) (s2.1,0)).bind λcv =>
 some cv).bind λn_ =>
 some (n_,(s2.1.length:Int))).bind λkN =>
 some (.inl (kN.1,kN.2))
 else
 some (.inr s2.1))) (aD,(-1))).bind λa8 =>
 some a8
def Bf (a0:b') (aw:(List Item)) (a2:Int):Option ((List Item)) :=
 (we a0 aw).bind λaD =>
 (cS (R:=List Item) (λ(s2:List Item × Int) =>
 (bif decide (s2.2<(aD.length:Int)) then
 ((idx aD s2.2).bind λbz =>
 (wg a0 bz).bind λb1 =>
 ((bif decide (0<=b1) then some (decide (b1=a2)) else some false)).bind λiz =>
 ((bif iz then
 (idx aD s2.2).bind λeb =>
 (idx aD s2.2).bind λdU =>
 (vZ s2.1 (⟨eb.Prod,aO (dU.dY+1)⟩:Item)).bind λcH =>
 some cH
 else
 some s2.1)).bind λgT =>
 some gT).bind λkN =>
 some (.inl (kN,aO (s2.2+1)))
 else
 some (.inr s2.1))) (([]:List Item),0)).bind λa8 =>
 some a8
def AN (a0:(List Item)) (aw:(List Item)):Option (Bool) :=
 (bif !decide ((a0.length:Int)=(aw.length:Int)) then
 some false
 else
 (cS (R:=(Unit) ⊕ (Bool)) (λ(s2:Int) =>
 (bif decide (s2<(a0.length:Int)) then
 (idx a0 s2).bind λbz =>
 (idx aw s2).bind λb1 =>
 (bif !(decide (bz.Prod=b1.Prod)&&(decide (bz.dY=b1.dY)&&true)) then
 some (.inr (.inr false))
 else
 some (.inl (aO (s2+1))))
 else
 some (.inr (.inl ())))) 0).bind λa8 =>
 (match a8 with
 | .inl b4 =>
 some true
 | .inr cn =>
 some cn))
structure Move where
 Sym:Int
 j9:Int
 deriving DecidableEq,Inhabited
structure State where
 Kernel:(List Item)
 fb:(List Move)
 deriving DecidableEq,Inhabited
def k4:cD Move:=⟨2,λx=>[j x.Sym,j x.j9],λ_=>rfl,λ_=>eU.bI⟩
instance:Flat k4:=⟨λ_=>rfl⟩
instance:lU k4:=⟨λx=>(inferInstance:jT [j x.Sym,j x.j9])⟩
instance:hj k4 k4:=⟨rfl,λx=>(inferInstance:ea [j x.Sym,j x.j9] [j x.Sym,j x.j9])⟩
def cR:cD State:=⟨2,λx=>[ag dB x.Kernel,ag k4 x.fb],λ_=>rfl,λ_=>eU.bI⟩
instance:Flat cR:=⟨λ_=>rfl⟩
instance:hj cR cR:=⟨rfl,λx=>(inferInstance:ea [ag dB x.Kernel,ag k4 x.fb] [ag dB x.Kernel,ag k4 x.fb])⟩
def Bg (a0:(List State)) (aw:(List Item)):Option (Int) :=
 (cS (R:=(Unit) ⊕ (Int)) (λ(s1:Int) =>
 (bif decide (s1<(a0.length:Int)) then
 (idx a0 s1).bind λbP =>
 (AN bP.Kernel aw).bind λbz =>
 (bif bz then
 some (.inr (.inr s1))
 else
 some (.inl (aO (s1+1))))
 else
 some (.inr (.inl ())))) 0).bind λx2 =>
 (match x2 with
 | .inl a8 =>
 some (-1)
 | .inr b4 =>
 some b4)
def gC:cD State:=⟨2,λx=>[ag dB x.Kernel,ak k4 x.fb],λ_=>rfl,λ_=>eU.bI⟩
instance:hj gC cR:=⟨rfl,λx=>(inferInstance:ea [ag dB x.Kernel,ak k4 x.fb] [ag dB x.Kernel,ag k4 x.fb])⟩
def A_ (a0:b'):Option ((List State) × Int) :=
 (Be a0).bind λaD =>
 (cS (R:=(List State) ⊕ (List State × Int)) (λ(s2:List State × Int) =>
 (bif decide (s2.2<(s2.1.length:Int)) then
 (idx s2.1 s2.2).bind λbz =>
 (we a0 bz.Kernel).bind λb1 =>
 (cS (R:=List Int) (λ(mg:List Int × Int) =>
 (bif decide (mg.2<(b1.length:Int)) then
 ((idx b1 mg.2).bind λdU =>
 (wg a0 dU).bind λcH =>
 ((bif decide (0<=cH) then
 (pB mg.1 cH).bind λdS =>
 some dS
 else
 some mg.1)).bind λl9 =>
 some l9).bind λjQ =>
 some (.inl (jQ,aO (mg.2+1)))
 else
 some (.inr mg.1))) (([]:List Int),0)).bind λbM =>
 (cS (R:=(List State) ⊕ (List State × Int)) (λ(c6:List State × Int) =>
 (bif decide (c6.2<(aD.length:Int)) then
 (idx aD c6.2).bind λgg =>
 (yi bM gg).bind λe6 =>
 (bif !e6 then
 some (.inl (c6.1,aO (c6.2+1)))
 else
 (idx c6.1 s2.2).bind λfE =>
 (idx aD c6.2).bind λc8 =>
 (Bf a0 fE.Kernel c8).bind λe3 =>
 (Bg c6.1 e3).bind λiK =>
 (bif decide (iK<0) then
 (bif decide ((c6.1.length:Int)=150) then
 some (.inr (.inr (([]:List State),4)))
 else
 (eC c6.1 [(⟨e3,([]:List Move)⟩:State)]).bind λgy =>
 (idx (c6.1++[(⟨e3,([]:List Move)⟩:State)]) s2.2).bind λgI =>
 (idx aD c6.2).bind λfT =>
 (eC gI.fb [(⟨fT,(c6.1.length:Int)⟩:Move)]).bind λjS =>
 some (.inl ((c6.1++[(⟨e3,([]:List Move)⟩:State)]).set s2.2.toNat (⟨gI.Kernel,gI.fb++[(⟨fT,(c6.1.length:Int)⟩:Move)]⟩:State),aO (c6.2+1))))
 else
 (idx c6.1 s2.2).bind λj7 =>
 (idx aD c6.2).bind λdm =>
 (eC j7.fb [(⟨dm,iK⟩:Move)]).bind λiT =>
 some (.inl (c6.1.set s2.2.toNat (⟨j7.Kernel,j7.fb++[(⟨dm,iK⟩:Move)]⟩:State),aO (c6.2+1)))))
 else
 some (.inr (.inl c6.1)))) (s2.1,0)).bind λdj =>
 (match dj with
 | .inl dk =>
 some (.inl (dk,aO (s2.2+1)))
 | .inr fx =>
 some (.inr (.inr (fx.1,fx.2))))
 else
 some (.inr (.inl s2.1)))) ([(⟨[(⟨0,0⟩:Item)],([]:List Move)⟩:State)],0)).bind λa8 =>
 (match a8 with
 | .inl b4 =>
 some (b4,0)
 | .inr cn =>
 some (cn.1,cn.2))
def A6 (a0:Source):Option (b' × (List State) × Bool) :=
 (A9 a0).bind λaD =>
 (bif !aD.2 then
 some (aD.1,([]:List State),false)
 else
 (A_ aD.1).bind λa8 =>
 some (aD.1,a8.1,decide (a8.2=0)))
def qj (a0:(List State)) (aw:Int) (a2:Int):Option (Int) :=
 (cS (R:=(Unit) ⊕ (Int)) (λ(s1:Int) =>
 ((bif decide (0<=aw) then (bif decide (aw<(a0.length:Int)) then ((idx a0 aw).bind λbz=>some (decide (s1<(bz.fb.length:Int)))) else some false) else some false)).bind λsq =>
 (bif sq then
 (idx a0 aw).bind λbM =>
 (idx bM.fb s1).bind λbD =>
 (bif decide (bD.Sym=a2) then
 (idx a0 aw).bind λeb =>
 (idx eb.fb s1).bind λdU =>
 some (.inr (.inr dU.j9))
 else
 some (.inl (aO (s1+1))))
 else
 some (.inr (.inl ())))) 0).bind λx2 =>
 (match x2 with
 | .inl a8 =>
 some (-1)
 | .inr b4 =>
 some b4)
structure Cell where
 State:Int
 b5:Int
 js:Int
 kT:Bool
 bc:(List Int)
 deriving DecidableEq,Inhabited
def fc:cD Cell:=⟨5,λx=>[j x.State,j x.b5,j x.js,a1 x.kT,ag aG x.bc],λ_=>rfl,λ_=>eU.bI⟩
instance:Flat fc:=⟨λ_=>rfl⟩
instance:hj fc fc:=⟨rfl,λx=>(inferInstance:ea [j x.State,j x.b5,j x.js,a1 x.kT,ag aG x.bc] [j x.State,j x.b5,j x.js,a1 x.kT,ag aG x.bc])⟩
instance {x:Cell}:ea (fc.cells x) [j x.State,j x.b5,j x.js,a1 x.kT,ag aG x.bc]:=(inferInstance:ea [j x.State,j x.b5,j x.js,a1 x.kT,ag aG x.bc] [j x.State,j x.b5,j x.js,a1 x.kT,ag aG x.bc])
def yh (a0:Cell):Option (Int) :=
 ((bif decide (0<=a0.js) then
 some (aO ((a0.bc.length:Int)+1))
 else
 some (a0.bc.length:Int))).bind λjk =>
 ((bif a0.kT then
 some (aO (jk+1))
 else
 some jk)).bind λdK =>
 some dK
structure j8 where
 State:Int
 Prod:Int
 ba:(List Int)
 deriving DecidableEq,Inhabited
def hW:cD j8:=⟨3,λx=>[j x.State,j x.Prod,ag aG x.ba],λ_=>rfl,λ_=>eU.bI⟩
instance:Flat hW:=⟨λ_=>rfl⟩
instance:hj hW hW:=⟨rfl,λx=>(inferInstance:ea [j x.State,j x.Prod,ag aG x.ba] [j x.State,j x.Prod,ag aG x.ba])⟩
instance {x:j8}:ea (hW.cells x) [j x.State,j x.Prod,ag aG x.ba]:=(inferInstance:ea [j x.State,j x.Prod,ag aG x.ba] [j x.State,j x.Prod,ag aG x.ba])
def A7 (a0:b') (aw:(List State)) (a2:(List j8)):Option ((List Cell)) :=
 (cS (R:=List Cell) (λ(s1:List Cell × Int) =>
 (bif decide (s1.2<(aw.length:Int)) then
 (cS (R:=List Cell) (λ(cA:List Cell × Int) =>
 (bif decide (cA.2<(a0.ba.length:Int)) then
 ((qj aw s1.2 cA.2).bind λbM =>
 (cS (R:=Bool) (λ(kh:Bool × Int) =>
 (idx aw s1.2).bind λdU =>
 (bif decide (kh.2<(dU.Kernel.length:Int)) then
 (idx aw s1.2).bind λcj =>
 (idx cj.Kernel kh.2).bind λbZ =>
 ((bif kh.1 then some true else (bif decide (cA.2=0) then (bif decide (bZ.Prod=0) then some (decide (bZ.dY=1)) else some false) else some false))).bind λsn =>
 some (.inl (sn,aO (kh.2+1)))
 else
 some (.inr kh.1))) (false,0)).bind λdh =>
 (cS (R:=List Int) (λ(fS:List Int × Int) =>
 (bif decide (fS.2<(a2.length:Int)) then
 ((((idx a2 fS.2).bind λfE=>(bif decide (fE.State=s1.2) then ((idx a2 fS.2).bind λe3=>((yi e3.ba cA.2).bind λiK=>some iK)) else some false))).bind λu0 =>
 ((bif u0 then
 (idx a2 fS.2).bind λgI =>
 (pB fS.1 gI.Prod).bind λfT =>
 some fT
 else
 some fS.1)).bind λoO =>
 some oO).bind λeu =>
 some (.inl (eu,aO (fS.2+1)))
 else
 some (.inr fS.1))) (([]:List Int),0)).bind λe2 =>
 (yh (⟨s1.2,cA.2,bM,dh,e2⟩:Cell)).bind λjS =>
 ((bif decide (0<jS) then
 (eC cA.1 [(⟨s1.2,cA.2,bM,dh,e2⟩:Cell)]).bind λiT =>
 some (cA.1++[(⟨s1.2,cA.2,bM,dh,e2⟩:Cell)])
 else
 some cA.1)).bind λGU =>
 some GU).bind λpt =>
 some (.inl (pt,aO (cA.2+1)))
 else
 some (.inr cA.1))) (s1.1,0)).bind λbP =>
 some (.inl (bP,aO (s1.2+1)))
 else
 some (.inr s1.1))) (([]:List Cell),0)).bind λx2 =>
 some x2
def yj (a0:(List (List Int))) (aw:(List (List Int))):Option ((List (List Int))) :=
 (cS (R:=List (List Int)) (λ(s1:List (List Int) × Bool) =>
 (bif s1.2 then
 (cS (R:=List (List Int) × Bool) (λ(cA:List (List Int) × Bool × Int) =>
 (bif decide (cA.2.2<(cA.1.length:Int)) then
 (idx aw cA.2.2).bind λcv =>
 (idx cA.1 cA.2.2).bind λbM =>
 (cS (R:=List (List Int)) (λ(kh:List (List Int) × Int) =>
 (bif decide (kh.2<(cv.length:Int)) then
 (cS (R:=List (List Int)) (λ(jd:List (List Int) × Int) =>
 (idx cv kh.2).bind λdS =>
 (idx jd.1 dS).bind λfp =>
 (bif decide (jd.2<(fp.length:Int)) then
 (idx jd.1 cA.2.2).bind λdk =>
 (idx cv kh.2).bind λfx =>
 (idx jd.1 fx).bind λe2 =>
 (idx e2 jd.2).bind λgg =>
 (pB dk gg).bind λe6 =>
 some (.inl (jd.1.set cA.2.2.toNat e6,aO (jd.2+1)))
 else
 some (.inr jd.1))) (kh.1,0)).bind λcj =>
 some (.inl (cj,aO (kh.2+1)))
 else
 some (.inr kh.1))) (cA.1,0)).bind λdh =>
 ((bif cA.2.1 then some true else ((idx dh cA.2.2).bind λfE=>some (!decide ((fE.length:Int)=(bM.length:Int)))))).bind λtA =>
 some (.inl (dh,tA,aO (cA.2.2+1)))
 else
 some (.inr (cA.1,cA.2.1)))) (s1.1,false,0)).bind λbP =>
 some (.inl (bP.1,bP.2))
 else
 some (.inr s1.1))) (a0,true)).bind λx2 =>
 some x2
structure Trans where
 State:Int
 e4:Int
 deriving DecidableEq,Inhabited
def fW:cD Trans:=⟨2,λx=>[j x.State,j x.e4],λ_=>rfl,λ_=>eU.bI⟩
instance:Flat fW:=⟨λ_=>rfl⟩
instance:lU fW:=⟨λx=>(inferInstance:jT [j x.State,j x.e4])⟩
instance:hj fW fW:=⟨rfl,λx=>(inferInstance:ea [j x.State,j x.e4] [j x.State,j x.e4])⟩
def pC (a0:(List State)):Option ((List Trans)) :=
 (cS (R:=List Trans) (λ(s1:List Trans × Int) =>
 (bif decide (s1.2<(a0.length:Int)) then
 (cS (R:=List Trans) (λ(cA:List Trans × Int) =>
 (idx a0 s1.2).bind λb1 =>
 (bif decide (cA.2<(b1.fb.length:Int)) then
 ((idx a0 s1.2).bind λbD =>
 (idx bD.fb cA.2).bind λdh =>
 ((bif decide (1000<=dh.Sym) then
 (idx a0 s1.2).bind λcH =>
 (idx cH.fb cA.2).bind λcj =>
 (eC cA.1 [(⟨s1.2,cj.Sym⟩:Trans)]).bind λbZ =>
 some (cA.1++[(⟨s1.2,cj.Sym⟩:Trans)])
 else
 some cA.1)).bind λjQ =>
 some jQ).bind λkd =>
 some (.inl (kd,aO (cA.2+1)))
 else
 some (.inr cA.1))) (s1.1,0)).bind λbP =>
 some (.inl (bP,aO (s1.2+1)))
 else
 some (.inr s1.1))) (([]:List Trans),0)).bind λx2 =>
 some x2
def AO (a0:(List Item)):Option (Bool) :=
 (cS (R:=(Unit) ⊕ (Bool)) (λ(s1:Int) =>
 (bif decide (s1<(a0.length:Int)) then
 (((idx a0 s1).bind λbP=>(bif decide (bP.Prod=0) then ((idx a0 s1).bind λb1=>some (decide (b1.dY=1))) else some false))).bind λsr =>
 (bif sr then
 some (.inr (.inr true))
 else
 some (.inl (aO (s1+1))))
 else
 some (.inr (.inl ())))) 0).bind λx2 =>
 (match x2 with
 | .inl a8 =>
 some false
 | .inr b4 =>
 some b4)
def Bh (a0:(List State)):Option ((List (List Int))) :=
 (pC a0).bind λaD =>
 (cS (R:=List (List Int)) (λ(s2:List (List Int) × Int) =>
 (bif decide (s2.2<(aD.length:Int)) then
 (idx aD s2.2).bind λbP =>
 (idx aD s2.2).bind λbz =>
 (qj a0 bP.State bz.e4).bind λb1 =>
 (idx a0 b1).bind λcv =>
 (AO cv.Kernel).bind λbM =>
 ((bif bM then
 (eC ([]:List Int) [0]).bind λeb =>
 some [0]
 else
 some ([]:List Int))).bind λgT =>
 (cS (R:=List Int) (λ(iu:List Int × Int) =>
 (idx a0 b1).bind λbZ =>
 (bif decide (iu.2<(bZ.fb.length:Int)) then
 ((idx a0 b1).bind λdj =>
 (idx dj.fb iu.2).bind λdk =>
 ((bif decide (dk.Sym<1000) then
 (idx a0 b1).bind λgg =>
 (idx gg.fb iu.2).bind λe6 =>
 (pB iu.1 e6.Sym).bind λgh =>
 some gh
 else
 some iu.1)).bind λq9 =>
 some q9).bind λfX =>
 some (.inl (fX,aO (iu.2+1)))
 else
 some (.inr iu.1))) (gT,0)).bind λcH =>
 (eC s2.1 [cH]).bind λfE =>
 some (.inl (s2.1++[cH],aO (s2.2+1)))
 else
 some (.inr s2.1))) (([]:List (List Int)),0)).bind λa8 =>
 some a8
def x8 (a0:(List Bool)) (aw:(List Int)):Option (Bool) :=
 (cS (R:=(Unit) ⊕ (Bool)) (λ(s1:Int) =>
 (bif decide (s1<(aw.length:Int)) then
 (((idx aw s1).bind λbP=>(bif decide (bP<1000) then some true else ((idx aw s1).bind λb1=>((idx a0 (aO (b1 - 1000))).bind λcv=>some (!cv)))))).bind λiz =>
 (bif iz then
 some (.inr (.inr false))
 else
 some (.inl (aO (s1+1))))
 else
 some (.inr (.inl ())))) 0).bind λx2 =>
 (match x2 with
 | .inl a8 =>
 some true
 | .inr b4 =>
 some b4)
def x6 (a0:b'):Option ((List Bool)) :=
 (qf (a0.bw.length:Int) false).bind λaD =>
 (cS (R:=List Bool) (λ(s2:List Bool × Bool) =>
 (bif s2.2 then
 (cS (R:=List Bool × Bool) (λ(cM:List Bool × Bool × Int) =>
 (bif decide (cM.2.2<(a0.bc.length:Int)) then
 ((idx a0.bc cM.2.2).bind λbD =>
 (((idx cM.1 bD.Left).bind λdh=>(bif !dh then ((x8 cM.1 bD.fz).bind λdU=>some dU) else some false))).bind λtz =>
 ((bif tz then
 (idx cM.1 bD.Left).bind λdS =>
 some (cM.1.set bD.Left.toNat true,true)
 else
 some (cM.1,cM.2.1))).bind λl9 =>
 some (l9.1,l9.2)).bind λkd =>
 some (.inl (kd.1,kd.2,aO (cM.2.2+1)))
 else
 some (.inr (cM.1,cM.2.1)))) (s2.1,false,0)).bind λbz =>
 some (.inl (bz.1,bz.2))
 else
 some (.inr s2.1))) (aD,true)).bind λa8 =>
 some a8
def x7 (a0:(List Trans)) (aw:Int) (a2:Int):Option (Int) :=
 (cS (R:=(Unit) ⊕ (Int)) (λ(s1:Int) =>
 (bif decide (s1<(a0.length:Int)) then
 (((idx a0 s1).bind λbP=>(bif decide (bP.State=aw) then ((idx a0 s1).bind λb1=>some (decide (b1.e4=a2))) else some false))).bind λsr =>
 (bif sr then
 some (.inr (.inr s1))
 else
 some (.inl (aO (s1+1))))
 else
 some (.inr (.inl ())))) 0).bind λx2 =>
 (match x2 with
 | .inl a8 =>
 some (-1)
 | .inr b4 =>
 some b4)
def Bi (a0:b') (aw:(List State)):Option ((List (List Int))) :=
 (pC aw).bind λaD =>
 (x6 a0).bind λx2 =>
 (cS (R:=List (List Int)) (λ(cK:List (List Int) × Int) =>
 (bif decide (cK.2<(aD.length:Int)) then
 (idx aD cK.2).bind λbz =>
 (idx aD cK.2).bind λb1 =>
 (qj aw bz.State b1.e4).bind λcv =>
 (cS (R:=List Int) (λ(dw:List Int × Int) =>
 (idx aw cv).bind λeb =>
 (bif decide (dw.2<(eb.fb.length:Int)) then
 ((idx aw cv).bind λcj =>
 (idx cj.fb dw.2).bind λbZ =>
 ((bif decide (1000<=bZ.Sym) then ((idx x2 (aO (bZ.Sym - 1000))).bind λfp=>some fp) else some false)).bind λuZ =>
 ((bif uZ then
 (x7 aD cv bZ.Sym).bind λe2 =>
 (pB dw.1 e2).bind λgg =>
 some gg
 else
 some dw.1)).bind λnj =>
 some nj).bind λnK =>
 some (.inl (nK,aO (dw.2+1)))
 else
 some (.inr dw.1))) (([]:List Int),0)).bind λbD =>
 (eC cK.1 [bD]).bind λe6 =>
 some (.inl (cK.1++[bD],aO (cK.2+1)))
 else
 some (.inr cK.1))) (([]:List (List Int)),0)).bind λb4 =>
 some b4
def yk (a0:(List State)) (aw:Int) (a2:(List Int)):Option (Int) :=
 (cS (R:=Int) (λ(s1:Int × Int) =>
 ((bif decide (s1.2<(a2.length:Int)) then some (decide (0<=s1.1)) else some false)).bind λkF =>
 (bif kF then
 (idx a2 s1.2).bind λbz =>
 (qj a0 s1.1 bz).bind λb1 =>
 some (.inl (b1,aO (s1.2+1)))
 else
 some (.inr s1.1))) (aw,0)).bind λx2 =>
 some x2
def Bj (a0:b') (aw:(List State)):Option ((List (List Int))) :=
 (pC aw).bind λaD =>
 (x6 a0).bind λx2 =>
 (qf (aD.length:Int) ([]:List Int)).bind λa8 =>
 (cS (R:=List (List Int)) (λ(bL:List (List Int) × Int) =>
 (bif decide (bL.2<(aD.length:Int)) then
 (cS (R:=List (List Int)) (λ(dT:List (List Int) × Int) =>
 (bif decide (dT.2<(a0.bc.length:Int)) then
 ((idx a0.bc dT.2).bind λeb =>
 (idx a0.bc dT.2).bind λdU =>
 (idx aD bL.2).bind λcH =>
 (bif !decide (aO (1000+dU.Left)=cH.e4) then
 some dT.1
 else
 (cS (R:=List (List Int)) (λ(iQ:List (List Int) × Int) =>
 (bif decide (iQ.2<(eb.fz.length:Int)) then
 ((((idx eb.fz iQ.2).bind λfx=>(bif decide (fx<1000) then some true else ((qw eb.fz (aO (iQ.2+1)) eb.fz.length).bind λgg=>((x8 x2 gg).bind λe6=>some (!e6)))))).bind λy6 =>
 (bif y6 then
 some iQ.1
 else
 (idx aD bL.2).bind λc8 =>
 (qw eb.fz 0 iQ.2).bind λe3 =>
 (yk aw c8.State e3).bind λiK =>
 ((bif decide (0<=iK) then
 (idx eb.fz iQ.2).bind λgy =>
 (x7 aD iK gy).bind λgI =>
 ((bif decide (0<=gI) then
 (idx iQ.1 gI).bind λj7 =>
 (pB j7 bL.2).bind λdm =>
 some (iQ.1.set gI.toNat dm)
 else
 some iQ.1)).bind λGS =>
 some GS
 else
 some iQ.1)).bind λvI =>
 some vI)).bind λnj =>
 some (.inl (nj,aO (iQ.2+1)))
 else
 some (.inr iQ.1))) (dT.1,0)).bind λdS =>
 some dS)).bind λfj =>
 some (.inl (fj,aO (dT.2+1)))
 else
 some (.inr dT.1))) (bL.1,0)).bind λcv =>
 some (.inl (cv,aO (bL.2+1)))
 else
 some (.inr bL.1))) (a8,0)).bind λcn =>
 some cn
def A' (a0:b') (aw:(List State)):Option ((List (List Int))) :=
 (Bh aw).bind λaD =>
 (Bi a0 aw).bind λx2 =>
 (yj aD x2).bind λa8 =>
 (Bj a0 aw).bind λb4 =>
 (yj a8 b4).bind λcn =>
 some cn
def Ba (a0:b') (aw:(List Item)):Option ((List Int)) :=
 (we a0 aw).bind λaD =>
 (cS (R:=List Int) (λ(s2:List Int × Int) =>
 (bif decide (s2.2<(aD.length:Int)) then
 ((((idx aD s2.2).bind λbz=>(bif decide (0<bz.Prod) then ((idx aD s2.2).bind λcv=>((idx aD s2.2).bind λbM=>((idx a0.bc bM.Prod).bind λbD=>some (decide (cv.dY=(bD.fz.length:Int)))))) else some false))).bind λqF =>
 ((bif qF then
 (idx aD s2.2).bind λcH =>
 (eC s2.1 [cH.Prod]).bind λcj =>
 some (s2.1++[cH.Prod])
 else
 some s2.1)).bind λjQ =>
 some jQ).bind λkN =>
 some (.inl (kN,aO (s2.2+1)))
 else
 some (.inr s2.1))) (([]:List Int),0)).bind λa8 =>
 some a8
def Bb (a0:b') (aw:(List State)) (a2:Int) (a3:Int):Option ((List Int)) :=
 ((bif decide (a2<0) then some true else (bif decide ((aw.length:Int)<=a2) then some true else (bif decide (a3<1) then some true else some (decide ((a0.bc.length:Int)<=a3)))))).bind λc4 =>
 (bif c4 then
 some ([]:List Int)
 else
 (pC aw).bind λbP =>
 (cS (R:=List Int) (λ(ev:List Int × Int) =>
 (bif decide (ev.2<(bP.length:Int)) then
 ((((idx bP ev.2).bind λdh=>((idx a0.bc a3).bind λeb=>(bif decide (dh.e4=aO (1000+eb.Left)) then ((idx bP ev.2).bind λcH=>((idx a0.bc a3).bind λcj=>((yk aw cH.State cj.fz).bind λbZ=>some (decide (bZ=a2))))) else some false)))).bind λnW =>
 ((bif nW then
 (eC ev.1 [ev.2]).bind λdk =>
 some (ev.1++[ev.2])
 else
 some ev.1)).bind λfX =>
 some fX).bind λgT =>
 some (.inl (gT,aO (ev.2+1)))
 else
 some (.inr ev.1))) (([]:List Int),0)).bind λb1 =>
 some b1)
def A8 (a0:b') (aw:(List State)):Option ((List j8)) :=
 (A' a0 aw).bind λaD =>
 (cS (R:=List j8) (λ(s2:List j8 × Int) =>
 (bif decide (s2.2<(aw.length:Int)) then
 (idx aw s2.2).bind λbP =>
 (Ba a0 bP.Kernel).bind λbz =>
 (cS (R:=List j8) (λ(dT:List j8 × Int) =>
 (bif decide (dT.2<(bz.length:Int)) then
 (idx bz dT.2).bind λdh =>
 (idx bz dT.2).bind λeb =>
 (Bb a0 aw s2.2 eb).bind λdU =>
 (cS (R:=List Int) (λ(jd:List Int × Int) =>
 (bif decide (jd.2<(dU.length:Int)) then
 (cS (R:=List Int) (λ(c6:List Int × Int) =>
 (idx dU jd.2).bind λfx =>
 (idx aD fx).bind λe2 =>
 (bif decide (c6.2<(e2.length:Int)) then
 (idx dU jd.2).bind λe6 =>
 (idx aD e6).bind λgh =>
 (idx gh c6.2).bind λfE =>
 (pB c6.1 fE).bind λc8 =>
 some (.inl (c8,aO (c6.2+1)))
 else
 some (.inr c6.1))) (jd.1,0)).bind λdj =>
 some (.inl (dj,aO (jd.2+1)))
 else
 some (.inr jd.1))) (([]:List Int),0)).bind λcj =>
 (eC dT.1 [(⟨s2.2,dh,cj⟩:j8)]).bind λe3 =>
 some (.inl (dT.1++[(⟨s2.2,dh,cj⟩:j8)],aO (dT.2+1)))
 else
 some (.inr dT.1))) (s2.1,0)).bind λcv =>
 some (.inl (cv,aO (s2.2+1)))
 else
 some (.inr s2.1))) (([]:List j8),0)).bind λa8 =>
 some a8
def A0 (a0:Source):Option (b' × (List State) × (List Cell) × Bool) :=
 (A6 a0).bind λaD =>
 (bif !aD.2.2 then
 some (aD.1,([]:List State),([]:List Cell),false)
 else
 (A8 aD.1 aD.2.1).bind λa8 =>
 (A7 aD.1 aD.2.1 a8).bind λb4 =>
 some (aD.1,aD.2.1,b4,true))
def Bk (a0:b') (aw:Int):Option (Int × Int) :=
 ((bif decide (aw<0) then some true else (bif decide ((a0.bc.length:Int)<=aw) then some true else ((idx a0.bc aw).bind λa8=>some (decide (a8.Prec<0)))))).bind λc4 =>
 (bif c4 then
 some (0,0)
 else
 (idx a0.bc aw).bind λbP =>
 (idx a0.ba bP.Prec).bind λbz =>
 some (bz.Level,bz.fy))
def Bc (a0:b') (aw:Int) (a2:Int):Option (Int) :=
 (Bk a0 aw).bind λaD =>
 ((bif decide (aD.1=0) then some true else (bif decide (a2<0) then some true else (bif decide ((a0.ba.length:Int)<=a2) then some true else ((idx a0.ba a2).bind λcn=>some (decide (cn.Level=0))))))).bind λqJ =>
 (bif qJ then
 some 0
 else
 (idx a0.ba a2).bind λb1 =>
 (bif decide (aD.1<b1.Level) then
 some 1
 else
 (bif decide (b1.Level<aD.1) then
 some 2
 else
 (bif decide (b1.fy=1) then
 some 2
 else
 (bif decide (b1.fy=2) then
 some 1
 else
 some 3)))))
structure fL where
 State:Int
 b5:Int
 hS:Int
 Drop:Int
 deriving DecidableEq,Inhabited
def eL:cD fL:=⟨4,λx=>[j x.State,j x.b5,j x.hS,j x.Drop],λ_=>rfl,λ_=>eU.bI⟩
instance:Flat eL:=⟨λ_=>rfl⟩
instance:lU eL:=⟨λx=>(inferInstance:jT [j x.State,j x.b5,j x.hS,j x.Drop])⟩
instance:hj eL eL:=⟨rfl,λx=>(inferInstance:ea [j x.State,j x.b5,j x.hS,j x.Drop] [j x.State,j x.b5,j x.hS,j x.Drop])⟩
instance {x:fL}:ea (eL.cells x) [j x.State,j x.b5,j x.hS,j x.Drop]:=(inferInstance:ea [j x.State,j x.b5,j x.hS,j x.Drop] [j x.State,j x.b5,j x.hS,j x.Drop])
def yg (a0:b') (aw:Cell):Option (Act × (List fL)) :=
 (cS (R:=List fL) (λ(s1:List fL × Int) =>
 (bif decide (s1.2<(aw.bc.length:Int)) then
 (idx aw.bc 0).bind λcn =>
 (idx aw.bc s1.2).bind λbP =>
 (eC s1.1 [(⟨aw.State,aw.b5,cn,bP⟩:fL)]).bind λbz =>
 some (.inl (s1.1++[(⟨aw.State,aw.b5,cn,bP⟩:fL)],aO (s1.2+1)))
 else
 some (.inr s1.1))) (([]:List fL),1)).bind λx2 =>
 ((bif aw.kT then
 some (3,0)
 else
 some (1,aw.js))).bind λfk =>
 (bif decide ((aw.bc.length:Int)=0) then
 some ((⟨fk.1,fk.2⟩:Act),x2)
 else
 (idx aw.bc 0).bind λbD =>
 ((bif decide (aw.js<0) then some (!aw.kT) else some false)).bind λjK =>
 (bif jK then
 some ((⟨2,bD⟩:Act),x2)
 else
 (Bc a0 bD aw.b5).bind λcH =>
 ((bif aw.kT then some true else some (decide (cH=0)))).bind λCg =>
 (bif Cg then
 (eC x2 [(⟨aw.State,aw.b5,(-1),bD⟩:fL)]).bind λfp =>
 some ((⟨fk.1,fk.2⟩:Act),x2++[(⟨aw.State,aw.b5,(-1),bD⟩:fL)])
 else
 (bif decide (cH=2) then
 some ((⟨2,bD⟩:Act),x2)
 else
 (bif decide (cH=3) then
 some ((⟨4,0⟩:Act),x2)
 else
 some ((⟨fk.1,fk.2⟩:Act),x2))))))
structure jE where
 cQ:(List (List Act))
 cL:(List (List Int))
 deriving DecidableEq,Inhabited
def cu:cD Act:=⟨2,λx=>[j x.Kind,j x.N],λ_=>rfl,λ_=>eU.bI⟩
instance:Flat cu:=⟨λ_=>rfl⟩
instance:lU cu:=⟨λx=>(inferInstance:jT [j x.Kind,j x.N])⟩
instance:hj cu cu:=⟨rfl,λx=>(inferInstance:ea [j x.Kind,j x.N] [j x.Kind,j x.N])⟩
def A1 (a0:b') (aw:(List State)) (a2:(List Cell)):Option (jE × (List fL)) :=
 (cS (R:=List (List Act) × List (List Int) × List fL) (λ(s1:List (List Act) × List (List Int) × List fL × Int) =>
 (bif decide (s1.2.2.2<(aw.length:Int)) then
 (qf (a0.ba.length:Int) (⟨0,0⟩:Act)).bind λcn =>
 (cS (R:=List fL × List Act) (λ(cM:List fL × List Act × Int) =>
 (bif decide (cM.2.2<(a2.length:Int)) then
 ((idx a2 cM.2.2).bind λbD =>
 ((bif decide (bD.State=s1.2.2.2) then
 (idx a2 cM.2.2).bind λdU =>
 (yg a0 dU).bind λcH =>
 (idx a2 cM.2.2).bind λcj =>
 (idx cM.2.1 cj.b5).bind λbZ =>
 (eC cM.1 cH.2).bind λdS =>
 some (cM.1++cH.2,cM.2.1.set cj.b5.toNat cH.1)
 else
 some (cM.1,cM.2.1))).bind λfj =>
 some (fj.1,fj.2)).bind λkd =>
 some (.inl (kd.1,kd.2,aO (cM.2.2+1)))
 else
 some (.inr (cM.1,cM.2.1)))) (s1.2.2.1,cn,0)).bind λbz =>
 (qf (a0.bw.length:Int) 0).bind λfp =>
 (cS (R:=List Int) (λ(mc:List Int × Int) =>
 (bif decide (mc.2<(mc.1.length:Int)) then
 (qj aw s1.2.2.2 (aO (1000+mc.2))).bind λgg =>
 (idx mc.1 mc.2).bind λe6 =>
 some (.inl (mc.1.set mc.2.toNat gg,aO (mc.2+1)))
 else
 some (.inr mc.1))) (fp,0)).bind λdk =>
 (eC s1.1 [bz.2]).bind λgh =>
 (eC s1.2.1 [dk]).bind λfE =>
 some (.inl (s1.1++[bz.2],s1.2.1++[dk],bz.1,aO (s1.2.2.2+1)))
 else
 some (.inr (s1.1,s1.2.1,s1.2.2.1)))) (([]:List (List Act)),([]:List (List Int)),([]:List fL),0)).bind λx2 =>
 some ((⟨x2.1,x2.2.1⟩:jE),x2.2.2)
def A4 (a0:(List Cell)):Option (Int) :=
 (cS (R:=Int) (λ(s1:Int × Int) =>
 (bif decide (s1.2<(a0.length:Int)) then
 ((idx a0 s1.2).bind λbP =>
 (yh bP).bind λbz =>
 ((bif decide (1<bz) then
 some (aO (s1.1+1))
 else
 some s1.1)).bind λfk =>
 some fk).bind λnk =>
 some (.inl (nk,aO (s1.2+1)))
 else
 some (.inr s1.1))) (0,0)).bind λx2 =>
 some x2
def yb (a0:Source):Option (b' × jE × Int × Bool) :=
 (A0 a0).bind λaD =>
 (bif !aD.2.2.2 then
 some (aD.1,(⟨([]:List (List Act)),([]:List (List Int))⟩:jE),0,false)
 else
 (A1 aD.1 aD.2.1 aD.2.2.1).bind λa8 =>
 (A4 aD.2.2.1).bind λb4 =>
 some (aD.1,a8.1,b4,true))
structure cE where
 At:Int
 pT:Int
 deriving DecidableEq,Inhabited
def dC:cD cE:=⟨2,λx=>[j x.At,j x.pT],λ_=>rfl,λ_=>eU.bI⟩
instance:Flat dC:=⟨λ_=>rfl⟩
instance:lU dC:=⟨λx=>(inferInstance:jT [j x.At,j x.pT])⟩
instance:hj dC dC:=⟨rfl,λx=>(inferInstance:ea [j x.At,j x.pT] [j x.At,j x.pT])⟩
def yf (a0:(List cE)) (aw:(List cE)):Option (Bool) :=
 (bif !decide ((a0.length:Int)=(aw.length:Int)) then
 some false
 else
 (cS (R:=(Unit) ⊕ (Bool)) (λ(s2:Int) =>
 (bif decide (s2<(a0.length:Int)) then
 (idx a0 s2).bind λbz =>
 (idx aw s2).bind λb1 =>
 (bif !(decide (bz.At=b1.At)&&(decide (bz.pT=b1.pT)&&true)) then
 some (.inr (.inr false))
 else
 some (.inl (aO (s2+1))))
 else
 some (.inr (.inl ())))) 0).bind λa8 =>
 (match a8 with
 | .inl b4 =>
 some true
 | .inr cn =>
 some cn))
structure Row where
 Def:Int
 rC:(List cE)
 deriving DecidableEq,Inhabited
def dO:cD Row:=⟨2,λx=>[j x.Def,ag dC x.rC],λ_=>rfl,λ_=>eU.bI⟩
instance:Flat dO:=⟨λ_=>rfl⟩
instance:hj dO dO:=⟨rfl,λx=>(inferInstance:ea [j x.Def,ag dC x.rC] [j x.Def,ag dC x.rC])⟩
def rf (a0:(List Row)) (aw:(List Row)):Option (Bool) :=
 (bif !decide ((a0.length:Int)=(aw.length:Int)) then
 some false
 else
 (cS (R:=(Unit) ⊕ (Bool)) (λ(s2:Int) =>
 (bif decide (s2<(a0.length:Int)) then
 (((idx a0 s2).bind λbz=>((idx aw s2).bind λb1=>(bif !decide (bz.Def=b1.Def) then some true else ((idx a0 s2).bind λbM=>((idx aw s2).bind λbD=>((yf bM.rC bD.rC).bind λdh=>some (!dh)))))))).bind λjK =>
 (bif jK then
 some (.inr (.inr false))
 else
 some (.inl (aO (s2+1))))
 else
 some (.inr (.inl ())))) 0).bind λa8 =>
 (match a8 with
 | .inl b4 =>
 some true
 | .inr cn =>
 some cn))
def wc (a0:(List Int)):Option (Int) :=
 (cS (R:=Int) (λ(s1:(List (Int × Int)) × Int × Int) =>
 (bif decide (s1.2.2<(a0.length:Int)) then
 ((idx a0 s1.2.2).bind λbP =>
 (ra q' 0 s1.1 bP).bind λbz =>
 (xU q' s1.1 bP (aO (bz+1))).bind λb1 =>
 (ra q' 0 b1 bP).bind λcv =>
 (ra q' 0 b1 s1.2.1).bind λbM =>
 ((bif decide (s1.2.1<0) then some true else (bif decide (0<aO (cv - bM)) then some true else (bif decide (aO (cv - bM)=0) then some (decide (bP<s1.2.1)) else some false)))).bind λqG =>
 ((bif qG then
 some bP
 else
 some s1.2.1)).bind λnK =>
 some (b1,nK)).bind λnk =>
 some (.inl (nk.1,nk.2,aO (s1.2.2+1)))
 else
 some (.inr s1.2.1))) (([]:List (Int × Int)),(-1),0)).bind λx2 =>
 some x2
def yc (a0:jE):Option ((List Row)) :=
 (cS (R:=List Row) (λ(s1:List Row × Int) =>
 (bif decide (s1.2<(a0.cQ.length:Int)) then
 (idx a0.cQ s1.2).bind λcn =>
 (cS (R:=List Int) (λ(cM:List Int × Int) =>
 (bif decide (cM.2<(cn.length:Int)) then
 ((idx cn cM.2).bind λbD =>
 ((bif decide (bD.Kind=2) then
 (eC cM.1 [bD.N]).bind λdU =>
 some (cM.1++[bD.N])
 else
 some cM.1)).bind λfj =>
 some fj).bind λkd =>
 some (.inl (kd,aO (cM.2+1)))
 else
 some (.inr cM.1))) (([]:List Int),0)).bind λbz =>
 (wc bz).bind λcH =>
 (cS (R:=List cE) (λ(hq:List cE × Int) =>
 (bif decide (hq.2<(cn.length:Int)) then
 ((idx cn hq.2).bind λdk =>
 ((bif !decide (dk.Kind=0) then (bif !decide (dk.Kind=2) then some true else some (!decide (dk.N=cH))) else some false)).bind λso =>
 ((bif so then
 (v' dk).bind λfE =>
 (eC hq.1 [(⟨hq.2,fE⟩:cE)]).bind λc8 =>
 some (hq.1++[(⟨hq.2,fE⟩:cE)])
 else
 some hq.1)).bind λvG =>
 some vG).bind λvE =>
 some (.inl (vE,aO (hq.2+1)))
 else
 some (.inr hq.1))) (([]:List cE),0)).bind λbZ =>
 (eC s1.1 [(⟨cH,bZ⟩:Row)]).bind λe3 =>
 some (.inl (s1.1++[(⟨cH,bZ⟩:Row)],aO (s1.2+1)))
 else
 some (.inr s1.1))) (([]:List Row),0)).bind λx2 =>
 some x2
def yd (a0:jE):Option ((List Row)) :=
 (bif decide ((a0.cL.length:Int)=0) then
 some ([]:List Row)
 else
 (idx a0.cL 0).bind λx2 =>
 (cS (R:=List Row) (λ(cK:List Row × Int) =>
 (bif decide (cK.2<(x2.length:Int)) then
 (cS (R:=List Int) (λ(ev:List Int × Int) =>
 (bif decide (ev.2<(a0.cL.length:Int)) then
 ((idx a0.cL ev.2).bind λdh =>
 (idx dh cK.2).bind λeb =>
 ((bif decide (0<=eb) then
 (idx dh cK.2).bind λcj =>
 (eC ev.1 [cj]).bind λbZ =>
 some (ev.1++[cj])
 else
 some ev.1)).bind λdv =>
 some dv).bind λgT =>
 some (.inl (gT,aO (ev.2+1)))
 else
 some (.inr ev.1))) (([]:List Int),0)).bind λb1 =>
 (wc b1).bind λdS =>
 (cS (R:=List cE) (λ(c6:List cE × Int) =>
 (bif decide (c6.2<(a0.cL.length:Int)) then
 ((idx a0.cL c6.2).bind λgg =>
 (((idx gg cK.2).bind λe6=>(bif decide (0<=e6) then ((idx gg cK.2).bind λfE=>some (!decide (fE=dS))) else some false))).bind λtA =>
 ((bif tA then
 (idx gg cK.2).bind λhs =>
 (eC c6.1 [(⟨c6.2,hs⟩:cE)]).bind λcZ =>
 some (c6.1++[(⟨c6.2,hs⟩:cE)])
 else
 some c6.1)).bind λs5 =>
 some s5).bind λGR =>
 some (.inl (GR,aO (c6.2+1)))
 else
 some (.inr c6.1))) (([]:List cE),0)).bind λdj =>
 (eC cK.1 [(⟨dS,dj⟩:Row)]).bind λgy =>
 some (.inl (cK.1++[(⟨dS,dj⟩:Row)],aO (cK.2+1)))
 else
 some (.inr cK.1))) (([]:List Row),0)).bind λb4 =>
 some b4)
def DB :Option (Bool) :=
 (yb (⟨{ data:=#[] },([]:List Decl),[(⟨{ data:=#[101] },[(⟨[(⟨(⟨{ data:=#[101] },false,0,0⟩:Sym),{ data:=#[] },0⟩:Part),(⟨(⟨{ data:=#[43] },true,0,0⟩:Sym),{ data:=#[] },0⟩:Part),(⟨(⟨{ data:=#[120] },true,0,0⟩:Sym),{ data:=#[] },0⟩:Part)],(⟨{ data:=#[] },false,0,0⟩:Sym),0⟩:Alt),(⟨[(⟨(⟨{ data:=#[120] },true,0,0⟩:Sym),{ data:=#[] },0⟩:Part)],(⟨{ data:=#[] },false,0,0⟩:Sym),0⟩:Alt)],0⟩:fi)],{ data:=#[] }⟩:Source)).bind λaD =>
 ((bif aD.2.2.2 then ((yc aD.2.1).bind λa8=>((rf a8 [(⟨(-1),[(⟨4,2⟩:cE)]⟩:Row),(⟨2,([]:List cE)⟩:Row),(⟨(-1),[(⟨0,20001⟩:cE),(⟨3,4⟩:cE)]⟩:Row),(⟨(-1),[(⟨4,5⟩:cE)]⟩:Row),(⟨1,([]:List cE)⟩:Row)]).bind λb4=>(bif b4 then ((yd aD.2.1).bind λbP=>((rf bP [(⟨(-1),([]:List cE)⟩:Row),(⟨2,([]:List cE)⟩:Row)]).bind λbz=>(bif bz then ((v' (⟨1,4⟩:Act)).bind λcv=>(bif decide (cv=5) then ((Hs (-3)).bind λbD=>some (decide (bD.Kind=2)&&(decide (bD.N=3)&&true))) else some false)) else some false))) else some false))) else some false)).bind λqF =>
 some qF
def uw (a0:Int) (aw:Int):Option (Int) :=
 (qm a0 aw).bind λaD =>
 ((bif decide (aD<0) then
 some (aO (aD+aw))
 else
 some aD)).bind λGQ =>
 some GQ
def mK (a0:Act):Option (Int) :=
 ((bif decide (a0.Kind=1) then (bif decide (0<=a0.N) then some (decide (a0.N<=19999)) else some false) else some false)).bind λkn =>
 (bif kn then
 some (aO (a0.N+1))
 else
 ((bif decide (a0.Kind=2) then (bif decide (1<=a0.N) then some (decide (a0.N<=19999)) else some false) else some false)).bind λlX =>
 (bif lX then
 some (aO (-a0.N))
 else
 ((bif decide (a0.Kind=3) then some (decide (a0.N=0)) else some false)).bind λiz =>
 (bif iz then
 some 20001
 else
 ((bif decide (a0.Kind=4) then some (decide (a0.N=0)) else some false)).bind λjK =>
 (bif jK then
 some 20002
 else
 some 0))))
def wa (a0:Int):Option (Act) :=
 ((bif decide (1<=a0) then some (decide (a0<=20000)) else some false)).bind λc2 =>
 (bif c2 then
 some (⟨1,aO (a0 - 1)⟩:Act)
 else
 ((bif decide (a0<=(-1)) then some (decide ((-19999)<=a0)) else some false)).bind λkF =>
 (bif kF then
 some (⟨2,aO (-a0)⟩:Act)
 else
 (bif decide (a0=20001) then
 some (⟨3,0⟩:Act)
 else
 (bif decide (a0=20002) then
 some (⟨4,0⟩:Act)
 else
 some (⟨0,0⟩:Act)))))
def rZ (a0:ByteArray) (aw:Int):Option (ByteArray) :=
 (bif decide (aw<(a0.size:Int)) then
 (rK a0 0 aw).bind λx2 =>
 some x2
 else
 some a0)
def wb (a0:Sym):Option (Sym) :=
 (rZ a0.Name 25).bind λaD =>
 some (⟨aD,a0.Lit,a0.cJ,a0.At⟩:Sym)
def AW (a0:Source):Option (Source) :=
 (rZ a0.bx 40).bind λaD =>
 (rZ a0.bA 40).bind λx2 =>
 (cS (R:=List Decl) (λ(cK:List Decl × Int) =>
 ((bif decide (cK.2<(a0.Decls.length:Int)) then some (decide (cK.2<8)) else some false)).bind λlX =>
 (bif lX then
 (idx a0.Decls cK.2).bind λcv =>
 (idx a0.Decls cK.2).bind λbM =>
 (rZ bM.Tag 25).bind λbD =>
 (idx a0.Decls cK.2).bind λdh =>
 (cS (R:=List Sym) (λ(gl:List Sym × Int) =>
 (((idx a0.Decls cK.2).bind λcj=>(bif decide (gl.2<(cj.eV.length:Int)) then some (decide (gl.2<6)) else some false))).bind λnW =>
 (bif nW then
 (idx a0.Decls cK.2).bind λdj =>
 (idx dj.eV gl.2).bind λdk =>
 (wb dk).bind λfx =>
 (eC gl.1 [fx]).bind λe2 =>
 some (.inl (gl.1++[fx],aO (gl.2+1)))
 else
 some (.inr gl.1))) (([]:List Sym),0)).bind λdU =>
 (eC cK.1 [(⟨cv.Kind,bD,dU,dh.At⟩:Decl)]).bind λgg =>
 some (.inl (cK.1++[(⟨cv.Kind,bD,dU,dh.At⟩:Decl)],aO (cK.2+1)))
 else
 some (.inr cK.1))) (([]:List Decl),0)).bind λb4 =>
 (cS (R:=List fi) (λ(f_:List fi × Int) =>
 ((bif decide (f_.2<(a0.dD.length:Int)) then some (decide (f_.2<6)) else some false)).bind λqH =>
 (bif qH then
 (idx a0.dD f_.2).bind λhs =>
 (rZ hs.Left 25).bind λcZ =>
 (idx a0.dD f_.2).bind λgy =>
 (cS (R:=List Alt) (λ(hr:List Alt × Int) =>
 (((idx a0.dD f_.2).bind λj7=>(bif decide (hr.2<(j7.eT.length:Int)) then some (decide (hr.2<5)) else some false))).bind λu1 =>
 (bif u1 then
 (idx a0.dD f_.2).bind λyB =>
 (idx yB.eT hr.2).bind λbQ =>
 (wb bQ.Prec).bind λfH =>
 (idx a0.dD f_.2).bind λtf =>
 (idx tf.eT hr.2).bind λku =>
 (cS (R:=List Part) (λ(nr:List Part × Int) =>
 (((idx a0.dD f_.2).bind λH8=>((idx H8.eT hr.2).bind λH9=>(bif decide (nr.2<(H9.h9.length:Int)) then some (decide (nr.2<6)) else some false)))).bind λy8 =>
 (bif y8 then
 (idx a0.dD f_.2).bind λH' =>
 (idx H'.eT hr.2).bind λkv =>
 (idx kv.h9 nr.2).bind λh0 =>
 (wb h0.Sym).bind λnu =>
 (rZ h0.Code 60).bind λkR =>
 (eC nr.1 [(⟨nu,kR,h0.At⟩:Part)]).bind λmR =>
 some (.inl (nr.1++[(⟨nu,kR,h0.At⟩:Part)],aO (nr.2+1)))
 else
 some (.inr nr.1))) (([]:List Part),0)).bind λmQ =>
 (eC hr.1 [(⟨mQ,fH,ku.At⟩:Alt)]).bind λM5 =>
 some (.inl (hr.1++[(⟨mQ,fH,ku.At⟩:Alt)],aO (hr.2+1)))
 else
 some (.inr hr.1))) (([]:List Alt),0)).bind λfT =>
 (eC f_.1 [(⟨cZ,fT,gy.At⟩:fi)]).bind λM6 =>
 some (.inl (f_.1++[(⟨cZ,fT,gy.At⟩:fi)],aO (f_.2+1)))
 else
 some (.inr f_.1))) (([]:List fi),0)).bind λgh =>
 some (⟨aD,b4,gh,x2⟩:Source)
def Hu :Option (ByteArray) :=
 some ({ data:=#[112,113,114,115] })
def ux (a0:Int):Option (Sym) :=
 (Hu ).bind λaD =>
 (qm a0 4).bind λx2 =>
 (qm a0 4).bind λa8 =>
 (rK aD x2 (aO (a8+1))).bind λb4 =>
 some (⟨b4,true,0,0⟩:Sym)
def k3:cD Decl:=⟨4,λx=>[j x.Kind,ae x.Tag,ak dc x.eV,j x.At],λ_=>rfl,λ_=>eU.bI⟩
instance:hj k3 cx:=⟨rfl,λx=>(inferInstance:ea [j x.Kind,ae x.Tag,ak dc x.eV,j x.At] [j x.Kind,ae x.Tag,ag dc x.eV,j x.At])⟩
instance {x:Decl}:ea (k3.cells x) [j x.Kind,ae x.Tag,ag dc x.eV,j x.At]:=(inferInstance:ea [j x.Kind,ae x.Tag,ak dc x.eV,j x.At] [j x.Kind,ae x.Tag,ag dc x.eV,j x.At])
def A2 (a0:(List Int)):Option ((List Decl)) :=
 (cS (R:=List Decl) (λ(s1:List Decl × Int) =>
 ((bif decide (s1.2<(a0.length:Int)) then some (decide (s1.2<4)) else some false)).bind λkF =>
 (bif kF then
 ((idx a0 s1.2).bind λb1 =>
 (uw b1 8).bind λcv =>
 (qm cv 4).bind λbM =>
 (bif decide (bM=0) then
 some s1.1
 else
 ((bif decide (4<cv) then some (decide (0<(s1.1.length:Int))) else some false)).bind λjK =>
 (bif jK then
 (idx s1.1 (aO ((s1.1.length:Int) - 1))).bind λcH =>
 (ux s1.2).bind λcj =>
 (eC cH.eV [cj]).bind λbZ =>
 some (s1.1.set (aO ((s1.1.length:Int) - 1)).toNat (⟨cH.Kind,cH.Tag,cH.eV++[cj],cH.At⟩:Decl))
 else
 (qm cv 4).bind λdS =>
 (ux s1.2).bind λfp =>
 (eC s1.1 [(⟨aO (1+dS),{ data:=#[] },[fp],0⟩:Decl)]).bind λdj =>
 some (s1.1++[(⟨aO (1+dS),{ data:=#[] },[fp],0⟩:Decl)])))).bind λn_ =>
 some (.inl (n_,aO (s1.2+1)))
 else
 some (.inr s1.1))) (([]:List Decl),0)).bind λx2 =>
 some x2
def ye (a0:Int):Option (ByteArray) :=
 some (strOfNums [uJ (aO (97+a0))])
def A3 (a0:Int) (aw:Int):Option (Sym) :=
 (uw a0 14).bind λaD =>
 (bif decide (aD<5) then
 (qm aD aw).bind λa8 =>
 (ye a8).bind λb4 =>
 some (⟨b4,false,0,0⟩:Sym)
 else
 (bif decide (aD=13) then
 some (⟨{ data:=#[101,114,114,111,114] },false,0,0⟩:Sym)
 else
 (ux (aO (aD - 5))).bind λbP =>
 some bP))
structure rv where
 bw:Int
 dD:(List (List Int))
 ot:(List Int)
 mm:(List Int)
 qx:Bool
 deriving DecidableEq,Inhabited
def hE:cD rv:=⟨5,λx=>[j x.bw,ag (bb aG) x.dD,ag aG x.ot,ag aG x.mm,a1 x.qx],λ_=>rfl,λ_=>eU.bI⟩
instance:Flat hE:=⟨λ_=>rfl⟩
instance:hj hE hE:=⟨rfl,λx=>(inferInstance:ea [j x.bw,ag (bb aG) x.dD,ag aG x.ot,ag aG x.mm,a1 x.qx] [j x.bw,ag (bb aG) x.dD,ag aG x.ot,ag aG x.mm,a1 x.qx])⟩
instance {x:rv}:ea (hE.cells x) [j x.bw,ag (bb aG) x.dD,ag aG x.ot,ag aG x.mm,a1 x.qx]:=(inferInstance:ea [j x.bw,ag (bb aG) x.dD,ag aG x.ot,ag aG x.mm,a1 x.qx] [j x.bw,ag (bb aG) x.dD,ag aG x.ot,ag aG x.mm,a1 x.qx])
def eW:cD fi:=⟨3,λx=>[ae x.Left,ak dN x.eT,j x.At],λ_=>rfl,λ_=>eU.bI⟩
instance:hj eW eM:=⟨rfl,λx=>(inferInstance:ea [ae x.Left,ak dN x.eT,j x.At] [ae x.Left,ag dN x.eT,j x.At])⟩
instance {x:fi}:ea (eW.cells x) [ae x.Left,ag dN x.eT,j x.At]:=(inferInstance:ea [ae x.Left,ak dN x.eT,j x.At] [ae x.Left,ag dN x.eT,j x.At])
def AX (a0:rv):Option (Source) :=
 (uw a0.bw 4).bind λaD =>
 (A2 a0.ot).bind λx2 =>
 (qf (aO (1+aD)) false).bind λa8 =>
 (cS (R:=List fi) (λ(bL:List fi × Int) =>
 (bif decide (bL.2<aO (1+aD)) then
 (ye bL.2).bind λb1 =>
 (eC bL.1 [(⟨b1,([]:List Alt),0⟩:fi)]).bind λcv =>
 some (.inl (bL.1++[(⟨b1,([]:List Alt),0⟩:fi)],aO (bL.2+1)))
 else
 some (.inr bL.1))) (([]:List fi),0)).bind λcn =>
 (cS (R:=List fi × List Bool) (λ(dw:List fi × List Bool × Int) =>
 ((bif decide (dw.2.2<(a0.dD.length:Int)) then some (decide (dw.2.2<9)) else some false)).bind λqG =>
 (bif qG then
 ((idx a0.dD dw.2.2).bind λbZ =>
 (bif decide ((bZ.length:Int)=0) then
 some (dw.1,dw.2.1)
 else
 (idx a0.dD dw.2.2).bind λfp =>
 (idx fp 0).bind λdj =>
 (uw dj (aO (1+aD))).bind λdk =>
 (cS (R:=List Part × Bool) (λ(fS:List Part × Bool × Int) =>
 (((idx a0.dD dw.2.2).bind λe6=>(bif decide (fS.2.2<(e6.length:Int)) then some (decide (fS.2.2<5)) else some false))).bind λCh =>
 (bif Ch then
 ((idx a0.dD dw.2.2).bind λiK =>
 (idx iK fS.2.2).bind λhs =>
 (A3 hs (aO (1+aD))).bind λcZ =>
 ((bif fS.2.1 then (bif cZ.Lit then some true else some (decide (cZ.Name={ data:=#[101,114,114,111,114] }))) else some false)).bind λqI =>
 (eC fS.1 [(⟨cZ,{ data:=#[] },0⟩:Part)]).bind λjS =>
 ((bif decide (dw.2.2<(a0.mm.length:Int)) then (bif decide (fS.2.2=1) then ((idx a0.mm dw.2.2).bind λiT=>((qm iT 3).bind λBI=>some (decide (BI=1)))) else some false) else some false)).bind λCi =>
 ((bif Ci then
 (eC (fS.1++[(⟨cZ,{ data:=#[] },0⟩:Part)]) [(⟨(⟨{ data:=#[] },false,0,0⟩:Sym),{ data:=#[123,36,36,32,61,32,36,49,125] },0⟩:Part)]).bind λtf =>
 some ((fS.1++[(⟨cZ,{ data:=#[] },0⟩:Part)])++[(⟨(⟨{ data:=#[] },false,0,0⟩:Sym),{ data:=#[123,36,36,32,61,32,36,49,125] },0⟩:Part)])
 else
 some (fS.1++[(⟨cZ,{ data:=#[] },0⟩:Part)]))).bind λGX =>
 some (GX,qI)).bind λs5 =>
 some (.inl (s5.1,s5.2,aO (fS.2.2+1)))
 else
 some (.inr (fS.1,fS.2.1)))) (([]:List Part),true,1)).bind λe2 =>
 ((bif decide (dw.2.2<(a0.mm.length:Int)) then ((idx a0.mm dw.2.2).bind λoX=>((qm oX 2).bind λmQ=>some (!decide (mQ=0)))) else some false)).bind λy7 =>
 ((bif y7 then
 (eC e2.1 [(⟨(⟨{ data:=#[] },false,0,0⟩:Sym),{ data:=#[123,102,40,36,36,41,125] },0⟩:Part)]).bind λyC =>
 some (e2.1++[(⟨(⟨{ data:=#[] },false,0,0⟩:Sym),{ data:=#[123,102,40,36,36,41,125] },0⟩:Part)])
 else
 some e2.1)).bind λmH =>
 (((idx dw.2.1 dk).bind λkj=>(bif kj then some (dw.2.1.set dk.toNat true) else some (dw.2.1.set dk.toNat e2.2)))).bind λxd =>
 (idx dw.1 dk).bind λkv =>
 (eC kv.eT [(⟨mH,(⟨{ data:=#[] },false,0,0⟩:Sym),0⟩:Alt)]).bind λh0 =>
 some (dw.1.set dk.toNat (⟨kv.Left,kv.eT++[(⟨mH,(⟨{ data:=#[] },false,0,0⟩:Sym),0⟩:Alt)],kv.At⟩:fi),xd))).bind λl9 =>
 some (.inl (l9.1,l9.2,aO (dw.2.2+1)))
 else
 some (.inr (dw.1,dw.2.1)))) (cn,a8,0)).bind λbD =>
 (cS (R:=List fi) (λ(ic:List fi × Int) =>
 (bif decide (ic.2<aO (1+aD)) then
 ((((idx ic.1 ic.2).bind λuK=>(bif decide ((uK.eT.length:Int)=0) then some true else ((idx bD.2 ic.2).bind λIa=>(bif !Ia then some (!a0.qx) else some false))))).bind λEy =>
 ((bif Ey then
 (idx ic.1 ic.2).bind λkx =>
 (ux ic.2).bind λky =>
 (eC kx.eT [(⟨[(⟨ky,{ data:=#[] },0⟩:Part)],(⟨{ data:=#[] },false,0,0⟩:Sym),0⟩:Alt)]).bind λBK =>
 some (ic.1.set ic.2.toNat (⟨kx.Left,kx.eT++[(⟨[(⟨ky,{ data:=#[] },0⟩:Part)],(⟨{ data:=#[] },false,0,0⟩:Sym),0⟩:Alt)],kx.At⟩:fi))
 else
 some ic.1)).bind λG3 =>
 some G3).bind λG0 =>
 some (.inl (G0,aO (ic.2+1)))
 else
 some (.inr ic.1))) (bD.1,0)).bind λkR =>
 some (⟨{ data:=#[] },x2,kR,{ data:=#[] }⟩:Source)
def uy (a0:(List Int)):Option (Int) :=
 (cS (R:=List Int) (λ(s1:List Int × Int) =>
 (bif decide (s1.2<(a0.length:Int)) then
 (idx a0 s1.2).bind λcn =>
 (pB s1.1 cn).bind λbP =>
 some (.inl (bP,aO (s1.2+1)))
 else
 some (.inr s1.1))) (([]:List Int),0)).bind λx2 =>
 (cS (R:=Int) (λ(ev:Int × Int × Int) =>
 (bif decide (ev.2.2<(x2.length:Int)) then
 ((cS (R:=Int) (λ(qo:Int × Int) =>
 (bif decide (qo.2<(a0.length:Int)) then
 ((idx a0 qo.2).bind λbZ =>
 (idx x2 ev.2.2).bind λdS =>
 ((bif decide (bZ=dS) then
 some (aO (qo.1+1))
 else
 some qo.1)).bind λfX =>
 some fX).bind λl9 =>
 some (.inl (l9,aO (qo.2+1)))
 else
 some (.inr qo.1))) (0,0)).bind λeb =>
 ((bif decide (ev.2.1<eb) then
 (idx x2 ev.2.2).bind λe2 =>
 some (e2,eb)
 else
 some (ev.1,ev.2.1))).bind λnj =>
 some (nj.1,nj.2)).bind λgT =>
 some (.inl (gT.1,gT.2,aO (ev.2.2+1)))
 else
 some (.inr ev.1))) ((-1),0,0)).bind λb1 =>
 some b1
def AY (a0:jE):Option ((List Row)) :=
 (cS (R:=List Row) (λ(s1:List Row × Int) =>
 (bif decide (s1.2<(a0.cQ.length:Int)) then
 (cS (R:=List Int) (λ(cA:List Int × Int) =>
 (idx a0.cQ s1.2).bind λb1 =>
 (bif decide (cA.2<(b1.length:Int)) then
 ((idx a0.cQ s1.2).bind λbD =>
 (idx bD cA.2).bind λdh =>
 ((bif decide (dh.Kind=2) then
 (idx a0.cQ s1.2).bind λcH =>
 (idx cH cA.2).bind λcj =>
 (eC cA.1 [cj.N]).bind λbZ =>
 some (cA.1++[cj.N])
 else
 some cA.1)).bind λjQ =>
 some jQ).bind λkd =>
 some (.inl (kd,aO (cA.2+1)))
 else
 some (.inr cA.1))) (([]:List Int),0)).bind λbP =>
 (uy bP).bind λdS =>
 (cS (R:=List cE) (λ(c6:List cE × Int) =>
 (idx a0.cQ s1.2).bind λfx =>
 (bif decide (c6.2<(fx.length:Int)) then
 ((idx a0.cQ s1.2).bind λe6 =>
 (idx e6 c6.2).bind λgh =>
 ((bif !decide (gh.Kind=0) then (bif !decide (gh.Kind=2) then some true else some (!decide (gh.N=dS))) else some false)).bind λqH =>
 ((bif qH then
 (mK gh).bind λcZ =>
 (eC c6.1 [(⟨c6.2,cZ⟩:cE)]).bind λgy =>
 some (c6.1++[(⟨c6.2,cZ⟩:cE)])
 else
 some c6.1)).bind λvH =>
 some vH).bind λvF =>
 some (.inl (vF,aO (c6.2+1)))
 else
 some (.inr c6.1))) (([]:List cE),0)).bind λdj =>
 (eC s1.1 [(⟨dS,dj⟩:Row)]).bind λgI =>
 some (.inl (s1.1++[(⟨dS,dj⟩:Row)],aO (s1.2+1)))
 else
 some (.inr s1.1))) (([]:List Row),0)).bind λx2 =>
 some x2
def AZ (a0:jE):Option ((List Row)) :=
 (cS (R:=List Row) (λ(s1:List Row × Int) =>
 ((bif decide (0<(a0.cL.length:Int)) then ((idx a0.cL 0).bind λcn=>some (decide (s1.2<(cn.length:Int)))) else some false)).bind λqJ =>
 (bif qJ then
 (cS (R:=List Int) (λ(dT:List Int × Int) =>
 (bif decide (dT.2<(a0.cL.length:Int)) then
 ((idx a0.cL dT.2).bind λeb =>
 (idx eb s1.2).bind λdU =>
 ((bif decide (0<=dU) then
 (idx a0.cL dT.2).bind λbZ =>
 (idx bZ s1.2).bind λdS =>
 (eC dT.1 [dS]).bind λfp =>
 some (dT.1++[dS])
 else
 some dT.1)).bind λnK =>
 some nK).bind λfj =>
 some (.inl (fj,aO (dT.2+1)))
 else
 some (.inr dT.1))) (([]:List Int),0)).bind λcv =>
 (uy cv).bind λdj =>
 (cS (R:=List cE) (λ(jB:List cE × Int) =>
 (bif decide (jB.2<(a0.cL.length:Int)) then
 ((idx a0.cL jB.2).bind λgh =>
 (idx gh s1.2).bind λfE =>
 ((bif decide (0<=fE) then some (!decide (fE=dj)) else some false)).bind λqH =>
 ((bif qH then
 (eC jB.1 [(⟨jB.2,fE⟩:cE)]).bind λcZ =>
 some (jB.1++[(⟨jB.2,fE⟩:cE)])
 else
 some jB.1)).bind λvH =>
 some vH).bind λvG =>
 some (.inl (vG,aO (jB.2+1)))
 else
 some (.inr jB.1))) (([]:List cE),0)).bind λfx =>
 (eC s1.1 [(⟨dj,fx⟩:Row)]).bind λgy =>
 some (.inl (s1.1++[(⟨dj,fx⟩:Row)],aO (s1.2+1)))
 else
 some (.inr s1.1))) (([]:List Row),0)).bind λx2 =>
 some x2
def A5 (a0:Source) (aw:rv):Option (Bool) :=
 (DB ).bind λaD =>
 (bif !aD then
 some false
 else
 (AW a0).bind λa8 =>
 (AX aw).bind λb4 =>
 (cS (R:=(Unit) ⊕ (Bool)) (λ(cA:Int) =>
 (bif decide (cA<([a8,b4].length:Int)) then
 (idx [a8,b4] cA).bind λbM =>
 (yb bM).bind λbD =>
 ((bif bD.2.2.2 then ((yc bD.2.1).bind λeb=>((AY bD.2.1).bind λdU=>((rf eb dU).bind λcH=>(bif !cH then some true else ((yd bD.2.1).bind λbZ=>((AZ bD.2.1).bind λdS=>((rf bZ dS).bind λfp=>some (!fp)))))))) else some false)).bind λuZ =>
 (bif uZ then
 some (.inr (.inr false))
 else
 some (.inl (aO (cA+1))))
 else
 some (.inr (.inl ())))) 0).bind λbP =>
 (match bP with
 | .inl bz =>
 some true
 | .inr b1 =>
 some b1))
def L9 (a0:(List cE)) (aw:Int):Option (Int × Bool) :=
 (cS (R:=(Unit) ⊕ (Int × Bool)) (λ(s1:Int) =>
 (bif decide (s1<(a0.length:Int)) then
 (idx a0 s1).bind λbP =>
 (bif decide (bP.At=aw) then
 (idx a0 s1).bind λb1 =>
 some (.inr (.inr (b1.pT,true)))
 else
 some (.inl (aO (s1+1))))
 else
 some (.inr (.inl ())))) 0).bind λx2 =>
 (match x2 with
 | .inl a8 =>
 some (0,false)
 | .inr b4 =>
 some (b4.1,b4.2))
def Ht (a0:(List Act)) (aw:Int):Option (Int) :=
 (cS (R:=Int) (λ(s1:Int × Int) =>
 (bif decide (s1.2<(a0.length:Int)) then
 ((((idx a0 s1.2).bind λbP=>(bif decide (bP.Kind=2) then ((idx a0 s1.2).bind λb1=>some (decide (b1.N=aw))) else some false))).bind λsr =>
 ((bif sr then
 some (aO (s1.1+1))
 else
 some s1.1)).bind λkd =>
 some kd).bind λnk =>
 some (.inl (nk,aO (s1.2+1)))
 else
 some (.inr s1.1))) (0,0)).bind λx2 =>
 some x2
theorem Ve:DB=some true:=by kernel_rfl
end Go.Proofs
namespace Go.Own
open Go
variable {α β S R:Type}
abbrev iU (p:S->Prop) (q:R->Prop) (x:S ⊕ R):Prop:=Sum.elim p q x
def Tot (x:Option α) (Φ:α->Prop):Prop:=∃ a,x=some a/\Φ a
namespace Tot
variable {Φ fU:α->Prop}
theorem aB {a:α}(h:Φ a):Tot (some a) Φ:=⟨a,rfl,h⟩
theorem bi {x:Option β}{f:β->Option α}(h:Tot x λa=>Tot (f a) Φ):Tot (x.bind f) Φ:=by
 obtain ⟨a,rfl,b,aJ,nH⟩:=h
 exact ⟨b,aJ,nH⟩
theorem au {f:β->Option α}{a:β}(h:Tot (f a) Φ):Tot ((some a).bind f) Φ:=h
theorem use {x:Option α}(h:Tot x fU) (hi:∀ a,fU a->Φ a):Tot x Φ:=by
 obtain ⟨a,bm,GH⟩:=h
 exact ⟨a,bm,hi a GH⟩
theorem aK {x:Option β}{f:β->Option α}{Ξ:β->Prop}(h:Tot x Ξ) (hk:∀ a,Ξ a->Tot (f a) Φ):Tot (x.bind f) Φ:=bi (h.use hk)
theorem cz {c:Bool}{a b:Option α}(aE:c=true->Tot a Φ) (bn:c=false->Tot b Φ):Tot (cond c a b) Φ:=by
 cases c
 ·exact bn rfl
 ·exact aE rfl
theorem cb {p:Prop} [Decidable p] {a b:Option α}(aE:p->Tot a Φ) (bn:¬ p->Tot b Φ):Tot (cond (decide p) a b) Φ :=
 cz (λh=>aE (of_decide_eq_true h)) (λh=>bn (of_decide_eq_false h))
theorem rI {p:Prop} [Decidable p] {a b:Option α}(aE:¬ p->Tot a Φ) (bn:p->Tot b Φ):Tot (cond (!decide p) a b) Φ :=
 cz (λh=>aE (of_decide_eq_false (by simpa using h))) (λh=>bn (of_decide_eq_true (by simpa using h)))
theorem hp {l:List α}{i:Int}(bd:0<=i) (h1:i<l.length) (hk:∀ y,idx l i=some y->y∈l->Φ y):Tot (idx l i) Φ:=by
 have bg:i.toNat<l.length:=by omega
 have:idx l i=some l[i.toNat]:=by simp [idx,bd,bg]
 exact ⟨_,this,hk _ this (List.getElem_mem bg)⟩
theorem ap {Φ:List α->Prop}{l m:List α}(h:l.length+m.length<=lim) (hk:Φ (l++m)):Tot (eC l m) Φ:=by
 refine ⟨l++m,?_,hk⟩
 unfold eC
 rw [if_pos h]
theorem loop {f:S->Option (S ⊕ R)}{fv:S}{fU:R->Prop}(Inv:S->Prop) (th:S->Nat) (bd:Inv fv) (GI:th fv<fuel)
  (aM:∀ s,Inv s->Tot (f s) (iU (λeR=>Inv eR/\th eR<th s) fU)):Tot (cS f fv) fU:=by
 have key:∀ n s,Inv s->th s<n->Tot (iter f n s) fU:=by
  intro n
  induction n with
  | zero=>intro s _ h; omega
  | succ n aR =>
   intro s bt hm
   obtain ⟨x,J,du⟩:=aM s bt
   cases x with
   | inl eR =>
    obtain ⟨h1,al⟩:=du
    simp only [iter,J]
    exact aR eR h1 (by omega)
   | inr r =>
    simp only [iter,J]
    exact ⟨r,rfl,du⟩
 exact key fuel fv bd GI
theorem count {f:S->Option (S ⊕ R)}{fv:S}{fU:R->Prop}(i:S->Int) (n:Int) (Inv:S->Prop) (bd:Inv fv) (aL:n - i fv<1000000000000000000)
  (aM:∀ s,Inv s->Tot (f s) (iU (λeR=>Inv eR/\i s<i eR/\i eR<=n) fU)):Tot (cS f fv) fU:=by
 refine loop Inv (λs=>(n - i s).toNat) bd (by show (n - i fv).toNat<1000000000000000000; omega) λs bt=>(aM s bt).use λx J=>?_
 cases x with
 | inl eR=>exact ⟨J.1,by have:=J.2; show (n - i eR).toNat<(n - i s).toNat; omega⟩
 | inr r=>exact J
end Tot
theorem dQ (n:Int):aO n=(n+9223372036854775808) % 18446744073709551616 - 9223372036854775808:=IntKind.wrap_i64 n
namespace Tot
theorem cat {Φ:ByteArray->Prop}{s u:ByteArray}(h:s.size+u.size<=4611686018427387904) (hk:Φ (s++u)):Tot (ss s u) Φ:=by
 refine ⟨s++u,?_,hk⟩
 unfold ss
 rw [if_pos h]
theorem cut {Φ:ByteArray->Prop}{s:ByteArray}{m n:Int}(h:0<=m/\m<=n/\n<=s.size) (hk:Φ (rL s m n)):Tot (rK s m n) Φ:=by
 refine ⟨_,?_,hk⟩
 unfold rK
 rw [if_pos h]
theorem ny {Φ:Int->Prop}{s:ByteArray}{m:Int}(h:0<=m/\m<s.size) (hk:Φ (y3 s m)):Tot (k2 s m) Φ:=by
 refine ⟨_,?_,hk⟩
 unfold k2
 rw [if_pos h]
theorem sub {Φ:List α->Prop}{l:List α}{m n:Int}(h:0<=m/\m<=n/\n<=l.length) (hk:Φ ((l.drop m.toNat).take (n - m).toNat)):Tot (qw l m n) Φ:=by
 refine ⟨_,?_,hk⟩
 unfold qw
 rw [if_pos h]
theorem rem {Φ:Int->Prop}{m n:Int}(h:n≠0) (hk:Φ (m.tmod n)):Tot (qm m n) Φ:=by
 refine ⟨_,?_,hk⟩
 unfold qm
 rw [if_neg h]
theorem quo {Φ:Int->Prop}{m n:Int}(h:n≠0) (hk:Φ (aO (m.tdiv n))):Tot (DF m n) Φ:=by
 refine ⟨_,?_,hk⟩
 unfold DF
 rw [if_neg h]
theorem s' {Φ:Int->Prop}{m n:Int}(h:n≠0) (hk:Φ (m.tmod n)):Tot (Own.s' m n) Φ:=by
 refine ⟨_,?_,hk⟩
 unfold Own.s'
 rw [if_neg h]
theorem s7 {Φ:Int->Prop}{m n:Int}(h:n≠0) (hk:Φ (IntKind.u64.wrap (m.tdiv n))):Tot (Own.s7 m n) Φ:=by
 refine ⟨_,?_,hk⟩
 unfold Own.s7
 rw [if_neg h]
theorem mk {Φ:List α->Prop}{m:Int}{z:α}(h:0<=m/\m<=lim) (hk:Φ (List.replicate m.toNat z)):Tot (qf m z) Φ:=by
 refine ⟨_,?_,hk⟩
 unfold qf
 rw [if_pos h]
theorem eq {x:Option α}{Φ:α->Prop}{a:α}(h:Tot x Φ) (e:x=some a):Φ a:=by
 obtain ⟨b,aJ,nH⟩:=h
 rw [e] at aJ; cases aJ; exact nH
theorem ex {x:Option α}{Φ:α->Prop}(h:Tot x Φ):∃ a,x=some a/\Φ a:=h
end Tot
namespace Tot
theorem scan {f:Int->Option (Int ⊕ (Unit ⊕ R))}(l:List β) (P:β->Prop) (Q:R->Prop) (ao:l.length<=100000000000000000)
  (aM:∀ (s:Int) (y:β),0<=s->s<l.length->idx l s=some y->y∈l->Tot (f s) (iU (λeR=>eR=s+1/\P y) (iU (λ_=>False) Q)))
  (he:∀ s:Int,¬ s<l.length->f s=some (.inr (.inl ()))):Tot (cS f 0) (iU (λ_=>∀ y∈l,P y) Q):=by
 refine count (λs=>s) l.length (λs=>0<=s/\s<=l.length/\∀ (af:Nat) (y:β),(af:Int)<s->l[af]?=some y->P y) ⟨by omega,by omega,λaf y h=>by omega⟩ (by show (l.length:Int) - 0<_; omega) λs bt=>?_
 obtain ⟨bd,h1,al⟩:=bt
 by_cases bg:s<l.length
 ·have l4:s.toNat<l.length:=by omega
  have hi:idx l s=some l[s.toNat]:=by simp [idx,bd,l4]
  refine (aM s _ bd bg hi (List.getElem_mem l4)).use λx J=>?_
  rcases x with eR | ⟨⟨⟩⟩ | r
  ·obtain ⟨rfl,du⟩:=J
   refine ⟨⟨by omega,by omega,λaf y aa az=>?_⟩,by show s<s+1; omega,by show s+1<=_; omega⟩
   by_cases xD:(af:Int)<s
   ·exact al af y xD az
   ·have:af=s.toNat:=by omega
    subst this
    rw [List.getElem?_eq_getElem l4] at az
    cases az; exact du
  ·exact J.elim
  ·exact J
 ·rw [he s bg]
  refine aB λy az=>?_
  obtain ⟨af,aa,rfl⟩:=List.mem_iff_getElem.1 az
  exact al af _ (by omega) (List.getElem?_eq_getElem aa)
end Tot
end Go.Own
namespace Go.Own
open Go
variable {α β S R:Type}
def Par (x:Option α) (Φ:α->Prop):Prop:=∀ a,x=some a->Φ a
set_option linter.unusedVariables false
namespace Par
variable {Φ fU:α->Prop}
theorem aB {a:α}(h:Φ a):Par (some a) Φ:=λb e=>by cases e; exact h
theorem no:Par (none:Option α) Φ:=λb e=>by cases e
theorem use {x:Option α}(h:Par x fU) (hi:∀ a,fU a->Φ a):Par x Φ:=λa e=>hi a (h a e)
theorem aK {x:Option β}{f:β->Option α}{Ξ:β->Prop}(h:Par x Ξ) (hk:∀ a,Ξ a->Par (f a) Φ):Par (x.bind f) Φ:=λa e=>by
 cases x with
 | none=>cases e
 | some b=>exact hk b (h b rfl) a e
theorem go {x:Option β}{f:β->Option α}(hk:∀ a,x=some a->Par (f a) Φ):Par (x.bind f) Φ:=λa e=>by
 cases x with
 | none=>cases e
 | some b=>exact hk b rfl a e
theorem cz {c:Bool}{a b:Option α}(aE:c=true->Par a Φ) (bn:c=false->Par b Φ):Par (cond c a b) Φ:=by
 cases c
 ·exact bn rfl
 ·exact aE rfl
theorem cb {p:Prop} [Decidable p] {a b:Option α}(aE:p->Par a Φ) (bn:¬ p->Par b Φ):Par (cond (decide p) a b) Φ :=
 cz (λh=>aE (of_decide_eq_true h)) (λh=>bn (of_decide_eq_false h))
theorem rI {p:Prop} [Decidable p] {a b:Option α}(aE:¬ p->Par a Φ) (bn:p->Par b Φ):Par (cond (!decide p) a b) Φ :=
 cz (λh=>aE (of_decide_eq_false (by simpa using h))) (λh=>bn (of_decide_eq_true (by simpa using h)))
theorem ap {l m:List β}{f:List β->Option α}(hk:l.length+m.length<=lim->Par (f (l++m)) Φ):Par ((eC l m).bind f) Φ:=by
 unfold eC
 split
 ·rename_i h; exact hk h
 ·exact no
theorem cat {s u:ByteArray}{f:ByteArray->Option α}(hk:Par (f (s++u)) Φ):Par ((ss s u).bind f) Φ:=by
 unfold ss
 split
 ·exact hk
 ·exact no
theorem loop {f:S->Option (S ⊕ R)}{fv:S}{fU:R->Prop}(Inv:S->Prop) (bd:Inv fv) (aM:∀ s,Inv s->Par (f s) (iU Inv fU)):Par (cS f fv) fU:=by
 have key:∀ n s,Inv s->Par (iter f n s) fU:=by
  intro n
  induction n with
  | zero=>intro s _ a e; cases e
  | succ n aR =>
   intro s bt a e
   simp only [iter] at e
   cases J:f s with
   | none=>rw [J] at e; cases e
   | some x =>
    have du:=aM s bt x J
    rw [J] at e
    cases x with
    | inl eR=>exact aR eR du a e
    | inr r=>cases e; exact du
 exact key fuel fv bd
theorem j6 {x:Option α}(h:Tot x Φ) (aS:Par x fU):Tot x λa=>Φ a/\fU a:=by
 obtain ⟨a,bm,nH⟩:=h
 exact ⟨a,bm,nH,aS a bm⟩
theorem of {x:Option α}(h:Tot x Φ):Par x Φ:=λa e=>h.eq e
theorem scan {f:Int->Option (Int ⊕ (Unit ⊕ R))}(l:List β) (ao:l.length<=100000000000000000) (P:β->Prop) (Q:R->Prop)
  (aM:∀ (s:Int) (y:β),0<=s->s<l.length->idx l s=some y->y∈l->Par (f s) (iU (λeR=>eR=s+1/\P y) (iU (λ_=>False) Q)))
  (he:∀ s:Int,¬ s<l.length->f s=some (.inr (.inl ()))):Par (cS f 0) (iU (λ_=>∀ y∈l,P y) Q):=by
 refine loop (λs=>0<=s/\s<=l.length/\∀ (af:Nat) (y:β),(af:Int)<s->l[af]?=some y->P y) ⟨by omega,by omega,λaf y h=>by omega⟩ λs bt=>?_
 obtain ⟨bd,h1,al⟩:=bt
 by_cases bg:s<l.length
 ·have l4:s.toNat<l.length:=by omega
  have hi:idx l s=some l[s.toNat]:=by simp [idx,bd,l4]
  refine (aM s _ bd bg hi (List.getElem_mem l4)).use λx J=>?_
  rcases x with eR | ⟨⟨⟩⟩ | r
  ·obtain ⟨rfl,du⟩:=J
   refine ⟨by omega,by omega,λaf y aa az=>?_⟩
   by_cases xD:(af:Int)<s
   ·exact al af y xD az
   ·have:af=s.toNat:=by omega
    subst this
    rw [List.getElem?_eq_getElem l4] at az
    cases az; exact du
  ·exact J.elim
  ·exact J
 ·rw [he s bg]
  refine aB λy az=>?_
  obtain ⟨af,aa,rfl⟩:=List.mem_iff_getElem.1 az
  exact al af _ (by omega) (List.getElem?_eq_getElem aa)
end Par
end Go.Own
namespace Go.Own
open Go
variable {α β S R:Type}
namespace Tot
theorem upto {f:S->Option (S ⊕ R)}{fv:S}{fU:R->Prop}(i:S->Int) (n:Nat) (Inv:Nat->S->Prop) (hi:i fv=0) (aL:n<=100000000000000000) (bd:Inv 0 fv)
  (aM:∀ (k:Nat) (s:S),k<=n->i s=(k:Int)->Inv k s->Tot (f s) (iU (λeR=>k<n/\i eR=((k+1:Nat):Int)/\Inv (k+1) eR) fU)):Tot (cS f fv) fU:=by
 refine count i n (λs=>∃ k:Nat,k<=n/\i s=(k:Int)/\Inv k s) ⟨0,Nat.zero_le _,hi,bd⟩ (by rw [hi]; omega) λs ⟨k,hk,he,bt⟩=>(aM k s hk he bt).use λx J=>?_
 rcases x with eR | r
 ·obtain ⟨h1,al,aP⟩:=J
  exact ⟨⟨k+1,by omega,al,aP⟩,by omega,by omega⟩
 ·exact J
end Tot
namespace Par
theorem upto {f:S->Option (S ⊕ R)}{fv:S}{fU:R->Prop}(i:S->Int) (n:Nat) (Inv:Nat->S->Prop) (hi:i fv=0) (bd:Inv 0 fv)
  (aM:∀ (k:Nat) (s:S),k<=n->i s=(k:Int)->Inv k s->Par (f s) (iU (λeR=>k<n/\i eR=((k+1:Nat):Int)/\Inv (k+1) eR) fU)):Par (cS f fv) fU:=by
 refine loop (λs=>∃ k:Nat,k<=n/\i s=(k:Int)/\Inv k s) ⟨0,Nat.zero_le _,hi,bd⟩ λs ⟨k,hk,he,bt⟩=>(aM k s hk he bt).use λx J=>?_
 rcases x with eR | r
 ·obtain ⟨h1,al,aP⟩:=J
  exact ⟨k+1,by omega,al,aP⟩
 ·exact J
end Par
theorem fg (k:Nat) (h:k<=1000000000000000000):aO ((k:Int)+1)=((k+1:Nat):Int):=by rw [dQ]; omega
end Go.Own
namespace Go.Own
open Go
variable {α β yH yI S T R Q:Type}
def Rel (x:Option α) (y:Option β) (Φ:α->β->Prop):Prop:=∃ a b,x=some a/\y=some b/\Φ a b
abbrev Iu (p:S->T->Prop) (q:R->Q->Prop):S ⊕ R->T ⊕ Q->Prop
 | .inl a,.inl b=>p a b
 | .inr a,.inr b=>q a b
 | _,_=>False
namespace Rel
variable {Φ fU:α->β->Prop}
theorem aB {a:α}{b:β}(h:Φ a b):Rel (some a) (some b) Φ:=⟨a,b,rfl,rfl,h⟩
theorem use {x:Option α}{y:Option β}(h:Rel x y fU) (hi:∀ a b,fU a b->Φ a b):Rel x y Φ:=by
 obtain ⟨a,b,bm,aJ,GH⟩:=h
 exact ⟨a,b,bm,aJ,hi a b GH⟩
theorem aK {x:Option yH}{y:Option yI}{f:yH->Option α}{g:yI->Option β}{Ξ:yH->yI->Prop}(h:Rel x y Ξ) (hk:∀ a b,Ξ a b->Rel (f a) (g b) Φ):Rel (x.bind f) (y.bind g) Φ:=by
 obtain ⟨a,b,rfl,rfl,Ao⟩:=h
 exact hk a b Ao
theorem l {x:Option yH}{y:Option β}{f:yH->Option α}{Ξ:yH->Prop}(h:Tot x Ξ) (hk:∀ a,Ξ a->Rel (f a) y Φ):Rel (x.bind f) y Φ:=by
 obtain ⟨a,rfl,Ao⟩:=h
 exact hk a Ao
theorem r {x:Option α}{y:Option yI}{g:yI->Option β}{Ξ:yI->Prop}(h:Tot y Ξ) (hk:∀ a,Ξ a->Rel x (g a) Φ):Rel x (y.bind g) Φ:=by
 obtain ⟨a,rfl,Ao⟩:=h
 exact hk a Ao
theorem cz {c d:Bool}{a b:Option α}{cI hT:Option β}(ab:c=d) (aE:c=true->Rel a cI Φ) (bn:c=false->Rel b hT Φ):Rel (cond c a b) (cond d cI hT) Φ:=by
 subst ab
 cases c
 ·exact bn rfl
 ·exact aE rfl
theorem j6 {x:Option α}{y:Option β}{P:α->Prop}{Q:β->Prop}(h:Tot x P) (aS:Tot y Q) (hi:∀ a b,P a->Q b->Φ a b):Rel x y Φ:=by
 obtain ⟨a,bm,du⟩:=h
 obtain ⟨b,aJ,ef⟩:=aS
 exact ⟨a,b,bm,aJ,hi a b du ef⟩
theorem loop {f:S->Option (S ⊕ R)}{g:T->Option (T ⊕ Q)}{fv:S}{t0:T}{fU:R->Q->Prop}(Inv:S->T->Prop) (th:S->Nat) (bd:Inv fv t0) (GI:th fv<fuel)
  (aM:∀ s t,Inv s t->Rel (f s) (g t) (Iu (λeR ds=>Inv eR ds/\th eR<th s) fU)):Rel (cS f fv) (cS g t0) fU:=by
 have key:∀ n s t,Inv s t->th s<n->Rel (iter f n s) (iter g n t) fU:=by
  intro n
  induction n with
  | zero=>intro s t _ h; omega
  | succ n aR =>
   intro s t bt hm
   obtain ⟨x,y,J,az,du⟩:=aM s t bt
   rcases x with eR | r <;> rcases y with ds | q
   ·obtain ⟨h1,al⟩:=du
    simp only [iter,J,az]
    exact aR eR ds h1 (by omega)
   ·exact du.elim
   ·exact du.elim
   ·simp only [iter,J,az]
    exact ⟨r,q,rfl,rfl,du⟩
 exact key fuel fv t0 bd GI
theorem upto {f:S->Option (S ⊕ R)}{g:T->Option (T ⊕ Q)}{fv:S}{t0:T}{fU:R->Q->Prop}(i:S->Int) (n:Nat) (Inv:Nat->S->T->Prop) (hi:i fv=0) (aL:n<=100000000000000000) (bd:Inv 0 fv t0)
  (aM:∀ (k:Nat) (s:S) (t:T),k<=n->i s=(k:Int)->Inv k s t->Rel (f s) (g t) (Iu (λeR ds=>k<n/\i eR=((k+1:Nat):Int)/\Inv (k+1) eR ds) fU)):Rel (cS f fv) (cS g t0) fU:=by
 refine loop (λs t=>∃ k:Nat,k<=n/\i s=(k:Int)/\Inv k s t) (λs=>(n - (i s).toNat)) ⟨0,Nat.zero_le _,hi,bd⟩ (by rw [hi]; show n - 0<1000000000000000000; omega) λs t ⟨k,hk,he,bt⟩=>(aM k s t hk he bt).use λx y C9=>?_
 rcases x with eR | r <;> rcases y with ds | q
 ·obtain ⟨h1,al,aP⟩:=C9
  refine ⟨⟨k+1,by omega,al,aP⟩,?_⟩
  show n - (i eR).toNat<n - (i s).toNat
  rw [al,he]; omega
 ·exact C9
 ·exact C9
 ·exact C9
end Rel
end Go.Own

namespace Go.Proofs
open Go Go.Own
set_option maxRecDepth 100000
set_option linter.unusedVariables false
theorem t121 (c:Int):Tot (AT c) λ_=>True:=by
 unfold AT
 repeat' first | apply Tot.bi | refine Tot.cz (λ_=>?_) (λ_=>?_) | exact Tot.aB trivial | apply Tot.aB
theorem t122 (c:Int):Tot (AU c) λ_=>True:=by
 unfold AU
 repeat' first | apply Tot.bi | refine Tot.cz (λ_=>?_) (λ_=>?_) | exact Tot.aB trivial | apply Tot.aB
theorem t120 (c:Int):Tot (AS c) λ_=>True:=by
 unfold AS
 repeat' first | apply Tot.bi | refine Tot.cz (λ_=>?_) (λ_=>?_) | exact Tot.aB trivial | apply Tot.aB
theorem t118 (x:Sym):Tot (v8 x) λr=>r=true->x.Name={ data:=#[] }/\x.Lit=false:=by
 unfold v8
 apply Tot.bi
 refine Tot.cb (λh=>Tot.cz (λal=>?_) (λal=>?_)) (λh=>?_) <;> apply Tot.aB <;> apply Tot.aB
 ·exact λ_=>⟨h,by simpa using al⟩
 ·exact λh=>by cases h
 ·exact λh=>by cases h
abbrev eZ:Nat:=1000000000000
theorem t117 (s:ByteArray) (h:s.size<=eZ):Tot (AR s 0) λn=>0<=n/\n<=s.size:=by
 unfold AR
 refine Tot.aK (Ξ:=λn=>0<=n/\n<=s.size) ?_ λa bm=>.aB bm
 refine Tot.count (λi=>i) s.size (λi=>0<=i/\i<=s.size) ⟨by omega,by omega⟩ (by show (s.size:Int) - 0<_; simp only [eZ] at h; omega) λi ⟨bd,h1⟩=>?_
 simp only [eZ] at h
 have e:aO (0+i)=i:=by rw [dQ]; omega
 rw [e]
 have go:∀ c:Bool,(c=true->i<s.size)->Tot (bif c then some (.inl (aO (i+1))) else some (.inr i)) (iU (λeR:Int=>(0<=eR/\eR<=s.size)/\i<eR/\eR<=s.size) (λr:Int=>0<=r/\r<=s.size)):=by
  intro c ab
  refine Tot.cz (λal=>.aB ?_) (λ_=>.aB ⟨bd,h1⟩)
  have:=ab al
  have e:aO (i+1)=i+1:=by rw [dQ]; omega
  show (0<=aO (i+1)/\aO (i+1)<=s.size)/\i<aO (i+1)/\aO (i+1)<=s.size
  rw [e]; omega
 apply Tot.bi
 refine Tot.cb (λal=>?_) (λal=>.aB (go false (by simp)))
 apply Tot.bi
 refine Tot.ny ⟨bd,al⟩ (Tot.aK (t121 _) λc _=>?_)
 refine Tot.cz (λ_=>.aB (go _ λ_=>al)) (λ_=>Tot.cz (λ_=>?_) (λ_=>.aB (go _ λ_=>al)))
 apply Tot.bi
 refine Tot.ny ⟨bd,al⟩ (Tot.aK (t122 _) λc _=>?_)
 refine Tot.cz (λ_=>.aB (go _ λ_=>al)) (λ_=>?_)
 apply Tot.bi
 exact Tot.ny ⟨bd,al⟩ (.aB (go _ λ_=>al))
theorem t111 (s:ByteArray) (h:s.size<=eZ):Tot (uu s) λr=>r=true->1<=s.size/\s.size<=20:=by
 unfold uu
 apply Tot.bi
 refine Tot.cb (λh1=>Tot.cb (λal=>?_) (λal=>?_)) (λh1=>?_)
 ·exact .aK (t117 s h) λn aL=>.aB (.aB λ_=>by omega)
 ·exact .aB (.aB λh=>by cases h)
 ·exact .aB (.aB λh=>by cases h)
theorem t124 (s:ByteArray) (i:Int) (t:ByteArray) (h:s.size<=eZ) (bd:0<=i) (h1:i<=4 * eZ) (aE:t.size<=eZ):Tot (v_ s i t) λr=>r=true->i+t.size<=s.size:=by
 unfold v_
 simp only [eZ] at *
 apply Tot.bi
 refine Tot.cb (λal=>?_) (λal=>.aB (.aB λh=>by cases h))
 apply Tot.bi
 rw [dQ] at al
 have e:aO (i+t.size)=i+t.size:=by rw [dQ]; omega
 refine Tot.cut (by rw [e]; omega) (.aB (.aB λ_=>by omega))
theorem t123 (s:ByteArray) (i:Int) (h:s.size<=eZ) (bd:0<=i) (h1:i<s.size):Tot (AV s i) λr=>r<=s.size:=by
 unfold AV
 have aJ:(s.size:Int)<=1000000000000:=by simp only [eZ] at h; omega
 have dy:aO (i+1)=i+1:=by rw [dQ]; omega
 have de:aO (i+2)=i+2:=by rw [dQ]; omega
 rw [dy,de]
 have vp:=Tot.ny (Φ:=λ_=>True) (s:=s) (m:=i) ⟨bd,h1⟩ trivial
 refine Tot.aK (Ξ:=λ_=>True) ?_ λc _=>Tot.cz (λ_=>?_) (λ_=>?_)
 ·refine Tot.aK vp λ_ _=>Tot.cz (λ_=>.aB trivial) (λ_=>Tot.aK vp λ_ _=>.aB trivial)
 ·refine Tot.aK (Ξ:=iU (λ_=>True) (λr=>r<=s.size)) ?_ λx J=>?_
  ·refine Tot.count (λaf=>af) (s.size+1) (λaf=>0<=af) (by show (0:Int)<=i+1; omega) (by show (s.size:Int)+1 - (i+1)<_; omega) λaf aa=>?_
   refine Tot.aK (Ξ:=λc=>c=true->af<s.size) ?_ λc ab=>Tot.cz (λal=>?_) (λ_=>.aB trivial)
   ·refine Tot.cb (λal=>?_) (λ_=>.aB λh=>by cases h)
    exact .aK (Ξ:=λ_=>True) (Tot.ny ⟨aa,al⟩ trivial) λ_ _=>.aB λ_=>al
   ·have RU:=ab al
    have CR:=Tot.ny (Φ:=λ_=>True) (s:=s) (m:=af) ⟨aa,RU⟩ trivial
    have jM:aO (af+1)=af+1:=by rw [dQ]; omega
    have p2:aO (af+1+1)=af+1+1:=by rw [dQ]; omega
    rw [jM,p2]
    refine .aK CR λ_ _=>.aK vp λ_ _=>Tot.cz (λ_=>.aB ?_) (λ_=>.aK CR λ_ _=>Tot.cz (λ_=>?_) (λ_=>.aB ?_))
    ·show af+1<=s.size; omega
    ·refine Tot.aK (Ξ:=λ_=>True) ?_ λc _=>Tot.cz (λ_=>.aB ?_) (λ_=>.aB ?_)
     ·refine Tot.cb (λaP=>?_) (λ_=>.aB trivial)
      exact .aK (Ξ:=λ_=>True) (Tot.ny ⟨by omega,aP⟩ trivial) λ_ _=>.aB trivial
     ·show (-1:Int)<=s.size; omega
     ·show (0:Int)<=af+1+1/\af<af+1+1/\af+1+1<=s.size+1; omega
    ·show (0:Int)<=af+1/\af<af+1/\af+1<=s.size+1; omega
  ·rcases x with _ | r
   ·exact .aB (by show (-1:Int)<=s.size; omega)
   ·exact .aB J
 ·refine .aK vp λ_ _=>Tot.cz (λ_=>?_) (λ_=>?_)
  ·refine Tot.aK (Ξ:=iU (λ_=>True) (λr=>r<=s.size)) ?_ λx J=>?_
   ·refine Tot.count (λaf=>af) (s.size+1) (λaf=>0<=af) (by show (0:Int)<=i+1; omega) (by show (s.size:Int)+1 - (i+1)<_; omega) λaf aa=>?_
    refine Tot.cb (λal=>?_) (λ_=>.aB trivial)
    have jM:aO (af+1)=af+1:=by rw [dQ]; omega
    rw [jM]
    refine .aK (Ξ:=λ_=>True) (Tot.ny ⟨aa,al⟩ trivial) λ_ _=>Tot.cz (λ_=>.aB ?_) (λ_=>.aB ?_)
    ·show af+1<=s.size; omega
    ·show (0:Int)<=af+1/\af<af+1/\af+1<=s.size+1; omega
   ·rcases x with _ | r
    ·exact .aB (by show (-1:Int)<=s.size; omega)
    ·exact .aB J
  ·refine .aK (t124 s i _ h bd (by simp only [eZ]; omega) (by decide)) λc _=>Tot.cz (λ_=>?_) (λ_=>?_)
   ·refine Tot.aK (Ξ:=λr=>r<=s.size) ?_ λx J=>.aB J
    refine Tot.count (λaf=>af) s.size (λaf=>0<=af/\af<=s.size) ⟨bd,by omega⟩ (by show (s.size:Int) - i<_; omega) λaf aa=>?_
    refine Tot.aK (Ξ:=λc=>c=true->af<s.size) ?_ λc ab=>Tot.cz (λal=>?_) (λ_=>.aB aa.2)
    ·refine Tot.cb (λal=>?_) (λ_=>.aB λh=>by cases h)
     exact .aK (Ξ:=λ_=>True) (Tot.ny ⟨aa.1,al⟩ trivial) λ_ _=>.aB λ_=>al
    ·have:=ab al
     have jM:aO (af+1)=af+1:=by rw [dQ]; omega
     rw [jM]
     exact .aB (by show ((0:Int)<=af+1/\af+1<=s.size)/\af<af+1/\af+1<=s.size; omega)
   ·refine .aK (t124 s i _ h bd (by simp only [eZ]; omega) (by decide)) λc ab=>Tot.cz (λja=>?_) (λ_=>.aB (by omega))
    refine Tot.aK (Ξ:=iU (λ_=>True) (λr=>r<=s.size)) ?_ λx J=>?_
    ·refine Tot.count (λaf=>af) (s.size+1) (λaf=>0<=af) (by show (0:Int)<=i+2; omega) (by show (s.size:Int)+1 - (i+2)<_; omega) λaf aa=>?_
     refine Tot.cb (λal=>?_) (λ_=>.aB trivial)
     have jM:aO (af+1)=af+1:=by rw [dQ]; omega
     have p2:aO (af+2)=af+2:=by rw [dQ]; omega
     rw [jM,p2]
     refine .aK (t124 s af _ h aa (by simp only [eZ]; omega) (by decide)) λc ab=>Tot.cz (λsO=>.aB ?_) (λ_=>.aB ?_)
     ·have:=ab sO
      have qL:({ data:=#[42,47] }:ByteArray).size=2:=rfl
      rw [qL] at this
      show af+2<=s.size; omega
     ·show (0:Int)<=af+1/\af<af+1/\af+1<=s.size+1; omega
    ·rcases x with _ | r
     ·exact .aB (by show (-1:Int)<=s.size; omega)
     ·exact .aB J
theorem t119 (s:ByteArray) (h:s.size<=eZ):Tot (ya s 0) λ_=>True:=by
 unfold ya
 have aJ:(s.size:Int)<=1000000000000:=by simp only [eZ] at h; omega
 refine Tot.aK (Ξ:=λ_=>True) ?_ λc _=>Tot.cz (λ_=>.aB trivial) (λ_=>?_)
 ·refine Tot.cb (λh=>.aB trivial) (λbd=>Tot.cb (λh=>.aB trivial) (λal=>?_))
  exact .aK (Ξ:=λ_=>True) (Tot.ny (by omega) trivial) λ_ _=>.aB trivial
 ·refine Tot.aK (Ξ:=λ_=>True) ?_ λx _=>by rcases x with _ | r <;> exact .aB trivial
  refine Tot.count (λaf=>af.2) s.size (λaf=>0<=af.2/\af.2<=s.size) ⟨by show (0:Int)<=0; omega,by show (0:Int)<=s.size; omega⟩ (by show (s.size:Int) - 0<_; omega) λaf aa=>?_
  refine Tot.cb (λal=>?_) (λ_=>.aB trivial)
  refine .aK (t123 s af.2 h aa.1 al) λn aL=>Tot.cb (λ_=>.aB trivial) (λaP=>Tot.cb (λb3=>.aB ?_) (λb3=>?_))
  ·show ((0:Int)<=n/\n<=s.size)/\af.2<n/\n<=s.size; omega
  ·have vp:=Tot.ny (Φ:=λ_=>True) (s:=s) (m:=af.2) ⟨aa.1,al⟩ trivial
   have jM:aO (af.2+1)=af.2+1:=by rw [dQ]; omega
   rw [jM]
   refine .aK vp λ_ _=>.aK (Ξ:=λ_=>True) (Tot.cz (λ_=>.aB trivial) (λ_=>.aB trivial)) λ_ _=>.aK vp λ_ _=>.aK (Ξ:=λ_=>True) (Tot.cz (λ_=>.aB trivial) (λ_=>.aB trivial)) λ_ _=>Tot.cz (λ_=>.aB trivial) (λ_=>.aB ?_)
   show ((0:Int)<=af.2+1/\af.2+1<=s.size)/\af.2<af.2+1/\af.2+1<=s.size; omega
def lF (x:Sym):Prop:=x.Lit=true->x.Name.size=1
structure D9 (d:Decl):Prop where
 tag:d.Tag.size<=eZ
 n:d.eV.length<=1000
 syms:∀ x∈d.eV,x.Name.size<=eZ
structure wL (a:Alt):Prop where
 n:a.h9.length<=1000
 parts:∀ p∈a.h9,p.Sym.Name.size<=eZ/\p.Code.size<=eZ
 prec:a.Prec.Name.size<=eZ
structure Ix (r:fi):Prop where
 left:r.Left.size<=eZ
 n:r.eT.length<=1000
 alts:∀ a∈r.eT,wL a
structure si (s:Source):Prop where
 T5:s.bx.size<=eZ
 ER:s.Decls.length<=1000
 decls:∀ d∈s.Decls,D9 d
 aN:s.dD.length<=1000
 rules:∀ r∈s.dD,Ix r
theorem t116 (x:Sym) (a b:Bool) (h:x.Name.size<=eZ):Tot (v7 x a b) λr=>r=true->lF x:=by
 unfold v7
 refine Tot.cz (λao=>?_) (λao=>?_)
 ·refine Tot.aK (Ξ:=λc=>c=false->x.Name.size=1) ?_ λc ab=>Tot.cz (λ_=>.aB λh=>by cases h) (λal=>?_)
  ·refine Tot.cz (λ_=>.aB λh=>by cases h) (λ_=>Tot.rI (λ_=>.aB λh=>by cases h) (λh1=>.aB λ_=>by omega))
  ·have h1:=ab al
   refine .aK (Ξ:=λ_=>True) (Tot.ny (by omega) trivial) λ_ _=>.aK (t120 _) λ_ _=>.aB λ_ _=>h1
 ·have fo:lF x:=λh=>by rw [ao] at h; cases h
  refine Tot.aK (Ξ:=λ_=>True) ?_ λc ab=>.aB λ_=>fo
  refine .aK (t111 _ h) λc _=>?_
  repeat' first | refine Tot.cz (λ_=>?_) (λ_=>?_) | exact Tot.aB trivial
theorem t110 (d:Decl) (h:D9 d):Tot (AP d) λr=>r=true->∀ x∈d.eV,lF x:=by
 unfold AP
 refine Tot.aK (Ξ:=λ_=>True) ?_ λc _=>Tot.cz (λ_=>.aB λh=>by cases h) (λ_=>?_)
 ·have aE:=(t111 _ h.tag).use (Φ:=λ_=>True) λ_ _=>trivial
  repeat' first | refine Tot.cz (λ_=>?_) (λ_=>?_) | exact Tot.aB trivial | refine .aK aE λ_ _=>?_
 ·refine Tot.aK (Tot.scan d.eV (λx=>lF x) (λr=>r=false) (by have:=h.n; omega) (λs y bd h1 hi hm=>?_) (λs aM=>by simp [aM])) λx J=>?_
  ·refine Tot.cb (λ_=>?_) (λh=>absurd h1 h)
   rw [hi]
   refine Tot.au ?_
   refine .aK (t116 _ _ _ (h.syms _ hm)) λc ab=>Tot.cz (λ_=>.aB rfl) (λal=>.aB ⟨?_,ab (by simpa using al)⟩)
   have:=h.n
   rw [dQ]; omega
  ·rcases x with _ | r
   ·exact .aB λ_=>J
   ·exact .aB λh=>by have:r=false:=J; rw [this] at h; cases h
theorem t112 (a:Alt) (h:wL a):Tot (AQ a) λr=>r=true->(∀ p∈a.h9,lF p.Sym)/\lF a.Prec:=by
 unfold AQ
 refine Tot.aK (Tot.scan a.h9 (λp=>lF p.Sym) (λr=>r=false) (by have:=h.n; omega) (λs y bd h1 hi hm=>?_) (λs aM=>by simp [aM])) λx J=>?_
 ·refine Tot.cb (λ_=>?_) (λh=>absurd h1 h)
  rw [hi]
  refine Tot.au ?_
  have aH:=h.parts _ hm
  have t1:=t116 y.Sym false true aH.1
  have t2:=t118 y.Sym
  have MQ:=t119 y.Code aH.2
  have hw:aO (s+1)=s+1:=by have:=h.n; rw [dQ]; omega
  rw [hw]
  have n118:(y.Sym.Name={ data:=#[] }/\y.Sym.Lit=false)->lF y.Sym:=λh ao=>by rw [h.2] at ao; cases ao
  refine Tot.aK (Ξ:=λc=>c=false->lF y.Sym) ?_ λc ab=>Tot.cz (λ_=>.aB rfl) (λal=>.aB ⟨rfl,ab al⟩)
  refine Tot.cb (λ_=>?_) (λeK=>?_)
  ·refine .aK t1 λc ab=>Tot.cz (λ_=>.aB λh=>by cases h) (λal=>?_)
   have fo:=ab (by simpa using al)
   refine Tot.cz (λ_=>?_) (λ_=>.aB λ_=>fo)
   refine .aK t2 λc _=>Tot.cz (λ_=>.aB λ_=>fo) (λ_=>?_)
   exact .aK MQ λ_ _=>.aB λ_=>fo
  ·refine Tot.rI (λ_=>?_) (λh=>.aB λ_=>?_)
   ·refine .aK t2 λc ab=>Tot.cz (λ_=>.aB λh=>by cases h) (λal=>?_)
    have fo:=n118 (ab (by simpa using al))
    exact .aK MQ λ_ _=>.aB λ_=>fo
   ·exact absurd h eK
 ·rcases x with _ | r
  ·have J:∀ p∈a.h9,lF p.Sym:=J
   refine Tot.aK (Ξ:=λc=>c=true->lF a.Prec) ?_ λc ab=>.aB λh=>⟨J,ab h⟩
   refine .aK (t118 _) λc ab=>Tot.cz (λal=>.aB λ_=>?_) (λ_=>.aK (t116 _ _ _ h.prec) λc ab=>.aB ab)
   intro ao; rw [(ab al).2] at ao; cases ao
  ·exact .aB λh=>by have:r=false:=J; rw [this] at h; cases h
structure BO (a:Alt):Prop where
 parts:∀ p∈a.h9,lF p.Sym
 prec:lF a.Prec
structure Iz (s:Source):Prop where
 decls:∀ d∈s.Decls,∀ x∈d.eV,lF x
 rules:∀ r∈s.dD,∀ a∈r.eT,BO a
 pos:0<s.dD.length
theorem t92 (s:Source) (h:si s):Tot (Bl s) λr=>r=true->Iz s:=by
 unfold Bl
 refine Tot.aK (Ξ:=iU (λ_=>True) (λr=>r=false)) ?_ λx J=>?_
 ·have aH:(s.bx.size:Int)<=1000000000000:=by have:=h.T5; simp only [eZ] at this; omega
  refine Tot.count (λaf=>af) s.bx.size (λaf=>0<=af/\af<=s.bx.size) ⟨by omega,by omega⟩ (by show (s.bx.size:Int) - 0<_; omega) λaf aa=>?_
  have dy:aO (af+1)=af+1:=by rw [dQ]; omega
  have de:aO (af+2)=af+2:=by rw [dQ]; omega
  rw [dy,de]
  refine Tot.cb (λal=>?_) (λ_=>.aB trivial)
  refine .aK (Ξ:=λ_=>True) (Tot.cut (by omega) trivial) λ_ _=>Tot.cz (λ_=>.aB rfl) (λ_=>.aB ?_)
  show ((0:Int)<=af+1/\af+1<=s.bx.size)/\af<af+1/\af+1<=s.bx.size; omega
 ·rcases x with _ | r
  ·refine Tot.aK (Tot.scan s.Decls (λd=>∀ x∈d.eV,lF x) (λr=>r=false) (by have:=h.ER; omega) (λi y bd h1 hi hm=>?_) (λs aM=>by simp [aM])) λx J=>?_
   ·refine Tot.cb (λ_=>?_) (λh=>absurd h1 h)
    rw [hi]
    refine Tot.au ?_
    refine .aK (t110 _ (h.decls _ hm)) λc ab=>Tot.cz (λ_=>.aB rfl) (λal=>.aB ⟨?_,ab (by simpa using al)⟩)
    have:=h.ER
    rw [dQ]; omega
   ·rcases x with _ | r
    ·have J:∀ d∈s.Decls,∀ x∈d.eV,lF x:=J
     refine Tot.aK (Tot.scan s.dD (λr=>∀ a∈r.eT,BO a) (λr=>r=false) (by have:=h.aN; omega) (λi y bd h1 hi hm=>?_) (λs aM=>by simp [aM])) λx ho=>?_
     ·refine Tot.cb (λ_=>?_) (λh=>absurd h1 h)
      rw [hi]
      refine Tot.au ?_
      have ay:=h.rules _ hm
      have hw:aO (i+1)=i+1:=by have:=h.aN; rw [dQ]; omega
      rw [hw]
      refine .aK (Ξ:=λ_=>True) (.aK (t111 _ ay.left) λc _=>Tot.cz (λ_=>.aB trivial) (λ_=>.aB trivial)) λc _=>Tot.cz (λ_=>.aB rfl) (λ_=>?_)
      refine Tot.aK (Tot.scan y.eT BO (λr=>r=false) (by have:=ay.n; omega) (λk a bd h1 hi hm=>?_) (λs aM=>by simp [aM])) λx hJ=>?_
      ·refine Tot.cb (λ_=>?_) (λh=>absurd h1 h)
       rw [hi]
       refine Tot.au ?_
       refine .aK (t112 _ (ay.alts _ hm)) λc ab=>Tot.cz (λ_=>.aB rfl) (λal=>.aB ⟨?_,⟨(ab (by simpa using al)).1,(ab (by simpa using al)).2⟩⟩)
       have:=ay.n
       rw [dQ]; omega
      ·rcases x with _ | r
       ·exact .aB ⟨rfl,hJ⟩
       ·exact .aB hJ
     ·rcases x with _ | r
      ·exact .aB λh=>⟨J,ho,by have:=of_decide_eq_true h; omega⟩
      ·exact .aB λh=>by have:r=false:=ho; rw [this] at h; cases h
    ·exact .aB λh=>by have:r=false:=J; rw [this] at h; cases h
  ·exact .aB λh=>by have:r=false:=J; rw [this] at h; cases h
abbrev jo:=cT
structure tu (m m':jo):Prop where
 g:m'.ar=m.ar
 iB:m'.b0=m.b0
 ty:m'.bX=m.bX
 hZ:m'.bG=m.bG
 j1:m'.bW=m.bW
 hL:m'.bB=m.bB
theorem t94 (m:jo) (a:Int) (n:ByteArray):Tot (nN m a n) λm'=>tu m m'/\m'.cf≠0:=by
 unfold nN
 apply Tot.bi
 refine Tot.cb (λ_=>.aB (.aB ⟨⟨rfl,rfl,rfl,rfl,rfl,rfl⟩,?_⟩)) (λh=>.aB (.aB ⟨⟨rfl,rfl,rfl,rfl,rfl,rfl⟩,h⟩))
 show (3:Int)≠0; decide
theorem t98 (m:jo) (n:ByteArray) (h:m.bX.length<=eZ):Tot (yl m n) λr=>r=-1\/(0<=r/\r<m.bX.length):=by
 unfold yl
 simp only [eZ] at h
 refine Tot.aK (Tot.scan m.bX (λ_=>True) (λr:Int=>0<=r/\r<m.bX.length) (by omega) (λs y bd h1 hi hm=>?_) (λs aM=>by simp [aM])) λx J=>?_
 ·refine Tot.cb (λ_=>?_) (λh=>absurd h1 h)
  rw [hi]
  refine Tot.au ?_
  refine Tot.cz (λ_=>.aB ⟨bd,h1⟩) (λ_=>.aB ⟨?_,trivial⟩)
  rw [dQ]; omega
 ·rcases x with _ | r
  ·exact .aB (.inl rfl)
  ·exact .aB (.inr J)
theorem t96 (m:jo) (n:ByteArray) (h:m.bG.length<=eZ):Tot (r0 m n) λr=>(r=-1/\∀ x∈m.bG,x≠n)\/(0<=r/\r<m.bG.length/\m.bG[r.toNat]?=some n):=by
 unfold r0
 simp only [eZ] at h
 refine Tot.aK (Tot.scan m.bG (λx=>x≠n) (λr:Int=>0<=r/\r<m.bG.length/\m.bG[r.toNat]?=some n) (by omega) (λs y bd h1 hi hm=>?_) (λs aM=>by simp [aM])) λx J=>?_
 ·refine Tot.cb (λ_=>?_) (λh=>absurd h1 h)
  rw [hi]
  refine Tot.au ?_
  refine Tot.cb (λe=>.aB ⟨bd,h1,by rw [<- e]; exact (qb hi).2.2⟩) (λe=>.aB ⟨?_,e⟩)
  rw [dQ]; omega
 ·rcases x with _ | r
  ·exact .aB (.inl ⟨rfl,J⟩)
  ·exact .aB (.inr J)
theorem t95 (m:jo) (x:Sym) (h:m.ar.ba.length<=eZ):Tot (wh m x) λr=>r=-1\/(1<=r/\r<m.ar.ba.length):=by
 unfold wh
 simp only [eZ] at h
 refine Tot.aK (Ξ:=iU (λ_=>True) (λr=>1<=r/\r<m.ar.ba.length)) ?_ λx J=>?_
 ·refine Tot.count (λaf=>af) m.ar.ba.length (λaf=>1<=af) (by omega) (by show (m.ar.ba.length:Int) - 1<_; omega) λaf aa=>?_
  refine Tot.cb (λal=>?_) (λ_=>.aB trivial)
  have e:aO (af+1)=af+1:=by rw [dQ]; omega
  rw [e]
  refine .aK (Ξ:=λ_=>True) ?_ λc _=>Tot.cz (λ_=>.aB ⟨aa,al⟩) (λ_=>.aB ?_)
  ·refine .aK (Ξ:=λ_=>True) (Tot.hp (by omega) al λ_ _ _=>trivial) λ_ _=>Tot.cz (λ_=>?_) (λ_=>.aB trivial)
   exact .aK (Ξ:=λ_=>True) (Tot.hp (by omega) al λ_ _ _=>trivial) λ_ _=>Tot.cz (λ_=>.aB trivial) (λ_=>.aB trivial)
  ·show (1:Int)<=af+1/\af<af+1/\af+1<=m.ar.ba.length; omega
 ·rcases x with _ | r
  ·exact .aB (.inl rfl)
  ·exact .aB (.inr J)
theorem t114 (m:jo) (n:Int) (h:m.ar.ba.length<=eZ):Tot (x_ m n) λ_=>True:=by
 unfold x_
 simp only [eZ] at h
 refine Tot.aK (Ξ:=λ_=>True) ?_ λx J=>?_
 ·refine Tot.count (λaf=>af) m.ar.ba.length (λaf=>1<=af) (by decide) (by show (m.ar.ba.length:Int) - 3<_; omega) λaf aa=>?_
  refine Tot.cb (λal=>?_) (λ_=>.aB trivial)
  have e:aO (af+1)=af+1:=by rw [dQ]; omega
  rw [e]
  refine .aK (Ξ:=λ_=>True) (Tot.hp (by omega) al λ_ _ _=>trivial) λc _=>Tot.cz (λ_=>.aB trivial) (λ_=>.aB ?_)
  show (1:Int)<=af+1/\af<af+1/\af+1<=m.ar.ba.length; omega
 ·rcases x with _ | r <;> exact .aB trivial
structure Grow (m m':jo) (k:Nat):Prop where
 iB:m'.b0.length=m'.ar.ba.length
 lo:m.ar.ba.length<=m'.ar.ba.length
 hi:m'.ar.ba.length<=m.ar.ba.length+k
 ty:m'.bX.length<=m.bX.length+k
 hZ:m'.bG=m.bG
 hz:m'.ar.bc=m.ar.bc
 hL:m'.bB=m.bB
 lvl:m'.bW=m.bW
 j1:0<=m.bW->(∀ t∈m.ar.ba,0<=t.Level)->∀ t∈m'.ar.ba,0<=t.Level
theorem tu.grow {m m':jo}(h:tu m m') (a':m.b0.length=m.ar.ba.length) (k:Nat):Grow m m' k:=by
 obtain ⟨h1,al,aP,b3,dF,e0⟩:=h
 exact ⟨by rw [h1,al]; exact a',by rw [h1]; omega,by rw [h1]; omega,by rw [aP]; omega,b3,by rw [h1],e0,dF,by rw [h1]; exact λ_ h=>h⟩
theorem t113 (m:jo) (x:Sym) (a':m.b0.length=m.ar.ba.length) (h:m.ar.ba.length<=100000000000) (J:lF x) :
  Tot (x9 m x) λr=>Grow m r.2 1/\0<=r.1/\r.1<r.2.ar.ba.length:=by
 unfold x9
 refine .aK (t95 m x (by simp only [eZ]; omega)) λt aE=>Tot.cb (λbd=>.aB ⟨⟨a',Nat.le_refl _,Nat.le_succ _,Nat.le_succ _,rfl,rfl,rfl,rfl,λ_ h=>h⟩,bd,?_⟩) (λ_=>?_)
 ·rcases aE with rfl | aE
  ·exact absurd bd (by decide)
  ·exact aE.2
 ·refine Tot.aK (Ξ:=λaf=>tu m af.1) ?_ λaf aa=>?_
  ·refine Tot.cz (λao=>?_) (λ_=>.aB ⟨rfl,rfl,rfl,rfl,rfl,rfl⟩)
   have:=J ao
   refine .aK (Ξ:=λ_=>True) (Tot.ny (by omega) trivial) λb _=>.aK (t114 m _ (by simp only [eZ]; omega)) λo _=>?_
   refine Tot.aK (Ξ:=λaf=>tu m af) ?_ λaf aa=>.aB aa
   exact Tot.cz (λ_=>.aK (t94 m _ _) λm' hm=>.aB hm.1) (λ_=>.aB ⟨rfl,rfl,rfl,rfl,rfl,rfl⟩)
  ·obtain ⟨h1,al,aP,b3,dF,e0⟩:=aa
   have bg:af.1.ar.ba.length=m.ar.ba.length:=by rw [h1]
   have K1:af.1.b0.length=m.b0.length:=by rw [al]
   refine .aK (Ξ:=λ_=>True) (Tot.ap (by rw [bg]; simp [lim]; omega) trivial) λ_ _=>.aK (Ξ:=λ_=>True) (Tot.ap (by rw [K1]; simp [lim]; omega) trivial) λ_ _=>.aB ?_
   refine ⟨⟨?_,?_,?_,?_,b3,by show af.1.ar.bc=_; rw [h1],e0,dF,?_⟩,?_,?_⟩
   ·show (af.1.b0++[x.Lit]).length=(af.1.ar.ba++[_]).length
    simp [bg,K1,a']
   ·show _<=(af.1.ar.ba++[_]).length
    simp [bg]
   ·show (af.1.ar.ba++[_]).length<=_
    simp [bg]
   ·show af.1.bX.length<=_
    rw [aP]; omega
   ·intro _ ao t aE
    rcases List.mem_append.1 aE with aE | aE
    ·rw [h1] at aE; exact ao t aE
    ·rw [List.mem_singleton.1 aE]; exact Int.le_refl 0
   ·show 0<=aO (((af.1.ar.ba++[_]).length:Int) - 1)
    rw [dQ]; simp [bg]; omega
   ·show aO (((af.1.ar.ba++[_]).length:Int) - 1)<((af.1.ar.ba++[_]).length:Int)
    rw [dQ]; simp [bg]; omega
structure nw (m m':jo):Prop where
 tk:m'.ar.ba.length=m.ar.ba.length
 iB:m'.b0.length=m.b0.length
 ty:m'.bX=m.bX
 hZ:m'.bG=m.bG
 hz:m'.ar.bc=m.ar.bc
 hL:m'.bB=m.bB
 lvl:m'.bW=m.bW
 j1:0<=m.bW->(∀ t∈m.ar.ba,0<=t.Level)->∀ t∈m'.ar.ba,0<=t.Level
theorem nw.refl (m:jo):nw m m:=⟨rfl,rfl,rfl,rfl,rfl,rfl,rfl,λ_ h=>h⟩
theorem nw.trans {m m' AD:jo}(h:nw m m') (aS:nw m' AD):nw m AD:=⟨aS.tk.trans h.tk,aS.iB.trans h.iB,aS.ty.trans h.ty,aS.hZ.trans h.hZ,aS.hz.trans h.hz,aS.hL.trans h.hL,aS.lvl.trans h.lvl,λbd ao=>aS.j1 (by rw [h.lvl]; exact bd) (h.j1 bd ao)⟩
theorem tu.tk {m m':jo}(h:tu m m'):nw m m':=⟨by rw [h.g],by rw [h.iB],h.ty,h.hZ,by rw [h.g],h.hL,h.j1,by rw [h.g]; exact λ_ h=>h⟩
theorem Grow.tk {m m' AD:jo}{k:Nat}(h:Grow m m' k) (aS:nw m' AD):Grow m AD k :=
 ⟨by rw [aS.iB,aS.tk]; exact h.iB,by rw [aS.tk]; exact h.lo,by rw [aS.tk]; exact h.hi,by rw [aS.ty]; exact h.ty,aS.hZ.trans h.hZ,aS.hz.trans h.hz,aS.hL.trans h.hL,aS.lvl.trans h.lvl,λbd ao=>aS.j1 (by rw [h.lvl]; exact bd) (h.j1 bd ao)⟩
theorem vQ {α:Type}{l:List α}{i:Nat}{x y:α}(h:y∈l.set i x):y∈l\/y=x:=List.mem_or_eq_of_mem_set h
theorem t93 (m:jo) (d:Decl) (x:Sym) (a':m.b0.length=m.ar.ba.length) (h:m.ar.ba.length<=100000000000) (aE:m.bX.length<=100000000000) (J:lF x) :
  Tot (Bm m d x) λm'=>Grow m m' 1:=by
 unfold Bm
 refine Tot.cz (λ_=>?_) (λ_=>?_)
 ·refine .aK (t98 m x.Name (by simp only [eZ]; omega)) λk hk=>Tot.aK (Ξ:=λm'=>Grow m m' 1) ?_ λm' hm=>.aB hm
  refine Tot.cb (λ_=>?_) (λbd=>?_)
  ·refine .aK (Ξ:=λ_=>True) (Tot.ap (by simp [lim]; omega) trivial) λ_ _=>.aB ⟨a',Nat.le_refl _,Nat.le_succ _,?_,rfl,rfl,rfl,rfl,λ_ h=>h⟩
   show (m.bX++[_]).length<=_
   simp
  ·refine .aK (Ξ:=λ_=>True) (Tot.hp (by omega) (by omega) λ_ _ _=>trivial) λ_ _=>Tot.aK (Ξ:=λm'=>Grow m m' 1) ?_ λm' hm=>.aB hm
   exact Tot.cz (λ_=>.aK (t94 m _ _) λm' hm=>.aB (hm.1.grow a' 1)) (λ_=>.aB ⟨a',Nat.le_refl _,Nat.le_succ _,Nat.le_succ _,rfl,rfl,rfl,rfl,λ_ h=>h⟩)
 ·refine .aK (t113 m x a' h J) λr ⟨ay,bd,h1⟩=>?_
  have hp:∀ {m':jo},nw r.2 m'->Tot (idx m'.ar.ba r.1) λy=>y∈m'.ar.ba:=λhm=>Tot.hp bd (by rw [hm.tk]; exact h1) λ_ _ h=>h
  have LH:∀ {m':jo},nw r.2 m'->Tot (idx m'.b0 r.1) λ_=>True:=λhm=>Tot.hp bd (by rw [hm.iB,ay.iB]; exact h1) λ_ _ _=>trivial
  refine .aK (hp (.refl _)) λy _=>?_
  refine Tot.aK (Ξ:=λm'=>nw r.2 m') ?_ λfj xu=>?_
  ·refine Tot.cz (λ_=>?_) (λ_=>.aB (.refl _))
   refine Tot.aK (Ξ:=λm'=>nw r.2 m') ?_ λdv tI=>?_
   ·exact Tot.cz (λ_=>.aK (t94 r.2 _ _) λm' hm=>.aB ⟨rfl,hm.1.tk.iB,hm.1.tk.ty,hm.1.tk.hZ,hm.1.tk.hz,hm.1.tk.hL,hm.1.tk.lvl,λ_ h=>h⟩) (λ_=>.aB (.refl _))
   ·refine .aK (hp tI) λ_ _=>.aB (tI.trans ⟨?_,rfl,rfl,rfl,rfl,rfl,rfl,λao aE t b6=>?_⟩)
    ·show ((dv.ar.ba.set _ _).set _ _).length=_
     simp
    ·rcases vQ b6 with b6 | rfl
     ·rcases vQ b6 with b6 | rfl
      ·exact aE t b6
      ·exact ao
     ·exact ao
  ·refine .aK (hp xu) λ_ _=>?_
   refine Tot.aK (Ξ:=λm'=>nw r.2 m') ?_ λfX CK=>?_
   ·refine Tot.cz (λ_=>?_) (λ_=>.aB xu)
    refine .aK (Ξ:=λ_=>True) ?_ λc _=>?_
    ·refine Tot.cz (λ_=>.aB trivial) (λ_=>.aK (LH xu) λ_ _=>Tot.cz (λ_=>.aB trivial) (λ_=>.aK (t114 fj _ ?_) λ_ _=>.aB trivial))
     have:=xu.tk; have:=ay.hi; simp only [eZ]; omega
    ·refine Tot.aK (Ξ:=λm'=>nw r.2 m') ?_ λeu xv=>?_
     ·exact Tot.cz (λ_=>.aK (t94 fj _ _) λm' hm=>.aB (xu.trans ⟨rfl,hm.1.tk.iB,hm.1.tk.ty,hm.1.tk.hZ,hm.1.tk.hz,hm.1.tk.hL,hm.1.tk.lvl,λ_ h=>h⟩)) (λ_=>.aB xu)
     ·refine .aK (hp xv) λy az=>.aK (LH xv) λ_ _=>.aB (xv.trans ⟨?_,?_,rfl,rfl,rfl,rfl,rfl,λao aE t b6=>?_⟩)
      ·show (eu.ar.ba.set _ _).length=_; simp
      ·show (eu.b0.set _ _).length=_; simp
      ·rcases vQ b6 with b6 | rfl
       ·exact aE t b6
       ·exact (aE y az:0<=y.Level)
   ·refine .aK (hp CK) λ_ _=>?_
    refine Tot.aK (Ξ:=λm'=>nw r.2 m') ?_ λoO E_=>.aB (ay.tk E_)
    refine Tot.cz (λ_=>?_) (λ_=>.aB CK)
    refine .aK (Ξ:=λ_=>True) (Tot.cz (λ_=>.aB trivial) (λ_=>.aB trivial)) λc _=>?_
    refine Tot.aK (Ξ:=λm'=>nw r.2 m') ?_ λgF Ki=>?_
    ·exact Tot.cz (λ_=>.aK (t94 fX _ _) λm' hm=>.aB (CK.trans ⟨rfl,hm.1.tk.iB,hm.1.tk.ty,hm.1.tk.hZ,hm.1.tk.hz,hm.1.tk.hL,hm.1.tk.lvl,λ_ h=>h⟩)) (λ_=>.aB CK)
    ·refine .aK (hp Ki) λy az=>.aB (Ki.trans ⟨?_,rfl,rfl,rfl,rfl,rfl,rfl,λao aE t b6=>?_⟩)
     ·show (gF.ar.ba.set _ _).length=_; simp
     ·rcases vQ b6 with b6 | rfl
      ·exact aE t b6
      ·exact (aE y az:0<=y.Level)
def pQ (T:Nat) (N:Int) (s:Int):Prop:=(0<=s/\s<T)\/(1000<=s/\s<=1000+N)
theorem pQ.mono {T T':Nat}{N jf s:Int}(h:pQ T N s) (fP:T<=T') (bY:N<=jf):pQ T' jf s:=by
 rcases h with h | h
 ·exact .inl (by omega)
 ·exact .inr (by omega)
theorem t115 (m:jo) (x:Sym) (a':m.b0.length=m.ar.ba.length) (aP:3<=m.ar.ba.length) (h:m.ar.ba.length<=100000000000) (ao:m.bG.length<=100000000000) (J:lF x) :
  Tot (uv m x) λr=>Grow m r.2 1/\pQ r.2.ar.ba.length m.bG.length r.1:=by
 unfold uv
 have qX:Grow m m 1:=⟨a',Nat.le_refl _,Nat.le_succ _,Nat.le_succ _,rfl,rfl,rfl,rfl,λ_ h=>h⟩
 refine Tot.cz (λ_=>?_) (λ_=>?_)
 ·exact .aK (t113 m x a' h J) λr ⟨ay,bd,h1⟩=>.aB ⟨ay,.inl ⟨bd,h1⟩⟩
 ·refine .aK (t96 m x.Name (by simp only [eZ]; omega)) λk hk=>Tot.cb (λbd=>.aB ⟨qX,.inr ?_⟩) (λ_=>?_)
  ·show 1000<=aO (1001+k)/\aO (1001+k)<=1000+(m.bG.length:Int)
   rw [dQ]
   rcases hk with hk | hk <;> omega
  ·refine .aK (t95 m x (by simp only [eZ]; omega)) λt aE=>Tot.cb (λ_=>?_) (λbd=>.aB ⟨qX,.inl ?_⟩)
   ·refine .aK (t94 m _ _) λm' hm=>.aB ⟨hm.1.grow a' 1,.inl ⟨Int.le_refl 0,?_⟩⟩
    show (0:Int)<(m'.ar.ba.length:Int)
    rw [hm.1.g]; omega
   ·show 0<=t/\t<(m.ar.ba.length:Int)
    rcases aE with aE | aE <;> omega
theorem US (m:jo) (x:Sym) (a':m.b0.length=m.ar.ba.length) (aP:3<=m.ar.ba.length) (h:m.ar.ba.length<=100000000000) (ao:m.bG.length<=100000000000) (J:lF x) (aE:x.Lit=true\/∀ y∈m.bG,y≠x.Name) :
  Tot (uv m x) λr=>Grow m r.2 1/\0<=r.1/\r.1<r.2.ar.ba.length:=by
 unfold uv
 have qX:Grow m m 1:=⟨a',Nat.le_refl _,Nat.le_succ _,Nat.le_succ _,rfl,rfl,rfl,rfl,λ_ h=>h⟩
 refine Tot.cz (λ_=>?_) (λR5=>?_)
 ·exact .aK (t113 m x a' h J) λr ⟨ay,bd,h1⟩=>.aB ⟨ay,bd,h1⟩
 ·have aE:∀ y∈m.bG,y≠x.Name:=aE.resolve_left (by rw [R5]; decide)
  refine .aK (t96 m x.Name (by simp only [eZ]; omega)) λk hk=>Tot.cb (λbd=>?_) (λ_=>?_)
  ·rcases hk with ⟨rfl,_⟩ | ⟨h1,al,aP⟩
   ·exact absurd bd (by decide)
   ·exact absurd rfl (aE _ (List.mem_of_getElem? aP))
  ·refine .aK (t95 m x (by simp only [eZ]; omega)) λt aE=>Tot.cb (λ_=>?_) (λbd=>.aB ⟨qX,?_⟩)
   ·refine .aK (t94 m _ _) λm' hm=>.aB ⟨hm.1.grow a' 1,Int.le_refl 0,?_⟩
    show (0:Int)<(m'.ar.ba.length:Int)
    rw [hm.1.g]; omega
   ·show 0<=t/\t<(m.ar.ba.length:Int)
    rcases aE with aE | aE <;> omega
structure yR (T:Nat) (N:Int) (p:Prod):Prop where
 left:0<=p.Left/\p.Left<=N
 right:∀ s∈p.fz,pQ T N s
 prec:-1<=p.Prec/\p.Prec<T
theorem yR.mono {T T':Nat}{N jf:Int}{p:Prod}(h:yR T N p) (fP:T<=T') (bY:N<=jf):yR T' jf p :=
 ⟨⟨h.left.1,by have:=h.left.2; omega⟩,λs aM=>(h.right s aM).mono fP bY,⟨h.prec.1,by have:=h.prec.2; omega⟩⟩
structure kW (m:jo) (T L I Q:Nat):Prop where
 iB:m.b0.length=m.ar.ba.length
 lo:3<=m.ar.ba.length
 hi:m.ar.ba.length<=T
 ty:m.bX.length<=T
 hZ:m.bG.length=L
 hL:0<=m.bB/\m.bB<=I
 ym:m.ar.bc.length<=Q
 hz:∀ p∈m.ar.bc,yR m.ar.ba.length (L+m.bB) p
 lvl:0<=m.bW
 j1:∀ t∈m.ar.ba,0<=t.Level
theorem kW.mono {m:jo}{T L I Q T' I' Iw:Nat}(h:kW m T L I Q) (fP:T<=T') (bt:I<=I') (ef:Q<=Iw):kW m T' L I' Iw :=
 ⟨h.iB,h.lo,by have:=h.hi; omega,by have:=h.ty; omega,h.hZ,⟨h.hL.1,by have:=h.hL.2; omega⟩,by have:=h.ym; omega,h.hz,h.lvl,h.j1⟩
theorem kW.grow {m m':jo}{T L I Q k:Nat}(h:kW m T L I Q) (g:Grow m m' k):kW m' (T+k) L I Q :=
 ⟨g.iB,by have:=h.lo; have:=g.lo; omega,by have:=h.hi; have:=g.hi; omega,by have:=h.ty; have:=g.ty; omega,by rw [g.hZ]; exact h.hZ,by rw [g.hL]; exact h.hL,by rw [g.hz]; exact h.ym,
  by rw [g.hz,g.hL]; exact λp aH=>(h.hz p aH).mono g.lo (by omega),by rw [g.lvl]; exact h.lvl,g.j1 h.lvl h.j1⟩
theorem t97 (m:jo) (left:ByteArray) (a:Alt) {T L I Q:Nat}(hm:kW m T L I Q) (fP:T<=10000000000) (lv:L<=10000000000) (bt:I<=10000000000) (ef:Q<=10000000000) (aJ:wL a) (fo:BO a) :
  Tot (Bn m left a) λm'=>kW m' (T+1001) L (I+1000) (Q+1001)/\1<=m'.ar.bc.length:=by
 unfold Bn
 have aL:=aJ.n
 refine .aK (t96 m left (by rw [hm.hZ]; simp only [eZ]; omega)) λaD fF=>?_
 have WD:-1<=aD/\aD<L:=by rw [<- hm.hZ]; rcases fF with h | h <;> omega
 refine Tot.aK (Ξ:=λa8=>kW a8.1 (T+1000) L (I+1000) (Q+1000)/\(∀ s∈a8.2.1,pQ a8.1.ar.ba.length (L+a8.1.bB) s)/\a8.2.1.length<=1000) ?_ λa8 hJ=>?_
 ·refine Tot.count (λs=>s.2.2.2.2) a.h9.length (λs=>0<=s.2.2.2.2/\s.2.2.2.2<=a.h9.length/\kW s.1 (T+s.2.2.2.2.toNat) L (I+s.2.2.2.2.toNat) (Q+s.2.2.2.2.toNat)/\(∀ y∈s.2.1,pQ s.1.ar.ba.length (L+s.1.bB) y)/\s.2.1.length<=s.2.2.2.2.toNat) ⟨by show (0:Int)<=0; omega,by show (0:Int)<=_; omega,hm,by simp,Nat.le_refl 0⟩ (by show (a.h9.length:Int) - 0<_; omega) λs aM=>?_
  obtain ⟨m1,rt,cz,at_,i⟩:=s
  obtain ⟨bd,h1,aa,ay,ao⟩:=aM
  simp only at bd h1 aa ay ao ⊢
  have hw:aO (i+1)=i+1:=by rw [dQ]; omega
  have dy:(i+1).toNat=i.toNat+1:=by omega
  refine Tot.cb (λbg=>?_) (λ_=>.aB ⟨aa.mono (by omega) (by omega) (by omega),ay,by show rt.length<=1000; omega⟩)
  refine Tot.aK (Ξ:=λaf=>kW af.1 (T+(i.toNat+1)) L (I+(i.toNat+1)) (Q+(i.toNat+1))/\(∀ y∈af.2.1,pQ af.1.ar.ba.length (L+af.1.bB) y)/\af.2.1.length<=i.toNat+1) ?_ λaf zW=>?_
  ·refine Tot.aK (Tot.hp (Φ:=λy=>y∈a.h9) bd bg λy _ az=>az) λy az=>?_
   refine Tot.aK (Ξ:=λaf=>kW af.1 (T+(i.toNat+1)) L (I+(i.toNat+1)) (Q+(i.toNat+1))/\(∀ y∈af.2.1,pQ af.1.ar.ba.length (L+af.1.bB) y)/\af.2.1.length<=i.toNat+1) ?_ λaf FT=>.aB FT
   refine Tot.aK (Ξ:=λaf=>kW af.1 (T+(i.toNat+1)) L (I+(i.toNat+1)) (Q+(i.toNat+1))/\(∀ y∈af.2.1,pQ af.1.ar.ba.length (L+af.1.bB) y)/\af.2.1.length<=i.toNat+1) ?_ λaf FT=>.aB FT
   refine Tot.cz (λ_=>?_) (λ_=>?_)
   ·have b6:=aa.hi
    refine .aK (t115 m1 y.Sym aa.iB aa.lo (by omega) (by rw [aa.hZ]; omega) (fo.parts y az)) λr ⟨a',Lh⟩=>?_
    refine .aK (Ξ:=λ_=>True) (Tot.ap (by simp [lim]; omega) trivial) λ_ _=>.aB ⟨(aa.grow a').mono (by omega) (by omega) (by omega),λz bJ=>?_,by simp; omega⟩
    rcases List.mem_append.1 bJ with bJ | bJ
    ·exact (ay z bJ).mono a'.lo (by show (L:Int)+m1.bB<=L+r.2.bB; rw [a'.hL]; omega)
    ·rw [List.mem_singleton.1 bJ]
     rw [aa.hZ] at Lh
     exact Lh.mono (Nat.le_refl _) (by show (L:Int)<=L+r.2.bB; rw [a'.hL]; have:=aa.hL.1; omega)
   ·refine Tot.aK (Ξ:=λaf=>kW (⟨(⟨m1.ar.ba,m1.ar.bw,af.1,m1.ar.bx,m1.ar.bA⟩:b'),m1.b0,m1.bX,m1.bG,m1.cf,m1.cg,m1.cd,m1.bW,af.2.1⟩:cT) (T+(i.toNat+1)) L (I+(i.toNat+1)) (Q+(i.toNat+1))/\(∀ y∈af.2.2.1,pQ m1.ar.ba.length (L+af.2.1) y)/\af.2.2.1.length<=i.toNat+1) ?_ λaf RV=>.aB RV
    refine Tot.cz (λ_=>.aB ⟨⟨aa.iB,aa.lo,by have:=aa.hi; show m1.ar.ba.length<=_; omega,by have:=aa.ty; show m1.bX.length<=_; omega,aa.hZ,⟨aa.hL.1,by have:=aa.hL.2; show m1.bB<=_; omega⟩,by have:=aa.ym; show m1.ar.bc.length<=_; omega,aa.hz,aa.lvl,aa.j1⟩,ay,by show rt.length<=_; omega⟩) (λ_=>?_)
    have xB:=aa.hL
    have xE:=aa.hZ
    have z':=aa.ym
    have jC:aO (m1.bB+1)=m1.bB+1:=by rw [dQ]; omega
    have iv:aO (((m1.bG.length:Int))+(m1.bB+1))=L+(m1.bB+1):=by rw [dQ,xE]; omega
    have Vf:aO (1000+(m1.bG.length:Int))=1000+L:=by rw [dQ,xE]; omega
    have Vg:aO (1000+(L:Int)+(m1.bB+1))=1000+(L:Int)+(m1.bB+1):=by rw [dQ]; omega
    rw [jC,iv,Vf,Vg]
    refine .aK (Ξ:=λ_=>True) (Tot.ap (by simp [lim]; omega) trivial) λ_ _=>.aK (Ξ:=λ_=>True) (Tot.ap (by simp [lim]; omega) trivial) λ_ _=>.aK (Ξ:=λ_=>True) (Tot.ap (by simp [lim]; omega) trivial) λ_ _=>.aB ⟨⟨aa.iB,aa.lo,?_,?_,aa.hZ,?_,?_,?_,aa.lvl,aa.j1⟩,?_,?_⟩
    ·have:=aa.hi; show m1.ar.ba.length<=_; omega
    ·have:=aa.ty; show m1.bX.length<=_; omega
    ·show 0<=m1.bB+1/\m1.bB+1<=((I+(i.toNat+1):Nat):Int); omega
    ·show (m1.ar.bc++[_]).length<=_; simp; omega
    ·intro p aH
     rcases List.mem_append.1 aH with aH | aH
     ·exact (aa.hz p aH).mono (Nat.le_refl _) (by show (L:Int)+m1.bB<=L+(m1.bB+1); omega)
     ·rw [List.mem_singleton.1 aH]
      refine ⟨?_,by simp,?_⟩
      ·show 0<=(L:Int)+(m1.bB+1)/\(L:Int)+(m1.bB+1)<=L+(m1.bB+1); omega
      ·have:=aa.lo; show (-1:Int)<=-1/\(-1:Int)<(m1.ar.ba.length:Int); omega
    ·intro z bJ
     rcases List.mem_append.1 bJ with bJ | bJ
     ·exact (ay z bJ).mono (Nat.le_refl _) (by show (L:Int)+m1.bB<=L+(m1.bB+1); omega)
     ·rw [List.mem_singleton.1 bJ]
      exact .inr (by show 1000<=1000+(L:Int)+(m1.bB+1)/\1000+(L:Int)+(m1.bB+1)<=1000+((L:Int)+(m1.bB+1)); omega)
    ·show (rt++[_]).length<=_; simp; omega
  ·rw [hw]
   refine .aB ⟨⟨?_,?_,?_,zW.2.1,?_⟩,?_,?_⟩
   ·show (0:Int)<=i+1; omega
   ·show i+1<=(a.h9.length:Int); omega
   ·show kW af.1 (T+(i+1).toNat) L (I+(i+1).toNat) (Q+(i+1).toNat)
    rw [dy]; exact zW.1
   ·show af.2.1.length<=(i+1).toNat
    rw [dy]; exact zW.2.2
   ·show i<i+1; omega
   ·show i+1<=(a.h9.length:Int); omega
 ·obtain ⟨aa,ay,ao⟩:=hJ
  have mx:=aa.lo
  have xB:=aa.hL
  refine Tot.aK (Ξ:=λp=>-1<=p/\p<(a8.1.ar.ba.length:Int)) ?_ λhz Gd=>?_
  ·refine Tot.count (λs=>s.2) a8.2.1.length (λs=>0<=s.2/\s.2<=a8.2.1.length/\-1<=s.1/\s.1<(a8.1.ar.ba.length:Int)) ⟨by show (0:Int)<=0; omega,by show (0:Int)<=_; omega,by show (-1:Int)<=-1; omega,by show (-1:Int)<_; omega⟩ (by show (a8.2.1.length:Int) - 0<_; omega) λs aM=>?_
   obtain ⟨bd,h1,al,aP⟩:=aM
   have hw:aO (s.2+1)=s.2+1:=by rw [dQ]; omega
   rw [hw]
   refine Tot.cb (λbg=>?_) (λ_=>.aB ⟨al,aP⟩)
   refine Tot.aK (Ξ:=λp=>-1<=p/\p<(a8.1.ar.ba.length:Int)) ?_ λp aH=>.aB ⟨⟨?_,?_,aH.1,aH.2⟩,?_,?_⟩
   ·refine .aK (Tot.hp (Φ:=λy=>idx a8.2.1 s.2=some y/\y∈a8.2.1) bd bg λy h1 al=>⟨h1,al⟩) λy az=>?_
    refine .aK (Ξ:=λp=>-1<=p/\p<(a8.1.ar.ba.length:Int)) ?_ λp aH=>.aB aH
    refine Tot.cb (λbg=>?_) (λ_=>.aB ⟨al,aP⟩)
    rw [az.1]
    refine Tot.au (.aB ?_)
    rcases ay y az.2 with h | h
    ·omega
    ·omega
   ·show (0:Int)<=s.2+1; omega
   ·show s.2+1<=(a8.2.1.length:Int); omega
   ·show s.2<s.2+1; omega
   ·show s.2+1<=(a8.2.1.length:Int); omega
  ·refine Tot.aK (Ξ:=λaf=>Grow a8.1 af.1 1/\-1<=af.2/\af.2<(af.1.ar.ba.length:Int)) ?_ λaf CU=>?_
   ·have qX:Grow a8.1 a8.1 1:=⟨aa.iB,Nat.le_refl _,Nat.le_succ _,Nat.le_succ _,rfl,rfl,rfl,rfl,λ_ h=>h⟩
    refine Tot.cz (λ_=>?_) (λ_=>.aB ⟨qX,Gd⟩)
    refine Tot.aK (Ξ:=λc=>c=true->a.Prec.Lit=true\/∀ y∈a8.1.bG,y≠a.Prec.Name) ?_ λc ab=>?_
    ·refine Tot.cz (λh=>.aB λ_=>.inl h) (λ_=>?_)
     refine .aK (t96 a8.1 a.Prec.Name (by rw [aa.hZ]; simp only [eZ]; omega)) λk hk=>.aB λbg=>?_
     have bg:=of_decide_eq_true bg
     rcases hk with ⟨_,h⟩ | h
     ·exact .inr h
     ·omega
    ·refine Tot.aK (Ξ:=λaf=>Grow a8.1 af.1 1/\-1<=af.2/\af.2<(af.1.ar.ba.length:Int)) ?_ λaf aa=>.aB aa
     have b6:=aa.hi
     refine Tot.cz (λh=>?_) (λ_=>?_)
     ·refine .aK (US a8.1 a.Prec aa.iB aa.lo (by omega) (by rw [aa.hZ]; omega) fo.prec (ab h)) λr ay=>.aB ⟨ay.1,?_,ay.2.2⟩
      have:=ay.2.1; show -1<=r.1; omega
     ·refine .aK (t94 a8.1 _ _) λm' kr=>.aB ⟨kr.1.grow aa.iB 1,by show (-1:Int)<=-1; omega,?_⟩
      show (-1:Int)<(m'.ar.ba.length:Int); omega
   ·have kr:=aa.grow CU.1
    have z':=kr.ym
    refine .aK (Ξ:=λ_=>True) (Tot.ap (by simp [lim]; omega) trivial) λ_ _=>.aK (Ξ:=λ_=>True) (Tot.ap (by simp [lim]; omega) trivial) λ_ _=>.aB ⟨⟨kr.iB,kr.lo,?_,?_,kr.hZ,⟨kr.hL.1,?_⟩,?_,?_,kr.lvl,kr.j1⟩,by simp⟩
    ·have:=kr.hi; show af.1.ar.ba.length<=_; omega
    ·have:=kr.ty; show af.1.bX.length<=_; omega
    ·have:=kr.hL.2; show af.1.bB<=_; omega
    ·show (af.1.ar.bc++[_]).length<=_; simp; omega
    ·intro p aH
     rcases List.mem_append.1 aH with aH | aH
     ·exact kr.hz p aH
     ·rw [List.mem_singleton.1 aH]
      have Wk:=kr.hL
      refine ⟨?_,λz bJ=>?_,CU.2⟩
      ·show 0<=aO (1+aD)/\aO (1+aD)<=(L:Int)+af.1.bB
       rw [dQ]; omega
      ·exact (ay z bJ).mono CU.1.lo (by show (L:Int)+a8.1.bB<=L+af.1.bB; rw [CU.1.hL]; omega)
theorem HN (l:List Int):(strOfNums l).size=l.length:=strOfNums_size ..
theorem t99 (n:Int) (bd:0<=n) (h1:n<=1000000000000):Tot (Bo n) λs=>s.size<=2000000000000:=by
 unfold Bo
 have hu:IntKind.u64.wrap n=n:=by rw [IntKind.wrap_u64]; omega
 refine Tot.aK (Ξ:=λaf=>af=n) (Tot.cb (λh=>absurd h (by omega)) (λ_=>.aB hu)) λaf aa=>?_
 subst aa
 refine Tot.aK (Ξ:=λs=>s.size<=1000000000001) ?_ λs aM=>Tot.cb (λh=>absurd h (by omega)) (λ_=>.aB (by omega))
 refine Tot.loop (λs=>0<=s.1/\s.1+s.2.size<=1000000000000+1/\(s.2.size=0->s.1<=1000000000000)) (λs=>s.1.toNat+(if s.2.size=0 then 1 else 0)) ⟨bd,by show af+((0:Nat):Int)<=_; omega,λ_=>h1⟩ (by show af.toNat+(if (0:Nat)=0 then 1 else 0)<1000000000000000000; simp; omega) λs aM=>?_
 obtain ⟨m,t⟩:=s
 obtain ⟨g0,g1,g2⟩:=aM
 simp only at g0 g1 g2 ⊢
 refine Tot.aK (Ξ:=λc=>c=true->0<m\/t.size=0) ?_ λc ab=>Tot.cz (λja=>?_) (λ_=>.aB ?_)
 ·refine Tot.cb (λh=>.aB λ_=>.inl h) (λ_=>.aB λh=>.inr ?_)
  have:=of_decide_eq_true h
  rw [this]; rfl
 ·have ab:=ab ja
  refine .aK (Ξ:=λx=>x=m.tmod 10) (Tot.s' (by decide) rfl) λx J=>?_
  refine .aK (Ξ:=λy=>y.size=t.size+1) (Tot.cat ?_ ?_) λy az=>.aK (Ξ:=λz=>z=m / 10) (Tot.s7 (by decide) ?_) λz bJ=>.aB ?_
  ·rw [HN]; simp; omega
  ·rw [ByteArray.size_append,HN]; simp; omega
  ·rw [Int.tdiv_eq_ediv_of_nonneg g0,IntKind.wrap_u64]; omega
  ·subst bJ
   refine ⟨⟨?_,?_,?_⟩,?_⟩
   ·show 0<=m / 10; omega
   ·show m / 10+(y.size:Int)<=_; rw [az]; omega
   ·intro h; have h:y.size=0:=h; omega
   ·show (m / 10).toNat+(if y.size=0 then 1 else 0)<m.toNat+(if t.size=0 then 1 else 0)
    rw [if_neg (by omega)]
    split <;> omega
 ·show t.size<=1000000000001; omega
structure hg (g:b'):Prop where
 lC:3<=g.ba.length/\g.ba.length<=40
 h6:1<=g.bw.length/\g.bw.length<=24
 lR:1<=g.bc.length/\g.bc.length<=60
 hz:∀ p∈g.bc,yR g.ba.length (g.bw.length - 1) p
 aN:∀ p∈g.bc,p.fz.length<=8
 j1:∀ t∈g.ba,0<=t.Level
structure iV (m:jo) (T L:Nat):Prop where
 iB:m.b0.length=m.ar.ba.length
 lo:3<=m.ar.ba.length
 hi:m.ar.ba.length<=3+T
 ty:m.bX.length<=T
 hZ:m.bG.length<=L
 hz:m.ar.bc=[]
 hL:m.bB=0
 lvl:0<=m.bW
 j1:∀ t∈m.ar.ba,0<=t.Level
theorem iV.mono {m:jo}{T L T' h8:Nat}(h:iV m T L) (fP:T<=T') (lv:L<=h8):iV m T' h8 :=
 ⟨h.iB,h.lo,by have:=h.hi; omega,by have:=h.ty; omega,by have:=h.hZ; omega,h.hz,h.hL,h.lvl,h.j1⟩
theorem iV.grow {m m':jo}{T L k:Nat}(h:iV m T L) (g:Grow m m' k):iV m' (T+k) L :=
 ⟨g.iB,by have:=h.lo; have:=g.lo; omega,by have:=h.hi; have:=g.hi; omega,by have:=h.ty; have:=g.ty; omega,by rw [g.hZ]; exact h.hZ,g.hz.trans h.hz,g.hL.trans h.hL,by rw [g.lvl]; exact h.lvl,g.j1 h.lvl h.j1⟩
theorem iV.same {m m':jo}{T L:Nat}(h:iV m T L) (g:tu m m'):iV m' T L:=by
 have:=h.grow (g.grow h.iB 0)
 exact this
theorem PB (s:ByteArray) (m n:Int) (h:0<=m/\m<=n/\n<=s.size):(rL s m n).size<=(n - m).toNat:=by
 unfold rL
 simp [ByteArray.size_extract]
 omega
theorem t42 (s:ByteArray) (n:Int) (bd:0<=n):Tot (rZ s n) λt=>(t.size:Int)<=n:=by
 unfold rZ
 refine Tot.cb (λh=>?_) (λh=>.aB (by omega))
 refine .aK (Ξ:=λt=>(t.size:Int)<=n) (Tot.cut (by omega) ?_) λt aE=>.aB aE
 have:=PB s 0 n (by omega)
 omega
theorem t43 (x:Sym):Tot (wb x) λy=>y.Name.size<=eZ:=by
 unfold wb
 refine .aK (t42 _ 25 (by decide)) λt aE=>.aB ?_
 show t.size<=1000000000000; omega
theorem Tot.make {β:Type}{f:List β × Int->Option ((List β × Int) ⊕ List β)}(n:Int) (P:β->Prop) (aL:0<=n/\n<=1000000)
  (aM:∀ (l:List β) (i:Int),0<=i->i<=n->(l.length:Int)=i->(∀ y∈l,P y)->Tot (f (l,i)) (iU (λeR=>i<n/\eR.2=i+1/\∃ y,eR.1=l++[y]/\P y) (λr=>r=l))) :
  Tot (cS f ([],0)) λl=>(l.length:Int)<=n/\∀ y∈l,P y:=by
 refine Tot.count (λs=>s.2) n (λs=>0<=s.2/\s.2<=n/\(s.1.length:Int)=s.2/\∀ y∈s.1,P y) ⟨Int.le_refl 0,aL.1,rfl,by simp⟩ (by show n - 0<_; omega) λs bt=>?_
 obtain ⟨l,i⟩:=s
 obtain ⟨bd,h1,al,aP⟩:=bt
 refine (aM l i bd h1 al aP).use λx J=>?_
 rcases x with eR | r
 ·obtain ⟨aw,a2,y,a3,a4⟩:=J
  refine ⟨⟨by rw [a2]; omega,by rw [a2]; omega,by rw [a2,a3]; simp at al ⊢; omega,λz bJ=>?_⟩,by show i<eR.2; rw [a2]; omega,by rw [a2]; omega⟩
  rw [a3] at bJ
  rcases List.mem_append.1 bJ with bJ | bJ
  ·exact aP z bJ
  ·rw [List.mem_singleton.1 bJ]; exact a4
 ·have:r=l:=J
  subst this
  exact ⟨by simp at al; omega,aP⟩
theorem t19 (s:Source):Tot (AW s) si:=by
 unfold AW
 refine .aK (t42 s.bx 40 (by decide)) λaD h1=>.aK (t42 s.bA 40 (by decide)) λx2 al=>?_
 refine .aK (Tot.make 8 D9 (by decide) λl i bd xB ao du=>?_) λb4 b3=>?_
 ·refine .aK (Ξ:=λc=>c=true->i<s.Decls.length/\i<8) (Tot.cb (λh=>.aB λal=>⟨h,of_decide_eq_true al⟩) (λ_=>.aB λh=>by cases h)) λc ab=>Tot.cz (λja=>?_) (λ_=>.aB rfl)
  obtain ⟨hi,FQ⟩:=ab ja
  have l4:i.toNat<s.Decls.length:=by omega
  have zV:idx s.Decls i=some s.Decls[i.toNat]:=by simp [idx,bd,l4]
  rw [zV]
  generalize s.Decls[i.toNat]=d
  have hw:aO (i+1)=i+1:=by rw [dQ]; omega
  refine Tot.au (Tot.au (.aK (t42 d.Tag 25 (by decide)) λbD xt=>Tot.au ?_))
  refine .aK (Tot.make 6 (λx=>x.Name.size<=eZ) (by decide) λvN k g0 Qb Qc Qa=>?_) λdU tI=>?_
  ·refine .aK (Ξ:=λc=>c=true->k<d.eV.length/\k<6) (Tot.au (Tot.cb (λh=>.aB λal=>⟨h,of_decide_eq_true al⟩) (λ_=>.aB λh=>by cases h))) λc ab=>Tot.cz (λja=>?_) (λ_=>.aB rfl)
   obtain ⟨hk,FW⟩:=ab ja
   refine Tot.au (.aK (Tot.hp (Φ:=λ_=>True) g0 hk λ_ _ _=>trivial) λdk _=>.aK (t43 dk) λfx Qi=>.aK (Ξ:=λ_=>True) (Tot.ap (by simp [lim]; omega) trivial) λ_ _=>.aB ⟨FW,?_,_,rfl,Qi⟩)
   show aO (k+1)=k+1; rw [dQ]; omega
  ·refine .aK (Ξ:=λ_=>True) (Tot.ap (by simp [lim]; omega) trivial) λ_ _=>.aB ⟨FQ,hw,_,rfl,⟨?_,?_,tI.2⟩⟩
   ·show bD.size<=1000000000000; omega
   ·have:=tI.1; show dU.length<=1000; omega
 ·refine .aK (Tot.make 6 Ix (by decide) λl i bd xB ao du=>?_) λgh xv=>.aB ⟨?_,?_,b3.2,?_,xv.2⟩
  ·refine .aK (Ξ:=λc=>c=true->i<s.dD.length/\i<6) (Tot.cb (λh=>.aB λal=>⟨h,of_decide_eq_true al⟩) (λ_=>.aB λh=>by cases h)) λc ab=>Tot.cz (λja=>?_) (λ_=>.aB rfl)
   obtain ⟨hi,FQ⟩:=ab ja
   have l4:i.toNat<s.dD.length:=by omega
   have zV:idx s.dD i=some s.dD[i.toNat]:=by simp [idx,bd,l4]
   rw [zV]
   generalize s.dD[i.toNat]=d
   have hw:aO (i+1)=i+1:=by rw [dQ]; omega
   refine Tot.au (.aK (t42 d.Left 25 (by decide)) λcZ E_=>Tot.au ?_)
   refine .aK (Tot.make 5 wL (by decide) λvN k g0 Qb Qc Qa=>?_) λfT Kh=>?_
   ·refine .aK (Ξ:=λc=>c=true->k<d.eT.length/\k<5) (Tot.au (Tot.cb (λh=>.aB λal=>⟨h,of_decide_eq_true al⟩) (λ_=>.aB λh=>by cases h))) λc ab=>Tot.cz (λja=>?_) (λ_=>.aB rfl)
    obtain ⟨hk,FW⟩:=ab ja
    have R2:k.toNat<d.eT.length:=by omega
    have R0:idx d.eT k=some d.eT[k.toNat]:=by simp [idx,g0,R2]
    simp only [Option.bind_some,R0]
    generalize d.eT[k.toNat]=a
    have sX:aO (k+1)=k+1:=by rw [dQ]; omega
    refine .aK (t43 a.Prec) λfH Qm=>?_
    refine .aK (Tot.make 6 (λp=>p.Sym.Name.size<=eZ/\p.Code.size<=eZ) (by decide) λDj af kG VO el VN=>?_) λmQ Kj=>?_
    ·refine .aK (Ξ:=λc=>c=true->af<a.h9.length/\af<6) (Tot.cb (λh=>.aB λal=>⟨h,of_decide_eq_true al⟩) (λ_=>.aB λh=>by cases h)) λc ab=>Tot.cz (λja=>?_) (λ_=>.aB rfl)
     obtain ⟨aa,zW⟩:=ab ja
     refine .aK (Tot.hp (Φ:=λ_=>True) kG aa λ_ _ _=>trivial) λh0 _=>.aK (t43 h0.Sym) λnu Qs=>.aK (t42 h0.Code 60 (by decide)) λkR Km=>.aK (Ξ:=λ_=>True) (Tot.ap (by simp [lim]; omega) trivial) λ_ _=>.aB ⟨zW,?_,_,rfl,Qs,?_⟩
     ·show aO (af+1)=af+1; rw [dQ]; omega
     ·show kR.size<=1000000000000; omega
    ·refine .aK (Ξ:=λ_=>True) (Tot.ap (by simp [lim]; omega) trivial) λ_ _=>.aB ⟨FW,sX,_,rfl,⟨?_,Kj.2,Qm⟩⟩
     have:=Kj.1; show mQ.length<=1000; omega
   ·refine .aK (Ξ:=λ_=>True) (Tot.ap (by simp [lim]; omega) trivial) λ_ _=>.aB ⟨FQ,hw,_,rfl,⟨?_,?_,Kh.2⟩⟩
    ·show cZ.size<=1000000000000; omega
    ·have:=Kh.1; show fT.length<=1000; omega
  ·show aD.size<=1000000000000; omega
  ·have:=b3.1; show b4.length<=1000; omega
  ·have:=xv.1; show gh.length<=1000; omega
theorem t14 (a n:Int) (h:0<n) (aL:n<=9223372036854775807):Tot (uw a n) λr=>0<=r/\r<n:=by
 unfold uw
 have h1:-n<a.tmod n:=by
  by_cases bm:0<=a
  ·have:=Int.tmod_nonneg n bm; omega
  ·have al:(-a).tmod n<n:=Int.tmod_lt_of_pos _ h
   rw [Int.neg_tmod] at al
   omega
 have al:a.tmod n<n:=Int.tmod_lt_of_pos a h
 refine .aK (Ξ:=λx=>x=a.tmod n) (Tot.rem (by omega) rfl) λx J=>?_
 subst J
 refine Tot.aK (Ξ:=λr=>0<=r/\r<n) (Tot.cb (λaP=>.aB ?_) (λaP=>.aB (by omega))) λr ay=>.aB ay
 rw [dQ]; omega
theorem t47 (k:Int) (h:0<=k):Tot (ux k) λx=>x.Name.size=1/\x.Lit=true/\x.cJ=0:=by
 unfold ux
 refine .aK (Ξ:=λx=>x.size=4) (.aB rfl) λaD h1=>.aK (Ξ:=λr=>r=k.tmod 4) (Tot.rem (by decide) rfl) λx2 al=>.aK (Ξ:=λr=>r=k.tmod 4) (Tot.rem (by decide) rfl) λa8 aP=>?_
 subst al aP
 have e:k.tmod 4=k % 4:=Int.tmod_eq_emod_of_nonneg h
 rw [e]
 have hw:aO (k % 4+1)=k % 4+1:=by rw [dQ]; omega
 rw [hw]
 refine .aK (Ξ:=λx=>x.size=1) (Tot.cut (by rw [h1]; omega) ?_) λb4 b3=>.aB ⟨b3,rfl,rfl⟩
 have:=PC (s:=aD) (m:=k % 4) (n:=k % 4+1) (by rw [h1]; omega)
 omega
theorem t45 (k:Int):Tot (ye k) λx=>x.size=1:=by
 unfold ye
 exact .aB (by rw [HN]; rfl)
theorem t46 (k n:Int) (h:0<n) (aL:n<=100):Tot (A3 k n) λx=>x.Name.size<=5:=by
 unfold A3
 refine .aK (t14 k 14 (by decide) (by decide)) λaD h1=>Tot.cb (λdF=>?_) (λdF=>Tot.cz (λ_=>.aB ?_) (λ_=>?_))
 ·refine .aK (Ξ:=λ_=>True) (Tot.rem (by omega) trivial) λa8 _=>.aK (t45 a8) λb4 b3=>.aB ?_
  show b4.size<=5; omega
 ·show (5:Nat)<=5; omega
 ·refine .aK (t47 _ ?_) λx J=>.aB (by omega)
  rw [dQ]; omega
structure wQ (n:Nat) (d:Decl):Prop where
 tag:d.Tag.size=0
 n:d.eV.length<=n
 syms:∀ x∈d.eV,x.Name.size<=eZ
theorem t44 (l:List Int):Tot (A2 l) λr=>r.length<=4/\∀ d∈r,wQ 10 d:=by
 unfold A2
 refine Tot.aK (Ξ:=λr=>r.length<=4/\∀ d∈r,wQ 10 d) ?_ λr ay=>.aB ay
 refine Tot.count (λs=>s.2) 4 (λs=>0<=s.2/\s.2<=4/\s.1.length<=s.2.toNat/\∀ d∈s.1,wQ (1+s.2.toNat) d) ⟨Int.le_refl 0,by decide,Nat.le_refl 0,λd aY=>absurd aY (by simp)⟩ (by decide) λs aM=>?_
 obtain ⟨r,i⟩:=s
 obtain ⟨bd,b3,ao,aY⟩:=aM
 simp only at bd b3 ao aY ⊢
 have hw:aO (i+1)=i+1:=by rw [dQ]; omega
 rw [hw]
 refine .aK (Ξ:=λc=>c=true->i<l.length/\i<4) (Tot.cb (λh=>.aB λal=>⟨h,of_decide_eq_true al⟩) (λ_=>.aB λh=>by cases h)) λc ab=>Tot.cz (λja=>?_) (λ_=>.aB ⟨by omega,λd lM=>⟨(aY d lM).tag,by have:=(aY d lM).n; omega,(aY d lM).syms⟩⟩)
 obtain ⟨hi,Wi⟩:=ab ja
 refine Tot.aK (Ξ:=λaf=>af.length<=i.toNat+1/\∀ d∈af,wQ (1+(i.toNat+1)) d) ?_ λaf aa=>.aB ⟨⟨?_,?_,?_,?_⟩,?_,?_⟩
 ·refine .aK (Tot.hp (Φ:=λ_=>True) bd hi λ_ _ _=>trivial) λb1 _=>.aK (t14 b1 8 (by decide) (by decide)) λcv tJ=>.aK (Ξ:=λ_=>True) (Tot.rem (by decide) trivial) λbM _=>?_
  have nZ:∀ d∈r,wQ (1+(i.toNat+1)) d:=λd lM=>⟨(aY d lM).tag,by have:=(aY d lM).n; omega,(aY d lM).syms⟩
  refine Tot.cz (λ_=>.aB ⟨by omega,nZ⟩) (λ_=>?_)
  refine .aK (Ξ:=λc=>c=true->0<(r.length:Int)) (Tot.cz (λ_=>.aB λh=>of_decide_eq_true h) (λ_=>.aB λh=>by cases h)) λc ab=>Tot.cz (λsO=>?_) (λ_=>?_)
  ·have ub:=ab sO
   have SH:aO ((r.length:Int) - 1)=(r.length:Int) - 1:=by rw [dQ]; omega
   rw [SH]
   refine .aK (Tot.hp (Φ:=λy=>y∈r) (by omega) (by omega) λ_ _ h=>h) λd lM=>.aK (t47 i bd) λx J=>.aK (Ξ:=λ_=>True) (Tot.ap (by have:=(aY d lM).n; simp [lim]; omega) trivial) λ_ _=>.aB ⟨by simp; omega,λCu FH=>?_⟩
   rcases vQ FH with h | rfl
   ·exact nZ Cu h
   ·refine ⟨(aY d lM).tag,?_,λy az=>?_⟩
    ·have:=(aY d lM).n; show (d.eV++[x]).length<=_; simp; omega
    ·rcases List.mem_append.1 az with az | az
     ·exact (aY d lM).syms y az
     ·rw [List.mem_singleton.1 az,J.1]; decide
  ·refine .aK (Ξ:=λ_=>True) (Tot.rem (by decide) trivial) λdS _=>.aK (t47 i bd) λx J=>.aK (Ξ:=λ_=>True) (Tot.ap (by simp [lim]; omega) trivial) λ_ _=>.aB ⟨by simp; omega,λCu FH=>?_⟩
   rcases List.mem_append.1 FH with h | h
   ·exact nZ Cu h
   ·rw [List.mem_singleton.1 h]
    refine ⟨rfl,by show 1<=_; omega,λy az=>?_⟩
    have az:y∈[x]:=az
    rw [List.mem_singleton.1 az,J.1]; decide
 ·show 0<=i+1; omega
 ·show i+1<=4; omega
 ·show af.length<=(i+1).toNat; omega
 ·intro d lM
  have e:(i+1).toNat=i.toNat+1:=by omega
  show wQ (1+(i+1).toNat) d
  rw [e]; exact aa.2 d lM
 ·show i<i+1; omega
 ·show i+1<=4; omega
structure ll (n:Nat) (r:fi):Prop where
 left:r.Left.size<=eZ
 n:r.eT.length<=n
 alts:∀ a∈r.eT,wL a
theorem ll.mono {n m:Nat}{r:fi}(h:ll n r) (hm:n<=m):ll m r:=⟨h.left,Nat.le_trans h.n hm,h.alts⟩
theorem ll.add {n:Nat}{r:fi}{a:Alt}(h:ll n r) (bm:wL a):ll (n+1) (⟨r.Left,r.eT++[a],r.At⟩:fi):=by
 refine ⟨h.left,by have:=h.n; show (r.eT++[a]).length<=_; simp; omega,λb aJ=>?_⟩
 rcases List.mem_append.1 aJ with aJ | aJ
 ·exact h.alts b aJ
 ·rw [List.mem_singleton.1 aJ]; exact bm
theorem IJ {l:List fi}{i n:Nat}{r:fi}(h:∀ x∈l,ll n x) (ay:ll n r):∀ x∈l.set i r,ll n x:=λx J=>by
 rcases vQ J with aS | rfl
 ·exact h x aS
 ·exact ay
theorem t20 (x:rv):Tot (AX x) si:=by
 unfold AX
 refine .aK (t14 x.bw 4 (by decide) (by decide)) λaD h1=>.aK (t44 x.ot) λx2 al=>?_
 have SF:aO (1+aD)=1+aD:=by rw [dQ]; omega
 rw [SF]
 refine .aK (Ξ:=λl=>l=List.replicate (1+aD).toNat false) (Tot.mk (by simp [lim]; omega) rfl) λa8 aP=>?_
 have VR:a8.length=(1+aD).toNat:=by rw [aP]; simp
 refine Tot.aK (Ξ:=λl=>(l.length:Int)=1+aD/\∀ r∈l,ll 0 r) ?_ λcn dF=>?_
 ·refine Tot.count (λs=>s.2) (1+aD) (λs=>0<=s.2/\s.2<=1+aD/\(s.1.length:Int)=s.2/\∀ r∈s.1,ll 0 r) ⟨Int.le_refl 0,by show 0<=1+aD; omega,rfl,λd aY=>absurd aY (by simp)⟩ (by show 1+aD - 0<_; omega) λs aM=>?_
  obtain ⟨l,i⟩:=s
  obtain ⟨g0,g1,ao,du⟩:=aM
  simp only at g0 g1 ao du ⊢
  have hw:aO (i+1)=i+1:=by rw [dQ]; omega
  rw [hw]
  refine Tot.cb (λbg=>?_) (λ_=>.aB ⟨by omega,du⟩)
  refine .aK (t45 i) λb1 qQ=>.aK (Ξ:=λ_=>True) (Tot.ap (by simp [lim]; omega) trivial) λ_ _=>.aB ⟨⟨?_,?_,?_,λr ay=>?_⟩,?_,?_⟩
  ·show 0<=i+1; omega
  ·show i+1<=1+aD; omega
  ·show ((l++[_]).length:Int)=i+1
   simp; omega
  ·rcases List.mem_append.1 ay with ay | ay
   ·exact du r ay
   ·rw [List.mem_singleton.1 ay]
    exact ⟨by show b1.size<=_; rw [qQ]; decide,Nat.le_refl 0,λa bm=>absurd bm (by simp)⟩
  ·show i<i+1; omega
  ·show i+1<=1+aD; omega
 refine Tot.aK (Ξ:=λr=>(r.1.length:Int)=1+aD/\(r.2.length:Int)=1+aD/\∀ y∈r.1,ll 9 y) ?_ λbD xt=>?_
 ·refine Tot.count (λs=>s.2.2) 9 (λs=>0<=s.2.2/\s.2.2<=9/\(s.1.length:Int)=1+aD/\(s.2.1.length:Int)=1+aD/\∀ y∈s.1,ll s.2.2.toNat y) ⟨Int.le_refl 0,by show (0:Int)<=9; decide,dF.1,by show (a8.length:Int)=_; omega,dF.2⟩ (by show (9:Int) - 0<_; decide) λs aM=>?_
  obtain ⟨l,aJ,i⟩:=s
  obtain ⟨g0,g1,ao,FP,du⟩:=aM
  simp only at g0 g1 ao FP du ⊢
  have hw:aO (i+1)=i+1:=by rw [dQ]; omega
  rw [hw]
  refine .aK (Ξ:=λc=>c=true->i<x.dD.length/\i<9) (Tot.cb (λh=>.aB λal=>⟨h,of_decide_eq_true al⟩) (λ_=>.aB λh=>by cases h)) λc ab=>Tot.cz (λja=>?_) (λ_=>.aB ⟨ao,FP,λy az=>(du y az).mono (by omega)⟩)
  obtain ⟨hi,Wj⟩:=ab ja
  have l4:i.toNat<x.dD.length:=by omega
  have zV:idx x.dD i=some x.dD[i.toNat]:=by simp [idx,g0,l4]
  rw [zV]
  generalize x.dD[i.toNat]=d
  have Kx:∀ y∈l,ll (i.toNat+1) y:=λy az=>(du y az).mono (by omega)
  refine Tot.aK (Ξ:=λaf=>(af.1.length:Int)=1+aD/\(af.2.length:Int)=1+aD/\∀ y∈af.1,ll (i.toNat+1) y) ?_ λaf aa=>.aB ⟨⟨?_,?_,aa.1,aa.2.1,?_⟩,?_,?_⟩
  ·refine Tot.au (Tot.cb (λ_=>.aB ⟨ao,FP,Kx⟩) (λeK=>Tot.au ?_))
   refine .aK (Tot.hp (Φ:=λ_=>True) (by decide) (by omega) λ_ _ _=>trivial) λdj _=>.aK (t14 dj (1+aD) (by omega) (by omega)) λdk Kf=>?_
   have ny:∀ c:ByteArray,c.size<=eZ->((⟨(⟨{ data:=#[] },false,0,0⟩:Sym),c,0⟩:Part).Sym.Name.size<=eZ/\(⟨(⟨{ data:=#[] },false,0,0⟩:Sym),c,0⟩:Part).Code.size<=eZ):=λc ab=>⟨by show 0<=_; exact Nat.zero_le _,ab⟩
   refine Tot.aK (Ξ:=λr=>r.1.length<=10/\∀ p∈r.1,p.Sym.Name.size<=eZ/\p.Code.size<=eZ) ?_ λe2 Kg=>?_
   ·refine Tot.count (λs=>s.2.2) 5 (λs=>1<=s.2.2/\s.2.2<=5/\(s.1.length:Int)<=2 * (s.2.2 - 1)/\∀ p∈s.1,p.Sym.Name.size<=eZ/\p.Code.size<=eZ) ⟨Int.le_refl 1,by decide,by decide,λp aH=>absurd aH (by simp)⟩ (by decide) λs aM=>?_
    obtain ⟨ps,pl,k⟩:=s
    obtain ⟨k0,uo,Tt,G8⟩:=aM
    simp only at k0 uo Tt G8 ⊢
    have sX:aO (k+1)=k+1:=by rw [dQ]; omega
    rw [sX]
    refine .aK (Ξ:=λc=>c=true->k<d.length/\k<5) (Tot.au (Tot.cb (λh=>.aB λal=>⟨h,of_decide_eq_true al⟩) (λ_=>.aB λh=>by cases h))) λc ab=>Tot.cz (λja=>?_) (λ_=>.aB ⟨by show ps.length<=10; omega,G8⟩)
    obtain ⟨hk,Wm⟩:=ab ja
    refine Tot.aK (Ξ:=λaf=>(af.1.length:Int)<=2 * k/\∀ p∈af.1,p.Sym.Name.size<=eZ/\p.Code.size<=eZ) ?_ λaf aa=>.aB ⟨⟨?_,?_,?_,aa.2⟩,?_,?_⟩
    ·refine Tot.au (.aK (Tot.hp (Φ:=λ_=>True) (by omega) hk λ_ _ _=>trivial) λhs _=>.aK (t46 hs (1+aD) (by omega) (by omega)) λcZ E_=>?_)
     refine .aK (Ξ:=λ_=>True) (Tot.cz (λ_=>Tot.cz (λ_=>.aB trivial) (λ_=>.aB trivial)) (λ_=>.aB trivial)) λ_ _=>.aK (Ξ:=λ_=>True) (Tot.ap (by simp [lim]; omega) trivial) λ_ _=>?_
     have bN:∀ p∈ps++[(⟨cZ,{ data:=#[] },0⟩:Part)],p.Sym.Name.size<=eZ/\p.Code.size<=eZ:=λp aH=>by
      rcases List.mem_append.1 aH with aH | aH
      ·exact G8 p aH
      ·rw [List.mem_singleton.1 aH]
       exact ⟨by show cZ.Name.size<=1000000000000; omega,Nat.zero_le _⟩
     refine .aK (Ξ:=λ_=>True) ?_ λCi _=>?_
     ·refine Tot.cb (λh=>Tot.cz (λ_=>.aK (Tot.hp (Φ:=λ_=>True) g0 h λ_ _ _=>trivial) λ_ _=>.aK (Ξ:=λ_=>True) (Tot.rem (by decide) trivial) λ_ _=>.aB trivial) (λ_=>.aB trivial)) (λ_=>.aB trivial)
     ·refine Tot.aK (Ξ:=λl=>(l.length:Int)<=2 * k/\∀ p∈l,p.Sym.Name.size<=eZ/\p.Code.size<=eZ) ?_ λaf aa=>.aB aa
      refine Tot.cz (λ_=>?_) (λ_=>.aB ⟨by simp; omega,bN⟩)
      refine .aK (Ξ:=λ_=>True) (Tot.ap (by simp [lim]; omega) trivial) λ_ _=>.aB ⟨by simp; omega,λp aH=>?_⟩
      rcases List.mem_append.1 aH with aH | aH
      ·exact bN p aH
      ·rw [List.mem_singleton.1 aH]; exact ny _ (by decide)
    ·show 1<=k+1; omega
    ·show k+1<=5; omega
    ·show (af.1.length:Int)<=2 * (k+1 - 1); omega
    ·show k<k+1; omega
    ·show k+1<=5; omega
   ·refine .aK (Ξ:=λ_=>True) (Tot.cb (λh=>.aK (Tot.hp (Φ:=λ_=>True) g0 h λ_ _ _=>trivial) λ_ _=>.aK (Ξ:=λ_=>True) (Tot.rem (by decide) trivial) λ_ _=>.aB trivial) (λ_=>.aB trivial)) λVE _=>?_
    refine Tot.aK (Ξ:=λl=>l.length<=20/\∀ p∈l,p.Sym.Name.size<=eZ/\p.Code.size<=eZ) ?_ λmH Qo=>?_
    ·refine Tot.cz (λ_=>?_) (λ_=>.aB ⟨by omega,Kg.2⟩)
     refine .aK (Ξ:=λ_=>True) (Tot.ap (by simp [lim]; omega) trivial) λ_ _=>.aB ⟨by simp; omega,λp aH=>?_⟩
     rcases List.mem_append.1 aH with aH | aH
     ·exact Kg.2 p aH
     ·rw [List.mem_singleton.1 aH]; exact ny _ (by decide)
    ·refine Tot.aK (Ξ:=λl=>(l.length:Int)=1+aD) ?_ λJd Qq=>?_
     ·refine .aK (Tot.hp (Φ:=λ_=>True) Kf.1 (by omega) λ_ _ _=>trivial) λ_ _=>Tot.cz (λ_=>.aB (by simp; omega)) (λ_=>.aB (by simp; omega))
     ·refine .aK (Tot.hp (Φ:=λy=>y∈l) Kf.1 (by omega) λ_ _ h=>h) λkv Qr=>?_
      have oN:=du kv Qr
      refine .aK (Ξ:=λ_=>True) (Tot.ap (by have:=oN.n; simp [lim]; omega) trivial) λ_ _=>.aB ⟨by show ((l.set _ _).length:Int)=_; simp; omega,Qq,IJ Kx (oN.add ⟨by show mH.length<=_; omega,Qo.2,Nat.zero_le _⟩)⟩
  ·show 0<=i+1; omega
  ·show i+1<=9; omega
  ·intro y az
   have e:(i+1).toNat=i.toNat+1:=by omega
   show ll (i+1).toNat y
   rw [e]; exact aa.2.2 y az
  ·show i<i+1; omega
  ·show i+1<=9; omega
 refine Tot.aK (Ξ:=λl=>(l.length:Int)=1+aD/\∀ y∈l,ll 20 y) ?_ λkR Km=>.aB ⟨Nat.zero_le _,?_,λd aY=>?_,?_,λr ay=>?_⟩
 ·refine Tot.count (λs=>s.2) (1+aD) (λs=>0<=s.2/\s.2<=1+aD/\(s.1.length:Int)=1+aD/\∀ y∈s.1,ll (9+s.2.toNat) y) ⟨Int.le_refl 0,by show 0<=1+aD; omega,xt.1,xt.2.2⟩ (by show 1+aD - 0<_; omega) λs aM=>?_
  obtain ⟨l,i⟩:=s
  obtain ⟨g0,g1,ao,du⟩:=aM
  simp only at g0 g1 ao du ⊢
  have hw:aO (i+1)=i+1:=by rw [dQ]; omega
  rw [hw]
  refine Tot.cb (λbg=>?_) (λ_=>.aB ⟨ao,λy az=>(du y az).mono (by omega)⟩)
  refine Tot.aK (Ξ:=λl=>(l.length:Int)=1+aD/\∀ y∈l,ll (9+i.toNat+1) y) ?_ λaf aa=>.aB ⟨⟨?_,?_,aa.1,?_⟩,?_,?_⟩
  ·refine .aK (Ξ:=λ_=>True) ?_ λVF _=>?_
   ·refine .aK (Tot.hp (Φ:=λ_=>True) g0 (by omega) λ_ _ _=>trivial) λuK _=>Tot.cz (λ_=>.aB trivial) (λ_=>.aK (Tot.hp (Φ:=λ_=>True) g0 (by omega) λ_ _ _=>trivial) λ_ _=>Tot.cz (λ_=>.aB trivial) (λ_=>.aB trivial))
   ·refine Tot.aK (Ξ:=λl=>(l.length:Int)=1+aD/\∀ y∈l,ll (9+i.toNat+1) y) ?_ λaf aa=>.aB aa
    refine Tot.cz (λ_=>?_) (λ_=>.aB ⟨ao,λy az=>(du y az).mono (by omega)⟩)
    refine .aK (Tot.hp (Φ:=λy=>y∈l) g0 (by omega) λ_ _ h=>h) λkx CL=>.aK (t47 i g0) λky VX=>?_
    have J:=du kx CL
    refine .aK (Ξ:=λ_=>True) (Tot.ap (by have:=J.n; simp [lim]; omega) trivial) λ_ _=>.aB ⟨by simp; omega,IJ (λy az=>(du y az).mono (by omega)) (J.add ⟨by show 1<=_; omega,λp aH=>?_,Nat.zero_le _⟩)⟩
    have aH:p∈[(⟨ky,{ data:=#[] },0⟩:Part)]:=aH
    rw [List.mem_singleton.1 aH]
    exact ⟨by show ky.Name.size<=1000000000000; omega,Nat.zero_le _⟩
  ·show 0<=i+1; omega
  ·show i+1<=1+aD; omega
  ·intro y az
   have e:9+(i+1).toNat=9+i.toNat+1:=by omega
   show ll (9+(i+1).toNat) y
   rw [e]; exact aa.2 y az
  ·show i<i+1; omega
  ·show i+1<=1+aD; omega
 ·have:=al.1; show x2.length<=1000; omega
 ·have:=al.2 d aY
  exact ⟨by rw [this.tag]; exact Nat.zero_le _,by have:=this.n; omega,this.syms⟩
 ·show kR.length<=1000; omega
 ·have:=Km.2 r ay
  exact ⟨this.left,by have:=this.n; omega,this.alts⟩
end Go.Proofs
namespace Go.Own
open Go Go.Sort
variable {α:Type} [DecidableEq α]
structure Ord (lt:α->α->Bool):Prop where
 swo:SWO lt
 j6:∀ x y,lt x y=false->lt y x=false->x=y
def gm (lt:α->α->Bool) (l:List α):Prop:=l.Pairwise λa b=>lt a b=true
omit [DecidableEq α] in
theorem gm.nd {lt:α->α->Bool}(h:Ord lt) {l:List α}(ao:gm lt l):l.Nodup:=ao.imp λ{a b} KB e=>by
 subst e
 rw [h.swo.irrefl] at KB; cases KB
omit [DecidableEq α] in
theorem gm.uniq {lt:α->α->Bool}(h:Ord lt) {l m:List α}(ao:gm lt l) (hm:gm lt m) (he:∀ x,x∈l↔x∈m):l=m :=
 List.Perm.eq_of_pairwise (le:=λa b=>lt a b=true) (λa b _ _ h1 al=>by have:=h.swo.trans _ _ _ h1 al; rw [h.swo.irrefl] at this; cases this) ao hm ((List.perm_ext_iff_of_nodup (ao.nd h) (hm.nd h)).2 he)
omit [DecidableEq α] in
theorem xV {l m:List α}(aY:l.Nodup) (hm:∀ x∈l,x∈m):l.length<=m.length:=by
 classical
 induction l generalizing m with
 | nil=>exact Nat.zero_le _
 | cons x l aR =>
  have J:=hm x (by simp)
  have nZ:=List.nodup_cons.1 aY
  have:=aR (m:=m.erase x) nZ.2 λy az=>(List.mem_erase_of_ne (λe=>nZ.1 (by rw [<- e]; exact az))).2 (hm y (by simp [az]))
  have ao:=List.length_erase_of_mem J
  have aH:=List.length_pos_of_mem J
  simp only [List.length_cons]
  omega
end Go.Own
namespace Go.Proofs
open Go Go.Own Go.Sort
set_option maxRecDepth 100000
set_option linter.unusedVariables false
def gZ (a b:Item):Bool:=decide (a.Prod<b.Prod\/(a.Prod=b.Prod/\a.dY<b.dY))
theorem Hb {a b:Item}:gZ a b=true↔(a.Prod<b.Prod\/(a.Prod=b.Prod/\a.dY<b.dY)):=by simp [gZ]
theorem AA {a b:Item}:gZ a b=false↔¬ (a.Prod<b.Prod\/(a.Prod=b.Prod/\a.dY<b.dY)):=by simp [gZ]
theorem uq:Ord gZ where
 swo:=⟨λx=>by rw [AA]; omega,λx y z h1 al=>by rw [Hb] at *; omega,λx y z h1 al=>by rw [AA] at *; omega⟩
 j6 x y h1 al:=by
  rw [AA] at h1 al
  obtain ⟨aD,x2⟩:=x
  obtain ⟨kl,y2⟩:=y
  simp only at h1 al
  have:aD=kl:=by omega
  have:x2=y2:=by omega
  subst_vars; rfl
def jj (g:b') (x:Item):Prop:=∃ q,idx g.bc x.Prod=some q/\0<=x.dY/\x.dY<=q.fz.length
def h7 (g:b') (x:Item):Int:=match idx g.bc x.Prod with
 | some q=>(idx q.fz x.dY).getD (-1)
 | none=>-1
theorem nI {α:Type}{l:List α}{i:Int}{y:α}(h:idx l i=some y):0<=i/\i<l.length/\y∈l:=by
 unfold idx at h
 split at h
 ·rename_i bd
  obtain ⟨h1,al⟩:=List.getElem?_eq_some_iff.1 h
  exact ⟨bd,by omega,List.mem_of_getElem? h⟩
 ·cases h
theorem GM {α:Type}{l:List α}{i:Int}(h:i<0\/(l.length:Int)<=i):idx l i=none:=by
 unfold idx
 split
 ·exact List.getElem?_eq_none (by omega)
 ·rfl
theorem nh {α:Type}{l:List α}{i:Int}(bd:0<=i) (h1:i<l.length):∃ y,idx l i=some y/\y∈l:=by
 have bg:i.toNat<l.length:=by omega
 exact ⟨l[i.toNat],by simp [idx,bd,bg],List.getElem_mem bg⟩
theorem eQ {α:Type}{l:List α}{k:Nat}(h:k<l.length):idx l (k:Int)=some l[k]:=by simp [idx,h]
theorem JK (g:b') (x:Item):∃ c,x5 g x=some c/\(c=true↔jj g x):=by
 unfold x5
 by_cases bd:0<=x.Prod
 ·by_cases h1:x.Prod<g.bc.length
  ·obtain ⟨q,bN,_⟩:=nh bd h1
   by_cases al:0<=x.dY
   ·refine ⟨decide (x.dY<=(q.fz.length:Int)),by simp [bd,h1,al,bN],?_⟩
    rw [decide_eq_true_eq]
    exact ⟨λh=>⟨q,bN,al,h⟩,λ⟨gb,xH,_,h⟩=>by rw [bN] at xH; cases xH; exact h⟩
   ·exact ⟨false,by simp [bd,h1,al],λh=>(by cases h),λ⟨_,_,h,_⟩=>absurd h al⟩
  ·exact ⟨false,by simp [bd,h1],λh=>(by cases h),λ⟨_,h,_⟩=>absurd (nI h).2.1 h1⟩
 ·exact ⟨false,by simp [bd],λh=>(by cases h),λ⟨_,h,_⟩=>absurd (nI h).1 bd⟩
theorem ET (g:b') (x:Item):wg g x=some (h7 g x):=by
 unfold wg h7
 obtain ⟨c,ab,hi⟩:=JK g x
 rw [ab]
 simp only [Option.bind_some]
 cases c with
 | false =>
  have aL:¬ jj g x:=λh=>by have:=hi.2 h; cases this
  simp only [Bool.not_false,cond_true,Option.bind_some]
  cases bN:idx g.bc x.Prod with
  | none=>rfl
  | some q =>
   have:idx q.fz x.dY=none:=GM (by
    by_cases bd:0<=x.dY
    ·right
     by_cases h1:x.dY<=q.fz.length
     ·exact absurd ⟨q,bN,bd,h1⟩ aL
     ·omega
    ·left; omega)
   simp [this]
 | true =>
  obtain ⟨q,bN,bd,h1⟩:=hi.1 rfl
  simp only [Bool.not_true,cond_false,bN,Option.bind_some]
  by_cases he:x.dY=q.fz.length
  ·rw [GM (.inr (by omega))]
   simp [he]
  ·obtain ⟨s,aM,_⟩:=nh (l:=q.fz) (i:=x.dY) bd (by omega)
   simp [he,aM]
theorem LU {g:b'}(a':hg g) {x:Item}(h:0<=h7 g x):jj g x/\pQ g.ba.length (g.bw.length - 1) (h7 g x)/\∃ q,idx g.bc x.Prod=some q/\idx q.fz x.dY=some (h7 g x):=by
 cases bN:idx g.bc x.Prod with
 | none =>
  have:h7 g x=-1:=by unfold h7; rw [bN]
  rw [this] at h; exact absurd h (by decide)
 | some q =>
  cases aM:idx q.fz x.dY with
  | none =>
   have:h7 g x=-1:=by unfold h7; rw [bN]; simp [aM]
   rw [this] at h; exact absurd h (by decide)
  | some s =>
   have e:h7 g x=s:=by unfold h7; rw [bN]; simp [aM]
   rw [e]
   obtain ⟨bd,h1,hm⟩:=nI aM
   exact ⟨⟨q,bN,bd,by omega⟩,(a'.hz q (nI bN).2.2).right s hm,q,rfl,aM⟩
inductive nv (g:b') (l:List Item):Item->Prop
 | base {x:Item}(h:x∈l) (hi:jj g x):nv g l x
 | step {x:Item}{q:Prod}{p:Nat}(h:nv g l x) (aH:g.bc[p]?=some q) (aL:h7 g x=1000+q.Left) (bd:1000<=h7 g x):nv g l ⟨p,0⟩
theorem LF {g:b'}{p:Nat}{q:Prod}(aH:g.bc[p]?=some q):jj g ⟨p,0⟩:=⟨q,by simp [idx,aH],Int.le_refl _,by show (0:Int)<=_; omega⟩
theorem nv.jj {g:b'}{l:List Item}{x:Item}(h:nv g l x):jj g x:=by
 cases h with
 | base _ hi=>exact hi
 | step _ aH _ _=>exact LF aH
theorem TI {g:b'}(a':hg g) (x:Item):-1<=h7 g x/\h7 g x<=1023:=by
 by_cases h:0<=h7 g x
 ·obtain ⟨_,aM,_⟩:=LU a' h
  have:=a'.h6
  have:=a'.lC
  rcases aM with aM | aM <;> omega
 ·refine ⟨?_,by omega⟩
  revert h
  unfold h7
  cases bN:idx g.bc x.Prod with
  | none=>intro _; exact Int.le_refl _
  | some q =>
   cases aM:idx q.fz x.dY with
   | none=>intro _; simp [aM]
   | some s =>
    intro h
    have hm:=(a'.hz q (nI bN).2.2).right s (nI aM).2.2
    simp only [aM,Option.getD_some] at h ⊢
    rcases hm with hm | hm <;> omega
def hV (m:List Bool):Nat:=(m.filter λb=>b).length
theorem u3:∀ (m:List Bool) (i:Nat),i<m.length->m.getD i false=false->hV (m.set i true)=hV m+1
 | [],i,h,_=>by simp at h
 | b::m,0,_,h=>by
  have:b=false:=by simpa using h
  subst this
  simp [hV]
 | b::m,i+1,h,bd=>by
  have:=u3 m i (by simpa using h) (by simpa using bd)
  unfold hV at this ⊢
  simp only [List.set_cons_succ,List.filter_cons]
  cases b <;> simp [this]
theorem ON (m:List Bool):hV m<=m.length:=List.length_filter_le _ _
theorem lB {α:Type}{r:List α}{k:Nat}(h:k<r.length):r.take (k+1)=r.take k++[r[k]]:=by
 rw [List.take_add_one,List.getElem?_eq_getElem h]; rfl
theorem DZ (k:Nat) (h:k<=1000000000000):aO ((k:Int)+1)=((k+1:Nat):Int):=by rw [dQ]; omega
def allI (g:b'):List Item:=(List.range g.bc.length).flatMap λp=>(List.range 9).map λd=>(⟨(p:Nat),(d:Nat)⟩:Item)
theorem NQ (g:b'):(allI g).length=g.bc.length * 9:=by
 have:∀ l:List Nat,(l.map λ_=>9).sum=l.length * 9:=λl=>by
  induction l with
  | nil=>rfl
  | cons a l aR=>simp only [List.map_cons,List.sum_cons,aR,List.length_cons]; omega
 simp [allI,List.length_flatMap,this]
theorem Tx {g:b'}(a':hg g) {x:Item}(h:jj g x):x∈allI g:=by
 obtain ⟨q,bN,bd,h1⟩:=h
 obtain ⟨al,aP,b3⟩:=nI bN
 have:=a'.aN q b3
 refine List.mem_flatMap.2 ⟨x.Prod.toNat,by simp; omega,List.mem_map.2 ⟨x.dY.toNat,by simp; omega,?_⟩⟩
 obtain ⟨a,b⟩:=x
 simp only at bd al ⊢
 congr 1 <;> omega
theorem sl {g:b'}(a':hg g) {l:List Item}(ao:gm gZ l) (hi:∀ x∈l,jj g x):l.length<=540:=by
 have:=xV (ao.nd uq) λx J=>Tx a' (hi x J)
 rw [NQ] at this
 have:=a'.lR
 omega
theorem N6 {l:List Item}(ao:gm gZ l) {i af:Nat}(hi:i<l.length) (aa:af<l.length) (h:i<af):gZ l[i] l[af]=true:=List.pairwise_iff_getElem.1 ao i af hi aa h
theorem Ev (l:List Item) (x:Item) (ao:gm gZ l) (aL:l.length<=100000):Tot (vZ l x) λr=>gm gZ r/\(∀ y,y∈r↔y∈l\/y=x):=by
 unfold vZ
 refine .aK (Ξ:=λz:Int=>∃ k:Nat,z=(k:Int)/\k<=l.length/\(∀ (i:Nat) (h:i<l.length),k<=i->gZ x l[i]=true)/\∀ (h:0<k),gZ x (l[k - 1]?.getD default)=false) ?_ λz bJ=>?_
 ·refine Tot.count (λs=>-s) 1 (λs=>∃ k:Nat,s=(k:Int)/\k<=l.length/\∀ (i:Nat) (h:i<l.length),k<=i->gZ x l[i]=true) ⟨l.length,rfl,Nat.le_refl _,λi h hk=>by omega⟩ (by show 1 - -(l.length:Int)<_; omega) λs aM=>?_
  obtain ⟨k,rfl,hk,q4⟩:=aM
  refine .aK (Ξ:=λc:Bool=>(c=true->0<k/\gZ x (l[k - 1]?.getD default)=true)/\(c=false->∀ (h:0<k),gZ x (l[k - 1]?.getD default)=false)) ?_ λc ab=>Tot.cz (λh=>?_) (λh=>.aB ⟨k,rfl,hk,q4,ab.2 h⟩)
  ·refine Tot.cb (λh=>?_) (λh=>.aB ⟨λaS=>(by cases aS),λ_ aS=>by omega⟩)
   have hx:k - 1<l.length:=by omega
   have hw:aO ((k:Int) - 1)=((k - 1:Nat):Int):=by rw [dQ]; omega
   rw [hw,eQ hx,List.getElem?_eq_getElem hx]
   simp only [Option.bind_some,Option.getD_some]
   generalize l[k - 1]=y
   refine Tot.cb (λh1=>.aB ⟨λ_=>⟨by omega,Hb.2 (.inl h1)⟩,λaS=>(by cases aS)⟩) (λh1=>Tot.cb (λal=>.aB ⟨λaP=>⟨by omega,Hb.2 (.inr ⟨al.symm,of_decide_eq_true aP⟩)⟩,λaP _=>?_⟩) (λal=>.aB ⟨λaS=>(by cases aS),λ_ _=>?_⟩))
   ·have:=of_decide_eq_false aP
    rw [AA]; omega
   ·rw [AA]; omega
  ·obtain ⟨bd,h1⟩:=ab.1 h
   refine .aB ⟨⟨k - 1,by rw [dQ]; omega,by omega,λi hi R1=>?_⟩,by show -(k:Int) < -aO _; rw [dQ]; omega,by show -aO _<=1; rw [dQ]; omega⟩
   by_cases e:i=k - 1
   ·subst e
    rw [List.getElem?_eq_getElem hi] at h1
    exact h1
   ·exact q4 i hi (by omega)
 ·obtain ⟨k,rfl,hk,q4,mx⟩:=bJ
  refine .aK (Ξ:=λc:Bool=>(c=true↔(0<k/\l[k - 1]?.getD default=x))) ?_ λc ab=>Tot.cz (λh=>?_) (λh=>?_)
  ·refine Tot.cb (λh=>?_) (λh=>.aB ⟨λaS=>(by cases aS),λaS=>by omega⟩)
   have hx:k - 1<l.length:=by omega
   have hw:aO ((k:Int) - 1)=((k - 1:Nat):Int):=by rw [dQ]; omega
   rw [hw,eQ hx,List.getElem?_eq_getElem hx]
   simp only [Option.bind_some,Option.getD_some]
   generalize l[k - 1]=y
   refine .aB ?_
   obtain ⟨kl,y2⟩:=y
   obtain ⟨aD,x2⟩:=x
   simp only [Bool.and_true,Bool.and_eq_true,decide_eq_true_eq,Item.mk.injEq]
   exact ⟨λaS=>⟨by omega,aS⟩,λaS=>aS.2⟩
  ·obtain ⟨bd,h1⟩:=ab.1 h
   have hx:k - 1<l.length:=by omega
   rw [List.getElem?_eq_getElem hx] at h1
   have J:x∈l:=by rw [<- h1]; exact List.getElem_mem hx
   exact .aB ⟨ao,λy=>⟨.inl,λh=>h.elim id λe=>e ▸ J⟩⟩
  ·have eK:∀ (i:Nat) (hi:i<l.length),i<k->gZ l[i] x=true:=by
    intro i hi tX
    have hx:k - 1<l.length:=by omega
    have mx:=mx (by omega)
    have aL:l[k - 1]?.getD default≠x:=λe=>by rw [ab.2 ⟨by omega,e⟩] at h; cases h
    rw [List.getElem?_eq_getElem hx] at mx aL
    simp only [Option.getD_some] at mx aL
    have gO:gZ l[k - 1] x=true:=by
     cases b6:gZ l[k - 1] x with
     | true=>rfl
     | false=>exact absurd (uq.j6 _ _ b6 mx) aL
    by_cases e:i=k - 1
    ·subst e; exact gO
    ·exact uq.swo.trans _ _ _ (N6 ao hi hx (by omega)) gO
   refine .aK (Ξ:=λz=>z=l.take k) (Tot.sub ⟨by omega,by omega,by omega⟩ (by simp)) λz bJ=>?_
   subst bJ
   refine .aK (Ξ:=λ_=>True) (Tot.ap (by simp [lim]; omega) trivial) λ_ _=>.aK (Ξ:=λ_=>True) (Tot.ap (by simp [lim]; omega) trivial) λ_ _=>?_
   refine .aK (Ξ:=λz=>z=l.drop k) (Tot.sub ⟨by omega,by omega,by omega⟩ ?_) λz bJ=>?_
   ·rw [List.take_of_length_le]
    ·congr 1
    ·rw [List.length_drop]; omega
   subst bJ
   refine .aK (Ξ:=λ_=>True) (Tot.ap (by simp [lim]; omega) trivial) λ_ _=>.aB ?_
   rw [List.nil_append]
   constructor
   ·have h1:∀ a∈l.take k,gZ a x=true:=by
     intro a bm
     obtain ⟨i,hi,rfl⟩:=List.mem_iff_getElem.1 bm
     rw [List.length_take] at hi
     rw [List.getElem_take]
     exact eK i (by omega) (by omega)
    have al:∀ a∈l.drop k,gZ x a=true:=by
     intro a bm
     obtain ⟨i,hi,rfl⟩:=List.mem_iff_getElem.1 bm
     rw [List.length_drop] at hi
     rw [List.getElem_drop]
     exact q4 (k+i) (by omega) (by omega)
    unfold gm
    rw [List.append_assoc,List.pairwise_append]
    refine ⟨List.Pairwise.sublist (List.take_sublist k l) ao,?_,λa bm b aJ=>?_⟩
    ·rw [List.singleton_append,List.pairwise_cons]
     exact ⟨al,List.Pairwise.sublist (List.drop_sublist k l) ao⟩
    ·rcases List.mem_append.1 aJ with aJ | aJ
     ·rw [List.mem_singleton.1 aJ]; exact h1 a bm
     ·exact uq.swo.trans _ _ _ (h1 a bm) (al b aJ)
   ·intro y
    rw [List.append_assoc,List.mem_append,List.mem_append,List.mem_singleton]
    have hm:y∈l↔y∈l.take k\/y∈l.drop k:=by
     rw [<- List.mem_append,List.take_append_drop]
    rw [hm]
    constructor
    ·rintro (h | h | h)
     ·exact .inl (.inl h)
     ·exact .inr h
     ·exact .inl (.inr h)
    ·rintro ((h | h) | h)
     ·exact .inl h
     ·exact .inr (.inr h)
     ·exact .inr (.inl h)
theorem Oq (g:b') (a':hg g) (l:List Item) (ao:l.length<=1000000):Tot (AM g l) λr=>gm gZ r/\∀ x,x∈r↔x∈l/\jj g x:=by
 unfold AM
 refine .aK (Ξ:=λr=>gm gZ r/\∀ x,x∈r↔x∈l/\jj g x) ?_ λr ay=>.aB ay
 refine Tot.count (λs=>s.2) l.length (λs=>∃ k:Nat,k<=l.length/\s.2=(k:Int)/\gm gZ s.1/\∀ x,x∈s.1↔x∈l.take k/\jj g x) ⟨0,Nat.zero_le _,rfl,List.Pairwise.nil,λx=>by simp⟩ (by show (l.length:Int) - 0<_; omega) λs aM=>?_
 obtain ⟨out,l_⟩:=s
 obtain ⟨k,hk,rfl,bm,hm⟩:=aM
 simp only at bm hm ⊢
 rw [DZ k (by omega)]
 refine Tot.cb (λbg=>?_) (λeN=>.aB ?_)
 ·have bg:k<l.length:=by omega
  rw [eQ bg]
  refine .aK (Ξ:=λo:List Item=>gm gZ o/\∀ x,x∈o↔x∈l.take (k+1)/\jj g x) ?_ λo bh=>.aB ⟨⟨k+1,by omega,rfl,bh⟩,by show (k:Int)<((k+1:Nat):Int); omega,by show ((k+1:Nat):Int)<=_; omega⟩
  obtain ⟨c,ab,hi⟩:=JK g l[k]
  rw [lB bg]
  refine Tot.au ?_
  rw [ab]
  refine Tot.au (.aK (Ξ:=λo:List Item=>gm gZ o/\∀ x,x∈o↔x∈l.take k++[l[k]]/\jj g x) (Tot.cz (λh=>?_) (λh=>.aB ⟨bm,λx=>?_⟩)) λo bh=>.aB bh)
  ·have K_:=sl a' bm λx J=>((hm x).1 J).2
   refine Tot.au (.aK (Ev out _ bm (by omega)) λo bh=>.aB ⟨bh.1,λx=>?_⟩)
   rw [bh.2 x,List.mem_append,List.mem_singleton,hm x]
   constructor
   ·rintro (⟨h1,al⟩ | rfl)
    ·exact ⟨.inl h1,al⟩
    ·exact ⟨.inr rfl,hi.1 h⟩
   ·rintro ⟨h1 | rfl,al⟩
    ·exact .inl ⟨h1,al⟩
    ·exact .inr rfl
  ·rw [List.mem_append,List.mem_singleton,hm x]
   constructor
   ·rintro ⟨h1,al⟩
    exact ⟨.inl h1,al⟩
   ·rintro ⟨h1 | rfl,al⟩
    ·exact ⟨h1,al⟩
    ·rw [hi.2 al] at h; cases h
 ·have:k=l.length:=by omega
  subst this
  rw [List.take_length] at hm
  exact ⟨bm,hm⟩
def uN (g:b') (out:List Item) (x:Item):Prop:=1000<=h7 g x->∀ (p:Nat) (q:Prod),g.bc[p]?=some q->q.Left=h7 g x - 1000->(⟨p,0⟩:Item)∈out
theorem Ez (g:b') (a':hg g) (l:List Item) (ao:l.length<=1000000):Tot (we g l) λr=>gm gZ r/\∀ x,x∈r↔nv g l x:=by
 have z':=a'.lR
 unfold we
 refine .aK (Oq g a' l ao) λaD h1=>.aK (Ξ:=λr=>gm gZ r/\∀ x,x∈r↔nv g l x) ?_ λr ay=>.aB ay
 obtain ⟨Q',F6⟩:=h1
 refine Tot.loop (λs=>gm gZ s.1/\(∀ x∈s.1,nv g l x)/\(∀ x∈l,jj g x->x∈s.1)/\(s.2=(s.1.length:Int)->∀ x∈s.1,uN g s.1 x)) (λs=>2 * (1000 - s.1.length)+(if s.2=(s.1.length:Int) then 0 else 1)) ⟨Q',λx J=>.base ((F6 x).1 J).1 ((F6 x).1 J).2,λx J hi=>(F6 x).2 ⟨J,hi⟩,λh=>by have h:(-1:Int)=_:=h; omega⟩ (by
  show 2 * (1000 - aD.length)+(if (-1:Int)=_ then 0 else 1)<1000000000000000000
  split <;> omega) λs aM=>?_
 obtain ⟨out,n⟩:=s
 obtain ⟨bm,gE,tP,h3⟩:=aM
 simp only at bm gE tP h3 ⊢
 have K_:=sl a' bm λx J=>(gE x J).jj
 refine Tot.rI (λeK=>?_) (λhe=>.aB ⟨bm,λx=>⟨gE x,λJ=>?_⟩⟩)
 ·refine .aK (Ξ:=λaf:List Item × Int=>af.2=(out.length:Int)/\gm gZ af.1/\(∀ x∈af.1,nv g l x)/\(∀ x∈out,x∈af.1)/\(af.1.length=out.length->∀ x∈af.1,uN g af.1 x)) ?_ λaf aa=>?_
  ·refine .aK (Ξ:=λr:List Item=>gm gZ r/\(∀ x∈r,nv g l x)/\(∀ x∈out,x∈r)/\(r.length=out.length->∀ x∈r,uN g r x)) ?_ λr ay=>.aB ⟨rfl,ay⟩
   refine .aK (Ξ:=λr:List Item=>gm gZ r/\(∀ x∈r,nv g l x)/\(∀ x∈out,x∈r)/\(r.length=out.length->∀ x∈r,uN g r x)) ?_ λr ay=>.aB ay
   refine Tot.count (λs=>s.2) out.length (λs=>∃ k:Nat,k<=out.length/\s.2=(k:Int)/\s.1=out/\∀ (af:Nat) (h:af<out.length),af<k->uN g out out[af]) ⟨0,Nat.zero_le _,rfl,rfl,λaf _ aa=>absurd aa (Nat.not_lt_zero _)⟩ (by show (out.length:Int) - 0<_; omega) λs aM=>?_
   obtain ⟨cur,l_⟩:=s
   obtain ⟨k,hk,rfl,rfl,KN⟩:=aM
   simp only
   rw [DZ k (by omega)]
   refine Tot.cb (λbg=>?_) (λeN=>.aB ⟨bm,gE,λ_ h=>h,λ_ x J=>?_⟩)
   ·have bg:k<cur.length:=by omega
    rw [eQ bg]
    have GC:=gE _ (List.getElem_mem bg)
    have An:∀ P:Item->Prop,P cur[k]->∀ (af:Nat) (h:af<cur.length),af=k->P cur[af]:=λP du af h e=>by subst e; exact du
    generalize J:cur[k]=x at *
    have Wu:=TI a' x
    have hw:aO (h7 g x - 1000)=h7 g x - 1000:=by rw [dQ]; omega
    simp only [Option.bind_some,ET g x,hw]
    refine (.aK (Ξ:=λr:List Item=>gm gZ r/\(∀ x∈r,nv g l x)/\(∀ x∈cur,x∈r)/\uN g r x) ?_ λr ay=>?_)
    ·refine Tot.count (λs=>s.2) g.bc.length (λs=>∃ i:Nat,i<=g.bc.length/\s.2=(i:Int)/\gm gZ s.1/\(∀ x∈s.1,nv g l x)/\(∀ x∈cur,x∈s.1)/\∀ (p:Nat) (q:Prod),p<i->g.bc[p]?=some q->q.Left=h7 g x - 1000->(⟨p,0⟩:Item)∈s.1) ⟨0,Nat.zero_le _,rfl,bm,gE,λ_ h=>h,λp q aH=>absurd aH (Nat.not_lt_zero _)⟩ (by show (g.bc.length:Int) - 0<_; omega) λs aM=>?_
     obtain ⟨o,WE⟩:=s
     obtain ⟨i,hi,rfl,q1,z8,CZ,t'⟩:=aM
     simp only at q1 z8 CZ t' ⊢
     rw [DZ i (by omega)]
     refine .aK (Ξ:=λc:Bool=>(c=true->i<g.bc.length/\1000<=h7 g x)/\(c=false->g.bc.length<=i\/h7 g x<1000)) (Tot.cb (λh=>.aB ⟨λaS=>⟨by omega,of_decide_eq_true aS⟩,λaS=>.inr (by have:=of_decide_eq_false aS; omega)⟩) (λh=>.aB ⟨λaS=>(by cases aS),λ_=>.inl (by omega)⟩)) λc ab=>Tot.cz (λh=>?_) (λh=>.aB ⟨q1,z8,CZ,λbd p q aH=>?_⟩)
     ·obtain ⟨F4,bd⟩:=ab.1 h
      have Lb:g.bc[i]?=some g.bc[i]:=List.getElem?_eq_getElem F4
      rw [eQ F4]
      refine .aK (Ξ:=λo:List Item=>gm gZ o/\(∀ x∈o,nv g l x)/\(∀ x∈cur,x∈o)/\∀ (p:Nat) (q:Prod),p<i+1->g.bc[p]?=some q->q.Left=h7 g x - 1000->(⟨p,0⟩:Item)∈o) ?_ λo bh=>.aB ⟨⟨i+1,by omega,rfl,bh⟩,by show (i:Int)<((i+1:Nat):Int); omega,by show ((i+1:Nat):Int)<=_; omega⟩
      refine Tot.au (.aK (Ξ:=λo:List Item=>gm gZ o/\(∀ x∈o,nv g l x)/\(∀ x∈cur,x∈o)/\∀ (p:Nat) (q:Prod),p<i+1->g.bc[p]?=some q->q.Left=h7 g x - 1000->(⟨p,0⟩:Item)∈o) (Tot.cb (λh=>?_) (λh=>.aB ⟨q1,z8,CZ,λp q aH Aa bN=>?_⟩)) λo bh=>.aB bh)
      ·have Wt:=sl a' q1 λx J=>(z8 x J).jj
       refine .aK (Ev o ⟨(i:Nat),0⟩ q1 (by omega)) λr ay=>.aB ⟨ay.1,λy az=>?_,λy az=>(ay.2 y).2 (.inl (CZ y az)),λp q aH Aa bN=>?_⟩
       ·rcases (ay.2 y).1 az with az | rfl
        ·exact z8 y az
        ·exact .step GC Lb (by omega) bd
       ·by_cases dy:p=i
        ·subst dy; exact (ay.2 _).2 (.inr rfl)
        ·exact (ay.2 _).2 (.inl (t' p q (by omega) Aa bN))
      ·by_cases dy:p=i
       ·subst dy
        rw [Lb] at Aa; cases Aa
        exact absurd bN h
       ·exact t' p q (by omega) Aa bN
     ·rcases ab.2 h with h1 | h1
      ·exact t' p q (by have:=(List.getElem?_eq_some_iff.1 aH).1; omega) aH
      ·omega
    ·obtain ⟨xJ,Sh,lN,Sn⟩:=ay
     have hle:cur.length<=r.length:=xV (bm.nd uq) lN
     refine Tot.rI (λF_=>.aB ⟨xJ,Sh,lN,λe=>absurd (by omega) F_⟩) (λheq=>?_)
     have p9:r.length=cur.length:=by omega
     have Sp:r=cur:=by
      have my:∀ y,y∈cur↔y∈r:=by
       intro y
       refine ⟨lN y,λaz=>Classical.byContradiction λaL=>?_⟩
       have:=xV (l:=y::cur) (m:=r) (List.nodup_cons.2 ⟨aL,bm.nd uq⟩) λz bJ=>by
        rcases List.mem_cons.1 bJ with rfl | bJ
        ·exact az
        ·exact lN z bJ
       simp at this
       omega
      exact (gm.uniq uq bm xJ my).symm
     subst Sp
     refine .aB ⟨⟨k+1,by omega,rfl,rfl,λaf aa eP=>?_⟩,by show (k:Int)<((k+1:Nat):Int); omega,by show ((k+1:Nat):Int)<=_; omega⟩
     by_cases dy:af=k
     ·exact An (uN g r) Sn af aa dy
     ·exact KN af aa (by omega)
   ·obtain ⟨af,aa,rfl⟩:=List.mem_iff_getElem.1 J
    exact KN af aa (by omega)
  ·obtain ⟨h1,al,aP,b3,dF⟩:=aa
   have hle:out.length<=af.1.length:=xV (bm.nd uq) b3
   have fr:=sl a' al λx J=>(aP x J).jj
   refine .aB ⟨⟨al,aP,λx J hi=>b3 x (tP x J hi),λe=>dF (by show af.1.length=_; have e:af.2=(af.1.length:Int):=e; omega)⟩,?_⟩
   show 2 * (1000 - af.1.length)+(if af.2=(af.1.length:Int) then 0 else 1)<2 * (1000 - out.length)+(if n=(out.length:Int) then 0 else 1)
   rw [if_neg eK]
   split
   ·omega
   ·have:af.1.length≠out.length:=λe=>by omega
    omega
 ·have ab:=h3 he
  induction J with
  | base h hi=>exact tP _ h hi
  | @step x q p h aH aL bd aR=>exact ab x aR bd p q aH (by omega)
def BZ (g:b') (l:List Item) (a:Int) (y:Item):Prop:=∃ x,nv g l x/\h7 g x=a/\0<=a/\y=⟨x.Prod,x.dY+1⟩
theorem LD {g:b'}(a':hg g) {x:Item}(h:0<=h7 g x):jj g ⟨x.Prod,x.dY+1⟩:=by
 obtain ⟨_,_,q,bN,aM⟩:=LU a' h
 obtain ⟨bd,h1,_⟩:=nI aM
 exact ⟨q,bN,by show 0<=x.dY+1; omega,by show x.dY+1<=_; omega⟩
theorem Tq {g:b'}(a':hg g) {x:Item}(h:jj g x):0<=x.dY/\x.dY<=8:=by
 obtain ⟨q,bN,bd,h1⟩:=h
 have:=a'.aN q (nI bN).2.2
 omega
theorem BZ.jj {g:b'}(a':hg g) {l:List Item}{a:Int}{y:Item}(h:BZ g l a y):jj g y:=by
 obtain ⟨x,_,h1,al,rfl⟩:=h
 exact LD a' (by omega)
theorem OE (g:b') (a':hg g) (l:List Item) (a:Int) (ao:l.length<=1000000):Tot (Bf g l a) λr=>gm gZ r/\∀ y,y∈r↔BZ g l a y:=by
 unfold Bf
 refine .aK (Ez g a' l ao) λc ab=>.aK (Ξ:=λr=>gm gZ r/\∀ y,y∈r↔BZ g l a y) ?_ λr ay=>.aB ay
 have h3:=sl a' ab.1 λx J=>((ab.2 x).1 J).jj
 refine Tot.count (λs=>s.2) c.length (λs=>∃ k:Nat,k<=c.length/\s.2=(k:Int)/\gm gZ s.1/\∀ y,y∈s.1↔∃ x∈c.take k,h7 g x=a/\0<=a/\y=⟨x.Prod,x.dY+1⟩) ⟨0,Nat.zero_le _,rfl,List.Pairwise.nil,λy=>by simp⟩ (by show (c.length:Int) - 0<_; omega) λs aM=>?_
 obtain ⟨o,l_⟩:=s
 obtain ⟨k,hk,rfl,q1,z_⟩:=aM
 simp only at q1 z_ ⊢
 rw [DZ k (by omega)]
 refine Tot.cb (λbg=>?_) (λeN=>.aB ⟨q1,λy=>?_⟩)
 ·have bg:k<c.length:=by omega
  have S9:=((ab.2 _).1 (List.getElem_mem bg)).jj
  have gp:c.take (k+1)=c.take k++[c[k]]:=lB bg
  rw [eQ bg]
  generalize c[k]=x at *
  have aY:=Tq a' S9
  have hw:aO (x.dY+1)=x.dY+1:=by rw [dQ]; omega
  refine .aK (Ξ:=λo:List Item=>gm gZ o/\∀ y,y∈o↔∃ x∈c.take (k+1),h7 g x=a/\0<=a/\y=⟨x.Prod,x.dY+1⟩) ?_ λo bh=>.aB ⟨⟨k+1,by omega,rfl,bh⟩,by show (k:Int)<((k+1:Nat):Int); omega,by show ((k+1:Nat):Int)<=_; omega⟩
  have my:∀ y,(∃ z∈c.take (k+1),h7 g z=a/\0<=a/\y=(⟨z.Prod,z.dY+1⟩:Item))↔(y∈o\/(h7 g x=a/\0<=a/\y=⟨x.Prod,x.dY+1⟩)):=by
   intro y
   rw [z_ y,gp]
   constructor
   ·rintro ⟨z,bJ,h⟩
    rcases List.mem_append.1 bJ with bJ | bJ
    ·exact .inl ⟨z,bJ,h⟩
    ·rw [List.mem_singleton.1 bJ] at h; exact .inr h
   ·rintro (⟨z,bJ,h⟩ | h)
    ·exact ⟨z,by simp [bJ],h⟩
    ·exact ⟨x,by simp,h⟩
  simp only [Option.bind_some,ET g x,hw]
  refine (.aK (Ξ:=λb:Bool=>b=decide (0<=h7 g x/\h7 g x=a)) (Tot.cb (λh=>.aB (by simp [h])) (λh=>.aB (by simp [h]))) λb aJ=>?_)
  subst aJ
  refine .aK (Ξ:=λo:List Item=>gm gZ o/\∀ y,y∈o↔∃ x∈c.take (k+1),h7 g x=a/\0<=a/\y=⟨x.Prod,x.dY+1⟩) (Tot.cb (λh=>?_) (λh=>.aB ⟨q1,λy=>?_⟩)) λo bh=>.aB bh
  ·have K_:=sl a' q1 λy az=>by
    obtain ⟨z,_,h1,al,rfl⟩:=(z_ y).1 az
    exact LD a' (by omega)
   refine (.aK (Ev o _ q1 (by omega)) λr ay=>.aB ⟨ay.1,λy=>?_⟩)
   rw [ay.2 y,my y]
   constructor
   ·rintro (h1 | h1)
    ·exact .inl h1
    ·exact .inr ⟨h.2,by omega,h1⟩
   ·rintro (h1 | h1)
    ·exact .inl h1
    ·exact .inr h1.2.2
  ·rw [my y]
   exact ⟨.inl,λaS=>aS.elim id λaS=>absurd ⟨by omega,aS.1⟩ h⟩
 ·have:k=c.length:=by omega
  subst this
  rw [List.take_length] at z_
  rw [z_ y]
  constructor
  ·rintro ⟨x,J,h⟩
   exact ⟨x,(ab.2 x).1 J,h⟩
  ·rintro ⟨x,J,h⟩
   exact ⟨x,(ab.2 x).2 J,h⟩
end Go.Proofs
