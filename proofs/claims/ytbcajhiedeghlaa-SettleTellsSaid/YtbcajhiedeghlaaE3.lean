/-
  What is proved here: parts of the proof that the last text states: rules for walks through code, and of this program's functions what they answer. No condition of their own.
-/
import Derived.ChangeAt
import Derived.ChangeOld
import Derived.ChangeSame
import Derived.Deep.Draws
import Derived.Deep.LoopGhost
import Derived.Deep.Slices
import Derived.KernelRfl
import Derived.Laws.CopyRow
import Derived.Lib.SliceRun
import Derived.Lib.SlicesCompact
import Derived.Lib.Walk
import Derived.Maps.OwnIn
import Derived.ReadAgain
import Derived.RowKit3
import Derived.Shelf.RegionOpenPlain
import Derived.Shelf.SlLaysQ
import Derived.Shelf.SlSortCmp.NoneTotal
import Derived.Shelf.SlicesE.Kit
import Derived.Shelf.SlicesQ.Load
import Derived.Sort.WalkB12
import Derived.StringKeys
import Derived.Test.YtbcajhiedeghlaaRows
import Derived.WalkKit
import Derived.WideShapes
import Derived.Test.YtbcajhiedeghlaaE2
namespace Go.Own
open Go Go.RowKit Go.ChangeShapes Go.WideShapes Go.Deep
variable {α β IX:Type}{P:Program}
abbrev rp (w:World) (y:aj) (u:Value):Prop:=R w (λb=>b<w.heap.size) (λ_ _=>False) y u (λ_=>False)
def lW (w:World) (ys:List aj) (cs:List Value):Prop :=
 ys.length=cs.length/\∀ (k:Nat) (y:aj) (u:Value),ys[k]?=some y->cs[k]?=some u->u.oneCell'=true/\rp w y u
theorem lW.nil {w:World}:lW w [] []:=⟨rfl,λ_ _ _ h=>by simp at h⟩
theorem lW.one {w:World}{y:aj}{u:Value}(h1:u.oneCell'=true) (h:rp w y u):lW w [y] [u] :=
 ⟨rfl,λk y' td aA hu=>by
  cases k with
  | zero=>simp at aA hu; subst aA hu; exact ⟨h1,h⟩
  | succ k=>simp at aA⟩
theorem lW.app {w:World}{ys wF:List aj}{cs jQ:List Value}(h:lW w ys cs) (al:lW w wF jQ):lW w (ys++wF) (cs++jQ):=by
 refine ⟨by simp [h.1,al.1],λk y u aA hu=>?_⟩;by_cases hk:k<ys.length
 ·rw [List.getElem?_append_left hk] at aA;rw [List.getElem?_append_left (h.1 ▸ hk)] at hu;exact h.2 k y u aA hu
 ·rw [List.getElem?_append_right (by omega)] at aA;rw [List.getElem?_append_right (by have:=h.1; omega),<- h.1] at hu;exact al.2 _ y u aA hu
structure ik (P:Program) (e:cF α) (t:TypeId) (ok:α->Prop):Prop where
 z:P.cellsOf t=e.z
 go:∀ {H:Type}{enc:TypeId × Value->H}{w:World}{n:Nat}{cs:List Value}{x:DataW H × List MemPlace},
  DataW.trod enc P w 0 (λ_=>true) true n t cs=some x->∃ a,ok a/\lW w (e.cells a) cs
theorem ik.int {e:cF Int}{t:TypeId}{k:IntKind}(aG:P.underlying t=some (.int k)) (bH:P.cellsOf t=e.z) (he:∀ n,e.cells n=[.lit (.int k n)]) :
  ik P e t (λn=>(Lit.int k n).wf=true):=by
 refine ⟨bH,λh=>?_⟩;obtain ⟨n,rfl,_,hw⟩:=DataW.trod_int aG h;exact ⟨n,hw,he n ▸ lW.one rfl (.lit rfl λ_ h=>h)⟩
theorem ik.bool {e:cF Bool}{t:TypeId}(aG:P.underlying t=some .bool) (bH:P.cellsOf t=e.z) (he:∀ n,e.cells n=[.lit (.bool n)]) :
  ik P e t (λ_=>True):=by
 refine ⟨bH,λh=>?_⟩;obtain ⟨n,rfl,_⟩:=DataW.trod_bool aG h;exact ⟨n,trivial,he n ▸ lW.one rfl (.lit rfl λ_ h=>h)⟩
theorem ik.str {e:cF ByteArray}{t:TypeId}(aG:P.underlying t=some .string) (bH:P.cellsOf t=e.z) (he:∀ n,e.cells n=[.lit (.string n)]) :
  ik P e t (λs=>s.size<=maxLen):=by
 refine ⟨bH,λh=>?_⟩;obtain ⟨n,rfl,_,hw⟩:=DataW.trod_string aG h;exact ⟨n,hw,he n ▸ lW.one rfl (.lit rfl λ_ h=>h)⟩
theorem MX (e:cF α) (bH:0<e.z):∀ (l:List α) (k:Nat) (y:aj),(cj e l)[k]?=some y->∃ a,l[k / e.z]?=some a/\(e.cells a)[k % e.z]?=some y
 | [],k,y,h=>by simp [cj] at h
 | a::l,k,y,h=>by
  have he:cj e (a::l)=e.cells a++cj e l:=by simp [cj]
  rw [he] at h;by_cases hk:k<e.z
  ·rw [List.getElem?_append_left (by rw [e.len]; exact hk)] at h;exact ⟨a,by simp [Nat.div_eq_of_lt hk],by rw [Nat.mod_eq_of_lt hk]; exact h⟩
  ·rw [List.getElem?_append_right (by rw [e.len]; omega),e.len] at h;obtain ⟨b,h1,al⟩:=MX e bH l (k - e.z) y h;have aZ:k / e.z=(k - e.z) / e.z+1:=by rw [Nat.div_eq_sub_div bH (by omega)]
   refine ⟨b,by rw [aZ]; simpa using h1,?_⟩;rw [Nat.mod_eq_sub_mod (by omega)]; exact al
theorem ik.slice {e:cF α}{t Ea:TypeId}{ok:α->Prop}(h:ik P e Ea ok) (aG:P.underlying t=some (.slice Ea)) (bH:P.cellsOf t=1) (ue:0<e.z) :
  ik P (bs e) t (λl=>l.length<=maxLen/\∀ x∈l,ok x):=by
 classical
 refine ⟨bH,λ{H enc w n cs x} ax=>?_⟩;rcases open_slice aG ax with ⟨rfl,rfl⟩ | ⟨a,len,cap,m,c5,D,o9,rfl,aJ,aq,hm,Gx,rfl,J⟩
 ·exact ⟨[],⟨by simp,by simp⟩,lW.one rfl (.hW λ_ h=>h)⟩
 ·have S1:m=cap:=by simpa using Gx
  subst S1;have hex:∀ i,i<len->∃ q:α × List Value,ok q.1/\lW w (e.cells q.1) q.2/\w.cells? 0 (a.add (i * P.cellsOf Ea)) (P.cellsOf Ea)=some q.2:=λi hi=>by
   obtain ⟨cs',h1,al⟩:=J i (by omega);obtain ⟨b,c3,cZ⟩:=h.go al;exact ⟨(b,cs'),c3,cZ,h1⟩
  by_cases bf:len=0
  ·subst bf;exact ⟨[],⟨by simp,by simp⟩,lW.one rfl (.hW λ_ h=>h)⟩
  ·obtain ⟨uE,_⟩:=hex 0 (by omega)
   haveI:Inhabited (α × List Value):=⟨uE⟩
   obtain ⟨f,bp⟩:=choose_lt hex;have hlen:((List.range len).map λi=>(f i).1).length=len:=by simp
   have py:∀ (i:Nat) (b:α),((List.range len).map λi=>(f i).1)[i]?=some b->i<len/\b=(f i).1:=λi b hi=>by
    have bg:=(List.getElem?_eq_some_iff.1 hi).1;simp at bg;simp [bg] at hi;exact ⟨bg,hi.symm⟩
   have k7:a.spot=none/\a.block<w.heap.size:=by
    obtain ⟨_,_,aS⟩:=bp 0 (by omega);obtain ⟨_,Gs,dv⟩:=World.cells?_some aS;have eC:=dv 0 (by rw [h.z]; exact ue);simp only [Nat.zero_mul,Addr.add,if_true] at eC;have:0<(f 0).2.length:=by rw [Gs,h.z]; exact ue
    rw [List.getElem?_eq_getElem this] at eC;unfold World.cell? at eC
    split at eC
    ·rename_i ca;refine ⟨?_,(Array.getElem?_eq_some_iff.1 ca).1⟩;cases aO:a.spot with
     | none=>rfl
     | some s=>simp [aO] at eC
    ·cases eC
   have key:∀ (k:Nat) (y:aj),(cj e ((List.range len).map λi=>(f i).1))[k]?=some y->∃ u,w.cell? ⟨a.block,a.off+k,none⟩=some u/\u.oneCell'=true/\rp w y u:=λk y hk=>by
    obtain ⟨b,c3,cZ⟩:=MX e ue _ k y hk;obtain ⟨hi,rfl⟩:=py _ _ c3;obtain ⟨_,al,aS⟩:=bp _ hi;obtain ⟨_,Gs,dv⟩:=World.cells?_some aS;have LD:k % e.z<e.z:=Nat.mod_lt _ ue;have eC:=dv (k % e.z) (by rw [h.z]; exact LD);rw [Deep.add_add,h.z] at eC;have hb:k / e.z * e.z+k % e.z=k:=by rw [Nat.mul_comm]; exact Nat.div_add_mod k e.z
    rw [hb] at eC;have bg:k % e.z<(f (k / e.z)).2.length:=by rw [Gs,h.z]; exact LD
    rw [List.getElem?_eq_getElem bg] at eC;have bk:a.add k=⟨a.block,a.off+k,none⟩:=by
     unfold Addr.add;split
     ·rename_i Q5; subst Q5; cases a; simp at k7 ⊢; exact k7.1
     ·rfl
    rw [bk] at eC;exact ⟨_,eC,al.2 _ _ _ cZ (List.getElem?_eq_getElem bg)⟩
   refine ⟨(List.range len).map λi=>(f i).1,⟨by rw [hlen]; omega,λy aA=>?_⟩,lW.one rfl ?_⟩
   ·obtain ⟨i,hi,rfl⟩:=List.mem_map.1 aA;exact (bp i (List.mem_range.1 hi)).1
   ·show rp w (.aD e.z _ _) _;rw [hlen];refine .aD (us:=λk=>(w.cell? ⟨a.block,a.off+k,none⟩).getD .nilFunc) (λ_ h=>h) aq k7.2 k7.1 (by rw [nI,hlen]) (λk y hk=>?_) (λk y hk=>?_) (λk y hk=>?_)
    ·obtain ⟨u,h1,al,aS⟩:=key k y hk;simp only [h1,Option.getD_some]; exact al
    ·obtain ⟨u,h1,al,aS⟩:=key k y hk;simp only [h1,Option.getD_some]
    ·obtain ⟨u,h1,al,aS⟩:=key k y hk;simp only [h1,Option.getD_some]; exact aS
def zp (P:Program):Nat->List Field->List TypeId->Bool
 | _,[],[]=>true
 | off,f::fs,t::ts=>decide (f.type=t)&&decide (f.offset=off)&&zp P (off+P.cellsOf t) fs ts
 | _,_,_=>false
def yw (P:Program) (t:TypeId) (ts:List TypeId):Bool :=
 match P.underlying t with
 | some (.struct fs)=>zp P 0 fs.toList ts&&decide (P.cellsOf t=(ts.map P.cellsOf).sum)
 | _=>false
structure wI (P:Program) (cells:β->List aj) (ts:List TypeId) (ok:β->Prop):Prop where
 go:∀ {H:Type}{enc:TypeId × Value->H}{w:World}{n:Nat}{cs:List Value}{fs:List Field}{off:Nat},zp P off fs ts=true->cs.length=off+(ts.map P.cellsOf).sum ->
  (∀ (i:Nat) (f:Field),fs[i]?=some f->∃ x,DataW.trod enc P w 0 (λ_=>true) true n f.type ((cs.drop f.offset).take (P.cellsOf f.type))=some x) ->
  ∃ b,ok b/\lW w (cells b) (cs.drop off)
theorem wI.nil:wI P (λ_:Unit=>[]) [] (λ_=>True) :=
 ⟨λ{H enc w n cs fs off} _ aq _=>⟨(),trivial,by rw [List.drop_eq_nil_of_le (by simp at aq; omega)]; exact lW.nil⟩⟩
theorem wI.cons {e:cF α}{t:TypeId}{ts:List TypeId}{ok:α->Prop}{cells:β->List aj}{Mw:β->Prop}(h:ik P e t ok) (aq:wI P cells ts Mw) :
  wI P (λp:α × β=>e.cells p.1++cells p.2) (t::ts) (λp=>ok p.1/\Mw p.2):=by
 refine ⟨λ{H enc w n cs fs off} iC hlen ax=>?_⟩;cases fs with
 | nil=>simp [zp] at iC
 | cons f fs =>
  simp only [zp,Bool.and_eq_true,decide_eq_true_eq] at iC;obtain ⟨⟨rfl,rfl⟩,iC⟩:=iC;obtain ⟨x,J⟩:=ax 0 f rfl;obtain ⟨a,bk,bm⟩:=h.go J;obtain ⟨b,aJ,RP⟩:=aq.go (off:=f.offset+P.cellsOf f.type) (cs:=cs) iC (by rw [hlen]; simp [Nat.add_assoc]) (λi QQ tW=>ax (i+1) QQ (by simpa using tW));refine ⟨(a,b),⟨bk,aJ⟩,?_⟩;have:cs.drop f.offset=(cs.drop f.offset).take (P.cellsOf f.type)++cs.drop (f.offset+P.cellsOf f.type):=by
   rw [<- List.drop_drop]; exact (List.take_append_drop _ _).symm
  rw [this];exact bm.app RP
theorem ik.struct {e:cF IX}{t:TypeId}{ts:List TypeId}{cells:β->List aj}{ok:β->Prop}(h:wI P cells ts ok) (mk:β->IX) (un:IX->β) (LX:∀ b,un (mk b)=b) (ae:∀ b,e.cells (mk b)=cells b) (aG:yw P t ts=true) (bH:P.cellsOf t=e.z) :
  ik P e t (λs=>ok (un s)):=by
 refine ⟨bH,λ{H enc w n cs x} ax=>?_⟩;unfold yw at aG
 split at aG
 ·rename_i fs hu;simp only [Bool.and_eq_true,decide_eq_true_eq] at aG;obtain ⟨xs,c5,rfl,rfl,aq,G6,J⟩:=DataW.trod_struct hu ax;obtain ⟨b,aJ,bm⟩:=h.go (w:=w) (off:=0) (cs:=cs) (fs:=fs.toList) (n:=c5) (enc:=enc) aG.1 (by rw [aq,aG.2]; simp) (λi f bp=>by
   have tW:fs[i]?=some f:=by simpa using bp
   have hi:i<xs.length:=by rw [G6]; exact (Array.getElem?_eq_some_iff.1 tW).1
   exact ⟨xs[i],by rw [J i f tW,List.getElem?_eq_getElem hi]⟩)
  exact ⟨mk b,by rw [LX]; exact aJ,by rw [ae]; simpa using bm⟩
 ·cases aG
inductive BN (w:World):aj->Value->Prop
 | mk {y:aj}{v:Value}(h:rp w y v):BN w y v
theorem ik.one {e:cF α}{t:TypeId}{ok:α->Prop}{g:α->aj}(h:ik P e t ok) (he:∀ a,e.cells a=[g a]) {H:Type}{enc:TypeId × Value->H}{w:World}{v:Value}{d:DataW H}{p:List MemPlace}(hv:v.cells.toList=[v])
  (aG:DataW.Trod enc P w 0 (λ_=>true) true t v d p):∃ a,ok a/\BN w (g a) v:=by
 obtain ⟨n,aP⟩:=aG;obtain ⟨a,bk,bm⟩:=h.go aP;refine ⟨a,bk,.mk ?_⟩;rw [hv,he] at bm;exact (bm.2 0 _ _ rfl rfl).2
theorem ik.Mx {e:cF α}{t:TypeId}{ok:α->Prop}{ts:List TypeId}(h:ik P e t ok) (iC:yw P t ts=true) {H:Type}{enc:TypeId × Value->H}{w:World}{v:Value}{d:DataW H}{p:List MemPlace}{base:Nat}(hv:Value.okWide P w .any base t v)
  (aG:DataW.Trod enc P w 0 (λ_=>true) true t v d p):∃ a,ok a/\BN w (.agg (e.cells a)) v:=by
 have hu:∃ fs,P.underlying t=some (.struct fs):=by
  unfold yw at iC
  split at iC
  ·exact ⟨_,by assumption⟩
  ·cases iC
 obtain ⟨fs,hu⟩:=hu;obtain ⟨cs,rfl,hI⟩:=okWide_struct hu hv;obtain ⟨n,aP⟩:=aG;obtain ⟨a,bk,bm⟩:=h.go aP;refine ⟨a,bk,.mk ?_⟩;have jC:lW w (e.cells a) cs.toList:=bm;refine .agg (Fs:=λ_ _=>False) (by simpa using jC.1) (λk u hu=>?_) (λk x u J hu=>(jC.2 k x u J (by simpa using hu)).2) (λ_ _ _ _ _ h=>h.elim) (λc=>⟨λh=>h.elim,λ⟨_,_,h⟩=>h⟩);have hk:k<(e.cells a).length:=by rw [jC.1]; simpa using (Array.getElem?_eq_some_iff.1 hu).1
 exact (jC.2 k _ u (List.getElem?_eq_getElem hk) (by simpa using hu)).1
inductive tn (w:World):List aj->List Value->Prop
 | nil:tn w [] []
 | cons {y:aj}{v:Value}{ys:List aj}{vs:List Value}(h:BN w y v) (aO:tn w ys vs):tn w (y::ys) (v::vs)
theorem tn.get {w:World}{ys:List aj}{vs:List Value}(h:tn w ys vs):ys.length=vs.length/\∀ (k:Nat) (y:aj),ys[k]?=some y->∃ v,vs[k]?=some v/\rp w y v:=by
 induction h with
 | nil=>exact ⟨rfl,λk y h=>by simp at h⟩
 | cons h _ aR =>
  refine ⟨by simp [aR.1],λk y aA=>?_⟩;cases k with
  | zero =>
   simp at aA; subst aA;obtain ⟨h⟩:=h;exact ⟨_,rfl,h⟩
  | succ k=>simpa using aR.2 k y (by simpa using aA)
theorem tn.Vs {w:World}{ys:List aj}{vs:List Value}(h:tn w ys vs) (aH:ys.all (λy=>match y with | .bY ..=>false | _=>true)=true) :
  dd w (λb=>b<w.heap.size) vs.toArray (pe ys) (λ_=>c0):=by
 refine ⟨λt x J=>?_,λ_ _ _ h=>h,λ_ _ _ h=>h.elim,λ_ _ h=>h.elim,λ_ h=>h,λt dD z p n m new cN c5 cb ds h1 _=>?_⟩
 ·obtain ⟨v,hv,bm⟩:=h.get.2 t x J;exact ⟨v,by simpa using hv,.tree (bm.frame (λ_ _=>rfl) (λ_ h=>h) (λ_ _ h=>h.elim) (λ_ _=>rfl))⟩
 ·have:=List.all_eq_true.1 aH _ (List.mem_of_getElem? h1);cases this
structure I1 (w w':World):Prop where
 kept:∀ may:MemPlace->Prop,w.keptBut w' may
 e7:∀ a,a.block<w.heap.size->w'.frozen? a=w.frozen? a
theorem b6.V5 {f:FuncId}{ys:List aj}{vs:List Value}{outs:List (Option aj)}{r:Value}(ae:b6 P f ys outs (.lit r)) (w:World) (h:tn w ys vs) (aH:ys.all (λy=>match y with | .bY ..=>false | _=>true)=true) :
  Calls P f vs.toArray w λe w'=>e=.returned r/\I1 w w'/\∀ i:Nat,i<w.heap.size->w'.heap[i]?=w.heap[i]?:=by
 have:=ae.2 w _ vs _ h.get.1.symm (h.Vs aH);refine this.mono ?_;rintro e w' ⟨v,I',cB,rfl,b5,cp⟩;obtain ⟨u,hu,bm⟩:=b5.rel outs.length (.lit r) (by simp [oV]);have aq:outs.length=vs.length:=by rw [ae.1]; exact h.get.1
 have Dc:u=v:=by
  rw [aq] at hu;simpa using hu.symm
 subst Dc;have hv:=(bm.h9 (by simp)).iu.1;subst hv;have aJ:∀ i:Nat,i<w.heap.size->w'.heap[i]?=w.heap[i]?:=λi hi=>cp.fI.block i hi λ⟨_,h⟩=>h;have hk:World.keptBut w w' (λ_=>False):=⟨cp.fI.os,cp.fI.output,λi hi=>by
  rw [aJ i hi];exact (World.keptBut_refl w (λ_=>False)).2.2 i hi⟩
 exact ⟨rfl,⟨λmay=>World.keptBut_mono (λ_ f=>f.elim) hk,cp.fI.e7⟩,aJ⟩
theorem NA {H:Type}{enc:TypeId × Value->H}{w w':World}{base:Nat}{sp:Nat->Bool}{held:Bool}(aJ:∀ i:Nat,i<w.heap.size->w'.heap[i]?=w.heap[i]?) :
  ∀ {ts:List TypeId}{vs:List Value}{jQ:List (DataW H)}{ps:List MemPlace},DataW.TrodAll enc P w base sp held ts vs jQ ps->DataW.TrodAll enc P w' base sp held ts vs jQ ps
 | [],[],[],_,h=>h
 | _::_,_::_,_::_,_,⟨p,q,⟨n,aP⟩,al,e⟩=>by
  refine ⟨p,q,⟨n,DataW.trod_carry n _ _ _ aP λx J=>?_⟩,NA aJ al,e⟩;have bg:=DataW.trod_lt n _ _ _ aP x J;cases x with
  | cell b off =>
   show w'.cell? _=w.cell? _;exact World.cell?_of_block (aJ b bg)
  | map b=>exact aJ b bg
theorem OD {H:Type}{enc:TypeId × Value->H}{w w':World}(aq:laidOutB P=true) (hm:mapsRowed P=true)
  (bH:((List.range P.types.size).all λt=>match P.underlying t with | some (.slice e)=>decide (0<P.cellsOf e) | _=>true)=true)
  (aJ:∀ i:Nat,i<w.heap.size->w'.heap[i]?=w.heap[i]?) {ts:List TypeId}{vs:List Value}{jQ:List (DataW H)}{ps:List MemPlace}(aG:ts.all (λt=>decide (t<P.types.size))=true)
  (h:DataW.TrodAll enc P w 0 (λ_=>true) true ts vs jQ ps) {sp:Nat->Bool}(k7:∀ p∈ps,sp p.block=true):DataW.TrodAll enc P w' 0 sp true ts vs jQ ps :=
 (NA aJ h).respare (kids_rows aq hm) (slices_full_of P bH) (λt h=>of_decide_eq_true (List.all_eq_true.1 aG t h)) k7
end Go.Own
namespace Go.Own
open Go
section
variable {α β:Type}{P:Program}{N:dW}{g g1:a7}{p:Place}{m:Int}{a b:Operand}{t:TypeId}
theorem aj.Jv:∀ (l:List Nat) {x nd:aj}{k:Nat}{c:aj},x.at l=some nd->nd.kids[k]?=some c->x.at (l++[k])=some c
 | [],x,nd,k,c,h,hk=>by
  simp only [aj.at,Option.some.injEq] at h;subst h;simp [aj.at,hk]
 | af::l,x,nd,k,c,h,hk=>by
  simp only [aj.at] at h;cases aa:x.kids[af]? with
  | none=>rw [aa] at h; cases h
  | some y =>
   rw [aa] at h;simp only [List.cons_append,aj.at,aa];exact aj.Jv l h hk
theorem aj.Nb:∀ (l:List Nat) {x nd:aj}{k:Nat}{c:aj}(y:aj),x.at l=some nd->nd.kids[k]?=some c->x.setAt (l++[k]) y=x.setAt l (nd.uO k y)
 | [],x,nd,k,c,y,h,hk=>by
  simp only [aj.at,Option.some.injEq] at h;subst h;simp [aj.setAt,hk]
 | af::l,x,nd,k,c,y,h,hk=>by
  simp only [aj.at] at h;cases aa:x.kids[af]? with
  | none=>rw [aa] at h; cases h
  | some z =>
   rw [aa] at h;simp only [List.cons_append,aj.setAt,aa];rw [aj.Nb l y h hk]
theorem Ki {en:cF α}{L:List α}{jX:α}{o:Nat}{c:aj}(h:idx L m=some jX) (ae:(en.cells jX)[o]?=some c):(ak en L).kids[m.toNat * en.z+o]?=some c:=MV en h ae
theorem rv {en:cF α}{L:List α}{jX:α}{r o:Nat}{path:List Nat}{c:aj}(aH:cd g ⟨r,path⟩=some (ak en L)) (h:idx L m=some jX) (ae:(en.cells jX)[o]?=some c):cd g ⟨r,path++[m.toNat * en.z+o]⟩=some c:=by
 unfold cd at aH ⊢;simp only at aH ⊢;cases J:g r with
 | none=>rw [J] at aH; cases aH
 | some x =>
  rw [J] at aH;exact aj.Jv path aH (Ki h ae)
theorem Nf {en:cF α}{L:List α}{jX:α}{r o:Nat}{path:List Nat}{c:aj}(y:aj) (aH:cd g ⟨r,path⟩=some (ak en L)) (h:idx L m=some jX) (ae:(en.cells jX)[o]?=some c) :
  dh g ⟨r,path++[m.toNat * en.z+o]⟩ y=dh g ⟨r,path⟩ (.own en.z L.length ((cj en L).set (m.toNat * en.z+o) y)):=by
 funext s;unfold dh;simp only;split
 ·rename_i e;subst e;unfold cd at aH;simp only at aH;cases J:g s with
  | none=>rfl
  | some x =>
   rw [J] at aH;simp only [Option.map_some,Option.some.injEq];rw [aj.Nb path y aH (Ki h ae)];rfl
 ·rfl
theorem Vq (l:List aj) (k:Nat) (x c:aj):fM (l.set k x) k [c]=fM l k [c]:=by
 unfold fM;simp only [List.length_singleton];rw [List.take_set,List.drop_set];rw [List.set_eq_of_length_le (by simp; omega)];simp
theorem cc.Bv {hM:Oper}{en:cF α}{en2:cF β}{L:List α}{jX y2:α}{pX M R:List β}{o s HD:Nat}{new ds:List aj}{x2 y0:aj}{G2:List (Nat × aj)}
  (bj:hM.op=.store t a b) (aZ:hM.dst=none) (bk:Rd g a (.ptr p (m.toNat * en.z+o))) (aJ:Rd g b (.bh en2.z ⟨s,[]⟩ (pX.length+HD)))
  (sR:g s=some (.bY en2.z ⟨p.root,p.path++[m.toNat * en.z+o]⟩ pX.length HD new)) (aH:cd g p=some (ak en L)) (h:idx L m=some jX) (lI:(en.cells jX)[o]?=some (ak en2 pX)) (bW:Nat.beq p.root s=false)
  (h1:ix (dh (dh g ⟨s,[]⟩ .dead) p (.own en.z L.length ((cj en L).set (m.toNat * en.z+o) .dead))) new ds g1)
  (qa:gl ds (cj en2 M)) (hm:M.length=HD) (bm:pX++M=R) (bH:gz P t 1=true)
  (ud:cd g1 p=some (.own en.z L.length ((cj en L).set (m.toNat * en.z+o) .dead)))
  (he:fM (en.cells jX) o [ak en2 R]=en.cells y2) (hlen:Nat.ble (o+1) en.z=true)
  (gG:dh g1 p (ak en (L.set m.toNat y2)) p.root=some x2) (ax:(get G2 p.root).isSome=true) (vF:g1 p.root=some y0) [hc:cV y0] (eD:lj g1 (get G2) p.root x2 G2):cc P N g hM (get G2):=by
 subst hm bm;have zN:=Nat.le_of_ble_eq_true hlen;have k7:=H' en (cs':=[ak en2 (pX++M)]) h he (by simpa using zN);have Gr:(L.set m.toNat y2).length=L.length:=List.length_set;have C_:=Nat.ne_of_beq_eq_false bW;have zC:cd g ⟨p.root,p.path++[m.toNat * en.z+o]⟩=some (ak en2 pX):=rv (g:=g) (r:=p.root) (path:=p.path) aH h lI;have S7:cd (dh g ⟨s,[]⟩ .dead) p=some (ak en L):=by
  unfold cd at aH ⊢;rw [ta (p:=⟨s,[]⟩) (λe=>C_ e)]; exact aH
 have aG:ix g [.bh en2.z ⟨s,[]⟩ (pX.length+M.length)] [.own en2.z (pX.length+M.length) (cj en2 pX++ds)] g1:=by
  refine .lP sR zC bW ?_ .nil;rw [Nf .dead (r:=p.root) (path:=p.path) S7 h lI];exact h1
 have hk:m.toNat * en.z+o+1<=L.length * en.z:=by
  obtain ⟨uE,jW,_⟩:=pF h;have al:m.toNat+1<=L.length:=by omega
  calc m.toNat * en.z+o+1<=m.toNat * en.z+en.z:=by omega
   _=(m.toNat+1) * en.z:=by rw [Nat.add_mul]; omega
   _<=L.length * en.z:=Nat.mul_le_mul_right _ al
 refine .store bj aZ bk.bT aJ.bT aG.take (y':=ak en2 (pX++M)) ?_ rfl bH (p:=p) (nd:=.own en.z L.length ((cj en L).set (m.toNat * en.z+o) .dead)) (z:=en.z) (n:=L.length) (cs:=(cj en L).set (m.toNat * en.z+o) .dead) ud (.inl rfl) ?_ (by simp) (λt x J=>?_) (λt x J y aA=>?_) (λt z q n m new J=>?_) (by intro e; rw [e] at ax; cases ax)
 ·rw [<- vX]; exact (qa.pre _).own
 ·simp only [List.length_singleton,List.length_set,nI]; exact hk
 ·have gv:(aj.own en.z L.length ((cj en L).set (m.toNat * en.z+o) .dead)).fM (m.toNat * en.z+o) [ak en2 (pX++M)]=ak en (L.set m.toNat y2):=by
   show aj.own en.z L.length (fM ((cj en L).set (m.toNat * en.z+o) .dead) (m.toNat * en.z+o) [ak en2 (pX++M)])=_;unfold ak at k7 ⊢;rw [Vq,k7,Gr]
  rw [gv];rcases eD.spec t x J with ⟨h1,al,_⟩ | ⟨h1,al,_⟩
  ·rw [ta h1]; exact al
  ·subst h1 al; exact gG
 ·rcases eD.spec t x J with ⟨h1,al,aS⟩ | ⟨h1,al,aS⟩
  ·rw [al] at aA; cases aA;rcases aS with aS | ⟨aS,c2,rfl⟩
   ·exact aS.H8
   ·refine kk.ref (by cases aS; rfl) ⟨aS.Mv,aS.clear ?_,aS.HK⟩;intro e;obtain ⟨hC,pp⟩:=p;simp only at e;subst e;simp only [dh,if_true,vF,Option.map_some,aj.setAt,Option.some.injEq] at gG;cases gG
  ·subst h1; rw [vF] at aA; cases aA; exact .bP hc.bP
 ·rcases eD.spec t _ J with ⟨_,_,aS | ⟨aS,_⟩⟩ | ⟨_,_,aS⟩
  ·exact aS.fZ _ _ _ _ _ rfl
  ·exact aS.fZ _ _ _ _ _ rfl
  ·cases aS
end
end Go.Own
/- Short forms for printed walks. -/
namespace Go.Own
open Go
section
variable {P:Program}{N:dW}{ops:Array Oper}{cg:List (List Nat)}{g g0:a7}{K:a7->Prop}{l:List Oper}{acc:Acc}{d i:Nat}{op:Op}{ty:TypeId}{pos:String}{after:Array Edge}{x:aj}
theorem ag (aH:dI P g op ty x) (hk:au P N ops l (fc g d x) K) (b1:N.ok d=true:=by rfl) (bp:g d=none:=by rfl):au P N ops (⟨some d,op,ty,pos,after,none⟩::l) g K:=.v aH b1 bp .none hk
theorem dV (aH:ct P g op x) (hk:au P N ops l (fc g d x) K) (b1:N.ok d=true:=by rfl) (bp:g d=none:=by rfl):au P N ops (⟨some d,op,ty,pos,after,none⟩::l) g K:=.c aH b1 bp .none hk
theorem ao (dr:Nat) (aH:dI P (oj cg g0 dr acc) op ty x) (hk:bC P N ops cg g0 i ((dr,d,some x)::acc) l K) (aa:Nat.beq ops.size (dr+l.length+1)=true:=by rfl) (bp:g0 d=none:=by rfl) (aP:acc.all (λe=>!Nat.beq e.2.1 d)=true:=by rfl) (b1:N.ok d=true:=by rfl) :
  bC P N ops cg g0 i acc (⟨some d,op,ty,pos,after,none⟩::l) K:=.v dr aH aa bp aP b1 .none hk
theorem gL (dr:Nat) (aH:ct P (oj cg g0 dr acc) op x) (hk:bC P N ops cg g0 i ((dr,d,some x)::acc) l K) (aa:Nat.beq ops.size (dr+l.length+1)=true:=by rfl) (bp:g0 d=none:=by rfl) (aP:acc.all (λe=>!Nat.beq e.2.1 d)=true:=by rfl) (b1:N.ok d=true:=by rfl) :
  bC P N ops cg g0 i acc (⟨some d,op,ty,pos,after,none⟩::l) K:=.c dr aH aa bp aP b1 .none hk
end
instance {z n:Nat}{cs:List aj}:ou (.own z n cs):=⟨by simp⟩
def aM (a n:Nat) (l:List Nat):List Nat:=List.range' a n++l
end Go.Own
namespace Go.Own
open Go
section
variable {α:Type}{P:Program}{N:dW}{g:a7}{d r:Nat}{ty:TypeId}
instance {fn:Fn}{cs:List aj} [h:eZ cs]:cV (.eB fn [] cs):=⟨.eB (by simp) h.bP⟩
theorem h4.j4 {o:Oper}{xs:List Operand}{iF:Array TypeId}{f:FuncId}{ys args:List aj}{res:aj}{en:cF α}{L L':List α}{G2:List (Nat × aj)}(bj:o.op=.call { callee:=.value (.func f),args:=xs.toArray,argTypes:=iF }) (aZ:o.dst=some d) (J:Own.iN g xs=some (.bh en.z ⟨r,[]⟩ L.length::ys))
  (aO:g r=some (ak en L)) (hv:p3 (get ((r,.dead)::G2)) ys args) (jj:b6 P f (ak en L::args) (some (ak en L')::args.map λ_=>none) res) (bp:du P f=true) [ax:qw res] [vz:qw (ak en L')]
  (eD:Trim false (dh g ⟨r,[]⟩ .dead) (get ((r,.dead)::G2)) G2) (bb:get G2 d=none) (zX:Nat.beq r d=false) (zw:Trim false (get ((r,ak en L')::G2)) (get ((r,ak en L')::G2)) G2) (b1:N.ok d=true) :
  h4 P N g o d (get ((d,res)::(r,ak en L')::G2)):=by
 have zY:r≠d:=Nat.ne_of_beq_eq_false zX;have Fc:get ((r,aj.dead)::G2) r=some .dead:=by simp [get]
 have mz:∀ x∈cj en L,dn x:=by
  intro x J;obtain ⟨a,_,bk⟩:=List.mem_flatMap.1 J;exact en.bP a x bk
 have gi:(cj en L).take (L.length * en.z)=cj en L:=List.take_of_length_le (by rw [nI]; exact Nat.le_refl _);have vO:fN (dh g ⟨r,[]⟩ .dead) (get ((r,.dead)::G2)):=by
  refine ⟨λt x h=>?_,λt x h=>?_,λt z q n m new h=>?_⟩
  all_goals
   simp only [get] at h
   split at h
  ·rename_i e; subst e; cases h; simp [dh,aO,aj.setAt]
  ·obtain ⟨⟨y,h1,_,aS⟩,_⟩:=eD.spec t x h; rw [<- aS rfl]; exact h1
  ·cases h; exact .bP .dead
  ·exact (eD.spec t x h).2.1
  ·cases h
  ·exact (eD.spec t _ h).2.2 _ _ _ _ _ rfl
 have put:pO (get ((r,.dead)::G2)) [(⟨r,[]⟩,ak en L')]=get ((r,ak en L')::G2):=by
  funext t;simp only [pO,dh,get];by_cases h:t=r
  ·simp [h,aj.setAt]
  ·simp [h]
 have vP:fN (get ((r,ak en L')::G2)) (get ((r,ak en L')::G2)):=by
  refine ⟨λt x h=>h,λt x h=>?_,λt z q n m new h=>?_⟩
  all_goals
   simp only [get] at h
   split at h
  ·cases h; exact .bP vz.k'.bP
  ·exact (zw.spec t x h).2.1
  ·cases h
  ·exact (zw.spec t _ h).2.2 _ _ _ _ _ rfl
 have aq:=hv.len;have qD:get ((d,res)::(r,ak en L')::G2)=fc (get ((r,ak en L')::G2)) d res:=by
  funext t;rw [tL]
 rw [qD];refine wP.ok (first:=[]) (caps:=[]) (ys:=.bh en.z ⟨r,[]⟩ L.length::ys) (tk:=λk=>k == 0) (vw:=true) (outs:=some (ak en L')::args.map λ_=>none) (g1:=dh g ⟨r,[]⟩ .dead) (g2:=get ((r,.dead)::G2)) (g4:=get ((r,ak en L')::G2)) (l:=[(⟨r,[]⟩,ak en L')]) (ks:=λ_=>0) (xs0:=.bh en.z ⟨r,[]⟩ L.length::ys.map λ_=>.dead) (xs1:=ak en L::ys.map λ_=>.dead) (args:=ak en L::args) (res:=res) bj aZ rfl (by simpa using J)
  ⟨bp,by simp,by simpa using aq,λk x h=>?_,?_,vO,λk x y J aA=>?_,jj,by simpa using ax.k',λk x h=>?_,λaf p x aa=>?_,by simp,λi af hi aa _=>by simp at hi aa; omega,by rw [put]; exact vP⟩ ?_ b1 uV.refl
 ·simp only [List.nil_append,List.append_nil] at h;cases k with
  | zero=>exact .inl h
  | succ k =>
   refine .inr ?_;simp only [List.getElem?_cons_succ] at h ⊢;rw [List.getElem?_map,h]; rfl
 ·have h1:Take (dh g ⟨r,[]⟩ .dead) ((cj en L).take (L.length * en.z)) (cj en L) (dh g ⟨r,[]⟩ .dead):=by rw [gi]; exact .bP mz
  refine .bh (N:=L.length) (by simp [cd,aO,aj.at]) (Nat.le_refl _) h1 (.bP λx J=>?_);obtain ⟨_,_,rfl⟩:=List.mem_map.1 J;exact .dead
 ·simp only [List.nil_append,List.append_nil] at J;cases k with
  | zero=>simpa using aA
  | succ k =>
   simp only [List.getElem?_cons_succ] at J aA;exact ⟨rfl,hv.get k x y J aA⟩
 ·cases k with
  | zero=>simp only [List.getElem?_cons_zero,Option.some.injEq] at h; subst h; exact vz.k'
  | succ k =>
   simp only [List.getElem?_cons_succ,List.getElem?_map] at h;cases bk:args[k]? <;> rw [bk] at h <;> cases h
 ·cases af with
  | succ af=>simp at aa
  | zero =>
   simp only [List.getElem?_cons_zero,Option.some.injEq,Prod.mk.injEq] at aa;obtain ⟨rfl,rfl⟩:=aa;exact ⟨rfl,by simp [cd,Fc,aj.at],.inl ⟨en.z,L.length,cj en L,rfl,by simp [cd,aO,aj.at]⟩⟩
 ·simp only [get,if_neg (Ne.symm zY)]; exact bb
end
end Go.Own
namespace Go.Own
open Go Go.Proofs Go.Shelf Go.Lib Go.Sort
section
variable {P:Program}{w:World}
end
end Go.Own
namespace Go.Own
open Go
section
variable {α:Type}{P:Program}{N:dW}{g g1 g2 g3:a7}{ops:Array Oper}{cg:List (List Nat)}{acc:Acc}{l:List Oper}{K:a7->Prop}{i d r:Nat}
theorem dd.settle {w:World}{I:bu}{T:Array Value}{Fs:Nat->bu}(h:dd w I T g Fs) (a:Act) (bk:a.tmps=T) {ts:List Nat}{xs ys:List aj}(J:Own.iN g (ts.map Operand.tmp)=some xs) (aG:Take g xs ys g1) (gv:ts.Nodup) (aq:ys.length=ts.length) (aZ:∀ t∈ts,g1 t=some .dead)
  (hk:fN (pO g1 ((ts.map λt=>(⟨t,[]⟩:Place)).zip ys)) g2):∃ cB,dd w I T g2 cB/\∀ c,(∃ t,cB t c)->∃ t,Fs t c:=by
 obtain ⟨G6,TY⟩:=x3 h bk J;have TX:xs.length=ts.length:=by rw [G6,List.length_map]
 have hand:Hand w I (gr w T) Fs xs (ts.map λt=>a.eval (.tmp t)) (λ_=>c0):=by
  refine ⟨by rw [TX,List.length_map],λk x u pE hu=>?_,λ_ _ _ _ _ h=>h.elim,λ_ _ _ _ h=>h.elim,λ_ _ _ h=>h.elim⟩;rw [List.getElem?_map] at hu;cases gi:ts[k]? with
  | none=>rw [gi] at hu; cases hu
  | some t =>
   rw [gi] at hu; cases hu;exact (TY k x (.tmp t) pE (by rw [List.getElem?_map,gi]; rfl)).frame (λ_ _=>rfl) (λ_ h=>h) (λ_ _ h=>h.1) λ_ _=>rfl
 obtain ⟨gp,H1,jf,iJ,hs⟩:=aG.sound h.mj hand;have s0:((ts.map λt=>(⟨t,[]⟩:Place)).zip ys).length=ts.length:=by rw [List.length_zip,List.length_map,aq]; exact Nat.min_self _
 obtain ⟨jd,im,aQ⟩:=jN.pO ((ts.map λt=>(⟨t,[]⟩:Place)).zip ys) H1 (λaf=>((ts.map λt=>a.eval (.tmp t))[af]?).getD undef) jf (by
   rw [List.map_fst_zip (by rw [List.length_map,aq]; exact Nat.le_refl _)];exact List.Pairwise.map _ (λa b h e=>h (congrArg Place.root e)) gv) (λaf p x aa=>by
   rw [List.getElem?_zip_eq_some] at aa;obtain ⟨h1,al⟩:=aa;rw [List.getElem?_map] at h1;cases gi:ts[af]? with
   | none=>rw [gi] at h1; cases h1
   | some t =>
    rw [gi] at h1; cases h1;have Lj:=aZ t (List.mem_of_getElem? gi);obtain ⟨v,hv,_⟩:=jf.rel t .dead Lj;have p':a.eval (.tmp t)=v:=by simp [Act.eval,bk,hv]
    have GO:(ts.map λt=>a.eval (.tmp t))[af]?=some v:=by rw [List.getElem?_map,gi]; simp [p']
    refine ⟨by simp [cd,Lj,aj.at],?_,?_⟩
    ·rw [GO];show eI w T ⟨t,[]⟩=some v;unfold eI;simp only [hv,walk]
    ·rw [GO];exact iJ.rel af x v al GO) (λaf t c aa ae=>iJ.off af t c (by omega) ae) (λaf c aa ae=>iJ.aD af c (by omega) ae) (λi af c hi aa h1 al=>iJ.fi i af c (by omega) (by omega) h1 al)
 refine ⟨_,im.keep hk,λc ⟨t,_,ae⟩=>?_⟩;have:lg gp ys.length H1 c:=by
  rcases aQ t c ae with h | ⟨af,aa,h⟩
  ·exact .inl ⟨t,h⟩
  ·exact .inr ⟨af,by omega,h⟩
 rcases hs c this with h | ⟨_,_,h⟩
 ·exact h
 ·exact h.elim
theorem kU.settle {o:Oper}{ts:List Nat}{xs ys:List aj}(J:Own.iN g (ts.map Operand.tmp)=some xs) (aG:Take g xs ys g1) (gv:ts.Nodup) (aq:ys.length=ts.length) (aZ:∀ t∈ts,g1 t=some .dead)
  (hk:fN (pO g1 ((ts.map λt=>(⟨t,[]⟩:Place)).zip ys)) g2) (he:kU P N g2 o g3):kU P N g o g3:=by
 intro w I T Fs b5 a bk b1 K Q eJ;obtain ⟨cB,eO,gQ⟩:=b5.settle a bk J aG gv aq aZ hk;refine he w I T cB eO a bk b1 K Q λcJ w' aP aG=>eJ cJ w' ?_ aG;obtain ⟨dz,de,I',jd,h1,al⟩:=aP;exact ⟨dz,de,I',jd,h1,kW.trans ⟨Fr.refl _ _,λ_ h=>h,λ_ h=>.inl h,λc h=>.inl (gQ c h)⟩ al⟩
theorem Oj {Q:Nat->Prop}{a:Nat}(bk:Q a):∀ t∈[a],Q t:=λt aG=>by rw [List.mem_singleton.1 aG]; exact bk
theorem Ol {Q:Nat->Prop}{a b:Nat}(bk:Q a) (aJ:Q b):∀ t∈[a,b],Q t:=λt aG=>by
 rcases List.mem_cons.1 aG with rfl | aG
 ·exact bk
 ·rw [List.mem_singleton.1 aG]; exact aJ
def DN (p q:Place):Bool:=Nat.beq p.root q.root&&p.path == q.path
def Dx:List Place->Bool
 | []=>true
 | x::l=>l.all (λy=>!DN x y)&&Dx l
theorem Mm:∀ {l:List Place},Dx l=true->l.Nodup
 | [],_=>List.nodup_nil
 | p::l,h=>by
  simp only [Dx,Bool.and_eq_true,List.all_eq_true] at h;refine List.nodup_cons.2 ⟨λhm=>?_,Mm h.2⟩;have:=h.1 p hm;simp [DN] at this
def Ux (p:Place) (acc:Acc):Bool:=acc.all λe=>match mb e with | some q=>!DN p q | none=>true
theorem Mo {p:Place}{G:List (Nat × aj)}{A:Nat->Bool}(h:Ux p acc=true) (eD:rW G=true):∀ t z n m new,eu (get G) A acc t≠some (.bY z p n m new):=by
 intro t z n m new e;rcases tf e with ⟨cY,he,h1,_,al⟩ | ⟨_,al⟩
 ·have:=List.all_eq_true.1 h cY he;obtain ⟨k,d,x⟩:=cY;simp only at al;subst al;simp [mb,DN] at this
 ·exact xZ eD _ _ _ _ _ _ al
theorem O.On {en:cF α}{L M r:List α}{y:aj}{e jP:Nat}{a b:Operand}{p:Place}{t ty:TypeId}(aO:Rd g a (.bh en.z p L.length)) (aH:cd g p=some (ak en L)) (J:Rd g b y) (hm:qz g en y M) (aG:iV P t e en.z jP=true) (aJ:Nat.ble jP 128=true) (h:ed L M=some r) (hc:∀ t z n m new,g t≠some (.bY z p n m new)) :
  dI P g (.call { callee:=.builtin .append,args:=#[a,b],argTypes:=#[t,t] }) ty (.bY en.z p L.length M.length (cj en M)):=by
 obtain ⟨h1,al,_⟩:=w7 h aJ;exact .lB (.grow aO.bT (.inl ⟨_,aH⟩) (λt cN c5 cb ds e=>hc _ _ _ _ _ e) J.bT hm.src aG h1 al)
theorem bC.JD (dr:Nat) {G G2:List (Nat × aj)}{o:Oper}(he:kU P N (eu (get G) (λm=>(cg.getD dr []).contains m) acc) o (get G2)) (bb:o.guard=none) (hJ:Dx (acc.filterMap mb)=true) (i_:rW G=true) (aa:Nat.beq ops.size (dr+l.length+1)=true)
  (gQ:acc.filter (λe=>!(cg.getD dr []).contains e.1)=[])
  (aJ:(List.range ops.size).all (λk=>Nat.ble k dr||(cg.getD k []).contains dr)=true) (hk:bC P N ops cg (get G2) (dr+1) [] l K):bC P N ops cg (get G) i acc (o::l) K:=by
 intro eA af di n3 mw;have:=y6 mw aa;subst this;obtain ⟨h1,al⟩:=drop_cons mw;obtain ⟨g',ax,eJ⟩:=hk [] (af+1) .nil .nil al;refine ⟨g',.w9 (U:=[]) (rs:=q7 []) n3 (Mm hJ) (xZ i_) h1 ?_ he.v (λp aH=>by simp [q7] at aH) gQ.symm (by simp) (by simp) (by simp) ?_ ax,eJ⟩
 ·unfold iU; rw [bb]
 ·refine List.all_eq_true.2 λk hk=>?_;have:=List.all_eq_true.1 aJ k hk;simp only [Bool.or_eq_true,decide_eq_true_eq,Nat.ble_eq] at this ⊢;exact this
theorem kU.cell {o:Oper}{r k0:Nat}{y:aj}{cs:List aj}{g5:a7}(ax:g r=some (.obj cs)) (aA:cs[k0]?=some y) (vG:dn y)
  (uc:∀ v:Value,v.oneCell'=true->∃ g1 g4,fN (dh g ⟨r,[k0]⟩ (.lit v)) g1/\kU P N g1 o g4/\cd g4 ⟨r,[k0]⟩=some (.lit v)/\fN (dh g4 ⟨r,[k0]⟩ y) g5):o7 P N (λp=>p∈[(⟨r,[k0]⟩:Place)]) g o g5:=by
 intro w I T Fs h a bk b1 K Q eJ;have l8:∀ z q n m new,y≠.bY z q n m new:=by rintro z q n m new rfl; cases vG
 have ga:cd g ⟨r,[k0]⟩=some y:=by simp [cd,ax,aj.at,aj.kids,aA]
 obtain ⟨v,cR,hv,eb,dS,put⟩:=h.mj.part ga l8;have oN:v.oneCell'=true:=by
  obtain ⟨u,hu,mu⟩:=h.rel r _ ax;obtain ⟨b,td,h1,al,aS,b7,_⟩:=R.node (z:=0) (n:=0) (mu.h9 (by simp)) (.inr rfl) aA;have:eI w T ⟨r,[k0]⟩=child w u k0:=by
   unfold eI;simp only [hu,walk];cases child w u k0 <;> rfl
  rw [this,aS] at hv;cases hv;exact b7
 obtain ⟨gp,jf,zt,zu⟩:=put (.lit v) c0 (.lit oN λ_ h=>h) (λ_ h=>h.elim) (λ_ h=>h.elim) (λ_ _ _ h=>h.elim);obtain ⟨g1,g4,hz,e8,F0,Gj⟩:=uc v oN;have rb:∀ t c,gp t c->Fs t c/\¬ cR c:=by
  intro t c ae;by_cases aG:t=r
  ·subst aG;rcases (zt c).1 ae with aU | aU
   ·exact aU
   ·exact aU.elim
  ·rw [zu t aG] at ae;exact ⟨ae,λbp=>aG (h.fi t r c ae (dS c bp))⟩
 have FR:=jf.keep hz;refine e8 w I T _ FR a bk b1 K Q λcJ w' aP rR=>?_;obtain ⟨dz,de,I',cB,eO,cp⟩:=aP;obtain ⟨v2,r8,qe,l3,Rz,H4⟩:=eO.mj.part F0 (by simp);have GN:v2=v:=l3.iu.1;subst GN;have FF:∀ c,cR c->¬ I c:=λc ae=>h.aD r c (dS c ae);have vo:∀ c,cR c->c<w.heap.size:=λc ae=>h.j3 r c (dS c ae);have vY:∀ c,cR c->¬ ∃ t,(g1 t≠none/\gp t c):=λc ae ⟨t,_,aU⟩=>(rb t c aU).2 ae;have Ay:∀ t c,cB t c->¬ cR c:=by
  intro t c ae bp;rcases cp.own c ⟨t,ae⟩ with aU | aU
  ·exact vY c bp aU
  ·have:=vo c bp; omega
 have HJ:∀ c,cR c->¬ I' c:=by
  intro c ae hi;rcases cp.new c hi with aU | aU | aU
  ·exact FF c ae aU
  ·exact vY c ae aU
  ·have:=vo c ae; omega
 have Ie:∀ c,cR c->w'.heap[c]?=w.heap[c]?:=λc ae=>cp.fI.block c (vo c ae) (vY c ae);have q8:∀ c,I c->w'.heap[c]?=w.heap[c]?:=λc ae=>cp.fI.block c (h.lt c ae) λ⟨t,_,aU⟩=>h.aD t c (rb t c aU).1 ae;have zz:R w' I' (gr w' cJ.tmps) y v2 cR:=((eb.bP vG).frame q8 cp.more (λ_ _ h=>h) Ie);obtain ⟨I0,FU,FA,FB⟩:=H4 y cR zz (λc ae bp=>(Ay _ c bp ae).elim) (λc ae=>HJ c ae) (λt c _ ae bp=>Ay t c bp ae);have sH:=FU.keep Gj;refine eJ cJ w' ⟨dz,de,I',_,sH,⟨?_,cp.more,λc ae=>?_,λc ae=>?_⟩⟩ rR λfg path aH y' mH Xj=>?_
 ·exact cp.fI.mono λb _ ⟨t,_,aU⟩=>⟨t,(rb t b aU).1⟩
 ·rcases cp.new c ae with aU | ⟨t,_,aU⟩ | aU
  ·exact .inl aU
  ·exact .inr (.inl ⟨t,(rb t c aU).1⟩)
  ·exact .inr (.inr aU)
 ·obtain ⟨t,_,ae⟩:=ae;have:(∃ t,cB t c)\/cR c:=by
   by_cases aG:t=r
   ·subst aG;rcases (FA c).1 ae with ⟨aU,_⟩ | aU
    ·exact .inl ⟨_,aU⟩
    ·exact .inr aU
   ·rw [FB t aG] at ae; exact .inl ⟨t,ae⟩
  rcases this with aU | aU
  ·rcases cp.own c aU with ⟨t,_,gO⟩ | gO
   ·exact .inl ⟨t,(rb t c gO).1⟩
   ·exact .inr gO
  ·exact .inl ⟨r,dS c aU⟩
 ·have aH:(⟨fg,path⟩:Place)∈[(⟨r,[k0]⟩:Place)]:=aH;have aH:=List.mem_singleton.1 aH;cases aH;rw [hv,qe]
end
end Go.Own
namespace Go.Own
open Go
section
variable {α:Type}{P:Program}{N:dW}{g:a7}{ops:Array Oper}{l:List Oper}{K:a7->Prop}{r n:Nat}{t e ty:TypeId}{a b:Operand}{m:Int}{en:cF α}{L:List α}{y y2:α}{k:IntKind}{pos:String}{after:Array Edge}
end
end Go.Own
namespace Go.Own
open Go Go.Proofs Go.Shelf Go.Lib Go.Sort
section
variable {P:Program}{w:World}
class uZ {α:Type}(e:cF α) where
 Ed:α->List Value
 cells:∀ a,e.cells a=(Ed a).map .lit
 one:∀ a,∀ v∈Ed a,v.oneCell'=true
variable {α:Type}{e:cF α}
theorem uZ.len [h:uZ e] (a:α):(h.Ed a).length=e.z:=by
 have:=e.len a;rw [h.cells,List.length_map] at this;exact this
end
end Go.Own
namespace Go.Own
open Go
section
variable {α:Type}{P:Program}{N:dW}{g:a7}{d r:Nat}
theorem h4.tk {o:Oper}{x:Operand}{iF:Array TypeId}{f:FuncId}{res:aj}{en:cF α}{L:List α}{G2:List (Nat × aj)}(bj:o.op=.call { callee:=.value (.func f),args:=#[x],argTypes:=iF }) (aZ:o.dst=some d) (J:Own.iN g [x]=some [.bh en.z ⟨r,[]⟩ L.length])
  (aO:g r=some (ak en L)) (jj:b6 P f [ak en L] [none] res) (bp:du P f=true) [ax:cV res]
  (eD:Trim false (dh g ⟨r,[]⟩ .dead) (get G2) G2) (bb:get G2 d=none) (b1:N.ok d=true) :
  h4 P N g o d (get ((d,res)::G2)):=by
 have mz:∀ x∈cj en L,dn x:=by
  intro x J;obtain ⟨a,_,bk⟩:=List.mem_flatMap.1 J;exact en.bP a x bk
 have gi:(cj en L).take (L.length * en.z)=cj en L:=List.take_of_length_le (by rw [nI]; exact Nat.le_refl _);have vO:fN (dh g ⟨r,[]⟩ .dead) (get G2):=by
  refine ⟨λt x h=>?_,λt x h=>(eD.spec t x h).2.1,λt z q n m new h=>(eD.spec t _ h).2.2 _ _ _ _ _ rfl⟩;obtain ⟨⟨y,h1,_,aS⟩,_⟩:=eD.spec t x h;rw [<- aS rfl]; exact h1
 have vP:fN (get G2) (get G2):=⟨λt x h=>h,λt x h=>(eD.spec t x h).2.1,λt z q n m new h=>(eD.spec t _ h).2.2 _ _ _ _ _ rfl⟩;have qD:get ((d,res)::G2)=fc (get G2) d res:=by
  funext t;rw [tL]
 rw [qD];refine wP.ok (first:=[]) (caps:=[]) (ys:=[.bh en.z ⟨r,[]⟩ L.length]) (tk:=λk=>k == 0) (vw:=false) (outs:=[none]) (g1:=dh g ⟨r,[]⟩ .dead) (g2:=get G2) (g4:=get G2) (l:=[]) (ks:=λ_=>0) (xs0:=[.bh en.z ⟨r,[]⟩ L.length]) (xs1:=[ak en L]) (args:=[ak en L]) (res:=res) bj aZ rfl J
  ⟨bp,by simp,by simp,λk x h=>.inl h,?_,vO,λk x y J aA=>?_,jj,by simpa using ax.bP,λk x h=>?_,λaf p x aa=>by simp at aa,by simp,λi af hi aa _=>by simp at hi,vP⟩ bb b1 uV.refl
 ·have h1:Take (dh g ⟨r,[]⟩ .dead) ((cj en L).take (L.length * en.z)) (cj en L) (dh g ⟨r,[]⟩ .dead):=by rw [gi]; exact .bP mz
  exact .bh (N:=L.length) (by simp [cd,aO,aj.at]) (Nat.le_refl _) h1 (.bP λx J=>by simp at J)
 ·cases k with
  | zero=>simpa using aA
  | succ k=>simp at aA
 ·cases k with
  | zero=>simp at h
  | succ k=>simp at h
end
end Go.Own
namespace Go.Own
open Go Go.Proofs Go.Shelf Go.Lib Go.Sort
section
variable {α:Type} [DecidableEq α]
end
section
variable {α:Type}{e:cF α}{P:Program}{w:World}
variable [DecidableEq α] [Inhabited α]
end
end Go.Own
namespace Go.Proofs
open Go.Shelf Go.RowKit Go.Lib Go.Sort
variable {α:Type} [Inhabited α] [DecidableEq α]
namespace Two
open Go.Own
variable {P:Program}{t:TypeId}
omit [Inhabited α] [DecidableEq α] in
theorem one (f:α->Int):OneCell λx=>Value.int .i64 (f x):=λ_=>rfl
end Two
end Go.Proofs
namespace Go.Own
open Go Go.Proofs Go.Shelf Go.Lib Go.Sort
def q9 (k:IntKind) (m n:Int):Int:=m.fdiv (2 ^ (min n.toNat k.bits))
theorem O.shr {P:Program}{g:a7}{t t2 ty:TypeId}{a b:Operand}{k lz:IntKind}{m n:Int}(J:Rd g a (.lit (.int k m))) (aA:Rd g b (.lit (.int lz n))) (h:decide (0<=n)=true):dI P g (.binOp .shr t a b t2) ty (.lit (.int k (q9 k m n))):=by
 have bf:¬ n<0:=by have:=of_decide_eq_true h; omega
 exact .fl (.bin J.bT aA.bT rfl λw=>by simp [eqGuard,binOp,Op.shift,bf,q9])
section
variable {α:Type}{e:cF α}{P:Program}{w:World}
end
end Go.Own
namespace Go.Own
open Go
section
variable {α:Type}{P:Program}{N:dW}{g:a7}{d r:Nat}
end
end Go.Own
namespace Go.Own
open Go
theorem q {α:Sort _}{a:α}:a=a:=rfl
abbrev aB:ByteArray:={ data:=#[] }
theorem oT {p:Prop} [Decidable p] (h:decide p=true):p:=of_decide_eq_true h
theorem e_ {b:Bool}{g h:a7}{ft s1:Nat}{fE aE:aj}(bf:g ft=some fE) [cV fE] (h1:g s1=some aE) [cV aE]:Trim b g h [(ft,fE),(s1,aE)]:=(.n bf (.n h1 .nil))
theorem dj {b:Bool}{g h:a7}{ft s1 s2:Nat}{fE aE x2:aj}(bf:g ft=some fE) [cV fE] (h1:g s1=some aE) [cV aE] (al:g s2=some x2) [cV x2]:Trim b g h [(ft,fE),(s1,aE),(s2,x2)]:=(.n bf (.n h1 (.n al .nil)))
theorem dQ {b:Bool}{g h:a7}{ft s1 s2 df:Nat}{fE aE x2 a6:aj}(bf:g ft=some fE) [cV fE] (h1:g s1=some aE) [cV aE] (al:g s2=some x2) [cV x2] (aS:g df=some a6) [cV a6]:Trim b g h [(ft,fE),(s1,aE),(s2,x2),(df,a6)]:=(.n bf (.n h1 (.n al (.n aS .nil))))
theorem fb {b:Bool}{g h:a7}{ft s1 s2 df bU:Nat}{fE aE x2 a6 bQ:aj}(bf:g ft=some fE) [cV fE] (h1:g s1=some aE) [cV aE] (al:g s2=some x2) [cV x2] (aS:g df=some a6) [cV a6] (b7:g bU=some bQ) [cV bQ]:Trim b g h [(ft,fE),(s1,aE),(s2,x2),(df,a6),(bU,bQ)]:=(.n bf (.n h1 (.n al (.n aS (.n b7 .nil)))))
theorem fB {b:Bool}{g h:a7}{ft s1 s2 df bU cz:Nat}{fE aE x2 a6 bQ b':aj}(bf:g ft=some fE) [cV fE] (h1:g s1=some aE) [cV aE] (al:g s2=some x2) [cV x2] (aS:g df=some a6) [cV a6] (b7:g bU=some bQ) [cV bQ] (dv:g cz=some b') [cV b']:Trim b g h [(ft,fE),(s1,aE),(s2,x2),(df,a6),(bU,bQ),(cz,b')]:=(.n bf (.n h1 (.n al (.n aS (.n b7 (.n dv .nil))))))
theorem gR {b:Bool}{g h:a7}{ft s1 s2 df bU cz cQ:Nat}{fE aE x2 a6 bQ b' bJ:aj}(bf:g ft=some fE) [cV fE] (h1:g s1=some aE) [cV aE] (al:g s2=some x2) [cV x2] (aS:g df=some a6) [cV a6] (b7:g bU=some bQ) [cV bQ] (dv:g cz=some b') [cV b'] (eC:g cQ=some bJ) [cV bJ]:Trim b g h [(ft,fE),(s1,aE),(s2,x2),(df,a6),(bU,bQ),(cz,b'),(cQ,bJ)]:=(.n bf (.n h1 (.n al (.n aS (.n b7 (.n dv (.n eC .nil)))))))
theorem lD {b:Bool}{g h:a7}{ft s1 s2 df bU cz cQ e4:Nat}{fE aE x2 a6 bQ b' bJ a_:aj}(bf:g ft=some fE) [cV fE] (h1:g s1=some aE) [cV aE] (al:g s2=some x2) [cV x2] (aS:g df=some a6) [cV a6] (b7:g bU=some bQ) [cV bQ] (dv:g cz=some b') [cV b'] (eC:g cQ=some bJ) [cV bJ] (kG:g e4=some a_) [cV a_]:Trim b g h [(ft,fE),(s1,aE),(s2,x2),(df,a6),(bU,bQ),(cz,b'),(cQ,bJ),(e4,a_)]:=(.n bf (.n h1 (.n al (.n aS (.n b7 (.n dv (.n eC (.n kG .nil))))))))
theorem lQ {b:Bool}{g h:a7}{ft s1 s2 df bU cz cQ e4 cT:Nat}{fE aE x2 a6 bQ b' bJ a_ bA:aj}(bf:g ft=some fE) [cV fE] (h1:g s1=some aE) [cV aE] (al:g s2=some x2) [cV x2] (aS:g df=some a6) [cV a6] (b7:g bU=some bQ) [cV bQ] (dv:g cz=some b') [cV b'] (eC:g cQ=some bJ) [cV bJ] (kG:g e4=some a_) [cV a_] (qH:g cT=some bA) [cV bA]:Trim b g h [(ft,fE),(s1,aE),(s2,x2),(df,a6),(bU,bQ),(cz,b'),(cQ,bJ),(e4,a_),(cT,bA)]:=(.n bf (.n h1 (.n al (.n aS (.n b7 (.n dv (.n eC (.n kG (.n qH .nil)))))))))
theorem nM {b:Bool}{g h:a7}{ft s1 s2 df bU cz cQ e4 cT mh:Nat}{fE aE x2 a6 bQ b' bJ a_ bA cn:aj}(bf:g ft=some fE) [cV fE] (h1:g s1=some aE) [cV aE] (al:g s2=some x2) [cV x2] (aS:g df=some a6) [cV a6] (b7:g bU=some bQ) [cV bQ] (dv:g cz=some b') [cV b'] (eC:g cQ=some bJ) [cV bJ] (kG:g e4=some a_) [cV a_] (qH:g cT=some bA) [cV bA] (tN:g mh=some cn) [cV cn]:Trim b g h [(ft,fE),(s1,aE),(s2,x2),(df,a6),(bU,bQ),(cz,b'),(cQ,bJ),(e4,a_),(cT,bA),(mh,cn)]:=(.n bf (.n h1 (.n al (.n aS (.n b7 (.n dv (.n eC (.n kG (.n qH (.n tN .nil))))))))))
theorem Eb {b:Bool}{g h:a7}{ft s1 s2 df bU cz cQ e4 cT mh dC:Nat}{fE aE x2 a6 bQ b' bJ a_ bA cn bS:aj}(bf:g ft=some fE) [cV fE] (h1:g s1=some aE) [cV aE] (al:g s2=some x2) [cV x2] (aS:g df=some a6) [cV a6] (b7:g bU=some bQ) [cV bQ] (dv:g cz=some b') [cV b'] (eC:g cQ=some bJ) [cV bJ] (kG:g e4=some a_) [cV a_] (qH:g cT=some bA) [cV bA] (tN:g mh=some cn) [cV cn] (Q6:g dC=some bS) [cV bS]:Trim b g h [(ft,fE),(s1,aE),(s2,x2),(df,a6),(bU,bQ),(cz,b'),(cQ,bJ),(e4,a_),(cT,bA),(mh,cn),(dC,bS)]:=(.n bf (.n h1 (.n al (.n aS (.n b7 (.n dv (.n eC (.n kG (.n qH (.n tN (.n Q6 .nil)))))))))))
section
variable {P:Program}{N:dW}{ops:Array Oper}{g:a7}{K:a7->Prop}{l:List Oper}{d t:Nat}{ty:TypeId}{pos:String}{after:Array Edge}{v:Value}
theorem nP {G1:List (Nat × aj)}(h:Trim true g (get G1) G1):au P N ops [] g λg'=>kX g' (get G1):=.fin h
theorem bq (h:g t=some (.lit v)) (hk:au P N ops l (fc g d (.lit v)) K) (b1:N.ok d=true:=by rfl) (bp:g d=none:=by rfl):au P N ops (⟨some d,.move (.tmp t),ty,pos,after,none⟩::l) g K:=ag (O.az (.lit h)) hk b1 bp
theorem N2 (h:g t=some (.lit v)) (hk:au P N ops l (fc g d (.lit v)) K) (b1:N.ok d=true:=by rfl) (bp:g d=none:=by rfl):au P N ops (⟨some d,.assign (.tmp t),ty,pos,after,none⟩::l) g K:=ag (O.dK (.lit h)) hk b1 bp
theorem N3 (h:ofConst v=.lit v) (hk:au P N ops l (fc g d (.lit v)) K) (b1:N.ok d=true:=by rfl) (bp:g d=none:=by rfl):au P N ops (⟨some d,.assign (.const v),ty,pos,after,none⟩::l) g K:=ag (O.dK (.k h)) hk b1 bp
end
end Go.Own
namespace Go.Own
open Go
section
variable {α:Type}{g:a7}
end
end Go.Own
namespace Go.Own
open Go
section
variable {α:Type}{P:Program}{N:dW}{g:a7}{d r:Nat}
theorem h4.kQ {o:Oper}{xs:List Operand}{iF:Array TypeId}{f:FuncId}{ys:List aj}{res:aj}{en:cF α}{L:List α}{G2:List (Nat × aj)}(bj:o.op=.call { callee:=.value (.func f),args:=xs.toArray,argTypes:=iF }) (aZ:o.dst=some d) (J:Own.iN g xs=some (.bh en.z ⟨r,[]⟩ L.length::ys))
  (aO:g r=some (ak en L)) (jj:b6 P f (ak en L::ys) (none::ys.map λ_=>none) res) (bp:du P f=true) [ax:cV res] [aP:eZ ys]
  (eD:Trim false (dh g ⟨r,[]⟩ .dead) (get G2) G2) (bb:get G2 d=none) (b1:N.ok d=true) :
  h4 P N g o d (get ((d,res)::G2)):=by
 have mz:∀ x∈cj en L,dn x:=by
  intro x J;obtain ⟨a,_,bk⟩:=List.mem_flatMap.1 J;exact en.bP a x bk
 have gi:(cj en L).take (L.length * en.z)=cj en L:=List.take_of_length_le (by rw [nI]; exact Nat.le_refl _);have vO:fN (dh g ⟨r,[]⟩ .dead) (get G2):=by
  refine ⟨λt x h=>?_,λt x h=>(eD.spec t x h).2.1,λt z q n m new h=>(eD.spec t _ h).2.2 _ _ _ _ _ rfl⟩;obtain ⟨⟨y,h1,_,aS⟩,_⟩:=eD.spec t x h;rw [<- aS rfl]; exact h1
 have vP:fN (get G2) (get G2):=⟨λt x h=>h,λt x h=>(eD.spec t x h).2.1,λt z q n m new h=>(eD.spec t _ h).2.2 _ _ _ _ _ rfl⟩;have qD:get ((d,res)::G2)=fc (get G2) d res:=by
  funext t;rw [tL]
 rw [qD];refine wP.ok (first:=[]) (caps:=[]) (ys:=.bh en.z ⟨r,[]⟩ L.length::ys) (tk:=λ_=>true) (vw:=false) (outs:=none::ys.map λ_=>none) (g1:=dh g ⟨r,[]⟩ .dead) (g2:=get G2) (g4:=get G2) (l:=[]) (ks:=λ_=>0) (xs0:=.bh en.z ⟨r,[]⟩ L.length::ys) (xs1:=ak en L::ys) (args:=ak en L::ys) (res:=res) bj aZ rfl (by simpa using J)
  ⟨bp,by simp,by simp,λk x h=>.inl (by simpa using h),?_,vO,λk x y J aA=>by simpa using aA,jj,by simpa using ax.bP,λk x h=>?_,λaf p x aa=>by simp at aa,by simp,λi af hi aa _=>by simp at hi,vP⟩ bb b1 uV.refl
 ·have h1:Take (dh g ⟨r,[]⟩ .dead) ((cj en L).take (L.length * en.z)) (cj en L) (dh g ⟨r,[]⟩ .dead):=by rw [gi]; exact .bP mz
  exact .bh (N:=L.length) (by simp [cd,aO,aj.at]) (Nat.le_refl _) h1 (.bP aP.bP)
 ·cases k with
  | zero=>simp at h
  | succ k =>
   simp only [List.getElem?_cons_succ,List.getElem?_map] at h;cases bk:ys[k]? <;> rw [bk] at h <;> cases h
end
end Go.Own
namespace Go.Own
open Go
class u1 (x:aj):Prop where pl:o9 x
class B0 (cs:List aj):Prop where pl:∀ x∈cs,o9 x
instance {v:Value}:u1 (.lit v):=⟨.lit⟩
instance:u1 .aF:=⟨.aF⟩
instance {z n:Nat}{cs:List aj} [h:eZ cs]:u1 (.aD z n cs):=⟨.aD h.bP⟩
instance {α:Type}{e:cF α}{L:List α}:u1 (ai e L):=⟨.aD (eZ.bP (cs:=cj e L))⟩
instance {cs:List aj} [h:B0 cs]:u1 (.agg cs):=⟨.agg h.pl⟩
instance:B0 []:=⟨by simp⟩
instance {x:aj}{cs:List aj} [h:u1 x] [aU:B0 cs]:B0 (x::cs):=⟨λy aA=>by
 rcases List.mem_cons.1 aA with rfl | aA
 ·exact h.pl
 ·exact aU.pl y aA⟩
class BY (G:List (Nat × aj)):Prop where bP:∀ t x,get G t=some x->dn x
instance:BY []:=⟨λt x h=>by cases h⟩
instance {s:Nat}{x:aj}{G:List (Nat × aj)} [h:cV x] [aU:BY G]:BY ((s,x)::G):=⟨λt y aA=>by
 simp only [get] at aA
 split at aA
 ·cases aA; exact h.bP
 ·exact aU.bP t y aA⟩
class wZ (acc:Acc):Prop where bP:∀ e∈acc,∀ x,e.2.2=some x->dn x
instance:wZ []:=⟨by simp⟩
instance {k d:Nat}{x:aj}{acc:Acc} [h:cV x] [aU:wZ acc]:wZ ((k,d,some x)::acc):=⟨λe he y aA=>by
 rcases List.mem_cons.1 he with rfl | he
 ·cases aA; exact h.bP
 ·exact aU.bP e he y aA⟩
instance {k d:Nat}{acc:Acc} [aU:wZ acc]:wZ ((k,d,none)::acc):=⟨λe he y aA=>by
 rcases List.mem_cons.1 he with rfl | he
 ·cases aA
 ·exact aU.bP e he y aA⟩
theorem Pj {G:List (Nat × aj)}{A:Nat->Bool}{acc:Acc} [h:BY G] [aU:wZ acc]:Eo (eu (get G) A acc):=by
 have key:∀ t x,eu (get G) A acc t=some x->dn x:=λt x J=>by
  rcases tf J with ⟨e,he,_,_,al⟩ | ⟨_,al⟩
  ·exact aU.bP e he x al
  ·exact h.bP t x al
 exact ⟨λt x J=>.bP (key t x J),λt z q n m new J=>by cases key t _ J⟩
end Go.Own
namespace Go.Own
open Go Go.MapKept Go.ChangeMaps
section
variable {P:Program}{w:World}{I:bu}{T:Array Value}{g g2:a7}{Fs:Nat->bu}
end
end Go.Own
namespace Go.Own
open Go Go.MapKept Go.ChangeMaps Go.WideElems
open Go.Maps (Keyed)
set_option linter.unusedVariables false
variable {kA lS:Type}{P:Program}{k e:TypeId}
abbrev w0:Value->Option (DataW Value × List MemPlace):=λv=>some (.held v,[])
def oi [DecidableEq kA]:List (kA × lS)->kA->Option lS
 | [],_=>none
 | p::m,x=>if p.1=x then some p.2 else oi m x
def s5 [DecidableEq kA] (ok:kA->Bool) (z:lS) (m:List (kA × lS)) (x:kA):Option lS:=if ok x then some ((oi m x).getD z) else none
def Ar (ok:kA->Bool) (m:List (kA × lS)) (x:kA) (y:lS):Option (List (kA × lS)):=if ok x&&decide (m.length<=lim) then some ((x,y)::m) else none
structure BV (P:Program) (k:TypeId) (kA:Type) where
 pI:kA->Value
 vQ:kA->Lit
 Hs:kA->aj
 ok:kA->Bool
 keyed:Keyed P k
 key:∀ x,ok x=true->keyOf P k (pI x)=some (vQ x)
 inj:∀ x y,vQ x=vQ y->x=y
 Cb:∀ (x:kA) (w:World) (I:bu) (ρ:aj->Value->Prop) (v:Value),R w I ρ (Hs x) v c0->v=pI x
structure BW (P:Program) (e:TypeId) (lS:Type) where
 om:lS->Value
 Ec:lS->aj
 z:lS
 zero:∀ w,(zeroValue e).run P w=.ok (om z) w
 one:∀ x,(om x).oneCell'=true
 Cb:∀ (x:lS) (w:World) (I:bu) (ρ:aj->Value->Prop) (v:Value),R w I ρ (Ec x) v c0->v=om x
 va:∀ (x:lS) (w:World) (I:bu) (ρ:aj->Value->Prop),R w I ρ (Ec x) (om x) c0
def wv (P:Program) (k:TypeId) (es:Array MapEntry):List (Lit × DataW Value):=(es.toList.map (rg P k w0)).foldr DataW.insert []
def sa [DecidableEq kA] (K:BV P k kA) (V:BW P e lS) (m:List (kA × lS)):Array MapEntry->Nat->Prop:=λes c=>Fit P k w0 es c/\es.size<=m.length/\∀ x Eh,(DataW.map (wv P k es)).atKey (K.vQ x) Eh=match oi m x with | some y=>.held (V.om y) | none=>Eh
variable [DecidableEq kA] {K:BV P k kA}{V:BW P e lS}{m cb:List (kA × lS)}{x:kA}{y:lS}{t:TypeId}
theorem sa.nil:sa K V [] #[] 0:=⟨⟨by simp,stamped_empty 0,by simp⟩,Nat.le_refl _,λx Eh=>rfl⟩
theorem sa.look (ok:Bool) (e8:K.ok x=true) (aG:P.underlying t=some (.map k e)) (w:World) (b:Nat) (es:Array MapEntry) (c:Nat) (aJ:w.heap[b]?=some (.map es c)) (h:sa K V m es c) :
  (Instr.lookup t (.map (some b)) (K.pI x) ok).run P w=.ok (if ok then .tuple #[V.om ((oi m x).getD V.z),.bool (oi m x).isSome] else V.om ((oi m x).getD V.z)) w:=by
 obtain ⟨F,_,ga⟩:=h;have ga:=ga x;rcases Maps.fit_look ok K.keyed aG (V.zero w) aJ F (K.key x e8) with ⟨iq,_,al⟩ | ⟨j_,y,_,_,iq,aA,al,_⟩
 ·have:oi m x=none:=by
   cases bb:oi m x with
   | none=>rfl
   | some y =>
    have h1:=ga .nil;rw [bb] at h1;have aS:=al .nil;unfold wv at h1;rw [h1] at aS; cases aS
  rw [iq,this]; rfl
 ·cases aA;cases bb:oi m x with
  | none =>
   have h1:=ga .nil;rw [bb] at h1;have aS:=al .nil;unfold wv at h1;rw [h1] at aS; cases aS
  | some y =>
   have h1:=ga .nil;rw [bb] at h1;have aS:=al .nil;unfold wv at h1;rw [h1] at aS;have b7:j_.val=V.om y:=by simpa using aS.symm
   rw [iq,b7]; rfl
theorem sa.put (bf:Ar K.ok m x y=some cb) (aG:P.underlying t=some (.map k e)) (w:World) (b:Nat) (es:Array MapEntry) (c:Nat) (aJ:w.heap[b]?=some (.map es c)) (h:sa K V m es c) :
  ∃ vk u7,(Instr.mapUpdate t (.map (some b)) (K.pI x) (V.om y)).run P w=.ok () (setBlock w b (.map vk u7))/\sa K V cb vk u7:=by
 unfold Ar at bf
 split at bf
 ·rename_i ae;cases bf;simp only [Bool.and_eq_true,decide_eq_true_eq] at ae;obtain ⟨e8,aq⟩:=ae;obtain ⟨F,aO,ga⟩:=h;have Lv:=K.key x e8;obtain ⟨vk,u7,iq,gg,na,_⟩:=Maps.fit_store (R':=w0) K.keyed aG aJ F (by have:maxLen=9223372036854775807:=rfl; simp only [lim] at aq; omega) (λ_ _ _ _ bH=>bH) Lv (rfl:w0 (V.om y)=some (.held (V.om y),[]));refine ⟨vk,u7,iq,gg,?_,λx' Eh=>?_⟩
  ·have dz:vk.size=((vk.toList.map (rg P k w0)).foldr DataW.insert []).length:=by rw [length_sorted]; simp
   rw [dz,na];unfold putKey;rw [length_insert];have de:=List.length_filter_le (notKey (K.vQ x)) ((es.toList.map (rg P k w0)).foldr DataW.insert []);rw [length_sorted] at de;simp at de ⊢;omega
  ·have j':(DataW.map (wv P k vk))=(DataW.map (wv P k es)).put (K.vQ x) (.held (V.om y)):=by
    rw [DataW.put_eq]; unfold wv; rw [na]
   rw [j'];by_cases J:x=x'
   ·subst J;rw [Maps.atKey_put_same ⟨_,rfl⟩ (K.keyed.key Lv)];simp [oi]
   ·rw [Maps.atKey_put_other (λe=>J (K.inj _ _ e).symm),ga];simp [oi,J]
 ·cases bf
section
variable {N:dW}{g:a7}{a b c:Operand}{p:Place}{ty:TypeId}
instance {q:Array MapEntry->Nat->Prop}:cV (.mp q):=⟨.mp⟩
instance {q:Array MapEntry->Nat->Prop}:cV (.imp q):=⟨.imp⟩
instance {q:Array MapEntry->Nat->Prop}:qw (.mp q):=⟨.mp⟩
theorem O.Am {r:lS}{X Y:aj}(hm:Rd g a (.imp (sa K V m))) (J:Rd g b Y) (R0:K.Hs x=Y) (aG:P.underlying t=some (.map k e)) (h:s5 K.ok V.z m x=some r) (FW:V.Ec r=X):dI P g (.lookup t a b false) ty X:=by
 subst FW R0;unfold s5 at h
 split at h
 ·rename_i e8;cases h;exact .fl (.Am hm.bT J.bT (K.Cb x) (V.va _) λw b es c aJ bW=>sa.look false e8 aG w b es c aJ bW)
 ·cases h
end
def q2 (n:Int):Bool:=decide (-9223372036854775808<=n/\n<9223372036854775808)
def NY (hk:P.underlying k=some (.int .i64)):BV P k Int where
 pI n:=.int .i64 n
 vQ n:=.int .i64 n
 Hs n:=j n
 ok:=q2
 keyed:=Maps.int_keyed hk
 key n h:=Maps.keyOf_int_mk hk (by
  unfold q2 at h;have:=of_decide_eq_true h;unfold Lit.wf;rw [Bool.and_eq_true];refine ⟨decide_eq_true ?_,decide_eq_true ?_⟩
  ·show (-9223372036854775808:Int)<=n; omega
  ·show n<=(9223372036854775807:Int); omega)
 inj x y h:=by cases h; rfl
 Cb x w I ρ v h:=h.iu.1
def NZ (bH:(P.info? e).bind (·.zero)=some (.int .i64 0)):BW P e Int where
 om n:=.int .i64 n
 Ec n:=j n
 z:=0
 zero w:=EK bH w
 one _:=rfl
 Cb x w I ρ v h:=h.iu.1
 va x w I ρ:=.lit rfl λ_ h=>h
end Go.Own
namespace Go.Own
open Go
section
variable {α:Type}{P:Program}{N:dW}{g:a7}{d r:Nat}{ty t t2 e:TypeId}{a b:Operand}{k lz:IntKind}{m n:Int}{p:Place}
def ru (k:IntKind) (m n:Int):Int:=k.wrap ((BitVec.ofInt k.bits m &&& BitVec.ofInt k.bits n).toNat)
theorem O.and' (J:Rd g a (.lit (.int k m))) (aA:Rd g b (.lit (.int k n))):dI P g (.binOp .and t a b t2) ty (.lit (.int k (ru k m n))) :=
 .fl (.bin J.bT aA.bT rfl λw=>by simp [eqGuard,binOp,Op.intBits,ru])
theorem W.Pf {x y:Code}{G:List (Nat × aj)}{Φ:Exit->a7->Prop}(h:W P N y (get G) Φ):W P N (.cond (.const (.bool false)) x y) (get G) Φ:=W.E' rfl h
def um (L:List α) (m:Int):Option Unit:=if 0<=m/\m<=L.length then some () else none
theorem Ud {L:List α}{u:Unit}(h:um L m=some u):m.toNat<=L.length:=by
 unfold um at h
 split at h
 ·omega
 ·cases h
instance:uZ aI:=⟨λx=>[.int .i64 x],λ_=>rfl,λx v hv=>by rw [List.mem_singleton.1 hv]; rfl⟩
theorem O.Ir {en:cF α}{L:List α}{u:Unit}(J:Rd g a (.bh en.z p L.length)) (aq:Rd g b (.lit (.int k m))) (aH:cd g p=some (ak en L)) (aG:fu P t e en.z=true) (h:um L m=some u):dI P g (.slice t a (some b) none none) ty (.sub en.z p m.toNat (L.length - m.toNat)):=by
 unfold um at h
 split at h
 ·rename_i ae;obtain ⟨i,rfl⟩:=Int.eq_ofNat_of_zero_le ae.1;exact .fl (.D3 J.bT ⟨_,aq.bT⟩ rfl aG (by omega) (Nat.le_refl _) ⟨_,_,aH,by omega⟩)
 ·cases h
theorem O.Vn {en:cF α}{L:List α}{u:Unit}(J:Rd g a (.bh en.z p L.length)) (ca:Rd g b (.lit (.int k m))) (aH:cd g p=some (ak en L)) (aG:fu P t e en.z=true) (h:um L m=some u):dI P g (.slice t a none (some b) none) ty (.bh en.z p m.toNat):=by
 unfold um at h
 split at h
 ·rename_i ae;obtain ⟨i,rfl⟩:=Int.eq_ofNat_of_zero_le ae.1;exact .fl (.D4 J.bT rfl ⟨_,ca.bT⟩ aG (by omega) (.inl ⟨_,_,aH,by omega⟩))
 ·cases h
def Ct (lo nd:Nat) (L S:List α):Option (List α):=if 0<min S.length nd/\lo+nd<=L.length then some (L.take lo++S.take (min S.length nd)++L.drop (lo+min S.length nd)) else none
def Ap (e:cF α) [h:uZ e] (L:List α):List Value:=L.flatMap h.Ed
theorem HC (e:cF α) [h:uZ e] (L:List α):cj e L=(Ap e L).map .lit:=by
 induction L with
 | nil=>rfl
 | cons x L aR =>
  have:cj e (x::L)=e.cells x++cj e L:=by simp [cj]
  rw [this,aR,h.cells];simp [Ap]
theorem Ew.aD {en:cF α}{S:List α}:Src g (ai en S) en.z S.length (cj en S):=.aD
theorem Ew.bh {en:cF α} [uZ en] {L:List α}{q:Place}{n:Nat}(bW:cd g q=some (ak en L)) (aP:n<=L.length):Src g (.bh en.z q n) en.z (L.take n).length (cj en (L.take n)):=by
 have h1:(L.take n).length=n:=by rw [List.length_take]; omega
 have al:cj en (L.take n)=(((cj en L).take (n * en.z)).mapIdx λi x=>ig 0 (q.push i) x):=by
  rw [yp,HC];apply List.ext_getElem?;intro af;rw [List.getElem?_mapIdx];cases aa:((Ap en (L.take n)).map aj.lit)[af]? with
  | none=>rfl
  | some y =>
   obtain ⟨v,_,rfl⟩:=List.mem_map.1 (List.mem_of_getElem? aa);rfl
 rw [h1,al];exact .bh bW aP
theorem Vp {z:Nat}(h:fu P t e z=true):(P.info? e).map (·.size)=some z:=by
 unfold fu at h;cases hu:P.underlying t with
 | none=>simp [hu] at h
 | some d =>
  cases hi:P.info? e with
  | none=>cases d <;> simp [hu,hi] at h
  | some i=>cases d <;> simp [hu,hi] at h; simp [h]
theorem cc.b_ {o:Oper}{en:cF α} [aq:uZ en] {L S L':List α}{lo nd:Nat}{IK jJ:aj}{G2:List (Nat × aj)}(bj:o.op=.call { callee:=.builtin .copy,args:=#[a,b],argTypes:=#[t,t2] }) (aZ:o.dst=some d) (bk:bT g a=some IK) (T0:IK=.sub en.z ⟨r,[]⟩ lo nd\/(IK=.bh en.z ⟨r,[]⟩ nd/\lo=0)) (aJ:bT g b=some jJ)
  (qS:Src g jJ en.z S.length (cj en S)) (aO:g r=some (ak en L)) (xQ:en.z=1) (aG:fu P t e 1=true) (h:Ct lo nd L S=some L') (mD:(get G2 r).isSome=true) (eD:lj g (get G2) r (ak en L') G2) (tY:get G2 d=none) (b1:N.ok d=true) :
  cc P N g o (get ((d,j ((min S.length nd:Nat):Int))::G2)):=by
 unfold Ct at h;by_cases ae:0<min S.length nd/\lo+nd<=L.length
 case neg=>rw [if_neg ae] at h; cases h
 rw [if_pos ae] at h;obtain ⟨xF,Xa⟩:=ae;cases h;generalize hk:min S.length nd=k at *;have W':k<=S.length:=by omega
 have Xb:k<=nd:=by omega
 refine .Na λw I T Fs h cJ CU RN K Q CS=>?_;obtain ⟨hu,he,gy⟩:=pS (w:=w) aG;have aH:cd g ⟨r,[]⟩=some (ak en L):=by simp [cd,aO,aj.at]
 have K6:=la h bk CU;obtain ⟨v0,cR,jE,eb,dS⟩:=h.part aH (by simp);obtain ⟨a0,Wq,rfl,k5,hlen,qb,rP⟩:=eb.mL;have RJ:0<L.length:=by omega
 cases a0 with
 | none=>have:=rP RJ; simp at this
 | some Jc =>
 obtain ⟨zQ,zR⟩:=qb Jc rfl;obtain ⟨g0,XA,XC⟩:=Jc;simp only at zQ zR;subst zQ zR;have n0:cR g0:=eb.pL g0 rfl
 -- the target
 have F9:∃ cap,cJ.eval a=.slice (some ⟨g0,lo,none⟩) nd cap:=by
  rcases T0 with rfl | ⟨rfl,rfl⟩
  ·obtain ⟨⟨kY,tr,OX,ar,c1,h1,al,_,_,dv⟩,_⟩:=K6.vJ;rw [h1] at jE;cases jE;obtain ⟨ad,dz,de⟩:=dv (by omega);cases dz;rw [al,de,xQ];exact ⟨c1,by simp⟩
  ·obtain ⟨⟨kY,tr,OX,h1,al,_⟩,_⟩:=K6.mI;rw [h1] at jE;cases jE;exact ⟨_,al⟩
 obtain ⟨Qp,F9⟩:=F9
 -- the source
 obtain ⟨Bp,Vh,news,sS,Gz,z6,lI,hG,hd,bm⟩:=qS.sound h (la h aJ CU);rw [xQ,Nat.mul_one] at Gz;cases Bp with
 | none=>have:=z6 (by omega) (by omega); simp at this
 | some M7 =>
 have Xk:news=Ap en S:=by
  rw [HC,List.length_map] at hG;apply List.ext_getElem hG.symm;intro af h1 al;have:=(bm af (.lit (Ap en S)[af]) news[af] (by rw [HC,List.getElem?_map,List.getElem?_eq_getElem al]; rfl) (List.getElem?_eq_getElem h1)).iu.1;exact this
 -- the block
 cases eb with
 | ref J=>simp [aj.isRef] at J
 | @own _ _ _ _ cY us bR _ oJ ic h1 ax n1 kc aQ =>
 obtain ⟨mE,ca⟩:=oJ;rcases ca with ⟨ca,_⟩ | ⟨iW,cap,cur,ca,oX,fR,uF,r0,uG,s9⟩
 ·cases ca
 cases ca;have Lf:L.length<=cur.size:=by
  have tN:(cur.toList.take (L.length * en.z)).length=L.length * en.z:=by rw [s9,mE]
  rw [List.length_take,xQ,Nat.mul_one,Array.length_toList] at tN;rw [xQ] at uG;omega
 have CX:(news.take k).length=k:=by rw [List.length_take]; omega
 have iq:(execOp cJ.eval o).run P w=.ok (.value (goInt k)) (w.setRow g0 (fM cur.toList lo (news.take k)).toArray):=by
  have qH:=run_copy_row (P:=P) w t t2 o.type e g0 lo nd Qp M7 S.length Vh cur cY (news.take k) hu (Vp aG) fR (by rw [CX]; exact hk.symm) (λaf v aa=>by
   rw [List.getElem?_take] at aa
   split at aa
   ·exact lI M7 rfl af v aa
   ·cases aa) (by rw [CX]; omega) (λv hv=>by
   obtain ⟨af,aa⟩:=List.getElem?_of_mem (List.mem_of_mem_take hv);exact hd af v aa)
  rw [CX] at qH;have qD:(cur.toList.take lo++news.take k++cur.toList.drop (lo+k))=fM cur.toList lo (news.take k):=by unfold fM; rw [CX]
  rw [qD] at qH;simp [execOp,bj,resolve,invoke,F9,sS,builtin,qH]
 -- the state
 have Ta:∀ (af:Nat) (x:aj) (u:Value),((cj en S).take k)[af]?=some x->(news.take k)[af]?=some u->R w I (gr w T) x u c0:=λaf x u J hu=>by
  rw [List.getElem?_take] at J hu
  split at J
  ·rename_i aa;rw [if_pos aa] at hu;exact (bm af x u J hu).frame (λ_ _=>rfl) (λ_ h=>h) (λ_ _ h=>h.1) λ_ _=>rfl
  ·cases J
 have hH:Hand w I (gr w T) Fs ((cj en S).take k) (news.take k) (λ_=>c0) :=
  ⟨by rw [List.length_take,List.length_take,hG],Ta,λ_ _ _ _ _ h=>h.elim,λ_ _ _ _ h=>h.elim,λ_ _ _ h=>h.elim⟩
 have Le:((cj en S).take k).length=k:=by rw [List.length_take,hG]; omega
 have RI:(cj en L).length=L.length:=by rw [nI,xQ,Nat.mul_one]
 have qQ:(ak en L).fM lo ((cj en S).take k)=ak en (L.take lo++S.take k++L.drop (lo+k)):=by
  show aj.own en.z L.length (fM (cj en L) lo ((cj en S).take k))=_;have dz:fM (cj en L) lo ((cj en S).take k)=cj en (L.take lo++S.take k++L.drop (lo+k)):=by
   unfold fM;rw [Le,wo,wo];have jW:=yp en L lo;have DQ:=yp en S k;have Bk:=Bo en L (lo+k);rw [xQ,Nat.mul_one] at jW DQ Bk;rw [jW,DQ,Bk]
  unfold ak;rw [dz];congr 1;simp; omega
 have S5:∀ (af:Nat) (u:Value),(news.take k)[af]?=some u->u.oneCell'=true:=λaf u hu=>by
  rw [List.getElem?_take] at hu
  split at hu
  ·exact hd af u hu
  ·cases hu
 have c1:∀ t x,get G2 t=some x->dh g ⟨r,[]⟩ ((ak en L).fM lo ((cj en S).take k)) t=some x:=λt x J=>by
  rw [qQ];rcases eD.spec t x J with ⟨h1,al,_⟩ | ⟨h1,al,_⟩
  ·rw [ta h1]; exact al
  ·subst h1 al; simp [dh,aO,aj.setAt]
 have c2:∀ t x,get G2 t=some x->∀ y,g t=some y->kk (λq=>hq g q/\Clear ⟨r,[]⟩ lo ((cj en S).take k).length q/\hq (get G2) q) y:=λt x J y aA=>by
  rcases eD.spec t x J with ⟨h1,al,aS⟩ | ⟨h1,al,aS⟩
  ·rw [al] at aA; cases aA;rcases aS with aS | ⟨_,c2,QC⟩
   ·exact aS.H8
   ·cases QC
  ·subst h1; rw [aO] at aA; cases aA; exact .bP (.own (oc en L))
 have k1:∀ t z q n m new,get G2 t≠some (.bY z q n m new):=λt z q n m new J=>by
  rcases eD.spec t _ J with ⟨_,_,aS | ⟨aS,_⟩⟩ | ⟨_,_,aS⟩
  ·exact aS.fZ _ _ _ _ _ rfl
  ·exact aS.fZ _ _ _ _ _ rfl
  ·cases aS
 obtain ⟨jd,im,gT⟩:=h.mj.store (g2:=get G2) aH (.inl rfl) (k:=lo) (cs':=(cj en S).take k) (by rw [Le,RI]; omega) hH (λx J=>oc en S x (List.mem_of_mem_take J)) S5 c1 c2 k1 (by intro e; rw [e] at mD; cases mD) jE rfl fR;have na:=im.s7 (d:=d) (x:=j (k:Int)) (v:=goInt k) (F:=c0) tY (by rw [<- CU,RN]; exact dW.lt b1) (.tree (.lit rfl λ_ h=>h)) (λ_ _ h=>h.elim) (λ_ h=>h.elim) (by rintro z p n m new e; cases e);unfold Oper.wp Oper.upon;simp only [iq];have qD:get ((d,j (k:Int))::G2)=fc (get G2) d (j (k:Int)):=by
  funext t;rw [tL]
 rw [<- qD] at na;have F4:∃ t,Fs t g0:=⟨_,dS g0 n0⟩;refine CS _ _ ⟨by rw [aZ]; rfl,by rw [aZ]; exact h5.put b1 _ _,I,_,by rw [aZ]; simpa [Act.put,CU] using na,⟨⟨rfl,rfl,rfl,by simp,λc _ ae=>setRow_other w g0 c _ (λe=>ae (e ▸ F4)),λa _=>Fv w g0 _ a,Nat.le_refl _⟩,λ_ h=>h,λ_ h=>.inl h,λc ae=>?_⟩⟩ λt aG=>by rw [aZ]; simp only [Act.put]; rw [Array.getElem?_setIfInBounds_ne]; rintro rfl; exact aG aZ
 obtain ⟨t,ae⟩:=ae;simp only [te] at ae
 split at ae
 ·exact ae.elim
 ·rcases gT t c ae with gO | ⟨_,_,gO⟩
  ·exact .inl ⟨t,gO⟩
  ·exact gO.elim
end
end Go.Own
namespace Go.Own
open Go
def DV (eR:List Nat) (o:Oper):Oper:=⟨o.dst,o.op,o.type,o.pos,o.after.map λe=>⟨eR.idxOf e.on,e.ground⟩,o.guard.map λp=>(eR.idxOf p.1,p.2)⟩
def kM (eR:List Nat) (l:List Oper):List Oper:=eR.map λk=>DV eR (l.getD k default)
def HR (eR:List Nat) (n:Nat):Bool:=Nat.beq eR.length n&&(List.range n).all λk=>eR.contains k&&Nat.blt (eR.getD k n) n&&Nat.beq (eR.idxOf (eR.getD k n)) k
structure Perm (eR:List Nat) (n:Nat):Prop where
 len:eR.length=n
 mem:∀ k,k<n->eR.idxOf k<n/\eR.getD (eR.idxOf k) n=k
 lt:∀ af,af<n->eR.getD af n<n/\eR.idxOf (eR.getD af n)=af
theorem UR {eR:List Nat}{n:Nat}(h:HR eR n=true):Perm eR n:=by
 unfold HR at h;simp only [Bool.and_eq_true,Nat.beq_eq,List.all_eq_true,List.mem_range,Nat.blt_eq] at h;obtain ⟨aq,hs⟩:=h;refine ⟨aq,λk hk=>?_,λaf aa=>⟨(hs af aa).1.2,(hs af aa).2⟩⟩;have hm:k∈eR:=by have:=(hs k hk).1.1; simpa using this
 have h1:=List.idxOf_lt_length_iff.2 hm;refine ⟨by omega,?_⟩;rw [List.getD_eq_getElem?_getD,List.getElem?_eq_getElem h1,List.getElem_idxOf];rfl
section
variable {P:Program}{Q:Exit->Act->World->Prop}{eR:List Nat}{l:List Oper}
theorem HS (jF:Perm eR l.length) {af:Nat}(aa:af<l.length):(kM eR l).toArray[af]?=some (DV eR (l.getD (eR.getD af l.length) default))/\l.toArray[eR.getD af l.length]?=some (l.getD (eR.getD af l.length) default):=by
 have h1:af<eR.length:=by rw [jF.len]; exact aa
 have al:=(jF.lt af aa).1;constructor
 ·simp only [kM,List.getElem?_toArray,List.getElem?_map,List.getD_eq_getElem?_getD,List.getElem?_eq_getElem h1,Option.map_some,Option.getD_some]
 ·rw [List.getElem?_toArray,List.getD_eq_getElem?_getD (l:=l),List.getElem?_eq_getElem al]; rfl
theorem ME (jF:Perm eR l.length) {A B:Array Bool}(ej:A.size=l.length) (iC:B.size=l.length) (p8:∀ af,af<l.length->B.getD af true=A.getD (eR.getD af l.length) true) {af:Nat}(aa:af<l.length) :
  eR.getD af l.length∈Region.ready .any l.toArray A↔af∈Region.ready .any (kM eR l).toArray B:=by
 obtain ⟨h1,al⟩:=HS jF aa;have Nx:∀ {C:Array Bool}{k:Nat},k<C.size->C.getD k false=C.getD k true:=λ{C k} h=>by simp [Array.getD,h]
 have gone:∀ {C:Array Bool}{k:Nat},¬ k<C.size->C.getD k false=false:=λ{C k} h=>by simp [Array.getD,h]
 have Kg:∀ m,A.getD m false=true↔B.getD (eR.idxOf m) false=true:=λm=>by
  by_cases hm:m<l.length
  ·obtain ⟨aS,b7⟩:=jF.mem m hm;rw [Nx (by omega),Nx (by omega),p8 _ aS,b7]
  ·have dv:¬ eR.idxOf m<l.length:=λh=>by
    have eC:=List.idxOf_lt_length_iff.1 (by rw [jF.len]; exact h);obtain ⟨i,hi,e⟩:=List.mem_iff_getElem.1 eC;have:=(jF.lt i (by rw [<- jF.len]; exact hi)).1;rw [List.getD_eq_getElem?_getD,List.getElem?_eq_getElem hi] at this;simp only [Option.getD_some] at this;omega
   rw [gone (by omega),gone (by omega)]
 rw [mem_ready,mem_ready,p8 af aa];constructor
 ·rintro ⟨a,o,bj,h⟩;rw [al] at bj;cases bj;refine ⟨a,_,h1,λe he aJ=>?_⟩;obtain ⟨j_,SB,rfl⟩:=Array.mem_map.1 he;exact (Kg _).1 (h j_ SB aJ)
 ·rintro ⟨a,o,bj,h⟩;rw [h1] at bj;cases bj;refine ⟨a,_,al,λe he aJ=>?_⟩;exact (Kg _).2 (h ⟨eR.idxOf e.on,e.ground⟩ (Array.mem_map.2 ⟨e,he,rfl⟩) aJ)
theorem UT (jF:Perm eR l.length) (o:Oper) (T:Array Value):Region.wanted (DV eR o) (yielded (kM eR l).toArray T)=Region.wanted o (yielded l.toArray T):=by
 unfold Region.wanted DV;cases bb:o.guard with
 | none=>rfl
 | some p =>
  obtain ⟨m,b⟩:=p;simp only [Option.map_some];have:yielded (kM eR l).toArray T (eR.idxOf m)=yielded l.toArray T m:=by
   unfold yielded;by_cases hm:m<l.length
   ·obtain ⟨aS,b7⟩:=jF.mem m hm;obtain ⟨h1,al⟩:=HS jF aS;rw [b7] at h1 al;rw [h1,al];rfl
   ·have dv:¬ eR.idxOf m<l.length:=λh=>by
     have eC:=List.idxOf_lt_length_iff.1 (by rw [jF.len]; exact h);obtain ⟨i,hi,e⟩:=List.mem_iff_getElem.1 eC;have:=(jF.lt i (by rw [<- jF.len]; exact hi)).1;rw [List.getD_eq_getElem?_getD,List.getElem?_eq_getElem hi] at this;simp only [Option.getD_some] at this;omega
    have dz:(kM eR l).toArray[eR.idxOf m]?=none:=by
     rw [List.getElem?_toArray]; exact List.getElem?_eq_none (by simp [kM,jF.len]; omega)
    have de:l.toArray[m]?=none:=by rw [List.getElem?_toArray]; exact List.getElem?_eq_none (by omega)
    rw [dz,de]
  rw [this]
theorem US (jF:Perm eR l.length):∀ (fuel:Nat) (A B:Array Bool) (a:Act) (w:World),A.size=l.length->B.size=l.length->(∀ af,af<l.length->B.getD af true=A.getD (eR.getD af l.length) true) ->
  wpAny P .any (kM eR l).toArray Q fuel B a w->wpAny P .any l.toArray Q fuel A a w:=by
 have lift:∀ {A B:Array Bool},A.size=l.length->B.size=l.length->(∀ af,af<l.length->B.getD af true=A.getD (eR.getD af l.length) true)->∀ k,k∈Region.ready .any l.toArray A->∃ af,af<l.length/\eR.getD af l.length=k/\af∈Region.ready .any (kM eR l).toArray B:=λ{A B} ej iC p8 k hk=>by
  have ec:k<l.length:=by
   obtain ⟨_,o,bj,_⟩:=mem_ready.1 hk;have:=(Array.getElem?_eq_some_iff.1 bj).1;simpa using this
  obtain ⟨aS,b7⟩:=jF.mem k ec;exact ⟨_,aS,b7,(ME jF ej iC p8 aS).1 (by rw [b7]; exact hk)⟩
 have nil:∀ {A B:Array Bool},A.size=l.length->B.size=l.length->(∀ af,af<l.length->B.getD af true=A.getD (eR.getD af l.length) true)->Region.ready .any l.toArray A=[]->Region.ready .any (kM eR l).toArray B=[]:=λ{A B} ej iC p8 h=>by
  cases ax:Region.ready .any (kM eR l).toArray B with
  | nil=>rfl
  | cons af r =>
   have aa:af∈Region.ready .any (kM eR l).toArray B:=by rw [ax]; simp
   have fp:af<l.length:=by
    obtain ⟨_,o,bj,_⟩:=mem_ready.1 aa;have:=(Array.getElem?_eq_some_iff.1 bj).1;simpa [kM,jF.len] using this
   have:=(ME jF ej iC p8 fp).2 aa;rw [h] at this; cases this
 intro fuel
 induction fuel with
 | zero =>
  intro A B a w ej iC p8 h;refine ⟨?_,h.2⟩;cases ax:Region.ready .any l.toArray A with
  | nil=>rfl
  | cons k r =>
   obtain ⟨af,_,_,aa⟩:=lift ej iC p8 k (by rw [ax]; simp);rw [h.1] at aa; cases aa
 | succ fuel aR =>
  intro A B a w ej iC p8 h;refine ⟨λax=>h.1 (nil ej iC p8 ax),λk hk=>?_⟩;obtain ⟨af,fp,rfl,aa⟩:=lift ej iC p8 k hk;have aO:=h.2 af aa;obtain ⟨h1,al⟩:=HS jF fp;have Rq:∀ i,i<l.length->(B.setIfInBounds af true).getD i true=(A.setIfInBounds (eR.getD af l.length) true).getD (eR.getD i l.length) true:=λi hi=>by
   have bg:=(jF.lt af fp).1;have Gu:=(jF.lt i hi).1;have e:∀ (C:Array Bool) (p q:Nat),p<C.size->q<C.size->(C.setIfInBounds p true).getD q true=if q=p then true else C.getD q true:=λC p q aH bW=>by
    by_cases h:q=p
    ·subst h; simp [Array.getD,bW]
    ·rw [if_neg h]; simp [Array.getD,bW,Array.getElem_setIfInBounds_ne,Ne.symm h]
   rw [e B af i (by omega) (by omega),e A _ _ (by omega) (by omega),p8 i hi];by_cases h:i=af
   ·subst h; simp
   ·rw [if_neg h,if_neg];intro aU;have:=(jF.lt i hi).2;rw [aU,(jF.lt af fp).2] at this;exact h this.symm
  have mono:∀ a w,wpAny P .any (kM eR l).toArray Q fuel (B.setIfInBounds af true) a w->wpAny P .any l.toArray Q fuel (A.setIfInBounds (eR.getD af l.length) true) a w:=λa w aU=>aR _ _ a w (by simpa using ej) (by simpa using iC) Rq aU;unfold wpOp at aO ⊢;rw [al];rw [h1] at aO;simp only [UT jF] at aO;show if Region.wanted (l.getD (eR.getD af l.length) default) (yielded l.toArray a.tmps)=true then _ else _
  split
  ·rename_i hw;rw [if_pos hw] at aO;exact aO.imp (λaU=>Oper.wp_mono mono aU) id
  ·rename_i hw;rw [if_neg hw] at aO;exact mono _ _ aO
end
section
variable {P:Program}{N:dW}
theorem W.U2 {id:Nat}{l:List Oper}{G:List (Nat × aj)}{Φ:Exit->a7->Prop}(eR:List Nat) (cg:List (List Nat)) (G1:List (Nat × aj)) (hm:P.follows .mixedOrders=true) (ej:rr (kM eR l).toArray cg=true) (jF:HR eR l.length=true)
  (h:bC P N (kM eR l).toArray cg (get G) 0 [] (kM eR l) λg'=>kX g' (get G1)) (hk:ah .normal Φ G1):W P N (.region id l.toArray true) (get G) Φ:=by
 have aH:=UR jF;obtain ⟨g',h1,al⟩:=h [] 0 .nil .nil (by simp);have gy:(kM eR l).toArray.size=l.length:=by simp [kM,aH.len]
 refine gM.w (g':=g') (e:=.normal) ?_ (hk g' (.gj al .gE));intro Q a w I Fs b5 b1 ea;refine wp_region_any hm ?_;have eO:dd w.drew I a.tmps (get G) Fs:=b5.world (λ_ _ _=>rfl) (λ_ _=>rfl) (Nat.le_refl _);have hs:∀ k,fe (Array.replicate (kM eR l).toArray.size false) k=false:=by
  intro k;unfold fe;rcases Nat.lt_or_ge k (kM eR l).toArray.size with h | h
  ·simp only [gy] at h ⊢; simp [h]
  ·simp only [gy] at h ⊢; simp [Array.getElem?_eq_none (show (Array.replicate l.length false).size<=k by simpa using h)]
 refine US aH _ _ (Array.replicate l.length false) a w.drew (by simp) (by simp) (λaf aa=>?_) ?_
 ·have:=(aH.lt af aa).1;rw [List.getD_eq_getElem?_getD] at this;simp [Array.getD,aa];exact this
 have tN:=h1.sound ej .nil (kM eR l).toArray.size (Array.replicate (kM eR l).toArray.size false) a w.drew I Fs ?_ (by simp) (λk hk=>by omega) (λk _=>hs k) (λk hk=>by rw [hs] at hk; cases hk) eO b1 (λcJ w' aP=>ea _ _ ?_)
 ·simpa [gy] using tN
 ·unfold hQ;exact Nat.le_trans (List.length_filter_le _ _) (by simp)
 ·obtain ⟨dz,de,I',cB,im,cp⟩:=aP;exact ⟨dz,de,I',cB,im,⟨⟨cp.fI.os,cp.fI.tape,cp.fI.output,cp.fI.size,cp.fI.block,cp.fI.e7,Nat.le_trans (Nat.le_succ _) cp.fI.xj⟩,cp.more,cp.new,cp.own⟩⟩
end
end Go.Own
namespace Go.Own
open Go
section
variable {α:Type}{P:Program}{N:dW}{g:a7}{a b:Operand}{t:TypeId}{m i:Int}
theorem cc.Vt {hM:Oper}{en:cF α}{LL:List (List α)}{L:List α}{jX y2:α}{o r:Nat}{path:List Nat}{y:aj}{cs':List aj}{x2:aj}{G2:List (Nat × aj)}(bj:hM.op=.store t a b) (aZ:hM.dst=none) (bk:Rd g a (.ptr ⟨r,path++[i.toNat * (fk en).z+0]⟩ (m.toNat * en.z+o))) (aJ:Rd g b y)
  (aH:cd g ⟨r,path⟩=some (ak (fk en) LL)) (hi:idx LL i=some L) (h:idx L m=some jX) (bH:gz P t cs'.length=true) (ae:rz y=some cs') (he:fM (en.cells jX) o cs'=en.cells y2) (hlen:Nat.ble (o+cs'.length) en.z=true) (bf:Nat.blt 0 cs'.length=true)
  (gG:dh g ⟨r,path⟩ (ak (fk en) (LL.set i.toNat (L.set m.toNat y2))) r=some x2) (ax:(get G2 r).isSome=true) [aP:cV y] {y0:aj}(vF:g r=some y0) [hc:cV y0] (eD:lj g (get G2) r x2 G2):cc P N g hM (get G2):=by
 have ga:cd g ⟨r,path++[i.toNat * (fk en).z+0]⟩=some (ak en L):=rv (g:=g) (r:=r) (path:=path) aH hi rfl;have uf:(cj (fk en) LL).set (i.toNat * (fk en).z+0) (ak en (L.set m.toNat y2))=cj (fk en) (LL.set i.toNat (L.set m.toNat y2)):=by
  have h1:=H' (fk en) (o:=0) (cs':=[ak en (L.set m.toNat y2)]) (y2:=L.set m.toNat y2) hi (by simp [fM,fk]) (by simp [fk]);rw [<- h1];unfold fM;have bg:i.toNat * (fk en).z+0<(cj (fk en) LL).length:=by
   obtain ⟨uE,jW,_⟩:=pF hi;rw [nI];show i.toNat * 1+0<LL.length * 1;omega
  rw [List.set_eq_take_append_cons_drop,if_pos bg];simp
 refine cc.og (p:=⟨r,path++[i.toNat * (fk en).z+0]⟩) bj aZ bk aJ ga h bH ae he hlen bf (x2:=x2) ?_ ax vF eD;show dh g ⟨r,path++[i.toNat * (fk en).z+0]⟩ (ak en (L.set m.toNat y2)) r=some x2;rw [Nf _ aH hi rfl,uf];have aq:(LL.set i.toNat (L.set m.toNat y2)).length=LL.length:=List.length_set;rw [<- gG];unfold ak;rw [aq]
end
end Go.Own
namespace Go.Proofs
open Go Go.Own
set_option maxRecDepth 100000
set_option linter.unusedVariables false
structure Act where
 Kind:Int
 N:Int
 deriving DecidableEq,Inhabited
def DI (a0:Act):Option (Int) :=
 ((bif decide (a0.Kind=1) then (bif decide (0<=a0.N) then some (decide (a0.N<20000)) else some false) else some false)).bind λk1 =>
 (bif k1 then
 some (aL (a0.N+1))
 else
 ((bif decide (a0.Kind=2) then (bif decide (0<a0.N) then some (decide (a0.N<20000)) else some false) else some false)).bind λnV =>
 (bif nV then
 some (aL (-a0.N))
 else
 ((bif decide (a0.Kind=3) then some (decide (a0.N=0)) else some false)).bind λjA =>
 (bif jA then
 some 20001
 else
 ((bif decide (a0.Kind=4) then some (decide (a0.N=0)) else some false)).bind λlZ =>
 (bif lZ then
 some 20002
 else
 some 0))))
def AJ (a0:Int):Option (Bool) :=
 ((bif decide (97<=a0) then (bif decide (a0<=122) then some true else (bif decide (65<=a0) then (bif decide (a0<=90) then some true else some (decide (a0=95))) else some (decide (a0=95)))) else (bif decide (65<=a0) then (bif decide (a0<=90) then some true else some (decide (a0=95))) else some (decide (a0=95))))).bind λnV =>
 some nV
def AK (a0:Int):Option (Bool) :=
 ((bif decide (48<=a0) then some (decide (a0<=57)) else some false)).bind λc2 =>
 some c2
def AH (a0:ByteArray) (ar:Int):Option (Int) :=
 (cI (R:=Int) (λ(s1:Int) =>
 ((bif decide (aL (ar+s1)<(a0.size:Int)) then ((kZ a0 (aL (ar+s1))).bind λb'=>((AJ b').bind λbJ=>(bif bJ then some true else (bif decide (0<s1) then ((kZ a0 (aL (ar+s1))).bind λcn=>((AK cn).bind λbS=>(bif bS then some true else ((kZ a0 (aL (ar+s1))).bind λcH=>some (decide (cH=46)))))) else some false)))) else some false)).bind λlZ =>
 (bif lZ then
 some (.inl (aL (s1+1)))
 else
 some (.inr s1))) 0).bind λx2 =>
 some x2
def uz (a0:ByteArray):Option (Bool) :=
 ((bif decide (1<=(a0.size:Int)) then (bif decide ((a0.size:Int)<=20) then ((AH a0 0).bind λa6=>some (decide (a6=(a0.size:Int)))) else some false) else some false)).bind λc4 =>
 some c4
def AI (a0:Int):Option (Int × Bool) :=
 (bif decide (a0=10) then
 some (110,true)
 else
 (bif decide (a0=9) then
 some (116,true)
 else
 (bif decide (a0=13) then
 some (114,true)
 else
 ((bif decide (a0=92) then
 some (decide (a0=92))
 else
 some (decide (a0=39)))).bind λHl =>
 (bif Hl then
 some (a0,true)
 else
 ((bif decide (32<=a0) then some (0,decide (a0<=126)) else some (0,false))).bind λph =>
 some (ph.1,ph.2)))))
structure Sym where
 Name:ByteArray
 Lit:Bool
 cM:Int
 At:Int
 deriving DecidableEq,Inhabited
def c6:cF Sym:=⟨4,λx=>[ab x.Name,aY x.Lit,j x.cM,j x.At],λ_=>rfl,λ_=>eZ.bP⟩
instance:Flat c6:=⟨λ_=>rfl⟩
instance:lV c6:=⟨λx=>(inferInstance:jZ [ab x.Name,aY x.Lit,j x.cM,j x.At])⟩
instance:hr c6 c6:=⟨rfl,λx=>(inferInstance:dY [ab x.Name,aY x.Lit,j x.cM,j x.At] [ab x.Name,aY x.Lit,j x.cM,j x.At])⟩
instance {x:Sym}:dY (c6.cells x) [ab x.Name,aY x.Lit,j x.cM,j x.At]:=(inferInstance:dY [ab x.Name,aY x.Lit,j x.cM,j x.At] [ab x.Name,aY x.Lit,j x.cM,j x.At])
def v8 (a0:Sym) (ar:Bool) (a2:Bool):Option (Bool) :=
 (bif a0.Lit then
 ((bif !a2 then some true else (bif !decide ((a0.Name.size:Int)=1) then some true else some (!decide (a0.cM=0))))).bind λc4 =>
 (bif c4 then
 some false
 else
 (kZ a0.Name 0).bind λbJ =>
 (AI bJ).bind λa_ =>
 some a_.2)
 else
 (((uz a0.Name).bind λbA=>(bif bA then (bif decide (a0.cM=0) then some true else (bif ar then (bif decide (1<=a0.cM) then some (decide (a0.cM<=50000)) else some false) else some false)) else some false))).bind λlZ =>
 some lZ)
structure Decl where
 Kind:Int
 Tag:ByteArray
 e0:(List Sym)
 At:Int
 deriving DecidableEq,Inhabited
def cq:cF Decl:=⟨4,λx=>[j x.Kind,ab x.Tag,ai c6 x.e0,j x.At],λ_=>rfl,λ_=>eZ.bP⟩
instance:Flat cq:=⟨λ_=>rfl⟩
instance:hr cq cq:=⟨rfl,λx=>(inferInstance:dY [j x.Kind,ab x.Tag,ai c6 x.e0,j x.At] [j x.Kind,ab x.Tag,ai c6 x.e0,j x.At])⟩
instance {x:Decl}:dY (cq.cells x) [j x.Kind,ab x.Tag,ai c6 x.e0,j x.At]:=(inferInstance:dY [j x.Kind,ab x.Tag,ai c6 x.e0,j x.At] [j x.Kind,ab x.Tag,ai c6 x.e0,j x.At])
def AF (a0:Decl):Option (Bool) :=
 ((bif decide (a0.Kind<1) then some true else (bif decide (6<a0.Kind) then some true else (bif decide ((a0.e0.length:Int)=0) then some true else (bif decide (a0.Kind=6) then (bif !decide ((a0.e0.length:Int)=1) then some true else (bif !decide (a0.Tag={ data:=#[] }) then some true else (bif decide (a0.Kind=5) then (bif decide (a0.Tag={ data:=#[] }) then some true else some false) else some false))) else (bif decide (a0.Kind=5) then (bif decide (a0.Tag={ data:=#[] }) then some true else (bif !decide (a0.Tag={ data:=#[] }) then ((uz a0.Tag).bind λcH=>some (!cH)) else some false)) else (bif !decide (a0.Tag={ data:=#[] }) then ((uz a0.Tag).bind λdb=>some (!db)) else some false))))))).bind λtB =>
 (bif tB then
 some false
 else
 (cI (R:=(Unit) ⊕ (Bool)) (λ(iO:Int) =>
 (bif decide (iO<(a0.e0.length:Int)) then
 (idx a0.e0 iO).bind λgf =>
 (v8 gf (decide (a0.Kind=1)) (decide (a0.Kind<5))).bind λeW =>
 (bif !eW then
 some (.inr (.inr false))
 else
 some (.inl (aL (iO+1))))
 else
 some (.inr (.inl ())))) 0).bind λeV =>
 (match eV with
 | .inl fv =>
 some true
 | .inr ez =>
 some ez))
def v_ (a0:Sym):Option (Bool) :=
 ((bif decide (a0.Name={ data:=#[] }) then (bif !a0.Lit then some (decide (a0.cM=0)) else some false) else some false)).bind λk1 =>
 some k1
def v' (a0:ByteArray) (ar:Int) (a2:ByteArray):Option (Bool) :=
 ((bif decide ((a2.size:Int)<=aL ((a0.size:Int) - ar)) then ((rE a0 ar (aL (ar+(a2.size:Int)))).bind λx2=>some (decide (x2=a2))) else some false)).bind λk1 =>
 some k1
def AL (a0:ByteArray) (ar:Int):Option (Int) :=
 (((kZ a0 ar).bind λaE=>(bif decide (aE=34) then some true else ((kZ a0 ar).bind λa6=>some (decide (a6=39)))))).bind λc4 =>
 (bif c4 then
 (cI (R:=(Unit) ⊕ (Int)) (λ(cQ:Int) =>
 ((bif decide (cQ<(a0.size:Int)) then ((kZ a0 cQ).bind λbO=>some (!decide (bO=10))) else some false)).bind λu9 =>
 (bif u9 then
 (kZ a0 cQ).bind λdb =>
 (kZ a0 ar).bind λcS =>
 (bif decide (db=cS) then
 some (.inr (.inr (aL (cQ+1))))
 else
 (kZ a0 cQ).bind λb9 =>
 (bif decide (b9=92) then
 ((bif decide (aL (cQ+1)<(a0.size:Int)) then ((kZ a0 (aL (cQ+1))).bind λez=>some (decide (ez=10))) else some false)).bind λtC =>
 (bif tC then
 some (.inr (.inr (-1)))
 else
 some (.inl (aL ((aL (cQ+1))+1))))
 else
 some (.inl (aL (cQ+1)))))
 else
 some (.inr (.inl ())))) (aL (ar+1))).bind λa_ =>
 (match a_ with
 | .inl bA =>
 some (-1)
 | .inr cn =>
 some cn)
 else
 (kZ a0 ar).bind λeW =>
 (bif decide (eW=96) then
 (cI (R:=(Unit) ⊕ (Int)) (λ(gd:Int) =>
 (bif decide (gd<(a0.size:Int)) then
 (kZ a0 gd).bind λh2 =>
 (bif decide (h2=96) then
 some (.inr (.inr (aL (gd+1))))
 else
 some (.inl (aL (gd+1))))
 else
 some (.inr (.inl ())))) (aL (ar+1))).bind λgV =>
 (match gV with
 | .inl gS =>
 some (-1)
 | .inr dc =>
 some dc)
 else
 (v' a0 ar ({ data:=#[47,47] })).bind λdk =>
 (bif dk then
 (cI (R:=Int) (λ(hx:Int) =>
 ((bif decide (hx<(a0.size:Int)) then ((kZ a0 hx).bind λdm=>some (!decide (dm=10))) else some false)).bind λu' =>
 (bif u' then
 some (.inl (aL (hx+1)))
 else
 some (.inr hx))) ar).bind λfC =>
 some fC
 else
 (v' a0 ar ({ data:=#[47,42] })).bind λyz =>
 (bif yz then
 (cI (R:=(Unit) ⊕ (Int)) (λ(uL:Int) =>
 (bif decide (uL<(a0.size:Int)) then
 (v' a0 uL ({ data:=#[42,47] })).bind λBC =>
 (bif BC then
 some (.inr (.inr (aL (uL+2))))
 else
 some (.inl (aL (uL+1))))
 else
 some (.inr (.inl ())))) (aL (ar+2))).bind λth =>
 (match th with
 | .inl ku =>
 some (-1)
 | .inr o4 =>
 some o4)
 else
 some ar))))
def yb (a0:ByteArray) (ar:Int):Option (Int) :=
 ((bif decide (ar<0) then some true else (bif decide ((a0.size:Int)<=ar) then some true else ((kZ a0 ar).bind λa6=>some (!decide (a6=123)))))).bind λc4 =>
 (bif c4 then
 some (-1)
 else
 (cI (R:=(Unit) ⊕ (Int)) (λ(cQ:Int × Int) =>
 (bif decide (cQ.2<(a0.size:Int)) then
 (AL a0 cQ.2).bind λbO =>
 (bif decide (bO<0) then
 some (.inr (.inr (-1)))
 else
 (bif decide (cQ.2<bO) then
 some (.inl (cQ.1,bO))
 else
 (kZ a0 cQ.2).bind λdb =>
 ((bif decide (db=123) then
 some (aL (cQ.1+1))
 else
 some cQ.1)).bind λqf =>
 (kZ a0 cQ.2).bind λb9 =>
 ((bif decide (b9=125) then
 some (aL (qf - 1))
 else
 some qf)).bind λDp =>
 (bif decide (Dp=0) then
 some (.inr (.inr (aL (cQ.2+1))))
 else
 some (.inl (Dp,aL (cQ.2+1))))))
 else
 some (.inr (.inl ())))) (0,ar)).bind λa_ =>
 (match a_ with
 | .inl bA =>
 some (-1)
 | .inr cn =>
 some cn))
structure Part where
 Sym:Sym
 Code:ByteArray
 At:Int
 deriving DecidableEq,Inhabited
structure Alt where
 ia:(List Part)
 Prec:Sym
 At:Int
 deriving DecidableEq,Inhabited
def er:cF Part:=⟨6,λx=>[ab x.Sym.Name,aY x.Sym.Lit,j x.Sym.cM,j x.Sym.At,ab x.Code,j x.At],λ_=>rfl,λ_=>eZ.bP⟩
instance:Flat er:=⟨λ_=>rfl⟩
instance:lV er:=⟨λx=>(inferInstance:jZ [ab x.Sym.Name,aY x.Sym.Lit,j x.Sym.cM,j x.Sym.At,ab x.Code,j x.At])⟩
instance:hr er er:=⟨rfl,λx=>(inferInstance:dY [ab x.Sym.Name,aY x.Sym.Lit,j x.Sym.cM,j x.Sym.At,ab x.Code,j x.At] [ab x.Sym.Name,aY x.Sym.Lit,j x.Sym.cM,j x.Sym.At,ab x.Code,j x.At])⟩
instance {x:Part}:dY (er.cells x) [ab x.Sym.Name,aY x.Sym.Lit,j x.Sym.cM,j x.Sym.At,ab x.Code,j x.At]:=(inferInstance:dY [ab x.Sym.Name,aY x.Sym.Lit,j x.Sym.cM,j x.Sym.At,ab x.Code,j x.At] [ab x.Sym.Name,aY x.Sym.Lit,j x.Sym.cM,j x.Sym.At,ab x.Code,j x.At])
def dq:cF Alt:=⟨6,λx=>[ai er x.ia,ab x.Prec.Name,aY x.Prec.Lit,j x.Prec.cM,j x.Prec.At,j x.At],λ_=>rfl,λ_=>eZ.bP⟩
instance:Flat dq:=⟨λ_=>rfl⟩
instance:hr dq dq:=⟨rfl,λx=>(inferInstance:dY [ai er x.ia,ab x.Prec.Name,aY x.Prec.Lit,j x.Prec.cM,j x.Prec.At,j x.At] [ai er x.ia,ab x.Prec.Name,aY x.Prec.Lit,j x.Prec.cM,j x.Prec.At,j x.At])⟩
instance {x:Alt}:dY (dq.cells x) [ai er x.ia,ab x.Prec.Name,aY x.Prec.Lit,j x.Prec.cM,j x.Prec.At,j x.At]:=(inferInstance:dY [ai er x.ia,ab x.Prec.Name,aY x.Prec.Lit,j x.Prec.cM,j x.Prec.At,j x.At] [ai er x.ia,ab x.Prec.Name,aY x.Prec.Lit,j x.Prec.cM,j x.Prec.At,j x.At])
def AG (a0:Alt):Option (Bool) :=
 (cI (R:=(Unit) ⊕ (Bool)) (λ(s1:Int) =>
 (bif decide (s1<(a0.ia.length:Int)) then
 (idx a0.ia s1).bind λbJ =>
 ((bif decide (bJ.Code={ data:=#[] }) then ((v8 bJ.Sym false true).bind λbA=>(bif !bA then some true else (bif !decide (bJ.Code={ data:=#[] }) then ((v_ bJ.Sym).bind λbO=>(bif !bO then some true else ((yb bJ.Code 0).bind λdL=>some (!decide (dL=(bJ.Code.size:Int)))))) else some false))) else (bif !decide (bJ.Code={ data:=#[] }) then ((v_ bJ.Sym).bind λcS=>(bif !cS then some true else ((yb bJ.Code 0).bind λb9=>some (!decide (b9=(bJ.Code.size:Int)))))) else some false))).bind λnU =>
 (bif nU then
 some (.inr (.inr false))
 else
 some (.inl (aL (s1+1))))
 else
 some (.inr (.inl ())))) 0).bind λx2 =>
 (match x2 with
 | .inl a6 =>
 (((v_ a0.Prec).bind λez=>(bif ez then some true else ((v8 a0.Prec false true).bind λgf=>some gf)))).bind λCh =>
 some Ch
 | .inr bQ =>
 some bQ)
structure fa where
 Left:ByteArray
 eY:(List Alt)
 At:Int
 deriving DecidableEq,Inhabited
structure Source where
 bx:ByteArray
 Decls:(List Decl)
 dw:(List fa)
 bB:ByteArray
 deriving DecidableEq,Inhabited
def ei:cF fa:=⟨3,λx=>[ab x.Left,ai dq x.eY,j x.At],λ_=>rfl,λ_=>eZ.bP⟩
instance:Flat ei:=⟨λ_=>rfl⟩
instance:hr ei ei:=⟨rfl,λx=>(inferInstance:dY [ab x.Left,ai dq x.eY,j x.At] [ab x.Left,ai dq x.eY,j x.At])⟩
instance {x:fa}:dY (ei.cells x) [ab x.Left,ai dq x.eY,j x.At]:=(inferInstance:dY [ab x.Left,ai dq x.eY,j x.At] [ab x.Left,ai dq x.eY,j x.At])
def da:cF Source:=⟨4,λx=>[ab x.bx,ai cq x.Decls,ai ei x.dw,ab x.bB],λ_=>rfl,λ_=>eZ.bP⟩
instance:Flat da:=⟨λ_=>rfl⟩
instance:hr da da:=⟨rfl,λx=>(inferInstance:dY [ab x.bx,ai cq x.Decls,ai ei x.dw,ab x.bB] [ab x.bx,ai cq x.Decls,ai ei x.dw,ab x.bB])⟩
instance {x:Source}:dY (da.cells x) [ab x.bx,ai cq x.Decls,ai ei x.dw,ab x.bB]:=(inferInstance:dY [ab x.bx,ai cq x.Decls,ai ei x.dw,ab x.bB] [ab x.bx,ai cq x.Decls,ai ei x.dw,ab x.bB])
def Bg (a0:Source):Option (Bool) :=
 (cI (R:=(Unit) ⊕ (Bool)) (λ(s1:Int) =>
 (bif decide (aL (s1+1)<(a0.bx.size:Int)) then
 (rE a0.bx s1 (aL (s1+2))).bind λbJ =>
 (bif decide (bJ={ data:=#[37,125] }) then
 some (.inr (.inr false))
 else
 some (.inl (aL (s1+1))))
 else
 some (.inr (.inl ())))) 0).bind λx2 =>
 (match x2 with
 | .inl a6 =>
 (cI (R:=(Unit) ⊕ (Bool)) (λ(cT:Int) =>
 (bif decide (cT<(a0.Decls.length:Int)) then
 (idx a0.Decls cT).bind λdL =>
 (AF dL).bind λdb =>
 (bif !db then
 some (.inr (.inr false))
 else
 some (.inl (aL (cT+1))))
 else
 some (.inr (.inl ())))) 0).bind λcn =>
 (match cn with
 | .inl bS =>
 (cI (R:=(Unit) ⊕ (Bool)) (λ(mc:Int) =>
 (bif decide (mc<(a0.dw.length:Int)) then
 (idx a0.dw mc).bind λdt =>
 (((uz dt.Left).bind λgf=>(bif !gf then some true else some (decide ((dt.eY.length:Int)=0))))).bind λxd =>
 (bif xd then
 some (.inr (.inr false))
 else
 (cI (R:=(Unit) ⊕ (Bool)) (λ(yr:Int) =>
 (bif decide (yr<(dt.eY.length:Int)) then
 (idx dt.eY yr).bind λjb =>
 (AG jb).bind λdk =>
 (bif !dk then
 some (.inr (.inr false))
 else
 some (.inl (aL (yr+1))))
 else
 some (.inr (.inl ())))) 0).bind λgS =>
 (match gS with
 | .inl dc =>
 some (.inl (aL (mc+1)))
 | .inr eX =>
 some (.inr (.inr eX))))
 else
 some (.inr (.inl ())))) 0).bind λb9 =>
 (match b9 with
 | .inl eV =>
 some (decide (0<(a0.dw.length:Int)))
 | .inr fv =>
 some fv)
 | .inr bO =>
 some bO)
 | .inr bQ =>
 some bQ)
structure bM where
 Name:ByteArray
 Lit:Bool
 cM:Int
 Level:Int
 fh:Int
 Tag:ByteArray
 deriving DecidableEq,Inhabited
structure e5 where
 Name:ByteArray
 Tag:ByteArray
 deriving DecidableEq,Inhabited
structure Prod where
 Left:Int
 fw:(List Int)
 Prec:Int
 Code:ByteArray
 tm:(List Int)
 At:Int
 deriving DecidableEq,Inhabited
structure b3 where
 a':(List bM)
 bw:(List e5)
 a8:(List Prod)
 bx:ByteArray
 bB:ByteArray
 deriving DecidableEq,Inhabited
structure cU where
 av:b3
 b4:(List Bool)
 b0:(List e5)
 bK:(List ByteArray)
 ck:Int
 cm:Int
 ch:ByteArray
 bZ:Int
 bD:Int
 deriving DecidableEq,Inhabited
def br:cF bM:=⟨6,λx=>[ab x.Name,aY x.Lit,j x.cM,j x.Level,j x.fh,ab x.Tag],λ_=>rfl,λ_=>eZ.bP⟩
instance:Flat br:=⟨λ_=>rfl⟩
instance:lV br:=⟨λx=>(inferInstance:jZ [ab x.Name,aY x.Lit,j x.cM,j x.Level,j x.fh,ab x.Tag])⟩
instance:hr br br:=⟨rfl,λx=>(inferInstance:dY [ab x.Name,aY x.Lit,j x.cM,j x.Level,j x.fh,ab x.Tag] [ab x.Name,aY x.Lit,j x.cM,j x.Level,j x.fh,ab x.Tag])⟩
instance {x:bM}:dY (br.cells x) [ab x.Name,aY x.Lit,j x.cM,j x.Level,j x.fh,ab x.Tag]:=(inferInstance:dY [ab x.Name,aY x.Lit,j x.cM,j x.Level,j x.fh,ab x.Tag] [ab x.Name,aY x.Lit,j x.cM,j x.Level,j x.fh,ab x.Tag])
def ba:cF e5:=⟨2,λx=>[ab x.Name,ab x.Tag],λ_=>rfl,λ_=>eZ.bP⟩
instance:Flat ba:=⟨λ_=>rfl⟩
instance:lV ba:=⟨λx=>(inferInstance:jZ [ab x.Name,ab x.Tag])⟩
instance:hr ba ba:=⟨rfl,λx=>(inferInstance:dY [ab x.Name,ab x.Tag] [ab x.Name,ab x.Tag])⟩
def bG:cF Prod:=⟨6,λx=>[j x.Left,ai aI x.fw,j x.Prec,ab x.Code,ai aI x.tm,j x.At],λ_=>rfl,λ_=>eZ.bP⟩
instance:Flat bG:=⟨λ_=>rfl⟩
instance:hr bG bG:=⟨rfl,λx=>(inferInstance:dY [j x.Left,ai aI x.fw,j x.Prec,ab x.Code,ai aI x.tm,j x.At] [j x.Left,ai aI x.fw,j x.Prec,ab x.Code,ai aI x.tm,j x.At])⟩
instance {x:Prod}:dY (bG.cells x) [j x.Left,ai aI x.fw,j x.Prec,ab x.Code,ai aI x.tm,j x.At]:=(inferInstance:dY [j x.Left,ai aI x.fw,j x.Prec,ab x.Code,ai aI x.tm,j x.At] [j x.Left,ai aI x.fw,j x.Prec,ab x.Code,ai aI x.tm,j x.At])
def b8:cF b3:=⟨5,λx=>[ai br x.a',ai ba x.bw,ai bG x.a8,ab x.bx,ab x.bB],λ_=>rfl,λ_=>eZ.bP⟩
instance:Flat b8:=⟨λ_=>rfl⟩
instance:hr b8 b8:=⟨rfl,λx=>(inferInstance:dY [ai br x.a',ai ba x.bw,ai bG x.a8,ab x.bx,ab x.bB] [ai br x.a',ai ba x.bw,ai bG x.a8,ab x.bx,ab x.bB])⟩
instance {x:b3}:dY (b8.cells x) [ai br x.a',ai ba x.bw,ai bG x.a8,ab x.bx,ab x.bB]:=(inferInstance:dY [ai br x.a',ai ba x.bw,ai bG x.a8,ab x.bx,ab x.bB] [ai br x.a',ai ba x.bw,ai bG x.a8,ab x.bx,ab x.bB])
def Cx:cF cU:=⟨13,λx=>[ai br x.av.a',ai ba x.av.bw,ai bG x.av.a8,ab x.av.bx,ab x.av.bB,ai bN x.b4,ai ba x.b0,ai cy x.bK,j x.ck,j x.cm,ab x.ch,j x.bZ,j x.bD],λ_=>rfl,λ_=>eZ.bP⟩
instance:Flat Cx:=⟨λ_=>rfl⟩
instance:hr Cx Cx:=⟨rfl,λx=>(inferInstance:dY [ai br x.av.a',ai ba x.av.bw,ai bG x.av.a8,ab x.av.bx,ab x.av.bB,ai bN x.b4,ai ba x.b0,ai cy x.bK,j x.ck,j x.cm,ab x.ch,j x.bZ,j x.bD] [ai br x.av.a',ai ba x.av.bw,ai bG x.av.a8,ab x.av.bx,ab x.av.bB,ai bN x.b4,ai ba x.b0,ai cy x.bK,j x.ck,j x.cm,ab x.ch,j x.bZ,j x.bD])⟩
instance {x:cU}:dY (Cx.cells x) [ai br x.av.a',ai ba x.av.bw,ai bG x.av.a8,ab x.av.bx,ab x.av.bB,ai bN x.b4,ai ba x.b0,ai cy x.bK,j x.ck,j x.cm,ab x.ch,j x.bZ,j x.bD]:=(inferInstance:dY [ai br x.av.a',ai ba x.av.bw,ai bG x.av.a8,ab x.av.bx,ab x.av.bB,ai bN x.b4,ai ba x.b0,ai cy x.bK,j x.ck,j x.cm,ab x.ch,j x.bZ,j x.bD] [ai br x.av.a',ai ba x.av.bw,ai bG x.av.a8,ab x.av.bx,ab x.av.bB,ai bN x.b4,ai ba x.b0,ai cy x.bK,j x.ck,j x.cm,ab x.ch,j x.bZ,j x.bD])
def Kf:cF b3:=⟨5,λx=>[ak br x.a',ak ba x.bw,ak bG x.a8,ab x.bx,ab x.bB],λ_=>rfl,λ_=>eZ.bP⟩
instance:hr Kf b8:=⟨rfl,λx=>(inferInstance:dY [ak br x.a',ak ba x.bw,ak bG x.a8,ab x.bx,ab x.bB] [ai br x.a',ai ba x.bw,ai bG x.a8,ab x.bx,ab x.bB])⟩
instance {x:b3}:dY (Kf.cells x) [ai br x.a',ai ba x.bw,ai bG x.a8,ab x.bx,ab x.bB]:=(inferInstance:dY [ak br x.a',ak ba x.bw,ak bG x.a8,ab x.bx,ab x.bB] [ai br x.a',ai ba x.bw,ai bG x.a8,ab x.bx,ab x.bB])
def ee:cF cU:=⟨13,λx=>[ak br x.av.a',ak ba x.av.bw,ak bG x.av.a8,ab x.av.bx,ab x.av.bB,ak bN x.b4,ak ba x.b0,ak cy x.bK,j x.ck,j x.cm,ab x.ch,j x.bZ,j x.bD],λ_=>rfl,λ_=>eZ.bP⟩
instance {x:cU}:dY (ee.cells x) [ai br x.av.a',ai ba x.av.bw,ai bG x.av.a8,ab x.av.bx,ab x.av.bB,ai bN x.b4,ai ba x.b0,ai cy x.bK,j x.ck,j x.cm,ab x.ch,j x.bZ,j x.bD]:=(inferInstance:dY [ak br x.av.a',ak ba x.av.bw,ak bG x.av.a8,ab x.av.bx,ab x.av.bB,ak bN x.b4,ak ba x.b0,ak cy x.bK,j x.ck,j x.cm,ab x.ch,j x.bZ,j x.bD] [ai br x.av.a',ai ba x.av.bw,ai bG x.av.a8,ab x.av.bx,ab x.av.bB,ai bN x.b4,ai ba x.b0,ai cy x.bK,j x.ck,j x.cm,ab x.ch,j x.bZ,j x.bD])
def nH (a0:cU) (ar:Int) (a2:ByteArray):Option (cU) :=
 ((bif decide (a0.ck=0) then
 some (⟨a0.av,a0.b4,a0.b0,a0.bK,3,ar,a2,a0.bZ,a0.bD⟩:cU)
 else
 some a0)).bind λjn =>
 some jn
def yl (a0:cU) (ar:ByteArray):Option (Int) :=
 (cI (R:=(Unit) ⊕ (Int)) (λ(s1:Int) =>
 (bif decide (s1<(a0.b0.length:Int)) then
 (idx a0.b0 s1).bind λbJ =>
 (bif decide (bJ.Name=ar) then
 some (.inr (.inr s1))
 else
 some (.inl (aL (s1+1))))
 else
 some (.inr (.inl ())))) 0).bind λx2 =>
 (match x2 with
 | .inl a6 =>
 some (-1)
 | .inr bQ =>
 some bQ)
def wi (a0:cU) (ar:Sym):Option (Int) :=
 (cI (R:=(Unit) ⊕ (Int)) (λ(s1:Int) =>
 (bif decide (s1<(a0.av.a'.length:Int)) then
 (((idx a0.av.a' s1).bind λbJ=>(bif decide (bJ.Name=ar.Name) then ((idx a0.av.a' s1).bind λbA=>(bif (bA.Lit == ar.Lit) then some (!decide (s1=2)) else some false)) else some false))).bind λjA =>
 (bif jA then
 some (.inr (.inr s1))
 else
 some (.inl (aL (s1+1))))
 else
 some (.inr (.inl ())))) 1).bind λx2 =>
 (match x2 with
 | .inl a6 =>
 some (-1)
 | .inr bQ =>
 some bQ)
def ya (a0:cU) (ar:Int):Option (Int) :=
 (cI (R:=(Unit) ⊕ (Int)) (λ(s1:Int) =>
 (bif decide (s1<(a0.av.a'.length:Int)) then
 (idx a0.av.a' s1).bind λbJ =>
 (bif decide (bJ.cM=ar) then
 some (.inr (.inr s1))
 else
 some (.inl (aL (s1+1))))
 else
 some (.inr (.inl ())))) 3).bind λx2 =>
 (match x2 with
 | .inl a6 =>
 some (-1)
 | .inr bQ =>
 some bQ)
def x_ (a0:cU) (ar:Sym):Option (Int × cU) :=
 (wi a0 ar).bind λaE =>
 (bif decide (0<=aE) then
 some (aE,a0)
 else
 ((bif ar.Lit then
 (kZ ar.Name 0).bind λb' =>
 (ya a0 (aL b')).bind λbJ =>
 ((bif decide (0<=bJ) then
 (nH a0 ar.At ar.Name).bind λcn =>
 some cn
 else
 some a0)).bind λkK =>
 some (kK,aL b')
 else
 some (a0,0))).bind λdM =>
 (ed dM.1.av.a' [(⟨ar.Name,ar.Lit,dM.2,0,0,{ data:=#[] }⟩:bM)]).bind λbS =>
 (ed dM.1.b4 [ar.Lit]).bind λbO =>
 some (aL (((dM.1.av.a'++[(⟨ar.Name,ar.Lit,dM.2,0,0,{ data:=#[] }⟩:bM)]).length:Int) - 1),(⟨(⟨dM.1.av.a'++[(⟨ar.Name,ar.Lit,dM.2,0,0,{ data:=#[] }⟩:bM)],dM.1.av.bw,dM.1.av.a8,dM.1.av.bx,dM.1.av.bB⟩:b3),dM.1.b4++[ar.Lit],dM.1.b0,dM.1.bK,dM.1.ck,dM.1.cm,dM.1.ch,dM.1.bZ,dM.1.bD⟩:cU)))
def Bh (a0:cU) (ar:Decl) (a2:Sym):Option (cU) :=
 (bif decide (ar.Kind=5) then
 (yl a0 a2.Name).bind λx2 =>
 ((bif decide (x2<0) then
 (ed a0.b0 [(⟨a2.Name,ar.Tag⟩:e5)]).bind λb' =>
 some (⟨a0.av,a0.b4,a0.b0++[(⟨a2.Name,ar.Tag⟩:e5)],a0.bK,a0.ck,a0.cm,a0.ch,a0.bZ,a0.bD⟩:cU)
 else
 (idx a0.b0 x2).bind λbJ =>
 ((bif !decide (bJ.Tag=ar.Tag) then
 (nH a0 a2.At a2.Name).bind λcn =>
 some cn
 else
 some a0)).bind λkK =>
 some kK)).bind λdM =>
 some dM
 else
 (x_ a0 a2).bind λbS =>
 (idx bS.2.av.a' bS.1).bind λbO =>
 ((bif !decide (ar.Kind=1) then
 ((bif decide (0<bO.Level) then
 (nH bS.2 a2.At a2.Name).bind λcr =>
 some (⟨(⟨bS.2.av.a',cr.av.bw,cr.av.a8,cr.av.bx,cr.av.bB⟩:b3),cr.b4,cr.b0,cr.bK,cr.ck,cr.cm,cr.ch,cr.bZ,cr.bD⟩:cU)
 else
 some bS.2)).bind λdG =>
 (idx dG.av.a' bS.1).bind λb9 =>
 some (⟨(⟨(dG.av.a'.set bS.1.toNat (⟨b9.Name,b9.Lit,b9.cM,dG.bZ,b9.fh,b9.Tag⟩:bM)).set bS.1.toNat (⟨(⟨b9.Name,b9.Lit,b9.cM,dG.bZ,b9.fh,b9.Tag⟩:bM).Name,(⟨b9.Name,b9.Lit,b9.cM,dG.bZ,b9.fh,b9.Tag⟩:bM).Lit,(⟨b9.Name,b9.Lit,b9.cM,dG.bZ,b9.fh,b9.Tag⟩:bM).cM,(⟨b9.Name,b9.Lit,b9.cM,dG.bZ,b9.fh,b9.Tag⟩:bM).Level,aL (ar.Kind - 1),(⟨b9.Name,b9.Lit,b9.cM,dG.bZ,b9.fh,b9.Tag⟩:bM).Tag⟩:bM),dG.av.bw,dG.av.a8,dG.av.bx,dG.av.bB⟩:b3),dG.b4,dG.b0,dG.bK,dG.ck,dG.cm,dG.ch,dG.bZ,dG.bD⟩:cU)
 else
 some bS.2)).bind λfy =>
 (idx fy.av.a' bS.1).bind λeV =>
 ((bif decide (0<a2.cM) then
 ((bif decide (bS.1=1) then some true else ((idx fy.b4 bS.1).bind λgf=>(bif gf then some true else ((ya fy a2.cM).bind λfU=>some (decide (0<=fU))))))).bind λCi =>
 ((bif Ci then
 (nH fy a2.At a2.Name).bind λdc =>
 some (⟨(⟨fy.av.a',dc.av.bw,dc.av.a8,dc.av.bx,dc.av.bB⟩:b3),dc.b4,dc.b0,dc.bK,dc.ck,dc.cm,dc.ch,dc.bZ,dc.bD⟩:cU)
 else
 some fy)).bind λey =>
 (idx ey.av.a' bS.1).bind λeX =>
 (idx ey.b4 bS.1).bind λh2 =>
 some (⟨(⟨ey.av.a'.set bS.1.toNat (⟨eX.Name,eX.Lit,a2.cM,eX.Level,eX.fh,eX.Tag⟩:bM),ey.av.bw,ey.av.a8,ey.av.bx,ey.av.bB⟩:b3),ey.b4.set bS.1.toNat true,ey.b0,ey.bK,ey.ck,ey.cm,ey.ch,ey.bZ,ey.bD⟩:cU)
 else
 some fy)).bind λfQ =>
 (idx fQ.av.a' bS.1).bind λjb =>
 ((bif !decide (ar.Tag={ data:=#[] }) then
 ((bif !decide (jb.Tag={ data:=#[] }) then some (!decide (jb.Tag=ar.Tag)) else some false)).bind λqB =>
 ((bif qB then
 (nH fQ a2.At a2.Name).bind λdm =>
 some (⟨(⟨fQ.av.a',dm.av.bw,dm.av.a8,dm.av.bx,dm.av.bB⟩:b3),dm.b4,dm.b0,dm.bK,dm.ck,dm.cm,dm.ch,dm.bZ,dm.bD⟩:cU)
 else
 some fQ)).bind λgI =>
 (idx gI.av.a' bS.1).bind λh' =>
 some (⟨(⟨gI.av.a'.set bS.1.toNat (⟨h'.Name,h'.Lit,h'.cM,h'.Level,h'.fh,ar.Tag⟩:bM),gI.av.bw,gI.av.a8,gI.av.bx,gI.av.bB⟩:b3),gI.b4,gI.b0,gI.bK,gI.ck,gI.cm,gI.ch,gI.bZ,gI.bD⟩:cU)
 else
 some fQ)).bind λoQ =>
 some oQ)
def rY (a0:cU) (ar:ByteArray):Option (Int) :=
 (cI (R:=(Unit) ⊕ (Int)) (λ(s1:Int) =>
 (bif decide (s1<(a0.bK.length:Int)) then
 (idx a0.bK s1).bind λbJ =>
 (bif decide (bJ=ar) then
 some (.inr (.inr s1))
 else
 some (.inl (aL (s1+1))))
 else
 some (.inr (.inl ())))) 0).bind λx2 =>
 (match x2 with
 | .inl a6 =>
 some (-1)
 | .inr bQ =>
 some bQ)
def uA (a0:cU) (ar:Sym):Option (Int × cU) :=
 (bif ar.Lit then
 (x_ a0 ar).bind λx2 =>
 some (x2.1,x2.2)
 else
 (rY a0 ar.Name).bind λa6 =>
 (bif decide (0<=a6) then
 some (aL (1001+a6),a0)
 else
 (wi a0 ar).bind λb' =>
 (bif decide (b'<0) then
 (nH a0 ar.At ar.Name).bind λa_ =>
 some (0,a_)
 else
 some (b',a0))))
def Bi (a0:cU) (ar:ByteArray) (a2:Alt):Option (cU) :=
 (rY a0 ar).bind λaE =>
 (cI (R:=cU × List Int × ByteArray × Int) (λ(s2:cU × List Int × ByteArray × Int × Int) =>
 (bif decide (s2.2.2.2.2<(a2.ia.length:Int)) then
 ((idx a2.ia s2.2.2.2.2).bind λa_ =>
 (((bif decide (a_.Code={ data:=#[] }) then
 (uA s2.1 a_.Sym).bind λbO =>
 (ed s2.2.1 [bO.1]).bind λcH =>
 some (bO.2,s2.2.1++[bO.1],s2.2.2.1,s2.2.2.2.1)
 else
 ((bif decide (aL (s2.2.2.2.2+1)=(a2.ia.length:Int)) then
 some (s2.1.av.a8,s2.1.bD,s2.2.1,a_.Code,a_.At)
 else
 (ed ([]:List Int) s2.2.1).bind λcS =>
 (ed s2.1.av.a8 [(⟨aL ((s2.1.bK.length:Int)+(aL (s2.1.bD+1))),([]:List Int),(-1),a_.Code,([]:List Int)++s2.2.1,a_.At⟩:Prod)]).bind λcr =>
 (ed s2.2.1 [aL ((aL (1000+(s2.1.bK.length:Int)))+(aL (s2.1.bD+1)))]).bind λb9 =>
 some (s2.1.av.a8++[(⟨aL ((s2.1.bK.length:Int)+(aL (s2.1.bD+1))),([]:List Int),(-1),a_.Code,([]:List Int)++s2.2.1,a_.At⟩:Prod)],aL (s2.1.bD+1),s2.2.1++[aL ((aL (1000+(s2.1.bK.length:Int)))+(aL (s2.1.bD+1)))],s2.2.2.1,s2.2.2.2.1))).bind λjo =>
 some ((⟨(⟨s2.1.av.a',s2.1.av.bw,jo.1,s2.1.av.bx,s2.1.av.bB⟩:b3),s2.1.b4,s2.1.b0,s2.1.bK,s2.1.ck,s2.1.cm,s2.1.ch,s2.1.bZ,jo.2.1⟩:cU),jo.2.2.1,jo.2.2.2.1,jo.2.2.2.2))).bind λpG =>
 some (pG.1,pG.2.1,pG.2.2.1,pG.2.2.2)).bind λfq =>
 some (fq.1,fq.2.1,fq.2.2.1,fq.2.2.2)).bind λjq =>
 some (.inl (jq.1,jq.2.1,jq.2.2.1,jq.2.2.2,aL (s2.2.2.2.2+1)))
 else
 some (.inr (s2.1,s2.2.1,s2.2.2.1,s2.2.2.2.1)))) (a0,([]:List Int),{ data:=#[] },a2.At,0)).bind λa6 =>
 (cI (R:=Int) (λ(qm:Int × Int) =>
 (bif decide (qm.2<(a6.2.1.length:Int)) then
 ((idx a6.2.1 qm.2).bind λeW =>
 ((bif decide (eW<1000) then
 (idx a6.2.1 qm.2).bind λgV =>
 some gV
 else
 some qm.1)).bind λAh =>
 some Ah).bind λn_ =>
 some (.inl (n_,aL (qm.2+1)))
 else
 some (.inr qm.1))) ((-1),0)).bind λfv =>
 ((bif !decide (a2.Prec.Name={ data:=#[] }) then
 ((bif a2.Prec.Lit then some true else ((rY a6.1 a2.Prec.Name).bind λh2=>some (decide (h2<0))))).bind λsl =>
 ((bif sl then
 (uA a6.1 a2.Prec).bind λgW =>
 some (gW.2,gW.1)
 else
 (nH a6.1 a2.Prec.At a2.Prec.Name).bind λfC =>
 some (fC,(-1)))).bind λoQ =>
 some (oQ.1,oQ.2)
 else
 some (a6.1,fv))).bind λfA =>
 (ed ([]:List Int) a6.2.1).bind λiR =>
 (ed fA.1.av.a8 [(⟨aL (1+aE),a6.2.1,fA.2,a6.2.2.1,([]:List Int)++a6.2.1,a6.2.2.2⟩:Prod)]).bind λjt =>
 some (⟨(⟨fA.1.av.a',fA.1.av.bw,fA.1.av.a8++[(⟨aL (1+aE),a6.2.1,fA.2,a6.2.2.1,([]:List Int)++a6.2.1,a6.2.2.2⟩:Prod)],fA.1.av.bx,fA.1.av.bB⟩:b3),fA.1.b4,fA.1.b0,fA.1.bK,fA.1.ck,fA.1.cm,fA.1.ch,fA.1.bZ,fA.1.bD⟩:cU)
def Bj (a0:Int):Option (ByteArray) :=
 ((bif decide (a0<0) then
 some (IntKind.u64.wrap (-(IntKind.u64.wrap a0)))
 else
 some (IntKind.u64.wrap a0))).bind λjn =>
 (cI (R:=ByteArray) (λ(df:Int × ByteArray) =>
 ((bif decide (0<df.1) then some true else some (decide (df.2={ data:=#[] })))).bind λnV =>
 (bif nV then
 (s_ df.1 10).bind λcn =>
 (so (strOfNums [ho (IntKind.u64.wrap (48+cn))]) df.2).bind λbS =>
 (s8 df.1 10).bind λbO =>
 some (.inl (bO,bS))
 else
 some (.inr df.2))) (jn,{ data:=#[] })).bind λbQ =>
 (bif decide (a0<0) then
 (so ({ data:=#[45] }) bQ).bind λdL =>
 some dL
 else
 some bQ)
def A9 (a0:Source):Option (b3 × Int × Int × ByteArray) :=
 (Bg a0).bind λaE =>
 (bif !aE then
 some ((⟨([]:List bM),([]:List e5),([]:List Prod),{ data:=#[] },{ data:=#[] }⟩:b3),1,0,{ data:=#[] })
 else
 (oR 3 false).bind λa6 =>
 (cI (R:=cU × ByteArray) (λ(bU:cU × ByteArray × Int) =>
 (bif decide (bU.2.2<(a0.Decls.length:Int)) then
 (idx a0.Decls bU.2.2).bind λbA =>
 ((bif decide (2<=bA.Kind) then some (decide (bA.Kind<=4)) else some false)).bind λjA =>
 ((bif jA then
 some (aL (bU.1.bZ+1))
 else
 some bU.1.bZ)).bind λhg =>
 (cI (R:=cU × ByteArray) (λ(fm:cU × ByteArray × Int) =>
 (bif decide (fm.2.2<(bA.e0.length:Int)) then
 ((bif !decide (bA.Kind=6) then
 (idx bA.e0 fm.2.2).bind λfv =>
 (Bh fm.1 bA fv).bind λez =>
 some (ez,fm.2.1)
 else
 ((bif !decide (fm.2.1={ data:=#[] }) then
 (idx bA.e0 fm.2.2).bind λeW =>
 (idx bA.e0 fm.2.2).bind λfU =>
 (nH fm.1 eW.At fU.Name).bind λfo =>
 some fo
 else
 some fm.1)).bind λoP =>
 (idx bA.e0 fm.2.2).bind λgV =>
 some (oP,gV.Name))).bind λs3 =>
 some (.inl (s3.1,s3.2,aL (fm.2.2+1)))
 else
 some (.inr (fm.1,fm.2.1)))) ((⟨bU.1.av,bU.1.b4,bU.1.b0,bU.1.bK,bU.1.ck,bU.1.cm,bU.1.ch,hg,bU.1.bD⟩:cU),bU.2.1,0)).bind λdb =>
 some (.inl (db.1,db.2,aL (bU.2.2+1)))
 else
 some (.inr (bU.1,bU.2.1)))) ((⟨(⟨[(⟨{ data:=#[36,101,110,100] },false,0,0,0,{ data:=#[] }⟩:bM),(⟨{ data:=#[101,114,114,111,114] },false,(-1),0,0,{ data:=#[] }⟩:bM),(⟨{ data:=#[36,117,110,107] },false,(-1),0,0,{ data:=#[] }⟩:bM)],[],[],{ data:=#[] },{ data:=#[] }⟩:b3),a6,[],[],0,0,{ data:=#[] },0,0⟩:cU),{ data:=#[] },0)).bind λb' =>
 (cI (R:=cU) (λ(mf:cU × Int) =>
 (bif decide (mf.2<(a0.dw.length:Int)) then
 ((idx a0.dw mf.2).bind λdk =>
 (wi mf.1 (⟨dk.Left,false,0,0⟩:Sym)).bind λgK =>
 ((bif decide (0<=gK) then
 (nH mf.1 dk.At dk.Left).bind λiR =>
 some iR
 else
 some mf.1)).bind λfK =>
 (rY fK dk.Left).bind λjt =>
 ((bif decide (jt<0) then
 (ed fK.bK [dk.Left]).bind λtg =>
 some (fK.bK++[dk.Left])
 else
 some fK.bK)).bind λHk =>
 some (⟨fK.av,fK.b4,fK.b0,Hk,fK.ck,fK.cm,fK.ch,fK.bZ,fK.bD⟩:cU)).bind λvM =>
 some (.inl (vM,aL (mf.2+1)))
 else
 some (.inr mf.1))) (b'.1,0)).bind λdc =>
 (cI (R:=cU) (λ(mM:cU × Int) =>
 (bif decide (mM.2<(a0.Decls.length:Int)) then
 (cI (R:=cU) (λ(mg:cU × Int) =>
 (idx a0.Decls mM.2).bind λBC =>
 (bif decide (mg.2<(BC.e0.length:Int)) then
 ((idx a0.Decls mM.2).bind λyA =>
 (idx yA.e0 mg.2).bind λkh =>
 (((idx a0.Decls mM.2).bind λIG=>(bif decide (5<=IG.Kind) then ((rY mg.1 kh.Name).bind λkv=>some (decide (kv<0))) else some false))).bind λET =>
 ((bif ET then
 (nH mg.1 kh.At kh.Name).bind λmR =>
 some mR
 else
 some mg.1)).bind λHo =>
 some Ho).bind λHn =>
 some (.inl (Hn,aL (mg.2+1)))
 else
 some (.inr mg.1))) (mM.1,0)).bind λo4 =>
 some (.inl (o4,aL (mM.2+1)))
 else
 some (.inr mM.1))) (dc,0)).bind λbX =>
 ((bif decide (b'.2={ data:=#[] }) then
 (idx a0.dw 0).bind λuU =>
 some uU.Left
 else
 some b'.2)).bind λvN =>
 (rY bX vN).bind λij =>
 (cI (R:=cU) (λ(nJ:cU × Int) =>
 (bif decide (nJ.2<(a0.dw.length:Int)) then
 (cI (R:=cU) (λ(pP:cU × Int) =>
 (idx a0.dw nJ.2).bind λBD =>
 (bif decide (pP.2<(BD.eY.length:Int)) then
 (idx a0.dw nJ.2).bind λyB =>
 (idx a0.dw nJ.2).bind λIJ =>
 (idx IJ.eY pP.2).bind λrh =>
 (Bi pP.1 yB.Left rh).bind λjI =>
 some (.inl (jI,aL (pP.2+1)))
 else
 some (.inr pP.1))) (nJ.1,0)).bind λkx =>
 some (.inl (kx,aL (nJ.2+1)))
 else
 some (.inr nJ.1))) ((⟨(⟨bX.av.a',bX.av.bw,[(⟨0,[aL (1001+ij)],(-1),{ data:=#[] },([]:List Int),0⟩:Prod)],bX.av.bx,bX.av.bB⟩:b3),bX.b4,bX.b0,bX.bK,bX.ck,bX.cm,bX.ch,bX.bZ,bX.bD⟩:cU),0)).bind λbc =>
 (bif !decide (bc.ck=0) then
 some ((⟨([]:List bM),([]:List e5),([]:List Prod),{ data:=#[] },{ data:=#[] }⟩:b3),bc.ck,bc.cm,bc.ch)
 else
 (cI (R:=List e5) (λ(mN:List e5 × Int) =>
 (bif decide (mN.2<(bc.bK.length:Int)) then
 (idx bc.bK mN.2).bind λml =>
 (yl (⟨(⟨bc.av.a',mN.1,bc.av.a8,bc.av.bx,bc.av.bB⟩:b3),bc.b4,bc.b0,bc.bK,bc.ck,bc.cm,bc.ch,bc.bZ,bc.bD⟩:cU) ml).bind λwC =>
 ((bif decide (0<=wC) then
 (idx bc.b0 wC).bind λEf =>
 some Ef.Tag
 else
 some ({ data:=#[] }))).bind λqg =>
 (ed mN.1 [(⟨ml,qg⟩:e5)]).bind λNK =>
 some (.inl (mN.1++[(⟨ml,qg⟩:e5)],aL (mN.2+1)))
 else
 some (.inr mN.1))) ([(⟨{ data:=#[36,97,99,99,101,112,116] },{ data:=#[] }⟩:e5)],0)).bind λwB =>
 (cI (R:=List e5) (λ(od:List e5 × Int) =>
 (bif decide (od.2<=bc.bD) then
 (Bj od.2).bind λEg =>
 (so ({ data:=#[64] }) Eg).bind λri =>
 (ed od.1 [(⟨ri,{ data:=#[] }⟩:e5)]).bind λNL =>
 some (.inl (od.1++[(⟨ri,{ data:=#[] }⟩:e5)],aL (od.2+1)))
 else
 some (.inr od.1))) (wB,1)).bind λju =>
 (cI (R:=List bM) (λ(iP:List bM × Int × Int) =>
 (bif decide (iP.2.2<(iP.1.length:Int)) then
 ((idx bc.b4 iP.2.2).bind λIC =>
 ((bif !IC then
 (idx iP.1 iP.2.2).bind λlF =>
 some (iP.1.set iP.2.2.toNat (⟨lF.Name,lF.Lit,iP.2.1,lF.Level,lF.fh,lF.Tag⟩:bM),aL (iP.2.1+1))
 else
 some (iP.1,iP.2.1))).bind λAf =>
 some (Af.1,Af.2)).bind λAi =>
 some (.inl (Ai.1,Ai.2,aL (iP.2.2+1)))
 else
 some (.inr iP.1))) (bc.av.a',57346,3)).bind λkS =>
 ((bif decide (40<(kS.length:Int)) then some true else (bif decide (24<(ju.length:Int)) then some true else some (decide (60<(bc.av.a8.length:Int)))))).bind λry =>
 (cI (R:=Bool) (λ(r1:Bool × Int) =>
 (bif decide (r1.2<(bc.av.a8.length:Int)) then
 ((bif r1.1 then some true else ((idx bc.av.a8 r1.2).bind λID=>some (decide (8<(ID.fw.length:Int)))))).bind λEO =>
 some (.inl (EO,aL (r1.2+1)))
 else
 some (.inr r1.1))) (ry,0)).bind λBB =>
 (bif BB then
 some ((⟨([]:List bM),([]:List e5),([]:List Prod),{ data:=#[] },{ data:=#[] }⟩:b3),4,0,{ data:=#[] })
 else
 some ((⟨kS,ju,bc.av.a8,a0.bx,a0.bB⟩:b3),0,0,{ data:=#[] }))))
def A2 (a0:Source):Option (b3 × Bool) :=
 (A9 a0).bind λaE =>
 some (aE.1,decide (aE.2.1=0))
def pM (a0:(List Int)) (ar:Int):Option ((List Int)) :=
 (cI (R:=Int) (λ(s1:Int) =>
 ((bif decide (0<s1) then ((idx a0 (aL (s1 - 1))).bind λb'=>some (decide (ar<b'))) else some false)).bind λsm =>
 (bif sm then
 some (.inl (aL (s1 - 1)))
 else
 some (.inr s1))) (a0.length:Int)).bind λx2 =>
 ((bif decide (0<x2) then ((idx a0 (aL (x2 - 1))).bind λcn=>some (decide (cn=ar))) else some false)).bind λjA =>
 (bif jA then
 some a0
 else
 (qs a0 0 x2).bind λcH =>
 (ed ([]:List Int) cH).bind λdL =>
 (ed (([]:List Int)++cH) [ar]).bind λdb =>
 (qs a0 x2 a0.length).bind λcS =>
 (ed ((([]:List Int)++cH)++[ar]) cS).bind λcr =>
 some ((([]:List Int)++cH)++[ar]++cS))
def yi (a0:(List Int)) (ar:Int):Option (Bool) :=
 (cI (R:=(Unit) ⊕ (Bool)) (λ(s1:Int) =>
 (bif decide (s1<(a0.length:Int)) then
 (idx a0 s1).bind λbJ =>
 (bif decide (bJ=ar) then
 some (.inr (.inr true))
 else
 some (.inl (aL (s1+1))))
 else
 some (.inr (.inl ())))) 0).bind λx2 =>
 (match x2 with
 | .inl a6 =>
 some false
 | .inr bQ =>
 some bQ)
def A_ (a0:b3):Option ((List Int)) :=
 (cI (R:=List Int) (λ(s1:List Int × Int) =>
 (bif decide (s1.2<(a0.a'.length:Int)) then
 (ed s1.1 [s1.2]).bind λb' =>
 some (.inl (s1.1++[s1.2],aL (s1.2+1)))
 else
 some (.inr s1.1))) (([]:List Int),0)).bind λx2 =>
 (cI (R:=List Int) (λ(cQ:List Int × Int) =>
 (bif decide (cQ.2<(a0.bw.length:Int)) then
 (ed cQ.1 [aL (1000+cQ.2)]).bind λbS =>
 some (.inl (cQ.1++[aL (1000+cQ.2)],aL (cQ.2+1)))
 else
 some (.inr cQ.1))) (x2,0)).bind λa_ =>
 some a_
structure Item where
 Prod:Int
 dT:Int
 deriving DecidableEq,Inhabited
def x6 (a0:b3) (ar:Item):Option (Bool) :=
 ((bif decide (0<=ar.Prod) then (bif decide (ar.Prod<(a0.a8.length:Int)) then (bif decide (0<=ar.dT) then ((idx a0.a8 ar.Prod).bind λbQ=>some (decide (ar.dT<=(bQ.fw.length:Int)))) else some false) else some false) else some false)).bind λkF =>
 some kF
def wh (a0:b3) (ar:Item):Option (Int) :=
 (((x6 a0 ar).bind λaE=>(bif !aE then some true else ((idx a0.a8 ar.Prod).bind λa6=>some (decide (ar.dT=(a6.fw.length:Int))))))).bind λc4 =>
 (bif c4 then
 some (-1)
 else
 (idx a0.a8 ar.Prod).bind λbJ =>
 (idx bJ.fw ar.dT).bind λa_ =>
 some a_)
def dA:cF Item:=⟨2,λx=>[j x.Prod,j x.dT],λ_=>rfl,λ_=>eZ.bP⟩
instance:Flat dA:=⟨λ_=>rfl⟩
instance:lV dA:=⟨λx=>(inferInstance:jZ [j x.Prod,j x.dT])⟩
instance:hr dA dA:=⟨rfl,λx=>(inferInstance:dY [j x.Prod,j x.dT] [j x.Prod,j x.dT])⟩
def v7 (a0:(List Item)) (ar:Item):Option ((List Item)) :=
 (cI (R:=Int) (λ(s1:Int) =>
 ((bif decide (0<s1) then ((idx a0 (aL (s1 - 1))).bind λb'=>(bif decide (ar.Prod<b'.Prod) then some true else ((idx a0 (aL (s1 - 1))).bind λa_=>(bif decide (a_.Prod=ar.Prod) then ((idx a0 (aL (s1 - 1))).bind λcn=>some (decide (ar.dT<cn.dT))) else some false)))) else some false)).bind λjA =>
 (bif jA then
 some (.inl (aL (s1 - 1)))
 else
 some (.inr s1))) (a0.length:Int)).bind λx2 =>
 ((bif decide (0<x2) then ((idx a0 (aL (x2 - 1))).bind λdL=>some (decide (dL.Prod=ar.Prod)&&(decide (dL.dT=ar.dT)&&true))) else some false)).bind λsk =>
 (bif sk then
 some a0
 else
 (qs a0 0 x2).bind λcr =>
 (ed ([]:List Item) cr).bind λb9 =>
 (ed (([]:List Item)++cr) [ar]).bind λeV =>
 (qs a0 x2 a0.length).bind λfv =>
 (ed ((([]:List Item)++cr)++[ar]) fv).bind λez =>
 some ((([]:List Item)++cr)++[ar]++fv))
def AB (a0:b3) (ar:(List Item)):Option ((List Item)) :=
 (cI (R:=List Item) (λ(s1:List Item × Int) =>
 (bif decide (s1.2<(ar.length:Int)) then
 ((idx ar s1.2).bind λbJ =>
 (x6 a0 bJ).bind λa_ =>
 ((bif a_ then
 (idx ar s1.2).bind λbS =>
 (v7 s1.1 bS).bind λbO =>
 some bO
 else
 some s1.1)).bind λfq =>
 some fq).bind λlM =>
 some (.inl (lM,aL (s1.2+1)))
 else
 some (.inr s1.1))) (([]:List Item),0)).bind λx2 =>
 some x2
def wg (a0:b3) (ar:(List Item)):Option ((List Item)) :=
 (AB a0 ar).bind λaE =>
 (cI (R:=List Item) (λ(s2:List Item × Int) =>
 (bif !decide (s2.2=(s2.1.length:Int)) then
 (((cI (R:=List Item) (λ(cT:List Item × Int) =>
 (bif decide (cT.2<(s2.1.length:Int)) then
 (idx cT.1 cT.2).bind λcH =>
 (wh a0 cH).bind λdL =>
 (cI (R:=List Item) (λ(iv:List Item × Int) =>
 ((bif decide (iv.2<(a0.a8.length:Int)) then some (decide (1000<=dL)) else some false)).bind λnU =>
 (bif nU then
 ((idx a0.a8 iv.2).bind λdt =>
 ((bif decide (dt.Left=aL (dL - 1000)) then
 (v7 iv.1 (⟨iv.2,0⟩:Item)).bind λfU =>
 some fU
 else
 some iv.1)).bind λn_ =>
 some n_).bind λAg =>
 some (.inl (Ag,aL (iv.2+1)))
 else
 some (.inr iv.1))) (cT.1,0)).bind λcS =>
 (bif !decide ((cS.length:Int)=(s2.1.length:Int)) then
 some (.inr cS)
 else
 some (.inl (cS,aL (cT.2+1))))
 else
 some (.inr cT.1))) (s2.1,0)).bind λcn =>
 some cn).bind λkK =>
 some (kK,(s2.1.length:Int))).bind λjq =>
 some (.inl (jq.1,jq.2))
 else
 some (.inr s2.1))) (aE,(-1))).bind λa6 =>
 some a6
def Ba (a0:b3) (ar:(List Item)) (a2:Int):Option ((List Item)) :=
 (wg a0 ar).bind λaE =>
 (cI (R:=List Item) (λ(s2:List Item × Int) =>
 (bif decide (s2.2<(aE.length:Int)) then
 ((idx aE s2.2).bind λa_ =>
 (wh a0 a_).bind λbA =>
 ((bif decide (0<=bA) then some (decide (bA=a2)) else some false)).bind λjA =>
 ((bif jA then
 (idx aE s2.2).bind λdL =>
 (idx aE s2.2).bind λdb =>
 (v7 s2.1 (⟨dL.Prod,aL (db.dT+1)⟩:Item)).bind λcS =>
 some cS
 else
 some s2.1)).bind λhg =>
 some hg).bind λjq =>
 some (.inl (jq,aL (s2.2+1)))
 else
 some (.inr s2.1))) (([]:List Item),0)).bind λa6 =>
 some a6
def AD (a0:(List Item)) (ar:(List Item)):Option (Bool) :=
 (bif !decide ((a0.length:Int)=(ar.length:Int)) then
 some false
 else
 (cI (R:=(Unit) ⊕ (Bool)) (λ(s2:Int) =>
 (bif decide (s2<(a0.length:Int)) then
 (idx a0 s2).bind λa_ =>
 (idx ar s2).bind λbA =>
 (bif !(decide (a_.Prod=bA.Prod)&&(decide (a_.dT=bA.dT)&&true)) then
 some (.inr (.inr false))
 else
 some (.inl (aL (s2+1))))
 else
 some (.inr (.inl ())))) 0).bind λa6 =>
 (match a6 with
 | .inl bQ =>
 some true
 | .inr b' =>
 some b'))
structure Move where
 Sym:Int
 hy:Int
 deriving DecidableEq,Inhabited
structure State where
 Kernel:(List Item)
 dE:(List Move)
 deriving DecidableEq,Inhabited
def iz:cF Move:=⟨2,λx=>[j x.Sym,j x.hy],λ_=>rfl,λ_=>eZ.bP⟩
instance:Flat iz:=⟨λ_=>rfl⟩
instance:lV iz:=⟨λx=>(inferInstance:jZ [j x.Sym,j x.hy])⟩
instance:hr iz iz:=⟨rfl,λx=>(inferInstance:dY [j x.Sym,j x.hy] [j x.Sym,j x.hy])⟩
def cD:cF State:=⟨2,λx=>[ai dA x.Kernel,ai iz x.dE],λ_=>rfl,λ_=>eZ.bP⟩
instance:Flat cD:=⟨λ_=>rfl⟩
instance:hr cD cD:=⟨rfl,λx=>(inferInstance:dY [ai dA x.Kernel,ai iz x.dE] [ai dA x.Kernel,ai iz x.dE])⟩
def Bb (a0:(List State)) (ar:(List Item)):Option (Int) :=
 (cI (R:=(Unit) ⊕ (Int)) (λ(s1:Int) =>
 (bif decide (s1<(a0.length:Int)) then
 (idx a0 s1).bind λbJ =>
 (AD bJ.Kernel ar).bind λa_ =>
 (bif a_ then
 some (.inr (.inr s1))
 else
 some (.inl (aL (s1+1))))
 else
 some (.inr (.inl ())))) 0).bind λx2 =>
 (match x2 with
 | .inl a6 =>
 some (-1)
 | .inr bQ =>
 some bQ)
def gF:cF State:=⟨2,λx=>[ai dA x.Kernel,ak iz x.dE],λ_=>rfl,λ_=>eZ.bP⟩
instance:hr gF cD:=⟨rfl,λx=>(inferInstance:dY [ai dA x.Kernel,ak iz x.dE] [ai dA x.Kernel,ai iz x.dE])⟩
def A3 (a0:b3):Option ((List State) × Int) :=
 (A_ a0).bind λaE =>
 (cI (R:=(List State) ⊕ (List State × Int)) (λ(s2:List State × Int) =>
 (bif decide (s2.2<(s2.1.length:Int)) then
 (idx s2.1 s2.2).bind λa_ =>
 (wg a0 a_.Kernel).bind λbA =>
 (cI (R:=List Int) (λ(mh:List Int × Int) =>
 (bif decide (mh.2<(bA.length:Int)) then
 ((idx bA mh.2).bind λdb =>
 (wh a0 db).bind λcS =>
 ((bif decide (0<=cS) then
 (pM mh.1 cS).bind λeV =>
 some eV
 else
 some mh.1)).bind λnj =>
 some nj).bind λjo =>
 some (.inl (jo,aL (mh.2+1)))
 else
 some (.inr mh.1))) (([]:List Int),0)).bind λbS =>
 (cI (R:=(List State) ⊕ (List State × Int)) (λ(ep:List State × Int) =>
 (bif decide (ep.2<(aE.length:Int)) then
 (idx aE ep.2).bind λfU =>
 (yi bS fU).bind λfo =>
 (bif !fo then
 some (.inl (ep.1,aL (ep.2+1)))
 else
 (idx ep.1 s2.2).bind λgS =>
 (idx aE ep.2).bind λdc =>
 (Ba a0 gS.Kernel dc).bind λeX =>
 (Bb ep.1 eX).bind λh2 =>
 (bif decide (h2<0) then
 (bif decide ((ep.1.length:Int)=150) then
 some (.inr (.inr (([]:List State),4)))
 else
 (ed ep.1 [(⟨eX,([]:List Move)⟩:State)]).bind λgK =>
 (idx (ep.1++[(⟨eX,([]:List Move)⟩:State)]) s2.2).bind λgW =>
 (idx aE ep.2).bind λfC =>
 (ed gW.dE [(⟨fC,(ep.1.length:Int)⟩:Move)]).bind λiR =>
 some (.inl ((ep.1++[(⟨eX,([]:List Move)⟩:State)]).set s2.2.toNat (⟨gW.Kernel,gW.dE++[(⟨fC,(ep.1.length:Int)⟩:Move)]⟩:State),aL (ep.2+1))))
 else
 (idx ep.1 s2.2).bind λjt =>
 (idx aE ep.2).bind λdm =>
 (ed jt.dE [(⟨dm,h2⟩:Move)]).bind λh' =>
 some (.inl (ep.1.set s2.2.toNat (⟨jt.Kernel,jt.dE++[(⟨dm,h2⟩:Move)]⟩:State),aL (ep.2+1)))))
 else
 some (.inr (.inl ep.1)))) (s2.1,0)).bind λez =>
 (match ez with
 | .inl dt =>
 some (.inl (dt,aL (s2.2+1)))
 | .inr gf =>
 some (.inr (.inr (gf.1,gf.2))))
 else
 some (.inr (.inl s2.1)))) ([(⟨[(⟨0,0⟩:Item)],([]:List Move)⟩:State)],0)).bind λa6 =>
 (match a6 with
 | .inl bQ =>
 some (bQ,0)
 | .inr b' =>
 some (b'.1,b'.2))
def AU (a0:Source):Option (b3 × (List State) × Bool) :=
 (A2 a0).bind λaE =>
 (bif !aE.2 then
 some (aE.1,([]:List State),false)
 else
 (A3 aE.1).bind λa6 =>
 some (aE.1,a6.1,decide (a6.2=0)))
def qi (a0:(List State)) (ar:Int) (a2:Int):Option (Int) :=
 (cI (R:=(Unit) ⊕ (Int)) (λ(s1:Int) =>
 ((bif decide (0<=ar) then (bif decide (ar<(a0.length:Int)) then ((idx a0 ar).bind λa_=>some (decide (s1<(a_.dE.length:Int)))) else some false) else some false)).bind λph =>
 (bif ph then
 (idx a0 ar).bind λbS =>
 (idx bS.dE s1).bind λbO =>
 (bif decide (bO.Sym=a2) then
 (idx a0 ar).bind λdL =>
 (idx dL.dE s1).bind λdb =>
 some (.inr (.inr db.hy))
 else
 some (.inl (aL (s1+1))))
 else
 some (.inr (.inl ())))) 0).bind λx2 =>
 (match x2 with
 | .inl a6 =>
 some (-1)
 | .inr bQ =>
 some bQ)
structure Cell where
 State:Int
 bM:Int
 gw:Int
 jc:Bool
 a8:(List Int)
 deriving DecidableEq,Inhabited
def d':cF Cell:=⟨5,λx=>[j x.State,j x.bM,j x.gw,aY x.jc,ai aI x.a8],λ_=>rfl,λ_=>eZ.bP⟩
instance:Flat d':=⟨λ_=>rfl⟩
instance:hr d' d':=⟨rfl,λx=>(inferInstance:dY [j x.State,j x.bM,j x.gw,aY x.jc,ai aI x.a8] [j x.State,j x.bM,j x.gw,aY x.jc,ai aI x.a8])⟩
instance {x:Cell}:dY (d'.cells x) [j x.State,j x.bM,j x.gw,aY x.jc,ai aI x.a8]:=(inferInstance:dY [j x.State,j x.bM,j x.gw,aY x.jc,ai aI x.a8] [j x.State,j x.bM,j x.gw,aY x.jc,ai aI x.a8])
def yh (a0:Cell):Option (Int) :=
 ((bif decide (0<=a0.gw) then
 some (aL ((a0.a8.length:Int)+1))
 else
 some (a0.a8.length:Int))).bind λjn =>
 ((bif a0.jc then
 some (aL (jn+1))
 else
 some jn)).bind λdM =>
 some dM
structure j8 where
 State:Int
 Prod:Int
 a':(List Int)
 deriving DecidableEq,Inhabited
def hR:cF j8:=⟨3,λx=>[j x.State,j x.Prod,ai aI x.a'],λ_=>rfl,λ_=>eZ.bP⟩
instance:Flat hR:=⟨λ_=>rfl⟩
instance:hr hR hR:=⟨rfl,λx=>(inferInstance:dY [j x.State,j x.Prod,ai aI x.a'] [j x.State,j x.Prod,ai aI x.a'])⟩
instance {x:j8}:dY (hR.cells x) [j x.State,j x.Prod,ai aI x.a']:=(inferInstance:dY [j x.State,j x.Prod,ai aI x.a'] [j x.State,j x.Prod,ai aI x.a'])
def AV (a0:b3) (ar:(List State)) (a2:(List j8)):Option ((List Cell)) :=
 (cI (R:=List Cell) (λ(s1:List Cell × Int) =>
 (bif decide (s1.2<(ar.length:Int)) then
 (cI (R:=List Cell) (λ(cz:List Cell × Int) =>
 (bif decide (cz.2<(a0.a'.length:Int)) then
 ((qi ar s1.2 cz.2).bind λbS =>
 (cI (R:=Bool) (λ(ke:Bool × Int) =>
 (idx ar s1.2).bind λdb =>
 (bif decide (ke.2<(db.Kernel.length:Int)) then
 (idx ar s1.2).bind λcr =>
 (idx cr.Kernel ke.2).bind λb9 =>
 ((bif ke.1 then some true else (bif decide (cz.2=0) then (bif decide (b9.Prod=0) then some (decide (b9.dT=1)) else some false) else some false))).bind λtC =>
 some (.inl (tC,aL (ke.2+1)))
 else
 some (.inr ke.1))) (false,0)).bind λcH =>
 (cI (R:=List Int) (λ(fS:List Int × Int) =>
 (bif decide (fS.2<(a2.length:Int)) then
 ((((idx a2 fS.2).bind λgS=>(bif decide (gS.State=s1.2) then ((idx a2 fS.2).bind λeX=>((yi eX.a' cz.2).bind λh2=>some h2)) else some false))).bind λsl =>
 ((bif sl then
 (idx a2 fS.2).bind λgW =>
 (pM fS.1 gW.Prod).bind λfC =>
 some fC
 else
 some fS.1)).bind λoQ =>
 some oQ).bind λey =>
 some (.inl (ey,aL (fS.2+1)))
 else
 some (.inr fS.1))) (([]:List Int),0)).bind λeW =>
 (yh (⟨s1.2,cz.2,bS,cH,eW⟩:Cell)).bind λiR =>
 ((bif decide (0<iR) then
 (ed cz.1 [(⟨s1.2,cz.2,bS,cH,eW⟩:Cell)]).bind λh' =>
 some (cz.1++[(⟨s1.2,cz.2,bS,cH,eW⟩:Cell)])
 else
 some cz.1)).bind λHj =>
 some Hj).bind λpG =>
 some (.inl (pG,aL (cz.2+1)))
 else
 some (.inr cz.1))) (s1.1,0)).bind λbJ =>
 some (.inl (bJ,aL (s1.2+1)))
 else
 some (.inr s1.1))) (([]:List Cell),0)).bind λx2 =>
 some x2
def yj (a0:(List (List Int))) (ar:(List (List Int))):Option ((List (List Int))) :=
 (cI (R:=List (List Int)) (λ(s1:List (List Int) × Bool) =>
 (bif s1.2 then
 (cI (R:=List (List Int) × Bool) (λ(cz:List (List Int) × Bool × Int) =>
 (bif decide (cz.2.2<(cz.1.length:Int)) then
 (idx ar cz.2.2).bind λcn =>
 (idx cz.1 cz.2.2).bind λbS =>
 (cI (R:=List (List Int)) (λ(ke:List (List Int) × Int) =>
 (bif decide (ke.2<(cn.length:Int)) then
 (cI (R:=List (List Int)) (λ(ja:List (List Int) × Int) =>
 (idx cn ke.2).bind λeV =>
 (idx ja.1 eV).bind λfv =>
 (bif decide (ja.2<(fv.length:Int)) then
 (idx ja.1 cz.2.2).bind λdt =>
 (idx cn ke.2).bind λgf =>
 (idx ja.1 gf).bind λeW =>
 (idx eW ja.2).bind λfU =>
 (pM dt fU).bind λfo =>
 some (.inl (ja.1.set cz.2.2.toNat fo,aL (ja.2+1)))
 else
 some (.inr ja.1))) (ke.1,0)).bind λcr =>
 some (.inl (cr,aL (ke.2+1)))
 else
 some (.inr ke.1))) (cz.1,0)).bind λcH =>
 ((bif cz.2.1 then some true else ((idx cH cz.2.2).bind λgS=>some (!decide ((gS.length:Int)=(bS.length:Int)))))).bind λxe =>
 some (.inl (cH,xe,aL (cz.2.2+1)))
 else
 some (.inr (cz.1,cz.2.1)))) (s1.1,false,0)).bind λbJ =>
 some (.inl (bJ.1,bJ.2))
 else
 some (.inr s1.1))) (a0,true)).bind λx2 =>
 some x2
structure Trans where
 State:Int
 e5:Int
 deriving DecidableEq,Inhabited
def fX:cF Trans:=⟨2,λx=>[j x.State,j x.e5],λ_=>rfl,λ_=>eZ.bP⟩
instance:Flat fX:=⟨λ_=>rfl⟩
instance:lV fX:=⟨λx=>(inferInstance:jZ [j x.State,j x.e5])⟩
instance:hr fX fX:=⟨rfl,λx=>(inferInstance:dY [j x.State,j x.e5] [j x.State,j x.e5])⟩
def pN (a0:(List State)):Option ((List Trans)) :=
 (cI (R:=List Trans) (λ(s1:List Trans × Int) =>
 (bif decide (s1.2<(a0.length:Int)) then
 (cI (R:=List Trans) (λ(cz:List Trans × Int) =>
 (idx a0 s1.2).bind λbA =>
 (bif decide (cz.2<(bA.dE.length:Int)) then
 ((idx a0 s1.2).bind λbO =>
 (idx bO.dE cz.2).bind λcH =>
 ((bif decide (1000<=cH.Sym) then
 (idx a0 s1.2).bind λcS =>
 (idx cS.dE cz.2).bind λcr =>
 (ed cz.1 [(⟨s1.2,cr.Sym⟩:Trans)]).bind λb9 =>
 some (cz.1++[(⟨s1.2,cr.Sym⟩:Trans)])
 else
 some cz.1)).bind λjo =>
 some jo).bind λly =>
 some (.inl (ly,aL (cz.2+1)))
 else
 some (.inr cz.1))) (s1.1,0)).bind λbJ =>
 some (.inl (bJ,aL (s1.2+1)))
 else
 some (.inr s1.1))) (([]:List Trans),0)).bind λx2 =>
 some x2
def AE (a0:(List Item)):Option (Bool) :=
 (cI (R:=(Unit) ⊕ (Bool)) (λ(s1:Int) =>
 (bif decide (s1<(a0.length:Int)) then
 (((idx a0 s1).bind λbJ=>(bif decide (bJ.Prod=0) then ((idx a0 s1).bind λbA=>some (decide (bA.dT=1))) else some false))).bind λsn =>
 (bif sn then
 some (.inr (.inr true))
 else
 some (.inl (aL (s1+1))))
 else
 some (.inr (.inl ())))) 0).bind λx2 =>
 (match x2 with
 | .inl a6 =>
 some false
 | .inr bQ =>
 some bQ)
def Bc (a0:(List State)):Option ((List (List Int))) :=
 (pN a0).bind λaE =>
 (cI (R:=List (List Int)) (λ(s2:List (List Int) × Int) =>
 (bif decide (s2.2<(aE.length:Int)) then
 (idx aE s2.2).bind λbJ =>
 (idx aE s2.2).bind λa_ =>
 (qi a0 bJ.State a_.e5).bind λbA =>
 (idx a0 bA).bind λcn =>
 (AE cn.Kernel).bind λbS =>
 ((bif bS then
 (ed ([]:List Int) [0]).bind λdL =>
 some [0]
 else
 some ([]:List Int))).bind λhg =>
 (cI (R:=List Int) (λ(iv:List Int × Int) =>
 (idx a0 bA).bind λb9 =>
 (bif decide (iv.2<(b9.dE.length:Int)) then
 ((idx a0 bA).bind λez =>
 (idx ez.dE iv.2).bind λdt =>
 ((bif decide (dt.Sym<1000) then
 (idx a0 bA).bind λfU =>
 (idx fU.dE iv.2).bind λfo =>
 (pM iv.1 fo.Sym).bind λgV =>
 some gV
 else
 some iv.1)).bind λn_ =>
 some n_).bind λfQ =>
 some (.inl (fQ,aL (iv.2+1)))
 else
 some (.inr iv.1))) (hg,0)).bind λcS =>
 (ed s2.1 [cS]).bind λgS =>
 some (.inl (s2.1++[cS],aL (s2.2+1)))
 else
 some (.inr s2.1))) (([]:List (List Int)),0)).bind λa6 =>
 some a6
def x9 (a0:(List Bool)) (ar:(List Int)):Option (Bool) :=
 (cI (R:=(Unit) ⊕ (Bool)) (λ(s1:Int) =>
 (bif decide (s1<(ar.length:Int)) then
 (((idx ar s1).bind λbJ=>(bif decide (bJ<1000) then some true else ((idx ar s1).bind λbA=>((idx a0 (aL (bA - 1000))).bind λcn=>some (!cn)))))).bind λjA =>
 (bif jA then
 some (.inr (.inr false))
 else
 some (.inl (aL (s1+1))))
 else
 some (.inr (.inl ())))) 0).bind λx2 =>
 (match x2 with
 | .inl a6 =>
 some true
 | .inr bQ =>
 some bQ)
def x7 (a0:b3):Option ((List Bool)) :=
 (oR (a0.bw.length:Int) false).bind λaE =>
 (cI (R:=List Bool) (λ(s2:List Bool × Bool) =>
 (bif s2.2 then
 (cI (R:=List Bool × Bool) (λ(cQ:List Bool × Bool × Int) =>
 (bif decide (cQ.2.2<(a0.a8.length:Int)) then
 ((idx a0.a8 cQ.2.2).bind λbO =>
 (((idx cQ.1 bO.Left).bind λcH=>(bif !cH then ((x9 cQ.1 bO.fw).bind λdb=>some db) else some false))).bind λtB =>
 ((bif tB then
 (idx cQ.1 bO.Left).bind λeV =>
 some (cQ.1.set bO.Left.toNat true,true)
 else
 some (cQ.1,cQ.2.1))).bind λnj =>
 some (nj.1,nj.2)).bind λly =>
 some (.inl (ly.1,ly.2,aL (cQ.2.2+1)))
 else
 some (.inr (cQ.1,cQ.2.1)))) (s2.1,false,0)).bind λa_ =>
 some (.inl (a_.1,a_.2))
 else
 some (.inr s2.1))) (aE,true)).bind λa6 =>
 some a6
def x8 (a0:(List Trans)) (ar:Int) (a2:Int):Option (Int) :=
 (cI (R:=(Unit) ⊕ (Int)) (λ(s1:Int) =>
 (bif decide (s1<(a0.length:Int)) then
 (((idx a0 s1).bind λbJ=>(bif decide (bJ.State=ar) then ((idx a0 s1).bind λbA=>some (decide (bA.e5=a2))) else some false))).bind λsn =>
 (bif sn then
 some (.inr (.inr s1))
 else
 some (.inl (aL (s1+1))))
 else
 some (.inr (.inl ())))) 0).bind λx2 =>
 (match x2 with
 | .inl a6 =>
 some (-1)
 | .inr bQ =>
 some bQ)
def Bd (a0:b3) (ar:(List State)):Option ((List (List Int))) :=
 (pN ar).bind λaE =>
 (x7 a0).bind λx2 =>
 (cI (R:=List (List Int)) (λ(df:List (List Int) × Int) =>
 (bif decide (df.2<(aE.length:Int)) then
 (idx aE df.2).bind λa_ =>
 (idx aE df.2).bind λbA =>
 (qi ar a_.State bA.e5).bind λcn =>
 (cI (R:=List Int) (λ(dC:List Int × Int) =>
 (idx ar cn).bind λdL =>
 (bif decide (dC.2<(dL.dE.length:Int)) then
 ((idx ar cn).bind λcr =>
 (idx cr.dE dC.2).bind λb9 =>
 ((bif decide (1000<=b9.Sym) then ((idx x2 (aL (b9.Sym - 1000))).bind λfv=>some fv) else some false)).bind λER =>
 ((bif ER then
 (x8 aE cn b9.Sym).bind λeW =>
 (pM dC.1 eW).bind λfU =>
 some fU
 else
 some dC.1)).bind λoP =>
 some oP).bind λqf =>
 some (.inl (qf,aL (dC.2+1)))
 else
 some (.inr dC.1))) (([]:List Int),0)).bind λbO =>
 (ed df.1 [bO]).bind λfo =>
 some (.inl (df.1++[bO],aL (df.2+1)))
 else
 some (.inr df.1))) (([]:List (List Int)),0)).bind λbQ =>
 some bQ
def yk (a0:(List State)) (ar:Int) (a2:(List Int)):Option (Int) :=
 (cI (R:=Int) (λ(s1:Int × Int) =>
 ((bif decide (s1.2<(a2.length:Int)) then some (decide (0<=s1.1)) else some false)).bind λkF =>
 (bif kF then
 (idx a2 s1.2).bind λa_ =>
 (qi a0 s1.1 a_).bind λbA =>
 some (.inl (bA,aL (s1.2+1)))
 else
 some (.inr s1.1))) (ar,0)).bind λx2 =>
 some x2
def Be (a0:b3) (ar:(List State)):Option ((List (List Int))) :=
 (pN ar).bind λaE =>
 (x7 a0).bind λx2 =>
 (oR (aE.length:Int) ([]:List Int)).bind λa6 =>
 (cI (R:=List (List Int)) (λ(bU:List (List Int) × Int) =>
 (bif decide (bU.2<(aE.length:Int)) then
 (cI (R:=List (List Int)) (λ(cT:List (List Int) × Int) =>
 (bif decide (cT.2<(a0.a8.length:Int)) then
 ((idx a0.a8 cT.2).bind λdL =>
 (idx a0.a8 cT.2).bind λdb =>
 (idx aE bU.2).bind λcS =>
 (bif !decide (aL (1000+db.Left)=cS.e5) then
 some cT.1
 else
 (cI (R:=List (List Int)) (λ(iO:List (List Int) × Int) =>
 (bif decide (iO.2<(dL.fw.length:Int)) then
 ((((idx dL.fw iO.2).bind λgf=>(bif decide (gf<1000) then some true else ((qs dL.fw (aL (iO.2+1)) dL.fw.length).bind λfU=>((x9 x2 fU).bind λfo=>some (!fo)))))).bind λCj =>
 (bif Cj then
 some iO.1
 else
 (idx aE bU.2).bind λdc =>
 (qs dL.fw 0 iO.2).bind λeX =>
 (yk ar dc.State eX).bind λh2 =>
 ((bif decide (0<=h2) then
 (idx dL.fw iO.2).bind λgK =>
 (x8 aE h2 gK).bind λgW =>
 ((bif decide (0<=gW) then
 (idx iO.1 gW).bind λjt =>
 (pM jt bU.2).bind λdm =>
 some (iO.1.set gW.toNat dm)
 else
 some iO.1)).bind λHi =>
 some Hi
 else
 some iO.1)).bind λvM =>
 some vM)).bind λoP =>
 some (.inl (oP,aL (iO.2+1)))
 else
 some (.inr iO.1))) (cT.1,0)).bind λeV =>
 some eV)).bind λfy =>
 some (.inl (fy,aL (cT.2+1)))
 else
 some (.inr cT.1))) (bU.1,0)).bind λcn =>
 some (.inl (cn,aL (bU.2+1)))
 else
 some (.inr bU.1))) (a6,0)).bind λb' =>
 some b'
def A4 (a0:b3) (ar:(List State)):Option ((List (List Int))) :=
 (Bc ar).bind λaE =>
 (Bd a0 ar).bind λx2 =>
 (yj aE x2).bind λa6 =>
 (Be a0 ar).bind λbQ =>
 (yj a6 bQ).bind λb' =>
 some b'
def A5 (a0:b3) (ar:(List Item)):Option ((List Int)) :=
 (wg a0 ar).bind λaE =>
 (cI (R:=List Int) (λ(s2:List Int × Int) =>
 (bif decide (s2.2<(aE.length:Int)) then
 ((((idx aE s2.2).bind λa_=>(bif decide (0<a_.Prod) then ((idx aE s2.2).bind λcn=>((idx aE s2.2).bind λbS=>((idx a0.a8 bS.Prod).bind λbO=>some (decide (cn.dT=(bO.fw.length:Int)))))) else some false))).bind λu9 =>
 ((bif u9 then
 (idx aE s2.2).bind λcS =>
 (ed s2.1 [cS.Prod]).bind λcr =>
 some (s2.1++[cS.Prod])
 else
 some s2.1)).bind λjo =>
 some jo).bind λjq =>
 some (.inl (jq,aL (s2.2+1)))
 else
 some (.inr s2.1))) (([]:List Int),0)).bind λa6 =>
 some a6
def A6 (a0:b3) (ar:(List State)) (a2:Int) (a3:Int):Option ((List Int)) :=
 ((bif decide (a2<0) then some true else (bif decide ((ar.length:Int)<=a2) then some true else (bif decide (a3<1) then some true else some (decide ((a0.a8.length:Int)<=a3)))))).bind λc4 =>
 (bif c4 then
 some ([]:List Int)
 else
 (pN ar).bind λbJ =>
 (cI (R:=List Int) (λ(e4:List Int × Int) =>
 (bif decide (e4.2<(bJ.length:Int)) then
 ((((idx bJ e4.2).bind λcH=>((idx a0.a8 a3).bind λdL=>(bif decide (cH.e5=aL (1000+dL.Left)) then ((idx bJ e4.2).bind λcS=>((idx a0.a8 a3).bind λcr=>((yk ar cS.State cr.fw).bind λb9=>some (decide (b9=a2))))) else some false)))).bind λnU =>
 ((bif nU then
 (ed e4.1 [e4.2]).bind λdt =>
 some (e4.1++[e4.2])
 else
 some e4.1)).bind λfQ =>
 some fQ).bind λhg =>
 some (.inl (hg,aL (e4.2+1)))
 else
 some (.inr e4.1))) (([]:List Int),0)).bind λbA =>
 some bA)
def AW (a0:b3) (ar:(List State)):Option ((List j8)) :=
 (A4 a0 ar).bind λaE =>
 (cI (R:=List j8) (λ(s2:List j8 × Int) =>
 (bif decide (s2.2<(ar.length:Int)) then
 (idx ar s2.2).bind λbJ =>
 (A5 a0 bJ.Kernel).bind λa_ =>
 (cI (R:=List j8) (λ(cT:List j8 × Int) =>
 (bif decide (cT.2<(a_.length:Int)) then
 (idx a_ cT.2).bind λcH =>
 (idx a_ cT.2).bind λdL =>
 (A6 a0 ar s2.2 dL).bind λdb =>
 (cI (R:=List Int) (λ(ja:List Int × Int) =>
 (bif decide (ja.2<(db.length:Int)) then
 (cI (R:=List Int) (λ(ep:List Int × Int) =>
 (idx db ja.2).bind λgf =>
 (idx aE gf).bind λeW =>
 (bif decide (ep.2<(eW.length:Int)) then
 (idx db ja.2).bind λfo =>
 (idx aE fo).bind λgV =>
 (idx gV ep.2).bind λgS =>
 (pM ep.1 gS).bind λdc =>
 some (.inl (dc,aL (ep.2+1)))
 else
 some (.inr ep.1))) (ja.1,0)).bind λez =>
 some (.inl (ez,aL (ja.2+1)))
 else
 some (.inr ja.1))) (([]:List Int),0)).bind λcr =>
 (ed cT.1 [(⟨s2.2,cH,cr⟩:j8)]).bind λeX =>
 some (.inl (cT.1++[(⟨s2.2,cH,cr⟩:j8)],aL (cT.2+1)))
 else
 some (.inr cT.1))) (s2.1,0)).bind λcn =>
 some (.inl (cn,aL (s2.2+1)))
 else
 some (.inr s2.1))) (([]:List j8),0)).bind λa6 =>
 some a6
def uB (a0:Source):Option (b3 × (List State) × (List Cell) × Bool) :=
 (AU a0).bind λaE =>
 (bif !aE.2.2 then
 some (aE.1,([]:List State),([]:List Cell),false)
 else
 (AW aE.1 aE.2.1).bind λa6 =>
 (AV aE.1 aE.2.1 a6).bind λbQ =>
 some (aE.1,aE.2.1,bQ,true))
def Bf (a0:b3) (ar:Int):Option (Int × Int) :=
 ((bif decide (ar<0) then some true else (bif decide ((a0.a8.length:Int)<=ar) then some true else ((idx a0.a8 ar).bind λa6=>some (decide (a6.Prec<0)))))).bind λc4 =>
 (bif c4 then
 some (0,0)
 else
 (idx a0.a8 ar).bind λbJ =>
 (idx a0.a' bJ.Prec).bind λa_ =>
 some (a_.Level,a_.fh))
def A7 (a0:b3) (ar:Int) (a2:Int):Option (Int) :=
 (Bf a0 ar).bind λaE =>
 ((bif decide (aE.1=0) then some true else (bif decide (a2<0) then some true else (bif decide ((a0.a'.length:Int)<=a2) then some true else ((idx a0.a' a2).bind λb'=>some (decide (b'.Level=0))))))).bind λsm =>
 (bif sm then
 some 0
 else
 (idx a0.a' a2).bind λbA =>
 (bif decide (aE.1<bA.Level) then
 some 1
 else
 (bif decide (bA.Level<aE.1) then
 some 2
 else
 (bif decide (bA.fh=1) then
 some 2
 else
 (bif decide (bA.fh=2) then
 some 1
 else
 some 3)))))
structure dy where
 State:Int
 bM:Int
 fN:Int
 Drop:Int
 deriving DecidableEq,Inhabited
def c':cF dy:=⟨4,λx=>[j x.State,j x.bM,j x.fN,j x.Drop],λ_=>rfl,λ_=>eZ.bP⟩
instance:Flat c':=⟨λ_=>rfl⟩
instance:lV c':=⟨λx=>(inferInstance:jZ [j x.State,j x.bM,j x.fN,j x.Drop])⟩
instance:hr c' c':=⟨rfl,λx=>(inferInstance:dY [j x.State,j x.bM,j x.fN,j x.Drop] [j x.State,j x.bM,j x.fN,j x.Drop])⟩
instance {x:dy}:dY (c'.cells x) [j x.State,j x.bM,j x.fN,j x.Drop]:=(inferInstance:dY [j x.State,j x.bM,j x.fN,j x.Drop] [j x.State,j x.bM,j x.fN,j x.Drop])
def yf (a0:b3) (ar:Cell):Option (Act × (List dy)) :=
 (cI (R:=List dy) (λ(s1:List dy × Int) =>
 (bif decide (s1.2<(ar.a8.length:Int)) then
 (idx ar.a8 0).bind λb' =>
 (idx ar.a8 s1.2).bind λbJ =>
 (ed s1.1 [(⟨ar.State,ar.bM,b',bJ⟩:dy)]).bind λa_ =>
 some (.inl (s1.1++[(⟨ar.State,ar.bM,b',bJ⟩:dy)],aL (s1.2+1)))
 else
 some (.inr s1.1))) (([]:List dy),1)).bind λx2 =>
 ((bif ar.jc then
 some (3,0)
 else
 some (1,ar.gw))).bind λfq =>
 (bif decide ((ar.a8.length:Int)=0) then
 some ((⟨fq.1,fq.2⟩:Act),x2)
 else
 (idx ar.a8 0).bind λbO =>
 ((bif decide (ar.gw<0) then some (!ar.jc) else some false)).bind λlZ =>
 (bif lZ then
 some ((⟨2,bO⟩:Act),x2)
 else
 (A7 a0 bO ar.bM).bind λcS =>
 ((bif ar.jc then some true else some (decide (cS=0)))).bind λCg =>
 (bif Cg then
 (ed x2 [(⟨ar.State,ar.bM,(-1),bO⟩:dy)]).bind λfv =>
 some ((⟨fq.1,fq.2⟩:Act),x2++[(⟨ar.State,ar.bM,(-1),bO⟩:dy)])
 else
 (bif decide (cS=2) then
 some ((⟨2,bO⟩:Act),x2)
 else
 (bif decide (cS=3) then
 some ((⟨4,0⟩:Act),x2)
 else
 some ((⟨fq.1,fq.2⟩:Act),x2))))))
structure iH where
 eg:(List (List Act))
 dp:(List (List Int))
 deriving DecidableEq,Inhabited
def cC:cF Act:=⟨2,λx=>[j x.Kind,j x.N],λ_=>rfl,λ_=>eZ.bP⟩
instance:Flat cC:=⟨λ_=>rfl⟩
instance:lV cC:=⟨λx=>(inferInstance:jZ [j x.Kind,j x.N])⟩
instance:hr cC cC:=⟨rfl,λx=>(inferInstance:dY [j x.Kind,j x.N] [j x.Kind,j x.N])⟩
def yc (a0:b3) (ar:(List State)) (a2:(List Cell)):Option (iH × (List dy)) :=
 (cI (R:=List (List Act) × List (List Int) × List dy) (λ(s1:List (List Act) × List (List Int) × List dy × Int) =>
 (bif decide (s1.2.2.2<(ar.length:Int)) then
 (oR (a0.a'.length:Int) (⟨0,0⟩:Act)).bind λb' =>
 (cI (R:=List dy × List Act) (λ(cQ:List dy × List Act × Int) =>
 (bif decide (cQ.2.2<(a2.length:Int)) then
 ((idx a2 cQ.2.2).bind λbO =>
 ((bif decide (bO.State=s1.2.2.2) then
 (idx a2 cQ.2.2).bind λdb =>
 (yf a0 db).bind λcS =>
 (idx a2 cQ.2.2).bind λcr =>
 (idx cQ.2.1 cr.bM).bind λb9 =>
 (ed cQ.1 cS.2).bind λeV =>
 some (cQ.1++cS.2,cQ.2.1.set cr.bM.toNat cS.1)
 else
 some (cQ.1,cQ.2.1))).bind λfy =>
 some (fy.1,fy.2)).bind λly =>
 some (.inl (ly.1,ly.2,aL (cQ.2.2+1)))
 else
 some (.inr (cQ.1,cQ.2.1)))) (s1.2.2.1,b',0)).bind λa_ =>
 (oR (a0.bw.length:Int) 0).bind λfv =>
 (cI (R:=List Int) (λ(me:List Int × Int) =>
 (bif decide (me.2<(me.1.length:Int)) then
 (qi ar s1.2.2.2 (aL (1000+me.2))).bind λfU =>
 (idx me.1 me.2).bind λfo =>
 some (.inl (me.1.set me.2.toNat fU,aL (me.2+1)))
 else
 some (.inr me.1))) (fv,0)).bind λdt =>
 (ed s1.1 [a_.2]).bind λgV =>
 (ed s1.2.1 [dt]).bind λgS =>
 some (.inl (s1.1++[a_.2],s1.2.1++[dt],a_.1,aL (s1.2.2.2+1)))
 else
 some (.inr (s1.1,s1.2.1,s1.2.2.1)))) (([]:List (List Act)),([]:List (List Int)),([]:List dy),0)).bind λx2 =>
 some ((⟨x2.1,x2.2.1⟩:iH),x2.2.2)
def HW (a0:(List Cell)):Option (Int) :=
 (cI (R:=Int) (λ(s1:Int × Int) =>
 (bif decide (s1.2<(a0.length:Int)) then
 ((idx a0 s1.2).bind λbJ =>
 (yh bJ).bind λa_ =>
 ((bif decide (1<a_) then
 some (aL (s1.1+1))
 else
 some s1.1)).bind λfq =>
 some fq).bind λlM =>
 some (.inl (lM,aL (s1.2+1)))
 else
 some (.inr s1.1))) (0,0)).bind λx2 =>
 some x2
def MF (a0:Source):Option (b3 × iH × Int × Bool) :=
 (uB a0).bind λaE =>
 (bif !aE.2.2.2 then
 some (aE.1,(⟨([]:List (List Act)),([]:List (List Int))⟩:iH),0,false)
 else
 (yc aE.1 aE.2.1 aE.2.2.1).bind λa6 =>
 (HW aE.2.2.1).bind λbQ =>
 some (aE.1,a6.1,bQ,true))
structure gq where
 At:Int
 w3:Int
 deriving DecidableEq,Inhabited
def vj:cF gq:=⟨2,λx=>[j x.At,j x.w3],λ_=>rfl,λ_=>eZ.bP⟩
instance:Flat vj:=⟨λ_=>rfl⟩
instance:lV vj:=⟨λx=>(inferInstance:jZ [j x.At,j x.w3])⟩
instance:hr vj vj:=⟨rfl,λx=>(inferInstance:dY [j x.At,j x.w3] [j x.At,j x.w3])⟩
structure Row where
 Def:Int
 Et:(List gq)
 deriving DecidableEq,Inhabited
def Fh:cF Row:=⟨2,λx=>[j x.Def,ai vj x.Et],λ_=>rfl,λ_=>eZ.bP⟩
instance:Flat Fh:=⟨λ_=>rfl⟩
instance:hr Fh Fh:=⟨rfl,λx=>(inferInstance:dY [j x.Def,ai vj x.Et] [j x.Def,ai vj x.Et])⟩
def AT (a0:(List Int)):Option (Int) :=
 (cI (R:=Int) (λ(s1:(List (Int × Int)) × Int × Int) =>
 (bif decide (s1.2.2<(a0.length:Int)) then
 ((idx a0 s1.2.2).bind λbJ =>
 (s5 q2 0 s1.1 bJ).bind λa_ =>
 (Ar q2 s1.1 bJ (aL (a_+1))).bind λbA =>
 (s5 q2 0 bA bJ).bind λcn =>
 (s5 q2 0 bA s1.2.1).bind λbS =>
 ((bif decide (s1.2.1<0) then some true else (bif decide (0<aL (cn - bS)) then some true else (bif decide (aL (cn - bS)=0) then some (decide (bJ<s1.2.1)) else some false)))).bind λsk =>
 ((bif sk then
 some bJ
 else
 some s1.2.1)).bind λqf =>
 some (bA,qf)).bind λlM =>
 some (.inl (lM.1,lM.2,aL (s1.2.2+1)))
 else
 some (.inr s1.2.1))) (([]:List (Int × Int)),(-1),0)).bind λx2 =>
 some x2
def MG (a0:iH):Option ((List Row)) :=
 (cI (R:=List Row) (λ(s1:List Row × Int) =>
 (bif decide (s1.2<(a0.eg.length:Int)) then
 (idx a0.eg s1.2).bind λb' =>
 (cI (R:=List Int) (λ(cQ:List Int × Int) =>
 (bif decide (cQ.2<(b'.length:Int)) then
 ((idx b' cQ.2).bind λbO =>
 ((bif decide (bO.Kind=2) then
 (ed cQ.1 [bO.N]).bind λdb =>
 some (cQ.1++[bO.N])
 else
 some cQ.1)).bind λfy =>
 some fy).bind λly =>
 some (.inl (ly,aL (cQ.2+1)))
 else
 some (.inr cQ.1))) (([]:List Int),0)).bind λa_ =>
 (AT a_).bind λcS =>
 (cI (R:=List gq) (λ(mc:List gq × Int) =>
 (bif decide (mc.2<(b'.length:Int)) then
 ((idx b' mc.2).bind λdt =>
 ((bif !decide (dt.Kind=0) then (bif !decide (dt.Kind=2) then some true else some (!decide (dt.N=cS))) else some false)).bind λxd =>
 ((bif xd then
 (DI dt).bind λgS =>
 (ed mc.1 [(⟨mc.2,gS⟩:gq)]).bind λdc =>
 some (mc.1++[(⟨mc.2,gS⟩:gq)])
 else
 some mc.1)).bind λHg =>
 some Hg).bind λAg =>
 some (.inl (Ag,aL (mc.2+1)))
 else
 some (.inr mc.1))) (([]:List gq),0)).bind λb9 =>
 (ed s1.1 [(⟨cS,b9⟩:Row)]).bind λeX =>
 some (.inl (s1.1++[(⟨cS,b9⟩:Row)],aL (s1.2+1)))
 else
 some (.inr s1.1))) (([]:List Row),0)).bind λx2 =>
 some x2
def MI (a0:iH):Option ((List Row)) :=
 (bif decide ((a0.dp.length:Int)=0) then
 some ([]:List Row)
 else
 (idx a0.dp 0).bind λx2 =>
 (cI (R:=List Row) (λ(df:List Row × Int) =>
 (bif decide (df.2<(x2.length:Int)) then
 (cI (R:=List Int) (λ(e4:List Int × Int) =>
 (bif decide (e4.2<(a0.dp.length:Int)) then
 ((idx a0.dp e4.2).bind λcH =>
 (idx cH df.2).bind λdL =>
 ((bif decide (0<=dL) then
 (idx cH df.2).bind λcr =>
 (ed e4.1 [cr]).bind λb9 =>
 some (e4.1++[cr])
 else
 some e4.1)).bind λdG =>
 some dG).bind λhg =>
 some (.inl (hg,aL (e4.2+1)))
 else
 some (.inr e4.1))) (([]:List Int),0)).bind λbA =>
 (AT bA).bind λeV =>
 (cI (R:=List gq) (λ(ep:List gq × Int) =>
 (bif decide (ep.2<(a0.dp.length:Int)) then
 ((idx a0.dp ep.2).bind λfU =>
 (((idx fU df.2).bind λfo=>(bif decide (0<=fo) then ((idx fU df.2).bind λgS=>some (!decide (gS=eV))) else some false))).bind λxe =>
 ((bif xe then
 (idx fU df.2).bind λjb =>
 (ed ep.1 [(⟨ep.2,jb⟩:gq)]).bind λdk =>
 some (ep.1++[(⟨ep.2,jb⟩:gq)])
 else
 some ep.1)).bind λvL =>
 some vL).bind λUj =>
 some (.inl (Uj,aL (ep.2+1)))
 else
 some (.inr ep.1))) (([]:List gq),0)).bind λez =>
 (ed df.1 [(⟨eV,ez⟩:Row)]).bind λgK =>
 some (.inl (df.1++[(⟨eV,ez⟩:Row)],aL (df.2+1)))
 else
 some (.inr df.1))) (([]:List Row),0)).bind λbQ =>
 some bQ)
def s6 (a0:Int) (ar:Int):Option (Int) :=
 (qk a0 ar).bind λaE =>
 ((bif decide (aE<0) then
 some (aL (aE+ar))
 else
 some aE)).bind λHf =>
 some Hf
def nG (a0:Act):Option (Int) :=
 ((bif decide (a0.Kind=1) then (bif decide (0<=a0.N) then some (decide (a0.N<=19999)) else some false) else some false)).bind λk1 =>
 (bif k1 then
 some (aL (a0.N+1))
 else
 ((bif decide (a0.Kind=2) then (bif decide (1<=a0.N) then some (decide (a0.N<=19999)) else some false) else some false)).bind λnV =>
 (bif nV then
 some (aL (-a0.N))
 else
 ((bif decide (a0.Kind=3) then some (decide (a0.N=0)) else some false)).bind λjA =>
 (bif jA then
 some 20001
 else
 ((bif decide (a0.Kind=4) then some (decide (a0.N=0)) else some false)).bind λlZ =>
 (bif lZ then
 some 20002
 else
 some 0))))
def wa (a0:Int):Option (Act) :=
 ((bif decide (1<=a0) then some (decide (a0<=20000)) else some false)).bind λc2 =>
 (bif c2 then
 some (⟨1,aL (a0 - 1)⟩:Act)
 else
 ((bif decide (a0<=(-1)) then some (decide ((-19999)<=a0)) else some false)).bind λkF =>
 (bif kF then
 some (⟨2,aL (-a0)⟩:Act)
 else
 (bif decide (a0=20001) then
 some (⟨3,0⟩:Act)
 else
 (bif decide (a0=20002) then
 some (⟨4,0⟩:Act)
 else
 some (⟨0,0⟩:Act)))))
def rX (a0:ByteArray) (ar:Int):Option (ByteArray) :=
 (bif decide (ar<(a0.size:Int)) then
 (rE a0 0 ar).bind λx2 =>
 some x2
 else
 some a0)
def wc (a0:Sym):Option (Sym) :=
 (rX a0.Name 25).bind λaE =>
 some (⟨aE,a0.Lit,a0.cM,a0.At⟩:Sym)
def AM (a0:Source):Option (Source) :=
 (rX a0.bx 40).bind λaE =>
 (rX a0.bB 40).bind λx2 =>
 (cI (R:=List Decl) (λ(df:List Decl × Int) =>
 ((bif decide (df.2<(a0.Decls.length:Int)) then some (decide (df.2<8)) else some false)).bind λnV =>
 (bif nV then
 (idx a0.Decls df.2).bind λcn =>
 (idx a0.Decls df.2).bind λbS =>
 (rX bS.Tag 25).bind λbO =>
 (idx a0.Decls df.2).bind λcH =>
 (cI (R:=List Sym) (λ(fm:List Sym × Int) =>
 (((idx a0.Decls df.2).bind λcr=>(bif decide (fm.2<(cr.e0.length:Int)) then some (decide (fm.2<6)) else some false))).bind λnU =>
 (bif nU then
 (idx a0.Decls df.2).bind λez =>
 (idx ez.e0 fm.2).bind λdt =>
 (wc dt).bind λgf =>
 (ed fm.1 [gf]).bind λeW =>
 some (.inl (fm.1++[gf],aL (fm.2+1)))
 else
 some (.inr fm.1))) (([]:List Sym),0)).bind λdb =>
 (ed df.1 [(⟨cn.Kind,bO,db,cH.At⟩:Decl)]).bind λfU =>
 some (.inl (df.1++[(⟨cn.Kind,bO,db,cH.At⟩:Decl)],aL (df.2+1)))
 else
 some (.inr df.1))) (([]:List Decl),0)).bind λbQ =>
 (cI (R:=List fa) (λ(gd:List fa × Int) =>
 ((bif decide (gd.2<(a0.dw.length:Int)) then some (decide (gd.2<6)) else some false)).bind λu_ =>
 (bif u_ then
 (idx a0.dw gd.2).bind λjb =>
 (rX jb.Left 25).bind λdk =>
 (idx a0.dw gd.2).bind λgK =>
 (cI (R:=List Alt) (λ(hx:List Alt × Int) =>
 (((idx a0.dw gd.2).bind λjt=>(bif decide (hx.2<(jt.eY.length:Int)) then some (decide (hx.2<5)) else some false))).bind λu' =>
 (bif u' then
 (idx a0.dw gd.2).bind λyz =>
 (idx yz.eY hx.2).bind λbX =>
 (wc bX.Prec).bind λfF =>
 (idx a0.dw gd.2).bind λth =>
 (idx th.eY hx.2).bind λku =>
 (cI (R:=List Part) (λ(nq:List Part × Int) =>
 (((idx a0.dw gd.2).bind λIE=>((idx IE.eY hx.2).bind λIF=>(bif decide (nq.2<(IF.ia.length:Int)) then some (decide (nq.2<6)) else some false)))).bind λyX =>
 (bif yX then
 (idx a0.dw gd.2).bind λIH =>
 (idx IH.eY hx.2).bind λkv =>
 (idx kv.ia nq.2).bind λh3 =>
 (wc h3.Sym).bind λns =>
 (rX h3.Code 60).bind λkR =>
 (ed nq.1 [(⟨ns,kR,h3.At⟩:Part)]).bind λmR =>
 some (.inl (nq.1++[(⟨ns,kR,h3.At⟩:Part)],aL (nq.2+1)))
 else
 some (.inr nq.1))) (([]:List Part),0)).bind λmQ =>
 (ed hx.1 [(⟨mQ,fF,ku.At⟩:Alt)]).bind λNI =>
 some (.inl (hx.1++[(⟨mQ,fF,ku.At⟩:Alt)],aL (hx.2+1)))
 else
 some (.inr hx.1))) (([]:List Alt),0)).bind λfC =>
 (ed gd.1 [(⟨dk,fC,gK.At⟩:fa)]).bind λNJ =>
 some (.inl (gd.1++[(⟨dk,fC,gK.At⟩:fa)],aL (gd.2+1)))
 else
 some (.inr gd.1))) (([]:List fa),0)).bind λgV =>
 some (⟨aE,bQ,gV,x2⟩:Source)
def HY :Option (ByteArray) :=
 some ({ data:=#[112,113,114,115] })
def uD (a0:Int):Option (Sym) :=
 (HY ).bind λaE =>
 (qk a0 4).bind λx2 =>
 (qk a0 4).bind λa6 =>
 (rE aE x2 (aL (a6+1))).bind λbQ =>
 some (⟨bQ,true,0,0⟩:Sym)
def k2:cF Decl:=⟨4,λx=>[j x.Kind,ab x.Tag,ak c6 x.e0,j x.At],λ_=>rfl,λ_=>eZ.bP⟩
instance:hr k2 cq:=⟨rfl,λx=>(inferInstance:dY [j x.Kind,ab x.Tag,ak c6 x.e0,j x.At] [j x.Kind,ab x.Tag,ai c6 x.e0,j x.At])⟩
instance {x:Decl}:dY (k2.cells x) [j x.Kind,ab x.Tag,ai c6 x.e0,j x.At]:=(inferInstance:dY [j x.Kind,ab x.Tag,ak c6 x.e0,j x.At] [j x.Kind,ab x.Tag,ai c6 x.e0,j x.At])
def AR (a0:(List Int)):Option ((List Decl)) :=
 (cI (R:=List Decl) (λ(s1:List Decl × Int) =>
 ((bif decide (s1.2<(a0.length:Int)) then some (decide (s1.2<4)) else some false)).bind λkF =>
 (bif kF then
 ((idx a0 s1.2).bind λbA =>
 (s6 bA 8).bind λcn =>
 (qk cn 4).bind λbS =>
 (bif decide (bS=0) then
 some s1.1
 else
 ((bif decide (4<cn) then some (decide (0<(s1.1.length:Int))) else some false)).bind λlZ =>
 (bif lZ then
 (idx s1.1 (aL ((s1.1.length:Int) - 1))).bind λcS =>
 (uD s1.2).bind λcr =>
 (ed cS.e0 [cr]).bind λb9 =>
 some (s1.1.set (aL ((s1.1.length:Int) - 1)).toNat (⟨cS.Kind,cS.Tag,cS.e0++[cr],cS.At⟩:Decl))
 else
 (qk cn 4).bind λeV =>
 (uD s1.2).bind λfv =>
 (ed s1.1 [(⟨aL (1+eV),{ data:=#[] },[fv],0⟩:Decl)]).bind λez =>
 some (s1.1++[(⟨aL (1+eV),{ data:=#[] },[fv],0⟩:Decl)])))).bind λkK =>
 some (.inl (kK,aL (s1.2+1)))
 else
 some (.inr s1.1))) (([]:List Decl),0)).bind λx2 =>
 some x2
def yd (a0:Int):Option (ByteArray) :=
 some (strOfNums [ho (aL (97+a0))])
def AS (a0:Int) (ar:Int):Option (Sym) :=
 (s6 a0 14).bind λaE =>
 (bif decide (aE<5) then
 (qk aE ar).bind λa6 =>
 (yd a6).bind λbQ =>
 some (⟨bQ,false,0,0⟩:Sym)
 else
 (bif decide (aE=13) then
 some (⟨{ data:=#[101,114,114,111,114] },false,0,0⟩:Sym)
 else
 (uD (aL (aE - 5))).bind λbJ =>
 some bJ))
structure rj where
 bw:Int
 dw:(List (List Int))
 oq:(List Int)
 mn:(List Int)
 qu:Bool
 deriving DecidableEq,Inhabited
def hF:cF rj:=⟨5,λx=>[j x.bw,ai (bs aI) x.dw,ai aI x.oq,ai aI x.mn,aY x.qu],λ_=>rfl,λ_=>eZ.bP⟩
instance:Flat hF:=⟨λ_=>rfl⟩
instance:hr hF hF:=⟨rfl,λx=>(inferInstance:dY [j x.bw,ai (bs aI) x.dw,ai aI x.oq,ai aI x.mn,aY x.qu] [j x.bw,ai (bs aI) x.dw,ai aI x.oq,ai aI x.mn,aY x.qu])⟩
instance {x:rj}:dY (hF.cells x) [j x.bw,ai (bs aI) x.dw,ai aI x.oq,ai aI x.mn,aY x.qu]:=(inferInstance:dY [j x.bw,ai (bs aI) x.dw,ai aI x.oq,ai aI x.mn,aY x.qu] [j x.bw,ai (bs aI) x.dw,ai aI x.oq,ai aI x.mn,aY x.qu])
def e1:cF fa:=⟨3,λx=>[ab x.Left,ak dq x.eY,j x.At],λ_=>rfl,λ_=>eZ.bP⟩
instance:hr e1 ei:=⟨rfl,λx=>(inferInstance:dY [ab x.Left,ak dq x.eY,j x.At] [ab x.Left,ai dq x.eY,j x.At])⟩
instance {x:fa}:dY (e1.cells x) [ab x.Left,ai dq x.eY,j x.At]:=(inferInstance:dY [ab x.Left,ak dq x.eY,j x.At] [ab x.Left,ai dq x.eY,j x.At])
def AN (a0:rj):Option (Source) :=
 (s6 a0.bw 4).bind λaE =>
 (AR a0.oq).bind λx2 =>
 (oR (aL (1+aE)) false).bind λa6 =>
 (cI (R:=List fa) (λ(bU:List fa × Int) =>
 (bif decide (bU.2<aL (1+aE)) then
 (yd bU.2).bind λbA =>
 (ed bU.1 [(⟨bA,([]:List Alt),0⟩:fa)]).bind λcn =>
 some (.inl (bU.1++[(⟨bA,([]:List Alt),0⟩:fa)],aL (bU.2+1)))
 else
 some (.inr bU.1))) (([]:List fa),0)).bind λb' =>
 (cI (R:=List fa × List Bool) (λ(dC:List fa × List Bool × Int) =>
 ((bif decide (dC.2.2<(a0.dw.length:Int)) then some (decide (dC.2.2<9)) else some false)).bind λsk =>
 (bif sk then
 ((idx a0.dw dC.2.2).bind λb9 =>
 (bif decide ((b9.length:Int)=0) then
 some (dC.1,dC.2.1)
 else
 (idx a0.dw dC.2.2).bind λfv =>
 (idx fv 0).bind λez =>
 (s6 ez (aL (1+aE))).bind λdt =>
 (cI (R:=List Part × Bool) (λ(fS:List Part × Bool × Int) =>
 (((idx a0.dw dC.2.2).bind λfo=>(bif decide (fS.2.2<(fo.length:Int)) then some (decide (fS.2.2<5)) else some false))).bind λCk =>
 (bif Ck then
 ((idx a0.dw dC.2.2).bind λh2 =>
 (idx h2 fS.2.2).bind λjb =>
 (AS jb (aL (1+aE))).bind λdk =>
 ((bif fS.2.1 then (bif dk.Lit then some true else some (decide (dk.Name={ data:=#[101,114,114,111,114] }))) else some false)).bind λqB =>
 (ed fS.1 [(⟨dk,{ data:=#[] },0⟩:Part)]).bind λiR =>
 ((bif decide (dC.2.2<(a0.mn.length:Int)) then (bif decide (fS.2.2=1) then ((idx a0.mn dC.2.2).bind λh'=>((qk h' 3).bind λtg=>some (decide (tg=1)))) else some false) else some false)).bind λtD =>
 ((bif tD then
 (ed (fS.1++[(⟨dk,{ data:=#[] },0⟩:Part)]) [(⟨(⟨{ data:=#[] },false,0,0⟩:Sym),{ data:=#[123,36,36,32,61,32,36,49,125] },0⟩:Part)]).bind λth =>
 some ((fS.1++[(⟨dk,{ data:=#[] },0⟩:Part)])++[(⟨(⟨{ data:=#[] },false,0,0⟩:Sym),{ data:=#[123,36,36,32,61,32,36,49,125] },0⟩:Part)])
 else
 some (fS.1++[(⟨dk,{ data:=#[] },0⟩:Part)]))).bind λHm =>
 some (Hm,qB)).bind λvL =>
 some (.inl (vL.1,vL.2,aL (fS.2.2+1)))
 else
 some (.inr (fS.1,fS.2.1)))) (([]:List Part),true,1)).bind λeW =>
 ((bif decide (dC.2.2<(a0.mn.length:Int)) then ((idx a0.mn dC.2.2).bind λo4=>((qk o4 2).bind λmQ=>some (!decide (mQ=0)))) else some false)).bind λyW =>
 ((bif yW then
 (ed eW.1 [(⟨(⟨{ data:=#[] },false,0,0⟩:Sym),{ data:=#[123,102,40,36,36,41,125] },0⟩:Part)]).bind λyA =>
 some (eW.1++[(⟨(⟨{ data:=#[] },false,0,0⟩:Sym),{ data:=#[123,102,40,36,36,41,125] },0⟩:Part)])
 else
 some eW.1)).bind λmJ =>
 (((idx dC.2.1 dt).bind λkh=>(bif kh then some (dC.2.1.set dt.toNat true) else some (dC.2.1.set dt.toNat eW.2)))).bind λxf =>
 (idx dC.1 dt).bind λkv =>
 (ed kv.eY [(⟨mJ,(⟨{ data:=#[] },false,0,0⟩:Sym),0⟩:Alt)]).bind λh3 =>
 some (dC.1.set dt.toNat (⟨kv.Left,kv.eY++[(⟨mJ,(⟨{ data:=#[] },false,0,0⟩:Sym),0⟩:Alt)],kv.At⟩:fa),xf))).bind λnj =>
 some (.inl (nj.1,nj.2,aL (dC.2.2+1)))
 else
 some (.inr (dC.1,dC.2.1)))) (b',a6,0)).bind λbO =>
 (cI (R:=List fa) (λ(ih:List fa × Int) =>
 (bif decide (ih.2<aL (1+aE)) then
 ((((idx ih.1 ih.2).bind λuU=>(bif decide ((uU.eY.length:Int)=0) then some true else ((idx bO.2 ih.2).bind λII=>(bif !II then some (!a0.qu) else some false))))).bind λEU =>
 ((bif EU then
 (idx ih.1 ih.2).bind λkx =>
 (uD ih.2).bind λky =>
 (ed kx.eY [(⟨[(⟨ky,{ data:=#[] },0⟩:Part)],(⟨{ data:=#[] },false,0,0⟩:Sym),0⟩:Alt)]).bind λBD =>
 some (ih.1.set ih.2.toNat (⟨kx.Left,kx.eY++[(⟨[(⟨ky,{ data:=#[] },0⟩:Part)],(⟨{ data:=#[] },false,0,0⟩:Sym),0⟩:Alt)],kx.At⟩:fa))
 else
 some ih.1)).bind λHq =>
 some Hq).bind λHp =>
 some (.inl (Hp,aL (ih.2+1)))
 else
 some (.inr ih.1))) (bO.1,0)).bind λkR =>
 some (⟨{ data:=#[] },x2,kR,{ data:=#[] }⟩:Source)
def ye (a0:(List Int)):Option (Int) :=
 (cI (R:=List Int) (λ(s1:List Int × Int) =>
 (bif decide (s1.2<(a0.length:Int)) then
 (idx a0 s1.2).bind λb' =>
 (pM s1.1 b').bind λbJ =>
 some (.inl (bJ,aL (s1.2+1)))
 else
 some (.inr s1.1))) (([]:List Int),0)).bind λx2 =>
 (cI (R:=Int) (λ(e4:Int × Int × Int) =>
 (bif decide (e4.2.2<(x2.length:Int)) then
 ((cI (R:=Int) (λ(yq:Int × Int) =>
 (bif decide (yq.2<(a0.length:Int)) then
 ((idx a0 yq.2).bind λb9 =>
 (idx x2 e4.2.2).bind λeV =>
 ((bif decide (b9=eV) then
 some (aL (yq.1+1))
 else
 some yq.1)).bind λfQ =>
 some fQ).bind λnj =>
 some (.inl (nj,aL (yq.2+1)))
 else
 some (.inr yq.1))) (0,0)).bind λdL =>
 ((bif decide (e4.2.1<dL) then
 (idx x2 e4.2.2).bind λeW =>
 some (eW,dL)
 else
 some (e4.1,e4.2.1))).bind λoP =>
 some (oP.1,oP.2)).bind λhg =>
 some (.inl (hg.1,hg.2,aL (e4.2.2+1)))
 else
 some (.inr e4.1))) ((-1),0,0)).bind λbA =>
 some bA
def MH (a0:iH):Option ((List Row)) :=
 (cI (R:=List Row) (λ(s1:List Row × Int) =>
 (bif decide (s1.2<(a0.eg.length:Int)) then
 (cI (R:=List Int) (λ(cz:List Int × Int) =>
 (idx a0.eg s1.2).bind λbA =>
 (bif decide (cz.2<(bA.length:Int)) then
 ((idx a0.eg s1.2).bind λbO =>
 (idx bO cz.2).bind λcH =>
 ((bif decide (cH.Kind=2) then
 (idx a0.eg s1.2).bind λcS =>
 (idx cS cz.2).bind λcr =>
 (ed cz.1 [cr.N]).bind λb9 =>
 some (cz.1++[cr.N])
 else
 some cz.1)).bind λjo =>
 some jo).bind λly =>
 some (.inl (ly,aL (cz.2+1)))
 else
 some (.inr cz.1))) (([]:List Int),0)).bind λbJ =>
 (ye bJ).bind λeV =>
 (cI (R:=List gq) (λ(ep:List gq × Int) =>
 (idx a0.eg s1.2).bind λgf =>
 (bif decide (ep.2<(gf.length:Int)) then
 ((idx a0.eg s1.2).bind λfo =>
 (idx fo ep.2).bind λgV =>
 ((bif !decide (gV.Kind=0) then (bif !decide (gV.Kind=2) then some true else some (!decide (gV.N=eV))) else some false)).bind λu_ =>
 ((bif u_ then
 (nG gV).bind λdk =>
 (ed ep.1 [(⟨ep.2,dk⟩:gq)]).bind λgK =>
 some (ep.1++[(⟨ep.2,dk⟩:gq)])
 else
 some ep.1)).bind λHh =>
 some Hh).bind λAh =>
 some (.inl (Ah,aL (ep.2+1)))
 else
 some (.inr ep.1))) (([]:List gq),0)).bind λez =>
 (ed s1.1 [(⟨eV,ez⟩:Row)]).bind λgW =>
 some (.inl (s1.1++[(⟨eV,ez⟩:Row)],aL (s1.2+1)))
 else
 some (.inr s1.1))) (([]:List Row),0)).bind λx2 =>
 some x2
def MJ (a0:iH):Option ((List Row)) :=
 (cI (R:=List Row) (λ(s1:List Row × Int) =>
 ((bif decide (0<(a0.dp.length:Int)) then ((idx a0.dp 0).bind λb'=>some (decide (s1.2<(b'.length:Int)))) else some false)).bind λsm =>
 (bif sm then
 (cI (R:=List Int) (λ(cT:List Int × Int) =>
 (bif decide (cT.2<(a0.dp.length:Int)) then
 ((idx a0.dp cT.2).bind λdL =>
 (idx dL s1.2).bind λdb =>
 ((bif decide (0<=db) then
 (idx a0.dp cT.2).bind λb9 =>
 (idx b9 s1.2).bind λeV =>
 (ed cT.1 [eV]).bind λfv =>
 some (cT.1++[eV])
 else
 some cT.1)).bind λqf =>
 some qf).bind λfy =>
 some (.inl (fy,aL (cT.2+1)))
 else
 some (.inr cT.1))) (([]:List Int),0)).bind λcn =>
 (ye cn).bind λez =>
 (cI (R:=List gq) (λ(s':List gq × Int) =>
 (bif decide (s'.2<(a0.dp.length:Int)) then
 ((idx a0.dp s'.2).bind λgV =>
 (idx gV s1.2).bind λgS =>
 ((bif decide (0<=gS) then some (!decide (gS=ez)) else some false)).bind λu_ =>
 ((bif u_ then
 (ed s'.1 [(⟨s'.2,gS⟩:gq)]).bind λdk =>
 some (s'.1++[(⟨s'.2,gS⟩:gq)])
 else
 some s'.1)).bind λHh =>
 some Hh).bind λHg =>
 some (.inl (Hg,aL (s'.2+1)))
 else
 some (.inr s'.1))) (([]:List gq),0)).bind λgf =>
 (ed s1.1 [(⟨ez,gf⟩:Row)]).bind λgK =>
 some (.inl (s1.1++[(⟨ez,gf⟩:Row)],aL (s1.2+1)))
 else
 some (.inr s1.1))) (([]:List Row),0)).bind λx2 =>
 some x2
def MK (a0:(List gq)) (ar:Int):Option (Int × Bool) :=
 (cI (R:=(Unit) ⊕ (Int × Bool)) (λ(s1:Int) =>
 (bif decide (s1<(a0.length:Int)) then
 (idx a0 s1).bind λbJ =>
 (bif decide (bJ.At=ar) then
 (idx a0 s1).bind λbA =>
 some (.inr (.inr (bA.w3,true)))
 else
 some (.inl (aL (s1+1))))
 else
 some (.inr (.inl ())))) 0).bind λx2 =>
 (match x2 with
 | .inl a6 =>
 some (0,false)
 | .inr bQ =>
 some (bQ.1,bQ.2))
def HU (a0:(List Act)) (ar:Int):Option (Int) :=
 (cI (R:=Int) (λ(s1:Int × Int) =>
 (bif decide (s1.2<(a0.length:Int)) then
 ((((idx a0 s1.2).bind λbJ=>(bif decide (bJ.Kind=2) then ((idx a0 s1.2).bind λbA=>some (decide (bA.N=ar))) else some false))).bind λsn =>
 ((bif sn then
 some (aL (s1.1+1))
 else
 some s1.1)).bind λly =>
 some ly).bind λlM =>
 some (.inl (lM,aL (s1.2+1)))
 else
 some (.inr s1.1))) (0,0)).bind λx2 =>
 some x2
def HT (a0:Int) (ar:Int):Option (Int × Int) :=
 some (IntKind.u64.wrap ((IntKind.u64.wrap ((IntKind.u64.wrap ((q9 .u64 a0 32) * (q9 .u64 ar 32)))+(q9 .u64 (IntKind.u64.wrap ((IntKind.u64.wrap ((q9 .u64 a0 32) * (ru .u64 ar 4294967295)))+(q9 .u64 (IntKind.u64.wrap ((ru .u64 a0 4294967295) * (ru .u64 ar 4294967295))) 32))) 32)))+(q9 .u64 (IntKind.u64.wrap ((ru .u64 (IntKind.u64.wrap ((IntKind.u64.wrap ((q9 .u64 a0 32) * (ru .u64 ar 4294967295)))+(q9 .u64 (IntKind.u64.wrap ((ru .u64 a0 4294967295) * (ru .u64 ar 4294967295))) 32))) 4294967295)+(IntKind.u64.wrap ((ru .u64 a0 4294967295) * (q9 .u64 ar 32))))) 32)),IntKind.u64.wrap (a0 * ar))
def H2 (a0:Int) (ar:Int):Option (Int × Int) :=
 (HT a0 ar).bind λaE =>
 some (aE.1,aE.2)
def DM (a0:(List Int)) (ar:Int):Option ((List Int)) :=
 (bif decide (ar<0) then
 none
 else
 (H2 (IntKind.u64.wrap (a0.length:Int)) (IntKind.u64.wrap ar)).bind λx2 =>
 ((bif decide (0<x2.1) then some true else some (decide (9223372036854775807<x2.2)))).bind λc4 =>
 (bif c4 then
 none
 else
 (oR (aL x2.2) 0).bind λbJ =>
 (Ct 0 bJ.length bJ a0).bind λa_ =>
 (cI (R:=List Int) (λ(cT:List Int × Int) =>
 (bif decide (cT.2<(cT.1.length:Int)) then
 (um cT.1 cT.2).bind λcH =>
 (um cT.1 cT.2).bind λdL =>
 (Ct cT.2.toNat (cT.1.length - cT.2.toNat) cT.1 (cT.1.take cT.2.toNat)).bind λdb =>
 some (.inl (db,aL (cT.2+((min (cT.1.take cT.2.toNat).length (cT.1.length - cT.2.toNat):Nat):Int))))
 else
 some (.inr cT.1))) (a_,((min a0.length bJ.length:Nat):Int))).bind λcn =>
 some cn))
def AX (a0:b3) (ar:(List State)):Option (iH) :=
 (cI (R:=List (List Act) × List (List Int)) (λ(s1:List (List Act) × List (List Int) × Int) =>
 (bif decide (s1.2.2<(ar.length:Int)) then
 (idx ar s1.2.2).bind λb' =>
 (DM [(-1)] (a0.bw.length:Int)).bind λbJ =>
 (cI (R:=List Int) (λ(e4:List Int × Int) =>
 (bif decide (e4.2<(b'.dE.length:Int)) then
 ((idx b'.dE e4.2).bind λcH =>
 ((bif decide (1000<=cH.Sym) then
 (idx e4.1 (aL (cH.Sym - 1000))).bind λcS =>
 some (e4.1.set (aL (cH.Sym - 1000)).toNat cH.hy)
 else
 some e4.1)).bind λjo =>
 some jo).bind λhg =>
 some (.inl (hg,aL (e4.2+1)))
 else
 some (.inr e4.1))) (bJ,0)).bind λbA =>
 (ed s1.2.1 [bA]).bind λcr =>
 (oR (a0.a'.length:Int) (⟨0,0⟩:Act)).bind λb9 =>
 (ed s1.1 [b9]).bind λeV =>
 some (.inl (s1.1++[b9],s1.2.1++[bA],aL (s1.2.2+1)))
 else
 some (.inr (s1.1,s1.2.1)))) (([]:List (List Act)),([]:List (List Int)),0)).bind λx2 =>
 some (⟨x2.1,x2.2⟩:iH)
def yg (a0:b3) (ar:Int):Option (Int × Int) :=
 ((bif decide (ar<0) then some true else some (decide ((a0.a'.length:Int)<=ar)))).bind λc2 =>
 (bif c2 then
 some (0,0)
 else
 (idx a0.a' ar).bind λbQ =>
 (idx a0.a' ar).bind λb' =>
 some (bQ.Level,b'.fh))
def A1 (a0:b3) (ar:Int):Option (Int × Int) :=
 ((bif decide (ar<0) then some true else some (decide ((a0.a8.length:Int)<=ar)))).bind λc2 =>
 (bif c2 then
 some (0,0)
 else
 (idx a0.a8 ar).bind λbQ =>
 (yg a0 bQ.Prec).bind λb' =>
 some (b'.1,b'.2))
def AQ (a0:b3) (ar:Int) (a2:Int):Option (Int) :=
 (A1 a0 ar).bind λaE =>
 (yg a0 a2).bind λx2 =>
 ((bif decide (aE.1=0) then some true else some (decide (x2.1=0)))).bind λc4 =>
 (bif c4 then
 some 0
 else
 ((bif decide (aE.1<x2.1) then some true else (bif decide (x2.1=aE.1) then some (decide (x2.2=2)) else some false))).bind λph =>
 (bif ph then
 some 1
 else
 ((bif decide (x2.1<aE.1) then some true else some (decide (x2.2=1)))).bind λEN =>
 (bif EN then
 some 2
 else
 some 3)))
def we (a0:(List Int)):Option (Int) :=
 (bif decide ((a0.length:Int)<1) then
 none
 else
 (idx a0 0).bind λx2 =>
 (cI (R:=Int) (λ(df:Int × Int) =>
 (bif decide (df.2<(a0.length:Int)) then
 (idx a0 df.2).bind λa_ =>
 some (.inl (min df.1 a_,aL (df.2+1)))
 else
 some (.inr df.1))) (x2,1)).bind λbQ =>
 some bQ)
def AY (a0:b3) (ar:Cell):Option (Act × Bool) :=
 (bif decide ((ar.a8.length:Int)=0) then
 (bif ar.jc then
 some ((⟨3,0⟩:Act),false)
 else
 some ((⟨1,ar.gw⟩:Act),false))
 else
 (we ar.a8).bind λa6 =>
 (bif ar.jc then
 some ((⟨3,0⟩:Act),true)
 else
 (bif decide (ar.gw<0) then
 some ((⟨2,a6⟩:Act),false)
 else
 (AQ a0 a6 ar.bM).bind λbJ =>
 (bif decide (bJ=2) then
 some ((⟨2,a6⟩:Act),false)
 else
 (bif decide (bJ=3) then
 some ((⟨4,0⟩:Act),false)
 else
 (bif decide (bJ=1) then
 some ((⟨1,ar.gw⟩:Act),false)
 else
 some ((⟨1,ar.gw⟩:Act),true)))))))
def wb (a0:b3) (ar:(List State)) (a2:(List Cell)):Option (iH × (List dy)) :=
 (AX a0 ar).bind λaE =>
 (cI (R:=List (List Act) × List dy) (λ(s2:List (List Act) × List dy × Int) =>
 (bif decide (s2.2.2<(a2.length:Int)) then
 ((idx a2 s2.2.2).bind λa_ =>
 (AY a0 a_).bind λbA =>
 (idx s2.1 a_.State).bind λcn =>
 (idx cn a_.bM).bind λbS =>
 (bif decide ((a_.a8.length:Int)=0) then
 some (s2.1.set a_.State.toNat (cn.set a_.bM.toNat bA.1),s2.2.1)
 else
 (we a_.a8).bind λcH =>
 (cI (R:=List dy) (λ(fm:List dy × Int) =>
 (bif decide (fm.2<(a_.a8.length:Int)) then
 ((idx a_.a8 fm.2).bind λeV =>
 ((bif !decide (eV=cH) then
 (ed fm.1 [(⟨a_.State,a_.bM,cH,eV⟩:dy)]).bind λdt =>
 some (fm.1++[(⟨a_.State,a_.bM,cH,eV⟩:dy)])
 else
 some fm.1)).bind λfQ =>
 some fQ).bind λs3 =>
 some (.inl (s3,aL (fm.2+1)))
 else
 some (.inr fm.1))) (s2.2.1,0)).bind λdb =>
 ((bif bA.2 then
 (ed db [(⟨a_.State,a_.bM,(-1),cH⟩:dy)]).bind λfU =>
 some (db++[(⟨a_.State,a_.bM,(-1),cH⟩:dy)])
 else
 some db)).bind λn_ =>
 some (s2.1.set a_.State.toNat (cn.set a_.bM.toNat bA.1),n_))).bind λjq =>
 some (.inl (jq.1,jq.2,aL (s2.2.2+1)))
 else
 some (.inr (s2.1,s2.2.1)))) (aE.eg,([]:List dy),0)).bind λa6 =>
 some ((⟨a6.1,aE.dp⟩:iH),a6.2)
def uC (a0:(List dy)):Option (Int × Int) :=
 (cI (R:=Int) (λ(s1:Int × Int) =>
 (bif decide (s1.2<(a0.length:Int)) then
 ((idx a0 s1.2).bind λbJ =>
 ((bif decide (bJ.fN=(-1)) then
 some (aL (s1.1+1))
 else
 some s1.1)).bind λkK =>
 some kK).bind λlM =>
 some (.inl (lM,aL (s1.2+1)))
 else
 some (.inr s1.1))) (0,0)).bind λx2 =>
 some (x2,aL ((a0.length:Int) - x2))
def HV (a0:(List Int)):Option (Source) :=
 (cI (R:=List Alt × List Decl) (λ(s1:List Alt × List Decl × Int) =>
 ((bif decide (s1.2.2<(a0.length:Int)) then some (decide (s1.2.2<7)) else some false)).bind λkF =>
 (bif kF then
 (idx a0 s1.2.2).bind λa_ =>
 (s6 a_ 3).bind λbA =>
 (ed s1.2.1 [(⟨aL (2+bA),{ data:=#[] },[(⟨strOfNums [ho (aL (65+s1.2.2))],true,0,0⟩:Sym)],0⟩:Decl)]).bind λcn =>
 (ed s1.1 [(⟨[(⟨(⟨{ data:=#[101] },false,0,0⟩:Sym),{ data:=#[] },0⟩:Part),(⟨(⟨strOfNums [ho (aL (65+s1.2.2))],true,0,0⟩:Sym),{ data:=#[] },0⟩:Part),(⟨(⟨{ data:=#[101] },false,0,0⟩:Sym),{ data:=#[] },0⟩:Part)],(⟨{ data:=#[] },false,0,0⟩:Sym),0⟩:Alt)]).bind λbS =>
 some (.inl (s1.1++[(⟨[(⟨(⟨{ data:=#[101] },false,0,0⟩:Sym),{ data:=#[] },0⟩:Part),(⟨(⟨strOfNums [ho (aL (65+s1.2.2))],true,0,0⟩:Sym),{ data:=#[] },0⟩:Part),(⟨(⟨{ data:=#[101] },false,0,0⟩:Sym),{ data:=#[] },0⟩:Part)],(⟨{ data:=#[] },false,0,0⟩:Sym),0⟩:Alt)],s1.2.1++[(⟨aL (2+bA),{ data:=#[] },[(⟨strOfNums [ho (aL (65+s1.2.2))],true,0,0⟩:Sym)],0⟩:Decl)],aL (s1.2.2+1)))
 else
 some (.inr (s1.1,s1.2.1)))) ([(⟨[(⟨(⟨{ data:=#[120] },true,0,0⟩:Sym),{ data:=#[] },0⟩:Part)],(⟨{ data:=#[] },false,0,0⟩:Sym),0⟩:Alt)],([]:List Decl),0)).bind λx2 =>
 some (⟨{ data:=#[] },x2.2,[(⟨{ data:=#[101] },x2.1,0⟩:fa)],{ data:=#[] }⟩:Source)
def HZ (a0:(List State)) (ar:Int) (a2:Int):Option (Int) :=
 (idx a0 ar).bind λaE =>
 (cI (R:=(Unit) ⊕ (Int)) (λ(s2:Int) =>
 (bif decide (s2<(aE.dE.length:Int)) then
 (idx aE.dE s2).bind λa_ =>
 (bif decide (a_.Sym=a2) then
 some (.inr (.inr a_.hy))
 else
 some (.inl (aL (s2+1))))
 else
 some (.inr (.inl ())))) 0).bind λa6 =>
 (match a6 with
 | .inl bQ =>
 some (-1)
 | .inr b' =>
 some b')
def HX (a0:(List State)) (ar:Int) (a2:(List Int)):Option (Int) :=
 (cI (R:=(Int) ⊕ (Int)) (λ(s1:Int × Int) =>
 (bif decide (s1.2<(a2.length:Int)) then
 (idx a2 s1.2).bind λbJ =>
 (HZ a0 s1.1 bJ).bind λa_ =>
 (bif decide (a_<0) then
 some (.inr (.inr (-1)))
 else
 some (.inl (a_,aL (s1.2+1))))
 else
 some (.inr (.inl s1.1)))) (ar,0)).bind λx2 =>
 (match x2 with
 | .inl a6 =>
 some a6
 | .inr bQ =>
 some bQ)
def DL (a0:(List State)) (ar:(List Int)):Option (Int) :=
 (HX a0 0 ar).bind λaE =>
 some aE
def DJ :Option (Bool) :=
 (HV [0]).bind λaE =>
 (uB aE).bind λx2 =>
 (wb x2.1 x2.2.1 x2.2.2.1).bind λa6 =>
 (uB (⟨aE.bx,([]:List Decl),aE.dw,aE.bB⟩:Source)).bind λbQ =>
 (wb bQ.1 bQ.2.1 bQ.2.2.1).bind λb' =>
 (uC b'.2).bind λbJ =>
 ((bif !x2.2.2.2 then some true else (bif !bQ.2.2.2 then some true else (bif !decide ((a6.2.length:Int)=0) then some true else (bif !decide ((b'.2.length:Int)=1) then some true else ((idx b'.2 0).bind λbO=>(bif !decide (bO.fN=(-1)) then some true else ((idx b'.2 0).bind λdL=>(bif !decide (dL.Drop=2) then some true else (bif !decide (bJ.1=1) then some true else some (!decide (bJ.2=0)))))))))))).bind λEP =>
 (bif EP then
 some false
 else
 (DL x2.2.1 [1001,3,1001]).bind λeV =>
 ((bif decide (0<=eV) then (bif decide (eV<(a6.1.eg.length:Int)) then ((idx a6.1.eg eV).bind λdt=>(bif decide ((dt.length:Int)=5) then ((idx a6.1.eg eV).bind λeW=>((idx eW 3).bind λfU=>(bif decide (fU.Kind=2) then ((idx a6.1.eg eV).bind λgV=>((idx gV 3).bind λgS=>(bif decide (gS.N=2) then ((idx a6.1.eg eV).bind λeX=>((idx eX 4).bind λh2=>(bif decide (h2.Kind=0) then (bif decide ((a6.1.dp.length:Int)=(x2.2.1.length:Int)) then ((idx a6.1.dp 0).bind λgK=>(bif decide ((gK.length:Int)=2) then ((idx a6.1.dp 0).bind λfC=>((idx fC 1).bind λiR=>((DL x2.2.1 [1001]).bind λjt=>(bif decide (iR=jt) then ((idx a6.1.dp 0).bind λh'=>((idx h' 0).bind λtg=>some (decide (tg=(-1))))) else some false)))) else some false)) else some false) else some false))) else some false))) else some false))) else some false)) else some false) else some false)).bind λtD =>
 some tD)
def DK (a0:(List dy)):Option (Int × Int) :=
 (cI (R:=Int) (λ(s1:Int × Int) =>
 (bif decide (s1.2<(a0.length:Int)) then
 ((idx a0 s1.2).bind λbJ =>
 ((bif decide (bJ.fN=(-1)) then
 some (aL (s1.1+1))
 else
 some s1.1)).bind λkK =>
 some kK).bind λlM =>
 some (.inl (lM,aL (s1.2+1)))
 else
 some (.inr s1.1))) (0,0)).bind λx2 =>
 some (x2,aL ((a0.length:Int) - x2))
def A8 (a0:(List Int)) (ar:(List Int)):Option (Bool) :=
 (bif !decide ((a0.length:Int)=(ar.length:Int)) then
 some false
 else
 (cI (R:=(Unit) ⊕ (Bool)) (λ(s2:Int) =>
 (bif decide (s2<(a0.length:Int)) then
 (idx a0 s2).bind λa_ =>
 (idx ar s2).bind λbA =>
 (bif !decide (a_=bA) then
 some (.inr (.inr false))
 else
 some (.inl (aL (s2+1))))
 else
 some (.inr (.inl ())))) 0).bind λa6 =>
 (match a6 with
 | .inl bQ =>
 some true
 | .inr b' =>
 some b'))
def AZ (a0:(List (List Int))) (ar:(List (List Int))):Option (Bool) :=
 (bif !decide ((a0.length:Int)=(ar.length:Int)) then
 some false
 else
 (cI (R:=(Unit) ⊕ (Bool)) (λ(s2:Int) =>
 (bif decide (s2<(a0.length:Int)) then
 (idx a0 s2).bind λa_ =>
 (idx ar s2).bind λbA =>
 (A8 a_ bA).bind λcn =>
 (bif !cn then
 some (.inr (.inr false))
 else
 some (.inl (aL (s2+1))))
 else
 some (.inr (.inl ())))) 0).bind λa6 =>
 (match a6 with
 | .inl bQ =>
 some true
 | .inr b' =>
 some b'))
def A0 (a0:(List Act)) (ar:(List Act)):Option (Bool) :=
 (bif !decide ((a0.length:Int)=(ar.length:Int)) then
 some false
 else
 (cI (R:=(Unit) ⊕ (Bool)) (λ(s2:Int) =>
 (bif decide (s2<(a0.length:Int)) then
 (idx a0 s2).bind λa_ =>
 (idx ar s2).bind λbA =>
 (bif !(decide (a_.Kind=bA.Kind)&&(decide (a_.N=bA.N)&&true)) then
 some (.inr (.inr false))
 else
 some (.inl (aL (s2+1))))
 else
 some (.inr (.inl ())))) 0).bind λa6 =>
 (match a6 with
 | .inl bQ =>
 some true
 | .inr b' =>
 some b'))
def AO (a0:iH) (ar:iH):Option (Bool) :=
 ((bif !decide ((a0.eg.length:Int)=(ar.eg.length:Int)) then some true else ((AZ a0.dp ar.dp).bind λx2=>some (!x2)))).bind λk1 =>
 (bif k1 then
 some false
 else
 (cI (R:=(Unit) ⊕ (Bool)) (λ(cz:Int) =>
 (bif decide (cz<(a0.eg.length:Int)) then
 (idx a0.eg cz).bind λbS =>
 (idx ar.eg cz).bind λbO =>
 (A0 bS bO).bind λcH =>
 (bif !cH then
 some (.inr (.inr false))
 else
 some (.inl (aL (cz+1))))
 else
 some (.inr (.inl ())))) 0).bind λbJ =>
 (match bJ with
 | .inl a_ =>
 some true
 | .inr bA =>
 some bA))
def AP (a0:(List dy)) (ar:(List dy)):Option (Bool) :=
 (bif !decide ((a0.length:Int)=(ar.length:Int)) then
 some false
 else
 (cI (R:=(Unit) ⊕ (Bool)) (λ(s2:Int) =>
 (bif decide (s2<(a0.length:Int)) then
 (idx a0 s2).bind λa_ =>
 (idx ar s2).bind λbA =>
 (bif !(decide (a_.State=bA.State)&&(decide (a_.bM=bA.bM)&&(decide (a_.fN=bA.fN)&&(decide (a_.Drop=bA.Drop)&&true)))) then
 some (.inr (.inr false))
 else
 some (.inl (aL (s2+1))))
 else
 some (.inr (.inl ())))) 0).bind λa6 =>
 (match a6 with
 | .inl bQ =>
 some true
 | .inr b' =>
 some b'))
def A' (a0:Source) (ar:rj):Option (Bool) :=
 (DJ ).bind λaE =>
 (bif !aE then
 some false
 else
 (AM a0).bind λa6 =>
 (AN ar).bind λbQ =>
 (cI (R:=(Unit) ⊕ (Bool)) (λ(cz:Int) =>
 (bif decide (cz<([a6,bQ].length:Int)) then
 (idx [a6,bQ] cz).bind λbS =>
 (uB bS).bind λbO =>
 (bif !bO.2.2.2 then
 some (.inl (aL (cz+1)))
 else
 (wb bO.1 bO.2.1 bO.2.2.1).bind λdL =>
 (yc bO.1 bO.2.1 bO.2.2.1).bind λdb =>
 (uC db.2).bind λcS =>
 (DK db.2).bind λcr =>
 (((AO dL.1 db.1).bind λb9=>(bif !b9 then some true else ((AP dL.2 db.2).bind λfv=>(bif !fv then some true else (bif !decide (cS.1=cr.1) then some true else some (!decide (cS.2=cr.2)))))))).bind λES =>
 (bif ES then
 some (.inr (.inr false))
 else
 some (.inl (aL (cz+1)))))
 else
 some (.inr (.inl ())))) 0).bind λbJ =>
 (match bJ with
 | .inl a_ =>
 some true
 | .inr bA =>
 some bA))
theorem V2:DJ=some true:=by kernel_rfl
end Go.Proofs
namespace Go.Own
open Go
variable {α β S R:Type}
abbrev jw (p:S->Prop) (q:R->Prop) (x:S ⊕ R):Prop:=Sum.elim p q x
def Tot (x:Option α) (Φ:α->Prop):Prop:=∃ a,x=some a/\Φ a
namespace Tot
variable {Φ fV:α->Prop}
theorem aC {a:α}(h:Φ a):Tot (some a) Φ:=⟨a,rfl,h⟩
theorem bi {x:Option β}{f:β->Option α}(h:Tot x λa=>Tot (f a) Φ):Tot (x.bind f) Φ:=by
 obtain ⟨a,rfl,b,aJ,nB⟩:=h;exact ⟨b,aJ,nB⟩
theorem aw {f:β->Option α}{a:β}(h:Tot (f a) Φ):Tot ((some a).bind f) Φ:=h
theorem use {x:Option α}(h:Tot x fV) (hi:∀ a,fV a->Φ a):Tot x Φ:=by
 obtain ⟨a,bk,G'⟩:=h;exact ⟨a,bk,hi a G'⟩
theorem aK {x:Option β}{f:β->Option α}{Ξ:β->Prop}(h:Tot x Ξ) (hk:∀ a,Ξ a->Tot (f a) Φ):Tot (x.bind f) Φ:=bi (h.use hk)
theorem cE {c:Bool}{a b:Option α}(aG:c=true->Tot a Φ) (bp:c=false->Tot b Φ):Tot (cond c a b) Φ:=by
 cases c
 ·exact bp rfl
 ·exact aG rfl
theorem b_ {p:Prop} [Decidable p] {a b:Option α}(aG:p->Tot a Φ) (bp:¬ p->Tot b Φ):Tot (cond (decide p) a b) Φ :=
 cE (λh=>aG (of_decide_eq_true h)) (λh=>bp (of_decide_eq_false h))
theorem rB {p:Prop} [Decidable p] {a b:Option α}(aG:¬ p->Tot a Φ) (bp:p->Tot b Φ):Tot (cond (!decide p) a b) Φ :=
 cE (λh=>aG (of_decide_eq_false (by simpa using h))) (λh=>bp (of_decide_eq_true (by simpa using h)))
theorem ht {l:List α}{i:Int}(bf:0<=i) (h1:i<l.length) (hk:∀ y,idx l i=some y->y∈l->Φ y):Tot (idx l i) Φ:=by
 have bg:i.toNat<l.length:=by omega
 have:idx l i=some l[i.toNat]:=by simp [idx,bf,bg]
 exact ⟨_,this,hk _ this (List.getElem_mem bg)⟩
theorem ap {Φ:List α->Prop}{l m:List α}(h:l.length+m.length<=lim) (hk:Φ (l++m)):Tot (ed l m) Φ:=by
 refine ⟨l++m,?_,hk⟩;unfold ed;rw [if_pos h]
theorem loop {f:S->Option (S ⊕ R)}{ft:S}{fV:R->Prop}(Inv:S->Prop) (tl:S->Nat) (bf:Inv ft) (Ha:tl ft<fuel)
  (aO:∀ s,Inv s->Tot (f s) (jw (λeT=>Inv eT/\tl eT<tl s) fV)):Tot (cI f ft) fV:=by
 have key:∀ n s,Inv s->tl s<n->Tot (iter f n s) fV:=by
  intro n
  induction n with
  | zero=>intro s _ h; omega
  | succ n aR =>
   intro s bt hm;obtain ⟨x,J,di⟩:=aO s bt;cases x with
   | inl eT =>
    obtain ⟨h1,al⟩:=di;simp only [iter,J];exact aR eT h1 (by omega)
   | inr r =>
    simp only [iter,J];exact ⟨r,rfl,di⟩
 exact key fuel ft bf Ha
theorem count {f:S->Option (S ⊕ R)}{ft:S}{fV:R->Prop}(i:S->Int) (n:Int) (Inv:S->Prop) (bf:Inv ft) (aP:n - i ft<1000000000000000000)
  (aO:∀ s,Inv s->Tot (f s) (jw (λeT=>Inv eT/\i s<i eT/\i eT<=n) fV)):Tot (cI f ft) fV:=by
 refine loop Inv (λs=>(n - i s).toNat) bf (by show (n - i ft).toNat<1000000000000000000; omega) λs bt=>(aO s bt).use λx J=>?_;cases x with
 | inl eT=>exact ⟨J.1,by have:=J.2; show (n - i eT).toNat<(n - i s).toNat; omega⟩
 | inr r=>exact J
end Tot
theorem dH (n:Int):aL n=(n+9223372036854775808) % 18446744073709551616 - 9223372036854775808:=IntKind.wrap_i64 n
namespace Tot
theorem cat {Φ:ByteArray->Prop}{s u:ByteArray}(h:s.size+u.size<=4611686018427387904) (hk:Φ (s++u)):Tot (so s u) Φ:=by
 refine ⟨s++u,?_,hk⟩;unfold so;rw [if_pos h]
theorem cut {Φ:ByteArray->Prop}{s:ByteArray}{m n:Int}(h:0<=m/\m<=n/\n<=s.size) (hk:Φ (rF s m n)):Tot (rE s m n) Φ:=by
 refine ⟨_,?_,hk⟩;unfold rE;rw [if_pos h]
theorem nv {Φ:Int->Prop}{s:ByteArray}{m:Int}(h:0<=m/\m<s.size) (hk:Φ (yV s m)):Tot (kZ s m) Φ:=by
 refine ⟨_,?_,hk⟩;unfold kZ;rw [if_pos h]
theorem sub {Φ:List α->Prop}{l:List α}{m n:Int}(h:0<=m/\m<=n/\n<=l.length) (hk:Φ ((l.drop m.toNat).take (n - m).toNat)):Tot (qs l m n) Φ:=by
 refine ⟨_,?_,hk⟩;unfold qs;rw [if_pos h]
theorem rem {Φ:Int->Prop}{m n:Int}(h:n≠0) (hk:Φ (m.tmod n)):Tot (qk m n) Φ:=by
 refine ⟨_,?_,hk⟩;unfold qk;rw [if_neg h]
theorem quo {Φ:Int->Prop}{m n:Int}(h:n≠0) (hk:Φ (aL (m.tdiv n))):Tot (DR m n) Φ:=by
 refine ⟨_,?_,hk⟩;unfold DR;rw [if_neg h]
theorem s_ {Φ:Int->Prop}{m n:Int}(h:n≠0) (hk:Φ (m.tmod n)):Tot (Own.s_ m n) Φ:=by
 refine ⟨_,?_,hk⟩;unfold Own.s_;rw [if_neg h]
theorem s8 {Φ:Int->Prop}{m n:Int}(h:n≠0) (hk:Φ (IntKind.u64.wrap (m.tdiv n))):Tot (Own.s8 m n) Φ:=by
 refine ⟨_,?_,hk⟩;unfold Own.s8;rw [if_neg h]
theorem mk {Φ:List α->Prop}{m:Int}{z:α}(h:0<=m/\m<=lim) (hk:Φ (List.replicate m.toNat z)):Tot (oR m z) Φ:=by
 refine ⟨_,?_,hk⟩;unfold oR;rw [if_pos h]
theorem eq {x:Option α}{Φ:α->Prop}{a:α}(h:Tot x Φ) (e:x=some a):Φ a:=by
 obtain ⟨b,aJ,nB⟩:=h;rw [e] at aJ; cases aJ; exact nB
theorem ex {x:Option α}{Φ:α->Prop}(h:Tot x Φ):∃ a,x=some a/\Φ a:=h
end Tot
namespace Tot
theorem scan {f:Int->Option (Int ⊕ (Unit ⊕ R))}(l:List β) (P:β->Prop) (Q:R->Prop) (aq:l.length<=100000000000000000)
  (aO:∀ (s:Int) (y:β),0<=s->s<l.length->idx l s=some y->y∈l->Tot (f s) (jw (λeT=>eT=s+1/\P y) (jw (λ_=>False) Q)))
  (he:∀ s:Int,¬ s<l.length->f s=some (.inr (.inl ()))):Tot (cI f 0) (jw (λ_=>∀ y∈l,P y) Q):=by
 refine count (λs=>s) l.length (λs=>0<=s/\s<=l.length/\∀ (af:Nat) (y:β),(af:Int)<s->l[af]?=some y->P y) ⟨by omega,by omega,λaf y h=>by omega⟩ (by show (l.length:Int) - 0<_; omega) λs bt=>?_;obtain ⟨bf,h1,al⟩:=bt;by_cases bg:s<l.length
 ·have l7:s.toNat<l.length:=by omega
  have hi:idx l s=some l[s.toNat]:=by simp [idx,bf,l7]
  refine (aO s _ bf bg hi (List.getElem_mem l7)).use λx J=>?_;rcases x with eT | ⟨⟨⟩⟩ | r
  ·obtain ⟨rfl,di⟩:=J;refine ⟨⟨by omega,by omega,λaf y aa aA=>?_⟩,by show s<s+1; omega,by show s+1<=_; omega⟩;by_cases xE:(af:Int)<s
   ·exact al af y xE aA
   ·have:af=s.toNat:=by omega
    subst this;rw [List.getElem?_eq_getElem l7] at aA;cases aA; exact di
  ·exact J.elim
  ·exact J
 ·rw [he s bg];refine aC λy aA=>?_;obtain ⟨af,aa,rfl⟩:=List.mem_iff_getElem.1 aA;exact al af _ (by omega) (List.getElem?_eq_getElem aa)
end Tot
end Go.Own
namespace Go.Own
open Go
variable {α β S R:Type}
def Par (x:Option α) (Φ:α->Prop):Prop:=∀ a,x=some a->Φ a
set_option linter.unusedVariables false
namespace Par
variable {Φ fV:α->Prop}
theorem aC {a:α}(h:Φ a):Par (some a) Φ:=λb e=>by cases e; exact h
theorem no:Par (none:Option α) Φ:=λb e=>by cases e
theorem use {x:Option α}(h:Par x fV) (hi:∀ a,fV a->Φ a):Par x Φ:=λa e=>hi a (h a e)
theorem aK {x:Option β}{f:β->Option α}{Ξ:β->Prop}(h:Par x Ξ) (hk:∀ a,Ξ a->Par (f a) Φ):Par (x.bind f) Φ:=λa e=>by
 cases x with
 | none=>cases e
 | some b=>exact hk b (h b rfl) a e
theorem go {x:Option β}{f:β->Option α}(hk:∀ a,x=some a->Par (f a) Φ):Par (x.bind f) Φ:=λa e=>by
 cases x with
 | none=>cases e
 | some b=>exact hk b rfl a e
theorem cE {c:Bool}{a b:Option α}(aG:c=true->Par a Φ) (bp:c=false->Par b Φ):Par (cond c a b) Φ:=by
 cases c
 ·exact bp rfl
 ·exact aG rfl
theorem b_ {p:Prop} [Decidable p] {a b:Option α}(aG:p->Par a Φ) (bp:¬ p->Par b Φ):Par (cond (decide p) a b) Φ :=
 cE (λh=>aG (of_decide_eq_true h)) (λh=>bp (of_decide_eq_false h))
theorem rB {p:Prop} [Decidable p] {a b:Option α}(aG:¬ p->Par a Φ) (bp:p->Par b Φ):Par (cond (!decide p) a b) Φ :=
 cE (λh=>aG (of_decide_eq_false (by simpa using h))) (λh=>bp (of_decide_eq_true (by simpa using h)))
theorem ap {l m:List β}{f:List β->Option α}(hk:l.length+m.length<=lim->Par (f (l++m)) Φ):Par ((ed l m).bind f) Φ:=by
 unfold ed;split
 ·rename_i h; exact hk h
 ·exact no
theorem cat {s u:ByteArray}{f:ByteArray->Option α}(hk:Par (f (s++u)) Φ):Par ((so s u).bind f) Φ:=by
 unfold so;split
 ·exact hk
 ·exact no
theorem loop {f:S->Option (S ⊕ R)}{ft:S}{fV:R->Prop}(Inv:S->Prop) (bf:Inv ft) (aO:∀ s,Inv s->Par (f s) (jw Inv fV)):Par (cI f ft) fV:=by
 have key:∀ n s,Inv s->Par (iter f n s) fV:=by
  intro n
  induction n with
  | zero=>intro s _ a e; cases e
  | succ n aR =>
   intro s bt a e;simp only [iter] at e;cases J:f s with
   | none=>rw [J] at e; cases e
   | some x =>
    have di:=aO s bt x J;rw [J] at e;cases x with
    | inl eT=>exact aR eT di a e
    | inr r=>cases e; exact di
 exact key fuel ft bf
theorem j7 {x:Option α}(h:Tot x Φ) (aU:Par x fV):Tot x λa=>Φ a/\fV a:=by
 obtain ⟨a,bk,nB⟩:=h;exact ⟨a,bk,nB,aU a bk⟩
theorem of {x:Option α}(h:Tot x Φ):Par x Φ:=λa e=>h.eq e
theorem scan {f:Int->Option (Int ⊕ (Unit ⊕ R))}(l:List β) (aq:l.length<=100000000000000000) (P:β->Prop) (Q:R->Prop)
  (aO:∀ (s:Int) (y:β),0<=s->s<l.length->idx l s=some y->y∈l->Par (f s) (jw (λeT=>eT=s+1/\P y) (jw (λ_=>False) Q)))
  (he:∀ s:Int,¬ s<l.length->f s=some (.inr (.inl ()))):Par (cI f 0) (jw (λ_=>∀ y∈l,P y) Q):=by
 refine loop (λs=>0<=s/\s<=l.length/\∀ (af:Nat) (y:β),(af:Int)<s->l[af]?=some y->P y) ⟨by omega,by omega,λaf y h=>by omega⟩ λs bt=>?_;obtain ⟨bf,h1,al⟩:=bt;by_cases bg:s<l.length
 ·have l7:s.toNat<l.length:=by omega
  have hi:idx l s=some l[s.toNat]:=by simp [idx,bf,l7]
  refine (aO s _ bf bg hi (List.getElem_mem l7)).use λx J=>?_;rcases x with eT | ⟨⟨⟩⟩ | r
  ·obtain ⟨rfl,di⟩:=J;refine ⟨by omega,by omega,λaf y aa aA=>?_⟩;by_cases xE:(af:Int)<s
   ·exact al af y xE aA
   ·have:af=s.toNat:=by omega
    subst this;rw [List.getElem?_eq_getElem l7] at aA;cases aA; exact di
  ·exact J.elim
  ·exact J
 ·rw [he s bg];refine aC λy aA=>?_;obtain ⟨af,aa,rfl⟩:=List.mem_iff_getElem.1 aA;exact al af _ (by omega) (List.getElem?_eq_getElem aa)
end Par
end Go.Own
namespace Go.Own
open Go
variable {α β S R:Type}
namespace Tot
theorem upto {f:S->Option (S ⊕ R)}{ft:S}{fV:R->Prop}(i:S->Int) (n:Nat) (Inv:Nat->S->Prop) (hi:i ft=0) (aP:n<=100000000000000000) (bf:Inv 0 ft)
  (aO:∀ (k:Nat) (s:S),k<=n->i s=(k:Int)->Inv k s->Tot (f s) (jw (λeT=>k<n/\i eT=((k+1:Nat):Int)/\Inv (k+1) eT) fV)):Tot (cI f ft) fV:=by
 refine count i n (λs=>∃ k:Nat,k<=n/\i s=(k:Int)/\Inv k s) ⟨0,Nat.zero_le _,hi,bf⟩ (by rw [hi]; omega) λs ⟨k,hk,he,bt⟩=>(aO k s hk he bt).use λx J=>?_;rcases x with eT | r
 ·obtain ⟨h1,al,aS⟩:=J;exact ⟨⟨k+1,by omega,al,aS⟩,by omega,by omega⟩
 ·exact J
end Tot
namespace Par
theorem upto {f:S->Option (S ⊕ R)}{ft:S}{fV:R->Prop}(i:S->Int) (n:Nat) (Inv:Nat->S->Prop) (hi:i ft=0) (bf:Inv 0 ft)
  (aO:∀ (k:Nat) (s:S),k<=n->i s=(k:Int)->Inv k s->Par (f s) (jw (λeT=>k<n/\i eT=((k+1:Nat):Int)/\Inv (k+1) eT) fV)):Par (cI f ft) fV:=by
 refine loop (λs=>∃ k:Nat,k<=n/\i s=(k:Int)/\Inv k s) ⟨0,Nat.zero_le _,hi,bf⟩ λs ⟨k,hk,he,bt⟩=>(aO k s hk he bt).use λx J=>?_;rcases x with eT | r
 ·obtain ⟨h1,al,aS⟩:=J;exact ⟨k+1,by omega,al,aS⟩
 ·exact J
end Par
theorem eU (k:Nat) (h:k<=1000000000000000000):aL ((k:Int)+1)=((k+1:Nat):Int):=by rw [dH]; omega
end Go.Own
namespace Go.Own
open Go
variable {α β yD yE S T R Q:Type}
def Rel (x:Option α) (y:Option β) (Φ:α->β->Prop):Prop:=∃ a b,x=some a/\y=some b/\Φ a b
abbrev LL (p:S->T->Prop) (q:R->Q->Prop):S ⊕ R->T ⊕ Q->Prop
 | .inl a,.inl b=>p a b
 | .inr a,.inr b=>q a b
 | _,_=>False
namespace Rel
variable {Φ fV:α->β->Prop}
theorem aC {a:α}{b:β}(h:Φ a b):Rel (some a) (some b) Φ:=⟨a,b,rfl,rfl,h⟩
theorem use {x:Option α}{y:Option β}(h:Rel x y fV) (hi:∀ a b,fV a b->Φ a b):Rel x y Φ:=by
 obtain ⟨a,b,bk,aJ,G'⟩:=h;exact ⟨a,b,bk,aJ,hi a b G'⟩
theorem aK {x:Option yD}{y:Option yE}{f:yD->Option α}{g:yE->Option β}{Ξ:yD->yE->Prop}(h:Rel x y Ξ) (hk:∀ a b,Ξ a b->Rel (f a) (g b) Φ):Rel (x.bind f) (y.bind g) Φ:=by
 obtain ⟨a,b,rfl,rfl,Ad⟩:=h;exact hk a b Ad
theorem l {x:Option yD}{y:Option β}{f:yD->Option α}{Ξ:yD->Prop}(h:Tot x Ξ) (hk:∀ a,Ξ a->Rel (f a) y Φ):Rel (x.bind f) y Φ:=by
 obtain ⟨a,rfl,Ad⟩:=h;exact hk a Ad
theorem r {x:Option α}{y:Option yE}{g:yE->Option β}{Ξ:yE->Prop}(h:Tot y Ξ) (hk:∀ a,Ξ a->Rel x (g a) Φ):Rel x (y.bind g) Φ:=by
 obtain ⟨a,rfl,Ad⟩:=h;exact hk a Ad
theorem cE {c d:Bool}{a b:Option α}{cJ iW:Option β}(ae:c=d) (aG:c=true->Rel a cJ Φ) (bp:c=false->Rel b iW Φ):Rel (cond c a b) (cond d cJ iW) Φ:=by
 subst ae;cases c
 ·exact bp rfl
 ·exact aG rfl
theorem j7 {x:Option α}{y:Option β}{P:α->Prop}{Q:β->Prop}(h:Tot x P) (aU:Tot y Q) (hi:∀ a b,P a->Q b->Φ a b):Rel x y Φ:=by
 obtain ⟨a,bk,di⟩:=h;obtain ⟨b,aJ,ea⟩:=aU;exact ⟨a,b,bk,aJ,hi a b di ea⟩
theorem loop {f:S->Option (S ⊕ R)}{g:T->Option (T ⊕ Q)}{ft:S}{t0:T}{fV:R->Q->Prop}(Inv:S->T->Prop) (tl:S->Nat) (bf:Inv ft t0) (Ha:tl ft<fuel)
  (aO:∀ s t,Inv s t->Rel (f s) (g t) (LL (λeT dD=>Inv eT dD/\tl eT<tl s) fV)):Rel (cI f ft) (cI g t0) fV:=by
 have key:∀ n s t,Inv s t->tl s<n->Rel (iter f n s) (iter g n t) fV:=by
  intro n
  induction n with
  | zero=>intro s t _ h; omega
  | succ n aR =>
   intro s t bt hm;obtain ⟨x,y,J,aA,di⟩:=aO s t bt;rcases x with eT | r <;> rcases y with dD | q
   ·obtain ⟨h1,al⟩:=di;simp only [iter,J,aA];exact aR eT dD h1 (by omega)
   ·exact di.elim
   ·exact di.elim
   ·simp only [iter,J,aA];exact ⟨r,q,rfl,rfl,di⟩
 exact key fuel ft t0 bf Ha
theorem upto {f:S->Option (S ⊕ R)}{g:T->Option (T ⊕ Q)}{ft:S}{t0:T}{fV:R->Q->Prop}(i:S->Int) (n:Nat) (Inv:Nat->S->T->Prop) (hi:i ft=0) (aP:n<=100000000000000000) (bf:Inv 0 ft t0)
  (aO:∀ (k:Nat) (s:S) (t:T),k<=n->i s=(k:Int)->Inv k s t->Rel (f s) (g t) (LL (λeT dD=>k<n/\i eT=((k+1:Nat):Int)/\Inv (k+1) eT dD) fV)):Rel (cI f ft) (cI g t0) fV:=by
 refine loop (λs t=>∃ k:Nat,k<=n/\i s=(k:Int)/\Inv k s t) (λs=>(n - (i s).toNat)) ⟨0,Nat.zero_le _,hi,bf⟩ (by rw [hi]; show n - 0<1000000000000000000; omega) λs t ⟨k,hk,he,bt⟩=>(aO k s t hk he bt).use λx y De=>?_;rcases x with eT | r <;> rcases y with dD | q
 ·obtain ⟨h1,al,aS⟩:=De;refine ⟨⟨k+1,by omega,al,aS⟩,?_⟩;show n - (i eT).toNat<n - (i s).toNat;rw [al,he]; omega
 ·exact De
 ·exact De
 ·exact De
end Rel
end Go.Own

namespace Go.Proofs
open Go Go.Own
set_option maxRecDepth 100000
set_option linter.unusedVariables false
theorem t121 (c:Int):Tot (AJ c) λ_=>True:=by
 unfold AJ
 repeat' first | apply Tot.bi | refine Tot.cE (λ_=>?_) (λ_=>?_) | exact Tot.aC trivial | apply Tot.aC
theorem t122 (c:Int):Tot (AK c) λ_=>True:=by
 unfold AK
 repeat' first | apply Tot.bi | refine Tot.cE (λ_=>?_) (λ_=>?_) | exact Tot.aC trivial | apply Tot.aC
theorem t120 (c:Int):Tot (AI c) λ_=>True:=by
 unfold AI
 repeat' first | apply Tot.bi | refine Tot.cE (λ_=>?_) (λ_=>?_) | exact Tot.aC trivial | apply Tot.aC
theorem t118 (x:Sym):Tot (v_ x) λr=>r=true->x.Name={ data:=#[] }/\x.Lit=false:=by
 unfold v_;apply Tot.bi;refine Tot.b_ (λh=>Tot.cE (λal=>?_) (λal=>?_)) (λh=>?_) <;> apply Tot.aC <;> apply Tot.aC
 ·exact λ_=>⟨h,by simpa using al⟩
 ·exact λh=>by cases h
 ·exact λh=>by cases h
abbrev e3:Nat:=1000000000000
theorem t117 (s:ByteArray) (h:s.size<=e3):Tot (AH s 0) λn=>0<=n/\n<=s.size:=by
 unfold AH;refine Tot.aK (Ξ:=λn=>0<=n/\n<=s.size) ?_ λa bk=>.aC bk;refine Tot.count (λi=>i) s.size (λi=>0<=i/\i<=s.size) ⟨by omega,by omega⟩ (by show (s.size:Int) - 0<_; simp only [e3] at h; omega) λi ⟨bf,h1⟩=>?_;simp only [e3] at h;have e:aL (0+i)=i:=by rw [dH]; omega
 rw [e];have go:∀ c:Bool,(c=true->i<s.size)->Tot (bif c then some (.inl (aL (i+1))) else some (.inr i)) (jw (λeT:Int=>(0<=eT/\eT<=s.size)/\i<eT/\eT<=s.size) (λr:Int=>0<=r/\r<=s.size)):=by
  intro c ae;refine Tot.cE (λal=>.aC ?_) (λ_=>.aC ⟨bf,h1⟩);have:=ae al;have e:aL (i+1)=i+1:=by rw [dH]; omega
  show (0<=aL (i+1)/\aL (i+1)<=s.size)/\i<aL (i+1)/\aL (i+1)<=s.size;rw [e]; omega
 apply Tot.bi;refine Tot.b_ (λal=>?_) (λal=>.aC (go false (by simp)));apply Tot.bi;refine Tot.nv ⟨bf,al⟩ (Tot.aK (t121 _) λc _=>?_);refine Tot.cE (λ_=>.aC (go _ λ_=>al)) (λ_=>Tot.cE (λ_=>?_) (λ_=>.aC (go _ λ_=>al)));apply Tot.bi;refine Tot.nv ⟨bf,al⟩ (Tot.aK (t122 _) λc _=>?_);refine Tot.cE (λ_=>.aC (go _ λ_=>al)) (λ_=>?_);apply Tot.bi;exact Tot.nv ⟨bf,al⟩ (.aC (go _ λ_=>al))
theorem t111 (s:ByteArray) (h:s.size<=e3):Tot (uz s) λr=>r=true->1<=s.size/\s.size<=20:=by
 unfold uz;apply Tot.bi;refine Tot.b_ (λh1=>Tot.b_ (λal=>?_) (λal=>?_)) (λh1=>?_)
 ·exact .aK (t117 s h) λn aP=>.aC (.aC λ_=>by omega)
 ·exact .aC (.aC λh=>by cases h)
 ·exact .aC (.aC λh=>by cases h)
theorem t124 (s:ByteArray) (i:Int) (t:ByteArray) (h:s.size<=e3) (bf:0<=i) (h1:i<=4 * e3) (aG:t.size<=e3):Tot (v' s i t) λr=>r=true->i+t.size<=s.size:=by
 unfold v';simp only [e3] at *;apply Tot.bi;refine Tot.b_ (λal=>?_) (λal=>.aC (.aC λh=>by cases h));apply Tot.bi;rw [dH] at al;have e:aL (i+t.size)=i+t.size:=by rw [dH]; omega
 refine Tot.cut (by rw [e]; omega) (.aC (.aC λ_=>by omega))
theorem t123 (s:ByteArray) (i:Int) (h:s.size<=e3) (bf:0<=i) (h1:i<s.size):Tot (AL s i) λr=>r<=s.size:=by
 unfold AL;have aJ:(s.size:Int)<=1000000000000:=by simp only [e3] at h; omega
 have dz:aL (i+1)=i+1:=by rw [dH]; omega
 have de:aL (i+2)=i+2:=by rw [dH]; omega
 rw [dz,de];have vu:=Tot.nv (Φ:=λ_=>True) (s:=s) (m:=i) ⟨bf,h1⟩ trivial;refine Tot.aK (Ξ:=λ_=>True) ?_ λc _=>Tot.cE (λ_=>?_) (λ_=>?_)
 ·refine Tot.aK vu λ_ _=>Tot.cE (λ_=>.aC trivial) (λ_=>Tot.aK vu λ_ _=>.aC trivial)
 ·refine Tot.aK (Ξ:=jw (λ_=>True) (λr=>r<=s.size)) ?_ λx J=>?_
  ·refine Tot.count (λaf=>af) (s.size+1) (λaf=>0<=af) (by show (0:Int)<=i+1; omega) (by show (s.size:Int)+1 - (i+1)<_; omega) λaf aa=>?_;refine Tot.aK (Ξ:=λc=>c=true->af<s.size) ?_ λc ae=>Tot.cE (λal=>?_) (λ_=>.aC trivial)
   ·refine Tot.b_ (λal=>?_) (λ_=>.aC λh=>by cases h);exact .aK (Ξ:=λ_=>True) (Tot.nv ⟨aa,al⟩ trivial) λ_ _=>.aC λ_=>al
   ·have SK:=ae al;have CV:=Tot.nv (Φ:=λ_=>True) (s:=s) (m:=af) ⟨aa,SK⟩ trivial;have j':aL (af+1)=af+1:=by rw [dH]; omega
    have rH:aL (af+1+1)=af+1+1:=by rw [dH]; omega
    rw [j',rH];refine .aK CV λ_ _=>.aK vu λ_ _=>Tot.cE (λ_=>.aC ?_) (λ_=>.aK CV λ_ _=>Tot.cE (λ_=>?_) (λ_=>.aC ?_))
    ·show af+1<=s.size; omega
    ·refine Tot.aK (Ξ:=λ_=>True) ?_ λc _=>Tot.cE (λ_=>.aC ?_) (λ_=>.aC ?_)
     ·refine Tot.b_ (λaS=>?_) (λ_=>.aC trivial);exact .aK (Ξ:=λ_=>True) (Tot.nv ⟨by omega,aS⟩ trivial) λ_ _=>.aC trivial
     ·show (-1:Int)<=s.size; omega
     ·show (0:Int)<=af+1+1/\af<af+1+1/\af+1+1<=s.size+1; omega
    ·show (0:Int)<=af+1/\af<af+1/\af+1<=s.size+1; omega
  ·rcases x with _ | r
   ·exact .aC (by show (-1:Int)<=s.size; omega)
   ·exact .aC J
 ·refine .aK vu λ_ _=>Tot.cE (λ_=>?_) (λ_=>?_)
  ·refine Tot.aK (Ξ:=jw (λ_=>True) (λr=>r<=s.size)) ?_ λx J=>?_
   ·refine Tot.count (λaf=>af) (s.size+1) (λaf=>0<=af) (by show (0:Int)<=i+1; omega) (by show (s.size:Int)+1 - (i+1)<_; omega) λaf aa=>?_;refine Tot.b_ (λal=>?_) (λ_=>.aC trivial);have j':aL (af+1)=af+1:=by rw [dH]; omega
    rw [j'];refine .aK (Ξ:=λ_=>True) (Tot.nv ⟨aa,al⟩ trivial) λ_ _=>Tot.cE (λ_=>.aC ?_) (λ_=>.aC ?_)
    ·show af+1<=s.size; omega
    ·show (0:Int)<=af+1/\af<af+1/\af+1<=s.size+1; omega
   ·rcases x with _ | r
    ·exact .aC (by show (-1:Int)<=s.size; omega)
    ·exact .aC J
  ·refine .aK (t124 s i _ h bf (by simp only [e3]; omega) (by decide)) λc _=>Tot.cE (λ_=>?_) (λ_=>?_)
   ·refine Tot.aK (Ξ:=λr=>r<=s.size) ?_ λx J=>.aC J;refine Tot.count (λaf=>af) s.size (λaf=>0<=af/\af<=s.size) ⟨bf,by omega⟩ (by show (s.size:Int) - i<_; omega) λaf aa=>?_;refine Tot.aK (Ξ:=λc=>c=true->af<s.size) ?_ λc ae=>Tot.cE (λal=>?_) (λ_=>.aC aa.2)
    ·refine Tot.b_ (λal=>?_) (λ_=>.aC λh=>by cases h);exact .aK (Ξ:=λ_=>True) (Tot.nv ⟨aa.1,al⟩ trivial) λ_ _=>.aC λ_=>al
    ·have:=ae al;have j':aL (af+1)=af+1:=by rw [dH]; omega
     rw [j'];exact .aC (by show ((0:Int)<=af+1/\af+1<=s.size)/\af<af+1/\af+1<=s.size; omega)
   ·refine .aK (t124 s i _ h bf (by simp only [e3]; omega) (by decide)) λc ae=>Tot.cE (λiZ=>?_) (λ_=>.aC (by omega));refine Tot.aK (Ξ:=jw (λ_=>True) (λr=>r<=s.size)) ?_ λx J=>?_
    ·refine Tot.count (λaf=>af) (s.size+1) (λaf=>0<=af) (by show (0:Int)<=i+2; omega) (by show (s.size:Int)+1 - (i+2)<_; omega) λaf aa=>?_;refine Tot.b_ (λal=>?_) (λ_=>.aC trivial);have j':aL (af+1)=af+1:=by rw [dH]; omega
     have rH:aL (af+2)=af+2:=by rw [dH]; omega
     rw [j',rH];refine .aK (t124 s af _ h aa (by simp only [e3]; omega) (by decide)) λc ae=>Tot.cE (λsM=>.aC ?_) (λ_=>.aC ?_)
     ·have:=ae sM;have qD:({ data:=#[42,47] }:ByteArray).size=2:=rfl;rw [qD] at this;show af+2<=s.size; omega
     ·show (0:Int)<=af+1/\af<af+1/\af+1<=s.size+1; omega
    ·rcases x with _ | r
     ·exact .aC (by show (-1:Int)<=s.size; omega)
     ·exact .aC J
theorem t119 (s:ByteArray) (h:s.size<=e3):Tot (yb s 0) λ_=>True:=by
 unfold yb;have aJ:(s.size:Int)<=1000000000000:=by simp only [e3] at h; omega
 refine Tot.aK (Ξ:=λ_=>True) ?_ λc _=>Tot.cE (λ_=>.aC trivial) (λ_=>?_)
 ·refine Tot.b_ (λh=>.aC trivial) (λbf=>Tot.b_ (λh=>.aC trivial) (λal=>?_));exact .aK (Ξ:=λ_=>True) (Tot.nv (by omega) trivial) λ_ _=>.aC trivial
 ·refine Tot.aK (Ξ:=λ_=>True) ?_ λx _=>by rcases x with _ | r <;> exact .aC trivial
  refine Tot.count (λaf=>af.2) s.size (λaf=>0<=af.2/\af.2<=s.size) ⟨by show (0:Int)<=0; omega,by show (0:Int)<=s.size; omega⟩ (by show (s.size:Int) - 0<_; omega) λaf aa=>?_;refine Tot.b_ (λal=>?_) (λ_=>.aC trivial);refine .aK (t123 s af.2 h aa.1 al) λn aP=>Tot.b_ (λ_=>.aC trivial) (λaS=>Tot.b_ (λb7=>.aC ?_) (λb7=>?_))
  ·show ((0:Int)<=n/\n<=s.size)/\af.2<n/\n<=s.size; omega
  ·have vu:=Tot.nv (Φ:=λ_=>True) (s:=s) (m:=af.2) ⟨aa.1,al⟩ trivial;have j':aL (af.2+1)=af.2+1:=by rw [dH]; omega
   rw [j'];refine .aK vu λ_ _=>.aK (Ξ:=λ_=>True) (Tot.cE (λ_=>.aC trivial) (λ_=>.aC trivial)) λ_ _=>.aK vu λ_ _=>.aK (Ξ:=λ_=>True) (Tot.cE (λ_=>.aC trivial) (λ_=>.aC trivial)) λ_ _=>Tot.cE (λ_=>.aC trivial) (λ_=>.aC ?_);show ((0:Int)<=af.2+1/\af.2+1<=s.size)/\af.2<af.2+1/\af.2+1<=s.size; omega
def lG (x:Sym):Prop:=x.Lit=true->x.Name.size=1
structure Ep (d:Decl):Prop where
 tag:d.Tag.size<=e3
 n:d.e0.length<=1000
 syms:∀ x∈d.e0,x.Name.size<=e3
structure wH (a:Alt):Prop where
 n:a.ia.length<=1000
 parts:∀ p∈a.ia,p.Sym.Name.size<=e3/\p.Code.size<=e3
 prec:a.Prec.Name.size<=e3
structure I5 (r:fa):Prop where
 left:r.Left.size<=e3
 n:r.eY.length<=1000
 alts:∀ a∈r.eY,wH a
structure sd (s:Source):Prop where
 UZ:s.bx.size<=e3
 Fe:s.Decls.length<=1000
 decls:∀ d∈s.Decls,Ep d
 aM:s.dw.length<=1000
 rules:∀ r∈s.dw,I5 r
theorem t116 (x:Sym) (a b:Bool) (h:x.Name.size<=e3):Tot (v8 x a b) λr=>r=true->lG x:=by
 unfold v8;refine Tot.cE (λaq=>?_) (λaq=>?_)
 ·refine Tot.aK (Ξ:=λc=>c=false->x.Name.size=1) ?_ λc ae=>Tot.cE (λ_=>.aC λh=>by cases h) (λal=>?_)
  ·refine Tot.cE (λ_=>.aC λh=>by cases h) (λ_=>Tot.rB (λ_=>.aC λh=>by cases h) (λh1=>.aC λ_=>by omega))
  ·have h1:=ae al;refine .aK (Ξ:=λ_=>True) (Tot.nv (by omega) trivial) λ_ _=>.aK (t120 _) λ_ _=>.aC λ_ _=>h1
 ·have e8:lG x:=λh=>by rw [aq] at h; cases h
  refine Tot.aK (Ξ:=λ_=>True) ?_ λc ae=>.aC λ_=>e8;refine .aK (t111 _ h) λc _=>?_
  repeat' first | refine Tot.cE (λ_=>?_) (λ_=>?_) | exact Tot.aC trivial
theorem t110 (d:Decl) (h:Ep d):Tot (AF d) λr=>r=true->∀ x∈d.e0,lG x:=by
 unfold AF;refine Tot.aK (Ξ:=λ_=>True) ?_ λc _=>Tot.cE (λ_=>.aC λh=>by cases h) (λ_=>?_)
 ·have aG:=(t111 _ h.tag).use (Φ:=λ_=>True) λ_ _=>trivial
  repeat' first | refine Tot.cE (λ_=>?_) (λ_=>?_) | exact Tot.aC trivial | refine .aK aG λ_ _=>?_
 ·refine Tot.aK (Tot.scan d.e0 (λx=>lG x) (λr=>r=false) (by have:=h.n; omega) (λs y bf h1 hi hm=>?_) (λs aO=>by simp [aO])) λx J=>?_
  ·refine Tot.b_ (λ_=>?_) (λh=>absurd h1 h);rw [hi];refine Tot.aw ?_;refine .aK (t116 _ _ _ (h.syms _ hm)) λc ae=>Tot.cE (λ_=>.aC rfl) (λal=>.aC ⟨?_,ae (by simpa using al)⟩);have:=h.n;rw [dH]; omega
  ·rcases x with _ | r
   ·exact .aC λ_=>J
   ·exact .aC λh=>by have:r=false:=J; rw [this] at h; cases h
theorem t112 (a:Alt) (h:wH a):Tot (AG a) λr=>r=true->(∀ p∈a.ia,lG p.Sym)/\lG a.Prec:=by
 unfold AG;refine Tot.aK (Tot.scan a.ia (λp=>lG p.Sym) (λr=>r=false) (by have:=h.n; omega) (λs y bf h1 hi hm=>?_) (λs aO=>by simp [aO])) λx J=>?_
 ·refine Tot.b_ (λ_=>?_) (λh=>absurd h1 h);rw [hi];refine Tot.aw ?_;have aH:=h.parts _ hm;have t1:=t116 y.Sym false true aH.1;have t2:=t118 y.Sym;have Nw:=t119 y.Code aH.2;have hw:aL (s+1)=s+1:=by have:=h.n; rw [dH]; omega
  rw [hw];have n118:(y.Sym.Name={ data:=#[] }/\y.Sym.Lit=false)->lG y.Sym:=λh aq=>by rw [h.2] at aq; cases aq
  refine Tot.aK (Ξ:=λc=>c=false->lG y.Sym) ?_ λc ae=>Tot.cE (λ_=>.aC rfl) (λal=>.aC ⟨rfl,ae al⟩);refine Tot.b_ (λ_=>?_) (λeL=>?_)
  ·refine .aK t1 λc ae=>Tot.cE (λ_=>.aC λh=>by cases h) (λal=>?_);have e8:=ae (by simpa using al);refine Tot.cE (λ_=>?_) (λ_=>.aC λ_=>e8);refine .aK t2 λc _=>Tot.cE (λ_=>.aC λ_=>e8) (λ_=>?_);exact .aK Nw λ_ _=>.aC λ_=>e8
  ·refine Tot.rB (λ_=>?_) (λh=>.aC λ_=>?_)
   ·refine .aK t2 λc ae=>Tot.cE (λ_=>.aC λh=>by cases h) (λal=>?_);have e8:=n118 (ae (by simpa using al));exact .aK Nw λ_ _=>.aC λ_=>e8
   ·exact absurd h eL
 ·rcases x with _ | r
  ·have J:∀ p∈a.ia,lG p.Sym:=J;refine Tot.aK (Ξ:=λc=>c=true->lG a.Prec) ?_ λc ae=>.aC λh=>⟨J,ae h⟩;refine .aK (t118 _) λc ae=>Tot.cE (λal=>.aC λ_=>?_) (λ_=>.aK (t116 _ _ _ h.prec) λc ae=>.aC ae);intro aq; rw [(ae al).2] at aq; cases aq
  ·exact .aC λh=>by have:r=false:=J; rw [this] at h; cases h
structure BL (a:Alt):Prop where
 parts:∀ p∈a.ia,lG p.Sym
 prec:lG a.Prec
structure I7 (s:Source):Prop where
 decls:∀ d∈s.Decls,∀ x∈d.e0,lG x
 rules:∀ r∈s.dw,∀ a∈r.eY,BL a
 pos:0<s.dw.length
theorem t92 (s:Source) (h:sd s):Tot (Bg s) λr=>r=true->I7 s:=by
 unfold Bg;refine Tot.aK (Ξ:=jw (λ_=>True) (λr=>r=false)) ?_ λx J=>?_
 ·have aH:(s.bx.size:Int)<=1000000000000:=by have:=h.UZ; simp only [e3] at this; omega
  refine Tot.count (λaf=>af) s.bx.size (λaf=>0<=af/\af<=s.bx.size) ⟨by omega,by omega⟩ (by show (s.bx.size:Int) - 0<_; omega) λaf aa=>?_;have dz:aL (af+1)=af+1:=by rw [dH]; omega
  have de:aL (af+2)=af+2:=by rw [dH]; omega
  rw [dz,de];refine Tot.b_ (λal=>?_) (λ_=>.aC trivial);refine .aK (Ξ:=λ_=>True) (Tot.cut (by omega) trivial) λ_ _=>Tot.cE (λ_=>.aC rfl) (λ_=>.aC ?_);show ((0:Int)<=af+1/\af+1<=s.bx.size)/\af<af+1/\af+1<=s.bx.size; omega
 ·rcases x with _ | r
  ·refine Tot.aK (Tot.scan s.Decls (λd=>∀ x∈d.e0,lG x) (λr=>r=false) (by have:=h.Fe; omega) (λi y bf h1 hi hm=>?_) (λs aO=>by simp [aO])) λx J=>?_
   ·refine Tot.b_ (λ_=>?_) (λh=>absurd h1 h);rw [hi];refine Tot.aw ?_;refine .aK (t110 _ (h.decls _ hm)) λc ae=>Tot.cE (λ_=>.aC rfl) (λal=>.aC ⟨?_,ae (by simpa using al)⟩);have:=h.Fe;rw [dH]; omega
   ·rcases x with _ | r
    ·have J:∀ d∈s.Decls,∀ x∈d.e0,lG x:=J;refine Tot.aK (Tot.scan s.dw (λr=>∀ a∈r.eY,BL a) (λr=>r=false) (by have:=h.aM; omega) (λi y bf h1 hi hm=>?_) (λs aO=>by simp [aO])) λx gG=>?_
     ·refine Tot.b_ (λ_=>?_) (λh=>absurd h1 h);rw [hi];refine Tot.aw ?_;have ax:=h.rules _ hm;have hw:aL (i+1)=i+1:=by have:=h.aM; rw [dH]; omega
      rw [hw];refine .aK (Ξ:=λ_=>True) (.aK (t111 _ ax.left) λc _=>Tot.cE (λ_=>.aC trivial) (λ_=>.aC trivial)) λc _=>Tot.cE (λ_=>.aC rfl) (λ_=>?_);refine Tot.aK (Tot.scan y.eY BL (λr=>r=false) (by have:=ax.n; omega) (λk a bf h1 hi hm=>?_) (λs aO=>by simp [aO])) λx hK=>?_
      ·refine Tot.b_ (λ_=>?_) (λh=>absurd h1 h);rw [hi];refine Tot.aw ?_;refine .aK (t112 _ (ax.alts _ hm)) λc ae=>Tot.cE (λ_=>.aC rfl) (λal=>.aC ⟨?_,⟨(ae (by simpa using al)).1,(ae (by simpa using al)).2⟩⟩);have:=ax.n;rw [dH]; omega
      ·rcases x with _ | r
       ·exact .aC ⟨rfl,hK⟩
       ·exact .aC hK
     ·rcases x with _ | r
      ·exact .aC λh=>⟨J,gG,by have:=of_decide_eq_true h; omega⟩
      ·exact .aC λh=>by have:r=false:=gG; rw [this] at h; cases h
    ·exact .aC λh=>by have:r=false:=J; rw [this] at h; cases h
  ·exact .aC λh=>by have:r=false:=J; rw [this] at h; cases h
abbrev jx:=cU
structure tw (m cb:jx):Prop where
 g:cb.av=m.av
 iB:cb.b4=m.b4
 ty:cb.b0=m.b0
 hY:cb.bK=m.bK
 j4:cb.bZ=m.bZ
 hL:cb.bD=m.bD
theorem t94 (m:jx) (a:Int) (n:ByteArray):Tot (nH m a n) λcb=>tw m cb/\cb.ck≠0:=by
 unfold nH;apply Tot.bi;refine Tot.b_ (λ_=>.aC (.aC ⟨⟨rfl,rfl,rfl,rfl,rfl,rfl⟩,?_⟩)) (λh=>.aC (.aC ⟨⟨rfl,rfl,rfl,rfl,rfl,rfl⟩,h⟩));show (3:Int)≠0; decide
theorem t98 (m:jx) (n:ByteArray) (h:m.b0.length<=e3):Tot (yl m n) λr=>r=-1\/(0<=r/\r<m.b0.length):=by
 unfold yl;simp only [e3] at h;refine Tot.aK (Tot.scan m.b0 (λ_=>True) (λr:Int=>0<=r/\r<m.b0.length) (by omega) (λs y bf h1 hi hm=>?_) (λs aO=>by simp [aO])) λx J=>?_
 ·refine Tot.b_ (λ_=>?_) (λh=>absurd h1 h);rw [hi];refine Tot.aw ?_;refine Tot.cE (λ_=>.aC ⟨bf,h1⟩) (λ_=>.aC ⟨?_,trivial⟩);rw [dH]; omega
 ·rcases x with _ | r
  ·exact .aC (.inl rfl)
  ·exact .aC (.inr J)
theorem t96 (m:jx) (n:ByteArray) (h:m.bK.length<=e3):Tot (rY m n) λr=>(r=-1/\∀ x∈m.bK,x≠n)\/(0<=r/\r<m.bK.length/\m.bK[r.toNat]?=some n):=by
 unfold rY;simp only [e3] at h;refine Tot.aK (Tot.scan m.bK (λx=>x≠n) (λr:Int=>0<=r/\r<m.bK.length/\m.bK[r.toNat]?=some n) (by omega) (λs y bf h1 hi hm=>?_) (λs aO=>by simp [aO])) λx J=>?_
 ·refine Tot.b_ (λ_=>?_) (λh=>absurd h1 h);rw [hi];refine Tot.aw ?_;refine Tot.b_ (λe=>.aC ⟨bf,h1,by rw [<- e]; exact (pF hi).2.2⟩) (λe=>.aC ⟨?_,e⟩);rw [dH]; omega
 ·rcases x with _ | r
  ·exact .aC (.inl ⟨rfl,J⟩)
  ·exact .aC (.inr J)
theorem t95 (m:jx) (x:Sym) (h:m.av.a'.length<=e3):Tot (wi m x) λr=>r=-1\/(1<=r/\r<m.av.a'.length):=by
 unfold wi;simp only [e3] at h;refine Tot.aK (Ξ:=jw (λ_=>True) (λr=>1<=r/\r<m.av.a'.length)) ?_ λx J=>?_
 ·refine Tot.count (λaf=>af) m.av.a'.length (λaf=>1<=af) (by omega) (by show (m.av.a'.length:Int) - 1<_; omega) λaf aa=>?_;refine Tot.b_ (λal=>?_) (λ_=>.aC trivial);have e:aL (af+1)=af+1:=by rw [dH]; omega
  rw [e];refine .aK (Ξ:=λ_=>True) ?_ λc _=>Tot.cE (λ_=>.aC ⟨aa,al⟩) (λ_=>.aC ?_)
  ·refine .aK (Ξ:=λ_=>True) (Tot.ht (by omega) al λ_ _ _=>trivial) λ_ _=>Tot.cE (λ_=>?_) (λ_=>.aC trivial);exact .aK (Ξ:=λ_=>True) (Tot.ht (by omega) al λ_ _ _=>trivial) λ_ _=>Tot.cE (λ_=>.aC trivial) (λ_=>.aC trivial)
  ·show (1:Int)<=af+1/\af<af+1/\af+1<=m.av.a'.length; omega
 ·rcases x with _ | r
  ·exact .aC (.inl rfl)
  ·exact .aC (.inr J)
theorem t114 (m:jx) (n:Int) (h:m.av.a'.length<=e3):Tot (ya m n) λ_=>True:=by
 unfold ya;simp only [e3] at h;refine Tot.aK (Ξ:=λ_=>True) ?_ λx J=>?_
 ·refine Tot.count (λaf=>af) m.av.a'.length (λaf=>1<=af) (by decide) (by show (m.av.a'.length:Int) - 3<_; omega) λaf aa=>?_;refine Tot.b_ (λal=>?_) (λ_=>.aC trivial);have e:aL (af+1)=af+1:=by rw [dH]; omega
  rw [e];refine .aK (Ξ:=λ_=>True) (Tot.ht (by omega) al λ_ _ _=>trivial) λc _=>Tot.cE (λ_=>.aC trivial) (λ_=>.aC ?_);show (1:Int)<=af+1/\af<af+1/\af+1<=m.av.a'.length; omega
 ·rcases x with _ | r <;> exact .aC trivial
structure Grow (m cb:jx) (k:Nat):Prop where
 iB:cb.b4.length=cb.av.a'.length
 lo:m.av.a'.length<=cb.av.a'.length
 hi:cb.av.a'.length<=m.av.a'.length+k
 ty:cb.b0.length<=m.b0.length+k
 hY:cb.bK=m.bK
 hC:cb.av.a8=m.av.a8
 hL:cb.bD=m.bD
 lvl:cb.bZ=m.bZ
 j4:0<=m.bZ->(∀ t∈m.av.a',0<=t.Level)->∀ t∈cb.av.a',0<=t.Level
theorem tw.grow {m cb:jx}(h:tw m cb) (bb:m.b4.length=m.av.a'.length) (k:Nat):Grow m cb k:=by
 obtain ⟨h1,al,aS,b7,dv,eC⟩:=h;exact ⟨by rw [h1,al]; exact bb,by rw [h1]; omega,by rw [h1]; omega,by rw [aS]; omega,b7,by rw [h1],eC,dv,by rw [h1]; exact λ_ h=>h⟩
theorem t113 (m:jx) (x:Sym) (bb:m.b4.length=m.av.a'.length) (h:m.av.a'.length<=100000000000) (J:lG x) :
  Tot (x_ m x) λr=>Grow m r.2 1/\0<=r.1/\r.1<r.2.av.a'.length:=by
 unfold x_;refine .aK (t95 m x (by simp only [e3]; omega)) λt aG=>Tot.b_ (λbf=>.aC ⟨⟨bb,Nat.le_refl _,Nat.le_succ _,Nat.le_succ _,rfl,rfl,rfl,rfl,λ_ h=>h⟩,bf,?_⟩) (λ_=>?_)
 ·rcases aG with rfl | aG
  ·exact absurd bf (by decide)
  ·exact aG.2
 ·refine Tot.aK (Ξ:=λaf=>tw m af.1) ?_ λaf aa=>?_
  ·refine Tot.cE (λaq=>?_) (λ_=>.aC ⟨rfl,rfl,rfl,rfl,rfl,rfl⟩);have:=J aq;refine .aK (Ξ:=λ_=>True) (Tot.nv (by omega) trivial) λb _=>.aK (t114 m _ (by simp only [e3]; omega)) λo _=>?_;refine Tot.aK (Ξ:=λaf=>tw m af) ?_ λaf aa=>.aC aa;exact Tot.cE (λ_=>.aK (t94 m _ _) λcb hm=>.aC hm.1) (λ_=>.aC ⟨rfl,rfl,rfl,rfl,rfl,rfl⟩)
  ·obtain ⟨h1,al,aS,b7,dv,eC⟩:=aa;have bg:af.1.av.a'.length=m.av.a'.length:=by rw [h1]
   have Lw:af.1.b4.length=m.b4.length:=by rw [al]
   refine .aK (Ξ:=λ_=>True) (Tot.ap (by rw [bg]; simp [lim]; omega) trivial) λ_ _=>.aK (Ξ:=λ_=>True) (Tot.ap (by rw [Lw]; simp [lim]; omega) trivial) λ_ _=>.aC ?_;refine ⟨⟨?_,?_,?_,?_,b7,by show af.1.av.a8=_; rw [h1],eC,dv,?_⟩,?_,?_⟩
   ·show (af.1.b4++[x.Lit]).length=(af.1.av.a'++[_]).length;simp [bg,Lw,bb]
   ·show _<=(af.1.av.a'++[_]).length;simp [bg]
   ·show (af.1.av.a'++[_]).length<=_;simp [bg]
   ·show af.1.b0.length<=_;rw [aS]; omega
   ·intro _ aq t aG;rcases List.mem_append.1 aG with aG | aG
    ·rw [h1] at aG; exact aq t aG
    ·rw [List.mem_singleton.1 aG]; exact Int.le_refl 0
   ·show 0<=aL (((af.1.av.a'++[_]).length:Int) - 1);rw [dH]; simp [bg]; omega
   ·show aL (((af.1.av.a'++[_]).length:Int) - 1)<((af.1.av.a'++[_]).length:Int);rw [dH]; simp [bg]; omega
structure nu (m cb:jx):Prop where
 tk:cb.av.a'.length=m.av.a'.length
 iB:cb.b4.length=m.b4.length
 ty:cb.b0=m.b0
 hY:cb.bK=m.bK
 hC:cb.av.a8=m.av.a8
 hL:cb.bD=m.bD
 lvl:cb.bZ=m.bZ
 j4:0<=m.bZ->(∀ t∈m.av.a',0<=t.Level)->∀ t∈cb.av.a',0<=t.Level
theorem nu.refl (m:jx):nu m m:=⟨rfl,rfl,rfl,rfl,rfl,rfl,rfl,λ_ h=>h⟩
theorem nu.trans {m cb Aq:jx}(h:nu m cb) (aU:nu cb Aq):nu m Aq:=⟨aU.tk.trans h.tk,aU.iB.trans h.iB,aU.ty.trans h.ty,aU.hY.trans h.hY,aU.hC.trans h.hC,aU.hL.trans h.hL,aU.lvl.trans h.lvl,λbf aq=>aU.j4 (by rw [h.lvl]; exact bf) (h.j4 bf aq)⟩
theorem tw.tk {m cb:jx}(h:tw m cb):nu m cb:=⟨by rw [h.g],by rw [h.iB],h.ty,h.hY,by rw [h.g],h.hL,h.j4,by rw [h.g]; exact λ_ h=>h⟩
theorem Grow.tk {m cb Aq:jx}{k:Nat}(h:Grow m cb k) (aU:nu cb Aq):Grow m Aq k :=
 ⟨by rw [aU.iB,aU.tk]; exact h.iB,by rw [aU.tk]; exact h.lo,by rw [aU.tk]; exact h.hi,by rw [aU.ty]; exact h.ty,aU.hY.trans h.hY,aU.hC.trans h.hC,aU.hL.trans h.hL,aU.lvl.trans h.lvl,λbf aq=>aU.j4 (by rw [h.lvl]; exact bf) (h.j4 bf aq)⟩
theorem vU {α:Type}{l:List α}{i:Nat}{x y:α}(h:y∈l.set i x):y∈l\/y=x:=List.mem_or_eq_of_mem_set h
theorem t93 (m:jx) (d:Decl) (x:Sym) (bb:m.b4.length=m.av.a'.length) (h:m.av.a'.length<=100000000000) (aG:m.b0.length<=100000000000) (J:lG x) :
  Tot (Bh m d x) λcb=>Grow m cb 1:=by
 unfold Bh;refine Tot.cE (λ_=>?_) (λ_=>?_)
 ·refine .aK (t98 m x.Name (by simp only [e3]; omega)) λk hk=>Tot.aK (Ξ:=λcb=>Grow m cb 1) ?_ λcb hm=>.aC hm;refine Tot.b_ (λ_=>?_) (λbf=>?_)
  ·refine .aK (Ξ:=λ_=>True) (Tot.ap (by simp [lim]; omega) trivial) λ_ _=>.aC ⟨bb,Nat.le_refl _,Nat.le_succ _,?_,rfl,rfl,rfl,rfl,λ_ h=>h⟩;show (m.b0++[_]).length<=_;simp
  ·refine .aK (Ξ:=λ_=>True) (Tot.ht (by omega) (by omega) λ_ _ _=>trivial) λ_ _=>Tot.aK (Ξ:=λcb=>Grow m cb 1) ?_ λcb hm=>.aC hm;exact Tot.cE (λ_=>.aK (t94 m _ _) λcb hm=>.aC (hm.1.grow bb 1)) (λ_=>.aC ⟨bb,Nat.le_refl _,Nat.le_succ _,Nat.le_succ _,rfl,rfl,rfl,rfl,λ_ h=>h⟩)
 ·refine .aK (t113 m x bb h J) λr ⟨ax,bf,h1⟩=>?_;have ht:∀ {cb:jx},nu r.2 cb->Tot (idx cb.av.a' r.1) λy=>y∈cb.av.a':=λhm=>Tot.ht bf (by rw [hm.tk]; exact h1) λ_ _ h=>h;have Mf:∀ {cb:jx},nu r.2 cb->Tot (idx cb.b4 r.1) λ_=>True:=λhm=>Tot.ht bf (by rw [hm.iB,ax.iB]; exact h1) λ_ _ _=>trivial;refine .aK (ht (.refl _)) λy _=>?_;refine Tot.aK (Ξ:=λcb=>nu r.2 cb) ?_ λfy xv=>?_
  ·refine Tot.cE (λ_=>?_) (λ_=>.aC (.refl _));refine Tot.aK (Ξ:=λcb=>nu r.2 cb) ?_ λdG tM=>?_
   ·exact Tot.cE (λ_=>.aK (t94 r.2 _ _) λcb hm=>.aC ⟨rfl,hm.1.tk.iB,hm.1.tk.ty,hm.1.tk.hY,hm.1.tk.hC,hm.1.tk.hL,hm.1.tk.lvl,λ_ h=>h⟩) (λ_=>.aC (.refl _))
   ·refine .aK (ht tM) λ_ _=>.aC (tM.trans ⟨?_,rfl,rfl,rfl,rfl,rfl,rfl,λaq aG t ca=>?_⟩)
    ·show ((dG.av.a'.set _ _).set _ _).length=_;simp
    ·rcases vU ca with ca | rfl
     ·rcases vU ca with ca | rfl
      ·exact aG t ca
      ·exact aq
     ·exact aq
  ·refine .aK (ht xv) λ_ _=>?_;refine Tot.aK (Ξ:=λcb=>nu r.2 cb) ?_ λfQ CL=>?_
   ·refine Tot.cE (λ_=>?_) (λ_=>.aC xv);refine .aK (Ξ:=λ_=>True) ?_ λc _=>?_
    ·refine Tot.cE (λ_=>.aC trivial) (λ_=>.aK (Mf xv) λ_ _=>Tot.cE (λ_=>.aC trivial) (λ_=>.aK (t114 fy _ ?_) λ_ _=>.aC trivial));have:=xv.tk; have:=ax.hi; simp only [e3]; omega
    ·refine Tot.aK (Ξ:=λcb=>nu r.2 cb) ?_ λey xw=>?_
     ·exact Tot.cE (λ_=>.aK (t94 fy _ _) λcb hm=>.aC (xv.trans ⟨rfl,hm.1.tk.iB,hm.1.tk.ty,hm.1.tk.hY,hm.1.tk.hC,hm.1.tk.hL,hm.1.tk.lvl,λ_ h=>h⟩)) (λ_=>.aC xv)
     ·refine .aK (ht xw) λy aA=>.aK (Mf xw) λ_ _=>.aC (xw.trans ⟨?_,?_,rfl,rfl,rfl,rfl,rfl,λaq aG t ca=>?_⟩)
      ·show (ey.av.a'.set _ _).length=_; simp
      ·show (ey.b4.set _ _).length=_; simp
      ·rcases vU ca with ca | rfl
       ·exact aG t ca
       ·exact (aG y aA:0<=y.Level)
   ·refine .aK (ht CL) λ_ _=>?_;refine Tot.aK (Ξ:=λcb=>nu r.2 cb) ?_ λoQ Fx=>.aC (ax.tk Fx);refine Tot.cE (λ_=>?_) (λ_=>.aC CL);refine .aK (Ξ:=λ_=>True) (Tot.cE (λ_=>.aC trivial) (λ_=>.aC trivial)) λc _=>?_;refine Tot.aK (Ξ:=λcb=>nu r.2 cb) ?_ λgI KQ=>?_
    ·exact Tot.cE (λ_=>.aK (t94 fQ _ _) λcb hm=>.aC (CL.trans ⟨rfl,hm.1.tk.iB,hm.1.tk.ty,hm.1.tk.hY,hm.1.tk.hC,hm.1.tk.hL,hm.1.tk.lvl,λ_ h=>h⟩)) (λ_=>.aC CL)
    ·refine .aK (ht KQ) λy aA=>.aC (KQ.trans ⟨?_,rfl,rfl,rfl,rfl,rfl,rfl,λaq aG t ca=>?_⟩)
     ·show (gI.av.a'.set _ _).length=_; simp
     ·rcases vU ca with ca | rfl
      ·exact aG t ca
      ·exact (aG y aA:0<=y.Level)
def p0 (T:Nat) (N:Int) (s:Int):Prop:=(0<=s/\s<T)\/(1000<=s/\s<=1000+N)
theorem p0.mono {T T':Nat}{N je s:Int}(h:p0 T N s) (fO:T<=T') (b1:N<=je):p0 T' je s:=by
 rcases h with h | h
 ·exact .inl (by omega)
 ·exact .inr (by omega)
theorem t115 (m:jx) (x:Sym) (bb:m.b4.length=m.av.a'.length) (aS:3<=m.av.a'.length) (h:m.av.a'.length<=100000000000) (aq:m.bK.length<=100000000000) (J:lG x) :
  Tot (uA m x) λr=>Grow m r.2 1/\p0 r.2.av.a'.length m.bK.length r.1:=by
 unfold uA;have qN:Grow m m 1:=⟨bb,Nat.le_refl _,Nat.le_succ _,Nat.le_succ _,rfl,rfl,rfl,rfl,λ_ h=>h⟩;refine Tot.cE (λ_=>?_) (λ_=>?_)
 ·exact .aK (t113 m x bb h J) λr ⟨ax,bf,h1⟩=>.aC ⟨ax,.inl ⟨bf,h1⟩⟩
 ·refine .aK (t96 m x.Name (by simp only [e3]; omega)) λk hk=>Tot.b_ (λbf=>.aC ⟨qN,.inr ?_⟩) (λ_=>?_)
  ·show 1000<=aL (1001+k)/\aL (1001+k)<=1000+(m.bK.length:Int);rw [dH];rcases hk with hk | hk <;> omega
  ·refine .aK (t95 m x (by simp only [e3]; omega)) λt aG=>Tot.b_ (λ_=>?_) (λbf=>.aC ⟨qN,.inl ?_⟩)
   ·refine .aK (t94 m _ _) λcb hm=>.aC ⟨hm.1.grow bb 1,.inl ⟨Int.le_refl 0,?_⟩⟩;show (0:Int)<(cb.av.a'.length:Int);rw [hm.1.g]; omega
   ·show 0<=t/\t<(m.av.a'.length:Int);rcases aG with aG | aG <;> omega
theorem VG (m:jx) (x:Sym) (bb:m.b4.length=m.av.a'.length) (aS:3<=m.av.a'.length) (h:m.av.a'.length<=100000000000) (aq:m.bK.length<=100000000000) (J:lG x) (aG:x.Lit=true\/∀ y∈m.bK,y≠x.Name) :
  Tot (uA m x) λr=>Grow m r.2 1/\0<=r.1/\r.1<r.2.av.a'.length:=by
 unfold uA;have qN:Grow m m 1:=⟨bb,Nat.le_refl _,Nat.le_succ _,Nat.le_succ _,rfl,rfl,rfl,rfl,λ_ h=>h⟩;refine Tot.cE (λ_=>?_) (λSX=>?_)
 ·exact .aK (t113 m x bb h J) λr ⟨ax,bf,h1⟩=>.aC ⟨ax,bf,h1⟩
 ·have aG:∀ y∈m.bK,y≠x.Name:=aG.resolve_left (by rw [SX]; decide);refine .aK (t96 m x.Name (by simp only [e3]; omega)) λk hk=>Tot.b_ (λbf=>?_) (λ_=>?_)
  ·rcases hk with ⟨rfl,_⟩ | ⟨h1,al,aS⟩
   ·exact absurd bf (by decide)
   ·exact absurd rfl (aG _ (List.mem_of_getElem? aS))
  ·refine .aK (t95 m x (by simp only [e3]; omega)) λt aG=>Tot.b_ (λ_=>?_) (λbf=>.aC ⟨qN,?_⟩)
   ·refine .aK (t94 m _ _) λcb hm=>.aC ⟨hm.1.grow bb 1,Int.le_refl 0,?_⟩;show (0:Int)<(cb.av.a'.length:Int);rw [hm.1.g]; omega
   ·show 0<=t/\t<(m.av.a'.length:Int);rcases aG with aG | aG <;> omega
structure yK (T:Nat) (N:Int) (p:Prod):Prop where
 left:0<=p.Left/\p.Left<=N
 right:∀ s∈p.fw,p0 T N s
 prec:-1<=p.Prec/\p.Prec<T
theorem yK.mono {T T':Nat}{N je:Int}{p:Prod}(h:yK T N p) (fO:T<=T') (b1:N<=je):yK T' je p :=
 ⟨⟨h.left.1,by have:=h.left.2; omega⟩,λs aO=>(h.right s aO).mono fO b1,⟨h.prec.1,by have:=h.prec.2; omega⟩⟩
structure kV (m:jx) (T L I Q:Nat):Prop where
 iB:m.b4.length=m.av.a'.length
 lo:3<=m.av.a'.length
 hi:m.av.a'.length<=T
 ty:m.b0.length<=T
 hY:m.bK.length=L
 hL:0<=m.bD/\m.bD<=I
 ym:m.av.a8.length<=Q
 hC:∀ p∈m.av.a8,yK m.av.a'.length (L+m.bD) p
 lvl:0<=m.bZ
 j4:∀ t∈m.av.a',0<=t.Level
theorem kV.mono {m:jx}{T L I Q T' I' I4:Nat}(h:kV m T L I Q) (fO:T<=T') (bt:I<=I') (ea:Q<=I4):kV m T' L I' I4 :=
 ⟨h.iB,h.lo,by have:=h.hi; omega,by have:=h.ty; omega,h.hY,⟨h.hL.1,by have:=h.hL.2; omega⟩,by have:=h.ym; omega,h.hC,h.lvl,h.j4⟩
theorem kV.grow {m cb:jx}{T L I Q k:Nat}(h:kV m T L I Q) (g:Grow m cb k):kV cb (T+k) L I Q :=
 ⟨g.iB,by have:=h.lo; have:=g.lo; omega,by have:=h.hi; have:=g.hi; omega,by have:=h.ty; have:=g.ty; omega,by rw [g.hY]; exact h.hY,by rw [g.hL]; exact h.hL,by rw [g.hC]; exact h.ym,
  by rw [g.hC,g.hL]; exact λp aH=>(h.hC p aH).mono g.lo (by omega),by rw [g.lvl]; exact h.lvl,g.j4 h.lvl h.j4⟩
theorem t97 (m:jx) (left:ByteArray) (a:Alt) {T L I Q:Nat}(hm:kV m T L I Q) (fO:T<=10000000000) (jR:L<=10000000000) (bt:I<=10000000000) (ea:Q<=10000000000) (aJ:wH a) (e8:BL a) :
  Tot (Bi m left a) λcb=>kV cb (T+1001) L (I+1000) (Q+1001)/\1<=cb.av.a8.length:=by
 unfold Bi;have aP:=aJ.n;refine .aK (t96 m left (by rw [hm.hY]; simp only [e3]; omega)) λaE ff=>?_;have Xp:-1<=aE/\aE<L:=by rw [<- hm.hY]; rcases ff with h | h <;> omega
 refine Tot.aK (Ξ:=λa6=>kV a6.1 (T+1000) L (I+1000) (Q+1000)/\(∀ s∈a6.2.1,p0 a6.1.av.a'.length (L+a6.1.bD) s)/\a6.2.1.length<=1000) ?_ λa6 hK=>?_
 ·refine Tot.count (λs=>s.2.2.2.2) a.ia.length (λs=>0<=s.2.2.2.2/\s.2.2.2.2<=a.ia.length/\kV s.1 (T+s.2.2.2.2.toNat) L (I+s.2.2.2.2.toNat) (Q+s.2.2.2.2.toNat)/\(∀ y∈s.2.1,p0 s.1.av.a'.length (L+s.1.bD) y)/\s.2.1.length<=s.2.2.2.2.toNat) ⟨by show (0:Int)<=0; omega,by show (0:Int)<=_; omega,hm,by simp,Nat.le_refl 0⟩ (by show (a.ia.length:Int) - 0<_; omega) λs aO=>?_;obtain ⟨m1,rt,cE,at_,i⟩:=s;obtain ⟨bf,h1,aa,ax,aq⟩:=aO;simp only at bf h1 aa ax aq ⊢;have hw:aL (i+1)=i+1:=by rw [dH]; omega
  have dz:(i+1).toNat=i.toNat+1:=by omega
  refine Tot.b_ (λbg=>?_) (λ_=>.aC ⟨aa.mono (by omega) (by omega) (by omega),ax,by show rt.length<=1000; omega⟩);refine Tot.aK (Ξ:=λaf=>kV af.1 (T+(i.toNat+1)) L (I+(i.toNat+1)) (Q+(i.toNat+1))/\(∀ y∈af.2.1,p0 af.1.av.a'.length (L+af.1.bD) y)/\af.2.1.length<=i.toNat+1) ?_ λaf zL=>?_
  ·refine Tot.aK (Tot.ht (Φ:=λy=>y∈a.ia) bf bg λy _ aA=>aA) λy aA=>?_;refine Tot.aK (Ξ:=λaf=>kV af.1 (T+(i.toNat+1)) L (I+(i.toNat+1)) (Q+(i.toNat+1))/\(∀ y∈af.2.1,p0 af.1.av.a'.length (L+af.1.bD) y)/\af.2.1.length<=i.toNat+1) ?_ λaf Gh=>.aC Gh;refine Tot.aK (Ξ:=λaf=>kV af.1 (T+(i.toNat+1)) L (I+(i.toNat+1)) (Q+(i.toNat+1))/\(∀ y∈af.2.1,p0 af.1.av.a'.length (L+af.1.bD) y)/\af.2.1.length<=i.toNat+1) ?_ λaf Gh=>.aC Gh;refine Tot.cE (λ_=>?_) (λ_=>?_)
   ·have ca:=aa.hi;refine .aK (t115 m1 y.Sym aa.iB aa.lo (by omega) (by rw [aa.hY]; omega) (e8.parts y aA)) λr ⟨bb,LS⟩=>?_;refine .aK (Ξ:=λ_=>True) (Tot.ap (by simp [lim]; omega) trivial) λ_ _=>.aC ⟨(aa.grow bb).mono (by omega) (by omega) (by omega),λz bH=>?_,by simp; omega⟩;rcases List.mem_append.1 bH with bH | bH
    ·exact (ax z bH).mono bb.lo (by show (L:Int)+m1.bD<=L+r.2.bD; rw [bb.hL]; omega)
    ·rw [List.mem_singleton.1 bH];rw [aa.hY] at LS;exact LS.mono (Nat.le_refl _) (by show (L:Int)<=L+r.2.bD; rw [bb.hL]; have:=aa.hL.1; omega)
   ·refine Tot.aK (Ξ:=λaf=>kV (⟨(⟨m1.av.a',m1.av.bw,af.1,m1.av.bx,m1.av.bB⟩:b3),m1.b4,m1.b0,m1.bK,m1.ck,m1.cm,m1.ch,m1.bZ,af.2.1⟩:cU) (T+(i.toNat+1)) L (I+(i.toNat+1)) (Q+(i.toNat+1))/\(∀ y∈af.2.2.1,p0 m1.av.a'.length (L+af.2.1) y)/\af.2.2.1.length<=i.toNat+1) ?_ λaf SL=>.aC SL;refine Tot.cE (λ_=>.aC ⟨⟨aa.iB,aa.lo,by have:=aa.hi; show m1.av.a'.length<=_; omega,by have:=aa.ty; show m1.b0.length<=_; omega,aa.hY,⟨aa.hL.1,by have:=aa.hL.2; show m1.bD<=_; omega⟩,by have:=aa.ym; show m1.av.a8.length<=_; omega,aa.hC,aa.lvl,aa.j4⟩,ax,by show rt.length<=_; omega⟩) (λ_=>?_);have xC:=aa.hL;have xG:=aa.hY;have zU:=aa.ym;have jH:aL (m1.bD+1)=m1.bD+1:=by rw [dH]; omega
    have iw:aL (((m1.bK.length:Int))+(m1.bD+1))=L+(m1.bD+1):=by rw [dH,xG]; omega
    have V3:aL (1000+(m1.bK.length:Int))=1000+L:=by rw [dH,xG]; omega
    have V4:aL (1000+(L:Int)+(m1.bD+1))=1000+(L:Int)+(m1.bD+1):=by rw [dH]; omega
    rw [jH,iw,V3,V4];refine .aK (Ξ:=λ_=>True) (Tot.ap (by simp [lim]; omega) trivial) λ_ _=>.aK (Ξ:=λ_=>True) (Tot.ap (by simp [lim]; omega) trivial) λ_ _=>.aK (Ξ:=λ_=>True) (Tot.ap (by simp [lim]; omega) trivial) λ_ _=>.aC ⟨⟨aa.iB,aa.lo,?_,?_,aa.hY,?_,?_,?_,aa.lvl,aa.j4⟩,?_,?_⟩
    ·have:=aa.hi; show m1.av.a'.length<=_; omega
    ·have:=aa.ty; show m1.b0.length<=_; omega
    ·show 0<=m1.bD+1/\m1.bD+1<=((I+(i.toNat+1):Nat):Int); omega
    ·show (m1.av.a8++[_]).length<=_; simp; omega
    ·intro p aH;rcases List.mem_append.1 aH with aH | aH
     ·exact (aa.hC p aH).mono (Nat.le_refl _) (by show (L:Int)+m1.bD<=L+(m1.bD+1); omega)
     ·rw [List.mem_singleton.1 aH];refine ⟨?_,by simp,?_⟩
      ·show 0<=(L:Int)+(m1.bD+1)/\(L:Int)+(m1.bD+1)<=L+(m1.bD+1); omega
      ·have:=aa.lo; show (-1:Int)<=-1/\(-1:Int)<(m1.av.a'.length:Int); omega
    ·intro z bH;rcases List.mem_append.1 bH with bH | bH
     ·exact (ax z bH).mono (Nat.le_refl _) (by show (L:Int)+m1.bD<=L+(m1.bD+1); omega)
     ·rw [List.mem_singleton.1 bH];exact .inr (by show 1000<=1000+(L:Int)+(m1.bD+1)/\1000+(L:Int)+(m1.bD+1)<=1000+((L:Int)+(m1.bD+1)); omega)
    ·show (rt++[_]).length<=_; simp; omega
  ·rw [hw];refine .aC ⟨⟨?_,?_,?_,zL.2.1,?_⟩,?_,?_⟩
   ·show (0:Int)<=i+1; omega
   ·show i+1<=(a.ia.length:Int); omega
   ·show kV af.1 (T+(i+1).toNat) L (I+(i+1).toNat) (Q+(i+1).toNat);rw [dz]; exact zL.1
   ·show af.2.1.length<=(i+1).toNat;rw [dz]; exact zL.2.2
   ·show i<i+1; omega
   ·show i+1<=(a.ia.length:Int); omega
 ·obtain ⟨aa,ax,aq⟩:=hK;have mx:=aa.lo;have xC:=aa.hL;refine Tot.aK (Ξ:=λp=>-1<=p/\p<(a6.1.av.a'.length:Int)) ?_ λhC GD=>?_
  ·refine Tot.count (λs=>s.2) a6.2.1.length (λs=>0<=s.2/\s.2<=a6.2.1.length/\-1<=s.1/\s.1<(a6.1.av.a'.length:Int)) ⟨by show (0:Int)<=0; omega,by show (0:Int)<=_; omega,by show (-1:Int)<=-1; omega,by show (-1:Int)<_; omega⟩ (by show (a6.2.1.length:Int) - 0<_; omega) λs aO=>?_;obtain ⟨bf,h1,al,aS⟩:=aO;have hw:aL (s.2+1)=s.2+1:=by rw [dH]; omega
   rw [hw];refine Tot.b_ (λbg=>?_) (λ_=>.aC ⟨al,aS⟩);refine Tot.aK (Ξ:=λp=>-1<=p/\p<(a6.1.av.a'.length:Int)) ?_ λp aH=>.aC ⟨⟨?_,?_,aH.1,aH.2⟩,?_,?_⟩
   ·refine .aK (Tot.ht (Φ:=λy=>idx a6.2.1 s.2=some y/\y∈a6.2.1) bf bg λy h1 al=>⟨h1,al⟩) λy aA=>?_;refine .aK (Ξ:=λp=>-1<=p/\p<(a6.1.av.a'.length:Int)) ?_ λp aH=>.aC aH;refine Tot.b_ (λbg=>?_) (λ_=>.aC ⟨al,aS⟩);rw [aA.1];refine Tot.aw (.aC ?_);rcases ax y aA.2 with h | h
    ·omega
    ·omega
   ·show (0:Int)<=s.2+1; omega
   ·show s.2+1<=(a6.2.1.length:Int); omega
   ·show s.2<s.2+1; omega
   ·show s.2+1<=(a6.2.1.length:Int); omega
  ·refine Tot.aK (Ξ:=λaf=>Grow a6.1 af.1 1/\-1<=af.2/\af.2<(af.1.av.a'.length:Int)) ?_ λaf C1=>?_
   ·have qN:Grow a6.1 a6.1 1:=⟨aa.iB,Nat.le_refl _,Nat.le_succ _,Nat.le_succ _,rfl,rfl,rfl,rfl,λ_ h=>h⟩;refine Tot.cE (λ_=>?_) (λ_=>.aC ⟨qN,GD⟩);refine Tot.aK (Ξ:=λc=>c=true->a.Prec.Lit=true\/∀ y∈a6.1.bK,y≠a.Prec.Name) ?_ λc ae=>?_
    ·refine Tot.cE (λh=>.aC λ_=>.inl h) (λ_=>?_);refine .aK (t96 a6.1 a.Prec.Name (by rw [aa.hY]; simp only [e3]; omega)) λk hk=>.aC λbg=>?_;have bg:=of_decide_eq_true bg;rcases hk with ⟨_,h⟩ | h
     ·exact .inr h
     ·omega
    ·refine Tot.aK (Ξ:=λaf=>Grow a6.1 af.1 1/\-1<=af.2/\af.2<(af.1.av.a'.length:Int)) ?_ λaf aa=>.aC aa;have ca:=aa.hi;refine Tot.cE (λh=>?_) (λ_=>?_)
     ·refine .aK (VG a6.1 a.Prec aa.iB aa.lo (by omega) (by rw [aa.hY]; omega) e8.prec (ae h)) λr ax=>.aC ⟨ax.1,?_,ax.2.2⟩;have:=ax.2.1; show -1<=r.1; omega
     ·refine .aK (t94 a6.1 _ _) λcb kq=>.aC ⟨kq.1.grow aa.iB 1,by show (-1:Int)<=-1; omega,?_⟩;show (-1:Int)<(cb.av.a'.length:Int); omega
   ·have kq:=aa.grow C1.1;have zU:=kq.ym;refine .aK (Ξ:=λ_=>True) (Tot.ap (by simp [lim]; omega) trivial) λ_ _=>.aK (Ξ:=λ_=>True) (Tot.ap (by simp [lim]; omega) trivial) λ_ _=>.aC ⟨⟨kq.iB,kq.lo,?_,?_,kq.hY,⟨kq.hL.1,?_⟩,?_,?_,kq.lvl,kq.j4⟩,by simp⟩
    ·have:=kq.hi; show af.1.av.a'.length<=_; omega
    ·have:=kq.ty; show af.1.b0.length<=_; omega
    ·have:=kq.hL.2; show af.1.bD<=_; omega
    ·show (af.1.av.a8++[_]).length<=_; simp; omega
    ·intro p aH;rcases List.mem_append.1 aH with aH | aH
     ·exact kq.hC p aH
     ·rw [List.mem_singleton.1 aH];have W8:=kq.hL;refine ⟨?_,λz bH=>?_,C1.2⟩
      ·show 0<=aL (1+aE)/\aL (1+aE)<=(L:Int)+af.1.bD;rw [dH]; omega
      ·exact (ax z bH).mono C1.1.lo (by show (L:Int)+a6.1.bD<=L+af.1.bD; rw [C1.1.hL]; omega)
theorem Im (l:List Int):(strOfNums l).size=l.length:=strOfNums_size ..
theorem t99 (n:Int) (bf:0<=n) (h1:n<=1000000000000):Tot (Bj n) λs=>s.size<=2000000000000:=by
 unfold Bj;have hu:IntKind.u64.wrap n=n:=by rw [IntKind.wrap_u64]; omega
 refine Tot.aK (Ξ:=λaf=>af=n) (Tot.b_ (λh=>absurd h (by omega)) (λ_=>.aC hu)) λaf aa=>?_;subst aa;refine Tot.aK (Ξ:=λs=>s.size<=1000000000001) ?_ λs aO=>Tot.b_ (λh=>absurd h (by omega)) (λ_=>.aC (by omega));refine Tot.loop (λs=>0<=s.1/\s.1+s.2.size<=1000000000000+1/\(s.2.size=0->s.1<=1000000000000)) (λs=>s.1.toNat+(if s.2.size=0 then 1 else 0)) ⟨bf,by show af+((0:Nat):Int)<=_; omega,λ_=>h1⟩ (by show af.toNat+(if (0:Nat)=0 then 1 else 0)<1000000000000000000; simp; omega) λs aO=>?_
 obtain ⟨m,t⟩:=s;obtain ⟨g0,g1,g2⟩:=aO;simp only at g0 g1 g2 ⊢;refine Tot.aK (Ξ:=λc=>c=true->0<m\/t.size=0) ?_ λc ae=>Tot.cE (λiZ=>?_) (λ_=>.aC ?_)
 ·refine Tot.b_ (λh=>.aC λ_=>.inl h) (λ_=>.aC λh=>.inr ?_);have:=of_decide_eq_true h;rw [this]; rfl
 ·have ae:=ae iZ;refine .aK (Ξ:=λx=>x=m.tmod 10) (Tot.s_ (by decide) rfl) λx J=>?_;refine .aK (Ξ:=λy=>y.size=t.size+1) (Tot.cat ?_ ?_) λy aA=>.aK (Ξ:=λz=>z=m / 10) (Tot.s8 (by decide) ?_) λz bH=>.aC ?_
  ·rw [Im]; simp; omega
  ·rw [ByteArray.size_append,Im]; simp; omega
  ·rw [Int.tdiv_eq_ediv_of_nonneg g0,IntKind.wrap_u64]; omega
  ·subst bH;refine ⟨⟨?_,?_,?_⟩,?_⟩
   ·show 0<=m / 10; omega
   ·show m / 10+(y.size:Int)<=_; rw [aA]; omega
   ·intro h; have h:y.size=0:=h; omega
   ·show (m / 10).toNat+(if y.size=0 then 1 else 0)<m.toNat+(if t.size=0 then 1 else 0);rw [if_neg (by omega)]
    split <;> omega
 ·show t.size<=1000000000001; omega
structure gY (g:b3):Prop where
 kQ:3<=g.a'.length/\g.a'.length<=40
 hZ:1<=g.bw.length/\g.bw.length<=24
 lP:1<=g.a8.length/\g.a8.length<=60
 hC:∀ p∈g.a8,yK g.a'.length (g.bw.length - 1) p
 aM:∀ p∈g.a8,p.fw.length<=8
 j4:∀ t∈g.a',0<=t.Level
structure iS (m:jx) (T L:Nat):Prop where
 iB:m.b4.length=m.av.a'.length
 lo:3<=m.av.a'.length
 hi:m.av.a'.length<=3+T
 ty:m.b0.length<=T
 hY:m.bK.length<=L
 hC:m.av.a8=[]
 hL:m.bD=0
 lvl:0<=m.bZ
 j4:∀ t∈m.av.a',0<=t.Level
theorem iS.mono {m:jx}{T L T' L':Nat}(h:iS m T L) (fO:T<=T') (jR:L<=L'):iS m T' L' :=
 ⟨h.iB,h.lo,by have:=h.hi; omega,by have:=h.ty; omega,by have:=h.hY; omega,h.hC,h.hL,h.lvl,h.j4⟩
theorem iS.grow {m cb:jx}{T L k:Nat}(h:iS m T L) (g:Grow m cb k):iS cb (T+k) L :=
 ⟨g.iB,by have:=h.lo; have:=g.lo; omega,by have:=h.hi; have:=g.hi; omega,by have:=h.ty; have:=g.ty; omega,by rw [g.hY]; exact h.hY,g.hC.trans h.hC,g.hL.trans h.hL,by rw [g.lvl]; exact h.lvl,g.j4 h.lvl h.j4⟩
theorem iS.same {m cb:jx}{T L:Nat}(h:iS m T L) (g:tw m cb):iS cb T L:=by
 have:=h.grow (g.grow h.iB 0);exact this
theorem Ql (s:ByteArray) (m n:Int) (h:0<=m/\m<=n/\n<=s.size):(rF s m n).size<=(n - m).toNat:=by
 unfold rF;simp [ByteArray.size_extract];omega
theorem t42 (s:ByteArray) (n:Int) (bf:0<=n):Tot (rX s n) λt=>(t.size:Int)<=n:=by
 unfold rX;refine Tot.b_ (λh=>?_) (λh=>.aC (by omega));refine .aK (Ξ:=λt=>(t.size:Int)<=n) (Tot.cut (by omega) ?_) λt aG=>.aC aG;have:=Ql s 0 n (by omega);omega
theorem t43 (x:Sym):Tot (wc x) λy=>y.Name.size<=e3:=by
 unfold wc;refine .aK (t42 _ 25 (by decide)) λt aG=>.aC ?_;show t.size<=1000000000000; omega
theorem Tot.make {β:Type}{f:List β × Int->Option ((List β × Int) ⊕ List β)}(n:Int) (P:β->Prop) (aP:0<=n/\n<=1000000)
  (aO:∀ (l:List β) (i:Int),0<=i->i<=n->(l.length:Int)=i->(∀ y∈l,P y)->Tot (f (l,i)) (jw (λeT=>i<n/\eT.2=i+1/\∃ y,eT.1=l++[y]/\P y) (λr=>r=l))) :
  Tot (cI f ([],0)) λl=>(l.length:Int)<=n/\∀ y∈l,P y:=by
 refine Tot.count (λs=>s.2) n (λs=>0<=s.2/\s.2<=n/\(s.1.length:Int)=s.2/\∀ y∈s.1,P y) ⟨Int.le_refl 0,aP.1,rfl,by simp⟩ (by show n - 0<_; omega) λs bt=>?_;obtain ⟨l,i⟩:=s;obtain ⟨bf,h1,al,aS⟩:=bt;refine (aO l i bf h1 al aS).use λx J=>?_;rcases x with eT | r
 ·obtain ⟨ar,a2,y,a3,a4⟩:=J;refine ⟨⟨by rw [a2]; omega,by rw [a2]; omega,by rw [a2,a3]; simp at al ⊢; omega,λz bH=>?_⟩,by show i<eT.2; rw [a2]; omega,by rw [a2]; omega⟩;rw [a3] at bH;rcases List.mem_append.1 bH with bH | bH
  ·exact aS z bH
  ·rw [List.mem_singleton.1 bH]; exact a4
 ·have:r=l:=J;subst this;exact ⟨by simp at al; omega,aS⟩
theorem t19 (s:Source):Tot (AM s) sd:=by
 unfold AM;refine .aK (t42 s.bx 40 (by decide)) λaE h1=>.aK (t42 s.bB 40 (by decide)) λx2 al=>?_;refine .aK (Tot.make 8 Ep (by decide) λl i bf xC aq di=>?_) λbQ b7=>?_
 ·refine .aK (Ξ:=λc=>c=true->i<s.Decls.length/\i<8) (Tot.b_ (λh=>.aC λal=>⟨h,of_decide_eq_true al⟩) (λ_=>.aC λh=>by cases h)) λc ae=>Tot.cE (λiZ=>?_) (λ_=>.aC rfl);obtain ⟨hi,Gf⟩:=ae iZ;have l7:i.toNat<s.Decls.length:=by omega
  have zK:idx s.Decls i=some s.Decls[i.toNat]:=by simp [idx,bf,l7]
  rw [zK];generalize s.Decls[i.toNat]=d;have hw:aL (i+1)=i+1:=by rw [dH]; omega
  refine Tot.aw (Tot.aw (.aK (t42 d.Tag 25 (by decide)) λbO xu=>Tot.aw ?_));refine .aK (Tot.make 6 (λx=>x.Name.size<=e3) (by decide) λvR k g0 Q3 Q4 Q2=>?_) λdb tM=>?_
  ·refine .aK (Ξ:=λc=>c=true->k<d.e0.length/\k<6) (Tot.aw (Tot.b_ (λh=>.aC λal=>⟨h,of_decide_eq_true al⟩) (λ_=>.aC λh=>by cases h))) λc ae=>Tot.cE (λiZ=>?_) (λ_=>.aC rfl);obtain ⟨hk,Gk⟩:=ae iZ;refine Tot.aw (.aK (Tot.ht (Φ:=λ_=>True) g0 hk λ_ _ _=>trivial) λdt _=>.aK (t43 dt) λgf Q9=>.aK (Ξ:=λ_=>True) (Tot.ap (by simp [lim]; omega) trivial) λ_ _=>.aC ⟨Gk,?_,_,rfl,Q9⟩);show aL (k+1)=k+1; rw [dH]; omega
  ·refine .aK (Ξ:=λ_=>True) (Tot.ap (by simp [lim]; omega) trivial) λ_ _=>.aC ⟨Gf,hw,_,rfl,⟨?_,?_,tM.2⟩⟩
   ·show bO.size<=1000000000000; omega
   ·have:=tM.1; show db.length<=1000; omega
 ·refine .aK (Tot.make 6 I5 (by decide) λl i bf xC aq di=>?_) λgV xw=>.aC ⟨?_,?_,b7.2,?_,xw.2⟩
  ·refine .aK (Ξ:=λc=>c=true->i<s.dw.length/\i<6) (Tot.b_ (λh=>.aC λal=>⟨h,of_decide_eq_true al⟩) (λ_=>.aC λh=>by cases h)) λc ae=>Tot.cE (λiZ=>?_) (λ_=>.aC rfl);obtain ⟨hi,Gf⟩:=ae iZ;have l7:i.toNat<s.dw.length:=by omega
   have zK:idx s.dw i=some s.dw[i.toNat]:=by simp [idx,bf,l7]
   rw [zK];generalize s.dw[i.toNat]=d;have hw:aL (i+1)=i+1:=by rw [dH]; omega
   refine Tot.aw (.aK (t42 d.Left 25 (by decide)) λdk Fx=>Tot.aw ?_);refine .aK (Tot.make 5 wH (by decide) λvR k g0 Q3 Q4 Q2=>?_) λfC KP=>?_
   ·refine .aK (Ξ:=λc=>c=true->k<d.eY.length/\k<5) (Tot.aw (Tot.b_ (λh=>.aC λal=>⟨h,of_decide_eq_true al⟩) (λ_=>.aC λh=>by cases h))) λc ae=>Tot.cE (λiZ=>?_) (λ_=>.aC rfl);obtain ⟨hk,Gk⟩:=ae iZ;have SS:k.toNat<d.eY.length:=by omega
    have SQ:idx d.eY k=some d.eY[k.toNat]:=by simp [idx,g0,SS]
    simp only [Option.bind_some,SQ];generalize d.eY[k.toNat]=a;have sX:aL (k+1)=k+1:=by rw [dH]; omega
    refine .aK (t43 a.Prec) λfF Rb=>?_;refine .aK (Tot.make 6 (λp=>p.Sym.Name.size<=e3/\p.Code.size<=e3) (by decide) λDt af j_ Wy el Wx=>?_) λmQ KR=>?_
    ·refine .aK (Ξ:=λc=>c=true->af<a.ia.length/\af<6) (Tot.b_ (λh=>.aC λal=>⟨h,of_decide_eq_true al⟩) (λ_=>.aC λh=>by cases h)) λc ae=>Tot.cE (λiZ=>?_) (λ_=>.aC rfl);obtain ⟨aa,zL⟩:=ae iZ;refine .aK (Tot.ht (Φ:=λ_=>True) j_ aa λ_ _ _=>trivial) λh3 _=>.aK (t43 h3.Sym) λns Ri=>.aK (t42 h3.Code 60 (by decide)) λkR KU=>.aK (Ξ:=λ_=>True) (Tot.ap (by simp [lim]; omega) trivial) λ_ _=>.aC ⟨zL,?_,_,rfl,Ri,?_⟩
     ·show aL (af+1)=af+1; rw [dH]; omega
     ·show kR.size<=1000000000000; omega
    ·refine .aK (Ξ:=λ_=>True) (Tot.ap (by simp [lim]; omega) trivial) λ_ _=>.aC ⟨Gk,sX,_,rfl,⟨?_,KR.2,Rb⟩⟩;have:=KR.1; show mQ.length<=1000; omega
   ·refine .aK (Ξ:=λ_=>True) (Tot.ap (by simp [lim]; omega) trivial) λ_ _=>.aC ⟨Gf,hw,_,rfl,⟨?_,?_,KP.2⟩⟩
    ·show dk.size<=1000000000000; omega
    ·have:=KP.1; show fC.length<=1000; omega
  ·show aE.size<=1000000000000; omega
  ·have:=b7.1; show bQ.length<=1000; omega
  ·have:=xw.1; show gV.length<=1000; omega
theorem t14 (a n:Int) (h:0<n) (aP:n<=9223372036854775807):Tot (s6 a n) λr=>0<=r/\r<n:=by
 unfold s6;have h1:-n<a.tmod n:=by
  by_cases bk:0<=a
  ·have:=Int.tmod_nonneg n bk; omega
  ·have al:(-a).tmod n<n:=Int.tmod_lt_of_pos _ h;rw [Int.neg_tmod] at al;omega
 have al:a.tmod n<n:=Int.tmod_lt_of_pos a h;refine .aK (Ξ:=λx=>x=a.tmod n) (Tot.rem (by omega) rfl) λx J=>?_;subst J;refine Tot.aK (Ξ:=λr=>0<=r/\r<n) (Tot.b_ (λaS=>.aC ?_) (λaS=>.aC (by omega))) λr ax=>.aC ax;rw [dH]; omega
theorem t47 (k:Int) (h:0<=k):Tot (uD k) λx=>x.Name.size=1/\x.Lit=true/\x.cM=0:=by
 unfold uD;refine .aK (Ξ:=λx=>x.size=4) (.aC rfl) λaE h1=>.aK (Ξ:=λr=>r=k.tmod 4) (Tot.rem (by decide) rfl) λx2 al=>.aK (Ξ:=λr=>r=k.tmod 4) (Tot.rem (by decide) rfl) λa6 aS=>?_;subst al aS;have e:k.tmod 4=k % 4:=Int.tmod_eq_emod_of_nonneg h;rw [e];have hw:aL (k % 4+1)=k % 4+1:=by rw [dH]; omega
 rw [hw];refine .aK (Ξ:=λx=>x.size=1) (Tot.cut (by rw [h1]; omega) ?_) λbQ b7=>.aC ⟨b7,rfl,rfl⟩;have:=Qm (s:=aE) (m:=k % 4) (n:=k % 4+1) (by rw [h1]; omega);omega
theorem t45 (k:Int):Tot (yd k) λx=>x.size=1:=by
 unfold yd;exact .aC (by rw [Im]; rfl)
theorem t46 (k n:Int) (h:0<n) (aP:n<=100):Tot (AS k n) λx=>x.Name.size<=5:=by
 unfold AS;refine .aK (t14 k 14 (by decide) (by decide)) λaE h1=>Tot.b_ (λdv=>?_) (λdv=>Tot.cE (λ_=>.aC ?_) (λ_=>?_))
 ·refine .aK (Ξ:=λ_=>True) (Tot.rem (by omega) trivial) λa6 _=>.aK (t45 a6) λbQ b7=>.aC ?_;show bQ.size<=5; omega
 ·show (5:Nat)<=5; omega
 ·refine .aK (t47 _ ?_) λx J=>.aC (by omega);rw [dH]; omega
structure wN (n:Nat) (d:Decl):Prop where
 tag:d.Tag.size=0
 n:d.e0.length<=n
 syms:∀ x∈d.e0,x.Name.size<=e3
theorem t44 (l:List Int):Tot (AR l) λr=>r.length<=4/\∀ d∈r,wN 10 d:=by
 unfold AR;refine Tot.aK (Ξ:=λr=>r.length<=4/\∀ d∈r,wN 10 d) ?_ λr ax=>.aC ax;refine Tot.count (λs=>s.2) 4 (λs=>0<=s.2/\s.2<=4/\s.1.length<=s.2.toNat/\∀ d∈s.1,wN (1+s.2.toNat) d) ⟨Int.le_refl 0,by decide,Nat.le_refl 0,λd aZ=>absurd aZ (by simp)⟩ (by decide) λs aO=>?_;obtain ⟨r,i⟩:=s;obtain ⟨bf,b7,aq,aZ⟩:=aO;simp only at bf b7 aq aZ ⊢;have hw:aL (i+1)=i+1:=by rw [dH]; omega
 rw [hw];refine .aK (Ξ:=λc=>c=true->i<l.length/\i<4) (Tot.b_ (λh=>.aC λal=>⟨h,of_decide_eq_true al⟩) (λ_=>.aC λh=>by cases h)) λc ae=>Tot.cE (λiZ=>?_) (λ_=>.aC ⟨by omega,λd lJ=>⟨(aZ d lJ).tag,by have:=(aZ d lJ).n; omega,(aZ d lJ).syms⟩⟩);obtain ⟨hi,W6⟩:=ae iZ;refine Tot.aK (Ξ:=λaf=>af.length<=i.toNat+1/\∀ d∈af,wN (1+(i.toNat+1)) d) ?_ λaf aa=>.aC ⟨⟨?_,?_,?_,?_⟩,?_,?_⟩
 ·refine .aK (Tot.ht (Φ:=λ_=>True) bf hi λ_ _ _=>trivial) λbA _=>.aK (t14 bA 8 (by decide) (by decide)) λcn tN=>.aK (Ξ:=λ_=>True) (Tot.rem (by decide) trivial) λbS _=>?_;have n1:∀ d∈r,wN (1+(i.toNat+1)) d:=λd lJ=>⟨(aZ d lJ).tag,by have:=(aZ d lJ).n; omega,(aZ d lJ).syms⟩;refine Tot.cE (λ_=>.aC ⟨by omega,n1⟩) (λ_=>?_);refine .aK (Ξ:=λc=>c=true->0<(r.length:Int)) (Tot.cE (λ_=>.aC λh=>of_decide_eq_true h) (λ_=>.aC λh=>by cases h)) λc ae=>Tot.cE (λsM=>?_) (λ_=>?_)
  ·have ue:=ae sM;have Tw:aL ((r.length:Int) - 1)=(r.length:Int) - 1:=by rw [dH]; omega
   rw [Tw];refine .aK (Tot.ht (Φ:=λy=>y∈r) (by omega) (by omega) λ_ _ h=>h) λd lJ=>.aK (t47 i bf) λx J=>.aK (Ξ:=λ_=>True) (Tot.ap (by have:=(aZ d lJ).n; simp [lim]; omega) trivial) λ_ _=>.aC ⟨by simp; omega,λCu F8=>?_⟩;rcases vU F8 with h | rfl
   ·exact n1 Cu h
   ·refine ⟨(aZ d lJ).tag,?_,λy aA=>?_⟩
    ·have:=(aZ d lJ).n; show (d.e0++[x]).length<=_; simp; omega
    ·rcases List.mem_append.1 aA with aA | aA
     ·exact (aZ d lJ).syms y aA
     ·rw [List.mem_singleton.1 aA,J.1]; decide
  ·refine .aK (Ξ:=λ_=>True) (Tot.rem (by decide) trivial) λeV _=>.aK (t47 i bf) λx J=>.aK (Ξ:=λ_=>True) (Tot.ap (by simp [lim]; omega) trivial) λ_ _=>.aC ⟨by simp; omega,λCu F8=>?_⟩;rcases List.mem_append.1 F8 with h | h
   ·exact n1 Cu h
   ·rw [List.mem_singleton.1 h];refine ⟨rfl,by show 1<=_; omega,λy aA=>?_⟩;have aA:y∈[x]:=aA;rw [List.mem_singleton.1 aA,J.1]; decide
 ·show 0<=i+1; omega
 ·show i+1<=4; omega
 ·show af.length<=(i+1).toNat; omega
 ·intro d lJ;have e:(i+1).toNat=i.toNat+1:=by omega
  show wN (1+(i+1).toNat) d;rw [e]; exact aa.2 d lJ
 ·show i<i+1; omega
 ·show i+1<=4; omega
structure lh (n:Nat) (r:fa):Prop where
 left:r.Left.size<=e3
 n:r.eY.length<=n
 alts:∀ a∈r.eY,wH a
theorem lh.mono {n m:Nat}{r:fa}(h:lh n r) (hm:n<=m):lh m r:=⟨h.left,Nat.le_trans h.n hm,h.alts⟩
theorem lh.add {n:Nat}{r:fa}{a:Alt}(h:lh n r) (bk:wH a):lh (n+1) (⟨r.Left,r.eY++[a],r.At⟩:fa):=by
 refine ⟨h.left,by have:=h.n; show (r.eY++[a]).length<=_; simp; omega,λb aJ=>?_⟩;rcases List.mem_append.1 aJ with aJ | aJ
 ·exact h.alts b aJ
 ·rw [List.mem_singleton.1 aJ]; exact bk
theorem Jf {l:List fa}{i n:Nat}{r:fa}(h:∀ x∈l,lh n x) (ax:lh n r):∀ x∈l.set i r,lh n x:=λx J=>by
 rcases vU J with aU | rfl
 ·exact h x aU
 ·exact ax
theorem t20 (x:rj):Tot (AN x) sd:=by
 unfold AN;refine .aK (t14 x.bw 4 (by decide) (by decide)) λaE h1=>.aK (t44 x.oq) λx2 al=>?_;have sV:aL (1+aE)=1+aE:=by rw [dH]; omega
 rw [sV];refine .aK (Ξ:=λl=>l=List.replicate (1+aE).toNat false) (Tot.mk (by simp [lim]; omega) rfl) λa6 aS=>?_;have WA:a6.length=(1+aE).toNat:=by rw [aS]; simp
 refine Tot.aK (Ξ:=λl=>(l.length:Int)=1+aE/\∀ r∈l,lh 0 r) ?_ λb' dv=>?_
 ·refine Tot.count (λs=>s.2) (1+aE) (λs=>0<=s.2/\s.2<=1+aE/\(s.1.length:Int)=s.2/\∀ r∈s.1,lh 0 r) ⟨Int.le_refl 0,by show 0<=1+aE; omega,rfl,λd aZ=>absurd aZ (by simp)⟩ (by show 1+aE - 0<_; omega) λs aO=>?_;obtain ⟨l,i⟩:=s;obtain ⟨g0,g1,aq,di⟩:=aO;simp only at g0 g1 aq di ⊢;have hw:aL (i+1)=i+1:=by rw [dH]; omega
  rw [hw];refine Tot.b_ (λbg=>?_) (λ_=>.aC ⟨by omega,di⟩);refine .aK (t45 i) λbA qH=>.aK (Ξ:=λ_=>True) (Tot.ap (by simp [lim]; omega) trivial) λ_ _=>.aC ⟨⟨?_,?_,?_,λr ax=>?_⟩,?_,?_⟩
  ·show 0<=i+1; omega
  ·show i+1<=1+aE; omega
  ·show ((l++[_]).length:Int)=i+1;simp; omega
  ·rcases List.mem_append.1 ax with ax | ax
   ·exact di r ax
   ·rw [List.mem_singleton.1 ax];exact ⟨by show bA.size<=_; rw [qH]; decide,Nat.le_refl 0,λa bk=>absurd bk (by simp)⟩
  ·show i<i+1; omega
  ·show i+1<=1+aE; omega
 refine Tot.aK (Ξ:=λr=>(r.1.length:Int)=1+aE/\(r.2.length:Int)=1+aE/\∀ y∈r.1,lh 9 y) ?_ λbO xu=>?_
 ·refine Tot.count (λs=>s.2.2) 9 (λs=>0<=s.2.2/\s.2.2<=9/\(s.1.length:Int)=1+aE/\(s.2.1.length:Int)=1+aE/\∀ y∈s.1,lh s.2.2.toNat y) ⟨Int.le_refl 0,by show (0:Int)<=9; decide,dv.1,by show (a6.length:Int)=_; omega,dv.2⟩ (by show (9:Int) - 0<_; decide) λs aO=>?_;obtain ⟨l,aJ,i⟩:=s;obtain ⟨g0,g1,aq,Ge,di⟩:=aO;simp only at g0 g1 aq Ge di ⊢;have hw:aL (i+1)=i+1:=by rw [dH]; omega
  rw [hw];refine .aK (Ξ:=λc=>c=true->i<x.dw.length/\i<9) (Tot.b_ (λh=>.aC λal=>⟨h,of_decide_eq_true al⟩) (λ_=>.aC λh=>by cases h)) λc ae=>Tot.cE (λiZ=>?_) (λ_=>.aC ⟨aq,Ge,λy aA=>(di y aA).mono (by omega)⟩);obtain ⟨hi,W7⟩:=ae iZ;have l7:i.toNat<x.dw.length:=by omega
  have zK:idx x.dw i=some x.dw[i.toNat]:=by simp [idx,g0,l7]
  rw [zK];generalize x.dw[i.toNat]=d;have K5:∀ y∈l,lh (i.toNat+1) y:=λy aA=>(di y aA).mono (by omega);refine Tot.aK (Ξ:=λaf=>(af.1.length:Int)=1+aE/\(af.2.length:Int)=1+aE/\∀ y∈af.1,lh (i.toNat+1) y) ?_ λaf aa=>.aC ⟨⟨?_,?_,aa.1,aa.2.1,?_⟩,?_,?_⟩
  ·refine Tot.aw (Tot.b_ (λ_=>.aC ⟨aq,Ge,K5⟩) (λeL=>Tot.aw ?_));refine .aK (Tot.ht (Φ:=λ_=>True) (by decide) (by omega) λ_ _ _=>trivial) λez _=>.aK (t14 ez (1+aE) (by omega) (by omega)) λdt KN=>?_;have nv:∀ c:ByteArray,c.size<=e3->((⟨(⟨{ data:=#[] },false,0,0⟩:Sym),c,0⟩:Part).Sym.Name.size<=e3/\(⟨(⟨{ data:=#[] },false,0,0⟩:Sym),c,0⟩:Part).Code.size<=e3):=λc ae=>⟨by show 0<=_; exact Nat.zero_le _,ae⟩;refine Tot.aK (Ξ:=λr=>r.1.length<=10/\∀ p∈r.1,p.Sym.Name.size<=e3/\p.Code.size<=e3) ?_ λeW KO=>?_
   ·refine Tot.count (λs=>s.2.2) 5 (λs=>1<=s.2.2/\s.2.2<=5/\(s.1.length:Int)<=2 * (s.2.2 - 1)/\∀ p∈s.1,p.Sym.Name.size<=e3/\p.Code.size<=e3) ⟨Int.le_refl 1,by decide,by decide,λp aH=>absurd aH (by simp)⟩ (by decide) λs aO=>?_;obtain ⟨ps,pl,k⟩:=s;obtain ⟨k0,ur,Um,Hu⟩:=aO;simp only at k0 ur Um Hu ⊢;have sX:aL (k+1)=k+1:=by rw [dH]; omega
    rw [sX];refine .aK (Ξ:=λc=>c=true->k<d.length/\k<5) (Tot.aw (Tot.b_ (λh=>.aC λal=>⟨h,of_decide_eq_true al⟩) (λ_=>.aC λh=>by cases h))) λc ae=>Tot.cE (λiZ=>?_) (λ_=>.aC ⟨by show ps.length<=10; omega,Hu⟩);obtain ⟨hk,W_⟩:=ae iZ;refine Tot.aK (Ξ:=λaf=>(af.1.length:Int)<=2 * k/\∀ p∈af.1,p.Sym.Name.size<=e3/\p.Code.size<=e3) ?_ λaf aa=>.aC ⟨⟨?_,?_,?_,aa.2⟩,?_,?_⟩
    ·refine Tot.aw (.aK (Tot.ht (Φ:=λ_=>True) (by omega) hk λ_ _ _=>trivial) λjb _=>.aK (t46 jb (1+aE) (by omega) (by omega)) λdk Fx=>?_);refine .aK (Ξ:=λ_=>True) (Tot.cE (λ_=>Tot.cE (λ_=>.aC trivial) (λ_=>.aC trivial)) (λ_=>.aC trivial)) λ_ _=>.aK (Ξ:=λ_=>True) (Tot.ap (by simp [lim]; omega) trivial) λ_ _=>?_;have bW:∀ p∈ps++[(⟨dk,{ data:=#[] },0⟩:Part)],p.Sym.Name.size<=e3/\p.Code.size<=e3:=λp aH=>by
      rcases List.mem_append.1 aH with aH | aH
      ·exact Hu p aH
      ·rw [List.mem_singleton.1 aH];exact ⟨by show dk.Name.size<=1000000000000; omega,Nat.zero_le _⟩
     refine .aK (Ξ:=λ_=>True) ?_ λtD _=>?_
     ·refine Tot.b_ (λh=>Tot.cE (λ_=>.aK (Tot.ht (Φ:=λ_=>True) g0 h λ_ _ _=>trivial) λ_ _=>.aK (Ξ:=λ_=>True) (Tot.rem (by decide) trivial) λ_ _=>.aC trivial) (λ_=>.aC trivial)) (λ_=>.aC trivial)
     ·refine Tot.aK (Ξ:=λl=>(l.length:Int)<=2 * k/\∀ p∈l,p.Sym.Name.size<=e3/\p.Code.size<=e3) ?_ λaf aa=>.aC aa;refine Tot.cE (λ_=>?_) (λ_=>.aC ⟨by simp; omega,bW⟩);refine .aK (Ξ:=λ_=>True) (Tot.ap (by simp [lim]; omega) trivial) λ_ _=>.aC ⟨by simp; omega,λp aH=>?_⟩;rcases List.mem_append.1 aH with aH | aH
      ·exact bW p aH
      ·rw [List.mem_singleton.1 aH]; exact nv _ (by decide)
    ·show 1<=k+1; omega
    ·show k+1<=5; omega
    ·show (af.1.length:Int)<=2 * (k+1 - 1); omega
    ·show k<k+1; omega
    ·show k+1<=5; omega
   ·refine .aK (Ξ:=λ_=>True) (Tot.b_ (λh=>.aK (Tot.ht (Φ:=λ_=>True) g0 h λ_ _ _=>trivial) λ_ _=>.aK (Ξ:=λ_=>True) (Tot.rem (by decide) trivial) λ_ _=>.aC trivial) (λ_=>.aC trivial)) λWo _=>?_;refine Tot.aK (Ξ:=λl=>l.length<=20/\∀ p∈l,p.Sym.Name.size<=e3/\p.Code.size<=e3) ?_ λmJ Re=>?_
    ·refine Tot.cE (λ_=>?_) (λ_=>.aC ⟨by omega,KO.2⟩);refine .aK (Ξ:=λ_=>True) (Tot.ap (by simp [lim]; omega) trivial) λ_ _=>.aC ⟨by simp; omega,λp aH=>?_⟩;rcases List.mem_append.1 aH with aH | aH
     ·exact KO.2 p aH
     ·rw [List.mem_singleton.1 aH]; exact nv _ (by decide)
    ·refine Tot.aK (Ξ:=λl=>(l.length:Int)=1+aE) ?_ λJN Rg=>?_
     ·refine .aK (Tot.ht (Φ:=λ_=>True) KN.1 (by omega) λ_ _ _=>trivial) λ_ _=>Tot.cE (λ_=>.aC (by simp; omega)) (λ_=>.aC (by simp; omega))
     ·refine .aK (Tot.ht (Φ:=λy=>y∈l) KN.1 (by omega) λ_ _ h=>h) λkv Rh=>?_;have oO:=di kv Rh;refine .aK (Ξ:=λ_=>True) (Tot.ap (by have:=oO.n; simp [lim]; omega) trivial) λ_ _=>.aC ⟨by show ((l.set _ _).length:Int)=_; simp; omega,Rg,Jf K5 (oO.add ⟨by show mJ.length<=_; omega,Re.2,Nat.zero_le _⟩)⟩
  ·show 0<=i+1; omega
  ·show i+1<=9; omega
  ·intro y aA;have e:(i+1).toNat=i.toNat+1:=by omega
   show lh (i+1).toNat y;rw [e]; exact aa.2.2 y aA
  ·show i<i+1; omega
  ·show i+1<=9; omega
 refine Tot.aK (Ξ:=λl=>(l.length:Int)=1+aE/\∀ y∈l,lh 20 y) ?_ λkR KU=>.aC ⟨Nat.zero_le _,?_,λd aZ=>?_,?_,λr ax=>?_⟩
 ·refine Tot.count (λs=>s.2) (1+aE) (λs=>0<=s.2/\s.2<=1+aE/\(s.1.length:Int)=1+aE/\∀ y∈s.1,lh (9+s.2.toNat) y) ⟨Int.le_refl 0,by show 0<=1+aE; omega,xu.1,xu.2.2⟩ (by show 1+aE - 0<_; omega) λs aO=>?_;obtain ⟨l,i⟩:=s;obtain ⟨g0,g1,aq,di⟩:=aO;simp only at g0 g1 aq di ⊢;have hw:aL (i+1)=i+1:=by rw [dH]; omega
  rw [hw];refine Tot.b_ (λbg=>?_) (λ_=>.aC ⟨aq,λy aA=>(di y aA).mono (by omega)⟩);refine Tot.aK (Ξ:=λl=>(l.length:Int)=1+aE/\∀ y∈l,lh (9+i.toNat+1) y) ?_ λaf aa=>.aC ⟨⟨?_,?_,aa.1,?_⟩,?_,?_⟩
  ·refine .aK (Ξ:=λ_=>True) ?_ λWp _=>?_
   ·refine .aK (Tot.ht (Φ:=λ_=>True) g0 (by omega) λ_ _ _=>trivial) λuU _=>Tot.cE (λ_=>.aC trivial) (λ_=>.aK (Tot.ht (Φ:=λ_=>True) g0 (by omega) λ_ _ _=>trivial) λ_ _=>Tot.cE (λ_=>.aC trivial) (λ_=>.aC trivial))
   ·refine Tot.aK (Ξ:=λl=>(l.length:Int)=1+aE/\∀ y∈l,lh (9+i.toNat+1) y) ?_ λaf aa=>.aC aa;refine Tot.cE (λ_=>?_) (λ_=>.aC ⟨aq,λy aA=>(di y aA).mono (by omega)⟩);refine .aK (Tot.ht (Φ:=λy=>y∈l) g0 (by omega) λ_ _ h=>h) λkx CN=>.aK (t47 i g0) λky WH=>?_;have J:=di kx CN;refine .aK (Ξ:=λ_=>True) (Tot.ap (by have:=J.n; simp [lim]; omega) trivial) λ_ _=>.aC ⟨by simp; omega,Jf (λy aA=>(di y aA).mono (by omega)) (J.add ⟨by show 1<=_; omega,λp aH=>?_,Nat.zero_le _⟩)⟩;have aH:p∈[(⟨ky,{ data:=#[] },0⟩:Part)]:=aH;rw [List.mem_singleton.1 aH];exact ⟨by show ky.Name.size<=1000000000000; omega,Nat.zero_le _⟩
  ·show 0<=i+1; omega
  ·show i+1<=1+aE; omega
  ·intro y aA;have e:9+(i+1).toNat=9+i.toNat+1:=by omega
   show lh (9+(i+1).toNat) y;rw [e]; exact aa.2 y aA
  ·show i<i+1; omega
  ·show i+1<=1+aE; omega
 ·have:=al.1; show x2.length<=1000; omega
 ·have:=al.2 d aZ;exact ⟨by rw [this.tag]; exact Nat.zero_le _,by have:=this.n; omega,this.syms⟩
 ·show kR.length<=1000; omega
 ·have:=KU.2 r ax;exact ⟨this.left,by have:=this.n; omega,this.alts⟩
end Go.Proofs
namespace Go.Own
open Go Go.Sort
variable {α:Type} [DecidableEq α]
structure Ord (lt:α->α->Bool):Prop where
 swo:SWO lt
 j7:∀ x y,lt x y=false->lt y x=false->x=y
def gk (lt:α->α->Bool) (l:List α):Prop:=l.Pairwise λa b=>lt a b=true
omit [DecidableEq α] in
theorem gk.nd {lt:α->α->Bool}(h:Ord lt) {l:List α}(aq:gk lt l):l.Nodup:=aq.imp λ{a b} K9 e=>by
 subst e;rw [h.swo.irrefl] at K9; cases K9
omit [DecidableEq α] in
theorem gk.uniq {lt:α->α->Bool}(h:Ord lt) {l m:List α}(aq:gk lt l) (hm:gk lt m) (he:∀ x,x∈l↔x∈m):l=m :=
 List.Perm.eq_of_pairwise (le:=λa b=>lt a b=true) (λa b _ _ h1 al=>by have:=h.swo.trans _ _ _ h1 al; rw [h.swo.irrefl] at this; cases this) aq hm ((List.perm_ext_iff_of_nodup (aq.nd h) (hm.nd h)).2 he)
omit [DecidableEq α] in
theorem xV {l m:List α}(aZ:l.Nodup) (hm:∀ x∈l,x∈m):l.length<=m.length:=by
 classical
 induction l generalizing m with
 | nil=>exact Nat.zero_le _
 | cons x l aR =>
  have J:=hm x (by simp);have n1:=List.nodup_cons.1 aZ;have:=aR (m:=m.erase x) n1.2 λy aA=>(List.mem_erase_of_ne (λe=>n1.1 (by rw [<- e]; exact aA))).2 (hm y (by simp [aA]));have aq:=List.length_erase_of_mem J;have aH:=List.length_pos_of_mem J;simp only [List.length_cons];omega
end Go.Own
namespace Go.Proofs
open Go Go.Own Go.Sort
set_option maxRecDepth 100000
set_option linter.unusedVariables false
def hh (a b:Item):Bool:=decide (a.Prod<b.Prod\/(a.Prod=b.Prod/\a.dT<b.dT))
theorem Hz {a b:Item}:hh a b=true↔(a.Prod<b.Prod\/(a.Prod=b.Prod/\a.dT<b.dT)):=by simp [hh]
theorem Ao {a b:Item}:hh a b=false↔¬ (a.Prod<b.Prod\/(a.Prod=b.Prod/\a.dT<b.dT)):=by simp [hh]
theorem uw:Ord hh where
 swo:=⟨λx=>by rw [Ao]; omega,λx y z h1 al=>by rw [Hz] at *; omega,λx y z h1 al=>by rw [Ao] at *; omega⟩
 j7 x y h1 al:=by
  rw [Ao] at h1 al;obtain ⟨aE,x2⟩:=x;obtain ⟨kj,y2⟩:=y;simp only at h1 al;have:aE=kj:=by omega
  have:x2=y2:=by omega
  subst_vars; rfl
def jm (g:b3) (x:Item):Prop:=∃ q,idx g.a8 x.Prod=some q/\0<=x.dT/\x.dT<=q.fw.length
def h_ (g:b3) (x:Item):Int:=match idx g.a8 x.Prod with
 | some q=>(idx q.fw x.dT).getD (-1)
 | none=>-1
theorem nC {α:Type}{l:List α}{i:Int}{y:α}(h:idx l i=some y):0<=i/\i<l.length/\y∈l:=by
 unfold idx at h
 split at h
 ·rename_i bf;obtain ⟨h1,al⟩:=List.getElem?_eq_some_iff.1 h;exact ⟨bf,by omega,List.mem_of_getElem? h⟩
 ·cases h
theorem vH {α:Type}{l:List α}{i:Int}(h:i<0\/(l.length:Int)<=i):idx l i=none:=by
 unfold idx;split
 ·exact List.getElem?_eq_none (by omega)
 ·rfl
theorem k9 {α:Type}{l:List α}{i:Int}(bf:0<=i) (h1:i<l.length):∃ y,idx l i=some y/\y∈l:=by
 have bg:i.toNat<l.length:=by omega
 exact ⟨l[i.toNat],by simp [idx,bf,bg],List.getElem_mem bg⟩
theorem et {α:Type}{l:List α}{k:Nat}(h:k<l.length):idx l (k:Int)=some l[k]:=by simp [idx,h]
theorem Kb (g:b3) (x:Item):∃ c,x6 g x=some c/\(c=true↔jm g x):=by
 unfold x6;by_cases bf:0<=x.Prod
 ·by_cases h1:x.Prod<g.a8.length
  ·obtain ⟨q,bW,_⟩:=k9 bf h1;by_cases al:0<=x.dT
   ·refine ⟨decide (x.dT<=(q.fw.length:Int)),by simp [bf,h1,al,bW],?_⟩;rw [decide_eq_true_eq];exact ⟨λh=>⟨q,bW,al,h⟩,λ⟨hj,C9,_,h⟩=>by rw [bW] at C9; cases C9; exact h⟩
   ·exact ⟨false,by simp [bf,h1,al],λh=>(by cases h),λ⟨_,_,h,_⟩=>absurd h al⟩
  ·exact ⟨false,by simp [bf,h1],λh=>(by cases h),λ⟨_,h,_⟩=>absurd (nC h).2.1 h1⟩
 ·exact ⟨false,by simp [bf],λh=>(by cases h),λ⟨_,h,_⟩=>absurd (nC h).1 bf⟩
theorem Fg (g:b3) (x:Item):wh g x=some (h_ g x):=by
 unfold wh h_;obtain ⟨c,ae,hi⟩:=Kb g x;rw [ae];simp only [Option.bind_some];cases c with
 | false =>
  have aP:¬ jm g x:=λh=>by have:=hi.2 h; cases this
  simp only [Bool.not_false,cond_true,Option.bind_some];cases bW:idx g.a8 x.Prod with
  | none=>rfl
  | some q =>
   have:idx q.fw x.dT=none:=vH (by
    by_cases bf:0<=x.dT
    ·right;by_cases h1:x.dT<=q.fw.length
     ·exact absurd ⟨q,bW,bf,h1⟩ aP
     ·omega
    ·left; omega)
   simp [this]
 | true =>
  obtain ⟨q,bW,bf,h1⟩:=hi.1 rfl;simp only [Bool.not_true,cond_false,bW,Option.bind_some];by_cases he:x.dT=q.fw.length
  ·rw [vH (.inr (by omega))];simp [he]
  ·obtain ⟨s,aO,_⟩:=k9 (l:=q.fw) (i:=x.dT) bf (by omega);simp [he,aO]
theorem Mp {g:b3}(bb:gY g) {x:Item}(h:0<=h_ g x):jm g x/\p0 g.a'.length (g.bw.length - 1) (h_ g x)/\∃ q,idx g.a8 x.Prod=some q/\idx q.fw x.dT=some (h_ g x):=by
 cases bW:idx g.a8 x.Prod with
 | none =>
  have:h_ g x=-1:=by unfold h_; rw [bW]
  rw [this] at h; exact absurd h (by decide)
 | some q =>
  cases aO:idx q.fw x.dT with
  | none =>
   have:h_ g x=-1:=by unfold h_; rw [bW]; simp [aO]
   rw [this] at h; exact absurd h (by decide)
  | some s =>
   have e:h_ g x=s:=by unfold h_; rw [bW]; simp [aO]
   rw [e];obtain ⟨bf,h1,hm⟩:=nC aO;exact ⟨⟨q,bW,bf,by omega⟩,(bb.hC q (nC bW).2.2).right s hm,q,rfl,aO⟩
inductive nt (g:b3) (l:List Item):Item->Prop
 | base {x:Item}(h:x∈l) (hi:jm g x):nt g l x
 | step {x:Item}{q:Prod}{p:Nat}(h:nt g l x) (aH:g.a8[p]?=some q) (aP:h_ g x=1000+q.Left) (bf:1000<=h_ g x):nt g l ⟨p,0⟩
theorem Md {g:b3}{p:Nat}{q:Prod}(aH:g.a8[p]?=some q):jm g ⟨p,0⟩:=⟨q,by simp [idx,aH],Int.le_refl _,by show (0:Int)<=_; omega⟩
theorem nt.jm {g:b3}{l:List Item}{x:Item}(h:nt g l x):jm g x:=by
 cases h with
 | base _ hi=>exact hi
 | step _ aH _ _=>exact Md aH
theorem UA {g:b3}(bb:gY g) (x:Item):-1<=h_ g x/\h_ g x<=1023:=by
 by_cases h:0<=h_ g x
 ·obtain ⟨_,aO,_⟩:=Mp bb h;have:=bb.hZ;have:=bb.kQ;rcases aO with aO | aO <;> omega
 ·refine ⟨?_,by omega⟩;revert h;unfold h_;cases bW:idx g.a8 x.Prod with
  | none=>intro _; exact Int.le_refl _
  | some q =>
   cases aO:idx q.fw x.dT with
   | none=>intro _; simp [aO]
   | some s =>
    intro h;have hm:=(bb.hC q (nC bW).2.2).right s (nC aO).2.2;simp only [aO,Option.getD_some] at h ⊢;rcases hm with hm | hm <;> omega
def hQ (m:List Bool):Nat:=(m.filter λb=>b).length
theorem vd:∀ (m:List Bool) (i:Nat),i<m.length->m.getD i false=false->hQ (m.set i true)=hQ m+1
 | [],i,h,_=>by simp at h
 | b::m,0,_,h=>by
  have:b=false:=by simpa using h
  subst this;simp [hQ]
 | b::m,i+1,h,bf=>by
  have:=vd m i (by simpa using h) (by simpa using bf);unfold hQ at this ⊢;simp only [List.set_cons_succ,List.filter_cons];cases b <;> simp [this]
theorem Pm (m:List Bool):hQ m<=m.length:=List.length_filter_le _ _
theorem kt {α:Type}{r:List α}{k:Nat}(h:k<r.length):r.take (k+1)=r.take k++[r[k]]:=by
 rw [List.take_add_one,List.getElem?_eq_getElem h]; rfl
theorem Ee (k:Nat) (h:k<=1000000000000):aL ((k:Int)+1)=((k+1:Nat):Int):=by rw [dH]; omega
def allI (g:b3):List Item:=(List.range g.a8.length).flatMap λp=>(List.range 9).map λd=>(⟨(p:Nat),(d:Nat)⟩:Item)
theorem Om (g:b3):(allI g).length=g.a8.length * 9:=by
 have:∀ l:List Nat,(l.map λ_=>9).sum=l.length * 9:=λl=>by
  induction l with
  | nil=>rfl
  | cons a l aR=>simp only [List.map_cons,List.sum_cons,aR,List.length_cons]; omega
 simp [allI,List.length_flatMap,this]
theorem Ur {g:b3}(bb:gY g) {x:Item}(h:jm g x):x∈allI g:=by
 obtain ⟨q,bW,bf,h1⟩:=h;obtain ⟨al,aS,b7⟩:=nC bW;have:=bb.aM q b7;refine List.mem_flatMap.2 ⟨x.Prod.toNat,by simp; omega,List.mem_map.2 ⟨x.dT.toNat,by simp; omega,?_⟩⟩;obtain ⟨a,b⟩:=x;simp only at bf al ⊢;congr 1 <;> omega
theorem sh {g:b3}(bb:gY g) {l:List Item}(aq:gk hh l) (hi:∀ x∈l,jm g x):l.length<=540:=by
 have:=xV (aq.nd uw) λx J=>Ur bb (hi x J);rw [Om] at this;have:=bb.lP;omega
theorem OE {l:List Item}(aq:gk hh l) {i af:Nat}(hi:i<l.length) (aa:af<l.length) (h:i<af):hh l[i] l[af]=true:=List.pairwise_iff_getElem.1 aq i af hi aa h
theorem EM (l:List Item) (x:Item) (aq:gk hh l) (aP:l.length<=100000):Tot (v7 l x) λr=>gk hh r/\(∀ y,y∈r↔y∈l\/y=x):=by
 unfold v7;refine .aK (Ξ:=λz:Int=>∃ k:Nat,z=(k:Int)/\k<=l.length/\(∀ (i:Nat) (h:i<l.length),k<=i->hh x l[i]=true)/\∀ (h:0<k),hh x (l[k - 1]?.getD default)=false) ?_ λz bH=>?_
 ·refine Tot.count (λs=>-s) 1 (λs=>∃ k:Nat,s=(k:Int)/\k<=l.length/\∀ (i:Nat) (h:i<l.length),k<=i->hh x l[i]=true) ⟨l.length,rfl,Nat.le_refl _,λi h hk=>by omega⟩ (by show 1 - -(l.length:Int)<_; omega) λs aO=>?_;obtain ⟨k,rfl,hk,qU⟩:=aO;refine .aK (Ξ:=λc:Bool=>(c=true->0<k/\hh x (l[k - 1]?.getD default)=true)/\(c=false->∀ (h:0<k),hh x (l[k - 1]?.getD default)=false)) ?_ λc ae=>Tot.cE (λh=>?_) (λh=>.aC ⟨k,rfl,hk,qU,ae.2 h⟩)
  ·refine Tot.b_ (λh=>?_) (λh=>.aC ⟨λaU=>(by cases aU),λ_ aU=>by omega⟩);have hz:k - 1<l.length:=by omega
   have hw:aL ((k:Int) - 1)=((k - 1:Nat):Int):=by rw [dH]; omega
   rw [hw,et hz,List.getElem?_eq_getElem hz];simp only [Option.bind_some,Option.getD_some];generalize l[k - 1]=y;refine Tot.b_ (λh1=>.aC ⟨λ_=>⟨by omega,Hz.2 (.inl h1)⟩,λaU=>(by cases aU)⟩) (λh1=>Tot.b_ (λal=>.aC ⟨λaS=>⟨by omega,Hz.2 (.inr ⟨al.symm,of_decide_eq_true aS⟩)⟩,λaS _=>?_⟩) (λal=>.aC ⟨λaU=>(by cases aU),λ_ _=>?_⟩))
   ·have:=of_decide_eq_false aS;rw [Ao]; omega
   ·rw [Ao]; omega
  ·obtain ⟨bf,h1⟩:=ae.1 h;refine .aC ⟨⟨k - 1,by rw [dH]; omega,by omega,λi hi SR=>?_⟩,by show -(k:Int) < -aL _; rw [dH]; omega,by show -aL _<=1; rw [dH]; omega⟩;by_cases e:i=k - 1
   ·subst e;rw [List.getElem?_eq_getElem hi] at h1;exact h1
   ·exact qU i hi (by omega)
 ·obtain ⟨k,rfl,hk,qU,mx⟩:=bH;refine .aK (Ξ:=λc:Bool=>(c=true↔(0<k/\l[k - 1]?.getD default=x))) ?_ λc ae=>Tot.cE (λh=>?_) (λh=>?_)
  ·refine Tot.b_ (λh=>?_) (λh=>.aC ⟨λaU=>(by cases aU),λaU=>by omega⟩);have hz:k - 1<l.length:=by omega
   have hw:aL ((k:Int) - 1)=((k - 1:Nat):Int):=by rw [dH]; omega
   rw [hw,et hz,List.getElem?_eq_getElem hz];simp only [Option.bind_some,Option.getD_some];generalize l[k - 1]=y;refine .aC ?_;obtain ⟨kj,y2⟩:=y;obtain ⟨aE,x2⟩:=x;simp only [Bool.and_true,Bool.and_eq_true,decide_eq_true_eq,Item.mk.injEq];exact ⟨λaU=>⟨by omega,aU⟩,λaU=>aU.2⟩
  ·obtain ⟨bf,h1⟩:=ae.1 h;have hz:k - 1<l.length:=by omega
   rw [List.getElem?_eq_getElem hz] at h1;have J:x∈l:=by rw [<- h1]; exact List.getElem_mem hz
   exact .aC ⟨aq,λy=>⟨.inl,λh=>h.elim id λe=>e ▸ J⟩⟩
  ·have eL:∀ (i:Nat) (hi:i<l.length),i<k->hh l[i] x=true:=by
    intro i hi t_;have hz:k - 1<l.length:=by omega
    have mx:=mx (by omega);have aP:l[k - 1]?.getD default≠x:=λe=>by rw [ae.2 ⟨by omega,e⟩] at h; cases h
    rw [List.getElem?_eq_getElem hz] at mx aP;simp only [Option.getD_some] at mx aP;have hb:hh l[k - 1] x=true:=by
     cases ca:hh l[k - 1] x with
     | true=>rfl
     | false=>exact absurd (uw.j7 _ _ ca mx) aP
    by_cases e:i=k - 1
    ·subst e; exact hb
    ·exact uw.swo.trans _ _ _ (OE aq hi hz (by omega)) hb
   refine .aK (Ξ:=λz=>z=l.take k) (Tot.sub ⟨by omega,by omega,by omega⟩ (by simp)) λz bH=>?_;subst bH;refine .aK (Ξ:=λ_=>True) (Tot.ap (by simp [lim]; omega) trivial) λ_ _=>.aK (Ξ:=λ_=>True) (Tot.ap (by simp [lim]; omega) trivial) λ_ _=>?_;refine .aK (Ξ:=λz=>z=l.drop k) (Tot.sub ⟨by omega,by omega,by omega⟩ ?_) λz bH=>?_
   ·rw [List.take_of_length_le]
    ·congr 1
    ·rw [List.length_drop]; omega
   subst bH;refine .aK (Ξ:=λ_=>True) (Tot.ap (by simp [lim]; omega) trivial) λ_ _=>.aC ?_;rw [List.nil_append];constructor
   ·have h1:∀ a∈l.take k,hh a x=true:=by
     intro a bk;obtain ⟨i,hi,rfl⟩:=List.mem_iff_getElem.1 bk;rw [List.length_take] at hi;rw [List.getElem_take];exact eL i (by omega) (by omega)
    have al:∀ a∈l.drop k,hh x a=true:=by
     intro a bk;obtain ⟨i,hi,rfl⟩:=List.mem_iff_getElem.1 bk;rw [List.length_drop] at hi;rw [List.getElem_drop];exact qU (k+i) (by omega) (by omega)
    unfold gk;rw [List.append_assoc,List.pairwise_append];refine ⟨List.Pairwise.sublist (List.take_sublist k l) aq,?_,λa bk b aJ=>?_⟩
    ·rw [List.singleton_append,List.pairwise_cons];exact ⟨al,List.Pairwise.sublist (List.drop_sublist k l) aq⟩
    ·rcases List.mem_append.1 aJ with aJ | aJ
     ·rw [List.mem_singleton.1 aJ]; exact h1 a bk
     ·exact uw.swo.trans _ _ _ (h1 a bk) (al b aJ)
   ·intro y;rw [List.append_assoc,List.mem_append,List.mem_append,List.mem_singleton];have hm:y∈l↔y∈l.take k\/y∈l.drop k:=by
     rw [<- List.mem_append,List.take_append_drop]
    rw [hm];constructor
    ·rintro (h | h | h)
     ·exact .inl (.inl h)
     ·exact .inr h
     ·exact .inl (.inr h)
    ·rintro ((h | h) | h)
     ·exact .inl h
     ·exact .inr (.inr h)
     ·exact .inr (.inl h)
theorem OY (g:b3) (bb:gY g) (l:List Item) (aq:l.length<=1000000):Tot (AB g l) λr=>gk hh r/\∀ x,x∈r↔x∈l/\jm g x:=by
 unfold AB;refine .aK (Ξ:=λr=>gk hh r/\∀ x,x∈r↔x∈l/\jm g x) ?_ λr ax=>.aC ax;refine Tot.count (λs=>s.2) l.length (λs=>∃ k:Nat,k<=l.length/\s.2=(k:Int)/\gk hh s.1/\∀ x,x∈s.1↔x∈l.take k/\jm g x) ⟨0,Nat.zero_le _,rfl,List.Pairwise.nil,λx=>by simp⟩ (by show (l.length:Int) - 0<_; omega) λs aO=>?_;obtain ⟨out,lz⟩:=s;obtain ⟨k,hk,rfl,bk,hm⟩:=aO;simp only at bk hm ⊢;rw [Ee k (by omega)];refine Tot.b_ (λbg=>?_) (λew=>.aC ?_)
 ·have bg:k<l.length:=by omega
  rw [et bg];refine .aK (Ξ:=λo:List Item=>gk hh o/\∀ x,x∈o↔x∈l.take (k+1)/\jm g x) ?_ λo bj=>.aC ⟨⟨k+1,by omega,rfl,bj⟩,by show (k:Int)<((k+1:Nat):Int); omega,by show ((k+1:Nat):Int)<=_; omega⟩;obtain ⟨c,ae,hi⟩:=Kb g l[k];rw [kt bg];refine Tot.aw ?_;rw [ae];refine Tot.aw (.aK (Ξ:=λo:List Item=>gk hh o/\∀ x,x∈o↔x∈l.take k++[l[k]]/\jm g x) (Tot.cE (λh=>?_) (λh=>.aC ⟨bk,λx=>?_⟩)) λo bj=>.aC bj)
  ·have LH:=sh bb bk λx J=>((hm x).1 J).2;refine Tot.aw (.aK (EM out _ bk (by omega)) λo bj=>.aC ⟨bj.1,λx=>?_⟩);rw [bj.2 x,List.mem_append,List.mem_singleton,hm x];constructor
   ·rintro (⟨h1,al⟩ | rfl)
    ·exact ⟨.inl h1,al⟩
    ·exact ⟨.inr rfl,hi.1 h⟩
   ·rintro ⟨h1 | rfl,al⟩
    ·exact .inl ⟨h1,al⟩
    ·exact .inr rfl
  ·rw [List.mem_append,List.mem_singleton,hm x];constructor
   ·rintro ⟨h1,al⟩;exact ⟨.inl h1,al⟩
   ·rintro ⟨h1 | rfl,al⟩
    ·exact ⟨h1,al⟩
    ·rw [hi.2 al] at h; cases h
 ·have:k=l.length:=by omega
  subst this;rw [List.take_length] at hm;exact ⟨bk,hm⟩
end Go.Proofs
