/-
  Parts of the proof that the last text states. No condition of their own.
-/
import Derived.ChangeAt
import Derived.ChangeOld
import Derived.ChangeSame
import Derived.Deep.Draws
import Derived.Deep.LoopGhost
import Derived.Deep.Slices
import Derived.Ground.SlsfProg
import Derived.KernelRfl
import Derived.Laws.CopyRow
import Derived.Laws.Externs
import Derived.Lib.SliceRun
import Derived.Lib.SlicesCompact
import Derived.Lib.Walk
import Derived.Maps.OwnIn
import Derived.ReadAgain
import Derived.RowKit3
import Derived.Shelf.RegionOpenPlain
import Derived.Shelf.SlGeneric
import Derived.Shelf.SlLaysQ
import Derived.Shelf.SlSortCmp.NoneTotal
import Derived.Shelf.SlicesE.Kit
import Derived.Shelf.SlicesQ.Load
import Derived.Sort.WalkB12
import Derived.StringKeys
import Derived.Test.YtdhblbniiokpmaaGreatRows
import Derived.WalkKit
import Derived.WideShapes
import Derived.Test.YtdhblbniiokpmaaGreatE2
namespace Go.Own
open Go Go.RowKit Go.ChangeShapes Go.WideShapes Go.Deep
variable {α β Lb:Type}{P:Program}
abbrev tt (w:World) (y:ab) (u:Value):Prop:=R w (λb=>b<w.heap.size) (λ_ _=>False) y u (λ_=>False)
def mP (w:World) (ys:List ab) (cs:List Value):Prop :=
 ys.length=cs.length/\∀ (k:Nat) (y:ab) (u:Value),ys[k]?=some y->cs[k]?=some u->u.oneCell'=true/\tt w y u
theorem mP.nil {w:World}:mP w [] []:=⟨rfl,λ_ _ _ h=>by simp at h⟩
theorem mP.one {w:World}{y:ab}{u:Value}(h1:u.oneCell'=true) (h:tt w y u):mP w [y] [u] :=
 ⟨rfl,λk y' wk ax hu=>by
  cases k with
  | zero=>simp at ax hu; subst ax hu; exact ⟨h1,h⟩
  | succ k=>simp at ax⟩
theorem mP.app {w:World}{ys yA:List ab}{cs jJ:List Value}(h:mP w ys cs) (af:mP w yA jJ):mP w (ys++yA) (cs++jJ):=by
 refine ⟨by simp [h.1,af.1],λk y u ax hu=>?_⟩;by_cases hk:k<ys.length
 ·rw [List.getElem?_append_left hk] at ax;rw [List.getElem?_append_left (h.1 ▸ hk)] at hu;exact h.2 k y u ax hu
 ·rw [List.getElem?_append_right (by omega)] at ax;rw [List.getElem?_append_right (by have:=h.1; omega),<- h.1] at hu;exact af.2 _ y u ax hu
structure mg (P:Program) (e:bK α) (t:TypeId) (ok:α->Prop):Prop where
 z:P.cellsOf t=e.z
 go:∀ {H:Type}{enc:TypeId × Value->H}{w:World}{n:Nat}{cs:List Value}{x:DataW H × List MemPlace},
  DataW.trod enc P w 0 (λ_=>true) true n t cs=some x->∃ a,ok a/\mP w (e.cells a) cs
theorem mg.int {e:bK Int}{t:TypeId}{k:IntKind}(aw:P.underlying t=some (.int k)) (aX:P.cellsOf t=e.z) (he:∀ n,e.cells n=[.lit (.int k n)]) :
  mg P e t (λn=>(Lit.int k n).wf=true):=by
 refine ⟨aX,λh=>?_⟩;obtain ⟨n,rfl,_,hw⟩:=DataW.trod_int aw h;exact ⟨n,hw,he n ▸ mP.one rfl (.lit rfl λ_ h=>h)⟩
theorem mg.bool {e:bK Bool}{t:TypeId}(aw:P.underlying t=some .bool) (aX:P.cellsOf t=e.z) (he:∀ n,e.cells n=[.lit (.bool n)]) :
  mg P e t (λ_=>True):=by
 refine ⟨aX,λh=>?_⟩;obtain ⟨n,rfl,_⟩:=DataW.trod_bool aw h;exact ⟨n,trivial,he n ▸ mP.one rfl (.lit rfl λ_ h=>h)⟩
theorem PM (e:bK α) (aX:0<e.z):∀ (l:List α) (k:Nat) (y:ab),(bo e l)[k]?=some y->∃ a,l[k / e.z]?=some a/\(e.cells a)[k % e.z]?=some y
 | [],k,y,h=>by simp [bo] at h
 | a::l,k,y,h=>by
  have he:bo e (a::l)=e.cells a++bo e l:=by simp [bo]
  rw [he] at h;by_cases hk:k<e.z
  ·rw [List.getElem?_append_left (by rw [e.len]; exact hk)] at h;exact ⟨a,by simp [Nat.div_eq_of_lt hk],by rw [Nat.mod_eq_of_lt hk]; exact h⟩
  ·rw [List.getElem?_append_right (by rw [e.len]; omega),e.len] at h;obtain ⟨b,h1,af⟩:=PM e aX l (k - e.z) y h;have aS:k / e.z=(k - e.z) / e.z+1:=by rw [Nat.div_eq_sub_div aX (by omega)]
   refine ⟨b,by rw [aS]; simpa using h1,?_⟩;rw [Nat.mod_eq_sub_mod (by omega)]; exact af
theorem mg.slice {e:bK α}{t F_:TypeId}{ok:α->Prop}(h:mg P e F_ ok) (aw:P.underlying t=some (.slice F_)) (aX:P.cellsOf t=1) (sS:0<e.z) :
  mg P (br e) t (λl=>l.length<=maxLen/\∀ x∈l,ok x):=by
 classical
 refine ⟨aX,λ{H enc w n cs x} aq=>?_⟩;rcases open_slice aw aq with ⟨rfl,rfl⟩ | ⟨a,len,cap,m,cG,D,p8,rfl,av,ak,hm,IN,rfl,J⟩
 ·exact ⟨[],⟨by simp,by simp⟩,mP.one rfl (.hM λ_ h=>h)⟩
 ·have VL:m=cap:=by simpa using IN
  subst VL;have hex:∀ i,i<len->∃ q:α × List Value,ok q.1/\mP w (e.cells q.1) q.2/\w.cells? 0 (a.add (i * P.cellsOf F_)) (P.cellsOf F_)=some q.2:=λi hi=>by
   obtain ⟨cs',h1,af⟩:=J i (by omega);obtain ⟨b,nD,gW⟩:=h.go af;exact ⟨(b,cs'),nD,gW,h1⟩
  by_cases aQ:len=0
  ·subst aQ;exact ⟨[],⟨by simp,by simp⟩,mP.one rfl (.hM λ_ h=>h)⟩
  ·obtain ⟨De,_⟩:=hex 0 (by omega)
   haveI:Inhabited (α × List Value):=⟨De⟩
   obtain ⟨f,aW⟩:=choose_lt hex;have hlen:((List.range len).map λi=>(f i).1).length=len:=by simp
   have n':∀ (i:Nat) (b:α),((List.range len).map λi=>(f i).1)[i]?=some b->i<len/\b=(f i).1:=λi b hi=>by
    have aT:=(List.getElem?_eq_some_iff.1 hi).1;simp at aT;simp [aT] at hi;exact ⟨aT,hi.symm⟩
   have jf:a.spot=none/\a.block<w.heap.size:=by
    obtain ⟨_,_,aI⟩:=aW 0 (by omega);obtain ⟨_,IJ,cF⟩:=World.cells?_some aI;have ej:=cF 0 (by rw [h.z]; exact sS);simp only [Nat.zero_mul,Addr.add,if_true] at ej;have:0<(f 0).2.length:=by rw [IJ,h.z]; exact sS
    rw [List.getElem?_eq_getElem this] at ej;unfold World.cell? at ej
    split at ej
    ·rename_i bY;refine ⟨?_,(Array.getElem?_eq_some_iff.1 bY).1⟩;cases aB:a.spot with
     | none=>rfl
     | some s=>simp [aB] at ej
    ·cases ej
   have key:∀ (k:Nat) (y:ab),(bo e ((List.range len).map λi=>(f i).1))[k]?=some y->∃ u,w.cell? ⟨a.block,a.off+k,none⟩=some u/\u.oneCell'=true/\tt w y u:=λk y hk=>by
    obtain ⟨b,nD,gW⟩:=PM e sS _ k y hk;obtain ⟨hi,rfl⟩:=n' _ _ nD;obtain ⟨_,af,aI⟩:=aW _ hi;obtain ⟨_,IJ,cF⟩:=World.cells?_some aI;have N1:k % e.z<e.z:=Nat.mod_lt _ sS;have ej:=cF (k % e.z) (by rw [h.z]; exact N1);rw [Deep.add_add,h.z] at ej;have fW:k / e.z * e.z+k % e.z=k:=by rw [Nat.mul_comm]; exact Nat.div_add_mod k e.z
    rw [fW] at ej;have aT:k % e.z<(f (k / e.z)).2.length:=by rw [IJ,h.z]; exact N1
    rw [List.getElem?_eq_getElem aT] at ej;have aP:a.add k=⟨a.block,a.off+k,none⟩:=by
     unfold Addr.add;split
     ·rename_i TM; subst TM; cases a; simp at jf ⊢; exact jf.1
     ·rfl
    rw [aP] at ej;exact ⟨_,ej,af.2 _ _ _ gW (List.getElem?_eq_getElem aT)⟩
   refine ⟨(List.range len).map λi=>(f i).1,⟨by rw [hlen]; omega,λy ax=>?_⟩,mP.one rfl ?_⟩
   ·obtain ⟨i,hi,rfl⟩:=List.mem_map.1 ax;exact (aW i (List.mem_range.1 hi)).1
   ·show tt w (.bk e.z _ _) _;rw [hlen];refine .bk (us:=λk=>(w.cell? ⟨a.block,a.off+k,none⟩).getD .nilFunc) (λ_ h=>h) ak jf.2 jf.1 (by rw [nq,hlen]) (λk y hk=>?_) (λk y hk=>?_) (λk y hk=>?_)
    ·obtain ⟨u,h1,af,aI⟩:=key k y hk;simp only [h1,Option.getD_some]; exact af
    ·obtain ⟨u,h1,af,aI⟩:=key k y hk;simp only [h1,Option.getD_some]
    ·obtain ⟨u,h1,af,aI⟩:=key k y hk;simp only [h1,Option.getD_some]; exact aI
def Bo (P:Program):Nat->List Field->List TypeId->Bool
 | _,[],[]=>true
 | off,f::fs,t::ts=>decide (f.type=t)&&decide (f.offset=off)&&Bo P (off+P.cellsOf t) fs ts
 | _,_,_=>false
def Dq (P:Program) (t:TypeId) (ts:List TypeId):Bool :=
 match P.underlying t with
 | some (.struct fs)=>Bo P 0 fs.toList ts&&decide (P.cellsOf t=(ts.map P.cellsOf).sum)
 | _=>false
structure yC (P:Program) (cells:β->List ab) (ts:List TypeId) (ok:β->Prop):Prop where
 go:∀ {H:Type}{enc:TypeId × Value->H}{w:World}{n:Nat}{cs:List Value}{fs:List Field}{off:Nat},Bo P off fs ts=true->cs.length=off+(ts.map P.cellsOf).sum ->
  (∀ (i:Nat) (f:Field),fs[i]?=some f->∃ x,DataW.trod enc P w 0 (λ_=>true) true n f.type ((cs.drop f.offset).take (P.cellsOf f.type))=some x) ->
  ∃ b,ok b/\mP w (cells b) (cs.drop off)
theorem yC.nil:yC P (λ_:Unit=>[]) [] (λ_=>True) :=
 ⟨λ{H enc w n cs fs off} _ ak _=>⟨(),trivial,by rw [List.drop_eq_nil_of_le (by simp at ak; omega)]; exact mP.nil⟩⟩
theorem yC.cons {e:bK α}{t:TypeId}{ts:List TypeId}{ok:α->Prop}{cells:β->List ab}{Pg:β->Prop}(h:mg P e t ok) (ak:yC P cells ts Pg) :
  yC P (λp:α × β=>e.cells p.1++cells p.2) (t::ts) (λp=>ok p.1/\Pg p.2):=by
 refine ⟨λ{H enc w n cs fs off} fg hlen aq=>?_⟩;cases fs with
 | nil=>simp [Bo] at fg
 | cons f fs =>
  simp only [Bo,Bool.and_eq_true,decide_eq_true_eq] at fg;obtain ⟨⟨rfl,rfl⟩,fg⟩:=fg;obtain ⟨x,J⟩:=aq 0 f rfl;obtain ⟨a,aP,aY⟩:=h.go J;obtain ⟨b,av,Uz⟩:=ak.go (off:=f.offset+P.cellsOf f.type) (cs:=cs) fg (by rw [hlen]; simp [Nat.add_assoc]) (λi eJ vl=>aq (i+1) eJ (by simpa using vl));refine ⟨(a,b),⟨aP,av⟩,?_⟩;have:cs.drop f.offset=(cs.drop f.offset).take (P.cellsOf f.type)++cs.drop (f.offset+P.cellsOf f.type):=by
   rw [<- List.drop_drop]; exact (List.take_append_drop _ _).symm
  rw [this];exact aY.app Uz
theorem mg.struct {e:bK Lb}{t:TypeId}{ts:List TypeId}{cells:β->List ab}{ok:β->Prop}(h:yC P cells ts ok) (mk:β->Lb) (un:Lb->β) (Oh:∀ b,un (mk b)=b) (aa:∀ b,e.cells (mk b)=cells b) (aw:Dq P t ts=true) (aX:P.cellsOf t=e.z) :
  mg P e t (λs=>ok (un s)):=by
 refine ⟨aX,λ{H enc w n cs x} aq=>?_⟩;unfold Dq at aw
 split at aw
 ·rename_i fs hu;simp only [Bool.and_eq_true,decide_eq_true_eq] at aw;obtain ⟨xs,cG,rfl,rfl,ak,Jl,J⟩:=DataW.trod_struct hu aq;obtain ⟨b,av,aY⟩:=h.go (w:=w) (off:=0) (cs:=cs) (fs:=fs.toList) (n:=cG) (enc:=enc) aw.1 (by rw [ak,aw.2]; simp) (λi f aW=>by
   have vl:fs[i]?=some f:=by simpa using aW
   have hi:i<xs.length:=by rw [Jl]; exact (Array.getElem?_eq_some_iff.1 vl).1
   exact ⟨xs[i],by rw [J i f vl,List.getElem?_eq_getElem hi]⟩)
  exact ⟨mk b,by rw [Oh]; exact av,by rw [aa]; simpa using aY⟩
 ·cases aw
inductive DM (w:World):ab->Value->Prop
 | mk {y:ab}{v:Value}(h:tt w y v):DM w y v
theorem mg.one {e:bK α}{t:TypeId}{ok:α->Prop}{g:α->ab}(h:mg P e t ok) (he:∀ a,e.cells a=[g a]) {H:Type}{enc:TypeId × Value->H}{w:World}{v:Value}{d:DataW H}{p:List MemPlace}(hv:v.cells.toList=[v])
  (aw:DataW.Trod enc P w 0 (λ_=>true) true t v d p):∃ a,ok a/\DM w (g a) v:=by
 obtain ⟨n,aF⟩:=aw;obtain ⟨a,aP,aY⟩:=h.go aF;refine ⟨a,aP,.mk ?_⟩;rw [hv,he] at aY;exact (aY.2 0 _ _ rfl rfl).2
theorem mg.XB {e:bK α}{t:TypeId}{ok:α->Prop}{ts:List TypeId}(h:mg P e t ok) (fg:Dq P t ts=true) {H:Type}{enc:TypeId × Value->H}{w:World}{v:Value}{d:DataW H}{p:List MemPlace}{base:Nat}(hv:Value.okWide P w .any base t v)
  (aw:DataW.Trod enc P w 0 (λ_=>true) true t v d p):∃ a,ok a/\DM w (.agg (e.cells a)) v:=by
 have hu:∃ fs,P.underlying t=some (.struct fs):=by
  unfold Dq at fg
  split at fg
  ·exact ⟨_,by assumption⟩
  ·cases fg
 obtain ⟨fs,hu⟩:=hu;obtain ⟨cs,rfl,hL⟩:=okWide_struct hu hv;obtain ⟨n,aF⟩:=aw;obtain ⟨a,aP,aY⟩:=h.go aF;refine ⟨a,aP,.mk ?_⟩;have jM:mP w (e.cells a) cs.toList:=aY;refine .agg (Fs:=λ_ _=>False) (by simpa using jM.1) (λk u hu=>?_) (λk x u J hu=>(jM.2 k x u J (by simpa using hu)).2) (λ_ _ _ _ _ h=>h.elim) (λc=>⟨λh=>h.elim,λ⟨_,_,h⟩=>h⟩);have hk:k<(e.cells a).length:=by rw [jM.1]; simpa using (Array.getElem?_eq_some_iff.1 hu).1
 exact (jM.2 k _ u (List.getElem?_eq_getElem hk) (by simpa using hu)).1
inductive uW (w:World):List ab->List Value->Prop
 | nil:uW w [] []
 | cons {y:ab}{v:Value}{ys:List ab}{vs:List Value}(h:DM w y v) (aB:uW w ys vs):uW w (y::ys) (v::vs)
theorem uW.get {w:World}{ys:List ab}{vs:List Value}(h:uW w ys vs):ys.length=vs.length/\∀ (k:Nat) (y:ab),ys[k]?=some y->∃ v,vs[k]?=some v/\tt w y v:=by
 induction h with
 | nil=>exact ⟨rfl,λk y h=>by simp at h⟩
 | cons h _ aU =>
  refine ⟨by simp [aU.1],λk y ax=>?_⟩;cases k with
  | zero =>
   simp at ax; subst ax;obtain ⟨h⟩:=h;exact ⟨_,rfl,h⟩
  | succ k=>simpa using aU.2 k y (by simpa using ax)
theorem uW.Y1 {w:World}{ys:List ab}{vs:List Value}(h:uW w ys vs) (au:ys.all (λy=>match y with | .bL ..=>false | _=>true)=true) :
  cH w (λb=>b<w.heap.size) vs.toArray (qa ys) (λ_=>cx):=by
 refine ⟨λt x J=>?_,λ_ _ _ h=>h,λ_ _ _ h=>h.elim,λ_ _ h=>h.elim,λ_ h=>h,λt t' z p n m new bC cG m' c3 h1 _=>?_⟩
 ·obtain ⟨v,hv,aY⟩:=h.get.2 t x J;exact ⟨v,by simpa using hv,.tree (aY.frame (λ_ _=>rfl) (λ_ h=>h) (λ_ _ h=>h.elim) (λ_ _=>rfl))⟩
 ·have:=List.all_eq_true.1 au _ (List.mem_of_getElem? h1);cases this
structure Ll (w w':World):Prop where
 kept:∀ may:MemPlace->Prop,w.keptBut w' may
 dN:∀ a,a.block<w.heap.size->w'.frozen? a=w.frozen? a
theorem bU.Zy {f:FuncId}{ys:List ab}{vs:List Value}{outs:List (Option ab)}{r:Value}(aa:bU P f ys outs (.lit r)) (w:World) (h:uW w ys vs) (au:ys.all (λy=>match y with | .bL ..=>false | _=>true)=true) :
  Calls P f vs.toArray w λe w'=>e=.returned r/\Ll w w'/\∀ i:Nat,i<w.heap.size->w'.heap[i]?=w.heap[i]?:=by
 have:=aa.2 w _ vs _ h.get.1.symm (h.Y1 au);refine this.mono ?_;rintro e w' ⟨v,I',b7,rfl,bj,b0⟩;obtain ⟨u,hu,aY⟩:=bj.rel outs.length (.lit r) (by simp [kZ]);have ak:outs.length=vs.length:=by rw [aa.1]; exact h.get.1
 have ES:u=v:=by
  rw [ak] at hu;simpa using hu.symm
 subst ES;have hv:=(aY.gG (by simp)).hC.1;subst hv;have av:∀ i:Nat,i<w.heap.size->w'.heap[i]?=w.heap[i]?:=λi hi=>b0.eT.block i hi λ⟨_,h⟩=>h;have hk:World.keptBut w w' (λ_=>False):=⟨b0.eT.os,b0.eT.output,λi hi=>by
  rw [av i hi];exact (World.keptBut_refl w (λ_=>False)).2.2 i hi⟩
 exact ⟨rfl,⟨λmay=>World.keptBut_mono (λ_ f=>f.elim) hk,b0.eT.dN⟩,av⟩
theorem Qu {H:Type}{enc:TypeId × Value->H}{w w':World}{base:Nat}{sp:Nat->Bool}{held:Bool}(av:∀ i:Nat,i<w.heap.size->w'.heap[i]?=w.heap[i]?) :
  ∀ {ts:List TypeId}{vs:List Value}{jJ:List (DataW H)}{ps:List MemPlace},DataW.TrodAll enc P w base sp held ts vs jJ ps->DataW.TrodAll enc P w' base sp held ts vs jJ ps
 | [],[],[],_,h=>h
 | _::_,_::_,_::_,_,⟨p,q,⟨n,aF⟩,af,e⟩=>by
  refine ⟨p,q,⟨n,DataW.trod_carry n _ _ _ aF λx J=>?_⟩,Qu av af,e⟩;have aT:=DataW.trod_lt n _ _ _ aF x J;cases x with
  | cell b off =>
   show w'.cell? _=w.cell? _;exact World.cell?_of_block (av b aT)
  | map b=>exact av b aT
theorem RI {H:Type}{enc:TypeId × Value->H}{w w':World}(ak:laidOutB P=true) (hm:mapsRowed P=true)
  (aX:((List.range P.types.size).all λt=>match P.underlying t with | some (.slice e)=>decide (0<P.cellsOf e) | _=>true)=true)
  (av:∀ i:Nat,i<w.heap.size->w'.heap[i]?=w.heap[i]?) {ts:List TypeId}{vs:List Value}{jJ:List (DataW H)}{ps:List MemPlace}(aw:ts.all (λt=>decide (t<P.types.size))=true)
  (h:DataW.TrodAll enc P w 0 (λ_=>true) true ts vs jJ ps) {sp:Nat->Bool}(jf:∀ p∈ps,sp p.block=true):DataW.TrodAll enc P w' 0 sp true ts vs jJ ps :=
 (Qu av h).respare (kids_rows ak hm) (slices_full_of P aX) (λt h=>of_decide_eq_true (List.all_eq_true.1 aw t h)) jf
end Go.Own
namespace Go.Own
open Go
section
variable {α β:Type}{P:Program}{N:c5}{g g1:aK}{p:Place}{m:Int}{a b:Operand}{t:TypeId}
theorem ab.LY:∀ (l:List Nat) {x nd:ab}{k:Nat}{c:ab},x.at l=some nd->nd.kids[k]?=some c->x.at (l++[k])=some c
 | [],x,nd,k,c,h,hk=>by
  simp only [ab.at,Option.some.injEq] at h;subst h;simp [ab.at,hk]
 | j::l,x,nd,k,c,h,hk=>by
  simp only [ab.at] at h;cases ah:x.kids[j]? with
  | none=>rw [ah] at h; cases h
  | some y =>
   rw [ah] at h;simp only [List.cons_append,ab.at,ah];exact ab.LY l h hk
theorem ab.P1:∀ (l:List Nat) {x nd:ab}{k:Nat}{c:ab}(y:ab),x.at l=some nd->nd.kids[k]?=some c->x.setAt (l++[k]) y=x.setAt l (nd.wi k y)
 | [],x,nd,k,c,y,h,hk=>by
  simp only [ab.at,Option.some.injEq] at h;subst h;simp [ab.setAt,hk]
 | j::l,x,nd,k,c,y,h,hk=>by
  simp only [ab.at] at h;cases ah:x.kids[j]? with
  | none=>rw [ah] at h; cases h
  | some z =>
   rw [ah] at h;simp only [List.cons_append,ab.setAt,ah];rw [ab.P1 l y h hk]
theorem MB {en:bK α}{L:List α}{jl:α}{o:Nat}{c:ab}(h:idx L m=some jl) (aa:(en.cells jl)[o]?=some c):(aj en L).kids[m.toNat * en.z+o]?=some c:=Ku en h aa
theorem u4 {en:bK α}{L:List α}{jl:α}{r o:Nat}{path:List Nat}{c:ab}(au:bB g ⟨r,path⟩=some (aj en L)) (h:idx L m=some jl) (aa:(en.cells jl)[o]?=some c):bB g ⟨r,path++[m.toNat * en.z+o]⟩=some c:=by
 unfold bB at au ⊢;simp only at au ⊢;cases J:g r with
 | none=>rw [J] at au; cases au
 | some x =>
  rw [J] at au;exact ab.LY path au (MB h aa)
theorem YF {en:bK α}{L:List α}{jl:α}{r o:Nat}{path:List Nat}{c:ab}(y:ab) (au:bB g ⟨r,path⟩=some (aj en L)) (h:idx L m=some jl) (aa:(en.cells jl)[o]?=some c) :
  cu g ⟨r,path++[m.toNat * en.z+o]⟩ y=cu g ⟨r,path⟩ (.own en.z L.length ((bo en L).set (m.toNat * en.z+o) y)):=by
 funext s;unfold cu;simp only;split
 ·rename_i e;subst e;unfold bB at au;simp only at au;cases J:g s with
  | none=>rfl
  | some x =>
   rw [J] at au;simp only [Option.map_some,Option.some.injEq];rw [ab.P1 path y au (MB h aa)];rfl
 ·rfl
theorem YZ (l:List ab) (k:Nat) (x c:ab):e5 (l.set k x) k [c]=e5 l k [c]:=by
 unfold e5;simp only [List.length_singleton];rw [List.take_set,List.drop_set];rw [List.set_eq_of_length_le (by simp; omega)];simp
theorem bm.Dp {gj:Oper}{en:bK α}{en2:bK β}{L:List α}{jl y2:α}{qT M R:List β}{o s JZ:Nat}{new c3:List ab}{x2 y0:ab}{G2:List (Nat × ab)}
  (a1:gj.op=.store t a b) (aS:gj.dst=none) (aP:Rd g a (.ptr p (m.toNat * en.z+o))) (av:Rd g b (.a6 en2.z ⟨s,[]⟩ (qT.length+JZ)))
  (qn:g s=some (.bL en2.z ⟨p.root,p.path++[m.toNat * en.z+o]⟩ qT.length JZ new)) (au:bB g p=some (aj en L)) (h:idx L m=some jl) (l4:(en.cells jl)[o]?=some (aj en2 qT)) (bg:Nat.beq p.root s=false)
  (h1:e6 (cu (cu g ⟨s,[]⟩ .dead) p (.own en.z L.length ((bo en L).set (m.toNat * en.z+o) .dead))) new c3 g1)
  (q':fk c3 (bo en2 M)) (hm:M.length=JZ) (aY:qT++M=R) (aX:hq P t 1=true)
  (vt:bB g1 p=some (.own en.z L.length ((bo en L).set (m.toNat * en.z+o) .dead)))
  (he:e5 (en.cells jl) o [aj en2 R]=en.cells y2) (hlen:Nat.ble (o+1) en.z=true)
  (iw:cu g1 p (aj en (L.set m.toNat y2)) p.root=some x2) (aq:(get G2 p.root).isSome=true) (rh:g1 p.root=some y0) [e9:cf y0] (c9:kK g1 (get G2) p.root x2 G2):bm P N g gj (get G2):=by
 subst hm aY;have BL:=Nat.le_of_ble_eq_true hlen;have jf:=Kt en (cs':=[aj en2 (qT++M)]) h he (by simpa using BL);have NV:(L.set m.toNat y2).length=L.length:=List.length_set;have EN:=Nat.ne_of_beq_eq_false bg;have BD:bB g ⟨p.root,p.path++[m.toNat * en.z+o]⟩=some (aj en2 qT):=u4 (g:=g) (r:=p.root) (path:=p.path) au h l4;have VU:bB (cu g ⟨s,[]⟩ .dead) p=some (aj en L):=by
  unfold bB at au ⊢;rw [uK (p:=⟨s,[]⟩) (λe=>EN e)]; exact au
 have aw:e6 g [.a6 en2.z ⟨s,[]⟩ (qT.length+M.length)] [.own en2.z (qT.length+M.length) (bo en2 qT++c3)] g1:=by
  refine .hX qn BD bg ?_ .nil;rw [YF .dead (r:=p.root) (path:=p.path) VU h l4];exact h1
 have hk:m.toNat * en.z+o+1<=L.length * en.z:=by
  obtain ⟨De,lT,_⟩:=pM h;have af:m.toNat+1<=L.length:=by omega
  calc m.toNat * en.z+o+1<=m.toNat * en.z+en.z:=by omega
   _=(m.toNat+1) * en.z:=by rw [Nat.add_mul]; omega
   _<=L.length * en.z:=Nat.mul_le_mul_right _ af
 refine .store a1 aS aP.bs av.bs aw.take (y':=aj en2 (qT++M)) ?_ rfl aX (p:=p) (nd:=.own en.z L.length ((bo en L).set (m.toNat * en.z+o) .dead)) (z:=en.z) (n:=L.length) (cs:=(bo en L).set (m.toNat * en.z+o) .dead) vt (.inl rfl) ?_ (by simp) (λt x J=>?_) (λt x J y ax=>?_) (λt z q n m new J=>?_) (by intro e; rw [e] at aq; cases aq)
 ·rw [<- mE]; exact (q'.pre _).own
 ·simp only [List.length_singleton,List.length_set,nq]; exact hk
 ·have fm:(ab.own en.z L.length ((bo en L).set (m.toNat * en.z+o) .dead)).e5 (m.toNat * en.z+o) [aj en2 (qT++M)]=aj en (L.set m.toNat y2):=by
   show ab.own en.z L.length (e5 ((bo en L).set (m.toNat * en.z+o) .dead) (m.toNat * en.z+o) [aj en2 (qT++M)])=_;unfold aj at jf ⊢;rw [YZ,jf,NV]
  rw [fm];rcases c9.spec t x J with ⟨h1,af,_⟩ | ⟨h1,af,_⟩
  ·rw [uK h1]; exact af
  ·subst h1 af; exact iw
 ·rcases c9.spec t x J with ⟨h1,af,aI⟩ | ⟨h1,af,aI⟩
  ·rw [af] at ax; cases ax;rcases aI with aI | ⟨aI,c2,rfl⟩
   ·exact aI.Kr
   ·refine jo.ref (by cases aI; rfl) ⟨aI.Pe,aI.clear ?_,aI.Fu⟩;intro e;obtain ⟨hx,pp⟩:=p;simp only at e;subst e;simp only [cu,if_true,rh,Option.map_some,ab.setAt,Option.some.injEq] at iw;cases iw
  ·subst h1; rw [rh] at ax; cases ax; exact .bl e9.bl
 ·rcases c9.spec t _ J with ⟨_,_,aI | ⟨aI,_⟩⟩ | ⟨_,_,aI⟩
  ·exact aI.fx _ _ _ _ _ rfl
  ·exact aI.fx _ _ _ _ _ rfl
  ·cases aI
end
end Go.Own
/- Short forms for printed walks. -/
namespace Go.Own
open Go
section
variable {P:Program}{N:c5}{ops:Array Oper}{bf:List (List Nat)}{g g0:aK}{K:aK->Prop}{l:List Oper}{acc:Acc}{d i:Nat}{op:Op}{ty:TypeId}{pos:String}{after:Array Edge}{x:ab}
theorem al (au:cg P g op ty x) (hk:ar P N ops l (cV g d x) K) (bd:N.ok d=true:=by rfl) (aW:g d=none:=by rfl):ar P N ops (⟨some d,op,ty,pos,after,none⟩::l) g K:=.v au bd aW .none hk
theorem gL (au:cJ P g op x) (hk:ar P N ops l (cV g d x) K) (bd:N.ok d=true:=by rfl) (aW:g d=none:=by rfl):ar P N ops (⟨some d,op,ty,pos,after,none⟩::l) g K:=.c au bd aW .none hk
theorem aE (bG:Nat) (au:cg P (jA bf g0 bG acc) op ty x) (hk:bz P N ops bf g0 i ((bG,d,some x)::acc) l K) (ah:Nat.beq ops.size (bG+l.length+1)=true:=by rfl) (aW:g0 d=none:=by rfl) (aF:acc.all (λe=>!Nat.beq e.2.1 d)=true:=by rfl) (bd:N.ok d=true:=by rfl) :
  bz P N ops bf g0 i acc (⟨some d,op,ty,pos,after,none⟩::l) K:=.v bG au ah aW aF bd .none hk
theorem j5 (bG:Nat) (au:cJ P (jA bf g0 bG acc) op x) (hk:bz P N ops bf g0 i ((bG,d,some x)::acc) l K) (ah:Nat.beq ops.size (bG+l.length+1)=true:=by rfl) (aW:g0 d=none:=by rfl) (aF:acc.all (λe=>!Nat.beq e.2.1 d)=true:=by rfl) (bd:N.ok d=true:=by rfl) :
  bz P N ops bf g0 i acc (⟨some d,op,ty,pos,after,none⟩::l) K:=.c bG au ah aW aF bd .none hk
end
instance {z n:Nat}{cs:List ab}:nv (.own z n cs):=⟨by simp⟩
def aG (a n:Nat) (l:List Nat):List Nat:=List.range' a n++l
end Go.Own
namespace Go.Own
open Go
section
variable {α:Type}{P:Program}{N:c5}{g:aK}{d r:Nat}{ty:TypeId}
instance {fn:Fn}{cs:List ab} [h:dp cs]:cf (.cX fn [] cs):=⟨.cX (by simp) h.bl⟩
theorem O.zO {fn:Fn}{caps:List Operand}{b:List ab}(av:Own.gl g caps=some b):cg P g (.makeFunc fn #[] caps.toArray) ty (.cX fn [] b):=.CI (.makeFunc rfl (by simpa using av))
theorem View.cl {fn:Fn}{cs cs':List ab}(h:oG g cs cs'):View g (.cX fn [] cs) (.cX fn [] cs'):=.cX h.len h.get
theorem cJ.gc {c:Operand}{xs:List Operand}{gm:Array TypeId}{f:FuncId}{ys caps:List ab}{outs:List (Option ab)}{res:ab}(aa:Rd g c (.cX (.func f) [] caps)) (J:qV g xs ys) (gQ:bU P f (ys++caps) outs res) (aW:gN P f=true) (a1:sl outs=true) [xe:dp caps] [aq:cf res] :
  cJ P g (.call { callee:=.value c,args:=xs.toArray,argTypes:=gm }) res:=by
 have e:=O8 a1 gQ.1;refine .plain (first:=[]) (caps:=caps) (ys:=ys) aa.bs (by simpa using J.spec.1) aW (λy ax=>?_) ?_ aq.bl
 ·rw [List.nil_append] at ax;rcases List.mem_append.1 ax with h | h
  ·exact J.spec.2 y h
  ·exact xe.bl y h
 ·rw [List.nil_append,<- e]; exact gQ
theorem hP.jy {o:Oper}{xs:List Operand}{gm:Array TypeId}{f:FuncId}{ys args:List ab}{res:ab}{en:bK α}{L L':List α}{G2:List (Nat × ab)}(a1:o.op=.call { callee:=.value (.func f),args:=xs.toArray,argTypes:=gm }) (aS:o.dst=some d) (J:Own.gl g xs=some (.a6 en.z ⟨r,[]⟩ L.length::ys))
  (aB:g r=some (aj en L)) (hv:oG (get ((r,.dead)::G2)) ys args) (gQ:bU P f (aj en L::args) (some (aj en L')::args.map λ_=>none) res) (aW:gN P f=true) [aq:p5 res] [lN:p5 (aj en L')]
  (c9:Trim false (cu g ⟨r,[]⟩ .dead) (get ((r,.dead)::G2)) G2) (aO:get G2 d=none) (r9:Nat.beq r d=false) (Bv:Trim false (get ((r,aj en L')::G2)) (get ((r,aj en L')::G2)) G2) (bd:N.ok d=true) :
  hP P N g o d (get ((d,res)::(r,aj en L')::G2)):=by
 have IY:r≠d:=Nat.ne_of_beq_eq_false r9;have Hq:get ((r,ab.dead)::G2) r=some .dead:=by simp [get]
 have na:∀ x∈bo en L,cU x:=by
  intro x J;obtain ⟨a,_,aP⟩:=List.mem_flatMap.1 J;exact en.bl a x aP
 have ga:(bo en L).take (L.length * en.z)=bo en L:=List.take_of_length_le (by rw [nq]; exact Nat.le_refl _);have xG:hG (cu g ⟨r,[]⟩ .dead) (get ((r,.dead)::G2)):=by
  refine ⟨λt x h=>?_,λt x h=>?_,λt z q n m new h=>?_⟩
  all_goals
   simp only [get] at h
   split at h
  ·rename_i e; subst e; cases h; simp [cu,aB,ab.setAt]
  ·obtain ⟨⟨y,h1,_,aI⟩,_⟩:=c9.spec t x h; rw [<- aI rfl]; exact h1
  ·cases h; exact .bl .dead
  ·exact (c9.spec t x h).2.1
  ·cases h
  ·exact (c9.spec t _ h).2.2 _ _ _ _ _ rfl
 have put:qE (get ((r,.dead)::G2)) [(⟨r,[]⟩,aj en L')]=get ((r,aj en L')::G2):=by
  funext t;simp only [qE,cu,get];by_cases h:t=r
  ·simp [h,ab.setAt]
  ·simp [h]
 have xH:hG (get ((r,aj en L')::G2)) (get ((r,aj en L')::G2)):=by
  refine ⟨λt x h=>h,λt x h=>?_,λt z q n m new h=>?_⟩
  all_goals
   simp only [get] at h
   split at h
  ·cases h; exact .bl lN.lq.bl
  ·exact (Bv.spec t x h).2.1
  ·cases h
  ·exact (Bv.spec t _ h).2.2 _ _ _ _ _ rfl
 have ak:=hv.len;have rR:get ((d,res)::(r,aj en L')::G2)=cV (get ((r,aj en L')::G2)) d res:=by
  funext t;rw [sG]
 rw [rR];refine yI.ok (first:=[]) (caps:=[]) (ys:=.a6 en.z ⟨r,[]⟩ L.length::ys) (tk:=λk=>k == 0) (vw:=true) (outs:=some (aj en L')::args.map λ_=>none) (g1:=cu g ⟨r,[]⟩ .dead) (g2:=get ((r,.dead)::G2)) (g4:=get ((r,aj en L')::G2)) (l:=[(⟨r,[]⟩,aj en L')]) (ks:=λ_=>0) (xs0:=.a6 en.z ⟨r,[]⟩ L.length::ys.map λ_=>.dead) (xs1:=aj en L::ys.map λ_=>.dead) (args:=aj en L::args) (res:=res) a1 aS rfl (by simpa using J)
  ⟨aW,by simp,by simpa using ak,λk x h=>?_,?_,xG,λk x y J ax=>?_,gQ,by simpa using aq.lq,λk x h=>?_,λj p x ah=>?_,by simp,λi j hi ah _=>by simp at hi ah; omega,by rw [put]; exact xH⟩ ?_ bd wy.refl
 ·simp only [List.nil_append,List.append_nil] at h;cases k with
  | zero=>exact .inl h
  | succ k =>
   refine .inr ?_;simp only [List.getElem?_cons_succ] at h ⊢;rw [List.getElem?_map,h]; rfl
 ·have h1:Take (cu g ⟨r,[]⟩ .dead) ((bo en L).take (L.length * en.z)) (bo en L) (cu g ⟨r,[]⟩ .dead):=by rw [ga]; exact .bl na
  refine .a6 (N:=L.length) (by simp [bB,aB,ab.at]) (Nat.le_refl _) h1 (.bl λx J=>?_);obtain ⟨_,_,rfl⟩:=List.mem_map.1 J;exact .dead
 ·simp only [List.nil_append,List.append_nil] at J;cases k with
  | zero=>simpa using ax
  | succ k =>
   simp only [List.getElem?_cons_succ] at J ax;exact ⟨rfl,hv.get k x y J ax⟩
 ·cases k with
  | zero=>simp only [List.getElem?_cons_zero,Option.some.injEq] at h; subst h; exact lN.lq
  | succ k =>
   simp only [List.getElem?_cons_succ,List.getElem?_map] at h;cases aP:args[k]? <;> rw [aP] at h <;> cases h
 ·cases j with
  | succ j=>simp at ah
  | zero =>
   simp only [List.getElem?_cons_zero,Option.some.injEq,Prod.mk.injEq] at ah;obtain ⟨rfl,rfl⟩:=ah;exact ⟨rfl,by simp [bB,Hq,ab.at],.inl ⟨en.z,L.length,bo en L,rfl,by simp [bB,aB,ab.at]⟩⟩
 ·simp only [get,if_neg (Ne.symm IY)]; exact aO
end
end Go.Own
namespace Go.Own
open Go Go.Proofs Go.Shelf Go.Lib Go.Sort
section
variable {P:Program}{w:World}
def zW {α:Type} [DecidableEq α] (lt:α->α->Bool) (l:List α):Bool :=
 l.all λa=>!lt a a&&l.all λb=>(lt a b||lt b a||decide (a=b))&&l.all λc=>(!(lt a b&&lt b c)||lt a c)&&(lt a b||lt b c||!lt a c)
def kA {α:Type}(fT:α->α->Option Int) (a b:α):Bool:=decide ((fT a b).getD 0<0)
def ins {α:Type}(lt:α->α->Bool) (x:α):List α->List α
 | []=>[x]
 | y::l=>if lt y x then y::ins lt x l else x::y::l
def ic {α:Type}(lt:α->α->Bool):List α->List α
 | []=>[]
 | x::l=>ins lt x (ic lt l)
theorem Ju {α:Type}(lt:α->α->Bool) (x:α):∀ l:List α,(ins lt x l).Perm (x::l)
 | []=>.refl _
 | y::l=>by
  unfold ins;split
  ·exact ((Ju lt x l).cons y).trans (.swap x y l)
  ·exact .refl _
theorem sZ {α:Type}(lt:α->α->Bool):∀ l:List α,(ic lt l).Perm l
 | []=>.refl _
 | x::l=>(Ju lt x _).trans ((sZ lt l).cons x)
theorem OC {α:Type}{lt:α->α->Bool}(bj:SWO lt) (x:α):∀ l:List α,l.Pairwise (λa b=>(!lt b a)=true)->(ins lt x l).Pairwise λa b=>(!lt b a)=true
 | [],_=>List.pairwise_singleton _ _
 | y::l,h=>by
  obtain ⟨h1,af⟩:=List.pairwise_cons.1 h;unfold ins;split
  ·rename_i aT;refine List.pairwise_cons.2 ⟨λz aX=>?_,OC bj x l af⟩;rcases List.mem_cons.1 ((Ju lt x l).mem_iff.1 aX) with rfl | aX
   ·cases aa:lt z y with
    | false=>rfl
    | true=>have:=bj.trans _ _ _ aT aa; rw [bj.irrefl] at this; cases this
   ·exact h1 z aX
  ·rename_i aT;have aT:lt y x=false:=by simpa using aT
   refine List.pairwise_cons.2 ⟨λz aX=>?_,h⟩;rcases List.mem_cons.1 aX with rfl | aX
   ·rw [aT]; rfl
   ·have aX:=h1 z aX;simp only [Bool.not_eq_true'] at aX ⊢;exact bj.ntrans _ _ _ aX aT
theorem E6 {α:Type}{lt:α->α->Bool}(bj:SWO lt):∀ l:List α,(ic lt l).Pairwise λa b=>(!lt b a)=true
 | []=>.nil
 | x::l=>OC bj x _ (E6 bj l)
theorem OH {α:Type}{lt:α->α->Bool}(bj:SWO lt) (dM:∀ x y,lt x y=false->lt y x=false->x=y) (l:List α):l.mergeSort (λx y=>!lt y x)=ic lt l:=by
 refine List.Perm.eq_of_pairwise (le:=λx y=>(!lt y x)=true) (λa b _ _ h1 af=>?_) (List.pairwise_mergeSort (λa b c h1 af=>?_) (λa b=>?_) l) (E6 bj l) ((List.mergeSort_perm _ _).trans (sZ lt l).symm)
 ·simp only [Bool.not_eq_true'] at h1 af;exact dM a b af h1
 ·simp only [Bool.not_eq_true'] at h1 af ⊢;exact bj.ntrans _ _ _ af h1
 ·cases h1:lt b a with
  | false=>rfl
  | true =>
   cases af:lt a b with
   | false=>rfl
   | true=>have:=bj.trans _ _ _ h1 af; rw [bj.irrefl] at this; cases this
theorem OB {α β:Type}{lt:α->α->Bool}{lt':β->β->Bool}{f:α->β}(h:∀ a b,lt a b=lt' (f a) (f b)) (x:α):∀ l:List α,(ins lt x l).map f=ins lt' (f x) (l.map f)
 | []=>rfl
 | y::l=>by
  simp only [ins,List.map_cons,h];split
  ·rw [List.map_cons,OB h x l]
  ·rfl
theorem E5 {α β:Type}{lt:α->α->Bool}{lt':β->β->Bool}{f:α->β}(h:∀ a b,lt a b=lt' (f a) (f b)):∀ l:List α,(ic lt l).map f=ic lt' (l.map f)
 | []=>rfl
 | x::l=>by simp only [ic,List.map_cons,OB h,E5 h l]
def pW {α:Type} [DecidableEq α] (fT:α->α->Option Int) (l:List α):Option (List α) :=
 if (l.all λa=>l.all λb=>(fT a b).isSome)&&zW (kA fT) l&&decide (l.length<4611686018427387904) then some (ic (kA fT) l) else none
theorem M0 {w':World}(h:Fr w w' λ_=>False):∃ q os,w'=grow (w.drewN q) os:=by
 refine ⟨w'.drawn - w.drawn,w'.heap.extract w.heap.size w'.heap.size,?_⟩;obtain ⟨h1,af,aI,bF,cF,ej,mW⟩:=h;obtain ⟨au,ac',w0,os,out⟩:=w';simp only at h1 af aI bF cF mW;subst h1 af aI;unfold grow World.drewN;simp only [World.mk.injEq,true_and,and_true];refine ⟨?_,by omega⟩;apply Array.ext_getElem?;intro k;rw [Array.getElem?_append];by_cases hk:k<w.heap.size
 ·rw [if_pos hk]; exact cF k hk λh=>h
 ·rw [if_neg hk,Array.getElem?_extract];by_cases fW:k<au.size
  ·rw [if_pos (by omega),show w.heap.size+(k - w.heap.size)=k by omega]
  ·rw [if_neg (by omega),Array.getElem?_eq_none (by omega)]
theorem PK (l:List Int):bo ai l=l.map ae:=by
 induction l with
 | nil=>rfl
 | cons a l aU =>
  show ai.cells a++bo ai l=_;rw [aU]; rfl
theorem Qg {vs:List Value}{v0 v1:Value}(xn:vs=[v0,v1]) {I:bb}{Fs:Nat->bb}{g:aK}(bj:cH w I vs.toArray g Fs) {w':World}{e:TypeId}{r:List Int}(a1:w'.ownsRow 0 e 1 v0 r.length (r.map (Value.int .i64))) (aN:∀ c,Fs 0 c↔v0.ownBlock=some c) (oQ:Fr w w' λc=>Fs 0 c) :
  ∃ v I' b7,Ending.returned (.tuple #[])=.returned v/\cH w' I' (vs++[v]).toArray (kZ [some (aj ai r),none] (.bW [])) b7/\kp w I (λc=>∃ t,Fs t c) w' I' (λc=>∃ t,b7 t c):=by
 subst xn;refine ⟨_,I,λt=>if t=0 then Fs 0 else cx,rfl,⟨λt x J=>?_,λt aw c aa=>?_,λt t' c aa fl=>?_,λt c aa=>?_,λc aa=>Nat.lt_of_lt_of_le (bj.lt c aa) oQ.size,λt t' z p n m new bC cG m' c3 h1 af=>?_⟩,⟨?_,λc h=>h,λc h=>.inl h,λc aa=>?_⟩⟩
 ·unfold kZ at J
  split at J
  ·rename_i aw;have aw:t=2:=aw;subst aw;cases J;exact ⟨.tuple #[],rfl,.tree (.bW (Fs:=λ_=>cx) rfl (λk x u h=>by simp at h) (λj k c h=>by simp at h) (λc=>⟨λh=>h.elim,λ⟨k,h,_⟩=>by simp at h⟩))⟩
  ·match t,J with
   | 0,J =>
    cases J;refine ⟨v0,rfl,.tree ?_⟩;show R w' I _ (.own 1 r.length (bo ai r)) v0 (Fs 0);rw [PK];refine .own (Fs:=λ_=>cx) a1 (by simp) (λk u hu=>?_) (λk x u J hu=>?_) (λ_ _ _ _ _ h=>h.elim) (λ_ _ _ h=>h.elim) (λc=>⟨λh=>.inl ((aN c).1 h),λh=>?_⟩)
    ·rw [List.getElem?_map] at hu;cases hk:r[k]? <;> rw [hk] at hu <;> cases hu;rfl
    ·rw [List.getElem?_map] at J hu;cases hk:r[k]? <;> rw [hk] at J hu <;> cases J <;> cases hu;exact .lit rfl λ_ h=>h
    ·rcases h with h | ⟨_,_,h⟩
     ·exact (aN c).2 h
     ·exact h.elim
   | 1,J=>cases J
   | t+2,J=>cases J
 ·have aQ:¬ t=0:=λe=>by subst e; exact absurd aw (by simp [kZ])
  simp only [if_neg aQ] at aa;exact aa
 ·have key:∀ {t:Nat},(if t=0 then Fs 0 else cx) c->t=0:=λ{t} h=>by
   by_cases aQ:t=0
   ·exact aQ
   ·rw [if_neg aQ] at h; exact h.elim
  rw [key aa,key fl]
 ·by_cases aQ:t=0
  ·simp only [if_pos aQ] at aa; exact bj.bk 0 c aa
  ·simp only [if_neg aQ] at aa; exact aa.elim
 ·unfold kZ at h1
  split at h1
  ·cases h1
  ·match t,h1 with
   | 0,h1=>cases h1
   | 1,h1=>cases h1
   | t+2,h1=>cases h1
 ·exact oQ.mono λb _ av=>⟨0,av⟩
 ·obtain ⟨t,aw⟩:=aa;by_cases aQ:t=0
  ·simp only [if_pos aQ] at aw; exact .inl ⟨0,aw⟩
  ·simp only [if_neg aQ] at aw; exact aw.elim
theorem Ph {α:Type} [DecidableEq α] {lt:α->α->Bool}{l:List α}(h:zW lt l=true):∀ a∈l,lt a a=false/\∀ b∈l,(lt a b=true\/lt b a=true\/a=b)/\∀ c∈l,((lt a b=true/\lt b c=true)->lt a c=true)/\(lt a b=true\/lt b c=true\/lt a c=false):=by
 intro a aP;unfold zW at h;have h1:=List.all_eq_true.1 h a aP;simp only [Bool.and_eq_true,Bool.not_eq_true',List.all_eq_true,Bool.or_eq_true,decide_eq_true_eq] at h1;refine ⟨h1.1,λb av=>?_⟩;obtain ⟨af,aI⟩:=h1.2 b av;refine ⟨by rcases af with (h | h) | h <;> simp [h],λc aa=>?_⟩;obtain ⟨bF,cF⟩:=aI c aa;refine ⟨λ⟨x,y⟩=>?_,by rcases cF with (h | h) | h <;> simp [h]⟩;rcases bF with h | h
 ·rw [x,y] at h; cases h
 ·exact h
theorem Qf {α:Type} [DecidableEq α] {fT:α->α->Option Int}{l r:List α}(h:pW fT l=some r):(∀ a∈l,∀ b∈l,(fT a b).isSome=true)/\zW (kA fT) l=true/\l.length<4611686018427387904/\r=ic (kA fT) l:=by
 unfold pW at h
 split at h
 ·rename_i aa;simp only [Bool.and_eq_true,List.all_eq_true,decide_eq_true_eq] at aa;exact ⟨aa.1.1,aa.1.2,aa.2,(Option.some.inj h).symm⟩
 ·cases h
theorem NH {α:Type} [Inhabited α] {enc:α->Value}{b n:Nat}{d:Array α}{os:Array Obj}{cur:Array Value}{e:TypeId}{eT:Nat × Nat}(av:w.heap[b]?=some (.cells cur e eT)) :
  (sortWorld enc w b 0 n d os).heap[b]?=some (.cells (putCells enc 0 d cur) e eT):=by
 have aT:b<w.heap.size:=(Array.getElem?_eq_some_iff.1 av).1;unfold sortWorld;rw [heap_grow_old _ _ (by rw [Go.Sort.size_putRow]; exact aT)];unfold putRow mapBlock;have q6:(Go.Sort.ahead w n).heap=w.heap:=rfl;simp only [q6,Array.getElem?_modify,if_true,av,Option.map_some,onCells]
theorem Is {α:Type} [Inhabited α] {enc:α->Value}{b n c:Nat}{d:Array α}{os:Array Obj}(aa:c<w.heap.size) (dq:c≠b) :
  (sortWorld enc w b 0 n d os).heap[c]?=w.heap[c]?:=by
 unfold sortWorld;rw [heap_grow_old _ _ (by rw [Go.Sort.size_putRow]; exact aa)];unfold putRow mapBlock;have q6:(Go.Sort.ahead w n).heap=w.heap:=rfl;simp only [q6,Array.getElem?_modify,if_neg (Ne.symm dq)]
theorem MV {α:Type} [Inhabited α] {enc:α->Value}{b n:Nat}{d:Array α}{os:Array Obj}{U:bb}(f':U b):Fr w (sortWorld enc w b 0 n d os) U:=by
 refine ⟨rfl,rfl,rfl,?_,λc aa aF=>Is aa λe=>aF (e ▸ f'),λa aP=>?_,?_⟩
 ·unfold sortWorld; rw [size_grow,Go.Sort.size_putRow]; exact Nat.le_add_right _ _
 ·unfold sortWorld;rw [frozen?_grow _ _ _ (by rw [Go.Sort.size_putRow]; exact aP),Go.Sort.frozen?_putRow]; rfl
 ·show w.drawn<=w.drawn+n;exact Nat.le_add_right _ _
theorem PD {α:Type} [Inhabited α] {enc:α->Value}{d:Array α}{cur:Array Value}(h:d.size<=cur.size):(putCells enc 0 d cur).toList.take d.size=d.toList.map enc:=by
 apply List.ext_getElem?;intro k;rw [List.getElem?_take,List.getElem?_map];by_cases hk:k<d.size
 ·rw [if_pos hk,Array.getElem?_toList,Array.getElem?_toList];have aa:k<cur.size:=by omega
  simp only [putCells,Array.getElem?_mapIdx,Array.getElem?_eq_getElem aa,Array.getElem?_eq_getElem hk,Option.map_some];rw [if_pos ⟨Nat.zero_le _,by omega⟩,Nat.sub_zero];simp [getElem!_pos,hk]
 ·rw [if_neg hk,Array.getElem?_toList,Array.getElem?_eq_none (by omega)]; rfl
theorem bU.KM {ρ:Ren}(L:SlLaysF.n6 P ρ) {g:FuncId}{caps:List ab} [xe:dp caps] (aO:gN P g=true) {l r:List Int}{fT:Int->Int->Option Int}(h:pW fT l=some r)
  (aa:∀ a b v,fT a b=some v->bU P g (ae a::ae b::caps) (none::none::caps.map λ_=>none) (ae v)) :
  bU P (ρ.f 6) [aj ai l,.cX (.func g) [] caps] [some (aj ai r),none] (.bW []):=by
 refine ⟨rfl,λw I vs Fs ak bj=>?_⟩;obtain ⟨v0,v1,rfl⟩:∃ v0 v1,vs=[v0,v1]:=by
  match vs,ak with
  | [a,b],_=>exact ⟨a,b,rfl⟩
 obtain ⟨xl,ll,IZ,rfl⟩:=Qf h;obtain ⟨u,hu,aY⟩:=bj.rel 0 (aj ai l) rfl;obtain rfl:v0=u:=by simpa using hu
 replace aY:=aY.gG (by simp);obtain ⟨u,hu,qj⟩:=bj.rel 1 (.cX (.func g) [] caps) rfl;obtain rfl:v1=u:=by simpa using hu
 replace qj:=qj.gG (by simp);rw [show aj ai l=.own 1 l.length (bo ai l) from rfl,PK] at aY
 cases aY with
 | ref J=>simp [ab.isRef] at J
 | @own _ _ _ _ e us bM _ a1 xh ht aq aS av aN =>
 cases qj with
 | ref J=>simp [ab.isRef] at J
 | @cX _ _ _ aD j' _ zj h1 af ky iP =>
 obtain rfl:aD=#[]:=Array.eq_empty_of_size_eq_zero (by simpa using h1.symm);have mr:∀ c,Fs 0 c↔v0.ownBlock=some c:=by
  intro c;refine ⟨λaa=>?_,λaa=>(aN c).2 (.inl aa)⟩;rcases (aN c).1 aa with h | ⟨k,hk,h⟩
  ·exact h
  ·have J:=List.getElem?_eq_getElem hk;have hu:=List.getElem?_eq_getElem (xh ▸ hk);have aY:=aq k _ _ J hu;rw [List.getElem_map] at aY;generalize us[k]=ha at aY;cases aY with
   | lit _ aW=>exact (aW c h).elim
   | ref J=>simp [ab.isRef] at J
 have l8:us=l.map (Value.int .i64):=by
  apply List.ext_getElem?;intro k;by_cases hk:k<us.length
  ·have ib:k<(l.map ae).length:=xh.symm ▸ hk;have J:=List.getElem?_eq_getElem ib;have hu:=List.getElem?_eq_getElem hk;have aY:=aq k _ _ J hu;rw [List.getElem_map] at aY;rw [hu,aY.hC.1,List.getElem?_map,List.getElem?_eq_getElem (by simpa using ib)]; rfl
  ·rw [List.getElem?_eq_none (by omega),List.getElem?_eq_none (by rw [List.length_map] at xh ⊢; omega)]
 subst l8;have BY:=sZ (kA fT) l;have hlen:=BY.length_eq;by_cases xj:l=[]
 ·subst xj;have je:∃ p cap,v0=.slice p 0 cap:=by
   rcases a1.2 with ⟨rfl,_⟩ | ⟨b,cap,cur,rfl,_⟩
   ·exact ⟨_,_,rfl⟩
   ·exact ⟨_,_,rfl⟩
  obtain ⟨p,cap,rfl⟩:=je;refine (AnyF.slices_SortFunc_none { L with } p cap _ w).mono ?_;rintro cj w' ⟨rfl,rfl⟩;exact Qg rfl bj (e:=e) (r:=[]) a1 mr (Fr.refl _ _)
 ·obtain ⟨NW,Ik⟩:=a1;rcases Ik with ⟨rfl,aQ⟩ | ⟨b,cap,cur,rfl,_,ua,hle,IP,fX,ga⟩
  ·exact absurd (List.eq_nil_of_length_eq_zero aQ) xj
  rw [Nat.mul_one] at fX ga;have tY:Fs 0 b:=(mr b).2 rfl;have Ih:b<w.heap.size:=(Array.getElem?_eq_some_iff.1 ua).1;obtain ⟨a0,w7⟩:=List.exists_mem_of_ne_nil l xj
  let α:={ x:Int // x∈l }
  haveI:Inhabited α:=⟨⟨a0,w7⟩⟩
  let enc:α->Value:=λx=>.int .i64 x.1
  let kO:α->α->Int:=λx y=>(fT x.1 y.1).getD 0;have aT:∀ x y:α,ltOf kO x y=kA fT x.1 y.1:=λx y=>rfl
  let d:Array α:=l.attach.toArray;have zq:d.size=l.length:=by show (l.attach.toArray).size=l.length; rw [List.size_toArray,List.length_attach]
  have jf:=Ph ll;have hO:SWO (ltOf kO):=by
   refine ⟨λx=>by rw [aT]; exact (jf x.1 x.2).1,λx y z=>?_,λx y z=>?_⟩
   ·rw [aT,aT,aT];exact λp q=>(((jf x.1 x.2).2 y.1 y.2).2 z.1 z.2).1 ⟨p,q⟩
   ·rw [aT,aT,aT];intro p q;rcases (((jf x.1 x.2).2 y.1 y.2).2 z.1 z.2).2 with h | h | h
    ·rw [p] at h; cases h
    ·rw [q] at h; cases h
    ·exact h
  have dM:∀ x y:α,ltOf kO x y=false->ltOf kO y x=false->x=y:=by
   intro x y p q;rw [aT] at p q;rcases ((jf x.1 x.2).2 y.1 y.2).1 with h | h | h
   ·rw [p] at h; cases h
   ·rw [q] at h; cases h
   ·exact Subtype.ext h
  have l4:∀ j,j<l.length->cur[j]?=some (.int .i64 l[j]!):=by
   intro j ah;have:=congrArg (λt=>t[j]?) ga;simp only [List.getElem?_take,if_pos ah,Array.getElem?_toList,List.getElem?_map,List.getElem?_eq_getElem ah,Option.map_some] at this;rw [this,getElem!_pos l j ah]
  have hH:Holds enc w b 0 d:=by
   intro j ah;rw [zq] at ah;refine ⟨?_,?_⟩
   ·unfold World.cell?;simp only [ua,Nat.zero_add];show cur[j]?=_;rw [l4 j ah];show some (Value.int .i64 l[j]!)=some (.int .i64 (d[j]!).1);have:(d[j]!).1=l[j]! := by
     rw [getElem!_pos d j (by omega),getElem!_pos l j ah];show (l.attach.toArray[j]'_).val=_;rw [List.getElem_toArray,List.getElem_attach]
    rw [this]
   ·unfold World.frozen?;simp only [ua];simp
  have Hx:∀ args w,(callFunc g args).run P w=.ok (.enter g args) w:=λargs w=>Bb aO args;have Io:CmpLays1 P g j' enc kO b 0 d.size w:=by
   intro m os Bf zp x y;have re:=xl x.1 x.2 y.1 y.2;obtain ⟨v,hv⟩:=Option.isSome_iff_exists.1 re;have Il:kO x y=v:=by show (fT x.1 y.1).getD 0=v; rw [hv]; rfl
   have H7:cH (sortWorld enc w b 0 m Bf os) I #[] (λ_=>none) (λ_=>cx):=by
    refine ⟨λ_ _ h=>(by cases h),λ_ _ _ h=>h,λ_ _ _ h=>h.elim,λ_ _ h=>h.elim,λc aa=>?_,λ_ _ _ _ _ _ _ _ _ _ _ h=>(by cases h)⟩;have:=bj.lt c aa;unfold sortWorld;rw [size_grow,Go.Sort.size_putRow];exact Nat.lt_of_lt_of_le this (Nat.le_add_right _ _)
   have sK:=H7.args (I':=I) (λc h=>.inl h) (args:=ae x.1::ae y.1::caps) (vs:=enc x::enc y::j'.toList) (by simp [af]) (λρ' k z u aX hu=>?_)
   ·have pA:=(aa x.1 y.1 v hv).2 _ I (enc x::enc y::j'.toList) _ (by simp [af]) sK;have kc:(enc x::enc y::j'.toList).toArray=#[enc x,enc y]++j':=by
     apply Array.ext';simp
    rw [kc] at pA;refine pA.mono ?_;rintro cj w' ⟨gv,I',b7,rfl,dX,b0⟩;obtain ⟨u,hu,mY⟩:=dX.rel (caps.length+2) (ae v) (by simp [kZ]);have I7:u=gv:=by
     have:(enc x::enc y::j'.toList).length=caps.length+2:=by simp [af]
     rw [List.getElem?_toArray,<- this] at hu;simpa using hu.symm
    subst I7;have oa:=(mY.gG (by simp)).hC.1;subst oa;refine ⟨by rw [Il],?_⟩;exact M0 (b0.eT.mono λc _ ⟨_,bY⟩=>bY)
   ·match k,aX,hu with
    | 0,aX,hu=>cases aX; cases hu; exact .lit rfl λ_ h=>h
    | 1,aX,hu=>cases aX; cases hu; exact .lit rfl λ_ h=>h
    | k+2,aX,hu =>
     simp only [List.getElem?_cons_succ] at aX hu;have zl:=(iP k z u aX (by simpa using hu)).bl (ρ':=ρ') (xe.bl z (List.mem_of_getElem? aX));refine zl.frame (λc aa=>?_) (λ_ h=>h) (λ_ _ h=>h) (λc h=>h.elim);exact Is (bj.lt c aa) λe=>bj.bk 0 c (e ▸ tY) aa
  have BM:=Any.slices_SortFunc_total L enc (λ_=>rfl) kO hO g j' b 0 cap d w Hx Io hH Ih (by rw [zq]; exact IZ) dM;rw [zq] at BM;refine BM.mono ?_;rintro cj w' ⟨rfl,n,os,rfl⟩;have pF:(d.toList.mergeSort λx y=>!ltOf kO y x).map enc=(ic (kA fT) l).map (Value.int .i64):=by
   rw [OH hO dM];have hm:(ic (ltOf kO) l.attach).map Subtype.val=ic (kA fT) (l.attach.map Subtype.val):=E5 (lt:=ltOf kO) (lt':=kA fT) (f:=Subtype.val) (λa b=>aT a b) l.attach;rw [List.attach_map_subtype_val] at hm;rw [<- hm,List.map_map];rfl
  have NF:(d.toList.mergeSort λx y=>!ltOf kO y x).toArray.size=l.length:=by
   rw [List.size_toArray,(List.mergeSort_perm _ _).length_eq];show (l.attach.toArray).toList.length=l.length;simp
  refine Qg rfl bj (e:=e) (r:=ic (kA fT) l) ⟨by simp,.inr ⟨b,cap,_,by rw [hlen],Nat.zero_le _,NH ua,by omega,IP,?_,?_⟩⟩ mr (MV tY)
  ·rw [Nat.mul_one,<- fX];simp [putCells]
  ·rw [Nat.mul_one,hlen,<- NF,PD (by rw [NF]; omega),<- pF]
end
end Go.Own
namespace Go.Own
open Go
section
variable {α:Type}{P:Program}{N:c5}{g g1 g2 g3:aK}{ops:Array Oper}{bf:List (List Nat)}{acc:Acc}{l:List Oper}{K:aK->Prop}{i d r:Nat}
theorem cH.settle {w:World}{I:bb}{T:Array Value}{Fs:Nat->bb}(h:cH w I T g Fs) (a:Act) (aP:a.tmps=T) {ts:List Nat}{xs ys:List ab}(J:Own.gl g (ts.map Operand.tmp)=some xs) (aw:Take g xs ys g1) (fm:ts.Nodup) (ak:ys.length=ts.length) (aS:∀ t∈ts,g1 t=some .dead)
  (hk:hG (qE g1 ((ts.map λt=>(⟨t,[]⟩:Place)).zip ys)) g2):∃ b7,cH w I T g2 b7/\∀ c,(∃ t,b7 t c)->∃ t,Fs t c:=by
 obtain ⟨Jl,WT⟩:=zV h aP J;have WS:xs.length=ts.length:=by rw [Jl,List.length_map]
 have hand:Hand w I (fz w T) Fs xs (ts.map λt=>a.eval (.tmp t)) (λ_=>cx):=by
  refine ⟨by rw [WS,List.length_map],λk x u qx hu=>?_,λ_ _ _ _ _ h=>h.elim,λ_ _ _ _ h=>h.elim,λ_ _ _ h=>h.elim⟩;rw [List.getElem?_map] at hu;cases ga:ts[k]? with
  | none=>rw [ga] at hu; cases hu
  | some t =>
   rw [ga] at hu; cases hu;exact (WT k x (.tmp t) qx (by rw [List.getElem?_map,ga]; rfl)).frame (λ_ _=>rfl) (λ_ h=>h) (λ_ _ h=>h.1) λ_ _=>rfl
 obtain ⟨fZ,H1,jd,iM,hS⟩:=aw.sound h.mH hand;have vD:((ts.map λt=>(⟨t,[]⟩:Place)).zip ys).length=ts.length:=by rw [List.length_zip,List.length_map,ak]; exact Nat.min_self _
 obtain ⟨i_,h',aN⟩:=jE.qE ((ts.map λt=>(⟨t,[]⟩:Place)).zip ys) H1 (λj=>((ts.map λt=>a.eval (.tmp t))[j]?).getD undef) jd (by
   rw [List.map_fst_zip (by rw [List.length_map,ak]; exact Nat.le_refl _)];exact List.Pairwise.map _ (λa b h e=>h (congrArg Place.root e)) fm) (λj p x ah=>by
   rw [List.getElem?_zip_eq_some] at ah;obtain ⟨h1,af⟩:=ah;rw [List.getElem?_map] at h1;cases ga:ts[j]? with
   | none=>rw [ga] at h1; cases h1
   | some t =>
    rw [ga] at h1; cases h1;have NG:=aS t (List.mem_of_getElem? ga);obtain ⟨v,hv,_⟩:=jd.rel t .dead NG;have t_:a.eval (.tmp t)=v:=by simp [Act.eval,aP,hv]
    have I6:(ts.map λt=>a.eval (.tmp t))[j]?=some v:=by rw [List.getElem?_map,ga]; simp [t_]
    refine ⟨by simp [bB,NG,ab.at],?_,?_⟩
    ·rw [I6];show dW w T ⟨t,[]⟩=some v;unfold dW;simp only [hv,walk]
    ·rw [I6];exact iM.rel j x v af I6) (λj t c ah aa=>iM.off j t c (by omega) aa) (λj c ah aa=>iM.bk j c (by omega) aa) (λi j c hi ah h1 af=>iM.eI i j c (by omega) (by omega) h1 af)
 refine ⟨_,h'.keep hk,λc ⟨t,_,aa⟩=>?_⟩;have:lz fZ ys.length H1 c:=by
  rcases aN t c aa with h | ⟨j,ah,h⟩
  ·exact .inl ⟨t,h⟩
  ·exact .inr ⟨j,by omega,h⟩
 rcases hS c this with h | ⟨_,_,h⟩
 ·exact h
 ·exact h.elim
theorem iy.settle {o:Oper}{ts:List Nat}{xs ys:List ab}(J:Own.gl g (ts.map Operand.tmp)=some xs) (aw:Take g xs ys g1) (fm:ts.Nodup) (ak:ys.length=ts.length) (aS:∀ t∈ts,g1 t=some .dead)
  (hk:hG (qE g1 ((ts.map λt=>(⟨t,[]⟩:Place)).zip ys)) g2) (he:iy P N g2 o g3):iy P N g o g3:=by
 intro w I T Fs bj a aP bd K Q di;obtain ⟨b7,dX,f'⟩:=bj.settle a aP J aw fm ak aS hk;refine he w I T b7 dX a aP bd K Q λca w' aF aw=>di ca w' ?_ aw;obtain ⟨cv,b9,I',i_,h1,af⟩:=aF;exact ⟨cv,b9,I',i_,h1,kp.trans ⟨Fr.refl _ _,λ_ h=>h,λ_ h=>.inl h,λc h=>.inl (f' c h)⟩ af⟩
theorem Rw {Q:Nat->Prop}{a:Nat}(aP:Q a):∀ t∈[a],Q t:=λt aw=>by rw [List.mem_singleton.1 aw]; exact aP
theorem wE {Q:Nat->Prop}{a b:Nat}(aP:Q a) (av:Q b):∀ t∈[a,b],Q t:=λt aw=>by
 rcases List.mem_cons.1 aw with rfl | aw
 ·exact aP
 ·rw [List.mem_singleton.1 aw]; exact av
def FE (p q:Place):Bool:=Nat.beq p.root q.root&&p.path == q.path
def Cy:List Place->Bool
 | []=>true
 | x::l=>l.all (λy=>!FE x y)&&Cy l
theorem O0:∀ {l:List Place},Cy l=true->l.Nodup
 | [],_=>List.nodup_nil
 | p::l,h=>by
  simp only [Cy,Bool.and_eq_true,List.all_eq_true] at h;refine List.nodup_cons.2 ⟨λhm=>?_,O0 h.2⟩;have:=h.1 p hm;simp [FE] at this
def Xq (p:Place) (acc:Acc):Bool:=acc.all λe=>match j0 e with | some q=>!FE p q | none=>true
theorem vK {p:Place}{G:List (Nat × ab)}{A:Nat->Bool}(h:Xq p acc=true) (c9:ma G=true):∀ t z n m new,dg (get G) A acc t≠some (.bL z p n m new):=by
 intro t z n m new e;rcases uQ e with ⟨cj,he,h1,_,af⟩ | ⟨_,af⟩
 ·have:=List.all_eq_true.1 h cj he;obtain ⟨k,d,x⟩:=cj;simp only at af;subst af;simp [j0,FE] at this
 ·exact vM c9 _ _ _ _ _ _ af
theorem O.tx {en:bK α}{L M r:List α}{y:ab}{e gM:Nat}{a b:Operand}{p:Place}{t ty:TypeId}(aB:Rd g a (.a6 en.z p L.length)) (au:bB g p=some (aj en L)) (J:Rd g b y) (hm:n2 g en y M) (aw:jG P t e en.z gM=true) (av:Nat.ble gM 128=true) (h:c' L M=some r) (e9:∀ t z n m new,g t≠some (.bL z p n m new)) :
  cg P g (.call { callee:=.builtin .append,args:=#[a,b],argTypes:=#[t,t] }) ty (.bL en.z p L.length M.length (bo en M)):=by
 obtain ⟨h1,af,_⟩:=y4 h av;exact .lS (.grow aB.bs (.inl ⟨_,au⟩) (λt bC cG m' c3 e=>e9 _ _ _ _ _ e) J.bs hm.src aw h1 af)
theorem bz.wO (bG:Nat) {G G2:List (Nat × ab)}{o:Oper}(he:iy P N (dg (get G) (λm=>(bf.getD bG []).contains m) acc) o (get G2)) (aO:o.guard=none) (gR:Cy (acc.filterMap j0)=true) (fH:ma G=true) (ah:Nat.beq ops.size (bG+l.length+1)=true)
  (f':acc.filter (λe=>!(bf.getD bG []).contains e.1)=[])
  (av:(List.range ops.size).all (λk=>Nat.ble k bG||(bf.getD k []).contains bG)=true) (hk:bz P N ops bf (get G2) (bG+1) [] l K):bz P N ops bf (get G) i acc (o::l) K:=by
 intro dU j cn kT lh;have:=zf lh ah;subst this;obtain ⟨h1,af⟩:=drop_cons lh;obtain ⟨g',aq,di⟩:=hk [] (j+1) .nil .nil af;refine ⟨g',.wK (U:=[]) (rs:=so []) kT (O0 gR) (vM fH) h1 ?_ he.v (λp au=>by simp [so] at au) f'.symm (by simp) (by simp) (by simp) ?_ aq,di⟩
 ·unfold iA; rw [aO]
 ·refine List.all_eq_true.2 λk hk=>?_;have:=List.all_eq_true.1 av k hk;simp only [Bool.or_eq_true,decide_eq_true_eq,Nat.ble_eq] at this ⊢;exact this
theorem iy.cell {o:Oper}{r k0:Nat}{y:ab}{cs:List ab}{g5:aK}(aq:g r=some (.obj cs)) (ax:cs[k0]?=some y) (xv:cU y)
  (vr:∀ v:Value,v.oneCell'=true->∃ g1 g4,hG (cu g ⟨r,[k0]⟩ (.lit v)) g1/\iy P N g1 o g4/\bB g4 ⟨r,[k0]⟩=some (.lit v)/\hG (cu g4 ⟨r,[k0]⟩ y) g5):pb P N (λp=>p∈[(⟨r,[k0]⟩:Place)]) g o g5:=by
 intro w I T Fs h a aP bd K Q di;have lj:∀ z q n m new,y≠.bL z q n m new:=by rintro z q n m new rfl; cases xv
 have gp:bB g ⟨r,[k0]⟩=some y:=by simp [bB,aq,ab.at,ab.kids,ax]
 obtain ⟨v,cy,hv,dH,dw,put⟩:=h.mH.part gp lj;have uj:v.oneCell'=true:=by
  obtain ⟨u,hu,mX⟩:=h.rel r _ aq;obtain ⟨b,wk,h1,af,aI,bF,_⟩:=R.node (z:=0) (n:=0) (mX.gG (by simp)) (.inr rfl) ax;have:dW w T ⟨r,[k0]⟩=child w u k0:=by
   unfold dW;simp only [hu,walk];cases child w u k0 <;> rfl
  rw [this,aI] at hv;cases hv;exact bF
 obtain ⟨fZ,jd,zj,Br⟩:=put (.lit v) cx (.lit uj λ_ h=>h) (λ_ h=>h.elim) (λ_ h=>h.elim) (λ_ _ _ h=>h.elim);obtain ⟨g1,g4,hg,db,H',IC⟩:=vr v uj;have uN:∀ t c,fZ t c->Fs t c/\¬ cy c:=by
  intro t c aa;by_cases aw:t=r
  ·subst aw;rcases (zj c).1 aa with aR | aR
   ·exact aR
   ·exact aR.elim
  ·rw [Br t aw] at aa;exact ⟨aa,λaW=>aw (h.eI t r c aa (dw c aW))⟩
 have H3:=jd.keep hg;refine db w I T _ H3 a aP bd K Q λca w' aF sV=>?_;obtain ⟨cv,b9,I',b7,dX,b0⟩:=aF;obtain ⟨v2,iZ,B8,mv,Ui,Kk⟩:=dX.mH.part H' (by simp);have I5:v2=v:=mv.hC.1;subst I5;have M':∀ c,cy c->¬ I c:=λc aa=>h.bk r c (dw c aa);have Bt:∀ c,cy c->c<w.heap.size:=λc aa=>h.jZ r c (dw c aa);have CG:∀ c,cy c->¬ ∃ t,(g1 t≠none/\fZ t c):=λc aa ⟨t,_,aR⟩=>(uN t c aR).2 aa;have CF:∀ t c,b7 t c->¬ cy c:=by
  intro t c aa aW;rcases b0.own c ⟨t,aa⟩ with aR | aR
  ·exact CG c aW aR
  ·have:=Bt c aW; omega
 have J4:∀ c,cy c->¬ I' c:=by
  intro c aa hi;rcases b0.new c hi with aR | aR | aR
  ·exact M' c aa aR
  ·exact CG c aa aR
  ·have:=Bt c aa; omega
 have Kz:∀ c,cy c->w'.heap[c]?=w.heap[c]?:=λc aa=>b0.eT.block c (Bt c aa) (CG c aa);have sr:∀ c,I c->w'.heap[c]?=w.heap[c]?:=λc aa=>b0.eT.block c (h.lt c aa) λ⟨t,_,aR⟩=>h.bk t c (uN t c aR).1 aa;have Bz:R w' I' (fz w' ca.tmps) y v2 cy:=((dH.bl xv).frame sr b0.more (λ_ _ h=>h) Kz);obtain ⟨Li,H5,M8,HT⟩:=Kk y cy Bz (λc aa aW=>(CF _ c aW aa).elim) (λc aa=>J4 c aa) (λt c _ aa aW=>CF t c aW aa);have tQ:=H5.keep IC;refine di ca w' ⟨cv,b9,I',_,tQ,⟨?_,b0.more,λc aa=>?_,λc aa=>?_⟩⟩ sV λdm path au y' oT acM=>?_
 ·exact b0.eT.mono λb _ ⟨t,_,aR⟩=>⟨t,(uN t b aR).1⟩
 ·rcases b0.new c aa with aR | ⟨t,_,aR⟩ | aR
  ·exact .inl aR
  ·exact .inr (.inl ⟨t,(uN t c aR).1⟩)
  ·exact .inr (.inr aR)
 ·obtain ⟨t,_,aa⟩:=aa;have:(∃ t,b7 t c)\/cy c:=by
   by_cases aw:t=r
   ·subst aw;rcases (M8 c).1 aa with ⟨aR,_⟩ | aR
    ·exact .inl ⟨_,aR⟩
    ·exact .inr aR
   ·rw [HT t aw] at aa; exact .inl ⟨t,aa⟩
  rcases this with aR | aR
  ·rcases b0.own c aR with ⟨t,_,jc⟩ | jc
   ·exact .inl ⟨t,(uN t c jc).1⟩
   ·exact .inr jc
  ·exact .inl ⟨r,dw c aR⟩
 ·have au:(⟨dm,path⟩:Place)∈[(⟨r,[k0]⟩:Place)]:=au;have au:=List.mem_singleton.1 au;cases au;rw [hv,B8]
end
end Go.Own
namespace Go.Own
open Go
section
variable {α:Type}{P:Program}{N:c5}{g:aK}{ops:Array Oper}{l:List Oper}{K:aK->Prop}{r n:Nat}{t e ty:TypeId}{a b:Operand}{m:Int}{en:bK α}{L:List α}{y y2:α}{k:IntKind}{pos:String}{after:Array Edge}
def xw {α:Type}(n:Nat) (l:List α) (i:Int):Option α:=if i<n then idx l i else none
theorem Jq (h:xw n L m=some y):m<n/\idx L m=some y:=by
 unfold xw at h
 split at h
 ·exact ⟨by assumption,h⟩
 ·cases h
theorem RJ (aX:Nat.blt 0 en.z=true) (h:idx L m=some y):m.toNat * en.z<(bo en L).length:=by
 obtain ⟨aQ,h1,_⟩:=pM h;rw [nq];exact Nat.mul_lt_mul_of_pos_right (by omega) (by simpa using aX)
theorem O.OI (aB:g r=some (.obj (bo en L))) (aX:Nat.blt 0 en.z=true) (hi:Rd g b (.lit (.int k m))) (aw:y5 P t e n en.z=true) (h:xw n L m=some y):cg P g (.indexAddr t (.tmp r) b) ty (.ptr ⟨r,[]⟩ (m.toNat * en.z)):=by
 obtain ⟨h1,af⟩:=Jq h;have aT:=RJ aX af;obtain ⟨aQ,_,_⟩:=pM af;have J:Own.bs g (.tmp r)=some (.ptr ⟨r,[]⟩ 0):=by
  cases aa:bo en L with
  | nil=>rw [aa] at aT; simp at aT
  | cons c cs=>simp [Own.bs,aB,aa,rr,gr]
 have hm:((m.toNat:Nat):Int)=m:=by omega
 have:=c6.EZ (P:=P) (g:=g) (ty:=ty) (k:=0) (j:=m.toNat) J (by rw [hm]; exact hi.bs) aw (by omega) ⟨.obj (bo en L),by simp [bB,aB,ab.at],0,0,_,.inr rfl,by rw [Nat.zero_add]; exact aT⟩;rw [Nat.zero_add] at this;exact .eX this
theorem O.Xc {x:ab}(aB:g r=some (.obj (bo en L))) (aP:Rd g a (.ptr ⟨r,[]⟩ (m.toNat * en.z))) (h:idx L m=some y) (J:(en.cells y)[0]?=some x) (aw:jt P t=true) (aF:∀ p,gr 0 p x=x):cg P g (.load t a) ty x:=by
 have:=Ku en h J;rw [Nat.add_zero] at this;exact O.mC aB aP aw this (aF _)
theorem ar.Yw {K4:ab}{cs':List ab}{G2:List (Nat × ab)}(aB:g r=some (.obj (bo en L))) (aX:Nat.blt 0 en.z=true) (aP:Rd g a (.ptr ⟨r,[]⟩ (m.toNat * en.z))) (av:Rd g b K4) [aF:cf K4] (h:idx L m=some y) (aa:oK K4=some cs') (hL:cs'=en.cells y2) (fX:hq P t cs'.length=true)
  (aq:(get G2 r).isSome=true) (c9:k' g (get G2) r (bo en (L.set m.toNat y2)) G2) (hk:ar P N ops l (get G2) K):ar P N ops (⟨none,.store t a b,ty,pos,after,none⟩::l) g K:=by
 have hlen:cs'.length=en.z:=by rw [hL,en.len]
 obtain ⟨aQ,h1,_⟩:=pM h;refine .ji aB aP av aa fX ?_ ?_ ?_ aq c9 hk
 ·rw [hlen,nq];simp only [Nat.ble_eq];have:(m.toNat+1) * en.z<=L.length * en.z:=Nat.mul_le_mul_right _ (by omega);rw [Nat.add_mul,Nat.one_mul] at this;exact this
 ·rw [hlen]; exact aX
 ·have:=Kt en h (o:=0) (cs':=cs') (y2:=y2) (by
   subst hL;have ak:(en.cells y2).length=(en.cells y).length:=by rw [en.len,en.len]
   unfold e5;rw [List.take_zero,List.nil_append,Nat.zero_add,ak,List.drop_length,List.append_nil]) (by omega)
  rw [Nat.add_zero] at this;exact this
end
end Go.Own
namespace Go.Own
open Go Go.Proofs Go.Shelf Go.Lib Go.Sort
section
variable {P:Program}{w:World}
class lB {α:Type}(e:bK α) where
 rF:α->List Value
 cells:∀ a,e.cells a=(rF a).map .lit
 one:∀ a,∀ v∈rF a,v.oneCell'=true
variable {α:Type}{e:bK α}
theorem lB.len [h:lB e] (a:α):(h.rF a).length=e.z:=by
 have:=e.len a;rw [h.cells,List.length_map] at this;exact this
def pk (e:bK α) [h:lB e] (l:List α):List Value:=l.flatMap h.rF
theorem FR [h:lB e]:∀ l:List α,bo e l=(pk e l).map .lit
 | []=>rfl
 | a::l=>by
  have:bo e (a::l)=e.cells a++bo e l:=by simp [bo]
  rw [this,FR l,h.cells];simp [pk]
theorem HD [h:lB e] (l:List α):(pk e l).length=l.length * e.z:=by
 have:=nq e l;rw [FR,List.length_map] at this;exact this
theorem MT [h:lB e] {l:List α}:∀ v∈pk e l,v.oneCell'=true:=by
 intro v hv;obtain ⟨a,_,hv⟩:=List.mem_flatMap.1 hv;exact h.one a v hv
theorem MS [h:lB e]:∀ (l:List α) (i j:Nat) (a:α),l[i]?=some a->j<e.z->(pk e l)[i * e.z+j]?=(h.rF a)[j]?
 | [],i,j,a,aP,_=>by simp at aP
 | b::l,0,j,a,aP,ah=>by
  simp only [List.getElem?_cons_zero,Option.some.injEq] at aP;subst aP;simp only [pk,List.flatMap_cons,Nat.zero_mul,Nat.zero_add];rw [List.getElem?_append_left (by rw [lB.len]; exact ah)]
 | b::l,i+1,j,a,aP,ah=>by
  simp only [List.getElem?_cons_succ] at aP;have:=MS l i j a aP ah;simp only [pk,List.flatMap_cons] at this ⊢;rw [List.getElem?_append_right (by rw [lB.len,Nat.add_mul]; omega),lB.len,<- this];congr 1;rw [Nat.add_mul]; omega
theorem MR {β:Type} [Inhabited β] [h:lB e] (f:β->α) (d:Array β):(flatK (λx=>h.rF (f x)) e.z d).toList=pk e (d.toList.map f):=by
 apply List.ext_getElem?;intro t;by_cases aw:t<d.size * e.z
 ·have aX:0<e.z:=by
   rcases Nat.eq_zero_or_pos e.z with aQ | aQ
   ·rw [aQ] at aw; omega
   ·exact aQ
  have h1:t / e.z<d.size:=Nat.div_lt_of_lt_mul (by rw [Nat.mul_comm]; exact aw);have af:t % e.z<e.z:=Nat.mod_lt _ aX;have aP:(d.toList.map f)[t / e.z]?=some (f d[t / e.z]!):=by
   rw [List.getElem?_map,Array.getElem?_toList,Array.getElem?_eq_getElem h1,getElem!_pos d _ h1]; rfl
  have:=MS (e:=e) _ (t / e.z) (t % e.z) _ aP af;rw [Nat.mul_comm,Nat.div_add_mod] at this;rw [this,Array.getElem?_toList,Array.getElem?_eq_getElem (by simpa using aw),<- getElem!_pos (flatK (λx=>h.rF (f x)) e.z d) t (by simpa using aw),get_flatK _ _ _ _ aw];have aI:t % e.z<(h.rF (f d[t / e.z]!)).length:=by rw [lB.len]; exact af
  rw [getElem!_pos (h.rF (f d[t / e.z]!)) (t % e.z) aI,List.getElem?_eq_getElem aI]
 ·rw [List.getElem?_eq_none (by simp; omega),List.getElem?_eq_none (by rw [HD,List.length_map,Array.length_toList]; omega)]
theorem Qh [h_:lB e] {vs:List Value}{v0 v1:Value}(xn:vs=[v0,v1]) {I:bb}{Fs:Nat->bb}{g:aK}(bj:cH w I vs.toArray g Fs) {w':World}{t:TypeId}{r:List α}(a1:w'.ownsRow 0 t e.z v0 r.length (pk e r)) (aN:∀ c,Fs 0 c↔v0.ownBlock=some c) (oQ:Fr w w' λc=>Fs 0 c) :
  ∃ v I' b7,Ending.returned (.tuple #[])=.returned v/\cH w' I' (vs++[v]).toArray (kZ [some (aj e r),none] (.bW [])) b7/\kp w I (λc=>∃ t,Fs t c) w' I' (λc=>∃ t,b7 t c):=by
 subst xn;refine ⟨_,I,λt=>if t=0 then Fs 0 else cx,rfl,⟨λt x J=>?_,λt aw c aa=>?_,λt t' c aa fl=>?_,λt c aa=>?_,λc aa=>Nat.lt_of_lt_of_le (bj.lt c aa) oQ.size,λt t' z p n m new bC cG m' c3 h1 af=>?_⟩,⟨?_,λc h=>h,λc h=>.inl h,λc aa=>?_⟩⟩
 ·unfold kZ at J
  split at J
  ·rename_i aw;have aw:t=2:=aw;subst aw;cases J;exact ⟨.tuple #[],rfl,.tree (.bW (Fs:=λ_=>cx) rfl (λk x u h=>by simp at h) (λj k c h=>by simp at h) (λc=>⟨λh=>h.elim,λ⟨k,h,_⟩=>by simp at h⟩))⟩
  ·match t,J with
   | 0,J =>
    cases J;refine ⟨v0,rfl,.tree ?_⟩;show R w' I _ (.own e.z r.length (bo e r)) v0 (Fs 0);rw [FR];refine .own (Fs:=λ_=>cx) a1 (by simp) (λk u hu=>MT u (List.mem_of_getElem? hu)) (λk x u J hu=>?_) (λ_ _ _ _ _ h=>h.elim) (λ_ _ _ h=>h.elim) (λc=>⟨λh=>.inl ((aN c).1 h),λh=>?_⟩)
    ·rw [List.getElem?_map,hu] at J;cases J;exact .lit (MT u (List.mem_of_getElem? hu)) λ_ h=>h
    ·rcases h with h | ⟨_,_,h⟩
     ·exact (aN c).2 h
     ·exact h.elim
   | 1,J=>cases J
   | t+2,J=>cases J
 ·have aQ:¬ t=0:=λe=>by subst e; exact absurd aw (by simp [kZ])
  simp only [if_neg aQ] at aa;exact aa
 ·have key:∀ {t:Nat},(if t=0 then Fs 0 else cx) c->t=0:=λ{t} h=>by
   by_cases aQ:t=0
   ·exact aQ
   ·rw [if_neg aQ] at h; exact h.elim
  rw [key aa,key fl]
 ·by_cases aQ:t=0
  ·simp only [if_pos aQ] at aa; exact bj.bk 0 c aa
  ·simp only [if_neg aQ] at aa; exact aa.elim
 ·unfold kZ at h1
  split at h1
  ·cases h1
  ·match t,h1 with
   | 0,h1=>cases h1
   | 1,h1=>cases h1
   | t+2,h1=>cases h1
 ·exact oQ.mono λb _ av=>⟨0,av⟩
 ·obtain ⟨t,aw⟩:=aa;by_cases aQ:t=0
  ·simp only [if_pos aQ] at aw; exact .inl ⟨0,aw⟩
  ·simp only [if_neg aQ] at aw; exact aw.elim
theorem bU.YU [DecidableEq α] [vf:lB e] {ρ:Ren}(L:SlLaysF0.n6 P ρ) (Rl:∀ w,(isAgg (ρ.t 24)).run P w=.ok true w) (ZC:∀ w,(Go.sizeOf (ρ.t 24)).run P w=.ok e.z w) {g:FuncId}{caps:List ab} [xe:dp caps] (aO:gN P g=true) {l r:List α}{fT:α->α->Option Int}(h:pW fT l=some r)
  (aa:∀ a b v,fT a b=some v->bU P g (.agg (e.cells a)::.agg (e.cells b)::caps) (none::none::caps.map λ_=>none) (ae v)) :
  bU P (ρ.f 6) [aj e l,.cX (.func g) [] caps] [some (aj e r),none] (.bW []):=by
 refine ⟨rfl,λw I vs Fs ak bj=>?_⟩;obtain ⟨v0,v1,rfl⟩:∃ v0 v1,vs=[v0,v1]:=by
  match vs,ak with
  | [a,b],_=>exact ⟨a,b,rfl⟩
 obtain ⟨xl,ll,IZ,rfl⟩:=Qf h;obtain ⟨u,hu,aY⟩:=bj.rel 0 (aj e l) rfl;obtain rfl:v0=u:=by simpa using hu
 replace aY:=aY.gG (by simp);obtain ⟨u,hu,qj⟩:=bj.rel 1 (.cX (.func g) [] caps) rfl;obtain rfl:v1=u:=by simpa using hu
 replace qj:=qj.gG (by simp);rw [show aj e l=.own e.z l.length (bo e l) from rfl,FR] at aY
 cases aY with
 | ref J=>simp [ab.isRef] at J
 | @own _ _ _ _ t us bM _ a1 xh ht aq aS av aN =>
 cases qj with
 | ref J=>simp [ab.isRef] at J
 | @cX _ _ _ aD j' _ zj h1 af ky iP =>
 obtain rfl:aD=#[]:=Array.eq_empty_of_size_eq_zero (by simpa using h1.symm);have mr:∀ c,Fs 0 c↔v0.ownBlock=some c:=by
  intro c;refine ⟨λaa=>?_,λaa=>(aN c).2 (.inl aa)⟩;rcases (aN c).1 aa with h | ⟨k,hk,h⟩
  ·exact h
  ·have J:=List.getElem?_eq_getElem hk;have hu:=List.getElem?_eq_getElem (xh ▸ hk);have aY:=aq k _ _ J hu;rw [List.getElem_map] at aY;generalize us[k]=ha at aY;cases aY with
   | lit _ aW=>exact (aW c h).elim
   | ref J=>simp [ab.isRef] at J
 have l8:us=pk e l:=by
  apply List.ext_getElem?;intro k;by_cases hk:k<us.length
  ·have ib:k<((pk e l).map ab.lit).length:=xh.symm ▸ hk;have J:=List.getElem?_eq_getElem ib;have hu:=List.getElem?_eq_getElem hk;have aY:=aq k _ _ J hu;rw [List.getElem_map] at aY;rw [hu,aY.hC.1,List.getElem?_eq_getElem (by simpa using ib)]
  ·rw [List.getElem?_eq_none (by omega),List.getElem?_eq_none (by rw [List.length_map] at xh; omega)]
 subst l8;have BY:=sZ (kA fT) l;have hlen:=BY.length_eq;by_cases xj:l=[]
 ·subst xj;have je:∃ p cap,v0=.slice p 0 cap:=by
   rcases a1.2 with ⟨rfl,_⟩ | ⟨b,cap,cur,rfl,_⟩
   ·exact ⟨_,_,rfl⟩
   ·exact ⟨_,_,rfl⟩
  obtain ⟨p,cap,rfl⟩:=je;refine (AnyF.slices_SortFunc_none L p cap _ w).mono ?_;rintro cj w' ⟨rfl,rfl⟩;exact Qh rfl bj (t:=t) (r:=[]) a1 mr (Fr.refl _ _)
 ·obtain ⟨NW,Ik⟩:=a1;rcases Ik with ⟨rfl,aQ⟩ | ⟨b,cap,cur,rfl,_,ua,hle,IP,fX,ga⟩
  ·exact absurd (List.eq_nil_of_length_eq_zero aQ) xj
  have tY:Fs 0 b:=(mr b).2 rfl;have Ih:b<w.heap.size:=(Array.getElem?_eq_some_iff.1 ua).1;obtain ⟨a0,w7⟩:=List.exists_mem_of_ne_nil l xj
  let β:={ x:α // x∈l }
  haveI:Inhabited β:=⟨⟨a0,w7⟩⟩
  let enc:β->List Value:=λx=>vf.rF x.1
  let kO:β->β->Int:=λx y=>(fT x.1 y.1).getD 0;have aT:∀ x y:β,ltOf kO x y=kA fT x.1 y.1:=λx y=>rfl
  let d:Array β:=l.attach.toArray;have EB:d.toList.map Subtype.val=l:=by
   show (l.attach.toArray).toList.map Subtype.val=l;simp
  have zq:d.size=l.length:=by show (l.attach.toArray).size=l.length; rw [List.size_toArray,List.length_attach]
  have jf:=Ph ll;have hO:SWO (ltOf kO):=by
   refine ⟨λx=>by rw [aT]; exact (jf x.1 x.2).1,λx y z=>?_,λx y z=>?_⟩
   ·rw [aT,aT,aT];exact λp q=>(((jf x.1 x.2).2 y.1 y.2).2 z.1 z.2).1 ⟨p,q⟩
   ·rw [aT,aT,aT];intro p q;rcases (((jf x.1 x.2).2 y.1 y.2).2 z.1 z.2).2 with h | h | h
    ·rw [p] at h; cases h
    ·rw [q] at h; cases h
    ·exact h
  have dM:∀ x y:β,ltOf kO x y=false->ltOf kO y x=false->x=y:=by
   intro x y p q;rw [aT] at p q;rcases ((jf x.1 x.2).2 y.1 y.2).1 with h | h | h
   ·rw [p] at h; cases h
   ·rw [q] at h; cases h
   ·exact Subtype.ext h
  have sM:(flatK enc e.z d).toList=pk e l:=by
   have:=MR (e:=e) (λx:β=>x.1) d;rw [EB] at this;exact this
  have hH:HoldsK enc e.z w b 0 d:=by
   intro j ah;have xg:j<(pk e l).length:=by rw [<- sM,Array.length_toList]; exact ah
   refine ⟨?_,?_⟩
   ·unfold World.cell?;simp only [ua,Nat.zero_add];show cur[j]?=_;have h1:=congrArg (λt=>t[j]?) ga;have zt:j<l.length * e.z:=by rw [<- HD (e:=e)]; exact xg
    simp only [List.getElem?_take,if_pos zt,Array.getElem?_toList] at h1;rw [h1,<- sM,Array.getElem?_toList,Array.getElem?_eq_getElem ah,getElem!_pos (flatK enc e.z d) j ah];rfl
   ·unfold World.frozen?;simp only [ua];simp
  have Hx:∀ args w,(callFunc g args).run P w=.ok (.enter g args) w:=λargs w=>Bb aO args;have Np:∀ (W:World) (I:bb) (ρ':ab->Value->Prop) (a:α),R W I ρ' (.agg (e.cells a)) (.agg (vf.rF a).toArray) λ_=>False:=by
   intro W I ρ' a;rw [vf.cells];refine .agg (Fs:=λ_=>cx) (by simp) (λk u hu=>vf.one a u ?_) (λk x u J hu=>?_) (λ_ _ _ _ _ h=>h.elim) (λc=>⟨λh=>h.elim,λ⟨_,_,h⟩=>h.elim⟩)
   ·rw [List.getElem?_toArray] at hu; exact List.mem_of_getElem? hu
   ·rw [List.getElem?_toArray] at hu;rw [List.getElem?_map,hu] at J;cases J;exact .lit (vf.one a u (List.mem_of_getElem? hu)) λ_ h=>h
  have Io:CmpLays P g j' enc e.z kO b 0 d.size w:=by
   intro m os Bf zp x y;have re:=xl x.1 x.2 y.1 y.2;obtain ⟨v,hv⟩:=Option.isSome_iff_exists.1 re;have Il:kO x y=v:=by show (fT x.1 y.1).getD 0=v; rw [hv]; rfl
   show Calls P g _ (sortWorld id w b 0 m (flatK enc e.z Bf) os) λcj w'=>_/\∃ q XC,w'=grow ((sortWorld id w b 0 m (flatK enc e.z Bf) os).drewN q) XC;have H7:cH (sortWorld id w b 0 m (flatK enc e.z Bf) os) I #[] (λ_=>none) (λ_=>cx):=by
    refine ⟨λ_ _ h=>(by cases h),λ_ _ _ h=>h,λ_ _ _ h=>h.elim,λ_ _ h=>h.elim,λc aa=>?_,λ_ _ _ _ _ _ _ _ _ _ _ h=>(by cases h)⟩;have:=bj.lt c aa;unfold sortWorld;rw [size_grow,Go.Sort.size_putRow];exact Nat.lt_of_lt_of_le this (Nat.le_add_right _ _)
   have sK:=H7.args (I':=I) (λc h=>.inl h) (args:=.agg (e.cells x.1)::.agg (e.cells y.1)::caps) (vs:=.agg (enc x).toArray::.agg (enc y).toArray::j'.toList) (by simp [af]) (λρ' k z u aX hu=>?_)
   ·have pA:=(aa x.1 y.1 v hv).2 _ I (.agg (enc x).toArray::.agg (enc y).toArray::j'.toList) _ (by simp [af]) sK;have kc:(.agg (enc x).toArray::.agg (enc y).toArray::j'.toList).toArray=#[.agg (enc x).toArray,.agg (enc y).toArray]++j':=by
     apply Array.ext';simp
    rw [kc] at pA;refine pA.mono ?_;rintro cj w' ⟨gv,I',b7,rfl,dX,b0⟩;obtain ⟨u,hu,mY⟩:=dX.rel (caps.length+2) (ae v) (by simp [kZ]);have I7:u=gv:=by
     have:(Value.agg (enc x).toArray::.agg (enc y).toArray::j'.toList).length=caps.length+2:=by simp [af]
     rw [List.getElem?_toArray,<- this] at hu;simpa using hu.symm
    subst I7;have oa:=(mY.gG (by simp)).hC.1;subst oa;refine ⟨by rw [Il],?_⟩;exact M0 (b0.eT.mono λc _ ⟨_,bY⟩=>bY)
   ·match k,aX,hu with
    | 0,aX,hu=>cases aX; cases hu; exact Np _ _ _ x.1
    | 1,aX,hu=>cases aX; cases hu; exact Np _ _ _ y.1
    | k+2,aX,hu =>
     simp only [List.getElem?_cons_succ] at aX hu;have zl:=(iP k z u aX (by simpa using hu)).bl (ρ':=ρ') (xe.bl z (List.mem_of_getElem? aX));refine zl.frame (λc aa=>?_) (λ_ h=>h) (λ_ _ h=>h) (λc h=>h.elim);exact Is (bj.lt c aa) λe=>bj.bk 0 c (e ▸ tY) aa
  have BM:=AnyQ.slices_SortFunc_total L e.z Rl ZC enc (λx=>lB.len x.1) (λx v hv=>vf.one x.1 v hv) kO hO g j' b 0 cap d w Hx Io hH Ih (by rw [zq]; exact IZ) dM;rw [zq] at BM;refine BM.mono ?_;rintro cj w' ⟨rfl,n,os,rfl⟩;have pF:(d.toList.mergeSort λx y=>!ltOf kO y x).map Subtype.val=ic (kA fT) l:=by
   rw [OH hO dM];have hm:(ic (ltOf kO) l.attach).map Subtype.val=ic (kA fT) (l.attach.map Subtype.val):=E5 (lt:=ltOf kO) (lt':=kA fT) (f:=Subtype.val) (λa b=>aT a b) l.attach;rw [List.attach_map_subtype_val] at hm;exact hm
  generalize acK:(d.toList.mergeSort λx y=>!ltOf kO y x)=ms at pF;have VM:ms.length=l.length:=by rw [<- hlen,<- pF,List.length_map]
  have Iv:(flatK enc e.z ms.toArray).toList=pk e (ic (kA fT) l):=by
   have:=MR (e:=e) (λx:β=>x.1) ms.toArray;rw [show (ms.toArray).toList.map (λx:β=>x.1)=ic (kA fT) l from pF] at this
   exact this
  have sN:(flatK enc e.z ms.toArray).size=l.length * e.z:=by rw [size_flatK,List.size_toArray,VM]
  refine Qh rfl bj (t:=t) (r:=ic (kA fT) l) ⟨HD _,.inr ⟨b,cap,_,by rw [hlen],Nat.zero_le _,NH (enc:=id) ua,by omega,IP,?_,?_⟩⟩ mr (MV (enc:=id) tY)
  ·rw [<- fX];simp [putCells]
  ·rw [hlen,<- sN,PD (by rw [sN,fX]; exact Nat.mul_le_mul_right _ hle),List.map_id,Iv]
end
end Go.Own
namespace Go.Own
open Go
section
variable {α:Type}{P:Program}{N:c5}{g:aK}{d r:Nat}
theorem hP.tk {o:Oper}{x:Operand}{gm:Array TypeId}{f:FuncId}{res:ab}{en:bK α}{L:List α}{G2:List (Nat × ab)}(a1:o.op=.call { callee:=.value (.func f),args:=#[x],argTypes:=gm }) (aS:o.dst=some d) (J:Own.gl g [x]=some [.a6 en.z ⟨r,[]⟩ L.length])
  (aB:g r=some (aj en L)) (gQ:bU P f [aj en L] [none] res) (aW:gN P f=true) [aq:cf res]
  (c9:Trim false (cu g ⟨r,[]⟩ .dead) (get G2) G2) (aO:get G2 d=none) (bd:N.ok d=true) :
  hP P N g o d (get ((d,res)::G2)):=by
 have na:∀ x∈bo en L,cU x:=by
  intro x J;obtain ⟨a,_,aP⟩:=List.mem_flatMap.1 J;exact en.bl a x aP
 have ga:(bo en L).take (L.length * en.z)=bo en L:=List.take_of_length_le (by rw [nq]; exact Nat.le_refl _);have xG:hG (cu g ⟨r,[]⟩ .dead) (get G2):=by
  refine ⟨λt x h=>?_,λt x h=>(c9.spec t x h).2.1,λt z q n m new h=>(c9.spec t _ h).2.2 _ _ _ _ _ rfl⟩;obtain ⟨⟨y,h1,_,aI⟩,_⟩:=c9.spec t x h;rw [<- aI rfl]; exact h1
 have xH:hG (get G2) (get G2):=⟨λt x h=>h,λt x h=>(c9.spec t x h).2.1,λt z q n m new h=>(c9.spec t _ h).2.2 _ _ _ _ _ rfl⟩;have rR:get ((d,res)::G2)=cV (get G2) d res:=by
  funext t;rw [sG]
 rw [rR];refine yI.ok (first:=[]) (caps:=[]) (ys:=[.a6 en.z ⟨r,[]⟩ L.length]) (tk:=λk=>k == 0) (vw:=false) (outs:=[none]) (g1:=cu g ⟨r,[]⟩ .dead) (g2:=get G2) (g4:=get G2) (l:=[]) (ks:=λ_=>0) (xs0:=[.a6 en.z ⟨r,[]⟩ L.length]) (xs1:=[aj en L]) (args:=[aj en L]) (res:=res) a1 aS rfl J
  ⟨aW,by simp,by simp,λk x h=>.inl h,?_,xG,λk x y J ax=>?_,gQ,by simpa using aq.bl,λk x h=>?_,λj p x ah=>by simp at ah,by simp,λi j hi ah _=>by simp at hi,xH⟩ aO bd wy.refl
 ·have h1:Take (cu g ⟨r,[]⟩ .dead) ((bo en L).take (L.length * en.z)) (bo en L) (cu g ⟨r,[]⟩ .dead):=by rw [ga]; exact .bl na
  exact .a6 (N:=L.length) (by simp [bB,aB,ab.at]) (Nat.le_refl _) h1 (.bl λx J=>by simp at J)
 ·cases k with
  | zero=>simpa using ax
  | succ k=>simp at ax
 ·cases k with
  | zero=>simp at h
  | succ k=>simp at h
end
end Go.Own
namespace Go.Own
open Go Go.Proofs Go.Shelf Go.Lib Go.Sort
section
variable {α:Type} [DecidableEq α]
end
section
variable {α:Type}{e:bK α}{P:Program}{w:World}
variable [DecidableEq α] [Inhabited α]
end
end Go.Own
namespace Go.Proofs
open Tryz
open Go.Shelf Go.RowKit Go.Lib Go.Sort
variable {α:Type} [Inhabited α] [DecidableEq α]
namespace Two
open Go.Own
variable {P:Program}{t:TypeId}
omit [Inhabited α] [DecidableEq α] in
theorem one (f:α->Int):OneCell λx=>Value.int .i64 (f x):=λ_=>rfl
end Two
end Go.Proofs
namespace Go.Own
open Go Go.Proofs Go.Shelf Go.Lib Go.Sort
section
variable {α:Type}{e:bK α}{P:Program}{w:World}
end
end Go.Own
namespace Go.Own
open Go
section
variable {α:Type}{P:Program}{N:c5}{g:aK}{d r:Nat}
end
end Go.Own
namespace Go.Own
open Go
theorem q {α:Sort _}{a:α}:a=a:=rfl
abbrev a':ByteArray:=⟨#[]⟩
theorem CD {p:Prop} [Decidable p] (h:decide p=true):p:=of_decide_eq_true h
theorem k4 {b:Bool}{g h:aK}{e0 s1:Nat}{eC a8:ab}(aQ:g e0=some eC) [cf eC] (h1:g s1=some a8) [cf a8]:Trim b g h [(e0,eC),(s1,a8)]:=(.n aQ (.n h1 .nil))
theorem o6 {b:Bool}{g h:aK}{e0 s1 s2:Nat}{eC a8 x2:ab}(aQ:g e0=some eC) [cf eC] (h1:g s1=some a8) [cf a8] (af:g s2=some x2) [cf x2]:Trim b g h [(e0,eC),(s1,a8),(s2,x2)]:=(.n aQ (.n h1 (.n af .nil)))
theorem o7 {b:Bool}{g h:aK}{e0 s1 s2 ea:Nat}{eC a8 x2 a7:ab}(aQ:g e0=some eC) [cf eC] (h1:g s1=some a8) [cf a8] (af:g s2=some x2) [cf x2] (aI:g ea=some a7) [cf a7]:Trim b g h [(e0,eC),(s1,a8),(s2,x2),(ea,a7)]:=(.n aQ (.n h1 (.n af (.n aI .nil))))
theorem j1 {b:Bool}{g h:aK}{e0 s1 s2 ea cZ:Nat}{eC a8 x2 a7 bq:ab}(aQ:g e0=some eC) [cf eC] (h1:g s1=some a8) [cf a8] (af:g s2=some x2) [cf x2] (aI:g ea=some a7) [cf a7] (bF:g cZ=some bq) [cf bq]:Trim b g h [(e0,eC),(s1,a8),(s2,x2),(ea,a7),(cZ,bq)]:=(.n aQ (.n h1 (.n af (.n aI (.n bF .nil)))))
theorem ot {b:Bool}{g h:aK}{e0 s1 s2 ea cZ cm:Nat}{eC a8 x2 a7 bq bS:ab}(aQ:g e0=some eC) [cf eC] (h1:g s1=some a8) [cf a8] (af:g s2=some x2) [cf x2] (aI:g ea=some a7) [cf a7] (bF:g cZ=some bq) [cf bq] (cF:g cm=some bS) [cf bS]:Trim b g h [(e0,eC),(s1,a8),(s2,x2),(ea,a7),(cZ,bq),(cm,bS)]:=(.n aQ (.n h1 (.n af (.n aI (.n bF (.n cF .nil))))))
theorem ss {b:Bool}{g h:aK}{e0 s1 s2 ea cZ cm da:Nat}{eC a8 x2 a7 bq bS bw:ab}(aQ:g e0=some eC) [cf eC] (h1:g s1=some a8) [cf a8] (af:g s2=some x2) [cf x2] (aI:g ea=some a7) [cf a7] (bF:g cZ=some bq) [cf bq] (cF:g cm=some bS) [cf bS] (ej:g da=some bw) [cf bw]:Trim b g h [(e0,eC),(s1,a8),(s2,x2),(ea,a7),(cZ,bq),(cm,bS),(da,bw)]:=(.n aQ (.n h1 (.n af (.n aI (.n bF (.n cF (.n ej .nil)))))))
theorem KR {b:Bool}{g h:aK}{e0 s1 s2 ea cZ cm da ds:Nat}{eC a8 x2 a7 bq bS bw bQ:ab}(aQ:g e0=some eC) [cf eC] (h1:g s1=some a8) [cf a8] (af:g s2=some x2) [cf x2] (aI:g ea=some a7) [cf a7] (bF:g cZ=some bq) [cf bq] (cF:g cm=some bS) [cf bS] (ej:g da=some bw) [cf bw] (mW:g ds=some bQ) [cf bQ]:Trim b g h [(e0,eC),(s1,a8),(s2,x2),(ea,a7),(cZ,bq),(cm,bS),(da,bw),(ds,bQ)]:=(.n aQ (.n h1 (.n af (.n aI (.n bF (.n cF (.n ej (.n mW .nil))))))))
theorem ac_ {b:Bool}{g h:aK}{e0 s1 s2 ea cZ cm da ds dA:Nat}{eC a8 x2 a7 bq bS bw bQ b6:ab}(aQ:g e0=some eC) [cf eC] (h1:g s1=some a8) [cf a8] (af:g s2=some x2) [cf x2] (aI:g ea=some a7) [cf a7] (bF:g cZ=some bq) [cf bq] (cF:g cm=some bS) [cf bS] (ej:g da=some bw) [cf bw] (mW:g ds=some bQ) [cf bQ] (rX:g dA=some b6) [cf b6]:Trim b g h [(e0,eC),(s1,a8),(s2,x2),(ea,a7),(cZ,bq),(cm,bS),(da,bw),(ds,bQ),(dA,b6)]:=(.n aQ (.n h1 (.n af (.n aI (.n bF (.n cF (.n ej (.n mW (.n rX .nil)))))))))
theorem Zi {b:Bool}{g h:aK}{e0 s1 s2 ea cZ cm da ds dA ie:Nat}{eC a8 x2 a7 bq bS bw bQ b6 cw:ab}(aQ:g e0=some eC) [cf eC] (h1:g s1=some a8) [cf a8] (af:g s2=some x2) [cf x2] (aI:g ea=some a7) [cf a7] (bF:g cZ=some bq) [cf bq] (cF:g cm=some bS) [cf bS] (ej:g da=some bw) [cf bw] (mW:g ds=some bQ) [cf bQ] (rX:g dA=some b6) [cf b6] (w5:g ie=some cw) [cf cw]:Trim b g h [(e0,eC),(s1,a8),(s2,x2),(ea,a7),(cZ,bq),(cm,bS),(da,bw),(ds,bQ),(dA,b6),(ie,cw)]:=(.n aQ (.n h1 (.n af (.n aI (.n bF (.n cF (.n ej (.n mW (.n rX (.n w5 .nil))))))))))
theorem Zj {b:Bool}{g h:aK}{e0 s1 s2 ea cZ cm da ds dA ie gu:Nat}{eC a8 x2 a7 bq bS bw bQ b6 cw bJ:ab}(aQ:g e0=some eC) [cf eC] (h1:g s1=some a8) [cf a8] (af:g s2=some x2) [cf x2] (aI:g ea=some a7) [cf a7] (bF:g cZ=some bq) [cf bq] (cF:g cm=some bS) [cf bS] (ej:g da=some bw) [cf bw] (mW:g ds=some bQ) [cf bQ] (rX:g dA=some b6) [cf b6] (w5:g ie=some cw) [cf cw] (TN:g gu=some bJ) [cf bJ]:Trim b g h [(e0,eC),(s1,a8),(s2,x2),(ea,a7),(cZ,bq),(cm,bS),(da,bw),(ds,bQ),(dA,b6),(ie,cw),(gu,bJ)]:=(.n aQ (.n h1 (.n af (.n aI (.n bF (.n cF (.n ej (.n mW (.n rX (.n w5 (.n TN .nil)))))))))))
section
variable {P:Program}{N:c5}{ops:Array Oper}{g:aK}{K:aK->Prop}{l:List Oper}{d t:Nat}{ty:TypeId}{pos:String}{after:Array Edge}{v:Value}
theorem gU {G1:List (Nat × ab)}(h:Trim true g (get G1) G1):ar P N ops [] g λg'=>kq g' (get G1):=.fin h
theorem b5 (h:g t=some (.lit v)) (hk:ar P N ops l (cV g d (.lit v)) K) (bd:N.ok d=true:=by rfl) (aW:g d=none:=by rfl):ar P N ops (⟨some d,.move (.tmp t),ty,pos,after,none⟩::l) g K:=al (O.aZ (.lit h)) hk bd aW
theorem ny (h:g t=some (.lit v)) (hk:ar P N ops l (cV g d (.lit v)) K) (bd:N.ok d=true:=by rfl) (aW:g d=none:=by rfl):ar P N ops (⟨some d,.assign (.tmp t),ty,pos,after,none⟩::l) g K:=al (O.az (.lit h)) hk bd aW
theorem Lz (h:ofConst v=.lit v) (hk:ar P N ops l (cV g d (.lit v)) K) (bd:N.ok d=true:=by rfl) (aW:g d=none:=by rfl):ar P N ops (⟨some d,.assign (.const v),ty,pos,after,none⟩::l) g K:=al (O.az (.k h)) hk bd aW
end
end Go.Own
namespace Go.Own
open Go
section
variable {α:Type}{g:aK}
end
end Go.Own
namespace Go.Own
open Go
section
variable {α:Type}{P:Program}{N:c5}{g:aK}{d r:Nat}
theorem hP.kE {o:Oper}{xs:List Operand}{gm:Array TypeId}{f:FuncId}{ys:List ab}{res:ab}{en:bK α}{L:List α}{G2:List (Nat × ab)}(a1:o.op=.call { callee:=.value (.func f),args:=xs.toArray,argTypes:=gm }) (aS:o.dst=some d) (J:Own.gl g xs=some (.a6 en.z ⟨r,[]⟩ L.length::ys))
  (aB:g r=some (aj en L)) (gQ:bU P f (aj en L::ys) (none::ys.map λ_=>none) res) (aW:gN P f=true) [aq:cf res] [aF:dp ys]
  (c9:Trim false (cu g ⟨r,[]⟩ .dead) (get G2) G2) (aO:get G2 d=none) (bd:N.ok d=true) :
  hP P N g o d (get ((d,res)::G2)):=by
 have na:∀ x∈bo en L,cU x:=by
  intro x J;obtain ⟨a,_,aP⟩:=List.mem_flatMap.1 J;exact en.bl a x aP
 have ga:(bo en L).take (L.length * en.z)=bo en L:=List.take_of_length_le (by rw [nq]; exact Nat.le_refl _);have xG:hG (cu g ⟨r,[]⟩ .dead) (get G2):=by
  refine ⟨λt x h=>?_,λt x h=>(c9.spec t x h).2.1,λt z q n m new h=>(c9.spec t _ h).2.2 _ _ _ _ _ rfl⟩;obtain ⟨⟨y,h1,_,aI⟩,_⟩:=c9.spec t x h;rw [<- aI rfl]; exact h1
 have xH:hG (get G2) (get G2):=⟨λt x h=>h,λt x h=>(c9.spec t x h).2.1,λt z q n m new h=>(c9.spec t _ h).2.2 _ _ _ _ _ rfl⟩;have rR:get ((d,res)::G2)=cV (get G2) d res:=by
  funext t;rw [sG]
 rw [rR];refine yI.ok (first:=[]) (caps:=[]) (ys:=.a6 en.z ⟨r,[]⟩ L.length::ys) (tk:=λ_=>true) (vw:=false) (outs:=none::ys.map λ_=>none) (g1:=cu g ⟨r,[]⟩ .dead) (g2:=get G2) (g4:=get G2) (l:=[]) (ks:=λ_=>0) (xs0:=.a6 en.z ⟨r,[]⟩ L.length::ys) (xs1:=aj en L::ys) (args:=aj en L::ys) (res:=res) a1 aS rfl (by simpa using J)
  ⟨aW,by simp,by simp,λk x h=>.inl (by simpa using h),?_,xG,λk x y J ax=>by simpa using ax,gQ,by simpa using aq.bl,λk x h=>?_,λj p x ah=>by simp at ah,by simp,λi j hi ah _=>by simp at hi,xH⟩ aO bd wy.refl
 ·have h1:Take (cu g ⟨r,[]⟩ .dead) ((bo en L).take (L.length * en.z)) (bo en L) (cu g ⟨r,[]⟩ .dead):=by rw [ga]; exact .bl na
  exact .a6 (N:=L.length) (by simp [bB,aB,ab.at]) (Nat.le_refl _) h1 (.bl aF.bl)
 ·cases k with
  | zero=>simp at h
  | succ k =>
   simp only [List.getElem?_cons_succ,List.getElem?_map] at h;cases aP:ys[k]? <;> rw [aP] at h <;> cases h
end
end Go.Own
namespace Go.Own
open Go
class u1 (x:ab):Prop where pl:p8 x
class DW (cs:List ab):Prop where pl:∀ x∈cs,p8 x
instance {v:Value}:u1 (.lit v):=⟨.lit⟩
instance:u1 .aL:=⟨.aL⟩
instance {z n:Nat}{cs:List ab} [h:dp cs]:u1 (.bk z n cs):=⟨.bk h.bl⟩
instance {α:Type}{e:bK α}{L:List α}:u1 (ag e L):=⟨.bk (dp.bl (cs:=bo e L))⟩
instance {cs:List ab} [h:DW cs]:u1 (.agg cs):=⟨.agg h.pl⟩
instance:DW []:=⟨by simp⟩
instance {x:ab}{cs:List ab} [h:u1 x] [aR:DW cs]:DW (x::cs):=⟨λy ax=>by
 rcases List.mem_cons.1 ax with rfl | ax
 ·exact h.pl
 ·exact aR.pl y ax⟩
class DU (G:List (Nat × ab)):Prop where bl:∀ t x,get G t=some x->cU x
instance:DU []:=⟨λt x h=>by cases h⟩
instance {s:Nat}{x:ab}{G:List (Nat × ab)} [h:cf x] [aR:DU G]:DU ((s,x)::G):=⟨λt y ax=>by
 simp only [get] at ax
 split at ax
 ·cases ax; exact h.bl
 ·exact aR.bl t y ax⟩
class yV (acc:Acc):Prop where bl:∀ e∈acc,∀ x,e.2.2=some x->cU x
instance:yV []:=⟨by simp⟩
instance {k d:Nat}{x:ab}{acc:Acc} [h:cf x] [aR:yV acc]:yV ((k,d,some x)::acc):=⟨λe he y ax=>by
 rcases List.mem_cons.1 he with rfl | he
 ·cases ax; exact h.bl
 ·exact aR.bl e he y ax⟩
instance {k d:Nat}{acc:Acc} [aR:yV acc]:yV ((k,d,none)::acc):=⟨λe he y ax=>by
 rcases List.mem_cons.1 he with rfl | he
 ·cases ax
 ·exact aR.bl e he y ax⟩
theorem Mh {G:List (Nat × ab)}{A:Nat->Bool}{acc:Acc} [h:DU G] [aR:yV acc]:GF (dg (get G) A acc):=by
 have key:∀ t x,dg (get G) A acc t=some x->cU x:=λt x J=>by
  rcases uQ J with ⟨e,he,_,_,af⟩ | ⟨_,af⟩
  ·exact aR.bl e he x af
  ·exact h.bl t x af
 exact ⟨λt x J=>.bl (key t x J),λt z q n m new J=>by cases key t _ J⟩
end Go.Own
namespace Go.Own
open Go Go.MapKept Go.ChangeMaps
section
variable {P:Program}{w:World}{I:bb}{T:Array Value}{g g2:aK}{Fs:Nat->bb}
theorem Sx {w:World}{b:Nat}{es hQ:Array MapEntry}{c fS:Nat}(h:w.heap[b]?=some (.map es c)) (a:Addr):(setBlock w b (.map hQ fS)).cell? a=w.cell? a:=by
 by_cases e:a.block=b
 ·have h1:(setBlock w b (.map hQ fS)).heap[a.block]?=some (.map hQ fS):=by rw [e]; exact heap_setBlock_same h _
  have af:w.heap[a.block]?=some (.map es c):=by rw [e]; exact h
  unfold World.cell?
  grind
 ·have h1:(setBlock w b (.map hQ fS)).heap[a.block]?=w.heap[a.block]?:=heap_setBlock_other h _ e;unfold World.cell?;rw [h1]
theorem QC {w:World}{b:Nat}{es hQ:Array MapEntry}{c fS:Nat}(h:w.heap[b]?=some (.map es c)):∀ (p:List Nat) (v:Value),walk (setBlock w b (.map hQ fS)) v p=walk w v p
 | [],v=>rfl
 | k::p,v=>by
  have aa:child (setBlock w b (.map hQ fS)) v k=child w v k:=by
   unfold child
   split <;> first | rfl | exact Sx h _
  simp only [walk,aa];cases child w v k with
  | none=>rfl
  | some u=>exact QC h p u
theorem Zv {w:World}{b:Nat}{es hQ:Array MapEntry}{c fS:Nat}(h:w.heap[b]?=some (.map es c)) (T:Array Value) (p:Place):dW (setBlock w b (.map hQ fS)) T p=dW w T p:=by
 grind [dW,QC]
theorem Yd {w:World}{b:Nat}{es hQ:Array MapEntry}{c fS:Nat}(h:w.heap[b]?=some (.map es c)) {T:Array Value}{r:ab}{v:Value}(aq:fz w T r v):fz (setBlock w b (.map hQ fS)) T r v:=by
 cases r <;> simp only [fz,Zv h] at aq ⊢ <;> exact aq
theorem cH.Xm (bj:cH w I T g Fs) {p:Place}{q fQ:Array MapEntry->Nat->Prop}{b:Nat}{es hQ:Array MapEntry}{c fS:Nat}(au:bB g p=some (.mp q)) (hv:dW w T p=some (.map (some b))) (hm:w.heap[b]?=some (.map es c)) (bg:fQ hQ fS)
  (zr:∀ t x,g2 t=some x->cu g p (.mp fQ) t=some x) (r_:∀ t x,g2 t=some x->∀ y,g t=some y->jo (gC g2) y) (lj:∀ t z q n m new,g2 t≠some (.bL z q n m new)) (kf:g2 p.root≠none) :
  ∃ b7,cH (setBlock w b (.map hQ fS)) I T g2 b7/\∀ t c,b7 t c->Fs t c:=by
 have o9:∀ k,k≠b->(setBlock w b (.map hQ fS)).heap[k]?=w.heap[k]?:=λk hk=>heap_setBlock_other hm _ hk;have Dw:(setBlock w b (.map hQ fS)).heap[b]?=some (.map hQ fS):=heap_setBlock_same hm _;have QA:(setBlock w b (.map hQ fS)).heap.size=w.heap.size:=by simp [setBlock]
 have V0:∀ r v,fz w T r v->fz (setBlock w b (.map hQ fS)) T r v:=λr v h=>Yd hm h;generalize vz:setBlock w b (.map hQ fS)=w' at *;obtain ⟨eC,iH⟩:∃ eC,g p.root=some eC:=by
  grind [bB]
 have py:eC.at p.path=some (.mp q):=by simpa [bB,iH] using au
 obtain ⟨v0,iQ,gE⟩:=bj.rel _ _ iH;have By:=gE.gG (by rintro z q n m new rfl; cases (ab.sC py).2);have lM:jo (gC g2) eC:=by
  cases af:g2 p.root with
  | none=>exact absurd af kf
  | some y=>exact r_ _ _ af _ iH
 have qj:=By.yh lM;obtain ⟨h5,cy,hw,dH,dw,_,kh⟩:=R.focus p.path qj py;have I8:h5=.map (some b):=by
  grind [dW]
 subst I8;obtain ⟨eD,abP,pj,e,a1,_,mr⟩:=dH.Jv;cases e;have my:cy b:=(mr b).2 rfl;have ve:∀ c,I c->w'.heap[c]?=w.heap[c]?:=λc aa=>o9 c λe=>bj.bk _ b (dw b my) (e ▸ aa);have EK:∀ t,t≠p.root->¬ Fs t b:=λt aw h=>aw (bj.eI _ _ _ h (dw b my));have refs:∀ r u,(dT w T g r u/\gC g2 r)->dT w' T g2 r u:=λr u h=>⟨V0 r u h.1.1,h.2⟩;obtain ⟨c8,Ew,pr⟩:=kh w' I (dT w' T g2) (.mp fQ) cy ⟨ve,λc aa aF=>o9 c λe=>aF (e ▸ my),λ_ h=>h,refs⟩ (.mp Dw bg mr) λc h _=>h;have Et:∀ c,c8 c->Fs p.root c:=λc aa=>by
  grind
 let b7:Nat->bb:=λt c=>if t=p.root then c8 c else g2 t≠none/\Fs t c
 have pt:∀ t c,b7 t c->Fs t c:=by
  grind
 refine ⟨b7,⟨λt x J=>?_,λt aw c aa=>?_,λt t' c aa fl=>bj.eI t t' c (pt t c aa) (pt t' c fl),λt c aa hi=>bj.bk t c (pt t c aa) hi,λc aa=>by rw [QA]; exact bj.lt c aa,λt t' z q n m new bC cG m' c3 h1=>absurd h1 (lj _ _ _ _ _ _)⟩,pt⟩
 ·have gg:=zr t x J;by_cases aw:t=p.root
  ·subst aw;have EU:eC.setAt p.path (.mp fQ)=x:=by simpa [cu,iH] using gg
   refine ⟨v0,iQ,.tree ?_⟩
   grind
  ·rw [uK aw] at gg;obtain ⟨u,hu,aY⟩:=bj.rel t x gg;replace aY:=aY.gG (by rintro z q n m new rfl; exact lj _ _ _ _ _ _ J);have Bs:b7 t=Fs t:=by
    grind
   refine ⟨u,hu,.tree ?_⟩;rw [Bs];exact (aY.yh (r_ t x J x gg)).frame ve (λ_ h=>h) refs λc aa=>o9 c λe=>EK t aw (e ▸ aa)
 grind
theorem TH {w:World}{b:Nat}{es hQ:Array MapEntry}{c fS:Nat}(h:w.heap[b]?=some (.map es c)) (a:Addr):(setBlock w b (.map hQ fS)).frozen? a=w.frozen? a:=by
 unfold World.frozen?
 grind [heap_setBlock_same,heap_setBlock_other]
theorem bm.Xn {N:c5}{o:Oper}{t:TypeId}{m x v:Operand}{p:Place}{q fQ:Array MapEntry->Nat->Prop}{Y Z x2:ab}{oj dI:Value}{G2:List (Nat × ab)}(a1:o.op=.mapUpdate t m x v) (aS:o.dst=none) (hm:bs g m=some (.gx p)) (au:bB g p=some (.mp q)) (J:bs g x=some Y) (ax:bs g v=some Z)
  (di:∀ (w:World) (I:bb) (ρ:ab->Value->Prop) (v:Value),R w I ρ Y v cx->v=oj) (H8:∀ (w:World) (I:bb) (ρ:ab->Value->Prop) (v:Value),R w I ρ Z v cx->v=dI)
  (aq:∀ (w:World) (b:Nat) (es:Array MapEntry) (c:Nat),w.heap[b]?=some (.map es c)->q es c->∃ hQ fS,(Instr.mapUpdate t (.map (some b)) oj dI).run P w=.ok () (setBlock w b (.map hQ fS))/\fQ hQ fS)
  (iw:cu g p (.mp fQ) p.root=some x2) (kf:(get G2 p.root).isSome=true) {y0:ab}(rh:g p.root=some y0) [e9:cf y0] (c9:kK g (get G2) p.root x2 G2):bm P N g o (get G2):=by
 refine .KH λw I T Fs h a aP bd K Q zk=>?_;obtain ⟨⟨b,av,hv⟩,_⟩:=(kg h hm aP).OE;obtain ⟨gv,cy,iu,dH,dw⟩:=h.part au (by simp);have jT:=av;rw [av] at iu;cases iu;obtain ⟨eD,es,c,e,bY,bg,mr⟩:=dH.Jv;cases e;obtain ⟨hQ,fS,hT,zx⟩:=aq w eD es c bY bg;have V4:(execOp a.eval o).run P w=.ok .skip (setBlock w eD (.map hQ fS)):=by
  simp [execOp,a1,hv,di _ _ _ _ (kg h J aP),H8 _ _ _ _ (kg h ax aP),hT]
 have c1:∀ t x,get G2 t=some x->cu g p (.mp fQ) t=some x:=λt x J=>by
  rcases c9.spec t x J with ⟨h1,af,_⟩ | ⟨h1,af,_⟩
  ·grind [uK]
  grind
 have c2:∀ t x,get G2 t=some x->∀ y,g t=some y->jo (gC (get G2)) y:=λt x J y ax=>by
  rcases c9.spec t x J with ⟨h1,af,aI⟩ | ⟨h1,af,aI⟩
  ·rw [af] at ax;cases ax;rcases aI with aI | ⟨aI,_⟩
   ·cases aI with
    | n h=>exact .bl h
    | p _ _ bF fW=>exact .ref rfl (uH bF fW)
    | r _ _ bF ob=>exact .ref rfl (Au bF ob)
   ·exact jo.ref (by cases aI; rfl) aI.Fu
  ·subst h1;rw [rh] at ax;cases ax;exact .bl e9.bl
 have jS:∀ t z q n m new,get G2 t≠some (.bL z q n m new):=λt z q n m new J=>by
  rcases c9.spec t _ J with ⟨_,_,aI | ⟨aI,_⟩⟩ | ⟨_,_,aI⟩
  ·exact aI.fx _ _ _ _ _ rfl
  ·exact aI.fx _ _ _ _ _ rfl
  ·cases aI
 obtain ⟨b7,dX,gF⟩:=h.Xm (g2:=get G2) au jT bY zx c1 c2 jS (by intro e; rw [e] at kf; cases kf);unfold Oper.wp Oper.upon;simp only [V4];refine zk _ _ ⟨by rw [aS]; rfl,by rw [aS]; exact hF.refl,I,b7,by rw [aS]; simpa [Act.put,aP] using dX,⟨⟨rfl,rfl,rfl,by simp [setBlock],λk _ hk=>heap_setBlock_other bY _ λe=>hk ⟨_,e ▸ dw eD ((mr eD).2 rfl)⟩,λa _=>TH bY a,Nat.le_refl _⟩,λ_ h=>h,λ_ h=>.inl h,λc ⟨t,aa⟩=>.inl ⟨t,gF t c aa⟩⟩⟩ λt _=>by rw [aS]; rfl
end
end Go.Own
namespace Go.Own
open Go Go.MapKept Go.ChangeMaps Go.WideElems
open Go.Maps (Keyed)
set_option linter.unusedVariables false
variable {kl ly:Type}{P:Program}{k e:TypeId}
abbrev yY:Value->Option (DataW Value × List MemPlace):=λv=>some (.held v,[])
def o4 [DecidableEq kl]:List (kl × ly)->kl->Option ly
 | [],_=>none
 | p::m,x=>if p.1=x then some p.2 else o4 m x
def sk [DecidableEq kl] (ok:kl->Bool) (z:ly) (m:List (kl × ly)) (x:kl):Option ly:=if ok x then some ((o4 m x).getD z) else none
def zP (ok:kl->Bool) (m:List (kl × ly)) (x:kl) (y:ly):Option (List (kl × ly)):=if ok x&&decide (m.length<=lim) then some ((x,y)::m) else none
structure AV (P:Program) (k:TypeId) (kl:Type) where
 oj:kl->Value
 xI:kl->Lit
 Cl:kl->ab
 ok:kl->Bool
 keyed:Keyed P k
 key:∀ x,ok x=true->keyOf P k (oj x)=some (xI x)
 inj:∀ x y,xI x=xI y->x=y
 wI:∀ (x:kl) (w:World) (I:bb) (ρ:ab->Value->Prop) (v:Value),R w I ρ (Cl x) v cx->v=oj x
structure AW (P:Program) (e:TypeId) (ly:Type) where
 o8:ly->Value
 AD:ly->ab
 z:ly
 zero:∀ w,(zeroValue e).run P w=.ok (o8 z) w
 one:∀ x,(o8 x).oneCell'=true
 wI:∀ (x:ly) (w:World) (I:bb) (ρ:ab->Value->Prop) (v:Value),R w I ρ (AD x) v cx->v=o8 x
 va:∀ (x:ly) (w:World) (I:bb) (ρ:ab->Value->Prop),R w I ρ (AD x) (o8 x) cx
def yq (P:Program) (k:TypeId) (es:Array MapEntry):List (Lit × DataW Value):=(es.toList.map (rg P k yY)).foldr DataW.insert []
def lC [DecidableEq kl] (K:AV P k kl) (V:AW P e ly) (m:List (kl × ly)):Array MapEntry->Nat->Prop:=λes c=>Fit P k yY es c/\es.size<=m.length/\∀ x Gy,(DataW.map (yq P k es)).atKey (K.xI x) Gy=match o4 m x with | some y=>.held (V.o8 y) | none=>Gy
variable [DecidableEq kl] {K:AV P k kl}{V:AW P e ly}{m m':List (kl × ly)}{x:kl}{y:ly}{t:TypeId}
theorem lC.nil:lC K V [] #[] 0:=⟨⟨by simp,stamped_empty 0,by simp⟩,Nat.le_refl _,λx Gy=>rfl⟩
theorem lC.look (ok:Bool) (db:K.ok x=true) (aw:P.underlying t=some (.map k e)) (w:World) (b:Nat) (es:Array MapEntry) (c:Nat) (av:w.heap[b]?=some (.map es c)) (h:lC K V m es c) :
  (Instr.lookup t (.map (some b)) (K.oj x) ok).run P w=.ok (if ok then .tuple #[V.o8 ((o4 m x).getD V.z),.bool (o4 m x).isSome] else V.o8 ((o4 m x).getD V.z)) w:=by
 obtain ⟨F,_,gp⟩:=h;have gp:=gp x;rcases Maps.fit_look ok K.keyed aw (V.zero w) av F (K.key x db) with ⟨hT,_,af⟩ | ⟨hc,y,_,_,hT,ax,af,_⟩
 ·have:o4 m x=none:=by
   cases aO:o4 m x with
   | none=>rfl
   | some y =>
    have h1:=gp .nil;rw [aO] at h1;have aI:=af .nil;unfold yq at h1;rw [h1] at aI; cases aI
  rw [hT,this]; rfl
 ·cases ax;cases aO:o4 m x with
  | none =>
   have h1:=gp .nil;rw [aO] at h1;have aI:=af .nil;unfold yq at h1;rw [h1] at aI; cases aI
  | some y =>
   have h1:=gp .nil;rw [aO] at h1;have aI:=af .nil;unfold yq at h1;rw [h1] at aI;have bF:hc.val=V.o8 y:=by simpa using aI.symm
   rw [hT,bF]; rfl
theorem lC.put (aQ:zP K.ok m x y=some m') (aw:P.underlying t=some (.map k e)) (w:World) (b:Nat) (es:Array MapEntry) (c:Nat) (av:w.heap[b]?=some (.map es c)) (h:lC K V m es c) :
  ∃ hQ fS,(Instr.mapUpdate t (.map (some b)) (K.oj x) (V.o8 y)).run P w=.ok () (setBlock w b (.map hQ fS))/\lC K V m' hQ fS:=by
 unfold zP at aQ
 split at aQ
 ·rename_i aa;cases aQ;simp only [Bool.and_eq_true,decide_eq_true_eq] at aa;obtain ⟨db,ak⟩:=aa;obtain ⟨F,aB,gp⟩:=h;have NU:=K.key x db;obtain ⟨hQ,fS,hT,c8,nM,_⟩:=Maps.fit_store (R':=yY) K.keyed aw av F (by have:maxLen=9223372036854775807:=rfl; simp only [lim] at ak; omega) (λ_ _ _ _ aX=>aX) NU (rfl:yY (V.o8 y)=some (.held (V.o8 y),[]));refine ⟨hQ,fS,hT,c8,?_,λx' Gy=>?_⟩
  ·have cv:hQ.size=((hQ.toList.map (rg P k yY)).foldr DataW.insert []).length:=by rw [length_sorted]; simp
   rw [cv,nM];unfold putKey;rw [length_insert];have b9:=List.length_filter_le (notKey (K.xI x)) ((es.toList.map (rg P k yY)).foldr DataW.insert []);rw [length_sorted] at b9;simp at b9 ⊢;omega
  ·have fG:(DataW.map (yq P k hQ))=(DataW.map (yq P k es)).put (K.xI x) (.held (V.o8 y)):=by
    rw [DataW.put_eq]; unfold yq; rw [nM]
   rw [fG];by_cases J:x=x'
   ·subst J;rw [Maps.atKey_put_same ⟨_,rfl⟩ (K.keyed.key NU)];simp [o4]
   ·rw [Maps.atKey_put_other (λe=>J (K.inj _ _ e).symm),gp];simp [o4,J]
 ·cases aQ
section
variable {N:c5}{g:aK}{a b c:Operand}{p:Place}{ty:TypeId}
instance {q:Array MapEntry->Nat->Prop}:cf (.mp q):=⟨.mp⟩
instance {q:Array MapEntry->Nat->Prop}:cf (.imp q):=⟨.imp⟩
instance {q:Array MapEntry->Nat->Prop}:p5 (.mp q):=⟨.mp⟩
theorem O.Xl (K:AV P k kl) (V:AW P e ly):cg P g (.makeMap t none) ty (.mp (lC K V [])):=.rk (.makeMap lC.nil)
theorem O.qA {r:ly}{X Y:ab}(hm:Rd g a (.gx p)) (au:bB g p=some (.mp (lC K V m))) (J:Rd g b Y) (w6:K.Cl x=Y) (aw:P.underlying t=some (.map k e)) (h:sk K.ok V.z m x=some r) (tR:V.AD r=X):cg P g (.lookup t a b false) ty X:=by
 subst tR w6;unfold sk at h
 split at h
 ·rename_i db;cases h;exact .eX (.Fc hm.bs au J.bs (K.wI x) (V.va _) λw b es c av bg=>lC.look false db aw w b es c av bg)
 ·cases h
theorem O.Ct {r:ly}{X Y:ab}(hm:Rd g a (.imp (lC K V m))) (J:Rd g b Y) (w6:K.Cl x=Y) (aw:P.underlying t=some (.map k e)) (h:sk K.ok V.z m x=some r) (tR:V.AD r=X):cg P g (.lookup t a b false) ty X:=by
 subst tR w6;unfold sk at h
 split at h
 ·rename_i db;cases h;exact .eX (.Ct hm.bs J.bs (K.wI x) (V.va _) λw b es c av bg=>lC.look false db aw w b es c av bg)
 ·cases h
theorem bm.mt {o:Oper}{x2 y0 Y Z:ab}{G2:List (Nat × ab)}(a1:o.op=.mapUpdate t a b c) (aS:o.dst=none) (hm:Rd g a (.gx p)) (au:bB g p=some (.mp (lC K V m))) (J:Rd g b Y) (w6:K.Cl x=Y) (ax:Rd g c Z) (H8:V.AD y=Z) (aw:P.underlying t=some (.map k e)) (h:zP K.ok m x y=some m')
  (iw:cu g p (.mp (lC K V m')) p.root=some x2) (kf:(get G2 p.root).isSome=true) (rh:g p.root=some y0) [e9:cf y0] (c9:kK g (get G2) p.root x2 G2):bm P N g o (get G2):=by
 subst w6 H8;exact .Xn a1 aS hm.bs au J.bs ax.bs (K.wI x) (V.wI y) (λw b es c av bg=>lC.put h aw w b es c av bg) iw kf rh c9
end
def si (n:Int):Bool:=decide (-9223372036854775808<=n/\n<9223372036854775808)
def Ra (hk:P.underlying k=some (.int .i64)):AV P k Int where
 oj n:=.int .i64 n
 xI n:=.int .i64 n
 Cl n:=ae n
 ok:=si
 keyed:=Maps.int_keyed hk
 key n h:=Maps.keyOf_int_mk hk (by
  unfold si at h;have:=of_decide_eq_true h;unfold Lit.wf;rw [Bool.and_eq_true];refine ⟨decide_eq_true ?_,decide_eq_true ?_⟩
  ·show (-9223372036854775808:Int)<=n; omega
  ·show n<=(9223372036854775807:Int); omega)
 inj x y h:=by cases h; rfl
 wI x w I ρ v h:=h.hC.1
def Rb (aX:(P.info? e).bind (·.zero)=some (.int .i64 0)):AW P e Int where
 o8 n:=.int .i64 n
 AD n:=ae n
 z:=0
 zero w:=G6 aX w
 one _:=rfl
 wI x w I ρ v h:=h.hC.1
 va x w I ρ:=.lit rfl λ_ h=>h
end Go.Own
namespace Go.Own
open Go
section
variable {α:Type}{P:Program}{N:c5}{g:aK}{d r:Nat}{ty t t2 e:TypeId}{a b:Operand}{k kX:IntKind}{m n:Int}{p:Place}
def OA (L:List α) (m:Int):Option Unit:=if 0<=m/\m<=L.length then some () else none
instance:lB ai:=⟨λx=>[.int .i64 x],λ_=>rfl,λx v hv=>by rw [List.mem_singleton.1 hv]; rfl⟩
theorem O.Qc {en:bK α}{L:List α}{u:Unit}(J:Rd g a (.a6 en.z p L.length)) (ak:Rd g b (.lit (.int k m))) (au:bB g p=some (aj en L)) (aw:fo P t e en.z=true) (h:OA L m=some u):cg P g (.slice t a (some b) none none) ty (.sub en.z p m.toNat (L.length - m.toNat)):=by
 unfold OA at h
 split at h
 ·rename_i aa;obtain ⟨i,rfl⟩:=Int.eq_ofNat_of_zero_le aa.1;exact .eX (.F6 J.bs ⟨_,ak.bs⟩ rfl aw (by omega) (Nat.le_refl _) ⟨_,_,au,by omega⟩)
 ·cases h
def Mn (lo nd:Nat) (L S:List α):Option (List α):=if 0<min S.length nd/\lo+nd<=L.length then some (L.take lo++S.take (min S.length nd)++L.drop (lo+min S.length nd)) else none
def Cw (e:bK α) [h:lB e] (L:List α):List Value:=L.flatMap h.rF
theorem JX (e:bK α) [h:lB e] (L:List α):bo e L=(Cw e L).map .lit:=by
 induction L with
 | nil=>rfl
 | cons x L aU =>
  have:bo e (x::L)=e.cells x++bo e L:=by simp [bo]
  rw [this,aU,h.cells];simp [Cw]
theorem Re.bk {en:bK α}{S:List α}:Src g (ag en S) en.z S.length (bo en S):=.bk
theorem Re.a6 {en:bK α} [lB en] {L:List α}{q:Place}{n:Nat}(bg:bB g q=some (aj en L)) (aF:n<=L.length):Src g (.a6 en.z q n) en.z (L.take n).length (bo en (L.take n)):=by
 have h1:(L.take n).length=n:=by rw [List.length_take]; omega
 have af:bo en (L.take n)=(((bo en L).take (n * en.z)).mapIdx λi x=>gr 0 (q.push i) x):=by
  rw [yi,JX];apply List.ext_getElem?;intro j;rw [List.getElem?_mapIdx];cases ah:((Cw en (L.take n)).map ab.lit)[j]? with
  | none=>rfl
  | some y =>
   obtain ⟨v,_,rfl⟩:=List.mem_map.1 (List.mem_of_getElem? ah);rfl
 rw [h1,af];exact .a6 bg aF
theorem YP {z:Nat}(h:fo P t e z=true):(P.info? e).map (·.size)=some z:=by
 grind [fo]
theorem bm.bp {o:Oper}{en:bK α} [ak:lB en] {L S L':List α}{lo nd:Nat}{K3 fp:ab}{G2:List (Nat × ab)}(a1:o.op=.call { callee:=.builtin .copy,args:=#[a,b],argTypes:=#[t,t2] }) (aS:o.dst=some d) (aP:bs g a=some K3) (WU:K3=.sub en.z ⟨r,[]⟩ lo nd\/(K3=.a6 en.z ⟨r,[]⟩ nd/\lo=0)) (av:bs g b=some fp)
  (r':Src g fp en.z S.length (bo en S)) (aB:g r=some (aj en L)) (zI:en.z=1) (aw:fo P t e 1=true) (h:Mn lo nd L S=some L') (kf:(get G2 r).isSome=true) (c9:kK g (get G2) r (aj en L') G2) (vm:get G2 d=none) (bd:N.ok d=true) :
  bm P N g o (get ((d,ae ((min S.length nd:Nat):Int))::G2)):=by
 unfold Mn at h;by_cases aa:0<min S.length nd/\lo+nd<=L.length
 case neg=>rw [if_neg aa] at h; cases h
 rw [if_pos aa] at h;obtain ⟨lM,acD⟩:=aa;cases h;generalize hk:min S.length nd=k at *;have acC:k<=S.length:=by omega
 have acE:k<=nd:=by omega
 refine .KH λw I T Fs h ca zm Uw K Q zk=>?_;obtain ⟨hu,he,fX⟩:=qK (w:=w) aw;have au:bB g ⟨r,[]⟩=some (aj en L):=by simp [bB,aB,ab.at]
 have Nk:=kg h aP zm;obtain ⟨v0,cy,iQ,dH,dw⟩:=h.part au (by simp);obtain ⟨a0,ZW,rfl,lg,hlen,rb,re⟩:=dH.np;have Us:0<L.length:=by omega
 cases a0 with
 | none=>have:=re Us; simp at this
 | some LD =>
 obtain ⟨BS,BT⟩:=rb LD rfl;obtain ⟨g0,ac6,ac8⟩:=LD;simp only at BS BT;subst BS BT;have my:cy g0:=dH.qC g0 rfl
 -- the target
 have Iq:∃ cap,ca.eval a=.slice (some ⟨g0,lo,none⟩) nd cap:=by
  rcases WU with rfl | ⟨rfl,rfl⟩
  ·obtain ⟨⟨lE,uZ,pj,aD,c1,h1,af,_,_,cF⟩,_⟩:=Nk.xA;rw [h1] at iQ;cases iQ;obtain ⟨ad,cv,b9⟩:=cF (by omega);cases cv;rw [af,b9,zI];exact ⟨c1,by simp⟩
  ·obtain ⟨⟨lE,uZ,pj,h1,af,_⟩,_⟩:=Nk.nh;rw [h1] at iQ;cases iQ;exact ⟨_,af⟩
 obtain ⟨Tb,Iq⟩:=Iq
 -- the source
 obtain ⟨Dk,YB,news,vu,BP,B3,l4,hf,ht,aY⟩:=r'.sound h (kg h av zm);rw [zI,Nat.mul_one] at BP;cases Dk with
 | none=>have:=B3 (by omega) (by omega); simp at this
 | some PV =>
 have acN:news=Cw en S:=by
  rw [JX,List.length_map] at hf;apply List.ext_getElem hf.symm;intro j h1 af;have:=(aY j (.lit (Cw en S)[j]) news[j] (by rw [JX,List.getElem?_map,List.getElem?_eq_getElem af]; rfl) (List.getElem?_eq_getElem h1)).hC.1;exact this
 -- the block
 cases dH with
 | ref J=>simp [ab.isRef] at J
 | @own _ _ _ _ cj us bM _ qo h0 h1 aq n_ iO aN =>
 obtain ⟨l8,bY⟩:=qo;rcases bY with ⟨bY,_⟩ | ⟨eD,cap,cur,bY,wa,lu,As,yd,Dg,Dh⟩
 ·cases bY
 cases bY;have Nz:L.length<=cur.size:=by
  have w5:(cur.toList.take (L.length * en.z)).length=L.length * en.z:=by rw [Dh,l8]
  rw [List.length_take,zI,Nat.mul_one,Array.length_toList] at w5;rw [zI] at Dg;omega
 have EA:(news.take k).length=k:=by rw [List.length_take]; omega
 have hT:(execOp ca.eval o).run P w=.ok (.value (goInt k)) (w.setRow g0 (e5 cur.toList lo (news.take k)).toArray):=by
  have rX:=run_copy_row (P:=P) w t t2 o.type e g0 lo nd Tb PV S.length YB cur cj (news.take k) hu (YP aw) lu (by rw [EA]; exact hk.symm) (λj v ah=>by
   rw [List.getElem?_take] at ah
   split at ah
   ·exact l4 PV rfl j v ah
   ·cases ah) (by rw [EA]; omega) (λv hv=>by
   obtain ⟨j,ah⟩:=List.getElem?_of_mem (List.mem_of_mem_take hv);exact ht j v ah)
  rw [EA] at rX;have rR:(cur.toList.take lo++news.take k++cur.toList.drop (lo+k))=e5 cur.toList lo (news.take k):=by unfold e5; rw [EA]
  rw [rR] at rX;simp [execOp,a1,resolve,invoke,Iq,vu,builtin,rX]
 -- the state
 have V1:∀ (j:Nat) (x:ab) (u:Value),((bo en S).take k)[j]?=some x->(news.take k)[j]?=some u->R w I (fz w T) x u cx:=λj x u J hu=>by
  rw [List.getElem?_take] at J hu
  split at J
  ·rename_i ah;rw [if_pos ah] at hu;exact (aY j x u J hu).frame (λ_ _=>rfl) (λ_ h=>h) (λ_ _ h=>h.1) λ_ _=>rfl
  ·cases J
 have hH:Hand w I (fz w T) Fs ((bo en S).take k) (news.take k) (λ_=>cx) :=
  ⟨by rw [List.length_take,List.length_take,hf],V1,λ_ _ _ _ _ h=>h.elim,λ_ _ _ _ h=>h.elim,λ_ _ _ h=>h.elim⟩
 have Ny:((bo en S).take k).length=k:=by rw [List.length_take,hf]; omega
 have Ur:(bo en L).length=L.length:=by rw [nq,zI,Nat.mul_one]
 have r6:(aj en L).e5 lo ((bo en S).take k)=aj en (L.take lo++S.take k++L.drop (lo+k)):=by
  show ab.own en.z L.length (e5 (bo en L) lo ((bo en S).take k))=_;have cv:e5 (bo en L) lo ((bo en S).take k)=bo en (L.take lo++S.take k++L.drop (lo+k)):=by
   unfold e5;rw [Ny,FQ,FQ];have lT:=yi en L lo;have FH:=yi en S k;have Df:=Ax en L (lo+k);rw [zI,Nat.mul_one] at lT FH Df;rw [lT,FH,Df]
  unfold aj;rw [cv];congr 1;simp; omega
 have VS:∀ (j:Nat) (u:Value),(news.take k)[j]?=some u->u.oneCell'=true:=λj u hu=>by
  rw [List.getElem?_take] at hu
  split at hu
  ·exact ht j u hu
  ·cases hu
 have c1:∀ t x,get G2 t=some x->cu g ⟨r,[]⟩ ((aj en L).e5 lo ((bo en S).take k)) t=some x:=λt x J=>by
  rw [r6];rcases c9.spec t x J with ⟨h1,af,_⟩ | ⟨h1,af,_⟩
  ·rw [uK h1]; exact af
  ·subst h1 af; simp [cu,aB,ab.setAt]
 have c2:∀ t x,get G2 t=some x->∀ y,g t=some y->jo (λq=>gC g q/\Clear ⟨r,[]⟩ lo ((bo en S).take k).length q/\gC (get G2) q) y:=λt x J y ax=>by
  rcases c9.spec t x J with ⟨h1,af,aI⟩ | ⟨h1,af,aI⟩
  ·rw [af] at ax; cases ax;rcases aI with aI | ⟨_,c2,Tj⟩
   ·exact aI.Kr
   ·cases Tj
  ·subst h1; rw [aB] at ax; cases ax; exact .bl (.own (pU en L))
 have jS:∀ t z q n m new,get G2 t≠some (.bL z q n m new):=λt z q n m new J=>by
  rcases c9.spec t _ J with ⟨_,_,aI | ⟨aI,_⟩⟩ | ⟨_,_,aI⟩
  ·exact aI.fx _ _ _ _ _ rfl
  ·exact aI.fx _ _ _ _ _ rfl
  ·cases aI
 obtain ⟨i_,h',gF⟩:=h.mH.store (g2:=get G2) au (.inl rfl) (k:=lo) (cs':=(bo en S).take k) (by rw [Ny,Ur]; omega) hH (λx J=>pU en S x (List.mem_of_mem_take J)) VS c1 c2 jS (by intro e; rw [e] at kf; cases kf) iQ rfl lu;have nM:=h'.uG (d:=d) (x:=ae (k:Int)) (v:=goInt k) (F:=cx) vm (by rw [<- zm,Uw]; exact c5.lt bd) (.tree (.lit rfl λ_ h=>h)) (λ_ _ h=>h.elim) (λ_ h=>h.elim) (by rintro z p n m new e; cases e);unfold Oper.wp Oper.upon;simp only [hT];have rR:get ((d,ae (k:Int))::G2)=cV (get G2) d (ae (k:Int)):=by
  funext t;rw [sG]
 rw [<- rR] at nM;have tY:∃ t,Fs t g0:=⟨_,dw g0 my⟩;refine zk _ _ ⟨by rw [aS]; rfl,by rw [aS]; exact hF.put bd _ _,I,_,by rw [aS]; simpa [Act.put,zm] using nM,⟨⟨rfl,rfl,rfl,by simp,λc _ aa=>setRow_other w g0 c _ (λe=>aa (e ▸ tY)),λa _=>HH w g0 _ a,Nat.le_refl _⟩,λ_ h=>h,λ_ h=>.inl h,λc aa=>?_⟩⟩ λt aw=>by rw [aS]; simp only [Act.put]; rw [Array.getElem?_setIfInBounds_ne]; rintro rfl; exact aw aS
 obtain ⟨t,aa⟩:=aa;simp only [uP] at aa
 split at aa
 ·exact aa.elim
 ·rcases gF t c aa with jc | ⟨_,_,jc⟩
  ·exact .inl ⟨t,jc⟩
  ·exact jc.elim
end
end Go.Own
namespace Go.Own
open Go
def FP (ey:List Nat) (o:Oper):Oper:=⟨o.dst,o.op,o.type,o.pos,o.after.map λe=>⟨ey.idxOf e.on,e.ground⟩,o.guard.map λp=>(ey.idxOf p.1,p.2)⟩
def lr (ey:List Nat) (l:List Oper):List Oper:=ey.map λk=>FP ey (l.getD k default)
def J9 (ey:List Nat) (n:Nat):Bool:=Nat.beq ey.length n&&(List.range n).all λk=>ey.contains k&&Nat.blt (ey.getD k n) n&&Nat.beq (ey.idxOf (ey.getD k n)) k
structure Perm (ey:List Nat) (n:Nat):Prop where
 len:ey.length=n
 mem:∀ k,k<n->ey.idxOf k<n/\ey.getD (ey.idxOf k) n=k
 lt:∀ j,j<n->ey.getD j n<n/\ey.idxOf (ey.getD j n)=j
theorem XW {ey:List Nat}{n:Nat}(h:J9 ey n=true):Perm ey n:=by
 unfold J9 at h;simp only [Bool.and_eq_true,Nat.beq_eq,List.all_eq_true,List.mem_range,Nat.blt_eq] at h;obtain ⟨ak,hS⟩:=h;refine ⟨ak,λk hk=>?_,λj ah=>⟨(hS j ah).1.2,(hS j ah).2⟩⟩
 grind
section
variable {P:Program}{Q:Exit->Act->World->Prop}{ey:List Nat}{l:List Oper}
theorem J_ (jW:Perm ey l.length) {j:Nat}(ah:j<l.length):(lr ey l).toArray[j]?=some (FP ey (l.getD (ey.getD j l.length) default))/\l.toArray[ey.getD j l.length]?=some (l.getD (ey.getD j l.length) default):=by
 have h1:j<ey.length:=by rw [jW.len]; exact ah
 have af:=(jW.lt j ah).1
 grind [lr]
theorem Pu (jW:Perm ey l.length) {A B:Array Bool}(ev:A.size=l.length) (fg:B.size=l.length) (sI:∀ j,j<l.length->B.getD j true=A.getD (ey.getD j l.length) true) {j:Nat}(ah:j<l.length) :
  ey.getD j l.length∈Region.ready .any l.toArray A↔j∈Region.ready .any (lr ey l).toArray B:=by
 obtain ⟨h1,af⟩:=J_ jW ah;have ac9:∀ {C:Array Bool}{k:Nat},k<C.size->C.getD k false=C.getD k true:=λ{C k} h=>by simp [Array.getD,h]
 have gone:∀ {C:Array Bool}{k:Nat},¬ k<C.size->C.getD k false=false:=λ{C k} h=>by simp [Array.getD,h]
 have Mz:∀ m,A.getD m false=true↔B.getD (ey.idxOf m) false=true:=λm=>by
  by_cases hm:m<l.length
  ·obtain ⟨aI,bF⟩:=jW.mem m hm
   grind
  ·have cF:¬ ey.idxOf m<l.length:=λh=>by
    have ej:=List.idxOf_lt_length_iff.1 (by rw [jW.len]; exact h);obtain ⟨i,hi,e⟩:=List.mem_iff_getElem.1 ej;have:=(jW.lt i (by rw [<- jW.len]; exact hi)).1
    grind
   grind
 rw [mem_ready,mem_ready,sI j ah];constructor
 ·rintro ⟨a,o,a1,h⟩;rw [af] at a1;cases a1;refine ⟨a,_,h1,λe he av=>?_⟩;obtain ⟨hc,Vm,rfl⟩:=Array.mem_map.1 he;exact (Mz _).1 (h hc Vm av)
 ·rintro ⟨a,o,a1,h⟩;rw [h1] at a1;cases a1;refine ⟨a,_,af,λe he av=>?_⟩;exact (Mz _).2 (h ⟨ey.idxOf e.on,e.ground⟩ (Array.mem_map.2 ⟨e,he,rfl⟩) av)
theorem XY (jW:Perm ey l.length) (o:Oper) (T:Array Value):Region.wanted (FP ey o) (yielded (lr ey l).toArray T)=Region.wanted o (yielded l.toArray T):=by
 unfold Region.wanted FP;cases aO:o.guard with
 | none=>rfl
 | some p =>
  obtain ⟨m,b⟩:=p;simp only [Option.map_some];have:yielded (lr ey l).toArray T (ey.idxOf m)=yielded l.toArray T m:=by
   unfold yielded;by_cases hm:m<l.length
   ·obtain ⟨aI,bF⟩:=jW.mem m hm;obtain ⟨h1,af⟩:=J_ jW aI;rw [bF] at h1 af;rw [h1,af];rfl
   ·have cF:¬ ey.idxOf m<l.length:=λh=>by
     have ej:=List.idxOf_lt_length_iff.1 (by rw [jW.len]; exact h);obtain ⟨i,hi,e⟩:=List.mem_iff_getElem.1 ej;have:=(jW.lt i (by rw [<- jW.len]; exact hi)).1
     grind
    have cv:(lr ey l).toArray[ey.idxOf m]?=none:=by
     rw [List.getElem?_toArray];exact List.getElem?_eq_none (by simp [lr,jW.len]; omega)
    grind
  rw [this]
theorem XX (jW:Perm ey l.length):∀ (fuel:Nat) (A B:Array Bool) (a:Act) (w:World),A.size=l.length->B.size=l.length->(∀ j,j<l.length->B.getD j true=A.getD (ey.getD j l.length) true) ->
  wpAny P .any (lr ey l).toArray Q fuel B a w->wpAny P .any l.toArray Q fuel A a w:=by
 have lift:∀ {A B:Array Bool},A.size=l.length->B.size=l.length->(∀ j,j<l.length->B.getD j true=A.getD (ey.getD j l.length) true)->∀ k,k∈Region.ready .any l.toArray A->∃ j,j<l.length/\ey.getD j l.length=k/\j∈Region.ready .any (lr ey l).toArray B:=λ{A B} ev fg sI k hk=>by
  have fu:k<l.length:=by
   grind [mem_ready]
  obtain ⟨aI,bF⟩:=jW.mem k fu
  grind [Pu]
 have nil:∀ {A B:Array Bool},A.size=l.length->B.size=l.length->(∀ j,j<l.length->B.getD j true=A.getD (ey.getD j l.length) true)->Region.ready .any l.toArray A=[]->Region.ready .any (lr ey l).toArray B=[]:=λ{A B} ev fg sI h=>by
  cases aq:Region.ready .any (lr ey l).toArray B with
  | nil=>rfl
  | cons j r =>
   have ah:j∈Region.ready .any (lr ey l).toArray B:=by rw [aq]; simp
   have eZ:j<l.length:=by
    grind [mem_ready]
   have:=(Pu jW ev fg sI eZ).2 ah
   grind
 intro fuel
 induction fuel with
 | zero =>
  intro A B a w ev fg sI h;refine ⟨?_,h.2⟩;cases aq:Region.ready .any l.toArray A with
  | nil=>rfl
  | cons k r =>
   obtain ⟨j,_,_,ah⟩:=lift ev fg sI k (by rw [aq]; simp);rw [h.1] at ah;cases ah
 | succ fuel aU =>
  intro A B a w ev fg sI h;refine ⟨λaq=>h.1 (nil ev fg sI aq),λk hk=>?_⟩;obtain ⟨j,eZ,rfl,ah⟩:=lift ev fg sI k hk;have aB:=h.2 j ah;obtain ⟨h1,af⟩:=J_ jW eZ;have T8:∀ i,i<l.length->(B.setIfInBounds j true).getD i true=(A.setIfInBounds (ey.getD j l.length) true).getD (ey.getD i l.length) true:=λi hi=>by
   have aT:=(jW.lt j eZ).1;have IK:=(jW.lt i hi).1;have e:∀ (C:Array Bool) (p q:Nat),p<C.size->q<C.size->(C.setIfInBounds p true).getD q true=if q=p then true else C.getD q true:=λC p q au bg=>by
    by_cases h:q=p
    ·simp_all
    ·rw [if_neg h];simp [Array.getD,bg,Array.getElem_setIfInBounds_ne,Ne.symm h]
   rw [e B j i (by omega) (by omega),e A _ _ (by omega) (by omega),sI i hi];by_cases h:i=j
   ·grind
   ·rw [if_neg h,if_neg];intro aR;have:=(jW.lt i hi).2;rw [aR,(jW.lt j eZ).2] at this
    grind
  have mono:∀ a w,wpAny P .any (lr ey l).toArray Q fuel (B.setIfInBounds j true) a w->wpAny P .any l.toArray Q fuel (A.setIfInBounds (ey.getD j l.length) true) a w:=λa w aR=>aU _ _ a w (by simpa using ev) (by simpa using fg) T8 aR;unfold wpOp at aB ⊢;rw [af];rw [h1] at aB;simp only [XY jW] at aB;show if Region.wanted (l.getD (ey.getD j l.length) default) (yielded l.toArray a.tmps)=true then _ else _
  split
  ·rename_i hw;rw [if_pos hw] at aB;exact aB.imp (λaR=>Oper.wp_mono mono aR) id
  ·rename_i hw;rw [if_neg hw] at aB;exact mono _ _ aB
end
section
variable {P:Program}{N:c5}
theorem W.Yb {id:Nat}{l:List Oper}{G:List (Nat × ab)}{Φ:Exit->aK->Prop}(ey:List Nat) (bf:List (List Nat)) (G1:List (Nat × ab)) (hm:P.follows .mixedOrders=true) (ev:ph (lr ey l).toArray bf=true) (jW:J9 ey l.length=true)
  (h:bz P N (lr ey l).toArray bf (get G) 0 [] (lr ey l) λg'=>kq g' (get G1)) (hk:aC .normal Φ G1):W P N (.region id l.toArray true) (get G) Φ:=by
 have au:=XW jW;obtain ⟨g',h1,af⟩:=h [] 0 .nil .nil (by simp);have fX:(lr ey l).toArray.size=l.length:=by simp [lr,au.len]
 refine gf.w (g':=g') (e:=.normal) ?_ (hk g' (.eY af .h3));intro Q a w I Fs bj bd dP;refine wp_region_any hm ?_;have dX:cH w.drew I a.tmps (get G) Fs:=bj.world (λ_ _ _=>rfl) (λ_ _=>rfl) (Nat.le_refl _);have hS:∀ k,dQ (Array.replicate (lr ey l).toArray.size false) k=false:=by
  intro k;unfold dQ;rcases Nat.lt_or_ge k (lr ey l).toArray.size with h | h
  ·simp_all
  grind
 refine XX au _ _ (Array.replicate l.length false) a w.drew (by simp) (by simp) (λj ah=>?_) ?_
 ·have:=(au.lt j ah).1
  simp_all
 have w5:=h1.sound ev .nil (lr ey l).toArray.size (Array.replicate (lr ey l).toArray.size false) a w.drew I Fs ?_ (by simp) (λk hk=>by omega) (λk _=>hS k) (λk hk=>by rw [hS] at hk; cases hk) dX bd (λca w' aF=>dP _ _ ?_)
 ·grind
 ·grind [hr]
 ·obtain ⟨cv,b9,I',b7,h',b0⟩:=aF;exact ⟨cv,b9,I',b7,h',⟨⟨b0.eT.os,b0.eT.tape,b0.eT.output,b0.eT.size,b0.eT.block,b0.eT.dN,Nat.le_trans (Nat.le_succ _) b0.eT.w0⟩,b0.more,b0.new,b0.own⟩⟩
end
end Go.Own
namespace Go.Own
open Go
section
variable {α:Type}{P:Program}{N:c5}{g:aK}{a b:Operand}{t:TypeId}{m i:Int}
end
end Go.Own
namespace Go.Own
open Go
section
variable {P:Program}{N:c5}{ops:Array Oper}{bf:List (List Nat)}{acc:Acc}{l:List Oper}{K:aK->Prop}{i d:Nat}
theorem bz.L4 (bG:Nat) {G G2:List (Nat × ab)}{o:Oper}{x:ab}(he:iy P N (dg (get G) (λm=>(bf.getD bG []).contains m) acc) o (cV (get G2) d x)) (aO:o.guard=none) (gR:Cy (acc.filterMap j0)=true) (fH:ma G=true) (ah:Nat.beq ops.size (bG+l.length+1)=true)
  (f':acc.filter (λe=>!(bf.getD bG []).contains e.1)=[])
  (av:(List.range ops.size).all (λk=>Nat.ble k bG||(bf.getD k []).contains bG)=true) (hk:bz P N ops bf (get ((d,x)::G2)) (bG+1) [] l K):bz P N ops bf (get G) i acc (o::l) K :=
 .wO bG (sG ▸ he) aO gR fH ah f' av hk
end
end Go.Own
namespace Go.Proofs
open Tryz
open Go Go.Shelf Go.RowKit Go.Lib Go.Sort Go.Own
def Tryz.YW:Go.Shelf.Ren:=⟨fun | 6=>56 | 15=>75 | 14=>74 | 28=>101 | 29=>102 | 20=>93 | 21=>94 | 22=>95 | 23=>96 | 24=>97 | 25=>98 | 26=>99 | 27=>100 | 46=>128 | 47=>129 | 48=>130 | 49=>131 | 50=>132 | 57=>142 | n=>n,fun | 22=>47 | 24=>111 | 25=>130 | 3=>3 | 39=>160 | 0=>0 | 53=>190 | 55=>192 | 4=>4 | 46=>184 | 45=>183 | 50=>59 | 5=>5 | 9=>9 | 66=>217 | 70=>221 | 76=>230 | 77=>176 | n=>n,fun | n=>n⟩
theorem Tryz.YV:Go.Proofs.SlLaysF0.n6 prog Tryz.YW:={
 mixed:=by kernel_rfl
 f6:=⟨Tryz.f56.name,by decide,func56.trans (congrArg some (by kernel_rfl))⟩
 f14:=⟨Tryz.f74.name,by decide,func74.trans (congrArg some (by kernel_rfl))⟩
 f15:=func75.trans (congrArg some (by kernel_rfl))
 f20:=⟨Tryz.f93.name,by decide,func93.trans (congrArg some (by kernel_rfl))⟩
 f21:=⟨Tryz.f94.name,by decide,func94.trans (congrArg some (by kernel_rfl))⟩
 f22:=⟨Tryz.f95.name,by decide,func95.trans (congrArg some (by kernel_rfl))⟩
 f23:=⟨Tryz.f96.name,by decide,func96.trans (congrArg some (by kernel_rfl))⟩
 f24:=⟨Tryz.f97.name,by decide,func97.trans (congrArg some (by kernel_rfl))⟩
 f25:=⟨Tryz.f98.name,by decide,func98.trans (congrArg some (by kernel_rfl))⟩
 f26:=⟨Tryz.f99.name,by decide,func99.trans (congrArg some (by kernel_rfl))⟩
 f27:=⟨Tryz.f100.name,by decide,func100.trans (congrArg some (by kernel_rfl))⟩
 f28:=func101.trans (congrArg some (by kernel_rfl))
 f29:=func102.trans (congrArg some (by kernel_rfl))
 f46:=⟨Tryz.f128.name,by decide,func128.trans (congrArg some (by kernel_rfl))⟩
 f47:=func129.trans (congrArg some (by kernel_rfl))
 f48:=func130.trans (congrArg some (by kernel_rfl))
 f49:=⟨Tryz.f131.name,by decide,func131.trans (congrArg some (by kernel_rfl))⟩
 f50:=⟨Tryz.f132.name,by decide,func132.trans (congrArg some (by kernel_rfl))⟩
 f57:=⟨Tryz.f142.name,by decide,func142.trans (congrArg some (by kernel_rfl))⟩
 t0:=Tryz.underlying0
 a0:=Tryz.isAgg0
 z0:=Tryz.sizeOf0
 v0:=Tryz.zeroValue0
 t3:=Tryz.underlying3
 a3:=Tryz.isAgg3
 z3:=Tryz.sizeOf3
 v3:=Tryz.zeroValue3
 t4:=Tryz.underlying4
 a4:=Tryz.isAgg4
 z4:=Tryz.sizeOf4
 v4:=Tryz.zeroValue4
 t5:=Tryz.underlying5
 a5:=Tryz.isAgg5
 z5:=Tryz.sizeOf5
 v5:=Tryz.zeroValue5
 t9:=Tryz.underlying9
 a9:=Tryz.isAgg9
 z9:=Tryz.sizeOf9
 v9:=Tryz.zeroValue9
 t22:=Tryz.underlying47
 a22:=Tryz.isAgg47
 z22:=Tryz.sizeOf47
 v22:=Tryz.zeroValue47
 t25:=Tryz.underlying130
 a25:=Tryz.isAgg130
 z25:=Tryz.sizeOf130
 v25:=Tryz.zeroValue130
 t39:=Tryz.underlying160
 a39:=Tryz.isAgg160
 z39:=Tryz.sizeOf160
 v39:=Tryz.zeroValue160
 t45:=Tryz.underlying183
 a45:=Tryz.isAgg183
 z45:=Tryz.sizeOf183
 v45:=Tryz.zeroValue183
 t46:=Tryz.underlying184
 a46:=Tryz.isAgg184
 z46:=Tryz.sizeOf184
 v46:=Tryz.zeroValue184
 t50:=Tryz.underlying59
 a50:=Tryz.isAgg59
 z50:=Tryz.sizeOf59
 v50:=Tryz.zeroValue59
 t53:=Tryz.underlying190
 a53:=Tryz.isAgg190
 z53:=Tryz.sizeOf190
 v53:=Tryz.zeroValue190
 t55:=Tryz.underlying192
 a55:=Tryz.isAgg192
 z55:=Tryz.sizeOf192
 v55:=Tryz.zeroValue192
 t66:=Tryz.underlying217
 a66:=Tryz.isAgg217
 z66:=Tryz.sizeOf217
 v66:=Tryz.zeroValue217
 t70:=Tryz.underlying221
 a70:=Tryz.isAgg221
 z70:=Tryz.sizeOf221
 v70:=Tryz.zeroValue221
 t76:=Tryz.underlying230
 a76:=Tryz.isAgg230
 z76:=Tryz.sizeOf230
 v76:=Tryz.zeroValue230
 t77:=Tryz.underlying176
 a77:=Tryz.isAgg176
 z77:=Tryz.sizeOf176
 v77:=Tryz.zeroValue176 }
def Tryz.YS:Go.Shelf.Ren:=⟨fun | 6=>70 | 15=>75 | 14=>90 | 28=>101 | 29=>102 | 20=>119 | 21=>120 | 22=>121 | 23=>122 | 24=>123 | 25=>124 | 26=>125 | 27=>126 | 46=>139 | 47=>129 | 48=>130 | 49=>140 | 50=>141 | 57=>147 | n=>n,fun | 22=>27 | 24=>3 | 25=>85 | 3=>3 | 39=>160 | 0=>0 | 53=>190 | 55=>192 | 4=>4 | 46=>184 | 45=>183 | 50=>59 | 5=>5 | 9=>9 | 66=>217 | 70=>221 | 76=>230 | 77=>176 | n=>n,fun | n=>n⟩
theorem Tryz.KM:Go.Proofs.SlLaysF.n6 prog Tryz.YS:={
 mixed:=by kernel_rfl
 f6:=⟨Tryz.f70.name,by decide,func70.trans (congrArg some (by kernel_rfl))⟩
 f14:=⟨Tryz.f90.name,by decide,func90.trans (congrArg some (by kernel_rfl))⟩
 f15:=func75.trans (congrArg some (by kernel_rfl))
 f20:=⟨Tryz.f119.name,by decide,func119.trans (congrArg some (by kernel_rfl))⟩
 f21:=⟨Tryz.f120.name,by decide,func120.trans (congrArg some (by kernel_rfl))⟩
 f22:=⟨Tryz.f121.name,by decide,func121.trans (congrArg some (by kernel_rfl))⟩
 f23:=⟨Tryz.f122.name,by decide,func122.trans (congrArg some (by kernel_rfl))⟩
 f24:=⟨Tryz.f123.name,by decide,func123.trans (congrArg some (by kernel_rfl))⟩
 f25:=⟨Tryz.f124.name,by decide,func124.trans (congrArg some (by kernel_rfl))⟩
 f26:=⟨Tryz.f125.name,by decide,func125.trans (congrArg some (by kernel_rfl))⟩
 f27:=⟨Tryz.f126.name,by decide,func126.trans (congrArg some (by kernel_rfl))⟩
 f28:=func101.trans (congrArg some (by kernel_rfl))
 f29:=func102.trans (congrArg some (by kernel_rfl))
 f46:=⟨Tryz.f139.name,by decide,func139.trans (congrArg some (by kernel_rfl))⟩
 f47:=func129.trans (congrArg some (by kernel_rfl))
 f48:=func130.trans (congrArg some (by kernel_rfl))
 f49:=⟨Tryz.f140.name,by decide,func140.trans (congrArg some (by kernel_rfl))⟩
 f50:=⟨Tryz.f141.name,by decide,func141.trans (congrArg some (by kernel_rfl))⟩
 f57:=⟨Tryz.f147.name,by decide,func147.trans (congrArg some (by kernel_rfl))⟩
 t0:=Tryz.underlying0
 a0:=Tryz.isAgg0
 z0:=Tryz.sizeOf0
 v0:=Tryz.zeroValue0
 t3:=Tryz.underlying3
 a3:=Tryz.isAgg3
 z3:=Tryz.sizeOf3
 v3:=Tryz.zeroValue3
 t4:=Tryz.underlying4
 a4:=Tryz.isAgg4
 z4:=Tryz.sizeOf4
 v4:=Tryz.zeroValue4
 t5:=Tryz.underlying5
 a5:=Tryz.isAgg5
 z5:=Tryz.sizeOf5
 v5:=Tryz.zeroValue5
 t9:=Tryz.underlying9
 a9:=Tryz.isAgg9
 z9:=Tryz.sizeOf9
 v9:=Tryz.zeroValue9
 t22:=Tryz.underlying27
 a22:=Tryz.isAgg27
 z22:=Tryz.sizeOf27
 v22:=Tryz.zeroValue27
 a24:=Tryz.isAgg3
 z24:=Tryz.sizeOf3
 t25:=Tryz.underlying85
 a25:=Tryz.isAgg85
 z25:=Tryz.sizeOf85
 v25:=Tryz.zeroValue85
 t39:=Tryz.underlying160
 a39:=Tryz.isAgg160
 z39:=Tryz.sizeOf160
 v39:=Tryz.zeroValue160
 t45:=Tryz.underlying183
 a45:=Tryz.isAgg183
 z45:=Tryz.sizeOf183
 v45:=Tryz.zeroValue183
 t46:=Tryz.underlying184
 a46:=Tryz.isAgg184
 z46:=Tryz.sizeOf184
 v46:=Tryz.zeroValue184
 t50:=Tryz.underlying59
 a50:=Tryz.isAgg59
 z50:=Tryz.sizeOf59
 v50:=Tryz.zeroValue59
 t53:=Tryz.underlying190
 a53:=Tryz.isAgg190
 z53:=Tryz.sizeOf190
 v53:=Tryz.zeroValue190
 t55:=Tryz.underlying192
 a55:=Tryz.isAgg192
 z55:=Tryz.sizeOf192
 v55:=Tryz.zeroValue192
 t66:=Tryz.underlying217
 a66:=Tryz.isAgg217
 z66:=Tryz.sizeOf217
 v66:=Tryz.zeroValue217
 t70:=Tryz.underlying221
 a70:=Tryz.isAgg221
 z70:=Tryz.sizeOf221
 v70:=Tryz.zeroValue221
 t76:=Tryz.underlying230
 a76:=Tryz.isAgg230
 z76:=Tryz.sizeOf230
 v76:=Tryz.zeroValue230
 t77:=Tryz.underlying176
 a77:=Tryz.isAgg176
 z77:=Tryz.sizeOf176
 v77:=Tryz.zeroValue176 }
theorem YR {g:FuncId}{caps:List ab} [xe:dp caps] (aO:gN prog g=true) {l r:List Int}{fT:Int->Int->Option Int}(h:pW fT l=some r)
  (aa:∀ a b v,fT a b=some v->bU prog g (ae a::ae b::caps) (none::none::caps.map λ_=>none) (ae v)) :
  bU prog 70 [aj ai l,.cX (.func g) [] caps] [some (aj ai r),none] (.bW []):=bU.KM Tryz.KM aO h aa
open Go Go.Own
set_option maxRecDepth 100000
set_option linter.unusedVariables false
def CO (a0:Int):Option (Bool) :=
 ((bif decide (97<=a0) then (bif decide (a0<=122) then some true else (bif decide (65<=a0) then (bif decide (a0<=90) then some true else some (decide (a0=95))) else some (decide (a0=95)))) else (bif decide (65<=a0) then (bif decide (a0<=90) then some true else some (decide (a0=95))) else some (decide (a0=95))))).bind λkN =>
 some kN
def CP (a0:Int):Option (Bool) :=
 ((bif decide (48<=a0) then some (decide (a0<=57)) else some false)).bind λc2 =>
 some c2
def CN (a0:ByteArray) (aD:Int):Option (Int) :=
 (b1 (R:=Int) (λ(s1:Int) =>
 ((bif decide (aJ (aD+s1)<(a0.size:Int)) then ((kr a0 (aJ (aD+s1))).bind λbS=>((CO bS).bind λbw=>(bif bw then some true else (bif decide (0<s1) then ((kr a0 (aJ (aD+s1))).bind λcw=>((CP cw).bind λbJ=>(bif bJ then some true else ((kr a0 (aJ (aD+s1))).bind λew=>some (decide (ew=46)))))) else some false)))) else some false)).bind λjI =>
 (bif jI then
 some (.inl (aJ (s1+1)))
 else
 some (.inr s1))) 0).bind λx2 =>
 some x2
def vS (a0:ByteArray):Option (Bool) :=
 ((bif decide (1<=(a0.size:Int)) then (bif decide ((a0.size:Int)<=20) then ((CN a0 0).bind λa7=>some (decide (a7=(a0.size:Int)))) else some false) else some false)).bind λc4 =>
 some c4
def z_ (a0:Int):Option (Int × Bool) :=
 (bif decide (a0=10) then
 some (110,true)
 else
 (bif decide (a0=9) then
 some (116,true)
 else
 (bif decide (a0=13) then
 some (114,true)
 else
 ((bif decide (a0=92) then
 some (decide (a0=92))
 else
 some (decide (a0=39)))).bind λJB =>
 (bif JB then
 some (a0,true)
 else
 ((bif decide (32<=a0) then some (0,decide (a0<=126)) else some (0,false))).bind λtG =>
 some (tG.1,tG.2)))))
structure Sym where
 Name:ByteArray
 Lit:Bool
 bR:Int
 At:Int
 deriving DecidableEq,Inhabited
def dD:bK Sym:=⟨4,λx=>[ay x.Name,a_ x.Lit,ae x.bR,ae x.At],λ_=>rfl,λ_=>dp.bl⟩
instance:Flat dD:=⟨λ_=>rfl⟩
instance:lZ dD:=⟨λx=>(inferInstance:jC [ay x.Name,a_ x.Lit,ae x.bR,ae x.At])⟩
instance:gV dD dD:=⟨rfl,λx=>(inferInstance:dr [ay x.Name,a_ x.Lit,ae x.bR,ae x.At] [ay x.Name,a_ x.Lit,ae x.bR,ae x.At])⟩
instance {x:Sym}:dr (dD.cells x) [ay x.Name,a_ x.Lit,ae x.bR,ae x.At]:=(inferInstance:dr [ay x.Name,a_ x.Lit,ae x.bR,ae x.At] [ay x.Name,a_ x.Lit,ae x.bR,ae x.At])
def uB (a0:Sym) (aD:Bool) (a2:Bool):Option (Bool) :=
 (bif a0.Lit then
 ((bif !a2 then some true else (bif !decide ((a0.Name.size:Int)=1) then some true else some (!decide (a0.bR=0))))).bind λc4 =>
 (bif c4 then
 some false
 else
 (kr a0.Name 0).bind λbw =>
 (z_ bw).bind λbQ =>
 some bQ.2)
 else
 (((vS a0.Name).bind λb6=>(bif b6 then (bif decide (a0.bR=0) then some true else (bif aD then (bif decide (1<=a0.bR) then some (decide (a0.bR<=50000)) else some false) else some false)) else some false))).bind λjI =>
 some jI)
structure Decl where
 Kind:Int
 Tag:ByteArray
 eN:(List Sym)
 At:Int
 deriving DecidableEq,Inhabited
def dy:bK Decl:=⟨4,λx=>[ae x.Kind,ay x.Tag,ag dD x.eN,ae x.At],λ_=>rfl,λ_=>dp.bl⟩
instance:Flat dy:=⟨λ_=>rfl⟩
instance:gV dy dy:=⟨rfl,λx=>(inferInstance:dr [ae x.Kind,ay x.Tag,ag dD x.eN,ae x.At] [ae x.Kind,ay x.Tag,ag dD x.eN,ae x.At])⟩
instance {x:Decl}:dr (dy.cells x) [ae x.Kind,ay x.Tag,ag dD x.eN,ae x.At]:=(inferInstance:dr [ae x.Kind,ay x.Tag,ag dD x.eN,ae x.At] [ae x.Kind,ay x.Tag,ag dD x.eN,ae x.At])
def xY (a0:Decl):Option (Bool) :=
 ((bif decide (a0.Kind<1) then some true else (bif decide (6<a0.Kind) then some true else (bif decide ((a0.eN.length:Int)=0) then some true else (bif decide (a0.Kind=6) then (bif !decide ((a0.eN.length:Int)=1) then some true else (bif !decide (a0.Tag=⟨#[]⟩) then some true else (bif decide (a0.Kind=5) then (bif decide (a0.Tag=⟨#[]⟩) then some true else some false) else some false))) else (bif decide (a0.Kind=5) then (bif decide (a0.Tag=⟨#[]⟩) then some true else (bif !decide (a0.Tag=⟨#[]⟩) then ((vS a0.Tag).bind λew=>some (!ew)) else some false)) else (bif !decide (a0.Tag=⟨#[]⟩) then ((vS a0.Tag).bind λed=>some (!ed)) else some false))))))).bind λtD =>
 (bif tD then
 some false
 else
 (b1 (R:=(Unit) ⊕ (Bool)) (λ(hD:Int) =>
 (bif decide (hD<(a0.eN.length:Int)) then
 (idx a0.eN hD).bind λfL =>
 (uB fL (decide (a0.Kind=1)) (decide (a0.Kind<5))).bind λd_ =>
 (bif !d_ then
 some (.inr (.inr false))
 else
 some (.inl (aJ (hD+1))))
 else
 some (.inr (.inl ())))) 0).bind λdO =>
 (match dO with
 | .inl eK =>
 some true
 | .inr dK =>
 some dK))
def uC (a0:Sym):Option (Bool) :=
 ((bif decide (a0.Name=⟨#[]⟩) then (bif !a0.Lit then some (decide (a0.bR=0)) else some false) else some false)).bind λjS =>
 some jS
def x0 (a0:ByteArray) (aD:Int) (a2:ByteArray):Option (Bool) :=
 ((bif decide ((a2.size:Int)<=aJ ((a0.size:Int) - aD)) then ((q4 a0 aD (aJ (aD+(a2.size:Int)))).bind λx2=>some (decide (x2=a2))) else some false)).bind λjS =>
 some jS
def CQ (a0:ByteArray) (aD:Int):Option (Int) :=
 (((kr a0 aD).bind λa8=>(bif decide (a8=34) then some true else ((kr a0 aD).bind λa7=>some (decide (a7=39)))))).bind λc4 =>
 (bif c4 then
 (b1 (R:=(Unit) ⊕ (Int)) (λ(da:Int) =>
 ((bif decide (da<(a0.size:Int)) then ((kr a0 da).bind λcr=>some (!decide (cr=10))) else some false)).bind λwQ =>
 (bif wQ then
 (kr a0 da).bind λed =>
 (kr a0 aD).bind λcP =>
 (bif decide (ed=cP) then
 some (.inr (.inr (aJ (da+1))))
 else
 (kr a0 da).bind λbT =>
 (bif decide (bT=92) then
 ((bif decide (aJ (da+1)<(a0.size:Int)) then ((kr a0 (aJ (da+1))).bind λdK=>some (decide (dK=10))) else some false)).bind λq3 =>
 (bif q3 then
 some (.inr (.inr (-1)))
 else
 some (.inl (aJ ((aJ (da+1))+1))))
 else
 some (.inl (aJ (da+1)))))
 else
 some (.inr (.inl ())))) (aJ (aD+1))).bind λbQ =>
 (match bQ with
 | .inl b6 =>
 some (-1)
 | .inr cw =>
 some cw)
 else
 (kr a0 aD).bind λd_ =>
 (bif decide (d_=96) then
 (b1 (R:=(Unit) ⊕ (Int)) (λ(ki:Int) =>
 (bif decide (ki<(a0.size:Int)) then
 (kr a0 ki).bind λhY =>
 (bif decide (hY=96) then
 some (.inr (.inr (aJ (ki+1))))
 else
 some (.inl (aJ (ki+1))))
 else
 some (.inr (.inl ())))) (aJ (aD+1))).bind λgy =>
 (match gy with
 | .inl eb =>
 some (-1)
 | .inr cW =>
 some cW)
 else
 (x0 a0 aD (⟨#[47,47]⟩)).bind λcR =>
 (bif cR then
 (b1 (R:=Int) (λ(dZ:Int) =>
 ((bif decide (dZ<(a0.size:Int)) then ((kr a0 dZ).bind λcY=>some (!decide (cY=10))) else some false)).bind λwT =>
 (bif wT then
 some (.inl (aJ (dZ+1)))
 else
 some (.inr dZ))) aD).bind λee =>
 some ee
 else
 (x0 a0 aD (⟨#[47,42]⟩)).bind λjB =>
 (bif jB then
 (b1 (R:=(Unit) ⊕ (Int)) (λ(Ay:Int) =>
 (bif decide (Ay<(a0.size:Int)) then
 (x0 a0 Ay (⟨#[42,47]⟩)).bind λwq =>
 (bif wq then
 some (.inr (.inr (aJ (Ay+2))))
 else
 some (.inl (aJ (Ay+1))))
 else
 some (.inr (.inl ())))) (aJ (aD+2))).bind λwo =>
 (match wo with
 | .inl ov =>
 some (-1)
 | .inr ow =>
 some ow)
 else
 some aD))))
def z8 (a0:ByteArray) (aD:Int):Option (Int) :=
 ((bif decide (aD<0) then some true else (bif decide ((a0.size:Int)<=aD) then some true else ((kr a0 aD).bind λa7=>some (!decide (a7=123)))))).bind λc4 =>
 (bif c4 then
 some (-1)
 else
 (b1 (R:=(Unit) ⊕ (Int)) (λ(da:Int × Int) =>
 (bif decide (da.2<(a0.size:Int)) then
 (CQ a0 da.2).bind λcr =>
 (bif decide (cr<0) then
 some (.inr (.inr (-1)))
 else
 (bif decide (da.2<cr) then
 some (.inl (da.1,cr))
 else
 (kr a0 da.2).bind λed =>
 ((bif decide (ed=123) then
 some (aJ (da.1+1))
 else
 some da.1)).bind λoi =>
 (kr a0 da.2).bind λbT =>
 ((bif decide (bT=125) then
 some (aJ (oi - 1))
 else
 some oi)).bind λE8 =>
 (bif decide (E8=0) then
 some (.inr (.inr (aJ (da.2+1))))
 else
 some (.inl (E8,aJ (da.2+1))))))
 else
 some (.inr (.inl ())))) (0,aD)).bind λbQ =>
 (match bQ with
 | .inl b6 =>
 some (-1)
 | .inr cw =>
 some cw))
structure Part where
 Sym:Sym
 Code:ByteArray
 At:Int
 deriving DecidableEq,Inhabited
structure Alt where
 hA:(List Part)
 Prec:Sym
 At:Int
 deriving DecidableEq,Inhabited
def e7:bK Part:=⟨6,λx=>[ay x.Sym.Name,a_ x.Sym.Lit,ae x.Sym.bR,ae x.Sym.At,ay x.Code,ae x.At],λ_=>rfl,λ_=>dp.bl⟩
instance:Flat e7:=⟨λ_=>rfl⟩
instance:lZ e7:=⟨λx=>(inferInstance:jC [ay x.Sym.Name,a_ x.Sym.Lit,ae x.Sym.bR,ae x.Sym.At,ay x.Code,ae x.At])⟩
instance:gV e7 e7:=⟨rfl,λx=>(inferInstance:dr [ay x.Sym.Name,a_ x.Sym.Lit,ae x.Sym.bR,ae x.Sym.At,ay x.Code,ae x.At] [ay x.Sym.Name,a_ x.Sym.Lit,ae x.Sym.bR,ae x.Sym.At,ay x.Code,ae x.At])⟩
instance {x:Part}:dr (e7.cells x) [ay x.Sym.Name,a_ x.Sym.Lit,ae x.Sym.bR,ae x.Sym.At,ay x.Code,ae x.At]:=(inferInstance:dr [ay x.Sym.Name,a_ x.Sym.Lit,ae x.Sym.bR,ae x.Sym.At,ay x.Code,ae x.At] [ay x.Sym.Name,a_ x.Sym.Lit,ae x.Sym.bR,ae x.Sym.At,ay x.Code,ae x.At])
def e2:bK Alt:=⟨6,λx=>[ag e7 x.hA,ay x.Prec.Name,a_ x.Prec.Lit,ae x.Prec.bR,ae x.Prec.At,ae x.At],λ_=>rfl,λ_=>dp.bl⟩
instance:Flat e2:=⟨λ_=>rfl⟩
instance:gV e2 e2:=⟨rfl,λx=>(inferInstance:dr [ag e7 x.hA,ay x.Prec.Name,a_ x.Prec.Lit,ae x.Prec.bR,ae x.Prec.At,ae x.At] [ag e7 x.hA,ay x.Prec.Name,a_ x.Prec.Lit,ae x.Prec.bR,ae x.Prec.At,ae x.At])⟩
instance {x:Alt}:dr (e2.cells x) [ag e7 x.hA,ay x.Prec.Name,a_ x.Prec.Lit,ae x.Prec.bR,ae x.Prec.At,ae x.At]:=(inferInstance:dr [ag e7 x.hA,ay x.Prec.Name,a_ x.Prec.Lit,ae x.Prec.bR,ae x.Prec.At,ae x.At] [ag e7 x.hA,ay x.Prec.Name,a_ x.Prec.Lit,ae x.Prec.bR,ae x.Prec.At,ae x.At])
def xZ (a0:Alt):Option (Bool) :=
 (b1 (R:=(Unit) ⊕ (Bool)) (λ(s1:Int) =>
 (bif decide (s1<(a0.hA.length:Int)) then
 (idx a0.hA s1).bind λbw =>
 ((bif decide (bw.Code=⟨#[]⟩) then ((uB bw.Sym false true).bind λb6=>(bif !b6 then some true else (bif !decide (bw.Code=⟨#[]⟩) then ((uC bw.Sym).bind λcr=>(bif !cr then some true else ((z8 bw.Code 0).bind λch=>some (!decide (ch=(bw.Code.size:Int)))))) else some false))) else (bif !decide (bw.Code=⟨#[]⟩) then ((uC bw.Sym).bind λcP=>(bif !cP then some true else ((z8 bw.Code 0).bind λbT=>some (!decide (bT=(bw.Code.size:Int)))))) else some false))).bind λnB =>
 (bif nB then
 some (.inr (.inr false))
 else
 some (.inl (aJ (s1+1))))
 else
 some (.inr (.inl ())))) 0).bind λx2 =>
 (match x2 with
 | .inl a7 =>
 (((uC a0.Prec).bind λdK=>(bif dK then some true else ((uB a0.Prec false true).bind λfL=>some fL)))).bind λHc =>
 some Hc
 | .inr bq =>
 some bq)
structure fc where
 Left:ByteArray
 eM:(List Alt)
 At:Int
 deriving DecidableEq,Inhabited
structure Source where
 cA:ByteArray
 Decls:(List Decl)
 dG:(List fc)
 cK:ByteArray
 deriving DecidableEq,Inhabited
def gO:bK fc:=⟨3,λx=>[ay x.Left,ag e2 x.eM,ae x.At],λ_=>rfl,λ_=>dp.bl⟩
instance:Flat gO:=⟨λ_=>rfl⟩
instance:gV gO gO:=⟨rfl,λx=>(inferInstance:dr [ay x.Left,ag e2 x.eM,ae x.At] [ay x.Left,ag e2 x.eM,ae x.At])⟩
instance {x:fc}:dr (gO.cells x) [ay x.Left,ag e2 x.eM,ae x.At]:=(inferInstance:dr [ay x.Left,ag e2 x.eM,ae x.At] [ay x.Left,ag e2 x.eM,ae x.At])
def ho:bK Source:=⟨4,λx=>[ay x.cA,ag dy x.Decls,ag gO x.dG,ay x.cK],λ_=>rfl,λ_=>dp.bl⟩
instance:Flat ho:=⟨λ_=>rfl⟩
instance:gV ho ho:=⟨rfl,λx=>(inferInstance:dr [ay x.cA,ag dy x.Decls,ag gO x.dG,ay x.cK] [ay x.cA,ag dy x.Decls,ag gO x.dG,ay x.cK])⟩
instance {x:Source}:dr (ho.cells x) [ay x.cA,ag dy x.Decls,ag gO x.dG,ay x.cK]:=(inferInstance:dr [ay x.cA,ag dy x.Decls,ag gO x.dG,ay x.cK] [ay x.cA,ag dy x.Decls,ag gO x.dG,ay x.cK])
def xW (a0:Source):Option (Bool) :=
 (b1 (R:=(Unit) ⊕ (Bool)) (λ(s1:Int) =>
 (bif decide (aJ (s1+1)<(a0.cA.size:Int)) then
 (q4 a0.cA s1 (aJ (s1+2))).bind λbw =>
 (bif decide (bw=⟨#[37,125]⟩) then
 some (.inr (.inr false))
 else
 some (.inl (aJ (s1+1))))
 else
 some (.inr (.inl ())))) 0).bind λx2 =>
 (match x2 with
 | .inl a7 =>
 (b1 (R:=(Unit) ⊕ (Bool)) (λ(dA:Int) =>
 (bif decide (dA<(a0.Decls.length:Int)) then
 (idx a0.Decls dA).bind λch =>
 (xY ch).bind λed =>
 (bif !ed then
 some (.inr (.inr false))
 else
 some (.inl (aJ (dA+1))))
 else
 some (.inr (.inl ())))) 0).bind λcw =>
 (match cw with
 | .inl bJ =>
 (b1 (R:=(Unit) ⊕ (Bool)) (λ(nr:Int) =>
 (bif decide (nr<(a0.dG.length:Int)) then
 (idx a0.dG nr).bind λeL =>
 (((vS eL.Left).bind λfL=>(bif !fL then some true else some (decide ((eL.eM.length:Int)=0))))).bind λqb =>
 (bif qb then
 some (.inr (.inr false))
 else
 (b1 (R:=(Unit) ⊕ (Bool)) (λ(o1:Int) =>
 (bif decide (o1<(eL.eM.length:Int)) then
 (idx eL.eM o1).bind λj2 =>
 (xZ j2).bind λcR =>
 (bif !cR then
 some (.inr (.inr false))
 else
 some (.inl (aJ (o1+1))))
 else
 some (.inr (.inl ())))) 0).bind λeb =>
 (match eb with
 | .inl cW =>
 some (.inl (aJ (nr+1)))
 | .inr ek =>
 some (.inr (.inr ek))))
 else
 some (.inr (.inl ())))) 0).bind λbT =>
 (match bT with
 | .inl dO =>
 some (decide (0<(a0.dG.length:Int)))
 | .inr eK =>
 some eK)
 | .inr cr =>
 some cr)
 | .inr bq =>
 some bq)
structure bX where
 Name:ByteArray
 Lit:Bool
 bR:Int
 Level:Int
 fq:Int
 Tag:ByteArray
 deriving DecidableEq,Inhabited
structure fC where
 Name:ByteArray
 Tag:ByteArray
 deriving DecidableEq,Inhabited
structure Prod where
 Left:Int
 eu:(List Int)
 Prec:Int
 Code:ByteArray
 yD:(List Int)
 At:Int
 deriving DecidableEq,Inhabited
structure bN where
 ba:(List bX)
 b2:(List fC)
 bh:(List Prod)
 cA:ByteArray
 cK:ByteArray
 deriving DecidableEq,Inhabited
structure dt where
 aH:bN
 ct:(List Bool)
 cL:(List fC)
 cb:(List ByteArray)
 c0:Int
 dn:Int
 dk:ByteArray
 cq:Int
 b_:Int
 deriving DecidableEq,Inhabited
def bZ:bK bX:=⟨6,λx=>[ay x.Name,a_ x.Lit,ae x.bR,ae x.Level,ae x.fq,ay x.Tag],λ_=>rfl,λ_=>dp.bl⟩
instance:Flat bZ:=⟨λ_=>rfl⟩
instance:lZ bZ:=⟨λx=>(inferInstance:jC [ay x.Name,a_ x.Lit,ae x.bR,ae x.Level,ae x.fq,ay x.Tag])⟩
instance:gV bZ bZ:=⟨rfl,λx=>(inferInstance:dr [ay x.Name,a_ x.Lit,ae x.bR,ae x.Level,ae x.fq,ay x.Tag] [ay x.Name,a_ x.Lit,ae x.bR,ae x.Level,ae x.fq,ay x.Tag])⟩
instance {x:bX}:dr (bZ.cells x) [ay x.Name,a_ x.Lit,ae x.bR,ae x.Level,ae x.fq,ay x.Tag]:=(inferInstance:dr [ay x.Name,a_ x.Lit,ae x.bR,ae x.Level,ae x.fq,ay x.Tag] [ay x.Name,a_ x.Lit,ae x.bR,ae x.Level,ae x.fq,ay x.Tag])
def bH:bK fC:=⟨2,λx=>[ay x.Name,ay x.Tag],λ_=>rfl,λ_=>dp.bl⟩
instance:Flat bH:=⟨λ_=>rfl⟩
instance:lZ bH:=⟨λx=>(inferInstance:jC [ay x.Name,ay x.Tag])⟩
instance:gV bH bH:=⟨rfl,λx=>(inferInstance:dr [ay x.Name,ay x.Tag] [ay x.Name,ay x.Tag])⟩
def cE:bK Prod:=⟨6,λx=>[ae x.Left,ag ai x.eu,ae x.Prec,ay x.Code,ag ai x.yD,ae x.At],λ_=>rfl,λ_=>dp.bl⟩
instance:Flat cE:=⟨λ_=>rfl⟩
instance:gV cE cE:=⟨rfl,λx=>(inferInstance:dr [ae x.Left,ag ai x.eu,ae x.Prec,ay x.Code,ag ai x.yD,ae x.At] [ae x.Left,ag ai x.eu,ae x.Prec,ay x.Code,ag ai x.yD,ae x.At])⟩
instance {x:Prod}:dr (cE.cells x) [ae x.Left,ag ai x.eu,ae x.Prec,ay x.Code,ag ai x.yD,ae x.At]:=(inferInstance:dr [ae x.Left,ag ai x.eu,ae x.Prec,ay x.Code,ag ai x.yD,ae x.At] [ae x.Left,ag ai x.eu,ae x.Prec,ay x.Code,ag ai x.yD,ae x.At])
def du:bK bN:=⟨5,λx=>[ag bZ x.ba,ag bH x.b2,ag cE x.bh,ay x.cA,ay x.cK],λ_=>rfl,λ_=>dp.bl⟩
instance:Flat du:=⟨λ_=>rfl⟩
instance:gV du du:=⟨rfl,λx=>(inferInstance:dr [ag bZ x.ba,ag bH x.b2,ag cE x.bh,ay x.cA,ay x.cK] [ag bZ x.ba,ag bH x.b2,ag cE x.bh,ay x.cA,ay x.cK])⟩
instance {x:bN}:dr (du.cells x) [ag bZ x.ba,ag bH x.b2,ag cE x.bh,ay x.cA,ay x.cK]:=(inferInstance:dr [ag bZ x.ba,ag bH x.b2,ag cE x.bh,ay x.cA,ay x.cK] [ag bZ x.ba,ag bH x.b2,ag cE x.bh,ay x.cA,ay x.cK])
def Ej:bK dt:=⟨13,λx=>[ag bZ x.aH.ba,ag bH x.aH.b2,ag cE x.aH.bh,ay x.aH.cA,ay x.aH.cK,ag cp x.ct,ag bH x.cL,ag dv x.cb,ae x.c0,ae x.dn,ay x.dk,ae x.cq,ae x.b_],λ_=>rfl,λ_=>dp.bl⟩
instance:Flat Ej:=⟨λ_=>rfl⟩
instance:gV Ej Ej:=⟨rfl,λx=>(inferInstance:dr [ag bZ x.aH.ba,ag bH x.aH.b2,ag cE x.aH.bh,ay x.aH.cA,ay x.aH.cK,ag cp x.ct,ag bH x.cL,ag dv x.cb,ae x.c0,ae x.dn,ay x.dk,ae x.cq,ae x.b_] [ag bZ x.aH.ba,ag bH x.aH.b2,ag cE x.aH.bh,ay x.aH.cA,ay x.aH.cK,ag cp x.ct,ag bH x.cL,ag dv x.cb,ae x.c0,ae x.dn,ay x.dk,ae x.cq,ae x.b_])⟩
instance {x:dt}:dr (Ej.cells x) [ag bZ x.aH.ba,ag bH x.aH.b2,ag cE x.aH.bh,ay x.aH.cA,ay x.aH.cK,ag cp x.ct,ag bH x.cL,ag dv x.cb,ae x.c0,ae x.dn,ay x.dk,ae x.cq,ae x.b_]:=(inferInstance:dr [ag bZ x.aH.ba,ag bH x.aH.b2,ag cE x.aH.bh,ay x.aH.cA,ay x.aH.cK,ag cp x.ct,ag bH x.cL,ag dv x.cb,ae x.c0,ae x.dn,ay x.dk,ae x.cq,ae x.b_] [ag bZ x.aH.ba,ag bH x.aH.b2,ag cE x.aH.bh,ay x.aH.cA,ay x.aH.cK,ag cp x.ct,ag bH x.cL,ag dv x.cb,ae x.c0,ae x.dn,ay x.dk,ae x.cq,ae x.b_])
def Mx:bK bN:=⟨5,λx=>[aj bZ x.ba,aj bH x.b2,aj cE x.bh,ay x.cA,ay x.cK],λ_=>rfl,λ_=>dp.bl⟩
instance:gV Mx du:=⟨rfl,λx=>(inferInstance:dr [aj bZ x.ba,aj bH x.b2,aj cE x.bh,ay x.cA,ay x.cK] [ag bZ x.ba,ag bH x.b2,ag cE x.bh,ay x.cA,ay x.cK])⟩
instance {x:bN}:dr (Mx.cells x) [ag bZ x.ba,ag bH x.b2,ag cE x.bh,ay x.cA,ay x.cK]:=(inferInstance:dr [aj bZ x.ba,aj bH x.b2,aj cE x.bh,ay x.cA,ay x.cK] [ag bZ x.ba,ag bH x.b2,ag cE x.bh,ay x.cA,ay x.cK])
def dR:bK dt:=⟨13,λx=>[aj bZ x.aH.ba,aj bH x.aH.b2,aj cE x.aH.bh,ay x.aH.cA,ay x.aH.cK,aj cp x.ct,aj bH x.cL,aj dv x.cb,ae x.c0,ae x.dn,ay x.dk,ae x.cq,ae x.b_],λ_=>rfl,λ_=>dp.bl⟩
instance {x:dt}:dr (dR.cells x) [ag bZ x.aH.ba,ag bH x.aH.b2,ag cE x.aH.bh,ay x.aH.cA,ay x.aH.cK,ag cp x.ct,ag bH x.cL,ag dv x.cb,ae x.c0,ae x.dn,ay x.dk,ae x.cq,ae x.b_]:=(inferInstance:dr [aj bZ x.aH.ba,aj bH x.aH.b2,aj cE x.aH.bh,ay x.aH.cA,ay x.aH.cK,aj cp x.ct,aj bH x.cL,aj dv x.cb,ae x.c0,ae x.dn,ay x.dk,ae x.cq,ae x.b_] [ag bZ x.aH.ba,ag bH x.aH.b2,ag cE x.aH.bh,ay x.aH.cA,ay x.aH.cK,ag cp x.ct,ag bH x.cL,ag dv x.cb,ae x.c0,ae x.dn,ay x.dk,ae x.cq,ae x.b_])
def nV (a0:dt) (aD:Int) (a2:ByteArray):Option (dt) :=
 ((bif decide (a0.c0=0) then
 some (⟨a0.aH,a0.ct,a0.cL,a0.cb,3,aD,a2,a0.cq,a0.b_⟩:dt)
 else
 some a0)).bind λjv =>
 some jv
def zY (a0:dt) (aD:ByteArray):Option (Int) :=
 (b1 (R:=(Unit) ⊕ (Int)) (λ(s1:Int) =>
 (bif decide (s1<(a0.cL.length:Int)) then
 (idx a0.cL s1).bind λbw =>
 (bif decide (bw.Name=aD) then
 some (.inr (.inr s1))
 else
 some (.inl (aJ (s1+1))))
 else
 some (.inr (.inl ())))) 0).bind λx2 =>
 (match x2 with
 | .inl a7 =>
 some (-1)
 | .inr bq =>
 some bq)
def uz (a0:dt) (aD:Sym):Option (Int) :=
 (b1 (R:=(Unit) ⊕ (Int)) (λ(s1:Int) =>
 (bif decide (s1<(a0.aH.ba.length:Int)) then
 (((idx a0.aH.ba s1).bind λbw=>(bif decide (bw.Name=aD.Name) then ((idx a0.aH.ba s1).bind λb6=>(bif (b6.Lit == aD.Lit) then some (!decide (s1=2)) else some false)) else some false))).bind λim =>
 (bif im then
 some (.inr (.inr s1))
 else
 some (.inl (aJ (s1+1))))
 else
 some (.inr (.inl ())))) 1).bind λx2 =>
 (match x2 with
 | .inl a7 =>
 some (-1)
 | .inr bq =>
 some bq)
def vU (a0:dt) (aD:Int):Option (Int) :=
 (b1 (R:=(Unit) ⊕ (Int)) (λ(s1:Int) =>
 (bif decide (s1<(a0.aH.ba.length:Int)) then
 (idx a0.aH.ba s1).bind λbw =>
 (bif decide (bw.bR=aD) then
 some (.inr (.inr s1))
 else
 some (.inl (aJ (s1+1))))
 else
 some (.inr (.inl ())))) 3).bind λx2 =>
 (match x2 with
 | .inl a7 =>
 some (-1)
 | .inr bq =>
 some bq)
def vT (a0:dt) (aD:Sym):Option (Int × dt) :=
 (uz a0 aD).bind λa8 =>
 (bif decide (0<=a8) then
 some (a8,a0)
 else
 ((bif aD.Lit then
 (kr aD.Name 0).bind λbS =>
 (vU a0 (aJ bS)).bind λbw =>
 ((bif decide (0<=bw) then
 (nV a0 aD.At aD.Name).bind λcw =>
 some cw
 else
 some a0)).bind λkW =>
 some (kW,aJ bS)
 else
 some (a0,0))).bind λix =>
 (c' ix.1.aH.ba [(⟨aD.Name,aD.Lit,ix.2,0,0,⟨#[]⟩⟩:bX)]).bind λbJ =>
 (c' ix.1.ct [aD.Lit]).bind λcr =>
 some (aJ (((ix.1.aH.ba++[(⟨aD.Name,aD.Lit,ix.2,0,0,⟨#[]⟩⟩:bX)]).length:Int) - 1),(⟨(⟨ix.1.aH.ba++[(⟨aD.Name,aD.Lit,ix.2,0,0,⟨#[]⟩⟩:bX)],ix.1.aH.b2,ix.1.aH.bh,ix.1.aH.cA,ix.1.aH.cK⟩:bN),ix.1.ct++[aD.Lit],ix.1.cL,ix.1.cb,ix.1.c0,ix.1.dn,ix.1.dk,ix.1.cq,ix.1.b_⟩:dt)))
def vQ (a0:dt) (aD:Decl) (a2:Sym):Option (dt) :=
 (bif decide (aD.Kind=5) then
 (zY a0 a2.Name).bind λx2 =>
 ((bif decide (x2<0) then
 (c' a0.cL [(⟨a2.Name,aD.Tag⟩:fC)]).bind λbS =>
 some (⟨a0.aH,a0.ct,a0.cL++[(⟨a2.Name,aD.Tag⟩:fC)],a0.cb,a0.c0,a0.dn,a0.dk,a0.cq,a0.b_⟩:dt)
 else
 (idx a0.cL x2).bind λbw =>
 ((bif !decide (bw.Tag=aD.Tag) then
 (nV a0 a2.At a2.Name).bind λcw =>
 some cw
 else
 some a0)).bind λkW =>
 some kW)).bind λix =>
 some ix
 else
 (vT a0 a2).bind λbJ =>
 (idx bJ.2.aH.ba bJ.1).bind λcr =>
 ((bif !decide (aD.Kind=1) then
 ((bif decide (0<cr.Level) then
 (nV bJ.2 a2.At a2.Name).bind λcc =>
 some (⟨(⟨bJ.2.aH.ba,cc.aH.b2,cc.aH.bh,cc.aH.cA,cc.aH.cK⟩:bN),cc.ct,cc.cL,cc.cb,cc.c0,cc.dn,cc.dk,cc.cq,cc.b_⟩:dt)
 else
 some bJ.2)).bind λdc =>
 (idx dc.aH.ba bJ.1).bind λbT =>
 some (⟨(⟨(dc.aH.ba.set bJ.1.toNat (⟨bT.Name,bT.Lit,bT.bR,dc.cq,bT.fq,bT.Tag⟩:bX)).set bJ.1.toNat (⟨(⟨bT.Name,bT.Lit,bT.bR,dc.cq,bT.fq,bT.Tag⟩:bX).Name,(⟨bT.Name,bT.Lit,bT.bR,dc.cq,bT.fq,bT.Tag⟩:bX).Lit,(⟨bT.Name,bT.Lit,bT.bR,dc.cq,bT.fq,bT.Tag⟩:bX).bR,(⟨bT.Name,bT.Lit,bT.bR,dc.cq,bT.fq,bT.Tag⟩:bX).Level,aJ (aD.Kind - 1),(⟨bT.Name,bT.Lit,bT.bR,dc.cq,bT.fq,bT.Tag⟩:bX).Tag⟩:bX),dc.aH.b2,dc.aH.bh,dc.aH.cA,dc.aH.cK⟩:bN),dc.ct,dc.cL,dc.cb,dc.c0,dc.dn,dc.dk,dc.cq,dc.b_⟩:dt)
 else
 some bJ.2)).bind λeP =>
 (idx eP.aH.ba bJ.1).bind λdO =>
 ((bif decide (0<a2.bR) then
 ((bif decide (bJ.1=1) then some true else ((idx eP.ct bJ.1).bind λfL=>(bif fL then some true else ((vU eP a2.bR).bind λgb=>some (decide (0<=gb))))))).bind λHd =>
 ((bif Hd then
 (nV eP a2.At a2.Name).bind λcW =>
 some (⟨(⟨eP.aH.ba,cW.aH.b2,cW.aH.bh,cW.aH.cA,cW.aH.cK⟩:bN),cW.ct,cW.cL,cW.cb,cW.c0,cW.dn,cW.dk,cW.cq,cW.b_⟩:dt)
 else
 some eP)).bind λdY =>
 (idx dY.aH.ba bJ.1).bind λek =>
 (idx dY.ct bJ.1).bind λhY =>
 some (⟨(⟨dY.aH.ba.set bJ.1.toNat (⟨ek.Name,ek.Lit,a2.bR,ek.Level,ek.fq,ek.Tag⟩:bX),dY.aH.b2,dY.aH.bh,dY.aH.cA,dY.aH.cK⟩:bN),dY.ct.set bJ.1.toNat true,dY.cL,dY.cb,dY.c0,dY.dn,dY.dk,dY.cq,dY.b_⟩:dt)
 else
 some eP)).bind λe_ =>
 (idx e_.aH.ba bJ.1).bind λj2 =>
 ((bif !decide (aD.Tag=⟨#[]⟩) then
 ((bif !decide (j2.Tag=⟨#[]⟩) then some (!decide (j2.Tag=aD.Tag)) else some false)).bind λtF =>
 ((bif tF then
 (nV e_ a2.At a2.Name).bind λcY =>
 some (⟨(⟨e_.aH.ba,cY.aH.b2,cY.aH.bh,cY.aH.cA,cY.aH.cK⟩:bN),cY.ct,cY.cL,cY.cb,cY.c0,cY.dn,cY.dk,cY.cq,cY.b_⟩:dt)
 else
 some e_)).bind λni =>
 (idx ni.aH.ba bJ.1).bind λgn =>
 some (⟨(⟨ni.aH.ba.set bJ.1.toNat (⟨gn.Name,gn.Lit,gn.bR,gn.Level,gn.fq,aD.Tag⟩:bX),ni.aH.b2,ni.aH.bh,ni.aH.cA,ni.aH.cK⟩:bN),ni.ct,ni.cL,ni.cb,ni.c0,ni.dn,ni.dk,ni.cq,ni.b_⟩:dt)
 else
 some e_)).bind λpN =>
 some pN)
def s8 (a0:dt) (aD:ByteArray):Option (Int) :=
 (b1 (R:=(Unit) ⊕ (Int)) (λ(s1:Int) =>
 (bif decide (s1<(a0.cb.length:Int)) then
 (idx a0.cb s1).bind λbw =>
 (bif decide (bw=aD) then
 some (.inr (.inr s1))
 else
 some (.inl (aJ (s1+1))))
 else
 some (.inr (.inl ())))) 0).bind λx2 =>
 (match x2 with
 | .inl a7 =>
 some (-1)
 | .inr bq =>
 some bq)
def s9 (a0:dt) (aD:Sym):Option (Int × dt) :=
 (bif aD.Lit then
 (vT a0 aD).bind λx2 =>
 some (x2.1,x2.2)
 else
 (s8 a0 aD.Name).bind λa7 =>
 (bif decide (0<=a7) then
 some (aJ (1001+a7),a0)
 else
 (uz a0 aD).bind λbS =>
 (bif decide (bS<0) then
 (nV a0 aD.At aD.Name).bind λbQ =>
 some (0,bQ)
 else
 some (bS,a0))))
def vR (a0:dt) (aD:ByteArray) (a2:Alt):Option (dt) :=
 (s8 a0 aD).bind λa8 =>
 (b1 (R:=dt × List Int × ByteArray × Int) (λ(s2:dt × List Int × ByteArray × Int × Int) =>
 (bif decide (s2.2.2.2.2<(a2.hA.length:Int)) then
 ((idx a2.hA s2.2.2.2.2).bind λbQ =>
 (((bif decide (bQ.Code=⟨#[]⟩) then
 (s9 s2.1 bQ.Sym).bind λcr =>
 (c' s2.2.1 [cr.1]).bind λew =>
 some (cr.2,s2.2.1++[cr.1],s2.2.2.1,s2.2.2.2.1)
 else
 ((bif decide (aJ (s2.2.2.2.2+1)=(a2.hA.length:Int)) then
 some (s2.1.aH.bh,s2.1.b_,s2.2.1,bQ.Code,bQ.At)
 else
 (c' ([]:List Int) s2.2.1).bind λcP =>
 (c' s2.1.aH.bh [(⟨aJ ((s2.1.cb.length:Int)+(aJ (s2.1.b_+1))),([]:List Int),(-1),bQ.Code,([]:List Int)++s2.2.1,bQ.At⟩:Prod)]).bind λcc =>
 (c' s2.2.1 [aJ ((aJ (1000+(s2.1.cb.length:Int)))+(aJ (s2.1.b_+1)))]).bind λbT =>
 some (s2.1.aH.bh++[(⟨aJ ((s2.1.cb.length:Int)+(aJ (s2.1.b_+1))),([]:List Int),(-1),bQ.Code,([]:List Int)++s2.2.1,bQ.At⟩:Prod)],aJ (s2.1.b_+1),s2.2.1++[aJ ((aJ (1000+(s2.1.cb.length:Int)))+(aJ (s2.1.b_+1)))],s2.2.2.1,s2.2.2.2.1))).bind λiI =>
 some ((⟨(⟨s2.1.aH.ba,s2.1.aH.b2,iI.1,s2.1.aH.cA,s2.1.aH.cK⟩:bN),s2.1.ct,s2.1.cL,s2.1.cb,s2.1.c0,s2.1.dn,s2.1.dk,s2.1.cq,iI.2.1⟩:dt),iI.2.2.1,iI.2.2.2.1,iI.2.2.2.2))).bind λqy =>
 some (qy.1,qy.2.1,qy.2.2.1,qy.2.2.2)).bind λfa =>
 some (fa.1,fa.2.1,fa.2.2.1,fa.2.2.2)).bind λkV =>
 some (.inl (kV.1,kV.2.1,kV.2.2.1,kV.2.2.2,aJ (s2.2.2.2.2+1)))
 else
 some (.inr (s2.1,s2.2.1,s2.2.2.1,s2.2.2.2.1)))) (a0,([]:List Int),⟨#[]⟩,a2.At,0)).bind λa7 =>
 (b1 (R:=Int) (λ(o0:Int × Int) =>
 (bif decide (o0.2<(a7.2.1.length:Int)) then
 ((idx a7.2.1 o0.2).bind λd_ =>
 ((bif decide (d_<1000) then
 (idx a7.2.1 o0.2).bind λgy =>
 some gy
 else
 some o0.1)).bind λxC =>
 some xC).bind λmB =>
 some (.inl (mB,aJ (o0.2+1)))
 else
 some (.inr o0.1))) ((-1),0)).bind λeK =>
 ((bif !decide (a2.Prec.Name=⟨#[]⟩) then
 ((bif a2.Prec.Lit then some true else ((s8 a7.1 a2.Prec.Name).bind λhY=>some (decide (hY<0))))).bind λtE =>
 ((bif tE then
 (s9 a7.1 a2.Prec).bind λkk =>
 some (kk.2,kk.1)
 else
 (nV a7.1 a2.Prec.At a2.Prec.Name).bind λee =>
 some (ee,(-1)))).bind λpN =>
 some (pN.1,pN.2)
 else
 some (a7.1,eK))).bind λjX =>
 (c' ([]:List Int) a7.2.1).bind λp0 =>
 (c' jX.1.aH.bh [(⟨aJ (1+a8),a7.2.1,jX.2,a7.2.2.1,([]:List Int)++a7.2.1,a7.2.2.2⟩:Prod)]).bind λj3 =>
 some (⟨(⟨jX.1.aH.ba,jX.1.aH.b2,jX.1.aH.bh++[(⟨aJ (1+a8),a7.2.1,jX.2,a7.2.2.1,([]:List Int)++a7.2.1,a7.2.2.2⟩:Prod)],jX.1.aH.cA,jX.1.aH.cK⟩:bN),jX.1.ct,jX.1.cL,jX.1.cb,jX.1.c0,jX.1.dn,jX.1.dk,jX.1.cq,jX.1.b_⟩:dt)
def CJ (a0:Int):Option (ByteArray) :=
 ((bif decide (a0<0) then
 some (IntKind.u64.wrap (-(IntKind.u64.wrap a0)))
 else
 some (IntKind.u64.wrap a0))).bind λjv =>
 (b1 (R:=ByteArray) (λ(ea:Int × ByteArray) =>
 ((bif decide (0<ea.1) then some true else some (decide (ea.2=⟨#[]⟩)))).bind λkN =>
 (bif kN then
 (rv ea.1 10).bind λcw =>
 (tH (strOfNums [yw (IntKind.u64.wrap (48+cw))]) ea.2).bind λbJ =>
 (rq ea.1 10).bind λcr =>
 some (.inl (cr,bJ))
 else
 some (.inr ea.2))) (jv,⟨#[]⟩)).bind λbq =>
 (bif decide (a0<0) then
 (tH (⟨#[45]⟩) bq).bind λch =>
 some ch
 else
 some bq)
def v' (a0:Source):Option (bN × Int × Int × ByteArray) :=
 (xW a0).bind λa8 =>
 (bif !a8 then
 some ((⟨([]:List bX),([]:List fC),([]:List Prod),⟨#[]⟩,⟨#[]⟩⟩:bN),1,0,⟨#[]⟩)
 else
 (nk 3 false).bind λa7 =>
 (b1 (R:=dt × ByteArray) (λ(cZ:dt × ByteArray × Int) =>
 (bif decide (cZ.2.2<(a0.Decls.length:Int)) then
 (idx a0.Decls cZ.2.2).bind λb6 =>
 ((bif decide (2<=b6.Kind) then some (decide (b6.Kind<=4)) else some false)).bind λim =>
 ((bif im then
 some (aJ (cZ.1.cq+1))
 else
 some cZ.1.cq)).bind λjw =>
 (b1 (R:=dt × ByteArray) (λ(fI:dt × ByteArray × Int) =>
 (bif decide (fI.2.2<(b6.eN.length:Int)) then
 ((bif !decide (b6.Kind=6) then
 (idx b6.eN fI.2.2).bind λeK =>
 (vQ fI.1 b6 eK).bind λdK =>
 some (dK,fI.2.1)
 else
 ((bif !decide (fI.2.1=⟨#[]⟩) then
 (idx b6.eN fI.2.2).bind λd_ =>
 (idx b6.eN fI.2.2).bind λgb =>
 (nV fI.1 d_.At gb.Name).bind λhE =>
 some hE
 else
 some fI.1)).bind λnS =>
 (idx b6.eN fI.2.2).bind λgy =>
 some (nS,gy.Name))).bind λCj =>
 some (.inl (Cj.1,Cj.2,aJ (fI.2.2+1)))
 else
 some (.inr (fI.1,fI.2.1)))) ((⟨cZ.1.aH,cZ.1.ct,cZ.1.cL,cZ.1.cb,cZ.1.c0,cZ.1.dn,cZ.1.dk,jw,cZ.1.b_⟩:dt),cZ.2.1,0)).bind λed =>
 some (.inl (ed.1,ed.2,aJ (cZ.2.2+1)))
 else
 some (.inr (cZ.1,cZ.2.1)))) ((⟨(⟨[(⟨⟨#[36,101,110,100]⟩,false,0,0,0,⟨#[]⟩⟩:bX),(⟨⟨#[101,114,114,111,114]⟩,false,(-1),0,0,⟨#[]⟩⟩:bX),(⟨⟨#[36,117,110,107]⟩,false,(-1),0,0,⟨#[]⟩⟩:bX)],[],[],⟨#[]⟩,⟨#[]⟩⟩:bN),a7,[],[],0,0,⟨#[]⟩,0,0⟩:dt),⟨#[]⟩,0)).bind λbS =>
 (b1 (R:=dt) (λ(qH:dt × Int) =>
 (bif decide (qH.2<(a0.dG.length:Int)) then
 ((idx a0.dG qH.2).bind λcR =>
 (uz qH.1 (⟨cR.Left,false,0,0⟩:Sym)).bind λe8 =>
 ((bif decide (0<=e8) then
 (nV qH.1 cR.At cR.Left).bind λp0 =>
 some p0
 else
 some qH.1)).bind λiR =>
 (s8 iR cR.Left).bind λj3 =>
 ((bif decide (j3<0) then
 (c' iR.cb [cR.Left]).bind λo_ =>
 some (iR.cb++[cR.Left])
 else
 some iR.cb)).bind λJA =>
 some (⟨iR.aH,iR.ct,iR.cL,JA,iR.c0,iR.dn,iR.dk,iR.cq,iR.b_⟩:dt)).bind λuv =>
 some (.inl (uv,aJ (qH.2+1)))
 else
 some (.inr qH.1))) (bS.1,0)).bind λcW =>
 (b1 (R:=dt) (λ(qI:dt × Int) =>
 (bif decide (qI.2<(a0.Decls.length:Int)) then
 (b1 (R:=dt) (λ(qJ:dt × Int) =>
 (idx a0.Decls qI.2).bind λwq =>
 (bif decide (qJ.2<(wq.eN.length:Int)) then
 ((idx a0.Decls qI.2).bind λrG =>
 (idx rG.eN qJ.2).bind λp2 =>
 (((idx a0.Decls qI.2).bind λDz=>(bif decide (5<=Dz.Kind) then ((s8 qJ.1 p2.Name).bind λkF=>some (decide (kF<0))) else some false))).bind λHi =>
 ((bif Hi then
 (nV qJ.1 p2.At p2.Name).bind λAH =>
 some AH
 else
 some qJ.1)).bind λJE =>
 some JE).bind λJD =>
 some (.inl (JD,aJ (qJ.2+1)))
 else
 some (.inr qJ.1))) (qI.1,0)).bind λow =>
 some (.inl (ow,aJ (qI.2+1)))
 else
 some (.inr qI.1))) (cW,0)).bind λhj =>
 ((bif decide (bS.2=⟨#[]⟩) then
 (idx a0.dG 0).bind λwu =>
 some wu.Left
 else
 some bS.2)).bind λxE =>
 (s8 hj xE).bind λmL =>
 (b1 (R:=dt) (λ(pV:dt × Int) =>
 (bif decide (pV.2<(a0.dG.length:Int)) then
 (b1 (R:=dt) (λ(rA:dt × Int) =>
 (idx a0.dG pV.2).bind λDB =>
 (bif decide (rA.2<(DB.eM.length:Int)) then
 (idx a0.dG pV.2).bind λDC =>
 (idx a0.dG pV.2).bind λK1 =>
 (idx K1.eM rA.2).bind λDD =>
 (vR rA.1 DC.Left DD).bind λGw =>
 some (.inl (Gw,aJ (rA.2+1)))
 else
 some (.inr rA.1))) (pV.1,0)).bind λkG =>
 some (.inl (kG,aJ (pV.2+1)))
 else
 some (.inr pV.1))) ((⟨(⟨hj.aH.ba,hj.aH.b2,[(⟨0,[aJ (1001+mL)],(-1),⟨#[]⟩,([]:List Int),0⟩:Prod)],hj.aH.cA,hj.aH.cK⟩:bN),hj.ct,hj.cL,hj.cb,hj.c0,hj.dn,hj.dk,hj.cq,hj.b_⟩:dt),0)).bind λbu =>
 (bif !decide (bu.c0=0) then
 some ((⟨([]:List bX),([]:List fC),([]:List Prod),⟨#[]⟩,⟨#[]⟩⟩:bN),bu.c0,bu.dn,bu.dk)
 else
 (b1 (R:=List fC) (λ(rB:List fC × Int) =>
 (bif decide (rB.2<(bu.cb.length:Int)) then
 (idx bu.cb rB.2).bind λqM =>
 (zY (⟨(⟨bu.aH.ba,rB.1,bu.aH.bh,bu.aH.cA,bu.aH.cK⟩:bN),bu.ct,bu.cL,bu.cb,bu.c0,bu.dn,bu.dk,bu.cq,bu.b_⟩:dt) qM).bind λyy =>
 ((bif decide (0<=yy) then
 (idx bu.cL yy).bind λK2 =>
 some K2.Tag
 else
 some (⟨#[]⟩))).bind λuw =>
 (c' rB.1 [(⟨qM,uw⟩:fC)]).bind λQG =>
 some (.inl (rB.1++[(⟨qM,uw⟩:fC)],aJ (rB.2+1)))
 else
 some (.inr rB.1))) ([(⟨⟨#[36,97,99,99,101,112,116]⟩,⟨#[]⟩⟩:fC)],0)).bind λuR =>
 (b1 (R:=List fC) (λ(sq:List fC × Int) =>
 (bif decide (sq.2<=bu.b_) then
 (CJ sq.2).bind λGx =>
 (tH (⟨#[64]⟩) Gx).bind λwv =>
 (c' sq.1 [(⟨wv,⟨#[]⟩⟩:fC)]).bind λQH =>
 some (.inl (sq.1++[(⟨wv,⟨#[]⟩⟩:fC)],aJ (sq.2+1)))
 else
 some (.inr sq.1))) (uR,1)).bind λk5 =>
 (b1 (R:=List bX) (λ(mb:List bX × Int × Int) =>
 (bif decide (mb.2.2<(mb.1.length:Int)) then
 ((idx bu.ct mb.2.2).bind λKY =>
 ((bif !KY then
 (idx mb.1 mb.2.2).bind λsu =>
 some (mb.1.set mb.2.2.toNat (⟨su.Name,su.Lit,mb.2.1,su.Level,su.fq,su.Tag⟩:bX),aJ (mb.2.1+1))
 else
 some (mb.1,mb.2.1))).bind λCi =>
 some (Ci.1,Ci.2)).bind λCk =>
 some (.inl (Ck.1,Ck.2,aJ (mb.2.2+1)))
 else
 some (.inr mb.1))) (bu.aH.ba,57346,3)).bind λme =>
 ((bif decide (40<(me.length:Int)) then some true else (bif decide (24<(k5.length:Int)) then some true else some (decide (60<(bu.aH.bh.length:Int)))))).bind λu6 =>
 (b1 (R:=Bool) (λ(td:Bool × Int) =>
 (bif decide (td.2<(bu.aH.bh.length:Int)) then
 ((bif td.1 then some true else ((idx bu.aH.bh td.2).bind λKZ=>some (decide (8<(KZ.eu.length:Int)))))).bind λG_ =>
 some (.inl (G_,aJ (td.2+1)))
 else
 some (.inr td.1))) (u6,0)).bind λAG =>
 (bif AG then
 some ((⟨([]:List bX),([]:List fC),([]:List Prod),⟨#[]⟩,⟨#[]⟩⟩:bN),4,0,⟨#[]⟩)
 else
 some ((⟨me,k5,bu.aH.bh,a0.cA,a0.cK⟩:bN),0,0,⟨#[]⟩))))
def x7 (a0:Source):Option (bN × Bool) :=
 (v' a0).bind λa8 =>
 some (a8.1,decide (a8.2.1=0))
def pT (a0:(List Int)) (aD:Int):Option ((List Int)) :=
 (b1 (R:=Int) (λ(s1:Int) =>
 ((bif decide (0<s1) then ((idx a0 (aJ (s1 - 1))).bind λbS=>some (decide (aD<bS))) else some false)).bind λoJ =>
 (bif oJ then
 some (.inl (aJ (s1 - 1)))
 else
 some (.inr s1))) (a0.length:Int)).bind λx2 =>
 ((bif decide (0<x2) then ((idx a0 (aJ (x2 - 1))).bind λcw=>some (decide (cw=aD))) else some false)).bind λim =>
 (bif im then
 some a0
 else
 (nW a0 0 x2).bind λew =>
 (c' ([]:List Int) ew).bind λch =>
 (c' (([]:List Int)++ew) [aD]).bind λed =>
 (nW a0 x2 a0.length).bind λcP =>
 (c' ((([]:List Int)++ew)++[aD]) cP).bind λcc =>
 some ((([]:List Int)++ew)++[aD]++cP))
def x8 (a0:(List Int)) (aD:Int):Option (Bool) :=
 (b1 (R:=(Unit) ⊕ (Bool)) (λ(s1:Int) =>
 (bif decide (s1<(a0.length:Int)) then
 (idx a0 s1).bind λbw =>
 (bif decide (bw=aD) then
 some (.inr (.inr true))
 else
 some (.inl (aJ (s1+1))))
 else
 some (.inr (.inl ())))) 0).bind λx2 =>
 (match x2 with
 | .inl a7 =>
 some false
 | .inr bq =>
 some bq)
def C5 (a0:bN):Option ((List Int)) :=
 (b1 (R:=List Int) (λ(s1:List Int × Int) =>
 (bif decide (s1.2<(a0.ba.length:Int)) then
 (c' s1.1 [s1.2]).bind λbS =>
 some (.inl (s1.1++[s1.2],aJ (s1.2+1)))
 else
 some (.inr s1.1))) (([]:List Int),0)).bind λx2 =>
 (b1 (R:=List Int) (λ(da:List Int × Int) =>
 (bif decide (da.2<(a0.b2.length:Int)) then
 (c' da.1 [aJ (1000+da.2)]).bind λbJ =>
 some (.inl (da.1++[aJ (1000+da.2)],aJ (da.2+1)))
 else
 some (.inr da.1))) (x2,0)).bind λbQ =>
 some bQ
structure Item where
 Prod:Int
 e':Int
 deriving DecidableEq,Inhabited
def zZ (a0:bN) (aD:Item):Option (Bool) :=
 ((bif decide (0<=aD.Prod) then (bif decide (aD.Prod<(a0.bh.length:Int)) then (bif decide (0<=aD.e') then ((idx a0.bh aD.Prod).bind λbq=>some (decide (aD.e'<=(bq.eu.length:Int)))) else some false) else some false) else some false)).bind λkM =>
 some kM
def yb (a0:bN) (aD:Item):Option (Int) :=
 (((zZ a0 aD).bind λa8=>(bif !a8 then some true else ((idx a0.bh aD.Prod).bind λa7=>some (decide (aD.e'=(a7.eu.length:Int))))))).bind λc4 =>
 (bif c4 then
 some (-1)
 else
 (idx a0.bh aD.Prod).bind λbw =>
 (idx bw.eu aD.e').bind λbQ =>
 some bQ)
def fU:bK Item:=⟨2,λx=>[ae x.Prod,ae x.e'],λ_=>rfl,λ_=>dp.bl⟩
instance:Flat fU:=⟨λ_=>rfl⟩
instance:lZ fU:=⟨λx=>(inferInstance:jC [ae x.Prod,ae x.e'])⟩
instance:gV fU fU:=⟨rfl,λx=>(inferInstance:dr [ae x.Prod,ae x.e'] [ae x.Prod,ae x.e'])⟩
def xX (a0:(List Item)) (aD:Item):Option ((List Item)) :=
 (b1 (R:=Int) (λ(s1:Int) =>
 ((bif decide (0<s1) then ((idx a0 (aJ (s1 - 1))).bind λbS=>(bif decide (aD.Prod<bS.Prod) then some true else ((idx a0 (aJ (s1 - 1))).bind λbQ=>(bif decide (bQ.Prod=aD.Prod) then ((idx a0 (aJ (s1 - 1))).bind λcw=>some (decide (aD.e'<cw.e'))) else some false)))) else some false)).bind λim =>
 (bif im then
 some (.inl (aJ (s1 - 1)))
 else
 some (.inr s1))) (a0.length:Int)).bind λx2 =>
 ((bif decide (0<x2) then ((idx a0 (aJ (x2 - 1))).bind λch=>some (decide (ch.Prod=aD.Prod)&&(decide (ch.e'=aD.e')&&true))) else some false)).bind λoI =>
 (bif oI then
 some a0
 else
 (nW a0 0 x2).bind λcc =>
 (c' ([]:List Item) cc).bind λbT =>
 (c' (([]:List Item)++cc) [aD]).bind λdO =>
 (nW a0 x2 a0.length).bind λeK =>
 (c' ((([]:List Item)++cc)++[aD]) eK).bind λdK =>
 some ((([]:List Item)++cc)++[aD]++eK))
def CK (a0:bN) (aD:(List Item)):Option ((List Item)) :=
 (b1 (R:=List Item) (λ(s1:List Item × Int) =>
 (bif decide (s1.2<(aD.length:Int)) then
 ((idx aD s1.2).bind λbw =>
 (zZ a0 bw).bind λbQ =>
 ((bif bQ then
 (idx aD s1.2).bind λbJ =>
 (xX s1.1 bJ).bind λcr =>
 some cr
 else
 some s1.1)).bind λfa =>
 some fa).bind λkU =>
 some (.inl (kU,aJ (s1.2+1)))
 else
 some (.inr s1.1))) (([]:List Item),0)).bind λx2 =>
 some x2
def x_ (a0:bN) (aD:(List Item)):Option ((List Item)) :=
 (CK a0 aD).bind λa8 =>
 (b1 (R:=List Item) (λ(s2:List Item × Int) =>
 (bif !decide (s2.2=(s2.1.length:Int)) then
 (((b1 (R:=List Item) (λ(dA:List Item × Int) =>
 (bif decide (dA.2<(s2.1.length:Int)) then
 (idx dA.1 dA.2).bind λew =>
 (yb a0 ew).bind λch =>
 (b1 (R:=List Item) (λ(e1:List Item × Int) =>
 ((bif decide (e1.2<(a0.bh.length:Int)) then some (decide (1000<=ch)) else some false)).bind λnB =>
 (bif nB then
 ((idx a0.bh e1.2).bind λeL =>
 ((bif decide (eL.Left=aJ (ch - 1000)) then
 (xX e1.1 (⟨e1.2,0⟩:Item)).bind λgb =>
 some gb
 else
 some e1.1)).bind λmB =>
 some mB).bind λxB =>
 some (.inl (xB,aJ (e1.2+1)))
 else
 some (.inr e1.1))) (dA.1,0)).bind λcP =>
 (bif !decide ((cP.length:Int)=(s2.1.length:Int)) then
 some (.inr cP)
 else
 some (.inl (cP,aJ (dA.2+1))))
 else
 some (.inr dA.1))) (s2.1,0)).bind λcw =>
 some cw).bind λkW =>
 some (kW,(s2.1.length:Int))).bind λkV =>
 some (.inl (kV.1,kV.2))
 else
 some (.inr s2.1))) (a8,(-1))).bind λa7 =>
 some a7
def C6 (a0:bN) (aD:(List Item)) (a2:Int):Option ((List Item)) :=
 (x_ a0 aD).bind λa8 =>
 (b1 (R:=List Item) (λ(s2:List Item × Int) =>
 (bif decide (s2.2<(a8.length:Int)) then
 ((idx a8 s2.2).bind λbQ =>
 (yb a0 bQ).bind λb6 =>
 ((bif decide (0<=b6) then some (decide (b6=a2)) else some false)).bind λim =>
 ((bif im then
 (idx a8 s2.2).bind λch =>
 (idx a8 s2.2).bind λed =>
 (xX s2.1 (⟨ch.Prod,aJ (ed.e'+1)⟩:Item)).bind λcP =>
 some cP
 else
 some s2.1)).bind λjw =>
 some jw).bind λkV =>
 some (.inl (kV,aJ (s2.2+1)))
 else
 some (.inr s2.1))) (([]:List Item),0)).bind λa7 =>
 some a7
def CL (a0:(List Item)) (aD:(List Item)):Option (Bool) :=
 (bif !decide ((a0.length:Int)=(aD.length:Int)) then
 some false
 else
 (b1 (R:=(Unit) ⊕ (Bool)) (λ(s2:Int) =>
 (bif decide (s2<(a0.length:Int)) then
 (idx a0 s2).bind λbQ =>
 (idx aD s2).bind λb6 =>
 (bif !(decide (bQ.Prod=b6.Prod)&&(decide (bQ.e'=b6.e')&&true)) then
 some (.inr (.inr false))
 else
 some (.inl (aJ (s2+1))))
 else
 some (.inr (.inl ())))) 0).bind λa7 =>
 (match a7 with
 | .inl bq =>
 some true
 | .inr bS =>
 some bS))
structure Move where
 Sym:Int
 jF:Int
 deriving DecidableEq,Inhabited
structure State where
 Kernel:(List Item)
 eW:(List Move)
 deriving DecidableEq,Inhabited
def lI:bK Move:=⟨2,λx=>[ae x.Sym,ae x.jF],λ_=>rfl,λ_=>dp.bl⟩
instance:Flat lI:=⟨λ_=>rfl⟩
instance:lZ lI:=⟨λx=>(inferInstance:jC [ae x.Sym,ae x.jF])⟩
instance:gV lI lI:=⟨rfl,λx=>(inferInstance:dr [ae x.Sym,ae x.jF] [ae x.Sym,ae x.jF])⟩
def gP:bK State:=⟨2,λx=>[ag fU x.Kernel,ag lI x.eW],λ_=>rfl,λ_=>dp.bl⟩
instance:Flat gP:=⟨λ_=>rfl⟩
instance:gV gP gP:=⟨rfl,λx=>(inferInstance:dr [ag fU x.Kernel,ag lI x.eW] [ag fU x.Kernel,ag lI x.eW])⟩
def C7 (a0:(List State)) (aD:(List Item)):Option (Int) :=
 (b1 (R:=(Unit) ⊕ (Int)) (λ(s1:Int) =>
 (bif decide (s1<(a0.length:Int)) then
 (idx a0 s1).bind λbw =>
 (CL bw.Kernel aD).bind λbQ =>
 (bif bQ then
 some (.inr (.inr s1))
 else
 some (.inl (aJ (s1+1))))
 else
 some (.inr (.inl ())))) 0).bind λx2 =>
 (match x2 with
 | .inl a7 =>
 some (-1)
 | .inr bq =>
 some bq)
def hd:bK State:=⟨2,λx=>[ag fU x.Kernel,aj lI x.eW],λ_=>rfl,λ_=>dp.bl⟩
instance:gV hd gP:=⟨rfl,λx=>(inferInstance:dr [ag fU x.Kernel,aj lI x.eW] [ag fU x.Kernel,ag lI x.eW])⟩
def Ai (a0:bN):Option ((List State) × Int) :=
 (C5 a0).bind λa8 =>
 (b1 (R:=(List State) ⊕ (List State × Int)) (λ(s2:List State × Int) =>
 (bif decide (s2.2<(s2.1.length:Int)) then
 (idx s2.1 s2.2).bind λbQ =>
 (x_ a0 bQ.Kernel).bind λb6 =>
 (b1 (R:=List Int) (λ(ie:List Int × Int) =>
 (bif decide (ie.2<(b6.length:Int)) then
 ((idx b6 ie.2).bind λed =>
 (yb a0 ed).bind λcP =>
 ((bif decide (0<=cP) then
 (pT ie.1 cP).bind λdO =>
 some dO
 else
 some ie.1)).bind λmA =>
 some mA).bind λiI =>
 some (.inl (iI,aJ (ie.2+1)))
 else
 some (.inr ie.1))) (([]:List Int),0)).bind λbJ =>
 (b1 (R:=(List State) ⊕ (List State × Int)) (λ(dd:List State × Int) =>
 (bif decide (dd.2<(a8.length:Int)) then
 (idx a8 dd.2).bind λgb =>
 (x8 bJ gb).bind λhE =>
 (bif !hE then
 some (.inl (dd.1,aJ (dd.2+1)))
 else
 (idx dd.1 s2.2).bind λeb =>
 (idx a8 dd.2).bind λcW =>
 (C6 a0 eb.Kernel cW).bind λek =>
 (C7 dd.1 ek).bind λhY =>
 (bif decide (hY<0) then
 (bif decide ((dd.1.length:Int)=150) then
 some (.inr (.inr (([]:List State),4)))
 else
 (c' dd.1 [(⟨ek,([]:List Move)⟩:State)]).bind λe8 =>
 (idx (dd.1++[(⟨ek,([]:List Move)⟩:State)]) s2.2).bind λkk =>
 (idx a8 dd.2).bind λee =>
 (c' kk.eW [(⟨ee,(dd.1.length:Int)⟩:Move)]).bind λp0 =>
 some (.inl ((dd.1++[(⟨ek,([]:List Move)⟩:State)]).set s2.2.toNat (⟨kk.Kernel,kk.eW++[(⟨ee,(dd.1.length:Int)⟩:Move)]⟩:State),aJ (dd.2+1))))
 else
 (idx dd.1 s2.2).bind λj3 =>
 (idx a8 dd.2).bind λcY =>
 (c' j3.eW [(⟨cY,hY⟩:Move)]).bind λgn =>
 some (.inl (dd.1.set s2.2.toNat (⟨j3.Kernel,j3.eW++[(⟨cY,hY⟩:Move)]⟩:State),aJ (dd.2+1)))))
 else
 some (.inr (.inl dd.1)))) (s2.1,0)).bind λdK =>
 (match dK with
 | .inl eL =>
 some (.inl (eL,aJ (s2.2+1)))
 | .inr fL =>
 some (.inr (.inr (fL.1,fL.2))))
 else
 some (.inr (.inl s2.1)))) ([(⟨[(⟨0,0⟩:Item)],([]:List Move)⟩:State)],0)).bind λa7 =>
 (match a7 with
 | .inl bq =>
 some (bq,0)
 | .inr bS =>
 some (bS.1,bS.2))
def x5 (a0:Source):Option (bN × (List State) × Bool) :=
 (x7 a0).bind λa8 =>
 (bif !a8.2 then
 some (a8.1,([]:List State),false)
 else
 (Ai a8.1).bind λa7 =>
 some (a8.1,a7.1,decide (a7.2=0)))
def rn (a0:(List State)) (aD:Int) (a2:Int):Option (Int) :=
 (b1 (R:=(Unit) ⊕ (Int)) (λ(s1:Int) =>
 ((bif decide (0<=aD) then (bif decide (aD<(a0.length:Int)) then ((idx a0 aD).bind λbQ=>some (decide (s1<(bQ.eW.length:Int)))) else some false) else some false)).bind λtG =>
 (bif tG then
 (idx a0 aD).bind λbJ =>
 (idx bJ.eW s1).bind λcr =>
 (bif decide (cr.Sym=a2) then
 (idx a0 aD).bind λch =>
 (idx ch.eW s1).bind λed =>
 some (.inr (.inr ed.jF))
 else
 some (.inl (aJ (s1+1))))
 else
 some (.inr (.inl ())))) 0).bind λx2 =>
 (match x2 with
 | .inl a7 =>
 some (-1)
 | .inr bq =>
 some bq)
structure Cell where
 State:Int
 bX:Int
 j7:Int
 lW:Bool
 bh:(List Int)
 deriving DecidableEq,Inhabited
def iF:bK Cell:=⟨5,λx=>[ae x.State,ae x.bX,ae x.j7,a_ x.lW,ag ai x.bh],λ_=>rfl,λ_=>dp.bl⟩
instance:Flat iF:=⟨λ_=>rfl⟩
instance:gV iF iF:=⟨rfl,λx=>(inferInstance:dr [ae x.State,ae x.bX,ae x.j7,a_ x.lW,ag ai x.bh] [ae x.State,ae x.bX,ae x.j7,a_ x.lW,ag ai x.bh])⟩
instance {x:Cell}:dr (iF.cells x) [ae x.State,ae x.bX,ae x.j7,a_ x.lW,ag ai x.bh]:=(inferInstance:dr [ae x.State,ae x.bX,ae x.j7,a_ x.lW,ag ai x.bh] [ae x.State,ae x.bX,ae x.j7,a_ x.lW,ag ai x.bh])
def Af (a0:Cell):Option (Int) :=
 ((bif decide (0<=a0.j7) then
 some (aJ ((a0.bh.length:Int)+1))
 else
 some (a0.bh.length:Int))).bind λjv =>
 ((bif a0.lW then
 some (aJ (jv+1))
 else
 some jv)).bind λix =>
 some ix
structure k8 where
 State:Int
 Prod:Int
 ba:(List Int)
 deriving DecidableEq,Inhabited
def rT:bK k8:=⟨3,λx=>[ae x.State,ae x.Prod,ag ai x.ba],λ_=>rfl,λ_=>dp.bl⟩
instance:Flat rT:=⟨λ_=>rfl⟩
instance:gV rT rT:=⟨rfl,λx=>(inferInstance:dr [ae x.State,ae x.Prod,ag ai x.ba] [ae x.State,ae x.Prod,ag ai x.ba])⟩
instance {x:k8}:dr (rT.cells x) [ae x.State,ae x.Prod,ag ai x.ba]:=(inferInstance:dr [ae x.State,ae x.Prod,ag ai x.ba] [ae x.State,ae x.Prod,ag ai x.ba])
def CX (a0:bN) (aD:(List State)) (a2:(List k8)):Option ((List Cell)) :=
 (b1 (R:=List Cell) (λ(s1:List Cell × Int) =>
 (bif decide (s1.2<(aD.length:Int)) then
 (b1 (R:=List Cell) (λ(cm:List Cell × Int) =>
 (bif decide (cm.2<(a0.ba.length:Int)) then
 ((rn aD s1.2 cm.2).bind λbJ =>
 (b1 (R:=Bool) (λ(gI:Bool × Int) =>
 (idx aD s1.2).bind λed =>
 (bif decide (gI.2<(ed.Kernel.length:Int)) then
 (idx aD s1.2).bind λcc =>
 (idx cc.Kernel gI.2).bind λbT =>
 ((bif gI.1 then some true else (bif decide (cm.2=0) then (bif decide (bT.Prod=0) then some (decide (bT.e'=1)) else some false) else some false))).bind λq3 =>
 some (.inl (q3,aJ (gI.2+1)))
 else
 some (.inr gI.1))) (false,0)).bind λew =>
 (b1 (R:=List Int) (λ(iJ:List Int × Int) =>
 (bif decide (iJ.2<(a2.length:Int)) then
 ((((idx a2 iJ.2).bind λeb=>(bif decide (eb.State=s1.2) then ((idx a2 iJ.2).bind λek=>((x8 ek.ba cm.2).bind λhY=>some hY)) else some false))).bind λtE =>
 ((bif tE then
 (idx a2 iJ.2).bind λkk =>
 (pT iJ.1 kk.Prod).bind λee =>
 some ee
 else
 some iJ.1)).bind λpN =>
 some pN).bind λdY =>
 some (.inl (dY,aJ (iJ.2+1)))
 else
 some (.inr iJ.1))) (([]:List Int),0)).bind λd_ =>
 (Af (⟨s1.2,cm.2,bJ,ew,d_⟩:Cell)).bind λp0 =>
 ((bif decide (0<p0) then
 (c' cm.1 [(⟨s1.2,cm.2,bJ,ew,d_⟩:Cell)]).bind λgn =>
 some (cm.1++[(⟨s1.2,cm.2,bJ,ew,d_⟩:Cell)])
 else
 some cm.1)).bind λJz =>
 some Jz).bind λqy =>
 some (.inl (qy,aJ (cm.2+1)))
 else
 some (.inr cm.1))) (s1.1,0)).bind λbw =>
 some (.inl (bw,aJ (s1.2+1)))
 else
 some (.inr s1.1))) (([]:List Cell),0)).bind λx2 =>
 some x2
def Al (a0:(List (List Int))) (aD:(List (List Int))):Option ((List (List Int))) :=
 (b1 (R:=List (List Int)) (λ(s1:List (List Int) × Bool) =>
 (bif s1.2 then
 (b1 (R:=List (List Int) × Bool) (λ(cm:List (List Int) × Bool × Int) =>
 (bif decide (cm.2.2<(cm.1.length:Int)) then
 (idx aD cm.2.2).bind λcw =>
 (idx cm.1 cm.2.2).bind λbJ =>
 (b1 (R:=List (List Int)) (λ(gI:List (List Int) × Int) =>
 (bif decide (gI.2<(cw.length:Int)) then
 (b1 (R:=List (List Int)) (λ(h4:List (List Int) × Int) =>
 (idx cw gI.2).bind λdO =>
 (idx h4.1 dO).bind λeK =>
 (bif decide (h4.2<(eK.length:Int)) then
 (idx h4.1 cm.2.2).bind λeL =>
 (idx cw gI.2).bind λfL =>
 (idx h4.1 fL).bind λd_ =>
 (idx d_ h4.2).bind λgb =>
 (pT eL gb).bind λhE =>
 some (.inl (h4.1.set cm.2.2.toNat hE,aJ (h4.2+1)))
 else
 some (.inr h4.1))) (gI.1,0)).bind λcc =>
 some (.inl (cc,aJ (gI.2+1)))
 else
 some (.inr gI.1))) (cm.1,0)).bind λew =>
 ((bif cm.2.1 then some true else ((idx ew cm.2.2).bind λeb=>some (!decide ((eb.length:Int)=(bJ.length:Int)))))).bind λwS =>
 some (.inl (ew,wS,aJ (cm.2.2+1)))
 else
 some (.inr (cm.1,cm.2.1)))) (s1.1,false,0)).bind λbw =>
 some (.inl (bw.1,bw.2))
 else
 some (.inr s1.1))) (a0,true)).bind λx2 =>
 some x2
structure Trans where
 State:Int
 fC:Int
 deriving DecidableEq,Inhabited
def qd:bK Trans:=⟨2,λx=>[ae x.State,ae x.fC],λ_=>rfl,λ_=>dp.bl⟩
instance:Flat qd:=⟨λ_=>rfl⟩
instance:lZ qd:=⟨λx=>(inferInstance:jC [ae x.State,ae x.fC])⟩
instance:gV qd qd:=⟨rfl,λx=>(inferInstance:dr [ae x.State,ae x.fC] [ae x.State,ae x.fC])⟩
def qD (a0:(List State)):Option ((List Trans)) :=
 (b1 (R:=List Trans) (λ(s1:List Trans × Int) =>
 (bif decide (s1.2<(a0.length:Int)) then
 (b1 (R:=List Trans) (λ(cm:List Trans × Int) =>
 (idx a0 s1.2).bind λb6 =>
 (bif decide (cm.2<(b6.eW.length:Int)) then
 ((idx a0 s1.2).bind λcr =>
 (idx cr.eW cm.2).bind λew =>
 ((bif decide (1000<=ew.Sym) then
 (idx a0 s1.2).bind λcP =>
 (idx cP.eW cm.2).bind λcc =>
 (c' cm.1 [(⟨s1.2,cc.Sym⟩:Trans)]).bind λbT =>
 some (cm.1++[(⟨s1.2,cc.Sym⟩:Trans)])
 else
 some cm.1)).bind λiI =>
 some iI).bind λjQ =>
 some (.inl (jQ,aJ (cm.2+1)))
 else
 some (.inr cm.1))) (s1.1,0)).bind λbw =>
 some (.inl (bw,aJ (s1.2+1)))
 else
 some (.inr s1.1))) (([]:List Trans),0)).bind λx2 =>
 some x2
def CM (a0:(List Item)):Option (Bool) :=
 (b1 (R:=(Unit) ⊕ (Bool)) (λ(s1:Int) =>
 (bif decide (s1<(a0.length:Int)) then
 (((idx a0 s1).bind λbw=>(bif decide (bw.Prod=0) then ((idx a0 s1).bind λb6=>some (decide (b6.e'=1))) else some false))).bind λmo =>
 (bif mo then
 some (.inr (.inr true))
 else
 some (.inl (aJ (s1+1))))
 else
 some (.inr (.inl ())))) 0).bind λx2 =>
 (match x2 with
 | .inl a7 =>
 some false
 | .inr bq =>
 some bq)
def C8 (a0:(List State)):Option ((List (List Int))) :=
 (qD a0).bind λa8 =>
 (b1 (R:=List (List Int)) (λ(s2:List (List Int) × Int) =>
 (bif decide (s2.2<(a8.length:Int)) then
 (idx a8 s2.2).bind λbw =>
 (idx a8 s2.2).bind λbQ =>
 (rn a0 bw.State bQ.fC).bind λb6 =>
 (idx a0 b6).bind λcw =>
 (CM cw.Kernel).bind λbJ =>
 ((bif bJ then
 (c' ([]:List Int) [0]).bind λch =>
 some [0]
 else
 some ([]:List Int))).bind λjw =>
 (b1 (R:=List Int) (λ(e1:List Int × Int) =>
 (idx a0 b6).bind λbT =>
 (bif decide (e1.2<(bT.eW.length:Int)) then
 ((idx a0 b6).bind λdK =>
 (idx dK.eW e1.2).bind λeL =>
 ((bif decide (eL.Sym<1000) then
 (idx a0 b6).bind λgb =>
 (idx gb.eW e1.2).bind λhE =>
 (pT e1.1 hE.Sym).bind λgy =>
 some gy
 else
 some e1.1)).bind λmB =>
 some mB).bind λe_ =>
 some (.inl (e_,aJ (e1.2+1)))
 else
 some (.inr e1.1))) (jw,0)).bind λcP =>
 (c' s2.1 [cP]).bind λeb =>
 some (.inl (s2.1++[cP],aJ (s2.2+1)))
 else
 some (.inr s2.1))) (([]:List (List Int)),0)).bind λa7 =>
 some a7
def z7 (a0:(List Bool)) (aD:(List Int)):Option (Bool) :=
 (b1 (R:=(Unit) ⊕ (Bool)) (λ(s1:Int) =>
 (bif decide (s1<(aD.length:Int)) then
 (((idx aD s1).bind λbw=>(bif decide (bw<1000) then some true else ((idx aD s1).bind λb6=>((idx a0 (aJ (b6 - 1000))).bind λcw=>some (!cw)))))).bind λim =>
 (bif im then
 some (.inr (.inr false))
 else
 some (.inl (aJ (s1+1))))
 else
 some (.inr (.inl ())))) 0).bind λx2 =>
 (match x2 with
 | .inl a7 =>
 some true
 | .inr bq =>
 some bq)
def z1 (a0:bN):Option ((List Bool)) :=
 (nk (a0.b2.length:Int) false).bind λa8 =>
 (b1 (R:=List Bool) (λ(s2:List Bool × Bool) =>
 (bif s2.2 then
 (b1 (R:=List Bool × Bool) (λ(da:List Bool × Bool × Int) =>
 (bif decide (da.2.2<(a0.bh.length:Int)) then
 ((idx a0.bh da.2.2).bind λcr =>
 (((idx da.1 cr.Left).bind λew=>(bif !ew then ((z7 da.1 cr.eu).bind λed=>some ed) else some false))).bind λtD =>
 ((bif tD then
 (idx da.1 cr.Left).bind λdO =>
 some (da.1.set cr.Left.toNat true,true)
 else
 some (da.1,da.2.1))).bind λmA =>
 some (mA.1,mA.2)).bind λjQ =>
 some (.inl (jQ.1,jQ.2,aJ (da.2.2+1)))
 else
 some (.inr (da.1,da.2.1)))) (s2.1,false,0)).bind λbQ =>
 some (.inl (bQ.1,bQ.2))
 else
 some (.inr s2.1))) (a8,true)).bind λa7 =>
 some a7
def z6 (a0:(List Trans)) (aD:Int) (a2:Int):Option (Int) :=
 (b1 (R:=(Unit) ⊕ (Int)) (λ(s1:Int) =>
 (bif decide (s1<(a0.length:Int)) then
 (((idx a0 s1).bind λbw=>(bif decide (bw.State=aD) then ((idx a0 s1).bind λb6=>some (decide (b6.fC=a2))) else some false))).bind λmo =>
 (bif mo then
 some (.inr (.inr s1))
 else
 some (.inl (aJ (s1+1))))
 else
 some (.inr (.inl ())))) 0).bind λx2 =>
 (match x2 with
 | .inl a7 =>
 some (-1)
 | .inr bq =>
 some bq)
def C9 (a0:bN) (aD:(List State)):Option ((List (List Int))) :=
 (qD aD).bind λa8 =>
 (z1 a0).bind λx2 =>
 (b1 (R:=List (List Int)) (λ(ea:List (List Int) × Int) =>
 (bif decide (ea.2<(a8.length:Int)) then
 (idx a8 ea.2).bind λbQ =>
 (idx a8 ea.2).bind λb6 =>
 (rn aD bQ.State b6.fC).bind λcw =>
 (b1 (R:=List Int) (λ(gu:List Int × Int) =>
 (idx aD cw).bind λch =>
 (bif decide (gu.2<(ch.eW.length:Int)) then
 ((idx aD cw).bind λcc =>
 (idx cc.eW gu.2).bind λbT =>
 ((bif decide (1000<=bT.Sym) then ((idx x2 (aJ (bT.Sym - 1000))).bind λeK=>some eK) else some false)).bind λHa =>
 ((bif Ha then
 (z6 a8 cw bT.Sym).bind λd_ =>
 (pT gu.1 d_).bind λgb =>
 some gb
 else
 some gu.1)).bind λnS =>
 some nS).bind λoi =>
 some (.inl (oi,aJ (gu.2+1)))
 else
 some (.inr gu.1))) (([]:List Int),0)).bind λcr =>
 (c' ea.1 [cr]).bind λhE =>
 some (.inl (ea.1++[cr],aJ (ea.2+1)))
 else
 some (.inr ea.1))) (([]:List (List Int)),0)).bind λbq =>
 some bq
def Am (a0:(List State)) (aD:Int) (a2:(List Int)):Option (Int) :=
 (b1 (R:=Int) (λ(s1:Int × Int) =>
 ((bif decide (s1.2<(a2.length:Int)) then some (decide (0<=s1.1)) else some false)).bind λkM =>
 (bif kM then
 (idx a2 s1.2).bind λbQ =>
 (rn a0 s1.1 bQ).bind λb6 =>
 some (.inl (b6,aJ (s1.2+1)))
 else
 some (.inr s1.1))) (aD,0)).bind λx2 =>
 some x2
def C_ (a0:bN) (aD:(List State)):Option ((List (List Int))) :=
 (qD aD).bind λa8 =>
 (z1 a0).bind λx2 =>
 (nk (a8.length:Int) ([]:List Int)).bind λa7 =>
 (b1 (R:=List (List Int)) (λ(cZ:List (List Int) × Int) =>
 (bif decide (cZ.2<(a8.length:Int)) then
 (b1 (R:=List (List Int)) (λ(dA:List (List Int) × Int) =>
 (bif decide (dA.2<(a0.bh.length:Int)) then
 ((idx a0.bh dA.2).bind λch =>
 (idx a0.bh dA.2).bind λed =>
 (idx a8 cZ.2).bind λcP =>
 (bif !decide (aJ (1000+ed.Left)=cP.fC) then
 some dA.1
 else
 (b1 (R:=List (List Int)) (λ(hD:List (List Int) × Int) =>
 (bif decide (hD.2<(ch.eu.length:Int)) then
 ((((idx ch.eu hD.2).bind λfL=>(bif decide (fL<1000) then some true else ((nW ch.eu (aJ (hD.2+1)) ch.eu.length).bind λgb=>((z7 x2 gb).bind λhE=>some (!hE)))))).bind λHe =>
 (bif He then
 some hD.1
 else
 (idx a8 cZ.2).bind λcW =>
 (nW ch.eu 0 hD.2).bind λek =>
 (Am aD cW.State ek).bind λhY =>
 ((bif decide (0<=hY) then
 (idx ch.eu hD.2).bind λe8 =>
 (z6 a8 hY e8).bind λkk =>
 ((bif decide (0<=kk) then
 (idx hD.1 kk).bind λj3 =>
 (pT j3 cZ.2).bind λcY =>
 some (hD.1.set kk.toNat cY)
 else
 some hD.1)).bind λJy =>
 some Jy
 else
 some hD.1)).bind λuv =>
 some uv)).bind λnS =>
 some (.inl (nS,aJ (hD.2+1)))
 else
 some (.inr hD.1))) (dA.1,0)).bind λdO =>
 some dO)).bind λeP =>
 some (.inl (eP,aJ (dA.2+1)))
 else
 some (.inr dA.1))) (cZ.1,0)).bind λcw =>
 some (.inl (cw,aJ (cZ.2+1)))
 else
 some (.inr cZ.1))) (a7,0)).bind λbS =>
 some bS
def Aj (a0:bN) (aD:(List State)):Option ((List (List Int))) :=
 (C8 aD).bind λa8 =>
 (C9 a0 aD).bind λx2 =>
 (Al a8 x2).bind λa7 =>
 (C_ a0 aD).bind λbq =>
 (Al a7 bq).bind λbS =>
 some bS
def C0 (a0:bN) (aD:(List Item)):Option ((List Int)) :=
 (x_ a0 aD).bind λa8 =>
 (b1 (R:=List Int) (λ(s2:List Int × Int) =>
 (bif decide (s2.2<(a8.length:Int)) then
 ((((idx a8 s2.2).bind λbQ=>(bif decide (0<bQ.Prod) then ((idx a8 s2.2).bind λcw=>((idx a8 s2.2).bind λbJ=>((idx a0.bh bJ.Prod).bind λcr=>some (decide (cw.e'=(cr.eu.length:Int)))))) else some false))).bind λwQ =>
 ((bif wQ then
 (idx a8 s2.2).bind λcP =>
 (c' s2.1 [cP.Prod]).bind λcc =>
 some (s2.1++[cP.Prod])
 else
 some s2.1)).bind λiI =>
 some iI).bind λkV =>
 some (.inl (kV,aJ (s2.2+1)))
 else
 some (.inr s2.1))) (([]:List Int),0)).bind λa7 =>
 some a7
def C1 (a0:bN) (aD:(List State)) (a2:Int) (a3:Int):Option ((List Int)) :=
 ((bif decide (a2<0) then some true else (bif decide ((aD.length:Int)<=a2) then some true else (bif decide (a3<1) then some true else some (decide ((a0.bh.length:Int)<=a3)))))).bind λc4 =>
 (bif c4 then
 some ([]:List Int)
 else
 (qD aD).bind λbw =>
 (b1 (R:=List Int) (λ(ds:List Int × Int) =>
 (bif decide (ds.2<(bw.length:Int)) then
 ((((idx bw ds.2).bind λew=>((idx a0.bh a3).bind λch=>(bif decide (ew.fC=aJ (1000+ch.Left)) then ((idx bw ds.2).bind λcP=>((idx a0.bh a3).bind λcc=>((Am aD cP.State cc.eu).bind λbT=>some (decide (bT=a2))))) else some false)))).bind λnB =>
 ((bif nB then
 (c' ds.1 [ds.2]).bind λeL =>
 some (ds.1++[ds.2])
 else
 some ds.1)).bind λe_ =>
 some e_).bind λjw =>
 some (.inl (jw,aJ (ds.2+1)))
 else
 some (.inr ds.1))) (([]:List Int),0)).bind λb6 =>
 some b6)
def CY (a0:bN) (aD:(List State)):Option ((List k8)) :=
 (Aj a0 aD).bind λa8 =>
 (b1 (R:=List k8) (λ(s2:List k8 × Int) =>
 (bif decide (s2.2<(aD.length:Int)) then
 (idx aD s2.2).bind λbw =>
 (C0 a0 bw.Kernel).bind λbQ =>
 (b1 (R:=List k8) (λ(dA:List k8 × Int) =>
 (bif decide (dA.2<(bQ.length:Int)) then
 (idx bQ dA.2).bind λew =>
 (idx bQ dA.2).bind λch =>
 (C1 a0 aD s2.2 ch).bind λed =>
 (b1 (R:=List Int) (λ(h4:List Int × Int) =>
 (bif decide (h4.2<(ed.length:Int)) then
 (b1 (R:=List Int) (λ(dd:List Int × Int) =>
 (idx ed h4.2).bind λfL =>
 (idx a8 fL).bind λd_ =>
 (bif decide (dd.2<(d_.length:Int)) then
 (idx ed h4.2).bind λhE =>
 (idx a8 hE).bind λgy =>
 (idx gy dd.2).bind λeb =>
 (pT dd.1 eb).bind λcW =>
 some (.inl (cW,aJ (dd.2+1)))
 else
 some (.inr dd.1))) (h4.1,0)).bind λdK =>
 some (.inl (dK,aJ (h4.2+1)))
 else
 some (.inr h4.1))) (([]:List Int),0)).bind λcc =>
 (c' dA.1 [(⟨s2.2,ew,cc⟩:k8)]).bind λek =>
 some (.inl (dA.1++[(⟨s2.2,ew,cc⟩:k8)],aJ (dA.2+1)))
 else
 some (.inr dA.1))) (s2.1,0)).bind λcw =>
 some (.inl (cw,aJ (s2.2+1)))
 else
 some (.inr s2.1))) (([]:List k8),0)).bind λa7 =>
 some a7
def vY (a0:Source):Option (bN × (List State) × (List Cell) × Bool) :=
 (x5 a0).bind λa8 =>
 (bif !a8.2.2 then
 some (a8.1,([]:List State),([]:List Cell),false)
 else
 (CY a8.1 a8.2.1).bind λa7 =>
 (CX a8.1 a8.2.1 a7).bind λbq =>
 some (a8.1,a8.2.1,bq,true))
def C' (a0:bN) (aD:Int):Option (Int × Int) :=
 ((bif decide (aD<0) then some true else (bif decide ((a0.bh.length:Int)<=aD) then some true else ((idx a0.bh aD).bind λa7=>some (decide (a7.Prec<0)))))).bind λc4 =>
 (bif c4 then
 some (0,0)
 else
 (idx a0.bh aD).bind λbw =>
 (idx a0.ba bw.Prec).bind λbQ =>
 some (bQ.Level,bQ.fq))
def C2 (a0:bN) (aD:Int) (a2:Int):Option (Int) :=
 (C' a0 aD).bind λa8 =>
 ((bif decide (a8.1=0) then some true else (bif decide (a2<0) then some true else (bif decide ((a0.ba.length:Int)<=a2) then some true else ((idx a0.ba a2).bind λbS=>some (decide (bS.Level=0))))))).bind λoJ =>
 (bif oJ then
 some 0
 else
 (idx a0.ba a2).bind λb6 =>
 (bif decide (a8.1<b6.Level) then
 some 1
 else
 (bif decide (b6.Level<a8.1) then
 some 2
 else
 (bif decide (b6.fq=1) then
 some 2
 else
 (bif decide (b6.fq=2) then
 some 1
 else
 some 3)))))
structure fb where
 State:Int
 bX:Int
 hG:Int
 Drop:Int
 deriving DecidableEq,Inhabited
structure Act where
 Kind:Int
 N:Int
 deriving DecidableEq,Inhabited
def e3:bK fb:=⟨4,λx=>[ae x.State,ae x.bX,ae x.hG,ae x.Drop],λ_=>rfl,λ_=>dp.bl⟩
instance:Flat e3:=⟨λ_=>rfl⟩
instance:lZ e3:=⟨λx=>(inferInstance:jC [ae x.State,ae x.bX,ae x.hG,ae x.Drop])⟩
instance:gV e3 e3:=⟨rfl,λx=>(inferInstance:dr [ae x.State,ae x.bX,ae x.hG,ae x.Drop] [ae x.State,ae x.bX,ae x.hG,ae x.Drop])⟩
instance {x:fb}:dr (e3.cells x) [ae x.State,ae x.bX,ae x.hG,ae x.Drop]:=(inferInstance:dr [ae x.State,ae x.bX,ae x.hG,ae x.Drop] [ae x.State,ae x.bX,ae x.hG,ae x.Drop])
def x6 (a0:bN) (aD:Cell):Option (Act × (List fb)) :=
 (b1 (R:=List fb) (λ(s1:List fb × Int) =>
 (bif decide (s1.2<(aD.bh.length:Int)) then
 (idx aD.bh 0).bind λbS =>
 (idx aD.bh s1.2).bind λbw =>
 (c' s1.1 [(⟨aD.State,aD.bX,bS,bw⟩:fb)]).bind λbQ =>
 some (.inl (s1.1++[(⟨aD.State,aD.bX,bS,bw⟩:fb)],aJ (s1.2+1)))
 else
 some (.inr s1.1))) (([]:List fb),1)).bind λx2 =>
 ((bif aD.lW then
 some (3,0)
 else
 some (1,aD.j7))).bind λfa =>
 (bif decide ((aD.bh.length:Int)=0) then
 some ((⟨fa.1,fa.2⟩:Act),x2)
 else
 (idx aD.bh 0).bind λcr =>
 ((bif decide (aD.j7<0) then some (!aD.lW) else some false)).bind λjI =>
 (bif jI then
 some ((⟨2,cr⟩:Act),x2)
 else
 (C2 a0 cr aD.bX).bind λcP =>
 ((bif aD.lW then some true else some (decide (cP=0)))).bind λwR =>
 (bif wR then
 (c' x2 [(⟨aD.State,aD.bX,(-1),cr⟩:fb)]).bind λeK =>
 some ((⟨fa.1,fa.2⟩:Act),x2++[(⟨aD.State,aD.bX,(-1),cr⟩:fb)])
 else
 (bif decide (cP=2) then
 some ((⟨2,cr⟩:Act),x2)
 else
 (bif decide (cP=3) then
 some ((⟨4,0⟩:Act),x2)
 else
 some ((⟨fa.1,fa.2⟩:Act),x2))))))
structure gT where
 cz:(List (List Act))
 ei:(List (List Int))
 deriving DecidableEq,Inhabited
def eE:bK Act:=⟨2,λx=>[ae x.Kind,ae x.N],λ_=>rfl,λ_=>dp.bl⟩
instance:Flat eE:=⟨λ_=>rfl⟩
instance:lZ eE:=⟨λx=>(inferInstance:jC [ae x.Kind,ae x.N])⟩
instance:gV eE eE:=⟨rfl,λx=>(inferInstance:dr [ae x.Kind,ae x.N] [ae x.Kind,ae x.N])⟩
def Ad (a0:bN) (aD:(List State)) (a2:(List Cell)):Option (gT × (List fb)) :=
 (b1 (R:=List (List Act) × List (List Int) × List fb) (λ(s1:List (List Act) × List (List Int) × List fb × Int) =>
 (bif decide (s1.2.2.2<(aD.length:Int)) then
 (nk (a0.ba.length:Int) (⟨0,0⟩:Act)).bind λbS =>
 (b1 (R:=List fb × List Act) (λ(da:List fb × List Act × Int) =>
 (bif decide (da.2.2<(a2.length:Int)) then
 ((idx a2 da.2.2).bind λcr =>
 ((bif decide (cr.State=s1.2.2.2) then
 (idx a2 da.2.2).bind λed =>
 (x6 a0 ed).bind λcP =>
 (idx a2 da.2.2).bind λcc =>
 (idx da.2.1 cc.bX).bind λbT =>
 (c' da.1 cP.2).bind λdO =>
 some (da.1++cP.2,da.2.1.set cc.bX.toNat cP.1)
 else
 some (da.1,da.2.1))).bind λeP =>
 some (eP.1,eP.2)).bind λjQ =>
 some (.inl (jQ.1,jQ.2,aJ (da.2.2+1)))
 else
 some (.inr (da.1,da.2.1)))) (s1.2.2.1,bS,0)).bind λbQ =>
 (nk (a0.b2.length:Int) 0).bind λeK =>
 (b1 (R:=List Int) (λ(qG:List Int × Int) =>
 (bif decide (qG.2<(qG.1.length:Int)) then
 (rn aD s1.2.2.2 (aJ (1000+qG.2))).bind λgb =>
 (idx qG.1 qG.2).bind λhE =>
 some (.inl (qG.1.set qG.2.toNat gb,aJ (qG.2+1)))
 else
 some (.inr qG.1))) (eK,0)).bind λeL =>
 (c' s1.1 [bQ.2]).bind λgy =>
 (c' s1.2.1 [eL]).bind λeb =>
 some (.inl (s1.1++[bQ.2],s1.2.1++[eL],bQ.1,aJ (s1.2.2.2+1)))
 else
 some (.inr (s1.1,s1.2.1,s1.2.2.1)))) (([]:List (List Act)),([]:List (List Int)),([]:List fb),0)).bind λx2 =>
 some ((⟨x2.1,x2.2.1⟩:gT),x2.2.2)
def CS (a0:(List Cell)):Option (Int) :=
 (b1 (R:=Int) (λ(s1:Int × Int) =>
 (bif decide (s1.2<(a0.length:Int)) then
 ((idx a0 s1.2).bind λbw =>
 (Af bw).bind λbQ =>
 ((bif decide (1<bQ) then
 some (aJ (s1.1+1))
 else
 some s1.1)).bind λfa =>
 some fa).bind λkU =>
 some (.inl (kU,aJ (s1.2+1)))
 else
 some (.inr s1.1))) (0,0)).bind λx2 =>
 some x2
def sn (a0:Source):Option (bN × gT × Int × Bool) :=
 (vY a0).bind λa8 =>
 (bif !a8.2.2.2 then
 some (a8.1,(⟨([]:List (List Act)),([]:List (List Int))⟩:gT),0,false)
 else
 (Ad a8.1 a8.2.1 a8.2.2.1).bind λa7 =>
 (CS a8.2.2.1).bind λbq =>
 some (a8.1,a7.1,bq,true))
structure b4 where
 At:Int
 b8:Int
 deriving DecidableEq,Inhabited
def bP:bK b4:=⟨2,λx=>[ae x.At,ae x.b8],λ_=>rfl,λ_=>dp.bl⟩
instance:Flat bP:=⟨λ_=>rfl⟩
instance:lZ bP:=⟨λx=>(inferInstance:jC [ae x.At,ae x.b8])⟩
instance:gV bP bP:=⟨rfl,λx=>(inferInstance:dr [ae x.At,ae x.b8] [ae x.At,ae x.b8])⟩
def Ak (a0:(List (List b4))):Option (Bool) :=
 (bif decide (400<(a0.length:Int)) then
 some false
 else
 (b1 (R:=(Unit) ⊕ (Bool)) (λ(s2:Int) =>
 (bif decide (s2<(a0.length:Int)) then
 (idx a0 s2).bind λbQ =>
 (b1 (R:=(Unit) ⊕ (Bool)) (λ(dA:List Bool × Int) =>
 (bif decide (dA.2<(bQ.length:Int)) then
 (idx bQ dA.2).bind λch =>
 ((bif decide (ch.At<0) then some true else (bif decide (1000<=ch.At) then some true else ((xw 1000 dA.1 ch.At).bind λcc=>some cc)))).bind λwR =>
 (bif wR then
 some (.inr (.inr false))
 else
 (xw 1000 dA.1 ch.At).bind λeK =>
 some (.inl (dA.1.set ch.At.toNat true,aJ (dA.2+1))))
 else
 some (.inr (.inl ())))) ((List.replicate 1000 false),0)).bind λcw =>
 (match cw with
 | .inl bJ =>
 some (.inl (aJ (s2+1)))
 | .inr cr =>
 some (.inr (.inr cr)))
 else
 some (.inr (.inl ())))) 0).bind λa7 =>
 (match a7 with
 | .inl bq =>
 some true
 | .inr bS =>
 some bS))
def v_ (a0:Int):Option (Bool) :=
 some (!decide (a0=a0))
def uE (a0:Int) (aD:Int):Option (Int) :=
 (v_ a0).bind λa8 =>
 (v_ aD).bind λx2 =>
 (bif a8 then
 (bif x2 then
 some 0
 else
 some (-1))
 else
 (bif x2 then
 some 1
 else
 (bif decide (a0<aD) then
 some (-1)
 else
 (bif decide (aD<a0) then
 some 1
 else
 some 0))))
def C4 (a0:(List Int)):Option (Int) :=
 (b1 (R:=(Unit) ⊕ (Int)) (λ(s1:Int) =>
 (bif decide (s1<(a0.length:Int)) then
 (idx a0 s1).bind λbw =>
 (bif !decide (bw=0) then
 some (.inr (.inr bw))
 else
 some (.inl (aJ (s1+1))))
 else
 some (.inr (.inl ())))) 0).bind λx2 =>
 (match x2 with
 | .inl a7 =>
 some 0
 | .inr bq =>
 some bq)
def v8 (a0:Int) (aD:Int) (pj:(List (List b4))):Option (Int) :=
 (idx pj aD).bind λa8 =>
 (idx pj a0).bind λx2 =>
 (uE (a8.length:Int) (x2.length:Int)).bind λa7 =>
 (uE a0 aD).bind λbq =>
 (C4 [a7,bq]).bind λbS =>
 some bS
def Db (a0:b4) (pj:Int) (c1:(List Int)):Option (Bool) :=
 ((bif decide (aJ (pj+a0.At)<(c1.length:Int)) then ((idx c1 (aJ (pj+a0.At))).bind λx2=>some (!decide (x2=0))) else some false)).bind λjS =>
 some jS
def Fz (a0:(List b4)) (q0:Int) (q1:(List Int)):Option (Int) :=
 (b1 (R:=(Unit) ⊕ (Int)) (λ(s1:Int) =>
 (bif decide (s1<(a0.length:Int)) then
 (idx a0 s1).bind λbw =>
 (Db bw q0 q1).bind λbQ =>
 (bif bQ then
 some (.inr (.inr s1))
 else
 some (.inl (aJ (s1+1))))
 else
 some (.inr (.inl ())))) 0).bind λx2 =>
 (match x2 with
 | .inl a7 =>
 some (-1)
 | .inr bq =>
 some bq)
def FB (a0:(List b4)) (q0:Int) (q1:(List Int)):Option (Bool) :=
 (Fz a0 q0 q1).bind λa8 =>
 some (decide (0<=a8))
def x9 (a0:(List Int)) (aD:(List b4)) (a2:Int):Option (Bool) :=
 (FB aD a2 a0).bind λa8 =>
 some (!a8)
structure fy where
 cS:(List Int)
 b8:(List Int)
 b3:(List Int)
 deriving DecidableEq,Inhabited
def lH:bK fy:=⟨3,λx=>[ag ai x.cS,ag ai x.b8,ag ai x.b3],λ_=>rfl,λ_=>dp.bl⟩
instance:Flat lH:=⟨λ_=>rfl⟩
instance:gV lH lH:=⟨rfl,λx=>(inferInstance:dr [ag ai x.cS,ag ai x.b8,ag ai x.b3] [ag ai x.cS,ag ai x.b8,ag ai x.b3])⟩
instance {x:fy}:dr (lH.cells x) [ag ai x.cS,ag ai x.b8,ag ai x.b3]:=(inferInstance:dr [ag ai x.cS,ag ai x.b8,ag ai x.b3] [ag ai x.cS,ag ai x.b8,ag ai x.b3])
def rS:bK fy:=⟨3,λx=>[aj ai x.cS,aj ai x.b8,aj ai x.b3],λ_=>rfl,λ_=>dp.bl⟩
instance:lZ rS:=⟨λx=>(inferInstance:jC [aj ai x.cS,aj ai x.b8,aj ai x.b3])⟩
instance {x:fy}:dr (rS.cells x) [ag ai x.cS,ag ai x.b8,ag ai x.b3]:=(inferInstance:dr [aj ai x.cS,aj ai x.b8,aj ai x.b3] [ag ai x.cS,ag ai x.b8,ag ai x.b3])
def Ag (a0:(List (List b4))):Option (fy) :=
 (Ak a0).bind λa8 =>
 (bif !a8 then
 some (⟨([]:List Int),([]:List Int),([]:List Int)⟩:fy)
 else
 (nk (a0.length:Int) 0).bind λa7 =>
 (b1 (R:=List Int) (λ(cZ:List Int × Int) =>
 (bif decide (cZ.2<(a0.length:Int)) then
 ((idx a0 cZ.2).bind λcw =>
 ((bif decide (0<(cw.length:Int)) then
 (c' cZ.1 [cZ.2]).bind λew =>
 some (cZ.1++[cZ.2])
 else
 some cZ.1)).bind λjQ =>
 some jQ).bind λfa =>
 some (.inl (fa,aJ (cZ.2+1)))
 else
 some (.inr cZ.1))) (([]:List Int),0)).bind λbS =>
 (pW (λa b=>v8 a b a0) bS).bind λch =>
 (b1 (R:=fy) (λ(e1:fy × Int) =>
 (bif decide (e1.2<(ch.length:Int)) then
 (idx ch e1.2).bind λdO =>
 (b1 (R:=List Int) (λ(dd:List Int) =>
 (idx a0 dO).bind λfL =>
 (idx dd dO).bind λd_ =>
 (x9 e1.1.b3 fL d_).bind λgb =>
 (bif !gb then
 (idx dd dO).bind λgy =>
 some (.inl (dd.set dO.toNat (aJ (gy+1))))
 else
 some (.inr dd))) e1.1.cS).bind λdK =>
 (idx a0 dO).bind λeb =>
 (b1 (R:=List Int × List Int) (λ(kC:List Int × List Int × Int) =>
 (bif decide (kC.2.2<(eb.length:Int)) then
 (idx eb kC.2.2).bind λcR =>
 (idx dK dO).bind λe8 =>
 (b1 (R:=List Int × List Int) (λ(dZ:List Int × List Int) =>
 (bif decide ((dZ.2.length:Int)<=aJ (e8+cR.At)) then
 (c' dZ.2 [0]).bind λcY =>
 (c' dZ.1 [0]).bind λgn =>
 some (.inl (dZ.1++[0],dZ.2++[0]))
 else
 some (.inr (dZ.1,dZ.2)))) (kC.1,kC.2.1)).bind λee =>
 (idx ee.2 (aJ (e8+cR.At))).bind λo_ =>
 (idx ee.1 (aJ (e8+cR.At))).bind λjB =>
 some (.inl (ee.1.set (aJ (e8+cR.At)).toNat cR.b8,ee.2.set (aJ (e8+cR.At)).toNat (aJ (dO+1)),aJ (kC.2.2+1)))
 else
 some (.inr (kC.1,kC.2.1)))) (e1.1.b8,e1.1.b3,0)).bind λek =>
 some (.inl ((⟨dK,ek.1,ek.2⟩:fy),aJ (e1.2+1)))
 else
 some (.inr e1.1))) ((⟨a7,([]:List Int),([]:List Int)⟩:fy),0)).bind λcP =>
 some cP)
structure Row where
 Def:Int
 ft:(List b4)
 deriving DecidableEq,Inhabited
def jK:bK Row:=⟨2,λx=>[ae x.Def,ag bP x.ft],λ_=>rfl,λ_=>dp.bl⟩
instance:Flat jK:=⟨λ_=>rfl⟩
instance:gV jK jK:=⟨rfl,λx=>(inferInstance:dr [ae x.Def,ag bP x.ft] [ae x.Def,ag bP x.ft])⟩
def x3 (a0:(List Row)):Option ((List Int) × fy) :=
 (b1 (R:=List Int × List (List b4)) (λ(s1:List Int × List (List b4) × Int) =>
 (bif decide (s1.2.2<(a0.length:Int)) then
 (idx a0 s1.2.2).bind λbS =>
 (c' s1.1 [bS.Def]).bind λbw =>
 (c' s1.2.1 [bS.ft]).bind λbQ =>
 some (.inl (s1.1++[bS.Def],s1.2.1++[bS.ft],aJ (s1.2.2+1)))
 else
 some (.inr (s1.1,s1.2.1)))) (([]:List Int),([]:List (List b4)),0)).bind λx2 =>
 (Ag x2.2).bind λb6 =>
 some (x2.1,b6)
def v7 (a0:(List Int)):Option (Int) :=
 (b1 (R:=Int) (λ(s1:(List (Int × Int)) × Int × Int) =>
 (bif decide (s1.2.2<(a0.length:Int)) then
 ((idx a0 s1.2.2).bind λbw =>
 (sk si 0 s1.1 bw).bind λbQ =>
 (zP si s1.1 bw (aJ (bQ+1))).bind λb6 =>
 (sk si 0 b6 bw).bind λcw =>
 (sk si 0 b6 s1.2.1).bind λbJ =>
 ((bif decide (s1.2.1<0) then some true else (bif decide (0<aJ (cw - bJ)) then some true else (bif decide (aJ (cw - bJ)=0) then some (decide (bw<s1.2.1)) else some false)))).bind λoI =>
 ((bif oI then
 some bw
 else
 some s1.2.1)).bind λoi =>
 some (b6,oi)).bind λkU =>
 some (.inl (kU.1,kU.2,aJ (s1.2.2+1)))
 else
 some (.inr s1.2.1))) (([]:List (Int × Int)),(-1),0)).bind λx2 =>
 some x2
def Ah (a0:Act):Option (Int) :=
 ((bif decide (a0.Kind=1) then (bif decide (0<=a0.N) then some (decide (a0.N<20000)) else some false) else some false)).bind λjS =>
 (bif jS then
 some (aJ (a0.N+1))
 else
 ((bif decide (a0.Kind=2) then (bif decide (0<a0.N) then some (decide (a0.N<20000)) else some false) else some false)).bind λkN =>
 (bif kN then
 some (aJ (-a0.N))
 else
 ((bif decide (a0.Kind=3) then some (decide (a0.N=0)) else some false)).bind λim =>
 (bif im then
 some 20001
 else
 ((bif decide (a0.Kind=4) then some (decide (a0.N=0)) else some false)).bind λjI =>
 (bif jI then
 some 20002
 else
 some 0))))
def CT (a0:gT):Option ((List Row)) :=
 (b1 (R:=List Row) (λ(s1:List Row × Int) =>
 (bif decide (s1.2<(a0.cz.length:Int)) then
 (idx a0.cz s1.2).bind λbS =>
 (b1 (R:=List Int) (λ(da:List Int × Int) =>
 (bif decide (da.2<(bS.length:Int)) then
 ((idx bS da.2).bind λcr =>
 ((bif decide (cr.Kind=2) then
 (c' da.1 [cr.N]).bind λed =>
 some (da.1++[cr.N])
 else
 some da.1)).bind λeP =>
 some eP).bind λjQ =>
 some (.inl (jQ,aJ (da.2+1)))
 else
 some (.inr da.1))) (([]:List Int),0)).bind λbQ =>
 (v7 bQ).bind λcP =>
 (b1 (R:=List b4) (λ(nr:List b4 × Int) =>
 (bif decide (nr.2<(bS.length:Int)) then
 ((idx bS nr.2).bind λeL =>
 ((bif !decide (eL.Kind=0) then (bif !decide (eL.Kind=2) then some true else some (!decide (eL.N=cP))) else some false)).bind λqb =>
 ((bif qb then
 (Ah eL).bind λeb =>
 (c' nr.1 [(⟨nr.2,eb⟩:b4)]).bind λcW =>
 some (nr.1++[(⟨nr.2,eb⟩:b4)])
 else
 some nr.1)).bind λur =>
 some ur).bind λxB =>
 some (.inl (xB,aJ (nr.2+1)))
 else
 some (.inr nr.1))) (([]:List b4),0)).bind λbT =>
 (c' s1.1 [(⟨cP,bT⟩:Row)]).bind λek =>
 some (.inl (s1.1++[(⟨cP,bT⟩:Row)],aJ (s1.2+1)))
 else
 some (.inr s1.1))) (([]:List Row),0)).bind λx2 =>
 some x2
def CU (a0:gT):Option ((List Row)) :=
 (bif decide ((a0.ei.length:Int)=0) then
 some ([]:List Row)
 else
 (idx a0.ei 0).bind λx2 =>
 (b1 (R:=List Row) (λ(ea:List Row × Int) =>
 (bif decide (ea.2<(x2.length:Int)) then
 (b1 (R:=List Int) (λ(ds:List Int × Int) =>
 (bif decide (ds.2<(a0.ei.length:Int)) then
 ((idx a0.ei ds.2).bind λew =>
 (idx ew ea.2).bind λch =>
 ((bif decide (0<=ch) then
 (idx ew ea.2).bind λcc =>
 (c' ds.1 [cc]).bind λbT =>
 some (ds.1++[cc])
 else
 some ds.1)).bind λdc =>
 some dc).bind λjw =>
 some (.inl (jw,aJ (ds.2+1)))
 else
 some (.inr ds.1))) (([]:List Int),0)).bind λb6 =>
 (v7 b6).bind λdO =>
 (b1 (R:=List b4) (λ(dd:List b4 × Int) =>
 (bif decide (dd.2<(a0.ei.length:Int)) then
 ((idx a0.ei dd.2).bind λgb =>
 (((idx gb ea.2).bind λhE=>(bif decide (0<=hE) then ((idx gb ea.2).bind λeb=>some (!decide (eb=dO))) else some false))).bind λwS =>
 ((bif wS then
 (idx gb ea.2).bind λj2 =>
 (c' dd.1 [(⟨dd.2,j2⟩:b4)]).bind λcR =>
 some (dd.1++[(⟨dd.2,j2⟩:b4)])
 else
 some dd.1)).bind λuu =>
 some uu).bind λJx =>
 some (.inl (Jx,aJ (dd.2+1)))
 else
 some (.inr dd.1))) (([]:List b4),0)).bind λdK =>
 (c' ea.1 [(⟨dO,dK⟩:Row)]).bind λe8 =>
 some (.inl (ea.1++[(⟨dO,dK⟩:Row)],aJ (ea.2+1)))
 else
 some (.inr ea.1))) (([]:List Row),0)).bind λbq =>
 some bq)
def CZ (a0:b4) (aD:b4):Option (Int) :=
 (uE a0.At aD.At).bind λa8 =>
 some a8
def Ae (a0:bN):Option ((List b4)) :=
 (b1 (R:=List b4) (λ(s1:List b4 × Int) =>
 (bif decide (s1.2<(a0.ba.length:Int)) then
 ((idx a0.ba s1.2).bind λbw =>
 ((bif decide (0<bw.bR) then
 (c' s1.1 [(⟨bw.bR,s1.2⟩:b4)]).bind λcw =>
 some (s1.1++[(⟨bw.bR,s1.2⟩:b4)])
 else
 some s1.1)).bind λkW =>
 some kW).bind λkU =>
 some (.inl (kU,aJ (s1.2+1)))
 else
 some (.inr s1.1))) (([]:List b4),0)).bind λx2 =>
 (pW (λa b=>CZ a b) x2).bind λbJ =>
 some bJ
structure Tables where
 Def:(List Int)
 cz:fy
 ko:(List Int)
 gA:fy
 Left:(List Int)
 k7:(List Int)
 nw:(List b4)
 deriving DecidableEq,Inhabited
def q5:bK Tables:=⟨11,λx=>[ag ai x.Def,ag ai x.cz.cS,ag ai x.cz.b8,ag ai x.cz.b3,ag ai x.ko,ag ai x.gA.cS,ag ai x.gA.b8,ag ai x.gA.b3,ag ai x.Left,ag ai x.k7,ag bP x.nw],λ_=>rfl,λ_=>dp.bl⟩
instance:Flat q5:=⟨λ_=>rfl⟩
instance:gV q5 q5:=⟨rfl,λx=>(inferInstance:dr [ag ai x.Def,ag ai x.cz.cS,ag ai x.cz.b8,ag ai x.cz.b3,ag ai x.ko,ag ai x.gA.cS,ag ai x.gA.b8,ag ai x.gA.b3,ag ai x.Left,ag ai x.k7,ag bP x.nw] [ag ai x.Def,ag ai x.cz.cS,ag ai x.cz.b8,ag ai x.cz.b3,ag ai x.ko,ag ai x.gA.cS,ag ai x.gA.b8,ag ai x.gA.b3,ag ai x.Left,ag ai x.k7,ag bP x.nw])⟩
instance {x:Tables}:dr (q5.cells x) [ag ai x.Def,ag ai x.cz.cS,ag ai x.cz.b8,ag ai x.cz.b3,ag ai x.ko,ag ai x.gA.cS,ag ai x.gA.b8,ag ai x.gA.b3,ag ai x.Left,ag ai x.k7,ag bP x.nw]:=(inferInstance:dr [ag ai x.Def,ag ai x.cz.cS,ag ai x.cz.b8,ag ai x.cz.b3,ag ai x.ko,ag ai x.gA.cS,ag ai x.gA.b8,ag ai x.gA.b3,ag ai x.Left,ag ai x.k7,ag bP x.nw] [ag ai x.Def,ag ai x.cz.cS,ag ai x.cz.b8,ag ai x.cz.b3,ag ai x.ko,ag ai x.gA.cS,ag ai x.gA.b8,ag ai x.gA.b3,ag ai x.Left,ag ai x.k7,ag bP x.nw])
def uA (a0:bN) (aD:gT):Option (Tables) :=
 (CT aD).bind λa8 =>
 (x3 a8).bind λx2 =>
 (CU aD).bind λa7 =>
 (x3 a7).bind λbq =>
 (b1 (R:=List Int × List Int) (λ(cm:List Int × List Int × Int) =>
 (bif decide (cm.2.2<(a0.bh.length:Int)) then
 (idx a0.bh cm.2.2).bind λcw =>
 (c' cm.1 [cw.Left]).bind λbJ =>
 (c' cm.2.1 [(cw.eu.length:Int)]).bind λcr =>
 some (.inl (cm.1++[cw.Left],cm.2.1++[(cw.eu.length:Int)],aJ (cm.2.2+1)))
 else
 some (.inr (cm.1,cm.2.1)))) (([]:List Int),([]:List Int),0)).bind λbw =>
 (Ae a0).bind λew =>
 some (⟨x2.1,x2.2,bq.1,bq.2,bw.1,bw.2,ew⟩:Tables)
def rm (a0:fy) (aD:Int) (a2:Int):Option (Int × Bool) :=
 ((bif decide (aD<0) then some true else (bif decide ((a0.cS.length:Int)<=aD) then some true else (bif decide (a2<0) then some true else some (decide ((a0.b3.length:Int)<=a2)))))).bind λc4 =>
 (bif c4 then
 some (0,false)
 else
 (idx a0.cS aD).bind λbw =>
 ((bif decide ((a0.b3.length:Int)<=aJ (bw+a2)) then some true else ((idx a0.b3 (aJ (bw+a2))).bind λb6=>some (!decide (b6=aJ (aD+1)))))).bind λmo =>
 (bif mo then
 some (0,false)
 else
 (idx a0.b8 (aJ (bw+a2))).bind λcr =>
 some (cr,true)))
def x4 (a0:Int):Option (Act) :=
 ((bif decide (0<a0) then some (decide (a0<=20000)) else some false)).bind λc2 =>
 (bif c2 then
 some (⟨1,aJ (a0 - 1)⟩:Act)
 else
 ((bif decide (a0<0) then some (decide ((-20000)<a0)) else some false)).bind λkM =>
 (bif kM then
 some (⟨2,aJ (-a0)⟩:Act)
 else
 (bif decide (a0=20001) then
 some (⟨3,0⟩:Act)
 else
 (bif decide (a0=20002) then
 some (⟨4,0⟩:Act)
 else
 some (⟨0,0⟩:Act)))))
def k1 (a0:Tables) (aD:Int) (a2:Int):Option (Act) :=
 (rm a0.cz aD a2).bind λa8 =>
 (bif a8.2 then
 (x4 a8.1).bind λa7 =>
 some a7
 else
 ((bif decide (aD<0) then some true else (bif decide ((a0.Def.length:Int)<=aD) then some true else ((idx a0.Def aD).bind λbw=>some (decide (bw<0)))))).bind λkN =>
 (bif kN then
 some (⟨0,0⟩:Act)
 else
 (idx a0.Def aD).bind λcw =>
 some (⟨2,cw⟩:Act)))
def uD (a0:Tables) (aD:Int) (a2:Int):Option (Int) :=
 (rm a0.gA a2 aD).bind λa8 =>
 (bif a8.2 then
 some a8.1
 else
 ((bif decide (a2<0) then some true else some (decide ((a0.ko.length:Int)<=a2)))).bind λc4 =>
 (bif c4 then
 some (-1)
 else
 (idx a0.ko a2).bind λbw =>
 some bw))
def oZ (a0:(List Int)) (aD:(List Int)):Option (Bool) :=
 (bif !decide ((a0.length:Int)=(aD.length:Int)) then
 some false
 else
 (b1 (R:=(Unit) ⊕ (Bool)) (λ(s2:Int) =>
 (bif decide (s2<(a0.length:Int)) then
 (idx a0 s2).bind λbQ =>
 (idx aD s2).bind λb6 =>
 (bif !decide (bQ=b6) then
 some (.inr (.inr false))
 else
 some (.inl (aJ (s2+1))))
 else
 some (.inr (.inl ())))) 0).bind λa7 =>
 (match a7 with
 | .inl bq =>
 some true
 | .inr bS =>
 some bS))
def ya :Option (Bool) :=
 (sn (⟨⟨#[]⟩,([]:List Decl),[(⟨⟨#[101]⟩,[(⟨[(⟨(⟨⟨#[101]⟩,false,0,0⟩:Sym),⟨#[]⟩,0⟩:Part),(⟨(⟨⟨#[43]⟩,true,0,0⟩:Sym),⟨#[]⟩,0⟩:Part),(⟨(⟨⟨#[120]⟩,true,0,0⟩:Sym),⟨#[]⟩,0⟩:Part)],(⟨⟨#[]⟩,false,0,0⟩:Sym),0⟩:Alt),(⟨[(⟨(⟨⟨#[120]⟩,true,0,0⟩:Sym),⟨#[]⟩,0⟩:Part)],(⟨⟨#[]⟩,false,0,0⟩:Sym),0⟩:Alt)],0⟩:fc)],⟨#[]⟩⟩:Source)).bind λa8 =>
 (uA a8.1 a8.2.1).bind λx2 =>
 ((bif a8.2.2.2 then ((oZ x2.Def [(-1),2,(-1),(-1),1]).bind λbq=>(bif bq then ((oZ x2.ko [(-1),2]).bind λbw=>(bif bw then ((oZ x2.Left [0,1,1]).bind λb6=>(bif b6 then ((oZ x2.k7 [1,3,1]).bind λbJ=>(bif bJ then (bif decide ((x2.nw.length:Int)=2) then ((k1 x2 1 4).bind λch=>(bif (decide (ch.Kind=2)&&(decide (ch.N=2)&&true)) then ((k1 x2 0 4).bind λcP=>(bif (decide (cP.Kind=1)&&(decide (cP.N=1)&&true)) then ((k1 x2 0 3).bind λbT=>(bif (decide (bT.Kind=0)&&(decide (bT.N=0)&&true)) then ((k1 x2 9 0).bind λeK=>(bif (decide (eK.Kind=0)&&(decide (eK.N=0)&&true)) then ((uD x2 0 1).bind λeL=>(bif decide (eL=2) then ((uD x2 0 7).bind λd_=>some (decide (d_=(-1)))) else some false)) else some false)) else some false)) else some false)) else some false)) else some false) else some false)) else some false)) else some false)) else some false)) else some false)).bind λqb =>
 some qb
def s' (a0:ByteArray) (aD:Int):Option (ByteArray) :=
 (bif decide (aD<(a0.size:Int)) then
 (q4 a0 0 aD).bind λx2 =>
 some x2
 else
 some a0)
def x1 (a0:Sym):Option (Sym) :=
 (s' a0.Name 25).bind λa8 =>
 some (⟨a8,a0.Lit,a0.bR,a0.At⟩:Sym)
def Da (a0:Source):Option (Source) :=
 (s' a0.cA 40).bind λa8 =>
 (s' a0.cK 40).bind λx2 =>
 (b1 (R:=List Decl) (λ(ea:List Decl × Int) =>
 ((bif decide (ea.2<(a0.Decls.length:Int)) then some (decide (ea.2<8)) else some false)).bind λkN =>
 (bif kN then
 (idx a0.Decls ea.2).bind λcw =>
 (idx a0.Decls ea.2).bind λbJ =>
 (s' bJ.Tag 25).bind λcr =>
 (idx a0.Decls ea.2).bind λew =>
 (b1 (R:=List Sym) (λ(fI:List Sym × Int) =>
 (((idx a0.Decls ea.2).bind λcc=>(bif decide (fI.2<(cc.eN.length:Int)) then some (decide (fI.2<6)) else some false))).bind λnB =>
 (bif nB then
 (idx a0.Decls ea.2).bind λdK =>
 (idx dK.eN fI.2).bind λeL =>
 (x1 eL).bind λfL =>
 (c' fI.1 [fL]).bind λd_ =>
 some (.inl (fI.1++[fL],aJ (fI.2+1)))
 else
 some (.inr fI.1))) (([]:List Sym),0)).bind λed =>
 (c' ea.1 [(⟨cw.Kind,cr,ed,ew.At⟩:Decl)]).bind λgb =>
 some (.inl (ea.1++[(⟨cw.Kind,cr,ed,ew.At⟩:Decl)],aJ (ea.2+1)))
 else
 some (.inr ea.1))) (([]:List Decl),0)).bind λbq =>
 (b1 (R:=List fc) (λ(ki:List fc × Int) =>
 ((bif decide (ki.2<(a0.dG.length:Int)) then some (decide (ki.2<6)) else some false)).bind λqc =>
 (bif qc then
 (idx a0.dG ki.2).bind λj2 =>
 (s' j2.Left 25).bind λcR =>
 (idx a0.dG ki.2).bind λe8 =>
 (b1 (R:=List Alt) (λ(dZ:List Alt × Int) =>
 (((idx a0.dG ki.2).bind λj3=>(bif decide (dZ.2<(j3.eM.length:Int)) then some (decide (dZ.2<5)) else some false))).bind λwT =>
 (bif wT then
 (idx a0.dG ki.2).bind λjB =>
 (idx jB.eM dZ.2).bind λhj =>
 (x1 hj.Prec).bind λfM =>
 (idx a0.dG ki.2).bind λwo =>
 (idx wo.eM dZ.2).bind λov =>
 (b1 (R:=List Part) (λ(rz:List Part × Int) =>
 (((idx a0.dG ki.2).bind λp1=>((idx p1.eM dZ.2).bind λyx=>(bif decide (rz.2<(yx.hA.length:Int)) then some (decide (rz.2<6)) else some false)))).bind λHh =>
 (bif Hh then
 (idx a0.dG ki.2).bind λDA =>
 (idx DA.eM dZ.2).bind λkF =>
 (idx kF.hA rz.2).bind λmK =>
 (x1 mK.Sym).bind λox =>
 (s' mK.Code 60).bind λnY =>
 (c' rz.1 [(⟨ox,nY,mK.At⟩:Part)]).bind λAH =>
 some (.inl (rz.1++[(⟨ox,nY,mK.At⟩:Part)],aJ (rz.2+1)))
 else
 some (.inr rz.1))) (([]:List Part),0)).bind λnX =>
 (c' dZ.1 [(⟨nX,fM,ov.At⟩:Alt)]).bind λQE =>
 some (.inl (dZ.1++[(⟨nX,fM,ov.At⟩:Alt)],aJ (dZ.2+1)))
 else
 some (.inr dZ.1))) (([]:List Alt),0)).bind λee =>
 (c' ki.1 [(⟨cR,ee,e8.At⟩:fc)]).bind λQF =>
 some (.inl (ki.1++[(⟨cR,ee,e8.At⟩:fc)],aJ (ki.2+1)))
 else
 some (.inr ki.1))) (([]:List fc),0)).bind λgy =>
 some (⟨a8,bq,gy,x2⟩:Source)
def vW (a0:Int) (aD:Int):Option (Int) :=
 (ru a0 aD).bind λa8 =>
 ((bif decide (a8<0) then
 some (aJ (a8+aD))
 else
 some a8)).bind λJw =>
 some Jw
def Kd :Option (ByteArray) :=
 some (⟨#[112,113,114,115]⟩)
def vX (a0:Int):Option (Sym) :=
 (Kd ).bind λa8 =>
 (ru a0 4).bind λx2 =>
 (ru a0 4).bind λa7 =>
 (q4 a8 x2 (aJ (a7+1))).bind λbq =>
 some (⟨bq,true,0,0⟩:Sym)
def mq:bK Decl:=⟨4,λx=>[ae x.Kind,ay x.Tag,aj dD x.eN,ae x.At],λ_=>rfl,λ_=>dp.bl⟩
instance:gV mq dy:=⟨rfl,λx=>(inferInstance:dr [ae x.Kind,ay x.Tag,aj dD x.eN,ae x.At] [ae x.Kind,ay x.Tag,ag dD x.eN,ae x.At])⟩
instance {x:Decl}:dr (mq.cells x) [ae x.Kind,ay x.Tag,ag dD x.eN,ae x.At]:=(inferInstance:dr [ae x.Kind,ay x.Tag,aj dD x.eN,ae x.At] [ae x.Kind,ay x.Tag,ag dD x.eN,ae x.At])
def Ab (a0:(List Int)):Option ((List Decl)) :=
 (b1 (R:=List Decl) (λ(s1:List Decl × Int) =>
 ((bif decide (s1.2<(a0.length:Int)) then some (decide (s1.2<4)) else some false)).bind λkM =>
 (bif kM then
 ((idx a0 s1.2).bind λb6 =>
 (vW b6 8).bind λcw =>
 (ru cw 4).bind λbJ =>
 (bif decide (bJ=0) then
 some s1.1
 else
 ((bif decide (4<cw) then some (decide (0<(s1.1.length:Int))) else some false)).bind λjI =>
 (bif jI then
 (idx s1.1 (aJ ((s1.1.length:Int) - 1))).bind λcP =>
 (vX s1.2).bind λcc =>
 (c' cP.eN [cc]).bind λbT =>
 some (s1.1.set (aJ ((s1.1.length:Int) - 1)).toNat (⟨cP.Kind,cP.Tag,cP.eN++[cc],cP.At⟩:Decl))
 else
 (ru cw 4).bind λdO =>
 (vX s1.2).bind λeK =>
 (c' s1.1 [(⟨aJ (1+dO),⟨#[]⟩,[eK],0⟩:Decl)]).bind λdK =>
 some (s1.1++[(⟨aJ (1+dO),⟨#[]⟩,[eK],0⟩:Decl)])))).bind λkW =>
 some (.inl (kW,aJ (s1.2+1)))
 else
 some (.inr s1.1))) (([]:List Decl),0)).bind λx2 =>
 some x2
def Ac (a0:Int):Option (ByteArray) :=
 some (strOfNums [yw (aJ (97+a0))])
def CR (a0:Int) (aD:Int):Option (Sym) :=
 (vW a0 14).bind λa8 =>
 (bif decide (a8<5) then
 (ru a8 aD).bind λa7 =>
 (Ac a7).bind λbq =>
 some (⟨bq,false,0,0⟩:Sym)
 else
 (bif decide (a8=13) then
 some (⟨⟨#[101,114,114,111,114]⟩,false,0,0⟩:Sym)
 else
 (vX (aJ (a8 - 5))).bind λbw =>
 some bw))
structure oy where
 b2:Int
 dG:(List (List Int))
 qS:(List Int)
 nt:(List Int)
 sv:Bool
 deriving DecidableEq,Inhabited
def rU:bK oy:=⟨5,λx=>[ae x.b2,ag (br ai) x.dG,ag ai x.qS,ag ai x.nt,a_ x.sv],λ_=>rfl,λ_=>dp.bl⟩
instance:Flat rU:=⟨λ_=>rfl⟩
instance:gV rU rU:=⟨rfl,λx=>(inferInstance:dr [ae x.b2,ag (br ai) x.dG,ag ai x.qS,ag ai x.nt,a_ x.sv] [ae x.b2,ag (br ai) x.dG,ag ai x.qS,ag ai x.nt,a_ x.sv])⟩
instance {x:oy}:dr (rU.cells x) [ae x.b2,ag (br ai) x.dG,ag ai x.qS,ag ai x.nt,a_ x.sv]:=(inferInstance:dr [ae x.b2,ag (br ai) x.dG,ag ai x.qS,ag ai x.nt,a_ x.sv] [ae x.b2,ag (br ai) x.dG,ag ai x.qS,ag ai x.nt,a_ x.sv])
def fK:bK fc:=⟨3,λx=>[ay x.Left,aj e2 x.eM,ae x.At],λ_=>rfl,λ_=>dp.bl⟩
instance:gV fK gO:=⟨rfl,λx=>(inferInstance:dr [ay x.Left,aj e2 x.eM,ae x.At] [ay x.Left,ag e2 x.eM,ae x.At])⟩
instance {x:fc}:dr (fK.cells x) [ay x.Left,ag e2 x.eM,ae x.At]:=(inferInstance:dr [ay x.Left,aj e2 x.eM,ae x.At] [ay x.Left,ag e2 x.eM,ae x.At])
def vP (a0:oy):Option (Source) :=
 (vW a0.b2 4).bind λa8 =>
 (Ab a0.qS).bind λx2 =>
 (nk (aJ (1+a8)) false).bind λa7 =>
 (b1 (R:=List fc) (λ(cZ:List fc × Int) =>
 (bif decide (cZ.2<aJ (1+a8)) then
 (Ac cZ.2).bind λb6 =>
 (c' cZ.1 [(⟨b6,([]:List Alt),0⟩:fc)]).bind λcw =>
 some (.inl (cZ.1++[(⟨b6,([]:List Alt),0⟩:fc)],aJ (cZ.2+1)))
 else
 some (.inr cZ.1))) (([]:List fc),0)).bind λbS =>
 (b1 (R:=List fc × List Bool) (λ(gu:List fc × List Bool × Int) =>
 ((bif decide (gu.2.2<(a0.dG.length:Int)) then some (decide (gu.2.2<9)) else some false)).bind λoI =>
 (bif oI then
 ((idx a0.dG gu.2.2).bind λbT =>
 (bif decide ((bT.length:Int)=0) then
 some (gu.1,gu.2.1)
 else
 (idx a0.dG gu.2.2).bind λeK =>
 (idx eK 0).bind λdK =>
 (vW dK (aJ (1+a8))).bind λeL =>
 (b1 (R:=List Part × Bool) (λ(iJ:List Part × Bool × Int) =>
 (((idx a0.dG gu.2.2).bind λhE=>(bif decide (iJ.2.2<(hE.length:Int)) then some (decide (iJ.2.2<5)) else some false))).bind λHf =>
 (bif Hf then
 ((idx a0.dG gu.2.2).bind λhY =>
 (idx hY iJ.2.2).bind λj2 =>
 (CR j2 (aJ (1+a8))).bind λcR =>
 ((bif iJ.2.1 then (bif cR.Lit then some true else some (decide (cR.Name=⟨#[101,114,114,111,114]⟩))) else some false)).bind λtF =>
 (c' iJ.1 [(⟨cR,⟨#[]⟩,0⟩:Part)]).bind λp0 =>
 ((bif decide (gu.2.2<(a0.nt.length:Int)) then (bif decide (iJ.2.2=1) then ((idx a0.nt gu.2.2).bind λgn=>((ru gn 3).bind λo_=>some (decide (o_=1)))) else some false) else some false)).bind λsD =>
 ((bif sD then
 (c' (iJ.1++[(⟨cR,⟨#[]⟩,0⟩:Part)]) [(⟨(⟨⟨#[]⟩,false,0,0⟩:Sym),⟨#[123,36,36,32,61,32,36,49,125]⟩,0⟩:Part)]).bind λwo =>
 some ((iJ.1++[(⟨cR,⟨#[]⟩,0⟩:Part)])++[(⟨(⟨⟨#[]⟩,false,0,0⟩:Sym),⟨#[123,36,36,32,61,32,36,49,125]⟩,0⟩:Part)])
 else
 some (iJ.1++[(⟨cR,⟨#[]⟩,0⟩:Part)]))).bind λJC =>
 some (JC,tF)).bind λuu =>
 some (.inl (uu.1,uu.2,aJ (iJ.2.2+1)))
 else
 some (.inr (iJ.1,iJ.2.1)))) (([]:List Part),true,1)).bind λd_ =>
 ((bif decide (gu.2.2<(a0.nt.length:Int)) then ((idx a0.nt gu.2.2).bind λow=>((ru ow 2).bind λnX=>some (!decide (nX=0)))) else some false)).bind λA9 =>
 ((bif A9 then
 (c' d_.1 [(⟨(⟨⟨#[]⟩,false,0,0⟩:Sym),⟨#[123,102,40,36,36,41,125]⟩,0⟩:Part)]).bind λrG =>
 some (d_.1++[(⟨(⟨⟨#[]⟩,false,0,0⟩:Sym),⟨#[123,102,40,36,36,41,125]⟩,0⟩:Part)])
 else
 some d_.1)).bind λoU =>
 (((idx gu.2.1 eL).bind λp2=>(bif p2 then some (gu.2.1.set eL.toNat true) else some (gu.2.1.set eL.toNat d_.2)))).bind λza =>
 (idx gu.1 eL).bind λkF =>
 (c' kF.eM [(⟨oU,(⟨⟨#[]⟩,false,0,0⟩:Sym),0⟩:Alt)]).bind λmK =>
 some (gu.1.set eL.toNat (⟨kF.Left,kF.eM++[(⟨oU,(⟨⟨#[]⟩,false,0,0⟩:Sym),0⟩:Alt)],kF.At⟩:fc),za))).bind λmA =>
 some (.inl (mA.1,mA.2,aJ (gu.2.2+1)))
 else
 some (.inr (gu.1,gu.2.1)))) (bS,a7,0)).bind λcr =>
 (b1 (R:=List fc) (λ(jh:List fc × Int) =>
 (bif decide (jh.2<aJ (1+a8)) then
 ((((idx jh.1 jh.2).bind λwu=>(bif decide ((wu.eM.length:Int)=0) then some true else ((idx cr.2 jh.2).bind λK0=>(bif !K0 then some (!a0.sv) else some false))))).bind λA' =>
 ((bif A' then
 (idx jh.1 jh.2).bind λkG =>
 (vX jh.2).bind λkH =>
 (c' kG.eM [(⟨[(⟨kH,⟨#[]⟩,0⟩:Part)],(⟨⟨#[]⟩,false,0,0⟩:Sym),0⟩:Alt)]).bind λDB =>
 some (jh.1.set jh.2.toNat (⟨kG.Left,kG.eM++[(⟨[(⟨kH,⟨#[]⟩,0⟩:Part)],(⟨⟨#[]⟩,false,0,0⟩:Sym),0⟩:Alt)],kG.At⟩:fc))
 else
 some jh.1)).bind λJG =>
 some JG).bind λJF =>
 some (.inl (JF,aJ (jh.2+1)))
 else
 some (.inr jh.1))) (cr.1,0)).bind λnY =>
 some (⟨⟨#[]⟩,x2,nY,⟨#[]⟩⟩:Source)
def FA (a0:fy) (aD:fy):Option (Bool) :=
 (((oZ a0.cS aD.cS).bind λa8=>(bif a8 then ((oZ a0.b8 aD.b8).bind λa7=>(bif a7 then ((oZ a0.b3 aD.b3).bind λbS=>some bS) else some false)) else some false))).bind λoJ =>
 some oJ
def Ka (a0:(List b4)) (aD:(List b4)):Option (Bool) :=
 (bif !decide ((a0.length:Int)=(aD.length:Int)) then
 some false
 else
 (b1 (R:=(Unit) ⊕ (Bool)) (λ(s2:Int) =>
 (bif decide (s2<(a0.length:Int)) then
 (idx a0 s2).bind λbQ =>
 (idx aD s2).bind λb6 =>
 (bif !(decide (bQ.At=b6.At)&&(decide (bQ.b8=b6.b8)&&true)) then
 some (.inr (.inr false))
 else
 some (.inl (aJ (s2+1))))
 else
 some (.inr (.inl ())))) 0).bind λa7 =>
 (match a7 with
 | .inl bq =>
 some true
 | .inr bS =>
 some bS))
def Pv (a0:Tables) (aD:Tables):Option (Bool) :=
 (((oZ a0.Def aD.Def).bind λa8=>(bif a8 then ((FA a0.cz aD.cz).bind λa7=>(bif a7 then ((oZ a0.ko aD.ko).bind λbS=>(bif bS then ((FA a0.gA aD.gA).bind λbQ=>(bif bQ then ((oZ a0.Left aD.Left).bind λcw=>(bif cw then ((oZ a0.k7 aD.k7).bind λcr=>(bif cr then ((Ka a0.nw aD.nw).bind λch=>some ch) else some false)) else some false)) else some false)) else some false)) else some false)) else some false))).bind λoI =>
 some oI
def vZ (a0:(List Int)):Option (Int) :=
 (b1 (R:=List Int) (λ(s1:List Int × Int) =>
 (bif decide (s1.2<(a0.length:Int)) then
 (idx a0 s1.2).bind λbS =>
 (pT s1.1 bS).bind λbw =>
 some (.inl (bw,aJ (s1.2+1)))
 else
 some (.inr s1.1))) (([]:List Int),0)).bind λx2 =>
 (b1 (R:=Int) (λ(ds:Int × Int × Int) =>
 (bif decide (ds.2.2<(x2.length:Int)) then
 ((b1 (R:=Int) (λ(uI:Int × Int) =>
 (bif decide (uI.2<(a0.length:Int)) then
 ((idx a0 uI.2).bind λbT =>
 (idx x2 ds.2.2).bind λdO =>
 ((bif decide (bT=dO) then
 some (aJ (uI.1+1))
 else
 some uI.1)).bind λe_ =>
 some e_).bind λmA =>
 some (.inl (mA,aJ (uI.2+1)))
 else
 some (.inr uI.1))) (0,0)).bind λch =>
 ((bif decide (ds.2.1<ch) then
 (idx x2 ds.2.2).bind λd_ =>
 some (d_,ch)
 else
 some (ds.1,ds.2.1))).bind λnS =>
 some (nS.1,nS.2)).bind λjw =>
 some (.inl (jw.1,jw.2,aJ (ds.2.2+1)))
 else
 some (.inr ds.1))) ((-1),0,0)).bind λb6 =>
 some b6
def mF (a0:Act):Option (Int) :=
 ((bif decide (a0.Kind=1) then (bif decide (0<=a0.N) then some (decide (a0.N<=19999)) else some false) else some false)).bind λjS =>
 (bif jS then
 some (aJ (a0.N+1))
 else
 ((bif decide (a0.Kind=2) then (bif decide (1<=a0.N) then some (decide (a0.N<=19999)) else some false) else some false)).bind λkN =>
 (bif kN then
 some (aJ (-a0.N))
 else
 ((bif decide (a0.Kind=3) then some (decide (a0.N=0)) else some false)).bind λim =>
 (bif im then
 some 20001
 else
 ((bif decide (a0.Kind=4) then some (decide (a0.N=0)) else some false)).bind λjI =>
 (bif jI then
 some 20002
 else
 some 0))))
def z' (a0:gT):Option ((List Row)) :=
 (b1 (R:=List Row) (λ(s1:List Row × Int) =>
 (bif decide (s1.2<(a0.cz.length:Int)) then
 (b1 (R:=List Int) (λ(cm:List Int × Int) =>
 (idx a0.cz s1.2).bind λb6 =>
 (bif decide (cm.2<(b6.length:Int)) then
 ((idx a0.cz s1.2).bind λcr =>
 (idx cr cm.2).bind λew =>
 ((bif decide (ew.Kind=2) then
 (idx a0.cz s1.2).bind λcP =>
 (idx cP cm.2).bind λcc =>
 (c' cm.1 [cc.N]).bind λbT =>
 some (cm.1++[cc.N])
 else
 some cm.1)).bind λiI =>
 some iI).bind λjQ =>
 some (.inl (jQ,aJ (cm.2+1)))
 else
 some (.inr cm.1))) (([]:List Int),0)).bind λbw =>
 (vZ bw).bind λdO =>
 (b1 (R:=List b4) (λ(dd:List b4 × Int) =>
 (idx a0.cz s1.2).bind λfL =>
 (bif decide (dd.2<(fL.length:Int)) then
 ((idx a0.cz s1.2).bind λhE =>
 (idx hE dd.2).bind λgy =>
 ((bif !decide (gy.Kind=0) then (bif !decide (gy.Kind=2) then some true else some (!decide (gy.N=dO))) else some false)).bind λqc =>
 ((bif qc then
 (mF gy).bind λcR =>
 (c' dd.1 [(⟨dd.2,cR⟩:b4)]).bind λe8 =>
 some (dd.1++[(⟨dd.2,cR⟩:b4)])
 else
 some dd.1)).bind λxD =>
 some xD).bind λxC =>
 some (.inl (xC,aJ (dd.2+1)))
 else
 some (.inr dd.1))) (([]:List b4),0)).bind λdK =>
 (c' s1.1 [(⟨dO,dK⟩:Row)]).bind λkk =>
 some (.inl (s1.1++[(⟨dO,dK⟩:Row)],aJ (s1.2+1)))
 else
 some (.inr s1.1))) (([]:List Row),0)).bind λx2 =>
 some x2
def Aa (a0:gT):Option ((List Row)) :=
 (b1 (R:=List Row) (λ(s1:List Row × Int) =>
 ((bif decide (0<(a0.ei.length:Int)) then ((idx a0.ei 0).bind λbS=>some (decide (s1.2<(bS.length:Int)))) else some false)).bind λoJ =>
 (bif oJ then
 (b1 (R:=List Int) (λ(dA:List Int × Int) =>
 (bif decide (dA.2<(a0.ei.length:Int)) then
 ((idx a0.ei dA.2).bind λch =>
 (idx ch s1.2).bind λed =>
 ((bif decide (0<=ed) then
 (idx a0.ei dA.2).bind λbT =>
 (idx bT s1.2).bind λdO =>
 (c' dA.1 [dO]).bind λeK =>
 some (dA.1++[dO])
 else
 some dA.1)).bind λoi =>
 some oi).bind λeP =>
 some (.inl (eP,aJ (dA.2+1)))
 else
 some (.inr dA.1))) (([]:List Int),0)).bind λcw =>
 (vZ cw).bind λdK =>
 (b1 (R:=List b4) (λ(ry:List b4 × Int) =>
 (bif decide (ry.2<(a0.ei.length:Int)) then
 ((idx a0.ei ry.2).bind λgy =>
 (idx gy s1.2).bind λeb =>
 ((bif decide (0<=eb) then some (!decide (eb=dK)) else some false)).bind λqc =>
 ((bif qc then
 (c' ry.1 [(⟨ry.2,eb⟩:b4)]).bind λcR =>
 some (ry.1++[(⟨ry.2,eb⟩:b4)])
 else
 some ry.1)).bind λxD =>
 some xD).bind λur =>
 some (.inl (ur,aJ (ry.2+1)))
 else
 some (.inr ry.1))) (([]:List b4),0)).bind λfL =>
 (c' s1.1 [(⟨dK,fL⟩:Row)]).bind λe8 =>
 some (.inl (s1.1++[(⟨dK,fL⟩:Row)],aJ (s1.2+1)))
 else
 some (.inr s1.1))) (([]:List Row),0)).bind λx2 =>
 some x2
def CV (a0:(List Row)):Option ((List Int) × (List (List b4))) :=
 (b1 (R:=List Int × List (List b4)) (λ(s1:List Int × List (List b4) × Int) =>
 (bif decide (s1.2.2<(a0.length:Int)) then
 (idx a0 s1.2.2).bind λbS =>
 (c' s1.1 [bS.Def]).bind λbw =>
 (idx a0 s1.2.2).bind λbQ =>
 (c' s1.2.1 [bQ.ft]).bind λb6 =>
 some (.inl (s1.1++[bS.Def],s1.2.1++[bQ.ft],aJ (s1.2.2+1)))
 else
 some (.inr (s1.1,s1.2.1)))) (([]:List Int),([]:List (List b4)),0)).bind λx2 =>
 some (x2.1,x2.2)
def Kf (a0:(List (List b4))):Option (Bool) :=
 (bif decide (400<(a0.length:Int)) then
 some false
 else
 (b1 (R:=(Unit) ⊕ (Bool)) (λ(s2:Int) =>
 (bif decide (s2<(a0.length:Int)) then
 (b1 (R:=(Unit) ⊕ (Bool)) (λ(ds:List Int × Int) =>
 (idx a0 s2).bind λcr =>
 (bif decide (ds.2<(cr.length:Int)) then
 (((idx a0 s2).bind λch=>((idx ch ds.2).bind λed=>(bif decide (ed.At<0) then some true else ((idx a0 s2).bind λcc=>((idx cc ds.2).bind λbT=>(bif decide (999<bT.At) then some true else ((idx a0 s2).bind λeK=>((idx eK ds.2).bind λdK=>((x8 ds.1 dK.At).bind λeL=>some eL)))))))))).bind λHb =>
 (bif Hb then
 some (.inr (.inr false))
 else
 (idx a0 s2).bind λgb =>
 (idx gb ds.2).bind λhE =>
 (c' ds.1 [hE.At]).bind λgy =>
 some (.inl (ds.1++[hE.At],aJ (ds.2+1))))
 else
 some (.inr (.inl ())))) (([]:List Int),0)).bind λb6 =>
 (match b6 with
 | .inl cw =>
 some (.inl (aJ (s2+1)))
 | .inr bJ =>
 some (.inr (.inr bJ)))
 else
 some (.inr (.inl ())))) 0).bind λa7 =>
 (match a7 with
 | .inl bq =>
 some true
 | .inr bS =>
 some bS))
def Kg (a0:(List Int)) (aD:(List b4)) (a2:Int):Option (Bool) :=
 (b1 (R:=(Unit) ⊕ (Bool)) (λ(s1:Int) =>
 (bif decide (s1<(aD.length:Int)) then
 (idx aD s1).bind λbw =>
 ((bif decide (aJ (a2+bw.At)<(a0.length:Int)) then ((idx a0 (aJ (a2+bw.At))).bind λb6=>some (!decide (b6=0))) else some false)).bind λmo =>
 (bif mo then
 some (.inr (.inr false))
 else
 some (.inl (aJ (s1+1))))
 else
 some (.inr (.inl ())))) 0).bind λx2 =>
 (match x2 with
 | .inl a7 =>
 some true
 | .inr bq =>
 some bq)
def CW (a0:(List (List b4))):Option (fy) :=
 (Kf a0).bind λa8 =>
 (bif !a8 then
 some (⟨([]:List Int),([]:List Int),([]:List Int)⟩:fy)
 else
 (nk (a0.length:Int) 0).bind λa7 =>
 (nk (a0.length:Int) false).bind λbq =>
 (b1 (R:=(Unit) ⊕ (fy)) (λ(cm:fy × List Bool) =>
 (b1 (R:=Int) (λ(ie:Int × Int) =>
 (bif decide (ie.2<(a0.length:Int)) then
 ((((idx cm.2 ie.2).bind λed=>(bif !ed then ((idx a0 ie.2).bind λcc=>(bif decide (0<(cc.length:Int)) then (bif decide (ie.1<0) then some true else ((idx a0 ie.2).bind λeK=>((idx a0 ie.1).bind λdK=>some (decide ((dK.length:Int)<(eK.length:Int)))))) else some false)) else some false))).bind λq3 =>
 ((bif q3 then
 some ie.2
 else
 some ie.1)).bind λmB =>
 some mB).bind λiI =>
 some (.inl (iI,aJ (ie.2+1)))
 else
 some (.inr ie.1))) ((-1),0)).bind λbJ =>
 (bif decide (bJ<0) then
 some (.inr (.inr cm.1))
 else
 (idx cm.2 bJ).bind λhE =>
 (b1 (R:=List Int) (λ(o1:List Int) =>
 (idx a0 bJ).bind λek =>
 (idx o1 bJ).bind λhY =>
 (Kg cm.1.b3 ek hY).bind λj2 =>
 (bif !j2 then
 (idx o1 bJ).bind λe8 =>
 some (.inl (o1.set bJ.toNat (aJ (e8+1))))
 else
 some (.inr o1))) cm.1.cS).bind λeb =>
 (b1 (R:=List Int × List Int) (λ(dZ:List Int × List Int × Int) =>
 (idx a0 bJ).bind λj3 =>
 (bif decide (dZ.2.2<(j3.length:Int)) then
 (idx eb bJ).bind λgn =>
 (idx a0 bJ).bind λo_ =>
 (idx o_ dZ.2.2).bind λjB =>
 (b1 (R:=List Int × List Int) (λ(kj:List Int × List Int) =>
 (bif decide ((kj.2.length:Int)<=aJ (gn+jB.At)) then
 (c' kj.2 [0]).bind λow =>
 (c' kj.1 [0]).bind λnX =>
 some (.inl (kj.1++[0],kj.2++[0]))
 else
 some (.inr (kj.1,kj.2)))) (dZ.1,dZ.2.1)).bind λfM =>
 (idx a0 bJ).bind λwq =>
 (idx wq dZ.2.2).bind λp1 =>
 (idx fM.2 (aJ (gn+jB.At))).bind λyx =>
 (idx fM.1 (aJ (gn+jB.At))).bind λrG =>
 some (.inl (fM.1.set (aJ (gn+jB.At)).toNat p1.b8,fM.2.set (aJ (gn+jB.At)).toNat (aJ (bJ+1)),aJ (dZ.2.2+1)))
 else
 some (.inr (dZ.1,dZ.2.1)))) (cm.1.b8,cm.1.b3,0)).bind λee =>
 some (.inl ((⟨eb,ee.1,ee.2⟩:fy),cm.2.set bJ.toNat true)))) ((⟨a7,([]:List Int),([]:List Int)⟩:fy),bq)).bind λbw =>
 (match bw with
 | .inl bQ =>
 none
 | .inr b6 =>
 some b6))
def Kc (a0:bN):Option ((List b4)) :=
 (b1 (R:=List Int) (λ(s1:List Int × Int) =>
 (bif decide (s1.2<(a0.ba.length:Int)) then
 ((idx a0.ba s1.2).bind λbw =>
 ((bif decide (0<bw.bR) then
 (idx a0.ba s1.2).bind λcw =>
 (pT s1.1 cw.bR).bind λbJ =>
 some bJ
 else
 some s1.1)).bind λkW =>
 some kW).bind λkU =>
 some (.inl (kU,aJ (s1.2+1)))
 else
 some (.inr s1.1))) (([]:List Int),0)).bind λx2 =>
 (b1 (R:=List b4) (λ(gI:List b4 × Int) =>
 (bif decide (gI.2<(x2.length:Int)) then
 (b1 (R:=List b4) (λ(h4:List b4 × Int) =>
 (bif decide (h4.2<(a0.ba.length:Int)) then
 ((idx a0.ba h4.2).bind λdK =>
 (idx x2 gI.2).bind λeL =>
 ((bif decide (dK.bR=eL) then
 (idx x2 gI.2).bind λgb =>
 (c' h4.1 [(⟨gb,h4.2⟩:b4)]).bind λhE =>
 some (h4.1++[(⟨gb,h4.2⟩:b4)])
 else
 some h4.1)).bind λmB =>
 some mB).bind λe_ =>
 some (.inl (e_,aJ (h4.2+1)))
 else
 some (.inr h4.1))) (gI.1,0)).bind λcc =>
 some (.inl (cc,aJ (gI.2+1)))
 else
 some (.inr gI.1))) (([]:List b4),0)).bind λew =>
 some ew
def J' (a0:bN) (aD:gT):Option (Tables) :=
 (z' aD).bind λa8 =>
 (CV a8).bind λx2 =>
 (CW x2.2).bind λa7 =>
 (Aa aD).bind λbq =>
 (CV bq).bind λbS =>
 (CW bS.2).bind λbw =>
 (b1 (R:=List Int × List Int) (λ(ds:List Int × List Int × Int) =>
 (bif decide (ds.2.2<(a0.bh.length:Int)) then
 (idx a0.bh ds.2.2).bind λcr =>
 (c' ds.1 [cr.Left]).bind λew =>
 (idx a0.bh ds.2.2).bind λch =>
 (c' ds.2.1 [(ch.eu.length:Int)]).bind λed =>
 some (.inl (ds.1++[cr.Left],ds.2.1++[(ch.eu.length:Int)],aJ (ds.2.2+1)))
 else
 some (.inr (ds.1,ds.2.1)))) (([]:List Int),([]:List Int),0)).bind λb6 =>
 (Kc a0).bind λcP =>
 some (⟨x2.1,a7,bS.1,bw,b6.1,b6.2,cP⟩:Tables)
def s_ (a0:(List b4)) (aD:Int):Option (Int × Bool) :=
 (b1 (R:=(Unit) ⊕ (Int × Bool)) (λ(s1:Int) =>
 (bif decide (s1<(a0.length:Int)) then
 (idx a0 s1).bind λbw =>
 (bif decide (bw.At=aD) then
 (idx a0 s1).bind λb6 =>
 some (.inr (.inr (b6.b8,true)))
 else
 some (.inl (aJ (s1+1))))
 else
 some (.inr (.inl ())))) 0).bind λx2 =>
 (match x2 with
 | .inl a7 =>
 some (0,false)
 | .inr bq =>
 some (bq.1,bq.2))
def ta (a0:Int):Option (Act) :=
 ((bif decide (1<=a0) then some (decide (a0<=20000)) else some false)).bind λc2 =>
 (bif c2 then
 some (⟨1,aJ (a0 - 1)⟩:Act)
 else
 ((bif decide (a0<=(-1)) then some (decide ((-19999)<=a0)) else some false)).bind λkM =>
 (bif kM then
 some (⟨2,aJ (-a0)⟩:Act)
 else
 (bif decide (a0=20001) then
 some (⟨3,0⟩:Act)
 else
 (bif decide (a0=20002) then
 some (⟨4,0⟩:Act)
 else
 some (⟨0,0⟩:Act)))))
def vV (a0:gT) (aD:(List Row)) (a2:Int) (a3:Int):Option (Act) :=
 ((bif decide (a2<0) then some true else some (decide ((aD.length:Int)<=a2)))).bind λc2 =>
 (bif c2 then
 some (⟨0,0⟩:Act)
 else
 (idx aD a2).bind λbq =>
 (s_ bq.ft a3).bind λbS =>
 (bif bS.2 then
 (ta bS.1).bind λbQ =>
 some bQ
 else
 (idx aD a2).bind λb6 =>
 (bif decide (0<=b6.Def) then
 (idx aD a2).bind λbJ =>
 some (⟨2,bJ.Def⟩:Act)
 else
 some (⟨0,0⟩:Act))))
def Kb (a0:oy) (aD:Int) (a2:Int):Option (Bool) :=
 (ya ).bind λa8 =>
 (bif !a8 then
 some false
 else
 (vP a0).bind λa7 =>
 (sn a7).bind λbq =>
 (bif !bq.2.2.2 then
 some true
 else
 (uA bq.1 bq.2.1).bind λbw =>
 (z' bq.2.1).bind λbQ =>
 (b1 (R:=(Unit) ⊕ (Bool)) (λ(dA:Int) =>
 (bif decide (dA<=(bq.2.1.cz.length:Int)) then
 (b1 (R:=(Unit) ⊕ (Bool)) (λ(fI:Int) =>
 (bif decide (fI<=aJ ((bq.1.ba.length:Int)+2)) then
 (k1 bw dA fI).bind λdO =>
 (vV bq.2.1 bQ dA fI).bind λeK =>
 (bif !(decide (dO.Kind=eK.Kind)&&(decide (dO.N=eK.N)&&true)) then
 some (.inr (.inr false))
 else
 some (.inl (aJ (fI+1))))
 else
 some (.inr (.inl ())))) (-2)).bind λed =>
 (match ed with
 | .inl cP =>
 (k1 bw dA a2).bind λeL =>
 (vV bq.2.1 bQ dA a2).bind λfL =>
 (bif !(decide (eL.Kind=fL.Kind)&&(decide (eL.N=fL.N)&&true)) then
 some (.inr (.inr false))
 else
 some (.inl (aJ (dA+1))))
 | .inr cc =>
 some (.inr (.inr cc)))
 else
 some (.inr (.inl ())))) (-1)).bind λcw =>
 (match cw with
 | .inl bJ =>
 (k1 bw aD a2).bind λgb =>
 (vV bq.2.1 bQ aD a2).bind λhE =>
 some (decide (gb.Kind=hE.Kind)&&(decide (gb.N=hE.N)&&true))
 | .inr cr =>
 some cr)))
def Ke (a0:oy) (aD:Int) (a2:Int):Option (Bool) :=
 (ya ).bind λa8 =>
 (bif !a8 then
 some false
 else
 (vP a0).bind λa7 =>
 (sn a7).bind λbq =>
 (bif !bq.2.2.2 then
 some true
 else
 (uA bq.1 bq.2.1).bind λbw =>
 (Aa bq.2.1).bind λbQ =>
 (b1 (R:=(Unit) ⊕ (Bool)) (λ(dA:Int) =>
 (bif decide (dA<=(bQ.length:Int)) then
 (b1 (R:=List Int) (λ(fI:List Int × Int) =>
 (bif decide (fI.2<(bq.2.1.cz.length:Int)) then
 (c' fI.1 [fI.2]).bind λbT =>
 some (.inl (fI.1++[fI.2],aJ (fI.2+1)))
 else
 some (.inr fI.1))) ([aD,(-1),(bq.2.1.cz.length:Int)],0)).bind λed =>
 (b1 (R:=(Unit) ⊕ (Bool)) (λ(o0:Int) =>
 (bif decide (o0<(ed.length:Int)) then
 ((bif decide (0<=dA) then some (decide (dA<(bQ.length:Int))) else some false)).bind λqb =>
 ((bif qb then
 (idx bQ dA).bind λeb =>
 (idx ed o0).bind λcW =>
 (s_ eb.ft cW).bind λek =>
 (idx bQ dA).bind λhY =>
 ((bif ek.2 then
 some ek.1
 else
 some hY.Def)).bind λuv =>
 some uv
 else
 some (-1))).bind λur =>
 (idx ed o0).bind λe8 =>
 (uD bw e8 dA).bind λkk =>
 (bif !decide (kk=ur) then
 some (.inr (.inr false))
 else
 some (.inl (aJ (o0+1))))
 else
 some (.inr (.inl ())))) 0).bind λeK =>
 (match eK with
 | .inl dK =>
 some (.inl (aJ (dA+1)))
 | .inr eL =>
 some (.inr (.inr eL)))
 else
 some (.inr (.inl ())))) (-1)).bind λcw =>
 (match cw with
 | .inl bJ =>
 ((bif decide (0<=a2) then (bif decide (a2<(bQ.length:Int)) then some true else ((uD bw aD a2).bind λcY=>some (decide (cY=(-1))))) else ((uD bw aD a2).bind λgn=>some (decide (gn=(-1)))))).bind λSa =>
 some Sa
 | .inr cr =>
 some cr)))
def C3 (a0:oy):Option (Bool) :=
 (ya ).bind λa8 =>
 (bif !a8 then
 some false
 else
 (vP a0).bind λa7 =>
 (sn a7).bind λbq =>
 (bif !bq.2.2.2 then
 some true
 else
 (uA bq.1 bq.2.1).bind λbw =>
 ((bif !decide ((bw.Def.length:Int)=(bq.2.1.cz.length:Int)) then some true else (bif !decide ((bw.Left.length:Int)=(bq.1.bh.length:Int)) then some true else some (!decide ((bw.k7.length:Int)=(bq.1.bh.length:Int)))))).bind λmo =>
 (bif mo then
 some false
 else
 (b1 (R:=(Unit) ⊕ (Bool)) (λ(gI:Int) =>
 (bif decide (gI<(bq.2.1.cz.length:Int)) then
 (idx bw.Def gI).bind λcc =>
 (b1 (R:=(Bool) ⊕ (Bool)) (λ(hD:Bool × Int) =>
 (bif decide (hD.2<(bq.1.ba.length:Int)) then
 (idx bq.2.1.cz gI).bind λfL =>
 (idx fL hD.2).bind λd_ =>
 ((bif decide (d_.Kind=4) then ((k1 bw gI hD.2).bind λhE=>(bif !decide (hE.Kind=4) then some true else (bif decide (d_.Kind=1) then ((k1 bw gI hD.2).bind λcW=>(bif !(decide (cW.Kind=d_.Kind)&&(decide (cW.N=d_.N)&&true)) then some true else (bif decide (d_.Kind=3) then ((k1 bw gI hD.2).bind λj2=>some (!(decide (j2.Kind=d_.Kind)&&(decide (j2.N=d_.N)&&true)))) else some false))) else (bif decide (d_.Kind=3) then ((k1 bw gI hD.2).bind λe8=>some (!(decide (e8.Kind=d_.Kind)&&(decide (e8.N=d_.N)&&true)))) else some false)))) else (bif decide (d_.Kind=1) then ((k1 bw gI hD.2).bind λee=>(bif !(decide (ee.Kind=d_.Kind)&&(decide (ee.N=d_.N)&&true)) then some true else (bif decide (d_.Kind=3) then ((k1 bw gI hD.2).bind λcY=>some (!(decide (cY.Kind=d_.Kind)&&(decide (cY.N=d_.N)&&true)))) else some false))) else (bif decide (d_.Kind=3) then ((k1 bw gI hD.2).bind λo_=>some (!(decide (o_.Kind=d_.Kind)&&(decide (o_.N=d_.N)&&true)))) else some false)))).bind λsD =>
 (bif sD then
 some (.inr (.inr false))
 else
 ((bif hD.1 then some true else (bif decide (d_.Kind=2) then ((idx bw.Def gI).bind λov=>some (decide (d_.N=ov))) else some false))).bind λHg =>
 some (.inl (Hg,aJ (hD.2+1))))
 else
 some (.inr (.inl hD.1)))) (decide (cc=(-1)),0)).bind λdO =>
 (match dO with
 | .inl eK =>
 (bif !eK then
 some (.inr (.inr false))
 else
 some (.inl (aJ (gI+1))))
 | .inr dK =>
 some (.inr (.inr dK)))
 else
 some (.inr (.inl ())))) 0).bind λew =>
 (match ew with
 | .inl ch =>
 (b1 (R:=(Unit) ⊕ (Bool)) (λ(we:Int) =>
 (bif decide (we<(bq.1.bh.length:Int)) then
 (((idx bw.Left we).bind λDz=>((idx bq.1.bh we).bind λDA=>(bif !decide (Dz=DA.Left) then some true else ((idx bw.k7 we).bind λmK=>((idx bq.1.bh we).bind λox=>some (!decide (mK=(ox.eu.length:Int))))))))).bind λA_ =>
 (bif A_ then
 some (.inr (.inr false))
 else
 some (.inl (aJ (we+1))))
 else
 some (.inr (.inl ())))) 0).bind λp1 =>
 (match p1 with
 | .inl yx =>
 some true
 | .inr rG =>
 some rG)
 | .inr ed =>
 some ed))))
end Go.Proofs
namespace Go.Own
open Go
variable {α β S R:Type}
abbrev hl (p:S->Prop) (q:R->Prop) (x:S ⊕ R):Prop:=Sum.elim p q x
def Tot (x:Option α) (Φ:α->Prop):Prop:=∃ a,x=some a/\Φ a
namespace Tot
variable {Φ Ψ:α->Prop}
theorem ao {a:α}(h:Φ a):Tot (some a) Φ:=⟨a,rfl,h⟩
theorem bi {x:Option β}{f:β->Option α}(h:Tot x λa=>Tot (f a) Φ):Tot (x.bind f) Φ:=by
 obtain ⟨a,rfl,b,av,nQ⟩:=h;exact ⟨b,av,nQ⟩
theorem aV {f:β->Option α}{a:β}(h:Tot (f a) Φ):Tot ((some a).bind f) Φ:=h
theorem use {x:Option α}(h:Tot x Ψ) (hi:∀ a,Ψ a->Φ a):Tot x Φ:=by
 obtain ⟨a,aP,Jo⟩:=h;exact ⟨a,aP,hi a Jo⟩
theorem aA {x:Option β}{f:β->Option α}{Ξ:β->Prop}(h:Tot x Ξ) (hk:∀ a,Ξ a->Tot (f a) Φ):Tot (x.bind f) Φ:=bi (h.use hk)
theorem bE {c:Bool}{a b:Option α}(aw:c=true->Tot a Φ) (aW:c=false->Tot b Φ):Tot (cond c a b) Φ:=by
 grind
theorem bp {p:Prop} [Decidable p] {a b:Option α}(aw:p->Tot a Φ) (aW:¬ p->Tot b Φ):Tot (cond (decide p) a b) Φ:=by grind
theorem oL {p:Prop} [Decidable p] {a b:Option α}(aw:¬ p->Tot a Φ) (aW:p->Tot b Φ):Tot (cond (!decide p) a b) Φ:=by grind
theorem hp {l:List α}{i:Int}(aQ:0<=i) (h1:i<l.length) (hk:∀ y,idx l i=some y->y∈l->Φ y):Tot (idx l i) Φ:=by
 have aT:i.toNat<l.length:=by omega
 have:idx l i=some l[i.toNat]:=by simp [idx,aQ,aT]
 exact ⟨_,this,hk _ this (List.getElem_mem aT)⟩
theorem ap {Φ:List α->Prop}{l m:List α}(h:l.length+m.length<=lim) (hk:Φ (l++m)):Tot (c' l m) Φ:=by
 refine ⟨l++m,?_,hk⟩
 grind [c']
theorem loop {f:S->Option (S ⊕ R)}{e0:S}{Ψ:R->Prop}(Inv:S->Prop) (uV:S->Nat) (aQ:Inv e0) (Jp:uV e0<fuel)
  (aB:∀ s,Inv s->Tot (f s) (hl (λcT=>Inv cT/\uV cT<uV s) Ψ)):Tot (b1 f e0) Ψ:=by
 have key:∀ n s,Inv s->uV s<n->Tot (iter f n s) Ψ:=by
  intro n
  induction n with
  | zero=>intro s _ h; omega
  | succ n aU =>
   intro s bc hm;obtain ⟨x,J,cn⟩:=aB s bc;cases x with
   | inl cT =>
    grind [iter]
   | inr r =>
    simp only [iter,J];exact ⟨r,rfl,cn⟩
 exact key fuel e0 aQ Jp
theorem count {f:S->Option (S ⊕ R)}{e0:S}{Ψ:R->Prop}(i:S->Int) (n:Int) (Inv:S->Prop) (aQ:Inv e0) (aF:n - i e0<1000000000000000000)
  (aB:∀ s,Inv s->Tot (f s) (hl (λcT=>Inv cT/\i s<i cT/\i cT<=n) Ψ)):Tot (b1 f e0) Ψ:=by
 refine loop Inv (λs=>(n - i s).toNat) aQ (by show (n - i e0).toNat<1000000000000000000; omega) λs bc=>(aB s bc).use λx J=>?_
 grind
end Tot
theorem cB (n:Int):aJ n=(n+9223372036854775808) % 18446744073709551616 - 9223372036854775808:=IntKind.wrap_i64 n
namespace Tot
theorem cat {Φ:ByteArray->Prop}{s u:ByteArray}(h:s.size+u.size<=4611686018427387904) (hk:Φ (s++u)):Tot (tH s u) Φ:=by
 refine ⟨s++u,?_,hk⟩
 grind [tH]
theorem cut {Φ:ByteArray->Prop}{s:ByteArray}{m n:Int}(h:0<=m/\m<=n/\n<=s.size) (hk:Φ (rQ s m n)):Tot (q4 s m n) Φ:=by
 refine ⟨_,?_,hk⟩
 grind [q4]
theorem n5 {Φ:Int->Prop}{s:ByteArray}{m:Int}(h:0<=m/\m<s.size) (hk:Φ (lG s m)):Tot (kr s m) Φ:=by
 refine ⟨_,?_,hk⟩
 grind [kr]
theorem sub {Φ:List α->Prop}{l:List α}{m n:Int}(h:0<=m/\m<=n/\n<=l.length) (hk:Φ ((l.drop m.toNat).take (n - m).toNat)):Tot (nW l m n) Φ:=by
 refine ⟨_,?_,hk⟩
 grind [nW]
theorem rem {Φ:Int->Prop}{m n:Int}(h:n≠0) (hk:Φ (m.tmod n)):Tot (ru m n) Φ:=by
 refine ⟨_,?_,hk⟩
 grind [ru]
theorem quo {Φ:Int->Prop}{m n:Int}(h:n≠0) (hk:Φ (aJ (m.tdiv n))):Tot (FI m n) Φ:=by
 refine ⟨_,?_,hk⟩
 grind [FI]
theorem rv {Φ:Int->Prop}{m n:Int}(h:n≠0) (hk:Φ (m.tmod n)):Tot (Own.rv m n) Φ:=by
 refine ⟨_,?_,hk⟩
 grind [Own.rv]
theorem rq {Φ:Int->Prop}{m n:Int}(h:n≠0) (hk:Φ (IntKind.u64.wrap (m.tdiv n))):Tot (Own.rq m n) Φ:=by
 refine ⟨_,?_,hk⟩
 grind [Own.rq]
theorem mk {Φ:List α->Prop}{m:Int}{z:α}(h:0<=m/\m<=lim) (hk:Φ (List.replicate m.toNat z)):Tot (nk m z) Φ:=by
 refine ⟨_,?_,hk⟩
 grind [nk]
theorem eq {x:Option α}{Φ:α->Prop}{a:α}(h:Tot x Φ) (e:x=some a):Φ a:=by
 obtain ⟨b,av,nQ⟩:=h
 grind
theorem ex {x:Option α}{Φ:α->Prop}(h:Tot x Φ):∃ a,x=some a/\Φ a:=h
end Tot
namespace Tot
theorem scan {f:Int->Option (Int ⊕ (Unit ⊕ R))}(l:List β) (P:β->Prop) (Q:R->Prop) (ak:l.length<=100000000000000000)
  (aB:∀ (s:Int) (y:β),0<=s->s<l.length->idx l s=some y->y∈l->Tot (f s) (hl (λcT=>cT=s+1/\P y) (hl (λ_=>False) Q)))
  (he:∀ s:Int,¬ s<l.length->f s=some (.inr (.inl ()))):Tot (b1 f 0) (hl (λ_=>∀ y∈l,P y) Q):=by
 refine count (λs=>s) l.length (λs=>0<=s/\s<=l.length/\∀ (j:Nat) (y:β),(j:Int)<s->l[j]?=some y->P y) ⟨by omega,by omega,λj y h=>by omega⟩ (by show (l.length:Int) - 0<_; omega) λs bc=>?_;obtain ⟨aQ,h1,af⟩:=bc;by_cases aT:s<l.length
 ·have m_:s.toNat<l.length:=by omega
  have hi:idx l s=some l[s.toNat]:=by simp [idx,aQ,m_]
  refine (aB s _ aQ aT hi (List.getElem_mem m_)).use λx J=>?_;rcases x with cT | ⟨⟨⟩⟩ | r
  ·obtain ⟨rfl,cn⟩:=J
   grind
  ·grind
  grind
 ·rw [he s aT];refine ao λy ax=>?_;obtain ⟨j,ah,rfl⟩:=List.mem_iff_getElem.1 ax;exact af j _ (by omega) (List.getElem?_eq_getElem ah)
end Tot
end Go.Own
namespace Go.Own
open Go
variable {α β S R:Type}
def Par (x:Option α) (Φ:α->Prop):Prop:=∀ a,x=some a->Φ a
set_option linter.unusedVariables false
namespace Par
variable {Φ Ψ:α->Prop}
theorem ao {a:α}(h:Φ a):Par (some a) Φ:=λb e=>by cases e; exact h
theorem no:Par (none:Option α) Φ:=λb e=>by cases e
theorem use {x:Option α}(h:Par x Ψ) (hi:∀ a,Ψ a->Φ a):Par x Φ:=λa e=>hi a (h a e)
theorem aA {x:Option β}{f:β->Option α}{Ξ:β->Prop}(h:Par x Ξ) (hk:∀ a,Ξ a->Par (f a) Φ):Par (x.bind f) Φ:=λa e=>by
 cases x with
 | none=>cases e
 | some b=>exact hk b (h b rfl) a e
theorem go {x:Option β}{f:β->Option α}(hk:∀ a,x=some a->Par (f a) Φ):Par (x.bind f) Φ:=λa e=>by
 cases x with
 | none=>cases e
 | some b=>exact hk b rfl a e
theorem bE {c:Bool}{a b:Option α}(aw:c=true->Par a Φ) (aW:c=false->Par b Φ):Par (cond c a b) Φ:=by
 cases c
 ·exact aW rfl
 ·exact aw rfl
theorem bp {p:Prop} [Decidable p] {a b:Option α}(aw:p->Par a Φ) (aW:¬ p->Par b Φ):Par (cond (decide p) a b) Φ :=
 bE (λh=>aw (of_decide_eq_true h)) (λh=>aW (of_decide_eq_false h))
theorem oL {p:Prop} [Decidable p] {a b:Option α}(aw:¬ p->Par a Φ) (aW:p->Par b Φ):Par (cond (!decide p) a b) Φ :=
 bE (λh=>aw (of_decide_eq_false (by simpa using h))) (λh=>aW (of_decide_eq_true (by simpa using h)))
theorem ap {l m:List β}{f:List β->Option α}(hk:l.length+m.length<=lim->Par (f (l++m)) Φ):Par ((c' l m).bind f) Φ:=by
 unfold c';split
 ·rename_i h; exact hk h
 ·exact no
theorem cat {s u:ByteArray}{f:ByteArray->Option α}(hk:Par (f (s++u)) Φ):Par ((tH s u).bind f) Φ:=by
 unfold tH;split
 ·exact hk
 ·exact no
theorem loop {f:S->Option (S ⊕ R)}{e0:S}{Ψ:R->Prop}(Inv:S->Prop) (aQ:Inv e0) (aB:∀ s,Inv s->Par (f s) (hl Inv Ψ)):Par (b1 f e0) Ψ:=by
 have key:∀ n s,Inv s->Par (iter f n s) Ψ:=by
  intro n
  induction n with
  | zero=>intro s _ a e; cases e
  | succ n aU =>
   intro s bc a e;simp only [iter] at e;cases J:f s with
   | none=>rw [J] at e; cases e
   | some x =>
    have cn:=aB s bc x J;rw [J] at e;cases x with
    | inl cT=>exact aU cT cn a e
    | inr r=>cases e; exact cn
 exact key fuel e0 aQ
theorem jk {x:Option α}(h:Tot x Φ) (aR:Par x Ψ):Tot x λa=>Φ a/\Ψ a:=by
 obtain ⟨a,aP,nQ⟩:=h;exact ⟨a,aP,nQ,aR a aP⟩
theorem of {x:Option α}(h:Tot x Φ):Par x Φ:=λa e=>h.eq e
theorem scan {f:Int->Option (Int ⊕ (Unit ⊕ R))}(l:List β) (ak:l.length<=100000000000000000) (P:β->Prop) (Q:R->Prop)
  (aB:∀ (s:Int) (y:β),0<=s->s<l.length->idx l s=some y->y∈l->Par (f s) (hl (λcT=>cT=s+1/\P y) (hl (λ_=>False) Q)))
  (he:∀ s:Int,¬ s<l.length->f s=some (.inr (.inl ()))):Par (b1 f 0) (hl (λ_=>∀ y∈l,P y) Q):=by
 refine loop (λs=>0<=s/\s<=l.length/\∀ (j:Nat) (y:β),(j:Int)<s->l[j]?=some y->P y) ⟨by omega,by omega,λj y h=>by omega⟩ λs bc=>?_;obtain ⟨aQ,h1,af⟩:=bc;by_cases aT:s<l.length
 ·have m_:s.toNat<l.length:=by omega
  have hi:idx l s=some l[s.toNat]:=by simp [idx,aQ,m_]
  refine (aB s _ aQ aT hi (List.getElem_mem m_)).use λx J=>?_;rcases x with cT | ⟨⟨⟩⟩ | r
  ·obtain ⟨rfl,cn⟩:=J;refine ⟨by omega,by omega,λj y ah ax=>?_⟩;by_cases EE:(j:Int)<s
   ·exact af j y EE ax
   ·have:j=s.toNat:=by omega
    subst this;rw [List.getElem?_eq_getElem m_] at ax;cases ax; exact cn
  ·exact J.elim
  ·exact J
 ·rw [he s aT];refine ao λy ax=>?_;obtain ⟨j,ah,rfl⟩:=List.mem_iff_getElem.1 ax;exact af j _ (by omega) (List.getElem?_eq_getElem ah)
end Par
end Go.Own
namespace Go.Own
open Go
variable {α β S R:Type}
namespace Tot
theorem upto {f:S->Option (S ⊕ R)}{e0:S}{Ψ:R->Prop}(i:S->Int) (n:Nat) (Inv:Nat->S->Prop) (hi:i e0=0) (aF:n<=100000000000000000) (aQ:Inv 0 e0)
  (aB:∀ (k:Nat) (s:S),k<=n->i s=(k:Int)->Inv k s->Tot (f s) (hl (λcT=>k<n/\i cT=((k+1:Nat):Int)/\Inv (k+1) cT) Ψ)):Tot (b1 f e0) Ψ:=by
 refine count i n (λs=>∃ k:Nat,k<=n/\i s=(k:Int)/\Inv k s) ⟨0,Nat.zero_le _,hi,aQ⟩ (by rw [hi]; omega) λs ⟨k,hk,he,bc⟩=>(aB k s hk he bc).use λx J=>?_;rcases x with cT | r
 ·obtain ⟨h1,af,aI⟩:=J;exact ⟨⟨k+1,by omega,af,aI⟩,by omega,by omega⟩
 ·exact J
end Tot
namespace Par
theorem upto {f:S->Option (S ⊕ R)}{e0:S}{Ψ:R->Prop}(i:S->Int) (n:Nat) (Inv:Nat->S->Prop) (hi:i e0=0) (aQ:Inv 0 e0)
  (aB:∀ (k:Nat) (s:S),k<=n->i s=(k:Int)->Inv k s->Par (f s) (hl (λcT=>k<n/\i cT=((k+1:Nat):Int)/\Inv (k+1) cT) Ψ)):Par (b1 f e0) Ψ:=by
 refine loop (λs=>∃ k:Nat,k<=n/\i s=(k:Int)/\Inv k s) ⟨0,Nat.zero_le _,hi,aQ⟩ λs ⟨k,hk,he,bc⟩=>(aB k s hk he bc).use λx J=>?_;rcases x with cT | r
 ·obtain ⟨h1,af,aI⟩:=J;exact ⟨k+1,by omega,af,aI⟩
 ·exact J
end Par
theorem eB (k:Nat) (h:k<=1000000000000000000):aJ ((k:Int)+1)=((k+1:Nat):Int):=by rw [cB]; omega
end Go.Own
namespace Go.Own
open Go
variable {α β AL AM S T R Q:Type}
def Rel (x:Option α) (y:Option β) (Φ:α->β->Prop):Prop:=∃ a b,x=some a/\y=some b/\Φ a b
abbrev Ln (p:S->T->Prop) (q:R->Q->Prop):S ⊕ R->T ⊕ Q->Prop
 | .inl a,.inl b=>p a b
 | .inr a,.inr b=>q a b
 | _,_=>False
namespace Rel
variable {Φ Ψ:α->β->Prop}
theorem ao {a:α}{b:β}(h:Φ a b):Rel (some a) (some b) Φ:=⟨a,b,rfl,rfl,h⟩
theorem use {x:Option α}{y:Option β}(h:Rel x y Ψ) (hi:∀ a b,Ψ a b->Φ a b):Rel x y Φ:=by
 obtain ⟨a,b,aP,av,Jo⟩:=h;exact ⟨a,b,aP,av,hi a b Jo⟩
theorem aA {x:Option AL}{y:Option AM}{f:AL->Option α}{g:AM->Option β}{Ξ:AL->AM->Prop}(h:Rel x y Ξ) (hk:∀ a b,Ξ a b->Rel (f a) (g b) Φ):Rel (x.bind f) (y.bind g) Φ:=by
 obtain ⟨a,b,rfl,rfl,Ce⟩:=h;exact hk a b Ce
theorem l {x:Option AL}{y:Option β}{f:AL->Option α}{Ξ:AL->Prop}(h:Tot x Ξ) (hk:∀ a,Ξ a->Rel (f a) y Φ):Rel (x.bind f) y Φ:=by
 obtain ⟨a,rfl,Ce⟩:=h;exact hk a Ce
theorem r {x:Option α}{y:Option AM}{g:AM->Option β}{Ξ:AM->Prop}(h:Tot y Ξ) (hk:∀ a,Ξ a->Rel x (g a) Φ):Rel x (y.bind g) Φ:=by
 obtain ⟨a,rfl,Ce⟩:=h;exact hk a Ce
theorem bE {c d:Bool}{a b:Option α}{ca eD:Option β}(aa:c=d) (aw:c=true->Rel a ca Φ) (aW:c=false->Rel b eD Φ):Rel (cond c a b) (cond d ca eD) Φ:=by
 subst aa;cases c
 ·exact aW rfl
 ·exact aw rfl
theorem cl {c:Bool}{a b:Option α}{y:Option β}(aw:c=true->Rel a y Φ) (aW:c=false->Rel b y Φ):Rel (cond c a b) y Φ:=by
 cases c
 ·exact aW rfl
 ·exact aw rfl
theorem jk {x:Option α}{y:Option β}{P:α->Prop}{Q:β->Prop}(h:Tot x P) (aR:Tot y Q) (hi:∀ a b,P a->Q b->Φ a b):Rel x y Φ:=by
 obtain ⟨a,aP,cn⟩:=h;obtain ⟨b,av,dP⟩:=aR;exact ⟨a,b,aP,av,hi a b cn dP⟩
theorem fst {x:Option α}{y:Option β}(h:Rel x y Φ):Tot x λa=>∃ b,y=some b/\Φ a b:=by
 obtain ⟨a,b,aP,av,nQ⟩:=h;exact ⟨a,aP,b,av,nQ⟩
theorem loop {f:S->Option (S ⊕ R)}{g:T->Option (T ⊕ Q)}{e0:S}{t0:T}{Ψ:R->Q->Prop}(Inv:S->T->Prop) (uV:S->Nat) (aQ:Inv e0 t0) (Jp:uV e0<fuel)
  (aB:∀ s t,Inv s t->Rel (f s) (g t) (Ln (λcT t'=>Inv cT t'/\uV cT<uV s) Ψ)):Rel (b1 f e0) (b1 g t0) Ψ:=by
 have key:∀ n s t,Inv s t->uV s<n->Rel (iter f n s) (iter g n t) Ψ:=by
  intro n
  induction n with
  | zero=>intro s t _ h; omega
  | succ n aU =>
   intro s t bc hm;obtain ⟨x,y,J,ax,cn⟩:=aB s t bc;rcases x with cT | r <;> rcases y with t' | q
   ·obtain ⟨h1,af⟩:=cn;simp only [iter,J,ax];exact aU cT t' h1 (by omega)
   ·exact cn.elim
   ·exact cn.elim
   ·simp only [iter,J,ax];exact ⟨r,q,rfl,rfl,cn⟩
 exact key fuel e0 t0 aQ Jp
theorem upto {f:S->Option (S ⊕ R)}{g:T->Option (T ⊕ Q)}{e0:S}{t0:T}{Ψ:R->Q->Prop}(i:S->Int) (n:Nat) (Inv:Nat->S->T->Prop) (hi:i e0=0) (aF:n<=100000000000000000) (aQ:Inv 0 e0 t0)
  (aB:∀ (k:Nat) (s:S) (t:T),k<=n->i s=(k:Int)->Inv k s t->Rel (f s) (g t) (Ln (λcT t'=>k<n/\i cT=((k+1:Nat):Int)/\Inv (k+1) cT t') Ψ)):Rel (b1 f e0) (b1 g t0) Ψ:=by
 refine loop (λs t=>∃ k:Nat,k<=n/\i s=(k:Int)/\Inv k s t) (λs=>(n - (i s).toNat)) ⟨0,Nat.zero_le _,hi,aQ⟩ (by rw [hi]; show n - 0<1000000000000000000; omega) λs t ⟨k,hk,he,bc⟩=>(aB k s t hk he bc).use λx y EV=>?_;rcases x with cT | r <;> rcases y with t' | q
 ·obtain ⟨h1,af,aI⟩:=EV;refine ⟨⟨k+1,by omega,af,aI⟩,?_⟩;show n - (i cT).toNat<n - (i s).toNat;rw [af,he]; omega
 ·exact EV
 ·exact EV
 ·exact EV
end Rel
end Go.Own

namespace Go.Proofs
open Tryz
open Go Go.Own
set_option maxRecDepth 100000
set_option linter.unusedVariables false
theorem t149 (c:Int):Tot (CO c) λ_=>True:=by
 unfold CO
 repeat' first | apply Tot.bi | refine Tot.bE (λ_=>?_) (λ_=>?_) | exact Tot.ao trivial | apply Tot.ao
theorem t150 (c:Int):Tot (CP c) λ_=>True:=by
 unfold CP
 repeat' first | apply Tot.bi | refine Tot.bE (λ_=>?_) (λ_=>?_) | exact Tot.ao trivial | apply Tot.ao
theorem t148 (c:Int):Tot (z_ c) λ_=>True:=by
 unfold z_
 repeat' first | apply Tot.bi | refine Tot.bE (λ_=>?_) (λ_=>?_) | exact Tot.ao trivial | apply Tot.ao
theorem t145 (x:Sym):Tot (uC x) λr=>r=true->x.Name=⟨#[]⟩/\x.Lit=false:=by
 unfold uC;apply Tot.bi;refine Tot.bp (λh=>Tot.bE (λaf=>?_) (λaf=>?_)) (λh=>?_) <;> apply Tot.ao <;> apply Tot.ao
 ·exact λ_=>⟨h,by simpa using af⟩
 ·exact λh=>by cases h
 ·exact λh=>by cases h
abbrev dL:Nat:=1000000000000
theorem t144 (s:ByteArray) (h:s.size<=dL):Tot (CN s 0) λn=>0<=n/\n<=s.size:=by
 unfold CN;refine Tot.aA (Ξ:=λn=>0<=n/\n<=s.size) ?_ λa aP=>.ao aP;refine Tot.count (λi=>i) s.size (λi=>0<=i/\i<=s.size) ⟨by omega,by omega⟩ (by show (s.size:Int) - 0<_; simp only [dL] at h; omega) λi ⟨aQ,h1⟩=>?_;simp only [dL] at h;have e:aJ (0+i)=i:=by rw [cB]; omega
 rw [e];have go:∀ c:Bool,(c=true->i<s.size)->Tot (bif c then some (.inl (aJ (i+1))) else some (.inr i)) (hl (λcT:Int=>(0<=cT/\cT<=s.size)/\i<cT/\cT<=s.size) (λr:Int=>0<=r/\r<=s.size)):=by
  intro c aa;refine Tot.bE (λaf=>.ao ?_) (λ_=>.ao ⟨aQ,h1⟩);have:=aa af;have e:aJ (i+1)=i+1:=by rw [cB]; omega
  show (0<=aJ (i+1)/\aJ (i+1)<=s.size)/\i<aJ (i+1)/\aJ (i+1)<=s.size;rw [e]; omega
 apply Tot.bi;refine Tot.bp (λaf=>?_) (λaf=>.ao (go false (by simp)));apply Tot.bi;refine Tot.n5 ⟨aQ,af⟩ (Tot.aA (t149 _) λc _=>?_);refine Tot.bE (λ_=>.ao (go _ λ_=>af)) (λ_=>Tot.bE (λ_=>?_) (λ_=>.ao (go _ λ_=>af)));apply Tot.bi;refine Tot.n5 ⟨aQ,af⟩ (Tot.aA (t150 _) λc _=>?_);refine Tot.bE (λ_=>.ao (go _ λ_=>af)) (λ_=>?_);apply Tot.bi;exact Tot.n5 ⟨aQ,af⟩ (.ao (go _ λ_=>af))
theorem t134 (s:ByteArray) (h:s.size<=dL):Tot (vS s) λr=>r=true->1<=s.size/\s.size<=20:=by
 unfold vS;apply Tot.bi;refine Tot.bp (λh1=>Tot.bp (λaf=>?_) (λaf=>?_)) (λh1=>?_)
 ·exact .aA (t144 s h) λn aF=>.ao (.ao λ_=>by omega)
 ·exact .ao (.ao λh=>by cases h)
 ·exact .ao (.ao λh=>by cases h)
theorem t152 (s:ByteArray) (i:Int) (t:ByteArray) (h:s.size<=dL) (aQ:0<=i) (h1:i<=4 * dL) (aw:t.size<=dL):Tot (x0 s i t) λr=>r=true->i+t.size<=s.size:=by
 unfold x0;simp only [dL] at *;apply Tot.bi;refine Tot.bp (λaf=>?_) (λaf=>.ao (.ao λh=>by cases h));apply Tot.bi;rw [cB] at af;have e:aJ (i+t.size)=i+t.size:=by rw [cB]; omega
 refine Tot.cut (by rw [e]; omega) (.ao (.ao λ_=>by omega))
theorem t151 (s:ByteArray) (i:Int) (h:s.size<=dL) (aQ:0<=i) (h1:i<s.size):Tot (CQ s i) λr=>r<=s.size:=by
 unfold CQ;have av:(s.size:Int)<=1000000000000:=by simp only [dL] at h; omega
 have cv:aJ (i+1)=i+1:=by rw [cB]; omega
 have b9:aJ (i+2)=i+2:=by rw [cB]; omega
 rw [cv,b9];have xc:=Tot.n5 (Φ:=λ_=>True) (s:=s) (m:=i) ⟨aQ,h1⟩ trivial;refine Tot.aA (Ξ:=λ_=>True) ?_ λc _=>Tot.bE (λ_=>?_) (λ_=>?_)
 ·refine Tot.aA xc λ_ _=>Tot.bE (λ_=>.ao trivial) (λ_=>Tot.aA xc λ_ _=>.ao trivial)
 ·refine Tot.aA (Ξ:=hl (λ_=>True) (λr=>r<=s.size)) ?_ λx J=>?_
  ·refine Tot.count (λj=>j) (s.size+1) (λj=>0<=j) (by show (0:Int)<=i+1; omega) (by show (s.size:Int)+1 - (i+1)<_; omega) λj ah=>?_;refine Tot.aA (Ξ:=λc=>c=true->j<s.size) ?_ λc aa=>Tot.bE (λaf=>?_) (λ_=>.ao trivial)
   ·refine Tot.bp (λaf=>?_) (λ_=>.ao λh=>by cases h);exact .aA (Ξ:=λ_=>True) (Tot.n5 ⟨ah,af⟩ trivial) λ_ _=>.ao λ_=>af
   ·have Vx:=aa af;have xa:=Tot.n5 (Φ:=λ_=>True) (s:=s) (m:=j) ⟨ah,Vx⟩ trivial;have fG:aJ (j+1)=j+1:=by rw [cB]; omega
    have mU:aJ (j+1+1)=j+1+1:=by rw [cB]; omega
    rw [fG,mU];refine .aA xa λ_ _=>.aA xc λ_ _=>Tot.bE (λ_=>.ao ?_) (λ_=>.aA xa λ_ _=>Tot.bE (λ_=>?_) (λ_=>.ao ?_))
    ·show j+1<=s.size; omega
    ·refine Tot.aA (Ξ:=λ_=>True) ?_ λc _=>Tot.bE (λ_=>.ao ?_) (λ_=>.ao ?_)
     ·refine Tot.bp (λaI=>?_) (λ_=>.ao trivial);exact .aA (Ξ:=λ_=>True) (Tot.n5 ⟨by omega,aI⟩ trivial) λ_ _=>.ao trivial
     ·show (-1:Int)<=s.size; omega
     ·show (0:Int)<=j+1+1/\j<j+1+1/\j+1+1<=s.size+1; omega
    ·show (0:Int)<=j+1/\j<j+1/\j+1<=s.size+1; omega
  ·rcases x with _ | r
   ·exact .ao (by show (-1:Int)<=s.size; omega)
   ·exact .ao J
 ·refine .aA xc λ_ _=>Tot.bE (λ_=>?_) (λ_=>?_)
  ·refine Tot.aA (Ξ:=hl (λ_=>True) (λr=>r<=s.size)) ?_ λx J=>?_
   ·refine Tot.count (λj=>j) (s.size+1) (λj=>0<=j) (by show (0:Int)<=i+1; omega) (by show (s.size:Int)+1 - (i+1)<_; omega) λj ah=>?_;refine Tot.bp (λaf=>?_) (λ_=>.ao trivial);have fG:aJ (j+1)=j+1:=by rw [cB]; omega
    rw [fG];refine .aA (Ξ:=λ_=>True) (Tot.n5 ⟨ah,af⟩ trivial) λ_ _=>Tot.bE (λ_=>.ao ?_) (λ_=>.ao ?_)
    ·show j+1<=s.size; omega
    ·show (0:Int)<=j+1/\j<j+1/\j+1<=s.size+1; omega
   ·rcases x with _ | r
    ·exact .ao (by show (-1:Int)<=s.size; omega)
    ·exact .ao J
  ·refine .aA (t152 s i _ h aQ (by simp only [dL]; omega) (by decide)) λc _=>Tot.bE (λ_=>?_) (λ_=>?_)
   ·refine Tot.aA (Ξ:=λr=>r<=s.size) ?_ λx J=>.ao J;refine Tot.count (λj=>j) s.size (λj=>0<=j/\j<=s.size) ⟨aQ,by omega⟩ (by show (s.size:Int) - i<_; omega) λj ah=>?_;refine Tot.aA (Ξ:=λc=>c=true->j<s.size) ?_ λc aa=>Tot.bE (λaf=>?_) (λ_=>.ao ah.2)
    ·refine Tot.bp (λaf=>?_) (λ_=>.ao λh=>by cases h);exact .aA (Ξ:=λ_=>True) (Tot.n5 ⟨ah.1,af⟩ trivial) λ_ _=>.ao λ_=>af
    ·have:=aa af;have fG:aJ (j+1)=j+1:=by rw [cB]; omega
     rw [fG];exact .ao (by show ((0:Int)<=j+1/\j+1<=s.size)/\j<j+1/\j+1<=s.size; omega)
   ·refine .aA (t152 s i _ h aQ (by simp only [dL]; omega) (by decide)) λc aa=>Tot.bE (λiq=>?_) (λ_=>.ao (by omega));refine Tot.aA (Ξ:=hl (λ_=>True) (λr=>r<=s.size)) ?_ λx J=>?_
    ·refine Tot.count (λj=>j) (s.size+1) (λj=>0<=j) (by show (0:Int)<=i+2; omega) (by show (s.size:Int)+1 - (i+2)<_; omega) λj ah=>?_;refine Tot.bp (λaf=>?_) (λ_=>.ao trivial);have fG:aJ (j+1)=j+1:=by rw [cB]; omega
     have mU:aJ (j+2)=j+2:=by rw [cB]; omega
     rw [fG,mU];refine .aA (t152 s j _ h ah (by simp only [dL]; omega) (by decide)) λc aa=>Tot.bE (λtZ=>.ao ?_) (λ_=>.ao ?_)
     ·have:=aa tZ;have rR:(⟨#[42,47]⟩:ByteArray).size=2:=rfl;rw [rR] at this;show j+2<=s.size; omega
     ·show (0:Int)<=j+1/\j<j+1/\j+1<=s.size+1; omega
    ·rcases x with _ | r
     ·exact .ao (by show (-1:Int)<=s.size; omega)
     ·exact .ao J
theorem t146 (s:ByteArray) (h:s.size<=dL):Tot (z8 s 0) λ_=>True:=by
 unfold z8;have av:(s.size:Int)<=1000000000000:=by simp only [dL] at h; omega
 refine Tot.aA (Ξ:=λ_=>True) ?_ λc _=>Tot.bE (λ_=>.ao trivial) (λ_=>?_)
 ·refine Tot.bp (λh=>.ao trivial) (λaQ=>Tot.bp (λh=>.ao trivial) (λaf=>?_));exact .aA (Ξ:=λ_=>True) (Tot.n5 (by omega) trivial) λ_ _=>.ao trivial
 ·refine Tot.aA (Ξ:=λ_=>True) ?_ λx _=>by rcases x with _ | r <;> exact .ao trivial
  refine Tot.count (λj=>j.2) s.size (λj=>0<=j.2/\j.2<=s.size) ⟨by show (0:Int)<=0; omega,by show (0:Int)<=s.size; omega⟩ (by show (s.size:Int) - 0<_; omega) λj ah=>?_;refine Tot.bp (λaf=>?_) (λ_=>.ao trivial);refine .aA (t151 s j.2 h ah.1 af) λn aF=>Tot.bp (λ_=>.ao trivial) (λaI=>Tot.bp (λbF=>.ao ?_) (λbF=>?_))
  ·show ((0:Int)<=n/\n<=s.size)/\j.2<n/\n<=s.size; omega
  ·have xc:=Tot.n5 (Φ:=λ_=>True) (s:=s) (m:=j.2) ⟨ah.1,af⟩ trivial;have fG:aJ (j.2+1)=j.2+1:=by rw [cB]; omega
   rw [fG];refine .aA xc λ_ _=>.aA (Ξ:=λ_=>True) (Tot.bE (λ_=>.ao trivial) (λ_=>.ao trivial)) λ_ _=>.aA xc λ_ _=>.aA (Ξ:=λ_=>True) (Tot.bE (λ_=>.ao trivial) (λ_=>.ao trivial)) λ_ _=>Tot.bE (λ_=>.ao trivial) (λ_=>.ao ?_);show ((0:Int)<=j.2+1/\j.2+1<=s.size)/\j.2<j.2+1/\j.2+1<=s.size; omega
def lY (x:Sym):Prop:=x.Lit=true->x.Name.size=1
structure GG (d:Decl):Prop where
 tag:d.Tag.size<=dL
 n:d.eN.length<=1000
 syms:∀ x∈d.eN,x.Name.size<=dL
structure wx (a:Alt):Prop where
 n:a.hA.length<=1000
 parts:∀ p∈a.hA,p.Sym.Name.size<=dL/\p.Code.size<=dL
 prec:a.Prec.Name.size<=dL
structure Lr (r:fc):Prop where
 left:r.Left.size<=dL
 n:r.eM.length<=1000
 alts:∀ a∈r.eM,wx a
structure rL (s:Source):Prop where
 X6:s.cA.size<=dL
 ze:s.Decls.length<=1000
 decls:∀ d∈s.Decls,GG d
 aG:s.dG.length<=1000
 rules:∀ r∈s.dG,Lr r
theorem t143 (x:Sym) (a b:Bool) (h:x.Name.size<=dL):Tot (uB x a b) λr=>r=true->lY x:=by
 unfold uB;refine Tot.bE (λak=>?_) (λak=>?_)
 ·refine Tot.aA (Ξ:=λc=>c=false->x.Name.size=1) ?_ λc aa=>Tot.bE (λ_=>.ao λh=>by cases h) (λaf=>?_)
  ·refine Tot.bE (λ_=>.ao λh=>by cases h) (λ_=>Tot.oL (λ_=>.ao λh=>by cases h) (λh1=>.ao λ_=>by omega))
  ·have h1:=aa af;refine .aA (Ξ:=λ_=>True) (Tot.n5 (by omega) trivial) λ_ _=>.aA (t148 _) λ_ _=>.ao λ_ _=>h1
 ·have db:lY x:=λh=>by rw [ak] at h; cases h
  refine Tot.aA (Ξ:=λ_=>True) ?_ λc aa=>.ao λ_=>db;refine .aA (t134 _ h) λc _=>?_
  repeat' first | refine Tot.bE (λ_=>?_) (λ_=>?_) | exact Tot.ao trivial
theorem t133 (d:Decl) (h:GG d):Tot (xY d) λr=>r=true->∀ x∈d.eN,lY x:=by
 unfold xY;refine Tot.aA (Ξ:=λ_=>True) ?_ λc _=>Tot.bE (λ_=>.ao λh=>by cases h) (λ_=>?_)
 ·have aw:=(t134 _ h.tag).use (Φ:=λ_=>True) λ_ _=>trivial
  repeat' first | refine Tot.bE (λ_=>?_) (λ_=>?_) | exact Tot.ao trivial | refine .aA aw λ_ _=>?_
 ·refine Tot.aA (Tot.scan d.eN (λx=>lY x) (λr=>r=false) (by have:=h.n; omega) (λs y aQ h1 hi hm=>?_) (λs aB=>by simp [aB])) λx J=>?_
  ·refine Tot.bp (λ_=>?_) (λh=>absurd h1 h);rw [hi];refine Tot.aV ?_;refine .aA (t143 _ _ _ (h.syms _ hm)) λc aa=>Tot.bE (λ_=>.ao rfl) (λaf=>.ao ⟨?_,aa (by simpa using af)⟩);have:=h.n;rw [cB]; omega
  ·rcases x with _ | r
   ·exact .ao λ_=>J
   ·exact .ao λh=>by have:r=false:=J; rw [this] at h; cases h
theorem t135 (a:Alt) (h:wx a):Tot (xZ a) λr=>r=true->(∀ p∈a.hA,lY p.Sym)/\lY a.Prec:=by
 unfold xZ;refine Tot.aA (Tot.scan a.hA (λp=>lY p.Sym) (λr=>r=false) (by have:=h.n; omega) (λs y aQ h1 hi hm=>?_) (λs aB=>by simp [aB])) λx J=>?_
 ·refine Tot.bp (λ_=>?_) (λh=>absurd h1 h);rw [hi];refine Tot.aV ?_;have au:=h.parts _ hm;have t1:=t143 y.Sym false true au.1;have t2:=t145 y.Sym;have Qq:=t146 y.Code au.2;have hw:aJ (s+1)=s+1:=by have:=h.n; rw [cB]; omega
  rw [hw];have n118:(y.Sym.Name=⟨#[]⟩/\y.Sym.Lit=false)->lY y.Sym:=λh ak=>by rw [h.2] at ak; cases ak
  refine Tot.aA (Ξ:=λc=>c=false->lY y.Sym) ?_ λc aa=>Tot.bE (λ_=>.ao rfl) (λaf=>.ao ⟨rfl,aa af⟩);refine Tot.bp (λ_=>?_) (λdq=>?_)
  ·refine .aA t1 λc aa=>Tot.bE (λ_=>.ao λh=>by cases h) (λaf=>?_);have db:=aa (by simpa using af);refine Tot.bE (λ_=>?_) (λ_=>.ao λ_=>db);refine .aA t2 λc _=>Tot.bE (λ_=>.ao λ_=>db) (λ_=>?_);exact .aA Qq λ_ _=>.ao λ_=>db
  ·refine Tot.oL (λ_=>?_) (λh=>.ao λ_=>?_)
   ·refine .aA t2 λc aa=>Tot.bE (λ_=>.ao λh=>by cases h) (λaf=>?_);have db:=n118 (aa (by simpa using af));exact .aA Qq λ_ _=>.ao λ_=>db
   ·exact absurd h dq
 ·rcases x with _ | r
  ·have J:∀ p∈a.hA,lY p.Sym:=J;refine Tot.aA (Ξ:=λc=>c=true->lY a.Prec) ?_ λc aa=>.ao λh=>⟨J,aa h⟩;refine .aA (t145 _) λc aa=>Tot.bE (λaf=>.ao λ_=>?_) (λ_=>.aA (t143 _ _ _ h.prec) λc aa=>.ao aa);intro ak; rw [(aa af).2] at ak; cases ak
  ·exact .ao λh=>by have:r=false:=J; rw [this] at h; cases h
structure DK (a:Alt):Prop where
 parts:∀ p∈a.hA,lY p.Sym
 prec:lY a.Prec
structure Lu (s:Source):Prop where
 decls:∀ d∈s.Decls,∀ x∈d.eN,lY x
 rules:∀ r∈s.dG,∀ a∈r.eM,DK a
 pos:0<s.dG.length
theorem t103 (s:Source) (h:rL s):Tot (xW s) λr=>r=true->Lu s:=by
 unfold xW;refine Tot.aA (Ξ:=hl (λ_=>True) (λr=>r=false)) ?_ λx J=>?_
 ·have au:(s.cA.size:Int)<=1000000000000:=by have:=h.X6; simp only [dL] at this; omega
  refine Tot.count (λj=>j) s.cA.size (λj=>0<=j/\j<=s.cA.size) ⟨by omega,by omega⟩ (by show (s.cA.size:Int) - 0<_; omega) λj ah=>?_;have cv:aJ (j+1)=j+1:=by rw [cB]; omega
  have b9:aJ (j+2)=j+2:=by rw [cB]; omega
  rw [cv,b9];refine Tot.bp (λaf=>?_) (λ_=>.ao trivial);refine .aA (Ξ:=λ_=>True) (Tot.cut (by omega) trivial) λ_ _=>Tot.bE (λ_=>.ao rfl) (λ_=>.ao ?_);show ((0:Int)<=j+1/\j+1<=s.cA.size)/\j<j+1/\j+1<=s.cA.size; omega
 ·rcases x with _ | r
  ·refine Tot.aA (Tot.scan s.Decls (λd=>∀ x∈d.eN,lY x) (λr=>r=false) (by have:=h.ze; omega) (λi y aQ h1 hi hm=>?_) (λs aB=>by simp [aB])) λx J=>?_
   ·refine Tot.bp (λ_=>?_) (λh=>absurd h1 h);rw [hi];refine Tot.aV ?_;refine .aA (t133 _ (h.decls _ hm)) λc aa=>Tot.bE (λ_=>.ao rfl) (λaf=>.ao ⟨?_,aa (by simpa using af)⟩);have:=h.ze;rw [cB]; omega
   ·rcases x with _ | r
    ·have J:∀ d∈s.Decls,∀ x∈d.eN,lY x:=J;refine Tot.aA (Tot.scan s.dG (λr=>∀ a∈r.eM,DK a) (λr=>r=false) (by have:=h.aG; omega) (λi y aQ h1 hi hm=>?_) (λs aB=>by simp [aB])) λx iw=>?_
     ·refine Tot.bp (λ_=>?_) (λh=>absurd h1 h);rw [hi];refine Tot.aV ?_;have aq:=h.rules _ hm;have hw:aJ (i+1)=i+1:=by have:=h.aG; rw [cB]; omega
      rw [hw];refine .aA (Ξ:=λ_=>True) (.aA (t134 _ aq.left) λc _=>Tot.bE (λ_=>.ao trivial) (λ_=>.ao trivial)) λc _=>Tot.bE (λ_=>.ao rfl) (λ_=>?_);refine Tot.aA (Tot.scan y.eM DK (λr=>r=false) (by have:=aq.n; omega) (λk a aQ h1 hi hm=>?_) (λs aB=>by simp [aB])) λx jV=>?_
      ·refine Tot.bp (λ_=>?_) (λh=>absurd h1 h);rw [hi];refine Tot.aV ?_;refine .aA (t135 _ (aq.alts _ hm)) λc aa=>Tot.bE (λ_=>.ao rfl) (λaf=>.ao ⟨?_,⟨(aa (by simpa using af)).1,(aa (by simpa using af)).2⟩⟩);have:=aq.n;rw [cB]; omega
      ·rcases x with _ | r
       ·exact .ao ⟨rfl,jV⟩
       ·exact .ao jV
     ·rcases x with _ | r
      ·exact .ao λh=>⟨J,iw,by have:=of_decide_eq_true h; omega⟩
      ·exact .ao λh=>by have:r=false:=iw; rw [this] at h; cases h
    ·exact .ao λh=>by have:r=false:=J; rw [this] at h; cases h
  ·exact .ao λh=>by have:r=false:=J; rw [this] at h; cases h
abbrev fJ:=dt
structure rK (m m':fJ):Prop where
 g:m'.aH=m.aH
 gD:m'.ct=m.ct
 ty:m'.cL=m.cL
 fv:m'.cb=m.cb
 jy:m'.cq=m.cq
 hB:m'.b_=m.b_
theorem t105 (m:fJ) (a:Int) (n:ByteArray):Tot (nV m a n) λm'=>rK m m'/\m'.c0≠0:=by
 unfold nV;apply Tot.bi;refine Tot.bp (λ_=>.ao (.ao ⟨⟨rfl,rfl,rfl,rfl,rfl,rfl⟩,?_⟩)) (λh=>.ao (.ao ⟨⟨rfl,rfl,rfl,rfl,rfl,rfl⟩,h⟩))
 grind
theorem t109 (m:fJ) (n:ByteArray) (h:m.cL.length<=dL):Tot (zY m n) λr=>r=-1\/(0<=r/\r<m.cL.length):=by
 unfold zY;simp only [dL] at h;refine Tot.aA (Tot.scan m.cL (λ_=>True) (λr:Int=>0<=r/\r<m.cL.length) (by omega) (λs y aQ h1 hi hm=>?_) (λs aB=>by simp [aB])) λx J=>?_
 ·refine Tot.bp (λ_=>?_) (λh=>absurd h1 h);rw [hi];refine Tot.aV ?_;refine Tot.bE (λ_=>.ao ⟨aQ,h1⟩) (λ_=>.ao ⟨?_,trivial⟩)
  grind [cB]
 ·rcases x with _ | r
  ·exact .ao (.inl rfl)
  ·exact .ao (.inr J)
theorem t107 (m:fJ) (n:ByteArray) (h:m.cb.length<=dL):Tot (s8 m n) λr=>(r=-1/\∀ x∈m.cb,x≠n)\/(0<=r/\r<m.cb.length/\m.cb[r.toNat]?=some n):=by
 unfold s8;simp only [dL] at h;refine Tot.aA (Tot.scan m.cb (λx=>x≠n) (λr:Int=>0<=r/\r<m.cb.length/\m.cb[r.toNat]?=some n) (by omega) (λs y aQ h1 hi hm=>?_) (λs aB=>by simp [aB])) λx J=>?_
 ·refine Tot.bp (λ_=>?_) (λh=>absurd h1 h);rw [hi];refine Tot.aV ?_;refine Tot.bp (λe=>.ao ⟨aQ,h1,by rw [<- e]; exact (pM hi).2.2⟩) (λe=>.ao ⟨?_,e⟩)
  grind [cB]
 ·rcases x with _ | r
  ·exact .ao (.inl ⟨rfl,J⟩)
  ·exact .ao (.inr J)
theorem t106 (m:fJ) (x:Sym) (h:m.aH.ba.length<=dL):Tot (uz m x) λr=>r=-1\/(1<=r/\r<m.aH.ba.length):=by
 unfold uz;simp only [dL] at h;refine Tot.aA (Ξ:=hl (λ_=>True) (λr=>1<=r/\r<m.aH.ba.length)) ?_ λx J=>?_
 ·refine Tot.count (λj=>j) m.aH.ba.length (λj=>1<=j) (by omega) (by show (m.aH.ba.length:Int) - 1<_; omega) λj ah=>?_;refine Tot.bp (λaf=>?_) (λ_=>.ao trivial);have e:aJ (j+1)=j+1:=by rw [cB]; omega
  rw [e];refine .aA (Ξ:=λ_=>True) ?_ λc _=>Tot.bE (λ_=>.ao ⟨ah,af⟩) (λ_=>.ao ?_)
  ·refine .aA (Ξ:=λ_=>True) (Tot.hp (by omega) af λ_ _ _=>trivial) λ_ _=>Tot.bE (λ_=>?_) (λ_=>.ao trivial);exact .aA (Ξ:=λ_=>True) (Tot.hp (by omega) af λ_ _ _=>trivial) λ_ _=>Tot.bE (λ_=>.ao trivial) (λ_=>.ao trivial)
  grind
 ·rcases x with _ | r
  ·exact .ao (.inl rfl)
  ·exact .ao (.inr J)
theorem t137 (m:fJ) (n:Int) (h:m.aH.ba.length<=dL):Tot (vU m n) λ_=>True:=by
 unfold vU;simp only [dL] at h;refine Tot.aA (Ξ:=λ_=>True) ?_ λx J=>?_
 ·refine Tot.count (λj=>j) m.aH.ba.length (λj=>1<=j) (by decide) (by show (m.aH.ba.length:Int) - 3<_; omega) λj ah=>?_;refine Tot.bp (λaf=>?_) (λ_=>.ao trivial);have e:aJ (j+1)=j+1:=by rw [cB]; omega
  rw [e];refine .aA (Ξ:=λ_=>True) (Tot.hp (by omega) af λ_ _ _=>trivial) λc _=>Tot.bE (λ_=>.ao trivial) (λ_=>.ao ?_)
  grind
 ·rcases x with _ | r <;> exact .ao trivial
structure Grow (m m':fJ) (k:Nat):Prop where
 gD:m'.ct.length=m'.aH.ba.length
 lo:m.aH.ba.length<=m'.aH.ba.length
 hi:m'.aH.ba.length<=m.aH.ba.length+k
 ty:m'.cL.length<=m.cL.length+k
 fv:m'.cb=m.cb
 hx:m'.aH.bh=m.aH.bh
 hB:m'.b_=m.b_
 lvl:m'.cq=m.cq
 jy:0<=m.cq->(∀ t∈m.aH.ba,0<=t.Level)->∀ t∈m'.aH.ba,0<=t.Level
theorem rK.grow {m m':fJ}(h:rK m m') (aO:m.ct.length=m.aH.ba.length) (k:Nat):Grow m m' k:=by
 obtain ⟨h1,af,aI,bF,cF,ej⟩:=h;exact ⟨by rw [h1,af]; exact aO,by rw [h1]; omega,by rw [h1]; omega,by rw [aI]; omega,bF,by rw [h1],ej,cF,by rw [h1]; exact λ_ h=>h⟩
theorem t136 (m:fJ) (x:Sym) (aO:m.ct.length=m.aH.ba.length) (h:m.aH.ba.length<=100000000000) (J:lY x) :
  Tot (vT m x) λr=>Grow m r.2 1/\0<=r.1/\r.1<r.2.aH.ba.length:=by
 unfold vT;refine .aA (t106 m x (by simp only [dL]; omega)) λt aw=>Tot.bp (λaQ=>.ao ⟨⟨aO,Nat.le_refl _,Nat.le_succ _,Nat.le_succ _,rfl,rfl,rfl,rfl,λ_ h=>h⟩,aQ,?_⟩) (λ_=>?_)
 ·grind
 ·refine Tot.aA (Ξ:=λj=>rK m j.1) ?_ λj ah=>?_
  ·refine Tot.bE (λak=>?_) (λ_=>.ao ⟨rfl,rfl,rfl,rfl,rfl,rfl⟩);have:=J ak;refine .aA (Ξ:=λ_=>True) (Tot.n5 (by omega) trivial) λb _=>.aA (t137 m _ (by simp only [dL]; omega)) λo _=>?_;refine Tot.aA (Ξ:=λj=>rK m j) ?_ λj ah=>.ao ah;exact Tot.bE (λ_=>.aA (t105 m _ _) λm' hm=>.ao hm.1) (λ_=>.ao ⟨rfl,rfl,rfl,rfl,rfl,rfl⟩)
  ·obtain ⟨h1,af,aI,bF,cF,ej⟩:=ah;have aT:j.1.aH.ba.length=m.aH.ba.length:=by rw [h1]
   have VH:j.1.ct.length=m.ct.length:=by rw [af]
   refine .aA (Ξ:=λ_=>True) (Tot.ap (by rw [aT]; simp [lim]; omega) trivial) λ_ _=>.aA (Ξ:=λ_=>True) (Tot.ap (by rw [VH]; simp [lim]; omega) trivial) λ_ _=>.ao ?_;refine ⟨⟨?_,?_,?_,?_,bF,by show j.1.aH.bh=_; rw [h1],ej,cF,?_⟩,?_,?_⟩
   all_goals grind [cB]
structure n3 (m m':fJ):Prop where
 tk:m'.aH.ba.length=m.aH.ba.length
 gD:m'.ct.length=m.ct.length
 ty:m'.cL=m.cL
 fv:m'.cb=m.cb
 hx:m'.aH.bh=m.aH.bh
 hB:m'.b_=m.b_
 lvl:m'.cq=m.cq
 jy:0<=m.cq->(∀ t∈m.aH.ba,0<=t.Level)->∀ t∈m'.aH.ba,0<=t.Level
theorem n3.refl (m:fJ):n3 m m:=⟨rfl,rfl,rfl,rfl,rfl,rfl,rfl,λ_ h=>h⟩
theorem n3.trans {m m' Cx:fJ}(h:n3 m m') (aR:n3 m' Cx):n3 m Cx:=⟨aR.tk.trans h.tk,aR.gD.trans h.gD,aR.ty.trans h.ty,aR.fv.trans h.fv,aR.hx.trans h.hx,aR.hB.trans h.hB,aR.lvl.trans h.lvl,λaQ ak=>aR.jy (by rw [h.lvl]; exact aQ) (h.jy aQ ak)⟩
theorem rK.tk {m m':fJ}(h:rK m m'):n3 m m':=⟨by rw [h.g],by rw [h.gD],h.ty,h.fv,by rw [h.g],h.hB,h.jy,by rw [h.g]; exact λ_ h=>h⟩
theorem Grow.tk {m m' Cx:fJ}{k:Nat}(h:Grow m m' k) (aR:n3 m' Cx):Grow m Cx k :=
 ⟨by rw [aR.gD,aR.tk]; exact h.gD,by rw [aR.tk]; exact h.lo,by rw [aR.tk]; exact h.hi,by rw [aR.ty]; exact h.ty,aR.fv.trans h.fv,aR.hx.trans h.hx,aR.hB.trans h.hB,aR.lvl.trans h.lvl,λaQ ak=>aR.jy (by rw [h.lvl]; exact aQ) (h.jy aQ ak)⟩
theorem OW {α:Type}{l:List α}{i:Nat}{x y:α}(h:y∈l.set i x):y∈l\/y=x:=List.mem_or_eq_of_mem_set h
theorem t104 (m:fJ) (d:Decl) (x:Sym) (aO:m.ct.length=m.aH.ba.length) (h:m.aH.ba.length<=100000000000) (aw:m.cL.length<=100000000000) (J:lY x) :
  Tot (vQ m d x) λm'=>Grow m m' 1:=by
 unfold vQ;refine Tot.bE (λ_=>?_) (λ_=>?_)
 ·refine .aA (t109 m x.Name (by simp only [dL]; omega)) λk hk=>Tot.aA (Ξ:=λm'=>Grow m m' 1) ?_ λm' hm=>.ao hm;refine Tot.bp (λ_=>?_) (λaQ=>?_)
  ·refine .aA (Ξ:=λ_=>True) (Tot.ap (by simp [lim]; omega) trivial) λ_ _=>.ao ⟨aO,Nat.le_refl _,Nat.le_succ _,?_,rfl,rfl,rfl,rfl,λ_ h=>h⟩
   grind
  ·refine .aA (Ξ:=λ_=>True) (Tot.hp (by omega) (by omega) λ_ _ _=>trivial) λ_ _=>Tot.aA (Ξ:=λm'=>Grow m m' 1) ?_ λm' hm=>.ao hm;exact Tot.bE (λ_=>.aA (t105 m _ _) λm' hm=>.ao (hm.1.grow aO 1)) (λ_=>.ao ⟨aO,Nat.le_refl _,Nat.le_succ _,Nat.le_succ _,rfl,rfl,rfl,rfl,λ_ h=>h⟩)
 ·refine .aA (t136 m x aO h J) λr ⟨aq,aQ,h1⟩=>?_;have hp:∀ {m':fJ},n3 r.2 m'->Tot (idx m'.aH.ba r.1) λy=>y∈m'.aH.ba:=λhm=>Tot.hp aQ (by rw [hm.tk]; exact h1) λ_ _ h=>h;have OJ:∀ {m':fJ},n3 r.2 m'->Tot (idx m'.ct r.1) λ_=>True:=λhm=>Tot.hp aQ (by rw [hm.gD,aq.gD]; exact h1) λ_ _ _=>trivial;refine .aA (hp (.refl _)) λy _=>?_;refine Tot.aA (Ξ:=λm'=>n3 r.2 m') ?_ λeP q8=>?_
  ·refine Tot.bE (λ_=>?_) (λ_=>.ao (.refl _));refine Tot.aA (Ξ:=λm'=>n3 r.2 m') ?_ λdc sH=>?_
   ·exact Tot.bE (λ_=>.aA (t105 r.2 _ _) λm' hm=>.ao ⟨rfl,hm.1.tk.gD,hm.1.tk.ty,hm.1.tk.fv,hm.1.tk.hx,hm.1.tk.hB,hm.1.tk.lvl,λ_ h=>h⟩) (λ_=>.ao (.refl _))
   ·refine .aA (hp sH) λ_ _=>.ao (sH.trans ⟨?_,rfl,rfl,rfl,rfl,rfl,rfl,λak aw t bY=>?_⟩)
    ·grind
    grind
  ·refine .aA (hp q8) λ_ _=>?_;refine Tot.aA (Ξ:=λm'=>n3 r.2 m') ?_ λe_ vc=>?_
   ·refine Tot.bE (λ_=>?_) (λ_=>.ao q8);refine .aA (Ξ:=λ_=>True) ?_ λc _=>?_
    ·refine Tot.bE (λ_=>.ao trivial) (λ_=>.aA (OJ q8) λ_ _=>Tot.bE (λ_=>.ao trivial) (λ_=>.aA (t137 eP _ ?_) λ_ _=>.ao trivial));have:=q8.tk;have:=aq.hi
     grind
    ·refine Tot.aA (Ξ:=λm'=>n3 r.2 m') ?_ λdY rW=>?_
     ·exact Tot.bE (λ_=>.aA (t105 eP _ _) λm' hm=>.ao (q8.trans ⟨rfl,hm.1.tk.gD,hm.1.tk.ty,hm.1.tk.fv,hm.1.tk.hx,hm.1.tk.hB,hm.1.tk.lvl,λ_ h=>h⟩)) (λ_=>.ao q8)
     ·refine .aA (hp rW) λy ax=>.aA (OJ rW) λ_ _=>.ao (rW.trans ⟨?_,?_,rfl,rfl,rfl,rfl,rfl,λak aw t bY=>?_⟩)
      all_goals grind
   ·refine .aA (hp vc) λ_ _=>?_;refine Tot.aA (Ξ:=λm'=>n3 r.2 m') ?_ λpN HQ=>.ao (aq.tk HQ);refine Tot.bE (λ_=>?_) (λ_=>.ao vc);refine .aA (Ξ:=λ_=>True) (Tot.bE (λ_=>.ao trivial) (λ_=>.ao trivial)) λc _=>?_;refine Tot.aA (Ξ:=λm'=>n3 r.2 m') ?_ λni Bq=>?_
    ·exact Tot.bE (λ_=>.aA (t105 e_ _ _) λm' hm=>.ao (vc.trans ⟨rfl,hm.1.tk.gD,hm.1.tk.ty,hm.1.tk.fv,hm.1.tk.hx,hm.1.tk.hB,hm.1.tk.lvl,λ_ h=>h⟩)) (λ_=>.ao vc)
    ·refine .aA (hp Bq) λy ax=>.ao (Bq.trans ⟨?_,rfl,rfl,rfl,rfl,rfl,rfl,λak aw t bY=>?_⟩)
     ·grind
     grind
def qY (T:Nat) (N:Int) (s:Int):Prop:=(0<=s/\s<T)\/(1000<=s/\s<=1000+N)
theorem qY.mono {T T':Nat}{N i' s:Int}(h:qY T N s) (dM:T<=T') (bd:N<=i'):qY T' i' s:=by
 rcases h with h | h
 ·exact .inl (by omega)
 ·exact .inr (by omega)
theorem t138 (m:fJ) (x:Sym) (aO:m.ct.length=m.aH.ba.length) (aI:3<=m.aH.ba.length) (h:m.aH.ba.length<=100000000000) (ak:m.cb.length<=100000000000) (J:lY x) :
  Tot (s9 m x) λr=>Grow m r.2 1/\qY r.2.aH.ba.length m.cb.length r.1:=by
 unfold s9;have r4:Grow m m 1:=⟨aO,Nat.le_refl _,Nat.le_succ _,Nat.le_succ _,rfl,rfl,rfl,rfl,λ_ h=>h⟩;refine Tot.bE (λ_=>?_) (λ_=>?_)
 ·exact .aA (t136 m x aO h J) λr ⟨aq,aQ,h1⟩=>.ao ⟨aq,.inl ⟨aQ,h1⟩⟩
 ·refine .aA (t107 m x.Name (by simp only [dL]; omega)) λk hk=>Tot.bp (λaQ=>.ao ⟨r4,.inr ?_⟩) (λ_=>?_)
  ·grind [cB]
  ·refine .aA (t106 m x (by simp only [dL]; omega)) λt aw=>Tot.bp (λ_=>?_) (λaQ=>.ao ⟨r4,.inl ?_⟩)
   ·refine .aA (t105 m _ _) λm' hm=>.ao ⟨hm.1.grow aO 1,.inl ⟨Int.le_refl 0,?_⟩⟩;show (0:Int)<(m'.aH.ba.length:Int);rw [hm.1.g];omega
   grind
end Go.Proofs
