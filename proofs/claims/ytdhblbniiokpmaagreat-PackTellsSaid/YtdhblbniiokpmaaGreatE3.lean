/-
  Parts of the proof that the last text states. No condition of their own.
-/
import Derived.ChangeAt
import Derived.ChangeOld
import Derived.ChangeSame
import Derived.Deep.Draws
import Derived.Deep.LoopGhost
import Derived.Deep.Slices
import Derived.Ground.SlsfProg
import Derived.KernelRfl
import Derived.Laws.CopyRow
import Derived.Laws.Externs
import Derived.Lib.SliceRun
import Derived.Lib.SlicesCompact
import Derived.Lib.Walk
import Derived.Maps.OwnIn
import Derived.ReadAgain
import Derived.RowKit3
import Derived.Shelf.RegionOpenPlain
import Derived.Shelf.SlGeneric
import Derived.Shelf.SlLaysQ
import Derived.Shelf.SlSortCmp.NoneTotal
import Derived.Shelf.SlicesE.Kit
import Derived.Shelf.SlicesQ.Load
import Derived.Sort.WalkB12
import Derived.StringKeys
import Derived.Test.YtdhblbniiokpmaaGreatRows
import Derived.WalkKit
import Derived.WideShapes
import Derived.Test.YtdhblbniiokpmaaGreatE2
namespace Go.Own
open Go Go.RowKit Go.ChangeShapes Go.WideShapes Go.Deep
variable {α β Lt:Type}{P:Program}
abbrev tq (w:World) (y:ab) (u:Value):Prop:=R w (λb=>b<w.heap.size) (λ_ _=>False) y u (λ_=>False)
def mc (w:World) (ys:List ab) (cs:List Value):Prop :=
 ys.length=cs.length/\∀ (k:Nat) (y:ab) (u:Value),ys[k]?=some y->cs[k]?=some u->u.oneCell'=true/\tq w y u
theorem mc.nil {w:World}:mc w [] []:=⟨rfl,λ_ _ _ h=>by simp at h⟩
theorem mc.one {w:World}{y:ab}{u:Value}(h1:u.oneCell'=true) (h:tq w y u):mc w [y] [u] :=
 ⟨rfl,λk y' wo av hu=>by
  cases k with
  | zero=>simp at av hu; subst av hu; exact ⟨h1,h⟩
  | succ k=>simp at av⟩
theorem mc.app {w:World}{ys yx:List ab}{cs jB:List Value}(h:mc w ys cs) (af:mc w yx jB):mc w (ys++yx) (cs++jB):=by
 refine ⟨by simp [h.1,af.1],λk y u av hu=>?_⟩;by_cases hk:k<ys.length
 ·rw [List.getElem?_append_left hk] at av;rw [List.getElem?_append_left (h.1 ▸ hk)] at hu;exact h.2 k y u av hu
 ·rw [List.getElem?_append_right (by omega)] at av;rw [List.getElem?_append_right (by have:=h.1; omega),<- h.1] at hu;exact af.2 _ y u av hu
structure hX (P:Program) (e:bI α) (t:TypeId) (ok:α->Prop):Prop where
 z:P.cellsOf t=e.z
 go:∀ {H:Type}{enc:TypeId × Value->H}{w:World}{n:Nat}{cs:List Value}{x:DataW H × List MemPlace},
  DataW.trod enc P w 0 (λ_=>true) true n t cs=some x->∃ a,ok a/\mc w (e.cells a) cs
theorem hX.int {e:bI Int}{t:TypeId}{k:IntKind}(aw:P.underlying t=some (.int k)) (aX:P.cellsOf t=e.z) (he:∀ n,e.cells n=[.lit (.int k n)]) :
  hX P e t (λn=>(Lit.int k n).wf=true):=by
 refine ⟨aX,λh=>?_⟩;obtain ⟨n,rfl,_,hw⟩:=DataW.trod_int aw h;exact ⟨n,hw,he n ▸ mc.one rfl (.lit rfl λ_ h=>h)⟩
theorem hX.bool {e:bI Bool}{t:TypeId}(aw:P.underlying t=some .bool) (aX:P.cellsOf t=e.z) (he:∀ n,e.cells n=[.lit (.bool n)]) :
  hX P e t (λ_=>True):=by
 refine ⟨aX,λh=>?_⟩;obtain ⟨n,rfl,_⟩:=DataW.trod_bool aw h;exact ⟨n,trivial,he n ▸ mc.one rfl (.lit rfl λ_ h=>h)⟩
theorem hX.str {e:bI ByteArray}{t:TypeId}(aw:P.underlying t=some .string) (aX:P.cellsOf t=e.z) (he:∀ n,e.cells n=[.lit (.string n)]) :
  hX P e t (λs=>s.size<=maxLen):=by
 refine ⟨aX,λh=>?_⟩;obtain ⟨n,rfl,_,hw⟩:=DataW.trod_string aw h;exact ⟨n,hw,he n ▸ mc.one rfl (.lit rfl λ_ h=>h)⟩
theorem P3 (e:bI α) (aX:0<e.z):∀ (l:List α) (k:Nat) (y:ab),(bp e l)[k]?=some y->∃ a,l[k / e.z]?=some a/\(e.cells a)[k % e.z]?=some y
 | [],k,y,h=>by simp [bp] at h
 | a::l,k,y,h=>by
  have he:bp e (a::l)=e.cells a++bp e l:=by simp [bp]
  rw [he] at h;by_cases hk:k<e.z
  ·rw [List.getElem?_append_left (by rw [e.len]; exact hk)] at h;exact ⟨a,by simp [Nat.div_eq_of_lt hk],by rw [Nat.mod_eq_of_lt hk]; exact h⟩
  ·rw [List.getElem?_append_right (by rw [e.len]; omega),e.len] at h;obtain ⟨b,h1,af⟩:=P3 e aX l (k - e.z) y h;have aS:k / e.z=(k - e.z) / e.z+1:=by rw [Nat.div_eq_sub_div aX (by omega)]
   refine ⟨b,by rw [aS]; simpa using h1,?_⟩;rw [Nat.mod_eq_sub_mod (by omega)]; exact af
theorem hX.slice {e:bI α}{t Gk:TypeId}{ok:α->Prop}(h:hX P e Gk ok) (aw:P.underlying t=some (.slice Gk)) (aX:P.cellsOf t=1) (sR:0<e.z) :
  hX P (br e) t (λl=>l.length<=maxLen/\∀ x∈l,ok x):=by
 classical
 refine ⟨aX,λ{H enc w n cs x} aj=>?_⟩;rcases open_slice aw aj with ⟨rfl,rfl⟩ | ⟨a,len,cap,m,cB,D,p4,rfl,au,ai,hm,I_,rfl,J⟩
 ·exact ⟨[],⟨by simp,by simp⟩,mc.one rfl (.hD λ_ h=>h)⟩
 ·have V':m=cap:=by simpa using I_
  subst V';have hex:∀ i,i<len->∃ q:α × List Value,ok q.1/\mc w (e.cells q.1) q.2/\w.cells? 0 (a.add (i * P.cellsOf Gk)) (P.cellsOf Gk)=some q.2:=λi hi=>by
   obtain ⟨cs',h1,af⟩:=J i (by omega);obtain ⟨b,nw,gQ⟩:=h.go af;exact ⟨(b,cs'),nw,gQ,h1⟩
  by_cases aT:len=0
  ·subst aT;exact ⟨[],⟨by simp,by simp⟩,mc.one rfl (.hD λ_ h=>h)⟩
  ·obtain ⟨Dn,_⟩:=hex 0 (by omega)
   haveI:Inhabited (α × List Value):=⟨Dn⟩
   obtain ⟨f,aW⟩:=choose_lt hex;have hlen:((List.range len).map λi=>(f i).1).length=len:=by simp
   have mv:∀ (i:Nat) (b:α),((List.range len).map λi=>(f i).1)[i]?=some b->i<len/\b=(f i).1:=λi b hi=>by
    have aQ:=(List.getElem?_eq_some_iff.1 hi).1;simp at aQ;simp [aQ] at hi;exact ⟨aQ,hi.symm⟩
   have i':a.spot=none/\a.block<w.heap.size:=by
    obtain ⟨_,_,aI⟩:=aW 0 (by omega);obtain ⟨_,I4,cF⟩:=World.cells?_some aI;have dS:=cF 0 (by rw [h.z]; exact sR);simp only [Nat.zero_mul,Addr.add,if_true] at dS;have:0<(f 0).2.length:=by rw [I4,h.z]; exact sR
    rw [List.getElem?_eq_getElem this] at dS;unfold World.cell? at dS
    split at dS
    ·rename_i bY;refine ⟨?_,(Array.getElem?_eq_some_iff.1 bY).1⟩;cases aA:a.spot with
     | none=>rfl
     | some s=>simp [aA] at dS
    ·cases dS
   have key:∀ (k:Nat) (y:ab),(bp e ((List.range len).map λi=>(f i).1))[k]?=some y->∃ u,w.cell? ⟨a.block,a.off+k,none⟩=some u/\u.oneCell'=true/\tq w y u:=λk y hk=>by
    obtain ⟨b,nw,gQ⟩:=P3 e sR _ k y hk;obtain ⟨hi,rfl⟩:=mv _ _ nw;obtain ⟨_,af,aI⟩:=aW _ hi;obtain ⟨_,I4,cF⟩:=World.cells?_some aI;have Ol:k % e.z<e.z:=Nat.mod_lt _ sR;have dS:=cF (k % e.z) (by rw [h.z]; exact Ol);rw [Deep.add_add,h.z] at dS;have f':k / e.z * e.z+k % e.z=k:=by rw [Nat.mul_comm]; exact Nat.div_add_mod k e.z
    rw [f'] at dS;have aQ:k % e.z<(f (k / e.z)).2.length:=by rw [I4,h.z]; exact Ol
    rw [List.getElem?_eq_getElem aQ] at dS;have aR:a.add k=⟨a.block,a.off+k,none⟩:=by
     unfold Addr.add;split
     ·rename_i Ue; subst Ue; cases a; simp at i' ⊢; exact i'.1
     ·rfl
    rw [aR] at dS;exact ⟨_,dS,af.2 _ _ _ gQ (List.getElem?_eq_getElem aQ)⟩
   refine ⟨(List.range len).map λi=>(f i).1,⟨by rw [hlen]; omega,λy av=>?_⟩,mc.one rfl ?_⟩
   ·obtain ⟨i,hi,rfl⟩:=List.mem_map.1 av;exact (aW i (List.mem_range.1 hi)).1
   ·show tq w (.bn e.z _ _) _;rw [hlen];refine .bn (us:=λk=>(w.cell? ⟨a.block,a.off+k,none⟩).getD .nilFunc) (λ_ h=>h) ai i'.2 i'.1 (by rw [ni,hlen]) (λk y hk=>?_) (λk y hk=>?_) (λk y hk=>?_)
    ·obtain ⟨u,h1,af,aI⟩:=key k y hk;simp only [h1,Option.getD_some]; exact af
    ·obtain ⟨u,h1,af,aI⟩:=key k y hk;simp only [h1,Option.getD_some]
    ·obtain ⟨u,h1,af,aI⟩:=key k y hk;simp only [h1,Option.getD_some]; exact aI
def Bs (P:Program):Nat->List Field->List TypeId->Bool
 | _,[],[]=>true
 | off,f::fs,t::ts=>decide (f.type=t)&&decide (f.offset=off)&&Bs P (off+P.cellsOf t) fs ts
 | _,_,_=>false
def AI (P:Program) (t:TypeId) (ts:List TypeId):Bool :=
 match P.underlying t with
 | some (.struct fs)=>Bs P 0 fs.toList ts&&decide (P.cellsOf t=(ts.map P.cellsOf).sum)
 | _=>false
structure yz (P:Program) (cells:β->List ab) (ts:List TypeId) (ok:β->Prop):Prop where
 go:∀ {H:Type}{enc:TypeId × Value->H}{w:World}{n:Nat}{cs:List Value}{fs:List Field}{off:Nat},Bs P off fs ts=true->cs.length=off+(ts.map P.cellsOf).sum ->
  (∀ (i:Nat) (f:Field),fs[i]?=some f->∃ x,DataW.trod enc P w 0 (λ_=>true) true n f.type ((cs.drop f.offset).take (P.cellsOf f.type))=some x) ->
  ∃ b,ok b/\mc w (cells b) (cs.drop off)
theorem yz.nil:yz P (λ_:Unit=>[]) [] (λ_=>True) :=
 ⟨λ{H enc w n cs fs off} _ ai _=>⟨(),trivial,by rw [List.drop_eq_nil_of_le (by simp at ai; omega)]; exact mc.nil⟩⟩
theorem yz.cons {e:bI α}{t:TypeId}{ts:List TypeId}{ok:α->Prop}{cells:β->List ab}{Pw:β->Prop}(h:hX P e t ok) (ai:yz P cells ts Pw) :
  yz P (λp:α × β=>e.cells p.1++cells p.2) (t::ts) (λp=>ok p.1/\Pw p.2):=by
 refine ⟨λ{H enc w n cs fs off} eH hlen aj=>?_⟩;cases fs with
 | nil=>simp [Bs] at eH
 | cons f fs =>
  simp only [Bs,Bool.and_eq_true,decide_eq_true_eq] at eH;obtain ⟨⟨rfl,rfl⟩,eH⟩:=eH;obtain ⟨x,J⟩:=aj 0 f rfl;obtain ⟨a,aR,a1⟩:=h.go J;obtain ⟨b,au,U1⟩:=ai.go (off:=f.offset+P.cellsOf f.type) (cs:=cs) eH (by rw [hlen]; simp [Nat.add_assoc]) (λi eg vp=>aj (i+1) eg (by simpa using vp));refine ⟨(a,b),⟨aR,au⟩,?_⟩;have:cs.drop f.offset=(cs.drop f.offset).take (P.cellsOf f.type)++cs.drop (f.offset+P.cellsOf f.type):=by
   rw [<- List.drop_drop]; exact (List.take_append_drop _ _).symm
  rw [this];exact a1.app U1
theorem hX.struct {e:bI Lt}{t:TypeId}{ts:List TypeId}{cells:β->List ab}{ok:β->Prop}(h:yz P cells ts ok) (mk:β->Lt) (un:Lt->β) (OD:∀ b,un (mk b)=b) (aa:∀ b,e.cells (mk b)=cells b) (aw:AI P t ts=true) (aX:P.cellsOf t=e.z) :
  hX P e t (λs=>ok (un s)):=by
 refine ⟨aX,λ{H enc w n cs x} aj=>?_⟩;unfold AI at aw
 split at aw
 ·rename_i fs hu;simp only [Bool.and_eq_true,decide_eq_true_eq] at aw;obtain ⟨xs,cB,rfl,rfl,ai,JF,J⟩:=DataW.trod_struct hu aj;obtain ⟨b,au,a1⟩:=h.go (w:=w) (off:=0) (cs:=cs) (fs:=fs.toList) (n:=cB) (enc:=enc) aw.1 (by rw [ai,aw.2]; simp) (λi f aW=>by
   have vp:fs[i]?=some f:=by simpa using aW
   have hi:i<xs.length:=by rw [JF]; exact (Array.getElem?_eq_some_iff.1 vp).1
   exact ⟨xs[i],by rw [J i f vp,List.getElem?_eq_getElem hi]⟩)
  exact ⟨mk b,by rw [OD]; exact au,by rw [aa]; simpa using a1⟩
 ·cases aw
inductive DU (w:World):ab->Value->Prop
 | mk {y:ab}{v:Value}(h:tq w y v):DU w y v
theorem hX.one {e:bI α}{t:TypeId}{ok:α->Prop}{g:α->ab}(h:hX P e t ok) (he:∀ a,e.cells a=[g a]) {H:Type}{enc:TypeId × Value->H}{w:World}{v:Value}{d:DataW H}{p:List MemPlace}(hv:v.cells.toList=[v])
  (aw:DataW.Trod enc P w 0 (λ_=>true) true t v d p):∃ a,ok a/\DU w (g a) v:=by
 obtain ⟨n,aE⟩:=aw;obtain ⟨a,aR,a1⟩:=h.go aE;refine ⟨a,aR,.mk ?_⟩;rw [hv,he] at a1;exact (a1.2 0 _ _ rfl rfl).2
theorem hX.Px {e:bI α}{t:TypeId}{ok:α->Prop}{ts:List TypeId}(h:hX P e t ok) (eH:AI P t ts=true) {H:Type}{enc:TypeId × Value->H}{w:World}{v:Value}{d:DataW H}{p:List MemPlace}{base:Nat}(hv:Value.okWide P w .any base t v)
  (aw:DataW.Trod enc P w 0 (λ_=>true) true t v d p):∃ a,ok a/\DU w (.agg (e.cells a)) v:=by
 have hu:∃ fs,P.underlying t=some (.struct fs):=by
  unfold AI at eH
  split at eH
  ·exact ⟨_,by assumption⟩
  ·cases eH
 obtain ⟨fs,hu⟩:=hu;obtain ⟨cs,rfl,hC⟩:=okWide_struct hu hv;obtain ⟨n,aE⟩:=aw;obtain ⟨a,aR,a1⟩:=h.go aE;refine ⟨a,aR,.mk ?_⟩;have jE:mc w (e.cells a) cs.toList:=a1;refine .agg (Fs:=λ_ _=>False) (by simpa using jE.1) (λk u hu=>?_) (λk x u J hu=>(jE.2 k x u J (by simpa using hu)).2) (λ_ _ _ _ _ h=>h.elim) (λc=>⟨λh=>h.elim,λ⟨_,_,h⟩=>h⟩);have hk:k<(e.cells a).length:=by rw [jE.1]; simpa using (Array.getElem?_eq_some_iff.1 hu).1
 exact (jE.2 k _ u (List.getElem?_eq_getElem hk) (by simpa using hu)).1
inductive u0 (w:World):List ab->List Value->Prop
 | nil:u0 w [] []
 | cons {y:ab}{v:Value}{ys:List ab}{vs:List Value}(h:DU w y v) (aA:u0 w ys vs):u0 w (y::ys) (v::vs)
theorem u0.get {w:World}{ys:List ab}{vs:List Value}(h:u0 w ys vs):ys.length=vs.length/\∀ (k:Nat) (y:ab),ys[k]?=some y->∃ v,vs[k]?=some v/\tq w y v:=by
 induction h with
 | nil=>exact ⟨rfl,λk y h=>by simp at h⟩
 | cons h _ aU =>
  refine ⟨by simp [aU.1],λk y av=>?_⟩;cases k with
  | zero =>
   simp at av; subst av;obtain ⟨h⟩:=h;exact ⟨_,rfl,h⟩
  | succ k=>simpa using aU.2 k y (by simpa using av)
theorem u0.Zn {w:World}{ys:List ab}{vs:List Value}(h:u0 w ys vs) (ar:ys.all (λy=>match y with | .bM ..=>false | _=>true)=true) :
  cD w (λb=>b<w.heap.size) vs.toArray (p7 ys) (λ_=>cv):=by
 refine ⟨λt x J=>?_,λ_ _ _ h=>h,λ_ _ _ h=>h.elim,λ_ _ h=>h.elim,λ_ h=>h,λt t' z p n m new bA cB m' c0 h1 _=>?_⟩
 ·obtain ⟨v,hv,a1⟩:=h.get.2 t x J;exact ⟨v,by simpa using hv,.tree (a1.frame (λ_ _=>rfl) (λ_ h=>h) (λ_ _ h=>h.elim) (λ_ _=>rfl))⟩
 ·have:=List.all_eq_true.1 ar _ (List.mem_of_getElem? h1);cases this
structure LD (w w':World):Prop where
 kept:∀ may:MemPlace->Prop,w.keptBut w' may
 dL:∀ a,a.block<w.heap.size->w'.frozen? a=w.frozen? a
theorem bR.ZZ {f:FuncId}{ys:List ab}{vs:List Value}{outs:List (Option ab)}{r:Value}(aa:bR P f ys outs (.lit r)) (w:World) (h:u0 w ys vs) (ar:ys.all (λy=>match y with | .bM ..=>false | _=>true)=true) :
  Calls P f vs.toArray w λe w'=>e=.returned r/\LD w w'/\∀ i:Nat,i<w.heap.size->w'.heap[i]?=w.heap[i]?:=by
 have:=aa.2 w _ vs _ h.get.1.symm (h.Zn ar);refine this.mono ?_;rintro e w' ⟨v,I',b5,rfl,bk,b0⟩;obtain ⟨u,hu,a1⟩:=bk.rel outs.length (.lit r) (by simp [kY]);have ai:outs.length=vs.length:=by rw [aa.1]; exact h.get.1
 have E0:u=v:=by
  rw [ai] at hu;simpa using hu.symm
 subst E0;have hv:=(a1.gF (by simp)).ht.1;subst hv;have au:∀ i:Nat,i<w.heap.size->w'.heap[i]?=w.heap[i]?:=λi hi=>b0.eR.block i hi λ⟨_,h⟩=>h;have hk:World.keptBut w w' (λ_=>False):=⟨b0.eR.os,b0.eR.output,λi hi=>by
  rw [au i hi];exact (World.keptBut_refl w (λ_=>False)).2.2 i hi⟩
 exact ⟨rfl,⟨λmay=>World.keptBut_mono (λ_ f=>f.elim) hk,b0.eR.dL⟩,au⟩
theorem QN {H:Type}{enc:TypeId × Value->H}{w w':World}{base:Nat}{sp:Nat->Bool}{held:Bool}(au:∀ i:Nat,i<w.heap.size->w'.heap[i]?=w.heap[i]?) :
  ∀ {ts:List TypeId}{vs:List Value}{jB:List (DataW H)}{ps:List MemPlace},DataW.TrodAll enc P w base sp held ts vs jB ps->DataW.TrodAll enc P w' base sp held ts vs jB ps
 | [],[],[],_,h=>h
 | _::_,_::_,_::_,_,⟨p,q,⟨n,aE⟩,af,e⟩=>by
  refine ⟨p,q,⟨n,DataW.trod_carry n _ _ _ aE λx J=>?_⟩,QN au af,e⟩;have aQ:=DataW.trod_lt n _ _ _ aE x J;cases x with
  | cell b off =>
   show w'.cell? _=w.cell? _;exact World.cell?_of_block (au b aQ)
  | map b=>exact au b aQ
theorem Se {H:Type}{enc:TypeId × Value->H}{w w':World}(ai:laidOutB P=true) (hm:mapsRowed P=true)
  (aX:((List.range P.types.size).all λt=>match P.underlying t with | some (.slice e)=>decide (0<P.cellsOf e) | _=>true)=true)
  (au:∀ i:Nat,i<w.heap.size->w'.heap[i]?=w.heap[i]?) {ts:List TypeId}{vs:List Value}{jB:List (DataW H)}{ps:List MemPlace}(aw:ts.all (λt=>decide (t<P.types.size))=true)
  (h:DataW.TrodAll enc P w 0 (λ_=>true) true ts vs jB ps) {sp:Nat->Bool}(i':∀ p∈ps,sp p.block=true):DataW.TrodAll enc P w' 0 sp true ts vs jB ps :=
 (QN au h).respare (kids_rows ai hm) (slices_full_of P aX) (λt h=>of_decide_eq_true (List.all_eq_true.1 aw t h)) i'
end Go.Own
namespace Go.Own
open Go
section
variable {α β:Type}{P:Program}{N:c6}{g g1:aJ}{p:Place}{m:Int}{a b:Operand}{t:TypeId}
theorem ab.Md:∀ (l:List Nat) {x nd:ab}{k:Nat}{c:ab},x.at l=some nd->nd.kids[k]?=some c->x.at (l++[k])=some c
 | [],x,nd,k,c,h,hk=>by
  simp only [ab.at,Option.some.injEq] at h;subst h;simp [ab.at,hk]
 | j::l,x,nd,k,c,h,hk=>by
  simp only [ab.at] at h;cases ag:x.kids[j]? with
  | none=>rw [ag] at h; cases h
  | some y =>
   rw [ag] at h;simp only [List.cons_append,ab.at,ag];exact ab.Md l h hk
theorem ab.Qk:∀ (l:List Nat) {x nd:ab}{k:Nat}{c:ab}(y:ab),x.at l=some nd->nd.kids[k]?=some c->x.setAt (l++[k]) y=x.setAt l (nd.wk k y)
 | [],x,nd,k,c,y,h,hk=>by
  simp only [ab.at,Option.some.injEq] at h;subst h;simp [ab.setAt,hk]
 | j::l,x,nd,k,c,y,h,hk=>by
  simp only [ab.at] at h;cases ag:x.kids[j]? with
  | none=>rw [ag] at h; cases h
  | some z =>
   rw [ag] at h;simp only [List.cons_append,ab.setAt,ag];rw [ab.Qk l y h hk]
theorem MX {en:bI α}{L:List α}{jf:α}{o:Nat}{c:ab}(h:idx L m=some jf) (aa:(en.cells jf)[o]?=some c):(ak en L).kids[m.toNat * en.z+o]?=some c:=KN en h aa
theorem u9 {en:bI α}{L:List α}{jf:α}{r o:Nat}{path:List Nat}{c:ab}(ar:bz g ⟨r,path⟩=some (ak en L)) (h:idx L m=some jf) (aa:(en.cells jf)[o]?=some c):bz g ⟨r,path++[m.toNat * en.z+o]⟩=some c:=by
 unfold bz at ar ⊢;simp only at ar ⊢;cases J:g r with
 | none=>rw [J] at ar; cases ar
 | some x =>
  rw [J] at ar;exact ab.Md path ar (MX h aa)
theorem Y2 {en:bI α}{L:List α}{jf:α}{r o:Nat}{path:List Nat}{c:ab}(y:ab) (ar:bz g ⟨r,path⟩=some (ak en L)) (h:idx L m=some jf) (aa:(en.cells jf)[o]?=some c) :
  ct g ⟨r,path++[m.toNat * en.z+o]⟩ y=ct g ⟨r,path⟩ (.own en.z L.length ((bp en L).set (m.toNat * en.z+o) y)):=by
 funext s;unfold ct;simp only;split
 ·rename_i e;subst e;unfold bz at ar;simp only at ar;cases J:g s with
  | none=>rfl
  | some x =>
   rw [J] at ar;simp only [Option.map_some,Option.some.injEq];rw [ab.Qk path y ar (MX h aa)];rfl
 ·rfl
theorem Zl (l:List ab) (k:Nat) (x c:ab):e8 (l.set k x) k [c]=e8 l k [c]:=by
 unfold e8;simp only [List.length_singleton];rw [List.take_set,List.drop_set];rw [List.set_eq_of_length_le (by simp; omega)];simp
theorem bl.Dy {gb:Oper}{en:bI α}{en2:bI β}{L:List α}{jf y2:α}{qQ M R:List β}{o s Kh:Nat}{new c0:List ab}{x2 y0:ab}{G2:List (Nat × ab)}
  (aY:gb.op=.store t a b) (aS:gb.dst=none) (aR:Rd g a (.ptr p (m.toNat * en.z+o))) (au:Rd g b (.a6 en2.z ⟨s,[]⟩ (qQ.length+Kh)))
  (qh:g s=some (.bM en2.z ⟨p.root,p.path++[m.toNat * en.z+o]⟩ qQ.length Kh new)) (ar:bz g p=some (ak en L)) (h:idx L m=some jf) (l2:(en.cells jf)[o]?=some (ak en2 qQ)) (bg:Nat.beq p.root s=false)
  (h1:e_ (ct (ct g ⟨s,[]⟩ .dead) p (.own en.z L.length ((bp en L).set (m.toNat * en.z+o) .dead))) new c0 g1)
  (q8:fo c0 (bp en2 M)) (hm:M.length=Kh) (a1:qQ++M=R) (aX:hx P t 1=true)
  (vz:bz g1 p=some (.own en.z L.length ((bp en L).set (m.toNat * en.z+o) .dead)))
  (he:e8 (en.cells jf) o [ak en2 R]=en.cells y2) (hlen:Nat.ble (o+1) en.z=true)
  (iq:ct g1 p (ak en (L.set m.toNat y2)) p.root=some x2) (aj:(get G2 p.root).isSome=true) (rb:g1 p.root=some y0) [e':ch y0] (c9:kJ g1 (get G2) p.root x2 G2):bl P N g gb (get G2):=by
 subst hm a1;have BS:=Nat.le_of_ble_eq_true hlen;have i':=KM en (cs':=[ak en2 (qQ++M)]) h he (by simpa using BS);have Oe:(L.set m.toNat y2).length=L.length:=List.length_set;have EW:=Nat.ne_of_beq_eq_false bg;have BI:bz g ⟨p.root,p.path++[m.toNat * en.z+o]⟩=some (ak en2 qQ):=u9 (g:=g) (r:=p.root) (path:=p.path) ar h l2;have Wj:bz (ct g ⟨s,[]⟩ .dead) p=some (ak en L):=by
  unfold bz at ar ⊢;rw [uO (p:=⟨s,[]⟩) (λe=>EW e)]; exact ar
 have aw:e_ g [.a6 en2.z ⟨s,[]⟩ (qQ.length+M.length)] [.own en2.z (qQ.length+M.length) (bp en2 qQ++c0)] g1:=by
  refine .hE qh BI bg ?_ .nil;rw [Y2 .dead (r:=p.root) (path:=p.path) Wj h l2];exact h1
 have hk:m.toNat * en.z+o+1<=L.length * en.z:=by
  obtain ⟨Dn,lq,_⟩:=pD h;have af:m.toNat+1<=L.length:=by omega
  calc m.toNat * en.z+o+1<=m.toNat * en.z+en.z:=by omega
   _=(m.toNat+1) * en.z:=by rw [Nat.add_mul]; omega
   _<=L.length * en.z:=Nat.mul_le_mul_right _ af
 refine .store aY aS aR.bs au.bs aw.take (y':=ak en2 (qQ++M)) ?_ rfl aX (p:=p) (nd:=.own en.z L.length ((bp en L).set (m.toNat * en.z+o) .dead)) (z:=en.z) (n:=L.length) (cs:=(bp en L).set (m.toNat * en.z+o) .dead) vz (.inl rfl) ?_ (by simp) (λt x J=>?_) (λt x J y av=>?_) (λt z q n m new J=>?_) (by intro e; rw [e] at aj; cases aj)
 ·rw [<- mA]; exact (q8.pre _).own
 ·simp only [List.length_singleton,List.length_set,ni]; exact hk
 ·have fr:(ab.own en.z L.length ((bp en L).set (m.toNat * en.z+o) .dead)).e8 (m.toNat * en.z+o) [ak en2 (qQ++M)]=ak en (L.set m.toNat y2):=by
   show ab.own en.z L.length (e8 ((bp en L).set (m.toNat * en.z+o) .dead) (m.toNat * en.z+o) [ak en2 (qQ++M)])=_;unfold ak at i' ⊢;rw [Zl,i',Oe]
  rw [fr];rcases c9.spec t x J with ⟨h1,af,_⟩ | ⟨h1,af,_⟩
  ·rw [uO h1]; exact af
  ·subst h1 af; exact iq
 ·rcases c9.spec t x J with ⟨h1,af,aI⟩ | ⟨h1,af,aI⟩
  ·rw [af] at av; cases av;rcases aI with aI | ⟨aI,c2,rfl⟩
   ·exact aI.KK
   ·refine ji.ref (by cases aI; rfl) ⟨aI.Pu,aI.clear ?_,aI.FG⟩;intro e;obtain ⟨hl,pp⟩:=p;simp only at e;subst e;simp only [ct,if_true,rb,Option.map_some,ab.setAt,Option.some.injEq] at iq;cases iq
  ·subst h1; rw [rb] at av; cases av; exact .bo e'.bo
 ·rcases c9.spec t _ J with ⟨_,_,aI | ⟨aI,_⟩⟩ | ⟨_,_,aI⟩
  ·exact aI.fA _ _ _ _ _ rfl
  ·exact aI.fA _ _ _ _ _ rfl
  ·cases aI
end
end Go.Own
/- Short forms for printed walks. -/
namespace Go.Own
open Go
section
variable {P:Program}{N:c6}{ops:Array Oper}{bf:List (List Nat)}{g g0:aJ}{K:aJ->Prop}{l:List Oper}{acc:Acc}{d i:Nat}{op:Op}{ty:TypeId}{pos:String}{after:Array Edge}{x:ab}
theorem aq (ar:ck P g op ty x) (hk:aC P N ops l (cT g d x) K) (bd:N.ok d=true:=by rfl) (aW:g d=none:=by rfl):aC P N ops (⟨some d,op,ty,pos,after,none⟩::l) g K:=.v ar bd aW .none hk
theorem gI (ar:cI P g op x) (hk:aC P N ops l (cT g d x) K) (bd:N.ok d=true:=by rfl) (aW:g d=none:=by rfl):aC P N ops (⟨some d,op,ty,pos,after,none⟩::l) g K:=.c ar bd aW .none hk
theorem aD (bG:Nat) (ar:ck P (jt bf g0 bG acc) op ty x) (hk:bw P N ops bf g0 i ((bG,d,some x)::acc) l K) (ag:Nat.beq ops.size (bG+l.length+1)=true:=by rfl) (aW:g0 d=none:=by rfl) (aE:acc.all (λe=>!Nat.beq e.2.1 d)=true:=by rfl) (bd:N.ok d=true:=by rfl) :
  bw P N ops bf g0 i acc (⟨some d,op,ty,pos,after,none⟩::l) K:=.v bG ar ag aW aE bd .none hk
theorem jX (bG:Nat) (ar:cI P (jt bf g0 bG acc) op x) (hk:bw P N ops bf g0 i ((bG,d,some x)::acc) l K) (ag:Nat.beq ops.size (bG+l.length+1)=true:=by rfl) (aW:g0 d=none:=by rfl) (aE:acc.all (λe=>!Nat.beq e.2.1 d)=true:=by rfl) (bd:N.ok d=true:=by rfl) :
  bw P N ops bf g0 i acc (⟨some d,op,ty,pos,after,none⟩::l) K:=.c bG ar ag aW aE bd .none hk
end
instance {z n:Nat}{cs:List ab}:np (.own z n cs):=⟨by simp⟩
def aH (a n:Nat) (l:List Nat):List Nat:=List.range' a n++l
end Go.Own
namespace Go.Own
open Go
section
variable {α:Type}{P:Program}{N:c6}{g:aJ}{d r:Nat}{ty:TypeId}
instance {fn:Fn}{cs:List ab} [h:dn cs]:ch (.cU fn [] cs):=⟨.cU (by simp) h.bo⟩
theorem O.zN {fn:Fn}{caps:List Operand}{b:List ab}(au:Own.gk g caps=some b):ck P g (.makeFunc fn #[] caps.toArray) ty (.cU fn [] b):=.CP (.makeFunc rfl (by simpa using au))
theorem View.cl {fn:Fn}{cs cs':List ab}(h:oy g cs cs'):View g (.cU fn [] cs) (.cU fn [] cs'):=.cU h.len h.get
theorem cI.gc {c:Operand}{xs:List Operand}{gl:Array TypeId}{f:FuncId}{ys caps:List ab}{outs:List (Option ab)}{res:ab}(aa:Rd g c (.cU (.func f) [] caps)) (J:qS g xs ys) (gM:bR P f (ys++caps) outs res) (aW:hp P f=true) (aY:sk outs=true) [xg:dn caps] [aj:ch res] :
  cI P g (.call { callee:=.value c,args:=xs.toArray,argTypes:=gl }) res:=by
 have e:=Pm aY gM.1;refine .plain (first:=[]) (caps:=caps) (ys:=ys) aa.bs (by simpa using J.spec.1) aW (λy av=>?_) ?_ aj.bo
 ·rw [List.nil_append] at av;rcases List.mem_append.1 av with h | h
  ·exact J.spec.2 y h
  ·exact xg.bo y h
 ·rw [List.nil_append,<- e]; exact gM
theorem hF.jq {o:Oper}{xs:List Operand}{gl:Array TypeId}{f:FuncId}{ys args:List ab}{res:ab}{en:bI α}{L L':List α}{G2:List (Nat × ab)}(aY:o.op=.call { callee:=.value (.func f),args:=xs.toArray,argTypes:=gl }) (aS:o.dst=some d) (J:Own.gk g xs=some (.a6 en.z ⟨r,[]⟩ L.length::ys))
  (aA:g r=some (ak en L)) (hv:oy (get ((r,.dead)::G2)) ys args) (gM:bR P f (ak en L::args) (some (ak en L')::args.map λ_=>none) res) (aW:hp P f=true) [aj:p2 res] [kc:p2 (ak en L')]
  (c9:Trim false (ct g ⟨r,[]⟩ .dead) (get ((r,.dead)::G2)) G2) (aP:get G2 d=none) (r9:Nat.beq r d=false) (Bz:Trim false (get ((r,ak en L')::G2)) (get ((r,ak en L')::G2)) G2) (bd:N.ok d=true) :
  hF P N g o d (get ((d,res)::(r,ak en L')::G2)):=by
 have Ji:r≠d:=Nat.ne_of_beq_eq_false r9;have HG:get ((r,ab.dead)::G2) r=some .dead:=by simp [get]
 have mW:∀ x∈bp en L,cS x:=by
  intro x J;obtain ⟨a,_,aR⟩:=List.mem_flatMap.1 J;exact en.bo a x aR
 have ga:(bp en L).take (L.length * en.z)=bp en L:=List.take_of_length_le (by rw [ni]; exact Nat.le_refl _);have xJ:hz (ct g ⟨r,[]⟩ .dead) (get ((r,.dead)::G2)):=by
  refine ⟨λt x h=>?_,λt x h=>?_,λt z q n m new h=>?_⟩
  all_goals
   simp only [get] at h
   split at h
  ·rename_i e; subst e; cases h; simp [ct,aA,ab.setAt]
  ·obtain ⟨⟨y,h1,_,aI⟩,_⟩:=c9.spec t x h; rw [<- aI rfl]; exact h1
  ·cases h; exact .bo .dead
  ·exact (c9.spec t x h).2.1
  ·cases h
  ·exact (c9.spec t _ h).2.2 _ _ _ _ _ rfl
 have put:qy (get ((r,.dead)::G2)) [(⟨r,[]⟩,ak en L')]=get ((r,ak en L')::G2):=by
  funext t;simp only [qy,ct,get];by_cases h:t=r
  ·simp [h,ab.setAt]
  ·simp [h]
 have xK:hz (get ((r,ak en L')::G2)) (get ((r,ak en L')::G2)):=by
  refine ⟨λt x h=>h,λt x h=>?_,λt z q n m new h=>?_⟩
  all_goals
   simp only [get] at h
   split at h
  ·cases h; exact .bo kc.ln.bo
  ·exact (Bz.spec t x h).2.1
  ·cases h
  ·exact (Bz.spec t _ h).2.2 _ _ _ _ _ rfl
 have ai:=hv.len;have q2:get ((d,res)::(r,ak en L')::G2)=cT (get ((r,ak en L')::G2)) d res:=by
  funext t;rw [sE]
 rw [q2];refine yF.ok (first:=[]) (caps:=[]) (ys:=.a6 en.z ⟨r,[]⟩ L.length::ys) (tk:=λk=>k == 0) (vw:=true) (outs:=some (ak en L')::args.map λ_=>none) (g1:=ct g ⟨r,[]⟩ .dead) (g2:=get ((r,.dead)::G2)) (g4:=get ((r,ak en L')::G2)) (l:=[(⟨r,[]⟩,ak en L')]) (ks:=λ_=>0) (xs0:=.a6 en.z ⟨r,[]⟩ L.length::ys.map λ_=>.dead) (xs1:=ak en L::ys.map λ_=>.dead) (args:=ak en L::args) (res:=res) aY aS rfl (by simpa using J)
  ⟨aW,by simp,by simpa using ai,λk x h=>?_,?_,xJ,λk x y J av=>?_,gM,by simpa using aj.ln,λk x h=>?_,λj p x ag=>?_,by simp,λi j hi ag _=>by simp at hi ag; omega,by rw [put]; exact xK⟩ ?_ bd wB.refl
 ·simp only [List.nil_append,List.append_nil] at h;cases k with
  | zero=>exact .inl h
  | succ k =>
   refine .inr ?_;simp only [List.getElem?_cons_succ] at h ⊢;rw [List.getElem?_map,h]; rfl
 ·have h1:Take (ct g ⟨r,[]⟩ .dead) ((bp en L).take (L.length * en.z)) (bp en L) (ct g ⟨r,[]⟩ .dead):=by rw [ga]; exact .bo mW
  refine .a6 (N:=L.length) (by simp [bz,aA,ab.at]) (Nat.le_refl _) h1 (.bo λx J=>?_);obtain ⟨_,_,rfl⟩:=List.mem_map.1 J;exact .dead
 ·simp only [List.nil_append,List.append_nil] at J;cases k with
  | zero=>simpa using av
  | succ k =>
   simp only [List.getElem?_cons_succ] at J av;exact ⟨rfl,hv.get k x y J av⟩
 ·cases k with
  | zero=>simp only [List.getElem?_cons_zero,Option.some.injEq] at h; subst h; exact kc.ln
  | succ k =>
   simp only [List.getElem?_cons_succ,List.getElem?_map] at h;cases aR:args[k]? <;> rw [aR] at h <;> cases h
 ·cases j with
  | succ j=>simp at ag
  | zero =>
   simp only [List.getElem?_cons_zero,Option.some.injEq,Prod.mk.injEq] at ag;obtain ⟨rfl,rfl⟩:=ag;exact ⟨rfl,by simp [bz,HG,ab.at],.inl ⟨en.z,L.length,bp en L,rfl,by simp [bz,aA,ab.at]⟩⟩
 ·simp only [get,if_neg (Ne.symm Ji)]; exact aP
end
end Go.Own
namespace Go.Own
open Go Go.Proofs Go.Shelf Go.Lib Go.Sort
section
variable {P:Program}{w:World}
def zU {α:Type} [DecidableEq α] (lt:α->α->Bool) (l:List α):Bool :=
 l.all λa=>!lt a a&&l.all λb=>(lt a b||lt b a||decide (a=b))&&l.all λc=>(!(lt a b&&lt b c)||lt a c)&&(lt a b||lt b c||!lt a c)
def kx {α:Type}(fR:α->α->Option Int) (a b:α):Bool:=decide ((fR a b).getD 0<0)
def ins {α:Type}(lt:α->α->Bool) (x:α):List α->List α
 | []=>[x]
 | y::l=>if lt y x then y::ins lt x l else x::y::l
def h7 {α:Type}(lt:α->α->Bool):List α->List α
 | []=>[]
 | x::l=>ins lt x (h7 lt l)
theorem JP {α:Type}(lt:α->α->Bool) (x:α):∀ l:List α,(ins lt x l).Perm (x::l)
 | []=>.refl _
 | y::l=>by
  unfold ins;split
  ·exact ((JP lt x l).cons y).trans (.swap x y l)
  ·exact .refl _
theorem sX {α:Type}(lt:α->α->Bool):∀ l:List α,(h7 lt l).Perm l
 | []=>.refl _
 | x::l=>(JP lt x _).trans ((sX lt l).cons x)
theorem OT {α:Type}{lt:α->α->Bool}(bk:SWO lt) (x:α):∀ l:List α,l.Pairwise (λa b=>(!lt b a)=true)->(ins lt x l).Pairwise λa b=>(!lt b a)=true
 | [],_=>List.pairwise_singleton _ _
 | y::l,h=>by
  obtain ⟨h1,af⟩:=List.pairwise_cons.1 h;unfold ins;split
  ·rename_i aQ;refine List.pairwise_cons.2 ⟨λz aX=>?_,OT bk x l af⟩;rcases List.mem_cons.1 ((JP lt x l).mem_iff.1 aX) with rfl | aX
   ·cases aa:lt z y with
    | false=>rfl
    | true=>have:=bk.trans _ _ _ aQ aa; rw [bk.irrefl] at this; cases this
   ·exact h1 z aX
  ·rename_i aQ;have aQ:lt y x=false:=by simpa using aQ
   refine List.pairwise_cons.2 ⟨λz aX=>?_,h⟩;rcases List.mem_cons.1 aX with rfl | aX
   ·rw [aQ]; rfl
   ·have aX:=h1 z aX;simp only [Bool.not_eq_true'] at aX ⊢;exact bk.ntrans _ _ _ aX aQ
theorem Fc {α:Type}{lt:α->α->Bool}(bk:SWO lt):∀ l:List α,(h7 lt l).Pairwise λa b=>(!lt b a)=true
 | []=>.nil
 | x::l=>OT bk x _ (Fc bk l)
theorem OY {α:Type}{lt:α->α->Bool}(bk:SWO lt) (dK:∀ x y,lt x y=false->lt y x=false->x=y) (l:List α):l.mergeSort (λx y=>!lt y x)=h7 lt l:=by
 refine List.Perm.eq_of_pairwise (le:=λx y=>(!lt y x)=true) (λa b _ _ h1 af=>?_) (List.pairwise_mergeSort (λa b c h1 af=>?_) (λa b=>?_) l) (Fc bk l) ((List.mergeSort_perm _ _).trans (sX lt l).symm)
 ·simp only [Bool.not_eq_true'] at h1 af;exact dK a b af h1
 ·simp only [Bool.not_eq_true'] at h1 af ⊢;exact bk.ntrans _ _ _ af h1
 ·cases h1:lt b a with
  | false=>rfl
  | true =>
   cases af:lt a b with
   | false=>rfl
   | true=>have:=bk.trans _ _ _ h1 af; rw [bk.irrefl] at this; cases this
theorem OS {α β:Type}{lt:α->α->Bool}{lt':β->β->Bool}{f:α->β}(h:∀ a b,lt a b=lt' (f a) (f b)) (x:α):∀ l:List α,(ins lt x l).map f=ins lt' (f x) (l.map f)
 | []=>rfl
 | y::l=>by
  simp only [ins,List.map_cons,h];split
  ·rw [List.map_cons,OS h x l]
  ·rfl
theorem Fb {α β:Type}{lt:α->α->Bool}{lt':β->β->Bool}{f:α->β}(h:∀ a b,lt a b=lt' (f a) (f b)):∀ l:List α,(h7 lt l).map f=h7 lt' (l.map f)
 | []=>rfl
 | x::l=>by simp only [h7,List.map_cons,OS h,Fb h l]
def pP {α:Type} [DecidableEq α] (fR:α->α->Option Int) (l:List α):Option (List α) :=
 if (l.all λa=>l.all λb=>(fR a b).isSome)&&zU (kx fR) l&&decide (l.length<4611686018427387904) then some (h7 (kx fR) l) else none
theorem Np {w':World}(h:Fr w w' λ_=>False):∃ q os,w'=grow (w.drewN q) os:=by
 refine ⟨w'.drawn - w.drawn,w'.heap.extract w.heap.size w'.heap.size,?_⟩;obtain ⟨h1,af,aI,bD,cF,dS,mQ⟩:=h;obtain ⟨ar,adE,w2,os,out⟩:=w';simp only at h1 af aI bD cF mQ;subst h1 af aI;unfold grow World.drewN;simp only [World.mk.injEq,true_and,and_true];refine ⟨?_,by omega⟩;apply Array.ext_getElem?;intro k;rw [Array.getElem?_append];by_cases hk:k<w.heap.size
 ·rw [if_pos hk]; exact cF k hk λh=>h
 ·rw [if_neg hk,Array.getElem?_extract];by_cases f':k<ar.size
  ·rw [if_pos (by omega),show w.heap.size+(k - w.heap.size)=k by omega]
  ·rw [if_neg (by omega),Array.getElem?_eq_none (by omega)]
theorem P1 (l:List Int):bp al l=l.map ae:=by
 induction l with
 | nil=>rfl
 | cons a l aU =>
  show al.cells a++bp al l=_;rw [aU]; rfl
theorem QA {vs:List Value}{v0 v1:Value}(xp:vs=[v0,v1]) {I:bc}{Fs:Nat->bc}{g:aJ}(bk:cD w I vs.toArray g Fs) {w':World}{e:TypeId}{r:List Int}(aY:w'.ownsRow 0 e 1 v0 r.length (r.map (Value.int .i64))) (aO:∀ c,Fs 0 c↔v0.ownBlock=some c) (oK:Fr w w' λc=>Fs 0 c) :
  ∃ v I' b5,Ending.returned (.tuple #[])=.returned v/\cD w' I' (vs++[v]).toArray (kY [some (ak al r),none] (.bX [])) b5/\ko w I (λc=>∃ t,Fs t c) w' I' (λc=>∃ t,b5 t c):=by
 subst xp;refine ⟨_,I,λt=>if t=0 then Fs 0 else cv,rfl,⟨λt x J=>?_,λt aw c aa=>?_,λt t' c aa fp=>?_,λt c aa=>?_,λc aa=>Nat.lt_of_lt_of_le (bk.lt c aa) oK.size,λt t' z p n m new bA cB m' c0 h1 af=>?_⟩,⟨?_,λc h=>h,λc h=>.inl h,λc aa=>?_⟩⟩
 ·unfold kY at J
  split at J
  ·rename_i aw;have aw:t=2:=aw;subst aw;cases J;exact ⟨.tuple #[],rfl,.tree (.bX (Fs:=λ_=>cv) rfl (λk x u h=>by simp at h) (λj k c h=>by simp at h) (λc=>⟨λh=>h.elim,λ⟨k,h,_⟩=>by simp at h⟩))⟩
  ·match t,J with
   | 0,J =>
    cases J;refine ⟨v0,rfl,.tree ?_⟩;show R w' I _ (.own 1 r.length (bp al r)) v0 (Fs 0);rw [P1];refine .own (Fs:=λ_=>cv) aY (by simp) (λk u hu=>?_) (λk x u J hu=>?_) (λ_ _ _ _ _ h=>h.elim) (λ_ _ _ h=>h.elim) (λc=>⟨λh=>.inl ((aO c).1 h),λh=>?_⟩)
    ·rw [List.getElem?_map] at hu;cases hk:r[k]? <;> rw [hk] at hu <;> cases hu;rfl
    ·rw [List.getElem?_map] at J hu;cases hk:r[k]? <;> rw [hk] at J hu <;> cases J <;> cases hu;exact .lit rfl λ_ h=>h
    ·rcases h with h | ⟨_,_,h⟩
     ·exact (aO c).2 h
     ·exact h.elim
   | 1,J=>cases J
   | t+2,J=>cases J
 ·have aT:¬ t=0:=λe=>by subst e; exact absurd aw (by simp [kY])
  simp only [if_neg aT] at aa;exact aa
 ·have key:∀ {t:Nat},(if t=0 then Fs 0 else cv) c->t=0:=λ{t} h=>by
   by_cases aT:t=0
   ·exact aT
   ·rw [if_neg aT] at h; exact h.elim
  rw [key aa,key fp]
 ·by_cases aT:t=0
  ·simp only [if_pos aT] at aa; exact bk.bn 0 c aa
  ·simp only [if_neg aT] at aa; exact aa.elim
 ·unfold kY at h1
  split at h1
  ·cases h1
  ·match t,h1 with
   | 0,h1=>cases h1
   | 1,h1=>cases h1
   | t+2,h1=>cases h1
 ·exact oK.mono λb _ au=>⟨0,au⟩
 ·obtain ⟨t,aw⟩:=aa;by_cases aT:t=0
  ·simp only [if_pos aT] at aw; exact .inl ⟨0,aw⟩
  ·simp only [if_neg aT] at aw; exact aw.elim
theorem Py {α:Type} [DecidableEq α] {lt:α->α->Bool}{l:List α}(h:zU lt l=true):∀ a∈l,lt a a=false/\∀ b∈l,(lt a b=true\/lt b a=true\/a=b)/\∀ c∈l,((lt a b=true/\lt b c=true)->lt a c=true)/\(lt a b=true\/lt b c=true\/lt a c=false):=by
 intro a aR;unfold zU at h;have h1:=List.all_eq_true.1 h a aR;simp only [Bool.and_eq_true,Bool.not_eq_true',List.all_eq_true,Bool.or_eq_true,decide_eq_true_eq] at h1;refine ⟨h1.1,λb au=>?_⟩;obtain ⟨af,aI⟩:=h1.2 b au;refine ⟨by rcases af with (h | h) | h <;> simp [h],λc aa=>?_⟩;obtain ⟨bD,cF⟩:=aI c aa;refine ⟨λ⟨x,y⟩=>?_,by rcases cF with (h | h) | h <;> simp [h]⟩;rcases bD with h | h
 ·rw [x,y] at h; cases h
 ·exact h
theorem Qz {α:Type} [DecidableEq α] {fR:α->α->Option Int}{l r:List α}(h:pP fR l=some r):(∀ a∈l,∀ b∈l,(fR a b).isSome=true)/\zU (kx fR) l=true/\l.length<4611686018427387904/\r=h7 (kx fR) l:=by
 unfold pP at h
 split at h
 ·rename_i aa;simp only [Bool.and_eq_true,List.all_eq_true,decide_eq_true_eq] at aa;exact ⟨aa.1.1,aa.1.2,aa.2,(Option.some.inj h).symm⟩
 ·cases h
theorem N1 {α:Type} [Inhabited α] {enc:α->Value}{b n:Nat}{d:Array α}{os:Array Obj}{cur:Array Value}{e:TypeId}{eR:Nat × Nat}(au:w.heap[b]?=some (.cells cur e eR)) :
  (sortWorld enc w b 0 n d os).heap[b]?=some (.cells (putCells enc 0 d cur) e eR):=by
 have aQ:b<w.heap.size:=(Array.getElem?_eq_some_iff.1 au).1;unfold sortWorld;rw [heap_grow_old _ _ (by rw [Go.Sort.size_putRow]; exact aQ)];unfold putRow mapBlock;have q3:(Go.Sort.ahead w n).heap=w.heap:=rfl;simp only [q3,Array.getElem?_modify,if_true,au,Option.map_some,onCells]
theorem IK {α:Type} [Inhabited α] {enc:α->Value}{b n c:Nat}{d:Array α}{os:Array Obj}(aa:c<w.heap.size) (da:c≠b) :
  (sortWorld enc w b 0 n d os).heap[c]?=w.heap[c]?:=by
 unfold sortWorld;rw [heap_grow_old _ _ (by rw [Go.Sort.size_putRow]; exact aa)];unfold putRow mapBlock;have q3:(Go.Sort.ahead w n).heap=w.heap:=rfl;simp only [q3,Array.getElem?_modify,if_neg (Ne.symm da)]
theorem Ni {α:Type} [Inhabited α] {enc:α->Value}{b n:Nat}{d:Array α}{os:Array Obj}{U:bc}(f_:U b):Fr w (sortWorld enc w b 0 n d os) U:=by
 refine ⟨rfl,rfl,rfl,?_,λc aa aE=>IK aa λe=>aE (e ▸ f_),λa aR=>?_,?_⟩
 ·unfold sortWorld; rw [size_grow,Go.Sort.size_putRow]; exact Nat.le_add_right _ _
 ·unfold sortWorld;rw [frozen?_grow _ _ _ (by rw [Go.Sort.size_putRow]; exact aR),Go.Sort.frozen?_putRow]; rfl
 ·show w.drawn<=w.drawn+n;exact Nat.le_add_right _ _
theorem PS {α:Type} [Inhabited α] {enc:α->Value}{d:Array α}{cur:Array Value}(h:d.size<=cur.size):(putCells enc 0 d cur).toList.take d.size=d.toList.map enc:=by
 apply List.ext_getElem?;intro k;rw [List.getElem?_take,List.getElem?_map];by_cases hk:k<d.size
 ·rw [if_pos hk,Array.getElem?_toList,Array.getElem?_toList];have aa:k<cur.size:=by omega
  simp only [putCells,Array.getElem?_mapIdx,Array.getElem?_eq_getElem aa,Array.getElem?_eq_getElem hk,Option.map_some];rw [if_pos ⟨Nat.zero_le _,by omega⟩,Nat.sub_zero];simp [getElem!_pos,hk]
 ·rw [if_neg hk,Array.getElem?_toList,Array.getElem?_eq_none (by omega)]; rfl
theorem bR.K5 {ρ:Ren}(L:SlLaysF.n6 P ρ) {g:FuncId}{caps:List ab} [xg:dn caps] (aP:hp P g=true) {l r:List Int}{fR:Int->Int->Option Int}(h:pP fR l=some r)
  (aa:∀ a b v,fR a b=some v->bR P g (ae a::ae b::caps) (none::none::caps.map λ_=>none) (ae v)) :
  bR P (ρ.f 6) [ak al l,.cU (.func g) [] caps] [some (ak al r),none] (.bX []):=by
 refine ⟨rfl,λw I vs Fs ai bk=>?_⟩;obtain ⟨v0,v1,rfl⟩:∃ v0 v1,vs=[v0,v1]:=by
  match vs,ai with
  | [a,b],_=>exact ⟨a,b,rfl⟩
 obtain ⟨xn,kv,Jk,rfl⟩:=Qz h;obtain ⟨u,hu,a1⟩:=bk.rel 0 (ak al l) rfl;obtain rfl:v0=u:=by simpa using hu
 replace a1:=a1.gF (by simp);obtain ⟨u,hu,qe⟩:=bk.rel 1 (.cU (.func g) [] caps) rfl;obtain rfl:v1=u:=by simpa using hu
 replace qe:=qe.gF (by simp);rw [show ak al l=.own 1 l.length (bp al l) from rfl,P1] at a1
 cases a1 with
 | ref J=>simp [ab.isRef] at J
 | @own _ _ _ _ e us bL _ aY xj hj aj aS au aO =>
 cases qe with
 | ref J=>simp [ab.isRef] at J
 | @cU _ _ _ aF j6 _ zk h1 af ku iM =>
 obtain rfl:aF=#[]:=Array.eq_empty_of_size_eq_zero (by simpa using h1.symm);have ml:∀ c,Fs 0 c↔v0.ownBlock=some c:=by
  intro c;refine ⟨λaa=>?_,λaa=>(aO c).2 (.inl aa)⟩;rcases (aO c).1 aa with h | ⟨k,hk,h⟩
  ·exact h
  ·have J:=List.getElem?_eq_getElem hk;have hu:=List.getElem?_eq_getElem (xj ▸ hk);have a1:=aj k _ _ J hu;rw [List.getElem_map] at a1;generalize us[k]=gU at a1;cases a1 with
   | lit _ aW=>exact (aW c h).elim
   | ref J=>simp [ab.isRef] at J
 have l4:us=l.map (Value.int .i64):=by
  apply List.ext_getElem?;intro k;by_cases hk:k<us.length
  ·have h6:k<(l.map ae).length:=xj.symm ▸ hk;have J:=List.getElem?_eq_getElem h6;have hu:=List.getElem?_eq_getElem hk;have a1:=aj k _ _ J hu;rw [List.getElem_map] at a1;rw [hu,a1.ht.1,List.getElem?_map,List.getElem?_eq_getElem (by simpa using h6)]; rfl
  ·rw [List.getElem?_eq_none (by omega),List.getElem?_eq_none (by rw [List.length_map] at xj ⊢; omega)]
 subst l4;have B5:=sX (kx fR) l;have hlen:=B5.length_eq;by_cases xl:l=[]
 ·subst xl;have i_:∃ p cap,v0=.slice p 0 cap:=by
   rcases aY.2 with ⟨rfl,_⟩ | ⟨b,cap,cur,rfl,_⟩
   ·exact ⟨_,_,rfl⟩
   ·exact ⟨_,_,rfl⟩
  obtain ⟨p,cap,rfl⟩:=i_;refine (AnyF.slices_SortFunc_none { L with } p cap _ w).mono ?_;rintro cf w' ⟨rfl,rfl⟩;exact QA rfl bk (e:=e) (r:=[]) aY ml (Fr.refl _ _)
 ·obtain ⟨Og,ID⟩:=aY;rcases ID with ⟨rfl,aT⟩ | ⟨b,cap,cur,rfl,_,ue,hle,Ja,fV,ga⟩
  ·exact absurd (List.eq_nil_of_length_eq_zero aT) xl
  rw [Nat.mul_one] at fV ga;have tZ:Fs 0 b:=(ml b).2 rfl;have IA:b<w.heap.size:=(Array.getElem?_eq_some_iff.1 ue).1;obtain ⟨a0,w_⟩:=List.exists_mem_of_ne_nil l xl
  let α:={ x:Int // x∈l }
  haveI:Inhabited α:=⟨⟨a0,w_⟩⟩
  let enc:α->Value:=λx=>.int .i64 x.1
  let kO:α->α->Int:=λx y=>(fR x.1 y.1).getD 0;have aQ:∀ x y:α,ltOf kO x y=kx fR x.1 y.1:=λx y=>rfl
  let d:Array α:=l.attach.toArray;have zr:d.size=l.length:=by show (l.attach.toArray).size=l.length; rw [List.size_toArray,List.length_attach]
  have i':=Py kv;have hO:SWO (ltOf kO):=by
   refine ⟨λx=>by rw [aQ]; exact (i' x.1 x.2).1,λx y z=>?_,λx y z=>?_⟩
   ·rw [aQ,aQ,aQ];exact λp q=>(((i' x.1 x.2).2 y.1 y.2).2 z.1 z.2).1 ⟨p,q⟩
   ·rw [aQ,aQ,aQ];intro p q;rcases (((i' x.1 x.2).2 y.1 y.2).2 z.1 z.2).2 with h | h | h
    ·rw [p] at h; cases h
    ·rw [q] at h; cases h
    ·exact h
  have dK:∀ x y:α,ltOf kO x y=false->ltOf kO y x=false->x=y:=by
   intro x y p q;rw [aQ] at p q;rcases ((i' x.1 x.2).2 y.1 y.2).1 with h | h | h
   ·rw [p] at h; cases h
   ·rw [q] at h; cases h
   ·exact Subtype.ext h
  have l2:∀ j,j<l.length->cur[j]?=some (.int .i64 l[j]!):=by
   intro j ag;have:=congrArg (λt=>t[j]?) ga;simp only [List.getElem?_take,if_pos ag,Array.getElem?_toList,List.getElem?_map,List.getElem?_eq_getElem ag,Option.map_some] at this;rw [this,getElem!_pos l j ag]
  have hH:Holds enc w b 0 d:=by
   intro j ag;rw [zr] at ag;refine ⟨?_,?_⟩
   ·unfold World.cell?;simp only [ue,Nat.zero_add];show cur[j]?=_;rw [l2 j ag];show some (Value.int .i64 l[j]!)=some (.int .i64 (d[j]!).1);have:(d[j]!).1=l[j]! := by
     rw [getElem!_pos d j (by omega),getElem!_pos l j ag];show (l.attach.toArray[j]'_).val=_;rw [List.getElem_toArray,List.getElem_attach]
    rw [this]
   ·unfold World.frozen?;simp only [ue];simp
  have HL:∀ args w,(callFunc g args).run P w=.ok (.enter g args) w:=λargs w=>Bh aP args;have IG:CmpLays1 P g j6 enc kO b 0 d.size w:=by
   intro m os Bk zq x y;have q':=xn x.1 x.2 y.1 y.2;obtain ⟨v,hv⟩:=Option.isSome_iff_exists.1 q';have IE:kO x y=v:=by show (fR x.1 y.1).getD 0=v; rw [hv]; rfl
   have Ip:cD (sortWorld enc w b 0 m Bk os) I #[] (λ_=>none) (λ_=>cv):=by
    refine ⟨λ_ _ h=>(by cases h),λ_ _ _ h=>h,λ_ _ _ h=>h.elim,λ_ _ h=>h.elim,λc aa=>?_,λ_ _ _ _ _ _ _ _ _ _ _ h=>(by cases h)⟩;have:=bk.lt c aa;unfold sortWorld;rw [size_grow,Go.Sort.size_putRow];exact Nat.lt_of_lt_of_le this (Nat.le_add_right _ _)
   have sI:=Ip.args (I':=I) (λc h=>.inl h) (args:=ae x.1::ae y.1::caps) (vs:=enc x::enc y::j6.toList) (by simp [af]) (λρ' k z u aX hu=>?_)
   ·have po:=(aa x.1 y.1 v hv).2 _ I (enc x::enc y::j6.toList) _ (by simp [af]) sI;have j9:(enc x::enc y::j6.toList).toArray=#[enc x,enc y]++j6:=by
     apply Array.ext';simp
    rw [j9] at po;refine po.mono ?_;rintro cf w' ⟨fM,I',b5,rfl,dX,b0⟩;obtain ⟨u,hu,mS⟩:=dX.rel (caps.length+2) (ae v) (by simp [kY]);have Jr:u=fM:=by
     have:(enc x::enc y::j6.toList).length=caps.length+2:=by simp [af]
     rw [List.getElem?_toArray,<- this] at hu;simpa using hu.symm
    subst Jr;have n2:=(mS.gF (by simp)).ht.1;subst n2;refine ⟨by rw [IE],?_⟩;exact Np (b0.eR.mono λc _ ⟨_,bY⟩=>bY)
   ·match k,aX,hu with
    | 0,aX,hu=>cases aX; cases hu; exact .lit rfl λ_ h=>h
    | 1,aX,hu=>cases aX; cases hu; exact .lit rfl λ_ h=>h
    | k+2,aX,hu =>
     simp only [List.getElem?_cons_succ] at aX hu;have zm:=(iM k z u aX (by simpa using hu)).bo (ρ':=ρ') (xg.bo z (List.mem_of_getElem? aX));refine zm.frame (λc aa=>?_) (λ_ h=>h) (λ_ _ h=>h) (λc h=>h.elim);exact IK (bk.lt c aa) λe=>bk.bn 0 c (e ▸ tZ) aa
  have BT:=Any.slices_SortFunc_total L enc (λ_=>rfl) kO hO g j6 b 0 cap d w HL IG hH IA (by rw [zr]; exact Jk) dK;rw [zr] at BT;refine BT.mono ?_;rintro cf w' ⟨rfl,n,os,rfl⟩;have oM:(d.toList.mergeSort λx y=>!ltOf kO y x).map enc=(h7 (kx fR) l).map (Value.int .i64):=by
   rw [OY hO dK];have hm:(h7 (ltOf kO) l.attach).map Subtype.val=h7 (kx fR) (l.attach.map Subtype.val):=Fb (lt:=ltOf kO) (lt':=kx fR) (f:=Subtype.val) (λa b=>aQ a b) l.attach;rw [List.attach_map_subtype_val] at hm;rw [<- hm,List.map_map];rfl
  have NZ:(d.toList.mergeSort λx y=>!ltOf kO y x).toArray.size=l.length:=by
   rw [List.size_toArray,(List.mergeSort_perm _ _).length_eq];show (l.attach.toArray).toList.length=l.length;simp
  refine QA rfl bk (e:=e) (r:=h7 (kx fR) l) ⟨by simp,.inr ⟨b,cap,_,by rw [hlen],Nat.zero_le _,N1 ue,by omega,Ja,?_,?_⟩⟩ ml (Ni tZ)
  ·rw [Nat.mul_one,<- fV];simp [putCells]
  ·rw [Nat.mul_one,hlen,<- NZ,PS (by rw [NZ]; omega),<- oM]
end
end Go.Own
namespace Go.Own
open Go
section
variable {α:Type}{P:Program}{N:c6}{g g1 g2 g3:aJ}{ops:Array Oper}{bf:List (List Nat)}{acc:Acc}{l:List Oper}{K:aJ->Prop}{i d r:Nat}
theorem cD.settle {w:World}{I:bc}{T:Array Value}{Fs:Nat->bc}(h:cD w I T g Fs) (a:Act) (aR:a.tmps=T) {ts:List Nat}{xs ys:List ab}(J:Own.gk g (ts.map Operand.tmp)=some xs) (aw:Take g xs ys g1) (fr:ts.Nodup) (ai:ys.length=ts.length) (aS:∀ t∈ts,g1 t=some .dead)
  (hk:hz (qy g1 ((ts.map λt=>(⟨t,[]⟩:Place)).zip ys)) g2):∃ b5,cD w I T g2 b5/\∀ c,(∃ t,b5 t c)->∃ t,Fs t c:=by
 obtain ⟨JF,Xj⟩:=zT h aR J;have Xi:xs.length=ts.length:=by rw [JF,List.length_map]
 have hand:Hand w I (fC w T) Fs xs (ts.map λt=>a.eval (.tmp t)) (λ_=>cv):=by
  refine ⟨by rw [Xi,List.length_map],λk x u qp hu=>?_,λ_ _ _ _ _ h=>h.elim,λ_ _ _ _ h=>h.elim,λ_ _ _ h=>h.elim⟩;rw [List.getElem?_map] at hu;cases ga:ts[k]? with
  | none=>rw [ga] at hu; cases hu
  | some t =>
   rw [ga] at hu; cases hu;exact (Xj k x (.tmp t) qp (by rw [List.getElem?_map,ga]; rfl)).frame (λ_ _=>rfl) (λ_ h=>h) (λ_ _ h=>h.1) λ_ _=>rfl
 obtain ⟨fY,H1,iZ,iK,hJ⟩:=aw.sound h.mC hand;have vJ:((ts.map λt=>(⟨t,[]⟩:Place)).zip ys).length=ts.length:=by rw [List.length_zip,List.length_map,ai]; exact Nat.min_self _
 obtain ⟨iV,h4,aO⟩:=jx.qy ((ts.map λt=>(⟨t,[]⟩:Place)).zip ys) H1 (λj=>((ts.map λt=>a.eval (.tmp t))[j]?).getD undef) iZ (by
   rw [List.map_fst_zip (by rw [List.length_map,ai]; exact Nat.le_refl _)];exact List.Pairwise.map _ (λa b h e=>h (congrArg Place.root e)) fr) (λj p x ag=>by
   rw [List.getElem?_zip_eq_some] at ag;obtain ⟨h1,af⟩:=ag;rw [List.getElem?_map] at h1;cases ga:ts[j]? with
   | none=>rw [ga] at h1; cases h1
   | some t =>
    rw [ga] at h1; cases h1;have N0:=aS t (List.mem_of_getElem? ga);obtain ⟨v,hv,_⟩:=iZ.rel t .dead N0;have uc:a.eval (.tmp t)=v:=by simp [Act.eval,aR,hv]
    have Jq:(ts.map λt=>a.eval (.tmp t))[j]?=some v:=by rw [List.getElem?_map,ga]; simp [uc]
    refine ⟨by simp [bz,N0,ab.at],?_,?_⟩
    ·rw [Jq];show dV w T ⟨t,[]⟩=some v;unfold dV;simp only [hv,walk]
    ·rw [Jq];exact iK.rel j x v af Jq) (λj t c ag aa=>iK.off j t c (by omega) aa) (λj c ag aa=>iK.bn j c (by omega) aa) (λi j c hi ag h1 af=>iK.eK i j c (by omega) (by omega) h1 af)
 refine ⟨_,h4.keep hk,λc ⟨t,_,aa⟩=>?_⟩;have:lx fY ys.length H1 c:=by
  rcases aO t c aa with h | ⟨j,ag,h⟩
  ·exact .inl ⟨t,h⟩
  ·exact .inr ⟨j,by omega,h⟩
 rcases hJ c this with h | ⟨_,_,h⟩
 ·exact h
 ·exact h.elim
theorem iw.settle {o:Oper}{ts:List Nat}{xs ys:List ab}(J:Own.gk g (ts.map Operand.tmp)=some xs) (aw:Take g xs ys g1) (fr:ts.Nodup) (ai:ys.length=ts.length) (aS:∀ t∈ts,g1 t=some .dead)
  (hk:hz (qy g1 ((ts.map λt=>(⟨t,[]⟩:Place)).zip ys)) g2) (he:iw P N g2 o g3):iw P N g o g3:=by
 intro w I T Fs bk a aR bd K Q dj;obtain ⟨b5,dX,f_⟩:=bk.settle a aR J aw fr ai aS hk;refine he w I T b5 dX a aR bd K Q λb' w' aE aw=>dj b' w' ?_ aw;obtain ⟨cu,cd,I',iV,h1,af⟩:=aE;exact ⟨cu,cd,I',iV,h1,ko.trans ⟨Fr.refl _ _,λ_ h=>h,λ_ h=>.inl h,λc h=>.inl (f_ c h)⟩ af⟩
theorem R1 {Q:Nat->Prop}{a:Nat}(aR:Q a):∀ t∈[a],Q t:=λt aw=>by rw [List.mem_singleton.1 aw]; exact aR
theorem wG {Q:Nat->Prop}{a b:Nat}(aR:Q a) (au:Q b):∀ t∈[a,b],Q t:=λt aw=>by
 rcases List.mem_cons.1 aw with rfl | aw
 ·exact aR
 ·rw [List.mem_singleton.1 aw]; exact au
def FQ (p q:Place):Bool:=Nat.beq p.root q.root&&p.path == q.path
def CG:List Place->Bool
 | []=>true
 | x::l=>l.all (λy=>!FQ x y)&&CG l
theorem Pd:∀ {l:List Place},CG l=true->l.Nodup
 | [],_=>List.nodup_nil
 | p::l,h=>by
  simp only [CG,Bool.and_eq_true,List.all_eq_true] at h;refine List.nodup_cons.2 ⟨λhm=>?_,Pd h.2⟩;have:=h.1 p hm;simp [FQ] at this
def XU (p:Place) (acc:Acc):Bool:=acc.all λe=>match jT e with | some q=>!FQ p q | none=>true
theorem vP {p:Place}{G:List (Nat × ab)}{A:Nat->Bool}(h:XU p acc=true) (c9:l7 G=true):∀ t z n m new,dh (get G) A acc t≠some (.bM z p n m new):=by
 intro t z n m new e;rcases uU e with ⟨cf,he,h1,_,af⟩ | ⟨_,af⟩
 ·have:=List.all_eq_true.1 h cf he;obtain ⟨k,d,x⟩:=cf;simp only at af;subst af;simp [jT,FQ] at this
 ·exact vR c9 _ _ _ _ _ _ af
theorem O.tw {en:bI α}{L M r:List α}{y:ab}{e gJ:Nat}{a b:Operand}{p:Place}{t ty:TypeId}(aA:Rd g a (.a6 en.z p L.length)) (ar:bz g p=some (ak en L)) (J:Rd g b y) (hm:nW g en y M) (aw:jz P t e en.z gJ=true) (au:Nat.ble gJ 128=true) (h:dc L M=some r) (e':∀ t z n m new,g t≠some (.bM z p n m new)) :
  ck P g (.call { callee:=.builtin .append,args:=#[a,b],argTypes:=#[t,t] }) ty (.bM en.z p L.length M.length (bp en M)):=by
 obtain ⟨h1,af,_⟩:=y1 h au;exact .lP (.grow aA.bs (.inl ⟨_,ar⟩) (λt bA cB m' c0 e=>e' _ _ _ _ _ e) J.bs hm.src aw h1 af)
theorem bw.wQ (bG:Nat) {G G2:List (Nat × ab)}{o:Oper}(he:iw P N (dh (get G) (λm=>(bf.getD bG []).contains m) acc) o (get G2)) (aP:o.guard=none) (gN:CG (acc.filterMap jT)=true) (fH:l7 G=true) (ag:Nat.beq ops.size (bG+l.length+1)=true)
  (f_:acc.filter (λe=>!(bf.getD bG []).contains e.1)=[])
  (au:(List.range ops.size).all (λk=>Nat.ble k bG||(bf.getD k []).contains bG)=true) (hk:bw P N ops bf (get G2) (bG+1) [] l K):bw P N ops bf (get G) i acc (o::l) K:=by
 intro dU j b_ kS lb;have:=zf lb ag;subst this;obtain ⟨h1,af⟩:=drop_cons lb;obtain ⟨g',aj,dj⟩:=hk [] (j+1) .nil .nil af;refine ⟨g',.wM (U:=[]) (rs:=sm []) kS (Pd gN) (vR fH) h1 ?_ he.v (λp ar=>by simp [sm] at ar) f_.symm (by simp) (by simp) (by simp) ?_ aj,dj⟩
 ·unfold iz; rw [aP]
 ·refine List.all_eq_true.2 λk hk=>?_;have:=List.all_eq_true.1 au k hk;simp only [Bool.or_eq_true,decide_eq_true_eq,Nat.ble_eq] at this ⊢;exact this
theorem iw.cell {o:Oper}{r k0:Nat}{y:ab}{cs:List ab}{g5:aJ}(aj:g r=some (.obj cs)) (av:cs[k0]?=some y) (xx:cS y)
  (vy:∀ v:Value,v.oneCell'=true->∃ g1 g4,hz (ct g ⟨r,[k0]⟩ (.lit v)) g1/\iw P N g1 o g4/\bz g4 ⟨r,[k0]⟩=some (.lit v)/\hz (ct g4 ⟨r,[k0]⟩ y) g5):o3 P N (λp=>p∈[(⟨r,[k0]⟩:Place)]) g o g5:=by
 intro w I T Fs h a aR bd K Q dj;have lf:∀ z q n m new,y≠.bM z q n m new:=by rintro z q n m new rfl; cases xx
 have gp:bz g ⟨r,[k0]⟩=some y:=by simp [bz,aj,ab.at,ab.kids,av]
 obtain ⟨v,cw,hv,dF,dy,put⟩:=h.mC.part gp lf;have um:v.oneCell'=true:=by
  obtain ⟨u,hu,mR⟩:=h.rel r _ aj;obtain ⟨b,wo,h1,af,aI,bD,_⟩:=R.node (z:=0) (n:=0) (mR.gF (by simp)) (.inr rfl) av;have:dV w T ⟨r,[k0]⟩=child w u k0:=by
   unfold dV;simp only [hu,walk];cases child w u k0 <;> rfl
  rw [this,aI] at hv;cases hv;exact bD
 obtain ⟨fY,iZ,zk,Bv⟩:=put (.lit v) cv (.lit um λ_ h=>h) (λ_ h=>h.elim) (λ_ h=>h.elim) (λ_ _ _ h=>h.elim);obtain ⟨g1,g4,gZ,cQ,It,IW⟩:=vy v um;have uR:∀ t c,fY t c->Fs t c/\¬ cw c:=by
  intro t c aa;by_cases aw:t=r
  ·subst aw;rcases (zk c).1 aa with aL | aL
   ·exact aL
   ·exact aL.elim
  ·rw [Bv t aw] at aa;exact ⟨aa,λaW=>aw (h.eK t r c aa (dy c aW))⟩
 have Ik:=iZ.keep gZ;refine cQ w I T _ Ik a aR bd K Q λb' w' aE sU=>?_;obtain ⟨cu,cd,I',b5,dX,b0⟩:=aE;obtain ⟨v2,iU,Cd,mn,UI,KF⟩:=dX.mC.part It (by simp);have Jp:v2=v:=mn.ht.1;subst Jp;have Nz:∀ c,cw c->¬ I c:=λc aa=>h.bn r c (dy c aa);have Bx:∀ c,cw c->c<w.heap.size:=λc aa=>h.jS r c (dy c aa);have CN:∀ c,cw c->¬ ∃ t,(g1 t≠none/\fY t c):=λc aa ⟨t,_,aL⟩=>(uR t c aL).2 aa;have CM:∀ t c,b5 t c->¬ cw c:=by
  intro t c aa aW;rcases b0.own c ⟨t,aa⟩ with aL | aL
  ·exact CN c aW aL
  ·have:=Bx c aW; omega
 have Km:∀ c,cw c->¬ I' c:=by
  intro c aa hi;rcases b0.new c hi with aL | aL | aL
  ·exact Nz c aa aL
  ·exact CN c aa aL
  ·have:=Bx c aa; omega
 have KT:∀ c,cw c->w'.heap[c]?=w.heap[c]?:=λc aa=>b0.eR.block c (Bx c aa) (CN c aa);have so:∀ c,I c->w'.heap[c]?=w.heap[c]?:=λc aa=>b0.eR.block c (h.lt c aa) λ⟨t,_,aL⟩=>h.bn t c (uR t c aL).1 aa;have BD:R w' I' (fC w' b'.tmps) y v2 cw:=((dF.bo xx).frame so b0.more (λ_ _ h=>h) KT);obtain ⟨LA,Im,Nw,Ia⟩:=KF y cw BD (λc aa aW=>(CM _ c aW aa).elim) (λc aa=>Km c aa) (λt c _ aa aW=>CM t c aW aa);have tQ:=Im.keep IW;refine dj b' w' ⟨cu,cd,I',_,tQ,⟨?_,b0.more,λc aa=>?_,λc aa=>?_⟩⟩ sU λcW path ar y' oO ac'=>?_
 ·exact b0.eR.mono λb _ ⟨t,_,aL⟩=>⟨t,(uR t b aL).1⟩
 ·rcases b0.new c aa with aL | ⟨t,_,aL⟩ | aL
  ·exact .inl aL
  ·exact .inr (.inl ⟨t,(uR t c aL).1⟩)
  ·exact .inr (.inr aL)
 ·obtain ⟨t,_,aa⟩:=aa;have:(∃ t,b5 t c)\/cw c:=by
   by_cases aw:t=r
   ·subst aw;rcases (Nw c).1 aa with ⟨aL,_⟩ | aL
    ·exact .inl ⟨_,aL⟩
    ·exact .inr aL
   ·rw [Ia t aw] at aa; exact .inl ⟨t,aa⟩
  rcases this with aL | aL
  ·rcases b0.own c aL with ⟨t,_,ig⟩ | ig
   ·exact .inl ⟨t,(uR t c ig).1⟩
   ·exact .inr ig
  ·exact .inl ⟨r,dy c aL⟩
 ·have ar:(⟨cW,path⟩:Place)∈[(⟨r,[k0]⟩:Place)]:=ar;have ar:=List.mem_singleton.1 ar;cases ar;rw [hv,Cd]
end
end Go.Own
namespace Go.Own
open Go
section
variable {α:Type}{P:Program}{N:c6}{g:aJ}{ops:Array Oper}{l:List Oper}{K:aJ->Prop}{r n:Nat}{t e ty:TypeId}{a b:Operand}{m:Int}{en:bI α}{L:List α}{y y2:α}{k:IntKind}{pos:String}{after:Array Edge}
def xy {α:Type}(n:Nat) (l:List α) (i:Int):Option α:=if i<n then idx l i else none
theorem JK (h:xy n L m=some y):m<n/\idx L m=some y:=by
 unfold xy at h
 split at h
 ·exact ⟨by assumption,h⟩
 ·cases h
theorem Sf (aX:Nat.blt 0 en.z=true) (h:idx L m=some y):m.toNat * en.z<(bp en L).length:=by
 obtain ⟨aT,h1,_⟩:=pD h;rw [ni];exact Nat.mul_lt_mul_of_pos_right (by omega) (by simpa using aX)
theorem O.OZ (aA:g r=some (.obj (bp en L))) (aX:Nat.blt 0 en.z=true) (hi:Rd g b (.lit (.int k m))) (aw:y3 P t e n en.z=true) (h:xy n L m=some y):ck P g (.indexAddr t (.tmp r) b) ty (.ptr ⟨r,[]⟩ (m.toNat * en.z)):=by
 obtain ⟨h1,af⟩:=JK h;have aQ:=Sf aX af;obtain ⟨aT,_,_⟩:=pD af;have J:Own.bs g (.tmp r)=some (.ptr ⟨r,[]⟩ 0):=by
  cases aa:bp en L with
  | nil=>rw [aa] at aQ; simp at aQ
  | cons c cs=>simp [Own.bs,aA,aa,rp,gq]
 have hm:((m.toNat:Nat):Int)=m:=by omega
 have:=c8.E7 (P:=P) (g:=g) (ty:=ty) (k:=0) (j:=m.toNat) J (by rw [hm]; exact hi.bs) aw (by omega) ⟨.obj (bp en L),by simp [bz,aA,ab.at],0,0,_,.inr rfl,by rw [Nat.zero_add]; exact aQ⟩;rw [Nat.zero_add] at this;exact .eU this
theorem O.XF {x:ab}(aA:g r=some (.obj (bp en L))) (aR:Rd g a (.ptr ⟨r,[]⟩ (m.toNat * en.z))) (h:idx L m=some y) (J:(en.cells y)[0]?=some x) (aw:jA P t=true) (aE:∀ p,gq 0 p x=x):ck P g (.load t a) ty x:=by
 have:=KN en h J;rw [Nat.add_zero] at this;exact O.pF aA aR aw this (aE _)
theorem aC.YU {Lk:ab}{cs':List ab}{G2:List (Nat × ab)}(aA:g r=some (.obj (bp en L))) (aX:Nat.blt 0 en.z=true) (aR:Rd g a (.ptr ⟨r,[]⟩ (m.toNat * en.z))) (au:Rd g b Lk) [aE:ch Lk] (h:idx L m=some y) (aa:oC Lk=some cs') (hC:cs'=en.cells y2) (fV:hx P t cs'.length=true)
  (aj:(get G2 r).isSome=true) (c9:k_ g (get G2) r (bp en (L.set m.toNat y2)) G2) (hk:aC P N ops l (get G2) K):aC P N ops (⟨none,.store t a b,ty,pos,after,none⟩::l) g K:=by
 have hlen:cs'.length=en.z:=by rw [hC,en.len]
 obtain ⟨aT,h1,_⟩:=pD h;refine .kZ aA aR au aa fV ?_ ?_ ?_ aj c9 hk
 ·rw [hlen,ni];simp only [Nat.ble_eq];have:(m.toNat+1) * en.z<=L.length * en.z:=Nat.mul_le_mul_right _ (by omega);rw [Nat.add_mul,Nat.one_mul] at this;exact this
 ·rw [hlen]; exact aX
 ·have:=KM en h (o:=0) (cs':=cs') (y2:=y2) (by
   subst hC;have ai:(en.cells y2).length=(en.cells y).length:=by rw [en.len,en.len]
   unfold e8;rw [List.take_zero,List.nil_append,Nat.zero_add,ai,List.drop_length,List.append_nil]) (by omega)
  rw [Nat.add_zero] at this;exact this
end
end Go.Own
namespace Go.Own
open Go Go.Proofs Go.Shelf Go.Lib Go.Sort
section
variable {P:Program}{w:World}
class lz {α:Type}(e:bI α) where
 rD:α->List Value
 cells:∀ a,e.cells a=(rD a).map .lit
 one:∀ a,∀ v∈rD a,v.oneCell'=true
variable {α:Type}{e:bI α}
theorem lz.len [h:lz e] (a:α):(h.rD a).length=e.z:=by
 have:=e.len a;rw [h.cells,List.length_map] at this;exact this
def pb (e:bI α) [h:lz e] (l:List α):List Value:=l.flatMap h.rD
theorem F4 [h:lz e]:∀ l:List α,bp e l=(pb e l).map .lit
 | []=>rfl
 | a::l=>by
  have:bp e (a::l)=e.cells a++bp e l:=by simp [bp]
  rw [this,F4 l,h.cells];simp [pb]
theorem HR [h:lz e] (l:List α):(pb e l).length=l.length * e.z:=by
 have:=ni e l;rw [F4,List.length_map] at this;exact this
theorem Ng [h:lz e] {l:List α}:∀ v∈pb e l,v.oneCell'=true:=by
 intro v hv;obtain ⟨a,_,hv⟩:=List.mem_flatMap.1 hv;exact h.one a v hv
theorem Nf [h:lz e]:∀ (l:List α) (i j:Nat) (a:α),l[i]?=some a->j<e.z->(pb e l)[i * e.z+j]?=(h.rD a)[j]?
 | [],i,j,a,aR,_=>by simp at aR
 | b::l,0,j,a,aR,ag=>by
  simp only [List.getElem?_cons_zero,Option.some.injEq] at aR;subst aR;simp only [pb,List.flatMap_cons,Nat.zero_mul,Nat.zero_add];rw [List.getElem?_append_left (by rw [lz.len]; exact ag)]
 | b::l,i+1,j,a,aR,ag=>by
  simp only [List.getElem?_cons_succ] at aR;have:=Nf l i j a aR ag;simp only [pb,List.flatMap_cons] at this ⊢;rw [List.getElem?_append_right (by rw [lz.len,Nat.add_mul]; omega),lz.len,<- this];congr 1;rw [Nat.add_mul]; omega
theorem Nd {β:Type} [Inhabited β] [h:lz e] (f:β->α) (d:Array β):(flatK (λx=>h.rD (f x)) e.z d).toList=pb e (d.toList.map f):=by
 apply List.ext_getElem?;intro t;by_cases aw:t<d.size * e.z
 ·have aX:0<e.z:=by
   rcases Nat.eq_zero_or_pos e.z with aT | aT
   ·rw [aT] at aw; omega
   ·exact aT
  have h1:t / e.z<d.size:=Nat.div_lt_of_lt_mul (by rw [Nat.mul_comm]; exact aw);have af:t % e.z<e.z:=Nat.mod_lt _ aX;have aR:(d.toList.map f)[t / e.z]?=some (f d[t / e.z]!):=by
   rw [List.getElem?_map,Array.getElem?_toList,Array.getElem?_eq_getElem h1,getElem!_pos d _ h1]; rfl
  have:=Nf (e:=e) _ (t / e.z) (t % e.z) _ aR af;rw [Nat.mul_comm,Nat.div_add_mod] at this;rw [this,Array.getElem?_toList,Array.getElem?_eq_getElem (by simpa using aw),<- getElem!_pos (flatK (λx=>h.rD (f x)) e.z d) t (by simpa using aw),get_flatK _ _ _ _ aw];have aI:t % e.z<(h.rD (f d[t / e.z]!)).length:=by rw [lz.len]; exact af
  rw [getElem!_pos (h.rD (f d[t / e.z]!)) (t % e.z) aI,List.getElem?_eq_getElem aI]
 ·rw [List.getElem?_eq_none (by simp; omega),List.getElem?_eq_none (by rw [HR,List.length_map,Array.length_toList]; omega)]
theorem QB [hr:lz e] {vs:List Value}{v0 v1:Value}(xp:vs=[v0,v1]) {I:bc}{Fs:Nat->bc}{g:aJ}(bk:cD w I vs.toArray g Fs) {w':World}{t:TypeId}{r:List α}(aY:w'.ownsRow 0 t e.z v0 r.length (pb e r)) (aO:∀ c,Fs 0 c↔v0.ownBlock=some c) (oK:Fr w w' λc=>Fs 0 c) :
  ∃ v I' b5,Ending.returned (.tuple #[])=.returned v/\cD w' I' (vs++[v]).toArray (kY [some (ak e r),none] (.bX [])) b5/\ko w I (λc=>∃ t,Fs t c) w' I' (λc=>∃ t,b5 t c):=by
 subst xp;refine ⟨_,I,λt=>if t=0 then Fs 0 else cv,rfl,⟨λt x J=>?_,λt aw c aa=>?_,λt t' c aa fp=>?_,λt c aa=>?_,λc aa=>Nat.lt_of_lt_of_le (bk.lt c aa) oK.size,λt t' z p n m new bA cB m' c0 h1 af=>?_⟩,⟨?_,λc h=>h,λc h=>.inl h,λc aa=>?_⟩⟩
 ·unfold kY at J
  split at J
  ·rename_i aw;have aw:t=2:=aw;subst aw;cases J;exact ⟨.tuple #[],rfl,.tree (.bX (Fs:=λ_=>cv) rfl (λk x u h=>by simp at h) (λj k c h=>by simp at h) (λc=>⟨λh=>h.elim,λ⟨k,h,_⟩=>by simp at h⟩))⟩
  ·match t,J with
   | 0,J =>
    cases J;refine ⟨v0,rfl,.tree ?_⟩;show R w' I _ (.own e.z r.length (bp e r)) v0 (Fs 0);rw [F4];refine .own (Fs:=λ_=>cv) aY (by simp) (λk u hu=>Ng u (List.mem_of_getElem? hu)) (λk x u J hu=>?_) (λ_ _ _ _ _ h=>h.elim) (λ_ _ _ h=>h.elim) (λc=>⟨λh=>.inl ((aO c).1 h),λh=>?_⟩)
    ·rw [List.getElem?_map,hu] at J;cases J;exact .lit (Ng u (List.mem_of_getElem? hu)) λ_ h=>h
    ·rcases h with h | ⟨_,_,h⟩
     ·exact (aO c).2 h
     ·exact h.elim
   | 1,J=>cases J
   | t+2,J=>cases J
 ·have aT:¬ t=0:=λe=>by subst e; exact absurd aw (by simp [kY])
  simp only [if_neg aT] at aa;exact aa
 ·have key:∀ {t:Nat},(if t=0 then Fs 0 else cv) c->t=0:=λ{t} h=>by
   by_cases aT:t=0
   ·exact aT
   ·rw [if_neg aT] at h; exact h.elim
  rw [key aa,key fp]
 ·by_cases aT:t=0
  ·simp only [if_pos aT] at aa; exact bk.bn 0 c aa
  ·simp only [if_neg aT] at aa; exact aa.elim
 ·unfold kY at h1
  split at h1
  ·cases h1
  ·match t,h1 with
   | 0,h1=>cases h1
   | 1,h1=>cases h1
   | t+2,h1=>cases h1
 ·exact oK.mono λb _ au=>⟨0,au⟩
 ·obtain ⟨t,aw⟩:=aa;by_cases aT:t=0
  ·simp only [if_pos aT] at aw; exact .inl ⟨0,aw⟩
  ·simp only [if_neg aT] at aw; exact aw.elim
theorem bR.Zg [DecidableEq α] [vj:lz e] {ρ:Ren}(L:SlLaysF0.n6 P ρ) (RL:∀ w,(isAgg (ρ.t 24)).run P w=.ok true w) (Z3:∀ w,(Go.sizeOf (ρ.t 24)).run P w=.ok e.z w) {g:FuncId}{caps:List ab} [xg:dn caps] (aP:hp P g=true) {l r:List α}{fR:α->α->Option Int}(h:pP fR l=some r)
  (aa:∀ a b v,fR a b=some v->bR P g (.agg (e.cells a)::.agg (e.cells b)::caps) (none::none::caps.map λ_=>none) (ae v)) :
  bR P (ρ.f 6) [ak e l,.cU (.func g) [] caps] [some (ak e r),none] (.bX []):=by
 refine ⟨rfl,λw I vs Fs ai bk=>?_⟩;obtain ⟨v0,v1,rfl⟩:∃ v0 v1,vs=[v0,v1]:=by
  match vs,ai with
  | [a,b],_=>exact ⟨a,b,rfl⟩
 obtain ⟨xn,kv,Jk,rfl⟩:=Qz h;obtain ⟨u,hu,a1⟩:=bk.rel 0 (ak e l) rfl;obtain rfl:v0=u:=by simpa using hu
 replace a1:=a1.gF (by simp);obtain ⟨u,hu,qe⟩:=bk.rel 1 (.cU (.func g) [] caps) rfl;obtain rfl:v1=u:=by simpa using hu
 replace qe:=qe.gF (by simp);rw [show ak e l=.own e.z l.length (bp e l) from rfl,F4] at a1
 cases a1 with
 | ref J=>simp [ab.isRef] at J
 | @own _ _ _ _ t us bL _ aY xj hj aj aS au aO =>
 cases qe with
 | ref J=>simp [ab.isRef] at J
 | @cU _ _ _ aF j6 _ zk h1 af ku iM =>
 obtain rfl:aF=#[]:=Array.eq_empty_of_size_eq_zero (by simpa using h1.symm);have ml:∀ c,Fs 0 c↔v0.ownBlock=some c:=by
  intro c;refine ⟨λaa=>?_,λaa=>(aO c).2 (.inl aa)⟩;rcases (aO c).1 aa with h | ⟨k,hk,h⟩
  ·exact h
  ·have J:=List.getElem?_eq_getElem hk;have hu:=List.getElem?_eq_getElem (xj ▸ hk);have a1:=aj k _ _ J hu;rw [List.getElem_map] at a1;generalize us[k]=gU at a1;cases a1 with
   | lit _ aW=>exact (aW c h).elim
   | ref J=>simp [ab.isRef] at J
 have l4:us=pb e l:=by
  apply List.ext_getElem?;intro k;by_cases hk:k<us.length
  ·have h6:k<((pb e l).map ab.lit).length:=xj.symm ▸ hk;have J:=List.getElem?_eq_getElem h6;have hu:=List.getElem?_eq_getElem hk;have a1:=aj k _ _ J hu;rw [List.getElem_map] at a1;rw [hu,a1.ht.1,List.getElem?_eq_getElem (by simpa using h6)]
  ·rw [List.getElem?_eq_none (by omega),List.getElem?_eq_none (by rw [List.length_map] at xj; omega)]
 subst l4;have B5:=sX (kx fR) l;have hlen:=B5.length_eq;by_cases xl:l=[]
 ·subst xl;have i_:∃ p cap,v0=.slice p 0 cap:=by
   rcases aY.2 with ⟨rfl,_⟩ | ⟨b,cap,cur,rfl,_⟩
   ·exact ⟨_,_,rfl⟩
   ·exact ⟨_,_,rfl⟩
  obtain ⟨p,cap,rfl⟩:=i_;refine (AnyF.slices_SortFunc_none L p cap _ w).mono ?_;rintro cf w' ⟨rfl,rfl⟩;exact QB rfl bk (t:=t) (r:=[]) aY ml (Fr.refl _ _)
 ·obtain ⟨Og,ID⟩:=aY;rcases ID with ⟨rfl,aT⟩ | ⟨b,cap,cur,rfl,_,ue,hle,Ja,fV,ga⟩
  ·exact absurd (List.eq_nil_of_length_eq_zero aT) xl
  have tZ:Fs 0 b:=(ml b).2 rfl;have IA:b<w.heap.size:=(Array.getElem?_eq_some_iff.1 ue).1;obtain ⟨a0,w_⟩:=List.exists_mem_of_ne_nil l xl
  let β:={ x:α // x∈l }
  haveI:Inhabited β:=⟨⟨a0,w_⟩⟩
  let enc:β->List Value:=λx=>vj.rD x.1
  let kO:β->β->Int:=λx y=>(fR x.1 y.1).getD 0;have aQ:∀ x y:β,ltOf kO x y=kx fR x.1 y.1:=λx y=>rfl
  let d:Array β:=l.attach.toArray;have VK:d.toList.map Subtype.val=l:=by
   show (l.attach.toArray).toList.map Subtype.val=l;simp
  have zr:d.size=l.length:=by show (l.attach.toArray).size=l.length; rw [List.size_toArray,List.length_attach]
  have i':=Py kv;have hO:SWO (ltOf kO):=by
   refine ⟨λx=>by rw [aQ]; exact (i' x.1 x.2).1,λx y z=>?_,λx y z=>?_⟩
   ·rw [aQ,aQ,aQ];exact λp q=>(((i' x.1 x.2).2 y.1 y.2).2 z.1 z.2).1 ⟨p,q⟩
   ·rw [aQ,aQ,aQ];intro p q;rcases (((i' x.1 x.2).2 y.1 y.2).2 z.1 z.2).2 with h | h | h
    ·rw [p] at h; cases h
    ·rw [q] at h; cases h
    ·exact h
  have dK:∀ x y:β,ltOf kO x y=false->ltOf kO y x=false->x=y:=by
   intro x y p q;rw [aQ] at p q;rcases ((i' x.1 x.2).2 y.1 y.2).1 with h | h | h
   ·rw [p] at h; cases h
   ·rw [q] at h; cases h
   ·exact Subtype.ext h
  have sL:(flatK enc e.z d).toList=pb e l:=by
   have:=Nd (e:=e) (λx:β=>x.1) d;rw [VK] at this;exact this
  have hH:HoldsK enc e.z w b 0 d:=by
   intro j ag;have sO:j<(pb e l).length:=by rw [<- sL,Array.length_toList]; exact ag
   refine ⟨?_,?_⟩
   ·unfold World.cell?;simp only [ue,Nat.zero_add];show cur[j]?=_;have h1:=congrArg (λt=>t[j]?) ga;have r5:j<l.length * e.z:=by rw [<- HR (e:=e)]; exact sO
    simp only [List.getElem?_take,if_pos r5,Array.getElem?_toList] at h1;rw [h1,<- sL,Array.getElem?_toList,Array.getElem?_eq_getElem ag,getElem!_pos (flatK enc e.z d) j ag];rfl
   ·unfold World.frozen?;simp only [ue];simp
  have HL:∀ args w,(callFunc g args).run P w=.ok (.enter g args) w:=λargs w=>Bh aP args;have NL:∀ (W:World) (I:bc) (ρ':ab->Value->Prop) (a:α),R W I ρ' (.agg (e.cells a)) (.agg (vj.rD a).toArray) λ_=>False:=by
   intro W I ρ' a;rw [vj.cells];refine .agg (Fs:=λ_=>cv) (by simp) (λk u hu=>vj.one a u ?_) (λk x u J hu=>?_) (λ_ _ _ _ _ h=>h.elim) (λc=>⟨λh=>h.elim,λ⟨_,_,h⟩=>h.elim⟩)
   ·rw [List.getElem?_toArray] at hu; exact List.mem_of_getElem? hu
   ·rw [List.getElem?_toArray] at hu;rw [List.getElem?_map,hu] at J;cases J;exact .lit (vj.one a u (List.mem_of_getElem? hu)) λ_ h=>h
  have IG:CmpLays P g j6 enc e.z kO b 0 d.size w:=by
   intro m os Bk zq x y;have q':=xn x.1 x.2 y.1 y.2;obtain ⟨v,hv⟩:=Option.isSome_iff_exists.1 q';have IE:kO x y=v:=by show (fR x.1 y.1).getD 0=v; rw [hv]; rfl
   show Calls P g _ (sortWorld id w b 0 m (flatK enc e.z Bk) os) λcf w'=>_/\∃ q X4,w'=grow ((sortWorld id w b 0 m (flatK enc e.z Bk) os).drewN q) X4;have Ip:cD (sortWorld id w b 0 m (flatK enc e.z Bk) os) I #[] (λ_=>none) (λ_=>cv):=by
    refine ⟨λ_ _ h=>(by cases h),λ_ _ _ h=>h,λ_ _ _ h=>h.elim,λ_ _ h=>h.elim,λc aa=>?_,λ_ _ _ _ _ _ _ _ _ _ _ h=>(by cases h)⟩;have:=bk.lt c aa;unfold sortWorld;rw [size_grow,Go.Sort.size_putRow];exact Nat.lt_of_lt_of_le this (Nat.le_add_right _ _)
   have sI:=Ip.args (I':=I) (λc h=>.inl h) (args:=.agg (e.cells x.1)::.agg (e.cells y.1)::caps) (vs:=.agg (enc x).toArray::.agg (enc y).toArray::j6.toList) (by simp [af]) (λρ' k z u aX hu=>?_)
   ·have po:=(aa x.1 y.1 v hv).2 _ I (.agg (enc x).toArray::.agg (enc y).toArray::j6.toList) _ (by simp [af]) sI;have j9:(.agg (enc x).toArray::.agg (enc y).toArray::j6.toList).toArray=#[.agg (enc x).toArray,.agg (enc y).toArray]++j6:=by
     apply Array.ext';simp
    rw [j9] at po;refine po.mono ?_;rintro cf w' ⟨fM,I',b5,rfl,dX,b0⟩;obtain ⟨u,hu,mS⟩:=dX.rel (caps.length+2) (ae v) (by simp [kY]);have Jr:u=fM:=by
     have:(Value.agg (enc x).toArray::.agg (enc y).toArray::j6.toList).length=caps.length+2:=by simp [af]
     rw [List.getElem?_toArray,<- this] at hu;simpa using hu.symm
    subst Jr;have n2:=(mS.gF (by simp)).ht.1;subst n2;refine ⟨by rw [IE],?_⟩;exact Np (b0.eR.mono λc _ ⟨_,bY⟩=>bY)
   ·match k,aX,hu with
    | 0,aX,hu=>cases aX; cases hu; exact NL _ _ _ x.1
    | 1,aX,hu=>cases aX; cases hu; exact NL _ _ _ y.1
    | k+2,aX,hu =>
     simp only [List.getElem?_cons_succ] at aX hu;have zm:=(iM k z u aX (by simpa using hu)).bo (ρ':=ρ') (xg.bo z (List.mem_of_getElem? aX));refine zm.frame (λc aa=>?_) (λ_ h=>h) (λ_ _ h=>h) (λc h=>h.elim);exact IK (bk.lt c aa) λe=>bk.bn 0 c (e ▸ tZ) aa
  have BT:=AnyQ.slices_SortFunc_total L e.z RL Z3 enc (λx=>lz.len x.1) (λx v hv=>vj.one x.1 v hv) kO hO g j6 b 0 cap d w HL IG hH IA (by rw [zr]; exact Jk) dK;rw [zr] at BT;refine BT.mono ?_;rintro cf w' ⟨rfl,n,os,rfl⟩;have oM:(d.toList.mergeSort λx y=>!ltOf kO y x).map Subtype.val=h7 (kx fR) l:=by
   rw [OY hO dK];have hm:(h7 (ltOf kO) l.attach).map Subtype.val=h7 (kx fR) (l.attach.map Subtype.val):=Fb (lt:=ltOf kO) (lt':=kx fR) (f:=Subtype.val) (λa b=>aQ a b) l.attach;rw [List.attach_map_subtype_val] at hm;exact hm
  generalize ac8:(d.toList.mergeSort λx y=>!ltOf kO y x)=ms at oM;have Wa:ms.length=l.length:=by rw [<- hlen,<- oM,List.length_map]
  have IN:(flatK enc e.z ms.toArray).toList=pb e (h7 (kx fR) l):=by
   have:=Nd (e:=e) (λx:β=>x.1) ms.toArray;rw [show (ms.toArray).toList.map (λx:β=>x.1)=h7 (kx fR) l from oM] at this
   exact this
  have sM:(flatK enc e.z ms.toArray).size=l.length * e.z:=by rw [size_flatK,List.size_toArray,Wa]
  refine QB rfl bk (t:=t) (r:=h7 (kx fR) l) ⟨HR _,.inr ⟨b,cap,_,by rw [hlen],Nat.zero_le _,N1 (enc:=id) ue,by omega,Ja,?_,?_⟩⟩ ml (Ni (enc:=id) tZ)
  ·rw [<- fV];simp [putCells]
  ·rw [hlen,<- sM,PS (by rw [sM,fV]; exact Nat.mul_le_mul_right _ hle),List.map_id,IN]
end
end Go.Own
namespace Go.Own
open Go
section
variable {α:Type}{P:Program}{N:c6}{g:aJ}{d r:Nat}
theorem hF.tk {o:Oper}{x:Operand}{gl:Array TypeId}{f:FuncId}{res:ab}{en:bI α}{L:List α}{G2:List (Nat × ab)}(aY:o.op=.call { callee:=.value (.func f),args:=#[x],argTypes:=gl }) (aS:o.dst=some d) (J:Own.gk g [x]=some [.a6 en.z ⟨r,[]⟩ L.length])
  (aA:g r=some (ak en L)) (gM:bR P f [ak en L] [none] res) (aW:hp P f=true) [aj:ch res]
  (c9:Trim false (ct g ⟨r,[]⟩ .dead) (get G2) G2) (aP:get G2 d=none) (bd:N.ok d=true) :
  hF P N g o d (get ((d,res)::G2)):=by
 have mW:∀ x∈bp en L,cS x:=by
  intro x J;obtain ⟨a,_,aR⟩:=List.mem_flatMap.1 J;exact en.bo a x aR
 have ga:(bp en L).take (L.length * en.z)=bp en L:=List.take_of_length_le (by rw [ni]; exact Nat.le_refl _);have xJ:hz (ct g ⟨r,[]⟩ .dead) (get G2):=by
  refine ⟨λt x h=>?_,λt x h=>(c9.spec t x h).2.1,λt z q n m new h=>(c9.spec t _ h).2.2 _ _ _ _ _ rfl⟩;obtain ⟨⟨y,h1,_,aI⟩,_⟩:=c9.spec t x h;rw [<- aI rfl]; exact h1
 have xK:hz (get G2) (get G2):=⟨λt x h=>h,λt x h=>(c9.spec t x h).2.1,λt z q n m new h=>(c9.spec t _ h).2.2 _ _ _ _ _ rfl⟩;have q2:get ((d,res)::G2)=cT (get G2) d res:=by
  funext t;rw [sE]
 rw [q2];refine yF.ok (first:=[]) (caps:=[]) (ys:=[.a6 en.z ⟨r,[]⟩ L.length]) (tk:=λk=>k == 0) (vw:=false) (outs:=[none]) (g1:=ct g ⟨r,[]⟩ .dead) (g2:=get G2) (g4:=get G2) (l:=[]) (ks:=λ_=>0) (xs0:=[.a6 en.z ⟨r,[]⟩ L.length]) (xs1:=[ak en L]) (args:=[ak en L]) (res:=res) aY aS rfl J
  ⟨aW,by simp,by simp,λk x h=>.inl h,?_,xJ,λk x y J av=>?_,gM,by simpa using aj.bo,λk x h=>?_,λj p x ag=>by simp at ag,by simp,λi j hi ag _=>by simp at hi,xK⟩ aP bd wB.refl
 ·have h1:Take (ct g ⟨r,[]⟩ .dead) ((bp en L).take (L.length * en.z)) (bp en L) (ct g ⟨r,[]⟩ .dead):=by rw [ga]; exact .bo mW
  exact .a6 (N:=L.length) (by simp [bz,aA,ab.at]) (Nat.le_refl _) h1 (.bo λx J=>by simp at J)
 ·cases k with
  | zero=>simpa using av
  | succ k=>simp at av
 ·cases k with
  | zero=>simp at h
  | succ k=>simp at h
end
end Go.Own
namespace Go.Own
open Go Go.Proofs Go.Shelf Go.Lib Go.Sort
section
variable {α:Type} [DecidableEq α]
end
section
variable {α:Type}{e:bI α}{P:Program}{w:World}
variable [DecidableEq α] [Inhabited α]
end
end Go.Own
namespace Go.Proofs
open Tryz
open Go.Shelf Go.RowKit Go.Lib Go.Sort
variable {α:Type} [Inhabited α] [DecidableEq α]
namespace Two
open Go.Own
variable {P:Program}{t:TypeId}
omit [Inhabited α] [DecidableEq α] in
theorem one (f:α->Int):OneCell λx=>Value.int .i64 (f x):=λ_=>rfl
end Two
end Go.Proofs
namespace Go.Own
open Go Go.Proofs Go.Shelf Go.Lib Go.Sort
section
variable {α:Type}{e:bI α}{P:Program}{w:World}
end
end Go.Own
namespace Go.Own
open Go
section
variable {α:Type}{P:Program}{N:c6}{g:aJ}{d r:Nat}
end
end Go.Own
namespace Go.Own
open Go
theorem q {α:Sort _}{a:α}:a=a:=rfl
abbrev a':ByteArray:=⟨#[]⟩
theorem CK {p:Prop} [Decidable p] (h:decide p=true):p:=of_decide_eq_true h
theorem lu {b:Bool}{g h:aJ}{e1 s1:Nat}{ez a8:ab}(aT:g e1=some ez) [ch ez] (h1:g s1=some a8) [ch a8]:Trim b g h [(e1,ez),(s1,a8)]:=(.n aT (.n h1 .nil))
theorem qH {b:Bool}{g h:aJ}{e1 s1 s2:Nat}{ez a8 x2:ab}(aT:g e1=some ez) [ch ez] (h1:g s1=some a8) [ch a8] (af:g s2=some x2) [ch x2]:Trim b g h [(e1,ez),(s1,a8),(s2,x2)]:=(.n aT (.n h1 (.n af .nil)))
theorem oY {b:Bool}{g h:aJ}{e1 s1 s2 d':Nat}{ez a8 x2 a7:ab}(aT:g e1=some ez) [ch ez] (h1:g s1=some a8) [ch a8] (af:g s2=some x2) [ch x2] (aI:g d'=some a7) [ch a7]:Trim b g h [(e1,ez),(s1,a8),(s2,x2),(d',a7)]:=(.n aT (.n h1 (.n af (.n aI .nil))))
theorem jU {b:Bool}{g h:aJ}{e1 s1 s2 d' cY:Nat}{ez a8 x2 a7 bx:ab}(aT:g e1=some ez) [ch ez] (h1:g s1=some a8) [ch a8] (af:g s2=some x2) [ch x2] (aI:g d'=some a7) [ch a7] (bD:g cY=some bx) [ch bx]:Trim b g h [(e1,ez),(s1,a8),(s2,x2),(d',a7),(cY,bx)]:=(.n aT (.n h1 (.n af (.n aI (.n bD .nil)))))
theorem oi {b:Bool}{g h:aJ}{e1 s1 s2 d' cY cj:Nat}{ez a8 x2 a7 bx bQ:ab}(aT:g e1=some ez) [ch ez] (h1:g s1=some a8) [ch a8] (af:g s2=some x2) [ch x2] (aI:g d'=some a7) [ch a7] (bD:g cY=some bx) [ch bx] (cF:g cj=some bQ) [ch bQ]:Trim b g h [(e1,ez),(s1,a8),(s2,x2),(d',a7),(cY,bx),(cj,bQ)]:=(.n aT (.n h1 (.n af (.n aI (.n bD (.n cF .nil))))))
theorem sq {b:Bool}{g h:aJ}{e1 s1 s2 d' cY cj db:Nat}{ez a8 x2 a7 bx bQ bF:ab}(aT:g e1=some ez) [ch ez] (h1:g s1=some a8) [ch a8] (af:g s2=some x2) [ch x2] (aI:g d'=some a7) [ch a7] (bD:g cY=some bx) [ch bx] (cF:g cj=some bQ) [ch bQ] (dS:g db=some bF) [ch bF]:Trim b g h [(e1,ez),(s1,a8),(s2,x2),(d',a7),(cY,bx),(cj,bQ),(db,bF)]:=(.n aT (.n h1 (.n af (.n aI (.n bD (.n cF (.n dS .nil)))))))
theorem K9 {b:Bool}{g h:aJ}{e1 s1 s2 d' cY cj db dr:Nat}{ez a8 x2 a7 bx bQ bF bV:ab}(aT:g e1=some ez) [ch ez] (h1:g s1=some a8) [ch a8] (af:g s2=some x2) [ch x2] (aI:g d'=some a7) [ch a7] (bD:g cY=some bx) [ch bx] (cF:g cj=some bQ) [ch bQ] (dS:g db=some bF) [ch bF] (mQ:g dr=some bV) [ch bV]:Trim b g h [(e1,ez),(s1,a8),(s2,x2),(d',a7),(cY,bx),(cj,bQ),(db,bF),(dr,bV)]:=(.n aT (.n h1 (.n af (.n aI (.n bD (.n cF (.n dS (.n mQ .nil))))))))
theorem adD {b:Bool}{g h:aJ}{e1 s1 s2 d' cY cj db dr ea:Nat}{ez a8 x2 a7 bx bQ bF bV b2:ab}(aT:g e1=some ez) [ch ez] (h1:g s1=some a8) [ch a8] (af:g s2=some x2) [ch x2] (aI:g d'=some a7) [ch a7] (bD:g cY=some bx) [ch bx] (cF:g cj=some bQ) [ch bQ] (dS:g db=some bF) [ch bF] (mQ:g dr=some bV) [ch bV] (rW:g ea=some b2) [ch b2]:Trim b g h [(e1,ez),(s1,a8),(s2,x2),(d',a7),(cY,bx),(cj,bQ),(db,bF),(dr,bV),(ea,b2)]:=(.n aT (.n h1 (.n af (.n aI (.n bD (.n cF (.n dS (.n mQ (.n rW .nil)))))))))
theorem ZG {b:Bool}{g h:aJ}{e1 s1 s2 d' cY cj db dr ea h8:Nat}{ez a8 x2 a7 bx bQ bF bV b2 cy:ab}(aT:g e1=some ez) [ch ez] (h1:g s1=some a8) [ch a8] (af:g s2=some x2) [ch x2] (aI:g d'=some a7) [ch a7] (bD:g cY=some bx) [ch bx] (cF:g cj=some bQ) [ch bQ] (dS:g db=some bF) [ch bF] (mQ:g dr=some bV) [ch bV] (rW:g ea=some b2) [ch b2] (w8:g h8=some cy) [ch cy]:Trim b g h [(e1,ez),(s1,a8),(s2,x2),(d',a7),(cY,bx),(cj,bQ),(db,bF),(dr,bV),(ea,b2),(h8,cy)]:=(.n aT (.n h1 (.n af (.n aI (.n bD (.n cF (.n dS (.n mQ (.n rW (.n w8 .nil))))))))))
theorem ZH {b:Bool}{g h:aJ}{e1 s1 s2 d' cY cj db dr ea h8 gr:Nat}{ez a8 x2 a7 bx bQ bF bV b2 cy bH:ab}(aT:g e1=some ez) [ch ez] (h1:g s1=some a8) [ch a8] (af:g s2=some x2) [ch x2] (aI:g d'=some a7) [ch a7] (bD:g cY=some bx) [ch bx] (cF:g cj=some bQ) [ch bQ] (dS:g db=some bF) [ch bF] (mQ:g dr=some bV) [ch bV] (rW:g ea=some b2) [ch b2] (w8:g h8=some cy) [ch cy] (H2:g gr=some bH) [ch bH]:Trim b g h [(e1,ez),(s1,a8),(s2,x2),(d',a7),(cY,bx),(cj,bQ),(db,bF),(dr,bV),(ea,b2),(h8,cy),(gr,bH)]:=(.n aT (.n h1 (.n af (.n aI (.n bD (.n cF (.n dS (.n mQ (.n rW (.n w8 (.n H2 .nil)))))))))))
section
variable {P:Program}{N:c6}{ops:Array Oper}{g:aJ}{K:aJ->Prop}{l:List Oper}{d t:Nat}{ty:TypeId}{pos:String}{after:Array Edge}{v:Value}
theorem jY {G1:List (Nat × ab)}(h:Trim true g (get G1) G1):aC P N ops [] g λg'=>j4 g' (get G1):=.fin h
theorem cX (h:g t=some (.lit v)) (hk:aC P N ops l (cT g d (.lit v)) K) (bd:N.ok d=true:=by rfl) (aW:g d=none:=by rfl):aC P N ops (⟨some d,.move (.tmp t),ty,pos,after,none⟩::l) g K:=aq (O.aZ (.lit h)) hk bd aW
theorem G6 (h:g t=some (.lit v)) (hk:aC P N ops l (cT g d (.lit v)) K) (bd:N.ok d=true:=by rfl) (aW:g d=none:=by rfl):aC P N ops (⟨some d,.assign (.tmp t),ty,pos,after,none⟩::l) g K:=aq (O.az (.lit h)) hk bd aW
theorem RA (h:ofConst v=.lit v) (hk:aC P N ops l (cT g d (.lit v)) K) (bd:N.ok d=true:=by rfl) (aW:g d=none:=by rfl):aC P N ops (⟨some d,.assign (.const v),ty,pos,after,none⟩::l) g K:=aq (O.az (.k h)) hk bd aW
end
end Go.Own
namespace Go.Own
open Go
section
variable {α:Type}{g:aJ}
end
end Go.Own
namespace Go.Own
open Go
section
variable {α:Type}{P:Program}{N:c6}{g:aJ}{d r:Nat}
theorem hF.kk {o:Oper}{xs:List Operand}{gl:Array TypeId}{f:FuncId}{ys:List ab}{res:ab}{en:bI α}{L:List α}{G2:List (Nat × ab)}(aY:o.op=.call { callee:=.value (.func f),args:=xs.toArray,argTypes:=gl }) (aS:o.dst=some d) (J:Own.gk g xs=some (.a6 en.z ⟨r,[]⟩ L.length::ys))
  (aA:g r=some (ak en L)) (gM:bR P f (ak en L::ys) (none::ys.map λ_=>none) res) (aW:hp P f=true) [aj:ch res] [aE:dn ys]
  (c9:Trim false (ct g ⟨r,[]⟩ .dead) (get G2) G2) (aP:get G2 d=none) (bd:N.ok d=true) :
  hF P N g o d (get ((d,res)::G2)):=by
 have mW:∀ x∈bp en L,cS x:=by
  intro x J;obtain ⟨a,_,aR⟩:=List.mem_flatMap.1 J;exact en.bo a x aR
 have ga:(bp en L).take (L.length * en.z)=bp en L:=List.take_of_length_le (by rw [ni]; exact Nat.le_refl _);have xJ:hz (ct g ⟨r,[]⟩ .dead) (get G2):=by
  refine ⟨λt x h=>?_,λt x h=>(c9.spec t x h).2.1,λt z q n m new h=>(c9.spec t _ h).2.2 _ _ _ _ _ rfl⟩;obtain ⟨⟨y,h1,_,aI⟩,_⟩:=c9.spec t x h;rw [<- aI rfl]; exact h1
 have xK:hz (get G2) (get G2):=⟨λt x h=>h,λt x h=>(c9.spec t x h).2.1,λt z q n m new h=>(c9.spec t _ h).2.2 _ _ _ _ _ rfl⟩;have q2:get ((d,res)::G2)=cT (get G2) d res:=by
  funext t;rw [sE]
 rw [q2];refine yF.ok (first:=[]) (caps:=[]) (ys:=.a6 en.z ⟨r,[]⟩ L.length::ys) (tk:=λ_=>true) (vw:=false) (outs:=none::ys.map λ_=>none) (g1:=ct g ⟨r,[]⟩ .dead) (g2:=get G2) (g4:=get G2) (l:=[]) (ks:=λ_=>0) (xs0:=.a6 en.z ⟨r,[]⟩ L.length::ys) (xs1:=ak en L::ys) (args:=ak en L::ys) (res:=res) aY aS rfl (by simpa using J)
  ⟨aW,by simp,by simp,λk x h=>.inl (by simpa using h),?_,xJ,λk x y J av=>by simpa using av,gM,by simpa using aj.bo,λk x h=>?_,λj p x ag=>by simp at ag,by simp,λi j hi ag _=>by simp at hi,xK⟩ aP bd wB.refl
 ·have h1:Take (ct g ⟨r,[]⟩ .dead) ((bp en L).take (L.length * en.z)) (bp en L) (ct g ⟨r,[]⟩ .dead):=by rw [ga]; exact .bo mW
  exact .a6 (N:=L.length) (by simp [bz,aA,ab.at]) (Nat.le_refl _) h1 (.bo aE.bo)
 ·cases k with
  | zero=>simp at h
  | succ k =>
   simp only [List.getElem?_cons_succ,List.getElem?_map] at h;cases aR:ys[k]? <;> rw [aR] at h <;> cases h
end
end Go.Own
namespace Go.Own
open Go
class u4 (x:ab):Prop where pl:p4 x
class D4 (cs:List ab):Prop where pl:∀ x∈cs,p4 x
instance {v:Value}:u4 (.lit v):=⟨.lit⟩
instance:u4 .aN:=⟨.aN⟩
instance {z n:Nat}{cs:List ab} [h:dn cs]:u4 (.bn z n cs):=⟨.bn h.bo⟩
instance {α:Type}{e:bI α}{L:List α}:u4 (ah e L):=⟨.bn (dn.bo (cs:=bp e L))⟩
instance {cs:List ab} [h:D4 cs]:u4 (.agg cs):=⟨.agg h.pl⟩
instance:D4 []:=⟨by simp⟩
instance {x:ab}{cs:List ab} [h:u4 x] [aL:D4 cs]:D4 (x::cs):=⟨λy av=>by
 rcases List.mem_cons.1 av with rfl | av
 ·exact h.pl
 ·exact aL.pl y av⟩
class D2 (G:List (Nat × ab)):Prop where bo:∀ t x,get G t=some x->cS x
instance:D2 []:=⟨λt x h=>by cases h⟩
instance {s:Nat}{x:ab}{G:List (Nat × ab)} [h:ch x] [aL:D2 G]:D2 ((s,x)::G):=⟨λt y av=>by
 simp only [get] at av
 split at av
 ·cases av; exact h.bo
 ·exact aL.bo t y av⟩
class yS (acc:Acc):Prop where bo:∀ e∈acc,∀ x,e.2.2=some x->cS x
instance:yS []:=⟨by simp⟩
instance {k d:Nat}{x:ab}{acc:Acc} [h:ch x] [aL:yS acc]:yS ((k,d,some x)::acc):=⟨λe he y av=>by
 rcases List.mem_cons.1 he with rfl | he
 ·cases av; exact h.bo
 ·exact aL.bo e he y av⟩
instance {k d:Nat}{acc:Acc} [aL:yS acc]:yS ((k,d,none)::acc):=⟨λe he y av=>by
 rcases List.mem_cons.1 he with rfl | he
 ·cases av
 ·exact aL.bo e he y av⟩
theorem ME {G:List (Nat × ab)}{A:Nat->Bool}{acc:Acc} [h:D2 G] [aL:yS acc]:GR (dh (get G) A acc):=by
 have key:∀ t x,dh (get G) A acc t=some x->cS x:=λt x J=>by
  rcases uU J with ⟨e,he,_,_,af⟩ | ⟨_,af⟩
  ·exact aL.bo e he x af
  ·exact h.bo t x af
 exact ⟨λt x J=>.bo (key t x J),λt z q n m new J=>by cases key t _ J⟩
end Go.Own
namespace Go.Own
open Go Go.MapKept Go.ChangeMaps
section
variable {P:Program}{w:World}{I:bc}{T:Array Value}{g g2:aJ}{Fs:Nat->bc}
theorem S7 {w:World}{b:Nat}{es hI:Array MapEntry}{c fj:Nat}(h:w.heap[b]?=some (.map es c)) (a:Addr):(setBlock w b (.map hI fj)).cell? a=w.cell? a:=by
 by_cases e:a.block=b
 ·have h1:(setBlock w b (.map hI fj)).heap[a.block]?=some (.map hI fj):=by rw [e]; exact heap_setBlock_same h _
  have af:w.heap[a.block]?=some (.map es c):=by rw [e]; exact h
  unfold World.cell?
  grind
 ·have h1:(setBlock w b (.map hI fj)).heap[a.block]?=w.heap[a.block]?:=heap_setBlock_other h _ e;unfold World.cell?;rw [h1]
theorem QU {w:World}{b:Nat}{es hI:Array MapEntry}{c fj:Nat}(h:w.heap[b]?=some (.map es c)):∀ (p:List Nat) (v:Value),walk (setBlock w b (.map hI fj)) v p=walk w v p
 | [],v=>rfl
 | k::p,v=>by
  have aa:child (setBlock w b (.map hI fj)) v k=child w v k:=by
   unfold child
   split <;> first | rfl | exact S7 h _
  simp only [walk,aa];cases child w v k with
  | none=>rfl
  | some u=>exact QU h p u
theorem ZV {w:World}{b:Nat}{es hI:Array MapEntry}{c fj:Nat}(h:w.heap[b]?=some (.map es c)) (T:Array Value) (p:Place):dV (setBlock w b (.map hI fj)) T p=dV w T p:=by
 grind [dV,QU]
theorem YC {w:World}{b:Nat}{es hI:Array MapEntry}{c fj:Nat}(h:w.heap[b]?=some (.map es c)) {T:Array Value}{r:ab}{v:Value}(aj:fC w T r v):fC (setBlock w b (.map hI fj)) T r v:=by
 cases r <;> simp only [fC,ZV h] at aj ⊢ <;> exact aj
theorem cD.XQ (bk:cD w I T g Fs) {p:Place}{q fQ:Array MapEntry->Nat->Prop}{b:Nat}{es hI:Array MapEntry}{c fj:Nat}(ar:bz g p=some (.mp q)) (hv:dV w T p=some (.map (some b))) (hm:w.heap[b]?=some (.map es c)) (bg:fQ hI fj)
  (zs:∀ t x,g2 t=some x->ct g p (.mp fQ) t=some x) (n4:∀ t x,g2 t=some x->∀ y,g t=some y->ji (gB g2) y) (lf:∀ t z q n m new,g2 t≠some (.bM z q n m new)) (kd:g2 p.root≠none) :
  ∃ b5,cD (setBlock w b (.map hI fj)) I T g2 b5/\∀ t c,b5 t c->Fs t c:=by
 have o0:∀ k,k≠b->(setBlock w b (.map hI fj)).heap[k]?=w.heap[k]?:=λk hk=>heap_setBlock_other hm _ hk;have DF:(setBlock w b (.map hI fj)).heap[b]?=some (.map hI fj):=heap_setBlock_same hm _;have QS:(setBlock w b (.map hI fj)).heap.size=w.heap.size:=by simp [setBlock]
 have Wp:∀ r v,fC w T r v->fC (setBlock w b (.map hI fj)) T r v:=λr v h=>YC hm h;generalize vE:setBlock w b (.map hI fj)=w' at *;obtain ⟨ez,il⟩:∃ ez,g p.root=some ez:=by
  grind [bz]
 have pk:ez.at p.path=some (.mp q):=by simpa [bz,il] using ar
 obtain ⟨v0,iN,gD⟩:=bk.rel _ _ il;have BC:=gD.gF (by rintro z q n m new rfl; cases (ab.sA pk).2);have lI:ji (gB g2) ez:=by
  cases af:g2 p.root with
  | none=>exact absurd af kd
  | some y=>exact n4 _ _ af _ il
 have qe:=BC.yf lI;obtain ⟨hW,cw,hw,dF,dy,_,kg⟩:=R.focus p.path qe pk;have Js:hW=.map (some b):=by
  grind [dV]
 subst Js;obtain ⟨ec,acg,pa,e,aY,_,ml⟩:=dF.JQ;cases e;have mr:cw b:=(ml b).2 rfl;have vi:∀ c,I c->w'.heap[c]?=w.heap[c]?:=λc aa=>o0 c λe=>bk.bn _ b (dy b mr) (e ▸ aa);have ET:∀ t,t≠p.root->¬ Fs t b:=λt aw h=>aw (bk.eK _ _ _ h (dy b mr));have refs:∀ r u,(dR w T g r u/\gB g2 r)->dR w' T g2 r u:=λr u h=>⟨Wp r u h.1.1,h.2⟩;obtain ⟨c_,ED,pf⟩:=kg w' I (dR w' T g2) (.mp fQ) cw ⟨vi,λc aa aE=>o0 c λe=>aE (e ▸ mr),λ_ h=>h,refs⟩ (.mp DF bg ml) λc h _=>h;have Ez:∀ c,c_ c->Fs p.root c:=λc aa=>by
  grind
 let b5:Nat->bc:=λt c=>if t=p.root then c_ c else g2 t≠none/\Fs t c
 have pg:∀ t c,b5 t c->Fs t c:=by
  grind
 refine ⟨b5,⟨λt x J=>?_,λt aw c aa=>?_,λt t' c aa fp=>bk.eK t t' c (pg t c aa) (pg t' c fp),λt c aa hi=>bk.bn t c (pg t c aa) hi,λc aa=>by rw [QS]; exact bk.lt c aa,λt t' z q n m new bA cB m' c0 h1=>absurd h1 (lf _ _ _ _ _ _)⟩,pg⟩
 ·have gg:=zs t x J;by_cases aw:t=p.root
  ·subst aw;have E2:ez.setAt p.path (.mp fQ)=x:=by simpa [ct,il] using gg
   refine ⟨v0,iN,.tree ?_⟩
   grind
  ·rw [uO aw] at gg;obtain ⟨u,hu,a1⟩:=bk.rel t x gg;replace a1:=a1.gF (by rintro z q n m new rfl; exact lf _ _ _ _ _ _ J);have Bw:b5 t=Fs t:=by
    grind
   refine ⟨u,hu,.tree ?_⟩;rw [Bw];exact (a1.yf (n4 t x J x gg)).frame vi (λ_ h=>h) refs λc aa=>o0 c λe=>ET t aw (e ▸ aa)
 grind
theorem Ua {w:World}{b:Nat}{es hI:Array MapEntry}{c fj:Nat}(h:w.heap[b]?=some (.map es c)) (a:Addr):(setBlock w b (.map hI fj)).frozen? a=w.frozen? a:=by
 unfold World.frozen?
 grind [heap_setBlock_same,heap_setBlock_other]
theorem bl.XR {N:c6}{o:Oper}{t:TypeId}{m x v:Operand}{p:Place}{q fQ:Array MapEntry->Nat->Prop}{Y Z x2:ab}{oc dH:Value}{G2:List (Nat × ab)}(aY:o.op=.mapUpdate t m x v) (aS:o.dst=none) (hm:bs g m=some (.gw p)) (ar:bz g p=some (.mp q)) (J:bs g x=some Y) (av:bs g v=some Z)
  (dj:∀ (w:World) (I:bc) (ρ:ab->Value->Prop) (v:Value),R w I ρ Y v cv->v=oc) (Iq:∀ (w:World) (I:bc) (ρ:ab->Value->Prop) (v:Value),R w I ρ Z v cv->v=dH)
  (aj:∀ (w:World) (b:Nat) (es:Array MapEntry) (c:Nat),w.heap[b]?=some (.map es c)->q es c->∃ hI fj,(Instr.mapUpdate t (.map (some b)) oc dH).run P w=.ok () (setBlock w b (.map hI fj))/\fQ hI fj)
  (iq:ct g p (.mp fQ) p.root=some x2) (kd:(get G2 p.root).isSome=true) {y0:ab}(rb:g p.root=some y0) [e':ch y0] (c9:kJ g (get G2) p.root x2 G2):bl P N g o (get G2):=by
 refine .K0 λw I T Fs h a aR bd K Q zl=>?_;obtain ⟨⟨b,au,hv⟩,_⟩:=(kf h hm aR).OV;obtain ⟨fM,cw,ik,dF,dy⟩:=h.part ar (by simp);have jN:=au;rw [au] at ik;cases ik;obtain ⟨ec,es,c,e,bY,bg,ml⟩:=dF.JQ;cases e;obtain ⟨hI,fj,hK,zx⟩:=aj w ec es c bY bg;have Wt:(execOp a.eval o).run P w=.ok .skip (setBlock w ec (.map hI fj)):=by
  simp [execOp,aY,hv,dj _ _ _ _ (kf h J aR),Iq _ _ _ _ (kf h av aR),hK]
 have c1:∀ t x,get G2 t=some x->ct g p (.mp fQ) t=some x:=λt x J=>by
  rcases c9.spec t x J with ⟨h1,af,_⟩ | ⟨h1,af,_⟩
  ·grind [uO]
  grind
 have c2:∀ t x,get G2 t=some x->∀ y,g t=some y->ji (gB (get G2)) y:=λt x J y av=>by
  rcases c9.spec t x J with ⟨h1,af,aI⟩ | ⟨h1,af,aI⟩
  ·rw [af] at av;cases av;rcases aI with aI | ⟨aI,_⟩
   ·cases aI with
    | n h=>exact .bo h
    | p _ _ bD f'=>exact .ref rfl (uL bD f')
    | r _ _ bD n3=>exact .ref rfl (Az bD n3)
   ·exact ji.ref (by cases aI; rfl) aI.FG
  ·subst h1;rw [rb] at av;cases av;exact .bo e'.bo
 have jM:∀ t z q n m new,get G2 t≠some (.bM z q n m new):=λt z q n m new J=>by
  rcases c9.spec t _ J with ⟨_,_,aI | ⟨aI,_⟩⟩ | ⟨_,_,aI⟩
  ·exact aI.fA _ _ _ _ _ rfl
  ·exact aI.fA _ _ _ _ _ rfl
  ·cases aI
 obtain ⟨b5,dX,gE⟩:=h.XQ (g2:=get G2) ar jN bY zx c1 c2 jM (by intro e; rw [e] at kd; cases kd);unfold Oper.wp Oper.upon;simp only [Wt];refine zl _ _ ⟨by rw [aS]; rfl,by rw [aS]; exact hy.refl,I,b5,by rw [aS]; simpa [Act.put,aR] using dX,⟨⟨rfl,rfl,rfl,by simp [setBlock],λk _ hk=>heap_setBlock_other bY _ λe=>hk ⟨_,e ▸ dy ec ((ml ec).2 rfl)⟩,λa _=>Ua bY a,Nat.le_refl _⟩,λ_ h=>h,λ_ h=>.inl h,λc ⟨t,aa⟩=>.inl ⟨t,gE t c aa⟩⟩⟩ λt _=>by rw [aS]; rfl
end
end Go.Own
namespace Go.Own
open Go Go.MapKept Go.ChangeMaps Go.WideElems
open Go.Maps (Keyed)
set_option linter.unusedVariables false
variable {kl lv:Type}{P:Program}{k e:TypeId}
abbrev yV:Value->Option (DataW Value × List MemPlace):=λv=>some (.held v,[])
def oW [DecidableEq kl]:List (kl × lv)->kl->Option lv
 | [],_=>none
 | p::m,x=>if p.1=x then some p.2 else oW m x
def sj [DecidableEq kl] (ok:kl->Bool) (z:lv) (m:List (kl × lv)) (x:kl):Option lv:=if ok x then some ((oW m x).getD z) else none
def zO (ok:kl->Bool) (m:List (kl × lv)) (x:kl) (y:lv):Option (List (kl × lv)):=if ok x&&decide (m.length<=lim) then some ((x,y)::m) else none
structure A1 (P:Program) (k:TypeId) (kl:Type) where
 oc:kl->Value
 xL:kl->Lit
 Cs:kl->ab
 ok:kl->Bool
 keyed:Keyed P k
 key:∀ x,ok x=true->keyOf P k (oc x)=some (xL x)
 inj:∀ x y,xL x=xL y->x=y
 wK:∀ (x:kl) (w:World) (I:bc) (ρ:ab->Value->Prop) (v:Value),R w I ρ (Cs x) v cv->v=oc x
structure A2 (P:Program) (e:TypeId) (lv:Type) where
 oZ:lv->Value
 AJ:lv->ab
 z:lv
 zero:∀ w,(zeroValue e).run P w=.ok (oZ z) w
 one:∀ x,(oZ x).oneCell'=true
 wK:∀ (x:lv) (w:World) (I:bc) (ρ:ab->Value->Prop) (v:Value),R w I ρ (AJ x) v cv->v=oZ x
 va:∀ (x:lv) (w:World) (I:bc) (ρ:ab->Value->Prop),R w I ρ (AJ x) (oZ x) cv
def yo (P:Program) (k:TypeId) (es:Array MapEntry):List (Lit × DataW Value):=(es.toList.map (rg P k yV)).foldr DataW.insert []
def lA [DecidableEq kl] (K:A1 P k kl) (V:A2 P e lv) (m:List (kl × lv)):Array MapEntry->Nat->Prop:=λes c=>Fit P k yV es c/\es.size<=m.length/\∀ x GL,(DataW.map (yo P k es)).atKey (K.xL x) GL=match oW m x with | some y=>.held (V.oZ y) | none=>GL
variable [DecidableEq kl] {K:A1 P k kl}{V:A2 P e lv}{m m':List (kl × lv)}{x:kl}{y:lv}{t:TypeId}
theorem lA.nil:lA K V [] #[] 0:=⟨⟨by simp,stamped_empty 0,by simp⟩,Nat.le_refl _,λx GL=>rfl⟩
theorem lA.look (ok:Bool) (cQ:K.ok x=true) (aw:P.underlying t=some (.map k e)) (w:World) (b:Nat) (es:Array MapEntry) (c:Nat) (au:w.heap[b]?=some (.map es c)) (h:lA K V m es c) :
  (Instr.lookup t (.map (some b)) (K.oc x) ok).run P w=.ok (if ok then .tuple #[V.oZ ((oW m x).getD V.z),.bool (oW m x).isSome] else V.oZ ((oW m x).getD V.z)) w:=by
 obtain ⟨F,_,gp⟩:=h;have gp:=gp x;rcases Maps.fit_look ok K.keyed aw (V.zero w) au F (K.key x cQ) with ⟨hK,_,af⟩ | ⟨hq,y,_,_,hK,av,af,_⟩
 ·have:oW m x=none:=by
   cases aP:oW m x with
   | none=>rfl
   | some y =>
    have h1:=gp .nil;rw [aP] at h1;have aI:=af .nil;unfold yo at h1;rw [h1] at aI; cases aI
  rw [hK,this]; rfl
 ·cases av;cases aP:oW m x with
  | none =>
   have h1:=gp .nil;rw [aP] at h1;have aI:=af .nil;unfold yo at h1;rw [h1] at aI; cases aI
  | some y =>
   have h1:=gp .nil;rw [aP] at h1;have aI:=af .nil;unfold yo at h1;rw [h1] at aI;have bD:hq.val=V.oZ y:=by simpa using aI.symm
   rw [hK,bD]; rfl
theorem lA.put (aT:zO K.ok m x y=some m') (aw:P.underlying t=some (.map k e)) (w:World) (b:Nat) (es:Array MapEntry) (c:Nat) (au:w.heap[b]?=some (.map es c)) (h:lA K V m es c) :
  ∃ hI fj,(Instr.mapUpdate t (.map (some b)) (K.oc x) (V.oZ y)).run P w=.ok () (setBlock w b (.map hI fj))/\lA K V m' hI fj:=by
 unfold zO at aT
 split at aT
 ·rename_i aa;cases aT;simp only [Bool.and_eq_true,decide_eq_true_eq] at aa;obtain ⟨cQ,ai⟩:=aa;obtain ⟨F,aA,gp⟩:=h;have Od:=K.key x cQ;obtain ⟨hI,fj,hK,c_,nC,_⟩:=Maps.fit_store (R':=yV) K.keyed aw au F (by have:maxLen=9223372036854775807:=rfl; simp only [lim] at ai; omega) (λ_ _ _ _ aX=>aX) Od (rfl:yV (V.oZ y)=some (.held (V.oZ y),[]));refine ⟨hI,fj,hK,c_,?_,λx' GL=>?_⟩
  ·have cu:hI.size=((hI.toList.map (rg P k yV)).foldr DataW.insert []).length:=by rw [length_sorted]; simp
   rw [cu,nC];unfold putKey;rw [length_insert];have cd:=List.length_filter_le (notKey (K.xL x)) ((es.toList.map (rg P k yV)).foldr DataW.insert []);rw [length_sorted] at cd;simp at cd ⊢;omega
  ·have fx:(DataW.map (yo P k hI))=(DataW.map (yo P k es)).put (K.xL x) (.held (V.oZ y)):=by
    rw [DataW.put_eq]; unfold yo; rw [nC]
   rw [fx];by_cases J:x=x'
   ·subst J;rw [Maps.atKey_put_same ⟨_,rfl⟩ (K.keyed.key Od)];simp [oW]
   ·rw [Maps.atKey_put_other (λe=>J (K.inj _ _ e).symm),gp];simp [oW,J]
 ·cases aT
section
variable {N:c6}{g:aJ}{a b c:Operand}{p:Place}{ty:TypeId}
instance {q:Array MapEntry->Nat->Prop}:ch (.mp q):=⟨.mp⟩
instance {q:Array MapEntry->Nat->Prop}:ch (.imp q):=⟨.imp⟩
instance {q:Array MapEntry->Nat->Prop}:p2 (.mp q):=⟨.mp⟩
theorem O.XP (K:A1 P k kl) (V:A2 P e lv):ck P g (.makeMap t none) ty (.mp (lA K V [])):=.ri (.makeMap lA.nil)
theorem O.qu {r:lv}{X Y:ab}(hm:Rd g a (.gw p)) (ar:bz g p=some (.mp (lA K V m))) (J:Rd g b Y) (w9:K.Cs x=Y) (aw:P.underlying t=some (.map k e)) (h:sj K.ok V.z m x=some r) (tR:V.AJ r=X):ck P g (.lookup t a b false) ty X:=by
 subst tR w9;unfold sj at h
 split at h
 ·rename_i cQ;cases h;exact .eU (.Fo hm.bs ar J.bs (K.wK x) (V.va _) λw b es c au bg=>lA.look false cQ aw w b es c au bg)
 ·cases h
theorem O.CA {r:lv}{X Y:ab}(hm:Rd g a (.imp (lA K V m))) (J:Rd g b Y) (w9:K.Cs x=Y) (aw:P.underlying t=some (.map k e)) (h:sj K.ok V.z m x=some r) (tR:V.AJ r=X):ck P g (.lookup t a b false) ty X:=by
 subst tR w9;unfold sj at h
 split at h
 ·rename_i cQ;cases h;exact .eU (.CA hm.bs J.bs (K.wK x) (V.va _) λw b es c au bg=>lA.look false cQ aw w b es c au bg)
 ·cases h
theorem bl.mt {o:Oper}{x2 y0 Y Z:ab}{G2:List (Nat × ab)}(aY:o.op=.mapUpdate t a b c) (aS:o.dst=none) (hm:Rd g a (.gw p)) (ar:bz g p=some (.mp (lA K V m))) (J:Rd g b Y) (w9:K.Cs x=Y) (av:Rd g c Z) (Iq:V.AJ y=Z) (aw:P.underlying t=some (.map k e)) (h:zO K.ok m x y=some m')
  (iq:ct g p (.mp (lA K V m')) p.root=some x2) (kd:(get G2 p.root).isSome=true) (rb:g p.root=some y0) [e':ch y0] (c9:kJ g (get G2) p.root x2 G2):bl P N g o (get G2):=by
 subst w9 Iq;exact .XR aY aS hm.bs ar J.bs av.bs (K.wK x) (V.wK y) (λw b es c au bg=>lA.put h aw w b es c au bg) iq kd rb c9
end
def sh (n:Int):Bool:=decide (-9223372036854775808<=n/\n<9223372036854775808)
def Rt (hk:P.underlying k=some (.int .i64)):A1 P k Int where
 oc n:=.int .i64 n
 xL n:=.int .i64 n
 Cs n:=ae n
 ok:=sh
 keyed:=Maps.int_keyed hk
 key n h:=Maps.keyOf_int_mk hk (by
  unfold sh at h;have:=of_decide_eq_true h;unfold Lit.wf;rw [Bool.and_eq_true];refine ⟨decide_eq_true ?_,decide_eq_true ?_⟩
  ·show (-9223372036854775808:Int)<=n; omega
  ·show n<=(9223372036854775807:Int); omega)
 inj x y h:=by cases h; rfl
 wK x w I ρ v h:=h.ht.1
def Ru (aX:(P.info? e).bind (·.zero)=some (.int .i64 0)):A2 P e Int where
 oZ n:=.int .i64 n
 AJ n:=ae n
 z:=0
 zero w:=Hl aX w
 one _:=rfl
 wK x w I ρ v h:=h.ht.1
 va x w I ρ:=.lit rfl λ_ h=>h
end Go.Own
namespace Go.Own
open Go
section
variable {α:Type}{P:Program}{N:c6}{g:aJ}{d r:Nat}{ty t t2 e:TypeId}{a b:Operand}{k ke:IntKind}{m n:Int}{p:Place}
def OR (L:List α) (m:Int):Option Unit:=if 0<=m/\m<=L.length then some () else none
instance:lz al:=⟨λx=>[.int .i64 x],λ_=>rfl,λx v hv=>by rw [List.mem_singleton.1 hv]; rfl⟩
theorem O.Qw {en:bI α}{L:List α}{u:Unit}(J:Rd g a (.a6 en.z p L.length)) (ai:Rd g b (.lit (.int k m))) (ar:bz g p=some (ak en L)) (aw:ft P t e en.z=true) (h:OR L m=some u):ck P g (.slice t a (some b) none none) ty (.sub en.z p m.toNat (L.length - m.toNat)):=by
 unfold OR at h
 split at h
 ·rename_i aa;obtain ⟨i,rfl⟩:=Int.eq_ofNat_of_zero_le aa.1;exact .eU (.Gg J.bs ⟨_,ai.bs⟩ rfl aw (by omega) (Nat.le_refl _) ⟨_,_,ar,by omega⟩)
 ·cases h
def MK (lo nd:Nat) (L S:List α):Option (List α):=if 0<min S.length nd/\lo+nd<=L.length then some (L.take lo++S.take (min S.length nd)++L.drop (lo+min S.length nd)) else none
def CE (e:bI α) [h:lz e] (L:List α):List Value:=L.flatMap h.rD
theorem Kf (e:bI α) [h:lz e] (L:List α):bp e L=(CE e L).map .lit:=by
 induction L with
 | nil=>rfl
 | cons x L aU =>
  have:bp e (x::L)=e.cells x++bp e L:=by simp [bp]
  rw [this,aU,h.cells];simp [CE]
theorem Ry.bn {en:bI α}{S:List α}:Src g (ah en S) en.z S.length (bp en S):=.bn
theorem Ry.a6 {en:bI α} [lz en] {L:List α}{q:Place}{n:Nat}(bg:bz g q=some (ak en L)) (aE:n<=L.length):Src g (.a6 en.z q n) en.z (L.take n).length (bp en (L.take n)):=by
 have h1:(L.take n).length=n:=by rw [List.length_take]; omega
 have af:bp en (L.take n)=(((bp en L).take (n * en.z)).mapIdx λi x=>gq 0 (q.push i) x):=by
  rw [yg,Kf];apply List.ext_getElem?;intro j;rw [List.getElem?_mapIdx];cases ag:((CE en (L.take n)).map ab.lit)[j]? with
  | none=>rfl
  | some y =>
   obtain ⟨v,_,rfl⟩:=List.mem_map.1 (List.mem_of_getElem? ag);rfl
 rw [h1,af];exact .a6 bg aE
theorem Zb {z:Nat}(h:ft P t e z=true):(P.info? e).map (·.size)=some z:=by
 grind [ft]
theorem bl.bm {o:Oper}{en:bI α} [ai:lz en] {L S L':List α}{lo nd:Nat}{Lj jJ:ab}{G2:List (Nat × ab)}(aY:o.op=.call { callee:=.builtin .copy,args:=#[a,b],argTypes:=#[t,t2] }) (aS:o.dst=some d) (aR:bs g a=some Lj) (Xk:Lj=.sub en.z ⟨r,[]⟩ lo nd\/(Lj=.a6 en.z ⟨r,[]⟩ nd/\lo=0)) (au:bs g b=some jJ)
  (r_:Src g jJ en.z S.length (bp en S)) (aA:g r=some (ak en L)) (zG:en.z=1) (aw:ft P t e 1=true) (h:MK lo nd L S=some L') (kd:(get G2 r).isSome=true) (c9:kJ g (get G2) r (ak en L') G2) (vq:get G2 d=none) (bd:N.ok d=true) :
  bl P N g o (get ((d,ae ((min S.length nd:Nat):Int))::G2)):=by
 unfold MK at h;by_cases aa:0<min S.length nd/\lo+nd<=L.length
 case neg=>rw [if_neg aa] at h; cases h
 rw [if_pos aa] at h;obtain ⟨lI,ac2⟩:=aa;cases h;generalize hk:min S.length nd=k at *;have ac1:k<=S.length:=by omega
 have ac3:k<=nd:=by omega
 refine .K0 λw I T Fs h b' zn UX K Q zl=>?_;obtain ⟨hu,he,fV⟩:=qG (w:=w) aw;have ar:bz g ⟨r,[]⟩=some (ak en L):=by simp [bz,aA,ab.at]
 have NJ:=kf h aR zn;obtain ⟨v0,cw,iN,dF,dy⟩:=h.part ar (by simp);obtain ⟨a0,aal,rfl,la,hlen,q9,q'⟩:=dF.ng;have US:0<L.length:=by omega
 cases a0 with
 | none=>have:=q' US; simp at this
 | some LW =>
 obtain ⟨BZ,B0⟩:=q9 LW rfl;obtain ⟨g0,adz,adB⟩:=LW;simp only at BZ B0;subst BZ B0;have mr:cw g0:=dF.qw g0 rfl
 -- the target
 have II:∃ cap,b'.eval a=.slice (some ⟨g0,lo,none⟩) nd cap:=by
  rcases Xk with rfl | ⟨rfl,rfl⟩
  ·obtain ⟨⟨lB,u2,pa,aF,c1,h1,af,_,_,cF⟩,_⟩:=NJ.xC;rw [h1] at iN;cases iN;obtain ⟨ad,cu,cd⟩:=cF (by omega);cases cu;rw [af,cd,zG];exact ⟨c1,by simp⟩
  ·obtain ⟨⟨lB,u2,pa,h1,af,_⟩,_⟩:=NJ.m_;rw [h1] at iN;cases iN;exact ⟨_,af⟩
 obtain ⟨TH,II⟩:=II
 -- the source
 obtain ⟨Du,YZ,news,vA,Jc,B_,l2,gR,hj,a1⟩:=r_.sound h (kf h au zn);rw [zG,Nat.mul_one] at Jc;cases Du with
 | none=>have:=B_ (by omega) (by omega); simp at this
 | some Qd =>
 have ada:news=CE en S:=by
  rw [Kf,List.length_map] at gR;apply List.ext_getElem gR.symm;intro j h1 af;have:=(a1 j (.lit (CE en S)[j]) news[j] (by rw [Kf,List.getElem?_map,List.getElem?_eq_getElem af]; rfl) (List.getElem?_eq_getElem h1)).ht.1;exact this
 -- the block
 cases dF with
 | ref J=>simp [ab.isRef] at J
 | @own _ _ _ _ cf us bL _ qi hQ h1 aj mu iL aO =>
 obtain ⟨l4,bY⟩:=qi;rcases bY with ⟨bY,_⟩ | ⟨ec,cap,cur,bY,s',lr,Ay,yb,Dq,Dr⟩
 ·cases bY
 cases bY;have NU:L.length<=cur.size:=by
  have w8:(cur.toList.take (L.length * en.z)).length=L.length * en.z:=by rw [Dr,l4]
  rw [List.length_take,zG,Nat.mul_one,Array.length_toList] at w8;rw [zG] at Dq;omega
 have EH:(news.take k).length=k:=by rw [List.length_take]; omega
 have hK:(execOp b'.eval o).run P w=.ok (.value (goInt k)) (w.setRow g0 (e8 cur.toList lo (news.take k)).toArray):=by
  have rW:=run_copy_row (P:=P) w t t2 o.type e g0 lo nd TH Qd S.length YZ cur cf (news.take k) hu (Zb aw) lr (by rw [EH]; exact hk.symm) (λj v ag=>by
   rw [List.getElem?_take] at ag
   split at ag
   ·exact l2 Qd rfl j v ag
   ·cases ag) (by rw [EH]; omega) (λv hv=>by
   obtain ⟨j,ag⟩:=List.getElem?_of_mem (List.mem_of_mem_take hv);exact hj j v ag)
  rw [EH] at rW;have q2:(cur.toList.take lo++news.take k++cur.toList.drop (lo+k))=e8 cur.toList lo (news.take k):=by unfold e8; rw [EH]
  rw [q2] at rW;simp [execOp,aY,resolve,invoke,II,vA,builtin,rW]
 -- the state
 have Wq:∀ (j:Nat) (x:ab) (u:Value),((bp en S).take k)[j]?=some x->(news.take k)[j]?=some u->R w I (fC w T) x u cv:=λj x u J hu=>by
  rw [List.getElem?_take] at J hu
  split at J
  ·rename_i ag;rw [if_pos ag] at hu;exact (a1 j x u J hu).frame (λ_ _=>rfl) (λ_ h=>h) (λ_ _ h=>h.1) λ_ _=>rfl
  ·cases J
 have hH:Hand w I (fC w T) Fs ((bp en S).take k) (news.take k) (λ_=>cv) :=
  ⟨by rw [List.length_take,List.length_take,gR],Wq,λ_ _ _ _ _ h=>h.elim,λ_ _ _ _ h=>h.elim,λ_ _ _ h=>h.elim⟩
 have NT:((bp en S).take k).length=k:=by rw [List.length_take,gR]; omega
 have UR:(bp en L).length=L.length:=by rw [ni,zG,Nat.mul_one]
 have r6:(ak en L).e8 lo ((bp en S).take k)=ak en (L.take lo++S.take k++L.drop (lo+k)):=by
  show ab.own en.z L.length (e8 (bp en L) lo ((bp en S).take k))=_;have cu:e8 (bp en L) lo ((bp en S).take k)=bp en (L.take lo++S.take k++L.drop (lo+k)):=by
   unfold e8;rw [NT,F3,F3];have lq:=yg en L lo;have FV:=yg en S k;have Dp:=AD en L (lo+k);rw [zG,Nat.mul_one] at lq FV Dp;rw [lq,FV,Dp]
  unfold ak;rw [cu];congr 1;simp; omega
 have Wh:∀ (j:Nat) (u:Value),(news.take k)[j]?=some u->u.oneCell'=true:=λj u hu=>by
  rw [List.getElem?_take] at hu
  split at hu
  ·exact hj j u hu
  ·cases hu
 have c1:∀ t x,get G2 t=some x->ct g ⟨r,[]⟩ ((ak en L).e8 lo ((bp en S).take k)) t=some x:=λt x J=>by
  rw [r6];rcases c9.spec t x J with ⟨h1,af,_⟩ | ⟨h1,af,_⟩
  ·rw [uO h1]; exact af
  ·subst h1 af; simp [ct,aA,ab.setAt]
 have c2:∀ t x,get G2 t=some x->∀ y,g t=some y->ji (λq=>gB g q/\Clear ⟨r,[]⟩ lo ((bp en S).take k).length q/\gB (get G2) q) y:=λt x J y av=>by
  rcases c9.spec t x J with ⟨h1,af,aI⟩ | ⟨h1,af,aI⟩
  ·rw [af] at av; cases av;rcases aI with aI | ⟨_,c2,TO⟩
   ·exact aI.KK
   ·cases TO
  ·subst h1; rw [aA] at av; cases av; exact .bo (.own (pN en L))
 have jM:∀ t z q n m new,get G2 t≠some (.bM z q n m new):=λt z q n m new J=>by
  rcases c9.spec t _ J with ⟨_,_,aI | ⟨aI,_⟩⟩ | ⟨_,_,aI⟩
  ·exact aI.fA _ _ _ _ _ rfl
  ·exact aI.fA _ _ _ _ _ rfl
  ·cases aI
 obtain ⟨iV,h4,gE⟩:=h.mC.store (g2:=get G2) ar (.inl rfl) (k:=lo) (cs':=(bp en S).take k) (by rw [NT,UR]; omega) hH (λx J=>pN en S x (List.mem_of_mem_take J)) Wh c1 c2 jM (by intro e; rw [e] at kd; cases kd) iN rfl lr;have nC:=h4.uK (d:=d) (x:=ae (k:Int)) (v:=goInt k) (F:=cv) vq (by rw [<- zn,UX]; exact c6.lt bd) (.tree (.lit rfl λ_ h=>h)) (λ_ _ h=>h.elim) (λ_ h=>h.elim) (by rintro z p n m new e; cases e);unfold Oper.wp Oper.upon;simp only [hK];have q2:get ((d,ae (k:Int))::G2)=cT (get G2) d (ae (k:Int)):=by
  funext t;rw [sE]
 rw [<- q2] at nC;have tZ:∃ t,Fs t g0:=⟨_,dy g0 mr⟩;refine zl _ _ ⟨by rw [aS]; rfl,by rw [aS]; exact hy.put bd _ _,I,_,by rw [aS]; simpa [Act.put,zn] using nC,⟨⟨rfl,rfl,rfl,by simp,λc _ aa=>setRow_other w g0 c _ (λe=>aa (e ▸ tZ)),λa _=>HV w g0 _ a,Nat.le_refl _⟩,λ_ h=>h,λ_ h=>.inl h,λc aa=>?_⟩⟩ λt aw=>by rw [aS]; simp only [Act.put]; rw [Array.getElem?_setIfInBounds_ne]; rintro rfl; exact aw aS
 obtain ⟨t,aa⟩:=aa;simp only [uT] at aa
 split at aa
 ·exact aa.elim
 ·rcases gE t c aa with ig | ⟨_,_,ig⟩
  ·exact .inl ⟨t,ig⟩
  ·exact ig.elim
end
end Go.Own
namespace Go.Own
open Go
def F2 (ev:List Nat) (o:Oper):Oper:=⟨o.dst,o.op,o.type,o.pos,o.after.map λe=>⟨ev.idxOf e.on,e.ground⟩,o.guard.map λp=>(ev.idxOf p.1,p.2)⟩
def lp (ev:List Nat) (l:List Oper):List Oper:=ev.map λk=>F2 ev (l.getD k default)
def Kw (ev:List Nat) (n:Nat):Bool:=Nat.beq ev.length n&&(List.range n).all λk=>ev.contains k&&Nat.blt (ev.getD k n) n&&Nat.beq (ev.idxOf (ev.getD k n)) k
structure Perm (ev:List Nat) (n:Nat):Prop where
 len:ev.length=n
 mem:∀ k,k<n->ev.idxOf k<n/\ev.getD (ev.idxOf k) n=k
 lt:∀ j,j<n->ev.getD j n<n/\ev.idxOf (ev.getD j n)=j
theorem Ym {ev:List Nat}{n:Nat}(h:Kw ev n=true):Perm ev n:=by
 unfold Kw at h;simp only [Bool.and_eq_true,Nat.beq_eq,List.all_eq_true,List.mem_range,Nat.blt_eq] at h;obtain ⟨ai,hJ⟩:=h;refine ⟨ai,λk hk=>?_,λj ag=>⟨(hJ j ag).1.2,(hJ j ag).2⟩⟩
 grind
section
variable {P:Program}{Q:Exit->Act->World->Prop}{ev:List Nat}{l:List Oper}
theorem Kx (jQ:Perm ev l.length) {j:Nat}(ag:j<l.length):(lp ev l).toArray[j]?=some (F2 ev (l.getD (ev.getD j l.length) default))/\l.toArray[ev.getD j l.length]?=some (l.getD (ev.getD j l.length) default):=by
 have h1:j<ev.length:=by rw [jQ.len]; exact ag
 have af:=(jQ.lt j ag).1
 grind [lp]
theorem PJ (jQ:Perm ev l.length) {A B:Array Bool}(ek:A.size=l.length) (eH:B.size=l.length) (sG:∀ j,j<l.length->B.getD j true=A.getD (ev.getD j l.length) true) {j:Nat}(ag:j<l.length) :
  ev.getD j l.length∈Region.ready .any l.toArray A↔j∈Region.ready .any (lp ev l).toArray B:=by
 obtain ⟨h1,af⟩:=Kx jQ ag;have adC:∀ {C:Array Bool}{k:Nat},k<C.size->C.getD k false=C.getD k true:=λ{C k} h=>by simp [Array.getD,h]
 have gone:∀ {C:Array Bool}{k:Nat},¬ k<C.size->C.getD k false=false:=λ{C k} h=>by simp [Array.getD,h]
 have MV:∀ m,A.getD m false=true↔B.getD (ev.idxOf m) false=true:=λm=>by
  by_cases hm:m<l.length
  ·obtain ⟨aI,bD⟩:=jQ.mem m hm
   grind
  ·have cF:¬ ev.idxOf m<l.length:=λh=>by
    have dS:=List.idxOf_lt_length_iff.1 (by rw [jQ.len]; exact h);obtain ⟨i,hi,e⟩:=List.mem_iff_getElem.1 dS;have:=(jQ.lt i (by rw [<- jQ.len]; exact hi)).1
    grind
   grind
 rw [mem_ready,mem_ready,sG j ag];constructor
 ·rintro ⟨a,o,aY,h⟩;rw [af] at aY;cases aY;refine ⟨a,_,h1,λe he au=>?_⟩;obtain ⟨hq,VN,rfl⟩:=Array.mem_map.1 he;exact (MV _).1 (h hq VN au)
 ·rintro ⟨a,o,aY,h⟩;rw [h1] at aY;cases aY;refine ⟨a,_,af,λe he au=>?_⟩;exact (MV _).2 (h ⟨ev.idxOf e.on,e.ground⟩ (Array.mem_map.2 ⟨e,he,rfl⟩) au)
theorem Yo (jQ:Perm ev l.length) (o:Oper) (T:Array Value):Region.wanted (F2 ev o) (yielded (lp ev l).toArray T)=Region.wanted o (yielded l.toArray T):=by
 unfold Region.wanted F2;cases aP:o.guard with
 | none=>rfl
 | some p =>
  obtain ⟨m,b⟩:=p;simp only [Option.map_some];have:yielded (lp ev l).toArray T (ev.idxOf m)=yielded l.toArray T m:=by
   unfold yielded;by_cases hm:m<l.length
   ·obtain ⟨aI,bD⟩:=jQ.mem m hm;obtain ⟨h1,af⟩:=Kx jQ aI;rw [bD] at h1 af;rw [h1,af];rfl
   ·have cF:¬ ev.idxOf m<l.length:=λh=>by
     have dS:=List.idxOf_lt_length_iff.1 (by rw [jQ.len]; exact h);obtain ⟨i,hi,e⟩:=List.mem_iff_getElem.1 dS;have:=(jQ.lt i (by rw [<- jQ.len]; exact hi)).1
     grind
    have cu:(lp ev l).toArray[ev.idxOf m]?=none:=by
     rw [List.getElem?_toArray];exact List.getElem?_eq_none (by simp [lp,jQ.len]; omega)
    grind
  rw [this]
theorem Yn (jQ:Perm ev l.length):∀ (fuel:Nat) (A B:Array Bool) (a:Act) (w:World),A.size=l.length->B.size=l.length->(∀ j,j<l.length->B.getD j true=A.getD (ev.getD j l.length) true) ->
  wpAny P .any (lp ev l).toArray Q fuel B a w->wpAny P .any l.toArray Q fuel A a w:=by
 have lift:∀ {A B:Array Bool},A.size=l.length->B.size=l.length->(∀ j,j<l.length->B.getD j true=A.getD (ev.getD j l.length) true)->∀ k,k∈Region.ready .any l.toArray A->∃ j,j<l.length/\ev.getD j l.length=k/\j∈Region.ready .any (lp ev l).toArray B:=λ{A B} ek eH sG k hk=>by
  have fq:k<l.length:=by
   grind [mem_ready]
  obtain ⟨aI,bD⟩:=jQ.mem k fq
  grind [PJ]
 have nil:∀ {A B:Array Bool},A.size=l.length->B.size=l.length->(∀ j,j<l.length->B.getD j true=A.getD (ev.getD j l.length) true)->Region.ready .any l.toArray A=[]->Region.ready .any (lp ev l).toArray B=[]:=λ{A B} ek eH sG h=>by
  cases aj:Region.ready .any (lp ev l).toArray B with
  | nil=>rfl
  | cons j r =>
   have ag:j∈Region.ready .any (lp ev l).toArray B:=by rw [aj]; simp
   have e0:j<l.length:=by
    grind [mem_ready]
   have:=(PJ jQ ek eH sG e0).2 ag
   grind
 intro fuel
 induction fuel with
 | zero =>
  intro A B a w ek eH sG h;refine ⟨?_,h.2⟩;cases aj:Region.ready .any l.toArray A with
  | nil=>rfl
  | cons k r =>
   obtain ⟨j,_,_,ag⟩:=lift ek eH sG k (by rw [aj]; simp);rw [h.1] at ag;cases ag
 | succ fuel aU =>
  intro A B a w ek eH sG h;refine ⟨λaj=>h.1 (nil ek eH sG aj),λk hk=>?_⟩;obtain ⟨j,e0,rfl,ag⟩:=lift ek eH sG k hk;have aA:=h.2 j ag;obtain ⟨h1,af⟩:=Kx jQ e0;have Uz:∀ i,i<l.length->(B.setIfInBounds j true).getD i true=(A.setIfInBounds (ev.getD j l.length) true).getD (ev.getD i l.length) true:=λi hi=>by
   have aQ:=(jQ.lt j e0).1;have I7:=(jQ.lt i hi).1;have e:∀ (C:Array Bool) (p q:Nat),p<C.size->q<C.size->(C.setIfInBounds p true).getD q true=if q=p then true else C.getD q true:=λC p q ar bg=>by
    by_cases h:q=p
    ·simp_all
    ·rw [if_neg h];simp [Array.getD,bg,Array.getElem_setIfInBounds_ne,Ne.symm h]
   rw [e B j i (by omega) (by omega),e A _ _ (by omega) (by omega),sG i hi];by_cases h:i=j
   ·grind
   ·rw [if_neg h,if_neg];intro aL;have:=(jQ.lt i hi).2;rw [aL,(jQ.lt j e0).2] at this
    grind
  have mono:∀ a w,wpAny P .any (lp ev l).toArray Q fuel (B.setIfInBounds j true) a w->wpAny P .any l.toArray Q fuel (A.setIfInBounds (ev.getD j l.length) true) a w:=λa w aL=>aU _ _ a w (by simpa using ek) (by simpa using eH) Uz aL;unfold wpOp at aA ⊢;rw [af];rw [h1] at aA;simp only [Yo jQ] at aA;show if Region.wanted (l.getD (ev.getD j l.length) default) (yielded l.toArray a.tmps)=true then _ else _
  split
  ·rename_i hw;rw [if_pos hw] at aA;exact aA.imp (λaL=>Oper.wp_mono mono aL) id
  ·rename_i hw;rw [if_neg hw] at aA;exact mono _ _ aA
end
section
variable {P:Program}{N:c6}
theorem W.YA {id:Nat}{l:List Oper}{G:List (Nat × ab)}{Φ:Exit->aJ->Prop}(ev:List Nat) (bf:List (List Nat)) (G1:List (Nat × ab)) (hm:P.follows .mixedOrders=true) (ek:o' (lp ev l).toArray bf=true) (jQ:Kw ev l.length=true)
  (h:bw P N (lp ev l).toArray bf (get G) 0 [] (lp ev l) λg'=>j4 g' (get G1)) (hk:aB .normal Φ G1):W P N (.region id l.toArray true) (get G) Φ:=by
 have ar:=Ym jQ;obtain ⟨g',h1,af⟩:=h [] 0 .nil .nil (by simp);have fV:(lp ev l).toArray.size=l.length:=by simp [lp,ar.len]
 refine gf.w (g':=g') (e:=.normal) ?_ (hk g' (.eY af .hU));intro Q a w I Fs bk bd dM;refine wp_region_any hm ?_;have dX:cD w.drew I a.tmps (get G) Fs:=bk.world (λ_ _ _=>rfl) (λ_ _=>rfl) (Nat.le_refl _);have hJ:∀ k,dt (Array.replicate (lp ev l).toArray.size false) k=false:=by
  intro k;unfold dt;rcases Nat.lt_or_ge k (lp ev l).toArray.size with h | h
  ·simp_all
  grind
 refine Yn ar _ _ (Array.replicate l.length false) a w.drew (by simp) (by simp) (λj ag=>?_) ?_
 ·have:=(ar.lt j ag).1
  simp_all
 have w8:=h1.sound ek .nil (lp ev l).toArray.size (Array.replicate (lp ev l).toArray.size false) a w.drew I Fs ?_ (by simp) (λk hk=>by omega) (λk _=>hJ k) (λk hk=>by rw [hJ] at hk; cases hk) dX bd (λb' w' aE=>dM _ _ ?_)
 ·grind
 ·grind [hg]
 ·obtain ⟨cu,cd,I',b5,h4,b0⟩:=aE;exact ⟨cu,cd,I',b5,h4,⟨⟨b0.eR.os,b0.eR.tape,b0.eR.output,b0.eR.size,b0.eR.block,b0.eR.dL,Nat.le_trans (Nat.le_succ _) b0.eR.w2⟩,b0.more,b0.new,b0.own⟩⟩
end
end Go.Own
namespace Go.Own
open Go
section
variable {α:Type}{P:Program}{N:c6}{g:aJ}{a b:Operand}{t:TypeId}{m i:Int}
end
end Go.Own
namespace Go.Own
open Go
section
variable {P:Program}{N:c6}{ops:Array Oper}{bf:List (List Nat)}{acc:Acc}{l:List Oper}{K:aJ->Prop}{i d:Nat}
theorem bw.Mk (bG:Nat) {G G2:List (Nat × ab)}{o:Oper}{x:ab}(he:iw P N (dh (get G) (λm=>(bf.getD bG []).contains m) acc) o (cT (get G2) d x)) (aP:o.guard=none) (gN:CG (acc.filterMap jT)=true) (fH:l7 G=true) (ag:Nat.beq ops.size (bG+l.length+1)=true)
  (f_:acc.filter (λe=>!(bf.getD bG []).contains e.1)=[])
  (au:(List.range ops.size).all (λk=>Nat.ble k bG||(bf.getD k []).contains bG)=true) (hk:bw P N ops bf (get ((d,x)::G2)) (bG+1) [] l K):bw P N ops bf (get G) i acc (o::l) K :=
 .wQ bG (sE ▸ he) aP gN fH ag f_ au hk
end
end Go.Own
namespace Go.Proofs
open Tryz
open Go Go.Shelf Go.RowKit Go.Lib Go.Sort Go.Own
def Tryz.Zi:Go.Shelf.Ren:=⟨fun | 6=>56 | 15=>75 | 14=>74 | 28=>101 | 29=>102 | 20=>93 | 21=>94 | 22=>95 | 23=>96 | 24=>97 | 25=>98 | 26=>99 | 27=>100 | 46=>128 | 47=>129 | 48=>130 | 49=>131 | 50=>132 | 57=>142 | n=>n,fun | 22=>47 | 24=>111 | 25=>130 | 3=>3 | 39=>160 | 0=>0 | 53=>190 | 55=>192 | 4=>4 | 46=>184 | 45=>183 | 50=>59 | 5=>5 | 9=>9 | 66=>217 | 70=>221 | 76=>230 | 77=>176 | n=>n,fun | n=>n⟩
theorem Tryz.Zh:Go.Proofs.SlLaysF0.n6 prog Tryz.Zi:={
 mixed:=by kernel_rfl
 f6:=⟨Tryz.f56.name,by decide,func56.trans (congrArg some (by kernel_rfl))⟩
 f14:=⟨Tryz.f74.name,by decide,func74.trans (congrArg some (by kernel_rfl))⟩
 f15:=func75.trans (congrArg some (by kernel_rfl))
 f20:=⟨Tryz.f93.name,by decide,func93.trans (congrArg some (by kernel_rfl))⟩
 f21:=⟨Tryz.f94.name,by decide,func94.trans (congrArg some (by kernel_rfl))⟩
 f22:=⟨Tryz.f95.name,by decide,func95.trans (congrArg some (by kernel_rfl))⟩
 f23:=⟨Tryz.f96.name,by decide,func96.trans (congrArg some (by kernel_rfl))⟩
 f24:=⟨Tryz.f97.name,by decide,func97.trans (congrArg some (by kernel_rfl))⟩
 f25:=⟨Tryz.f98.name,by decide,func98.trans (congrArg some (by kernel_rfl))⟩
 f26:=⟨Tryz.f99.name,by decide,func99.trans (congrArg some (by kernel_rfl))⟩
 f27:=⟨Tryz.f100.name,by decide,func100.trans (congrArg some (by kernel_rfl))⟩
 f28:=func101.trans (congrArg some (by kernel_rfl))
 f29:=func102.trans (congrArg some (by kernel_rfl))
 f46:=⟨Tryz.f128.name,by decide,func128.trans (congrArg some (by kernel_rfl))⟩
 f47:=func129.trans (congrArg some (by kernel_rfl))
 f48:=func130.trans (congrArg some (by kernel_rfl))
 f49:=⟨Tryz.f131.name,by decide,func131.trans (congrArg some (by kernel_rfl))⟩
 f50:=⟨Tryz.f132.name,by decide,func132.trans (congrArg some (by kernel_rfl))⟩
 f57:=⟨Tryz.f142.name,by decide,func142.trans (congrArg some (by kernel_rfl))⟩
 t0:=Tryz.underlying0
 a0:=Tryz.isAgg0
 z0:=Tryz.sizeOf0
 v0:=Tryz.zeroValue0
 t3:=Tryz.underlying3
 a3:=Tryz.isAgg3
 z3:=Tryz.sizeOf3
 v3:=Tryz.zeroValue3
 t4:=Tryz.underlying4
 a4:=Tryz.isAgg4
 z4:=Tryz.sizeOf4
 v4:=Tryz.zeroValue4
 t5:=Tryz.underlying5
 a5:=Tryz.isAgg5
 z5:=Tryz.sizeOf5
 v5:=Tryz.zeroValue5
 t9:=Tryz.underlying9
 a9:=Tryz.isAgg9
 z9:=Tryz.sizeOf9
 v9:=Tryz.zeroValue9
 t22:=Tryz.underlying47
 a22:=Tryz.isAgg47
 z22:=Tryz.sizeOf47
 v22:=Tryz.zeroValue47
 t25:=Tryz.underlying130
 a25:=Tryz.isAgg130
 z25:=Tryz.sizeOf130
 v25:=Tryz.zeroValue130
 t39:=Tryz.underlying160
 a39:=Tryz.isAgg160
 z39:=Tryz.sizeOf160
 v39:=Tryz.zeroValue160
 t45:=Tryz.underlying183
 a45:=Tryz.isAgg183
 z45:=Tryz.sizeOf183
 v45:=Tryz.zeroValue183
 t46:=Tryz.underlying184
 a46:=Tryz.isAgg184
 z46:=Tryz.sizeOf184
 v46:=Tryz.zeroValue184
 t50:=Tryz.underlying59
 a50:=Tryz.isAgg59
 z50:=Tryz.sizeOf59
 v50:=Tryz.zeroValue59
 t53:=Tryz.underlying190
 a53:=Tryz.isAgg190
 z53:=Tryz.sizeOf190
 v53:=Tryz.zeroValue190
 t55:=Tryz.underlying192
 a55:=Tryz.isAgg192
 z55:=Tryz.sizeOf192
 v55:=Tryz.zeroValue192
 t66:=Tryz.underlying217
 a66:=Tryz.isAgg217
 z66:=Tryz.sizeOf217
 v66:=Tryz.zeroValue217
 t70:=Tryz.underlying221
 a70:=Tryz.isAgg221
 z70:=Tryz.sizeOf221
 v70:=Tryz.zeroValue221
 t76:=Tryz.underlying230
 a76:=Tryz.isAgg230
 z76:=Tryz.sizeOf230
 v76:=Tryz.zeroValue230
 t77:=Tryz.underlying176
 a77:=Tryz.isAgg176
 z77:=Tryz.sizeOf176
 v77:=Tryz.zeroValue176 }
def Tryz.Ze:Go.Shelf.Ren:=⟨fun | 6=>70 | 15=>75 | 14=>90 | 28=>101 | 29=>102 | 20=>119 | 21=>120 | 22=>121 | 23=>122 | 24=>123 | 25=>124 | 26=>125 | 27=>126 | 46=>139 | 47=>129 | 48=>130 | 49=>140 | 50=>141 | 57=>147 | n=>n,fun | 22=>27 | 24=>3 | 25=>85 | 3=>3 | 39=>160 | 0=>0 | 53=>190 | 55=>192 | 4=>4 | 46=>184 | 45=>183 | 50=>59 | 5=>5 | 9=>9 | 66=>217 | 70=>221 | 76=>230 | 77=>176 | n=>n,fun | n=>n⟩
theorem Tryz.K5:Go.Proofs.SlLaysF.n6 prog Tryz.Ze:={
 mixed:=by kernel_rfl
 f6:=⟨Tryz.f70.name,by decide,func70.trans (congrArg some (by kernel_rfl))⟩
 f14:=⟨Tryz.f90.name,by decide,func90.trans (congrArg some (by kernel_rfl))⟩
 f15:=func75.trans (congrArg some (by kernel_rfl))
 f20:=⟨Tryz.f119.name,by decide,func119.trans (congrArg some (by kernel_rfl))⟩
 f21:=⟨Tryz.f120.name,by decide,func120.trans (congrArg some (by kernel_rfl))⟩
 f22:=⟨Tryz.f121.name,by decide,func121.trans (congrArg some (by kernel_rfl))⟩
 f23:=⟨Tryz.f122.name,by decide,func122.trans (congrArg some (by kernel_rfl))⟩
 f24:=⟨Tryz.f123.name,by decide,func123.trans (congrArg some (by kernel_rfl))⟩
 f25:=⟨Tryz.f124.name,by decide,func124.trans (congrArg some (by kernel_rfl))⟩
 f26:=⟨Tryz.f125.name,by decide,func125.trans (congrArg some (by kernel_rfl))⟩
 f27:=⟨Tryz.f126.name,by decide,func126.trans (congrArg some (by kernel_rfl))⟩
 f28:=func101.trans (congrArg some (by kernel_rfl))
 f29:=func102.trans (congrArg some (by kernel_rfl))
 f46:=⟨Tryz.f139.name,by decide,func139.trans (congrArg some (by kernel_rfl))⟩
 f47:=func129.trans (congrArg some (by kernel_rfl))
 f48:=func130.trans (congrArg some (by kernel_rfl))
 f49:=⟨Tryz.f140.name,by decide,func140.trans (congrArg some (by kernel_rfl))⟩
 f50:=⟨Tryz.f141.name,by decide,func141.trans (congrArg some (by kernel_rfl))⟩
 f57:=⟨Tryz.f147.name,by decide,func147.trans (congrArg some (by kernel_rfl))⟩
 t0:=Tryz.underlying0
 a0:=Tryz.isAgg0
 z0:=Tryz.sizeOf0
 v0:=Tryz.zeroValue0
 t3:=Tryz.underlying3
 a3:=Tryz.isAgg3
 z3:=Tryz.sizeOf3
 v3:=Tryz.zeroValue3
 t4:=Tryz.underlying4
 a4:=Tryz.isAgg4
 z4:=Tryz.sizeOf4
 v4:=Tryz.zeroValue4
 t5:=Tryz.underlying5
 a5:=Tryz.isAgg5
 z5:=Tryz.sizeOf5
 v5:=Tryz.zeroValue5
 t9:=Tryz.underlying9
 a9:=Tryz.isAgg9
 z9:=Tryz.sizeOf9
 v9:=Tryz.zeroValue9
 t22:=Tryz.underlying27
 a22:=Tryz.isAgg27
 z22:=Tryz.sizeOf27
 v22:=Tryz.zeroValue27
 a24:=Tryz.isAgg3
 z24:=Tryz.sizeOf3
 t25:=Tryz.underlying85
 a25:=Tryz.isAgg85
 z25:=Tryz.sizeOf85
 v25:=Tryz.zeroValue85
 t39:=Tryz.underlying160
 a39:=Tryz.isAgg160
 z39:=Tryz.sizeOf160
 v39:=Tryz.zeroValue160
 t45:=Tryz.underlying183
 a45:=Tryz.isAgg183
 z45:=Tryz.sizeOf183
 v45:=Tryz.zeroValue183
 t46:=Tryz.underlying184
 a46:=Tryz.isAgg184
 z46:=Tryz.sizeOf184
 v46:=Tryz.zeroValue184
 t50:=Tryz.underlying59
 a50:=Tryz.isAgg59
 z50:=Tryz.sizeOf59
 v50:=Tryz.zeroValue59
 t53:=Tryz.underlying190
 a53:=Tryz.isAgg190
 z53:=Tryz.sizeOf190
 v53:=Tryz.zeroValue190
 t55:=Tryz.underlying192
 a55:=Tryz.isAgg192
 z55:=Tryz.sizeOf192
 v55:=Tryz.zeroValue192
 t66:=Tryz.underlying217
 a66:=Tryz.isAgg217
 z66:=Tryz.sizeOf217
 v66:=Tryz.zeroValue217
 t70:=Tryz.underlying221
 a70:=Tryz.isAgg221
 z70:=Tryz.sizeOf221
 v70:=Tryz.zeroValue221
 t76:=Tryz.underlying230
 a76:=Tryz.isAgg230
 z76:=Tryz.sizeOf230
 v76:=Tryz.zeroValue230
 t77:=Tryz.underlying176
 a77:=Tryz.isAgg176
 z77:=Tryz.sizeOf176
 v77:=Tryz.zeroValue176 }
theorem Zd {g:FuncId}{caps:List ab} [xg:dn caps] (aP:hp prog g=true) {l r:List Int}{fR:Int->Int->Option Int}(h:pP fR l=some r)
  (aa:∀ a b v,fR a b=some v->bR prog g (ae a::ae b::caps) (none::none::caps.map λ_=>none) (ae v)) :
  bR prog 70 [ak al l,.cU (.func g) [] caps] [some (ak al r),none] (.bX []):=bR.K5 Tryz.K5 aP h aa
open Go Go.Own
set_option maxRecDepth 100000
set_option linter.unusedVariables false
def CW (a0:Int):Option (Bool) :=
 ((bif decide (97<=a0) then (bif decide (a0<=122) then some true else (bif decide (65<=a0) then (bif decide (a0<=90) then some true else some (decide (a0=95))) else some (decide (a0=95)))) else (bif decide (65<=a0) then (bif decide (a0<=90) then some true else some (decide (a0=95))) else some (decide (a0=95))))).bind λkN =>
 some kN
def CY (a0:Int):Option (Bool) :=
 ((bif decide (48<=a0) then some (decide (a0<=57)) else some false)).bind λc2 =>
 some c2
def CV (a0:ByteArray) (aF:Int):Option (Int) :=
 (b6 (R:=Int) (λ(s1:Int) =>
 ((bif decide (aM (aF+s1)<(a0.size:Int)) then ((kp a0 (aM (aF+s1))).bind λbQ=>((CW bQ).bind λbF=>(bif bF then some true else (bif decide (0<s1) then ((kp a0 (aM (aF+s1))).bind λcy=>((CY cy).bind λbH=>(bif bH then some true else ((kp a0 (aM (aF+s1))).bind λeu=>some (decide (eu=46)))))) else some false)))) else some false)).bind λkq =>
 (bif kq then
 some (.inl (aM (s1+1)))
 else
 some (.inr s1))) 0).bind λx2 =>
 some x2
def vW (a0:ByteArray):Option (Bool) :=
 ((bif decide (1<=(a0.size:Int)) then (bif decide ((a0.size:Int)<=20) then ((CV a0 0).bind λa7=>some (decide (a7=(a0.size:Int)))) else some false) else some false)).bind λc4 =>
 some c4
def z_ (a0:Int):Option (Int × Bool) :=
 (bif decide (a0=10) then
 some (110,true)
 else
 (bif decide (a0=9) then
 some (116,true)
 else
 (bif decide (a0=13) then
 some (114,true)
 else
 ((bif decide (a0=92) then
 some (decide (a0=92))
 else
 some (decide (a0=39)))).bind λJW =>
 (bif JW then
 some (a0,true)
 else
 ((bif decide (32<=a0) then some (0,decide (a0<=126)) else some (0,false))).bind λtG =>
 some (tG.1,tG.2)))))
structure Sym where
 Name:ByteArray
 Lit:Bool
 bN:Int
 At:Int
 deriving DecidableEq,Inhabited
def dA:bI Sym:=⟨4,λx=>[ax x.Name,a_ x.Lit,ae x.bN,ae x.At],λ_=>rfl,λ_=>dn.bo⟩
instance:Flat dA:=⟨λ_=>rfl⟩
instance:lW dA:=⟨λx=>(inferInstance:jv [ax x.Name,a_ x.Lit,ae x.bN,ae x.At])⟩
instance:gO dA dA:=⟨rfl,λx=>(inferInstance:dq [ax x.Name,a_ x.Lit,ae x.bN,ae x.At] [ax x.Name,a_ x.Lit,ae x.bN,ae x.At])⟩
instance {x:Sym}:dq (dA.cells x) [ax x.Name,a_ x.Lit,ae x.bN,ae x.At]:=(inferInstance:dq [ax x.Name,a_ x.Lit,ae x.bN,ae x.At] [ax x.Name,a_ x.Lit,ae x.bN,ae x.At])
def uD (a0:Sym) (aF:Bool) (a2:Bool):Option (Bool) :=
 (bif a0.Lit then
 ((bif !a2 then some true else (bif !decide ((a0.Name.size:Int)=1) then some true else some (!decide (a0.bN=0))))).bind λc4 =>
 (bif c4 then
 some false
 else
 (kp a0.Name 0).bind λbF =>
 (z_ bF).bind λbV =>
 some bV.2)
 else
 (((vW a0.Name).bind λb2=>(bif b2 then (bif decide (a0.bN=0) then some true else (bif aF then (bif decide (1<=a0.bN) then some (decide (a0.bN<=50000)) else some false) else some false)) else some false))).bind λkq =>
 some kq)
structure Decl where
 Kind:Int
 Tag:ByteArray
 eF:(List Sym)
 At:Int
 deriving DecidableEq,Inhabited
def du:bI Decl:=⟨4,λx=>[ae x.Kind,ax x.Tag,ah dA x.eF,ae x.At],λ_=>rfl,λ_=>dn.bo⟩
instance:Flat du:=⟨λ_=>rfl⟩
instance:gO du du:=⟨rfl,λx=>(inferInstance:dq [ae x.Kind,ax x.Tag,ah dA x.eF,ae x.At] [ae x.Kind,ax x.Tag,ah dA x.eF,ae x.At])⟩
instance {x:Decl}:dq (du.cells x) [ae x.Kind,ax x.Tag,ah dA x.eF,ae x.At]:=(inferInstance:dq [ae x.Kind,ax x.Tag,ah dA x.eF,ae x.At] [ae x.Kind,ax x.Tag,ah dA x.eF,ae x.At])
def xZ (a0:Decl):Option (Bool) :=
 ((bif decide (a0.Kind<1) then some true else (bif decide (6<a0.Kind) then some true else (bif decide ((a0.eF.length:Int)=0) then some true else (bif decide (a0.Kind=6) then (bif !decide ((a0.eF.length:Int)=1) then some true else (bif !decide (a0.Tag=⟨#[]⟩) then some true else (bif decide (a0.Kind=5) then (bif decide (a0.Tag=⟨#[]⟩) then some true else some false) else some false))) else (bif decide (a0.Kind=5) then (bif decide (a0.Tag=⟨#[]⟩) then some true else (bif !decide (a0.Tag=⟨#[]⟩) then ((vW a0.Tag).bind λeu=>some (!eu)) else some false)) else (bif !decide (a0.Tag=⟨#[]⟩) then ((vW a0.Tag).bind λeL=>some (!eL)) else some false))))))).bind λtD =>
 (bif tD then
 some false
 else
 (b6 (R:=(Unit) ⊕ (Bool)) (λ(lQ:Int) =>
 (bif decide (lQ<(a0.eF.length:Int)) then
 (idx a0.eF lQ).bind λgm =>
 (uD gm (decide (a0.Kind=1)) (decide (a0.Kind<5))).bind λfB =>
 (bif !fB then
 some (.inr (.inr false))
 else
 some (.inl (aM (lQ+1))))
 else
 some (.inr (.inl ())))) 0).bind λdW =>
 (match dW with
 | .inl ff =>
 some true
 | .inr dO =>
 some dO))
def uE (a0:Sym):Option (Bool) :=
 ((bif decide (a0.Name=⟨#[]⟩) then (bif !a0.Lit then some (decide (a0.bN=0)) else some false) else some false)).bind λjM =>
 some jM
def x1 (a0:ByteArray) (aF:Int) (a2:ByteArray):Option (Bool) :=
 ((bif decide ((a2.size:Int)<=aM ((a0.size:Int) - aF)) then ((q1 a0 aF (aM (aF+(a2.size:Int)))).bind λx2=>some (decide (x2=a2))) else some false)).bind λjM =>
 some jM
def CZ (a0:ByteArray) (aF:Int):Option (Int) :=
 (((kp a0 aF).bind λa8=>(bif decide (a8=34) then some true else ((kp a0 aF).bind λa7=>some (decide (a7=39)))))).bind λc4 =>
 (bif c4 then
 (b6 (R:=(Unit) ⊕ (Int)) (λ(db:Int) =>
 ((bif decide (db<(a0.size:Int)) then ((kp a0 db).bind λcp=>some (!decide (cp=10))) else some false)).bind λwS =>
 (bif wS then
 (kp a0 db).bind λeL =>
 (kp a0 aF).bind λcO =>
 (bif decide (eL=cO) then
 some (.inr (.inr (aM (db+1))))
 else
 (kp a0 db).bind λbS =>
 (bif decide (bS=92) then
 ((bif decide (aM (db+1)<(a0.size:Int)) then ((kp a0 (aM (db+1))).bind λdO=>some (decide (dO=10))) else some false)).bind λp8 =>
 (bif p8 then
 some (.inr (.inr (-1)))
 else
 some (.inl (aM ((aM (db+1))+1))))
 else
 some (.inl (aM (db+1)))))
 else
 some (.inr (.inl ())))) (aM (aF+1))).bind λbV =>
 (match bV with
 | .inl b2 =>
 some (-1)
 | .inr cy =>
 some cy)
 else
 (kp a0 aF).bind λfB =>
 (bif decide (fB=96) then
 (b6 (R:=(Unit) ⊕ (Int)) (λ(kh:Int) =>
 (bif decide (kh<(a0.size:Int)) then
 (kp a0 kh).bind λh_ =>
 (bif decide (h_=96) then
 some (.inr (.inr (aM (kh+1))))
 else
 some (.inl (aM (kh+1))))
 else
 some (.inr (.inl ())))) (aM (aF+1))).bind λgx =>
 (match gx with
 | .inl ee =>
 some (-1)
 | .inr c3 =>
 some c3)
 else
 (x1 a0 aF (⟨#[47,47]⟩)).bind λcP =>
 (bif cP then
 (b6 (R:=Int) (λ(dZ:Int) =>
 ((bif decide (dZ<(a0.size:Int)) then ((kp a0 dZ).bind λc7=>some (!decide (c7=10))) else some false)).bind λtF =>
 (bif tF then
 some (.inl (aM (dZ+1)))
 else
 some (.inr dZ))) aF).bind λeo =>
 some eo
 else
 (x1 a0 aF (⟨#[47,42]⟩)).bind λju =>
 (bif ju then
 (b6 (R:=(Unit) ⊕ (Int)) (λ(AE:Int) =>
 (bif decide (AE<(a0.size:Int)) then
 (x1 a0 AE (⟨#[42,47]⟩)).bind λwv =>
 (bif wv then
 some (.inr (.inr (aM (AE+2))))
 else
 some (.inl (aM (AE+1))))
 else
 some (.inr (.inl ())))) (aM (aF+2))).bind λwu =>
 (match wu with
 | .inl pU =>
 some (-1)
 | .inr om =>
 some om)
 else
 some aF))))
def z8 (a0:ByteArray) (aF:Int):Option (Int) :=
 ((bif decide (aF<0) then some true else (bif decide ((a0.size:Int)<=aF) then some true else ((kp a0 aF).bind λa7=>some (!decide (a7=123)))))).bind λc4 =>
 (bif c4 then
 some (-1)
 else
 (b6 (R:=(Unit) ⊕ (Int)) (λ(db:Int × Int) =>
 (bif decide (db.2<(a0.size:Int)) then
 (CZ a0 db.2).bind λcp =>
 (bif decide (cp<0) then
 some (.inr (.inr (-1)))
 else
 (bif decide (db.2<cp) then
 some (.inl (db.1,cp))
 else
 (kp a0 db.2).bind λeL =>
 ((bif decide (eL=123) then
 some (aM (db.1+1))
 else
 some db.1)).bind λob =>
 (kp a0 db.2).bind λbS =>
 ((bif decide (bS=125) then
 some (aM (ob - 1))
 else
 some ob)).bind λFf =>
 (bif decide (Ff=0) then
 some (.inr (.inr (aM (db.2+1))))
 else
 some (.inl (Ff,aM (db.2+1))))))
 else
 some (.inr (.inl ())))) (0,aF)).bind λbV =>
 (match bV with
 | .inl b2 =>
 some (-1)
 | .inr cy =>
 some cy))
structure Part where
 Sym:Sym
 Code:ByteArray
 At:Int
 deriving DecidableEq,Inhabited
structure Alt where
 hc:(List Part)
 Prec:Sym
 At:Int
 deriving DecidableEq,Inhabited
def eZ:bI Part:=⟨6,λx=>[ax x.Sym.Name,a_ x.Sym.Lit,ae x.Sym.bN,ae x.Sym.At,ax x.Code,ae x.At],λ_=>rfl,λ_=>dn.bo⟩
instance:Flat eZ:=⟨λ_=>rfl⟩
instance:lW eZ:=⟨λx=>(inferInstance:jv [ax x.Sym.Name,a_ x.Sym.Lit,ae x.Sym.bN,ae x.Sym.At,ax x.Code,ae x.At])⟩
instance:gO eZ eZ:=⟨rfl,λx=>(inferInstance:dq [ax x.Sym.Name,a_ x.Sym.Lit,ae x.Sym.bN,ae x.Sym.At,ax x.Code,ae x.At] [ax x.Sym.Name,a_ x.Sym.Lit,ae x.Sym.bN,ae x.Sym.At,ax x.Code,ae x.At])⟩
instance {x:Part}:dq (eZ.cells x) [ax x.Sym.Name,a_ x.Sym.Lit,ae x.Sym.bN,ae x.Sym.At,ax x.Code,ae x.At]:=(inferInstance:dq [ax x.Sym.Name,a_ x.Sym.Lit,ae x.Sym.bN,ae x.Sym.At,ax x.Code,ae x.At] [ax x.Sym.Name,a_ x.Sym.Lit,ae x.Sym.bN,ae x.Sym.At,ax x.Code,ae x.At])
def eX:bI Alt:=⟨6,λx=>[ah eZ x.hc,ax x.Prec.Name,a_ x.Prec.Lit,ae x.Prec.bN,ae x.Prec.At,ae x.At],λ_=>rfl,λ_=>dn.bo⟩
instance:Flat eX:=⟨λ_=>rfl⟩
instance:gO eX eX:=⟨rfl,λx=>(inferInstance:dq [ah eZ x.hc,ax x.Prec.Name,a_ x.Prec.Lit,ae x.Prec.bN,ae x.Prec.At,ae x.At] [ah eZ x.hc,ax x.Prec.Name,a_ x.Prec.Lit,ae x.Prec.bN,ae x.Prec.At,ae x.At])⟩
instance {x:Alt}:dq (eX.cells x) [ah eZ x.hc,ax x.Prec.Name,a_ x.Prec.Lit,ae x.Prec.bN,ae x.Prec.At,ae x.At]:=(inferInstance:dq [ah eZ x.hc,ax x.Prec.Name,a_ x.Prec.Lit,ae x.Prec.bN,ae x.Prec.At,ae x.At] [ah eZ x.hc,ax x.Prec.Name,a_ x.Prec.Lit,ae x.Prec.bN,ae x.Prec.At,ae x.At])
def x0 (a0:Alt):Option (Bool) :=
 (b6 (R:=(Unit) ⊕ (Bool)) (λ(s1:Int) =>
 (bif decide (s1<(a0.hc.length:Int)) then
 (idx a0.hc s1).bind λbF =>
 ((bif decide (bF.Code=⟨#[]⟩) then ((uD bF.Sym false true).bind λb2=>(bif !b2 then some true else (bif !decide (bF.Code=⟨#[]⟩) then ((uE bF.Sym).bind λcp=>(bif !cp then some true else ((z8 bF.Code 0).bind λcm=>some (!decide (cm=(bF.Code.size:Int)))))) else some false))) else (bif !decide (bF.Code=⟨#[]⟩) then ((uE bF.Sym).bind λcO=>(bif !cO then some true else ((z8 bF.Code 0).bind λbS=>some (!decide (bS=(bF.Code.size:Int)))))) else some false))).bind λnu =>
 (bif nu then
 some (.inr (.inr false))
 else
 some (.inl (aM (s1+1))))
 else
 some (.inr (.inl ())))) 0).bind λx2 =>
 (match x2 with
 | .inl a7 =>
 (((uE a0.Prec).bind λdO=>(bif dO then some true else ((uD a0.Prec false true).bind λgm=>some gm)))).bind λHt =>
 some Ht
 | .inr bx =>
 some bx)
structure fa where
 Left:ByteArray
 eC:(List Alt)
 At:Int
 deriving DecidableEq,Inhabited
structure Source where
 cx:ByteArray
 Decls:(List Decl)
 dz:(List fa)
 cE:ByteArray
 deriving DecidableEq,Inhabited
def gn:bI fa:=⟨3,λx=>[ax x.Left,ah eX x.eC,ae x.At],λ_=>rfl,λ_=>dn.bo⟩
instance:Flat gn:=⟨λ_=>rfl⟩
instance:gO gn gn:=⟨rfl,λx=>(inferInstance:dq [ax x.Left,ah eX x.eC,ae x.At] [ax x.Left,ah eX x.eC,ae x.At])⟩
instance {x:fa}:dq (gn.cells x) [ax x.Left,ah eX x.eC,ae x.At]:=(inferInstance:dq [ax x.Left,ah eX x.eC,ae x.At] [ax x.Left,ah eX x.eC,ae x.At])
def gW:bI Source:=⟨4,λx=>[ax x.cx,ah du x.Decls,ah gn x.dz,ax x.cE],λ_=>rfl,λ_=>dn.bo⟩
instance:Flat gW:=⟨λ_=>rfl⟩
instance:gO gW gW:=⟨rfl,λx=>(inferInstance:dq [ax x.cx,ah du x.Decls,ah gn x.dz,ax x.cE] [ax x.cx,ah du x.Decls,ah gn x.dz,ax x.cE])⟩
instance {x:Source}:dq (gW.cells x) [ax x.cx,ah du x.Decls,ah gn x.dz,ax x.cE]:=(inferInstance:dq [ax x.cx,ah du x.Decls,ah gn x.dz,ax x.cE] [ax x.cx,ah du x.Decls,ah gn x.dz,ax x.cE])
def xX (a0:Source):Option (Bool) :=
 (b6 (R:=(Unit) ⊕ (Bool)) (λ(s1:Int) =>
 (bif decide (aM (s1+1)<(a0.cx.size:Int)) then
 (q1 a0.cx s1 (aM (s1+2))).bind λbF =>
 (bif decide (bF=⟨#[37,125]⟩) then
 some (.inr (.inr false))
 else
 some (.inl (aM (s1+1))))
 else
 some (.inr (.inl ())))) 0).bind λx2 =>
 (match x2 with
 | .inl a7 =>
 (b6 (R:=(Unit) ⊕ (Bool)) (λ(ea:Int) =>
 (bif decide (ea<(a0.Decls.length:Int)) then
 (idx a0.Decls ea).bind λcm =>
 (xZ cm).bind λeL =>
 (bif !eL then
 some (.inr (.inr false))
 else
 some (.inl (aM (ea+1))))
 else
 some (.inr (.inl ())))) 0).bind λcy =>
 (match cy with
 | .inl bH =>
 (b6 (R:=(Unit) ⊕ (Bool)) (λ(nj:Int) =>
 (bif decide (nj<(a0.dz.length:Int)) then
 (idx a0.dz nj).bind λe9 =>
 (((vW e9.Left).bind λgm=>(bif !gm then some true else some (decide ((e9.eC.length:Int)=0))))).bind λrO =>
 (bif rO then
 some (.inr (.inr false))
 else
 (b6 (R:=(Unit) ⊕ (Bool)) (λ(oT:Int) =>
 (bif decide (oT<(e9.eC.length:Int)) then
 (idx e9.eC oT).bind λk1 =>
 (x0 k1).bind λcP =>
 (bif !cP then
 some (.inr (.inr false))
 else
 some (.inl (aM (oT+1))))
 else
 some (.inr (.inl ())))) 0).bind λee =>
 (match ee with
 | .inl c3 =>
 some (.inl (aM (nj+1)))
 | .inr eA =>
 some (.inr (.inr eA))))
 else
 some (.inr (.inl ())))) 0).bind λbS =>
 (match bS with
 | .inl dW =>
 some (decide (0<(a0.dz.length:Int)))
 | .inr ff =>
 some ff)
 | .inr cp =>
 some cp)
 | .inr bx =>
 some bx)
structure bT where
 Name:ByteArray
 Lit:Bool
 bN:Int
 Level:Int
 fv:Int
 Tag:ByteArray
 deriving DecidableEq,Inhabited
structure fE where
 Name:ByteArray
 Tag:ByteArray
 deriving DecidableEq,Inhabited
structure Prod where
 Left:Int
 ef:(List Int)
 Prec:Int
 Code:ByteArray
 yA:(List Int)
 At:Int
 deriving DecidableEq,Inhabited
structure bO where
 ba:(List bT)
 ca:(List fE)
 bj:(List Prod)
 cx:ByteArray
 cE:ByteArray
 deriving DecidableEq,Inhabited
structure ds where
 aG:bO
 cr:(List Bool)
 cJ:(List fE)
 cb:(List ByteArray)
 cZ:Int
 dp:Int
 dm:ByteArray
 cq:Int
 b8:Int
 deriving DecidableEq,Inhabited
def b1:bI bT:=⟨6,λx=>[ax x.Name,a_ x.Lit,ae x.bN,ae x.Level,ae x.fv,ax x.Tag],λ_=>rfl,λ_=>dn.bo⟩
instance:Flat b1:=⟨λ_=>rfl⟩
instance:lW b1:=⟨λx=>(inferInstance:jv [ax x.Name,a_ x.Lit,ae x.bN,ae x.Level,ae x.fv,ax x.Tag])⟩
instance:gO b1 b1:=⟨rfl,λx=>(inferInstance:dq [ax x.Name,a_ x.Lit,ae x.bN,ae x.Level,ae x.fv,ax x.Tag] [ax x.Name,a_ x.Lit,ae x.bN,ae x.Level,ae x.fv,ax x.Tag])⟩
instance {x:bT}:dq (b1.cells x) [ax x.Name,a_ x.Lit,ae x.bN,ae x.Level,ae x.fv,ax x.Tag]:=(inferInstance:dq [ax x.Name,a_ x.Lit,ae x.bN,ae x.Level,ae x.fv,ax x.Tag] [ax x.Name,a_ x.Lit,ae x.bN,ae x.Level,ae x.fv,ax x.Tag])
def bJ:bI fE:=⟨2,λx=>[ax x.Name,ax x.Tag],λ_=>rfl,λ_=>dn.bo⟩
instance:Flat bJ:=⟨λ_=>rfl⟩
instance:lW bJ:=⟨λx=>(inferInstance:jv [ax x.Name,ax x.Tag])⟩
instance:gO bJ bJ:=⟨rfl,λx=>(inferInstance:dq [ax x.Name,ax x.Tag] [ax x.Name,ax x.Tag])⟩
def cC:bI Prod:=⟨6,λx=>[ae x.Left,ah al x.ef,ae x.Prec,ax x.Code,ah al x.yA,ae x.At],λ_=>rfl,λ_=>dn.bo⟩
instance:Flat cC:=⟨λ_=>rfl⟩
instance:gO cC cC:=⟨rfl,λx=>(inferInstance:dq [ae x.Left,ah al x.ef,ae x.Prec,ax x.Code,ah al x.yA,ae x.At] [ae x.Left,ah al x.ef,ae x.Prec,ax x.Code,ah al x.yA,ae x.At])⟩
instance {x:Prod}:dq (cC.cells x) [ae x.Left,ah al x.ef,ae x.Prec,ax x.Code,ah al x.yA,ae x.At]:=(inferInstance:dq [ae x.Left,ah al x.ef,ae x.Prec,ax x.Code,ah al x.yA,ae x.At] [ae x.Left,ah al x.ef,ae x.Prec,ax x.Code,ah al x.yA,ae x.At])
def dv:bI bO:=⟨5,λx=>[ah b1 x.ba,ah bJ x.ca,ah cC x.bj,ax x.cx,ax x.cE],λ_=>rfl,λ_=>dn.bo⟩
instance:Flat dv:=⟨λ_=>rfl⟩
instance:gO dv dv:=⟨rfl,λx=>(inferInstance:dq [ah b1 x.ba,ah bJ x.ca,ah cC x.bj,ax x.cx,ax x.cE] [ah b1 x.ba,ah bJ x.ca,ah cC x.bj,ax x.cx,ax x.cE])⟩
instance {x:bO}:dq (dv.cells x) [ah b1 x.ba,ah bJ x.ca,ah cC x.bj,ax x.cx,ax x.cE]:=(inferInstance:dq [ah b1 x.ba,ah bJ x.ca,ah cC x.bj,ax x.cx,ax x.cE] [ah b1 x.ba,ah bJ x.ca,ah cC x.bj,ax x.cx,ax x.cE])
def Ep:bI ds:=⟨13,λx=>[ah b1 x.aG.ba,ah bJ x.aG.ca,ah cC x.aG.bj,ax x.aG.cx,ax x.aG.cE,ah cn x.cr,ah bJ x.cJ,ah dw x.cb,ae x.cZ,ae x.dp,ax x.dm,ae x.cq,ae x.b8],λ_=>rfl,λ_=>dn.bo⟩
instance:Flat Ep:=⟨λ_=>rfl⟩
instance:gO Ep Ep:=⟨rfl,λx=>(inferInstance:dq [ah b1 x.aG.ba,ah bJ x.aG.ca,ah cC x.aG.bj,ax x.aG.cx,ax x.aG.cE,ah cn x.cr,ah bJ x.cJ,ah dw x.cb,ae x.cZ,ae x.dp,ax x.dm,ae x.cq,ae x.b8] [ah b1 x.aG.ba,ah bJ x.aG.ca,ah cC x.aG.bj,ax x.aG.cx,ax x.aG.cE,ah cn x.cr,ah bJ x.cJ,ah dw x.cb,ae x.cZ,ae x.dp,ax x.dm,ae x.cq,ae x.b8])⟩
instance {x:ds}:dq (Ep.cells x) [ah b1 x.aG.ba,ah bJ x.aG.ca,ah cC x.aG.bj,ax x.aG.cx,ax x.aG.cE,ah cn x.cr,ah bJ x.cJ,ah dw x.cb,ae x.cZ,ae x.dp,ax x.dm,ae x.cq,ae x.b8]:=(inferInstance:dq [ah b1 x.aG.ba,ah bJ x.aG.ca,ah cC x.aG.bj,ax x.aG.cx,ax x.aG.cE,ah cn x.cr,ah bJ x.cJ,ah dw x.cb,ae x.cZ,ae x.dp,ax x.dm,ae x.cq,ae x.b8] [ah b1 x.aG.ba,ah bJ x.aG.ca,ah cC x.aG.bj,ax x.aG.cx,ax x.aG.cE,ah cn x.cr,ah bJ x.cJ,ah dw x.cb,ae x.cZ,ae x.dp,ax x.dm,ae x.cq,ae x.b8])
def MT:bI bO:=⟨5,λx=>[ak b1 x.ba,ak bJ x.ca,ak cC x.bj,ax x.cx,ax x.cE],λ_=>rfl,λ_=>dn.bo⟩
instance:gO MT dv:=⟨rfl,λx=>(inferInstance:dq [ak b1 x.ba,ak bJ x.ca,ak cC x.bj,ax x.cx,ax x.cE] [ah b1 x.ba,ah bJ x.ca,ah cC x.bj,ax x.cx,ax x.cE])⟩
instance {x:bO}:dq (MT.cells x) [ah b1 x.ba,ah bJ x.ca,ah cC x.bj,ax x.cx,ax x.cE]:=(inferInstance:dq [ak b1 x.ba,ak bJ x.ca,ak cC x.bj,ax x.cx,ax x.cE] [ah b1 x.ba,ah bJ x.ca,ah cC x.bj,ax x.cx,ax x.cE])
def dQ:bI ds:=⟨13,λx=>[ak b1 x.aG.ba,ak bJ x.aG.ca,ak cC x.aG.bj,ax x.aG.cx,ax x.aG.cE,ak cn x.cr,ak bJ x.cJ,ak dw x.cb,ae x.cZ,ae x.dp,ax x.dm,ae x.cq,ae x.b8],λ_=>rfl,λ_=>dn.bo⟩
instance {x:ds}:dq (dQ.cells x) [ah b1 x.aG.ba,ah bJ x.aG.ca,ah cC x.aG.bj,ax x.aG.cx,ax x.aG.cE,ah cn x.cr,ah bJ x.cJ,ah dw x.cb,ae x.cZ,ae x.dp,ax x.dm,ae x.cq,ae x.b8]:=(inferInstance:dq [ak b1 x.aG.ba,ak bJ x.aG.ca,ak cC x.aG.bj,ax x.aG.cx,ax x.aG.cE,ak cn x.cr,ak bJ x.cJ,ak dw x.cb,ae x.cZ,ae x.dp,ax x.dm,ae x.cq,ae x.b8] [ah b1 x.aG.ba,ah bJ x.aG.ca,ah cC x.aG.bj,ax x.aG.cx,ax x.aG.cE,ah cn x.cr,ah bJ x.cJ,ah dw x.cb,ae x.cZ,ae x.dp,ax x.dm,ae x.cq,ae x.b8])
def nO (a0:ds) (aF:Int) (a2:ByteArray):Option (ds) :=
 ((bif decide (a0.cZ=0) then
 some (⟨a0.aG,a0.cr,a0.cJ,a0.cb,3,aF,a2,a0.cq,a0.b8⟩:ds)
 else
 some a0)).bind λjn =>
 some jn
def zX (a0:ds) (aF:ByteArray):Option (Int) :=
 (b6 (R:=(Unit) ⊕ (Int)) (λ(s1:Int) =>
 (bif decide (s1<(a0.cJ.length:Int)) then
 (idx a0.cJ s1).bind λbF =>
 (bif decide (bF.Name=aF) then
 some (.inr (.inr s1))
 else
 some (.inl (aM (s1+1))))
 else
 some (.inr (.inl ())))) 0).bind λx2 =>
 (match x2 with
 | .inl a7 =>
 some (-1)
 | .inr bx =>
 some bx)
def uA (a0:ds) (aF:Sym):Option (Int) :=
 (b6 (R:=(Unit) ⊕ (Int)) (λ(s1:Int) =>
 (bif decide (s1<(a0.aG.ba.length:Int)) then
 (((idx a0.aG.ba s1).bind λbF=>(bif decide (bF.Name=aF.Name) then ((idx a0.aG.ba s1).bind λb2=>(bif (b2.Lit == aF.Lit) then some (!decide (s1=2)) else some false)) else some false))).bind λie =>
 (bif ie then
 some (.inr (.inr s1))
 else
 some (.inl (aM (s1+1))))
 else
 some (.inr (.inl ())))) 1).bind λx2 =>
 (match x2 with
 | .inl a7 =>
 some (-1)
 | .inr bx =>
 some bx)
def vY (a0:ds) (aF:Int):Option (Int) :=
 (b6 (R:=(Unit) ⊕ (Int)) (λ(s1:Int) =>
 (bif decide (s1<(a0.aG.ba.length:Int)) then
 (idx a0.aG.ba s1).bind λbF =>
 (bif decide (bF.bN=aF) then
 some (.inr (.inr s1))
 else
 some (.inl (aM (s1+1))))
 else
 some (.inr (.inl ())))) 3).bind λx2 =>
 (match x2 with
 | .inl a7 =>
 some (-1)
 | .inr bx =>
 some bx)
def vX (a0:ds) (aF:Sym):Option (Int × ds) :=
 (uA a0 aF).bind λa8 =>
 (bif decide (0<=a8) then
 some (a8,a0)
 else
 ((bif aF.Lit then
 (kp aF.Name 0).bind λbQ =>
 (vY a0 (aM bQ)).bind λbF =>
 ((bif decide (0<=bF) then
 (nO a0 aF.At aF.Name).bind λcy =>
 some cy
 else
 some a0)).bind λkV =>
 some (kV,aM bQ)
 else
 some (a0,0))).bind λir =>
 (dc ir.1.aG.ba [(⟨aF.Name,aF.Lit,ir.2,0,0,⟨#[]⟩⟩:bT)]).bind λbH =>
 (dc ir.1.cr [aF.Lit]).bind λcp =>
 some (aM (((ir.1.aG.ba++[(⟨aF.Name,aF.Lit,ir.2,0,0,⟨#[]⟩⟩:bT)]).length:Int) - 1),(⟨(⟨ir.1.aG.ba++[(⟨aF.Name,aF.Lit,ir.2,0,0,⟨#[]⟩⟩:bT)],ir.1.aG.ca,ir.1.aG.bj,ir.1.aG.cx,ir.1.aG.cE⟩:bO),ir.1.cr++[aF.Lit],ir.1.cJ,ir.1.cb,ir.1.cZ,ir.1.dp,ir.1.dm,ir.1.cq,ir.1.b8⟩:ds)))
def vU (a0:ds) (aF:Decl) (a2:Sym):Option (ds) :=
 (bif decide (aF.Kind=5) then
 (zX a0 a2.Name).bind λx2 =>
 ((bif decide (x2<0) then
 (dc a0.cJ [(⟨a2.Name,aF.Tag⟩:fE)]).bind λbQ =>
 some (⟨a0.aG,a0.cr,a0.cJ++[(⟨a2.Name,aF.Tag⟩:fE)],a0.cb,a0.cZ,a0.dp,a0.dm,a0.cq,a0.b8⟩:ds)
 else
 (idx a0.cJ x2).bind λbF =>
 ((bif !decide (bF.Tag=aF.Tag) then
 (nO a0 a2.At a2.Name).bind λcy =>
 some cy
 else
 some a0)).bind λkV =>
 some kV)).bind λir =>
 some ir
 else
 (vX a0 a2).bind λbH =>
 (idx bH.2.aG.ba bH.1).bind λcp =>
 ((bif !decide (aF.Kind=1) then
 ((bif decide (0<cp.Level) then
 (nO bH.2 a2.At a2.Name).bind λcg =>
 some (⟨(⟨bH.2.aG.ba,cg.aG.ca,cg.aG.bj,cg.aG.cx,cg.aG.cE⟩:bO),cg.cr,cg.cJ,cg.cb,cg.cZ,cg.dp,cg.dm,cg.cq,cg.b8⟩:ds)
 else
 some bH.2)).bind λdd =>
 (idx dd.aG.ba bH.1).bind λbS =>
 some (⟨(⟨(dd.aG.ba.set bH.1.toNat (⟨bS.Name,bS.Lit,bS.bN,dd.cq,bS.fv,bS.Tag⟩:bT)).set bH.1.toNat (⟨(⟨bS.Name,bS.Lit,bS.bN,dd.cq,bS.fv,bS.Tag⟩:bT).Name,(⟨bS.Name,bS.Lit,bS.bN,dd.cq,bS.fv,bS.Tag⟩:bT).Lit,(⟨bS.Name,bS.Lit,bS.bN,dd.cq,bS.fv,bS.Tag⟩:bT).bN,(⟨bS.Name,bS.Lit,bS.bN,dd.cq,bS.fv,bS.Tag⟩:bT).Level,aM (aF.Kind - 1),(⟨bS.Name,bS.Lit,bS.bN,dd.cq,bS.fv,bS.Tag⟩:bT).Tag⟩:bT),dd.aG.ca,dd.aG.bj,dd.aG.cx,dd.aG.cE⟩:bO),dd.cr,dd.cJ,dd.cb,dd.cZ,dd.dp,dd.dm,dd.cq,dd.b8⟩:ds)
 else
 some bH.2)).bind λeN =>
 (idx eN.aG.ba bH.1).bind λdW =>
 ((bif decide (0<a2.bN) then
 ((bif decide (bH.1=1) then some true else ((idx eN.cr bH.1).bind λgm=>(bif gm then some true else ((vY eN a2.bN).bind λgu=>some (decide (0<=gu))))))).bind λHu =>
 ((bif Hu then
 (nO eN a2.At a2.Name).bind λc3 =>
 some (⟨(⟨eN.aG.ba,c3.aG.ca,c3.aG.bj,c3.aG.cx,c3.aG.cE⟩:bO),c3.cr,c3.cJ,c3.cb,c3.cZ,c3.dp,c3.dm,c3.cq,c3.b8⟩:ds)
 else
 some eN)).bind λdY =>
 (idx dY.aG.ba bH.1).bind λeA =>
 (idx dY.cr bH.1).bind λh_ =>
 some (⟨(⟨dY.aG.ba.set bH.1.toNat (⟨eA.Name,eA.Lit,a2.bN,eA.Level,eA.fv,eA.Tag⟩:bT),dY.aG.ca,dY.aG.bj,dY.aG.cx,dY.aG.cE⟩:bO),dY.cr.set bH.1.toNat true,dY.cJ,dY.cb,dY.cZ,dY.dp,dY.dm,dY.cq,dY.b8⟩:ds)
 else
 some eN)).bind λfb =>
 (idx fb.aG.ba bH.1).bind λk1 =>
 ((bif !decide (aF.Tag=⟨#[]⟩) then
 ((bif !decide (k1.Tag=⟨#[]⟩) then some (!decide (k1.Tag=aF.Tag)) else some false)).bind λsB =>
 ((bif sB then
 (nO fb a2.At a2.Name).bind λc7 =>
 some (⟨(⟨fb.aG.ba,c7.aG.ca,c7.aG.bj,c7.aG.cx,c7.aG.cE⟩:bO),c7.cr,c7.cJ,c7.cb,c7.cZ,c7.dp,c7.dm,c7.cq,c7.b8⟩:ds)
 else
 some fb)).bind λna =>
 (idx na.aG.ba bH.1).bind λgy =>
 some (⟨(⟨na.aG.ba.set bH.1.toNat (⟨gy.Name,gy.Lit,gy.bN,gy.Level,gy.fv,aF.Tag⟩:bT),na.aG.ca,na.aG.bj,na.aG.cx,na.aG.cE⟩:bO),na.cr,na.cJ,na.cb,na.cZ,na.dp,na.dm,na.cq,na.b8⟩:ds)
 else
 some fb)).bind λpE =>
 some pE)
def s7 (a0:ds) (aF:ByteArray):Option (Int) :=
 (b6 (R:=(Unit) ⊕ (Int)) (λ(s1:Int) =>
 (bif decide (s1<(a0.cb.length:Int)) then
 (idx a0.cb s1).bind λbF =>
 (bif decide (bF=aF) then
 some (.inr (.inr s1))
 else
 some (.inl (aM (s1+1))))
 else
 some (.inr (.inl ())))) 0).bind λx2 =>
 (match x2 with
 | .inl a7 =>
 some (-1)
 | .inr bx =>
 some bx)
def s8 (a0:ds) (aF:Sym):Option (Int × ds) :=
 (bif aF.Lit then
 (vX a0 aF).bind λx2 =>
 some (x2.1,x2.2)
 else
 (s7 a0 aF.Name).bind λa7 =>
 (bif decide (0<=a7) then
 some (aM (1001+a7),a0)
 else
 (uA a0 aF).bind λbQ =>
 (bif decide (bQ<0) then
 (nO a0 aF.At aF.Name).bind λbV =>
 some (0,bV)
 else
 some (bQ,a0))))
def vV (a0:ds) (aF:ByteArray) (a2:Alt):Option (ds) :=
 (s7 a0 aF).bind λa8 =>
 (b6 (R:=ds × List Int × ByteArray × Int) (λ(s2:ds × List Int × ByteArray × Int × Int) =>
 (bif decide (s2.2.2.2.2<(a2.hc.length:Int)) then
 ((idx a2.hc s2.2.2.2.2).bind λbV =>
 (((bif decide (bV.Code=⟨#[]⟩) then
 (s8 s2.1 bV.Sym).bind λcp =>
 (dc s2.2.1 [cp.1]).bind λeu =>
 some (cp.2,s2.2.1++[cp.1],s2.2.2.1,s2.2.2.2.1)
 else
 ((bif decide (aM (s2.2.2.2.2+1)=(a2.hc.length:Int)) then
 some (s2.1.aG.bj,s2.1.b8,s2.2.1,bV.Code,bV.At)
 else
 (dc ([]:List Int) s2.2.1).bind λcO =>
 (dc s2.1.aG.bj [(⟨aM ((s2.1.cb.length:Int)+(aM (s2.1.b8+1))),([]:List Int),(-1),bV.Code,([]:List Int)++s2.2.1,bV.At⟩:Prod)]).bind λcg =>
 (dc s2.2.1 [aM ((aM (1000+(s2.1.cb.length:Int)))+(aM (s2.1.b8+1)))]).bind λbS =>
 some (s2.1.aG.bj++[(⟨aM ((s2.1.cb.length:Int)+(aM (s2.1.b8+1))),([]:List Int),(-1),bV.Code,([]:List Int)++s2.2.1,bV.At⟩:Prod)],aM (s2.1.b8+1),s2.2.1++[aM ((aM (1000+(s2.1.cb.length:Int)))+(aM (s2.1.b8+1)))],s2.2.2.1,s2.2.2.2.1))).bind λiE =>
 some ((⟨(⟨s2.1.aG.ba,s2.1.aG.ca,iE.1,s2.1.aG.cx,s2.1.aG.cE⟩:bO),s2.1.cr,s2.1.cJ,s2.1.cb,s2.1.cZ,s2.1.dp,s2.1.dm,s2.1.cq,iE.2.1⟩:ds),iE.2.2.1,iE.2.2.2.1,iE.2.2.2.2))).bind λqq =>
 some (qq.1,qq.2.1,qq.2.2.1,qq.2.2.2)).bind λfe =>
 some (fe.1,fe.2.1,fe.2.2.1,fe.2.2.2)).bind λkU =>
 some (.inl (kU.1,kU.2.1,kU.2.2.1,kU.2.2.2,aM (s2.2.2.2.2+1)))
 else
 some (.inr (s2.1,s2.2.1,s2.2.2.1,s2.2.2.2.1)))) (a0,([]:List Int),⟨#[]⟩,a2.At,0)).bind λa7 =>
 (b6 (R:=Int) (λ(tb:Int × Int) =>
 (bif decide (tb.2<(a7.2.1.length:Int)) then
 ((idx a7.2.1 tb.2).bind λfB =>
 ((bif decide (fB<1000) then
 (idx a7.2.1 tb.2).bind λgx =>
 some gx
 else
 some tb.1)).bind λxE =>
 some xE).bind λmy =>
 some (.inl (my,aM (tb.2+1)))
 else
 some (.inr tb.1))) ((-1),0)).bind λff =>
 ((bif !decide (a2.Prec.Name=⟨#[]⟩) then
 ((bif a2.Prec.Lit then some true else ((s7 a7.1 a2.Prec.Name).bind λh_=>some (decide (h_<0))))).bind λtE =>
 ((bif tE then
 (s8 a7.1 a2.Prec).bind λk2 =>
 some (k2.2,k2.1)
 else
 (nO a7.1 a2.Prec.At a2.Prec.Name).bind λeo =>
 some (eo,(-1)))).bind λpE =>
 some (pE.1,pE.2)
 else
 some (a7.1,ff))).bind λjR =>
 (dc ([]:List Int) a7.2.1).bind λpT =>
 (dc jR.1.aG.bj [(⟨aM (1+a8),a7.2.1,jR.2,a7.2.2.1,([]:List Int)++a7.2.1,a7.2.2.2⟩:Prod)]).bind λjV =>
 some (⟨(⟨jR.1.aG.ba,jR.1.aG.ca,jR.1.aG.bj++[(⟨aM (1+a8),a7.2.1,jR.2,a7.2.2.1,([]:List Int)++a7.2.1,a7.2.2.2⟩:Prod)],jR.1.aG.cx,jR.1.aG.cE⟩:bO),jR.1.cr,jR.1.cJ,jR.1.cb,jR.1.cZ,jR.1.dp,jR.1.dm,jR.1.cq,jR.1.b8⟩:ds)
def CQ (a0:Int):Option (ByteArray) :=
 ((bif decide (a0<0) then
 some (IntKind.u64.wrap (-(IntKind.u64.wrap a0)))
 else
 some (IntKind.u64.wrap a0))).bind λjn =>
 (b6 (R:=ByteArray) (λ(d':Int × ByteArray) =>
 ((bif decide (0<d'.1) then some true else some (decide (d'.2=⟨#[]⟩)))).bind λkN =>
 (bif kN then
 (rr d'.1 10).bind λcy =>
 (tH (strOfNums [yu (IntKind.u64.wrap (48+cy))]) d'.2).bind λbH =>
 (rn d'.1 10).bind λcp =>
 some (.inl (cp,bH))
 else
 some (.inr d'.2))) (jn,⟨#[]⟩)).bind λbx =>
 (bif decide (a0<0) then
 (tH (⟨#[45]⟩) bx).bind λcm =>
 some cm
 else
 some bx)
def we (a0:Source):Option (bO × Int × Int × ByteArray) :=
 (xX a0).bind λa8 =>
 (bif !a8 then
 some ((⟨([]:List bT),([]:List fE),([]:List Prod),⟨#[]⟩,⟨#[]⟩⟩:bO),1,0,⟨#[]⟩)
 else
 (nc 3 false).bind λa7 =>
 (b6 (R:=ds × ByteArray) (λ(cY:ds × ByteArray × Int) =>
 (bif decide (cY.2.2<(a0.Decls.length:Int)) then
 (idx a0.Decls cY.2.2).bind λb2 =>
 ((bif decide (2<=b2.Kind) then some (decide (b2.Kind<=4)) else some false)).bind λie =>
 ((bif ie then
 some (aM (cY.1.cq+1))
 else
 some cY.1.cq)).bind λjo =>
 (b6 (R:=ds × ByteArray) (λ(hf:ds × ByteArray × Int) =>
 (bif decide (hf.2.2<(b2.eF.length:Int)) then
 ((bif !decide (b2.Kind=6) then
 (idx b2.eF hf.2.2).bind λff =>
 (vU hf.1 b2 ff).bind λdO =>
 some (dO,hf.2.1)
 else
 ((bif !decide (hf.2.1=⟨#[]⟩) then
 (idx b2.eF hf.2.2).bind λfB =>
 (idx b2.eF hf.2.2).bind λgu =>
 (nO hf.1 fB.At gu.Name).bind λiv =>
 some iv
 else
 some hf.1)).bind λnJ =>
 (idx b2.eF hf.2.2).bind λgx =>
 some (nJ,gx.Name))).bind λCq =>
 some (.inl (Cq.1,Cq.2,aM (hf.2.2+1)))
 else
 some (.inr (hf.1,hf.2.1)))) ((⟨cY.1.aG,cY.1.cr,cY.1.cJ,cY.1.cb,cY.1.cZ,cY.1.dp,cY.1.dm,jo,cY.1.b8⟩:ds),cY.2.1,0)).bind λeL =>
 some (.inl (eL.1,eL.2,aM (cY.2.2+1)))
 else
 some (.inr (cY.1,cY.2.1)))) ((⟨(⟨[(⟨⟨#[36,101,110,100]⟩,false,0,0,0,⟨#[]⟩⟩:bT),(⟨⟨#[101,114,114,111,114]⟩,false,(-1),0,0,⟨#[]⟩⟩:bT),(⟨⟨#[36,117,110,107]⟩,false,(-1),0,0,⟨#[]⟩⟩:bT)],[],[],⟨#[]⟩,⟨#[]⟩⟩:bO),a7,[],[],0,0,⟨#[]⟩,0,0⟩:ds),⟨#[]⟩,0)).bind λbQ =>
 (b6 (R:=ds) (λ(qD:ds × Int) =>
 (bif decide (qD.2<(a0.dz.length:Int)) then
 ((idx a0.dz qD.2).bind λcP =>
 (uA qD.1 (⟨cP.Left,false,0,0⟩:Sym)).bind λfu =>
 ((bif decide (0<=fu) then
 (nO qD.1 cP.At cP.Left).bind λpT =>
 some pT
 else
 some qD.1)).bind λiO =>
 (s7 iO cP.Left).bind λjV =>
 ((bif decide (jV<0) then
 (dc iO.cb [cP.Left]).bind λrE =>
 some (iO.cb++[cP.Left])
 else
 some iO.cb)).bind λJV =>
 some (⟨iO.aG,iO.cr,iO.cJ,JV,iO.cZ,iO.dp,iO.dm,iO.cq,iO.b8⟩:ds)).bind λxH =>
 some (.inl (xH,aM (qD.2+1)))
 else
 some (.inr qD.1))) (bQ.1,0)).bind λc3 =>
 (b6 (R:=ds) (λ(qE:ds × Int) =>
 (bif decide (qE.2<(a0.Decls.length:Int)) then
 (b6 (R:=ds) (λ(qF:ds × Int) =>
 (idx a0.Decls qE.2).bind λwv =>
 (bif decide (qF.2<(wv.eF.length:Int)) then
 ((idx a0.Decls qE.2).bind λwx =>
 (idx wx.eF qF.2).bind λpV =>
 (((idx a0.Decls qE.2).bind λLe=>(bif decide (5<=Le.Kind) then ((s7 qF.1 pV.Name).bind λkD=>some (decide (kD<0))) else some false))).bind λHy =>
 ((bif Hy then
 (nO qF.1 pV.At pV.Name).bind λAN =>
 some AN
 else
 some qF.1)).bind λJZ =>
 some JZ).bind λJY =>
 some (.inl (JY,aM (qF.2+1)))
 else
 some (.inr qF.1))) (qE.1,0)).bind λom =>
 some (.inl (om,aM (qE.2+1)))
 else
 some (.inr qE.1))) (c3,0)).bind λha =>
 ((bif decide (bQ.2=⟨#[]⟩) then
 (idx a0.dz 0).bind λwy =>
 some wy.Left
 else
 some bQ.2)).bind λxI =>
 (s7 ha xI).bind λmF =>
 (b6 (R:=ds) (λ(pO:ds × Int) =>
 (bif decide (pO.2<(a0.dz.length:Int)) then
 (b6 (R:=ds) (λ(ry:ds × Int) =>
 (idx a0.dz pO.2).bind λDJ =>
 (bif decide (ry.2<(DJ.eC.length:Int)) then
 (idx a0.dz pO.2).bind λDK =>
 (idx a0.dz pO.2).bind λLh =>
 (idx Lh.eC ry.2).bind λDL =>
 (vV ry.1 DK.Left DL).bind λGJ =>
 some (.inl (GJ,aM (ry.2+1)))
 else
 some (.inr ry.1))) (pO.1,0)).bind λkE =>
 some (.inl (kE,aM (pO.2+1)))
 else
 some (.inr pO.1))) ((⟨(⟨ha.aG.ba,ha.aG.ca,[(⟨0,[aM (1001+mF)],(-1),⟨#[]⟩,([]:List Int),0⟩:Prod)],ha.aG.cx,ha.aG.cE⟩:bO),ha.cr,ha.cJ,ha.cb,ha.cZ,ha.dp,ha.dm,ha.cq,ha.b8⟩:ds),0)).bind λbt =>
 (bif !decide (bt.cZ=0) then
 some ((⟨([]:List bT),([]:List fE),([]:List Prod),⟨#[]⟩,⟨#[]⟩⟩:bO),bt.cZ,bt.dp,bt.dm)
 else
 (b6 (R:=List fE) (λ(rz:List fE × Int) =>
 (bif decide (rz.2<(bt.cb.length:Int)) then
 (idx bt.cb rz.2).bind λqJ =>
 (zX (⟨(⟨bt.aG.ba,rz.1,bt.aG.bj,bt.aG.cx,bt.aG.cE⟩:bO),bt.cr,bt.cJ,bt.cb,bt.cZ,bt.dp,bt.dm,bt.cq,bt.b8⟩:ds) qJ).bind λyv =>
 ((bif decide (0<=yv) then
 (idx bt.cJ yv).bind λLi =>
 some Li.Tag
 else
 some (⟨#[]⟩))).bind λuw =>
 (dc rz.1 [(⟨qJ,uw⟩:fE)]).bind λQY =>
 some (.inl (rz.1++[(⟨qJ,uw⟩:fE)],aM (rz.2+1)))
 else
 some (.inr rz.1))) ([(⟨⟨#[36,97,99,99,101,112,116]⟩,⟨#[]⟩⟩:fE)],0)).bind λuV =>
 (b6 (R:=List fE) (λ(sn:List fE × Int) =>
 (bif decide (sn.2<=bt.b8) then
 (CQ sn.2).bind λGK =>
 (tH (⟨#[64]⟩) GK).bind λwz =>
 (dc sn.1 [(⟨wz,⟨#[]⟩⟩:fE)]).bind λQZ =>
 some (.inl (sn.1++[(⟨wz,⟨#[]⟩⟩:fE)],aM (sn.2+1)))
 else
 some (.inr sn.1))) (uV,1)).bind λk3 =>
 (b6 (R:=List bT) (λ(l8:List bT × Int × Int) =>
 (bif decide (l8.2.2<(l8.1.length:Int)) then
 ((idx bt.cr l8.2.2).bind λLc =>
 ((bif !Lc then
 (idx l8.1 l8.2.2).bind λsr =>
 some (l8.1.set l8.2.2.toNat (⟨sr.Name,sr.Lit,l8.2.1,sr.Level,sr.fv,sr.Tag⟩:bT),aM (l8.2.1+1))
 else
 some (l8.1,l8.2.1))).bind λCp =>
 some (Cp.1,Cp.2)).bind λCr =>
 some (.inl (Cr.1,Cr.2,aM (l8.2.2+1)))
 else
 some (.inr l8.1))) (bt.aG.ba,57346,3)).bind λl_ =>
 ((bif decide (40<(l_.length:Int)) then some true else (bif decide (24<(k3.length:Int)) then some true else some (decide (60<(bt.aG.bj.length:Int)))))).bind λu' =>
 (b6 (R:=Bool) (λ(ta:Bool × Int) =>
 (bif decide (ta.2<(bt.aG.bj.length:Int)) then
 ((bif ta.1 then some true else ((idx bt.aG.bj ta.2).bind λLd=>some (decide (8<(Ld.ef.length:Int)))))).bind λHp =>
 some (.inl (Hp,aM (ta.2+1)))
 else
 some (.inr ta.1))) (u',0)).bind λAM =>
 (bif AM then
 some ((⟨([]:List bT),([]:List fE),([]:List Prod),⟨#[]⟩,⟨#[]⟩⟩:bO),4,0,⟨#[]⟩)
 else
 some ((⟨l_,k3,bt.aG.bj,a0.cx,a0.cE⟩:bO),0,0,⟨#[]⟩))))
def x7 (a0:Source):Option (bO × Bool) :=
 (we a0).bind λa8 =>
 some (a8.1,decide (a8.2.1=0))
def pM (a0:(List Int)) (aF:Int):Option ((List Int)) :=
 (b6 (R:=Int) (λ(s1:Int) =>
 ((bif decide (0<s1) then ((idx a0 (aM (s1 - 1))).bind λbQ=>some (decide (aF<bQ))) else some false)).bind λoA =>
 (bif oA then
 some (.inl (aM (s1 - 1)))
 else
 some (.inr s1))) (a0.length:Int)).bind λx2 =>
 ((bif decide (0<x2) then ((idx a0 (aM (x2 - 1))).bind λcy=>some (decide (cy=aF))) else some false)).bind λie =>
 (bif ie then
 some a0
 else
 (nP a0 0 x2).bind λeu =>
 (dc ([]:List Int) eu).bind λcm =>
 (dc (([]:List Int)++eu) [aF]).bind λeL =>
 (nP a0 x2 a0.length).bind λcO =>
 (dc ((([]:List Int)++eu)++[aF]) cO).bind λcg =>
 some ((([]:List Int)++eu)++[aF]++cO))
def uI (a0:(List Int)) (aF:Int):Option (Bool) :=
 (b6 (R:=(Unit) ⊕ (Bool)) (λ(s1:Int) =>
 (bif decide (s1<(a0.length:Int)) then
 (idx a0 s1).bind λbF =>
 (bif decide (bF=aF) then
 some (.inr (.inr true))
 else
 some (.inl (aM (s1+1))))
 else
 some (.inr (.inl ())))) 0).bind λx2 =>
 (match x2 with
 | .inl a7 =>
 some false
 | .inr bx =>
 some bx)
def Dd (a0:bO):Option ((List Int)) :=
 (b6 (R:=List Int) (λ(s1:List Int × Int) =>
 (bif decide (s1.2<(a0.ba.length:Int)) then
 (dc s1.1 [s1.2]).bind λbQ =>
 some (.inl (s1.1++[s1.2],aM (s1.2+1)))
 else
 some (.inr s1.1))) (([]:List Int),0)).bind λx2 =>
 (b6 (R:=List Int) (λ(db:List Int × Int) =>
 (bif decide (db.2<(a0.ca.length:Int)) then
 (dc db.1 [aM (1000+db.2)]).bind λbH =>
 some (.inl (db.1++[aM (1000+db.2)],aM (db.2+1)))
 else
 some (.inr db.1))) (x2,0)).bind λbV =>
 some bV
structure Item where
 Prod:Int
 fc:Int
 deriving DecidableEq,Inhabited
def zY (a0:bO) (aF:Item):Option (Bool) :=
 ((bif decide (0<=aF.Prod) then (bif decide (aF.Prod<(a0.bj.length:Int)) then (bif decide (0<=aF.fc) then ((idx a0.bj aF.Prod).bind λbx=>some (decide (aF.fc<=(bx.ef.length:Int)))) else some false) else some false) else some false)).bind λkM =>
 some kM
def x_ (a0:bO) (aF:Item):Option (Int) :=
 (((zY a0 aF).bind λa8=>(bif !a8 then some true else ((idx a0.bj aF.Prod).bind λa7=>some (decide (aF.fc=(a7.ef.length:Int))))))).bind λc4 =>
 (bif c4 then
 some (-1)
 else
 (idx a0.bj aF.Prod).bind λbF =>
 (idx bF.ef aF.fc).bind λbV =>
 some bV)
def fS:bI Item:=⟨2,λx=>[ae x.Prod,ae x.fc],λ_=>rfl,λ_=>dn.bo⟩
instance:Flat fS:=⟨λ_=>rfl⟩
instance:lW fS:=⟨λx=>(inferInstance:jv [ae x.Prod,ae x.fc])⟩
instance:gO fS fS:=⟨rfl,λx=>(inferInstance:dq [ae x.Prod,ae x.fc] [ae x.Prod,ae x.fc])⟩
def xY (a0:(List Item)) (aF:Item):Option ((List Item)) :=
 (b6 (R:=Int) (λ(s1:Int) =>
 ((bif decide (0<s1) then ((idx a0 (aM (s1 - 1))).bind λbQ=>(bif decide (aF.Prod<bQ.Prod) then some true else ((idx a0 (aM (s1 - 1))).bind λbV=>(bif decide (bV.Prod=aF.Prod) then ((idx a0 (aM (s1 - 1))).bind λcy=>some (decide (aF.fc<cy.fc))) else some false)))) else some false)).bind λie =>
 (bif ie then
 some (.inl (aM (s1 - 1)))
 else
 some (.inr s1))) (a0.length:Int)).bind λx2 =>
 ((bif decide (0<x2) then ((idx a0 (aM (x2 - 1))).bind λcm=>some (decide (cm.Prod=aF.Prod)&&(decide (cm.fc=aF.fc)&&true))) else some false)).bind λnt =>
 (bif nt then
 some a0
 else
 (nP a0 0 x2).bind λcg =>
 (dc ([]:List Item) cg).bind λbS =>
 (dc (([]:List Item)++cg) [aF]).bind λdW =>
 (nP a0 x2 a0.length).bind λff =>
 (dc ((([]:List Item)++cg)++[aF]) ff).bind λdO =>
 some ((([]:List Item)++cg)++[aF]++ff))
def CR (a0:bO) (aF:(List Item)):Option ((List Item)) :=
 (b6 (R:=List Item) (λ(s1:List Item × Int) =>
 (bif decide (s1.2<(aF.length:Int)) then
 ((idx aF s1.2).bind λbF =>
 (zY a0 bF).bind λbV =>
 ((bif bV then
 (idx aF s1.2).bind λbH =>
 (xY s1.1 bH).bind λcp =>
 some cp
 else
 some s1.1)).bind λfe =>
 some fe).bind λkT =>
 some (.inl (kT,aM (s1.2+1)))
 else
 some (.inr s1.1))) (([]:List Item),0)).bind λx2 =>
 some x2
def x9 (a0:bO) (aF:(List Item)):Option ((List Item)) :=
 (CR a0 aF).bind λa8 =>
 (b6 (R:=List Item) (λ(s2:List Item × Int) =>
 (bif !decide (s2.2=(s2.1.length:Int)) then
 (((b6 (R:=List Item) (λ(ea:List Item × Int) =>
 (bif decide (ea.2<(s2.1.length:Int)) then
 (idx ea.1 ea.2).bind λeu =>
 (x_ a0 eu).bind λcm =>
 (b6 (R:=List Item) (λ(e2:List Item × Int) =>
 ((bif decide (e2.2<(a0.bj.length:Int)) then some (decide (1000<=cm)) else some false)).bind λnu =>
 (bif nu then
 ((idx a0.bj e2.2).bind λe9 =>
 ((bif decide (e9.Left=aM (cm - 1000)) then
 (xY e2.1 (⟨e2.2,0⟩:Item)).bind λgu =>
 some gu
 else
 some e2.1)).bind λmy =>
 some my).bind λxD =>
 some (.inl (xD,aM (e2.2+1)))
 else
 some (.inr e2.1))) (ea.1,0)).bind λcO =>
 (bif !decide ((cO.length:Int)=(s2.1.length:Int)) then
 some (.inr cO)
 else
 some (.inl (cO,aM (ea.2+1))))
 else
 some (.inr ea.1))) (s2.1,0)).bind λcy =>
 some cy).bind λkV =>
 some (kV,(s2.1.length:Int))).bind λkU =>
 some (.inl (kU.1,kU.2))
 else
 some (.inr s2.1))) (a8,(-1))).bind λa7 =>
 some a7
def Df (a0:bO) (aF:(List Item)) (a2:Int):Option ((List Item)) :=
 (x9 a0 aF).bind λa8 =>
 (b6 (R:=List Item) (λ(s2:List Item × Int) =>
 (bif decide (s2.2<(a8.length:Int)) then
 ((idx a8 s2.2).bind λbV =>
 (x_ a0 bV).bind λb2 =>
 ((bif decide (0<=b2) then some (decide (b2=a2)) else some false)).bind λie =>
 ((bif ie then
 (idx a8 s2.2).bind λcm =>
 (idx a8 s2.2).bind λeL =>
 (xY s2.1 (⟨cm.Prod,aM (eL.fc+1)⟩:Item)).bind λcO =>
 some cO
 else
 some s2.1)).bind λjo =>
 some jo).bind λkU =>
 some (.inl (kU,aM (s2.2+1)))
 else
 some (.inr s2.1))) (([]:List Item),0)).bind λa7 =>
 some a7
def CS (a0:(List Item)) (aF:(List Item)):Option (Bool) :=
 (bif !decide ((a0.length:Int)=(aF.length:Int)) then
 some false
 else
 (b6 (R:=(Unit) ⊕ (Bool)) (λ(s2:Int) =>
 (bif decide (s2<(a0.length:Int)) then
 (idx a0 s2).bind λbV =>
 (idx aF s2).bind λb2 =>
 (bif !(decide (bV.Prod=b2.Prod)&&(decide (bV.fc=b2.fc)&&true)) then
 some (.inr (.inr false))
 else
 some (.inl (aM (s2+1))))
 else
 some (.inr (.inl ())))) 0).bind λa7 =>
 (match a7 with
 | .inl bx =>
 some true
 | .inr bQ =>
 some bQ))
structure Move where
 Sym:Int
 jy:Int
 deriving DecidableEq,Inhabited
structure State where
 Kernel:(List Item)
 eV:(List Move)
 deriving DecidableEq,Inhabited
def lE:bI Move:=⟨2,λx=>[ae x.Sym,ae x.jy],λ_=>rfl,λ_=>dn.bo⟩
instance:Flat lE:=⟨λ_=>rfl⟩
instance:lW lE:=⟨λx=>(inferInstance:jv [ae x.Sym,ae x.jy])⟩
instance:gO lE lE:=⟨rfl,λx=>(inferInstance:dq [ae x.Sym,ae x.jy] [ae x.Sym,ae x.jy])⟩
def gL:bI State:=⟨2,λx=>[ah fS x.Kernel,ah lE x.eV],λ_=>rfl,λ_=>dn.bo⟩
instance:Flat gL:=⟨λ_=>rfl⟩
instance:gO gL gL:=⟨rfl,λx=>(inferInstance:dq [ah fS x.Kernel,ah lE x.eV] [ah fS x.Kernel,ah lE x.eV])⟩
def Dg (a0:(List State)) (aF:(List Item)):Option (Int) :=
 (b6 (R:=(Unit) ⊕ (Int)) (λ(s1:Int) =>
 (bif decide (s1<(a0.length:Int)) then
 (idx a0 s1).bind λbF =>
 (CS bF.Kernel aF).bind λbV =>
 (bif bV then
 some (.inr (.inr s1))
 else
 some (.inl (aM (s1+1))))
 else
 some (.inr (.inl ())))) 0).bind λx2 =>
 (match x2 with
 | .inl a7 =>
 some (-1)
 | .inr bx =>
 some bx)
def gX:bI State:=⟨2,λx=>[ah fS x.Kernel,ak lE x.eV],λ_=>rfl,λ_=>dn.bo⟩
instance:gO gX gL:=⟨rfl,λx=>(inferInstance:dq [ah fS x.Kernel,ak lE x.eV] [ah fS x.Kernel,ah lE x.eV])⟩
def Ak (a0:bO):Option ((List State) × Int) :=
 (Dd a0).bind λa8 =>
 (b6 (R:=(List State) ⊕ (List State × Int)) (λ(s2:List State × Int) =>
 (bif decide (s2.2<(s2.1.length:Int)) then
 (idx s2.1 s2.2).bind λbV =>
 (x9 a0 bV.Kernel).bind λb2 =>
 (b6 (R:=List Int) (λ(h8:List Int × Int) =>
 (bif decide (h8.2<(b2.length:Int)) then
 ((idx b2 h8.2).bind λeL =>
 (x_ a0 eL).bind λcO =>
 ((bif decide (0<=cO) then
 (pM h8.1 cO).bind λdW =>
 some dW
 else
 some h8.1)).bind λmx =>
 some mx).bind λiE =>
 some (.inl (iE,aM (h8.2+1)))
 else
 some (.inr h8.1))) (([]:List Int),0)).bind λbH =>
 (b6 (R:=(List State) ⊕ (List State × Int)) (λ(de:List State × Int) =>
 (bif decide (de.2<(a8.length:Int)) then
 (idx a8 de.2).bind λgu =>
 (uI bH gu).bind λiv =>
 (bif !iv then
 some (.inl (de.1,aM (de.2+1)))
 else
 (idx de.1 s2.2).bind λee =>
 (idx a8 de.2).bind λc3 =>
 (Df a0 ee.Kernel c3).bind λeA =>
 (Dg de.1 eA).bind λh_ =>
 (bif decide (h_<0) then
 (bif decide ((de.1.length:Int)=150) then
 some (.inr (.inr (([]:List State),4)))
 else
 (dc de.1 [(⟨eA,([]:List Move)⟩:State)]).bind λfu =>
 (idx (de.1++[(⟨eA,([]:List Move)⟩:State)]) s2.2).bind λk2 =>
 (idx a8 de.2).bind λeo =>
 (dc k2.eV [(⟨eo,(de.1.length:Int)⟩:Move)]).bind λpT =>
 some (.inl ((de.1++[(⟨eA,([]:List Move)⟩:State)]).set s2.2.toNat (⟨k2.Kernel,k2.eV++[(⟨eo,(de.1.length:Int)⟩:Move)]⟩:State),aM (de.2+1))))
 else
 (idx de.1 s2.2).bind λjV =>
 (idx a8 de.2).bind λc7 =>
 (dc jV.eV [(⟨c7,h_⟩:Move)]).bind λgy =>
 some (.inl (de.1.set s2.2.toNat (⟨jV.Kernel,jV.eV++[(⟨c7,h_⟩:Move)]⟩:State),aM (de.2+1)))))
 else
 some (.inr (.inl de.1)))) (s2.1,0)).bind λdO =>
 (match dO with
 | .inl e9 =>
 some (.inl (e9,aM (s2.2+1)))
 | .inr gm =>
 some (.inr (.inr (gm.1,gm.2))))
 else
 some (.inr (.inl s2.1)))) ([(⟨[(⟨0,0⟩:Item)],([]:List Move)⟩:State)],0)).bind λa7 =>
 (match a7 with
 | .inl bx =>
 some (bx,0)
 | .inr bQ =>
 some (bQ.1,bQ.2))
def x5 (a0:Source):Option (bO × (List State) × Bool) :=
 (x7 a0).bind λa8 =>
 (bif !a8.2 then
 some (a8.1,([]:List State),false)
 else
 (Ak a8.1).bind λa7 =>
 some (a8.1,a7.1,decide (a7.2=0)))
def rl (a0:(List State)) (aF:Int) (a2:Int):Option (Int) :=
 (b6 (R:=(Unit) ⊕ (Int)) (λ(s1:Int) =>
 ((bif decide (0<=aF) then (bif decide (aF<(a0.length:Int)) then ((idx a0 aF).bind λbV=>some (decide (s1<(bV.eV.length:Int)))) else some false) else some false)).bind λtG =>
 (bif tG then
 (idx a0 aF).bind λbH =>
 (idx bH.eV s1).bind λcp =>
 (bif decide (cp.Sym=a2) then
 (idx a0 aF).bind λcm =>
 (idx cm.eV s1).bind λeL =>
 some (.inr (.inr eL.jy))
 else
 some (.inl (aM (s1+1))))
 else
 some (.inr (.inl ())))) 0).bind λx2 =>
 (match x2 with
 | .inl a7 =>
 some (-1)
 | .inr bx =>
 some bx)
structure Cell where
 State:Int
 bT:Int
 j1:Int
 lT:Bool
 bj:(List Int)
 deriving DecidableEq,Inhabited
def iC:bI Cell:=⟨5,λx=>[ae x.State,ae x.bT,ae x.j1,a_ x.lT,ah al x.bj],λ_=>rfl,λ_=>dn.bo⟩
instance:Flat iC:=⟨λ_=>rfl⟩
instance:gO iC iC:=⟨rfl,λx=>(inferInstance:dq [ae x.State,ae x.bT,ae x.j1,a_ x.lT,ah al x.bj] [ae x.State,ae x.bT,ae x.j1,a_ x.lT,ah al x.bj])⟩
instance {x:Cell}:dq (iC.cells x) [ae x.State,ae x.bT,ae x.j1,a_ x.lT,ah al x.bj]:=(inferInstance:dq [ae x.State,ae x.bT,ae x.j1,a_ x.lT,ah al x.bj] [ae x.State,ae x.bT,ae x.j1,a_ x.lT,ah al x.bj])
def Ag (a0:Cell):Option (Int) :=
 ((bif decide (0<=a0.j1) then
 some (aM ((a0.bj.length:Int)+1))
 else
 some (a0.bj.length:Int))).bind λjn =>
 ((bif a0.lT then
 some (aM (jn+1))
 else
 some jn)).bind λir =>
 some ir
structure k6 where
 State:Int
 Prod:Int
 ba:(List Int)
 deriving DecidableEq,Inhabited
def rS:bI k6:=⟨3,λx=>[ae x.State,ae x.Prod,ah al x.ba],λ_=>rfl,λ_=>dn.bo⟩
instance:Flat rS:=⟨λ_=>rfl⟩
instance:gO rS rS:=⟨rfl,λx=>(inferInstance:dq [ae x.State,ae x.Prod,ah al x.ba] [ae x.State,ae x.Prod,ah al x.ba])⟩
instance {x:k6}:dq (rS.cells x) [ae x.State,ae x.Prod,ah al x.ba]:=(inferInstance:dq [ae x.State,ae x.Prod,ah al x.ba] [ae x.State,ae x.Prod,ah al x.ba])
def C7 (a0:bO) (aF:(List State)) (a2:(List k6)):Option ((List Cell)) :=
 (b6 (R:=List Cell) (λ(s1:List Cell × Int) =>
 (bif decide (s1.2<(aF.length:Int)) then
 (b6 (R:=List Cell) (λ(cj:List Cell × Int) =>
 (bif decide (cj.2<(a0.ba.length:Int)) then
 ((rl aF s1.2 cj.2).bind λbH =>
 (b6 (R:=Bool) (λ(js:Bool × Int) =>
 (idx aF s1.2).bind λeL =>
 (bif decide (js.2<(eL.Kernel.length:Int)) then
 (idx aF s1.2).bind λcg =>
 (idx cg.Kernel js.2).bind λbS =>
 ((bif js.1 then some true else (bif decide (cj.2=0) then (bif decide (bS.Prod=0) then some (decide (bS.fc=1)) else some false) else some false))).bind λp8 =>
 some (.inl (p8,aM (js.2+1)))
 else
 some (.inr js.1))) (false,0)).bind λeu =>
 (b6 (R:=List Int) (λ(iF:List Int × Int) =>
 (bif decide (iF.2<(a2.length:Int)) then
 ((((idx a2 iF.2).bind λee=>(bif decide (ee.State=s1.2) then ((idx a2 iF.2).bind λeA=>((uI eA.ba cj.2).bind λh_=>some h_)) else some false))).bind λtE =>
 ((bif tE then
 (idx a2 iF.2).bind λk2 =>
 (pM iF.1 k2.Prod).bind λeo =>
 some eo
 else
 some iF.1)).bind λpE =>
 some pE).bind λdY =>
 some (.inl (dY,aM (iF.2+1)))
 else
 some (.inr iF.1))) (([]:List Int),0)).bind λfB =>
 (Ag (⟨s1.2,cj.2,bH,eu,fB⟩:Cell)).bind λpT =>
 ((bif decide (0<pT) then
 (dc cj.1 [(⟨s1.2,cj.2,bH,eu,fB⟩:Cell)]).bind λgy =>
 some (cj.1++[(⟨s1.2,cj.2,bH,eu,fB⟩:Cell)])
 else
 some cj.1)).bind λJU =>
 some JU).bind λqq =>
 some (.inl (qq,aM (cj.2+1)))
 else
 some (.inr cj.1))) (s1.1,0)).bind λbF =>
 some (.inl (bF,aM (s1.2+1)))
 else
 some (.inr s1.1))) (([]:List Cell),0)).bind λx2 =>
 some x2
def An (a0:(List (List Int))) (aF:(List (List Int))):Option ((List (List Int))) :=
 (b6 (R:=List (List Int)) (λ(s1:List (List Int) × Bool) =>
 (bif s1.2 then
 (b6 (R:=List (List Int) × Bool) (λ(cj:List (List Int) × Bool × Int) =>
 (bif decide (cj.2.2<(cj.1.length:Int)) then
 (idx aF cj.2.2).bind λcy =>
 (idx cj.1 cj.2.2).bind λbH =>
 (b6 (R:=List (List Int)) (λ(js:List (List Int) × Int) =>
 (bif decide (js.2<(cy.length:Int)) then
 (b6 (R:=List (List Int)) (λ(hV:List (List Int) × Int) =>
 (idx cy js.2).bind λdW =>
 (idx hV.1 dW).bind λff =>
 (bif decide (hV.2<(ff.length:Int)) then
 (idx hV.1 cj.2.2).bind λe9 =>
 (idx cy js.2).bind λgm =>
 (idx hV.1 gm).bind λfB =>
 (idx fB hV.2).bind λgu =>
 (pM e9 gu).bind λiv =>
 some (.inl (hV.1.set cj.2.2.toNat iv,aM (hV.2+1)))
 else
 some (.inr hV.1))) (js.1,0)).bind λcg =>
 some (.inl (cg,aM (js.2+1)))
 else
 some (.inr js.1))) (cj.1,0)).bind λeu =>
 ((bif cj.2.1 then some true else ((idx eu cj.2.2).bind λee=>some (!decide ((ee.length:Int)=(bH.length:Int)))))).bind λwU =>
 some (.inl (eu,wU,aM (cj.2.2+1)))
 else
 some (.inr (cj.1,cj.2.1)))) (s1.1,false,0)).bind λbF =>
 some (.inl (bF.1,bF.2))
 else
 some (.inr s1.1))) (a0,true)).bind λx2 =>
 some x2
structure Trans where
 State:Int
 fE:Int
 deriving DecidableEq,Inhabited
def p':bI Trans:=⟨2,λx=>[ae x.State,ae x.fE],λ_=>rfl,λ_=>dn.bo⟩
instance:Flat p':=⟨λ_=>rfl⟩
instance:lW p':=⟨λx=>(inferInstance:jv [ae x.State,ae x.fE])⟩
instance:gO p' p':=⟨rfl,λx=>(inferInstance:dq [ae x.State,ae x.fE] [ae x.State,ae x.fE])⟩
def qx (a0:(List State)):Option ((List Trans)) :=
 (b6 (R:=List Trans) (λ(s1:List Trans × Int) =>
 (bif decide (s1.2<(a0.length:Int)) then
 (b6 (R:=List Trans) (λ(cj:List Trans × Int) =>
 (idx a0 s1.2).bind λb2 =>
 (bif decide (cj.2<(b2.eV.length:Int)) then
 ((idx a0 s1.2).bind λcp =>
 (idx cp.eV cj.2).bind λeu =>
 ((bif decide (1000<=eu.Sym) then
 (idx a0 s1.2).bind λcO =>
 (idx cO.eV cj.2).bind λcg =>
 (dc cj.1 [(⟨s1.2,cg.Sym⟩:Trans)]).bind λbS =>
 some (cj.1++[(⟨s1.2,cg.Sym⟩:Trans)])
 else
 some cj.1)).bind λiE =>
 some iE).bind λjI =>
 some (.inl (jI,aM (cj.2+1)))
 else
 some (.inr cj.1))) (s1.1,0)).bind λbF =>
 some (.inl (bF,aM (s1.2+1)))
 else
 some (.inr s1.1))) (([]:List Trans),0)).bind λx2 =>
 some x2
def CT (a0:(List Item)):Option (Bool) :=
 (b6 (R:=(Unit) ⊕ (Bool)) (λ(s1:Int) =>
 (bif decide (s1<(a0.length:Int)) then
 (((idx a0 s1).bind λbF=>(bif decide (bF.Prod=0) then ((idx a0 s1).bind λb2=>some (decide (b2.fc=1))) else some false))).bind λoB =>
 (bif oB then
 some (.inr (.inr true))
 else
 some (.inl (aM (s1+1))))
 else
 some (.inr (.inl ())))) 0).bind λx2 =>
 (match x2 with
 | .inl a7 =>
 some false
 | .inr bx =>
 some bx)
def Dh (a0:(List State)):Option ((List (List Int))) :=
 (qx a0).bind λa8 =>
 (b6 (R:=List (List Int)) (λ(s2:List (List Int) × Int) =>
 (bif decide (s2.2<(a8.length:Int)) then
 (idx a8 s2.2).bind λbF =>
 (idx a8 s2.2).bind λbV =>
 (rl a0 bF.State bV.fE).bind λb2 =>
 (idx a0 b2).bind λcy =>
 (CT cy.Kernel).bind λbH =>
 ((bif bH then
 (dc ([]:List Int) [0]).bind λcm =>
 some [0]
 else
 some ([]:List Int))).bind λjo =>
 (b6 (R:=List Int) (λ(e2:List Int × Int) =>
 (idx a0 b2).bind λbS =>
 (bif decide (e2.2<(bS.eV.length:Int)) then
 ((idx a0 b2).bind λdO =>
 (idx dO.eV e2.2).bind λe9 =>
 ((bif decide (e9.Sym<1000) then
 (idx a0 b2).bind λgu =>
 (idx gu.eV e2.2).bind λiv =>
 (pM e2.1 iv.Sym).bind λgx =>
 some gx
 else
 some e2.1)).bind λmy =>
 some my).bind λfb =>
 some (.inl (fb,aM (e2.2+1)))
 else
 some (.inr e2.1))) (jo,0)).bind λcO =>
 (dc s2.1 [cO]).bind λee =>
 some (.inl (s2.1++[cO],aM (s2.2+1)))
 else
 some (.inr s2.1))) (([]:List (List Int)),0)).bind λa7 =>
 some a7
def z6 (a0:(List Bool)) (aF:(List Int)):Option (Bool) :=
 (b6 (R:=(Unit) ⊕ (Bool)) (λ(s1:Int) =>
 (bif decide (s1<(aF.length:Int)) then
 (((idx aF s1).bind λbF=>(bif decide (bF<1000) then some true else ((idx aF s1).bind λb2=>((idx a0 (aM (b2 - 1000))).bind λcy=>some (!cy)))))).bind λie =>
 (bif ie then
 some (.inr (.inr false))
 else
 some (.inl (aM (s1+1))))
 else
 some (.inr (.inl ())))) 0).bind λx2 =>
 (match x2 with
 | .inl a7 =>
 some true
 | .inr bx =>
 some bx)
def zZ (a0:bO):Option ((List Bool)) :=
 (nc (a0.ca.length:Int) false).bind λa8 =>
 (b6 (R:=List Bool) (λ(s2:List Bool × Bool) =>
 (bif s2.2 then
 (b6 (R:=List Bool × Bool) (λ(db:List Bool × Bool × Int) =>
 (bif decide (db.2.2<(a0.bj.length:Int)) then
 ((idx a0.bj db.2.2).bind λcp =>
 (((idx db.1 cp.Left).bind λeu=>(bif !eu then ((z6 db.1 cp.ef).bind λeL=>some eL) else some false))).bind λtD =>
 ((bif tD then
 (idx db.1 cp.Left).bind λdW =>
 some (db.1.set cp.Left.toNat true,true)
 else
 some (db.1,db.2.1))).bind λmx =>
 some (mx.1,mx.2)).bind λjI =>
 some (.inl (jI.1,jI.2,aM (db.2.2+1)))
 else
 some (.inr (db.1,db.2.1)))) (s2.1,false,0)).bind λbV =>
 some (.inl (bV.1,bV.2))
 else
 some (.inr s2.1))) (a8,true)).bind λa7 =>
 some a7
def z1 (a0:(List Trans)) (aF:Int) (a2:Int):Option (Int) :=
 (b6 (R:=(Unit) ⊕ (Int)) (λ(s1:Int) =>
 (bif decide (s1<(a0.length:Int)) then
 (((idx a0 s1).bind λbF=>(bif decide (bF.State=aF) then ((idx a0 s1).bind λb2=>some (decide (b2.fE=a2))) else some false))).bind λoB =>
 (bif oB then
 some (.inr (.inr s1))
 else
 some (.inl (aM (s1+1))))
 else
 some (.inr (.inl ())))) 0).bind λx2 =>
 (match x2 with
 | .inl a7 =>
 some (-1)
 | .inr bx =>
 some bx)
def Di (a0:bO) (aF:(List State)):Option ((List (List Int))) :=
 (qx aF).bind λa8 =>
 (zZ a0).bind λx2 =>
 (b6 (R:=List (List Int)) (λ(d':List (List Int) × Int) =>
 (bif decide (d'.2<(a8.length:Int)) then
 (idx a8 d'.2).bind λbV =>
 (idx a8 d'.2).bind λb2 =>
 (rl aF bV.State b2.fE).bind λcy =>
 (b6 (R:=List Int) (λ(gr:List Int × Int) =>
 (idx aF cy).bind λcm =>
 (bif decide (gr.2<(cm.eV.length:Int)) then
 ((idx aF cy).bind λcg =>
 (idx cg.eV gr.2).bind λbS =>
 ((bif decide (1000<=bS.Sym) then ((idx x2 (aM (bS.Sym - 1000))).bind λff=>some ff) else some false)).bind λHr =>
 ((bif Hr then
 (z1 a8 cy bS.Sym).bind λfB =>
 (pM gr.1 fB).bind λgu =>
 some gu
 else
 some gr.1)).bind λnJ =>
 some nJ).bind λob =>
 some (.inl (ob,aM (gr.2+1)))
 else
 some (.inr gr.1))) (([]:List Int),0)).bind λcp =>
 (dc d'.1 [cp]).bind λiv =>
 some (.inl (d'.1++[cp],aM (d'.2+1)))
 else
 some (.inr d'.1))) (([]:List (List Int)),0)).bind λbx =>
 some bx
def Ao (a0:(List State)) (aF:Int) (a2:(List Int)):Option (Int) :=
 (b6 (R:=Int) (λ(s1:Int × Int) =>
 ((bif decide (s1.2<(a2.length:Int)) then some (decide (0<=s1.1)) else some false)).bind λkM =>
 (bif kM then
 (idx a2 s1.2).bind λbV =>
 (rl a0 s1.1 bV).bind λb2 =>
 some (.inl (b2,aM (s1.2+1)))
 else
 some (.inr s1.1))) (aF,0)).bind λx2 =>
 some x2
def Dj (a0:bO) (aF:(List State)):Option ((List (List Int))) :=
 (qx aF).bind λa8 =>
 (zZ a0).bind λx2 =>
 (nc (a8.length:Int) ([]:List Int)).bind λa7 =>
 (b6 (R:=List (List Int)) (λ(cY:List (List Int) × Int) =>
 (bif decide (cY.2<(a8.length:Int)) then
 (b6 (R:=List (List Int)) (λ(ea:List (List Int) × Int) =>
 (bif decide (ea.2<(a0.bj.length:Int)) then
 ((idx a0.bj ea.2).bind λcm =>
 (idx a0.bj ea.2).bind λeL =>
 (idx a8 cY.2).bind λcO =>
 (bif !decide (aM (1000+eL.Left)=cO.fE) then
 some ea.1
 else
 (b6 (R:=List (List Int)) (λ(lQ:List (List Int) × Int) =>
 (bif decide (lQ.2<(cm.ef.length:Int)) then
 ((((idx cm.ef lQ.2).bind λgm=>(bif decide (gm<1000) then some true else ((nP cm.ef (aM (lQ.2+1)) cm.ef.length).bind λgu=>((z6 x2 gu).bind λiv=>some (!iv)))))).bind λHv =>
 (bif Hv then
 some lQ.1
 else
 (idx a8 cY.2).bind λc3 =>
 (nP cm.ef 0 lQ.2).bind λeA =>
 (Ao aF c3.State eA).bind λh_ =>
 ((bif decide (0<=h_) then
 (idx cm.ef lQ.2).bind λfu =>
 (z1 a8 h_ fu).bind λk2 =>
 ((bif decide (0<=k2) then
 (idx lQ.1 k2).bind λjV =>
 (pM jV cY.2).bind λc7 =>
 some (lQ.1.set k2.toNat c7)
 else
 some lQ.1)).bind λJT =>
 some JT
 else
 some lQ.1)).bind λxH =>
 some xH)).bind λnJ =>
 some (.inl (nJ,aM (lQ.2+1)))
 else
 some (.inr lQ.1))) (ea.1,0)).bind λdW =>
 some dW)).bind λeN =>
 some (.inl (eN,aM (ea.2+1)))
 else
 some (.inr ea.1))) (cY.1,0)).bind λcy =>
 some (.inl (cy,aM (cY.2+1)))
 else
 some (.inr cY.1))) (a7,0)).bind λbQ =>
 some bQ
def Al (a0:bO) (aF:(List State)):Option ((List (List Int))) :=
 (Dh aF).bind λa8 =>
 (Di a0 aF).bind λx2 =>
 (An a8 x2).bind λa7 =>
 (Dj a0 aF).bind λbx =>
 (An a7 bx).bind λbQ =>
 some bQ
def C' (a0:bO) (aF:(List Item)):Option ((List Int)) :=
 (x9 a0 aF).bind λa8 =>
 (b6 (R:=List Int) (λ(s2:List Int × Int) =>
 (bif decide (s2.2<(a8.length:Int)) then
 ((((idx a8 s2.2).bind λbV=>(bif decide (0<bV.Prod) then ((idx a8 s2.2).bind λcy=>((idx a8 s2.2).bind λbH=>((idx a0.bj bH.Prod).bind λcp=>some (decide (cy.fc=(cp.ef.length:Int)))))) else some false))).bind λwS =>
 ((bif wS then
 (idx a8 s2.2).bind λcO =>
 (dc s2.1 [cO.Prod]).bind λcg =>
 some (s2.1++[cO.Prod])
 else
 some s2.1)).bind λiE =>
 some iE).bind λkU =>
 some (.inl (kU,aM (s2.2+1)))
 else
 some (.inr s2.1))) (([]:List Int),0)).bind λa7 =>
 some a7
def Da (a0:bO) (aF:(List State)) (a2:Int) (a3:Int):Option ((List Int)) :=
 ((bif decide (a2<0) then some true else (bif decide ((aF.length:Int)<=a2) then some true else (bif decide (a3<1) then some true else some (decide ((a0.bj.length:Int)<=a3)))))).bind λc4 =>
 (bif c4 then
 some ([]:List Int)
 else
 (qx aF).bind λbF =>
 (b6 (R:=List Int) (λ(dr:List Int × Int) =>
 (bif decide (dr.2<(bF.length:Int)) then
 ((((idx bF dr.2).bind λeu=>((idx a0.bj a3).bind λcm=>(bif decide (eu.fE=aM (1000+cm.Left)) then ((idx bF dr.2).bind λcO=>((idx a0.bj a3).bind λcg=>((Ao aF cO.State cg.ef).bind λbS=>some (decide (bS=a2))))) else some false)))).bind λnu =>
 ((bif nu then
 (dc dr.1 [dr.2]).bind λe9 =>
 some (dr.1++[dr.2])
 else
 some dr.1)).bind λfb =>
 some fb).bind λjo =>
 some (.inl (jo,aM (dr.2+1)))
 else
 some (.inr dr.1))) (([]:List Int),0)).bind λb2 =>
 some b2)
def C8 (a0:bO) (aF:(List State)):Option ((List k6)) :=
 (Al a0 aF).bind λa8 =>
 (b6 (R:=List k6) (λ(s2:List k6 × Int) =>
 (bif decide (s2.2<(aF.length:Int)) then
 (idx aF s2.2).bind λbF =>
 (C' a0 bF.Kernel).bind λbV =>
 (b6 (R:=List k6) (λ(ea:List k6 × Int) =>
 (bif decide (ea.2<(bV.length:Int)) then
 (idx bV ea.2).bind λeu =>
 (idx bV ea.2).bind λcm =>
 (Da a0 aF s2.2 cm).bind λeL =>
 (b6 (R:=List Int) (λ(hV:List Int × Int) =>
 (bif decide (hV.2<(eL.length:Int)) then
 (b6 (R:=List Int) (λ(de:List Int × Int) =>
 (idx eL hV.2).bind λgm =>
 (idx a8 gm).bind λfB =>
 (bif decide (de.2<(fB.length:Int)) then
 (idx eL hV.2).bind λiv =>
 (idx a8 iv).bind λgx =>
 (idx gx de.2).bind λee =>
 (pM de.1 ee).bind λc3 =>
 some (.inl (c3,aM (de.2+1)))
 else
 some (.inr de.1))) (hV.1,0)).bind λdO =>
 some (.inl (dO,aM (hV.2+1)))
 else
 some (.inr hV.1))) (([]:List Int),0)).bind λcg =>
 (dc ea.1 [(⟨s2.2,eu,cg⟩:k6)]).bind λeA =>
 some (.inl (ea.1++[(⟨s2.2,eu,cg⟩:k6)],aM (ea.2+1)))
 else
 some (.inr ea.1))) (s2.1,0)).bind λcy =>
 some (.inl (cy,aM (s2.2+1)))
 else
 some (.inr s2.1))) (([]:List k6),0)).bind λa7 =>
 some a7
def v8 (a0:Source):Option (bO × (List State) × (List Cell) × Bool) :=
 (x5 a0).bind λa8 =>
 (bif !a8.2.2 then
 some (a8.1,([]:List State),([]:List Cell),false)
 else
 (C8 a8.1 a8.2.1).bind λa7 =>
 (C7 a8.1 a8.2.1 a7).bind λbx =>
 some (a8.1,a8.2.1,bx,true))
def Dk (a0:bO) (aF:Int):Option (Int × Int) :=
 ((bif decide (aF<0) then some true else (bif decide ((a0.bj.length:Int)<=aF) then some true else ((idx a0.bj aF).bind λa7=>some (decide (a7.Prec<0)))))).bind λc4 =>
 (bif c4 then
 some (0,0)
 else
 (idx a0.bj aF).bind λbF =>
 (idx a0.ba bF.Prec).bind λbV =>
 some (bV.Level,bV.fv))
def Db (a0:bO) (aF:Int) (a2:Int):Option (Int) :=
 (Dk a0 aF).bind λa8 =>
 ((bif decide (a8.1=0) then some true else (bif decide (a2<0) then some true else (bif decide ((a0.ba.length:Int)<=a2) then some true else ((idx a0.ba a2).bind λbQ=>some (decide (bQ.Level=0))))))).bind λoA =>
 (bif oA then
 some 0
 else
 (idx a0.ba a2).bind λb2 =>
 (bif decide (a8.1<b2.Level) then
 some 1
 else
 (bif decide (b2.Level<a8.1) then
 some 2
 else
 (bif decide (b2.fv=1) then
 some 2
 else
 (bif decide (b2.fv=2) then
 some 1
 else
 some 3)))))
structure fg where
 State:Int
 bT:Int
 hz:Int
 Drop:Int
 deriving DecidableEq,Inhabited
structure Act where
 Kind:Int
 N:Int
 deriving DecidableEq,Inhabited
def e6:bI fg:=⟨4,λx=>[ae x.State,ae x.bT,ae x.hz,ae x.Drop],λ_=>rfl,λ_=>dn.bo⟩
instance:Flat e6:=⟨λ_=>rfl⟩
instance:lW e6:=⟨λx=>(inferInstance:jv [ae x.State,ae x.bT,ae x.hz,ae x.Drop])⟩
instance:gO e6 e6:=⟨rfl,λx=>(inferInstance:dq [ae x.State,ae x.bT,ae x.hz,ae x.Drop] [ae x.State,ae x.bT,ae x.hz,ae x.Drop])⟩
instance {x:fg}:dq (e6.cells x) [ae x.State,ae x.bT,ae x.hz,ae x.Drop]:=(inferInstance:dq [ae x.State,ae x.bT,ae x.hz,ae x.Drop] [ae x.State,ae x.bT,ae x.hz,ae x.Drop])
def x6 (a0:bO) (aF:Cell):Option (Act × (List fg)) :=
 (b6 (R:=List fg) (λ(s1:List fg × Int) =>
 (bif decide (s1.2<(aF.bj.length:Int)) then
 (idx aF.bj 0).bind λbQ =>
 (idx aF.bj s1.2).bind λbF =>
 (dc s1.1 [(⟨aF.State,aF.bT,bQ,bF⟩:fg)]).bind λbV =>
 some (.inl (s1.1++[(⟨aF.State,aF.bT,bQ,bF⟩:fg)],aM (s1.2+1)))
 else
 some (.inr s1.1))) (([]:List fg),1)).bind λx2 =>
 ((bif aF.lT then
 some (3,0)
 else
 some (1,aF.j1))).bind λfe =>
 (bif decide ((aF.bj.length:Int)=0) then
 some ((⟨fe.1,fe.2⟩:Act),x2)
 else
 (idx aF.bj 0).bind λcp =>
 ((bif decide (aF.j1<0) then some (!aF.lT) else some false)).bind λkq =>
 (bif kq then
 some ((⟨2,cp⟩:Act),x2)
 else
 (Db a0 cp aF.bT).bind λcO =>
 ((bif aF.lT then some true else some (decide (cO=0)))).bind λwT =>
 (bif wT then
 (dc x2 [(⟨aF.State,aF.bT,(-1),cp⟩:fg)]).bind λff =>
 some ((⟨fe.1,fe.2⟩:Act),x2++[(⟨aF.State,aF.bT,(-1),cp⟩:fg)])
 else
 (bif decide (cO=2) then
 some ((⟨2,cp⟩:Act),x2)
 else
 (bif decide (cO=3) then
 some ((⟨4,0⟩:Act),x2)
 else
 some ((⟨fe.1,fe.2⟩:Act),x2))))))
structure gz where
 dI:(List (List Act))
 ei:(List (List Int))
 deriving DecidableEq,Inhabited
def eG:bI Act:=⟨2,λx=>[ae x.Kind,ae x.N],λ_=>rfl,λ_=>dn.bo⟩
instance:Flat eG:=⟨λ_=>rfl⟩
instance:lW eG:=⟨λx=>(inferInstance:jv [ae x.Kind,ae x.N])⟩
instance:gO eG eG:=⟨rfl,λx=>(inferInstance:dq [ae x.Kind,ae x.N] [ae x.Kind,ae x.N])⟩
def Ac (a0:bO) (aF:(List State)) (a2:(List Cell)):Option (gz × (List fg)) :=
 (b6 (R:=List (List Act) × List (List Int) × List fg) (λ(s1:List (List Act) × List (List Int) × List fg × Int) =>
 (bif decide (s1.2.2.2<(aF.length:Int)) then
 (nc (a0.ba.length:Int) (⟨0,0⟩:Act)).bind λbQ =>
 (b6 (R:=List fg × List Act) (λ(db:List fg × List Act × Int) =>
 (bif decide (db.2.2<(a2.length:Int)) then
 ((idx a2 db.2.2).bind λcp =>
 ((bif decide (cp.State=s1.2.2.2) then
 (idx a2 db.2.2).bind λeL =>
 (x6 a0 eL).bind λcO =>
 (idx a2 db.2.2).bind λcg =>
 (idx db.2.1 cg.bT).bind λbS =>
 (dc db.1 cO.2).bind λdW =>
 some (db.1++cO.2,db.2.1.set cg.bT.toNat cO.1)
 else
 some (db.1,db.2.1))).bind λeN =>
 some (eN.1,eN.2)).bind λjI =>
 some (.inl (jI.1,jI.2,aM (db.2.2+1)))
 else
 some (.inr (db.1,db.2.1)))) (s1.2.2.1,bQ,0)).bind λbV =>
 (nc (a0.ca.length:Int) 0).bind λff =>
 (b6 (R:=List Int) (λ(qC:List Int × Int) =>
 (bif decide (qC.2<(qC.1.length:Int)) then
 (rl aF s1.2.2.2 (aM (1000+qC.2))).bind λgu =>
 (idx qC.1 qC.2).bind λiv =>
 some (.inl (qC.1.set qC.2.toNat gu,aM (qC.2+1)))
 else
 some (.inr qC.1))) (ff,0)).bind λe9 =>
 (dc s1.1 [bV.2]).bind λgx =>
 (dc s1.2.1 [e9]).bind λee =>
 some (.inl (s1.1++[bV.2],s1.2.1++[e9],bV.1,aM (s1.2.2.2+1)))
 else
 some (.inr (s1.1,s1.2.1,s1.2.2.1)))) (([]:List (List Act)),([]:List (List Int)),([]:List fg),0)).bind λx2 =>
 some ((⟨x2.1,x2.2.1⟩:gz),x2.2.2)
def C3 (a0:(List Cell)):Option (Int) :=
 (b6 (R:=Int) (λ(s1:Int × Int) =>
 (bif decide (s1.2<(a0.length:Int)) then
 ((idx a0 s1.2).bind λbF =>
 (Ag bF).bind λbV =>
 ((bif decide (1<bV) then
 some (aM (s1.1+1))
 else
 some s1.1)).bind λfe =>
 some fe).bind λkT =>
 some (.inl (kT,aM (s1.2+1)))
 else
 some (.inr s1.1))) (0,0)).bind λx2 =>
 some x2
def uB (a0:Source):Option (bO × gz × Int × Bool) :=
 (v8 a0).bind λa8 =>
 (bif !a8.2.2.2 then
 some (a8.1,(⟨([]:List (List Act)),([]:List (List Int))⟩:gz),0,false)
 else
 (Ac a8.1 a8.2.1 a8.2.2.1).bind λa7 =>
 (C3 a8.2.2.1).bind λbx =>
 some (a8.1,a7.1,bx,true))
structure b3 where
 At:Int
 cc:Int
 deriving DecidableEq,Inhabited
def bU:bI b3:=⟨2,λx=>[ae x.At,ae x.cc],λ_=>rfl,λ_=>dn.bo⟩
instance:Flat bU:=⟨λ_=>rfl⟩
instance:lW bU:=⟨λx=>(inferInstance:jv [ae x.At,ae x.cc])⟩
instance:gO bU bU:=⟨rfl,λx=>(inferInstance:dq [ae x.At,ae x.cc] [ae x.At,ae x.cc])⟩
def Am (a0:(List (List b3))):Option (Bool) :=
 (bif decide (400<(a0.length:Int)) then
 some false
 else
 (b6 (R:=(Unit) ⊕ (Bool)) (λ(s2:Int) =>
 (bif decide (s2<(a0.length:Int)) then
 (idx a0 s2).bind λbV =>
 (b6 (R:=(Unit) ⊕ (Bool)) (λ(ea:List Bool × Int) =>
 (bif decide (ea.2<(bV.length:Int)) then
 (idx bV ea.2).bind λcm =>
 ((bif decide (cm.At<0) then some true else (bif decide (1000<=cm.At) then some true else ((xy 1000 ea.1 cm.At).bind λcg=>some cg)))).bind λwT =>
 (bif wT then
 some (.inr (.inr false))
 else
 (xy 1000 ea.1 cm.At).bind λff =>
 some (.inl (ea.1.set cm.At.toNat true,aM (ea.2+1))))
 else
 some (.inr (.inl ())))) ((List.replicate 1000 false),0)).bind λcy =>
 (match cy with
 | .inl bH =>
 some (.inl (aM (s2+1)))
 | .inr cp =>
 some (.inr (.inr cp)))
 else
 some (.inr (.inl ())))) 0).bind λa7 =>
 (match a7 with
 | .inl bx =>
 some true
 | .inr bQ =>
 some bQ))
def wc (a0:Int):Option (Bool) :=
 some (!decide (a0=a0))
def uH (a0:Int) (aF:Int):Option (Int) :=
 (wc a0).bind λa8 =>
 (wc aF).bind λx2 =>
 (bif a8 then
 (bif x2 then
 some 0
 else
 some (-1))
 else
 (bif x2 then
 some 1
 else
 (bif decide (a0<aF) then
 some (-1)
 else
 (bif decide (aF<a0) then
 some 1
 else
 some 0))))
def Dc (a0:(List Int)):Option (Int) :=
 (b6 (R:=(Unit) ⊕ (Int)) (λ(s1:Int) =>
 (bif decide (s1<(a0.length:Int)) then
 (idx a0 s1).bind λbF =>
 (bif !decide (bF=0) then
 some (.inr (.inr bF))
 else
 some (.inl (aM (s1+1))))
 else
 some (.inr (.inl ())))) 0).bind λx2 =>
 (match x2 with
 | .inl a7 =>
 some 0
 | .inr bx =>
 some bx)
def wb (a0:Int) (aF:Int) (pa:(List (List b3))):Option (Int) :=
 (idx pa aF).bind λa8 =>
 (idx pa a0).bind λx2 =>
 (uH (a8.length:Int) (x2.length:Int)).bind λa7 =>
 (uH a0 aF).bind λbx =>
 (Dc [a7,bx]).bind λbQ =>
 some bQ
def Aq (a0:b3) (pa:Int) (c1:(List Int)):Option (Bool) :=
 ((bif decide (aM (pa+a0.At)<(c1.length:Int)) then ((idx c1 (aM (pa+a0.At))).bind λx2=>some (!decide (x2=0))) else some false)).bind λjM =>
 some jM
def FL (a0:(List b3)) (qY:Int) (qZ:(List Int)):Option (Int) :=
 (b6 (R:=(Unit) ⊕ (Int)) (λ(s1:Int) =>
 (bif decide (s1<(a0.length:Int)) then
 (idx a0 s1).bind λbF =>
 (Aq bF qY qZ).bind λbV =>
 (bif bV then
 some (.inr (.inr s1))
 else
 some (.inl (aM (s1+1))))
 else
 some (.inr (.inl ())))) 0).bind λx2 =>
 (match x2 with
 | .inl a7 =>
 some (-1)
 | .inr bx =>
 some bx)
def FN (a0:(List b3)) (qY:Int) (qZ:(List Int)):Option (Bool) :=
 (FL a0 qY qZ).bind λa8 =>
 some (decide (0<=a8))
def x8 (a0:(List Int)) (aF:(List b3)) (a2:Int):Option (Bool) :=
 (FN aF a2 a0).bind λa8 =>
 some (!a8)
structure e4 where
 c5:(List Int)
 cc:(List Int)
 b7:(List Int)
 deriving DecidableEq,Inhabited
def lD:bI e4:=⟨3,λx=>[ah al x.c5,ah al x.cc,ah al x.b7],λ_=>rfl,λ_=>dn.bo⟩
instance:Flat lD:=⟨λ_=>rfl⟩
instance:gO lD lD:=⟨rfl,λx=>(inferInstance:dq [ah al x.c5,ah al x.cc,ah al x.b7] [ah al x.c5,ah al x.cc,ah al x.b7])⟩
instance {x:e4}:dq (lD.cells x) [ah al x.c5,ah al x.cc,ah al x.b7]:=(inferInstance:dq [ah al x.c5,ah al x.cc,ah al x.b7] [ah al x.c5,ah al x.cc,ah al x.b7])
def rR:bI e4:=⟨3,λx=>[ak al x.c5,ak al x.cc,ak al x.b7],λ_=>rfl,λ_=>dn.bo⟩
instance:lW rR:=⟨λx=>(inferInstance:jv [ak al x.c5,ak al x.cc,ak al x.b7])⟩
instance {x:e4}:dq (rR.cells x) [ah al x.c5,ah al x.cc,ah al x.b7]:=(inferInstance:dq [ak al x.c5,ak al x.cc,ak al x.b7] [ah al x.c5,ah al x.cc,ah al x.b7])
def Ah (a0:(List (List b3))):Option (e4) :=
 (Am a0).bind λa8 =>
 (bif !a8 then
 some (⟨([]:List Int),([]:List Int),([]:List Int)⟩:e4)
 else
 (nc (a0.length:Int) 0).bind λa7 =>
 (b6 (R:=List Int) (λ(cY:List Int × Int) =>
 (bif decide (cY.2<(a0.length:Int)) then
 ((idx a0 cY.2).bind λcy =>
 ((bif decide (0<(cy.length:Int)) then
 (dc cY.1 [cY.2]).bind λeu =>
 some (cY.1++[cY.2])
 else
 some cY.1)).bind λjI =>
 some jI).bind λfe =>
 some (.inl (fe,aM (cY.2+1)))
 else
 some (.inr cY.1))) (([]:List Int),0)).bind λbQ =>
 (pP (λa b=>wb a b a0) bQ).bind λcm =>
 (b6 (R:=e4) (λ(e2:e4 × Int) =>
 (bif decide (e2.2<(cm.length:Int)) then
 (idx cm e2.2).bind λdW =>
 (b6 (R:=List Int) (λ(de:List Int) =>
 (idx a0 dW).bind λgm =>
 (idx de dW).bind λfB =>
 (x8 e2.1.b7 gm fB).bind λgu =>
 (bif !gu then
 (idx de dW).bind λgx =>
 some (.inl (de.set dW.toNat (aM (gx+1))))
 else
 some (.inr de))) e2.1.c5).bind λdO =>
 (idx a0 dW).bind λee =>
 (b6 (R:=List Int × List Int) (λ(kB:List Int × List Int × Int) =>
 (bif decide (kB.2.2<(ee.length:Int)) then
 (idx ee kB.2.2).bind λcP =>
 (idx dO dW).bind λfu =>
 (b6 (R:=List Int × List Int) (λ(dZ:List Int × List Int) =>
 (bif decide ((dZ.2.length:Int)<=aM (fu+cP.At)) then
 (dc dZ.2 [0]).bind λc7 =>
 (dc dZ.1 [0]).bind λgy =>
 some (.inl (dZ.1++[0],dZ.2++[0]))
 else
 some (.inr (dZ.1,dZ.2)))) (kB.1,kB.2.1)).bind λeo =>
 (idx eo.2 (aM (fu+cP.At))).bind λrE =>
 (idx eo.1 (aM (fu+cP.At))).bind λju =>
 some (.inl (eo.1.set (aM (fu+cP.At)).toNat cP.cc,eo.2.set (aM (fu+cP.At)).toNat (aM (dW+1)),aM (kB.2.2+1)))
 else
 some (.inr (kB.1,kB.2.1)))) (e2.1.cc,e2.1.b7,0)).bind λeA =>
 some (.inl ((⟨dO,eA.1,eA.2⟩:e4),aM (e2.2+1)))
 else
 some (.inr e2.1))) ((⟨a7,([]:List Int),([]:List Int)⟩:e4),0)).bind λcO =>
 some cO)
structure Row where
 Def:Int
 e5:(List b3)
 deriving DecidableEq,Inhabited
def jC:bI Row:=⟨2,λx=>[ae x.Def,ah bU x.e5],λ_=>rfl,λ_=>dn.bo⟩
instance:Flat jC:=⟨λ_=>rfl⟩
instance:gO jC jC:=⟨rfl,λx=>(inferInstance:dq [ae x.Def,ah bU x.e5] [ae x.Def,ah bU x.e5])⟩
def uF (a0:(List Row)):Option ((List Int) × e4) :=
 (b6 (R:=List Int × List (List b3)) (λ(s1:List Int × List (List b3) × Int) =>
 (bif decide (s1.2.2<(a0.length:Int)) then
 (idx a0 s1.2.2).bind λbQ =>
 (dc s1.1 [bQ.Def]).bind λbF =>
 (dc s1.2.1 [bQ.e5]).bind λbV =>
 some (.inl (s1.1++[bQ.Def],s1.2.1++[bQ.e5],aM (s1.2.2+1)))
 else
 some (.inr (s1.1,s1.2.1)))) (([]:List Int),([]:List (List b3)),0)).bind λx2 =>
 (Ah x2.2).bind λb2 =>
 some (x2.1,b2)
def wa (a0:(List Int)):Option (Int) :=
 (b6 (R:=Int) (λ(s1:(List (Int × Int)) × Int × Int) =>
 (bif decide (s1.2.2<(a0.length:Int)) then
 ((idx a0 s1.2.2).bind λbF =>
 (sj sh 0 s1.1 bF).bind λbV =>
 (zO sh s1.1 bF (aM (bV+1))).bind λb2 =>
 (sj sh 0 b2 bF).bind λcy =>
 (sj sh 0 b2 s1.2.1).bind λbH =>
 ((bif decide (s1.2.1<0) then some true else (bif decide (0<aM (cy - bH)) then some true else (bif decide (aM (cy - bH)=0) then some (decide (bF<s1.2.1)) else some false)))).bind λnt =>
 ((bif nt then
 some bF
 else
 some s1.2.1)).bind λob =>
 some (b2,ob)).bind λkT =>
 some (.inl (kT.1,kT.2,aM (s1.2.2+1)))
 else
 some (.inr s1.2.1))) (([]:List (Int × Int)),(-1),0)).bind λx2 =>
 some x2
def Ai (a0:Act):Option (Int) :=
 ((bif decide (a0.Kind=1) then (bif decide (0<=a0.N) then some (decide (a0.N<20000)) else some false) else some false)).bind λjM =>
 (bif jM then
 some (aM (a0.N+1))
 else
 ((bif decide (a0.Kind=2) then (bif decide (0<a0.N) then some (decide (a0.N<20000)) else some false) else some false)).bind λkN =>
 (bif kN then
 some (aM (-a0.N))
 else
 ((bif decide (a0.Kind=3) then some (decide (a0.N=0)) else some false)).bind λie =>
 (bif ie then
 some 20001
 else
 ((bif decide (a0.Kind=4) then some (decide (a0.N=0)) else some false)).bind λkq =>
 (bif kq then
 some 20002
 else
 some 0))))
def C4 (a0:gz):Option ((List Row)) :=
 (b6 (R:=List Row) (λ(s1:List Row × Int) =>
 (bif decide (s1.2<(a0.dI.length:Int)) then
 (idx a0.dI s1.2).bind λbQ =>
 (b6 (R:=List Int) (λ(db:List Int × Int) =>
 (bif decide (db.2<(bQ.length:Int)) then
 ((idx bQ db.2).bind λcp =>
 ((bif decide (cp.Kind=2) then
 (dc db.1 [cp.N]).bind λeL =>
 some (db.1++[cp.N])
 else
 some db.1)).bind λeN =>
 some eN).bind λjI =>
 some (.inl (jI,aM (db.2+1)))
 else
 some (.inr db.1))) (([]:List Int),0)).bind λbV =>
 (wa bV).bind λcO =>
 (b6 (R:=List b3) (λ(nj:List b3 × Int) =>
 (bif decide (nj.2<(bQ.length:Int)) then
 ((idx bQ nj.2).bind λe9 =>
 ((bif !decide (e9.Kind=0) then (bif !decide (e9.Kind=2) then some true else some (!decide (e9.N=cO))) else some false)).bind λrO =>
 ((bif rO then
 (Ai e9).bind λee =>
 (dc nj.1 [(⟨nj.2,ee⟩:b3)]).bind λc3 =>
 some (nj.1++[(⟨nj.2,ee⟩:b3)])
 else
 some nj.1)).bind λxF =>
 some xF).bind λxD =>
 some (.inl (xD,aM (nj.2+1)))
 else
 some (.inr nj.1))) (([]:List b3),0)).bind λbS =>
 (dc s1.1 [(⟨cO,bS⟩:Row)]).bind λeA =>
 some (.inl (s1.1++[(⟨cO,bS⟩:Row)],aM (s1.2+1)))
 else
 some (.inr s1.1))) (([]:List Row),0)).bind λx2 =>
 some x2
def C5 (a0:gz):Option ((List Row)) :=
 (bif decide ((a0.ei.length:Int)=0) then
 some ([]:List Row)
 else
 (idx a0.ei 0).bind λx2 =>
 (b6 (R:=List Row) (λ(d':List Row × Int) =>
 (bif decide (d'.2<(x2.length:Int)) then
 (b6 (R:=List Int) (λ(dr:List Int × Int) =>
 (bif decide (dr.2<(a0.ei.length:Int)) then
 ((idx a0.ei dr.2).bind λeu =>
 (idx eu d'.2).bind λcm =>
 ((bif decide (0<=cm) then
 (idx eu d'.2).bind λcg =>
 (dc dr.1 [cg]).bind λbS =>
 some (dr.1++[cg])
 else
 some dr.1)).bind λdd =>
 some dd).bind λjo =>
 some (.inl (jo,aM (dr.2+1)))
 else
 some (.inr dr.1))) (([]:List Int),0)).bind λb2 =>
 (wa b2).bind λdW =>
 (b6 (R:=List b3) (λ(de:List b3 × Int) =>
 (bif decide (de.2<(a0.ei.length:Int)) then
 ((idx a0.ei de.2).bind λgu =>
 (((idx gu d'.2).bind λiv=>(bif decide (0<=iv) then ((idx gu d'.2).bind λee=>some (!decide (ee=dW))) else some false))).bind λwU =>
 ((bif wU then
 (idx gu d'.2).bind λk1 =>
 (dc de.1 [(⟨de.2,k1⟩:b3)]).bind λcP =>
 some (de.1++[(⟨de.2,k1⟩:b3)])
 else
 some de.1)).bind λuv =>
 some uv).bind λJS =>
 some (.inl (JS,aM (de.2+1)))
 else
 some (.inr de.1))) (([]:List b3),0)).bind λdO =>
 (dc d'.1 [(⟨dW,dO⟩:Row)]).bind λfu =>
 some (.inl (d'.1++[(⟨dW,dO⟩:Row)],aM (d'.2+1)))
 else
 some (.inr d'.1))) (([]:List Row),0)).bind λbx =>
 some bx)
def C9 (a0:b3) (aF:b3):Option (Int) :=
 (uH a0.At aF.At).bind λa8 =>
 some a8
def Af (a0:bO):Option ((List b3)) :=
 (b6 (R:=List b3) (λ(s1:List b3 × Int) =>
 (bif decide (s1.2<(a0.ba.length:Int)) then
 ((idx a0.ba s1.2).bind λbF =>
 ((bif decide (0<bF.bN) then
 (dc s1.1 [(⟨bF.bN,s1.2⟩:b3)]).bind λcy =>
 some (s1.1++[(⟨bF.bN,s1.2⟩:b3)])
 else
 some s1.1)).bind λkV =>
 some kV).bind λkT =>
 some (.inl (kT,aM (s1.2+1)))
 else
 some (.inr s1.1))) (([]:List b3),0)).bind λx2 =>
 (pP (λa b=>C9 a b) x2).bind λbH =>
 some bH
structure Tables where
 Def:(List Int)
 dI:e4
 ot:(List Int)
 jZ:e4
 Left:(List Int)
 p0:(List Int)
 p1:(List b3)
 deriving DecidableEq,Inhabited
def mO:bI Tables:=⟨11,λx=>[ah al x.Def,ah al x.dI.c5,ah al x.dI.cc,ah al x.dI.b7,ah al x.ot,ah al x.jZ.c5,ah al x.jZ.cc,ah al x.jZ.b7,ah al x.Left,ah al x.p0,ah bU x.p1],λ_=>rfl,λ_=>dn.bo⟩
instance:Flat mO:=⟨λ_=>rfl⟩
instance:gO mO mO:=⟨rfl,λx=>(inferInstance:dq [ah al x.Def,ah al x.dI.c5,ah al x.dI.cc,ah al x.dI.b7,ah al x.ot,ah al x.jZ.c5,ah al x.jZ.cc,ah al x.jZ.b7,ah al x.Left,ah al x.p0,ah bU x.p1] [ah al x.Def,ah al x.dI.c5,ah al x.dI.cc,ah al x.dI.b7,ah al x.ot,ah al x.jZ.c5,ah al x.jZ.cc,ah al x.jZ.b7,ah al x.Left,ah al x.p0,ah bU x.p1])⟩
instance {x:Tables}:dq (mO.cells x) [ah al x.Def,ah al x.dI.c5,ah al x.dI.cc,ah al x.dI.b7,ah al x.ot,ah al x.jZ.c5,ah al x.jZ.cc,ah al x.jZ.b7,ah al x.Left,ah al x.p0,ah bU x.p1]:=(inferInstance:dq [ah al x.Def,ah al x.dI.c5,ah al x.dI.cc,ah al x.dI.b7,ah al x.ot,ah al x.jZ.c5,ah al x.jZ.cc,ah al x.jZ.b7,ah al x.Left,ah al x.p0,ah bU x.p1] [ah al x.Def,ah al x.dI.c5,ah al x.dI.cc,ah al x.dI.b7,ah al x.ot,ah al x.jZ.c5,ah al x.jZ.cc,ah al x.jZ.b7,ah al x.Left,ah al x.p0,ah bU x.p1])
def uC (a0:bO) (aF:gz):Option (Tables) :=
 (C4 aF).bind λa8 =>
 (uF a8).bind λx2 =>
 (C5 aF).bind λa7 =>
 (uF a7).bind λbx =>
 (b6 (R:=List Int × List Int) (λ(cj:List Int × List Int × Int) =>
 (bif decide (cj.2.2<(a0.bj.length:Int)) then
 (idx a0.bj cj.2.2).bind λcy =>
 (dc cj.1 [cy.Left]).bind λbH =>
 (dc cj.2.1 [(cy.ef.length:Int)]).bind λcp =>
 some (.inl (cj.1++[cy.Left],cj.2.1++[(cy.ef.length:Int)],aM (cj.2.2+1)))
 else
 some (.inr (cj.1,cj.2.1)))) (([]:List Int),([]:List Int),0)).bind λbF =>
 (Af a0).bind λeu =>
 some (⟨x2.1,x2.2,bx.1,bx.2,bF.1,bF.2,eu⟩:Tables)
def rk (a0:e4) (aF:Int) (a2:Int):Option (Int × Bool) :=
 ((bif decide (aF<0) then some true else (bif decide ((a0.c5.length:Int)<=aF) then some true else (bif decide (a2<0) then some true else some (decide ((a0.b7.length:Int)<=a2)))))).bind λc4 =>
 (bif c4 then
 some (0,false)
 else
 (idx a0.c5 aF).bind λbF =>
 ((bif decide ((a0.b7.length:Int)<=aM (bF+a2)) then some true else ((idx a0.b7 (aM (bF+a2))).bind λb2=>some (!decide (b2=aM (aF+1)))))).bind λoB =>
 (bif oB then
 some (0,false)
 else
 (idx a0.cc (aM (bF+a2))).bind λcp =>
 some (cp,true)))
def Kz (a0:Int):Option (Act) :=
 ((bif decide (0<a0) then some (decide (a0<=20000)) else some false)).bind λc2 =>
 (bif c2 then
 some (⟨1,aM (a0 - 1)⟩:Act)
 else
 ((bif decide (a0<0) then some (decide ((-20000)<a0)) else some false)).bind λkM =>
 (bif kM then
 some (⟨2,aM (-a0)⟩:Act)
 else
 (bif decide (a0=20001) then
 some (⟨3,0⟩:Act)
 else
 (bif decide (a0=20002) then
 some (⟨4,0⟩:Act)
 else
 some (⟨0,0⟩:Act)))))
def z' (a0:Tables) (aF:Int) (a2:Int):Option (Act) :=
 (rk a0.dI aF a2).bind λa8 =>
 (bif a8.2 then
 (Kz a8.1).bind λa7 =>
 some a7
 else
 ((bif decide (aF<0) then some true else (bif decide ((a0.Def.length:Int)<=aF) then some true else ((idx a0.Def aF).bind λbF=>some (decide (bF<0)))))).bind λkN =>
 (bif kN then
 some (⟨0,0⟩:Act)
 else
 (idx a0.Def aF).bind λcy =>
 some (⟨2,cy⟩:Act)))
def FM (a0:Tables) (aF:Int) (a2:Int):Option (Int) :=
 (rk a0.jZ a2 aF).bind λa8 =>
 (bif a8.2 then
 some a8.1
 else
 ((bif decide (a2<0) then some true else some (decide ((a0.ot.length:Int)<=a2)))).bind λc4 =>
 (bif c4 then
 some (-1)
 else
 (idx a0.ot a2).bind λbF =>
 some bF))
def nh (a0:(List Int)) (aF:(List Int)):Option (Bool) :=
 (bif !decide ((a0.length:Int)=(aF.length:Int)) then
 some false
 else
 (b6 (R:=(Unit) ⊕ (Bool)) (λ(s2:Int) =>
 (bif decide (s2<(a0.length:Int)) then
 (idx a0 s2).bind λbV =>
 (idx aF s2).bind λb2 =>
 (bif !decide (bV=b2) then
 some (.inr (.inr false))
 else
 some (.inl (aM (s2+1))))
 else
 some (.inr (.inl ())))) 0).bind λa7 =>
 (match a7 with
 | .inl bx =>
 some true
 | .inr bQ =>
 some bQ))
def De :Option (Bool) :=
 (uB (⟨⟨#[]⟩,([]:List Decl),[(⟨⟨#[101]⟩,[(⟨[(⟨(⟨⟨#[101]⟩,false,0,0⟩:Sym),⟨#[]⟩,0⟩:Part),(⟨(⟨⟨#[43]⟩,true,0,0⟩:Sym),⟨#[]⟩,0⟩:Part),(⟨(⟨⟨#[120]⟩,true,0,0⟩:Sym),⟨#[]⟩,0⟩:Part)],(⟨⟨#[]⟩,false,0,0⟩:Sym),0⟩:Alt),(⟨[(⟨(⟨⟨#[120]⟩,true,0,0⟩:Sym),⟨#[]⟩,0⟩:Part)],(⟨⟨#[]⟩,false,0,0⟩:Sym),0⟩:Alt)],0⟩:fa)],⟨#[]⟩⟩:Source)).bind λa8 =>
 (uC a8.1 a8.2.1).bind λx2 =>
 ((bif a8.2.2.2 then ((nh x2.Def [(-1),2,(-1),(-1),1]).bind λbx=>(bif bx then ((nh x2.ot [(-1),2]).bind λbF=>(bif bF then ((nh x2.Left [0,1,1]).bind λb2=>(bif b2 then ((nh x2.p0 [1,3,1]).bind λbH=>(bif bH then (bif decide ((x2.p1.length:Int)=2) then ((z' x2 1 4).bind λcm=>(bif (decide (cm.Kind=2)&&(decide (cm.N=2)&&true)) then ((z' x2 0 4).bind λcO=>(bif (decide (cO.Kind=1)&&(decide (cO.N=1)&&true)) then ((z' x2 0 3).bind λbS=>(bif (decide (bS.Kind=0)&&(decide (bS.N=0)&&true)) then ((z' x2 9 0).bind λff=>(bif (decide (ff.Kind=0)&&(decide (ff.N=0)&&true)) then ((FM x2 0 1).bind λe9=>(bif decide (e9=2) then ((FM x2 0 7).bind λfB=>some (decide (fB=(-1)))) else some false)) else some false)) else some false)) else some false)) else some false)) else some false) else some false)) else some false)) else some false)) else some false)) else some false)).bind λrO =>
 some rO
def s9 (a0:ByteArray) (aF:Int):Option (ByteArray) :=
 (bif decide (aF<(a0.size:Int)) then
 (q1 a0 0 aF).bind λx2 =>
 some x2
 else
 some a0)
def x3 (a0:Sym):Option (Sym) :=
 (s9 a0.Name 25).bind λa8 =>
 some (⟨a8,a0.Lit,a0.bN,a0.At⟩:Sym)
def Ap (a0:Source):Option (Source) :=
 (s9 a0.cx 40).bind λa8 =>
 (s9 a0.cE 40).bind λx2 =>
 (b6 (R:=List Decl) (λ(d':List Decl × Int) =>
 ((bif decide (d'.2<(a0.Decls.length:Int)) then some (decide (d'.2<8)) else some false)).bind λkN =>
 (bif kN then
 (idx a0.Decls d'.2).bind λcy =>
 (idx a0.Decls d'.2).bind λbH =>
 (s9 bH.Tag 25).bind λcp =>
 (idx a0.Decls d'.2).bind λeu =>
 (b6 (R:=List Sym) (λ(hf:List Sym × Int) =>
 (((idx a0.Decls d'.2).bind λcg=>(bif decide (hf.2<(cg.eF.length:Int)) then some (decide (hf.2<6)) else some false))).bind λnu =>
 (bif nu then
 (idx a0.Decls d'.2).bind λdO =>
 (idx dO.eF hf.2).bind λe9 =>
 (x3 e9).bind λgm =>
 (dc hf.1 [gm]).bind λfB =>
 some (.inl (hf.1++[gm],aM (hf.2+1)))
 else
 some (.inr hf.1))) (([]:List Sym),0)).bind λeL =>
 (dc d'.1 [(⟨cy.Kind,cp,eL,eu.At⟩:Decl)]).bind λgu =>
 some (.inl (d'.1++[(⟨cy.Kind,cp,eL,eu.At⟩:Decl)],aM (d'.2+1)))
 else
 some (.inr d'.1))) (([]:List Decl),0)).bind λbx =>
 (b6 (R:=List fa) (λ(kh:List fa × Int) =>
 ((bif decide (kh.2<(a0.dz.length:Int)) then some (decide (kh.2<6)) else some false)).bind λp9 =>
 (bif p9 then
 (idx a0.dz kh.2).bind λk1 =>
 (s9 k1.Left 25).bind λcP =>
 (idx a0.dz kh.2).bind λfu =>
 (b6 (R:=List Alt) (λ(dZ:List Alt × Int) =>
 (((idx a0.dz kh.2).bind λjV=>(bif decide (dZ.2<(jV.eC.length:Int)) then some (decide (dZ.2<5)) else some false))).bind λtF =>
 (bif tF then
 (idx a0.dz kh.2).bind λju =>
 (idx ju.eC dZ.2).bind λha =>
 (x3 ha.Prec).bind λfN =>
 (idx a0.dz kh.2).bind λwu =>
 (idx wu.eC dZ.2).bind λpU =>
 (b6 (R:=List Part) (λ(rv:List Part × Int) =>
 (((idx a0.dz kh.2).bind λrF=>((idx rF.eC dZ.2).bind λDI=>(bif decide (rv.2<(DI.hc.length:Int)) then some (decide (rv.2<6)) else some false)))).bind λHx =>
 (bif Hx then
 (idx a0.dz kh.2).bind λLf =>
 (idx Lf.eC dZ.2).bind λkD =>
 (idx kD.hc rv.2).bind λnR =>
 (x3 nR.Sym).bind λpW =>
 (s9 nR.Code 60).bind λnS =>
 (dc rv.1 [(⟨pW,nS,nR.At⟩:Part)]).bind λAN =>
 some (.inl (rv.1++[(⟨pW,nS,nR.At⟩:Part)],aM (rv.2+1)))
 else
 some (.inr rv.1))) (([]:List Part),0)).bind λnQ =>
 (dc dZ.1 [(⟨nQ,fN,pU.At⟩:Alt)]).bind λQW =>
 some (.inl (dZ.1++[(⟨nQ,fN,pU.At⟩:Alt)],aM (dZ.2+1)))
 else
 some (.inr dZ.1))) (([]:List Alt),0)).bind λeo =>
 (dc kh.1 [(⟨cP,eo,fu.At⟩:fa)]).bind λQX =>
 some (.inl (kh.1++[(⟨cP,eo,fu.At⟩:fa)],aM (kh.2+1)))
 else
 some (.inr kh.1))) (([]:List fa),0)).bind λgx =>
 some (⟨a8,bx,gx,x2⟩:Source)
def vZ (a0:Int) (aF:Int):Option (Int) :=
 (rq a0 aF).bind λa8 =>
 ((bif decide (a8<0) then
 some (aM (a8+aF))
 else
 some a8)).bind λJR =>
 some JR
def KB :Option (ByteArray) :=
 some (⟨#[112,113,114,115]⟩)
def v7 (a0:Int):Option (Sym) :=
 (KB ).bind λa8 =>
 (rq a0 4).bind λx2 =>
 (rq a0 4).bind λa7 =>
 (q1 a8 x2 (aM (a7+1))).bind λbx =>
 some (⟨bx,true,0,0⟩:Sym)
def mh:bI Decl:=⟨4,λx=>[ae x.Kind,ax x.Tag,ak dA x.eF,ae x.At],λ_=>rfl,λ_=>dn.bo⟩
instance:gO mh du:=⟨rfl,λx=>(inferInstance:dq [ae x.Kind,ax x.Tag,ak dA x.eF,ae x.At] [ae x.Kind,ax x.Tag,ah dA x.eF,ae x.At])⟩
instance {x:Decl}:dq (mh.cells x) [ae x.Kind,ax x.Tag,ah dA x.eF,ae x.At]:=(inferInstance:dq [ae x.Kind,ax x.Tag,ak dA x.eF,ae x.At] [ae x.Kind,ax x.Tag,ah dA x.eF,ae x.At])
def Aa (a0:(List Int)):Option ((List Decl)) :=
 (b6 (R:=List Decl) (λ(s1:List Decl × Int) =>
 ((bif decide (s1.2<(a0.length:Int)) then some (decide (s1.2<4)) else some false)).bind λkM =>
 (bif kM then
 ((idx a0 s1.2).bind λb2 =>
 (vZ b2 8).bind λcy =>
 (rq cy 4).bind λbH =>
 (bif decide (bH=0) then
 some s1.1
 else
 ((bif decide (4<cy) then some (decide (0<(s1.1.length:Int))) else some false)).bind λkq =>
 (bif kq then
 (idx s1.1 (aM ((s1.1.length:Int) - 1))).bind λcO =>
 (v7 s1.2).bind λcg =>
 (dc cO.eF [cg]).bind λbS =>
 some (s1.1.set (aM ((s1.1.length:Int) - 1)).toNat (⟨cO.Kind,cO.Tag,cO.eF++[cg],cO.At⟩:Decl))
 else
 (rq cy 4).bind λdW =>
 (v7 s1.2).bind λff =>
 (dc s1.1 [(⟨aM (1+dW),⟨#[]⟩,[ff],0⟩:Decl)]).bind λdO =>
 some (s1.1++[(⟨aM (1+dW),⟨#[]⟩,[ff],0⟩:Decl)])))).bind λkV =>
 some (.inl (kV,aM (s1.2+1)))
 else
 some (.inr s1.1))) (([]:List Decl),0)).bind λx2 =>
 some x2
def Ab (a0:Int):Option (ByteArray) :=
 some (strOfNums [yu (aM (97+a0))])
def C1 (a0:Int) (aF:Int):Option (Sym) :=
 (vZ a0 14).bind λa8 =>
 (bif decide (a8<5) then
 (rq a8 aF).bind λa7 =>
 (Ab a7).bind λbx =>
 some (⟨bx,false,0,0⟩:Sym)
 else
 (bif decide (a8=13) then
 some (⟨⟨#[101,114,114,111,114]⟩,false,0,0⟩:Sym)
 else
 (v7 (aM (a8 - 5))).bind λbF =>
 some bF))
structure rG where
 ca:Int
 dz:(List (List Int))
 qP:(List Int)
 nm:(List Int)
 su:Bool
 deriving DecidableEq,Inhabited
def rT:bI rG:=⟨5,λx=>[ae x.ca,ah (br al) x.dz,ah al x.qP,ah al x.nm,a_ x.su],λ_=>rfl,λ_=>dn.bo⟩
instance:Flat rT:=⟨λ_=>rfl⟩
instance:gO rT rT:=⟨rfl,λx=>(inferInstance:dq [ae x.ca,ah (br al) x.dz,ah al x.qP,ah al x.nm,a_ x.su] [ae x.ca,ah (br al) x.dz,ah al x.qP,ah al x.nm,a_ x.su])⟩
instance {x:rG}:dq (rT.cells x) [ae x.ca,ah (br al) x.dz,ah al x.qP,ah al x.nm,a_ x.su]:=(inferInstance:dq [ae x.ca,ah (br al) x.dz,ah al x.qP,ah al x.nm,a_ x.su] [ae x.ca,ah (br al) x.dz,ah al x.qP,ah al x.nm,a_ x.su])
def fK:bI fa:=⟨3,λx=>[ax x.Left,ak eX x.eC,ae x.At],λ_=>rfl,λ_=>dn.bo⟩
instance:gO fK gn:=⟨rfl,λx=>(inferInstance:dq [ax x.Left,ak eX x.eC,ae x.At] [ax x.Left,ah eX x.eC,ae x.At])⟩
instance {x:fa}:dq (fK.cells x) [ax x.Left,ah eX x.eC,ae x.At]:=(inferInstance:dq [ax x.Left,ak eX x.eC,ae x.At] [ax x.Left,ah eX x.eC,ae x.At])
def zW (a0:rG):Option (Source) :=
 (vZ a0.ca 4).bind λa8 =>
 (Aa a0.qP).bind λx2 =>
 (nc (aM (1+a8)) false).bind λa7 =>
 (b6 (R:=List fa) (λ(cY:List fa × Int) =>
 (bif decide (cY.2<aM (1+a8)) then
 (Ab cY.2).bind λb2 =>
 (dc cY.1 [(⟨b2,([]:List Alt),0⟩:fa)]).bind λcy =>
 some (.inl (cY.1++[(⟨b2,([]:List Alt),0⟩:fa)],aM (cY.2+1)))
 else
 some (.inr cY.1))) (([]:List fa),0)).bind λbQ =>
 (b6 (R:=List fa × List Bool) (λ(gr:List fa × List Bool × Int) =>
 ((bif decide (gr.2.2<(a0.dz.length:Int)) then some (decide (gr.2.2<9)) else some false)).bind λnt =>
 (bif nt then
 ((idx a0.dz gr.2.2).bind λbS =>
 (bif decide ((bS.length:Int)=0) then
 some (gr.1,gr.2.1)
 else
 (idx a0.dz gr.2.2).bind λff =>
 (idx ff 0).bind λdO =>
 (vZ dO (aM (1+a8))).bind λe9 =>
 (b6 (R:=List Part × Bool) (λ(iF:List Part × Bool × Int) =>
 (((idx a0.dz gr.2.2).bind λiv=>(bif decide (iF.2.2<(iv.length:Int)) then some (decide (iF.2.2<5)) else some false))).bind λHw =>
 (bif Hw then
 ((idx a0.dz gr.2.2).bind λh_ =>
 (idx h_ iF.2.2).bind λk1 =>
 (C1 k1 (aM (1+a8))).bind λcP =>
 ((bif iF.2.1 then (bif cP.Lit then some true else some (decide (cP.Name=⟨#[101,114,114,111,114]⟩))) else some false)).bind λsB =>
 (dc iF.1 [(⟨cP,⟨#[]⟩,0⟩:Part)]).bind λpT =>
 ((bif decide (gr.2.2<(a0.nm.length:Int)) then (bif decide (iF.2.2=1) then ((idx a0.nm gr.2.2).bind λgy=>((rq gy 3).bind λrE=>some (decide (rE=1)))) else some false) else some false)).bind λy_ =>
 ((bif y_ then
 (dc (iF.1++[(⟨cP,⟨#[]⟩,0⟩:Part)]) [(⟨(⟨⟨#[]⟩,false,0,0⟩:Sym),⟨#[123,36,36,32,61,32,36,49,125]⟩,0⟩:Part)]).bind λwu =>
 some ((iF.1++[(⟨cP,⟨#[]⟩,0⟩:Part)])++[(⟨(⟨⟨#[]⟩,false,0,0⟩:Sym),⟨#[123,36,36,32,61,32,36,49,125]⟩,0⟩:Part)])
 else
 some (iF.1++[(⟨cP,⟨#[]⟩,0⟩:Part)]))).bind λJX =>
 some (JX,sB)).bind λuv =>
 some (.inl (uv.1,uv.2,aM (iF.2.2+1)))
 else
 some (.inr (iF.1,iF.2.1)))) (([]:List Part),true,1)).bind λfB =>
 ((bif decide (gr.2.2<(a0.nm.length:Int)) then ((idx a0.nm gr.2.2).bind λom=>((rq om 2).bind λnQ=>some (!decide (nQ=0)))) else some false)).bind λBd =>
 ((bif Bd then
 (dc fB.1 [(⟨(⟨⟨#[]⟩,false,0,0⟩:Sym),⟨#[123,102,40,36,36,41,125]⟩,0⟩:Part)]).bind λwx =>
 some (fB.1++[(⟨(⟨⟨#[]⟩,false,0,0⟩:Sym),⟨#[123,102,40,36,36,41,125]⟩,0⟩:Part)])
 else
 some fB.1)).bind λoR =>
 (((idx gr.2.1 e9).bind λpV=>(bif pV then some (gr.2.1.set e9.toNat true) else some (gr.2.1.set e9.toNat fB.2)))).bind λza =>
 (idx gr.1 e9).bind λkD =>
 (dc kD.eC [(⟨oR,(⟨⟨#[]⟩,false,0,0⟩:Sym),0⟩:Alt)]).bind λnR =>
 some (gr.1.set e9.toNat (⟨kD.Left,kD.eC++[(⟨oR,(⟨⟨#[]⟩,false,0,0⟩:Sym),0⟩:Alt)],kD.At⟩:fa),za))).bind λmx =>
 some (.inl (mx.1,mx.2,aM (gr.2.2+1)))
 else
 some (.inr (gr.1,gr.2.1)))) (bQ,a7,0)).bind λcp =>
 (b6 (R:=List fa) (λ(jc:List fa × Int) =>
 (bif decide (jc.2<aM (1+a8)) then
 ((((idx jc.1 jc.2).bind λwy=>(bif decide ((wy.eC.length:Int)=0) then some true else ((idx cp.2 jc.2).bind λLg=>(bif !Lg then some (!a0.su) else some false))))).bind λBf =>
 ((bif Bf then
 (idx jc.1 jc.2).bind λkE =>
 (v7 jc.2).bind λkF =>
 (dc kE.eC [(⟨[(⟨kF,⟨#[]⟩,0⟩:Part)],(⟨⟨#[]⟩,false,0,0⟩:Sym),0⟩:Alt)]).bind λDJ =>
 some (jc.1.set jc.2.toNat (⟨kE.Left,kE.eC++[(⟨[(⟨kF,⟨#[]⟩,0⟩:Part)],(⟨⟨#[]⟩,false,0,0⟩:Sym),0⟩:Alt)],kE.At⟩:fa))
 else
 some jc.1)).bind λJ1 =>
 some J1).bind λJ0 =>
 some (.inl (J0,aM (jc.2+1)))
 else
 some (.inr jc.1))) (cp.1,0)).bind λnS =>
 some (⟨⟨#[]⟩,x2,nS,⟨#[]⟩⟩:Source)
def Ad (a0:e4) (aF:e4):Option (Bool) :=
 (((nh a0.c5 aF.c5).bind λa8=>(bif a8 then ((nh a0.cc aF.cc).bind λa7=>(bif a7 then ((nh a0.b7 aF.b7).bind λbQ=>some bQ) else some false)) else some false))).bind λoA =>
 some oA
def Ae (a0:(List b3)) (aF:(List b3)):Option (Bool) :=
 (bif !decide ((a0.length:Int)=(aF.length:Int)) then
 some false
 else
 (b6 (R:=(Unit) ⊕ (Bool)) (λ(s2:Int) =>
 (bif decide (s2<(a0.length:Int)) then
 (idx a0 s2).bind λbV =>
 (idx aF s2).bind λb2 =>
 (bif !(decide (bV.At=b2.At)&&(decide (bV.cc=b2.cc)&&true)) then
 some (.inr (.inr false))
 else
 some (.inl (aM (s2+1))))
 else
 some (.inr (.inl ())))) 0).bind λa7 =>
 (match a7 with
 | .inl bx =>
 some true
 | .inr bQ =>
 some bQ))
def CU (a0:Tables) (aF:Tables):Option (Bool) :=
 (((nh a0.Def aF.Def).bind λa8=>(bif a8 then ((Ad a0.dI aF.dI).bind λa7=>(bif a7 then ((nh a0.ot aF.ot).bind λbQ=>(bif bQ then ((Ad a0.jZ aF.jZ).bind λbV=>(bif bV then ((nh a0.Left aF.Left).bind λcy=>(bif cy then ((nh a0.p0 aF.p0).bind λcp=>(bif cp then ((Ae a0.p1 aF.p1).bind λcm=>some cm) else some false)) else some false)) else some false)) else some false)) else some false)) else some false))).bind λnt =>
 some nt
def v' (a0:(List Int)):Option (Int) :=
 (b6 (R:=List Int) (λ(s1:List Int × Int) =>
 (bif decide (s1.2<(a0.length:Int)) then
 (idx a0 s1.2).bind λbQ =>
 (pM s1.1 bQ).bind λbF =>
 some (.inl (bF,aM (s1.2+1)))
 else
 some (.inr s1.1))) (([]:List Int),0)).bind λx2 =>
 (b6 (R:=Int) (λ(dr:Int × Int × Int) =>
 (bif decide (dr.2.2<(x2.length:Int)) then
 ((b6 (R:=Int) (λ(uM:Int × Int) =>
 (bif decide (uM.2<(a0.length:Int)) then
 ((idx a0 uM.2).bind λbS =>
 (idx x2 dr.2.2).bind λdW =>
 ((bif decide (bS=dW) then
 some (aM (uM.1+1))
 else
 some uM.1)).bind λfb =>
 some fb).bind λmx =>
 some (.inl (mx,aM (uM.2+1)))
 else
 some (.inr uM.1))) (0,0)).bind λcm =>
 ((bif decide (dr.2.1<cm) then
 (idx x2 dr.2.2).bind λfB =>
 some (fB,cm)
 else
 some (dr.1,dr.2.1))).bind λnJ =>
 some (nJ.1,nJ.2)).bind λjo =>
 some (.inl (jo.1,jo.2,aM (dr.2.2+1)))
 else
 some (.inr dr.1))) ((-1),0,0)).bind λb2 =>
 some b2
def uG (a0:Act):Option (Int) :=
 ((bif decide (a0.Kind=1) then (bif decide (0<=a0.N) then some (decide (a0.N<=19999)) else some false) else some false)).bind λjM =>
 (bif jM then
 some (aM (a0.N+1))
 else
 ((bif decide (a0.Kind=2) then (bif decide (1<=a0.N) then some (decide (a0.N<=19999)) else some false) else some false)).bind λkN =>
 (bif kN then
 some (aM (-a0.N))
 else
 ((bif decide (a0.Kind=3) then some (decide (a0.N=0)) else some false)).bind λie =>
 (bif ie then
 some 20001
 else
 ((bif decide (a0.Kind=4) then some (decide (a0.N=0)) else some false)).bind λkq =>
 (bif kq then
 some 20002
 else
 some 0))))
def CX (a0:gz):Option ((List Row)) :=
 (b6 (R:=List Row) (λ(s1:List Row × Int) =>
 (bif decide (s1.2<(a0.dI.length:Int)) then
 (b6 (R:=List Int) (λ(cj:List Int × Int) =>
 (idx a0.dI s1.2).bind λb2 =>
 (bif decide (cj.2<(b2.length:Int)) then
 ((idx a0.dI s1.2).bind λcp =>
 (idx cp cj.2).bind λeu =>
 ((bif decide (eu.Kind=2) then
 (idx a0.dI s1.2).bind λcO =>
 (idx cO cj.2).bind λcg =>
 (dc cj.1 [cg.N]).bind λbS =>
 some (cj.1++[cg.N])
 else
 some cj.1)).bind λiE =>
 some iE).bind λjI =>
 some (.inl (jI,aM (cj.2+1)))
 else
 some (.inr cj.1))) (([]:List Int),0)).bind λbF =>
 (v' bF).bind λdW =>
 (b6 (R:=List b3) (λ(de:List b3 × Int) =>
 (idx a0.dI s1.2).bind λgm =>
 (bif decide (de.2<(gm.length:Int)) then
 ((idx a0.dI s1.2).bind λiv =>
 (idx iv de.2).bind λgx =>
 ((bif !decide (gx.Kind=0) then (bif !decide (gx.Kind=2) then some true else some (!decide (gx.N=dW))) else some false)).bind λp9 =>
 ((bif p9 then
 (uG gx).bind λcP =>
 (dc de.1 [(⟨de.2,cP⟩:b3)]).bind λfu =>
 some (de.1++[(⟨de.2,cP⟩:b3)])
 else
 some de.1)).bind λxG =>
 some xG).bind λxE =>
 some (.inl (xE,aM (de.2+1)))
 else
 some (.inr de.1))) (([]:List b3),0)).bind λdO =>
 (dc s1.1 [(⟨dW,dO⟩:Row)]).bind λk2 =>
 some (.inl (s1.1++[(⟨dW,dO⟩:Row)],aM (s1.2+1)))
 else
 some (.inr s1.1))) (([]:List Row),0)).bind λx2 =>
 some x2
def C0 (a0:gz):Option ((List Row)) :=
 (b6 (R:=List Row) (λ(s1:List Row × Int) =>
 ((bif decide (0<(a0.ei.length:Int)) then ((idx a0.ei 0).bind λbQ=>some (decide (s1.2<(bQ.length:Int)))) else some false)).bind λoA =>
 (bif oA then
 (b6 (R:=List Int) (λ(ea:List Int × Int) =>
 (bif decide (ea.2<(a0.ei.length:Int)) then
 ((idx a0.ei ea.2).bind λcm =>
 (idx cm s1.2).bind λeL =>
 ((bif decide (0<=eL) then
 (idx a0.ei ea.2).bind λbS =>
 (idx bS s1.2).bind λdW =>
 (dc ea.1 [dW]).bind λff =>
 some (ea.1++[dW])
 else
 some ea.1)).bind λob =>
 some ob).bind λeN =>
 some (.inl (eN,aM (ea.2+1)))
 else
 some (.inr ea.1))) (([]:List Int),0)).bind λcy =>
 (v' cy).bind λdO =>
 (b6 (R:=List b3) (λ(ru:List b3 × Int) =>
 (bif decide (ru.2<(a0.ei.length:Int)) then
 ((idx a0.ei ru.2).bind λgx =>
 (idx gx s1.2).bind λee =>
 ((bif decide (0<=ee) then some (!decide (ee=dO)) else some false)).bind λp9 =>
 ((bif p9 then
 (dc ru.1 [(⟨ru.2,ee⟩:b3)]).bind λcP =>
 some (ru.1++[(⟨ru.2,ee⟩:b3)])
 else
 some ru.1)).bind λxG =>
 some xG).bind λxF =>
 some (.inl (xF,aM (ru.2+1)))
 else
 some (.inr ru.1))) (([]:List b3),0)).bind λgm =>
 (dc s1.1 [(⟨dO,gm⟩:Row)]).bind λfu =>
 some (.inl (s1.1++[(⟨dO,gm⟩:Row)],aM (s1.2+1)))
 else
 some (.inr s1.1))) (([]:List Row),0)).bind λx2 =>
 some x2
def x4 (a0:(List Row)):Option ((List Int) × (List (List b3))) :=
 (b6 (R:=List Int × List (List b3)) (λ(s1:List Int × List (List b3) × Int) =>
 (bif decide (s1.2.2<(a0.length:Int)) then
 (idx a0 s1.2.2).bind λbQ =>
 (dc s1.1 [bQ.Def]).bind λbF =>
 (idx a0 s1.2.2).bind λbV =>
 (dc s1.2.1 [bV.e5]).bind λb2 =>
 some (.inl (s1.1++[bQ.Def],s1.2.1++[bV.e5],aM (s1.2.2+1)))
 else
 some (.inr (s1.1,s1.2.1)))) (([]:List Int),([]:List (List b3)),0)).bind λx2 =>
 some (x2.1,x2.2)
def C_ (a0:(List (List b3))):Option (Bool) :=
 (bif decide (400<(a0.length:Int)) then
 some false
 else
 (b6 (R:=(Unit) ⊕ (Bool)) (λ(s2:Int) =>
 (bif decide (s2<(a0.length:Int)) then
 (b6 (R:=(Unit) ⊕ (Bool)) (λ(dr:List Int × Int) =>
 (idx a0 s2).bind λcp =>
 (bif decide (dr.2<(cp.length:Int)) then
 (((idx a0 s2).bind λcm=>((idx cm dr.2).bind λeL=>(bif decide (eL.At<0) then some true else ((idx a0 s2).bind λcg=>((idx cg dr.2).bind λbS=>(bif decide (999<bS.At) then some true else ((idx a0 s2).bind λff=>((idx ff dr.2).bind λdO=>((uI dr.1 dO.At).bind λe9=>some e9)))))))))).bind λHs =>
 (bif Hs then
 some (.inr (.inr false))
 else
 (idx a0 s2).bind λgu =>
 (idx gu dr.2).bind λiv =>
 (dc dr.1 [iv.At]).bind λgx =>
 some (.inl (dr.1++[iv.At],aM (dr.2+1))))
 else
 some (.inr (.inl ())))) (([]:List Int),0)).bind λb2 =>
 (match b2 with
 | .inl cy =>
 some (.inl (aM (s2+1)))
 | .inr bH =>
 some (.inr (.inr bH)))
 else
 some (.inr (.inl ())))) 0).bind λa7 =>
 (match a7 with
 | .inl bx =>
 some true
 | .inr bQ =>
 some bQ))
def Aj (a0:(List Int)) (aF:(List b3)) (a2:Int):Option (Bool) :=
 (b6 (R:=(Unit) ⊕ (Bool)) (λ(s1:Int) =>
 (bif decide (s1<(aF.length:Int)) then
 (idx aF s1).bind λbF =>
 ((bif decide (aM (a2+bF.At)<(a0.length:Int)) then ((idx a0 (aM (a2+bF.At))).bind λb2=>some (!decide (b2=0))) else some false)).bind λoB =>
 (bif oB then
 some (.inr (.inr false))
 else
 some (.inl (aM (s1+1))))
 else
 some (.inr (.inl ())))) 0).bind λx2 =>
 (match x2 with
 | .inl a7 =>
 some true
 | .inr bx =>
 some bx)
def v_ (a0:(List (List b3))):Option (e4) :=
 (C_ a0).bind λa8 =>
 (bif !a8 then
 some (⟨([]:List Int),([]:List Int),([]:List Int)⟩:e4)
 else
 (nc (a0.length:Int) 0).bind λa7 =>
 (nc (a0.length:Int) false).bind λbx =>
 (b6 (R:=(Unit) ⊕ (e4)) (λ(cj:e4 × List Bool) =>
 (b6 (R:=Int) (λ(h8:Int × Int) =>
 (bif decide (h8.2<(a0.length:Int)) then
 ((((idx cj.2 h8.2).bind λeL=>(bif !eL then ((idx a0 h8.2).bind λcg=>(bif decide (0<(cg.length:Int)) then (bif decide (h8.1<0) then some true else ((idx a0 h8.2).bind λff=>((idx a0 h8.1).bind λdO=>some (decide ((dO.length:Int)<(ff.length:Int)))))) else some false)) else some false))).bind λp8 =>
 ((bif p8 then
 some h8.2
 else
 some h8.1)).bind λmy =>
 some my).bind λiE =>
 some (.inl (iE,aM (h8.2+1)))
 else
 some (.inr h8.1))) ((-1),0)).bind λbH =>
 (bif decide (bH<0) then
 some (.inr (.inr cj.1))
 else
 (idx cj.2 bH).bind λiv =>
 (b6 (R:=List Int) (λ(oT:List Int) =>
 (idx a0 bH).bind λeA =>
 (idx oT bH).bind λh_ =>
 (Aj cj.1.b7 eA h_).bind λk1 =>
 (bif !k1 then
 (idx oT bH).bind λfu =>
 some (.inl (oT.set bH.toNat (aM (fu+1))))
 else
 some (.inr oT))) cj.1.c5).bind λee =>
 (b6 (R:=List Int × List Int) (λ(dZ:List Int × List Int × Int) =>
 (idx a0 bH).bind λjV =>
 (bif decide (dZ.2.2<(jV.length:Int)) then
 (idx ee bH).bind λgy =>
 (idx a0 bH).bind λrE =>
 (idx rE dZ.2.2).bind λju =>
 (b6 (R:=List Int × List Int) (λ(ki:List Int × List Int) =>
 (bif decide ((ki.2.length:Int)<=aM (gy+ju.At)) then
 (dc ki.2 [0]).bind λom =>
 (dc ki.1 [0]).bind λnQ =>
 some (.inl (ki.1++[0],ki.2++[0]))
 else
 some (.inr (ki.1,ki.2)))) (dZ.1,dZ.2.1)).bind λfN =>
 (idx a0 bH).bind λwv =>
 (idx wv dZ.2.2).bind λrF =>
 (idx fN.2 (aM (gy+ju.At))).bind λDI =>
 (idx fN.1 (aM (gy+ju.At))).bind λwx =>
 some (.inl (fN.1.set (aM (gy+ju.At)).toNat rF.cc,fN.2.set (aM (gy+ju.At)).toNat (aM (bH+1)),aM (dZ.2.2+1)))
 else
 some (.inr (dZ.1,dZ.2.1)))) (cj.1.cc,cj.1.b7,0)).bind λeo =>
 some (.inl ((⟨ee,eo.1,eo.2⟩:e4),cj.2.set bH.toNat true)))) ((⟨a7,([]:List Int),([]:List Int)⟩:e4),bx)).bind λbF =>
 (match bF with
 | .inl bV =>
 none
 | .inr b2 =>
 some b2))
def C6 (a0:bO):Option ((List b3)) :=
 (b6 (R:=List Int) (λ(s1:List Int × Int) =>
 (bif decide (s1.2<(a0.ba.length:Int)) then
 ((idx a0.ba s1.2).bind λbF =>
 ((bif decide (0<bF.bN) then
 (idx a0.ba s1.2).bind λcy =>
 (pM s1.1 cy.bN).bind λbH =>
 some bH
 else
 some s1.1)).bind λkV =>
 some kV).bind λkT =>
 some (.inl (kT,aM (s1.2+1)))
 else
 some (.inr s1.1))) (([]:List Int),0)).bind λx2 =>
 (b6 (R:=List b3) (λ(js:List b3 × Int) =>
 (bif decide (js.2<(x2.length:Int)) then
 (b6 (R:=List b3) (λ(hV:List b3 × Int) =>
 (bif decide (hV.2<(a0.ba.length:Int)) then
 ((idx a0.ba hV.2).bind λdO =>
 (idx x2 js.2).bind λe9 =>
 ((bif decide (dO.bN=e9) then
 (idx x2 js.2).bind λgu =>
 (dc hV.1 [(⟨gu,hV.2⟩:b3)]).bind λiv =>
 some (hV.1++[(⟨gu,hV.2⟩:b3)])
 else
 some hV.1)).bind λmy =>
 some my).bind λfb =>
 some (.inl (fb,aM (hV.2+1)))
 else
 some (.inr hV.1))) (js.1,0)).bind λcg =>
 some (.inl (cg,aM (js.2+1)))
 else
 some (.inr js.1))) (([]:List b3),0)).bind λeu =>
 some eu
def z7 (a0:bO) (aF:gz):Option (Tables) :=
 (CX aF).bind λa8 =>
 (x4 a8).bind λx2 =>
 (v_ x2.2).bind λa7 =>
 (C0 aF).bind λbx =>
 (x4 bx).bind λbQ =>
 (v_ bQ.2).bind λbF =>
 (b6 (R:=List Int × List Int) (λ(dr:List Int × List Int × Int) =>
 (bif decide (dr.2.2<(a0.bj.length:Int)) then
 (idx a0.bj dr.2.2).bind λcp =>
 (dc dr.1 [cp.Left]).bind λeu =>
 (idx a0.bj dr.2.2).bind λcm =>
 (dc dr.2.1 [(cm.ef.length:Int)]).bind λeL =>
 some (.inl (dr.1++[cp.Left],dr.2.1++[(cm.ef.length:Int)],aM (dr.2.2+1)))
 else
 some (.inr (dr.1,dr.2.1)))) (([]:List Int),([]:List Int),0)).bind λb2 =>
 (C6 a0).bind λcO =>
 some (⟨x2.1,a7,bQ.1,bF,b2.1,b2.2,cO⟩:Tables)
def C2 (a0:Source) (aF:rG):Option (Bool) :=
 (De ).bind λa8 =>
 (bif !a8 then
 some false
 else
 (Ap a0).bind λa7 =>
 (zW aF).bind λbx =>
 (b6 (R:=(Unit) ⊕ (Bool)) (λ(cj:Int) =>
 (bif decide (cj<([a7,bx].length:Int)) then
 (idx [a7,bx] cj).bind λbH =>
 (uB bH).bind λcp =>
 ((bif cp.2.2.2 then ((uC cp.1 cp.2.1).bind λcm=>((z7 cp.1 cp.2.1).bind λeL=>((CU cm eL).bind λcO=>some (!cO)))) else some false)).bind λHq =>
 (bif Hq then
 some (.inr (.inr false))
 else
 some (.inl (aM (cj+1))))
 else
 some (.inr (.inl ())))) 0).bind λbF =>
 (match bF with
 | .inl bV =>
 some true
 | .inr b2 =>
 some b2))
def Ky (a0:(List b3)) (aF:Int):Option (Int × Bool) :=
 (b6 (R:=(Unit) ⊕ (Int × Bool)) (λ(s1:Int) =>
 (bif decide (s1<(a0.length:Int)) then
 (idx a0 s1).bind λbF =>
 (bif decide (bF.At=aF) then
 (idx a0 s1).bind λb2 =>
 some (.inr (.inr (b2.cc,true)))
 else
 some (.inl (aM (s1+1))))
 else
 some (.inr (.inl ())))) 0).bind λx2 =>
 (match x2 with
 | .inl a7 =>
 some (0,false)
 | .inr bx =>
 some (bx.1,bx.2))
def KA (a0:Int):Option (Act) :=
 ((bif decide (1<=a0) then some (decide (a0<=20000)) else some false)).bind λc2 =>
 (bif c2 then
 some (⟨1,aM (a0 - 1)⟩:Act)
 else
 ((bif decide (a0<=(-1)) then some (decide ((-19999)<=a0)) else some false)).bind λkM =>
 (bif kM then
 some (⟨2,aM (-a0)⟩:Act)
 else
 (bif decide (a0=20001) then
 some (⟨3,0⟩:Act)
 else
 (bif decide (a0=20002) then
 some (⟨4,0⟩:Act)
 else
 some (⟨0,0⟩:Act)))))
def PK (a0:gz) (aF:(List Row)) (a2:Int) (a3:Int):Option (Act) :=
 ((bif decide (a2<0) then some true else some (decide ((aF.length:Int)<=a2)))).bind λc2 =>
 (bif c2 then
 some (⟨0,0⟩:Act)
 else
 (idx aF a2).bind λbx =>
 (Ky bx.e5 a3).bind λbQ =>
 (bif bQ.2 then
 (KA bQ.1).bind λbV =>
 some bV
 else
 (idx aF a2).bind λb2 =>
 (bif decide (0<=b2.Def) then
 (idx aF a2).bind λbH =>
 some (⟨2,bH.Def⟩:Act)
 else
 some (⟨0,0⟩:Act))))
end Go.Proofs
namespace Go.Own
open Go
variable {α β S R:Type}
abbrev hG (p:S->Prop) (q:R->Prop) (x:S ⊕ R):Prop:=Sum.elim p q x
def Tot (x:Option α) (Φ:α->Prop):Prop:=∃ a,x=some a/\Φ a
namespace Tot
variable {Φ Ψ:α->Prop}
theorem ao {a:α}(h:Φ a):Tot (some a) Φ:=⟨a,rfl,h⟩
theorem bi {x:Option β}{f:β->Option α}(h:Tot x λa=>Tot (f a) Φ):Tot (x.bind f) Φ:=by
 obtain ⟨a,rfl,b,au,nG⟩:=h;exact ⟨b,au,nG⟩
theorem aV {f:β->Option α}{a:β}(h:Tot (f a) Φ):Tot ((some a).bind f) Φ:=h
theorem use {x:Option α}(h:Tot x Ψ) (hi:∀ a,Ψ a->Φ a):Tot x Φ:=by
 obtain ⟨a,aR,JI⟩:=h;exact ⟨a,aR,hi a JI⟩
theorem ay {x:Option β}{f:β->Option α}{Ξ:β->Prop}(h:Tot x Ξ) (hk:∀ a,Ξ a->Tot (f a) Φ):Tot (x.bind f) Φ:=bi (h.use hk)
theorem bB {c:Bool}{a b:Option α}(aw:c=true->Tot a Φ) (aW:c=false->Tot b Φ):Tot (cond c a b) Φ:=by
 grind
theorem bm {p:Prop} [Decidable p] {a b:Option α}(aw:p->Tot a Φ) (aW:¬ p->Tot b Φ):Tot (cond (decide p) a b) Φ:=by grind
theorem oD {p:Prop} [Decidable p] {a b:Option α}(aw:¬ p->Tot a Φ) (aW:p->Tot b Φ):Tot (cond (!decide p) a b) Φ:=by grind
theorem hd {l:List α}{i:Int}(aT:0<=i) (h1:i<l.length) (hk:∀ y,idx l i=some y->y∈l->Φ y):Tot (idx l i) Φ:=by
 have aQ:i.toNat<l.length:=by omega
 have:idx l i=some l[i.toNat]:=by simp [idx,aT,aQ]
 exact ⟨_,this,hk _ this (List.getElem_mem aQ)⟩
theorem ap {Φ:List α->Prop}{l m:List α}(h:l.length+m.length<=lim) (hk:Φ (l++m)):Tot (dc l m) Φ:=by
 refine ⟨l++m,?_,hk⟩
 grind [dc]
theorem loop {f:S->Option (S ⊕ R)}{e1:S}{Ψ:R->Prop}(Inv:S->Prop) (uZ:S->Nat) (aT:Inv e1) (JJ:uZ e1<fuel)
  (aA:∀ s,Inv s->Tot (f s) (hG (λcR=>Inv cR/\uZ cR<uZ s) Ψ)):Tot (b6 f e1) Ψ:=by
 have key:∀ n s,Inv s->uZ s<n->Tot (iter f n s) Ψ:=by
  intro n
  induction n with
  | zero=>intro s _ h; omega
  | succ n aU =>
   intro s bb hm;obtain ⟨x,J,b_⟩:=aA s bb;cases x with
   | inl cR =>
    grind [iter]
   | inr r =>
    simp only [iter,J];exact ⟨r,rfl,b_⟩
 exact key fuel e1 aT JJ
theorem count {f:S->Option (S ⊕ R)}{e1:S}{Ψ:R->Prop}(i:S->Int) (n:Int) (Inv:S->Prop) (aT:Inv e1) (aE:n - i e1<1000000000000000000)
  (aA:∀ s,Inv s->Tot (f s) (hG (λcR=>Inv cR/\i s<i cR/\i cR<=n) Ψ)):Tot (b6 f e1) Ψ:=by
 refine loop Inv (λs=>(n - i s).toNat) aT (by show (n - i e1).toNat<1000000000000000000; omega) λs bb=>(aA s bb).use λx J=>?_
 grind
end Tot
theorem cK (n:Int):aM n=(n+9223372036854775808) % 18446744073709551616 - 9223372036854775808:=IntKind.wrap_i64 n
namespace Tot
theorem cat {Φ:ByteArray->Prop}{s u:ByteArray}(h:s.size+u.size<=4611686018427387904) (hk:Φ (s++u)):Tot (tH s u) Φ:=by
 refine ⟨s++u,?_,hk⟩
 grind [tH]
theorem cut {Φ:ByteArray->Prop}{s:ByteArray}{m n:Int}(h:0<=m/\m<=n/\n<=s.size) (hk:Φ (rQ s m n)):Tot (q1 s m n) Φ:=by
 refine ⟨_,?_,hk⟩
 grind [q1]
theorem nZ {Φ:Int->Prop}{s:ByteArray}{m:Int}(h:0<=m/\m<s.size) (hk:Φ (lC s m)):Tot (kp s m) Φ:=by
 refine ⟨_,?_,hk⟩
 grind [kp]
theorem sub {Φ:List α->Prop}{l:List α}{m n:Int}(h:0<=m/\m<=n/\n<=l.length) (hk:Φ ((l.drop m.toNat).take (n - m).toNat)):Tot (nP l m n) Φ:=by
 refine ⟨_,?_,hk⟩
 grind [nP]
theorem rem {Φ:Int->Prop}{m n:Int}(h:n≠0) (hk:Φ (m.tmod n)):Tot (rq m n) Φ:=by
 refine ⟨_,?_,hk⟩
 grind [rq]
theorem quo {Φ:Int->Prop}{m n:Int}(h:n≠0) (hk:Φ (aM (m.tdiv n))):Tot (FW m n) Φ:=by
 refine ⟨_,?_,hk⟩
 grind [FW]
theorem rr {Φ:Int->Prop}{m n:Int}(h:n≠0) (hk:Φ (m.tmod n)):Tot (Own.rr m n) Φ:=by
 refine ⟨_,?_,hk⟩
 grind [Own.rr]
theorem rn {Φ:Int->Prop}{m n:Int}(h:n≠0) (hk:Φ (IntKind.u64.wrap (m.tdiv n))):Tot (Own.rn m n) Φ:=by
 refine ⟨_,?_,hk⟩
 grind [Own.rn]
theorem mk {Φ:List α->Prop}{m:Int}{z:α}(h:0<=m/\m<=lim) (hk:Φ (List.replicate m.toNat z)):Tot (nc m z) Φ:=by
 refine ⟨_,?_,hk⟩
 grind [nc]
theorem eq {x:Option α}{Φ:α->Prop}{a:α}(h:Tot x Φ) (e:x=some a):Φ a:=by
 obtain ⟨b,au,nG⟩:=h
 grind
theorem ex {x:Option α}{Φ:α->Prop}(h:Tot x Φ):∃ a,x=some a/\Φ a:=h
end Tot
namespace Tot
theorem scan {f:Int->Option (Int ⊕ (Unit ⊕ R))}(l:List β) (P:β->Prop) (Q:R->Prop) (ai:l.length<=100000000000000000)
  (aA:∀ (s:Int) (y:β),0<=s->s<l.length->idx l s=some y->y∈l->Tot (f s) (hG (λcR=>cR=s+1/\P y) (hG (λ_=>False) Q)))
  (he:∀ s:Int,¬ s<l.length->f s=some (.inr (.inl ()))):Tot (b6 f 0) (hG (λ_=>∀ y∈l,P y) Q):=by
 refine count (λs=>s) l.length (λs=>0<=s/\s<=l.length/\∀ (j:Nat) (y:β),(j:Int)<s->l[j]?=some y->P y) ⟨by omega,by omega,λj y h=>by omega⟩ (by show (l.length:Int) - 0<_; omega) λs bb=>?_;obtain ⟨aT,h1,af⟩:=bb;by_cases aQ:s<l.length
 ·have mV:s.toNat<l.length:=by omega
  have hi:idx l s=some l[s.toNat]:=by simp [idx,aT,mV]
  refine (aA s _ aT aQ hi (List.getElem_mem mV)).use λx J=>?_;rcases x with cR | ⟨⟨⟩⟩ | r
  ·obtain ⟨rfl,b_⟩:=J
   grind
  ·grind
  grind
 ·rw [he s aQ];refine ao λy av=>?_;obtain ⟨j,ag,rfl⟩:=List.mem_iff_getElem.1 av;exact af j _ (by omega) (List.getElem?_eq_getElem ag)
end Tot
end Go.Own
namespace Go.Own
open Go
variable {α β S R:Type}
def Par (x:Option α) (Φ:α->Prop):Prop:=∀ a,x=some a->Φ a
set_option linter.unusedVariables false
namespace Par
variable {Φ Ψ:α->Prop}
theorem ao {a:α}(h:Φ a):Par (some a) Φ:=λb e=>by cases e; exact h
theorem no:Par (none:Option α) Φ:=λb e=>by cases e
theorem use {x:Option α}(h:Par x Ψ) (hi:∀ a,Ψ a->Φ a):Par x Φ:=λa e=>hi a (h a e)
theorem ay {x:Option β}{f:β->Option α}{Ξ:β->Prop}(h:Par x Ξ) (hk:∀ a,Ξ a->Par (f a) Φ):Par (x.bind f) Φ:=λa e=>by
 cases x with
 | none=>cases e
 | some b=>exact hk b (h b rfl) a e
theorem go {x:Option β}{f:β->Option α}(hk:∀ a,x=some a->Par (f a) Φ):Par (x.bind f) Φ:=λa e=>by
 cases x with
 | none=>cases e
 | some b=>exact hk b rfl a e
theorem bB {c:Bool}{a b:Option α}(aw:c=true->Par a Φ) (aW:c=false->Par b Φ):Par (cond c a b) Φ:=by
 cases c
 ·exact aW rfl
 ·exact aw rfl
theorem bm {p:Prop} [Decidable p] {a b:Option α}(aw:p->Par a Φ) (aW:¬ p->Par b Φ):Par (cond (decide p) a b) Φ :=
 bB (λh=>aw (of_decide_eq_true h)) (λh=>aW (of_decide_eq_false h))
theorem oD {p:Prop} [Decidable p] {a b:Option α}(aw:¬ p->Par a Φ) (aW:p->Par b Φ):Par (cond (!decide p) a b) Φ :=
 bB (λh=>aw (of_decide_eq_false (by simpa using h))) (λh=>aW (of_decide_eq_true (by simpa using h)))
theorem ap {l m:List β}{f:List β->Option α}(hk:l.length+m.length<=lim->Par (f (l++m)) Φ):Par ((dc l m).bind f) Φ:=by
 unfold dc;split
 ·rename_i h; exact hk h
 ·exact no
theorem cat {s u:ByteArray}{f:ByteArray->Option α}(hk:Par (f (s++u)) Φ):Par ((tH s u).bind f) Φ:=by
 unfold tH;split
 ·exact hk
 ·exact no
theorem loop {f:S->Option (S ⊕ R)}{e1:S}{Ψ:R->Prop}(Inv:S->Prop) (aT:Inv e1) (aA:∀ s,Inv s->Par (f s) (hG Inv Ψ)):Par (b6 f e1) Ψ:=by
 have key:∀ n s,Inv s->Par (iter f n s) Ψ:=by
  intro n
  induction n with
  | zero=>intro s _ a e; cases e
  | succ n aU =>
   intro s bb a e;simp only [iter] at e;cases J:f s with
   | none=>rw [J] at e; cases e
   | some x =>
    have b_:=aA s bb x J;rw [J] at e;cases x with
    | inl cR=>exact aU cR b_ a e
    | inr r=>cases e; exact b_
 exact key fuel e1 aT
theorem je {x:Option α}(h:Tot x Φ) (aL:Par x Ψ):Tot x λa=>Φ a/\Ψ a:=by
 obtain ⟨a,aR,nG⟩:=h;exact ⟨a,aR,nG,aL a aR⟩
theorem of {x:Option α}(h:Tot x Φ):Par x Φ:=λa e=>h.eq e
theorem scan {f:Int->Option (Int ⊕ (Unit ⊕ R))}(l:List β) (ai:l.length<=100000000000000000) (P:β->Prop) (Q:R->Prop)
  (aA:∀ (s:Int) (y:β),0<=s->s<l.length->idx l s=some y->y∈l->Par (f s) (hG (λcR=>cR=s+1/\P y) (hG (λ_=>False) Q)))
  (he:∀ s:Int,¬ s<l.length->f s=some (.inr (.inl ()))):Par (b6 f 0) (hG (λ_=>∀ y∈l,P y) Q):=by
 refine loop (λs=>0<=s/\s<=l.length/\∀ (j:Nat) (y:β),(j:Int)<s->l[j]?=some y->P y) ⟨by omega,by omega,λj y h=>by omega⟩ λs bb=>?_;obtain ⟨aT,h1,af⟩:=bb;by_cases aQ:s<l.length
 ·have mV:s.toNat<l.length:=by omega
  have hi:idx l s=some l[s.toNat]:=by simp [idx,aT,mV]
  refine (aA s _ aT aQ hi (List.getElem_mem mV)).use λx J=>?_;rcases x with cR | ⟨⟨⟩⟩ | r
  ·obtain ⟨rfl,b_⟩:=J;refine ⟨by omega,by omega,λj y ag av=>?_⟩;by_cases EM:(j:Int)<s
   ·exact af j y EM av
   ·have:j=s.toNat:=by omega
    subst this;rw [List.getElem?_eq_getElem mV] at av;cases av; exact b_
  ·exact J.elim
  ·exact J
 ·rw [he s aQ];refine ao λy av=>?_;obtain ⟨j,ag,rfl⟩:=List.mem_iff_getElem.1 av;exact af j _ (by omega) (List.getElem?_eq_getElem ag)
end Par
end Go.Own
namespace Go.Own
open Go
variable {α β S R:Type}
namespace Tot
theorem upto {f:S->Option (S ⊕ R)}{e1:S}{Ψ:R->Prop}(i:S->Int) (n:Nat) (Inv:Nat->S->Prop) (hi:i e1=0) (aE:n<=100000000000000000) (aT:Inv 0 e1)
  (aA:∀ (k:Nat) (s:S),k<=n->i s=(k:Int)->Inv k s->Tot (f s) (hG (λcR=>k<n/\i cR=((k+1:Nat):Int)/\Inv (k+1) cR) Ψ)):Tot (b6 f e1) Ψ:=by
 refine count i n (λs=>∃ k:Nat,k<=n/\i s=(k:Int)/\Inv k s) ⟨0,Nat.zero_le _,hi,aT⟩ (by rw [hi]; omega) λs ⟨k,hk,he,bb⟩=>(aA k s hk he bb).use λx J=>?_;rcases x with cR | r
 ·obtain ⟨h1,af,aI⟩:=J;exact ⟨⟨k+1,by omega,af,aI⟩,by omega,by omega⟩
 ·exact J
end Tot
namespace Par
theorem upto {f:S->Option (S ⊕ R)}{e1:S}{Ψ:R->Prop}(i:S->Int) (n:Nat) (Inv:Nat->S->Prop) (hi:i e1=0) (aT:Inv 0 e1)
  (aA:∀ (k:Nat) (s:S),k<=n->i s=(k:Int)->Inv k s->Par (f s) (hG (λcR=>k<n/\i cR=((k+1:Nat):Int)/\Inv (k+1) cR) Ψ)):Par (b6 f e1) Ψ:=by
 refine loop (λs=>∃ k:Nat,k<=n/\i s=(k:Int)/\Inv k s) ⟨0,Nat.zero_le _,hi,aT⟩ λs ⟨k,hk,he,bb⟩=>(aA k s hk he bb).use λx J=>?_;rcases x with cR | r
 ·obtain ⟨h1,af,aI⟩:=J;exact ⟨k+1,by omega,af,aI⟩
 ·exact J
end Par
theorem eh (k:Nat) (h:k<=1000000000000000000):aM ((k:Int)+1)=((k+1:Nat):Int):=by rw [cK]; omega
end Go.Own
namespace Go.Own
open Go
variable {α β AR AS S T R Q:Type}
def Rel (x:Option α) (y:Option β) (Φ:α->β->Prop):Prop:=∃ a b,x=some a/\y=some b/\Φ a b
abbrev LG (p:S->T->Prop) (q:R->Q->Prop):S ⊕ R->T ⊕ Q->Prop
 | .inl a,.inl b=>p a b
 | .inr a,.inr b=>q a b
 | _,_=>False
namespace Rel
variable {Φ Ψ:α->β->Prop}
theorem ao {a:α}{b:β}(h:Φ a b):Rel (some a) (some b) Φ:=⟨a,b,rfl,rfl,h⟩
theorem use {x:Option α}{y:Option β}(h:Rel x y Ψ) (hi:∀ a b,Ψ a b->Φ a b):Rel x y Φ:=by
 obtain ⟨a,b,aR,au,JI⟩:=h;exact ⟨a,b,aR,au,hi a b JI⟩
theorem ay {x:Option AR}{y:Option AS}{f:AR->Option α}{g:AS->Option β}{Ξ:AR->AS->Prop}(h:Rel x y Ξ) (hk:∀ a b,Ξ a b->Rel (f a) (g b) Φ):Rel (x.bind f) (y.bind g) Φ:=by
 obtain ⟨a,b,rfl,rfl,Cl⟩:=h;exact hk a b Cl
theorem l {x:Option AR}{y:Option β}{f:AR->Option α}{Ξ:AR->Prop}(h:Tot x Ξ) (hk:∀ a,Ξ a->Rel (f a) y Φ):Rel (x.bind f) y Φ:=by
 obtain ⟨a,rfl,Cl⟩:=h;exact hk a Cl
theorem r {x:Option α}{y:Option AS}{g:AS->Option β}{Ξ:AS->Prop}(h:Tot y Ξ) (hk:∀ a,Ξ a->Rel x (g a) Φ):Rel x (y.bind g) Φ:=by
 obtain ⟨a,rfl,Cl⟩:=h;exact hk a Cl
theorem bB {c d:Bool}{a b:Option α}{b' ec:Option β}(aa:c=d) (aw:c=true->Rel a b' Φ) (aW:c=false->Rel b ec Φ):Rel (cond c a b) (cond d b' ec) Φ:=by
 subst aa;cases c
 ·exact aW rfl
 ·exact aw rfl
theorem cl {c:Bool}{a b:Option α}{y:Option β}(aw:c=true->Rel a y Φ) (aW:c=false->Rel b y Φ):Rel (cond c a b) y Φ:=by
 cases c
 ·exact aW rfl
 ·exact aw rfl
theorem je {x:Option α}{y:Option β}{P:α->Prop}{Q:β->Prop}(h:Tot x P) (aL:Tot y Q) (hi:∀ a b,P a->Q b->Φ a b):Rel x y Φ:=by
 obtain ⟨a,aR,b_⟩:=h;obtain ⟨b,au,dM⟩:=aL;exact ⟨a,b,aR,au,hi a b b_ dM⟩
theorem fst {x:Option α}{y:Option β}(h:Rel x y Φ):Tot x λa=>∃ b,y=some b/\Φ a b:=by
 obtain ⟨a,b,aR,au,nG⟩:=h;exact ⟨a,aR,b,au,nG⟩
theorem loop {f:S->Option (S ⊕ R)}{g:T->Option (T ⊕ Q)}{e1:S}{t0:T}{Ψ:R->Q->Prop}(Inv:S->T->Prop) (uZ:S->Nat) (aT:Inv e1 t0) (JJ:uZ e1<fuel)
  (aA:∀ s t,Inv s t->Rel (f s) (g t) (LG (λcR t'=>Inv cR t'/\uZ cR<uZ s) Ψ)):Rel (b6 f e1) (b6 g t0) Ψ:=by
 have key:∀ n s t,Inv s t->uZ s<n->Rel (iter f n s) (iter g n t) Ψ:=by
  intro n
  induction n with
  | zero=>intro s t _ h; omega
  | succ n aU =>
   intro s t bb hm;obtain ⟨x,y,J,av,b_⟩:=aA s t bb;rcases x with cR | r <;> rcases y with t' | q
   ·obtain ⟨h1,af⟩:=b_;simp only [iter,J,av];exact aU cR t' h1 (by omega)
   ·exact b_.elim
   ·exact b_.elim
   ·simp only [iter,J,av];exact ⟨r,q,rfl,rfl,b_⟩
 exact key fuel e1 t0 aT JJ
theorem upto {f:S->Option (S ⊕ R)}{g:T->Option (T ⊕ Q)}{e1:S}{t0:T}{Ψ:R->Q->Prop}(i:S->Int) (n:Nat) (Inv:Nat->S->T->Prop) (hi:i e1=0) (aE:n<=100000000000000000) (aT:Inv 0 e1 t0)
  (aA:∀ (k:Nat) (s:S) (t:T),k<=n->i s=(k:Int)->Inv k s t->Rel (f s) (g t) (LG (λcR t'=>k<n/\i cR=((k+1:Nat):Int)/\Inv (k+1) cR t') Ψ)):Rel (b6 f e1) (b6 g t0) Ψ:=by
 refine loop (λs t=>∃ k:Nat,k<=n/\i s=(k:Int)/\Inv k s t) (λs=>(n - (i s).toNat)) ⟨0,Nat.zero_le _,hi,aT⟩ (by rw [hi]; show n - 0<1000000000000000000; omega) λs t ⟨k,hk,he,bb⟩=>(aA k s t hk he bb).use λx y E3=>?_;rcases x with cR | r <;> rcases y with t' | q
 ·obtain ⟨h1,af,aI⟩:=E3;refine ⟨⟨k+1,by omega,af,aI⟩,?_⟩;show n - (i cR).toNat<n - (i s).toNat;rw [af,he]; omega
 ·exact E3
 ·exact E3
 ·exact E3
end Rel
end Go.Own

namespace Go.Proofs
open Tryz
open Go Go.Own
set_option maxRecDepth 100000
set_option linter.unusedVariables false
theorem t149 (c:Int):Tot (CW c) λ_=>True:=by
 unfold CW
 repeat' first | apply Tot.bi | refine Tot.bB (λ_=>?_) (λ_=>?_) | exact Tot.ao trivial | apply Tot.ao
theorem t150 (c:Int):Tot (CY c) λ_=>True:=by
 unfold CY
 repeat' first | apply Tot.bi | refine Tot.bB (λ_=>?_) (λ_=>?_) | exact Tot.ao trivial | apply Tot.ao
theorem t148 (c:Int):Tot (z_ c) λ_=>True:=by
 unfold z_
 repeat' first | apply Tot.bi | refine Tot.bB (λ_=>?_) (λ_=>?_) | exact Tot.ao trivial | apply Tot.ao
theorem t145 (x:Sym):Tot (uE x) λr=>r=true->x.Name=⟨#[]⟩/\x.Lit=false:=by
 unfold uE;apply Tot.bi;refine Tot.bm (λh=>Tot.bB (λaf=>?_) (λaf=>?_)) (λh=>?_) <;> apply Tot.ao <;> apply Tot.ao
 ·exact λ_=>⟨h,by simpa using af⟩
 ·exact λh=>by cases h
 ·exact λh=>by cases h
abbrev dJ:Nat:=1000000000000
theorem t144 (s:ByteArray) (h:s.size<=dJ):Tot (CV s 0) λn=>0<=n/\n<=s.size:=by
 unfold CV;refine Tot.ay (Ξ:=λn=>0<=n/\n<=s.size) ?_ λa aR=>.ao aR;refine Tot.count (λi=>i) s.size (λi=>0<=i/\i<=s.size) ⟨by omega,by omega⟩ (by show (s.size:Int) - 0<_; simp only [dJ] at h; omega) λi ⟨aT,h1⟩=>?_;simp only [dJ] at h;have e:aM (0+i)=i:=by rw [cK]; omega
 rw [e];have go:∀ c:Bool,(c=true->i<s.size)->Tot (bif c then some (.inl (aM (i+1))) else some (.inr i)) (hG (λcR:Int=>(0<=cR/\cR<=s.size)/\i<cR/\cR<=s.size) (λr:Int=>0<=r/\r<=s.size)):=by
  intro c aa;refine Tot.bB (λaf=>.ao ?_) (λ_=>.ao ⟨aT,h1⟩);have:=aa af;have e:aM (i+1)=i+1:=by rw [cK]; omega
  show (0<=aM (i+1)/\aM (i+1)<=s.size)/\i<aM (i+1)/\aM (i+1)<=s.size;rw [e]; omega
 apply Tot.bi;refine Tot.bm (λaf=>?_) (λaf=>.ao (go false (by simp)));apply Tot.bi;refine Tot.nZ ⟨aT,af⟩ (Tot.ay (t149 _) λc _=>?_);refine Tot.bB (λ_=>.ao (go _ λ_=>af)) (λ_=>Tot.bB (λ_=>?_) (λ_=>.ao (go _ λ_=>af)));apply Tot.bi;refine Tot.nZ ⟨aT,af⟩ (Tot.ay (t150 _) λc _=>?_);refine Tot.bB (λ_=>.ao (go _ λ_=>af)) (λ_=>?_);apply Tot.bi;exact Tot.nZ ⟨aT,af⟩ (.ao (go _ λ_=>af))
theorem t134 (s:ByteArray) (h:s.size<=dJ):Tot (vW s) λr=>r=true->1<=s.size/\s.size<=20:=by
 unfold vW;apply Tot.bi;refine Tot.bm (λh1=>Tot.bm (λaf=>?_) (λaf=>?_)) (λh1=>?_)
 ·exact .ay (t144 s h) λn aE=>.ao (.ao λ_=>by omega)
 ·exact .ao (.ao λh=>by cases h)
 ·exact .ao (.ao λh=>by cases h)
theorem t152 (s:ByteArray) (i:Int) (t:ByteArray) (h:s.size<=dJ) (aT:0<=i) (h1:i<=4 * dJ) (aw:t.size<=dJ):Tot (x1 s i t) λr=>r=true->i+t.size<=s.size:=by
 unfold x1;simp only [dJ] at *;apply Tot.bi;refine Tot.bm (λaf=>?_) (λaf=>.ao (.ao λh=>by cases h));apply Tot.bi;rw [cK] at af;have e:aM (i+t.size)=i+t.size:=by rw [cK]; omega
 refine Tot.cut (by rw [e]; omega) (.ao (.ao λ_=>by omega))
theorem t151 (s:ByteArray) (i:Int) (h:s.size<=dJ) (aT:0<=i) (h1:i<s.size):Tot (CZ s i) λr=>r<=s.size:=by
 unfold CZ;have au:(s.size:Int)<=1000000000000:=by simp only [dJ] at h; omega
 have cu:aM (i+1)=i+1:=by rw [cK]; omega
 have cd:aM (i+2)=i+2:=by rw [cK]; omega
 rw [cu,cd];have xe:=Tot.nZ (Φ:=λ_=>True) (s:=s) (m:=i) ⟨aT,h1⟩ trivial;refine Tot.ay (Ξ:=λ_=>True) ?_ λc _=>Tot.bB (λ_=>?_) (λ_=>?_)
 ·refine Tot.ay xe λ_ _=>Tot.bB (λ_=>.ao trivial) (λ_=>Tot.ay xe λ_ _=>.ao trivial)
 ·refine Tot.ay (Ξ:=hG (λ_=>True) (λr=>r<=s.size)) ?_ λx J=>?_
  ·refine Tot.count (λj=>j) (s.size+1) (λj=>0<=j) (by show (0:Int)<=i+1; omega) (by show (s.size:Int)+1 - (i+1)<_; omega) λj ag=>?_;refine Tot.ay (Ξ:=λc=>c=true->j<s.size) ?_ λc aa=>Tot.bB (λaf=>?_) (λ_=>.ao trivial)
   ·refine Tot.bm (λaf=>?_) (λ_=>.ao λh=>by cases h);exact .ay (Ξ:=λ_=>True) (Tot.nZ ⟨ag,af⟩ trivial) λ_ _=>.ao λ_=>af
   ·have VY:=aa af;have xc:=Tot.nZ (Φ:=λ_=>True) (s:=s) (m:=j) ⟨ag,VY⟩ trivial;have fx:aM (j+1)=j+1:=by rw [cK]; omega
    have lZ:aM (j+1+1)=j+1+1:=by rw [cK]; omega
    rw [fx,lZ];refine .ay xc λ_ _=>.ay xe λ_ _=>Tot.bB (λ_=>.ao ?_) (λ_=>.ay xc λ_ _=>Tot.bB (λ_=>?_) (λ_=>.ao ?_))
    ·show j+1<=s.size; omega
    ·refine Tot.ay (Ξ:=λ_=>True) ?_ λc _=>Tot.bB (λ_=>.ao ?_) (λ_=>.ao ?_)
     ·refine Tot.bm (λaI=>?_) (λ_=>.ao trivial);exact .ay (Ξ:=λ_=>True) (Tot.nZ ⟨by omega,aI⟩ trivial) λ_ _=>.ao trivial
     ·show (-1:Int)<=s.size; omega
     ·show (0:Int)<=j+1+1/\j<j+1+1/\j+1+1<=s.size+1; omega
    ·show (0:Int)<=j+1/\j<j+1/\j+1<=s.size+1; omega
  ·rcases x with _ | r
   ·exact .ao (by show (-1:Int)<=s.size; omega)
   ·exact .ao J
 ·refine .ay xe λ_ _=>Tot.bB (λ_=>?_) (λ_=>?_)
  ·refine Tot.ay (Ξ:=hG (λ_=>True) (λr=>r<=s.size)) ?_ λx J=>?_
   ·refine Tot.count (λj=>j) (s.size+1) (λj=>0<=j) (by show (0:Int)<=i+1; omega) (by show (s.size:Int)+1 - (i+1)<_; omega) λj ag=>?_;refine Tot.bm (λaf=>?_) (λ_=>.ao trivial);have fx:aM (j+1)=j+1:=by rw [cK]; omega
    rw [fx];refine .ay (Ξ:=λ_=>True) (Tot.nZ ⟨ag,af⟩ trivial) λ_ _=>Tot.bB (λ_=>.ao ?_) (λ_=>.ao ?_)
    ·show j+1<=s.size; omega
    ·show (0:Int)<=j+1/\j<j+1/\j+1<=s.size+1; omega
   ·rcases x with _ | r
    ·exact .ao (by show (-1:Int)<=s.size; omega)
    ·exact .ao J
  ·refine .ay (t152 s i _ h aT (by simp only [dJ]; omega) (by decide)) λc _=>Tot.bB (λ_=>?_) (λ_=>?_)
   ·refine Tot.ay (Ξ:=λr=>r<=s.size) ?_ λx J=>.ao J;refine Tot.count (λj=>j) s.size (λj=>0<=j/\j<=s.size) ⟨aT,by omega⟩ (by show (s.size:Int) - i<_; omega) λj ag=>?_;refine Tot.ay (Ξ:=λc=>c=true->j<s.size) ?_ λc aa=>Tot.bB (λaf=>?_) (λ_=>.ao ag.2)
    ·refine Tot.bm (λaf=>?_) (λ_=>.ao λh=>by cases h);exact .ay (Ξ:=λ_=>True) (Tot.nZ ⟨ag.1,af⟩ trivial) λ_ _=>.ao λ_=>af
    ·have:=aa af;have fx:aM (j+1)=j+1:=by rw [cK]; omega
     rw [fx];exact .ao (by show ((0:Int)<=j+1/\j+1<=s.size)/\j<j+1/\j+1<=s.size; omega)
   ·refine .ay (t152 s i _ h aT (by simp only [dJ]; omega) (by decide)) λc aa=>Tot.bB (λih=>?_) (λ_=>.ao (by omega));refine Tot.ay (Ξ:=hG (λ_=>True) (λr=>r<=s.size)) ?_ λx J=>?_
    ·refine Tot.count (λj=>j) (s.size+1) (λj=>0<=j) (by show (0:Int)<=i+2; omega) (by show (s.size:Int)+1 - (i+2)<_; omega) λj ag=>?_;refine Tot.bm (λaf=>?_) (λ_=>.ao trivial);have fx:aM (j+1)=j+1:=by rw [cK]; omega
     have lZ:aM (j+2)=j+2:=by rw [cK]; omega
     rw [fx,lZ];refine .ay (t152 s j _ h ag (by simp only [dJ]; omega) (by decide)) λc aa=>Tot.bB (λua=>.ao ?_) (λ_=>.ao ?_)
     ·have:=aa ua;have q2:(⟨#[42,47]⟩:ByteArray).size=2:=rfl;rw [q2] at this;show j+2<=s.size; omega
     ·show (0:Int)<=j+1/\j<j+1/\j+1<=s.size+1; omega
    ·rcases x with _ | r
     ·exact .ao (by show (-1:Int)<=s.size; omega)
     ·exact .ao J
theorem t146 (s:ByteArray) (h:s.size<=dJ):Tot (z8 s 0) λ_=>True:=by
 unfold z8;have au:(s.size:Int)<=1000000000000:=by simp only [dJ] at h; omega
 refine Tot.ay (Ξ:=λ_=>True) ?_ λc _=>Tot.bB (λ_=>.ao trivial) (λ_=>?_)
 ·refine Tot.bm (λh=>.ao trivial) (λaT=>Tot.bm (λh=>.ao trivial) (λaf=>?_));exact .ay (Ξ:=λ_=>True) (Tot.nZ (by omega) trivial) λ_ _=>.ao trivial
 ·refine Tot.ay (Ξ:=λ_=>True) ?_ λx _=>by rcases x with _ | r <;> exact .ao trivial
  refine Tot.count (λj=>j.2) s.size (λj=>0<=j.2/\j.2<=s.size) ⟨by show (0:Int)<=0; omega,by show (0:Int)<=s.size; omega⟩ (by show (s.size:Int) - 0<_; omega) λj ag=>?_;refine Tot.bm (λaf=>?_) (λ_=>.ao trivial);refine .ay (t151 s j.2 h ag.1 af) λn aE=>Tot.bm (λ_=>.ao trivial) (λaI=>Tot.bm (λbD=>.ao ?_) (λbD=>?_))
  ·show ((0:Int)<=n/\n<=s.size)/\j.2<n/\n<=s.size; omega
  ·have xe:=Tot.nZ (Φ:=λ_=>True) (s:=s) (m:=j.2) ⟨ag.1,af⟩ trivial;have fx:aM (j.2+1)=j.2+1:=by rw [cK]; omega
   rw [fx];refine .ay xe λ_ _=>.ay (Ξ:=λ_=>True) (Tot.bB (λ_=>.ao trivial) (λ_=>.ao trivial)) λ_ _=>.ay xe λ_ _=>.ay (Ξ:=λ_=>True) (Tot.bB (λ_=>.ao trivial) (λ_=>.ao trivial)) λ_ _=>Tot.bB (λ_=>.ao trivial) (λ_=>.ao ?_);show ((0:Int)<=j.2+1/\j.2+1<=s.size)/\j.2<j.2+1/\j.2+1<=s.size; omega
def lV (x:Sym):Prop:=x.Lit=true->x.Name.size=1
structure GS (d:Decl):Prop where
 tag:d.Tag.size<=dJ
 n:d.eF.length<=1000
 syms:∀ x∈d.eF,x.Name.size<=dJ
structure wA (a:Alt):Prop where
 n:a.hc.length<=1000
 parts:∀ p∈a.hc,p.Sym.Name.size<=dJ/\p.Code.size<=dJ
 prec:a.Prec.Name.size<=dJ
structure LK (r:fa):Prop where
 left:r.Left.size<=dJ
 n:r.eC.length<=1000
 alts:∀ a∈r.eC,wA a
structure qV (s:Source):Prop where
 Yw:s.cx.size<=dJ
 ze:s.Decls.length<=1000
 decls:∀ d∈s.Decls,GS d
 aH:s.dz.length<=1000
 rules:∀ r∈s.dz,LK r
theorem t143 (x:Sym) (a b:Bool) (h:x.Name.size<=dJ):Tot (uD x a b) λr=>r=true->lV x:=by
 unfold uD;refine Tot.bB (λai=>?_) (λai=>?_)
 ·refine Tot.ay (Ξ:=λc=>c=false->x.Name.size=1) ?_ λc aa=>Tot.bB (λ_=>.ao λh=>by cases h) (λaf=>?_)
  ·refine Tot.bB (λ_=>.ao λh=>by cases h) (λ_=>Tot.oD (λ_=>.ao λh=>by cases h) (λh1=>.ao λ_=>by omega))
  ·have h1:=aa af;refine .ay (Ξ:=λ_=>True) (Tot.nZ (by omega) trivial) λ_ _=>.ay (t148 _) λ_ _=>.ao λ_ _=>h1
 ·have cQ:lV x:=λh=>by rw [ai] at h; cases h
  refine Tot.ay (Ξ:=λ_=>True) ?_ λc aa=>.ao λ_=>cQ;refine .ay (t134 _ h) λc _=>?_
  repeat' first | refine Tot.bB (λ_=>?_) (λ_=>?_) | exact Tot.ao trivial
theorem t133 (d:Decl) (h:GS d):Tot (xZ d) λr=>r=true->∀ x∈d.eF,lV x:=by
 unfold xZ;refine Tot.ay (Ξ:=λ_=>True) ?_ λc _=>Tot.bB (λ_=>.ao λh=>by cases h) (λ_=>?_)
 ·have aw:=(t134 _ h.tag).use (Φ:=λ_=>True) λ_ _=>trivial
  repeat' first | refine Tot.bB (λ_=>?_) (λ_=>?_) | exact Tot.ao trivial | refine .ay aw λ_ _=>?_
 ·refine Tot.ay (Tot.scan d.eF (λx=>lV x) (λr=>r=false) (by have:=h.n; omega) (λs y aT h1 hi hm=>?_) (λs aA=>by simp [aA])) λx J=>?_
  ·refine Tot.bm (λ_=>?_) (λh=>absurd h1 h);rw [hi];refine Tot.aV ?_;refine .ay (t143 _ _ _ (h.syms _ hm)) λc aa=>Tot.bB (λ_=>.ao rfl) (λaf=>.ao ⟨?_,aa (by simpa using af)⟩);have:=h.n;rw [cK]; omega
  ·rcases x with _ | r
   ·exact .ao λ_=>J
   ·exact .ao λh=>by have:r=false:=J; rw [this] at h; cases h
theorem t135 (a:Alt) (h:wA a):Tot (x0 a) λr=>r=true->(∀ p∈a.hc,lV p.Sym)/\lV a.Prec:=by
 unfold x0;refine Tot.ay (Tot.scan a.hc (λp=>lV p.Sym) (λr=>r=false) (by have:=h.n; omega) (λs y aT h1 hi hm=>?_) (λs aA=>by simp [aA])) λx J=>?_
 ·refine Tot.bm (λ_=>?_) (λh=>absurd h1 h);rw [hi];refine Tot.aV ?_;have ar:=h.parts _ hm;have t1:=t143 y.Sym false true ar.1;have t2:=t145 y.Sym;have QJ:=t146 y.Code ar.2;have hw:aM (s+1)=s+1:=by have:=h.n; rw [cK]; omega
  rw [hw];have n118:(y.Sym.Name=⟨#[]⟩/\y.Sym.Lit=false)->lV y.Sym:=λh ai=>by rw [h.2] at ai; cases ai
  refine Tot.ay (Ξ:=λc=>c=false->lV y.Sym) ?_ λc aa=>Tot.bB (λ_=>.ao rfl) (λaf=>.ao ⟨rfl,aa af⟩);refine Tot.bm (λ_=>?_) (λda=>?_)
  ·refine .ay t1 λc aa=>Tot.bB (λ_=>.ao λh=>by cases h) (λaf=>?_);have cQ:=aa (by simpa using af);refine Tot.bB (λ_=>?_) (λ_=>.ao λ_=>cQ);refine .ay t2 λc _=>Tot.bB (λ_=>.ao λ_=>cQ) (λ_=>?_);exact .ay QJ λ_ _=>.ao λ_=>cQ
  ·refine Tot.oD (λ_=>?_) (λh=>.ao λ_=>?_)
   ·refine .ay t2 λc aa=>Tot.bB (λ_=>.ao λh=>by cases h) (λaf=>?_);have cQ:=n118 (aa (by simpa using af));exact .ay QJ λ_ _=>.ao λ_=>cQ
   ·exact absurd h da
 ·rcases x with _ | r
  ·have J:∀ p∈a.hc,lV p.Sym:=J;refine Tot.ay (Ξ:=λc=>c=true->lV a.Prec) ?_ λc aa=>.ao λh=>⟨J,aa h⟩;refine .ay (t145 _) λc aa=>Tot.bB (λaf=>.ao λ_=>?_) (λ_=>.ay (t143 _ _ _ h.prec) λc aa=>.ao aa);intro ai; rw [(aa af).2] at ai; cases ai
  ·exact .ao λh=>by have:r=false:=J; rw [this] at h; cases h
structure DS (a:Alt):Prop where
 parts:∀ p∈a.hc,lV p.Sym
 prec:lV a.Prec
structure LN (s:Source):Prop where
 decls:∀ d∈s.Decls,∀ x∈d.eF,lV x
 rules:∀ r∈s.dz,∀ a∈r.eC,DS a
 pos:0<s.dz.length
theorem t103 (s:Source) (h:qV s):Tot (xX s) λr=>r=true->LN s:=by
 unfold xX;refine Tot.ay (Ξ:=hG (λ_=>True) (λr=>r=false)) ?_ λx J=>?_
 ·have ar:(s.cx.size:Int)<=1000000000000:=by have:=h.Yw; simp only [dJ] at this; omega
  refine Tot.count (λj=>j) s.cx.size (λj=>0<=j/\j<=s.cx.size) ⟨by omega,by omega⟩ (by show (s.cx.size:Int) - 0<_; omega) λj ag=>?_;have cu:aM (j+1)=j+1:=by rw [cK]; omega
  have cd:aM (j+2)=j+2:=by rw [cK]; omega
  rw [cu,cd];refine Tot.bm (λaf=>?_) (λ_=>.ao trivial);refine .ay (Ξ:=λ_=>True) (Tot.cut (by omega) trivial) λ_ _=>Tot.bB (λ_=>.ao rfl) (λ_=>.ao ?_);show ((0:Int)<=j+1/\j+1<=s.cx.size)/\j<j+1/\j+1<=s.cx.size; omega
 ·rcases x with _ | r
  ·refine Tot.ay (Tot.scan s.Decls (λd=>∀ x∈d.eF,lV x) (λr=>r=false) (by have:=h.ze; omega) (λi y aT h1 hi hm=>?_) (λs aA=>by simp [aA])) λx J=>?_
   ·refine Tot.bm (λ_=>?_) (λh=>absurd h1 h);rw [hi];refine Tot.aV ?_;refine .ay (t133 _ (h.decls _ hm)) λc aa=>Tot.bB (λ_=>.ao rfl) (λaf=>.ao ⟨?_,aa (by simpa using af)⟩);have:=h.ze;rw [cK]; omega
   ·rcases x with _ | r
    ·have J:∀ d∈s.Decls,∀ x∈d.eF,lV x:=J;refine Tot.ay (Tot.scan s.dz (λr=>∀ a∈r.eC,DS a) (λr=>r=false) (by have:=h.aH; omega) (λi y aT h1 hi hm=>?_) (λs aA=>by simp [aA])) λx iq=>?_
     ·refine Tot.bm (λ_=>?_) (λh=>absurd h1 h);rw [hi];refine Tot.aV ?_;have aj:=h.rules _ hm;have hw:aM (i+1)=i+1:=by have:=h.aH; rw [cK]; omega
      rw [hw];refine .ay (Ξ:=λ_=>True) (.ay (t134 _ aj.left) λc _=>Tot.bB (λ_=>.ao trivial) (λ_=>.ao trivial)) λc _=>Tot.bB (λ_=>.ao rfl) (λ_=>?_);refine Tot.ay (Tot.scan y.eC DS (λr=>r=false) (by have:=aj.n; omega) (λk a aT h1 hi hm=>?_) (λs aA=>by simp [aA])) λx jP=>?_
      ·refine Tot.bm (λ_=>?_) (λh=>absurd h1 h);rw [hi];refine Tot.aV ?_;refine .ay (t135 _ (aj.alts _ hm)) λc aa=>Tot.bB (λ_=>.ao rfl) (λaf=>.ao ⟨?_,⟨(aa (by simpa using af)).1,(aa (by simpa using af)).2⟩⟩);have:=aj.n;rw [cK]; omega
      ·rcases x with _ | r
       ·exact .ao ⟨rfl,jP⟩
       ·exact .ao jP
     ·rcases x with _ | r
      ·exact .ao λh=>⟨J,iq,by have:=of_decide_eq_true h; omega⟩
      ·exact .ao λh=>by have:r=false:=iq; rw [this] at h; cases h
    ·exact .ao λh=>by have:r=false:=J; rw [this] at h; cases h
  ·exact .ao λh=>by have:r=false:=J; rw [this] at h; cases h
abbrev fJ:=ds
structure rK (m m':fJ):Prop where
 g:m'.aG=m.aG
 gC:m'.cr=m.cr
 ty:m'.cJ=m.cJ
 fy:m'.cb=m.cb
 jq:m'.cq=m.cq
 hs:m'.b8=m.b8
theorem t105 (m:fJ) (a:Int) (n:ByteArray):Tot (nO m a n) λm'=>rK m m'/\m'.cZ≠0:=by
 unfold nO;apply Tot.bi;refine Tot.bm (λ_=>.ao (.ao ⟨⟨rfl,rfl,rfl,rfl,rfl,rfl⟩,?_⟩)) (λh=>.ao (.ao ⟨⟨rfl,rfl,rfl,rfl,rfl,rfl⟩,h⟩))
 grind
theorem t109 (m:fJ) (n:ByteArray) (h:m.cJ.length<=dJ):Tot (zX m n) λr=>r=-1\/(0<=r/\r<m.cJ.length):=by
 unfold zX;simp only [dJ] at h;refine Tot.ay (Tot.scan m.cJ (λ_=>True) (λr:Int=>0<=r/\r<m.cJ.length) (by omega) (λs y aT h1 hi hm=>?_) (λs aA=>by simp [aA])) λx J=>?_
 ·refine Tot.bm (λ_=>?_) (λh=>absurd h1 h);rw [hi];refine Tot.aV ?_;refine Tot.bB (λ_=>.ao ⟨aT,h1⟩) (λ_=>.ao ⟨?_,trivial⟩)
  grind [cK]
 ·rcases x with _ | r
  ·exact .ao (.inl rfl)
  ·exact .ao (.inr J)
theorem t107 (m:fJ) (n:ByteArray) (h:m.cb.length<=dJ):Tot (s7 m n) λr=>(r=-1/\∀ x∈m.cb,x≠n)\/(0<=r/\r<m.cb.length/\m.cb[r.toNat]?=some n):=by
 unfold s7;simp only [dJ] at h;refine Tot.ay (Tot.scan m.cb (λx=>x≠n) (λr:Int=>0<=r/\r<m.cb.length/\m.cb[r.toNat]?=some n) (by omega) (λs y aT h1 hi hm=>?_) (λs aA=>by simp [aA])) λx J=>?_
 ·refine Tot.bm (λ_=>?_) (λh=>absurd h1 h);rw [hi];refine Tot.aV ?_;refine Tot.bm (λe=>.ao ⟨aT,h1,by rw [<- e]; exact (pD hi).2.2⟩) (λe=>.ao ⟨?_,e⟩)
  grind [cK]
 ·rcases x with _ | r
  ·exact .ao (.inl ⟨rfl,J⟩)
  ·exact .ao (.inr J)
theorem t106 (m:fJ) (x:Sym) (h:m.aG.ba.length<=dJ):Tot (uA m x) λr=>r=-1\/(1<=r/\r<m.aG.ba.length):=by
 unfold uA;simp only [dJ] at h;refine Tot.ay (Ξ:=hG (λ_=>True) (λr=>1<=r/\r<m.aG.ba.length)) ?_ λx J=>?_
 ·refine Tot.count (λj=>j) m.aG.ba.length (λj=>1<=j) (by omega) (by show (m.aG.ba.length:Int) - 1<_; omega) λj ag=>?_;refine Tot.bm (λaf=>?_) (λ_=>.ao trivial);have e:aM (j+1)=j+1:=by rw [cK]; omega
  rw [e];refine .ay (Ξ:=λ_=>True) ?_ λc _=>Tot.bB (λ_=>.ao ⟨ag,af⟩) (λ_=>.ao ?_)
  ·refine .ay (Ξ:=λ_=>True) (Tot.hd (by omega) af λ_ _ _=>trivial) λ_ _=>Tot.bB (λ_=>?_) (λ_=>.ao trivial);exact .ay (Ξ:=λ_=>True) (Tot.hd (by omega) af λ_ _ _=>trivial) λ_ _=>Tot.bB (λ_=>.ao trivial) (λ_=>.ao trivial)
  grind
 ·rcases x with _ | r
  ·exact .ao (.inl rfl)
  ·exact .ao (.inr J)
theorem t137 (m:fJ) (n:Int) (h:m.aG.ba.length<=dJ):Tot (vY m n) λ_=>True:=by
 unfold vY;simp only [dJ] at h;refine Tot.ay (Ξ:=λ_=>True) ?_ λx J=>?_
 ·refine Tot.count (λj=>j) m.aG.ba.length (λj=>1<=j) (by decide) (by show (m.aG.ba.length:Int) - 3<_; omega) λj ag=>?_;refine Tot.bm (λaf=>?_) (λ_=>.ao trivial);have e:aM (j+1)=j+1:=by rw [cK]; omega
  rw [e];refine .ay (Ξ:=λ_=>True) (Tot.hd (by omega) af λ_ _ _=>trivial) λc _=>Tot.bB (λ_=>.ao trivial) (λ_=>.ao ?_)
  grind
 ·rcases x with _ | r <;> exact .ao trivial
structure Grow (m m':fJ) (k:Nat):Prop where
 gC:m'.cr.length=m'.aG.ba.length
 lo:m.aG.ba.length<=m'.aG.ba.length
 hi:m'.aG.ba.length<=m.aG.ba.length+k
 ty:m'.cJ.length<=m.cJ.length+k
 fy:m'.cb=m.cb
 hl:m'.aG.bj=m.aG.bj
 hs:m'.b8=m.b8
 lvl:m'.cq=m.cq
 jq:0<=m.cq->(∀ t∈m.aG.ba,0<=t.Level)->∀ t∈m'.aG.ba,0<=t.Level
theorem rK.grow {m m':fJ}(h:rK m m') (aP:m.cr.length=m.aG.ba.length) (k:Nat):Grow m m' k:=by
 obtain ⟨h1,af,aI,bD,cF,dS⟩:=h;exact ⟨by rw [h1,af]; exact aP,by rw [h1]; omega,by rw [h1]; omega,by rw [aI]; omega,bD,by rw [h1],dS,cF,by rw [h1]; exact λ_ h=>h⟩
theorem t136 (m:fJ) (x:Sym) (aP:m.cr.length=m.aG.ba.length) (h:m.aG.ba.length<=100000000000) (J:lV x) :
  Tot (vX m x) λr=>Grow m r.2 1/\0<=r.1/\r.1<r.2.aG.ba.length:=by
 unfold vX;refine .ay (t106 m x (by simp only [dJ]; omega)) λt aw=>Tot.bm (λaT=>.ao ⟨⟨aP,Nat.le_refl _,Nat.le_succ _,Nat.le_succ _,rfl,rfl,rfl,rfl,λ_ h=>h⟩,aT,?_⟩) (λ_=>?_)
 ·grind
 ·refine Tot.ay (Ξ:=λj=>rK m j.1) ?_ λj ag=>?_
  ·refine Tot.bB (λai=>?_) (λ_=>.ao ⟨rfl,rfl,rfl,rfl,rfl,rfl⟩);have:=J ai;refine .ay (Ξ:=λ_=>True) (Tot.nZ (by omega) trivial) λb _=>.ay (t137 m _ (by simp only [dJ]; omega)) λo _=>?_;refine Tot.ay (Ξ:=λj=>rK m j) ?_ λj ag=>.ao ag;exact Tot.bB (λ_=>.ay (t105 m _ _) λm' hm=>.ao hm.1) (λ_=>.ao ⟨rfl,rfl,rfl,rfl,rfl,rfl⟩)
  ·obtain ⟨h1,af,aI,bD,cF,dS⟩:=ag;have aQ:j.1.aG.ba.length=m.aG.ba.length:=by rw [h1]
   have V7:j.1.cr.length=m.cr.length:=by rw [af]
   refine .ay (Ξ:=λ_=>True) (Tot.ap (by rw [aQ]; simp [lim]; omega) trivial) λ_ _=>.ay (Ξ:=λ_=>True) (Tot.ap (by rw [V7]; simp [lim]; omega) trivial) λ_ _=>.ao ?_;refine ⟨⟨?_,?_,?_,?_,bD,by show j.1.aG.bj=_; rw [h1],dS,cF,?_⟩,?_,?_⟩
   all_goals grind [cK]
structure nX (m m':fJ):Prop where
 tk:m'.aG.ba.length=m.aG.ba.length
 gC:m'.cr.length=m.cr.length
 ty:m'.cJ=m.cJ
 fy:m'.cb=m.cb
 hl:m'.aG.bj=m.aG.bj
 hs:m'.b8=m.b8
 lvl:m'.cq=m.cq
 jq:0<=m.cq->(∀ t∈m.aG.ba,0<=t.Level)->∀ t∈m'.aG.ba,0<=t.Level
theorem nX.refl (m:fJ):nX m m:=⟨rfl,rfl,rfl,rfl,rfl,rfl,rfl,λ_ h=>h⟩
theorem nX.trans {m m' CF:fJ}(h:nX m m') (aL:nX m' CF):nX m CF:=⟨aL.tk.trans h.tk,aL.gC.trans h.gC,aL.ty.trans h.ty,aL.fy.trans h.fy,aL.hl.trans h.hl,aL.hs.trans h.hs,aL.lvl.trans h.lvl,λaT ai=>aL.jq (by rw [h.lvl]; exact aT) (h.jq aT ai)⟩
theorem rK.tk {m m':fJ}(h:rK m m'):nX m m':=⟨by rw [h.g],by rw [h.gC],h.ty,h.fy,by rw [h.g],h.hs,h.jq,by rw [h.g]; exact λ_ h=>h⟩
theorem Grow.tk {m m' CF:fJ}{k:Nat}(h:Grow m m' k) (aL:nX m' CF):Grow m CF k :=
 ⟨by rw [aL.gC,aL.tk]; exact h.gC,by rw [aL.tk]; exact h.lo,by rw [aL.tk]; exact h.hi,by rw [aL.ty]; exact h.ty,aL.fy.trans h.fy,aL.hl.trans h.hl,aL.hs.trans h.hs,aL.lvl.trans h.lvl,λaT ai=>aL.jq (by rw [h.lvl]; exact aT) (h.jq aT ai)⟩
theorem Pa {α:Type}{l:List α}{i:Nat}{x y:α}(h:y∈l.set i x):y∈l\/y=x:=List.mem_or_eq_of_mem_set h
theorem t104 (m:fJ) (d:Decl) (x:Sym) (aP:m.cr.length=m.aG.ba.length) (h:m.aG.ba.length<=100000000000) (aw:m.cJ.length<=100000000000) (J:lV x) :
  Tot (vU m d x) λm'=>Grow m m' 1:=by
 unfold vU;refine Tot.bB (λ_=>?_) (λ_=>?_)
 ·refine .ay (t109 m x.Name (by simp only [dJ]; omega)) λk hk=>Tot.ay (Ξ:=λm'=>Grow m m' 1) ?_ λm' hm=>.ao hm;refine Tot.bm (λ_=>?_) (λaT=>?_)
  ·refine .ay (Ξ:=λ_=>True) (Tot.ap (by simp [lim]; omega) trivial) λ_ _=>.ao ⟨aP,Nat.le_refl _,Nat.le_succ _,?_,rfl,rfl,rfl,rfl,λ_ h=>h⟩
   grind
  ·refine .ay (Ξ:=λ_=>True) (Tot.hd (by omega) (by omega) λ_ _ _=>trivial) λ_ _=>Tot.ay (Ξ:=λm'=>Grow m m' 1) ?_ λm' hm=>.ao hm;exact Tot.bB (λ_=>.ay (t105 m _ _) λm' hm=>.ao (hm.1.grow aP 1)) (λ_=>.ao ⟨aP,Nat.le_refl _,Nat.le_succ _,Nat.le_succ _,rfl,rfl,rfl,rfl,λ_ h=>h⟩)
 ·refine .ay (t136 m x aP h J) λr ⟨aj,aT,h1⟩=>?_;have hd:∀ {m':fJ},nX r.2 m'->Tot (idx m'.aG.ba r.1) λy=>y∈m'.aG.ba:=λhm=>Tot.hd aT (by rw [hm.tk]; exact h1) λ_ _ h=>h;have O0:∀ {m':fJ},nX r.2 m'->Tot (idx m'.cr r.1) λ_=>True:=λhm=>Tot.hd aT (by rw [hm.gC,aj.gC]; exact h1) λ_ _ _=>trivial;refine .ay (hd (.refl _)) λy _=>?_;refine Tot.ay (Ξ:=λm'=>nX r.2 m') ?_ λeN mj=>?_
  ·refine Tot.bB (λ_=>?_) (λ_=>.ao (.refl _));refine Tot.ay (Ξ:=λm'=>nX r.2 m') ?_ λdd sF=>?_
   ·exact Tot.bB (λ_=>.ay (t105 r.2 _ _) λm' hm=>.ao ⟨rfl,hm.1.tk.gC,hm.1.tk.ty,hm.1.tk.fy,hm.1.tk.hl,hm.1.tk.hs,hm.1.tk.lvl,λ_ h=>h⟩) (λ_=>.ao (.refl _))
   ·refine .ay (hd sF) λ_ _=>.ao (sF.trans ⟨?_,rfl,rfl,rfl,rfl,rfl,rfl,λai aw t bY=>?_⟩)
    ·grind
    grind
  ·refine .ay (hd mj) λ_ _=>?_;refine Tot.ay (Ξ:=λm'=>nX r.2 m') ?_ λfb vg=>?_
   ·refine Tot.bB (λ_=>?_) (λ_=>.ao mj);refine .ay (Ξ:=λ_=>True) ?_ λc _=>?_
    ·refine Tot.bB (λ_=>.ao trivial) (λ_=>.ay (O0 mj) λ_ _=>Tot.bB (λ_=>.ao trivial) (λ_=>.ay (t137 eN _ ?_) λ_ _=>.ao trivial));have:=mj.tk;have:=aj.hi
     grind
    ·refine Tot.ay (Ξ:=λm'=>nX r.2 m') ?_ λdY rV=>?_
     ·exact Tot.bB (λ_=>.ay (t105 eN _ _) λm' hm=>.ao (mj.trans ⟨rfl,hm.1.tk.gC,hm.1.tk.ty,hm.1.tk.fy,hm.1.tk.hl,hm.1.tk.hs,hm.1.tk.lvl,λ_ h=>h⟩)) (λ_=>.ao mj)
     ·refine .ay (hd rV) λy av=>.ay (O0 rV) λ_ _=>.ao (rV.trans ⟨?_,?_,rfl,rfl,rfl,rfl,rfl,λai aw t bY=>?_⟩)
      all_goals grind
   ·refine .ay (hd vg) λ_ _=>?_;refine Tot.ay (Ξ:=λm'=>nX r.2 m') ?_ λpE H8=>.ao (aj.tk H8);refine Tot.bB (λ_=>?_) (λ_=>.ao vg);refine .ay (Ξ:=λ_=>True) (Tot.bB (λ_=>.ao trivial) (λ_=>.ao trivial)) λc _=>?_;refine Tot.ay (Ξ:=λm'=>nX r.2 m') ?_ λna Bu=>?_
    ·exact Tot.bB (λ_=>.ay (t105 fb _ _) λm' hm=>.ao (vg.trans ⟨rfl,hm.1.tk.gC,hm.1.tk.ty,hm.1.tk.fy,hm.1.tk.hl,hm.1.tk.hs,hm.1.tk.lvl,λ_ h=>h⟩)) (λ_=>.ao vg)
    ·refine .ay (hd Bu) λy av=>.ao (Bu.trans ⟨?_,rfl,rfl,rfl,rfl,rfl,rfl,λai aw t bY=>?_⟩)
     ·grind
     grind
def qW (T:Nat) (N:Int) (s:Int):Prop:=(0<=s/\s<T)\/(1000<=s/\s<=1000+N)
theorem qW.mono {T T':Nat}{N iW s:Int}(h:qW T N s) (dK:T<=T') (bd:N<=iW):qW T' iW s:=by
 rcases h with h | h
 ·exact .inl (by omega)
 ·exact .inr (by omega)
theorem t138 (m:fJ) (x:Sym) (aP:m.cr.length=m.aG.ba.length) (aI:3<=m.aG.ba.length) (h:m.aG.ba.length<=100000000000) (ai:m.cb.length<=100000000000) (J:lV x) :
  Tot (s8 m x) λr=>Grow m r.2 1/\qW r.2.aG.ba.length m.cb.length r.1:=by
 unfold s8;have r2:Grow m m 1:=⟨aP,Nat.le_refl _,Nat.le_succ _,Nat.le_succ _,rfl,rfl,rfl,rfl,λ_ h=>h⟩;refine Tot.bB (λ_=>?_) (λ_=>?_)
 ·exact .ay (t136 m x aP h J) λr ⟨aj,aT,h1⟩=>.ao ⟨aj,.inl ⟨aT,h1⟩⟩
 ·refine .ay (t107 m x.Name (by simp only [dJ]; omega)) λk hk=>Tot.bm (λaT=>.ao ⟨r2,.inr ?_⟩) (λ_=>?_)
  ·grind [cK]
  ·refine .ay (t106 m x (by simp only [dJ]; omega)) λt aw=>Tot.bm (λ_=>?_) (λaT=>.ao ⟨r2,.inl ?_⟩)
   ·refine .ay (t105 m _ _) λm' hm=>.ao ⟨hm.1.grow aP 1,.inl ⟨Int.le_refl 0,?_⟩⟩;show (0:Int)<(m'.aG.ba.length:Int);rw [hm.1.g];omega
   grind
end Go.Proofs
