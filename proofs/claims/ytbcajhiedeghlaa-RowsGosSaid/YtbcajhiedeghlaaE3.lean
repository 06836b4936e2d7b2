/-
  What is proved here: parts of the proof that the last text states: rules for walks through code, and of this program's functions what they answer. No condition of their own.
-/
import Derived.ChangeAt
import Derived.ChangeOld
import Derived.ChangeSame
import Derived.Deep.Draws
import Derived.Deep.LoopGhost
import Derived.Deep.Slices
import Derived.KernelRfl
import Derived.Laws.CopyRow
import Derived.Lib.SliceRun
import Derived.Lib.SlicesCompact
import Derived.Lib.Walk
import Derived.Maps.OwnIn
import Derived.ReadAgain
import Derived.RowKit3
import Derived.Shelf.RegionOpenPlain
import Derived.Shelf.SlLaysQ
import Derived.Shelf.SlSortCmp.NoneTotal
import Derived.Shelf.SlicesE.Kit
import Derived.Shelf.SlicesQ.Load
import Derived.Sort.WalkB12
import Derived.StringKeys
import Derived.Test.YtbcajhiedeghlaaRows
import Derived.WalkKit
import Derived.WideShapes
import Derived.Test.YtbcajhiedeghlaaE2
namespace Go.Own
open Go Go.RowKit Go.ChangeShapes Go.WideShapes Go.Deep
variable {α β H9:Type}{P:Program}
abbrev qm (w:World) (y:ag) (u:Value):Prop:=R w (λb=>b<w.heap.size) (λ_ _=>False) y u (λ_=>False)
def mj (w:World) (ys:List ag) (cs:List Value):Prop :=
 ys.length=cs.length/\∀ (k:Nat) (y:ag) (u:Value),ys[k]?=some y->cs[k]?=some u->u.oneCell'=true/\qm w y u
theorem mj.nil {w:World}:mj w [] []:=⟨rfl,λ_ _ _ h=>by simp at h⟩
theorem mj.one {w:World}{y:ag}{u:Value}(h1:u.oneCell'=true) (h:qm w y u):mj w [y] [u] :=
 ⟨rfl,λk y' s9 az hu=>by
  cases k with
  | zero=>simp at az hu; subst az hu; exact ⟨h1,h⟩
  | succ k=>simp at az⟩
theorem mj.app {w:World}{ys wE:List ag}{cs ja:List Value}(h:mj w ys cs) (al:mj w wE ja):mj w (ys++wE) (cs++ja):=by
 refine ⟨by simp [h.1,al.1],λk y u az hu=>?_⟩
 by_cases hk:k<ys.length
 ·rw [List.getElem?_append_left hk] at az
  rw [List.getElem?_append_left (h.1 ▸ hk)] at hu
  exact h.2 k y u az hu
 ·rw [List.getElem?_append_right (by omega)] at az
  rw [List.getElem?_append_right (by have:=h.1; omega),<- h.1] at hu
  exact al.2 _ y u az hu
structure lS (P:Program) (e:cD α) (t:TypeId) (ok:α->Prop):Prop where
 z:P.cellsOf t=e.z
 go:∀ {H:Type}{enc:TypeId × Value->H}{w:World}{n:Nat}{cs:List Value}{x:DataW H × List MemPlace},
  DataW.trod enc P w 0 (λ_=>true) true n t cs=some x->∃ a,ok a/\mj w (e.cells a) cs
theorem lS.int {e:cD Int}{t:TypeId}{k:IntKind}(aD:P.underlying t=some (.int k)) (bM:P.cellsOf t=e.z) (he:∀ n,e.cells n=[.lit (.int k n)]) :
  lS P e t (λn=>(Lit.int k n).wf=true):=by
 refine ⟨bM,λh=>?_⟩
 obtain ⟨n,rfl,_,hw⟩:=DataW.trod_int aD h
 exact ⟨n,hw,he n ▸ mj.one rfl (.lit rfl λ_ h=>h)⟩
theorem lS.bool {e:cD Bool}{t:TypeId}(aD:P.underlying t=some .bool) (bM:P.cellsOf t=e.z) (he:∀ n,e.cells n=[.lit (.bool n)]) :
  lS P e t (λ_=>True):=by
 refine ⟨bM,λh=>?_⟩
 obtain ⟨n,rfl,_⟩:=DataW.trod_bool aD h
 exact ⟨n,trivial,he n ▸ mj.one rfl (.lit rfl λ_ h=>h)⟩
theorem Ml (e:cD α) (bM:0<e.z):∀ (l:List α) (k:Nat) (y:ag),(ch e l)[k]?=some y->∃ a,l[k / e.z]?=some a/\(e.cells a)[k % e.z]?=some y
 | [],k,y,h=>by simp [ch] at h
 | a::l,k,y,h=>by
  have he:ch e (a::l)=e.cells a++ch e l:=by simp [ch]
  rw [he] at h
  by_cases hk:k<e.z
  ·rw [List.getElem?_append_left (by rw [e.len]; exact hk)] at h
   exact ⟨a,by simp [Nat.div_eq_of_lt hk],by rw [Nat.mod_eq_of_lt hk]; exact h⟩
  ·rw [List.getElem?_append_right (by rw [e.len]; omega),e.len] at h
   obtain ⟨b,h1,al⟩:=Ml e bM l (k - e.z) y h
   have aV:k / e.z=(k - e.z) / e.z+1:=by rw [Nat.div_eq_sub_div bM (by omega)]
   refine ⟨b,by rw [aV]; simpa using h1,?_⟩
   rw [Nat.mod_eq_sub_mod (by omega)]; exact al
theorem lS.slice {e:cD α}{t DF:TypeId}{ok:α->Prop}(h:lS P e DF ok) (aD:P.underlying t=some (.slice DF)) (bM:P.cellsOf t=1) (sG:0<e.z) :
  lS P (bg e) t (λl=>l.length<=maxLen/\∀ x∈l,ok x):=by
 classical
 refine ⟨bM,λ{H enc w n cs x} ax=>?_⟩
 rcases open_slice aD ax with ⟨rfl,rfl⟩ | ⟨a,len,cap,m,cX,D,oW,rfl,aH,ao,hm,F2,rfl,J⟩
 ·exact ⟨[],⟨by simp,by simp⟩,mj.one rfl (.hQ λ_ h=>h)⟩
 ·have RR:m=cap:=by simpa using F2
  subst RR
  have hex:∀ i,i<len->∃ q:α × List Value,ok q.1/\mj w (e.cells q.1) q.2/\w.cells? 0 (a.add (i * P.cellsOf DF)) (P.cellsOf DF)=some q.2:=λi hi=>by
   obtain ⟨cs',h1,al⟩:=J i (by omega)
   obtain ⟨b,dg,cO⟩:=h.go al
   exact ⟨(b,cs'),dg,cO,h1⟩
  by_cases bb:len=0
  ·subst bb
   exact ⟨[],⟨by simp,by simp⟩,mj.one rfl (.hQ λ_ h=>h)⟩
  ·obtain ⟨uq,_⟩:=hex 0 (by omega)
   haveI:Inhabited (α × List Value):=⟨uq⟩
   obtain ⟨f,bl⟩:=choose_lt hex
   have hlen:((List.range len).map λi=>(f i).1).length=len:=by simp
   have mq:∀ (i:Nat) (b:α),((List.range len).map λi=>(f i).1)[i]?=some b->i<len/\b=(f i).1:=λi b hi=>by
    have bc:=(List.getElem?_eq_some_iff.1 hi).1
    simp at bc
    simp [bc] at hi
    exact ⟨bc,hi.symm⟩
   have kl:a.spot=none/\a.block<w.heap.size:=by
    obtain ⟨_,_,aO⟩:=bl 0 (by omega)
    obtain ⟨_,FY,df⟩:=World.cells?_some aO
    have eL:=df 0 (by rw [h.z]; exact sG)
    simp only [Nat.zero_mul,Addr.add,if_true] at eL
    have:0<(f 0).2.length:=by rw [FY,h.z]; exact sG
    rw [List.getElem?_eq_getElem this] at eL
    unfold World.cell? at eL
    split at eL
    ·rename_i b9
     refine ⟨?_,(Array.getElem?_eq_some_iff.1 b9).1⟩
     cases aN:a.spot with
     | none=>rfl
     | some s=>simp [aN] at eL
    ·cases eL
   have key:∀ (k:Nat) (y:ag),(ch e ((List.range len).map λi=>(f i).1))[k]?=some y->∃ u,w.cell? ⟨a.block,a.off+k,none⟩=some u/\u.oneCell'=true/\qm w y u:=λk y hk=>by
    obtain ⟨b,dg,cO⟩:=Ml e sG _ k y hk
    obtain ⟨hi,rfl⟩:=mq _ _ dg
    obtain ⟨_,al,aO⟩:=bl _ hi
    obtain ⟨_,FY,df⟩:=World.cells?_some aO
    have K2:k % e.z<e.z:=Nat.mod_lt _ sG
    have eL:=df (k % e.z) (by rw [h.z]; exact K2)
    rw [Deep.add_add,h.z] at eL
    have gH:k / e.z * e.z+k % e.z=k:=by rw [Nat.mul_comm]; exact Nat.div_add_mod k e.z
    rw [gH] at eL
    have bc:k % e.z<(f (k / e.z)).2.length:=by rw [FY,h.z]; exact K2
    rw [List.getElem?_eq_getElem bc] at eL
    have bj:a.add k=⟨a.block,a.off+k,none⟩:=by
     unfold Addr.add
     split
     ·rename_i P0; subst P0; cases a; simp at kl ⊢; exact kl.1
     ·rfl
    rw [bj] at eL
    exact ⟨_,eL,al.2 _ _ _ cO (List.getElem?_eq_getElem bc)⟩
   refine ⟨(List.range len).map λi=>(f i).1,⟨by rw [hlen]; omega,λy az=>?_⟩,mj.one rfl ?_⟩
   ·obtain ⟨i,hi,rfl⟩:=List.mem_map.1 az
    exact (bl i (List.mem_range.1 hi)).1
   ·show qm w (.aE e.z _ _) _
    rw [hlen]
    refine .aE (us:=λk=>(w.cell? ⟨a.block,a.off+k,none⟩).getD .nilFunc) (λ_ h=>h) ao kl.2 kl.1 (by rw [oM,hlen]) (λk y hk=>?_) (λk y hk=>?_) (λk y hk=>?_)
    ·obtain ⟨u,h1,al,aO⟩:=key k y hk
     simp only [h1,Option.getD_some]; exact al
    ·obtain ⟨u,h1,al,aO⟩:=key k y hk
     simp only [h1,Option.getD_some]
    ·obtain ⟨u,h1,al,aO⟩:=key k y hk
     simp only [h1,Option.getD_some]; exact aO
def zt (P:Program):Nat->List Field->List TypeId->Bool
 | _,[],[]=>true
 | off,f::fs,t::ts=>decide (f.type=t)&&decide (f.offset=off)&&zt P (off+P.cellsOf t) fs ts
 | _,_,_=>false
def Bu (P:Program) (t:TypeId) (ts:List TypeId):Bool :=
 match P.underlying t with
 | some (.struct fs)=>zt P 0 fs.toList ts&&decide (P.cellsOf t=(ts.map P.cellsOf).sum)
 | _=>false
structure wF (P:Program) (cells:β->List ag) (ts:List TypeId) (ok:β->Prop):Prop where
 go:∀ {H:Type}{enc:TypeId × Value->H}{w:World}{n:Nat}{cs:List Value}{fs:List Field}{off:Nat},zt P off fs ts=true->cs.length=off+(ts.map P.cellsOf).sum ->
  (∀ (i:Nat) (f:Field),fs[i]?=some f->∃ x,DataW.trod enc P w 0 (λ_=>true) true n f.type ((cs.drop f.offset).take (P.cellsOf f.type))=some x) ->
  ∃ b,ok b/\mj w (cells b) (cs.drop off)
theorem wF.nil:wF P (λ_:Unit=>[]) [] (λ_=>True) :=
 ⟨λ{H enc w n cs fs off} _ ao _=>⟨(),trivial,by rw [List.drop_eq_nil_of_le (by simp at ao; omega)]; exact mj.nil⟩⟩
theorem wF.cons {e:cD α}{t:TypeId}{ts:List TypeId}{ok:α->Prop}{cells:β->List ag}{LZ:β->Prop}(h:lS P e t ok) (ao:wF P cells ts LZ) :
  wF P (λp:α × β=>e.cells p.1++cells p.2) (t::ts) (λp=>ok p.1/\LZ p.2):=by
 refine ⟨λ{H enc w n cs fs off} iv hlen ax=>?_⟩
 cases fs with
 | nil=>simp [zt] at iv
 | cons f fs =>
  simp only [zt,Bool.and_eq_true,decide_eq_true_eq] at iv
  obtain ⟨⟨rfl,rfl⟩,iv⟩:=iv
  obtain ⟨x,J⟩:=ax 0 f rfl
  obtain ⟨a,bj,bf⟩:=h.go J
  obtain ⟨b,aH,QI⟩:=ao.go (off:=f.offset+P.cellsOf f.type) (cs:=cs) iv (by rw [hlen]; simp [Nat.add_assoc]) (λi PL tP=>ax (i+1) PL (by simpa using tP))
  refine ⟨(a,b),⟨bj,aH⟩,?_⟩
  have:cs.drop f.offset=(cs.drop f.offset).take (P.cellsOf f.type)++cs.drop (f.offset+P.cellsOf f.type):=by
   rw [<- List.drop_drop]; exact (List.take_append_drop _ _).symm
  rw [this]
  exact bf.app QI
theorem lS.struct {e:cD H9}{t:TypeId}{ts:List TypeId}{cells:β->List ag}{ok:β->Prop}(h:wF P cells ts ok) (mk:β->H9) (un:H9->β) (Lg:∀ b,un (mk b)=b) (ab:∀ b,e.cells (mk b)=cells b) (aD:Bu P t ts=true) (bM:P.cellsOf t=e.z) :
  lS P e t (λs=>ok (un s)):=by
 refine ⟨bM,λ{H enc w n cs x} ax=>?_⟩
 unfold Bu at aD
 split at aD
 ·rename_i fs hu
  simp only [Bool.and_eq_true,decide_eq_true_eq] at aD
  obtain ⟨xs,cX,rfl,rfl,ao,Gv,J⟩:=DataW.trod_struct hu ax
  obtain ⟨b,aH,bf⟩:=h.go (w:=w) (off:=0) (cs:=cs) (fs:=fs.toList) (n:=cX) (enc:=enc) aD.1 (by rw [ao,aD.2]; simp) (λi f bl=>by
   have tP:fs[i]?=some f:=by simpa using bl
   have hi:i<xs.length:=by rw [Gv]; exact (Array.getElem?_eq_some_iff.1 tP).1
   exact ⟨xs[i],by rw [J i f tP,List.getElem?_eq_getElem hi]⟩)
  exact ⟨mk b,by rw [Lg]; exact aH,by rw [ab]; simpa using bf⟩
 ·cases aD
inductive BO (w:World):ag->Value->Prop
 | mk {y:ag}{v:Value}(h:qm w y v):BO w y v
theorem lS.one {e:cD α}{t:TypeId}{ok:α->Prop}{g:α->ag}(h:lS P e t ok) (he:∀ a,e.cells a=[g a]) {H:Type}{enc:TypeId × Value->H}{w:World}{v:Value}{d:DataW H}{p:List MemPlace}(hv:v.cells.toList=[v])
  (aD:DataW.Trod enc P w 0 (λ_=>true) true t v d p):∃ a,ok a/\BO w (g a) v:=by
 obtain ⟨n,aL⟩:=aD
 obtain ⟨a,bj,bf⟩:=h.go aL
 refine ⟨a,bj,.mk ?_⟩
 rw [hv,he] at bf
 exact (bf.2 0 _ _ rfl rfl).2
theorem lS.L0 {e:cD α}{t:TypeId}{ok:α->Prop}{ts:List TypeId}(h:lS P e t ok) (iv:Bu P t ts=true) {H:Type}{enc:TypeId × Value->H}{w:World}{v:Value}{d:DataW H}{p:List MemPlace}{base:Nat}(hv:Value.okWide P w .any base t v)
  (aD:DataW.Trod enc P w 0 (λ_=>true) true t v d p):∃ a,ok a/\BO w (.agg (e.cells a)) v:=by
 have hu:∃ fs,P.underlying t=some (.struct fs):=by
  unfold Bu at iv
  split at iv
  ·exact ⟨_,by assumption⟩
  ·cases iv
 obtain ⟨fs,hu⟩:=hu
 obtain ⟨cs,rfl,hy⟩:=okWide_struct hu hv
 obtain ⟨n,aL⟩:=aD
 obtain ⟨a,bj,bf⟩:=h.go aL
 refine ⟨a,bj,.mk ?_⟩
 have jq:mj w (e.cells a) cs.toList:=bf
 refine .agg (Fs:=λ_ _=>False) (by simpa using jq.1) (λk u hu=>?_) (λk x u J hu=>(jq.2 k x u J (by simpa using hu)).2) (λ_ _ _ _ _ h=>h.elim) (λc=>⟨λh=>h.elim,λ⟨_,_,h⟩=>h⟩)
 have hk:k<(e.cells a).length:=by rw [jq.1]; simpa using (Array.getElem?_eq_some_iff.1 hu).1
 exact (jq.2 k _ u (List.getElem?_eq_getElem hk) (by simpa using hu)).1
inductive te (w:World):List ag->List Value->Prop
 | nil:te w [] []
 | cons {y:ag}{v:Value}{ys:List ag}{vs:List Value}(h:BO w y v) (aN:te w ys vs):te w (y::ys) (v::vs)
theorem te.get {w:World}{ys:List ag}{vs:List Value}(h:te w ys vs):ys.length=vs.length/\∀ (k:Nat) (y:ag),ys[k]?=some y->∃ v,vs[k]?=some v/\qm w y v:=by
 induction h with
 | nil=>exact ⟨rfl,λk y h=>by simp at h⟩
 | cons h _ aS =>
  refine ⟨by simp [aS.1],λk y az=>?_⟩
  cases k with
  | zero =>
   simp at az; subst az
   obtain ⟨h⟩:=h
   exact ⟨_,rfl,h⟩
  | succ k=>simpa using aS.2 k y (by simpa using az)
theorem te.Uh {w:World}{ys:List ag}{vs:List Value}(h:te w ys vs) (aG:ys.all (λy=>match y with | .bX ..=>false | _=>true)=true) :
  cY w (λb=>b<w.heap.size) vs.toArray (o2 ys) (λ_=>cU):=by
 refine ⟨λt x J=>?_,λ_ _ _ h=>h,λ_ _ _ h=>h.elim,λ_ _ h=>h.elim,λ_ h=>h,λt dn z p n m new cJ cX m' dj h1 _=>?_⟩
 ·obtain ⟨v,hv,bf⟩:=h.get.2 t x J
  exact ⟨v,by simpa using hv,.tree (bf.frame (λ_ _=>rfl) (λ_ h=>h) (λ_ _ h=>h.elim) (λ_ _=>rfl))⟩
 ·have:=List.all_eq_true.1 aG _ (List.mem_of_getElem? h1)
  cases this
structure Ic (w w':World):Prop where
 kept:∀ may:MemPlace->Prop,w.keptBut w' may
 e7:∀ a,a.block<w.heap.size->w'.frozen? a=w.frozen? a
theorem cb.M5 {f:FuncId}{ys:List ag}{vs:List Value}{outs:List (Option ag)}{r:Value}(ab:cb P f ys outs (.lit r)) (w:World) (h:te w ys vs) (aG:ys.all (λy=>match y with | .bX ..=>false | _=>true)=true) :
  Calls P f vs.toArray w λe w'=>e=.returned r/\Ic w w'/\∀ i:Nat,i<w.heap.size->w'.heap[i]?=w.heap[i]?:=by
 have:=ab.2 w _ vs _ h.get.1.symm (h.Uh aG)
 refine this.mono ?_
 rintro e w' ⟨v,I',cp,rfl,bT,cn⟩
 obtain ⟨u,hu,bf⟩:=bT.rel outs.length (.lit r) (by simp [oL])
 have ao:outs.length=vs.length:=by rw [ab.1]; exact h.get.1
 have CU:u=v:=by
  rw [ao] at hu
  simpa using hu.symm
 subst CU
 have hv:=(bf.hB (by simp)).ie.1
 subst hv
 have aH:∀ i:Nat,i<w.heap.size->w'.heap[i]?=w.heap[i]?:=λi hi=>cn.fE.block i hi λ⟨_,h⟩=>h
 have hk:World.keptBut w w' (λ_=>False):=⟨cn.fE.os,cn.fE.output,λi hi=>by
  rw [aH i hi]
  exact (World.keptBut_refl w (λ_=>False)).2.2 i hi⟩
 exact ⟨rfl,⟨λmay=>World.keptBut_mono (λ_ f=>f.elim) hk,cn.fE.e7⟩,aH⟩
theorem MW {H:Type}{enc:TypeId × Value->H}{w w':World}{base:Nat}{sp:Nat->Bool}{held:Bool}(aH:∀ i:Nat,i<w.heap.size->w'.heap[i]?=w.heap[i]?) :
  ∀ {ts:List TypeId}{vs:List Value}{ja:List (DataW H)}{ps:List MemPlace},DataW.TrodAll enc P w base sp held ts vs ja ps->DataW.TrodAll enc P w' base sp held ts vs ja ps
 | [],[],[],_,h=>h
 | _::_,_::_,_::_,_,⟨p,q,⟨n,aL⟩,al,e⟩=>by
  refine ⟨p,q,⟨n,DataW.trod_carry n _ _ _ aL λx J=>?_⟩,MW aH al,e⟩
  have bc:=DataW.trod_lt n _ _ _ aL x J
  cases x with
  | cell b off =>
   show w'.cell? _=w.cell? _
   exact World.cell?_of_block (aH b bc)
  | map b=>exact aH b bc
theorem IG {H:Type}{enc:TypeId × Value->H}{w w':World}(ao:laidOutB P=true) (hm:mapsRowed P=true)
  (bM:((List.range P.types.size).all λt=>match P.underlying t with | some (.slice e)=>decide (0<P.cellsOf e) | _=>true)=true)
  (aH:∀ i:Nat,i<w.heap.size->w'.heap[i]?=w.heap[i]?) {ts:List TypeId}{vs:List Value}{ja:List (DataW H)}{ps:List MemPlace}(aD:ts.all (λt=>decide (t<P.types.size))=true)
  (h:DataW.TrodAll enc P w 0 (λ_=>true) true ts vs ja ps) {sp:Nat->Bool}(kl:∀ p∈ps,sp p.block=true):DataW.TrodAll enc P w' 0 sp true ts vs ja ps :=
 (MW aH h).respare (kids_rows ao hm) (slices_full_of P bM) (λt h=>of_decide_eq_true (List.all_eq_true.1 aD t h)) kl
end Go.Own
namespace Go.Own
open Go
section
variable {α β:Type}{P:Program}{N:dN}{g g1:aY}{p:Place}{m:Int}{a b:Operand}{t:TypeId}
theorem ag.IQ:∀ (l:List Nat) {x nd:ag}{k:Nat}{c:ag},x.at l=some nd->nd.kids[k]?=some c->x.at (l++[k])=some c
 | [],x,nd,k,c,h,hk=>by
  simp only [ag.at,Option.some.injEq] at h
  subst h
  simp [ag.at,hk]
 | ae::l,x,nd,k,c,h,hk=>by
  simp only [ag.at] at h
  cases aa:x.kids[ae]? with
  | none=>rw [aa] at h; cases h
  | some y =>
   rw [aa] at h
   simp only [List.cons_append,ag.at,aa]
   exact ag.IQ l h hk
theorem ag.Mz:∀ (l:List Nat) {x nd:ag}{k:Nat}{c:ag}(y:ag),x.at l=some nd->nd.kids[k]?=some c->x.setAt (l++[k]) y=x.setAt l (nd.uz k y)
 | [],x,nd,k,c,y,h,hk=>by
  simp only [ag.at,Option.some.injEq] at h
  subst h
  simp [ag.setAt,hk]
 | ae::l,x,nd,k,c,y,h,hk=>by
  simp only [ag.at] at h
  cases aa:x.kids[ae]? with
  | none=>rw [aa] at h; cases h
  | some z =>
   rw [aa] at h
   simp only [List.cons_append,ag.setAt,aa]
   rw [ag.Mz l y h hk]
theorem JL {en:cD α}{L:List α}{ku:α}{o:Nat}{c:ag}(h:idx L m=some ku) (ab:(en.cells ku)[o]?=some c):(ak en L).kids[m.toNat * en.z+o]?=some c:=Mi en h ab
theorem tr {en:cD α}{L:List α}{ku:α}{r o:Nat}{path:List Nat}{c:ag}(aG:b7 g ⟨r,path⟩=some (ak en L)) (h:idx L m=some ku) (ab:(en.cells ku)[o]?=some c):b7 g ⟨r,path++[m.toNat * en.z+o]⟩=some c:=by
 unfold b7 at aG ⊢
 simp only at aG ⊢
 cases J:g r with
 | none=>rw [J] at aG; cases aG
 | some x =>
  rw [J] at aG
  exact ag.IQ path aG (JL h ab)
theorem Ub {en:cD α}{L:List α}{ku:α}{r o:Nat}{path:List Nat}{c:ag}(y:ag) (aG:b7 g ⟨r,path⟩=some (ak en L)) (h:idx L m=some ku) (ab:(en.cells ku)[o]?=some c) :
  c_ g ⟨r,path++[m.toNat * en.z+o]⟩ y=c_ g ⟨r,path⟩ (.own en.z L.length ((ch en L).set (m.toNat * en.z+o) y)):=by
 funext s
 unfold c_
 simp only
 split
 ·rename_i e
  subst e
  unfold b7 at aG
  simp only at aG
  cases J:g s with
  | none=>rfl
  | some x =>
   rw [J] at aG
   simp only [Option.map_some,Option.some.injEq]
   rw [ag.Mz path y aG (JL h ab)]
   rfl
 ·rfl
theorem Uf (l:List ag) (k:Nat) (x c:ag):fW (l.set k x) k [c]=fW l k [c]:=by
 unfold fW
 simp only [List.length_singleton]
 rw [List.take_set,List.drop_set]
 rw [List.set_eq_of_length_le (by simp; omega)]
 simp
theorem cj.Bt {ig:Oper}{en:cD α}{en2:cD β}{L:List α}{ku y2:α}{pH M R:List β}{o s G':Nat}{new dj:List ag}{x2 y0:ag}{G2:List (Nat × ag)}
  (bd:ig.op=.store t a b) (aV:ig.dst=none) (bj:Rd g a (.ptr p (m.toNat * en.z+o))) (aH:Rd g b (.bn en2.z ⟨s,[]⟩ (pH.length+G')))
  (sH:g s=some (.bX en2.z ⟨p.root,p.path++[m.toNat * en.z+o]⟩ pH.length G' new)) (aG:b7 g p=some (ak en L)) (h:idx L m=some ku) (lJ:(en.cells ku)[o]?=some (ak en2 pH)) (bO:Nat.beq p.root s=false)
  (h1:il (c_ (c_ g ⟨s,[]⟩ .dead) p (.own en.z L.length ((ch en L).set (m.toNat * en.z+o) .dead))) new dj g1)
  (o':gU dj (ch en2 M)) (hm:M.length=G') (bf:pH++M=R) (bM:gJ P t 1=true)
  (p0:b7 g1 p=some (.own en.z L.length ((ch en L).set (m.toNat * en.z+o) .dead)))
  (he:fW (en.cells ku) o [ak en2 R]=en.cells y2) (hlen:Nat.ble (o+1) en.z=true)
  (hZ:c_ g1 p (ak en (L.set m.toNat y2)) p.root=some x2) (ax:(get G2 p.root).isSome=true) (sO:g1 p.root=some y0) [gI:cT y0] (ea:kR g1 (get G2) p.root x2 G2):cj P N g ig (get G2):=by
 subst hm bf
 have zU:=Nat.le_of_ble_eq_true hlen
 have kl:=Mh en (cs':=[ak en2 (pH++M)]) h he (by simpa using zU)
 have FX:(L.set m.toNat y2).length=L.length:=List.length_set
 have CQ:=Nat.ne_of_beq_eq_false bO
 have zN:b7 g ⟨p.root,p.path++[m.toNat * en.z+o]⟩=some (ak en2 pH):=tr (g:=g) (r:=p.root) (path:=p.path) aG h lJ
 have RZ:b7 (c_ g ⟨s,[]⟩ .dead) p=some (ak en L):=by
  unfold b7 at aG ⊢
  rw [q7 (p:=⟨s,[]⟩) (λe=>CQ e)]; exact aG
 have aD:il g [.bn en2.z ⟨s,[]⟩ (pH.length+M.length)] [.own en2.z (pH.length+M.length) (ch en2 pH++dj)] g1:=by
  refine .lx sH zN bO ?_ .nil
  rw [Ub .dead (r:=p.root) (path:=p.path) RZ h lJ]
  exact h1
 have hk:m.toNat * en.z+o+1<=L.length * en.z:=by
  obtain ⟨uq,j_,_⟩:=qX h
  have al:m.toNat+1<=L.length:=by omega
  calc m.toNat * en.z+o+1<=m.toNat * en.z+en.z:=by omega
   _=(m.toNat+1) * en.z:=by rw [Nat.add_mul]; omega
   _<=L.length * en.z:=Nat.mul_le_mul_right _ al
 refine .store bd aV bj.bP aH.bP aD.take (y':=ak en2 (pH++M)) ?_ rfl bM (p:=p) (nd:=.own en.z L.length ((ch en L).set (m.toNat * en.z+o) .dead)) (z:=en.z) (n:=L.length) (cs:=(ch en L).set (m.toNat * en.z+o) .dead) p0 (.inl rfl) ?_ (by simp) (λt x J=>?_) (λt x J y az=>?_) (λt z q n m new J=>?_) (by intro e; rw [e] at ax; cases ax)
 ·rw [<- vN]; exact (o'.pre _).own
 ·simp only [List.length_singleton,List.length_set,oM]; exact hk
 ·have gw:(ag.own en.z L.length ((ch en L).set (m.toNat * en.z+o) .dead)).fW (m.toNat * en.z+o) [ak en2 (pH++M)]=ak en (L.set m.toNat y2):=by
   show ag.own en.z L.length (fW ((ch en L).set (m.toNat * en.z+o) .dead) (m.toNat * en.z+o) [ak en2 (pH++M)])=_
   unfold ak at kl ⊢
   rw [Uf,kl,FX]
  rw [gw]
  rcases ea.spec t x J with ⟨h1,al,_⟩ | ⟨h1,al,_⟩
  ·rw [q7 h1]; exact al
  ·subst h1 al; exact hZ
 ·rcases ea.spec t x J with ⟨h1,al,aO⟩ | ⟨h1,al,aO⟩
  ·rw [al] at az; cases az
   rcases aO with aO | ⟨aO,c2,rfl⟩
   ·exact aO.Ht
   ·refine jk.ref (by cases aO; rfl) ⟨aO.LY,aO.clear ?_,aO.Dh⟩
    intro e
    obtain ⟨hp,pp⟩:=p
    simp only at e
    subst e
    simp only [c_,if_true,sO,Option.map_some,ag.setAt,Option.some.injEq] at hZ
    cases hZ
  ·subst h1; rw [sO] at az; cases az; exact .bK gI.bK
 ·rcases ea.spec t _ J with ⟨_,_,aO | ⟨aO,_⟩⟩ | ⟨_,_,aO⟩
  ·exact aO.fO _ _ _ _ _ rfl
  ·exact aO.fO _ _ _ _ _ rfl
  ·cases aO
end
end Go.Own
/- Short forms for printed walks. -/
namespace Go.Own
open Go
section
variable {P:Program}{N:dN}{ops:Array Oper}{ca:List (List Nat)}{g g0:aY}{K:aY->Prop}{l:List Oper}{acc:Acc}{d i:Nat}{op:Op}{ty:TypeId}{pos:String}{after:Array Edge}{x:ag}
theorem aj (aG:dE P g op ty x) (hk:ar P N ops l (e9 g d x) K) (bW:N.ok d=true:=by rfl) (bl:g d=none:=by rfl):ar P N ops (⟨some d,op,ty,pos,after,none⟩::l) g K:=.v aG bW bl .none hk
theorem ee (aG:cu P g op x) (hk:ar P N ops l (e9 g d x) K) (bW:N.ok d=true:=by rfl) (bl:g d=none:=by rfl):ar P N ops (⟨some d,op,ty,pos,after,none⟩::l) g K:=.c aG bW bl .none hk
theorem av (dk:Nat) (aG:dE P (ob ca g0 dk acc) op ty x) (hk:bL P N ops ca g0 i ((dk,d,some x)::acc) l K) (aa:Nat.beq ops.size (dk+l.length+1)=true:=by rfl) (bl:g0 d=none:=by rfl) (aL:acc.all (λe=>!Nat.beq e.2.1 d)=true:=by rfl) (bW:N.ok d=true:=by rfl) :
  bL P N ops ca g0 i acc (⟨some d,op,ty,pos,after,none⟩::l) K:=.v dk aG aa bl aL bW .none hk
theorem iN (dk:Nat) (aG:cu P (ob ca g0 dk acc) op x) (hk:bL P N ops ca g0 i ((dk,d,some x)::acc) l K) (aa:Nat.beq ops.size (dk+l.length+1)=true:=by rfl) (bl:g0 d=none:=by rfl) (aL:acc.all (λe=>!Nat.beq e.2.1 d)=true:=by rfl) (bW:N.ok d=true:=by rfl) :
  bL P N ops ca g0 i acc (⟨some d,op,ty,pos,after,none⟩::l) K:=.c dk aG aa bl aL bW .none hk
end
instance {z n:Nat}{cs:List ag}:om (.own z n cs):=⟨by simp⟩
def aP (a n:Nat) (l:List Nat):List Nat:=List.range' a n++l
end Go.Own
namespace Go.Own
open Go
section
variable {α:Type}{P:Program}{N:dN}{g:aY}{d r:Nat}{ty:TypeId}
instance {fn:Fn}{cs:List ag} [h:e0 cs]:cT (.er fn [] cs):=⟨.er (by simp) h.bK⟩
theorem hV.jR {o:Oper}{xs:List Operand}{iz:Array TypeId}{f:FuncId}{ys args:List ag}{res:ag}{en:cD α}{L h4:List α}{G2:List (Nat × ag)}(bd:o.op=.call { callee:=.value (.func f),args:=xs.toArray,argTypes:=iz }) (aV:o.dst=some d) (J:Own.iI g xs=some (.bn en.z ⟨r,[]⟩ L.length::ys))
  (aN:g r=some (ak en L)) (hv:pO (get ((r,.dead)::G2)) ys args) (jc:cb P f (ak en L::args) (some (ak en h4)::args.map λ_=>none) res) (bl:dM P f=true) [ax:ql res] [vq:ql (ak en h4)]
  (ea:Trim false (c_ g ⟨r,[]⟩ .dead) (get ((r,.dead)::G2)) G2) (a8:get G2 d=none) (z_:Nat.beq r d=false) (zE:Trim false (get ((r,ak en h4)::G2)) (get ((r,ak en h4)::G2)) G2) (bW:N.ok d=true) :
  hV P N g o d (get ((d,res)::(r,ak en h4)::G2)):=by
 have z':r≠d:=Nat.ne_of_beq_eq_false z_
 have EE:get ((r,ag.dead)::G2) r=some .dead:=by simp [get]
 have mv:∀ x∈ch en L,di x:=by
  intro x J
  obtain ⟨a,_,bj⟩:=List.mem_flatMap.1 J
  exact en.bK a x bj
 have fZ:(ch en L).take (L.length * en.z)=ch en L:=List.take_of_length_le (by rw [oM]; exact Nat.le_refl _)
 have vF:hI (c_ g ⟨r,[]⟩ .dead) (get ((r,.dead)::G2)):=by
  refine ⟨λt x h=>?_,λt x h=>?_,λt z q n m new h=>?_⟩
  all_goals
   simp only [get] at h
   split at h
  ·rename_i e; subst e; cases h; simp [c_,aN,ag.setAt]
  ·obtain ⟨⟨y,h1,_,aO⟩,_⟩:=ea.spec t x h; rw [<- aO rfl]; exact h1
  ·cases h; exact .bK .dead
  ·exact (ea.spec t x h).2.1
  ·cases h
  ·exact (ea.spec t _ h).2.2 _ _ _ _ _ rfl
 have put:pt (get ((r,.dead)::G2)) [(⟨r,[]⟩,ak en h4)]=get ((r,ak en h4)::G2):=by
  funext t
  simp only [pt,c_,get]
  by_cases h:t=r
  ·simp [h,ag.setAt]
  ·simp [h]
 have vG:hI (get ((r,ak en h4)::G2)) (get ((r,ak en h4)::G2)):=by
  refine ⟨λt x h=>h,λt x h=>?_,λt z q n m new h=>?_⟩
  all_goals
   simp only [get] at h
   split at h
  ·cases h; exact .bK vq.k9.bK
  ·exact (zE.spec t x h).2.1
  ·cases h
  ·exact (zE.spec t _ h).2.2 _ _ _ _ _ rfl
 have ao:=hv.len
 have qz:get ((d,res)::(r,ak en h4)::G2)=e9 (get ((r,ak en h4)::G2)) d res:=by
  funext t
  rw [tD]
 rw [qz]
 refine wL.ok (first:=[]) (caps:=[]) (ys:=.bn en.z ⟨r,[]⟩ L.length::ys) (tk:=λk=>k == 0) (vw:=true) (outs:=some (ak en h4)::args.map λ_=>none) (g1:=c_ g ⟨r,[]⟩ .dead) (g2:=get ((r,.dead)::G2)) (g4:=get ((r,ak en h4)::G2)) (l:=[(⟨r,[]⟩,ak en h4)]) (ks:=λ_=>0) (xs0:=.bn en.z ⟨r,[]⟩ L.length::ys.map λ_=>.dead) (xs1:=ak en L::ys.map λ_=>.dead) (args:=ak en L::args) (res:=res) bd aV rfl (by simpa using J)
  ⟨bl,by simp,by simpa using ao,λk x h=>?_,?_,vF,λk x y J az=>?_,jc,by simpa using ax.k9,λk x h=>?_,λae p x aa=>?_,by simp,λi ae hi aa _=>by simp at hi aa; omega,by rw [put]; exact vG⟩ ?_ bW uI.refl
 ·simp only [List.nil_append,List.append_nil] at h
  cases k with
  | zero=>exact .inl h
  | succ k =>
   refine .inr ?_
   simp only [List.getElem?_cons_succ] at h ⊢
   rw [List.getElem?_map,h]; rfl
 ·have h1:Take (c_ g ⟨r,[]⟩ .dead) ((ch en L).take (L.length * en.z)) (ch en L) (c_ g ⟨r,[]⟩ .dead):=by rw [fZ]; exact .bK mv
  refine .bn (N:=L.length) (by simp [b7,aN,ag.at]) (Nat.le_refl _) h1 (.bK λx J=>?_)
  obtain ⟨_,_,rfl⟩:=List.mem_map.1 J
  exact .dead
 ·simp only [List.nil_append,List.append_nil] at J
  cases k with
  | zero=>simpa using az
  | succ k =>
   simp only [List.getElem?_cons_succ] at J az
   exact ⟨rfl,hv.get k x y J az⟩
 ·cases k with
  | zero=>simp only [List.getElem?_cons_zero,Option.some.injEq] at h; subst h; exact vq.k9
  | succ k =>
   simp only [List.getElem?_cons_succ,List.getElem?_map] at h
   cases bj:args[k]? <;> rw [bj] at h <;> cases h
 ·cases ae with
  | succ ae=>simp at aa
  | zero =>
   simp only [List.getElem?_cons_zero,Option.some.injEq,Prod.mk.injEq] at aa
   obtain ⟨rfl,rfl⟩:=aa
   exact ⟨rfl,by simp [b7,EE,ag.at],.inl ⟨en.z,L.length,ch en L,rfl,by simp [b7,aN,ag.at]⟩⟩
 ·simp only [get,if_neg (Ne.symm z')]; exact a8
end
end Go.Own
namespace Go.Own
open Go Go.Proofs Go.Shelf Go.Lib Go.Sort
section
variable {P:Program}{w:World}
end
end Go.Own
namespace Go.Own
open Go
section
variable {α:Type}{P:Program}{N:dN}{g g1 g2 g3:aY}{ops:Array Oper}{ca:List (List Nat)}{acc:Acc}{l:List Oper}{K:aY->Prop}{i d r:Nat}
theorem cY.settle {w:World}{I:br}{T:Array Value}{Fs:Nat->br}(h:cY w I T g Fs) (a:Act) (bj:a.tmps=T) {ts:List Nat}{xs ys:List ag}(J:Own.iI g (ts.map Operand.tmp)=some xs) (aD:Take g xs ys g1) (gw:ts.Nodup) (ao:ys.length=ts.length) (aV:∀ t∈ts,g1 t=some .dead)
  (hk:hI (pt g1 ((ts.map λt=>(⟨t,[]⟩:Place)).zip ys)) g2):∃ cp,cY w I T g2 cp/\∀ c,(∃ t,cp t c)->∃ t,Fs t c:=by
 obtain ⟨Gv,SO⟩:=xU h bj J
 have SN:xs.length=ts.length:=by rw [Gv,List.length_map]
 have hand:Hand w I (fS w T) Fs xs (ts.map λt=>a.eval (.tmp t)) (λ_=>cU):=by
  refine ⟨by rw [SN,List.length_map],λk x u pe hu=>?_,λ_ _ _ _ _ h=>h.elim,λ_ _ _ _ h=>h.elim,λ_ _ _ h=>h.elim⟩
  rw [List.getElem?_map] at hu
  cases fZ:ts[k]? with
  | none=>rw [fZ] at hu; cases hu
  | some t =>
   rw [fZ] at hu; cases hu
   exact (SO k x (.tmp t) pe (by rw [List.getElem?_map,fZ]; rfl)).frame (λ_ _=>rfl) (λ_ h=>h) (λ_ _ h=>h.1) λ_ _=>rfl
 obtain ⟨gh,H1,jb,iD,hb⟩:=aD.sound h.me hand
 have sP:((ts.map λt=>(⟨t,[]⟩:Place)).zip ys).length=ts.length:=by rw [List.length_zip,List.length_map,ao]; exact Nat.min_self _
 obtain ⟨iZ,ib,aR⟩:=jE.pt ((ts.map λt=>(⟨t,[]⟩:Place)).zip ys) H1 (λae=>((ts.map λt=>a.eval (.tmp t))[ae]?).getD undef) jb (by
   rw [List.map_fst_zip (by rw [List.length_map,ao]; exact Nat.le_refl _)]
   exact List.Pairwise.map _ (λa b h e=>h (congrArg Place.root e)) gw) (λae p x aa=>by
   rw [List.getElem?_zip_eq_some] at aa
   obtain ⟨h1,al⟩:=aa
   rw [List.getElem?_map] at h1
   cases fZ:ts[ae]? with
   | none=>rw [fZ] at h1; cases h1
   | some t =>
    rw [fZ] at h1; cases h1
    have KI:=aV t (List.mem_of_getElem? fZ)
    obtain ⟨v,hv,_⟩:=jb.rel t .dead KI
    have pY:a.eval (.tmp t)=v:=by simp [Act.eval,bj,hv]
    have Gi:(ts.map λt=>a.eval (.tmp t))[ae]?=some v:=by rw [List.getElem?_map,fZ]; simp [pY]
    refine ⟨by simp [b7,KI,ag.at],?_,?_⟩
    ·rw [Gi]
     show ed w T ⟨t,[]⟩=some v
     unfold ed
     simp only [hv,walk]
    ·rw [Gi]
     exact iD.rel ae x v al Gi) (λae t c aa ab=>iD.off ae t c (by omega) ab) (λae c aa ab=>iD.aE ae c (by omega) ab) (λi ae c hi aa h1 al=>iD.e5 i ae c (by omega) (by omega) h1 al)
 refine ⟨_,ib.keep hk,λc ⟨t,_,ab⟩=>?_⟩
 have:k' gh ys.length H1 c:=by
  rcases aR t c ab with h | ⟨ae,aa,h⟩
  ·exact .inl ⟨t,h⟩
  ·exact .inr ⟨ae,by omega,h⟩
 rcases hb c this with h | ⟨_,_,h⟩
 ·exact h
 ·exact h.elim
theorem kO.settle {o:Oper}{ts:List Nat}{xs ys:List ag}(J:Own.iI g (ts.map Operand.tmp)=some xs) (aD:Take g xs ys g1) (gw:ts.Nodup) (ao:ys.length=ts.length) (aV:∀ t∈ts,g1 t=some .dead)
  (hk:hI (pt g1 ((ts.map λt=>(⟨t,[]⟩:Place)).zip ys)) g2) (he:kO P N g2 o g3):kO P N g o g3:=by
 intro w I T Fs bT a bj bW K Q et
 obtain ⟨cp,eB,gG⟩:=bT.settle a bj J aD gw ao aV hk
 refine he w I T cp eB a bj bW K Q λcE w' aL aD=>et cE w' ?_ aD
 obtain ⟨dt,c3,I',iZ,h1,al⟩:=aL
 exact ⟨dt,c3,I',iZ,h1,kQ.trans ⟨Fr.refl _ _,λ_ h=>h,λ_ h=>.inl h,λc h=>.inl (gG c h)⟩ al⟩
theorem NJ {Q:Nat->Prop}{a:Nat}(bj:Q a):∀ t∈[a],Q t:=λt aD=>by rw [List.mem_singleton.1 aD]; exact bj
theorem NK {Q:Nat->Prop}{a b:Nat}(bj:Q a) (aH:Q b):∀ t∈[a,b],Q t:=λt aD=>by
 rcases List.mem_cons.1 aD with rfl | aD
 ·exact bj
 ·rw [List.mem_singleton.1 aD]; exact aH
def Dn (p q:Place):Bool:=Nat.beq p.root q.root&&p.path == q.path
def Da:List Place->Bool
 | []=>true
 | x::l=>l.all (λy=>!Dn x y)&&Da l
theorem LO:∀ {l:List Place},Da l=true->l.Nodup
 | [],_=>List.nodup_nil
 | p::l,h=>by
  simp only [Da,Bool.and_eq_true,List.all_eq_true] at h
  refine List.nodup_cons.2 ⟨λhm=>?_,LO h.2⟩
  have:=h.1 p hm
  simp [Dn] at this
def Tm (p:Place) (acc:Acc):Bool:=acc.all λe=>match l9 e with | some q=>!Dn p q | none=>true
theorem LQ {p:Place}{G:List (Nat × ag)}{A:Nat->Bool}(h:Tm p acc=true) (ea:rP G=true):∀ t z n m new,eh (get G) A acc t≠some (.bX z p n m new):=by
 intro t z n m new e
 rcases s' e with ⟨cW,he,h1,_,al⟩ | ⟨_,al⟩
 ·have:=List.all_eq_true.1 h cW he
  obtain ⟨k,d,x⟩:=cW
  simp only at al
  subst al
  simp [l9,Dn] at this
 ·exact xQ ea _ _ _ _ _ _ al
theorem O.NM {en:cD α}{L M r:List α}{y:ag}{e jF:Nat}{a b:Operand}{p:Place}{t ty:TypeId}(aN:Rd g a (.bn en.z p L.length)) (aG:b7 g p=some (ak en L)) (J:Rd g b y) (hm:qp g en y M) (aD:im P t e en.z jF=true) (aH:Nat.ble jF 128=true) (h:eS L M=some r) (gI:∀ t z n m new,g t≠some (.bX z p n m new)) :
  dE P g (.call { callee:=.builtin .append,args:=#[a,b],argTypes:=#[t,t] }) ty (.bX en.z p L.length M.length (ch en M)):=by
 obtain ⟨h1,al,_⟩:=w0 h aH
 exact .lv (.grow aN.bP (.inl ⟨_,aG⟩) (λt cJ cX m' dj e=>gI _ _ _ _ _ e) J.bP hm.src aD h1 al)
theorem bL.IZ (dk:Nat) {G G2:List (Nat × ag)}{o:Oper}(he:kO P N (eh (get G) (λm=>(ca.getD dk []).contains m) acc) o (get G2)) (a8:o.guard=none) (hz:Da (acc.filterMap l9)=true) (iU:rP G=true) (aa:Nat.beq ops.size (dk+l.length+1)=true)
  (gG:acc.filter (λe=>!(ca.getD dk []).contains e.1)=[])
  (aH:(List.range ops.size).all (λk=>Nat.ble k dk||(ca.getD k []).contains dk)=true) (hk:bL P N ops ca (get G2) (dk+1) [] l K):bL P N ops ca (get G) i acc (o::l) K:=by
 intro ep ae du nY nw
 have:=y8 nw aa
 subst this
 obtain ⟨h1,al⟩:=drop_cons nw
 obtain ⟨g',ax,et⟩:=hk [] (ae+1) .nil .nil al
 refine ⟨g',.w3 (U:=[]) (rs:=q5 []) nY (LO hz) (xQ iU) h1 ?_ he.v (λp aG=>by simp [q5] at aG) gG.symm (by simp) (by simp) (by simp) ?_ ax,et⟩
 ·unfold iQ; rw [a8]
 ·refine List.all_eq_true.2 λk hk=>?_
  have:=List.all_eq_true.1 aH k hk
  simp only [Bool.or_eq_true,decide_eq_true_eq,Nat.ble_eq] at this ⊢
  exact this
theorem kO.cell {o:Oper}{r k0:Nat}{y:ag}{cs:List ag}{g5:aY}(ax:g r=some (.obj cs)) (az:cs[k0]?=some y) (vx:di y)
  (tX:∀ v:Value,v.oneCell'=true->∃ g1 g4,hI (c_ g ⟨r,[k0]⟩ (.lit v)) g1/\kO P N g1 o g4/\b7 g4 ⟨r,[k0]⟩=some (.lit v)/\hI (c_ g4 ⟨r,[k0]⟩ y) g5):oU P N (λp=>p∈[(⟨r,[k0]⟩:Place)]) g o g5:=by
 intro w I T Fs h a bj bW K Q et
 have k4:∀ z q n m new,y≠.bX z q n m new:=by rintro z q n m new rfl; cases vx
 have gn:b7 g ⟨r,[k0]⟩=some y:=by simp [b7,ax,ag.at,ag.kids,az]
 obtain ⟨v,cM,hv,dT,dC,put⟩:=h.me.part gn k4
 have sL:v.oneCell'=true:=by
  obtain ⟨u,hu,mn⟩:=h.rel r _ ax
  obtain ⟨b,s9,h1,al,aO,b4,_⟩:=R.node (z:=0) (n:=0) (mn.hB (by simp)) (.inr rfl) az
  have:ed w T ⟨r,[k0]⟩=child w u k0:=by
   unfold ed
   simp only [hu,walk]
   cases child w u k0 <;> rfl
  rw [this,aO] at hv
  cases hv
  exact b4
 obtain ⟨gh,jb,zB,zC⟩:=put (.lit v) cU (.lit sL λ_ h=>h) (λ_ h=>h.elim) (λ_ h=>h.elim) (λ_ _ _ h=>h.elim)
 obtain ⟨g1,g4,gN,e8,Fu,FQ⟩:=tX v sL
 have q9:∀ t c,gh t c->Fs t c/\¬ cM c:=by
  intro t c ab
  by_cases aD:t=r
  ·subst aD
   rcases (zB c).1 ab with aT | aT
   ·exact aT
   ·exact aT.elim
  ·rw [zC t aD] at ab
   exact ⟨ab,λbl=>aD (h.e5 t r c ab (dC c bl))⟩
 have Fi:=jb.keep gN
 refine e8 w I T _ Fi a bj bW K Q λcE w' aL rM=>?_
 obtain ⟨dt,c3,I',cp,eB,cn⟩:=aL
 obtain ⟨v2,r2,xC,l2,Qr,Ho⟩:=eB.me.part Fu (by simp)
 have Gh:v2=v:=l2.ie.1
 subst Gh
 have E_:∀ c,cM c->¬ I c:=λc ab=>h.aE r c (dC c ab)
 have vd:∀ c,cM c->c<w.heap.size:=λc ab=>h.jQ r c (dC c ab)
 have vO:∀ c,cM c->¬ ∃ t,(g1 t≠none/\gh t c):=λc ab ⟨t,_,aT⟩=>(q9 t c aT).2 ab
 have AI:∀ t c,cp t c->¬ cM c:=by
  intro t c ab bl
  rcases cn.own c ⟨t,ab⟩ with aT | aT
  ·exact vO c bl aT
  ·have:=vd c bl; omega
 have Hf:∀ c,cM c->¬ I' c:=by
  intro c ab hi
  rcases cn.new c hi with aT | aT | aT
  ·exact E_ c ab aT
  ·exact vO c ab aT
  ·have:=vd c ab; omega
 have Hx:∀ c,cM c->w'.heap[c]?=w.heap[c]?:=λc ab=>cn.fE.block c (vd c ab) (vO c ab)
 have q6:∀ c,I c->w'.heap[c]?=w.heap[c]?:=λc ab=>cn.fE.block c (h.lt c ab) λ⟨t,_,aT⟩=>h.aE t c (q9 t c aT).1 ab
 have zJ:R w' I' (fS w' cE.tmps) y v2 cM:=((dT.bK vx).frame q6 cn.more (λ_ _ h=>h) Hx)
 obtain ⟨Ib,Fk,E6,E7⟩:=Ho y cM zJ (λc ab bl=>(AI _ c bl ab).elim) (λc ab=>Hf c ab) (λt c _ ab bl=>AI t c bl ab)
 have sv:=Fk.keep FQ
 refine et cE w' ⟨dt,c3,I',_,sv,⟨?_,cn.more,λc ab=>?_,λc ab=>?_⟩⟩ rM λfc path aG y' mF V8=>?_
 ·exact cn.fE.mono λb _ ⟨t,_,aT⟩=>⟨t,(q9 t b aT).1⟩
 ·rcases cn.new c ab with aT | ⟨t,_,aT⟩ | aT
  ·exact .inl aT
  ·exact .inr (.inl ⟨t,(q9 t c aT).1⟩)
  ·exact .inr (.inr aT)
 ·obtain ⟨t,_,ab⟩:=ab
  have:(∃ t,cp t c)\/cM c:=by
   by_cases aD:t=r
   ·subst aD
    rcases (E6 c).1 ab with ⟨aT,_⟩ | aT
    ·exact .inl ⟨_,aT⟩
    ·exact .inr aT
   ·rw [E7 t aD] at ab; exact .inl ⟨t,ab⟩
  rcases this with aT | aT
  ·rcases cn.own c aT with ⟨t,_,gE⟩ | gE
   ·exact .inl ⟨t,(q9 t c gE).1⟩
   ·exact .inr gE
  ·exact .inl ⟨r,dC c aT⟩
 ·have aG:(⟨fc,path⟩:Place)∈[(⟨r,[k0]⟩:Place)]:=aG
  have aG:=List.mem_singleton.1 aG
  cases aG
  rw [hv,xC]
end
end Go.Own
namespace Go.Own
open Go
section
variable {α:Type}{P:Program}{N:dN}{g:aY}{ops:Array Oper}{l:List Oper}{K:aY->Prop}{r n:Nat}{t e ty:TypeId}{a b:Operand}{m:Int}{en:cD α}{L:List α}{y y2:α}{k:IntKind}{pos:String}{after:Array Edge}
end
end Go.Own
namespace Go.Own
open Go Go.Proofs Go.Shelf Go.Lib Go.Sort
section
variable {P:Program}{w:World}
class uM {α:Type}(e:cD α) where
 DI:α->List Value
 cells:∀ a,e.cells a=(DI a).map .lit
 one:∀ a,∀ v∈DI a,v.oneCell'=true
variable {α:Type}{e:cD α}
theorem uM.len [h:uM e] (a:α):(h.DI a).length=e.z:=by
 have:=e.len a
 rw [h.cells,List.length_map] at this
 exact this
end
end Go.Own
namespace Go.Own
open Go
section
variable {α:Type}{P:Program}{N:dN}{g:aY}{d r:Nat}
theorem hV.tk {o:Oper}{x:Operand}{iz:Array TypeId}{f:FuncId}{res:ag}{en:cD α}{L:List α}{G2:List (Nat × ag)}(bd:o.op=.call { callee:=.value (.func f),args:=#[x],argTypes:=iz }) (aV:o.dst=some d) (J:Own.iI g [x]=some [.bn en.z ⟨r,[]⟩ L.length])
  (aN:g r=some (ak en L)) (jc:cb P f [ak en L] [none] res) (bl:dM P f=true) [ax:cT res]
  (ea:Trim false (c_ g ⟨r,[]⟩ .dead) (get G2) G2) (a8:get G2 d=none) (bW:N.ok d=true) :
  hV P N g o d (get ((d,res)::G2)):=by
 have mv:∀ x∈ch en L,di x:=by
  intro x J
  obtain ⟨a,_,bj⟩:=List.mem_flatMap.1 J
  exact en.bK a x bj
 have fZ:(ch en L).take (L.length * en.z)=ch en L:=List.take_of_length_le (by rw [oM]; exact Nat.le_refl _)
 have vF:hI (c_ g ⟨r,[]⟩ .dead) (get G2):=by
  refine ⟨λt x h=>?_,λt x h=>(ea.spec t x h).2.1,λt z q n m new h=>(ea.spec t _ h).2.2 _ _ _ _ _ rfl⟩
  obtain ⟨⟨y,h1,_,aO⟩,_⟩:=ea.spec t x h
  rw [<- aO rfl]; exact h1
 have vG:hI (get G2) (get G2):=⟨λt x h=>h,λt x h=>(ea.spec t x h).2.1,λt z q n m new h=>(ea.spec t _ h).2.2 _ _ _ _ _ rfl⟩
 have qz:get ((d,res)::G2)=e9 (get G2) d res:=by
  funext t
  rw [tD]
 rw [qz]
 refine wL.ok (first:=[]) (caps:=[]) (ys:=[.bn en.z ⟨r,[]⟩ L.length]) (tk:=λk=>k == 0) (vw:=false) (outs:=[none]) (g1:=c_ g ⟨r,[]⟩ .dead) (g2:=get G2) (g4:=get G2) (l:=[]) (ks:=λ_=>0) (xs0:=[.bn en.z ⟨r,[]⟩ L.length]) (xs1:=[ak en L]) (args:=[ak en L]) (res:=res) bd aV rfl J
  ⟨bl,by simp,by simp,λk x h=>.inl h,?_,vF,λk x y J az=>?_,jc,by simpa using ax.bK,λk x h=>?_,λae p x aa=>by simp at aa,by simp,λi ae hi aa _=>by simp at hi,vG⟩ a8 bW uI.refl
 ·have h1:Take (c_ g ⟨r,[]⟩ .dead) ((ch en L).take (L.length * en.z)) (ch en L) (c_ g ⟨r,[]⟩ .dead):=by rw [fZ]; exact .bK mv
  exact .bn (N:=L.length) (by simp [b7,aN,ag.at]) (Nat.le_refl _) h1 (.bK λx J=>by simp at J)
 ·cases k with
  | zero=>simpa using az
  | succ k=>simp at az
 ·cases k with
  | zero=>simp at h
  | succ k=>simp at h
end
end Go.Own
namespace Go.Own
open Go Go.Proofs Go.Shelf Go.Lib Go.Sort
section
variable {α:Type} [DecidableEq α]
end
section
variable {α:Type}{e:cD α}{P:Program}{w:World}
variable [DecidableEq α] [Inhabited α]
end
end Go.Own
namespace Go.Proofs
open Go.Shelf Go.RowKit Go.Lib Go.Sort
variable {α:Type} [Inhabited α] [DecidableEq α]
namespace Two
open Go.Own
variable {P:Program}{t:TypeId}
omit [Inhabited α] [DecidableEq α] in
theorem one (f:α->Int):OneCell λx=>Value.int .i64 (f x):=λ_=>rfl
end Two
end Go.Proofs
namespace Go.Own
open Go Go.Proofs Go.Shelf Go.Lib Go.Sort
section
variable {α:Type}{e:cD α}{P:Program}{w:World}
end
end Go.Own
namespace Go.Own
open Go
section
variable {α:Type}{P:Program}{N:dN}{g:aY}{d r:Nat}
end
end Go.Own
namespace Go.Own
open Go
theorem q {α:Sort _}{a:α}:a=a:=rfl
abbrev aC:ByteArray:={ data:=#[] }
theorem pn {p:Prop} [Decidable p] (h:decide p=true):p:=of_decide_eq_true h
theorem fG {b:Bool}{g h:aY}{fv s1:Nat}{fl aF:ag}(bb:g fv=some fl) [cT fl] (h1:g s1=some aF) [cT aF]:Trim b g h [(fv,fl),(s1,aF)]:=(.n bb (.n h1 .nil))
theorem dq {b:Bool}{g h:aY}{fv s1 s2:Nat}{fl aF x2:ag}(bb:g fv=some fl) [cT fl] (h1:g s1=some aF) [cT aF] (al:g s2=some x2) [cT x2]:Trim b g h [(fv,fl),(s1,aF),(s2,x2)]:=(.n bb (.n h1 (.n al .nil)))
theorem dA {b:Bool}{g h:aY}{fv s1 s2 dh:Nat}{fl aF x2 a_:ag}(bb:g fv=some fl) [cT fl] (h1:g s1=some aF) [cT aF] (al:g s2=some x2) [cT x2] (aO:g dh=some a_) [cT a_]:Trim b g h [(fv,fl),(s1,aF),(s2,x2),(dh,a_)]:=(.n bb (.n h1 (.n al (.n aO .nil))))
theorem eW {b:Bool}{g h:aY}{fv s1 s2 dh bN:Nat}{fl aF x2 a_ bE:ag}(bb:g fv=some fl) [cT fl] (h1:g s1=some aF) [cT aF] (al:g s2=some x2) [cT x2] (aO:g dh=some a_) [cT a_] (b4:g bN=some bE) [cT bE]:Trim b g h [(fv,fl),(s1,aF),(s2,x2),(dh,a_),(bN,bE)]:=(.n bb (.n h1 (.n al (.n aO (.n b4 .nil)))))
theorem fp {b:Bool}{g h:aY}{fv s1 s2 dh bN cG:Nat}{fl aF x2 a_ bE cq:ag}(bb:g fv=some fl) [cT fl] (h1:g s1=some aF) [cT aF] (al:g s2=some x2) [cT x2] (aO:g dh=some a_) [cT a_] (b4:g bN=some bE) [cT bE] (df:g cG=some cq) [cT cq]:Trim b g h [(fv,fl),(s1,aF),(s2,x2),(dh,a_),(bN,bE),(cG,cq)]:=(.n bb (.n h1 (.n al (.n aO (.n b4 (.n df .nil))))))
theorem hq {b:Bool}{g h:aY}{fv s1 s2 dh bN cG cH:Nat}{fl aF x2 a_ bE cq bx:ag}(bb:g fv=some fl) [cT fl] (h1:g s1=some aF) [cT aF] (al:g s2=some x2) [cT x2] (aO:g dh=some a_) [cT a_] (b4:g bN=some bE) [cT bE] (df:g cG=some cq) [cT cq] (eL:g cH=some bx) [cT bx]:Trim b g h [(fv,fl),(s1,aF),(s2,x2),(dh,a_),(bN,bE),(cG,cq),(cH,bx)]:=(.n bb (.n h1 (.n al (.n aO (.n b4 (.n df (.n eL .nil)))))))
theorem ko {b:Bool}{g h:aY}{fv s1 s2 dh bN cG cH fB:Nat}{fl aF x2 a_ bE cq bx bz:ag}(bb:g fv=some fl) [cT fl] (h1:g s1=some aF) [cT aF] (al:g s2=some x2) [cT x2] (aO:g dh=some a_) [cT a_] (b4:g bN=some bE) [cT bE] (df:g cG=some cq) [cT cq] (eL:g cH=some bx) [cT bx] (lj:g fB=some bz) [cT bz]:Trim b g h [(fv,fl),(s1,aF),(s2,x2),(dh,a_),(bN,bE),(cG,cq),(cH,bx),(fB,bz)]:=(.n bb (.n h1 (.n al (.n aO (.n b4 (.n df (.n eL (.n lj .nil))))))))
theorem hE {b:Bool}{g h:aY}{fv s1 s2 dh bN cG cH fB cI:Nat}{fl aF x2 a_ bE cq bx bz b3:ag}(bb:g fv=some fl) [cT fl] (h1:g s1=some aF) [cT aF] (al:g s2=some x2) [cT x2] (aO:g dh=some a_) [cT a_] (b4:g bN=some bE) [cT bE] (df:g cG=some cq) [cT cq] (eL:g cH=some bx) [cT bx] (lj:g fB=some bz) [cT bz] (qB:g cI=some b3) [cT b3]:Trim b g h [(fv,fl),(s1,aF),(s2,x2),(dh,a_),(bN,bE),(cG,cq),(cH,bx),(fB,bz),(cI,b3)]:=(.n bb (.n h1 (.n al (.n aO (.n b4 (.n df (.n eL (.n lj (.n qB .nil)))))))))
theorem rY {b:Bool}{g h:aY}{fv s1 s2 dh bN cG cH fB cI mb:Nat}{fl aF x2 a_ bE cq bx bz b3 cF:ag}(bb:g fv=some fl) [cT fl] (h1:g s1=some aF) [cT aF] (al:g s2=some x2) [cT x2] (aO:g dh=some a_) [cT a_] (b4:g bN=some bE) [cT bE] (df:g cG=some cq) [cT cq] (eL:g cH=some bx) [cT bx] (lj:g fB=some bz) [cT bz] (qB:g cI=some b3) [cT b3] (tF:g mb=some cF) [cT cF]:Trim b g h [(fv,fl),(s1,aF),(s2,x2),(dh,a_),(bN,bE),(cG,cq),(cH,bx),(fB,bz),(cI,b3),(mb,cF)]:=(.n bb (.n h1 (.n al (.n aO (.n b4 (.n df (.n eL (.n lj (.n qB (.n tF .nil))))))))))
theorem DG {b:Bool}{g h:aY}{fv s1 s2 dh bN cG cH fB cI mb ds:Nat}{fl aF x2 a_ bE cq bx bz b3 cF bQ:ag}(bb:g fv=some fl) [cT fl] (h1:g s1=some aF) [cT aF] (al:g s2=some x2) [cT x2] (aO:g dh=some a_) [cT a_] (b4:g bN=some bE) [cT bE] (df:g cG=some cq) [cT cq] (eL:g cH=some bx) [cT bx] (lj:g fB=some bz) [cT bz] (qB:g cI=some b3) [cT b3] (tF:g mb=some cF) [cT cF] (P1:g ds=some bQ) [cT bQ]:Trim b g h [(fv,fl),(s1,aF),(s2,x2),(dh,a_),(bN,bE),(cG,cq),(cH,bx),(fB,bz),(cI,b3),(mb,cF),(ds,bQ)]:=(.n bb (.n h1 (.n al (.n aO (.n b4 (.n df (.n eL (.n lj (.n qB (.n tF (.n P1 .nil)))))))))))
section
variable {P:Program}{N:dN}{ops:Array Oper}{g:aY}{K:aY->Prop}{l:List Oper}{d t:Nat}{ty:TypeId}{pos:String}{after:Array Edge}{v:Value}
theorem nL {G1:List (Nat × ag)}(h:Trim true g (get G1) G1):ar P N ops [] g λg'=>kS g' (get G1):=.fin h
theorem bq (h:g t=some (.lit v)) (hk:ar P N ops l (e9 g d (.lit v)) K) (bW:N.ok d=true:=by rfl) (bl:g d=none:=by rfl):ar P N ops (⟨some d,.move (.tmp t),ty,pos,after,none⟩::l) g K:=aj (O.aA (.lit h)) hk bW bl
theorem Ip (h:g t=some (.lit v)) (hk:ar P N ops l (e9 g d (.lit v)) K) (bW:N.ok d=true:=by rfl) (bl:g d=none:=by rfl):ar P N ops (⟨some d,.assign (.tmp t),ty,pos,after,none⟩::l) g K:=aj (O.dO (.lit h)) hk bW bl
theorem NB (h:ofConst v=.lit v) (hk:ar P N ops l (e9 g d (.lit v)) K) (bW:N.ok d=true:=by rfl) (bl:g d=none:=by rfl):ar P N ops (⟨some d,.assign (.const v),ty,pos,after,none⟩::l) g K:=aj (O.dO (.k h)) hk bW bl
end
end Go.Own
namespace Go.Own
open Go
section
variable {α:Type}{g:aY}
end
end Go.Own
namespace Go.Own
open Go
section
variable {α:Type}{P:Program}{N:dN}{g:aY}{d r:Nat}
theorem hV.lA {o:Oper}{xs:List Operand}{iz:Array TypeId}{f:FuncId}{ys:List ag}{res:ag}{en:cD α}{L:List α}{G2:List (Nat × ag)}(bd:o.op=.call { callee:=.value (.func f),args:=xs.toArray,argTypes:=iz }) (aV:o.dst=some d) (J:Own.iI g xs=some (.bn en.z ⟨r,[]⟩ L.length::ys))
  (aN:g r=some (ak en L)) (jc:cb P f (ak en L::ys) (none::ys.map λ_=>none) res) (bl:dM P f=true) [ax:cT res] [aL:e0 ys]
  (ea:Trim false (c_ g ⟨r,[]⟩ .dead) (get G2) G2) (a8:get G2 d=none) (bW:N.ok d=true) :
  hV P N g o d (get ((d,res)::G2)):=by
 have mv:∀ x∈ch en L,di x:=by
  intro x J
  obtain ⟨a,_,bj⟩:=List.mem_flatMap.1 J
  exact en.bK a x bj
 have fZ:(ch en L).take (L.length * en.z)=ch en L:=List.take_of_length_le (by rw [oM]; exact Nat.le_refl _)
 have vF:hI (c_ g ⟨r,[]⟩ .dead) (get G2):=by
  refine ⟨λt x h=>?_,λt x h=>(ea.spec t x h).2.1,λt z q n m new h=>(ea.spec t _ h).2.2 _ _ _ _ _ rfl⟩
  obtain ⟨⟨y,h1,_,aO⟩,_⟩:=ea.spec t x h
  rw [<- aO rfl]; exact h1
 have vG:hI (get G2) (get G2):=⟨λt x h=>h,λt x h=>(ea.spec t x h).2.1,λt z q n m new h=>(ea.spec t _ h).2.2 _ _ _ _ _ rfl⟩
 have qz:get ((d,res)::G2)=e9 (get G2) d res:=by
  funext t
  rw [tD]
 rw [qz]
 refine wL.ok (first:=[]) (caps:=[]) (ys:=.bn en.z ⟨r,[]⟩ L.length::ys) (tk:=λ_=>true) (vw:=false) (outs:=none::ys.map λ_=>none) (g1:=c_ g ⟨r,[]⟩ .dead) (g2:=get G2) (g4:=get G2) (l:=[]) (ks:=λ_=>0) (xs0:=.bn en.z ⟨r,[]⟩ L.length::ys) (xs1:=ak en L::ys) (args:=ak en L::ys) (res:=res) bd aV rfl (by simpa using J)
  ⟨bl,by simp,by simp,λk x h=>.inl (by simpa using h),?_,vF,λk x y J az=>by simpa using az,jc,by simpa using ax.bK,λk x h=>?_,λae p x aa=>by simp at aa,by simp,λi ae hi aa _=>by simp at hi,vG⟩ a8 bW uI.refl
 ·have h1:Take (c_ g ⟨r,[]⟩ .dead) ((ch en L).take (L.length * en.z)) (ch en L) (c_ g ⟨r,[]⟩ .dead):=by rw [fZ]; exact .bK mv
  exact .bn (N:=L.length) (by simp [b7,aN,ag.at]) (Nat.le_refl _) h1 (.bK aL.bK)
 ·cases k with
  | zero=>simp at h
  | succ k =>
   simp only [List.getElem?_cons_succ,List.getElem?_map] at h
   cases bj:ys[k]? <;> rw [bj] at h <;> cases h
end
end Go.Own
namespace Go.Own
open Go
class tj (x:ag):Prop where pl:oW x
class BY (cs:List ag):Prop where pl:∀ x∈cs,oW x
instance {v:Value}:tj (.lit v):=⟨.lit⟩
instance:tj .aK:=⟨.aK⟩
instance {z n:Nat}{cs:List ag} [h:e0 cs]:tj (.aE z n cs):=⟨.aE h.bK⟩
instance {α:Type}{e:cD α}{L:List α}:tj (ah e L):=⟨.aE (e0.bK (cs:=ch e L))⟩
instance {cs:List ag} [h:BY cs]:tj (.agg cs):=⟨.agg h.pl⟩
instance:BY []:=⟨by simp⟩
instance {x:ag}{cs:List ag} [h:tj x] [aT:BY cs]:BY (x::cs):=⟨λy az=>by
 rcases List.mem_cons.1 az with rfl | az
 ·exact h.pl
 ·exact aT.pl y az⟩
class BW (G:List (Nat × ag)):Prop where bK:∀ t x,get G t=some x->di x
instance:BW []:=⟨λt x h=>by cases h⟩
instance {s:Nat}{x:ag}{G:List (Nat × ag)} [h:cT x] [aT:BW G]:BW ((s,x)::G):=⟨λt y az=>by
 simp only [get] at az
 split at az
 ·cases az; exact h.bK
 ·exact aT.bK t y az⟩
class wV (acc:Acc):Prop where bK:∀ e∈acc,∀ x,e.2.2=some x->di x
instance:wV []:=⟨by simp⟩
instance {k d:Nat}{x:ag}{acc:Acc} [h:cT x] [aT:wV acc]:wV ((k,d,some x)::acc):=⟨λe he y az=>by
 rcases List.mem_cons.1 he with rfl | he
 ·cases az; exact h.bK
 ·exact aT.bK e he y az⟩
instance {k d:Nat}{acc:Acc} [aT:wV acc]:wV ((k,d,none)::acc):=⟨λe he y az=>by
 rcases List.mem_cons.1 he with rfl | he
 ·cases az
 ·exact aT.bK e he y az⟩
theorem Jb {G:List (Nat × ag)}{A:Nat->Bool}{acc:Acc} [h:BW G] [aT:wV acc]:DU (eh (get G) A acc):=by
 have key:∀ t x,eh (get G) A acc t=some x->di x:=λt x J=>by
  rcases s' J with ⟨e,he,_,_,al⟩ | ⟨_,al⟩
  ·exact aT.bK e he x al
  ·exact h.bK t x al
 exact ⟨λt x J=>.bK (key t x J),λt z q n m new J=>by cases key t _ J⟩
end Go.Own
namespace Go.Own
open Go Go.MapKept Go.ChangeMaps
section
variable {P:Program}{w:World}{I:br}{T:Array Value}{g g2:aY}{Fs:Nat->br}
theorem OE {w:World}{b:Nat}{es ht:Array MapEntry}{c hr:Nat}(h:w.heap[b]?=some (.map es c)) (a:Addr):(setBlock w b (.map ht hr)).cell? a=w.cell? a:=by
 by_cases e:a.block=b
 ·have h1:(setBlock w b (.map ht hr)).heap[a.block]?=some (.map ht hr):=by rw [e]; exact heap_setBlock_same h _
  have al:w.heap[a.block]?=some (.map es c):=by rw [e]; exact h
  unfold World.cell?
  rw [h1,al]
 ·have h1:(setBlock w b (.map ht hr)).heap[a.block]?=w.heap[a.block]?:=heap_setBlock_other h _ e
  unfold World.cell?
  rw [h1]
theorem M7 {w:World}{b:Nat}{es ht:Array MapEntry}{c hr:Nat}(h:w.heap[b]?=some (.map es c)):∀ (p:List Nat) (v:Value),walk (setBlock w b (.map ht hr)) v p=walk w v p
 | [],v=>rfl
 | k::p,v=>by
  have ab:child (setBlock w b (.map ht hr)) v k=child w v k:=by
   unfold child
   split <;> first | rfl | exact OE h _
  simp only [walk,ab]
  cases child w v k with
  | none=>rfl
  | some u=>exact M7 h p u
theorem UP {w:World}{b:Nat}{es ht:Array MapEntry}{c hr:Nat}(h:w.heap[b]?=some (.map es c)) (T:Array Value) (p:Place):ed (setBlock w b (.map ht hr)) T p=ed w T p:=by
 unfold ed
 cases T[p.root]? with
 | none=>rfl
 | some v=>exact M7 h _ v
theorem TP {w:World}{b:Nat}{es ht:Array MapEntry}{c hr:Nat}(h:w.heap[b]?=some (.map es c)) {T:Array Value}{r:ag}{v:Value}(ax:fS w T r v):fS (setBlock w b (.map ht hr)) T r v:=by
 cases r <;> simp only [fS,UP h] at ax ⊢ <;> exact ax
theorem cY.Ti (bT:cY w I T g Fs) {p:Place}{q ga:Array MapEntry->Nat->Prop}{b:Nat}{es ht:Array MapEntry}{c hr:Nat}(aG:b7 g p=some (.mp q)) (hv:ed w T p=some (.map (some b))) (hm:w.heap[b]?=some (.map es c)) (bO:ga ht hr)
  (xq:∀ t x,g2 t=some x->c_ g p (.mp ga) t=some x) (tY:∀ t x,g2 t=some x->∀ y,g t=some y->jk (gD g2) y) (k4:∀ t z q n m new,g2 t≠some (.bX z q n m new)) (jO:g2 p.root≠none) :
  ∃ cp,cY (setBlock w b (.map ht hr)) I T g2 cp/\∀ t c,cp t c->Fs t c:=by
 have od:∀ k,k≠b->(setBlock w b (.map ht hr)).heap[k]?=w.heap[k]?:=λk hk=>heap_setBlock_other hm _ hk
 have BB:(setBlock w b (.map ht hr)).heap[b]?=some (.map ht hr):=heap_setBlock_same hm _
 have M3:(setBlock w b (.map ht hr)).heap.size=w.heap.size:=by simp [setBlock]
 have R6:∀ r v,fS w T r v->fS (setBlock w b (.map ht hr)) T r v:=λr v h=>TP hm h
 generalize ub:setBlock w b (.map ht hr)=w' at *
 obtain ⟨fl,jI⟩:∃ fl,g p.root=some fl:=by
  unfold b7 at aG
  cases J:g p.root with
  | none=>rw [J] at aG; cases aG
  | some x=>exact ⟨x,rfl⟩
 have oB:fl.at p.path=some (.mp q):=by simpa [b7,jI] using aG
 obtain ⟨v0,iG,gF⟩:=bT.rel _ _ jI
 have zG:=gF.hB (by rintro z q n m new rfl; cases (ag.rp oB).2)
 have tV:jk (gD g2) fl:=by
  cases al:g2 p.root with
  | none=>exact absurd al jO
  | some y=>exact tY _ _ al _ jI
 have zH:=zG.wc tV
 obtain ⟨h8,cM,hw,dT,dC,_,j'⟩:=R.focus p.path zH oB
 have Gk:h8=.map (some b):=by
  simp only [ed,iG,hw,Option.some.injEq] at hv; exact hv
 subst Gk
 obtain ⟨hJ,Vn,I3,e,bd,_,qD⟩:=dT.GG
 cases e
 have l3:cM b:=(qD b).2 rfl
 have tH:∀ c,I c->w'.heap[c]?=w.heap[c]?:=λc ab=>od c λe=>bT.aE _ b (dC b l3) (e ▸ ab)
 have CO:∀ t,t≠p.root->¬ Fs t b:=λt aD h=>aD (bT.e5 _ _ _ h (dC b l3))
 have refs:∀ r u,(eg w T g r u/\gD g2 r)->eg w' T g2 r u:=λr u h=>⟨R6 r u h.1.1,h.2⟩
 obtain ⟨fK,zI,nv⟩:=j' w' I (eg w' T g2) (.mp ga) cM ⟨tH,λc ab aL=>od c λe=>aL (e ▸ l3),λ_ h=>h,refs⟩ (.mp BB bO qD) λc h _=>h
 have zA:∀ c,fK c->Fs p.root c:=λc ab=>by
  rcases (nv c).1 ab with h | h
  ·exact h.1
  ·exact dC c h
 let cp:Nat->br:=λt c=>if t=p.root then fK c else g2 t≠none/\Fs t c
 have oy:∀ t c,cp t c->Fs t c:=by
  intro t c ab
  by_cases aD:t=p.root
  ·simp only [cp,if_pos aD] at ab; rw [aD]; exact zA c ab
  ·simp only [cp,if_neg aD] at ab; exact ab.2
 refine ⟨cp,⟨λt x J=>?_,λt aD c ab=>?_,λt dn c ab fu=>bT.e5 t dn c (oy t c ab) (oy dn c fu),λt c ab hi=>bT.aE t c (oy t c ab) hi,λc ab=>by rw [M3]; exact bT.lt c ab,λt dn z q n m new cJ cX m' dj h1=>absurd h1 (k4 _ _ _ _ _ _)⟩,oy⟩
 ·have f_:=xq t x J
  by_cases aD:t=p.root
  ·subst aD
   have Ak:fl.setAt p.path (.mp ga)=x:=by simpa [c_,jI] using f_
   refine ⟨v0,iG,.tree ?_⟩
   have vc:cp p.root=fK:=by funext c; simp [cp]
   rw [<- Ak,vc]; exact zI
  ·rw [q7 aD] at f_
   obtain ⟨u,hu,bf⟩:=bT.rel t x f_
   replace bf:=bf.hB (by rintro z q n m new rfl; exact k4 _ _ _ _ _ _ J)
   have vc:cp t=Fs t:=by
    funext c
    exact propext ⟨λh=>by simp only [cp,if_neg aD] at h; exact h.2,λh=>by simp only [cp,if_neg aD]; exact ⟨by rw [J]; simp,h⟩⟩
   refine ⟨u,hu,.tree ?_⟩
   rw [vc]
   exact (bf.wc (tY t x J x f_)).frame tH (λ_ h=>h) refs λc ab=>od c λe=>CO t aD (e ▸ ab)
 ·by_cases hX:t=p.root
  ·exact jO (hX ▸ aD)
  ·simp only [cp,if_neg hX] at ab; exact ab.1 aD
theorem PZ {w:World}{b:Nat}{es ht:Array MapEntry}{c hr:Nat}(h:w.heap[b]?=some (.map es c)) (a:Addr):(setBlock w b (.map ht hr)).frozen? a=w.frozen? a:=by
 unfold World.frozen?
 by_cases e:a.block=b
 ·have h1:(setBlock w b (.map ht hr)).heap[a.block]?=some (.map ht hr):=by rw [e]; exact heap_setBlock_same h _
  have al:w.heap[a.block]?=some (.map es c):=by rw [e]; exact h
  rw [h1,al]
 ·rw [heap_setBlock_other h _ e]
theorem cj.Tj {N:dN}{o:Oper}{t:TypeId}{m x v:Operand}{p:Place}{q ga:Array MapEntry->Nat->Prop}{Y Z x2:ag}{nF ef:Value}{G2:List (Nat × ag)}(bd:o.op=.mapUpdate t m x v) (aV:o.dst=none) (hm:bP g m=some (.hD p)) (aG:b7 g p=some (.mp q)) (J:bP g x=some Y) (az:bP g v=some Z)
  (et:∀ (w:World) (I:br) (ρ:ag->Value->Prop) (v:Value),R w I ρ Y v cU->v=nF) (Fp:∀ (w:World) (I:br) (ρ:ag->Value->Prop) (v:Value),R w I ρ Z v cU->v=ef)
  (ax:∀ (w:World) (b:Nat) (es:Array MapEntry) (c:Nat),w.heap[b]?=some (.map es c)->q es c->∃ ht hr,(Instr.mapUpdate t (.map (some b)) nF ef).run P w=.ok () (setBlock w b (.map ht hr))/\ga ht hr)
  (hZ:c_ g p (.mp ga) p.root=some x2) (jO:(get G2 p.root).isSome=true) {y0:ag}(sO:g p.root=some y0) [gI:cT y0] (ea:kR g (get G2) p.root x2 G2):cj P N g o (get G2):=by
 refine .HD λw I T Fs h a bj bW K Q xo=>?_
 obtain ⟨⟨b,aH,hv⟩,_⟩:=(j9 h hm bj).Lz
 obtain ⟨hF,cM,iy,dT,dC⟩:=h.part aG (by simp)
 have jM:=aH
 rw [aH] at iy
 cases iy
 obtain ⟨hJ,es,c,e,b9,bO,qD⟩:=dT.GG
 cases e
 obtain ⟨ht,hr,hW,xx⟩:=ax w hJ es c b9 bO
 have R_:(execOp a.eval o).run P w=.ok .skip (setBlock w hJ (.map ht hr)):=by
  simp [execOp,bd,hv,et _ _ _ _ (j9 h J bj),Fp _ _ _ _ (j9 h az bj),hW]
 have c1:∀ t x,get G2 t=some x->c_ g p (.mp ga) t=some x:=λt x J=>by
  rcases ea.spec t x J with ⟨h1,al,_⟩ | ⟨h1,al,_⟩
  ·rw [q7 h1]; exact al
  ·subst h1 al; exact hZ
 have c2:∀ t x,get G2 t=some x->∀ y,g t=some y->jk (gD (get G2)) y:=λt x J y az=>by
  rcases ea.spec t x J with ⟨h1,al,aO⟩ | ⟨h1,al,aO⟩
  ·rw [al] at az; cases az
   rcases aO with aO | ⟨aO,_⟩
   ·cases aO with
    | n h=>exact .bK h
    | p _ _ b4 gH=>exact .ref rfl (s0 b4 gH)
    | r _ _ b4 ny=>exact .ref rfl (yh b4 ny)
   ·exact jk.ref (by cases aO; rfl) aO.Dh
  ·subst h1; rw [sO] at az; cases az; exact .bK gI.bK
 have kW:∀ t z q n m new,get G2 t≠some (.bX z q n m new):=λt z q n m new J=>by
  rcases ea.spec t _ J with ⟨_,_,aO | ⟨aO,_⟩⟩ | ⟨_,_,aO⟩
  ·exact aO.fO _ _ _ _ _ rfl
  ·exact aO.fO _ _ _ _ _ rfl
  ·cases aO
 obtain ⟨cp,eB,gz⟩:=h.Ti (g2:=get G2) aG jM b9 xx c1 c2 kW (by intro e; rw [e] at jO; cases jO)
 unfold Oper.wp Oper.upon
 simp only [R_]
 refine xo _ _ ⟨by rw [aV]; rfl,by rw [aV]; exact hG.refl,I,cp,by rw [aV]; simpa [Act.put,bj] using eB,⟨⟨rfl,rfl,rfl,by simp [setBlock],λk _ hk=>heap_setBlock_other b9 _ λe=>hk ⟨_,e ▸ dC hJ ((qD hJ).2 rfl)⟩,λa _=>PZ b9 a,Nat.le_refl _⟩,λ_ h=>h,λ_ h=>.inl h,λc ⟨t,ab⟩=>.inl ⟨t,gz t c ab⟩⟩⟩ λt _=>by rw [aV]; rfl
end
end Go.Own
namespace Go.Own
open Go Go.MapKept Go.ChangeMaps Go.WideElems
open Go.Maps (Keyed)
set_option linter.unusedVariables false
variable {kf k_:Type}{P:Program}{k e:TypeId}
abbrev wW:Value->Option (DataW Value × List MemPlace):=λv=>some (.held v,[])
def oa [DecidableEq kf]:List (kf × k_)->kf->Option k_
 | [],_=>none
 | p::m,x=>if p.1=x then some p.2 else oa m x
def q1 [DecidableEq kf] (ok:kf->Bool) (z:k_) (m:List (kf × k_)) (x:kf):Option k_:=if ok x then some ((oa m x).getD z) else none
def xL (ok:kf->Bool) (m:List (kf × k_)) (x:kf) (y:k_):Option (List (kf × k_)):=if ok x&&decide (m.length<=lim) then some ((x,y)::m) else none
structure yG (P:Program) (k:TypeId) (kf:Type) where
 nF:kf->Value
 vH:kf->Lit
 As:kf->ag
 ok:kf->Bool
 keyed:Keyed P k
 key:∀ x,ok x=true->keyOf P k (nF x)=some (vH x)
 inj:∀ x y,vH x=vH y->x=y
 uR:∀ (x:kf) (w:World) (I:br) (ρ:ag->Value->Prop) (v:Value),R w I ρ (As x) v cU->v=nF x
structure yH (P:Program) (e:TypeId) (k_:Type) where
 oc:k_->Value
 yr:k_->ag
 z:k_
 zero:∀ w,(zeroValue e).run P w=.ok (oc z) w
 one:∀ x,(oc x).oneCell'=true
 uR:∀ (x:k_) (w:World) (I:br) (ρ:ag->Value->Prop) (v:Value),R w I ρ (yr x) v cU->v=oc x
 va:∀ (x:k_) (w:World) (I:br) (ρ:ag->Value->Prop),R w I ρ (yr x) (oc x) cU
def wq (P:Program) (k:TypeId) (es:Array MapEntry):List (Lit × DataW Value):=(es.toList.map (rg P k wW)).foldr DataW.insert []
def kx [DecidableEq kf] (K:yG P k kf) (V:yH P e k_) (m:List (kf × k_)):Array MapEntry->Nat->Prop:=λes c=>Fit P k wW es c/\es.size<=m.length/\∀ x DM,(DataW.map (wq P k es)).atKey (K.vH x) DM=match oa m x with | some y=>.held (V.oc y) | none=>DM
variable [DecidableEq kf] {K:yG P k kf}{V:yH P e k_}{m m':List (kf × k_)}{x:kf}{y:k_}{t:TypeId}
theorem kx.nil:kx K V [] #[] 0:=⟨⟨by simp,stamped_empty 0,by simp⟩,Nat.le_refl _,λx DM=>rfl⟩
theorem kx.look (ok:Bool) (e8:K.ok x=true) (aD:P.underlying t=some (.map k e)) (w:World) (b:Nat) (es:Array MapEntry) (c:Nat) (aH:w.heap[b]?=some (.map es c)) (h:kx K V m es c) :
  (Instr.lookup t (.map (some b)) (K.nF x) ok).run P w=.ok (if ok then .tuple #[V.oc ((oa m x).getD V.z),.bool (oa m x).isSome] else V.oc ((oa m x).getD V.z)) w:=by
 obtain ⟨F,_,gn⟩:=h
 have gn:=gn x
 rcases Maps.fit_look ok K.keyed aD (V.zero w) aH F (K.key x e8) with ⟨hW,_,al⟩ | ⟨lh,y,_,_,hW,az,al,_⟩
 ·have:oa m x=none:=by
   cases a8:oa m x with
   | none=>rfl
   | some y =>
    have h1:=gn .nil
    rw [a8] at h1
    have aO:=al .nil
    unfold wq at h1
    rw [h1] at aO; cases aO
  rw [hW,this]; rfl
 ·cases az
  cases a8:oa m x with
  | none =>
   have h1:=gn .nil
   rw [a8] at h1
   have aO:=al .nil
   unfold wq at h1
   rw [h1] at aO; cases aO
  | some y =>
   have h1:=gn .nil
   rw [a8] at h1
   have aO:=al .nil
   unfold wq at h1
   rw [h1] at aO
   have b4:lh.val=V.oc y:=by simpa using aO.symm
   rw [hW,b4]; rfl
theorem kx.put (bb:xL K.ok m x y=some m') (aD:P.underlying t=some (.map k e)) (w:World) (b:Nat) (es:Array MapEntry) (c:Nat) (aH:w.heap[b]?=some (.map es c)) (h:kx K V m es c) :
  ∃ ht hr,(Instr.mapUpdate t (.map (some b)) (K.nF x) (V.oc y)).run P w=.ok () (setBlock w b (.map ht hr))/\kx K V m' ht hr:=by
 unfold xL at bb
 split at bb
 ·rename_i ab
  cases bb
  simp only [Bool.and_eq_true,decide_eq_true_eq] at ab
  obtain ⟨e8,ao⟩:=ab
  obtain ⟨F,aN,gn⟩:=h
  have KU:=K.key x e8
  obtain ⟨ht,hr,hW,fK,na,_⟩:=Maps.fit_store (R':=wW) K.keyed aD aH F (by have:maxLen=9223372036854775807:=rfl; simp only [lim] at ao; omega) (λ_ _ _ _ bM=>bM) KU (rfl:wW (V.oc y)=some (.held (V.oc y),[]))
  refine ⟨ht,hr,hW,fK,?_,λx' DM=>?_⟩
  ·have dt:ht.size=((ht.toList.map (rg P k wW)).foldr DataW.insert []).length:=by rw [length_sorted]; simp
   rw [dt,na]
   unfold putKey
   rw [length_insert]
   have c3:=List.length_filter_le (notKey (K.vH x)) ((es.toList.map (rg P k wW)).foldr DataW.insert [])
   rw [length_sorted] at c3
   simp at c3 ⊢
   omega
  ·have jY:(DataW.map (wq P k ht))=(DataW.map (wq P k es)).put (K.vH x) (.held (V.oc y)):=by
    rw [DataW.put_eq]; unfold wq; rw [na]
   rw [jY]
   by_cases J:x=x'
   ·subst J
    rw [Maps.atKey_put_same ⟨_,rfl⟩ (K.keyed.key KU)]
    simp [oa]
   ·rw [Maps.atKey_put_other (λe=>J (K.inj _ _ e).symm),gn]
    simp [oa,J]
 ·cases bb
section
variable {N:dN}{g:aY}{a b c:Operand}{p:Place}{ty:TypeId}
instance {q:Array MapEntry->Nat->Prop}:cT (.mp q):=⟨.mp⟩
instance {q:Array MapEntry->Nat->Prop}:cT (.imp q):=⟨.imp⟩
instance {q:Array MapEntry->Nat->Prop}:ql (.mp q):=⟨.mp⟩
theorem O.Th (K:yG P k kf) (V:yH P e k_):dE P g (.makeMap t none) ty (.mp (kx K V [])):=.p8 (.makeMap kx.nil)
theorem O.p4 {r:k_}{X Y:ag}(hm:Rd g a (.hD p)) (aG:b7 g p=some (.mp (kx K V m))) (J:Rd g b Y) (zL:K.As x=Y) (aD:P.underlying t=some (.map k e)) (h:q1 K.ok V.z m x=some r) (zK:V.yr r=X):dE P g (.lookup t a b false) ty X:=by
 subst zK zL
 unfold q1 at h
 split at h
 ·rename_i e8
  cases h
  exact .fA (.C9 hm.bP aG J.bP (K.uR x) (V.va _) λw b es c aH bO=>kx.look false e8 aD w b es c aH bO)
 ·cases h
theorem O.Ay {r:k_}{X Y:ag}(hm:Rd g a (.imp (kx K V m))) (J:Rd g b Y) (zL:K.As x=Y) (aD:P.underlying t=some (.map k e)) (h:q1 K.ok V.z m x=some r) (zK:V.yr r=X):dE P g (.lookup t a b false) ty X:=by
 subst zK zL
 unfold q1 at h
 split at h
 ·rename_i e8
  cases h
  exact .fA (.Ay hm.bP J.bP (K.uR x) (V.va _) λw b es c aH bO=>kx.look false e8 aD w b es c aH bO)
 ·cases h
theorem cj.mt {o:Oper}{x2 y0 Y Z:ag}{G2:List (Nat × ag)}(bd:o.op=.mapUpdate t a b c) (aV:o.dst=none) (hm:Rd g a (.hD p)) (aG:b7 g p=some (.mp (kx K V m))) (J:Rd g b Y) (zL:K.As x=Y) (az:Rd g c Z) (Fp:V.yr y=Z) (aD:P.underlying t=some (.map k e)) (h:xL K.ok m x y=some m')
  (hZ:c_ g p (.mp (kx K V m')) p.root=some x2) (jO:(get G2 p.root).isSome=true) (sO:g p.root=some y0) [gI:cT y0] (ea:kR g (get G2) p.root x2 G2):cj P N g o (get G2):=by
 subst zL Fp
 exact .Tj bd aV hm.bP aG J.bP az.bP (K.uR x) (V.uR y) (λw b es c aH bO=>kx.put h aD w b es c aH bO) hZ jO sO ea
end
def q0 (n:Int):Bool:=decide (-9223372036854775808<=n/\n<9223372036854775808)
def Nw (hk:P.underlying k=some (.int .i64)):yG P k Int where
 nF n:=.int .i64 n
 vH n:=.int .i64 n
 As n:=j n
 ok:=q0
 keyed:=Maps.int_keyed hk
 key n h:=Maps.keyOf_int_mk hk (by
  unfold q0 at h
  have:=of_decide_eq_true h
  unfold Lit.wf
  rw [Bool.and_eq_true]
  refine ⟨decide_eq_true ?_,decide_eq_true ?_⟩
  ·show (-9223372036854775808:Int)<=n; omega
  ·show n<=(9223372036854775807:Int); omega)
 inj x y h:=by cases h; rfl
 uR x w I ρ v h:=h.ie.1
def Nx (bM:(P.info? e).bind (·.zero)=some (.int .i64 0)):yH P e Int where
 oc n:=.int .i64 n
 yr n:=j n
 z:=0
 zero w:=Ee bM w
 one _:=rfl
 uR x w I ρ v h:=h.ie.1
 va x w I ρ:=.lit rfl λ_ h=>h
end Go.Own
namespace Go.Own
open Go
section
variable {α:Type}{P:Program}{N:dN}{g:aY}{d r:Nat}{ty t t2 e:TypeId}{a b:Operand}{k l7:IntKind}{m n:Int}{p:Place}
def Lx (L:List α) (m:Int):Option Unit:=if 0<=m/\m<=L.length then some () else none
instance:uM aI:=⟨λx=>[.int .i64 x],λ_=>rfl,λx v hv=>by rw [List.mem_singleton.1 hv]; rfl⟩
theorem O.ME {en:cD α}{L:List α}{u:Unit}(J:Rd g a (.bn en.z p L.length)) (ao:Rd g b (.lit (.int k m))) (aG:b7 g p=some (ak en L)) (aD:fy P t e en.z=true) (h:Lx L m=some u):dE P g (.slice t a (some b) none none) ty (.sub en.z p m.toNat (L.length - m.toNat)):=by
 unfold Lx at h
 split at h
 ·rename_i ab
  obtain ⟨i,rfl⟩:=Int.eq_ofNat_of_zero_le ab.1
  exact .fA (.DC J.bP ⟨_,ao.bP⟩ rfl aD (by omega) (Nat.le_refl _) ⟨_,_,aG,by omega⟩)
 ·cases h
def JD (lo nd:Nat) (L S:List α):Option (List α):=if 0<min S.length nd/\lo+nd<=L.length then some (L.take lo++S.take (min S.length nd)++L.drop (lo+min S.length nd)) else none
def AB (e:cD α) [h:uM e] (L:List α):List Value:=L.flatMap h.DI
theorem G_ (e:cD α) [h:uM e] (L:List α):ch e L=(AB e L).map .lit:=by
 induction L with
 | nil=>rfl
 | cons x L aS =>
  have:ch e (x::L)=e.cells x++ch e L:=by simp [ch]
  rw [this,aS,h.cells]
  simp [AB]
theorem NA.aE {en:cD α}{S:List α}:Src g (ah en S) en.z S.length (ch en S):=.aE
theorem NA.bn {en:cD α} [uM en] {L:List α}{q:Place}{n:Nat}(bO:b7 g q=some (ak en L)) (aL:n<=L.length):Src g (.bn en.z q n) en.z (L.take n).length (ch en (L.take n)):=by
 have h1:(L.take n).length=n:=by rw [List.length_take]; omega
 have al:ch en (L.take n)=(((ch en L).take (n * en.z)).mapIdx λi x=>ih 0 (q.push i) x):=by
  rw [yj,G_]
  apply List.ext_getElem?
  intro ae
  rw [List.getElem?_mapIdx]
  cases aa:((AB en (L.take n)).map ag.lit)[ae]? with
  | none=>rfl
  | some y =>
   obtain ⟨v,_,rfl⟩:=List.mem_map.1 (List.mem_of_getElem? aa)
   rfl
 rw [h1,al]
 exact .bn bO aL
theorem Ue {z:Nat}(h:fy P t e z=true):(P.info? e).map (·.size)=some z:=by
 unfold fy at h
 cases hu:P.underlying t with
 | none=>simp [hu] at h
 | some d =>
  cases hi:P.info? e with
  | none=>cases d <;> simp [hu,hi] at h
  | some i=>cases d <;> simp [hu,hi] at h; simp [h]
theorem cj.b8 {o:Oper}{en:cD α} [ao:uM en] {L S h4:List α}{lo nd:Nat}{HZ hh:ag}{G2:List (Nat × ag)}(bd:o.op=.call { callee:=.builtin .copy,args:=#[a,b],argTypes:=#[t,t2] }) (aV:o.dst=some d) (bj:bP g a=some HZ) (SQ:HZ=.sub en.z ⟨r,[]⟩ lo nd\/(HZ=.bn en.z ⟨r,[]⟩ nd/\lo=0)) (aH:bP g b=some hh)
  (qN:Src g hh en.z S.length (ch en S)) (aN:g r=some (ak en L)) (xE:en.z=1) (aD:fy P t e 1=true) (h:JD lo nd L S=some h4) (jO:(get G2 r).isSome=true) (ea:kR g (get G2) r (ak en h4) G2) (tQ:get G2 d=none) (bW:N.ok d=true) :
  cj P N g o (get ((d,j ((min S.length nd:Nat):Int))::G2)):=by
 unfold JD at h
 by_cases ab:0<min S.length nd/\lo+nd<=L.length
 case neg=>rw [if_neg ab] at h; cases h
 rw [if_pos ab] at h
 obtain ⟨tV,VZ⟩:=ab
 cases h
 generalize hk:min S.length nd=k at *
 have VY:k<=S.length:=by omega
 have V0:k<=nd:=by omega
 refine .HD λw I T Fs h cE CE QF K Q xo=>?_
 obtain ⟨hu,he,gp⟩:=pB (w:=w) aD
 have aG:b7 g ⟨r,[]⟩=some (ak en L):=by simp [b7,aN,ag.at]
 have Ks:=j9 h bj CE
 obtain ⟨v0,cM,iG,dT,dC⟩:=h.part aG (by simp)
 obtain ⟨a0,Vi,rfl,k3,hlen,pZ,rK⟩:=dT.mL
 have QB:0<L.length:=by omega
 cases a0 with
 | none=>have:=rK QB; simp at this
 | some It =>
 obtain ⟨zW,zX⟩:=pZ It rfl
 obtain ⟨g0,Wo,Wq⟩:=It
 simp only at zW zX
 subst zW zX
 have l3:cM g0:=dT.po g0 rfl
 -- the target
 have FE:∃ cap,cE.eval a=.slice (some ⟨g0,lo,none⟩) nd cap:=by
  rcases SQ with rfl | ⟨rfl,rfl⟩
  ·obtain ⟨⟨kU,th,I3,aw,c1,h1,al,_,_,df⟩,_⟩:=Ks.vz
   rw [h1] at iG
   cases iG
   obtain ⟨ad,dt,c3⟩:=df (by omega)
   cases dt
   rw [al,c3,xE]
   exact ⟨c1,by simp⟩
  ·obtain ⟨⟨kU,th,I3,h1,al,_⟩,_⟩:=Ks.mG
   rw [h1] at iG
   cases iG
   exact ⟨_,al⟩
 obtain ⟨Pt,FE⟩:=FE
 -- the source
 obtain ⟨Bn,T_,news,sJ,F5,Ab,lJ,hx,gO,bf⟩:=qN.sound h (j9 h aH CE)
 rw [xE,Nat.mul_one] at F5
 cases Bn with
 | none=>have:=Ab (by omega) (by omega); simp at this
 | some Ms =>
 have V9:news=AB en S:=by
  rw [G_,List.length_map] at hx
  apply List.ext_getElem hx.symm
  intro ae h1 al
  have:=(bf ae (.lit (AB en S)[ae]) news[ae] (by rw [G_,List.getElem?_map,List.getElem?_eq_getElem al]; rfl) (List.getElem?_eq_getElem h1)).ie.1
  exact this
 -- the block
 cases dT with
 | ref J=>simp [ag.isRef] at J
 | @own _ _ _ _ cW us bS _ oC h6 h1 ax nW j3 aR =>
 obtain ⟨mz,b9⟩:=oC
 rcases b9 with ⟨b9,_⟩ | ⟨hJ,cap,cur,b9,sY,fP,uu,rS,uv,sZ⟩
 ·cases b9
 cases b9
 have KE:L.length<=cur.size:=by
  have tF:(cur.toList.take (L.length * en.z)).length=L.length * en.z:=by rw [sZ,mz]
  rw [List.length_take,xE,Nat.mul_one,Array.length_toList] at tF
  rw [xE] at uv
  omega
 have CH:(news.take k).length=k:=by rw [List.length_take]; omega
 have hW:(execOp cE.eval o).run P w=.ok (.value (goInt k)) (w.setRow g0 (fW cur.toList lo (news.take k)).toArray):=by
  have qB:=run_copy_row (P:=P) w t t2 o.type e g0 lo nd Pt Ms S.length T_ cur cW (news.take k) hu (Ue aD) fP (by rw [CH]; exact hk.symm) (λae v aa=>by
   rw [List.getElem?_take] at aa
   split at aa
   ·exact lJ Ms rfl ae v aa
   ·cases aa) (by rw [CH]; omega) (λv hv=>by
   obtain ⟨ae,aa⟩:=List.getElem?_of_mem (List.mem_of_mem_take hv)
   exact gO ae v aa)
  rw [CH] at qB
  have qz:(cur.toList.take lo++news.take k++cur.toList.drop (lo+k))=fW cur.toList lo (news.take k):=by unfold fW; rw [CH]
  rw [qz] at qB
  simp [execOp,bd,resolve,invoke,FE,sJ,builtin,qB]
 -- the state
 have R7:∀ (ae:Nat) (x:ag) (u:Value),((ch en S).take k)[ae]?=some x->(news.take k)[ae]?=some u->R w I (fS w T) x u cU:=λae x u J hu=>by
  rw [List.getElem?_take] at J hu
  split at J
  ·rename_i aa
   rw [if_pos aa] at hu
   exact (bf ae x u J hu).frame (λ_ _=>rfl) (λ_ h=>h) (λ_ _ h=>h.1) λ_ _=>rfl
  ·cases J
 have hH:Hand w I (fS w T) Fs ((ch en S).take k) (news.take k) (λ_=>cU) :=
  ⟨by rw [List.length_take,List.length_take,hx],R7,λ_ _ _ _ _ h=>h.elim,λ_ _ _ _ h=>h.elim,λ_ _ _ h=>h.elim⟩
 have KD:((ch en S).take k).length=k:=by rw [List.length_take,hx]; omega
 have QA:(ch en L).length=L.length:=by rw [oM,xE,Nat.mul_one]
 have qL:(ak en L).fW lo ((ch en S).take k)=ak en (L.take lo++S.take k++L.drop (lo+k)):=by
  show ag.own en.z L.length (fW (ch en L) lo ((ch en S).take k))=_
  have dt:fW (ch en L) lo ((ch en S).take k)=ch en (L.take lo++S.take k++L.drop (lo+k)):=by
   unfold fW
   rw [KD,we,we]
   have j_:=yj en L lo
   have Ds:=yj en S k
   have Bl:=Bm en L (lo+k)
   rw [xE,Nat.mul_one] at j_ Ds Bl
   rw [j_,Ds,Bl]
  unfold ak
  rw [dt]
  congr 1
  simp; omega
 have RX:∀ (ae:Nat) (u:Value),(news.take k)[ae]?=some u->u.oneCell'=true:=λae u hu=>by
  rw [List.getElem?_take] at hu
  split at hu
  ·exact gO ae u hu
  ·cases hu
 have c1:∀ t x,get G2 t=some x->c_ g ⟨r,[]⟩ ((ak en L).fW lo ((ch en S).take k)) t=some x:=λt x J=>by
  rw [qL]
  rcases ea.spec t x J with ⟨h1,al,_⟩ | ⟨h1,al,_⟩
  ·rw [q7 h1]; exact al
  ·subst h1 al; simp [c_,aN,ag.setAt]
 have c2:∀ t x,get G2 t=some x->∀ y,g t=some y->jk (λq=>gD g q/\Clear ⟨r,[]⟩ lo ((ch en S).take k).length q/\gD (get G2) q) y:=λt x J y az=>by
  rcases ea.spec t x J with ⟨h1,al,aO⟩ | ⟨h1,al,aO⟩
  ·rw [al] at az; cases az
   rcases aO with aO | ⟨_,c2,PB⟩
   ·exact aO.Ht
   ·cases PB
  ·subst h1; rw [aN] at az; cases az; exact .bK (.own (n_ en L))
 have kW:∀ t z q n m new,get G2 t≠some (.bX z q n m new):=λt z q n m new J=>by
  rcases ea.spec t _ J with ⟨_,_,aO | ⟨aO,_⟩⟩ | ⟨_,_,aO⟩
  ·exact aO.fO _ _ _ _ _ rfl
  ·exact aO.fO _ _ _ _ _ rfl
  ·cases aO
 obtain ⟨iZ,ib,gz⟩:=h.me.store (g2:=get G2) aG (.inl rfl) (k:=lo) (cs':=(ch en S).take k) (by rw [KD,QA]; omega) hH (λx J=>n_ en S x (List.mem_of_mem_take J)) RX c1 c2 kW (by intro e; rw [e] at jO; cases jO) iG rfl fP
 have na:=ib.sW (d:=d) (x:=j (k:Int)) (v:=goInt k) (F:=cU) tQ (by rw [<- CE,QF]; exact dN.lt bW) (.tree (.lit rfl λ_ h=>h)) (λ_ _ h=>h.elim) (λ_ h=>h.elim) (by rintro z p n m new e; cases e)
 unfold Oper.wp Oper.upon
 simp only [hW]
 have qz:get ((d,j (k:Int))::G2)=e9 (get G2) d (j (k:Int)):=by
  funext t
  rw [tD]
 rw [<- qz] at na
 have Fx:∃ t,Fs t g0:=⟨_,dC g0 l3⟩
 refine xo _ _ ⟨by rw [aV]; rfl,by rw [aV]; exact hG.put bW _ _,I,_,by rw [aV]; simpa [Act.put,CE] using na,⟨⟨rfl,rfl,rfl,by simp,λc _ ab=>setRow_other w g0 c _ (λe=>ab (e ▸ Fx)),λa _=>E1 w g0 _ a,Nat.le_refl _⟩,λ_ h=>h,λ_ h=>.inl h,λc ab=>?_⟩⟩ λt aD=>by rw [aV]; simp only [Act.put]; rw [Array.getElem?_setIfInBounds_ne]; rintro rfl; exact aD aV
 obtain ⟨t,ab⟩:=ab
 simp only [s_] at ab
 split at ab
 ·exact ab.elim
 ·rcases gz t c ab with gE | ⟨_,_,gE⟩
  ·exact .inl ⟨t,gE⟩
  ·exact gE.elim
end
end Go.Own
namespace Go.Own
open Go
def Dx (eR:List Nat) (o:Oper):Oper:=⟨o.dst,o.op,o.type,o.pos,o.after.map λe=>⟨eR.idxOf e.on,e.ground⟩,o.guard.map λp=>(eR.idxOf p.1,p.2)⟩
def kK (eR:List Nat) (l:List Oper):List Oper:=eR.map λk=>Dx eR (l.getD k default)
def Hi (eR:List Nat) (n:Nat):Bool:=Nat.beq eR.length n&&(List.range n).all λk=>eR.contains k&&Nat.blt (eR.getD k n) n&&Nat.beq (eR.idxOf (eR.getD k n)) k
structure Perm (eR:List Nat) (n:Nat):Prop where
 len:eR.length=n
 mem:∀ k,k<n->eR.idxOf k<n/\eR.getD (eR.idxOf k) n=k
 lt:∀ ae,ae<n->eR.getD ae n<n/\eR.idxOf (eR.getD ae n)=ae
theorem TB {eR:List Nat}{n:Nat}(h:Hi eR n=true):Perm eR n:=by
 unfold Hi at h
 simp only [Bool.and_eq_true,Nat.beq_eq,List.all_eq_true,List.mem_range,Nat.blt_eq] at h
 obtain ⟨ao,hb⟩:=h
 refine ⟨ao,λk hk=>?_,λae aa=>⟨(hb ae aa).1.2,(hb ae aa).2⟩⟩
 have hm:k∈eR:=by have:=(hb k hk).1.1; simpa using this
 have h1:=List.idxOf_lt_length_iff.2 hm
 refine ⟨by omega,?_⟩
 rw [List.getD_eq_getElem?_getD,List.getElem?_eq_getElem h1,List.getElem_idxOf]
 rfl
section
variable {P:Program}{Q:Exit->Act->World->Prop}{eR:List Nat}{l:List Oper}
theorem Hj (ju:Perm eR l.length) {ae:Nat}(aa:ae<l.length):(kK eR l).toArray[ae]?=some (Dx eR (l.getD (eR.getD ae l.length) default))/\l.toArray[eR.getD ae l.length]?=some (l.getD (eR.getD ae l.length) default):=by
 have h1:ae<eR.length:=by rw [ju.len]; exact aa
 have al:=(ju.lt ae aa).1
 constructor
 ·simp only [kK,List.getElem?_toArray,List.getElem?_map,List.getD_eq_getElem?_getD,List.getElem?_eq_getElem h1,Option.map_some,Option.getD_some]
 ·rw [List.getElem?_toArray,List.getD_eq_getElem?_getD (l:=l),List.getElem?_eq_getElem al]; rfl
theorem L9 (ju:Perm eR l.length) {A B:Array Bool}(eT:A.size=l.length) (iv:B.size=l.length) (pU:∀ ae,ae<l.length->B.getD ae true=A.getD (eR.getD ae l.length) true) {ae:Nat}(aa:ae<l.length) :
  eR.getD ae l.length∈Region.ready .any l.toArray A↔ae∈Region.ready .any (kK eR l).toArray B:=by
 obtain ⟨h1,al⟩:=Hj ju aa
 have MT:∀ {C:Array Bool}{k:Nat},k<C.size->C.getD k false=C.getD k true:=λ{C k} h=>by simp [Array.getD,h]
 have gone:∀ {C:Array Bool}{k:Nat},¬ k<C.size->C.getD k false=false:=λ{C k} h=>by simp [Array.getD,h]
 have JJ:∀ m,A.getD m false=true↔B.getD (eR.idxOf m) false=true:=λm=>by
  by_cases hm:m<l.length
  ·obtain ⟨aO,b4⟩:=ju.mem m hm
   rw [MT (by omega),MT (by omega),pU _ aO,b4]
  ·have df:¬ eR.idxOf m<l.length:=λh=>by
    have eL:=List.idxOf_lt_length_iff.1 (by rw [ju.len]; exact h)
    obtain ⟨i,hi,e⟩:=List.mem_iff_getElem.1 eL
    have:=(ju.lt i (by rw [<- ju.len]; exact hi)).1
    rw [List.getD_eq_getElem?_getD,List.getElem?_eq_getElem hi] at this
    simp only [Option.getD_some] at this
    omega
   rw [gone (by omega),gone (by omega)]
 rw [mem_ready,mem_ready,pU ae aa]
 constructor
 ·rintro ⟨a,o,bd,h⟩
  rw [al] at bd
  cases bd
  refine ⟨a,_,h1,λe he aH=>?_⟩
  obtain ⟨lh,Rv,rfl⟩:=Array.mem_map.1 he
  exact (JJ _).1 (h lh Rv aH)
 ·rintro ⟨a,o,bd,h⟩
  rw [h1] at bd
  cases bd
  refine ⟨a,_,al,λe he aH=>?_⟩
  exact (JJ _).2 (h ⟨eR.idxOf e.on,e.ground⟩ (Array.mem_map.2 ⟨e,he,rfl⟩) aH)
theorem TD (ju:Perm eR l.length) (o:Oper) (T:Array Value):Region.wanted (Dx eR o) (yielded (kK eR l).toArray T)=Region.wanted o (yielded l.toArray T):=by
 unfold Region.wanted Dx
 cases a8:o.guard with
 | none=>rfl
 | some p =>
  obtain ⟨m,b⟩:=p
  simp only [Option.map_some]
  have:yielded (kK eR l).toArray T (eR.idxOf m)=yielded l.toArray T m:=by
   unfold yielded
   by_cases hm:m<l.length
   ·obtain ⟨aO,b4⟩:=ju.mem m hm
    obtain ⟨h1,al⟩:=Hj ju aO
    rw [b4] at h1 al
    rw [h1,al]
    rfl
   ·have df:¬ eR.idxOf m<l.length:=λh=>by
     have eL:=List.idxOf_lt_length_iff.1 (by rw [ju.len]; exact h)
     obtain ⟨i,hi,e⟩:=List.mem_iff_getElem.1 eL
     have:=(ju.lt i (by rw [<- ju.len]; exact hi)).1
     rw [List.getD_eq_getElem?_getD,List.getElem?_eq_getElem hi] at this
     simp only [Option.getD_some] at this
     omega
    have dt:(kK eR l).toArray[eR.idxOf m]?=none:=by
     rw [List.getElem?_toArray]; exact List.getElem?_eq_none (by simp [kK,ju.len]; omega)
    have c3:l.toArray[m]?=none:=by rw [List.getElem?_toArray]; exact List.getElem?_eq_none (by omega)
    rw [dt,c3]
  rw [this]
theorem TC (ju:Perm eR l.length):∀ (fuel:Nat) (A B:Array Bool) (a:Act) (w:World),A.size=l.length->B.size=l.length->(∀ ae,ae<l.length->B.getD ae true=A.getD (eR.getD ae l.length) true) ->
  wpAny P .any (kK eR l).toArray Q fuel B a w->wpAny P .any l.toArray Q fuel A a w:=by
 have lift:∀ {A B:Array Bool},A.size=l.length->B.size=l.length->(∀ ae,ae<l.length->B.getD ae true=A.getD (eR.getD ae l.length) true)->∀ k,k∈Region.ready .any l.toArray A->∃ ae,ae<l.length/\eR.getD ae l.length=k/\ae∈Region.ready .any (kK eR l).toArray B:=λ{A B} eT iv pU k hk=>by
  have dZ:k<l.length:=by
   obtain ⟨_,o,bd,_⟩:=mem_ready.1 hk
   have:=(Array.getElem?_eq_some_iff.1 bd).1
   simpa using this
  obtain ⟨aO,b4⟩:=ju.mem k dZ
  exact ⟨_,aO,b4,(L9 ju eT iv pU aO).1 (by rw [b4]; exact hk)⟩
 have nil:∀ {A B:Array Bool},A.size=l.length->B.size=l.length->(∀ ae,ae<l.length->B.getD ae true=A.getD (eR.getD ae l.length) true)->Region.ready .any l.toArray A=[]->Region.ready .any (kK eR l).toArray B=[]:=λ{A B} eT iv pU h=>by
  cases ax:Region.ready .any (kK eR l).toArray B with
  | nil=>rfl
  | cons ae r =>
   have aa:ae∈Region.ready .any (kK eR l).toArray B:=by rw [ax]; simp
   have fq:ae<l.length:=by
    obtain ⟨_,o,bd,_⟩:=mem_ready.1 aa
    have:=(Array.getElem?_eq_some_iff.1 bd).1
    simpa [kK,ju.len] using this
   have:=(L9 ju eT iv pU fq).2 aa
   rw [h] at this; cases this
 intro fuel
 induction fuel with
 | zero =>
  intro A B a w eT iv pU h
  refine ⟨?_,h.2⟩
  cases ax:Region.ready .any l.toArray A with
  | nil=>rfl
  | cons k r =>
   obtain ⟨ae,_,_,aa⟩:=lift eT iv pU k (by rw [ax]; simp)
   rw [h.1] at aa; cases aa
 | succ fuel aS =>
  intro A B a w eT iv pU h
  refine ⟨λax=>h.1 (nil eT iv pU ax),λk hk=>?_⟩
  obtain ⟨ae,fq,rfl,aa⟩:=lift eT iv pU k hk
  have aN:=h.2 ae aa
  obtain ⟨h1,al⟩:=Hj ju fq
  have Qj:∀ i,i<l.length->(B.setIfInBounds ae true).getD i true=(A.setIfInBounds (eR.getD ae l.length) true).getD (eR.getD i l.length) true:=λi hi=>by
   have bc:=(ju.lt ae fq).1
   have FZ:=(ju.lt i hi).1
   have e:∀ (C:Array Bool) (p q:Nat),p<C.size->q<C.size->(C.setIfInBounds p true).getD q true=if q=p then true else C.getD q true:=λC p q aG bO=>by
    by_cases h:q=p
    ·subst h; simp [Array.getD,bO]
    ·rw [if_neg h]; simp [Array.getD,bO,Array.getElem_setIfInBounds_ne,Ne.symm h]
   rw [e B ae i (by omega) (by omega),e A _ _ (by omega) (by omega),pU i hi]
   by_cases h:i=ae
   ·subst h; simp
   ·rw [if_neg h,if_neg]
    intro aT
    have:=(ju.lt i hi).2
    rw [aT,(ju.lt ae fq).2] at this
    exact h this.symm
  have mono:∀ a w,wpAny P .any (kK eR l).toArray Q fuel (B.setIfInBounds ae true) a w->wpAny P .any l.toArray Q fuel (A.setIfInBounds (eR.getD ae l.length) true) a w:=λa w aT=>aS _ _ a w (by simpa using eT) (by simpa using iv) Qj aT
  unfold wpOp at aN ⊢
  rw [al]
  rw [h1] at aN
  simp only [TD ju] at aN
  show if Region.wanted (l.getD (eR.getD ae l.length) default) (yielded l.toArray a.tmps)=true then _ else _
  split
  ·rename_i hw
   rw [if_pos hw] at aN
   exact aN.imp (λaT=>Oper.wp_mono mono aT) id
  ·rename_i hw
   rw [if_neg hw] at aN
   exact mono _ _ aN
end
section
variable {P:Program}{N:dN}
theorem W.TN {id:Nat}{l:List Oper}{G:List (Nat × ag)}{Φ:Exit->aY->Prop}(eR:List Nat) (ca:List (List Nat)) (G1:List (Nat × ag)) (hm:P.follows .mixedOrders=true) (eT:rm (kK eR l).toArray ca=true) (ju:Hi eR l.length=true)
  (h:bL P N (kK eR l).toArray ca (get G) 0 [] (kK eR l) λg'=>kS g' (get G1)) (hk:af .normal Φ G1):W P N (.region id l.toArray true) (get G) Φ:=by
 have aG:=TB ju
 obtain ⟨g',h1,al⟩:=h [] 0 .nil .nil (by simp)
 have gp:(kK eR l).toArray.size=l.length:=by simp [kK,aG.len]
 refine gC.w (g':=g') (e:=.normal) ?_ (hk g' (.gb al .gR))
 intro Q a w I Fs bT bW dX
 refine wp_region_any hm ?_
 have eB:cY w.drew I a.tmps (get G) Fs:=bT.world (λ_ _ _=>rfl) (λ_ _=>rfl) (Nat.le_refl _)
 have hb:∀ k,e_ (Array.replicate (kK eR l).toArray.size false) k=false:=by
  intro k
  unfold e_
  rcases Nat.lt_or_ge k (kK eR l).toArray.size with h | h
  ·simp only [gp] at h ⊢; simp [h]
  ·simp only [gp] at h ⊢; simp [Array.getElem?_eq_none (show (Array.replicate l.length false).size<=k by simpa using h)]
 refine TC aG _ _ (Array.replicate l.length false) a w.drew (by simp) (by simp) (λae aa=>?_) ?_
 ·have:=(aG.lt ae aa).1
  rw [List.getD_eq_getElem?_getD] at this
  simp [Array.getD,aa]
  exact this
 have tF:=h1.sound eT .nil (kK eR l).toArray.size (Array.replicate (kK eR l).toArray.size false) a w.drew I Fs ?_ (by simp) (λk hk=>by omega) (λk _=>hb k) (λk hk=>by rw [hb] at hk; cases hk) eB bW (λcE w' aL=>dX _ _ ?_)
 ·simpa [gp] using tF
 ·unfold hL
  exact Nat.le_trans (List.length_filter_le _ _) (by simp)
 ·obtain ⟨dt,c3,I',cp,ib,cn⟩:=aL
  exact ⟨dt,c3,I',cp,ib,⟨⟨cn.fE.os,cn.fE.tape,cn.fE.output,cn.fE.size,cn.fE.block,cn.fE.e7,Nat.le_trans (Nat.le_succ _) cn.fE.xf⟩,cn.more,cn.new,cn.own⟩⟩
end
end Go.Own
namespace Go.Own
open Go
section
variable {α:Type}{P:Program}{N:dN}{g:aY}{a b:Operand}{t:TypeId}{m i:Int}
end
end Go.Own
namespace Go.Proofs
open Go Go.Own
set_option maxRecDepth 100000
set_option linter.unusedVariables false
structure Act where
 Kind:Int
 N:Int
 deriving DecidableEq,Inhabited
def vV (a0:Act):Option (Int) :=
 ((bif decide (a0.Kind=1) then (bif decide (0<=a0.N) then some (decide (a0.N<20000)) else some false) else some false)).bind λkW =>
 (bif kW then
 some (aQ (a0.N+1))
 else
 ((bif decide (a0.Kind=2) then (bif decide (0<a0.N) then some (decide (a0.N<20000)) else some false) else some false)).bind λo4 =>
 (bif o4 then
 some (aQ (-a0.N))
 else
 ((bif decide (a0.Kind=3) then some (decide (a0.N=0)) else some false)).bind λiS =>
 (bif iS then
 some 20001
 else
 ((bif decide (a0.Kind=4) then some (decide (a0.N=0)) else some false)).bind λjX =>
 (bif jX then
 some 20002
 else
 some 0))))
def vW (a0:Int):Option (Act) :=
 ((bif decide (0<a0) then some (decide (a0<=20000)) else some false)).bind λc2 =>
 (bif c2 then
 some (⟨1,aQ (a0 - 1)⟩:Act)
 else
 ((bif decide (a0<0) then some (decide ((-20000)<a0)) else some false)).bind λkA =>
 (bif kA then
 some (⟨2,aQ (-a0)⟩:Act)
 else
 (bif decide (a0=20001) then
 some (⟨3,0⟩:Act)
 else
 (bif decide (a0=20002) then
 some (⟨4,0⟩:Act)
 else
 some (⟨0,0⟩:Act)))))
def AR (a0:Int):Option (Bool) :=
 ((bif decide (97<=a0) then (bif decide (a0<=122) then some true else (bif decide (65<=a0) then (bif decide (a0<=90) then some true else some (decide (a0=95))) else some (decide (a0=95)))) else (bif decide (65<=a0) then (bif decide (a0<=90) then some true else some (decide (a0=95))) else some (decide (a0=95))))).bind λo4 =>
 some o4
def AS (a0:Int):Option (Bool) :=
 ((bif decide (48<=a0) then some (decide (a0<=57)) else some false)).bind λc2 =>
 some c2
def AP (a0:ByteArray) (aw:Int):Option (Int) :=
 (cS (R:=Int) (λ(s1:Int) =>
 ((bif decide (aQ (aw+s1)<(a0.size:Int)) then ((kV a0 (aQ (aw+s1))).bind λcq=>((AR cq).bind λbx=>(bif bx then some true else (bif decide (0<s1) then ((kV a0 (aQ (aw+s1))).bind λcF=>((AS cF).bind λbQ=>(bif bQ then some true else ((kV a0 (aQ (aw+s1))).bind λdU=>some (decide (dU=46)))))) else some false)))) else some false)).bind λjX =>
 (bif jX then
 some (.inl (aQ (s1+1)))
 else
 some (.inr s1))) 0).bind λx2 =>
 some x2
def uj (a0:ByteArray):Option (Bool) :=
 ((bif decide (1<=(a0.size:Int)) then (bif decide ((a0.size:Int)<=20) then ((AP a0 0).bind λa_=>some (decide (a_=(a0.size:Int)))) else some false) else some false)).bind λc4 =>
 some c4
def AQ (a0:Int):Option (Int × Bool) :=
 (bif decide (a0=10) then
 some (110,true)
 else
 (bif decide (a0=9) then
 some (116,true)
 else
 (bif decide (a0=13) then
 some (114,true)
 else
 ((bif decide (a0=92) then
 some (decide (a0=92))
 else
 some (decide (a0=39)))).bind λGP =>
 (bif GP then
 some (a0,true)
 else
 ((bif decide (32<=a0) then some (0,decide (a0<=126)) else some (0,false))).bind λsc =>
 some (sc.1,sc.2)))))
structure Sym where
 Name:ByteArray
 Lit:Bool
 c7:Int
 At:Int
 deriving DecidableEq,Inhabited
def dJ:cD Sym:=⟨4,λx=>[ai x.Name,a1 x.Lit,j x.c7,j x.At],λ_=>rfl,λ_=>e0.bK⟩
instance:Flat dJ:=⟨λ_=>rfl⟩
instance:lV dJ:=⟨λx=>(inferInstance:jL [ai x.Name,a1 x.Lit,j x.c7,j x.At])⟩
instance:g_ dJ dJ:=⟨rfl,λx=>(inferInstance:dV [ai x.Name,a1 x.Lit,j x.c7,j x.At] [ai x.Name,a1 x.Lit,j x.c7,j x.At])⟩
instance {x:Sym}:dV (dJ.cells x) [ai x.Name,a1 x.Lit,j x.c7,j x.At]:=(inferInstance:dV [ai x.Name,a1 x.Lit,j x.c7,j x.At] [ai x.Name,a1 x.Lit,j x.c7,j x.At])
def vS (a0:Sym) (aw:Bool) (a2:Bool):Option (Bool) :=
 (bif a0.Lit then
 ((bif !a2 then some true else (bif !decide ((a0.Name.size:Int)=1) then some true else some (!decide (a0.c7=0))))).bind λc4 =>
 (bif c4 then
 some false
 else
 (kV a0.Name 0).bind λbx =>
 (AQ bx).bind λbz =>
 some bz.2)
 else
 (((uj a0.Name).bind λb3=>(bif b3 then (bif decide (a0.c7=0) then some true else (bif aw then (bif decide (1<=a0.c7) then some (decide (a0.c7<=50000)) else some false) else some false)) else some false))).bind λjX =>
 some jX)
structure Decl where
 Kind:Int
 Tag:ByteArray
 fo:(List Sym)
 At:Int
 deriving DecidableEq,Inhabited
def de:cD Decl:=⟨4,λx=>[j x.Kind,ai x.Tag,ah dJ x.fo,j x.At],λ_=>rfl,λ_=>e0.bK⟩
instance:Flat de:=⟨λ_=>rfl⟩
instance:g_ de de:=⟨rfl,λx=>(inferInstance:dV [j x.Kind,ai x.Tag,ah dJ x.fo,j x.At] [j x.Kind,ai x.Tag,ah dJ x.fo,j x.At])⟩
instance {x:Decl}:dV (de.cells x) [j x.Kind,ai x.Tag,ah dJ x.fo,j x.At]:=(inferInstance:dV [j x.Kind,ai x.Tag,ah dJ x.fo,j x.At] [j x.Kind,ai x.Tag,ah dJ x.fo,j x.At])
def AN (a0:Decl):Option (Bool) :=
 ((bif decide (a0.Kind<1) then some true else (bif decide (6<a0.Kind) then some true else (bif decide ((a0.fo.length:Int)=0) then some true else (bif decide (a0.Kind=6) then (bif !decide ((a0.fo.length:Int)=1) then some true else (bif !decide (a0.Tag={ data:=#[] }) then some true else (bif decide (a0.Kind=5) then (bif decide (a0.Tag={ data:=#[] }) then some true else some false) else some false))) else (bif decide (a0.Kind=5) then (bif decide (a0.Tag={ data:=#[] }) then some true else (bif !decide (a0.Tag={ data:=#[] }) then ((uj a0.Tag).bind λdU=>some (!dU)) else some false)) else (bif !decide (a0.Tag={ data:=#[] }) then ((uj a0.Tag).bind λeo=>some (!eo)) else some false))))))).bind λr' =>
 (bif r' then
 some false
 else
 (cS (R:=(Unit) ⊕ (Bool)) (λ(iJ:Int) =>
 (bif decide (iJ<(a0.fo.length:Int)) then
 (idx a0.fo iJ).bind λgf =>
 (vS gf (decide (a0.Kind=1)) (decide (a0.Kind<5))).bind λfm =>
 (bif !fm then
 some (.inr (.inr false))
 else
 some (.inl (aQ (iJ+1))))
 else
 some (.inr (.inl ())))) 0).bind λeZ =>
 (match eZ with
 | .inl eD =>
 some true
 | .inr c0 =>
 some c0))
def vT (a0:Sym):Option (Bool) :=
 ((bif decide (a0.Name={ data:=#[] }) then (bif !a0.Lit then some (decide (a0.c7=0)) else some false) else some false)).bind λkW =>
 some kW
def vU (a0:ByteArray) (aw:Int) (a2:ByteArray):Option (Bool) :=
 ((bif decide ((a2.size:Int)<=aQ ((a0.size:Int) - aw)) then ((u1 a0 aw (aQ (aw+(a2.size:Int)))).bind λx2=>some (decide (x2=a2))) else some false)).bind λkW =>
 some kW
def AT (a0:ByteArray) (aw:Int):Option (Int) :=
 (((kV a0 aw).bind λaF=>(bif decide (aF=34) then some true else ((kV a0 aw).bind λa_=>some (decide (a_=39)))))).bind λc4 =>
 (bif c4 then
 (cS (R:=(Unit) ⊕ (Int)) (λ(cH:Int) =>
 ((bif decide (cH<(a0.size:Int)) then ((kV a0 cH).bind λb1=>some (!decide (b1=10))) else some false)).bind λqs =>
 (bif qs then
 (kV a0 cH).bind λeo =>
 (kV a0 aw).bind λcA =>
 (bif decide (eo=cA) then
 some (.inr (.inr (aQ (cH+1))))
 else
 (kV a0 cH).bind λb2 =>
 (bif decide (b2=92) then
 ((bif decide (aQ (cH+1)<(a0.size:Int)) then ((kV a0 (aQ (cH+1))).bind λc0=>some (decide (c0=10))) else some false)).bind λrr =>
 (bif rr then
 some (.inr (.inr (-1)))
 else
 some (.inl (aQ ((aQ (cH+1))+1))))
 else
 some (.inl (aQ (cH+1)))))
 else
 some (.inr (.inl ())))) (aQ (aw+1))).bind λbz =>
 (match bz with
 | .inl b3 =>
 some (-1)
 | .inr cF =>
 some cF)
 else
 (kV a0 aw).bind λfm =>
 (bif decide (fm=96) then
 (cS (R:=(Unit) ⊕ (Int)) (λ(wh:Int) =>
 (bif decide (wh<(a0.size:Int)) then
 (kV a0 wh).bind λgK =>
 (bif decide (gK=96) then
 some (.inr (.inr (aQ (wh+1))))
 else
 some (.inl (aQ (wh+1))))
 else
 some (.inr (.inl ())))) (aQ (aw+1))).bind λiM =>
 (match iM with
 | .inl gg =>
 some (-1)
 | .inr cV =>
 some cV)
 else
 (vU a0 aw ({ data:=#[47,47] })).bind λd_ =>
 (bif d_ then
 (cS (R:=Int) (λ(ux:Int) =>
 ((bif decide (ux<(a0.size:Int)) then ((kV a0 ux).bind λdc=>some (!decide (dc=10))) else some false)).bind λEj =>
 (bif Ej then
 some (.inl (aQ (ux+1)))
 else
 some (.inr ux))) aw).bind λgS =>
 some gS
 else
 (vU a0 aw ({ data:=#[47,42] })).bind λBF =>
 (bif BF then
 (cS (R:=(Unit) ⊕ (Int)) (λ(uy:Int) =>
 (bif decide (uy<(a0.size:Int)) then
 (vU a0 uy ({ data:=#[42,47] })).bind λBG =>
 (bif BG then
 some (.inr (.inr (aQ (uy+2))))
 else
 some (.inl (aQ (uy+1))))
 else
 some (.inr (.inl ())))) (aQ (aw+2))).bind λq' =>
 (match q' with
 | .inl M8 =>
 some (-1)
 | .inr mS =>
 some mS)
 else
 some aw))))
def x4 (a0:ByteArray) (aw:Int):Option (Int) :=
 ((bif decide (aw<0) then some true else (bif decide ((a0.size:Int)<=aw) then some true else ((kV a0 aw).bind λa_=>some (!decide (a_=123)))))).bind λc4 =>
 (bif c4 then
 some (-1)
 else
 (cS (R:=(Unit) ⊕ (Int)) (λ(cH:Int × Int) =>
 (bif decide (cH.2<(a0.size:Int)) then
 (AT a0 cH.2).bind λb1 =>
 (bif decide (b1<0) then
 some (.inr (.inr (-1)))
 else
 (bif decide (cH.2<b1) then
 some (.inl (cH.1,b1))
 else
 (kV a0 cH.2).bind λeo =>
 ((bif decide (eo=123) then
 some (aQ (cH.1+1))
 else
 some cH.1)).bind λoH =>
 (kV a0 cH.2).bind λb2 =>
 ((bif decide (b2=125) then
 some (aQ (oH - 1))
 else
 some oH)).bind λC5 =>
 (bif decide (C5=0) then
 some (.inr (.inr (aQ (cH.2+1))))
 else
 some (.inl (C5,aQ (cH.2+1))))))
 else
 some (.inr (.inl ())))) (0,aw)).bind λbz =>
 (match bz with
 | .inl b3 =>
 some (-1)
 | .inr cF =>
 some cF))
structure Part where
 Sym:Sym
 Code:ByteArray
 At:Int
 deriving DecidableEq,Inhabited
structure Alt where
 jC:(List Part)
 Prec:Sym
 At:Int
 deriving DecidableEq,Inhabited
def e6:cD Part:=⟨6,λx=>[ai x.Sym.Name,a1 x.Sym.Lit,j x.Sym.c7,j x.Sym.At,ai x.Code,j x.At],λ_=>rfl,λ_=>e0.bK⟩
instance:Flat e6:=⟨λ_=>rfl⟩
instance:lV e6:=⟨λx=>(inferInstance:jL [ai x.Sym.Name,a1 x.Sym.Lit,j x.Sym.c7,j x.Sym.At,ai x.Code,j x.At])⟩
instance:g_ e6 e6:=⟨rfl,λx=>(inferInstance:dV [ai x.Sym.Name,a1 x.Sym.Lit,j x.Sym.c7,j x.Sym.At,ai x.Code,j x.At] [ai x.Sym.Name,a1 x.Sym.Lit,j x.Sym.c7,j x.Sym.At,ai x.Code,j x.At])⟩
instance {x:Part}:dV (e6.cells x) [ai x.Sym.Name,a1 x.Sym.Lit,j x.Sym.c7,j x.Sym.At,ai x.Code,j x.At]:=(inferInstance:dV [ai x.Sym.Name,a1 x.Sym.Lit,j x.Sym.c7,j x.Sym.At,ai x.Code,j x.At] [ai x.Sym.Name,a1 x.Sym.Lit,j x.Sym.c7,j x.Sym.At,ai x.Code,j x.At])
def e1:cD Alt:=⟨6,λx=>[ah e6 x.jC,ai x.Prec.Name,a1 x.Prec.Lit,j x.Prec.c7,j x.Prec.At,j x.At],λ_=>rfl,λ_=>e0.bK⟩
instance:Flat e1:=⟨λ_=>rfl⟩
instance:g_ e1 e1:=⟨rfl,λx=>(inferInstance:dV [ah e6 x.jC,ai x.Prec.Name,a1 x.Prec.Lit,j x.Prec.c7,j x.Prec.At,j x.At] [ah e6 x.jC,ai x.Prec.Name,a1 x.Prec.Lit,j x.Prec.c7,j x.Prec.At,j x.At])⟩
instance {x:Alt}:dV (e1.cells x) [ah e6 x.jC,ai x.Prec.Name,a1 x.Prec.Lit,j x.Prec.c7,j x.Prec.At,j x.At]:=(inferInstance:dV [ah e6 x.jC,ai x.Prec.Name,a1 x.Prec.Lit,j x.Prec.c7,j x.Prec.At,j x.At] [ah e6 x.jC,ai x.Prec.Name,a1 x.Prec.Lit,j x.Prec.c7,j x.Prec.At,j x.At])
def AO (a0:Alt):Option (Bool) :=
 (cS (R:=(Unit) ⊕ (Bool)) (λ(s1:Int) =>
 (bif decide (s1<(a0.jC.length:Int)) then
 (idx a0.jC s1).bind λbx =>
 ((bif decide (bx.Code={ data:=#[] }) then ((vS bx.Sym false true).bind λb3=>(bif !b3 then some true else (bif !decide (bx.Code={ data:=#[] }) then ((vT bx.Sym).bind λb1=>(bif !b1 then some true else ((x4 bx.Code 0).bind λei=>some (!decide (ei=(bx.Code.size:Int)))))) else some false))) else (bif !decide (bx.Code={ data:=#[] }) then ((vT bx.Sym).bind λcA=>(bif !cA then some true else ((x4 bx.Code 0).bind λb2=>some (!decide (b2=(bx.Code.size:Int)))))) else some false))).bind λqu =>
 (bif qu then
 some (.inr (.inr false))
 else
 some (.inl (aQ (s1+1))))
 else
 some (.inr (.inl ())))) 0).bind λx2 =>
 (match x2 with
 | .inl a_ =>
 (((vT a0.Prec).bind λc0=>(bif c0 then some true else ((vS a0.Prec false true).bind λgf=>some gf)))).bind λyW =>
 some yW
 | .inr bE =>
 some bE)
structure gk where
 Left:ByteArray
 fU:(List Alt)
 At:Int
 deriving DecidableEq,Inhabited
structure Source where
 bA:ByteArray
 Decls:(List Decl)
 eG:(List gk)
 bF:ByteArray
 deriving DecidableEq,Inhabited
def ia:cD gk:=⟨3,λx=>[ai x.Left,ah e1 x.fU,j x.At],λ_=>rfl,λ_=>e0.bK⟩
instance:Flat ia:=⟨λ_=>rfl⟩
instance:g_ ia ia:=⟨rfl,λx=>(inferInstance:dV [ai x.Left,ah e1 x.fU,j x.At] [ai x.Left,ah e1 x.fU,j x.At])⟩
instance {x:gk}:dV (ia.cells x) [ai x.Left,ah e1 x.fU,j x.At]:=(inferInstance:dV [ai x.Left,ah e1 x.fU,j x.At] [ai x.Left,ah e1 x.fU,j x.At])
def dY:cD Source:=⟨4,λx=>[ai x.bA,ah de x.Decls,ah ia x.eG,ai x.bF],λ_=>rfl,λ_=>e0.bK⟩
instance:Flat dY:=⟨λ_=>rfl⟩
instance:g_ dY dY:=⟨rfl,λx=>(inferInstance:dV [ai x.bA,ah de x.Decls,ah ia x.eG,ai x.bF] [ai x.bA,ah de x.Decls,ah ia x.eG,ai x.bF])⟩
instance {x:Source}:dV (dY.cells x) [ai x.bA,ah de x.Decls,ah ia x.eG,ai x.bF]:=(inferInstance:dV [ai x.bA,ah de x.Decls,ah ia x.eG,ai x.bF] [ai x.bA,ah de x.Decls,ah ia x.eG,ai x.bF])
def Bh (a0:Source):Option (Bool) :=
 (cS (R:=(Unit) ⊕ (Bool)) (λ(s1:Int) =>
 (bif decide (aQ (s1+1)<(a0.bA.size:Int)) then
 (u1 a0.bA s1 (aQ (s1+2))).bind λbx =>
 (bif decide (bx={ data:=#[37,125] }) then
 some (.inr (.inr false))
 else
 some (.inl (aQ (s1+1))))
 else
 some (.inr (.inl ())))) 0).bind λx2 =>
 (match x2 with
 | .inl a_ =>
 (cS (R:=(Unit) ⊕ (Bool)) (λ(cI:Int) =>
 (bif decide (cI<(a0.Decls.length:Int)) then
 (idx a0.Decls cI).bind λei =>
 (AN ei).bind λeo =>
 (bif !eo then
 some (.inr (.inr false))
 else
 some (.inl (aQ (cI+1))))
 else
 some (.inr (.inl ())))) 0).bind λcF =>
 (match cF with
 | .inl bQ =>
 (cS (R:=(Unit) ⊕ (Bool)) (λ(hg:Int) =>
 (bif decide (hg<(a0.eG.length:Int)) then
 (idx a0.eG hg).bind λc8 =>
 (((uj c8.Left).bind λgf=>(bif !gf then some true else some (decide ((c8.fU.length:Int)=0))))).bind λtu =>
 (bif tu then
 some (.inr (.inr false))
 else
 (cS (R:=(Unit) ⊕ (Bool)) (λ(yl:Int) =>
 (bif decide (yl<(c8.fU.length:Int)) then
 (idx c8.fU yl).bind λh9 =>
 (AO h9).bind λd_ =>
 (bif !d_ then
 some (.inr (.inr false))
 else
 some (.inl (aQ (yl+1))))
 else
 some (.inr (.inl ())))) 0).bind λgg =>
 (match gg with
 | .inl cV =>
 some (.inl (aQ (hg+1)))
 | .inr eJ =>
 some (.inr (.inr eJ))))
 else
 some (.inr (.inl ())))) 0).bind λb2 =>
 (match b2 with
 | .inl eZ =>
 some (decide (0<(a0.eG.length:Int)))
 | .inr eD =>
 some eD)
 | .inr b1 =>
 some b1)
 | .inr bE =>
 some bE)
structure b5 where
 Name:ByteArray
 Lit:Bool
 c7:Int
 Level:Int
 fw:Int
 Tag:ByteArray
 deriving DecidableEq,Inhabited
structure e2 where
 Name:ByteArray
 Tag:ByteArray
 deriving DecidableEq,Inhabited
structure Prod where
 Left:Int
 fx:(List Int)
 Prec:Int
 Code:ByteArray
 td:(List Int)
 At:Int
 deriving DecidableEq,Inhabited
structure b_ where
 a':(List b5)
 bu:(List e2)
 ba:(List Prod)
 bA:ByteArray
 bF:ByteArray
 deriving DecidableEq,Inhabited
structure cR where
 aq:b_
 bZ:(List Bool)
 bV:(List e2)
 bH:(List ByteArray)
 cd:Int
 cg:Int
 cc:ByteArray
 bU:Int
 bD:Int
 deriving DecidableEq,Inhabited
def bp:cD b5:=⟨6,λx=>[ai x.Name,a1 x.Lit,j x.c7,j x.Level,j x.fw,ai x.Tag],λ_=>rfl,λ_=>e0.bK⟩
instance:Flat bp:=⟨λ_=>rfl⟩
instance:lV bp:=⟨λx=>(inferInstance:jL [ai x.Name,a1 x.Lit,j x.c7,j x.Level,j x.fw,ai x.Tag])⟩
instance:g_ bp bp:=⟨rfl,λx=>(inferInstance:dV [ai x.Name,a1 x.Lit,j x.c7,j x.Level,j x.fw,ai x.Tag] [ai x.Name,a1 x.Lit,j x.c7,j x.Level,j x.fw,ai x.Tag])⟩
instance {x:b5}:dV (bp.cells x) [ai x.Name,a1 x.Lit,j x.c7,j x.Level,j x.fw,ai x.Tag]:=(inferInstance:dV [ai x.Name,a1 x.Lit,j x.c7,j x.Level,j x.fw,ai x.Tag] [ai x.Name,a1 x.Lit,j x.c7,j x.Level,j x.fw,ai x.Tag])
def a6:cD e2:=⟨2,λx=>[ai x.Name,ai x.Tag],λ_=>rfl,λ_=>e0.bK⟩
instance:Flat a6:=⟨λ_=>rfl⟩
instance:lV a6:=⟨λx=>(inferInstance:jL [ai x.Name,ai x.Tag])⟩
instance:g_ a6 a6:=⟨rfl,λx=>(inferInstance:dV [ai x.Name,ai x.Tag] [ai x.Name,ai x.Tag])⟩
def bG:cD Prod:=⟨6,λx=>[j x.Left,ah aI x.fx,j x.Prec,ai x.Code,ah aI x.td,j x.At],λ_=>rfl,λ_=>e0.bK⟩
instance:Flat bG:=⟨λ_=>rfl⟩
instance:g_ bG bG:=⟨rfl,λx=>(inferInstance:dV [j x.Left,ah aI x.fx,j x.Prec,ai x.Code,ah aI x.td,j x.At] [j x.Left,ah aI x.fx,j x.Prec,ai x.Code,ah aI x.td,j x.At])⟩
instance {x:Prod}:dV (bG.cells x) [j x.Left,ah aI x.fx,j x.Prec,ai x.Code,ah aI x.td,j x.At]:=(inferInstance:dV [j x.Left,ah aI x.fx,j x.Prec,ai x.Code,ah aI x.td,j x.At] [j x.Left,ah aI x.fx,j x.Prec,ai x.Code,ah aI x.td,j x.At])
def cm:cD b_:=⟨5,λx=>[ah bp x.a',ah a6 x.bu,ah bG x.ba,ai x.bA,ai x.bF],λ_=>rfl,λ_=>e0.bK⟩
instance:Flat cm:=⟨λ_=>rfl⟩
instance:g_ cm cm:=⟨rfl,λx=>(inferInstance:dV [ah bp x.a',ah a6 x.bu,ah bG x.ba,ai x.bA,ai x.bF] [ah bp x.a',ah a6 x.bu,ah bG x.ba,ai x.bA,ai x.bF])⟩
instance {x:b_}:dV (cm.cells x) [ah bp x.a',ah a6 x.bu,ah bG x.ba,ai x.bA,ai x.bF]:=(inferInstance:dV [ah bp x.a',ah a6 x.bu,ah bG x.ba,ai x.bA,ai x.bF] [ah bp x.a',ah a6 x.bu,ah bG x.ba,ai x.bA,ai x.bF])
def Cm:cD cR:=⟨13,λx=>[ah bp x.aq.a',ah a6 x.aq.bu,ah bG x.aq.ba,ai x.aq.bA,ai x.aq.bF,ah bJ x.bZ,ah a6 x.bV,ah cy x.bH,j x.cd,j x.cg,ai x.cc,j x.bU,j x.bD],λ_=>rfl,λ_=>e0.bK⟩
instance:Flat Cm:=⟨λ_=>rfl⟩
instance:g_ Cm Cm:=⟨rfl,λx=>(inferInstance:dV [ah bp x.aq.a',ah a6 x.aq.bu,ah bG x.aq.ba,ai x.aq.bA,ai x.aq.bF,ah bJ x.bZ,ah a6 x.bV,ah cy x.bH,j x.cd,j x.cg,ai x.cc,j x.bU,j x.bD] [ah bp x.aq.a',ah a6 x.aq.bu,ah bG x.aq.ba,ai x.aq.bA,ai x.aq.bF,ah bJ x.bZ,ah a6 x.bV,ah cy x.bH,j x.cd,j x.cg,ai x.cc,j x.bU,j x.bD])⟩
instance {x:cR}:dV (Cm.cells x) [ah bp x.aq.a',ah a6 x.aq.bu,ah bG x.aq.ba,ai x.aq.bA,ai x.aq.bF,ah bJ x.bZ,ah a6 x.bV,ah cy x.bH,j x.cd,j x.cg,ai x.cc,j x.bU,j x.bD]:=(inferInstance:dV [ah bp x.aq.a',ah a6 x.aq.bu,ah bG x.aq.ba,ai x.aq.bA,ai x.aq.bF,ah bJ x.bZ,ah a6 x.bV,ah cy x.bH,j x.cd,j x.cg,ai x.cc,j x.bU,j x.bD] [ah bp x.aq.a',ah a6 x.aq.bu,ah bG x.aq.ba,ai x.aq.bA,ai x.aq.bF,ah bJ x.bZ,ah a6 x.bV,ah cy x.bH,j x.cd,j x.cg,ai x.cc,j x.bU,j x.bD])
def JH:cD b_:=⟨5,λx=>[ak bp x.a',ak a6 x.bu,ak bG x.ba,ai x.bA,ai x.bF],λ_=>rfl,λ_=>e0.bK⟩
instance:g_ JH cm:=⟨rfl,λx=>(inferInstance:dV [ak bp x.a',ak a6 x.bu,ak bG x.ba,ai x.bA,ai x.bF] [ah bp x.a',ah a6 x.bu,ah bG x.ba,ai x.bA,ai x.bF])⟩
instance {x:b_}:dV (JH.cells x) [ah bp x.a',ah a6 x.bu,ah bG x.ba,ai x.bA,ai x.bF]:=(inferInstance:dV [ak bp x.a',ak a6 x.bu,ak bG x.ba,ai x.bA,ai x.bF] [ah bp x.a',ah a6 x.bu,ah bG x.ba,ai x.bA,ai x.bF])
def d':cD cR:=⟨13,λx=>[ak bp x.aq.a',ak a6 x.aq.bu,ak bG x.aq.ba,ai x.aq.bA,ai x.aq.bF,ak bJ x.bZ,ak a6 x.bV,ak cy x.bH,j x.cd,j x.cg,ai x.cc,j x.bU,j x.bD],λ_=>rfl,λ_=>e0.bK⟩
instance {x:cR}:dV (d'.cells x) [ah bp x.aq.a',ah a6 x.aq.bu,ah bG x.aq.ba,ai x.aq.bA,ai x.aq.bF,ah bJ x.bZ,ah a6 x.bV,ah cy x.bH,j x.cd,j x.cg,ai x.cc,j x.bU,j x.bD]:=(inferInstance:dV [ak bp x.aq.a',ak a6 x.aq.bu,ak bG x.aq.ba,ai x.aq.bA,ai x.aq.bF,ak bJ x.bZ,ak a6 x.bV,ak cy x.bH,j x.cd,j x.cg,ai x.cc,j x.bU,j x.bD] [ah bp x.aq.a',ah a6 x.aq.bu,ah bG x.aq.ba,ai x.aq.bA,ai x.aq.bF,ah bJ x.bZ,ah a6 x.bV,ah cy x.bH,j x.cd,j x.cg,ai x.cc,j x.bU,j x.bD])
def nH (a0:cR) (aw:Int) (a2:ByteArray):Option (cR) :=
 ((bif decide (a0.cd=0) then
 some (⟨a0.aq,a0.bZ,a0.bV,a0.bH,3,aw,a2,a0.bU,a0.bD⟩:cR)
 else
 some a0)).bind λje =>
 some je
def ye (a0:cR) (aw:ByteArray):Option (Int) :=
 (cS (R:=(Unit) ⊕ (Int)) (λ(s1:Int) =>
 (bif decide (s1<(a0.bV.length:Int)) then
 (idx a0.bV s1).bind λbx =>
 (bif decide (bx.Name=aw) then
 some (.inr (.inr s1))
 else
 some (.inl (aQ (s1+1))))
 else
 some (.inr (.inl ())))) 0).bind λx2 =>
 (match x2 with
 | .inl a_ =>
 some (-1)
 | .inr bE =>
 some bE)
def v_ (a0:cR) (aw:Sym):Option (Int) :=
 (cS (R:=(Unit) ⊕ (Int)) (λ(s1:Int) =>
 (bif decide (s1<(a0.aq.a'.length:Int)) then
 (((idx a0.aq.a' s1).bind λbx=>(bif decide (bx.Name=aw.Name) then ((idx a0.aq.a' s1).bind λb3=>(bif (b3.Lit == aw.Lit) then some (!decide (s1=2)) else some false)) else some false))).bind λiS =>
 (bif iS then
 some (.inr (.inr s1))
 else
 some (.inl (aQ (s1+1))))
 else
 some (.inr (.inl ())))) 1).bind λx2 =>
 (match x2 with
 | .inl a_ =>
 some (-1)
 | .inr bE =>
 some bE)
def x3 (a0:cR) (aw:Int):Option (Int) :=
 (cS (R:=(Unit) ⊕ (Int)) (λ(s1:Int) =>
 (bif decide (s1<(a0.aq.a'.length:Int)) then
 (idx a0.aq.a' s1).bind λbx =>
 (bif decide (bx.c7=aw) then
 some (.inr (.inr s1))
 else
 some (.inl (aQ (s1+1))))
 else
 some (.inr (.inl ())))) 3).bind λx2 =>
 (match x2 with
 | .inl a_ =>
 some (-1)
 | .inr bE =>
 some bE)
def x1 (a0:cR) (aw:Sym):Option (Int × cR) :=
 (v_ a0 aw).bind λaF =>
 (bif decide (0<=aF) then
 some (aF,a0)
 else
 ((bif aw.Lit then
 (kV aw.Name 0).bind λcq =>
 (x3 a0 (aQ cq)).bind λbx =>
 ((bif decide (0<=bx) then
 (nH a0 aw.At aw.Name).bind λcF =>
 some cF
 else
 some a0)).bind λn3 =>
 some (n3,aQ cq)
 else
 some (a0,0))).bind λdG =>
 (eS dG.1.aq.a' [(⟨aw.Name,aw.Lit,dG.2,0,0,{ data:=#[] }⟩:b5)]).bind λbQ =>
 (eS dG.1.bZ [aw.Lit]).bind λb1 =>
 some (aQ (((dG.1.aq.a'++[(⟨aw.Name,aw.Lit,dG.2,0,0,{ data:=#[] }⟩:b5)]).length:Int) - 1),(⟨(⟨dG.1.aq.a'++[(⟨aw.Name,aw.Lit,dG.2,0,0,{ data:=#[] }⟩:b5)],dG.1.aq.bu,dG.1.aq.ba,dG.1.aq.bA,dG.1.aq.bF⟩:b_),dG.1.bZ++[aw.Lit],dG.1.bV,dG.1.bH,dG.1.cd,dG.1.cg,dG.1.cc,dG.1.bU,dG.1.bD⟩:cR)))
def Bi (a0:cR) (aw:Decl) (a2:Sym):Option (cR) :=
 (bif decide (aw.Kind=5) then
 (ye a0 a2.Name).bind λx2 =>
 ((bif decide (x2<0) then
 (eS a0.bV [(⟨a2.Name,aw.Tag⟩:e2)]).bind λcq =>
 some (⟨a0.aq,a0.bZ,a0.bV++[(⟨a2.Name,aw.Tag⟩:e2)],a0.bH,a0.cd,a0.cg,a0.cc,a0.bU,a0.bD⟩:cR)
 else
 (idx a0.bV x2).bind λbx =>
 ((bif !decide (bx.Tag=aw.Tag) then
 (nH a0 a2.At a2.Name).bind λcF =>
 some cF
 else
 some a0)).bind λn3 =>
 some n3)).bind λdG =>
 some dG
 else
 (x1 a0 a2).bind λbQ =>
 (idx bQ.2.aq.a' bQ.1).bind λb1 =>
 ((bif !decide (aw.Kind=1) then
 ((bif decide (0<b1.Level) then
 (nH bQ.2 a2.At a2.Name).bind λck =>
 some (⟨(⟨bQ.2.aq.a',ck.aq.bu,ck.aq.ba,ck.aq.bA,ck.aq.bF⟩:b_),ck.bZ,ck.bV,ck.bH,ck.cd,ck.cg,ck.cc,ck.bU,ck.bD⟩:cR)
 else
 some bQ.2)).bind λdr =>
 (idx dr.aq.a' bQ.1).bind λb2 =>
 some (⟨(⟨(dr.aq.a'.set bQ.1.toNat (⟨b2.Name,b2.Lit,b2.c7,dr.bU,b2.fw,b2.Tag⟩:b5)).set bQ.1.toNat (⟨(⟨b2.Name,b2.Lit,b2.c7,dr.bU,b2.fw,b2.Tag⟩:b5).Name,(⟨b2.Name,b2.Lit,b2.c7,dr.bU,b2.fw,b2.Tag⟩:b5).Lit,(⟨b2.Name,b2.Lit,b2.c7,dr.bU,b2.fw,b2.Tag⟩:b5).c7,(⟨b2.Name,b2.Lit,b2.c7,dr.bU,b2.fw,b2.Tag⟩:b5).Level,aQ (aw.Kind - 1),(⟨b2.Name,b2.Lit,b2.c7,dr.bU,b2.fw,b2.Tag⟩:b5).Tag⟩:b5),dr.aq.bu,dr.aq.ba,dr.aq.bA,dr.aq.bF⟩:b_),dr.bZ,dr.bV,dr.bH,dr.cd,dr.cg,dr.cc,dr.bU,dr.bD⟩:cR)
 else
 some bQ.2)).bind λfr =>
 (idx fr.aq.a' bQ.1).bind λeZ =>
 ((bif decide (0<a2.c7) then
 ((bif decide (bQ.1=1) then some true else ((idx fr.bZ bQ.1).bind λgf=>(bif gf then some true else ((x3 fr a2.c7).bind λgr=>some (decide (0<=gr))))))).bind λyX =>
 ((bif yX then
 (nH fr a2.At a2.Name).bind λcV =>
 some (⟨(⟨fr.aq.a',cV.aq.bu,cV.aq.ba,cV.aq.bA,cV.aq.bF⟩:b_),cV.bZ,cV.bV,cV.bH,cV.cd,cV.cg,cV.cc,cV.bU,cV.bD⟩:cR)
 else
 some fr)).bind λek =>
 (idx ek.aq.a' bQ.1).bind λeJ =>
 (idx ek.bZ bQ.1).bind λgK =>
 some (⟨(⟨ek.aq.a'.set bQ.1.toNat (⟨eJ.Name,eJ.Lit,a2.c7,eJ.Level,eJ.fw,eJ.Tag⟩:b5),ek.aq.bu,ek.aq.ba,ek.aq.bA,ek.aq.bF⟩:b_),ek.bZ.set bQ.1.toNat true,ek.bV,ek.bH,ek.cd,ek.cg,ek.cc,ek.bU,ek.bD⟩:cR)
 else
 some fr)).bind λf' =>
 (idx f'.aq.a' bQ.1).bind λh9 =>
 ((bif !decide (aw.Tag={ data:=#[] }) then
 ((bif !decide (h9.Tag={ data:=#[] }) then some (!decide (h9.Tag=aw.Tag)) else some false)).bind λnQ =>
 ((bif nQ then
 (nH f' a2.At a2.Name).bind λdc =>
 some (⟨(⟨f'.aq.a',dc.aq.bu,dc.aq.ba,dc.aq.bA,dc.aq.bF⟩:b_),dc.bZ,dc.bV,dc.bH,dc.cd,dc.cg,dc.cc,dc.bU,dc.bD⟩:cR)
 else
 some f')).bind λgA =>
 (idx gA.aq.a' bQ.1).bind λhU =>
 some (⟨(⟨gA.aq.a'.set bQ.1.toNat (⟨hU.Name,hU.Lit,hU.c7,hU.Level,hU.fw,aw.Tag⟩:b5),gA.aq.bu,gA.aq.ba,gA.aq.bA,gA.aq.bF⟩:b_),gA.bZ,gA.bV,gA.bH,gA.cd,gA.cg,gA.cc,gA.bU,gA.bD⟩:cR)
 else
 some f')).bind λoJ =>
 some oJ)
def rQ (a0:cR) (aw:ByteArray):Option (Int) :=
 (cS (R:=(Unit) ⊕ (Int)) (λ(s1:Int) =>
 (bif decide (s1<(a0.bH.length:Int)) then
 (idx a0.bH s1).bind λbx =>
 (bif decide (bx=aw) then
 some (.inr (.inr s1))
 else
 some (.inl (aQ (s1+1))))
 else
 some (.inr (.inl ())))) 0).bind λx2 =>
 (match x2 with
 | .inl a_ =>
 some (-1)
 | .inr bE =>
 some bE)
def uk (a0:cR) (aw:Sym):Option (Int × cR) :=
 (bif aw.Lit then
 (x1 a0 aw).bind λx2 =>
 some (x2.1,x2.2)
 else
 (rQ a0 aw.Name).bind λa_ =>
 (bif decide (0<=a_) then
 some (aQ (1001+a_),a0)
 else
 (v_ a0 aw).bind λcq =>
 (bif decide (cq<0) then
 (nH a0 aw.At aw.Name).bind λbz =>
 some (0,bz)
 else
 some (cq,a0))))
def Bj (a0:cR) (aw:ByteArray) (a2:Alt):Option (cR) :=
 (rQ a0 aw).bind λaF =>
 (cS (R:=cR × List Int × ByteArray × Int) (λ(s2:cR × List Int × ByteArray × Int × Int) =>
 (bif decide (s2.2.2.2.2<(a2.jC.length:Int)) then
 ((idx a2.jC s2.2.2.2.2).bind λbz =>
 (((bif decide (bz.Code={ data:=#[] }) then
 (uk s2.1 bz.Sym).bind λb1 =>
 (eS s2.2.1 [b1.1]).bind λdU =>
 some (b1.2,s2.2.1++[b1.1],s2.2.2.1,s2.2.2.2.1)
 else
 ((bif decide (aQ (s2.2.2.2.2+1)=(a2.jC.length:Int)) then
 some (s2.1.aq.ba,s2.1.bD,s2.2.1,bz.Code,bz.At)
 else
 (eS ([]:List Int) s2.2.1).bind λcA =>
 (eS s2.1.aq.ba [(⟨aQ ((s2.1.bH.length:Int)+(aQ (s2.1.bD+1))),([]:List Int),(-1),bz.Code,([]:List Int)++s2.2.1,bz.At⟩:Prod)]).bind λck =>
 (eS s2.2.1 [aQ ((aQ (1000+(s2.1.bH.length:Int)))+(aQ (s2.1.bD+1)))]).bind λb2 =>
 some (s2.1.aq.ba++[(⟨aQ ((s2.1.bH.length:Int)+(aQ (s2.1.bD+1))),([]:List Int),(-1),bz.Code,([]:List Int)++s2.2.1,bz.At⟩:Prod)],aQ (s2.1.bD+1),s2.2.1++[aQ ((aQ (1000+(s2.1.bH.length:Int)))+(aQ (s2.1.bD+1)))],s2.2.2.1,s2.2.2.2.1))).bind λj7 =>
 some ((⟨(⟨s2.1.aq.a',s2.1.aq.bu,j7.1,s2.1.aq.bA,s2.1.aq.bF⟩:b_),s2.1.bZ,s2.1.bV,s2.1.bH,s2.1.cd,s2.1.cg,s2.1.cc,s2.1.bU,j7.2.1⟩:cR),j7.2.2.1,j7.2.2.2.1,j7.2.2.2.2))).bind λpf =>
 some (pf.1,pf.2.1,pf.2.2.1,pf.2.2.2)).bind λfi =>
 some (fi.1,fi.2.1,fi.2.2.1,fi.2.2.2)).bind λkH =>
 some (.inl (kH.1,kH.2.1,kH.2.2.1,kH.2.2.2,aQ (s2.2.2.2.2+1)))
 else
 some (.inr (s2.1,s2.2.1,s2.2.2.1,s2.2.2.2.1)))) (a0,([]:List Int),{ data:=#[] },a2.At,0)).bind λa_ =>
 (cS (R:=Int) (λ(qb:Int × Int) =>
 (bif decide (qb.2<(a_.2.1.length:Int)) then
 ((idx a_.2.1 qb.2).bind λfm =>
 ((bif decide (fm<1000) then
 (idx a_.2.1 qb.2).bind λiM =>
 some iM
 else
 some qb.1)).bind λAp =>
 some Ap).bind λqZ =>
 some (.inl (qZ,aQ (qb.2+1)))
 else
 some (.inr qb.1))) ((-1),0)).bind λeD =>
 ((bif !decide (a2.Prec.Name={ data:=#[] }) then
 ((bif a2.Prec.Lit then some true else ((rQ a_.1 a2.Prec.Name).bind λgK=>some (decide (gK<0))))).bind λqv =>
 ((bif qv then
 (uk a_.1 a2.Prec).bind λgm =>
 some (gm.2,gm.1)
 else
 (nH a_.1 a2.Prec.At a2.Prec.Name).bind λgS =>
 some (gS,(-1)))).bind λoJ =>
 some (oJ.1,oJ.2)
 else
 some (a_.1,eD))).bind λfz =>
 (eS ([]:List Int) a_.2.1).bind λiA =>
 (eS fz.1.aq.ba [(⟨aQ (1+aF),a_.2.1,fz.2,a_.2.2.1,([]:List Int)++a_.2.1,a_.2.2.2⟩:Prod)]).bind λjK =>
 some (⟨(⟨fz.1.aq.a',fz.1.aq.bu,fz.1.aq.ba++[(⟨aQ (1+aF),a_.2.1,fz.2,a_.2.2.1,([]:List Int)++a_.2.1,a_.2.2.2⟩:Prod)],fz.1.aq.bA,fz.1.aq.bF⟩:b_),fz.1.bZ,fz.1.bV,fz.1.bH,fz.1.cd,fz.1.cg,fz.1.cc,fz.1.bU,fz.1.bD⟩:cR)
def Bk (a0:Int):Option (ByteArray) :=
 ((bif decide (a0<0) then
 some (IntKind.u64.wrap (-(IntKind.u64.wrap a0)))
 else
 some (IntKind.u64.wrap a0))).bind λje =>
 (cS (R:=ByteArray) (λ(dh:Int × ByteArray) =>
 ((bif decide (0<dh.1) then some true else some (decide (dh.2={ data:=#[] })))).bind λo4 =>
 (bif o4 then
 (s3 dh.1 10).bind λcF =>
 (sd (strOfNums [uF (IntKind.u64.wrap (48+cF))]) dh.2).bind λbQ =>
 (sX dh.1 10).bind λb1 =>
 some (.inl (b1,bQ))
 else
 some (.inr dh.2))) (je,{ data:=#[] })).bind λbE =>
 (bif decide (a0<0) then
 (sd ({ data:=#[45] }) bE).bind λei =>
 some ei
 else
 some bE)
def A' (a0:Source):Option (b_ × Int × Int × ByteArray) :=
 (Bh a0).bind λaF =>
 (bif !aF then
 some ((⟨([]:List b5),([]:List e2),([]:List Prod),{ data:=#[] },{ data:=#[] }⟩:b_),1,0,{ data:=#[] })
 else
 (p6 3 false).bind λa_ =>
 (cS (R:=cR × ByteArray) (λ(bN:cR × ByteArray × Int) =>
 (bif decide (bN.2.2<(a0.Decls.length:Int)) then
 (idx a0.Decls bN.2.2).bind λb3 =>
 ((bif decide (2<=b3.Kind) then some (decide (b3.Kind<=4)) else some false)).bind λiS =>
 ((bif iS then
 some (aQ (bN.1.bU+1))
 else
 some bN.1.bU)).bind λhf =>
 (cS (R:=cR × ByteArray) (λ(eA:cR × ByteArray × Int) =>
 (bif decide (eA.2.2<(b3.fo.length:Int)) then
 ((bif !decide (b3.Kind=6) then
 (idx b3.fo eA.2.2).bind λeD =>
 (Bi eA.1 b3 eD).bind λc0 =>
 some (c0,eA.2.1)
 else
 ((bif !decide (eA.2.1={ data:=#[] }) then
 (idx b3.fo eA.2.2).bind λfm =>
 (idx b3.fo eA.2.2).bind λgr =>
 (nH eA.1 fm.At gr.Name).bind λeQ =>
 some eQ
 else
 some eA.1)).bind λoI =>
 (idx b3.fo eA.2.2).bind λiM =>
 some (oI,iM.Name))).bind λAo =>
 some (.inl (Ao.1,Ao.2,aQ (eA.2.2+1)))
 else
 some (.inr (eA.1,eA.2.1)))) ((⟨bN.1.aq,bN.1.bZ,bN.1.bV,bN.1.bH,bN.1.cd,bN.1.cg,bN.1.cc,hf,bN.1.bD⟩:cR),bN.2.1,0)).bind λeo =>
 some (.inl (eo.1,eo.2,aQ (bN.2.2+1)))
 else
 some (.inr (bN.1,bN.2.1)))) ((⟨(⟨[(⟨{ data:=#[36,101,110,100] },false,0,0,0,{ data:=#[] }⟩:b5),(⟨{ data:=#[101,114,114,111,114] },false,(-1),0,0,{ data:=#[] }⟩:b5),(⟨{ data:=#[36,117,110,107] },false,(-1),0,0,{ data:=#[] }⟩:b5)],[],[],{ data:=#[] },{ data:=#[] }⟩:b_),a_,[],[],0,0,{ data:=#[] },0,0⟩:cR),{ data:=#[] },0)).bind λcq =>
 (cS (R:=cR) (λ(l':cR × Int) =>
 (bif decide (l'.2<(a0.eG.length:Int)) then
 ((idx a0.eG l'.2).bind λd_ =>
 (v_ l'.1 (⟨d_.Left,false,0,0⟩:Sym)).bind λmf =>
 ((bif decide (0<=mf) then
 (nH l'.1 d_.At d_.Left).bind λiA =>
 some iA
 else
 some l'.1)).bind λfF =>
 (rQ fF d_.Left).bind λjK =>
 ((bif decide (jK<0) then
 (eS fF.bH [d_.Left]).bind λr0 =>
 some (fF.bH++[d_.Left])
 else
 some fF.bH)).bind λGO =>
 some (⟨fF.aq,fF.bZ,fF.bV,GO,fF.cd,fF.cg,fF.cc,fF.bU,fF.bD⟩:cR)).bind λvB =>
 some (.inl (vB,aQ (l'.2+1)))
 else
 some (.inr l'.1))) (cq.1,0)).bind λcV =>
 (cS (R:=cR) (λ(mM:cR × Int) =>
 (bif decide (mM.2<(a0.Decls.length:Int)) then
 (cS (R:=cR) (λ(ma:cR × Int) =>
 (idx a0.Decls mM.2).bind λBG =>
 (bif decide (ma.2<(BG.fo.length:Int)) then
 ((idx a0.Decls mM.2).bind λta =>
 (idx ta.fo ma.2).bind λiY =>
 (((idx a0.Decls mM.2).bind λyu=>(bif decide (5<=yu.Kind) then ((rQ ma.1 iY.Name).bind λkp=>some (decide (kp<0))) else some false))).bind λEl =>
 ((bif El then
 (nH ma.1 iY.At iY.Name).bind λoe =>
 some oe
 else
 some ma.1)).bind λGS =>
 some GS).bind λGR =>
 some (.inl (GR,aQ (ma.2+1)))
 else
 some (.inr ma.1))) (mM.1,0)).bind λmS =>
 some (.inl (mS,aQ (mM.2+1)))
 else
 some (.inr mM.1))) (cV,0)).bind λbR =>
 ((bif decide (cq.2={ data:=#[] }) then
 (idx a0.eG 0).bind λuG =>
 some uG.Left
 else
 some cq.2)).bind λvD =>
 (rQ bR vD).bind λh_ =>
 (cS (R:=cR) (λ(nI:cR × Int) =>
 (bif decide (nI.2<(a0.eG.length:Int)) then
 (cS (R:=cR) (λ(py:cR × Int) =>
 (idx a0.eG nI.2).bind λBH =>
 (bif decide (py.2<(BH.fU.length:Int)) then
 (idx a0.eG nI.2).bind λyw =>
 (idx a0.eG nI.2).bind λHY =>
 (idx HY.fU py.2).bind λra =>
 (Bj py.1 yw.Left ra).bind λjy =>
 some (.inl (jy,aQ (py.2+1)))
 else
 some (.inr py.1))) (nI.1,0)).bind λkq =>
 some (.inl (kq,aQ (nI.2+1)))
 else
 some (.inr nI.1))) ((⟨(⟨bR.aq.a',bR.aq.bu,[(⟨0,[aQ (1001+h_)],(-1),{ data:=#[] },([]:List Int),0⟩:Prod)],bR.aq.bA,bR.aq.bF⟩:b_),bR.bZ,bR.bV,bR.bH,bR.cd,bR.cg,bR.cc,bR.bU,bR.bD⟩:cR),0)).bind λa7 =>
 (bif !decide (a7.cd=0) then
 some ((⟨([]:List b5),([]:List e2),([]:List Prod),{ data:=#[] },{ data:=#[] }⟩:b_),a7.cd,a7.cg,a7.cc)
 else
 (cS (R:=List e2) (λ(mN:List e2 × Int) =>
 (bif decide (mN.2<(a7.bH.length:Int)) then
 (idx a7.bH mN.2).bind λmg =>
 (ye (⟨(⟨a7.aq.a',mN.1,a7.aq.ba,a7.aq.bA,a7.aq.bF⟩:b_),a7.bZ,a7.bV,a7.bH,a7.cd,a7.cg,a7.cc,a7.bU,a7.bD⟩:cR) mg).bind λwC =>
 ((bif decide (0<=wC) then
 (idx a7.bV wC).bind λDK =>
 some DK.Tag
 else
 some ({ data:=#[] }))).bind λp3 =>
 (eS mN.1 [(⟨mg,p3⟩:e2)]).bind λM_ =>
 some (.inl (mN.1++[(⟨mg,p3⟩:e2)],aQ (mN.2+1)))
 else
 some (.inr mN.1))) ([(⟨{ data:=#[36,97,99,99,101,112,116] },{ data:=#[] }⟩:e2)],0)).bind λwB =>
 (cS (R:=List e2) (λ(n':List e2 × Int) =>
 (bif decide (n'.2<=a7.bD) then
 (Bk n'.2).bind λDL =>
 (sd ({ data:=#[64] }) DL).bind λrb =>
 (eS n'.1 [(⟨rb,{ data:=#[] }⟩:e2)]).bind λM' =>
 some (.inl (n'.1++[(⟨rb,{ data:=#[] }⟩:e2)],aQ (n'.2+1)))
 else
 some (.inr n'.1))) (wB,1)).bind λjh =>
 (cS (R:=List b5) (λ(iK:List b5 × Int × Int) =>
 (bif decide (iK.2.2<(iK.1.length:Int)) then
 ((idx a7.bZ iK.2.2).bind λHT =>
 ((bif !HT then
 (idx iK.1 iK.2.2).bind λlC =>
 some (iK.1.set iK.2.2.toNat (⟨lC.Name,lC.Lit,iK.2.1,lC.Level,lC.fw,lC.Tag⟩:b5),aQ (iK.2.1+1))
 else
 some (iK.1,iK.2.1))).bind λAn =>
 some (An.1,An.2)).bind λAr =>
 some (.inl (Ar.1,Ar.2,aQ (iK.2.2+1)))
 else
 some (.inr iK.1))) (a7.aq.a',57346,3)).bind λkL =>
 ((bif decide (40<(kL.length:Int)) then some true else (bif decide (24<(jh.length:Int)) then some true else some (decide (60<(a7.aq.ba.length:Int)))))).bind λrq =>
 (cS (R:=Bool) (λ(rT:Bool × Int) =>
 (bif decide (rT.2<(a7.aq.ba.length:Int)) then
 ((bif rT.1 then some true else ((idx a7.aq.ba rT.2).bind λHU=>some (decide (8<(HU.fx.length:Int)))))).bind λEg =>
 some (.inl (Eg,aQ (rT.2+1)))
 else
 some (.inr rT.1))) (rq,0)).bind λBE =>
 (bif BE then
 some ((⟨([]:List b5),([]:List e2),([]:List Prod),{ data:=#[] },{ data:=#[] }⟩:b_),4,0,{ data:=#[] })
 else
 some ((⟨kL,jh,a7.aq.ba,a0.bA,a0.bF⟩:b_),0,0,{ data:=#[] }))))
def A4 (a0:Source):Option (b_ × Bool) :=
 (A' a0).bind λaF =>
 some (aF.1,decide (aF.2.1=0))
def pq (a0:(List Int)) (aw:Int):Option ((List Int)) :=
 (cS (R:=Int) (λ(s1:Int) =>
 ((bif decide (0<s1) then ((idx a0 (aQ (s1 - 1))).bind λcq=>some (decide (aw<cq))) else some false)).bind λsb =>
 (bif sb then
 some (.inl (aQ (s1 - 1)))
 else
 some (.inr s1))) (a0.length:Int)).bind λx2 =>
 ((bif decide (0<x2) then ((idx a0 (aQ (x2 - 1))).bind λcF=>some (decide (cF=aw))) else some false)).bind λiS =>
 (bif iS then
 some a0
 else
 (qh a0 0 x2).bind λdU =>
 (eS ([]:List Int) dU).bind λei =>
 (eS (([]:List Int)++dU) [aw]).bind λeo =>
 (qh a0 x2 a0.length).bind λcA =>
 (eS ((([]:List Int)++dU)++[aw]) cA).bind λck =>
 some ((([]:List Int)++dU)++[aw]++cA))
def yb (a0:(List Int)) (aw:Int):Option (Bool) :=
 (cS (R:=(Unit) ⊕ (Bool)) (λ(s1:Int) =>
 (bif decide (s1<(a0.length:Int)) then
 (idx a0 s1).bind λbx =>
 (bif decide (bx=aw) then
 some (.inr (.inr true))
 else
 some (.inl (aQ (s1+1))))
 else
 some (.inr (.inl ())))) 0).bind λx2 =>
 (match x2 with
 | .inl a_ =>
 some false
 | .inr bE =>
 some bE)
def Ba (a0:b_):Option ((List Int)) :=
 (cS (R:=List Int) (λ(s1:List Int × Int) =>
 (bif decide (s1.2<(a0.a'.length:Int)) then
 (eS s1.1 [s1.2]).bind λcq =>
 some (.inl (s1.1++[s1.2],aQ (s1.2+1)))
 else
 some (.inr s1.1))) (([]:List Int),0)).bind λx2 =>
 (cS (R:=List Int) (λ(cH:List Int × Int) =>
 (bif decide (cH.2<(a0.bu.length:Int)) then
 (eS cH.1 [aQ (1000+cH.2)]).bind λbQ =>
 some (.inl (cH.1++[aQ (1000+cH.2)],aQ (cH.2+1)))
 else
 some (.inr cH.1))) (x2,0)).bind λbz =>
 some bz
structure Item where
 Prod:Int
 dP:Int
 deriving DecidableEq,Inhabited
def xX (a0:b_) (aw:Item):Option (Bool) :=
 ((bif decide (0<=aw.Prod) then (bif decide (aw.Prod<(a0.ba.length:Int)) then (bif decide (0<=aw.dP) then ((idx a0.ba aw.Prod).bind λbE=>some (decide (aw.dP<=(bE.fx.length:Int)))) else some false) else some false) else some false)).bind λkA =>
 some kA
def v8 (a0:b_) (aw:Item):Option (Int) :=
 (((xX a0 aw).bind λaF=>(bif !aF then some true else ((idx a0.ba aw.Prod).bind λa_=>some (decide (aw.dP=(a_.fx.length:Int))))))).bind λc4 =>
 (bif c4 then
 some (-1)
 else
 (idx a0.ba aw.Prod).bind λbx =>
 (idx bx.fx aw.dP).bind λbz =>
 some bz)
def dw:cD Item:=⟨2,λx=>[j x.Prod,j x.dP],λ_=>rfl,λ_=>e0.bK⟩
instance:Flat dw:=⟨λ_=>rfl⟩
instance:lV dw:=⟨λx=>(inferInstance:jL [j x.Prod,j x.dP])⟩
instance:g_ dw dw:=⟨rfl,λx=>(inferInstance:dV [j x.Prod,j x.dP] [j x.Prod,j x.dP])⟩
def vR (a0:(List Item)) (aw:Item):Option ((List Item)) :=
 (cS (R:=Int) (λ(s1:Int) =>
 ((bif decide (0<s1) then ((idx a0 (aQ (s1 - 1))).bind λcq=>(bif decide (aw.Prod<cq.Prod) then some true else ((idx a0 (aQ (s1 - 1))).bind λbz=>(bif decide (bz.Prod=aw.Prod) then ((idx a0 (aQ (s1 - 1))).bind λcF=>some (decide (aw.dP<cF.dP))) else some false)))) else some false)).bind λiS =>
 (bif iS then
 some (.inl (aQ (s1 - 1)))
 else
 some (.inr s1))) (a0.length:Int)).bind λx2 =>
 ((bif decide (0<x2) then ((idx a0 (aQ (x2 - 1))).bind λei=>some (decide (ei.Prod=aw.Prod)&&(decide (ei.dP=aw.dP)&&true))) else some false)).bind λqt =>
 (bif qt then
 some a0
 else
 (qh a0 0 x2).bind λck =>
 (eS ([]:List Item) ck).bind λb2 =>
 (eS (([]:List Item)++ck) [aw]).bind λeZ =>
 (qh a0 x2 a0.length).bind λeD =>
 (eS ((([]:List Item)++ck)++[aw]) eD).bind λc0 =>
 some ((([]:List Item)++ck)++[aw]++eD))
def AK (a0:b_) (aw:(List Item)):Option ((List Item)) :=
 (cS (R:=List Item) (λ(s1:List Item × Int) =>
 (bif decide (s1.2<(aw.length:Int)) then
 ((idx aw s1.2).bind λbx =>
 (xX a0 bx).bind λbz =>
 ((bif bz then
 (idx aw s1.2).bind λbQ =>
 (vR s1.1 bQ).bind λb1 =>
 some b1
 else
 some s1.1)).bind λfi =>
 some fi).bind λl6 =>
 some (.inl (l6,aQ (s1.2+1)))
 else
 some (.inr s1.1))) (([]:List Item),0)).bind λx2 =>
 some x2
def v7 (a0:b_) (aw:(List Item)):Option ((List Item)) :=
 (AK a0 aw).bind λaF =>
 (cS (R:=List Item) (λ(s2:List Item × Int) =>
 (bif !decide (s2.2=(s2.1.length:Int)) then
 (((cS (R:=List Item) (λ(cI:List Item × Int) =>
 (bif decide (cI.2<(s2.1.length:Int)) then
 (idx cI.1 cI.2).bind λdU =>
 (v8 a0 dU).bind λei =>
 (cS (R:=List Item) (λ(ij:List Item × Int) =>
 ((bif decide (ij.2<(a0.ba.length:Int)) then some (decide (1000<=ei)) else some false)).bind λqu =>
 (bif qu then
 ((idx a0.ba ij.2).bind λc8 =>
 ((bif decide (c8.Left=aQ (ei - 1000)) then
 (vR ij.1 (⟨ij.2,0⟩:Item)).bind λgr =>
 some gr
 else
 some ij.1)).bind λqZ =>
 some qZ).bind λvA =>
 some (.inl (vA,aQ (ij.2+1)))
 else
 some (.inr ij.1))) (cI.1,0)).bind λcA =>
 (bif !decide ((cA.length:Int)=(s2.1.length:Int)) then
 some (.inr cA)
 else
 some (.inl (cA,aQ (cI.2+1))))
 else
 some (.inr cI.1))) (s2.1,0)).bind λcF =>
 some cF).bind λn3 =>
 some (n3,(s2.1.length:Int))).bind λkH =>
 some (.inl (kH.1,kH.2))
 else
 some (.inr s2.1))) (aF,(-1))).bind λa_ =>
 some a_
def Bb (a0:b_) (aw:(List Item)) (a2:Int):Option ((List Item)) :=
 (v7 a0 aw).bind λaF =>
 (cS (R:=List Item) (λ(s2:List Item × Int) =>
 (bif decide (s2.2<(aF.length:Int)) then
 ((idx aF s2.2).bind λbz =>
 (v8 a0 bz).bind λb3 =>
 ((bif decide (0<=b3) then some (decide (b3=a2)) else some false)).bind λiS =>
 ((bif iS then
 (idx aF s2.2).bind λei =>
 (idx aF s2.2).bind λeo =>
 (vR s2.1 (⟨ei.Prod,aQ (eo.dP+1)⟩:Item)).bind λcA =>
 some cA
 else
 some s2.1)).bind λhf =>
 some hf).bind λkH =>
 some (.inl (kH,aQ (s2.2+1)))
 else
 some (.inr s2.1))) (([]:List Item),0)).bind λa_ =>
 some a_
def AL (a0:(List Item)) (aw:(List Item)):Option (Bool) :=
 (bif !decide ((a0.length:Int)=(aw.length:Int)) then
 some false
 else
 (cS (R:=(Unit) ⊕ (Bool)) (λ(s2:Int) =>
 (bif decide (s2<(a0.length:Int)) then
 (idx a0 s2).bind λbz =>
 (idx aw s2).bind λb3 =>
 (bif !(decide (bz.Prod=b3.Prod)&&(decide (bz.dP=b3.dP)&&true)) then
 some (.inr (.inr false))
 else
 some (.inl (aQ (s2+1))))
 else
 some (.inr (.inl ())))) 0).bind λa_ =>
 (match a_ with
 | .inl bE =>
 some true
 | .inr cq =>
 some cq))
structure Move where
 Sym:Int
 jW:Int
 deriving DecidableEq,Inhabited
structure State where
 Kernel:(List Item)
 e':(List Move)
 deriving DecidableEq,Inhabited
def kY:cD Move:=⟨2,λx=>[j x.Sym,j x.jW],λ_=>rfl,λ_=>e0.bK⟩
instance:Flat kY:=⟨λ_=>rfl⟩
instance:lV kY:=⟨λx=>(inferInstance:jL [j x.Sym,j x.jW])⟩
instance:g_ kY kY:=⟨rfl,λx=>(inferInstance:dV [j x.Sym,j x.jW] [j x.Sym,j x.jW])⟩
def cP:cD State:=⟨2,λx=>[ah dw x.Kernel,ah kY x.e'],λ_=>rfl,λ_=>e0.bK⟩
instance:Flat cP:=⟨λ_=>rfl⟩
instance:g_ cP cP:=⟨rfl,λx=>(inferInstance:dV [ah dw x.Kernel,ah kY x.e'] [ah dw x.Kernel,ah kY x.e'])⟩
def Bc (a0:(List State)) (aw:(List Item)):Option (Int) :=
 (cS (R:=(Unit) ⊕ (Int)) (λ(s1:Int) =>
 (bif decide (s1<(a0.length:Int)) then
 (idx a0 s1).bind λbx =>
 (AL bx.Kernel aw).bind λbz =>
 (bif bz then
 some (.inr (.inr s1))
 else
 some (.inl (aQ (s1+1))))
 else
 some (.inr (.inl ())))) 0).bind λx2 =>
 (match x2 with
 | .inl a_ =>
 some (-1)
 | .inr bE =>
 some bE)
def gy:cD State:=⟨2,λx=>[ah dw x.Kernel,ak kY x.e'],λ_=>rfl,λ_=>e0.bK⟩
instance:g_ gy cP:=⟨rfl,λx=>(inferInstance:dV [ah dw x.Kernel,ak kY x.e'] [ah dw x.Kernel,ah kY x.e'])⟩
def A5 (a0:b_):Option ((List State) × Int) :=
 (Ba a0).bind λaF =>
 (cS (R:=(List State) ⊕ (List State × Int)) (λ(s2:List State × Int) =>
 (bif decide (s2.2<(s2.1.length:Int)) then
 (idx s2.1 s2.2).bind λbz =>
 (v7 a0 bz.Kernel).bind λb3 =>
 (cS (R:=List Int) (λ(mb:List Int × Int) =>
 (bif decide (mb.2<(b3.length:Int)) then
 ((idx b3 mb.2).bind λeo =>
 (v8 a0 eo).bind λcA =>
 ((bif decide (0<=cA) then
 (pq mb.1 cA).bind λeZ =>
 some eZ
 else
 some mb.1)).bind λni =>
 some ni).bind λj7 =>
 some (.inl (j7,aQ (mb.2+1)))
 else
 some (.inr mb.1))) (([]:List Int),0)).bind λbQ =>
 (cS (R:=(List State) ⊕ (List State × Int)) (λ(dx:List State × Int) =>
 (bif decide (dx.2<(aF.length:Int)) then
 (idx aF dx.2).bind λgr =>
 (yb bQ gr).bind λeQ =>
 (bif !eQ then
 some (.inl (dx.1,aQ (dx.2+1)))
 else
 (idx dx.1 s2.2).bind λgg =>
 (idx aF dx.2).bind λcV =>
 (Bb a0 gg.Kernel cV).bind λeJ =>
 (Bc dx.1 eJ).bind λgK =>
 (bif decide (gK<0) then
 (bif decide ((dx.1.length:Int)=150) then
 some (.inr (.inr (([]:List State),4)))
 else
 (eS dx.1 [(⟨eJ,([]:List Move)⟩:State)]).bind λmf =>
 (idx (dx.1++[(⟨eJ,([]:List Move)⟩:State)]) s2.2).bind λgm =>
 (idx aF dx.2).bind λgS =>
 (eS gm.e' [(⟨gS,(dx.1.length:Int)⟩:Move)]).bind λiA =>
 some (.inl ((dx.1++[(⟨eJ,([]:List Move)⟩:State)]).set s2.2.toNat (⟨gm.Kernel,gm.e'++[(⟨gS,(dx.1.length:Int)⟩:Move)]⟩:State),aQ (dx.2+1))))
 else
 (idx dx.1 s2.2).bind λjK =>
 (idx aF dx.2).bind λdc =>
 (eS jK.e' [(⟨dc,gK⟩:Move)]).bind λhU =>
 some (.inl (dx.1.set s2.2.toNat (⟨jK.Kernel,jK.e'++[(⟨dc,gK⟩:Move)]⟩:State),aQ (dx.2+1)))))
 else
 some (.inr (.inl dx.1)))) (s2.1,0)).bind λc0 =>
 (match c0 with
 | .inl c8 =>
 some (.inl (c8,aQ (s2.2+1)))
 | .inr gf =>
 some (.inr (.inr (gf.1,gf.2))))
 else
 some (.inr (.inl s2.1)))) ([(⟨[(⟨0,0⟩:Item)],([]:List Move)⟩:State)],0)).bind λa_ =>
 (match a_ with
 | .inl bE =>
 some (bE,0)
 | .inr cq =>
 some (cq.1,cq.2))
def A0 (a0:Source):Option (b_ × (List State) × Bool) :=
 (A4 a0).bind λaF =>
 (bif !aF.2 then
 some (aF.1,([]:List State),false)
 else
 (A5 aF.1).bind λa_ =>
 some (aF.1,a_.1,decide (a_.2=0)))
def p9 (a0:(List State)) (aw:Int) (a2:Int):Option (Int) :=
 (cS (R:=(Unit) ⊕ (Int)) (λ(s1:Int) =>
 ((bif decide (0<=aw) then (bif decide (aw<(a0.length:Int)) then ((idx a0 aw).bind λbz=>some (decide (s1<(bz.e'.length:Int)))) else some false) else some false)).bind λsc =>
 (bif sc then
 (idx a0 aw).bind λbQ =>
 (idx bQ.e' s1).bind λb1 =>
 (bif decide (b1.Sym=a2) then
 (idx a0 aw).bind λei =>
 (idx ei.e' s1).bind λeo =>
 some (.inr (.inr eo.jW))
 else
 some (.inl (aQ (s1+1))))
 else
 some (.inr (.inl ())))) 0).bind λx2 =>
 (match x2 with
 | .inl a_ =>
 some (-1)
 | .inr bE =>
 some bE)
structure Cell where
 State:Int
 b5:Int
 jm:Int
 kM:Bool
 ba:(List Int)
 deriving DecidableEq,Inhabited
def fa:cD Cell:=⟨5,λx=>[j x.State,j x.b5,j x.jm,a1 x.kM,ah aI x.ba],λ_=>rfl,λ_=>e0.bK⟩
instance:Flat fa:=⟨λ_=>rfl⟩
instance:g_ fa fa:=⟨rfl,λx=>(inferInstance:dV [j x.State,j x.b5,j x.jm,a1 x.kM,ah aI x.ba] [j x.State,j x.b5,j x.jm,a1 x.kM,ah aI x.ba])⟩
instance {x:Cell}:dV (fa.cells x) [j x.State,j x.b5,j x.jm,a1 x.kM,ah aI x.ba]:=(inferInstance:dV [j x.State,j x.b5,j x.jm,a1 x.kM,ah aI x.ba] [j x.State,j x.b5,j x.jm,a1 x.kM,ah aI x.ba])
def ya (a0:Cell):Option (Int) :=
 ((bif decide (0<=a0.jm) then
 some (aQ ((a0.ba.length:Int)+1))
 else
 some (a0.ba.length:Int))).bind λje =>
 ((bif a0.kM then
 some (aQ (je+1))
 else
 some je)).bind λdG =>
 some dG
structure jV where
 State:Int
 Prod:Int
 a':(List Int)
 deriving DecidableEq,Inhabited
def hN:cD jV:=⟨3,λx=>[j x.State,j x.Prod,ah aI x.a'],λ_=>rfl,λ_=>e0.bK⟩
instance:Flat hN:=⟨λ_=>rfl⟩
instance:g_ hN hN:=⟨rfl,λx=>(inferInstance:dV [j x.State,j x.Prod,ah aI x.a'] [j x.State,j x.Prod,ah aI x.a'])⟩
instance {x:jV}:dV (hN.cells x) [j x.State,j x.Prod,ah aI x.a']:=(inferInstance:dV [j x.State,j x.Prod,ah aI x.a'] [j x.State,j x.Prod,ah aI x.a'])
def A1 (a0:b_) (aw:(List State)) (a2:(List jV)):Option ((List Cell)) :=
 (cS (R:=List Cell) (λ(s1:List Cell × Int) =>
 (bif decide (s1.2<(aw.length:Int)) then
 (cS (R:=List Cell) (λ(cG:List Cell × Int) =>
 (bif decide (cG.2<(a0.a'.length:Int)) then
 ((p9 aw s1.2 cG.2).bind λbQ =>
 (cS (R:=Bool) (λ(ka:Bool × Int) =>
 (idx aw s1.2).bind λeo =>
 (bif decide (ka.2<(eo.Kernel.length:Int)) then
 (idx aw s1.2).bind λck =>
 (idx ck.Kernel ka.2).bind λb2 =>
 ((bif ka.1 then some true else (bif decide (cG.2=0) then (bif decide (b2.Prod=0) then some (decide (b2.dP=1)) else some false) else some false))).bind λrr =>
 some (.inl (rr,aQ (ka.2+1)))
 else
 some (.inr ka.1))) (false,0)).bind λdU =>
 (cS (R:=List Int) (λ(fQ:List Int × Int) =>
 (bif decide (fQ.2<(a2.length:Int)) then
 ((((idx a2 fQ.2).bind λgg=>(bif decide (gg.State=s1.2) then ((idx a2 fQ.2).bind λeJ=>((yb eJ.a' cG.2).bind λgK=>some gK)) else some false))).bind λqv =>
 ((bif qv then
 (idx a2 fQ.2).bind λgm =>
 (pq fQ.1 gm.Prod).bind λgS =>
 some gS
 else
 some fQ.1)).bind λoJ =>
 some oJ).bind λek =>
 some (.inl (ek,aQ (fQ.2+1)))
 else
 some (.inr fQ.1))) (([]:List Int),0)).bind λfm =>
 (ya (⟨s1.2,cG.2,bQ,dU,fm⟩:Cell)).bind λiA =>
 ((bif decide (0<iA) then
 (eS cG.1 [(⟨s1.2,cG.2,bQ,dU,fm⟩:Cell)]).bind λhU =>
 some (cG.1++[(⟨s1.2,cG.2,bQ,dU,fm⟩:Cell)])
 else
 some cG.1)).bind λGN =>
 some GN).bind λpf =>
 some (.inl (pf,aQ (cG.2+1)))
 else
 some (.inr cG.1))) (s1.1,0)).bind λbx =>
 some (.inl (bx,aQ (s1.2+1)))
 else
 some (.inr s1.1))) (([]:List Cell),0)).bind λx2 =>
 some x2
def yc (a0:(List (List Int))) (aw:(List (List Int))):Option ((List (List Int))) :=
 (cS (R:=List (List Int)) (λ(s1:List (List Int) × Bool) =>
 (bif s1.2 then
 (cS (R:=List (List Int) × Bool) (λ(cG:List (List Int) × Bool × Int) =>
 (bif decide (cG.2.2<(cG.1.length:Int)) then
 (idx aw cG.2.2).bind λcF =>
 (idx cG.1 cG.2.2).bind λbQ =>
 (cS (R:=List (List Int)) (λ(ka:List (List Int) × Int) =>
 (bif decide (ka.2<(cF.length:Int)) then
 (cS (R:=List (List Int)) (λ(iX:List (List Int) × Int) =>
 (idx cF ka.2).bind λeZ =>
 (idx iX.1 eZ).bind λeD =>
 (bif decide (iX.2<(eD.length:Int)) then
 (idx iX.1 cG.2.2).bind λc8 =>
 (idx cF ka.2).bind λgf =>
 (idx iX.1 gf).bind λfm =>
 (idx fm iX.2).bind λgr =>
 (pq c8 gr).bind λeQ =>
 some (.inl (iX.1.set cG.2.2.toNat eQ,aQ (iX.2+1)))
 else
 some (.inr iX.1))) (ka.1,0)).bind λck =>
 some (.inl (ck,aQ (ka.2+1)))
 else
 some (.inr ka.1))) (cG.1,0)).bind λdU =>
 ((bif cG.2.1 then some true else ((idx dU cG.2.2).bind λgg=>some (!decide ((gg.length:Int)=(bQ.length:Int)))))).bind λsa =>
 some (.inl (dU,sa,aQ (cG.2.2+1)))
 else
 some (.inr (cG.1,cG.2.1)))) (s1.1,false,0)).bind λbx =>
 some (.inl (bx.1,bx.2))
 else
 some (.inr s1.1))) (a0,true)).bind λx2 =>
 some x2
structure Trans where
 State:Int
 e2:Int
 deriving DecidableEq,Inhabited
def fV:cD Trans:=⟨2,λx=>[j x.State,j x.e2],λ_=>rfl,λ_=>e0.bK⟩
instance:Flat fV:=⟨λ_=>rfl⟩
instance:lV fV:=⟨λx=>(inferInstance:jL [j x.State,j x.e2])⟩
instance:g_ fV fV:=⟨rfl,λx=>(inferInstance:dV [j x.State,j x.e2] [j x.State,j x.e2])⟩
def pr (a0:(List State)):Option ((List Trans)) :=
 (cS (R:=List Trans) (λ(s1:List Trans × Int) =>
 (bif decide (s1.2<(a0.length:Int)) then
 (cS (R:=List Trans) (λ(cG:List Trans × Int) =>
 (idx a0 s1.2).bind λb3 =>
 (bif decide (cG.2<(b3.e'.length:Int)) then
 ((idx a0 s1.2).bind λb1 =>
 (idx b1.e' cG.2).bind λdU =>
 ((bif decide (1000<=dU.Sym) then
 (idx a0 s1.2).bind λcA =>
 (idx cA.e' cG.2).bind λck =>
 (eS cG.1 [(⟨s1.2,ck.Sym⟩:Trans)]).bind λb2 =>
 some (cG.1++[(⟨s1.2,ck.Sym⟩:Trans)])
 else
 some cG.1)).bind λj7 =>
 some j7).bind λj6 =>
 some (.inl (j6,aQ (cG.2+1)))
 else
 some (.inr cG.1))) (s1.1,0)).bind λbx =>
 some (.inl (bx,aQ (s1.2+1)))
 else
 some (.inr s1.1))) (([]:List Trans),0)).bind λx2 =>
 some x2
def AM (a0:(List Item)):Option (Bool) :=
 (cS (R:=(Unit) ⊕ (Bool)) (λ(s1:Int) =>
 (bif decide (s1<(a0.length:Int)) then
 (((idx a0 s1).bind λbx=>(bif decide (bx.Prod=0) then ((idx a0 s1).bind λb3=>some (decide (b3.dP=1))) else some false))).bind λqw =>
 (bif qw then
 some (.inr (.inr true))
 else
 some (.inl (aQ (s1+1))))
 else
 some (.inr (.inl ())))) 0).bind λx2 =>
 (match x2 with
 | .inl a_ =>
 some false
 | .inr bE =>
 some bE)
def Bd (a0:(List State)):Option ((List (List Int))) :=
 (pr a0).bind λaF =>
 (cS (R:=List (List Int)) (λ(s2:List (List Int) × Int) =>
 (bif decide (s2.2<(aF.length:Int)) then
 (idx aF s2.2).bind λbx =>
 (idx aF s2.2).bind λbz =>
 (p9 a0 bx.State bz.e2).bind λb3 =>
 (idx a0 b3).bind λcF =>
 (AM cF.Kernel).bind λbQ =>
 ((bif bQ then
 (eS ([]:List Int) [0]).bind λei =>
 some [0]
 else
 some ([]:List Int))).bind λhf =>
 (cS (R:=List Int) (λ(ij:List Int × Int) =>
 (idx a0 b3).bind λb2 =>
 (bif decide (ij.2<(b2.e'.length:Int)) then
 ((idx a0 b3).bind λc0 =>
 (idx c0.e' ij.2).bind λc8 =>
 ((bif decide (c8.Sym<1000) then
 (idx a0 b3).bind λgr =>
 (idx gr.e' ij.2).bind λeQ =>
 (pq ij.1 eQ.Sym).bind λiM =>
 some iM
 else
 some ij.1)).bind λqZ =>
 some qZ).bind λf' =>
 some (.inl (f',aQ (ij.2+1)))
 else
 some (.inr ij.1))) (hf,0)).bind λcA =>
 (eS s2.1 [cA]).bind λgg =>
 some (.inl (s2.1++[cA],aQ (s2.2+1)))
 else
 some (.inr s2.1))) (([]:List (List Int)),0)).bind λa_ =>
 some a_
def x0 (a0:(List Bool)) (aw:(List Int)):Option (Bool) :=
 (cS (R:=(Unit) ⊕ (Bool)) (λ(s1:Int) =>
 (bif decide (s1<(aw.length:Int)) then
 (((idx aw s1).bind λbx=>(bif decide (bx<1000) then some true else ((idx aw s1).bind λb3=>((idx a0 (aQ (b3 - 1000))).bind λcF=>some (!cF)))))).bind λiS =>
 (bif iS then
 some (.inr (.inr false))
 else
 some (.inl (aQ (s1+1))))
 else
 some (.inr (.inl ())))) 0).bind λx2 =>
 (match x2 with
 | .inl a_ =>
 some true
 | .inr bE =>
 some bE)
def xY (a0:b_):Option ((List Bool)) :=
 (p6 (a0.bu.length:Int) false).bind λaF =>
 (cS (R:=List Bool) (λ(s2:List Bool × Bool) =>
 (bif s2.2 then
 (cS (R:=List Bool × Bool) (λ(cH:List Bool × Bool × Int) =>
 (bif decide (cH.2.2<(a0.ba.length:Int)) then
 ((idx a0.ba cH.2.2).bind λb1 =>
 (((idx cH.1 b1.Left).bind λdU=>(bif !dU then ((x0 cH.1 b1.fx).bind λeo=>some eo) else some false))).bind λr' =>
 ((bif r' then
 (idx cH.1 b1.Left).bind λeZ =>
 some (cH.1.set b1.Left.toNat true,true)
 else
 some (cH.1,cH.2.1))).bind λni =>
 some (ni.1,ni.2)).bind λj6 =>
 some (.inl (j6.1,j6.2,aQ (cH.2.2+1)))
 else
 some (.inr (cH.1,cH.2.1)))) (s2.1,false,0)).bind λbz =>
 some (.inl (bz.1,bz.2))
 else
 some (.inr s2.1))) (aF,true)).bind λa_ =>
 some a_
def xZ (a0:(List Trans)) (aw:Int) (a2:Int):Option (Int) :=
 (cS (R:=(Unit) ⊕ (Int)) (λ(s1:Int) =>
 (bif decide (s1<(a0.length:Int)) then
 (((idx a0 s1).bind λbx=>(bif decide (bx.State=aw) then ((idx a0 s1).bind λb3=>some (decide (b3.e2=a2))) else some false))).bind λqw =>
 (bif qw then
 some (.inr (.inr s1))
 else
 some (.inl (aQ (s1+1))))
 else
 some (.inr (.inl ())))) 0).bind λx2 =>
 (match x2 with
 | .inl a_ =>
 some (-1)
 | .inr bE =>
 some bE)
def Be (a0:b_) (aw:(List State)):Option ((List (List Int))) :=
 (pr aw).bind λaF =>
 (xY a0).bind λx2 =>
 (cS (R:=List (List Int)) (λ(dh:List (List Int) × Int) =>
 (bif decide (dh.2<(aF.length:Int)) then
 (idx aF dh.2).bind λbz =>
 (idx aF dh.2).bind λb3 =>
 (p9 aw bz.State b3.e2).bind λcF =>
 (cS (R:=List Int) (λ(ds:List Int × Int) =>
 (idx aw cF).bind λei =>
 (bif decide (ds.2<(ei.e'.length:Int)) then
 ((idx aw cF).bind λck =>
 (idx ck.e' ds.2).bind λb2 =>
 ((bif decide (1000<=b2.Sym) then ((idx x2 (aQ (b2.Sym - 1000))).bind λeD=>some eD) else some false)).bind λEh =>
 ((bif Eh then
 (xZ aF cF b2.Sym).bind λfm =>
 (pq ds.1 fm).bind λgr =>
 some gr
 else
 some ds.1)).bind λoI =>
 some oI).bind λoH =>
 some (.inl (oH,aQ (ds.2+1)))
 else
 some (.inr ds.1))) (([]:List Int),0)).bind λb1 =>
 (eS dh.1 [b1]).bind λeQ =>
 some (.inl (dh.1++[b1],aQ (dh.2+1)))
 else
 some (.inr dh.1))) (([]:List (List Int)),0)).bind λbE =>
 some bE
def yd (a0:(List State)) (aw:Int) (a2:(List Int)):Option (Int) :=
 (cS (R:=Int) (λ(s1:Int × Int) =>
 ((bif decide (s1.2<(a2.length:Int)) then some (decide (0<=s1.1)) else some false)).bind λkA =>
 (bif kA then
 (idx a2 s1.2).bind λbz =>
 (p9 a0 s1.1 bz).bind λb3 =>
 some (.inl (b3,aQ (s1.2+1)))
 else
 some (.inr s1.1))) (aw,0)).bind λx2 =>
 some x2
def Bf (a0:b_) (aw:(List State)):Option ((List (List Int))) :=
 (pr aw).bind λaF =>
 (xY a0).bind λx2 =>
 (p6 (aF.length:Int) ([]:List Int)).bind λa_ =>
 (cS (R:=List (List Int)) (λ(bN:List (List Int) × Int) =>
 (bif decide (bN.2<(aF.length:Int)) then
 (cS (R:=List (List Int)) (λ(cI:List (List Int) × Int) =>
 (bif decide (cI.2<(a0.ba.length:Int)) then
 ((idx a0.ba cI.2).bind λei =>
 (idx a0.ba cI.2).bind λeo =>
 (idx aF bN.2).bind λcA =>
 (bif !decide (aQ (1000+eo.Left)=cA.e2) then
 some cI.1
 else
 (cS (R:=List (List Int)) (λ(iJ:List (List Int) × Int) =>
 (bif decide (iJ.2<(ei.fx.length:Int)) then
 ((((idx ei.fx iJ.2).bind λgf=>(bif decide (gf<1000) then some true else ((qh ei.fx (aQ (iJ.2+1)) ei.fx.length).bind λgr=>((x0 x2 gr).bind λeQ=>some (!eQ)))))).bind λtv =>
 (bif tv then
 some iJ.1
 else
 (idx aF bN.2).bind λcV =>
 (qh ei.fx 0 iJ.2).bind λeJ =>
 (yd aw cV.State eJ).bind λgK =>
 ((bif decide (0<=gK) then
 (idx ei.fx iJ.2).bind λmf =>
 (xZ aF gK mf).bind λgm =>
 ((bif decide (0<=gm) then
 (idx iJ.1 gm).bind λjK =>
 (pq jK bN.2).bind λdc =>
 some (iJ.1.set gm.toNat dc)
 else
 some iJ.1)).bind λGM =>
 some GM
 else
 some iJ.1)).bind λvB =>
 some vB)).bind λoI =>
 some (.inl (oI,aQ (iJ.2+1)))
 else
 some (.inr iJ.1))) (cI.1,0)).bind λeZ =>
 some eZ)).bind λfr =>
 some (.inl (fr,aQ (cI.2+1)))
 else
 some (.inr cI.1))) (bN.1,0)).bind λcF =>
 some (.inl (cF,aQ (bN.2+1)))
 else
 some (.inr bN.1))) (a_,0)).bind λcq =>
 some cq
def A7 (a0:b_) (aw:(List State)):Option ((List (List Int))) :=
 (Bd aw).bind λaF =>
 (Be a0 aw).bind λx2 =>
 (yc aF x2).bind λa_ =>
 (Bf a0 aw).bind λbE =>
 (yc a_ bE).bind λcq =>
 some cq
def A8 (a0:b_) (aw:(List Item)):Option ((List Int)) :=
 (v7 a0 aw).bind λaF =>
 (cS (R:=List Int) (λ(s2:List Int × Int) =>
 (bif decide (s2.2<(aF.length:Int)) then
 ((((idx aF s2.2).bind λbz=>(bif decide (0<bz.Prod) then ((idx aF s2.2).bind λcF=>((idx aF s2.2).bind λbQ=>((idx a0.ba bQ.Prod).bind λb1=>some (decide (cF.dP=(b1.fx.length:Int)))))) else some false))).bind λqs =>
 ((bif qs then
 (idx aF s2.2).bind λcA =>
 (eS s2.1 [cA.Prod]).bind λck =>
 some (s2.1++[cA.Prod])
 else
 some s2.1)).bind λj7 =>
 some j7).bind λkH =>
 some (.inl (kH,aQ (s2.2+1)))
 else
 some (.inr s2.1))) (([]:List Int),0)).bind λa_ =>
 some a_
def A9 (a0:b_) (aw:(List State)) (a2:Int) (a3:Int):Option ((List Int)) :=
 ((bif decide (a2<0) then some true else (bif decide ((aw.length:Int)<=a2) then some true else (bif decide (a3<1) then some true else some (decide ((a0.ba.length:Int)<=a3)))))).bind λc4 =>
 (bif c4 then
 some ([]:List Int)
 else
 (pr aw).bind λbx =>
 (cS (R:=List Int) (λ(fB:List Int × Int) =>
 (bif decide (fB.2<(bx.length:Int)) then
 ((((idx bx fB.2).bind λdU=>((idx a0.ba a3).bind λei=>(bif decide (dU.e2=aQ (1000+ei.Left)) then ((idx bx fB.2).bind λcA=>((idx a0.ba a3).bind λck=>((yd aw cA.State ck.fx).bind λb2=>some (decide (b2=a2))))) else some false)))).bind λqu =>
 ((bif qu then
 (eS fB.1 [fB.2]).bind λc8 =>
 some (fB.1++[fB.2])
 else
 some fB.1)).bind λf' =>
 some f').bind λhf =>
 some (.inl (hf,aQ (fB.2+1)))
 else
 some (.inr fB.1))) (([]:List Int),0)).bind λb3 =>
 some b3)
def A2 (a0:b_) (aw:(List State)):Option ((List jV)) :=
 (A7 a0 aw).bind λaF =>
 (cS (R:=List jV) (λ(s2:List jV × Int) =>
 (bif decide (s2.2<(aw.length:Int)) then
 (idx aw s2.2).bind λbx =>
 (A8 a0 bx.Kernel).bind λbz =>
 (cS (R:=List jV) (λ(cI:List jV × Int) =>
 (bif decide (cI.2<(bz.length:Int)) then
 (idx bz cI.2).bind λdU =>
 (idx bz cI.2).bind λei =>
 (A9 a0 aw s2.2 ei).bind λeo =>
 (cS (R:=List Int) (λ(iX:List Int × Int) =>
 (bif decide (iX.2<(eo.length:Int)) then
 (cS (R:=List Int) (λ(dx:List Int × Int) =>
 (idx eo iX.2).bind λgf =>
 (idx aF gf).bind λfm =>
 (bif decide (dx.2<(fm.length:Int)) then
 (idx eo iX.2).bind λeQ =>
 (idx aF eQ).bind λiM =>
 (idx iM dx.2).bind λgg =>
 (pq dx.1 gg).bind λcV =>
 some (.inl (cV,aQ (dx.2+1)))
 else
 some (.inr dx.1))) (iX.1,0)).bind λc0 =>
 some (.inl (c0,aQ (iX.2+1)))
 else
 some (.inr iX.1))) (([]:List Int),0)).bind λck =>
 (eS cI.1 [(⟨s2.2,dU,ck⟩:jV)]).bind λeJ =>
 some (.inl (cI.1++[(⟨s2.2,dU,ck⟩:jV)],aQ (cI.2+1)))
 else
 some (.inr cI.1))) (s2.1,0)).bind λcF =>
 some (.inl (cF,aQ (s2.2+1)))
 else
 some (.inr s2.1))) (([]:List jV),0)).bind λa_ =>
 some a_
def AV (a0:Source):Option (b_ × (List State) × (List Cell) × Bool) :=
 (A0 a0).bind λaF =>
 (bif !aF.2.2 then
 some (aF.1,([]:List State),([]:List Cell),false)
 else
 (A2 aF.1 aF.2.1).bind λa_ =>
 (A1 aF.1 aF.2.1 a_).bind λbE =>
 some (aF.1,aF.2.1,bE,true))
def Bg (a0:b_) (aw:Int):Option (Int × Int) :=
 ((bif decide (aw<0) then some true else (bif decide ((a0.ba.length:Int)<=aw) then some true else ((idx a0.ba aw).bind λa_=>some (decide (a_.Prec<0)))))).bind λc4 =>
 (bif c4 then
 some (0,0)
 else
 (idx a0.ba aw).bind λbx =>
 (idx a0.a' bx.Prec).bind λbz =>
 some (bz.Level,bz.fw))
def A_ (a0:b_) (aw:Int) (a2:Int):Option (Int) :=
 (Bg a0 aw).bind λaF =>
 ((bif decide (aF.1=0) then some true else (bif decide (a2<0) then some true else (bif decide ((a0.a'.length:Int)<=a2) then some true else ((idx a0.a' a2).bind λcq=>some (decide (cq.Level=0))))))).bind λsb =>
 (bif sb then
 some 0
 else
 (idx a0.a' a2).bind λb3 =>
 (bif decide (aF.1<b3.Level) then
 some 1
 else
 (bif decide (b3.Level<aF.1) then
 some 2
 else
 (bif decide (b3.fw=1) then
 some 2
 else
 (bif decide (b3.fw=2) then
 some 1
 else
 some 3)))))
structure fH where
 State:Int
 b5:Int
 hI:Int
 Drop:Int
 deriving DecidableEq,Inhabited
def eK:cD fH:=⟨4,λx=>[j x.State,j x.b5,j x.hI,j x.Drop],λ_=>rfl,λ_=>e0.bK⟩
instance:Flat eK:=⟨λ_=>rfl⟩
instance:lV eK:=⟨λx=>(inferInstance:jL [j x.State,j x.b5,j x.hI,j x.Drop])⟩
instance:g_ eK eK:=⟨rfl,λx=>(inferInstance:dV [j x.State,j x.b5,j x.hI,j x.Drop] [j x.State,j x.b5,j x.hI,j x.Drop])⟩
instance {x:fH}:dV (eK.cells x) [j x.State,j x.b5,j x.hI,j x.Drop]:=(inferInstance:dV [j x.State,j x.b5,j x.hI,j x.Drop] [j x.State,j x.b5,j x.hI,j x.Drop])
def x_ (a0:b_) (aw:Cell):Option (Act × (List fH)) :=
 (cS (R:=List fH) (λ(s1:List fH × Int) =>
 (bif decide (s1.2<(aw.ba.length:Int)) then
 (idx aw.ba 0).bind λcq =>
 (idx aw.ba s1.2).bind λbx =>
 (eS s1.1 [(⟨aw.State,aw.b5,cq,bx⟩:fH)]).bind λbz =>
 some (.inl (s1.1++[(⟨aw.State,aw.b5,cq,bx⟩:fH)],aQ (s1.2+1)))
 else
 some (.inr s1.1))) (([]:List fH),1)).bind λx2 =>
 ((bif aw.kM then
 some (3,0)
 else
 some (1,aw.jm))).bind λfi =>
 (bif decide ((aw.ba.length:Int)=0) then
 some ((⟨fi.1,fi.2⟩:Act),x2)
 else
 (idx aw.ba 0).bind λb1 =>
 ((bif decide (aw.jm<0) then some (!aw.kM) else some false)).bind λjX =>
 (bif jX then
 some ((⟨2,b1⟩:Act),x2)
 else
 (A_ a0 b1 aw.b5).bind λcA =>
 ((bif aw.kM then some true else some (decide (cA=0)))).bind λB9 =>
 (bif B9 then
 (eS x2 [(⟨aw.State,aw.b5,(-1),b1⟩:fH)]).bind λeD =>
 some ((⟨fi.1,fi.2⟩:Act),x2++[(⟨aw.State,aw.b5,(-1),b1⟩:fH)])
 else
 (bif decide (cA=2) then
 some ((⟨2,b1⟩:Act),x2)
 else
 (bif decide (cA=3) then
 some ((⟨4,0⟩:Act),x2)
 else
 some ((⟨fi.1,fi.2⟩:Act),x2))))))
structure kv where
 cL:(List (List Act))
 cN:(List (List Int))
 deriving DecidableEq,Inhabited
def ct:cD Act:=⟨2,λx=>[j x.Kind,j x.N],λ_=>rfl,λ_=>e0.bK⟩
instance:Flat ct:=⟨λ_=>rfl⟩
instance:lV ct:=⟨λx=>(inferInstance:jL [j x.Kind,j x.N])⟩
instance:g_ ct ct:=⟨rfl,λx=>(inferInstance:dV [j x.Kind,j x.N] [j x.Kind,j x.N])⟩
def AW (a0:b_) (aw:(List State)) (a2:(List Cell)):Option (kv × (List fH)) :=
 (cS (R:=List (List Act) × List (List Int) × List fH) (λ(s1:List (List Act) × List (List Int) × List fH × Int) =>
 (bif decide (s1.2.2.2<(aw.length:Int)) then
 (p6 (a0.a'.length:Int) (⟨0,0⟩:Act)).bind λcq =>
 (cS (R:=List fH × List Act) (λ(cH:List fH × List Act × Int) =>
 (bif decide (cH.2.2<(a2.length:Int)) then
 ((idx a2 cH.2.2).bind λb1 =>
 ((bif decide (b1.State=s1.2.2.2) then
 (idx a2 cH.2.2).bind λeo =>
 (x_ a0 eo).bind λcA =>
 (idx a2 cH.2.2).bind λck =>
 (idx cH.2.1 ck.b5).bind λb2 =>
 (eS cH.1 cA.2).bind λeZ =>
 some (cH.1++cA.2,cH.2.1.set ck.b5.toNat cA.1)
 else
 some (cH.1,cH.2.1))).bind λfr =>
 some (fr.1,fr.2)).bind λj6 =>
 some (.inl (j6.1,j6.2,aQ (cH.2.2+1)))
 else
 some (.inr (cH.1,cH.2.1)))) (s1.2.2.1,cq,0)).bind λbz =>
 (p6 (a0.bu.length:Int) 0).bind λeD =>
 (cS (R:=List Int) (λ(l_:List Int × Int) =>
 (bif decide (l_.2<(l_.1.length:Int)) then
 (p9 aw s1.2.2.2 (aQ (1000+l_.2))).bind λgr =>
 (idx l_.1 l_.2).bind λeQ =>
 some (.inl (l_.1.set l_.2.toNat gr,aQ (l_.2+1)))
 else
 some (.inr l_.1))) (eD,0)).bind λc8 =>
 (eS s1.1 [bz.2]).bind λiM =>
 (eS s1.2.1 [c8]).bind λgg =>
 some (.inl (s1.1++[bz.2],s1.2.1++[c8],bz.1,aQ (s1.2.2.2+1)))
 else
 some (.inr (s1.1,s1.2.1,s1.2.2.1)))) (([]:List (List Act)),([]:List (List Int)),([]:List fH),0)).bind λx2 =>
 some ((⟨x2.1,x2.2.1⟩:kv),x2.2.2)
def AZ (a0:(List Cell)):Option (Int) :=
 (cS (R:=Int) (λ(s1:Int × Int) =>
 (bif decide (s1.2<(a0.length:Int)) then
 ((idx a0 s1.2).bind λbx =>
 (ya bx).bind λbz =>
 ((bif decide (1<bz) then
 some (aQ (s1.1+1))
 else
 some s1.1)).bind λfi =>
 some fi).bind λl6 =>
 some (.inl (l6,aQ (s1.2+1)))
 else
 some (.inr s1.1))) (0,0)).bind λx2 =>
 some x2
def vX (a0:Source):Option (b_ × kv × Int × Bool) :=
 (AV a0).bind λaF =>
 (bif !aF.2.2.2 then
 some (aF.1,(⟨([]:List (List Act)),([]:List (List Int))⟩:kv),0,false)
 else
 (AW aF.1 aF.2.1 aF.2.2.1).bind λa_ =>
 (AZ aF.2.2.1).bind λbE =>
 some (aF.1,a_.1,bE,true))
structure cQ where
 At:Int
 pN:Int
 deriving DecidableEq,Inhabited
def ew:cD cQ:=⟨2,λx=>[j x.At,j x.pN],λ_=>rfl,λ_=>e0.bK⟩
instance:Flat ew:=⟨λ_=>rfl⟩
instance:lV ew:=⟨λx=>(inferInstance:jL [j x.At,j x.pN])⟩
instance:g_ ew ew:=⟨rfl,λx=>(inferInstance:dV [j x.At,j x.pN] [j x.At,j x.pN])⟩
def Hk (a0:(List cQ)) (aw:(List cQ)):Option (Bool) :=
 (bif !decide ((a0.length:Int)=(aw.length:Int)) then
 some false
 else
 (cS (R:=(Unit) ⊕ (Bool)) (λ(s2:Int) =>
 (bif decide (s2<(a0.length:Int)) then
 (idx a0 s2).bind λbz =>
 (idx aw s2).bind λb3 =>
 (bif !(decide (bz.At=b3.At)&&(decide (bz.pN=b3.pN)&&true)) then
 some (.inr (.inr false))
 else
 some (.inl (aQ (s2+1))))
 else
 some (.inr (.inl ())))) 0).bind λa_ =>
 (match a_ with
 | .inl bE =>
 some true
 | .inr cq =>
 some cq))
structure Row where
 Def:Int
 kg:(List cQ)
 deriving DecidableEq,Inhabited
def eH:cD Row:=⟨2,λx=>[j x.Def,ah ew x.kg],λ_=>rfl,λ_=>e0.bK⟩
instance:Flat eH:=⟨λ_=>rfl⟩
instance:g_ eH eH:=⟨rfl,λx=>(inferInstance:dV [j x.Def,ah ew x.kg] [j x.Def,ah ew x.kg])⟩
def Dm (a0:(List Row)) (aw:(List Row)):Option (Bool) :=
 (bif !decide ((a0.length:Int)=(aw.length:Int)) then
 some false
 else
 (cS (R:=(Unit) ⊕ (Bool)) (λ(s2:Int) =>
 (bif decide (s2<(a0.length:Int)) then
 (((idx a0 s2).bind λbz=>((idx aw s2).bind λb3=>(bif !decide (bz.Def=b3.Def) then some true else ((idx a0 s2).bind λbQ=>((idx aw s2).bind λb1=>((Hk bQ.kg b1.kg).bind λdU=>some (!dU)))))))).bind λjX =>
 (bif jX then
 some (.inr (.inr false))
 else
 some (.inl (aQ (s2+1))))
 else
 some (.inr (.inl ())))) 0).bind λa_ =>
 (match a_ with
 | .inl bE =>
 some true
 | .inr cq =>
 some cq))
def vZ (a0:(List Int)):Option (Int) :=
 (cS (R:=Int) (λ(s1:(List (Int × Int)) × Int × Int) =>
 (bif decide (s1.2.2<(a0.length:Int)) then
 ((idx a0 s1.2.2).bind λbx =>
 (q1 q0 0 s1.1 bx).bind λbz =>
 (xL q0 s1.1 bx (aQ (bz+1))).bind λb3 =>
 (q1 q0 0 b3 bx).bind λcF =>
 (q1 q0 0 b3 s1.2.1).bind λbQ =>
 ((bif decide (s1.2.1<0) then some true else (bif decide (0<aQ (cF - bQ)) then some true else (bif decide (aQ (cF - bQ)=0) then some (decide (bx<s1.2.1)) else some false)))).bind λqt =>
 ((bif qt then
 some bx
 else
 some s1.2.1)).bind λoH =>
 some (b3,oH)).bind λl6 =>
 some (.inl (l6.1,l6.2,aQ (s1.2.2+1)))
 else
 some (.inr s1.2.1))) (([]:List (Int × Int)),(-1),0)).bind λx2 =>
 some x2
def x6 (a0:kv):Option ((List Row)) :=
 (cS (R:=List Row) (λ(s1:List Row × Int) =>
 (bif decide (s1.2<(a0.cL.length:Int)) then
 (idx a0.cL s1.2).bind λcq =>
 (cS (R:=List Int) (λ(cH:List Int × Int) =>
 (bif decide (cH.2<(cq.length:Int)) then
 ((idx cq cH.2).bind λb1 =>
 ((bif decide (b1.Kind=2) then
 (eS cH.1 [b1.N]).bind λeo =>
 some (cH.1++[b1.N])
 else
 some cH.1)).bind λfr =>
 some fr).bind λj6 =>
 some (.inl (j6,aQ (cH.2+1)))
 else
 some (.inr cH.1))) (([]:List Int),0)).bind λbz =>
 (vZ bz).bind λcA =>
 (cS (R:=List cQ) (λ(hg:List cQ × Int) =>
 (bif decide (hg.2<(cq.length:Int)) then
 ((idx cq hg.2).bind λc8 =>
 ((bif !decide (c8.Kind=0) then (bif !decide (c8.Kind=2) then some true else some (!decide (c8.N=cA))) else some false)).bind λtu =>
 ((bif tu then
 (vV c8).bind λgg =>
 (eS hg.1 [(⟨hg.2,gg⟩:cQ)]).bind λcV =>
 some (hg.1++[(⟨hg.2,gg⟩:cQ)])
 else
 some hg.1)).bind λAq =>
 some Aq).bind λvA =>
 some (.inl (vA,aQ (hg.2+1)))
 else
 some (.inr hg.1))) (([]:List cQ),0)).bind λb2 =>
 (eS s1.1 [(⟨cA,b2⟩:Row)]).bind λeJ =>
 some (.inl (s1.1++[(⟨cA,b2⟩:Row)],aQ (s1.2+1)))
 else
 some (.inr s1.1))) (([]:List Row),0)).bind λx2 =>
 some x2
def x7 (a0:kv):Option ((List Row)) :=
 (bif decide ((a0.cN.length:Int)=0) then
 some ([]:List Row)
 else
 (idx a0.cN 0).bind λx2 =>
 (cS (R:=List Row) (λ(dh:List Row × Int) =>
 (bif decide (dh.2<(x2.length:Int)) then
 (cS (R:=List Int) (λ(fB:List Int × Int) =>
 (bif decide (fB.2<(a0.cN.length:Int)) then
 ((idx a0.cN fB.2).bind λdU =>
 (idx dU dh.2).bind λei =>
 ((bif decide (0<=ei) then
 (idx dU dh.2).bind λck =>
 (eS fB.1 [ck]).bind λb2 =>
 some (fB.1++[ck])
 else
 some fB.1)).bind λdr =>
 some dr).bind λhf =>
 some (.inl (hf,aQ (fB.2+1)))
 else
 some (.inr fB.1))) (([]:List Int),0)).bind λb3 =>
 (vZ b3).bind λeZ =>
 (cS (R:=List cQ) (λ(dx:List cQ × Int) =>
 (bif decide (dx.2<(a0.cN.length:Int)) then
 ((idx a0.cN dx.2).bind λgr =>
 (((idx gr dh.2).bind λeQ=>(bif decide (0<=eQ) then ((idx gr dh.2).bind λgg=>some (!decide (gg=eZ))) else some false))).bind λsa =>
 ((bif sa then
 (idx gr dh.2).bind λh9 =>
 (eS dx.1 [(⟨dx.2,h9⟩:cQ)]).bind λd_ =>
 some (dx.1++[(⟨dx.2,h9⟩:cQ)])
 else
 some dx.1)).bind λsR =>
 some sR).bind λGK =>
 some (.inl (GK,aQ (dx.2+1)))
 else
 some (.inr dx.1))) (([]:List cQ),0)).bind λc0 =>
 (eS dh.1 [(⟨eZ,c0⟩:Row)]).bind λmf =>
 some (.inl (dh.1++[(⟨eZ,c0⟩:Row)],aQ (dh.2+1)))
 else
 some (.inr dh.1))) (([]:List Row),0)).bind λbE =>
 some bE)
def AU :Option (Bool) :=
 (vX (⟨{ data:=#[] },([]:List Decl),[(⟨{ data:=#[101] },[(⟨[(⟨(⟨{ data:=#[101] },false,0,0⟩:Sym),{ data:=#[] },0⟩:Part),(⟨(⟨{ data:=#[43] },true,0,0⟩:Sym),{ data:=#[] },0⟩:Part),(⟨(⟨{ data:=#[120] },true,0,0⟩:Sym),{ data:=#[] },0⟩:Part)],(⟨{ data:=#[] },false,0,0⟩:Sym),0⟩:Alt),(⟨[(⟨(⟨{ data:=#[120] },true,0,0⟩:Sym),{ data:=#[] },0⟩:Part)],(⟨{ data:=#[] },false,0,0⟩:Sym),0⟩:Alt)],0⟩:gk)],{ data:=#[] }⟩:Source)).bind λaF =>
 ((bif aF.2.2.2 then ((x6 aF.2.1).bind λa_=>((Dm a_ [(⟨(-1),[(⟨4,2⟩:cQ)]⟩:Row),(⟨2,([]:List cQ)⟩:Row),(⟨(-1),[(⟨0,20001⟩:cQ),(⟨3,4⟩:cQ)]⟩:Row),(⟨(-1),[(⟨4,5⟩:cQ)]⟩:Row),(⟨1,([]:List cQ)⟩:Row)]).bind λbE=>(bif bE then ((x7 aF.2.1).bind λbx=>((Dm bx [(⟨(-1),([]:List cQ)⟩:Row),(⟨2,([]:List cQ)⟩:Row)]).bind λbz=>(bif bz then ((vV (⟨1,4⟩:Act)).bind λcF=>(bif decide (cF=5) then ((vW (-3)).bind λb1=>some (decide (b1.Kind=2)&&(decide (b1.N=3)&&true))) else some false)) else some false))) else some false))) else some false)).bind λqs =>
 some qs
def um (a0:Int) (aw:Int):Option (Int) :=
 (p' a0 aw).bind λaF =>
 ((bif decide (aF<0) then
 some (aQ (aF+aw))
 else
 some aF)).bind λGJ =>
 some GJ
def lR (a0:Act):Option (Int) :=
 ((bif decide (a0.Kind=1) then (bif decide (0<=a0.N) then some (decide (a0.N<=19999)) else some false) else some false)).bind λkW =>
 (bif kW then
 some (aQ (a0.N+1))
 else
 ((bif decide (a0.Kind=2) then (bif decide (1<=a0.N) then some (decide (a0.N<=19999)) else some false) else some false)).bind λo4 =>
 (bif o4 then
 some (aQ (-a0.N))
 else
 ((bif decide (a0.Kind=3) then some (decide (a0.N=0)) else some false)).bind λiS =>
 (bif iS then
 some 20001
 else
 ((bif decide (a0.Kind=4) then some (decide (a0.N=0)) else some false)).bind λjX =>
 (bif jX then
 some 20002
 else
 some 0))))
def sU (a0:Int):Option (Act) :=
 ((bif decide (1<=a0) then some (decide (a0<=20000)) else some false)).bind λc2 =>
 (bif c2 then
 some (⟨1,aQ (a0 - 1)⟩:Act)
 else
 ((bif decide (a0<=(-1)) then some (decide ((-19999)<=a0)) else some false)).bind λkA =>
 (bif kA then
 some (⟨2,aQ (-a0)⟩:Act)
 else
 (bif decide (a0=20001) then
 some (⟨3,0⟩:Act)
 else
 (bif decide (a0=20002) then
 some (⟨4,0⟩:Act)
 else
 some (⟨0,0⟩:Act)))))
def Hl :Option (ByteArray) :=
 some ({ data:=#[112,113,114,115] })
def uo (a0:Int):Option (Sym) :=
 (Hl ).bind λaF =>
 (p' a0 4).bind λx2 =>
 (p' a0 4).bind λa_ =>
 (u1 aF x2 (aQ (a_+1))).bind λbE =>
 some (⟨bE,true,0,0⟩:Sym)
def kX:cD Decl:=⟨4,λx=>[j x.Kind,ai x.Tag,ak dJ x.fo,j x.At],λ_=>rfl,λ_=>e0.bK⟩
instance:g_ kX de:=⟨rfl,λx=>(inferInstance:dV [j x.Kind,ai x.Tag,ak dJ x.fo,j x.At] [j x.Kind,ai x.Tag,ah dJ x.fo,j x.At])⟩
instance {x:Decl}:dV (kX.cells x) [j x.Kind,ai x.Tag,ah dJ x.fo,j x.At]:=(inferInstance:dV [j x.Kind,ai x.Tag,ak dJ x.fo,j x.At] [j x.Kind,ai x.Tag,ah dJ x.fo,j x.At])
def AX (a0:(List Int)):Option ((List Decl)) :=
 (cS (R:=List Decl) (λ(s1:List Decl × Int) =>
 ((bif decide (s1.2<(a0.length:Int)) then some (decide (s1.2<4)) else some false)).bind λkA =>
 (bif kA then
 ((idx a0 s1.2).bind λb3 =>
 (um b3 8).bind λcF =>
 (p' cF 4).bind λbQ =>
 (bif decide (bQ=0) then
 some s1.1
 else
 ((bif decide (4<cF) then some (decide (0<(s1.1.length:Int))) else some false)).bind λjX =>
 (bif jX then
 (idx s1.1 (aQ ((s1.1.length:Int) - 1))).bind λcA =>
 (uo s1.2).bind λck =>
 (eS cA.fo [ck]).bind λb2 =>
 some (s1.1.set (aQ ((s1.1.length:Int) - 1)).toNat (⟨cA.Kind,cA.Tag,cA.fo++[ck],cA.At⟩:Decl))
 else
 (p' cF 4).bind λeZ =>
 (uo s1.2).bind λeD =>
 (eS s1.1 [(⟨aQ (1+eZ),{ data:=#[] },[eD],0⟩:Decl)]).bind λc0 =>
 some (s1.1++[(⟨aQ (1+eZ),{ data:=#[] },[eD],0⟩:Decl)])))).bind λn3 =>
 some (.inl (n3,aQ (s1.2+1)))
 else
 some (.inr s1.1))) (([]:List Decl),0)).bind λx2 =>
 some x2
def x8 (a0:Int):Option (ByteArray) :=
 some (strOfNums [uF (aQ (97+a0))])
def AY (a0:Int) (aw:Int):Option (Sym) :=
 (um a0 14).bind λaF =>
 (bif decide (aF<5) then
 (p' aF aw).bind λa_ =>
 (x8 a_).bind λbE =>
 some (⟨bE,false,0,0⟩:Sym)
 else
 (bif decide (aF=13) then
 some (⟨{ data:=#[101,114,114,111,114] },false,0,0⟩:Sym)
 else
 (uo (aQ (aF - 5))).bind λbx =>
 some bx))
structure oR where
 bu:Int
 eG:(List (List Int))
 nO:(List Int)
 lT:(List Int)
 pF:Bool
 deriving DecidableEq,Inhabited
def ha:cD oR:=⟨5,λx=>[j x.bu,ah (bg aI) x.eG,ah aI x.nO,ah aI x.lT,a1 x.pF],λ_=>rfl,λ_=>e0.bK⟩
instance:Flat ha:=⟨λ_=>rfl⟩
instance:g_ ha ha:=⟨rfl,λx=>(inferInstance:dV [j x.bu,ah (bg aI) x.eG,ah aI x.nO,ah aI x.lT,a1 x.pF] [j x.bu,ah (bg aI) x.eG,ah aI x.nO,ah aI x.lT,a1 x.pF])⟩
instance {x:oR}:dV (ha.cells x) [j x.bu,ah (bg aI) x.eG,ah aI x.nO,ah aI x.lT,a1 x.pF]:=(inferInstance:dV [j x.bu,ah (bg aI) x.eG,ah aI x.nO,ah aI x.lT,a1 x.pF] [j x.bu,ah (bg aI) x.eG,ah aI x.nO,ah aI x.lT,a1 x.pF])
def eX:cD gk:=⟨3,λx=>[ai x.Left,ak e1 x.fU,j x.At],λ_=>rfl,λ_=>e0.bK⟩
instance:g_ eX ia:=⟨rfl,λx=>(inferInstance:dV [ai x.Left,ak e1 x.fU,j x.At] [ai x.Left,ah e1 x.fU,j x.At])⟩
instance {x:gk}:dV (eX.cells x) [ai x.Left,ah e1 x.fU,j x.At]:=(inferInstance:dV [ai x.Left,ak e1 x.fU,j x.At] [ai x.Left,ah e1 x.fU,j x.At])
def x5 (a0:oR):Option (Source) :=
 (um a0.bu 4).bind λaF =>
 (AX a0.nO).bind λx2 =>
 (p6 (aQ (1+aF)) false).bind λa_ =>
 (cS (R:=List gk) (λ(bN:List gk × Int) =>
 (bif decide (bN.2<aQ (1+aF)) then
 (x8 bN.2).bind λb3 =>
 (eS bN.1 [(⟨b3,([]:List Alt),0⟩:gk)]).bind λcF =>
 some (.inl (bN.1++[(⟨b3,([]:List Alt),0⟩:gk)],aQ (bN.2+1)))
 else
 some (.inr bN.1))) (([]:List gk),0)).bind λcq =>
 (cS (R:=List gk × List Bool) (λ(ds:List gk × List Bool × Int) =>
 ((bif decide (ds.2.2<(a0.eG.length:Int)) then some (decide (ds.2.2<9)) else some false)).bind λqt =>
 (bif qt then
 ((idx a0.eG ds.2.2).bind λb2 =>
 (bif decide ((b2.length:Int)=0) then
 some (ds.1,ds.2.1)
 else
 (idx a0.eG ds.2.2).bind λeD =>
 (idx eD 0).bind λc0 =>
 (um c0 (aQ (1+aF))).bind λc8 =>
 (cS (R:=List Part × Bool) (λ(fQ:List Part × Bool × Int) =>
 (((idx a0.eG ds.2.2).bind λeQ=>(bif decide (fQ.2.2<(eQ.length:Int)) then some (decide (fQ.2.2<5)) else some false))).bind λyY =>
 (bif yY then
 ((idx a0.eG ds.2.2).bind λgK =>
 (idx gK fQ.2.2).bind λh9 =>
 (AY h9 (aQ (1+aF))).bind λd_ =>
 ((bif fQ.2.1 then (bif d_.Lit then some true else some (decide (d_.Name={ data:=#[101,114,114,111,114] }))) else some false)).bind λnQ =>
 (eS fQ.1 [(⟨d_,{ data:=#[] },0⟩:Part)]).bind λiA =>
 ((bif decide (ds.2.2<(a0.lT.length:Int)) then (bif decide (fQ.2.2=1) then ((idx a0.lT ds.2.2).bind λhU=>((p' hU 3).bind λr0=>some (decide (r0=1)))) else some false) else some false)).bind λB_ =>
 ((bif B_ then
 (eS (fQ.1++[(⟨d_,{ data:=#[] },0⟩:Part)]) [(⟨(⟨{ data:=#[] },false,0,0⟩:Sym),{ data:=#[123,36,36,32,61,32,36,49,125] },0⟩:Part)]).bind λq' =>
 some ((fQ.1++[(⟨d_,{ data:=#[] },0⟩:Part)])++[(⟨(⟨{ data:=#[] },false,0,0⟩:Sym),{ data:=#[123,36,36,32,61,32,36,49,125] },0⟩:Part)])
 else
 some (fQ.1++[(⟨d_,{ data:=#[] },0⟩:Part)]))).bind λvC =>
 some (vC,nQ)).bind λsR =>
 some (.inl (sR.1,sR.2,aQ (fQ.2.2+1)))
 else
 some (.inr (fQ.1,fQ.2.1)))) (([]:List Part),true,1)).bind λfm =>
 ((bif decide (ds.2.2<(a0.lT.length:Int)) then ((idx a0.lT ds.2.2).bind λmS=>((p' mS 2).bind λyt=>some (!decide (yt=0)))) else some false)).bind λyZ =>
 ((bif yZ then
 (eS fm.1 [(⟨(⟨{ data:=#[] },false,0,0⟩:Sym),{ data:=#[123,102,40,36,36,41,125] },0⟩:Part)]).bind λta =>
 some (fm.1++[(⟨(⟨{ data:=#[] },false,0,0⟩:Sym),{ data:=#[123,102,40,36,36,41,125] },0⟩:Part)])
 else
 some fm.1)).bind λmH =>
 (((idx ds.2.1 c8).bind λiY=>(bif iY then some (ds.2.1.set c8.toNat true) else some (ds.2.1.set c8.toNat fm.2)))).bind λw7 =>
 (idx ds.1 c8).bind λkp =>
 (eS kp.fU [(⟨mH,(⟨{ data:=#[] },false,0,0⟩:Sym),0⟩:Alt)]).bind λyv =>
 some (ds.1.set c8.toNat (⟨kp.Left,kp.fU++[(⟨mH,(⟨{ data:=#[] },false,0,0⟩:Sym),0⟩:Alt)],kp.At⟩:gk),w7))).bind λni =>
 some (.inl (ni.1,ni.2,aQ (ds.2.2+1)))
 else
 some (.inr (ds.1,ds.2.1)))) (cq,a_,0)).bind λb1 =>
 (cS (R:=List gk) (λ(h7:List gk × Int) =>
 (bif decide (h7.2<aQ (1+aF)) then
 ((((idx h7.1 h7.2).bind λuG=>(bif decide ((uG.fU.length:Int)=0) then some true else ((idx b1.2 h7.2).bind λHX=>(bif !HX then some (!a0.pF) else some false))))).bind λEm =>
 ((bif Em then
 (idx h7.1 h7.2).bind λkq =>
 (uo h7.2).bind λkr =>
 (eS kq.fU [(⟨[(⟨kr,{ data:=#[] },0⟩:Part)],(⟨{ data:=#[] },false,0,0⟩:Sym),0⟩:Alt)]).bind λBH =>
 some (h7.1.set h7.2.toNat (⟨kq.Left,kq.fU++[(⟨[(⟨kr,{ data:=#[] },0⟩:Part)],(⟨{ data:=#[] },false,0,0⟩:Sym),0⟩:Alt)],kq.At⟩:gk))
 else
 some h7.1)).bind λGV =>
 some GV).bind λGU =>
 some (.inl (GU,aQ (h7.2+1)))
 else
 some (.inr h7.1))) (b1.1,0)).bind λoQ =>
 some (⟨{ data:=#[] },x2,oQ,{ data:=#[] }⟩:Source)
def x9 (a0:(List Int)):Option (Int) :=
 (cS (R:=List Int) (λ(s1:List Int × Int) =>
 (bif decide (s1.2<(a0.length:Int)) then
 (idx a0 s1.2).bind λcq =>
 (pq s1.1 cq).bind λbx =>
 some (.inl (bx,aQ (s1.2+1)))
 else
 some (.inr s1.1))) (([]:List Int),0)).bind λx2 =>
 (cS (R:=Int) (λ(fB:Int × Int × Int) =>
 (bif decide (fB.2.2<(x2.length:Int)) then
 ((cS (R:=Int) (λ(yk:Int × Int) =>
 (bif decide (yk.2<(a0.length:Int)) then
 ((idx a0 yk.2).bind λb2 =>
 (idx x2 fB.2.2).bind λeZ =>
 ((bif decide (b2=eZ) then
 some (aQ (yk.1+1))
 else
 some yk.1)).bind λf' =>
 some f').bind λni =>
 some (.inl (ni,aQ (yk.2+1)))
 else
 some (.inr yk.1))) (0,0)).bind λei =>
 ((bif decide (fB.2.1<ei) then
 (idx x2 fB.2.2).bind λfm =>
 some (fm,ei)
 else
 some (fB.1,fB.2.1))).bind λoI =>
 some (oI.1,oI.2)).bind λhf =>
 some (.inl (hf.1,hf.2,aQ (fB.2.2+1)))
 else
 some (.inr fB.1))) ((-1),0,0)).bind λb3 =>
 some b3
def L_ (a0:kv):Option ((List Row)) :=
 (cS (R:=List Row) (λ(s1:List Row × Int) =>
 (bif decide (s1.2<(a0.cL.length:Int)) then
 (cS (R:=List Int) (λ(cG:List Int × Int) =>
 (idx a0.cL s1.2).bind λb3 =>
 (bif decide (cG.2<(b3.length:Int)) then
 ((idx a0.cL s1.2).bind λb1 =>
 (idx b1 cG.2).bind λdU =>
 ((bif decide (dU.Kind=2) then
 (idx a0.cL s1.2).bind λcA =>
 (idx cA cG.2).bind λck =>
 (eS cG.1 [ck.N]).bind λb2 =>
 some (cG.1++[ck.N])
 else
 some cG.1)).bind λj7 =>
 some j7).bind λj6 =>
 some (.inl (j6,aQ (cG.2+1)))
 else
 some (.inr cG.1))) (([]:List Int),0)).bind λbx =>
 (x9 bx).bind λeZ =>
 (cS (R:=List cQ) (λ(dx:List cQ × Int) =>
 (idx a0.cL s1.2).bind λgf =>
 (bif decide (dx.2<(gf.length:Int)) then
 ((idx a0.cL s1.2).bind λeQ =>
 (idx eQ dx.2).bind λiM =>
 ((bif !decide (iM.Kind=0) then (bif !decide (iM.Kind=2) then some true else some (!decide (iM.N=eZ))) else some false)).bind λEi =>
 ((bif Ei then
 (lR iM).bind λd_ =>
 (eS dx.1 [(⟨dx.2,d_⟩:cQ)]).bind λmf =>
 some (dx.1++[(⟨dx.2,d_⟩:cQ)])
 else
 some dx.1)).bind λGL =>
 some GL).bind λAp =>
 some (.inl (Ap,aQ (dx.2+1)))
 else
 some (.inr dx.1))) (([]:List cQ),0)).bind λc0 =>
 (eS s1.1 [(⟨eZ,c0⟩:Row)]).bind λgm =>
 some (.inl (s1.1++[(⟨eZ,c0⟩:Row)],aQ (s1.2+1)))
 else
 some (.inr s1.1))) (([]:List Row),0)).bind λx2 =>
 some x2
def L' (a0:kv):Option ((List Row)) :=
 (cS (R:=List Row) (λ(s1:List Row × Int) =>
 ((bif decide (0<(a0.cN.length:Int)) then ((idx a0.cN 0).bind λcq=>some (decide (s1.2<(cq.length:Int)))) else some false)).bind λsb =>
 (bif sb then
 (cS (R:=List Int) (λ(cI:List Int × Int) =>
 (bif decide (cI.2<(a0.cN.length:Int)) then
 ((idx a0.cN cI.2).bind λei =>
 (idx ei s1.2).bind λeo =>
 ((bif decide (0<=eo) then
 (idx a0.cN cI.2).bind λb2 =>
 (idx b2 s1.2).bind λeZ =>
 (eS cI.1 [eZ]).bind λeD =>
 some (cI.1++[eZ])
 else
 some cI.1)).bind λoH =>
 some oH).bind λfr =>
 some (.inl (fr,aQ (cI.2+1)))
 else
 some (.inr cI.1))) (([]:List Int),0)).bind λcF =>
 (x9 cF).bind λc0 =>
 (cS (R:=List cQ) (λ(s4:List cQ × Int) =>
 (bif decide (s4.2<(a0.cN.length:Int)) then
 ((idx a0.cN s4.2).bind λiM =>
 (idx iM s1.2).bind λgg =>
 ((bif decide (0<=gg) then some (!decide (gg=c0)) else some false)).bind λEi =>
 ((bif Ei then
 (eS s4.1 [(⟨s4.2,gg⟩:cQ)]).bind λd_ =>
 some (s4.1++[(⟨s4.2,gg⟩:cQ)])
 else
 some s4.1)).bind λGL =>
 some GL).bind λAq =>
 some (.inl (Aq,aQ (s4.2+1)))
 else
 some (.inr s4.1))) (([]:List cQ),0)).bind λgf =>
 (eS s1.1 [(⟨c0,gf⟩:Row)]).bind λmf =>
 some (.inl (s1.1++[(⟨c0,gf⟩:Row)],aQ (s1.2+1)))
 else
 some (.inr s1.1))) (([]:List Row),0)).bind λx2 =>
 some x2
def vY (a0:(List cQ)) (aw:Int):Option (Int × Bool) :=
 (cS (R:=(Unit) ⊕ (Int × Bool)) (λ(s1:Int) =>
 (bif decide (s1<(a0.length:Int)) then
 (idx a0 s1).bind λbx =>
 (bif decide (bx.At=aw) then
 (idx a0 s1).bind λb3 =>
 some (.inr (.inr (b3.pN,true)))
 else
 some (.inl (aQ (s1+1))))
 else
 some (.inr (.inl ())))) 0).bind λx2 =>
 (match x2 with
 | .inl a_ =>
 some (0,false)
 | .inr bE =>
 some (bE.1,bE.2))
def sV (a0:(List Act)) (aw:Int):Option (Int) :=
 (cS (R:=Int) (λ(s1:Int × Int) =>
 (bif decide (s1.2<(a0.length:Int)) then
 ((((idx a0 s1.2).bind λbx=>(bif decide (bx.Kind=2) then ((idx a0 s1.2).bind λb3=>some (decide (b3.N=aw))) else some false))).bind λqw =>
 ((bif qw then
 some (aQ (s1.1+1))
 else
 some s1.1)).bind λj6 =>
 some j6).bind λl6 =>
 some (.inl (l6,aQ (s1.2+1)))
 else
 some (.inr s1.1))) (0,0)).bind λx2 =>
 some x2
def A3 (a0:oR):Option (Bool) :=
 (AU ).bind λaF =>
 (bif !aF then
 some false
 else
 (x5 a0).bind λa_ =>
 (vX a_).bind λbE =>
 (bif !bE.2.2.2 then
 some true
 else
 (x6 bE.2.1).bind λbx =>
 (bif !decide ((bx.length:Int)=(bE.2.1.cL.length:Int)) then
 some false
 else
 (cS (R:=(Unit) ⊕ (Bool)) (λ(cI:Int) =>
 (bif decide (cI<(bx.length:Int)) then
 (cS (R:=(Unit) ⊕ (Bool)) (λ(eA:Int) =>
 (idx bE.2.1.cL cI).bind λb2 =>
 (bif decide (eA<(b2.length:Int)) then
 (idx bE.2.1.cL cI).bind λeD =>
 (idx eD eA).bind λc0 =>
 (idx bx cI).bind λc8 =>
 (vY c8.kg eA).bind λgf =>
 ((bif gf.2 then (bif decide (c0.Kind=0) then some true else ((vW gf.1).bind λeQ=>some (!(decide (eQ.Kind=c0.Kind)&&(decide (eQ.N=c0.N)&&true))))) else some false)).bind λtv =>
 (bif tv then
 some (.inr (.inr false))
 else
 ((bif !gf.2 then (bif !decide (c0.Kind=0) then ((idx bx cI).bind λgK=>some (!(decide (c0.Kind=2)&&(decide (c0.N=gK.Def)&&true)))) else some false) else some false)).bind λqv =>
 (bif qv then
 some (.inr (.inr false))
 else
 ((bif decide (c0.Kind=2) then ((idx bE.2.1.cL cI).bind λgm=>((sV gm c0.N).bind λgS=>((idx bE.2.1.cL cI).bind λiA=>((idx bx cI).bind λjK=>((sV iA jK.Def).bind λdc=>(bif decide (dc<gS) then some true else ((idx bE.2.1.cL cI).bind λr0=>((sV r0 c0.N).bind λBF=>((idx bE.2.1.cL cI).bind λbR=>((idx bx cI).bind λwA=>((sV bR wA.Def).bind λq'=>(bif decide (BF=q') then ((idx bx cI).bind λmS=>some (decide (c0.N<mS.Def))) else some false)))))))))))) else some false)).bind λEk =>
 (bif Ek then
 some (.inr (.inr false))
 else
 some (.inl (aQ (eA+1))))))
 else
 some (.inr (.inl ())))) 0).bind λeo =>
 (match eo with
 | .inl cA =>
 (cS (R:=(Unit) ⊕ (Bool)) (λ(wi:Int) =>
 (idx bx cI).bind λyu =>
 (bif decide (wi<(yu.kg.length:Int)) then
 (idx bx cI).bind λkp =>
 (idx kp.kg wi).bind λyv =>
 (idx bx cI).bind λHW =>
 (idx HW.kg (aQ (wi - 1))).bind λoQ =>
 (bif decide (yv.At<=oQ.At) then
 some (.inr (.inr false))
 else
 some (.inl (aQ (wi+1))))
 else
 some (.inr (.inl ())))) 1).bind λM9 =>
 (match M9 with
 | .inl ta =>
 some (.inl (aQ (cI+1)))
 | .inr iY =>
 some (.inr (.inr iY)))
 | .inr ck =>
 some (.inr (.inr ck)))
 else
 some (.inr (.inl ())))) 0).bind λcF =>
 (match cF with
 | .inl bQ =>
 some true
 | .inr b1 =>
 some b1))))
def A6 (a0:oR):Option (Bool) :=
 (AU ).bind λaF =>
 (bif !aF then
 some false
 else
 (x5 a0).bind λa_ =>
 (vX a_).bind λbE =>
 (bif !bE.2.2.2 then
 some true
 else
 (x7 bE.2.1).bind λbx =>
 (bif !decide ((bx.length:Int)=(bE.1.bu.length:Int)) then
 some false
 else
 (cS (R:=(Unit) ⊕ (Bool)) (λ(cI:Int) =>
 (bif decide (cI<(bx.length:Int)) then
 (cS (R:=(Int × Int) ⊕ (Bool)) (λ(eA:Int × Int × Int) =>
 (bif decide (eA.2.2<(bE.2.1.cN.length:Int)) then
 (idx bE.2.1.cN eA.2.2).bind λeZ =>
 (idx eZ cI).bind λeD =>
 (idx bx cI).bind λc0 =>
 (vY c0.kg eA.2.2).bind λc8 =>
 ((bif c8.2 then (bif !decide (c8.1=eD) then some true else (bif !c8.2 then (bif decide (0<=eD) then ((idx bx cI).bind λiM=>(bif !decide (eD=iM.Def) then some true else ((idx bx cI).bind λcV=>some (decide (c8.1=cV.Def))))) else ((idx bx cI).bind λeJ=>some (decide (c8.1=eJ.Def)))) else ((idx bx cI).bind λgK=>some (decide (c8.1=gK.Def))))) else (bif !c8.2 then (bif decide (0<=eD) then ((idx bx cI).bind λmf=>(bif !decide (eD=mf.Def) then some true else some false)) else some false) else some false))).bind λnQ =>
 (bif nQ then
 some (.inr (.inr false))
 else
 (bif decide (eD<0) then
 some (.inl (eA.1,eA.2.1,aQ (eA.2.2+1)))
 else
 (cS (R:=Int) (λ(qc:Int × Int) =>
 (bif decide (qc.2<(bE.2.1.cN.length:Int)) then
 ((idx bE.2.1.cN qc.2).bind λwA =>
 (idx wA cI).bind λq' =>
 ((bif decide (q'=eD) then
 some (aQ (qc.1+1))
 else
 some qc.1)).bind λGQ =>
 some GQ).bind λvC =>
 some (.inl (vC,aQ (qc.2+1)))
 else
 some (.inr qc.1))) (0,0)).bind λhU =>
 some (.inl (aQ (eA.1+1),max eA.2.1 hU,aQ (eA.2.2+1)))))
 else
 some (.inr (.inl (eA.1,eA.2.1))))) (0,0,0)).bind λeo =>
 (match eo with
 | .inl cA =>
 (((idx bx cI).bind λyt=>(bif !decide ((yt.kg.length:Int)=aQ (cA.1 - cA.2)) then some true else ((idx bx cI).bind λHV=>some (!((decide (HV.Def=(-1))) == (decide (cA.1=0)))))))).bind λy1 =>
 (bif y1 then
 some (.inr (.inr false))
 else
 some (.inl (aQ (cI+1))))
 | .inr ck =>
 some (.inr (.inr ck)))
 else
 some (.inr (.inl ())))) 0).bind λcF =>
 (match cF with
 | .inl bQ =>
 some true
 | .inr b1 =>
 some b1))))
theorem M4:AU=some true:=by kernel_rfl
end Go.Proofs
namespace Go.Own
open Go
variable {α β S R:Type}
abbrev iB (p:S->Prop) (q:R->Prop) (x:S ⊕ R):Prop:=Sum.elim p q x
def Tot (x:Option α) (Φ:α->Prop):Prop:=∃ a,x=some a/\Φ a
namespace Tot
variable {Φ fR:α->Prop}
theorem aB {a:α}(h:Φ a):Tot (some a) Φ:=⟨a,rfl,h⟩
theorem bi {x:Option β}{f:β->Option α}(h:Tot x λa=>Tot (f a) Φ):Tot (x.bind f) Φ:=by
 obtain ⟨a,rfl,b,aH,nB⟩:=h
 exact ⟨b,aH,nB⟩
theorem au {f:β->Option α}{a:β}(h:Tot (f a) Φ):Tot ((some a).bind f) Φ:=h
theorem use {x:Option α}(h:Tot x fR) (hi:∀ a,fR a->Φ a):Tot x Φ:=by
 obtain ⟨a,bj,Gz⟩:=h
 exact ⟨a,bj,hi a Gz⟩
theorem aJ {x:Option β}{f:β->Option α}{Ξ:β->Prop}(h:Tot x Ξ) (hk:∀ a,Ξ a->Tot (f a) Φ):Tot (x.bind f) Φ:=bi (h.use hk)
theorem cv {c:Bool}{a b:Option α}(aD:c=true->Tot a Φ) (bl:c=false->Tot b Φ):Tot (cond c a b) Φ:=by
 cases c
 ·exact bl rfl
 ·exact aD rfl
theorem b8 {p:Prop} [Decidable p] {a b:Option α}(aD:p->Tot a Φ) (bl:¬ p->Tot b Φ):Tot (cond (decide p) a b) Φ :=
 cv (λh=>aD (of_decide_eq_true h)) (λh=>bl (of_decide_eq_false h))
theorem qy {p:Prop} [Decidable p] {a b:Option α}(aD:¬ p->Tot a Φ) (bl:p->Tot b Φ):Tot (cond (!decide p) a b) Φ :=
 cv (λh=>aD (of_decide_eq_false (by simpa using h))) (λh=>bl (of_decide_eq_true (by simpa using h)))
theorem hC {l:List α}{i:Int}(bb:0<=i) (h1:i<l.length) (hk:∀ y,idx l i=some y->y∈l->Φ y):Tot (idx l i) Φ:=by
 have bc:i.toNat<l.length:=by omega
 have:idx l i=some l[i.toNat]:=by simp [idx,bb,bc]
 exact ⟨_,this,hk _ this (List.getElem_mem bc)⟩
theorem ap {Φ:List α->Prop}{l m:List α}(h:l.length+m.length<=lim) (hk:Φ (l++m)):Tot (eS l m) Φ:=by
 refine ⟨l++m,?_,hk⟩
 unfold eS
 rw [if_pos h]
theorem loop {f:S->Option (S ⊕ R)}{fv:S}{fR:R->Prop}(Inv:S->Prop) (tc:S->Nat) (bb:Inv fv) (GA:tc fv<fuel)
  (aN:∀ s,Inv s->Tot (f s) (iB (λfe=>Inv fe/\tc fe<tc s) fR)):Tot (cS f fv) fR:=by
 have key:∀ n s,Inv s->tc s<n->Tot (iter f n s) fR:=by
  intro n
  induction n with
  | zero=>intro s _ h; omega
  | succ n aS =>
   intro s bt hm
   obtain ⟨x,J,du⟩:=aN s bt
   cases x with
   | inl fe =>
    obtain ⟨h1,al⟩:=du
    simp only [iter,J]
    exact aS fe h1 (by omega)
   | inr r =>
    simp only [iter,J]
    exact ⟨r,rfl,du⟩
 exact key fuel fv bb GA
theorem count {f:S->Option (S ⊕ R)}{fv:S}{fR:R->Prop}(i:S->Int) (n:Int) (Inv:S->Prop) (bb:Inv fv) (aL:n - i fv<1000000000000000000)
  (aN:∀ s,Inv s->Tot (f s) (iB (λfe=>Inv fe/\i s<i fe/\i fe<=n) fR)):Tot (cS f fv) fR:=by
 refine loop Inv (λs=>(n - i s).toNat) bb (by show (n - i fv).toNat<1000000000000000000; omega) λs bt=>(aN s bt).use λx J=>?_
 cases x with
 | inl fe=>exact ⟨J.1,by have:=J.2; show (n - i fe).toNat<(n - i s).toNat; omega⟩
 | inr r=>exact J
end Tot
theorem dK (n:Int):aQ n=(n+9223372036854775808) % 18446744073709551616 - 9223372036854775808:=IntKind.wrap_i64 n
namespace Tot
theorem cat {Φ:ByteArray->Prop}{s u:ByteArray}(h:s.size+u.size<=4611686018427387904) (hk:Φ (s++u)):Tot (sd s u) Φ:=by
 refine ⟨s++u,?_,hk⟩
 unfold sd
 rw [if_pos h]
theorem cut {Φ:ByteArray->Prop}{s:ByteArray}{m n:Int}(h:0<=m/\m<=n/\n<=s.size) (hk:Φ (u2 s m n)):Tot (u1 s m n) Φ:=by
 refine ⟨_,?_,hk⟩
 unfold u1
 rw [if_pos h]
theorem nr {Φ:Int->Prop}{s:ByteArray}{m:Int}(h:0<=m/\m<s.size) (hk:Φ (yV s m)):Tot (kV s m) Φ:=by
 refine ⟨_,?_,hk⟩
 unfold kV
 rw [if_pos h]
theorem sub {Φ:List α->Prop}{l:List α}{m n:Int}(h:0<=m/\m<=n/\n<=l.length) (hk:Φ ((l.drop m.toNat).take (n - m).toNat)):Tot (qh l m n) Φ:=by
 refine ⟨_,?_,hk⟩
 unfold qh
 rw [if_pos h]
theorem rem {Φ:Int->Prop}{m n:Int}(h:n≠0) (hk:Φ (m.tmod n)):Tot (p' m n) Φ:=by
 refine ⟨_,?_,hk⟩
 unfold p'
 rw [if_neg h]
theorem quo {Φ:Int->Prop}{m n:Int}(h:n≠0) (hk:Φ (aQ (m.tdiv n))):Tot (Dt m n) Φ:=by
 refine ⟨_,?_,hk⟩
 unfold Dt
 rw [if_neg h]
theorem s3 {Φ:Int->Prop}{m n:Int}(h:n≠0) (hk:Φ (m.tmod n)):Tot (Own.s3 m n) Φ:=by
 refine ⟨_,?_,hk⟩
 unfold Own.s3
 rw [if_neg h]
theorem sX {Φ:Int->Prop}{m n:Int}(h:n≠0) (hk:Φ (IntKind.u64.wrap (m.tdiv n))):Tot (Own.sX m n) Φ:=by
 refine ⟨_,?_,hk⟩
 unfold Own.sX
 rw [if_neg h]
theorem mk {Φ:List α->Prop}{m:Int}{z:α}(h:0<=m/\m<=lim) (hk:Φ (List.replicate m.toNat z)):Tot (p6 m z) Φ:=by
 refine ⟨_,?_,hk⟩
 unfold p6
 rw [if_pos h]
theorem eq {x:Option α}{Φ:α->Prop}{a:α}(h:Tot x Φ) (e:x=some a):Φ a:=by
 obtain ⟨b,aH,nB⟩:=h
 rw [e] at aH; cases aH; exact nB
theorem ex {x:Option α}{Φ:α->Prop}(h:Tot x Φ):∃ a,x=some a/\Φ a:=h
end Tot
namespace Tot
theorem scan {f:Int->Option (Int ⊕ (Unit ⊕ R))}(l:List β) (P:β->Prop) (Q:R->Prop) (ao:l.length<=100000000000000000)
  (aN:∀ (s:Int) (y:β),0<=s->s<l.length->idx l s=some y->y∈l->Tot (f s) (iB (λfe=>fe=s+1/\P y) (iB (λ_=>False) Q)))
  (he:∀ s:Int,¬ s<l.length->f s=some (.inr (.inl ()))):Tot (cS f 0) (iB (λ_=>∀ y∈l,P y) Q):=by
 refine count (λs=>s) l.length (λs=>0<=s/\s<=l.length/\∀ (ae:Nat) (y:β),(ae:Int)<s->l[ae]?=some y->P y) ⟨by omega,by omega,λae y h=>by omega⟩ (by show (l.length:Int) - 0<_; omega) λs bt=>?_
 obtain ⟨bb,h1,al⟩:=bt
 by_cases bc:s<l.length
 ·have nX:s.toNat<l.length:=by omega
  have hi:idx l s=some l[s.toNat]:=by simp [idx,bb,nX]
  refine (aN s _ bb bc hi (List.getElem_mem nX)).use λx J=>?_
  rcases x with fe | ⟨⟨⟩⟩ | r
  ·obtain ⟨rfl,du⟩:=J
   refine ⟨⟨by omega,by omega,λae y aa az=>?_⟩,by show s<s+1; omega,by show s+1<=_; omega⟩
   by_cases xt:(ae:Int)<s
   ·exact al ae y xt az
   ·have:ae=s.toNat:=by omega
    subst this
    rw [List.getElem?_eq_getElem nX] at az
    cases az; exact du
  ·exact J.elim
  ·exact J
 ·rw [he s bc]
  refine aB λy az=>?_
  obtain ⟨ae,aa,rfl⟩:=List.mem_iff_getElem.1 az
  exact al ae _ (by omega) (List.getElem?_eq_getElem aa)
end Tot
end Go.Own
namespace Go.Own
open Go
variable {α β S R:Type}
def Par (x:Option α) (Φ:α->Prop):Prop:=∀ a,x=some a->Φ a
set_option linter.unusedVariables false
namespace Par
variable {Φ fR:α->Prop}
theorem aB {a:α}(h:Φ a):Par (some a) Φ:=λb e=>by cases e; exact h
theorem no:Par (none:Option α) Φ:=λb e=>by cases e
theorem use {x:Option α}(h:Par x fR) (hi:∀ a,fR a->Φ a):Par x Φ:=λa e=>hi a (h a e)
theorem aJ {x:Option β}{f:β->Option α}{Ξ:β->Prop}(h:Par x Ξ) (hk:∀ a,Ξ a->Par (f a) Φ):Par (x.bind f) Φ:=λa e=>by
 cases x with
 | none=>cases e
 | some b=>exact hk b (h b rfl) a e
theorem go {x:Option β}{f:β->Option α}(hk:∀ a,x=some a->Par (f a) Φ):Par (x.bind f) Φ:=λa e=>by
 cases x with
 | none=>cases e
 | some b=>exact hk b rfl a e
theorem cv {c:Bool}{a b:Option α}(aD:c=true->Par a Φ) (bl:c=false->Par b Φ):Par (cond c a b) Φ:=by
 cases c
 ·exact bl rfl
 ·exact aD rfl
theorem b8 {p:Prop} [Decidable p] {a b:Option α}(aD:p->Par a Φ) (bl:¬ p->Par b Φ):Par (cond (decide p) a b) Φ :=
 cv (λh=>aD (of_decide_eq_true h)) (λh=>bl (of_decide_eq_false h))
theorem qy {p:Prop} [Decidable p] {a b:Option α}(aD:¬ p->Par a Φ) (bl:p->Par b Φ):Par (cond (!decide p) a b) Φ :=
 cv (λh=>aD (of_decide_eq_false (by simpa using h))) (λh=>bl (of_decide_eq_true (by simpa using h)))
theorem ap {l m:List β}{f:List β->Option α}(hk:l.length+m.length<=lim->Par (f (l++m)) Φ):Par ((eS l m).bind f) Φ:=by
 unfold eS
 split
 ·rename_i h; exact hk h
 ·exact no
theorem cat {s u:ByteArray}{f:ByteArray->Option α}(hk:Par (f (s++u)) Φ):Par ((sd s u).bind f) Φ:=by
 unfold sd
 split
 ·exact hk
 ·exact no
theorem loop {f:S->Option (S ⊕ R)}{fv:S}{fR:R->Prop}(Inv:S->Prop) (bb:Inv fv) (aN:∀ s,Inv s->Par (f s) (iB Inv fR)):Par (cS f fv) fR:=by
 have key:∀ n s,Inv s->Par (iter f n s) fR:=by
  intro n
  induction n with
  | zero=>intro s _ a e; cases e
  | succ n aS =>
   intro s bt a e
   simp only [iter] at e
   cases J:f s with
   | none=>rw [J] at e; cases e
   | some x =>
    have du:=aN s bt x J
    rw [J] at e
    cases x with
    | inl fe=>exact aS fe du a e
    | inr r=>cases e; exact du
 exact key fuel fv bb
theorem jU {x:Option α}(h:Tot x Φ) (aT:Par x fR):Tot x λa=>Φ a/\fR a:=by
 obtain ⟨a,bj,nB⟩:=h
 exact ⟨a,bj,nB,aT a bj⟩
theorem of {x:Option α}(h:Tot x Φ):Par x Φ:=λa e=>h.eq e
theorem scan {f:Int->Option (Int ⊕ (Unit ⊕ R))}(l:List β) (ao:l.length<=100000000000000000) (P:β->Prop) (Q:R->Prop)
  (aN:∀ (s:Int) (y:β),0<=s->s<l.length->idx l s=some y->y∈l->Par (f s) (iB (λfe=>fe=s+1/\P y) (iB (λ_=>False) Q)))
  (he:∀ s:Int,¬ s<l.length->f s=some (.inr (.inl ()))):Par (cS f 0) (iB (λ_=>∀ y∈l,P y) Q):=by
 refine loop (λs=>0<=s/\s<=l.length/\∀ (ae:Nat) (y:β),(ae:Int)<s->l[ae]?=some y->P y) ⟨by omega,by omega,λae y h=>by omega⟩ λs bt=>?_
 obtain ⟨bb,h1,al⟩:=bt
 by_cases bc:s<l.length
 ·have nX:s.toNat<l.length:=by omega
  have hi:idx l s=some l[s.toNat]:=by simp [idx,bb,nX]
  refine (aN s _ bb bc hi (List.getElem_mem nX)).use λx J=>?_
  rcases x with fe | ⟨⟨⟩⟩ | r
  ·obtain ⟨rfl,du⟩:=J
   refine ⟨by omega,by omega,λae y aa az=>?_⟩
   by_cases xt:(ae:Int)<s
   ·exact al ae y xt az
   ·have:ae=s.toNat:=by omega
    subst this
    rw [List.getElem?_eq_getElem nX] at az
    cases az; exact du
  ·exact J.elim
  ·exact J
 ·rw [he s bc]
  refine aB λy az=>?_
  obtain ⟨ae,aa,rfl⟩:=List.mem_iff_getElem.1 az
  exact al ae _ (by omega) (List.getElem?_eq_getElem aa)
end Par
end Go.Own
namespace Go.Own
open Go
variable {α β S R:Type}
namespace Tot
theorem upto {f:S->Option (S ⊕ R)}{fv:S}{fR:R->Prop}(i:S->Int) (n:Nat) (Inv:Nat->S->Prop) (hi:i fv=0) (aL:n<=100000000000000000) (bb:Inv 0 fv)
  (aN:∀ (k:Nat) (s:S),k<=n->i s=(k:Int)->Inv k s->Tot (f s) (iB (λfe=>k<n/\i fe=((k+1:Nat):Int)/\Inv (k+1) fe) fR)):Tot (cS f fv) fR:=by
 refine count i n (λs=>∃ k:Nat,k<=n/\i s=(k:Int)/\Inv k s) ⟨0,Nat.zero_le _,hi,bb⟩ (by rw [hi]; omega) λs ⟨k,hk,he,bt⟩=>(aN k s hk he bt).use λx J=>?_
 rcases x with fe | r
 ·obtain ⟨h1,al,aO⟩:=J
  exact ⟨⟨k+1,by omega,al,aO⟩,by omega,by omega⟩
 ·exact J
end Tot
namespace Par
theorem upto {f:S->Option (S ⊕ R)}{fv:S}{fR:R->Prop}(i:S->Int) (n:Nat) (Inv:Nat->S->Prop) (hi:i fv=0) (bb:Inv 0 fv)
  (aN:∀ (k:Nat) (s:S),k<=n->i s=(k:Int)->Inv k s->Par (f s) (iB (λfe=>k<n/\i fe=((k+1:Nat):Int)/\Inv (k+1) fe) fR)):Par (cS f fv) fR:=by
 refine loop (λs=>∃ k:Nat,k<=n/\i s=(k:Int)/\Inv k s) ⟨0,Nat.zero_le _,hi,bb⟩ λs ⟨k,hk,he,bt⟩=>(aN k s hk he bt).use λx J=>?_
 rcases x with fe | r
 ·obtain ⟨h1,al,aO⟩:=J
  exact ⟨k+1,by omega,al,aO⟩
 ·exact J
end Par
theorem eP (k:Nat) (h:k<=1000000000000000000):aQ ((k:Int)+1)=((k+1:Nat):Int):=by rw [dK]; omega
end Go.Own
namespace Go.Own
open Go
variable {α β yz yA S T R Q:Type}
def Rel (x:Option α) (y:Option β) (Φ:α->β->Prop):Prop:=∃ a b,x=some a/\y=some b/\Φ a b
abbrev Ig (p:S->T->Prop) (q:R->Q->Prop):S ⊕ R->T ⊕ Q->Prop
 | .inl a,.inl b=>p a b
 | .inr a,.inr b=>q a b
 | _,_=>False
namespace Rel
variable {Φ fR:α->β->Prop}
theorem aB {a:α}{b:β}(h:Φ a b):Rel (some a) (some b) Φ:=⟨a,b,rfl,rfl,h⟩
theorem use {x:Option α}{y:Option β}(h:Rel x y fR) (hi:∀ a b,fR a b->Φ a b):Rel x y Φ:=by
 obtain ⟨a,b,bj,aH,Gz⟩:=h
 exact ⟨a,b,bj,aH,hi a b Gz⟩
theorem aJ {x:Option yz}{y:Option yA}{f:yz->Option α}{g:yA->Option β}{Ξ:yz->yA->Prop}(h:Rel x y Ξ) (hk:∀ a b,Ξ a b->Rel (f a) (g b) Φ):Rel (x.bind f) (y.bind g) Φ:=by
 obtain ⟨a,b,rfl,rfl,Al⟩:=h
 exact hk a b Al
theorem l {x:Option yz}{y:Option β}{f:yz->Option α}{Ξ:yz->Prop}(h:Tot x Ξ) (hk:∀ a,Ξ a->Rel (f a) y Φ):Rel (x.bind f) y Φ:=by
 obtain ⟨a,rfl,Al⟩:=h
 exact hk a Al
theorem r {x:Option α}{y:Option yA}{g:yA->Option β}{Ξ:yA->Prop}(h:Tot y Ξ) (hk:∀ a,Ξ a->Rel x (g a) Φ):Rel x (y.bind g) Φ:=by
 obtain ⟨a,rfl,Al⟩:=h
 exact hk a Al
theorem cv {c d:Bool}{a b:Option α}{cE hJ:Option β}(ab:c=d) (aD:c=true->Rel a cE Φ) (bl:c=false->Rel b hJ Φ):Rel (cond c a b) (cond d cE hJ) Φ:=by
 subst ab
 cases c
 ·exact bl rfl
 ·exact aD rfl
theorem jU {x:Option α}{y:Option β}{P:α->Prop}{Q:β->Prop}(h:Tot x P) (aT:Tot y Q) (hi:∀ a b,P a->Q b->Φ a b):Rel x y Φ:=by
 obtain ⟨a,bj,du⟩:=h
 obtain ⟨b,aH,dX⟩:=aT
 exact ⟨a,b,bj,aH,hi a b du dX⟩
theorem loop {f:S->Option (S ⊕ R)}{g:T->Option (T ⊕ Q)}{fv:S}{t0:T}{fR:R->Q->Prop}(Inv:S->T->Prop) (tc:S->Nat) (bb:Inv fv t0) (GA:tc fv<fuel)
  (aN:∀ s t,Inv s t->Rel (f s) (g t) (Ig (λfe dn=>Inv fe dn/\tc fe<tc s) fR)):Rel (cS f fv) (cS g t0) fR:=by
 have key:∀ n s t,Inv s t->tc s<n->Rel (iter f n s) (iter g n t) fR:=by
  intro n
  induction n with
  | zero=>intro s t _ h; omega
  | succ n aS =>
   intro s t bt hm
   obtain ⟨x,y,J,az,du⟩:=aN s t bt
   rcases x with fe | r <;> rcases y with dn | q
   ·obtain ⟨h1,al⟩:=du
    simp only [iter,J,az]
    exact aS fe dn h1 (by omega)
   ·exact du.elim
   ·exact du.elim
   ·simp only [iter,J,az]
    exact ⟨r,q,rfl,rfl,du⟩
 exact key fuel fv t0 bb GA
theorem upto {f:S->Option (S ⊕ R)}{g:T->Option (T ⊕ Q)}{fv:S}{t0:T}{fR:R->Q->Prop}(i:S->Int) (n:Nat) (Inv:Nat->S->T->Prop) (hi:i fv=0) (aL:n<=100000000000000000) (bb:Inv 0 fv t0)
  (aN:∀ (k:Nat) (s:S) (t:T),k<=n->i s=(k:Int)->Inv k s t->Rel (f s) (g t) (Ig (λfe dn=>k<n/\i fe=((k+1:Nat):Int)/\Inv (k+1) fe dn) fR)):Rel (cS f fv) (cS g t0) fR:=by
 refine loop (λs t=>∃ k:Nat,k<=n/\i s=(k:Int)/\Inv k s t) (λs=>(n - (i s).toNat)) ⟨0,Nat.zero_le _,hi,bb⟩ (by rw [hi]; show n - 0<1000000000000000000; omega) λs t ⟨k,hk,he,bt⟩=>(aN k s t hk he bt).use λx y CX=>?_
 rcases x with fe | r <;> rcases y with dn | q
 ·obtain ⟨h1,al,aO⟩:=CX
  refine ⟨⟨k+1,by omega,al,aO⟩,?_⟩
  show n - (i fe).toNat<n - (i s).toNat
  rw [al,he]; omega
 ·exact CX
 ·exact CX
 ·exact CX
end Rel
end Go.Own

namespace Go.Proofs
open Go Go.Own
set_option maxRecDepth 100000
set_option linter.unusedVariables false
theorem t121 (c:Int):Tot (AR c) λ_=>True:=by
 unfold AR
 repeat' first | apply Tot.bi | refine Tot.cv (λ_=>?_) (λ_=>?_) | exact Tot.aB trivial | apply Tot.aB
theorem t122 (c:Int):Tot (AS c) λ_=>True:=by
 unfold AS
 repeat' first | apply Tot.bi | refine Tot.cv (λ_=>?_) (λ_=>?_) | exact Tot.aB trivial | apply Tot.aB
theorem t120 (c:Int):Tot (AQ c) λ_=>True:=by
 unfold AQ
 repeat' first | apply Tot.bi | refine Tot.cv (λ_=>?_) (λ_=>?_) | exact Tot.aB trivial | apply Tot.aB
theorem t118 (x:Sym):Tot (vT x) λr=>r=true->x.Name={ data:=#[] }/\x.Lit=false:=by
 unfold vT
 apply Tot.bi
 refine Tot.b8 (λh=>Tot.cv (λal=>?_) (λal=>?_)) (λh=>?_) <;> apply Tot.aB <;> apply Tot.aB
 ·exact λ_=>⟨h,by simpa using al⟩
 ·exact λh=>by cases h
 ·exact λh=>by cases h
abbrev ff:Nat:=1000000000000
theorem t117 (s:ByteArray) (h:s.size<=ff):Tot (AP s 0) λn=>0<=n/\n<=s.size:=by
 unfold AP
 refine Tot.aJ (Ξ:=λn=>0<=n/\n<=s.size) ?_ λa bj=>.aB bj
 refine Tot.count (λi=>i) s.size (λi=>0<=i/\i<=s.size) ⟨by omega,by omega⟩ (by show (s.size:Int) - 0<_; simp only [ff] at h; omega) λi ⟨bb,h1⟩=>?_
 simp only [ff] at h
 have e:aQ (0+i)=i:=by rw [dK]; omega
 rw [e]
 have go:∀ c:Bool,(c=true->i<s.size)->Tot (bif c then some (.inl (aQ (i+1))) else some (.inr i)) (iB (λfe:Int=>(0<=fe/\fe<=s.size)/\i<fe/\fe<=s.size) (λr:Int=>0<=r/\r<=s.size)):=by
  intro c ab
  refine Tot.cv (λal=>.aB ?_) (λ_=>.aB ⟨bb,h1⟩)
  have:=ab al
  have e:aQ (i+1)=i+1:=by rw [dK]; omega
  show (0<=aQ (i+1)/\aQ (i+1)<=s.size)/\i<aQ (i+1)/\aQ (i+1)<=s.size
  rw [e]; omega
 apply Tot.bi
 refine Tot.b8 (λal=>?_) (λal=>.aB (go false (by simp)))
 apply Tot.bi
 refine Tot.nr ⟨bb,al⟩ (Tot.aJ (t121 _) λc _=>?_)
 refine Tot.cv (λ_=>.aB (go _ λ_=>al)) (λ_=>Tot.cv (λ_=>?_) (λ_=>.aB (go _ λ_=>al)))
 apply Tot.bi
 refine Tot.nr ⟨bb,al⟩ (Tot.aJ (t122 _) λc _=>?_)
 refine Tot.cv (λ_=>.aB (go _ λ_=>al)) (λ_=>?_)
 apply Tot.bi
 exact Tot.nr ⟨bb,al⟩ (.aB (go _ λ_=>al))
theorem t111 (s:ByteArray) (h:s.size<=ff):Tot (uj s) λr=>r=true->1<=s.size/\s.size<=20:=by
 unfold uj
 apply Tot.bi
 refine Tot.b8 (λh1=>Tot.b8 (λal=>?_) (λal=>?_)) (λh1=>?_)
 ·exact .aJ (t117 s h) λn aL=>.aB (.aB λ_=>by omega)
 ·exact .aB (.aB λh=>by cases h)
 ·exact .aB (.aB λh=>by cases h)
theorem t124 (s:ByteArray) (i:Int) (t:ByteArray) (h:s.size<=ff) (bb:0<=i) (h1:i<=4 * ff) (aD:t.size<=ff):Tot (vU s i t) λr=>r=true->i+t.size<=s.size:=by
 unfold vU
 simp only [ff] at *
 apply Tot.bi
 refine Tot.b8 (λal=>?_) (λal=>.aB (.aB λh=>by cases h))
 apply Tot.bi
 rw [dK] at al
 have e:aQ (i+t.size)=i+t.size:=by rw [dK]; omega
 refine Tot.cut (by rw [e]; omega) (.aB (.aB λ_=>by omega))
theorem t123 (s:ByteArray) (i:Int) (h:s.size<=ff) (bb:0<=i) (h1:i<s.size):Tot (AT s i) λr=>r<=s.size:=by
 unfold AT
 have aH:(s.size:Int)<=1000000000000:=by simp only [ff] at h; omega
 have dt:aQ (i+1)=i+1:=by rw [dK]; omega
 have c3:aQ (i+2)=i+2:=by rw [dK]; omega
 rw [dt,c3]
 have vk:=Tot.nr (Φ:=λ_=>True) (s:=s) (m:=i) ⟨bb,h1⟩ trivial
 refine Tot.aJ (Ξ:=λ_=>True) ?_ λc _=>Tot.cv (λ_=>?_) (λ_=>?_)
 ·refine Tot.aJ vk λ_ _=>Tot.cv (λ_=>.aB trivial) (λ_=>Tot.aJ vk λ_ _=>.aB trivial)
 ·refine Tot.aJ (Ξ:=iB (λ_=>True) (λr=>r<=s.size)) ?_ λx J=>?_
  ·refine Tot.count (λae=>ae) (s.size+1) (λae=>0<=ae) (by show (0:Int)<=i+1; omega) (by show (s.size:Int)+1 - (i+1)<_; omega) λae aa=>?_
   refine Tot.aJ (Ξ:=λc=>c=true->ae<s.size) ?_ λc ab=>Tot.cv (λal=>?_) (λ_=>.aB trivial)
   ·refine Tot.b8 (λal=>?_) (λ_=>.aB λh=>by cases h)
    exact .aJ (Ξ:=λ_=>True) (Tot.nr ⟨aa,al⟩ trivial) λ_ _=>.aB λ_=>al
   ·have RG:=ab al
    have CF:=Tot.nr (Φ:=λ_=>True) (s:=s) (m:=ae) ⟨aa,RG⟩ trivial
    have jY:aQ (ae+1)=ae+1:=by rw [dK]; omega
    have rA:aQ (ae+1+1)=ae+1+1:=by rw [dK]; omega
    rw [jY,rA]
    refine .aJ CF λ_ _=>.aJ vk λ_ _=>Tot.cv (λ_=>.aB ?_) (λ_=>.aJ CF λ_ _=>Tot.cv (λ_=>?_) (λ_=>.aB ?_))
    ·show ae+1<=s.size; omega
    ·refine Tot.aJ (Ξ:=λ_=>True) ?_ λc _=>Tot.cv (λ_=>.aB ?_) (λ_=>.aB ?_)
     ·refine Tot.b8 (λaO=>?_) (λ_=>.aB trivial)
      exact .aJ (Ξ:=λ_=>True) (Tot.nr ⟨by omega,aO⟩ trivial) λ_ _=>.aB trivial
     ·show (-1:Int)<=s.size; omega
     ·show (0:Int)<=ae+1+1/\ae<ae+1+1/\ae+1+1<=s.size+1; omega
    ·show (0:Int)<=ae+1/\ae<ae+1/\ae+1<=s.size+1; omega
  ·rcases x with _ | r
   ·exact .aB (by show (-1:Int)<=s.size; omega)
   ·exact .aB J
 ·refine .aJ vk λ_ _=>Tot.cv (λ_=>?_) (λ_=>?_)
  ·refine Tot.aJ (Ξ:=iB (λ_=>True) (λr=>r<=s.size)) ?_ λx J=>?_
   ·refine Tot.count (λae=>ae) (s.size+1) (λae=>0<=ae) (by show (0:Int)<=i+1; omega) (by show (s.size:Int)+1 - (i+1)<_; omega) λae aa=>?_
    refine Tot.b8 (λal=>?_) (λ_=>.aB trivial)
    have jY:aQ (ae+1)=ae+1:=by rw [dK]; omega
    rw [jY]
    refine .aJ (Ξ:=λ_=>True) (Tot.nr ⟨aa,al⟩ trivial) λ_ _=>Tot.cv (λ_=>.aB ?_) (λ_=>.aB ?_)
    ·show ae+1<=s.size; omega
    ·show (0:Int)<=ae+1/\ae<ae+1/\ae+1<=s.size+1; omega
   ·rcases x with _ | r
    ·exact .aB (by show (-1:Int)<=s.size; omega)
    ·exact .aB J
  ·refine .aJ (t124 s i _ h bb (by simp only [ff]; omega) (by decide)) λc _=>Tot.cv (λ_=>?_) (λ_=>?_)
   ·refine Tot.aJ (Ξ:=λr=>r<=s.size) ?_ λx J=>.aB J
    refine Tot.count (λae=>ae) s.size (λae=>0<=ae/\ae<=s.size) ⟨bb,by omega⟩ (by show (s.size:Int) - i<_; omega) λae aa=>?_
    refine Tot.aJ (Ξ:=λc=>c=true->ae<s.size) ?_ λc ab=>Tot.cv (λal=>?_) (λ_=>.aB aa.2)
    ·refine Tot.b8 (λal=>?_) (λ_=>.aB λh=>by cases h)
     exact .aJ (Ξ:=λ_=>True) (Tot.nr ⟨aa.1,al⟩ trivial) λ_ _=>.aB λ_=>al
    ·have:=ab al
     have jY:aQ (ae+1)=ae+1:=by rw [dK]; omega
     rw [jY]
     exact .aB (by show ((0:Int)<=ae+1/\ae+1<=s.size)/\ae<ae+1/\ae+1<=s.size; omega)
   ·refine .aJ (t124 s i _ h bb (by simp only [ff]; omega) (by decide)) λc ab=>Tot.cv (λlI=>?_) (λ_=>.aB (by omega))
    refine Tot.aJ (Ξ:=iB (λ_=>True) (λr=>r<=s.size)) ?_ λx J=>?_
    ·refine Tot.count (λae=>ae) (s.size+1) (λae=>0<=ae) (by show (0:Int)<=i+2; omega) (by show (s.size:Int)+1 - (i+2)<_; omega) λae aa=>?_
     refine Tot.b8 (λal=>?_) (λ_=>.aB trivial)
     have jY:aQ (ae+1)=ae+1:=by rw [dK]; omega
     have rA:aQ (ae+2)=ae+2:=by rw [dK]; omega
     rw [jY,rA]
     refine .aJ (t124 s ae _ h aa (by simp only [ff]; omega) (by decide)) λc ab=>Tot.cv (λsB=>.aB ?_) (λ_=>.aB ?_)
     ·have:=ab sB
      have qz:({ data:=#[42,47] }:ByteArray).size=2:=rfl
      rw [qz] at this
      show ae+2<=s.size; omega
     ·show (0:Int)<=ae+1/\ae<ae+1/\ae+1<=s.size+1; omega
    ·rcases x with _ | r
     ·exact .aB (by show (-1:Int)<=s.size; omega)
     ·exact .aB J
theorem t119 (s:ByteArray) (h:s.size<=ff):Tot (x4 s 0) λ_=>True:=by
 unfold x4
 have aH:(s.size:Int)<=1000000000000:=by simp only [ff] at h; omega
 refine Tot.aJ (Ξ:=λ_=>True) ?_ λc _=>Tot.cv (λ_=>.aB trivial) (λ_=>?_)
 ·refine Tot.b8 (λh=>.aB trivial) (λbb=>Tot.b8 (λh=>.aB trivial) (λal=>?_))
  exact .aJ (Ξ:=λ_=>True) (Tot.nr (by omega) trivial) λ_ _=>.aB trivial
 ·refine Tot.aJ (Ξ:=λ_=>True) ?_ λx _=>by rcases x with _ | r <;> exact .aB trivial
  refine Tot.count (λae=>ae.2) s.size (λae=>0<=ae.2/\ae.2<=s.size) ⟨by show (0:Int)<=0; omega,by show (0:Int)<=s.size; omega⟩ (by show (s.size:Int) - 0<_; omega) λae aa=>?_
  refine Tot.b8 (λal=>?_) (λ_=>.aB trivial)
  refine .aJ (t123 s ae.2 h aa.1 al) λn aL=>Tot.b8 (λ_=>.aB trivial) (λaO=>Tot.b8 (λb4=>.aB ?_) (λb4=>?_))
  ·show ((0:Int)<=n/\n<=s.size)/\ae.2<n/\n<=s.size; omega
  ·have vk:=Tot.nr (Φ:=λ_=>True) (s:=s) (m:=ae.2) ⟨aa.1,al⟩ trivial
   have jY:aQ (ae.2+1)=ae.2+1:=by rw [dK]; omega
   rw [jY]
   refine .aJ vk λ_ _=>.aJ (Ξ:=λ_=>True) (Tot.cv (λ_=>.aB trivial) (λ_=>.aB trivial)) λ_ _=>.aJ vk λ_ _=>.aJ (Ξ:=λ_=>True) (Tot.cv (λ_=>.aB trivial) (λ_=>.aB trivial)) λ_ _=>Tot.cv (λ_=>.aB trivial) (λ_=>.aB ?_)
   show ((0:Int)<=ae.2+1/\ae.2+1<=s.size)/\ae.2<ae.2+1/\ae.2+1<=s.size; omega
def lE (x:Sym):Prop:=x.Lit=true->x.Name.size=1
structure H_ (d:Decl):Prop where
 tag:d.Tag.size<=ff
 n:d.fo.length<=1000
 syms:∀ x∈d.fo,x.Name.size<=ff
structure yB (a:Alt):Prop where
 n:a.jC.length<=1000
 parts:∀ p∈a.jC,p.Sym.Name.size<=ff/\p.Code.size<=ff
 prec:a.Prec.Name.size<=ff
structure Nz (r:gk):Prop where
 left:r.Left.size<=ff
 n:r.fU.length<=1000
 alts:∀ a∈r.fU,yB a
structure uO (s:Source):Prop where
 TI:s.bA.size<=ff
 EF:s.Decls.length<=1000
 decls:∀ d∈s.Decls,H_ d
 aP:s.eG.length<=1000
 rules:∀ r∈s.eG,Nz r
theorem t116 (x:Sym) (a b:Bool) (h:x.Name.size<=ff):Tot (vS x a b) λr=>r=true->lE x:=by
 unfold vS
 refine Tot.cv (λao=>?_) (λao=>?_)
 ·refine Tot.aJ (Ξ:=λc=>c=false->x.Name.size=1) ?_ λc ab=>Tot.cv (λ_=>.aB λh=>by cases h) (λal=>?_)
  ·refine Tot.cv (λ_=>.aB λh=>by cases h) (λ_=>Tot.qy (λ_=>.aB λh=>by cases h) (λh1=>.aB λ_=>by omega))
  ·have h1:=ab al
   refine .aJ (Ξ:=λ_=>True) (Tot.nr (by omega) trivial) λ_ _=>.aJ (t120 _) λ_ _=>.aB λ_ _=>h1
 ·have e8:lE x:=λh=>by rw [ao] at h; cases h
  refine Tot.aJ (Ξ:=λ_=>True) ?_ λc ab=>.aB λ_=>e8
  refine .aJ (t111 _ h) λc _=>?_
  repeat' first | refine Tot.cv (λ_=>?_) (λ_=>?_) | exact Tot.aB trivial
theorem t110 (d:Decl) (h:H_ d):Tot (AN d) λr=>r=true->∀ x∈d.fo,lE x:=by
 unfold AN
 refine Tot.aJ (Ξ:=λ_=>True) ?_ λc _=>Tot.cv (λ_=>.aB λh=>by cases h) (λ_=>?_)
 ·have aD:=(t111 _ h.tag).use (Φ:=λ_=>True) λ_ _=>trivial
  repeat' first | refine Tot.cv (λ_=>?_) (λ_=>?_) | exact Tot.aB trivial | refine .aJ aD λ_ _=>?_
 ·refine Tot.aJ (Tot.scan d.fo (λx=>lE x) (λr=>r=false) (by have:=h.n; omega) (λs y bb h1 hi hm=>?_) (λs aN=>by simp [aN])) λx J=>?_
  ·refine Tot.b8 (λ_=>?_) (λh=>absurd h1 h)
   rw [hi]
   refine Tot.au ?_
   refine .aJ (t116 _ _ _ (h.syms _ hm)) λc ab=>Tot.cv (λ_=>.aB rfl) (λal=>.aB ⟨?_,ab (by simpa using al)⟩)
   have:=h.n
   rw [dK]; omega
  ·rcases x with _ | r
   ·exact .aB λ_=>J
   ·exact .aB λh=>by have:r=false:=J; rw [this] at h; cases h
theorem t112 (a:Alt) (h:yB a):Tot (AO a) λr=>r=true->(∀ p∈a.jC,lE p.Sym)/\lE a.Prec:=by
 unfold AO
 refine Tot.aJ (Tot.scan a.jC (λp=>lE p.Sym) (λr=>r=false) (by have:=h.n; omega) (λs y bb h1 hi hm=>?_) (λs aN=>by simp [aN])) λx J=>?_
 ·refine Tot.b8 (λ_=>?_) (λh=>absurd h1 h)
  rw [hi]
  refine Tot.au ?_
  have aG:=h.parts _ hm
  have t1:=t116 y.Sym false true aG.1
  have t2:=t118 y.Sym
  have MR:=t119 y.Code aG.2
  have hw:aQ (s+1)=s+1:=by have:=h.n; rw [dK]; omega
  rw [hw]
  have n118:(y.Sym.Name={ data:=#[] }/\y.Sym.Lit=false)->lE y.Sym:=λh ao=>by rw [h.2] at ao; cases ao
  refine Tot.aJ (Ξ:=λc=>c=false->lE y.Sym) ?_ λc ab=>Tot.cv (λ_=>.aB rfl) (λal=>.aB ⟨rfl,ab al⟩)
  refine Tot.b8 (λ_=>?_) (λeI=>?_)
  ·refine .aJ t1 λc ab=>Tot.cv (λ_=>.aB λh=>by cases h) (λal=>?_)
   have e8:=ab (by simpa using al)
   refine Tot.cv (λ_=>?_) (λ_=>.aB λ_=>e8)
   refine .aJ t2 λc _=>Tot.cv (λ_=>.aB λ_=>e8) (λ_=>?_)
   exact .aJ MR λ_ _=>.aB λ_=>e8
  ·refine Tot.qy (λ_=>?_) (λh=>.aB λ_=>?_)
   ·refine .aJ t2 λc ab=>Tot.cv (λ_=>.aB λh=>by cases h) (λal=>?_)
    have e8:=n118 (ab (by simpa using al))
    exact .aJ MR λ_ _=>.aB λ_=>e8
   ·exact absurd h eI
 ·rcases x with _ | r
  ·have J:∀ p∈a.jC,lE p.Sym:=J
   refine Tot.aJ (Ξ:=λc=>c=true->lE a.Prec) ?_ λc ab=>.aB λh=>⟨J,ab h⟩
   refine .aJ (t118 _) λc ab=>Tot.cv (λal=>.aB λ_=>?_) (λ_=>.aJ (t116 _ _ _ h.prec) λc ab=>.aB ab)
   intro ao; rw [(ab al).2] at ao; cases ao
  ·exact .aB λh=>by have:r=false:=J; rw [this] at h; cases h
structure BM (a:Alt):Prop where
 parts:∀ p∈a.jC,lE p.Sym
 prec:lE a.Prec
structure Ik (s:Source):Prop where
 decls:∀ d∈s.Decls,∀ x∈d.fo,lE x
 rules:∀ r∈s.eG,∀ a∈r.fU,BM a
 pos:0<s.eG.length
theorem t92 (s:Source) (h:uO s):Tot (Bh s) λr=>r=true->Ik s:=by
 unfold Bh
 refine Tot.aJ (Ξ:=iB (λ_=>True) (λr=>r=false)) ?_ λx J=>?_
 ·have aG:(s.bA.size:Int)<=1000000000000:=by have:=h.TI; simp only [ff] at this; omega
  refine Tot.count (λae=>ae) s.bA.size (λae=>0<=ae/\ae<=s.bA.size) ⟨by omega,by omega⟩ (by show (s.bA.size:Int) - 0<_; omega) λae aa=>?_
  have dt:aQ (ae+1)=ae+1:=by rw [dK]; omega
  have c3:aQ (ae+2)=ae+2:=by rw [dK]; omega
  rw [dt,c3]
  refine Tot.b8 (λal=>?_) (λ_=>.aB trivial)
  refine .aJ (Ξ:=λ_=>True) (Tot.cut (by omega) trivial) λ_ _=>Tot.cv (λ_=>.aB rfl) (λ_=>.aB ?_)
  show ((0:Int)<=ae+1/\ae+1<=s.bA.size)/\ae<ae+1/\ae+1<=s.bA.size; omega
 ·rcases x with _ | r
  ·refine Tot.aJ (Tot.scan s.Decls (λd=>∀ x∈d.fo,lE x) (λr=>r=false) (by have:=h.EF; omega) (λi y bb h1 hi hm=>?_) (λs aN=>by simp [aN])) λx J=>?_
   ·refine Tot.b8 (λ_=>?_) (λh=>absurd h1 h)
    rw [hi]
    refine Tot.au ?_
    refine .aJ (t110 _ (h.decls _ hm)) λc ab=>Tot.cv (λ_=>.aB rfl) (λal=>.aB ⟨?_,ab (by simpa using al)⟩)
    have:=h.EF
    rw [dK]; omega
   ·rcases x with _ | r
    ·have J:∀ d∈s.Decls,∀ x∈d.fo,lE x:=J
     refine Tot.aJ (Tot.scan s.eG (λr=>∀ a∈r.fU,BM a) (λr=>r=false) (by have:=h.aP; omega) (λi y bb h1 hi hm=>?_) (λs aN=>by simp [aN])) λx hZ=>?_
     ·refine Tot.b8 (λ_=>?_) (λh=>absurd h1 h)
      rw [hi]
      refine Tot.au ?_
      have ax:=h.rules _ hm
      have hw:aQ (i+1)=i+1:=by have:=h.aP; rw [dK]; omega
      rw [hw]
      refine .aJ (Ξ:=λ_=>True) (.aJ (t111 _ ax.left) λc _=>Tot.cv (λ_=>.aB trivial) (λ_=>.aB trivial)) λc _=>Tot.cv (λ_=>.aB rfl) (λ_=>?_)
      refine Tot.aJ (Tot.scan y.fU BM (λr=>r=false) (by have:=ax.n; omega) (λk a bb h1 hi hm=>?_) (λs aN=>by simp [aN])) λx hd=>?_
      ·refine Tot.b8 (λ_=>?_) (λh=>absurd h1 h)
       rw [hi]
       refine Tot.au ?_
       refine .aJ (t112 _ (ax.alts _ hm)) λc ab=>Tot.cv (λ_=>.aB rfl) (λal=>.aB ⟨?_,⟨(ab (by simpa using al)).1,(ab (by simpa using al)).2⟩⟩)
       have:=ax.n
       rw [dK]; omega
      ·rcases x with _ | r
       ·exact .aB ⟨rfl,hd⟩
       ·exact .aB hd
     ·rcases x with _ | r
      ·exact .aB λh=>⟨J,hZ,by have:=of_decide_eq_true h; omega⟩
      ·exact .aB λh=>by have:r=false:=hZ; rw [this] at h; cases h
    ·exact .aB λh=>by have:r=false:=J; rw [this] at h; cases h
  ·exact .aB λh=>by have:r=false:=J; rw [this] at h; cases h
abbrev jj:=cR
structure tn (m m':jj):Prop where
 g:m'.aq=m.aq
 iu:m'.bZ=m.bZ
 ty:m'.bV=m.bV
 hR:m'.bH=m.bH
 jR:m'.bU=m.bU
 hA:m'.bD=m.bD
theorem t94 (m:jj) (a:Int) (n:ByteArray):Tot (nH m a n) λm'=>tn m m'/\m'.cd≠0:=by
 unfold nH
 apply Tot.bi
 refine Tot.b8 (λ_=>.aB (.aB ⟨⟨rfl,rfl,rfl,rfl,rfl,rfl⟩,?_⟩)) (λh=>.aB (.aB ⟨⟨rfl,rfl,rfl,rfl,rfl,rfl⟩,h⟩))
 show (3:Int)≠0; decide
theorem t98 (m:jj) (n:ByteArray) (h:m.bV.length<=ff):Tot (ye m n) λr=>r=-1\/(0<=r/\r<m.bV.length):=by
 unfold ye
 simp only [ff] at h
 refine Tot.aJ (Tot.scan m.bV (λ_=>True) (λr:Int=>0<=r/\r<m.bV.length) (by omega) (λs y bb h1 hi hm=>?_) (λs aN=>by simp [aN])) λx J=>?_
 ·refine Tot.b8 (λ_=>?_) (λh=>absurd h1 h)
  rw [hi]
  refine Tot.au ?_
  refine Tot.cv (λ_=>.aB ⟨bb,h1⟩) (λ_=>.aB ⟨?_,trivial⟩)
  rw [dK]; omega
 ·rcases x with _ | r
  ·exact .aB (.inl rfl)
  ·exact .aB (.inr J)
theorem t96 (m:jj) (n:ByteArray) (h:m.bH.length<=ff):Tot (rQ m n) λr=>(r=-1/\∀ x∈m.bH,x≠n)\/(0<=r/\r<m.bH.length/\m.bH[r.toNat]?=some n):=by
 unfold rQ
 simp only [ff] at h
 refine Tot.aJ (Tot.scan m.bH (λx=>x≠n) (λr:Int=>0<=r/\r<m.bH.length/\m.bH[r.toNat]?=some n) (by omega) (λs y bb h1 hi hm=>?_) (λs aN=>by simp [aN])) λx J=>?_
 ·refine Tot.b8 (λ_=>?_) (λh=>absurd h1 h)
  rw [hi]
  refine Tot.au ?_
  refine Tot.b8 (λe=>.aB ⟨bb,h1,by rw [<- e]; exact (qX hi).2.2⟩) (λe=>.aB ⟨?_,e⟩)
  rw [dK]; omega
 ·rcases x with _ | r
  ·exact .aB (.inl ⟨rfl,J⟩)
  ·exact .aB (.inr J)
theorem t95 (m:jj) (x:Sym) (h:m.aq.a'.length<=ff):Tot (v_ m x) λr=>r=-1\/(1<=r/\r<m.aq.a'.length):=by
 unfold v_
 simp only [ff] at h
 refine Tot.aJ (Ξ:=iB (λ_=>True) (λr=>1<=r/\r<m.aq.a'.length)) ?_ λx J=>?_
 ·refine Tot.count (λae=>ae) m.aq.a'.length (λae=>1<=ae) (by omega) (by show (m.aq.a'.length:Int) - 1<_; omega) λae aa=>?_
  refine Tot.b8 (λal=>?_) (λ_=>.aB trivial)
  have e:aQ (ae+1)=ae+1:=by rw [dK]; omega
  rw [e]
  refine .aJ (Ξ:=λ_=>True) ?_ λc _=>Tot.cv (λ_=>.aB ⟨aa,al⟩) (λ_=>.aB ?_)
  ·refine .aJ (Ξ:=λ_=>True) (Tot.hC (by omega) al λ_ _ _=>trivial) λ_ _=>Tot.cv (λ_=>?_) (λ_=>.aB trivial)
   exact .aJ (Ξ:=λ_=>True) (Tot.hC (by omega) al λ_ _ _=>trivial) λ_ _=>Tot.cv (λ_=>.aB trivial) (λ_=>.aB trivial)
  ·show (1:Int)<=ae+1/\ae<ae+1/\ae+1<=m.aq.a'.length; omega
 ·rcases x with _ | r
  ·exact .aB (.inl rfl)
  ·exact .aB (.inr J)
theorem t114 (m:jj) (n:Int) (h:m.aq.a'.length<=ff):Tot (x3 m n) λ_=>True:=by
 unfold x3
 simp only [ff] at h
 refine Tot.aJ (Ξ:=λ_=>True) ?_ λx J=>?_
 ·refine Tot.count (λae=>ae) m.aq.a'.length (λae=>1<=ae) (by decide) (by show (m.aq.a'.length:Int) - 3<_; omega) λae aa=>?_
  refine Tot.b8 (λal=>?_) (λ_=>.aB trivial)
  have e:aQ (ae+1)=ae+1:=by rw [dK]; omega
  rw [e]
  refine .aJ (Ξ:=λ_=>True) (Tot.hC (by omega) al λ_ _ _=>trivial) λc _=>Tot.cv (λ_=>.aB trivial) (λ_=>.aB ?_)
  show (1:Int)<=ae+1/\ae<ae+1/\ae+1<=m.aq.a'.length; omega
 ·rcases x with _ | r <;> exact .aB trivial
structure Grow (m m':jj) (k:Nat):Prop where
 iu:m'.bZ.length=m'.aq.a'.length
 lo:m.aq.a'.length<=m'.aq.a'.length
 hi:m'.aq.a'.length<=m.aq.a'.length+k
 ty:m'.bV.length<=m.bV.length+k
 hR:m'.bH=m.bH
 hp:m'.aq.ba=m.aq.ba
 hA:m'.bD=m.bD
 lvl:m'.bU=m.bU
 jR:0<=m.bU->(∀ t∈m.aq.a',0<=t.Level)->∀ t∈m'.aq.a',0<=t.Level
theorem tn.grow {m m':jj}(h:tn m m') (a8:m.bZ.length=m.aq.a'.length) (k:Nat):Grow m m' k:=by
 obtain ⟨h1,al,aO,b4,df,eL⟩:=h
 exact ⟨by rw [h1,al]; exact a8,by rw [h1]; omega,by rw [h1]; omega,by rw [aO]; omega,b4,by rw [h1],eL,df,by rw [h1]; exact λ_ h=>h⟩
theorem t113 (m:jj) (x:Sym) (a8:m.bZ.length=m.aq.a'.length) (h:m.aq.a'.length<=100000000000) (J:lE x) :
  Tot (x1 m x) λr=>Grow m r.2 1/\0<=r.1/\r.1<r.2.aq.a'.length:=by
 unfold x1
 refine .aJ (t95 m x (by simp only [ff]; omega)) λt aD=>Tot.b8 (λbb=>.aB ⟨⟨a8,Nat.le_refl _,Nat.le_succ _,Nat.le_succ _,rfl,rfl,rfl,rfl,λ_ h=>h⟩,bb,?_⟩) (λ_=>?_)
 ·rcases aD with rfl | aD
  ·exact absurd bb (by decide)
  ·exact aD.2
 ·refine Tot.aJ (Ξ:=λae=>tn m ae.1) ?_ λae aa=>?_
  ·refine Tot.cv (λao=>?_) (λ_=>.aB ⟨rfl,rfl,rfl,rfl,rfl,rfl⟩)
   have:=J ao
   refine .aJ (Ξ:=λ_=>True) (Tot.nr (by omega) trivial) λb _=>.aJ (t114 m _ (by simp only [ff]; omega)) λo _=>?_
   refine Tot.aJ (Ξ:=λae=>tn m ae) ?_ λae aa=>.aB aa
   exact Tot.cv (λ_=>.aJ (t94 m _ _) λm' hm=>.aB hm.1) (λ_=>.aB ⟨rfl,rfl,rfl,rfl,rfl,rfl⟩)
  ·obtain ⟨h1,al,aO,b4,df,eL⟩:=aa
   have bc:ae.1.aq.a'.length=m.aq.a'.length:=by rw [h1]
   have KV:ae.1.bZ.length=m.bZ.length:=by rw [al]
   refine .aJ (Ξ:=λ_=>True) (Tot.ap (by rw [bc]; simp [lim]; omega) trivial) λ_ _=>.aJ (Ξ:=λ_=>True) (Tot.ap (by rw [KV]; simp [lim]; omega) trivial) λ_ _=>.aB ?_
   refine ⟨⟨?_,?_,?_,?_,b4,by show ae.1.aq.ba=_; rw [h1],eL,df,?_⟩,?_,?_⟩
   ·show (ae.1.bZ++[x.Lit]).length=(ae.1.aq.a'++[_]).length
    simp [bc,KV,a8]
   ·show _<=(ae.1.aq.a'++[_]).length
    simp [bc]
   ·show (ae.1.aq.a'++[_]).length<=_
    simp [bc]
   ·show ae.1.bV.length<=_
    rw [aO]; omega
   ·intro _ ao t aD
    rcases List.mem_append.1 aD with aD | aD
    ·rw [h1] at aD; exact ao t aD
    ·rw [List.mem_singleton.1 aD]; exact Int.le_refl 0
   ·show 0<=aQ (((ae.1.aq.a'++[_]).length:Int) - 1)
    rw [dK]; simp [bc]; omega
   ·show aQ (((ae.1.aq.a'++[_]).length:Int) - 1)<((ae.1.aq.a'++[_]).length:Int)
    rw [dK]; simp [bc]; omega
structure nq (m m':jj):Prop where
 tk:m'.aq.a'.length=m.aq.a'.length
 iu:m'.bZ.length=m.bZ.length
 ty:m'.bV=m.bV
 hR:m'.bH=m.bH
 hp:m'.aq.ba=m.aq.ba
 hA:m'.bD=m.bD
 lvl:m'.bU=m.bU
 jR:0<=m.bU->(∀ t∈m.aq.a',0<=t.Level)->∀ t∈m'.aq.a',0<=t.Level
theorem nq.refl (m:jj):nq m m:=⟨rfl,rfl,rfl,rfl,rfl,rfl,rfl,λ_ h=>h⟩
theorem nq.trans {m m' AD:jj}(h:nq m m') (aT:nq m' AD):nq m AD:=⟨aT.tk.trans h.tk,aT.iu.trans h.iu,aT.ty.trans h.ty,aT.hR.trans h.hR,aT.hp.trans h.hp,aT.hA.trans h.hA,aT.lvl.trans h.lvl,λbb ao=>aT.jR (by rw [h.lvl]; exact bb) (h.jR bb ao)⟩
theorem tn.tk {m m':jj}(h:tn m m'):nq m m':=⟨by rw [h.g],by rw [h.iu],h.ty,h.hR,by rw [h.g],h.hA,h.jR,by rw [h.g]; exact λ_ h=>h⟩
theorem Grow.tk {m m' AD:jj}{k:Nat}(h:Grow m m' k) (aT:nq m' AD):Grow m AD k :=
 ⟨by rw [aT.iu,aT.tk]; exact h.iu,by rw [aT.tk]; exact h.lo,by rw [aT.tk]; exact h.hi,by rw [aT.ty]; exact h.ty,aT.hR.trans h.hR,aT.hp.trans h.hp,aT.hA.trans h.hA,aT.lvl.trans h.lvl,λbb ao=>aT.jR (by rw [h.lvl]; exact bb) (h.jR bb ao)⟩
theorem vJ {α:Type}{l:List α}{i:Nat}{x y:α}(h:y∈l.set i x):y∈l\/y=x:=List.mem_or_eq_of_mem_set h
theorem t93 (m:jj) (d:Decl) (x:Sym) (a8:m.bZ.length=m.aq.a'.length) (h:m.aq.a'.length<=100000000000) (aD:m.bV.length<=100000000000) (J:lE x) :
  Tot (Bi m d x) λm'=>Grow m m' 1:=by
 unfold Bi
 refine Tot.cv (λ_=>?_) (λ_=>?_)
 ·refine .aJ (t98 m x.Name (by simp only [ff]; omega)) λk hk=>Tot.aJ (Ξ:=λm'=>Grow m m' 1) ?_ λm' hm=>.aB hm
  refine Tot.b8 (λ_=>?_) (λbb=>?_)
  ·refine .aJ (Ξ:=λ_=>True) (Tot.ap (by simp [lim]; omega) trivial) λ_ _=>.aB ⟨a8,Nat.le_refl _,Nat.le_succ _,?_,rfl,rfl,rfl,rfl,λ_ h=>h⟩
   show (m.bV++[_]).length<=_
   simp
  ·refine .aJ (Ξ:=λ_=>True) (Tot.hC (by omega) (by omega) λ_ _ _=>trivial) λ_ _=>Tot.aJ (Ξ:=λm'=>Grow m m' 1) ?_ λm' hm=>.aB hm
   exact Tot.cv (λ_=>.aJ (t94 m _ _) λm' hm=>.aB (hm.1.grow a8 1)) (λ_=>.aB ⟨a8,Nat.le_refl _,Nat.le_succ _,Nat.le_succ _,rfl,rfl,rfl,rfl,λ_ h=>h⟩)
 ·refine .aJ (t113 m x a8 h J) λr ⟨ax,bb,h1⟩=>?_
  have hC:∀ {m':jj},nq r.2 m'->Tot (idx m'.aq.a' r.1) λy=>y∈m'.aq.a':=λhm=>Tot.hC bb (by rw [hm.tk]; exact h1) λ_ _ h=>h
  have LD:∀ {m':jj},nq r.2 m'->Tot (idx m'.bZ r.1) λ_=>True:=λhm=>Tot.hC bb (by rw [hm.iu,ax.iu]; exact h1) λ_ _ _=>trivial
  refine .aJ (hC (.refl _)) λy _=>?_
  refine Tot.aJ (Ξ:=λm'=>nq r.2 m') ?_ λfr xm=>?_
  ·refine Tot.cv (λ_=>?_) (λ_=>.aB (.refl _))
   refine Tot.aJ (Ξ:=λm'=>nq r.2 m') ?_ λdr zw=>?_
   ·exact Tot.cv (λ_=>.aJ (t94 r.2 _ _) λm' hm=>.aB ⟨rfl,hm.1.tk.iu,hm.1.tk.ty,hm.1.tk.hR,hm.1.tk.hp,hm.1.tk.hA,hm.1.tk.lvl,λ_ h=>h⟩) (λ_=>.aB (.refl _))
   ·refine .aJ (hC zw) λ_ _=>.aB (zw.trans ⟨?_,rfl,rfl,rfl,rfl,rfl,rfl,λao aD t b9=>?_⟩)
    ·show ((dr.aq.a'.set _ _).set _ _).length=_
     simp
    ·rcases vJ b9 with b9 | rfl
     ·rcases vJ b9 with b9 | rfl
      ·exact aD t b9
      ·exact ao
     ·exact ao
  ·refine .aJ (hC xm) λ_ _=>?_
   refine Tot.aJ (Ξ:=λm'=>nq r.2 m') ?_ λf' Cy=>?_
   ·refine Tot.cv (λ_=>?_) (λ_=>.aB xm)
    refine .aJ (Ξ:=λ_=>True) ?_ λc _=>?_
    ·refine Tot.cv (λ_=>.aB trivial) (λ_=>.aJ (LD xm) λ_ _=>Tot.cv (λ_=>.aB trivial) (λ_=>.aJ (t114 fr _ ?_) λ_ _=>.aB trivial))
     have:=xm.tk; have:=ax.hi; simp only [ff]; omega
    ·refine Tot.aJ (Ξ:=λm'=>nq r.2 m') ?_ λek E3=>?_
     ·exact Tot.cv (λ_=>.aJ (t94 fr _ _) λm' hm=>.aB (xm.trans ⟨rfl,hm.1.tk.iu,hm.1.tk.ty,hm.1.tk.hR,hm.1.tk.hp,hm.1.tk.hA,hm.1.tk.lvl,λ_ h=>h⟩)) (λ_=>.aB xm)
     ·refine .aJ (hC E3) λy az=>.aJ (LD E3) λ_ _=>.aB (E3.trans ⟨?_,?_,rfl,rfl,rfl,rfl,rfl,λao aD t b9=>?_⟩)
      ·show (ek.aq.a'.set _ _).length=_; simp
      ·show (ek.bZ.set _ _).length=_; simp
      ·rcases vJ b9 with b9 | rfl
       ·exact aD t b9
       ·exact (aD y az:0<=y.Level)
   ·refine .aJ (hC Cy) λ_ _=>?_
    refine Tot.aJ (Ξ:=λm'=>nq r.2 m') ?_ λoJ Ke=>.aB (ax.tk Ke)
    refine Tot.cv (λ_=>?_) (λ_=>.aB Cy)
    refine .aJ (Ξ:=λ_=>True) (Tot.cv (λ_=>.aB trivial) (λ_=>.aB trivial)) λc _=>?_
    refine Tot.aJ (Ξ:=λm'=>nq r.2 m') ?_ λgA Kf=>?_
    ·exact Tot.cv (λ_=>.aJ (t94 f' _ _) λm' hm=>.aB (Cy.trans ⟨rfl,hm.1.tk.iu,hm.1.tk.ty,hm.1.tk.hR,hm.1.tk.hp,hm.1.tk.hA,hm.1.tk.lvl,λ_ h=>h⟩)) (λ_=>.aB Cy)
    ·refine .aJ (hC Kf) λy az=>.aB (Kf.trans ⟨?_,rfl,rfl,rfl,rfl,rfl,rfl,λao aD t b9=>?_⟩)
     ·show (gA.aq.a'.set _ _).length=_; simp
     ·rcases vJ b9 with b9 | rfl
      ·exact aD t b9
      ·exact (aD y az:0<=y.Level)
def pK (T:Nat) (N:Int) (s:Int):Prop:=(0<=s/\s<T)\/(1000<=s/\s<=1000+N)
theorem pK.mono {T T':Nat}{N i_ s:Int}(h:pK T N s) (fM:T<=T') (bW:N<=i_):pK T' i_ s:=by
 rcases h with h | h
 ·exact .inl (by omega)
 ·exact .inr (by omega)
theorem t115 (m:jj) (x:Sym) (a8:m.bZ.length=m.aq.a'.length) (aO:3<=m.aq.a'.length) (h:m.aq.a'.length<=100000000000) (ao:m.bH.length<=100000000000) (J:lE x) :
  Tot (uk m x) λr=>Grow m r.2 1/\pK r.2.aq.a'.length m.bH.length r.1:=by
 unfold uk
 have qI:Grow m m 1:=⟨a8,Nat.le_refl _,Nat.le_succ _,Nat.le_succ _,rfl,rfl,rfl,rfl,λ_ h=>h⟩
 refine Tot.cv (λ_=>?_) (λ_=>?_)
 ·exact .aJ (t113 m x a8 h J) λr ⟨ax,bb,h1⟩=>.aB ⟨ax,.inl ⟨bb,h1⟩⟩
 ·refine .aJ (t96 m x.Name (by simp only [ff]; omega)) λk hk=>Tot.b8 (λbb=>.aB ⟨qI,.inr ?_⟩) (λ_=>?_)
  ·show 1000<=aQ (1001+k)/\aQ (1001+k)<=1000+(m.bH.length:Int)
   rw [dK]
   rcases hk with hk | hk <;> omega
  ·refine .aJ (t95 m x (by simp only [ff]; omega)) λt aD=>Tot.b8 (λ_=>?_) (λbb=>.aB ⟨qI,.inl ?_⟩)
   ·refine .aJ (t94 m _ _) λm' hm=>.aB ⟨hm.1.grow a8 1,.inl ⟨Int.le_refl 0,?_⟩⟩
    show (0:Int)<(m'.aq.a'.length:Int)
    rw [hm.1.g]; omega
   ·show 0<=t/\t<(m.aq.a'.length:Int)
    rcases aD with aD | aD <;> omega
theorem Ux (m:jj) (x:Sym) (a8:m.bZ.length=m.aq.a'.length) (aO:3<=m.aq.a'.length) (h:m.aq.a'.length<=100000000000) (ao:m.bH.length<=100000000000) (J:lE x) (aD:x.Lit=true\/∀ y∈m.bH,y≠x.Name) :
  Tot (uk m x) λr=>Grow m r.2 1/\0<=r.1/\r.1<r.2.aq.a'.length:=by
 unfold uk
 have qI:Grow m m 1:=⟨a8,Nat.le_refl _,Nat.le_succ _,Nat.le_succ _,rfl,rfl,rfl,rfl,λ_ h=>h⟩
 refine Tot.cv (λ_=>?_) (λRP=>?_)
 ·exact .aJ (t113 m x a8 h J) λr ⟨ax,bb,h1⟩=>.aB ⟨ax,bb,h1⟩
 ·have aD:∀ y∈m.bH,y≠x.Name:=aD.resolve_left (by rw [RP]; decide)
  refine .aJ (t96 m x.Name (by simp only [ff]; omega)) λk hk=>Tot.b8 (λbb=>?_) (λ_=>?_)
  ·rcases hk with ⟨rfl,_⟩ | ⟨h1,al,aO⟩
   ·exact absurd bb (by decide)
   ·exact absurd rfl (aD _ (List.mem_of_getElem? aO))
  ·refine .aJ (t95 m x (by simp only [ff]; omega)) λt aD=>Tot.b8 (λ_=>?_) (λbb=>.aB ⟨qI,?_⟩)
   ·refine .aJ (t94 m _ _) λm' hm=>.aB ⟨hm.1.grow a8 1,Int.le_refl 0,?_⟩
    show (0:Int)<(m'.aq.a'.length:Int)
    rw [hm.1.g]; omega
   ·show 0<=t/\t<(m.aq.a'.length:Int)
    rcases aD with aD | aD <;> omega
structure yK (T:Nat) (N:Int) (p:Prod):Prop where
 left:0<=p.Left/\p.Left<=N
 right:∀ s∈p.fx,pK T N s
 prec:-1<=p.Prec/\p.Prec<T
theorem yK.mono {T T':Nat}{N i_:Int}{p:Prod}(h:yK T N p) (fM:T<=T') (bW:N<=i_):yK T' i_ p :=
 ⟨⟨h.left.1,by have:=h.left.2; omega⟩,λs aN=>(h.right s aN).mono fM bW,⟨h.prec.1,by have:=h.prec.2; omega⟩⟩
structure kP (m:jj) (T L I Q:Nat):Prop where
 iu:m.bZ.length=m.aq.a'.length
 lo:3<=m.aq.a'.length
 hi:m.aq.a'.length<=T
 ty:m.bV.length<=T
 hR:m.bH.length=L
 hA:0<=m.bD/\m.bD<=I
 yf:m.aq.ba.length<=Q
 hp:∀ p∈m.aq.ba,yK m.aq.a'.length (L+m.bD) p
 lvl:0<=m.bU
 jR:∀ t∈m.aq.a',0<=t.Level
theorem kP.mono {m:jj}{T L I Q T' I' Ii:Nat}(h:kP m T L I Q) (fM:T<=T') (bt:I<=I') (dX:Q<=Ii):kP m T' L I' Ii :=
 ⟨h.iu,h.lo,by have:=h.hi; omega,by have:=h.ty; omega,h.hR,⟨h.hA.1,by have:=h.hA.2; omega⟩,by have:=h.yf; omega,h.hp,h.lvl,h.jR⟩
theorem kP.grow {m m':jj}{T L I Q k:Nat}(h:kP m T L I Q) (g:Grow m m' k):kP m' (T+k) L I Q :=
 ⟨g.iu,by have:=h.lo; have:=g.lo; omega,by have:=h.hi; have:=g.hi; omega,by have:=h.ty; have:=g.ty; omega,by rw [g.hR]; exact h.hR,by rw [g.hA]; exact h.hA,by rw [g.hp]; exact h.yf,
  by rw [g.hp,g.hA]; exact λp aG=>(h.hp p aG).mono g.lo (by omega),by rw [g.lvl]; exact h.lvl,g.jR h.lvl h.jR⟩
theorem t97 (m:jj) (left:ByteArray) (a:Alt) {T L I Q:Nat}(hm:kP m T L I Q) (fM:T<=10000000000) (ll:L<=10000000000) (bt:I<=10000000000) (dX:Q<=10000000000) (aH:yB a) (e8:BM a) :
  Tot (Bj m left a) λm'=>kP m' (T+1001) L (I+1000) (Q+1001)/\1<=m'.aq.ba.length:=by
 unfold Bj
 have aL:=aH.n
 refine .aJ (t96 m left (by rw [hm.hR]; simp only [ff]; omega)) λaF fI=>?_
 have Wd:-1<=aF/\aF<L:=by rw [<- hm.hR]; rcases fI with h | h <;> omega
 refine Tot.aJ (Ξ:=λa_=>kP a_.1 (T+1000) L (I+1000) (Q+1000)/\(∀ s∈a_.2.1,pK a_.1.aq.a'.length (L+a_.1.bD) s)/\a_.2.1.length<=1000) ?_ λa_ hd=>?_
 ·refine Tot.count (λs=>s.2.2.2.2) a.jC.length (λs=>0<=s.2.2.2.2/\s.2.2.2.2<=a.jC.length/\kP s.1 (T+s.2.2.2.2.toNat) L (I+s.2.2.2.2.toNat) (Q+s.2.2.2.2.toNat)/\(∀ y∈s.2.1,pK s.1.aq.a'.length (L+s.1.bD) y)/\s.2.1.length<=s.2.2.2.2.toNat) ⟨by show (0:Int)<=0; omega,by show (0:Int)<=_; omega,hm,by simp,Nat.le_refl 0⟩ (by show (a.jC.length:Int) - 0<_; omega) λs aN=>?_
  obtain ⟨m1,rt,cv,at_,i⟩:=s
  obtain ⟨bb,h1,aa,ax,ao⟩:=aN
  simp only at bb h1 aa ax ao ⊢
  have hw:aQ (i+1)=i+1:=by rw [dK]; omega
  have dt:(i+1).toNat=i.toNat+1:=by omega
  refine Tot.b8 (λbc=>?_) (λ_=>.aB ⟨aa.mono (by omega) (by omega) (by omega),ax,by show rt.length<=1000; omega⟩)
  refine Tot.aJ (Ξ:=λae=>kP ae.1 (T+(i.toNat+1)) L (I+(i.toNat+1)) (Q+(i.toNat+1))/\(∀ y∈ae.2.1,pK ae.1.aq.a'.length (L+ae.1.bD) y)/\ae.2.1.length<=i.toNat+1) ?_ λae FN=>?_
  ·refine Tot.aJ (Tot.hC (Φ:=λy=>y∈a.jC) bb bc λy _ az=>az) λy az=>?_
   refine Tot.aJ (Ξ:=λae=>kP ae.1 (T+(i.toNat+1)) L (I+(i.toNat+1)) (Q+(i.toNat+1))/\(∀ y∈ae.2.1,pK ae.1.aq.a'.length (L+ae.1.bD) y)/\ae.2.1.length<=i.toNat+1) ?_ λae FO=>.aB FO
   refine Tot.aJ (Ξ:=λae=>kP ae.1 (T+(i.toNat+1)) L (I+(i.toNat+1)) (Q+(i.toNat+1))/\(∀ y∈ae.2.1,pK ae.1.aq.a'.length (L+ae.1.bD) y)/\ae.2.1.length<=i.toNat+1) ?_ λae FO=>.aB FO
   refine Tot.cv (λ_=>?_) (λ_=>?_)
   ·have b9:=aa.hi
    refine .aJ (t115 m1 y.Sym aa.iu aa.lo (by omega) (by rw [aa.hR]; omega) (e8.parts y az)) λr ⟨a8,Lc⟩=>?_
    refine .aJ (Ξ:=λ_=>True) (Tot.ap (by simp [lim]; omega) trivial) λ_ _=>.aB ⟨(aa.grow a8).mono (by omega) (by omega) (by omega),λz bM=>?_,by simp; omega⟩
    rcases List.mem_append.1 bM with bM | bM
    ·exact (ax z bM).mono a8.lo (by show (L:Int)+m1.bD<=L+r.2.bD; rw [a8.hA]; omega)
    ·rw [List.mem_singleton.1 bM]
     rw [aa.hR] at Lc
     exact Lc.mono (Nat.le_refl _) (by show (L:Int)<=L+r.2.bD; rw [a8.hA]; have:=aa.hA.1; omega)
   ·refine Tot.aJ (Ξ:=λae=>kP (⟨(⟨m1.aq.a',m1.aq.bu,ae.1,m1.aq.bA,m1.aq.bF⟩:b_),m1.bZ,m1.bV,m1.bH,m1.cd,m1.cg,m1.cc,m1.bU,ae.2.1⟩:cR) (T+(i.toNat+1)) L (I+(i.toNat+1)) (Q+(i.toNat+1))/\(∀ y∈ae.2.2.1,pK m1.aq.a'.length (L+ae.2.1) y)/\ae.2.2.1.length<=i.toNat+1) ?_ λae RH=>.aB RH
    refine Tot.cv (λ_=>.aB ⟨⟨aa.iu,aa.lo,by have:=aa.hi; show m1.aq.a'.length<=_; omega,by have:=aa.ty; show m1.bV.length<=_; omega,aa.hR,⟨aa.hA.1,by have:=aa.hA.2; show m1.bD<=_; omega⟩,by have:=aa.yf; show m1.aq.ba.length<=_; omega,aa.hp,aa.lvl,aa.jR⟩,ax,by show rt.length<=_; omega⟩) (λ_=>?_)
    have tT:=aa.hA
    have xu:=aa.hR
    have z6:=aa.yf
    have jx:aQ (m1.bD+1)=m1.bD+1:=by rw [dK]; omega
    have ik:aQ (((m1.bH.length:Int))+(m1.bD+1))=L+(m1.bD+1):=by rw [dK,xu]; omega
    have UT:aQ (1000+(m1.bH.length:Int))=1000+L:=by rw [dK,xu]; omega
    have UU:aQ (1000+(L:Int)+(m1.bD+1))=1000+(L:Int)+(m1.bD+1):=by rw [dK]; omega
    rw [jx,ik,UT,UU]
    refine .aJ (Ξ:=λ_=>True) (Tot.ap (by simp [lim]; omega) trivial) λ_ _=>.aJ (Ξ:=λ_=>True) (Tot.ap (by simp [lim]; omega) trivial) λ_ _=>.aJ (Ξ:=λ_=>True) (Tot.ap (by simp [lim]; omega) trivial) λ_ _=>.aB ⟨⟨aa.iu,aa.lo,?_,?_,aa.hR,?_,?_,?_,aa.lvl,aa.jR⟩,?_,?_⟩
    ·have:=aa.hi; show m1.aq.a'.length<=_; omega
    ·have:=aa.ty; show m1.bV.length<=_; omega
    ·show 0<=m1.bD+1/\m1.bD+1<=((I+(i.toNat+1):Nat):Int); omega
    ·show (m1.aq.ba++[_]).length<=_; simp; omega
    ·intro p aG
     rcases List.mem_append.1 aG with aG | aG
     ·exact (aa.hp p aG).mono (Nat.le_refl _) (by show (L:Int)+m1.bD<=L+(m1.bD+1); omega)
     ·rw [List.mem_singleton.1 aG]
      refine ⟨?_,by simp,?_⟩
      ·show 0<=(L:Int)+(m1.bD+1)/\(L:Int)+(m1.bD+1)<=L+(m1.bD+1); omega
      ·have:=aa.lo; show (-1:Int)<=-1/\(-1:Int)<(m1.aq.a'.length:Int); omega
    ·intro z bM
     rcases List.mem_append.1 bM with bM | bM
     ·exact (ax z bM).mono (Nat.le_refl _) (by show (L:Int)+m1.bD<=L+(m1.bD+1); omega)
     ·rw [List.mem_singleton.1 bM]
      exact .inr (by show 1000<=1000+(L:Int)+(m1.bD+1)/\1000+(L:Int)+(m1.bD+1)<=1000+((L:Int)+(m1.bD+1)); omega)
    ·show (rt++[_]).length<=_; simp; omega
  ·rw [hw]
   refine .aB ⟨⟨?_,?_,?_,FN.2.1,?_⟩,?_,?_⟩
   ·show (0:Int)<=i+1; omega
   ·show i+1<=(a.jC.length:Int); omega
   ·show kP ae.1 (T+(i+1).toNat) L (I+(i+1).toNat) (Q+(i+1).toNat)
    rw [dt]; exact FN.1
   ·show ae.2.1.length<=(i+1).toNat
    rw [dt]; exact FN.2.2
   ·show i<i+1; omega
   ·show i+1<=(a.jC.length:Int); omega
 ·obtain ⟨aa,ax,ao⟩:=hd
  have mu:=aa.lo
  have tT:=aa.hA
  refine Tot.aJ (Ξ:=λp=>-1<=p/\p<(a_.1.aq.a'.length:Int)) ?_ λhp F_=>?_
  ·refine Tot.count (λs=>s.2) a_.2.1.length (λs=>0<=s.2/\s.2<=a_.2.1.length/\-1<=s.1/\s.1<(a_.1.aq.a'.length:Int)) ⟨by show (0:Int)<=0; omega,by show (0:Int)<=_; omega,by show (-1:Int)<=-1; omega,by show (-1:Int)<_; omega⟩ (by show (a_.2.1.length:Int) - 0<_; omega) λs aN=>?_
   obtain ⟨bb,h1,al,aO⟩:=aN
   have hw:aQ (s.2+1)=s.2+1:=by rw [dK]; omega
   rw [hw]
   refine Tot.b8 (λbc=>?_) (λ_=>.aB ⟨al,aO⟩)
   refine Tot.aJ (Ξ:=λp=>-1<=p/\p<(a_.1.aq.a'.length:Int)) ?_ λp aG=>.aB ⟨⟨?_,?_,aG.1,aG.2⟩,?_,?_⟩
   ·refine .aJ (Tot.hC (Φ:=λy=>idx a_.2.1 s.2=some y/\y∈a_.2.1) bb bc λy h1 al=>⟨h1,al⟩) λy az=>?_
    refine .aJ (Ξ:=λp=>-1<=p/\p<(a_.1.aq.a'.length:Int)) ?_ λp aG=>.aB aG
    refine Tot.b8 (λbc=>?_) (λ_=>.aB ⟨al,aO⟩)
    rw [az.1]
    refine Tot.au (.aB ?_)
    rcases ax y az.2 with h | h
    ·omega
    ·omega
   ·show (0:Int)<=s.2+1; omega
   ·show s.2+1<=(a_.2.1.length:Int); omega
   ·show s.2<s.2+1; omega
   ·show s.2+1<=(a_.2.1.length:Int); omega
  ·refine Tot.aJ (Ξ:=λae=>Grow a_.1 ae.1 1/\-1<=ae.2/\ae.2<(ae.1.aq.a'.length:Int)) ?_ λae CI=>?_
   ·have qI:Grow a_.1 a_.1 1:=⟨aa.iu,Nat.le_refl _,Nat.le_succ _,Nat.le_succ _,rfl,rfl,rfl,rfl,λ_ h=>h⟩
    refine Tot.cv (λ_=>?_) (λ_=>.aB ⟨qI,F_⟩)
    refine Tot.aJ (Ξ:=λc=>c=true->a.Prec.Lit=true\/∀ y∈a_.1.bH,y≠a.Prec.Name) ?_ λc ab=>?_
    ·refine Tot.cv (λh=>.aB λ_=>.inl h) (λ_=>?_)
     refine .aJ (t96 a_.1 a.Prec.Name (by rw [aa.hR]; simp only [ff]; omega)) λk hk=>.aB λbc=>?_
     have bc:=of_decide_eq_true bc
     rcases hk with ⟨_,h⟩ | h
     ·exact .inr h
     ·omega
    ·refine Tot.aJ (Ξ:=λae=>Grow a_.1 ae.1 1/\-1<=ae.2/\ae.2<(ae.1.aq.a'.length:Int)) ?_ λae aa=>.aB aa
     have b9:=aa.hi
     refine Tot.cv (λh=>?_) (λ_=>?_)
     ·refine .aJ (Ux a_.1 a.Prec aa.iu aa.lo (by omega) (by rw [aa.hR]; omega) e8.prec (ab h)) λr ax=>.aB ⟨ax.1,?_,ax.2.2⟩
      have:=ax.2.1; show -1<=r.1; omega
     ·refine .aJ (t94 a_.1 _ _) λm' kk=>.aB ⟨kk.1.grow aa.iu 1,by show (-1:Int)<=-1; omega,?_⟩
      show (-1:Int)<(m'.aq.a'.length:Int); omega
   ·have kk:=aa.grow CI.1
    have z6:=kk.yf
    refine .aJ (Ξ:=λ_=>True) (Tot.ap (by simp [lim]; omega) trivial) λ_ _=>.aJ (Ξ:=λ_=>True) (Tot.ap (by simp [lim]; omega) trivial) λ_ _=>.aB ⟨⟨kk.iu,kk.lo,?_,?_,kk.hR,⟨kk.hA.1,?_⟩,?_,?_,kk.lvl,kk.jR⟩,by simp⟩
    ·have:=kk.hi; show ae.1.aq.a'.length<=_; omega
    ·have:=kk.ty; show ae.1.bV.length<=_; omega
    ·have:=kk.hA.2; show ae.1.bD<=_; omega
    ·show (ae.1.aq.ba++[_]).length<=_; simp; omega
    ·intro p aG
     rcases List.mem_append.1 aG with aG | aG
     ·exact kk.hp p aG
     ·rw [List.mem_singleton.1 aG]
      have VV:=kk.hA
      refine ⟨?_,λz bM=>?_,CI.2⟩
      ·show 0<=aQ (1+aF)/\aQ (1+aF)<=(L:Int)+ae.1.bD
       rw [dK]; omega
      ·exact (ax z bM).mono CI.1.lo (by show (L:Int)+a_.1.bD<=L+ae.1.bD; rw [CI.1.hA]; omega)
theorem HF (l:List Int):(strOfNums l).size=l.length:=strOfNums_size ..
theorem t99 (n:Int) (bb:0<=n) (h1:n<=1000000000000):Tot (Bk n) λs=>s.size<=2000000000000:=by
 unfold Bk
 have hu:IntKind.u64.wrap n=n:=by rw [IntKind.wrap_u64]; omega
 refine Tot.aJ (Ξ:=λae=>ae=n) (Tot.b8 (λh=>absurd h (by omega)) (λ_=>.aB hu)) λae aa=>?_
 subst aa
 refine Tot.aJ (Ξ:=λs=>s.size<=1000000000001) ?_ λs aN=>Tot.b8 (λh=>absurd h (by omega)) (λ_=>.aB (by omega))
 refine Tot.loop (λs=>0<=s.1/\s.1+s.2.size<=1000000000000+1/\(s.2.size=0->s.1<=1000000000000)) (λs=>s.1.toNat+(if s.2.size=0 then 1 else 0)) ⟨bb,by show ae+((0:Nat):Int)<=_; omega,λ_=>h1⟩ (by show ae.toNat+(if (0:Nat)=0 then 1 else 0)<1000000000000000000; simp; omega) λs aN=>?_
 obtain ⟨m,t⟩:=s
 obtain ⟨g0,g1,g2⟩:=aN
 simp only at g0 g1 g2 ⊢
 refine Tot.aJ (Ξ:=λc=>c=true->0<m\/t.size=0) ?_ λc ab=>Tot.cv (λlI=>?_) (λ_=>.aB ?_)
 ·refine Tot.b8 (λh=>.aB λ_=>.inl h) (λ_=>.aB λh=>.inr ?_)
  have:=of_decide_eq_true h
  rw [this]; rfl
 ·have ab:=ab lI
  refine .aJ (Ξ:=λx=>x=m.tmod 10) (Tot.s3 (by decide) rfl) λx J=>?_
  refine .aJ (Ξ:=λy=>y.size=t.size+1) (Tot.cat ?_ ?_) λy az=>.aJ (Ξ:=λz=>z=m / 10) (Tot.sX (by decide) ?_) λz bM=>.aB ?_
  ·rw [HF]; simp; omega
  ·rw [ByteArray.size_append,HF]; simp; omega
  ·rw [Int.tdiv_eq_ediv_of_nonneg g0,IntKind.wrap_u64]; omega
  ·subst bM
   refine ⟨⟨?_,?_,?_⟩,?_⟩
   ·show 0<=m / 10; omega
   ·show m / 10+(y.size:Int)<=_; rw [az]; omega
   ·intro h; have h:y.size=0:=h; omega
   ·show (m / 10).toNat+(if y.size=0 then 1 else 0)<m.toNat+(if t.size=0 then 1 else 0)
    rw [if_neg (by omega)]
    split <;> omega
 ·show t.size<=1000000000001; omega
structure gV (g:b_):Prop where
 lA:3<=g.a'.length/\g.a'.length<=40
 h2:1<=g.bu.length/\g.bu.length<=24
 lx:1<=g.ba.length/\g.ba.length<=60
 hp:∀ p∈g.ba,yK g.a'.length (g.bu.length - 1) p
 aP:∀ p∈g.ba,p.fx.length<=8
 jR:∀ t∈g.a',0<=t.Level
structure iO (m:jj) (T L:Nat):Prop where
 iu:m.bZ.length=m.aq.a'.length
 lo:3<=m.aq.a'.length
 hi:m.aq.a'.length<=3+T
 ty:m.bV.length<=T
 hR:m.bH.length<=L
 hp:m.aq.ba=[]
 hA:m.bD=0
 lvl:0<=m.bU
 jR:∀ t∈m.aq.a',0<=t.Level
theorem iO.mono {m:jj}{T L T' h4:Nat}(h:iO m T L) (fM:T<=T') (ll:L<=h4):iO m T' h4 :=
 ⟨h.iu,h.lo,by have:=h.hi; omega,by have:=h.ty; omega,by have:=h.hR; omega,h.hp,h.hA,h.lvl,h.jR⟩
theorem iO.grow {m m':jj}{T L k:Nat}(h:iO m T L) (g:Grow m m' k):iO m' (T+k) L :=
 ⟨g.iu,by have:=h.lo; have:=g.lo; omega,by have:=h.hi; have:=g.hi; omega,by have:=h.ty; have:=g.ty; omega,by rw [g.hR]; exact h.hR,g.hp.trans h.hp,g.hA.trans h.hA,by rw [g.lvl]; exact h.lvl,g.jR h.lvl h.jR⟩
theorem iO.same {m m':jj}{T L:Nat}(h:iO m T L) (g:tn m m'):iO m' T L:=by
 have:=h.grow (g.grow h.iu 0)
 exact this
theorem t14 (a n:Int) (h:0<n) (aL:n<=9223372036854775807):Tot (um a n) λr=>0<=r/\r<n:=by
 unfold um
 have h1:-n<a.tmod n:=by
  by_cases bj:0<=a
  ·have:=Int.tmod_nonneg n bj; omega
  ·have al:(-a).tmod n<n:=Int.tmod_lt_of_pos _ h
   rw [Int.neg_tmod] at al
   omega
 have al:a.tmod n<n:=Int.tmod_lt_of_pos a h
 refine .aJ (Ξ:=λx=>x=a.tmod n) (Tot.rem (by omega) rfl) λx J=>?_
 subst J
 refine Tot.aJ (Ξ:=λr=>0<=r/\r<n) (Tot.b8 (λaO=>.aB ?_) (λaO=>.aB (by omega))) λr ax=>.aB ax
 rw [dK]; omega
theorem t47 (k:Int) (h:0<=k):Tot (uo k) λx=>x.Name.size=1/\x.Lit=true/\x.c7=0:=by
 unfold uo
 refine .aJ (Ξ:=λx=>x.size=4) (.aB rfl) λaF h1=>.aJ (Ξ:=λr=>r=k.tmod 4) (Tot.rem (by decide) rfl) λx2 al=>.aJ (Ξ:=λr=>r=k.tmod 4) (Tot.rem (by decide) rfl) λa_ aO=>?_
 subst al aO
 have e:k.tmod 4=k % 4:=Int.tmod_eq_emod_of_nonneg h
 rw [e]
 have hw:aQ (k % 4+1)=k % 4+1:=by rw [dK]; omega
 rw [hw]
 refine .aJ (Ξ:=λx=>x.size=1) (Tot.cut (by rw [h1]; omega) ?_) λbE b4=>.aB ⟨b4,rfl,rfl⟩
 have:=Pq (s:=aF) (m:=k % 4) (n:=k % 4+1) (by rw [h1]; omega)
 omega
theorem t45 (k:Int):Tot (x8 k) λx=>x.size=1:=by
 unfold x8
 exact .aB (by rw [HF]; rfl)
theorem t46 (k n:Int) (h:0<n) (aL:n<=100):Tot (AY k n) λx=>x.Name.size<=5:=by
 unfold AY
 refine .aJ (t14 k 14 (by decide) (by decide)) λaF h1=>Tot.b8 (λdf=>?_) (λdf=>Tot.cv (λ_=>.aB ?_) (λ_=>?_))
 ·refine .aJ (Ξ:=λ_=>True) (Tot.rem (by omega) trivial) λa_ _=>.aJ (t45 a_) λbE b4=>.aB ?_
  show bE.size<=5; omega
 ·show (5:Nat)<=5; omega
 ·refine .aJ (t47 _ ?_) λx J=>.aB (by omega)
  rw [dK]; omega
structure wJ (n:Nat) (d:Decl):Prop where
 tag:d.Tag.size=0
 n:d.fo.length<=n
 syms:∀ x∈d.fo,x.Name.size<=ff
theorem t44 (l:List Int):Tot (AX l) λr=>r.length<=4/\∀ d∈r,wJ 10 d:=by
 unfold AX
 refine Tot.aJ (Ξ:=λr=>r.length<=4/\∀ d∈r,wJ 10 d) ?_ λr ax=>.aB ax
 refine Tot.count (λs=>s.2) 4 (λs=>0<=s.2/\s.2<=4/\s.1.length<=s.2.toNat/\∀ d∈s.1,wJ (1+s.2.toNat) d) ⟨Int.le_refl 0,by decide,Nat.le_refl 0,λd aV=>absurd aV (by simp)⟩ (by decide) λs aN=>?_
 obtain ⟨r,i⟩:=s
 obtain ⟨bb,b4,ao,aV⟩:=aN
 simp only at bb b4 ao aV ⊢
 have hw:aQ (i+1)=i+1:=by rw [dK]; omega
 rw [hw]
 refine .aJ (Ξ:=λc=>c=true->i<l.length/\i<4) (Tot.b8 (λh=>.aB λal=>⟨h,of_decide_eq_true al⟩) (λ_=>.aB λh=>by cases h)) λc ab=>Tot.cv (λlI=>?_) (λ_=>.aB ⟨by omega,λd lK=>⟨(aV d lK).tag,by have:=(aV d lK).n; omega,(aV d lK).syms⟩⟩)
 obtain ⟨hi,VS⟩:=ab lI
 refine Tot.aJ (Ξ:=λae=>ae.length<=i.toNat+1/\∀ d∈ae,wJ (1+(i.toNat+1)) d) ?_ λae aa=>.aB ⟨⟨?_,?_,?_,?_⟩,?_,?_⟩
 ·refine .aJ (Tot.hC (Φ:=λ_=>True) bb hi λ_ _ _=>trivial) λb3 _=>.aJ (t14 b3 8 (by decide) (by decide)) λcF tF=>.aJ (Ξ:=λ_=>True) (Tot.rem (by decide) trivial) λbQ _=>?_
  have nW:∀ d∈r,wJ (1+(i.toNat+1)) d:=λd lK=>⟨(aV d lK).tag,by have:=(aV d lK).n; omega,(aV d lK).syms⟩
  refine Tot.cv (λ_=>.aB ⟨by omega,nW⟩) (λ_=>?_)
  refine .aJ (Ξ:=λc=>c=true->0<(r.length:Int)) (Tot.cv (λ_=>.aB λh=>of_decide_eq_true h) (λ_=>.aB λh=>by cases h)) λc ab=>Tot.cv (λsB=>?_) (λ_=>?_)
  ·have sG:=ab sB
   have Su:aQ ((r.length:Int) - 1)=(r.length:Int) - 1:=by rw [dK]; omega
   rw [Su]
   refine .aJ (Tot.hC (Φ:=λy=>y∈r) (by omega) (by omega) λ_ _ h=>h) λd lK=>.aJ (t47 i bb) λx J=>.aJ (Ξ:=λ_=>True) (Tot.ap (by have:=(aV d lK).n; simp [lim]; omega) trivial) λ_ _=>.aB ⟨by simp; omega,λCj FC=>?_⟩
   rcases vJ FC with h | rfl
   ·exact nW Cj h
   ·refine ⟨(aV d lK).tag,?_,λy az=>?_⟩
    ·have:=(aV d lK).n; show (d.fo++[x]).length<=_; simp; omega
    ·rcases List.mem_append.1 az with az | az
     ·exact (aV d lK).syms y az
     ·rw [List.mem_singleton.1 az,J.1]; decide
  ·refine .aJ (Ξ:=λ_=>True) (Tot.rem (by decide) trivial) λeZ _=>.aJ (t47 i bb) λx J=>.aJ (Ξ:=λ_=>True) (Tot.ap (by simp [lim]; omega) trivial) λ_ _=>.aB ⟨by simp; omega,λCj FC=>?_⟩
   rcases List.mem_append.1 FC with h | h
   ·exact nW Cj h
   ·rw [List.mem_singleton.1 h]
    refine ⟨rfl,by show 1<=_; omega,λy az=>?_⟩
    have az:y∈[x]:=az
    rw [List.mem_singleton.1 az,J.1]; decide
 ·show 0<=i+1; omega
 ·show i+1<=4; omega
 ·show ae.length<=(i+1).toNat; omega
 ·intro d lK
  have e:(i+1).toNat=i.toNat+1:=by omega
  show wJ (1+(i+1).toNat) d
  rw [e]; exact aa.2 d lK
 ·show i<i+1; omega
 ·show i+1<=4; omega
structure la (n:Nat) (r:gk):Prop where
 left:r.Left.size<=ff
 n:r.fU.length<=n
 alts:∀ a∈r.fU,yB a
theorem la.mono {n m:Nat}{r:gk}(h:la n r) (hm:n<=m):la m r:=⟨h.left,Nat.le_trans h.n hm,h.alts⟩
theorem la.add {n:Nat}{r:gk}{a:Alt}(h:la n r) (bj:yB a):la (n+1) (⟨r.Left,r.fU++[a],r.At⟩:gk):=by
 refine ⟨h.left,by have:=h.n; show (r.fU++[a]).length<=_; simp; omega,λb aH=>?_⟩
 rcases List.mem_append.1 aH with aH | aH
 ·exact h.alts b aH
 ·rw [List.mem_singleton.1 aH]; exact bj
theorem Iw {l:List gk}{i n:Nat}{r:gk}(h:∀ x∈l,la n x) (ax:la n r):∀ x∈l.set i r,la n x:=λx J=>by
 rcases vJ J with aT | rfl
 ·exact h x aT
 ·exact ax
theorem t20 (x:oR):Tot (x5 x) uO:=by
 unfold x5
 refine .aJ (t14 x.bu 4 (by decide) (by decide)) λaF h1=>.aJ (t44 x.nO) λx2 al=>?_
 have Ss:aQ (1+aF)=1+aF:=by rw [dK]; omega
 rw [Ss]
 refine .aJ (Ξ:=λl=>l=List.replicate (1+aF).toNat false) (Tot.mk (by simp [lim]; omega) rfl) λa_ aO=>?_
 have Vp:a_.length=(1+aF).toNat:=by rw [aO]; simp
 refine Tot.aJ (Ξ:=λl=>(l.length:Int)=1+aF/\∀ r∈l,la 0 r) ?_ λcq df=>?_
 ·refine Tot.count (λs=>s.2) (1+aF) (λs=>0<=s.2/\s.2<=1+aF/\(s.1.length:Int)=s.2/\∀ r∈s.1,la 0 r) ⟨Int.le_refl 0,by show 0<=1+aF; omega,rfl,λd aV=>absurd aV (by simp)⟩ (by show 1+aF - 0<_; omega) λs aN=>?_
  obtain ⟨l,i⟩:=s
  obtain ⟨g0,g1,ao,du⟩:=aN
  simp only at g0 g1 ao du ⊢
  have hw:aQ (i+1)=i+1:=by rw [dK]; omega
  rw [hw]
  refine Tot.b8 (λbc=>?_) (λ_=>.aB ⟨by omega,du⟩)
  refine .aJ (t45 i) λb3 qB=>.aJ (Ξ:=λ_=>True) (Tot.ap (by simp [lim]; omega) trivial) λ_ _=>.aB ⟨⟨?_,?_,?_,λr ax=>?_⟩,?_,?_⟩
  ·show 0<=i+1; omega
  ·show i+1<=1+aF; omega
  ·show ((l++[_]).length:Int)=i+1
   simp; omega
  ·rcases List.mem_append.1 ax with ax | ax
   ·exact du r ax
   ·rw [List.mem_singleton.1 ax]
    exact ⟨by show b3.size<=_; rw [qB]; decide,Nat.le_refl 0,λa bj=>absurd bj (by simp)⟩
  ·show i<i+1; omega
  ·show i+1<=1+aF; omega
 refine Tot.aJ (Ξ:=λr=>(r.1.length:Int)=1+aF/\(r.2.length:Int)=1+aF/\∀ y∈r.1,la 9 y) ?_ λb1 zv=>?_
 ·refine Tot.count (λs=>s.2.2) 9 (λs=>0<=s.2.2/\s.2.2<=9/\(s.1.length:Int)=1+aF/\(s.2.1.length:Int)=1+aF/\∀ y∈s.1,la s.2.2.toNat y) ⟨Int.le_refl 0,by show (0:Int)<=9; decide,df.1,by show (a_.length:Int)=_; omega,df.2⟩ (by show (9:Int) - 0<_; decide) λs aN=>?_
  obtain ⟨l,aH,i⟩:=s
  obtain ⟨g0,g1,ao,FL,du⟩:=aN
  simp only at g0 g1 ao FL du ⊢
  have hw:aQ (i+1)=i+1:=by rw [dK]; omega
  rw [hw]
  refine .aJ (Ξ:=λc=>c=true->i<x.eG.length/\i<9) (Tot.b8 (λh=>.aB λal=>⟨h,of_decide_eq_true al⟩) (λ_=>.aB λh=>by cases h)) λc ab=>Tot.cv (λlI=>?_) (λ_=>.aB ⟨ao,FL,λy az=>(du y az).mono (by omega)⟩)
  obtain ⟨hi,VT⟩:=ab lI
  have nX:i.toNat<x.eG.length:=by omega
  have RF:idx x.eG i=some x.eG[i.toNat]:=by simp [idx,g0,nX]
  rw [RF]
  generalize x.eG[i.toNat]=d
  have Kr:∀ y∈l,la (i.toNat+1) y:=λy az=>(du y az).mono (by omega)
  refine Tot.aJ (Ξ:=λae=>(ae.1.length:Int)=1+aF/\(ae.2.length:Int)=1+aF/\∀ y∈ae.1,la (i.toNat+1) y) ?_ λae aa=>.aB ⟨⟨?_,?_,aa.1,aa.2.1,?_⟩,?_,?_⟩
  ·refine Tot.au (Tot.b8 (λ_=>.aB ⟨ao,FL,Kr⟩) (λeI=>Tot.au ?_))
   refine .aJ (Tot.hC (Φ:=λ_=>True) (by decide) (by omega) λ_ _ _=>trivial) λc0 _=>.aJ (t14 c0 (1+aF) (by omega) (by omega)) λc8 Kc=>?_
   have nr:∀ c:ByteArray,c.size<=ff->((⟨(⟨{ data:=#[] },false,0,0⟩:Sym),c,0⟩:Part).Sym.Name.size<=ff/\(⟨(⟨{ data:=#[] },false,0,0⟩:Sym),c,0⟩:Part).Code.size<=ff):=λc ab=>⟨by show 0<=_; exact Nat.zero_le _,ab⟩
   refine Tot.aJ (Ξ:=λr=>r.1.length<=10/\∀ p∈r.1,p.Sym.Name.size<=ff/\p.Code.size<=ff) ?_ λfm Kd=>?_
   ·refine Tot.count (λs=>s.2.2) 5 (λs=>1<=s.2.2/\s.2.2<=5/\(s.1.length:Int)<=2 * (s.2.2 - 1)/\∀ p∈s.1,p.Sym.Name.size<=ff/\p.Code.size<=ff) ⟨Int.le_refl 1,by decide,by decide,λp aG=>absurd aG (by simp)⟩ (by decide) λs aN=>?_
    obtain ⟨ps,pl,k⟩:=s
    obtain ⟨k0,vE,S_,GY⟩:=aN
    simp only at k0 vE S_ GY ⊢
    have vt:aQ (k+1)=k+1:=by rw [dK]; omega
    rw [vt]
    refine .aJ (Ξ:=λc=>c=true->k<d.length/\k<5) (Tot.au (Tot.b8 (λh=>.aB λal=>⟨h,of_decide_eq_true al⟩) (λ_=>.aB λh=>by cases h))) λc ab=>Tot.cv (λlI=>?_) (λ_=>.aB ⟨by show ps.length<=10; omega,GY⟩)
    obtain ⟨hk,VX⟩:=ab lI
    refine Tot.aJ (Ξ:=λae=>(ae.1.length:Int)<=2 * k/\∀ p∈ae.1,p.Sym.Name.size<=ff/\p.Code.size<=ff) ?_ λae aa=>.aB ⟨⟨?_,?_,?_,aa.2⟩,?_,?_⟩
    ·refine Tot.au (.aJ (Tot.hC (Φ:=λ_=>True) (by omega) hk λ_ _ _=>trivial) λh9 _=>.aJ (t46 h9 (1+aF) (by omega) (by omega)) λd_ Ke=>?_)
     refine .aJ (Ξ:=λ_=>True) (Tot.cv (λ_=>Tot.cv (λ_=>.aB trivial) (λ_=>.aB trivial)) (λ_=>.aB trivial)) λ_ _=>.aJ (Ξ:=λ_=>True) (Tot.ap (by simp [lim]; omega) trivial) λ_ _=>?_
     have bO:∀ p∈ps++[(⟨d_,{ data:=#[] },0⟩:Part)],p.Sym.Name.size<=ff/\p.Code.size<=ff:=λp aG=>by
      rcases List.mem_append.1 aG with aG | aG
      ·exact GY p aG
      ·rw [List.mem_singleton.1 aG]
       exact ⟨by show d_.Name.size<=1000000000000; omega,Nat.zero_le _⟩
     refine .aJ (Ξ:=λ_=>True) ?_ λB_ _=>?_
     ·refine Tot.b8 (λh=>Tot.cv (λ_=>.aJ (Tot.hC (Φ:=λ_=>True) g0 h λ_ _ _=>trivial) λ_ _=>.aJ (Ξ:=λ_=>True) (Tot.rem (by decide) trivial) λ_ _=>.aB trivial) (λ_=>.aB trivial)) (λ_=>.aB trivial)
     ·refine Tot.aJ (Ξ:=λl=>(l.length:Int)<=2 * k/\∀ p∈l,p.Sym.Name.size<=ff/\p.Code.size<=ff) ?_ λae aa=>.aB aa
      refine Tot.cv (λ_=>?_) (λ_=>.aB ⟨by simp; omega,bO⟩)
      refine .aJ (Ξ:=λ_=>True) (Tot.ap (by simp [lim]; omega) trivial) λ_ _=>.aB ⟨by simp; omega,λp aG=>?_⟩
      rcases List.mem_append.1 aG with aG | aG
      ·exact bO p aG
      ·rw [List.mem_singleton.1 aG]; exact nr _ (by decide)
    ·show 1<=k+1; omega
    ·show k+1<=5; omega
    ·show (ae.1.length:Int)<=2 * (k+1 - 1); omega
    ·show k<k+1; omega
    ·show k+1<=5; omega
   ·refine .aJ (Ξ:=λ_=>True) (Tot.b8 (λh=>.aJ (Tot.hC (Φ:=λ_=>True) g0 h λ_ _ _=>trivial) λ_ _=>.aJ (Ξ:=λ_=>True) (Tot.rem (by decide) trivial) λ_ _=>.aB trivial) (λ_=>.aB trivial)) λVg _=>?_
    refine Tot.aJ (Ξ:=λl=>l.length<=20/\∀ p∈l,p.Sym.Name.size<=ff/\p.Code.size<=ff) ?_ λmH P9=>?_
    ·refine Tot.cv (λ_=>?_) (λ_=>.aB ⟨by omega,Kd.2⟩)
     refine .aJ (Ξ:=λ_=>True) (Tot.ap (by simp [lim]; omega) trivial) λ_ _=>.aB ⟨by simp; omega,λp aG=>?_⟩
     rcases List.mem_append.1 aG with aG | aG
     ·exact Kd.2 p aG
     ·rw [List.mem_singleton.1 aG]; exact nr _ (by decide)
    ·refine Tot.aJ (Ξ:=λl=>(l.length:Int)=1+aF) ?_ λI7 P'=>?_
     ·refine .aJ (Tot.hC (Φ:=λ_=>True) Kc.1 (by omega) λ_ _ _=>trivial) λ_ _=>Tot.cv (λ_=>.aB (by simp; omega)) (λ_=>.aB (by simp; omega))
     ·refine .aJ (Tot.hC (Φ:=λy=>y∈l) Kc.1 (by omega) λ_ _ h=>h) λkp Qa=>?_
      have oG:=du kp Qa
      refine .aJ (Ξ:=λ_=>True) (Tot.ap (by have:=oG.n; simp [lim]; omega) trivial) λ_ _=>.aB ⟨by show ((l.set _ _).length:Int)=_; simp; omega,P',Iw Kr (oG.add ⟨by show mH.length<=_; omega,P9.2,Nat.zero_le _⟩)⟩
  ·show 0<=i+1; omega
  ·show i+1<=9; omega
  ·intro y az
   have e:(i+1).toNat=i.toNat+1:=by omega
   show la (i+1).toNat y
   rw [e]; exact aa.2.2 y az
  ·show i<i+1; omega
  ·show i+1<=9; omega
 refine Tot.aJ (Ξ:=λl=>(l.length:Int)=1+aF/\∀ y∈l,la 20 y) ?_ λoQ Qb=>.aB ⟨Nat.zero_le _,?_,λd aV=>?_,?_,λr ax=>?_⟩
 ·refine Tot.count (λs=>s.2) (1+aF) (λs=>0<=s.2/\s.2<=1+aF/\(s.1.length:Int)=1+aF/\∀ y∈s.1,la (9+s.2.toNat) y) ⟨Int.le_refl 0,by show 0<=1+aF; omega,zv.1,zv.2.2⟩ (by show 1+aF - 0<_; omega) λs aN=>?_
  obtain ⟨l,i⟩:=s
  obtain ⟨g0,g1,ao,du⟩:=aN
  simp only at g0 g1 ao du ⊢
  have hw:aQ (i+1)=i+1:=by rw [dK]; omega
  rw [hw]
  refine Tot.b8 (λbc=>?_) (λ_=>.aB ⟨ao,λy az=>(du y az).mono (by omega)⟩)
  refine Tot.aJ (Ξ:=λl=>(l.length:Int)=1+aF/\∀ y∈l,la (9+i.toNat+1) y) ?_ λae aa=>.aB ⟨⟨?_,?_,aa.1,?_⟩,?_,?_⟩
  ·refine .aJ (Ξ:=λ_=>True) ?_ λVh _=>?_
   ·refine .aJ (Tot.hC (Φ:=λ_=>True) g0 (by omega) λ_ _ _=>trivial) λuG _=>Tot.cv (λ_=>.aB trivial) (λ_=>.aJ (Tot.hC (Φ:=λ_=>True) g0 (by omega) λ_ _ _=>trivial) λ_ _=>Tot.cv (λ_=>.aB trivial) (λ_=>.aB trivial))
   ·refine Tot.aJ (Ξ:=λl=>(l.length:Int)=1+aF/\∀ y∈l,la (9+i.toNat+1) y) ?_ λae aa=>.aB aa
    refine Tot.cv (λ_=>?_) (λ_=>.aB ⟨ao,λy az=>(du y az).mono (by omega)⟩)
    refine .aJ (Tot.hC (Φ:=λy=>y∈l) g0 (by omega) λ_ _ h=>h) λkq Cz=>.aJ (t47 i g0) λkr Vv=>?_
    have J:=du kq Cz
    refine .aJ (Ξ:=λ_=>True) (Tot.ap (by have:=J.n; simp [lim]; omega) trivial) λ_ _=>.aB ⟨by simp; omega,Iw (λy az=>(du y az).mono (by omega)) (J.add ⟨by show 1<=_; omega,λp aG=>?_,Nat.zero_le _⟩)⟩
    have aG:p∈[(⟨kr,{ data:=#[] },0⟩:Part)]:=aG
    rw [List.mem_singleton.1 aG]
    exact ⟨by show kr.Name.size<=1000000000000; omega,Nat.zero_le _⟩
  ·show 0<=i+1; omega
  ·show i+1<=1+aF; omega
  ·intro y az
   have e:9+(i+1).toNat=9+i.toNat+1:=by omega
   show la (9+(i+1).toNat) y
   rw [e]; exact aa.2 y az
  ·show i<i+1; omega
  ·show i+1<=1+aF; omega
 ·have:=al.1; show x2.length<=1000; omega
 ·have:=al.2 d aV
  exact ⟨by rw [this.tag]; exact Nat.zero_le _,by have:=this.n; omega,this.syms⟩
 ·show oQ.length<=1000; omega
 ·have:=Qb.2 r ax
  exact ⟨this.left,by have:=this.n; omega,this.alts⟩
end Go.Proofs
namespace Go.Own
open Go Go.Sort
variable {α:Type} [DecidableEq α]
structure Ord (lt:α->α->Bool):Prop where
 swo:SWO lt
 jU:∀ x y,lt x y=false->lt y x=false->x=y
def gj (lt:α->α->Bool) (l:List α):Prop:=l.Pairwise λa b=>lt a b=true
omit [DecidableEq α] in
theorem gj.nd {lt:α->α->Bool}(h:Ord lt) {l:List α}(ao:gj lt l):l.Nodup:=ao.imp λ{a b} Kv e=>by
 subst e
 rw [h.swo.irrefl] at Kv; cases Kv
omit [DecidableEq α] in
theorem gj.uniq {lt:α->α->Bool}(h:Ord lt) {l m:List α}(ao:gj lt l) (hm:gj lt m) (he:∀ x,x∈l↔x∈m):l=m :=
 List.Perm.eq_of_pairwise (le:=λa b=>lt a b=true) (λa b _ _ h1 al=>by have:=h.swo.trans _ _ _ h1 al; rw [h.swo.irrefl] at this; cases this) ao hm ((List.perm_ext_iff_of_nodup (ao.nd h) (hm.nd h)).2 he)
omit [DecidableEq α] in
theorem xM {l m:List α}(aV:l.Nodup) (hm:∀ x∈l,x∈m):l.length<=m.length:=by
 classical
 induction l generalizing m with
 | nil=>exact Nat.zero_le _
 | cons x l aS =>
  have J:=hm x (by simp)
  have nW:=List.nodup_cons.1 aV
  have:=aS (m:=m.erase x) nW.2 λy az=>(List.mem_erase_of_ne (λe=>nW.1 (by rw [<- e]; exact az))).2 (hm y (by simp [az]))
  have ao:=List.length_erase_of_mem J
  have aG:=List.length_pos_of_mem J
  simp only [List.length_cons]
  omega
end Go.Own
namespace Go.Proofs
open Go Go.Own Go.Sort
set_option maxRecDepth 100000
set_option linter.unusedVariables false
def gQ (a b:Item):Bool:=decide (a.Prod<b.Prod\/(a.Prod=b.Prod/\a.dP<b.dP))
theorem G8 {a b:Item}:gQ a b=true↔(a.Prod<b.Prod\/(a.Prod=b.Prod/\a.dP<b.dP)):=by simp [gQ]
theorem AA {a b:Item}:gQ a b=false↔¬ (a.Prod<b.Prod\/(a.Prod=b.Prod/\a.dP<b.dP)):=by simp [gQ]
theorem uh:Ord gQ where
 swo:=⟨λx=>by rw [AA]; omega,λx y z h1 al=>by rw [G8] at *; omega,λx y z h1 al=>by rw [AA] at *; omega⟩
 jU x y h1 al:=by
  rw [AA] at h1 al
  obtain ⟨aF,x2⟩:=x
  obtain ⟨ke,y2⟩:=y
  simp only at h1 al
  have:aF=ke:=by omega
  have:x2=y2:=by omega
  subst_vars; rfl
def jd (g:b_) (x:Item):Prop:=∃ q,idx g.ba x.Prod=some q/\0<=x.dP/\x.dP<=q.fx.length
def h3 (g:b_) (x:Item):Int:=match idx g.ba x.Prod with
 | some q=>(idx q.fx x.dP).getD (-1)
 | none=>-1
theorem nC {α:Type}{l:List α}{i:Int}{y:α}(h:idx l i=some y):0<=i/\i<l.length/\y∈l:=by
 unfold idx at h
 split at h
 ·rename_i bb
  obtain ⟨h1,al⟩:=List.getElem?_eq_some_iff.1 h
  exact ⟨bb,by omega,List.mem_of_getElem? h⟩
 ·cases h
theorem GF {α:Type}{l:List α}{i:Int}(h:i<0\/(l.length:Int)<=i):idx l i=none:=by
 unfold idx
 split
 ·exact List.getElem?_eq_none (by omega)
 ·rfl
theorem nE {α:Type}{l:List α}{i:Int}(bb:0<=i) (h1:i<l.length):∃ y,idx l i=some y/\y∈l:=by
 have bc:i.toNat<l.length:=by omega
 exact ⟨l[i.toNat],by simp [idx,bb,bc],List.getElem_mem bc⟩
theorem ev {α:Type}{l:List α}{k:Nat}(h:k<l.length):idx l (k:Int)=some l[k]:=by simp [idx,h]
theorem JF (g:b_) (x:Item):∃ c,xX g x=some c/\(c=true↔jd g x):=by
 unfold xX
 by_cases bb:0<=x.Prod
 ·by_cases h1:x.Prod<g.ba.length
  ·obtain ⟨q,bO,_⟩:=nE bb h1
   by_cases al:0<=x.dP
   ·refine ⟨decide (x.dP<=(q.fx.length:Int)),by simp [bb,h1,al,bO],?_⟩
    rw [decide_eq_true_eq]
    exact ⟨λh=>⟨q,bO,al,h⟩,λ⟨ga,xx,_,h⟩=>by rw [bO] at xx; cases xx; exact h⟩
   ·exact ⟨false,by simp [bb,h1,al],λh=>(by cases h),λ⟨_,_,h,_⟩=>absurd h al⟩
  ·exact ⟨false,by simp [bb,h1],λh=>(by cases h),λ⟨_,h,_⟩=>absurd (nC h).2.1 h1⟩
 ·exact ⟨false,by simp [bb],λh=>(by cases h),λ⟨_,h,_⟩=>absurd (nC h).1 bb⟩
theorem EH (g:b_) (x:Item):v8 g x=some (h3 g x):=by
 unfold v8 h3
 obtain ⟨c,ab,hi⟩:=JF g x
 rw [ab]
 simp only [Option.bind_some]
 cases c with
 | false =>
  have aL:¬ jd g x:=λh=>by have:=hi.2 h; cases this
  simp only [Bool.not_false,cond_true,Option.bind_some]
  cases bO:idx g.ba x.Prod with
  | none=>rfl
  | some q =>
   have:idx q.fx x.dP=none:=GF (by
    by_cases bb:0<=x.dP
    ·right
     by_cases h1:x.dP<=q.fx.length
     ·exact absurd ⟨q,bO,bb,h1⟩ aL
     ·omega
    ·left; omega)
   simp [this]
 | true =>
  obtain ⟨q,bO,bb,h1⟩:=hi.1 rfl
  simp only [Bool.not_true,cond_false,bO,Option.bind_some]
  by_cases he:x.dP=q.fx.length
  ·rw [GF (.inr (by omega))]
   simp [he]
  ·obtain ⟨s,aN,_⟩:=nE (l:=q.fx) (i:=x.dP) bb (by omega)
   simp [he,aN]
theorem LR {g:b_}(a8:gV g) {x:Item}(h:0<=h3 g x):jd g x/\pK g.a'.length (g.bu.length - 1) (h3 g x)/\∃ q,idx g.ba x.Prod=some q/\idx q.fx x.dP=some (h3 g x):=by
 cases bO:idx g.ba x.Prod with
 | none =>
  have:h3 g x=-1:=by unfold h3; rw [bO]
  rw [this] at h; exact absurd h (by decide)
 | some q =>
  cases aN:idx q.fx x.dP with
  | none =>
   have:h3 g x=-1:=by unfold h3; rw [bO]; simp [aN]
   rw [this] at h; exact absurd h (by decide)
  | some s =>
   have e:h3 g x=s:=by unfold h3; rw [bO]; simp [aN]
   rw [e]
   obtain ⟨bb,h1,hm⟩:=nC aN
   exact ⟨⟨q,bO,bb,by omega⟩,(a8.hp q (nC bO).2.2).right s hm,q,rfl,aN⟩
inductive np (g:b_) (l:List Item):Item->Prop
 | base {x:Item}(h:x∈l) (hi:jd g x):np g l x
 | step {x:Item}{q:Prod}{p:Nat}(h:np g l x) (aG:g.ba[p]?=some q) (aL:h3 g x=1000+q.Left) (bb:1000<=h3 g x):np g l ⟨p,0⟩
theorem LB {g:b_}{p:Nat}{q:Prod}(aG:g.ba[p]?=some q):jd g ⟨p,0⟩:=⟨q,by simp [idx,aG],Int.le_refl _,by show (0:Int)<=_; omega⟩
theorem np.jd {g:b_}{l:List Item}{x:Item}(h:np g l x):jd g x:=by
 cases h with
 | base _ hi=>exact hi
 | step _ aG _ _=>exact LB aG
theorem Tp {g:b_}(a8:gV g) (x:Item):-1<=h3 g x/\h3 g x<=1023:=by
 by_cases h:0<=h3 g x
 ·obtain ⟨_,aN,_⟩:=LR a8 h
  have:=a8.h2
  have:=a8.lA
  rcases aN with aN | aN <;> omega
 ·refine ⟨?_,by omega⟩
  revert h
  unfold h3
  cases bO:idx g.ba x.Prod with
  | none=>intro _; exact Int.le_refl _
  | some q =>
   cases aN:idx q.fx x.dP with
   | none=>intro _; simp [aN]
   | some s =>
    intro h
    have hm:=(a8.hp q (nC bO).2.2).right s (nC aN).2.2
    simp only [aN,Option.getD_some] at h ⊢
    rcases hm with hm | hm <;> omega
def hL (m:List Bool):Nat:=(m.filter λb=>b).length
theorem uX:∀ (m:List Bool) (i:Nat),i<m.length->m.getD i false=false->hL (m.set i true)=hL m+1
 | [],i,h,_=>by simp at h
 | b::m,0,_,h=>by
  have:b=false:=by simpa using h
  subst this
  simp [hL]
 | b::m,i+1,h,bb=>by
  have:=uX m i (by simpa using h) (by simpa using bb)
  unfold hL at this ⊢
  simp only [List.set_cons_succ,List.filter_cons]
  cases b <;> simp [this]
theorem OH (m:List Bool):hL m<=m.length:=List.length_filter_le _ _
theorem lz {α:Type}{r:List α}{k:Nat}(h:k<r.length):r.take (k+1)=r.take k++[r[k]]:=by
 rw [List.take_add_one,List.getElem?_eq_getElem h]; rfl
theorem DJ (k:Nat) (h:k<=1000000000000):aQ ((k:Int)+1)=((k+1:Nat):Int):=by rw [dK]; omega
def allI (g:b_):List Item:=(List.range g.ba.length).flatMap λp=>(List.range 9).map λd=>(⟨(p:Nat),(d:Nat)⟩:Item)
theorem NL (g:b_):(allI g).length=g.ba.length * 9:=by
 have:∀ l:List Nat,(l.map λ_=>9).sum=l.length * 9:=λl=>by
  induction l with
  | nil=>rfl
  | cons a l aS=>simp only [List.map_cons,List.sum_cons,aS,List.length_cons]; omega
 simp [allI,List.length_flatMap,this]
theorem Tc {g:b_}(a8:gV g) {x:Item}(h:jd g x):x∈allI g:=by
 obtain ⟨q,bO,bb,h1⟩:=h
 obtain ⟨al,aO,b4⟩:=nC bO
 have:=a8.aP q b4
 refine List.mem_flatMap.2 ⟨x.Prod.toNat,by simp; omega,List.mem_map.2 ⟨x.dP.toNat,by simp; omega,?_⟩⟩
 obtain ⟨a,b⟩:=x
 simp only at bb al ⊢
 congr 1 <;> omega
theorem r9 {g:b_}(a8:gV g) {l:List Item}(ao:gj gQ l) (hi:∀ x∈l,jd g x):l.length<=540:=by
 have:=xM (ao.nd uh) λx J=>Tc a8 (hi x J)
 rw [NL] at this
 have:=a8.lx
 omega
theorem N3 {l:List Item}(ao:gj gQ l) {i ae:Nat}(hi:i<l.length) (aa:ae<l.length) (h:i<ae):gQ l[i] l[ae]=true:=List.pairwise_iff_getElem.1 ao i ae hi aa h
theorem Ef (l:List Item) (x:Item) (ao:gj gQ l) (aL:l.length<=100000):Tot (vR l x) λr=>gj gQ r/\(∀ y,y∈r↔y∈l\/y=x):=by
 unfold vR
 refine .aJ (Ξ:=λz:Int=>∃ k:Nat,z=(k:Int)/\k<=l.length/\(∀ (i:Nat) (h:i<l.length),k<=i->gQ x l[i]=true)/\∀ (h:0<k),gQ x (l[k - 1]?.getD default)=false) ?_ λz bM=>?_
 ·refine Tot.count (λs=>-s) 1 (λs=>∃ k:Nat,s=(k:Int)/\k<=l.length/\∀ (i:Nat) (h:i<l.length),k<=i->gQ x l[i]=true) ⟨l.length,rfl,Nat.le_refl _,λi h hk=>by omega⟩ (by show 1 - -(l.length:Int)<_; omega) λs aN=>?_
  obtain ⟨k,rfl,hk,qP⟩:=aN
  refine .aJ (Ξ:=λc:Bool=>(c=true->0<k/\gQ x (l[k - 1]?.getD default)=true)/\(c=false->∀ (h:0<k),gQ x (l[k - 1]?.getD default)=false)) ?_ λc ab=>Tot.cv (λh=>?_) (λh=>.aB ⟨k,rfl,hk,qP,ab.2 h⟩)
  ·refine Tot.b8 (λh=>?_) (λh=>.aB ⟨λaT=>(by cases aT),λ_ aT=>by omega⟩)
   have gN:k - 1<l.length:=by omega
   have hw:aQ ((k:Int) - 1)=((k - 1:Nat):Int):=by rw [dK]; omega
   rw [hw,ev gN,List.getElem?_eq_getElem gN]
   simp only [Option.bind_some,Option.getD_some]
   generalize l[k - 1]=y
   refine Tot.b8 (λh1=>.aB ⟨λ_=>⟨by omega,G8.2 (.inl h1)⟩,λaT=>(by cases aT)⟩) (λh1=>Tot.b8 (λal=>.aB ⟨λaO=>⟨by omega,G8.2 (.inr ⟨al.symm,of_decide_eq_true aO⟩)⟩,λaO _=>?_⟩) (λal=>.aB ⟨λaT=>(by cases aT),λ_ _=>?_⟩))
   ·have:=of_decide_eq_false aO
    rw [AA]; omega
   ·rw [AA]; omega
  ·obtain ⟨bb,h1⟩:=ab.1 h
   refine .aB ⟨⟨k - 1,by rw [dK]; omega,by omega,λi hi RM=>?_⟩,by show -(k:Int) < -aQ _; rw [dK]; omega,by show -aQ _<=1; rw [dK]; omega⟩
   by_cases e:i=k - 1
   ·subst e
    rw [List.getElem?_eq_getElem hi] at h1
    exact h1
   ·exact qP i hi (by omega)
 ·obtain ⟨k,rfl,hk,qP,mu⟩:=bM
  refine .aJ (Ξ:=λc:Bool=>(c=true↔(0<k/\l[k - 1]?.getD default=x))) ?_ λc ab=>Tot.cv (λh=>?_) (λh=>?_)
  ·refine Tot.b8 (λh=>?_) (λh=>.aB ⟨λaT=>(by cases aT),λaT=>by omega⟩)
   have gN:k - 1<l.length:=by omega
   have hw:aQ ((k:Int) - 1)=((k - 1:Nat):Int):=by rw [dK]; omega
   rw [hw,ev gN,List.getElem?_eq_getElem gN]
   simp only [Option.bind_some,Option.getD_some]
   generalize l[k - 1]=y
   refine .aB ?_
   obtain ⟨ke,y2⟩:=y
   obtain ⟨aF,x2⟩:=x
   simp only [Bool.and_true,Bool.and_eq_true,decide_eq_true_eq,Item.mk.injEq]
   exact ⟨λaT=>⟨by omega,aT⟩,λaT=>aT.2⟩
  ·obtain ⟨bb,h1⟩:=ab.1 h
   have gN:k - 1<l.length:=by omega
   rw [List.getElem?_eq_getElem gN] at h1
   have J:x∈l:=by rw [<- h1]; exact List.getElem_mem gN
   exact .aB ⟨ao,λy=>⟨.inl,λh=>h.elim id λe=>e ▸ J⟩⟩
  ·have eI:∀ (i:Nat) (hi:i<l.length),i<k->gQ l[i] x=true:=by
    intro i hi tS
    have gN:k - 1<l.length:=by omega
    have mu:=mu (by omega)
    have aL:l[k - 1]?.getD default≠x:=λe=>by rw [ab.2 ⟨by omega,e⟩] at h; cases h
    rw [List.getElem?_eq_getElem gN] at mu aL
    simp only [Option.getD_some] at mu aL
    have gH:gQ l[k - 1] x=true:=by
     cases b9:gQ l[k - 1] x with
     | true=>rfl
     | false=>exact absurd (uh.jU _ _ b9 mu) aL
    by_cases e:i=k - 1
    ·subst e; exact gH
    ·exact uh.swo.trans _ _ _ (N3 ao hi gN (by omega)) gH
   refine .aJ (Ξ:=λz=>z=l.take k) (Tot.sub ⟨by omega,by omega,by omega⟩ (by simp)) λz bM=>?_
   subst bM
   refine .aJ (Ξ:=λ_=>True) (Tot.ap (by simp [lim]; omega) trivial) λ_ _=>.aJ (Ξ:=λ_=>True) (Tot.ap (by simp [lim]; omega) trivial) λ_ _=>?_
   refine .aJ (Ξ:=λz=>z=l.drop k) (Tot.sub ⟨by omega,by omega,by omega⟩ ?_) λz bM=>?_
   ·rw [List.take_of_length_le]
    ·congr 1
    ·rw [List.length_drop]; omega
   subst bM
   refine .aJ (Ξ:=λ_=>True) (Tot.ap (by simp [lim]; omega) trivial) λ_ _=>.aB ?_
   rw [List.nil_append]
   constructor
   ·have h1:∀ a∈l.take k,gQ a x=true:=by
     intro a bj
     obtain ⟨i,hi,rfl⟩:=List.mem_iff_getElem.1 bj
     rw [List.length_take] at hi
     rw [List.getElem_take]
     exact eI i (by omega) (by omega)
    have al:∀ a∈l.drop k,gQ x a=true:=by
     intro a bj
     obtain ⟨i,hi,rfl⟩:=List.mem_iff_getElem.1 bj
     rw [List.length_drop] at hi
     rw [List.getElem_drop]
     exact qP (k+i) (by omega) (by omega)
    unfold gj
    rw [List.append_assoc,List.pairwise_append]
    refine ⟨List.Pairwise.sublist (List.take_sublist k l) ao,?_,λa bj b aH=>?_⟩
    ·rw [List.singleton_append,List.pairwise_cons]
     exact ⟨al,List.Pairwise.sublist (List.drop_sublist k l) ao⟩
    ·rcases List.mem_append.1 aH with aH | aH
     ·rw [List.mem_singleton.1 aH]; exact h1 a bj
     ·exact uh.swo.trans _ _ _ (h1 a bj) (al b aH)
   ·intro y
    rw [List.append_assoc,List.mem_append,List.mem_append,List.mem_singleton]
    have hm:y∈l↔y∈l.take k\/y∈l.drop k:=by
     rw [<- List.mem_append,List.take_append_drop]
    rw [hm]
    constructor
    ·rintro (h | h | h)
     ·exact .inl (.inl h)
     ·exact .inr h
     ·exact .inl (.inr h)
    ·rintro ((h | h) | h)
     ·exact .inl h
     ·exact .inr (.inr h)
     ·exact .inr (.inl h)
theorem Oi (g:b_) (a8:gV g) (l:List Item) (ao:l.length<=1000000):Tot (AK g l) λr=>gj gQ r/\∀ x,x∈r↔x∈l/\jd g x:=by
 unfold AK
 refine .aJ (Ξ:=λr=>gj gQ r/\∀ x,x∈r↔x∈l/\jd g x) ?_ λr ax=>.aB ax
 refine Tot.count (λs=>s.2) l.length (λs=>∃ k:Nat,k<=l.length/\s.2=(k:Int)/\gj gQ s.1/\∀ x,x∈s.1↔x∈l.take k/\jd g x) ⟨0,Nat.zero_le _,rfl,List.Pairwise.nil,λx=>by simp⟩ (by show (l.length:Int) - 0<_; omega) λs aN=>?_
 obtain ⟨out,l7⟩:=s
 obtain ⟨k,hk,rfl,bj,hm⟩:=aN
 simp only at bj hm ⊢
 rw [DJ k (by omega)]
 refine Tot.b8 (λbc=>?_) (λeF=>.aB ?_)
 ·have bc:k<l.length:=by omega
  rw [ev bc]
  refine .aJ (Ξ:=λo:List Item=>gj gQ o/\∀ x,x∈o↔x∈l.take (k+1)/\jd g x) ?_ λo bd=>.aB ⟨⟨k+1,by omega,rfl,bd⟩,by show (k:Int)<((k+1:Nat):Int); omega,by show ((k+1:Nat):Int)<=_; omega⟩
  obtain ⟨c,ab,hi⟩:=JF g l[k]
  rw [lz bc]
  refine Tot.au ?_
  rw [ab]
  refine Tot.au (.aJ (Ξ:=λo:List Item=>gj gQ o/\∀ x,x∈o↔x∈l.take k++[l[k]]/\jd g x) (Tot.cv (λh=>?_) (λh=>.aB ⟨bj,λx=>?_⟩)) λo bd=>.aB bd)
  ·have K5:=r9 a8 bj λx J=>((hm x).1 J).2
   refine Tot.au (.aJ (Ef out _ bj (by omega)) λo bd=>.aB ⟨bd.1,λx=>?_⟩)
   rw [bd.2 x,List.mem_append,List.mem_singleton,hm x]
   constructor
   ·rintro (⟨h1,al⟩ | rfl)
    ·exact ⟨.inl h1,al⟩
    ·exact ⟨.inr rfl,hi.1 h⟩
   ·rintro ⟨h1 | rfl,al⟩
    ·exact .inl ⟨h1,al⟩
    ·exact .inr rfl
  ·rw [List.mem_append,List.mem_singleton,hm x]
   constructor
   ·rintro ⟨h1,al⟩
    exact ⟨.inl h1,al⟩
   ·rintro ⟨h1 | rfl,al⟩
    ·exact ⟨h1,al⟩
    ·rw [hi.2 al] at h; cases h
 ·have:k=l.length:=by omega
  subst this
  rw [List.take_length] at hm
  exact ⟨bj,hm⟩
def uJ (g:b_) (out:List Item) (x:Item):Prop:=1000<=h3 g x->∀ (p:Nat) (q:Prod),g.ba[p]?=some q->q.Left=h3 g x - 1000->(⟨p,0⟩:Item)∈out
theorem En (g:b_) (a8:gV g) (l:List Item) (ao:l.length<=1000000):Tot (v7 g l) λr=>gj gQ r/\∀ x,x∈r↔np g l x:=by
 have z6:=a8.lx
 unfold v7
 refine .aJ (Oi g a8 l ao) λaF h1=>.aJ (Ξ:=λr=>gj gQ r/\∀ x,x∈r↔np g l x) ?_ λr ax=>.aB ax
 obtain ⟨QR,F1⟩:=h1
 refine Tot.loop (λs=>gj gQ s.1/\(∀ x∈s.1,np g l x)/\(∀ x∈l,jd g x->x∈s.1)/\(s.2=(s.1.length:Int)->∀ x∈s.1,uJ g s.1 x)) (λs=>2 * (1000 - s.1.length)+(if s.2=(s.1.length:Int) then 0 else 1)) ⟨QR,λx J=>.base ((F1 x).1 J).1 ((F1 x).1 J).2,λx J hi=>(F1 x).2 ⟨J,hi⟩,λh=>by have h:(-1:Int)=_:=h; omega⟩ (by
  show 2 * (1000 - aF.length)+(if (-1:Int)=_ then 0 else 1)<1000000000000000000
  split <;> omega) λs aN=>?_
 obtain ⟨out,n⟩:=s
 obtain ⟨bj,gz,tK,hx⟩:=aN
 simp only at bj gz tK hx ⊢
 have K5:=r9 a8 bj λx J=>(gz x J).jd
 refine Tot.qy (λeI=>?_) (λhe=>.aB ⟨bj,λx=>⟨gz x,λJ=>?_⟩⟩)
 ·refine .aJ (Ξ:=λae:List Item × Int=>ae.2=(out.length:Int)/\gj gQ ae.1/\(∀ x∈ae.1,np g l x)/\(∀ x∈out,x∈ae.1)/\(ae.1.length=out.length->∀ x∈ae.1,uJ g ae.1 x)) ?_ λae aa=>?_
  ·refine .aJ (Ξ:=λr:List Item=>gj gQ r/\(∀ x∈r,np g l x)/\(∀ x∈out,x∈r)/\(r.length=out.length->∀ x∈r,uJ g r x)) ?_ λr ax=>.aB ⟨rfl,ax⟩
   refine .aJ (Ξ:=λr:List Item=>gj gQ r/\(∀ x∈r,np g l x)/\(∀ x∈out,x∈r)/\(r.length=out.length->∀ x∈r,uJ g r x)) ?_ λr ax=>.aB ax
   refine Tot.count (λs=>s.2) out.length (λs=>∃ k:Nat,k<=out.length/\s.2=(k:Int)/\s.1=out/\∀ (ae:Nat) (h:ae<out.length),ae<k->uJ g out out[ae]) ⟨0,Nat.zero_le _,rfl,rfl,λae _ aa=>absurd aa (Nat.not_lt_zero _)⟩ (by show (out.length:Int) - 0<_; omega) λs aN=>?_
   obtain ⟨cur,l7⟩:=s
   obtain ⟨k,hk,rfl,rfl,KH⟩:=aN
   simp only
   rw [DJ k (by omega)]
   refine Tot.b8 (λbc=>?_) (λeF=>.aB ⟨bj,gz,λ_ h=>h,λ_ x J=>?_⟩)
   ·have bc:k<cur.length:=by omega
    rw [ev bc]
    have Gw:=gz _ (List.getElem_mem bc)
    have Ak:∀ P:Item->Prop,P cur[k]->∀ (ae:Nat) (h:ae<cur.length),ae=k->P cur[ae]:=λP du ae h e=>by subst e; exact du
    generalize J:cur[k]=x at *
    have V6:=Tp a8 x
    have hw:aQ (h3 g x - 1000)=h3 g x - 1000:=by rw [dK]; omega
    simp only [Option.bind_some,EH g x,hw]
    refine (.aJ (Ξ:=λr:List Item=>gj gQ r/\(∀ x∈r,np g l x)/\(∀ x∈cur,x∈r)/\uJ g r x) ?_ λr ax=>?_)
    ·refine Tot.count (λs=>s.2) g.ba.length (λs=>∃ i:Nat,i<=g.ba.length/\s.2=(i:Int)/\gj gQ s.1/\(∀ x∈s.1,np g l x)/\(∀ x∈cur,x∈s.1)/\∀ (p:Nat) (q:Prod),p<i->g.ba[p]?=some q->q.Left=h3 g x - 1000->(⟨p,0⟩:Item)∈s.1) ⟨0,Nat.zero_le _,rfl,bj,gz,λ_ h=>h,λp q aG=>absurd aG (Nat.not_lt_zero _)⟩ (by show (g.ba.length:Int) - 0<_; omega) λs aN=>?_
     obtain ⟨o,We⟩:=s
     obtain ⟨i,hi,rfl,qM,zY,CN,tX⟩:=aN
     simp only at qM zY CN tX ⊢
     rw [DJ i (by omega)]
     refine .aJ (Ξ:=λc:Bool=>(c=true->i<g.ba.length/\1000<=h3 g x)/\(c=false->g.ba.length<=i\/h3 g x<1000)) (Tot.b8 (λh=>.aB ⟨λaT=>⟨by omega,of_decide_eq_true aT⟩,λaT=>.inr (by have:=of_decide_eq_false aT; omega)⟩) (λh=>.aB ⟨λaT=>(by cases aT),λ_=>.inl (by omega)⟩)) λc ab=>Tot.cv (λh=>?_) (λh=>.aB ⟨qM,zY,CN,λbb p q aG=>?_⟩)
     ·obtain ⟨FZ,bb⟩:=ab.1 h
      have K8:g.ba[i]?=some g.ba[i]:=List.getElem?_eq_getElem FZ
      rw [ev FZ]
      refine .aJ (Ξ:=λo:List Item=>gj gQ o/\(∀ x∈o,np g l x)/\(∀ x∈cur,x∈o)/\∀ (p:Nat) (q:Prod),p<i+1->g.ba[p]?=some q->q.Left=h3 g x - 1000->(⟨p,0⟩:Item)∈o) ?_ λo bd=>.aB ⟨⟨i+1,by omega,rfl,bd⟩,by show (i:Int)<((i+1:Nat):Int); omega,by show ((i+1:Nat):Int)<=_; omega⟩
      refine Tot.au (.aJ (Ξ:=λo:List Item=>gj gQ o/\(∀ x∈o,np g l x)/\(∀ x∈cur,x∈o)/\∀ (p:Nat) (q:Prod),p<i+1->g.ba[p]?=some q->q.Left=h3 g x - 1000->(⟨p,0⟩:Item)∈o) (Tot.b8 (λh=>?_) (λh=>.aB ⟨qM,zY,CN,λp q aG z7 bO=>?_⟩)) λo bd=>.aB bd)
      ·have V4:=r9 a8 qM λx J=>(zY x J).jd
       refine .aJ (Ef o ⟨(i:Nat),0⟩ qM (by omega)) λr ax=>.aB ⟨ax.1,λy az=>?_,λy az=>(ax.2 y).2 (.inl (CN y az)),λp q aG z7 bO=>?_⟩
       ·rcases (ax.2 y).1 az with az | rfl
        ·exact zY y az
        ·exact .step Gw K8 (by omega) bb
       ·by_cases dt:p=i
        ·subst dt; exact (ax.2 _).2 (.inr rfl)
        ·exact (ax.2 _).2 (.inl (tX p q (by omega) z7 bO))
      ·by_cases dt:p=i
       ·subst dt
        rw [K8] at z7; cases z7
        exact absurd bO h
       ·exact tX p q (by omega) z7 bO
     ·rcases ab.2 h with h1 | h1
      ·exact tX p q (by have:=(List.getElem?_eq_some_iff.1 aG).1; omega) aG
      ·omega
    ·obtain ⟨sI,R5,lN,Sa⟩:=ax
     have hle:cur.length<=r.length:=xM (bj.nd uh) lN
     refine Tot.qy (λF5=>.aB ⟨sI,R5,lN,λe=>absurd (by omega) F5⟩) (λheq=>?_)
     have nz:r.length=cur.length:=by omega
     have Sb:r=cur:=by
      have lM:∀ y,y∈cur↔y∈r:=by
       intro y
       refine ⟨lN y,λaz=>Classical.byContradiction λaL=>?_⟩
       have:=xM (l:=y::cur) (m:=r) (List.nodup_cons.2 ⟨aL,bj.nd uh⟩) λz bM=>by
        rcases List.mem_cons.1 bM with rfl | bM
        ·exact az
        ·exact lN z bM
       simp at this
       omega
      exact (gj.uniq uh bj sI lM).symm
     subst Sb
     refine .aB ⟨⟨k+1,by omega,rfl,rfl,λae aa eV=>?_⟩,by show (k:Int)<((k+1:Nat):Int); omega,by show ((k+1:Nat):Int)<=_; omega⟩
     by_cases dt:ae=k
     ·exact Ak (uJ g r) Sa ae aa dt
     ·exact KH ae aa (by omega)
   ·obtain ⟨ae,aa,rfl⟩:=List.mem_iff_getElem.1 J
    exact KH ae aa (by omega)
  ·obtain ⟨h1,al,aO,b4,df⟩:=aa
   have hle:out.length<=ae.1.length:=xM (bj.nd uh) b4
   have fq:=r9 a8 al λx J=>(aO x J).jd
   refine .aB ⟨⟨al,aO,λx J hi=>b4 x (tK x J hi),λe=>df (by show ae.1.length=_; have e:ae.2=(ae.1.length:Int):=e; omega)⟩,?_⟩
   show 2 * (1000 - ae.1.length)+(if ae.2=(ae.1.length:Int) then 0 else 1)<2 * (1000 - out.length)+(if n=(out.length:Int) then 0 else 1)
   rw [if_neg eI]
   split
   ·omega
   ·have:ae.1.length≠out.length:=λe=>by omega
    omega
 ·have ab:=hx he
  induction J with
  | base h hi=>exact tK _ h hi
  | @step x q p h aG aL bb aS=>exact ab x aS bb p q aG (by omega)
def BX (g:b_) (l:List Item) (a:Int) (y:Item):Prop:=∃ x,np g l x/\h3 g x=a/\0<=a/\y=⟨x.Prod,x.dP+1⟩
theorem LA {g:b_}(a8:gV g) {x:Item}(h:0<=h3 g x):jd g ⟨x.Prod,x.dP+1⟩:=by
 obtain ⟨_,_,q,bO,aN⟩:=LR a8 h
 obtain ⟨bb,h1,_⟩:=nC aN
 exact ⟨q,bO,by show 0<=x.dP+1; omega,by show x.dP+1<=_; omega⟩
theorem S7 {g:b_}(a8:gV g) {x:Item}(h:jd g x):0<=x.dP/\x.dP<=8:=by
 obtain ⟨q,bO,bb,h1⟩:=h
 have:=a8.aP q (nC bO).2.2
 omega
theorem BX.jd {g:b_}(a8:gV g) {l:List Item}{a:Int}{y:Item}(h:BX g l a y):jd g y:=by
 obtain ⟨x,_,h1,al,rfl⟩:=h
 exact LA a8 (by omega)
theorem Oy (g:b_) (a8:gV g) (l:List Item) (a:Int) (ao:l.length<=1000000):Tot (Bb g l a) λr=>gj gQ r/\∀ y,y∈r↔BX g l a y:=by
 unfold Bb
 refine .aJ (En g a8 l ao) λc ab=>.aJ (Ξ:=λr=>gj gQ r/\∀ y,y∈r↔BX g l a y) ?_ λr ax=>.aB ax
 have hx:=r9 a8 ab.1 λx J=>((ab.2 x).1 J).jd
 refine Tot.count (λs=>s.2) c.length (λs=>∃ k:Nat,k<=c.length/\s.2=(k:Int)/\gj gQ s.1/\∀ y,y∈s.1↔∃ x∈c.take k,h3 g x=a/\0<=a/\y=⟨x.Prod,x.dP+1⟩) ⟨0,Nat.zero_le _,rfl,List.Pairwise.nil,λy=>by simp⟩ (by show (c.length:Int) - 0<_; omega) λs aN=>?_
 obtain ⟨o,l7⟩:=s
 obtain ⟨k,hk,rfl,qM,z1⟩:=aN
 simp only at qM z1 ⊢
 rw [DJ k (by omega)]
 refine Tot.b8 (λbc=>?_) (λeF=>.aB ⟨qM,λy=>?_⟩)
 ·have bc:k<c.length:=by omega
  have SM:=((ab.2 _).1 (List.getElem_mem bc)).jd
  have fZ:c.take (k+1)=c.take k++[c[k]]:=lz bc
  rw [ev bc]
  generalize c[k]=x at *
  have aV:=S7 a8 SM
  have hw:aQ (x.dP+1)=x.dP+1:=by rw [dK]; omega
  refine .aJ (Ξ:=λo:List Item=>gj gQ o/\∀ y,y∈o↔∃ x∈c.take (k+1),h3 g x=a/\0<=a/\y=⟨x.Prod,x.dP+1⟩) ?_ λo bd=>.aB ⟨⟨k+1,by omega,rfl,bd⟩,by show (k:Int)<((k+1:Nat):Int); omega,by show ((k+1:Nat):Int)<=_; omega⟩
  have lM:∀ y,(∃ z∈c.take (k+1),h3 g z=a/\0<=a/\y=(⟨z.Prod,z.dP+1⟩:Item))↔(y∈o\/(h3 g x=a/\0<=a/\y=⟨x.Prod,x.dP+1⟩)):=by
   intro y
   rw [z1 y,fZ]
   constructor
   ·rintro ⟨z,bM,h⟩
    rcases List.mem_append.1 bM with bM | bM
    ·exact .inl ⟨z,bM,h⟩
    ·rw [List.mem_singleton.1 bM] at h; exact .inr h
   ·rintro (⟨z,bM,h⟩ | h)
    ·exact ⟨z,by simp [bM],h⟩
    ·exact ⟨x,by simp,h⟩
  simp only [Option.bind_some,EH g x,hw]
  refine (.aJ (Ξ:=λb:Bool=>b=decide (0<=h3 g x/\h3 g x=a)) (Tot.b8 (λh=>.aB (by simp [h])) (λh=>.aB (by simp [h]))) λb aH=>?_)
  subst aH
  refine .aJ (Ξ:=λo:List Item=>gj gQ o/\∀ y,y∈o↔∃ x∈c.take (k+1),h3 g x=a/\0<=a/\y=⟨x.Prod,x.dP+1⟩) (Tot.b8 (λh=>?_) (λh=>.aB ⟨qM,λy=>?_⟩)) λo bd=>.aB bd
  ·have K5:=r9 a8 qM λy az=>by
    obtain ⟨z,_,h1,al,rfl⟩:=(z1 y).1 az
    exact LA a8 (by omega)
   refine (.aJ (Ef o _ qM (by omega)) λr ax=>.aB ⟨ax.1,λy=>?_⟩)
   rw [ax.2 y,lM y]
   constructor
   ·rintro (h1 | h1)
    ·exact .inl h1
    ·exact .inr ⟨h.2,by omega,h1⟩
   ·rintro (h1 | h1)
    ·exact .inl h1
    ·exact .inr h1.2.2
  ·rw [lM y]
   exact ⟨.inl,λaT=>aT.elim id λaT=>absurd ⟨by omega,aT.1⟩ h⟩
 ·have:k=c.length:=by omega
  subst this
  rw [List.take_length] at z1
  rw [z1 y]
  constructor
  ·rintro ⟨x,J,h⟩
   exact ⟨x,(ab.2 x).1 J,h⟩
  ·rintro ⟨x,J,h⟩
   exact ⟨x,(ab.2 x).2 J,h⟩
def iW (a b:Int):Bool:=decide (a<b)
theorem LL {a b:Int}:iW a b=true↔a<b:=by simp [iW]
theorem G9 {a b:Int}:iW a b=false↔¬ a<b:=by simp [iW]
theorem AJ:Ord iW where
 swo:=⟨λx=>by rw [G9]; omega,λx y z h1 al=>by rw [LL] at *; omega,λx y z h1 al=>by rw [G9] at *; omega⟩
 jU:=λx y h1 al=>by rw [G9] at *; omega
theorem II {l:List Int}(ao:gj iW l) {i ae:Nat}(hi:i<l.length) (aa:ae<l.length) (h:i<ae):iW l[i] l[ae]=true:=List.pairwise_iff_getElem.1 ao i ae hi aa h
theorem Ca (l:List Int) (x:Int) (ao:gj iW l) (aL:l.length<=100000):Tot (pq l x) λr=>gj iW r/\r.length<=l.length+1/\(∀ y,y∈r↔y∈l\/y=x):=by
 unfold pq
 refine .aJ (Ξ:=λz:Int=>∃ k:Nat,z=(k:Int)/\k<=l.length/\(∀ (i:Nat) (h:i<l.length),k<=i->iW x l[i]=true)/\∀ (h:0<k),iW x (l[k - 1]?.getD default)=false) ?_ λz bM=>?_
 ·refine Tot.count (λs=>-s) 1 (λs=>∃ k:Nat,s=(k:Int)/\k<=l.length/\∀ (i:Nat) (h:i<l.length),k<=i->iW x l[i]=true) ⟨l.length,rfl,Nat.le_refl _,λi h hk=>by omega⟩ (by show 1 - -(l.length:Int)<_; omega) λs aN=>?_
  obtain ⟨k,rfl,hk,qP⟩:=aN
  refine .aJ (Ξ:=λc:Bool=>(c=true->0<k/\iW x (l[k - 1]?.getD default)=true)/\(c=false->∀ (h:0<k),iW x (l[k - 1]?.getD default)=false)) ?_ λc ab=>Tot.cv (λh=>?_) (λh=>.aB ⟨k,rfl,hk,qP,ab.2 h⟩)
  ·refine Tot.b8 (λh=>?_) (λh=>.aB ⟨λaT=>(by cases aT),λ_ aT=>by omega⟩)
   have gN:k - 1<l.length:=by omega
   have hw:aQ ((k:Int) - 1)=((k - 1:Nat):Int):=by rw [dK]; omega
   rw [hw,ev gN,List.getElem?_eq_getElem gN]
   simp only [Option.bind_some,Option.getD_some]
   exact .aB ⟨λaT=>⟨by omega,aT⟩,λaT _=>aT⟩
  ·obtain ⟨bb,h1⟩:=ab.1 h
   refine .aB ⟨⟨k - 1,by rw [dK]; omega,by omega,λi hi RM=>?_⟩,by show -(k:Int) < -aQ _; rw [dK]; omega,by show -aQ _<=1; rw [dK]; omega⟩
   by_cases e:i=k - 1
   ·subst e
    rw [List.getElem?_eq_getElem hi] at h1
    exact h1
   ·exact qP i hi (by omega)
 ·obtain ⟨k,rfl,hk,qP,mu⟩:=bM
  refine .aJ (Ξ:=λc:Bool=>(c=true↔(0<k/\l[k - 1]?.getD default=x))) ?_ λc ab=>Tot.cv (λh=>?_) (λh=>?_)
  ·refine Tot.b8 (λh=>?_) (λh=>.aB ⟨λaT=>(by cases aT),λaT=>by omega⟩)
   have gN:k - 1<l.length:=by omega
   have hw:aQ ((k:Int) - 1)=((k - 1:Nat):Int):=by rw [dK]; omega
   rw [hw,ev gN,List.getElem?_eq_getElem gN]
   simp only [Option.bind_some,Option.getD_some]
   generalize l[k - 1]=y
   refine .aB ?_
   exact ⟨λaT=>⟨by omega,of_decide_eq_true aT⟩,λaT=>decide_eq_true aT.2⟩
  ·obtain ⟨bb,h1⟩:=ab.1 h
   have gN:k - 1<l.length:=by omega
   rw [List.getElem?_eq_getElem gN] at h1
   have J:x∈l:=by rw [<- h1]; exact List.getElem_mem gN
   exact .aB ⟨ao,by omega,λy=>⟨.inl,λh=>h.elim id λe=>e ▸ J⟩⟩
  ·have eI:∀ (i:Nat) (hi:i<l.length),i<k->iW l[i] x=true:=by
    intro i hi tS
    have gN:k - 1<l.length:=by omega
    have mu:=mu (by omega)
    have aL:l[k - 1]?.getD default≠x:=λe=>by rw [ab.2 ⟨by omega,e⟩] at h; cases h
    rw [List.getElem?_eq_getElem gN] at mu aL
    simp only [Option.getD_some] at mu aL
    have gH:iW l[k - 1] x=true:=by
     cases b9:iW l[k - 1] x with
     | true=>rfl
     | false=>exact absurd (AJ.jU _ _ b9 mu) aL
    by_cases e:i=k - 1
    ·subst e; exact gH
    ·exact AJ.swo.trans _ _ _ (II ao hi gN (by omega)) gH
   refine .aJ (Ξ:=λz=>z=l.take k) (Tot.sub ⟨by omega,by omega,by omega⟩ (by simp)) λz bM=>?_
   subst bM
   refine .aJ (Ξ:=λ_=>True) (Tot.ap (by simp [lim]; omega) trivial) λ_ _=>.aJ (Ξ:=λ_=>True) (Tot.ap (by simp [lim]; omega) trivial) λ_ _=>?_
   refine .aJ (Ξ:=λz=>z=l.drop k) (Tot.sub ⟨by omega,by omega,by omega⟩ ?_) λz bM=>?_
   ·rw [List.take_of_length_le]
    ·congr 1
    ·rw [List.length_drop]; omega
   subst bM
   refine .aJ (Ξ:=λ_=>True) (Tot.ap (by simp [lim]; omega) trivial) λ_ _=>.aB ?_
   rw [List.nil_append]
   refine ⟨?_,?_,?_⟩
   ·have h1:∀ a∈l.take k,iW a x=true:=by
     intro a bj
     obtain ⟨i,hi,rfl⟩:=List.mem_iff_getElem.1 bj
     rw [List.length_take] at hi
     rw [List.getElem_take]
     exact eI i (by omega) (by omega)
    have al:∀ a∈l.drop k,iW x a=true:=by
     intro a bj
     obtain ⟨i,hi,rfl⟩:=List.mem_iff_getElem.1 bj
     rw [List.length_drop] at hi
     rw [List.getElem_drop]
     exact qP (k+i) (by omega) (by omega)
    unfold gj
    rw [List.append_assoc,List.pairwise_append]
    refine ⟨List.Pairwise.sublist (List.take_sublist k l) ao,?_,λa bj b aH=>?_⟩
    ·rw [List.singleton_append,List.pairwise_cons]
     exact ⟨al,List.Pairwise.sublist (List.drop_sublist k l) ao⟩
    ·rcases List.mem_append.1 aH with aH | aH
     ·rw [List.mem_singleton.1 aH]; exact h1 a bj
     ·exact AJ.swo.trans _ _ _ (h1 a bj) (al b aH)
   ·simp only [List.length_append,List.length_take,List.length_drop,List.length_cons,List.length_nil]; omega
   ·intro y
    rw [List.append_assoc,List.mem_append,List.mem_append,List.mem_singleton]
    have hm:y∈l↔y∈l.take k\/y∈l.drop k:=by
     rw [<- List.mem_append,List.take_append_drop]
    rw [hm]
    constructor
    ·rintro (h | h | h)
     ·exact .inl (.inl h)
     ·exact .inr h
     ·exact .inl (.inr h)
    ·rintro ((h | h) | h)
     ·exact .inl h
     ·exact .inr (.inr h)
     ·exact .inr (.inl h)
end Go.Proofs
