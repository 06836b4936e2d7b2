/-
  What is proved here: parts of the proof that the last text states: rules for walks through code, and of this program's functions what they answer. No condition of their own.
-/
import Derived.ChangeAt
import Derived.ChangeOld
import Derived.ChangeSame
import Derived.Deep.Draws
import Derived.Deep.LoopGhost
import Derived.Deep.Slices
import Derived.KernelRfl
import Derived.Laws.CopyRow
import Derived.Lib.SliceRun
import Derived.Lib.SlicesCompact
import Derived.Lib.Walk
import Derived.Maps.OwnIn
import Derived.ReadAgain
import Derived.RowKit3
import Derived.Shelf.RegionOpenPlain
import Derived.Shelf.SlLaysQ
import Derived.Shelf.SlSortCmp.NoneTotal
import Derived.Shelf.SlicesE.Kit
import Derived.Shelf.SlicesQ.Load
import Derived.Shelf.Strconv.Itoa3
import Derived.Shelf.Strings.BuilderK
import Derived.Sort.WalkB12
import Derived.StringKeys
import Derived.Test.YthfejpmkmogliaaGreatDoorRows
import Derived.WalkKit
import Derived.WideShapes
import Derived.Test.YthfejpmkmogliaaGreatDoorE2
namespace Go.Own
open Go
set_option linter.unusedSectionVars false
variable [TB]
def eqAT (P:Program) (t:TypeId) (sh:List Sh):Bool :=
 eqT P 100 t sh&&(match P.underlying t with | some (.struct _)=>true | _=>false)&&!P.eqGuardType P.depth t
section
variable {P:Program}{g:Gst}{t t2:TypeId}{ty:TypeId}{a b:Operand}
theorem run_eqA {az bs:List Value}{sh:List Sh}(ha:az.map shOf=sh.map some) (hb:bs.map shOf=sh.map some) (ht:eqAT P t sh=true) (w:World) :
  (do eqGuard .eql t a b (.agg az.toArray) (.agg bs.toArray); binOp .eql t (.agg az.toArray) (.agg bs.toArray):Sem Value).run P w=.ok (.bool (eqVs az bs)) w:=by
 simp only [eqAT,Bool.and_eq_true,Bool.not_eq_true'] at ht
 obtain ⟨⟨h1,h2⟩,h3⟩:=ht
 have h:=run_eqIn w 100 t sh h1 Op.maxDepth (by decide) az bs ha hb
 split at h2
 ·rename_i fs hu
  simp only [pack,hu] at h
  simp [eqGuard,binOp,h3,Op.equal,h]
 ·cases h2
theorem run_neA {az bs:List Value}{sh:List Sh}(ha:az.map shOf=sh.map some) (hb:bs.map shOf=sh.map some) (ht:eqAT P t sh=true) (w:World) :
  (do eqGuard .neq t a b (.agg az.toArray) (.agg bs.toArray); binOp .neq t (.agg az.toArray) (.agg bs.toArray):Sem Value).run P w=.ok (.bool (!eqVs az bs)) w:=by
 simp only [eqAT,Bool.and_eq_true,Bool.not_eq_true'] at ht
 obtain ⟨⟨h1,h2⟩,h3⟩:=ht
 have h:=run_eqIn w 100 t sh h1 Op.maxDepth (by decide) az bs ha hb
 split at h2
 ·rename_i fs hu
  simp only [pack,hu] at h
  simp [eqGuard,binOp,h3,Op.equal,h]
 ·cases h2
namespace O
theorem eqlA {va vb:List Value}{sh:List Sh}(hx:Rd g a (.agg (va.map .lit))) (hy:Rd g b (.agg (vb.map .lit))) (ha:va.map shOf=sh.map some) (hb:vb.map shOf=sh.map some) (ht:eqAT P t sh=true) :
  PS P g (.binOp .eql t a b t2) ty (BB (eqVs va vb)):=.p1 (.binA hx.opd hy.opd rfl fun w=>run_eqA ha hb ht w)
theorem neqA {va vb:List Value}{sh:List Sh}(hx:Rd g a (.agg (va.map .lit))) (hy:Rd g b (.agg (vb.map .lit))) (ha:va.map shOf=sh.map some) (hb:vb.map shOf=sh.map some) (ht:eqAT P t sh=true) :
  PS P g (.binOp .neq t a b t2) ty (BB (!eqVs va vb)):=.p1 (.binA hx.opd hy.opd rfl fun w=>run_neA ha hb ht w)
end O
end
end Go.Own
namespace Go.Own
open Go
set_option linter.unusedSectionVars false
variable [TB]
section
variable {P:Program}{N:Rm}{g g2:Gst}{d r k0:Nat}{α:Type}
theorem View.p0 {p:Place}{cs cs':List AV}(hp:atP g p=some (.obj cs)) (hk:Nat.blt 0 cs.length=true) [h:Vws cs cs']:View g (.ptr p 0) (.iptr cs') :=
 .ptr hp (z:=0) (n:=0) (.inr rfl) (by simpa using hk) (by simpa using h.l) fun k x y hx hy=>h.v g k x y (by simpa using hx) hy
theorem RK.el {en:En α}{L:List α}{j off:Nat}{i:Int}{y:α}(h2:atP g2 ⟨r,[j]⟩=some (oR en L)) (hi:idx L i=some y) (ho:Nat.blt off en.z=true):RK g2 (.ptr ⟨r,[j]⟩ (i.toNat * en.z+off)) :=
 (El.mk (g:=g2) h2 hi h2 hi ho).rk
theorem npPtr {p:Place}{k:Nat}:∀ z q n m new,AV.ptr p k≠.pend z q n m new:=by simp
inductive BkE (g:Gst) (d r k0:Nat) (G4:List (Nat × AV)):List (Nat × AV)->Prop
 | nil:BkE g d r k0 G4 []
 | c {α:Type}{en:En α}{L:List α}{s off:Nat}{i:Int}{y:α}{l:List (Nat × AV)}(h:g s=some (.ptr ⟨r,[k0]⟩ (i.toNat * en.z+off))) (hp:atP (get G4) ⟨r,[k0]⟩=some (oR en L)) (hi:idx L i=some y) (ho:Nat.blt off en.z=true) (hd:Nat.beq s d=false) (h4:get G4 s=none) (t:BkE g d r k0 G4 l):BkE g d r k0 G4 ((s,.ptr ⟨r,[k0]⟩ (i.toNat * en.z+off))::l)
theorem BkE.spec {G4 l:List (Nat × AV)}(h:BkE g d r k0 G4 l):∀ t x,get l t=some x->get G4 t=none/\t≠d/\g t=some x/\∃ m z n cs,x=.ptr ⟨r,[k0]⟩ m/\atP (get G4) ⟨r,[k0]⟩=some (.own z n cs)/\m<cs.length:=by
 induction h with
 | nil=>intro t x hx; cases hx
 | @c α en L s off i y l h hp hi ho hd h4 _ ih =>
  intro t x hx; simp only [get] at hx
  split at hx
  ·rename_i e; subst e; cases hx; exact ⟨h4,Nat.ne_of_beq_eq_false hd,h,_,_,_,_,rfl,hp,el_lt hi ho⟩
  ·exact ih t x hx
theorem TrX.keep {g':Gst}{x2:AV}{G2:List (Nat × AV)}(hG:TrX g (get G2) r x2 G2) (h1:∀ t,t≠r->g' t=g t) (h2:g' r=some x2):Keep g' (get G2):=by
 refine ⟨fun t x hx=>?_,fun t x hx=>?_,fun t z q n m new hx=>?_⟩
 ·rcases hG.spec t x hx with ⟨a,b,_⟩ | ⟨rfl,rfl,_⟩
  ·rw [h1 t a]; exact b
  ·exact h2
 ·rcases hG.spec t x hx with ⟨_,_,h3 | ⟨h3,_⟩⟩ | ⟨_,_,h3⟩
  ·exact h3.rk
  ·exact h3.rk
  ·exact .nr h3
 ·rcases hG.spec t _ hx with ⟨_,_,h3 | ⟨h3,_⟩⟩ | ⟨_,_,h3⟩
  ·exact h3.np _ _ _ _ _ rfl
  ·exact h3.np _ _ _ _ _ rfl
  ·cases h3
theorem setP_box {cs:List AV}{y x:AV}(h:g r=some (.obj cs)) (hk:cs[k0]?=some x):setP g ⟨r,[k0]⟩ y r=some (.obj (cs.set k0 y)):=by
 simp [setP,h,AV.setAt,AV.kids,hk,AV.setKid]
theorem EO.fr {o:Oper}{y:AV}{cs cs5:List AV}{G1 G4:Value->List (Nat × AV)}{c4:Value->List AV}{G5 A:List (Nat × AV)}(hd:o.dst=some d) (hN:N.ok d=true) (hr:g r=some (.obj cs)) (hy:cs[k0]?=some y) [hyn:NRc y]
  (h1:∀ v,TrX g (get (G1 v)) r (.obj (cs.set k0 (.lit v))) (G1 v)) (hc:∀ v,CallOk P N (get (G1 v)) o d (get (G4 v))) (h4r:∀ v,get (G4 v) r=some (.obj (c4 v))) (h4k:∀ v,(c4 v)[k0]?=some (.lit v)) (h4s:∀ v,(c4 v).set k0 y=cs5)
  (h5:∀ v,TrX (get (G4 v)) (get G5) r (.obj cs5) G5) (h5r:atP (get G5) ⟨r,[k0]⟩=some y) (hA:BkE g d r k0 G5 A) (hns:∀ i,y≠.self i:=by exact fun _ h=>by cases h):EO P N g o (get (A++G5)):=by
 refine .call hd hN (CallOk.framed hr hy hyn.nr hns fun v hv=>⟨get (G1 v),get (G4 v),get G5,?_,hc v,?_,?_,h5r,?_⟩)
 ·exact (h1 v).keep (fun t ht=>setP_slot ht) (setP_box hr hy)
 ·have:=h4r v
  simp only [atP,this,AV.at,AV.kids,h4k v]
 ·refine (h5 v).keep (fun t ht=>setP_slot ht) ?_
  rw [setP_box (h4r v) (h4k v),h4s v]
 ·refine ⟨fun t x h=>?_,fun t x h=>?_⟩
  ·rw [get_app]
   cases hA':get A t with
   | none=>exact h
   | some z =>
    obtain ⟨q1,_⟩:=hA.spec t z hA'
    rw [q1] at h; cases h
  ·rw [get_app] at h
   cases hA':get A t with
   | none=>rw [hA'] at h; exact .inl h
   | some z =>
    rw [hA'] at h
    cases h
    exact .inr (hA.spec t x hA')
end
end Go.Own
namespace Go.Own
open Go
set_option linter.unusedSectionVars false
variable [TB]
section
variable {P:Program}{N:Rm}{ops:Array Oper}{g g1 gA:Gst}{K:Gst->Prop}{l:List Oper}{d r:Nat}{t:TypeId}{a b:Operand}{x y:AV}
variable {AT:List (List Nat)}{acc:Acc}{i:Nat}
theorem of_blt {a b:Nat}(h:Nat.blt a b=true):a<b:=by simpa using h
def neD:Option Nat->Nat->Bool
 | none,_=>true
 | some a,d=>!Nat.beq a d
theorem neD_spec {o:Option Nat}{d:Nat}(h:neD o d=true):o≠some d:=by
 rintro rfl
 simp [neD] at h
inductive UL (P:Program) (N:Rm) (ops:Array Oper) (AT:List (List Nat)) (rs:Place->Prop) (gA g1:Gst) (o:Oper) (U:Acc):Acc->Prop
 | nil:UL P N ops AT rs gA g1 o U []
 | c {k d:Nat}{x:AV}{o':Oper}{V:Acc}(hst:Stab rs gA g1 o x) (h1:g1 d=none) (hne:neD o.dst d=true) (ho:ops[k]?=some o') (hod:o'.dst=some d) (hN:N.ok d=true) (hw:Wanted (visG g1 (fun m=>(AT.getD k []).contains m) U) ops o' true)
   (hs:PS P (visG g1 (fun m=>(AT.getD k []).contains m) U) o'.op o'.type x) (t:UL P N ops AT rs gA g1 o U V):UL P N ops AT rs gA g1 o U ((k,d,some x)::V)
theorem UL.spec {o:Oper}{U V:Acc}{rs:Place->Prop}(h:UL P N ops AT rs gA g1 o U V):∀ e∈V,(∃ x,e.2.2=some x/\Stab rs gA g1 o x)/\(g1 e.2.1=none/\o.dst≠some e.2.1)/\∃ o',ops[e.1]?=some o'/\o'.dst=some e.2.1/\N.ok e.2.1=true/\StepOk P (visG g1 (fun m=>(AT.getD e.1 []).contains m) U) ops o' e.2.2:=by
 induction h with
 | nil=>intro e he; cases he
 | c hst h1 hne ho hod hN hw hs _ ih =>
  intro e he
  rcases List.mem_cons.1 he with rfl | he
  ·exact ⟨⟨_,rfl,hst⟩,⟨h1,neD_spec hne⟩,_,ho,hod,hN,.inl ⟨hw,.inl hs⟩⟩
  ·exact ih e he
theorem DL.bu (j0:Nat) {G G2:List (Nat × AV)}{U:Acc}{o:Oper}{rs:List Nat}(he:EffV P N (rsV rs) (visG (get G) (fun m=>(AT.getD j0 []).contains m) acc) o (get G2)) (hrs:rs.all (fun r=>(get G r).isSome)=true) (hg:o.guard=none) (hpd:ndr ((acc.filterMap pendPlace).map Place.root)=true) (hp0:npB G=true) (hj:Nat.beq ops.size (j0+l.length+1)=true)
  (hU:acc.filter (fun e=>!(AT.getD j0 []).contains e.1)=U) (hul:UL P N ops AT (rsV rs) (visG (get G) (fun m=>(AT.getD j0 []).contains m) acc) (get G2) o U U)
  (hb:(List.range ops.size).all (fun k=>Nat.ble k j0||(AT.getD k []).contains j0)=true) (hk:DL P N ops AT (get G2) (j0+1) U l K):DL P N ops AT (get G) i acc (o::l) K:=by
 intro U0 j hP hseg hdrop
 have:=drop_at hdrop hj
 subst this
 obtain ⟨h1,h2⟩:=drop_cons hdrop
 have hmem:∀ e∈U,e∈acc:=fun e he=>by rw [<- hU] at he; exact (List.mem_filter.1 he).1
 have hP1:PendOk P N ops AT (get G2) (j+1) U:=⟨fun e he=>by have:=(hseg.le hP).2 e (hmem e he); omega,fun e he=>(hul.spec e he).2.1.1,by rw [<- hU]; exact (List.filter_sublist.map _).nodup (hseg.nodup hP),fun e he e' he' h=>hseg.uniq hP (hmem e he) (hmem e' he') h,fun e he=>(hul.spec e he).2.2⟩
 obtain ⟨g',hr,hK⟩:=hk U (j+1) hP1 .nil h2
 refine ⟨g',.bar hseg (ndr_spec hpd) (npB_spec hp0) h1 ?_ he (fun r hr e=>by have:=List.all_eq_true.1 hrs r.root hr; rw [e] at this; cases this) hU.symm (fun e h=>(hul.spec e h).1) (fun e h=>(hul.spec e h).2.1) (fun e h=>(hul.spec e h).2.2) ?_ hr,hK⟩
 ·unfold Wanted; rw [hg]
 ·refine List.all_eq_true.2 fun k hk=>?_
  have:=List.all_eq_true.1 hb k hk
  simp only [Bool.or_eq_true,decide_eq_true_eq,Nat.ble_eq] at this ⊢
  exact this
theorem DL.bz (j0:Nat) {G G2:List (Nat × AV)}{U:Acc}{o:Oper}{ps:List Place}(he:EffV P N (fun p=>p∈ps) (visG (get G) (fun m=>(AT.getD j0 []).contains m) acc) o (get G2)) (hrs:ps.all (fun r=>(get G r.root).isSome)=true) (hg:o.guard=none) (hpd:ndr ((acc.filterMap pendPlace).map Place.root)=true) (hp0:npB G=true) (hj:Nat.beq ops.size (j0+l.length+1)=true)
  (hU:acc.filter (fun e=>!(AT.getD j0 []).contains e.1)=U) (hul:UL P N ops AT (fun p=>p∈ps) (visG (get G) (fun m=>(AT.getD j0 []).contains m) acc) (get G2) o U U)
  (hb:(List.range ops.size).all (fun k=>Nat.ble k j0||(AT.getD k []).contains j0)=true) (hk:DL P N ops AT (get G2) (j0+1) U l K):DL P N ops AT (get G) i acc (o::l) K:=by
 intro U0 j hP hseg hdrop
 have:=drop_at hdrop hj
 subst this
 obtain ⟨h1,h2⟩:=drop_cons hdrop
 have hmem:∀ e∈U,e∈acc:=fun e he=>by rw [<- hU] at he; exact (List.mem_filter.1 he).1
 have hP1:PendOk P N ops AT (get G2) (j+1) U:=⟨fun e he=>by have:=(hseg.le hP).2 e (hmem e he); omega,fun e he=>(hul.spec e he).2.1.1,by rw [<- hU]; exact (List.filter_sublist.map _).nodup (hseg.nodup hP),fun e he e' he' h=>hseg.uniq hP (hmem e he) (hmem e' he') h,fun e he=>(hul.spec e he).2.2⟩
 obtain ⟨g',hr,hK⟩:=hk U (j+1) hP1 .nil h2
 refine ⟨g',.bar hseg (ndr_spec hpd) (npB_spec hp0) h1 ?_ he (fun r hr e=>by have:=List.all_eq_true.1 hrs r hr; rw [e] at this; cases this) hU.symm (fun e h=>(hul.spec e h).1) (fun e h=>(hul.spec e h).2.1) (fun e h=>(hul.spec e h).2.2) ?_ hr,hK⟩
 ·unfold Wanted; rw [hg]
 ·refine List.all_eq_true.2 fun k hk=>?_
  have:=List.all_eq_true.1 hb k hk
  simp only [Bool.or_eq_true,decide_eq_true_eq,Nat.ble_eq] at this ⊢
  exact this
theorem EffV.box {o:Oper}{r:Nat}{x:AV}{G1 G2:List (Nat × AV)}(he:EO P N (get G1) o (get G2)) (hr:g r=some x) [hx:NRc x] (hk:Trim false g (get G1) G1) (h0:get G1 r=none) (h1:get G2 r=none) (hd:neD o.dst r=true):EffV P N (rsV [r]) g o (get ((r,x)::G2)):=by
 rw [<- get_cons]
 exact he.eff.frame hr hx.nr hk.keep h0 h1 (neD_spec hd)
theorem EO.sO {o:Oper}{k0:Nat}{cs cs' cs2:List AV}{G2:List (Nat × AV)}(ho:o.op=.store t a b) (hd:o.dst=none) (hs:g r=some (.obj cs)) (ha:Rd g a (.ptr ⟨r,[]⟩ k0)) (hb:Rd g b y) [hn:NRc y] (hc:cellsP y=some cs') (hz:sizeT P t cs'.length=true)
  (hk:Nat.ble (k0+cs'.length) cs.length=true) (h0:Nat.blt 0 cs'.length=true) (he:splice cs k0 cs'=cs2) [hno:NRl cs] (hr:(get G2 r).isSome=true) (hG:TrS g (get G2) r cs2 G2):EO P N g o (get G2) :=
 .box ho hd hs ha hb hn.nr hc hz (Nat.le_of_ble_eq_true hk) (by simpa using h0) he (by intro e; rw [e] at hr; cases hr) hG
end
end Go.Own
namespace Go.Own
open Go
set_option linter.unusedSectionVars false
variable [TB]
section
variable {α:Type}
theorem Vws.app {xs ys xs' ys':List AV}(h:Vws xs ys) (h':Vws xs' ys'):Vws (xs++xs') (ys++ys'):=⟨by simp [h.l,h'.l],fun g k a b ha hb=>by
 by_cases hk:k<xs.length
 ·rw [List.getElem?_append_left hk] at ha
  rw [List.getElem?_append_left (by rw [h.l]; exact hk)] at hb
  exact h.v g k a b ha hb
 ·rw [List.getElem?_append_right (by omega)] at ha
  rw [List.getElem?_append_right (by rw [h.l]; omega),h.l] at hb
  exact h'.v g _ a b ha hb⟩
instance {e e':En α}{L:List α} [h:Tw e e']:Vws (rowc e L) (rowc e' L):=⟨(vws_rowc e e' L).1,(vws_rowc e e' L).2⟩
theorem Vw.rl {en:En α}{L:List α}{n:Nat}{cs cs':List AV}(h:rowc en L=cs') (hl:L.length=n) [hv:Vws cs cs']:Vw (.own en.z n cs) (iR en L):=⟨fun g=>by
 subst h hl
 exact .own hv.l (hv.v g)⟩
theorem Vw.pn {en en':En α}{L M:List α}{m:Nat}{new new':List AV} [h:Tw en en'] (hn:rowc en' M=new') (hm:M.length=m) [h':Vws new new']:Vw (.own en.z (L.length+m) (rowc en L++new)) (iR en' (L++M)):=⟨fun g=>by
 subst hn hm
 have hv:=Vws.app (inferInstance:Vws (rowc en L) (rowc en' L)) h'
 show View g (.own en.z (L.length+M.length) (rowc en L++new)) (.imm en'.z (L++M).length (rowc en' (L++M)))
 have e:rowc en' (L++M)=rowc en' L++rowc en' M:=by simp [rowc]
 rw [e,List.length_append,<- h.z]
 exact .own hv.l (hv.v g)⟩
end
end Go.Own
namespace Go.Own
open Go
set_option linter.unusedSectionVars false
variable [TB]
section
variable {α:Type}{g g2:Gst}{p q:Place}{P:Program}{a b:Operand}{t:TypeId}{ty:TypeId}
theorem RK.brw {en:En α}{L:List α}(h:atP g2 p=some (oR en L)):RK g2 (.brw en.z p L.length):=.ref rfl (.inl ⟨_,_,h,Nat.le_refl _⟩)
namespace O
theorem apL' {en:En α}{L M r:List α}{e b0 m:Nat}{cs:List AV}(hs:Rd g a (.brw en.z p L.length)) (hp:atP g p=some (oR en L)) (hx:Rd g b (.brw en.z q m)) (hq:atP g q=some (.own en.z m cs)) (hl:cs.length=m * en.z) (hf:cs.all flatB=true) (hm:M.length=m) (ht:appT P t e en.z b0=true) (hb:Nat.ble b0 128=true) (h:appO L M=some r)
  (hno:∀ t z n m new,g t≠some (.pend z p n m new)):PS P g (.call { callee:=.builtin .append,args:=#[a,b],argTypes:=#[t,t] }) ty (.pend en.z p L.length m cs):=by
 subst hm
 obtain ⟨h1,h2,_⟩:=app_bound h hb
 exact .pa (.grow hs.opd (.inl ⟨_,hp⟩) (fun t z' n' m' new' e=>hno _ _ _ _ _ e) hx.opd (src_lit hq hl hf) ht h1 h2)
end O
end
end Go.Own
namespace Go.Own
open Go Go.RowKit Go.ChangeShapes Go.WideShapes Go.Deep
set_option linter.unusedSectionVars false
variable [TB]
variable {α β σ:Type}{P:Program}
abbrev R0 (w:World) (y:AV) (u:Value):Prop:=R w (fun b=>b<w.heap.size) (fun _ _=>False) y u (fun _=>False)
def RL (w:World) (ys:List AV) (cs:List Value):Prop :=
 ys.length=cs.length/\∀ (k:Nat) (y:AV) (u:Value),ys[k]?=some y->cs[k]?=some u->u.oneCell'=true/\R0 w y u
theorem RL.nil {w:World}:RL w [] []:=⟨rfl,fun _ _ _ h=>by simp at h⟩
theorem RL.one {w:World}{y:AV}{u:Value}(h1:u.oneCell'=true) (h:R0 w y u):RL w [y] [u] :=
 ⟨rfl,fun k y' u' hy hu=>by
  cases k with
  | zero=>simp at hy hu; subst hy hu; exact ⟨h1,h⟩
  | succ k=>simp at hy⟩
theorem RL.app {w:World}{ys zs:List AV}{cs ds:List Value}(h:RL w ys cs) (h2:RL w zs ds):RL w (ys++zs) (cs++ds):=by
 refine ⟨by simp [h.1,h2.1],fun k y u hy hu=>?_⟩
 by_cases hk:k<ys.length
 ·rw [List.getElem?_append_left hk] at hy
  rw [List.getElem?_append_left (h.1 ▸ hk)] at hu
  exact h.2 k y u hy hu
 ·rw [List.getElem?_append_right (by omega)] at hy
  rw [List.getElem?_append_right (by have:=h.1; omega),<- h.1] at hu
  exact h2.2 _ y u hy hu
structure Ar (P:Program) (e:En α) (t:TypeId) (ok:α->Prop):Prop where
 z:P.cellsOf t=e.z
 go:∀ {H:Type}{enc:TypeId × Value->H}{w:World}{n:Nat}{cs:List Value}{x:DataW H × List MemPlace},
  DataW.trod enc P w 0 (fun _=>true) true n t cs=some x->∃ a,ok a/\RL w (e.cells a) cs
theorem Ar.int {e:En Int}{t:TypeId}{k:IntKind}(ht:P.underlying t=some (.int k)) (hz:P.cellsOf t=e.z) (he:∀ n,e.cells n=[.lit (.int k n)]) :
  Ar P e t (fun n=>(Lit.int k n).wf=true):=by
 refine ⟨hz,fun h=>?_⟩
 obtain ⟨n,rfl,_,hw⟩:=DataW.trod_int ht h
 exact ⟨n,hw,he n ▸ RL.one rfl (.lit rfl fun _ h=>h)⟩
theorem Ar.bool {e:En Bool}{t:TypeId}(ht:P.underlying t=some .bool) (hz:P.cellsOf t=e.z) (he:∀ n,e.cells n=[.lit (.bool n)]) :
  Ar P e t (fun _=>True):=by
 refine ⟨hz,fun h=>?_⟩
 obtain ⟨n,rfl,_⟩:=DataW.trod_bool ht h
 exact ⟨n,trivial,he n ▸ RL.one rfl (.lit rfl fun _ h=>h)⟩
theorem Ar.str {e:En ByteArray}{t:TypeId}(ht:P.underlying t=some .string) (hz:P.cellsOf t=e.z) (he:∀ n,e.cells n=[.lit (.string n)]) :
  Ar P e t (fun s=>s.size<=maxLen):=by
 refine ⟨hz,fun h=>?_⟩
 obtain ⟨n,rfl,_,hw⟩:=DataW.trod_string ht h
 exact ⟨n,hw,he n ▸ RL.one rfl (.lit rfl fun _ h=>h)⟩
theorem rowc_nth (e:En α) (hz:0<e.z):∀ (l:List α) (k:Nat) (y:AV),(rowc e l)[k]?=some y->∃ a,l[k / e.z]?=some a/\(e.cells a)[k % e.z]?=some y
 | [],k,y,h=>by simp [rowc] at h
 | a::l,k,y,h=>by
  have he:rowc e (a::l)=e.cells a++rowc e l:=by simp [rowc]
  rw [he] at h
  by_cases hk:k<e.z
  ·rw [List.getElem?_append_left (by rw [e.len]; exact hk)] at h
   exact ⟨a,by simp [Nat.div_eq_of_lt hk],by rw [Nat.mod_eq_of_lt hk]; exact h⟩
  ·rw [List.getElem?_append_right (by rw [e.len]; omega),e.len] at h
   obtain ⟨b,h1,h2⟩:=rowc_nth e hz l (k - e.z) y h
   have hd:k / e.z=(k - e.z) / e.z+1:=by rw [Nat.div_eq_sub_div hz (by omega)]
   refine ⟨b,by rw [hd]; simpa using h1,?_⟩
   rw [Nat.mod_eq_sub_mod (by omega)]; exact h2
theorem Ar.slice {e:En α}{t te:TypeId}{ok:α->Prop}(h:Ar P e te ok) (ht:P.underlying t=some (.slice te)) (hz:P.cellsOf t=1) (hpos:0<e.z) :
  Ar P (eM e) t (fun l=>l.length<=maxLen/\∀ x∈l,ok x):=by
 classical
 refine ⟨hz,fun {H enc w n cs x} hr=>?_⟩
 rcases open_slice ht hr with ⟨rfl,rfl⟩ | ⟨a,len,cap,m,n',D,Pl,rfl,hb,hl,hm,hmm,rfl,hx⟩
 ·exact ⟨[],⟨by simp,by simp⟩,RL.one rfl (.imm0 fun _ h=>h)⟩
 ·have hmc:m=cap:=by simpa using hmm
  subst hmc
  have hex:∀ i,i<len->∃ q:α × List Value,ok q.1/\RL w (e.cells q.1) q.2/\w.cells? 0 (a.add (i * P.cellsOf te)) (P.cellsOf te)=some q.2:=fun i hi=>by
   obtain ⟨cs',h1,h2⟩:=hx i (by omega)
   obtain ⟨b,hb1,hb2⟩:=h.go h2
   exact ⟨(b,cs'),hb1,hb2,h1⟩
  by_cases h0:len=0
  ·subst h0
   exact ⟨[],⟨by simp,by simp⟩,RL.one rfl (.imm0 fun _ h=>h)⟩
  ·obtain ⟨q0,_⟩:=hex 0 (by omega)
   haveI:Inhabited (α × List Value):=⟨q0⟩
   obtain ⟨f,hf⟩:=choose_lt hex
   have hlen:((List.range len).map fun i=>(f i).1).length=len:=by simp
   have hget:∀ (i:Nat) (b:α),((List.range len).map fun i=>(f i).1)[i]?=some b->i<len/\b=(f i).1:=fun i b hi=>by
    have hlt:=(List.getElem?_eq_some_iff.1 hi).1
    simp at hlt
    simp [hlt] at hi
    exact ⟨hlt,hi.symm⟩
   have hsp:a.spot=none/\a.block<w.heap.size:=by
    obtain ⟨_,_,h3⟩:=hf 0 (by omega)
    obtain ⟨_,hl3,h5⟩:=World.cells?_some h3
    have h6:=h5 0 (by rw [h.z]; exact hpos)
    simp only [Nat.zero_mul,Addr.add,if_true] at h6
    have:0<(f 0).2.length:=by rw [hl3,h.z]; exact hpos
    rw [List.getElem?_eq_getElem this] at h6
    unfold World.cell? at h6
    split at h6
    ·rename_i hh
     refine ⟨?_,(Array.getElem?_eq_some_iff.1 hh).1⟩
     cases hs:a.spot with
     | none=>rfl
     | some s=>simp [hs] at h6
    ·cases h6
   have key:∀ (k:Nat) (y:AV),(rowc e ((List.range len).map fun i=>(f i).1))[k]?=some y->∃ u,w.cell? ⟨a.block,a.off+k,none⟩=some u/\u.oneCell'=true/\R0 w y u:=fun k y hk=>by
    obtain ⟨b,hb1,hb2⟩:=rowc_nth e hpos _ k y hk
    obtain ⟨hi,rfl⟩:=hget _ _ hb1
    obtain ⟨_,h2,h3⟩:=hf _ hi
    obtain ⟨_,hl3,h5⟩:=World.cells?_some h3
    have hmod:k % e.z<e.z:=Nat.mod_lt _ hpos
    have h6:=h5 (k % e.z) (by rw [h.z]; exact hmod)
    rw [Deep.add_add,h.z] at h6
    have hk2:k / e.z * e.z+k % e.z=k:=by rw [Nat.mul_comm]; exact Nat.div_add_mod k e.z
    rw [hk2] at h6
    have hlt:k % e.z<(f (k / e.z)).2.length:=by rw [hl3,h.z]; exact hmod
    rw [List.getElem?_eq_getElem hlt] at h6
    have ha:a.add k=⟨a.block,a.off+k,none⟩:=by
     unfold Addr.add
     split
     ·rename_i h00; subst h00; cases a; simp at hsp ⊢; exact hsp.1
     ·rfl
    rw [ha] at h6
    exact ⟨_,h6,h2.2 _ _ _ hb2 (List.getElem?_eq_getElem hlt)⟩
   refine ⟨(List.range len).map fun i=>(f i).1,⟨by rw [hlen]; omega,fun y hy=>?_⟩,RL.one rfl ?_⟩
   ·obtain ⟨i,hi,rfl⟩:=List.mem_map.1 hy
    exact (hf i (List.mem_range.1 hi)).1
   ·show R0 w (.imm e.z _ _) _
    rw [hlen]
    refine .imm (us:=fun k=>(w.cell? ⟨a.block,a.off+k,none⟩).getD .nilFunc) (fun _ h=>h) hl hsp.2 hsp.1 (by rw [rowc_len,hlen]) (fun k y hk=>?_) (fun k y hk=>?_) (fun k y hk=>?_)
    ·obtain ⟨u,h1,h2,h3⟩:=key k y hk
     simp only [h1,Option.getD_some]; exact h2
    ·obtain ⟨u,h1,h2,h3⟩:=key k y hk
     simp only [h1,Option.getD_some]
    ·obtain ⟨u,h1,h2,h3⟩:=key k y hk
     simp only [h1,Option.getD_some]; exact h3
def fieldsB (P:Program):Nat->List Field->List TypeId->Bool
 | _,[],[]=>true
 | off,f::fs,t::ts=>decide (f.type=t)&&decide (f.offset=off)&&fieldsB P (off+P.cellsOf t) fs ts
 | _,_,_=>false
def strB (P:Program) (t:TypeId) (ts:List TypeId):Bool :=
 match P.underlying t with
 | some (.struct fs)=>fieldsB P 0 fs.toList ts&&decide (P.cellsOf t=(ts.map P.cellsOf).sum)
 | _=>false
structure ArL (P:Program) (cells:β->List AV) (ts:List TypeId) (ok:β->Prop):Prop where
 go:∀ {H:Type}{enc:TypeId × Value->H}{w:World}{n:Nat}{cs:List Value}{fs:List Field}{off:Nat},fieldsB P off fs ts=true->cs.length=off+(ts.map P.cellsOf).sum ->
  (∀ (i:Nat) (f:Field),fs[i]?=some f->∃ x,DataW.trod enc P w 0 (fun _=>true) true n f.type ((cs.drop f.offset).take (P.cellsOf f.type))=some x) ->
  ∃ b,ok b/\RL w (cells b) (cs.drop off)
theorem ArL.nil:ArL P (fun _:Unit=>[]) [] (fun _=>True) :=
 ⟨fun {H enc w n cs fs off} _ hl _=>⟨(),trivial,by rw [List.drop_eq_nil_of_le (by simp at hl; omega)]; exact RL.nil⟩⟩
theorem ArL.cons {e:En α}{t:TypeId}{ts:List TypeId}{ok:α->Prop}{cells:β->List AV}{okl:β->Prop}(h:Ar P e t ok) (hl:ArL P cells ts okl) :
  ArL P (fun p:α × β=>e.cells p.1++cells p.2) (t::ts) (fun p=>ok p.1/\okl p.2):=by
 refine ⟨fun {H enc w n cs fs off} hB hlen hr=>?_⟩
 cases fs with
 | nil=>simp [fieldsB] at hB
 | cons f fs =>
  simp only [fieldsB,Bool.and_eq_true,decide_eq_true_eq] at hB
  obtain ⟨⟨rfl,rfl⟩,hB⟩:=hB
  obtain ⟨x,hx⟩:=hr 0 f rfl
  obtain ⟨a,ha,hR⟩:=h.go hx
  obtain ⟨b,hb,hRb⟩:=hl.go (off:=f.offset+P.cellsOf f.type) (cs:=cs) hB (by rw [hlen]; simp [Nat.add_assoc]) (fun i f' hf'=>hr (i+1) f' (by simpa using hf'))
  refine ⟨(a,b),⟨ha,hb⟩,?_⟩
  have:cs.drop f.offset=(cs.drop f.offset).take (P.cellsOf f.type)++cs.drop (f.offset+P.cellsOf f.type):=by
   rw [<- List.drop_drop]; exact (List.take_append_drop _ _).symm
  rw [this]
  exact hR.app hRb
theorem Ar.struct {e:En σ}{t:TypeId}{ts:List TypeId}{cells:β->List AV}{ok:β->Prop}(h:ArL P cells ts ok) (mk:β->σ) (un:σ->β) (hun:∀ b,un (mk b)=b) (hc:∀ b,e.cells (mk b)=cells b) (ht:strB P t ts=true) (hz:P.cellsOf t=e.z) :
  Ar P e t (fun s=>ok (un s)):=by
 refine ⟨hz,fun {H enc w n cs x} hr=>?_⟩
 unfold strB at ht
 split at ht
 ·rename_i fs hu
  simp only [Bool.and_eq_true,decide_eq_true_eq] at ht
  obtain ⟨xs,n',rfl,rfl,hl,hxl,hx⟩:=DataW.trod_struct hu hr
  obtain ⟨b,hb,hR⟩:=h.go (w:=w) (off:=0) (cs:=cs) (fs:=fs.toList) (n:=n') (enc:=enc) ht.1 (by rw [hl,ht.2]; simp) (fun i f hf=>by
   have hf':fs[i]?=some f:=by simpa using hf
   have hi:i<xs.length:=by rw [hxl]; exact (Array.getElem?_eq_some_iff.1 hf').1
   exact ⟨xs[i],by rw [hx i f hf',List.getElem?_eq_getElem hi]⟩)
  exact ⟨mk b,by rw [hun]; exact hb,by rw [hc]; simpa using hR⟩
 ·cases ht
inductive ArgR (w:World):AV->Value->Prop
 | mk {y:AV}{v:Value}(h:R0 w y v):ArgR w y v
theorem Ar.one {e:En α}{t:TypeId}{ok:α->Prop}{g:α->AV}(h:Ar P e t ok) (he:∀ a,e.cells a=[g a]) {H:Type}{enc:TypeId × Value->H}{w:World}{v:Value}{d:DataW H}{p:List MemPlace}(hv:v.cells.toList=[v])
  (ht:DataW.Trod enc P w 0 (fun _=>true) true t v d p):∃ a,ok a/\ArgR w (g a) v:=by
 obtain ⟨n,hn⟩:=ht
 obtain ⟨a,ha,hR⟩:=h.go hn
 refine ⟨a,ha,.mk ?_⟩
 rw [hv,he] at hR
 exact (hR.2 0 _ _ rfl rfl).2
theorem Ar.oneS {e:En α}{t te:TypeId}{ok:List α->Prop}(h:Ar P (eM e) t ok) (hu:P.underlying t=some (.slice te)) {H:Type}{enc:TypeId × Value->H}{w:World}{v:Value}{d:DataW H}{p:List MemPlace}{base:Nat}(hv:Value.okWide P w .any base t v)
  (ht:DataW.Trod enc P w 0 (fun _=>true) true t v d p):∃ a,ok a/\ArgR w (iR e a) v:=by
 obtain ⟨a,l,c,rfl⟩:=okWide_slice hu hv
 exact h.one (fun _=>rfl) rfl ht
theorem Ar.oneT {e:En ByteArray}{t:TypeId}{ok:ByteArray->Prop}{g:ByteArray->AV}(h:Ar P e t ok) (he:∀ a,e.cells a=[g a]) (hu:P.underlying t=some .string) {H:Type}{enc:TypeId × Value->H}{w:World}{v:Value}{d:DataW H}{p:List MemPlace}{base:Nat}(hv:Value.okWide P w .any base t v)
  (ht:DataW.Trod enc P w 0 (fun _=>true) true t v d p):∃ a,ok a/\ArgR w (g a) v:=by
 obtain ⟨n,rfl⟩:=okWide_string hu hv
 exact h.one he rfl ht
inductive ArgsR (w:World):List AV->List Value->Prop
 | nil:ArgsR w [] []
 | cons {y:AV}{v:Value}{ys:List AV}{vs:List Value}(h:ArgR w y v) (hs:ArgsR w ys vs):ArgsR w (y::ys) (v::vs)
theorem ArgsR.get {w:World}{ys:List AV}{vs:List Value}(h:ArgsR w ys vs):ys.length=vs.length/\∀ (k:Nat) (y:AV),ys[k]?=some y->∃ v,vs[k]?=some v/\R0 w y v:=by
 induction h with
 | nil=>exact ⟨rfl,fun k y h=>by simp at h⟩
 | cons h _ ih =>
  refine ⟨by simp [ih.1],fun k y hy=>?_⟩
  cases k with
  | zero =>
   simp at hy; subst hy
   obtain ⟨h⟩:=h
   exact ⟨_,rfl,h⟩
  | succ k=>simpa using ih.2 k y (by simpa using hy)
theorem ArgsR.sr {w:World}{ys:List AV}{vs:List Value}(h:ArgsR w ys vs) (hp:ys.all (fun y=>match y with | .pend ..=>false | _=>true)=true) (htb:TB.q w fun b=>b<w.heap.size) :
  SR w (fun b=>b<w.heap.size) vs.toArray (argG ys) (fun _=>E0):=by
 refine ⟨fun t x hx=>?_,fun _ _ _ h=>h,fun _ _ _ h=>h.elim,fun _ _ h=>h.elim,fun _ h=>h,fun t t' z p n m new z' n' m' new' h1 _=>?_,htb⟩
 ·obtain ⟨v,hv,hR⟩:=h.get.2 t x hx
  exact ⟨v,by simpa using hv,.tree (hR.frame (fun _ _=>rfl) (fun _ h=>h) (fun _ _ h=>h.elim) (fun _ _=>rfl))⟩
 ·have:=List.all_eq_true.1 hp _ (List.mem_of_getElem? h1)
  cases this
structure Kp (w w':World):Prop where
 kept:∀ may:MemPlace->Prop,w.keptBut w' may
 fz:∀ a,a.block<w.heap.size->w'.frozen? a=w.frozen? a
theorem Con.walkA {f:FuncId}{ys:List AV}{vs:List Value}{outs:List (Option AV)}{r:Value}(hc:Con P f ys outs (.lit r)) (w:World) (h:ArgsR w ys vs) (hp:ys.all (fun y=>match y with | .pend ..=>false | _=>true)=true) (htb:TB.q w fun b=>b<w.heap.size) :
  Calls P f vs.toArray w fun e w'=>e=.returned r/\Kp w w'/\∀ i:Nat,i<w.heap.size->w'.heap[i]?=w.heap[i]?:=by
 have:=hc.2 w _ vs _ h.get.1.symm (h.sr hp htb)
 refine this.mono ?_
 rintro e w' ⟨v,I',Fs',rfl,hS,hst⟩
 obtain ⟨u,hu,hR⟩:=hS.rel outs.length (.lit r) (by simp [outG])
 have hl:outs.length=vs.length:=by rw [hc.1]; exact h.get.1
 have huv:u=v:=by
  rw [hl] at hu
  simpa using hu.symm
 subst huv
 have hv:=(hR.isTree (by simp)).inv_lit.1
 subst hv
 have hb:∀ i:Nat,i<w.heap.size->w'.heap[i]?=w.heap[i]?:=fun i hi=>hst.fr.block i hi fun ⟨_,h⟩=>h
 have hk:World.keptBut w w' (fun _=>False):=⟨hst.fr.os,hst.fr.output,fun i hi=>by
  rw [hb i hi]
  exact (World.keptBut_refl w (fun _=>False)).2.2 i hi⟩
 exact ⟨rfl,⟨fun may=>World.keptBut_mono (fun _ f=>f.elim) hk,fun a ha=>hst.fr.fz a ha fun ⟨_,h⟩=>h⟩,hb⟩
theorem trodAll_old {H:Type}{enc:TypeId × Value->H}{w w':World}{base:Nat}{sp:Nat->Bool}{held:Bool}(hb:∀ i:Nat,i<w.heap.size->w'.heap[i]?=w.heap[i]?) :
  ∀ {ts:List TypeId}{vs:List Value}{ds:List (DataW H)}{ps:List MemPlace},DataW.TrodAll enc P w base sp held ts vs ds ps->DataW.TrodAll enc P w' base sp held ts vs ds ps
 | [],[],[],_,h=>h
 | _::_,_::_,_::_,_,⟨p,q,⟨n,hn⟩,h2,e⟩=>by
  refine ⟨p,q,⟨n,DataW.trod_carry n _ _ _ hn fun x hx=>?_⟩,trodAll_old hb h2,e⟩
  have hlt:=DataW.trod_lt n _ _ _ hn x hx
  cases x with
  | cell b off =>
   show w'.cell? _=w.cell? _
   exact World.cell?_of_block (hb b hlt)
  | map b=>exact hb b hlt
theorem args_again {H:Type}{enc:TypeId × Value->H}{w w':World}(hl:laidOutB P=true) (hm:mapsRowed P=true)
  (hz:((List.range P.types.size).all fun t=>match P.underlying t with | some (.slice e)=>decide (0<P.cellsOf e) | _=>true)=true)
  (hb:∀ i:Nat,i<w.heap.size->w'.heap[i]?=w.heap[i]?) {ts:List TypeId}{vs:List Value}{ds:List (DataW H)}{ps:List MemPlace}(ht:ts.all (fun t=>decide (t<P.types.size))=true)
  (h:DataW.TrodAll enc P w 0 (fun _=>true) true ts vs ds ps) {sp:Nat->Bool}(hsp:∀ p∈ps,sp p.block=true):DataW.TrodAll enc P w' 0 sp true ts vs ds ps :=
 (trodAll_old hb h).respare (kids_rows hl hm) (slices_full_of P hz) (fun t h=>of_decide_eq_true (List.all_eq_true.1 ht t h)) hsp
end Go.Own
namespace Go.Own
open Go
set_option linter.unusedSectionVars false
variable [TB]
section
variable {α β:Type}{P:Program}{N:Rm}{g g1:Gst}{p:Place}{m:Int}{a b:Operand}{t:TypeId}
theorem AV.at_app1:∀ (l:List Nat) {x nd:AV}{k:Nat}{c:AV},x.at l=some nd->nd.kids[k]?=some c->x.at (l++[k])=some c
 | [],x,nd,k,c,h,hk=>by
  simp only [AV.at,Option.some.injEq] at h
  subst h
  simp [AV.at,hk]
 | j::l,x,nd,k,c,h,hk=>by
  simp only [AV.at] at h
  cases hj:x.kids[j]? with
  | none=>rw [hj] at h; cases h
  | some y =>
   rw [hj] at h
   simp only [List.cons_append,AV.at,hj]
   exact AV.at_app1 l h hk
theorem AV.setAt_app:∀ (l:List Nat) {x nd:AV}{k:Nat}{c:AV}(y:AV),x.at l=some nd->nd.kids[k]?=some c->x.setAt (l++[k]) y=x.setAt l (nd.setKid k y)
 | [],x,nd,k,c,y,h,hk=>by
  simp only [AV.at,Option.some.injEq] at h
  subst h
  simp [AV.setAt,hk]
 | j::l,x,nd,k,c,y,h,hk=>by
  simp only [AV.at] at h
  cases hj:x.kids[j]? with
  | none=>rw [hj] at h; cases h
  | some z =>
   rw [hj] at h
   simp only [List.cons_append,AV.setAt,hj]
   rw [AV.setAt_app l y h hk]
theorem el_cell {en:En α}{L:List α}{yy:α}{o:Nat}{c:AV}(h:idx L m=some yy) (hc:(en.cells yy)[o]?=some c):(oR en L).kids[m.toNat * en.z+o]?=some c:=rowc_at en h hc
theorem atP_el {en:En α}{L:List α}{yy:α}{r o:Nat}{path:List Nat}{c:AV}(hp:atP g ⟨r,path⟩=some (oR en L)) (h:idx L m=some yy) (hc:(en.cells yy)[o]?=some c):atP g ⟨r,path++[m.toNat * en.z+o]⟩=some c:=by
 unfold atP at hp ⊢
 simp only at hp ⊢
 cases hx:g r with
 | none=>rw [hx] at hp; cases hp
 | some x =>
  rw [hx] at hp
  exact AV.at_app1 path hp (el_cell h hc)
theorem setP_el {en:En α}{L:List α}{yy:α}{r o:Nat}{path:List Nat}{c:AV}(y:AV) (hp:atP g ⟨r,path⟩=some (oR en L)) (h:idx L m=some yy) (hc:(en.cells yy)[o]?=some c) :
  setP g ⟨r,path++[m.toNat * en.z+o]⟩ y=setP g ⟨r,path⟩ (.own en.z L.length ((rowc en L).set (m.toNat * en.z+o) y)):=by
 funext s
 unfold setP
 simp only
 split
 ·rename_i e
  subst e
  unfold atP at hp
  simp only at hp
  cases hx:g s with
  | none=>rfl
  | some x =>
   rw [hx] at hp
   simp only [Option.map_some,Option.some.injEq]
   rw [AV.setAt_app path y hp (el_cell h hc)]
   rfl
 ·rfl
theorem splice_set (l:List AV) (k:Nat) (x c:AV):splice (l.set k x) k [c]=splice l k [c]:=by
 unfold splice
 simp only [List.length_singleton]
 rw [List.take_set,List.drop_set]
 rw [List.set_eq_of_length_le (by simp; omega)]
 simp
theorem EO.stEP {o':Oper}{en:En α}{en2:En β}{L:List α}{yy y2:α}{Ls M R:List β}{o s mm:Nat}{new new':List AV}{x2 y0:AV}{G2:List (Nat × AV)}
  (ho:o'.op=.store t a b) (hd:o'.dst=none) (ha:Rd g a (.ptr p (m.toNat * en.z+o))) (hb:Rd g b (.brw en2.z ⟨s,[]⟩ (Ls.length+mm)))
  (hps:g s=some (.pend en2.z ⟨p.root,p.path++[m.toNat * en.z+o]⟩ Ls.length mm new)) (hp:atP g p=some (oR en L)) (h:idx L m=some yy) (hcell:(en.cells yy)[o]?=some (oR en2 Ls)) (hq:Nat.beq p.root s=false)
  (h1:TkL (setP (setP g ⟨s,[]⟩ .dead) p (.own en.z L.length ((rowc en L).set (m.toNat * en.z+o) .dead))) new new' g1)
  (hfz:FzL new' (rowc en2 M)) (hm:M.length=mm) (hR:Ls++M=R) (hz:sizeT P t 1=true)
  (hp1:atP g1 p=some (.own en.z L.length ((rowc en L).set (m.toNat * en.z+o) .dead)))
  (he:splice (en.cells yy) o [oR en2 R]=en.cells y2) (hlen:Nat.ble (o+1) en.z=true)
  (hx2:setP g1 p (oR en (L.set m.toNat y2)) p.root=some x2) (hr:(get G2 p.root).isSome=true) (hy0:g1 p.root=some y0) [hno:NRc y0] (hG:TrX g1 (get G2) p.root x2 G2):EO P N g o' (get G2):=by
 subst hm hR
 have hlen':=Nat.le_of_ble_eq_true hlen
 have hsp:=row_set en (cs':=[oR en2 (Ls++M)]) h he (by simpa using hlen')
 have hl2:(L.set m.toNat y2).length=L.length:=List.length_set
 have hqr:=Nat.ne_of_beq_eq_false hq
 have hatq:atP g ⟨p.root,p.path++[m.toNat * en.z+o]⟩=some (oR en2 Ls):=atP_el (g:=g) (r:=p.root) (path:=p.path) hp h hcell
 have hpS:atP (setP g ⟨s,[]⟩ .dead) p=some (oR en L):=by
  unfold atP at hp ⊢
  rw [setP_slot (p:=⟨s,[]⟩) (fun e=>hqr e)]; exact hp
 have ht:TkL g [.brw en2.z ⟨s,[]⟩ (Ls.length+M.length)] [.own en2.z (Ls.length+M.length) (rowc en2 Ls++new')] g1:=by
  refine .pn hps hatq hq ?_ .nil
  rw [setP_el .dead (r:=p.root) (path:=p.path) hpS h hcell]
  exact h1
 have hk:m.toNat * en.z+o+1<=L.length * en.z:=by
  obtain ⟨q0,q1,_⟩:=idx_spec h
  have h2:m.toNat+1<=L.length:=by omega
  calc m.toNat * en.z+o+1<=m.toNat * en.z+en.z:=by omega
   _=(m.toNat+1) * en.z:=by rw [Nat.add_mul]; omega
   _<=L.length * en.z:=Nat.mul_le_mul_right _ h2
 refine .store ho hd ha.opd hb.opd ht.take (y':=oR en2 (Ls++M)) ?_ rfl hz (p:=p) (nd:=.own en.z L.length ((rowc en L).set (m.toNat * en.z+o) .dead)) (z:=en.z) (n:=L.length) (cs:=(rowc en L).set (m.toNat * en.z+o) .dead) hp1 (.inl rfl) ?_ (by simp) (fun t x hx=>?_) (fun t x hx y hy=>?_) (fun t z q n m new hx=>?_) (by intro e; rw [e] at hr; cases hr)
 ·rw [<- oR_app]; exact (hfz.pre _).own
 ·simp only [List.length_singleton,List.length_set,rowc_len]; exact hk
 ·have hnd:(AV.own en.z L.length ((rowc en L).set (m.toNat * en.z+o) .dead)).splice (m.toNat * en.z+o) [oR en2 (Ls++M)]=oR en (L.set m.toNat y2):=by
   show AV.own en.z L.length (splice ((rowc en L).set (m.toNat * en.z+o) .dead) (m.toNat * en.z+o) [oR en2 (Ls++M)])=_
   unfold oR at hsp ⊢
   rw [splice_set,hsp,hl2]
  rw [hnd]
  rcases hG.spec t x hx with ⟨h1,h2,_⟩ | ⟨h1,h2,_⟩
  ·rw [setP_slot h1]; exact h2
  ·subst h1 h2; exact hx2
 ·rcases hG.spec t x hx with ⟨h1,h2,h3⟩ | ⟨h1,h2,h3⟩
  ·rw [h2] at hy; cases hy
   rcases h3 with h3 | ⟨h3,c2,rfl⟩
   ·exact h3.rkq
   ·refine RKp.ref (by cases h3; rfl) ⟨h3.ok1,h3.clear ?_,h3.ok2⟩
    intro e
    obtain ⟨pr,pp⟩:=p
    simp only at e
    subst e
    simp only [setP,if_true,hy0,Option.map_some,AV.setAt,Option.some.injEq] at hx2
    cases hx2
  ·subst h1; rw [hy0] at hy; cases hy; exact .nr hno.nr
 ·rcases hG.spec t _ hx with ⟨_,_,h3 | ⟨h3,_⟩⟩ | ⟨_,_,h3⟩
  ·exact h3.np _ _ _ _ _ rfl
  ·exact h3.np _ _ _ _ _ rfl
  ·cases h3
end
end Go.Own
/- Short forms for printed walks. -/
namespace Go.Own
open Go
set_option linter.unusedSectionVars false
variable [TB]
section
variable {P:Program}{N:Rm}{ops:Array Oper}{AT:List (List Nat)}{g g0:Gst}{K:Gst->Prop}{l:List Oper}{acc:Acc}{d i:Nat}{op:Op}{ty:TypeId}{pos:String}{after:Array Edge}{x:AV}
theorem Rv (hp:PS P g op ty x) (hk:RunL P N ops l (upd g d x) K) (hN:N.ok d=true:=by rfl) (hf:g d=none:=by rfl):RunL P N ops (⟨some d,op,ty,pos,after,none⟩::l) g K:=.v hp hN hf .none hk
theorem Rc (hp:PC P g op x) (hk:RunL P N ops l (upd g d x) K) (hN:N.ok d=true:=by rfl) (hf:g d=none:=by rfl):RunL P N ops (⟨some d,op,ty,pos,after,none⟩::l) g K:=.c hp hN hf .none hk
theorem Dv (j0:Nat) (hp:PS P (vis AT g0 j0 acc) op ty x) (hk:DL P N ops AT g0 i ((j0,d,some x)::acc) l K) (hj:Nat.beq ops.size (j0+l.length+1)=true:=by rfl) (hf:g0 d=none:=by rfl) (hn:acc.all (fun e=>!Nat.beq e.2.1 d)=true:=by rfl) (hN:N.ok d=true:=by rfl) :
  DL P N ops AT g0 i acc (⟨some d,op,ty,pos,after,none⟩::l) K:=.v j0 hp hj hf hn hN .none hk
theorem Dc (j0:Nat) (hp:PC P (vis AT g0 j0 acc) op x) (hk:DL P N ops AT g0 i ((j0,d,some x)::acc) l K) (hj:Nat.beq ops.size (j0+l.length+1)=true:=by rfl) (hf:g0 d=none:=by rfl) (hn:acc.all (fun e=>!Nat.beq e.2.1 d)=true:=by rfl) (hN:N.ok d=true:=by rfl) :
  DL P N ops AT g0 i acc (⟨some d,op,ty,pos,after,none⟩::l) K:=.c j0 hp hj hf hn hN .none hk
end
instance {z n:Nat}{cs:List AV}:NPc (.own z n cs):=⟨by simp⟩
def rn (a n:Nat) (l:List Nat):List Nat:=List.range' a n++l
end Go.Own
namespace Go.Own
open Go
set_option linter.unusedSectionVars false
variable [TB]
section
variable {α:Type}{P:Program}{N:Rm}{g:Gst}{d r:Nat}{ty:TypeId}
instance {fn:Fn}{cs:List AV} [h:NRl cs]:NRc (.clo fn [] cs):=⟨.clo (by simp) h.nr⟩
theorem O.mf {fn:Fn}{caps:List Operand}{b:List AV}(hb:Own.opds g caps=some b):PS P g (.makeFunc fn #[] caps.toArray) ty (.clo fn [] b):=.p3 (.makeFunc rfl (by simpa using hb))
theorem View.cl {fn:Fn}{cs cs':List AV}(h:VwL g cs cs'):View g (.clo fn [] cs) (.clo fn [] cs'):=.clo h.len h.get
end
end Go.Own
namespace Go.Own
open Go Go.Proofs Go.Shelf Go.Lib Go.Sort
set_option linter.unusedSectionVars false
variable [TB]
section
variable {P:Program}{w:World}
end
end Go.Own
namespace Go.Own
open Go
set_option linter.unusedSectionVars false
variable [TB]
section
variable {α:Type}{P:Program}{N:Rm}{g g1 g2 g3:Gst}{ops:Array Oper}{AT:List (List Nat)}{acc:Acc}{l:List Oper}{K:Gst->Prop}{i d r:Nat}
theorem SR.settle {w:World}{I:BSet}{T:Array Value}{Fs:Nat->BSet}(h:SR w I T g Fs) (a:Act) (ha:a.tmps=T) {ts:List Nat}{xs ys:List AV}(hx:Own.opds g (ts.map Operand.tmp)=some xs) (ht:Take g xs ys g1) (hnd:ts.Nodup) (hl:ys.length=ts.length) (hd:∀ t∈ts,g1 t=some .dead)
  (hk:Keep (putAll g1 ((ts.map fun t=>(⟨t,[]⟩:Place)).zip ys)) g2):∃ Fs',SR w I T g2 Fs'/\∀ c,(∃ t,Fs' t c)->∃ t,Fs t c:=by
 obtain ⟨hxl,hxr⟩:=opds_sound h ha hx
 have hxl':xs.length=ts.length:=by rw [hxl,List.length_map]
 have hand:Hand w I (RefAt w T) Fs xs (ts.map fun t=>a.eval (.tmp t)) (fun _=>E0):=by
  refine ⟨by rw [hxl',List.length_map],fun k x u hxk hu=>?_,fun _ _ _ _ _ h=>h.elim,fun _ _ _ _ h=>h.elim,fun _ _ _ h=>h.elim⟩
  rw [List.getElem?_map] at hu
  cases htk:ts[k]? with
  | none=>rw [htk] at hu; cases hu
  | some t =>
   rw [htk] at hu; cases hu
   exact (hxr k x (.tmp t) hxk (by rw [List.getElem?_map,htk]; rfl)).frame (fun _ _=>rfl) (fun _ h=>h) (fun _ _ h=>h.1) fun _ _=>rfl
 obtain ⟨Fs1,H1,hS1,hH1,hall⟩:=ht.sound h.toC hand
 have hzl:((ts.map fun t=>(⟨t,[]⟩:Place)).zip ys).length=ts.length:=by rw [List.length_zip,List.length_map,hl]; exact Nat.min_self _
 obtain ⟨Fs2,hS2,hF⟩:=SRc.putAll ((ts.map fun t=>(⟨t,[]⟩:Place)).zip ys) H1 (fun j=>((ts.map fun t=>a.eval (.tmp t))[j]?).getD undef) hS1 (by
   rw [List.map_fst_zip (by rw [List.length_map,hl]; exact Nat.le_refl _)]
   exact List.Pairwise.map _ (fun a b h e=>h (congrArg Place.root e)) hnd) (fun j p x hj=>by
   rw [List.getElem?_zip_eq_some] at hj
   obtain ⟨h1,h2⟩:=hj
   rw [List.getElem?_map] at h1
   cases htk:ts[j]? with
   | none=>rw [htk] at h1; cases h1
   | some t =>
    rw [htk] at h1; cases h1
    have hdt:=hd t (List.mem_of_getElem? htk)
    obtain ⟨v,hv,_⟩:=hS1.rel t .dead hdt
    have hev:a.eval (.tmp t)=v:=by simp [Act.eval,ha,hv]
    have hvj:(ts.map fun t=>a.eval (.tmp t))[j]?=some v:=by rw [List.getElem?_map,htk]; simp [hev]
    refine ⟨by simp [atP,hdt,AV.at],?_,?_,fun i e=>?_⟩
    ·rw [hvj]
     show valAt w T ⟨t,[]⟩=some v
     unfold valAt
     simp only [hv,walk]
    ·rw [hvj]
     exact hH1.rel j x v h2 hvj
    ·subst e; exact opds_ns hx j i (ht.self j i h2)) (fun j t c hj hc=>hH1.off j t c (by omega) hc) (fun j c hj hc=>hH1.imm j c (by omega) hc) (fun i j c hi hj h1 h2=>hH1.dis i j c (by omega) (by omega) h1 h2)
 refine ⟨_,hS2.keep hk,fun c ⟨t,_,hc⟩=>?_⟩
 have:AllB Fs1 ys.length H1 c:=by
  rcases hF t c hc with h | ⟨j,hj,h⟩
  ·exact .inl ⟨t,h⟩
  ·exact .inr ⟨j,by omega,h⟩
 rcases hall c this with h | ⟨_,_,h⟩
 ·exact h
 ·exact h.elim
theorem EffOk.settle {o:Oper}{ts:List Nat}{xs ys:List AV}(hx:Own.opds g (ts.map Operand.tmp)=some xs) (ht:Take g xs ys g1) (hnd:ts.Nodup) (hl:ys.length=ts.length) (hd:∀ t∈ts,g1 t=some .dead)
  (hk:Keep (putAll g1 ((ts.map fun t=>(⟨t,[]⟩:Place)).zip ys)) g2) (he:EffOk P N g2 o g3):EffOk P N g o g3:=by
 intro w I T Fs hS a ha hN K Q hK
 obtain ⟨Fs',hS',hU⟩:=hS.settle a ha hx ht hnd hl hd hk
 refine he w I T Fs' hS' a ha hN K Q fun a' w' hn ht=>hK a' w' ?_ ht
 obtain ⟨e1,e2,I',Fs2,h1,h2⟩:=hn
 exact ⟨e1,e2,I',Fs2,h1,St.trans ⟨Fr.refl _ _,fun _ h=>h,fun _ h=>.inl h,fun c h=>.inl (hU c h)⟩ h2⟩
theorem all1 {Q:Nat->Prop}{a:Nat}(ha:Q a):∀ t∈[a],Q t:=fun t ht=>by rw [List.mem_singleton.1 ht]; exact ha
theorem all2 {Q:Nat->Prop}{a b:Nat}(ha:Q a) (hb:Q b):∀ t∈[a,b],Q t:=fun t ht=>by
 rcases List.mem_cons.1 ht with rfl | ht
 ·exact ha
 ·rw [List.mem_singleton.1 ht]; exact hb
def plB (p q:Place):Bool:=Nat.beq p.root q.root&&p.path == q.path
def ndq:List Place->Bool
 | []=>true
 | x::l=>l.all (fun y=>!plB x y)&&ndq l
theorem ndq_spec:∀ {l:List Place},ndq l=true->l.Nodup
 | [],_=>List.nodup_nil
 | p::l,h=>by
  simp only [ndq,Bool.and_eq_true,List.all_eq_true] at h
  refine List.nodup_cons.2 ⟨fun hm=>?_,ndq_spec h.2⟩
  have:=h.1 p hm
  simp [plB] at this
def noQ (p:Place) (acc:Acc):Bool:=acc.all fun e=>match pendPlace e with | some q=>!plB p q | none=>true
theorem noQ_spec {p:Place}{G:List (Nat × AV)}{A:Nat->Bool}(h:noQ p acc=true) (hG:npB G=true):∀ t z n m new,visG (get G) A acc t≠some (.pend z p n m new):=by
 intro t z n m new e
 rcases visG_some e with ⟨e',he,h1,_,h2⟩ | ⟨_,h2⟩
 ·have:=List.all_eq_true.1 h e' he
  obtain ⟨k,d,x⟩:=e'
  simp only at h2
  subst h2
  simp [pendPlace,plB] at this
 ·exact npB_spec hG _ _ _ _ _ _ h2
theorem O.ap' {en:En α}{L M r:List α}{y:AV}{e b0:Nat}{a b:Operand}{p:Place}{t ty:TypeId}(hs:Rd g a (.brw en.z p L.length)) (hp:atP g p=some (oR en L)) (hx:Rd g b y) (hm:Sr g en y M) (ht:appT P t e en.z b0=true) (hb:Nat.ble b0 128=true) (h:appO L M=some r) (hno:∀ t z n m new,g t≠some (.pend z p n m new)) :
  PS P g (.call { callee:=.builtin .append,args:=#[a,b],argTypes:=#[t,t] }) ty (.pend en.z p L.length M.length (rowc en M)):=by
 obtain ⟨h1,h2,_⟩:=app_bound h hb
 exact .pa (.grow hs.opd (.inl ⟨_,hp⟩) (fun t z' n' m' new' e=>hno _ _ _ _ _ e) hx.opd hm.src ht h1 h2)
theorem DL.bw (j0:Nat) {G G2:List (Nat × AV)}{o:Oper}(he:EffOk P N (visG (get G) (fun m=>(AT.getD j0 []).contains m) acc) o (get G2)) (hg:o.guard=none) (hpd:ndq (acc.filterMap pendPlace)=true) (hp0:npB G=true) (hj:Nat.beq ops.size (j0+l.length+1)=true)
  (hU:acc.filter (fun e=>!(AT.getD j0 []).contains e.1)=[])
  (hb:(List.range ops.size).all (fun k=>Nat.ble k j0||(AT.getD k []).contains j0)=true) (hk:DL P N ops AT (get G2) (j0+1) [] l K):DL P N ops AT (get G) i acc (o::l) K:=by
 intro U0 j hP hseg hdrop
 have:=drop_at hdrop hj
 subst this
 obtain ⟨h1,h2⟩:=drop_cons hdrop
 obtain ⟨g',hr,hK⟩:=hk [] (j+1) .nil .nil h2
 refine ⟨g',.bar (U:=[]) (rs:=rsV []) hseg (ndq_spec hpd) (npB_spec hp0) h1 ?_ he.v (fun p hp=>by simp [rsV] at hp) hU.symm (by simp) (by simp) (by simp) ?_ hr,hK⟩
 ·unfold Wanted; rw [hg]
 ·refine List.all_eq_true.2 fun k hk=>?_
  have:=List.all_eq_true.1 hb k hk
  simp only [Bool.or_eq_true,decide_eq_true_eq,Nat.ble_eq] at this ⊢
  exact this
theorem EffOk.cell {o:Oper}{r k0:Nat}{y:AV}{cs:List AV}{g5:Gst}(hr:g r=some (.obj cs)) (hy:cs[k0]?=some y) (hyn:NR y)
  (hop:∀ v:Value,v.oneCell'=true->∃ g1 g4,Keep (setP g ⟨r,[k0]⟩ (.lit v)) g1/\EffOk P N g1 o g4/\atP g4 ⟨r,[k0]⟩=some (.lit v)/\Keep (setP g4 ⟨r,[k0]⟩ y) g5) (hns:∀ i,y≠.self i:=by exact fun _ h=>(by cases h)):EffV P N (fun p=>p∈[(⟨r,[k0]⟩:Place)]) g o g5:=by
 intro w I T Fs h a ha hN K Q hK
 have hnp:∀ z q n m new,y≠.pend z q n m new:=by rintro z q n m new rfl; cases hyn
 have hat:atP g ⟨r,[k0]⟩=some y:=by simp [atP,hr,AV.at,AV.kids,hy]
 obtain ⟨v,Fy,hv,hRy,hFy,put⟩:=h.toC.part hat hnp
 have hv1:v.oneCell'=true:=by
  obtain ⟨u,hu,hRu⟩:=h.rel r _ hr
  obtain ⟨b,u',h1,h2,h3,h4,_⟩:=R.node (z:=0) (n:=0) (hRu.isTree (by simp)) (.inr rfl) hy
  have:valAt w T ⟨r,[k0]⟩=child w u k0:=by
   unfold valAt
   simp only [hu,walk]
   cases child w u k0 <;> rfl
  rw [this,h3] at hv
  cases hv
  exact h4
 obtain ⟨Fs1,hS1,hF1,hF2⟩:=put (.lit v) E0 (.lit hv1 fun _ h=>h) (fun _ h=>h.elim) (fun _ h=>h.elim) (fun _ _ _ h=>h.elim) (fun _ h=>by cases h)
 obtain ⟨g1,g4,hk1,hok,hat4,hk4⟩:=hop v hv1
 have sub1:∀ t c,Fs1 t c->Fs t c/\¬ Fy c:=by
  intro t c hc
  by_cases ht:t=r
  ·subst ht
   rcases (hF1 c).1 hc with h' | h'
   ·exact h'
   ·exact h'.elim
  ·rw [hF2 t ht] at hc
   exact ⟨hc,fun hf=>ht (h.dis t r c hc (hFy c hf))⟩
 have hS1':=hS1.keep hk1
 refine hok w I T _ hS1' a ha hN K Q fun a' w' hn htm=>?_
 obtain ⟨e1,e2,I',Fs',hS',hst⟩:=hn
 obtain ⟨v2,F2,hv2,hR2,hF2',put2⟩:=hS'.toC.part hat4 (by simp)
 have hv2':v2=v:=hR2.inv_lit.1
 subst hv2'
 have hFyI:∀ c,Fy c->¬ I c:=fun c hc=>h.imm r c (hFy c hc)
 have hFylt:∀ c,Fy c->c<w.heap.size:=fun c hc=>h.ltF r c (hFy c hc)
 have offU:∀ c,Fy c->¬ ∃ t,(g1 t≠none/\Fs1 t c):=fun c hc ⟨t,_,h'⟩=>(sub1 t c h').2 hc
 have offF':∀ t c,Fs' t c->¬ Fy c:=by
  intro t c hc hf
  rcases hst.own c ⟨t,hc⟩ with h' | h'
  ·exact offU c hf h'
  ·have:=hFylt c hf; omega
 have offI':∀ c,Fy c->¬ I' c:=by
  intro c hc hi
  rcases hst.new c hi with h' | h' | h'
  ·exact hFyI c hc h'
  ·exact offU c hc h'
  ·have:=hFylt c hc; omega
 have sameY:∀ c,Fy c->w'.heap[c]?=w.heap[c]?:=fun c hc=>hst.fr.block c (hFylt c hc) (offU c hc)
 have sameI:∀ c,I c->w'.heap[c]?=w.heap[c]?:=fun c hc=>hst.fr.block c (h.lt c hc) fun ⟨t,_,h'⟩=>h.imm t c (sub1 t c h').1 hc
 have hRy':R w' I' (RefAt w' a'.tmps) y v2 Fy:=((hRy.nr hyn).frame sameI hst.more (fun _ _ h=>h) sameY)
 obtain ⟨Fs5,hS5,hF5,hF6⟩:=put2 y Fy hRy' (fun c hc hf=>(offF' _ c hf hc).elim) (fun c hc=>offI' c hc) (fun t c _ hc hf=>offF' t c hf hc) (fun i e=>absurd e (hns i))
 have hS6:=hS5.keep hk4
 refine hK a' w' ⟨e1,e2,I',_,hS6,⟨?_,hst.more,fun c hc=>?_,fun c hc=>?_⟩⟩ htm fun r' path hp y' hy' hnp'=>?_
 ·exact hst.fr.mono fun b _ ⟨t,_,h'⟩=>⟨t,(sub1 t b h').1⟩
 ·rcases hst.new c hc with h' | ⟨t,_,h'⟩ | h'
  ·exact .inl h'
  ·exact .inr (.inl ⟨t,(sub1 t c h').1⟩)
  ·exact .inr (.inr h')
 ·obtain ⟨t,_,hc⟩:=hc
  have:(∃ t,Fs' t c)\/Fy c:=by
   by_cases ht:t=r
   ·subst ht
    rcases (hF5 c).1 hc with ⟨h',_⟩ | h'
    ·exact .inl ⟨_,h'⟩
    ·exact .inr h'
   ·rw [hF6 t ht] at hc; exact .inl ⟨t,hc⟩
  rcases this with h' | h'
  ·rcases hst.own c h' with ⟨t,_,h''⟩ | h''
   ·exact .inl ⟨t,(sub1 t c h'').1⟩
   ·exact .inr h''
  ·exact .inl ⟨r,hFy c h'⟩
 ·have hp:(⟨r',path⟩:Place)∈[(⟨r,[k0]⟩:Place)]:=hp
  have hp:=List.mem_singleton.1 hp
  cases hp
  rw [hv,hv2]
end
end Go.Own
namespace Go.Own
open Go
set_option linter.unusedSectionVars false
variable [TB]
section
variable {α:Type}{P:Program}{N:Rm}{g:Gst}{ops:Array Oper}{l:List Oper}{K:Gst->Prop}{r n:Nat}{t e ty:TypeId}{a b:Operand}{m:Int}{en:En α}{L:List α}{y y2:α}{k:IntKind}{pos:String}{after:Array Edge}
end
end Go.Own
namespace Go.Own
open Go Go.Proofs Go.Shelf Go.Lib Go.Sort
set_option linter.unusedSectionVars false
variable [TB]
section
variable {P:Program}{w:World}
class Lts {α:Type}(e:En α) where
 vals:α->List Value
 cells:∀ a,e.cells a=(vals a).map .lit
 one:∀ a,∀ v∈vals a,v.oneCell'=true
variable {α:Type}{e:En α}
theorem Lts.len [h:Lts e] (a:α):(h.vals a).length=e.z:=by
 have:=e.len a
 rw [h.cells,List.length_map] at this
 exact this
end
end Go.Own
namespace Go.Own
open Go
set_option linter.unusedSectionVars false
variable [TB]
section
variable {α:Type}{P:Program}{N:Rm}{g:Gst}{d r:Nat}
end
end Go.Own
namespace Go.Own
open Go Go.Proofs Go.Shelf Go.Lib Go.Sort
set_option linter.unusedSectionVars false
variable [TB]
section
variable {α:Type} [DecidableEq α]
end
section
variable {α:Type}{e:En α}{P:Program}{w:World}
variable [DecidableEq α] [Inhabited α]
end
end Go.Own
namespace Go.Proofs
open Go.Shelf Go.RowKit Go.Lib Go.Sort
set_option linter.unusedSectionVars false
variable {α:Type} [Inhabited α] [DecidableEq α]
namespace Two
open Go.Own
variable [TB]
variable {P:Program}{t:TypeId}
omit [Inhabited α] [DecidableEq α] in
theorem one (f:α->Int):OneCell fun x=>Value.int .i64 (f x):=fun _=>rfl
end Two
end Go.Proofs
namespace Go.Own
open Go Go.Proofs Go.Shelf Go.Lib Go.Sort
set_option linter.unusedSectionVars false
variable [TB]
section
variable {α:Type}{e:En α}{P:Program}{w:World}
end
end Go.Own
namespace Go.Own
open Go
set_option linter.unusedSectionVars false
variable [TB]
section
variable {α:Type}{P:Program}{N:Rm}{g:Gst}{d r:Nat}
end
end Go.Own
namespace Go.Own
open Go
set_option linter.unusedSectionVars false
variable [TB]
theorem q {α:Sort _}{a:α}:a=a:=rfl
abbrev S0:ByteArray:={ data:=#[] }
theorem ode {p:Prop} [Decidable p] (h:decide p=true):p:=of_decide_eq_true h
theorem tn2 {b:Bool}{g h:Gst}{s0 s1:Nat}{x0 x1:AV}(h0:g s0=some x0) [NRc x0] (h1:g s1=some x1) [NRc x1]:Trim b g h [(s0,x0),(s1,x1)]:=(.n h0 (.n h1 .nil))
theorem tn3 {b:Bool}{g h:Gst}{s0 s1 s2:Nat}{x0 x1 x2:AV}(h0:g s0=some x0) [NRc x0] (h1:g s1=some x1) [NRc x1] (h2:g s2=some x2) [NRc x2]:Trim b g h [(s0,x0),(s1,x1),(s2,x2)]:=(.n h0 (.n h1 (.n h2 .nil)))
theorem tn4 {b:Bool}{g h:Gst}{s0 s1 s2 s3:Nat}{x0 x1 x2 x3:AV}(h0:g s0=some x0) [NRc x0] (h1:g s1=some x1) [NRc x1] (h2:g s2=some x2) [NRc x2] (h3:g s3=some x3) [NRc x3]:Trim b g h [(s0,x0),(s1,x1),(s2,x2),(s3,x3)]:=(.n h0 (.n h1 (.n h2 (.n h3 .nil))))
theorem tn5 {b:Bool}{g h:Gst}{s0 s1 s2 s3 s4:Nat}{x0 x1 x2 x3 x4:AV}(h0:g s0=some x0) [NRc x0] (h1:g s1=some x1) [NRc x1] (h2:g s2=some x2) [NRc x2] (h3:g s3=some x3) [NRc x3] (h4:g s4=some x4) [NRc x4]:Trim b g h [(s0,x0),(s1,x1),(s2,x2),(s3,x3),(s4,x4)]:=(.n h0 (.n h1 (.n h2 (.n h3 (.n h4 .nil)))))
theorem tn6 {b:Bool}{g h:Gst}{s0 s1 s2 s3 s4 s5:Nat}{x0 x1 x2 x3 x4 x5:AV}(h0:g s0=some x0) [NRc x0] (h1:g s1=some x1) [NRc x1] (h2:g s2=some x2) [NRc x2] (h3:g s3=some x3) [NRc x3] (h4:g s4=some x4) [NRc x4] (h5:g s5=some x5) [NRc x5]:Trim b g h [(s0,x0),(s1,x1),(s2,x2),(s3,x3),(s4,x4),(s5,x5)]:=(.n h0 (.n h1 (.n h2 (.n h3 (.n h4 (.n h5 .nil))))))
theorem tn7 {b:Bool}{g h:Gst}{s0 s1 s2 s3 s4 s5 s6:Nat}{x0 x1 x2 x3 x4 x5 x6:AV}(h0:g s0=some x0) [NRc x0] (h1:g s1=some x1) [NRc x1] (h2:g s2=some x2) [NRc x2] (h3:g s3=some x3) [NRc x3] (h4:g s4=some x4) [NRc x4] (h5:g s5=some x5) [NRc x5] (h6:g s6=some x6) [NRc x6]:Trim b g h [(s0,x0),(s1,x1),(s2,x2),(s3,x3),(s4,x4),(s5,x5),(s6,x6)]:=(.n h0 (.n h1 (.n h2 (.n h3 (.n h4 (.n h5 (.n h6 .nil)))))))
theorem tn8 {b:Bool}{g h:Gst}{s0 s1 s2 s3 s4 s5 s6 s7:Nat}{x0 x1 x2 x3 x4 x5 x6 x7:AV}(h0:g s0=some x0) [NRc x0] (h1:g s1=some x1) [NRc x1] (h2:g s2=some x2) [NRc x2] (h3:g s3=some x3) [NRc x3] (h4:g s4=some x4) [NRc x4] (h5:g s5=some x5) [NRc x5] (h6:g s6=some x6) [NRc x6] (h7:g s7=some x7) [NRc x7]:Trim b g h [(s0,x0),(s1,x1),(s2,x2),(s3,x3),(s4,x4),(s5,x5),(s6,x6),(s7,x7)]:=(.n h0 (.n h1 (.n h2 (.n h3 (.n h4 (.n h5 (.n h6 (.n h7 .nil))))))))
theorem tn9 {b:Bool}{g h:Gst}{s0 s1 s2 s3 s4 s5 s6 s7 s8:Nat}{x0 x1 x2 x3 x4 x5 x6 x7 x8:AV}(h0:g s0=some x0) [NRc x0] (h1:g s1=some x1) [NRc x1] (h2:g s2=some x2) [NRc x2] (h3:g s3=some x3) [NRc x3] (h4:g s4=some x4) [NRc x4] (h5:g s5=some x5) [NRc x5] (h6:g s6=some x6) [NRc x6] (h7:g s7=some x7) [NRc x7] (h8:g s8=some x8) [NRc x8]:Trim b g h [(s0,x0),(s1,x1),(s2,x2),(s3,x3),(s4,x4),(s5,x5),(s6,x6),(s7,x7),(s8,x8)]:=(.n h0 (.n h1 (.n h2 (.n h3 (.n h4 (.n h5 (.n h6 (.n h7 (.n h8 .nil)))))))))
theorem tn10 {b:Bool}{g h:Gst}{s0 s1 s2 s3 s4 s5 s6 s7 s8 s9:Nat}{x0 x1 x2 x3 x4 x5 x6 x7 x8 x9:AV}(h0:g s0=some x0) [NRc x0] (h1:g s1=some x1) [NRc x1] (h2:g s2=some x2) [NRc x2] (h3:g s3=some x3) [NRc x3] (h4:g s4=some x4) [NRc x4] (h5:g s5=some x5) [NRc x5] (h6:g s6=some x6) [NRc x6] (h7:g s7=some x7) [NRc x7] (h8:g s8=some x8) [NRc x8] (h9:g s9=some x9) [NRc x9]:Trim b g h [(s0,x0),(s1,x1),(s2,x2),(s3,x3),(s4,x4),(s5,x5),(s6,x6),(s7,x7),(s8,x8),(s9,x9)]:=(.n h0 (.n h1 (.n h2 (.n h3 (.n h4 (.n h5 (.n h6 (.n h7 (.n h8 (.n h9 .nil))))))))))
theorem tn11 {b:Bool}{g h:Gst}{s0 s1 s2 s3 s4 s5 s6 s7 s8 s9 s10:Nat}{x0 x1 x2 x3 x4 x5 x6 x7 x8 x9 x10:AV}(h0:g s0=some x0) [NRc x0] (h1:g s1=some x1) [NRc x1] (h2:g s2=some x2) [NRc x2] (h3:g s3=some x3) [NRc x3] (h4:g s4=some x4) [NRc x4] (h5:g s5=some x5) [NRc x5] (h6:g s6=some x6) [NRc x6] (h7:g s7=some x7) [NRc x7] (h8:g s8=some x8) [NRc x8] (h9:g s9=some x9) [NRc x9] (h10:g s10=some x10) [NRc x10]:Trim b g h [(s0,x0),(s1,x1),(s2,x2),(s3,x3),(s4,x4),(s5,x5),(s6,x6),(s7,x7),(s8,x8),(s9,x9),(s10,x10)]:=(.n h0 (.n h1 (.n h2 (.n h3 (.n h4 (.n h5 (.n h6 (.n h7 (.n h8 (.n h9 (.n h10 .nil)))))))))))
section
variable {P:Program}{N:Rm}{ops:Array Oper}{g:Gst}{K:Gst->Prop}{l:List Oper}{d t:Nat}{ty:TypeId}{pos:String}{after:Array Edge}{v:Value}
theorem Fi {G1:List (Nat × AV)}(h:Trim true g (get G1) G1):RunL P N ops [] g fun g'=>Wk g' (get G1):=.fin h
theorem Vm (h:g t=some (.lit v)) (hk:RunL P N ops l (upd g d (.lit v)) K) (hN:N.ok d=true:=by rfl) (hf:g d=none:=by rfl):RunL P N ops (⟨some d,.move (.tmp t),ty,pos,after,none⟩::l) g K:=Rv (O.mv (.lit h)) hk hN hf
theorem Va (h:g t=some (.lit v)) (hk:RunL P N ops l (upd g d (.lit v)) K) (hN:N.ok d=true:=by rfl) (hf:g d=none:=by rfl):RunL P N ops (⟨some d,.assign (.tmp t),ty,pos,after,none⟩::l) g K:=Rv (O.az (.lit h)) hk hN hf
theorem Vk (h:ofConst v=.lit v) (hk:RunL P N ops l (upd g d (.lit v)) K) (hN:N.ok d=true:=by rfl) (hf:g d=none:=by rfl):RunL P N ops (⟨some d,.assign (.const v),ty,pos,after,none⟩::l) g K:=Rv (O.az (.k h)) hk hN hf
end
end Go.Own
namespace Go.Own
open Go
set_option linter.unusedSectionVars false
variable [TB]
section
variable {α:Type}{g:Gst}
theorem View.pd2 {e e':En α}{L M M2:List α}{s s2:Nat}{q:Place} [h:Tw e e'] (hs:g s=some (.pend e.z ⟨s2,[]⟩ (L.length+M2.length) M.length (rowc e M))) (hs2:g s2=some (.pend e.z q L.length M2.length (rowc e M2))) (hp:atP g q=some (oR e L)):View g (.brw e.z ⟨s,[]⟩ (L.length+M2.length+M.length)) (iR e' (L++M2++M)):=by
 have:=vws_rowc e e' (L++M2++M)
 show View g _ (.imm e'.z (L++M2++M).length (rowc e' (L++M2++M)))
 rw [<- h.z,List.length_append,List.length_append]
 refine .rows (.pend hs (.pend hs2 (.own hp))) ?_ fun k x y hx hy=>?_
 ·rw [<- rowc_app,<- rowc_app]; exact this.1
 ·rw [<- rowc_app,<- rowc_app] at hx; exact this.2 g k x y hx hy
end
end Go.Own
namespace Go.Own
open Go
set_option linter.unusedSectionVars false
variable [TB]
section
variable {α:Type}{P:Program}{N:Rm}{g:Gst}{d r:Nat}
theorem CallOk.tn {o:Oper}{xs:List Operand}{tys:Array TypeId}{f:FuncId}{ys:List AV}{res:AV}{en:En α}{L:List α}{G2:List (Nat × AV)}(ho:o.op=.call { callee:=.value (.func f),args:=xs.toArray,argTypes:=tys }) (hd:o.dst=some d) (hx:Own.opds g xs=some (.brw en.z ⟨r,[]⟩ L.length::ys))
  (hs:g r=some (oR en L)) (hcon:Con P f (oR en L::ys) (none::ys.map fun _=>none) res) (hf:callT P f=true) [hr:NRc res] [hn:NRl ys]
  (hG:Trim false (setP g ⟨r,[]⟩ .dead) (get G2) G2) (hg:get G2 d=none) (hN:N.ok d=true) :
  CallOk P N g o d (get ((d,res)::G2)):=by
 have hnr:∀ x∈rowc en L,NR x:=by
  intro x hx
  obtain ⟨a,_,ha⟩:=List.mem_flatMap.1 hx
  exact en.nr a x ha
 have htk:(rowc en L).take (L.length * en.z)=rowc en L:=List.take_of_length_le (by rw [rowc_len]; exact Nat.le_refl _)
 have keep2:Keep (setP g ⟨r,[]⟩ .dead) (get G2):=by
  refine ⟨fun t x h=>?_,fun t x h=>(hG.spec t x h).2.1,fun t z q n m new h=>(hG.spec t _ h).2.2 _ _ _ _ _ rfl⟩
  obtain ⟨⟨y,h1,_,h3⟩,_⟩:=hG.spec t x h
  rw [<- h3 rfl]; exact h1
 have keep4:Keep (get G2) (get G2):=⟨fun t x h=>h,fun t x h=>(hG.spec t x h).2.1,fun t z q n m new h=>(hG.spec t _ h).2.2 _ _ _ _ _ rfl⟩
 have e5:get ((d,res)::G2)=upd (get G2) d res:=by
  funext t
  rw [get_cons]
 rw [e5]
 refine ECall.ok (first:=[]) (caps:=[]) (ys:=.brw en.z ⟨r,[]⟩ L.length::ys) (tk:=fun _=>true) (vw:=false) (outs:=none::ys.map fun _=>none) (g1:=setP g ⟨r,[]⟩ .dead) (g2:=get G2) (g4:=get G2) (l:=[]) (ks:=fun _=>0) (xs0:=.brw en.z ⟨r,[]⟩ L.length::ys) (xs1:=oR en L::ys) (args:=oR en L::ys) (res:=res) ho hd rfl (by simpa using hx)
  ⟨hf,by simp,by simp,fun k x h=>.inl (by simpa using h),?_,keep2,fun k x y hx hy=>by simpa using hy,hcon,by simpa using hr.nr,fun k x h=>?_,fun j p x hj=>by simp at hj,by simp,fun i j hi hj _=>by simp at hi,keep4⟩ hg hN Bk.refl
 ·have h1:Take (setP g ⟨r,[]⟩ .dead) ((rowc en L).take (L.length * en.z)) (rowc en L) (setP g ⟨r,[]⟩ .dead):=by rw [htk]; exact .nr hnr
  exact .brw (N:=L.length) (by simp [atP,hs,AV.at]) (Nat.le_refl _) h1 (.nr hn.nr)
 ·cases k with
  | zero=>simp at h
  | succ k =>
   simp only [List.getElem?_cons_succ,List.getElem?_map] at h
   cases ha:ys[k]? <;> rw [ha] at h <;> cases h
end
end Go.Own
namespace Go.Own
open Go
set_option linter.unusedSectionVars false
variable [TB]
class Plc (x:AV):Prop where pl:Pl x
class Pll (cs:List AV):Prop where pl:∀ x∈cs,Pl x
instance {v:Value}:Plc (.lit v):=⟨.lit⟩
instance:Plc .nils:=⟨.nils⟩
instance {z n:Nat}{cs:List AV} [h:NRl cs]:Plc (.imm z n cs):=⟨.imm h.nr⟩
instance {α:Type}{e:En α}{L:List α}:Plc (iR e L):=⟨.imm (NRl.nr (cs:=rowc e L))⟩
instance {cs:List AV} [h:Pll cs]:Plc (.agg cs):=⟨.agg h.pl⟩
instance:Pll []:=⟨by simp⟩
instance {x:AV}{cs:List AV} [h:Plc x] [h':Pll cs]:Pll (x::cs):=⟨fun y hy=>by
 rcases List.mem_cons.1 hy with rfl | hy
 ·exact h.pl
 ·exact h'.pl y hy⟩
class NRG (G:List (Nat × AV)):Prop where nr:∀ t x,get G t=some x->NR x
instance:NRG []:=⟨fun t x h=>by cases h⟩
instance {s:Nat}{x:AV}{G:List (Nat × AV)} [h:NRc x] [h':NRG G]:NRG ((s,x)::G):=⟨fun t y hy=>by
 simp only [get] at hy
 split at hy
 ·cases hy; exact h.nr
 ·exact h'.nr t y hy⟩
class NRA (acc:Acc):Prop where nr:∀ e∈acc,∀ x,e.2.2=some x->NR x
instance:NRA []:=⟨by simp⟩
instance {k d:Nat}{x:AV}{acc:Acc} [h:NRc x] [h':NRA acc]:NRA ((k,d,some x)::acc):=⟨fun e he y hy=>by
 rcases List.mem_cons.1 he with rfl | he
 ·cases hy; exact h.nr
 ·exact h'.nr e he y hy⟩
instance {k d:Nat}{acc:Acc} [h':NRA acc]:NRA ((k,d,none)::acc):=⟨fun e he y hy=>by
 rcases List.mem_cons.1 he with rfl | he
 ·cases hy
 ·exact h'.nr e he y hy⟩
theorem cloN {G:List (Nat × AV)}{A:Nat->Bool}{acc:Acc} [h:NRG G] [h':NRA acc]:Clo (visG (get G) A acc):=by
 have key:∀ t x,visG (get G) A acc t=some x->NR x:=fun t x hx=>by
  rcases visG_some hx with ⟨e,he,_,_,h2⟩ | ⟨_,h2⟩
  ·exact h'.nr e he x h2
  ·exact h.nr t x h2
 exact ⟨fun t x hx=>.nr (key t x hx),fun t z q n m new hx=>by cases key t _ hx⟩
end Go.Own
namespace Go.Own
open Go Go.MapKept Go.ChangeMaps
set_option linter.unusedSectionVars false
variable [TB]
section
variable {P:Program}{w:World}{I:BSet}{T:Array Value}{g g2:Gst}{Fs:Nat->BSet}
end
end Go.Own
namespace Go.Own
open Go Go.MapKept Go.ChangeMaps Go.WideElems
set_option linter.unusedSectionVars false
variable [TB]
open Go.Maps (Keyed)
set_option linter.unusedVariables false
variable {κ υ:Type}{P:Program}{k e:TypeId}
abbrev Rh:Value->Option (DataW Value × List MemPlace):=fun v=>some (.held v,[])
def tget [DecidableEq κ]:List (κ × υ)->κ->Option υ
 | [],_=>none
 | p::m,x=>if p.1=x then some p.2 else tget m x
def mgetO [DecidableEq κ] (ok:κ->Bool) (z:υ) (m:List (κ × υ)) (x:κ):Option υ:=if ok x then some ((tget m x).getD z) else none
def mputO (ok:κ->Bool) (m:List (κ × υ)) (x:κ) (y:υ):Option (List (κ × υ)):=if ok x&&decide (m.length<=lim) then some ((x,y)::m) else none
structure MK (P:Program) (k:TypeId) (κ:Type) where
 kv:κ->Value
 kf:κ->Lit
 kA:κ->AV
 ok:κ->Bool
 keyed:Keyed P k
 key:∀ x,ok x=true->keyOf P k (kv x)=some (kf x)
 inj:∀ x y,kf x=kf y->x=y
 av:∀ (x:κ) (w:World) (I:BSet) (ρ:AV->Value->Prop) (v:Value),R w I ρ (kA x) v E0->v=kv x
structure MV (P:Program) (e:TypeId) (υ:Type) where
 vv:υ->Value
 vA:υ->AV
 z:υ
 zero:∀ w,(zeroValue e).run P w=.ok (vv z) w
 one:∀ x,(vv x).oneCell'=true
 av:∀ (x:υ) (w:World) (I:BSet) (ρ:AV->Value->Prop) (v:Value),R w I ρ (vA x) v E0->v=vv x
 va:∀ (x:υ) (w:World) (I:BSet) (ρ:AV->Value->Prop),R w I ρ (vA x) (vv x) E0
def srt (P:Program) (k:TypeId) (es:Array MapEntry):List (Lit × DataW Value):=(es.toList.map (rg P k Rh)).foldr DataW.insert []
def MI [DecidableEq κ] (K:MK P k κ) (V:MV P e υ) (m:List (κ × υ)):Array MapEntry->Nat->Prop:=fun es c=>Fit P k Rh es c/\es.size<=m.length/\∀ x zd,(DataW.map (srt P k es)).atKey (K.kf x) zd=match tget m x with | some y=>.held (V.vv y) | none=>zd
variable [DecidableEq κ] {K:MK P k κ}{V:MV P e υ}{m m':List (κ × υ)}{x:κ}{y:υ}{t:TypeId}
theorem MI.nil:MI K V [] #[] 0:=⟨⟨by simp,stamped_empty 0,by simp⟩,Nat.le_refl _,fun x zd=>rfl⟩
theorem MI.look (ok:Bool) (hok:K.ok x=true) (ht:P.underlying t=some (.map k e)) (w:World) (b:Nat) (es:Array MapEntry) (c:Nat) (hb:w.heap[b]?=some (.map es c)) (h:MI K V m es c) :
  (Instr.lookup t (.map (some b)) (K.kv x) ok).run P w=.ok (if ok then .tuple #[V.vv ((tget m x).getD V.z),.bool (tget m x).isSome] else V.vv ((tget m x).getD V.z)) w:=by
 obtain ⟨F,_,hat⟩:=h
 have hat:=hat x
 rcases Maps.fit_look ok K.keyed ht (V.zero w) hb F (K.key x hok) with ⟨hrun,_,h2⟩ | ⟨e0,y,_,_,hrun,hy,h2,_⟩
 ·have:tget m x=none:=by
   cases hg:tget m x with
   | none=>rfl
   | some y =>
    have h1:=hat .nil
    rw [hg] at h1
    have h3:=h2 .nil
    unfold srt at h1
    rw [h1] at h3; cases h3
  rw [hrun,this]; rfl
 ·cases hy
  cases hg:tget m x with
  | none =>
   have h1:=hat .nil
   rw [hg] at h1
   have h3:=h2 .nil
   unfold srt at h1
   rw [h1] at h3; cases h3
  | some y =>
   have h1:=hat .nil
   rw [hg] at h1
   have h3:=h2 .nil
   unfold srt at h1
   rw [h1] at h3
   have h4:e0.val=V.vv y:=by simpa using h3.symm
   rw [hrun,h4]; rfl
theorem MI.put (h0:mputO K.ok m x y=some m') (ht:P.underlying t=some (.map k e)) (w:World) (b:Nat) (es:Array MapEntry) (c:Nat) (hb:w.heap[b]?=some (.map es c)) (h:MI K V m es c) :
  ∃ es' c',(Instr.mapUpdate t (.map (some b)) (K.kv x) (V.vv y)).run P w=.ok () (setBlock w b (.map es' c'))/\MI K V m' es' c':=by
 unfold mputO at h0
 split at h0
 ·rename_i hc
  cases h0
  simp only [Bool.and_eq_true,decide_eq_true_eq] at hc
  obtain ⟨hok,hl⟩:=hc
  obtain ⟨F,hs,hat⟩:=h
  have hkey:=K.key x hok
  obtain ⟨es',c',hrun,F',hput,_⟩:=Maps.fit_store (R':=Rh) K.keyed ht hb F (by have:maxLen=9223372036854775807:=rfl; simp only [lim] at hl; omega) (fun _ _ _ _ hz=>hz) hkey (rfl:Rh (V.vv y)=some (.held (V.vv y),[]))
  refine ⟨es',c',hrun,F',?_,fun x' zd=>?_⟩
  ·have e1:es'.size=((es'.toList.map (rg P k Rh)).foldr DataW.insert []).length:=by rw [length_sorted]; simp
   rw [e1,hput]
   unfold putKey
   rw [length_insert]
   have e2:=List.length_filter_le (notKey (K.kf x)) ((es.toList.map (rg P k Rh)).foldr DataW.insert [])
   rw [length_sorted] at e2
   simp at e2 ⊢
   omega
  ·have e3:(DataW.map (srt P k es'))=(DataW.map (srt P k es)).put (K.kf x) (.held (V.vv y)):=by
    rw [DataW.put_eq]; unfold srt; rw [hput]
   rw [e3]
   by_cases hx:x=x'
   ·subst hx
    rw [Maps.atKey_put_same ⟨_,rfl⟩ (K.keyed.key hkey)]
    simp [tget]
   ·rw [Maps.atKey_put_other (fun e=>hx (K.inj _ _ e).symm),hat]
    simp [tget,hx]
 ·cases h0
section
variable {N:Rm}{g:Gst}{a b c:Operand}{p:Place}{ty:TypeId}
instance {q:Array MapEntry->Nat->Prop}:NRc (.mp q):=⟨.mp⟩
instance {q:Array MapEntry->Nat->Prop}:NRc (.imp q):=⟨.imp⟩
instance {q:Array MapEntry->Nat->Prop}:OOc (.mp q):=⟨.mp⟩
theorem O.lkI {r:υ}{X Y:AV}(hm:Rd g a (.imp (MI K V m))) (hx:Rd g b Y) (hY:K.kA x=Y) (ht:P.underlying t=some (.map k e)) (h:mgetO K.ok V.z m x=some r) (hX:V.vA r=X):PS P g (.lookup t a b false) ty X:=by
 subst hX hY
 unfold mgetO at h
 split at h
 ·rename_i hok
  cases h
  exact .p1 (.lkI hm.opd hx.opd (K.av x) (V.va _) fun w b es c hb hq=>MI.look false hok ht w b es c hb hq)
 ·cases h
end
end Go.Own
namespace Go.Own
open Go
set_option linter.unusedSectionVars false
variable [TB]
section
variable {α:Type}{P:Program}{N:Rm}{g:Gst}{d r:Nat}{ty t t2 e:TypeId}{a b:Operand}{k k':IntKind}{m n:Int}{p:Place}
def inO (L:List α) (m:Int):Option Unit:=if 0<=m/\m<=L.length then some () else none
instance:Lts eI:=⟨fun x=>[.int .i64 x],fun _=>rfl,fun x v hv=>by rw [List.mem_singleton.1 hv]; rfl⟩
theorem O.slS {en:En α}{L:List α}{u:Unit}(hx:Rd g a (.brw en.z p L.length)) (hl:Rd g b (.lit (.int k m))) (hp:atP g p=some (oR en L)) (ht:slT P t e en.z=true) (h:inO L m=some u):PS P g (.slice t a (some b) none none) ty (.sub en.z p m.toNat (L.length - m.toNat)):=by
 unfold inO at h
 split at h
 ·rename_i hc
  obtain ⟨i,rfl⟩:=Int.eq_ofNat_of_zero_le hc.1
  exact .p1 (.sliceBrw hx.opd ⟨_,hl.opd⟩ rfl ht (by omega) (Nat.le_refl _) ⟨_,_,hp,by omega⟩)
 ·cases h
def cpO (lo nd:Nat) (L S:List α):Option (List α):=if 0<min S.length nd/\lo+nd<=L.length then some (L.take lo++S.take (min S.length nd)++L.drop (lo+min S.length nd)) else none
def ltv (e:En α) [h:Lts e] (L:List α):List Value:=L.flatMap h.vals
theorem ltv_rowc (e:En α) [h:Lts e] (L:List α):rowc e L=(ltv e L).map .lit:=by
 induction L with
 | nil=>rfl
 | cons x L ih =>
  have:rowc e (x::L)=e.cells x++rowc e L:=by simp [rowc]
  rw [this,ih,h.cells]
  simp [ltv]
theorem SrcP.imm {en:En α}{S:List α}:Src g (iR en S) en.z S.length (rowc en S):=.imm
theorem SrcP.brw {en:En α} [Lts en] {L:List α}{q:Place}{n:Nat}(hq:atP g q=some (oR en L)) (hn:n<=L.length):Src g (.brw en.z q n) en.z (L.take n).length (rowc en (L.take n)):=by
 have h1:(L.take n).length=n:=by rw [List.length_take]; omega
 have h2:rowc en (L.take n)=(((rowc en L).take (n * en.z)).mapIdx fun i x=>refIn 0 (q.push i) x):=by
  rw [rowc_take,ltv_rowc]
  apply List.ext_getElem?
  intro j
  rw [List.getElem?_mapIdx]
  cases hj:((ltv en (L.take n)).map AV.lit)[j]? with
  | none=>rfl
  | some y =>
   obtain ⟨v,_,rfl⟩:=List.mem_map.1 (List.mem_of_getElem? hj)
   rfl
 rw [h1,h2]
 exact .brw hq hn
theorem slT_info {z:Nat}(h:slT P t e z=true):(P.info? e).map (·.size)=some z:=by
 unfold slT at h
 cases hu:P.underlying t with
 | none=>simp [hu] at h
 | some d =>
  cases hi:P.info? e with
  | none=>cases d <;> simp [hu,hi] at h
  | some i=>cases d <;> simp [hu,hi] at h; simp [h]
theorem EO.cp {o:Oper}{en:En α} [hl:Lts en] {L S L':List α}{lo nd:Nat}{ya yb:AV}{G2:List (Nat × AV)}(ho:o.op=.call { callee:=.builtin .copy,args:=#[a,b],argTypes:=#[t,t2] }) (hd:o.dst=some d) (ha:opd g a=some ya) (hya:ya=.sub en.z ⟨r,[]⟩ lo nd\/(ya=.brw en.z ⟨r,[]⟩ nd/\lo=0)) (hb:opd g b=some yb)
  (hsrc:Src g yb en.z S.length (rowc en S)) (hs:g r=some (oR en L)) (hz1:en.z=1) (ht:slT P t e 1=true) (h:cpO lo nd L S=some L') (hroot:(get G2 r).isSome=true) (hG:TrX g (get G2) r (oR en L') G2) (hgd:get G2 d=none) (hN:N.ok d=true) :
  EO P N g o (get ((d,I64 ((min S.length nd:Nat):Int))::G2)):=by
 unfold cpO at h
 by_cases hc:0<min S.length nd/\lo+nd<=L.length
 case neg=>rw [if_neg hc] at h; cases h
 rw [if_pos hc] at h
 obtain ⟨hk0,hkn⟩:=hc
 cases h
 generalize hk:min S.length nd=k at *
 have hkS:k<=S.length:=by omega
 have hkn':k<=nd:=by omega
 refine .sem fun w I T Fs h a' ha' hNs K Q hK'=>?_
 obtain ⟨hu,he,hsz⟩:=slT_spec (w:=w) ht
 have hp:atP g ⟨r,[]⟩=some (oR en L):=by simp [atP,hs,AV.at]
 have hRa:=opd_sound h ha ha'
 obtain ⟨v0,Fy,hv0,hRy,hFy⟩:=h.part hp (by simp)
 obtain ⟨a0,cap0,rfl,hcap,hlen,hoff,hsome⟩:=hRy.own_slice
 have hLpos:0<L.length:=by omega
 cases a0 with
 | none=>have:=hsome hLpos; simp at this
 | some ad0 =>
 obtain ⟨ho1,ho2⟩:=hoff ad0 rfl
 obtain ⟨g0,of0,sp0⟩:=ad0
 simp only at ho1 ho2
 subst ho1 ho2
 have hbF:Fy g0:=hRy.own_block g0 rfl
 -- the target
 have hdst:∃ cap,a'.eval a=.slice (some ⟨g0,lo,none⟩) nd cap:=by
  rcases hya with rfl | ⟨rfl,rfl⟩
  ·obtain ⟨⟨aa,N0,c0,a1,c1,h1,h2,_,_,h5⟩,_⟩:=hRa.inv_sub
   rw [h1] at hv0
   cases hv0
   obtain ⟨ad,e1,e2⟩:=h5 (by omega)
   cases e1
   rw [h2,e2,hz1]
   exact ⟨c1,by simp⟩
  ·obtain ⟨⟨aa,N0,c0,h1,h2,_⟩,_⟩:=hRa.inv_brw
   rw [h1] at hv0
   cases hv0
   exact ⟨_,h2⟩
 obtain ⟨dcap,hdst⟩:=hdst
 -- the source
 obtain ⟨sa,scap,news,hsv,hnl,hsa,hcell,hcl,hone,hR⟩:=hsrc.sound h (opd_sound h hb ha')
 rw [hz1,Nat.mul_one] at hnl
 cases sa with
 | none=>have:=hsa (by omega) (by omega); simp at this
 | some sad =>
 have hnv:news=ltv en S:=by
  rw [ltv_rowc,List.length_map] at hcl
  apply List.ext_getElem hcl.symm
  intro j h1 h2
  have:=(hR j (.lit (ltv en S)[j]) news[j] (by rw [ltv_rowc,List.getElem?_map,List.getElem?_eq_getElem h2]; rfl) (List.getElem?_eq_getElem h1)).inv_lit.1
  exact this
 -- the block
 cases hRy with
 | ref hx=>simp [AV.isRef] at hx
 | @own _ _ _ _ e' us Fk _ hrow hl' h1 hr hd' hbb hF =>
 obtain ⟨hus,hh⟩:=hrow
 rcases hh with ⟨hh,_⟩ | ⟨b',cap,cur,hh,r1,r2,r3,r4,r5,r6⟩
 ·cases hh
 cases hh
 have hcur:L.length<=cur.size:=by
  have h9:(cur.toList.take (L.length * en.z)).length=L.length * en.z:=by rw [r6,hus]
  rw [List.length_take,hz1,Nat.mul_one,Array.length_toList] at h9
  rw [hz1] at r5
  omega
 have hcsl:(news.take k).length=k:=by rw [List.length_take]; omega
 have hrun:(execOp a'.eval o).run P w=.ok (.value (goInt k)) (w.setRow g0 (splice cur.toList lo (news.take k)).toArray):=by
  have h8:=run_copy_row (P:=P) w t t2 o.type e g0 lo nd dcap sad S.length scap cur e' (news.take k) hu (slT_info ht) r2 (by rw [hcsl]; exact hk.symm) (fun j v hj=>by
   rw [List.getElem?_take] at hj
   split at hj
   ·exact hcell sad rfl j v hj
   ·cases hj) (by rw [hcsl]; omega) (fun v hv=>by
   obtain ⟨j,hj⟩:=List.getElem?_of_mem (List.mem_of_mem_take hv)
   exact hone j v hj)
  rw [hcsl] at h8
  have e5:(cur.toList.take lo++news.take k++cur.toList.drop (lo+k))=splice cur.toList lo (news.take k):=by unfold splice; rw [hcsl]
  rw [e5] at h8
  simp [execOp,ho,resolve,invoke,hdst,hsv,builtin,h8]
 -- the state
 have hrel:∀ (j:Nat) (x:AV) (u:Value),((rowc en S).take k)[j]?=some x->(news.take k)[j]?=some u->R w I (RefAt w T) x u E0:=fun j x u hx hu=>by
  rw [List.getElem?_take] at hx hu
  split at hx
  ·rename_i hj
   rw [if_pos hj] at hu
   exact (hR j x u hx hu).frame (fun _ _=>rfl) (fun _ h=>h) (fun _ _ h=>h.1) fun _ _=>rfl
  ·cases hx
 have hH:Hand w I (RefAt w T) Fs ((rowc en S).take k) (news.take k) (fun _=>E0) :=
  ⟨by rw [List.length_take,List.length_take,hcl],hrel,fun _ _ _ _ _ h=>h.elim,fun _ _ _ _ h=>h.elim,fun _ _ _ h=>h.elim⟩
 have hcl2:((rowc en S).take k).length=k:=by rw [List.length_take,hcl]; omega
 have hLl:(rowc en L).length=L.length:=by rw [rowc_len,hz1,Nat.mul_one]
 have hnew:(oR en L).splice lo ((rowc en S).take k)=oR en (L.take lo++S.take k++L.drop (lo+k)):=by
  show AV.own en.z L.length (splice (rowc en L) lo ((rowc en S).take k))=_
  have e1:splice (rowc en L) lo ((rowc en S).take k)=rowc en (L.take lo++S.take k++L.drop (lo+k)):=by
   unfold splice
   rw [hcl2,rowc_app,rowc_app]
   have q1:=rowc_take en L lo
   have q2:=rowc_take en S k
   have q3:=rowc_drop en L (lo+k)
   rw [hz1,Nat.mul_one] at q1 q2 q3
   rw [q1,q2,q3]
  unfold oR
  rw [e1]
  congr 1
  simp; omega
 have hone2:∀ (j:Nat) (u:Value),(news.take k)[j]?=some u->u.oneCell'=true:=fun j u hu=>by
  rw [List.getElem?_take] at hu
  split at hu
  ·exact hone j u hu
  ·cases hu
 have c1:∀ t x,get G2 t=some x->setP g ⟨r,[]⟩ ((oR en L).splice lo ((rowc en S).take k)) t=some x:=fun t x hx=>by
  rw [hnew]
  rcases hG.spec t x hx with ⟨h1,h2,_⟩ | ⟨h1,h2,_⟩
  ·rw [setP_slot h1]; exact h2
  ·subst h1 h2; simp [setP,hs,AV.setAt]
 have c2:∀ t x,get G2 t=some x->∀ y,g t=some y->RKp (fun q=>RefOk g q/\Clear ⟨r,[]⟩ lo ((rowc en S).take k).length q/\RefOk (get G2) q) y:=fun t x hx y hy=>by
  rcases hG.spec t x hx with ⟨h1,h2,h3⟩ | ⟨h1,h2,h3⟩
  ·rw [h2] at hy; cases hy
   rcases h3 with h3 | ⟨_,c2,e9⟩
   ·exact h3.rkq
   ·cases e9
  ·subst h1; rw [hs] at hy; cases hy; exact .nr (.own (rowc_nr en L))
 have c3:∀ t z q n m new,get G2 t≠some (.pend z q n m new):=fun t z q n m new hx=>by
  rcases hG.spec t _ hx with ⟨_,_,h3 | ⟨h3,_⟩⟩ | ⟨_,_,h3⟩
  ·exact h3.np _ _ _ _ _ rfl
  ·exact h3.np _ _ _ _ _ rfl
  ·cases h3
 obtain ⟨Fs2,hS2,hsub⟩:=h.toC.store (g2:=get G2) hp (.inl rfl) (k:=lo) (cs':=(rowc en S).take k) (by rw [hcl2,hLl]; omega) hH (fun x hx=>rowc_nr en S x (List.mem_of_mem_take hx)) (fun h=>by cases h) hone2 c1 c2 c3 (by intro e; rw [e] at hroot; cases hroot) hv0 rfl r2
 have hput:=hS2.put0 (d:=d) (x:=I64 (k:Int)) (v:=goInt k) (F:=E0) hgd (by rw [<- ha',hNs]; exact Rm.lt hN) (.tree (.lit rfl fun _ h=>h)) (fun _ _ h=>h.elim) (fun _ h=>h.elim) (by rintro z p n m new e; cases e)
 unfold Oper.wp Oper.upon
 simp only [hrun]
 have e5:get ((d,I64 (k:Int))::G2)=upd (get G2) d (I64 (k:Int)):=by
  funext t
  rw [get_cons]
 rw [<- e5] at hput
 have hbU:∃ t,Fs t g0:=⟨_,hFy g0 hbF⟩
 refine hK' _ _ ⟨by rw [hd]; rfl,by rw [hd]; exact Hold.put hN _ _,I,_,by rw [hd]; simpa [Act.put,ha'] using hput,⟨⟨rfl,rfl,rfl,by simp,fun c _ hc=>setRow_other w g0 c _ (fun e=>hc (e ▸ hbU)),fun a _ _=>fz_setRow w g0 _ a,Nat.le_refl _⟩,fun _ h=>h,fun _ h=>.inl h,fun c hc=>?_⟩⟩ fun t ht=>by rw [hd]; simp only [Act.put]; rw [Array.getElem?_setIfInBounds_ne]; rintro rfl; exact ht hd
 obtain ⟨t,hc⟩:=hc
 simp only [updF] at hc
 split at hc
 ·exact hc.elim
 ·rcases hsub t c hc with h'' | ⟨_,_,h''⟩
  ·exact .inl ⟨t,h''⟩
  ·exact h''.elim
end
end Go.Own
namespace Go.Own
open Go
set_option linter.unusedSectionVars false
variable [TB]
def relab (π:List Nat) (o:Oper):Oper:=⟨o.dst,o.op,o.type,o.pos,o.after.map fun e=>⟨π.idxOf e.on,e.ground⟩,o.guard.map fun p=>(π.idxOf p.1,p.2)⟩
def permO (π:List Nat) (l:List Oper):List Oper:=π.map fun k=>relab π (l.getD k default)
def permB (π:List Nat) (n:Nat):Bool:=Nat.beq π.length n&&(List.range n).all fun k=>π.contains k&&Nat.blt (π.getD k n) n&&Nat.beq (π.idxOf (π.getD k n)) k
structure Perm (π:List Nat) (n:Nat):Prop where
 len:π.length=n
 mem:∀ k,k<n->π.idxOf k<n/\π.getD (π.idxOf k) n=k
 lt:∀ j,j<n->π.getD j n<n/\π.idxOf (π.getD j n)=j
theorem permB_spec {π:List Nat}{n:Nat}(h:permB π n=true):Perm π n:=by
 unfold permB at h
 simp only [Bool.and_eq_true,Nat.beq_eq,List.all_eq_true,List.mem_range,Nat.blt_eq] at h
 obtain ⟨hl,hall⟩:=h
 refine ⟨hl,fun k hk=>?_,fun j hj=>⟨(hall j hj).1.2,(hall j hj).2⟩⟩
 have hm:k∈π:=by have:=(hall k hk).1.1; simpa using this
 have h1:=List.idxOf_lt_length_iff.2 hm
 refine ⟨by omega,?_⟩
 rw [List.getD_eq_getElem?_getD,List.getElem?_eq_getElem h1,List.getElem_idxOf]
 rfl
section
variable {P:Program}{Q:Exit->Act->World->Prop}{π:List Nat}{l:List Oper}
theorem permO_at (hπ:Perm π l.length) {j:Nat}(hj:j<l.length):(permO π l).toArray[j]?=some (relab π (l.getD (π.getD j l.length) default))/\l.toArray[π.getD j l.length]?=some (l.getD (π.getD j l.length) default):=by
 have h1:j<π.length:=by rw [hπ.len]; exact hj
 have h2:=(hπ.lt j hj).1
 constructor
 ·simp only [permO,List.getElem?_toArray,List.getElem?_map,List.getD_eq_getElem?_getD,List.getElem?_eq_getElem h1,Option.map_some,Option.getD_some]
 ·rw [List.getElem?_toArray,List.getD_eq_getElem?_getD (l:=l),List.getElem?_eq_getElem h2]; rfl
theorem perm_ready (hπ:Perm π l.length) {A B:Array Bool}(hA:A.size=l.length) (hB:B.size=l.length) (hAB:∀ j,j<l.length->B.getD j true=A.getD (π.getD j l.length) true) {j:Nat}(hj:j<l.length) :
  π.getD j l.length∈Region.ready .any l.toArray A↔j∈Region.ready .any (permO π l).toArray B:=by
 obtain ⟨h1,h2⟩:=permO_at hπ hj
 have tf:∀ {C:Array Bool}{k:Nat},k<C.size->C.getD k false=C.getD k true:=fun {C k} h=>by simp [Array.getD,h]
 have gone:∀ {C:Array Bool}{k:Nat},¬ k<C.size->C.getD k false=false:=fun {C k} h=>by simp [Array.getD,h]
 have edge:∀ m,A.getD m false=true↔B.getD (π.idxOf m) false=true:=fun m=>by
  by_cases hm:m<l.length
  ·obtain ⟨h3,h4⟩:=hπ.mem m hm
   rw [tf (by omega),tf (by omega),hAB _ h3,h4]
  ·have h5:¬ π.idxOf m<l.length:=fun h=>by
    have h6:=List.idxOf_lt_length_iff.1 (by rw [hπ.len]; exact h)
    obtain ⟨i,hi,e⟩:=List.mem_iff_getElem.1 h6
    have:=(hπ.lt i (by rw [<- hπ.len]; exact hi)).1
    rw [List.getD_eq_getElem?_getD,List.getElem?_eq_getElem hi] at this
    simp only [Option.getD_some] at this
    omega
   rw [gone (by omega),gone (by omega)]
 rw [mem_ready,mem_ready,hAB j hj]
 constructor
 ·rintro ⟨a,o,ho,h⟩
  rw [h2] at ho
  cases ho
  refine ⟨a,_,h1,fun e he hb=>?_⟩
  obtain ⟨e0,he0,rfl⟩:=Array.mem_map.1 he
  exact (edge _).1 (h e0 he0 hb)
 ·rintro ⟨a,o,ho,h⟩
  rw [h1] at ho
  cases ho
  refine ⟨a,_,h2,fun e he hb=>?_⟩
  exact (edge _).2 (h ⟨π.idxOf e.on,e.ground⟩ (Array.mem_map.2 ⟨e,he,rfl⟩) hb)
theorem perm_wanted (hπ:Perm π l.length) (o:Oper) (T:Array Value):Region.wanted (relab π o) (yielded (permO π l).toArray T)=Region.wanted o (yielded l.toArray T):=by
 unfold Region.wanted relab
 cases hg:o.guard with
 | none=>rfl
 | some p =>
  obtain ⟨m,b⟩:=p
  simp only [Option.map_some]
  have:yielded (permO π l).toArray T (π.idxOf m)=yielded l.toArray T m:=by
   unfold yielded
   by_cases hm:m<l.length
   ·obtain ⟨h3,h4⟩:=hπ.mem m hm
    obtain ⟨h1,h2⟩:=permO_at hπ h3
    rw [h4] at h1 h2
    rw [h1,h2]
    rfl
   ·have h5:¬ π.idxOf m<l.length:=fun h=>by
     have h6:=List.idxOf_lt_length_iff.1 (by rw [hπ.len]; exact h)
     obtain ⟨i,hi,e⟩:=List.mem_iff_getElem.1 h6
     have:=(hπ.lt i (by rw [<- hπ.len]; exact hi)).1
     rw [List.getD_eq_getElem?_getD,List.getElem?_eq_getElem hi] at this
     simp only [Option.getD_some] at this
     omega
    have e1:(permO π l).toArray[π.idxOf m]?=none:=by
     rw [List.getElem?_toArray]; exact List.getElem?_eq_none (by simp [permO,hπ.len]; omega)
    have e2:l.toArray[m]?=none:=by rw [List.getElem?_toArray]; exact List.getElem?_eq_none (by omega)
    rw [e1,e2]
  rw [this]
theorem perm_any (hπ:Perm π l.length):∀ (fuel:Nat) (A B:Array Bool) (a:Act) (w:World),A.size=l.length->B.size=l.length->(∀ j,j<l.length->B.getD j true=A.getD (π.getD j l.length) true) ->
  wpAny P .any (permO π l).toArray Q fuel B a w->wpAny P .any l.toArray Q fuel A a w:=by
 have lift:∀ {A B:Array Bool},A.size=l.length->B.size=l.length->(∀ j,j<l.length->B.getD j true=A.getD (π.getD j l.length) true)->∀ k,k∈Region.ready .any l.toArray A->∃ j,j<l.length/\π.getD j l.length=k/\j∈Region.ready .any (permO π l).toArray B:=fun {A B} hA hB hAB k hk=>by
  have hkl:k<l.length:=by
   obtain ⟨_,o,ho,_⟩:=mem_ready.1 hk
   have:=(Array.getElem?_eq_some_iff.1 ho).1
   simpa using this
  obtain ⟨h3,h4⟩:=hπ.mem k hkl
  exact ⟨_,h3,h4,(perm_ready hπ hA hB hAB h3).1 (by rw [h4]; exact hk)⟩
 have nil:∀ {A B:Array Bool},A.size=l.length->B.size=l.length->(∀ j,j<l.length->B.getD j true=A.getD (π.getD j l.length) true)->Region.ready .any l.toArray A=[]->Region.ready .any (permO π l).toArray B=[]:=fun {A B} hA hB hAB h=>by
  cases hr:Region.ready .any (permO π l).toArray B with
  | nil=>rfl
  | cons j r =>
   have hj:j∈Region.ready .any (permO π l).toArray B:=by rw [hr]; simp
   have hjl:j<l.length:=by
    obtain ⟨_,o,ho,_⟩:=mem_ready.1 hj
    have:=(Array.getElem?_eq_some_iff.1 ho).1
    simpa [permO,hπ.len] using this
   have:=(perm_ready hπ hA hB hAB hjl).2 hj
   rw [h] at this; cases this
 intro fuel
 induction fuel with
 | zero =>
  intro A B a w hA hB hAB h
  refine ⟨?_,h.2⟩
  cases hr:Region.ready .any l.toArray A with
  | nil=>rfl
  | cons k r =>
   obtain ⟨j,_,_,hj⟩:=lift hA hB hAB k (by rw [hr]; simp)
   rw [h.1] at hj; cases hj
 | succ fuel ih =>
  intro A B a w hA hB hAB h
  refine ⟨fun hr=>h.1 (nil hA hB hAB hr),fun k hk=>?_⟩
  obtain ⟨j,hjl,rfl,hj⟩:=lift hA hB hAB k hk
  have hs:=h.2 j hj
  obtain ⟨h1,h2⟩:=permO_at hπ hjl
  have hAB':∀ i,i<l.length->(B.setIfInBounds j true).getD i true=(A.setIfInBounds (π.getD j l.length) true).getD (π.getD i l.length) true:=fun i hi=>by
   have hlt:=(hπ.lt j hjl).1
   have hlti:=(hπ.lt i hi).1
   have e:∀ (C:Array Bool) (p q:Nat),p<C.size->q<C.size->(C.setIfInBounds p true).getD q true=if q=p then true else C.getD q true:=fun C p q hp hq=>by
    by_cases h:q=p
    ·subst h; simp [Array.getD,hq]
    ·rw [if_neg h]; simp [Array.getD,hq,Array.getElem_setIfInBounds_ne,Ne.symm h]
   rw [e B j i (by omega) (by omega),e A _ _ (by omega) (by omega),hAB i hi]
   by_cases h:i=j
   ·subst h; simp
   ·rw [if_neg h,if_neg]
    intro h'
    have:=(hπ.lt i hi).2
    rw [h',(hπ.lt j hjl).2] at this
    exact h this.symm
  have mono:∀ a w,wpAny P .any (permO π l).toArray Q fuel (B.setIfInBounds j true) a w->wpAny P .any l.toArray Q fuel (A.setIfInBounds (π.getD j l.length) true) a w:=fun a w h'=>ih _ _ a w (by simpa using hA) (by simpa using hB) hAB' h'
  unfold wpOp at hs ⊢
  rw [h2]
  rw [h1] at hs
  simp only [perm_wanted hπ] at hs
  show if Region.wanted (l.getD (π.getD j l.length) default) (yielded l.toArray a.tmps)=true then _ else _
  split
  ·rename_i hw
   rw [if_pos hw] at hs
   exact hs.imp (fun h'=>Oper.wp_mono mono h') id
  ·rename_i hw
   rw [if_neg hw] at hs
   exact mono _ _ hs
end
section
variable {P:Program}{N:Rm}
theorem W.rdp {id:Nat}{l:List Oper}{G:List (Nat × AV)}{Φ:Exit->Gst->Prop}(π:List Nat) (AT:List (List Nat)) (G1:List (Nat × AV)) (hm:P.follows .mixedOrders=true) (hA:ancOk (permO π l).toArray AT=true) (hπ:permB π l.length=true)
  (h:DL P N (permO π l).toArray AT (get G) 0 [] (permO π l) fun g'=>Wk g' (get G1)) (hk:Px .normal Φ G1):W P N (.region id l.toArray true) (get G) Φ:=by
 have hp:=permB_spec hπ
 obtain ⟨g',h1,h2⟩:=h [] 0 .nil .nil (by simp)
 have hsz:(permO π l).toArray.size=l.length:=by simp [permO,hp.len]
 refine Ev.w (g':=g') (e:=.normal) ?_ (hk g' (.wk h2 .rf))
 intro Q a w I Fs hS hN hQ
 refine wp_region_any hm ?_
 have hS':SR w.drew I a.tmps (get G) Fs:=hS.world (fun _ _ _=>rfl) (fun _ _=>rfl) (Nat.le_refl _)
 have hall:∀ k,Lst (Array.replicate (permO π l).toArray.size false) k=false:=by
  intro k
  unfold Lst
  rcases Nat.lt_or_ge k (permO π l).toArray.size with h | h
  ·simp only [hsz] at h ⊢; simp [h]
  ·simp only [hsz] at h ⊢; simp [Array.getElem?_eq_none (show (Array.replicate l.length false).size<=k by simpa using h)]
 refine perm_any hp _ _ (Array.replicate l.length false) a w.drew (by simp) (by simp) (fun j hj=>?_) ?_
 ·have:=(hp.lt j hj).1
  rw [List.getD_eq_getElem?_getD] at this
  simp [Array.getD,hj]
  exact this
 have h9:=h1.sound hA .nil (permO π l).toArray.size (Array.replicate (permO π l).toArray.size false) a w.drew I Fs ?_ (by simp) (fun k hk=>by omega) (fun k _=>hall k) (fun k hk=>by rw [hall] at hk; cases hk) hS' hN (fun a' w' hn=>hQ _ _ ?_)
 ·simpa [hsz] using h9
 ·unfold cnt
  exact Nat.le_trans (List.length_filter_le _ _) (by simp)
 ·obtain ⟨e1,e2,I',Fs',hS2,hst⟩:=hn
  exact ⟨e1,e2,I',Fs',hS2,⟨⟨hst.fr.os,hst.fr.tape,hst.fr.output,hst.fr.size,hst.fr.block,hst.fr.fz,Nat.le_trans (Nat.le_succ _) hst.fr.dr⟩,hst.more,hst.new,hst.own⟩⟩
end
end Go.Own
namespace Go.Own
open Go
set_option linter.unusedSectionVars false
variable [TB]
section
variable {α:Type}{P:Program}{N:Rm}{g:Gst}{a b:Operand}{t:TypeId}{m i:Int}
end
end Go.Own
namespace Go.Own
open Go
set_option linter.unusedSectionVars false
variable [TB]
section
variable {P:Program}{N:Rm}{ops:Array Oper}{AT:List (List Nat)}{g g0:Gst}{K:Gst->Prop}{l:List Oper}{acc:Acc}{d i j t':Nat}{op:Op}{ty:TypeId}{pos:String}{after:Array Edge}{x:AV}{b c:Bool}
theorem Ps (hb:c=!b) (hk:RunL P N ops l (upd g d (.tup [])) K) (h:(ops[j]?).bind (·.dst)=some t':=by rfl) (hg:g t'=some (.lit (.bool c)):=by rfl) (hN:N.ok d=true:=by rfl) (hf:g d=none:=by rfl):RunL P N ops (⟨some d,op,ty,pos,after,some (j,b)⟩::l) g K:=.ps h hg hb hN hf hk
theorem Pu (hk:RunL P N ops l (upd g d (.tup [])) K) (h:(ops[j]?).bind (·.dst)=some t':=by rfl) (hg:g t'=some (.tup []):=by rfl) (hN:N.ok d=true:=by rfl) (hf:g d=none:=by rfl):RunL P N ops (⟨some d,op,ty,pos,after,some (j,b)⟩::l) g K:=.pu h hg hN hf hk
theorem Yv (hb:c=b) (hp:PS P g op ty x) (hk:RunL P N ops l (upd g d x) K) (h:(ops[j]?).bind (·.dst)=some t':=by rfl) (hg:g t'=some (.lit (.bool c)):=by rfl) (hN:N.ok d=true:=by rfl) (hf:g d=none:=by rfl):RunL P N ops (⟨some d,op,ty,pos,after,some (j,b)⟩::l) g K:=.v hp hN hf (.yb h hg hb) hk
theorem Pa (hk:RunL P N ops l (upd g d (.tup [])) K) (h:(ops[j]?).bind (·.dst)=some t':=by rfl) (hg:g t'=some (.lit (.bool c)):=by rfl) (hb:c=!b:=by assumption) (hN:N.ok d=true:=by rfl) (hf:g d=none:=by rfl):RunL P N ops (⟨some d,op,ty,pos,after,some (j,b)⟩::l) g K:=.ps h hg hb hN hf hk
theorem Ya (hp:PS P g op ty x) (hk:RunL P N ops l (upd g d x) K) (h:(ops[j]?).bind (·.dst)=some t':=by rfl) (hg:g t'=some (.lit (.bool c)):=by rfl) (hb:c=b:=by assumption) (hN:N.ok d=true:=by rfl) (hf:g d=none:=by rfl):RunL P N ops (⟨some d,op,ty,pos,after,some (j,b)⟩::l) g K:=.v hp hN hf (.yb h hg hb) hk
theorem DPs (j0:Nat) (hb:c=!b) (hk:DL P N ops AT g0 i ((j0,d,some (.tup []))::acc) l K) (h:(ops[j]?).bind (·.dst)=some t':=by rfl) (hg:vis AT g0 j0 acc t'=some (BB c):=by rfl) (hj:Nat.beq ops.size (j0+l.length+1)=true:=by rfl) (hf:g0 d=none:=by rfl) (hn:acc.all (fun e=>!Nat.beq e.2.1 d)=true:=by rfl) (hN:N.ok d=true:=by rfl):DL P N ops AT g0 i acc (⟨some d,op,ty,pos,after,some (j,b)⟩::l) K:=.ps j0 h hg hb hj hf hn hN hk
theorem DPu (j0:Nat) (hk:DL P N ops AT g0 i ((j0,d,some (.tup []))::acc) l K) (h:(ops[j]?).bind (·.dst)=some t':=by rfl) (hg:vis AT g0 j0 acc t'=some (.tup []):=by rfl) (hj:Nat.beq ops.size (j0+l.length+1)=true:=by rfl) (hf:g0 d=none:=by rfl) (hn:acc.all (fun e=>!Nat.beq e.2.1 d)=true:=by rfl) (hN:N.ok d=true:=by rfl):DL P N ops AT g0 i acc (⟨some d,op,ty,pos,after,some (j,b)⟩::l) K:=.pu j0 h hg hj hf hn hN hk
theorem DYv (j0:Nat) (hb:c=b) (hp:PS P (vis AT g0 j0 acc) op ty x) (hk:DL P N ops AT g0 i ((j0,d,some x)::acc) l K) (h:(ops[j]?).bind (·.dst)=some t':=by rfl) (hg:vis AT g0 j0 acc t'=some (.lit (.bool c)):=by rfl) (hj:Nat.beq ops.size (j0+l.length+1)=true:=by rfl) (hf:g0 d=none:=by rfl) (hn:acc.all (fun e=>!Nat.beq e.2.1 d)=true:=by rfl) (hN:N.ok d=true:=by rfl):DL P N ops AT g0 i acc (⟨some d,op,ty,pos,after,some (j,b)⟩::l) K:=.v j0 hp hj hf hn hN (.yb h hg hb) hk
end
section
variable {P:Program}{N:Rm}{ops:Array Oper}{g:Gst}{K:Gst->Prop}{l:List Oper}{A B:Code}{G G1:List (Nat × AV)}{Φ:Exit->Gst->Prop}{t id:Nat}{b:Bool}{α:Type}{X Y o:α}
theorem W.ch (h:(bif b then X else Y)=o) (hc:get G t=some (BB b)) (hT:b=true->X=o->W P N A (get G) Φ) (hF:b=false->Y=o->W P N B (get G) Φ):W P N (.cond (.tmp t) A B) (get G) Φ:=W.cnd hc (fun e=>hT e (cndT e h)) (fun e=>hF e (cndF e h))
def pick (g:Gst):List Nat->Option (List (Nat × AV))
 | []=>some []
 | k::ks=>match g k with
  | some x=>match pick g ks with
   | some l=>some ((k,x)::l)
   | none=>none
  | none=>none
class NRg (l:List (Nat × AV)):Prop where p:∀ e∈l,NR e.2
instance:NRg []:=⟨fun _ h=>by cases h⟩
instance {k:Nat}{x:AV}{l:List (Nat × AV)} [h:NRc x] [hl:NRg l]:NRg ((k,x)::l):=⟨fun e he=>by
 rcases List.mem_cons.1 he with rfl | he
 ·exact h.nr
 ·exact hl.p e he⟩
theorem pick_trim {c:Bool}{g g2:Gst}:∀ {ks:List Nat}{G1:List (Nat × AV)},pick g ks=some G1->(∀ e∈G1,NR e.2)->Trim c g g2 G1
 | [],_,h,_=>by cases h; exact .nil
 | k::ks,G1,h,hn=>by
  unfold pick at h
  split at h
  ·rename_i x hx
   split at h
   ·rename_i l hl
    cases h
    have:NRc x:=⟨hn (k,x) (by simp)⟩
    exact .n hx (pick_trim hl fun e he=>hn e (by simp [he]))
   ·cases h
  ·cases h
structure Kk (ks:List Nat) (G1:List (Nat × AV)) (g':Gst):Prop where p:Wk g' (get G1)
theorem Fk {ks:List Nat}(h:pick g ks=some G1) [hn:NRg G1]:RunL P N ops [] g (Kk ks G1):=.nil ⟨(pick_trim (c:=true) (g2:=get G1) h hn.p).wk⟩
theorem kkW {l:List Oper}{ks:List Nat}(h:RunL P N l.toArray l g (Kk ks G1)):RunL P N l.toArray l g fun g'=>Wk g' (get G1):=fun i hi=>by
 obtain ⟨g',h1,h2⟩:=h i hi
 exact ⟨g',h1,h2.p⟩
theorem RunL.rk (ks:List Nat) (h:pick g ks=some G1) [hn:NRg G1] (hk:RunL P N ops l (get G1) K):RunL P N ops l g K:=.re (pick_trim h hn.p) hk
theorem W.rk {l:List Oper}(ks:List Nat) (h:RunL P N l.toArray l (get G) (Kk ks G1)) (hk:Px .normal Φ G1):W P N (.region id l.toArray false) (get G) Φ:=W.rx G1 (kkW h) hk
theorem W.rs {l:List Oper}(G1:List (Nat × AV)) (h:RunL P N l.toArray l (get G) fun g'=>Wk g' (get G1)) (hk:W P N B (get G1) Φ):W P N (.seq (.region id l.toArray false) B) (get G) Φ:=W.sq' (W.rx G1 h (Px.sq hk))
theorem W.rq {l:List Oper}(ks:List Nat) (h:RunL P N l.toArray l (get G) (Kk ks G1)) (hk:W P N B (get G1) Φ):W P N (.seq (.region id l.toArray false) B) (get G) Φ:=W.rs G1 (kkW h) hk
end
end Go.Own
namespace Go.Own
open Go
set_option linter.unusedSectionVars false
variable [TB]
class F1 (P:Program) (t:TypeId):Prop where p:cellT P t=true:=by kernel_rfl
class F2 (P:Program) (t:TypeId):Prop where p:strT P t=true:=by kernel_rfl
class F3 (P:Program) (t:TypeId) (e:outParam TypeId) (z:outParam Nat):Prop where p:slT P t e z=true:=by kernel_rfl
class F4 (P:Program) (s:TypeId) (f:Nat) (off:outParam Nat) (t:outParam TypeId):Prop where p:fldT P s f off t=true:=by kernel_rfl
section
variable {P:Program}{N:Rm}{ops:Array Oper}{g:Gst}{K:Gst->Prop}{l:List Oper}{ty t:TypeId}{a:Operand}{k r z n:Nat}{cs ds:List AV}
theorem O.ldOl {v:Value}(hs:g r=some (.obj cs)) (hx:Rd g a (.ptr ⟨r,[]⟩ k)) (ht:cellT P t=true) (hc:cs[k]?=some (.lit v)):PS P g (.load t a) ty (.lit v):=O.ldO hs hx ht hc rfl
theorem O.ldOi (hs:g r=some (.obj cs)) (hx:Rd g a (.ptr ⟨r,[]⟩ k)) (ht:cellT P t=true) (hc:cs[k]?=some (.imm z n ds)):PS P g (.load t a) ty (.imm z n ds):=O.ldO hs hx ht hc rfl
theorem O.ldOo (hs:g r=some (.obj cs)) (hx:Rd g a (.ptr ⟨r,[]⟩ k)) (ht:cellT P t=true) (hc:cs[k]?=some (.own z n ds)):PS P g (.load t a) ty (.brw z ⟨r,[k]⟩ n):=O.ldO hs hx ht hc rfl
end
section
variable {P:Program}{N:Rm}{ops:Array Oper}{g:Gst}{K:Gst->Prop}{l:List Oper}{t0 d:Nat}{t1 t2 ty:TypeId}{a1 a2 a3:Operand}{n1:Nat}{v0:Value}{pos:String}{after:Array Edge}{op:Op}{gu:Nat × Bool}
theorem RunL.tg (op:Op) (u:Option (Nat × Bool)) (h:RunL P N ops (⟨some d,op,ty,pos,after,u⟩::l) g K):RunL P N ops (⟨some d,op,ty,pos,after,u⟩::l) g K:=h
theorem RunL.nl (h:RunL P N ops [] g K):RunL P N ops [] g K:=h
theorem RunL.apc {o:Oper}{l1 l2:List Oper}(h:RunL P N ops (o::List.append l1 l2) g K):RunL P N ops (List.append (o::l1) l2) g K:=h
theorem RunL.apn {l2:List Oper}(h:RunL P N ops l2 g K):RunL P N ops (List.append [] l2) g K:=h
theorem RunL.au (h:RunL P N ops l g K:=by
(repeat' (first
 | exact Fi .nil
 | exact .nil
 | refine .n rfl ?_
 | (first
  | ((with_reducible apply RunL.tg (.move (.tmp _)) none); (first | refine Vm rfl ?_ | refine Rv (O.mv (.imm rfl)) ?_ | refine Rv (O.mv (.own rfl)) ?_ | refine Rv (O.mv (.obj rfl)) ?_ | refine Rv (O.mv (.iptr rfl)) ?_ | refine Rv (O.mv (.ptr rfl)) ?_ | refine Rv (O.mv (.brw rfl)) ?_))
  | ((with_reducible apply RunL.tg (.load _ _) none); (first | refine Rv (O.ldOl rfl (.ptr rfl) F1.p rfl) ?_ | refine Rv (O.ldI (.iptr rfl) F1.p rfl) ?_ | refine Rv (O.ldOi rfl (.ptr rfl) F1.p rfl) ?_ | refine Rv (O.ldOl rfl (.obj rfl) F1.p rfl) ?_ | refine Rv (O.ldOi rfl (.obj rfl) F1.p rfl) ?_ | refine Rv (O.ldOo rfl (.ptr rfl) F1.p rfl) ?_ | refine Rv (O.ldOo rfl (.obj rfl) F1.p rfl) ?_))
  | ((with_reducible apply RunL.tg (.fieldAddr _ _ _) none); (first | refine Rv (O.fO rfl (.obj rfl) F4.p rfl) ?_ | refine Rv (O.fI (.iptr rfl) F4.p) ?_ | refine Rv (O.fO rfl (.ptr rfl) F4.p rfl) ?_))
  | ((with_reducible apply RunL.tg (.assign (.tmp _)) none); (first | refine Va rfl ?_ | refine Rv (O.az (.imm rfl)) ?_ | refine Rv (O.az (.own rfl)) ?_ | refine Rv (O.az (.obj rfl)) ?_ | refine Rv (O.az (.iptr rfl)) ?_ | refine Rv (O.az (.ptr rfl)) ?_ | refine Rv (O.az (.brw rfl)) ?_))
  | ((with_reducible apply RunL.tg (.assign (.const _)) none); (first | refine Vk rfl ?_ | refine Rv (O.az .knil) ?_))
  | ((with_reducible apply RunL.tg (.indexAddr _ _ _) none); (first | refine Rv (O.ixI (.imm rfl) (.lit rfl) F3.p (by assumption)) ?_ | refine Rv (O.ixI (.imm rfl) (.k rfl) F3.p (by assumption)) ?_))
  | ((with_reducible apply RunL.tg (.binOp .add _ _ _ _) none); (first | refine Rv (O.add (.lit rfl) (.k rfl)) ?_ | refine Rv (O.add (.lit rfl) (.lit rfl)) ?_ | refine Rv (O.add (.k rfl) (.lit rfl)) ?_))
  | ((with_reducible apply RunL.tg (.binOp .lss _ _ _ _) none); (first | refine Rv (O.lss (.lit rfl) (.k rfl)) ?_ | refine Rv (O.lss (.lit rfl) (.lit rfl)) ?_ | refine Rv (O.lss (.k rfl) (.lit rfl)) ?_))
  | ((with_reducible apply RunL.tg (.binOp .eql _ _ _ _) none); (first | refine Rv (O.eql (.lit rfl) (.k rfl)) ?_ | refine Rv (O.eql (.lit rfl) (.lit rfl)) ?_ | refine Rv (O.eql (.k rfl) (.lit rfl)) ?_ | refine Rv (O.eqS (.lit rfl) (.lit rfl)) ?_ | refine Rv (O.eqS (.lit rfl) (.k rfl)) ?_))
  | ((with_reducible apply RunL.tg (.binOp .neq _ _ _ _) none); (first | refine Rv (O.neq (.lit rfl) (.k rfl)) ?_ | refine Rv (O.neq (.lit rfl) (.lit rfl)) ?_ | refine Rv (O.neq (.k rfl) (.lit rfl)) ?_ | refine Rv (O.neS (.lit rfl) (.lit rfl)) ?_ | refine Rv (O.neS (.lit rfl) (.k rfl)) ?_))
  | ((with_reducible apply RunL.tg (.binOp .geq _ _ _ _) none); (first | refine Rv (O.geq (.lit rfl) (.k rfl)) ?_ | refine Rv (O.geq (.lit rfl) (.lit rfl)) ?_ | refine Rv (O.geq (.k rfl) (.lit rfl)) ?_))
  | ((with_reducible apply RunL.tg (.binOp .gtr _ _ _ _) none); (first | refine Rv (O.gtr (.lit rfl) (.k rfl)) ?_ | refine Rv (O.gtr (.lit rfl) (.lit rfl)) ?_ | refine Rv (O.gtr (.k rfl) (.lit rfl)) ?_))
  | ((with_reducible apply RunL.tg (.binOp .sub _ _ _ _) none); (first | refine Rv (O.sub (.lit rfl) (.k rfl)) ?_ | refine Rv (O.sub (.lit rfl) (.lit rfl)) ?_ | refine Rv (O.sub (.k rfl) (.lit rfl)) ?_))
  | ((with_reducible apply RunL.tg (.binOp .leq _ _ _ _) none); (first | refine Rv (O.leq (.lit rfl) (.k rfl)) ?_ | refine Rv (O.leq (.lit rfl) (.lit rfl)) ?_ | refine Rv (O.leq (.k rfl) (.lit rfl)) ?_))
  | ((with_reducible apply RunL.tg (.pick _ _ _) none); (first | refine Rv (O.pkT (.lit rfl) rfl (.lit rfl)) ?_ | refine Rv (O.pkF (.lit rfl) rfl (.lit rfl)) ?_ | refine Rv (O.pkT (.lit rfl) rfl (.k rfl)) ?_ | refine Rv (O.pkF (.lit rfl) rfl (.k rfl)) ?_ | refine Rv (O.pkT (.lit rfl) (by assumption) (.lit rfl)) ?_ | refine Rv (O.pkF (.lit rfl) (by assumption) (.lit rfl)) ?_ | refine Rv (O.pkT (.lit rfl) (by assumption) (.k rfl)) ?_ | refine Rv (O.pkF (.lit rfl) (by assumption) (.k rfl)) ?_))
  | ((with_reducible apply RunL.tg (.call { callee:=.builtin .len,args:=#[_],argTypes:=#[_] }) none); (first | refine Rv (O.lenI (.imm rfl) F3.p) ?_ | refine Rv (O.lenO (.brw rfl) F3.p) ?_ | refine Rv (O.lenO (.own rfl) F3.p) ?_ | refine Rv (O.lenS (.lit rfl) F2.p) ?_))
  | ((with_reducible apply RunL.tg (.unOp .not _ _) none); (first | refine Rv (O.not (.lit rfl)) ?_))
  | ((with_reducible apply RunL.tg (.nilCheck _) none); (first | refine Rv (O.nlP (.ptr rfl)) ?_ | refine Rv (O.nlI (.iptr rfl)) ?_ | refine Rv (O.nlP (.obj rfl)) ?_))
  | ((with_reducible apply RunL.tg (.index _ _ _) none); (first | refine Rv (O.at' (.lit rfl) (.lit rfl) F2.p (by assumption)) ?_))
  | ((with_reducible apply RunL.tg (.move (.const _)) none); (first | refine Rv (O.mv (.k rfl)) ?_ | refine Rv (O.mv .knil) ?_)))
 | ((with_reducible apply RunL.nl); first | exact Fk rfl | refine Fi ?_)
 | ((with_reducible apply RunL.tg _ (some _)); first
  | (first | refine Ps rfl ?_ | refine Pa ?_ | refine Pu ?_)
  | ((with_reducible apply RunL.tg (.move (.tmp _)) (some _)); (first | refine Yv rfl (O.mv (.lit rfl)) ?_ | refine Ya (O.mv (.lit rfl)) ?_ | refine Yv rfl (O.mv (.imm rfl)) ?_ | refine Ya (O.mv (.imm rfl)) ?_ | refine Yv rfl (O.mv (.own rfl)) ?_ | refine Ya (O.mv (.own rfl)) ?_ | refine Yv rfl (O.mv (.obj rfl)) ?_ | refine Ya (O.mv (.obj rfl)) ?_ | refine Yv rfl (O.mv (.iptr rfl)) ?_ | refine Ya (O.mv (.iptr rfl)) ?_ | refine Yv rfl (O.mv (.ptr rfl)) ?_ | refine Ya (O.mv (.ptr rfl)) ?_ | refine Yv rfl (O.mv (.brw rfl)) ?_ | refine Ya (O.mv (.brw rfl)) ?_))
  | ((with_reducible apply RunL.tg (.load _ _) (some _)); (first | refine Yv rfl (O.ldOl rfl (.ptr rfl) F1.p rfl) ?_ | refine Ya (O.ldOl rfl (.ptr rfl) F1.p rfl) ?_ | refine Yv rfl (O.ldI (.iptr rfl) F1.p rfl) ?_ | refine Ya (O.ldI (.iptr rfl) F1.p rfl) ?_ | refine Yv rfl (O.ldOi rfl (.ptr rfl) F1.p rfl) ?_ | refine Ya (O.ldOi rfl (.ptr rfl) F1.p rfl) ?_ | refine Yv rfl (O.ldOl rfl (.obj rfl) F1.p rfl) ?_ | refine Ya (O.ldOl rfl (.obj rfl) F1.p rfl) ?_ | refine Yv rfl (O.ldOi rfl (.obj rfl) F1.p rfl) ?_ | refine Ya (O.ldOi rfl (.obj rfl) F1.p rfl) ?_ | refine Yv rfl (O.ldOo rfl (.ptr rfl) F1.p rfl) ?_ | refine Ya (O.ldOo rfl (.ptr rfl) F1.p rfl) ?_ | refine Yv rfl (O.ldOo rfl (.obj rfl) F1.p rfl) ?_ | refine Ya (O.ldOo rfl (.obj rfl) F1.p rfl) ?_))
  | ((with_reducible apply RunL.tg (.fieldAddr _ _ _) (some _)); (first | refine Yv rfl (O.fO rfl (.obj rfl) F4.p rfl) ?_ | refine Ya (O.fO rfl (.obj rfl) F4.p rfl) ?_ | refine Yv rfl (O.fI (.iptr rfl) F4.p) ?_ | refine Ya (O.fI (.iptr rfl) F4.p) ?_ | refine Yv rfl (O.fO rfl (.ptr rfl) F4.p rfl) ?_ | refine Ya (O.fO rfl (.ptr rfl) F4.p rfl) ?_))
  | ((with_reducible apply RunL.tg (.indexAddr _ _ _) (some _)); (first | refine Yv rfl (O.ixI (.imm rfl) (.lit rfl) F3.p (by assumption)) ?_ | refine Ya (O.ixI (.imm rfl) (.lit rfl) F3.p (by assumption)) ?_ | refine Yv rfl (O.ixI (.imm rfl) (.k rfl) F3.p (by assumption)) ?_ | refine Ya (O.ixI (.imm rfl) (.k rfl) F3.p (by assumption)) ?_))
  | ((with_reducible apply RunL.tg (.binOp .add _ _ _ _) (some _)); (first | refine Yv rfl (O.add (.lit rfl) (.k rfl)) ?_ | refine Ya (O.add (.lit rfl) (.k rfl)) ?_ | refine Yv rfl (O.add (.lit rfl) (.lit rfl)) ?_ | refine Ya (O.add (.lit rfl) (.lit rfl)) ?_ | refine Yv rfl (O.add (.k rfl) (.lit rfl)) ?_ | refine Ya (O.add (.k rfl) (.lit rfl)) ?_))
  | ((with_reducible apply RunL.tg (.binOp .lss _ _ _ _) (some _)); (first | refine Yv rfl (O.lss (.lit rfl) (.k rfl)) ?_ | refine Ya (O.lss (.lit rfl) (.k rfl)) ?_ | refine Yv rfl (O.lss (.lit rfl) (.lit rfl)) ?_ | refine Ya (O.lss (.lit rfl) (.lit rfl)) ?_ | refine Yv rfl (O.lss (.k rfl) (.lit rfl)) ?_ | refine Ya (O.lss (.k rfl) (.lit rfl)) ?_))
  | ((with_reducible apply RunL.tg (.binOp .eql _ _ _ _) (some _)); (first | refine Yv rfl (O.eql (.lit rfl) (.k rfl)) ?_ | refine Ya (O.eql (.lit rfl) (.k rfl)) ?_ | refine Yv rfl (O.eql (.lit rfl) (.lit rfl)) ?_ | refine Ya (O.eql (.lit rfl) (.lit rfl)) ?_ | refine Yv rfl (O.eql (.k rfl) (.lit rfl)) ?_ | refine Ya (O.eql (.k rfl) (.lit rfl)) ?_ | refine Yv rfl (O.eqS (.lit rfl) (.lit rfl)) ?_ | refine Ya (O.eqS (.lit rfl) (.lit rfl)) ?_ | refine Yv rfl (O.eqS (.lit rfl) (.k rfl)) ?_ | refine Ya (O.eqS (.lit rfl) (.k rfl)) ?_))
  | ((with_reducible apply RunL.tg (.binOp .neq _ _ _ _) (some _)); (first | refine Yv rfl (O.neq (.lit rfl) (.k rfl)) ?_ | refine Ya (O.neq (.lit rfl) (.k rfl)) ?_ | refine Yv rfl (O.neq (.lit rfl) (.lit rfl)) ?_ | refine Ya (O.neq (.lit rfl) (.lit rfl)) ?_ | refine Yv rfl (O.neq (.k rfl) (.lit rfl)) ?_ | refine Ya (O.neq (.k rfl) (.lit rfl)) ?_ | refine Yv rfl (O.neS (.lit rfl) (.lit rfl)) ?_ | refine Ya (O.neS (.lit rfl) (.lit rfl)) ?_ | refine Yv rfl (O.neS (.lit rfl) (.k rfl)) ?_ | refine Ya (O.neS (.lit rfl) (.k rfl)) ?_))
  | ((with_reducible apply RunL.tg (.binOp .geq _ _ _ _) (some _)); (first | refine Yv rfl (O.geq (.lit rfl) (.k rfl)) ?_ | refine Ya (O.geq (.lit rfl) (.k rfl)) ?_ | refine Yv rfl (O.geq (.lit rfl) (.lit rfl)) ?_ | refine Ya (O.geq (.lit rfl) (.lit rfl)) ?_ | refine Yv rfl (O.geq (.k rfl) (.lit rfl)) ?_ | refine Ya (O.geq (.k rfl) (.lit rfl)) ?_))
  | ((with_reducible apply RunL.tg (.binOp .gtr _ _ _ _) (some _)); (first | refine Yv rfl (O.gtr (.lit rfl) (.k rfl)) ?_ | refine Ya (O.gtr (.lit rfl) (.k rfl)) ?_ | refine Yv rfl (O.gtr (.lit rfl) (.lit rfl)) ?_ | refine Ya (O.gtr (.lit rfl) (.lit rfl)) ?_ | refine Yv rfl (O.gtr (.k rfl) (.lit rfl)) ?_ | refine Ya (O.gtr (.k rfl) (.lit rfl)) ?_))
  | ((with_reducible apply RunL.tg (.binOp .sub _ _ _ _) (some _)); (first | refine Yv rfl (O.sub (.lit rfl) (.k rfl)) ?_ | refine Ya (O.sub (.lit rfl) (.k rfl)) ?_ | refine Yv rfl (O.sub (.lit rfl) (.lit rfl)) ?_ | refine Ya (O.sub (.lit rfl) (.lit rfl)) ?_ | refine Yv rfl (O.sub (.k rfl) (.lit rfl)) ?_ | refine Ya (O.sub (.k rfl) (.lit rfl)) ?_))
  | ((with_reducible apply RunL.tg (.binOp .leq _ _ _ _) (some _)); (first | refine Yv rfl (O.leq (.lit rfl) (.k rfl)) ?_ | refine Ya (O.leq (.lit rfl) (.k rfl)) ?_ | refine Yv rfl (O.leq (.lit rfl) (.lit rfl)) ?_ | refine Ya (O.leq (.lit rfl) (.lit rfl)) ?_ | refine Yv rfl (O.leq (.k rfl) (.lit rfl)) ?_ | refine Ya (O.leq (.k rfl) (.lit rfl)) ?_))
  | ((with_reducible apply RunL.tg (.call { callee:=.builtin .len,args:=#[_],argTypes:=#[_] }) (some _)); (first | refine Yv rfl (O.lenI (.imm rfl) F3.p) ?_ | refine Ya (O.lenI (.imm rfl) F3.p) ?_ | refine Yv rfl (O.lenO (.brw rfl) F3.p) ?_ | refine Ya (O.lenO (.brw rfl) F3.p) ?_ | refine Yv rfl (O.lenO (.own rfl) F3.p) ?_ | refine Ya (O.lenO (.own rfl) F3.p) ?_ | refine Yv rfl (O.lenS (.lit rfl) F2.p) ?_ | refine Ya (O.lenS (.lit rfl) F2.p) ?_))
  | ((with_reducible apply RunL.tg (.unOp .not _ _) (some _)); (first | refine Yv rfl (O.not (.lit rfl)) ?_ | refine Ya (O.not (.lit rfl)) ?_))
  | ((with_reducible apply RunL.tg (.nilCheck _) (some _)); (first | refine Yv rfl (O.nlP (.ptr rfl)) ?_ | refine Ya (O.nlP (.ptr rfl)) ?_ | refine Yv rfl (O.nlI (.iptr rfl)) ?_ | refine Ya (O.nlI (.iptr rfl)) ?_ | refine Yv rfl (O.nlP (.obj rfl)) ?_ | refine Ya (O.nlP (.obj rfl)) ?_))
  | ((with_reducible apply RunL.tg (.index _ _ _) (some _)); (first | refine Yv rfl (O.at' (.lit rfl) (.lit rfl) F2.p (by assumption)) ?_ | refine Ya (O.at' (.lit rfl) (.lit rfl) F2.p (by assumption)) ?_)))
 | with_reducible apply RunL.apc
 | with_reducible apply RunL.apn))):RunL P N ops l g K:=h
theorem W.ak {id:Nat}{l:List Oper}{G G1:List (Nat × AV)}{Φ:Exit->Gst->Prop}(ks:List Nat) (hk:Px .normal Φ G1) (h:RunL P N l.toArray l (get G) (Kk ks G1):=by exact RunL.au):W P N (.region id l.toArray false) (get G) Φ:=W.rk ks h hk
theorem W.aq {id:Nat}{l:List Oper}{B:Code}{G G1:List (Nat × AV)}{Φ:Exit->Gst->Prop}(ks:List Nat) (hk:W P N B (get G1) Φ) (h:RunL P N l.toArray l (get G) (Kk ks G1):=by exact RunL.au):W P N (.seq (.region id l.toArray false) B) (get G) Φ:=W.rq ks h hk
end
end Go.Own
namespace Go.Own
open Go
set_option linter.unusedSectionVars false
variable [TB]
section
variable {P:Program}{N:Rm}{G:List (Nat × AV)}{g':Gst}
theorem Pr {rs:List ResultVar}{ys xs:List AV}{res:AV}{outs:List (Option AV)}{n:Nat}(h:Rt2 P (get G) rs ys xs g') (he:resAV xs=res:=by rfl) (ho:Ots g' N.pins 0 outs:=by (repeat' first | exact .nil | refine .no ?_)) (hnd:(rs.filterMap fun | .cell t _=>some t | _=>none).Nodup:=by exact of_decide_eq_true (by kernel_rfl)) (hl:outs.length=n:=by rfl):Px .ret (FinW P N rs n outs res) G:=Px.fin (Fin.ro h he hnd ho hl (.inr rfl))
end
end Go.Own
namespace Go.Own
open Go
set_option linter.unusedSectionVars false
variable [TB]
section
variable {P:Program}{N:Rm}{G:List (Nat × AV)}{g':Gst}{S R:Type}
theorem bd {α β:Type}{x:Option α}{f:α->Option β}{r:β}{G:Prop}(h:x.bind f=some r) (k:∀ a,x=some a->f a=some r->G):G:=by
 obtain ⟨a,h1,h2⟩:=bnd h
 exact k a h1 h2
theorem Rd.z1 {g:Gst}{t:Nat}{v:Value}(h:g t=some (.lit v):=by rfl):Rd g (.tmp t) (.lit v):=.lit h
theorem Rd.z2 {g:Gst}{t z n:Nat}{cs:List AV}(h:g t=some (.imm z n cs):=by rfl):Rd g (.tmp t) (.imm z n cs):=.imm h
theorem Rd.z3 {g:Gst}{t z n:Nat}{cs:List AV}(h:g t=some (.own z n cs):=by rfl):Rd g (.tmp t) (.brw z ⟨t,[]⟩ n):=.own h
theorem Rd.z4 {g:Gst}{t:Nat}{c:AV}{cs:List AV}(h:g t=some (.obj (c::cs)):=by rfl):Rd g (.tmp t) (.ptr ⟨t,[]⟩ 0):=.obj h
theorem Rd.z5 {g:Gst}{t k:Nat}{p:Place}(h:g t=some (.ptr p k):=by rfl):Rd g (.tmp t) (.ptr p k):=.ptr h
theorem Rd.z6 {g:Gst}{t z n:Nat}{p:Place}(h:g t=some (.brw z p n):=by rfl):Rd g (.tmp t) (.brw z p n):=.brw h
theorem Rd.z7 {g:Gst}{t:Nat}{cs:List AV}(h:g t=some (.iptr cs):=by rfl):Rd g (.tmp t) (.iptr cs):=.iptr h
theorem Rd.z8 {g:Gst}{v:Value}(h:ofConst v=.lit v:=by rfl):Rd g (.const v) (.lit v):=.k h
theorem Px.jt {G1:List (Nat × AV)}(h:Trim true (get G) (get G1) G1:=by (repeat' first | exact .nil | refine .n rfl ?_)):Px .normal (fun e g=>e=.normal/\Be g G1) G:=Px.jn h
theorem Px.gt {s:S}{F:S->List (Nat × AV)}{Ψ:R->Exit->Gst->Prop}(h:Trim true (get G) (get (F s)) (F s):=by (repeat' first | exact .nil | refine .n rfl ?_)):Px .normal (Rd2 F Ψ (.inl s)) G:=Px.go h
theorem Px.t1 {id:Nat}{r:R}{F:S->List (Nat × AV)}{Gx:R->List (Nat × AV)}(h:Trim true (get G) (get (Gx r)) (Gx r):=by (repeat' first | exact .nil | refine .n rfl ?_)):Px (.exit id) (Rd2 F (fun r e g=>e=.exit id/\Be g (Gx r)) (.inr r)) G:=Px.x1 h
theorem Pq {rs:List ResultVar}{ys xs:List AV}{res:AV}{outs:List (Option AV)}{n:Nat}(h:Rt2 P (get G) rs ys xs g':=by exact .f rfl rfl .nil) (he:resAV xs=res:=by rfl) (ho:Ots g' N.pins 0 outs:=by (repeat' first | exact .nil | refine .no ?_)) (hnd:(rs.filterMap fun | .cell t _=>some t | _=>none).Nodup:=by exact of_decide_eq_true (by kernel_rfl)) (hl:outs.length=n:=by rfl):Px .ret (FinW P N rs n outs res) G:=Pr h he ho hnd hl
end
end Go.Own
namespace Go.Own
open Go
set_option linter.unusedSectionVars false
variable [TB]
section
variable {α:Type}{P:Program}{g:Gst}{ty t:TypeId}{a b:Operand}{k r z n:Nat}{cs cs':List AV}{x y:AV}{p:Place}{m:Int}{ki:IntKind}{e:TypeId}{N:Rm}{ops:Array Oper}
theorem O.y1 {s' f off:Nat} [h:F4 P s' f off t] (hx:Rd g a (.ptr ⟨r,[]⟩ k):=by exact .obj rfl) (hs:g r=some (.obj cs):=by rfl) (hl:Nat.blt (k+off) cs.length=true:=by rfl):PS P g (.fieldAddr s' a f) ty (.ptr ⟨r,[]⟩ (k+off)):=O.fO hs hx h.p hl
theorem O.y2 {s' f off:Nat} [h:F4 P s' f off t] (hx:Rd g a (.ptr ⟨r,[]⟩ k):=by exact .ptr rfl) (hs:g r=some (.obj cs):=by rfl) (hl:Nat.blt (k+off) cs.length=true:=by rfl):PS P g (.fieldAddr s' a f) ty (.ptr ⟨r,[]⟩ (k+off)):=O.fO hs hx h.p hl
theorem O.y3 {v:Value} [h:F1 P t] (hx:Rd g a (.ptr ⟨r,[]⟩ k):=by exact .ptr rfl) (hs:g r=some (.obj cs):=by rfl) (hc:cs[k]?=some (.lit v):=by rfl):PS P g (.load t a) ty (.lit v):=O.ldOl hs hx h.p hc
theorem O.y4 {en:En α}{L:List α}{y:α}{z':Nat}(h:idx L m=some y) [h3:F3 P t e z'] (hx:Rd g a (.imm en.z L.length (rowc en L)):=by exact .imm rfl) (hy:Rd g b (.lit (.int ki m)):=by exact .lit rfl) (hz:z'=en.z:=by rfl):PS P g (.indexAddr t a b) ty (.iptr (en.cells y++rowc en (L.drop (m.toNat+1)))):=O.ixI hx hy (hz ▸ h3.p) h
theorem O.y5 [h:F1 P t] (hx:Rd g a (.ptr ⟨r,[]⟩ k):=by exact .ptr rfl) (hs:g r=some (.obj cs):=by rfl) (hc:cs[k]?=some x:=by rfl) (hy:refIn 0 ⟨r,[k]⟩ x=y:=by rfl):PS P g (.load t a) ty y:=O.ldO hs hx h.p hc hy
theorem O.y6 [h:F1 P t] (hx:Rd g a (.iptr cs):=by exact .iptr rfl) (hc:cs.head?=some x:=by rfl):PS P g (.load t a) ty x:=O.ldI hx h.p hc
theorem O.y8 {s' f off:Nat} [h:F4 P s' f off t] (hx:Rd g a (.iptr cs):=by exact .iptr rfl):PS P g (.fieldAddr s' a f) ty (.iptr (cs.drop off)):=O.fI hx h.p
theorem O.y9 {z':Nat} [h:F3 P t e z'] (hx:Rd g a (.imm z n cs):=by exact .imm rfl):PS P g (.call { callee:=.builtin .len,args:=#[a],argTypes:=#[t] }) ty (I64 n):=O.lenI hx h.p
theorem PC.gz {xs:List Operand}{tys:Array TypeId}{f:FuncId}{ys:List AV}{outs:List (Option AV)}{res:AV}(hx:Opds g xs ys) (hcon:Con P f ys outs res) [hr:NRc res] (hf:callT P f=true:=by kernel_rfl) (ho:noneB outs=true:=by rfl):PC P g (.call { callee:=.value (.func f),args:=xs.toArray,argTypes:=tys }) res:=PC.go hx hcon hf ho
theorem PC.vz {xs:List Operand}{tys:Array TypeId}{f:FuncId}{ys args:List AV}{outs:List (Option AV)}{res:AV}(hx:opds g xs=some ys) (hv:VwL g ys args) (hcon:Con P f args outs res) [hr:OOc res] (hf:callT P f=true:=by kernel_rfl) (ho:noneB outs=true:=by rfl):PC P g (.call { callee:=.value (.func f),args:=xs.toArray,argTypes:=tys }) res:=PC.vw hx hv hcon hf ho
end
section
variable {P:Program}{N:Rm}{ops:Array Oper}{AT:List (List Nat)}{K:Gst->Prop}{i:Nat}{acc:Acc}{l:List Oper}{d:Nat}
theorem DL.bpz (j0:Nat) {G G2:List (Nat × AV)}{o:Oper}(he:EO P N (visG (get G) (fun _=>true) acc) o (get G2)) (hk:DL P N ops AT (get G2) (j0+1) [] l K) (hg:o.guard=none:=by rfl) (hpd:ndr ((acc.filterMap pendPlace).map Place.root)=true:=by rfl) (hp0:npB G=true:=by rfl) (hj:Nat.beq ops.size (j0+l.length+1)=true:=by rfl) (ha:(List.range j0).all (fun k=>(AT.getD j0 []).contains k)=true:=by kernel_rfl) (hb:(List.range ops.size).all (fun k=>Nat.ble k j0||(AT.getD k []).contains j0)=true:=by kernel_rfl):DL P N ops AT (get G) i acc (o::l) K:=.bp j0 he hg hpd hp0 hj ha hb hk
theorem DL.bvz (j0:Nat) {G G2:List (Nat × AV)}{o:Oper}{x:AV}(he:EO P N (visG (get G) (fun _=>true) acc) o (upd (get G2) d x)) (hk:DL P N ops AT (get ((d,x)::G2)) (j0+1) [] l K) (hg:o.guard=none:=by rfl) (hpd:ndr ((acc.filterMap pendPlace).map Place.root)=true:=by rfl) (hp0:npB G=true:=by rfl) (hj:Nat.beq ops.size (j0+l.length+1)=true:=by rfl) (ha:(List.range j0).all (fun k=>(AT.getD j0 []).contains k)=true:=by kernel_rfl) (hb:(List.range ops.size).all (fun k=>Nat.ble k j0||(AT.getD k []).contains j0)=true:=by kernel_rfl):DL P N ops AT (get G) i acc (o::l) K:=.bv j0 he hg hpd hp0 hj ha hb hk
end
end Go.Own
namespace Go.Own
open Go
set_option linter.unusedSectionVars false
variable [TB]
set_option linter.unusedVariables false
def splo:List AV->Nat->List AV->Option (List AV)
 | [],0,[]=>some []
 | [],_,_=>none
 | x::l,0,[]=>some (x::l)
 | _::l,0,y::c=>match splo l 0 c with
  | some r=>some (y::r)
  | none=>none
 | x::l,k+1,c=>match splo l k c with
  | some r=>some (x::r)
  | none=>none
theorem splo_eq:∀ {l:List AV}{k:Nat}{c r:List AV},splo l k c=some r->splice l k c=r/\k+c.length<=l.length
 | [],0,[],r,h=>by cases h; exact ⟨rfl,Nat.le_refl _⟩
 | [],0,_::_,_,h=>by cases h
 | [],_+1,_,_,h=>by cases h
 | x::l,0,[],r,h=>by cases h; exact ⟨by simp [splice],by simp⟩
 | x::l,0,y::c,r,h=>by
  unfold splo at h
  split at h
  ·rename_i r' hr
   cases h
   obtain ⟨h1,h2⟩:=splo_eq hr
   subst h1
   exact ⟨by simp [splice],by simp at h2 ⊢; omega⟩
  ·cases h
 | x::l,k+1,c,r,h=>by
  unfold splo at h
  split at h
  ·rename_i r' hr
   cases h
   obtain ⟨h1,h2⟩:=splo_eq hr
   subst h1
   exact ⟨by simp [splice,Nat.add_right_comm],by simp; omega⟩
  ·cases h
theorem pick_trS {g g2:Gst}{r:Nat}{cs2:List AV}:∀ {ks:List Nat}{G1:List (Nat × AV)},pick (upd g r (.obj cs2)) ks=some G1->(∀ e∈G1,NR e.2)->TrS g g2 r cs2 G1
 | [],_,h,_=>by cases h; exact .nil
 | k::ks,G1,h,hn=>by
  unfold pick at h
  split at h
  ·rename_i x hx
   split at h
   ·rename_i l hl
    cases h
    have ht:=pick_trS (g2:=g2) hl fun e he=>hn e (by simp [he])
    by_cases e:k=r
    ·subst e
     have e:x=.obj cs2:=by simpa [upd] using hx.symm
     subst e
     have hx:NR (.obj cs2):=hn (k,.obj cs2) (by simp)
     have:NRl cs2:=⟨by cases hx; assumption⟩
     exact .b rfl ht
    ·have:NRc x:=⟨hn (k,x) (by simp)⟩
     exact .n (by rw [<- Bool.not_eq_true,Nat.beq_eq]; exact e) (by simpa [upd,e] using hx) ht
   ·cases h
  ·cases h
theorem pick_trK {g g2:Gst}{ex:List Nat}:∀ {ks:List Nat}{G1:List (Nat × AV)},pick g ks=some G1->(ks.all fun k=>!ex.elem k)=true->(∀ e∈G1,NR e.2)->TrK ex g g2 G1
 | [],_,h,_,_=>by cases h; exact .nil
 | k::ks,G1,h,he,hn=>by
  unfold pick at h
  rw [List.all_cons,Bool.and_eq_true] at he
  split at h
  ·rename_i x hx
   split at h
   ·rename_i l hl
    cases h
    have:NRc x:=⟨hn (k,x) (by simp)⟩
    exact .n (by simpa using he.1) hx (pick_trK hl he.2 fun e h=>hn e (by simp [h]))
   ·cases h
  ·cases h
def nfl:List AV->Option (List AV)
 | []=>some []
 | x::l=>match nfl l with
  | some r=>some (x::r)
  | none=>none
theorem nfl_eq:∀ {l r:List AV},nfl l=some r->l=r
 | [],r,h=>by cases h; rfl
 | x::l,r,h=>by
  unfold nfl at h
  split at h
  ·rename_i r' hr
   cases h; rw [nfl_eq hr]
  ·cases h
def nfo:AV->Option AV
 | .obj cs=>match nfl cs with
  | some r=>some (.obj r)
  | none=>none
 | .own z n cs=>some (.own z n cs)
 | _=>none
theorem nfo_eq {x y:AV}(h:nfo x=some y):x=y:=by
 unfold nfo at h
 split at h
 ·split at h
  ·rename_i r hr
   cases h; rw [nfl_eq hr]
  ·cases h
 ·cases h; rfl
 ·cases h
theorem pick_trX {g g2:Gst}{r:Nat}{x2:AV}:∀ {ks:List Nat}{G1:List (Nat × AV)},pick (upd g r x2) ks=some G1->(∀ e∈G1,NR e.2)->TrX g g2 r x2 G1
 | [],_,h,_=>by cases h; exact .nil
 | k::ks,G1,h,hn=>by
  unfold pick at h
  split at h
  ·rename_i x hx
   split at h
   ·rename_i l hl
    cases h
    have ht:=pick_trX (g2:=g2) hl fun e he=>hn e (by simp [he])
    by_cases e:k=r
    ·subst e
     have e:x=x2:=by simpa [upd] using hx.symm
     subst e
     have:NRc x:=⟨hn (k,x) (by simp)⟩
     exact .b rfl ht
    ·have:NRc x:=⟨hn (k,x) (by simp)⟩
     exact .n (by rw [<- Bool.not_eq_true,Nat.beq_eq]; exact e) (by simpa [upd,e] using hx) ht
   ·cases h
  ·cases h
section
variable {P:Program}{N:Rm}{ops:Array Oper}{g:Gst}{K:Gst->Prop}{l:List Oper}{d r k0:Nat}{ty t:TypeId}{pos:String}{after:Array Edge}{a b x:Operand}{cs cs' cs2:List AV}{y:AV}{G2:List (Nat × AV)}{u:Option (Nat × Bool)}{p q:Place}
theorem Rd.zi {α:Type}{en:En α}{L:List α}{t:Nat}(h:g t=some (iR en L)):Rd g (.tmp t) (iR en L):=.imm h
theorem EO.sva (ks:List Nat) (ha:Rd g a (.ptr ⟨r,[]⟩ k0):=by (first | exact .obj rfl | exact .ptr rfl)) (hs:g r=some (.obj cs):=by rfl) (hb:Rd g b (.agg cs'):=by (first | exact .aggF rfl rfl | exact .kagg rfl)) (he:splo cs k0 cs'=some cs2:=by rfl) (hp:pick (upd g r (.obj cs2)) ks=some G2:=by rfl) (hz:sizeT P t cs'.length=true:=by kernel_rfl) (h0:Nat.blt 0 cs'.length=true:=by rfl) (hr:(get G2 r).isSome=true:=by rfl) [hn:NRl cs'] [hno:NRl cs] [hg:NRg G2]:EO P N g ⟨none,.store t a b,ty,pos,after,none⟩ (get G2) :=
 .sO rfl rfl hs ha hb rfl hz (Nat.ble_eq_true_of_le (splo_eq he).2) h0 (splo_eq he).1 hr (pick_trS hp hg.p)
theorem EO.sv1 (ks:List Nat) (ha:Rd g a (.ptr ⟨r,[]⟩ k0):=by (first | exact .ptr rfl | exact .obj rfl)) (hs:g r=some (.obj cs):=by rfl) (hb:Rd g b y:=by (first | exact .lit rfl | exact .k rfl | exact .zi rfl | exact .knil | exact .imm rfl)) (hc:cellsP y=some [y]:=by rfl) (he:splo cs k0 [y]=some cs2:=by rfl) (hp:pick (upd g r (.obj cs2)) ks=some G2:=by rfl) (hz:sizeT P t 1=true:=by kernel_rfl) (hr:(get G2 r).isSome=true:=by rfl) [hn:NRc y] [hno:NRl cs] [hg:NRg G2]:EO P N g ⟨none,.store t a b,ty,pos,after,none⟩ (get G2) :=
 .sO rfl rfl hs ha hb hc hz (Nat.ble_eq_true_of_le (splo_eq he).2) rfl (splo_eq he).1 hr (pick_trS hp hg.p)
theorem EO.ar {α:Type}{en:En α}{L:List α}(ks:List Nat) (hx:Rd g x (.brw en.z p L.length):=by (first | exact .own rfl | exact .brw rfl)) (hp:atP g p=some (oR en L):=by rfl) (hk:pick g ks=some G2:=by rfl) (hne:(ks.all fun k=>![p.root].elem k)=true:=by rfl) (hg:get G2 d=none:=by rfl) (hN:N.ok d=true:=by rfl) [hn:NRg G2]:EO P N g ⟨some d,.assign x,ty,pos,after,u⟩ (upd (get G2) d (oR en L)) :=
 .aR rfl rfl hx hp (pick_trK hk hne hn.p) hg hN
theorem EO.apq {α:Type}{en:En α}{L M:List α}{s:Nat}(ks:List Nat) (hx:Rd g x (.brw en.z ⟨s,[]⟩ (L.length+M.length)):=by exact .pend rfl) (hs:g s=some (.pend en.z q L.length M.length (rowc en M)):=by rfl) (hp:atP g q=some (oR en L):=by rfl) (hk:pick g ks=some G2:=by rfl) (hne:(ks.all fun k=>![s,q.root].elem k)=true:=by rfl) (hq:Nat.beq q.root s=false:=by rfl) (hg:get G2 d=none:=by rfl) (hN:N.ok d=true:=by rfl) [hn:NRg G2]:EO P N g ⟨some d,.assign x,ty,pos,after,u⟩ (upd (get G2) d (oR en (L++M))) :=
 .aP rfl rfl hx hs hp hq (pick_trK hk hne hn.p) hg hN
theorem EO.sp {α:Type}{en:En α}{L M:List α}{s:Nat}{cs1:List AV}(ks:List Nat) (hb:Rd g b (.brw en.z ⟨s,[]⟩ (L.length+M.length)):=by exact .pend rfl) (hps:g s=some (.pend en.z q L.length M.length (rowc en M)):=by rfl) (hp:atP g q=some (oR en L):=by rfl) (ha:Rd g a (.ptr ⟨r,[]⟩ k0):=by (first | exact .ptr rfl | exact .obj rfl)) (hs:setP (setP g ⟨s,[]⟩ .dead) q .dead r=some (.obj cs1):=by rfl) (he:splo cs1 k0 [oR en (L++M)]=some cs2:=by rfl) (hk:pick (upd (setP (setP g ⟨s,[]⟩ .dead) q .dead) r (.obj cs2)) ks=some G2:=by rfl) (hq:Nat.beq q.root s=false:=by rfl) (hz:sizeT P t 1=true:=by kernel_rfl) (hr:(get G2 r).isSome=true:=by rfl) [hno:NRl cs1] [hg:NRg G2]:EO P N g ⟨none,.store t a b,ty,pos,after,none⟩ (get G2) :=
 .stP rfl rfl ha hb hps hp hq .ns .rf rfl rfl hz hs (Nat.ble_eq_true_of_le (splo_eq he).2) (splo_eq he).1 hr (pick_trS hk hg.p)
theorem EO.sw {α:Type}{en:En α}{L:List α}{cs1:List AV}(ks:List Nat) (hb:Rd g b (.brw en.z p L.length):=by (first | exact .own rfl | exact .brw rfl)) (hp:atP g p=some (oR en L):=by rfl) (ha:Rd g a (.ptr ⟨r,[]⟩ k0):=by (first | exact .ptr rfl | exact .obj rfl)) (hs:setP g p .dead r=some (.obj cs1):=by rfl) (he:splo cs1 k0 [oR en L]=some cs2:=by rfl) (hk:pick (upd (setP g p .dead) r (.obj cs2)) ks=some G2:=by rfl) (hz:sizeT P t 1=true:=by kernel_rfl) (hr:(get G2 r).isSome=true:=by rfl) [hno:NRl cs1] [hg:NRg G2]:EO P N g ⟨none,.store t a b,ty,pos,after,none⟩ (get G2) :=
 .stB rfl rfl ha hb (.r hp .nil) .refl rfl hz hs (Nat.ble_eq_true_of_le (splo_eq he).2) rfl (splo_eq he).1 hr (pick_trS hk hg.p)
theorem EO.se {α:Type}{en:En α}{L:List α}{yy y2:α}{m:Int}{o:Nat}{x0 x2 y0:AV}(ks:List Nat) (h:idx L m=some yy) (ha:Rd g a (.ptr p (m.toNat * en.z+o)):=by exact .ptr rfl) (hp:atP g p=some (oR en L):=by rfl) (hb:Rd g b y:=by (first | exact .lit rfl | exact .k rfl | exact .zi rfl | exact .knil | exact .imm rfl | exact .aggF rfl rfl)) (hc:cellsP y=some cs':=by rfl) (he:splice (en.cells yy) o cs'=en.cells y2:=by rfl) (hx0:setP g p (oR en (L.set m.toNat y2)) p.root=some x0:=by rfl) (hx2:nfo x0=some x2:=by rfl) (hk:pick (upd g p.root x2) ks=some G2:=by rfl) (hz:sizeT P t cs'.length=true:=by kernel_rfl) (hlen:Nat.ble (o+cs'.length) en.z=true:=by rfl) (h0:Nat.blt 0 cs'.length=true:=by rfl) (hr:(get G2 p.root).isSome=true:=by rfl) (hy0:g p.root=some y0:=by rfl) [hn:NRc y] [hno:NRc y0] [hg:NRg G2]:EO P N g ⟨none,.store t a b,ty,pos,after,none⟩ (get G2) :=
 .stE rfl rfl ha hb hp h hz hc he hlen h0 (by rw [hx0,nfo_eq hx2]) hr hy0 (pick_trX hk hg.p)
theorem RunL.f' {o:Oper}(he:EO P N g o (get G2)) (hk:RunL P N ops l (get G2) K) (hg:o.guard=none:=by rfl):RunL P N ops (o::l) g K:=.ef hg he hk
theorem RunL.a' {o:Oper}(he:EO P N g o (upd (get G2) d y)) (hk:RunL P N ops l (upd (get G2) d y) K) (hg:o.guard=none:=by rfl):RunL P N ops (o::l) g K:=.ea hg he hk
end
section
variable {S R:Type}{P:Program}{N:Rm}{A B c:Code}{G:List (Nat × AV)}{Φ:Exit->Gst->Prop}{id:Nat}
theorem W.jq {G1:List (Nat × AV)}(ks:List Nat) (L:List (Nat × AV)) (h:W P N c (get G) fun e g=>e=.normal/\Be g G1) (hk:Px .normal Φ G1) (hp:pick (get (L++G)) ks=some G1:=by rfl):W P N c (get G) Φ:=W.jn _ h hk
theorem W.rz {G1:List (Nat × AV)}{l:List Oper}(ks:List Nat) (L:List (Nat × AV)) (h:RunL P N l.toArray l (get G) fun g'=>Wk g' (get G1)) (hk:W P N B (get G1) Φ) (hp:pick (get (L++G)) ks=some G1:=by rfl):W P N (.seq (.region id l.toArray false) B) (get G) Φ:=W.rs _ h hk
theorem W.l1 {f:S->Option (S ⊕ R)}{r:R}{F':S->List (Nat × AV)}{X':R->List (Nat × AV)}(s:S) (F:S->List (Nat × AV)) (ks:List Nat) (id:Nat) (X:R->List (Nat × AV)) (kx:List Nat) (h:loopM f s=some r) (hb:∀ s o,f s=some o->W P N c (get (F' s)) (Rd2 F' (fun r e g=>e=.exit id/\Be g (X' r)) o)) (hk:Px (.exit id) Φ (X' r))
  (hF:∀ s,pick (get (F s++G)) ks=some (F' s):=by intro s; rfl) (hX:∀ s,pick (get (X s++G)) kx=some (X' s):=by intro s; rfl) (ht:Trim true (get G) (get (F' s)) (F' s):=by (repeat' first | exact .nil | refine .n rfl ?_ | refine .w rfl rfl .nilOwn ?_ | refine .w rfl rfl .nilImm ?_ | refine .w rfl rfl (WkL.obj (by (repeat' first | exact .nil | refine .f ?_ | refine .o ?_ | refine .i ?_))) ?_)):W P N (.loop c) (get G) Φ :=
 W.tr ht (W.lp1 F' id X' h hb hk)
theorem W.l2 {R2:Type}{f:S->Option (S ⊕ (R ⊕ R2))}{r:R ⊕ R2}{F':S->List (Nat × AV)}{X':R->List (Nat × AV)}{Y':R2->List (Nat × AV)}(s:S) (F:S->List (Nat × AV)) (ks:List Nat) (id:Nat) (X:R->List (Nat × AV)) (kx:List Nat) (Y:R2->List (Nat × AV)) (ky:List Nat) (h:loopM f s=some r)
  (hb:∀ s o,f s=some o->W P N c (get (F' s)) (Rd2 F' (fun (r:R ⊕ R2) e g=>match r with | .inl r=>e=.exit id/\Be g (X' r) | .inr r=>e=.ret/\Be g (Y' r)) o))
  (hx:∀ x,r=.inl x->Px (.exit id) Φ (X' x)) (hr:∀ x,r=.inr x->Px .ret Φ (Y' x))
  (hF:∀ s,pick (get (F s++G)) ks=some (F' s):=by intro s; rfl) (hX:∀ s,pick (get (X s++G)) kx=some (X' s):=by intro s; rfl) (hY:∀ s,pick (get (Y s++G)) ky=some (Y' s):=by intro s; rfl) (ht:Trim true (get G) (get (F' s)) (F' s):=by (repeat' first | exact .nil | refine .n rfl ?_ | refine .w rfl rfl .nilOwn ?_ | refine .w rfl rfl .nilImm ?_ | refine .w rfl rfl (WkL.obj (by (repeat' first | exact .nil | refine .f ?_ | refine .o ?_ | refine .i ?_))) ?_)):W P N (.loop c) (get G) Φ :=
 W.tr ht (W.lp2 F' id X' Y' h hb hx hr)
end
end Go.Own
namespace Go.Own
open Go
set_option linter.unusedSectionVars false
variable [TB]
set_option linter.unusedVariables false
inductive HT:Type 1
 | e
 | b (x y:HT)
 | lp {S R:Type}(F:S->List (Nat × AV)) (ks:List Nat) (id:Nat) (X:R->List (Nat × AV)) (kx:List Nat) (x y:HT)
 | l2 {S R R2:Type}(F:S->List (Nat × AV)) (ks:List Nat) (id:Nat) (X:R->List (Nat × AV)) (kx:List Nat) (Y:R2->List (Nat × AV)) (ky:List Nat) (x y z:HT)
 | jn {α:Type}(ks:List Nat) (L:α->List (Nat × AV)) (x y:HT)
 | rj {α:Type}(id:Nat) (ks:List Nat) (L:α->List (Nat × AV)) (y:HT)
 | rd (id:Nat) (AT:List (List Nat)) (y:HT)
 | rk {α:Type}(id:Nat) (AT:List (List Nat)) (ks:List Nat) (L:α->List (Nat × AV)) (y:HT)
 | p (y:HT)
 | fz {α:Type}(id s:Nat) (i:Option Nat) (en:En α) (y:HT)
 | fl {α:Type}(s:Nat) (i:Option Nat) (en:En α) (y:HT)
def keepB:AV->Bool
 | .lit _ | .nils | .imm .. | .own .. | .obj _ | .iptr _ | .clo .. | .mp _ | .imp _=>true
 | .agg cs=>cs.all fun x=>match x with | .ptr .. | .brw .. | .sub .. | .mref _ | .pend .. | .dead=>false | _=>true
 | _=>false
def ksX (ex:List Nat):List (Nat × AV)->Option (List Nat)
 | []=>some []
 | (k,x)::l=>match ksX (k::ex) l with
  | none=>none
  | some r=>match !ex.elem k&&keepB x with
   | true=>some (k::r)
   | false=>some r
def ksE (E ex:List Nat):List (Nat × AV)->Option (List Nat)
 | []=>some []
 | (k,x)::l=>match ksE E (k::ex) l with
  | none=>none
  | some r=>match E.elem k&&(!ex.elem k&&keepB x) with
   | true=>some (k::r)
   | false=>some r
def roots (G:List (Nat × AV)):Operand->List Nat
 | .tmp s=>match get G s with
  | some (.own ..)=>[s]
  | some (.obj _)=>[s]
  | some (.brw _ p _)=>[s,p.root]
  | some (.ptr p _)=>[s,p.root]
  | some (.pend _ q _ _ _)=>match get G q.root with
   | some (.pend _ q2 _ _ _)=>[s,q.root,q2.root]
   | _=>[s,q.root]
  | _=>[s]
 | _=>[]
def ovC (F:List (Nat × AV)) (s:Nat):Nat->List AV->Option (List AV)
 | _,[]=>some []
 | i,x::l=>match ovC F s (i+1) l with
  | none=>none
  | some r=>match get F (1000 * (i+1)+s) with
   | some y=>some (y::r)
   | none=>some (x::r)
def ov (F G:List (Nat × AV)):Gst:=fun s=>match get F s with
 | some x=>some x
 | none=>match get G s with
  | some (.obj cs)=>match ovC F s 0 cs with
   | some r=>some (.obj r)
   | none=>none
  | x=>x
def WH (E:List Nat) (t:HT) (P:Program) (N:Rm) (c:Code) (G:List (Nat × AV)) (Φ:Exit->Gst->Prop):Prop:=W P N c (get G) Φ
def PH (E:List Nat) (t:HT) (e:Exit) (Φ:Exit->Gst->Prop) (G:List (Nat × AV)):Prop:=Px e Φ G
def Kc (E:List Nat) (t:HT) (Ψ:HT->List (Nat × AV)->Prop) (g':Gst):Prop:=∃ G1,Wk g' (get G1)/\Ψ t G1
def Jn {α:Type}(F:α->List (Nat × AV)) (j:α) (e:Exit) (g:Gst):Prop:=e=.normal/\Be g (F j)
def Lx {R:Type}(id:Nat) (X:R->List (Nat × AV)) (r:R) (e:Exit) (g:Gst):Prop:=e=.exit id/\Be g (X r)
def Ly {R R2:Type}(id:Nat) (X:R->List (Nat × AV)) (Y:R2->List (Nat × AV)) (r:R ⊕ R2) (e:Exit) (g:Gst):Prop:=match r with | .inl r=>e=.exit id/\Be g (X r) | .inr r=>e=.ret/\Be g (Y r)
class CF (P:Program) (f:FuncId) (p:Prop) (args:outParam (List AV)) (outs:outParam (List (Option AV))) (res:outParam AV):Prop where go:p->Con P f args outs res
section
variable {P:Program}{N:Rm}{E:List Nat}{t x y z:HT}{A B c:Code}{G G1:List (Nat × AV)}{Φ Φ':Exit->Gst->Prop}{Ψ:Gst->Prop}{id k s:Nat}{b:Bool}{α β:Type}{l:List Oper}
theorem WH.rg (h:RunL P N l.toArray l (get G) (Kc E t fun t G1=>WH E t P N B G1 Φ)):WH E t P N (.seq (.region id l.toArray false) B) G Φ :=
 W.seq (W.reg fun i hi=>by
  obtain ⟨g',h1,G1,h2,h3⟩:=h i hi
  exact ⟨g',h1,W.weaken h2 h3⟩)
theorem WH.rt (h:RunL P N l.toArray l (get G) (Kc E t fun t G1=>PH E t .normal Φ G1)):WH E t P N (.region id l.toArray false) G Φ :=
 W.reg fun i hi=>by
  obtain ⟨g',h1,G1,h2,h3⟩:=h i hi
  exact ⟨g',h1,h3 g' (.wk h2 .rf)⟩
theorem WH.sq (h:WH E t P N A G (thenP (fun g1=>W P N B g1 Φ) Φ)):WH E t P N (.seq A B) G Φ:=W.seq h
theorem WH.bk (h:WH E t P N A G (inB id Φ)):WH E t P N (.block id A) G Φ:=W.bk h
theorem WH.bp (h:WH E t P N A G (inB id Φ)):WH E (.p t) P N (.block id A) G Φ:=W.bk h
theorem WH.sk (h:PH E t .normal Φ G):WH E t P N .skip G Φ:=W.sk h
theorem WH.xi (h:PH E t (.exit k) Φ G):WH E t P N (.exit k) G Φ:=W.xi h
theorem WH.re (h:PH E t .ret Φ G):WH E t P N .ret G Φ:=W.rt h
theorem WH.ch {X Y o:α}(h:(bif b then X else Y)=o) (hT:b=true->X=o->WH E x P N A G Φ) (hF:b=false->Y=o->WH E y P N B G Φ) (hc:get G s=some (BB b):=by rfl):WH E (.b x y) P N (.cond (.tmp s) A B) G Φ:=W.ch h hc hT hF
theorem WH.ce {X Y o:α}(h:(bif b then X else Y)=o) (hT:b=true->X=o->WH E .e P N A G Φ) (hF:b=false->Y=o->WH E .e P N B G Φ) (hc:get G s=some (BB b):=by rfl):WH E .e P N (.cond (.tmp s) A B) G Φ:=W.ch h hc hT hF
theorem WH.cT (h:WH E t P N A G Φ) (hc:get G s=some (BB b):=by rfl) (hb:b=true:=by (first | rfl | assumption)):WH E t P N (.cond (.tmp s) A B) G Φ:=W.cnd hc (fun _=>h) (fun e=>by rw [hb] at e; cases e)
theorem WH.cF (h:WH E t P N B G Φ) (hc:get G s=some (BB b):=by rfl) (hb:b=false:=by (first | rfl | assumption)):WH E t P N (.cond (.tmp s) A B) G Φ:=W.cnd hc (fun e=>by rw [hb] at e; cases e) (fun _=>h)
theorem WH.jc {o:Operand}{m:Option α}{f:α->Option β}{r:β}{ks:List Nat}{L F':α->List (Nat × AV)}(h:m.bind f=some r) (h1:∀ j,m=some j->WH E x P N (.cond o A B) G (Jn F' j)) (h2:∀ j,m=some j->f j=some r->PH E y .normal Φ (F' j))
  (hF:∀ j,pick (ov (L j) G) ks=some (F' j):=by intro j; rfl):WH E (.jn ks L x y) P N (.cond o A B) G Φ:=by
 obtain ⟨j,hj,h⟩:=bnd h
 exact W.jn _ (h1 j hj) (h2 j hj h)
theorem WH.jb {m:Option α}{f:α->Option β}{r:β}{ks:List Nat}{L F':α->List (Nat × AV)}(h:m.bind f=some r) (h1:∀ j,m=some j->WH E x P N (.block id A) G (Jn F' j)) (h2:∀ j,m=some j->f j=some r->PH E y .normal Φ (F' j))
  (hF:∀ j,pick (ov (L j) G) ks=some (F' j):=by intro j; rfl):WH E (.jn ks L x y) P N (.block id A) G Φ:=by
 obtain ⟨j,hj,h⟩:=bnd h
 exact W.jn _ (h1 j hj) (h2 j hj h)
theorem WH.lp {S R:Type}{f:S->Option (S ⊕ R)}{s:S}{g:R->Option β}{r:β}{F F':S->List (Nat × AV)}{ks kx:List Nat}{X X':R->List (Nat × AV)}(h:(loopM f s).bind g=some r)
  (hb:∀ s o,f s=some o->WH E x P N c (F' s) (Rd2 F' (Lx id X') o)) (hk:∀ r',loopM f s=some r'->g r'=some r->PH E y (.exit id) Φ (X' r'))
  (hF:∀ s,pick (ov (F s) G) ks=some (F' s):=by intro s; rfl) (hX:∀ s,pick (ov (X s) G) kx=some (X' s):=by intro s; rfl) (ht:Trim true (get G) (get (F' s)) (F' s):=by (repeat' first | exact .nil | refine .n rfl ?_ | refine .w rfl rfl .nilOwn ?_ | refine .w rfl rfl .nilImm ?_ | refine .w rfl rfl (WkL.obj (by (repeat' first | exact .nil | refine .f ?_ | refine .o ?_ | refine .i ?_))) ?_)) :
  WH E (.lp F ks id X kx x y) P N (.loop c) G Φ:=by
 obtain ⟨r',hl,h⟩:=bnd h
 exact W.tr ht (W.lp1 F' id X' hl hb (hk r' hl h))
theorem PH.sq (h:WH E t P N B G Φ):PH E t .normal (thenP (fun g1=>W P N B g1 Φ) Φ') G:=Px.sq h
theorem PH.sqE (h:PH E t (.exit k) Φ G):PH E t (.exit k) (thenP Ψ Φ) G:=Px.sqE h
theorem PH.sqR (h:PH E t .ret Φ G):PH E t .ret (thenP Ψ Φ) G:=Px.sqR h
theorem PH.bk (h:PH E t .normal Φ G):PH E t .normal (inB id Φ) G:=Px.bk h
theorem PH.bkH (h:PH E t .normal Φ G):PH E t (.exit id) (inB id Φ) G:=Px.bkH h
theorem PH.bkM (h:PH E t (.exit k) Φ G) (hk:Nat.beq k id=false:=by rfl):PH E t (.exit k) (inB id Φ) G:=Px.bkM hk h
theorem PH.bkR (h:PH E t .ret Φ G):PH E t .ret (inB id Φ) G:=Px.bkR h
theorem PH.jn {F:α->List (Nat × AV)}{j v:α}(h:some v=some j) (ht:Trim true (get G) (get (F v)) (F v)):PH E t .normal (Jn F j) G:=by
 cases h; exact Px.jn ht
theorem PH.go {S R:Type}{s:S}{o:S ⊕ R}{F:S->List (Nat × AV)}{Ψ:R->Exit->Gst->Prop}(h:some (.inl s)=some o) (ht:Trim true (get G) (get (F s)) (F s)):PH E t .normal (Rd2 F Ψ o) G:=by
 cases h; exact Px.go ht
theorem PH.x1 {S R:Type}{r:R}{o:S ⊕ R}{F:S->List (Nat × AV)}{X:R->List (Nat × AV)}(h:some (.inr r)=some o) (ht:Trim true (get G) (get (X r)) (X r)):PH E t (.exit id) (Rd2 F (Lx id X) o) G:=by
 cases h; exact Px.x1 ht
variable {ops:Array Oper}{K:Gst->Prop}{d:Nat}{op:Op}{ty:TypeId}{pos:String}{after:Array Edge}{v v2:AV}{ks:List Nat}{g:Gst}{j s':Nat}{cc:Bool}
theorem getc {G:List (Nat × AV)}{d:Nat}{v:AV}:upd (get G) d v=get ((d,v)::G):=get_cons.symm
theorem Vq (hp:PS P (get G) op ty v) (hk:RunL P N ops l (get ((d,v)::G)) K) (hN:N.ok d=true:=by rfl) (hf:get G d=none:=by rfl):RunL P N ops (⟨some d,op,ty,pos,after,none⟩::l) (get G) K:=Rv hp (getc ▸ hk) hN hf
theorem Vo (hk0:ksX [d] G=some ks) (hg:pick (get G) ks=some G1) [hn:NRg G1] (hp:PS P (get G1) op ty v) (hk:RunL P N ops l (get ((d,v)::G1)) K) (hN:N.ok d=true:=by rfl) (hf:get G1 d=none:=by rfl):RunL P N ops (⟨some d,op,ty,pos,after,none⟩::l) (get G) K:=RunL.rk ks hg (Rv hp (getc ▸ hk) hN hf)
theorem Vc (hp:PC P (get G) op v) (hk:RunL P N ops l (get ((d,v)::G)) K) (hN:N.ok d=true:=by rfl) (hf:get G d=none:=by rfl):RunL P N ops (⟨some d,op,ty,pos,after,none⟩::l) (get G) K:=Rc hp (getc ▸ hk) hN hf
theorem Gy (hp:PS P (get G) op ty v) (hk:RunL P N ops l (get ((d,v)::G)) K) (h:(ops[j]?).bind (·.dst)=some s':=by rfl) (hg:get G s'=some (.lit (.bool cc)):=by rfl) (hb:cc=b:=by (first | rfl | assumption)) (hN:N.ok d=true:=by rfl) (hf:get G d=none:=by rfl):RunL P N ops (⟨some d,op,ty,pos,after,some (j,b)⟩::l) (get G) K:=.v hp hN hf (.yb h hg hb) (getc ▸ hk)
theorem Gc (hp:PC P (get G) op v) (hk:RunL P N ops l (get ((d,v)::G)) K) (h:(ops[j]?).bind (·.dst)=some s':=by rfl) (hg:get G s'=some (.lit (.bool cc)):=by rfl) (hb:cc=b:=by (first | rfl | assumption)) (hN:N.ok d=true:=by rfl) (hf:get G d=none:=by rfl):RunL P N ops (⟨some d,op,ty,pos,after,some (j,b)⟩::l) (get G) K:=.c hp hN hf (.yb h hg hb) (getc ▸ hk)
theorem Gs (hk:RunL P N ops l (get ((d,.tup [])::G)) K) (h:(ops[j]?).bind (·.dst)=some s':=by rfl) (hg:get G s'=some (.lit (.bool cc)):=by rfl) (hb:cc=!b:=by (first | rfl | assumption)) (hN:N.ok d=true:=by rfl) (hf:get G d=none:=by rfl):RunL P N ops (⟨some d,op,ty,pos,after,some (j,b)⟩::l) (get G) K:=.ps h hg hb hN hf (getc ▸ hk)
theorem Gu (hk:RunL P N ops l (get ((d,.tup [])::G)) K) (h:(ops[j]?).bind (·.dst)=some s':=by rfl) (hg:get G s'=some (.tup []):=by rfl) (hN:N.ok d=true:=by rfl) (hf:get G d=none:=by rfl):RunL P N ops (⟨some d,op,ty,pos,after,some (j,b)⟩::l) (get G) K:=.pu h hg hN hf (getc ▸ hk)
theorem cdS {p:Prop}{X Y o:α}(h:(bif b then X else Y)=o) (hT:b=true->X=o->p) (hF:b=false->Y=o->p):p:=by
 cases b
 ·exact hF rfl h
 ·exact hT rfl h
theorem Fq {ΨK:HT->List (Nat × AV)->Prop}(hk0:ksE E [] G=some ks) (hp:pick (get G) ks=some G1) [hn:NRg G1] (hk:ΨK t G1):RunL P N ops [] (get G) (Kc E t ΨK):=.nil ⟨G1,(pick_trim (c:=true) (g2:=get G1) hp hn.p).wk,hk⟩
theorem WH.rj {m:Option α}{f:α->Option β}{r:β}{ks:List Nat}{L F':α->List (Nat × AV)}(h:m.bind f=some r) (h1:∀ j,m=some j->RunL P N l.toArray l (get G) (Jn F' j .normal)) (h2:∀ j,m=some j->f j=some r->WH E y P N B (F' j) Φ)
  (hF:∀ j,pick (ov (L j) G) ks=some (F' j):=by intro j; rfl):WH E (.rj id ks L y) P N (.seq (.region id l.toArray false) B) G Φ:=by
 obtain ⟨j,hj,h⟩:=bnd h
 exact W.seq (W.reg fun i hi=>by
  obtain ⟨g',e1,_,e3⟩:=h1 j hj i hi
  exact ⟨g',e1,W.be (h2 j hj h) e3⟩)
theorem Fj {F:α->List (Nat × AV)}{j v:α}(h:some v=some j) (ht:Trim true (get G) (get (F v)) (F v)):RunL P N ops [] (get G) (Jn F j .normal):=by
 cases h; exact .nil ⟨rfl,.wk ht.wk .rf⟩
end
end Go.Own
namespace Go.Own
open Go Go.Lib
set_option linter.unusedSectionVars false
variable [TB]
section
variable {P:Program}{w:World}
theorem run_appS (t u ty e:TypeId) (i:TypeInfo) (ht:P.underlying t=some (.slice e)) (hu:P.underlying u=some .string) (hi:P.info? e=some i) (hz:i.zero=some (.int .u8 0)) (hsize:i.size=1) (hby:i.bytes=1)
  {bv:Value}{n:Nat}{us:List Value}(hob:w.ownsRow 0 e 1 bv n us) (s:ByteArray) (h63:n+s.size<=maxLen) (hbytes:n+s.size<=140737488355328) :
  ∃ v' w',(Builtin.append_ #[t,u] ty #[bv,.string s]).run P w=.ok v' w'/\AppRun w w' bv v' e e 1 n s.size us (strCells s):=by
 have hus:us.length=n:=by simpa using hob.1
 have hl:=strCells_length s
 have hsmall:n+s.size<=9223372036854775807:=by simp only [maxLen] at h63; omega
 have hlen:(us++strCells s).length=(n+s.size) * 1:=by rw [List.length_append,hus,hl,Nat.mul_one]
 have hf:=fun w=>run_firstCells_string (P:=P) w 1 s
 by_cases hm:s.size=0
 ·have hn:strCells s=[]:=List.eq_nil_of_length_eq_zero (by rw [hl,hm])
  refine ⟨bv,w,?_,.same hob (fun _ _=>rfl) (Nat.le_refl _) rfl rfl rfl (by simpa [hm,hn] using hob) (fun c hc=>.inl hc) fun _=>rfl⟩
  have hf':=hf w
  rw [hm] at hf'
  obtain ⟨_,hh⟩:=hob
  rcases hh with ⟨rfl,rfl⟩ | ⟨b,cap,cur,rfl,_,hg,hle,_⟩
  ·simp [Builtin.append_,run_underlying ht,run_underlying hu,sizeOf,typeInfo,hi,hsize,Builtin.lenOf,hm,hf']
  ·simp [Builtin.append_,run_underlying ht,run_underlying hu,sizeOf,typeInfo,hi,hsize,Builtin.lenOf,hm,hf',hn,hle,storeCells]
 have grown:∀ old:Nat,old<n+s.size ->
   (w.drew.alloc (.cells (us.toArray++(strCells s).toArray++Builtin.zeroCells (Value.int .u8 0).cells (grownCap w (n+s.size) old e - (n+s.size))) e)).ownsRow 0 e 1
    (.slice (some ⟨w.heap.size,0,none⟩) (n+s.size) (grownCap w (n+s.size) old e)) (n+s.size) (us++strCells s):=by
  intro old ho
  refine ⟨hlen,.inr ⟨w.heap.size,_,_,rfl,Nat.zero_le _,alloc_new w.drew _,grownCap_ge w (n+s.size) old e,grownCap_le_maxLen w (n+s.size) old e h63,?_,?_⟩⟩
  ·have hge:=grownCap_ge w (n+s.size) old e
   have hz1:(Value.int IntKind.u8 0).cells.size=1:=rfl
   simp only [Array.size_append,List.size_toArray,size_zeroCells,hz1,hus,hl]
   omega
  ·simp only [Array.toList_append,List.append_assoc]
   rw [<- List.append_assoc,<- hlen]
   exact List.take_left
 have hob0:=hob
 obtain ⟨_,hh⟩:=hob
 rcases hh with ⟨rfl,rfl⟩ | ⟨b,cap,cur,rfl,_,hg,hle,hcm,hcs,htake⟩
 ·have hx:us=[]:=List.eq_nil_of_length_eq_zero hus
  subst hx
  have hr:=run_append_nil_string (P:=P) w t u ty e i (.int .u8 0) ht hu hi hz s (by omega) (by omega) (by rw [hby]; omega)
  have hgr:=grown 0 (by omega)
  simp only [Nat.zero_add,List.nil_append,Array.empty_append] at hgr ⊢
  have e1:(s.data.map fun b=>Value.int .u8 b.toNat)=(strCells s).toArray:=by
   apply Array.ext'
   simp [strCells]
  rw [e1] at hr
  exact ⟨_,_,hr,.same hob0 (fun c hc=>alloc_old w.drew _ c hc) (by simp) rfl rfl rfl (by simpa using hgr) (fun c hc=>.inr (by simp [Value.ownBlock] at hc; omega)) (fun a=>fz_alloc w.drew _ _ a)⟩
 ·have hcs':cur.size=cap:=by simpa using hcs
  have htk':cur.toList.take n=us:=by simpa using htake
  by_cases hroom:n+s.size<=cap
  ·have hst:=run_storeCells_at P b n e (strCells s) 0 cur w hg (by rw [hl]; omega) (strCells_oneCell s)
   simp only [Nat.add_zero,hl] at hst
   have hr:(Builtin.append_ #[t,u] ty #[.slice (some ⟨b,0,none⟩) n cap,.string s]).run P w =
     .ok (.slice (some ⟨b,0,none⟩) (n+s.size) cap) (w.setRow b (cur.toList.take n++strCells s++cur.toList.drop (n+s.size)).toArray):=by
    simp [Builtin.append_,run_underlying ht,run_underlying hu,sizeOf,typeInfo,hi,hsize,Builtin.lenOf,hroom,hf,Addr.add_lit,hst]
   have hsz:(cur.toList.take n++strCells s++cur.toList.drop (n+s.size)).toArray.size=cur.size:=by
    simp only [List.size_toArray,List.length_append,List.length_take,List.length_drop,Array.length_toList,hl]
    omega
   have htk:(cur.toList.take n++strCells s++cur.toList.drop (n+s.size)).take (n * 1)=cur.toList.take (n * 1):=by
    rw [List.append_assoc,Nat.mul_one]
    exact List.take_left' (by simp; omega)
   refine ⟨_,_,hr,⟨⟨by rw [hus,Nat.mul_one],.inr ⟨b,cap,_,rfl,Nat.zero_le _,setRow_heap w b cur _ e _ hg,hle,hcm,hsz.trans hcs,?_⟩⟩,⟨hlen,.inr ⟨b,cap,_,rfl,Nat.zero_le _,setRow_heap w b cur _ e _ hg,hroom,hcm,hsz.trans hcs,?_⟩⟩,
    ⟨rfl,rfl,rfl,by simp,fun k _ hk=>setRow_other w b k _ (fun e=>hk (by simp [Value.ownBlock,e])),fun a _ _=>fz_setRow w b _ a,Nat.le_refl _⟩,fun c hc=>.inl hc,fun c hc=>?_⟩⟩
   ·rw [<- htake]; exact htk
   ·rw [htk',<- hlen]
    exact List.take_left
   ·simp only [Value.ownBlock,Option.some.injEq] at hc
    subst hc
    exact ⟨cur,_,hg,setRow_heap w b cur _ e _ hg,hsz,htk⟩
  ·have holds:∀ (j:Nat) (u:Value),us[j]?=some u->w.cell? ((⟨b,0,none⟩:Addr).add j)=some u:=hob0.cells (g:=b) rfl
   have hr:=run_append_grow_string (P:=P) w t u ty e i (.int .u8 0) ht hu hi hz ⟨b,0,none⟩ n cap us (by rw [hsize]; simpa using hus) holds s (by omega) (by omega) (by rw [hby]; exact growslice_fits (by omega) (by omega))
   have hgr:=grown cap (by omega)
   exact ⟨_,_,hr,.same hob0 (fun c hc=>alloc_old w.drew _ c hc) (by simp) rfl rfl rfl hgr (fun c hc=>.inr (by simp [Value.ownBlock] at hc; omega)) (fun a=>fz_alloc w.drew _ _ a)⟩
theorem wpList_appS {ops:Array Oper}{rest:List Oper}{o:Oper}{a:Act}{Q:Exit->Act->World->Prop}(hgd:o.guard=none) (sl x:Operand) (t u:TypeId)
  (ho:o.op=.call { callee:=.builtin .append,args:=#[sl,x],argTypes:=#[t,u] }) 
  (e:TypeId) (i:TypeInfo) (ht:P.underlying t=some (.slice e)) (hu:P.underlying u=some .string) (hi:P.info? e=some i) (hz:i.zero=some (.int .u8 0)) (hsize:i.size=1) (hby:i.bytes=1)
  (v:Value) (n:Nat) (xs:List Value) (hs:a.eval sl=v) (hown:w.ownsRow 0 e 1 v n xs) (s:ByteArray) (hx:a.eval x=.string s) (h63:n+s.size<=maxLen) (hbytes:n+s.size<=140737488355328)
  (h:∀ v' w',AppRun w w' v v' e e 1 n s.size xs (strCells s)->wpList P ops Q rest (a.put o.dst v') w'):wpList P ops Q (o::rest) a w:=by
 refine wpList_plain hgd fun K hK=>?_
 obtain ⟨v',w',hr,h2⟩:=run_appS (P:=P) (w:=w) t u o.type e i ht hu hi hz hsize hby hown s h63 hbytes
 unfold Oper.wp execOp
 simp only [ho,resolve,invoke,builtin,Sem.run_bind,Sem.run_pure,Result.andThen_ok,List.map_toArray,List.map_cons,List.map_nil,hs,hx,hr]
 exact hK _ _ (h v' w' h2)
end
end Go.Own
namespace Go.Proofs
open Go.Shelf Go.RowKit Go.Own
set_option linter.unusedSectionVars false
variable [TB]
variable {P:Program}{ρ:Ren}
structure BWrote (t:TypeId) (w w':World) (b k:Nat) (e:TypeId) (arr:Array Value) (v:Value) (n m:Nat) (us news:List Value):Prop where
 fr:Fr w w' (fun c=>c=b\/v.ownBlock=some c)
 row:∃ v',w'.ownsRow 0 t 1 v' (n+m) (us++news)/\w'.heap[b]?=some (.cells ((arr.setIfInBounds k (.pointer (some ⟨b,k,none⟩))).setIfInBounds (k+1) v') e (0,0))/\v'.ownBlock≠some b/\(∀ c,v'.ownBlock=some c->v.ownBlock=some c\/w.heap.size<=c)
set_option maxHeartbeats 1000000 in
set_option maxRecDepth 100000 in
theorem bcu (L:Lays.n240 P ρ) (X:Builder.X72 P ρ) (b k:Nat) (w:World) (h0:w.cell? ⟨b,k,none⟩=some (.pointer (some ⟨b,k,none⟩))) :
  Calls P (ρ.f 240) #[.pointer (some ⟨b,k,none⟩)] w fun e w'=>e=.returned (.tuple #[])/\w'=w:=by
 obtain ⟨j,hj,_⟩:=Option.map_eq_some_iff.1 X.sizeBuilder
 have mixed:=L.mixed
 have t72:=L.t72; have a72:=L.a72; have z72:=L.z72; have v72:=L.v72; have u72:=run_underlying L.t72
 have t70:=L.t70; have a70:=L.a70; have z70:=L.z70; have v70:=L.v70; have u70:=run_underlying L.t70
 have t9:=L.t9; have a9:=L.a9; have z9:=L.z9; have v9:=L.v9; have u9:=run_underlying L.t9
 have t4:=L.t4; have a4:=L.a4; have z4:=L.z4; have v4:=L.v4; have u4:=run_underlying L.t4
 have t164:=L.t164; have a164:=L.a164; have z164:=L.z164; have v164:=L.v164; have u164:=run_underlying L.t164
 go_enter L.f240,Body.n240_ntmps ρ
 go_wp2
 rw [Lib.run_neq_ptr_same w _ L.t70 hj]
 go_wp2
 go_end0
 exact ⟨rfl,rfl⟩
set_option maxHeartbeats 2000000 in
set_option maxRecDepth 100000 in
theorem bcc (L:Lays.n240 P ρ) (X:Builder.X72 P ρ) {b k:Nat}{arr:Array Value}{e:TypeId}{p:Value}(w:World)
  (hb:w.heap[b]?=some (.cells arr e (0,0))) (h0:arr[k]?=some p) (hp:(p=.pointer none/\liesAt P P.depth e (arr.size / P.cellsOf e) k (ρ.t 72) 1=true)\/p=.pointer (some ⟨b,k,none⟩)) :
  Calls P (ρ.f 240) #[.pointer (some ⟨b,k,none⟩)] w fun e' w'=>e'=.returned (.tuple #[])/\Fr w w' (fun c=>c=b)/\w'.heap[b]?=some (.cells (arr.setIfInBounds k (.pointer (some ⟨b,k,none⟩))) e (0,0)):=by
 obtain ⟨j,hj,hjs⟩:=Option.map_eq_some_iff.1 X.sizeBuilder
 have mixed:=L.mixed
 have t72:=L.t72; have a72:=L.a72; have z72:=L.z72; have v72:=L.v72; have u72:=run_underlying L.t72
 have t70:=L.t70; have a70:=L.a70; have z70:=L.z70; have v70:=L.v70; have u70:=run_underlying L.t70
 have t9:=L.t9; have a9:=L.a9; have z9:=L.z9; have v9:=L.v9; have u9:=run_underlying L.t9
 have t4:=L.t4; have a4:=L.a4; have z4:=L.z4; have v4:=L.v4; have u4:=run_underlying L.t4
 have t164:=L.t164; have a164:=L.a164; have z164:=L.z164; have v164:=L.v164; have u164:=run_underlying L.t164
 have hk:k<arr.size:=(Array.getElem?_eq_some_iff.1 h0).1
 have hc0:w.cell? ⟨b,k,none⟩=some p:=by rw [Lib.cell_of_heap hb]; exact h0
 have hfz:w.frozen? ⟨b,k,none⟩=false:=Lib.frozen_of_heap hb k
 have hsh:w.shape? b=some (e,arr.size):=by simp [World.shape?,hb]
 rcases hp with ⟨rfl,hl⟩ | rfl
 ·go_enter L.f240,Body.n240_ntmps ρ
  go_wp2
  rw [Lib.run_to_unsafe w ⟨b,k,none⟩ L.t70 L.t164 hj (by rw [hjs]; decide) hsh hk]
  simp only [Result.andThen]
  rw [Oper.upon_value]
  go_wp2
  rw [run_callFunc_extern L.f276 (by kernel_rfl) (by kernel_rfl) (by kernel_rfl) (e:=Extern.AbiNoEscape.same) (by kernel_rfl)]
  rw [Lib.run_noEscape]
  simp only [Result.andThen]
  rw [Oper.upon_value]
  go_wp2
  rw [Lib.run_from_unsafe w ⟨b,k,none⟩ L.t164 L.t70 hj hsh hl]
  simp only [Result.andThen]
  rw [Oper.upon_value]
  go_wp2
  go_end0
  refine ⟨rfl,⟨rfl,rfl,rfl,by simp [World.setCell],fun c _ hc=>?_,fun a _ hn=>?_,Nat.le_refl _⟩,?_⟩
  ·simp only [World.setCell,Array.getElem?_modify,if_neg (Ne.symm hc)]
  ·have hc:a.block≠b:=hn
   simp only [World.frozen?,World.setCell,Array.getElem?_modify,if_neg (Ne.symm hc)]
  ·simp [World.setCell,Array.getElem?_modify,hb]
 ·refine (bcu L X b k w hc0).mono ?_
  rintro e' w' ⟨rfl,rfl⟩
  refine ⟨rfl,Fr.refl _ _,?_⟩
  rw [hb]
  congr 2
  apply Array.ext_getElem?
  intro i
  by_cases hi:i=k
  ·subst hi; rw [h0,Array.getElem?_setIfInBounds_self_of_lt hk]
  ·rw [Array.getElem?_setIfInBounds_ne (Ne.symm hi)]
set_option maxHeartbeats 2000000 in
set_option maxRecDepth 100000 in
theorem bws (L:Lays.n166 P ρ) (X:Builder.Extra P ρ) {b k:Nat}{arr:Array Value}{e:TypeId}{p v:Value}{n:Nat}{us:List Value}(s:ByteArray) (w:World)
  (hb:w.heap[b]?=some (.cells arr e (0,0))) (h0:arr[k]?=some p) (h1:arr[k+1]?=some v) (hp:(p=.pointer none/\liesAt P P.depth e (arr.size / P.cellsOf e) k (ρ.t 72) 1=true)\/p=.pointer (some ⟨b,k,none⟩))
  (hown:w.ownsRow 0 (ρ.t 5) 1 v n us) (hne:v.ownBlock≠some b) (hlen:n+s.size<=140737488355328) :
  Calls P (ρ.f 166) #[.pointer (some ⟨b,k,none⟩),.string s] w fun e' w'=>e'=.returned (.tuple #[.int .i64 s.size,.nilIface])/\BWrote (ρ.t 5) w w' b k e arr v n s.size us (Lib.strCells s):=by
 obtain ⟨i0,hi,hz0,hz1,hz2⟩:=info_parts X.infoByte
 have mixed:=L.mixed
 have t72:=L.t72; have a72:=L.a72; have z72:=L.z72; have v72:=L.v72; have u72:=run_underlying L.t72
 have t70:=L.t70; have a70:=L.a70; have z70:=L.z70; have v70:=L.v70; have u70:=run_underlying L.t70
 have t37:=L.t37; have a37:=L.a37; have z37:=L.z37; have v37:=L.v37; have u37:=run_underlying L.t37
 have t3:=L.t3; have a3:=L.a3; have z3:=L.z3; have v3:=L.v3; have u3:=run_underlying L.t3
 have t9:=L.t9; have a9:=L.a9; have z9:=L.z9; have v9:=L.v9; have u9:=run_underlying L.t9
 have t4:=L.t4; have a4:=L.a4; have z4:=L.z4; have v4:=L.v4; have u4:=run_underlying L.t4
 have t164:=L.t164; have a164:=L.a164; have z164:=L.z164; have v164:=L.v164; have u164:=run_underlying L.t164
 have t5:=X.t5; have a5:=X.a5; have z5:=X.z5; have v5:=X.v5; have u5:=run_underlying X.t5
 have e240:∀ args w,(callFunc (ρ.f 240) args).run P w=.ok (.enter (ρ.f 240) args) w:=enters_of L.f240 (by kernel_rfl) rfl
 have hk:k<arr.size:=(Array.getElem?_eq_some_iff.1 h0).1
 have hk1:k+1<arr.size:=(Array.getElem?_eq_some_iff.1 h1).1
 go_enter L.f166,Body.n166_ntmps ρ
 go_wp2_with (go_at_fn (ρ.f 240); refine (bcc { L with } X.toX72 w hb h0 hp).mono ?_)
 rintro e' w1 ⟨rfl,hf1,hb1⟩
 have hown1:w1.ownsRow 0 (ρ.t 5) 1 v n us:=ownsRow_of_block hown fun c hc=>hf1.block c (hown.lt c hc).2 fun h=>hne (h ▸ hc)
 have c0:w1.cell? ⟨b,k,none⟩=some (.pointer (some ⟨b,k,none⟩)):=by rw [Lib.cell_of_heap hb1,Array.getElem?_setIfInBounds_self_of_lt hk]
 have c1:w1.cell? ⟨b,k+1,none⟩=some v:=by rw [Lib.cell_of_heap hb1,Array.getElem?_setIfInBounds_ne (by omega)]; exact h1
 go_wp2_with (at_builtin; refine wpList_appS rfl _ _ (ρ.t 37) (ρ.t 9) rfl (ρ.t 5) i0 L.t37 L.t9 hi hz0 hz1 hz2 _ _ _ rfl hown1 s rfl ?c3 ?c4 ?_)
 case c3=>unfold maxLen; omega
 case c4=>omega
 intro v' w2 hA
 have hlt1:b<w1.heap.size:=by
  rcases Nat.lt_or_ge b w1.heap.size with h' | h'
  ·exact h'
  ·simp [Array.getElem?_eq_none h'] at hb1
 have hb2:w2.heap[b]?=some (.cells (arr.setIfInBounds k (.pointer (some ⟨b,k,none⟩))) e (0,0)):=(hA.fr.block b hlt1 fun h=>hne h).trans hb1
 have hsz:(arr.setIfInBounds k (.pointer (some ⟨b,k,none⟩))).size=arr.size:=by simp
 have d0:w2.cell? ⟨b,k,none⟩=some (.pointer (some ⟨b,k,none⟩)):=by rw [Lib.cell_of_heap hb2,Array.getElem?_setIfInBounds_self_of_lt hk]
 have d1:w2.cell? ⟨b,k+1,none⟩=some v:=by rw [Lib.cell_of_heap hb2,Array.getElem?_setIfInBounds_ne (by omega)]; exact h1
 have f1:w2.frozen? ⟨b,k+1,none⟩=false:=Lib.frozen_of_heap hb2 (k+1)
 obtain ⟨ao,n',cap,rfl⟩:∃ ao n' cap,v'=.slice ao n' cap:=by
  rcases hA.new.2 with ⟨hv,_⟩ | ⟨g,cap,cur,hv,_⟩
  ·exact ⟨_,_,_,hv⟩
  ·exact ⟨_,_,_,hv⟩
 have hne2:(Value.slice ao n' cap).ownBlock≠some b:=fun h=>by
  rcases hA.blk b h with h | h
  ·exact hne h
  ·omega
 have hb3:(w2.setCell ⟨b,k+1,none⟩ (.slice ao n' cap)).heap[b]?=some (.cells ((arr.setIfInBounds k (.pointer (some ⟨b,k,none⟩))).setIfInBounds (k+1) (.slice ao n' cap)) e (0,0)):=by
  simp [World.setCell,Array.getElem?_modify,hb2]
 have ho3:∀ c,c≠b->(w2.setCell ⟨b,k+1,none⟩ (.slice ao n' cap)).heap[c]?=w2.heap[c]?:=fun c hc=>by
  simp only [World.setCell,Array.getElem?_modify,if_neg (Ne.symm hc)]
 have hfr:Fr w (w2.setCell ⟨b,k+1,none⟩ (.slice ao n' cap)) (fun c=>c=b\/v.ownBlock=some c):=by
  have h12:=(hf1.mono (U':=fun c=>c=b\/v.ownBlock=some c) fun c _ h=>.inl h).trans hA.fr fun c _ h=>.inr h
  refine ⟨h12.os,h12.tape,h12.output,by simpa [World.setCell] using h12.size,fun c hc hn=>(ho3 c fun h=>hn (.inl h)).trans (h12.block c hc hn),fun a ha hn=>?_,h12.dr⟩
  have:(w2.setCell ⟨b,k+1,none⟩ (.slice ao n' cap)).frozen? a=w2.frozen? a:=by
   unfold World.frozen?
   rw [ho3 a.block fun h=>hn (.inl h)]
  exact this.trans (h12.fz a ha hn)
 go_wp2
 go_ret2
 refine ⟨rfl,hfr,_,ownsRow_of_block hA.new fun c hc=>ho3 c fun h=>hne2 (h ▸ hc),hb3,hne2,fun c hc=>?_⟩
 rcases hA.blk c hc with h | h
 ·exact .inl h
 ·exact .inr (Nat.le_trans hf1.size h)
set_option maxHeartbeats 1000000 in
set_option maxRecDepth 100000 in
theorem bst (L:Lays.n169 P ρ) (X:Builder.Extra P ρ) {b k:Nat}{arr:Array Value}{e:TypeId}{v:Value}(l:List UInt8) (w:World)
  (hb:w.heap[b]?=some (.cells arr e (0,0))) (h1:arr[k+1]?=some v) (hown:w.ownsRow 0 (ρ.t 5) 1 v l.length (Lib.byteCells l)) (h0:l≠[]) :
  Calls P (ρ.f 169) #[.pointer (some ⟨b,k,none⟩)] w fun e' w'=>e'=.returned (.string ⟨l.toArray⟩)/\Fr w w' (fun c=>v.ownBlock=some c):=by
 have hl0:l.length≠0:=by simpa using h0
 have hown0:=hown
 obtain ⟨g,cap,cur,rfl,_,hg,hnc,hcm,hcs,htake⟩:∃ g cap cur,v=.slice (some ⟨g,0,none⟩) l.length cap/\0<=g/\w.heap[g]?=some (.cells cur (ρ.t 5) (0,0))/\l.length<=cap/\cap<=maxLen/\cur.size=cap * 1/\cur.toList.take (l.length * 1)=Lib.byteCells l:=by
  rcases hown.2 with ⟨_,hz⟩ | ⟨g,cap,cur,hv,r⟩
  ·exact absurd hz hl0
  ·exact ⟨g,cap,cur,hv,r⟩
 have c1:w.drew.cell? ⟨b,k+1,none⟩=some (.slice (some ⟨g,0,none⟩) l.length cap):=by
  have:w.drew.heap[b]?=some (.cells arr e (0,0)):=hb
  rw [Lib.cell_of_heap this]; exact h1
 have hSD:(Builtin.unsafeSliceData_ #[(ρ.t 37)] (ρ.t 127) #[.slice (some ⟨g,0,none⟩) l.length cap]).run P w.drew=.ok (.pointer (some ⟨g,0,none⟩)) w.drew :=
  Lib.run_unsafeSliceData_row _ _ _ _ _ _ (by omega)
 have hUS:(Builtin.unsafeString_ #[(ρ.t 127),(ρ.t 3)] (ρ.t 9) #[.pointer (some ⟨g,0,none⟩),.int .i64 l.length]).run P w.drew=.ok (.string ⟨l.toArray⟩) (w.drew.freeze ⟨g,0,none⟩ l.length):=by
  refine Lib.run_unsafeString_row w.drew (ρ.t 127) (ρ.t 3) (ρ.t 9) (ρ.t 5) L.t127 X.cellsByte g cur.size (by have hg':w.drew.heap[g]?=some (.cells cur (ρ.t 5) (0,0)):=hg; simp [World.shape?,hg']) l h0 (by omega) (by unfold maxLen at hcm; omega) ?_
  intro j x hx
  have:=hown0.cells (g:=g) rfl j (.int .u8 x.toNat) (by simp [Lib.byteCells,hx])
  exact this
 have mixed:=L.mixed
 have t72:=L.t72; have a72:=L.a72; have z72:=L.z72; have v72:=L.v72; have u72:=run_underlying L.t72
 have t70:=L.t70; have a70:=L.a70; have z70:=L.z70; have v70:=L.v70; have u70:=run_underlying L.t70
 have t37:=L.t37; have a37:=L.a37; have z37:=L.z37; have v37:=L.v37; have u37:=run_underlying L.t37
 have t127:=L.t127; have a127:=L.a127; have z127:=L.z127; have v127:=L.v127; have u127:=run_underlying L.t127
 have t3:=L.t3; have a3:=L.a3; have z3:=L.z3; have v3:=L.v3; have u3:=run_underlying L.t3
 have t9:=L.t9; have a9:=L.a9; have z9:=L.z9; have v9:=L.v9; have u9:=run_underlying L.t9
 have t5:=X.t5; have a5:=X.a5; have z5:=X.z5; have v5:=X.v5; have u5:=run_underlying X.t5
 have hfr:Fr w (w.drew.freeze ⟨g,0,none⟩ l.length) (fun c=>(Value.slice (some ⟨g,0,none⟩) l.length cap).ownBlock=some c):=by
  have ho:∀ c,c≠g->(w.drew.freeze ⟨g,0,none⟩ l.length).heap[c]?=w.heap[c]?:=fun c hc=>by
   unfold World.freeze
   rw [if_neg hl0]
   simp only [Array.getElem?_modify,if_neg (Ne.symm hc)]
   rfl
  refine ⟨by unfold World.freeze; split <;> rfl,by unfold World.freeze; split <;> rfl,by unfold World.freeze; split <;> rfl,by unfold World.freeze; split <;> simp,fun c _ hc=>ho c fun h=>hc (by simp [Value.ownBlock,h]),fun a _ hn=>?_,by unfold World.freeze; split <;> exact Nat.le_succ _⟩
  unfold World.frozen?
  rw [ho a.block fun h=>hn (by simp [Value.ownBlock,h])]
 go_enter L.f169,Body.n169_ntmps ρ
 go_wp2
 go_region_o
 all_goals (go_wp2; go_ret; exact ⟨rfl,hfr⟩)
end Go.Proofs
namespace Go.Own
open Go Go.Proofs Go.Shelf Go.Lib
set_option linter.unusedSectionVars false
variable [TB]
def bwO (x s:ByteArray):Option ByteArray:=if x.size+s.size<=140737488355328 then some (x++s) else none
def bsO (x:ByteArray):Option ByteArray:=if x.size=0 then none else some x
theorem strCells_append (x s:ByteArray):strCells x++strCells s=strCells (x++s):=by
 unfold strCells
 rw [<- List.map_append]
 congr 1
section
variable {P:Program}{ρ:Ren}
theorem Con.bw (L:Lays.n166 P ρ) (X:Builder.Extra P ρ) {x s y:ByteArray}(h:bwO x s=some y) :
  Con P (ρ.f 166) [.obj [.self (0,ρ.t 72),.brow (ρ.t 5) (strCells x)],SS s] [some (.obj [.self (0,ρ.t 72),.brow (ρ.t 5) (strCells y)]),none] (.tup [I64 s.size,.lit .nilIface]):=by
 refine ⟨rfl,fun w I vs Fs hlv hS=>?_⟩
 match vs,hlv with
 | [v0,v1],_ =>
 obtain ⟨u0,hu0,hR0⟩:=hS.rel 0 _ rfl
 obtain ⟨u1,hu1,hR1⟩:=hS.rel 1 _ rfl
 cases hu0; cases hu1
 have hv1:=(hR1.isTree (by simp)).inv_lit.1
 subst hv1
 unfold bwO at h
 split at h <;> cases h
 rename_i hsz
 have hR:=hR0.isTree (by simp)
 cases hR with
 | ref hx=>simp [AV.isRef] at hx
 | @obj _ b e arr Fk _ ho hl h1 hr hd hb hF hs =>
  have hl2:arr.size=2:=hl.symm
  have ha0:arr[0]?=some arr[0]:=Array.getElem?_eq_getElem (by omega)
  have ha1:arr[1]?=some arr[1]:=Array.getElem?_eq_getElem (by omega)
  have hp:=hs 0 _ _ rfl ha0
  have hRb:=hr 1 _ _ rfl ha1
  cases hRb with
  | ref hx=>simp [AV.isRef] at hx
  | brow hrow hone hFb =>
   have hne:arr[1].ownBlock≠some b:=fun h=>hb 1 (by simp) ((hFb b).2 h)
   rw [strCells_length] at hrow
   refine (bws L X s w ho ha0 ha1 (hp.imp (fun ⟨h1,h2⟩=>⟨h1,by rw [h2,hl2]; exact X.liesBuilder⟩) id) hrow hne hsz).mono ?_
   rintro e' w' ⟨rfl,hfr,v',hown,hbk,hne',hblk⟩
   rw [strCells_append] at hown
   have hlt:∀ c,v'.ownBlock=some c->c<w'.heap.size:=fun c hc=>(hown.lt c hc).2
   have hn:x.size+s.size=(strCells (x++s)).length:=by rw [strCells_length]; simp [ByteArray.size_append]
   rw [hn] at hown
   have hone':v'.oneCell'=true:=by
    rcases hown.2 with ⟨hv,_⟩ | ⟨g,cap,cur,hv,_⟩ <;> rw [hv] <;> rfl
   have hF0:∀ c,(c=b\/v'.ownBlock=some c)->Fs 0 c\/w.heap.size<=c:=by
    rintro c (rfl | hc)
    ·exact .inl ((hF _).2 (.inl rfl))
    ·rcases hblk c hc with h | h
     ·exact .inl ((hF c).2 (.inr ⟨1,by simp,(hFb c).2 h⟩))
     ·exact .inr h
   refine ⟨_,I,fun t c=>t=0/\(c=b\/v'.ownBlock=some c),rfl,⟨fun t x hx=>?_,fun t ht c hc=>?_,fun t t' c hc hc'=>hc.1.trans hc'.1.symm,fun t c hc hi=>?_,fun c hc=>Nat.lt_of_lt_of_le (hS.lt c hc) hfr.size,fun t t' z p n m new z' n' m' new' h1 _=>?_,TB.keep hS.tb (fun c hc=>hfr.block c (hS.lt c hc) fun h=>hS.imm 0 c (h.elim (fun h=>h ▸ (hF b).2 (.inl rfl)) fun h=>(hF c).2 (.inr ⟨1,by simp,(hFb c).2 h⟩)) hc) fun _ h=>h⟩,⟨?_,fun _ h=>h,fun _ h=>.inl h,fun c hc=>?_⟩⟩
   ·match t,hx with
    | 0,hx =>
     cases hx
     refine ⟨_,rfl,.tree ?_⟩
     refine .obj (Fs:=fun k c=>k=1/\v'.ownBlock=some c) hbk (by simp [hl2]) (fun k u hu=>?_) (fun k y u hy hu=>?_) (fun j k c _ _ h1 h2=>h1.1.trans h2.1.symm) (fun k _ h=>hne' h.2) (fun c=>⟨fun h=>h.2.imp id fun h=>⟨1,by simp,rfl,h⟩,fun h=>⟨rfl,h.imp id fun ⟨_,_,_,h⟩=>h⟩⟩) (fun k j u hy hu=>?_)
     ·match k,hu with
      | 0,hu=>simp [hl2] at hu; subst hu; rfl
      | 1,hu=>simp [hl2] at hu; subst hu; exact hone'
      | k+2,hu=>simp [hl2] at hu
     ·match k,hy,hu with
      | 0,hy,hu=>cases hy; exact .slf fun c h=>by cases h.1
      | 1,hy,hu =>
       cases hy
       simp [hl2] at hu
       subst hu
       exact .brow hown hone' fun c=>⟨fun h=>h.2,fun h=>⟨rfl,h⟩⟩
      | k+2,hy,hu=>cases hy
     ·match k,hy,hu with
      | 0,hy,hu =>
       cases hy
       simp [hl2] at hu
       exact .inr hu.symm
      | 1,hy,hu=>cases hy
      | k+2,hy,hu=>cases hy
    | 1,hx=>cases hx
    | 2,hx =>
     cases hx
     refine ⟨_,rfl,.tree (.tup (Fs:=fun _=>E0) rfl (fun k y u hy hu=>?_) (fun _ _ _ _ _ h=>h.elim) (fun c=>⟨fun h=>(by cases h.1),fun ⟨_,_,h⟩=>h.elim⟩))⟩
     match k,hy,hu with
     | 0,hy,hu=>cases hy; cases hu; exact .lit rfl fun _ h=>h
     | 1,hy,hu=>cases hy; cases hu; exact .lit rfl fun _ h=>h
     | k+2,hy,hu=>cases hy
    | t+3,hx=>simp [outG] at hx
   ·rw [hc.1] at ht; cases ht
   ·rcases hF0 c hc.2 with h | h
    ·exact hS.imm 0 c h hi
    ·have:=hS.lt c hi; omega
   ·match t,h1 with
    | 0,h1=>cases h1
    | 1,h1=>cases h1
    | 2,h1=>cases h1
    | t+3,h1=>simp [outG] at h1
   ·refine hfr.mono fun c _ h=>⟨0,?_⟩
    rcases h with rfl | h
    ·exact (hF _).2 (.inl rfl)
    ·exact (hF c).2 (.inr ⟨1,by simp,(hFb c).2 h⟩)
   ·obtain ⟨t,_,hc⟩:=hc
    rcases hF0 c hc with h | h
    ·exact .inl ⟨0,h⟩
    ·exact .inr h
theorem Con.bs (L:Lays.n169 P ρ) (X:Builder.Extra P ρ) {x y:ByteArray}(h:bsO x=some y) :
  Con P (ρ.f 169) [.obj [.self (0,ρ.t 72),.brow (ρ.t 5) (strCells x)]] [some (.obj [.self (0,ρ.t 72),.dead])] (SS y):=by
 refine ⟨rfl,fun w I vs Fs hlv hS=>?_⟩
 match vs,hlv with
 | [v0],_ =>
 obtain ⟨u0,hu0,hR0⟩:=hS.rel 0 _ rfl
 cases hu0
 unfold bsO at h
 split at h <;> cases h
 rename_i hsz
 have hR:=hR0.isTree (by simp)
 cases hR with
 | ref hx=>simp [AV.isRef] at hx
 | @obj _ b e arr Fk _ ho hl h1 hr hd hb hF hs =>
  have hl2:arr.size=2:=hl.symm
  have ha0:arr[0]?=some arr[0]:=Array.getElem?_eq_getElem (by omega)
  have ha1:arr[1]?=some arr[1]:=Array.getElem?_eq_getElem (by omega)
  have hRb:=hr 1 _ _ rfl ha1
  cases hRb with
  | ref hx=>simp [AV.isRef] at hx
  | brow hrow hone hFb =>
   have hne:arr[1].ownBlock≠some b:=fun h=>hb 1 (by simp) ((hFb b).2 h)
   have hby:strCells x=byteCells x.data.toList:=rfl
   have hlen:(strCells x).length=x.data.toList.length:=by unfold strCells; rw [List.length_map]
   rw [hlen,hby] at hrow
   refine (bst L X (k:=0) x.data.toList w ho ha1 hrow (fun e=>hsz (by rw [<- strCells_length]; unfold strCells; rw [e]; rfl))).mono ?_
   rintro e' w' ⟨rfl,hfr⟩
   have hblt:b<w.heap.size:=(Array.getElem?_eq_some_iff.1 ho).1
   have hbk:w'.heap[b]?=some (.cells arr e (0,0)):=(hfr.block b hblt hne).trans ho
   refine ⟨_,I,fun t c=>t=0/\c=b,rfl,⟨fun t x hx=>?_,fun t ht c hc=>?_,fun t t' c hc hc'=>hc.1.trans hc'.1.symm,fun t c hc hi=>?_,fun c hc=>Nat.lt_of_lt_of_le (hS.lt c hc) hfr.size,fun t t' z p n m new z' n' m' new' h1 _=>?_,TB.keep hS.tb (fun c hc=>hfr.block c (hS.lt c hc) fun h=>hS.imm 0 c ((hF c).2 (.inr ⟨1,by simp,(hFb c).2 h⟩)) hc) fun _ h=>h⟩,⟨?_,fun _ h=>h,fun _ h=>.inl h,fun c hc=>?_⟩⟩
   ·match t,hx with
    | 0,hx =>
     cases hx
     refine ⟨_,rfl,.tree (.obj (Fs:=fun _=>E0) hbk hl h1 (fun k y u hy hu=>?_) (fun _ _ _ _ _ h=>h.elim) (fun _ _ h=>h) (fun c=>⟨fun h=>.inl h.2,fun h=>⟨rfl,h.elim id fun ⟨_,_,h⟩=>h.elim⟩⟩) (fun k j u hy hu=>?_))⟩
     ·match k,hy with
      | 0,hy=>cases hy; exact .slf fun _ h=>h
      | 1,hy=>cases hy; exact .dead fun _ h=>h
      | k+2,hy=>cases hy
     ·match k,hy with
      | 0,hy=>cases hy; exact hs 0 _ u rfl hu
      | 1,hy=>cases hy
      | k+2,hy=>cases hy
    | 1,hx =>
     cases hx
     refine ⟨_,rfl,.tree (.lit rfl fun c h=>by cases h.1)⟩
    | t+2,hx=>simp [outG] at hx
   ·rw [hc.1] at ht; cases ht
   ·rw [hc.2] at hi
    exact hS.imm 0 b ((hF b).2 (.inl rfl)) hi
   ·match t,h1 with
    | 0,h1=>cases h1
    | 1,h1=>cases h1
    | t+2,h1=>simp [outG] at h1
   ·exact hfr.mono fun c _ h=>⟨0,(hF c).2 (.inr ⟨1,by simp,(hFb c).2 h⟩)⟩
   ·obtain ⟨t,_,rfl⟩:=hc
    exact .inl ⟨0,(hF _).2 (.inl rfl)⟩
end
end Go.Own
namespace Go.Own
open Go
set_option linter.unusedSectionVars false
variable [TB]
set_option linter.unusedVariables false
def nfv0:AV->Option AV
 | .lit v=>some (.lit v)
 | .nils=>some .nils
 | .imm z n cs=>some (.imm z n cs)
 | .own z n cs=>some (.own z n cs)
 | .obj cs=>some (.obj cs)
 | .agg cs=>some (.agg cs)
 | .tup cs=>some (.tup cs)
 | .iptr cs=>some (.iptr cs)
 | .ptr p k=>some (.ptr p k)
 | .brw z p n=>some (.brw z p n)
 | .sub z p l n=>some (.sub z p l n)
 | .pend z p n m c=>some (.pend z p n m c)
 | .clo f a b=>some (.clo f a b)
 | .mp p=>some (.mp p)
 | .mref p=>some (.mref p)
 | .imp p=>some (.imp p)
 | .dead=>some .dead
 | .self k=>some (.self k)
 | .brow t us=>some (.brow t us)
theorem nfv0_eq {x y:AV}(h:nfv0 x=some y):x=y:=by cases x <;> (cases h; rfl)
def nfs0:List AV->Option (List AV)
 | []=>some []
 | x::l=>match nfs0 l with
  | none=>none
  | some r=>match nfv0 x with
   | none=>none
   | some y=>some (y::r)
theorem nfs0_eq:∀ {l r:List AV},nfs0 l=some r->l=r
 | [],r,h=>by cases h; rfl
 | x::l,r,h=>by
  unfold nfs0 at h
  split at h
  ·cases h
  ·rename_i r' hr
   split at h
   ·cases h
   ·rename_i y hy
    cases h; rw [nfs0_eq hr,nfv0_eq hy]
def nfv:AV->Option AV
 | .agg cs=>match nfs0 cs with
  | some r=>some (.agg r)
  | none=>none
 | x=>nfv0 x
theorem nfv_eq {x y:AV}(h:nfv x=some y):x=y:=by
 unfold nfv at h
 split at h
 ·split at h
  ·rename_i hr
   cases h; rw [nfs0_eq hr]
  ·cases h
 ·exact nfv0_eq h
def nfs:List AV->Option (List AV)
 | []=>some []
 | x::l=>match nfs l with
  | none=>none
  | some r=>match nfv x with
   | none=>none
   | some y=>some (y::r)
theorem nfs_eq:∀ {l r:List AV},nfs l=some r->l=r
 | [],r,h=>by cases h; rfl
 | x::l,r,h=>by
  unfold nfs at h
  split at h
  ·cases h
  ·rename_i r' hr
   split at h
   ·cases h
   ·rename_i y hy
    cases h; rw [nfs_eq hr,nfv_eq hy]
def rfS (f:Nat->AV->AV):Nat->List Nat->List AV->Option (List AV)
 | _,_,[]=>some []
 | _,[],_::_=>none
 | k,j::js,x::l=>match rfS f (k+1) js l with
  | none=>none
  | some r=>match Nat.beq j k,nfv (f j x) with
   | true,some y=>some (y::r)
   | _,_=>none
theorem rfS_eq {f:Nat->AV->AV}:∀ {l:List AV}{js:List Nat}{k:Nat}{r:List AV},rfS f k js l=some r->(l.mapIdx fun i x=>f (k+i) x)=r
 | [],js,k,r,h=>by cases js <;> (cases h; rfl)
 | x::l,[],k,r,h=>by cases h
 | x::l,j::js,k,r,h=>by
  unfold rfS at h
  split at h
  ·cases h
  ·rename_i r' hr
   split at h
   ·rename_i y hj hy
    cases h
    have:=Nat.eq_of_beq_eq_true hj
    subst this
    rw [List.mapIdx_cons,<- rfS_eq hr,<- nfv_eq hy]
    simp [Nat.add_comm,Nat.add_left_comm]
   ·cases h
def num:List Nat:=0::1::2::3::4::5::6::7::8::9::10::11::12::13::14::15::16::17::18::19::20::21::22::23::24::25::26::27::28::29::30::31::32::33::34::35::36::37::38::39::40::41::42::43::44::45::46::47::48::49::50::51::52::53::54::55::56::57::58::59::60::61::62::63::64::65::66::67::68::69::70::71::72::73::74::75::76::77::78::79::[]
def rdF (g:Gst):Operand->Option AV
 | .tmp t=>match g t with
  | some (.lit v)=>some (.lit v)
  | some .nils=>some .nils
  | some (.imm z n cs)=>some (.imm z n cs)
  | some (.own z n _)=>some (.brw z ⟨t,[]⟩ n)
  | some (.obj (_::_))=>some (.ptr ⟨t,[]⟩ 0)
  | some (.iptr cs)=>some (.iptr cs)
  | some (.agg cs)=>match rfS (fun i x=>refIn 1 ⟨t,[i]⟩ x) 0 num cs with
   | some r=>some (.agg r)
   | none=>none
  | some (.tup cs)=>match rfS (fun i x=>refIn 1 ⟨t,[i]⟩ x) 0 num cs with
   | some r=>some (.tup r)
   | none=>none
  | some (.ptr p k)=>some (.ptr p k)
  | some (.brw z p n)=>some (.brw z p n)
  | some (.sub z p l n)=>some (.sub z p l n)
  | some (.pend z _ n m _)=>some (.brw z ⟨t,[]⟩ (n+m))
  | some (.clo fn [] cs)=>some (.clo fn [] cs)
  | some (.mp _)=>some (.mref ⟨t,[]⟩)
  | some (.mref p)=>some (.mref p)
  | some (.imp q)=>some (.imp q)
  | _=>none
 | .const v=>match ofConst v with
  | .lit v=>some (.lit v)
  | .agg cs=>some (.agg cs)
  | .nils=>match v with
   | .slice none 0 0=>some .nils
   | _=>none
  | _=>none
 | .func f=>some (.clo (.func f) [] [])
 | .global _=>none
theorem ofConst_lit {v u:Value}(h:ofConst v=.lit u):u=v:=by
 cases v <;> simp only [ofConst,ofCell] at h <;> first | (cases h; rfl) | (split at h <;> cases h <;> rfl) | cases h
theorem Rd.q {g:Gst}{a:Operand}{y:AV}(h:rdF g a=some y:=by rfl):Rd g a y:=by
 unfold rdF at h
 split at h
 ·split at h <;> first | (split at h <;> cases h <;> first | exact .agg ‹_› (by have:=rfS_eq ‹_›; simpa [Place.push] using this) | exact .tup ‹_› (by have:=rfS_eq ‹_›; simpa [Place.push] using this)) | skip
  all_goals cases h
  all_goals first | exact .lit ‹_› | exact .nils ‹_› | exact .imm ‹_› | exact .own ‹_› | exact .obj ‹_› | exact .iptr ‹_› | exact .ptr ‹_› | exact .brw ‹_› | exact .sub ‹_› | exact .pend ‹_› | exact .clo ‹_› | exact .mp ‹_› | exact .mref ‹_› | exact .imp ‹_›
 ·split at h
  ·rename_i e; cases h; have:=ofConst_lit e; subst this; exact .k e
  ·rename_i e; cases h; exact .kagg e
  ·split at h <;> cases h
   exact .knil
  ·cases h
 ·cases h; exact .func
 ·cases h
def rdP (g:Gst) (t:Nat):Option AV :=
 match g t with
 | some (.lit v)=>some (.lit v)
 | some .nils=>some .nils
 | some (.imm z n cs)=>some (.imm z n cs)
 | some (.iptr cs)=>some (.iptr cs)
 | some (.clo fn [] cs)=>some (.clo fn [] cs)
 | some (.imp q)=>some (.imp q)
 | _=>none
theorem Rd.ql {g:Gst}{t:Nat}{y:AV}(h:rdP g t=some y:=by rfl):Rd g (.tmp t) y:=by
 unfold rdP at h
 split at h <;> cases h <;> first | exact .lit ‹_› | exact .nils ‹_› | exact .imm ‹_› | exact .iptr ‹_› | exact .clo ‹_› | exact .imp ‹_›
class ET (P:Program) (t:TypeId) (α:outParam Type) (en:outParam (En α)):Prop where p:True:=trivial
class Dec {α:Type}(en:En α) (cs:List AV) (y:outParam α):Prop where p:en.cells y=cs
instance {a:Int}:Dec eI [I64 a] a:=⟨rfl⟩
instance {a:Int}:Dec eU [U8 a] a:=⟨rfl⟩
instance {a:Bool}:Dec eB [BB a] a:=⟨rfl⟩
instance {a:ByteArray}:Dec eS [SS a] a:=⟨rfl⟩
instance {α:Type}{en:En α}{l:List α}:Dec (eM en) [.imm en.z l.length (rowc en l)] l:=⟨rfl⟩
class DecL {α:Type}(en:En α) (ys:List AV) (L:outParam (List α)):Prop where p:boxAll ys=some (rowc en L)/\ys.all (fun y=>match boxCells y with | some c=>Nat.beq c.length en.z | none=>false)=true/\L.length=ys.length
instance {α:Type}{en:En α}:DecL en [] []:=⟨⟨rfl,rfl,rfl⟩⟩
theorem DecL.cons {α:Type}{en:En α}{y:AV}{cs:List AV}{ys:List AV}{a:α}{L:List α}(hb:boxCells y=some cs) [h:Dec en cs a] [hl:DecL en ys L]:DecL en (y::ys) (a::L):=by
 refine ⟨⟨?_,?_,?_⟩⟩
 ·simp [boxAll,hb,hl.p.1,rowc,h.p]
 ·simp only [List.all_cons,hb,hl.p.2.1,Bool.and_true]
  rw [<- h.p,en.len]; exact Nat.beq_refl _
 ·simp [hl.p.2.2]
instance {α:Type}{en:En α}{cs ys:List AV}{a:α}{L:List α} [h:Dec en cs a] [hl:DecL en ys L]:DecL en (.agg cs::ys) (a::L):=.cons rfl
instance {α:Type}{en:En α}{v:Value}{ys:List AV}{a:α}{L:List α} [h:Dec en [.lit v] a] [hl:DecL en ys L]:DecL en (.lit v::ys) (a::L):=.cons rfl
instance {α:Type}{en:En α}{z n:Nat}{cs:List AV}{ys:List AV}{a:α}{L:List α} [h:Dec en [.imm z n cs] a] [hl:DecL en ys L]:DecL en (.imm z n cs::ys) (a::L):=.cons rfl
def seenB (d:Nat):List Oper->Bool
 | []=>false
 | o::l=>(match o.op with
  | .call { callee:=.value _,args:=xs,argTypes:=_ }=>xs.toList.any fun x=>match x with | .tmp t=>Nat.beq t d | _=>false
  | .call { callee:=.builtin .append,args:=xs,argTypes:=_ }=>match xs.toList with | [_,.tmp t]=>Nat.beq t d | _=>false
  | .convert _ _ (.tmp t)=>Nat.beq t d
  | .build _ ps=>ps.toList.any fun x=>match x.2 with | .tmp t=>Nat.beq t d | _=>false
  | .buildSlice _ _ ps=>ps.toList.any fun x=>match x.2 with | .tmp t=>Nat.beq t d | _=>false
  | _=>false)||seenB d l
class F0 (P:Program):Prop where p:P.follows .mixedOrders=true:=by kernel_rfl
class F5 (P:Program) (t:TypeId) (k:outParam Nat):Prop where p:aggT P t k=true:=by kernel_rfl
class F6 (P:Program) (t:TypeId) (z:outParam Value):Prop where p:(P.info? t).bind (·.zero)=some z:=by kernel_rfl
class FB (P:Program) (e:TypeId) (t:outParam TypeId):Prop where p:(P.info? e).bind (·.zero)=some (.agg #[.pointer none,.slice none 0 0]):=by kernel_rfl
class F7 (P:Program) (t:TypeId) (pl:outParam (List (Nat × Nat))):Prop where p:structT P t pl=true:=by kernel_rfl
class F8 (P:Program) (t:TypeId) (e z b:outParam Nat):Prop where p:appT P t e z b=true:=by kernel_rfl
class F9 (P:Program) (t:TypeId) (k:outParam IntKind):Prop where p:intT P t k=true:=by kernel_rfl
class Fb (P:Program) (t:TypeId) (b:outParam Nat):Prop where p:(P.info? t).map (·.bytes)=some b:=by kernel_rfl
section
variable {α β:Type}{P:Program}{g:Gst}{ty t t2:TypeId}{a b:Operand}{k r z n:Nat}{cs cs':List AV}{x y:AV}{p q:Place}{m:Int}{ki ki':IntKind}{e:TypeId}{N:Rm}{ops:Array Oper}{b0:Nat}
theorem O.w0 (hx:Rd g a y:=by exact .q) (hc:(boxCells y).bind nfs=some cs:=by rfl):PS P g (.box e a) ty (.obj cs):=by
 cases hb:boxCells y with
 | none=>rw [hb] at hc; cases hc
 | some c=>rw [hb] at hc; have:=nfs_eq hc; subst this; exact O.box hx hb
theorem O.w1 {v:Value} [h:F1 P t] (hx:Rd g a (.ptr ⟨r,[]⟩ k):=by exact .q) (hs:g r=some (.obj cs):=by rfl) (hc:cs[k]?=some (.lit v):=by rfl):PS P g (.load t a) ty (.lit v):=O.ldOl hs hx h.p hc
theorem O.w2 [h:F1 P t] (hx:Rd g a (.iptr cs):=by exact .q) (hc:cs.head?.bind nfv=some x:=by rfl):PS P g (.load t a) ty x:=by
 cases hb:cs.head? with
 | none=>rw [hb] at hc; cases hc
 | some c=>rw [hb] at hc; have:=nfv_eq hc; subst this; exact O.ldI hx h.p hb
theorem O.w3 [h:F1 P t] (hx:Rd g a (.ptr ⟨r,[]⟩ k):=by exact .q) (hs:g r=some (.obj cs):=by rfl) (hc:cs[k]?=some x:=by rfl) (hy:nfv (refIn 0 ⟨r,[k]⟩ x)=some y:=by rfl):PS P g (.load t a) ty y:=O.ldO hs hx h.p hc (nfv_eq hy)
theorem O.w4 [h:F5 P t z] (hx:Rd g a (.ptr ⟨r,[]⟩ k):=by exact .q) (hs:g r=some (.obj cs):=by rfl) (hk:Nat.ble (k+z) cs.length=true:=by rfl) (hc:rfS (fun i x=>refIn 0 ⟨r,[i]⟩ x) k (num.drop k) ((cs.drop k).take z)=some cs':=by rfl):PS P g (.load t a) ty (.agg cs'):=O.ldON hs hx h.p hk (rfS_eq hc)
theorem O.w9 [h:F5 P t z] (hx:Rd g a (.iptr cs):=by exact .q) (hc:nfs (cs.take z)=some cs':=by rfl) (hz:cs'.length=z:=by rfl):PS P g (.load t a) ty (.agg cs'):=O.ldIN hx h.p (nfs_eq hc) hz
theorem O.we {en:En α}{L:List α}{y:α}{o:Nat}{x x':AV} [ht:F1 P t] (hx:Rd g a (.ptr p (m.toNat * en.z+o)):=by exact .q) (hp:atP g p=some (oR en L):=by rfl) (h:idx L m=some y:=by assumption) (hc:(en.cells y)[o]?=some x:=by rfl) (hr:nfv (refIn 0 (p.push (m.toNat * en.z+o)) x)=some x':=by rfl):PS P g (.load t a) ty x':=O.ldE hp hx ht.p h hc (nfv_eq hr)
theorem O.wz {en:En α}{L:List α}{y:α}{o:Nat} [ht:F5 P t z] (hx:Rd g a (.ptr p (m.toNat * en.z+o)):=by exact .q) (hp:atP g p=some (oR en L):=by rfl) (h:idx L m=some y:=by assumption) (hz:Nat.ble (o+z) en.z=true:=by rfl) (hc:nfs ((((en.cells y).drop o).take z).mapIdx (fun i x=>refIn 0 (p.push (m.toNat * en.z+o+i)) x))=some cs':=by rfl):PS P g (.load t a) ty (.agg cs'):=O.ldEN hp hx ht.p h hz (nfs_eq hc)
theorem O.w5 {s' f off:Nat} [h:F4 P s' f off t] (hx:Rd g a (.ptr ⟨r,[]⟩ k):=by exact .q) (hs:g r=some (.obj cs):=by rfl) (hl:Nat.blt (k+off) cs.length=true:=by rfl):PS P g (.fieldAddr s' a f) ty (.ptr ⟨r,[]⟩ (k+off)):=O.fO hs hx h.p hl
theorem O.w6 {s' f off:Nat} [h:F4 P s' f off t] (hx:Rd g a (.iptr cs):=by exact .q):PS P g (.fieldAddr s' a f) ty (.iptr (cs.drop off)):=O.fI hx h.p
theorem O.wf {en:En α}{L:List α}{y:α}{s' f off o o':Nat} [hf:F4 P s' f off t] (hx:Rd g a (.ptr p (m.toNat * en.z+o)):=by exact .q) (hp:atP g p=some (oR en L):=by rfl) (h:idx L m=some y:=by assumption) (ho:o+off=o':=by rfl) (hlt:Nat.blt o' en.z=true:=by rfl):PS P g (.fieldAddr s' a f) ty (.ptr p (m.toNat * en.z+o')):=O.fE hp hx hf.p h ho hlt
theorem O.w7 {en:En α}{L:List α}{y:α}{z':Nat}(h:idx L m=some y) [h3:F3 P t e z'] (hx:Rd g a (.imm en.z L.length (rowc en L)):=by exact .q) (hy:Rd g b (.lit (.int ki m)):=by exact .q) (hz:z'=en.z:=by rfl):PS P g (.indexAddr t a b) ty (.iptr (en.cells y++rowc en (L.drop (m.toNat+1)))):=O.ixI hx hy (hz ▸ h3.p) h
theorem O.w8 {en:En α}{L:List α}{y:α}{z':Nat}(h:idx L m=some y) [h3:F3 P t e z'] (hx:Rd g a (.brw en.z p L.length):=by exact .q) (hp:atP g p=some (oR en L):=by rfl) (hy:Rd g b (.lit (.int ki m)):=by exact .q) (hz:z'=en.z:=by rfl) (h0:Nat.blt 0 en.z=true:=by rfl):PS P g (.indexAddr t a b) ty (.ptr p (m.toNat * en.z+0)):=O.ixO hp hx hy (hz ▸ h3.p) h h0
theorem O.wx {p i:Nat}{cs:List AV}{x y:AV}(hx:g p=some (.tup cs):=by rfl) (hy:cs[i]?=some x:=by rfl) (hr:nfv (refIn 1 (Place.push ⟨p,[]⟩ i) x)=some y:=by rfl):PS P g (.extract (.tmp p) i) ty y:=O.ex hx hy (nfv_eq hr)
theorem O.wc [h1:F9 P t ki] [h2:F9 P t2 ki'] (hx:Rd g a (.lit (.int ki m)):=by exact .q):PS P g (.convert t t2 a) ty (.lit (.int ki' (ki'.wrap m))):=O.cvI hx h1.p h2.p
theorem O.wb {L:List Int}(hx:Rd g a (.imm eU.z L.length (rowc eU L)):=by exact .q) (ht:bytT P t t2=true:=by kernel_rfl):PS P g (.convert t t2 a) ty (SS (strOfNums L)):=O.cvC hx ht
theorem O.wB {t5:TypeId} [h:FB P e t5]:PS P g (.alloc e) ty (.obj [.self (0,e),.brow t5 (Lib.strCells ⟨#[]⟩)]):=.p2 (.allocB h.p rfl)
theorem O.wa {zv:Value} [h:F6 P e zv] (h1:zv.cells.toList.all Value.oneCell'=true:=by rfl) (hc:nfs (zv.cells.toList.map ofCell)=some cs:=by rfl):PS P g (.alloc e) ty (.obj cs):=O.al h.p h1 (nfs_eq hc)
theorem O.wu {parts:Array (Nat × Operand)}{pl:List (Nat × Nat)}{zv:Value}{ps:List (Nat × List AV)} [ht:F7 P t pl] [hz:F6 P t zv] (h1:zv.cells.toList.all Value.oneCell'=true:=by rfl)
  (hp:partsAV g parts.toList=some ps:=by rfl) (hc:(fillAV (fun i=>pl[i]?) (zv.cells.toList.map ofCell) ps).bind nfs=some cs:=by rfl):PS P g (.build t parts) ty (.agg cs):=by
 cases hb:fillAV (fun i=>pl[i]?) (zv.cells.toList.map ofCell) ps with
 | none=>rw [hb] at hc; cases hc
 | some c=>rw [hb] at hc; have:=nfs_eq hc; subst this; exact O.bu ht.p hz.p h1 hp hb
theorem O.wd {s' f off:Nat} [h:F4 P s' f off t] [ht:F1 P t] (hx:Rd g a (.agg cs):=by exact .agg rfl rfl) (hy:cs[off]?.bind nfv=some x:=by rfl):PS P g (.field s' a f) ty x:=by
 cases hb:cs[off]? with
 | none=>rw [hb] at hy; cases hy
 | some c=>rw [hb] at hy; have:=nfv_eq hy; subst this; exact O.fd hx h.p ht.p hb
theorem O.wp {en:En α}{L M r:List α}{z':Nat}(h:appO L M=some r) [ht:F8 P t e z' b0] (hs:Rd g a (.brw en.z p L.length):=by exact .q) (hp:atP g p=some (oR en L):=by rfl) (hx:Rd g b y:=by exact .q) (hm:Sr g en y M:=by (first | exact .i | exact .n | exact .o rfl rfl)) (hz:z'=en.z:=by rfl) (hb:Nat.ble b0 128=true:=by rfl) [hno:NoPd g]:PS P g (.call { callee:=.builtin .append,args:=#[a,b],argTypes:=#[t,t] }) ty (.pend en.z p L.length M.length (rowc en M)) :=
 O.ap hs hp hx hm (hz ▸ ht.p) hb h
def litsF:List AV->Option (List Value)
 | []=>some []
 | .lit v::l=>match litsF l with
  | some r=>some (v::r)
  | none=>none
 | _=>none
theorem litsF_eq:∀ {l:List AV}{r:List Value},litsF l=some r->l=r.map .lit
 | [],r,h=>by cases h; rfl
 | x::l,r,h=>by
  unfold litsF at h
  split at h
  ·rename_i e; cases e
  ·rename_i e
   cases e
   split at h
   ·rename_i r' hr
    cases h; rw [litsF_eq hr]; rfl
   ·cases h
  ·cases h
def shF:List Value->Option (List Sh)
 | []=>some []
 | v::l=>match shF l,shOf v with
  | some r,some u=>some (u::r)
  | _,_=>none
theorem shF_eq:∀ {l:List Value}{r:List Sh},shF l=some r->l.map shOf=r.map some
 | [],r,h=>by cases h; rfl
 | v::l,r,h=>by
  unfold shF at h
  split at h
  ·rename_i r1 u hr hs
   cases h; simp [shF_eq hr,hs]
  ·cases h
theorem O.wq {ca cb:List AV}{va vb:List Value}{sh:List Sh}(hx:Rd g a (.agg ca):=by exact .q) (hy:Rd g b (.agg cb):=by exact .q) (hva:litsF ca=some va:=by rfl) (hvb:litsF cb=some vb:=by rfl) (ha:shF va=some sh:=by rfl) (hb:shF vb=some sh:=by rfl) (ht:eqAT P t sh=true:=by kernel_rfl):PS P g (.binOp .eql t a b t2) ty (BB (eqVs va vb)):=O.eqlA (litsF_eq hva ▸ hx) (litsF_eq hvb ▸ hy) (shF_eq ha) (shF_eq hb) ht
theorem O.wn {ca cb:List AV}{va vb:List Value}{sh:List Sh}(hx:Rd g a (.agg ca):=by exact .q) (hy:Rd g b (.agg cb):=by exact .q) (hva:litsF ca=some va:=by rfl) (hvb:litsF cb=some vb:=by rfl) (ha:shF va=some sh:=by rfl) (hb:shF vb=some sh:=by rfl) (ht:eqAT P t sh=true:=by kernel_rfl):PS P g (.binOp .neq t a b t2) ty (BB (!eqVs va vb)):=O.neqA (litsF_eq hva ▸ hx) (litsF_eq hvb ▸ hy) (shF_eq ha) (shF_eq hb) ht
theorem O.wm {en:En α}{z0:α}{r:List α}{z':Nat}{zv:Value}(h:mkO m z0=some r) [het:ET P t α en] [ht:F3 P t e z'] [hzero:F6 P e zv] [hbb:Fb P e b0] (hx:Rd g a (.lit (.int ki m)):=by exact .q) (hy:Rd g b (.lit (.int .i64 m)):=by exact .q) (h1:zv.cells.toList.all Value.oneCell'=true:=by rfl) (hc:zv.cells.toList.map ofCell=en.cells z0:=by rfl) (hz:z'=en.z:=by rfl) (hb:Nat.ble b0 128=true:=by rfl):PS P g (.makeSlice t a b) ty (oR en r) :=
 O.mk (hz ▸ ht.p) hx hy hzero.p h1 hc h hbb.p hb
theorem O.wl {en:En α}{z':Nat} [het:ET P t α en] [ht:F3 P t e z'] (hz:z'=en.z:=by rfl) (hzero:zeroT P e en.z=true:=by kernel_rfl):PS P g (.buildSlice t 0 #[]) ty (oR en ([]:List α)) :=
 O.bs (ys:=[]) en [] (hz ▸ ht.p) rfl rfl rfl rfl rfl rfl hzero (by rw [Nat.zero_mul]; rfl) rfl
theorem O.wo {en:En α}{M r:List α}{z':Nat}(h:appO [] M=some r) [ht:F8 P t e z' b0] (hs:Rd g a .nils:=by exact .q) (hx:Rd g b y:=by exact .q) (hm:Sr g en y M:=by (first | exact .i | exact .n | exact .o rfl rfl)) (hz:z'=en.z:=by rfl) (hb:Nat.ble b0 128=true:=by rfl):PS P g (.call { callee:=.builtin .append,args:=#[a,b],argTypes:=#[t,t] }) ty (oR en M) :=
 O.apN hs hx hm (hz ▸ ht.p) hb h
theorem O.ws0 {en:En α}{L r:List α}{c:Operand}{n:Int}{k:IntKind}{z':Nat}(h:subO L 0 n=some r) [ht:F3 P t e z'] (hx:Rd g a (.imm en.z L.length (rowc en L)):=by exact .q) (hh:Rd g c (.lit (.int k n)):=by exact .q) (hz:z'=en.z:=by rfl):PS P g (.slice t a none (some c) none) ty (iR en r):=O.slI0 hx hh (hz ▸ ht.p) h
theorem O.ws1 {en:En α}{L r:List α}{k:IntKind}{z':Nat}(h:subO L m L.length=some r) [ht:F3 P t e z'] (hx:Rd g a (.imm en.z L.length (rowc en L)):=by exact .q) (hl:Rd g b (.lit (.int k m)):=by exact .q) (hz:z'=en.z:=by rfl):PS P g (.slice t a (some b) none none) ty (iR en r):=O.slI1 hx hl (hz ▸ ht.p) h
theorem O.ws2 {en:En α}{L r:List α}{c:Operand}{n:Int}{k k2:IntKind}{z':Nat}(h:subO L m n=some r) [ht:F3 P t e z'] (hx:Rd g a (.imm en.z L.length (rowc en L)):=by exact .q) (hl:Rd g b (.lit (.int k m)):=by exact .q) (hh:Rd g c (.lit (.int k2 n)):=by exact .q) (hz:z'=en.z:=by rfl):PS P g (.slice t a (some b) (some c) none) ty (iR en r):=O.slI hx hl hh (hz ▸ ht.p) h
def lbq:List Nat->List Nat->Bool
 | [],[]=>true
 | a::l,b::m=>Nat.beq a b&&lbq l m
 | _,_=>false
def pnq (p q:Place):Bool:=!(Nat.beq p.root q.root&&lbq p.path q.path)
theorem lbq_rf:∀ (l:List Nat),lbq l l=true
 | []=>rfl
 | a::l=>by unfold lbq; rw [lbq_rf l,Nat.beq_refl]; rfl
theorem pnq_ne {p q:Place}(h:pnq p q=true):p≠q:=by
 rintro rfl
 unfold pnq at h
 rw [Nat.beq_refl,lbq_rf] at h
 cases h
def noQl (p:Place):List (Nat × AV)->Bool
 | []=>true
 | (_,.pend _ q _ _ _)::l=>pnq p q&&noQl p l
 | _::l=>noQl p l
theorem noQl_get {p:Place}:∀ {G:List (Nat × AV)},noQl p G=true->∀ t z n m new,get G t≠some (.pend z p n m new)
 | [],_,t,z,n,m,new,e=>by cases e
 | (s,x)::G,h,t,z,n,m,new,e=>by
  simp only [get] at e
  split at e
  ·cases e
   unfold noQl at h
   rw [Bool.and_eq_true] at h
   exact pnq_ne h.1 rfl
  ·refine noQl_get (G:=G) ?_ t z n m new e
   unfold noQl at h
   split at h
   ·rename_i e2; cases e2
   ·rename_i e2; cases e2; rw [Bool.and_eq_true] at h; exact h.2
   ·rename_i e2; cases e2; exact h
def noQa (p:Place):Acc->Bool
 | []=>true
 | (_,_,some (.pend _ q _ _ _))::l=>pnq p q&&noQa p l
 | _::l=>noQa p l
theorem noQ_vis {p:Place}{G:List (Nat × AV)}{A:Nat->Bool}(hG:noQl p G=true):∀ {acc:Acc},noQa p acc=true->∀ t z n m new,visG (get G) A acc t≠some (.pend z p n m new)
 | [],_,t,z,n,m,new,e=>noQl_get hG t z n m new e
 | (k,d,r)::acc,h,t,z,n,m,new,e=>by
  have h2:noQa p acc=true:=by
   unfold noQa at h
   split at h
   ·rename_i e2; cases e2
   ·rename_i e2; cases e2; rw [Bool.and_eq_true] at h; exact h.2
   ·rename_i e2; cases e2; exact h
  simp only [visG] at e
  split at e
  ·split at e
   ·subst e
    unfold noQa at h
    rw [Bool.and_eq_true] at h
    exact pnq_ne h.1 rfl
   ·cases e
  ·exact noQ_vis hG h2 t z n m new e
theorem O.wr {en:En α}{L M r:List α}{z':Nat}{G:List (Nat × AV)}(h:appO L M=some r) [ht:F8 P t e z' b0] (hs:Rd (get G) a (.brw en.z p L.length):=by exact .q) (hp:atP (get G) p=some (oR en L):=by rfl) (hx:Rd (get G) b y:=by exact .q) (hm:Sr (get G) en y M:=by (first | exact .i | exact .n | exact .o rfl rfl)) (hz:z'=en.z:=by rfl) (hb:Nat.ble b0 128=true:=by rfl) (hq:noQl p G=true:=by rfl):PS P (get G) (.call { callee:=.builtin .append,args:=#[a,b],argTypes:=#[t,t] }) ty (.pend en.z p L.length M.length (rowc en M)) :=
 O.ap' hs hp hx hm (hz ▸ ht.p) hb h (noQl_get hq)
theorem O.wv {en:En α}{L M r:List α}{z':Nat}{G:List (Nat × AV)}{A:Nat->Bool}{acc:Acc}(h:appO L M=some r) [ht:F8 P t e z' b0] (hs:Rd (visG (get G) A acc) a (.brw en.z p L.length):=by exact .q) (hp:atP (visG (get G) A acc) p=some (oR en L):=by rfl) (hx:Rd (visG (get G) A acc) b y:=by exact .q) (hm:Sr (visG (get G) A acc) en y M:=by (first | exact .i | exact .n | exact .o rfl rfl)) (hz:z'=en.z:=by rfl) (hb:Nat.ble b0 128=true:=by rfl) (hq:noQl p G=true:=by rfl) (hqa:noQa p acc=true:=by rfl):PS P (visG (get G) A acc) (.call { callee:=.builtin .append,args:=#[a,b],argTypes:=#[t,t] }) ty (.pend en.z p L.length M.length (rowc en M)) :=
 O.ap' hs hp hx hm (hz ▸ ht.p) hb h (noQ_vis hq hqa)
instance {s:Nat}{x:AV}{G:List (Nat × AV)} [h:NoPe s (get G)]:NoPe s (get ((s,x)::G)):=(getc (G:=G) (d:=s) (v:=x)) ▸ (inferInstance:NoPe s (upd (get G) s x))
instance {s d:Nat}{x:AV}{G:List (Nat × AV)} [h:NoPe s (get G)] [hx:NPc x]:NoPe s (get ((d,x)::G)):=(getc (G:=G) (d:=d) (v:=x)) ▸ (inferInstance:NoPe s (upd (get G) d x))
theorem O.w2p {en:En α}{L M M2 r:List α}{z' s:Nat}(h:appO (L++M) M2=some r) [ht:F8 P t e z' b0] (hs:Rd g a (.brw en.z ⟨s,[]⟩ (L.length+M.length)):=by exact .q) (hps:g s=some (.pend en.z q L.length M.length (rowc en M)):=by rfl) (hp:atP g q=some (oR en L):=by rfl) (hx:Rd g b y:=by exact .q) (hm:Sr g en y M2:=by (first | exact .i | exact .n | exact .o rfl rfl)) (hz:z'=en.z:=by rfl) (hb:Nat.ble b0 128=true:=by rfl) [hno:NoPe s g]:PS P g (.call { callee:=.builtin .append,args:=#[a,b],argTypes:=#[t,t] }) ty (.pend en.z ⟨s,[]⟩ (L.length+M.length) M2.length (rowc en M2)) :=
 O.ap2 hs hps hp hx hm (hz ▸ ht.p) hb h
theorem O.wy {en:En β}{r:List (List β)}{z':Nat}{zv:Value}(h:mkO m ([]:List β)=some r) [het:ET P t (List β) (eM en)] [ht:F3 P t e z'] [hzero:F6 P e zv] [hbb:Fb P e b0] (hx:Rd g a (.lit (.int ki m)):=by exact .q) (hy:Rd g b (.lit (.int .i64 m)):=by exact .q) (h1:zv.cells.toList.all Value.oneCell'=true:=by rfl) (hc:zv.cells.toList.map ofCell=[.nils]:=by rfl) (hz:z'=(eM en).z:=by rfl) (hb:Nat.ble b0 128=true:=by rfl):PS P g (.makeSlice t a b) ty (oR (eM en) r) :=
 O.mkN (hz ▸ ht.p) hx hy hzero.p h1 hc h hbb.p hb
theorem O.wk {en:En α}{L:List α}{y:α}{z':Nat} [h3:F3 P t e z'] (hx:Rd g a (.imm en.z L.length (rowc en L)):=by exact .q) (hy:Rd g b (.lit (.int ki m)):=by exact .q) (hz:z'=en.z:=by rfl) (h:idx L m=some y:=by assumption):PS P g (.indexAddr t a b) ty (.iptr (en.cells y++rowc en (L.drop (m.toNat+1)))):=O.ixI hx hy (hz ▸ h3.p) h
theorem O.wj {en:En α}{L:List α}{y:α}{z':Nat} [h3:F3 P t e z'] (hx:Rd g a (.brw en.z p L.length):=by exact .q) (hp:atP g p=some (oR en L):=by rfl) (hy:Rd g b (.lit (.int ki m)):=by exact .q) (hz:z'=en.z:=by rfl) (h0:Nat.blt 0 en.z=true:=by rfl) (h:idx L m=some y:=by assumption):PS P g (.indexAddr t a b) ty (.ptr p (m.toNat * en.z+0)):=O.ixO hp hx hy (hz ▸ h3.p) h h0
end
def ksP (G0:List (Nat × AV)) (ex:List Nat) (sn:List Nat):List (Nat × AV)->Option (List Nat)
 | []=>some []
 | (k,x)::l=>match ksP G0 ex (k::sn) l with
  | none=>none
  | some r=>match !ex.elem k&&!sn.elem k&&(match x with | .ptr ⟨q,[]⟩ _=>!ex.elem q&&(match get G0 q with | some (.obj _)=>true | _=>false) | _=>false) with
   | true=>some (k::r)
   | false=>some r
def okS (g g2:Gst) (r:Nat):List (Nat × AV)->Bool
 | []=>true
 | (s,.ptr ⟨q,[]⟩ k)::l=>!Nat.beq s r&&(match g q,g2 q with | some (.obj cs),some (.obj ct)=>Nat.blt k cs.length&&Nat.blt k ct.length | _,_=>false)&&okS g g2 r l
 | _=>false
theorem okS_spec {g g2:Gst}{r:Nat}{s:Nat}{x:AV}{l:List (Nat × AV)}(h:okS g g2 r ((s,x)::l)=true):(∃ q k cs ct,x=.ptr ⟨q,[]⟩ k/\Nat.beq s r=false/\g q=some (.obj cs)/\Nat.blt k cs.length=true/\g2 q=some (.obj ct)/\Nat.blt k ct.length=true)/\okS g g2 r l=true:=by
 unfold okS at h
 split at h
 ·rename_i e; cases e
 ·rename_i s' q k l' e
  cases e
  rw [Bool.and_eq_true,Bool.and_eq_true] at h
  obtain ⟨⟨h1,h2⟩,h3⟩:=h
  split at h2
  ·rename_i cs ct e1 e2
   rw [Bool.and_eq_true] at h2
   exact ⟨⟨q,k,cs,ct,rfl,by simpa using h1,e1,h2.1,e2,h2.2⟩,h3⟩
  ·cases h2
 ·cases h
theorem get_ne {g:Gst}{r s:Nat}{x y:AV}(h:Nat.beq s r=false) (hx:upd g r x s=some y):g s=some y:=by
 unfold upd at hx
 rw [if_neg (by rintro rfl; rw [Nat.beq_refl] at h; cases h)] at hx
 exact hx
theorem pick_cons {g:Gst}{k:Nat}{ks:List Nat}{G1:List (Nat × AV)}(h:pick g (k::ks)=some G1):∃ x l,g k=some x/\pick g ks=some l/\G1=(k,x)::l:=by
 unfold pick at h
 split at h
 ·rename_i x hx
  split at h
  ·rename_i l hl
   cases h; exact ⟨x,l,hx,hl,rfl⟩
  ·cases h
 ·cases h
theorem pick_S2 {g g2:Gst}{r:Nat}{cs2:List AV}{T:List (Nat × AV)}(hT:TrS g g2 r cs2 T):∀ {ks:List Nat}{G1:List (Nat × AV)},pick (upd g r (.obj cs2)) ks=some G1->(∀ e∈G1,NR e.2)->TrS g g2 r cs2 (G1++T)
 | [],_,h,_=>by cases h; exact hT
 | k::ks,G1,h,hn=>by
  obtain ⟨x,l,hx,hl,rfl⟩:=pick_cons h
  have ih:=pick_S2 hT hl fun e h=>hn e (by simp [h])
  have hx':=hn (k,x) (by simp)
  by_cases e:Nat.beq k r=true
  ·have:=Nat.eq_of_beq_eq_true e
   subst this
   simp only [upd,if_true] at hx
   cases hx
   have:NRl cs2:=⟨by cases hx' with | obj h=>exact h⟩
   exact .b rfl ih
  ·have:NRc x:=⟨hx'⟩
   have e:=Bool.eq_false_iff.2 e
   exact .n e (get_ne e hx) ih
theorem pick_Sp {g g2:Gst}{r:Nat}{cs2:List AV}:∀ {ks:List Nat}{G1:List (Nat × AV)},pick (upd g r (.obj cs2)) ks=some G1->okS g g2 r G1=true->TrS g g2 r cs2 G1
 | [],_,h,_=>by cases h; exact .nil
 | k::ks,G1,h,hn=>by
  obtain ⟨x,l,hx,hl,rfl⟩:=pick_cons h
  obtain ⟨⟨q,j,cs,ct,rfl,h1,h2,h3,h4,h5⟩,h6⟩:=okS_spec hn
  exact .p h1 (get_ne h1 hx) h2 h3 h4 h5 (pick_Sp hl h6)
theorem pick_K2 {g g2:Gst}{ex:List Nat}{T:List (Nat × AV)}(hT:TrK ex g g2 T):∀ {ks:List Nat}{G1:List (Nat × AV)},pick g ks=some G1->(ks.all fun k=>!ex.elem k)=true->(∀ e∈G1,NR e.2)->TrK ex g g2 (G1++T)
 | [],_,h,_,_=>by cases h; exact hT
 | k::ks,G1,h,he,hn=>by
  obtain ⟨x,l,hx,hl,rfl⟩:=pick_cons h
  rw [List.all_cons,Bool.and_eq_true] at he
  have:NRc x:=⟨hn (k,x) (by simp)⟩
  exact .n (by simpa using he.1) hx (pick_K2 hT hl he.2 fun e h=>hn e (by simp [h]))
theorem pick_Kp {g g2:Gst}{ex:List Nat}{r:Nat}:∀ {ks:List Nat}{G1:List (Nat × AV)},pick g ks=some G1->(ks.all fun k=>!ex.elem k)=true->okS g g2 r G1=true->TrK ex g g2 G1
 | [],_,h,_,_=>by cases h; exact .nil
 | k::ks,G1,h,he,hn=>by
  obtain ⟨x,l,hx,hl,rfl⟩:=pick_cons h
  rw [List.all_cons,Bool.and_eq_true] at he
  obtain ⟨⟨q,j,cs,ct,rfl,h1,h2,h3,h4,h5⟩,h6⟩:=okS_spec hn
  exact .p (by simpa using he.1) hx h4 h5 (pick_Kp hl he.2 h6)
def appF:List (Nat × AV)->List (Nat × AV)->Option (List (Nat × AV))
 | [],T=>some T
 | p::l,T=>match appF l T with
  | some r=>some (p::r)
  | none=>none
theorem appF_eq:∀ {l T r:List (Nat × AV)},appF l T=some r->r=l++T
 | [],_,_,h=>by cases h; rfl
 | p::l,T,r,h=>by
  unfold appF at h
  split at h
  ·rename_i r' hr
   cases h; rw [appF_eq hr]; rfl
  ·cases h
theorem bnn {m:Option (List AV)}{ys:List AV}(h:m.bind nfs=some ys):m=some ys:=by
 cases hb:m with
 | none=>rw [hb] at h; cases h
 | some c=>rw [hb] at h; rw [nfs_eq h]
theorem PC.vq {P:Program}{g:Gst}{xs:List Operand}{tys:Array TypeId}{f:FuncId}{ys args:List AV}{outs:List (Option AV)}{res:AV}(hx:(opds g xs).bind nfs=some ys) (hv:VwL g ys args) (hcon:Con P f args outs res) [hr:OOc res] (hf:callT P f=true:=by kernel_rfl) (ho:noneB outs=true:=by rfl):PC P g (.call { callee:=.value (.func f),args:=xs.toArray,argTypes:=tys }) res:=PC.vw (bnn hx) hv hcon hf ho
def EOk (ks kr:List Nat) (P:Program) (N:Rm) (g:Gst) (o:Oper) (g':Gst):Prop:=EO P N g o g'
section
variable {α:Type}{P:Program}{N:Rm}{ops:Array Oper}{g:Gst}{K:Gst->Prop}{l:List Oper}{d r k0 s:Nat}{ty t:TypeId}{pos:String}{after:Array Edge}{a b x:Operand}{cs cs' cs1 cs2:List AV}{y:AV}{G2 Gn Gr:List (Nat × AV)}{u:Option (Nat × Bool)}{p q:Place}{ks kr:List Nat}{en:En α}{L M:List α}
theorem EK.sva (ha:Rd g a (.ptr ⟨r,[]⟩ k0):=by exact .q) (hs:g r=some (.obj cs):=by rfl) (hb:Rd g b (.agg cs'):=by exact .q) (he:splo cs k0 cs'=some cs2:=by rfl) (hp:pick (upd g r (.obj cs2)) ks=some Gn:=by rfl) (hq:pick (upd g r (.obj cs2)) kr=some Gr:=by rfl) (hG:appF Gn Gr=some G2:=by rfl) (hok:okS g (get G2) r Gr=true:=by rfl) (hz:sizeT P t cs'.length=true:=by kernel_rfl) (h0:Nat.blt 0 cs'.length=true:=by rfl) (hr:(get G2 r).isSome=true:=by rfl) [hn:NRl cs'] [hno:NRl cs] [hg:NRg Gn]:EOk ks kr P N g ⟨none,.store t a b,ty,pos,after,none⟩ (get G2) :=
 .sO rfl rfl hs ha hb rfl hz (Nat.ble_eq_true_of_le (splo_eq he).2) h0 (splo_eq he).1 hr (by have:=appF_eq hG; subst this; exact pick_S2 (pick_Sp hq hok) hp hg.p)
theorem EK.sv1 (ha:Rd g a (.ptr ⟨r,[]⟩ k0):=by exact .q) (hs:g r=some (.obj cs):=by rfl) (hb:Rd g b y:=by exact .q) (hc:cellsP y=some [y]:=by rfl) (he:splo cs k0 [y]=some cs2:=by rfl) (hp:pick (upd g r (.obj cs2)) ks=some Gn:=by rfl) (hq:pick (upd g r (.obj cs2)) kr=some Gr:=by rfl) (hG:appF Gn Gr=some G2:=by rfl) (hok:okS g (get G2) r Gr=true:=by rfl) (hz:sizeT P t 1=true:=by kernel_rfl) (hr:(get G2 r).isSome=true:=by rfl) [hn:NRc y] [hno:NRl cs] [hg:NRg Gn]:EOk ks kr P N g ⟨none,.store t a b,ty,pos,after,none⟩ (get G2) :=
 .sO rfl rfl hs ha hb hc hz (Nat.ble_eq_true_of_le (splo_eq he).2) rfl (splo_eq he).1 hr (by have:=appF_eq hG; subst this; exact pick_S2 (pick_Sp hq hok) hp hg.p)
theorem EK.ar (hx:Rd g x (.brw en.z p L.length):=by exact .q) (hp:atP g p=some (oR en L):=by rfl) (hk:pick g ks=some Gn:=by rfl) (hne:(ks.all fun k=>![p.root].elem k)=true:=by rfl) (hq:pick g kr=some Gr:=by rfl) (hG:appF Gn Gr=some G2:=by rfl) (hne2:(kr.all fun k=>![p.root].elem k)=true:=by rfl) (hok:okS g (get G2) 1000000 Gr=true:=by rfl) (hg:get G2 d=none:=by rfl) (hN:N.ok d=true:=by rfl) [hn:NRg Gn]:EOk ks kr P N g ⟨some d,.assign x,ty,pos,after,u⟩ (upd (get G2) d (oR en L)) :=
 .aR rfl rfl hx hp (by have:=appF_eq hG; subst this; exact pick_K2 (pick_Kp hq hne2 hok) hk hne hn.p) hg hN
theorem EK.af (hx:Rd g x y:=by exact .q) (hk:pick g ks=some G2:=by rfl) (hg:get G2 d=none:=by rfl) (hN:N.ok d=true:=by rfl) [hy:NRc y] [hn:NRg G2]:EOk ks kr P N g ⟨some d,.assign x,ty,pos,after,u⟩ (upd (get G2) d y) :=
 .aG rfl rfl hx (.f .nil) .refl (pick_trim hk hn.p) hg hN
theorem EK.apq (hx:Rd g x (.brw en.z ⟨s,[]⟩ (L.length+M.length)):=by exact .q) (hs:g s=some (.pend en.z q L.length M.length (rowc en M)):=by rfl) (hp:atP g q=some (oR en L):=by rfl) (hk:pick g ks=some Gn:=by rfl) (hne:(ks.all fun k=>![s,q.root].elem k)=true:=by rfl) (hqq:pick g kr=some Gr:=by rfl) (hG:appF Gn Gr=some G2:=by rfl) (hne2:(kr.all fun k=>![s,q.root].elem k)=true:=by rfl) (hok:okS g (get G2) 1000000 Gr=true:=by rfl) (hq:Nat.beq q.root s=false:=by rfl) (hg:get G2 d=none:=by rfl) (hN:N.ok d=true:=by rfl) [hn:NRg Gn]:EOk ks kr P N g ⟨some d,.assign x,ty,pos,after,u⟩ (upd (get G2) d (oR en (L++M))) :=
 .aP rfl rfl hx hs hp hq (by have:=appF_eq hG; subst this; exact pick_K2 (pick_Kp hqq hne2 hok) hk hne hn.p) hg hN
theorem EK.se {yy y2:α}{m:Int}{o:Nat}{x0 x2 y0:AV}(ha:Rd g a (.ptr p (m.toNat * en.z+o)):=by exact .q) (hp:atP g p=some (oR en L):=by rfl) (h:idx L m=some yy:=by assumption) (hb:Rd g b y:=by exact .q) (hc:cellsP y=some cs':=by rfl) (he:splice (en.cells yy) o cs'=en.cells y2:=by rfl) (hx0:setP g p (oR en (L.set m.toNat y2)) p.root=some x0:=by rfl) (hx2:nfo x0=some x2:=by rfl) (hk:pick (upd g p.root x2) ks=some G2:=by rfl) (hz:sizeT P t cs'.length=true:=by kernel_rfl) (hlen:Nat.ble (o+cs'.length) en.z=true:=by rfl) (h0:Nat.blt 0 cs'.length=true:=by rfl) (hr:(get G2 p.root).isSome=true:=by rfl) (hy0:g p.root=some y0:=by rfl) [hn:NRc y] [hno:NRc y0] [hg:NRg G2]:EOk ks kr P N g ⟨none,.store t a b,ty,pos,after,none⟩ (get G2) :=
 .stE rfl rfl ha hb hp h hz hc he hlen h0 (by rw [hx0,nfo_eq hx2]) hr hy0 (pick_trX hk hg.p)
theorem EK.sg {g1:Gst}{y1:AV}(hb:Rd g b y) (ht:TkL g [y] [y1] g1) (ha:Rd g a (.ptr ⟨r,[]⟩ k0):=by exact .q) (hc:cellsP y1=some cs':=by rfl) (hs:g1 r=some (.obj cs1):=by rfl) (he:splo cs1 k0 cs'=some cs2:=by rfl) (hk:pick (upd g1 r (.obj cs2)) ks=some Gn:=by rfl) (hk2:pick (upd g1 r (.obj cs2)) kr=some Gr:=by rfl) (hG:appF Gn Gr=some G2:=by rfl) (hok:okS g1 (get G2) r Gr=true:=by rfl) (hz:sizeT P t cs'.length=true:=by kernel_rfl) (h0:Nat.blt 0 cs'.length=true:=by rfl) (hr:(get G2 r).isSome=true:=by rfl) [hno:NRl cs1] [hg:NRg Gn]:EOk ks kr P N g ⟨none,.store t a b,ty,pos,after,none⟩ (get G2) :=
 .stB rfl rfl ha hb ht .refl hc hz hs (Nat.ble_eq_true_of_le (splo_eq he).2) h0 (splo_eq he).1 hr (by have:=appF_eq hG; subst this; exact pick_S2 (pick_Sp hk2 hok) hk hg.p)
theorem EK.ag {g1:Gst}{y1:AV}(hb:Rd g x y) (ht:TkL g [y] [y1] g1) (hk:pick g1 ks=some G2:=by rfl) (hg:get G2 d=none:=by rfl) (hN:N.ok d=true:=by rfl) [hn:NRg G2]:EOk ks kr P N g ⟨some d,.assign x,ty,pos,after,u⟩ (upd (get G2) d y1) :=
 .aG rfl rfl hb ht .refl (pick_trim hk hn.p) hg hN
theorem EK.ap2 {M2:List α}{s2:Nat}(hx:Rd g x (.brw en.z ⟨s,[]⟩ (L.length+M2.length+M.length)):=by exact .q) (hs:g s=some (.pend en.z ⟨s2,[]⟩ (L.length+M2.length) M.length (rowc en M)):=by rfl) (hs2:g s2=some (.pend en.z q L.length M2.length (rowc en M2)):=by rfl) (hp:atP g q=some (oR en L):=by rfl) (hq:Nat.beq q.root s=false:=by rfl) (hq2:Nat.beq q.root s2=false:=by rfl) (hss:Nat.beq s s2=false:=by rfl) (hk:pick g ks=some Gn:=by rfl) (hne:(ks.all fun k=>![s,s2,q.root].elem k)=true:=by rfl) (hqq:pick g kr=some Gr:=by rfl) (hG:appF Gn Gr=some G2:=by rfl) (hne2:(kr.all fun k=>![s,s2,q.root].elem k)=true:=by rfl) (hok:okS g (get G2) 1000000 Gr=true:=by rfl) (hg:get G2 d=none:=by rfl) (hN:N.ok d=true:=by rfl) [hn:NRg Gn]:EOk ks kr P N g ⟨some d,.assign x,ty,pos,after,u⟩ (upd (get G2) d (oR en (L++M2++M))) :=
 .aP2 rfl rfl hx hs hs2 hp hq hq2 hss (by have:=appF_eq hG; subst this; exact pick_K2 (pick_Kp hqq hne2 hok) hk hne hn.p) hg hN
theorem EK.sp (hb:Rd g b (.brw en.z ⟨s,[]⟩ (L.length+M.length)):=by exact .q) (hps:g s=some (.pend en.z q L.length M.length (rowc en M)):=by rfl) (hp:atP g q=some (oR en L):=by rfl) (ha:Rd g a (.ptr ⟨r,[]⟩ k0):=by exact .q) (hs:setP (setP g ⟨s,[]⟩ .dead) q .dead r=some (.obj cs1):=by rfl) (he:splo cs1 k0 [oR en (L++M)]=some cs2:=by rfl) (hk:pick (upd (setP (setP g ⟨s,[]⟩ .dead) q .dead) r (.obj cs2)) ks=some Gn:=by rfl) (hk2:pick (upd (setP (setP g ⟨s,[]⟩ .dead) q .dead) r (.obj cs2)) kr=some Gr:=by rfl) (hG:appF Gn Gr=some G2:=by rfl) (hok:okS (setP (setP g ⟨s,[]⟩ .dead) q .dead) (get G2) r Gr=true:=by rfl) (hq:Nat.beq q.root s=false:=by rfl) (hz:sizeT P t 1=true:=by kernel_rfl) (hr:(get G2 r).isSome=true:=by rfl) [hno:NRl cs1] [hg:NRg Gn]:EOk ks kr P N g ⟨none,.store t a b,ty,pos,after,none⟩ (get G2) :=
 .stP rfl rfl ha hb hps hp hq .ns .rf rfl rfl hz hs (Nat.ble_eq_true_of_le (splo_eq he).2) (splo_eq he).1 hr (by have:=appF_eq hG; subst this; exact pick_S2 (pick_Sp hk2 hok) hk hg.p)
theorem EK.sw (hb:Rd g b (.brw en.z p L.length):=by exact .q) (hp:atP g p=some (oR en L):=by rfl) (ha:Rd g a (.ptr ⟨r,[]⟩ k0):=by exact .q) (hs:setP g p .dead r=some (.obj cs1):=by rfl) (he:splo cs1 k0 [oR en L]=some cs2:=by rfl) (hk:pick (upd (setP g p .dead) r (.obj cs2)) ks=some Gn:=by rfl) (hk2:pick (upd (setP g p .dead) r (.obj cs2)) kr=some Gr:=by rfl) (hG:appF Gn Gr=some G2:=by rfl) (hok:okS (setP g p .dead) (get G2) r Gr=true:=by rfl) (hz:sizeT P t 1=true:=by kernel_rfl) (hr:(get G2 r).isSome=true:=by rfl) [hno:NRl cs1] [hg:NRg Gn]:EOk ks kr P N g ⟨none,.store t a b,ty,pos,after,none⟩ (get G2) :=
 .stB rfl rfl ha hb (.r hp .nil) .refl rfl hz hs (Nat.ble_eq_true_of_le (splo_eq he).2) rfl (splo_eq he).1 hr (by have:=appF_eq hG; subst this; exact pick_S2 (pick_Sp hk2 hok) hk hg.p)
end
def lentF:Nat->List (Option AV)->Option (Nat × List AV)
 | _,[]=>none
 | k,some (.obj cs)::_=>some (k,cs)
 | k,none::l=>lentF (k+1) l
 | _,_=>none
def lroot (g:Gst) (xs:List Operand) (k:Nat):Option Nat :=
 match xs[k]? with
 | some (.tmp t)=>match g t with
  | some (.ptr ⟨r,[]⟩ 0)=>some r
  | some (.obj _)=>some t
  | _=>none
 | _=>none
theorem EK.ln {P:Program}{N:Rm}{g:Gst}{d r k0:Nat}{ty:TypeId}{pos:String}{after:Array Edge}{u:Option (Nat × Bool)}{f:FuncId}{xs:List Operand}{tys:Array TypeId}{ys args cs cs':List AV}{outs:List (Option AV)}{res:AV}{ks:List Nat}{G2:List (Nat × AV)}
  (hcon:Con P f args outs res) (hl:lentF 0 outs=some (k0,cs')) (hr:lroot g xs k0=some r) (hp:pick (setP g ⟨r,[]⟩ .dead) ks=some G2) (hx:(opds g xs).bind nfs=some ys) (ha:LnA r cs k0 0 ys args) (hs:g r=some (.obj cs):=by rfl) (he:outs=out1 args.length k0 (.obj cs'):=by rfl) (hk0:Nat.blt k0 ys.length=true:=by rfl) (hf:callT P f=true:=by kernel_rfl) (hg:get G2 d=none:=by rfl) (hrd:Nat.beq r d=false:=by rfl) (hp4:pick (get ((r,.obj cs')::G2)) ks=some G2:=by rfl) (hN:N.ok d=true:=by rfl) [hno:NRl cs] [hr':NRc res] [hno':NRl cs'] [hn:NRg G2] :
  EO P N g ⟨some d,.call { callee:=.value (.func f),args:=xs.toArray,argTypes:=tys },ty,pos,after,u⟩ (get ((d,res)::(r,.obj cs')::G2)) :=
 .call rfl hN (CallOk.ln (A:=[]) rfl rfl (bnn hx) hs ha hk0 (he ▸ hcon) hf (pick_trim hp hn.p) hg hrd (pick_trim hp4 hn.p) .nil hN)
def accG:Acc->List (Nat × AV)->List (Nat × AV)
 | [],G=>G
 | (_,d,some x)::acc,G=>(d,x)::accG acc G
 | (_,_,none)::acc,G=>accG acc G
def DJ (js:List Nat) (P:Program) (N:Rm) (ops:Array Oper) (AT:List (List Nat)) (g0:Gst) (i:Nat) (acc:Acc) (l:List Oper) (K:Gst->Prop):Prop:=DL P N ops AT g0 i acc l K
section
variable {α β:Type}{P:Program}{N:Rm}{ops:Array Oper}{AT:List (List Nat)}{acc:Acc}{E ks:List Nat}{t x y z:HT}{A B c:Code}{G G1 G2:List (Nat × AV)}{g:Gst}{g':Gst}{Φ Φ':Exit->Gst->Prop}{Ψ:Gst->Prop}{K:Gst->Prop}{id k s d i j0 j s':Nat}{b cc:Bool}{l:List Oper}{o:Oper}{op:Op}{ty ty':TypeId}{pos:String}{after:Array Edge}{v y':AV}{u:Option (Nat × Bool)}{a a1 a2:Operand}
theorem WH.rtg (h:WH E t P N .ret G Φ):WH E t P N .ret G Φ:=h
theorem RunL.ts (h:RunL P N ops (⟨none,.store ty a1 a2,ty',pos,after,u⟩::l) g K):RunL P N ops (⟨none,.store ty a1 a2,ty',pos,after,u⟩::l) g K:=h
theorem DJ.ts {js:List Nat}(h:DJ js P N ops AT g i acc (⟨none,.store ty a1 a2,ty',pos,after,u⟩::l) K):DJ js P N ops AT g i acc (⟨none,.store ty a1 a2,ty',pos,after,u⟩::l) K:=h
theorem DJ.tg (op:Op) (u:Option (Nat × Bool)) {js:List Nat}(h:DJ js P N ops AT g i acc (⟨some d,op,ty,pos,after,u⟩::l) K):DJ js P N ops AT g i acc (⟨some d,op,ty,pos,after,u⟩::l) K:=h
theorem DJ.nl {js:List Nat}(h:DJ js P N ops AT g i acc [] K):DJ js P N ops AT g i acc [] K:=h
def rdL (g:Gst) (d:Nat):Operand->Option AV
 | .tmp t=>bif Nat.beq t d then none else rdP g t
 | .const v=>rdF g (.const v)
 | _=>none
theorem Rd.ov {g:Gst}{a:Operand}{y:AV}(h:rdL g d a=some y):Rd (del g d) a y:=by
 unfold rdL at h
 split at h
 ·rename_i t
  cases hb:Nat.beq t d with
  | true=>rw [hb] at h; cases h
  | false =>
   rw [hb] at h
   have hne:t≠d:=Nat.ne_of_beq_eq_false hb
   refine Rd.ql ?_
   unfold rdP at h ⊢
   simpa [del,hne] using h
 ·exact .q (by unfold rdF at h ⊢; exact h)
 ·cases h
theorem Za {y':AV}(hx:rdL (get G) d a=some v) (hf:get G d=some y') (hl:leaf y'=true) (hk:RunL P N ops l (get ((d,v)::G)) K) (hN:N.ok d=true:=by rfl):RunL P N ops (⟨some d,.assign a,ty,pos,after,none⟩::l) (get G) K:=.over (.assign (Rd.ov hx).opd) hN hf hl (getc ▸ hk)
theorem Zm {y':AV}(hx:rdL (get G) d a=some v) (hf:get G d=some y') (hl:leaf y'=true) (hk:RunL P N ops l (get ((d,v)::G)) K) (hN:N.ok d=true:=by rfl):RunL P N ops (⟨some d,.move a,ty,pos,after,none⟩::l) (get G) K:=.over (.move (Rd.ov hx).opd) hN hf hl (getc ▸ hk)
theorem Es {kr:List Nat}(hk0:ksX [] G=some ks) (hk1:ksP G [] [] G=some kr) (he:EOk ks kr P N (get G) o (get G2)) (hk:RunL P N ops l (get G2) K) (hg:o.guard=none:=by rfl):RunL P N ops (o::l) (get G) K:=.ef hg he hk
theorem Eln {f:FuncId}{xs:List Operand}{tys:Array TypeId}{ys args cs cs':List AV}{outs:List (Option AV)}{res:AV}{r k0:Nat}(hcon:Con P f args outs res) (hl:lentF 0 outs=some (k0,cs')) (hr:lroot (get G) xs k0=some r) (hk:ksX [r,d] G=some ks) (hp:pick (setP (get G) ⟨r,[]⟩ .dead) ks=some G2) (hx:(opds (get G) xs).bind nfs=some ys) (ha:LnA r cs k0 0 ys args) (hK:RunL P N ops l (get ((d,res)::(r,.obj cs')::G2)) K) (hs:get G r=some (.obj cs):=by rfl) (he:outs=out1 args.length k0 (.obj cs'):=by rfl) (hk0:Nat.blt k0 ys.length=true:=by rfl) (hf:callT P f=true:=by kernel_rfl) (hg:get G2 d=none:=by rfl) (hrd:Nat.beq r d=false:=by rfl) (hp4:pick (get ((r,.obj cs')::G2)) ks=some G2:=by rfl) (hN:N.ok d=true:=by rfl) [hno:NRl cs] [hr':NRc res] [hno':NRl cs'] [hn:NRg G2] :
  RunL P N ops (⟨some d,.call { callee:=.value (.func f),args:=xs.toArray,argTypes:=tys },ty,pos,after,none⟩::l) (get G) K:=.ef rfl (EK.ln hcon hl hr hp hx ha hs he hk0 hf hg hrd hp4 hN) hK
theorem Dln {js:List Nat}{f:FuncId}{xs:List Operand}{tys:Array TypeId}{ys args cs cs':List AV}{outs:List (Option AV)}{res:AV}{r k0:Nat}(hcon:Con P f args outs res) (hl:lentF 0 outs=some (k0,cs')) (hr:lroot (visG (get G) (fun _=>true) acc) xs k0=some r) (hk:ksX [r,d] (accG acc G)=some ks) (hp:pick (setP (visG (get G) (fun _=>true) acc) ⟨r,[]⟩ .dead) ks=some G2) (hx:(opds (visG (get G) (fun _=>true) acc) xs).bind nfs=some ys) (ha:LnA r cs k0 0 ys args) (hK:DJ js P N ops AT (get ((d,res)::(r,.obj cs')::G2)) (j0+1) [] l K) (hs:visG (get G) (fun _=>true) acc r=some (.obj cs):=by rfl) (he:outs=out1 args.length k0 (.obj cs'):=by rfl) (hk0:Nat.blt k0 ys.length=true:=by rfl) (hf:callT P f=true:=by kernel_rfl) (hg:get G2 d=none:=by rfl) (hrd:Nat.beq r d=false:=by rfl) (hp4:pick (get ((r,.obj cs')::G2)) ks=some G2:=by rfl) (hN:N.ok d=true:=by rfl) [hno:NRl cs] [hr':NRc res] [hno':NRl cs'] [hn:NRg G2] (hpd:ndr ((acc.filterMap pendPlace).map Place.root)=true:=by rfl) (hp0:npB G=true:=by rfl) (hj:Nat.beq ops.size (j0+l.length+1)=true:=by rfl)
  (ha':(List.range j0).all (fun k=>(AT.getD j0 []).contains k)=true:=by kernel_rfl) (hb:(List.range ops.size).all (fun k=>Nat.ble k j0||(AT.getD k []).contains j0)=true:=by kernel_rfl) :
  DJ (j0::js) P N ops AT (get G) i acc (⟨some d,.call { callee:=.value (.func f),args:=xs.toArray,argTypes:=tys },ty,pos,after,none⟩::l) K:=DL.bp j0 (EK.ln hcon hl hr hp hx ha hs he hk0 hf hg hrd hp4 hN) rfl hpd hp0 hj ha' hb hK
theorem Em {kr:List Nat}(hk0:ksX (d::roots G a) G=some ks) (hk1:ksP G (d::roots G a) [] G=some kr) (he:EOk ks kr P N (get G) ⟨some d,.assign a,ty,pos,after,none⟩ (upd (get G2) d v)) (hk:RunL P N ops l (get ((d,v)::G2)) K):RunL P N ops (⟨some d,.assign a,ty,pos,after,none⟩::l) (get G) K:=.ea rfl he (getc ▸ hk)
theorem Vb {L:List α}{f:List α->Option β}{rr:β}{M:List α}{e nn z':Nat}{tt:TypeId}{parts:Array (Nat × Operand)}{ys:List AV}{en:En α}(h:(appO L M).bind f=some rr) [het:ET P tt α en] [ht:F3 P tt e z'] (hk:RunL P N ops l (get ((d,iR en M)::G)) K) (hx:(opds (get G) (parts.toList.map (·.2))).bind nfs=some ys:=by rfl) (hc:boxAll ys=some (rowc en M):=by rfl) (hz:ys.all (fun y=>match boxCells y with | some c=>Nat.beq c.length en.z | none=>false)=true:=by rfl) (hp:parts.toList=(parts.toList.map (·.2)).mapIdx (fun i x=>(i,x)):=by rfl) (hnn:(parts.toList.map (·.2)).length=nn:=by rfl) (hl:M.length=nn:=by rfl) (hez:z'=en.z:=by rfl) (hzero:zeroT P e en.z=true:=by kernel_rfl) (hb:Nat.ble (nn * en.z) 16777216=true:=by rfl) (hb2:Nat.ble nn 16777216=true:=by rfl) [hv:Vw (oR en M) (iR en M)] (hN:N.ok d=true:=by rfl) (hf:get G d=none:=by rfl):RunL P N ops (⟨some d,.buildSlice tt nn parts,ty,pos,after,none⟩::l) (get G) K :=
 .vi (O.bs en M (hez ▸ ht.p) (bnn hx) hc hz hp hnn hl hzero hb hb2) hN hf .none (getc ▸ hk)
theorem Vv (M:List α) {e nn z':Nat}{tt:TypeId}{parts:Array (Nat × Operand)}{ys:List AV}{en:En α}(hs:seenB d l=false) [het:ET P tt α en] [ht:F3 P tt e z'] (hk:RunL P N ops l (get ((d,oR en M)::G)) K) (hx:(opds (get G) (parts.toList.map (·.2))).bind nfs=some ys:=by rfl) (hc:boxAll ys=some (rowc en M):=by rfl) (hz:ys.all (fun y=>match boxCells y with | some c=>Nat.beq c.length en.z | none=>false)=true:=by rfl) (hp:parts.toList=(parts.toList.map (·.2)).mapIdx (fun i x=>(i,x)):=by rfl) (hnn:(parts.toList.map (·.2)).length=nn:=by rfl) (hl:M.length=nn:=by rfl) (hez:z'=en.z:=by rfl) (hzero:zeroT P e en.z=true:=by kernel_rfl) (hb:Nat.ble (nn * en.z) 16777216=true:=by rfl) (hb2:Nat.ble nn 16777216=true:=by rfl) (hN:N.ok d=true:=by rfl) (hf:get G d=none:=by rfl):RunL P N ops (⟨some d,.buildSlice tt nn parts,ty,pos,after,none⟩::l) (get G) K :=
 Vq (O.bs en M (hez ▸ ht.p) (bnn hx) hc hz hp hnn hl hzero hb hb2) hk hN hf
theorem Vl {M:List α}{e nn z':Nat}{tt:TypeId}{parts:Array (Nat × Operand)}{ys:List AV}{en:En α}(hs:seenB d l=true) [het:ET P tt α en] [ht:F3 P tt e z'] (hk:RunL P N ops l (get ((d,iR en M)::G)) K) (hx:(opds (get G) (parts.toList.map (·.2))).bind nfs=some ys:=by rfl) [hd:DecL en ys M] (hp:parts.toList=(parts.toList.map (·.2)).mapIdx (fun i x=>(i,x)):=by rfl) (hnn:(parts.toList.map (·.2)).length=nn:=by rfl) (hl:ys.length=nn:=by rfl) (hez:z'=en.z:=by rfl) (hzero:zeroT P e en.z=true:=by kernel_rfl) (hb:Nat.ble (nn * en.z) 16777216=true:=by rfl) (hb2:Nat.ble nn 16777216=true:=by rfl) [hv:Vw (oR en M) (iR en M)] (hN:N.ok d=true:=by rfl) (hf:get G d=none:=by rfl):RunL P N ops (⟨some d,.buildSlice tt nn parts,ty,pos,after,none⟩::l) (get G) K :=
 .vi (O.bs en M (hez ▸ ht.p) (bnn hx) hd.p.1 hd.p.2.1 hp hnn (hd.p.2.2.trans hl) hzero hb hb2) hN hf .none (getc ▸ hk)
theorem Vn {M:List α}{e nn z':Nat}{tt:TypeId}{parts:Array (Nat × Operand)}{ys:List AV}{en:En α}(hs:seenB d l=false) [het:ET P tt α en] [ht:F3 P tt e z'] (hk:RunL P N ops l (get ((d,oR en M)::G)) K) (hx:(opds (get G) (parts.toList.map (·.2))).bind nfs=some ys:=by rfl) [hd:DecL en ys M] (hp:parts.toList=(parts.toList.map (·.2)).mapIdx (fun i x=>(i,x)):=by rfl) (hnn:(parts.toList.map (·.2)).length=nn:=by rfl) (hl:ys.length=nn:=by rfl) (hez:z'=en.z:=by rfl) (hzero:zeroT P e en.z=true:=by kernel_rfl) (hb:Nat.ble (nn * en.z) 16777216=true:=by rfl) (hb2:Nat.ble nn 16777216=true:=by rfl) (hN:N.ok d=true:=by rfl) (hf:get G d=none:=by rfl):RunL P N ops (⟨some d,.buildSlice tt nn parts,ty,pos,after,none⟩::l) (get G) K :=
 Vq (O.bs en M (hez ▸ ht.p) (bnn hx) hd.p.1 hd.p.2.1 hp hnn (hd.p.2.2.trans hl) hzero hb hb2) hk hN hf
theorem Dq {js:List Nat}(hp:PS P (vis AT g j0 acc) op ty v) (hk:DJ js P N ops AT g i ((j0,d,some v)::acc) l K) (hj:Nat.beq ops.size (j0+l.length+1)=true:=by rfl) (hf:g d=none:=by rfl) (hn:acc.all (fun e=>!Nat.beq e.2.1 d)=true:=by rfl) (hN:N.ok d=true:=by rfl):DJ (j0::js) P N ops AT g i acc (⟨some d,op,ty,pos,after,none⟩::l) K:=Dv _ hp hk hj hf hn hN
theorem Dy {js:List Nat}(hp:PS P (vis AT g j0 acc) op ty v) (hk:DJ js P N ops AT g i ((j0,d,some v)::acc) l K) (h:(ops[j]?).bind (·.dst)=some s':=by rfl) (hg:vis AT g j0 acc s'=some (.lit (.bool cc)):=by rfl) (hb:cc=b:=by (first | rfl | assumption)) (hj:Nat.beq ops.size (j0+l.length+1)=true:=by rfl) (hf:g d=none:=by rfl) (hn:acc.all (fun e=>!Nat.beq e.2.1 d)=true:=by rfl) (hN:N.ok d=true:=by rfl):DJ (j0::js) P N ops AT g i acc (⟨some d,op,ty,pos,after,some (j,b)⟩::l) K:=.v _ hp hj hf hn hN (.yb h hg hb) hk
theorem Dk {js:List Nat}(hp:PC P (vis AT g j0 acc) op v) (hk:DJ js P N ops AT g i ((j0,d,some v)::acc) l K) (hj:Nat.beq ops.size (j0+l.length+1)=true:=by rfl) (hf:g d=none:=by rfl) (hn:acc.all (fun e=>!Nat.beq e.2.1 d)=true:=by rfl) (hN:N.ok d=true:=by rfl):DJ (j0::js) P N ops AT g i acc (⟨some d,op,ty,pos,after,none⟩::l) K:=.c _ hp hj hf hn hN .none hk
theorem Dg {js:List Nat}(hp:PC P (vis AT g j0 acc) op v) (hk:DJ js P N ops AT g i ((j0,d,some v)::acc) l K) (h:(ops[j]?).bind (·.dst)=some s':=by rfl) (hg:vis AT g j0 acc s'=some (.lit (.bool cc)):=by rfl) (hb:cc=b:=by (first | rfl | assumption)) (hj:Nat.beq ops.size (j0+l.length+1)=true:=by rfl) (hf:g d=none:=by rfl) (hn:acc.all (fun e=>!Nat.beq e.2.1 d)=true:=by rfl) (hN:N.ok d=true:=by rfl):DJ (j0::js) P N ops AT g i acc (⟨some d,op,ty,pos,after,some (j,b)⟩::l) K:=.c _ hp hj hf hn hN (.yb h hg hb) hk
theorem Ds' {js:List Nat}(hk:DJ js P N ops AT g i ((j0,d,some (.tup []))::acc) l K) (h:(ops[j]?).bind (·.dst)=some s':=by rfl) (hg:vis AT g j0 acc s'=some (.lit (.bool cc)):=by rfl) (hb:cc=!b:=by (first | rfl | assumption)) (hj:Nat.beq ops.size (j0+l.length+1)=true:=by rfl) (hf:g d=none:=by rfl) (hn:acc.all (fun e=>!Nat.beq e.2.1 d)=true:=by rfl) (hN:N.ok d=true:=by rfl):DJ (j0::js) P N ops AT g i acc (⟨some d,op,ty,pos,after,some (j,b)⟩::l) K:=.ps _ h hg hb hj hf hn hN hk
theorem Du' {js:List Nat}(hk:DJ js P N ops AT g i ((j0,d,some (.tup []))::acc) l K) (h:(ops[j]?).bind (·.dst)=some s':=by rfl) (hg:vis AT g j0 acc s'=some (.tup []):=by rfl) (hj:Nat.beq ops.size (j0+l.length+1)=true:=by rfl) (hf:g d=none:=by rfl) (hn:acc.all (fun e=>!Nat.beq e.2.1 d)=true:=by rfl) (hN:N.ok d=true:=by rfl):DJ (j0::js) P N ops AT g i acc (⟨some d,op,ty,pos,after,some (j,b)⟩::l) K:=.pu _ h hg hj hf hn hN hk
theorem Db {js:List Nat}{L:List α}{f:List α->Option β}{rr:β}{M:List α}{e nn z':Nat}{tt:TypeId}{parts:Array (Nat × Operand)}{ys:List AV}{en:En α}(h:(appO L M).bind f=some rr) [het:ET P tt α en] [ht:F3 P tt e z'] (hk:DJ js P N ops AT g i ((j0,d,some (iR en M))::acc) l K) (hx:(opds (vis AT g j0 acc) (parts.toList.map (·.2))).bind nfs=some ys:=by rfl) (hc:boxAll ys=some (rowc en M):=by rfl) (hz:ys.all (fun y=>match boxCells y with | some c=>Nat.beq c.length en.z | none=>false)=true:=by rfl) (hp:parts.toList=(parts.toList.map (·.2)).mapIdx (fun i x=>(i,x)):=by rfl) (hnn:(parts.toList.map (·.2)).length=nn:=by rfl) (hl:M.length=nn:=by rfl) (hez:z'=en.z:=by rfl) (hzero:zeroT P e en.z=true:=by kernel_rfl) (hb:Nat.ble (nn * en.z) 16777216=true:=by rfl) (hb2:Nat.ble nn 16777216=true:=by rfl) [hv:Vw (oR en M) (iR en M)] (hj:Nat.beq ops.size (j0+l.length+1)=true:=by rfl) (hf:g d=none:=by rfl) (hn:acc.all (fun e=>!Nat.beq e.2.1 d)=true:=by rfl) (hN:N.ok d=true:=by rfl):DJ (j0::js) P N ops AT g i acc (⟨some d,.buildSlice tt nn parts,ty,pos,after,none⟩::l) K :=
 DL.vi j0 (O.bs en M (hez ▸ ht.p) (bnn hx) hc hz hp hnn hl hzero hb hb2) hj hf hn hN .none hk
theorem Du {js:List Nat}(M:List α) {e nn z':Nat}{tt:TypeId}{parts:Array (Nat × Operand)}{ys:List AV}{en:En α}(hs:seenB d l=true) [het:ET P tt α en] [ht:F3 P tt e z'] (hk:DJ js P N ops AT g i ((j0,d,some (iR en M))::acc) l K) (hx:(opds (vis AT g j0 acc) (parts.toList.map (·.2))).bind nfs=some ys:=by rfl) (hc:boxAll ys=some (rowc en M):=by rfl) (hz:ys.all (fun y=>match boxCells y with | some c=>Nat.beq c.length en.z | none=>false)=true:=by rfl) (hp:parts.toList=(parts.toList.map (·.2)).mapIdx (fun i x=>(i,x)):=by rfl) (hnn:(parts.toList.map (·.2)).length=nn:=by rfl) (hl:M.length=nn:=by rfl) (hez:z'=en.z:=by rfl) (hzero:zeroT P e en.z=true:=by kernel_rfl) (hb:Nat.ble (nn * en.z) 16777216=true:=by rfl) (hb2:Nat.ble nn 16777216=true:=by rfl) [hv:Vw (oR en M) (iR en M)] (hj:Nat.beq ops.size (j0+l.length+1)=true:=by rfl) (hf:g d=none:=by rfl) (hn:acc.all (fun e=>!Nat.beq e.2.1 d)=true:=by rfl) (hN:N.ok d=true:=by rfl):DJ (j0::js) P N ops AT g i acc (⟨some d,.buildSlice tt nn parts,ty,pos,after,none⟩::l) K :=
 DL.vi j0 (O.bs en M (hez ▸ ht.p) (bnn hx) hc hz hp hnn hl hzero hb hb2) hj hf hn hN .none hk
theorem Dv2 {js:List Nat}(M:List α) {e nn z':Nat}{tt:TypeId}{parts:Array (Nat × Operand)}{ys:List AV}{en:En α}(hs:seenB d l=false) [het:ET P tt α en] [ht:F3 P tt e z'] (hk:DJ js P N ops AT g i ((j0,d,some (oR en M))::acc) l K) (hx:(opds (vis AT g j0 acc) (parts.toList.map (·.2))).bind nfs=some ys:=by rfl) (hc:boxAll ys=some (rowc en M):=by rfl) (hz:ys.all (fun y=>match boxCells y with | some c=>Nat.beq c.length en.z | none=>false)=true:=by rfl) (hp:parts.toList=(parts.toList.map (·.2)).mapIdx (fun i x=>(i,x)):=by rfl) (hnn:(parts.toList.map (·.2)).length=nn:=by rfl) (hl:M.length=nn:=by rfl) (hez:z'=en.z:=by rfl) (hzero:zeroT P e en.z=true:=by kernel_rfl) (hb:Nat.ble (nn * en.z) 16777216=true:=by rfl) (hb2:Nat.ble nn 16777216=true:=by rfl) (hj:Nat.beq ops.size (j0+l.length+1)=true:=by rfl) (hf:g d=none:=by rfl) (hn:acc.all (fun e=>!Nat.beq e.2.1 d)=true:=by rfl) (hN:N.ok d=true:=by rfl):DJ (j0::js) P N ops AT g i acc (⟨some d,.buildSlice tt nn parts,ty,pos,after,none⟩::l) K :=
 Dq (O.bs en M (hez ▸ ht.p) (bnn hx) hc hz hp hnn hl hzero hb hb2) hk hj hf hn hN
theorem Dl {js:List Nat}{M:List α}{e nn z':Nat}{tt:TypeId}{parts:Array (Nat × Operand)}{ys:List AV}{en:En α}(hs:seenB d l=true) [het:ET P tt α en] [ht:F3 P tt e z'] (hk:DJ js P N ops AT g i ((j0,d,some (iR en M))::acc) l K) (hx:(opds (vis AT g j0 acc) (parts.toList.map (·.2))).bind nfs=some ys:=by rfl) [hd:DecL en ys M] (hp:parts.toList=(parts.toList.map (·.2)).mapIdx (fun i x=>(i,x)):=by rfl) (hnn:(parts.toList.map (·.2)).length=nn:=by rfl) (hl:ys.length=nn:=by rfl) (hez:z'=en.z:=by rfl) (hzero:zeroT P e en.z=true:=by kernel_rfl) (hb:Nat.ble (nn * en.z) 16777216=true:=by rfl) (hb2:Nat.ble nn 16777216=true:=by rfl) [hv:Vw (oR en M) (iR en M)] (hj:Nat.beq ops.size (j0+l.length+1)=true:=by rfl) (hf:g d=none:=by rfl) (hn:acc.all (fun e=>!Nat.beq e.2.1 d)=true:=by rfl) (hN:N.ok d=true:=by rfl):DJ (j0::js) P N ops AT g i acc (⟨some d,.buildSlice tt nn parts,ty,pos,after,none⟩::l) K :=
 DL.vi j0 (O.bs en M (hez ▸ ht.p) (bnn hx) hd.p.1 hd.p.2.1 hp hnn (hd.p.2.2.trans hl) hzero hb hb2) hj hf hn hN .none hk
theorem Dn {js:List Nat}{M:List α}{e nn z':Nat}{tt:TypeId}{parts:Array (Nat × Operand)}{ys:List AV}{en:En α}(hs:seenB d l=false) [het:ET P tt α en] [ht:F3 P tt e z'] (hk:DJ js P N ops AT g i ((j0,d,some (oR en M))::acc) l K) (hx:(opds (vis AT g j0 acc) (parts.toList.map (·.2))).bind nfs=some ys:=by rfl) [hd:DecL en ys M] (hp:parts.toList=(parts.toList.map (·.2)).mapIdx (fun i x=>(i,x)):=by rfl) (hnn:(parts.toList.map (·.2)).length=nn:=by rfl) (hl:ys.length=nn:=by rfl) (hez:z'=en.z:=by rfl) (hzero:zeroT P e en.z=true:=by kernel_rfl) (hb:Nat.ble (nn * en.z) 16777216=true:=by rfl) (hb2:Nat.ble nn 16777216=true:=by rfl) (hj:Nat.beq ops.size (j0+l.length+1)=true:=by rfl) (hf:g d=none:=by rfl) (hn:acc.all (fun e=>!Nat.beq e.2.1 d)=true:=by rfl) (hN:N.ok d=true:=by rfl):DJ (j0::js) P N ops AT g i acc (⟨some d,.buildSlice tt nn parts,ty,pos,after,none⟩::l) K :=
 Dq (O.bs en M (hez ▸ ht.p) (bnn hx) hd.p.1 hd.p.2.1 hp hnn (hd.p.2.2.trans hl) hzero hb hb2) hk hj hf hn hN
theorem Ds {js:List Nat}{kr:List Nat}(hk0:ksX [] (accG acc G)=some ks) (hk1:ksP (accG acc G) [] [] (accG acc G)=some kr) (he:EOk ks kr P N (visG (get G) (fun _=>true) acc) o (get G2)) (hk:DJ js P N ops AT (get G2) (j0+1) [] l K) (hg:o.guard=none:=by rfl) (hpd:ndr ((acc.filterMap pendPlace).map Place.root)=true:=by rfl) (hp0:npB G=true:=by rfl) (hj:Nat.beq ops.size (j0+l.length+1)=true:=by rfl)
  (ha:(List.range j0).all (fun k=>(AT.getD j0 []).contains k)=true:=by kernel_rfl) (hb:(List.range ops.size).all (fun k=>Nat.ble k j0||(AT.getD k []).contains j0)=true:=by kernel_rfl):DJ (j0::js) P N ops AT (get G) i acc (o::l) K:=.bp _ he hg hpd hp0 hj ha hb hk
theorem Dm {js:List Nat}{kr:List Nat}(hk0:ksX (d::roots (accG acc G) a) (accG acc G)=some ks) (hk1:ksP (accG acc G) (d::roots (accG acc G) a) [] (accG acc G)=some kr) (he:EOk ks kr P N (visG (get G) (fun _=>true) acc) ⟨some d,.assign a,ty,pos,after,none⟩ (upd (get G2) d v)) (hk:DJ js P N ops AT (get ((d,v)::G2)) (j0+1) [] l K) (hpd:ndr ((acc.filterMap pendPlace).map Place.root)=true:=by rfl) (hp0:npB G=true:=by rfl) (hj:Nat.beq ops.size (j0+l.length+1)=true:=by rfl)
  (ha:(List.range j0).all (fun k=>(AT.getD j0 []).contains k)=true:=by kernel_rfl) (hb:(List.range ops.size).all (fun k=>Nat.ble k j0||(AT.getD k []).contains j0)=true:=by kernel_rfl):DJ (j0::js) P N ops AT (get G) i acc (⟨some d,.assign a,ty,pos,after,none⟩::l) K:=.bv _ he rfl hpd hp0 hj ha hb hk
theorem DL.end' {K:Gst->Prop}(hz:ndz (acc.filterMap pendPlace)=true) (hp0:npB G=true) (hi:Nat.ble i ops.size=true) (hK:K (visG (get G) (fun _=>true) acc)):DL P N ops AT (get G) i acc [] K:=by
 intro U0 j hP hseg hdrop
 have hj:j=ops.size:=by
  have h1:ops.size<=j:=by
   have:=congrArg List.length hdrop
   rw [List.length_drop,List.length_nil,Array.length_toList] at this
   omega
  have h3:j<=ops.size:=by
   cases hseg with
   | nil=>exact Nat.le_of_ble_eq_true hi
   | step _ ho=>have:=(Array.getElem?_eq_some_iff.1 ho).1; omega
  omega
 subst hj
 exact ⟨_,.fin hseg (ndz_spec hz) (npB_spec hp0),hK⟩
theorem DFq {js:List Nat}{ΨK:HT->List (Nat × AV)->Prop}(hk0:ksE E [] (accG acc G)=some ks) (hp:pick (visG (get G) (fun _=>true) acc) ks=some G1) [hn:NRg G1] (hk:ΨK t G1) (hz:ndz (acc.filterMap pendPlace)=true:=by rfl) (hp0:npB G=true:=by rfl) (hi:Nat.ble i ops.size=true:=by rfl):DJ js P N ops AT (get G) i acc [] (Kc E t ΨK) :=
 .end' hz hp0 hi ⟨G1,(pick_trim (c:=true) (g2:=get G1) hp hn.p).wk,hk⟩
theorem DFj {js:List Nat}{F:α->List (Nat × AV)}{j v:α}(h:some v=some j) (ht:Trim true (visG (get G) (fun _=>true) acc) (get (F v)) (F v)) (hz:ndz (acc.filterMap pendPlace)=true:=by rfl) (hp0:npB G=true:=by rfl) (hi:Nat.ble i ops.size=true:=by rfl):DJ js P N ops AT (get G) i acc [] (Jn F j .normal):=by
 cases h; exact .end' hz hp0 hi ⟨rfl,.wk ht.wk .rf⟩
theorem WH.rd [hm:F0 P] (h:DJ num P N l.toArray AT (get G) 0 [] l (Kc E y fun t G1=>WH E t P N B G1 Φ)) (hA:ancOk l.toArray AT=true:=by kernel_rfl):WH E (.rd id AT y) P N (.seq (.region id l.toArray true) B) G Φ:=by
 obtain ⟨g',h1,G1,h2,h3⟩:=h [] 0 .nil .nil (by simp)
 exact W.seq ((Ev.draw hm.p hA h1).w (W.weaken h2 h3))
theorem WH.rk {m:Option α}{f:α->Option β}{r:β}{L F':α->List (Nat × AV)} [hm:F0 P] (h:m.bind f=some r) (h1:∀ j,m=some j->DJ num P N l.toArray AT (get G) 0 [] l (Jn F' j .normal)) (h2:∀ j,m=some j->f j=some r->WH E y P N B (F' j) Φ)
  (hF:∀ j,pick (ov (L j) G) ks=some (F' j):=by intro j; rfl) (hA:ancOk l.toArray AT=true:=by kernel_rfl):WH E (.rk id AT ks L y) P N (.seq (.region id l.toArray true) B) G Φ:=by
 obtain ⟨j,hj,h⟩:=bnd h
 obtain ⟨g',e1,_,e3⟩:=h1 j hj [] 0 .nil .nil (by simp)
 exact W.seq ((Ev.draw hm.p hA e1).w (W.be (h2 j hj h) e3))
theorem WH.rdt [hm:F0 P] (h:DJ num P N l.toArray AT (get G) 0 [] l (Kc E y fun t G1=>PH E t .normal Φ G1)) (hA:ancOk l.toArray AT=true:=by kernel_rfl):WH E (.rd id AT y) P N (.region id l.toArray true) G Φ:=by
 obtain ⟨g',h1,G1,h2,h3⟩:=h [] 0 .nil .nil (by simp)
 exact (Ev.draw hm.p hA h1).w (h3 g' (.wk h2 .rf))
theorem WH.rkt {m:Option α}{f:α->Option β}{r:β}{L F':α->List (Nat × AV)} [hm:F0 P] (h:m.bind f=some r) (h1:∀ j,m=some j->DJ num P N l.toArray AT (get G) 0 [] l (Jn F' j .normal)) (h2:∀ j,m=some j->f j=some r->PH E y .normal Φ (F' j))
  (hF:∀ j,pick (ov (L j) G) ks=some (F' j):=by intro j; rfl) (hA:ancOk l.toArray AT=true:=by kernel_rfl):WH E (.rk id AT ks L y) P N (.region id l.toArray true) G Φ:=by
 obtain ⟨j,hj,h⟩:=bnd h
 obtain ⟨g',e1,_,e3⟩:=h1 j hj [] 0 .nil .nil (by simp)
 exact (Ev.draw hm.p hA e1).w (h2 j hj h _ e3)
theorem WH.rjt {m:Option α}{f:α->Option β}{r:β}{L F':α->List (Nat × AV)}(h:m.bind f=some r) (h1:∀ j,m=some j->RunL P N l.toArray l (get G) (Jn F' j .normal)) (h2:∀ j,m=some j->f j=some r->PH E y .normal Φ (F' j))
  (hF:∀ j,pick (ov (L j) G) ks=some (F' j):=by intro j; rfl):WH E (.rj id ks L y) P N (.region id l.toArray false) G Φ:=by
 obtain ⟨j,hj,h⟩:=bnd h
 exact W.reg fun i hi=>by
  obtain ⟨g',e1,_,e3⟩:=h1 j hj i hi
  exact ⟨g',e1,h2 j hj h _ e3⟩
theorem WH.l2 {S R R2:Type}{f:S->Option (S ⊕ (R ⊕ R2))}{s:S}{gg:R ⊕ R2->Option β}{r:β}{F F':S->List (Nat × AV)}{ks kx ky:List Nat}{X X':R->List (Nat × AV)}{Y Y':R2->List (Nat × AV)}(h:(loopM f s).bind gg=some r)
  (hb:∀ s o,f s=some o->WH E x P N c (F' s) (Rd2 F' (Ly id X' Y') o)) (hx:∀ r',gg (.inl r')=some r->PH E y (.exit id) Φ (X' r')) (hy:∀ r',gg (.inr r')=some r->PH E z .ret Φ (Y' r'))
  (hF:∀ s,pick (ov (F s) G) ks=some (F' s):=by intro s; rfl) (hX:∀ s,pick (ov (X s) G) kx=some (X' s):=by intro s; rfl) (hY:∀ s,pick (ov (Y s) G) ky=some (Y' s):=by intro s; rfl) (ht:Trim true (get G) (get (F' s)) (F' s):=by (repeat' first | exact .nil | refine .n rfl ?_ | refine .w rfl rfl .nilOwn ?_ | refine .w rfl rfl .nilImm ?_ | refine .w rfl rfl (WkL.obj (by (repeat' first | exact .nil | refine .f ?_ | refine .o ?_ | refine .i ?_))) ?_)) :
  WH E (.l2 F ks id X kx Y ky x y z) P N (.loop c) G Φ:=by
 obtain ⟨r',hl,h⟩:=bnd h
 exact W.tr ht (W.lp2 F' id X' Y' hl hb (fun q e=>hx q (e ▸ h)) (fun q e=>hy q (e ▸ h)))
theorem PH.x2 {S R R2:Type}{r:R}{o:S ⊕ (R ⊕ R2)}{F:S->List (Nat × AV)}{X:R->List (Nat × AV)}{Y:R2->List (Nat × AV)}(h:some (.inr (.inl r))=some o) (ht:Trim true (get G) (get (X r)) (X r)):PH E t (.exit id) (Rd2 F (Ly id X Y) o) G:=by
 cases h; exact Px.x2 ht
theorem PH.r2 {S R R2:Type}{r:R2}{o:S ⊕ (R ⊕ R2)}{F:S->List (Nat × AV)}{X:R->List (Nat × AV)}{Y:R2->List (Nat × AV)}(h:some (.inr (.inr r))=some o) (ht:Trim true (get G) (get (Y r)) (Y r)):PH E t .ret (Rd2 F (Ly id X Y) o) G:=by
 cases h; exact Px.r2 ht
end
section
variable {P:Program}{N:Rm}{E:List Nat}{t x y z:HT}{A B c:Code}{G:List (Nat × AV)}{Φ:Exit->Gst->Prop}{id k s:Nat}{o:Operand}
theorem Tg.fz {α:Type}{en:En α}{i:Option Nat}(h:WH E (.fz id s i en y) P N c G Φ):WH E (.fz id s i en y) P N c G Φ:=h
theorem Tg.fl {α:Type}{en:En α}{i:Option Nat}(h:WH E (.fl s i en y) P N c G Φ):WH E (.fl s i en y) P N c G Φ:=h
theorem Tg.rj {α:Type}{ks:List Nat}{L:α->List (Nat × AV)}(h:WH E (.rj id ks L y) P N c G Φ):WH E (.rj id ks L y) P N c G Φ:=h
theorem Tg.rk {α:Type}{AT:List (List Nat)}{ks:List Nat}{L:α->List (Nat × AV)}(h:WH E (.rk id AT ks L y) P N c G Φ):WH E (.rk id AT ks L y) P N c G Φ:=h
theorem Tg.rd {AT:List (List Nat)}(h:WH E (.rd id AT y) P N c G Φ):WH E (.rd id AT y) P N c G Φ:=h
theorem Tg.cd (h:WH E t P N (.cond o A B) G Φ):WH E t P N (.cond o A B) G Φ:=h
theorem Tg.lp (h:WH E t P N (.loop A) G Φ):WH E t P N (.loop A) G Φ:=h
theorem Tg.jb {α:Type}{ks:List Nat}{L:α->List (Nat × AV)}(h:WH E (.jn ks L x y) P N (.block id A) G Φ):WH E (.jn ks L x y) P N (.block id A) G Φ:=h
theorem Tg.rg {ops:Array Oper}{b:Bool}(h:WH E t P N (.region id ops b) G Φ):WH E t P N (.region id ops b) G Φ:=h
theorem Tg.ph {S R:Type}{F:S->List (Nat × AV)}{Ψ:R->Exit->Gst->Prop}{o:S ⊕ R}{e:Exit}(h:PH E t e (Rd2 F Ψ o) G):PH E t e (Rd2 F Ψ o) G:=h
theorem Tg.pj {α:Type}{F:α->List (Nat × AV)}{j:α}{e:Exit}(h:PH E t e (Jn F j) G):PH E t e (Jn F j) G:=h
theorem Tg.bm (h:PH E t (.exit k) (inB id Φ) G):PH E t (.exit k) (inB id Φ) G:=h
theorem Tg.pf {rs:List ResultVar}{n:Nat}{outs:List (Option AV)}{res:AV}{e:Exit}(h:PH E t e (FinW P N rs n outs res) G):PH E t e (FinW P N rs n outs res) G:=h
end
section
variable {P:Program}{N:Rm}{E:List Nat}{t:HT}{G:List (Nat × AV)}{g':Gst}{rs:List ResultVar}{ys xs:List AV}{res:AV}{outs:List (Option AV)}{n:Nat}
theorem Rt2.cq {g g'':Gst}{s z:Nat}{tt:TypeId}{cs ys0:List AV}{rs:List ResultVar}{ys xs:List AV}(h:g s=some (.obj cs)) [ht:F5 P tt z] (hz:cs.length=z) (h0:Nat.blt 0 z=true) (hy:rfS (fun i x=>refIn 0 ⟨s,[i]⟩ x) 0 num cs=some ys0) (hk:TkB s g 0 ys0 cs g'') (hr:Rt2 P g'' rs ys xs g'):Rt2 P g (.cell s tt::rs) (.agg ys0::ys) (.agg cs::xs) g':=.c h ht.p hz h0 (by have:=rfS_eq hy; simpa using this) hk hr
theorem PH.fr (h:Rt2 P (get G) rs ys xs g':=by (repeat' first | exact .nil | (apply Rt2.f rfl rfl) | (apply Rt2.o rfl) | (apply Rt2.cq rfl rfl rfl rfl) | (apply TkB.f rfl) | (apply TkB.o rfl))) (he:resAV xs=res:=by rfl) (ho:Ots g' N.pins 0 outs:=by (repeat' first | exact .nil | refine .no ?_ | refine .so rfl rfl ?_)) (hnd:(rs.filterMap fun | .cell t _=>some t | _=>none).Nodup:=by exact of_decide_eq_true (by kernel_rfl)) (hl:outs.length=n:=by rfl):PH E t .ret (FinW P N rs n outs res) G:=Pr h he ho hnd hl
theorem PH.fn (h:Rt2 P (get G) rs ys xs g':=by (repeat' first | exact .nil | (apply Rt2.f rfl rfl) | (apply Rt2.o rfl) | (apply Rt2.cq rfl rfl rfl rfl) | (apply TkB.f rfl) | (apply TkB.o rfl))) (he:resAV xs=res:=by rfl) (ho:Ots g' N.pins 0 outs:=by (repeat' first | exact .nil | refine .no ?_ | refine .so rfl rfl ?_)) (hnd:(rs.filterMap fun | .cell t _=>some t | _=>none).Nodup:=by exact of_decide_eq_true (by kernel_rfl)) (hl:outs.length=n:=by rfl):PH E t .normal (FinW P N rs n outs res) G:=Px.fin (Fin.ro h he hnd ho hl (.inl rfl))
set_option maxRecDepth 1000000 in
/-- The walk: what it meets it does. -/
theorem goW {p:Prop}(h:p:=by
(repeat' (first
 | ((with_reducible apply RunL.tg _ none); first
  | ((with_reducible apply RunL.tg (.move _) none); first | refine Vq (O.mv .q) ?_)
  | ((with_reducible apply RunL.tg (.assign (.const _)) none); first | refine Vq (O.az .q) ?_)
  | ((with_reducible apply RunL.tg (.assign (.tmp _)) none); first | refine Vq (O.az .ql) ?_)
  | ((with_reducible apply RunL.tg (.load _ _) none); first | refine Vq (O.w1) ?_ | refine Vq (O.w2) ?_ | refine Vq (O.w3) ?_ | refine Vq (O.w4) ?_ | refine Vq (O.w9) ?_ | refine Vq (O.we) ?_ | refine Vq (O.wz) ?_)
  | ((with_reducible apply RunL.tg (.fieldAddr _ _ _) none); first | refine Vq (O.w5) ?_ | refine Vq (O.w6) ?_ | refine Vq (O.wf) ?_)
  | ((with_reducible apply RunL.tg (.indexAddr _ _ _) none); first | refine bd h fun x hx h=>Vq (O.w7 hx) ?_ | refine bd h fun x hx h=>Vq (O.w8 hx) ?_ | refine Vq (O.wk) ?_ | refine Vq (O.wj) ?_)
  | ((with_reducible apply RunL.tg (.binOp .add _ _ _ _) none); first | refine Vq (O.add .q .q) ?_ | refine bd h fun x hx h=>Vq (O.cat .q .q hx) ?_)
  | ((with_reducible apply RunL.tg (.binOp .sub _ _ _ _) none); first | refine Vq (O.sub .q .q) ?_)
  | ((with_reducible apply RunL.tg (.binOp .mul _ _ _ _) none); first | refine Vq (O.mul .q .q) ?_)
  | ((with_reducible apply RunL.tg (.binOp .lss _ _ _ _) none); first | refine Vq (O.lss .q .q) ?_)
  | ((with_reducible apply RunL.tg (.binOp .leq _ _ _ _) none); first | refine Vq (O.leq .q .q) ?_)
  | ((with_reducible apply RunL.tg (.binOp .gtr _ _ _ _) none); first | refine Vq (O.gtr .q .q) ?_)
  | ((with_reducible apply RunL.tg (.binOp .geq _ _ _ _) none); first | refine Vq (O.geq .q .q) ?_)
  | ((with_reducible apply RunL.tg (.binOp .eql _ _ _ _) none); first | refine Vq (O.eql .q .q) ?_ | refine Vq (O.eqS .q .q) ?_ | refine Vq (O.eqB .q .q (by kernel_rfl)) ?_ | refine Vq (O.wq) ?_)
  | ((with_reducible apply RunL.tg (.binOp .neq _ _ _ _) none); first | refine Vq (O.neq .q .q) ?_ | refine Vq (O.neS .q .q) ?_ | refine Vq (O.wn) ?_)
  | ((with_reducible apply RunL.tg (.binOp .quo _ _ _ _) none); first | refine bd h fun x hx h=>Vq (O.quo .q .q hx) ?_ | refine bd h fun x hx h=>Vq (O.quoU .q .q hx) ?_)
  | ((with_reducible apply RunL.tg (.binOp .rem _ _ _ _) none); first | refine bd h fun x hx h=>Vq (O.rem .q .q hx) ?_ | refine bd h fun x hx h=>Vq (O.remU .q .q hx) ?_)
  | ((with_reducible apply RunL.tg (.unOp .not _ _) none); first | refine Vq (O.not .q) ?_)
  | ((with_reducible apply RunL.tg (.unOp .neg _ _) none); first | refine Vq (O.neg .q) ?_)
  | ((with_reducible apply RunL.tg (.pick _ _ _) none); first | refine Vq (O.pkT .q (by first | rfl | assumption) .q) ?_ | refine Vq (O.pkF .q (by first | rfl | assumption) .q) ?_)
  | ((with_reducible apply RunL.tg (.nilCheck _) none); first | refine Vq (O.nlP .q) ?_ | refine Vq (O.nlI .q) ?_)
  | ((with_reducible apply RunL.tg (.index _ _ _) none); first | refine bd h fun x hx h=>Vq (O.at' .q .q F2.p hx) ?_)
  | ((with_reducible apply RunL.tg (.extract _ _) none); first | refine Vq (O.wx) ?_)
  | ((with_reducible apply RunL.tg (.convert _ _ _) none); first | refine Vq (O.wc) ?_ | refine Vq (O.wb) ?_)
  | ((with_reducible apply RunL.tg (.box _ _) none); first | refine Vq (O.w0) ?_)
  | ((with_reducible apply RunL.tg (.alloc _) none); first | refine Vq (O.wB) ?_ | refine Vq (O.wa) ?_)
  | ((with_reducible apply RunL.tg (.build _ _) none); first | refine Vq (O.wu) ?_)
  | ((with_reducible apply RunL.tg (.field _ _ _) none); first | refine Vq (O.wd) ?_)
  | ((with_reducible apply RunL.tg (.makeSlice _ _ _) none); first | refine bd h fun x hx h=>Vq (O.wm hx) ?_ | refine bd h fun x hx h=>Vq (O.wy hx) ?_)
  | ((with_reducible apply RunL.tg (.buildSlice _ 0 #[]) none); first | refine Vq (O.wl) ?_)
  | ((with_reducible apply RunL.tg (.makeFunc _ _ _) none); first | refine Vq (O.mf rfl) ?_)
  | ((with_reducible apply RunL.tg (.slice _ _ _ _ _) none); first | refine bd h fun x hx h=>Vq (O.sl .q .q .q F2.p hx) ?_ | refine bd h fun x hx h=>Vq (O.sl0 .q .q F2.p hx) ?_ | refine bd h fun x hx h=>Vq (O.sl1 .q .q F2.p hx) ?_ | refine bd h fun x hx h=>Vq (O.ws2 hx) ?_ | refine bd h fun x hx h=>Vq (O.ws0 hx) ?_ | refine bd h fun x hx h=>Vq (O.ws1 hx) ?_)
  | ((with_reducible apply RunL.tg (.call { callee:=.builtin .len,args:=#[_],argTypes:=#[_] }) none); first | refine Vq (O.lenI .q F3.p) ?_ | refine Vq (O.lenO .q F3.p) ?_ | refine Vq (O.lenS .q F2.p) ?_)
  | ((with_reducible apply RunL.tg (.call { callee:=.builtin .append,args:=#[_,_],argTypes:=#[_,_] }) none); first | refine bd h fun x hx h=>Vq (O.wp hx) ?_ | refine bd h fun x hx h=>Vq (O.wo hx) ?_ | refine bd h fun x hx h=>Vq (O.w2p hx) ?_ | refine bd h fun x hx h=>Vq (O.wr hx) ?_)
  | ((with_reducible apply RunL.tg (.call { callee:=.value _,args:=_,argTypes:=_ }) none); first | (refine bd h fun x hx h=>Vc (PC.gz ?_ (CF.go hx)) ?_; · (repeat' first | exact .nil | refine .cc .q ?_)) | (refine bd h fun x hx h=>Vc (PC.vq rfl ?_ (CF.go hx)) ?_; · (repeat' first | exact .nil | refine .s ?_ | refine .c (View.p0 rfl rfl) ?_ | refine .c (.row rfl) ?_ | refine .c (View.ag ?_) ?_ | refine .c (View.cl ?_) ?_)) | (refine bd h fun x hx h=>Eln (CF.go hx) rfl rfl rfl rfl rfl (by repeat' first | exact .nil | refine .b rfl ?_ | refine .n rfl ?_) ?_))
  | ((with_reducible apply RunL.tg (.buildSlice _ _ _) none); first | refine Vb h ?_ | refine Vl rfl ?_ | refine Vn rfl ?_ | refine Vv [_] rfl ?_ | refine Vv [_,_] rfl ?_)
  | ((with_reducible apply RunL.tg (.assign _) none); refine Za rfl rfl rfl ?_)
  | ((with_reducible apply RunL.tg (.move _) none); refine Zm rfl rfl rfl ?_)
  | ((with_reducible apply RunL.tg (.move _) none); first | refine Vo rfl rfl (O.mv .q) ?_)
  | ((with_reducible apply RunL.tg (.assign (.const _)) none); first | refine Vo rfl rfl (O.az .q) ?_)
  | ((with_reducible apply RunL.tg (.assign (.tmp _)) none); first | refine Vo rfl rfl (O.az .ql) ?_)
  | ((with_reducible apply RunL.tg (.assign (.tmp _)) none); refine Em rfl rfl (by first | exact EK.ar | exact EK.apq | exact EK.ap2 | exact EK.ag .q (by repeat' first | exact TkL.nil | (apply TkL.f) | (apply TkL.r rfl) | (apply TkL.ag) | (apply TkL.b rfl))) ?_))
 | ((with_reducible apply RunL.ts); refine Es rfl rfl (by first | exact EK.sva | exact EK.sv1 | exact EK.sw | exact EK.sp | exact EK.se | exact EK.sg .q (by repeat' first | exact TkL.nil | (apply TkL.f) | (apply TkL.r rfl) | (apply TkL.ag) | (apply TkL.b rfl))) ?_)
 | ((with_reducible apply RunL.tg _ (some _)); first
  | refine Gs ?_
  | refine Gu ?_
  | ((with_reducible apply RunL.tg (.move _) (some _)); first | refine Gy (O.mv .q) ?_)
  | ((with_reducible apply RunL.tg (.assign (.const _)) (some _)); first | refine Gy (O.az .q) ?_)
  | ((with_reducible apply RunL.tg (.assign (.tmp _)) (some _)); first | refine Gy (O.az .ql) ?_)
  | ((with_reducible apply RunL.tg (.load _ _) (some _)); first | refine Gy (O.w1) ?_ | refine Gy (O.w2) ?_ | refine Gy (O.w3) ?_ | refine Gy (O.w4) ?_ | refine Gy (O.w9) ?_ | refine Gy (O.we) ?_ | refine Gy (O.wz) ?_)
  | ((with_reducible apply RunL.tg (.fieldAddr _ _ _) (some _)); first | refine Gy (O.w5) ?_ | refine Gy (O.w6) ?_ | refine Gy (O.wf) ?_)
  | ((with_reducible apply RunL.tg (.indexAddr _ _ _) (some _)); first | refine bd h fun x hx h=>Gy (O.w7 hx) ?_ | refine bd h fun x hx h=>Gy (O.w8 hx) ?_ | refine Gy (O.wk) ?_ | refine Gy (O.wj) ?_)
  | ((with_reducible apply RunL.tg (.binOp .add _ _ _ _) (some _)); first | refine Gy (O.add .q .q) ?_ | refine bd h fun x hx h=>Gy (O.cat .q .q hx) ?_)
  | ((with_reducible apply RunL.tg (.binOp .sub _ _ _ _) (some _)); first | refine Gy (O.sub .q .q) ?_)
  | ((with_reducible apply RunL.tg (.binOp .mul _ _ _ _) (some _)); first | refine Gy (O.mul .q .q) ?_)
  | ((with_reducible apply RunL.tg (.binOp .lss _ _ _ _) (some _)); first | refine Gy (O.lss .q .q) ?_)
  | ((with_reducible apply RunL.tg (.binOp .leq _ _ _ _) (some _)); first | refine Gy (O.leq .q .q) ?_)
  | ((with_reducible apply RunL.tg (.binOp .gtr _ _ _ _) (some _)); first | refine Gy (O.gtr .q .q) ?_)
  | ((with_reducible apply RunL.tg (.binOp .geq _ _ _ _) (some _)); first | refine Gy (O.geq .q .q) ?_)
  | ((with_reducible apply RunL.tg (.binOp .eql _ _ _ _) (some _)); first | refine Gy (O.eql .q .q) ?_ | refine Gy (O.eqS .q .q) ?_ | refine Gy (O.eqB .q .q (by kernel_rfl)) ?_ | refine Gy (O.wq) ?_)
  | ((with_reducible apply RunL.tg (.binOp .neq _ _ _ _) (some _)); first | refine Gy (O.neq .q .q) ?_ | refine Gy (O.neS .q .q) ?_ | refine Gy (O.wn) ?_)
  | ((with_reducible apply RunL.tg (.binOp .quo _ _ _ _) (some _)); first | refine bd h fun x hx h=>Gy (O.quo .q .q hx) ?_ | refine bd h fun x hx h=>Gy (O.quoU .q .q hx) ?_)
  | ((with_reducible apply RunL.tg (.binOp .rem _ _ _ _) (some _)); first | refine bd h fun x hx h=>Gy (O.rem .q .q hx) ?_ | refine bd h fun x hx h=>Gy (O.remU .q .q hx) ?_)
  | ((with_reducible apply RunL.tg (.unOp .not _ _) (some _)); first | refine Gy (O.not .q) ?_)
  | ((with_reducible apply RunL.tg (.unOp .neg _ _) (some _)); first | refine Gy (O.neg .q) ?_)
  | ((with_reducible apply RunL.tg (.pick _ _ _) (some _)); first | refine Gy (O.pkT .q (by first | rfl | assumption) .q) ?_ | refine Gy (O.pkF .q (by first | rfl | assumption) .q) ?_)
  | ((with_reducible apply RunL.tg (.nilCheck _) (some _)); first | refine Gy (O.nlP .q) ?_ | refine Gy (O.nlI .q) ?_)
  | ((with_reducible apply RunL.tg (.index _ _ _) (some _)); first | refine bd h fun x hx h=>Gy (O.at' .q .q F2.p hx) ?_)
  | ((with_reducible apply RunL.tg (.extract _ _) (some _)); first | refine Gy (O.wx) ?_)
  | ((with_reducible apply RunL.tg (.convert _ _ _) (some _)); first | refine Gy (O.wc) ?_ | refine Gy (O.wb) ?_)
  | ((with_reducible apply RunL.tg (.box _ _) (some _)); first | refine Gy (O.w0) ?_)
  | ((with_reducible apply RunL.tg (.alloc _) (some _)); first | refine Gy (O.wB) ?_ | refine Gy (O.wa) ?_)
  | ((with_reducible apply RunL.tg (.build _ _) (some _)); first | refine Gy (O.wu) ?_)
  | ((with_reducible apply RunL.tg (.field _ _ _) (some _)); first | refine Gy (O.wd) ?_)
  | ((with_reducible apply RunL.tg (.makeSlice _ _ _) (some _)); first | refine bd h fun x hx h=>Gy (O.wm hx) ?_ | refine bd h fun x hx h=>Gy (O.wy hx) ?_)
  | ((with_reducible apply RunL.tg (.buildSlice _ 0 #[]) (some _)); first | refine Gy (O.wl) ?_)
  | ((with_reducible apply RunL.tg (.makeFunc _ _ _) (some _)); first | refine Gy (O.mf rfl) ?_)
  | ((with_reducible apply RunL.tg (.slice _ _ _ _ _) (some _)); first | refine bd h fun x hx h=>Gy (O.sl .q .q .q F2.p hx) ?_ | refine bd h fun x hx h=>Gy (O.sl0 .q .q F2.p hx) ?_ | refine bd h fun x hx h=>Gy (O.sl1 .q .q F2.p hx) ?_ | refine bd h fun x hx h=>Gy (O.ws2 hx) ?_ | refine bd h fun x hx h=>Gy (O.ws0 hx) ?_ | refine bd h fun x hx h=>Gy (O.ws1 hx) ?_)
  | ((with_reducible apply RunL.tg (.call { callee:=.builtin .len,args:=#[_],argTypes:=#[_] }) (some _)); first | refine Gy (O.lenI .q F3.p) ?_ | refine Gy (O.lenO .q F3.p) ?_ | refine Gy (O.lenS .q F2.p) ?_)
  | ((with_reducible apply RunL.tg (.call { callee:=.builtin .append,args:=#[_,_],argTypes:=#[_,_] }) (some _)); first | refine bd h fun x hx h=>Gy (O.wp hx) ?_ | refine bd h fun x hx h=>Gy (O.wo hx) ?_ | refine bd h fun x hx h=>Gy (O.w2p hx) ?_ | refine bd h fun x hx h=>Gy (O.wr hx) ?_)
  | ((with_reducible apply RunL.tg (.call { callee:=.value _,args:=_,argTypes:=_ }) (some _)); first | (refine bd h fun x hx h=>Gc (PC.gz ?_ (CF.go hx)) ?_; · (repeat' first | exact .nil | refine .cc .q ?_)) | (refine bd h fun x hx h=>Gc (PC.vq rfl ?_ (CF.go hx)) ?_; · (repeat' first | exact .nil | refine .s ?_ | refine .c (View.p0 rfl rfl) ?_ | refine .c (.row rfl) ?_ | refine .c (View.ag ?_) ?_ | refine .c (View.cl ?_) ?_)))
  | refine cdS h (fun hb h=>?_) (fun hb h=>?_))
 | ((with_reducible apply RunL.nl); first | refine Fq rfl rfl ?_ | refine Fj h (by (repeat' first | exact .nil | refine .n rfl ?_ | refine .w rfl rfl .nilOwn ?_ | refine .w rfl rfl .nilImm ?_ | refine .w rfl rfl (WkL.obj (by (repeat' first | exact .nil | refine .f ?_ | refine .o ?_ | refine .i ?_))) ?_)))
 | ((with_reducible apply DJ.tg _ none); first
  | ((with_reducible apply DJ.tg (.move _) none); first | refine Dq (O.mv .q) ?_)
  | ((with_reducible apply DJ.tg (.assign (.const _)) none); first | refine Dq (O.az .q) ?_)
  | ((with_reducible apply DJ.tg (.assign (.tmp _)) none); first | refine Dq (O.az .ql) ?_)
  | ((with_reducible apply DJ.tg (.load _ _) none); first | refine Dq (O.w1) ?_ | refine Dq (O.w2) ?_ | refine Dq (O.w3) ?_ | refine Dq (O.w4) ?_ | refine Dq (O.w9) ?_ | refine Dq (O.we) ?_ | refine Dq (O.wz) ?_)
  | ((with_reducible apply DJ.tg (.fieldAddr _ _ _) none); first | refine Dq (O.w5) ?_ | refine Dq (O.w6) ?_ | refine Dq (O.wf) ?_)
  | ((with_reducible apply DJ.tg (.indexAddr _ _ _) none); first | refine bd h fun x hx h=>Dq (O.w7 hx) ?_ | refine bd h fun x hx h=>Dq (O.w8 hx) ?_ | refine Dq (O.wk) ?_ | refine Dq (O.wj) ?_)
  | ((with_reducible apply DJ.tg (.binOp .add _ _ _ _) none); first | refine Dq (O.add .q .q) ?_ | refine bd h fun x hx h=>Dq (O.cat .q .q hx) ?_)
  | ((with_reducible apply DJ.tg (.binOp .sub _ _ _ _) none); first | refine Dq (O.sub .q .q) ?_)
  | ((with_reducible apply DJ.tg (.binOp .mul _ _ _ _) none); first | refine Dq (O.mul .q .q) ?_)
  | ((with_reducible apply DJ.tg (.binOp .lss _ _ _ _) none); first | refine Dq (O.lss .q .q) ?_)
  | ((with_reducible apply DJ.tg (.binOp .leq _ _ _ _) none); first | refine Dq (O.leq .q .q) ?_)
  | ((with_reducible apply DJ.tg (.binOp .gtr _ _ _ _) none); first | refine Dq (O.gtr .q .q) ?_)
  | ((with_reducible apply DJ.tg (.binOp .geq _ _ _ _) none); first | refine Dq (O.geq .q .q) ?_)
  | ((with_reducible apply DJ.tg (.binOp .eql _ _ _ _) none); first | refine Dq (O.eql .q .q) ?_ | refine Dq (O.eqS .q .q) ?_ | refine Dq (O.eqB .q .q (by kernel_rfl)) ?_ | refine Dq (O.wq) ?_)
  | ((with_reducible apply DJ.tg (.binOp .neq _ _ _ _) none); first | refine Dq (O.neq .q .q) ?_ | refine Dq (O.neS .q .q) ?_ | refine Dq (O.wn) ?_)
  | ((with_reducible apply DJ.tg (.binOp .quo _ _ _ _) none); first | refine bd h fun x hx h=>Dq (O.quo .q .q hx) ?_ | refine bd h fun x hx h=>Dq (O.quoU .q .q hx) ?_)
  | ((with_reducible apply DJ.tg (.binOp .rem _ _ _ _) none); first | refine bd h fun x hx h=>Dq (O.rem .q .q hx) ?_ | refine bd h fun x hx h=>Dq (O.remU .q .q hx) ?_)
  | ((with_reducible apply DJ.tg (.unOp .not _ _) none); first | refine Dq (O.not .q) ?_)
  | ((with_reducible apply DJ.tg (.unOp .neg _ _) none); first | refine Dq (O.neg .q) ?_)
  | ((with_reducible apply DJ.tg (.pick _ _ _) none); first | refine Dq (O.pkT .q (by first | rfl | assumption) .q) ?_ | refine Dq (O.pkF .q (by first | rfl | assumption) .q) ?_)
  | ((with_reducible apply DJ.tg (.nilCheck _) none); first | refine Dq (O.nlP .q) ?_ | refine Dq (O.nlI .q) ?_)
  | ((with_reducible apply DJ.tg (.index _ _ _) none); first | refine bd h fun x hx h=>Dq (O.at' .q .q F2.p hx) ?_)
  | ((with_reducible apply DJ.tg (.extract _ _) none); first | refine Dq (O.wx) ?_)
  | ((with_reducible apply DJ.tg (.convert _ _ _) none); first | refine Dq (O.wc) ?_ | refine Dq (O.wb) ?_)
  | ((with_reducible apply DJ.tg (.box _ _) none); first | refine Dq (O.w0) ?_)
  | ((with_reducible apply DJ.tg (.alloc _) none); first | refine Dq (O.wB) ?_ | refine Dq (O.wa) ?_)
  | ((with_reducible apply DJ.tg (.build _ _) none); first | refine Dq (O.wu) ?_)
  | ((with_reducible apply DJ.tg (.field _ _ _) none); first | refine Dq (O.wd) ?_)
  | ((with_reducible apply DJ.tg (.makeSlice _ _ _) none); first | refine bd h fun x hx h=>Dq (O.wm hx) ?_ | refine bd h fun x hx h=>Dq (O.wy hx) ?_)
  | ((with_reducible apply DJ.tg (.buildSlice _ 0 #[]) none); first | refine Dq (O.wl) ?_)
  | ((with_reducible apply DJ.tg (.makeFunc _ _ _) none); first | refine Dq (O.mf rfl) ?_)
  | ((with_reducible apply DJ.tg (.slice _ _ _ _ _) none); first | refine bd h fun x hx h=>Dq (O.sl .q .q .q F2.p hx) ?_ | refine bd h fun x hx h=>Dq (O.sl0 .q .q F2.p hx) ?_ | refine bd h fun x hx h=>Dq (O.sl1 .q .q F2.p hx) ?_ | refine bd h fun x hx h=>Dq (O.ws2 hx) ?_ | refine bd h fun x hx h=>Dq (O.ws0 hx) ?_ | refine bd h fun x hx h=>Dq (O.ws1 hx) ?_)
  | ((with_reducible apply DJ.tg (.call { callee:=.builtin .len,args:=#[_],argTypes:=#[_] }) none); first | refine Dq (O.lenI .q F3.p) ?_ | refine Dq (O.lenO .q F3.p) ?_ | refine Dq (O.lenS .q F2.p) ?_)
  | ((with_reducible apply DJ.tg (.call { callee:=.builtin .append,args:=#[_,_],argTypes:=#[_,_] }) none); first | refine bd h fun x hx h=>Dq (O.wp hx) ?_ | refine bd h fun x hx h=>Dq (O.wo hx) ?_ | refine bd h fun x hx h=>Dq (O.w2p hx) ?_ | refine bd h fun x hx h=>Dq (O.wv hx) ?_)
  | ((with_reducible apply DJ.tg (.call { callee:=.value _,args:=_,argTypes:=_ }) none); first | (refine bd h fun x hx h=>Dk (PC.gz ?_ (CF.go hx)) ?_; · (repeat' first | exact .nil | refine .cc .q ?_)) | (refine bd h fun x hx h=>Dk (PC.vq rfl ?_ (CF.go hx)) ?_; · (repeat' first | exact .nil | refine .s ?_ | refine .c (View.p0 rfl rfl) ?_ | refine .c (.row rfl) ?_ | refine .c (View.ag ?_) ?_ | refine .c (View.cl ?_) ?_)) | (refine bd h fun x hx h=>Dln (CF.go hx) rfl rfl rfl rfl rfl (by repeat' first | exact .nil | refine .b rfl ?_ | refine .n rfl ?_) ?_))
  | ((with_reducible apply DJ.tg (.buildSlice _ _ _) none); first | refine Db h ?_ | refine Dl rfl ?_ | refine Dn rfl ?_ | refine Du [_,_] rfl ?_ | refine Dv2 [_] rfl ?_ | refine Dv2 [_,_] rfl ?_)
  | ((with_reducible apply DJ.tg (.assign _) none); refine Dm rfl rfl (by first | exact EK.ar | exact EK.apq | exact EK.ap2 | exact EK.af | exact EK.ag .q (by repeat' first | exact TkL.nil | (apply TkL.f) | (apply TkL.r rfl) | (apply TkL.ag) | (apply TkL.b rfl))) ?_))
 | ((with_reducible apply DJ.ts); refine Ds rfl rfl (by first | exact EK.sva | exact EK.sv1 | exact EK.sw | exact EK.sp | exact EK.se | exact EK.sg .q (by repeat' first | exact TkL.nil | (apply TkL.f) | (apply TkL.r rfl) | (apply TkL.ag) | (apply TkL.b rfl))) ?_)
 | ((with_reducible apply DJ.tg _ (some _)); first
  | refine Ds' ?_
  | refine Du' ?_
  | ((with_reducible apply DJ.tg (.move _) (some _)); first | refine Dy (O.mv .q) ?_)
  | ((with_reducible apply DJ.tg (.assign (.const _)) (some _)); first | refine Dy (O.az .q) ?_)
  | ((with_reducible apply DJ.tg (.assign (.tmp _)) (some _)); first | refine Dy (O.az .ql) ?_)
  | ((with_reducible apply DJ.tg (.load _ _) (some _)); first | refine Dy (O.w1) ?_ | refine Dy (O.w2) ?_ | refine Dy (O.w3) ?_ | refine Dy (O.w4) ?_ | refine Dy (O.w9) ?_ | refine Dy (O.we) ?_ | refine Dy (O.wz) ?_)
  | ((with_reducible apply DJ.tg (.fieldAddr _ _ _) (some _)); first | refine Dy (O.w5) ?_ | refine Dy (O.w6) ?_ | refine Dy (O.wf) ?_)
  | ((with_reducible apply DJ.tg (.indexAddr _ _ _) (some _)); first | refine bd h fun x hx h=>Dy (O.w7 hx) ?_ | refine bd h fun x hx h=>Dy (O.w8 hx) ?_ | refine Dy (O.wk) ?_ | refine Dy (O.wj) ?_)
  | ((with_reducible apply DJ.tg (.binOp .add _ _ _ _) (some _)); first | refine Dy (O.add .q .q) ?_ | refine bd h fun x hx h=>Dy (O.cat .q .q hx) ?_)
  | ((with_reducible apply DJ.tg (.binOp .sub _ _ _ _) (some _)); first | refine Dy (O.sub .q .q) ?_)
  | ((with_reducible apply DJ.tg (.binOp .mul _ _ _ _) (some _)); first | refine Dy (O.mul .q .q) ?_)
  | ((with_reducible apply DJ.tg (.binOp .lss _ _ _ _) (some _)); first | refine Dy (O.lss .q .q) ?_)
  | ((with_reducible apply DJ.tg (.binOp .leq _ _ _ _) (some _)); first | refine Dy (O.leq .q .q) ?_)
  | ((with_reducible apply DJ.tg (.binOp .gtr _ _ _ _) (some _)); first | refine Dy (O.gtr .q .q) ?_)
  | ((with_reducible apply DJ.tg (.binOp .geq _ _ _ _) (some _)); first | refine Dy (O.geq .q .q) ?_)
  | ((with_reducible apply DJ.tg (.binOp .eql _ _ _ _) (some _)); first | refine Dy (O.eql .q .q) ?_ | refine Dy (O.eqS .q .q) ?_ | refine Dy (O.eqB .q .q (by kernel_rfl)) ?_ | refine Dy (O.wq) ?_)
  | ((with_reducible apply DJ.tg (.binOp .neq _ _ _ _) (some _)); first | refine Dy (O.neq .q .q) ?_ | refine Dy (O.neS .q .q) ?_ | refine Dy (O.wn) ?_)
  | ((with_reducible apply DJ.tg (.binOp .quo _ _ _ _) (some _)); first | refine bd h fun x hx h=>Dy (O.quo .q .q hx) ?_ | refine bd h fun x hx h=>Dy (O.quoU .q .q hx) ?_)
  | ((with_reducible apply DJ.tg (.binOp .rem _ _ _ _) (some _)); first | refine bd h fun x hx h=>Dy (O.rem .q .q hx) ?_ | refine bd h fun x hx h=>Dy (O.remU .q .q hx) ?_)
  | ((with_reducible apply DJ.tg (.unOp .not _ _) (some _)); first | refine Dy (O.not .q) ?_)
  | ((with_reducible apply DJ.tg (.unOp .neg _ _) (some _)); first | refine Dy (O.neg .q) ?_)
  | ((with_reducible apply DJ.tg (.pick _ _ _) (some _)); first | refine Dy (O.pkT .q (by first | rfl | assumption) .q) ?_ | refine Dy (O.pkF .q (by first | rfl | assumption) .q) ?_)
  | ((with_reducible apply DJ.tg (.nilCheck _) (some _)); first | refine Dy (O.nlP .q) ?_ | refine Dy (O.nlI .q) ?_)
  | ((with_reducible apply DJ.tg (.index _ _ _) (some _)); first | refine bd h fun x hx h=>Dy (O.at' .q .q F2.p hx) ?_)
  | ((with_reducible apply DJ.tg (.extract _ _) (some _)); first | refine Dy (O.wx) ?_)
  | ((with_reducible apply DJ.tg (.convert _ _ _) (some _)); first | refine Dy (O.wc) ?_ | refine Dy (O.wb) ?_)
  | ((with_reducible apply DJ.tg (.box _ _) (some _)); first | refine Dy (O.w0) ?_)
  | ((with_reducible apply DJ.tg (.alloc _) (some _)); first | refine Dy (O.wB) ?_ | refine Dy (O.wa) ?_)
  | ((with_reducible apply DJ.tg (.build _ _) (some _)); first | refine Dy (O.wu) ?_)
  | ((with_reducible apply DJ.tg (.field _ _ _) (some _)); first | refine Dy (O.wd) ?_)
  | ((with_reducible apply DJ.tg (.makeSlice _ _ _) (some _)); first | refine bd h fun x hx h=>Dy (O.wm hx) ?_ | refine bd h fun x hx h=>Dy (O.wy hx) ?_)
  | ((with_reducible apply DJ.tg (.buildSlice _ 0 #[]) (some _)); first | refine Dy (O.wl) ?_)
  | ((with_reducible apply DJ.tg (.makeFunc _ _ _) (some _)); first | refine Dy (O.mf rfl) ?_)
  | ((with_reducible apply DJ.tg (.slice _ _ _ _ _) (some _)); first | refine bd h fun x hx h=>Dy (O.sl .q .q .q F2.p hx) ?_ | refine bd h fun x hx h=>Dy (O.sl0 .q .q F2.p hx) ?_ | refine bd h fun x hx h=>Dy (O.sl1 .q .q F2.p hx) ?_ | refine bd h fun x hx h=>Dy (O.ws2 hx) ?_ | refine bd h fun x hx h=>Dy (O.ws0 hx) ?_ | refine bd h fun x hx h=>Dy (O.ws1 hx) ?_)
  | ((with_reducible apply DJ.tg (.call { callee:=.builtin .len,args:=#[_],argTypes:=#[_] }) (some _)); first | refine Dy (O.lenI .q F3.p) ?_ | refine Dy (O.lenO .q F3.p) ?_ | refine Dy (O.lenS .q F2.p) ?_)
  | ((with_reducible apply DJ.tg (.call { callee:=.builtin .append,args:=#[_,_],argTypes:=#[_,_] }) (some _)); first | refine bd h fun x hx h=>Dy (O.wp hx) ?_ | refine bd h fun x hx h=>Dy (O.wo hx) ?_ | refine bd h fun x hx h=>Dy (O.w2p hx) ?_ | refine bd h fun x hx h=>Dy (O.wv hx) ?_)
  | ((with_reducible apply DJ.tg (.call { callee:=.value _,args:=_,argTypes:=_ }) (some _)); first | (refine bd h fun x hx h=>Dg (PC.gz ?_ (CF.go hx)) ?_; · (repeat' first | exact .nil | refine .cc .q ?_)) | (refine bd h fun x hx h=>Dg (PC.vq rfl ?_ (CF.go hx)) ?_; · (repeat' first | exact .nil | refine .s ?_ | refine .c (View.p0 rfl rfl) ?_ | refine .c (.row rfl) ?_ | refine .c (View.ag ?_) ?_ | refine .c (View.cl ?_) ?_)))
  | refine cdS h (fun hb h=>?_) (fun hb h=>?_))
 | ((with_reducible apply DJ.nl); first | refine DFq rfl rfl ?_ | refine DFj h (by (repeat' first | exact .nil | refine .n rfl ?_ | refine .w rfl rfl .nilOwn ?_ | refine .w rfl rfl .nilImm ?_ | refine .w rfl rfl (WkL.obj (by (repeat' first | exact .nil | refine .f ?_ | refine .o ?_ | refine .i ?_))) ?_)))
 | ((with_reducible apply Tg.fz); refine WH.fz rfl (by first | exact .w | exact .n | exact .c rfl .w rfl | exact .c rfl .n rfl) rfl rfl ?_)
 | ((with_reducible apply Tg.fl); refine WH.fl rfl (by first | exact .w | exact .n | exact .c rfl .w rfl | exact .c rfl .n rfl) rfl rfl ?_)
 | ((with_reducible apply Tg.rj); first | refine WH.rj h (fun j h=>?_) (fun j hj h=>?_) | refine WH.rjt h (fun j h=>?_) (fun j hj h=>?_))
 | ((with_reducible apply Tg.rk); first | refine WH.rk h (fun j h=>?_) (fun j hj h=>?_) | refine WH.rkt h (fun j h=>?_) (fun j hj h=>?_))
 | ((with_reducible apply Tg.rd); first | refine WH.rd ?_ | refine WH.rdt ?_)
 | (with_reducible apply WH.rg)
 | (with_reducible apply WH.sq)
 | ((with_reducible apply Tg.cd); first
  | refine WH.jc h (fun j h=>?_) (fun j hj h=>?_)
  | refine WH.ch h (fun hb h=>?_) (fun hb h=>?_)
  | refine WH.ce h (fun hb h=>?_) (fun hb h=>?_)
  | refine WH.cT ?_
  | refine WH.cF ?_)
 | ((with_reducible apply Tg.jb); refine WH.jb h (fun j h=>?_) (fun j hj h=>?_))
 | (with_reducible apply WH.bp)
 | (with_reducible apply WH.bk)
 | (with_reducible apply WH.sk)
 | (with_reducible apply WH.xi)
 | ((with_reducible apply WH.rtg); first
  | (refine WH.rl h (by (repeat' first | exact .nil | refine .z rfl rfl ?_ ?_ | exact .refl | exact .nilO | exact Fz.vw | refine FzL.obj ?_ | refine .f ?_ | refine .o ?_ | refine .z ?_)) (by (repeat' first | exact .nil | refine .n rfl ?_ | refine .w rfl rfl .nilOwn ?_ | refine .w rfl rfl .nilImm ?_ | refine .w rfl rfl (WkL.obj (by (repeat' first | exact .nil | refine .f ?_ | refine .o ?_ | refine .i ?_))) ?_)))
  | (cases h; refine WH.rf rfl (by (repeat' first | exact .nil | refine .z rfl rfl ?_ ?_ | exact .refl | exact .nilO | exact Fz.vw | refine FzL.obj ?_ | refine .f ?_ | refine .o ?_ | refine .z ?_)) ?_; exact PH.fr)
  | refine WH.re ?_)
 | (with_reducible apply PH.sq)
 | (with_reducible apply PH.sqE)
 | (with_reducible apply PH.sqR)
 | (with_reducible apply PH.bk)
 | (with_reducible apply PH.bkH)
 | (with_reducible apply PH.bkR)
 | ((with_reducible apply Tg.bm); refine PH.bkM ?_)
 | ((with_reducible apply Tg.ph); first
  | refine PH.go h (by (repeat' first | exact .nil | refine .n rfl ?_ | refine .w rfl rfl .nilOwn ?_ | refine .w rfl rfl .nilImm ?_ | refine .w rfl rfl (WkL.obj (by (repeat' first | exact .nil | refine .f ?_ | refine .o ?_ | refine .i ?_))) ?_))
  | refine PH.x1 h (by (repeat' first | exact .nil | refine .n rfl ?_ | refine .w rfl rfl .nilOwn ?_ | refine .w rfl rfl .nilImm ?_ | refine .w rfl rfl (WkL.obj (by (repeat' first | exact .nil | refine .f ?_ | refine .o ?_ | refine .i ?_))) ?_))
  | refine PH.x2 h (by (repeat' first | exact .nil | refine .n rfl ?_ | refine .w rfl rfl .nilOwn ?_ | refine .w rfl rfl .nilImm ?_ | refine .w rfl rfl (WkL.obj (by (repeat' first | exact .nil | refine .f ?_ | refine .o ?_ | refine .i ?_))) ?_))
  | refine PH.r2 h (by (repeat' first | exact .nil | refine .n rfl ?_ | refine .w rfl rfl .nilOwn ?_ | refine .w rfl rfl .nilImm ?_ | refine .w rfl rfl (WkL.obj (by (repeat' first | exact .nil | refine .f ?_ | refine .o ?_ | refine .i ?_))) ?_)))
 | ((with_reducible apply Tg.pj); refine PH.jn h (by (repeat' first | exact .nil | refine .n rfl ?_ | refine .w rfl rfl .nilOwn ?_ | refine .w rfl rfl .nilImm ?_ | refine .w rfl rfl (WkL.obj (by (repeat' first | exact .nil | refine .f ?_ | refine .o ?_ | refine .i ?_))) ?_)))
 | ((with_reducible apply Tg.lp); first
  | refine WH.lp h (fun s o h=>?_) (fun r hr h=>?_)
  | refine WH.l2 h (fun s o h=>?_) (fun r h=>?_) (fun r h=>?_))
 | ((with_reducible apply Tg.rg); with_reducible apply WH.rt)
 | ((with_reducible apply Tg.pf); cases h; first | exact PH.fr | exact PH.fn)
 | refine cdS h (fun hb h=>?_) (fun hb h=>?_)))):p:=h
class RTc (P:Program) (N:Rm) (Φ:Exit->Gst->Prop) (rs:outParam (List ResultVar)) (n:outParam Nat) (outs:outParam (List (Option AV))) (res:outParam AV):Prop where p:∀ g,FinW P N rs n outs res .ret g->Φ .ret g
instance:RTc P N (FinW P N rs n outs res) rs n outs res:=⟨fun _ h=>h⟩
instance {Ψ:Gst->Prop}{Φ:Exit->Gst->Prop} [h:RTc P N Φ rs n outs res]:RTc P N (thenP Ψ Φ) rs n outs res:=⟨fun g hh=>h.p g hh⟩
instance {id:Nat}{Φ:Exit->Gst->Prop} [h:RTc P N Φ rs n outs res]:RTc P N (inB id Φ) rs n outs res:=⟨fun g hh=>h.p g hh⟩
class RLc {S R R2:Type}(Φ:Exit->Gst->Prop) (F:outParam (S->List (Nat × AV))) (id:outParam Nat) (X:outParam (R->List (Nat × AV))) (Y:outParam (R2->List (Nat × AV))) (o:outParam (S ⊕ (R ⊕ R2))):Prop where p:∀ g,Rd2 F (Ly id X Y) o .ret g->Φ .ret g
section
variable {S R R2:Type}{F:S->List (Nat × AV)}{id:Nat}{X:R->List (Nat × AV)}{Y:R2->List (Nat × AV)}{o:S ⊕ (R ⊕ R2)}{Φ:Exit->Gst->Prop}
instance:RLc (Rd2 F (Ly id X Y) o) F id X Y o:=⟨fun _ h=>h⟩
instance {Ψ:Gst->Prop} [h:RLc Φ F id X Y o]:RLc (thenP Ψ Φ) F id X Y o:=⟨fun g hh=>h.p g hh⟩
instance {i:Nat} [h:RLc Φ F id X Y o]:RLc (inB i Φ) F id X Y o:=⟨fun g hh=>h.p g hh⟩
theorem WH.rl {v:R2} [hR:RLc Φ F id X Y o] (h:some (.inr (.inr v))=some o) (hz:TrF ((Y v).map Prod.fst) (get G) (get (Y v)) (Y v)) (hp:Trim true (get (Y v)) (get (Y v)) (Y v)):WH E t P N .ret G Φ:=by
 cases h
 exact W.fz _ hz (W.rt fun g hb=>hR.p g (Px.r2 hp g hb))
end
def retV:ResultVar->AV->Option (Nat × AV)
 | .tmp t,x=>some (t,x)
 | .cell s _,.agg cs=>some (s,.obj cs)
 | _,_=>none
def retL:List ResultVar->List AV->List (Nat × AV)->Option (List (Nat × AV))
 | [],[],T=>some T
 | r::rs,x::xs,T=>match retL rs xs T,retV r x with
  | some l,some p=>some (p::l)
  | _,_=>none
 | _,_,_=>none
def outL:List Nat->List (Option AV)->Option (List (Nat × AV))
 | _,[]=>some []
 | j::js,none::l=>outL js l
 | j::js,some x::l=>match outL js l with
  | some r=>some ((j,x)::r)
  | none=>none
 | _,_=>none
def retG (rs:List ResultVar) (outs:List (Option AV)) (res:AV):Option (List (Nat × AV)) :=
 match outL num outs with
 | none=>none
 | some T=>match rs,res with
  | [r],x=>retL [r] [x] T
  | rs,.tup xs=>retL rs xs T
  | _,_=>none
theorem Fz.vw {x y:AV} [hn:NRc x] [hv:Vw x y]:Fz x y:=.ice hn.nr (hv.v _)
inductive FT {α:Type}(en:En α):Option Nat->AV->AV->Prop
 | w {en0:En α}{L:List α} [h:Vw (oR en0 L) (iR en L)]:FT en none (oR en0 L) (iR en L)
 | n [h:Vw .nils (iR en ([]:List α))]:FT en none .nils (iR en ([]:List α))
 | c {i:Nat}{cs cs':List AV}{x y:AV}(hx:cs[i]?=some x) (h:FT en none x y) (he:splo cs i [y]=some cs'):FT en (some i) (.obj cs) (.obj cs')
theorem FT.one {α:Type}{en:En α}{x y:AV}(h:FT en none x y):Fz x y/\NPc y:=by
 cases h with
 | @w en0 L h=>exact ⟨.ice (.own (rowc_nr en0 L)) (h.v _),⟨by intro _ _ _ _ _ e; cases e⟩⟩
 | @n h=>exact ⟨.ice .nils (h.v _),⟨by intro _ _ _ _ _ e; cases e⟩⟩
theorem FT.fz {α:Type}{en:En α}{i:Option Nat}{x y:AV}(h:FT en i x y):Fz x y/\NPc y:=by
 cases h with
 | w=>exact FT.one .w
 | n=>exact FT.one .n
 | @c i cs cs' x y hx h he =>
  obtain ⟨h1,h2⟩:=splo_eq he
  subst h1
  refine ⟨.obj (by simp [splice] at h2 ⊢; omega) fun k a b ha hb=>?_,⟨by simp⟩⟩
  unfold splice at hb
  simp only [List.length_singleton] at h2 hb
  by_cases hk:k<i
  ·rw [List.append_assoc,List.getElem?_append_left (by simp; omega),List.getElem?_take,if_pos hk,ha] at hb
   cases hb; exact .refl
  ·by_cases hk2:k=i
   ·subst hk2
    rw [List.append_assoc,List.getElem?_append_right (by rw [List.length_take]; exact Nat.min_le_left _ _),List.length_take,Nat.min_eq_left (by omega),Nat.sub_self] at hb
    simp at hb
    subst hb
    rw [hx] at ha; cases ha
    exact h.one.1
   ·rw [List.getElem?_append_right (by simp; omega)] at hb
    simp only [List.length_append,List.length_take,List.length_singleton,List.getElem?_drop] at hb
    rw [show i+1+(k - (min i cs.length+1))=k by omega,ha] at hb
    cases hb; exact .refl
theorem pick_F {g g2:Gst}{s:Nat}:∀ {ks:List Nat}{G1:List (Nat × AV)},pick g ks=some G1->(ks.all fun k=>![s].elem k)=true->(∀ e∈G1,NR e.2)->TrF [s] g g2 G1
 | [],_,h,_,_=>by cases h; exact .nil
 | k::ks,G1,h,he,hn=>by
  obtain ⟨x,l,hx,hl,rfl⟩:=pick_cons h
  rw [List.all_cons,Bool.and_eq_true] at he
  have:NRc x:=⟨hn (k,x) (by simp)⟩
  exact .n (by simpa using he.1) hx (pick_F hl he.2 fun e h=>hn e (by simp [h]))
def isReg (id:Nat):Code->Bool
 | .seq (.region k _ _) _=>Nat.beq k id
 | .region k _ _=>Nat.beq k id
 | _=>false
theorem WH.fz {α:Type}{en:En α}{id s:Nat}{i:Option Nat}{B:Code}{Φ:Exit->Gst->Prop}{x y:AV}{ks:List Nat}{Gn:List (Nat × AV)}(hs:get G s=some x) (hy:FT en i x y) (hk:ksX [s] G=some ks) (hp:pick (get G) ks=some Gn) (h:WH E t P N B ((s,y)::Gn) Φ) (hid:isReg id B=true:=by rfl) (hne:(ks.all fun k=>![s].elem k)=true:=by rfl) [hx:NRc x] [hn:NRg Gn]:WH E (.fz id s i en t) P N B G Φ :=
 have:=hy.fz.2
 W.fz [s] (.z (by simp) hs hy.fz.1 (pick_F hp hne hn.p)) h
theorem WH.fl {α:Type}{en:En α}{s:Nat}{i:Option Nat}{c:Code}{Φ:Exit->Gst->Prop}{x y:AV}{ks:List Nat}{Gn:List (Nat × AV)}(hs:get G s=some x) (hy:FT en i x y) (hk:ksX [s] G=some ks) (hp:pick (get G) ks=some Gn) (h:WH E t P N (.loop c) ((s,y)::Gn) Φ) (hne:(ks.all fun k=>![s].elem k)=true:=by rfl) [hx:NRc x] [hn:NRg Gn]:WH E (.fl s i en t) P N (.loop c) G Φ :=
 have:=hy.fz.2
 W.fz [s] (.z (by simp) hs hy.fz.1 (pick_F hp hne hn.p)) h
theorem WH.rf {Φ:Exit->Gst->Prop}{G1:List (Nat × AV)} [hR:RTc P N Φ rs n outs res] (hG:retG rs outs res=some G1) (hz:TrF (G1.map Prod.fst) (get G) (get G1) G1) (hp:PH E t .ret (FinW P N rs n outs res) G1):WH E t P N .ret G Φ :=
 W.fz _ hz (W.rt fun g hb=>hR.p g (hp g hb))
def numF:List Nat->Nat->List AV->Option (List (Nat × AV))
 | _,_,[]=>some []
 | [],_,_::_=>none
 | j::js,k,x::l=>match numF js (k+1) l with
  | none=>none
  | some r=>match nfv x,Nat.beq j k with
   | some y,true=>some ((j,y)::r)
   | _,_=>none
theorem numF_eq:∀ {l:List AV}{js:List Nat}{k:Nat}{r:List (Nat × AV)},numF js k l=some r->numbered k l=r
 | [],js,k,r,h=>by cases js <;> (cases h; rfl)
 | x::l,[],k,r,h=>by cases h
 | x::l,j::js,k,r,h=>by
  unfold numF at h
  split at h
  ·cases h
  ·rename_i r' hr
   split at h
   ·rename_i y hy hj
    cases h; rw [<- numF_eq hr,<- nfv_eq hy,Nat.eq_of_beq_eq_true hj]; rfl
   ·cases h
def lits:List Nat:=[0,1,2,3,4,5,6,7,8,9,10,11,12]
theorem Con.au {f:FuncId}{fn:Func}{c:Code}{args:List AV}{outs:List (Option AV)}{res:AV}(E:List Nat) (t:HT) (hf:P.funcs[f]?=some fn) (hb:fn.body=some c) (hN:fn.ntmps=N.size) (ha:Nat.ble args.length N.size=true) (hlen:outs.length=args.length) (hG:numF lits 0 args=some G) (hw:WH E t P N c G (FinW P N fn.results.toList args.length outs res)):Con P f args outs res:=Con.go hf hb hN ha hlen (W.fin (by rw [numF_eq hG]; exact hw))
end
end Go.Own
namespace Go.Own
open Go
set_option linter.unusedSectionVars false
variable [TB]
section
variable {P:Program}{N:Rm}{ops:Array Oper}{AT:List (List Nat)}{acc:Acc}{l:List Oper}{K:Gst->Prop}{i d:Nat}
theorem DL.bwv (j0:Nat) {G G2:List (Nat × AV)}{o:Oper}{x:AV}(he:EffOk P N (visG (get G) (fun m=>(AT.getD j0 []).contains m) acc) o (upd (get G2) d x)) (hg:o.guard=none) (hpd:ndq (acc.filterMap pendPlace)=true) (hp0:npB G=true) (hj:Nat.beq ops.size (j0+l.length+1)=true)
  (hU:acc.filter (fun e=>!(AT.getD j0 []).contains e.1)=[])
  (hb:(List.range ops.size).all (fun k=>Nat.ble k j0||(AT.getD k []).contains j0)=true) (hk:DL P N ops AT (get ((d,x)::G2)) (j0+1) [] l K):DL P N ops AT (get G) i acc (o::l) K :=
 .bw j0 (get_cons ▸ he) hg hpd hp0 hj hU hb hk
end
end Go.Own
namespace Go.Own
open Go Go.Proofs Go.Shelf Go.Lib Go.Sort
set_option linter.unusedSectionVars false
variable [TB]
def dgs:Nat->Nat->List UInt8
 | 0,_=>[]
 | k+1,u=>if u<10 then [UInt8.ofNat (48+u)] else dgs k (u / 10)++[UInt8.ofNat (48+u % 10)]
omit [TB] in
theorem dgs_eq:∀ (k u:Nat),u<10 ^ k->0<k->dgs k u=decDigits u
 | 0,_,_,h=>absurd h (by omega)
 | k+1,u,h,_=>by
  rw [dgs,decDigits]
  by_cases hu:u<10
  ·rw [if_pos hu,dif_pos hu]
  ·rw [if_neg hu,dif_neg hu]
   have hk:0<k:=by
    rcases Nat.eq_zero_or_pos k with rfl | hk
    ·simp at h; omega
    ·exact hk
   rw [dgs_eq k (u / 10) (by rw [Nat.pow_succ] at h; omega) hk]
def itoB (n:Int):List UInt8:=if n<0 then 45::dgs 20 n.natAbs else dgs 20 n.toNat
omit [TB] in
theorem itoB_eq {n:Int}(h:-9223372036854775808<=n/\n<=9223372036854775807):itoB n=Lib.itoa n:=by
 unfold itoB Lib.itoa
 split
 ·rw [dgs_eq 20 _ (by omega) (by omega)]
 ·rw [dgs_eq 20 _ (by omega) (by omega)]
def itoO (n:Int):Option ByteArray:=if -9223372036854775808<=n/\n<=9223372036854775807 then some ⟨(itoB n).toArray⟩ else none
theorem fr_grow {w:World}{k:Nat}{os:Array Obj}{U:BSet}:Fr w (grow (w.drewN k) os) U:=by
 refine ⟨rfl,rfl,rfl,?_,fun c hc _=>?_,fun a ha _=>?_,Nat.le_add_right _ _⟩
 ·rw [size_grow]; exact Nat.le_add_right _ _
 ·exact heap_grow_old _ _ hc
 ·exact (frozen?_grow (w.drewN k) os a ha).trans rfl
theorem Con.plain {P:Program}{f:FuncId}{args:List AV}{r:Value}(hr:r.oneCell'=true)
  (h:∀ (w:World) (I:BSet) (vs:List Value) (Fs:Nat->BSet),vs.length=args.length->SR w I vs.toArray (argG args) Fs->Calls P f vs.toArray w fun e w'=>e=.returned r/\∃ k os,w'=grow (w.drewN k) os) :
  Con P f args (args.map fun _=>none) (.lit r):=by
 refine ⟨by simp,fun w I vs Fs hl hS=>?_⟩
 refine (h w I vs Fs hl hS).mono ?_
 rintro e w' ⟨rfl,k,os,rfl⟩
 have hf:Fr w (grow (w.drewN k) os) (fun _=>False):=fr_grow
 have hout:∀ t x,outG (args.map fun _=>none) (.lit r) t=some x->t=args.length/\x=.lit r:=by
  intro t x hx
  unfold outG at hx
  split at hx
  ·rename_i ht; cases hx; exact ⟨by simpa using ht,rfl⟩
  ·rw [List.getElem?_map] at hx
   cases ha:args[t]? with
   | none=>rw [ha] at hx; cases hx
   | some y=>rw [ha] at hx; cases hx
 refine ⟨r,I,fun _=>E0,rfl,⟨fun t x hx=>?_,fun _ _ _ h=>h,fun _ _ _ h=>h.elim,fun _ _ h=>h.elim,fun c hc=>Nat.lt_of_lt_of_le (hS.lt c hc) hf.size,fun t t' z p n m new z' n' m' new' h1 _=>?_,TB.keep hS.tb (fun c hc=>hf.block c (hS.lt c hc) fun h=>h) fun _ h=>h⟩,⟨hf.mono fun _ _ h=>h.elim,fun _ h=>h,fun _ h=>.inl h,fun _ ⟨_,h⟩=>h.elim⟩⟩
 ·obtain ⟨rfl,rfl⟩:=hout t x hx
  exact ⟨r,by rw [List.getElem?_toArray,<- hl]; simp,.tree (.lit hr fun _ h=>h)⟩
 ·have:=(hout t _ h1).2
  cases this
theorem Con.itoa {P : Program} {ρ : Ren} (L : LaysM.n171 P ρ) (ht : ∀ (w : World) (I : BSet), TB.q w I -> Lib.TabIs P w "internal/strconv.uint64pow10" .u64 Lib.pow10Tab) {n : Int} {r : ByteArray} (h : itoO n = some r) : Con P (ρ.f 171) [I64 n] [none] (SS r) := by
 unfold itoO at h
 split at h <;> cases h
 rename_i hn
 rw [itoB_eq hn]
 refine Con.plain (args:=[I64 n]) rfl fun w I vs Fs hl hS=>?_
 match vs,hl with
 | [v0],_ =>
 obtain ⟨u0,hu0,hR0⟩:=hS.rel 0 _ rfl
 cases hu0
 have hv:=(hR0.isTree (by simp)).inv_lit.1
 subst hv
 exact Any.strconv_Itoa L n hn.1 hn.2 w (ht w I hS.tb)
end Go.Own
namespace Go.Proofs
open Go Go.Shelf Go.RowKit Go.Lib Go.Own
def Tryz.lays169_ren:Go.Shelf.Ren:=⟨fun | 169=>21 | n=>n,fun | 70=>72 | 9=>9 | 0=>0 | 72=>74 | 37=>60 | 127=>98 | 3=>3 | 5=>5 | n=>n,fun | n=>n⟩
theorem Tryz.lays169:Go.Proofs.Lays.n169 Tryz.prog Tryz.lays169_ren:={
 mixed:=by kernel_rfl
 f169:=Tryz.func21.trans (congrArg some (by kernel_rfl))
 t0:=Tryz.underlying0
 a0:=Tryz.isAgg0
 z0:=Tryz.sizeOf0
 v0:=Tryz.zeroValue0
 t3:=Tryz.underlying3
 a3:=Tryz.isAgg3
 z3:=Tryz.sizeOf3
 v3:=Tryz.zeroValue3
 t9:=Tryz.underlying9
 a9:=Tryz.isAgg9
 z9:=Tryz.sizeOf9
 v9:=Tryz.zeroValue9
 t37:=Tryz.underlying60
 a37:=Tryz.isAgg60
 z37:=Tryz.sizeOf60
 v37:=Tryz.zeroValue60
 t70:=Tryz.underlying72
 a70:=Tryz.isAgg72
 z70:=Tryz.sizeOf72
 v70:=Tryz.zeroValue72
 t72:=Tryz.underlying74
 a72:=Tryz.isAgg74
 z72:=Tryz.sizeOf74
 v72:=Tryz.zeroValue74
 t127:=Tryz.underlying98
 a127:=Tryz.isAgg98
 z127:=Tryz.sizeOf98
 v127:=Tryz.zeroValue98 }
def Tryz.lays171_ren:Go.Shelf.Ren:=⟨fun | 171=>20 | 243=>36 | 246=>48 | 283=>62 | 284=>63 | 285=>64 | 286=>65 | 129=>77 | 317=>76 | 318=>78 | 319=>79 | 320=>80 | 337=>97 | 338=>98 | n=>n,fun | 3=>3 | 9=>9 | 2=>2 | 4=>4 | 171=>151 | 0=>0 | 53=>97 | 37=>60 | 5=>5 | 173=>154 | 212=>182 | 51=>183 | 20=>20 | 213=>184 | 46=>186 | 232=>223 | 233=>224 | n=>n,fun | 17=>0 | 18=>1 | 19=>2 | n=>n⟩
theorem Tryz.lays171:Go.Proofs.LaysM.n171 Tryz.prog Tryz.lays171_ren:={
 mixed:=by kernel_rfl
 f129:=Tryz.func77.trans (congrArg some (by kernel_rfl))
 f171:=Tryz.func20.trans (congrArg some (by kernel_rfl))
 f243:=Tryz.func36.trans (congrArg some (by kernel_rfl))
 f246:=Tryz.func48.trans (congrArg some (by kernel_rfl))
 f283:=Tryz.func62.trans (congrArg some (by kernel_rfl))
 f284:=Tryz.func63.trans (congrArg some (by kernel_rfl))
 f285:=Tryz.func64.trans (congrArg some (by kernel_rfl))
 f286:=Tryz.func65.trans (congrArg some (by kernel_rfl))
 f317:=Tryz.func76.trans (congrArg some (by kernel_rfl))
 f318:=Tryz.func78.trans (congrArg some (by kernel_rfl))
 f319:=Tryz.func79.trans (congrArg some (by kernel_rfl))
 f320:=Tryz.func80.trans (congrArg some (by kernel_rfl))
 f337:=Tryz.func97.trans (congrArg some (by kernel_rfl))
 f338:=Tryz.func98.trans (congrArg some (by kernel_rfl))
 t0:=Tryz.underlying0
 a0:=Tryz.isAgg0
 z0:=Tryz.sizeOf0
 v0:=Tryz.zeroValue0
 t2:=Tryz.underlying2
 a2:=Tryz.isAgg2
 z2:=Tryz.sizeOf2
 v2:=Tryz.zeroValue2
 t3:=Tryz.underlying3
 a3:=Tryz.isAgg3
 z3:=Tryz.sizeOf3
 v3:=Tryz.zeroValue3
 t4:=Tryz.underlying4
 a4:=Tryz.isAgg4
 z4:=Tryz.sizeOf4
 v4:=Tryz.zeroValue4
 t5:=Tryz.underlying5
 a5:=Tryz.isAgg5
 z5:=Tryz.sizeOf5
 v5:=Tryz.zeroValue5
 t9:=Tryz.underlying9
 a9:=Tryz.isAgg9
 z9:=Tryz.sizeOf9
 v9:=Tryz.zeroValue9
 t20:=Tryz.underlying20
 a20:=Tryz.isAgg20
 z20:=Tryz.sizeOf20
 v20:=Tryz.zeroValue20
 t37:=Tryz.underlying60
 a37:=Tryz.isAgg60
 z37:=Tryz.sizeOf60
 v37:=Tryz.zeroValue60
 t46:=Tryz.underlying186
 a46:=Tryz.isAgg186
 z46:=Tryz.sizeOf186
 v46:=Tryz.zeroValue186
 t51:=Tryz.underlying183
 a51:=Tryz.isAgg183
 z51:=Tryz.sizeOf183
 v51:=Tryz.zeroValue183
 t53:=Tryz.underlying97
 a53:=Tryz.isAgg97
 z53:=Tryz.sizeOf97
 v53:=Tryz.zeroValue97
 t171:=Tryz.underlying151
 a171:=Tryz.isAgg151
 z171:=Tryz.sizeOf151
 v171:=Tryz.zeroValue151
 t173:=Tryz.underlying154
 a173:=Tryz.isAgg154
 z173:=Tryz.sizeOf154
 v173:=Tryz.zeroValue154
 t212:=Tryz.underlying182
 a212:=Tryz.isAgg182
 z212:=Tryz.sizeOf182
 v212:=Tryz.zeroValue182
 t213:=Tryz.underlying184
 a213:=Tryz.isAgg184
 z213:=Tryz.sizeOf184
 t232:=Tryz.underlying223
 a232:=Tryz.isAgg223
 z232:=Tryz.sizeOf223
 v232:=Tryz.zeroValue223
 t233:=Tryz.underlying224
 a233:=Tryz.isAgg224
 z233:=Tryz.sizeOf224
 v233:=Tryz.zeroValue224
 g17:=by kernel_rfl
 g18:=by kernel_rfl
 g19:=by kernel_rfl
 i0:=by kernel_rfl
 i2:=by kernel_rfl
 i3:=by kernel_rfl
 i4:=by kernel_rfl
 i5:=by kernel_rfl
 i9:=by kernel_rfl
 i20:=by kernel_rfl
 i37:=by kernel_rfl
 i46:=by kernel_rfl
 i51:=by kernel_rfl
 i53:=by kernel_rfl
 i171:=by kernel_rfl
 i173:=by kernel_rfl
 i212:=by kernel_rfl
 i232:=by kernel_rfl
 i233:=by kernel_rfl
 m17:=by kernel_rfl
 m18:=by kernel_rfl
 m19:=by kernel_rfl }
def Tryz.lays166_ren:Go.Shelf.Ren:=⟨fun | 240=>35 | 276=>47 | 166=>19 | n=>n,fun | 70=>72 | 9=>9 | 3=>3 | 75=>76 | 0=>0 | 72=>74 | 37=>60 | 4=>4 | 164=>120 | 20=>20 | 80=>79 | n=>n,fun | n=>n⟩
theorem Tryz.lays166:Go.Proofs.Lays.n166 Tryz.prog Tryz.lays166_ren:={
 mixed:=by kernel_rfl
 f166:=Tryz.func19.trans (congrArg some (by kernel_rfl))
 f240:=Tryz.func35.trans (congrArg some (by kernel_rfl))
 f276:=Tryz.func47.trans (congrArg some (by kernel_rfl))
 t0:=Tryz.underlying0
 a0:=Tryz.isAgg0
 z0:=Tryz.sizeOf0
 v0:=Tryz.zeroValue0
 t3:=Tryz.underlying3
 a3:=Tryz.isAgg3
 z3:=Tryz.sizeOf3
 v3:=Tryz.zeroValue3
 t4:=Tryz.underlying4
 a4:=Tryz.isAgg4
 z4:=Tryz.sizeOf4
 v4:=Tryz.zeroValue4
 t9:=Tryz.underlying9
 a9:=Tryz.isAgg9
 z9:=Tryz.sizeOf9
 v9:=Tryz.zeroValue9
 t20:=Tryz.underlying20
 a20:=Tryz.isAgg20
 z20:=Tryz.sizeOf20
 v20:=Tryz.zeroValue20
 t37:=Tryz.underlying60
 a37:=Tryz.isAgg60
 z37:=Tryz.sizeOf60
 v37:=Tryz.zeroValue60
 t70:=Tryz.underlying72
 a70:=Tryz.isAgg72
 z70:=Tryz.sizeOf72
 v70:=Tryz.zeroValue72
 t72:=Tryz.underlying74
 a72:=Tryz.isAgg74
 z72:=Tryz.sizeOf74
 v72:=Tryz.zeroValue74
 t75:=Tryz.underlying76
 a75:=Tryz.isAgg76
 z75:=Tryz.sizeOf76
 v75:=Tryz.zeroValue76
 t164:=Tryz.underlying120
 a164:=Tryz.isAgg120
 z164:=Tryz.sizeOf120
 v164:=Tryz.zeroValue120
}
theorem Tryz.bX166:Builder.Extra Tryz.prog Tryz.lays166_ren where
 sizeBuilder:=by kernel_rfl
 liesBuilder:=by kernel_rfl
 t5:=Tryz.underlying5
 a5:=Tryz.isAgg5
 z5:=Tryz.sizeOf5
 v5:=Tryz.zeroValue5
 infoByte:=by kernel_rfl
 cellsByte:=by kernel_rfl
 sizeByte:=by kernel_rfl
 neB5:=by decide
theorem Tryz.bX169:Builder.Extra Tryz.prog Tryz.lays169_ren where
 sizeBuilder:=by kernel_rfl
 liesBuilder:=by kernel_rfl
 t5:=Tryz.underlying5
 a5:=Tryz.isAgg5
 z5:=Tryz.sizeOf5
 v5:=Tryz.zeroValue5
 infoByte:=by kernel_rfl
 cellsByte:=by kernel_rfl
 sizeByte:=by kernel_rfl
 neB5:=by decide
theorem Tryz.tabG : Tryz.prog.globalNamed "internal/strconv.uint64pow10" = some 0 := by kernel_rfl
instance : TB := ⟨fun w I => I 0 /\ Lib.TabIs Tryz.prog w "internal/strconv.uint64pow10" .u64 Lib.pow10Tab, fun {w w' I I'} h hb hI => ⟨hI _ h.1, by
 have h2:=h.2
 unfold Lib.TabIs World.var? at h2 ⊢
 rw [Tryz.tabG] at h2 ⊢
 simp only [Option.bind_some] at h2 ⊢
 rw [hb _ h.1]
 exact h2⟩⟩
theorem Tryz.tabQ (w : World) (I : BSet) (h : TB.q w I) : Lib.TabIs Tryz.prog w "internal/strconv.uint64pow10" .u64 Lib.pow10Tab := h.2
instance:FB Tryz.prog 74 5:={}
instance {x s y:ByteArray}:CF Tryz.prog 19 (bwO x s=some y) [.obj [.self (0,74),.brow 5 (strCells x)],SS s] [some (.obj [.self (0,74),.brow 5 (strCells y)]),none] (.tup [I64 s.size,.lit .nilIface]):=⟨Con.bw Tryz.lays166 Tryz.bX166⟩
instance {x y:ByteArray}:CF Tryz.prog 21 (bsO x=some y) [.obj [.self (0,74),.brow 5 (strCells x)]] [some (.obj [.self (0,74),.dead])] (SS y):=⟨Con.bs Tryz.lays169 Tryz.bX169⟩
instance {n:Int}{r:ByteArray}:CF Tryz.prog 20 (itoO n=some r) [I64 n] [none] (SS r):=⟨Con.itoa (P:=Tryz.prog) Tryz.lays171 Tryz.tabQ⟩
end Go.Proofs
