/- Parts of the proof that the last text states. -/
import Derived.Deep.Draws
import Derived.Deep.LoopGhost
import Derived.KernelRfl
import Derived.Laws.CopyRow
import Derived.Lib.SliceRun
import Derived.Lib.SlicesCompact
import Derived.Lib.Walk
import Derived.Maps.OwnIn
import Derived.Shelf.RegionOpenPlain
import Derived.Shelf.SlLaysQ
import Derived.Shelf.SlSortCmp.NoneTotal
import Derived.Shelf.SlicesE.Kit
import Derived.Shelf.SlicesQ.Load
import Derived.Sort.WalkB12
import Derived.StringKeys
import Derived.WalkKit
import Derived.Test.YtcfiphoaldlmiaaGreatE4
namespace Go.Own
open Go
set_option linter.unusedSectionVars false
variable [TB]
section
variable {α β:Type}{P:Program}{N:Rm}{g g1:Gst}{p:Place}{m:Int}{a b:Operand}{t:TypeId}
theorem AV.at_app1:∀ (l:List Nat) {x nd:AV}{k:Nat}{c:AV},x.at l=some nd->nd.kids[k]?=some c->x.at (l++[k])=some c
 | [],x,nd,k,c,h,hk=>by
  simp only [AV.at,Option.some.injEq] at h
  subst h
  simp [AV.at,hk]
 | j::l,x,nd,k,c,h,hk=>by
  simp only [AV.at] at h
  cases hj:x.kids[j]? with
  | none=>rw [hj] at h; cases h
  | some y =>
   rw [hj] at h
   simp only [List.cons_append,AV.at,hj]
   exact AV.at_app1 l h hk
theorem AV.setAt_app:∀ (l:List Nat) {x nd:AV}{k:Nat}{c:AV}(y:AV),x.at l=some nd->nd.kids[k]?=some c->x.setAt (l++[k]) y=x.setAt l (nd.setKid k y)
 | [],x,nd,k,c,y,h,hk=>by
  simp only [AV.at,Option.some.injEq] at h
  subst h
  simp [AV.setAt,hk]
 | j::l,x,nd,k,c,y,h,hk=>by
  simp only [AV.at] at h
  cases hj:x.kids[j]? with
  | none=>rw [hj] at h; cases h
  | some z =>
   rw [hj] at h
   simp only [List.cons_append,AV.setAt,hj]
   rw [AV.setAt_app l y h hk]
theorem el_cell {en:En α}{L:List α}{yy:α}{o:Nat}{c:AV}(h:idx L m=some yy) (hc:(en.cells yy)[o]?=some c):(oR en L).kids[m.toNat * en.z+o]?=some c:=rowc_at en h hc
theorem atP_el {en:En α}{L:List α}{yy:α}{r o:Nat}{path:List Nat}{c:AV}(hp:atP g ⟨r,path⟩=some (oR en L)) (h:idx L m=some yy) (hc:(en.cells yy)[o]?=some c):atP g ⟨r,path++[m.toNat * en.z+o]⟩=some c:=by
 unfold atP at hp ⊢
 simp only at hp ⊢
 cases hx:g r with
 | none=>rw [hx] at hp; cases hp
 | some x =>
  rw [hx] at hp
  exact AV.at_app1 path hp (el_cell h hc)
theorem setP_el {en:En α}{L:List α}{yy:α}{r o:Nat}{path:List Nat}{c:AV}(y:AV) (hp:atP g ⟨r,path⟩=some (oR en L)) (h:idx L m=some yy) (hc:(en.cells yy)[o]?=some c) :
  setP g ⟨r,path++[m.toNat * en.z+o]⟩ y=setP g ⟨r,path⟩ (.own en.z L.length ((rowc en L).set (m.toNat * en.z+o) y)):=by
 funext s
 unfold setP
 simp only
 split
 ·rename_i e
  subst e
  unfold atP at hp
  simp only at hp
  cases hx:g s with
  | none=>rfl
  | some x =>
   rw [hx] at hp
   simp only [Option.map_some,Option.some.injEq]
   rw [AV.setAt_app path y hp (el_cell h hc)]
   rfl
 ·rfl
theorem splice_set (l:List AV) (k:Nat) (x c:AV):splice (l.set k x) k [c]=splice l k [c]:=by
 unfold splice
 simp only [List.length_singleton]
 rw [List.take_set,List.drop_set]
 rw [List.set_eq_of_length_le (by simp; omega)]
 simp
theorem EO.stEP {o':Oper}{en:En α}{en2:En β}{L:List α}{yy y2:α}{Ls M R:List β}{o s mm:Nat}{new new':List AV}{x2 y0:AV}{G2:List (Nat × AV)}
  (ho:o'.op=.store t a b) (hd:o'.dst=none) (ha:Rd g a (.ptr p (m.toNat * en.z+o))) (hb:Rd g b (.brw en2.z ⟨s,[]⟩ (Ls.length+mm)))
  (hps:g s=some (.pend en2.z ⟨p.root,p.path++[m.toNat * en.z+o]⟩ Ls.length mm new)) (hp:atP g p=some (oR en L)) (h:idx L m=some yy) (hcell:(en.cells yy)[o]?=some (oR en2 Ls)) (hq:Nat.beq p.root s=false)
  (h1:TkL (setP (setP g ⟨s,[]⟩ .dead) p (.own en.z L.length ((rowc en L).set (m.toNat * en.z+o) .dead))) new new' g1)
  (hfz:FzL new' (rowc en2 M)) (hm:M.length=mm) (hR:Ls++M=R) (hz:sizeT P t 1=true)
  (hp1:atP g1 p=some (.own en.z L.length ((rowc en L).set (m.toNat * en.z+o) .dead)))
  (he:splice (en.cells yy) o [oR en2 R]=en.cells y2) (hlen:Nat.ble (o+1) en.z=true)
  (hx2:setP g1 p (oR en (L.set m.toNat y2)) p.root=some x2) (hr:(get G2 p.root).isSome=true) (hy0:g1 p.root=some y0) [hno:NRc y0] (hG:TrX g1 (get G2) p.root x2 G2):EO P N g o' (get G2):=by
 subst hm hR
 have hlen':=Nat.le_of_ble_eq_true hlen
 have hsp:=row_set en (cs':=[oR en2 (Ls++M)]) h he (by simpa using hlen')
 have hl2:(L.set m.toNat y2).length=L.length:=List.length_set
 have hqr:=Nat.ne_of_beq_eq_false hq
 have hatq:atP g ⟨p.root,p.path++[m.toNat * en.z+o]⟩=some (oR en2 Ls):=atP_el (g:=g) (r:=p.root) (path:=p.path) hp h hcell
 have hpS:atP (setP g ⟨s,[]⟩ .dead) p=some (oR en L):=by
  unfold atP at hp ⊢
  rw [setP_slot (p:=⟨s,[]⟩) (fun e=>hqr e)]; exact hp
 have ht:TkL g [.brw en2.z ⟨s,[]⟩ (Ls.length+M.length)] [.own en2.z (Ls.length+M.length) (rowc en2 Ls++new')] g1:=by
  refine .pn hps hatq hq ?_ .nil
  rw [setP_el .dead (r:=p.root) (path:=p.path) hpS h hcell]
  exact h1
 have hk:m.toNat * en.z+o+1<=L.length * en.z:=by
  obtain ⟨q0,q1,_⟩:=idx_spec h
  have h2:m.toNat+1<=L.length:=by omega
  calc m.toNat * en.z+o+1<=m.toNat * en.z+en.z:=by omega
   _=(m.toNat+1) * en.z:=by rw [Nat.add_mul]; omega
   _<=L.length * en.z:=Nat.mul_le_mul_right _ h2
 refine .store ho hd ha.opd hb.opd ht.take (y':=oR en2 (Ls++M)) ?_ rfl hz (p:=p) (nd:=.own en.z L.length ((rowc en L).set (m.toNat * en.z+o) .dead)) (z:=en.z) (n:=L.length) (cs:=(rowc en L).set (m.toNat * en.z+o) .dead) hp1 (.inl rfl) ?_ (by simp) (fun t x hx=>?_) (fun t x hx y hy=>?_) (fun t z q n m new hx=>?_) (by intro e; rw [e] at hr; cases hr)
 ·rw [<- oR_app]; exact (hfz.pre _).own
 ·simp only [List.length_singleton,List.length_set,rowc_len]; exact hk
 ·have hnd:(AV.own en.z L.length ((rowc en L).set (m.toNat * en.z+o) .dead)).splice (m.toNat * en.z+o) [oR en2 (Ls++M)]=oR en (L.set m.toNat y2):=by
   show AV.own en.z L.length (splice ((rowc en L).set (m.toNat * en.z+o) .dead) (m.toNat * en.z+o) [oR en2 (Ls++M)])=_
   unfold oR at hsp ⊢
   rw [splice_set,hsp,hl2]
  rw [hnd]
  rcases hG.spec t x hx with ⟨h1,h2,_⟩ | ⟨h1,h2,_⟩
  ·rw [setP_slot h1]; exact h2
  ·subst h1 h2; exact hx2
 ·rcases hG.spec t x hx with ⟨h1,h2,h3⟩ | ⟨h1,h2,h3⟩
  ·rw [h2] at hy; cases hy
   rcases h3 with h3 | ⟨h3,c2,rfl⟩
   ·exact h3.rkq
   ·refine RKp.ref (by cases h3; rfl) ⟨h3.ok1,h3.clear ?_,h3.ok2⟩
    intro e
    obtain ⟨pr,pp⟩:=p
    simp only at e
    subst e
    simp only [setP,if_true,hy0,Option.map_some,AV.setAt,Option.some.injEq] at hx2
    cases hx2
  ·subst h1; rw [hy0] at hy; cases hy; exact .nr hno.nr
 ·rcases hG.spec t _ hx with ⟨_,_,h3 | ⟨h3,_⟩⟩ | ⟨_,_,h3⟩
  ·exact h3.np _ _ _ _ _ rfl
  ·exact h3.np _ _ _ _ _ rfl
  ·cases h3
end
end Go.Own
/- Short forms for printed walks. -/
namespace Go.Own
open Go
set_option linter.unusedSectionVars false
variable [TB]
section
variable {P:Program}{N:Rm}{ops:Array Oper}{AT:List (List Nat)}{g g0:Gst}{K:Gst->Prop}{l:List Oper}{acc:Acc}{d i:Nat}{op:Op}{ty:TypeId}{pos:String}{after:Array Edge}{x:AV}
theorem Rv (hp:PS P g op ty x) (hk:RunL P N ops l (upd g d x) K) (hN:N.ok d=true:=by rfl) (hf:g d=none:=by rfl):RunL P N ops (⟨some d,op,ty,pos,after,none⟩::l) g K:=.v hp hN hf .none hk
theorem Rc (hp:PC P g op x) (hk:RunL P N ops l (upd g d x) K) (hN:N.ok d=true:=by rfl) (hf:g d=none:=by rfl):RunL P N ops (⟨some d,op,ty,pos,after,none⟩::l) g K:=.c hp hN hf .none hk
theorem Dv (j0:Nat) (hp:PS P (vis AT g0 j0 acc) op ty x) (hk:DL P N ops AT g0 i ((j0,d,some x)::acc) l K) (hj:Nat.beq ops.size (j0+l.length+1)=true:=by rfl) (hf:g0 d=none:=by rfl) (hn:acc.all (fun e=>!Nat.beq e.2.1 d)=true:=by rfl) (hN:N.ok d=true:=by rfl) :
  DL P N ops AT g0 i acc (⟨some d,op,ty,pos,after,none⟩::l) K:=.v j0 hp hj hf hn hN .none hk
theorem Dc (j0:Nat) (hp:PC P (vis AT g0 j0 acc) op x) (hk:DL P N ops AT g0 i ((j0,d,some x)::acc) l K) (hj:Nat.beq ops.size (j0+l.length+1)=true:=by rfl) (hf:g0 d=none:=by rfl) (hn:acc.all (fun e=>!Nat.beq e.2.1 d)=true:=by rfl) (hN:N.ok d=true:=by rfl) :
  DL P N ops AT g0 i acc (⟨some d,op,ty,pos,after,none⟩::l) K:=.c j0 hp hj hf hn hN .none hk
end
instance {z n:Nat}{cs:List AV}:NPc (.own z n cs):=⟨by simp⟩
def rn (a n:Nat) (l:List Nat):List Nat:=List.range' a n++l
end Go.Own
namespace Go.Own
open Go
set_option linter.unusedSectionVars false
variable [TB]
section
variable {α:Type}{P:Program}{N:Rm}{g:Gst}{d r:Nat}{ty:TypeId}
instance {fn:Fn}{cs:List AV} [h:NRl cs]:NRc (.clo fn [] cs):=⟨.clo (by simp) h.nr⟩
theorem O.mf {fn:Fn}{caps:List Operand}{b:List AV}(hb:Own.opds g caps=some b):PS P g (.makeFunc fn #[] caps.toArray) ty (.clo fn [] b):=.p3 (.makeFunc rfl (by simpa using hb))
theorem View.cl {fn:Fn}{cs cs':List AV}(h:VwL g cs cs'):View g (.clo fn [] cs) (.clo fn [] cs'):=.clo h.len h.get
theorem PC.gc {c:Operand}{xs:List Operand}{tys:Array TypeId}{f:FuncId}{ys caps:List AV}{outs:List (Option AV)}{res:AV}(hc:Rd g c (.clo (.func f) [] caps)) (hx:Opds g xs ys) (hcon:Con P f (ys++caps) outs res) (hf:callT P f=true) (ho:noneB outs=true) [hcp:NRl caps] [hr:NRc res] :
  PC P g (.call { callee:=.value c,args:=xs.toArray,argTypes:=tys }) res:=by
 have e:=noneB_map ho hcon.1
 refine .plain (first:=[]) (caps:=caps) (ys:=ys) hc.opd (by simpa using hx.spec.1) hf (fun y hy=>?_) ?_ hr.nr
 ·rw [List.nil_append] at hy
  rcases List.mem_append.1 hy with h | h
  ·exact hx.spec.2 y h
  ·exact hcp.nr y h
 ·rw [List.nil_append,<- e]; exact hcon
theorem CallOk.lv {o:Oper}{xs:List Operand}{tys:Array TypeId}{f:FuncId}{ys args:List AV}{res:AV}{en:En α}{L L':List α}{G2:List (Nat × AV)}(ho:o.op=.call { callee:=.value (.func f),args:=xs.toArray,argTypes:=tys }) (hd:o.dst=some d) (hx:Own.opds g xs=some (.brw en.z ⟨r,[]⟩ L.length::ys))
  (hs:g r=some (oR en L)) (hv:VwL (get ((r,.dead)::G2)) ys args) (hcon:Con P f (oR en L::args) (some (oR en L')::args.map fun _=>none) res) (hf:callT P f=true) [hr:OOc res] [hro:OOc (oR en L')]
  (hG:Trim false (setP g ⟨r,[]⟩ .dead) (get ((r,.dead)::G2)) G2) (hg:get G2 d=none) (hrd:Nat.beq r d=false) (hG4:Trim false (get ((r,oR en L')::G2)) (get ((r,oR en L')::G2)) G2) (hN:N.ok d=true) :
  CallOk P N g o d (get ((d,res)::(r,oR en L')::G2)):=by
 have hrd':r≠d:=Nat.ne_of_beq_eq_false hrd
 have dead2:get ((r,AV.dead)::G2) r=some .dead:=by simp [get]
 have hnr:∀ x∈rowc en L,NR x:=by
  intro x hx
  obtain ⟨a,_,ha⟩:=List.mem_flatMap.1 hx
  exact en.nr a x ha
 have htk:(rowc en L).take (L.length * en.z)=rowc en L:=List.take_of_length_le (by rw [rowc_len]; exact Nat.le_refl _)
 have keep2:Keep (setP g ⟨r,[]⟩ .dead) (get ((r,.dead)::G2)):=by
  refine ⟨fun t x h=>?_,fun t x h=>?_,fun t z q n m new h=>?_⟩
  all_goals
   simp only [get] at h
   split at h
  ·rename_i e; subst e; cases h; simp [setP,hs,AV.setAt]
  ·obtain ⟨⟨y,h1,_,h3⟩,_⟩:=hG.spec t x h; rw [<- h3 rfl]; exact h1
  ·cases h; exact .nr .dead
  ·exact (hG.spec t x h).2.1
  ·cases h
  ·exact (hG.spec t _ h).2.2 _ _ _ _ _ rfl
 have put:putAll (get ((r,.dead)::G2)) [(⟨r,[]⟩,oR en L')]=get ((r,oR en L')::G2):=by
  funext t
  simp only [putAll,setP,get]
  by_cases h:t=r
  ·simp [h,AV.setAt]
  ·simp [h]
 have keep4:Keep (get ((r,oR en L')::G2)) (get ((r,oR en L')::G2)):=by
  refine ⟨fun t x h=>h,fun t x h=>?_,fun t z q n m new h=>?_⟩
  all_goals
   simp only [get] at h
   split at h
  ·cases h; exact .nr hro.oo.nr
  ·exact (hG4.spec t x h).2.1
  ·cases h
  ·exact (hG4.spec t _ h).2.2 _ _ _ _ _ rfl
 have hl:=hv.len
 have e5:get ((d,res)::(r,oR en L')::G2)=upd (get ((r,oR en L')::G2)) d res:=by
  funext t
  rw [get_cons]
 rw [e5]
 refine ECall.ok (first:=[]) (caps:=[]) (ys:=.brw en.z ⟨r,[]⟩ L.length::ys) (tk:=fun k=>k == 0) (vw:=true) (outs:=some (oR en L')::args.map fun _=>none) (g1:=setP g ⟨r,[]⟩ .dead) (g2:=get ((r,.dead)::G2)) (g4:=get ((r,oR en L')::G2)) (l:=[(⟨r,[]⟩,oR en L')]) (ks:=fun _=>0) (xs0:=.brw en.z ⟨r,[]⟩ L.length::ys.map fun _=>.dead) (xs1:=oR en L::ys.map fun _=>.dead) (args:=oR en L::args) (res:=res) ho hd rfl (by simpa using hx)
  ⟨hf,by simp,by simpa using hl,fun k x h=>?_,?_,keep2,fun k x y hx hy=>?_,hcon,by simpa using hr.oo,fun k x h=>?_,fun j p x hj=>?_,by simp,fun i j hi hj _=>by simp at hi hj; omega,by rw [put]; exact keep4⟩ ?_ hN Bk.refl
 ·simp only [List.nil_append,List.append_nil] at h
  cases k with
  | zero=>exact .inl h
  | succ k =>
   refine .inr ?_
   simp only [List.getElem?_cons_succ] at h ⊢
   rw [List.getElem?_map,h]; rfl
 ·have h1:Take (setP g ⟨r,[]⟩ .dead) ((rowc en L).take (L.length * en.z)) (rowc en L) (setP g ⟨r,[]⟩ .dead):=by rw [htk]; exact .nr hnr
  refine .brw (N:=L.length) (by simp [atP,hs,AV.at]) (Nat.le_refl _) h1 (.nr fun x hx=>?_)
  obtain ⟨_,_,rfl⟩:=List.mem_map.1 hx
  exact .dead
 ·simp only [List.nil_append,List.append_nil] at hx
  cases k with
  | zero=>simpa using hy
  | succ k =>
   simp only [List.getElem?_cons_succ] at hx hy
   exact ⟨rfl,hv.get k x y hx hy⟩
 ·cases k with
  | zero=>simp only [List.getElem?_cons_zero,Option.some.injEq] at h; subst h; exact hro.oo
  | succ k =>
   simp only [List.getElem?_cons_succ,List.getElem?_map] at h
   cases ha:args[k]? <;> rw [ha] at h <;> cases h
 ·cases j with
  | succ j=>simp at hj
  | zero =>
   simp only [List.getElem?_cons_zero,Option.some.injEq,Prod.mk.injEq] at hj
   obtain ⟨rfl,rfl⟩:=hj
   exact ⟨rfl,by simp [atP,dead2,AV.at],.inl ⟨en.z,L.length,rowc en L,rfl,by simp [atP,hs,AV.at]⟩,fun _ h=>by cases h⟩
 ·simp only [get,if_neg (Ne.symm hrd')]; exact hg
end
end Go.Own
namespace Go.Own
open Go Go.Proofs Go.Shelf Go.Lib Go.Sort
set_option linter.unusedSectionVars false
variable [TB]
section
variable {P:Program}{w:World}
def ordB {α:Type} [DecidableEq α] (lt:α->α->Bool) (l:List α):Bool :=
 l.all fun a=>!lt a a&&l.all fun b=>(lt a b||lt b a||decide (a=b))&&l.all fun c=>(!(lt a b&&lt b c)||lt a c)&&(lt a b||lt b c||!lt a c)
def ltO {α:Type}(cf:α->α->Option Int) (a b:α):Bool:=decide ((cf a b).getD 0<0)
def ins {α:Type}(lt:α->α->Bool) (x:α):List α->List α
 | []=>[x]
 | y::l=>if lt y x then y::ins lt x l else x::y::l
def isort {α:Type}(lt:α->α->Bool):List α->List α
 | []=>[]
 | x::l=>ins lt x (isort lt l)
theorem ins_perm {α:Type}(lt:α->α->Bool) (x:α):∀ l:List α,(ins lt x l).Perm (x::l)
 | []=>.refl _
 | y::l=>by
  unfold ins
  split
  ·exact ((ins_perm lt x l).cons y).trans (.swap x y l)
  ·exact .refl _
theorem isort_perm {α:Type}(lt:α->α->Bool):∀ l:List α,(isort lt l).Perm l
 | []=>.refl _
 | x::l=>(ins_perm lt x _).trans ((isort_perm lt l).cons x)
theorem ins_sorted {α:Type}{lt:α->α->Bool}(hS:SWO lt) (x:α):∀ l:List α,l.Pairwise (fun a b=>(!lt b a)=true)->(ins lt x l).Pairwise fun a b=>(!lt b a)=true
 | [],_=>List.pairwise_singleton _ _
 | y::l,h=>by
  obtain ⟨h1,h2⟩:=List.pairwise_cons.1 h
  unfold ins
  split
  ·rename_i hlt
   refine List.pairwise_cons.2 ⟨fun z hz=>?_,ins_sorted hS x l h2⟩
   rcases List.mem_cons.1 ((ins_perm lt x l).mem_iff.1 hz) with rfl | hz
   ·cases hc:lt z y with
    | false=>rfl
    | true=>have:=hS.trans _ _ _ hlt hc; rw [hS.irrefl] at this; cases this
   ·exact h1 z hz
  ·rename_i hlt
   have hlt:lt y x=false:=by simpa using hlt
   refine List.pairwise_cons.2 ⟨fun z hz=>?_,h⟩
   rcases List.mem_cons.1 hz with rfl | hz
   ·rw [hlt]; rfl
   ·have hz:=h1 z hz
    simp only [Bool.not_eq_true'] at hz ⊢
    exact hS.ntrans _ _ _ hz hlt
theorem isort_sorted {α:Type}{lt:α->α->Bool}(hS:SWO lt):∀ l:List α,(isort lt l).Pairwise fun a b=>(!lt b a)=true
 | []=>.nil
 | x::l=>ins_sorted hS x _ (isort_sorted hS l)
theorem isort_merge {α:Type}{lt:α->α->Bool}(hS:SWO lt) (hT:∀ x y,lt x y=false->lt y x=false->x=y) (l:List α):l.mergeSort (fun x y=>!lt y x)=isort lt l:=by
 refine List.Perm.eq_of_pairwise (le:=fun x y=>(!lt y x)=true) (fun a b _ _ h1 h2=>?_) (List.pairwise_mergeSort (fun a b c h1 h2=>?_) (fun a b=>?_) l) (isort_sorted hS l) ((List.mergeSort_perm _ _).trans (isort_perm lt l).symm)
 ·simp only [Bool.not_eq_true'] at h1 h2
  exact hT a b h2 h1
 ·simp only [Bool.not_eq_true'] at h1 h2 ⊢
  exact hS.ntrans _ _ _ h2 h1
 ·cases h1:lt b a with
  | false=>rfl
  | true =>
   cases h2:lt a b with
   | false=>rfl
   | true=>have:=hS.trans _ _ _ h1 h2; rw [hS.irrefl] at this; cases this
theorem ins_map {α β:Type}{lt:α->α->Bool}{lt':β->β->Bool}{f:α->β}(h:∀ a b,lt a b=lt' (f a) (f b)) (x:α):∀ l:List α,(ins lt x l).map f=ins lt' (f x) (l.map f)
 | []=>rfl
 | y::l=>by
  simp only [ins,List.map_cons,h]
  split
  ·rw [List.map_cons,ins_map h x l]
  ·rfl
theorem isort_map {α β:Type}{lt:α->α->Bool}{lt':β->β->Bool}{f:α->β}(h:∀ a b,lt a b=lt' (f a) (f b)):∀ l:List α,(isort lt l).map f=isort lt' (l.map f)
 | []=>rfl
 | x::l=>by simp only [isort,List.map_cons,ins_map h,isort_map h l]
def sortO {α:Type} [DecidableEq α] (cf:α->α->Option Int) (l:List α):Option (List α) :=
 if (l.all fun a=>l.all fun b=>(cf a b).isSome)&&ordB (ltO cf) l&&decide (l.length<4611686018427387904) then some (isort (ltO cf) l) else none
theorem grow_of_fr {w':World}(h:Fr w w' fun _=>False):∃ q os,w'=grow (w.drewN q) os:=by
 refine ⟨w'.drawn - w.drawn,w'.heap.extract w.heap.size w'.heap.size,?_⟩
 obtain ⟨h1,h2,h3,h4,h5,h6,h7⟩:=h
 obtain ⟨hp,tp,dr,os,out⟩:=w'
 simp only at h1 h2 h3 h4 h5 h7
 subst h1 h2 h3
 unfold grow World.drewN
 simp only [World.mk.injEq,true_and,and_true]
 refine ⟨?_,by omega⟩
 apply Array.ext_getElem?
 intro k
 rw [Array.getElem?_append]
 by_cases hk:k<w.heap.size
 ·rw [if_pos hk]; exact h5 k hk fun h=>h
 ·rw [if_neg hk,Array.getElem?_extract]
  by_cases hk2:k<hp.size
  ·rw [if_pos (by omega),show w.heap.size+(k - w.heap.size)=k by omega]
  ·rw [if_neg (by omega),Array.getElem?_eq_none (by omega)]
theorem rowc_int (l:List Int):rowc eI l=l.map I64:=by
 induction l with
 | nil=>rfl
 | cons a l ih =>
  show eI.cells a++rowc eI l=_
  rw [ih]; rfl
theorem sort_fin {vs:List Value}{v0 v1:Value}(hvs:vs=[v0,v1]) {I:BSet}{Fs:Nat->BSet}{g:Gst}(hS:SR w I vs.toArray g Fs) {w':World}{e:TypeId}{r:List Int}(ho:w'.ownsRow 0 e 1 v0 r.length (r.map (Value.int .i64))) (hF:∀ c,Fs 0 c↔v0.ownBlock=some c) (hfr:Fr w w' fun c=>Fs 0 c) :
  ∃ v I' Fs',Ending.returned (.tuple #[])=.returned v/\SR w' I' (vs++[v]).toArray (outG [some (oR eI r),none] (.tup [])) Fs'/\St w I (fun c=>∃ t,Fs t c) w' I' (fun c=>∃ t,Fs' t c):=by
 subst hvs
 refine ⟨_,I,fun t=>if t=0 then Fs 0 else E0,rfl,⟨fun t x hx=>?_,fun t ht c hc=>?_,fun t t' c hc hc'=>?_,fun t c hc=>?_,fun c hc=>Nat.lt_of_lt_of_le (hS.lt c hc) hfr.size,fun t t' z p n m new z' n' m' new' h1 h2=>?_,TB.keep hS.tb (fun c hc=>hfr.block c (hS.lt c hc) fun h=>hS.imm 0 c h hc) fun _ h=>h⟩,⟨?_,fun c h=>h,fun c h=>.inl h,fun c hc=>?_⟩⟩
 ·unfold outG at hx
  split at hx
  ·rename_i ht
   have ht:t=2:=ht
   subst ht
   cases hx
   exact ⟨.tuple #[],rfl,.tree (.tup (Fs:=fun _=>E0) rfl (fun k x u h=>by simp at h) (fun j k c h=>by simp at h) (fun c=>⟨fun h=>h.elim,fun ⟨k,h,_⟩=>by simp at h⟩))⟩
  ·match t,hx with
   | 0,hx =>
    cases hx
    refine ⟨v0,rfl,.tree ?_⟩
    show R w' I _ (.own 1 r.length (rowc eI r)) v0 (Fs 0)
    rw [rowc_int]
    refine .own (Fs:=fun _=>E0) ho (by simp) (fun k u hu=>?_) (fun k x u hx hu=>?_) (fun _ _ _ _ _ h=>h.elim) (fun _ _ _ h=>h.elim) (fun c=>⟨fun h=>.inl ((hF c).1 h),fun h=>?_⟩)
    ·rw [List.getElem?_map] at hu
     cases hk:r[k]? <;> rw [hk] at hu <;> cases hu
     rfl
    ·rw [List.getElem?_map] at hx hu
     cases hk:r[k]? <;> rw [hk] at hx hu <;> cases hx <;> cases hu
     exact .lit rfl fun _ h=>h
    ·rcases h with h | ⟨_,_,h⟩
     ·exact (hF c).2 h
     ·exact h.elim
   | 1,hx=>cases hx
   | t+2,hx=>cases hx
 ·have h0:¬ t=0:=fun e=>by subst e; exact absurd ht (by simp [outG])
  simp only [if_neg h0] at hc
  exact hc
 ·have key:∀ {t:Nat},(if t=0 then Fs 0 else E0) c->t=0:=fun {t} h=>by
   by_cases h0:t=0
   ·exact h0
   ·rw [if_neg h0] at h; exact h.elim
  rw [key hc,key hc']
 ·by_cases h0:t=0
  ·simp only [if_pos h0] at hc; exact hS.imm 0 c hc
  ·simp only [if_neg h0] at hc; exact hc.elim
 ·unfold outG at h1
  split at h1
  ·cases h1
  ·match t,h1 with
   | 0,h1=>cases h1
   | 1,h1=>cases h1
   | t+2,h1=>cases h1
 ·exact hfr.mono fun b _ hb=>⟨0,hb⟩
 ·obtain ⟨t,ht⟩:=hc
  by_cases h0:t=0
  ·simp only [if_pos h0] at ht; exact .inl ⟨0,ht⟩
  ·simp only [if_neg h0] at ht; exact ht.elim
theorem ordB_spec {α:Type} [DecidableEq α] {lt:α->α->Bool}{l:List α}(h:ordB lt l=true):∀ a∈l,lt a a=false/\∀ b∈l,(lt a b=true\/lt b a=true\/a=b)/\∀ c∈l,((lt a b=true/\lt b c=true)->lt a c=true)/\(lt a b=true\/lt b c=true\/lt a c=false):=by
 intro a ha
 unfold ordB at h
 have h1:=List.all_eq_true.1 h a ha
 simp only [Bool.and_eq_true,Bool.not_eq_true',List.all_eq_true,Bool.or_eq_true,decide_eq_true_eq] at h1
 refine ⟨h1.1,fun b hb=>?_⟩
 obtain ⟨h2,h3⟩:=h1.2 b hb
 refine ⟨by rcases h2 with (h | h) | h <;> simp [h],fun c hc=>?_⟩
 obtain ⟨h4,h5⟩:=h3 c hc
 refine ⟨fun ⟨x,y⟩=>?_,by rcases h5 with (h | h) | h <;> simp [h]⟩
 rcases h4 with h | h
 ·rw [x,y] at h; cases h
 ·exact h
theorem sortO_spec {α:Type} [DecidableEq α] {cf:α->α->Option Int}{l r:List α}(h:sortO cf l=some r):(∀ a∈l,∀ b∈l,(cf a b).isSome=true)/\ordB (ltO cf) l=true/\l.length<4611686018427387904/\r=isort (ltO cf) l:=by
 unfold sortO at h
 split at h
 ·rename_i hc
  simp only [Bool.and_eq_true,List.all_eq_true,decide_eq_true_eq] at hc
  exact ⟨hc.1.1,hc.1.2,hc.2,(Option.some.inj h).symm⟩
 ·cases h
theorem heap_sortWorld {α:Type} [Inhabited α] {enc:α->Value}{b n:Nat}{d:Array α}{os:Array Obj}{cur:Array Value}{e:TypeId}{fr:Nat × Nat}(hb:w.heap[b]?=some (.cells cur e fr)) :
  (sortWorld enc w b 0 n d os).heap[b]?=some (.cells (putCells enc 0 d cur) e fr):=by
 have hlt:b<w.heap.size:=(Array.getElem?_eq_some_iff.1 hb).1
 unfold sortWorld
 rw [heap_grow_old _ _ (by rw [Go.Sort.size_putRow]; exact hlt)]
 unfold putRow mapBlock
 have ea:(Go.Sort.ahead w n).heap=w.heap:=rfl
 simp only [ea,Array.getElem?_modify,if_true,hb,Option.map_some,onCells]
theorem heap_sortWorld_other {α:Type} [Inhabited α] {enc:α->Value}{b n c:Nat}{d:Array α}{os:Array Obj}(hc:c<w.heap.size) (hne:c≠b) :
  (sortWorld enc w b 0 n d os).heap[c]?=w.heap[c]?:=by
 unfold sortWorld
 rw [heap_grow_old _ _ (by rw [Go.Sort.size_putRow]; exact hc)]
 unfold putRow mapBlock
 have ea:(Go.Sort.ahead w n).heap=w.heap:=rfl
 simp only [ea,Array.getElem?_modify,if_neg (Ne.symm hne)]
theorem fr_sortWorld {α:Type} [Inhabited α] {enc:α->Value}{b n:Nat}{d:Array α}{os:Array Obj}{U:BSet}(hU:U b):Fr w (sortWorld enc w b 0 n d os) U:=by
 refine ⟨rfl,rfl,rfl,?_,fun c hc hn=>heap_sortWorld_other hc fun e=>hn (e ▸ hU),fun a ha _=>?_,?_⟩
 ·unfold sortWorld; rw [size_grow,Go.Sort.size_putRow]; exact Nat.le_add_right _ _
 ·unfold sortWorld
  rw [frozen?_grow _ _ _ (by rw [Go.Sort.size_putRow]; exact ha),Go.Sort.frozen?_putRow]; rfl
 ·show w.drawn<=w.drawn+n
  exact Nat.le_add_right _ _
theorem putCells_take {α:Type} [Inhabited α] {enc:α->Value}{d:Array α}{cur:Array Value}(h:d.size<=cur.size):(putCells enc 0 d cur).toList.take d.size=d.toList.map enc:=by
 apply List.ext_getElem?
 intro k
 rw [List.getElem?_take,List.getElem?_map]
 by_cases hk:k<d.size
 ·rw [if_pos hk,Array.getElem?_toList,Array.getElem?_toList]
  have hc:k<cur.size:=by omega
  simp only [putCells,Array.getElem?_mapIdx,Array.getElem?_eq_getElem hc,Array.getElem?_eq_getElem hk,Option.map_some]
  rw [if_pos ⟨Nat.zero_le _,by omega⟩,Nat.sub_zero]
  simp [getElem!_pos,hk]
 ·rw [if_neg hk,Array.getElem?_toList,Array.getElem?_eq_none (by omega)]; rfl
theorem Con.sortI {ρ:Ren}(L:SlLaysF.n6 P ρ) {g:FuncId}{caps:List AV} [hcp:NRl caps] (hg:callT P g=true) {l r:List Int}{cf:Int->Int->Option Int}(h:sortO cf l=some r)
  (hc:∀ a b v,cf a b=some v->Con P g (I64 a::I64 b::caps) (none::none::caps.map fun _=>none) (I64 v)) :
  Con P (ρ.f 6) [oR eI l,.clo (.func g) [] caps] [some (oR eI r),none] (.tup []):=by
 refine ⟨rfl,fun w I vs Fs hl hS=>?_⟩
 obtain ⟨v0,v1,rfl⟩:∃ v0 v1,vs=[v0,v1]:=by
  match vs,hl with
  | [a,b],_=>exact ⟨a,b,rfl⟩
 obtain ⟨hs1,hs2,hs3,rfl⟩:=sortO_spec h
 obtain ⟨u,hu,hR⟩:=hS.rel 0 (oR eI l) rfl
 obtain rfl:v0=u:=by simpa using hu
 replace hR:=hR.isTree (by simp)
 obtain ⟨u,hu,hR1⟩:=hS.rel 1 (.clo (.func g) [] caps) rfl
 obtain rfl:v1=u:=by simpa using hu
 replace hR1:=hR1.isTree (by simp)
 rw [show oR eI l=.own 1 l.length (rowc eI l) from rfl,rowc_int] at hR
 cases hR with
 | ref hx=>simp [AV.isRef] at hx
 | @own _ _ _ _ e us Fk _ ho hlu hone hr hd hb hF =>
 cases hR1 with
 | ref hx=>simp [AV.isRef] at hx
 | @clo _ _ _ a1 cb _ hF1 h1 h2 hr1 hr2 =>
 obtain rfl:a1=#[]:=Array.eq_empty_of_size_eq_zero (by simpa using h1.symm)
 have hF0:∀ c,Fs 0 c↔v0.ownBlock=some c:=by
  intro c
  refine ⟨fun hc=>?_,fun hc=>(hF c).2 (.inl hc)⟩
  rcases (hF c).1 hc with h | ⟨k,hk,h⟩
  ·exact h
  ·have hx:=List.getElem?_eq_getElem hk
   have hu:=List.getElem?_eq_getElem (hlu ▸ hk)
   have hR:=hr k _ _ hx hu
   rw [List.getElem_map] at hR
   generalize us[k]=uu at hR
   cases hR with
   | lit _ hf=>exact (hf c h).elim
   | ref hx=>simp [AV.isRef] at hx
 have hus:us=l.map (Value.int .i64):=by
  apply List.ext_getElem?
  intro k
  by_cases hk:k<us.length
  ·have hk':k<(l.map I64).length:=hlu.symm ▸ hk
   have hx:=List.getElem?_eq_getElem hk'
   have hu:=List.getElem?_eq_getElem hk
   have hR:=hr k _ _ hx hu
   rw [List.getElem_map] at hR
   rw [hu,hR.inv_lit.1,List.getElem?_map,List.getElem?_eq_getElem (by simpa using hk')]; rfl
  ·rw [List.getElem?_eq_none (by omega),List.getElem?_eq_none (by rw [List.length_map] at hlu ⊢; omega)]
 subst hus
 have hperm:=isort_perm (ltO cf) l
 have hlen:=hperm.length_eq
 by_cases hnil:l=[]
 ·subst hnil
  have hsl:∃ p cap,v0=.slice p 0 cap:=by
   rcases ho.2 with ⟨rfl,_⟩ | ⟨b,cap,cur,rfl,_⟩
   ·exact ⟨_,_,rfl⟩
   ·exact ⟨_,_,rfl⟩
  obtain ⟨p,cap,rfl⟩:=hsl
  refine (AnyF.slices_SortFunc_none { L with } p cap _ w).mono ?_
  rintro e' w' ⟨rfl,rfl⟩
  exact sort_fin rfl hS (e:=e) (r:=[]) ho hF0 (Fr.refl _ _)
 ·obtain ⟨hlen2,hcase⟩:=ho
  rcases hcase with ⟨rfl,h0⟩ | ⟨b,cap,cur,rfl,_,hgb,hle,hmx,hsz,htk⟩
  ·exact absurd (List.eq_nil_of_length_eq_zero h0) hnil
  rw [Nat.mul_one] at hsz htk
  have hbU:Fs 0 b:=(hF0 b).2 rfl
  have hblt:b<w.heap.size:=(Array.getElem?_eq_some_iff.1 hgb).1
  obtain ⟨a0,ha0⟩:=List.exists_mem_of_ne_nil l hnil
  let α:={ x:Int // x∈l }
  haveI:Inhabited α:=⟨⟨a0,ha0⟩⟩
  let enc:α->Value:=fun x=>.int .i64 x.1
  let cg:α->α->Int:=fun x y=>(cf x.1 y.1).getD 0
  have hlt:∀ x y:α,ltOf cg x y=ltO cf x.1 y.1:=fun x y=>rfl
  let d:Array α:=l.attach.toArray
  have hds:d.size=l.length:=by show (l.attach.toArray).size=l.length; rw [List.size_toArray,List.length_attach]
  have hsp:=ordB_spec hs2
  have hO:SWO (ltOf cg):=by
   refine ⟨fun x=>by rw [hlt]; exact (hsp x.1 x.2).1,fun x y z=>?_,fun x y z=>?_⟩
   ·rw [hlt,hlt,hlt]
    exact fun p q=>(((hsp x.1 x.2).2 y.1 y.2).2 z.1 z.2).1 ⟨p,q⟩
   ·rw [hlt,hlt,hlt]
    intro p q
    rcases (((hsp x.1 x.2).2 y.1 y.2).2 z.1 z.2).2 with h | h | h
    ·rw [p] at h; cases h
    ·rw [q] at h; cases h
    ·exact h
  have hT:∀ x y:α,ltOf cg x y=false->ltOf cg y x=false->x=y:=by
   intro x y p q
   rw [hlt] at p q
   rcases ((hsp x.1 x.2).2 y.1 y.2).1 with h | h | h
   ·rw [p] at h; cases h
   ·rw [q] at h; cases h
   ·exact Subtype.ext h
  have hcell:∀ j,j<l.length->cur[j]?=some (.int .i64 l[j]!):=by
   intro j hj
   have:=congrArg (fun t=>t[j]?) htk
   simp only [List.getElem?_take,if_pos hj,Array.getElem?_toList,List.getElem?_map,List.getElem?_eq_getElem hj,Option.map_some] at this
   rw [this,getElem!_pos l j hj]
  have hH:Holds enc w b 0 d:=by
   intro j hj
   rw [hds] at hj
   refine ⟨?_,?_⟩
   ·unfold World.cell?
    simp only [hgb,Nat.zero_add]
    show cur[j]?=_
    rw [hcell j hj]
    show some (Value.int .i64 l[j]!)=some (.int .i64 (d[j]!).1)
    have:(d[j]!).1=l[j]! := by
     rw [getElem!_pos d j (by omega),getElem!_pos l j hj]
     show (l.attach.toArray[j]'_).val=_
     rw [List.getElem_toArray,List.getElem_attach]
    rw [this]
   ·unfold World.frozen?
    simp only [hgb]
    simp
  have eg:∀ args w,(callFunc g args).run P w=.ok (.enter g args) w:=fun args w=>callT_run hg args
  have hcmp:CmpLays1 P g cb enc cg b 0 d.size w:=by
   intro m os dk hdk x y
   have hsome:=hs1 x.1 x.2 y.1 y.2
   obtain ⟨v,hv⟩:=Option.isSome_iff_exists.1 hsome
   have hcg:cg x y=v:=by show (cf x.1 y.1).getD 0=v; rw [hv]; rfl
   have hW0:SR (sortWorld enc w b 0 m dk os) I #[] (fun _=>none) (fun _=>E0):=by
    refine ⟨fun _ _ h=>(by cases h),fun _ _ _ h=>h,fun _ _ _ h=>h.elim,fun _ _ h=>h.elim,fun c hc=>?_,fun _ _ _ _ _ _ _ _ _ _ _ h=>(by cases h),TB.keep hS.tb (fun c hc=>(fr_sortWorld (U:=fun c=>Fs 0 c) hbU).block c (hS.lt c hc) fun h=>hS.imm 0 c h hc) fun _ h=>h⟩
    have:=hS.lt c hc
    unfold sortWorld
    rw [size_grow,Go.Sort.size_putRow]
    exact Nat.lt_of_lt_of_le this (Nat.le_add_right _ _)
   have hW:=hW0.args (I':=I) (fun _ h=>h) (fun c h=>.inl h) (args:=I64 x.1::I64 y.1::caps) (vs:=enc x::enc y::cb.toList) (by simp [h2]) (fun ρ' k z u hz hu=>?_)
   ·have hcall:=(hc x.1 y.1 v hv).2 _ I (enc x::enc y::cb.toList) _ (by simp [h2]) hW
    have harr:(enc x::enc y::cb.toList).toArray=#[enc x,enc y]++cb:=by
     apply Array.ext'
     simp
    rw [harr] at hcall
    refine hcall.mono ?_
    rintro e' w' ⟨v',I',Fs',rfl,hS',hst⟩
    obtain ⟨u,hu,hRv⟩:=hS'.rel (caps.length+2) (I64 v) (by simp [outG])
    have hvu:u=v':=by
     have:(enc x::enc y::cb.toList).length=caps.length+2:=by simp [h2]
     rw [List.getElem?_toArray,<- this] at hu
     simpa using hu.symm
    subst hvu
    have hlit:=(hRv.isTree (by simp)).inv_lit.1
    subst hlit
    refine ⟨by rw [hcg],?_⟩
    exact grow_of_fr (hst.fr.mono fun c _ ⟨_,hh⟩=>hh)
   ·match k,hz,hu with
    | 0,hz,hu=>cases hz; cases hu; exact .lit rfl fun _ h=>h
    | 1,hz,hu=>cases hz; cases hu; exact .lit rfl fun _ h=>h
    | k+2,hz,hu =>
     simp only [List.getElem?_cons_succ] at hz hu
     have hRc:=(hr2 k z u hz (by simpa using hu)).nr (ρ':=ρ') (hcp.nr z (List.mem_of_getElem? hz))
     refine hRc.frame (fun c hc=>?_) (fun _ h=>h) (fun _ _ h=>h) (fun c h=>h.elim)
     exact heap_sortWorld_other (hS.lt c hc) fun e=>hS.imm 0 c (e ▸ hbU) hc
  have hmain:=Any.slices_SortFunc_total L enc (fun _=>rfl) cg hO g cb b 0 cap d w eg hcmp hH hblt (by rw [hds]; exact hs3) hT
  rw [hds] at hmain
  refine hmain.mono ?_
  rintro e' w' ⟨rfl,n,os,rfl⟩
  have hval:(d.toList.mergeSort fun x y=>!ltOf cg y x).map enc=(isort (ltO cf) l).map (Value.int .i64):=by
   rw [isort_merge hO hT]
   have hm:(isort (ltOf cg) l.attach).map Subtype.val=isort (ltO cf) (l.attach.map Subtype.val):=isort_map (lt:=ltOf cg) (lt':=ltO cf) (f:=Subtype.val) (fun a b=>hlt a b) l.attach
   rw [List.attach_map_subtype_val] at hm
   rw [<- hm,List.map_map]
   rfl
  have hdsz:(d.toList.mergeSort fun x y=>!ltOf cg y x).toArray.size=l.length:=by
   rw [List.size_toArray,(List.mergeSort_perm _ _).length_eq]
   show (l.attach.toArray).toList.length=l.length
   simp
  refine sort_fin rfl hS (e:=e) (r:=isort (ltO cf) l) ⟨by simp,.inr ⟨b,cap,_,by rw [hlen],Nat.zero_le _,heap_sortWorld hgb,by omega,hmx,?_,?_⟩⟩ hF0 (fr_sortWorld hbU)
  ·rw [Nat.mul_one,<- hsz]
   simp [putCells]
  ·rw [Nat.mul_one,hlen,<- hdsz,putCells_take (by rw [hdsz]; omega),<- hval]
end
end Go.Own
namespace Go.Own
open Go
set_option linter.unusedSectionVars false
variable [TB]
section
variable {α:Type}{P:Program}{N:Rm}{g g1 g2 g3:Gst}{ops:Array Oper}{AT:List (List Nat)}{acc:Acc}{l:List Oper}{K:Gst->Prop}{i d r:Nat}
theorem SR.settle {w:World}{I:BSet}{T:Array Value}{Fs:Nat->BSet}(h:SR w I T g Fs) (a:Act) (ha:a.tmps=T) {ts:List Nat}{xs ys:List AV}(hx:Own.opds g (ts.map Operand.tmp)=some xs) (ht:Take g xs ys g1) (hnd:ts.Nodup) (hl:ys.length=ts.length) (hd:∀ t∈ts,g1 t=some .dead)
  (hk:Keep (putAll g1 ((ts.map fun t=>(⟨t,[]⟩:Place)).zip ys)) g2):∃ Fs',SR w I T g2 Fs'/\∀ c,(∃ t,Fs' t c)->∃ t,Fs t c:=by
 obtain ⟨hxl,hxr⟩:=opds_sound h ha hx
 have hxl':xs.length=ts.length:=by rw [hxl,List.length_map]
 have hand:Hand w I (RefAt w T) Fs xs (ts.map fun t=>a.eval (.tmp t)) (fun _=>E0):=by
  refine ⟨by rw [hxl',List.length_map],fun k x u hxk hu=>?_,fun _ _ _ _ _ h=>h.elim,fun _ _ _ _ h=>h.elim,fun _ _ _ h=>h.elim⟩
  rw [List.getElem?_map] at hu
  cases htk:ts[k]? with
  | none=>rw [htk] at hu; cases hu
  | some t =>
   rw [htk] at hu; cases hu
   exact (hxr k x (.tmp t) hxk (by rw [List.getElem?_map,htk]; rfl)).frame (fun _ _=>rfl) (fun _ h=>h) (fun _ _ h=>h.1) fun _ _=>rfl
 obtain ⟨Fs1,H1,hS1,hH1,hall⟩:=ht.sound h.toC hand
 have hzl:((ts.map fun t=>(⟨t,[]⟩:Place)).zip ys).length=ts.length:=by rw [List.length_zip,List.length_map,hl]; exact Nat.min_self _
 obtain ⟨Fs2,hS2,hF⟩:=SRc.putAll ((ts.map fun t=>(⟨t,[]⟩:Place)).zip ys) H1 (fun j=>((ts.map fun t=>a.eval (.tmp t))[j]?).getD undef) hS1 (by
   rw [List.map_fst_zip (by rw [List.length_map,hl]; exact Nat.le_refl _)]
   exact List.Pairwise.map _ (fun a b h e=>h (congrArg Place.root e)) hnd) (fun j p x hj=>by
   rw [List.getElem?_zip_eq_some] at hj
   obtain ⟨h1,h2⟩:=hj
   rw [List.getElem?_map] at h1
   cases htk:ts[j]? with
   | none=>rw [htk] at h1; cases h1
   | some t =>
    rw [htk] at h1; cases h1
    have hdt:=hd t (List.mem_of_getElem? htk)
    obtain ⟨v,hv,_⟩:=hS1.rel t .dead hdt
    have hev:a.eval (.tmp t)=v:=by simp [Act.eval,ha,hv]
    have hvj:(ts.map fun t=>a.eval (.tmp t))[j]?=some v:=by rw [List.getElem?_map,htk]; simp [hev]
    refine ⟨by simp [atP,hdt,AV.at],?_,?_,fun i e=>?_⟩
    ·rw [hvj]
     show valAt w T ⟨t,[]⟩=some v
     unfold valAt
     simp only [hv,walk]
    ·rw [hvj]
     exact hH1.rel j x v h2 hvj
    ·subst e; exact opds_ns hx j i (ht.self j i h2)) (fun j t c hj hc=>hH1.off j t c (by omega) hc) (fun j c hj hc=>hH1.imm j c (by omega) hc) (fun i j c hi hj h1 h2=>hH1.dis i j c (by omega) (by omega) h1 h2)
 refine ⟨_,hS2.keep hk,fun c ⟨t,_,hc⟩=>?_⟩
 have:AllB Fs1 ys.length H1 c:=by
  rcases hF t c hc with h | ⟨j,hj,h⟩
  ·exact .inl ⟨t,h⟩
  ·exact .inr ⟨j,by omega,h⟩
 rcases hall c this with h | ⟨_,_,h⟩
 ·exact h
 ·exact h.elim
theorem EffOk.settle {o:Oper}{ts:List Nat}{xs ys:List AV}(hx:Own.opds g (ts.map Operand.tmp)=some xs) (ht:Take g xs ys g1) (hnd:ts.Nodup) (hl:ys.length=ts.length) (hd:∀ t∈ts,g1 t=some .dead)
  (hk:Keep (putAll g1 ((ts.map fun t=>(⟨t,[]⟩:Place)).zip ys)) g2) (he:EffOk P N g2 o g3):EffOk P N g o g3:=by
 intro w I T Fs hS a ha hN K Q hK
 obtain ⟨Fs',hS',hU⟩:=hS.settle a ha hx ht hnd hl hd hk
 refine he w I T Fs' hS' a ha hN K Q fun a' w' hn ht=>hK a' w' ?_ ht
 obtain ⟨e1,e2,I',Fs2,h1,h2⟩:=hn
 exact ⟨e1,e2,I',Fs2,h1,St.trans ⟨Fr.refl _ _,fun _ h=>h,fun _ h=>.inl h,fun c h=>.inl (hU c h)⟩ h2⟩
theorem all1 {Q:Nat->Prop}{a:Nat}(ha:Q a):∀ t∈[a],Q t:=fun t ht=>by rw [List.mem_singleton.1 ht]; exact ha
theorem all2 {Q:Nat->Prop}{a b:Nat}(ha:Q a) (hb:Q b):∀ t∈[a,b],Q t:=fun t ht=>by
 rcases List.mem_cons.1 ht with rfl | ht
 ·exact ha
 ·rw [List.mem_singleton.1 ht]; exact hb
def plB (p q:Place):Bool:=Nat.beq p.root q.root&&p.path == q.path
def ndq:List Place->Bool
 | []=>true
 | x::l=>l.all (fun y=>!plB x y)&&ndq l
theorem ndq_spec:∀ {l:List Place},ndq l=true->l.Nodup
 | [],_=>List.nodup_nil
 | p::l,h=>by
  simp only [ndq,Bool.and_eq_true,List.all_eq_true] at h
  refine List.nodup_cons.2 ⟨fun hm=>?_,ndq_spec h.2⟩
  have:=h.1 p hm
  simp [plB] at this
def noQ (p:Place) (acc:Acc):Bool:=acc.all fun e=>match pendPlace e with | some q=>!plB p q | none=>true
theorem noQ_spec {p:Place}{G:List (Nat × AV)}{A:Nat->Bool}(h:noQ p acc=true) (hG:npB G=true):∀ t z n m new,visG (get G) A acc t≠some (.pend z p n m new):=by
 intro t z n m new e
 rcases visG_some e with ⟨e',he,h1,_,h2⟩ | ⟨_,h2⟩
 ·have:=List.all_eq_true.1 h e' he
  obtain ⟨k,d,x⟩:=e'
  simp only at h2
  subst h2
  simp [pendPlace,plB] at this
 ·exact npB_spec hG _ _ _ _ _ _ h2
theorem O.ap' {en:En α}{L M r:List α}{y:AV}{e b0:Nat}{a b:Operand}{p:Place}{t ty:TypeId}(hs:Rd g a (.brw en.z p L.length)) (hp:atP g p=some (oR en L)) (hx:Rd g b y) (hm:Sr g en y M) (ht:appT P t e en.z b0=true) (hb:Nat.ble b0 128=true) (h:appO L M=some r) (hno:∀ t z n m new,g t≠some (.pend z p n m new)) :
  PS P g (.call { callee:=.builtin .append,args:=#[a,b],argTypes:=#[t,t] }) ty (.pend en.z p L.length M.length (rowc en M)):=by
 obtain ⟨h1,h2,_⟩:=app_bound h hb
 exact .pa (.grow hs.opd (.inl ⟨_,hp⟩) (fun t z' n' m' new' e=>hno _ _ _ _ _ e) hx.opd hm.src ht h1 h2)
theorem DL.bw (j0:Nat) {G G2:List (Nat × AV)}{o:Oper}(he:EffOk P N (visG (get G) (fun m=>(AT.getD j0 []).contains m) acc) o (get G2)) (hg:o.guard=none) (hpd:ndq (acc.filterMap pendPlace)=true) (hp0:npB G=true) (hj:Nat.beq ops.size (j0+l.length+1)=true)
  (hU:acc.filter (fun e=>!(AT.getD j0 []).contains e.1)=[])
  (hb:(List.range ops.size).all (fun k=>Nat.ble k j0||(AT.getD k []).contains j0)=true) (hk:DL P N ops AT (get G2) (j0+1) [] l K):DL P N ops AT (get G) i acc (o::l) K:=by
 intro U0 j hP hseg hdrop
 have:=drop_at hdrop hj
 subst this
 obtain ⟨h1,h2⟩:=drop_cons hdrop
 obtain ⟨g',hr,hK⟩:=hk [] (j+1) .nil .nil h2
 refine ⟨g',.bar (U:=[]) (rs:=rsV []) hseg (ndq_spec hpd) (npB_spec hp0) h1 ?_ he.v (fun p hp=>by simp [rsV] at hp) hU.symm (by simp) (by simp) (by simp) ?_ hr,hK⟩
 ·unfold Wanted; rw [hg]
 ·refine List.all_eq_true.2 fun k hk=>?_
  have:=List.all_eq_true.1 hb k hk
  simp only [Bool.or_eq_true,decide_eq_true_eq,Nat.ble_eq] at this ⊢
  exact this
theorem EffOk.cell {o:Oper}{r k0:Nat}{y:AV}{cs:List AV}{g5:Gst}(hr:g r=some (.obj cs)) (hy:cs[k0]?=some y) (hyn:NR y)
  (hop:∀ v:Value,v.oneCell'=true->∃ g1 g4,Keep (setP g ⟨r,[k0]⟩ (.lit v)) g1/\EffOk P N g1 o g4/\atP g4 ⟨r,[k0]⟩=some (.lit v)/\Keep (setP g4 ⟨r,[k0]⟩ y) g5) (hns:∀ i,y≠.self i:=by exact fun _ h=>(by cases h)):EffV P N (fun p=>p∈[(⟨r,[k0]⟩:Place)]) g o g5:=by
 intro w I T Fs h a ha hN K Q hK
 have hnp:∀ z q n m new,y≠.pend z q n m new:=by rintro z q n m new rfl; cases hyn
 have hat:atP g ⟨r,[k0]⟩=some y:=by simp [atP,hr,AV.at,AV.kids,hy]
 obtain ⟨v,Fy,hv,hRy,hFy,put⟩:=h.toC.part hat hnp
 have hv1:v.oneCell'=true:=by
  obtain ⟨u,hu,hRu⟩:=h.rel r _ hr
  obtain ⟨b,u',h1,h2,h3,h4,_⟩:=R.node (z:=0) (n:=0) (hRu.isTree (by simp)) (.inr rfl) hy
  have:valAt w T ⟨r,[k0]⟩=child w u k0:=by
   unfold valAt
   simp only [hu,walk]
   cases child w u k0 <;> rfl
  rw [this,h3] at hv
  cases hv
  exact h4
 obtain ⟨Fs1,hS1,hF1,hF2⟩:=put (.lit v) E0 (.lit hv1 fun _ h=>h) (fun _ h=>h.elim) (fun _ h=>h.elim) (fun _ _ _ h=>h.elim) (fun _ h=>by cases h)
 obtain ⟨g1,g4,hk1,hok,hat4,hk4⟩:=hop v hv1
 have sub1:∀ t c,Fs1 t c->Fs t c/\¬ Fy c:=by
  intro t c hc
  by_cases ht:t=r
  ·subst ht
   rcases (hF1 c).1 hc with h' | h'
   ·exact h'
   ·exact h'.elim
  ·rw [hF2 t ht] at hc
   exact ⟨hc,fun hf=>ht (h.dis t r c hc (hFy c hf))⟩
 have hS1':=hS1.keep hk1
 refine hok w I T _ hS1' a ha hN K Q fun a' w' hn htm=>?_
 obtain ⟨e1,e2,I',Fs',hS',hst⟩:=hn
 obtain ⟨v2,F2,hv2,hR2,hF2',put2⟩:=hS'.toC.part hat4 (by simp)
 have hv2':v2=v:=hR2.inv_lit.1
 subst hv2'
 have hFyI:∀ c,Fy c->¬ I c:=fun c hc=>h.imm r c (hFy c hc)
 have hFylt:∀ c,Fy c->c<w.heap.size:=fun c hc=>h.ltF r c (hFy c hc)
 have offU:∀ c,Fy c->¬ ∃ t,(g1 t≠none/\Fs1 t c):=fun c hc ⟨t,_,h'⟩=>(sub1 t c h').2 hc
 have offF':∀ t c,Fs' t c->¬ Fy c:=by
  intro t c hc hf
  rcases hst.own c ⟨t,hc⟩ with h' | h'
  ·exact offU c hf h'
  ·have:=hFylt c hf; omega
 have offI':∀ c,Fy c->¬ I' c:=by
  intro c hc hi
  rcases hst.new c hi with h' | h' | h'
  ·exact hFyI c hc h'
  ·exact offU c hc h'
  ·have:=hFylt c hc; omega
 have sameY:∀ c,Fy c->w'.heap[c]?=w.heap[c]?:=fun c hc=>hst.fr.block c (hFylt c hc) (offU c hc)
 have sameI:∀ c,I c->w'.heap[c]?=w.heap[c]?:=fun c hc=>hst.fr.block c (h.lt c hc) fun ⟨t,_,h'⟩=>h.imm t c (sub1 t c h').1 hc
 have hRy':R w' I' (RefAt w' a'.tmps) y v2 Fy:=((hRy.nr hyn).frame sameI hst.more (fun _ _ h=>h) sameY)
 obtain ⟨Fs5,hS5,hF5,hF6⟩:=put2 y Fy hRy' (fun c hc hf=>(offF' _ c hf hc).elim) (fun c hc=>offI' c hc) (fun t c _ hc hf=>offF' t c hf hc) (fun i e=>absurd e (hns i))
 have hS6:=hS5.keep hk4
 refine hK a' w' ⟨e1,e2,I',_,hS6,⟨?_,hst.more,fun c hc=>?_,fun c hc=>?_⟩⟩ htm fun r' path hp y' hy' hnp'=>?_
 ·exact hst.fr.mono fun b _ ⟨t,_,h'⟩=>⟨t,(sub1 t b h').1⟩
 ·rcases hst.new c hc with h' | ⟨t,_,h'⟩ | h'
  ·exact .inl h'
  ·exact .inr (.inl ⟨t,(sub1 t c h').1⟩)
  ·exact .inr (.inr h')
 ·obtain ⟨t,_,hc⟩:=hc
  have:(∃ t,Fs' t c)\/Fy c:=by
   by_cases ht:t=r
   ·subst ht
    rcases (hF5 c).1 hc with ⟨h',_⟩ | h'
    ·exact .inl ⟨_,h'⟩
    ·exact .inr h'
   ·rw [hF6 t ht] at hc; exact .inl ⟨t,hc⟩
  rcases this with h' | h'
  ·rcases hst.own c h' with ⟨t,_,h''⟩ | h''
   ·exact .inl ⟨t,(sub1 t c h'').1⟩
   ·exact .inr h''
  ·exact .inl ⟨r,hFy c h'⟩
 ·have hp:(⟨r',path⟩:Place)∈[(⟨r,[k0]⟩:Place)]:=hp
  have hp:=List.mem_singleton.1 hp
  cases hp
  rw [hv,hv2]
end
end Go.Own
namespace Go.Own
open Go
set_option linter.unusedSectionVars false
variable [TB]
section
variable {α:Type}{P:Program}{N:Rm}{g:Gst}{ops:Array Oper}{l:List Oper}{K:Gst->Prop}{r n:Nat}{t e ty:TypeId}{a b:Operand}{m:Int}{en:En α}{L:List α}{y y2:α}{k:IntKind}{pos:String}{after:Array Edge}
def idxA {α:Type}(n:Nat) (l:List α) (i:Int):Option α:=if i<n then idx l i else none
theorem idxA_spec (h:idxA n L m=some y):m<n/\idx L m=some y:=by
 unfold idxA at h
 split at h
 ·exact ⟨by assumption,h⟩
 ·cases h
theorem arr_lt (hz:Nat.blt 0 en.z=true) (h:idx L m=some y):m.toNat * en.z<(rowc en L).length:=by
 obtain ⟨h0,h1,_⟩:=idx_spec h
 rw [rowc_len]
 exact Nat.mul_lt_mul_of_pos_right (by omega) (by simpa using hz)
theorem O.ixA (hs:g r=some (.obj (rowc en L))) (hz:Nat.blt 0 en.z=true) (hi:Rd g b (.lit (.int k m))) (ht:arrT P t e n en.z=true) (h:idxA n L m=some y):PS P g (.indexAddr t (.tmp r) b) ty (.ptr ⟨r,[]⟩ (m.toNat * en.z)):=by
 obtain ⟨h1,h2⟩:=idxA_spec h
 have hlt:=arr_lt hz h2
 obtain ⟨h0,_,_⟩:=idx_spec h2
 have hx:Own.opd g (.tmp r)=some (.ptr ⟨r,[]⟩ 0):=by
  cases hc:rowc en L with
  | nil=>rw [hc] at hlt; simp at hlt
  | cons c cs=>simp [Own.opd,hs,hc,refTop,refIn]
 have hm:((m.toNat:Nat):Int)=m:=by omega
 have:=PS1.idxArrP (P:=P) (g:=g) (ty:=ty) (k:=0) (j:=m.toNat) hx (by rw [hm]; exact hi.opd) ht (by omega) ⟨.obj (rowc en L),by simp [atP,hs,AV.at],0,0,_,.inr rfl,by rw [Nat.zero_add]; exact hlt⟩
 rw [Nat.zero_add] at this
 exact .p1 this
theorem O.ldA {x:AV}(hs:g r=some (.obj (rowc en L))) (ha:Rd g a (.ptr ⟨r,[]⟩ (m.toNat * en.z))) (h:idx L m=some y) (hx:(en.cells y)[0]?=some x) (ht:cellT P t=true) (hn:∀ p,refIn 0 p x=x):PS P g (.load t a) ty x:=by
 have:=rowc_at en h hx
 rw [Nat.add_zero] at this
 exact O.ldO hs ha ht this (hn _)
theorem RunL.sA {yv:AV}{cs':List AV}{G2:List (Nat × AV)}(hs:g r=some (.obj (rowc en L))) (hz:Nat.blt 0 en.z=true) (ha:Rd g a (.ptr ⟨r,[]⟩ (m.toNat * en.z))) (hb:Rd g b yv) [hn:NRc yv] (h:idx L m=some y) (hc:cellsP yv=some cs') (hcs:cs'=en.cells y2) (hsz:sizeT P t cs'.length=true)
  (hr:(get G2 r).isSome=true) (hG:TrS g (get G2) r (rowc en (L.set m.toNat y2)) G2) (hk:RunL P N ops l (get G2) K):RunL P N ops (⟨none,.store t a b,ty,pos,after,none⟩::l) g K:=by
 have hlen:cs'.length=en.z:=by rw [hcs,en.len]
 obtain ⟨h0,h1,_⟩:=idx_spec h
 refine .sO hs ha hb hc hsz ?_ ?_ ?_ hr hG hk
 ·rw [hlen,rowc_len]
  simp only [Nat.ble_eq]
  have:(m.toNat+1) * en.z<=L.length * en.z:=Nat.mul_le_mul_right _ (by omega)
  rw [Nat.add_mul,Nat.one_mul] at this
  exact this
 ·rw [hlen]; exact hz
 ·have:=row_set en h (o:=0) (cs':=cs') (y2:=y2) (by
   subst hcs
   have hl:(en.cells y2).length=(en.cells y).length:=by rw [en.len,en.len]
   unfold splice
   rw [List.take_zero,List.nil_append,Nat.zero_add,hl,List.drop_length,List.append_nil]) (by omega)
  rw [Nat.add_zero] at this
  exact this
end
end Go.Own
namespace Go.Own
open Go Go.Proofs Go.Shelf Go.Lib Go.Sort
set_option linter.unusedSectionVars false
variable [TB]
section
variable {P:Program}{w:World}
class Lts {α:Type}(e:En α) where
 vals:α->List Value
 cells:∀ a,e.cells a=(vals a).map .lit
 one:∀ a,∀ v∈vals a,v.oneCell'=true
variable {α:Type}{e:En α}
theorem Lts.len [h:Lts e] (a:α):(h.vals a).length=e.z:=by
 have:=e.len a
 rw [h.cells,List.length_map] at this
 exact this
def flatV (e:En α) [h:Lts e] (l:List α):List Value:=l.flatMap h.vals
theorem rowc_flatV [h:Lts e]:∀ l:List α,rowc e l=(flatV e l).map .lit
 | []=>rfl
 | a::l=>by
  have:rowc e (a::l)=e.cells a++rowc e l:=by simp [rowc]
  rw [this,rowc_flatV l,h.cells]
  simp [flatV]
theorem flatV_len [h:Lts e] (l:List α):(flatV e l).length=l.length * e.z:=by
 have:=rowc_len e l
 rw [rowc_flatV,List.length_map] at this
 exact this
theorem flatV_one [h:Lts e] {l:List α}:∀ v∈flatV e l,v.oneCell'=true:=by
 intro v hv
 obtain ⟨a,_,hv⟩:=List.mem_flatMap.1 hv
 exact h.one a v hv
theorem flatV_get [h:Lts e]:∀ (l:List α) (i j:Nat) (a:α),l[i]?=some a->j<e.z->(flatV e l)[i * e.z+j]?=(h.vals a)[j]?
 | [],i,j,a,ha,_=>by simp at ha
 | b::l,0,j,a,ha,hj=>by
  simp only [List.getElem?_cons_zero,Option.some.injEq] at ha
  subst ha
  simp only [flatV,List.flatMap_cons,Nat.zero_mul,Nat.zero_add]
  rw [List.getElem?_append_left (by rw [Lts.len]; exact hj)]
 | b::l,i+1,j,a,ha,hj=>by
  simp only [List.getElem?_cons_succ] at ha
  have:=flatV_get l i j a ha hj
  simp only [flatV,List.flatMap_cons] at this ⊢
  rw [List.getElem?_append_right (by rw [Lts.len,Nat.add_mul]; omega),Lts.len,<- this]
  congr 1
  rw [Nat.add_mul]; omega
theorem flatK_flatV {β:Type} [Inhabited β] [h:Lts e] (f:β->α) (d:Array β):(flatK (fun x=>h.vals (f x)) e.z d).toList=flatV e (d.toList.map f):=by
 apply List.ext_getElem?
 intro t
 by_cases ht:t<d.size * e.z
 ·have hz:0<e.z:=by
   rcases Nat.eq_zero_or_pos e.z with h0 | h0
   ·rw [h0] at ht; omega
   ·exact h0
  have h1:t / e.z<d.size:=Nat.div_lt_of_lt_mul (by rw [Nat.mul_comm]; exact ht)
  have h2:t % e.z<e.z:=Nat.mod_lt _ hz
  have ha:(d.toList.map f)[t / e.z]?=some (f d[t / e.z]!):=by
   rw [List.getElem?_map,Array.getElem?_toList,Array.getElem?_eq_getElem h1,getElem!_pos d _ h1]; rfl
  have:=flatV_get (e:=e) _ (t / e.z) (t % e.z) _ ha h2
  rw [Nat.mul_comm,Nat.div_add_mod] at this
  rw [this,Array.getElem?_toList,Array.getElem?_eq_getElem (by simpa using ht),<- getElem!_pos (flatK (fun x=>h.vals (f x)) e.z d) t (by simpa using ht),get_flatK _ _ _ _ ht]
  have h3:t % e.z<(h.vals (f d[t / e.z]!)).length:=by rw [Lts.len]; exact h2
  rw [getElem!_pos (h.vals (f d[t / e.z]!)) (t % e.z) h3,List.getElem?_eq_getElem h3]
 ·rw [List.getElem?_eq_none (by simp; omega),List.getElem?_eq_none (by rw [flatV_len,List.length_map,Array.length_toList]; omega)]
theorem sort_finS [hL:Lts e] {vs:List Value}{v0 v1:Value}(hvs:vs=[v0,v1]) {I:BSet}{Fs:Nat->BSet}{g:Gst}(hS:SR w I vs.toArray g Fs) {w':World}{t:TypeId}{r:List α}(ho:w'.ownsRow 0 t e.z v0 r.length (flatV e r)) (hF:∀ c,Fs 0 c↔v0.ownBlock=some c) (hfr:Fr w w' fun c=>Fs 0 c) :
  ∃ v I' Fs',Ending.returned (.tuple #[])=.returned v/\SR w' I' (vs++[v]).toArray (outG [some (oR e r),none] (.tup [])) Fs'/\St w I (fun c=>∃ t,Fs t c) w' I' (fun c=>∃ t,Fs' t c):=by
 subst hvs
 refine ⟨_,I,fun t=>if t=0 then Fs 0 else E0,rfl,⟨fun t x hx=>?_,fun t ht c hc=>?_,fun t t' c hc hc'=>?_,fun t c hc=>?_,fun c hc=>Nat.lt_of_lt_of_le (hS.lt c hc) hfr.size,fun t t' z p n m new z' n' m' new' h1 h2=>?_,TB.keep hS.tb (fun c hc=>hfr.block c (hS.lt c hc) fun h=>hS.imm 0 c h hc) fun _ h=>h⟩,⟨?_,fun c h=>h,fun c h=>.inl h,fun c hc=>?_⟩⟩
 ·unfold outG at hx
  split at hx
  ·rename_i ht
   have ht:t=2:=ht
   subst ht
   cases hx
   exact ⟨.tuple #[],rfl,.tree (.tup (Fs:=fun _=>E0) rfl (fun k x u h=>by simp at h) (fun j k c h=>by simp at h) (fun c=>⟨fun h=>h.elim,fun ⟨k,h,_⟩=>by simp at h⟩))⟩
  ·match t,hx with
   | 0,hx =>
    cases hx
    refine ⟨v0,rfl,.tree ?_⟩
    show R w' I _ (.own e.z r.length (rowc e r)) v0 (Fs 0)
    rw [rowc_flatV]
    refine .own (Fs:=fun _=>E0) ho (by simp) (fun k u hu=>flatV_one u (List.mem_of_getElem? hu)) (fun k x u hx hu=>?_) (fun _ _ _ _ _ h=>h.elim) (fun _ _ _ h=>h.elim) (fun c=>⟨fun h=>.inl ((hF c).1 h),fun h=>?_⟩)
    ·rw [List.getElem?_map,hu] at hx
     cases hx
     exact .lit (flatV_one u (List.mem_of_getElem? hu)) fun _ h=>h
    ·rcases h with h | ⟨_,_,h⟩
     ·exact (hF c).2 h
     ·exact h.elim
   | 1,hx=>cases hx
   | t+2,hx=>cases hx
 ·have h0:¬ t=0:=fun e=>by subst e; exact absurd ht (by simp [outG])
  simp only [if_neg h0] at hc
  exact hc
 ·have key:∀ {t:Nat},(if t=0 then Fs 0 else E0) c->t=0:=fun {t} h=>by
   by_cases h0:t=0
   ·exact h0
   ·rw [if_neg h0] at h; exact h.elim
  rw [key hc,key hc']
 ·by_cases h0:t=0
  ·simp only [if_pos h0] at hc; exact hS.imm 0 c hc
  ·simp only [if_neg h0] at hc; exact hc.elim
 ·unfold outG at h1
  split at h1
  ·cases h1
  ·match t,h1 with
   | 0,h1=>cases h1
   | 1,h1=>cases h1
   | t+2,h1=>cases h1
 ·exact hfr.mono fun b _ hb=>⟨0,hb⟩
 ·obtain ⟨t,ht⟩:=hc
  by_cases h0:t=0
  ·simp only [if_pos h0] at ht; exact .inl ⟨0,ht⟩
  ·simp only [if_neg h0] at ht; exact ht.elim
theorem Con.sortS [DecidableEq α] [hV:Lts e] {ρ:Ren}(L:SlLaysF0.n6 P ρ) (aE:∀ w,(isAgg (ρ.t 24)).run P w=.ok true w) (zE:∀ w,(Go.sizeOf (ρ.t 24)).run P w=.ok e.z w) {g:FuncId}{caps:List AV} [hcp:NRl caps] (hg:callT P g=true) {l r:List α}{cf:α->α->Option Int}(h:sortO cf l=some r)
  (hc:∀ a b v,cf a b=some v->Con P g (.agg (e.cells a)::.agg (e.cells b)::caps) (none::none::caps.map fun _=>none) (I64 v)) :
  Con P (ρ.f 6) [oR e l,.clo (.func g) [] caps] [some (oR e r),none] (.tup []):=by
 refine ⟨rfl,fun w I vs Fs hl hS=>?_⟩
 obtain ⟨v0,v1,rfl⟩:∃ v0 v1,vs=[v0,v1]:=by
  match vs,hl with
  | [a,b],_=>exact ⟨a,b,rfl⟩
 obtain ⟨hs1,hs2,hs3,rfl⟩:=sortO_spec h
 obtain ⟨u,hu,hR⟩:=hS.rel 0 (oR e l) rfl
 obtain rfl:v0=u:=by simpa using hu
 replace hR:=hR.isTree (by simp)
 obtain ⟨u,hu,hR1⟩:=hS.rel 1 (.clo (.func g) [] caps) rfl
 obtain rfl:v1=u:=by simpa using hu
 replace hR1:=hR1.isTree (by simp)
 rw [show oR e l=.own e.z l.length (rowc e l) from rfl,rowc_flatV] at hR
 cases hR with
 | ref hx=>simp [AV.isRef] at hx
 | @own _ _ _ _ t us Fk _ ho hlu hone hr hd hb hF =>
 cases hR1 with
 | ref hx=>simp [AV.isRef] at hx
 | @clo _ _ _ a1 cb _ hF1 h1 h2 hr1 hr2 =>
 obtain rfl:a1=#[]:=Array.eq_empty_of_size_eq_zero (by simpa using h1.symm)
 have hF0:∀ c,Fs 0 c↔v0.ownBlock=some c:=by
  intro c
  refine ⟨fun hc=>?_,fun hc=>(hF c).2 (.inl hc)⟩
  rcases (hF c).1 hc with h | ⟨k,hk,h⟩
  ·exact h
  ·have hx:=List.getElem?_eq_getElem hk
   have hu:=List.getElem?_eq_getElem (hlu ▸ hk)
   have hR:=hr k _ _ hx hu
   rw [List.getElem_map] at hR
   generalize us[k]=uu at hR
   cases hR with
   | lit _ hf=>exact (hf c h).elim
   | ref hx=>simp [AV.isRef] at hx
 have hus:us=flatV e l:=by
  apply List.ext_getElem?
  intro k
  by_cases hk:k<us.length
  ·have hk':k<((flatV e l).map AV.lit).length:=hlu.symm ▸ hk
   have hx:=List.getElem?_eq_getElem hk'
   have hu:=List.getElem?_eq_getElem hk
   have hR:=hr k _ _ hx hu
   rw [List.getElem_map] at hR
   rw [hu,hR.inv_lit.1,List.getElem?_eq_getElem (by simpa using hk')]
  ·rw [List.getElem?_eq_none (by omega),List.getElem?_eq_none (by rw [List.length_map] at hlu; omega)]
 subst hus
 have hperm:=isort_perm (ltO cf) l
 have hlen:=hperm.length_eq
 by_cases hnil:l=[]
 ·subst hnil
  have hsl:∃ p cap,v0=.slice p 0 cap:=by
   rcases ho.2 with ⟨rfl,_⟩ | ⟨b,cap,cur,rfl,_⟩
   ·exact ⟨_,_,rfl⟩
   ·exact ⟨_,_,rfl⟩
  obtain ⟨p,cap,rfl⟩:=hsl
  refine (AnyF.slices_SortFunc_none L p cap _ w).mono ?_
  rintro e' w' ⟨rfl,rfl⟩
  exact sort_finS rfl hS (t:=t) (r:=[]) ho hF0 (Fr.refl _ _)
 ·obtain ⟨hlen2,hcase⟩:=ho
  rcases hcase with ⟨rfl,h0⟩ | ⟨b,cap,cur,rfl,_,hgb,hle,hmx,hsz,htk⟩
  ·exact absurd (List.eq_nil_of_length_eq_zero h0) hnil
  have hbU:Fs 0 b:=(hF0 b).2 rfl
  have hblt:b<w.heap.size:=(Array.getElem?_eq_some_iff.1 hgb).1
  obtain ⟨a0,ha0⟩:=List.exists_mem_of_ne_nil l hnil
  let β:={ x:α // x∈l }
  haveI:Inhabited β:=⟨⟨a0,ha0⟩⟩
  let enc:β->List Value:=fun x=>hV.vals x.1
  let cg:β->β->Int:=fun x y=>(cf x.1 y.1).getD 0
  have hlt:∀ x y:β,ltOf cg x y=ltO cf x.1 y.1:=fun x y=>rfl
  let d:Array β:=l.attach.toArray
  have hdl:d.toList.map Subtype.val=l:=by
   show (l.attach.toArray).toList.map Subtype.val=l
   simp
  have hds:d.size=l.length:=by show (l.attach.toArray).size=l.length; rw [List.size_toArray,List.length_attach]
  have hsp:=ordB_spec hs2
  have hO:SWO (ltOf cg):=by
   refine ⟨fun x=>by rw [hlt]; exact (hsp x.1 x.2).1,fun x y z=>?_,fun x y z=>?_⟩
   ·rw [hlt,hlt,hlt]
    exact fun p q=>(((hsp x.1 x.2).2 y.1 y.2).2 z.1 z.2).1 ⟨p,q⟩
   ·rw [hlt,hlt,hlt]
    intro p q
    rcases (((hsp x.1 x.2).2 y.1 y.2).2 z.1 z.2).2 with h | h | h
    ·rw [p] at h; cases h
    ·rw [q] at h; cases h
    ·exact h
  have hT:∀ x y:β,ltOf cg x y=false->ltOf cg y x=false->x=y:=by
   intro x y p q
   rw [hlt] at p q
   rcases ((hsp x.1 x.2).2 y.1 y.2).1 with h | h | h
   ·rw [p] at h; cases h
   ·rw [q] at h; cases h
   ·exact Subtype.ext h
  have hfl:(flatK enc e.z d).toList=flatV e l:=by
   have:=flatK_flatV (e:=e) (fun x:β=>x.1) d
   rw [hdl] at this
   exact this
  have hH:HoldsK enc e.z w b 0 d:=by
   intro j hj
   have hj':j<(flatV e l).length:=by rw [<- hfl,Array.length_toList]; exact hj
   refine ⟨?_,?_⟩
   ·unfold World.cell?
    simp only [hgb,Nat.zero_add]
    show cur[j]?=_
    have h1:=congrArg (fun t=>t[j]?) htk
    have hlt2:j<l.length * e.z:=by rw [<- flatV_len (e:=e)]; exact hj'
    simp only [List.getElem?_take,if_pos hlt2,Array.getElem?_toList] at h1
    rw [h1,<- hfl,Array.getElem?_toList,Array.getElem?_eq_getElem hj,getElem!_pos (flatK enc e.z d) j hj]
    rfl
   ·unfold World.frozen?
    simp only [hgb]
    simp
  have eg:∀ args w,(callFunc g args).run P w=.ok (.enter g args) w:=fun args w=>callT_run hg args
  have hagg:∀ (W:World) (I:BSet) (ρ':AV->Value->Prop) (a:α),R W I ρ' (.agg (e.cells a)) (.agg (hV.vals a).toArray) fun _=>False:=by
   intro W I ρ' a
   rw [hV.cells]
   refine .agg (Fs:=fun _=>E0) (by simp) (fun k u hu=>hV.one a u ?_) (fun k x u hx hu=>?_) (fun _ _ _ _ _ h=>h.elim) (fun c=>⟨fun h=>h.elim,fun ⟨_,_,h⟩=>h.elim⟩)
   ·rw [List.getElem?_toArray] at hu; exact List.mem_of_getElem? hu
   ·rw [List.getElem?_toArray] at hu
    rw [List.getElem?_map,hu] at hx
    cases hx
    exact .lit (hV.one a u (List.mem_of_getElem? hu)) fun _ h=>h
  have hcmp:CmpLays P g cb enc e.z cg b 0 d.size w:=by
   intro m os dk hdk x y
   have hsome:=hs1 x.1 x.2 y.1 y.2
   obtain ⟨v,hv⟩:=Option.isSome_iff_exists.1 hsome
   have hcg:cg x y=v:=by show (cf x.1 y.1).getD 0=v; rw [hv]; rfl
   show Calls P g _ (sortWorld id w b 0 m (flatK enc e.z dk) os) fun e' w'=>_/\∃ q os',w'=grow ((sortWorld id w b 0 m (flatK enc e.z dk) os).drewN q) os'
   have hW0:SR (sortWorld id w b 0 m (flatK enc e.z dk) os) I #[] (fun _=>none) (fun _=>E0):=by
    refine ⟨fun _ _ h=>(by cases h),fun _ _ _ h=>h,fun _ _ _ h=>h.elim,fun _ _ h=>h.elim,fun c hc=>?_,fun _ _ _ _ _ _ _ _ _ _ _ h=>(by cases h),TB.keep hS.tb (fun c hc=>(fr_sortWorld (U:=fun c=>Fs 0 c) hbU).block c (hS.lt c hc) fun h=>hS.imm 0 c h hc) fun _ h=>h⟩
    have:=hS.lt c hc
    unfold sortWorld
    rw [size_grow,Go.Sort.size_putRow]
    exact Nat.lt_of_lt_of_le this (Nat.le_add_right _ _)
   have hW:=hW0.args (I':=I) (fun _ h=>h) (fun c h=>.inl h) (args:=.agg (e.cells x.1)::.agg (e.cells y.1)::caps) (vs:=.agg (enc x).toArray::.agg (enc y).toArray::cb.toList) (by simp [h2]) (fun ρ' k z u hz hu=>?_)
   ·have hcall:=(hc x.1 y.1 v hv).2 _ I (.agg (enc x).toArray::.agg (enc y).toArray::cb.toList) _ (by simp [h2]) hW
    have harr:(.agg (enc x).toArray::.agg (enc y).toArray::cb.toList).toArray=#[.agg (enc x).toArray,.agg (enc y).toArray]++cb:=by
     apply Array.ext'
     simp
    rw [harr] at hcall
    refine hcall.mono ?_
    rintro e' w' ⟨v',I',Fs',rfl,hS',hst⟩
    obtain ⟨u,hu,hRv⟩:=hS'.rel (caps.length+2) (I64 v) (by simp [outG])
    have hvu:u=v':=by
     have:(Value.agg (enc x).toArray::.agg (enc y).toArray::cb.toList).length=caps.length+2:=by simp [h2]
     rw [List.getElem?_toArray,<- this] at hu
     simpa using hu.symm
    subst hvu
    have hlit:=(hRv.isTree (by simp)).inv_lit.1
    subst hlit
    refine ⟨by rw [hcg],?_⟩
    exact grow_of_fr (hst.fr.mono fun c _ ⟨_,hh⟩=>hh)
   ·match k,hz,hu with
    | 0,hz,hu=>cases hz; cases hu; exact hagg _ _ _ x.1
    | 1,hz,hu=>cases hz; cases hu; exact hagg _ _ _ y.1
    | k+2,hz,hu =>
     simp only [List.getElem?_cons_succ] at hz hu
     have hRc:=(hr2 k z u hz (by simpa using hu)).nr (ρ':=ρ') (hcp.nr z (List.mem_of_getElem? hz))
     refine hRc.frame (fun c hc=>?_) (fun _ h=>h) (fun _ _ h=>h) (fun c h=>h.elim)
     exact heap_sortWorld_other (hS.lt c hc) fun e=>hS.imm 0 c (e ▸ hbU) hc
  have hmain:=AnyQ.slices_SortFunc_total L e.z aE zE enc (fun x=>Lts.len x.1) (fun x v hv=>hV.one x.1 v hv) cg hO g cb b 0 cap d w eg hcmp hH hblt (by rw [hds]; exact hs3) hT
  rw [hds] at hmain
  refine hmain.mono ?_
  rintro e' w' ⟨rfl,n,os,rfl⟩
  have hval:(d.toList.mergeSort fun x y=>!ltOf cg y x).map Subtype.val=isort (ltO cf) l:=by
   rw [isort_merge hO hT]
   have hm:(isort (ltOf cg) l.attach).map Subtype.val=isort (ltO cf) (l.attach.map Subtype.val):=isort_map (lt:=ltOf cg) (lt':=ltO cf) (f:=Subtype.val) (fun a b=>hlt a b) l.attach
   rw [List.attach_map_subtype_val] at hm
   exact hm
  generalize hms:(d.toList.mergeSort fun x y=>!ltOf cg y x)=ms at hval
  have hmsl:ms.length=l.length:=by rw [<- hlen,<- hval,List.length_map]
  have hfl2:(flatK enc e.z ms.toArray).toList=flatV e (isort (ltO cf) l):=by
   have:=flatK_flatV (e:=e) (fun x:β=>x.1) ms.toArray
   rw [show (ms.toArray).toList.map (fun x:β=>x.1)=isort (ltO cf) l from hval] at this
   exact this
  have hfs:(flatK enc e.z ms.toArray).size=l.length * e.z:=by rw [size_flatK,List.size_toArray,hmsl]
  refine sort_finS rfl hS (t:=t) (r:=isort (ltO cf) l) ⟨flatV_len _,.inr ⟨b,cap,_,by rw [hlen],Nat.zero_le _,heap_sortWorld (enc:=id) hgb,by omega,hmx,?_,?_⟩⟩ hF0 (fr_sortWorld (enc:=id) hbU)
  ·rw [<- hsz]
   simp [putCells]
  ·rw [hlen,<- hfs,putCells_take (by rw [hfs,hsz]; exact Nat.mul_le_mul_right _ hle),List.map_id,hfl2]
end
end Go.Own
namespace Go.Own
open Go
set_option linter.unusedSectionVars false
variable [TB]
section
variable {α:Type}{P:Program}{N:Rm}{g:Gst}{d r:Nat}
end
end Go.Own
namespace Go.Own
open Go Go.Proofs Go.Shelf Go.Lib Go.Sort
set_option linter.unusedSectionVars false
variable [TB]
section
variable {α:Type} [DecidableEq α]
end
section
variable {α:Type}{e:En α}{P:Program}{w:World}
variable [DecidableEq α] [Inhabited α]
end
end Go.Own
namespace Go.Proofs
open Go.Shelf Go.RowKit Go.Lib Go.Sort
set_option linter.unusedSectionVars false
variable {α:Type} [Inhabited α] [DecidableEq α]
namespace Two
open Go.Own
variable [TB]
variable {P:Program}{t:TypeId}
omit [Inhabited α] [DecidableEq α] in
theorem one (f:α->Int):OneCell fun x=>Value.int .i64 (f x):=fun _=>rfl
end Two
end Go.Proofs
namespace Go.Own
open Go Go.Proofs Go.Shelf Go.Lib Go.Sort
set_option linter.unusedSectionVars false
variable [TB]
def shrK (k:IntKind) (m n:Int):Int:=m.fdiv (2 ^ (min n.toNat k.bits))
theorem O.shr {P:Program}{g:Gst}{t t2 ty:TypeId}{a b:Operand}{k k':IntKind}{m n:Int}(hx:Rd g a (.lit (.int k m))) (hy:Rd g b (.lit (.int k' n))) (h:decide (0<=n)=true):PS P g (.binOp .shr t a b t2) ty (.lit (.int k (shrK k m n))):=by
 have h0:¬ n<0:=by have:=of_decide_eq_true h; omega
 exact .p1 (.bin hx.opd hy.opd rfl fun w=>by simp [eqGuard,binOp,Op.shift,h0,shrK])
theorem wpList_app_fr {P:Program}{w:World}{ops:Array Oper}{rest:List Oper}{o:Oper}{a:Act}{Q:Exit->Act->World->Prop}(hgd:o.guard=none) (s x:Operand) (t:TypeId)
  (ho:o.op=.call { callee:=.builtin .append,args:=#[s,x],argTypes:=#[t,t] }) (e:TypeId) (i:TypeInfo) (z:Value) (ht:P.underlying t=some (.slice e)) (hi:P.info? e=some i) (hz:i.zero=some z) (hzs:z.cells.size=i.size) (hsz:0<i.size)
  (v:Value) (n:Nat) (xs:List Value) (hs:a.eval s=v) (hown:w.ownsRow 0 e i.size v n xs)
  (ad:Addr) (m c:Nat) (news:List Value) (hx:a.eval x=.slice (some ad) m c) (hl:news.length=m * i.size) (hnews:∀ j u,news[j]?=some u->w.cell? (ad.add j)=some u) (h1:∀ u∈news,u.oneCell'=true)
  (h63:n+m<=maxLen) (hbytes:(n+m) * i.bytes<=140737488355328)
  (h:∀ v' w' e2,AppRun w w' v v' e e2 i.size n m xs news->wpList P ops Q rest (a.put o.dst v') w'):wpList P ops Q (o::rest) a w :=
 wpList_plain hgd fun _ hK=>by
  obtain ⟨v',w',e2,hr,hA⟩:=run_app (P:=P) (w:=w) t o.type e e i z ht hi hz hzs hsz hown (a:=some ad) (m:=m) (c:=c) (fun _=>rfl) hl (fun ad' e=>by cases e; exact hnews) h1 h63 hbytes
  unfold Oper.wp execOp
  simp only [ho,resolve,invoke,builtin,Sem.run_bind,Sem.run_pure,Result.andThen_ok,List.map_toArray,List.map_cons,List.map_nil,hs,hx,hr]
  exact hK _ _ (h v' w' e2 hA)
def cloneO {α:Type}(l:List α):Option (List α):=if l.length<=1000000000000 then some l else none
section
variable {α:Type}{e:En α}{P:Program}{w:World}
end
end Go.Own
namespace Go.Own
open Go
set_option linter.unusedSectionVars false
variable [TB]
section
variable {α:Type}{P:Program}{N:Rm}{g:Gst}{d r:Nat}
end
end Go.Own
namespace Go.Own
open Go
set_option linter.unusedSectionVars false
variable [TB]
theorem q {α:Sort _}{a:α}:a=a:=rfl
abbrev S0:ByteArray:={ data:=#[] }
theorem ode {p:Prop} [Decidable p] (h:decide p=true):p:=of_decide_eq_true h
theorem tn2 {b:Bool}{g h:Gst}{s0 s1:Nat}{x0 x1:AV}(h0:g s0=some x0) [NRc x0] (h1:g s1=some x1) [NRc x1]:Trim b g h [(s0,x0),(s1,x1)]:=(.n h0 (.n h1 .nil))
theorem tn3 {b:Bool}{g h:Gst}{s0 s1 s2:Nat}{x0 x1 x2:AV}(h0:g s0=some x0) [NRc x0] (h1:g s1=some x1) [NRc x1] (h2:g s2=some x2) [NRc x2]:Trim b g h [(s0,x0),(s1,x1),(s2,x2)]:=(.n h0 (.n h1 (.n h2 .nil)))
theorem tn4 {b:Bool}{g h:Gst}{s0 s1 s2 s3:Nat}{x0 x1 x2 x3:AV}(h0:g s0=some x0) [NRc x0] (h1:g s1=some x1) [NRc x1] (h2:g s2=some x2) [NRc x2] (h3:g s3=some x3) [NRc x3]:Trim b g h [(s0,x0),(s1,x1),(s2,x2),(s3,x3)]:=(.n h0 (.n h1 (.n h2 (.n h3 .nil))))
theorem tn5 {b:Bool}{g h:Gst}{s0 s1 s2 s3 s4:Nat}{x0 x1 x2 x3 x4:AV}(h0:g s0=some x0) [NRc x0] (h1:g s1=some x1) [NRc x1] (h2:g s2=some x2) [NRc x2] (h3:g s3=some x3) [NRc x3] (h4:g s4=some x4) [NRc x4]:Trim b g h [(s0,x0),(s1,x1),(s2,x2),(s3,x3),(s4,x4)]:=(.n h0 (.n h1 (.n h2 (.n h3 (.n h4 .nil)))))
theorem tn6 {b:Bool}{g h:Gst}{s0 s1 s2 s3 s4 s5:Nat}{x0 x1 x2 x3 x4 x5:AV}(h0:g s0=some x0) [NRc x0] (h1:g s1=some x1) [NRc x1] (h2:g s2=some x2) [NRc x2] (h3:g s3=some x3) [NRc x3] (h4:g s4=some x4) [NRc x4] (h5:g s5=some x5) [NRc x5]:Trim b g h [(s0,x0),(s1,x1),(s2,x2),(s3,x3),(s4,x4),(s5,x5)]:=(.n h0 (.n h1 (.n h2 (.n h3 (.n h4 (.n h5 .nil))))))
theorem tn7 {b:Bool}{g h:Gst}{s0 s1 s2 s3 s4 s5 s6:Nat}{x0 x1 x2 x3 x4 x5 x6:AV}(h0:g s0=some x0) [NRc x0] (h1:g s1=some x1) [NRc x1] (h2:g s2=some x2) [NRc x2] (h3:g s3=some x3) [NRc x3] (h4:g s4=some x4) [NRc x4] (h5:g s5=some x5) [NRc x5] (h6:g s6=some x6) [NRc x6]:Trim b g h [(s0,x0),(s1,x1),(s2,x2),(s3,x3),(s4,x4),(s5,x5),(s6,x6)]:=(.n h0 (.n h1 (.n h2 (.n h3 (.n h4 (.n h5 (.n h6 .nil)))))))
theorem tn8 {b:Bool}{g h:Gst}{s0 s1 s2 s3 s4 s5 s6 s7:Nat}{x0 x1 x2 x3 x4 x5 x6 x7:AV}(h0:g s0=some x0) [NRc x0] (h1:g s1=some x1) [NRc x1] (h2:g s2=some x2) [NRc x2] (h3:g s3=some x3) [NRc x3] (h4:g s4=some x4) [NRc x4] (h5:g s5=some x5) [NRc x5] (h6:g s6=some x6) [NRc x6] (h7:g s7=some x7) [NRc x7]:Trim b g h [(s0,x0),(s1,x1),(s2,x2),(s3,x3),(s4,x4),(s5,x5),(s6,x6),(s7,x7)]:=(.n h0 (.n h1 (.n h2 (.n h3 (.n h4 (.n h5 (.n h6 (.n h7 .nil))))))))
theorem tn9 {b:Bool}{g h:Gst}{s0 s1 s2 s3 s4 s5 s6 s7 s8:Nat}{x0 x1 x2 x3 x4 x5 x6 x7 x8:AV}(h0:g s0=some x0) [NRc x0] (h1:g s1=some x1) [NRc x1] (h2:g s2=some x2) [NRc x2] (h3:g s3=some x3) [NRc x3] (h4:g s4=some x4) [NRc x4] (h5:g s5=some x5) [NRc x5] (h6:g s6=some x6) [NRc x6] (h7:g s7=some x7) [NRc x7] (h8:g s8=some x8) [NRc x8]:Trim b g h [(s0,x0),(s1,x1),(s2,x2),(s3,x3),(s4,x4),(s5,x5),(s6,x6),(s7,x7),(s8,x8)]:=(.n h0 (.n h1 (.n h2 (.n h3 (.n h4 (.n h5 (.n h6 (.n h7 (.n h8 .nil)))))))))
theorem tn10 {b:Bool}{g h:Gst}{s0 s1 s2 s3 s4 s5 s6 s7 s8 s9:Nat}{x0 x1 x2 x3 x4 x5 x6 x7 x8 x9:AV}(h0:g s0=some x0) [NRc x0] (h1:g s1=some x1) [NRc x1] (h2:g s2=some x2) [NRc x2] (h3:g s3=some x3) [NRc x3] (h4:g s4=some x4) [NRc x4] (h5:g s5=some x5) [NRc x5] (h6:g s6=some x6) [NRc x6] (h7:g s7=some x7) [NRc x7] (h8:g s8=some x8) [NRc x8] (h9:g s9=some x9) [NRc x9]:Trim b g h [(s0,x0),(s1,x1),(s2,x2),(s3,x3),(s4,x4),(s5,x5),(s6,x6),(s7,x7),(s8,x8),(s9,x9)]:=(.n h0 (.n h1 (.n h2 (.n h3 (.n h4 (.n h5 (.n h6 (.n h7 (.n h8 (.n h9 .nil))))))))))
theorem tn11 {b:Bool}{g h:Gst}{s0 s1 s2 s3 s4 s5 s6 s7 s8 s9 s10:Nat}{x0 x1 x2 x3 x4 x5 x6 x7 x8 x9 x10:AV}(h0:g s0=some x0) [NRc x0] (h1:g s1=some x1) [NRc x1] (h2:g s2=some x2) [NRc x2] (h3:g s3=some x3) [NRc x3] (h4:g s4=some x4) [NRc x4] (h5:g s5=some x5) [NRc x5] (h6:g s6=some x6) [NRc x6] (h7:g s7=some x7) [NRc x7] (h8:g s8=some x8) [NRc x8] (h9:g s9=some x9) [NRc x9] (h10:g s10=some x10) [NRc x10]:Trim b g h [(s0,x0),(s1,x1),(s2,x2),(s3,x3),(s4,x4),(s5,x5),(s6,x6),(s7,x7),(s8,x8),(s9,x9),(s10,x10)]:=(.n h0 (.n h1 (.n h2 (.n h3 (.n h4 (.n h5 (.n h6 (.n h7 (.n h8 (.n h9 (.n h10 .nil)))))))))))
section
variable {P:Program}{N:Rm}{ops:Array Oper}{g:Gst}{K:Gst->Prop}{l:List Oper}{d t:Nat}{ty:TypeId}{pos:String}{after:Array Edge}{v:Value}
theorem Fi {G1:List (Nat × AV)}(h:Trim true g (get G1) G1):RunL P N ops [] g fun g'=>Wk g' (get G1):=.fin h
theorem Vm (h:g t=some (.lit v)) (hk:RunL P N ops l (upd g d (.lit v)) K) (hN:N.ok d=true:=by rfl) (hf:g d=none:=by rfl):RunL P N ops (⟨some d,.move (.tmp t),ty,pos,after,none⟩::l) g K:=Rv (O.mv (.lit h)) hk hN hf
theorem Va (h:g t=some (.lit v)) (hk:RunL P N ops l (upd g d (.lit v)) K) (hN:N.ok d=true:=by rfl) (hf:g d=none:=by rfl):RunL P N ops (⟨some d,.assign (.tmp t),ty,pos,after,none⟩::l) g K:=Rv (O.az (.lit h)) hk hN hf
theorem Vk (h:ofConst v=.lit v) (hk:RunL P N ops l (upd g d (.lit v)) K) (hN:N.ok d=true:=by rfl) (hf:g d=none:=by rfl):RunL P N ops (⟨some d,.assign (.const v),ty,pos,after,none⟩::l) g K:=Rv (O.az (.k h)) hk hN hf
end
end Go.Own
namespace Go.Own
open Go
set_option linter.unusedSectionVars false
variable [TB]
section
variable {α:Type}{g:Gst}
end
end Go.Own
namespace Go.Own
open Go
set_option linter.unusedSectionVars false
variable [TB]
section
variable {α:Type}{P:Program}{N:Rm}{g:Gst}{d r:Nat}
theorem CallOk.tn {o:Oper}{xs:List Operand}{tys:Array TypeId}{f:FuncId}{ys:List AV}{res:AV}{en:En α}{L:List α}{G2:List (Nat × AV)}(ho:o.op=.call { callee:=.value (.func f),args:=xs.toArray,argTypes:=tys }) (hd:o.dst=some d) (hx:Own.opds g xs=some (.brw en.z ⟨r,[]⟩ L.length::ys))
  (hs:g r=some (oR en L)) (hcon:Con P f (oR en L::ys) (none::ys.map fun _=>none) res) (hf:callT P f=true) [hr:NRc res] [hn:NRl ys]
  (hG:Trim false (setP g ⟨r,[]⟩ .dead) (get G2) G2) (hg:get G2 d=none) (hN:N.ok d=true) :
  CallOk P N g o d (get ((d,res)::G2)):=by
 have hnr:∀ x∈rowc en L,NR x:=by
  intro x hx
  obtain ⟨a,_,ha⟩:=List.mem_flatMap.1 hx
  exact en.nr a x ha
 have htk:(rowc en L).take (L.length * en.z)=rowc en L:=List.take_of_length_le (by rw [rowc_len]; exact Nat.le_refl _)
 have keep2:Keep (setP g ⟨r,[]⟩ .dead) (get G2):=by
  refine ⟨fun t x h=>?_,fun t x h=>(hG.spec t x h).2.1,fun t z q n m new h=>(hG.spec t _ h).2.2 _ _ _ _ _ rfl⟩
  obtain ⟨⟨y,h1,_,h3⟩,_⟩:=hG.spec t x h
  rw [<- h3 rfl]; exact h1
 have keep4:Keep (get G2) (get G2):=⟨fun t x h=>h,fun t x h=>(hG.spec t x h).2.1,fun t z q n m new h=>(hG.spec t _ h).2.2 _ _ _ _ _ rfl⟩
 have e5:get ((d,res)::G2)=upd (get G2) d res:=by
  funext t
  rw [get_cons]
 rw [e5]
 refine ECall.ok (first:=[]) (caps:=[]) (ys:=.brw en.z ⟨r,[]⟩ L.length::ys) (tk:=fun _=>true) (vw:=false) (outs:=none::ys.map fun _=>none) (g1:=setP g ⟨r,[]⟩ .dead) (g2:=get G2) (g4:=get G2) (l:=[]) (ks:=fun _=>0) (xs0:=.brw en.z ⟨r,[]⟩ L.length::ys) (xs1:=oR en L::ys) (args:=oR en L::ys) (res:=res) ho hd rfl (by simpa using hx)
  ⟨hf,by simp,by simp,fun k x h=>.inl (by simpa using h),?_,keep2,fun k x y hx hy=>by simpa using hy,hcon,by simpa using hr.nr,fun k x h=>?_,fun j p x hj=>by simp at hj,by simp,fun i j hi hj _=>by simp at hi,keep4⟩ hg hN Bk.refl
 ·have h1:Take (setP g ⟨r,[]⟩ .dead) ((rowc en L).take (L.length * en.z)) (rowc en L) (setP g ⟨r,[]⟩ .dead):=by rw [htk]; exact .nr hnr
  exact .brw (N:=L.length) (by simp [atP,hs,AV.at]) (Nat.le_refl _) h1 (.nr hn.nr)
 ·cases k with
  | zero=>simp at h
  | succ k =>
   simp only [List.getElem?_cons_succ,List.getElem?_map] at h
   cases ha:ys[k]? <;> rw [ha] at h <;> cases h
end
end Go.Own
namespace Go.Own
open Go
set_option linter.unusedSectionVars false
variable [TB]
class Plc (x:AV):Prop where pl:Pl x
class Pll (cs:List AV):Prop where pl:∀ x∈cs,Pl x
instance {v:Value}:Plc (.lit v):=⟨.lit⟩
instance:Plc .nils:=⟨.nils⟩
instance {z n:Nat}{cs:List AV} [h:NRl cs]:Plc (.imm z n cs):=⟨.imm h.nr⟩
instance {α:Type}{e:En α}{L:List α}:Plc (iR e L):=⟨.imm (NRl.nr (cs:=rowc e L))⟩
instance {cs:List AV} [h:Pll cs]:Plc (.agg cs):=⟨.agg h.pl⟩
instance:Pll []:=⟨by simp⟩
instance {x:AV}{cs:List AV} [h:Plc x] [h':Pll cs]:Pll (x::cs):=⟨fun y hy=>by
 rcases List.mem_cons.1 hy with rfl | hy
 ·exact h.pl
 ·exact h'.pl y hy⟩
class NRG (G:List (Nat × AV)):Prop where nr:∀ t x,get G t=some x->NR x
instance:NRG []:=⟨fun t x h=>by cases h⟩
instance {s:Nat}{x:AV}{G:List (Nat × AV)} [h:NRc x] [h':NRG G]:NRG ((s,x)::G):=⟨fun t y hy=>by
 simp only [get] at hy
 split at hy
 ·cases hy; exact h.nr
 ·exact h'.nr t y hy⟩
class NRA (acc:Acc):Prop where nr:∀ e∈acc,∀ x,e.2.2=some x->NR x
instance:NRA []:=⟨by simp⟩
instance {k d:Nat}{x:AV}{acc:Acc} [h:NRc x] [h':NRA acc]:NRA ((k,d,some x)::acc):=⟨fun e he y hy=>by
 rcases List.mem_cons.1 he with rfl | he
 ·cases hy; exact h.nr
 ·exact h'.nr e he y hy⟩
instance {k d:Nat}{acc:Acc} [h':NRA acc]:NRA ((k,d,none)::acc):=⟨fun e he y hy=>by
 rcases List.mem_cons.1 he with rfl | he
 ·cases hy
 ·exact h'.nr e he y hy⟩
theorem cloN {G:List (Nat × AV)}{A:Nat->Bool}{acc:Acc} [h:NRG G] [h':NRA acc]:Clo (visG (get G) A acc):=by
 have key:∀ t x,visG (get G) A acc t=some x->NR x:=fun t x hx=>by
  rcases visG_some hx with ⟨e,he,_,_,h2⟩ | ⟨_,h2⟩
  ·exact h'.nr e he x h2
  ·exact h.nr t x h2
 exact ⟨fun t x hx=>.nr (key t x hx),fun t z q n m new hx=>by cases key t _ hx⟩
end Go.Own
namespace Go.Own
open Go Go.MapKept Go.ChangeMaps
set_option linter.unusedSectionVars false
variable [TB]
section
variable {P:Program}{w:World}{I:BSet}{T:Array Value}{g g2:Gst}{Fs:Nat->BSet}
theorem cell_setMap {w:World}{b:Nat}{es es':Array MapEntry}{c c':Nat}(h:w.heap[b]?=some (.map es c)) (a:Addr):(setBlock w b (.map es' c')).cell? a=w.cell? a:=by
 by_cases e:a.block=b
 ·have h1:(setBlock w b (.map es' c')).heap[a.block]?=some (.map es' c'):=by rw [e]; exact heap_setBlock_same h _
  have h2:w.heap[a.block]?=some (.map es c):=by rw [e]; exact h
  unfold World.cell?
  grind
 ·have h1:(setBlock w b (.map es' c')).heap[a.block]?=w.heap[a.block]?:=heap_setBlock_other h _ e
  unfold World.cell?
  rw [h1]
theorem walk_setMap {w:World}{b:Nat}{es es':Array MapEntry}{c c':Nat}(h:w.heap[b]?=some (.map es c)):∀ (p:List Nat) (v:Value),walk (setBlock w b (.map es' c')) v p=walk w v p
 | [],v=>rfl
 | k::p,v=>by
  have hc:child (setBlock w b (.map es' c')) v k=child w v k:=by
   unfold child
   split <;> first | rfl | exact cell_setMap h _
  simp only [walk,hc]
  cases child w v k with
  | none=>rfl
  | some u=>exact walk_setMap h p u
theorem val_setMap {w:World}{b:Nat}{es es':Array MapEntry}{c c':Nat}(h:w.heap[b]?=some (.map es c)) (T:Array Value) (p:Place):valAt (setBlock w b (.map es' c')) T p=valAt w T p:=by
 grind [valAt,walk_setMap]
theorem ref_setMap {w:World}{b:Nat}{es es':Array MapEntry}{c c':Nat}(h:w.heap[b]?=some (.map es c)) {T:Array Value}{r:AV}{v:Value}(hr:RefAt w T r v):RefAt (setBlock w b (.map es' c')) T r v:=by
 cases r <;> simp only [RefAt,val_setMap h] at hr ⊢ <;> exact hr
theorem SR.mput (hS:SR w I T g Fs) {p:Place}{q q':Array MapEntry->Nat->Prop}{b:Nat}{es es':Array MapEntry}{c c':Nat}(hp:atP g p=some (.mp q)) (hv:valAt w T p=some (.map (some b))) (hm:w.heap[b]?=some (.map es c)) (hq:q' es' c')
  (hg2:∀ t x,g2 t=some x->setP g p (.mp q') t=some x) (hrk:∀ t x,g2 t=some x->∀ y,g t=some y->RKp (RefOk g2) y) (hnp:∀ t z q n m new,g2 t≠some (.pend z q n m new)) (hroot:g2 p.root≠none) :
  ∃ Fs',SR (setBlock w b (.map es' c')) I T g2 Fs'/\∀ t c,Fs' t c->Fs t c:=by
 have w'o:∀ k,k≠b->(setBlock w b (.map es' c')).heap[k]?=w.heap[k]?:=fun k hk=>heap_setBlock_other hm _ hk
 have w'b:(setBlock w b (.map es' c')).heap[b]?=some (.map es' c'):=heap_setBlock_same hm _
 have w's:(setBlock w b (.map es' c')).heap.size=w.heap.size:=by simp [setBlock]
 have href:∀ r v,RefAt w T r v->RefAt (setBlock w b (.map es' c')) T r v:=fun r v h=>ref_setMap hm h
 generalize hw':setBlock w b (.map es' c')=w' at *
 obtain ⟨x0,hx0⟩:∃ x0,g p.root=some x0:=by
  unfold atP at hp
  cases hx:g p.root with
  | none=>rw [hx] at hp; cases hp
  | some x=>exact ⟨x,rfl⟩
 have hat0:x0.at p.path=some (.mp q):=by simpa [atP,hx0] using hp
 obtain ⟨v0,hv0,hR0⟩:=hS.rel _ _ hx0
 have hR0':=hR0.isTree (by rintro z q n m new rfl; cases (AV.at_pend hat0).2)
 have hk0:RKp (RefOk g2) x0:=by
  cases h2:g2 p.root with
  | none=>exact absurd h2 hroot
  | some y=>exact hrk _ _ h2 _ hx0
 have hR1:=hR0'.rkp hk0
 obtain ⟨vy,Fy,hw,hRy,hFy,_,rebuild⟩:=R.focus p.path hR1 hat0
 have hvy:vy=.map (some b):=by
  simp only [valAt,hv0,hw,Option.some.injEq] at hv; exact hv
 subst hvy
 obtain ⟨b',es0,c0,e,ho,_,hF0⟩:=hRy.inv_mp
 cases e
 have hbF:Fy b:=(hF0 b).2 rfl
 have hIb:∀ c,I c->w'.heap[c]?=w.heap[c]?:=fun c hc=>w'o c fun e=>hS.imm _ b (hFy b hbF) (e ▸ hc)
 have hother:∀ t,t≠p.root->¬ Fs t b:=fun t ht h=>ht (hS.dis _ _ _ h (hFy b hbF))
 have refs:∀ r u,(RG w T g r u/\RefOk g2 r)->RG w' T g2 r u:=fun r u h=>⟨href r u h.1.1,h.2⟩
 obtain ⟨F',hRF,hF'⟩:=rebuild w' I (RG w' T g2) (.mp q') Fy ⟨hIb,fun c hc hn=>w'o c fun e=>hn (e ▸ hbF),fun _ h=>h,refs⟩ (.mp w'b hq hF0) (fun c h _=>h) fun _ h=>by cases h
 have hF'':∀ c,F' c->Fs p.root c:=fun c hc=>by
  rcases (hF' c).1 hc with h | h
  ·exact h.1
  ·exact hFy c h
 let Fs':Nat->BSet:=fun t c=>if t=p.root then F' c else g2 t≠none/\Fs t c
 have hFs':∀ t c,Fs' t c->Fs t c:=by
  intro t c hc
  by_cases ht:t=p.root
  ·simp only [Fs',if_pos ht] at hc; rw [ht]; exact hF'' c hc
  ·simp only [Fs',if_neg ht] at hc; exact hc.2
 refine ⟨Fs',⟨fun t x hx=>?_,fun t ht c hc=>?_,fun t t' c hc hc'=>hS.dis t t' c (hFs' t c hc) (hFs' t' c hc'),fun t c hc hi=>hS.imm t c (hFs' t c hc) hi,fun c hc=>by rw [w's]; exact hS.lt c hc,fun t t' z q n m new z' n' m' new' h1=>absurd h1 (hnp _ _ _ _ _ _),TB.keep hS.tb hIb fun _ h=>h⟩,hFs'⟩
 ·have hx':=hg2 t x hx
  by_cases ht:t=p.root
  ·subst ht
   have hxe:x0.setAt p.path (.mp q')=x:=by simpa [setP,hx0] using hx'
   refine ⟨v0,hv0,.tree ?_⟩
   have hFe:Fs' p.root=F':=by funext c; simp [Fs']
   rw [<- hxe,hFe]; exact hRF
  ·rw [setP_slot ht] at hx'
   obtain ⟨u,hu,hR⟩:=hS.rel t x hx'
   replace hR:=hR.isTree (by rintro z q n m new rfl; exact hnp _ _ _ _ _ _ hx)
   have hFe:Fs' t=Fs t:=by
    funext c
    exact propext ⟨fun h=>by simp only [Fs',if_neg ht] at h; exact h.2,fun h=>by simp only [Fs',if_neg ht]; exact ⟨by rw [hx]; simp,h⟩⟩
   refine ⟨u,hu,.tree ?_⟩
   rw [hFe]
   exact (hR.rkp (hrk t x hx x hx')).frame hIb (fun _ h=>h) refs fun c hc=>w'o c fun e=>hother t ht (e ▸ hc)
 ·by_cases htr:t=p.root
  ·exact hroot (htr ▸ ht)
  ·simp only [Fs',if_neg htr] at hc; exact hc.1 ht
theorem fz_setMap {w:World}{b:Nat}{es es':Array MapEntry}{c c':Nat}(h:w.heap[b]?=some (.map es c)) (a:Addr):(setBlock w b (.map es' c')).frozen? a=w.frozen? a:=by
 unfold World.frozen?
 grind [heap_setBlock_same,heap_setBlock_other]
theorem EO.mu {N:Rm}{o:Oper}{t:TypeId}{m x v:Operand}{p:Place}{q q':Array MapEntry->Nat->Prop}{Y Z x2:AV}{kv zv:Value}{G2:List (Nat × AV)}(ho:o.op=.mapUpdate t m x v) (hd:o.dst=none) (hm:opd g m=some (.mref p)) (hp:atP g p=some (.mp q)) (hx:opd g x=some Y) (hy:opd g v=some Z)
  (hK:∀ (w:World) (I:BSet) (ρ:AV->Value->Prop) (v:Value),R w I ρ Y v E0->v=kv) (hZ:∀ (w:World) (I:BSet) (ρ:AV->Value->Prop) (v:Value),R w I ρ Z v E0->v=zv)
  (hr:∀ (w:World) (b:Nat) (es:Array MapEntry) (c:Nat),w.heap[b]?=some (.map es c)->q es c->∃ es' c',(Instr.mapUpdate t (.map (some b)) kv zv).run P w=.ok () (setBlock w b (.map es' c'))/\q' es' c')
  (hx2:setP g p (.mp q') p.root=some x2) (hroot:(get G2 p.root).isSome=true) {y0:AV}(hy0:g p.root=some y0) [hno:NRc y0] (hG:TrX g (get G2) p.root x2 G2):EO P N g o (get G2):=by
 refine .sem fun w I T Fs h a ha hN K Q hK'=>?_
 obtain ⟨⟨b,hb,hv⟩,_⟩:=(opd_sound h hm ha).inv_mref
 obtain ⟨v',Fy,hv',hRy,hFy⟩:=h.part hp (by simp)
 have hbv:=hb
 rw [hb] at hv'
 cases hv'
 obtain ⟨b',es,c,e,hh,hq,hF0⟩:=hRy.inv_mp
 cases e
 obtain ⟨es',c',hrun,hq'⟩:=hr w b' es c hh hq
 have hrun':(execOp a.eval o).run P w=.ok .skip (setBlock w b' (.map es' c')):=by
  simp [execOp,ho,hv,hK _ _ _ _ (opd_sound h hx ha),hZ _ _ _ _ (opd_sound h hy ha),hrun]
 have c1:∀ t x,get G2 t=some x->setP g p (.mp q') t=some x:=fun t x hx=>by
  rcases hG.spec t x hx with ⟨h1,h2,_⟩ | ⟨h1,h2,_⟩
  ·rw [setP_slot h1]; exact h2
  ·subst h1 h2; exact hx2
 have c2:∀ t x,get G2 t=some x->∀ y,g t=some y->RKp (RefOk (get G2)) y:=fun t x hx y hy=>by
  rcases hG.spec t x hx with ⟨h1,h2,h3⟩ | ⟨h1,h2,h3⟩
  ·rw [h2] at hy; cases hy
   rcases h3 with h3 | ⟨h3,_⟩
   ·cases h3 with
    | n h=>exact .nr h
    | p _ _ h4 hk2=>exact .ref rfl (refOk_obj h4 hk2)
    | r _ _ h4 hn2=>exact .ref rfl (refOk_own h4 hn2)
   ·exact RKp.ref (by cases h3; rfl) h3.ok2
  ·subst h1; rw [hy0] at hy; cases hy; exact .nr hno.nr
 have c3:∀ t z q n m new,get G2 t≠some (.pend z q n m new):=fun t z q n m new hx=>by
  rcases hG.spec t _ hx with ⟨_,_,h3 | ⟨h3,_⟩⟩ | ⟨_,_,h3⟩
  ·exact h3.np _ _ _ _ _ rfl
  ·exact h3.np _ _ _ _ _ rfl
  ·cases h3
 obtain ⟨Fs',hS',hsub⟩:=h.mput (g2:=get G2) hp hbv hh hq' c1 c2 c3 (by intro e; rw [e] at hroot; cases hroot)
 unfold Oper.wp Oper.upon
 simp only [hrun']
 refine hK' _ _ ⟨by rw [hd]; rfl,by rw [hd]; exact Hold.refl,I,Fs',by rw [hd]; simpa [Act.put,ha] using hS',⟨⟨rfl,rfl,rfl,by simp [setBlock],fun k _ hk=>heap_setBlock_other hh _ fun e=>hk ⟨_,e ▸ hFy b' ((hF0 b').2 rfl)⟩,fun a _ _=>fz_setMap hh a,Nat.le_refl _⟩,fun _ h=>h,fun _ h=>.inl h,fun c ⟨t,hc⟩=>.inl ⟨t,hsub t c hc⟩⟩⟩ fun t _=>by rw [hd]; rfl
end
end Go.Own
namespace Go.Own
open Go Go.MapKept Go.ChangeMaps Go.WideElems
set_option linter.unusedSectionVars false
variable [TB]
open Go.Maps (Keyed)
set_option linter.unusedVariables false
variable {κ υ:Type}{P:Program}{k e:TypeId}
abbrev Rh:Value->Option (DataW Value × List MemPlace):=fun v=>some (.held v,[])
def tget [DecidableEq κ]:List (κ × υ)->κ->Option υ
 | [],_=>none
 | p::m,x=>if p.1=x then some p.2 else tget m x
def mgetO [DecidableEq κ] (ok:κ->Bool) (z:υ) (m:List (κ × υ)) (x:κ):Option υ:=if ok x then some ((tget m x).getD z) else none
def mputO (ok:κ->Bool) (m:List (κ × υ)) (x:κ) (y:υ):Option (List (κ × υ)):=if ok x&&decide (m.length<=lim) then some ((x,y)::m) else none
structure MK (P:Program) (k:TypeId) (κ:Type) where
 kv:κ->Value
 kf:κ->Lit
 kA:κ->AV
 ok:κ->Bool
 keyed:Keyed P k
 key:∀ x,ok x=true->keyOf P k (kv x)=some (kf x)
 inj:∀ x y,kf x=kf y->x=y
 av:∀ (x:κ) (w:World) (I:BSet) (ρ:AV->Value->Prop) (v:Value),R w I ρ (kA x) v E0->v=kv x
structure MV (P:Program) (e:TypeId) (υ:Type) where
 vv:υ->Value
 vA:υ->AV
 z:υ
 zero:∀ w,(zeroValue e).run P w=.ok (vv z) w
 one:∀ x,(vv x).oneCell'=true
 av:∀ (x:υ) (w:World) (I:BSet) (ρ:AV->Value->Prop) (v:Value),R w I ρ (vA x) v E0->v=vv x
 va:∀ (x:υ) (w:World) (I:BSet) (ρ:AV->Value->Prop),R w I ρ (vA x) (vv x) E0
def srt (P:Program) (k:TypeId) (es:Array MapEntry):List (Lit × DataW Value):=(es.toList.map (rg P k Rh)).foldr DataW.insert []
def MI [DecidableEq κ] (K:MK P k κ) (V:MV P e υ) (m:List (κ × υ)):Array MapEntry->Nat->Prop:=fun es c=>Fit P k Rh es c/\es.size<=m.length/\∀ x zd,(DataW.map (srt P k es)).atKey (K.kf x) zd=match tget m x with | some y=>.held (V.vv y) | none=>zd
variable [DecidableEq κ] {K:MK P k κ}{V:MV P e υ}{m m':List (κ × υ)}{x:κ}{y:υ}{t:TypeId}
theorem MI.nil:MI K V [] #[] 0:=⟨⟨by simp,stamped_empty 0,by simp⟩,Nat.le_refl _,fun x zd=>rfl⟩
theorem MI.look (ok:Bool) (hok:K.ok x=true) (ht:P.underlying t=some (.map k e)) (w:World) (b:Nat) (es:Array MapEntry) (c:Nat) (hb:w.heap[b]?=some (.map es c)) (h:MI K V m es c) :
  (Instr.lookup t (.map (some b)) (K.kv x) ok).run P w=.ok (if ok then .tuple #[V.vv ((tget m x).getD V.z),.bool (tget m x).isSome] else V.vv ((tget m x).getD V.z)) w:=by
 obtain ⟨F,_,hat⟩:=h
 have hat:=hat x
 rcases Maps.fit_look ok K.keyed ht (V.zero w) hb F (K.key x hok) with ⟨hrun,_,h2⟩ | ⟨e0,y,_,_,hrun,hy,h2,_⟩
 ·have:tget m x=none:=by
   cases hg:tget m x with
   | none=>rfl
   | some y =>
    have h1:=hat .nil
    rw [hg] at h1
    have h3:=h2 .nil
    unfold srt at h1
    rw [h1] at h3; cases h3
  rw [hrun,this]; rfl
 ·cases hy
  cases hg:tget m x with
  | none =>
   have h1:=hat .nil
   rw [hg] at h1
   have h3:=h2 .nil
   unfold srt at h1
   rw [h1] at h3; cases h3
  | some y =>
   have h1:=hat .nil
   rw [hg] at h1
   have h3:=h2 .nil
   unfold srt at h1
   rw [h1] at h3
   have h4:e0.val=V.vv y:=by simpa using h3.symm
   rw [hrun,h4]; rfl
theorem MI.put (h0:mputO K.ok m x y=some m') (ht:P.underlying t=some (.map k e)) (w:World) (b:Nat) (es:Array MapEntry) (c:Nat) (hb:w.heap[b]?=some (.map es c)) (h:MI K V m es c) :
  ∃ es' c',(Instr.mapUpdate t (.map (some b)) (K.kv x) (V.vv y)).run P w=.ok () (setBlock w b (.map es' c'))/\MI K V m' es' c':=by
 unfold mputO at h0
 split at h0
 ·rename_i hc
  cases h0
  simp only [Bool.and_eq_true,decide_eq_true_eq] at hc
  obtain ⟨hok,hl⟩:=hc
  obtain ⟨F,hs,hat⟩:=h
  have hkey:=K.key x hok
  obtain ⟨es',c',hrun,F',hput,_⟩:=Maps.fit_store (R':=Rh) K.keyed ht hb F (by have:maxLen=9223372036854775807:=rfl; simp only [lim] at hl; omega) (fun _ _ _ _ hz=>hz) hkey (rfl:Rh (V.vv y)=some (.held (V.vv y),[]))
  refine ⟨es',c',hrun,F',?_,fun x' zd=>?_⟩
  ·have e1:es'.size=((es'.toList.map (rg P k Rh)).foldr DataW.insert []).length:=by rw [length_sorted]; simp
   rw [e1,hput]
   unfold putKey
   rw [length_insert]
   have e2:=List.length_filter_le (notKey (K.kf x)) ((es.toList.map (rg P k Rh)).foldr DataW.insert [])
   rw [length_sorted] at e2
   simp at e2 ⊢
   omega
  ·have e3:(DataW.map (srt P k es'))=(DataW.map (srt P k es)).put (K.kf x) (.held (V.vv y)):=by
    rw [DataW.put_eq]; unfold srt; rw [hput]
   rw [e3]
   by_cases hx:x=x'
   ·subst hx
    rw [Maps.atKey_put_same ⟨_,rfl⟩ (K.keyed.key hkey)]
    simp [tget]
   ·rw [Maps.atKey_put_other (fun e=>hx (K.inj _ _ e).symm),hat]
    simp [tget,hx]
 ·cases h0
section
variable {N:Rm}{g:Gst}{a b c:Operand}{p:Place}{ty:TypeId}
instance {q:Array MapEntry->Nat->Prop}:NRc (.mp q):=⟨.mp⟩
instance {q:Array MapEntry->Nat->Prop}:NRc (.imp q):=⟨.imp⟩
instance {q:Array MapEntry->Nat->Prop}:OOc (.mp q):=⟨.mp⟩
theorem O.mkm (K:MK P k κ) (V:MV P e υ):PS P g (.makeMap t none) ty (.mp (MI K V [])):=.p2 (.makeMap MI.nil)
theorem O.lk {r:υ}{X Y:AV}(hm:Rd g a (.mref p)) (hp:atP g p=some (.mp (MI K V m))) (hx:Rd g b Y) (hY:K.kA x=Y) (ht:P.underlying t=some (.map k e)) (h:mgetO K.ok V.z m x=some r) (hX:V.vA r=X):PS P g (.lookup t a b false) ty X:=by
 subst hX hY
 unfold mgetO at h
 split at h
 ·rename_i hok
  cases h
  exact .p1 (.lkM hm.opd hp hx.opd (K.av x) (V.va _) fun w b es c hb hq=>MI.look false hok ht w b es c hb hq)
 ·cases h
theorem O.lkI {r:υ}{X Y:AV}(hm:Rd g a (.imp (MI K V m))) (hx:Rd g b Y) (hY:K.kA x=Y) (ht:P.underlying t=some (.map k e)) (h:mgetO K.ok V.z m x=some r) (hX:V.vA r=X):PS P g (.lookup t a b false) ty X:=by
 subst hX hY
 unfold mgetO at h
 split at h
 ·rename_i hok
  cases h
  exact .p1 (.lkI hm.opd hx.opd (K.av x) (V.va _) fun w b es c hb hq=>MI.look false hok ht w b es c hb hq)
 ·cases h
theorem EO.mt {o:Oper}{x2 y0 Y Z:AV}{G2:List (Nat × AV)}(ho:o.op=.mapUpdate t a b c) (hd:o.dst=none) (hm:Rd g a (.mref p)) (hp:atP g p=some (.mp (MI K V m))) (hx:Rd g b Y) (hY:K.kA x=Y) (hy:Rd g c Z) (hZ:V.vA y=Z) (ht:P.underlying t=some (.map k e)) (h:mputO K.ok m x y=some m')
  (hx2:setP g p (.mp (MI K V m')) p.root=some x2) (hroot:(get G2 p.root).isSome=true) (hy0:g p.root=some y0) [hno:NRc y0] (hG:TrX g (get G2) p.root x2 G2):EO P N g o (get G2):=by
 subst hY hZ
 exact .mu ho hd hm.opd hp hx.opd hy.opd (K.av x) (V.av y) (fun w b es c hb hq=>MI.put h ht w b es c hb hq) hx2 hroot hy0 hG
end
def kI64 (n:Int):Bool:=decide (-9223372036854775808<=n/\n<9223372036854775808)
def MKI (hk:P.underlying k=some (.int .i64)):MK P k Int where
 kv n:=.int .i64 n
 kf n:=.int .i64 n
 kA n:=I64 n
 ok:=kI64
 keyed:=Maps.int_keyed hk
 key n h:=Maps.keyOf_int_mk hk (by
  unfold kI64 at h
  have:=of_decide_eq_true h
  unfold Lit.wf
  rw [Bool.and_eq_true]
  refine ⟨decide_eq_true ?_,decide_eq_true ?_⟩
  ·show (-9223372036854775808:Int)<=n; omega
  ·show n<=(9223372036854775807:Int); omega)
 inj x y h:=by cases h; rfl
 av x w I ρ v h:=h.inv_lit.1
def MVI (hz:(P.info? e).bind (·.zero)=some (.int .i64 0)):MV P e Int where
 vv n:=.int .i64 n
 vA n:=I64 n
 z:=0
 zero w:=bind_zero hz w
 one _:=rfl
 av x w I ρ v h:=h.inv_lit.1
 va x w I ρ:=.lit rfl fun _ h=>h
end Go.Own
namespace Go.Own
open Go
set_option linter.unusedSectionVars false
variable [TB]
section
variable {α:Type}{P:Program}{N:Rm}{g:Gst}{d r:Nat}{ty t t2 e:TypeId}{a b:Operand}{k k':IntKind}{m n:Int}{p:Place}
def inO (L:List α) (m:Int):Option Unit:=if 0<=m/\m<=L.length then some () else none
theorem inO_le {L:List α}{u:Unit}(h:inO L m=some u):m.toNat<=L.length:=by
 grind [inO]
instance:Lts eI:=⟨fun x=>[.int .i64 x],fun _=>rfl,fun x v hv=>by rw [List.mem_singleton.1 hv]; rfl⟩
theorem O.slS {en:En α}{L:List α}{u:Unit}(hx:Rd g a (.brw en.z p L.length)) (hl:Rd g b (.lit (.int k m))) (hp:atP g p=some (oR en L)) (ht:slT P t e en.z=true) (h:inO L m=some u):PS P g (.slice t a (some b) none none) ty (.sub en.z p m.toNat (L.length - m.toNat)):=by
 unfold inO at h
 split at h
 ·rename_i hc
  obtain ⟨i,rfl⟩:=Int.eq_ofNat_of_zero_le hc.1
  exact .p1 (.sliceBrw hx.opd ⟨_,hl.opd⟩ rfl ht (by omega) (Nat.le_refl _) ⟨_,_,hp,by omega⟩)
 ·cases h
theorem O.slH {en:En α}{L:List α}{u:Unit}(hx:Rd g a (.brw en.z p L.length)) (hh:Rd g b (.lit (.int k m))) (hp:atP g p=some (oR en L)) (ht:slT P t e en.z=true) (h:inO L m=some u):PS P g (.slice t a none (some b) none) ty (.brw en.z p m.toNat):=by
 unfold inO at h
 split at h
 ·rename_i hc
  obtain ⟨i,rfl⟩:=Int.eq_ofNat_of_zero_le hc.1
  exact .p1 (.sliceBrw0 hx.opd rfl ⟨_,hh.opd⟩ ht (by omega) (.inl ⟨_,_,hp,by omega⟩))
 ·cases h
def ltv (e:En α) [h:Lts e] (L:List α):List Value:=L.flatMap h.vals
theorem ltv_rowc (e:En α) [h:Lts e] (L:List α):rowc e L=(ltv e L).map .lit:=by
 induction L with
 | nil=>rfl
 | cons x L ih =>
  have:rowc e (x::L)=e.cells x++rowc e L:=by simp [rowc]
  rw [this,ih,h.cells]
  simp [ltv]
theorem SrcP.imm {en:En α}{S:List α}:Src g (iR en S) en.z S.length (rowc en S):=.imm
theorem SrcP.brw {en:En α} [Lts en] {L:List α}{q:Place}{n:Nat}(hq:atP g q=some (oR en L)) (hn:n<=L.length):Src g (.brw en.z q n) en.z (L.take n).length (rowc en (L.take n)):=by
 have h1:(L.take n).length=n:=by rw [List.length_take]; omega
 have h2:rowc en (L.take n)=(((rowc en L).take (n * en.z)).mapIdx fun i x=>refIn 0 (q.push i) x):=by
  rw [rowc_take,ltv_rowc]
  apply List.ext_getElem?
  intro j
  rw [List.getElem?_mapIdx]
  cases hj:((ltv en (L.take n)).map AV.lit)[j]? with
  | none=>rfl
  | some y =>
   obtain ⟨v,_,rfl⟩:=List.mem_map.1 (List.mem_of_getElem? hj)
   rfl
 rw [h1,h2]
 exact .brw hq hn
end
end Go.Own
namespace Go.Own
open Go
set_option linter.unusedSectionVars false
variable [TB]
def relab (π:List Nat) (o:Oper):Oper:=⟨o.dst,o.op,o.type,o.pos,o.after.map fun e=>⟨π.idxOf e.on,e.ground⟩,o.guard.map fun p=>(π.idxOf p.1,p.2)⟩
def permO (π:List Nat) (l:List Oper):List Oper:=π.map fun k=>relab π (l.getD k default)
def permB (π:List Nat) (n:Nat):Bool:=Nat.beq π.length n&&(List.range n).all fun k=>π.contains k&&Nat.blt (π.getD k n) n&&Nat.beq (π.idxOf (π.getD k n)) k
structure Perm (π:List Nat) (n:Nat):Prop where
 len:π.length=n
 mem:∀ k,k<n->π.idxOf k<n/\π.getD (π.idxOf k) n=k
 lt:∀ j,j<n->π.getD j n<n/\π.idxOf (π.getD j n)=j
theorem permB_spec {π:List Nat}{n:Nat}(h:permB π n=true):Perm π n:=by
 unfold permB at h
 simp only [Bool.and_eq_true,Nat.beq_eq,List.all_eq_true,List.mem_range,Nat.blt_eq] at h
 obtain ⟨hl,hall⟩:=h
 refine ⟨hl,fun k hk=>?_,fun j hj=>⟨(hall j hj).1.2,(hall j hj).2⟩⟩
 grind
section
variable {P:Program}{Q:Exit->Act->World->Prop}{π:List Nat}{l:List Oper}
theorem permO_at (hπ:Perm π l.length) {j:Nat}(hj:j<l.length):(permO π l).toArray[j]?=some (relab π (l.getD (π.getD j l.length) default))/\l.toArray[π.getD j l.length]?=some (l.getD (π.getD j l.length) default):=by
 have h1:j<π.length:=by rw [hπ.len]; exact hj
 have h2:=(hπ.lt j hj).1
 grind [permO]
theorem perm_ready (hπ:Perm π l.length) {A B:Array Bool}(hA:A.size=l.length) (hB:B.size=l.length) (hAB:∀ j,j<l.length->B.getD j true=A.getD (π.getD j l.length) true) {j:Nat}(hj:j<l.length) :
  π.getD j l.length∈Region.ready .any l.toArray A↔j∈Region.ready .any (permO π l).toArray B:=by
 obtain ⟨h1,h2⟩:=permO_at hπ hj
 have tf:∀ {C:Array Bool}{k:Nat},k<C.size->C.getD k false=C.getD k true:=fun {C k} h=>by simp [Array.getD,h]
 have gone:∀ {C:Array Bool}{k:Nat},¬ k<C.size->C.getD k false=false:=fun {C k} h=>by simp [Array.getD,h]
 have edge:∀ m,A.getD m false=true↔B.getD (π.idxOf m) false=true:=fun m=>by
  by_cases hm:m<l.length
  ·obtain ⟨h3,h4⟩:=hπ.mem m hm
   grind
  ·have h5:¬ π.idxOf m<l.length:=fun h=>by
    have h6:=List.idxOf_lt_length_iff.1 (by rw [hπ.len]; exact h)
    obtain ⟨i,hi,e⟩:=List.mem_iff_getElem.1 h6
    have:=(hπ.lt i (by rw [<- hπ.len]; exact hi)).1
    grind
   grind
 rw [mem_ready,mem_ready,hAB j hj]
 constructor
 ·rintro ⟨a,o,ho,h⟩
  rw [h2] at ho
  cases ho
  refine ⟨a,_,h1,fun e he hb=>?_⟩
  obtain ⟨e0,he0,rfl⟩:=Array.mem_map.1 he
  exact (edge _).1 (h e0 he0 hb)
 ·rintro ⟨a,o,ho,h⟩
  rw [h1] at ho
  cases ho
  refine ⟨a,_,h2,fun e he hb=>?_⟩
  exact (edge _).2 (h ⟨π.idxOf e.on,e.ground⟩ (Array.mem_map.2 ⟨e,he,rfl⟩) hb)
theorem perm_wanted (hπ:Perm π l.length) (o:Oper) (T:Array Value):Region.wanted (relab π o) (yielded (permO π l).toArray T)=Region.wanted o (yielded l.toArray T):=by
 unfold Region.wanted relab
 cases hg:o.guard with
 | none=>rfl
 | some p =>
  obtain ⟨m,b⟩:=p
  simp only [Option.map_some]
  have:yielded (permO π l).toArray T (π.idxOf m)=yielded l.toArray T m:=by
   unfold yielded
   by_cases hm:m<l.length
   ·obtain ⟨h3,h4⟩:=hπ.mem m hm
    obtain ⟨h1,h2⟩:=permO_at hπ h3
    rw [h4] at h1 h2
    rw [h1,h2]
    rfl
   ·have h5:¬ π.idxOf m<l.length:=fun h=>by
     have h6:=List.idxOf_lt_length_iff.1 (by rw [hπ.len]; exact h)
     obtain ⟨i,hi,e⟩:=List.mem_iff_getElem.1 h6
     have:=(hπ.lt i (by rw [<- hπ.len]; exact hi)).1
     grind
    have e1:(permO π l).toArray[π.idxOf m]?=none:=by
     rw [List.getElem?_toArray]
     exact List.getElem?_eq_none (by simp [permO,hπ.len]; omega)
    grind
  rw [this]
theorem perm_any (hπ:Perm π l.length):∀ (fuel:Nat) (A B:Array Bool) (a:Act) (w:World),A.size=l.length->B.size=l.length->(∀ j,j<l.length->B.getD j true=A.getD (π.getD j l.length) true) ->
  wpAny P .any (permO π l).toArray Q fuel B a w->wpAny P .any l.toArray Q fuel A a w:=by
 have lift:∀ {A B:Array Bool},A.size=l.length->B.size=l.length->(∀ j,j<l.length->B.getD j true=A.getD (π.getD j l.length) true)->∀ k,k∈Region.ready .any l.toArray A->∃ j,j<l.length/\π.getD j l.length=k/\j∈Region.ready .any (permO π l).toArray B:=fun {A B} hA hB hAB k hk=>by
  have hkl:k<l.length:=by
   grind [mem_ready]
  obtain ⟨h3,h4⟩:=hπ.mem k hkl
  grind [perm_ready]
 have nil:∀ {A B:Array Bool},A.size=l.length->B.size=l.length->(∀ j,j<l.length->B.getD j true=A.getD (π.getD j l.length) true)->Region.ready .any l.toArray A=[]->Region.ready .any (permO π l).toArray B=[]:=fun {A B} hA hB hAB h=>by
  cases hr:Region.ready .any (permO π l).toArray B with
  | nil=>rfl
  | cons j r =>
   have hj:j∈Region.ready .any (permO π l).toArray B:=by rw [hr]; simp
   have hjl:j<l.length:=by
    grind [mem_ready]
   have:=(perm_ready hπ hA hB hAB hjl).2 hj
   grind
 intro fuel
 induction fuel with
 | zero =>
  intro A B a w hA hB hAB h
  refine ⟨?_,h.2⟩
  cases hr:Region.ready .any l.toArray A with
  | nil=>rfl
  | cons k r =>
   obtain ⟨j,_,_,hj⟩:=lift hA hB hAB k (by rw [hr]; simp)
   rw [h.1] at hj
   cases hj
 | succ fuel ih =>
  intro A B a w hA hB hAB h
  refine ⟨fun hr=>h.1 (nil hA hB hAB hr),fun k hk=>?_⟩
  obtain ⟨j,hjl,rfl,hj⟩:=lift hA hB hAB k hk
  have hs:=h.2 j hj
  obtain ⟨h1,h2⟩:=permO_at hπ hjl
  have hAB':∀ i,i<l.length->(B.setIfInBounds j true).getD i true=(A.setIfInBounds (π.getD j l.length) true).getD (π.getD i l.length) true:=fun i hi=>by
   have hlt:=(hπ.lt j hjl).1
   have hlti:=(hπ.lt i hi).1
   have e:∀ (C:Array Bool) (p q:Nat),p<C.size->q<C.size->(C.setIfInBounds p true).getD q true=if q=p then true else C.getD q true:=fun C p q hp hq=>by
    by_cases h:q=p
    ·simp_all
    ·rw [if_neg h]
     simp [Array.getD,hq,Array.getElem_setIfInBounds_ne,Ne.symm h]
   rw [e B j i (by omega) (by omega),e A _ _ (by omega) (by omega),hAB i hi]
   by_cases h:i=j
   ·grind
   ·rw [if_neg h,if_neg]
    intro h'
    have:=(hπ.lt i hi).2
    rw [h',(hπ.lt j hjl).2] at this
    grind
  have mono:∀ a w,wpAny P .any (permO π l).toArray Q fuel (B.setIfInBounds j true) a w->wpAny P .any l.toArray Q fuel (A.setIfInBounds (π.getD j l.length) true) a w:=fun a w h'=>ih _ _ a w (by simpa using hA) (by simpa using hB) hAB' h'
  unfold wpOp at hs ⊢
  rw [h2]
  rw [h1] at hs
  simp only [perm_wanted hπ] at hs
  show if Region.wanted (l.getD (π.getD j l.length) default) (yielded l.toArray a.tmps)=true then _ else _
  split
  ·rename_i hw
   rw [if_pos hw] at hs
   exact hs.imp (fun h'=>Oper.wp_mono mono h') id
  ·rename_i hw
   rw [if_neg hw] at hs
   exact mono _ _ hs
end
section
variable {P:Program}{N:Rm}
theorem W.rdp {id:Nat}{l:List Oper}{G:List (Nat × AV)}{Φ:Exit->Gst->Prop}(π:List Nat) (AT:List (List Nat)) (G1:List (Nat × AV)) (hm:P.follows .mixedOrders=true) (hA:ancOk (permO π l).toArray AT=true) (hπ:permB π l.length=true)
  (h:DL P N (permO π l).toArray AT (get G) 0 [] (permO π l) fun g'=>Wk g' (get G1)) (hk:Px .normal Φ G1):W P N (.region id l.toArray true) (get G) Φ:=by
 have hp:=permB_spec hπ
 obtain ⟨g',h1,h2⟩:=h [] 0 .nil .nil (by simp)
 have hsz:(permO π l).toArray.size=l.length:=by simp [permO,hp.len]
 refine Ev.w (g':=g') (e:=.normal) ?_ (hk g' (.wk h2 .rf))
 intro Q a w I Fs hS hN hQ
 refine wp_region_any hm ?_
 have hS':SR w.drew I a.tmps (get G) Fs:=hS.world (fun _ _ _=>rfl) (fun _ _=>rfl) (Nat.le_refl _)
 have hall:∀ k,Lst (Array.replicate (permO π l).toArray.size false) k=false:=by
  intro k
  unfold Lst
  rcases Nat.lt_or_ge k (permO π l).toArray.size with h | h
  ·simp_all
  grind
 refine perm_any hp _ _ (Array.replicate l.length false) a w.drew (by simp) (by simp) (fun j hj=>?_) ?_
 ·have:=(hp.lt j hj).1
  simp_all
 have h9:=h1.sound hA .nil (permO π l).toArray.size (Array.replicate (permO π l).toArray.size false) a w.drew I Fs ?_ (by simp) (fun k hk=>by omega) (fun k _=>hall k) (fun k hk=>by rw [hall] at hk; cases hk) hS' hN (fun a' w' hn=>hQ _ _ ?_)
 ·grind
 ·grind [cnt]
 ·obtain ⟨e1,e2,I',Fs',hS2,hst⟩:=hn
  exact ⟨e1,e2,I',Fs',hS2,⟨⟨hst.fr.os,hst.fr.tape,hst.fr.output,hst.fr.size,hst.fr.block,hst.fr.fz,Nat.le_trans (Nat.le_succ _) hst.fr.dr⟩,hst.more,hst.new,hst.own⟩⟩
end
end Go.Own
namespace Go.Own
open Go
set_option linter.unusedSectionVars false
variable [TB]
section
variable {α:Type}{P:Program}{N:Rm}{g:Gst}{a b:Operand}{t:TypeId}{m i:Int}
end
end Go.Own
namespace Go.Own
open Go
set_option linter.unusedSectionVars false
variable [TB]
section
variable {P:Program}{N:Rm}{ops:Array Oper}{AT:List (List Nat)}{g g0:Gst}{K:Gst->Prop}{l:List Oper}{acc:Acc}{d i j t':Nat}{op:Op}{ty:TypeId}{pos:String}{after:Array Edge}{x:AV}{b c:Bool}
theorem Ps (hb:c=!b) (hk:RunL P N ops l (upd g d (.tup [])) K) (h:(ops[j]?).bind (·.dst)=some t':=by rfl) (hg:g t'=some (.lit (.bool c)):=by rfl) (hN:N.ok d=true:=by rfl) (hf:g d=none:=by rfl):RunL P N ops (⟨some d,op,ty,pos,after,some (j,b)⟩::l) g K:=.ps h hg hb hN hf hk
theorem Pu (hk:RunL P N ops l (upd g d (.tup [])) K) (h:(ops[j]?).bind (·.dst)=some t':=by rfl) (hg:g t'=some (.tup []):=by rfl) (hN:N.ok d=true:=by rfl) (hf:g d=none:=by rfl):RunL P N ops (⟨some d,op,ty,pos,after,some (j,b)⟩::l) g K:=.pu h hg hN hf hk
theorem Yv (hb:c=b) (hp:PS P g op ty x) (hk:RunL P N ops l (upd g d x) K) (h:(ops[j]?).bind (·.dst)=some t':=by rfl) (hg:g t'=some (.lit (.bool c)):=by rfl) (hN:N.ok d=true:=by rfl) (hf:g d=none:=by rfl):RunL P N ops (⟨some d,op,ty,pos,after,some (j,b)⟩::l) g K:=.v hp hN hf (.yb h hg hb) hk
theorem Pa (hk:RunL P N ops l (upd g d (.tup [])) K) (h:(ops[j]?).bind (·.dst)=some t':=by rfl) (hg:g t'=some (.lit (.bool c)):=by rfl) (hb:c=!b:=by assumption) (hN:N.ok d=true:=by rfl) (hf:g d=none:=by rfl):RunL P N ops (⟨some d,op,ty,pos,after,some (j,b)⟩::l) g K:=.ps h hg hb hN hf hk
theorem Ya (hp:PS P g op ty x) (hk:RunL P N ops l (upd g d x) K) (h:(ops[j]?).bind (·.dst)=some t':=by rfl) (hg:g t'=some (.lit (.bool c)):=by rfl) (hb:c=b:=by assumption) (hN:N.ok d=true:=by rfl) (hf:g d=none:=by rfl):RunL P N ops (⟨some d,op,ty,pos,after,some (j,b)⟩::l) g K:=.v hp hN hf (.yb h hg hb) hk
theorem DPs (j0:Nat) (hb:c=!b) (hk:DL P N ops AT g0 i ((j0,d,some (.tup []))::acc) l K) (h:(ops[j]?).bind (·.dst)=some t':=by rfl) (hg:vis AT g0 j0 acc t'=some (BB c):=by rfl) (hj:Nat.beq ops.size (j0+l.length+1)=true:=by rfl) (hf:g0 d=none:=by rfl) (hn:acc.all (fun e=>!Nat.beq e.2.1 d)=true:=by rfl) (hN:N.ok d=true:=by rfl):DL P N ops AT g0 i acc (⟨some d,op,ty,pos,after,some (j,b)⟩::l) K:=.ps j0 h hg hb hj hf hn hN hk
theorem DYv (j0:Nat) (hb:c=b) (hp:PS P (vis AT g0 j0 acc) op ty x) (hk:DL P N ops AT g0 i ((j0,d,some x)::acc) l K) (h:(ops[j]?).bind (·.dst)=some t':=by rfl) (hg:vis AT g0 j0 acc t'=some (.lit (.bool c)):=by rfl) (hj:Nat.beq ops.size (j0+l.length+1)=true:=by rfl) (hf:g0 d=none:=by rfl) (hn:acc.all (fun e=>!Nat.beq e.2.1 d)=true:=by rfl) (hN:N.ok d=true:=by rfl):DL P N ops AT g0 i acc (⟨some d,op,ty,pos,after,some (j,b)⟩::l) K:=.v j0 hp hj hf hn hN (.yb h hg hb) hk
end
section
variable {P:Program}{N:Rm}{ops:Array Oper}{g:Gst}{K:Gst->Prop}{l:List Oper}{A B:Code}{G G1:List (Nat × AV)}{Φ:Exit->Gst->Prop}{t id:Nat}{b:Bool}{α:Type}{X Y o:α}
theorem W.ch (h:(bif b then X else Y)=o) (hc:get G t=some (BB b)) (hT:b=true->X=o->W P N A (get G) Φ) (hF:b=false->Y=o->W P N B (get G) Φ):W P N (.cond (.tmp t) A B) (get G) Φ:=W.cnd hc (fun e=>hT e (cndT e h)) (fun e=>hF e (cndF e h))
def pick (g:Gst):List Nat->Option (List (Nat × AV))
 | []=>some []
 | k::ks=>match g k with
  | some x=>match pick g ks with
   | some l=>some ((k,x)::l)
   | none=>none
  | none=>none
class NRg (l:List (Nat × AV)):Prop where p:∀ e∈l,NR e.2
instance:NRg []:=⟨fun _ h=>by cases h⟩
instance {k:Nat}{x:AV}{l:List (Nat × AV)} [h:NRc x] [hl:NRg l]:NRg ((k,x)::l):=⟨fun e he=>by
 rcases List.mem_cons.1 he with rfl | he
 ·exact h.nr
 ·exact hl.p e he⟩
theorem pick_trim {c:Bool}{g g2:Gst}:∀ {ks:List Nat}{G1:List (Nat × AV)},pick g ks=some G1->(∀ e∈G1,NR e.2)->Trim c g g2 G1
 | [],_,h,_=>by cases h; exact .nil
 | k::ks,G1,h,hn=>by
  unfold pick at h
  split at h
  ·rename_i x hx
   split at h
   ·rename_i l hl
    cases h
    have:NRc x:=⟨hn (k,x) (by simp)⟩
    exact .n hx (pick_trim hl fun e he=>hn e (by simp [he]))
   ·cases h
  ·cases h
structure Kk (ks:List Nat) (G1:List (Nat × AV)) (g':Gst):Prop where p:Wk g' (get G1)
theorem Fk {ks:List Nat}(h:pick g ks=some G1) [hn:NRg G1]:RunL P N ops [] g (Kk ks G1):=.nil ⟨(pick_trim (c:=true) (g2:=get G1) h hn.p).wk⟩
theorem kkW {l:List Oper}{ks:List Nat}(h:RunL P N l.toArray l g (Kk ks G1)):RunL P N l.toArray l g fun g'=>Wk g' (get G1):=fun i hi=>by
 obtain ⟨g',h1,h2⟩:=h i hi
 exact ⟨g',h1,h2.p⟩
theorem RunL.rk (ks:List Nat) (h:pick g ks=some G1) [hn:NRg G1] (hk:RunL P N ops l (get G1) K):RunL P N ops l g K:=.re (pick_trim h hn.p) hk
theorem W.rk {l:List Oper}(ks:List Nat) (h:RunL P N l.toArray l (get G) (Kk ks G1)) (hk:Px .normal Φ G1):W P N (.region id l.toArray false) (get G) Φ:=W.rx G1 (kkW h) hk
theorem W.rs {l:List Oper}(G1:List (Nat × AV)) (h:RunL P N l.toArray l (get G) fun g'=>Wk g' (get G1)) (hk:W P N B (get G1) Φ):W P N (.seq (.region id l.toArray false) B) (get G) Φ:=W.sq' (W.rx G1 h (Px.sq hk))
theorem W.rq {l:List Oper}(ks:List Nat) (h:RunL P N l.toArray l (get G) (Kk ks G1)) (hk:W P N B (get G1) Φ):W P N (.seq (.region id l.toArray false) B) (get G) Φ:=W.rs G1 (kkW h) hk
end
end Go.Own
namespace Go.Own
open Go
set_option linter.unusedSectionVars false
variable [TB]
class F1 (P:Program) (t:TypeId):Prop where p:cellT P t=true:=by kernel_rfl
class F2 (P:Program) (t:TypeId):Prop where p:strT P t=true:=by kernel_rfl
class F3 (P:Program) (t:TypeId) (e:outParam TypeId) (z:outParam Nat):Prop where p:slT P t e z=true:=by kernel_rfl
class F4 (P:Program) (s:TypeId) (f:Nat) (off:outParam Nat) (t:outParam TypeId):Prop where p:fldT P s f off t=true:=by kernel_rfl
section
variable {P:Program}{N:Rm}{ops:Array Oper}{g:Gst}{K:Gst->Prop}{l:List Oper}{ty t:TypeId}{a:Operand}{k r z n:Nat}{cs ds:List AV}
theorem O.ldOl {v:Value}(hs:g r=some (.obj cs)) (hx:Rd g a (.ptr ⟨r,[]⟩ k)) (ht:cellT P t=true) (hc:cs[k]?=some (.lit v)):PS P g (.load t a) ty (.lit v):=O.ldO hs hx ht hc rfl
theorem O.ldOi (hs:g r=some (.obj cs)) (hx:Rd g a (.ptr ⟨r,[]⟩ k)) (ht:cellT P t=true) (hc:cs[k]?=some (.imm z n ds)):PS P g (.load t a) ty (.imm z n ds):=O.ldO hs hx ht hc rfl
theorem O.ldOo (hs:g r=some (.obj cs)) (hx:Rd g a (.ptr ⟨r,[]⟩ k)) (ht:cellT P t=true) (hc:cs[k]?=some (.own z n ds)):PS P g (.load t a) ty (.brw z ⟨r,[k]⟩ n):=O.ldO hs hx ht hc rfl
end
section
variable {P:Program}{N:Rm}{ops:Array Oper}{g:Gst}{K:Gst->Prop}{l:List Oper}{t0 d:Nat}{t1 t2 ty:TypeId}{a1 a2 a3:Operand}{n1:Nat}{v0:Value}{pos:String}{after:Array Edge}{op:Op}{gu:Nat × Bool}
theorem RunL.tg (op:Op) (u:Option (Nat × Bool)) (h:RunL P N ops (⟨some d,op,ty,pos,after,u⟩::l) g K):RunL P N ops (⟨some d,op,ty,pos,after,u⟩::l) g K:=h
theorem RunL.nl (h:RunL P N ops [] g K):RunL P N ops [] g K:=h
theorem RunL.apc {o:Oper}{l1 l2:List Oper}(h:RunL P N ops (o::List.append l1 l2) g K):RunL P N ops (List.append (o::l1) l2) g K:=h
theorem RunL.apn {l2:List Oper}(h:RunL P N ops l2 g K):RunL P N ops (List.append [] l2) g K:=h
theorem RunL.au (h:RunL P N ops l g K:=by
(repeat' (first
 | exact Fi .nil
 | exact .nil
 | refine .n rfl ?_
 | (first
  | ((with_reducible apply RunL.tg (.move (.tmp _)) none); (first | refine Vm rfl ?_ | refine Rv (O.mv (.imm rfl)) ?_ | refine Rv (O.mv (.own rfl)) ?_ | refine Rv (O.mv (.obj rfl)) ?_ | refine Rv (O.mv (.iptr rfl)) ?_ | refine Rv (O.mv (.ptr rfl)) ?_ | refine Rv (O.mv (.brw rfl)) ?_))
  | ((with_reducible apply RunL.tg (.load _ _) none); (first | refine Rv (O.ldOl rfl (.ptr rfl) F1.p rfl) ?_ | refine Rv (O.ldI (.iptr rfl) F1.p rfl) ?_ | refine Rv (O.ldOi rfl (.ptr rfl) F1.p rfl) ?_ | refine Rv (O.ldOl rfl (.obj rfl) F1.p rfl) ?_ | refine Rv (O.ldOi rfl (.obj rfl) F1.p rfl) ?_ | refine Rv (O.ldOo rfl (.ptr rfl) F1.p rfl) ?_ | refine Rv (O.ldOo rfl (.obj rfl) F1.p rfl) ?_))
  | ((with_reducible apply RunL.tg (.fieldAddr _ _ _) none); (first | refine Rv (O.fO rfl (.obj rfl) F4.p rfl) ?_ | refine Rv (O.fI (.iptr rfl) F4.p) ?_ | refine Rv (O.fO rfl (.ptr rfl) F4.p rfl) ?_))
  | ((with_reducible apply RunL.tg (.assign (.tmp _)) none); (first | refine Va rfl ?_ | refine Rv (O.az (.imm rfl)) ?_ | refine Rv (O.az (.own rfl)) ?_ | refine Rv (O.az (.obj rfl)) ?_ | refine Rv (O.az (.iptr rfl)) ?_ | refine Rv (O.az (.ptr rfl)) ?_ | refine Rv (O.az (.brw rfl)) ?_))
  | ((with_reducible apply RunL.tg (.assign (.const _)) none); (first | refine Vk rfl ?_ | refine Rv (O.az .knil) ?_))
  | ((with_reducible apply RunL.tg (.indexAddr _ _ _) none); (first | refine Rv (O.ixI (.imm rfl) (.lit rfl) F3.p (by assumption)) ?_ | refine Rv (O.ixI (.imm rfl) (.k rfl) F3.p (by assumption)) ?_))
  | ((with_reducible apply RunL.tg (.binOp .add _ _ _ _) none); (first | refine Rv (O.add (.lit rfl) (.k rfl)) ?_ | refine Rv (O.add (.lit rfl) (.lit rfl)) ?_ | refine Rv (O.add (.k rfl) (.lit rfl)) ?_))
  | ((with_reducible apply RunL.tg (.binOp .lss _ _ _ _) none); (first | refine Rv (O.lss (.lit rfl) (.k rfl)) ?_ | refine Rv (O.lss (.lit rfl) (.lit rfl)) ?_ | refine Rv (O.lss (.k rfl) (.lit rfl)) ?_))
  | ((with_reducible apply RunL.tg (.binOp .eql _ _ _ _) none); (first | refine Rv (O.eql (.lit rfl) (.k rfl)) ?_ | refine Rv (O.eql (.lit rfl) (.lit rfl)) ?_ | refine Rv (O.eql (.k rfl) (.lit rfl)) ?_ | refine Rv (O.eqS (.lit rfl) (.lit rfl)) ?_ | refine Rv (O.eqS (.lit rfl) (.k rfl)) ?_))
  | ((with_reducible apply RunL.tg (.binOp .neq _ _ _ _) none); (first | refine Rv (O.neq (.lit rfl) (.k rfl)) ?_ | refine Rv (O.neq (.lit rfl) (.lit rfl)) ?_ | refine Rv (O.neq (.k rfl) (.lit rfl)) ?_ | refine Rv (O.neS (.lit rfl) (.lit rfl)) ?_ | refine Rv (O.neS (.lit rfl) (.k rfl)) ?_))
  | ((with_reducible apply RunL.tg (.binOp .geq _ _ _ _) none); (first | refine Rv (O.geq (.lit rfl) (.k rfl)) ?_ | refine Rv (O.geq (.lit rfl) (.lit rfl)) ?_ | refine Rv (O.geq (.k rfl) (.lit rfl)) ?_))
  | ((with_reducible apply RunL.tg (.binOp .gtr _ _ _ _) none); (first | refine Rv (O.gtr (.lit rfl) (.k rfl)) ?_ | refine Rv (O.gtr (.lit rfl) (.lit rfl)) ?_ | refine Rv (O.gtr (.k rfl) (.lit rfl)) ?_))
  | ((with_reducible apply RunL.tg (.binOp .sub _ _ _ _) none); (first | refine Rv (O.sub (.lit rfl) (.k rfl)) ?_ | refine Rv (O.sub (.lit rfl) (.lit rfl)) ?_ | refine Rv (O.sub (.k rfl) (.lit rfl)) ?_))
  | ((with_reducible apply RunL.tg (.binOp .leq _ _ _ _) none); (first | refine Rv (O.leq (.lit rfl) (.k rfl)) ?_ | refine Rv (O.leq (.lit rfl) (.lit rfl)) ?_ | refine Rv (O.leq (.k rfl) (.lit rfl)) ?_))
  | ((with_reducible apply RunL.tg (.pick _ _ _) none); (first | refine Rv (O.pkT (.lit rfl) rfl (.lit rfl)) ?_ | refine Rv (O.pkF (.lit rfl) rfl (.lit rfl)) ?_ | refine Rv (O.pkT (.lit rfl) rfl (.k rfl)) ?_ | refine Rv (O.pkF (.lit rfl) rfl (.k rfl)) ?_ | refine Rv (O.pkT (.lit rfl) (by assumption) (.lit rfl)) ?_ | refine Rv (O.pkF (.lit rfl) (by assumption) (.lit rfl)) ?_ | refine Rv (O.pkT (.lit rfl) (by assumption) (.k rfl)) ?_ | refine Rv (O.pkF (.lit rfl) (by assumption) (.k rfl)) ?_))
  | ((with_reducible apply RunL.tg (.call { callee:=.builtin .len,args:=#[_],argTypes:=#[_] }) none); (first | refine Rv (O.lenI (.imm rfl) F3.p) ?_ | refine Rv (O.lenO (.brw rfl) F3.p) ?_ | refine Rv (O.lenO (.own rfl) F3.p) ?_ | refine Rv (O.lenS (.lit rfl) F2.p) ?_))
  | ((with_reducible apply RunL.tg (.unOp .not _ _) none); (first | refine Rv (O.not (.lit rfl)) ?_))
  | ((with_reducible apply RunL.tg (.nilCheck _) none); (first | refine Rv (O.nlP (.ptr rfl)) ?_ | refine Rv (O.nlI (.iptr rfl)) ?_ | refine Rv (O.nlP (.obj rfl)) ?_))
  | ((with_reducible apply RunL.tg (.index _ _ _) none); (first | refine Rv (O.at' (.lit rfl) (.lit rfl) F2.p (by assumption)) ?_))
  | ((with_reducible apply RunL.tg (.move (.const _)) none); (first | refine Rv (O.mv (.k rfl)) ?_ | refine Rv (O.mv .knil) ?_)))
 | ((with_reducible apply RunL.nl); first | exact Fk rfl | refine Fi ?_)
 | ((with_reducible apply RunL.tg _ (some _)); first
  | (first | refine Ps rfl ?_ | refine Pa ?_ | refine Pu ?_)
  | ((with_reducible apply RunL.tg (.move (.tmp _)) (some _)); (first | refine Yv rfl (O.mv (.lit rfl)) ?_ | refine Ya (O.mv (.lit rfl)) ?_ | refine Yv rfl (O.mv (.imm rfl)) ?_ | refine Ya (O.mv (.imm rfl)) ?_ | refine Yv rfl (O.mv (.own rfl)) ?_ | refine Ya (O.mv (.own rfl)) ?_ | refine Yv rfl (O.mv (.obj rfl)) ?_ | refine Ya (O.mv (.obj rfl)) ?_ | refine Yv rfl (O.mv (.iptr rfl)) ?_ | refine Ya (O.mv (.iptr rfl)) ?_ | refine Yv rfl (O.mv (.ptr rfl)) ?_ | refine Ya (O.mv (.ptr rfl)) ?_ | refine Yv rfl (O.mv (.brw rfl)) ?_ | refine Ya (O.mv (.brw rfl)) ?_))
  | ((with_reducible apply RunL.tg (.load _ _) (some _)); (first | refine Yv rfl (O.ldOl rfl (.ptr rfl) F1.p rfl) ?_ | refine Ya (O.ldOl rfl (.ptr rfl) F1.p rfl) ?_ | refine Yv rfl (O.ldI (.iptr rfl) F1.p rfl) ?_ | refine Ya (O.ldI (.iptr rfl) F1.p rfl) ?_ | refine Yv rfl (O.ldOi rfl (.ptr rfl) F1.p rfl) ?_ | refine Ya (O.ldOi rfl (.ptr rfl) F1.p rfl) ?_ | refine Yv rfl (O.ldOl rfl (.obj rfl) F1.p rfl) ?_ | refine Ya (O.ldOl rfl (.obj rfl) F1.p rfl) ?_ | refine Yv rfl (O.ldOi rfl (.obj rfl) F1.p rfl) ?_ | refine Ya (O.ldOi rfl (.obj rfl) F1.p rfl) ?_ | refine Yv rfl (O.ldOo rfl (.ptr rfl) F1.p rfl) ?_ | refine Ya (O.ldOo rfl (.ptr rfl) F1.p rfl) ?_ | refine Yv rfl (O.ldOo rfl (.obj rfl) F1.p rfl) ?_ | refine Ya (O.ldOo rfl (.obj rfl) F1.p rfl) ?_))
  | ((with_reducible apply RunL.tg (.fieldAddr _ _ _) (some _)); (first | refine Yv rfl (O.fO rfl (.obj rfl) F4.p rfl) ?_ | refine Ya (O.fO rfl (.obj rfl) F4.p rfl) ?_ | refine Yv rfl (O.fI (.iptr rfl) F4.p) ?_ | refine Ya (O.fI (.iptr rfl) F4.p) ?_ | refine Yv rfl (O.fO rfl (.ptr rfl) F4.p rfl) ?_ | refine Ya (O.fO rfl (.ptr rfl) F4.p rfl) ?_))
  | ((with_reducible apply RunL.tg (.indexAddr _ _ _) (some _)); (first | refine Yv rfl (O.ixI (.imm rfl) (.lit rfl) F3.p (by assumption)) ?_ | refine Ya (O.ixI (.imm rfl) (.lit rfl) F3.p (by assumption)) ?_ | refine Yv rfl (O.ixI (.imm rfl) (.k rfl) F3.p (by assumption)) ?_ | refine Ya (O.ixI (.imm rfl) (.k rfl) F3.p (by assumption)) ?_))
  | ((with_reducible apply RunL.tg (.binOp .add _ _ _ _) (some _)); (first | refine Yv rfl (O.add (.lit rfl) (.k rfl)) ?_ | refine Ya (O.add (.lit rfl) (.k rfl)) ?_ | refine Yv rfl (O.add (.lit rfl) (.lit rfl)) ?_ | refine Ya (O.add (.lit rfl) (.lit rfl)) ?_ | refine Yv rfl (O.add (.k rfl) (.lit rfl)) ?_ | refine Ya (O.add (.k rfl) (.lit rfl)) ?_))
  | ((with_reducible apply RunL.tg (.binOp .lss _ _ _ _) (some _)); (first | refine Yv rfl (O.lss (.lit rfl) (.k rfl)) ?_ | refine Ya (O.lss (.lit rfl) (.k rfl)) ?_ | refine Yv rfl (O.lss (.lit rfl) (.lit rfl)) ?_ | refine Ya (O.lss (.lit rfl) (.lit rfl)) ?_ | refine Yv rfl (O.lss (.k rfl) (.lit rfl)) ?_ | refine Ya (O.lss (.k rfl) (.lit rfl)) ?_))
  | ((with_reducible apply RunL.tg (.binOp .eql _ _ _ _) (some _)); (first | refine Yv rfl (O.eql (.lit rfl) (.k rfl)) ?_ | refine Ya (O.eql (.lit rfl) (.k rfl)) ?_ | refine Yv rfl (O.eql (.lit rfl) (.lit rfl)) ?_ | refine Ya (O.eql (.lit rfl) (.lit rfl)) ?_ | refine Yv rfl (O.eql (.k rfl) (.lit rfl)) ?_ | refine Ya (O.eql (.k rfl) (.lit rfl)) ?_ | refine Yv rfl (O.eqS (.lit rfl) (.lit rfl)) ?_ | refine Ya (O.eqS (.lit rfl) (.lit rfl)) ?_ | refine Yv rfl (O.eqS (.lit rfl) (.k rfl)) ?_ | refine Ya (O.eqS (.lit rfl) (.k rfl)) ?_))
  | ((with_reducible apply RunL.tg (.binOp .neq _ _ _ _) (some _)); (first | refine Yv rfl (O.neq (.lit rfl) (.k rfl)) ?_ | refine Ya (O.neq (.lit rfl) (.k rfl)) ?_ | refine Yv rfl (O.neq (.lit rfl) (.lit rfl)) ?_ | refine Ya (O.neq (.lit rfl) (.lit rfl)) ?_ | refine Yv rfl (O.neq (.k rfl) (.lit rfl)) ?_ | refine Ya (O.neq (.k rfl) (.lit rfl)) ?_ | refine Yv rfl (O.neS (.lit rfl) (.lit rfl)) ?_ | refine Ya (O.neS (.lit rfl) (.lit rfl)) ?_ | refine Yv rfl (O.neS (.lit rfl) (.k rfl)) ?_ | refine Ya (O.neS (.lit rfl) (.k rfl)) ?_))
  | ((with_reducible apply RunL.tg (.binOp .geq _ _ _ _) (some _)); (first | refine Yv rfl (O.geq (.lit rfl) (.k rfl)) ?_ | refine Ya (O.geq (.lit rfl) (.k rfl)) ?_ | refine Yv rfl (O.geq (.lit rfl) (.lit rfl)) ?_ | refine Ya (O.geq (.lit rfl) (.lit rfl)) ?_ | refine Yv rfl (O.geq (.k rfl) (.lit rfl)) ?_ | refine Ya (O.geq (.k rfl) (.lit rfl)) ?_))
  | ((with_reducible apply RunL.tg (.binOp .gtr _ _ _ _) (some _)); (first | refine Yv rfl (O.gtr (.lit rfl) (.k rfl)) ?_ | refine Ya (O.gtr (.lit rfl) (.k rfl)) ?_ | refine Yv rfl (O.gtr (.lit rfl) (.lit rfl)) ?_ | refine Ya (O.gtr (.lit rfl) (.lit rfl)) ?_ | refine Yv rfl (O.gtr (.k rfl) (.lit rfl)) ?_ | refine Ya (O.gtr (.k rfl) (.lit rfl)) ?_))
  | ((with_reducible apply RunL.tg (.binOp .sub _ _ _ _) (some _)); (first | refine Yv rfl (O.sub (.lit rfl) (.k rfl)) ?_ | refine Ya (O.sub (.lit rfl) (.k rfl)) ?_ | refine Yv rfl (O.sub (.lit rfl) (.lit rfl)) ?_ | refine Ya (O.sub (.lit rfl) (.lit rfl)) ?_ | refine Yv rfl (O.sub (.k rfl) (.lit rfl)) ?_ | refine Ya (O.sub (.k rfl) (.lit rfl)) ?_))
  | ((with_reducible apply RunL.tg (.binOp .leq _ _ _ _) (some _)); (first | refine Yv rfl (O.leq (.lit rfl) (.k rfl)) ?_ | refine Ya (O.leq (.lit rfl) (.k rfl)) ?_ | refine Yv rfl (O.leq (.lit rfl) (.lit rfl)) ?_ | refine Ya (O.leq (.lit rfl) (.lit rfl)) ?_ | refine Yv rfl (O.leq (.k rfl) (.lit rfl)) ?_ | refine Ya (O.leq (.k rfl) (.lit rfl)) ?_))
  | ((with_reducible apply RunL.tg (.call { callee:=.builtin .len,args:=#[_],argTypes:=#[_] }) (some _)); (first | refine Yv rfl (O.lenI (.imm rfl) F3.p) ?_ | refine Ya (O.lenI (.imm rfl) F3.p) ?_ | refine Yv rfl (O.lenO (.brw rfl) F3.p) ?_ | refine Ya (O.lenO (.brw rfl) F3.p) ?_ | refine Yv rfl (O.lenO (.own rfl) F3.p) ?_ | refine Ya (O.lenO (.own rfl) F3.p) ?_ | refine Yv rfl (O.lenS (.lit rfl) F2.p) ?_ | refine Ya (O.lenS (.lit rfl) F2.p) ?_))
  | ((with_reducible apply RunL.tg (.unOp .not _ _) (some _)); (first | refine Yv rfl (O.not (.lit rfl)) ?_ | refine Ya (O.not (.lit rfl)) ?_))
  | ((with_reducible apply RunL.tg (.nilCheck _) (some _)); (first | refine Yv rfl (O.nlP (.ptr rfl)) ?_ | refine Ya (O.nlP (.ptr rfl)) ?_ | refine Yv rfl (O.nlI (.iptr rfl)) ?_ | refine Ya (O.nlI (.iptr rfl)) ?_ | refine Yv rfl (O.nlP (.obj rfl)) ?_ | refine Ya (O.nlP (.obj rfl)) ?_))
  | ((with_reducible apply RunL.tg (.index _ _ _) (some _)); (first | refine Yv rfl (O.at' (.lit rfl) (.lit rfl) F2.p (by assumption)) ?_ | refine Ya (O.at' (.lit rfl) (.lit rfl) F2.p (by assumption)) ?_)))
 | with_reducible apply RunL.apc
 | with_reducible apply RunL.apn))):RunL P N ops l g K:=h
theorem W.ax {id:Nat}{l:List Oper}{G:List (Nat × AV)}{Φ:Exit->Gst->Prop}(G1:List (Nat × AV)) (hk:Px .normal Φ G1) (h:RunL P N l.toArray l (get G) (fun g'=>Wk g' (get G1)):=by exact RunL.au):W P N (.region id l.toArray false) (get G) Φ:=W.rx G1 h hk
theorem W.ak {id:Nat}{l:List Oper}{G G1:List (Nat × AV)}{Φ:Exit->Gst->Prop}(ks:List Nat) (hk:Px .normal Φ G1) (h:RunL P N l.toArray l (get G) (Kk ks G1):=by exact RunL.au):W P N (.region id l.toArray false) (get G) Φ:=W.rk ks h hk
theorem W.az {id:Nat}{l:List Oper}{B:Code}{G:List (Nat × AV)}{Φ:Exit->Gst->Prop}(G1:List (Nat × AV)) (hk:W P N B (get G1) Φ) (h:RunL P N l.toArray l (get G) (fun g'=>Wk g' (get G1)):=by exact RunL.au):W P N (.seq (.region id l.toArray false) B) (get G) Φ:=W.rs G1 h hk
theorem W.aq {id:Nat}{l:List Oper}{B:Code}{G G1:List (Nat × AV)}{Φ:Exit->Gst->Prop}(ks:List Nat) (hk:W P N B (get G1) Φ) (h:RunL P N l.toArray l (get G) (Kk ks G1):=by exact RunL.au):W P N (.seq (.region id l.toArray false) B) (get G) Φ:=W.rq ks h hk
end
end Go.Own
namespace Go.Own
open Go
set_option linter.unusedSectionVars false
variable [TB]
section
variable {P:Program}{N:Rm}{G:List (Nat × AV)}{g':Gst}
theorem Pr {rs:List ResultVar}{ys xs:List AV}{res:AV}{outs:List (Option AV)}{n:Nat}(h:Rt2 P (get G) rs ys xs g') (he:resAV xs=res:=by rfl) (ho:Ots g' N.pins 0 outs:=by (repeat' first | exact .nil | refine .no ?_)) (hnd:(rs.filterMap fun | .cell t _=>some t | _=>none).Nodup:=by exact of_decide_eq_true (by kernel_rfl)) (hl:outs.length=n:=by rfl):Px .ret (FinW P N rs n outs res) G:=Px.fin (Fin.ro h he hnd ho hl (.inr rfl))
end
end Go.Own
namespace Go.Own
open Go
set_option linter.unusedSectionVars false
variable [TB]
section
variable {P:Program}{N:Rm}{G:List (Nat × AV)}{g':Gst}{S R:Type}
theorem bd {α β:Type}{x:Option α}{f:α->Option β}{r:β}{G:Prop}(h:x.bind f=some r) (k:∀ a,x=some a->f a=some r->G):G:=by
 obtain ⟨a,h1,h2⟩:=bnd h
 grind
theorem Rd.z1 {g:Gst}{t:Nat}{v:Value}(h:g t=some (.lit v):=by rfl):Rd g (.tmp t) (.lit v):=.lit h
theorem Rd.z2 {g:Gst}{t z n:Nat}{cs:List AV}(h:g t=some (.imm z n cs):=by rfl):Rd g (.tmp t) (.imm z n cs):=.imm h
theorem Rd.z3 {g:Gst}{t z n:Nat}{cs:List AV}(h:g t=some (.own z n cs):=by rfl):Rd g (.tmp t) (.brw z ⟨t,[]⟩ n):=.own h
theorem Rd.z4 {g:Gst}{t:Nat}{c:AV}{cs:List AV}(h:g t=some (.obj (c::cs)):=by rfl):Rd g (.tmp t) (.ptr ⟨t,[]⟩ 0):=.obj h
theorem Rd.z5 {g:Gst}{t k:Nat}{p:Place}(h:g t=some (.ptr p k):=by rfl):Rd g (.tmp t) (.ptr p k):=.ptr h
theorem Rd.z6 {g:Gst}{t z n:Nat}{p:Place}(h:g t=some (.brw z p n):=by rfl):Rd g (.tmp t) (.brw z p n):=.brw h
theorem Rd.z7 {g:Gst}{t:Nat}{cs:List AV}(h:g t=some (.iptr cs):=by rfl):Rd g (.tmp t) (.iptr cs):=.iptr h
theorem Rd.z8 {g:Gst}{v:Value}(h:ofConst v=.lit v:=by rfl):Rd g (.const v) (.lit v):=.k h
theorem Px.jt {G1:List (Nat × AV)}(h:Trim true (get G) (get G1) G1:=by (repeat' first | exact .nil | refine .n rfl ?_)):Px .normal (fun e g=>e=.normal/\Be g G1) G:=Px.jn h
theorem Px.gt {s:S}{F:S->List (Nat × AV)}{Ψ:R->Exit->Gst->Prop}(h:Trim true (get G) (get (F s)) (F s):=by (repeat' first | exact .nil | refine .n rfl ?_)):Px .normal (Rd2 F Ψ (.inl s)) G:=Px.go h
theorem Px.t1 {id:Nat}{r:R}{F:S->List (Nat × AV)}{Gx:R->List (Nat × AV)}(h:Trim true (get G) (get (Gx r)) (Gx r):=by (repeat' first | exact .nil | refine .n rfl ?_)):Px (.exit id) (Rd2 F (fun r e g=>e=.exit id/\Be g (Gx r)) (.inr r)) G:=Px.x1 h
theorem Pq {rs:List ResultVar}{ys xs:List AV}{res:AV}{outs:List (Option AV)}{n:Nat}(h:Rt2 P (get G) rs ys xs g':=by exact .f rfl rfl .nil) (he:resAV xs=res:=by rfl) (ho:Ots g' N.pins 0 outs:=by (repeat' first | exact .nil | refine .no ?_)) (hnd:(rs.filterMap fun | .cell t _=>some t | _=>none).Nodup:=by exact of_decide_eq_true (by kernel_rfl)) (hl:outs.length=n:=by rfl):Px .ret (FinW P N rs n outs res) G:=by grind [Pr]
end
end Go.Own
namespace Go.Own
open Go
set_option linter.unusedSectionVars false
variable [TB]
section
variable {α:Type}{P:Program}{g:Gst}{ty t:TypeId}{a b:Operand}{k r z n:Nat}{cs cs':List AV}{x y:AV}{p:Place}{m:Int}{ki:IntKind}{e:TypeId}{N:Rm}{ops:Array Oper}
theorem O.y1 {s' f off:Nat} [h:F4 P s' f off t] (hx:Rd g a (.ptr ⟨r,[]⟩ k):=by exact .obj rfl) (hs:g r=some (.obj cs):=by rfl) (hl:Nat.blt (k+off) cs.length=true:=by rfl):PS P g (.fieldAddr s' a f) ty (.ptr ⟨r,[]⟩ (k+off)):=O.fO hs hx h.p hl
theorem O.y2 {s' f off:Nat} [h:F4 P s' f off t] (hx:Rd g a (.ptr ⟨r,[]⟩ k):=by exact .ptr rfl) (hs:g r=some (.obj cs):=by rfl) (hl:Nat.blt (k+off) cs.length=true:=by rfl):PS P g (.fieldAddr s' a f) ty (.ptr ⟨r,[]⟩ (k+off)):=O.fO hs hx h.p hl
theorem O.y3 {v:Value} [h:F1 P t] (hx:Rd g a (.ptr ⟨r,[]⟩ k):=by exact .ptr rfl) (hs:g r=some (.obj cs):=by rfl) (hc:cs[k]?=some (.lit v):=by rfl):PS P g (.load t a) ty (.lit v):=O.ldOl hs hx h.p hc
theorem O.y4 {en:En α}{L:List α}{y:α}{z':Nat}(h:idx L m=some y) [h3:F3 P t e z'] (hx:Rd g a (.imm en.z L.length (rowc en L)):=by exact .imm rfl) (hy:Rd g b (.lit (.int ki m)):=by exact .lit rfl) (hz:z'=en.z:=by rfl):PS P g (.indexAddr t a b) ty (.iptr (en.cells y++rowc en (L.drop (m.toNat+1)))):=O.ixI hx hy (hz ▸ h3.p) h
theorem O.y5 [h:F1 P t] (hx:Rd g a (.ptr ⟨r,[]⟩ k):=by exact .ptr rfl) (hs:g r=some (.obj cs):=by rfl) (hc:cs[k]?=some x:=by rfl) (hy:refIn 0 ⟨r,[k]⟩ x=y:=by rfl):PS P g (.load t a) ty y:=O.ldO hs hx h.p hc hy
theorem O.y6 [h:F1 P t] (hx:Rd g a (.iptr cs):=by exact .iptr rfl) (hc:cs.head?=some x:=by rfl):PS P g (.load t a) ty x:=O.ldI hx h.p hc
theorem O.y8 {s' f off:Nat} [h:F4 P s' f off t] (hx:Rd g a (.iptr cs):=by exact .iptr rfl):PS P g (.fieldAddr s' a f) ty (.iptr (cs.drop off)):=O.fI hx h.p
theorem O.y9 {z':Nat} [h:F3 P t e z'] (hx:Rd g a (.imm z n cs):=by exact .imm rfl):PS P g (.call { callee:=.builtin .len,args:=#[a],argTypes:=#[t] }) ty (I64 n):=O.lenI hx h.p
theorem PC.gz {xs:List Operand}{tys:Array TypeId}{f:FuncId}{ys:List AV}{outs:List (Option AV)}{res:AV}(hx:Opds g xs ys) (hcon:Con P f ys outs res) [hr:NRc res] (hf:callT P f=true:=by kernel_rfl) (ho:noneB outs=true:=by rfl):PC P g (.call { callee:=.value (.func f),args:=xs.toArray,argTypes:=tys }) res:=by grind [PC.go]
theorem PC.vz {xs:List Operand}{tys:Array TypeId}{f:FuncId}{ys args:List AV}{outs:List (Option AV)}{res:AV}(hx:opds g xs=some ys) (hv:VwL g ys args) (hcon:Con P f args outs res) [hr:OOc res] (hf:callT P f=true:=by kernel_rfl) (ho:noneB outs=true:=by rfl):PC P g (.call { callee:=.value (.func f),args:=xs.toArray,argTypes:=tys }) res:=by grind [PC.vw]
end
section
variable {P:Program}{N:Rm}{ops:Array Oper}{AT:List (List Nat)}{K:Gst->Prop}{i:Nat}{acc:Acc}{l:List Oper}{d:Nat}
theorem DL.bpz (j0:Nat) {G G2:List (Nat × AV)}{o:Oper}(he:EO P N (visG (get G) (fun _=>true) acc) o (get G2)) (hk:DL P N ops AT (get G2) (j0+1) [] l K) (hg:o.guard=none:=by rfl) (hpd:ndr ((acc.filterMap pendPlace).map Place.root)=true:=by rfl) (hp0:npB G=true:=by rfl) (hj:Nat.beq ops.size (j0+l.length+1)=true:=by rfl) (ha:(List.range j0).all (fun k=>(AT.getD j0 []).contains k)=true:=by kernel_rfl) (hb:(List.range ops.size).all (fun k=>Nat.ble k j0||(AT.getD k []).contains j0)=true:=by kernel_rfl):DL P N ops AT (get G) i acc (o::l) K:=.bp j0 he hg hpd hp0 hj ha hb hk
theorem DL.bvz (j0:Nat) {G G2:List (Nat × AV)}{o:Oper}{x:AV}(he:EO P N (visG (get G) (fun _=>true) acc) o (upd (get G2) d x)) (hk:DL P N ops AT (get ((d,x)::G2)) (j0+1) [] l K) (hg:o.guard=none:=by rfl) (hpd:ndr ((acc.filterMap pendPlace).map Place.root)=true:=by rfl) (hp0:npB G=true:=by rfl) (hj:Nat.beq ops.size (j0+l.length+1)=true:=by rfl) (ha:(List.range j0).all (fun k=>(AT.getD j0 []).contains k)=true:=by kernel_rfl) (hb:(List.range ops.size).all (fun k=>Nat.ble k j0||(AT.getD k []).contains j0)=true:=by kernel_rfl):DL P N ops AT (get G) i acc (o::l) K:=.bv j0 he hg hpd hp0 hj ha hb hk
end
end Go.Own
namespace Go.Own
open Go
set_option linter.unusedSectionVars false
variable [TB]
set_option linter.unusedVariables false
def splo:List AV->Nat->List AV->Option (List AV)
 | [],0,[]=>some []
 | [],_,_=>none
 | x::l,0,[]=>some (x::l)
 | _::l,0,y::c=>match splo l 0 c with
  | some r=>some (y::r)
  | none=>none
 | x::l,k+1,c=>match splo l k c with
  | some r=>some (x::r)
  | none=>none
theorem splo_eq:∀ {l:List AV}{k:Nat}{c r:List AV},splo l k c=some r->splice l k c=r/\k+c.length<=l.length
 | [],0,[],r,h=>by cases h; exact ⟨rfl,Nat.le_refl _⟩
 | [],0,_::_,_,h=>by cases h
 | [],_+1,_,_,h=>by cases h
 | x::l,0,[],r,h=>by cases h; exact ⟨by simp [splice],by simp⟩
 | x::l,0,y::c,r,h=>by
  unfold splo at h
  split at h
  ·rename_i r' hr
   cases h
   obtain ⟨h1,h2⟩:=splo_eq hr
   subst h1
   exact ⟨by simp [splice],by simp at h2 ⊢; omega⟩
  ·cases h
 | x::l,k+1,c,r,h=>by
  unfold splo at h
  split at h
  ·rename_i r' hr
   cases h
   obtain ⟨h1,h2⟩:=splo_eq hr
   subst h1
   exact ⟨by simp [splice,Nat.add_right_comm],by simp; omega⟩
  ·cases h
theorem pick_trS {g g2:Gst}{r:Nat}{cs2:List AV}:∀ {ks:List Nat}{G1:List (Nat × AV)},pick (upd g r (.obj cs2)) ks=some G1->(∀ e∈G1,NR e.2)->TrS g g2 r cs2 G1
 | [],_,h,_=>by cases h; exact .nil
 | k::ks,G1,h,hn=>by
  unfold pick at h
  split at h
  ·rename_i x hx
   split at h
   ·rename_i l hl
    cases h
    have ht:=pick_trS (g2:=g2) hl fun e he=>hn e (by simp [he])
    by_cases e:k=r
    ·subst e
     have e:x=.obj cs2:=by simpa [upd] using hx.symm
     subst e
     have hx:NR (.obj cs2):=hn (k,.obj cs2) (by simp)
     have:NRl cs2:=⟨by cases hx; assumption⟩
     exact .b rfl ht
    ·have:NRc x:=⟨hn (k,x) (by simp)⟩
     exact .n (by rw [<- Bool.not_eq_true,Nat.beq_eq]; exact e) (by simpa [upd,e] using hx) ht
   ·cases h
  ·cases h
theorem pick_trK {g g2:Gst}{ex:List Nat}:∀ {ks:List Nat}{G1:List (Nat × AV)},pick g ks=some G1->(ks.all fun k=>!ex.elem k)=true->(∀ e∈G1,NR e.2)->TrK ex g g2 G1
 | [],_,h,_,_=>by cases h; exact .nil
 | k::ks,G1,h,he,hn=>by
  unfold pick at h
  rw [List.all_cons,Bool.and_eq_true] at he
  split at h
  ·rename_i x hx
   split at h
   ·rename_i l hl
    cases h
    have:NRc x:=⟨hn (k,x) (by simp)⟩
    exact .n (by simpa using he.1) hx (pick_trK hl he.2 fun e h=>hn e (by simp [h]))
   ·cases h
  ·cases h
def nfl:List AV->Option (List AV)
 | []=>some []
 | x::l=>match nfl l with
  | some r=>some (x::r)
  | none=>none
theorem nfl_eq:∀ {l r:List AV},nfl l=some r->l=r
 | [],r,h=>by cases h; rfl
 | x::l,r,h=>by
  unfold nfl at h
  split at h
  ·rename_i r' hr
   cases h; rw [nfl_eq hr]
  ·cases h
def nfo:AV->Option AV
 | .obj cs=>match nfl cs with
  | some r=>some (.obj r)
  | none=>none
 | .own z n cs=>some (.own z n cs)
 | _=>none
theorem nfo_eq {x y:AV}(h:nfo x=some y):x=y:=by
 unfold nfo at h
 grind [nfl_eq]
theorem pick_trX {g g2:Gst}{r:Nat}{x2:AV}:∀ {ks:List Nat}{G1:List (Nat × AV)},pick (upd g r x2) ks=some G1->(∀ e∈G1,NR e.2)->TrX g g2 r x2 G1
 | [],_,h,_=>by cases h; exact .nil
 | k::ks,G1,h,hn=>by
  unfold pick at h
  split at h
  ·rename_i x hx
   split at h
   ·rename_i l hl
    cases h
    have ht:=pick_trX (g2:=g2) hl fun e he=>hn e (by simp [he])
    by_cases e:k=r
    ·subst e
     have e:x=x2:=by simpa [upd] using hx.symm
     subst e
     have:NRc x:=⟨hn (k,x) (by simp)⟩
     exact .b rfl ht
    ·have:NRc x:=⟨hn (k,x) (by simp)⟩
     exact .n (by rw [<- Bool.not_eq_true,Nat.beq_eq]; exact e) (by simpa [upd,e] using hx) ht
   ·cases h
  ·cases h
section
variable {P:Program}{N:Rm}{ops:Array Oper}{g:Gst}{K:Gst->Prop}{l:List Oper}{d r k0:Nat}{ty t:TypeId}{pos:String}{after:Array Edge}{a b x:Operand}{cs cs' cs2:List AV}{y:AV}{G2:List (Nat × AV)}{u:Option (Nat × Bool)}{p q:Place}
theorem Rd.zi {α:Type}{en:En α}{L:List α}{t:Nat}(h:g t=some (iR en L)):Rd g (.tmp t) (iR en L):=.imm h
theorem EO.sva (ks:List Nat) (ha:Rd g a (.ptr ⟨r,[]⟩ k0):=by (first | exact .obj rfl | exact .ptr rfl)) (hs:g r=some (.obj cs):=by rfl) (hb:Rd g b (.agg cs'):=by (first | exact .aggF rfl rfl | exact .kagg rfl)) (he:splo cs k0 cs'=some cs2:=by rfl) (hp:pick (upd g r (.obj cs2)) ks=some G2:=by rfl) (hz:sizeT P t cs'.length=true:=by kernel_rfl) (h0:Nat.blt 0 cs'.length=true:=by rfl) (hr:(get G2 r).isSome=true:=by rfl) [hn:NRl cs'] [hno:NRl cs] [hg:NRg G2]:EO P N g ⟨none,.store t a b,ty,pos,after,none⟩ (get G2) :=
 .sO rfl rfl hs ha hb rfl hz (Nat.ble_eq_true_of_le (splo_eq he).2) h0 (splo_eq he).1 hr (pick_trS hp hg.p)
theorem EO.sv1 (ks:List Nat) (ha:Rd g a (.ptr ⟨r,[]⟩ k0):=by (first | exact .ptr rfl | exact .obj rfl)) (hs:g r=some (.obj cs):=by rfl) (hb:Rd g b y:=by (first | exact .lit rfl | exact .k rfl | exact .zi rfl | exact .knil | exact .imm rfl)) (hc:cellsP y=some [y]:=by rfl) (he:splo cs k0 [y]=some cs2:=by rfl) (hp:pick (upd g r (.obj cs2)) ks=some G2:=by rfl) (hz:sizeT P t 1=true:=by kernel_rfl) (hr:(get G2 r).isSome=true:=by rfl) [hn:NRc y] [hno:NRl cs] [hg:NRg G2]:EO P N g ⟨none,.store t a b,ty,pos,after,none⟩ (get G2) :=
 .sO rfl rfl hs ha hb hc hz (Nat.ble_eq_true_of_le (splo_eq he).2) rfl (splo_eq he).1 hr (pick_trS hp hg.p)
theorem EO.ar {α:Type}{en:En α}{L:List α}(ks:List Nat) (hx:Rd g x (.brw en.z p L.length):=by (first | exact .own rfl | exact .brw rfl)) (hp:atP g p=some (oR en L):=by rfl) (hk:pick g ks=some G2:=by rfl) (hne:(ks.all fun k=>![p.root].elem k)=true:=by rfl) (hg:get G2 d=none:=by rfl) (hN:N.ok d=true:=by rfl) [hn:NRg G2]:EO P N g ⟨some d,.assign x,ty,pos,after,u⟩ (upd (get G2) d (oR en L)) :=
 .aR rfl rfl hx hp (pick_trK hk hne hn.p) hg hN
theorem EO.apq {α:Type}{en:En α}{L M:List α}{s:Nat}(ks:List Nat) (hx:Rd g x (.brw en.z ⟨s,[]⟩ (L.length+M.length)):=by exact .pend rfl) (hs:g s=some (.pend en.z q L.length M.length (rowc en M)):=by rfl) (hp:atP g q=some (oR en L):=by rfl) (hk:pick g ks=some G2:=by rfl) (hne:(ks.all fun k=>![s,q.root].elem k)=true:=by rfl) (hq:Nat.beq q.root s=false:=by rfl) (hg:get G2 d=none:=by rfl) (hN:N.ok d=true:=by rfl) [hn:NRg G2]:EO P N g ⟨some d,.assign x,ty,pos,after,u⟩ (upd (get G2) d (oR en (L++M))) :=
 .aP rfl rfl hx hs hp hq (pick_trK hk hne hn.p) hg hN
theorem EO.sp {α:Type}{en:En α}{L M:List α}{s:Nat}{cs1:List AV}(ks:List Nat) (hb:Rd g b (.brw en.z ⟨s,[]⟩ (L.length+M.length)):=by exact .pend rfl) (hps:g s=some (.pend en.z q L.length M.length (rowc en M)):=by rfl) (hp:atP g q=some (oR en L):=by rfl) (ha:Rd g a (.ptr ⟨r,[]⟩ k0):=by (first | exact .ptr rfl | exact .obj rfl)) (hs:setP (setP g ⟨s,[]⟩ .dead) q .dead r=some (.obj cs1):=by rfl) (he:splo cs1 k0 [oR en (L++M)]=some cs2:=by rfl) (hk:pick (upd (setP (setP g ⟨s,[]⟩ .dead) q .dead) r (.obj cs2)) ks=some G2:=by rfl) (hq:Nat.beq q.root s=false:=by rfl) (hz:sizeT P t 1=true:=by kernel_rfl) (hr:(get G2 r).isSome=true:=by rfl) [hno:NRl cs1] [hg:NRg G2]:EO P N g ⟨none,.store t a b,ty,pos,after,none⟩ (get G2) :=
 .stP rfl rfl ha hb hps hp hq .ns .rf rfl rfl hz hs (Nat.ble_eq_true_of_le (splo_eq he).2) (splo_eq he).1 hr (pick_trS hk hg.p)
theorem EO.sw {α:Type}{en:En α}{L:List α}{cs1:List AV}(ks:List Nat) (hb:Rd g b (.brw en.z p L.length):=by (first | exact .own rfl | exact .brw rfl)) (hp:atP g p=some (oR en L):=by rfl) (ha:Rd g a (.ptr ⟨r,[]⟩ k0):=by (first | exact .ptr rfl | exact .obj rfl)) (hs:setP g p .dead r=some (.obj cs1):=by rfl) (he:splo cs1 k0 [oR en L]=some cs2:=by rfl) (hk:pick (upd (setP g p .dead) r (.obj cs2)) ks=some G2:=by rfl) (hz:sizeT P t 1=true:=by kernel_rfl) (hr:(get G2 r).isSome=true:=by rfl) [hno:NRl cs1] [hg:NRg G2]:EO P N g ⟨none,.store t a b,ty,pos,after,none⟩ (get G2) :=
 .stB rfl rfl ha hb (.r hp .nil) .refl rfl hz hs (Nat.ble_eq_true_of_le (splo_eq he).2) rfl (splo_eq he).1 hr (pick_trS hk hg.p)
theorem EO.se {α:Type}{en:En α}{L:List α}{yy y2:α}{m:Int}{o:Nat}{x0 x2 y0:AV}(ks:List Nat) (h:idx L m=some yy) (ha:Rd g a (.ptr p (m.toNat * en.z+o)):=by exact .ptr rfl) (hp:atP g p=some (oR en L):=by rfl) (hb:Rd g b y:=by (first | exact .lit rfl | exact .k rfl | exact .zi rfl | exact .knil | exact .imm rfl | exact .aggF rfl rfl)) (hc:cellsP y=some cs':=by rfl) (he:splice (en.cells yy) o cs'=en.cells y2:=by rfl) (hx0:setP g p (oR en (L.set m.toNat y2)) p.root=some x0:=by rfl) (hx2:nfo x0=some x2:=by rfl) (hk:pick (upd g p.root x2) ks=some G2:=by rfl) (hz:sizeT P t cs'.length=true:=by kernel_rfl) (hlen:Nat.ble (o+cs'.length) en.z=true:=by rfl) (h0:Nat.blt 0 cs'.length=true:=by rfl) (hr:(get G2 p.root).isSome=true:=by rfl) (hy0:g p.root=some y0:=by rfl) [hn:NRc y] [hno:NRc y0] [hg:NRg G2]:EO P N g ⟨none,.store t a b,ty,pos,after,none⟩ (get G2) :=
 .stE rfl rfl ha hb hp h hz hc he hlen h0 (by rw [hx0,nfo_eq hx2]) hr hy0 (pick_trX hk hg.p)
theorem RunL.f' {o:Oper}(he:EO P N g o (get G2)) (hk:RunL P N ops l (get G2) K) (hg:o.guard=none:=by rfl):RunL P N ops (o::l) g K:=.ef hg he hk
theorem RunL.a' {o:Oper}(he:EO P N g o (upd (get G2) d y)) (hk:RunL P N ops l (upd (get G2) d y) K) (hg:o.guard=none:=by rfl):RunL P N ops (o::l) g K:=.ea hg he hk
end
section
variable {S R:Type}{P:Program}{N:Rm}{A B c:Code}{G:List (Nat × AV)}{Φ:Exit->Gst->Prop}{id:Nat}
theorem W.jq {G1:List (Nat × AV)}(ks:List Nat) (L:List (Nat × AV)) (h:W P N c (get G) fun e g=>e=.normal/\Be g G1) (hk:Px .normal Φ G1) (hp:pick (get (L++G)) ks=some G1:=by rfl):W P N c (get G) Φ:=W.jn _ h hk
theorem W.rz {G1:List (Nat × AV)}{l:List Oper}(ks:List Nat) (L:List (Nat × AV)) (h:RunL P N l.toArray l (get G) fun g'=>Wk g' (get G1)) (hk:W P N B (get G1) Φ) (hp:pick (get (L++G)) ks=some G1:=by rfl):W P N (.seq (.region id l.toArray false) B) (get G) Φ:=W.rs _ h hk
theorem W.l1 {f:S->Option (S ⊕ R)}{r:R}{F':S->List (Nat × AV)}{X':R->List (Nat × AV)}(s:S) (F:S->List (Nat × AV)) (ks:List Nat) (id:Nat) (X:R->List (Nat × AV)) (kx:List Nat) (h:loopM f s=some r) (hb:∀ s o,f s=some o->W P N c (get (F' s)) (Rd2 F' (fun r e g=>e=.exit id/\Be g (X' r)) o)) (hk:Px (.exit id) Φ (X' r))
  (hF:∀ s,pick (get (F s++G)) ks=some (F' s):=by intro s; rfl) (hX:∀ s,pick (get (X s++G)) kx=some (X' s):=by intro s; rfl) (ht:Trim true (get G) (get (F' s)) (F' s):=by (repeat' first | exact .nil | refine .n rfl ?_ | refine .w rfl rfl .nilOwn ?_ | refine .w rfl rfl .nilImm ?_ | refine .w rfl rfl (WkL.obj (by (repeat' first | exact .nil | refine .f ?_ | refine .o ?_ | refine .i ?_))) ?_)):W P N (.loop c) (get G) Φ :=
 W.tr ht (W.lp1 F' id X' h hb hk)
theorem W.l2 {R2:Type}{f:S->Option (S ⊕ (R ⊕ R2))}{r:R ⊕ R2}{F':S->List (Nat × AV)}{X':R->List (Nat × AV)}{Y':R2->List (Nat × AV)}(s:S) (F:S->List (Nat × AV)) (ks:List Nat) (id:Nat) (X:R->List (Nat × AV)) (kx:List Nat) (Y:R2->List (Nat × AV)) (ky:List Nat) (h:loopM f s=some r)
  (hb:∀ s o,f s=some o->W P N c (get (F' s)) (Rd2 F' (fun (r:R ⊕ R2) e g=>match r with | .inl r=>e=.exit id/\Be g (X' r) | .inr r=>e=.ret/\Be g (Y' r)) o))
  (hx:∀ x,r=.inl x->Px (.exit id) Φ (X' x)) (hr:∀ x,r=.inr x->Px .ret Φ (Y' x))
  (hF:∀ s,pick (get (F s++G)) ks=some (F' s):=by intro s; rfl) (hX:∀ s,pick (get (X s++G)) kx=some (X' s):=by intro s; rfl) (hY:∀ s,pick (get (Y s++G)) ky=some (Y' s):=by intro s; rfl) (ht:Trim true (get G) (get (F' s)) (F' s):=by (repeat' first | exact .nil | refine .n rfl ?_ | refine .w rfl rfl .nilOwn ?_ | refine .w rfl rfl .nilImm ?_ | refine .w rfl rfl (WkL.obj (by (repeat' first | exact .nil | refine .f ?_ | refine .o ?_ | refine .i ?_))) ?_)):W P N (.loop c) (get G) Φ :=
 W.tr ht (W.lp2 F' id X' Y' h hb hx hr)
end
end Go.Own
namespace Go.Own
open Go
set_option linter.unusedSectionVars false
variable [TB]
section
variable {P:Program}{N:Rm}{g g1 g2:Gst}{d:Nat}{t e:TypeId}{s x:Operand}{z b n m:Nat}{p:Place}{y:AV}{cells cs':List AV}
theorem EO.apT {o:Oper}(ho:o.op=.call { callee:=.builtin .append,args:=#[s,x],argTypes:=#[t,t] }) (hd:o.dst=some d) (hs:opd g s=some (.brw z p n))
  (hx:opd g x=some y) (hsrc:Src g y z m cells) (hfl:∀ c∈cells,NR c) (ht:appT P t e z b=true) (h63:n+m<=4611686018427387904) (hb:(n+m) * b<=140737488355328)
  (hT:Take g [.brw z p n] [.own z n cs'] g1) (hk:Keep g1 g2) (hg:g2 d=none) (hN:N.ok d=true):EO P N g o (upd g2 d (.own z (n+m) (cs'++cells))):=by
 refine .sem fun w I T Fs h a ha hNs K Q hK=>?_
 have hRs:=opd_sound h hs ha
 obtain ⟨i,zv,hu,hi,rfl,rfl,h0,hz,hzs⟩:=appT_spec ht
 obtain ⟨sa,sc,news,hsv,hl,hsa,hsn,hcs⟩:=hsrc.sound h (opd_sound h hx ha)
 obtain ⟨Fs1,H1,hS0,hH0,hall⟩:=hT.sound h.toC (Hand.one hRs)
 have hnr0:=hT.nrOut _ (List.mem_singleton.2 rfl)
 have hRo:=hH0.rel0
 have hoff:=hH0.off 0
 have himm:=fun c=>hH0.imm 0 c (by simp)
 have hnrc:∀ c∈cs',NR c:=by
  cases hnr0 with | own h=>exact h
 generalize hbv:a.eval s=bv at *
 cases hRo with
 | ref hx=>simp [AV.isRef] at hx
 | @own _ _ _ _ e' us Fk _ hob hl1 h1 hr hd1 hb1 hF =>
  obtain ⟨v',w',e2,hrun,A⟩:=run_app (P:=P) (w:=w) t o.type e e' i zv hu hi hz hzs h0 hob (a:=sa) (c:=sc) (m:=m) (news:=news) (fun hm=>hsa hm h0) hl hsn (fun u hu=>by
   obtain ⟨k,hk,rfl⟩:=List.mem_iff_getElem.1 hu
   exact hcs.2.1 k _ (List.getElem?_eq_getElem hk)) (by unfold maxLen; omega) hb
  have hU1:∀ t c,Fs1 t c->∃ t,Fs t c:=fun t c hc=>by
   rcases hall c (.inl ⟨t,hc⟩) with h' | ⟨_,_,h'⟩
   ·exact h'
   ·exact h'.elim
  have hUH:∀ c,H1 0 c->∃ t,Fs t c:=fun c hc=>by
   rcases hall c (.inr ⟨0,by simp,hc⟩) with h' | ⟨_,_,h'⟩
   ·exact h'
   ·exact h'.elim
  have hbH:∀ c,bv.ownBlock=some c->H1 0 c:=fun c hc=>(hF c).2 (.inl hc)
  have hkH:∀ k c,k<cs'.length->Fk k c->H1 0 c:=fun k c hk hc=>(hF c).2 (.inr ⟨k,hk,hc⟩)
  have hlt:∀ c,(∃ t,Fs t c)->c<w.heap.size:=fun c ⟨t,hc⟩=>h.ltF t c hc
  have hS2:=(hS0.keep hk).world (w':=w') (fun t c hc=>A.fr.block c (hlt c (hU1 t c hc.2)) fun hb=>hoff t c (by simp) (hbH c hb) hc.2)
   (fun c hc=>A.fr.block c (h.lt c hc) fun hb=>himm c (hbH c hb) hc) A.fr.size
  have hR':R w' I (RG w' T g2) (.own i.size (n+m) (cs'++cells)) v' (fun c=>v'.ownBlock=some c\/∃ k,k<(cs'++cells).length/\(if k<cs'.length then Fk k else E0) c):=by
   refine .own A.new (by rw [List.length_append,List.length_append,hl1,hcs.1]) (fun k u hu=>?_) (fun k x u hx hu=>?_) (fun j k c hj hk hc hc'=>?_) (fun k c hk hc=>?_) fun c=>Iff.rfl
   ·by_cases hk:k<us.length
    ·rw [List.getElem?_append_left hk] at hu; exact h1 k u hu
    ·rw [List.getElem?_append_right (by omega)] at hu; exact hcs.2.1 _ u hu
   ·by_cases hk:k<cs'.length
    ·rw [List.getElem?_append_left hk] at hx
     rw [List.getElem?_append_left (by omega)] at hu
     rw [if_pos hk]
     refine (((hr k x u hx hu).nr (hnrc x (List.mem_of_getElem? hx))).frame (fun c hc=>A.fr.block c (h.lt c hc) fun hb=>himm c (hbH c hb) hc) (fun _ h=>h) fun _ _ h=>h) fun c hc=>A.fr.block c (hlt c (hUH c (hkH k c hk hc))) fun hb=>hb1 k c hk hc hb
    ·rw [List.getElem?_append_right (by omega)] at hx
     rw [List.getElem?_append_right (by omega),<- hl1] at hu
     rw [if_neg hk]
     exact (((hcs.2.2 _ x u hx hu).nr (hfl x (List.mem_of_getElem? hx))).frame (fun c hc=>A.fr.block c (h.lt c hc) fun hb=>himm c (hbH c hb) hc) (fun _ h=>h) fun _ _ h=>h) fun c hc=>hc.elim
   ·split at hc
    ·rename_i h1'
     split at hc'
     ·rename_i h2'
      exact hd1 j k c h1' h2' hc hc'
     ·exact hc'.elim
    ·exact hc.elim
   ·split at hc
    ·rename_i h1'
     intro hb
     rcases A.blk c hb with hb' | hb'
     ·exact hb1 k c h1' hc hb'
     ·have:=hlt c (hUH c (hkH k c h1' hc)); omega
    ·exact hc.elim
  have hFc:∀ c,(v'.ownBlock=some c\/∃ k,k<(cs'++cells).length/\(if k<cs'.length then Fk k else E0) c)->H1 0 c\/w.heap.size<=c:=by
   rintro c (hc | ⟨k,_,hc⟩)
   ·exact (A.blk c hc).imp (hbH c) id
   ·split at hc
    ·rename_i h1'
     exact .inl (hkH k c h1' hc)
    ·exact hc.elim
  have hput:=hS2.put0 (d:=d) (x:=.own i.size (n+m) (cs'++cells)) (v:=v') hg (by rw [<- ha,hNs]; exact Rm.lt hN) (.tree hR') (fun t c hc hf=>by
   rcases hFc c hc with h' | h'
   ·exact hoff t c (by simp) h' hf.2
   ·have:=hlt c (hU1 t c hf.2); omega) (fun c hc hi=>by
   rcases hFc c hc with h' | h'
   ·exact himm c h' hi
   ·have:=h.lt c hi; omega) (by intro z p n m new e; cases e)
  have hrun2:(execOp a.eval o).run P w=.ok (.value v') w':=by simp [execOp,ho,resolve,invoke,builtin,hbv,hsv,hrun]
  unfold Oper.wp Oper.upon
  simp only [hrun2]
  refine hK _ _ ⟨by rw [hd]; rfl,by rw [hd]; exact Hold.put hN _ _,I,_,by rw [hd]; simpa [Act.put,ha] using hput,⟨A.fr.mono fun c _ hc=>hUH c (hbH c hc),fun _ h=>h,fun _ h=>.inl h,fun c hc=>?_⟩⟩ fun t ht=>by rw [hd]; simp only [Act.put]; rw [Array.getElem?_setIfInBounds_ne]; rintro rfl; exact ht hd
  rcases upd_updF hc with ⟨t,_,h'⟩ | h'
  ·exact .inl (hU1 t c h')
  ·exact (hFc c (by rw [List.length_append]; exact h')).imp (hUH c) id
theorem take_pre {α:Type}{en:En α}{L:List α}{r f k:Nat}{cs:List AV}(hr:g r=some (.obj cs)) (hf:cs[f]?=some (oR en L)) (hk:k<=L.length) :
  Take g [.brw en.z ⟨r,[f]⟩ k] [.own en.z k (rowc en (L.take k))] (setP g ⟨r,[f]⟩ .dead):=by
 have hp:atP g ⟨r,[f]⟩=some (oR en L):=by simp [atP,hr,AV.at,AV.kids,hf]
 refine .brw hp hk ?_ (.nr (by simp))
 rw [rowc_take]
 exact .nr (rowc_nr en _)
theorem EO.apF {α:Type}{en:En α}{L M r2:List α}{f k b0 r:Nat}{cs cs2:List AV}{G2:List (Nat × AV)}{o:Oper}(ho:o.op=.call { callee:=.builtin .append,args:=#[s,x],argTypes:=#[t,t] }) (hd:o.dst=some d) (hs:Rd g s (.brw en.z ⟨r,[f]⟩ k)) (hr:g r=some (.obj cs)) (hf:cs[f]?=some (oR en L)) (hk:k<=L.length)
  (hx:Rd g x y) (hm:Sr g en y M) (ht:appT P t e en.z b0=true) (hb:Nat.ble b0 128=true) (h:appO (L.take k) M=some r2) (he:cs.set f .dead=cs2) (hG:TrX g (get G2) r (.obj cs2) G2) (hgd:get G2 d=none) (hN:N.ok d=true):EO P N g o (get ((d,oR en r2)::G2)):=by
 have hkl:(L.take k).length=k:=by rw [List.length_take]; omega
 obtain ⟨h1,h2,h3⟩:=app_bound h hb
 rw [hkl] at h1 h2
 have hkeep:Keep (setP g ⟨r,[f]⟩ .dead) (get G2):=hG.keep (fun t ht=>setP_out ht) (by rw [<- he]; simp [setP,hr,AV.setAt,AV.setKid,AV.kids,hf])
 have:=EO.apT (n:=k) (m:=M.length) ho hd hs.opd hx.opd hm.src (rowc_nr en M) ht h1 h2 (take_pre hr hf hk) hkeep hgd hN
 rw [get_cons] at this
 subst h3
 have e:AV.own en.z (k+M.length) (rowc en (L.take k)++rowc en M)=oR en (L.take k++M):=by
  rw [<- oR_app]
  show _=AV.own en.z ((L.take k).length+M.length) _
  rw [hkl]
 rw [e] at this
 exact this
theorem EO.trF {α:Type}{en:En α}{L:List α}{f k r:Nat}{cs cs1 cs2:List AV}{G2:List (Nat × AV)}{o:Oper}(ho:o.op=.store t s x) (hd:o.dst=none) (ha:Rd g s (.ptr ⟨r,[]⟩ f)) (hs:Rd g x (.brw en.z ⟨r,[f]⟩ k)) (hr:g r=some (.obj cs)) (hf:cs[f]?=some (oR en L)) (hk:k<=L.length)
  (hz:sizeT P t 1=true) (hc1:cs.set f .dead=cs1) (he:splice cs1 f [oR en (L.take k)]=cs2) [hno:NRl cs1] (hroot:(get G2 r).isSome=true) (hG:TrS (setP g ⟨r,[f]⟩ .dead) (get G2) r cs2 G2):EO P N g o (get G2):=by
 have hkl:(L.take k).length=k:=by rw [List.length_take]; omega
 have h1:setP g ⟨r,[f]⟩ .dead r=some (.obj cs1):=by rw [<- hc1]; simp [setP,hr,AV.setAt,AV.setKid,AV.kids,hf]
 have hlt:f<cs.length:=(List.getElem?_eq_some_iff.1 hf).1
 have e:AV.own en.z k (rowc en (L.take k))=oR en (L.take k):=by
  show _=AV.own en.z (L.take k).length _
  rw [hkl]
 subst he
 refine .store ho hd ha.opd hs.opd (e ▸ take_pre hr hf hk) .refl (cs':=[oR en (L.take k)]) rfl hz (p:=⟨r,[]⟩) (nd:=.obj cs1) (z:=0) (n:=0) (by simp [atP,h1,AV.at]) (.inr rfl) (by rw [<- hc1]; simp; omega) (by simp) (fun t x hx=>?_) (fun t x hx y hy=>?_) (fun t z q n m new hx=>?_) (by intro e; rw [e] at hroot; cases hroot)
 ·rcases hG.spec t x hx with ⟨h1,h2,_⟩ | ⟨h1,h2,_⟩
  all_goals grind [setP,AV.setAt,AV.splice]
 ·rcases hG.spec t x hx with ⟨h1,h2,h3⟩ | ⟨h1',h2,h3⟩
  ·rw [h2] at hy
   cases hy
   exact h3.rkp
  ·subst h1'
   rw [h1] at hy
   cases hy
   exact .nr (.obj hno.nr)
 ·rcases hG.spec t _ hx with ⟨_,_,h3⟩ | ⟨_,h2,_⟩
  ·exact h3.np _ _ _ _ _ rfl
  grind
theorem RK.brwN {α:Type}{en:En α}{L:List α}(hp:atP g p=some (oR en L)) (hn:n<=L.length):RK g (.brw en.z p n):=.ref rfl (.inl ⟨_,_,hp,hn⟩)
def delG (g:Gst) (t:Nat):Gst:=fun s=>if s=t then none else g s
theorem upd_delG {t:Nat}{x:AV}(hg:g t=some x):upd (delG g t) t x=g:=by
 funext s
 unfold upd delG
 by_cases e:s=t
 ·rw [if_pos e,e,hg]
 ·rw [if_neg e,if_neg e]
theorem EffV.back {rs:Place->Prop}{t:Nat}{x:AV}{o:Oper}{G5:List (Nat × AV)}(h:EffV P N rs (delG g t) o (get G5)) (hrs:∀ p,rs p->delG g t p.root≠none) (hg:g t=some x) (hg1:get G5 t=none) (ht:o.dst≠some t) (hx:Stab rs (delG g t) (get G5) o x):EffV P N rs g o (get ((t,x)::G5)):=by
 have:=h.extra hrs (by simp [delG]) hg1 ht hx
 rwa [upd_delG hg,get_cons] at this
end
end Go.Own
namespace Go.Own
open Go Go.Proofs Go.Shelf Go.Lib Go.Sort
set_option linter.unusedSectionVars false
variable [TB]
section
variable {α:Type}{e:En α}{P:Program}{w:World}
theorem CallOk.cl {N:Rm}{g:Gst}{o:Oper}{d m:Nat}{x:Operand}{tys:Array TypeId}{p:Place}{L r:List α}{G2:List (Nat × AV)}{f:FuncId}
  (hc:∀ (w:World) (ad:Addr) (n c:Nat) (news:List Value),news.length=n * e.z->n<=1000000000000->(∀ j u,news[j]?=some u->w.cell? (ad.add j)=some u)->(∀ u∈news,u.oneCell'=true) ->
   Calls P f #[.slice (some ad) n c] w fun e' w'=>∃ v' t,e'=.returned v'/\w'.ownsRow 0 t e.z v' n news/\(∀ c,v'.ownBlock=some c->w.heap.size<=c)/\Fr w w' fun _=>False)
  (hn:∀ (w:World) (n c:Nat),Calls P f #[.slice none n c] w fun e' w'=>e'=.returned (.slice none 0 0)/\w'=w)
  (ho:o.op=.call { callee:=.value (.func f),args:=#[x],argTypes:=tys }) (hd:o.dst=some d) (hx:Rd g x (.sub e.z p m (L.length - m))) (hp:atP g p=some (oR e L)) (hm:m<=L.length) (hfl:(rowc e (L.drop m)).all flatB=true) (h:cloneO (L.drop m)=some r) (hf:callT P f=true) (hez:Nat.blt 0 e.z=true)
  (hG:Trim false g (get G2) G2) (hg:get G2 d=none) (hN:N.ok d=true):CallOk P N g o d (get ((d,oR e r)::G2)):=by
 obtain ⟨hbig,rfl⟩:(L.drop m).length<=1000000000000/\r=L.drop m:=by
  unfold cloneO at h
  split at h
  ·rename_i hh; exact ⟨hh,(Option.some.inj h).symm⟩
  ·cases h
 have hl0:(L.drop m).length=L.length - m:=List.length_drop ..
 rw [hl0] at hbig
 intro w I T Fs h a ha hNs K Q hK
 obtain ⟨sa,sc,news,hsv,hl,hsa,hsn,hcs⟩:=(Src.sub (z:=e.z) (lo:=m) (m:=L.length - m) hp (by omega)).sound h (opd_sound h hx.opd ha)
 have hcut:((rowc e L).drop (m * e.z)).take ((L.length - m) * e.z)=rowc e (L.drop m):=by
  rw [rowc_drop,<- hl0,rowc_take_all]
 rw [hcut,flat_map hfl] at hcs
 have hrun:(execOp a.eval o).run P w=.ok (.enter f #[a.eval x]) w:=by
  simp [execOp,ho,resolve,Deferred.ofValue,Act.eval,invoke,callT_run hf]
 have hS2:=h.toC.keep hG.keep
 have fin:∀ (w':World) (v:Value) (t:TypeId),w'.ownsRow 0 t e.z v (L.drop m).length news->(∀ c,v.ownBlock=some c->w.heap.size<=c)->Fr w w' (fun _=>False)->K (a.put o.dst v) w':=by
  intro w' v t ho hb hfr
  have hsame:∀ c,c<w.heap.size->w'.heap[c]?=w.heap[c]?:=fun c hc=>hfr.block c hc fun h=>h
  have hS3:=hS2.world (w':=w') (fun t c hc=>hsame c (h.ltF t c hc.2)) (fun c hc=>hsame c (h.lt c hc)) hfr.size
  have hR:R w' I (RG w' T (get G2)) (oR e (L.drop m)) v (fun c=>v.ownBlock=some c):=by
   refine .own (Fs:=fun _=>E0) ho hcs.1 (fun k u hu=>hcs.2.1 k u hu) (fun k x u hx hu=>?_) (fun _ _ _ _ _ h=>h.elim) (fun _ _ _ h=>h.elim) (fun c=>⟨.inl,fun h=>h.elim id fun ⟨_,_,h⟩=>h.elim⟩)
   exact (((hcs.2.2 k x u hx hu).nr (rowc_nr e _ x (List.mem_of_getElem? hx))).frame (fun c hc=>hsame c (h.lt c hc)) (fun _ h=>h) fun _ _ h=>h) fun c hc=>hc.elim
  have hput:=hS3.put0 (d:=d) (x:=oR e (L.drop m)) (v:=v) hg (by rw [<- ha,hNs]; exact Rm.lt hN) (.tree hR) (fun t c hc hf=>by have:=hb c hc; have:=h.ltF t c hf.2; omega) (fun c hc hi=>by have:=hb c hc; have:=h.lt c hi; omega) (by intro z p n m new e; cases e)
  rw [get_cons] at hput
  refine hK _ _ v I _ (by rw [hd]; rfl) (by rw [hd]; simp [Act.put,ha]) hput ⟨hfr.mono fun _ _ h=>h.elim,fun _ h=>h,fun _ h=>.inl h,fun c hc=>?_⟩
  rcases upd_updF hc with ⟨t,_,h'⟩ | h'
  ·exact .inl ⟨t,h'⟩
  ·exact .inr (hb c h')
 unfold Oper.wp Oper.upon
 simp only [hrun]
 rw [hsv]
 cases sa with
 | none =>
  refine (hn w _ sc).mono ?_
  rintro e' w' ⟨rfl,rfl⟩
  have h0:L.length - m=0:=by
   by_cases hpos:0<L.length - m
   ·have:=hsa hpos (by simpa using hez); cases this
   ·omega
  refine fin w' _ 0 ⟨by rw [hl0]; exact hl,.inl ⟨rfl,by rw [hl0]; exact h0⟩⟩ (fun c hc=>by cases hc) (Fr.refl _ _)
 | some ad =>
  refine (hc w ad _ sc news hl hbig (fun j u hj=>hsn ad rfl j u hj) fun u hu=>by
   obtain ⟨j,hj⟩:=List.getElem?_of_mem hu
   exact hcs.2.1 j u hj).mono ?_
  rintro e' w' ⟨v',t,rfl,ho',hb,hfr⟩
  exact fin w' v' t (hl0 ▸ ho') hb hfr
theorem PC.cl' {g:Gst}{m:Nat}{x:Operand}{tys:Array TypeId}{p:Place}{L r:List α}{f:FuncId}
  (hc:∀ (w:World) (ad:Addr) (n c:Nat) (news:List Value),news.length=n * e.z->n<=1000000000000->(∀ j u,news[j]?=some u->w.cell? (ad.add j)=some u)->(∀ u∈news,u.oneCell'=true) ->
   Calls P f #[.slice (some ad) n c] w fun e' w'=>∃ v' t,e'=.returned v'/\w'.ownsRow 0 t e.z v' n news/\(∀ c,v'.ownBlock=some c->w.heap.size<=c)/\Fr w w' fun _=>False)
  (hn:∀ (w:World) (n c:Nat),Calls P f #[.slice none n c] w fun e' w'=>e'=.returned (.slice none 0 0)/\w'=w)
  (hx:Rd g x (.sub e.z p m (L.length - m))) (hp:atP g p=some (oR e L)) (hm:m<=L.length) (hfl:(rowc e (L.drop m)).all flatB=true) (h:cloneO (L.drop m)=some r) (hf:callT P f=true) (hez:Nat.blt 0 e.z=true) :
  PC P g (.call { callee:=.value (.func f),args:=#[x],argTypes:=tys }) (oR e r):=by
 obtain ⟨hbig,rfl⟩:(L.drop m).length<=1000000000000/\r=L.drop m:=by
  unfold cloneO at h
  split at h
  ·rename_i hh; exact ⟨hh,(Option.some.inj h).symm⟩
  ·cases h
 have hl0:(L.drop m).length=L.length - m:=List.length_drop ..
 have hcut:((rowc e L).drop (m * e.z)).take ((L.length - m) * e.z)=rowc e (L.drop m):=by
  rw [rowc_drop,<- hl0,rowc_take_all]
 have:=Src.sub (z:=e.z) (lo:=m) (m:=L.length - m) hp (by omega)
 rw [hcut,flat_map hfl] at this
 rw [hl0] at hbig
 show PC P g _ (.own e.z (L.drop m).length (rowc e (L.drop m)))
 rw [hl0]
 exact .cl hx.opd this (by simpa using hez) hf (rowc_nr e _) hbig hc hn
theorem all_flat {l:List α}(h:∀ a,(e.cells a).all flatB=true):(rowc e l).all flatB=true:=by
 rw [List.all_eq_true]
 intro x hx
 obtain ⟨a,_,ha⟩:=List.mem_flatMap.1 hx
 exact List.all_eq_true.1 (h a) x ha
end
end Go.Own
